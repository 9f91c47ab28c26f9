import Derived.Test.YtjmplnfiabmalaaGreatGd
import Derived.Test.YtjmplnfiabmalaaGreatRows
namespace Go.Sim
theorem K1 {p:Prop}(h:False:=by simp at *;omega):p:=h.elim
theorem K2 {p:Prop}(h:p:=by dsimp only;rw[IntWalk.i64_in _ (by omega)];rfl):p:=h
theorem K3 {p:Prop}(h:False:=by simp(disch:=omega)only[IntWalk.i64_in]at *;simp only[beq_iff_eq]at *;omega):p:=h.elim
theorem K4 {p:Prop}(h:False:=by simp only[beq_iff_eq]at *;omega):p:=h.elim
theorem K5 {p:Prop}(h:p:=by rw[IntWalk.i64_in _ (by omega)];rfl):p:=h
theorem K6 {p:Prop}(h:p:=by rw[IntWalk.i64_in _ (by omega)];omega):p:=h
theorem K7 {k:IntKind}{a b:Int}(h:a=b:=by dsimp only;rw[IntWalk.i64_in _ (by omega)];omega):Tr.int k a=Tr.int k b:=congrArg (Tr.int k) h
theorem K8 {p:Prop}(h:False:=by simp_all;omega):p:=h.elim
theorem KD {p:Prop}(h:p:=by dsimp only;omega):p:=h
end Go.Sim
namespace Go.Proofs.YtjmplnfiabmalaaGreat
open Go.Sim
def Γ:Env:=[
 (1,{size:=1,bytes:=8,agg:=false,zero:=[AC.opq]}),
 (2,{size:=1,bytes:=8,agg:=false,zero:=[AC.t (Tr.int Go.IntKind.i64 (Int.ofNat 0))],kind:=some Go.IntKind.i64}),
 (3,{size:=1,bytes:=8,agg:=false,zero:=[AC.t (Tr.int Go.IntKind.i64 (Int.ofNat 0))],kind:=some Go.IntKind.i64}),
 (4,{size:=1,bytes:=1,agg:=false,zero:=[AC.t (Tr.bool false)],bool:=true}),
 (5,{size:=1,bytes:=1,agg:=false,zero:=[AC.t (Tr.int Go.IntKind.u8 (Int.ofNat 0))],kind:=some Go.IntKind.u8}),
 (6,{size:=1,bytes:=1,agg:=false,zero:=[AC.t (Tr.int Go.IntKind.u8 (Int.ofNat 0))],kind:=some Go.IntKind.u8}),
 (7,{size:=4,bytes:=24,agg:=true,zero:=[AC.t (Tr.int Go.IntKind.i64 (Int.ofNat 0)),AC.t (Tr.int Go.IntKind.i64 (Int.ofNat 0)),AC.t (Tr.bool false),AC.t (Tr.int Go.IntKind.u8 (Int.ofNat 0))],fields:=[(0,1,2),(1,1,3),(2,1,4),(3,1,6)]}),
 (8,{size:=4,bytes:=24,agg:=true,zero:=[AC.t (Tr.int Go.IntKind.i64 (Int.ofNat 0)),AC.t (Tr.int Go.IntKind.i64 (Int.ofNat 0)),AC.t (Tr.bool false),AC.t (Tr.int Go.IntKind.u8 (Int.ofNat 0))],fields:=[(0,1,2),(1,1,3),(2,1,4),(3,1,6)]}),
 (9,{size:=1,bytes:=16,agg:=false,zero:=[AC.t (Tr.str [])],str:=true}),
 (10,{size:=1,bytes:=16,agg:=false,zero:=[AC.t (Tr.str [])],str:=true}),
 (11,{size:=1,bytes:=16,agg:=false,zero:=[AC.t (Tr.str [])],str:=true}),
 (12,{size:=1,bytes:=8,agg:=false,zero:=[AC.t (Tr.int Go.IntKind.u64 (Int.ofNat 0))],kind:=some Go.IntKind.u64}),
 (13,{size:=2,bytes:=24,agg:=true,zero:=[AC.t (Tr.str []),AC.t (Tr.int Go.IntKind.u64 (Int.ofNat 0))],fields:=[(0,1,9),(1,1,12)]}),
 (14,{size:=2,bytes:=24,agg:=true,zero:=[AC.t (Tr.str []),AC.t (Tr.int Go.IntKind.u64 (Int.ofNat 0))],fields:=[(0,1,9),(1,1,12)]}),
 (15,{size:=1,bytes:=8,agg:=false,zero:=[AC.nilp]}),
 (16,{size:=1,bytes:=8,agg:=false,zero:=[AC.nilp]}),
 (17,{size:=1,bytes:=8,agg:=false,zero:=[AC.nilp]}),
 (18,{size:=1,bytes:=8,agg:=true,zero:=[AC.nilp],fields:=[(0,1,17)]}),
 (19,{size:=1,bytes:=8,agg:=true,zero:=[AC.nilp],fields:=[(0,1,17)]}),
 (20,{size:=1,bytes:=16,agg:=false,zero:=[AC.opq]}),
 (21,{size:=1,bytes:=4,agg:=false,zero:=[AC.t (Tr.int Go.IntKind.i32 (Int.ofNat 0))],kind:=some Go.IntKind.i32}),
 (22,{size:=1,bytes:=24,agg:=false,zero:=[AC.nils 0],elem:=some 5}),
 (23,{size:=1,bytes:=8,agg:=false,zero:=[AC.opq]}),
 (24,{size:=1,bytes:=24,agg:=false,zero:=[AC.nils 0],elem:=some 135}),
 (25,{size:=4,bytes:=24,agg:=true,zero:=[AC.t (Tr.int Go.IntKind.i64 (Int.ofNat 0)),AC.t (Tr.int Go.IntKind.i64 (Int.ofNat 0)),AC.t (Tr.bool false),AC.t (Tr.bool false)],fields:=[(0,1,3),(1,1,3),(2,1,4),(3,1,4)]}),
 (26,{size:=4,bytes:=24,agg:=true,zero:=[AC.t (Tr.int Go.IntKind.i64 (Int.ofNat 0)),AC.t (Tr.int Go.IntKind.i64 (Int.ofNat 0)),AC.t (Tr.bool false),AC.t (Tr.bool false)],fields:=[(0,1,3),(1,1,3),(2,1,4),(3,1,4)]}),
 (28,{size:=1,bytes:=8,agg:=false,zero:=[AC.opq]}),
 (29,{size:=1,bytes:=24,agg:=false,zero:=[AC.nils 0],elem:=some 39}),
 (30,{size:=1,bytes:=8,agg:=false,zero:=[AC.opq]}),
 (31,{size:=1,bytes:=24,agg:=false,zero:=[AC.nils 0],elem:=some 42}),
 (32,{size:=1,bytes:=8,agg:=false,zero:=[AC.opq]}),
 (33,{size:=2,bytes:=16,agg:=true,zero:=[AC.t (Tr.int Go.IntKind.i64 (Int.ofNat 0)),AC.t (Tr.int Go.IntKind.i64 (Int.ofNat 0))],fields:=[(0,1,3),(1,1,3)]}),
 (34,{size:=2,bytes:=16,agg:=true,zero:=[AC.t (Tr.int Go.IntKind.i64 (Int.ofNat 0)),AC.t (Tr.int Go.IntKind.i64 (Int.ofNat 0))],fields:=[(0,1,3),(1,1,3)]}),
 (35,{size:=1,bytes:=24,agg:=false,zero:=[AC.nils 0],elem:=some 3}),
 (36,{size:=7,bytes:=72,agg:=true,zero:=[AC.t (Tr.int Go.IntKind.i64 (Int.ofNat 0)),AC.t (Tr.int Go.IntKind.i64 (Int.ofNat 0)),AC.t (Tr.int Go.IntKind.i64 (Int.ofNat 0)),AC.t (Tr.bool false),AC.nils 0,AC.t (Tr.int Go.IntKind.i64 (Int.ofNat 0)),AC.t (Tr.bool false)],fields:=[(0,2,34),(2,1,3),(3,1,4),(4,1,35),(5,1,3),(6,1,4)]}),
 (37,{size:=7,bytes:=72,agg:=true,zero:=[AC.t (Tr.int Go.IntKind.i64 (Int.ofNat 0)),AC.t (Tr.int Go.IntKind.i64 (Int.ofNat 0)),AC.t (Tr.int Go.IntKind.i64 (Int.ofNat 0)),AC.t (Tr.bool false),AC.nils 0,AC.t (Tr.int Go.IntKind.i64 (Int.ofNat 0)),AC.t (Tr.bool false)],fields:=[(0,2,34),(2,1,3),(3,1,4),(4,1,35),(5,1,3),(6,1,4)]}),
 (38,{size:=8,bytes:=80,agg:=true,zero:=[AC.t (Tr.int Go.IntKind.i64 (Int.ofNat 0)),AC.t (Tr.int Go.IntKind.i64 (Int.ofNat 0)),AC.t (Tr.int Go.IntKind.i64 (Int.ofNat 0)),AC.t (Tr.int Go.IntKind.i64 (Int.ofNat 0)),AC.t (Tr.bool false),AC.nils 0,AC.t (Tr.int Go.IntKind.i64 (Int.ofNat 0)),AC.t (Tr.bool false)],fields:=[(0,1,3),(1,7,37)]}),
 (39,{size:=8,bytes:=80,agg:=true,zero:=[AC.t (Tr.int Go.IntKind.i64 (Int.ofNat 0)),AC.t (Tr.int Go.IntKind.i64 (Int.ofNat 0)),AC.t (Tr.int Go.IntKind.i64 (Int.ofNat 0)),AC.t (Tr.int Go.IntKind.i64 (Int.ofNat 0)),AC.t (Tr.bool false),AC.nils 0,AC.t (Tr.int Go.IntKind.i64 (Int.ofNat 0)),AC.t (Tr.bool false)],fields:=[(0,1,3),(1,7,37)]}),
 (40,{size:=1,bytes:=8,agg:=false,zero:=[AC.opq]}),
 (41,{size:=5,bytes:=48,agg:=true,zero:=[AC.t (Tr.int Go.IntKind.i64 (Int.ofNat 0)),AC.t (Tr.int Go.IntKind.i64 (Int.ofNat 0)),AC.t (Tr.int Go.IntKind.i64 (Int.ofNat 0)),AC.t (Tr.int Go.IntKind.i64 (Int.ofNat 0)),AC.t (Tr.str [])],fields:=[(0,1,3),(1,1,3),(2,1,3),(3,1,3),(4,1,9)]}),
 (42,{size:=5,bytes:=48,agg:=true,zero:=[AC.t (Tr.int Go.IntKind.i64 (Int.ofNat 0)),AC.t (Tr.int Go.IntKind.i64 (Int.ofNat 0)),AC.t (Tr.int Go.IntKind.i64 (Int.ofNat 0)),AC.t (Tr.int Go.IntKind.i64 (Int.ofNat 0)),AC.t (Tr.str [])],fields:=[(0,1,3),(1,1,3),(2,1,3),(3,1,3),(4,1,9)]}),
 (43,{size:=1,bytes:=8,agg:=false,zero:=[AC.opq]}),
 (45,{size:=1,bytes:=8,agg:=false,zero:=[AC.opq]}),
 (46,{size:=1,bytes:=8,agg:=false,zero:=[AC.opq]}),
 (47,{size:=1,bytes:=8,agg:=false,zero:=[AC.opq]}),
 (48,{size:=1,bytes:=8,agg:=false,zero:=[AC.opq]}),
 (49,{size:=1,bytes:=24,agg:=false,zero:=[AC.nils 0],elem:=some 83}),
 (50,{size:=3,bytes:=72,agg:=true,zero:=[AC.nils 0,AC.nils 0,AC.nils 0],fields:=[(0,1,49),(1,1,35),(2,1,35)]}),
 (51,{size:=3,bytes:=72,agg:=true,zero:=[AC.nils 0,AC.nils 0,AC.nils 0],fields:=[(0,1,49),(1,1,35),(2,1,35)]}),
 (53,{size:=1,bytes:=8,agg:=false,zero:=[AC.opq]}),
 (54,{size:=7,bytes:=88,agg:=true,zero:=[AC.t (Tr.int Go.IntKind.i64 (Int.ofNat 0)),AC.t (Tr.int Go.IntKind.i64 (Int.ofNat 0)),AC.t (Tr.int Go.IntKind.i64 (Int.ofNat 0)),AC.nils 0,AC.nils 0,AC.t (Tr.int Go.IntKind.i64 (Int.ofNat 0)),AC.t (Tr.int Go.IntKind.i64 (Int.ofNat 0))],fields:=[(0,1,3),(1,1,3),(2,1,3),(3,1,35),(4,1,35),(5,1,3),(6,1,3)]}),
 (55,{size:=7,bytes:=88,agg:=true,zero:=[AC.t (Tr.int Go.IntKind.i64 (Int.ofNat 0)),AC.t (Tr.int Go.IntKind.i64 (Int.ofNat 0)),AC.t (Tr.int Go.IntKind.i64 (Int.ofNat 0)),AC.nils 0,AC.nils 0,AC.t (Tr.int Go.IntKind.i64 (Int.ofNat 0)),AC.t (Tr.int Go.IntKind.i64 (Int.ofNat 0))],fields:=[(0,1,3),(1,1,3),(2,1,3),(3,1,35),(4,1,35),(5,1,3),(6,1,3)]}),
 (57,{size:=1,bytes:=8,agg:=false,zero:=[AC.opq]}),
 (58,{size:=1,bytes:=8,agg:=false,zero:=[AC.opq]}),
 (60,{size:=1,bytes:=8,agg:=false,zero:=[AC.opq]}),
 (61,{size:=1,bytes:=8,agg:=false,zero:=[AC.opq]}),
 (62,{size:=1,bytes:=8,agg:=false,zero:=[AC.opq]}),
 (64,{size:=1,bytes:=8,agg:=false,zero:=[AC.opq]}),
 (65,{size:=1,bytes:=8,agg:=false,zero:=[AC.opq]}),
 (67,{size:=1,bytes:=8,agg:=false,zero:=[AC.opq]}),
 (69,{size:=1,bytes:=8,agg:=false,zero:=[AC.opq]}),
 (70,{size:=1,bytes:=8,agg:=false,zero:=[AC.opq]}),
 (71,{size:=1,bytes:=8,agg:=false,zero:=[AC.opq]}),
 (72,{size:=1,bytes:=24,agg:=false,zero:=[AC.nils 0],elem:=some 96}),
 (73,{size:=1,bytes:=24,agg:=false,zero:=[AC.nils 0],elem:=some 174}),
 (74,{size:=1,bytes:=24,agg:=false,zero:=[AC.nils 0],elem:=some 176}),
 (75,{size:=5,bytes:=104,agg:=true,zero:=[AC.t (Tr.int Go.IntKind.i64 (Int.ofNat 0)),AC.nils 0,AC.nils 0,AC.nils 0,AC.nils 0],fields:=[(0,1,3),(1,1,72),(2,1,73),(3,1,74),(4,1,31)]}),
 (76,{size:=5,bytes:=104,agg:=true,zero:=[AC.t (Tr.int Go.IntKind.i64 (Int.ofNat 0)),AC.nils 0,AC.nils 0,AC.nils 0,AC.nils 0],fields:=[(0,1,3),(1,1,72),(2,1,73),(3,1,74),(4,1,31)]}),
 (77,{size:=1,bytes:=8,agg:=false,zero:=[AC.opq]}),
 (78,{size:=1,bytes:=8,agg:=false,zero:=[AC.opq]}),
 (80,{size:=1,bytes:=8,agg:=false,zero:=[AC.opq]}),
 (81,{size:=1,bytes:=8,agg:=false,zero:=[AC.opq]}),
 (82,{size:=2,bytes:=40,agg:=true,zero:=[AC.t (Tr.str []),AC.nils 0],fields:=[(0,1,9),(1,1,72)]}),
 (83,{size:=2,bytes:=40,agg:=true,zero:=[AC.t (Tr.str []),AC.nils 0],fields:=[(0,1,9),(1,1,72)]}),
 (84,{size:=1,bytes:=8,agg:=false,zero:=[AC.opq]}),
 (85,{size:=1,bytes:=8,agg:=false,zero:=[AC.opq]}),
 (86,{size:=1,bytes:=8,agg:=false,zero:=[AC.opq]}),
 (87,{size:=1,bytes:=8,agg:=false,zero:=[AC.opq]}),
 (88,{size:=1,bytes:=8,agg:=false,zero:=[AC.opq]}),
 (89,{size:=1,bytes:=8,agg:=false,zero:=[AC.opq]}),
 (90,{size:=1,bytes:=24,agg:=false,zero:=[AC.nils 0],elem:=some 94}),
 (92,{size:=1,bytes:=8,agg:=false,zero:=[AC.opq]}),
 (93,{size:=2,bytes:=24,agg:=true,zero:=[AC.t (Tr.str []),AC.t (Tr.int Go.IntKind.i64 (Int.ofNat 0))],fields:=[(0,1,9),(1,1,3)]}),
 (94,{size:=2,bytes:=24,agg:=true,zero:=[AC.t (Tr.str []),AC.t (Tr.int Go.IntKind.i64 (Int.ofNat 0))],fields:=[(0,1,9),(1,1,3)]}),
 (95,{size:=3,bytes:=32,agg:=true,zero:=[AC.t (Tr.str []),AC.t (Tr.int Go.IntKind.i64 (Int.ofNat 0)),AC.t (Tr.int Go.IntKind.i64 (Int.ofNat 0))],fields:=[(0,1,9),(1,1,3),(2,1,3)]}),
 (96,{size:=3,bytes:=32,agg:=true,zero:=[AC.t (Tr.str []),AC.t (Tr.int Go.IntKind.i64 (Int.ofNat 0)),AC.t (Tr.int Go.IntKind.i64 (Int.ofNat 0))],fields:=[(0,1,9),(1,1,3),(2,1,3)]}),
 (97,{size:=1,bytes:=8,agg:=false,zero:=[AC.opq]}),
 (98,{size:=1,bytes:=24,agg:=false,zero:=[AC.nils 0],elem:=some 73}),
 (100,{size:=1,bytes:=8,agg:=false,zero:=[AC.opq]}),
 (101,{size:=4,bytes:=48,agg:=true,zero:=[AC.t (Tr.int Go.IntKind.i64 (Int.ofNat 0)),AC.t (Tr.int Go.IntKind.i64 (Int.ofNat 0)),AC.t (Tr.int Go.IntKind.i64 (Int.ofNat 0)),AC.nils 0],fields:=[(0,1,3),(1,1,3),(2,1,3),(3,1,35)]}),
 (102,{size:=4,bytes:=48,agg:=true,zero:=[AC.t (Tr.int Go.IntKind.i64 (Int.ofNat 0)),AC.t (Tr.int Go.IntKind.i64 (Int.ofNat 0)),AC.t (Tr.int Go.IntKind.i64 (Int.ofNat 0)),AC.nils 0],fields:=[(0,1,3),(1,1,3),(2,1,3),(3,1,35)]}),
 (103,{size:=1,bytes:=8,agg:=false,zero:=[AC.opq]}),
 (105,{size:=1,bytes:=8,agg:=false,zero:=[AC.opq]}),
 (106,{size:=1,bytes:=8,agg:=false,zero:=[AC.opq]}),
 (107,{size:=1,bytes:=24,agg:=false,zero:=[AC.nils 0],elem:=some 186}),
 (108,{size:=4,bytes:=24,agg:=true,zero:=[AC.t (Tr.int Go.IntKind.i64 (Int.ofNat 0)),AC.t (Tr.int Go.IntKind.i64 (Int.ofNat 0)),AC.t (Tr.bool false),AC.t (Tr.bool false)],fields:=[(0,1,3),(1,1,3),(2,1,4),(3,1,4)]}),
 (109,{size:=1,bytes:=8,agg:=false,zero:=[AC.opq]}),
 (110,{size:=1,bytes:=8,agg:=false,zero:=[AC.opq]}),
 (111,{size:=1,bytes:=8,agg:=false,zero:=[AC.opq]}),
 (112,{size:=1,bytes:=8,agg:=false,zero:=[AC.opq]}),
 (113,{size:=1,bytes:=8,agg:=false,zero:=[AC.opq]}),
 (114,{size:=1,bytes:=8,agg:=false,zero:=[AC.opq]}),
 (115,{size:=1,bytes:=8,agg:=false,zero:=[AC.opq]}),
 (116,{size:=1,bytes:=8,agg:=false,zero:=[AC.opq]}),
 (117,{size:=1,bytes:=8,agg:=false,zero:=[AC.opq]}),
 (118,{size:=1,bytes:=8,agg:=false,zero:=[AC.opq]}),
 (119,{size:=1,bytes:=8,agg:=false,zero:=[AC.nilp]}),
 (120,{size:=1,bytes:=8,agg:=false,zero:=[AC.opq]}),
 (121,{size:=1,bytes:=8,agg:=false,zero:=[AC.opq]}),
 (122,{size:=1,bytes:=8,agg:=false,zero:=[AC.opq]}),
 (123,{size:=1,bytes:=8,agg:=false,zero:=[AC.opq]}),
 (124,{size:=1,bytes:=8,agg:=false,zero:=[AC.opq]}),
 (125,{size:=1,bytes:=8,agg:=false,zero:=[AC.opq]}),
 (126,{size:=1,bytes:=8,agg:=false,zero:=[AC.opq]}),
 (127,{size:=1,bytes:=24,agg:=false,zero:=[AC.nils 0],elem:=some 37}),
 (128,{size:=1,bytes:=8,agg:=false,zero:=[AC.opq]}),
 (129,{size:=1,bytes:=8,agg:=false,zero:=[AC.opq]}),
 (130,{size:=1,bytes:=8,agg:=false,zero:=[AC.opq]}),
 (131,{size:=1,bytes:=8,agg:=false,zero:=[AC.opq]}),
 (132,{size:=1,bytes:=24,agg:=false,zero:=[AC.nils 0],elem:=some 9}),
 (133,{size:=1,bytes:=24,agg:=false,zero:=[AC.nils 0],elem:=some 201}),
 (134,{size:=4,bytes:=72,agg:=true,zero:=[AC.t (Tr.int Go.IntKind.i64 (Int.ofNat 0)),AC.t (Tr.str []),AC.nils 0,AC.nils 0],fields:=[(0,1,3),(1,1,9),(2,1,132),(3,1,133)]}),
 (135,{size:=4,bytes:=72,agg:=true,zero:=[AC.t (Tr.int Go.IntKind.i64 (Int.ofNat 0)),AC.t (Tr.str []),AC.nils 0,AC.nils 0],fields:=[(0,1,3),(1,1,9),(2,1,132),(3,1,133)]}),
 (137,{size:=1,bytes:=8,agg:=false,zero:=[AC.opq]}),
 (139,{size:=1,bytes:=8,agg:=false,zero:=[AC.opq]}),
 (141,{size:=1,bytes:=8,agg:=false,zero:=[AC.opq]}),
 (142,{size:=1,bytes:=8,agg:=false,zero:=[AC.opq]}),
 (143,{size:=1,bytes:=8,agg:=false,zero:=[AC.opq]}),
 (144,{size:=1,bytes:=8,agg:=false,zero:=[AC.opq]}),
 (145,{size:=1,bytes:=8,agg:=false,zero:=[AC.opq]}),
 (146,{size:=1,bytes:=8,agg:=false,zero:=[AC.opq]}),
 (147,{size:=1,bytes:=8,agg:=false,zero:=[AC.opq]}),
 (148,{size:=1,bytes:=8,agg:=false,zero:=[AC.opq]}),
 (149,{size:=1,bytes:=8,agg:=false,zero:=[AC.opq]}),
 (150,{size:=1,bytes:=8,agg:=false,zero:=[AC.opq]}),
 (151,{size:=1,bytes:=8,agg:=false,zero:=[AC.opq]}),
 (152,{size:=1,bytes:=8,agg:=false,zero:=[AC.opq]}),
 (153,{size:=1,bytes:=8,agg:=false,zero:=[AC.opq]}),
 (154,{size:=1,bytes:=8,agg:=false,zero:=[AC.opq]}),
 (155,{size:=1,bytes:=8,agg:=false,zero:=[AC.opq]}),
 (156,{size:=1,bytes:=8,agg:=false,zero:=[AC.opq]}),
 (157,{size:=1,bytes:=8,agg:=false,zero:=[AC.opq]}),
 (158,{size:=1,bytes:=8,agg:=false,zero:=[AC.opq]}),
 (159,{size:=1,bytes:=8,agg:=false,zero:=[AC.nilp]}),
 (160,{size:=3,bytes:=32,agg:=true,zero:=[AC.t (Tr.str []),AC.t (Tr.int Go.IntKind.i64 (Int.ofNat 0)),AC.t (Tr.bool false)],fields:=[(0,1,9),(1,1,3),(2,1,4)]}),
 (161,{size:=3,bytes:=32,agg:=true,zero:=[AC.t (Tr.str []),AC.t (Tr.int Go.IntKind.i64 (Int.ofNat 0)),AC.t (Tr.bool false)],fields:=[(0,1,9),(1,1,3),(2,1,4)]}),
 (162,{size:=1,bytes:=8,agg:=false,zero:=[AC.opq]}),
 (163,{size:=1,bytes:=8,agg:=false,zero:=[AC.opq]}),
 (164,{size:=1,bytes:=8,agg:=false,zero:=[AC.opq]}),
 (166,{size:=1,bytes:=8,agg:=false,zero:=[AC.opq]}),
 (168,{size:=1,bytes:=8,agg:=false,zero:=[AC.opq]}),
 (169,{size:=1,bytes:=8,agg:=false,zero:=[AC.opq]}),
 (170,{size:=1,bytes:=8,agg:=false,zero:=[AC.opq]}),
 (171,{size:=1,bytes:=8,agg:=false,zero:=[AC.opq]}),
 (172,{size:=1,bytes:=8,agg:=false,zero:=[AC.opq]}),
 (173,{size:=4,bytes:=32,agg:=true,zero:=[AC.t (Tr.int Go.IntKind.i64 (Int.ofNat 0)),AC.t (Tr.int Go.IntKind.i64 (Int.ofNat 0)),AC.t (Tr.bool false),AC.t (Tr.int Go.IntKind.i64 (Int.ofNat 0))],fields:=[(0,1,3),(1,1,3),(2,1,4),(3,1,3)]}),
 (174,{size:=4,bytes:=32,agg:=true,zero:=[AC.t (Tr.int Go.IntKind.i64 (Int.ofNat 0)),AC.t (Tr.int Go.IntKind.i64 (Int.ofNat 0)),AC.t (Tr.bool false),AC.t (Tr.int Go.IntKind.i64 (Int.ofNat 0))],fields:=[(0,1,3),(1,1,3),(2,1,4),(3,1,3)]}),
 (175,{size:=3,bytes:=24,agg:=true,zero:=[AC.t (Tr.int Go.IntKind.i64 (Int.ofNat 0)),AC.t (Tr.int Go.IntKind.i64 (Int.ofNat 0)),AC.t (Tr.bool false)],fields:=[(0,1,3),(1,1,3),(2,1,4)]}),
 (176,{size:=3,bytes:=24,agg:=true,zero:=[AC.t (Tr.int Go.IntKind.i64 (Int.ofNat 0)),AC.t (Tr.int Go.IntKind.i64 (Int.ofNat 0)),AC.t (Tr.bool false)],fields:=[(0,1,3),(1,1,3),(2,1,4)]}),
 (177,{size:=1,bytes:=8,agg:=false,zero:=[AC.opq]}),
 (178,{size:=1,bytes:=8,agg:=false,zero:=[AC.opq]}),
 (179,{size:=1,bytes:=8,agg:=false,zero:=[AC.opq]}),
 (181,{size:=1,bytes:=8,agg:=false,zero:=[AC.opq]}),
 (182,{size:=1,bytes:=8,agg:=false,zero:=[AC.opq]}),
 (183,{size:=1,bytes:=8,agg:=false,zero:=[AC.opq]}),
 (184,{size:=1,bytes:=24,agg:=false,zero:=[AC.nils 0],elem:=some 262}),
 (185,{size:=4,bytes:=72,agg:=true,zero:=[AC.t (Tr.int Go.IntKind.i64 (Int.ofNat 0)),AC.t (Tr.str []),AC.nils 0,AC.nils 0],fields:=[(0,1,3),(1,1,9),(2,1,132),(3,1,184)]}),
 (186,{size:=4,bytes:=72,agg:=true,zero:=[AC.t (Tr.int Go.IntKind.i64 (Int.ofNat 0)),AC.t (Tr.str []),AC.nils 0,AC.nils 0],fields:=[(0,1,3),(1,1,9),(2,1,132),(3,1,184)]}),
 (187,{size:=1,bytes:=8,agg:=false,zero:=[AC.opq]}),
 (188,{size:=1,bytes:=24,agg:=false,zero:=[AC.nils 0],elem:=some 29}),
 (190,{size:=1,bytes:=8,agg:=false,zero:=[AC.opq]}),
 (191,{size:=1,bytes:=8,agg:=false,zero:=[AC.opq]}),
 (192,{size:=1,bytes:=8,agg:=false,zero:=[AC.opq]}),
 (193,{size:=1,bytes:=8,agg:=false,zero:=[AC.opq]}),
 (194,{size:=1,bytes:=8,agg:=false,zero:=[AC.opq]}),
 (195,{size:=1,bytes:=8,agg:=false,zero:=[AC.opq]}),
 (196,{size:=1,bytes:=8,agg:=false,zero:=[AC.opq]}),
 (197,{size:=1,bytes:=8,agg:=false,zero:=[AC.opq]}),
 (198,{size:=3,bytes:=40,agg:=true,zero:=[AC.nils 0,AC.t (Tr.int Go.IntKind.i64 (Int.ofNat 0)),AC.t (Tr.int Go.IntKind.i64 (Int.ofNat 0))],fields:=[(0,1,22),(1,1,3),(2,1,3)]}),
 (199,{size:=3,bytes:=40,agg:=true,zero:=[AC.nils 0,AC.t (Tr.int Go.IntKind.i64 (Int.ofNat 0)),AC.t (Tr.int Go.IntKind.i64 (Int.ofNat 0))],fields:=[(0,1,22),(1,1,3),(2,1,3)]}),
 (200,{size:=3,bytes:=32,agg:=true,zero:=[AC.t (Tr.int Go.IntKind.i64 (Int.ofNat 0)),AC.t (Tr.int Go.IntKind.i64 (Int.ofNat 0)),AC.t (Tr.str [])],fields:=[(0,1,3),(1,1,3),(2,1,9)]}),
 (201,{size:=3,bytes:=32,agg:=true,zero:=[AC.t (Tr.int Go.IntKind.i64 (Int.ofNat 0)),AC.t (Tr.int Go.IntKind.i64 (Int.ofNat 0)),AC.t (Tr.str [])],fields:=[(0,1,3),(1,1,3),(2,1,9)]}),
 (202,{size:=1,bytes:=8,agg:=false,zero:=[AC.opq]}),
 (203,{size:=1,bytes:=8,agg:=false,zero:=[AC.opq]}),
 (204,{size:=1,bytes:=8,agg:=false,zero:=[AC.opq]}),
 (205,{size:=1,bytes:=8,agg:=false,zero:=[AC.opq]}),
 (207,{size:=1,bytes:=8,agg:=false,zero:=[AC.opq]}),
 (208,{size:=1,bytes:=8,agg:=false,zero:=[AC.opq]}),
 (209,{size:=1,bytes:=8,agg:=false,zero:=[AC.opq]}),
 (210,{size:=1,bytes:=8,agg:=false,zero:=[AC.t (Tr.int Go.IntKind.u64 (Int.ofNat 0))],kind:=some Go.IntKind.u64}),
 (211,{size:=1,bytes:=8,agg:=false,zero:=[AC.opq]}),
 (212,{size:=1,bytes:=8,agg:=false,zero:=[AC.nilp]}),
 (213,{size:=1,bytes:=8,agg:=false,zero:=[AC.nilp]}),
 (214,{size:=2,bytes:=16,agg:=true,zero:=[AC.nilp,AC.t (Tr.bool false)],fields:=[(0,1,213),(1,1,4)]}),
 (215,{size:=2,bytes:=16,agg:=true,zero:=[AC.nilp,AC.t (Tr.bool false)],fields:=[(0,1,213),(1,1,4)]}),
 (216,{size:=1,bytes:=8,agg:=false,zero:=[AC.opq]}),
 (217,{size:=1,bytes:=8,agg:=false,zero:=[AC.opq]}),
 (218,{size:=1,bytes:=8,agg:=false,zero:=[AC.nilp]}),
 (219,{size:=8,bytes:=96,agg:=true,zero:=[AC.t (Tr.int Go.IntKind.i64 (Int.ofNat 0)),AC.t (Tr.int Go.IntKind.i64 (Int.ofNat 0)),AC.t (Tr.int Go.IntKind.i64 (Int.ofNat 0)),AC.nils 0,AC.nils 0,AC.t (Tr.int Go.IntKind.i64 (Int.ofNat 0)),AC.t (Tr.int Go.IntKind.i64 (Int.ofNat 0)),AC.t (Tr.bool false)],fields:=[(0,7,55),(7,1,4)]}),
 (220,{size:=8,bytes:=96,agg:=true,zero:=[AC.t (Tr.int Go.IntKind.i64 (Int.ofNat 0)),AC.t (Tr.int Go.IntKind.i64 (Int.ofNat 0)),AC.t (Tr.int Go.IntKind.i64 (Int.ofNat 0)),AC.nils 0,AC.nils 0,AC.t (Tr.int Go.IntKind.i64 (Int.ofNat 0)),AC.t (Tr.int Go.IntKind.i64 (Int.ofNat 0)),AC.t (Tr.bool false)],fields:=[(0,7,55),(7,1,4)]}),
 (221,{size:=1,bytes:=8,agg:=false,zero:=[AC.opq]}),
 (222,{size:=1,bytes:=24,agg:=false,zero:=[AC.nils 0],elem:=some 34}),
 (224,{size:=1,bytes:=8,agg:=false,zero:=[AC.opq]}),
 (225,{size:=1,bytes:=8,agg:=false,zero:=[AC.opq]}),
 (226,{size:=1,bytes:=8,agg:=false,zero:=[AC.opq]}),
 (227,{size:=1,bytes:=8,agg:=false,zero:=[AC.opq]}),
 (228,{size:=1,bytes:=8,agg:=false,zero:=[AC.opq]}),
 (229,{size:=1,bytes:=8,agg:=false,zero:=[AC.opq]}),
 (230,{size:=1,bytes:=8,agg:=false,zero:=[AC.opq]}),
 (231,{size:=1,bytes:=8,agg:=false,zero:=[AC.opq]}),
 (232,{size:=1,bytes:=8,agg:=false,zero:=[AC.opq]}),
 (233,{size:=1,bytes:=8,agg:=false,zero:=[AC.opq]}),
 (234,{size:=1,bytes:=8,agg:=false,zero:=[AC.opq]}),
 (235,{size:=1,bytes:=8,agg:=false,zero:=[AC.opq]}),
 (236,{size:=1,bytes:=8,agg:=false,zero:=[AC.opq]}),
 (237,{size:=1,bytes:=8,agg:=false,zero:=[AC.opq]}),
 (238,{size:=1,bytes:=8,agg:=false,zero:=[AC.opq]}),
 (239,{size:=1,bytes:=8,agg:=false,zero:=[AC.opq]}),
 (240,{size:=1,bytes:=8,agg:=false,zero:=[AC.opq]}),
 (241,{size:=1,bytes:=8,agg:=false,zero:=[AC.opq]}),
 (242,{size:=1,bytes:=8,agg:=false,zero:=[AC.nilp]}),
 (243,{size:=4,bytes:=80,agg:=true,zero:=[AC.nilp,AC.nils 0,AC.nils 0,AC.nils 0],fields:=[(0,1,119),(1,1,132),(2,1,132),(3,1,35)]}),
 (244,{size:=4,bytes:=80,agg:=true,zero:=[AC.nilp,AC.nils 0,AC.nils 0,AC.nils 0],fields:=[(0,1,119),(1,1,132),(2,1,132),(3,1,35)]}),
 (245,{size:=1,bytes:=8,agg:=false,zero:=[AC.opq]}),
 (246,{size:=1,bytes:=8,agg:=false,zero:=[AC.opq]}),
 (247,{size:=1,bytes:=8,agg:=false,zero:=[AC.opq]}),
 (248,{size:=1,bytes:=8,agg:=false,zero:=[AC.nilp]}),
 (249,{size:=1,bytes:=24,agg:=false,zero:=[AC.nils 0],elem:=some 253}),
 (250,{size:=13,bytes:=144,agg:=true,zero:=[AC.nils 0,AC.t (Tr.int Go.IntKind.i64 (Int.ofNat 0)),AC.t (Tr.int Go.IntKind.i64 (Int.ofNat 0)),AC.t (Tr.bool false),AC.t (Tr.bool false),AC.t (Tr.bool false),AC.t (Tr.int Go.IntKind.i64 (Int.ofNat 0)),AC.t (Tr.int Go.IntKind.i64 (Int.ofNat 0)),AC.t (Tr.int Go.IntKind.i64 (Int.ofNat 0)),AC.t (Tr.int Go.IntKind.i64 (Int.ofNat 0)),AC.nils 0,AC.nils 0,AC.t (Tr.bool false)],fields:=[(0,1,24),(1,4,26),(5,1,4),(6,1,3),(7,1,3),(8,1,3),(9,1,3),(10,1,127),(11,1,249),(12,1,4)]}),
 (251,{size:=13,bytes:=144,agg:=true,zero:=[AC.nils 0,AC.t (Tr.int Go.IntKind.i64 (Int.ofNat 0)),AC.t (Tr.int Go.IntKind.i64 (Int.ofNat 0)),AC.t (Tr.bool false),AC.t (Tr.bool false),AC.t (Tr.bool false),AC.t (Tr.int Go.IntKind.i64 (Int.ofNat 0)),AC.t (Tr.int Go.IntKind.i64 (Int.ofNat 0)),AC.t (Tr.int Go.IntKind.i64 (Int.ofNat 0)),AC.t (Tr.int Go.IntKind.i64 (Int.ofNat 0)),AC.nils 0,AC.nils 0,AC.t (Tr.bool false)],fields:=[(0,1,24),(1,4,26),(5,1,4),(6,1,3),(7,1,3),(8,1,3),(9,1,3),(10,1,127),(11,1,249),(12,1,4)]}),
 (252,{size:=6,bytes:=96,agg:=true,zero:=[AC.t (Tr.int Go.IntKind.i64 (Int.ofNat 0)),AC.nils 0,AC.nils 0,AC.t (Tr.int Go.IntKind.i64 (Int.ofNat 0)),AC.t (Tr.bool false),AC.nils 0],fields:=[(0,1,3),(1,1,35),(2,1,132),(3,1,3),(4,1,4),(5,1,35)]}),
 (253,{size:=6,bytes:=96,agg:=true,zero:=[AC.t (Tr.int Go.IntKind.i64 (Int.ofNat 0)),AC.nils 0,AC.nils 0,AC.t (Tr.int Go.IntKind.i64 (Int.ofNat 0)),AC.t (Tr.bool false),AC.nils 0],fields:=[(0,1,3),(1,1,35),(2,1,132),(3,1,3),(4,1,4),(5,1,35)]}),
 (254,{size:=1,bytes:=8,agg:=false,zero:=[AC.opq]}),
 (255,{size:=1,bytes:=8,agg:=false,zero:=[AC.opq]}),
 (256,{size:=1,bytes:=8,agg:=false,zero:=[AC.opq]}),
 (257,{size:=1,bytes:=8,agg:=false,zero:=[AC.opq]}),
 (258,{size:=1,bytes:=8,agg:=false,zero:=[AC.opq]}),
 (259,{size:=1,bytes:=8,agg:=false,zero:=[AC.opq]}),
 (260,{size:=1,bytes:=8,agg:=false,zero:=[AC.opq]}),
 (261,{size:=1,bytes:=8,agg:=false,zero:=[AC.opq]}),
 (262,{size:=3,bytes:=32,agg:=true,zero:=[AC.t (Tr.int Go.IntKind.i64 (Int.ofNat 0)),AC.t (Tr.int Go.IntKind.i64 (Int.ofNat 0)),AC.t (Tr.str [])],fields:=[(0,1,3),(1,1,3),(2,1,9)]}),
 (263,{size:=1,bytes:=8,agg:=false,zero:=[AC.opq]}),
 (264,{size:=1,bytes:=8,agg:=false,zero:=[AC.opq]}),
 (265,{size:=1,bytes:=8,agg:=false,zero:=[AC.opq]}),
 (266,{size:=1,bytes:=8,agg:=false,zero:=[AC.opq]}),
 (267,{size:=1,bytes:=8,agg:=false,zero:=[AC.opq]}),
 (268,{size:=1,bytes:=8,agg:=false,zero:=[AC.opq]}),
 (269,{size:=1,bytes:=8,agg:=false,zero:=[AC.opq]}),
 (270,{size:=1,bytes:=24,agg:=false,zero:=[AC.nils 0],elem:=some 273}),
 (271,{size:=1,bytes:=8,agg:=false,zero:=[AC.opq]}),
 (272,{size:=2,bytes:=16,agg:=true,zero:=[AC.t (Tr.int Go.IntKind.i64 (Int.ofNat 0)),AC.t (Tr.int Go.IntKind.i64 (Int.ofNat 0))],fields:=[(0,1,3),(1,1,3)]}),
 (273,{size:=2,bytes:=16,agg:=true,zero:=[AC.t (Tr.int Go.IntKind.i64 (Int.ofNat 0)),AC.t (Tr.int Go.IntKind.i64 (Int.ofNat 0))],fields:=[(0,1,3),(1,1,3)]}),
 (274,{size:=1,bytes:=8,agg:=false,zero:=[AC.opq]}),
 (275,{size:=1,bytes:=8,agg:=false,zero:=[AC.opq]}),
 (276,{size:=1,bytes:=8,agg:=false,zero:=[AC.opq]}),
 (277,{size:=1,bytes:=8,agg:=false,zero:=[AC.opq]}),
 (278,{size:=1,bytes:=8,agg:=false,zero:=[AC.opq]}),
 (279,{size:=1,bytes:=8,agg:=false,zero:=[AC.nilp]}),
 (280,{size:=11,bytes:=128,agg:=true,zero:=[AC.nils 0,AC.t (Tr.int Go.IntKind.i64 (Int.ofNat 0)),AC.t (Tr.int Go.IntKind.i64 (Int.ofNat 0)),AC.t (Tr.bool false),AC.t (Tr.bool false),AC.t (Tr.bool false),AC.t (Tr.int Go.IntKind.i64 (Int.ofNat 0)),AC.t (Tr.int Go.IntKind.i64 (Int.ofNat 0)),AC.nils 0,AC.t (Tr.int Go.IntKind.i64 (Int.ofNat 0)),AC.nils 0],fields:=[(0,1,24),(1,4,26),(5,1,4),(6,1,3),(7,1,3),(8,1,127),(9,1,3),(10,1,35)]}),
 (281,{size:=11,bytes:=128,agg:=true,zero:=[AC.nils 0,AC.t (Tr.int Go.IntKind.i64 (Int.ofNat 0)),AC.t (Tr.int Go.IntKind.i64 (Int.ofNat 0)),AC.t (Tr.bool false),AC.t (Tr.bool false),AC.t (Tr.bool false),AC.t (Tr.int Go.IntKind.i64 (Int.ofNat 0)),AC.t (Tr.int Go.IntKind.i64 (Int.ofNat 0)),AC.nils 0,AC.t (Tr.int Go.IntKind.i64 (Int.ofNat 0)),AC.nils 0],fields:=[(0,1,24),(1,4,26),(5,1,4),(6,1,3),(7,1,3),(8,1,127),(9,1,3),(10,1,35)]}),
 (282,{size:=1,bytes:=8,agg:=false,zero:=[AC.nilp]}),
 (283,{size:=8,bytes:=112,agg:=true,zero:=[AC.t (Tr.int Go.IntKind.i64 (Int.ofNat 0)),AC.t (Tr.int Go.IntKind.i64 (Int.ofNat 0)),AC.nils 0,AC.t (Tr.int Go.IntKind.i64 (Int.ofNat 0)),AC.t (Tr.int Go.IntKind.i64 (Int.ofNat 0)),AC.nils 0,AC.t (Tr.int Go.IntKind.i64 (Int.ofNat 0)),AC.nils 0],fields:=[(0,1,3),(1,1,3),(2,1,132),(3,1,3),(4,1,3),(5,1,35),(6,1,3),(7,1,35)]}),
 (284,{size:=8,bytes:=112,agg:=true,zero:=[AC.t (Tr.int Go.IntKind.i64 (Int.ofNat 0)),AC.t (Tr.int Go.IntKind.i64 (Int.ofNat 0)),AC.nils 0,AC.t (Tr.int Go.IntKind.i64 (Int.ofNat 0)),AC.t (Tr.int Go.IntKind.i64 (Int.ofNat 0)),AC.nils 0,AC.t (Tr.int Go.IntKind.i64 (Int.ofNat 0)),AC.nils 0],fields:=[(0,1,3),(1,1,3),(2,1,132),(3,1,3),(4,1,3),(5,1,35),(6,1,3),(7,1,35)]}),
 (285,{size:=1,bytes:=8,agg:=false,zero:=[AC.opq]}),
 (286,{size:=1,bytes:=8,agg:=false,zero:=[AC.opq]}),
 (287,{size:=1,bytes:=8,agg:=false,zero:=[AC.opq]}),
 (288,{size:=1,bytes:=8,agg:=false,zero:=[AC.opq]}),
 (289,{size:=1,bytes:=8,agg:=false,zero:=[AC.nilp]}),
 (290,{size:=1,bytes:=8,agg:=false,zero:=[AC.opq]}),
 (291,{size:=1,bytes:=8,agg:=false,zero:=[AC.opq]}),
 (292,{size:=1,bytes:=8,agg:=false,zero:=[AC.opq]}),
 (293,{size:=1,bytes:=4,agg:=false,zero:=[AC.t (Tr.int Go.IntKind.u32 (Int.ofNat 0))],kind:=some Go.IntKind.u32}),
 (294,{size:=1,bytes:=8,agg:=false,zero:=[AC.opq],map:=some (some Go.IntKind.i64)}),
 (295,{size:=1,bytes:=8,agg:=false,zero:=[AC.opq]}),
 (296,{size:=1,bytes:=8,agg:=false,zero:=[AC.opq]}),
 (297,{size:=1,bytes:=8,agg:=false,zero:=[AC.opq]}),
 (298,{size:=1,bytes:=8,agg:=false,zero:=[AC.opq]}),
 (299,{size:=1,bytes:=24,agg:=false,zero:=[AC.nils 0],elem:=some 133}),
 (300,{size:=1,bytes:=8,agg:=false,zero:=[AC.opq]}),
 (301,{size:=1,bytes:=8,agg:=false,zero:=[AC.opq]}),
 (302,{size:=1,bytes:=8,agg:=false,zero:=[AC.opq]}),
 (303,{size:=4,bytes:=40,agg:=true,zero:=[AC.nilp,AC.nilp,AC.nilp,AC.t (Tr.str [])],fields:=[(0,1,17),(1,1,17),(2,1,17),(3,1,9)]}),
 (304,{size:=4,bytes:=40,agg:=true,zero:=[AC.nilp,AC.nilp,AC.nilp,AC.t (Tr.str [])],fields:=[(0,1,17),(1,1,17),(2,1,17),(3,1,9)]}),
 (308,{size:=1,bytes:=1,agg:=false,zero:=[AC.t (Tr.int Go.IntKind.u8 (Int.ofNat 0))],kind:=some Go.IntKind.u8}),
 (309,{size:=1,bytes:=1,agg:=false,zero:=[AC.t (Tr.int Go.IntKind.u8 (Int.ofNat 0))],kind:=some Go.IntKind.u8}),
 (310,{size:=1,bytes:=8,agg:=false,zero:=[AC.opq]}),
 (311,{size:=1,bytes:=8,agg:=false,zero:=[AC.nilp]}),
 (312,{size:=1,bytes:=4,agg:=false,zero:=[AC.t (Tr.int Go.IntKind.i32 (Int.ofNat 0))],kind:=some Go.IntKind.i32}),
 (313,{size:=1,bytes:=4,agg:=false,zero:=[AC.t (Tr.int Go.IntKind.i32 (Int.ofNat 0))],kind:=some Go.IntKind.i32}),
 (314,{size:=11,bytes:=48,agg:=true,zero:=[AC.t (Tr.int Go.IntKind.u64 (Int.ofNat 0)),AC.t (Tr.int Go.IntKind.u64 (Int.ofNat 0)),AC.t (Tr.int Go.IntKind.u32 (Int.ofNat 0)),AC.t (Tr.int Go.IntKind.u8 (Int.ofNat 0)),AC.t (Tr.int Go.IntKind.u8 (Int.ofNat 0)),AC.t (Tr.int Go.IntKind.u8 (Int.ofNat 0)),AC.t (Tr.int Go.IntKind.u8 (Int.ofNat 0)),AC.opq,AC.nilp,AC.t (Tr.int Go.IntKind.i32 (Int.ofNat 0)),AC.t (Tr.int Go.IntKind.i32 (Int.ofNat 0))],fields:=[(0,1,12),(1,1,12),(2,1,293),(3,1,308),(4,1,5),(5,1,5),(6,1,309),(7,1,310),(8,1,311),(9,1,312),(10,1,313)]}),
 (315,{size:=11,bytes:=48,agg:=true,zero:=[AC.t (Tr.int Go.IntKind.u64 (Int.ofNat 0)),AC.t (Tr.int Go.IntKind.u64 (Int.ofNat 0)),AC.t (Tr.int Go.IntKind.u32 (Int.ofNat 0)),AC.t (Tr.int Go.IntKind.u8 (Int.ofNat 0)),AC.t (Tr.int Go.IntKind.u8 (Int.ofNat 0)),AC.t (Tr.int Go.IntKind.u8 (Int.ofNat 0)),AC.t (Tr.int Go.IntKind.u8 (Int.ofNat 0)),AC.opq,AC.nilp,AC.t (Tr.int Go.IntKind.i32 (Int.ofNat 0)),AC.t (Tr.int Go.IntKind.i32 (Int.ofNat 0))],fields:=[(0,1,12),(1,1,12),(2,1,293),(3,1,308),(4,1,5),(5,1,5),(6,1,309),(7,1,310),(8,1,311),(9,1,312),(10,1,313)]}),
 (316,{size:=1,bytes:=8,agg:=false,zero:=[AC.nilp]})]
theorem hΓ:Γ.chk Tryz.prog=true:=by kernel_rfl
theorem ay:Tryz.prog.follows .mixedOrders=true:=by kernel_rfl
end Go.Proofs.YtjmplnfiabmalaaGreat
namespace Go.Proofs.YtjmplnfiabmalaaGreat
open Go.Sim Go.ChangeShapes Go.WideShapes Go.ChangeAt Go.RowKit
theorem own:ownKnob Tryz.prog.godebug=none:=by kernel_rfl
theorem FL:laidOutB Tryz.prog=true:=by kernel_rfl
theorem zH {α:Type}{g:α→List Tr}{Q:α→Prop}:∀{rows:List (List Tr)},(∀r∈rows,∃m,r=g m∧Q m)→∃ns:List α,rows=ns.map g∧∀m∈ns,Q m
 | [],_=>⟨[],rfl,fun _ h=>by cases h⟩
 | r::rows,h=>by
  obtain⟨m,rfl,hm⟩:=h r (by simp)
  obtain⟨ns,rfl,hns⟩:=zH (rows:=rows) fun r hr=>h r (by simp[hr])
  exact⟨m::ns,rfl,fun x hx=>by
   rcases List.mem_cons.1 hx with rfl|hx
   ·exact hm
   ·exact hns x hx⟩
end Go.Proofs.YtjmplnfiabmalaaGreat
namespace Go.Proofs.YtjmplnfiabmalaaGreat
open Go.Sim
abbrev tvI (n:Int):TV:= .c (.int .i64 n)
abbrev tvS (n:List UInt8):TV:= .c (.str n)
abbrev rI (n:Int):Res:= .r (.c (.t (.int .i64 n)))
abbrev rB (b:Bool):Res:= .r (.c (.t (.bool b)))
abbrev rS (b:List UInt8):Res:= .r (.c (.t (.str b)))
def ah (n lo hi:Int):Bool:=decide (lo≤n) && decide (n≤hi)
theorem within_iff {n lo hi:Int}:ah n lo hi=true↔lo≤n∧n≤hi:=by simp[ah]
set_option maxRecDepth 100000
theorem bm (n lo hi:Int):Sim.Spec Tryz.prog 79 [tvI n,tvI lo,tvI hi] (rB (ah n lo hi)):=by
 refine ao hΓ ay Tryz.func79 rfl (by decide) rfl ?_
 repeat' ((conv=>whnf);first|refine Or.inl ?_|apply oi|(apply fi<;>intro h)|refine⟨_,rfl,?_⟩|exact rfl)
 all_goals try exact⟨KO⟩
 all_goals refine⟨?_⟩
 all_goals simp_all[ah]
 all_goals omega
theorem aH (n lo hi:Int):Sim.Spec Tryz.prog 74 [tvI n,tvI lo,tvI hi] (rB (ah n lo hi)):=by
 refine ao hΓ ay Tryz.func74 rfl (by decide) rfl ?_
 repeat' ((conv=>whnf);first|refine Or.inl ?_|apply oi|(apply fi<;>intro h)|refine⟨_,rfl,?_⟩|exact rfl)
 all_goals try exact⟨KO⟩
 all_goals refine⟨?_⟩
 all_goals simp_all[ah]
 all_goals omega
def signed (n:Int):Int:=if ah n 0 1099511627775 then(if n % 2=1 then -((n+1) / 2)else n / 2)else 0
end Go.Proofs.YtjmplnfiabmalaaGreat
namespace Go.Proofs.YtjmplnfiabmalaaGreat
open Go.Sim
set_option maxRecDepth 100000
def Hw (n:Nat):List UInt8:=if n≤127 then [UInt8.ofNat n]else UInt8.ofNat (n % 128+128)::Hw (n / 128)
 termination_by n
 decreasing_by omega
def enc (n:Int):List UInt8:=if ah n 0 1099511627775 then Hw n.toNat else []
end Go.Proofs.YtjmplnfiabmalaaGreat
namespace Go.Proofs.YtjmplnfiabmalaaGreat
open Go.Sim Go.RowKit
def inI (n:Int):Prop:= -9223372036854775808≤n∧n≤9223372036854775807
def aa (n:Int):List Tr:=[.int .i64 n]
def ak (s:List UInt8):List Tr:=[.str s]
structure HR where
 fab:Int
 faf:Int
def HR.tr (x:HR):List Tr:=[.int .i64 x.fab,.int .i64 x.faf]
def HR.wf (x:HR):Prop:=inI x.fab∧inI x.faf
structure HX where
 faa:Int
 fas:Int
 fac:List UInt8
def HX.tr (x:HX):List Tr:=[.int .i64 x.faa,.int .i64 x.fas,.str x.fac]
def HX.wf (x:HX):Prop:=inI x.faa∧inI x.fas∧x.fac.length≤maxLen
structure HP where
 faa:Int
 fac:List UInt8
 faj:List (List UInt8)
 fag:List HX
def HP.tr (x:HP):List Tr:=[.int .i64 x.faa,.str x.fac,.lst 1 (x.faj.map ak),.lst 3 (x.fag.map HX.tr)]
def HP.wf (x:HP):Prop:=inI x.faa∧x.fac.length≤maxLen∧(x.faj.length≤maxLen∧∀y∈x.faj,y.length≤maxLen)∧(x.fag.length≤maxLen∧∀y∈x.fag,y.wf)
structure HH where
 fay:Int
 far:Int
 faF:Bool
 faD:Bool
def HH.tr (x:HH):List Tr:=[.int .i64 x.fay,.int .i64 x.far,.bool x.faF,.bool x.faD]
def HH.wf (x:HH):Prop:=inI x.fay∧inI x.far
structure HO where
 fad:HR
 fat:Int
 fam:Bool
 fax:List Int
 faw:Int
 faE:Bool
def HO.tr (x:HO):List Tr:=[.int .i64 x.fad.fab,.int .i64 x.fad.faf,.int .i64 x.fat,.bool x.fam,.lst 1 (x.fax.map aa),.int .i64 x.faw,.bool x.faE]
def HO.wf (x:HO):Prop:=x.fad.wf∧inI x.fat∧(x.fax.length≤maxLen∧∀y∈x.fax,inI y)∧inI x.faw
structure HW where
 fac:List UInt8
 fam:Int
 fau:Int
def HW.tr (x:HW):List Tr:=[.str x.fac,.int .i64 x.fam,.int .i64 x.fau]
def HW.wf (x:HW):Prop:=x.fac.length≤maxLen∧inI x.fam∧inI x.fau
structure HM where
 fab:List UInt8
 fak:List HW
def HM.tr (x:HM):List Tr:=[.str x.fab,.lst 3 (x.fak.map HW.tr)]
def HM.wf (x:HM):Prop:=x.fab.length≤maxLen∧(x.fak.length≤maxLen∧∀y∈x.fak,y.wf)
structure HV where
 faA:List HM
 faB:List Int
 faq:List Int
def HV.tr (x:HV):List Tr:=[.lst 2 (x.faA.map HM.tr),.lst 1 (x.faB.map aa),.lst 1 (x.faq.map aa)]
def HV.wf (x:HV):Prop:=(x.faA.length≤maxLen∧∀y∈x.faA,y.wf)∧(x.faB.length≤maxLen∧∀y∈x.faB,inI y)∧(x.faq.length≤maxLen∧∀y∈x.faq,inI y)
structure HQ where
 fao:Int
 fae:Int
 fan:Int
 fap:List Int
 fah:List Int
 fai:Int
 faz:Int
def HQ.tr (x:HQ):List Tr:=[.int .i64 x.fao,.int .i64 x.fae,.int .i64 x.fan,.lst 1 (x.fap.map aa),.lst 1 (x.fah.map aa),.int .i64 x.fai,.int .i64 x.faz]
def HQ.wf (x:HQ):Prop:=inI x.fao∧inI x.fae∧inI x.fan∧(x.fap.length≤maxLen∧∀y∈x.fap,inI y)∧(x.fah.length≤maxLen∧∀y∈x.fah,inI y)∧inI x.fai∧inI x.faz
structure HS where
 fav:Int
 fal:HO
def HS.tr (x:HS):List Tr:=[.int .i64 x.fav,.int .i64 x.fal.fad.fab,.int .i64 x.fal.fad.faf,.int .i64 x.fal.fat,.bool x.fal.fam,.lst 1 (x.fal.fax.map aa),.int .i64 x.fal.faw,.bool x.fal.faE]
def HS.wf (x:HS):Prop:=inI x.fav∧x.fal.wf
structure HU where
 fam:Int
 faC:Int
 faL:Bool
 faw:Int
def HU.tr (x:HU):List Tr:=[.int .i64 x.fam,.int .i64 x.faC,.bool x.faL,.int .i64 x.faw]
def HU.wf (x:HU):Prop:=inI x.fam∧inI x.faC∧inI x.faw
structure HY where
 fao:Int
 fae:Int
 fan:Int
 faH:List Int
def HY.tr (x:HY):List Tr:=[.int .i64 x.fao,.int .i64 x.fae,.int .i64 x.fan,.lst 1 (x.faH.map aa)]
def HY.wf (x:HY):Prop:=inI x.fao∧inI x.fae∧inI x.fan∧(x.faH.length≤maxLen∧∀y∈x.faH,inI y)
structure HT where
 fav:Int
 fat:Int
 fam:Bool
def HT.tr (x:HT):List Tr:=[.int .i64 x.fav,.int .i64 x.fat,.bool x.fam]
def HT.wf (x:HT):Prop:=inI x.fav∧inI x.fat
structure HN where
 fam:Int
 faC:Int
 faG:Int
 fat:Int
 fac:List UInt8
def HN.tr (x:HN):List Tr:=[.int .i64 x.fam,.int .i64 x.faC,.int .i64 x.faG,.int .i64 x.fat,.str x.fac]
def HN.wf (x:HN):Prop:=inI x.fam∧inI x.faC∧inI x.faG∧inI x.fat∧x.fac.length≤maxLen
structure HJ where
 faM:Int
 fak:List HW
 faK:List HU
 faJ:List HT
 faI:List HN
def HJ.tr (x:HJ):List Tr:=[.int .i64 x.faM,.lst 3 (x.fak.map HW.tr),.lst 4 (x.faK.map HU.tr),.lst 3 (x.faJ.map HT.tr),.lst 5 (x.faI.map HN.tr)]
def HJ.wf (x:HJ):Prop:=inI x.faM∧(x.fak.length≤maxLen∧∀y∈x.fak,y.wf)∧(x.faK.length≤maxLen∧∀y∈x.faK,y.wf)∧(x.faJ.length≤maxLen∧∀y∈x.faJ,y.wf)∧(x.faI.length≤maxLen∧∀y∈x.faI,y.wf)
structure HK where
 fac:List UInt8
 fat:Int
def HK.tr (x:HK):List Tr:=[.str x.fac,.int .i64 x.fat]
def HK.wf (x:HK):Prop:=x.fac.length≤maxLen∧inI x.fat
end Go.Proofs.YtjmplnfiabmalaaGreat
namespace Go.Proofs.YtjmplnfiabmalaaGreat
open Go.Sim
set_option maxRecDepth 100000
abbrev tvL (sz:Nat)(rows:List (List Tr)):TV:= .c (.lst sz rows)
abbrev rL (sz:Nat)(rows:List (List Tr)):Res:= .r (.c (.arr sz rows))
theorem ab {α β:Type}{f:α→β}{l:List α}{k:Nat}{x:α}(h:l[k]?=some x):(l.map f)[k]?=some (f x):=by simp[h]
theorem ag {α:Type}{l:List α}{k:Nat}(h:k < l.length):∃x,l[k]?=some x:=⟨_,List.getElem?_eq_getElem h⟩
theorem GT {ns ms:List Int}{k:Nat}{x y:Int}(h1:ns[k]?=some x)(h2:ms[k]?=some y)(hne:x≠y):(ns==ms)=false:=by
 rw[beq_eq_false_iff_ne]
 intro e
 subst e
 rw[h1]at h2
 injection h2 with h2
 exact hne h2
theorem Fx {ns ms:List Int}(h:ns.length≠ms.length):(ns==ms)=false:=by
 rw[beq_eq_false_iff_ne]
 intro e;subst e;exact h rfl
theorem cO {α:Type}{l:List α}{k:Nat}{x:α}(h:l[k]?=some x):l.drop k=x::l.drop (k+1):=by
 have hk:k < l.length:=by
  rcases Nat.lt_or_ge k l.length with h'|h'
  ·exact h'
  ·rw[List.getElem?_eq_none h']at h;cases h
 rw[List.getElem?_eq_getElem hk]at h
 injection h with h
 rw[←h]
 exact List.drop_eq_getElem_cons hk
end Go.Proofs.YtjmplnfiabmalaaGreat
namespace Go.Proofs.YtjmplnfiabmalaaGreat
open Go.Sim Go.RowKit
set_option maxRecDepth 100000
theorem bd {α:Type}{g:α→List Tr}{L:Int}{l:List α}{sz:Nat}(h:aA L (.lst sz (l.map g))){x:α}(hx:x∈l):aC L (g x):=by
 rw[aA]at h
 exact rh h.2 _ (List.mem_map_of_mem hx)
theorem me {α:Type}{g:α→List Tr}{L:Int}{l:List α}{sz:Nat}(h:aA L (.lst sz (l.map g))):(l.length:Int)≤L:=by
 rw[aA]at h
 simpa using h.1
theorem ce {α:Type}{g:α→List Tr}{l:List α}{sz:Nat}(h:aA 1048576 (.lst sz (l.map g))):l.length≤1048576:=by
 have:=me h
 omega
end Go.Proofs.YtjmplnfiabmalaaGreat
namespace Go.Proofs.YtjmplnfiabmalaaGreat
open Go.Sim
set_option maxRecDepth 100000
def atV (bs:List UInt8)(i:Nat):Nat:=match bs[(i * 5+1) % bs.length]? with|some b=>b.toNat|none=>0
theorem GK (bs:List UInt8)(i:Nat):atV bs i≤255:=by
 unfold atV
 split
 ·rename_i b _
  have:=b.toNat_lt
  omega
 ·omega
theorem zV (bs:List UInt8):Sim.Spec Tryz.prog 11 [tvL 1 (bs.map aL)] (rB (decide (1048576 < (bs.length:Int)))):=by
 refine ao hΓ ay Tryz.func11 rfl (by decide) rfl ?_
 have hl:(bs.map aL).length=bs.length:=by simp
 repeat' ((conv=>whnf);first|refine Or.inl ?_|apply oi|(apply fi<;>intro h)|refine⟨_,rfl,?_⟩|exact rfl)
 all_goals try exact⟨KO⟩
 exact⟨by rw[hl]⟩
theorem CW (bs:List UInt8)(i:Nat)(hi:i≤1000)(hl:bs.length≤1048576):Sim.Spec Tryz.prog 23 [tvL 1 (bs.map aL),tvI (i:Int)] (rI (atV bs i)):=by
 refine ao hΓ ay Tryz.func23 rfl (by decide) rfl ?_
 have hlen:(bs.map aL).length=bs.length:=by simp
 repeat' ((conv=>whnf);first|refine Or.inl ?_|apply oi|(apply fi<;>intro h)|refine⟨_,rfl,?_⟩|exact rfl)
 all_goals try exact⟨KO⟩
 ·have h0:bs.length=0:=by rw[hlen]at h;have:=eq_of_beq h;omega
  have:bs=[]:=List.eq_nil_of_length_eq_zero h0
  subst this
  exact⟨rfl⟩
 ·have h0:bs.length≠0:=by rw[hlen]at h;intro e;rw[e]at h;simp at h
  exact⟨by rw[hlen];omega⟩
 have h0:bs.length≠0:=by rw[hlen]at h;intro e;rw[e]at h;simp at h
 have hpos:0 < bs.length:=Nat.pos_of_ne_zero h0
 obtain⟨b,hb⟩:=ag (l:=bs) (k:=(i * 5+1) % bs.length) (Nat.mod_lt _ hpos)
 have hbl:=b.toNat_lt
 conv=>whnf
 refine⟨(i * 5+1) % bs.length,aL b,?_,ab hb,?_⟩
 ·show(IntKind.i64.wrap (IntKind.i64.wrap (_ * 5)+1)).tmod _=_
  rw[IntWalk.i64_in ((i:Int) * 5) (by omega),IntWalk.i64_in _ (by omega),hlen,Int.tmod_eq_emod_of_nonneg (by omega)]
  simp
 repeat' ((conv=>whnf);first|refine Or.inl ?_|apply oi|(apply fi<;>intro h)|refine⟨_,rfl,?_⟩|exact rfl)
 all_goals try exact⟨KO⟩
 refine⟨congrArg (Tr.int _) ?_⟩
 rw[IntWalk.i64_in _ (by omega),atV,hb]
theorem gD (ns ms:List Int)(hl:ns.length≤1048576):Sim.Spec Tryz.prog 27 [tvL 1 (ns.map aa),tvL 1 (ms.map aa)] (rB (ns==ms)):=by
 refine ao hΓ ay Tryz.func27 rfl (by decide) rfl ?_
 have hlen:(ns.map aa).length=ns.length:=by simp
 have hlen2:(ms.map aa).length=ms.length:=by simp
 repeat' ((conv=>whnf);first|refine Or.inl ?_|apply oi|(apply fi<;>intro h)|refine⟨_,rfl,?_⟩|exact rfl)
 all_goals try exact⟨KO⟩
 ·rw[hlen,hlen2]at h
  rw[Fx (by intro e;rw[e]at h;simp at h)]
  exact⟨rfl⟩
 have hle:ns.length=ms.length:=by
  rw[hlen,hlen2]at h
  have:((ns.length:Int)==(ms.length:Int))=true:=by simpa using h
  have:=eq_of_beq this
  omega
 repeat' ((conv=>whnf);first|refine Or.inl ?_|apply oi|(apply fi<;>intro h)|refine⟨_,rfl,?_⟩|exact rfl)
 all_goals try exact⟨KO⟩
 conv=>whnf
 refine⟨{k:Nat // k≤ns.length∧∀j,j < k→ns[j]?=ms[j]?},fun k=>⟨[(0,.r (.c (.t (.lst 1 (ns.map aa))))),(1,.r (.c (.t (.lst 1 (ms.map aa))))),(5,tI .i64 (k.1:Int))],[],[]⟩,fun k=>ns.length - k.1,⟨0,by omega,fun j hj=>by omega⟩,?_,?_⟩
 ·skip
  repeat' ((conv=>whnf);first|refine Or.inl ?_|apply oi|(apply fi<;>intro h)|refine⟨_,rfl,?_⟩|exact rfl)
  all_goals try exact⟨KO⟩
 intro⟨k,hk,hsame⟩
 dsimp only
 repeat' ((conv=>whnf);first|refine Or.inl ?_|apply oi|(apply fi<;>intro h)|refine⟨_,rfl,?_⟩|exact rfl)
 all_goals try exact⟨KO⟩
 ·have hlt:k < ns.length:=by have:=of_decide_eq_true h;omega
  obtain⟨x,hx⟩:=ag hlt
  obtain⟨y,hy⟩:=ag (show k < ms.length by omega)
  conv=>whnf
  refine⟨k,aa x,rfl,ab hx,?_⟩
  repeat' ((conv=>whnf);first|refine Or.inl ?_|apply oi|(apply fi<;>intro h)|refine⟨_,rfl,?_⟩|exact rfl)
  all_goals try exact⟨KO⟩
  conv=>whnf
  refine⟨k,aa y,rfl,ab hy,?_⟩
  repeat' ((conv=>whnf);first|refine Or.inl ?_|apply oi|(apply fi<;>intro h)|refine⟨_,rfl,?_⟩|exact rfl)
  all_goals try exact⟨KO⟩
  ·rw[GT hx hy (by simpa using h)]
   exact⟨rfl⟩
  have hxy:x=y:=by simpa using h
  conv=>whnf
  refine⟨⟨k+1,by omega,fun j hj=>?_⟩,?_,KD⟩
  ·rcases Nat.lt_or_ge j k with h'|h'
   ·exact hsame j h'
   ·have:j=k:=by omega
    subst this
    rw[hx,hy,hxy]
  repeat' ((conv=>whnf);first|refine Or.inl ?_|apply oi|(apply fi<;>intro h)|refine⟨_,rfl,?_⟩|exact rfl)
  all_goals try exact⟨KO⟩
  exact⟨by dsimp only;rw[IntWalk.i64_in _ (by omega)];rfl⟩
 ·have hge:ns.length≤k:=by have:=of_decide_eq_false h;omega
  have:ns=ms:=List.ext_getElem? fun j=>by
   rcases Nat.lt_or_ge j k with h'|h'
   ·exact hsame j h'
   ·rw[List.getElem?_eq_none (by omega),List.getElem?_eq_none (by omega)]
  subst this
  exact⟨by simp⟩
end Go.Proofs.YtjmplnfiabmalaaGreat
namespace Go.Proofs.YtjmplnfiabmalaaGreat
open Go.Sim
set_option maxRecDepth 100000
set_option maxHeartbeats 4000000
def yh (last:Int)(r:HU):Prop:=last≤r.fam∧r.fam < r.faC∧r.faC≤1000000∧0≤r.faw∧r.faw≤1200∧(r.faL=true→r.faw=0)
instance (last:Int) (r:HU):Decidable (yh last r):=by unfold yh;infer_instance
def ct (m:HQ):Bool:=(m.fap.length==1200) && ah m.fae 0 1200 && ah m.fai 0 2
theorem jQ (m:HQ):Sim.Spec Tryz.prog 92 [.agg m.tr] (rB (ct m)):=by
 refine ao hΓ ay Tryz.func92 rfl (by decide) rfl ?_
 have hlen:(m.fap.map aa).length=m.fap.length:=by simp
 unfold ct
 repeat' ((conv=>whnf);first|refine Or.inl ?_|apply oi|(apply fi<;>intro h)|refine ci (bm _ _ _) (ai rfl (ai rfl (ai rfl trivial))) ?_|refine⟨_,rfl,?_⟩|exact rfl)
 all_goals try exact⟨KO⟩
 all_goals(refine⟨congrArg Tr.bool ?_⟩;simp_all;try omega)
theorem pY (m:HQ):Sim.Spec Tryz.prog 96 [.agg m.tr] (rB (ct m)):=by
 refine ao hΓ ay Tryz.func96 rfl (by decide) rfl ?_
 have hlen:(m.fap.map aa).length=m.fap.length:=by simp
 unfold ct
 repeat' ((conv=>whnf);first|refine Or.inl ?_|apply oi|(apply fi<;>intro h)|refine ci (aH _ _ _) (ai rfl (ai rfl (ai rfl trivial))) ?_|refine⟨_,rfl,?_⟩|exact rfl)
 all_goals try exact⟨KO⟩
 all_goals(refine⟨congrArg Tr.bool ?_⟩;simp_all;try omega)
def low (b:UInt8):Bool:=decide (97≤b.toNat) && decide (b.toNat≤122)
def cy (s:List UInt8):Bool:=s.all low && ah s.length 1 8
abbrev ED (s:List UInt8):={k:Nat // k≤s.length∧(s.take k).all low=true}
theorem yc {α:Type}{p:α→Bool}{s:List α}{k:Nat}{b:α}(h:(s.take k).all p=true)(hb:s[k]?=some b)(hp:p b=true):(s.take (k+1)).all p=true:=by
 rw[List.take_add_one,hb]
 simp_all
theorem Bj {α:Type}{p:α→Bool}{s:List α}{k:Nat}{b:α}(hb:s[k]?=some b)(hp:p b=false):s.all p=false:=by
 rw[Bool.eq_false_iff]
 intro h
 rw[List.all_eq_true]at h
 rw[h b (List.mem_of_getElem? hb)]at hp
 cases hp
theorem vi (s:List UInt8)(hl:s.length≤1099511627775):Sim.Spec Tryz.prog 161 [tvS s] (rB (cy s)):=by
 refine ao hΓ ay Tryz.func161 rfl (by decide) rfl ?_
 unfold cy
 repeat' ((conv=>whnf);first|refine Or.inl ?_|apply oi|(apply fi<;>intro h)|refine⟨_,rfl,?_⟩|exact rfl)
 all_goals try exact⟨KO⟩
 conv=>whnf
 refine⟨ED s,fun k=>⟨[(0,tS s),(3,tI .i64 (k.1:Int))],[],[]⟩,fun k=>s.length - k.1,⟨0,by omega,rfl⟩,?_,?_⟩
 ·skip
  repeat' ((conv=>whnf);first|refine Or.inl ?_|apply oi|(apply fi<;>intro h)|refine⟨_,rfl,?_⟩|exact rfl)
  all_goals try exact⟨KO⟩
 intro⟨k,hk,hp⟩
 dsimp only
 by_cases hlt:k < s.length
 ·obtain⟨b,hb⟩:=ag hlt
  have hbl:=b.toNat_lt
  cases hlo:low b with
  | false=>
   rw[Bj hb hlo]
   unfold low at hlo
   repeat' ((conv=>whnf);first|refine Or.inl ?_|apply oi|(apply fi<;>intro h)|refine⟨k,b,rfl,hb,?_⟩|refine⟨_,rfl,?_⟩|exact rfl)
   all_goals try exact⟨KO⟩
   all_goals try exact KX
   all_goals(exfalso;simp at *;omega)
  | true=>
   have hnx:=yc hp hb hlo
   unfold low at hlo
   repeat' ((conv=>whnf);first|refine Or.inl ?_|apply oi|(apply fi<;>intro h)|refine⟨k,b,rfl,hb,?_⟩|refine⟨_,rfl,?_⟩|exact rfl)
   all_goals try exact⟨KO⟩
   all_goals try exact KX
   all_goals try exact K1
   conv=>whnf
   refine⟨⟨k+1,by omega,hnx⟩,?_,KD⟩
   repeat' ((conv=>whnf);first|refine Or.inl ?_|apply oi|(apply fi<;>intro h)|refine⟨_,rfl,?_⟩|exact rfl)
   all_goals try exact⟨KO⟩
   all_goals try exact⟨K2⟩
 ·have hge:s.length≤k:=by omega
  rw[List.take_of_length_le hge]at hp
  rw[hp]
  repeat' ((conv=>whnf);first|refine Or.inl ?_|apply oi|(apply fi<;>intro h)|refine ci (bm _ _ _) (ai rfl (ai rfl (ai rfl trivial))) ?_|refine⟨_,rfl,?_⟩|exact rfl)
  all_goals try exact⟨KO⟩
  all_goals try exact KX
theorem eA (s:List UInt8)(hl:s.length≤1099511627775):Sim.Spec Tryz.prog 173 [tvS s] (rB (cy s)):=by
 refine ao hΓ ay Tryz.func173 rfl (by decide) rfl ?_
 unfold cy
 repeat' ((conv=>whnf);first|refine Or.inl ?_|apply oi|(apply fi<;>intro h)|refine⟨_,rfl,?_⟩|exact rfl)
 all_goals try exact⟨KO⟩
 conv=>whnf
 refine⟨ED s,fun k=>⟨[(0,tS s),(3,tI .i64 (k.1:Int))],[],[]⟩,fun k=>s.length - k.1,⟨0,by omega,rfl⟩,?_,?_⟩
 ·skip
  repeat' ((conv=>whnf);first|refine Or.inl ?_|apply oi|(apply fi<;>intro h)|refine⟨_,rfl,?_⟩|exact rfl)
  all_goals try exact⟨KO⟩
 intro⟨k,hk,hp⟩
 dsimp only
 by_cases hlt:k < s.length
 ·obtain⟨b,hb⟩:=ag hlt
  have hbl:=b.toNat_lt
  cases hlo:low b with
  | false=>
   rw[Bj hb hlo]
   unfold low at hlo
   repeat' ((conv=>whnf);first|refine Or.inl ?_|apply oi|(apply fi<;>intro h)|refine⟨k,b,rfl,hb,?_⟩|refine⟨_,rfl,?_⟩|exact rfl)
   all_goals try exact⟨KO⟩
   all_goals try exact KX
   all_goals(exfalso;simp at *;omega)
  | true=>
   have hnx:=yc hp hb hlo
   unfold low at hlo
   repeat' ((conv=>whnf);first|refine Or.inl ?_|apply oi|(apply fi<;>intro h)|refine⟨k,b,rfl,hb,?_⟩|refine⟨_,rfl,?_⟩|exact rfl)
   all_goals try exact⟨KO⟩
   all_goals try exact KX
   all_goals try exact K1
   conv=>whnf
   refine⟨⟨k+1,by omega,hnx⟩,?_,KD⟩
   repeat' ((conv=>whnf);first|refine Or.inl ?_|apply oi|(apply fi<;>intro h)|refine⟨_,rfl,?_⟩|exact rfl)
   all_goals try exact⟨KO⟩
   all_goals try exact⟨K2⟩
 ·have hge:s.length≤k:=by omega
  rw[List.take_of_length_le hge]at hp
  rw[hp]
  repeat' ((conv=>whnf);first|refine Or.inl ?_|apply oi|(apply fi<;>intro h)|refine ci (aH _ _ _) (ai rfl (ai rfl (ai rfl trivial))) ?_|refine⟨_,rfl,?_⟩|exact rfl)
  all_goals try exact⟨KO⟩
  all_goals try exact KX
def behind (p:Option HN)(x:HN):Prop:=match p with
 | none=>True
 | some p=>p.faG≤x.faG∧(p.faG=x.faG→p.faC≤x.fam)
instance (p:Option HN) (x:HN):Decidable (behind p x):=by unfold behind;cases p <;> infer_instance
def fG (t:HX):Bool:=
 if t.faa=0 then ah t.fas 0 999 && t.fac==[]
 else if t.faa=7 then ah t.fas 0 4 && cy t.fac
 else if t.faa=1 then t.fas==0 && cy t.fac
 else ah t.faa 2 6 && (t.fas==0 && t.fac==[])
theorem pg (t:HX)(hl:t.fac.length≤1099511627775):Sim.Spec Tryz.prog 252 [.agg t.tr] (rB (fG t)):=by
 refine ao hΓ ay Tryz.func252 rfl (by decide) rfl ?_
 have hN:=eA t.fac hl
 unfold fG
 generalize cy t.fac=nb at *
 repeat' ((conv=>whnf);first|refine Or.inl ?_|apply oi|(apply fi<;>intro h)|refine ci (aH _ _ _) (ai rfl (ai rfl (ai rfl trivial))) ?_|refine ci hN (ai rfl trivial) ?_|refine⟨_,rfl,?_⟩|exact rfl)
 all_goals try exact⟨KO⟩
 all_goals(refine⟨congrArg Tr.bool ?_⟩;simp_all[ah];(try(intros;omega));(try((repeat' split) <;> intros <;> omega)))
def qR (t:HX):Int:=if fG t=false then -1 else if t.faa=7 then t.fas else if t.faa=0∨t.faa=1 then 0 else 2
theorem kz (t:HX)(hl:t.fac.length≤1099511627775):Sim.Spec Tryz.prog 253 [.agg t.tr] (rI (qR t)):=by
 refine ao hΓ ay Tryz.func253 rfl (by decide) rfl ?_
 have hT:=pg t hl
 unfold qR
 generalize fG t=nb at *
 repeat' ((conv=>whnf);first|refine Or.inl ?_|apply oi|(apply fi<;>intro h)|refine ci hT (ai (ai rfl (ai rfl (ai rfl trivial))) trivial) ?_|refine⟨_,rfl,?_⟩|exact rfl)
 all_goals try exact⟨KO⟩
 all_goals(refine⟨congrArg (Tr.int _) ?_⟩;simp_all)
def ar (t:HX):Nat:=(qR t).toNat
theorem zC {t:HX}(h:fG t=true):qR t=(ar t:Int)∧ar t≤4:=by
 unfold ar qR
 rw[if_neg (by simp[h])]
 unfold fG at h
 split
 ·rename_i h7
  rw[if_neg (by omega),if_pos h7]at h
  simp only[Bool.and_eq_true,within_iff]at h
  omega
 ·split <;> omega
def endL:List HX→Nat→Nat→Option Nat
 | _,p,0=>some p
 | [],_,_+1=>none
 | t::l,p,n+1=>if fG t=true then endL l (p+1) (n+ar t)else none
def cZ (o:Option Nat):Int:=match o with|some e=>e|none=> -1
def fC (l:List HX)(p:Int):Int:=if 0≤p then cZ (endL (l.drop p.toNat) p.toNat 1)else -1
theorem Fd {l:List HX}{p n:Nat}{t:HX}(h:l[p]?=some t):endL (l.drop p) p (n+1)=if fG t=true then endL (l.drop (p+1)) (p+1) (n+ar t)else none:=by
 rw[cO h,endL]
abbrev Hg (l:List HX)(R:Int):={q:Nat×Nat // q.1≤l.length∧q.2≤1+4 * q.1∧cZ (endL (l.drop q.1) q.1 q.2)=R}
def ik (l:List HX):Prop:=∀t∈l,t.fac.length≤1099511627775
theorem iq (l:List HX)(p:Int)(hl:l.length≤1048576)(hn:ik l):Sim.Spec Tryz.prog 231 [tvL 3 (l.map HX.tr),tvI p] (rI (fC l p)):=by
 refine ao hΓ ay Tryz.func231 rfl (by decide) rfl ?_
 have hlen:(l.map HX.tr).length=l.length:=by simp
 by_cases h0:0≤p
 ·obtain⟨p,rfl⟩:=Int.eq_ofNat_of_zero_le h0
  obtain⟨R,hR⟩:∃R,fC l (p:Int)=R:=⟨_,rfl⟩
  rw[hR]
  rw[fC,if_pos h0,Int.toNat_natCast]at hR
  by_cases hlp:p≤l.length
  ·skip
   repeat' ((conv=>whnf);first|refine Or.inl ?_|apply oi|(apply fi<;>intro h)|refine⟨_,rfl,?_⟩|exact rfl)
   all_goals try exact⟨KO⟩
   all_goals try exact KX
   conv=>whnf
   refine⟨Hg l R,fun q=>⟨[(0,.r (.c (.t (.lst 3 (l.map HX.tr))))),(1,tI .i64 (q.1.1:Int)),(5,tI .i64 (q.1.2:Int))],[],[]⟩,fun q=>l.length - q.1.1,⟨(p,1),by omega,by omega,hR⟩,?_,?_⟩
   ·skip
    repeat' ((conv=>whnf);first|refine Or.inl ?_|apply oi|(apply fi<;>intro h)|refine⟨_,rfl,?_⟩|exact rfl)
    all_goals try exact⟨KO⟩
   intro⟨⟨a,n⟩,ha,hn4,hr⟩
   dsimp only at ha hn4 hr ⊢
   cases n with
   | zero=>
    have:R=(a:Int):=by
     rw[←hr]
     cases l.drop a <;> rfl
    subst this
    repeat' ((conv=>whnf);first|refine Or.inl ?_|apply oi|(apply fi<;>intro h)|refine⟨_,rfl,?_⟩|exact rfl)
    all_goals try exact⟨KO⟩
    all_goals try exact KX
   | succ n=>
    by_cases hlt:a < l.length
    ·obtain⟨t,ht⟩:=ag hlt
     rw[Fd ht]at hr
     have hT:=pg t (hn t (List.mem_of_getElem? ht))
     have hA:=kz t (hn t (List.mem_of_getElem? ht))
     cases hok:fG t with
     | false=>
      rw[hok]at hT
      rw[if_neg (by simp[hok])]at hr
      subst hr
      repeat' ((conv=>whnf);first|refine Or.inl ?_|apply oi|(apply fi<;>intro h)|refine⟨a,t.tr,rfl,ab ht,?_⟩|refine ci hT (ai (ai rfl (ai rfl (ai rfl trivial))) trivial) ?_|refine⟨_,rfl,?_⟩|exact rfl)
      all_goals try exact⟨KO⟩
      all_goals try exact KX
     | true=>
      obtain⟨e1,e2⟩:=zC hok
      rw[e1]at hA
      rw[hok]at hT
      rw[if_pos hok]at hr
      repeat' ((conv=>whnf);first|refine Or.inl ?_|apply oi|(apply fi<;>intro h)|refine⟨a,t.tr,rfl,ab ht,?_⟩|refine ci hT (ai (ai rfl (ai rfl (ai rfl trivial))) trivial) ?_|refine ci hA (ai (ai rfl (ai rfl (ai rfl trivial))) trivial) ?_|refine⟨_,rfl,?_⟩|exact rfl)
      all_goals try exact⟨KO⟩
      all_goals try exact KX
      conv=>whnf
      refine⟨⟨(a+1,n+ar t),by dsimp only;omega,by dsimp only;omega,hr⟩,?_,KD⟩
      repeat' ((conv=>whnf);first|refine Or.inl ?_|apply oi|(apply fi<;>intro h)|refine⟨_,rfl,?_⟩|exact rfl)
      all_goals try exact⟨KO⟩
      all_goals try exact⟨K2⟩
      all_goals try exact⟨by dsimp only;congr 1;rw[IntWalk.i64_in _ (by omega)];omega⟩
      all_goals exact⟨congrArg (Tr.int _) (by dsimp only;simp(disch:=omega)only[IntWalk.i64_in];omega)⟩
    ·rw[List.drop_eq_nil_of_le (by omega),endL]at hr
     subst hr
     repeat' ((conv=>whnf);first|refine Or.inl ?_|apply oi|(apply fi<;>intro h)|refine⟨_,rfl,?_⟩|exact rfl)
     all_goals try exact⟨KO⟩
     all_goals try exact KX
  ·rw[List.drop_eq_nil_of_le (by omega),endL]at hR
   subst hR
   repeat' ((conv=>whnf);first|refine Or.inl ?_|apply oi|(apply fi<;>intro h)|refine⟨_,rfl,?_⟩|exact rfl)
   all_goals try exact⟨KO⟩
   all_goals try exact KX
   conv=>whnf
   refine⟨Unit,fun q=>⟨[(0,.r (.c (.t (.lst 3 (l.map HX.tr))))),(1,tI .i64 (p:Int)),(5,tI .i64 1)],[],[]⟩,fun q=>0,(),?_,?_⟩
   ·skip
    repeat' ((conv=>whnf);first|refine Or.inl ?_|apply oi|(apply fi<;>intro h)|refine⟨_,rfl,?_⟩|exact rfl)
    all_goals try exact⟨KO⟩
   intro q
   repeat' ((conv=>whnf);first|refine Or.inl ?_|apply oi|(apply fi<;>intro h)|refine⟨_,rfl,?_⟩|exact rfl)
   all_goals try exact⟨KO⟩
   all_goals try exact KX
 ·have he:fC l p= -1:=by rw[fC,if_neg h0]
  rw[he]
  repeat' ((conv=>whnf);first|refine Or.inl ?_|apply oi|(apply fi<;>intro h)|refine⟨_,rfl,?_⟩|exact rfl)
  all_goals try exact⟨KO⟩
  all_goals try exact KX
def bq (l:List HX):Bool:=decide (l.length≤20) && (decide (0 < l.length) && fC l 0==(l.length:Int))
theorem mB (l:List HX)(hl:l.length≤1048576)(hn:ik l):Sim.Spec Tryz.prog 175 [tvL 3 (l.map HX.tr)] (rB (bq l)):=by
 refine ao hΓ ay Tryz.func175 rfl (by decide) rfl ?_
 have hlen:(l.map HX.tr).length=l.length:=by simp
 have hE:=iq l 0 hl hn
 unfold bq
 generalize fC l 0=e at *
 repeat' ((conv=>whnf);first|refine Or.inl ?_|apply oi|(apply fi<;>intro h)|refine ci hE (ai rfl (ai rfl trivial)) ?_|refine⟨_,rfl,?_⟩|exact rfl)
 all_goals try exact⟨KO⟩
 all_goals(refine⟨congrArg Tr.bool ?_⟩;simp_all;try omega)
def oM {α:Type}[BEq α]:List α→Nat→α→Option Nat
 | [],_,_=>none
 | x::l,i,s=>if(x==s)=true then some i else oM l (i+1) s
theorem FU {α:Type}[BEq α]{l:List α}{i:Nat}{x s:α}(hx:l[i]?=some x):oM (l.drop i) i s=if(x==s)=true then some i else oM (l.drop (i+1)) (i+1) s:=by
 rw[cO hx,oM]
theorem vX {α:Type}[BEq α]:∀{l:List α} {i k:Nat} {s:α},oM l i s=some k→i≤k∧k < i+l.length
 | [],_,_,_,h=>by rw[oM]at h;cases h
 | x::l,i,k,s,h=>by
  rw[oM]at h
  simp only[List.length_cons]
  split at h
  ·injection h with h;omega
  ·have:=vX h;omega
theorem zu {α:Type}[BEq α][LawfulBEq α]:∀{l:List α} {i:Nat} {s:α},(oM l i s).isSome=l.contains s
 | [],_,_=>rfl
 | x::l,i,s=>by
  rw[oM,List.contains_cons]
  cases h:(x==s)with
  | true=>rw[if_pos rfl];simp[eq_of_beq h]
  | false=>
   have h2:(s==x)=false:=by rw[beq_eq_false_iff_ne]at h ⊢;exact fun e=>h e.symm
   rw[if_neg (by simp),h2,Bool.false_or]
   exact zu
def fH {α:Type}[BEq α](l:List α)(s:α):Int:=cZ (oM l 0 s)
theorem vG {α:Type}[BEq α][LawfulBEq α]{l:List α}{s:α}:decide (0≤fH l s)=l.contains s:=by
 rw[←zu (i:=0),fH]
 cases oM l 0 s with
 | none=>rfl
 | some k=>simp[cZ]
def wx (l:List (List UInt8)):Nat→Nat→Bool
 | 0,_=>true
 | n+1,k=>match l[k]? with
  | some s=>if cy s=true∧(l.take k).contains s=false then wx l n (k+1)else false
  | none=>true
theorem Db {l:List (List UInt8)}{k:Nat}{s:List UInt8}(hx:l[k]?=some s):wx l (l.length - k) k=if cy s=true∧(l.take k).contains s=false then wx l (l.length - (k+1)) (k+1)else false:=by
 have hk:k < l.length:=by
  rcases Nat.lt_or_ge k l.length with h|h
  ·exact h
  ·rw[List.getElem?_eq_none h]at hx;cases hx
 rw[show l.length - k=(l.length - (k+1))+1 by omega,wx,hx]
def rX (l:List (List UInt8)):Bool:=wx l l.length 0 && decide (l.length≤4)
def gU (k:Int):Bool:=k==1 || (k==2 || (k==3 || (k==5 || k==6)))
theorem pp (k:Int)(hk:ah k 0 7=true):Sim.Spec Tryz.prog 174 [tvI k] (rB (gU k)):=by
 refine ao hΓ ay Tryz.func174 rfl (by decide) rfl ?_
 have:=within_iff.1 hk
 unfold gU
 repeat' ((conv=>whnf);first|refine Or.inl ?_|apply oi|(apply fi<;>intro h)|refine⟨_,rfl,?_⟩|exact rfl)
 all_goals try exact⟨KO⟩
 all_goals(refine⟨congrArg Tr.bool ?_⟩;simp_all;(try(rw[Bool.eq_iff_iff];simp;done));(try(rw[Bool.eq_iff_iff];simp;omega)))
def dy (x:HP):Bool:=ah x.faa 0 7 && ((if x.faa=0∨x.faa=1 then cy x.fac else x.fac==[]) && ((if x.faa=0 then rX x.faj else x.faj.length==0) && (if gU x.faa=true then bq x.fag else x.fag.length==0)))
theorem eM {x:HP}(hs:aC 1048576 x.tr):x.fac.length≤1048576∧x.faj.length≤1048576∧(∀y∈x.faj,y.length≤1048576)∧x.fag.length≤1048576∧(∀y∈x.fag,y.fac.length≤1048576):=by
 simp only[HP.tr,aC]at hs
 obtain⟨_,h1,h2,h3,_⟩:=hs
 have e1:=me h2
 have e2:=me h3
 refine⟨by rw[aA]at h1;omega,by omega,fun y hy=>?_,by omega,fun y hy=>?_⟩
 ·have:=bd h2 hy
  simp only[ak,aC,aA]at this
  omega
 ·have:=bd h3 hy
  simp only[HX.tr,aC,aA]at this
  omega
theorem yg {x:HP}(h:ah x.faa 0 7=false):dy x=false:=by
 unfold dy;rw[h];rfl
theorem rl {x:HP}(h:4 < x.faj.length):dy x=false:=by
 have h1:rX x.faj=false:=by unfold rX;rw[decide_eq_false (by omega),Bool.and_false]
 have h2:(x.faj.length==0)=false:=by rw[beq_eq_false_iff_ne];omega
 unfold dy
 rw[h1,h2]
 split <;> simp
theorem DP {l:List (List UInt8)}{k i:Nat}{y s:List UInt8}(hi:i < k)(hy:l[i]?=some y):((l.take k).drop i).contains s=(s==y || ((l.take k).drop (i+1)).contains s):=by
 rw[cO (x:=y) (by rw[List.getElem?_take,if_pos hi];exact hy),List.contains_cons]
theorem Eu {x:HP}(hk:ah x.faa 0 7=true)(h0:x.faa=0)(ha:x.faj.length≤4):dy x=(wx x.faj x.faj.length 0 && (cy x.fac && x.fag.length==0)):=by
 unfold dy rX
 rw[hk,if_pos (.inl h0),if_pos h0,if_neg (by rw[h0];decide),decide_eq_true ha]
 cases cy x.fac <;> cases wx x.faj x.faj.length 0 <;> simp
theorem EK {x:HP}(hk:ah x.faa 0 7=true)(h0:x.faa≠0):dy x=(x.faj.length==0 && ((if x.faa=1 then cy x.fac else x.fac==[]) && (if gU x.faa=true then bq x.fag else x.fag.length==0))):=by
 have e:(if x.faa=0∨x.faa=1 then cy x.fac else x.fac==[])=(if x.faa=1 then cy x.fac else x.fac==[]):=by
  by_cases h1:x.faa=1
  ·rw[if_pos (.inr h1),if_pos h1]
  ·rw[if_neg (by omega),if_neg h1]
 unfold dy
 rw[hk,if_neg h0,e,Bool.true_and]
 generalize(if x.faa=1 then cy x.fac else x.fac==[])=a
 generalize(if gU x.faa=true then bq x.fag else x.fag.length==0)=b
 cases a <;> cases(x.faj.length==0) <;> simp
theorem Bx (n:Nat):((n:Int)==0)=(n==0):=by rw[Bool.eq_iff_iff];simp
abbrev GD (x:HP):AO:= .box (x.tr.map .t)
theorem mK (x:HP)(hs:aC 1048576 x.tr):Sim.Spec Tryz.prog 118 [.agg x.tr] (rB (dy x)):=by
 refine ao hΓ ay Tryz.func118 rfl (by decide) rfl ?_
 obtain⟨h1,h2,h3,h4,h5⟩:=eM hs
 have hB:=aH x.faa 0 7
 have hN:=eA x.fac (by omega)
 have hE:=mB x.fag h4 (fun y hy=>by have:=h5 y hy;omega)
 have hl1:(x.faj.map ak).length=x.faj.length:=by simp
 have hl2:(x.fag.map HX.tr).length=x.fag.length:=by simp
 cases hk:ah x.faa 0 7 with
 | false=>
  rw[hk]at hB
  rw[yg hk]
  repeat' ((conv=>whnf);first|refine Or.inl ?_|apply oi|(apply fi<;>intro h)|refine ci hB (ai rfl (ai rfl (ai rfl trivial))) ?_|refine⟨_,rfl,?_⟩|exact rfl)
  all_goals try exact⟨KO⟩
  all_goals try exact KX
 | true=>
  rw[hk]at hB
  have hH:=pp x.faa hk
  by_cases ha:x.faj.length≤4
  ·by_cases h0:x.faa=0
   ·rw[Eu hk h0 ha]
    generalize cy x.fac=b2 at *
    generalize bq x.fag=b5 at *
    obtain⟨A,hA⟩:∃A,wx x.faj x.faj.length 0=A:=⟨_,rfl⟩
    rw[hA]
    have hh0:gU x.faa=false:=by rw[h0];rfl
    rw[hh0]at hH
    repeat' ((conv=>whnf);first|refine Or.inl ?_|apply oi|(apply fi<;>intro h)|refine ci hB (ai rfl (ai rfl (ai rfl trivial))) ?_|refine⟨_,rfl,?_⟩|exact rfl)
    all_goals try exact⟨KO⟩
    all_goals try exact KX
    conv=>whnf
    refine⟨{k:Nat // k≤x.faj.length∧wx x.faj (x.faj.length - k) k=A},fun q=>⟨[(1,.r (.c (.ptr (1,0,0) 0))),(3,tI .i64 (q.1:Int))],[((1,0,0),some (GD x))],[1]⟩,fun q=>x.faj.length - q.1,⟨0,by omega,by rw[Nat.sub_zero];exact hA⟩,?_,?_⟩
    ·skip
     repeat' ((conv=>whnf);first|refine Or.inl ?_|apply oi|(apply fi<;>intro h)|refine⟨_,rfl,?_⟩|exact rfl)
     all_goals try exact⟨KO⟩
    intro⟨k,hkl,hr⟩
    dsimp only at hkl hr ⊢
    by_cases hlt:k < x.faj.length
    ·obtain⟨s,hsk⟩:=ag hlt
     rw[Db hsk]at hr
     have hN2:=eA s (by have:=h3 s (List.mem_of_getElem? hsk);omega)
     cases hno:cy s with
     | false=>
      rw[hno]at hN2 hr
      rw[if_neg (by simp)]at hr
      subst hr
      repeat' ((conv=>whnf);first|refine Or.inl ?_|apply oi|(apply fi<;>intro h)|refine ci hN2 (ai rfl trivial) ?_|refine⟨k,(ak s),rfl,ab hsk,?_⟩|refine⟨_,rfl,?_⟩|exact rfl)
      all_goals try exact⟨KO⟩
      all_goals try exact KX
     | true=>
      rw[hno]at hN2 hr
      obtain⟨C,hC⟩:∃C,(x.faj.take k).contains s=C:=⟨_,rfl⟩
      rw[hC]at hr
      repeat' ((conv=>whnf);first|refine Or.inl ?_|apply oi|(apply fi<;>intro h)|refine ci hN2 (ai rfl trivial) ?_|refine⟨k,(ak s),rfl,ab hsk,?_⟩|refine⟨_,rfl,?_⟩|exact rfl)
      all_goals try exact⟨KO⟩
      all_goals try exact KX
      all_goals try(exfalso;(try simp_all[ah]);(try omega);done)
      conv=>whnf
      refine⟨{i:Nat // i≤k∧((x.faj.take k).drop i).contains s=C},fun q=>⟨[(1,.r (.c (.ptr (1,0,0) 0))),(3,tI .i64 (k:Int)),(4,tI .i64 (q.1:Int))],[((1,0,0),some (GD x))],[1]⟩,fun q=>k - q.1,⟨0,by omega,hC⟩,?_,?_⟩
      ·skip
       repeat' ((conv=>whnf);first|refine Or.inl ?_|apply oi|(apply fi<;>intro h)|refine⟨_,rfl,?_⟩|exact rfl)
       all_goals try exact⟨KO⟩
      intro⟨i,hik,hc⟩
      dsimp only at hik hc ⊢
      by_cases hil:i < k
      ·obtain⟨y,hy⟩:=ag (l:=x.faj) (k:=i) (by omega)
       rw[DP hil hy]at hc
       by_cases hys:s=y
       ·subst hys
        rw[beq_self_eq_true,Bool.true_or]at hc
        subst hc
        rw[if_neg (by simp)]at hr
        subst hr
        repeat' ((conv=>whnf);first|refine Or.inl ?_|apply oi|(apply fi<;>intro h)|refine⟨i,(ak s),rfl,ab hy,?_⟩|refine⟨k,(ak s),rfl,ab hsk,?_⟩|refine⟨_,rfl,?_⟩|exact rfl)
        all_goals try exact⟨KO⟩
        all_goals try exact KX
        all_goals try(exfalso;(try simp_all[ah]);(try omega);done)
       ·rw[beq_eq_false_iff_ne.2 hys,Bool.false_or]at hc
        repeat' ((conv=>whnf);first|refine Or.inl ?_|apply oi|(apply fi<;>intro h)|refine⟨i,(ak y),rfl,ab hy,?_⟩|refine⟨k,(ak s),rfl,ab hsk,?_⟩|refine⟨_,rfl,?_⟩|exact rfl)
        all_goals try exact⟨KO⟩
        all_goals try exact KX
        all_goals try(exfalso;apply hys;simp_all;done)
        conv=>whnf
        refine⟨⟨i+1,by omega,hc⟩,?_,KD⟩
        repeat' ((conv=>whnf);first|refine Or.inl ?_|apply oi|(apply fi<;>intro h)|refine⟨_,rfl,?_⟩|exact rfl)
        all_goals try exact⟨KO⟩
        all_goals try exact⟨K2⟩
      ·rw[List.drop_eq_nil_of_le (by simp;omega)]at hc
       have hc:false=C:=hc
       subst hc
       rw[if_pos ⟨rfl,rfl⟩]at hr
       repeat' ((conv=>whnf);first|refine Or.inl ?_|apply oi|(apply fi<;>intro h)|refine⟨_,rfl,?_⟩|exact rfl)
       all_goals try exact⟨KO⟩
       all_goals try exact KX
       conv=>whnf
       refine⟨⟨k+1,by omega,hr⟩,?_,KD⟩
       repeat' ((conv=>whnf);first|refine Or.inl ?_|apply oi|(apply fi<;>intro h)|refine⟨_,rfl,?_⟩|exact rfl)
       all_goals try exact⟨KO⟩
       all_goals try exact⟨K2⟩
    ·rw[show x.faj.length - k=0 by omega]at hr
     have hr:true=A:=hr
     subst hr
     repeat' ((conv=>whnf);first|refine Or.inl ?_|apply oi|(apply fi<;>intro h)|refine ci hN (ai rfl trivial) ?_|refine ci hH (ai rfl trivial) ?_|refine ci hE (ai rfl trivial) ?_|refine⟨_,rfl,?_⟩|exact rfl)
     all_goals try exact⟨KO⟩
     all_goals try exact KX
     all_goals try(exfalso;(try simp_all[ah]);(try omega);done)
     all_goals(refine⟨congrArg Tr.bool ?_⟩;simp_all;(try exact Bx _))
   ·rw[EK hk h0]
    generalize cy x.fac=b2 at *
    generalize bq x.fag=b5 at *
    generalize gU x.faa=b4 at *
    repeat' ((conv=>whnf);first|refine Or.inl ?_|apply oi|(apply fi<;>intro h)|refine ci hB (ai rfl (ai rfl (ai rfl trivial))) ?_|refine⟨_,rfl,?_⟩|exact rfl)
    all_goals try exact⟨KO⟩
    all_goals try exact KX
    conv=>whnf
    refine⟨Unit,fun q=>⟨[(1,.r (.c (.ptr (1,0,0) 0))),(3,tI .i64 0)],[((1,0,0),some (GD x))],[1]⟩,fun q=>0,(),?_,?_⟩
    ·skip
     repeat' ((conv=>whnf);first|refine Or.inl ?_|apply oi|(apply fi<;>intro h)|refine⟨_,rfl,?_⟩|exact rfl)
     all_goals try exact⟨KO⟩
    intro q
    dsimp only
    by_cases hlt:0 < x.faj.length
    ·obtain⟨s,hsk⟩:=ag hlt
     have hN2:=eA s (by have:=h3 s (List.mem_of_getElem? hsk);omega)
     rw[show(x.faj.length==0)=false by rw[beq_eq_false_iff_ne];omega]
     repeat' ((conv=>whnf);first|refine Or.inl ?_|apply oi|(apply fi<;>intro h)|refine ci hN2 (ai rfl trivial) ?_|refine⟨0,(ak s),rfl,ab hsk,?_⟩|refine⟨_,rfl,?_⟩|exact rfl)
     all_goals try exact⟨KO⟩
     all_goals try exact KX
     all_goals try(exfalso;(try simp_all[ah]);(try omega);done)
     all_goals try(exfalso;simp_all;done)
    ·have hz:x.faj.length=0:=by omega
     rw[show(x.faj.length==0)=true by rw[hz];rfl]
     rw[hz]at hl1
     repeat' ((conv=>whnf);first|refine Or.inl ?_|apply oi|(apply fi<;>intro h)|refine ci hN (ai rfl trivial) ?_|refine ci hH (ai rfl trivial) ?_|refine ci hE (ai rfl trivial) ?_|refine⟨_,rfl,?_⟩|exact rfl)
     all_goals try exact⟨KO⟩
     all_goals try(exfalso;simp_all;done)
     all_goals(refine⟨congrArg Tr.bool ?_⟩;simp_all;(try exact Bx _);(try(rw[Bool.eq_iff_iff];simp;omega)))
  ·rw[rl (by omega)]
   repeat' ((conv=>whnf);first|refine Or.inl ?_|apply oi|(apply fi<;>intro h)|refine ci hB (ai rfl (ai rfl (ai rfl trivial))) ?_|refine⟨_,rfl,?_⟩|exact rfl)
   all_goals try exact⟨KO⟩
   all_goals try exact KX
def cV (k:Int):Bool:=k==0 || (k==3 || k==5)
theorem opensK_iff {k:Int}:cV k=true↔k=0∨k=3∨k=5:=by simp[cV]
def endN:List HP→Nat→Nat→Option Nat
 | [],_,_=>none
 | x::l,i,o=>if cV x.faa=true then endN l (i+1) (o+1)else if x.faa=7 then(if o=1 then some i else endN l (i+1) (o - 1))else endN l (i+1) o
def endAt (l:List HP)(k:Nat):Option Nat:=match l[k]? with
 | some x=>if cV x.faa=true then endN (l.drop (k+1)) (k+1) 1 else none
 | none=>none
def bR (l:List HP)(k:Int):Int:=if 0≤k then cZ (endAt l k.toNat)else -1
theorem cN {l:List HP}{i o:Nat}{x:HP}(h:l[i]?=some x):endN (l.drop i) i o=if cV x.faa=true then endN (l.drop (i+1)) (i+1) (o+1)else if x.faa=7 then(if o=1 then some i else endN (l.drop (i+1)) (i+1) (o - 1))else endN (l.drop (i+1)) (i+1) o:=by
 rw[cO h,endN]
theorem ky {l:List HP}{i o:Nat}(h:l.length≤i):endN (l.drop i) i o=none:=by
 rw[List.drop_eq_nil_of_le h,endN]
theorem se:∀{l:List HP} {i o e:Nat},endN l i o=some e→i≤e∧e < i+l.length
 | [],_,_,_,h=>by rw[endN]at h;cases h
 | x::l,i,o,e,h=>by
  rw[endN]at h
  simp only[List.length_cons]
  split at h
  ·have:=se h;omega
  ·split at h
   ·split at h
    ·injection h with h;omega
    ·have:=se h;omega
   ·have:=se h;omega
theorem gY {l:List HP}{i o e:Nat}(h:endN (l.drop i) i o=some e):i≤e∧e < l.length:=by
 have:=se h
 rw[List.length_drop]at this
 omega
theorem ll:∀{l:List HP} {i:Nat} (n:Nat) {a b:Nat},l.length - i≤n→1≤a→1≤b→endN (l.drop i) i (a+b)=(endN (l.drop i) i b).bind fun m=>endN (l.drop (m+1)) (m+1) a
 | l,i,0,a,b,hn,_,_=>by rw[ky (by omega),ky (by omega)];rfl
 | l,i,n+1,a,b,hn,ha,hb=>by
  by_cases hi:i < l.length
  ·obtain⟨x,hx⟩:=ag hi
   rw[cN hx,cN hx]
   split
   ·rw[show a+b+1=a+(b+1) by omega]
    exact ll n (by omega) ha (by omega)
   ·split
    ·rw[if_neg (by omega)]
     by_cases h1:b=1
     ·subst h1
      rw[if_pos rfl]
      rfl
     ·rw[if_neg h1,show a+b - 1=a+(b - 1) by omega]
      exact ll n (by omega) ha (by omega)
    ·exact ll n (by omega) ha hb
  ·rw[ky (by omega),ky (by omega)];rfl
theorem mb:∀{l:List HP} {i:Nat} (n:Nat) {o e:Nat},l.length - i≤n→endN (l.drop i) i o=some e→∃x,l[e]?=some x∧x.faa=7
 | l,i,0,o,e,hn,h=>by rw[ky (by omega)]at h;cases h
 | l,i,n+1,o,e,hn,h=>by
  by_cases hi:i < l.length
  ·obtain⟨x,hx⟩:=ag hi
   rw[cN hx]at h
   split at h
   ·exact mb n (by omega) h
   ·split at h
    ·split at h
     ·injection h with h
      subst h
      exact⟨x,hx,by assumption⟩
     ·exact mb n (by omega) h
    ·exact mb n (by omega) h
  ·rw[ky (by omega)]at h;cases h
theorem aP {l:List HP}{k e:Nat}(h:endAt l k=some e):∃x,l[k]?=some x∧cV x.faa=true∧endN (l.drop (k+1)) (k+1) 1=some e∧k < e∧e < l.length:=by
 unfold endAt at h
 split at h
 ·rename_i x hx
  split at h
  ·rename_i ho
   have:=gY h
   exact⟨x,hx,ho,h,by omega,by omega⟩
  ·cases h
 ·cases h
theorem nP {l:List HP}{k:Nat}{x:HP}(hx:l[k]?=some x)(ho:cV x.faa=true):endAt l k=endN (l.drop (k+1)) (k+1) 1:=by
 unfold endAt
 rw[hx]
 dsimp only
 rw[if_pos ho]
theorem bP {l:List HP}{k e:Nat}(h:endAt l k=some e):∃x,l[e]?=some x∧x.faa=7:=by
 obtain⟨_,_,_,h,_⟩:=aP h
 exact mb _ (Nat.le_refl _) h
theorem oI:∀{l:List HP} (n:Nat) {s o e i:Nat},i - s≤n→1≤o→endN (l.drop s) s o=some e→s≤i→i≤e→∃o',1≤o'∧endN (l.drop i) i o'=some e
 | l,0,s,o,e,i,hn,ho,h,h1,h2=>by
  have:s=i:=by omega
  subst this
  exact⟨o,ho,h⟩
 | l,n+1,s,o,e,i,hn,ho,h,h1,h2=>by
  by_cases hs:s=i
  ·subst hs;exact⟨o,ho,h⟩
  have hl:=gY h
  obtain⟨x,hx⟩:=ag (l:=l) (k:=s) (by omega)
  rw[cN hx]at h
  split at h
  ·exact oI n (by omega) (by omega) h (by omega) h2
  ·split at h
   ·split at h
    ·injection h with h;omega
    ·exact oI n (by omega) (by omega) h (by omega) h2
   ·exact oI n (by omega) ho h (by omega) h2
theorem oT {l:List HP}{k e i:Nat}{x:HP}(h:endAt l k=some e)(h1:k < i)(h2:i < e)(hx:l[i]?=some x)(ho:cV x.faa=true):∃m,endAt l i=some m∧i < m∧m < e:=by
 obtain⟨_,_,_,he,_,hlt⟩:=aP h
 obtain⟨o,ho1,hlev⟩:=oI _ (Nat.le_refl _) (Nat.le_refl 1) he (by omega:k+1≤i) (by omega)
 rw[cN hx,if_pos ho,ll _ (Nat.le_refl _) ho1 (Nat.le_refl 1)]at hlev
 cases hm:endN (l.drop (i+1)) (i+1) 1 with
 | none=>rw[hm]at hlev;cases hlev
 | some m=>
  rw[hm]at hlev
  have h3:=gY hm
  have h4:=gY (show endN (l.drop (m+1)) (m+1) o=some e from hlev)
  exact⟨m,by rw[nP hx ho];exact hm,by omega,by omega⟩
theorem cp {l:List HP}{k:Nat}:bR l (k:Int)=cZ (endAt l k):=by
 rw[bR,if_pos (by omega),Int.toNat_natCast]
theorem cj {o:Option Nat}{n:Nat}(h:o=some n):cZ o=(n:Int):=by rw[h];rfl
theorem qi {o:Option Nat}(h:o=none):cZ o= -1:=by rw[h];rfl
def elseN (l:List HP)(e:Nat):Nat→Nat→Option Nat
 | 0,_=>none
 | n+1,i=>if i < e then(match l[i]? with
  | some x=>if x.faa=4 then some i else if x.faa=3∨x.faa=5 then(match endAt l i with
   | some m=>elseN l e n (m+1)
   | none=>elseN l e n (i+1))else elseN l e n (i+1)
  | none=>none)else none
def elseAt (l:List HP)(k:Nat):Option Nat:=match l[k]?,endAt l k with
 | some x,some e=>if x.faa=3 then elseN l e (e - (k+1)) (k+1)else none
 | _,_=>none
def bY (l:List HP)(k:Int):Int:=if 0≤k then cZ (elseAt l k.toNat)else -1
theorem fM {l:List HP}{e:Nat}:∀{n m i:Nat},e - i≤n→e - i≤m→elseN l e n i=elseN l e m i
 | 0,0,_,_,_=>rfl
 | 0,m+1,i,h1,h2=>by rw[elseN,elseN,if_neg (by omega)]
 | n+1,0,i,h1,h2=>by rw[elseN,elseN,if_neg (by omega)]
 | n+1,m+1,i,h1,h2=>by
  rw[elseN,elseN]
  by_cases hi:i < e
  ·rw[if_pos hi,if_pos hi]
   cases hx:l[i]? with
   | none=>rfl
   | some x=>
    dsimp only
    split
    ·rfl
    ·split
     ·cases hm:endAt l i with
      | none=>exact fM (by omega) (by omega)
      | some m'=>
       have:=aP hm
       obtain⟨_,_,_,_,h3,_⟩:=this
       exact fM (by omega) (by omega)
     ·exact fM (by omega) (by omega)
  ·rw[if_neg hi,if_neg hi]
theorem zL {l:List HP}{e i:Nat}{x:HP}(hi:i < e)(hx:l[i]?=some x):elseN l e (e - i) i=if x.faa=4 then some i else if x.faa=3∨x.faa=5 then(match endAt l i with
   | some m=>elseN l e (e - (m+1)) (m+1)
   | none=>elseN l e (e - (i+1)) (i+1))else elseN l e (e - (i+1)) (i+1):=by
 obtain⟨n,hn⟩:∃n,e - i=n+1:=⟨e - i - 1,by omega⟩
 rw[hn,elseN,if_pos hi,hx]
 dsimp only
 split
 ·rfl
 ·split
  ·cases hm:endAt l i with
   | none=>exact fM (by omega) (by omega)
   | some m=>
    obtain⟨_,_,_,_,h3,_⟩:=aP hm
    exact fM (by omega) (by omega)
  ·exact fM (by omega) (by omega)
theorem CR {l:List HP}{e i n:Nat}(hi:e≤i):elseN l e n i=none:=by
 cases n with
 | zero=>rfl
 | succ n=>rw[elseN,if_neg (by omega)]
theorem lQ {l:List HP}{e:Nat}:∀{n i j:Nat},elseN l e n i=some j→i≤j∧j < e∧∃x,l[j]?=some x∧x.faa=4
 | 0,_,_,h=>by rw[elseN]at h;cases h
 | n+1,i,j,h=>by
  rw[elseN]at h
  split at h
  ·rename_i hi
   split at h
   ·rename_i x hx
    split at h
    ·injection h with h;subst h;exact⟨by omega,hi,x,hx,by assumption⟩
    ·split at h
     ·split at h
      ·rename_i m hm
       obtain⟨_,_,_,_,h3,_⟩:=aP hm
       have:=lQ h
       exact⟨by omega,this.2⟩
      ·have:=lQ h
       exact⟨by omega,this.2⟩
     ·have:=lQ h
      exact⟨by omega,this.2⟩
   ·cases h
  ·cases h
theorem bX {l:List HP}{k j:Nat}(h:elseAt l k=some j):∃x e,l[k]?=some x∧x.faa=3∧endAt l k=some e∧k < j∧j < e∧∃y,l[j]?=some y∧y.faa=4:=by
 unfold elseAt at h
 split at h
 ·rename_i x e hx he
  split at h
  ·rename_i h3
   have:=lQ h
   exact⟨x,e,hx,h3,he,by omega,this.2⟩
  ·cases h
 ·cases h
def funsF:List HP→Nat→List Nat
 | [],_=>[]
 | x::l,i=>(if x.faa=0 then [i]else [])++funsF l (i+1)
def aF (l:List HP):List Nat:=funsF l 0
theorem zh {l:List HP}{i:Nat}{x:HP}(hx:l[i]?=some x):funsF (l.drop i) i=(if x.faa=0 then [i]else [])++funsF (l.drop (i+1)) (i+1):=by
 rw[cO hx,funsF]
theorem si:∀{l:List HP} {i k:Nat},k∈funsF l i→i≤k∧k < i+l.length∧∃x,l[k - i]?=some x∧x.faa=0
 | [],_,_,h=>by simp[funsF]at h
 | x::l,i,k,h=>by
  rw[funsF,List.mem_append]at h
  rcases h with h|h
  ·split at h
   ·simp only[List.mem_cons,List.not_mem_nil,or_false]at h
    subst h
    exact⟨by omega,by simp,x,by simp,by assumption⟩
   ·cases h
  ·obtain⟨h1,h2,y,hy,hk⟩:=si h
   refine⟨by omega,by simp only[List.length_cons];omega,y,?_,hk⟩
   rw[show k - i=(k - (i+1))+1 by omega,List.getElem?_cons_succ]
   exact hy
theorem mi {l:List HP}{k:Nat}(h:k∈aF l):k < l.length∧∃x,l[k]?=some x∧x.faa=0:=by
 have:=si h
 simpa using this.2
def findN:List HP→Nat→List UInt8→Option Nat
 | [],_,_=>none
 | x::l,i,s=>if x.faa=0∧x.fac=s then some i else findN l (i+1) s
def kN (l:List HP)(s:List UInt8):Int:=cZ (findN l 0 s)
theorem EQ {l:List HP}{i:Nat}{x:HP}{s:List UInt8}(hx:l[i]?=some x):findN (l.drop i) i s=if x.faa=0∧x.fac=s then some i else findN (l.drop (i+1)) (i+1) s:=by
 rw[cO hx,findN]
theorem tP:∀{l:List HP} {i k:Nat} {s:List UInt8},findN l i s=some k→i≤k∧k < i+l.length∧∃x,l[k - i]?=some x∧x.faa=0∧x.fac=s
 | [],_,_,_,h=>by rw[findN]at h;cases h
 | x::l,i,k,s,h=>by
  rw[findN]at h
  split at h
  ·injection h with h;subst h
   exact⟨by omega,by simp,x,by simp,by assumption⟩
  ·obtain⟨h1,h2,y,hy,hk⟩:=tP h
   refine⟨by omega,by simp only[List.length_cons];omega,y,?_,hk⟩
   rw[show k - i=(k - (i+1))+1 by omega,List.getElem?_cons_succ]
   exact hy
theorem jJ {l:List HP}{k:Nat}{s:List UInt8}(h:findN l 0 s=some k):k < l.length∧∃x,l[k]?=some x∧x.faa=0∧x.fac=s:=by
 have:=tP h
 simpa using this.2
def ka (acc:List (List UInt8))(s:List UInt8):List (List UInt8):=if acc.contains s=true then acc else acc++[s]
def locN (l:List HP)(e:Nat):Nat→Nat→List (List UInt8)→List (List UInt8)
 | 0,_,acc=>acc
 | n+1,i,acc=>if i < e then(match l[i]? with
  | some x=>locN l e n (i+1) (if x.faa=1 then ka acc x.fac else acc)
  | none=>acc)else acc
def localsOf (l:List HP)(k:Int):List (List UInt8):=if 0≤k then(match l[k.toNat]?,endAt l k.toNat with
 | some x,some e=>if x.faa=0 then locN l e (e - k.toNat) k.toNat x.faj else []
 | _,_=>[])else []
theorem Cw {l:List HP}{e i:Nat}{x:HP}{acc:List (List UInt8)}(hi:i < e)(hx:l[i]?=some x):locN l e (e - i) i acc=locN l e (e - (i+1)) (i+1) (if x.faa=1 then ka acc x.fac else acc):=by
 rw[show e - i=(e - (i+1))+1 by omega,locN,if_pos hi,hx]
theorem DE {l:List HP}{e i n:Nat}{acc:List (List UInt8)}(hi:e≤i):locN l e n i acc=acc:=by
 cases n with
 | zero=>rfl
 | succ n=>rw[locN,if_neg (by omega)]
theorem zx (acc:List (List UInt8))(s:List UInt8):(ka acc s).length≤acc.length+1:=by
 unfold ka
 split <;> simp
theorem yN {l:List HP}{e:Nat}:∀(n i:Nat) (acc:List (List UInt8)),(locN l e n i acc).length≤acc.length+n
 | 0,_,_=>by simp[locN]
 | n+1,i,acc=>by
  rw[locN]
  split
  ·split
   ·refine Nat.le_trans (yN n _ _) ?_
    split
    ·have:=zx acc (by assumption:HP).fac;omega
    ·omega
   ·omega
  ·omega
def dR (l:List HP)(locals:List (List UInt8))(t:HX):Bool:=
 if t.faa=1 then locals.contains t.fac
 else if t.faa=7 then(match findN l 0 t.fac with
  | some f=>(match l[f]? with|some x=>(x.faj.length:Int)==t.fas|none=>false)
  | none=>false)
 else true
def ij (l:List HP)(locals:List (List UInt8))(ts:List HX):Bool:=ts.all (dR l locals)
def dep (x:HP)(d:Nat):Nat:=if x.faa=3∨x.faa=5 then d+1 else if x.faa=7 then d - 1 else d
def qZ (l:List HP)(locals:List (List UInt8))(e:Nat):Nat→Nat→Nat→Bool
 | 0,_,_=>true
 | n+1,i,d=>if i < e then(match l[i]? with
  | some x=>if x.faa=0 then false else
   if dep x d≤4∧ij l locals x.fag=true then qZ l locals e n (i+1) (dep x d)else false
  | none=>false)else true
def qb (l:List HP)(i:Nat):Nat→Nat→Bool
 | 0,_=>false
 | n+1,j=>(elseAt l j==some i) || qb l i n (j+1)
theorem oB {l:List HP}{i:Nat}:∀{n j:Nat},qb l i n j=true↔∃k,j≤k∧k < j+n∧elseAt l k=some i
 | 0,j=>by
  rw[qb]
  exact⟨fun h=>(by cases h),fun⟨k,h1,h2,_⟩=>(by omega)⟩
 | n+1,j=>by
  rw[qb,Bool.or_eq_true,oB,beq_iff_eq]
  constructor
  ·rintro(h|⟨k,h1,h2,h3⟩)
   ·exact⟨j,by omega,by omega,h⟩
   ·exact⟨k,by omega,by omega,h3⟩
  ·rintro⟨k,h1,h2,h3⟩
   by_cases hk:k=j
   ·subst hk;exact .inl h3
   ·exact .inr ⟨k,by omega,by omega,h3⟩
def eG (l:List HP)(k e:Nat):Nat→Nat→Bool
 | 0,_=>true
 | n+1,i=>if i < e then(match l[i]? with
  | some x=>(if x.faa=4 then qb l i (i - k) k else true) && eG l k e n (i+1)
  | none=>true)else true
theorem gl {l:List HP}{k e:Nat}:∀{n i:Nat},e - i≤n→(eG l k e n i=true↔∀j x,i≤j→j < e→l[j]?=some x→x.faa=4→qb l j (j - k) k=true)
 | 0,i,h=>⟨fun _ j x h1 h2=>by omega,fun _=>rfl⟩
 | n+1,i,h=>by
  rw[eG]
  by_cases hi:i < e
  ·rw[if_pos hi]
   cases hx:l[i]? with
   | none=>
    refine⟨fun _ j x h1 h2 hj=>?_,fun _=>rfl⟩
    have:l.length≤i:=List.getElem?_eq_none_iff.1 hx
    rw[List.getElem?_eq_none (by omega)]at hj
    cases hj
   | some x=>
    dsimp only
    rw[Bool.and_eq_true,gl (by omega)]
    constructor
    ·rintro⟨h1,h2⟩ j y hj1 hj2 hy hk
     by_cases he:j=i
     ·subst he
      rw[hx]at hy
      injection hy with hy
      subst hy
      rw[if_pos hk]at h1
      exact h1
     ·exact h2 j y (by omega) hj2 hy hk
    ·intro H
     refine⟨?_,fun j y hj1 hj2 hy hk=>H j y (by omega) hj2 hy hk⟩
     split
     ·exact H i x (Nat.le_refl _) hi hx (by assumption)
     ·rfl
  ·rw[if_neg hi]
   exact⟨fun _ j x h1 h2=>by omega,fun _=>rfl⟩
def kP (l:List HP)(locals:List (List UInt8))(k e:Nat):Nat→Nat→Nat→Bool
 | 0,_,_=>true
 | n+1,i,d=>if i < e then(match l[i]? with
  | some x=>if x.faa=0 then false else if x.faa=4∧qb l i (i - k) k=false then false else
   if dep x d≤4∧ij l locals x.fag=true then kP l locals k e n (i+1) (dep x d)else false
  | none=>false)else true
theorem AN {l:List HP}{locals:List (List UInt8)}{k e i d:Nat}{x:HP}(hi:i < e)(hx:l[i]?=some x):kP l locals k e (e - i) i d=if x.faa=0 then false else if x.faa=4∧qb l i (i - k) k=false then false else if dep x d≤4∧ij l locals x.fag=true then kP l locals k e (e - (i+1)) (i+1) (dep x d)else false:=by
 rw[show e - i=(e - (i+1))+1 by omega,kP,if_pos hi,hx]
theorem CX {l:List HP}{locals:List (List UInt8)}{k e i d n:Nat}(hi:e≤i):kP l locals k e n i d=true:=by
 cases n with
 | zero=>rfl
 | succ n=>rw[kP,if_neg (by omega)]
theorem zk {l:List HP}{locals:List (List UInt8)}{k e:Nat}:∀{n i d:Nat},kP l locals k e n i d=(qZ l locals e n i d && eG l k e n i)
 | 0,i,d=>rfl
 | n+1,i,d=>by
  rw[kP,qZ,eG]
  by_cases hi:i < e
  ·rw[if_pos hi,if_pos hi,if_pos hi]
   cases hx:l[i]? with
   | none=>rfl
   | some x=>
    dsimp only
    by_cases h0:x.faa=0
    ·rw[if_pos h0,if_pos h0];rfl
    ·rw[if_neg h0,if_neg h0]
     rw[zk]
     by_cases h4:x.faa=4
     ·rw[if_pos h4]
      cases ha:qb l i (i - k) k with
      | false=>rw[if_pos ⟨h4,rfl⟩];simp
      | true=>
       rw[if_neg (by simp)]
       split <;> simp_all
     ·rw[if_neg (by simp[h4]),if_neg h4]
      split <;> simp_all
  ·rw[if_neg hi,if_neg hi,if_neg hi];rfl
def uV (l:List HP)(k e:Nat):Bool:=decide ((localsOf l (k:Int)).length≤8) && qZ l (localsOf l (k:Int)) e (e - (k+1)) (k+1) 0
def lp (l:List HP)(k e:Nat):Bool:=decide ((localsOf l (k:Int)).length≤8) && kP l (localsOf l (k:Int)) k e (e - (k+1)) (k+1) 0
theorem uJ {l:List HP}{k e:Nat}:lp l k e=(uV l k e && eG l k e (e - (k+1)) (k+1)):=by
 rw[lp,uV,zk,Bool.and_assoc]
theorem AM {l:List HP}{k e:Nat}(h:uV l k e=true)(he:e≤l.length):∀i x,k < i→i < e→l[i]?=some x→x.faa≠0:=by
 rw[uV,Bool.and_eq_true]at h
 have key:∀(n i d:Nat),e - i≤n→qZ l (localsOf l (k:Int)) e n i d=true→∀j x,i≤j→j < e→l[j]?=some x→x.faa≠0:=by
  intro n
  induction n with
  | zero=>intro i d hn _ j x h1 h2;omega
  | succ n ih=>
   intro i d hn hb j x h1 h2 hx
   rw[qZ,if_pos (by omega)]at hb
   obtain⟨y,hy⟩:=ag (l:=l) (k:=i) (by omega)
   rw[hy]at hb
   dsimp only at hb
   split at hb
   ·cases hb
   ·rename_i h0
    split at hb
    ·by_cases hj:j=i
     ·subst hj
      rw[hy]at hx
      injection hx with hx
      subst hx
      exact h0
     ·exact ih (i+1) _ (by omega) hb j x (by omega) h2 hx
    ·cases hb
 exact fun i x h1 h2 hx=>key _ _ _ (Nat.le_refl _) h.2 i x (by omega) h2 hx
def bL (F:Nat→Nat→Bool)(l:List HP):Nat→Nat→Bool
 | 0,k=>decide (l.length≤k)
 | n+1,k=>if k < l.length then(match l[k]?,endAt l k with
  | some x,some e=>if x.faa=0∧F k e=true then bL F l n (e+1)else false
  | _,_=>false)else true
theorem lS {F:Nat→Nat→Bool}{l:List HP}{k n:Nat}{x:HP}(hx:l[k]?=some x)(hn:l.length - k≤n):bL F l n k=match endAt l k with|some e=>if x.faa=0∧F k e=true then bL F l (l.length - (e+1)) (e+1)else false|none=>false:=by
 have more:∀(n m k:Nat),l.length - k≤n→l.length - k≤m→bL F l n k=bL F l m k:=by
  intro n
  induction n with
  | zero=>
   intro m k h1 h2
   rw[bL,decide_eq_true (by omega)]
   cases m with
   | zero=>rw[bL,decide_eq_true (by omega)]
   | succ m=>rw[bL,if_neg (by omega)]
  | succ n ih=>
   intro m k h1 h2
   cases m with
   | zero=>rw[bL,bL,if_neg (by omega),decide_eq_true (by omega)]
   | succ m=>
    rw[bL,bL]
    split
    ·split
     ·rename_i x e hx he
      obtain⟨_,_,_,_,h3,_⟩:=aP he
      split
      ·exact ih m (e+1) (by omega) (by omega)
      ·rfl
     ·rfl
    ·rfl
 have hk:k < l.length:=by
  rcases Nat.lt_or_ge k l.length with h|h
  ·exact h
  ·rw[List.getElem?_eq_none h]at hx;cases hx
 obtain⟨m,rfl⟩:∃m,n=m+1:=⟨n - 1,by omega⟩
 rw[bL,if_pos hk,hx]
 cases he:endAt l k with
 | none=>rfl
 | some e=>
  obtain⟨_,_,_,_,h3,_⟩:=aP he
  dsimp only
  split
  ·exact more _ _ _ (by omega) (by omega)
  ·rfl
theorem tl {F:Nat→Nat→Bool}{l:List HP}{k n:Nat}(hk:l.length≤k):bL F l n k=true:=by
 cases n with
 | zero=>rw[bL,decide_eq_true hk]
 | succ n=>rw[bL,if_neg (by omega)]
def xI (l:List HP):Bool:=eG l 0 l.length l.length 0
def cr (l:List HP)(k:Nat):Bool:=match l[k]? with|some x=>findN l 0 x.fac==some k|none=>false
theorem vT {l:List HP}:∀(n k:Nat),l.length - k≤n→k≤l.length→(∀j m,j < k→endAt l j=some m→m < k)→
  (bL (lp l) l (l.length - k) k=(bL (uV l) l (l.length - k) k && eG l 0 l.length (l.length - k) k))
 | n,k,hn,hk,hP=>by
  by_cases hlt:k < l.length
  ·obtain⟨x,hx⟩:=ag hlt
   rw[lS hx (Nat.le_refl _),lS hx (Nat.le_refl _)]
   cases he:endAt l k with
   | none=>simp
   | some e=>
    dsimp only
    obtain⟨_,hx',ho,_,h3,h4⟩:=aP he
    obtain⟨z,hz,hz7⟩:=bP he
    by_cases h0:x.faa=0
    ·have hP':∀j m,j < e+1→endAt l j=some m→m < e+1:=by
      intro j m hj hm
      rcases Nat.lt_trichotomy j k with hjk|hjk|hjk
      ·have:=hP j m hjk hm;omega
      ·subst hjk
       rw[he]at hm
       injection hm with hm
       omega
      ·obtain⟨y,hy,hyo,_⟩:=aP hm
       by_cases hje:j=e
       ·subst hje
        rw[hz]at hy
        injection hy with hy
        subst hy
        rw[opensK_iff]at hyo
        omega
       ·obtain⟨m',hm',_,h5⟩:=oT he hjk (by omega) hy hyo
        rw[hm]at hm'
        injection hm' with hm'
        omega
     cases n with
     | zero=>omega
     | succ n=>
      have ih:=vT (l:=l) n (e+1) (by omega) (by omega) hP'
      have hels:eG l 0 l.length (l.length - k) k=(eG l k e (e - (k+1)) (k+1) && eG l 0 l.length (l.length - (e+1)) (e+1)):=by
       rw[Bool.eq_iff_iff,Bool.and_eq_true,gl (Nat.le_refl _),gl (Nat.le_refl _),gl (Nat.le_refl _)]
       constructor
       ·intro H
        refine⟨fun j y h5 h6 hy h7=>?_,fun j y h5 h6 hy h7=>H j y (by omega) h6 hy h7⟩
        have:=H j y (by omega) (by omega) hy h7
        rw[oB]at this ⊢
        obtain⟨i,h8,h9,h10⟩:=this
        refine⟨i,?_,by omega,h10⟩
        rcases Nat.lt_or_ge i k with h11|h11
        ·obtain⟨_,m,_,_,h12,_,h13,_⟩:=bX h10
         have:=hP i m h11 h12
         omega
        ·exact h11
       ·rintro⟨H1,H2⟩ j y h5 h6 hy h7
        rcases Nat.lt_or_ge e j with h8|h8
        ·exact H2 j y h8 h6 hy h7
        ·have hje:j≠e:=fun h=>by
          subst h
          rw[hz]at hy
          injection hy with hy
          subst hy
          omega
         have hjk:j≠k:=fun h=>by
          subst h
          rw[hx]at hy
          injection hy with hy
          subst hy
          omega
         have:=H1 j y (by omega) (by omega) hy h7
         rw[oB]at this ⊢
         obtain⟨i,h9,h10,h11⟩:=this
         exact⟨i,by omega,by omega,h11⟩
      rw[hels,ih,uJ]
      cases uV l k e <;> cases eG l k e (e - (k+1)) (k+1) <;> simp[h0]
    ·rw[if_neg (by simp[h0]),if_neg (by simp[h0])];rfl
  ·have:k=l.length:=by omega
   subst this
   rw[tl (Nat.le_refl _),tl (Nat.le_refl _)]
   rw[Nat.sub_self]
   rfl
def jX:List UInt8:=[109,97,105,110]
def mT (l:List HP):Bool:=match l with
 | []=>false
 | x::_=>x.faa==0 && (x.fac==jX && x.faj.length==0)
def ax (l:List HP):Bool:=decide (l.length≤60) && (decide (1≤(aF l).length∧(aF l).length≤6) && (l.all dy && (mT l && ((aF l).all (cr l) && (bL (uV l) l l.length 0 && xI l)))))
theorem tT (l:List HP):bL (lp l) l l.length 0=(bL (uV l) l l.length 0 && xI l):=by
 have:=vT (l:=l) _ 0 (Nat.le_refl _) (by omega) (fun j m h=>by omega)
 rw[Nat.sub_zero]at this
 exact this
def StkOk (l:List HP)(e:Nat):Nat→List Nat→Prop
 | i,[]=>endN (l.drop i) i 1=some e
 | i,m::es=>i≤m∧endN (l.drop i) i 1=some m∧StkOk l e (m+1) es
theorem StkOk.push {l:List HP}{e i:Nat}{es:List Nat}{x:HP}(h:StkOk l e i es)(hx:l[i]?=some x)(ho:cV x.faa=true):∃m,endAt l i=some m∧i < m∧StkOk l e (i+1) (m::es):=by
 have key:∀m',endN (l.drop i) i 1=some m'→∃m,endAt l i=some m∧i < m∧endN (l.drop (i+1)) (i+1) 1=some m∧endN (l.drop (m+1)) (m+1) 1=some m':=by
  intro m' hm
  rw[cN hx,if_pos ho,ll _ (Nat.le_refl _) (Nat.le_refl 1) (Nat.le_refl 1)]at hm
  cases h1:endN (l.drop (i+1)) (i+1) 1 with
  | none=>rw[h1]at hm;cases hm
  | some m=>
   rw[h1]at hm
   have:=gY h1
   exact⟨m,by rw[nP hx ho];exact h1,by omega,rfl,hm⟩
 cases es with
 | nil=>
  obtain⟨m,h1,h2,h3,h4⟩:=key e h
  exact⟨m,h1,h2,by omega,h3,h4⟩
 | cons m' es=>
  obtain⟨g1,g2,g3⟩:=h
  obtain⟨m,h1,h2,h3,h4⟩:=key m' g2
  have:=gY h4
  exact⟨m,h1,h2,by omega,h3,by omega,h4,g3⟩
theorem StkOk.other {l:List HP}{e i:Nat}{es:List Nat}{x:HP}(h:StkOk l e i es)(hx:l[i]?=some x)(ho:cV x.faa=false)(h7:x.faa≠7):StkOk l e (i+1) es:=by
 have key:∀m',endN (l.drop i) i 1=some m'→endN (l.drop (i+1)) (i+1) 1=some m':=by
  intro m' hm
  rw[cN hx,if_neg (by simp[ho]),if_neg h7]at hm
  exact hm
 cases es with
 | nil=>exact key e h
 | cons m' es=>
  obtain⟨g1,g2,g3⟩:=h
  have:=gY (key m' g2)
  exact⟨by omega,key m' g2,g3⟩
theorem StkOk.pop {l:List HP}{e i:Nat}{es:List Nat}{x:HP}(h:StkOk l e i es)(hx:l[i]?=some x)(h7:x.faa=7):(es=[]∧i=e)∨∃es',es=i::es'∧StkOk l e (i+1) es':=by
 have ho:¬cV x.faa=true:=by rw[opensK_iff];omega
 cases es with
 | nil=>
  unfold StkOk at h
  rw[cN hx,if_neg ho,if_pos h7,if_pos rfl]at h
  injection h with h
  exact .inl ⟨rfl,h⟩
 | cons m' es=>
  obtain⟨g1,g2,g3⟩:=h
  rw[cN hx,if_neg ho,if_pos h7,if_pos rfl]at g2
  injection g2 with g2
  subst g2
  exact .inr ⟨es,rfl,g3⟩
theorem StkOk.le {l:List HP}{e:Nat}:∀{i:Nat} {es:List Nat},StkOk l e i es→i≤e
 | i,[],h=>(gY h).1
 | i,m::es,h=>by
  have:=StkOk.le h.2.2
  have:=h.1
  omega
inductive Ex where
 | node (t:HX) (es:List Ex)
mutual
def Ex.toks:Ex→List HX
 | .node t es=>t::au es
def au:List Ex→List HX
 | []=>[]
 | a::es=>a.toks++au es
end
mutual
def Ex.ok:Ex→Prop
 | .node t es=>fG t=true∧es.length=ar t∧jd es
def jd:List Ex→Prop
 | []=>True
 | a::es=>a.ok∧jd es
end
theorem Ex.toks_pos (e:Ex):0 < e.toks.length:=by cases e;simp[Ex.toks]
theorem gd:∀(a b:List Ex),au (a++b)=au a++au b
 | [],b=>by rw[List.nil_append,au,List.nil_append]
 | x::a,b=>by rw[List.cons_append,au,au,gd a b,List.append_assoc]
theorem tZ:∀{l:List Ex} (n:Nat),jd l→jd (l.take n)
 | [],n,h=>by rw[List.take_nil];exact h
 | x::l,0,h=>by rw[List.take_zero];trivial
 | x::l,n+1,h=>by rw[List.take_succ_cons];exact⟨h.1,tZ n h.2⟩
theorem ui:∀{l:List Ex} (n:Nat),jd l→jd (l.drop n)
 | [],n,h=>by rw[List.drop_nil];exact h
 | x::l,0,h=>h
 | x::l,n+1,h=>by rw[List.drop_succ_cons];exact ui n h.2
theorem tF:∀{l:List HX} {p n e:Nat},endL l p n=some e→∃es:List Ex,es.length=n∧jd es∧∃rest,l=au es++rest∧p+(au es).length=e
 | l,p,0,e,h=>by
  have h:some p=some e:=by cases l <;> exact h
  injection h with h
  exact⟨[],rfl,trivial,l,rfl,by simp[au];omega⟩
 | [],_,_+1,_,h=>by rw[endL]at h;cases h
 | t::l,p,n+1,e,h=>by
  rw[endL]at h
  split at h
  ·rename_i hok
   obtain⟨es,h1,h2,rest,h3,h4⟩:=tF h
   refine⟨.node t (es.take (ar t))::es.drop (ar t),by simp;omega,⟨⟨hok,by simp;omega,tZ _ h2⟩,ui _ h2⟩,rest,?_,?_⟩
   ·rw[au,Ex.toks,List.cons_append,←gd,List.take_append_drop,List.cons_append,←h3]
   ·rw[au,Ex.toks,List.cons_append,←gd,List.take_append_drop,List.length_cons];omega
  ·cases h
mutual
theorem Ex.endL:∀(e:Ex),e.ok→∀(r:List HX) (p n:Nat),Go.Proofs.YtjmplnfiabmalaaGreat.endL (e.toks++r) p (n+1)=Go.Proofs.YtjmplnfiabmalaaGreat.endL r (p+e.toks.length) n
 | .node t es,h,r,p,n=>by
  rw[Ex.toks,List.cons_append,Go.Proofs.YtjmplnfiabmalaaGreat.endL,if_pos h.1,show n+ar t=n+es.length by rw[h.2.1],yk es h.2.2,List.length_cons]
  congr 1;omega
theorem yk:∀(es:List Ex),jd es→∀(r:List HX) (p n:Nat),Go.Proofs.YtjmplnfiabmalaaGreat.endL (au es++r) p (n+es.length)=Go.Proofs.YtjmplnfiabmalaaGreat.endL r (p+(au es).length) n
 | [],_,r,p,n=>by rw[au];simp
 | a::es,h,r,p,n=>by
  rw[au,List.append_assoc,List.length_cons,show n+(es.length+1)=(n+es.length)+1 by omega,Ex.endL a h.1,yk es h.2,List.length_append]
  congr 1;omega
end
theorem gV {l:List HX}(h:bq l=true):∃e:Ex,e.ok∧l=e.toks:=by
 unfold bq at h
 simp only[Bool.and_eq_true,decide_eq_true_eq,beq_iff_eq]at h
 obtain⟨_,h1,h2⟩:=h
 rw[fC,if_pos (by omega)]at h2
 show ∃e:Ex,e.ok∧l=e.toks
 cases he:Go.Proofs.YtjmplnfiabmalaaGreat.endL (l.drop (0:Int).toNat) (0:Int).toNat 1 with
 | none=>rw[he]at h2;simp only[cZ]at h2;omega
 | some e=>
  rw[he]at h2
  simp only[cZ]at h2
  obtain⟨es,g1,g2,rest,g3,g4⟩:=tF he
  match es,g1 with
  | [a],_=>
   rw[au,au,List.append_nil]at g3 g4
   have e0:l.drop (0:Int).toNat=l:=rfl
   rw[e0]at g3
   have:rest=[]:=by
    have:=congrArg List.length g3
    rw[List.length_append]at this
    have e1:(0:Int).toNat=0:=rfl
    rw[e1]at g4
    exact List.length_eq_zero_iff.1 (by omega)
   subst this
   exact⟨a,g2.1,by rw[g3,List.append_nil]⟩
def jv (l:List HX)(p:Nat)(e:Ex):Prop:=∃r,l.drop p=e.toks++r
def jH (l:List HX)(p:Nat)(es:List Ex):Prop:=∃r,l.drop p=au es++r
theorem nx {l:List HX}{p:Nat}{e:Ex}(h:jv l p e)(ho:e.ok):fC l (p:Int)=((p+e.toks.length:Nat):Int):=by
 obtain⟨r,h⟩:=h
 rw[fC,if_pos (by omega),Int.toNat_natCast,h,show(1:Nat)=0+1 from rfl,Ex.endL e ho]
 cases r <;> rfl
theorem nr {l:List HX}{p:Nat}{t:HX}{es:List Ex}(h:jv l p (.node t es)):l[p]?=some t∧jH l (p+1) es:=by
 obtain⟨r,h⟩:=h
 rw[Ex.toks,List.cons_append]at h
 refine⟨?_,r,?_⟩
 ·have:=congrArg (·[0]?) h
  simpa [List.getElem?_drop]using this
 ·have:=congrArg (·.drop 1) h
  simpa [List.drop_drop]using this
theorem eu {l:List HX}{p:Nat}{a:Ex}{es:List Ex}(h:jH l p (a::es)):jv l p a∧jH l (p+a.toks.length) es:=by
 obtain⟨r,h⟩:=h
 rw[au,List.append_assoc]at h
 refine⟨⟨_,h⟩,r,?_⟩
 rw[←List.drop_drop,h,List.drop_left]
def pb:Nat→List Ex→List Nat
 | _,[]=>[]
 | p,a::es=>p::pb (p+a.toks.length) es
theorem yn:∀(p:Nat) (es:List Ex),(pb p es).length=es.length
 | _,[]=>rfl
 | p,a::es=>by rw[pb,List.length_cons,yn,List.length_cons]
theorem BF:∀{l:List HX} {p:Nat} {es:List Ex} {k:Nat} {a:Ex},jH l p es→es[k]?=some a→∃q,(pb p es)[k]?=some q∧jv l q a
 | _,_,[],_,_,_,h=>by simp at h
 | l,p,b::es,0,a,hs,h=>by
  rw[List.getElem?_cons_zero]at h
  injection h with h
  subst h
  exact⟨p,by rw[pb,List.getElem?_cons_zero],(eu hs).1⟩
 | l,p,b::es,k+1,a,hs,h=>by
  rw[List.getElem?_cons_succ]at h
  obtain⟨q,h1,h2⟩:=BF (eu hs).2 h
  exact⟨q,by rw[pb,List.getElem?_cons_succ];exact h1,h2⟩
theorem Di {t:HX}(h:fG t=true):t.faa=0∨t.faa=1∨t.faa=7∨(2≤t.faa∧t.faa≤6):=by
 unfold fG at h
 split at h
 ·omega
 ·split at h
  ·omega
  ·split at h
   ·omega
   ·simp only[Bool.and_eq_true,within_iff]at h
    omega
theorem FK {t:HX}(h:fG t=true):((t.faa=0∨t.faa=1)→ar t=0)∧(t.faa=7→(ar t:Int)=t.fas)∧(2≤t.faa→t.faa≤6→ar t=2):=by
 obtain⟨e1,_⟩:=zC h
 unfold qR at e1
 rw[if_neg (by simp[h])]at e1
 refine⟨fun h0=>?_,fun h7=>?_,fun h2 h6=>?_⟩
 ·rw[if_neg (by omega),if_pos h0]at e1;omega
 ·rw[if_pos h7]at e1;omega
 ·rw[if_neg (by omega),if_neg (by omega)]at e1;omega
theorem rg:∀{l:List HX} {p:Nat} {es:List Ex} {j:Nat} {a:Ex},jH l p es→es[j]?=some a→jv l (p+(au (es.take j)).length) a
 | _,_,[],_,_,_,h=>by simp at h
 | l,p,b::es,0,a,hs,h=>by
  rw[List.getElem?_cons_zero]at h
  injection h with h
  subst h
  simpa [au]using(eu hs).1
 | l,p,b::es,j+1,a,hs,h=>by
  rw[List.getElem?_cons_succ]at h
  have:=rg (eu hs).2 h
  rw[List.take_succ_cons,au,List.length_append,←Nat.add_assoc]
  exact this
end Go.Proofs.YtjmplnfiabmalaaGreat
namespace Go.Proofs.YtjmplnfiabmalaaGreat
noncomputable section
open Go.Sim
set_option maxRecDepth 100000
set_option maxHeartbeats 4000000
structure Cx where
 p:List HP
 b:HH
 framed:Bool
 words:Int
 args:Int
structure Sc where
 f:Nat
 chain:List Int
 locals:List (List UInt8)
 first:Int
 outer:Bool
structure Gs where
 items:List HO
 most:Int
 start:Bool
def pE (C:Cx)(s:Gs)(depth code arg line:Int)(chain:List Int):HO:=⟨⟨code,arg⟩,line,s.start,chain,if C.framed=true∧0 < s.items.length then 0 else depth,C.framed && decide (0 < s.items.length)⟩
def aI (C:Cx)(s:Gs)(depth code arg line:Int)(chain:List Int):Gs:=⟨s.items++[pE C s depth code arg line chain],s.most,false⟩
def EJ (C:Cx)(x:Sc)(i:Int):Bool:=x.outer && decide (i < C.args)
def pC (C:Cx)(x:Sc)(i:Int):Int:=if x.outer=true then i - C.args else x.first+i
def fQ (C:Cx)(store:Bool):Int:=(if C.framed=true then 1 else 3)+(if store=true then 1 else 0)
def jq (C:Cx)(x:Sc)(depth i:Int):Int:=
 if C.framed=true then(if EJ C x i=true then 1+(C.args - i)else -1 - pC C x i)
 else(if EJ C x i=true then depth+(C.args - i)else depth - 1 - pC C x i)
def Ef (C:Cx)(x:Sc)(s:Gs)(depth i line:Int):Gs:=aI C s depth (fQ C false) (jq C x depth i) line x.chain
def gK (C:Cx)(x:Sc)(s:Gs)(depth i line:Int)(chain:List Int):Gs:=aI C s depth (fQ C true) (jq C x depth i) line chain
def eW (C:Cx)(y:Sc)(chain:List Int)(line:Int):Nat→Int→Gs→Gs
 | 0,_,s=>s
 | n+1,d,s=>eW C y chain line n (d - 1) (gK C y s d n line chain)
def gB (C:Cx)(y:Sc)(chain:List Int)(line d:Int):Nat→Nat→Gs→Gs
 | 0,_,s=>s
 | n+1,i,s=>gB C y chain line d n (i+1) (gK C y (aI C s d 0 0 line chain) (d+1) i line chain)
def cE (l:List HO)(j:Int)(v:Int):List HO:=if 0≤j then(match l[j.toNat]? with
 | some x=>l.set j.toNat ⟨⟨x.fad.fab,v⟩,x.fat,x.fam,x.fax,x.faw,x.faE⟩
 | none=>l)else l
def dl (l:List HO)(v:Int):List Int→List HO
 | []=>l
 | j::js=>dl (cE l j v) v js
def qN (p:List HP)(g:Nat):Nat:=((p.take g).filter fun x=>x.faa==0).length
def cM (C:Cx)(inside:List Nat)(g:Nat)(n:Nat):Bool:=decide ((inside.length:Int)≤C.b.far) && (decide (bR C.p (g:Int) - g≤9) && (decide (n < 200) && !inside.contains g))
def tW (C:Cx)(rep:Sc→List Nat→Nat→Nat→Int→Gs→Gs)(x:Sc)(inside:List Nat)(line:Nat)(t:HX)(d:Int)(s:Gs):Gs:=
 if t.faa=0 then aI C s d 0 t.fas line x.chain
 else if t.faa=1 then Ef C x s d (fH x.locals t.fac) line
 else if t.faa=7 then(match findN C.p 0 t.fac with
  | some g=>if cM C inside g s.items.length=true then rep x inside line g d s else aI C s d 12 (qN C.p g) line x.chain
  | none=>s)
 else aI C s d (5+t.faa - 2) 0 line x.chain
mutual
def iD (C:Cx)(rep:Sc→List Nat→Nat→Nat→Int→Gs→Gs)(x:Sc)(inside:List Nat)(line:Nat):Ex→Int→Gs→Gs
 | .node t es,d,s=>tW C rep x inside line t (d+es.length) (eV C rep x inside line es d s)
def eV (C:Cx)(rep:Sc→List Nat→Nat→Nat→Int→Gs→Gs)(x:Sc)(inside:List Nat)(line:Nat):List Ex→Int→Gs→Gs
 | [],_,s=>s
 | a::es,d,s=>eV C rep x inside line es (d+1) (iD C rep x inside line a d s)
end
def dD (C:Cx)(x:Sc):Int:=if x.outer=true then(x.locals.length:Int) - C.args else x.first+x.locals.length
def argsN (p:List HP)(g:Nat):Nat:=match p[g]? with|some l=>l.faj.length|none=>0
def cu (C:Cx)(x:Sc)(line g:Nat):Sc:=⟨g,x.chain++[(line:Int)],localsOf C.p (g:Int),dD C x,false⟩
def mA (C:Cx)(x:Sc)(line g:Nat)(d:Int)(s:Gs):Gs:=
 gB C (cu C x line g) x.chain line (d - argsN C.p g) ((localsOf C.p (g:Int)).length - argsN C.p g) (argsN C.p g)
  (eW C (cu C x line g) x.chain line (argsN C.p g) d ⟨s.items,max s.most (dD C x+(localsOf C.p (g:Int)).length),s.start⟩)
def fT (C:Cx)(x:Sc)(line:Nat)(d:Int)(s:Gs):Gs:=if s.start=true then aI C s d 15 0 line x.chain else s
def uv (C:Cx)(lines:Sc→List Nat→Int→Gs→Gs×List Int)(x:Sc)(inside:List Nat)(line g:Nat)(d:Int)(s:Gs):Gs:=
 let r:=lines (cu C x line g) (inside++[g]) (d - argsN C.p g) (fT C x line (d - argsN C.p g) (mA C x line g d s))
 ⟨dl r.1.items r.1.items.length r.2,r.1.most,r.1.start⟩
def Ai (p:List HP)(k:Nat):Nat→Option Nat
 | 0=>none
 | n+1=>if endAt p n=some k∨elseAt p n=some k then some n else Ai p k n
def aW (p:List HP)(k:Nat):Nat:=(Ai p k p.length).getD 0
def fj (p:List HP)(k:Nat):Int:=match p[k]? with|some x=>x.faa|none=> -1
structure Ls where
 g:Gs
 heads:List Int
 pos:List Int
 lv:List Int
def exL (l:List HX):Ex:=if h:bq l=true then Classical.choose (gV h)else .node ⟨0,0,[]⟩ []
theorem wX {l:List HX}(h:bq l=true):(exL l).ok∧l=(exL l).toks:=by
 rw[exL,dif_pos h]
 exact Classical.choose_spec (gV h)
def atL (l:List Int)(k:Nat):Int:=l[k]?.getD 0
def bM (C:Cx)(x:Sc)(k:Nat)(last:Bool)(d:Int)(L:Ls):Ls:=
 if x.outer=true then(if C.framed=true then{L with g:=aI C L.g d 14 C.args k x.chain} else{L with g:=aI C L.g d 16 (C.args+16 * C.words) k x.chain})
 else if last=true then L
 else{L with g:=aI C L.g d 10 0 k x.chain,lv:=L.lv++[(L.g.items.length:Int)]}
def eC (C:Cx)(rep:Sc→List Nat→Nat→Nat→Int→Gs→Gs)(x:Sc)(inside:List Nat)(base:Int)(k:Nat)(ln:HP)(L:Ls):Ls:=
 if ln.faa=4 then
  let g:=aI C L.g base 10 0 k x.chain
  {L with g:=⟨cE g.items (atL L.pos (aW C.p k)) g.items.length,g.most,g.start⟩,pos:=L.pos.set k L.g.items.length}
 else if ln.faa=7 then
  if aW C.p k=x.f then bM C x k true (base+1) {L with g:=aI C L.g base 0 0 k x.chain}
  else if fj C.p (aW C.p k)=5 then{L with g:=aI C L.g base 10 (atL L.heads (aW C.p k)) k x.chain}
  else L
 else
  let L1:Ls:={L with g:=iD C rep x inside k (exL ln.fag) base ⟨L.g.items,L.g.most,true⟩,heads:=L.heads.set k L.g.items.length}
  if ln.faa=1 then{L1 with g:=gK C x L1.g (base+1) (fH x.locals ln.fac) k x.chain}
  else if ln.faa=2 then{L1 with g:=aI C L1.g (base+1) 17 0 k x.chain}
  else if ln.faa=6 then bM C x k false (base+1) L1
  else{L1 with g:=aI C L1.g (base+1) 11 0 k x.chain,pos:=L1.pos.set k L1.g.items.length}
def kG (p:List HP)(k:Nat):Nat:=match elseAt p (aW p k)with|some j=>j|none=>aW p k
def co (C:Cx)(x:Sc)(k:Nat)(ln:HP)(L:Ls):Ls:=
 if ln.faa=7∧aW C.p k≠x.f then{L with g:=⟨cE L.g.items (atL L.pos (kG C.p k)) L.g.items.length,L.g.most,L.g.start⟩} else L
def nt (C:Cx)(rep:Sc→List Nat→Nat→Nat→Int→Gs→Gs)(x:Sc)(inside:List Nat)(base:Int):Nat→Nat→Ls→Ls
 | 0,_,L=>L
 | n+1,k,L=>match C.p[k]? with
  | some ln=>nt C rep x inside base n (k+1) (co C x k ln (eC C rep x inside base k ln L))
  | none=>L
def dK (C:Cx)(s:Gs):Ls:=⟨s,List.replicate C.p.length 0,List.replicate C.p.length 0,[]⟩
def oq (p:List HP)(f:Nat):Nat:=(endAt p f).getD 0
def bF (C:Cx)(rep:Sc→List Nat→Nat→Nat→Int→Gs→Gs)(x:Sc)(inside:List Nat)(base:Int)(s:Gs):Gs×List Int:=
 let L:=nt C rep x inside base (oq C.p x.f - x.f) (x.f+1) (dK C s)
 (L.g,L.lv)
def cH (C:Cx):Nat→Sc→List Nat→Nat→Nat→Int→Gs→Gs
 | 0=>fun _ _ _ _ _ s=>s
 | n+1=>uv C (bF C (cH C n))
def gu (C:Cx)(f:Nat):Gs:=aI C ⟨[],(localsOf C.p (f:Int)).length - C.args,false⟩ 0 (if C.framed=true then 13 else 15) C.words f []
def bU (C:Cx)(f:Nat):Sc:=⟨f,[],localsOf C.p (f:Int),0,true⟩
def eb (C:Cx)(f:Nat):Gs:=(bF C (cH C C.b.far.toNat) (bU C f) [f] C.words (gu C f)).1
end
end Go.Proofs.YtjmplnfiabmalaaGreat
namespace Go.Proofs.YtjmplnfiabmalaaGreat
open Go.Sim
set_option maxRecDepth 100000
set_option maxHeartbeats 4000000
theorem bg {α:Type}{l:List α}{k:Nat}{x:α}(h:l[k]?=some x):k < l.length:=by
 rcases Nat.lt_or_ge k l.length with h'|h'
 ·exact h'
 ·rw[List.getElem?_eq_none h']at h;cases h
theorem vm {l:List HP}{i j e:Nat}(hi:endAt l i=some e)(hj:endAt l j=some e):i=j:=by
 have key:∀{i j:Nat},endAt l i=some e→endAt l j=some e→i < j→False:=by
  intro i j hi hj hlt
  obtain⟨x,hx,ho,_,h1,_⟩:=aP hj
  obtain⟨m,hm,_,h2⟩:=oT hi hlt h1 hx ho
  rw[hj]at hm
  injection hm with hm
  omega
 rcases Nat.lt_trichotomy i j with h|h|h
 ·exact(key hi hj h).elim
 ·exact h
 ·exact(key hj hi h).elim
theorem mr {l:List HP}{e:Nat}:∀{n i j:Nat},elseN l e n i=some j→∀k x m,i≤k→k < j→l[k]?=some x→(x.faa=3∨x.faa=5)→endAt l k=some m→m < j
 | 0,_,_,h=>by rw[elseN]at h;cases h
 | n+1,i,j,h=>by
  intro k x m h1 h2 hx h3 hm
  rw[elseN]at h
  split at h
  ·split at h
   ·rename_i y hy
    split at h
    ·injection h with h;omega
    ·split at h
     ·split at h
      ·rename_i m' hm'
       have hin:=lQ h
       obtain⟨_,_,_,_,g1,_⟩:=aP hm'
       by_cases hk:k=i
       ·subst hk
        rw[hm']at hm
        injection hm with hm
        omega
       ·by_cases hk2:k≤m'
        ·by_cases hk3:k=m'
         ·subst hk3
          obtain⟨z,hz,h7⟩:=bP hm'
          rw[hx]at hz
          injection hz with hz
          subst hz
          omega
         ·obtain⟨m2,hm2,_,g2⟩:=oT hm' (by omega) (by omega) hx (by rw[opensK_iff];omega)
          rw[hm]at hm2
          injection hm2 with hm2
          omega
        ·exact mr h k x m (by omega) h2 hx h3 hm
      ·rename_i hno
       by_cases hk:k=i
       ·subst hk
        rw[hno]at hm
        cases hm
       ·exact mr h k x m (by omega) h2 hx h3 hm
     ·by_cases hk:k=i
      ·subst hk
       rw[hx]at hy
       injection hy with hy
       subst hy
       rename_i hne
       exact absurd h3 hne
      ·exact mr h k x m (by omega) h2 hx h3 hm
   ·cases h
  ·cases h
theorem mX {l:List HP}{i j k:Nat}(hi:elseAt l i=some k)(hj:elseAt l j=some k):i=j:=by
 have key:∀{i j:Nat},elseAt l i=some k→elseAt l j=some k→i < j→False:=by
  intro i j hi hj hlt
  obtain⟨y,ej,hy,h3,hej,h4,h5,_⟩:=bX hj
  unfold elseAt at hi
  split at hi
  ·split at hi
   ·have:=mr hi j y ej (by omega) h4 hy (.inl h3) hej
    omega
   ·cases hi
  ·cases hi
 rcases Nat.lt_trichotomy i j with h|h|h
 ·exact(key hi hj h).elim
 ·exact h
 ·exact(key hj hi h).elim
theorem pP {p:List HP}{k i:Nat}:∀{n:Nat},Ai p k n=some i→i < n∧(endAt p i=some k∨elseAt p i=some k)
 | 0,h=>by rw[Ai]at h;cases h
 | n+1,h=>by
  rw[Ai]at h
  split at h
  ·injection h with h;subst h;exact⟨by omega,by assumption⟩
  ·have:=pP h;exact⟨by omega,this.2⟩
theorem uj {p:List HP}{k i:Nat}(hi:endAt p i=some k∨elseAt p i=some k):∀{n:Nat},i < n→∃j,Ai p k n=some j
 | 0,h=>by omega
 | n+1,h=>by
  rw[Ai]
  split
  ·exact⟨_,rfl⟩
  ·by_cases he:i=n
   ·subst he;exact absurd hi (by assumption)
   ·exact uj hi (by omega)
theorem kC {p:List HP}{k i:Nat}(h:endAt p i=some k):aW p k=i:=by
 obtain⟨x,hx,_,_,_,_⟩:=aP h
 obtain⟨j,hj⟩:=uj (.inl h) (bg hx)
 rw[aW,hj]
 obtain⟨_,h1|h1⟩:=pP hj
 ·exact vm h1 h
 ·obtain⟨_,_,_,_,_,_,_,y,hy,h4⟩:=bX h1
  obtain⟨z,hz,h7⟩:=bP h
  rw[hy]at hz
  injection hz with hz
  subst hz
  omega
theorem zF {p:List HP}{k i:Nat}(h:elseAt p i=some k):aW p k=i:=by
 obtain⟨x,e,hx,_,_,_,_,y,hy,h4⟩:=bX h
 obtain⟨j,hj⟩:=uj (.inr h) (bg hx)
 rw[aW,hj]
 obtain⟨_,h1|h1⟩:=pP hj
 ·obtain⟨z,hz,h7⟩:=bP h1
  rw[hy]at hz
  injection hz with hz
  subst hz
  omega
 ·exact mX h1 h
theorem kI {l:List HP}{i:Nat}{x:HP}(hx:l[i]?=some x)(h7:x.faa=7):∀(n s o e:Nat),i - s≤n→s≤i→1≤o→endN (l.drop s) s o=some e→i≤e→(∃k,s≤k∧k < i∧endAt l k=some i)∨∃j,1≤j∧j≤o∧endN (l.drop s) s j=some i
 | n,s,o,e,hn,hs,ho,h,hi=>by
  have hno:¬cV x.faa=true:=by rw[opensK_iff];omega
  by_cases he:s=i
  ·subst he
   exact .inr ⟨1,Nat.le_refl _,ho,by rw[cN hx,if_neg hno,if_pos h7,if_pos rfl]⟩
  obtain⟨m,rfl⟩:∃m,n=m+1:=⟨n - 1,by omega⟩
  have hl:=gY h
  obtain⟨y,hy⟩:=ag (l:=l) (k:=s) (by omega)
  rw[cN hy]at h
  by_cases hop:cV y.faa=true
  ·rw[if_pos hop]at h
   rcases kI hx h7 m (s+1) (o+1) e (by omega) (by omega) (by omega) h hi with⟨k,h1,h2,h3⟩|⟨j,h1,h2,h3⟩
   ·exact .inl ⟨k,by omega,h2,h3⟩
   ·by_cases hj:j=1
    ·subst hj
     exact .inl ⟨s,Nat.le_refl _,by omega,by rw[nP hy hop];exact h3⟩
    ·exact .inr ⟨j - 1,by omega,by omega,by rw[cN hy,if_pos hop,show j - 1+1=j by omega];exact h3⟩
  ·rw[if_neg hop]at h
   by_cases h7y:y.faa=7
   ·rw[if_pos h7y]at h
    by_cases h1o:o=1
    ·rw[if_pos h1o]at h
     injection h with h
     omega
    ·rw[if_neg h1o]at h
     rcases kI hx h7 m (s+1) (o - 1) e (by omega) (by omega) (by omega) h hi with⟨k,h1,h2,h3⟩|⟨j,h1,h2,h3⟩
     ·exact .inl ⟨k,by omega,h2,h3⟩
     ·exact .inr ⟨j+1,by omega,by omega,by rw[cN hy,if_neg hop,if_pos h7y,if_neg (by omega),show j+1 - 1=j by omega];exact h3⟩
   ·rw[if_neg h7y]at h
    rcases kI hx h7 m (s+1) o e (by omega) (by omega) ho h hi with⟨k,h1,h2,h3⟩|⟨j,h1,h2,h3⟩
    ·exact .inl ⟨k,by omega,h2,h3⟩
    ·exact .inr ⟨j,h1,h2,by rw[cN hy,if_neg hop,if_neg h7y];exact h3⟩
structure CxOk (C:Cx):Prop where
 len:C.p.length≤60
 small:aA 1048576 (.lst 4 (C.p.map HP.tr))
 line:∀(k:Nat) (ln:HP),C.p[k]?=some ln→0≤ln.faa∧ln.faa≤7∧ln.faj.length≤4∧ln.fag.length≤20∧((ln.faa=1∨ln.faa=2∨ln.faa=3∨ln.faa=5∨ln.faa=6)→bq ln.fag=true)
 fn:∀(g:Nat) (ln:HP),C.p[g]?=some ln→ln.faa=0→∃e,endAt C.p g=some e∧(localsOf C.p (g:Int)).length≤8∧ln.faj.length≤(localsOf C.p (g:Int)).length∧∀(k:Nat) (y:HP),g < k→k < e→C.p[k]?=some y→y.faa≠0∧(∀t∈y.fag,t.faa=7→∃f,findN C.p 0 t.fac=some f∧(argsN C.p f:Int)=t.fas)∧(y.faa=4→∃i,g≤i∧i < k∧elseAt C.p i=some k)
 args:0≤C.args∧C.args≤4
 words:0≤C.words∧C.words≤1000
 inl:0≤C.b.far∧C.b.far≤3
structure ScOk (C:Cx) (x:Sc) (ins:List Nat):Prop where
 fn:∃ln,C.p[x.f]?=some ln∧ln.faa=0
 loc:x.locals=localsOf C.p (x.f:Int)
 first:0≤x.first∧x.first≤8 * ins.length
 chain:x.chain.length+1=ins.length
 out:x.outer=true↔x.chain=[]
 args:x.outer=true→C.args=argsN C.p x.f
 mem:ins.getLast?=some x.f
section
variable {C:Cx} {x:Sc} {ins:List Nat}
theorem CxOk.argsN (h:CxOk C)(g:Nat):argsN C.p g≤4:=by
 unfold Go.Proofs.YtjmplnfiabmalaaGreat.argsN
 split
 ·rename_i l hl
  have:=h.line _ _ hl
  omega
 ·omega
theorem ScOk.endE (hC:CxOk C)(hx:ScOk C x ins):∃e,endAt C.p x.f=some e∧x.f < e∧e < C.p.length∧oq C.p x.f=e∧x.locals.length≤8:=by
 obtain⟨ln,h1,h2⟩:=hx.fn
 obtain⟨e,h3,h4,h5,_⟩:=hC.fn _ _ h1 h2
 obtain⟨_,_,_,_,h6,h7⟩:=aP h3
 exact⟨e,h3,h6,h7,by rw[oq,h3];rfl,by rw[hx.loc];exact h4⟩
theorem ScOk.argLe (hC:CxOk C)(hx:ScOk C x ins):argsN C.p x.f≤x.locals.length:=by
 obtain⟨ln,h1,h2⟩:=hx.fn
 obtain⟨e,h3,h4,h5,_⟩:=hC.fn _ _ h1 h2
 rw[hx.loc,Go.Proofs.YtjmplnfiabmalaaGreat.argsN,h1]
 exact h5
theorem ScOk.own7 (hC:CxOk C)(hx:ScOk C x ins){e k:Nat}{ln:HP}(he:endAt C.p x.f=some e)(h1:x.f < k)(h2:k≤e)(hk:C.p[k]?=some ln)(h7:ln.faa=7):
  endAt C.p (aW C.p k)=some k∧((k=e∧aW C.p k=x.f)∨(k < e∧x.f < aW C.p k∧aW C.p k < k∧∃y,C.p[aW C.p k]?=some y∧(y.faa=3∨y.faa=5))):=by
 obtain⟨l0,g1,g2⟩:=hx.fn
 obtain⟨e',g3,_,_,g4⟩:=hC.fn _ _ g1 g2
 rw[he]at g3
 injection g3 with g3
 subst g3
 by_cases hke:k=e
 ·subst hke
  rw[kC he]
  exact⟨he,.inl ⟨rfl,rfl⟩⟩
 ·obtain⟨z,hz,hzo,hzn,_,_⟩:=aP he
  rcases kI hk h7 _ (x.f+1) 1 e (Nat.le_refl _) (by omega) (Nat.le_refl _) hzn h2 with⟨i,k1,k2,k3⟩|⟨j,k1,k2,k3⟩
  ·rw[kC k3]
   obtain⟨y,hy,hyo,_⟩:=aP k3
   have:=(g4 i y (by omega) (by omega) hy).1
   rw[opensK_iff]at hyo
   exact⟨k3,.inr ⟨by omega,by omega,k2,y,hy,by omega⟩⟩
  ·have:j=1:=by omega
   subst this
   rw[hzn]at k3
   injection k3 with k3
   omega
theorem ScOk.own4 (hC:CxOk C)(hx:ScOk C x ins){e k:Nat}{ln:HP}(he:endAt C.p x.f=some e)(h1:x.f < k)(h2:k≤e)(hk:C.p[k]?=some ln)(h4:ln.faa=4):
  elseAt C.p (aW C.p k)=some k∧x.f < aW C.p k∧aW C.p k < k∧k < e:=by
 obtain⟨l0,g1,g2⟩:=hx.fn
 obtain⟨e',g3,_,_,g4⟩:=hC.fn _ _ g1 g2
 rw[he]at g3
 injection g3 with g3
 subst g3
 have hke:k≠e:=fun h=>by
  subst h
  obtain⟨y,hy,h7⟩:=bP he
  rw[hk]at hy
  injection hy with hy
  subst hy
  omega
 obtain⟨i,k1,k2,k3⟩:=(g4 k ln h1 (by omega) hk).2.2 h4
 rw[zF k3]
 obtain⟨y,_,hy,h3,_⟩:=bX k3
 have:i≠x.f:=fun h=>by
  subst h
  rw[g1]at hy
  injection hy with hy
  subst hy
  omega
 exact⟨k3,by omega,k2,by omega⟩
end
abbrev tvP (l:List HP):TV:=tvL 4 (l.map HP.tr)
abbrev vP (l:List HP):AV:= .r (.c (.t (.lst 4 (l.map HP.tr))))
theorem kO (k:Int):Sim.Spec Tryz.prog 176 [tvI k] (rB (cV k)):=by
 refine ao hΓ ay Tryz.func176 rfl (by decide) rfl ?_
 unfold cV
 repeat' ((conv=>whnf);first|refine Or.inl ?_|apply oi|(apply fi<;>intro h)|refine⟨_,rfl,?_⟩|exact rfl)
 all_goals try exact⟨KO⟩
 all_goals(refine⟨congrArg Tr.bool ?_⟩;simp_all;(try(rw[Bool.eq_iff_iff];simp;omega)))
abbrev GM (l:List HP)(k:Nat)(R:Int):={q:Nat×Nat // q.1≤l.length∧q.2≤q.1∧(q.2=0→q.1=k)∧cZ (endN (l.drop q.1) q.1 q.2)=R}
theorem AP {l:List HP}{k:Nat}{x:HP}(hx:l[k]?=some x)(ho:cV x.faa=true):endN (l.drop k) k 0=endAt l k:=by
 rw[cN hx,if_pos ho,nP hx ho]
theorem cq (l:List HP)(k:Int)(hl:l.length≤1048576):Sim.Spec Tryz.prog 120 [tvP l,tvI k] (rI (bR l k)):=by
 refine ao hΓ ay Tryz.func120 rfl (by decide) rfl ?_
 have hlen:(l.map HP.tr).length=l.length:=by simp
 by_cases hin:0≤k∧k < l.length
 ·obtain⟨h0,h1⟩:=hin
  obtain⟨k,rfl⟩:=Int.eq_ofNat_of_zero_le h0
  obtain⟨x,hx⟩:=ag (l:=l) (k:=k) (by omega)
  have hO:=kO x.faa
  skip
  cases ho:cV x.faa with
  | false=>
   rw[ho]at hO
   have:bR l (k:Int)= -1:=by rw[cp,endAt,hx];dsimp only;rw[if_neg (by simp[ho])];rfl
   rw[this]
   repeat' ((conv=>whnf);first|refine Or.inl ?_|apply oi|(apply fi<;>intro h)|refine⟨k,x.tr,rfl,ab hx,?_⟩|refine ci hO (ai rfl trivial) ?_|refine⟨_,rfl,?_⟩|exact rfl)
   all_goals try exact⟨KO⟩
   all_goals try exact KX
  | true=>
   rw[ho]at hO
   obtain⟨R,hR⟩:∃R,bR l (k:Int)=R:=⟨_,rfl⟩
   rw[hR]
   rw[cp,←AP hx ho]at hR
   repeat' ((conv=>whnf);first|refine Or.inl ?_|apply oi|(apply fi<;>intro h)|refine⟨k,x.tr,rfl,ab hx,?_⟩|refine ci hO (ai rfl trivial) ?_|refine⟨_,rfl,?_⟩|exact rfl)
   all_goals try exact⟨KO⟩
   all_goals try exact KX
   conv=>whnf
   refine⟨GM l k R,fun q=>⟨[(0,vP l),(5,tI .i64 (q.1.2:Int)),(6,tI .i64 (q.1.1:Int))],[],[]⟩,fun q=>l.length - q.1.1,⟨(k,0),by dsimp only;omega,by omega,fun _=>rfl,hR⟩,?_,?_⟩
   ·skip
    repeat' ((conv=>whnf);first|refine Or.inl ?_|apply oi|(apply fi<;>intro h)|refine⟨_,rfl,?_⟩|exact rfl)
    all_goals try exact⟨KO⟩
   intro⟨⟨i,o⟩,hi,hoi,hs,hr⟩
   dsimp only at hi hoi hs hr ⊢
   by_cases hlt:i < l.length
   ·obtain⟨y,hy⟩:=ag hlt
    have hO2:=kO y.faa
    rw[cN hy]at hr
    cases hoy:cV y.faa with
    | true=>
     rw[hoy]at hO2
     rw[if_pos hoy]at hr
     have h7:y.faa≠7:=by rw[opensK_iff]at hoy;omega
     repeat' ((conv=>whnf);first|refine Or.inl ?_|apply oi|(apply fi<;>intro h)|refine⟨i,y.tr,rfl,ab hy,?_⟩|refine ci hO2 (ai rfl trivial) ?_|refine⟨_,rfl,?_⟩|exact rfl)
     all_goals try exact⟨KO⟩
     all_goals try exact KX
     all_goals try(exfalso;(try simp_all[ah]);(try omega);done)
     all_goals try exact K3
     conv=>whnf
     refine⟨⟨(i+1,o+1),by dsimp only;omega,by dsimp only;omega,fun h=>by omega,hr⟩,?_,KD⟩
     repeat' ((conv=>whnf);first|refine Or.inl ?_|apply oi|(apply fi<;>intro h)|refine⟨_,rfl,?_⟩|exact rfl)
     all_goals try exact⟨KO⟩
     all_goals try exact⟨K2⟩
     all_goals exact⟨by dsimp only;rw[IntWalk.i64_in _ (by omega)];rfl⟩
    | false=>
     rw[hoy]at hO2
     rw[if_neg (by simp[hoy])]at hr
     have hne:o≠0:=fun h=>by
      have:=hs h
      subst this
      rw[hx]at hy
      injection hy with hy
      subst hy
      rw[ho]at hoy
      cases hoy
     by_cases h7:y.faa=7
     ·rw[if_pos h7]at hr
      by_cases h1:o=1
      ·rw[if_pos h1]at hr
       subst hr
       subst h1
       repeat' ((conv=>whnf);first|refine Or.inl ?_|apply oi|(apply fi<;>intro h)|refine⟨i,y.tr,rfl,ab hy,?_⟩|refine ci hO2 (ai rfl trivial) ?_|refine⟨_,rfl,?_⟩|exact rfl)
       all_goals try exact⟨KO⟩
       all_goals try exact KX
       all_goals try(exfalso;(try simp_all[ah]);(try omega);done)
      ·rw[if_neg h1]at hr
       repeat' ((conv=>whnf);first|refine Or.inl ?_|apply oi|(apply fi<;>intro h)|refine⟨i,y.tr,rfl,ab hy,?_⟩|refine ci hO2 (ai rfl trivial) ?_|refine⟨_,rfl,?_⟩|exact rfl)
       all_goals try exact⟨KO⟩
       all_goals try exact KX
       all_goals try(exfalso;(try simp_all[ah]);(try omega);done)
       all_goals try exact K3
       conv=>whnf
       refine⟨⟨(i+1,o - 1),by dsimp only;omega,by dsimp only;omega,fun h=>by omega,hr⟩,?_,KD⟩
       repeat' ((conv=>whnf);first|refine Or.inl ?_|apply oi|(apply fi<;>intro h)|refine⟨_,rfl,?_⟩|exact rfl)
       all_goals try exact⟨KO⟩
       all_goals try exact⟨K2⟩
       all_goals exact⟨by dsimp only;congr 1;rw[IntWalk.i64_in _ (by omega)];omega⟩
     ·rw[if_neg h7]at hr
      repeat' ((conv=>whnf);first|refine Or.inl ?_|apply oi|(apply fi<;>intro h)|refine⟨i,y.tr,rfl,ab hy,?_⟩|refine ci hO2 (ai rfl trivial) ?_|refine⟨_,rfl,?_⟩|exact rfl)
      all_goals try exact⟨KO⟩
      all_goals try exact KX
      all_goals try(exfalso;(try simp_all[ah]);(try omega);done)
      all_goals try exact K4
      conv=>whnf
      refine⟨⟨(i+1,o),by dsimp only;omega,by dsimp only;omega,fun h=>by omega,hr⟩,?_,KD⟩
      repeat' ((conv=>whnf);first|refine Or.inl ?_|apply oi|(apply fi<;>intro h)|refine⟨_,rfl,?_⟩|exact rfl)
      all_goals try exact⟨KO⟩
      all_goals try exact⟨K2⟩
   ·rw[ky (by omega)]at hr
    subst hr
    repeat' ((conv=>whnf);first|refine Or.inl ?_|apply oi|(apply fi<;>intro h)|refine⟨_,rfl,?_⟩|exact rfl)
    all_goals try exact⟨KO⟩
    all_goals try exact KX
 ·have:bR l k= -1:=by
   rw[bR]
   split
   ·rw[endAt,List.getElem?_eq_none (by omega)];rfl
   ·rfl
  rw[this]
  repeat' ((conv=>whnf);first|refine Or.inl ?_|apply oi|(apply fi<;>intro h)|refine⟨_,rfl,?_⟩|exact rfl)
  all_goals try exact⟨KO⟩
  all_goals try exact KX
end Go.Proofs.YtjmplnfiabmalaaGreat
namespace Go.Proofs.YtjmplnfiabmalaaGreat
open Go.Sim
set_option maxRecDepth 100000
theorem gJ (a:List (List Tr)):(aE a).length=a.length:=by simp[aE]
theorem ia {l:List (List Tr)}{k:Nat}{r:List Tr}(h:l[k]?=some r):(aE l)[k]?=some (r.map .d):=by simp[aE,h]
theorem oY (l:List (List Tr))(k:Nat)(r:List Tr):(aE l).set k (r.map .d)=aE (l.set k r):=by simp[aE,List.map_set]
theorem af {A:Prop}{Q:(ι:Type)→(ι→St)→Prop}(h:A):A∨∃(ι:Type) (S:ι→St),Q ι S:=Or.inl h
theorem oX {α:Type}{g:α→List Tr}(l:List α)(h:∀x,∀c∈g x,∀sz rs,c≠.lst sz rs):flat (l.map g):=by
 intro row hr c hc sz rs
 obtain⟨x,_,rfl⟩:=List.mem_map.1 hr
 exact h x c hc sz rs
theorem bc (l:List Int):flat (l.map aa):=oX _ (by intro x c hc sz rs e;subst e;simp[aa]at hc)
end Go.Proofs.YtjmplnfiabmalaaGreat
namespace Go.Proofs.YtjmplnfiabmalaaGreat
open Go.Sim
set_option maxRecDepth 100000
set_option maxHeartbeats 4000000
theorem jT (l:List (List UInt8)):flat (l.map ak):=oX _ (by intro x c hc sz rs e;subst e;simp[ak]at hc)
theorem Ah {l:List HP}{k:Nat}{x:HP}(hx:l[k]?=some x)(h:x.faa≠3∨endAt l k=none):elseAt l k=none:=by
 unfold elseAt
 rw[hx]
 cases he:endAt l k with
 | none=>rfl
 | some e=>
  dsimp only
  rw[if_neg]
  rcases h with h|h
  ·exact h
  ·rw[he]at h;cases h
theorem jw (l:List HP)(k:Int)(hl:l.length≤1048576):Sim.Spec Tryz.prog 178 [tvP l,tvI k] (rI (bY l k)):=by
 refine ao hΓ ay Tryz.func178 rfl (by decide) rfl ?_
 have hlen:(l.map HP.tr).length=l.length:=by simp
 have hE:=cq l k hl
 cases he:endAt l k.toNat with
 | none=>
  have h1:bR l k= -1:=by rw[bR,he];split <;> rfl
  have h2:bY l k= -1:=by
   rw[bY]
   split
   ·unfold elseAt;rw[he];cases l[k.toNat]? <;> rfl
   ·rfl
  rw[h1]at hE
  rw[h2]
  repeat' ((conv=>whnf);first|refine Or.inl ?_|apply oi|(apply fi<;>intro h)|refine ci hE (ai rfl (ai rfl trivial)) ?_|refine⟨_,rfl,?_⟩|exact rfl)
  all_goals try exact⟨KO⟩
  all_goals try exact KX
 | some e=>
  obtain⟨x,hx,ho,_,hke,hel⟩:=aP he
  by_cases h0:0≤k
  ·obtain⟨k,rfl⟩:=Int.eq_ofNat_of_zero_le h0
   rw[Int.toNat_natCast]at he hx hke
   rw[cp,cj he]at hE
   by_cases h3:x.faa=3
   ·obtain⟨R,hR⟩:∃R,bY l (k:Int)=R:=⟨_,rfl⟩
    rw[hR]
    have hR:cZ (elseN l e (e - (k+1)) (k+1))=R:=by
     rw[bY,if_pos h0,Int.toNat_natCast,elseAt,hx,he]at hR
     dsimp only at hR
     rw[if_pos h3]at hR
     exact hR
    repeat' ((conv=>whnf);first|refine Or.inl ?_|apply oi|(apply fi<;>intro h)|refine ci hE (ai rfl (ai rfl trivial)) ?_|refine⟨k,x.tr,rfl,ab hx,?_⟩|refine⟨_,rfl,?_⟩|exact rfl)
    all_goals try exact⟨KO⟩
    all_goals try exact KX
    all_goals try(exfalso;(try simp_all[ah]);(try omega);done)
    conv=>whnf
    refine⟨{i:Nat // k < i∧i≤e∧cZ (elseN l e (e - i) i)=R},fun q=>⟨[(0,vP l),(5,tI .i64 (e:Int)),(6,tI .i64 (q.1:Int))],[],[]⟩,fun q=>e - q.1,⟨k+1,by omega,by omega,hR⟩,?_,?_⟩
    ·skip
     repeat' ((conv=>whnf);first|refine Or.inl ?_|apply oi|(apply fi<;>intro h)|refine⟨_,rfl,?_⟩|exact rfl)
     all_goals try exact⟨KO⟩
     all_goals exact⟨by dsimp only;rw[IntWalk.i64_in _ (by omega)];rfl⟩
    intro⟨i,hki,hi,hr⟩
    dsimp only at hki hi hr ⊢
    by_cases hlt:i < e
    ·obtain⟨y,hy⟩:=ag (l:=l) (k:=i) (by omega)
     rw[zL hlt hy]at hr
     have hE2:=cq l (i:Int) hl
     by_cases h4:y.faa=4
     ·rw[if_pos h4]at hr
      subst hr
      repeat' ((conv=>whnf);first|refine Or.inl ?_|apply oi|(apply fi<;>intro h)|refine ci hE2 (ai rfl (ai rfl trivial)) ?_|refine⟨i,y.tr,rfl,ab hy,?_⟩|refine⟨_,rfl,?_⟩|exact rfl)
      all_goals try exact⟨KO⟩
      all_goals try exact KX
      all_goals try(exfalso;(try simp_all[ah]);(try omega);done)
     ·rw[if_neg h4]at hr
      by_cases h5:y.faa=3∨y.faa=5
      ·rw[if_pos h5]at hr
       obtain⟨m,hm,hm1,hm2⟩:=oT he (i:=i) hki hlt hy (opensK_iff.2 (by omega))
       rw[hm]at hr
       dsimp only at hr
       rw[cp,cj hm]at hE2
       repeat' ((conv=>whnf);first|refine Or.inl ?_|apply oi|(apply fi<;>intro h)|refine ci hE2 (ai rfl (ai rfl trivial)) ?_|refine⟨i,y.tr,rfl,ab hy,?_⟩|refine⟨_,rfl,?_⟩|exact rfl)
       all_goals try exact⟨KO⟩
       all_goals try exact KX
       all_goals try(exfalso;(try simp_all[ah]);(try omega);done)
       all_goals
        conv=>whnf
        refine⟨⟨m+1,by omega,by omega,hr⟩,?_,KD⟩
        repeat' ((conv=>whnf);first|refine Or.inl ?_|apply oi|(apply fi<;>intro h)|refine⟨_,rfl,?_⟩|exact rfl)
        all_goals try exact⟨KO⟩
        all_goals try exact⟨K2⟩
        all_goals exact⟨by dsimp only;rw[IntWalk.i64_in _ (by omega)];rfl⟩
      ·rw[if_neg h5]at hr
       repeat' ((conv=>whnf);first|refine Or.inl ?_|apply oi|(apply fi<;>intro h)|refine ci hE2 (ai rfl (ai rfl trivial)) ?_|refine⟨i,y.tr,rfl,ab hy,?_⟩|refine⟨_,rfl,?_⟩|exact rfl)
       all_goals try exact⟨KO⟩
       all_goals try exact KX
       all_goals try(exfalso;(try simp_all[ah]);(try omega);done)
       all_goals try(exfalso;simp_all;done)
       conv=>whnf
       refine⟨⟨i+1,by omega,by omega,hr⟩,?_,KD⟩
       repeat' ((conv=>whnf);first|refine Or.inl ?_|apply oi|(apply fi<;>intro h)|refine⟨_,rfl,?_⟩|exact rfl)
       all_goals try exact⟨KO⟩
       all_goals try exact⟨K2⟩
       all_goals exact⟨by dsimp only;rw[IntWalk.i64_in _ (by omega)];rfl⟩
    ·rw[CR (by omega)]at hr
     subst hr
     repeat' ((conv=>whnf);first|refine Or.inl ?_|apply oi|(apply fi<;>intro h)|refine⟨_,rfl,?_⟩|exact rfl)
     all_goals try exact⟨KO⟩
     all_goals try exact KX
   ·have h2:bY l (k:Int)= -1:=by
     rw[bY,if_pos h0,Int.toNat_natCast,Ah hx (.inl h3)];rfl
    rw[h2]
    repeat' ((conv=>whnf);first|refine Or.inl ?_|apply oi|(apply fi<;>intro h)|refine ci hE (ai rfl (ai rfl trivial)) ?_|refine⟨k,x.tr,rfl,ab hx,?_⟩|refine⟨_,rfl,?_⟩|exact rfl)
    all_goals try exact⟨KO⟩
    all_goals try exact KX
    all_goals try(exfalso;(try simp_all[ah]);(try omega);done)
  ·have h1:bR l k= -1:=by rw[bR,if_neg h0]
   have h2:bY l k= -1:=by rw[bY,if_neg h0]
   rw[h1]at hE
   rw[h2]
   repeat' ((conv=>whnf);first|refine Or.inl ?_|apply oi|(apply fi<;>intro h)|refine ci hE (ai rfl (ai rfl trivial)) ?_|refine⟨_,rfl,?_⟩|exact rfl)
   all_goals try exact⟨KO⟩
   all_goals try exact KX
theorem bZ (l:List HP)(hl:l.length≤1048576):Sim.Spec Tryz.prog 33 [tvP l] (rL 1 ((aF l).map fun n:Nat=>aa n)):=by
 refine ao hΓ ay Tryz.func33 rfl (by decide) rfl ?_
 have hlen:(l.map HP.tr).length=l.length:=by simp
 obtain⟨R,hR⟩:∃R,aF l=R:=⟨_,rfl⟩
 rw[hR]
 repeat' ((conv=>whnf);first|refine Or.inl ?_|apply oi|(apply fi<;>intro h)|refine⟨_,rfl,?_⟩|exact rfl)
 all_goals try exact⟨KO⟩
 conv=>whnf
 refine⟨{q:Nat×List Nat // q.1≤l.length∧q.2.length≤q.1∧q.2++funsF (l.drop q.1) q.1=R},fun q=>⟨[(0,vP l),(3,.r (.c (.own (5,0,0)))),(4,tI .i64 (q.1.1:Int))],[((5,0,0),some (.arr true 1 (q.1.2.map fun n:Nat=>aa n)))],[5]⟩,fun q=>l.length - q.1.1,⟨(0,[]),by simp,by simp,by simpa [aF]using hR⟩,?_,?_⟩
 ·skip
  repeat' ((conv=>whnf);first|refine Or.inl ?_|apply oi|(apply fi<;>intro h)|refine⟨_,rfl,?_⟩|exact rfl)
  all_goals try exact⟨KO⟩
 intro⟨⟨k,acc⟩,hk,hal,hr⟩
 dsimp only at hk hal hr ⊢
 have hacc:(acc.map fun n:Nat=>aa n).length=acc.length:=by simp
 by_cases hlt:k < l.length
 ·obtain⟨x,hx⟩:=ag hlt
  rw[zh hx]at hr
  by_cases h0:x.faa=0
  ·rw[if_pos h0]at hr
   repeat' ((conv=>whnf);first|refine Or.inl ?_|apply oi|(apply fi<;>intro h)|refine⟨k,x.tr,rfl,ab hx,?_⟩|refine⟨_,rfl,?_⟩|exact rfl)
   all_goals try exact⟨KO⟩
   all_goals try exact KX
   all_goals try(exfalso;(try simp_all[ah]);(try omega);done)
   all_goals try exact⟨⟨by simp;omega,by simp;omega⟩⟩
   conv=>whnf
   refine⟨⟨(k+1,acc++[k]),by dsimp only;omega,by simp;omega,by rw[←hr];simp⟩,?_,KD⟩
   repeat' ((conv=>whnf);first|refine Or.inl ?_|apply oi|(apply fi<;>intro h)|refine⟨_,rfl,?_⟩|exact rfl)
   all_goals try exact⟨KO⟩
   all_goals try exact⟨K2⟩
   all_goals exact⟨by simp[aa]⟩
  ·rw[if_neg h0,List.nil_append]at hr
   repeat' ((conv=>whnf);first|refine Or.inl ?_|apply oi|(apply fi<;>intro h)|refine⟨k,x.tr,rfl,ab hx,?_⟩|refine⟨_,rfl,?_⟩|exact rfl)
   all_goals try exact⟨KO⟩
   all_goals try exact KX
   all_goals try(exfalso;(try simp_all[ah]);(try omega);done)
   conv=>whnf
   refine⟨⟨(k+1,acc),by dsimp only;omega,by dsimp only;omega,hr⟩,?_,KD⟩
   repeat' ((conv=>whnf);first|refine Or.inl ?_|apply oi|(apply fi<;>intro h)|refine⟨_,rfl,?_⟩|exact rfl)
   all_goals try exact⟨KO⟩
   all_goals try exact⟨K2⟩
 ·rw[List.drop_eq_nil_of_le (by omega),funsF,List.append_nil]at hr
  subst hr
  repeat' ((conv=>whnf);first|refine Or.inl ?_|apply oi|(apply fi<;>intro h)|refine⟨_,rfl,?_⟩|exact rfl)
  all_goals try exact⟨KO⟩
  all_goals try exact KX
theorem cP (l:List HP)(s:List UInt8)(hl:l.length≤1048576):Sim.Spec Tryz.prog 119 [tvP l,tvS s] (rI (kN l s)):=by
 refine ao hΓ ay Tryz.func119 rfl (by decide) rfl ?_
 have hlen:(l.map HP.tr).length=l.length:=by simp
 obtain⟨R,hR⟩:∃R,kN l s=R:=⟨_,rfl⟩
 rw[hR]
 repeat' ((conv=>whnf);first|refine Or.inl ?_|apply oi|(apply fi<;>intro h)|refine⟨_,rfl,?_⟩|exact rfl)
 all_goals try exact⟨KO⟩
 conv=>whnf
 refine⟨{k:Nat // k≤l.length∧cZ (findN (l.drop k) k s)=R},fun q=>⟨[(0,vP l),(1,tS s),(5,tI .i64 (q.1:Int))],[],[]⟩,fun q=>l.length - q.1,⟨0,by omega,hR⟩,?_,?_⟩
 ·skip
  repeat' ((conv=>whnf);first|refine Or.inl ?_|apply oi|(apply fi<;>intro h)|refine⟨_,rfl,?_⟩|exact rfl)
  all_goals try exact⟨KO⟩
 intro⟨k,hk,hr⟩
 dsimp only at hk hr ⊢
 by_cases hlt:k < l.length
 ·obtain⟨x,hx⟩:=ag hlt
  rw[EQ hx]at hr
  by_cases h0:x.faa=0∧x.fac=s
  ·rw[if_pos h0]at hr
   obtain⟨h1,h2⟩:=h0
   subst h2
   subst hr
   repeat' ((conv=>whnf);first|refine Or.inl ?_|apply oi|(apply fi<;>intro h)|refine⟨k,x.tr,rfl,ab hx,?_⟩|refine⟨_,rfl,?_⟩|exact rfl)
   all_goals try exact⟨KO⟩
   all_goals try exact KX
   all_goals try(exfalso;(try simp_all[ah]);(try omega);done)
  ·rw[if_neg h0]at hr
   repeat' ((conv=>whnf);first|refine Or.inl ?_|apply oi|(apply fi<;>intro h)|refine⟨k,x.tr,rfl,ab hx,?_⟩|refine⟨_,rfl,?_⟩|exact rfl)
   all_goals try exact⟨KO⟩
   all_goals try exact KX
   all_goals try(exfalso;apply h0;simp_all;done)
   all_goals
    conv=>whnf
    refine⟨⟨k+1,by omega,hr⟩,?_,KD⟩
    repeat' ((conv=>whnf);first|refine Or.inl ?_|apply oi|(apply fi<;>intro h)|refine⟨_,rfl,?_⟩|exact rfl)
    all_goals try exact⟨KO⟩
    all_goals try exact⟨K2⟩
 ·rw[List.drop_eq_nil_of_le (by omega),findN]at hr
  subst hr
  repeat' ((conv=>whnf);first|refine Or.inl ?_|apply oi|(apply fi<;>intro h)|refine⟨_,rfl,?_⟩|exact rfl)
  all_goals try exact⟨KO⟩
  all_goals try exact KX
abbrev rN (l:List (List UInt8)):Res:=rL 1 (l.map ak)
theorem yB {l:List HP}{k e:Nat}{x:HP}(hx:l[k]?=some x)(he:endAt l k=some e)(h0:x.faa=0):localsOf l (k:Int)=locN l e (e - k) k x.faj:=by
 rw[localsOf,if_pos (by omega),Int.toNat_natCast,hx,he]
 dsimp only
 rw[if_pos h0]
theorem nK {l:List HP}{k:Int}(h:∀e x,endAt l k.toNat=some e→l[k.toNat]?=some x→0≤k→x.faa≠0):localsOf l k=[]:=by
 rw[localsOf]
 split
 ·split
  ·rename_i x e hx he
   rw[if_neg (h e x he hx (by assumption))]
  ·rfl
 ·rfl
theorem Cf {l:List HP}{k:Int}(hl:l.length≤1048576)(hs:∀x∈l,aC 1048576 x.tr):(localsOf l k).length≤2097152∧True:=by
 refine⟨?_,trivial⟩
 rw[localsOf]
 split
 ·split
  ·rename_i x e hx he
   obtain⟨_,_,_,_,h1,h2⟩:=aP he
   have:=(eM (hs x (List.mem_of_getElem? hx))).2.1
   split
   ·have:=yN (l:=l) (e:=e) (e - k.toNat) k.toNat x.faj
    omega
   ·simp
  ·simp
 ·simp
theorem eK (l:List (List UInt8))(s:List UInt8)(hl:l.length≤2097152):Sim.Spec Tryz.prog 179 [tvL 1 (l.map ak),tvS s] (rI (fH l s)):=by
 refine ao hΓ ay Tryz.func179 rfl (by decide) rfl ?_
 have hlen:(l.map ak).length=l.length:=by simp
 obtain⟨R,hR⟩:∃R,fH l s=R:=⟨_,rfl⟩
 rw[hR]
 repeat' ((conv=>whnf);first|refine Or.inl ?_|apply oi|(apply fi<;>intro h)|refine⟨_,rfl,?_⟩|exact rfl)
 all_goals try exact⟨KO⟩
 conv=>whnf
 refine⟨{k:Nat // k≤l.length∧cZ (oM (l.drop k) k s)=R},fun k=>⟨[(0,.r (.c (.t (.lst 1 (l.map ak))))),(1,tS s),(5,tI .i64 (k.1:Int))],[],[]⟩,fun k=>l.length - k.1,⟨0,by omega,hR⟩,?_,?_⟩
 ·skip
  repeat' ((conv=>whnf);first|refine Or.inl ?_|apply oi|(apply fi<;>intro h)|refine⟨_,rfl,?_⟩|exact rfl)
  all_goals try exact⟨KO⟩
 intro⟨k,hk,hr⟩
 dsimp only at hk hr ⊢
 by_cases hlt:k < l.length
 ·obtain⟨x,hx⟩:=ag hlt
  rw[FU hx]at hr
  cases he:(x==s)with
  | true=>
   rw[he,if_pos rfl]at hr
   have he2:=eq_of_beq he
   subst he2
   subst hr
   repeat' ((conv=>whnf);first|refine Or.inl ?_|apply oi|(apply fi<;>intro h)|refine⟨k,(ak x),rfl,ab hx,?_⟩|refine⟨_,rfl,?_⟩|exact rfl)
   all_goals try exact⟨KO⟩
   all_goals try exact KX
   all_goals try(exfalso;(try simp_all[ah]);(try omega);done)
  | false=>
   rw[he,if_neg (by simp)]at hr
   repeat' ((conv=>whnf);first|refine Or.inl ?_|apply oi|(apply fi<;>intro h)|refine⟨k,(ak x),rfl,ab hx,?_⟩|refine⟨_,rfl,?_⟩|exact rfl)
   all_goals try exact⟨KO⟩
   all_goals try exact KX
   all_goals try(exfalso;(try simp_all[ah]);(try omega);done)
   conv=>whnf
   refine⟨⟨k+1,by omega,hr⟩,?_,KD⟩
   repeat' ((conv=>whnf);first|refine Or.inl ?_|apply oi|(apply fi<;>intro h)|refine⟨_,rfl,?_⟩|exact rfl)
   all_goals try exact⟨KO⟩
   all_goals try exact⟨K2⟩
 ·rw[List.drop_eq_nil_of_le (by omega),oM]at hr
  subst hr
  repeat' ((conv=>whnf);first|refine Or.inl ?_|apply oi|(apply fi<;>intro h)|refine⟨_,rfl,?_⟩|exact rfl)
  all_goals try exact⟨KO⟩
  all_goals try exact KX
theorem gA (l:List HP)(k:Int)(hl:l.length≤1048576)(hs:∀x∈l,aC 1048576 x.tr):Sim.Spec Tryz.prog 177 [tvP l,tvI k] (rN (localsOf l k)):=by
 refine ao hΓ ay Tryz.func177 rfl (by decide) rfl ?_
 have hlen:(l.map HP.tr).length=l.length:=by simp
 have hE:=cq l k hl
 by_cases h0:0≤k
 ·obtain⟨k,rfl⟩:=Int.eq_ofNat_of_zero_le h0
  rw[cp]at hE
  cases he:endAt l k with
  | none=>
   rw[qi he]at hE
   rw[nK (fun e x h1 _ _=>by rw[Int.toNat_natCast,he]at h1;cases h1)]
   repeat' ((conv=>whnf);first|refine Or.inl ?_|apply oi|(apply fi<;>intro h)|refine ci hE (ai rfl (ai rfl trivial)) ?_|refine⟨_,rfl,?_⟩|exact rfl)
   all_goals try exact⟨KO⟩
   all_goals try exact KX
  | some e=>
   rw[cj he]at hE
   obtain⟨x,hx,ho,_,hke,hel⟩:=aP he
   by_cases hk0:x.faa=0
   ·have hsm:=eM (hs x (List.mem_of_getElem? hx))
    rw[yB hx he hk0]
    obtain⟨R,hR⟩:∃R,locN l e (e - k) k x.faj=R:=⟨_,rfl⟩
    rw[hR]
    have hal:(x.faj.map ak).length=x.faj.length:=by simp
    repeat' ((conv=>whnf);first|refine Or.inl ?_|apply oi|(apply fi<;>intro h)|refine ci hE (ai rfl (ai rfl trivial)) ?_|refine⟨k,x.tr,rfl,ab hx,?_⟩|refine⟨_,rfl,?_⟩|exact rfl)
    all_goals try exact⟨KO⟩
    all_goals try exact KX
    all_goals try(exfalso;(try simp_all[ah]);(try omega);done)
    all_goals try exact⟨⟨by simp;omega,by simp;omega⟩⟩
    conv=>whnf
    refine⟨{q:Nat×List (List UInt8) // k≤q.1∧q.1≤e∧q.2.length≤1048576+q.1∧locN l e (e - q.1) q.1 q.2=R},fun q=>⟨[(0,vP l),(5,tI .i64 (e:Int)),(6,.r (.c (.own (6,0,0)))),(7,tI .i64 (q.1.1:Int))],[((6,0,0),some (.arr false 1 (q.1.2.map ak)))],[6]⟩,fun q=>e - q.1.1,⟨(k,x.faj),by dsimp only;omega,by dsimp only;omega,by dsimp only;omega,hR⟩,?_,?_⟩
    ·skip
     repeat' ((conv=>whnf);first|refine Or.inl ?_|apply oi|(apply fi<;>intro h)|refine⟨_,rfl,?_⟩|exact rfl)
     all_goals try exact⟨KO⟩
     all_goals exact⟨by simp⟩
    intro⟨⟨i,acc⟩,hki,hi,hac,hr⟩
    dsimp only at hki hi hac hr ⊢
    have hal2:(acc.map ak).length=acc.length:=by simp
    by_cases hlt:i < e
    ·obtain⟨y,hy⟩:=ag (l:=l) (k:=i) (by omega)
     rw[Cw hlt hy]at hr
     have hC:=eK acc y.fac (by omega)
     by_cases h1:y.faa=1
     ·rw[if_pos h1]at hr
      have hix:=vG (l:=acc) (s:=y.fac)
      generalize fH acc y.fac=ix at *
      unfold ka at hr
      cases hc:acc.contains y.fac with
      | true=>
       rw[hc]at hix hr
       rw[if_pos rfl]at hr
       repeat' ((conv=>whnf);first|refine Or.inl ?_|apply oi|(apply fi<;>intro h)|refine ci hC (ai rfl (ai rfl trivial)) ?_|refine⟨i,y.tr,rfl,ab hy,?_⟩|refine⟨_,rfl,?_⟩|exact rfl)
       all_goals try exact⟨KO⟩
       all_goals try exact KX
       all_goals try(exfalso;(try simp_all[ah]);(try omega);done)
       all_goals
        conv=>whnf
        refine⟨⟨(i+1,acc),by dsimp only;omega,by dsimp only;omega,by dsimp only;omega,hr⟩,?_,KD⟩
        repeat' ((conv=>whnf);first|refine Or.inl ?_|apply oi|(apply fi<;>intro h)|refine⟨_,rfl,?_⟩|exact rfl)
        all_goals try exact⟨KO⟩
        all_goals try exact⟨K2⟩
      | false=>
       rw[hc]at hix hr
       rw[if_neg (by simp)]at hr
       repeat' ((conv=>whnf);first|refine Or.inl ?_|apply oi|(apply fi<;>intro h)|refine ci hC (ai rfl (ai rfl trivial)) ?_|refine⟨i,y.tr,rfl,ab hy,?_⟩|refine⟨_,rfl,?_⟩|exact rfl)
       all_goals try exact⟨KO⟩
       all_goals try exact KX
       all_goals try(exfalso;(try simp_all[ah]);(try omega);done)
       all_goals try exact⟨⟨by simp;omega,by simp;omega⟩⟩
       all_goals
        conv=>whnf
        refine⟨⟨(i+1,acc++[y.fac]),by dsimp only;omega,by dsimp only;omega,by simp;omega,hr⟩,?_,KD⟩
        repeat' ((conv=>whnf);first|refine Or.inl ?_|apply oi|(apply fi<;>intro h)|refine⟨_,rfl,?_⟩|exact rfl)
        all_goals try exact⟨KO⟩
        all_goals try exact⟨K2⟩
        all_goals exact⟨by simp[ak]⟩
     ·rw[if_neg h1]at hr
      repeat' ((conv=>whnf);first|refine Or.inl ?_|apply oi|(apply fi<;>intro h)|refine ci hC (ai rfl (ai rfl trivial)) ?_|refine⟨i,y.tr,rfl,ab hy,?_⟩|refine⟨_,rfl,?_⟩|exact rfl)
      all_goals try exact⟨KO⟩
      all_goals try exact KX
      all_goals try(exfalso;(try simp_all[ah]);(try omega);done)
      all_goals try(exfalso;simp_all;done)
      conv=>whnf
      refine⟨⟨(i+1,acc),by dsimp only;omega,by dsimp only;omega,by dsimp only;omega,hr⟩,?_,KD⟩
      repeat' ((conv=>whnf);first|refine Or.inl ?_|apply oi|(apply fi<;>intro h)|refine⟨_,rfl,?_⟩|exact rfl)
      all_goals try exact⟨KO⟩
      all_goals try exact⟨K2⟩
    ·rw[DE (by omega)]at hr
     subst hr
     repeat' ((conv=>whnf);first|refine Or.inl ?_|apply oi|(apply fi<;>intro h)|refine⟨_,rfl,?_⟩|exact rfl)
     all_goals try exact⟨KO⟩
     all_goals try exact KX
     all_goals exact⟨⟨rfl,jT _⟩⟩
   ·rw[nK (fun e x' h1 h2 _=>by rw[Int.toNat_natCast,hx]at h2;injection h2 with h2;subst h2;exact hk0)]
    repeat' ((conv=>whnf);first|refine Or.inl ?_|apply oi|(apply fi<;>intro h)|refine ci hE (ai rfl (ai rfl trivial)) ?_|refine⟨k,x.tr,rfl,ab hx,?_⟩|refine⟨_,rfl,?_⟩|exact rfl)
    all_goals try exact⟨KO⟩
    all_goals try exact KX
    all_goals try(exfalso;(try simp_all[ah]);(try omega);done)
 ·have h1:bR l k= -1:=by rw[bR,if_neg h0]
  rw[h1]at hE
  rw[nK (fun e x _ _ h=>absurd h h0)]
  repeat' ((conv=>whnf);first|refine Or.inl ?_|apply oi|(apply fi<;>intro h)|refine ci hE (ai rfl (ai rfl trivial)) ?_|refine⟨_,rfl,?_⟩|exact rfl)
  all_goals try exact⟨KO⟩
  all_goals try exact KX
abbrev vN (l:List (List UInt8)):AV:= .r (.c (.t (.lst 1 (l.map ak))))
theorem GR {α:Type}{f:α→Bool}{l:List α}{k:Nat}{x:α}(hx:l[k]?=some x):(l.drop k).all f=(f x && (l.drop (k+1)).all f):=by
 rw[cO hx,List.all_cons]
abbrev nR (n:Nat):List Tr:=aa n
theorem Ch {l:List HP}{x:HP}(hx:l[0]?=some x):mT l=(x.faa==0 && (x.fac==jX && x.faj.length==0)):=by
 cases l with
 | nil=>cases hx
 | cons y r=>rw[List.getElem?_cons_zero]at hx;injection hx with hx;subst hx;rfl
end Go.Proofs.YtjmplnfiabmalaaGreat
