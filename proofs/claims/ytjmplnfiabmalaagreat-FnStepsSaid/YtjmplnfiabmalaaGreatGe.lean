import Derived.Test.YtjmplnfiabmalaaGreatGd
import Derived.Test.YtjmplnfiabmalaaGreatRows
namespace Go.Sim
theorem K1 {p:Prop}(h:False:=by simp at *;omega):p:=h.elim
theorem K2 {p:Prop}(h:p:=by dsimp only;rw[IntWalk.i64_in _ (by omega)];rfl):p:=h
theorem K3 {p:Prop}(h:False:=by simp(disch:=omega)only[IntWalk.i64_in]at *;simp only[beq_iff_eq]at *;omega):p:=h.elim
theorem K4 {p:Prop}(h:False:=by simp only[beq_iff_eq]at *;omega):p:=h.elim
theorem K5 {p:Prop}(h:p:=by rw[IntWalk.i64_in _ (by omega)];rfl):p:=h
theorem K6 {p:Prop}(h:p:=by rw[IntWalk.i64_in _ (by omega)];omega):p:=h
theorem K7 {k:IntKind}{a b:Int}(h:a=b:=by dsimp only;rw[IntWalk.i64_in _ (by omega)];omega):Tr.int k a=Tr.int k b:=congrArg (Tr.int k) h
theorem K8 {p:Prop}(h:False:=by simp_all;omega):p:=h.elim
theorem KD {p:Prop}(h:p:=by dsimp only;omega):p:=h
end Go.Sim
namespace Go.Proofs.YtjmplnfiabmalaaGreat
open Go.Sim
def Γ:Env:=[
 (1,{size:=1,bytes:=8,agg:=false,zero:=[AC.opq]}),
 (2,{size:=1,bytes:=8,agg:=false,zero:=[AC.t (Tr.int Go.IntKind.i64 (Int.ofNat 0))],kind:=some Go.IntKind.i64}),
 (3,{size:=1,bytes:=8,agg:=false,zero:=[AC.t (Tr.int Go.IntKind.i64 (Int.ofNat 0))],kind:=some Go.IntKind.i64}),
 (4,{size:=1,bytes:=1,agg:=false,zero:=[AC.t (Tr.bool false)],bool:=true}),
 (5,{size:=1,bytes:=1,agg:=false,zero:=[AC.t (Tr.int Go.IntKind.u8 (Int.ofNat 0))],kind:=some Go.IntKind.u8}),
 (6,{size:=1,bytes:=1,agg:=false,zero:=[AC.t (Tr.int Go.IntKind.u8 (Int.ofNat 0))],kind:=some Go.IntKind.u8}),
 (7,{size:=4,bytes:=24,agg:=true,zero:=[AC.t (Tr.int Go.IntKind.i64 (Int.ofNat 0)),AC.t (Tr.int Go.IntKind.i64 (Int.ofNat 0)),AC.t (Tr.bool false),AC.t (Tr.int Go.IntKind.u8 (Int.ofNat 0))],fields:=[(0,1,2),(1,1,3),(2,1,4),(3,1,6)]}),
 (8,{size:=4,bytes:=24,agg:=true,zero:=[AC.t (Tr.int Go.IntKind.i64 (Int.ofNat 0)),AC.t (Tr.int Go.IntKind.i64 (Int.ofNat 0)),AC.t (Tr.bool false),AC.t (Tr.int Go.IntKind.u8 (Int.ofNat 0))],fields:=[(0,1,2),(1,1,3),(2,1,4),(3,1,6)]}),
 (9,{size:=1,bytes:=16,agg:=false,zero:=[AC.t (Tr.str [])],str:=true}),
 (10,{size:=1,bytes:=16,agg:=false,zero:=[AC.t (Tr.str [])],str:=true}),
 (11,{size:=1,bytes:=16,agg:=false,zero:=[AC.t (Tr.str [])],str:=true}),
 (12,{size:=1,bytes:=8,agg:=false,zero:=[AC.t (Tr.int Go.IntKind.u64 (Int.ofNat 0))],kind:=some Go.IntKind.u64}),
 (13,{size:=2,bytes:=24,agg:=true,zero:=[AC.t (Tr.str []),AC.t (Tr.int Go.IntKind.u64 (Int.ofNat 0))],fields:=[(0,1,9),(1,1,12)]}),
 (14,{size:=2,bytes:=24,agg:=true,zero:=[AC.t (Tr.str []),AC.t (Tr.int Go.IntKind.u64 (Int.ofNat 0))],fields:=[(0,1,9),(1,1,12)]}),
 (15,{size:=1,bytes:=8,agg:=false,zero:=[AC.nilp]}),
 (16,{size:=1,bytes:=8,agg:=false,zero:=[AC.nilp]}),
 (17,{size:=1,bytes:=8,agg:=false,zero:=[AC.nilp]}),
 (18,{size:=1,bytes:=8,agg:=true,zero:=[AC.nilp],fields:=[(0,1,17)]}),
 (19,{size:=1,bytes:=8,agg:=true,zero:=[AC.nilp],fields:=[(0,1,17)]}),
 (20,{size:=1,bytes:=16,agg:=false,zero:=[AC.opq]}),
 (21,{size:=1,bytes:=4,agg:=false,zero:=[AC.t (Tr.int Go.IntKind.i32 (Int.ofNat 0))],kind:=some Go.IntKind.i32}),
 (22,{size:=1,bytes:=24,agg:=false,zero:=[AC.nils 0],elem:=some 5}),
 (23,{size:=1,bytes:=8,agg:=false,zero:=[AC.opq]}),
 (24,{size:=1,bytes:=24,agg:=false,zero:=[AC.nils 0],elem:=some 135}),
 (25,{size:=4,bytes:=24,agg:=true,zero:=[AC.t (Tr.int Go.IntKind.i64 (Int.ofNat 0)),AC.t (Tr.int Go.IntKind.i64 (Int.ofNat 0)),AC.t (Tr.bool false),AC.t (Tr.bool false)],fields:=[(0,1,3),(1,1,3),(2,1,4),(3,1,4)]}),
 (26,{size:=4,bytes:=24,agg:=true,zero:=[AC.t (Tr.int Go.IntKind.i64 (Int.ofNat 0)),AC.t (Tr.int Go.IntKind.i64 (Int.ofNat 0)),AC.t (Tr.bool false),AC.t (Tr.bool false)],fields:=[(0,1,3),(1,1,3),(2,1,4),(3,1,4)]}),
 (28,{size:=1,bytes:=8,agg:=false,zero:=[AC.opq]}),
 (29,{size:=1,bytes:=24,agg:=false,zero:=[AC.nils 0],elem:=some 39}),
 (30,{size:=1,bytes:=8,agg:=false,zero:=[AC.opq]}),
 (31,{size:=1,bytes:=24,agg:=false,zero:=[AC.nils 0],elem:=some 42}),
 (32,{size:=1,bytes:=8,agg:=false,zero:=[AC.opq]}),
 (33,{size:=2,bytes:=16,agg:=true,zero:=[AC.t (Tr.int Go.IntKind.i64 (Int.ofNat 0)),AC.t (Tr.int Go.IntKind.i64 (Int.ofNat 0))],fields:=[(0,1,3),(1,1,3)]}),
 (34,{size:=2,bytes:=16,agg:=true,zero:=[AC.t (Tr.int Go.IntKind.i64 (Int.ofNat 0)),AC.t (Tr.int Go.IntKind.i64 (Int.ofNat 0))],fields:=[(0,1,3),(1,1,3)]}),
 (35,{size:=1,bytes:=24,agg:=false,zero:=[AC.nils 0],elem:=some 3}),
 (36,{size:=7,bytes:=72,agg:=true,zero:=[AC.t (Tr.int Go.IntKind.i64 (Int.ofNat 0)),AC.t (Tr.int Go.IntKind.i64 (Int.ofNat 0)),AC.t (Tr.int Go.IntKind.i64 (Int.ofNat 0)),AC.t (Tr.bool false),AC.nils 0,AC.t (Tr.int Go.IntKind.i64 (Int.ofNat 0)),AC.t (Tr.bool false)],fields:=[(0,2,34),(2,1,3),(3,1,4),(4,1,35),(5,1,3),(6,1,4)]}),
 (37,{size:=7,bytes:=72,agg:=true,zero:=[AC.t (Tr.int Go.IntKind.i64 (Int.ofNat 0)),AC.t (Tr.int Go.IntKind.i64 (Int.ofNat 0)),AC.t (Tr.int Go.IntKind.i64 (Int.ofNat 0)),AC.t (Tr.bool false),AC.nils 0,AC.t (Tr.int Go.IntKind.i64 (Int.ofNat 0)),AC.t (Tr.bool false)],fields:=[(0,2,34),(2,1,3),(3,1,4),(4,1,35),(5,1,3),(6,1,4)]}),
 (38,{size:=8,bytes:=80,agg:=true,zero:=[AC.t (Tr.int Go.IntKind.i64 (Int.ofNat 0)),AC.t (Tr.int Go.IntKind.i64 (Int.ofNat 0)),AC.t (Tr.int Go.IntKind.i64 (Int.ofNat 0)),AC.t (Tr.int Go.IntKind.i64 (Int.ofNat 0)),AC.t (Tr.bool false),AC.nils 0,AC.t (Tr.int Go.IntKind.i64 (Int.ofNat 0)),AC.t (Tr.bool false)],fields:=[(0,1,3),(1,7,37)]}),
 (39,{size:=8,bytes:=80,agg:=true,zero:=[AC.t (Tr.int Go.IntKind.i64 (Int.ofNat 0)),AC.t (Tr.int Go.IntKind.i64 (Int.ofNat 0)),AC.t (Tr.int Go.IntKind.i64 (Int.ofNat 0)),AC.t (Tr.int Go.IntKind.i64 (Int.ofNat 0)),AC.t (Tr.bool false),AC.nils 0,AC.t (Tr.int Go.IntKind.i64 (Int.ofNat 0)),AC.t (Tr.bool false)],fields:=[(0,1,3),(1,7,37)]}),
 (40,{size:=1,bytes:=8,agg:=false,zero:=[AC.opq]}),
 (41,{size:=5,bytes:=48,agg:=true,zero:=[AC.t (Tr.int Go.IntKind.i64 (Int.ofNat 0)),AC.t (Tr.int Go.IntKind.i64 (Int.ofNat 0)),AC.t (Tr.int Go.IntKind.i64 (Int.ofNat 0)),AC.t (Tr.int Go.IntKind.i64 (Int.ofNat 0)),AC.t (Tr.str [])],fields:=[(0,1,3),(1,1,3),(2,1,3),(3,1,3),(4,1,9)]}),
 (42,{size:=5,bytes:=48,agg:=true,zero:=[AC.t (Tr.int Go.IntKind.i64 (Int.ofNat 0)),AC.t (Tr.int Go.IntKind.i64 (Int.ofNat 0)),AC.t (Tr.int Go.IntKind.i64 (Int.ofNat 0)),AC.t (Tr.int Go.IntKind.i64 (Int.ofNat 0)),AC.t (Tr.str [])],fields:=[(0,1,3),(1,1,3),(2,1,3),(3,1,3),(4,1,9)]}),
 (43,{size:=1,bytes:=8,agg:=false,zero:=[AC.opq]}),
 (45,{size:=1,bytes:=8,agg:=false,zero:=[AC.opq]}),
 (46,{size:=1,bytes:=8,agg:=false,zero:=[AC.opq]}),
 (47,{size:=1,bytes:=8,agg:=false,zero:=[AC.opq]}),
 (48,{size:=1,bytes:=8,agg:=false,zero:=[AC.opq]}),
 (49,{size:=1,bytes:=24,agg:=false,zero:=[AC.nils 0],elem:=some 83}),
 (50,{size:=3,bytes:=72,agg:=true,zero:=[AC.nils 0,AC.nils 0,AC.nils 0],fields:=[(0,1,49),(1,1,35),(2,1,35)]}),
 (51,{size:=3,bytes:=72,agg:=true,zero:=[AC.nils 0,AC.nils 0,AC.nils 0],fields:=[(0,1,49),(1,1,35),(2,1,35)]}),
 (53,{size:=1,bytes:=8,agg:=false,zero:=[AC.opq]}),
 (54,{size:=7,bytes:=88,agg:=true,zero:=[AC.t (Tr.int Go.IntKind.i64 (Int.ofNat 0)),AC.t (Tr.int Go.IntKind.i64 (Int.ofNat 0)),AC.t (Tr.int Go.IntKind.i64 (Int.ofNat 0)),AC.nils 0,AC.nils 0,AC.t (Tr.int Go.IntKind.i64 (Int.ofNat 0)),AC.t (Tr.int Go.IntKind.i64 (Int.ofNat 0))],fields:=[(0,1,3),(1,1,3),(2,1,3),(3,1,35),(4,1,35),(5,1,3),(6,1,3)]}),
 (55,{size:=7,bytes:=88,agg:=true,zero:=[AC.t (Tr.int Go.IntKind.i64 (Int.ofNat 0)),AC.t (Tr.int Go.IntKind.i64 (Int.ofNat 0)),AC.t (Tr.int Go.IntKind.i64 (Int.ofNat 0)),AC.nils 0,AC.nils 0,AC.t (Tr.int Go.IntKind.i64 (Int.ofNat 0)),AC.t (Tr.int Go.IntKind.i64 (Int.ofNat 0))],fields:=[(0,1,3),(1,1,3),(2,1,3),(3,1,35),(4,1,35),(5,1,3),(6,1,3)]}),
 (57,{size:=1,bytes:=8,agg:=false,zero:=[AC.opq]}),
 (58,{size:=1,bytes:=8,agg:=false,zero:=[AC.opq]}),
 (60,{size:=1,bytes:=8,agg:=false,zero:=[AC.opq]}),
 (61,{size:=1,bytes:=8,agg:=false,zero:=[AC.opq]}),
 (62,{size:=1,bytes:=8,agg:=false,zero:=[AC.opq]}),
 (64,{size:=1,bytes:=8,agg:=false,zero:=[AC.opq]}),
 (65,{size:=1,bytes:=8,agg:=false,zero:=[AC.opq]}),
 (67,{size:=1,bytes:=8,agg:=false,zero:=[AC.opq]}),
 (69,{size:=1,bytes:=8,agg:=false,zero:=[AC.opq]}),
 (70,{size:=1,bytes:=8,agg:=false,zero:=[AC.opq]}),
 (71,{size:=1,bytes:=8,agg:=false,zero:=[AC.opq]}),
 (72,{size:=1,bytes:=24,agg:=false,zero:=[AC.nils 0],elem:=some 96}),
 (73,{size:=1,bytes:=24,agg:=false,zero:=[AC.nils 0],elem:=some 174}),
 (74,{size:=1,bytes:=24,agg:=false,zero:=[AC.nils 0],elem:=some 176}),
 (75,{size:=5,bytes:=104,agg:=true,zero:=[AC.t (Tr.int Go.IntKind.i64 (Int.ofNat 0)),AC.nils 0,AC.nils 0,AC.nils 0,AC.nils 0],fields:=[(0,1,3),(1,1,72),(2,1,73),(3,1,74),(4,1,31)]}),
 (76,{size:=5,bytes:=104,agg:=true,zero:=[AC.t (Tr.int Go.IntKind.i64 (Int.ofNat 0)),AC.nils 0,AC.nils 0,AC.nils 0,AC.nils 0],fields:=[(0,1,3),(1,1,72),(2,1,73),(3,1,74),(4,1,31)]}),
 (77,{size:=1,bytes:=8,agg:=false,zero:=[AC.opq]}),
 (78,{size:=1,bytes:=8,agg:=false,zero:=[AC.opq]}),
 (80,{size:=1,bytes:=8,agg:=false,zero:=[AC.opq]}),
 (81,{size:=1,bytes:=8,agg:=false,zero:=[AC.opq]}),
 (82,{size:=2,bytes:=40,agg:=true,zero:=[AC.t (Tr.str []),AC.nils 0],fields:=[(0,1,9),(1,1,72)]}),
 (83,{size:=2,bytes:=40,agg:=true,zero:=[AC.t (Tr.str []),AC.nils 0],fields:=[(0,1,9),(1,1,72)]}),
 (84,{size:=1,bytes:=8,agg:=false,zero:=[AC.opq]}),
 (85,{size:=1,bytes:=8,agg:=false,zero:=[AC.opq]}),
 (86,{size:=1,bytes:=8,agg:=false,zero:=[AC.opq]}),
 (87,{size:=1,bytes:=8,agg:=false,zero:=[AC.opq]}),
 (88,{size:=1,bytes:=8,agg:=false,zero:=[AC.opq]}),
 (89,{size:=1,bytes:=8,agg:=false,zero:=[AC.opq]}),
 (90,{size:=1,bytes:=24,agg:=false,zero:=[AC.nils 0],elem:=some 94}),
 (92,{size:=1,bytes:=8,agg:=false,zero:=[AC.opq]}),
 (93,{size:=2,bytes:=24,agg:=true,zero:=[AC.t (Tr.str []),AC.t (Tr.int Go.IntKind.i64 (Int.ofNat 0))],fields:=[(0,1,9),(1,1,3)]}),
 (94,{size:=2,bytes:=24,agg:=true,zero:=[AC.t (Tr.str []),AC.t (Tr.int Go.IntKind.i64 (Int.ofNat 0))],fields:=[(0,1,9),(1,1,3)]}),
 (95,{size:=3,bytes:=32,agg:=true,zero:=[AC.t (Tr.str []),AC.t (Tr.int Go.IntKind.i64 (Int.ofNat 0)),AC.t (Tr.int Go.IntKind.i64 (Int.ofNat 0))],fields:=[(0,1,9),(1,1,3),(2,1,3)]}),
 (96,{size:=3,bytes:=32,agg:=true,zero:=[AC.t (Tr.str []),AC.t (Tr.int Go.IntKind.i64 (Int.ofNat 0)),AC.t (Tr.int Go.IntKind.i64 (Int.ofNat 0))],fields:=[(0,1,9),(1,1,3),(2,1,3)]}),
 (97,{size:=1,bytes:=8,agg:=false,zero:=[AC.opq]}),
 (98,{size:=1,bytes:=24,agg:=false,zero:=[AC.nils 0],elem:=some 73}),
 (100,{size:=1,bytes:=8,agg:=false,zero:=[AC.opq]}),
 (101,{size:=4,bytes:=48,agg:=true,zero:=[AC.t (Tr.int Go.IntKind.i64 (Int.ofNat 0)),AC.t (Tr.int Go.IntKind.i64 (Int.ofNat 0)),AC.t (Tr.int Go.IntKind.i64 (Int.ofNat 0)),AC.nils 0],fields:=[(0,1,3),(1,1,3),(2,1,3),(3,1,35)]}),
 (102,{size:=4,bytes:=48,agg:=true,zero:=[AC.t (Tr.int Go.IntKind.i64 (Int.ofNat 0)),AC.t (Tr.int Go.IntKind.i64 (Int.ofNat 0)),AC.t (Tr.int Go.IntKind.i64 (Int.ofNat 0)),AC.nils 0],fields:=[(0,1,3),(1,1,3),(2,1,3),(3,1,35)]}),
 (103,{size:=1,bytes:=8,agg:=false,zero:=[AC.opq]}),
 (105,{size:=1,bytes:=8,agg:=false,zero:=[AC.opq]}),
 (106,{size:=1,bytes:=8,agg:=false,zero:=[AC.opq]}),
 (107,{size:=1,bytes:=24,agg:=false,zero:=[AC.nils 0],elem:=some 186}),
 (108,{size:=4,bytes:=24,agg:=true,zero:=[AC.t (Tr.int Go.IntKind.i64 (Int.ofNat 0)),AC.t (Tr.int Go.IntKind.i64 (Int.ofNat 0)),AC.t (Tr.bool false),AC.t (Tr.bool false)],fields:=[(0,1,3),(1,1,3),(2,1,4),(3,1,4)]}),
 (109,{size:=1,bytes:=8,agg:=false,zero:=[AC.opq]}),
 (110,{size:=1,bytes:=8,agg:=false,zero:=[AC.opq]}),
 (111,{size:=1,bytes:=8,agg:=false,zero:=[AC.opq]}),
 (112,{size:=1,bytes:=8,agg:=false,zero:=[AC.opq]}),
 (113,{size:=1,bytes:=8,agg:=false,zero:=[AC.opq]}),
 (114,{size:=1,bytes:=8,agg:=false,zero:=[AC.opq]}),
 (115,{size:=1,bytes:=8,agg:=false,zero:=[AC.opq]}),
 (116,{size:=1,bytes:=8,agg:=false,zero:=[AC.opq]}),
 (117,{size:=1,bytes:=8,agg:=false,zero:=[AC.opq]}),
 (118,{size:=1,bytes:=8,agg:=false,zero:=[AC.opq]}),
 (119,{size:=1,bytes:=8,agg:=false,zero:=[AC.nilp]}),
 (120,{size:=1,bytes:=8,agg:=false,zero:=[AC.opq]}),
 (121,{size:=1,bytes:=8,agg:=false,zero:=[AC.opq]}),
 (122,{size:=1,bytes:=8,agg:=false,zero:=[AC.opq]}),
 (123,{size:=1,bytes:=8,agg:=false,zero:=[AC.opq]}),
 (124,{size:=1,bytes:=8,agg:=false,zero:=[AC.opq]}),
 (125,{size:=1,bytes:=8,agg:=false,zero:=[AC.opq]}),
 (126,{size:=1,bytes:=8,agg:=false,zero:=[AC.opq]}),
 (127,{size:=1,bytes:=24,agg:=false,zero:=[AC.nils 0],elem:=some 37}),
 (128,{size:=1,bytes:=8,agg:=false,zero:=[AC.opq]}),
 (129,{size:=1,bytes:=8,agg:=false,zero:=[AC.opq]}),
 (130,{size:=1,bytes:=8,agg:=false,zero:=[AC.opq]}),
 (131,{size:=1,bytes:=8,agg:=false,zero:=[AC.opq]}),
 (132,{size:=1,bytes:=24,agg:=false,zero:=[AC.nils 0],elem:=some 9}),
 (133,{size:=1,bytes:=24,agg:=false,zero:=[AC.nils 0],elem:=some 201}),
 (134,{size:=4,bytes:=72,agg:=true,zero:=[AC.t (Tr.int Go.IntKind.i64 (Int.ofNat 0)),AC.t (Tr.str []),AC.nils 0,AC.nils 0],fields:=[(0,1,3),(1,1,9),(2,1,132),(3,1,133)]}),
 (135,{size:=4,bytes:=72,agg:=true,zero:=[AC.t (Tr.int Go.IntKind.i64 (Int.ofNat 0)),AC.t (Tr.str []),AC.nils 0,AC.nils 0],fields:=[(0,1,3),(1,1,9),(2,1,132),(3,1,133)]}),
 (137,{size:=1,bytes:=8,agg:=false,zero:=[AC.opq]}),
 (139,{size:=1,bytes:=8,agg:=false,zero:=[AC.opq]}),
 (141,{size:=1,bytes:=8,agg:=false,zero:=[AC.opq]}),
 (142,{size:=1,bytes:=8,agg:=false,zero:=[AC.opq]}),
 (143,{size:=1,bytes:=8,agg:=false,zero:=[AC.opq]}),
 (144,{size:=1,bytes:=8,agg:=false,zero:=[AC.opq]}),
 (145,{size:=1,bytes:=8,agg:=false,zero:=[AC.opq]}),
 (146,{size:=1,bytes:=8,agg:=false,zero:=[AC.opq]}),
 (147,{size:=1,bytes:=8,agg:=false,zero:=[AC.opq]}),
 (148,{size:=1,bytes:=8,agg:=false,zero:=[AC.opq]}),
 (149,{size:=1,bytes:=8,agg:=false,zero:=[AC.opq]}),
 (150,{size:=1,bytes:=8,agg:=false,zero:=[AC.opq]}),
 (151,{size:=1,bytes:=8,agg:=false,zero:=[AC.opq]}),
 (152,{size:=1,bytes:=8,agg:=false,zero:=[AC.opq]}),
 (153,{size:=1,bytes:=8,agg:=false,zero:=[AC.opq]}),
 (154,{size:=1,bytes:=8,agg:=false,zero:=[AC.opq]}),
 (155,{size:=1,bytes:=8,agg:=false,zero:=[AC.opq]}),
 (156,{size:=1,bytes:=8,agg:=false,zero:=[AC.opq]}),
 (157,{size:=1,bytes:=8,agg:=false,zero:=[AC.opq]}),
 (158,{size:=1,bytes:=8,agg:=false,zero:=[AC.opq]}),
 (159,{size:=1,bytes:=8,agg:=false,zero:=[AC.nilp]}),
 (160,{size:=3,bytes:=32,agg:=true,zero:=[AC.t (Tr.str []),AC.t (Tr.int Go.IntKind.i64 (Int.ofNat 0)),AC.t (Tr.bool false)],fields:=[(0,1,9),(1,1,3),(2,1,4)]}),
 (161,{size:=3,bytes:=32,agg:=true,zero:=[AC.t (Tr.str []),AC.t (Tr.int Go.IntKind.i64 (Int.ofNat 0)),AC.t (Tr.bool false)],fields:=[(0,1,9),(1,1,3),(2,1,4)]}),
 (162,{size:=1,bytes:=8,agg:=false,zero:=[AC.opq]}),
 (163,{size:=1,bytes:=8,agg:=false,zero:=[AC.opq]}),
 (164,{size:=1,bytes:=8,agg:=false,zero:=[AC.opq]}),
 (166,{size:=1,bytes:=8,agg:=false,zero:=[AC.opq]}),
 (168,{size:=1,bytes:=8,agg:=false,zero:=[AC.opq]}),
 (169,{size:=1,bytes:=8,agg:=false,zero:=[AC.opq]}),
 (170,{size:=1,bytes:=8,agg:=false,zero:=[AC.opq]}),
 (171,{size:=1,bytes:=8,agg:=false,zero:=[AC.opq]}),
 (172,{size:=1,bytes:=8,agg:=false,zero:=[AC.opq]}),
 (173,{size:=4,bytes:=32,agg:=true,zero:=[AC.t (Tr.int Go.IntKind.i64 (Int.ofNat 0)),AC.t (Tr.int Go.IntKind.i64 (Int.ofNat 0)),AC.t (Tr.bool false),AC.t (Tr.int Go.IntKind.i64 (Int.ofNat 0))],fields:=[(0,1,3),(1,1,3),(2,1,4),(3,1,3)]}),
 (174,{size:=4,bytes:=32,agg:=true,zero:=[AC.t (Tr.int Go.IntKind.i64 (Int.ofNat 0)),AC.t (Tr.int Go.IntKind.i64 (Int.ofNat 0)),AC.t (Tr.bool false),AC.t (Tr.int Go.IntKind.i64 (Int.ofNat 0))],fields:=[(0,1,3),(1,1,3),(2,1,4),(3,1,3)]}),
 (175,{size:=3,bytes:=24,agg:=true,zero:=[AC.t (Tr.int Go.IntKind.i64 (Int.ofNat 0)),AC.t (Tr.int Go.IntKind.i64 (Int.ofNat 0)),AC.t (Tr.bool false)],fields:=[(0,1,3),(1,1,3),(2,1,4)]}),
 (176,{size:=3,bytes:=24,agg:=true,zero:=[AC.t (Tr.int Go.IntKind.i64 (Int.ofNat 0)),AC.t (Tr.int Go.IntKind.i64 (Int.ofNat 0)),AC.t (Tr.bool false)],fields:=[(0,1,3),(1,1,3),(2,1,4)]}),
 (177,{size:=1,bytes:=8,agg:=false,zero:=[AC.opq]}),
 (178,{size:=1,bytes:=8,agg:=false,zero:=[AC.opq]}),
 (179,{size:=1,bytes:=8,agg:=false,zero:=[AC.opq]}),
 (181,{size:=1,bytes:=8,agg:=false,zero:=[AC.opq]}),
 (182,{size:=1,bytes:=8,agg:=false,zero:=[AC.opq]}),
 (183,{size:=1,bytes:=8,agg:=false,zero:=[AC.opq]}),
 (184,{size:=1,bytes:=24,agg:=false,zero:=[AC.nils 0],elem:=some 262}),
 (185,{size:=4,bytes:=72,agg:=true,zero:=[AC.t (Tr.int Go.IntKind.i64 (Int.ofNat 0)),AC.t (Tr.str []),AC.nils 0,AC.nils 0],fields:=[(0,1,3),(1,1,9),(2,1,132),(3,1,184)]}),
 (186,{size:=4,bytes:=72,agg:=true,zero:=[AC.t (Tr.int Go.IntKind.i64 (Int.ofNat 0)),AC.t (Tr.str []),AC.nils 0,AC.nils 0],fields:=[(0,1,3),(1,1,9),(2,1,132),(3,1,184)]}),
 (187,{size:=1,bytes:=8,agg:=false,zero:=[AC.opq]}),
 (188,{size:=1,bytes:=24,agg:=false,zero:=[AC.nils 0],elem:=some 29}),
 (190,{size:=1,bytes:=8,agg:=false,zero:=[AC.opq]}),
 (191,{size:=1,bytes:=8,agg:=false,zero:=[AC.opq]}),
 (192,{size:=1,bytes:=8,agg:=false,zero:=[AC.opq]}),
 (193,{size:=1,bytes:=8,agg:=false,zero:=[AC.opq]}),
 (194,{size:=1,bytes:=8,agg:=false,zero:=[AC.opq]}),
 (195,{size:=1,bytes:=8,agg:=false,zero:=[AC.opq]}),
 (196,{size:=1,bytes:=8,agg:=false,zero:=[AC.opq]}),
 (197,{size:=1,bytes:=8,agg:=false,zero:=[AC.opq]}),
 (198,{size:=3,bytes:=40,agg:=true,zero:=[AC.nils 0,AC.t (Tr.int Go.IntKind.i64 (Int.ofNat 0)),AC.t (Tr.int Go.IntKind.i64 (Int.ofNat 0))],fields:=[(0,1,22),(1,1,3),(2,1,3)]}),
 (199,{size:=3,bytes:=40,agg:=true,zero:=[AC.nils 0,AC.t (Tr.int Go.IntKind.i64 (Int.ofNat 0)),AC.t (Tr.int Go.IntKind.i64 (Int.ofNat 0))],fields:=[(0,1,22),(1,1,3),(2,1,3)]}),
 (200,{size:=3,bytes:=32,agg:=true,zero:=[AC.t (Tr.int Go.IntKind.i64 (Int.ofNat 0)),AC.t (Tr.int Go.IntKind.i64 (Int.ofNat 0)),AC.t (Tr.str [])],fields:=[(0,1,3),(1,1,3),(2,1,9)]}),
 (201,{size:=3,bytes:=32,agg:=true,zero:=[AC.t (Tr.int Go.IntKind.i64 (Int.ofNat 0)),AC.t (Tr.int Go.IntKind.i64 (Int.ofNat 0)),AC.t (Tr.str [])],fields:=[(0,1,3),(1,1,3),(2,1,9)]}),
 (202,{size:=1,bytes:=8,agg:=false,zero:=[AC.opq]}),
 (203,{size:=1,bytes:=8,agg:=false,zero:=[AC.opq]}),
 (204,{size:=1,bytes:=8,agg:=false,zero:=[AC.opq]}),
 (205,{size:=1,bytes:=8,agg:=false,zero:=[AC.opq]}),
 (207,{size:=1,bytes:=8,agg:=false,zero:=[AC.opq]}),
 (208,{size:=1,bytes:=8,agg:=false,zero:=[AC.opq]}),
 (209,{size:=1,bytes:=8,agg:=false,zero:=[AC.opq]}),
 (210,{size:=1,bytes:=8,agg:=false,zero:=[AC.t (Tr.int Go.IntKind.u64 (Int.ofNat 0))],kind:=some Go.IntKind.u64}),
 (211,{size:=1,bytes:=8,agg:=false,zero:=[AC.opq]}),
 (212,{size:=1,bytes:=8,agg:=false,zero:=[AC.nilp]}),
 (213,{size:=1,bytes:=8,agg:=false,zero:=[AC.nilp]}),
 (214,{size:=2,bytes:=16,agg:=true,zero:=[AC.nilp,AC.t (Tr.bool false)],fields:=[(0,1,213),(1,1,4)]}),
 (215,{size:=2,bytes:=16,agg:=true,zero:=[AC.nilp,AC.t (Tr.bool false)],fields:=[(0,1,213),(1,1,4)]}),
 (216,{size:=1,bytes:=8,agg:=false,zero:=[AC.opq]}),
 (217,{size:=1,bytes:=8,agg:=false,zero:=[AC.opq]}),
 (218,{size:=1,bytes:=8,agg:=false,zero:=[AC.nilp]}),
 (219,{size:=8,bytes:=96,agg:=true,zero:=[AC.t (Tr.int Go.IntKind.i64 (Int.ofNat 0)),AC.t (Tr.int Go.IntKind.i64 (Int.ofNat 0)),AC.t (Tr.int Go.IntKind.i64 (Int.ofNat 0)),AC.nils 0,AC.nils 0,AC.t (Tr.int Go.IntKind.i64 (Int.ofNat 0)),AC.t (Tr.int Go.IntKind.i64 (Int.ofNat 0)),AC.t (Tr.bool false)],fields:=[(0,7,55),(7,1,4)]}),
 (220,{size:=8,bytes:=96,agg:=true,zero:=[AC.t (Tr.int Go.IntKind.i64 (Int.ofNat 0)),AC.t (Tr.int Go.IntKind.i64 (Int.ofNat 0)),AC.t (Tr.int Go.IntKind.i64 (Int.ofNat 0)),AC.nils 0,AC.nils 0,AC.t (Tr.int Go.IntKind.i64 (Int.ofNat 0)),AC.t (Tr.int Go.IntKind.i64 (Int.ofNat 0)),AC.t (Tr.bool false)],fields:=[(0,7,55),(7,1,4)]}),
 (221,{size:=1,bytes:=8,agg:=false,zero:=[AC.opq]}),
 (222,{size:=1,bytes:=24,agg:=false,zero:=[AC.nils 0],elem:=some 34}),
 (224,{size:=1,bytes:=8,agg:=false,zero:=[AC.opq]}),
 (225,{size:=1,bytes:=8,agg:=false,zero:=[AC.opq]}),
 (226,{size:=1,bytes:=8,agg:=false,zero:=[AC.opq]}),
 (227,{size:=1,bytes:=8,agg:=false,zero:=[AC.opq]}),
 (228,{size:=1,bytes:=8,agg:=false,zero:=[AC.opq]}),
 (229,{size:=1,bytes:=8,agg:=false,zero:=[AC.opq]}),
 (230,{size:=1,bytes:=8,agg:=false,zero:=[AC.opq]}),
 (231,{size:=1,bytes:=8,agg:=false,zero:=[AC.opq]}),
 (232,{size:=1,bytes:=8,agg:=false,zero:=[AC.opq]}),
 (233,{size:=1,bytes:=8,agg:=false,zero:=[AC.opq]}),
 (234,{size:=1,bytes:=8,agg:=false,zero:=[AC.opq]}),
 (235,{size:=1,bytes:=8,agg:=false,zero:=[AC.opq]}),
 (236,{size:=1,bytes:=8,agg:=false,zero:=[AC.opq]}),
 (237,{size:=1,bytes:=8,agg:=false,zero:=[AC.opq]}),
 (238,{size:=1,bytes:=8,agg:=false,zero:=[AC.opq]}),
 (239,{size:=1,bytes:=8,agg:=false,zero:=[AC.opq]}),
 (240,{size:=1,bytes:=8,agg:=false,zero:=[AC.opq]}),
 (241,{size:=1,bytes:=8,agg:=false,zero:=[AC.opq]}),
 (242,{size:=1,bytes:=8,agg:=false,zero:=[AC.nilp]}),
 (243,{size:=4,bytes:=80,agg:=true,zero:=[AC.nilp,AC.nils 0,AC.nils 0,AC.nils 0],fields:=[(0,1,119),(1,1,132),(2,1,132),(3,1,35)]}),
 (244,{size:=4,bytes:=80,agg:=true,zero:=[AC.nilp,AC.nils 0,AC.nils 0,AC.nils 0],fields:=[(0,1,119),(1,1,132),(2,1,132),(3,1,35)]}),
 (245,{size:=1,bytes:=8,agg:=false,zero:=[AC.opq]}),
 (246,{size:=1,bytes:=8,agg:=false,zero:=[AC.opq]}),
 (247,{size:=1,bytes:=8,agg:=false,zero:=[AC.opq]}),
 (248,{size:=1,bytes:=8,agg:=false,zero:=[AC.nilp]}),
 (249,{size:=1,bytes:=24,agg:=false,zero:=[AC.nils 0],elem:=some 253}),
 (250,{size:=13,bytes:=144,agg:=true,zero:=[AC.nils 0,AC.t (Tr.int Go.IntKind.i64 (Int.ofNat 0)),AC.t (Tr.int Go.IntKind.i64 (Int.ofNat 0)),AC.t (Tr.bool false),AC.t (Tr.bool false),AC.t (Tr.bool false),AC.t (Tr.int Go.IntKind.i64 (Int.ofNat 0)),AC.t (Tr.int Go.IntKind.i64 (Int.ofNat 0)),AC.t (Tr.int Go.IntKind.i64 (Int.ofNat 0)),AC.t (Tr.int Go.IntKind.i64 (Int.ofNat 0)),AC.nils 0,AC.nils 0,AC.t (Tr.bool false)],fields:=[(0,1,24),(1,4,26),(5,1,4),(6,1,3),(7,1,3),(8,1,3),(9,1,3),(10,1,127),(11,1,249),(12,1,4)]}),
 (251,{size:=13,bytes:=144,agg:=true,zero:=[AC.nils 0,AC.t (Tr.int Go.IntKind.i64 (Int.ofNat 0)),AC.t (Tr.int Go.IntKind.i64 (Int.ofNat 0)),AC.t (Tr.bool false),AC.t (Tr.bool false),AC.t (Tr.bool false),AC.t (Tr.int Go.IntKind.i64 (Int.ofNat 0)),AC.t (Tr.int Go.IntKind.i64 (Int.ofNat 0)),AC.t (Tr.int Go.IntKind.i64 (Int.ofNat 0)),AC.t (Tr.int Go.IntKind.i64 (Int.ofNat 0)),AC.nils 0,AC.nils 0,AC.t (Tr.bool false)],fields:=[(0,1,24),(1,4,26),(5,1,4),(6,1,3),(7,1,3),(8,1,3),(9,1,3),(10,1,127),(11,1,249),(12,1,4)]}),
 (252,{size:=6,bytes:=96,agg:=true,zero:=[AC.t (Tr.int Go.IntKind.i64 (Int.ofNat 0)),AC.nils 0,AC.nils 0,AC.t (Tr.int Go.IntKind.i64 (Int.ofNat 0)),AC.t (Tr.bool false),AC.nils 0],fields:=[(0,1,3),(1,1,35),(2,1,132),(3,1,3),(4,1,4),(5,1,35)]}),
 (253,{size:=6,bytes:=96,agg:=true,zero:=[AC.t (Tr.int Go.IntKind.i64 (Int.ofNat 0)),AC.nils 0,AC.nils 0,AC.t (Tr.int Go.IntKind.i64 (Int.ofNat 0)),AC.t (Tr.bool false),AC.nils 0],fields:=[(0,1,3),(1,1,35),(2,1,132),(3,1,3),(4,1,4),(5,1,35)]}),
 (254,{size:=1,bytes:=8,agg:=false,zero:=[AC.opq]}),
 (255,{size:=1,bytes:=8,agg:=false,zero:=[AC.opq]}),
 (256,{size:=1,bytes:=8,agg:=false,zero:=[AC.opq]}),
 (257,{size:=1,bytes:=8,agg:=false,zero:=[AC.opq]}),
 (258,{size:=1,bytes:=8,agg:=false,zero:=[AC.opq]}),
 (259,{size:=1,bytes:=8,agg:=false,zero:=[AC.opq]}),
 (260,{size:=1,bytes:=8,agg:=false,zero:=[AC.opq]}),
 (261,{size:=1,bytes:=8,agg:=false,zero:=[AC.opq]}),
 (262,{size:=3,bytes:=32,agg:=true,zero:=[AC.t (Tr.int Go.IntKind.i64 (Int.ofNat 0)),AC.t (Tr.int Go.IntKind.i64 (Int.ofNat 0)),AC.t (Tr.str [])],fields:=[(0,1,3),(1,1,3),(2,1,9)]}),
 (263,{size:=1,bytes:=8,agg:=false,zero:=[AC.opq]}),
 (264,{size:=1,bytes:=8,agg:=false,zero:=[AC.opq]}),
 (265,{size:=1,bytes:=8,agg:=false,zero:=[AC.opq]}),
 (266,{size:=1,bytes:=8,agg:=false,zero:=[AC.opq]}),
 (267,{size:=1,bytes:=8,agg:=false,zero:=[AC.opq]}),
 (268,{size:=1,bytes:=8,agg:=false,zero:=[AC.opq]}),
 (269,{size:=1,bytes:=8,agg:=false,zero:=[AC.opq]}),
 (270,{size:=1,bytes:=24,agg:=false,zero:=[AC.nils 0],elem:=some 273}),
 (271,{size:=1,bytes:=8,agg:=false,zero:=[AC.opq]}),
 (272,{size:=2,bytes:=16,agg:=true,zero:=[AC.t (Tr.int Go.IntKind.i64 (Int.ofNat 0)),AC.t (Tr.int Go.IntKind.i64 (Int.ofNat 0))],fields:=[(0,1,3),(1,1,3)]}),
 (273,{size:=2,bytes:=16,agg:=true,zero:=[AC.t (Tr.int Go.IntKind.i64 (Int.ofNat 0)),AC.t (Tr.int Go.IntKind.i64 (Int.ofNat 0))],fields:=[(0,1,3),(1,1,3)]}),
 (274,{size:=1,bytes:=8,agg:=false,zero:=[AC.opq]}),
 (275,{size:=1,bytes:=8,agg:=false,zero:=[AC.opq]}),
 (276,{size:=1,bytes:=8,agg:=false,zero:=[AC.opq]}),
 (277,{size:=1,bytes:=8,agg:=false,zero:=[AC.opq]}),
 (278,{size:=1,bytes:=8,agg:=false,zero:=[AC.opq]}),
 (279,{size:=1,bytes:=8,agg:=false,zero:=[AC.nilp]}),
 (280,{size:=11,bytes:=128,agg:=true,zero:=[AC.nils 0,AC.t (Tr.int Go.IntKind.i64 (Int.ofNat 0)),AC.t (Tr.int Go.IntKind.i64 (Int.ofNat 0)),AC.t (Tr.bool false),AC.t (Tr.bool false),AC.t (Tr.bool false),AC.t (Tr.int Go.IntKind.i64 (Int.ofNat 0)),AC.t (Tr.int Go.IntKind.i64 (Int.ofNat 0)),AC.nils 0,AC.t (Tr.int Go.IntKind.i64 (Int.ofNat 0)),AC.nils 0],fields:=[(0,1,24),(1,4,26),(5,1,4),(6,1,3),(7,1,3),(8,1,127),(9,1,3),(10,1,35)]}),
 (281,{size:=11,bytes:=128,agg:=true,zero:=[AC.nils 0,AC.t (Tr.int Go.IntKind.i64 (Int.ofNat 0)),AC.t (Tr.int Go.IntKind.i64 (Int.ofNat 0)),AC.t (Tr.bool false),AC.t (Tr.bool false),AC.t (Tr.bool false),AC.t (Tr.int Go.IntKind.i64 (Int.ofNat 0)),AC.t (Tr.int Go.IntKind.i64 (Int.ofNat 0)),AC.nils 0,AC.t (Tr.int Go.IntKind.i64 (Int.ofNat 0)),AC.nils 0],fields:=[(0,1,24),(1,4,26),(5,1,4),(6,1,3),(7,1,3),(8,1,127),(9,1,3),(10,1,35)]}),
 (282,{size:=1,bytes:=8,agg:=false,zero:=[AC.nilp]}),
 (283,{size:=8,bytes:=112,agg:=true,zero:=[AC.t (Tr.int Go.IntKind.i64 (Int.ofNat 0)),AC.t (Tr.int Go.IntKind.i64 (Int.ofNat 0)),AC.nils 0,AC.t (Tr.int Go.IntKind.i64 (Int.ofNat 0)),AC.t (Tr.int Go.IntKind.i64 (Int.ofNat 0)),AC.nils 0,AC.t (Tr.int Go.IntKind.i64 (Int.ofNat 0)),AC.nils 0],fields:=[(0,1,3),(1,1,3),(2,1,132),(3,1,3),(4,1,3),(5,1,35),(6,1,3),(7,1,35)]}),
 (284,{size:=8,bytes:=112,agg:=true,zero:=[AC.t (Tr.int Go.IntKind.i64 (Int.ofNat 0)),AC.t (Tr.int Go.IntKind.i64 (Int.ofNat 0)),AC.nils 0,AC.t (Tr.int Go.IntKind.i64 (Int.ofNat 0)),AC.t (Tr.int Go.IntKind.i64 (Int.ofNat 0)),AC.nils 0,AC.t (Tr.int Go.IntKind.i64 (Int.ofNat 0)),AC.nils 0],fields:=[(0,1,3),(1,1,3),(2,1,132),(3,1,3),(4,1,3),(5,1,35),(6,1,3),(7,1,35)]}),
 (285,{size:=1,bytes:=8,agg:=false,zero:=[AC.opq]}),
 (286,{size:=1,bytes:=8,agg:=false,zero:=[AC.opq]}),
 (287,{size:=1,bytes:=8,agg:=false,zero:=[AC.opq]}),
 (288,{size:=1,bytes:=8,agg:=false,zero:=[AC.opq]}),
 (289,{size:=1,bytes:=8,agg:=false,zero:=[AC.nilp]}),
 (290,{size:=1,bytes:=8,agg:=false,zero:=[AC.opq]}),
 (291,{size:=1,bytes:=8,agg:=false,zero:=[AC.opq]}),
 (292,{size:=1,bytes:=8,agg:=false,zero:=[AC.opq]}),
 (293,{size:=1,bytes:=4,agg:=false,zero:=[AC.t (Tr.int Go.IntKind.u32 (Int.ofNat 0))],kind:=some Go.IntKind.u32}),
 (294,{size:=1,bytes:=8,agg:=false,zero:=[AC.opq],map:=some (some Go.IntKind.i64)}),
 (295,{size:=1,bytes:=8,agg:=false,zero:=[AC.opq]}),
 (296,{size:=1,bytes:=8,agg:=false,zero:=[AC.opq]}),
 (297,{size:=1,bytes:=8,agg:=false,zero:=[AC.opq]}),
 (298,{size:=1,bytes:=8,agg:=false,zero:=[AC.opq]}),
 (299,{size:=1,bytes:=24,agg:=false,zero:=[AC.nils 0],elem:=some 133}),
 (300,{size:=1,bytes:=8,agg:=false,zero:=[AC.opq]}),
 (301,{size:=1,bytes:=8,agg:=false,zero:=[AC.opq]}),
 (302,{size:=1,bytes:=8,agg:=false,zero:=[AC.opq]}),
 (303,{size:=4,bytes:=40,agg:=true,zero:=[AC.nilp,AC.nilp,AC.nilp,AC.t (Tr.str [])],fields:=[(0,1,17),(1,1,17),(2,1,17),(3,1,9)]}),
 (304,{size:=4,bytes:=40,agg:=true,zero:=[AC.nilp,AC.nilp,AC.nilp,AC.t (Tr.str [])],fields:=[(0,1,17),(1,1,17),(2,1,17),(3,1,9)]}),
 (308,{size:=1,bytes:=1,agg:=false,zero:=[AC.t (Tr.int Go.IntKind.u8 (Int.ofNat 0))],kind:=some Go.IntKind.u8}),
 (309,{size:=1,bytes:=1,agg:=false,zero:=[AC.t (Tr.int Go.IntKind.u8 (Int.ofNat 0))],kind:=some Go.IntKind.u8}),
 (310,{size:=1,bytes:=8,agg:=false,zero:=[AC.opq]}),
 (311,{size:=1,bytes:=8,agg:=false,zero:=[AC.nilp]}),
 (312,{size:=1,bytes:=4,agg:=false,zero:=[AC.t (Tr.int Go.IntKind.i32 (Int.ofNat 0))],kind:=some Go.IntKind.i32}),
 (313,{size:=1,bytes:=4,agg:=false,zero:=[AC.t (Tr.int Go.IntKind.i32 (Int.ofNat 0))],kind:=some Go.IntKind.i32}),
 (314,{size:=11,bytes:=48,agg:=true,zero:=[AC.t (Tr.int Go.IntKind.u64 (Int.ofNat 0)),AC.t (Tr.int Go.IntKind.u64 (Int.ofNat 0)),AC.t (Tr.int Go.IntKind.u32 (Int.ofNat 0)),AC.t (Tr.int Go.IntKind.u8 (Int.ofNat 0)),AC.t (Tr.int Go.IntKind.u8 (Int.ofNat 0)),AC.t (Tr.int Go.IntKind.u8 (Int.ofNat 0)),AC.t (Tr.int Go.IntKind.u8 (Int.ofNat 0)),AC.opq,AC.nilp,AC.t (Tr.int Go.IntKind.i32 (Int.ofNat 0)),AC.t (Tr.int Go.IntKind.i32 (Int.ofNat 0))],fields:=[(0,1,12),(1,1,12),(2,1,293),(3,1,308),(4,1,5),(5,1,5),(6,1,309),(7,1,310),(8,1,311),(9,1,312),(10,1,313)]}),
 (315,{size:=11,bytes:=48,agg:=true,zero:=[AC.t (Tr.int Go.IntKind.u64 (Int.ofNat 0)),AC.t (Tr.int Go.IntKind.u64 (Int.ofNat 0)),AC.t (Tr.int Go.IntKind.u32 (Int.ofNat 0)),AC.t (Tr.int Go.IntKind.u8 (Int.ofNat 0)),AC.t (Tr.int Go.IntKind.u8 (Int.ofNat 0)),AC.t (Tr.int Go.IntKind.u8 (Int.ofNat 0)),AC.t (Tr.int Go.IntKind.u8 (Int.ofNat 0)),AC.opq,AC.nilp,AC.t (Tr.int Go.IntKind.i32 (Int.ofNat 0)),AC.t (Tr.int Go.IntKind.i32 (Int.ofNat 0))],fields:=[(0,1,12),(1,1,12),(2,1,293),(3,1,308),(4,1,5),(5,1,5),(6,1,309),(7,1,310),(8,1,311),(9,1,312),(10,1,313)]}),
 (316,{size:=1,bytes:=8,agg:=false,zero:=[AC.nilp]})]
theorem hΓ:Γ.chk Tryz.prog=true:=by kernel_rfl
theorem ay:Tryz.prog.follows .mixedOrders=true:=by kernel_rfl
end Go.Proofs.YtjmplnfiabmalaaGreat
namespace Go.Proofs.YtjmplnfiabmalaaGreat
open Go.Sim Go.ChangeShapes Go.WideShapes Go.ChangeAt Go.RowKit
theorem own:ownKnob Tryz.prog.godebug=none:=by kernel_rfl
theorem FQ:laidOutB Tryz.prog=true:=by kernel_rfl
theorem zn {α:Type}{g:α→List Tr}{Q:α→Prop}:∀{rows:List (List Tr)},(∀r∈rows,∃m,r=g m∧Q m)→∃ns:List α,rows=ns.map g∧∀m∈ns,Q m
 | [],_=>⟨[],rfl,fun _ h=>by cases h⟩
 | r::rows,h=>by
  obtain⟨m,rfl,hm⟩:=h r (by simp)
  obtain⟨ns,rfl,hns⟩:=zn (rows:=rows) fun r hr=>h r (by simp[hr])
  exact⟨m::ns,rfl,fun x hx=>by
   rcases List.mem_cons.1 hx with rfl|hx
   ·exact hm
   ·exact hns x hx⟩
end Go.Proofs.YtjmplnfiabmalaaGreat
namespace Go.Proofs.YtjmplnfiabmalaaGreat
open Go.Sim
abbrev tvI (n:Int):TV:= .c (.int .i64 n)
abbrev tvS (n:List UInt8):TV:= .c (.str n)
abbrev rI (n:Int):Res:= .r (.c (.t (.int .i64 n)))
abbrev rB (b:Bool):Res:= .r (.c (.t (.bool b)))
abbrev rS (b:List UInt8):Res:= .r (.c (.t (.str b)))
def ah (n lo hi:Int):Bool:=decide (lo≤n) && decide (n≤hi)
theorem within_iff {n lo hi:Int}:ah n lo hi=true↔lo≤n∧n≤hi:=by simp[ah]
set_option maxRecDepth 100000
theorem bm (n lo hi:Int):Sim.Spec Tryz.prog 79 [tvI n,tvI lo,tvI hi] (rB (ah n lo hi)):=by
 refine ao hΓ ay Tryz.func79 rfl (by decide) rfl ?_
 repeat' ((conv=>whnf);first|refine Or.inl ?_|apply oi|(apply fi<;>intro h)|refine⟨_,rfl,?_⟩|exact rfl)
 all_goals try exact⟨KO⟩
 all_goals refine⟨?_⟩
 all_goals simp_all[ah]
 all_goals omega
theorem aH (n lo hi:Int):Sim.Spec Tryz.prog 74 [tvI n,tvI lo,tvI hi] (rB (ah n lo hi)):=by
 refine ao hΓ ay Tryz.func74 rfl (by decide) rfl ?_
 repeat' ((conv=>whnf);first|refine Or.inl ?_|apply oi|(apply fi<;>intro h)|refine⟨_,rfl,?_⟩|exact rfl)
 all_goals try exact⟨KO⟩
 all_goals refine⟨?_⟩
 all_goals simp_all[ah]
 all_goals omega
def signed (n:Int):Int:=if ah n 0 1099511627775 then(if n % 2=1 then -((n+1) / 2)else n / 2)else 0
end Go.Proofs.YtjmplnfiabmalaaGreat
namespace Go.Proofs.YtjmplnfiabmalaaGreat
open Go.Sim
set_option maxRecDepth 100000
def Hr (n:Nat):List UInt8:=if n≤127 then [UInt8.ofNat n]else UInt8.ofNat (n % 128+128)::Hr (n / 128)
 termination_by n
 decreasing_by omega
def enc (n:Int):List UInt8:=if ah n 0 1099511627775 then Hr n.toNat else []
end Go.Proofs.YtjmplnfiabmalaaGreat
namespace Go.Proofs.YtjmplnfiabmalaaGreat
open Go.Sim Go.RowKit
def inI (n:Int):Prop:= -9223372036854775808≤n∧n≤9223372036854775807
def aa (n:Int):List Tr:=[.int .i64 n]
def ak (s:List UInt8):List Tr:=[.str s]
structure TOp where
 fab:Int
 faf:Int
def TOp.tr (x:TOp):List Tr:=[.int .i64 x.fab,.int .i64 x.faf]
def TOp.wf (x:TOp):Prop:=inI x.fab∧inI x.faf
structure TTok where
 faa:Int
 fas:Int
 fac:List UInt8
def TTok.tr (x:TTok):List Tr:=[.int .i64 x.faa,.int .i64 x.fas,.str x.fac]
def TTok.wf (x:TTok):Prop:=inI x.faa∧inI x.fas∧x.fac.length≤maxLen
structure TLine where
 faa:Int
 fac:List UInt8
 faj:List (List UInt8)
 fag:List TTok
def TLine.tr (x:TLine):List Tr:=[.int .i64 x.faa,.str x.fac,.lst 1 (x.faj.map ak),.lst 3 (x.fag.map TTok.tr)]
def TLine.wf (x:TLine):Prop:=inI x.faa∧x.fac.length≤maxLen∧(x.faj.length≤maxLen∧∀y∈x.faj,y.length≤maxLen)∧(x.fag.length≤maxLen∧∀y∈x.fag,y.wf)
structure TBuild where
 faz:Int
 far:Int
 faF:Bool
 faC:Bool
def TBuild.tr (x:TBuild):List Tr:=[.int .i64 x.faz,.int .i64 x.far,.bool x.faF,.bool x.faC]
def TBuild.wf (x:TBuild):Prop:=inI x.faz∧inI x.far
structure TItem where
 fad:TOp
 fat:Int
 fam:Bool
 fax:List Int
 faw:Int
 faE:Bool
def TItem.tr (x:TItem):List Tr:=[.int .i64 x.fad.fab,.int .i64 x.fad.faf,.int .i64 x.fat,.bool x.fam,.lst 1 (x.fax.map aa),.int .i64 x.faw,.bool x.faE]
def TItem.wf (x:TItem):Prop:=x.fad.wf∧inI x.fat∧(x.fax.length≤maxLen∧∀y∈x.fax,inI y)∧inI x.faw
structure TSymbol where
 fac:List UInt8
 fam:Int
 fau:Int
def TSymbol.tr (x:TSymbol):List Tr:=[.str x.fac,.int .i64 x.fam,.int .i64 x.fau]
def TSymbol.wf (x:TSymbol):Prop:=x.fac.length≤maxLen∧inI x.fam∧inI x.fau
structure TImage where
 fab:List UInt8
 fak:List TSymbol
def TImage.tr (x:TImage):List Tr:=[.str x.fab,.lst 3 (x.fak.map TSymbol.tr)]
def TImage.wf (x:TImage):Prop:=x.fab.length≤maxLen∧(x.fak.length≤maxLen∧∀y∈x.fak,y.wf)
structure TSpace where
 faA:List TImage
 faB:List Int
 faq:List Int
def TSpace.tr (x:TSpace):List Tr:=[.lst 2 (x.faA.map TImage.tr),.lst 1 (x.faB.map aa),.lst 1 (x.faq.map aa)]
def TSpace.wf (x:TSpace):Prop:=(x.faA.length≤maxLen∧∀y∈x.faA,y.wf)∧(x.faB.length≤maxLen∧∀y∈x.faB,inI y)∧(x.faq.length≤maxLen∧∀y∈x.faq,inI y)
structure TMachine where
 fap:Int
 fae:Int
 fan:Int
 fao:List Int
 fah:List Int
 fai:Int
 fay:Int
def TMachine.tr (x:TMachine):List Tr:=[.int .i64 x.fap,.int .i64 x.fae,.int .i64 x.fan,.lst 1 (x.fao.map aa),.lst 1 (x.fah.map aa),.int .i64 x.fai,.int .i64 x.fay]
def TMachine.wf (x:TMachine):Prop:=inI x.fap∧inI x.fae∧inI x.fan∧(x.fao.length≤maxLen∧∀y∈x.fao,inI y)∧(x.fah.length≤maxLen∧∀y∈x.fah,inI y)∧inI x.fai∧inI x.fay
structure TPlace where
 fav:Int
 fal:TItem
def TPlace.tr (x:TPlace):List Tr:=[.int .i64 x.fav,.int .i64 x.fal.fad.fab,.int .i64 x.fal.fad.faf,.int .i64 x.fal.fat,.bool x.fal.fam,.lst 1 (x.fal.fax.map aa),.int .i64 x.fal.faw,.bool x.fal.faE]
def TPlace.wf (x:TPlace):Prop:=inI x.fav∧x.fal.wf
structure TRule where
 fam:Int
 faD:Int
 faL:Bool
 faw:Int
def TRule.tr (x:TRule):List Tr:=[.int .i64 x.fam,.int .i64 x.faD,.bool x.faL,.int .i64 x.faw]
def TRule.wf (x:TRule):Prop:=inI x.fam∧inI x.faD∧inI x.faw
structure TView where
 fap:Int
 fae:Int
 fan:Int
 faJ:List Int
def TView.tr (x:TView):List Tr:=[.int .i64 x.fap,.int .i64 x.fae,.int .i64 x.fan,.lst 1 (x.faJ.map aa)]
def TView.wf (x:TView):Prop:=inI x.fap∧inI x.fae∧inI x.fan∧(x.faJ.length≤maxLen∧∀y∈x.faJ,inI y)
structure TRow where
 fav:Int
 fat:Int
 fam:Bool
def TRow.tr (x:TRow):List Tr:=[.int .i64 x.fav,.int .i64 x.fat,.bool x.fam]
def TRow.wf (x:TRow):Prop:=inI x.fav∧inI x.fat
structure TInline where
 fam:Int
 faD:Int
 faG:Int
 fat:Int
 fac:List UInt8
def TInline.tr (x:TInline):List Tr:=[.int .i64 x.fam,.int .i64 x.faD,.int .i64 x.faG,.int .i64 x.fat,.str x.fac]
def TInline.wf (x:TInline):Prop:=inI x.fam∧inI x.faD∧inI x.faG∧inI x.fat∧x.fac.length≤maxLen
structure TDebug where
 faM:Int
 fak:List TSymbol
 faH:List TRule
 faK:List TRow
 faI:List TInline
def TDebug.tr (x:TDebug):List Tr:=[.int .i64 x.faM,.lst 3 (x.fak.map TSymbol.tr),.lst 4 (x.faH.map TRule.tr),.lst 3 (x.faK.map TRow.tr),.lst 5 (x.faI.map TInline.tr)]
def TDebug.wf (x:TDebug):Prop:=inI x.faM∧(x.fak.length≤maxLen∧∀y∈x.fak,y.wf)∧(x.faH.length≤maxLen∧∀y∈x.faH,y.wf)∧(x.faK.length≤maxLen∧∀y∈x.faK,y.wf)∧(x.faI.length≤maxLen∧∀y∈x.faI,y.wf)
structure TFrame where
 fac:List UInt8
 fat:Int
def TFrame.tr (x:TFrame):List Tr:=[.str x.fac,.int .i64 x.fat]
def TFrame.wf (x:TFrame):Prop:=x.fac.length≤maxLen∧inI x.fat
end Go.Proofs.YtjmplnfiabmalaaGreat
namespace Go.Proofs.YtjmplnfiabmalaaGreat
open Go.Sim
set_option maxRecDepth 100000
abbrev tvL (sz:Nat)(rows:List (List Tr)):TV:= .c (.lst sz rows)
abbrev rL (sz:Nat)(rows:List (List Tr)):Res:= .r (.c (.arr sz rows))
theorem ab {α β:Type}{f:α→β}{l:List α}{k:Nat}{x:α}(h:l[k]?=some x):(l.map f)[k]?=some (f x):=by simp[h]
theorem ag {α:Type}{l:List α}{k:Nat}(h:k < l.length):∃x,l[k]?=some x:=⟨_,List.getElem?_eq_getElem h⟩
theorem Hb {ns ms:List Int}{k:Nat}{x y:Int}(h1:ns[k]?=some x)(h2:ms[k]?=some y)(hne:x≠y):(ns==ms)=false:=by
 rw[beq_eq_false_iff_ne]
 intro e
 subst e
 rw[h1]at h2
 injection h2 with h2
 exact hne h2
theorem FI {ns ms:List Int}(h:ns.length≠ms.length):(ns==ms)=false:=by
 rw[beq_eq_false_iff_ne]
 intro e;subst e;exact h rfl
theorem cP {α:Type}{l:List α}{k:Nat}{x:α}(h:l[k]?=some x):l.drop k=x::l.drop (k+1):=by
 have hk:k < l.length:=by
  rcases Nat.lt_or_ge k l.length with h'|h'
  ·exact h'
  ·rw[List.getElem?_eq_none h']at h;cases h
 rw[List.getElem?_eq_getElem hk]at h
 injection h with h
 rw[←h]
 exact List.drop_eq_getElem_cons hk
end Go.Proofs.YtjmplnfiabmalaaGreat
namespace Go.Proofs.YtjmplnfiabmalaaGreat
open Go.Sim Go.RowKit
set_option maxRecDepth 100000
theorem bd {α:Type}{g:α→List Tr}{L:Int}{l:List α}{sz:Nat}(h:aA L (.lst sz (l.map g))){x:α}(hx:x∈l):aC L (g x):=by
 rw[aA]at h
 exact qw h.2 _ (List.mem_map_of_mem hx)
theorem mj {α:Type}{g:α→List Tr}{L:Int}{l:List α}{sz:Nat}(h:aA L (.lst sz (l.map g))):(l.length:Int)≤L:=by
 rw[aA]at h
 simpa using h.1
theorem cj {α:Type}{g:α→List Tr}{l:List α}{sz:Nat}(h:aA 1048576 (.lst sz (l.map g))):l.length≤1048576:=by
 have:=mj h
 omega
end Go.Proofs.YtjmplnfiabmalaaGreat
namespace Go.Proofs.YtjmplnfiabmalaaGreat
open Go.Sim
set_option maxRecDepth 100000
def atV (bs:List UInt8)(i:Nat):Nat:=match bs[(i * 5+1) % bs.length]? with|some b=>b.toNat|none=>0
theorem GB (bs:List UInt8)(i:Nat):atV bs i≤255:=by
 unfold atV
 split
 ·rename_i b _
  have:=b.toNat_lt
  omega
 ·omega
theorem AA (bs:List UInt8):Sim.Spec Tryz.prog 11 [tvL 1 (bs.map aM)] (rB (decide (1048576 < (bs.length:Int)))):=by
 refine ao hΓ ay Tryz.func11 rfl (by decide) rfl ?_
 have hl:(bs.map aM).length=bs.length:=by simp
 repeat' ((conv=>whnf);first|refine Or.inl ?_|apply oi|(apply fi<;>intro h)|refine⟨_,rfl,?_⟩|exact rfl)
 all_goals try exact⟨KO⟩
 exact⟨by rw[hl]⟩
theorem CC (bs:List UInt8)(i:Nat)(hi:i≤1000)(hl:bs.length≤1048576):Sim.Spec Tryz.prog 23 [tvL 1 (bs.map aM),tvI (i:Int)] (rI (atV bs i)):=by
 refine ao hΓ ay Tryz.func23 rfl (by decide) rfl ?_
 have hlen:(bs.map aM).length=bs.length:=by simp
 repeat' ((conv=>whnf);first|refine Or.inl ?_|apply oi|(apply fi<;>intro h)|refine⟨_,rfl,?_⟩|exact rfl)
 all_goals try exact⟨KO⟩
 ·have h0:bs.length=0:=by rw[hlen]at h;have:=eq_of_beq h;omega
  have:bs=[]:=List.eq_nil_of_length_eq_zero h0
  subst this
  exact⟨rfl⟩
 ·have h0:bs.length≠0:=by rw[hlen]at h;intro e;rw[e]at h;simp at h
  exact⟨by rw[hlen];omega⟩
 have h0:bs.length≠0:=by rw[hlen]at h;intro e;rw[e]at h;simp at h
 have hpos:0 < bs.length:=Nat.pos_of_ne_zero h0
 obtain⟨b,hb⟩:=ag (l:=bs) (k:=(i * 5+1) % bs.length) (Nat.mod_lt _ hpos)
 have hbl:=b.toNat_lt
 conv=>whnf
 refine⟨(i * 5+1) % bs.length,aM b,?_,ab hb,?_⟩
 ·show(IntKind.i64.wrap (IntKind.i64.wrap (_ * 5)+1)).tmod _=_
  rw[IntWalk.i64_in ((i:Int) * 5) (by omega),IntWalk.i64_in _ (by omega),hlen,Int.tmod_eq_emod_of_nonneg (by omega)]
  simp
 repeat' ((conv=>whnf);first|refine Or.inl ?_|apply oi|(apply fi<;>intro h)|refine⟨_,rfl,?_⟩|exact rfl)
 all_goals try exact⟨KO⟩
 refine⟨congrArg (Tr.int _) ?_⟩
 rw[IntWalk.i64_in _ (by omega),atV,hb]
theorem gz (ns ms:List Int)(hl:ns.length≤1048576):Sim.Spec Tryz.prog 27 [tvL 1 (ns.map aa),tvL 1 (ms.map aa)] (rB (ns==ms)):=by
 refine ao hΓ ay Tryz.func27 rfl (by decide) rfl ?_
 have hlen:(ns.map aa).length=ns.length:=by simp
 have hlen2:(ms.map aa).length=ms.length:=by simp
 repeat' ((conv=>whnf);first|refine Or.inl ?_|apply oi|(apply fi<;>intro h)|refine⟨_,rfl,?_⟩|exact rfl)
 all_goals try exact⟨KO⟩
 ·rw[hlen,hlen2]at h
  rw[FI (by intro e;rw[e]at h;simp at h)]
  exact⟨rfl⟩
 have hle:ns.length=ms.length:=by
  rw[hlen,hlen2]at h
  have:((ns.length:Int)==(ms.length:Int))=true:=by simpa using h
  have:=eq_of_beq this
  omega
 repeat' ((conv=>whnf);first|refine Or.inl ?_|apply oi|(apply fi<;>intro h)|refine⟨_,rfl,?_⟩|exact rfl)
 all_goals try exact⟨KO⟩
 conv=>whnf
 refine⟨{k:Nat // k≤ns.length∧∀j,j < k→ns[j]?=ms[j]?},fun k=>⟨[(0,.r (.c (.t (.lst 1 (ns.map aa))))),(1,.r (.c (.t (.lst 1 (ms.map aa))))),(5,tI .i64 (k.1:Int))],[],[]⟩,fun k=>ns.length - k.1,⟨0,by omega,fun j hj=>by omega⟩,?_,?_⟩
 ·skip
  repeat' ((conv=>whnf);first|refine Or.inl ?_|apply oi|(apply fi<;>intro h)|refine⟨_,rfl,?_⟩|exact rfl)
  all_goals try exact⟨KO⟩
 intro⟨k,hk,hsame⟩
 dsimp only
 repeat' ((conv=>whnf);first|refine Or.inl ?_|apply oi|(apply fi<;>intro h)|refine⟨_,rfl,?_⟩|exact rfl)
 all_goals try exact⟨KO⟩
 ·have hlt:k < ns.length:=by have:=of_decide_eq_true h;omega
  obtain⟨x,hx⟩:=ag hlt
  obtain⟨y,hy⟩:=ag (show k < ms.length by omega)
  conv=>whnf
  refine⟨k,aa x,rfl,ab hx,?_⟩
  repeat' ((conv=>whnf);first|refine Or.inl ?_|apply oi|(apply fi<;>intro h)|refine⟨_,rfl,?_⟩|exact rfl)
  all_goals try exact⟨KO⟩
  conv=>whnf
  refine⟨k,aa y,rfl,ab hy,?_⟩
  repeat' ((conv=>whnf);first|refine Or.inl ?_|apply oi|(apply fi<;>intro h)|refine⟨_,rfl,?_⟩|exact rfl)
  all_goals try exact⟨KO⟩
  ·rw[Hb hx hy (by simpa using h)]
   exact⟨rfl⟩
  have hxy:x=y:=by simpa using h
  conv=>whnf
  refine⟨⟨k+1,by omega,fun j hj=>?_⟩,?_,KD⟩
  ·rcases Nat.lt_or_ge j k with h'|h'
   ·exact hsame j h'
   ·have:j=k:=by omega
    subst this
    rw[hx,hy,hxy]
  repeat' ((conv=>whnf);first|refine Or.inl ?_|apply oi|(apply fi<;>intro h)|refine⟨_,rfl,?_⟩|exact rfl)
  all_goals try exact⟨KO⟩
  exact⟨by dsimp only;rw[IntWalk.i64_in _ (by omega)];rfl⟩
 ·have hge:ns.length≤k:=by have:=of_decide_eq_false h;omega
  have:ns=ms:=List.ext_getElem? fun j=>by
   rcases Nat.lt_or_ge j k with h'|h'
   ·exact hsame j h'
   ·rw[List.getElem?_eq_none (by omega),List.getElem?_eq_none (by omega)]
  subst this
  exact⟨by simp⟩
end Go.Proofs.YtjmplnfiabmalaaGreat
namespace Go.Proofs.YtjmplnfiabmalaaGreat
open Go.Sim
set_option maxRecDepth 100000
set_option maxHeartbeats 4000000
def zf (last:Int)(r:TRule):Prop:=last≤r.fam∧r.fam < r.faD∧r.faD≤1000000∧0≤r.faw∧r.faw≤1200∧(r.faL=true→r.faw=0)
instance (last:Int) (r:TRule):Decidable (zf last r):=by unfold zf;infer_instance
def cr (m:TMachine):Bool:=(m.fao.length==1200) && ah m.fae 0 1200 && ah m.fai 0 2
theorem jV (m:TMachine):Sim.Spec Tryz.prog 92 [.agg m.tr] (rB (cr m)):=by
 refine ao hΓ ay Tryz.func92 rfl (by decide) rfl ?_
 have hlen:(m.fao.map aa).length=m.fao.length:=by simp
 unfold cr
 repeat' ((conv=>whnf);first|refine Or.inl ?_|apply oi|(apply fi<;>intro h)|refine ci (bm _ _ _) (ai rfl (ai rfl (ai rfl trivial))) ?_|refine⟨_,rfl,?_⟩|exact rfl)
 all_goals try exact⟨KO⟩
 all_goals(refine⟨congrArg Tr.bool ?_⟩;simp_all;try omega)
theorem pB (m:TMachine):Sim.Spec Tryz.prog 96 [.agg m.tr] (rB (cr m)):=by
 refine ao hΓ ay Tryz.func96 rfl (by decide) rfl ?_
 have hlen:(m.fao.map aa).length=m.fao.length:=by simp
 unfold cr
 repeat' ((conv=>whnf);first|refine Or.inl ?_|apply oi|(apply fi<;>intro h)|refine ci (aH _ _ _) (ai rfl (ai rfl (ai rfl trivial))) ?_|refine⟨_,rfl,?_⟩|exact rfl)
 all_goals try exact⟨KO⟩
 all_goals(refine⟨congrArg Tr.bool ?_⟩;simp_all;try omega)
def low (b:UInt8):Bool:=decide (97≤b.toNat) && decide (b.toNat≤122)
def cw (s:List UInt8):Bool:=s.all low && ah s.length 1 8
abbrev EV (s:List UInt8):={k:Nat // k≤s.length∧(s.take k).all low=true}
theorem yZ {α:Type}{p:α→Bool}{s:List α}{k:Nat}{b:α}(h:(s.take k).all p=true)(hb:s[k]?=some b)(hp:p b=true):(s.take (k+1)).all p=true:=by
 rw[List.take_add_one,hb]
 simp_all
theorem Be {α:Type}{p:α→Bool}{s:List α}{k:Nat}{b:α}(hb:s[k]?=some b)(hp:p b=false):s.all p=false:=by
 rw[Bool.eq_false_iff]
 intro h
 rw[List.all_eq_true]at h
 rw[h b (List.mem_of_getElem? hb)]at hp
 cases hp
theorem uZ (s:List UInt8)(hl:s.length≤1099511627775):Sim.Spec Tryz.prog 161 [tvS s] (rB (cw s)):=by
 refine ao hΓ ay Tryz.func161 rfl (by decide) rfl ?_
 unfold cw
 repeat' ((conv=>whnf);first|refine Or.inl ?_|apply oi|(apply fi<;>intro h)|refine⟨_,rfl,?_⟩|exact rfl)
 all_goals try exact⟨KO⟩
 conv=>whnf
 refine⟨EV s,fun k=>⟨[(0,tS s),(3,tI .i64 (k.1:Int))],[],[]⟩,fun k=>s.length - k.1,⟨0,by omega,rfl⟩,?_,?_⟩
 ·skip
  repeat' ((conv=>whnf);first|refine Or.inl ?_|apply oi|(apply fi<;>intro h)|refine⟨_,rfl,?_⟩|exact rfl)
  all_goals try exact⟨KO⟩
 intro⟨k,hk,hp⟩
 dsimp only
 by_cases hlt:k < s.length
 ·obtain⟨b,hb⟩:=ag hlt
  have hbl:=b.toNat_lt
  cases hlo:low b with
  | false=>
   rw[Be hb hlo]
   unfold low at hlo
   repeat' ((conv=>whnf);first|refine Or.inl ?_|apply oi|(apply fi<;>intro h)|refine⟨k,b,rfl,hb,?_⟩|refine⟨_,rfl,?_⟩|exact rfl)
   all_goals try exact⟨KO⟩
   all_goals try exact KX
   all_goals(exfalso;simp at *;omega)
  | true=>
   have hnx:=yZ hp hb hlo
   unfold low at hlo
   repeat' ((conv=>whnf);first|refine Or.inl ?_|apply oi|(apply fi<;>intro h)|refine⟨k,b,rfl,hb,?_⟩|refine⟨_,rfl,?_⟩|exact rfl)
   all_goals try exact⟨KO⟩
   all_goals try exact KX
   all_goals try exact K1
   conv=>whnf
   refine⟨⟨k+1,by omega,hnx⟩,?_,KD⟩
   repeat' ((conv=>whnf);first|refine Or.inl ?_|apply oi|(apply fi<;>intro h)|refine⟨_,rfl,?_⟩|exact rfl)
   all_goals try exact⟨KO⟩
   all_goals try exact⟨K2⟩
 ·have hge:s.length≤k:=by omega
  rw[List.take_of_length_le hge]at hp
  rw[hp]
  repeat' ((conv=>whnf);first|refine Or.inl ?_|apply oi|(apply fi<;>intro h)|refine ci (bm _ _ _) (ai rfl (ai rfl (ai rfl trivial))) ?_|refine⟨_,rfl,?_⟩|exact rfl)
  all_goals try exact⟨KO⟩
  all_goals try exact KX
theorem ew (s:List UInt8)(hl:s.length≤1099511627775):Sim.Spec Tryz.prog 173 [tvS s] (rB (cw s)):=by
 refine ao hΓ ay Tryz.func173 rfl (by decide) rfl ?_
 unfold cw
 repeat' ((conv=>whnf);first|refine Or.inl ?_|apply oi|(apply fi<;>intro h)|refine⟨_,rfl,?_⟩|exact rfl)
 all_goals try exact⟨KO⟩
 conv=>whnf
 refine⟨EV s,fun k=>⟨[(0,tS s),(3,tI .i64 (k.1:Int))],[],[]⟩,fun k=>s.length - k.1,⟨0,by omega,rfl⟩,?_,?_⟩
 ·skip
  repeat' ((conv=>whnf);first|refine Or.inl ?_|apply oi|(apply fi<;>intro h)|refine⟨_,rfl,?_⟩|exact rfl)
  all_goals try exact⟨KO⟩
 intro⟨k,hk,hp⟩
 dsimp only
 by_cases hlt:k < s.length
 ·obtain⟨b,hb⟩:=ag hlt
  have hbl:=b.toNat_lt
  cases hlo:low b with
  | false=>
   rw[Be hb hlo]
   unfold low at hlo
   repeat' ((conv=>whnf);first|refine Or.inl ?_|apply oi|(apply fi<;>intro h)|refine⟨k,b,rfl,hb,?_⟩|refine⟨_,rfl,?_⟩|exact rfl)
   all_goals try exact⟨KO⟩
   all_goals try exact KX
   all_goals(exfalso;simp at *;omega)
  | true=>
   have hnx:=yZ hp hb hlo
   unfold low at hlo
   repeat' ((conv=>whnf);first|refine Or.inl ?_|apply oi|(apply fi<;>intro h)|refine⟨k,b,rfl,hb,?_⟩|refine⟨_,rfl,?_⟩|exact rfl)
   all_goals try exact⟨KO⟩
   all_goals try exact KX
   all_goals try exact K1
   conv=>whnf
   refine⟨⟨k+1,by omega,hnx⟩,?_,KD⟩
   repeat' ((conv=>whnf);first|refine Or.inl ?_|apply oi|(apply fi<;>intro h)|refine⟨_,rfl,?_⟩|exact rfl)
   all_goals try exact⟨KO⟩
   all_goals try exact⟨K2⟩
 ·have hge:s.length≤k:=by omega
  rw[List.take_of_length_le hge]at hp
  rw[hp]
  repeat' ((conv=>whnf);first|refine Or.inl ?_|apply oi|(apply fi<;>intro h)|refine ci (aH _ _ _) (ai rfl (ai rfl (ai rfl trivial))) ?_|refine⟨_,rfl,?_⟩|exact rfl)
  all_goals try exact⟨KO⟩
  all_goals try exact KX
def behind (p:Option TInline)(x:TInline):Prop:=match p with
 | none=>True
 | some p=>p.faG≤x.faG∧(p.faG=x.faG→p.faD≤x.fam)
instance (p:Option TInline) (x:TInline):Decidable (behind p x):=by unfold behind;cases p <;> infer_instance
def fG (t:TTok):Bool:=
 if t.faa=0 then ah t.fas 0 999 && t.fac==[]
 else if t.faa=7 then ah t.fas 0 4 && cw t.fac
 else if t.faa=1 then t.fas==0 && cw t.fac
 else ah t.faa 2 6 && (t.fas==0 && t.fac==[])
theorem nS (t:TTok)(hl:t.fac.length≤1099511627775):Sim.Spec Tryz.prog 252 [.agg t.tr] (rB (fG t)):=by
 refine ao hΓ ay Tryz.func252 rfl (by decide) rfl ?_
 have hN:=ew t.fac hl
 unfold fG
 generalize cw t.fac=nb at *
 repeat' ((conv=>whnf);first|refine Or.inl ?_|apply oi|(apply fi<;>intro h)|refine ci (aH _ _ _) (ai rfl (ai rfl (ai rfl trivial))) ?_|refine ci hN (ai rfl trivial) ?_|refine⟨_,rfl,?_⟩|exact rfl)
 all_goals try exact⟨KO⟩
 all_goals(refine⟨congrArg Tr.bool ?_⟩;simp_all[ah];(try(intros;omega));(try((repeat' split) <;> intros <;> omega)))
def qU (t:TTok):Int:=if fG t=false then -1 else if t.faa=7 then t.fas else if t.faa=0∨t.faa=1 then 0 else 2
theorem ke (t:TTok)(hl:t.fac.length≤1099511627775):Sim.Spec Tryz.prog 253 [.agg t.tr] (rI (qU t)):=by
 refine ao hΓ ay Tryz.func253 rfl (by decide) rfl ?_
 have hT:=nS t hl
 unfold qU
 generalize fG t=nb at *
 repeat' ((conv=>whnf);first|refine Or.inl ?_|apply oi|(apply fi<;>intro h)|refine ci hT (ai (ai rfl (ai rfl (ai rfl trivial))) trivial) ?_|refine⟨_,rfl,?_⟩|exact rfl)
 all_goals try exact⟨KO⟩
 all_goals(refine⟨congrArg (Tr.int _) ?_⟩;simp_all)
def ar (t:TTok):Nat:=(qU t).toNat
theorem zy {t:TTok}(h:fG t=true):qU t=(ar t:Int)∧ar t≤4:=by
 unfold ar qU
 rw[if_neg (by simp[h])]
 unfold fG at h
 split
 ·rename_i h7
  rw[if_neg (by omega),if_pos h7]at h
  simp only[Bool.and_eq_true,within_iff]at h
  omega
 ·split <;> omega
def endL:List TTok→Nat→Nat→Option Nat
 | _,p,0=>some p
 | [],_,_+1=>none
 | t::l,p,n+1=>if fG t=true then endL l (p+1) (n+ar t)else none
def cZ (o:Option Nat):Int:=match o with|some e=>e|none=> -1
def fC (l:List TTok)(p:Int):Int:=if 0≤p then cZ (endL (l.drop p.toNat) p.toNat 1)else -1
theorem Fz {l:List TTok}{p n:Nat}{t:TTok}(h:l[p]?=some t):endL (l.drop p) p (n+1)=if fG t=true then endL (l.drop (p+1)) (p+1) (n+ar t)else none:=by
 rw[cP h,endL]
abbrev Hu (l:List TTok)(R:Int):={q:Nat×Nat // q.1≤l.length∧q.2≤1+4 * q.1∧cZ (endL (l.drop q.1) q.1 q.2)=R}
def ia (l:List TTok):Prop:=∀t∈l,t.fac.length≤1099511627775
theorem iM (l:List TTok)(p:Int)(hl:l.length≤1048576)(hn:ia l):Sim.Spec Tryz.prog 231 [tvL 3 (l.map TTok.tr),tvI p] (rI (fC l p)):=by
 refine ao hΓ ay Tryz.func231 rfl (by decide) rfl ?_
 have hlen:(l.map TTok.tr).length=l.length:=by simp
 by_cases h0:0≤p
 ·obtain⟨p,rfl⟩:=Int.eq_ofNat_of_zero_le h0
  obtain⟨R,hR⟩:∃R,fC l (p:Int)=R:=⟨_,rfl⟩
  rw[hR]
  rw[fC,if_pos h0,Int.toNat_natCast]at hR
  by_cases hlp:p≤l.length
  ·skip
   repeat' ((conv=>whnf);first|refine Or.inl ?_|apply oi|(apply fi<;>intro h)|refine⟨_,rfl,?_⟩|exact rfl)
   all_goals try exact⟨KO⟩
   all_goals try exact KX
   conv=>whnf
   refine⟨Hu l R,fun q=>⟨[(0,.r (.c (.t (.lst 3 (l.map TTok.tr))))),(1,tI .i64 (q.1.1:Int)),(5,tI .i64 (q.1.2:Int))],[],[]⟩,fun q=>l.length - q.1.1,⟨(p,1),by omega,by omega,hR⟩,?_,?_⟩
   ·skip
    repeat' ((conv=>whnf);first|refine Or.inl ?_|apply oi|(apply fi<;>intro h)|refine⟨_,rfl,?_⟩|exact rfl)
    all_goals try exact⟨KO⟩
   intro⟨⟨a,n⟩,ha,hn4,hr⟩
   dsimp only at ha hn4 hr ⊢
   cases n with
   | zero=>
    have:R=(a:Int):=by
     rw[←hr]
     cases l.drop a <;> rfl
    subst this
    repeat' ((conv=>whnf);first|refine Or.inl ?_|apply oi|(apply fi<;>intro h)|refine⟨_,rfl,?_⟩|exact rfl)
    all_goals try exact⟨KO⟩
    all_goals try exact KX
   | succ n=>
    by_cases hlt:a < l.length
    ·obtain⟨t,ht⟩:=ag hlt
     rw[Fz ht]at hr
     have hT:=nS t (hn t (List.mem_of_getElem? ht))
     have hA:=ke t (hn t (List.mem_of_getElem? ht))
     cases hok:fG t with
     | false=>
      rw[hok]at hT
      rw[if_neg (by simp[hok])]at hr
      subst hr
      repeat' ((conv=>whnf);first|refine Or.inl ?_|apply oi|(apply fi<;>intro h)|refine⟨a,t.tr,rfl,ab ht,?_⟩|refine ci hT (ai (ai rfl (ai rfl (ai rfl trivial))) trivial) ?_|refine⟨_,rfl,?_⟩|exact rfl)
      all_goals try exact⟨KO⟩
      all_goals try exact KX
     | true=>
      obtain⟨e1,e2⟩:=zy hok
      rw[e1]at hA
      rw[hok]at hT
      rw[if_pos hok]at hr
      repeat' ((conv=>whnf);first|refine Or.inl ?_|apply oi|(apply fi<;>intro h)|refine⟨a,t.tr,rfl,ab ht,?_⟩|refine ci hT (ai (ai rfl (ai rfl (ai rfl trivial))) trivial) ?_|refine ci hA (ai (ai rfl (ai rfl (ai rfl trivial))) trivial) ?_|refine⟨_,rfl,?_⟩|exact rfl)
      all_goals try exact⟨KO⟩
      all_goals try exact KX
      conv=>whnf
      refine⟨⟨(a+1,n+ar t),by dsimp only;omega,by dsimp only;omega,hr⟩,?_,KD⟩
      repeat' ((conv=>whnf);first|refine Or.inl ?_|apply oi|(apply fi<;>intro h)|refine⟨_,rfl,?_⟩|exact rfl)
      all_goals try exact⟨KO⟩
      all_goals try exact⟨K2⟩
      all_goals try exact⟨by dsimp only;congr 1;rw[IntWalk.i64_in _ (by omega)];omega⟩
      all_goals exact⟨congrArg (Tr.int _) (by dsimp only;simp(disch:=omega)only[IntWalk.i64_in];omega)⟩
    ·rw[List.drop_eq_nil_of_le (by omega),endL]at hr
     subst hr
     repeat' ((conv=>whnf);first|refine Or.inl ?_|apply oi|(apply fi<;>intro h)|refine⟨_,rfl,?_⟩|exact rfl)
     all_goals try exact⟨KO⟩
     all_goals try exact KX
  ·rw[List.drop_eq_nil_of_le (by omega),endL]at hR
   subst hR
   repeat' ((conv=>whnf);first|refine Or.inl ?_|apply oi|(apply fi<;>intro h)|refine⟨_,rfl,?_⟩|exact rfl)
   all_goals try exact⟨KO⟩
   all_goals try exact KX
   conv=>whnf
   refine⟨Unit,fun q=>⟨[(0,.r (.c (.t (.lst 3 (l.map TTok.tr))))),(1,tI .i64 (p:Int)),(5,tI .i64 1)],[],[]⟩,fun q=>0,(),?_,?_⟩
   ·skip
    repeat' ((conv=>whnf);first|refine Or.inl ?_|apply oi|(apply fi<;>intro h)|refine⟨_,rfl,?_⟩|exact rfl)
    all_goals try exact⟨KO⟩
   intro q
   repeat' ((conv=>whnf);first|refine Or.inl ?_|apply oi|(apply fi<;>intro h)|refine⟨_,rfl,?_⟩|exact rfl)
   all_goals try exact⟨KO⟩
   all_goals try exact KX
 ·have he:fC l p= -1:=by rw[fC,if_neg h0]
  rw[he]
  repeat' ((conv=>whnf);first|refine Or.inl ?_|apply oi|(apply fi<;>intro h)|refine⟨_,rfl,?_⟩|exact rfl)
  all_goals try exact⟨KO⟩
  all_goals try exact KX
def bq (l:List TTok):Bool:=decide (l.length≤20) && (decide (0 < l.length) && fC l 0==(l.length:Int))
theorem mQ (l:List TTok)(hl:l.length≤1048576)(hn:ia l):Sim.Spec Tryz.prog 175 [tvL 3 (l.map TTok.tr)] (rB (bq l)):=by
 refine ao hΓ ay Tryz.func175 rfl (by decide) rfl ?_
 have hlen:(l.map TTok.tr).length=l.length:=by simp
 have hE:=iM l 0 hl hn
 unfold bq
 generalize fC l 0=e at *
 repeat' ((conv=>whnf);first|refine Or.inl ?_|apply oi|(apply fi<;>intro h)|refine ci hE (ai rfl (ai rfl trivial)) ?_|refine⟨_,rfl,?_⟩|exact rfl)
 all_goals try exact⟨KO⟩
 all_goals(refine⟨congrArg Tr.bool ?_⟩;simp_all;try omega)
def ox {α:Type}[BEq α]:List α→Nat→α→Option Nat
 | [],_,_=>none
 | x::l,i,s=>if(x==s)=true then some i else ox l (i+1) s
theorem Fv {α:Type}[BEq α]{l:List α}{i:Nat}{x s:α}(hx:l[i]?=some x):ox (l.drop i) i s=if(x==s)=true then some i else ox (l.drop (i+1)) (i+1) s:=by
 rw[cP hx,ox]
theorem vW {α:Type}[BEq α]:∀{l:List α} {i k:Nat} {s:α},ox l i s=some k→i≤k∧k < i+l.length
 | [],_,_,_,h=>by rw[ox]at h;cases h
 | x::l,i,k,s,h=>by
  rw[ox]at h
  simp only[List.length_cons]
  split at h
  ·injection h with h;omega
  ·have:=vW h;omega
theorem yx {α:Type}[BEq α][LawfulBEq α]:∀{l:List α} {i:Nat} {s:α},(ox l i s).isSome=l.contains s
 | [],_,_=>rfl
 | x::l,i,s=>by
  rw[ox,List.contains_cons]
  cases h:(x==s)with
  | true=>rw[if_pos rfl];simp[eq_of_beq h]
  | false=>
   have h2:(s==x)=false:=by rw[beq_eq_false_iff_ne]at h ⊢;exact fun e=>h e.symm
   rw[if_neg (by simp),h2,Bool.false_or]
   exact yx
def fF {α:Type}[BEq α](l:List α)(s:α):Int:=cZ (ox l 0 s)
theorem wv {α:Type}[BEq α][LawfulBEq α]{l:List α}{s:α}:decide (0≤fF l s)=l.contains s:=by
 rw[←yx (i:=0),fF]
 cases ox l 0 s with
 | none=>rfl
 | some k=>simp[cZ]
def wy (l:List (List UInt8)):Nat→Nat→Bool
 | 0,_=>true
 | n+1,k=>match l[k]? with
  | some s=>if cw s=true∧(l.take k).contains s=false then wy l n (k+1)else false
  | none=>true
theorem Dc {l:List (List UInt8)}{k:Nat}{s:List UInt8}(hx:l[k]?=some s):wy l (l.length - k) k=if cw s=true∧(l.take k).contains s=false then wy l (l.length - (k+1)) (k+1)else false:=by
 have hk:k < l.length:=by
  rcases Nat.lt_or_ge k l.length with h|h
  ·exact h
  ·rw[List.getElem?_eq_none h]at hx;cases hx
 rw[show l.length - k=(l.length - (k+1))+1 by omega,wy,hx]
def sd (l:List (List UInt8)):Bool:=wy l l.length 0 && decide (l.length≤4)
def gT (k:Int):Bool:=k==1 || (k==2 || (k==3 || (k==5 || k==6)))
theorem pk (k:Int)(hk:ah k 0 7=true):Sim.Spec Tryz.prog 174 [tvI k] (rB (gT k)):=by
 refine ao hΓ ay Tryz.func174 rfl (by decide) rfl ?_
 have:=within_iff.1 hk
 unfold gT
 repeat' ((conv=>whnf);first|refine Or.inl ?_|apply oi|(apply fi<;>intro h)|refine⟨_,rfl,?_⟩|exact rfl)
 all_goals try exact⟨KO⟩
 all_goals(refine⟨congrArg Tr.bool ?_⟩;simp_all;(try(rw[Bool.eq_iff_iff];simp;done));(try(rw[Bool.eq_iff_iff];simp;omega)))
def dx (x:TLine):Bool:=ah x.faa 0 7 && ((if x.faa=0∨x.faa=1 then cw x.fac else x.fac==[]) && ((if x.faa=0 then sd x.faj else x.faj.length==0) && (if gT x.faa=true then bq x.fag else x.fag.length==0)))
theorem eP {x:TLine}(hs:aC 1048576 x.tr):x.fac.length≤1048576∧x.faj.length≤1048576∧(∀y∈x.faj,y.length≤1048576)∧x.fag.length≤1048576∧(∀y∈x.fag,y.fac.length≤1048576):=by
 simp only[TLine.tr,aC]at hs
 obtain⟨_,h1,h2,h3,_⟩:=hs
 have e1:=mj h2
 have e2:=mj h3
 refine⟨by rw[aA]at h1;omega,by omega,fun y hy=>?_,by omega,fun y hy=>?_⟩
 ·have:=bd h2 hy
  simp only[ak,aC,aA]at this
  omega
 ·have:=bd h3 hy
  simp only[TTok.tr,aC,aA]at this
  omega
theorem yW {x:TLine}(h:ah x.faa 0 7=false):dx x=false:=by
 unfold dx;rw[h];rfl
theorem qG {x:TLine}(h:4 < x.faj.length):dx x=false:=by
 have h1:sd x.faj=false:=by unfold sd;rw[decide_eq_false (by omega),Bool.and_false]
 have h2:(x.faj.length==0)=false:=by rw[beq_eq_false_iff_ne];omega
 unfold dx
 rw[h1,h2]
 split <;> simp
theorem EL {l:List (List UInt8)}{k i:Nat}{y s:List UInt8}(hi:i < k)(hy:l[i]?=some y):((l.take k).drop i).contains s=(s==y || ((l.take k).drop (i+1)).contains s):=by
 rw[cP (x:=y) (by rw[List.getElem?_take,if_pos hi];exact hy),List.contains_cons]
theorem Ec {x:TLine}(hk:ah x.faa 0 7=true)(h0:x.faa=0)(ha:x.faj.length≤4):dx x=(wy x.faj x.faj.length 0 && (cw x.fac && x.fag.length==0)):=by
 unfold dx sd
 rw[hk,if_pos (.inl h0),if_pos h0,if_neg (by rw[h0];decide),decide_eq_true ha]
 cases cw x.fac <;> cases wy x.faj x.faj.length 0 <;> simp
theorem Dm {x:TLine}(hk:ah x.faa 0 7=true)(h0:x.faa≠0):dx x=(x.faj.length==0 && ((if x.faa=1 then cw x.fac else x.fac==[]) && (if gT x.faa=true then bq x.fag else x.fag.length==0))):=by
 have e:(if x.faa=0∨x.faa=1 then cw x.fac else x.fac==[])=(if x.faa=1 then cw x.fac else x.fac==[]):=by
  by_cases h1:x.faa=1
  ·rw[if_pos (.inr h1),if_pos h1]
  ·rw[if_neg (by omega),if_neg h1]
 unfold dx
 rw[hk,if_neg h0,e,Bool.true_and]
 generalize(if x.faa=1 then cw x.fac else x.fac==[])=a
 generalize(if gT x.faa=true then bq x.fag else x.fag.length==0)=b
 cases a <;> cases(x.faj.length==0) <;> simp
theorem Bs (n:Nat):((n:Int)==0)=(n==0):=by rw[Bool.eq_iff_iff];simp
abbrev GO (x:TLine):AO:= .box (x.tr.map .t)
theorem mF (x:TLine)(hs:aC 1048576 x.tr):Sim.Spec Tryz.prog 118 [.agg x.tr] (rB (dx x)):=by
 refine ao hΓ ay Tryz.func118 rfl (by decide) rfl ?_
 obtain⟨h1,h2,h3,h4,h5⟩:=eP hs
 have hB:=aH x.faa 0 7
 have hN:=ew x.fac (by omega)
 have hE:=mQ x.fag h4 (fun y hy=>by have:=h5 y hy;omega)
 have hl1:(x.faj.map ak).length=x.faj.length:=by simp
 have hl2:(x.fag.map TTok.tr).length=x.fag.length:=by simp
 cases hk:ah x.faa 0 7 with
 | false=>
  rw[hk]at hB
  rw[yW hk]
  repeat' ((conv=>whnf);first|refine Or.inl ?_|apply oi|(apply fi<;>intro h)|refine ci hB (ai rfl (ai rfl (ai rfl trivial))) ?_|refine⟨_,rfl,?_⟩|exact rfl)
  all_goals try exact⟨KO⟩
  all_goals try exact KX
 | true=>
  rw[hk]at hB
  have hH:=pk x.faa hk
  by_cases ha:x.faj.length≤4
  ·by_cases h0:x.faa=0
   ·rw[Ec hk h0 ha]
    generalize cw x.fac=b2 at *
    generalize bq x.fag=b5 at *
    obtain⟨A,hA⟩:∃A,wy x.faj x.faj.length 0=A:=⟨_,rfl⟩
    rw[hA]
    have hh0:gT x.faa=false:=by rw[h0];rfl
    rw[hh0]at hH
    repeat' ((conv=>whnf);first|refine Or.inl ?_|apply oi|(apply fi<;>intro h)|refine ci hB (ai rfl (ai rfl (ai rfl trivial))) ?_|refine⟨_,rfl,?_⟩|exact rfl)
    all_goals try exact⟨KO⟩
    all_goals try exact KX
    conv=>whnf
    refine⟨{k:Nat // k≤x.faj.length∧wy x.faj (x.faj.length - k) k=A},fun q=>⟨[(1,.r (.c (.ptr (1,0,0) 0))),(3,tI .i64 (q.1:Int))],[((1,0,0),some (GO x))],[1]⟩,fun q=>x.faj.length - q.1,⟨0,by omega,by rw[Nat.sub_zero];exact hA⟩,?_,?_⟩
    ·skip
     repeat' ((conv=>whnf);first|refine Or.inl ?_|apply oi|(apply fi<;>intro h)|refine⟨_,rfl,?_⟩|exact rfl)
     all_goals try exact⟨KO⟩
    intro⟨k,hkl,hr⟩
    dsimp only at hkl hr ⊢
    by_cases hlt:k < x.faj.length
    ·obtain⟨s,hsk⟩:=ag hlt
     rw[Dc hsk]at hr
     have hN2:=ew s (by have:=h3 s (List.mem_of_getElem? hsk);omega)
     cases hno:cw s with
     | false=>
      rw[hno]at hN2 hr
      rw[if_neg (by simp)]at hr
      subst hr
      repeat' ((conv=>whnf);first|refine Or.inl ?_|apply oi|(apply fi<;>intro h)|refine ci hN2 (ai rfl trivial) ?_|refine⟨k,(ak s),rfl,ab hsk,?_⟩|refine⟨_,rfl,?_⟩|exact rfl)
      all_goals try exact⟨KO⟩
      all_goals try exact KX
     | true=>
      rw[hno]at hN2 hr
      obtain⟨C,hC⟩:∃C,(x.faj.take k).contains s=C:=⟨_,rfl⟩
      rw[hC]at hr
      repeat' ((conv=>whnf);first|refine Or.inl ?_|apply oi|(apply fi<;>intro h)|refine ci hN2 (ai rfl trivial) ?_|refine⟨k,(ak s),rfl,ab hsk,?_⟩|refine⟨_,rfl,?_⟩|exact rfl)
      all_goals try exact⟨KO⟩
      all_goals try exact KX
      all_goals try(exfalso;(try simp_all[ah]);(try omega);done)
      conv=>whnf
      refine⟨{i:Nat // i≤k∧((x.faj.take k).drop i).contains s=C},fun q=>⟨[(1,.r (.c (.ptr (1,0,0) 0))),(3,tI .i64 (k:Int)),(4,tI .i64 (q.1:Int))],[((1,0,0),some (GO x))],[1]⟩,fun q=>k - q.1,⟨0,by omega,hC⟩,?_,?_⟩
      ·skip
       repeat' ((conv=>whnf);first|refine Or.inl ?_|apply oi|(apply fi<;>intro h)|refine⟨_,rfl,?_⟩|exact rfl)
       all_goals try exact⟨KO⟩
      intro⟨i,hik,hc⟩
      dsimp only at hik hc ⊢
      by_cases hil:i < k
      ·obtain⟨y,hy⟩:=ag (l:=x.faj) (k:=i) (by omega)
       rw[EL hil hy]at hc
       by_cases hys:s=y
       ·subst hys
        rw[beq_self_eq_true,Bool.true_or]at hc
        subst hc
        rw[if_neg (by simp)]at hr
        subst hr
        repeat' ((conv=>whnf);first|refine Or.inl ?_|apply oi|(apply fi<;>intro h)|refine⟨i,(ak s),rfl,ab hy,?_⟩|refine⟨k,(ak s),rfl,ab hsk,?_⟩|refine⟨_,rfl,?_⟩|exact rfl)
        all_goals try exact⟨KO⟩
        all_goals try exact KX
        all_goals try(exfalso;(try simp_all[ah]);(try omega);done)
       ·rw[beq_eq_false_iff_ne.2 hys,Bool.false_or]at hc
        repeat' ((conv=>whnf);first|refine Or.inl ?_|apply oi|(apply fi<;>intro h)|refine⟨i,(ak y),rfl,ab hy,?_⟩|refine⟨k,(ak s),rfl,ab hsk,?_⟩|refine⟨_,rfl,?_⟩|exact rfl)
        all_goals try exact⟨KO⟩
        all_goals try exact KX
        all_goals try(exfalso;apply hys;simp_all;done)
        conv=>whnf
        refine⟨⟨i+1,by omega,hc⟩,?_,KD⟩
        repeat' ((conv=>whnf);first|refine Or.inl ?_|apply oi|(apply fi<;>intro h)|refine⟨_,rfl,?_⟩|exact rfl)
        all_goals try exact⟨KO⟩
        all_goals try exact⟨K2⟩
      ·rw[List.drop_eq_nil_of_le (by simp;omega)]at hc
       have hc:false=C:=hc
       subst hc
       rw[if_pos ⟨rfl,rfl⟩]at hr
       repeat' ((conv=>whnf);first|refine Or.inl ?_|apply oi|(apply fi<;>intro h)|refine⟨_,rfl,?_⟩|exact rfl)
       all_goals try exact⟨KO⟩
       all_goals try exact KX
       conv=>whnf
       refine⟨⟨k+1,by omega,hr⟩,?_,KD⟩
       repeat' ((conv=>whnf);first|refine Or.inl ?_|apply oi|(apply fi<;>intro h)|refine⟨_,rfl,?_⟩|exact rfl)
       all_goals try exact⟨KO⟩
       all_goals try exact⟨K2⟩
    ·rw[show x.faj.length - k=0 by omega]at hr
     have hr:true=A:=hr
     subst hr
     repeat' ((conv=>whnf);first|refine Or.inl ?_|apply oi|(apply fi<;>intro h)|refine ci hN (ai rfl trivial) ?_|refine ci hH (ai rfl trivial) ?_|refine ci hE (ai rfl trivial) ?_|refine⟨_,rfl,?_⟩|exact rfl)
     all_goals try exact⟨KO⟩
     all_goals try exact KX
     all_goals try(exfalso;(try simp_all[ah]);(try omega);done)
     all_goals(refine⟨congrArg Tr.bool ?_⟩;simp_all;(try exact Bs _))
   ·rw[Dm hk h0]
    generalize cw x.fac=b2 at *
    generalize bq x.fag=b5 at *
    generalize gT x.faa=b4 at *
    repeat' ((conv=>whnf);first|refine Or.inl ?_|apply oi|(apply fi<;>intro h)|refine ci hB (ai rfl (ai rfl (ai rfl trivial))) ?_|refine⟨_,rfl,?_⟩|exact rfl)
    all_goals try exact⟨KO⟩
    all_goals try exact KX
    conv=>whnf
    refine⟨Unit,fun q=>⟨[(1,.r (.c (.ptr (1,0,0) 0))),(3,tI .i64 0)],[((1,0,0),some (GO x))],[1]⟩,fun q=>0,(),?_,?_⟩
    ·skip
     repeat' ((conv=>whnf);first|refine Or.inl ?_|apply oi|(apply fi<;>intro h)|refine⟨_,rfl,?_⟩|exact rfl)
     all_goals try exact⟨KO⟩
    intro q
    dsimp only
    by_cases hlt:0 < x.faj.length
    ·obtain⟨s,hsk⟩:=ag hlt
     have hN2:=ew s (by have:=h3 s (List.mem_of_getElem? hsk);omega)
     rw[show(x.faj.length==0)=false by rw[beq_eq_false_iff_ne];omega]
     repeat' ((conv=>whnf);first|refine Or.inl ?_|apply oi|(apply fi<;>intro h)|refine ci hN2 (ai rfl trivial) ?_|refine⟨0,(ak s),rfl,ab hsk,?_⟩|refine⟨_,rfl,?_⟩|exact rfl)
     all_goals try exact⟨KO⟩
     all_goals try exact KX
     all_goals try(exfalso;(try simp_all[ah]);(try omega);done)
     all_goals try(exfalso;simp_all;done)
    ·have hz:x.faj.length=0:=by omega
     rw[show(x.faj.length==0)=true by rw[hz];rfl]
     rw[hz]at hl1
     repeat' ((conv=>whnf);first|refine Or.inl ?_|apply oi|(apply fi<;>intro h)|refine ci hN (ai rfl trivial) ?_|refine ci hH (ai rfl trivial) ?_|refine ci hE (ai rfl trivial) ?_|refine⟨_,rfl,?_⟩|exact rfl)
     all_goals try exact⟨KO⟩
     all_goals try(exfalso;simp_all;done)
     all_goals(refine⟨congrArg Tr.bool ?_⟩;simp_all;(try exact Bs _);(try(rw[Bool.eq_iff_iff];simp;omega)))
  ·rw[qG (by omega)]
   repeat' ((conv=>whnf);first|refine Or.inl ?_|apply oi|(apply fi<;>intro h)|refine ci hB (ai rfl (ai rfl (ai rfl trivial))) ?_|refine⟨_,rfl,?_⟩|exact rfl)
   all_goals try exact⟨KO⟩
   all_goals try exact KX
def cQ (k:Int):Bool:=k==0 || (k==3 || k==5)
theorem opensK_iff {k:Int}:cQ k=true↔k=0∨k=3∨k=5:=by simp[cQ]
def endN:List TLine→Nat→Nat→Option Nat
 | [],_,_=>none
 | x::l,i,o=>if cQ x.faa=true then endN l (i+1) (o+1)else if x.faa=7 then(if o=1 then some i else endN l (i+1) (o - 1))else endN l (i+1) o
def endAt (l:List TLine)(k:Nat):Option Nat:=match l[k]? with
 | some x=>if cQ x.faa=true then endN (l.drop (k+1)) (k+1) 1 else none
 | none=>none
def bR (l:List TLine)(k:Int):Int:=if 0≤k then cZ (endAt l k.toNat)else -1
theorem cN {l:List TLine}{i o:Nat}{x:TLine}(h:l[i]?=some x):endN (l.drop i) i o=if cQ x.faa=true then endN (l.drop (i+1)) (i+1) (o+1)else if x.faa=7 then(if o=1 then some i else endN (l.drop (i+1)) (i+1) (o - 1))else endN (l.drop (i+1)) (i+1) o:=by
 rw[cP h,endN]
theorem kA {l:List TLine}{i o:Nat}(h:l.length≤i):endN (l.drop i) i o=none:=by
 rw[List.drop_eq_nil_of_le h,endN]
theorem rV:∀{l:List TLine} {i o e:Nat},endN l i o=some e→i≤e∧e < i+l.length
 | [],_,_,_,h=>by rw[endN]at h;cases h
 | x::l,i,o,e,h=>by
  rw[endN]at h
  simp only[List.length_cons]
  split at h
  ·have:=rV h;omega
  ·split at h
   ·split at h
    ·injection h with h;omega
    ·have:=rV h;omega
   ·have:=rV h;omega
theorem gY {l:List TLine}{i o e:Nat}(h:endN (l.drop i) i o=some e):i≤e∧e < l.length:=by
 have:=rV h
 rw[List.length_drop]at this
 omega
theorem la:∀{l:List TLine} {i:Nat} (n:Nat) {a b:Nat},l.length - i≤n→1≤a→1≤b→endN (l.drop i) i (a+b)=(endN (l.drop i) i b).bind fun m=>endN (l.drop (m+1)) (m+1) a
 | l,i,0,a,b,hn,_,_=>by rw[kA (by omega),kA (by omega)];rfl
 | l,i,n+1,a,b,hn,ha,hb=>by
  by_cases hi:i < l.length
  ·obtain⟨x,hx⟩:=ag hi
   rw[cN hx,cN hx]
   split
   ·rw[show a+b+1=a+(b+1) by omega]
    exact la n (by omega) ha (by omega)
   ·split
    ·rw[if_neg (by omega)]
     by_cases h1:b=1
     ·subst h1
      rw[if_pos rfl]
      rfl
     ·rw[if_neg h1,show a+b - 1=a+(b - 1) by omega]
      exact la n (by omega) ha (by omega)
    ·exact la n (by omega) ha hb
  ·rw[kA (by omega),kA (by omega)];rfl
theorem lX:∀{l:List TLine} {i:Nat} (n:Nat) {o e:Nat},l.length - i≤n→endN (l.drop i) i o=some e→∃x,l[e]?=some x∧x.faa=7
 | l,i,0,o,e,hn,h=>by rw[kA (by omega)]at h;cases h
 | l,i,n+1,o,e,hn,h=>by
  by_cases hi:i < l.length
  ·obtain⟨x,hx⟩:=ag hi
   rw[cN hx]at h
   split at h
   ·exact lX n (by omega) h
   ·split at h
    ·split at h
     ·injection h with h
      subst h
      exact⟨x,hx,by assumption⟩
     ·exact lX n (by omega) h
    ·exact lX n (by omega) h
  ·rw[kA (by omega)]at h;cases h
theorem aP {l:List TLine}{k e:Nat}(h:endAt l k=some e):∃x,l[k]?=some x∧cQ x.faa=true∧endN (l.drop (k+1)) (k+1) 1=some e∧k < e∧e < l.length:=by
 unfold endAt at h
 split at h
 ·rename_i x hx
  split at h
  ·rename_i ho
   have:=gY h
   exact⟨x,hx,ho,h,by omega,by omega⟩
  ·cases h
 ·cases h
theorem oH {l:List TLine}{k:Nat}{x:TLine}(hx:l[k]?=some x)(ho:cQ x.faa=true):endAt l k=endN (l.drop (k+1)) (k+1) 1:=by
 unfold endAt
 rw[hx]
 dsimp only
 rw[if_pos ho]
theorem bP {l:List TLine}{k e:Nat}(h:endAt l k=some e):∃x,l[e]?=some x∧x.faa=7:=by
 obtain⟨_,_,_,h,_⟩:=aP h
 exact lX _ (Nat.le_refl _) h
theorem nT:∀{l:List TLine} (n:Nat) {s o e i:Nat},i - s≤n→1≤o→endN (l.drop s) s o=some e→s≤i→i≤e→∃o',1≤o'∧endN (l.drop i) i o'=some e
 | l,0,s,o,e,i,hn,ho,h,h1,h2=>by
  have:s=i:=by omega
  subst this
  exact⟨o,ho,h⟩
 | l,n+1,s,o,e,i,hn,ho,h,h1,h2=>by
  by_cases hs:s=i
  ·subst hs;exact⟨o,ho,h⟩
  have hl:=gY h
  obtain⟨x,hx⟩:=ag (l:=l) (k:=s) (by omega)
  rw[cN hx]at h
  split at h
  ·exact nT n (by omega) (by omega) h (by omega) h2
  ·split at h
   ·split at h
    ·injection h with h;omega
    ·exact nT n (by omega) (by omega) h (by omega) h2
   ·exact nT n (by omega) ho h (by omega) h2
theorem oX {l:List TLine}{k e i:Nat}{x:TLine}(h:endAt l k=some e)(h1:k < i)(h2:i < e)(hx:l[i]?=some x)(ho:cQ x.faa=true):∃m,endAt l i=some m∧i < m∧m < e:=by
 obtain⟨_,_,_,he,_,hlt⟩:=aP h
 obtain⟨o,ho1,hlev⟩:=nT _ (Nat.le_refl _) (Nat.le_refl 1) he (by omega:k+1≤i) (by omega)
 rw[cN hx,if_pos ho,la _ (Nat.le_refl _) ho1 (Nat.le_refl 1)]at hlev
 cases hm:endN (l.drop (i+1)) (i+1) 1 with
 | none=>rw[hm]at hlev;cases hlev
 | some m=>
  rw[hm]at hlev
  have h3:=gY hm
  have h4:=gY (show endN (l.drop (m+1)) (m+1) o=some e from hlev)
  exact⟨m,by rw[oH hx ho];exact hm,by omega,by omega⟩
theorem cn {l:List TLine}{k:Nat}:bR l (k:Int)=cZ (endAt l k):=by
 rw[bR,if_pos (by omega),Int.toNat_natCast]
theorem ca {o:Option Nat}{n:Nat}(h:o=some n):cZ o=(n:Int):=by rw[h];rfl
theorem px {o:Option Nat}(h:o=none):cZ o= -1:=by rw[h];rfl
def elseN (l:List TLine)(e:Nat):Nat→Nat→Option Nat
 | 0,_=>none
 | n+1,i=>if i < e then(match l[i]? with
  | some x=>if x.faa=4 then some i else if x.faa=3∨x.faa=5 then(match endAt l i with
   | some m=>elseN l e n (m+1)
   | none=>elseN l e n (i+1))else elseN l e n (i+1)
  | none=>none)else none
def elseAt (l:List TLine)(k:Nat):Option Nat:=match l[k]?,endAt l k with
 | some x,some e=>if x.faa=3 then elseN l e (e - (k+1)) (k+1)else none
 | _,_=>none
def bY (l:List TLine)(k:Int):Int:=if 0≤k then cZ (elseAt l k.toNat)else -1
theorem fW {l:List TLine}{e:Nat}:∀{n m i:Nat},e - i≤n→e - i≤m→elseN l e n i=elseN l e m i
 | 0,0,_,_,_=>rfl
 | 0,m+1,i,h1,h2=>by rw[elseN,elseN,if_neg (by omega)]
 | n+1,0,i,h1,h2=>by rw[elseN,elseN,if_neg (by omega)]
 | n+1,m+1,i,h1,h2=>by
  rw[elseN,elseN]
  by_cases hi:i < e
  ·rw[if_pos hi,if_pos hi]
   cases hx:l[i]? with
   | none=>rfl
   | some x=>
    dsimp only
    split
    ·rfl
    ·split
     ·cases hm:endAt l i with
      | none=>exact fW (by omega) (by omega)
      | some m'=>
       have:=aP hm
       obtain⟨_,_,_,_,h3,_⟩:=this
       exact fW (by omega) (by omega)
     ·exact fW (by omega) (by omega)
  ·rw[if_neg hi,if_neg hi]
theorem AL {l:List TLine}{e i:Nat}{x:TLine}(hi:i < e)(hx:l[i]?=some x):elseN l e (e - i) i=if x.faa=4 then some i else if x.faa=3∨x.faa=5 then(match endAt l i with
   | some m=>elseN l e (e - (m+1)) (m+1)
   | none=>elseN l e (e - (i+1)) (i+1))else elseN l e (e - (i+1)) (i+1):=by
 obtain⟨n,hn⟩:∃n,e - i=n+1:=⟨e - i - 1,by omega⟩
 rw[hn,elseN,if_pos hi,hx]
 dsimp only
 split
 ·rfl
 ·split
  ·cases hm:endAt l i with
   | none=>exact fW (by omega) (by omega)
   | some m=>
    obtain⟨_,_,_,_,h3,_⟩:=aP hm
    exact fW (by omega) (by omega)
  ·exact fW (by omega) (by omega)
theorem Cv {l:List TLine}{e i n:Nat}(hi:e≤i):elseN l e n i=none:=by
 cases n with
 | zero=>rfl
 | succ n=>rw[elseN,if_neg (by omega)]
theorem lN {l:List TLine}{e:Nat}:∀{n i j:Nat},elseN l e n i=some j→i≤j∧j < e∧∃x,l[j]?=some x∧x.faa=4
 | 0,_,_,h=>by rw[elseN]at h;cases h
 | n+1,i,j,h=>by
  rw[elseN]at h
  split at h
  ·rename_i hi
   split at h
   ·rename_i x hx
    split at h
    ·injection h with h;subst h;exact⟨by omega,hi,x,hx,by assumption⟩
    ·split at h
     ·split at h
      ·rename_i m hm
       obtain⟨_,_,_,_,h3,_⟩:=aP hm
       have:=lN h
       exact⟨by omega,this.2⟩
      ·have:=lN h
       exact⟨by omega,this.2⟩
     ·have:=lN h
      exact⟨by omega,this.2⟩
   ·cases h
  ·cases h
theorem bZ {l:List TLine}{k j:Nat}(h:elseAt l k=some j):∃x e,l[k]?=some x∧x.faa=3∧endAt l k=some e∧k < j∧j < e∧∃y,l[j]?=some y∧y.faa=4:=by
 unfold elseAt at h
 split at h
 ·rename_i x e hx he
  split at h
  ·rename_i h3
   have:=lN h
   exact⟨x,e,hx,h3,he,by omega,this.2⟩
  ·cases h
 ·cases h
def funsF:List TLine→Nat→List Nat
 | [],_=>[]
 | x::l,i=>(if x.faa=0 then [i]else [])++funsF l (i+1)
def aF (l:List TLine):List Nat:=funsF l 0
theorem yF {l:List TLine}{i:Nat}{x:TLine}(hx:l[i]?=some x):funsF (l.drop i) i=(if x.faa=0 then [i]else [])++funsF (l.drop (i+1)) (i+1):=by
 rw[cP hx,funsF]
theorem sF:∀{l:List TLine} {i k:Nat},k∈funsF l i→i≤k∧k < i+l.length∧∃x,l[k - i]?=some x∧x.faa=0
 | [],_,_,h=>by simp[funsF]at h
 | x::l,i,k,h=>by
  rw[funsF,List.mem_append]at h
  rcases h with h|h
  ·split at h
   ·simp only[List.mem_cons,List.not_mem_nil,or_false]at h
    subst h
    exact⟨by omega,by simp,x,by simp,by assumption⟩
   ·cases h
  ·obtain⟨h1,h2,y,hy,hk⟩:=sF h
   refine⟨by omega,by simp only[List.length_cons];omega,y,?_,hk⟩
   rw[show k - i=(k - (i+1))+1 by omega,List.getElem?_cons_succ]
   exact hy
theorem me {l:List TLine}{k:Nat}(h:k∈aF l):k < l.length∧∃x,l[k]?=some x∧x.faa=0:=by
 have:=sF h
 simpa using this.2
def findN:List TLine→Nat→List UInt8→Option Nat
 | [],_,_=>none
 | x::l,i,s=>if x.faa=0∧x.fac=s then some i else findN l (i+1) s
def kL (l:List TLine)(s:List UInt8):Int:=cZ (findN l 0 s)
theorem DU {l:List TLine}{i:Nat}{x:TLine}{s:List UInt8}(hx:l[i]?=some x):findN (l.drop i) i s=if x.faa=0∧x.fac=s then some i else findN (l.drop (i+1)) (i+1) s:=by
 rw[cP hx,findN]
theorem sT:∀{l:List TLine} {i k:Nat} {s:List UInt8},findN l i s=some k→i≤k∧k < i+l.length∧∃x,l[k - i]?=some x∧x.faa=0∧x.fac=s
 | [],_,_,_,h=>by rw[findN]at h;cases h
 | x::l,i,k,s,h=>by
  rw[findN]at h
  split at h
  ·injection h with h;subst h
   exact⟨by omega,by simp,x,by simp,by assumption⟩
  ·obtain⟨h1,h2,y,hy,hk⟩:=sT h
   refine⟨by omega,by simp only[List.length_cons];omega,y,?_,hk⟩
   rw[show k - i=(k - (i+1))+1 by omega,List.getElem?_cons_succ]
   exact hy
theorem jS {l:List TLine}{k:Nat}{s:List UInt8}(h:findN l 0 s=some k):k < l.length∧∃x,l[k]?=some x∧x.faa=0∧x.fac=s:=by
 have:=sT h
 simpa using this.2
def kI (acc:List (List UInt8))(s:List UInt8):List (List UInt8):=if acc.contains s=true then acc else acc++[s]
def locN (l:List TLine)(e:Nat):Nat→Nat→List (List UInt8)→List (List UInt8)
 | 0,_,acc=>acc
 | n+1,i,acc=>if i < e then(match l[i]? with
  | some x=>locN l e n (i+1) (if x.faa=1 then kI acc x.fac else acc)
  | none=>acc)else acc
def localsOf (l:List TLine)(k:Int):List (List UInt8):=if 0≤k then(match l[k.toNat]?,endAt l k.toNat with
 | some x,some e=>if x.faa=0 then locN l e (e - k.toNat) k.toNat x.faj else []
 | _,_=>[])else []
theorem CX {l:List TLine}{e i:Nat}{x:TLine}{acc:List (List UInt8)}(hi:i < e)(hx:l[i]?=some x):locN l e (e - i) i acc=locN l e (e - (i+1)) (i+1) (if x.faa=1 then kI acc x.fac else acc):=by
 rw[show e - i=(e - (i+1))+1 by omega,locN,if_pos hi,hx]
theorem Et {l:List TLine}{e i n:Nat}{acc:List (List UInt8)}(hi:e≤i):locN l e n i acc=acc:=by
 cases n with
 | zero=>rfl
 | succ n=>rw[locN,if_neg (by omega)]
theorem zm (acc:List (List UInt8))(s:List UInt8):(kI acc s).length≤acc.length+1:=by
 unfold kI
 split <;> simp
theorem zs {l:List TLine}{e:Nat}:∀(n i:Nat) (acc:List (List UInt8)),(locN l e n i acc).length≤acc.length+n
 | 0,_,_=>by simp[locN]
 | n+1,i,acc=>by
  rw[locN]
  split
  ·split
   ·refine Nat.le_trans (zs n _ _) ?_
    split
    ·have:=zm acc (by assumption:TLine).fac;omega
    ·omega
   ·omega
  ·omega
def dD (l:List TLine)(locals:List (List UInt8))(t:TTok):Bool:=
 if t.faa=1 then locals.contains t.fac
 else if t.faa=7 then(match findN l 0 t.fac with
  | some f=>(match l[f]? with|some x=>(x.faj.length:Int)==t.fas|none=>false)
  | none=>false)
 else true
def ic (l:List TLine)(locals:List (List UInt8))(ts:List TTok):Bool:=ts.all (dD l locals)
def dep (x:TLine)(d:Nat):Nat:=if x.faa=3∨x.faa=5 then d+1 else if x.faa=7 then d - 1 else d
def qu (l:List TLine)(locals:List (List UInt8))(e:Nat):Nat→Nat→Nat→Bool
 | 0,_,_=>true
 | n+1,i,d=>if i < e then(match l[i]? with
  | some x=>if x.faa=0 then false else
   if dep x d≤4∧ic l locals x.fag=true then qu l locals e n (i+1) (dep x d)else false
  | none=>false)else true
def pt (l:List TLine)(i:Nat):Nat→Nat→Bool
 | 0,_=>false
 | n+1,j=>(elseAt l j==some i) || pt l i n (j+1)
theorem oc {l:List TLine}{i:Nat}:∀{n j:Nat},pt l i n j=true↔∃k,j≤k∧k < j+n∧elseAt l k=some i
 | 0,j=>by
  rw[pt]
  exact⟨fun h=>(by cases h),fun⟨k,h1,h2,_⟩=>(by omega)⟩
 | n+1,j=>by
  rw[pt,Bool.or_eq_true,oc,beq_iff_eq]
  constructor
  ·rintro(h|⟨k,h1,h2,h3⟩)
   ·exact⟨j,by omega,by omega,h⟩
   ·exact⟨k,by omega,by omega,h3⟩
  ·rintro⟨k,h1,h2,h3⟩
   by_cases hk:k=j
   ·subst hk;exact .inl h3
   ·exact .inr ⟨k,by omega,by omega,h3⟩
def eF (l:List TLine)(k e:Nat):Nat→Nat→Bool
 | 0,_=>true
 | n+1,i=>if i < e then(match l[i]? with
  | some x=>(if x.faa=4 then pt l i (i - k) k else true) && eF l k e n (i+1)
  | none=>true)else true
theorem gv {l:List TLine}{k e:Nat}:∀{n i:Nat},e - i≤n→(eF l k e n i=true↔∀j x,i≤j→j < e→l[j]?=some x→x.faa=4→pt l j (j - k) k=true)
 | 0,i,h=>⟨fun _ j x h1 h2=>by omega,fun _=>rfl⟩
 | n+1,i,h=>by
  rw[eF]
  by_cases hi:i < e
  ·rw[if_pos hi]
   cases hx:l[i]? with
   | none=>
    refine⟨fun _ j x h1 h2 hj=>?_,fun _=>rfl⟩
    have:l.length≤i:=List.getElem?_eq_none_iff.1 hx
    rw[List.getElem?_eq_none (by omega)]at hj
    cases hj
   | some x=>
    dsimp only
    rw[Bool.and_eq_true,gv (by omega)]
    constructor
    ·rintro⟨h1,h2⟩ j y hj1 hj2 hy hk
     by_cases he:j=i
     ·subst he
      rw[hx]at hy
      injection hy with hy
      subst hy
      rw[if_pos hk]at h1
      exact h1
     ·exact h2 j y (by omega) hj2 hy hk
    ·intro H
     refine⟨?_,fun j y hj1 hj2 hy hk=>H j y (by omega) hj2 hy hk⟩
     split
     ·exact H i x (Nat.le_refl _) hi hx (by assumption)
     ·rfl
  ·rw[if_neg hi]
   exact⟨fun _ j x h1 h2=>by omega,fun _=>rfl⟩
def kQ (l:List TLine)(locals:List (List UInt8))(k e:Nat):Nat→Nat→Nat→Bool
 | 0,_,_=>true
 | n+1,i,d=>if i < e then(match l[i]? with
  | some x=>if x.faa=0 then false else if x.faa=4∧pt l i (i - k) k=false then false else
   if dep x d≤4∧ic l locals x.fag=true then kQ l locals k e n (i+1) (dep x d)else false
  | none=>false)else true
theorem Au {l:List TLine}{locals:List (List UInt8)}{k e i d:Nat}{x:TLine}(hi:i < e)(hx:l[i]?=some x):kQ l locals k e (e - i) i d=if x.faa=0 then false else if x.faa=4∧pt l i (i - k) k=false then false else if dep x d≤4∧ic l locals x.fag=true then kQ l locals k e (e - (i+1)) (i+1) (dep x d)else false:=by
 rw[show e - i=(e - (i+1))+1 by omega,kQ,if_pos hi,hx]
theorem Cw {l:List TLine}{locals:List (List UInt8)}{k e i d n:Nat}(hi:e≤i):kQ l locals k e n i d=true:=by
 cases n with
 | zero=>rfl
 | succ n=>rw[kQ,if_neg (by omega)]
theorem xN {l:List TLine}{locals:List (List UInt8)}{k e:Nat}:∀{n i d:Nat},kQ l locals k e n i d=(qu l locals e n i d && eF l k e n i)
 | 0,i,d=>rfl
 | n+1,i,d=>by
  rw[kQ,qu,eF]
  by_cases hi:i < e
  ·rw[if_pos hi,if_pos hi,if_pos hi]
   cases hx:l[i]? with
   | none=>rfl
   | some x=>
    dsimp only
    by_cases h0:x.faa=0
    ·rw[if_pos h0,if_pos h0];rfl
    ·rw[if_neg h0,if_neg h0]
     rw[xN]
     by_cases h4:x.faa=4
     ·rw[if_pos h4]
      cases ha:pt l i (i - k) k with
      | false=>rw[if_pos ⟨h4,rfl⟩];simp
      | true=>
       rw[if_neg (by simp)]
       split <;> simp_all
     ·rw[if_neg (by simp[h4]),if_neg h4]
      split <;> simp_all
  ·rw[if_neg hi,if_neg hi,if_neg hi];rfl
def vd (l:List TLine)(k e:Nat):Bool:=decide ((localsOf l (k:Int)).length≤8) && qu l (localsOf l (k:Int)) e (e - (k+1)) (k+1) 0
def lH (l:List TLine)(k e:Nat):Bool:=decide ((localsOf l (k:Int)).length≤8) && kQ l (localsOf l (k:Int)) k e (e - (k+1)) (k+1) 0
theorem sQ {l:List TLine}{k e:Nat}:lH l k e=(vd l k e && eF l k e (e - (k+1)) (k+1)):=by
 rw[lH,vd,xN,Bool.and_assoc]
theorem Aq {l:List TLine}{k e:Nat}(h:vd l k e=true)(he:e≤l.length):∀i x,k < i→i < e→l[i]?=some x→x.faa≠0:=by
 rw[vd,Bool.and_eq_true]at h
 have key:∀(n i d:Nat),e - i≤n→qu l (localsOf l (k:Int)) e n i d=true→∀j x,i≤j→j < e→l[j]?=some x→x.faa≠0:=by
  intro n
  induction n with
  | zero=>intro i d hn _ j x h1 h2;omega
  | succ n ih=>
   intro i d hn hb j x h1 h2 hx
   rw[qu,if_pos (by omega)]at hb
   obtain⟨y,hy⟩:=ag (l:=l) (k:=i) (by omega)
   rw[hy]at hb
   dsimp only at hb
   split at hb
   ·cases hb
   ·rename_i h0
    split at hb
    ·by_cases hj:j=i
     ·subst hj
      rw[hy]at hx
      injection hx with hx
      subst hx
      exact h0
     ·exact ih (i+1) _ (by omega) hb j x (by omega) h2 hx
    ·cases hb
 exact fun i x h1 h2 hx=>key _ _ _ (Nat.le_refl _) h.2 i x (by omega) h2 hx
def bK (F:Nat→Nat→Bool)(l:List TLine):Nat→Nat→Bool
 | 0,k=>decide (l.length≤k)
 | n+1,k=>if k < l.length then(match l[k]?,endAt l k with
  | some x,some e=>if x.faa=0∧F k e=true then bK F l n (e+1)else false
  | _,_=>false)else true
theorem lM {F:Nat→Nat→Bool}{l:List TLine}{k n:Nat}{x:TLine}(hx:l[k]?=some x)(hn:l.length - k≤n):bK F l n k=match endAt l k with|some e=>if x.faa=0∧F k e=true then bK F l (l.length - (e+1)) (e+1)else false|none=>false:=by
 have more:∀(n m k:Nat),l.length - k≤n→l.length - k≤m→bK F l n k=bK F l m k:=by
  intro n
  induction n with
  | zero=>
   intro m k h1 h2
   rw[bK,decide_eq_true (by omega)]
   cases m with
   | zero=>rw[bK,decide_eq_true (by omega)]
   | succ m=>rw[bK,if_neg (by omega)]
  | succ n ih=>
   intro m k h1 h2
   cases m with
   | zero=>rw[bK,bK,if_neg (by omega),decide_eq_true (by omega)]
   | succ m=>
    rw[bK,bK]
    split
    ·split
     ·rename_i x e hx he
      obtain⟨_,_,_,_,h3,_⟩:=aP he
      split
      ·exact ih m (e+1) (by omega) (by omega)
      ·rfl
     ·rfl
    ·rfl
 have hk:k < l.length:=by
  rcases Nat.lt_or_ge k l.length with h|h
  ·exact h
  ·rw[List.getElem?_eq_none h]at hx;cases hx
 obtain⟨m,rfl⟩:∃m,n=m+1:=⟨n - 1,by omega⟩
 rw[bK,if_pos hk,hx]
 cases he:endAt l k with
 | none=>rfl
 | some e=>
  obtain⟨_,_,_,_,h3,_⟩:=aP he
  dsimp only
  split
  ·exact more _ _ _ (by omega) (by omega)
  ·rfl
theorem so {F:Nat→Nat→Bool}{l:List TLine}{k n:Nat}(hk:l.length≤k):bK F l n k=true:=by
 cases n with
 | zero=>rw[bK,decide_eq_true hk]
 | succ n=>rw[bK,if_neg (by omega)]
def wF (l:List TLine):Bool:=eF l 0 l.length l.length 0
def cv (l:List TLine)(k:Nat):Bool:=match l[k]? with|some x=>findN l 0 x.fac==some k|none=>false
theorem vT {l:List TLine}:∀(n k:Nat),l.length - k≤n→k≤l.length→(∀j m,j < k→endAt l j=some m→m < k)→
  (bK (lH l) l (l.length - k) k=(bK (vd l) l (l.length - k) k && eF l 0 l.length (l.length - k) k))
 | n,k,hn,hk,hP=>by
  by_cases hlt:k < l.length
  ·obtain⟨x,hx⟩:=ag hlt
   rw[lM hx (Nat.le_refl _),lM hx (Nat.le_refl _)]
   cases he:endAt l k with
   | none=>simp
   | some e=>
    dsimp only
    obtain⟨_,hx',ho,_,h3,h4⟩:=aP he
    obtain⟨z,hz,hz7⟩:=bP he
    by_cases h0:x.faa=0
    ·have hP':∀j m,j < e+1→endAt l j=some m→m < e+1:=by
      intro j m hj hm
      rcases Nat.lt_trichotomy j k with hjk|hjk|hjk
      ·have:=hP j m hjk hm;omega
      ·subst hjk
       rw[he]at hm
       injection hm with hm
       omega
      ·obtain⟨y,hy,hyo,_⟩:=aP hm
       by_cases hje:j=e
       ·subst hje
        rw[hz]at hy
        injection hy with hy
        subst hy
        rw[opensK_iff]at hyo
        omega
       ·obtain⟨m',hm',_,h5⟩:=oX he hjk (by omega) hy hyo
        rw[hm]at hm'
        injection hm' with hm'
        omega
     cases n with
     | zero=>omega
     | succ n=>
      have ih:=vT (l:=l) n (e+1) (by omega) (by omega) hP'
      have hels:eF l 0 l.length (l.length - k) k=(eF l k e (e - (k+1)) (k+1) && eF l 0 l.length (l.length - (e+1)) (e+1)):=by
       rw[Bool.eq_iff_iff,Bool.and_eq_true,gv (Nat.le_refl _),gv (Nat.le_refl _),gv (Nat.le_refl _)]
       constructor
       ·intro H
        refine⟨fun j y h5 h6 hy h7=>?_,fun j y h5 h6 hy h7=>H j y (by omega) h6 hy h7⟩
        have:=H j y (by omega) (by omega) hy h7
        rw[oc]at this ⊢
        obtain⟨i,h8,h9,h10⟩:=this
        refine⟨i,?_,by omega,h10⟩
        rcases Nat.lt_or_ge i k with h11|h11
        ·obtain⟨_,m,_,_,h12,_,h13,_⟩:=bZ h10
         have:=hP i m h11 h12
         omega
        ·exact h11
       ·rintro⟨H1,H2⟩ j y h5 h6 hy h7
        rcases Nat.lt_or_ge e j with h8|h8
        ·exact H2 j y h8 h6 hy h7
        ·have hje:j≠e:=fun h=>by
          subst h
          rw[hz]at hy
          injection hy with hy
          subst hy
          omega
         have hjk:j≠k:=fun h=>by
          subst h
          rw[hx]at hy
          injection hy with hy
          subst hy
          omega
         have:=H1 j y (by omega) (by omega) hy h7
         rw[oc]at this ⊢
         obtain⟨i,h9,h10,h11⟩:=this
         exact⟨i,by omega,by omega,h11⟩
      rw[hels,ih,sQ]
      cases vd l k e <;> cases eF l k e (e - (k+1)) (k+1) <;> simp[h0]
    ·rw[if_neg (by simp[h0]),if_neg (by simp[h0])];rfl
  ·have:k=l.length:=by omega
   subst this
   rw[so (Nat.le_refl _),so (Nat.le_refl _)]
   rw[Nat.sub_self]
   rfl
def jW:List UInt8:=[109,97,105,110]
def nC (l:List TLine):Bool:=match l with
 | []=>false
 | x::_=>x.faa==0 && (x.fac==jW && x.faj.length==0)
def ax (l:List TLine):Bool:=decide (l.length≤60) && (decide (1≤(aF l).length∧(aF l).length≤6) && (l.all dx && (nC l && ((aF l).all (cv l) && (bK (vd l) l l.length 0 && wF l)))))
theorem tM (l:List TLine):bK (lH l) l l.length 0=(bK (vd l) l l.length 0 && wF l):=by
 have:=vT (l:=l) _ 0 (Nat.le_refl _) (by omega) (fun j m h=>by omega)
 rw[Nat.sub_zero]at this
 exact this
def StkOk (l:List TLine)(e:Nat):Nat→List Nat→Prop
 | i,[]=>endN (l.drop i) i 1=some e
 | i,m::es=>i≤m∧endN (l.drop i) i 1=some m∧StkOk l e (m+1) es
theorem StkOk.push {l:List TLine}{e i:Nat}{es:List Nat}{x:TLine}(h:StkOk l e i es)(hx:l[i]?=some x)(ho:cQ x.faa=true):∃m,endAt l i=some m∧i < m∧StkOk l e (i+1) (m::es):=by
 have key:∀m',endN (l.drop i) i 1=some m'→∃m,endAt l i=some m∧i < m∧endN (l.drop (i+1)) (i+1) 1=some m∧endN (l.drop (m+1)) (m+1) 1=some m':=by
  intro m' hm
  rw[cN hx,if_pos ho,la _ (Nat.le_refl _) (Nat.le_refl 1) (Nat.le_refl 1)]at hm
  cases h1:endN (l.drop (i+1)) (i+1) 1 with
  | none=>rw[h1]at hm;cases hm
  | some m=>
   rw[h1]at hm
   have:=gY h1
   exact⟨m,by rw[oH hx ho];exact h1,by omega,rfl,hm⟩
 cases es with
 | nil=>
  obtain⟨m,h1,h2,h3,h4⟩:=key e h
  exact⟨m,h1,h2,by omega,h3,h4⟩
 | cons m' es=>
  obtain⟨g1,g2,g3⟩:=h
  obtain⟨m,h1,h2,h3,h4⟩:=key m' g2
  have:=gY h4
  exact⟨m,h1,h2,by omega,h3,by omega,h4,g3⟩
theorem StkOk.other {l:List TLine}{e i:Nat}{es:List Nat}{x:TLine}(h:StkOk l e i es)(hx:l[i]?=some x)(ho:cQ x.faa=false)(h7:x.faa≠7):StkOk l e (i+1) es:=by
 have key:∀m',endN (l.drop i) i 1=some m'→endN (l.drop (i+1)) (i+1) 1=some m':=by
  intro m' hm
  rw[cN hx,if_neg (by simp[ho]),if_neg h7]at hm
  exact hm
 cases es with
 | nil=>exact key e h
 | cons m' es=>
  obtain⟨g1,g2,g3⟩:=h
  have:=gY (key m' g2)
  exact⟨by omega,key m' g2,g3⟩
theorem StkOk.pop {l:List TLine}{e i:Nat}{es:List Nat}{x:TLine}(h:StkOk l e i es)(hx:l[i]?=some x)(h7:x.faa=7):(es=[]∧i=e)∨∃es',es=i::es'∧StkOk l e (i+1) es':=by
 have ho:¬cQ x.faa=true:=by rw[opensK_iff];omega
 cases es with
 | nil=>
  unfold StkOk at h
  rw[cN hx,if_neg ho,if_pos h7,if_pos rfl]at h
  injection h with h
  exact .inl ⟨rfl,h⟩
 | cons m' es=>
  obtain⟨g1,g2,g3⟩:=h
  rw[cN hx,if_neg ho,if_pos h7,if_pos rfl]at g2
  injection g2 with g2
  subst g2
  exact .inr ⟨es,rfl,g3⟩
theorem StkOk.le {l:List TLine}{e:Nat}:∀{i:Nat} {es:List Nat},StkOk l e i es→i≤e
 | i,[],h=>(gY h).1
 | i,m::es,h=>by
  have:=StkOk.le h.2.2
  have:=h.1
  omega
inductive Ex where
 | node (t:TTok) (es:List Ex)
mutual
def Ex.toks:Ex→List TTok
 | .node t es=>t::au es
def au:List Ex→List TTok
 | []=>[]
 | a::es=>a.toks++au es
end
mutual
def Ex.ok:Ex→Prop
 | .node t es=>fG t=true∧es.length=ar t∧jl es
def jl:List Ex→Prop
 | []=>True
 | a::es=>a.ok∧jl es
end
theorem Ex.toks_pos (e:Ex):0 < e.toks.length:=by cases e;simp[Ex.toks]
theorem gg:∀(a b:List Ex),au (a++b)=au a++au b
 | [],b=>by rw[List.nil_append,au,List.nil_append]
 | x::a,b=>by rw[List.cons_append,au,au,gg a b,List.append_assoc]
theorem sG:∀{l:List Ex} (n:Nat),jl l→jl (l.take n)
 | [],n,h=>by rw[List.take_nil];exact h
 | x::l,0,h=>by rw[List.take_zero];trivial
 | x::l,n+1,h=>by rw[List.take_succ_cons];exact⟨h.1,sG n h.2⟩
theorem sH:∀{l:List Ex} (n:Nat),jl l→jl (l.drop n)
 | [],n,h=>by rw[List.drop_nil];exact h
 | x::l,0,h=>h
 | x::l,n+1,h=>by rw[List.drop_succ_cons];exact sH n h.2
theorem ux:∀{l:List TTok} {p n e:Nat},endL l p n=some e→∃es:List Ex,es.length=n∧jl es∧∃rest,l=au es++rest∧p+(au es).length=e
 | l,p,0,e,h=>by
  have h:some p=some e:=by cases l <;> exact h
  injection h with h
  exact⟨[],rfl,trivial,l,rfl,by simp[au];omega⟩
 | [],_,_+1,_,h=>by rw[endL]at h;cases h
 | t::l,p,n+1,e,h=>by
  rw[endL]at h
  split at h
  ·rename_i hok
   obtain⟨es,h1,h2,rest,h3,h4⟩:=ux h
   refine⟨.node t (es.take (ar t))::es.drop (ar t),by simp;omega,⟨⟨hok,by simp;omega,sG _ h2⟩,sH _ h2⟩,rest,?_,?_⟩
   ·rw[au,Ex.toks,List.cons_append,←gg,List.take_append_drop,List.cons_append,←h3]
   ·rw[au,Ex.toks,List.cons_append,←gg,List.take_append_drop,List.length_cons];omega
  ·cases h
mutual
theorem Ex.endL:∀(e:Ex),e.ok→∀(r:List TTok) (p n:Nat),Go.Proofs.YtjmplnfiabmalaaGreat.endL (e.toks++r) p (n+1)=Go.Proofs.YtjmplnfiabmalaaGreat.endL r (p+e.toks.length) n
 | .node t es,h,r,p,n=>by
  rw[Ex.toks,List.cons_append,Go.Proofs.YtjmplnfiabmalaaGreat.endL,if_pos h.1,show n+ar t=n+es.length by rw[h.2.1],zq es h.2.2,List.length_cons]
  congr 1;omega
theorem zq:∀(es:List Ex),jl es→∀(r:List TTok) (p n:Nat),Go.Proofs.YtjmplnfiabmalaaGreat.endL (au es++r) p (n+es.length)=Go.Proofs.YtjmplnfiabmalaaGreat.endL r (p+(au es).length) n
 | [],_,r,p,n=>by rw[au];simp
 | a::es,h,r,p,n=>by
  rw[au,List.append_assoc,List.length_cons,show n+(es.length+1)=(n+es.length)+1 by omega,Ex.endL a h.1,zq es h.2,List.length_append]
  congr 1;omega
end
theorem gW {l:List TTok}(h:bq l=true):∃e:Ex,e.ok∧l=e.toks:=by
 unfold bq at h
 simp only[Bool.and_eq_true,decide_eq_true_eq,beq_iff_eq]at h
 obtain⟨_,h1,h2⟩:=h
 rw[fC,if_pos (by omega)]at h2
 show ∃e:Ex,e.ok∧l=e.toks
 cases he:Go.Proofs.YtjmplnfiabmalaaGreat.endL (l.drop (0:Int).toNat) (0:Int).toNat 1 with
 | none=>rw[he]at h2;simp only[cZ]at h2;omega
 | some e=>
  rw[he]at h2
  simp only[cZ]at h2
  obtain⟨es,g1,g2,rest,g3,g4⟩:=ux he
  match es,g1 with
  | [a],_=>
   rw[au,au,List.append_nil]at g3 g4
   have e0:l.drop (0:Int).toNat=l:=rfl
   rw[e0]at g3
   have:rest=[]:=by
    have:=congrArg List.length g3
    rw[List.length_append]at this
    have e1:(0:Int).toNat=0:=rfl
    rw[e1]at g4
    exact List.length_eq_zero_iff.1 (by omega)
   subst this
   exact⟨a,g2.1,by rw[g3,List.append_nil]⟩
def ju (l:List TTok)(p:Nat)(e:Ex):Prop:=∃r,l.drop p=e.toks++r
def jF (l:List TTok)(p:Nat)(es:List Ex):Prop:=∃r,l.drop p=au es++r
theorem mW {l:List TTok}{p:Nat}{e:Ex}(h:ju l p e)(ho:e.ok):fC l (p:Int)=((p+e.toks.length:Nat):Int):=by
 obtain⟨r,h⟩:=h
 rw[fC,if_pos (by omega),Int.toNat_natCast,h,show(1:Nat)=0+1 from rfl,Ex.endL e ho]
 cases r <;> rfl
theorem mS {l:List TTok}{p:Nat}{t:TTok}{es:List Ex}(h:ju l p (.node t es)):l[p]?=some t∧jF l (p+1) es:=by
 obtain⟨r,h⟩:=h
 rw[Ex.toks,List.cons_append]at h
 refine⟨?_,r,?_⟩
 ·have:=congrArg (·[0]?) h
  simpa [List.getElem?_drop]using this
 ·have:=congrArg (·.drop 1) h
  simpa [List.drop_drop]using this
theorem er {l:List TTok}{p:Nat}{a:Ex}{es:List Ex}(h:jF l p (a::es)):ju l p a∧jF l (p+a.toks.length) es:=by
 obtain⟨r,h⟩:=h
 rw[au,List.append_assoc]at h
 refine⟨⟨_,h⟩,r,?_⟩
 rw[←List.drop_drop,h,List.drop_left]
def oU:Nat→List Ex→List Nat
 | _,[]=>[]
 | p,a::es=>p::oU (p+a.toks.length) es
theorem yR:∀(p:Nat) (es:List Ex),(oU p es).length=es.length
 | _,[]=>rfl
 | p,a::es=>by rw[oU,List.length_cons,yR,List.length_cons]
theorem BB:∀{l:List TTok} {p:Nat} {es:List Ex} {k:Nat} {a:Ex},jF l p es→es[k]?=some a→∃q,(oU p es)[k]?=some q∧ju l q a
 | _,_,[],_,_,_,h=>by simp at h
 | l,p,b::es,0,a,hs,h=>by
  rw[List.getElem?_cons_zero]at h
  injection h with h
  subst h
  exact⟨p,by rw[oU,List.getElem?_cons_zero],(er hs).1⟩
 | l,p,b::es,k+1,a,hs,h=>by
  rw[List.getElem?_cons_succ]at h
  obtain⟨q,h1,h2⟩:=BB (er hs).2 h
  exact⟨q,by rw[oU,List.getElem?_cons_succ];exact h1,h2⟩
theorem CT {t:TTok}(h:fG t=true):t.faa=0∨t.faa=1∨t.faa=7∨(2≤t.faa∧t.faa≤6):=by
 unfold fG at h
 split at h
 ·omega
 ·split at h
  ·omega
  ·split at h
   ·omega
   ·simp only[Bool.and_eq_true,within_iff]at h
    omega
theorem FF {t:TTok}(h:fG t=true):((t.faa=0∨t.faa=1)→ar t=0)∧(t.faa=7→(ar t:Int)=t.fas)∧(2≤t.faa→t.faa≤6→ar t=2):=by
 obtain⟨e1,_⟩:=zy h
 unfold qU at e1
 rw[if_neg (by simp[h])]at e1
 refine⟨fun h0=>?_,fun h7=>?_,fun h2 h6=>?_⟩
 ·rw[if_neg (by omega),if_pos h0]at e1;omega
 ·rw[if_pos h7]at e1;omega
 ·rw[if_neg (by omega),if_neg (by omega)]at e1;omega
theorem rg:∀{l:List TTok} {p:Nat} {es:List Ex} {j:Nat} {a:Ex},jF l p es→es[j]?=some a→ju l (p+(au (es.take j)).length) a
 | _,_,[],_,_,_,h=>by simp at h
 | l,p,b::es,0,a,hs,h=>by
  rw[List.getElem?_cons_zero]at h
  injection h with h
  subst h
  simpa [au]using(er hs).1
 | l,p,b::es,j+1,a,hs,h=>by
  rw[List.getElem?_cons_succ]at h
  have:=rg (er hs).2 h
  rw[List.take_succ_cons,au,List.length_append,←Nat.add_assoc]
  exact this
end Go.Proofs.YtjmplnfiabmalaaGreat
namespace Go.Proofs.YtjmplnfiabmalaaGreat
noncomputable section
open Go.Sim
set_option maxRecDepth 100000
set_option maxHeartbeats 4000000
structure Cx where
 p:List TLine
 b:TBuild
 framed:Bool
 words:Int
 args:Int
structure Sc where
 f:Nat
 chain:List Int
 locals:List (List UInt8)
 first:Int
 outer:Bool
structure Gs where
 items:List TItem
 most:Int
 start:Bool
def pw (C:Cx)(s:Gs)(depth code arg line:Int)(chain:List Int):TItem:=⟨⟨code,arg⟩,line,s.start,chain,if C.framed=true∧0 < s.items.length then 0 else depth,C.framed && decide (0 < s.items.length)⟩
def aJ (C:Cx)(s:Gs)(depth code arg line:Int)(chain:List Int):Gs:=⟨s.items++[pw C s depth code arg line chain],s.most,false⟩
def Dn (C:Cx)(x:Sc)(i:Int):Bool:=x.outer && decide (i < C.args)
def pI (C:Cx)(x:Sc)(i:Int):Int:=if x.outer=true then i - C.args else x.first+i
def fI (C:Cx)(store:Bool):Int:=(if C.framed=true then 1 else 3)+(if store=true then 1 else 0)
def jy (C:Cx)(x:Sc)(depth i:Int):Int:=
 if C.framed=true then(if Dn C x i=true then 1+(C.args - i)else -1 - pI C x i)
 else(if Dn C x i=true then depth+(C.args - i)else depth - 1 - pI C x i)
def Dw (C:Cx)(x:Sc)(s:Gs)(depth i line:Int):Gs:=aJ C s depth (fI C false) (jy C x depth i) line x.chain
def gx (C:Cx)(x:Sc)(s:Gs)(depth i line:Int)(chain:List Int):Gs:=aJ C s depth (fI C true) (jy C x depth i) line chain
def eX (C:Cx)(y:Sc)(chain:List Int)(line:Int):Nat→Int→Gs→Gs
 | 0,_,s=>s
 | n+1,d,s=>eX C y chain line n (d - 1) (gx C y s d n line chain)
def gK (C:Cx)(y:Sc)(chain:List Int)(line d:Int):Nat→Nat→Gs→Gs
 | 0,_,s=>s
 | n+1,i,s=>gK C y chain line d n (i+1) (gx C y (aJ C s d 0 0 line chain) (d+1) i line chain)
def cD (l:List TItem)(j:Int)(v:Int):List TItem:=if 0≤j then(match l[j.toNat]? with
 | some x=>l.set j.toNat ⟨⟨x.fad.fab,v⟩,x.fat,x.fam,x.fax,x.faw,x.faE⟩
 | none=>l)else l
def di (l:List TItem)(v:Int):List Int→List TItem
 | []=>l
 | j::js=>di (cD l j v) v js
def qE (p:List TLine)(g:Nat):Nat:=((p.take g).filter fun x=>x.faa==0).length
def cM (C:Cx)(inside:List Nat)(g:Nat)(n:Nat):Bool:=decide ((inside.length:Int)≤C.b.far) && (decide (bR C.p (g:Int) - g≤9) && (decide (n < 200) && !inside.contains g))
def th (C:Cx)(rep:Sc→List Nat→Nat→Nat→Int→Gs→Gs)(x:Sc)(inside:List Nat)(line:Nat)(t:TTok)(d:Int)(s:Gs):Gs:=
 if t.faa=0 then aJ C s d 0 t.fas line x.chain
 else if t.faa=1 then Dw C x s d (fF x.locals t.fac) line
 else if t.faa=7 then(match findN C.p 0 t.fac with
  | some g=>if cM C inside g s.items.length=true then rep x inside line g d s else aJ C s d 12 (qE C.p g) line x.chain
  | none=>s)
 else aJ C s d (5+t.faa - 2) 0 line x.chain
mutual
def iE (C:Cx)(rep:Sc→List Nat→Nat→Nat→Int→Gs→Gs)(x:Sc)(inside:List Nat)(line:Nat):Ex→Int→Gs→Gs
 | .node t es,d,s=>th C rep x inside line t (d+es.length) (fo C rep x inside line es d s)
def fo (C:Cx)(rep:Sc→List Nat→Nat→Nat→Int→Gs→Gs)(x:Sc)(inside:List Nat)(line:Nat):List Ex→Int→Gs→Gs
 | [],_,s=>s
 | a::es,d,s=>fo C rep x inside line es (d+1) (iE C rep x inside line a d s)
end
def dB (C:Cx)(x:Sc):Int:=if x.outer=true then(x.locals.length:Int) - C.args else x.first+x.locals.length
def argsN (p:List TLine)(g:Nat):Nat:=match p[g]? with|some l=>l.faj.length|none=>0
def cu (C:Cx)(x:Sc)(line g:Nat):Sc:=⟨g,x.chain++[(line:Int)],localsOf C.p (g:Int),dB C x,false⟩
def mz (C:Cx)(x:Sc)(line g:Nat)(d:Int)(s:Gs):Gs:=
 gK C (cu C x line g) x.chain line (d - argsN C.p g) ((localsOf C.p (g:Int)).length - argsN C.p g) (argsN C.p g)
  (eX C (cu C x line g) x.chain line (argsN C.p g) d ⟨s.items,max s.most (dB C x+(localsOf C.p (g:Int)).length),s.start⟩)
def fR (C:Cx)(x:Sc)(line:Nat)(d:Int)(s:Gs):Gs:=if s.start=true then aJ C s d 15 0 line x.chain else s
def ss (C:Cx)(lines:Sc→List Nat→Int→Gs→Gs×List Int)(x:Sc)(inside:List Nat)(line g:Nat)(d:Int)(s:Gs):Gs:=
 let r:=lines (cu C x line g) (inside++[g]) (d - argsN C.p g) (fR C x line (d - argsN C.p g) (mz C x line g d s))
 ⟨di r.1.items r.1.items.length r.2,r.1.most,r.1.start⟩
def AB (p:List TLine)(k:Nat):Nat→Option Nat
 | 0=>none
 | n+1=>if endAt p n=some k∨elseAt p n=some k then some n else AB p k n
def aW (p:List TLine)(k:Nat):Nat:=(AB p k p.length).getD 0
def fA (p:List TLine)(k:Nat):Int:=match p[k]? with|some x=>x.faa|none=> -1
structure Ls where
 g:Gs
 heads:List Int
 pos:List Int
 lv:List Int
def exL (l:List TTok):Ex:=if h:bq l=true then Classical.choose (gW h)else .node ⟨0,0,[]⟩ []
theorem wD {l:List TTok}(h:bq l=true):(exL l).ok∧l=(exL l).toks:=by
 rw[exL,dif_pos h]
 exact Classical.choose_spec (gW h)
def atL (l:List Int)(k:Nat):Int:=l[k]?.getD 0
def bM (C:Cx)(x:Sc)(k:Nat)(last:Bool)(d:Int)(L:Ls):Ls:=
 if x.outer=true then(if C.framed=true then{L with g:=aJ C L.g d 14 C.args k x.chain} else{L with g:=aJ C L.g d 16 (C.args+16 * C.words) k x.chain})
 else if last=true then L
 else{L with g:=aJ C L.g d 10 0 k x.chain,lv:=L.lv++[(L.g.items.length:Int)]}
def eB (C:Cx)(rep:Sc→List Nat→Nat→Nat→Int→Gs→Gs)(x:Sc)(inside:List Nat)(base:Int)(k:Nat)(ln:TLine)(L:Ls):Ls:=
 if ln.faa=4 then
  let g:=aJ C L.g base 10 0 k x.chain
  {L with g:=⟨cD g.items (atL L.pos (aW C.p k)) g.items.length,g.most,g.start⟩,pos:=L.pos.set k L.g.items.length}
 else if ln.faa=7 then
  if aW C.p k=x.f then bM C x k true (base+1) {L with g:=aJ C L.g base 0 0 k x.chain}
  else if fA C.p (aW C.p k)=5 then{L with g:=aJ C L.g base 10 (atL L.heads (aW C.p k)) k x.chain}
  else L
 else
  let L1:Ls:={L with g:=iE C rep x inside k (exL ln.fag) base ⟨L.g.items,L.g.most,true⟩,heads:=L.heads.set k L.g.items.length}
  if ln.faa=1 then{L1 with g:=gx C x L1.g (base+1) (fF x.locals ln.fac) k x.chain}
  else if ln.faa=2 then{L1 with g:=aJ C L1.g (base+1) 17 0 k x.chain}
  else if ln.faa=6 then bM C x k false (base+1) L1
  else{L1 with g:=aJ C L1.g (base+1) 11 0 k x.chain,pos:=L1.pos.set k L1.g.items.length}
def kg (p:List TLine)(k:Nat):Nat:=match elseAt p (aW p k)with|some j=>j|none=>aW p k
def co (C:Cx)(x:Sc)(k:Nat)(ln:TLine)(L:Ls):Ls:=
 if ln.faa=7∧aW C.p k≠x.f then{L with g:=⟨cD L.g.items (atL L.pos (kg C.p k)) L.g.items.length,L.g.most,L.g.start⟩} else L
def mT (C:Cx)(rep:Sc→List Nat→Nat→Nat→Int→Gs→Gs)(x:Sc)(inside:List Nat)(base:Int):Nat→Nat→Ls→Ls
 | 0,_,L=>L
 | n+1,k,L=>match C.p[k]? with
  | some ln=>mT C rep x inside base n (k+1) (co C x k ln (eB C rep x inside base k ln L))
  | none=>L
def dN (C:Cx)(s:Gs):Ls:=⟨s,List.replicate C.p.length 0,List.replicate C.p.length 0,[]⟩
def oF (p:List TLine)(f:Nat):Nat:=(endAt p f).getD 0
def bF (C:Cx)(rep:Sc→List Nat→Nat→Nat→Int→Gs→Gs)(x:Sc)(inside:List Nat)(base:Int)(s:Gs):Gs×List Int:=
 let L:=mT C rep x inside base (oF C.p x.f - x.f) (x.f+1) (dN C s)
 (L.g,L.lv)
def cG (C:Cx):Nat→Sc→List Nat→Nat→Nat→Int→Gs→Gs
 | 0=>fun _ _ _ _ _ s=>s
 | n+1=>ss C (bF C (cG C n))
def gp (C:Cx)(f:Nat):Gs:=aJ C ⟨[],(localsOf C.p (f:Int)).length - C.args,false⟩ 0 (if C.framed=true then 13 else 15) C.words f []
def bU (C:Cx)(f:Nat):Sc:=⟨f,[],localsOf C.p (f:Int),0,true⟩
def dZ (C:Cx)(f:Nat):Gs:=(bF C (cG C C.b.far.toNat) (bU C f) [f] C.words (gp C f)).1
end
end Go.Proofs.YtjmplnfiabmalaaGreat
namespace Go.Proofs.YtjmplnfiabmalaaGreat
open Go.Sim
set_option maxRecDepth 100000
set_option maxHeartbeats 4000000
theorem bg {α:Type}{l:List α}{k:Nat}{x:α}(h:l[k]?=some x):k < l.length:=by
 rcases Nat.lt_or_ge k l.length with h'|h'
 ·exact h'
 ·rw[List.getElem?_eq_none h']at h;cases h
theorem vl {l:List TLine}{i j e:Nat}(hi:endAt l i=some e)(hj:endAt l j=some e):i=j:=by
 have key:∀{i j:Nat},endAt l i=some e→endAt l j=some e→i < j→False:=by
  intro i j hi hj hlt
  obtain⟨x,hx,ho,_,h1,_⟩:=aP hj
  obtain⟨m,hm,_,h2⟩:=oX hi hlt h1 hx ho
  rw[hj]at hm
  injection hm with hm
  omega
 rcases Nat.lt_trichotomy i j with h|h|h
 ·exact(key hi hj h).elim
 ·exact h
 ·exact(key hj hi h).elim
theorem ml {l:List TLine}{e:Nat}:∀{n i j:Nat},elseN l e n i=some j→∀k x m,i≤k→k < j→l[k]?=some x→(x.faa=3∨x.faa=5)→endAt l k=some m→m < j
 | 0,_,_,h=>by rw[elseN]at h;cases h
 | n+1,i,j,h=>by
  intro k x m h1 h2 hx h3 hm
  rw[elseN]at h
  split at h
  ·split at h
   ·rename_i y hy
    split at h
    ·injection h with h;omega
    ·split at h
     ·split at h
      ·rename_i m' hm'
       have hin:=lN h
       obtain⟨_,_,_,_,g1,_⟩:=aP hm'
       by_cases hk:k=i
       ·subst hk
        rw[hm']at hm
        injection hm with hm
        omega
       ·by_cases hk2:k≤m'
        ·by_cases hk3:k=m'
         ·subst hk3
          obtain⟨z,hz,h7⟩:=bP hm'
          rw[hx]at hz
          injection hz with hz
          subst hz
          omega
         ·obtain⟨m2,hm2,_,g2⟩:=oX hm' (by omega) (by omega) hx (by rw[opensK_iff];omega)
          rw[hm]at hm2
          injection hm2 with hm2
          omega
        ·exact ml h k x m (by omega) h2 hx h3 hm
      ·rename_i hno
       by_cases hk:k=i
       ·subst hk
        rw[hno]at hm
        cases hm
       ·exact ml h k x m (by omega) h2 hx h3 hm
     ·by_cases hk:k=i
      ·subst hk
       rw[hx]at hy
       injection hy with hy
       subst hy
       rename_i hne
       exact absurd h3 hne
      ·exact ml h k x m (by omega) h2 hx h3 hm
   ·cases h
  ·cases h
theorem nH {l:List TLine}{i j k:Nat}(hi:elseAt l i=some k)(hj:elseAt l j=some k):i=j:=by
 have key:∀{i j:Nat},elseAt l i=some k→elseAt l j=some k→i < j→False:=by
  intro i j hi hj hlt
  obtain⟨y,ej,hy,h3,hej,h4,h5,_⟩:=bZ hj
  unfold elseAt at hi
  split at hi
  ·split at hi
   ·have:=ml hi j y ej (by omega) h4 hy (.inl h3) hej
    omega
   ·cases hi
  ·cases hi
 rcases Nat.lt_trichotomy i j with h|h|h
 ·exact(key hi hj h).elim
 ·exact h
 ·exact(key hj hi h).elim
theorem pR {p:List TLine}{k i:Nat}:∀{n:Nat},AB p k n=some i→i < n∧(endAt p i=some k∨elseAt p i=some k)
 | 0,h=>by rw[AB]at h;cases h
 | n+1,h=>by
  rw[AB]at h
  split at h
  ·injection h with h;subst h;exact⟨by omega,by assumption⟩
  ·have:=pR h;exact⟨by omega,this.2⟩
theorem tv {p:List TLine}{k i:Nat}(hi:endAt p i=some k∨elseAt p i=some k):∀{n:Nat},i < n→∃j,AB p k n=some j
 | 0,h=>by omega
 | n+1,h=>by
  rw[AB]
  split
  ·exact⟨_,rfl⟩
  ·by_cases he:i=n
   ·subst he;exact absurd hi (by assumption)
   ·exact tv hi (by omega)
theorem kn {p:List TLine}{k i:Nat}(h:endAt p i=some k):aW p k=i:=by
 obtain⟨x,hx,_,_,_,_⟩:=aP h
 obtain⟨j,hj⟩:=tv (.inl h) (bg hx)
 rw[aW,hj]
 obtain⟨_,h1|h1⟩:=pR hj
 ·exact vl h1 h
 ·obtain⟨_,_,_,_,_,_,_,y,hy,h4⟩:=bZ h1
  obtain⟨z,hz,h7⟩:=bP h
  rw[hy]at hz
  injection hz with hz
  subst hz
  omega
theorem xZ {p:List TLine}{k i:Nat}(h:elseAt p i=some k):aW p k=i:=by
 obtain⟨x,e,hx,_,_,_,_,y,hy,h4⟩:=bZ h
 obtain⟨j,hj⟩:=tv (.inr h) (bg hx)
 rw[aW,hj]
 obtain⟨_,h1|h1⟩:=pR hj
 ·obtain⟨z,hz,h7⟩:=bP h1
  rw[hy]at hz
  injection hz with hz
  subst hz
  omega
 ·exact nH h1 h
theorem ko {l:List TLine}{i:Nat}{x:TLine}(hx:l[i]?=some x)(h7:x.faa=7):∀(n s o e:Nat),i - s≤n→s≤i→1≤o→endN (l.drop s) s o=some e→i≤e→(∃k,s≤k∧k < i∧endAt l k=some i)∨∃j,1≤j∧j≤o∧endN (l.drop s) s j=some i
 | n,s,o,e,hn,hs,ho,h,hi=>by
  have hno:¬cQ x.faa=true:=by rw[opensK_iff];omega
  by_cases he:s=i
  ·subst he
   exact .inr ⟨1,Nat.le_refl _,ho,by rw[cN hx,if_neg hno,if_pos h7,if_pos rfl]⟩
  obtain⟨m,rfl⟩:∃m,n=m+1:=⟨n - 1,by omega⟩
  have hl:=gY h
  obtain⟨y,hy⟩:=ag (l:=l) (k:=s) (by omega)
  rw[cN hy]at h
  by_cases hop:cQ y.faa=true
  ·rw[if_pos hop]at h
   rcases ko hx h7 m (s+1) (o+1) e (by omega) (by omega) (by omega) h hi with⟨k,h1,h2,h3⟩|⟨j,h1,h2,h3⟩
   ·exact .inl ⟨k,by omega,h2,h3⟩
   ·by_cases hj:j=1
    ·subst hj
     exact .inl ⟨s,Nat.le_refl _,by omega,by rw[oH hy hop];exact h3⟩
    ·exact .inr ⟨j - 1,by omega,by omega,by rw[cN hy,if_pos hop,show j - 1+1=j by omega];exact h3⟩
  ·rw[if_neg hop]at h
   by_cases h7y:y.faa=7
   ·rw[if_pos h7y]at h
    by_cases h1o:o=1
    ·rw[if_pos h1o]at h
     injection h with h
     omega
    ·rw[if_neg h1o]at h
     rcases ko hx h7 m (s+1) (o - 1) e (by omega) (by omega) (by omega) h hi with⟨k,h1,h2,h3⟩|⟨j,h1,h2,h3⟩
     ·exact .inl ⟨k,by omega,h2,h3⟩
     ·exact .inr ⟨j+1,by omega,by omega,by rw[cN hy,if_neg hop,if_pos h7y,if_neg (by omega),show j+1 - 1=j by omega];exact h3⟩
   ·rw[if_neg h7y]at h
    rcases ko hx h7 m (s+1) o e (by omega) (by omega) ho h hi with⟨k,h1,h2,h3⟩|⟨j,h1,h2,h3⟩
    ·exact .inl ⟨k,by omega,h2,h3⟩
    ·exact .inr ⟨j,h1,h2,by rw[cN hy,if_neg hop,if_neg h7y];exact h3⟩
structure CxOk (C:Cx):Prop where
 len:C.p.length≤60
 small:aA 1048576 (.lst 4 (C.p.map TLine.tr))
 line:∀(k:Nat) (ln:TLine),C.p[k]?=some ln→0≤ln.faa∧ln.faa≤7∧ln.faj.length≤4∧ln.fag.length≤20∧((ln.faa=1∨ln.faa=2∨ln.faa=3∨ln.faa=5∨ln.faa=6)→bq ln.fag=true)
 fn:∀(g:Nat) (ln:TLine),C.p[g]?=some ln→ln.faa=0→∃e,endAt C.p g=some e∧(localsOf C.p (g:Int)).length≤8∧ln.faj.length≤(localsOf C.p (g:Int)).length∧∀(k:Nat) (y:TLine),g < k→k < e→C.p[k]?=some y→y.faa≠0∧(∀t∈y.fag,t.faa=7→∃f,findN C.p 0 t.fac=some f∧(argsN C.p f:Int)=t.fas)∧(y.faa=4→∃i,g≤i∧i < k∧elseAt C.p i=some k)
 args:0≤C.args∧C.args≤4
 words:0≤C.words∧C.words≤1000
 inl:0≤C.b.far∧C.b.far≤3
structure ScOk (C:Cx) (x:Sc) (ins:List Nat):Prop where
 fn:∃ln,C.p[x.f]?=some ln∧ln.faa=0
 loc:x.locals=localsOf C.p (x.f:Int)
 first:0≤x.first∧x.first≤8 * ins.length
 chain:x.chain.length+1=ins.length
 out:x.outer=true↔x.chain=[]
 args:x.outer=true→C.args=argsN C.p x.f
 mem:ins.getLast?=some x.f
section
variable {C:Cx} {x:Sc} {ins:List Nat}
theorem CxOk.argsN (h:CxOk C)(g:Nat):argsN C.p g≤4:=by
 unfold Go.Proofs.YtjmplnfiabmalaaGreat.argsN
 split
 ·rename_i l hl
  have:=h.line _ _ hl
  omega
 ·omega
theorem ScOk.endE (hC:CxOk C)(hx:ScOk C x ins):∃e,endAt C.p x.f=some e∧x.f < e∧e < C.p.length∧oF C.p x.f=e∧x.locals.length≤8:=by
 obtain⟨ln,h1,h2⟩:=hx.fn
 obtain⟨e,h3,h4,h5,_⟩:=hC.fn _ _ h1 h2
 obtain⟨_,_,_,_,h6,h7⟩:=aP h3
 exact⟨e,h3,h6,h7,by rw[oF,h3];rfl,by rw[hx.loc];exact h4⟩
theorem ScOk.argLe (hC:CxOk C)(hx:ScOk C x ins):argsN C.p x.f≤x.locals.length:=by
 obtain⟨ln,h1,h2⟩:=hx.fn
 obtain⟨e,h3,h4,h5,_⟩:=hC.fn _ _ h1 h2
 rw[hx.loc,Go.Proofs.YtjmplnfiabmalaaGreat.argsN,h1]
 exact h5
theorem ScOk.own7 (hC:CxOk C)(hx:ScOk C x ins){e k:Nat}{ln:TLine}(he:endAt C.p x.f=some e)(h1:x.f < k)(h2:k≤e)(hk:C.p[k]?=some ln)(h7:ln.faa=7):
  endAt C.p (aW C.p k)=some k∧((k=e∧aW C.p k=x.f)∨(k < e∧x.f < aW C.p k∧aW C.p k < k∧∃y,C.p[aW C.p k]?=some y∧(y.faa=3∨y.faa=5))):=by
 obtain⟨l0,g1,g2⟩:=hx.fn
 obtain⟨e',g3,_,_,g4⟩:=hC.fn _ _ g1 g2
 rw[he]at g3
 injection g3 with g3
 subst g3
 by_cases hke:k=e
 ·subst hke
  rw[kn he]
  exact⟨he,.inl ⟨rfl,rfl⟩⟩
 ·obtain⟨z,hz,hzo,hzn,_,_⟩:=aP he
  rcases ko hk h7 _ (x.f+1) 1 e (Nat.le_refl _) (by omega) (Nat.le_refl _) hzn h2 with⟨i,k1,k2,k3⟩|⟨j,k1,k2,k3⟩
  ·rw[kn k3]
   obtain⟨y,hy,hyo,_⟩:=aP k3
   have:=(g4 i y (by omega) (by omega) hy).1
   rw[opensK_iff]at hyo
   exact⟨k3,.inr ⟨by omega,by omega,k2,y,hy,by omega⟩⟩
  ·have:j=1:=by omega
   subst this
   rw[hzn]at k3
   injection k3 with k3
   omega
theorem ScOk.own4 (hC:CxOk C)(hx:ScOk C x ins){e k:Nat}{ln:TLine}(he:endAt C.p x.f=some e)(h1:x.f < k)(h2:k≤e)(hk:C.p[k]?=some ln)(h4:ln.faa=4):
  elseAt C.p (aW C.p k)=some k∧x.f < aW C.p k∧aW C.p k < k∧k < e:=by
 obtain⟨l0,g1,g2⟩:=hx.fn
 obtain⟨e',g3,_,_,g4⟩:=hC.fn _ _ g1 g2
 rw[he]at g3
 injection g3 with g3
 subst g3
 have hke:k≠e:=fun h=>by
  subst h
  obtain⟨y,hy,h7⟩:=bP he
  rw[hk]at hy
  injection hy with hy
  subst hy
  omega
 obtain⟨i,k1,k2,k3⟩:=(g4 k ln h1 (by omega) hk).2.2 h4
 rw[xZ k3]
 obtain⟨y,_,hy,h3,_⟩:=bZ k3
 have:i≠x.f:=fun h=>by
  subst h
  rw[g1]at hy
  injection hy with hy
  subst hy
  omega
 exact⟨k3,by omega,k2,by omega⟩
end
abbrev tvP (l:List TLine):TV:=tvL 4 (l.map TLine.tr)
abbrev vP (l:List TLine):AV:= .r (.c (.t (.lst 4 (l.map TLine.tr))))
theorem kO (k:Int):Sim.Spec Tryz.prog 176 [tvI k] (rB (cQ k)):=by
 refine ao hΓ ay Tryz.func176 rfl (by decide) rfl ?_
 unfold cQ
 repeat' ((conv=>whnf);first|refine Or.inl ?_|apply oi|(apply fi<;>intro h)|refine⟨_,rfl,?_⟩|exact rfl)
 all_goals try exact⟨KO⟩
 all_goals(refine⟨congrArg Tr.bool ?_⟩;simp_all;(try(rw[Bool.eq_iff_iff];simp;omega)))
abbrev GZ (l:List TLine)(k:Nat)(R:Int):={q:Nat×Nat // q.1≤l.length∧q.2≤q.1∧(q.2=0→q.1=k)∧cZ (endN (l.drop q.1) q.1 q.2)=R}
theorem Ad {l:List TLine}{k:Nat}{x:TLine}(hx:l[k]?=some x)(ho:cQ x.faa=true):endN (l.drop k) k 0=endAt l k:=by
 rw[cN hx,if_pos ho,oH hx ho]
theorem cq (l:List TLine)(k:Int)(hl:l.length≤1048576):Sim.Spec Tryz.prog 120 [tvP l,tvI k] (rI (bR l k)):=by
 refine ao hΓ ay Tryz.func120 rfl (by decide) rfl ?_
 have hlen:(l.map TLine.tr).length=l.length:=by simp
 by_cases hin:0≤k∧k < l.length
 ·obtain⟨h0,h1⟩:=hin
  obtain⟨k,rfl⟩:=Int.eq_ofNat_of_zero_le h0
  obtain⟨x,hx⟩:=ag (l:=l) (k:=k) (by omega)
  have hO:=kO x.faa
  skip
  cases ho:cQ x.faa with
  | false=>
   rw[ho]at hO
   have:bR l (k:Int)= -1:=by rw[cn,endAt,hx];dsimp only;rw[if_neg (by simp[ho])];rfl
   rw[this]
   repeat' ((conv=>whnf);first|refine Or.inl ?_|apply oi|(apply fi<;>intro h)|refine⟨k,x.tr,rfl,ab hx,?_⟩|refine ci hO (ai rfl trivial) ?_|refine⟨_,rfl,?_⟩|exact rfl)
   all_goals try exact⟨KO⟩
   all_goals try exact KX
  | true=>
   rw[ho]at hO
   obtain⟨R,hR⟩:∃R,bR l (k:Int)=R:=⟨_,rfl⟩
   rw[hR]
   rw[cn,←Ad hx ho]at hR
   repeat' ((conv=>whnf);first|refine Or.inl ?_|apply oi|(apply fi<;>intro h)|refine⟨k,x.tr,rfl,ab hx,?_⟩|refine ci hO (ai rfl trivial) ?_|refine⟨_,rfl,?_⟩|exact rfl)
   all_goals try exact⟨KO⟩
   all_goals try exact KX
   conv=>whnf
   refine⟨GZ l k R,fun q=>⟨[(0,vP l),(5,tI .i64 (q.1.2:Int)),(6,tI .i64 (q.1.1:Int))],[],[]⟩,fun q=>l.length - q.1.1,⟨(k,0),by dsimp only;omega,by omega,fun _=>rfl,hR⟩,?_,?_⟩
   ·skip
    repeat' ((conv=>whnf);first|refine Or.inl ?_|apply oi|(apply fi<;>intro h)|refine⟨_,rfl,?_⟩|exact rfl)
    all_goals try exact⟨KO⟩
   intro⟨⟨i,o⟩,hi,hoi,hs,hr⟩
   dsimp only at hi hoi hs hr ⊢
   by_cases hlt:i < l.length
   ·obtain⟨y,hy⟩:=ag hlt
    have hO2:=kO y.faa
    rw[cN hy]at hr
    cases hoy:cQ y.faa with
    | true=>
     rw[hoy]at hO2
     rw[if_pos hoy]at hr
     have h7:y.faa≠7:=by rw[opensK_iff]at hoy;omega
     repeat' ((conv=>whnf);first|refine Or.inl ?_|apply oi|(apply fi<;>intro h)|refine⟨i,y.tr,rfl,ab hy,?_⟩|refine ci hO2 (ai rfl trivial) ?_|refine⟨_,rfl,?_⟩|exact rfl)
     all_goals try exact⟨KO⟩
     all_goals try exact KX
     all_goals try(exfalso;(try simp_all[ah]);(try omega);done)
     all_goals try exact K3
     conv=>whnf
     refine⟨⟨(i+1,o+1),by dsimp only;omega,by dsimp only;omega,fun h=>by omega,hr⟩,?_,KD⟩
     repeat' ((conv=>whnf);first|refine Or.inl ?_|apply oi|(apply fi<;>intro h)|refine⟨_,rfl,?_⟩|exact rfl)
     all_goals try exact⟨KO⟩
     all_goals try exact⟨K2⟩
     all_goals exact⟨by dsimp only;rw[IntWalk.i64_in _ (by omega)];rfl⟩
    | false=>
     rw[hoy]at hO2
     rw[if_neg (by simp[hoy])]at hr
     have hne:o≠0:=fun h=>by
      have:=hs h
      subst this
      rw[hx]at hy
      injection hy with hy
      subst hy
      rw[ho]at hoy
      cases hoy
     by_cases h7:y.faa=7
     ·rw[if_pos h7]at hr
      by_cases h1:o=1
      ·rw[if_pos h1]at hr
       subst hr
       subst h1
       repeat' ((conv=>whnf);first|refine Or.inl ?_|apply oi|(apply fi<;>intro h)|refine⟨i,y.tr,rfl,ab hy,?_⟩|refine ci hO2 (ai rfl trivial) ?_|refine⟨_,rfl,?_⟩|exact rfl)
       all_goals try exact⟨KO⟩
       all_goals try exact KX
       all_goals try(exfalso;(try simp_all[ah]);(try omega);done)
      ·rw[if_neg h1]at hr
       repeat' ((conv=>whnf);first|refine Or.inl ?_|apply oi|(apply fi<;>intro h)|refine⟨i,y.tr,rfl,ab hy,?_⟩|refine ci hO2 (ai rfl trivial) ?_|refine⟨_,rfl,?_⟩|exact rfl)
       all_goals try exact⟨KO⟩
       all_goals try exact KX
       all_goals try(exfalso;(try simp_all[ah]);(try omega);done)
       all_goals try exact K3
       conv=>whnf
       refine⟨⟨(i+1,o - 1),by dsimp only;omega,by dsimp only;omega,fun h=>by omega,hr⟩,?_,KD⟩
       repeat' ((conv=>whnf);first|refine Or.inl ?_|apply oi|(apply fi<;>intro h)|refine⟨_,rfl,?_⟩|exact rfl)
       all_goals try exact⟨KO⟩
       all_goals try exact⟨K2⟩
       all_goals exact⟨by dsimp only;congr 1;rw[IntWalk.i64_in _ (by omega)];omega⟩
     ·rw[if_neg h7]at hr
      repeat' ((conv=>whnf);first|refine Or.inl ?_|apply oi|(apply fi<;>intro h)|refine⟨i,y.tr,rfl,ab hy,?_⟩|refine ci hO2 (ai rfl trivial) ?_|refine⟨_,rfl,?_⟩|exact rfl)
      all_goals try exact⟨KO⟩
      all_goals try exact KX
      all_goals try(exfalso;(try simp_all[ah]);(try omega);done)
      all_goals try exact K4
      conv=>whnf
      refine⟨⟨(i+1,o),by dsimp only;omega,by dsimp only;omega,fun h=>by omega,hr⟩,?_,KD⟩
      repeat' ((conv=>whnf);first|refine Or.inl ?_|apply oi|(apply fi<;>intro h)|refine⟨_,rfl,?_⟩|exact rfl)
      all_goals try exact⟨KO⟩
      all_goals try exact⟨K2⟩
   ·rw[kA (by omega)]at hr
    subst hr
    repeat' ((conv=>whnf);first|refine Or.inl ?_|apply oi|(apply fi<;>intro h)|refine⟨_,rfl,?_⟩|exact rfl)
    all_goals try exact⟨KO⟩
    all_goals try exact KX
 ·have:bR l k= -1:=by
   rw[bR]
   split
   ·rw[endAt,List.getElem?_eq_none (by omega)];rfl
   ·rfl
  rw[this]
  repeat' ((conv=>whnf);first|refine Or.inl ?_|apply oi|(apply fi<;>intro h)|refine⟨_,rfl,?_⟩|exact rfl)
  all_goals try exact⟨KO⟩
  all_goals try exact KX
end Go.Proofs.YtjmplnfiabmalaaGreat
namespace Go.Proofs.YtjmplnfiabmalaaGreat
open Go.Sim
set_option maxRecDepth 100000
theorem gC (a:List (List Tr)):(aE a).length=a.length:=by simp[aE]
theorem gZ {l:List (List Tr)}{k:Nat}{r:List Tr}(h:l[k]?=some r):(aE l)[k]?=some (r.map .d):=by simp[aE,h]
theorem pi (l:List (List Tr))(k:Nat)(r:List Tr):(aE l).set k (r.map .d)=aE (l.set k r):=by simp[aE,List.map_set]
theorem af {A:Prop}{Q:(ι:Type)→(ι→St)→Prop}(h:A):A∨∃(ι:Type) (S:ι→St),Q ι S:=Or.inl h
theorem pb {α:Type}{g:α→List Tr}(l:List α)(h:∀x,∀c∈g x,∀sz rs,c≠.lst sz rs):flat (l.map g):=by
 intro row hr c hc sz rs
 obtain⟨x,_,rfl⟩:=List.mem_map.1 hr
 exact h x c hc sz rs
theorem bc (l:List Int):flat (l.map aa):=pb _ (by intro x c hc sz rs e;subst e;simp[aa]at hc)
end Go.Proofs.YtjmplnfiabmalaaGreat
namespace Go.Proofs.YtjmplnfiabmalaaGreat
open Go.Sim
set_option maxRecDepth 100000
set_option maxHeartbeats 4000000
theorem jR (l:List (List UInt8)):flat (l.map ak):=pb _ (by intro x c hc sz rs e;subst e;simp[ak]at hc)
theorem Ar {l:List TLine}{k:Nat}{x:TLine}(hx:l[k]?=some x)(h:x.faa≠3∨endAt l k=none):elseAt l k=none:=by
 unfold elseAt
 rw[hx]
 cases he:endAt l k with
 | none=>rfl
 | some e=>
  dsimp only
  rw[if_neg]
  rcases h with h|h
  ·exact h
  ·rw[he]at h;cases h
theorem jt (l:List TLine)(k:Int)(hl:l.length≤1048576):Sim.Spec Tryz.prog 178 [tvP l,tvI k] (rI (bY l k)):=by
 refine ao hΓ ay Tryz.func178 rfl (by decide) rfl ?_
 have hlen:(l.map TLine.tr).length=l.length:=by simp
 have hE:=cq l k hl
 cases he:endAt l k.toNat with
 | none=>
  have h1:bR l k= -1:=by rw[bR,he];split <;> rfl
  have h2:bY l k= -1:=by
   rw[bY]
   split
   ·unfold elseAt;rw[he];cases l[k.toNat]? <;> rfl
   ·rfl
  rw[h1]at hE
  rw[h2]
  repeat' ((conv=>whnf);first|refine Or.inl ?_|apply oi|(apply fi<;>intro h)|refine ci hE (ai rfl (ai rfl trivial)) ?_|refine⟨_,rfl,?_⟩|exact rfl)
  all_goals try exact⟨KO⟩
  all_goals try exact KX
 | some e=>
  obtain⟨x,hx,ho,_,hke,hel⟩:=aP he
  by_cases h0:0≤k
  ·obtain⟨k,rfl⟩:=Int.eq_ofNat_of_zero_le h0
   rw[Int.toNat_natCast]at he hx hke
   rw[cn,ca he]at hE
   by_cases h3:x.faa=3
   ·obtain⟨R,hR⟩:∃R,bY l (k:Int)=R:=⟨_,rfl⟩
    rw[hR]
    have hR:cZ (elseN l e (e - (k+1)) (k+1))=R:=by
     rw[bY,if_pos h0,Int.toNat_natCast,elseAt,hx,he]at hR
     dsimp only at hR
     rw[if_pos h3]at hR
     exact hR
    repeat' ((conv=>whnf);first|refine Or.inl ?_|apply oi|(apply fi<;>intro h)|refine ci hE (ai rfl (ai rfl trivial)) ?_|refine⟨k,x.tr,rfl,ab hx,?_⟩|refine⟨_,rfl,?_⟩|exact rfl)
    all_goals try exact⟨KO⟩
    all_goals try exact KX
    all_goals try(exfalso;(try simp_all[ah]);(try omega);done)
    conv=>whnf
    refine⟨{i:Nat // k < i∧i≤e∧cZ (elseN l e (e - i) i)=R},fun q=>⟨[(0,vP l),(5,tI .i64 (e:Int)),(6,tI .i64 (q.1:Int))],[],[]⟩,fun q=>e - q.1,⟨k+1,by omega,by omega,hR⟩,?_,?_⟩
    ·skip
     repeat' ((conv=>whnf);first|refine Or.inl ?_|apply oi|(apply fi<;>intro h)|refine⟨_,rfl,?_⟩|exact rfl)
     all_goals try exact⟨KO⟩
     all_goals exact⟨by dsimp only;rw[IntWalk.i64_in _ (by omega)];rfl⟩
    intro⟨i,hki,hi,hr⟩
    dsimp only at hki hi hr ⊢
    by_cases hlt:i < e
    ·obtain⟨y,hy⟩:=ag (l:=l) (k:=i) (by omega)
     rw[AL hlt hy]at hr
     have hE2:=cq l (i:Int) hl
     by_cases h4:y.faa=4
     ·rw[if_pos h4]at hr
      subst hr
      repeat' ((conv=>whnf);first|refine Or.inl ?_|apply oi|(apply fi<;>intro h)|refine ci hE2 (ai rfl (ai rfl trivial)) ?_|refine⟨i,y.tr,rfl,ab hy,?_⟩|refine⟨_,rfl,?_⟩|exact rfl)
      all_goals try exact⟨KO⟩
      all_goals try exact KX
      all_goals try(exfalso;(try simp_all[ah]);(try omega);done)
     ·rw[if_neg h4]at hr
      by_cases h5:y.faa=3∨y.faa=5
      ·rw[if_pos h5]at hr
       obtain⟨m,hm,hm1,hm2⟩:=oX he (i:=i) hki hlt hy (opensK_iff.2 (by omega))
       rw[hm]at hr
       dsimp only at hr
       rw[cn,ca hm]at hE2
       repeat' ((conv=>whnf);first|refine Or.inl ?_|apply oi|(apply fi<;>intro h)|refine ci hE2 (ai rfl (ai rfl trivial)) ?_|refine⟨i,y.tr,rfl,ab hy,?_⟩|refine⟨_,rfl,?_⟩|exact rfl)
       all_goals try exact⟨KO⟩
       all_goals try exact KX
       all_goals try(exfalso;(try simp_all[ah]);(try omega);done)
       all_goals
        conv=>whnf
        refine⟨⟨m+1,by omega,by omega,hr⟩,?_,KD⟩
        repeat' ((conv=>whnf);first|refine Or.inl ?_|apply oi|(apply fi<;>intro h)|refine⟨_,rfl,?_⟩|exact rfl)
        all_goals try exact⟨KO⟩
        all_goals try exact⟨K2⟩
        all_goals exact⟨by dsimp only;rw[IntWalk.i64_in _ (by omega)];rfl⟩
      ·rw[if_neg h5]at hr
       repeat' ((conv=>whnf);first|refine Or.inl ?_|apply oi|(apply fi<;>intro h)|refine ci hE2 (ai rfl (ai rfl trivial)) ?_|refine⟨i,y.tr,rfl,ab hy,?_⟩|refine⟨_,rfl,?_⟩|exact rfl)
       all_goals try exact⟨KO⟩
       all_goals try exact KX
       all_goals try(exfalso;(try simp_all[ah]);(try omega);done)
       all_goals try(exfalso;simp_all;done)
       conv=>whnf
       refine⟨⟨i+1,by omega,by omega,hr⟩,?_,KD⟩
       repeat' ((conv=>whnf);first|refine Or.inl ?_|apply oi|(apply fi<;>intro h)|refine⟨_,rfl,?_⟩|exact rfl)
       all_goals try exact⟨KO⟩
       all_goals try exact⟨K2⟩
       all_goals exact⟨by dsimp only;rw[IntWalk.i64_in _ (by omega)];rfl⟩
    ·rw[Cv (by omega)]at hr
     subst hr
     repeat' ((conv=>whnf);first|refine Or.inl ?_|apply oi|(apply fi<;>intro h)|refine⟨_,rfl,?_⟩|exact rfl)
     all_goals try exact⟨KO⟩
     all_goals try exact KX
   ·have h2:bY l (k:Int)= -1:=by
     rw[bY,if_pos h0,Int.toNat_natCast,Ar hx (.inl h3)];rfl
    rw[h2]
    repeat' ((conv=>whnf);first|refine Or.inl ?_|apply oi|(apply fi<;>intro h)|refine ci hE (ai rfl (ai rfl trivial)) ?_|refine⟨k,x.tr,rfl,ab hx,?_⟩|refine⟨_,rfl,?_⟩|exact rfl)
    all_goals try exact⟨KO⟩
    all_goals try exact KX
    all_goals try(exfalso;(try simp_all[ah]);(try omega);done)
  ·have h1:bR l k= -1:=by rw[bR,if_neg h0]
   have h2:bY l k= -1:=by rw[bY,if_neg h0]
   rw[h1]at hE
   rw[h2]
   repeat' ((conv=>whnf);first|refine Or.inl ?_|apply oi|(apply fi<;>intro h)|refine ci hE (ai rfl (ai rfl trivial)) ?_|refine⟨_,rfl,?_⟩|exact rfl)
   all_goals try exact⟨KO⟩
   all_goals try exact KX
theorem bX (l:List TLine)(hl:l.length≤1048576):Sim.Spec Tryz.prog 33 [tvP l] (rL 1 ((aF l).map fun n:Nat=>aa n)):=by
 refine ao hΓ ay Tryz.func33 rfl (by decide) rfl ?_
 have hlen:(l.map TLine.tr).length=l.length:=by simp
 obtain⟨R,hR⟩:∃R,aF l=R:=⟨_,rfl⟩
 rw[hR]
 repeat' ((conv=>whnf);first|refine Or.inl ?_|apply oi|(apply fi<;>intro h)|refine⟨_,rfl,?_⟩|exact rfl)
 all_goals try exact⟨KO⟩
 conv=>whnf
 refine⟨{q:Nat×List Nat // q.1≤l.length∧q.2.length≤q.1∧q.2++funsF (l.drop q.1) q.1=R},fun q=>⟨[(0,vP l),(3,.r (.c (.own (5,0,0)))),(4,tI .i64 (q.1.1:Int))],[((5,0,0),some (.arr true 1 (q.1.2.map fun n:Nat=>aa n)))],[5]⟩,fun q=>l.length - q.1.1,⟨(0,[]),by simp,by simp,by simpa [aF]using hR⟩,?_,?_⟩
 ·skip
  repeat' ((conv=>whnf);first|refine Or.inl ?_|apply oi|(apply fi<;>intro h)|refine⟨_,rfl,?_⟩|exact rfl)
  all_goals try exact⟨KO⟩
 intro⟨⟨k,acc⟩,hk,hal,hr⟩
 dsimp only at hk hal hr ⊢
 have hacc:(acc.map fun n:Nat=>aa n).length=acc.length:=by simp
 by_cases hlt:k < l.length
 ·obtain⟨x,hx⟩:=ag hlt
  rw[yF hx]at hr
  by_cases h0:x.faa=0
  ·rw[if_pos h0]at hr
   repeat' ((conv=>whnf);first|refine Or.inl ?_|apply oi|(apply fi<;>intro h)|refine⟨k,x.tr,rfl,ab hx,?_⟩|refine⟨_,rfl,?_⟩|exact rfl)
   all_goals try exact⟨KO⟩
   all_goals try exact KX
   all_goals try(exfalso;(try simp_all[ah]);(try omega);done)
   all_goals try exact⟨⟨by simp;omega,by simp;omega⟩⟩
   conv=>whnf
   refine⟨⟨(k+1,acc++[k]),by dsimp only;omega,by simp;omega,by rw[←hr];simp⟩,?_,KD⟩
   repeat' ((conv=>whnf);first|refine Or.inl ?_|apply oi|(apply fi<;>intro h)|refine⟨_,rfl,?_⟩|exact rfl)
   all_goals try exact⟨KO⟩
   all_goals try exact⟨K2⟩
   all_goals exact⟨by simp[aa]⟩
  ·rw[if_neg h0,List.nil_append]at hr
   repeat' ((conv=>whnf);first|refine Or.inl ?_|apply oi|(apply fi<;>intro h)|refine⟨k,x.tr,rfl,ab hx,?_⟩|refine⟨_,rfl,?_⟩|exact rfl)
   all_goals try exact⟨KO⟩
   all_goals try exact KX
   all_goals try(exfalso;(try simp_all[ah]);(try omega);done)
   conv=>whnf
   refine⟨⟨(k+1,acc),by dsimp only;omega,by dsimp only;omega,hr⟩,?_,KD⟩
   repeat' ((conv=>whnf);first|refine Or.inl ?_|apply oi|(apply fi<;>intro h)|refine⟨_,rfl,?_⟩|exact rfl)
   all_goals try exact⟨KO⟩
   all_goals try exact⟨K2⟩
 ·rw[List.drop_eq_nil_of_le (by omega),funsF,List.append_nil]at hr
  subst hr
  repeat' ((conv=>whnf);first|refine Or.inl ?_|apply oi|(apply fi<;>intro h)|refine⟨_,rfl,?_⟩|exact rfl)
  all_goals try exact⟨KO⟩
  all_goals try exact KX
theorem cO (l:List TLine)(s:List UInt8)(hl:l.length≤1048576):Sim.Spec Tryz.prog 119 [tvP l,tvS s] (rI (kL l s)):=by
 refine ao hΓ ay Tryz.func119 rfl (by decide) rfl ?_
 have hlen:(l.map TLine.tr).length=l.length:=by simp
 obtain⟨R,hR⟩:∃R,kL l s=R:=⟨_,rfl⟩
 rw[hR]
 repeat' ((conv=>whnf);first|refine Or.inl ?_|apply oi|(apply fi<;>intro h)|refine⟨_,rfl,?_⟩|exact rfl)
 all_goals try exact⟨KO⟩
 conv=>whnf
 refine⟨{k:Nat // k≤l.length∧cZ (findN (l.drop k) k s)=R},fun q=>⟨[(0,vP l),(1,tS s),(5,tI .i64 (q.1:Int))],[],[]⟩,fun q=>l.length - q.1,⟨0,by omega,hR⟩,?_,?_⟩
 ·skip
  repeat' ((conv=>whnf);first|refine Or.inl ?_|apply oi|(apply fi<;>intro h)|refine⟨_,rfl,?_⟩|exact rfl)
  all_goals try exact⟨KO⟩
 intro⟨k,hk,hr⟩
 dsimp only at hk hr ⊢
 by_cases hlt:k < l.length
 ·obtain⟨x,hx⟩:=ag hlt
  rw[DU hx]at hr
  by_cases h0:x.faa=0∧x.fac=s
  ·rw[if_pos h0]at hr
   obtain⟨h1,h2⟩:=h0
   subst h2
   subst hr
   repeat' ((conv=>whnf);first|refine Or.inl ?_|apply oi|(apply fi<;>intro h)|refine⟨k,x.tr,rfl,ab hx,?_⟩|refine⟨_,rfl,?_⟩|exact rfl)
   all_goals try exact⟨KO⟩
   all_goals try exact KX
   all_goals try(exfalso;(try simp_all[ah]);(try omega);done)
  ·rw[if_neg h0]at hr
   repeat' ((conv=>whnf);first|refine Or.inl ?_|apply oi|(apply fi<;>intro h)|refine⟨k,x.tr,rfl,ab hx,?_⟩|refine⟨_,rfl,?_⟩|exact rfl)
   all_goals try exact⟨KO⟩
   all_goals try exact KX
   all_goals try(exfalso;apply h0;simp_all;done)
   all_goals
    conv=>whnf
    refine⟨⟨k+1,by omega,hr⟩,?_,KD⟩
    repeat' ((conv=>whnf);first|refine Or.inl ?_|apply oi|(apply fi<;>intro h)|refine⟨_,rfl,?_⟩|exact rfl)
    all_goals try exact⟨KO⟩
    all_goals try exact⟨K2⟩
 ·rw[List.drop_eq_nil_of_le (by omega),findN]at hr
  subst hr
  repeat' ((conv=>whnf);first|refine Or.inl ?_|apply oi|(apply fi<;>intro h)|refine⟨_,rfl,?_⟩|exact rfl)
  all_goals try exact⟨KO⟩
  all_goals try exact KX
abbrev rN (l:List (List UInt8)):Res:=rL 1 (l.map ak)
theorem yd {l:List TLine}{k e:Nat}{x:TLine}(hx:l[k]?=some x)(he:endAt l k=some e)(h0:x.faa=0):localsOf l (k:Int)=locN l e (e - k) k x.faj:=by
 rw[localsOf,if_pos (by omega),Int.toNat_natCast,hx,he]
 dsimp only
 rw[if_pos h0]
theorem nF {l:List TLine}{k:Int}(h:∀e x,endAt l k.toNat=some e→l[k.toNat]?=some x→0≤k→x.faa≠0):localsOf l k=[]:=by
 rw[localsOf]
 split
 ·split
  ·rename_i x e hx he
   rw[if_neg (h e x he hx (by assumption))]
  ·rfl
 ·rfl
theorem CZ {l:List TLine}{k:Int}(hl:l.length≤1048576)(hs:∀x∈l,aC 1048576 x.tr):(localsOf l k).length≤2097152∧True:=by
 refine⟨?_,trivial⟩
 rw[localsOf]
 split
 ·split
  ·rename_i x e hx he
   obtain⟨_,_,_,_,h1,h2⟩:=aP he
   have:=(eP (hs x (List.mem_of_getElem? hx))).2.1
   split
   ·have:=zs (l:=l) (e:=e) (e - k.toNat) k.toNat x.faj
    omega
   ·simp
  ·simp
 ·simp
theorem eH (l:List (List UInt8))(s:List UInt8)(hl:l.length≤2097152):Sim.Spec Tryz.prog 179 [tvL 1 (l.map ak),tvS s] (rI (fF l s)):=by
 refine ao hΓ ay Tryz.func179 rfl (by decide) rfl ?_
 have hlen:(l.map ak).length=l.length:=by simp
 obtain⟨R,hR⟩:∃R,fF l s=R:=⟨_,rfl⟩
 rw[hR]
 repeat' ((conv=>whnf);first|refine Or.inl ?_|apply oi|(apply fi<;>intro h)|refine⟨_,rfl,?_⟩|exact rfl)
 all_goals try exact⟨KO⟩
 conv=>whnf
 refine⟨{k:Nat // k≤l.length∧cZ (ox (l.drop k) k s)=R},fun k=>⟨[(0,.r (.c (.t (.lst 1 (l.map ak))))),(1,tS s),(5,tI .i64 (k.1:Int))],[],[]⟩,fun k=>l.length - k.1,⟨0,by omega,hR⟩,?_,?_⟩
 ·skip
  repeat' ((conv=>whnf);first|refine Or.inl ?_|apply oi|(apply fi<;>intro h)|refine⟨_,rfl,?_⟩|exact rfl)
  all_goals try exact⟨KO⟩
 intro⟨k,hk,hr⟩
 dsimp only at hk hr ⊢
 by_cases hlt:k < l.length
 ·obtain⟨x,hx⟩:=ag hlt
  rw[Fv hx]at hr
  cases he:(x==s)with
  | true=>
   rw[he,if_pos rfl]at hr
   have he2:=eq_of_beq he
   subst he2
   subst hr
   repeat' ((conv=>whnf);first|refine Or.inl ?_|apply oi|(apply fi<;>intro h)|refine⟨k,(ak x),rfl,ab hx,?_⟩|refine⟨_,rfl,?_⟩|exact rfl)
   all_goals try exact⟨KO⟩
   all_goals try exact KX
   all_goals try(exfalso;(try simp_all[ah]);(try omega);done)
  | false=>
   rw[he,if_neg (by simp)]at hr
   repeat' ((conv=>whnf);first|refine Or.inl ?_|apply oi|(apply fi<;>intro h)|refine⟨k,(ak x),rfl,ab hx,?_⟩|refine⟨_,rfl,?_⟩|exact rfl)
   all_goals try exact⟨KO⟩
   all_goals try exact KX
   all_goals try(exfalso;(try simp_all[ah]);(try omega);done)
   conv=>whnf
   refine⟨⟨k+1,by omega,hr⟩,?_,KD⟩
   repeat' ((conv=>whnf);first|refine Or.inl ?_|apply oi|(apply fi<;>intro h)|refine⟨_,rfl,?_⟩|exact rfl)
   all_goals try exact⟨KO⟩
   all_goals try exact⟨K2⟩
 ·rw[List.drop_eq_nil_of_le (by omega),ox]at hr
  subst hr
  repeat' ((conv=>whnf);first|refine Or.inl ?_|apply oi|(apply fi<;>intro h)|refine⟨_,rfl,?_⟩|exact rfl)
  all_goals try exact⟨KO⟩
  all_goals try exact KX
theorem gJ (l:List TLine)(k:Int)(hl:l.length≤1048576)(hs:∀x∈l,aC 1048576 x.tr):Sim.Spec Tryz.prog 177 [tvP l,tvI k] (rN (localsOf l k)):=by
 refine ao hΓ ay Tryz.func177 rfl (by decide) rfl ?_
 have hlen:(l.map TLine.tr).length=l.length:=by simp
 have hE:=cq l k hl
 by_cases h0:0≤k
 ·obtain⟨k,rfl⟩:=Int.eq_ofNat_of_zero_le h0
  rw[cn]at hE
  cases he:endAt l k with
  | none=>
   rw[px he]at hE
   rw[nF (fun e x h1 _ _=>by rw[Int.toNat_natCast,he]at h1;cases h1)]
   repeat' ((conv=>whnf);first|refine Or.inl ?_|apply oi|(apply fi<;>intro h)|refine ci hE (ai rfl (ai rfl trivial)) ?_|refine⟨_,rfl,?_⟩|exact rfl)
   all_goals try exact⟨KO⟩
   all_goals try exact KX
  | some e=>
   rw[ca he]at hE
   obtain⟨x,hx,ho,_,hke,hel⟩:=aP he
   by_cases hk0:x.faa=0
   ·have hsm:=eP (hs x (List.mem_of_getElem? hx))
    rw[yd hx he hk0]
    obtain⟨R,hR⟩:∃R,locN l e (e - k) k x.faj=R:=⟨_,rfl⟩
    rw[hR]
    have hal:(x.faj.map ak).length=x.faj.length:=by simp
    repeat' ((conv=>whnf);first|refine Or.inl ?_|apply oi|(apply fi<;>intro h)|refine ci hE (ai rfl (ai rfl trivial)) ?_|refine⟨k,x.tr,rfl,ab hx,?_⟩|refine⟨_,rfl,?_⟩|exact rfl)
    all_goals try exact⟨KO⟩
    all_goals try exact KX
    all_goals try(exfalso;(try simp_all[ah]);(try omega);done)
    all_goals try exact⟨⟨by simp;omega,by simp;omega⟩⟩
    conv=>whnf
    refine⟨{q:Nat×List (List UInt8) // k≤q.1∧q.1≤e∧q.2.length≤1048576+q.1∧locN l e (e - q.1) q.1 q.2=R},fun q=>⟨[(0,vP l),(5,tI .i64 (e:Int)),(6,.r (.c (.own (6,0,0)))),(7,tI .i64 (q.1.1:Int))],[((6,0,0),some (.arr false 1 (q.1.2.map ak)))],[6]⟩,fun q=>e - q.1.1,⟨(k,x.faj),by dsimp only;omega,by dsimp only;omega,by dsimp only;omega,hR⟩,?_,?_⟩
    ·skip
     repeat' ((conv=>whnf);first|refine Or.inl ?_|apply oi|(apply fi<;>intro h)|refine⟨_,rfl,?_⟩|exact rfl)
     all_goals try exact⟨KO⟩
     all_goals exact⟨by simp⟩
    intro⟨⟨i,acc⟩,hki,hi,hac,hr⟩
    dsimp only at hki hi hac hr ⊢
    have hal2:(acc.map ak).length=acc.length:=by simp
    by_cases hlt:i < e
    ·obtain⟨y,hy⟩:=ag (l:=l) (k:=i) (by omega)
     rw[CX hlt hy]at hr
     have hC:=eH acc y.fac (by omega)
     by_cases h1:y.faa=1
     ·rw[if_pos h1]at hr
      have hix:=wv (l:=acc) (s:=y.fac)
      generalize fF acc y.fac=ix at *
      unfold kI at hr
      cases hc:acc.contains y.fac with
      | true=>
       rw[hc]at hix hr
       rw[if_pos rfl]at hr
       repeat' ((conv=>whnf);first|refine Or.inl ?_|apply oi|(apply fi<;>intro h)|refine ci hC (ai rfl (ai rfl trivial)) ?_|refine⟨i,y.tr,rfl,ab hy,?_⟩|refine⟨_,rfl,?_⟩|exact rfl)
       all_goals try exact⟨KO⟩
       all_goals try exact KX
       all_goals try(exfalso;(try simp_all[ah]);(try omega);done)
       all_goals
        conv=>whnf
        refine⟨⟨(i+1,acc),by dsimp only;omega,by dsimp only;omega,by dsimp only;omega,hr⟩,?_,KD⟩
        repeat' ((conv=>whnf);first|refine Or.inl ?_|apply oi|(apply fi<;>intro h)|refine⟨_,rfl,?_⟩|exact rfl)
        all_goals try exact⟨KO⟩
        all_goals try exact⟨K2⟩
      | false=>
       rw[hc]at hix hr
       rw[if_neg (by simp)]at hr
       repeat' ((conv=>whnf);first|refine Or.inl ?_|apply oi|(apply fi<;>intro h)|refine ci hC (ai rfl (ai rfl trivial)) ?_|refine⟨i,y.tr,rfl,ab hy,?_⟩|refine⟨_,rfl,?_⟩|exact rfl)
       all_goals try exact⟨KO⟩
       all_goals try exact KX
       all_goals try(exfalso;(try simp_all[ah]);(try omega);done)
       all_goals try exact⟨⟨by simp;omega,by simp;omega⟩⟩
       all_goals
        conv=>whnf
        refine⟨⟨(i+1,acc++[y.fac]),by dsimp only;omega,by dsimp only;omega,by simp;omega,hr⟩,?_,KD⟩
        repeat' ((conv=>whnf);first|refine Or.inl ?_|apply oi|(apply fi<;>intro h)|refine⟨_,rfl,?_⟩|exact rfl)
        all_goals try exact⟨KO⟩
        all_goals try exact⟨K2⟩
        all_goals exact⟨by simp[ak]⟩
     ·rw[if_neg h1]at hr
      repeat' ((conv=>whnf);first|refine Or.inl ?_|apply oi|(apply fi<;>intro h)|refine ci hC (ai rfl (ai rfl trivial)) ?_|refine⟨i,y.tr,rfl,ab hy,?_⟩|refine⟨_,rfl,?_⟩|exact rfl)
      all_goals try exact⟨KO⟩
      all_goals try exact KX
      all_goals try(exfalso;(try simp_all[ah]);(try omega);done)
      all_goals try(exfalso;simp_all;done)
      conv=>whnf
      refine⟨⟨(i+1,acc),by dsimp only;omega,by dsimp only;omega,by dsimp only;omega,hr⟩,?_,KD⟩
      repeat' ((conv=>whnf);first|refine Or.inl ?_|apply oi|(apply fi<;>intro h)|refine⟨_,rfl,?_⟩|exact rfl)
      all_goals try exact⟨KO⟩
      all_goals try exact⟨K2⟩
    ·rw[Et (by omega)]at hr
     subst hr
     repeat' ((conv=>whnf);first|refine Or.inl ?_|apply oi|(apply fi<;>intro h)|refine⟨_,rfl,?_⟩|exact rfl)
     all_goals try exact⟨KO⟩
     all_goals try exact KX
     all_goals exact⟨⟨rfl,jR _⟩⟩
   ·rw[nF (fun e x' h1 h2 _=>by rw[Int.toNat_natCast,hx]at h2;injection h2 with h2;subst h2;exact hk0)]
    repeat' ((conv=>whnf);first|refine Or.inl ?_|apply oi|(apply fi<;>intro h)|refine ci hE (ai rfl (ai rfl trivial)) ?_|refine⟨k,x.tr,rfl,ab hx,?_⟩|refine⟨_,rfl,?_⟩|exact rfl)
    all_goals try exact⟨KO⟩
    all_goals try exact KX
    all_goals try(exfalso;(try simp_all[ah]);(try omega);done)
 ·have h1:bR l k= -1:=by rw[bR,if_neg h0]
  rw[h1]at hE
  rw[nF (fun e x _ _ h=>absurd h h0)]
  repeat' ((conv=>whnf);first|refine Or.inl ?_|apply oi|(apply fi<;>intro h)|refine ci hE (ai rfl (ai rfl trivial)) ?_|refine⟨_,rfl,?_⟩|exact rfl)
  all_goals try exact⟨KO⟩
  all_goals try exact KX
abbrev vN (l:List (List UInt8)):AV:= .r (.c (.t (.lst 1 (l.map ak))))
theorem Ha {α:Type}{f:α→Bool}{l:List α}{k:Nat}{x:α}(hx:l[k]?=some x):(l.drop k).all f=(f x && (l.drop (k+1)).all f):=by
 rw[cP hx,List.all_cons]
abbrev nR (n:Nat):List Tr:=aa n
theorem De {l:List TLine}{x:TLine}(hx:l[0]?=some x):nC l=(x.faa==0 && (x.fac==jW && x.faj.length==0)):=by
 cases l with
 | nil=>cases hx
 | cons y r=>rw[List.getElem?_cons_zero]at hx;injection hx with hx;subst hx;rfl
end Go.Proofs.YtjmplnfiabmalaaGreat
