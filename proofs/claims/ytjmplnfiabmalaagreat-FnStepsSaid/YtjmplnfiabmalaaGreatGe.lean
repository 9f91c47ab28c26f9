import Derived.Test.YtjmplnfiabmalaaGreatGd
import Derived.Test.YtjmplnfiabmalaaGreatRows
namespace Go.Sim
theorem K1 {p:Prop}(h:False:=by simp at *;omega):p:=h.elim
theorem K2 {p:Prop}(h:p:=by dsimp only;rw[IntWalk.i64_in _ (by omega)];rfl):p:=h
theorem K3 {p:Prop}(h:False:=by simp(disch:=omega)only[IntWalk.i64_in]at *;simp only[beq_iff_eq]at *;omega):p:=h.elim
theorem K4 {p:Prop}(h:False:=by simp only[beq_iff_eq]at *;omega):p:=h.elim
theorem K5 {p:Prop}(h:p:=by rw[IntWalk.i64_in _ (by omega)];rfl):p:=h
theorem K6 {p:Prop}(h:p:=by rw[IntWalk.i64_in _ (by omega)];omega):p:=h
theorem K7 {k:IntKind}{a b:Int}(h:a=b:=by dsimp only;rw[IntWalk.i64_in _ (by omega)];omega):Tr.int k a=Tr.int k b:=congrArg (Tr.int k) h
theorem K8 {p:Prop}(h:False:=by simp_all;omega):p:=h.elim
end Go.Sim
namespace Go.Proofs.YtjmplnfiabmalaaGreat
open Go.Sim
def Γ:Env:=[
 (1,{size:=1,bytes:=8,agg:=false,zero:=[AC.opq]}),
 (2,{size:=1,bytes:=8,agg:=false,zero:=[AC.t (Tr.int Go.IntKind.i64 (Int.ofNat 0))],kind:=some Go.IntKind.i64}),
 (3,{size:=1,bytes:=8,agg:=false,zero:=[AC.t (Tr.int Go.IntKind.i64 (Int.ofNat 0))],kind:=some Go.IntKind.i64}),
 (4,{size:=1,bytes:=1,agg:=false,zero:=[AC.t (Tr.bool false)],bool:=true}),
 (5,{size:=1,bytes:=1,agg:=false,zero:=[AC.t (Tr.int Go.IntKind.u8 (Int.ofNat 0))],kind:=some Go.IntKind.u8}),
 (6,{size:=1,bytes:=1,agg:=false,zero:=[AC.t (Tr.int Go.IntKind.u8 (Int.ofNat 0))],kind:=some Go.IntKind.u8}),
 (7,{size:=4,bytes:=24,agg:=true,zero:=[AC.t (Tr.int Go.IntKind.i64 (Int.ofNat 0)),AC.t (Tr.int Go.IntKind.i64 (Int.ofNat 0)),AC.t (Tr.bool false),AC.t (Tr.int Go.IntKind.u8 (Int.ofNat 0))],fields:=[(0,1,2),(1,1,3),(2,1,4),(3,1,6)]}),
 (8,{size:=4,bytes:=24,agg:=true,zero:=[AC.t (Tr.int Go.IntKind.i64 (Int.ofNat 0)),AC.t (Tr.int Go.IntKind.i64 (Int.ofNat 0)),AC.t (Tr.bool false),AC.t (Tr.int Go.IntKind.u8 (Int.ofNat 0))],fields:=[(0,1,2),(1,1,3),(2,1,4),(3,1,6)]}),
 (9,{size:=1,bytes:=16,agg:=false,zero:=[AC.t (Tr.str [])],str:=true}),
 (10,{size:=1,bytes:=16,agg:=false,zero:=[AC.t (Tr.str [])],str:=true}),
 (11,{size:=1,bytes:=16,agg:=false,zero:=[AC.t (Tr.str [])],str:=true}),
 (12,{size:=1,bytes:=8,agg:=false,zero:=[AC.t (Tr.int Go.IntKind.u64 (Int.ofNat 0))],kind:=some Go.IntKind.u64}),
 (13,{size:=2,bytes:=24,agg:=true,zero:=[AC.t (Tr.str []),AC.t (Tr.int Go.IntKind.u64 (Int.ofNat 0))],fields:=[(0,1,9),(1,1,12)]}),
 (14,{size:=2,bytes:=24,agg:=true,zero:=[AC.t (Tr.str []),AC.t (Tr.int Go.IntKind.u64 (Int.ofNat 0))],fields:=[(0,1,9),(1,1,12)]}),
 (15,{size:=1,bytes:=8,agg:=false,zero:=[AC.nilp]}),
 (16,{size:=1,bytes:=8,agg:=false,zero:=[AC.nilp]}),
 (17,{size:=1,bytes:=8,agg:=false,zero:=[AC.nilp]}),
 (18,{size:=1,bytes:=8,agg:=true,zero:=[AC.nilp],fields:=[(0,1,17)]}),
 (19,{size:=1,bytes:=8,agg:=true,zero:=[AC.nilp],fields:=[(0,1,17)]}),
 (20,{size:=1,bytes:=16,agg:=false,zero:=[AC.opq]}),
 (21,{size:=1,bytes:=4,agg:=false,zero:=[AC.t (Tr.int Go.IntKind.i32 (Int.ofNat 0))],kind:=some Go.IntKind.i32}),
 (22,{size:=1,bytes:=24,agg:=false,zero:=[AC.nils 0],elem:=some 5}),
 (23,{size:=1,bytes:=8,agg:=false,zero:=[AC.opq]}),
 (24,{size:=1,bytes:=24,agg:=false,zero:=[AC.nils 0],elem:=some 135}),
 (25,{size:=4,bytes:=24,agg:=true,zero:=[AC.t (Tr.int Go.IntKind.i64 (Int.ofNat 0)),AC.t (Tr.int Go.IntKind.i64 (Int.ofNat 0)),AC.t (Tr.bool false),AC.t (Tr.bool false)],fields:=[(0,1,3),(1,1,3),(2,1,4),(3,1,4)]}),
 (26,{size:=4,bytes:=24,agg:=true,zero:=[AC.t (Tr.int Go.IntKind.i64 (Int.ofNat 0)),AC.t (Tr.int Go.IntKind.i64 (Int.ofNat 0)),AC.t (Tr.bool false),AC.t (Tr.bool false)],fields:=[(0,1,3),(1,1,3),(2,1,4),(3,1,4)]}),
 (28,{size:=1,bytes:=8,agg:=false,zero:=[AC.opq]}),
 (29,{size:=1,bytes:=24,agg:=false,zero:=[AC.nils 0],elem:=some 39}),
 (30,{size:=1,bytes:=8,agg:=false,zero:=[AC.opq]}),
 (31,{size:=1,bytes:=24,agg:=false,zero:=[AC.nils 0],elem:=some 42}),
 (32,{size:=1,bytes:=8,agg:=false,zero:=[AC.opq]}),
 (33,{size:=2,bytes:=16,agg:=true,zero:=[AC.t (Tr.int Go.IntKind.i64 (Int.ofNat 0)),AC.t (Tr.int Go.IntKind.i64 (Int.ofNat 0))],fields:=[(0,1,3),(1,1,3)]}),
 (34,{size:=2,bytes:=16,agg:=true,zero:=[AC.t (Tr.int Go.IntKind.i64 (Int.ofNat 0)),AC.t (Tr.int Go.IntKind.i64 (Int.ofNat 0))],fields:=[(0,1,3),(1,1,3)]}),
 (35,{size:=1,bytes:=24,agg:=false,zero:=[AC.nils 0],elem:=some 3}),
 (36,{size:=7,bytes:=72,agg:=true,zero:=[AC.t (Tr.int Go.IntKind.i64 (Int.ofNat 0)),AC.t (Tr.int Go.IntKind.i64 (Int.ofNat 0)),AC.t (Tr.int Go.IntKind.i64 (Int.ofNat 0)),AC.t (Tr.bool false),AC.nils 0,AC.t (Tr.int Go.IntKind.i64 (Int.ofNat 0)),AC.t (Tr.bool false)],fields:=[(0,2,34),(2,1,3),(3,1,4),(4,1,35),(5,1,3),(6,1,4)]}),
 (37,{size:=7,bytes:=72,agg:=true,zero:=[AC.t (Tr.int Go.IntKind.i64 (Int.ofNat 0)),AC.t (Tr.int Go.IntKind.i64 (Int.ofNat 0)),AC.t (Tr.int Go.IntKind.i64 (Int.ofNat 0)),AC.t (Tr.bool false),AC.nils 0,AC.t (Tr.int Go.IntKind.i64 (Int.ofNat 0)),AC.t (Tr.bool false)],fields:=[(0,2,34),(2,1,3),(3,1,4),(4,1,35),(5,1,3),(6,1,4)]}),
 (38,{size:=8,bytes:=80,agg:=true,zero:=[AC.t (Tr.int Go.IntKind.i64 (Int.ofNat 0)),AC.t (Tr.int Go.IntKind.i64 (Int.ofNat 0)),AC.t (Tr.int Go.IntKind.i64 (Int.ofNat 0)),AC.t (Tr.int Go.IntKind.i64 (Int.ofNat 0)),AC.t (Tr.bool false),AC.nils 0,AC.t (Tr.int Go.IntKind.i64 (Int.ofNat 0)),AC.t (Tr.bool false)],fields:=[(0,1,3),(1,7,37)]}),
 (39,{size:=8,bytes:=80,agg:=true,zero:=[AC.t (Tr.int Go.IntKind.i64 (Int.ofNat 0)),AC.t (Tr.int Go.IntKind.i64 (Int.ofNat 0)),AC.t (Tr.int Go.IntKind.i64 (Int.ofNat 0)),AC.t (Tr.int Go.IntKind.i64 (Int.ofNat 0)),AC.t (Tr.bool false),AC.nils 0,AC.t (Tr.int Go.IntKind.i64 (Int.ofNat 0)),AC.t (Tr.bool false)],fields:=[(0,1,3),(1,7,37)]}),
 (40,{size:=1,bytes:=8,agg:=false,zero:=[AC.opq]}),
 (41,{size:=5,bytes:=48,agg:=true,zero:=[AC.t (Tr.int Go.IntKind.i64 (Int.ofNat 0)),AC.t (Tr.int Go.IntKind.i64 (Int.ofNat 0)),AC.t (Tr.int Go.IntKind.i64 (Int.ofNat 0)),AC.t (Tr.int Go.IntKind.i64 (Int.ofNat 0)),AC.t (Tr.str [])],fields:=[(0,1,3),(1,1,3),(2,1,3),(3,1,3),(4,1,9)]}),
 (42,{size:=5,bytes:=48,agg:=true,zero:=[AC.t (Tr.int Go.IntKind.i64 (Int.ofNat 0)),AC.t (Tr.int Go.IntKind.i64 (Int.ofNat 0)),AC.t (Tr.int Go.IntKind.i64 (Int.ofNat 0)),AC.t (Tr.int Go.IntKind.i64 (Int.ofNat 0)),AC.t (Tr.str [])],fields:=[(0,1,3),(1,1,3),(2,1,3),(3,1,3),(4,1,9)]}),
 (43,{size:=1,bytes:=8,agg:=false,zero:=[AC.opq]}),
 (45,{size:=1,bytes:=8,agg:=false,zero:=[AC.opq]}),
 (46,{size:=1,bytes:=8,agg:=false,zero:=[AC.opq]}),
 (47,{size:=1,bytes:=8,agg:=false,zero:=[AC.opq]}),
 (48,{size:=1,bytes:=8,agg:=false,zero:=[AC.opq]}),
 (49,{size:=1,bytes:=24,agg:=false,zero:=[AC.nils 0],elem:=some 83}),
 (50,{size:=3,bytes:=72,agg:=true,zero:=[AC.nils 0,AC.nils 0,AC.nils 0],fields:=[(0,1,49),(1,1,35),(2,1,35)]}),
 (51,{size:=3,bytes:=72,agg:=true,zero:=[AC.nils 0,AC.nils 0,AC.nils 0],fields:=[(0,1,49),(1,1,35),(2,1,35)]}),
 (53,{size:=1,bytes:=8,agg:=false,zero:=[AC.opq]}),
 (54,{size:=7,bytes:=88,agg:=true,zero:=[AC.t (Tr.int Go.IntKind.i64 (Int.ofNat 0)),AC.t (Tr.int Go.IntKind.i64 (Int.ofNat 0)),AC.t (Tr.int Go.IntKind.i64 (Int.ofNat 0)),AC.nils 0,AC.nils 0,AC.t (Tr.int Go.IntKind.i64 (Int.ofNat 0)),AC.t (Tr.int Go.IntKind.i64 (Int.ofNat 0))],fields:=[(0,1,3),(1,1,3),(2,1,3),(3,1,35),(4,1,35),(5,1,3),(6,1,3)]}),
 (55,{size:=7,bytes:=88,agg:=true,zero:=[AC.t (Tr.int Go.IntKind.i64 (Int.ofNat 0)),AC.t (Tr.int Go.IntKind.i64 (Int.ofNat 0)),AC.t (Tr.int Go.IntKind.i64 (Int.ofNat 0)),AC.nils 0,AC.nils 0,AC.t (Tr.int Go.IntKind.i64 (Int.ofNat 0)),AC.t (Tr.int Go.IntKind.i64 (Int.ofNat 0))],fields:=[(0,1,3),(1,1,3),(2,1,3),(3,1,35),(4,1,35),(5,1,3),(6,1,3)]}),
 (57,{size:=1,bytes:=8,agg:=false,zero:=[AC.opq]}),
 (58,{size:=1,bytes:=8,agg:=false,zero:=[AC.opq]}),
 (60,{size:=1,bytes:=8,agg:=false,zero:=[AC.opq]}),
 (61,{size:=1,bytes:=8,agg:=false,zero:=[AC.opq]}),
 (62,{size:=1,bytes:=8,agg:=false,zero:=[AC.opq]}),
 (64,{size:=1,bytes:=8,agg:=false,zero:=[AC.opq]}),
 (65,{size:=1,bytes:=8,agg:=false,zero:=[AC.opq]}),
 (67,{size:=1,bytes:=8,agg:=false,zero:=[AC.opq]}),
 (69,{size:=1,bytes:=8,agg:=false,zero:=[AC.opq]}),
 (70,{size:=1,bytes:=8,agg:=false,zero:=[AC.opq]}),
 (71,{size:=1,bytes:=8,agg:=false,zero:=[AC.opq]}),
 (72,{size:=1,bytes:=24,agg:=false,zero:=[AC.nils 0],elem:=some 96}),
 (73,{size:=1,bytes:=24,agg:=false,zero:=[AC.nils 0],elem:=some 174}),
 (74,{size:=1,bytes:=24,agg:=false,zero:=[AC.nils 0],elem:=some 176}),
 (75,{size:=5,bytes:=104,agg:=true,zero:=[AC.t (Tr.int Go.IntKind.i64 (Int.ofNat 0)),AC.nils 0,AC.nils 0,AC.nils 0,AC.nils 0],fields:=[(0,1,3),(1,1,72),(2,1,73),(3,1,74),(4,1,31)]}),
 (76,{size:=5,bytes:=104,agg:=true,zero:=[AC.t (Tr.int Go.IntKind.i64 (Int.ofNat 0)),AC.nils 0,AC.nils 0,AC.nils 0,AC.nils 0],fields:=[(0,1,3),(1,1,72),(2,1,73),(3,1,74),(4,1,31)]}),
 (77,{size:=1,bytes:=8,agg:=false,zero:=[AC.opq]}),
 (78,{size:=1,bytes:=8,agg:=false,zero:=[AC.opq]}),
 (80,{size:=1,bytes:=8,agg:=false,zero:=[AC.opq]}),
 (81,{size:=1,bytes:=8,agg:=false,zero:=[AC.opq]}),
 (82,{size:=2,bytes:=40,agg:=true,zero:=[AC.t (Tr.str []),AC.nils 0],fields:=[(0,1,9),(1,1,72)]}),
 (83,{size:=2,bytes:=40,agg:=true,zero:=[AC.t (Tr.str []),AC.nils 0],fields:=[(0,1,9),(1,1,72)]}),
 (84,{size:=1,bytes:=8,agg:=false,zero:=[AC.opq]}),
 (85,{size:=1,bytes:=8,agg:=false,zero:=[AC.opq]}),
 (86,{size:=1,bytes:=8,agg:=false,zero:=[AC.opq]}),
 (87,{size:=1,bytes:=8,agg:=false,zero:=[AC.opq]}),
 (88,{size:=1,bytes:=8,agg:=false,zero:=[AC.opq]}),
 (89,{size:=1,bytes:=8,agg:=false,zero:=[AC.opq]}),
 (90,{size:=1,bytes:=24,agg:=false,zero:=[AC.nils 0],elem:=some 94}),
 (92,{size:=1,bytes:=8,agg:=false,zero:=[AC.opq]}),
 (93,{size:=2,bytes:=24,agg:=true,zero:=[AC.t (Tr.str []),AC.t (Tr.int Go.IntKind.i64 (Int.ofNat 0))],fields:=[(0,1,9),(1,1,3)]}),
 (94,{size:=2,bytes:=24,agg:=true,zero:=[AC.t (Tr.str []),AC.t (Tr.int Go.IntKind.i64 (Int.ofNat 0))],fields:=[(0,1,9),(1,1,3)]}),
 (95,{size:=3,bytes:=32,agg:=true,zero:=[AC.t (Tr.str []),AC.t (Tr.int Go.IntKind.i64 (Int.ofNat 0)),AC.t (Tr.int Go.IntKind.i64 (Int.ofNat 0))],fields:=[(0,1,9),(1,1,3),(2,1,3)]}),
 (96,{size:=3,bytes:=32,agg:=true,zero:=[AC.t (Tr.str []),AC.t (Tr.int Go.IntKind.i64 (Int.ofNat 0)),AC.t (Tr.int Go.IntKind.i64 (Int.ofNat 0))],fields:=[(0,1,9),(1,1,3),(2,1,3)]}),
 (97,{size:=1,bytes:=8,agg:=false,zero:=[AC.opq]}),
 (98,{size:=1,bytes:=24,agg:=false,zero:=[AC.nils 0],elem:=some 73}),
 (100,{size:=1,bytes:=8,agg:=false,zero:=[AC.opq]}),
 (101,{size:=4,bytes:=48,agg:=true,zero:=[AC.t (Tr.int Go.IntKind.i64 (Int.ofNat 0)),AC.t (Tr.int Go.IntKind.i64 (Int.ofNat 0)),AC.t (Tr.int Go.IntKind.i64 (Int.ofNat 0)),AC.nils 0],fields:=[(0,1,3),(1,1,3),(2,1,3),(3,1,35)]}),
 (102,{size:=4,bytes:=48,agg:=true,zero:=[AC.t (Tr.int Go.IntKind.i64 (Int.ofNat 0)),AC.t (Tr.int Go.IntKind.i64 (Int.ofNat 0)),AC.t (Tr.int Go.IntKind.i64 (Int.ofNat 0)),AC.nils 0],fields:=[(0,1,3),(1,1,3),(2,1,3),(3,1,35)]}),
 (103,{size:=1,bytes:=8,agg:=false,zero:=[AC.opq]}),
 (105,{size:=1,bytes:=8,agg:=false,zero:=[AC.opq]}),
 (106,{size:=1,bytes:=8,agg:=false,zero:=[AC.opq]}),
 (107,{size:=1,bytes:=24,agg:=false,zero:=[AC.nils 0],elem:=some 186}),
 (108,{size:=4,bytes:=24,agg:=true,zero:=[AC.t (Tr.int Go.IntKind.i64 (Int.ofNat 0)),AC.t (Tr.int Go.IntKind.i64 (Int.ofNat 0)),AC.t (Tr.bool false),AC.t (Tr.bool false)],fields:=[(0,1,3),(1,1,3),(2,1,4),(3,1,4)]}),
 (109,{size:=1,bytes:=8,agg:=false,zero:=[AC.opq]}),
 (110,{size:=1,bytes:=8,agg:=false,zero:=[AC.opq]}),
 (111,{size:=1,bytes:=8,agg:=false,zero:=[AC.opq]}),
 (112,{size:=1,bytes:=8,agg:=false,zero:=[AC.opq]}),
 (113,{size:=1,bytes:=8,agg:=false,zero:=[AC.opq]}),
 (114,{size:=1,bytes:=8,agg:=false,zero:=[AC.opq]}),
 (115,{size:=1,bytes:=8,agg:=false,zero:=[AC.opq]}),
 (116,{size:=1,bytes:=8,agg:=false,zero:=[AC.opq]}),
 (117,{size:=1,bytes:=8,agg:=false,zero:=[AC.opq]}),
 (118,{size:=1,bytes:=8,agg:=false,zero:=[AC.opq]}),
 (119,{size:=1,bytes:=8,agg:=false,zero:=[AC.nilp]}),
 (120,{size:=1,bytes:=8,agg:=false,zero:=[AC.opq]}),
 (121,{size:=1,bytes:=8,agg:=false,zero:=[AC.opq]}),
 (122,{size:=1,bytes:=8,agg:=false,zero:=[AC.opq]}),
 (123,{size:=1,bytes:=8,agg:=false,zero:=[AC.opq]}),
 (124,{size:=1,bytes:=8,agg:=false,zero:=[AC.opq]}),
 (125,{size:=1,bytes:=8,agg:=false,zero:=[AC.opq]}),
 (126,{size:=1,bytes:=8,agg:=false,zero:=[AC.opq]}),
 (127,{size:=1,bytes:=24,agg:=false,zero:=[AC.nils 0],elem:=some 37}),
 (128,{size:=1,bytes:=8,agg:=false,zero:=[AC.opq]}),
 (129,{size:=1,bytes:=8,agg:=false,zero:=[AC.opq]}),
 (130,{size:=1,bytes:=8,agg:=false,zero:=[AC.opq]}),
 (131,{size:=1,bytes:=8,agg:=false,zero:=[AC.opq]}),
 (132,{size:=1,bytes:=24,agg:=false,zero:=[AC.nils 0],elem:=some 9}),
 (133,{size:=1,bytes:=24,agg:=false,zero:=[AC.nils 0],elem:=some 201}),
 (134,{size:=4,bytes:=72,agg:=true,zero:=[AC.t (Tr.int Go.IntKind.i64 (Int.ofNat 0)),AC.t (Tr.str []),AC.nils 0,AC.nils 0],fields:=[(0,1,3),(1,1,9),(2,1,132),(3,1,133)]}),
 (135,{size:=4,bytes:=72,agg:=true,zero:=[AC.t (Tr.int Go.IntKind.i64 (Int.ofNat 0)),AC.t (Tr.str []),AC.nils 0,AC.nils 0],fields:=[(0,1,3),(1,1,9),(2,1,132),(3,1,133)]}),
 (137,{size:=1,bytes:=8,agg:=false,zero:=[AC.opq]}),
 (139,{size:=1,bytes:=8,agg:=false,zero:=[AC.opq]}),
 (141,{size:=1,bytes:=8,agg:=false,zero:=[AC.opq]}),
 (142,{size:=1,bytes:=8,agg:=false,zero:=[AC.opq]}),
 (143,{size:=1,bytes:=8,agg:=false,zero:=[AC.opq]}),
 (144,{size:=1,bytes:=8,agg:=false,zero:=[AC.opq]}),
 (145,{size:=1,bytes:=8,agg:=false,zero:=[AC.opq]}),
 (146,{size:=1,bytes:=8,agg:=false,zero:=[AC.opq]}),
 (147,{size:=1,bytes:=8,agg:=false,zero:=[AC.opq]}),
 (148,{size:=1,bytes:=8,agg:=false,zero:=[AC.opq]}),
 (149,{size:=1,bytes:=8,agg:=false,zero:=[AC.opq]}),
 (150,{size:=1,bytes:=8,agg:=false,zero:=[AC.opq]}),
 (151,{size:=1,bytes:=8,agg:=false,zero:=[AC.opq]}),
 (152,{size:=1,bytes:=8,agg:=false,zero:=[AC.opq]}),
 (153,{size:=1,bytes:=8,agg:=false,zero:=[AC.opq]}),
 (154,{size:=1,bytes:=8,agg:=false,zero:=[AC.opq]}),
 (155,{size:=1,bytes:=8,agg:=false,zero:=[AC.opq]}),
 (156,{size:=1,bytes:=8,agg:=false,zero:=[AC.opq]}),
 (157,{size:=1,bytes:=8,agg:=false,zero:=[AC.opq]}),
 (158,{size:=1,bytes:=8,agg:=false,zero:=[AC.opq]}),
 (159,{size:=1,bytes:=8,agg:=false,zero:=[AC.nilp]}),
 (160,{size:=3,bytes:=32,agg:=true,zero:=[AC.t (Tr.str []),AC.t (Tr.int Go.IntKind.i64 (Int.ofNat 0)),AC.t (Tr.bool false)],fields:=[(0,1,9),(1,1,3),(2,1,4)]}),
 (161,{size:=3,bytes:=32,agg:=true,zero:=[AC.t (Tr.str []),AC.t (Tr.int Go.IntKind.i64 (Int.ofNat 0)),AC.t (Tr.bool false)],fields:=[(0,1,9),(1,1,3),(2,1,4)]}),
 (162,{size:=1,bytes:=8,agg:=false,zero:=[AC.opq]}),
 (163,{size:=1,bytes:=8,agg:=false,zero:=[AC.opq]}),
 (164,{size:=1,bytes:=8,agg:=false,zero:=[AC.opq]}),
 (166,{size:=1,bytes:=8,agg:=false,zero:=[AC.opq]}),
 (168,{size:=1,bytes:=8,agg:=false,zero:=[AC.opq]}),
 (169,{size:=1,bytes:=8,agg:=false,zero:=[AC.opq]}),
 (170,{size:=1,bytes:=8,agg:=false,zero:=[AC.opq]}),
 (171,{size:=1,bytes:=8,agg:=false,zero:=[AC.opq]}),
 (172,{size:=1,bytes:=8,agg:=false,zero:=[AC.opq]}),
 (173,{size:=4,bytes:=32,agg:=true,zero:=[AC.t (Tr.int Go.IntKind.i64 (Int.ofNat 0)),AC.t (Tr.int Go.IntKind.i64 (Int.ofNat 0)),AC.t (Tr.bool false),AC.t (Tr.int Go.IntKind.i64 (Int.ofNat 0))],fields:=[(0,1,3),(1,1,3),(2,1,4),(3,1,3)]}),
 (174,{size:=4,bytes:=32,agg:=true,zero:=[AC.t (Tr.int Go.IntKind.i64 (Int.ofNat 0)),AC.t (Tr.int Go.IntKind.i64 (Int.ofNat 0)),AC.t (Tr.bool false),AC.t (Tr.int Go.IntKind.i64 (Int.ofNat 0))],fields:=[(0,1,3),(1,1,3),(2,1,4),(3,1,3)]}),
 (175,{size:=3,bytes:=24,agg:=true,zero:=[AC.t (Tr.int Go.IntKind.i64 (Int.ofNat 0)),AC.t (Tr.int Go.IntKind.i64 (Int.ofNat 0)),AC.t (Tr.bool false)],fields:=[(0,1,3),(1,1,3),(2,1,4)]}),
 (176,{size:=3,bytes:=24,agg:=true,zero:=[AC.t (Tr.int Go.IntKind.i64 (Int.ofNat 0)),AC.t (Tr.int Go.IntKind.i64 (Int.ofNat 0)),AC.t (Tr.bool false)],fields:=[(0,1,3),(1,1,3),(2,1,4)]}),
 (177,{size:=1,bytes:=8,agg:=false,zero:=[AC.opq]}),
 (178,{size:=1,bytes:=8,agg:=false,zero:=[AC.opq]}),
 (179,{size:=1,bytes:=8,agg:=false,zero:=[AC.opq]}),
 (181,{size:=1,bytes:=8,agg:=false,zero:=[AC.opq]}),
 (182,{size:=1,bytes:=8,agg:=false,zero:=[AC.opq]}),
 (183,{size:=1,bytes:=8,agg:=false,zero:=[AC.opq]}),
 (184,{size:=1,bytes:=24,agg:=false,zero:=[AC.nils 0],elem:=some 262}),
 (185,{size:=4,bytes:=72,agg:=true,zero:=[AC.t (Tr.int Go.IntKind.i64 (Int.ofNat 0)),AC.t (Tr.str []),AC.nils 0,AC.nils 0],fields:=[(0,1,3),(1,1,9),(2,1,132),(3,1,184)]}),
 (186,{size:=4,bytes:=72,agg:=true,zero:=[AC.t (Tr.int Go.IntKind.i64 (Int.ofNat 0)),AC.t (Tr.str []),AC.nils 0,AC.nils 0],fields:=[(0,1,3),(1,1,9),(2,1,132),(3,1,184)]}),
 (187,{size:=1,bytes:=8,agg:=false,zero:=[AC.opq]}),
 (188,{size:=1,bytes:=24,agg:=false,zero:=[AC.nils 0],elem:=some 29}),
 (190,{size:=1,bytes:=8,agg:=false,zero:=[AC.opq]}),
 (191,{size:=1,bytes:=8,agg:=false,zero:=[AC.opq]}),
 (192,{size:=1,bytes:=8,agg:=false,zero:=[AC.opq]}),
 (193,{size:=1,bytes:=8,agg:=false,zero:=[AC.opq]}),
 (194,{size:=1,bytes:=8,agg:=false,zero:=[AC.opq]}),
 (195,{size:=1,bytes:=8,agg:=false,zero:=[AC.opq]}),
 (196,{size:=1,bytes:=8,agg:=false,zero:=[AC.opq]}),
 (197,{size:=1,bytes:=8,agg:=false,zero:=[AC.opq]}),
 (198,{size:=3,bytes:=40,agg:=true,zero:=[AC.nils 0,AC.t (Tr.int Go.IntKind.i64 (Int.ofNat 0)),AC.t (Tr.int Go.IntKind.i64 (Int.ofNat 0))],fields:=[(0,1,22),(1,1,3),(2,1,3)]}),
 (199,{size:=3,bytes:=40,agg:=true,zero:=[AC.nils 0,AC.t (Tr.int Go.IntKind.i64 (Int.ofNat 0)),AC.t (Tr.int Go.IntKind.i64 (Int.ofNat 0))],fields:=[(0,1,22),(1,1,3),(2,1,3)]}),
 (200,{size:=3,bytes:=32,agg:=true,zero:=[AC.t (Tr.int Go.IntKind.i64 (Int.ofNat 0)),AC.t (Tr.int Go.IntKind.i64 (Int.ofNat 0)),AC.t (Tr.str [])],fields:=[(0,1,3),(1,1,3),(2,1,9)]}),
 (201,{size:=3,bytes:=32,agg:=true,zero:=[AC.t (Tr.int Go.IntKind.i64 (Int.ofNat 0)),AC.t (Tr.int Go.IntKind.i64 (Int.ofNat 0)),AC.t (Tr.str [])],fields:=[(0,1,3),(1,1,3),(2,1,9)]}),
 (202,{size:=1,bytes:=8,agg:=false,zero:=[AC.opq]}),
 (203,{size:=1,bytes:=8,agg:=false,zero:=[AC.opq]}),
 (204,{size:=1,bytes:=8,agg:=false,zero:=[AC.opq]}),
 (205,{size:=1,bytes:=8,agg:=false,zero:=[AC.opq]}),
 (207,{size:=1,bytes:=8,agg:=false,zero:=[AC.opq]}),
 (208,{size:=1,bytes:=8,agg:=false,zero:=[AC.opq]}),
 (209,{size:=1,bytes:=8,agg:=false,zero:=[AC.opq]}),
 (210,{size:=1,bytes:=8,agg:=false,zero:=[AC.t (Tr.int Go.IntKind.u64 (Int.ofNat 0))],kind:=some Go.IntKind.u64}),
 (211,{size:=1,bytes:=8,agg:=false,zero:=[AC.opq]}),
 (212,{size:=1,bytes:=8,agg:=false,zero:=[AC.nilp]}),
 (213,{size:=1,bytes:=8,agg:=false,zero:=[AC.nilp]}),
 (214,{size:=2,bytes:=16,agg:=true,zero:=[AC.nilp,AC.t (Tr.bool false)],fields:=[(0,1,213),(1,1,4)]}),
 (215,{size:=2,bytes:=16,agg:=true,zero:=[AC.nilp,AC.t (Tr.bool false)],fields:=[(0,1,213),(1,1,4)]}),
 (216,{size:=1,bytes:=8,agg:=false,zero:=[AC.opq]}),
 (217,{size:=1,bytes:=8,agg:=false,zero:=[AC.opq]}),
 (218,{size:=1,bytes:=8,agg:=false,zero:=[AC.nilp]}),
 (219,{size:=8,bytes:=96,agg:=true,zero:=[AC.t (Tr.int Go.IntKind.i64 (Int.ofNat 0)),AC.t (Tr.int Go.IntKind.i64 (Int.ofNat 0)),AC.t (Tr.int Go.IntKind.i64 (Int.ofNat 0)),AC.nils 0,AC.nils 0,AC.t (Tr.int Go.IntKind.i64 (Int.ofNat 0)),AC.t (Tr.int Go.IntKind.i64 (Int.ofNat 0)),AC.t (Tr.bool false)],fields:=[(0,7,55),(7,1,4)]}),
 (220,{size:=8,bytes:=96,agg:=true,zero:=[AC.t (Tr.int Go.IntKind.i64 (Int.ofNat 0)),AC.t (Tr.int Go.IntKind.i64 (Int.ofNat 0)),AC.t (Tr.int Go.IntKind.i64 (Int.ofNat 0)),AC.nils 0,AC.nils 0,AC.t (Tr.int Go.IntKind.i64 (Int.ofNat 0)),AC.t (Tr.int Go.IntKind.i64 (Int.ofNat 0)),AC.t (Tr.bool false)],fields:=[(0,7,55),(7,1,4)]}),
 (221,{size:=1,bytes:=8,agg:=false,zero:=[AC.opq]}),
 (222,{size:=1,bytes:=24,agg:=false,zero:=[AC.nils 0],elem:=some 34}),
 (224,{size:=1,bytes:=8,agg:=false,zero:=[AC.opq]}),
 (225,{size:=1,bytes:=8,agg:=false,zero:=[AC.opq]}),
 (226,{size:=1,bytes:=8,agg:=false,zero:=[AC.opq]}),
 (227,{size:=1,bytes:=8,agg:=false,zero:=[AC.opq]}),
 (228,{size:=1,bytes:=8,agg:=false,zero:=[AC.opq]}),
 (229,{size:=1,bytes:=8,agg:=false,zero:=[AC.opq]}),
 (230,{size:=1,bytes:=8,agg:=false,zero:=[AC.opq]}),
 (231,{size:=1,bytes:=8,agg:=false,zero:=[AC.opq]}),
 (232,{size:=1,bytes:=8,agg:=false,zero:=[AC.opq]}),
 (233,{size:=1,bytes:=8,agg:=false,zero:=[AC.opq]}),
 (234,{size:=1,bytes:=8,agg:=false,zero:=[AC.opq]}),
 (235,{size:=1,bytes:=8,agg:=false,zero:=[AC.opq]}),
 (236,{size:=1,bytes:=8,agg:=false,zero:=[AC.opq]}),
 (237,{size:=1,bytes:=8,agg:=false,zero:=[AC.opq]}),
 (238,{size:=1,bytes:=8,agg:=false,zero:=[AC.opq]}),
 (239,{size:=1,bytes:=8,agg:=false,zero:=[AC.opq]}),
 (240,{size:=1,bytes:=8,agg:=false,zero:=[AC.opq]}),
 (241,{size:=1,bytes:=8,agg:=false,zero:=[AC.opq]}),
 (242,{size:=1,bytes:=8,agg:=false,zero:=[AC.nilp]}),
 (243,{size:=4,bytes:=80,agg:=true,zero:=[AC.nilp,AC.nils 0,AC.nils 0,AC.nils 0],fields:=[(0,1,119),(1,1,132),(2,1,132),(3,1,35)]}),
 (244,{size:=4,bytes:=80,agg:=true,zero:=[AC.nilp,AC.nils 0,AC.nils 0,AC.nils 0],fields:=[(0,1,119),(1,1,132),(2,1,132),(3,1,35)]}),
 (245,{size:=1,bytes:=8,agg:=false,zero:=[AC.opq]}),
 (246,{size:=1,bytes:=8,agg:=false,zero:=[AC.opq]}),
 (247,{size:=1,bytes:=8,agg:=false,zero:=[AC.opq]}),
 (248,{size:=1,bytes:=8,agg:=false,zero:=[AC.nilp]}),
 (249,{size:=1,bytes:=24,agg:=false,zero:=[AC.nils 0],elem:=some 253}),
 (250,{size:=13,bytes:=144,agg:=true,zero:=[AC.nils 0,AC.t (Tr.int Go.IntKind.i64 (Int.ofNat 0)),AC.t (Tr.int Go.IntKind.i64 (Int.ofNat 0)),AC.t (Tr.bool false),AC.t (Tr.bool false),AC.t (Tr.bool false),AC.t (Tr.int Go.IntKind.i64 (Int.ofNat 0)),AC.t (Tr.int Go.IntKind.i64 (Int.ofNat 0)),AC.t (Tr.int Go.IntKind.i64 (Int.ofNat 0)),AC.t (Tr.int Go.IntKind.i64 (Int.ofNat 0)),AC.nils 0,AC.nils 0,AC.t (Tr.bool false)],fields:=[(0,1,24),(1,4,26),(5,1,4),(6,1,3),(7,1,3),(8,1,3),(9,1,3),(10,1,127),(11,1,249),(12,1,4)]}),
 (251,{size:=13,bytes:=144,agg:=true,zero:=[AC.nils 0,AC.t (Tr.int Go.IntKind.i64 (Int.ofNat 0)),AC.t (Tr.int Go.IntKind.i64 (Int.ofNat 0)),AC.t (Tr.bool false),AC.t (Tr.bool false),AC.t (Tr.bool false),AC.t (Tr.int Go.IntKind.i64 (Int.ofNat 0)),AC.t (Tr.int Go.IntKind.i64 (Int.ofNat 0)),AC.t (Tr.int Go.IntKind.i64 (Int.ofNat 0)),AC.t (Tr.int Go.IntKind.i64 (Int.ofNat 0)),AC.nils 0,AC.nils 0,AC.t (Tr.bool false)],fields:=[(0,1,24),(1,4,26),(5,1,4),(6,1,3),(7,1,3),(8,1,3),(9,1,3),(10,1,127),(11,1,249),(12,1,4)]}),
 (252,{size:=6,bytes:=96,agg:=true,zero:=[AC.t (Tr.int Go.IntKind.i64 (Int.ofNat 0)),AC.nils 0,AC.nils 0,AC.t (Tr.int Go.IntKind.i64 (Int.ofNat 0)),AC.t (Tr.bool false),AC.nils 0],fields:=[(0,1,3),(1,1,35),(2,1,132),(3,1,3),(4,1,4),(5,1,35)]}),
 (253,{size:=6,bytes:=96,agg:=true,zero:=[AC.t (Tr.int Go.IntKind.i64 (Int.ofNat 0)),AC.nils 0,AC.nils 0,AC.t (Tr.int Go.IntKind.i64 (Int.ofNat 0)),AC.t (Tr.bool false),AC.nils 0],fields:=[(0,1,3),(1,1,35),(2,1,132),(3,1,3),(4,1,4),(5,1,35)]}),
 (254,{size:=1,bytes:=8,agg:=false,zero:=[AC.opq]}),
 (255,{size:=1,bytes:=8,agg:=false,zero:=[AC.opq]}),
 (256,{size:=1,bytes:=8,agg:=false,zero:=[AC.opq]}),
 (257,{size:=1,bytes:=8,agg:=false,zero:=[AC.opq]}),
 (258,{size:=1,bytes:=8,agg:=false,zero:=[AC.opq]}),
 (259,{size:=1,bytes:=8,agg:=false,zero:=[AC.opq]}),
 (260,{size:=1,bytes:=8,agg:=false,zero:=[AC.opq]}),
 (261,{size:=1,bytes:=8,agg:=false,zero:=[AC.opq]}),
 (262,{size:=3,bytes:=32,agg:=true,zero:=[AC.t (Tr.int Go.IntKind.i64 (Int.ofNat 0)),AC.t (Tr.int Go.IntKind.i64 (Int.ofNat 0)),AC.t (Tr.str [])],fields:=[(0,1,3),(1,1,3),(2,1,9)]}),
 (263,{size:=1,bytes:=8,agg:=false,zero:=[AC.opq]}),
 (264,{size:=1,bytes:=8,agg:=false,zero:=[AC.opq]}),
 (265,{size:=1,bytes:=8,agg:=false,zero:=[AC.opq]}),
 (266,{size:=1,bytes:=8,agg:=false,zero:=[AC.opq]}),
 (267,{size:=1,bytes:=8,agg:=false,zero:=[AC.opq]}),
 (268,{size:=1,bytes:=8,agg:=false,zero:=[AC.opq]}),
 (269,{size:=1,bytes:=8,agg:=false,zero:=[AC.opq]}),
 (270,{size:=1,bytes:=24,agg:=false,zero:=[AC.nils 0],elem:=some 273}),
 (271,{size:=1,bytes:=8,agg:=false,zero:=[AC.opq]}),
 (272,{size:=2,bytes:=16,agg:=true,zero:=[AC.t (Tr.int Go.IntKind.i64 (Int.ofNat 0)),AC.t (Tr.int Go.IntKind.i64 (Int.ofNat 0))],fields:=[(0,1,3),(1,1,3)]}),
 (273,{size:=2,bytes:=16,agg:=true,zero:=[AC.t (Tr.int Go.IntKind.i64 (Int.ofNat 0)),AC.t (Tr.int Go.IntKind.i64 (Int.ofNat 0))],fields:=[(0,1,3),(1,1,3)]}),
 (274,{size:=1,bytes:=8,agg:=false,zero:=[AC.opq]}),
 (275,{size:=1,bytes:=8,agg:=false,zero:=[AC.opq]}),
 (276,{size:=1,bytes:=8,agg:=false,zero:=[AC.opq]}),
 (277,{size:=1,bytes:=8,agg:=false,zero:=[AC.opq]}),
 (278,{size:=1,bytes:=8,agg:=false,zero:=[AC.opq]}),
 (279,{size:=1,bytes:=8,agg:=false,zero:=[AC.nilp]}),
 (280,{size:=11,bytes:=128,agg:=true,zero:=[AC.nils 0,AC.t (Tr.int Go.IntKind.i64 (Int.ofNat 0)),AC.t (Tr.int Go.IntKind.i64 (Int.ofNat 0)),AC.t (Tr.bool false),AC.t (Tr.bool false),AC.t (Tr.bool false),AC.t (Tr.int Go.IntKind.i64 (Int.ofNat 0)),AC.t (Tr.int Go.IntKind.i64 (Int.ofNat 0)),AC.nils 0,AC.t (Tr.int Go.IntKind.i64 (Int.ofNat 0)),AC.nils 0],fields:=[(0,1,24),(1,4,26),(5,1,4),(6,1,3),(7,1,3),(8,1,127),(9,1,3),(10,1,35)]}),
 (281,{size:=11,bytes:=128,agg:=true,zero:=[AC.nils 0,AC.t (Tr.int Go.IntKind.i64 (Int.ofNat 0)),AC.t (Tr.int Go.IntKind.i64 (Int.ofNat 0)),AC.t (Tr.bool false),AC.t (Tr.bool false),AC.t (Tr.bool false),AC.t (Tr.int Go.IntKind.i64 (Int.ofNat 0)),AC.t (Tr.int Go.IntKind.i64 (Int.ofNat 0)),AC.nils 0,AC.t (Tr.int Go.IntKind.i64 (Int.ofNat 0)),AC.nils 0],fields:=[(0,1,24),(1,4,26),(5,1,4),(6,1,3),(7,1,3),(8,1,127),(9,1,3),(10,1,35)]}),
 (282,{size:=1,bytes:=8,agg:=false,zero:=[AC.nilp]}),
 (283,{size:=8,bytes:=112,agg:=true,zero:=[AC.t (Tr.int Go.IntKind.i64 (Int.ofNat 0)),AC.t (Tr.int Go.IntKind.i64 (Int.ofNat 0)),AC.nils 0,AC.t (Tr.int Go.IntKind.i64 (Int.ofNat 0)),AC.t (Tr.int Go.IntKind.i64 (Int.ofNat 0)),AC.nils 0,AC.t (Tr.int Go.IntKind.i64 (Int.ofNat 0)),AC.nils 0],fields:=[(0,1,3),(1,1,3),(2,1,132),(3,1,3),(4,1,3),(5,1,35),(6,1,3),(7,1,35)]}),
 (284,{size:=8,bytes:=112,agg:=true,zero:=[AC.t (Tr.int Go.IntKind.i64 (Int.ofNat 0)),AC.t (Tr.int Go.IntKind.i64 (Int.ofNat 0)),AC.nils 0,AC.t (Tr.int Go.IntKind.i64 (Int.ofNat 0)),AC.t (Tr.int Go.IntKind.i64 (Int.ofNat 0)),AC.nils 0,AC.t (Tr.int Go.IntKind.i64 (Int.ofNat 0)),AC.nils 0],fields:=[(0,1,3),(1,1,3),(2,1,132),(3,1,3),(4,1,3),(5,1,35),(6,1,3),(7,1,35)]}),
 (285,{size:=1,bytes:=8,agg:=false,zero:=[AC.opq]}),
 (286,{size:=1,bytes:=8,agg:=false,zero:=[AC.opq]}),
 (287,{size:=1,bytes:=8,agg:=false,zero:=[AC.opq]}),
 (288,{size:=1,bytes:=8,agg:=false,zero:=[AC.opq]}),
 (289,{size:=1,bytes:=8,agg:=false,zero:=[AC.nilp]}),
 (290,{size:=1,bytes:=8,agg:=false,zero:=[AC.opq]}),
 (291,{size:=1,bytes:=8,agg:=false,zero:=[AC.opq]}),
 (292,{size:=1,bytes:=8,agg:=false,zero:=[AC.opq]}),
 (293,{size:=1,bytes:=4,agg:=false,zero:=[AC.t (Tr.int Go.IntKind.u32 (Int.ofNat 0))],kind:=some Go.IntKind.u32}),
 (294,{size:=1,bytes:=8,agg:=false,zero:=[AC.opq],map:=some (some Go.IntKind.i64)}),
 (295,{size:=1,bytes:=8,agg:=false,zero:=[AC.opq]}),
 (296,{size:=1,bytes:=8,agg:=false,zero:=[AC.opq]}),
 (297,{size:=1,bytes:=8,agg:=false,zero:=[AC.opq]}),
 (298,{size:=1,bytes:=8,agg:=false,zero:=[AC.opq]}),
 (299,{size:=1,bytes:=24,agg:=false,zero:=[AC.nils 0],elem:=some 133}),
 (300,{size:=1,bytes:=8,agg:=false,zero:=[AC.opq]}),
 (301,{size:=1,bytes:=8,agg:=false,zero:=[AC.opq]}),
 (302,{size:=1,bytes:=8,agg:=false,zero:=[AC.opq]}),
 (303,{size:=4,bytes:=40,agg:=true,zero:=[AC.nilp,AC.nilp,AC.nilp,AC.t (Tr.str [])],fields:=[(0,1,17),(1,1,17),(2,1,17),(3,1,9)]}),
 (304,{size:=4,bytes:=40,agg:=true,zero:=[AC.nilp,AC.nilp,AC.nilp,AC.t (Tr.str [])],fields:=[(0,1,17),(1,1,17),(2,1,17),(3,1,9)]}),
 (308,{size:=1,bytes:=1,agg:=false,zero:=[AC.t (Tr.int Go.IntKind.u8 (Int.ofNat 0))],kind:=some Go.IntKind.u8}),
 (309,{size:=1,bytes:=1,agg:=false,zero:=[AC.t (Tr.int Go.IntKind.u8 (Int.ofNat 0))],kind:=some Go.IntKind.u8}),
 (310,{size:=1,bytes:=8,agg:=false,zero:=[AC.opq]}),
 (311,{size:=1,bytes:=8,agg:=false,zero:=[AC.nilp]}),
 (312,{size:=1,bytes:=4,agg:=false,zero:=[AC.t (Tr.int Go.IntKind.i32 (Int.ofNat 0))],kind:=some Go.IntKind.i32}),
 (313,{size:=1,bytes:=4,agg:=false,zero:=[AC.t (Tr.int Go.IntKind.i32 (Int.ofNat 0))],kind:=some Go.IntKind.i32}),
 (314,{size:=11,bytes:=48,agg:=true,zero:=[AC.t (Tr.int Go.IntKind.u64 (Int.ofNat 0)),AC.t (Tr.int Go.IntKind.u64 (Int.ofNat 0)),AC.t (Tr.int Go.IntKind.u32 (Int.ofNat 0)),AC.t (Tr.int Go.IntKind.u8 (Int.ofNat 0)),AC.t (Tr.int Go.IntKind.u8 (Int.ofNat 0)),AC.t (Tr.int Go.IntKind.u8 (Int.ofNat 0)),AC.t (Tr.int Go.IntKind.u8 (Int.ofNat 0)),AC.opq,AC.nilp,AC.t (Tr.int Go.IntKind.i32 (Int.ofNat 0)),AC.t (Tr.int Go.IntKind.i32 (Int.ofNat 0))],fields:=[(0,1,12),(1,1,12),(2,1,293),(3,1,308),(4,1,5),(5,1,5),(6,1,309),(7,1,310),(8,1,311),(9,1,312),(10,1,313)]}),
 (315,{size:=11,bytes:=48,agg:=true,zero:=[AC.t (Tr.int Go.IntKind.u64 (Int.ofNat 0)),AC.t (Tr.int Go.IntKind.u64 (Int.ofNat 0)),AC.t (Tr.int Go.IntKind.u32 (Int.ofNat 0)),AC.t (Tr.int Go.IntKind.u8 (Int.ofNat 0)),AC.t (Tr.int Go.IntKind.u8 (Int.ofNat 0)),AC.t (Tr.int Go.IntKind.u8 (Int.ofNat 0)),AC.t (Tr.int Go.IntKind.u8 (Int.ofNat 0)),AC.opq,AC.nilp,AC.t (Tr.int Go.IntKind.i32 (Int.ofNat 0)),AC.t (Tr.int Go.IntKind.i32 (Int.ofNat 0))],fields:=[(0,1,12),(1,1,12),(2,1,293),(3,1,308),(4,1,5),(5,1,5),(6,1,309),(7,1,310),(8,1,311),(9,1,312),(10,1,313)]}),
 (316,{size:=1,bytes:=8,agg:=false,zero:=[AC.nilp]})]
theorem hΓ:Γ.chk Tryz.prog=true:=by kernel_rfl
theorem hmix:Tryz.prog.follows .mixedOrders=true:=by kernel_rfl
end Go.Proofs.YtjmplnfiabmalaaGreat
namespace Go.Proofs.YtjmplnfiabmalaaGreat
open Go.Sim Go.ChangeShapes Go.WideShapes Go.ChangeAt Go.RowKit
theorem own:ownKnob Tryz.prog.godebug=none:=by kernel_rfl
theorem laidOut:laidOutB Tryz.prog=true:=by kernel_rfl
theorem rows_map {α:Type}{g:α→List Tr}{Q:α→Prop}:∀{rows:List (List Tr)},(∀r∈rows,∃m,r=g m∧Q m)→∃ns:List α,rows=ns.map g∧∀m∈ns,Q m
 | [],_=>⟨[],rfl,fun _ h=>by cases h⟩
 | r::rows,h=>by
  obtain⟨m,rfl,hm⟩:=h r (by simp)
  obtain⟨ns,rfl,hns⟩:=rows_map (rows:=rows) fun r hr=>h r (by simp[hr])
  exact⟨m::ns,rfl,fun x hx=>by
   rcases List.mem_cons.1 hx with rfl|hx
   ·exact hm
   ·exact hns x hx⟩
end Go.Proofs.YtjmplnfiabmalaaGreat
namespace Go.Proofs.YtjmplnfiabmalaaGreat
open Go.Sim
abbrev tvI (n:Int):TV:= .c (.int .i64 n)
abbrev tvS (n:List UInt8):TV:= .c (.str n)
abbrev rI (n:Int):Res:= .r (.c (.t (.int .i64 n)))
abbrev rB (b:Bool):Res:= .r (.c (.t (.bool b)))
abbrev rS (b:List UInt8):Res:= .r (.c (.t (.str b)))
def within (n lo hi:Int):Bool:=decide (lo≤n) && decide (n≤hi)
theorem within_iff {n lo hi:Int}:within n lo hi=true↔lo≤n∧n≤hi:=by simp[within]
set_option maxRecDepth 100000
theorem s_impl_between (n lo hi:Int):Sim.Spec Tryz.prog 79 [tvI n,tvI lo,tvI hi] (rB (within n lo hi)):=by
 refine spec_of_W hΓ hmix Tryz.func79 rfl (by decide) rfl ?_
 repeat' ((conv=>whnf);first|refine Or.inl ?_|apply oi|(apply fi<;>intro h)|refine⟨_,rfl,?_⟩|((with_reducible show _=_);rfl))
 all_goals try((with_reducible refine Obl.mk ?_);exact KO)
 all_goals refine⟨?_⟩
 all_goals simp_all[within]
 all_goals omega
theorem s_spec_l01In (n lo hi:Int):Sim.Spec Tryz.prog 74 [tvI n,tvI lo,tvI hi] (rB (within n lo hi)):=by
 refine spec_of_W hΓ hmix Tryz.func74 rfl (by decide) rfl ?_
 repeat' ((conv=>whnf);first|refine Or.inl ?_|apply oi|(apply fi<;>intro h)|refine⟨_,rfl,?_⟩|((with_reducible show _=_);rfl))
 all_goals try((with_reducible refine Obl.mk ?_);exact KO)
 all_goals refine⟨?_⟩
 all_goals simp_all[within]
 all_goals omega
def signed (n:Int):Int:=if within n 0 1099511627775 then(if n % 2=1 then -((n+1) / 2)else n / 2)else 0
end Go.Proofs.YtjmplnfiabmalaaGreat
namespace Go.Proofs.YtjmplnfiabmalaaGreat
open Go.Sim
set_option maxRecDepth 100000
def encN (n:Nat):List UInt8:=if n≤127 then [UInt8.ofNat n]else UInt8.ofNat (n % 128+128)::encN (n / 128)
 termination_by n
 decreasing_by omega
def enc (n:Int):List UInt8:=if within n 0 1099511627775 then encN n.toNat else []
end Go.Proofs.YtjmplnfiabmalaaGreat
namespace Go.Proofs.YtjmplnfiabmalaaGreat
open Go.Sim Go.RowKit
def inI (n:Int):Prop:= -9223372036854775808≤n∧n≤9223372036854775807
def intRow (n:Int):List Tr:=[.int .i64 n]
def strRow (s:List UInt8):List Tr:=[.str s]
structure TOp where
 fCode:Int
 fArg:Int
def TOp.tr (x:TOp):List Tr:=[.int .i64 x.fCode,.int .i64 x.fArg]
def TOp.wf (x:TOp):Prop:=inI x.fCode∧inI x.fArg
structure TTok where
 fKind:Int
 fNum:Int
 fName:List UInt8
def TTok.tr (x:TTok):List Tr:=[.int .i64 x.fKind,.int .i64 x.fNum,.str x.fName]
def TTok.wf (x:TTok):Prop:=inI x.fKind∧inI x.fNum∧x.fName.length≤maxLen
structure TLine where
 fKind:Int
 fName:List UInt8
 fArgs:List (List UInt8)
 fExpr:List TTok
def TLine.tr (x:TLine):List Tr:=[.int .i64 x.fKind,.str x.fName,.lst 1 (x.fArgs.map strRow),.lst 3 (x.fExpr.map TTok.tr)]
def TLine.wf (x:TLine):Prop:=inI x.fKind∧x.fName.length≤maxLen∧(x.fArgs.length≤maxLen∧∀y∈x.fArgs,y.length≤maxLen)∧(x.fExpr.length≤maxLen∧∀y∈x.fExpr,y.wf)
structure TBuild where
 fFrames:Int
 fInline:Int
 fFold:Bool
 fSplit:Bool
def TBuild.tr (x:TBuild):List Tr:=[.int .i64 x.fFrames,.int .i64 x.fInline,.bool x.fFold,.bool x.fSplit]
def TBuild.wf (x:TBuild):Prop:=inI x.fFrames∧inI x.fInline
structure TItem where
 fOp:TOp
 fLine:Int
 fStart:Bool
 fChain:List Int
 fDepth:Int
 fEntered:Bool
def TItem.tr (x:TItem):List Tr:=[.int .i64 x.fOp.fCode,.int .i64 x.fOp.fArg,.int .i64 x.fLine,.bool x.fStart,.lst 1 (x.fChain.map intRow),.int .i64 x.fDepth,.bool x.fEntered]
def TItem.wf (x:TItem):Prop:=x.fOp.wf∧inI x.fLine∧(x.fChain.length≤maxLen∧∀y∈x.fChain,inI y)∧inI x.fDepth
structure TSymbol where
 fName:List UInt8
 fStart:Int
 fSize:Int
def TSymbol.tr (x:TSymbol):List Tr:=[.str x.fName,.int .i64 x.fStart,.int .i64 x.fSize]
def TSymbol.wf (x:TSymbol):Prop:=x.fName.length≤maxLen∧inI x.fStart∧inI x.fSize
structure TImage where
 fCode:List UInt8
 fSymbols:List TSymbol
def TImage.tr (x:TImage):List Tr:=[.str x.fCode,.lst 3 (x.fSymbols.map TSymbol.tr)]
def TImage.wf (x:TImage):Prop:=x.fCode.length≤maxLen∧(x.fSymbols.length≤maxLen∧∀y∈x.fSymbols,y.wf)
structure TSpace where
 fImages:List TImage
 fBases:List Int
 fEntries:List Int
def TSpace.tr (x:TSpace):List Tr:=[.lst 2 (x.fImages.map TImage.tr),.lst 1 (x.fBases.map intRow),.lst 1 (x.fEntries.map intRow)]
def TSpace.wf (x:TSpace):Prop:=(x.fImages.length≤maxLen∧∀y∈x.fImages,y.wf)∧(x.fBases.length≤maxLen∧∀y∈x.fBases,inI y)∧(x.fEntries.length≤maxLen∧∀y∈x.fEntries,inI y)
structure TMachine where
 fPc:Int
 fSp:Int
 fFp:Int
 fStack:List Int
 fOut:List Int
 fState:Int
 fValue:Int
def TMachine.tr (x:TMachine):List Tr:=[.int .i64 x.fPc,.int .i64 x.fSp,.int .i64 x.fFp,.lst 1 (x.fStack.map intRow),.lst 1 (x.fOut.map intRow),.int .i64 x.fState,.int .i64 x.fValue]
def TMachine.wf (x:TMachine):Prop:=inI x.fPc∧inI x.fSp∧inI x.fFp∧(x.fStack.length≤maxLen∧∀y∈x.fStack,inI y)∧(x.fOut.length≤maxLen∧∀y∈x.fOut,inI y)∧inI x.fState∧inI x.fValue
structure TPlace where
 fOffset:Int
 fItem:TItem
def TPlace.tr (x:TPlace):List Tr:=[.int .i64 x.fOffset,.int .i64 x.fItem.fOp.fCode,.int .i64 x.fItem.fOp.fArg,.int .i64 x.fItem.fLine,.bool x.fItem.fStart,.lst 1 (x.fItem.fChain.map intRow),.int .i64 x.fItem.fDepth,.bool x.fItem.fEntered]
def TPlace.wf (x:TPlace):Prop:=inI x.fOffset∧x.fItem.wf
structure TRule where
 fStart:Int
 fEnd:Int
 fFrame:Bool
 fDepth:Int
def TRule.tr (x:TRule):List Tr:=[.int .i64 x.fStart,.int .i64 x.fEnd,.bool x.fFrame,.int .i64 x.fDepth]
def TRule.wf (x:TRule):Prop:=inI x.fStart∧inI x.fEnd∧inI x.fDepth
structure TView where
 fPc:Int
 fSp:Int
 fFp:Int
 fWords:List Int
def TView.tr (x:TView):List Tr:=[.int .i64 x.fPc,.int .i64 x.fSp,.int .i64 x.fFp,.lst 1 (x.fWords.map intRow)]
def TView.wf (x:TView):Prop:=inI x.fPc∧inI x.fSp∧inI x.fFp∧(x.fWords.length≤maxLen∧∀y∈x.fWords,inI y)
structure TRow where
 fOffset:Int
 fLine:Int
 fStart:Bool
def TRow.tr (x:TRow):List Tr:=[.int .i64 x.fOffset,.int .i64 x.fLine,.bool x.fStart]
def TRow.wf (x:TRow):Prop:=inI x.fOffset∧inI x.fLine
structure TInline where
 fStart:Int
 fEnd:Int
 fLevel:Int
 fLine:Int
 fName:List UInt8
def TInline.tr (x:TInline):List Tr:=[.int .i64 x.fStart,.int .i64 x.fEnd,.int .i64 x.fLevel,.int .i64 x.fLine,.str x.fName]
def TInline.wf (x:TInline):Prop:=inI x.fStart∧inI x.fEnd∧inI x.fLevel∧inI x.fLine∧x.fName.length≤maxLen
structure TDebug where
 fId:Int
 fSymbols:List TSymbol
 fRules:List TRule
 fRows:List TRow
 fInlines:List TInline
def TDebug.tr (x:TDebug):List Tr:=[.int .i64 x.fId,.lst 3 (x.fSymbols.map TSymbol.tr),.lst 4 (x.fRules.map TRule.tr),.lst 3 (x.fRows.map TRow.tr),.lst 5 (x.fInlines.map TInline.tr)]
def TDebug.wf (x:TDebug):Prop:=inI x.fId∧(x.fSymbols.length≤maxLen∧∀y∈x.fSymbols,y.wf)∧(x.fRules.length≤maxLen∧∀y∈x.fRules,y.wf)∧(x.fRows.length≤maxLen∧∀y∈x.fRows,y.wf)∧(x.fInlines.length≤maxLen∧∀y∈x.fInlines,y.wf)
structure TFrame where
 fName:List UInt8
 fLine:Int
def TFrame.tr (x:TFrame):List Tr:=[.str x.fName,.int .i64 x.fLine]
def TFrame.wf (x:TFrame):Prop:=x.fName.length≤maxLen∧inI x.fLine
end Go.Proofs.YtjmplnfiabmalaaGreat
namespace Go.Proofs.YtjmplnfiabmalaaGreat
open Go.Sim
set_option maxRecDepth 100000
abbrev tvL (sz:Nat)(rows:List (List Tr)):TV:= .c (.lst sz rows)
abbrev rL (sz:Nat)(rows:List (List Tr)):Res:= .r (.c (.arr sz rows))
theorem map_get {α β:Type}{f:α→β}{l:List α}{k:Nat}{x:α}(h:l[k]?=some x):(l.map f)[k]?=some (f x):=by simp[h]
theorem get_of_lt {α:Type}{l:List α}{k:Nat}(h:k < l.length):∃x,l[k]?=some x:=⟨_,List.getElem?_eq_getElem h⟩
theorem beq_at {ns ms:List Int}{k:Nat}{x y:Int}(h1:ns[k]?=some x)(h2:ms[k]?=some y)(hne:x≠y):(ns==ms)=false:=by
 rw[beq_eq_false_iff_ne]
 intro e
 subst e
 rw[h1]at h2
 injection h2 with h2
 exact hne h2
theorem beq_len {ns ms:List Int}(h:ns.length≠ms.length):(ns==ms)=false:=by
 rw[beq_eq_false_iff_ne]
 intro e;subst e;exact h rfl
theorem drop_at {α:Type}{l:List α}{k:Nat}{x:α}(h:l[k]?=some x):l.drop k=x::l.drop (k+1):=by
 have hk:k < l.length:=by
  rcases Nat.lt_or_ge k l.length with h'|h'
  ·exact h'
  ·rw[List.getElem?_eq_none h']at h;cases h
 rw[List.getElem?_eq_getElem hk]at h
 injection h with h
 rw[←h]
 exact List.drop_eq_getElem_cons hk
end Go.Proofs.YtjmplnfiabmalaaGreat
namespace Go.Proofs.YtjmplnfiabmalaaGreat
open Go.Sim Go.RowKit
set_option maxRecDepth 100000
theorem smallRs_map {α:Type}{g:α→List Tr}{L:Int}{l:List α}{sz:Nat}(h:smallT L (.lst sz (l.map g))){x:α}(hx:x∈l):smallR L (g x):=by
 rw[smallT]at h
 exact smallRs_mem h.2 _ (List.mem_map_of_mem hx)
theorem small_len {α:Type}{g:α→List Tr}{L:Int}{l:List α}{sz:Nat}(h:smallT L (.lst sz (l.map g))):(l.length:Int)≤L:=by
 rw[smallT]at h
 simpa using h.1
theorem small_nat {α:Type}{g:α→List Tr}{l:List α}{sz:Nat}(h:smallT 1048576 (.lst sz (l.map g))):l.length≤1048576:=by
 have:=small_len h
 omega
end Go.Proofs.YtjmplnfiabmalaaGreat
namespace Go.Proofs.YtjmplnfiabmalaaGreat
open Go.Sim
set_option maxRecDepth 100000
def atV (bs:List UInt8)(i:Nat):Nat:=match bs[(i * 5+1) % bs.length]? with|some b=>b.toNat|none=>0
theorem atV_le (bs:List UInt8)(i:Nat):atV bs i≤255:=by
 unfold atV
 split
 ·rename_i b _
  have:=b.toNat_lt
  omega
 ·omega
theorem s_laws_big (bs:List UInt8):Sim.Spec Tryz.prog 11 [tvL 1 (bs.map byteRow)] (rB (decide (1048576 < (bs.length:Int)))):=by
 refine spec_of_W hΓ hmix Tryz.func11 rfl (by decide) rfl ?_
 have hl:(bs.map byteRow).length=bs.length:=by simp
 repeat' ((conv=>whnf);first|refine Or.inl ?_|apply oi|(apply fi<;>intro h)|refine⟨_,rfl,?_⟩|((with_reducible show _=_);rfl))
 all_goals try((with_reducible refine Obl.mk ?_);exact KO)
 exact⟨by rw[hl]⟩
theorem s_laws_at (bs:List UInt8)(i:Nat)(hi:i≤1000)(hl:bs.length≤1048576):Sim.Spec Tryz.prog 23 [tvL 1 (bs.map byteRow),tvI (i:Int)] (rI (atV bs i)):=by
 refine spec_of_W hΓ hmix Tryz.func23 rfl (by decide) rfl ?_
 have hlen:(bs.map byteRow).length=bs.length:=by simp
 repeat' ((conv=>whnf);first|refine Or.inl ?_|apply oi|(apply fi<;>intro h)|refine⟨_,rfl,?_⟩|((with_reducible show _=_);rfl))
 all_goals try((with_reducible refine Obl.mk ?_);exact KO)
 ·have h0:bs.length=0:=by rw[hlen]at h;have:=eq_of_beq h;omega
  have:bs=[]:=List.eq_nil_of_length_eq_zero h0
  subst this
  exact⟨rfl⟩
 ·have h0:bs.length≠0:=by rw[hlen]at h;intro e;rw[e]at h;simp at h
  exact⟨by rw[hlen];omega⟩
 have h0:bs.length≠0:=by rw[hlen]at h;intro e;rw[e]at h;simp at h
 have hpos:0 < bs.length:=Nat.pos_of_ne_zero h0
 obtain⟨b,hb⟩:=get_of_lt (l:=bs) (k:=(i * 5+1) % bs.length) (Nat.mod_lt _ hpos)
 have hbl:=b.toNat_lt
 conv=>whnf
 refine⟨(i * 5+1) % bs.length,byteRow b,?_,map_get hb,?_⟩
 ·show(IntKind.i64.wrap (IntKind.i64.wrap (_ * 5)+1)).tmod _=_
  rw[IntWalk.i64_in ((i:Int) * 5) (by omega),IntWalk.i64_in _ (by omega),hlen,Int.tmod_eq_emod_of_nonneg (by omega)]
  simp
 repeat' ((conv=>whnf);first|refine Or.inl ?_|apply oi|(apply fi<;>intro h)|refine⟨_,rfl,?_⟩|((with_reducible show _=_);rfl))
 all_goals try((with_reducible refine Obl.mk ?_);exact KO)
 refine⟨congrArg (Tr.int _) ?_⟩
 rw[IntWalk.i64_in _ (by omega),atV,hb]
theorem s_laws_sameInts (ns ms:List Int)(hl:ns.length≤1048576):Sim.Spec Tryz.prog 27 [tvL 1 (ns.map intRow),tvL 1 (ms.map intRow)] (rB (ns==ms)):=by
 refine spec_of_W hΓ hmix Tryz.func27 rfl (by decide) rfl ?_
 have hlen:(ns.map intRow).length=ns.length:=by simp
 have hlen2:(ms.map intRow).length=ms.length:=by simp
 repeat' ((conv=>whnf);first|refine Or.inl ?_|apply oi|(apply fi<;>intro h)|refine⟨_,rfl,?_⟩|((with_reducible show _=_);rfl))
 all_goals try((with_reducible refine Obl.mk ?_);exact KO)
 ·rw[hlen,hlen2]at h
  rw[beq_len (by intro e;rw[e]at h;simp at h)]
  exact⟨rfl⟩
 have hle:ns.length=ms.length:=by
  rw[hlen,hlen2]at h
  have:((ns.length:Int)==(ms.length:Int))=true:=by simpa using h
  have:=eq_of_beq this
  omega
 repeat' ((conv=>whnf);first|refine Or.inl ?_|apply oi|(apply fi<;>intro h)|refine⟨_,rfl,?_⟩|((with_reducible show _=_);rfl))
 all_goals try((with_reducible refine Obl.mk ?_);exact KO)
 conv=>whnf
 refine⟨{k:Nat // k≤ns.length∧∀j,j < k→ns[j]?=ms[j]?},fun k=>⟨[(0,.r (.c (.t (.lst 1 (ns.map intRow))))),(1,.r (.c (.t (.lst 1 (ms.map intRow))))),(5,tI .i64 (k.1:Int))],[],[]⟩,fun k=>ns.length - k.1,⟨0,by omega,fun j hj=>by omega⟩,?_,?_⟩
 ·skip
  repeat' ((conv=>whnf);first|refine Or.inl ?_|apply oi|(apply fi<;>intro h)|refine⟨_,rfl,?_⟩|((with_reducible show _=_);rfl))
  all_goals try((with_reducible refine Obl.mk ?_);exact KO)
 intro⟨k,hk,hsame⟩
 dsimp only
 repeat' ((conv=>whnf);first|refine Or.inl ?_|apply oi|(apply fi<;>intro h)|refine⟨_,rfl,?_⟩|((with_reducible show _=_);rfl))
 all_goals try((with_reducible refine Obl.mk ?_);exact KO)
 ·have hlt:k < ns.length:=by have:=of_decide_eq_true h;omega
  obtain⟨x,hx⟩:=get_of_lt hlt
  obtain⟨y,hy⟩:=get_of_lt (show k < ms.length by omega)
  conv=>whnf
  refine⟨k,intRow x,rfl,map_get hx,?_⟩
  repeat' ((conv=>whnf);first|refine Or.inl ?_|apply oi|(apply fi<;>intro h)|refine⟨_,rfl,?_⟩|((with_reducible show _=_);rfl))
  all_goals try((with_reducible refine Obl.mk ?_);exact KO)
  conv=>whnf
  refine⟨k,intRow y,rfl,map_get hy,?_⟩
  repeat' ((conv=>whnf);first|refine Or.inl ?_|apply oi|(apply fi<;>intro h)|refine⟨_,rfl,?_⟩|((with_reducible show _=_);rfl))
  all_goals try((with_reducible refine Obl.mk ?_);exact KO)
  ·rw[beq_at hx hy (by simpa using h)]
   exact⟨rfl⟩
  have hxy:x=y:=by simpa using h
  conv=>whnf
  refine⟨⟨k+1,by omega,fun j hj=>?_⟩,?_,by dsimp only;omega⟩
  ·rcases Nat.lt_or_ge j k with h'|h'
   ·exact hsame j h'
   ·have:j=k:=by omega
    subst this
    rw[hx,hy,hxy]
  repeat' ((conv=>whnf);first|refine Or.inl ?_|apply oi|(apply fi<;>intro h)|refine⟨_,rfl,?_⟩|((with_reducible show _=_);rfl))
  all_goals try((with_reducible refine Obl.mk ?_);exact KO)
  exact⟨by dsimp only;rw[IntWalk.i64_in _ (by omega)];rfl⟩
 ·have hge:ns.length≤k:=by have:=of_decide_eq_false h;omega
  have:ns=ms:=List.ext_getElem? fun j=>by
   rcases Nat.lt_or_ge j k with h'|h'
   ·exact hsame j h'
   ·rw[List.getElem?_eq_none (by omega),List.getElem?_eq_none (by omega)]
  subst this
  exact⟨by simp⟩
end Go.Proofs.YtjmplnfiabmalaaGreat
namespace Go.Proofs.YtjmplnfiabmalaaGreat
open Go.Sim
set_option maxRecDepth 100000
set_option maxHeartbeats 4000000
def ruleOkAt (last:Int)(r:TRule):Prop:=last≤r.fStart∧r.fStart < r.fEnd∧r.fEnd≤1000000∧0≤r.fDepth∧r.fDepth≤1200∧(r.fFrame=true→r.fDepth=0)
instance (last:Int) (r:TRule):Decidable (ruleOkAt last r):=by unfold ruleOkAt;infer_instance
end Go.Proofs.YtjmplnfiabmalaaGreat
namespace Go.Proofs.YtjmplnfiabmalaaGreat
open Go.Sim
set_option maxRecDepth 100000
set_option maxHeartbeats 4000000
def machineOk (m:TMachine):Bool:=(m.fStack.length==1200) && within m.fSp 0 1200 && within m.fState 0 2
theorem s_impl_MachineOk (m:TMachine):Sim.Spec Tryz.prog 92 [.agg m.tr] (rB (machineOk m)):=by
 refine spec_of_W hΓ hmix Tryz.func92 rfl (by decide) rfl ?_
 have hlen:(m.fStack.map intRow).length=m.fStack.length:=by simp
 unfold machineOk
 repeat' ((conv=>whnf);first|refine Or.inl ?_|apply oi|(apply fi<;>intro h)|refine ci (s_impl_between _ _ _) (ai rfl (ai rfl (ai rfl trivial))) ?_|refine⟨_,rfl,?_⟩|((with_reducible show _=_);rfl))
 all_goals try((with_reducible refine Obl.mk ?_);exact KO)
 all_goals(refine⟨congrArg Tr.bool ?_⟩;simp_all;try omega)
theorem s_spec_MachineOk (m:TMachine):Sim.Spec Tryz.prog 96 [.agg m.tr] (rB (machineOk m)):=by
 refine spec_of_W hΓ hmix Tryz.func96 rfl (by decide) rfl ?_
 have hlen:(m.fStack.map intRow).length=m.fStack.length:=by simp
 unfold machineOk
 repeat' ((conv=>whnf);first|refine Or.inl ?_|apply oi|(apply fi<;>intro h)|refine ci (s_spec_l01In _ _ _) (ai rfl (ai rfl (ai rfl trivial))) ?_|refine⟨_,rfl,?_⟩|((with_reducible show _=_);rfl))
 all_goals try((with_reducible refine Obl.mk ?_);exact KO)
 all_goals(refine⟨congrArg Tr.bool ?_⟩;simp_all;try omega)
end Go.Proofs.YtjmplnfiabmalaaGreat
namespace Go.Proofs.YtjmplnfiabmalaaGreat
open Go.Sim
set_option maxRecDepth 100000
set_option maxHeartbeats 4000000
def low (b:UInt8):Bool:=decide (97≤b.toNat) && decide (b.toNat≤122)
def nameOk (s:List UInt8):Bool:=s.all low && within s.length 1 8
abbrev NameIx (s:List UInt8):={k:Nat // k≤s.length∧(s.take k).all low=true}
theorem all_take {α:Type}{p:α→Bool}{s:List α}{k:Nat}{b:α}(h:(s.take k).all p=true)(hb:s[k]?=some b)(hp:p b=true):(s.take (k+1)).all p=true:=by
 rw[List.take_add_one,hb]
 simp_all
theorem all_bad {α:Type}{p:α→Bool}{s:List α}{k:Nat}{b:α}(hb:s[k]?=some b)(hp:p b=false):s.all p=false:=by
 rw[Bool.eq_false_iff]
 intro h
 rw[List.all_eq_true]at h
 rw[h b (List.mem_of_getElem? hb)]at hp
 cases hp
theorem s_impl_NameOk (s:List UInt8)(hl:s.length≤1099511627775):Sim.Spec Tryz.prog 161 [tvS s] (rB (nameOk s)):=by
 refine spec_of_W hΓ hmix Tryz.func161 rfl (by decide) rfl ?_
 unfold nameOk
 repeat' ((conv=>whnf);first|refine Or.inl ?_|apply oi|(apply fi<;>intro h)|refine⟨_,rfl,?_⟩|((with_reducible show _=_);rfl))
 all_goals try((with_reducible refine Obl.mk ?_);exact KO)
 conv=>whnf
 refine⟨NameIx s,fun k=>⟨[(0,tS s),(3,tI .i64 (k.1:Int))],[],[]⟩,fun k=>s.length - k.1,⟨0,by omega,rfl⟩,?_,?_⟩
 ·skip
  repeat' ((conv=>whnf);first|refine Or.inl ?_|apply oi|(apply fi<;>intro h)|refine⟨_,rfl,?_⟩|((with_reducible show _=_);rfl))
  all_goals try((with_reducible refine Obl.mk ?_);exact KO)
 intro⟨k,hk,hp⟩
 dsimp only
 by_cases hlt:k < s.length
 ·obtain⟨b,hb⟩:=get_of_lt hlt
  have hbl:=b.toNat_lt
  cases hlo:low b with
  | false=>
   rw[all_bad hb hlo]
   unfold low at hlo
   repeat' ((conv=>whnf);first|refine Or.inl ?_|apply oi|(apply fi<;>intro h)|refine⟨k,b,rfl,hb,?_⟩|refine⟨_,rfl,?_⟩|((with_reducible show _=_);rfl))
   all_goals try((with_reducible refine Obl.mk ?_);exact KO)
   all_goals try exact KX
   all_goals(exfalso;simp at *;omega)
  | true=>
   have hnx:=all_take hp hb hlo
   unfold low at hlo
   repeat' ((conv=>whnf);first|refine Or.inl ?_|apply oi|(apply fi<;>intro h)|refine⟨k,b,rfl,hb,?_⟩|refine⟨_,rfl,?_⟩|((with_reducible show _=_);rfl))
   all_goals try((with_reducible refine Obl.mk ?_);exact KO)
   all_goals try exact KX
   all_goals try exact K1
   conv=>whnf
   refine⟨⟨k+1,by omega,hnx⟩,?_,by dsimp only;omega⟩
   repeat' ((conv=>whnf);first|refine Or.inl ?_|apply oi|(apply fi<;>intro h)|refine⟨_,rfl,?_⟩|((with_reducible show _=_);rfl))
   all_goals try((with_reducible refine Obl.mk ?_);exact KO)
   all_goals try exact⟨K2⟩
 ·have hge:s.length≤k:=by omega
  rw[List.take_of_length_le hge]at hp
  rw[hp]
  repeat' ((conv=>whnf);first|refine Or.inl ?_|apply oi|(apply fi<;>intro h)|refine ci (s_impl_between _ _ _) (ai rfl (ai rfl (ai rfl trivial))) ?_|refine⟨_,rfl,?_⟩|((with_reducible show _=_);rfl))
  all_goals try((with_reducible refine Obl.mk ?_);exact KO)
  all_goals try exact KX
theorem s_spec_NameOk (s:List UInt8)(hl:s.length≤1099511627775):Sim.Spec Tryz.prog 173 [tvS s] (rB (nameOk s)):=by
 refine spec_of_W hΓ hmix Tryz.func173 rfl (by decide) rfl ?_
 unfold nameOk
 repeat' ((conv=>whnf);first|refine Or.inl ?_|apply oi|(apply fi<;>intro h)|refine⟨_,rfl,?_⟩|((with_reducible show _=_);rfl))
 all_goals try((with_reducible refine Obl.mk ?_);exact KO)
 conv=>whnf
 refine⟨NameIx s,fun k=>⟨[(0,tS s),(3,tI .i64 (k.1:Int))],[],[]⟩,fun k=>s.length - k.1,⟨0,by omega,rfl⟩,?_,?_⟩
 ·skip
  repeat' ((conv=>whnf);first|refine Or.inl ?_|apply oi|(apply fi<;>intro h)|refine⟨_,rfl,?_⟩|((with_reducible show _=_);rfl))
  all_goals try((with_reducible refine Obl.mk ?_);exact KO)
 intro⟨k,hk,hp⟩
 dsimp only
 by_cases hlt:k < s.length
 ·obtain⟨b,hb⟩:=get_of_lt hlt
  have hbl:=b.toNat_lt
  cases hlo:low b with
  | false=>
   rw[all_bad hb hlo]
   unfold low at hlo
   repeat' ((conv=>whnf);first|refine Or.inl ?_|apply oi|(apply fi<;>intro h)|refine⟨k,b,rfl,hb,?_⟩|refine⟨_,rfl,?_⟩|((with_reducible show _=_);rfl))
   all_goals try((with_reducible refine Obl.mk ?_);exact KO)
   all_goals try exact KX
   all_goals(exfalso;simp at *;omega)
  | true=>
   have hnx:=all_take hp hb hlo
   unfold low at hlo
   repeat' ((conv=>whnf);first|refine Or.inl ?_|apply oi|(apply fi<;>intro h)|refine⟨k,b,rfl,hb,?_⟩|refine⟨_,rfl,?_⟩|((with_reducible show _=_);rfl))
   all_goals try((with_reducible refine Obl.mk ?_);exact KO)
   all_goals try exact KX
   all_goals try exact K1
   conv=>whnf
   refine⟨⟨k+1,by omega,hnx⟩,?_,by dsimp only;omega⟩
   repeat' ((conv=>whnf);first|refine Or.inl ?_|apply oi|(apply fi<;>intro h)|refine⟨_,rfl,?_⟩|((with_reducible show _=_);rfl))
   all_goals try((with_reducible refine Obl.mk ?_);exact KO)
   all_goals try exact⟨K2⟩
 ·have hge:s.length≤k:=by omega
  rw[List.take_of_length_le hge]at hp
  rw[hp]
  repeat' ((conv=>whnf);first|refine Or.inl ?_|apply oi|(apply fi<;>intro h)|refine ci (s_spec_l01In _ _ _) (ai rfl (ai rfl (ai rfl trivial))) ?_|refine⟨_,rfl,?_⟩|((with_reducible show _=_);rfl))
  all_goals try((with_reducible refine Obl.mk ?_);exact KO)
  all_goals try exact KX
def behind (p:Option TInline)(x:TInline):Prop:=match p with
 | none=>True
 | some p=>p.fLevel≤x.fLevel∧(p.fLevel=x.fLevel→p.fEnd≤x.fStart)
instance (p:Option TInline) (x:TInline):Decidable (behind p x):=by unfold behind;cases p <;> infer_instance
end Go.Proofs.YtjmplnfiabmalaaGreat
namespace Go.Proofs.YtjmplnfiabmalaaGreat
open Go.Sim
set_option maxRecDepth 100000
set_option maxHeartbeats 4000000
def tokOk (t:TTok):Bool:=
 if t.fKind=0 then within t.fNum 0 999 && t.fName==[]
 else if t.fKind=7 then within t.fNum 0 4 && nameOk t.fName
 else if t.fKind=1 then t.fNum==0 && nameOk t.fName
 else within t.fKind 2 6 && (t.fNum==0 && t.fName==[])
theorem s_spec_TokOk (t:TTok)(hl:t.fName.length≤1099511627775):Sim.Spec Tryz.prog 252 [.agg t.tr] (rB (tokOk t)):=by
 refine spec_of_W hΓ hmix Tryz.func252 rfl (by decide) rfl ?_
 have hN:=s_spec_NameOk t.fName hl
 unfold tokOk
 generalize nameOk t.fName=nb at *
 repeat' ((conv=>whnf);first|refine Or.inl ?_|apply oi|(apply fi<;>intro h)|refine ci (s_spec_l01In _ _ _) (ai rfl (ai rfl (ai rfl trivial))) ?_|refine ci hN (ai rfl trivial) ?_|refine⟨_,rfl,?_⟩|((with_reducible show _=_);rfl))
 all_goals try((with_reducible refine Obl.mk ?_);exact KO)
 all_goals(refine⟨congrArg Tr.bool ?_⟩;simp_all[within];(try(intros;omega));(try((repeat' split) <;> intros <;> omega)))
def arity (t:TTok):Int:=if tokOk t=false then -1 else if t.fKind=7 then t.fNum else if t.fKind=0∨t.fKind=1 then 0 else 2
theorem s_spec_Arity (t:TTok)(hl:t.fName.length≤1099511627775):Sim.Spec Tryz.prog 253 [.agg t.tr] (rI (arity t)):=by
 refine spec_of_W hΓ hmix Tryz.func253 rfl (by decide) rfl ?_
 have hT:=s_spec_TokOk t hl
 unfold arity
 generalize tokOk t=nb at *
 repeat' ((conv=>whnf);first|refine Or.inl ?_|apply oi|(apply fi<;>intro h)|refine ci hT (ai (ai rfl (ai rfl (ai rfl trivial))) trivial) ?_|refine⟨_,rfl,?_⟩|((with_reducible show _=_);rfl))
 all_goals try((with_reducible refine Obl.mk ?_);exact KO)
 all_goals(refine⟨congrArg (Tr.int _) ?_⟩;simp_all)
def ar (t:TTok):Nat:=(arity t).toNat
theorem ar_eq {t:TTok}(h:tokOk t=true):arity t=(ar t:Int)∧ar t≤4:=by
 unfold ar arity
 rw[if_neg (by simp[h])]
 unfold tokOk at h
 split
 ·rename_i h7
  rw[if_neg (by omega),if_pos h7]at h
  simp only[Bool.and_eq_true,within_iff]at h
  omega
 ·split <;> omega
def endL:List TTok→Nat→Nat→Option Nat
 | _,p,0=>some p
 | [],_,_+1=>none
 | t::l,p,n+1=>if tokOk t=true then endL l (p+1) (n+ar t)else none
def endI (o:Option Nat):Int:=match o with|some e=>e|none=> -1
def exprEnd (l:List TTok)(p:Int):Int:=if 0≤p then endI (endL (l.drop p.toNat) p.toNat 1)else -1
theorem endL_at {l:List TTok}{p n:Nat}{t:TTok}(h:l[p]?=some t):endL (l.drop p) p (n+1)=if tokOk t=true then endL (l.drop (p+1)) (p+1) (n+ar t)else none:=by
 rw[drop_at h,endL]
abbrev EndIx (l:List TTok)(R:Int):={q:Nat×Nat // q.1≤l.length∧q.2≤1+4 * q.1∧endI (endL (l.drop q.1) q.1 q.2)=R}
def toksShort (l:List TTok):Prop:=∀t∈l,t.fName.length≤1099511627775
theorem s_spec_ExprEnd (l:List TTok)(p:Int)(hl:l.length≤1048576)(hn:toksShort l):Sim.Spec Tryz.prog 231 [tvL 3 (l.map TTok.tr),tvI p] (rI (exprEnd l p)):=by
 refine spec_of_W hΓ hmix Tryz.func231 rfl (by decide) rfl ?_
 have hlen:(l.map TTok.tr).length=l.length:=by simp
 by_cases h0:0≤p
 ·obtain⟨p,rfl⟩:=Int.eq_ofNat_of_zero_le h0
  obtain⟨R,hR⟩:∃R,exprEnd l (p:Int)=R:=⟨_,rfl⟩
  rw[hR]
  rw[exprEnd,if_pos h0,Int.toNat_natCast]at hR
  by_cases hlp:p≤l.length
  ·skip
   repeat' ((conv=>whnf);first|refine Or.inl ?_|apply oi|(apply fi<;>intro h)|refine⟨_,rfl,?_⟩|((with_reducible show _=_);rfl))
   all_goals try((with_reducible refine Obl.mk ?_);exact KO)
   all_goals try exact KX
   conv=>whnf
   refine⟨EndIx l R,fun q=>⟨[(0,.r (.c (.t (.lst 3 (l.map TTok.tr))))),(1,tI .i64 (q.1.1:Int)),(5,tI .i64 (q.1.2:Int))],[],[]⟩,fun q=>l.length - q.1.1,⟨(p,1),by omega,by omega,hR⟩,?_,?_⟩
   ·skip
    repeat' ((conv=>whnf);first|refine Or.inl ?_|apply oi|(apply fi<;>intro h)|refine⟨_,rfl,?_⟩|((with_reducible show _=_);rfl))
    all_goals try((with_reducible refine Obl.mk ?_);exact KO)
   intro⟨⟨a,n⟩,ha,hn4,hr⟩
   dsimp only at ha hn4 hr ⊢
   cases n with
   | zero=>
    have:R=(a:Int):=by
     rw[←hr]
     cases l.drop a <;> rfl
    subst this
    repeat' ((conv=>whnf);first|refine Or.inl ?_|apply oi|(apply fi<;>intro h)|refine⟨_,rfl,?_⟩|((with_reducible show _=_);rfl))
    all_goals try((with_reducible refine Obl.mk ?_);exact KO)
    all_goals try exact KX
   | succ n=>
    by_cases hlt:a < l.length
    ·obtain⟨t,ht⟩:=get_of_lt hlt
     rw[endL_at ht]at hr
     have hT:=s_spec_TokOk t (hn t (List.mem_of_getElem? ht))
     have hA:=s_spec_Arity t (hn t (List.mem_of_getElem? ht))
     cases hok:tokOk t with
     | false=>
      rw[hok]at hT
      rw[if_neg (by simp[hok])]at hr
      subst hr
      repeat' ((conv=>whnf);first|refine Or.inl ?_|apply oi|(apply fi<;>intro h)|refine⟨a,t.tr,rfl,map_get ht,?_⟩|refine ci hT (ai (ai rfl (ai rfl (ai rfl trivial))) trivial) ?_|refine⟨_,rfl,?_⟩|((with_reducible show _=_);rfl))
      all_goals try((with_reducible refine Obl.mk ?_);exact KO)
      all_goals try exact KX
     | true=>
      obtain⟨e1,e2⟩:=ar_eq hok
      rw[e1]at hA
      rw[hok]at hT
      rw[if_pos hok]at hr
      repeat' ((conv=>whnf);first|refine Or.inl ?_|apply oi|(apply fi<;>intro h)|refine⟨a,t.tr,rfl,map_get ht,?_⟩|refine ci hT (ai (ai rfl (ai rfl (ai rfl trivial))) trivial) ?_|refine ci hA (ai (ai rfl (ai rfl (ai rfl trivial))) trivial) ?_|refine⟨_,rfl,?_⟩|((with_reducible show _=_);rfl))
      all_goals try((with_reducible refine Obl.mk ?_);exact KO)
      all_goals try exact KX
      conv=>whnf
      refine⟨⟨(a+1,n+ar t),by dsimp only;omega,by dsimp only;omega,hr⟩,?_,by dsimp only;omega⟩
      repeat' ((conv=>whnf);first|refine Or.inl ?_|apply oi|(apply fi<;>intro h)|refine⟨_,rfl,?_⟩|((with_reducible show _=_);rfl))
      all_goals try((with_reducible refine Obl.mk ?_);exact KO)
      all_goals try exact⟨K2⟩
      all_goals try exact⟨by dsimp only;congr 1;rw[IntWalk.i64_in _ (by omega)];omega⟩
      all_goals exact⟨congrArg (Tr.int _) (by dsimp only;simp(disch:=omega)only[IntWalk.i64_in];omega)⟩
    ·rw[List.drop_eq_nil_of_le (by omega),endL]at hr
     subst hr
     repeat' ((conv=>whnf);first|refine Or.inl ?_|apply oi|(apply fi<;>intro h)|refine⟨_,rfl,?_⟩|((with_reducible show _=_);rfl))
     all_goals try((with_reducible refine Obl.mk ?_);exact KO)
     all_goals try exact KX
  ·rw[List.drop_eq_nil_of_le (by omega),endL]at hR
   subst hR
   repeat' ((conv=>whnf);first|refine Or.inl ?_|apply oi|(apply fi<;>intro h)|refine⟨_,rfl,?_⟩|((with_reducible show _=_);rfl))
   all_goals try((with_reducible refine Obl.mk ?_);exact KO)
   all_goals try exact KX
   conv=>whnf
   refine⟨Unit,fun q=>⟨[(0,.r (.c (.t (.lst 3 (l.map TTok.tr))))),(1,tI .i64 (p:Int)),(5,tI .i64 1)],[],[]⟩,fun q=>0,(),?_,?_⟩
   ·skip
    repeat' ((conv=>whnf);first|refine Or.inl ?_|apply oi|(apply fi<;>intro h)|refine⟨_,rfl,?_⟩|((with_reducible show _=_);rfl))
    all_goals try((with_reducible refine Obl.mk ?_);exact KO)
   intro q
   repeat' ((conv=>whnf);first|refine Or.inl ?_|apply oi|(apply fi<;>intro h)|refine⟨_,rfl,?_⟩|((with_reducible show _=_);rfl))
   all_goals try((with_reducible refine Obl.mk ?_);exact KO)
   all_goals try exact KX
 ·have he:exprEnd l p= -1:=by rw[exprEnd,if_neg h0]
  rw[he]
  repeat' ((conv=>whnf);first|refine Or.inl ?_|apply oi|(apply fi<;>intro h)|refine⟨_,rfl,?_⟩|((with_reducible show _=_);rfl))
  all_goals try((with_reducible refine Obl.mk ?_);exact KO)
  all_goals try exact KX
def exprOk (l:List TTok):Bool:=decide (l.length≤20) && (decide (0 < l.length) && exprEnd l 0==(l.length:Int))
theorem s_spec_ExprOk (l:List TTok)(hl:l.length≤1048576)(hn:toksShort l):Sim.Spec Tryz.prog 175 [tvL 3 (l.map TTok.tr)] (rB (exprOk l)):=by
 refine spec_of_W hΓ hmix Tryz.func175 rfl (by decide) rfl ?_
 have hlen:(l.map TTok.tr).length=l.length:=by simp
 have hE:=s_spec_ExprEnd l 0 hl hn
 unfold exprOk
 generalize exprEnd l 0=e at *
 repeat' ((conv=>whnf);first|refine Or.inl ?_|apply oi|(apply fi<;>intro h)|refine ci hE (ai rfl (ai rfl trivial)) ?_|refine⟨_,rfl,?_⟩|((with_reducible show _=_);rfl))
 all_goals try((with_reducible refine Obl.mk ?_);exact KO)
 all_goals(refine⟨congrArg Tr.bool ?_⟩;simp_all;try omega)
end Go.Proofs.YtjmplnfiabmalaaGreat
namespace Go.Proofs.YtjmplnfiabmalaaGreat
open Go.Sim
set_option maxRecDepth 100000
set_option maxHeartbeats 4000000
def idxN {α:Type}[BEq α]:List α→Nat→α→Option Nat
 | [],_,_=>none
 | x::l,i,s=>if(x==s)=true then some i else idxN l (i+1) s
theorem idxN_at {α:Type}[BEq α]{l:List α}{i:Nat}{x s:α}(hx:l[i]?=some x):idxN (l.drop i) i s=if(x==s)=true then some i else idxN (l.drop (i+1)) (i+1) s:=by
 rw[drop_at hx,idxN]
theorem idxN_some {α:Type}[BEq α]:∀{l:List α} {i k:Nat} {s:α},idxN l i s=some k→i≤k∧k < i+l.length
 | [],_,_,_,h=>by rw[idxN]at h;cases h
 | x::l,i,k,s,h=>by
  rw[idxN]at h
  simp only[List.length_cons]
  split at h
  ·injection h with h;omega
  ·have:=idxN_some h;omega
theorem idxN_has {α:Type}[BEq α][LawfulBEq α]:∀{l:List α} {i:Nat} {s:α},(idxN l i s).isSome=l.contains s
 | [],_,_=>rfl
 | x::l,i,s=>by
  rw[idxN,List.contains_cons]
  cases h:(x==s)with
  | true=>rw[if_pos rfl];simp[eq_of_beq h]
  | false=>
   have h2:(s==x)=false:=by rw[beq_eq_false_iff_ne]at h ⊢;exact fun e=>h e.symm
   rw[if_neg (by simp),h2,Bool.false_or]
   exact idxN_has
def idxOf {α:Type}[BEq α](l:List α)(s:α):Int:=endI (idxN l 0 s)
theorem idxOf_has {α:Type}[BEq α][LawfulBEq α]{l:List α}{s:α}:decide (0≤idxOf l s)=l.contains s:=by
 rw[←idxN_has (i:=0),idxOf]
 cases idxN l 0 s with
 | none=>rfl
 | some k=>simp[endI]
def argN (l:List (List UInt8)):Nat→Nat→Bool
 | 0,_=>true
 | n+1,k=>match l[k]? with
  | some s=>if nameOk s=true∧(l.take k).contains s=false then argN l n (k+1)else false
  | none=>true
theorem argN_step {l:List (List UInt8)}{k:Nat}{s:List UInt8}(hx:l[k]?=some s):argN l (l.length - k) k=if nameOk s=true∧(l.take k).contains s=false then argN l (l.length - (k+1)) (k+1)else false:=by
 have hk:k < l.length:=by
  rcases Nat.lt_or_ge k l.length with h|h
  ·exact h
  ·rw[List.getElem?_eq_none h]at hx;cases hx
 rw[show l.length - k=(l.length - (k+1))+1 by omega,argN,hx]
def areArgs (l:List (List UInt8)):Bool:=argN l l.length 0 && decide (l.length≤4)
def hasExpr (k:Int):Bool:=k==1 || (k==2 || (k==3 || (k==5 || k==6)))
theorem s_spec_l03HasExpr (k:Int)(hk:within k 0 7=true):Sim.Spec Tryz.prog 174 [tvI k] (rB (hasExpr k)):=by
 refine spec_of_W hΓ hmix Tryz.func174 rfl (by decide) rfl ?_
 have:=within_iff.1 hk
 unfold hasExpr
 repeat' ((conv=>whnf);first|refine Or.inl ?_|apply oi|(apply fi<;>intro h)|refine⟨_,rfl,?_⟩|((with_reducible show _=_);rfl))
 all_goals try((with_reducible refine Obl.mk ?_);exact KO)
 all_goals(refine⟨congrArg Tr.bool ?_⟩;simp_all;(try(rw[Bool.eq_iff_iff];simp;done));(try(rw[Bool.eq_iff_iff];simp;omega)))
def lineOk (x:TLine):Bool:=within x.fKind 0 7 && ((if x.fKind=0∨x.fKind=1 then nameOk x.fName else x.fName==[]) && ((if x.fKind=0 then areArgs x.fArgs else x.fArgs.length==0) && (if hasExpr x.fKind=true then exprOk x.fExpr else x.fExpr.length==0)))
theorem line_small {x:TLine}(hs:smallR 1048576 x.tr):x.fName.length≤1048576∧x.fArgs.length≤1048576∧(∀y∈x.fArgs,y.length≤1048576)∧x.fExpr.length≤1048576∧(∀y∈x.fExpr,y.fName.length≤1048576):=by
 simp only[TLine.tr,smallR]at hs
 obtain⟨_,h1,h2,h3,_⟩:=hs
 have e1:=small_len h2
 have e2:=small_len h3
 refine⟨by rw[smallT]at h1;omega,by omega,fun y hy=>?_,by omega,fun y hy=>?_⟩
 ·have:=smallRs_map h2 hy
  simp only[strRow,smallR,smallT]at this
  omega
 ·have:=smallRs_map h3 hy
  simp only[TTok.tr,smallR,smallT]at this
  omega
theorem lineOk_kind {x:TLine}(h:within x.fKind 0 7=false):lineOk x=false:=by
 unfold lineOk;rw[h];rfl
theorem lineOk_args {x:TLine}(h:4 < x.fArgs.length):lineOk x=false:=by
 have h1:areArgs x.fArgs=false:=by unfold areArgs;rw[decide_eq_false (by omega),Bool.and_false]
 have h2:(x.fArgs.length==0)=false:=by rw[beq_eq_false_iff_ne];omega
 unfold lineOk
 rw[h1,h2]
 split <;> simp
theorem drop_has {l:List (List UInt8)}{k i:Nat}{y s:List UInt8}(hi:i < k)(hy:l[i]?=some y):((l.take k).drop i).contains s=(s==y || ((l.take k).drop (i+1)).contains s):=by
 rw[drop_at (x:=y) (by rw[List.getElem?_take,if_pos hi];exact hy),List.contains_cons]
theorem lineOk_0 {x:TLine}(hk:within x.fKind 0 7=true)(h0:x.fKind=0)(ha:x.fArgs.length≤4):lineOk x=(argN x.fArgs x.fArgs.length 0 && (nameOk x.fName && x.fExpr.length==0)):=by
 unfold lineOk areArgs
 rw[hk,if_pos (.inl h0),if_pos h0,if_neg (by rw[h0];decide),decide_eq_true ha]
 cases nameOk x.fName <;> cases argN x.fArgs x.fArgs.length 0 <;> simp
theorem lineOk_1 {x:TLine}(hk:within x.fKind 0 7=true)(h0:x.fKind≠0):lineOk x=(x.fArgs.length==0 && ((if x.fKind=1 then nameOk x.fName else x.fName==[]) && (if hasExpr x.fKind=true then exprOk x.fExpr else x.fExpr.length==0))):=by
 have e:(if x.fKind=0∨x.fKind=1 then nameOk x.fName else x.fName==[])=(if x.fKind=1 then nameOk x.fName else x.fName==[]):=by
  by_cases h1:x.fKind=1
  ·rw[if_pos (.inr h1),if_pos h1]
  ·rw[if_neg (by omega),if_neg h1]
 unfold lineOk
 rw[hk,if_neg h0,e,Bool.true_and]
 generalize(if x.fKind=1 then nameOk x.fName else x.fName==[])=a
 generalize(if hasExpr x.fKind=true then exprOk x.fExpr else x.fExpr.length==0)=b
 cases a <;> cases(x.fArgs.length==0) <;> simp
theorem natBeq0 (n:Nat):((n:Int)==0)=(n==0):=by rw[Bool.eq_iff_iff];simp
abbrev lBox (x:TLine):AO:= .box (x.tr.map .t)
theorem s_spec_LineOk (x:TLine)(hs:smallR 1048576 x.tr):Sim.Spec Tryz.prog 118 [.agg x.tr] (rB (lineOk x)):=by
 refine spec_of_W hΓ hmix Tryz.func118 rfl (by decide) rfl ?_
 obtain⟨h1,h2,h3,h4,h5⟩:=line_small hs
 have hB:=s_spec_l01In x.fKind 0 7
 have hN:=s_spec_NameOk x.fName (by omega)
 have hE:=s_spec_ExprOk x.fExpr h4 (fun y hy=>by have:=h5 y hy;omega)
 have hl1:(x.fArgs.map strRow).length=x.fArgs.length:=by simp
 have hl2:(x.fExpr.map TTok.tr).length=x.fExpr.length:=by simp
 cases hk:within x.fKind 0 7 with
 | false=>
  rw[hk]at hB
  rw[lineOk_kind hk]
  repeat' ((conv=>whnf);first|refine Or.inl ?_|apply oi|(apply fi<;>intro h)|refine ci hB (ai rfl (ai rfl (ai rfl trivial))) ?_|refine⟨_,rfl,?_⟩|((with_reducible show _=_);rfl))
  all_goals try((with_reducible refine Obl.mk ?_);exact KO)
  all_goals try exact KX
 | true=>
  rw[hk]at hB
  have hH:=s_spec_l03HasExpr x.fKind hk
  by_cases ha:x.fArgs.length≤4
  ·by_cases h0:x.fKind=0
   ·rw[lineOk_0 hk h0 ha]
    generalize nameOk x.fName=b2 at *
    generalize exprOk x.fExpr=b5 at *
    obtain⟨A,hA⟩:∃A,argN x.fArgs x.fArgs.length 0=A:=⟨_,rfl⟩
    rw[hA]
    have hh0:hasExpr x.fKind=false:=by rw[h0];rfl
    rw[hh0]at hH
    repeat' ((conv=>whnf);first|refine Or.inl ?_|apply oi|(apply fi<;>intro h)|refine ci hB (ai rfl (ai rfl (ai rfl trivial))) ?_|refine⟨_,rfl,?_⟩|((with_reducible show _=_);rfl))
    all_goals try((with_reducible refine Obl.mk ?_);exact KO)
    all_goals try exact KX
    conv=>whnf
    refine⟨{k:Nat // k≤x.fArgs.length∧argN x.fArgs (x.fArgs.length - k) k=A},fun q=>⟨[(1,.r (.c (.ptr (1,0,0) 0))),(3,tI .i64 (q.1:Int))],[((1,0,0),some (lBox x))],[1]⟩,fun q=>x.fArgs.length - q.1,⟨0,by omega,by rw[Nat.sub_zero];exact hA⟩,?_,?_⟩
    ·skip
     repeat' ((conv=>whnf);first|refine Or.inl ?_|apply oi|(apply fi<;>intro h)|refine⟨_,rfl,?_⟩|((with_reducible show _=_);rfl))
     all_goals try((with_reducible refine Obl.mk ?_);exact KO)
    intro⟨k,hkl,hr⟩
    dsimp only at hkl hr ⊢
    by_cases hlt:k < x.fArgs.length
    ·obtain⟨s,hsk⟩:=get_of_lt hlt
     rw[argN_step hsk]at hr
     have hN2:=s_spec_NameOk s (by have:=h3 s (List.mem_of_getElem? hsk);omega)
     cases hno:nameOk s with
     | false=>
      rw[hno]at hN2 hr
      rw[if_neg (by simp)]at hr
      subst hr
      repeat' ((conv=>whnf);first|refine Or.inl ?_|apply oi|(apply fi<;>intro h)|refine ci hN2 (ai rfl trivial) ?_|refine⟨k,(strRow s),rfl,map_get hsk,?_⟩|refine⟨_,rfl,?_⟩|((with_reducible show _=_);rfl))
      all_goals try((with_reducible refine Obl.mk ?_);exact KO)
      all_goals try exact KX
     | true=>
      rw[hno]at hN2 hr
      obtain⟨C,hC⟩:∃C,(x.fArgs.take k).contains s=C:=⟨_,rfl⟩
      rw[hC]at hr
      repeat' ((conv=>whnf);first|refine Or.inl ?_|apply oi|(apply fi<;>intro h)|refine ci hN2 (ai rfl trivial) ?_|refine⟨k,(strRow s),rfl,map_get hsk,?_⟩|refine⟨_,rfl,?_⟩|((with_reducible show _=_);rfl))
      all_goals try((with_reducible refine Obl.mk ?_);exact KO)
      all_goals try exact KX
      all_goals try(exfalso;(try simp_all[within]);(try omega);done)
      conv=>whnf
      refine⟨{i:Nat // i≤k∧((x.fArgs.take k).drop i).contains s=C},fun q=>⟨[(1,.r (.c (.ptr (1,0,0) 0))),(3,tI .i64 (k:Int)),(4,tI .i64 (q.1:Int))],[((1,0,0),some (lBox x))],[1]⟩,fun q=>k - q.1,⟨0,by omega,hC⟩,?_,?_⟩
      ·skip
       repeat' ((conv=>whnf);first|refine Or.inl ?_|apply oi|(apply fi<;>intro h)|refine⟨_,rfl,?_⟩|((with_reducible show _=_);rfl))
       all_goals try((with_reducible refine Obl.mk ?_);exact KO)
      intro⟨i,hik,hc⟩
      dsimp only at hik hc ⊢
      by_cases hil:i < k
      ·obtain⟨y,hy⟩:=get_of_lt (l:=x.fArgs) (k:=i) (by omega)
       rw[drop_has hil hy]at hc
       by_cases hys:s=y
       ·subst hys
        rw[beq_self_eq_true,Bool.true_or]at hc
        subst hc
        rw[if_neg (by simp)]at hr
        subst hr
        repeat' ((conv=>whnf);first|refine Or.inl ?_|apply oi|(apply fi<;>intro h)|refine⟨i,(strRow s),rfl,map_get hy,?_⟩|refine⟨k,(strRow s),rfl,map_get hsk,?_⟩|refine⟨_,rfl,?_⟩|((with_reducible show _=_);rfl))
        all_goals try((with_reducible refine Obl.mk ?_);exact KO)
        all_goals try exact KX
        all_goals try(exfalso;(try simp_all[within]);(try omega);done)
       ·rw[beq_eq_false_iff_ne.2 hys,Bool.false_or]at hc
        repeat' ((conv=>whnf);first|refine Or.inl ?_|apply oi|(apply fi<;>intro h)|refine⟨i,(strRow y),rfl,map_get hy,?_⟩|refine⟨k,(strRow s),rfl,map_get hsk,?_⟩|refine⟨_,rfl,?_⟩|((with_reducible show _=_);rfl))
        all_goals try((with_reducible refine Obl.mk ?_);exact KO)
        all_goals try exact KX
        all_goals try(exfalso;apply hys;simp_all;done)
        conv=>whnf
        refine⟨⟨i+1,by omega,hc⟩,?_,by dsimp only;omega⟩
        repeat' ((conv=>whnf);first|refine Or.inl ?_|apply oi|(apply fi<;>intro h)|refine⟨_,rfl,?_⟩|((with_reducible show _=_);rfl))
        all_goals try((with_reducible refine Obl.mk ?_);exact KO)
        all_goals try exact⟨K2⟩
      ·rw[List.drop_eq_nil_of_le (by simp;omega)]at hc
       have hc:false=C:=hc
       subst hc
       rw[if_pos ⟨rfl,rfl⟩]at hr
       repeat' ((conv=>whnf);first|refine Or.inl ?_|apply oi|(apply fi<;>intro h)|refine⟨_,rfl,?_⟩|((with_reducible show _=_);rfl))
       all_goals try((with_reducible refine Obl.mk ?_);exact KO)
       all_goals try exact KX
       conv=>whnf
       refine⟨⟨k+1,by omega,hr⟩,?_,by dsimp only;omega⟩
       repeat' ((conv=>whnf);first|refine Or.inl ?_|apply oi|(apply fi<;>intro h)|refine⟨_,rfl,?_⟩|((with_reducible show _=_);rfl))
       all_goals try((with_reducible refine Obl.mk ?_);exact KO)
       all_goals try exact⟨K2⟩
    ·rw[show x.fArgs.length - k=0 by omega]at hr
     have hr:true=A:=hr
     subst hr
     repeat' ((conv=>whnf);first|refine Or.inl ?_|apply oi|(apply fi<;>intro h)|refine ci hN (ai rfl trivial) ?_|refine ci hH (ai rfl trivial) ?_|refine ci hE (ai rfl trivial) ?_|refine⟨_,rfl,?_⟩|((with_reducible show _=_);rfl))
     all_goals try((with_reducible refine Obl.mk ?_);exact KO)
     all_goals try exact KX
     all_goals try(exfalso;(try simp_all[within]);(try omega);done)
     all_goals(refine⟨congrArg Tr.bool ?_⟩;simp_all;(try exact natBeq0 _))
   ·rw[lineOk_1 hk h0]
    generalize nameOk x.fName=b2 at *
    generalize exprOk x.fExpr=b5 at *
    generalize hasExpr x.fKind=b4 at *
    repeat' ((conv=>whnf);first|refine Or.inl ?_|apply oi|(apply fi<;>intro h)|refine ci hB (ai rfl (ai rfl (ai rfl trivial))) ?_|refine⟨_,rfl,?_⟩|((with_reducible show _=_);rfl))
    all_goals try((with_reducible refine Obl.mk ?_);exact KO)
    all_goals try exact KX
    conv=>whnf
    refine⟨Unit,fun q=>⟨[(1,.r (.c (.ptr (1,0,0) 0))),(3,tI .i64 0)],[((1,0,0),some (lBox x))],[1]⟩,fun q=>0,(),?_,?_⟩
    ·skip
     repeat' ((conv=>whnf);first|refine Or.inl ?_|apply oi|(apply fi<;>intro h)|refine⟨_,rfl,?_⟩|((with_reducible show _=_);rfl))
     all_goals try((with_reducible refine Obl.mk ?_);exact KO)
    intro q
    dsimp only
    by_cases hlt:0 < x.fArgs.length
    ·obtain⟨s,hsk⟩:=get_of_lt hlt
     have hN2:=s_spec_NameOk s (by have:=h3 s (List.mem_of_getElem? hsk);omega)
     rw[show(x.fArgs.length==0)=false by rw[beq_eq_false_iff_ne];omega]
     repeat' ((conv=>whnf);first|refine Or.inl ?_|apply oi|(apply fi<;>intro h)|refine ci hN2 (ai rfl trivial) ?_|refine⟨0,(strRow s),rfl,map_get hsk,?_⟩|refine⟨_,rfl,?_⟩|((with_reducible show _=_);rfl))
     all_goals try((with_reducible refine Obl.mk ?_);exact KO)
     all_goals try exact KX
     all_goals try(exfalso;(try simp_all[within]);(try omega);done)
     all_goals try(exfalso;simp_all;done)
    ·have hz:x.fArgs.length=0:=by omega
     rw[show(x.fArgs.length==0)=true by rw[hz];rfl]
     rw[hz]at hl1
     repeat' ((conv=>whnf);first|refine Or.inl ?_|apply oi|(apply fi<;>intro h)|refine ci hN (ai rfl trivial) ?_|refine ci hH (ai rfl trivial) ?_|refine ci hE (ai rfl trivial) ?_|refine⟨_,rfl,?_⟩|((with_reducible show _=_);rfl))
     all_goals try((with_reducible refine Obl.mk ?_);exact KO)
     all_goals try(exfalso;simp_all;done)
     all_goals(refine⟨congrArg Tr.bool ?_⟩;simp_all;(try exact natBeq0 _);(try(rw[Bool.eq_iff_iff];simp;omega)))
  ·rw[lineOk_args (by omega)]
   repeat' ((conv=>whnf);first|refine Or.inl ?_|apply oi|(apply fi<;>intro h)|refine ci hB (ai rfl (ai rfl (ai rfl trivial))) ?_|refine⟨_,rfl,?_⟩|((with_reducible show _=_);rfl))
   all_goals try((with_reducible refine Obl.mk ?_);exact KO)
   all_goals try exact KX
end Go.Proofs.YtjmplnfiabmalaaGreat
namespace Go.Proofs.YtjmplnfiabmalaaGreat
open Go.Sim
set_option maxRecDepth 100000
set_option maxHeartbeats 4000000
def opensK (k:Int):Bool:=k==0 || (k==3 || k==5)
theorem opensK_iff {k:Int}:opensK k=true↔k=0∨k=3∨k=5:=by simp[opensK]
def endN:List TLine→Nat→Nat→Option Nat
 | [],_,_=>none
 | x::l,i,o=>if opensK x.fKind=true then endN l (i+1) (o+1)else if x.fKind=7 then(if o=1 then some i else endN l (i+1) (o - 1))else endN l (i+1) o
def endAt (l:List TLine)(k:Nat):Option Nat:=match l[k]? with
 | some x=>if opensK x.fKind=true then endN (l.drop (k+1)) (k+1) 1 else none
 | none=>none
def endOf (l:List TLine)(k:Int):Int:=if 0≤k then endI (endAt l k.toNat)else -1
theorem endN_at {l:List TLine}{i o:Nat}{x:TLine}(h:l[i]?=some x):endN (l.drop i) i o=if opensK x.fKind=true then endN (l.drop (i+1)) (i+1) (o+1)else if x.fKind=7 then(if o=1 then some i else endN (l.drop (i+1)) (i+1) (o - 1))else endN (l.drop (i+1)) (i+1) o:=by
 rw[drop_at h,endN]
theorem endN_no {l:List TLine}{i o:Nat}(h:l.length≤i):endN (l.drop i) i o=none:=by
 rw[List.drop_eq_nil_of_le h,endN]
theorem endN_ge:∀{l:List TLine} {i o e:Nat},endN l i o=some e→i≤e∧e < i+l.length
 | [],_,_,_,h=>by rw[endN]at h;cases h
 | x::l,i,o,e,h=>by
  rw[endN]at h
  simp only[List.length_cons]
  split at h
  ·have:=endN_ge h;omega
  ·split at h
   ·split at h
    ·injection h with h;omega
    ·have:=endN_ge h;omega
   ·have:=endN_ge h;omega
theorem endN_lt {l:List TLine}{i o e:Nat}(h:endN (l.drop i) i o=some e):i≤e∧e < l.length:=by
 have:=endN_ge h
 rw[List.length_drop]at this
 omega
theorem endN_add:∀{l:List TLine} {i:Nat} (n:Nat) {a b:Nat},l.length - i≤n→1≤a→1≤b→endN (l.drop i) i (a+b)=(endN (l.drop i) i b).bind fun m=>endN (l.drop (m+1)) (m+1) a
 | l,i,0,a,b,hn,_,_=>by rw[endN_no (by omega),endN_no (by omega)];rfl
 | l,i,n+1,a,b,hn,ha,hb=>by
  by_cases hi:i < l.length
  ·obtain⟨x,hx⟩:=get_of_lt hi
   rw[endN_at hx,endN_at hx]
   split
   ·rw[show a+b+1=a+(b+1) by omega]
    exact endN_add n (by omega) ha (by omega)
   ·split
    ·rw[if_neg (by omega)]
     by_cases h1:b=1
     ·subst h1
      rw[if_pos rfl]
      rfl
     ·rw[if_neg h1,show a+b - 1=a+(b - 1) by omega]
      exact endN_add n (by omega) ha (by omega)
    ·exact endN_add n (by omega) ha hb
  ·rw[endN_no (by omega),endN_no (by omega)];rfl
theorem endN_kind:∀{l:List TLine} {i:Nat} (n:Nat) {o e:Nat},l.length - i≤n→endN (l.drop i) i o=some e→∃x,l[e]?=some x∧x.fKind=7
 | l,i,0,o,e,hn,h=>by rw[endN_no (by omega)]at h;cases h
 | l,i,n+1,o,e,hn,h=>by
  by_cases hi:i < l.length
  ·obtain⟨x,hx⟩:=get_of_lt hi
   rw[endN_at hx]at h
   split at h
   ·exact endN_kind n (by omega) h
   ·split at h
    ·split at h
     ·injection h with h
      subst h
      exact⟨x,hx,by assumption⟩
     ·exact endN_kind n (by omega) h
    ·exact endN_kind n (by omega) h
  ·rw[endN_no (by omega)]at h;cases h
theorem endAt_some {l:List TLine}{k e:Nat}(h:endAt l k=some e):∃x,l[k]?=some x∧opensK x.fKind=true∧endN (l.drop (k+1)) (k+1) 1=some e∧k < e∧e < l.length:=by
 unfold endAt at h
 split at h
 ·rename_i x hx
  split at h
  ·rename_i ho
   have:=endN_lt h
   exact⟨x,hx,ho,h,by omega,by omega⟩
  ·cases h
 ·cases h
theorem endAt_of {l:List TLine}{k:Nat}{x:TLine}(hx:l[k]?=some x)(ho:opensK x.fKind=true):endAt l k=endN (l.drop (k+1)) (k+1) 1:=by
 unfold endAt
 rw[hx]
 dsimp only
 rw[if_pos ho]
theorem endAt_kind {l:List TLine}{k e:Nat}(h:endAt l k=some e):∃x,l[e]?=some x∧x.fKind=7:=by
 obtain⟨_,_,_,h,_⟩:=endAt_some h
 exact endN_kind _ (Nat.le_refl _) h
theorem endN_lev:∀{l:List TLine} (n:Nat) {s o e i:Nat},i - s≤n→1≤o→endN (l.drop s) s o=some e→s≤i→i≤e→∃o',1≤o'∧endN (l.drop i) i o'=some e
 | l,0,s,o,e,i,hn,ho,h,h1,h2=>by
  have:s=i:=by omega
  subst this
  exact⟨o,ho,h⟩
 | l,n+1,s,o,e,i,hn,ho,h,h1,h2=>by
  by_cases hs:s=i
  ·subst hs;exact⟨o,ho,h⟩
  have hl:=endN_lt h
  obtain⟨x,hx⟩:=get_of_lt (l:=l) (k:=s) (by omega)
  rw[endN_at hx]at h
  split at h
  ·exact endN_lev n (by omega) (by omega) h (by omega) h2
  ·split at h
   ·split at h
    ·injection h with h;omega
    ·exact endN_lev n (by omega) (by omega) h (by omega) h2
   ·exact endN_lev n (by omega) ho h (by omega) h2
theorem endAt_in {l:List TLine}{k e i:Nat}{x:TLine}(h:endAt l k=some e)(h1:k < i)(h2:i < e)(hx:l[i]?=some x)(ho:opensK x.fKind=true):∃m,endAt l i=some m∧i < m∧m < e:=by
 obtain⟨_,_,_,he,_,hlt⟩:=endAt_some h
 obtain⟨o,ho1,hlev⟩:=endN_lev _ (Nat.le_refl _) (Nat.le_refl 1) he (by omega:k+1≤i) (by omega)
 rw[endN_at hx,if_pos ho,endN_add _ (Nat.le_refl _) ho1 (Nat.le_refl 1)]at hlev
 cases hm:endN (l.drop (i+1)) (i+1) 1 with
 | none=>rw[hm]at hlev;cases hlev
 | some m=>
  rw[hm]at hlev
  have h3:=endN_lt hm
  have h4:=endN_lt (show endN (l.drop (m+1)) (m+1) o=some e from hlev)
  exact⟨m,by rw[endAt_of hx ho];exact hm,by omega,by omega⟩
theorem endOf_at {l:List TLine}{k:Nat}:endOf l (k:Int)=endI (endAt l k):=by
 rw[endOf,if_pos (by omega),Int.toNat_natCast]
theorem endI_some {o:Option Nat}{n:Nat}(h:o=some n):endI o=(n:Int):=by rw[h];rfl
theorem endI_none {o:Option Nat}(h:o=none):endI o= -1:=by rw[h];rfl
def elseN (l:List TLine)(e:Nat):Nat→Nat→Option Nat
 | 0,_=>none
 | n+1,i=>if i < e then(match l[i]? with
  | some x=>if x.fKind=4 then some i else if x.fKind=3∨x.fKind=5 then(match endAt l i with
   | some m=>elseN l e n (m+1)
   | none=>elseN l e n (i+1))else elseN l e n (i+1)
  | none=>none)else none
def elseAt (l:List TLine)(k:Nat):Option Nat:=match l[k]?,endAt l k with
 | some x,some e=>if x.fKind=3 then elseN l e (e - (k+1)) (k+1)else none
 | _,_=>none
def elseOf (l:List TLine)(k:Int):Int:=if 0≤k then endI (elseAt l k.toNat)else -1
theorem elseN_more {l:List TLine}{e:Nat}:∀{n m i:Nat},e - i≤n→e - i≤m→elseN l e n i=elseN l e m i
 | 0,0,_,_,_=>rfl
 | 0,m+1,i,h1,h2=>by rw[elseN,elseN,if_neg (by omega)]
 | n+1,0,i,h1,h2=>by rw[elseN,elseN,if_neg (by omega)]
 | n+1,m+1,i,h1,h2=>by
  rw[elseN,elseN]
  by_cases hi:i < e
  ·rw[if_pos hi,if_pos hi]
   cases hx:l[i]? with
   | none=>rfl
   | some x=>
    dsimp only
    split
    ·rfl
    ·split
     ·cases hm:endAt l i with
      | none=>exact elseN_more (by omega) (by omega)
      | some m'=>
       have:=endAt_some hm
       obtain⟨_,_,_,_,h3,_⟩:=this
       exact elseN_more (by omega) (by omega)
     ·exact elseN_more (by omega) (by omega)
  ·rw[if_neg hi,if_neg hi]
theorem elseN_step {l:List TLine}{e i:Nat}{x:TLine}(hi:i < e)(hx:l[i]?=some x):elseN l e (e - i) i=if x.fKind=4 then some i else if x.fKind=3∨x.fKind=5 then(match endAt l i with
   | some m=>elseN l e (e - (m+1)) (m+1)
   | none=>elseN l e (e - (i+1)) (i+1))else elseN l e (e - (i+1)) (i+1):=by
 obtain⟨n,hn⟩:∃n,e - i=n+1:=⟨e - i - 1,by omega⟩
 rw[hn,elseN,if_pos hi,hx]
 dsimp only
 split
 ·rfl
 ·split
  ·cases hm:endAt l i with
   | none=>exact elseN_more (by omega) (by omega)
   | some m=>
    obtain⟨_,_,_,_,h3,_⟩:=endAt_some hm
    exact elseN_more (by omega) (by omega)
  ·exact elseN_more (by omega) (by omega)
theorem elseN_end {l:List TLine}{e i n:Nat}(hi:e≤i):elseN l e n i=none:=by
 cases n with
 | zero=>rfl
 | succ n=>rw[elseN,if_neg (by omega)]
theorem elseN_in {l:List TLine}{e:Nat}:∀{n i j:Nat},elseN l e n i=some j→i≤j∧j < e∧∃x,l[j]?=some x∧x.fKind=4
 | 0,_,_,h=>by rw[elseN]at h;cases h
 | n+1,i,j,h=>by
  rw[elseN]at h
  split at h
  ·rename_i hi
   split at h
   ·rename_i x hx
    split at h
    ·injection h with h;subst h;exact⟨by omega,hi,x,hx,by assumption⟩
    ·split at h
     ·split at h
      ·rename_i m hm
       obtain⟨_,_,_,_,h3,_⟩:=endAt_some hm
       have:=elseN_in h
       exact⟨by omega,this.2⟩
      ·have:=elseN_in h
       exact⟨by omega,this.2⟩
     ·have:=elseN_in h
      exact⟨by omega,this.2⟩
   ·cases h
  ·cases h
theorem elseAt_some {l:List TLine}{k j:Nat}(h:elseAt l k=some j):∃x e,l[k]?=some x∧x.fKind=3∧endAt l k=some e∧k < j∧j < e∧∃y,l[j]?=some y∧y.fKind=4:=by
 unfold elseAt at h
 split at h
 ·rename_i x e hx he
  split at h
  ·rename_i h3
   have:=elseN_in h
   exact⟨x,e,hx,h3,he,by omega,this.2⟩
  ·cases h
 ·cases h
def funsF:List TLine→Nat→List Nat
 | [],_=>[]
 | x::l,i=>(if x.fKind=0 then [i]else [])++funsF l (i+1)
def funs (l:List TLine):List Nat:=funsF l 0
theorem funsF_at {l:List TLine}{i:Nat}{x:TLine}(hx:l[i]?=some x):funsF (l.drop i) i=(if x.fKind=0 then [i]else [])++funsF (l.drop (i+1)) (i+1):=by
 rw[drop_at hx,funsF]
theorem funsF_lt:∀{l:List TLine} {i k:Nat},k∈funsF l i→i≤k∧k < i+l.length∧∃x,l[k - i]?=some x∧x.fKind=0
 | [],_,_,h=>by simp[funsF]at h
 | x::l,i,k,h=>by
  rw[funsF,List.mem_append]at h
  rcases h with h|h
  ·split at h
   ·simp only[List.mem_cons,List.not_mem_nil,or_false]at h
    subst h
    exact⟨by omega,by simp,x,by simp,by assumption⟩
   ·cases h
  ·obtain⟨h1,h2,y,hy,hk⟩:=funsF_lt h
   refine⟨by omega,by simp only[List.length_cons];omega,y,?_,hk⟩
   rw[show k - i=(k - (i+1))+1 by omega,List.getElem?_cons_succ]
   exact hy
theorem funs_lt {l:List TLine}{k:Nat}(h:k∈funs l):k < l.length∧∃x,l[k]?=some x∧x.fKind=0:=by
 have:=funsF_lt h
 simpa using this.2
def findN:List TLine→Nat→List UInt8→Option Nat
 | [],_,_=>none
 | x::l,i,s=>if x.fKind=0∧x.fName=s then some i else findN l (i+1) s
def findF (l:List TLine)(s:List UInt8):Int:=endI (findN l 0 s)
theorem findN_at {l:List TLine}{i:Nat}{x:TLine}{s:List UInt8}(hx:l[i]?=some x):findN (l.drop i) i s=if x.fKind=0∧x.fName=s then some i else findN (l.drop (i+1)) (i+1) s:=by
 rw[drop_at hx,findN]
theorem findN_some:∀{l:List TLine} {i k:Nat} {s:List UInt8},findN l i s=some k→i≤k∧k < i+l.length∧∃x,l[k - i]?=some x∧x.fKind=0∧x.fName=s
 | [],_,_,_,h=>by rw[findN]at h;cases h
 | x::l,i,k,s,h=>by
  rw[findN]at h
  split at h
  ·injection h with h;subst h
   exact⟨by omega,by simp,x,by simp,by assumption⟩
  ·obtain⟨h1,h2,y,hy,hk⟩:=findN_some h
   refine⟨by omega,by simp only[List.length_cons];omega,y,?_,hk⟩
   rw[show k - i=(k - (i+1))+1 by omega,List.getElem?_cons_succ]
   exact hy
theorem find_some {l:List TLine}{k:Nat}{s:List UInt8}(h:findN l 0 s=some k):k < l.length∧∃x,l[k]?=some x∧x.fKind=0∧x.fName=s:=by
 have:=findN_some h
 simpa using this.2
def addName (acc:List (List UInt8))(s:List UInt8):List (List UInt8):=if acc.contains s=true then acc else acc++[s]
def locN (l:List TLine)(e:Nat):Nat→Nat→List (List UInt8)→List (List UInt8)
 | 0,_,acc=>acc
 | n+1,i,acc=>if i < e then(match l[i]? with
  | some x=>locN l e n (i+1) (if x.fKind=1 then addName acc x.fName else acc)
  | none=>acc)else acc
def localsOf (l:List TLine)(k:Int):List (List UInt8):=if 0≤k then(match l[k.toNat]?,endAt l k.toNat with
 | some x,some e=>if x.fKind=0 then locN l e (e - k.toNat) k.toNat x.fArgs else []
 | _,_=>[])else []
theorem locN_step {l:List TLine}{e i:Nat}{x:TLine}{acc:List (List UInt8)}(hi:i < e)(hx:l[i]?=some x):locN l e (e - i) i acc=locN l e (e - (i+1)) (i+1) (if x.fKind=1 then addName acc x.fName else acc):=by
 rw[show e - i=(e - (i+1))+1 by omega,locN,if_pos hi,hx]
theorem locN_end {l:List TLine}{e i n:Nat}{acc:List (List UInt8)}(hi:e≤i):locN l e n i acc=acc:=by
 cases n with
 | zero=>rfl
 | succ n=>rw[locN,if_neg (by omega)]
theorem addName_len (acc:List (List UInt8))(s:List UInt8):(addName acc s).length≤acc.length+1:=by
 unfold addName
 split <;> simp
theorem locN_len {l:List TLine}{e:Nat}:∀(n i:Nat) (acc:List (List UInt8)),(locN l e n i acc).length≤acc.length+n
 | 0,_,_=>by simp[locN]
 | n+1,i,acc=>by
  rw[locN]
  split
  ·split
   ·refine Nat.le_trans (locN_len n _ _) ?_
    split
    ·have:=addName_len acc (by assumption:TLine).fName;omega
    ·omega
   ·omega
  ·omega
def tokKnown (l:List TLine)(locals:List (List UInt8))(t:TTok):Bool:=
 if t.fKind=1 then locals.contains t.fName
 else if t.fKind=7 then(match findN l 0 t.fName with
  | some f=>(match l[f]? with|some x=>(x.fArgs.length:Int)==t.fNum|none=>false)
  | none=>false)
 else true
def exprKnown (l:List TLine)(locals:List (List UInt8))(ts:List TTok):Bool:=ts.all (tokKnown l locals)
def dep (x:TLine)(d:Nat):Nat:=if x.fKind=3∨x.fKind=5 then d+1 else if x.fKind=7 then d - 1 else d
def bodyN (l:List TLine)(locals:List (List UInt8))(e:Nat):Nat→Nat→Nat→Bool
 | 0,_,_=>true
 | n+1,i,d=>if i < e then(match l[i]? with
  | some x=>if x.fKind=0 then false else
   if dep x d≤4∧exprKnown l locals x.fExpr=true then bodyN l locals e n (i+1) (dep x d)else false
  | none=>false)else true
end Go.Proofs.YtjmplnfiabmalaaGreat
namespace Go.Proofs.YtjmplnfiabmalaaGreat
open Go.Sim
set_option maxRecDepth 100000
set_option maxHeartbeats 4000000
def anyE (l:List TLine)(i:Nat):Nat→Nat→Bool
 | 0,_=>false
 | n+1,j=>(elseAt l j==some i) || anyE l i n (j+1)
theorem anyE_iff {l:List TLine}{i:Nat}:∀{n j:Nat},anyE l i n j=true↔∃k,j≤k∧k < j+n∧elseAt l k=some i
 | 0,j=>by
  rw[anyE]
  exact⟨fun h=>(by cases h),fun⟨k,h1,h2,_⟩=>(by omega)⟩
 | n+1,j=>by
  rw[anyE,Bool.or_eq_true,anyE_iff,beq_iff_eq]
  constructor
  ·rintro(h|⟨k,h1,h2,h3⟩)
   ·exact⟨j,by omega,by omega,h⟩
   ·exact⟨k,by omega,by omega,h3⟩
  ·rintro⟨k,h1,h2,h3⟩
   by_cases hk:k=j
   ·subst hk;exact .inl h3
   ·exact .inr ⟨k,by omega,by omega,h3⟩
def elsesIn (l:List TLine)(k e:Nat):Nat→Nat→Bool
 | 0,_=>true
 | n+1,i=>if i < e then(match l[i]? with
  | some x=>(if x.fKind=4 then anyE l i (i - k) k else true) && elsesIn l k e n (i+1)
  | none=>true)else true
theorem elsesIn_iff {l:List TLine}{k e:Nat}:∀{n i:Nat},e - i≤n→(elsesIn l k e n i=true↔∀j x,i≤j→j < e→l[j]?=some x→x.fKind=4→anyE l j (j - k) k=true)
 | 0,i,h=>⟨fun _ j x h1 h2=>by omega,fun _=>rfl⟩
 | n+1,i,h=>by
  rw[elsesIn]
  by_cases hi:i < e
  ·rw[if_pos hi]
   cases hx:l[i]? with
   | none=>
    refine⟨fun _ j x h1 h2 hj=>?_,fun _=>rfl⟩
    have:l.length≤i:=List.getElem?_eq_none_iff.1 hx
    rw[List.getElem?_eq_none (by omega)]at hj
    cases hj
   | some x=>
    dsimp only
    rw[Bool.and_eq_true,elsesIn_iff (by omega)]
    constructor
    ·rintro⟨h1,h2⟩ j y hj1 hj2 hy hk
     by_cases he:j=i
     ·subst he
      rw[hx]at hy
      injection hy with hy
      subst hy
      rw[if_pos hk]at h1
      exact h1
     ·exact h2 j y (by omega) hj2 hy hk
    ·intro H
     refine⟨?_,fun j y hj1 hj2 hy hk=>H j y (by omega) hj2 hy hk⟩
     split
     ·exact H i x (Nat.le_refl _) hi hx (by assumption)
     ·rfl
  ·rw[if_neg hi]
   exact⟨fun _ j x h1 h2=>by omega,fun _=>rfl⟩
def bodyS (l:List TLine)(locals:List (List UInt8))(k e:Nat):Nat→Nat→Nat→Bool
 | 0,_,_=>true
 | n+1,i,d=>if i < e then(match l[i]? with
  | some x=>if x.fKind=0 then false else if x.fKind=4∧anyE l i (i - k) k=false then false else
   if dep x d≤4∧exprKnown l locals x.fExpr=true then bodyS l locals k e n (i+1) (dep x d)else false
  | none=>false)else true
theorem bodyS_step {l:List TLine}{locals:List (List UInt8)}{k e i d:Nat}{x:TLine}(hi:i < e)(hx:l[i]?=some x):bodyS l locals k e (e - i) i d=if x.fKind=0 then false else if x.fKind=4∧anyE l i (i - k) k=false then false else if dep x d≤4∧exprKnown l locals x.fExpr=true then bodyS l locals k e (e - (i+1)) (i+1) (dep x d)else false:=by
 rw[show e - i=(e - (i+1))+1 by omega,bodyS,if_pos hi,hx]
theorem bodyS_end {l:List TLine}{locals:List (List UInt8)}{k e i d n:Nat}(hi:e≤i):bodyS l locals k e n i d=true:=by
 cases n with
 | zero=>rfl
 | succ n=>rw[bodyS,if_neg (by omega)]
theorem bodyS_eq {l:List TLine}{locals:List (List UInt8)}{k e:Nat}:∀{n i d:Nat},bodyS l locals k e n i d=(bodyN l locals e n i d && elsesIn l k e n i)
 | 0,i,d=>rfl
 | n+1,i,d=>by
  rw[bodyS,bodyN,elsesIn]
  by_cases hi:i < e
  ·rw[if_pos hi,if_pos hi,if_pos hi]
   cases hx:l[i]? with
   | none=>rfl
   | some x=>
    dsimp only
    by_cases h0:x.fKind=0
    ·rw[if_pos h0,if_pos h0];rfl
    ·rw[if_neg h0,if_neg h0]
     rw[bodyS_eq]
     by_cases h4:x.fKind=4
     ·rw[if_pos h4]
      cases ha:anyE l i (i - k) k with
      | false=>rw[if_pos ⟨h4,rfl⟩];simp
      | true=>
       rw[if_neg (by simp)]
       split <;> simp_all
     ·rw[if_neg (by simp[h4]),if_neg h4]
      split <;> simp_all
  ·rw[if_neg hi,if_neg hi,if_neg hi];rfl
def fnOk (l:List TLine)(k e:Nat):Bool:=decide ((localsOf l (k:Int)).length≤8) && bodyN l (localsOf l (k:Int)) e (e - (k+1)) (k+1) 0
def fnOkS (l:List TLine)(k e:Nat):Bool:=decide ((localsOf l (k:Int)).length≤8) && bodyS l (localsOf l (k:Int)) k e (e - (k+1)) (k+1) 0
theorem fnOkS_eq {l:List TLine}{k e:Nat}:fnOkS l k e=(fnOk l k e && elsesIn l k e (e - (k+1)) (k+1)):=by
 rw[fnOkS,fnOk,bodyS_eq,Bool.and_assoc]
theorem fnOk_nofun {l:List TLine}{k e:Nat}(h:fnOk l k e=true)(he:e≤l.length):∀i x,k < i→i < e→l[i]?=some x→x.fKind≠0:=by
 rw[fnOk,Bool.and_eq_true]at h
 have key:∀(n i d:Nat),e - i≤n→bodyN l (localsOf l (k:Int)) e n i d=true→∀j x,i≤j→j < e→l[j]?=some x→x.fKind≠0:=by
  intro n
  induction n with
  | zero=>intro i d hn _ j x h1 h2;omega
  | succ n ih=>
   intro i d hn hb j x h1 h2 hx
   rw[bodyN,if_pos (by omega)]at hb
   obtain⟨y,hy⟩:=get_of_lt (l:=l) (k:=i) (by omega)
   rw[hy]at hb
   dsimp only at hb
   split at hb
   ·cases hb
   ·rename_i h0
    split at hb
    ·by_cases hj:j=i
     ·subst hj
      rw[hy]at hx
      injection hx with hx
      subst hx
      exact h0
     ·exact ih (i+1) _ (by omega) hb j x (by omega) h2 hx
    ·cases hb
 exact fun i x h1 h2 hx=>key _ _ _ (Nat.le_refl _) h.2 i x (by omega) h2 hx
def chainN (F:Nat→Nat→Bool)(l:List TLine):Nat→Nat→Bool
 | 0,k=>decide (l.length≤k)
 | n+1,k=>if k < l.length then(match l[k]?,endAt l k with
  | some x,some e=>if x.fKind=0∧F k e=true then chainN F l n (e+1)else false
  | _,_=>false)else true
theorem chainN_step {F:Nat→Nat→Bool}{l:List TLine}{k n:Nat}{x:TLine}(hx:l[k]?=some x)(hn:l.length - k≤n):chainN F l n k=match endAt l k with|some e=>if x.fKind=0∧F k e=true then chainN F l (l.length - (e+1)) (e+1)else false|none=>false:=by
 have more:∀(n m k:Nat),l.length - k≤n→l.length - k≤m→chainN F l n k=chainN F l m k:=by
  intro n
  induction n with
  | zero=>
   intro m k h1 h2
   rw[chainN,decide_eq_true (by omega)]
   cases m with
   | zero=>rw[chainN,decide_eq_true (by omega)]
   | succ m=>rw[chainN,if_neg (by omega)]
  | succ n ih=>
   intro m k h1 h2
   cases m with
   | zero=>rw[chainN,chainN,if_neg (by omega),decide_eq_true (by omega)]
   | succ m=>
    rw[chainN,chainN]
    split
    ·split
     ·rename_i x e hx he
      obtain⟨_,_,_,_,h3,_⟩:=endAt_some he
      split
      ·exact ih m (e+1) (by omega) (by omega)
      ·rfl
     ·rfl
    ·rfl
 have hk:k < l.length:=by
  rcases Nat.lt_or_ge k l.length with h|h
  ·exact h
  ·rw[List.getElem?_eq_none h]at hx;cases hx
 obtain⟨m,rfl⟩:∃m,n=m+1:=⟨n - 1,by omega⟩
 rw[chainN,if_pos hk,hx]
 cases he:endAt l k with
 | none=>rfl
 | some e=>
  obtain⟨_,_,_,_,h3,_⟩:=endAt_some he
  dsimp only
  split
  ·exact more _ _ _ (by omega) (by omega)
  ·rfl
theorem chainN_end {F:Nat→Nat→Bool}{l:List TLine}{k n:Nat}(hk:l.length≤k):chainN F l n k=true:=by
 cases n with
 | zero=>rw[chainN,decide_eq_true hk]
 | succ n=>rw[chainN,if_neg (by omega)]
def elsesOk (l:List TLine):Bool:=elsesIn l 0 l.length l.length 0
def nameFirst (l:List TLine)(k:Nat):Bool:=match l[k]? with|some x=>findN l 0 x.fName==some k|none=>false
theorem chainS_eq {l:List TLine}:∀(n k:Nat),l.length - k≤n→k≤l.length→(∀j m,j < k→endAt l j=some m→m < k)→
  (chainN (fnOkS l) l (l.length - k) k=(chainN (fnOk l) l (l.length - k) k && elsesIn l 0 l.length (l.length - k) k))
 | n,k,hn,hk,hP=>by
  by_cases hlt:k < l.length
  ·obtain⟨x,hx⟩:=get_of_lt hlt
   rw[chainN_step hx (Nat.le_refl _),chainN_step hx (Nat.le_refl _)]
   cases he:endAt l k with
   | none=>simp
   | some e=>
    dsimp only
    obtain⟨_,hx',ho,_,h3,h4⟩:=endAt_some he
    obtain⟨z,hz,hz7⟩:=endAt_kind he
    by_cases h0:x.fKind=0
    ·have hP':∀j m,j < e+1→endAt l j=some m→m < e+1:=by
      intro j m hj hm
      rcases Nat.lt_trichotomy j k with hjk|hjk|hjk
      ·have:=hP j m hjk hm;omega
      ·subst hjk
       rw[he]at hm
       injection hm with hm
       omega
      ·obtain⟨y,hy,hyo,_⟩:=endAt_some hm
       by_cases hje:j=e
       ·subst hje
        rw[hz]at hy
        injection hy with hy
        subst hy
        rw[opensK_iff]at hyo
        omega
       ·obtain⟨m',hm',_,h5⟩:=endAt_in he hjk (by omega) hy hyo
        rw[hm]at hm'
        injection hm' with hm'
        omega
     cases n with
     | zero=>omega
     | succ n=>
      have ih:=chainS_eq (l:=l) n (e+1) (by omega) (by omega) hP'
      have hels:elsesIn l 0 l.length (l.length - k) k=(elsesIn l k e (e - (k+1)) (k+1) && elsesIn l 0 l.length (l.length - (e+1)) (e+1)):=by
       rw[Bool.eq_iff_iff,Bool.and_eq_true,elsesIn_iff (Nat.le_refl _),elsesIn_iff (Nat.le_refl _),elsesIn_iff (Nat.le_refl _)]
       constructor
       ·intro H
        refine⟨fun j y h5 h6 hy h7=>?_,fun j y h5 h6 hy h7=>H j y (by omega) h6 hy h7⟩
        have:=H j y (by omega) (by omega) hy h7
        rw[anyE_iff]at this ⊢
        obtain⟨i,h8,h9,h10⟩:=this
        refine⟨i,?_,by omega,h10⟩
        rcases Nat.lt_or_ge i k with h11|h11
        ·obtain⟨_,m,_,_,h12,_,h13,_⟩:=elseAt_some h10
         have:=hP i m h11 h12
         omega
        ·exact h11
       ·rintro⟨H1,H2⟩ j y h5 h6 hy h7
        rcases Nat.lt_or_ge e j with h8|h8
        ·exact H2 j y h8 h6 hy h7
        ·have hje:j≠e:=fun h=>by
          subst h
          rw[hz]at hy
          injection hy with hy
          subst hy
          omega
         have hjk:j≠k:=fun h=>by
          subst h
          rw[hx]at hy
          injection hy with hy
          subst hy
          omega
         have:=H1 j y (by omega) (by omega) hy h7
         rw[anyE_iff]at this ⊢
         obtain⟨i,h9,h10,h11⟩:=this
         exact⟨i,by omega,by omega,h11⟩
      rw[hels,ih,fnOkS_eq]
      cases fnOk l k e <;> cases elsesIn l k e (e - (k+1)) (k+1) <;> simp[h0]
    ·rw[if_neg (by simp[h0]),if_neg (by simp[h0])];rfl
  ·have:k=l.length:=by omega
   subst this
   rw[chainN_end (Nat.le_refl _),chainN_end (Nat.le_refl _)]
   rw[Nat.sub_self]
   rfl
def mainName:List UInt8:=[109,97,105,110]
def headOk (l:List TLine):Bool:=match l with
 | []=>false
 | x::_=>x.fKind==0 && (x.fName==mainName && x.fArgs.length==0)
def programOk (l:List TLine):Bool:=decide (l.length≤60) && (decide (1≤(funs l).length∧(funs l).length≤6) && (l.all lineOk && (headOk l && ((funs l).all (nameFirst l) && (chainN (fnOk l) l l.length 0 && elsesOk l)))))
theorem chainS_all (l:List TLine):chainN (fnOkS l) l l.length 0=(chainN (fnOk l) l l.length 0 && elsesOk l):=by
 have:=chainS_eq (l:=l) _ 0 (Nat.le_refl _) (by omega) (fun j m h=>by omega)
 rw[Nat.sub_zero]at this
 exact this
def StkOk (l:List TLine)(e:Nat):Nat→List Nat→Prop
 | i,[]=>endN (l.drop i) i 1=some e
 | i,m::es=>i≤m∧endN (l.drop i) i 1=some m∧StkOk l e (m+1) es
theorem StkOk.push {l:List TLine}{e i:Nat}{es:List Nat}{x:TLine}(h:StkOk l e i es)(hx:l[i]?=some x)(ho:opensK x.fKind=true):∃m,endAt l i=some m∧i < m∧StkOk l e (i+1) (m::es):=by
 have key:∀m',endN (l.drop i) i 1=some m'→∃m,endAt l i=some m∧i < m∧endN (l.drop (i+1)) (i+1) 1=some m∧endN (l.drop (m+1)) (m+1) 1=some m':=by
  intro m' hm
  rw[endN_at hx,if_pos ho,endN_add _ (Nat.le_refl _) (Nat.le_refl 1) (Nat.le_refl 1)]at hm
  cases h1:endN (l.drop (i+1)) (i+1) 1 with
  | none=>rw[h1]at hm;cases hm
  | some m=>
   rw[h1]at hm
   have:=endN_lt h1
   exact⟨m,by rw[endAt_of hx ho];exact h1,by omega,rfl,hm⟩
 cases es with
 | nil=>
  obtain⟨m,h1,h2,h3,h4⟩:=key e h
  exact⟨m,h1,h2,by omega,h3,h4⟩
 | cons m' es=>
  obtain⟨g1,g2,g3⟩:=h
  obtain⟨m,h1,h2,h3,h4⟩:=key m' g2
  have:=endN_lt h4
  exact⟨m,h1,h2,by omega,h3,by omega,h4,g3⟩
theorem StkOk.other {l:List TLine}{e i:Nat}{es:List Nat}{x:TLine}(h:StkOk l e i es)(hx:l[i]?=some x)(ho:opensK x.fKind=false)(h7:x.fKind≠7):StkOk l e (i+1) es:=by
 have key:∀m',endN (l.drop i) i 1=some m'→endN (l.drop (i+1)) (i+1) 1=some m':=by
  intro m' hm
  rw[endN_at hx,if_neg (by simp[ho]),if_neg h7]at hm
  exact hm
 cases es with
 | nil=>exact key e h
 | cons m' es=>
  obtain⟨g1,g2,g3⟩:=h
  have:=endN_lt (key m' g2)
  exact⟨by omega,key m' g2,g3⟩
theorem StkOk.pop {l:List TLine}{e i:Nat}{es:List Nat}{x:TLine}(h:StkOk l e i es)(hx:l[i]?=some x)(h7:x.fKind=7):(es=[]∧i=e)∨∃es',es=i::es'∧StkOk l e (i+1) es':=by
 have ho:¬opensK x.fKind=true:=by rw[opensK_iff];omega
 cases es with
 | nil=>
  unfold StkOk at h
  rw[endN_at hx,if_neg ho,if_pos h7,if_pos rfl]at h
  injection h with h
  exact .inl ⟨rfl,h⟩
 | cons m' es=>
  obtain⟨g1,g2,g3⟩:=h
  rw[endN_at hx,if_neg ho,if_pos h7,if_pos rfl]at g2
  injection g2 with g2
  subst g2
  exact .inr ⟨es,rfl,g3⟩
theorem StkOk.le {l:List TLine}{e:Nat}:∀{i:Nat} {es:List Nat},StkOk l e i es→i≤e
 | i,[],h=>(endN_lt h).1
 | i,m::es,h=>by
  have:=StkOk.le h.2.2
  have:=h.1
  omega
end Go.Proofs.YtjmplnfiabmalaaGreat
namespace Go.Proofs.YtjmplnfiabmalaaGreat
open Go.Sim
set_option maxRecDepth 100000
set_option maxHeartbeats 4000000
inductive Ex where
 | node (t:TTok) (es:List Ex)
mutual
def Ex.toks:Ex→List TTok
 | .node t es=>t::exToks es
def exToks:List Ex→List TTok
 | []=>[]
 | a::es=>a.toks++exToks es
end
mutual
def Ex.ok:Ex→Prop
 | .node t es=>tokOk t=true∧es.length=ar t∧exsOk es
def exsOk:List Ex→Prop
 | []=>True
 | a::es=>a.ok∧exsOk es
end
theorem Ex.toks_pos (e:Ex):0 < e.toks.length:=by cases e;simp[Ex.toks]
theorem exToks_append:∀(a b:List Ex),exToks (a++b)=exToks a++exToks b
 | [],b=>by rw[List.nil_append,exToks,List.nil_append]
 | x::a,b=>by rw[List.cons_append,exToks,exToks,exToks_append a b,List.append_assoc]
theorem exsOk_take:∀{l:List Ex} (n:Nat),exsOk l→exsOk (l.take n)
 | [],n,h=>by rw[List.take_nil];exact h
 | x::l,0,h=>by rw[List.take_zero];trivial
 | x::l,n+1,h=>by rw[List.take_succ_cons];exact⟨h.1,exsOk_take n h.2⟩
theorem exsOk_drop:∀{l:List Ex} (n:Nat),exsOk l→exsOk (l.drop n)
 | [],n,h=>by rw[List.drop_nil];exact h
 | x::l,0,h=>h
 | x::l,n+1,h=>by rw[List.drop_succ_cons];exact exsOk_drop n h.2
theorem endL_parse:∀{l:List TTok} {p n e:Nat},endL l p n=some e→∃es:List Ex,es.length=n∧exsOk es∧∃rest,l=exToks es++rest∧p+(exToks es).length=e
 | l,p,0,e,h=>by
  have h:some p=some e:=by cases l <;> exact h
  injection h with h
  exact⟨[],rfl,trivial,l,rfl,by simp[exToks];omega⟩
 | [],_,_+1,_,h=>by rw[endL]at h;cases h
 | t::l,p,n+1,e,h=>by
  rw[endL]at h
  split at h
  ·rename_i hok
   obtain⟨es,h1,h2,rest,h3,h4⟩:=endL_parse h
   refine⟨.node t (es.take (ar t))::es.drop (ar t),by simp;omega,⟨⟨hok,by simp;omega,exsOk_take _ h2⟩,exsOk_drop _ h2⟩,rest,?_,?_⟩
   ·rw[exToks,Ex.toks,List.cons_append,←exToks_append,List.take_append_drop,List.cons_append,←h3]
   ·rw[exToks,Ex.toks,List.cons_append,←exToks_append,List.take_append_drop,List.length_cons];omega
  ·cases h
mutual
theorem Ex.endL:∀(e:Ex),e.ok→∀(r:List TTok) (p n:Nat),Go.Proofs.YtjmplnfiabmalaaGreat.endL (e.toks++r) p (n+1)=Go.Proofs.YtjmplnfiabmalaaGreat.endL r (p+e.toks.length) n
 | .node t es,h,r,p,n=>by
  rw[Ex.toks,List.cons_append,Go.Proofs.YtjmplnfiabmalaaGreat.endL,if_pos h.1,show n+ar t=n+es.length by rw[h.2.1],exs_endL es h.2.2,List.length_cons]
  congr 1;omega
theorem exs_endL:∀(es:List Ex),exsOk es→∀(r:List TTok) (p n:Nat),Go.Proofs.YtjmplnfiabmalaaGreat.endL (exToks es++r) p (n+es.length)=Go.Proofs.YtjmplnfiabmalaaGreat.endL r (p+(exToks es).length) n
 | [],_,r,p,n=>by rw[exToks];simp
 | a::es,h,r,p,n=>by
  rw[exToks,List.append_assoc,List.length_cons,show n+(es.length+1)=(n+es.length)+1 by omega,Ex.endL a h.1,exs_endL es h.2,List.length_append]
  congr 1;omega
end
theorem exprOk_parse {l:List TTok}(h:exprOk l=true):∃e:Ex,e.ok∧l=e.toks:=by
 unfold exprOk at h
 simp only[Bool.and_eq_true,decide_eq_true_eq,beq_iff_eq]at h
 obtain⟨_,h1,h2⟩:=h
 rw[exprEnd,if_pos (by omega)]at h2
 show ∃e:Ex,e.ok∧l=e.toks
 cases he:Go.Proofs.YtjmplnfiabmalaaGreat.endL (l.drop (0:Int).toNat) (0:Int).toNat 1 with
 | none=>rw[he]at h2;simp only[endI]at h2;omega
 | some e=>
  rw[he]at h2
  simp only[endI]at h2
  obtain⟨es,g1,g2,rest,g3,g4⟩:=endL_parse he
  match es,g1 with
  | [a],_=>
   rw[exToks,exToks,List.append_nil]at g3 g4
   have e0:l.drop (0:Int).toNat=l:=rfl
   rw[e0]at g3
   have:rest=[]:=by
    have:=congrArg List.length g3
    rw[List.length_append]at this
    have e1:(0:Int).toNat=0:=rfl
    rw[e1]at g4
    exact List.length_eq_zero_iff.1 (by omega)
   subst this
   exact⟨a,g2.1,by rw[g3,List.append_nil]⟩
def stands (l:List TTok)(p:Nat)(e:Ex):Prop:=∃r,l.drop p=e.toks++r
def standAll (l:List TTok)(p:Nat)(es:List Ex):Prop:=∃r,l.drop p=exToks es++r
theorem stands_end {l:List TTok}{p:Nat}{e:Ex}(h:stands l p e)(ho:e.ok):exprEnd l (p:Int)=((p+e.toks.length:Nat):Int):=by
 obtain⟨r,h⟩:=h
 rw[exprEnd,if_pos (by omega),Int.toNat_natCast,h,show(1:Nat)=0+1 from rfl,Ex.endL e ho]
 cases r <;> rfl
theorem stands_tok {l:List TTok}{p:Nat}{t:TTok}{es:List Ex}(h:stands l p (.node t es)):l[p]?=some t∧standAll l (p+1) es:=by
 obtain⟨r,h⟩:=h
 rw[Ex.toks,List.cons_append]at h
 refine⟨?_,r,?_⟩
 ·have:=congrArg (·[0]?) h
  simpa [List.getElem?_drop]using this
 ·have:=congrArg (·.drop 1) h
  simpa [List.drop_drop]using this
theorem standAll_cons {l:List TTok}{p:Nat}{a:Ex}{es:List Ex}(h:standAll l p (a::es)):stands l p a∧standAll l (p+a.toks.length) es:=by
 obtain⟨r,h⟩:=h
 rw[exToks,List.append_assoc]at h
 refine⟨⟨_,h⟩,r,?_⟩
 rw[←List.drop_drop,h,List.drop_left]
def posL:Nat→List Ex→List Nat
 | _,[]=>[]
 | p,a::es=>p::posL (p+a.toks.length) es
theorem posL_len:∀(p:Nat) (es:List Ex),(posL p es).length=es.length
 | _,[]=>rfl
 | p,a::es=>by rw[posL,List.length_cons,posL_len,List.length_cons]
theorem posL_at:∀{l:List TTok} {p:Nat} {es:List Ex} {k:Nat} {a:Ex},standAll l p es→es[k]?=some a→∃q,(posL p es)[k]?=some q∧stands l q a
 | _,_,[],_,_,_,h=>by simp at h
 | l,p,b::es,0,a,hs,h=>by
  rw[List.getElem?_cons_zero]at h
  injection h with h
  subst h
  exact⟨p,by rw[posL,List.getElem?_cons_zero],(standAll_cons hs).1⟩
 | l,p,b::es,k+1,a,hs,h=>by
  rw[List.getElem?_cons_succ]at h
  obtain⟨q,h1,h2⟩:=posL_at (standAll_cons hs).2 h
  exact⟨q,by rw[posL,List.getElem?_cons_succ];exact h1,h2⟩
theorem tok_kinds {t:TTok}(h:tokOk t=true):t.fKind=0∨t.fKind=1∨t.fKind=7∨(2≤t.fKind∧t.fKind≤6):=by
 unfold tokOk at h
 split at h
 ·omega
 ·split at h
  ·omega
  ·split at h
   ·omega
   ·simp only[Bool.and_eq_true,within_iff]at h
    omega
theorem ar_kind {t:TTok}(h:tokOk t=true):((t.fKind=0∨t.fKind=1)→ar t=0)∧(t.fKind=7→(ar t:Int)=t.fNum)∧(2≤t.fKind→t.fKind≤6→ar t=2):=by
 obtain⟨e1,_⟩:=ar_eq h
 unfold arity at e1
 rw[if_neg (by simp[h])]at e1
 refine⟨fun h0=>?_,fun h7=>?_,fun h2 h6=>?_⟩
 ·rw[if_neg (by omega),if_pos h0]at e1;omega
 ·rw[if_pos h7]at e1;omega
 ·rw[if_neg (by omega),if_neg (by omega)]at e1;omega
theorem standAll_at:∀{l:List TTok} {p:Nat} {es:List Ex} {j:Nat} {a:Ex},standAll l p es→es[j]?=some a→stands l (p+(exToks (es.take j)).length) a
 | _,_,[],_,_,_,h=>by simp at h
 | l,p,b::es,0,a,hs,h=>by
  rw[List.getElem?_cons_zero]at h
  injection h with h
  subst h
  simpa [exToks]using(standAll_cons hs).1
 | l,p,b::es,j+1,a,hs,h=>by
  rw[List.getElem?_cons_succ]at h
  have:=standAll_at (standAll_cons hs).2 h
  rw[List.take_succ_cons,exToks,List.length_append,←Nat.add_assoc]
  exact this
end Go.Proofs.YtjmplnfiabmalaaGreat
namespace Go.Proofs.YtjmplnfiabmalaaGreat
noncomputable section
open Go.Sim
set_option maxRecDepth 100000
set_option maxHeartbeats 4000000
structure Cx where
 p:List TLine
 b:TBuild
 framed:Bool
 words:Int
 args:Int
structure Sc where
 f:Nat
 chain:List Int
 locals:List (List UInt8)
 first:Int
 outer:Bool
structure Gs where
 items:List TItem
 most:Int
 start:Bool
def mkItem (C:Cx)(s:Gs)(depth code arg line:Int)(chain:List Int):TItem:=⟨⟨code,arg⟩,line,s.start,chain,if C.framed=true∧0 < s.items.length then 0 else depth,C.framed && decide (0 < s.items.length)⟩
def emitG (C:Cx)(s:Gs)(depth code arg line:Int)(chain:List Int):Gs:=⟨s.items++[mkItem C s depth code arg line chain],s.most,false⟩
def isArg (C:Cx)(x:Sc)(i:Int):Bool:=x.outer && decide (i < C.args)
def aboveK (C:Cx)(x:Sc)(i:Int):Int:=if x.outer=true then i - C.args else x.first+i
def placeC (C:Cx)(store:Bool):Int:=(if C.framed=true then 1 else 3)+(if store=true then 1 else 0)
def placeA (C:Cx)(x:Sc)(depth i:Int):Int:=
 if C.framed=true then(if isArg C x i=true then 1+(C.args - i)else -1 - aboveK C x i)
 else(if isArg C x i=true then depth+(C.args - i)else depth - 1 - aboveK C x i)
def loadG (C:Cx)(x:Sc)(s:Gs)(depth i line:Int):Gs:=emitG C s depth (placeC C false) (placeA C x depth i) line x.chain
def storeG (C:Cx)(x:Sc)(s:Gs)(depth i line:Int)(chain:List Int):Gs:=emitG C s depth (placeC C true) (placeA C x depth i) line chain
def storesG (C:Cx)(y:Sc)(chain:List Int)(line:Int):Nat→Int→Gs→Gs
 | 0,_,s=>s
 | n+1,d,s=>storesG C y chain line n (d - 1) (storeG C y s d n line chain)
def zerosG (C:Cx)(y:Sc)(chain:List Int)(line d:Int):Nat→Nat→Gs→Gs
 | 0,_,s=>s
 | n+1,i,s=>zerosG C y chain line d n (i+1) (storeG C y (emitG C s d 0 0 line chain) (d+1) i line chain)
def setArg (l:List TItem)(j:Int)(v:Int):List TItem:=if 0≤j then(match l[j.toNat]? with
 | some x=>l.set j.toNat ⟨⟨x.fOp.fCode,v⟩,x.fLine,x.fStart,x.fChain,x.fDepth,x.fEntered⟩
 | none=>l)else l
def patchL (l:List TItem)(v:Int):List Int→List TItem
 | []=>l
 | j::js=>patchL (setArg l j v) v js
def numOf (p:List TLine)(g:Nat):Nat:=((p.take g).filter fun x=>x.fKind==0).length
def replB (C:Cx)(inside:List Nat)(g:Nat)(n:Nat):Bool:=decide ((inside.length:Int)≤C.b.fInline) && (decide (endOf C.p (g:Int) - g≤9) && (decide (n < 200) && !inside.contains g))
def finG (C:Cx)(rep:Sc→List Nat→Nat→Nat→Int→Gs→Gs)(x:Sc)(inside:List Nat)(line:Nat)(t:TTok)(d:Int)(s:Gs):Gs:=
 if t.fKind=0 then emitG C s d 0 t.fNum line x.chain
 else if t.fKind=1 then loadG C x s d (idxOf x.locals t.fName) line
 else if t.fKind=7 then(match findN C.p 0 t.fName with
  | some g=>if replB C inside g s.items.length=true then rep x inside line g d s else emitG C s d 12 (numOf C.p g) line x.chain
  | none=>s)
 else emitG C s d (5+t.fKind - 2) 0 line x.chain
mutual
def genE (C:Cx)(rep:Sc→List Nat→Nat→Nat→Int→Gs→Gs)(x:Sc)(inside:List Nat)(line:Nat):Ex→Int→Gs→Gs
 | .node t es,d,s=>finG C rep x inside line t (d+es.length) (genEs C rep x inside line es d s)
def genEs (C:Cx)(rep:Sc→List Nat→Nat→Nat→Int→Gs→Gs)(x:Sc)(inside:List Nat)(line:Nat):List Ex→Int→Gs→Gs
 | [],_,s=>s
 | a::es,d,s=>genEs C rep x inside line es (d+1) (genE C rep x inside line a d s)
end
def topOf (C:Cx)(x:Sc):Int:=if x.outer=true then(x.locals.length:Int) - C.args else x.first+x.locals.length
def argsN (p:List TLine)(g:Nat):Nat:=match p[g]? with|some l=>l.fArgs.length|none=>0
def inSc (C:Cx)(x:Sc)(line g:Nat):Sc:=⟨g,x.chain++[(line:Int)],localsOf C.p (g:Int),topOf C x,false⟩
def preG (C:Cx)(x:Sc)(line g:Nat)(d:Int)(s:Gs):Gs:=
 zerosG C (inSc C x line g) x.chain line (d - argsN C.p g) ((localsOf C.p (g:Int)).length - argsN C.p g) (argsN C.p g)
  (storesG C (inSc C x line g) x.chain line (argsN C.p g) d ⟨s.items,max s.most (topOf C x+(localsOf C.p (g:Int)).length),s.start⟩)
def spaceG (C:Cx)(x:Sc)(line:Nat)(d:Int)(s:Gs):Gs:=if s.start=true then emitG C s d 15 0 line x.chain else s
def replG (C:Cx)(lines:Sc→List Nat→Int→Gs→Gs×List Int)(x:Sc)(inside:List Nat)(line g:Nat)(d:Int)(s:Gs):Gs:=
 let r:=lines (inSc C x line g) (inside++[g]) (d - argsN C.p g) (spaceG C x line (d - argsN C.p g) (preG C x line g d s))
 ⟨patchL r.1.items r.1.items.length r.2,r.1.most,r.1.start⟩
def ownN (p:List TLine)(k:Nat):Nat→Option Nat
 | 0=>none
 | n+1=>if endAt p n=some k∨elseAt p n=some k then some n else ownN p k n
def ownOf (p:List TLine)(k:Nat):Nat:=(ownN p k p.length).getD 0
def kindAt (p:List TLine)(k:Nat):Int:=match p[k]? with|some x=>x.fKind|none=> -1
structure Ls where
 g:Gs
 heads:List Int
 pos:List Int
 lv:List Int
def exL (l:List TTok):Ex:=if h:exprOk l=true then Classical.choose (exprOk_parse h)else .node ⟨0,0,[]⟩ []
theorem exL_ok {l:List TTok}(h:exprOk l=true):(exL l).ok∧l=(exL l).toks:=by
 rw[exL,dif_pos h]
 exact Classical.choose_spec (exprOk_parse h)
def atL (l:List Int)(k:Nat):Int:=l[k]?.getD 0
def leaveG (C:Cx)(x:Sc)(k:Nat)(last:Bool)(d:Int)(L:Ls):Ls:=
 if x.outer=true then(if C.framed=true then{L with g:=emitG C L.g d 14 C.args k x.chain} else{L with g:=emitG C L.g d 16 (C.args+16 * C.words) k x.chain})
 else if last=true then L
 else{L with g:=emitG C L.g d 10 0 k x.chain,lv:=L.lv++[(L.g.items.length:Int)]}
def stepA (C:Cx)(rep:Sc→List Nat→Nat→Nat→Int→Gs→Gs)(x:Sc)(inside:List Nat)(base:Int)(k:Nat)(ln:TLine)(L:Ls):Ls:=
 if ln.fKind=4 then
  let g:=emitG C L.g base 10 0 k x.chain
  {L with g:=⟨setArg g.items (atL L.pos (ownOf C.p k)) g.items.length,g.most,g.start⟩,pos:=L.pos.set k L.g.items.length}
 else if ln.fKind=7 then
  if ownOf C.p k=x.f then leaveG C x k true (base+1) {L with g:=emitG C L.g base 0 0 k x.chain}
  else if kindAt C.p (ownOf C.p k)=5 then{L with g:=emitG C L.g base 10 (atL L.heads (ownOf C.p k)) k x.chain}
  else L
 else
  let L1:Ls:={L with g:=genE C rep x inside k (exL ln.fExpr) base ⟨L.g.items,L.g.most,true⟩,heads:=L.heads.set k L.g.items.length}
  if ln.fKind=1 then{L1 with g:=storeG C x L1.g (base+1) (idxOf x.locals ln.fName) k x.chain}
  else if ln.fKind=2 then{L1 with g:=emitG C L1.g (base+1) 17 0 k x.chain}
  else if ln.fKind=6 then leaveG C x k false (base+1) L1
  else{L1 with g:=emitG C L1.g (base+1) 11 0 k x.chain,pos:=L1.pos.set k L1.g.items.length}
def exitAt (p:List TLine)(k:Nat):Nat:=match elseAt p (ownOf p k)with|some j=>j|none=>ownOf p k
def stepB (C:Cx)(x:Sc)(k:Nat)(ln:TLine)(L:Ls):Ls:=
 if ln.fKind=7∧ownOf C.p k≠x.f then{L with g:=⟨setArg L.g.items (atL L.pos (exitAt C.p k)) L.g.items.length,L.g.most,L.g.start⟩} else L
def runL (C:Cx)(rep:Sc→List Nat→Nat→Nat→Int→Gs→Gs)(x:Sc)(inside:List Nat)(base:Int):Nat→Nat→Ls→Ls
 | 0,_,L=>L
 | n+1,k,L=>match C.p[k]? with
  | some ln=>runL C rep x inside base n (k+1) (stepB C x k ln (stepA C rep x inside base k ln L))
  | none=>L
def startL (C:Cx)(s:Gs):Ls:=⟨s,List.replicate C.p.length 0,List.replicate C.p.length 0,[]⟩
def endL' (p:List TLine)(f:Nat):Nat:=(endAt p f).getD 0
def linesG (C:Cx)(rep:Sc→List Nat→Nat→Nat→Int→Gs→Gs)(x:Sc)(inside:List Nat)(base:Int)(s:Gs):Gs×List Int:=
 let L:=runL C rep x inside base (endL' C.p x.f - x.f) (x.f+1) (startL C s)
 (L.g,L.lv)
def repN (C:Cx):Nat→Sc→List Nat→Nat→Nat→Int→Gs→Gs
 | 0=>fun _ _ _ _ _ s=>s
 | n+1=>replG C (linesG C (repN C n))
def headG (C:Cx)(f:Nat):Gs:=emitG C ⟨[],(localsOf C.p (f:Int)).length - C.args,false⟩ 0 (if C.framed=true then 13 else 15) C.words f []
def outerSc (C:Cx)(f:Nat):Sc:=⟨f,[],localsOf C.p (f:Int),0,true⟩
def compG (C:Cx)(f:Nat):Gs:=(linesG C (repN C C.b.fInline.toNat) (outerSc C f) [f] C.words (headG C f)).1
end
end Go.Proofs.YtjmplnfiabmalaaGreat
namespace Go.Proofs.YtjmplnfiabmalaaGreat
open Go.Sim
set_option maxRecDepth 100000
set_option maxHeartbeats 4000000
theorem lt_of_get {α:Type}{l:List α}{k:Nat}{x:α}(h:l[k]?=some x):k < l.length:=by
 rcases Nat.lt_or_ge k l.length with h'|h'
 ·exact h'
 ·rw[List.getElem?_eq_none h']at h;cases h
theorem endAt_inj {l:List TLine}{i j e:Nat}(hi:endAt l i=some e)(hj:endAt l j=some e):i=j:=by
 have key:∀{i j:Nat},endAt l i=some e→endAt l j=some e→i < j→False:=by
  intro i j hi hj hlt
  obtain⟨x,hx,ho,_,h1,_⟩:=endAt_some hj
  obtain⟨m,hm,_,h2⟩:=endAt_in hi hlt h1 hx ho
  rw[hj]at hm
  injection hm with hm
  omega
 rcases Nat.lt_trichotomy i j with h|h|h
 ·exact(key hi hj h).elim
 ·exact h
 ·exact(key hj hi h).elim
theorem elseN_out {l:List TLine}{e:Nat}:∀{n i j:Nat},elseN l e n i=some j→∀k x m,i≤k→k < j→l[k]?=some x→(x.fKind=3∨x.fKind=5)→endAt l k=some m→m < j
 | 0,_,_,h=>by rw[elseN]at h;cases h
 | n+1,i,j,h=>by
  intro k x m h1 h2 hx h3 hm
  rw[elseN]at h
  split at h
  ·split at h
   ·rename_i y hy
    split at h
    ·injection h with h;omega
    ·split at h
     ·split at h
      ·rename_i m' hm'
       have hin:=elseN_in h
       obtain⟨_,_,_,_,g1,_⟩:=endAt_some hm'
       by_cases hk:k=i
       ·subst hk
        rw[hm']at hm
        injection hm with hm
        omega
       ·by_cases hk2:k≤m'
        ·by_cases hk3:k=m'
         ·subst hk3
          obtain⟨z,hz,h7⟩:=endAt_kind hm'
          rw[hx]at hz
          injection hz with hz
          subst hz
          omega
         ·obtain⟨m2,hm2,_,g2⟩:=endAt_in hm' (by omega) (by omega) hx (by rw[opensK_iff];omega)
          rw[hm]at hm2
          injection hm2 with hm2
          omega
        ·exact elseN_out h k x m (by omega) h2 hx h3 hm
      ·rename_i hno
       by_cases hk:k=i
       ·subst hk
        rw[hno]at hm
        cases hm
       ·exact elseN_out h k x m (by omega) h2 hx h3 hm
     ·by_cases hk:k=i
      ·subst hk
       rw[hx]at hy
       injection hy with hy
       subst hy
       rename_i hne
       exact absurd h3 hne
      ·exact elseN_out h k x m (by omega) h2 hx h3 hm
   ·cases h
  ·cases h
theorem elseAt_inj {l:List TLine}{i j k:Nat}(hi:elseAt l i=some k)(hj:elseAt l j=some k):i=j:=by
 have key:∀{i j:Nat},elseAt l i=some k→elseAt l j=some k→i < j→False:=by
  intro i j hi hj hlt
  obtain⟨y,ej,hy,h3,hej,h4,h5,_⟩:=elseAt_some hj
  unfold elseAt at hi
  split at hi
  ·split at hi
   ·have:=elseN_out hi j y ej (by omega) h4 hy (.inl h3) hej
    omega
   ·cases hi
  ·cases hi
 rcases Nat.lt_trichotomy i j with h|h|h
 ·exact(key hi hj h).elim
 ·exact h
 ·exact(key hj hi h).elim
theorem ownN_some {p:List TLine}{k i:Nat}:∀{n:Nat},ownN p k n=some i→i < n∧(endAt p i=some k∨elseAt p i=some k)
 | 0,h=>by rw[ownN]at h;cases h
 | n+1,h=>by
  rw[ownN]at h
  split at h
  ·injection h with h;subst h;exact⟨by omega,by assumption⟩
  ·have:=ownN_some h;exact⟨by omega,this.2⟩
theorem ownN_has {p:List TLine}{k i:Nat}(hi:endAt p i=some k∨elseAt p i=some k):∀{n:Nat},i < n→∃j,ownN p k n=some j
 | 0,h=>by omega
 | n+1,h=>by
  rw[ownN]
  split
  ·exact⟨_,rfl⟩
  ·by_cases he:i=n
   ·subst he;exact absurd hi (by assumption)
   ·exact ownN_has hi (by omega)
theorem own_end {p:List TLine}{k i:Nat}(h:endAt p i=some k):ownOf p k=i:=by
 obtain⟨x,hx,_,_,_,_⟩:=endAt_some h
 obtain⟨j,hj⟩:=ownN_has (.inl h) (lt_of_get hx)
 rw[ownOf,hj]
 obtain⟨_,h1|h1⟩:=ownN_some hj
 ·exact endAt_inj h1 h
 ·obtain⟨_,_,_,_,_,_,_,y,hy,h4⟩:=elseAt_some h1
  obtain⟨z,hz,h7⟩:=endAt_kind h
  rw[hy]at hz
  injection hz with hz
  subst hz
  omega
theorem own_else {p:List TLine}{k i:Nat}(h:elseAt p i=some k):ownOf p k=i:=by
 obtain⟨x,e,hx,_,_,_,_,y,hy,h4⟩:=elseAt_some h
 obtain⟨j,hj⟩:=ownN_has (.inr h) (lt_of_get hx)
 rw[ownOf,hj]
 obtain⟨_,h1|h1⟩:=ownN_some hj
 ·obtain⟨z,hz,h7⟩:=endAt_kind h1
  rw[hy]at hz
  injection hz with hz
  subst hz
  omega
 ·exact elseAt_inj h1 h
theorem end_closes {l:List TLine}{i:Nat}{x:TLine}(hx:l[i]?=some x)(h7:x.fKind=7):∀(n s o e:Nat),i - s≤n→s≤i→1≤o→endN (l.drop s) s o=some e→i≤e→(∃k,s≤k∧k < i∧endAt l k=some i)∨∃j,1≤j∧j≤o∧endN (l.drop s) s j=some i
 | n,s,o,e,hn,hs,ho,h,hi=>by
  have hno:¬opensK x.fKind=true:=by rw[opensK_iff];omega
  by_cases he:s=i
  ·subst he
   exact .inr ⟨1,Nat.le_refl _,ho,by rw[endN_at hx,if_neg hno,if_pos h7,if_pos rfl]⟩
  obtain⟨m,rfl⟩:∃m,n=m+1:=⟨n - 1,by omega⟩
  have hl:=endN_lt h
  obtain⟨y,hy⟩:=get_of_lt (l:=l) (k:=s) (by omega)
  rw[endN_at hy]at h
  by_cases hop:opensK y.fKind=true
  ·rw[if_pos hop]at h
   rcases end_closes hx h7 m (s+1) (o+1) e (by omega) (by omega) (by omega) h hi with⟨k,h1,h2,h3⟩|⟨j,h1,h2,h3⟩
   ·exact .inl ⟨k,by omega,h2,h3⟩
   ·by_cases hj:j=1
    ·subst hj
     exact .inl ⟨s,Nat.le_refl _,by omega,by rw[endAt_of hy hop];exact h3⟩
    ·exact .inr ⟨j - 1,by omega,by omega,by rw[endN_at hy,if_pos hop,show j - 1+1=j by omega];exact h3⟩
  ·rw[if_neg hop]at h
   by_cases h7y:y.fKind=7
   ·rw[if_pos h7y]at h
    by_cases h1o:o=1
    ·rw[if_pos h1o]at h
     injection h with h
     omega
    ·rw[if_neg h1o]at h
     rcases end_closes hx h7 m (s+1) (o - 1) e (by omega) (by omega) (by omega) h hi with⟨k,h1,h2,h3⟩|⟨j,h1,h2,h3⟩
     ·exact .inl ⟨k,by omega,h2,h3⟩
     ·exact .inr ⟨j+1,by omega,by omega,by rw[endN_at hy,if_neg hop,if_pos h7y,if_neg (by omega),show j+1 - 1=j by omega];exact h3⟩
   ·rw[if_neg h7y]at h
    rcases end_closes hx h7 m (s+1) o e (by omega) (by omega) ho h hi with⟨k,h1,h2,h3⟩|⟨j,h1,h2,h3⟩
    ·exact .inl ⟨k,by omega,h2,h3⟩
    ·exact .inr ⟨j,h1,h2,by rw[endN_at hy,if_neg hop,if_neg h7y];exact h3⟩
structure CxOk (C:Cx):Prop where
 len:C.p.length≤60
 small:smallT 1048576 (.lst 4 (C.p.map TLine.tr))
 line:∀(k:Nat) (ln:TLine),C.p[k]?=some ln→0≤ln.fKind∧ln.fKind≤7∧ln.fArgs.length≤4∧ln.fExpr.length≤20∧((ln.fKind=1∨ln.fKind=2∨ln.fKind=3∨ln.fKind=5∨ln.fKind=6)→exprOk ln.fExpr=true)
 fn:∀(g:Nat) (ln:TLine),C.p[g]?=some ln→ln.fKind=0→∃e,endAt C.p g=some e∧(localsOf C.p (g:Int)).length≤8∧ln.fArgs.length≤(localsOf C.p (g:Int)).length∧∀(k:Nat) (y:TLine),g < k→k < e→C.p[k]?=some y→y.fKind≠0∧(∀t∈y.fExpr,t.fKind=7→∃f,findN C.p 0 t.fName=some f∧(argsN C.p f:Int)=t.fNum)∧(y.fKind=4→∃i,g≤i∧i < k∧elseAt C.p i=some k)
 args:0≤C.args∧C.args≤4
 words:0≤C.words∧C.words≤1000
 inl:0≤C.b.fInline∧C.b.fInline≤3
structure ScOk (C:Cx) (x:Sc) (ins:List Nat):Prop where
 fn:∃ln,C.p[x.f]?=some ln∧ln.fKind=0
 loc:x.locals=localsOf C.p (x.f:Int)
 first:0≤x.first∧x.first≤8 * ins.length
 chain:x.chain.length+1=ins.length
 out:x.outer=true↔x.chain=[]
 args:x.outer=true→C.args=argsN C.p x.f
 mem:ins.getLast?=some x.f
section
variable {C:Cx} {x:Sc} {ins:List Nat}
theorem CxOk.argsN (h:CxOk C)(g:Nat):argsN C.p g≤4:=by
 unfold Go.Proofs.YtjmplnfiabmalaaGreat.argsN
 split
 ·rename_i l hl
  have:=h.line _ _ hl
  omega
 ·omega
theorem ScOk.endE (hC:CxOk C)(hx:ScOk C x ins):∃e,endAt C.p x.f=some e∧x.f < e∧e < C.p.length∧endL' C.p x.f=e∧x.locals.length≤8:=by
 obtain⟨ln,h1,h2⟩:=hx.fn
 obtain⟨e,h3,h4,h5,_⟩:=hC.fn _ _ h1 h2
 obtain⟨_,_,_,_,h6,h7⟩:=endAt_some h3
 exact⟨e,h3,h6,h7,by rw[endL',h3];rfl,by rw[hx.loc];exact h4⟩
theorem ScOk.argLe (hC:CxOk C)(hx:ScOk C x ins):argsN C.p x.f≤x.locals.length:=by
 obtain⟨ln,h1,h2⟩:=hx.fn
 obtain⟨e,h3,h4,h5,_⟩:=hC.fn _ _ h1 h2
 rw[hx.loc,Go.Proofs.YtjmplnfiabmalaaGreat.argsN,h1]
 exact h5
theorem ScOk.own7 (hC:CxOk C)(hx:ScOk C x ins){e k:Nat}{ln:TLine}(he:endAt C.p x.f=some e)(h1:x.f < k)(h2:k≤e)(hk:C.p[k]?=some ln)(h7:ln.fKind=7):
  endAt C.p (ownOf C.p k)=some k∧((k=e∧ownOf C.p k=x.f)∨(k < e∧x.f < ownOf C.p k∧ownOf C.p k < k∧∃y,C.p[ownOf C.p k]?=some y∧(y.fKind=3∨y.fKind=5))):=by
 obtain⟨l0,g1,g2⟩:=hx.fn
 obtain⟨e',g3,_,_,g4⟩:=hC.fn _ _ g1 g2
 rw[he]at g3
 injection g3 with g3
 subst g3
 by_cases hke:k=e
 ·subst hke
  rw[own_end he]
  exact⟨he,.inl ⟨rfl,rfl⟩⟩
 ·obtain⟨z,hz,hzo,hzn,_,_⟩:=endAt_some he
  rcases end_closes hk h7 _ (x.f+1) 1 e (Nat.le_refl _) (by omega) (Nat.le_refl _) hzn h2 with⟨i,k1,k2,k3⟩|⟨j,k1,k2,k3⟩
  ·rw[own_end k3]
   obtain⟨y,hy,hyo,_⟩:=endAt_some k3
   have:=(g4 i y (by omega) (by omega) hy).1
   rw[opensK_iff]at hyo
   exact⟨k3,.inr ⟨by omega,by omega,k2,y,hy,by omega⟩⟩
  ·have:j=1:=by omega
   subst this
   rw[hzn]at k3
   injection k3 with k3
   omega
theorem ScOk.own4 (hC:CxOk C)(hx:ScOk C x ins){e k:Nat}{ln:TLine}(he:endAt C.p x.f=some e)(h1:x.f < k)(h2:k≤e)(hk:C.p[k]?=some ln)(h4:ln.fKind=4):
  elseAt C.p (ownOf C.p k)=some k∧x.f < ownOf C.p k∧ownOf C.p k < k∧k < e:=by
 obtain⟨l0,g1,g2⟩:=hx.fn
 obtain⟨e',g3,_,_,g4⟩:=hC.fn _ _ g1 g2
 rw[he]at g3
 injection g3 with g3
 subst g3
 have hke:k≠e:=fun h=>by
  subst h
  obtain⟨y,hy,h7⟩:=endAt_kind he
  rw[hk]at hy
  injection hy with hy
  subst hy
  omega
 obtain⟨i,k1,k2,k3⟩:=(g4 k ln h1 (by omega) hk).2.2 h4
 rw[own_else k3]
 obtain⟨y,_,hy,h3,_⟩:=elseAt_some k3
 have:i≠x.f:=fun h=>by
  subst h
  rw[g1]at hy
  injection hy with hy
  subst hy
  omega
 exact⟨k3,by omega,k2,by omega⟩
end
end Go.Proofs.YtjmplnfiabmalaaGreat
namespace Go.Proofs.YtjmplnfiabmalaaGreat
open Go.Sim
set_option maxRecDepth 100000
set_option maxHeartbeats 4000000
abbrev tvP (l:List TLine):TV:=tvL 4 (l.map TLine.tr)
abbrev vP (l:List TLine):AV:= .r (.c (.t (.lst 4 (l.map TLine.tr))))
theorem s_spec_l04Opens (k:Int):Sim.Spec Tryz.prog 176 [tvI k] (rB (opensK k)):=by
 refine spec_of_W hΓ hmix Tryz.func176 rfl (by decide) rfl ?_
 unfold opensK
 repeat' ((conv=>whnf);first|refine Or.inl ?_|apply oi|(apply fi<;>intro h)|refine⟨_,rfl,?_⟩|((with_reducible show _=_);rfl))
 all_goals try((with_reducible refine Obl.mk ?_);exact KO)
 all_goals(refine⟨congrArg Tr.bool ?_⟩;simp_all;(try(rw[Bool.eq_iff_iff];simp;omega)))
abbrev EndsIx (l:List TLine)(k:Nat)(R:Int):={q:Nat×Nat // q.1≤l.length∧q.2≤q.1∧(q.2=0→q.1=k)∧endI (endN (l.drop q.1) q.1 q.2)=R}
theorem endN_start {l:List TLine}{k:Nat}{x:TLine}(hx:l[k]?=some x)(ho:opensK x.fKind=true):endN (l.drop k) k 0=endAt l k:=by
 rw[endN_at hx,if_pos ho,endAt_of hx ho]
theorem s_spec_EndOf (l:List TLine)(k:Int)(hl:l.length≤1048576):Sim.Spec Tryz.prog 120 [tvP l,tvI k] (rI (endOf l k)):=by
 refine spec_of_W hΓ hmix Tryz.func120 rfl (by decide) rfl ?_
 have hlen:(l.map TLine.tr).length=l.length:=by simp
 by_cases hin:0≤k∧k < l.length
 ·obtain⟨h0,h1⟩:=hin
  obtain⟨k,rfl⟩:=Int.eq_ofNat_of_zero_le h0
  obtain⟨x,hx⟩:=get_of_lt (l:=l) (k:=k) (by omega)
  have hO:=s_spec_l04Opens x.fKind
  skip
  cases ho:opensK x.fKind with
  | false=>
   rw[ho]at hO
   have:endOf l (k:Int)= -1:=by rw[endOf_at,endAt,hx];dsimp only;rw[if_neg (by simp[ho])];rfl
   rw[this]
   repeat' ((conv=>whnf);first|refine Or.inl ?_|apply oi|(apply fi<;>intro h)|refine⟨k,x.tr,rfl,map_get hx,?_⟩|refine ci hO (ai rfl trivial) ?_|refine⟨_,rfl,?_⟩|((with_reducible show _=_);rfl))
   all_goals try((with_reducible refine Obl.mk ?_);exact KO)
   all_goals try exact KX
  | true=>
   rw[ho]at hO
   obtain⟨R,hR⟩:∃R,endOf l (k:Int)=R:=⟨_,rfl⟩
   rw[hR]
   rw[endOf_at,←endN_start hx ho]at hR
   repeat' ((conv=>whnf);first|refine Or.inl ?_|apply oi|(apply fi<;>intro h)|refine⟨k,x.tr,rfl,map_get hx,?_⟩|refine ci hO (ai rfl trivial) ?_|refine⟨_,rfl,?_⟩|((with_reducible show _=_);rfl))
   all_goals try((with_reducible refine Obl.mk ?_);exact KO)
   all_goals try exact KX
   conv=>whnf
   refine⟨EndsIx l k R,fun q=>⟨[(0,vP l),(5,tI .i64 (q.1.2:Int)),(6,tI .i64 (q.1.1:Int))],[],[]⟩,fun q=>l.length - q.1.1,⟨(k,0),by dsimp only;omega,by omega,fun _=>rfl,hR⟩,?_,?_⟩
   ·skip
    repeat' ((conv=>whnf);first|refine Or.inl ?_|apply oi|(apply fi<;>intro h)|refine⟨_,rfl,?_⟩|((with_reducible show _=_);rfl))
    all_goals try((with_reducible refine Obl.mk ?_);exact KO)
   intro⟨⟨i,o⟩,hi,hoi,hs,hr⟩
   dsimp only at hi hoi hs hr ⊢
   by_cases hlt:i < l.length
   ·obtain⟨y,hy⟩:=get_of_lt hlt
    have hO2:=s_spec_l04Opens y.fKind
    rw[endN_at hy]at hr
    cases hoy:opensK y.fKind with
    | true=>
     rw[hoy]at hO2
     rw[if_pos hoy]at hr
     have h7:y.fKind≠7:=by rw[opensK_iff]at hoy;omega
     repeat' ((conv=>whnf);first|refine Or.inl ?_|apply oi|(apply fi<;>intro h)|refine⟨i,y.tr,rfl,map_get hy,?_⟩|refine ci hO2 (ai rfl trivial) ?_|refine⟨_,rfl,?_⟩|((with_reducible show _=_);rfl))
     all_goals try((with_reducible refine Obl.mk ?_);exact KO)
     all_goals try exact KX
     all_goals try(exfalso;(try simp_all[within]);(try omega);done)
     all_goals try exact K3
     conv=>whnf
     refine⟨⟨(i+1,o+1),by dsimp only;omega,by dsimp only;omega,fun h=>by omega,hr⟩,?_,by dsimp only;omega⟩
     repeat' ((conv=>whnf);first|refine Or.inl ?_|apply oi|(apply fi<;>intro h)|refine⟨_,rfl,?_⟩|((with_reducible show _=_);rfl))
     all_goals try((with_reducible refine Obl.mk ?_);exact KO)
     all_goals try exact⟨K2⟩
     all_goals exact⟨by dsimp only;rw[IntWalk.i64_in _ (by omega)];rfl⟩
    | false=>
     rw[hoy]at hO2
     rw[if_neg (by simp[hoy])]at hr
     have hne:o≠0:=fun h=>by
      have:=hs h
      subst this
      rw[hx]at hy
      injection hy with hy
      subst hy
      rw[ho]at hoy
      cases hoy
     by_cases h7:y.fKind=7
     ·rw[if_pos h7]at hr
      by_cases h1:o=1
      ·rw[if_pos h1]at hr
       subst hr
       subst h1
       repeat' ((conv=>whnf);first|refine Or.inl ?_|apply oi|(apply fi<;>intro h)|refine⟨i,y.tr,rfl,map_get hy,?_⟩|refine ci hO2 (ai rfl trivial) ?_|refine⟨_,rfl,?_⟩|((with_reducible show _=_);rfl))
       all_goals try((with_reducible refine Obl.mk ?_);exact KO)
       all_goals try exact KX
       all_goals try(exfalso;(try simp_all[within]);(try omega);done)
      ·rw[if_neg h1]at hr
       repeat' ((conv=>whnf);first|refine Or.inl ?_|apply oi|(apply fi<;>intro h)|refine⟨i,y.tr,rfl,map_get hy,?_⟩|refine ci hO2 (ai rfl trivial) ?_|refine⟨_,rfl,?_⟩|((with_reducible show _=_);rfl))
       all_goals try((with_reducible refine Obl.mk ?_);exact KO)
       all_goals try exact KX
       all_goals try(exfalso;(try simp_all[within]);(try omega);done)
       all_goals try exact K3
       conv=>whnf
       refine⟨⟨(i+1,o - 1),by dsimp only;omega,by dsimp only;omega,fun h=>by omega,hr⟩,?_,by dsimp only;omega⟩
       repeat' ((conv=>whnf);first|refine Or.inl ?_|apply oi|(apply fi<;>intro h)|refine⟨_,rfl,?_⟩|((with_reducible show _=_);rfl))
       all_goals try((with_reducible refine Obl.mk ?_);exact KO)
       all_goals try exact⟨K2⟩
       all_goals exact⟨by dsimp only;congr 1;rw[IntWalk.i64_in _ (by omega)];omega⟩
     ·rw[if_neg h7]at hr
      repeat' ((conv=>whnf);first|refine Or.inl ?_|apply oi|(apply fi<;>intro h)|refine⟨i,y.tr,rfl,map_get hy,?_⟩|refine ci hO2 (ai rfl trivial) ?_|refine⟨_,rfl,?_⟩|((with_reducible show _=_);rfl))
      all_goals try((with_reducible refine Obl.mk ?_);exact KO)
      all_goals try exact KX
      all_goals try(exfalso;(try simp_all[within]);(try omega);done)
      all_goals try exact K4
      conv=>whnf
      refine⟨⟨(i+1,o),by dsimp only;omega,by dsimp only;omega,fun h=>by omega,hr⟩,?_,by dsimp only;omega⟩
      repeat' ((conv=>whnf);first|refine Or.inl ?_|apply oi|(apply fi<;>intro h)|refine⟨_,rfl,?_⟩|((with_reducible show _=_);rfl))
      all_goals try((with_reducible refine Obl.mk ?_);exact KO)
      all_goals try exact⟨K2⟩
   ·rw[endN_no (by omega)]at hr
    subst hr
    repeat' ((conv=>whnf);first|refine Or.inl ?_|apply oi|(apply fi<;>intro h)|refine⟨_,rfl,?_⟩|((with_reducible show _=_);rfl))
    all_goals try((with_reducible refine Obl.mk ?_);exact KO)
    all_goals try exact KX
 ·have:endOf l k= -1:=by
   rw[endOf]
   split
   ·rw[endAt,List.getElem?_eq_none (by omega)];rfl
   ·rfl
  rw[this]
  repeat' ((conv=>whnf);first|refine Or.inl ?_|apply oi|(apply fi<;>intro h)|refine⟨_,rfl,?_⟩|((with_reducible show _=_);rfl))
  all_goals try((with_reducible refine Obl.mk ?_);exact KO)
  all_goals try exact KX
end Go.Proofs.YtjmplnfiabmalaaGreat
namespace Go.Proofs.YtjmplnfiabmalaaGreat
open Go.Sim
set_option maxRecDepth 100000
theorem deepRows_length (a:List (List Tr)):(deepRows a).length=a.length:=by simp[deepRows]
theorem undeep (a:List (List Tr)):(deepRows a).map (·.map DC.tr)=a:=by
 rw[deepRows,List.map_map]
 conv=>rhs;rw[←List.map_id a]
 apply List.map_congr_left
 intro r _
 simp only[Function.comp,List.map_map,id]
 conv=>rhs;rw[←List.map_id r]
 apply List.map_congr_left
 intro x _
 rfl
theorem deepRows_get {l:List (List Tr)}{k:Nat}{r:List Tr}(h:l[k]?=some r):(deepRows l)[k]?=some (r.map .d):=by simp[deepRows,h]
theorem deepRows_set (l:List (List Tr))(k:Nat)(r:List Tr):(deepRows l).set k (r.map .d)=deepRows (l.set k r):=by simp[deepRows,List.map_set]
theorem seq_inl {A:Prop}{Q:(ι:Type)→(ι→St)→Prop}(h:A):A∨∃(ι:Type) (S:ι→St),Q ι S:=Or.inl h
theorem flat_map {α:Type}{g:α→List Tr}(l:List α)(h:∀x,∀c∈g x,∀sz rs,c≠.lst sz rs):flat (l.map g):=by
 intro row hr c hc sz rs
 obtain⟨x,_,rfl⟩:=List.mem_map.1 hr
 exact h x c hc sz rs
theorem flat_ints (l:List Int):flat (l.map intRow):=flat_map _ (by intro x c hc sz rs e;subst e;simp[intRow]at hc)
end Go.Proofs.YtjmplnfiabmalaaGreat
namespace Go.Proofs.YtjmplnfiabmalaaGreat
open Go.Sim
set_option maxRecDepth 100000
set_option maxHeartbeats 4000000
theorem flat_strs (l:List (List UInt8)):flat (l.map strRow):=flat_map _ (by intro x c hc sz rs e;subst e;simp[strRow]at hc)
theorem elseAt_off {l:List TLine}{k:Nat}{x:TLine}(hx:l[k]?=some x)(h:x.fKind≠3∨endAt l k=none):elseAt l k=none:=by
 unfold elseAt
 rw[hx]
 cases he:endAt l k with
 | none=>rfl
 | some e=>
  dsimp only
  rw[if_neg]
  rcases h with h|h
  ·exact h
  ·rw[he]at h;cases h
theorem s_spec_ElseOf (l:List TLine)(k:Int)(hl:l.length≤1048576):Sim.Spec Tryz.prog 178 [tvP l,tvI k] (rI (elseOf l k)):=by
 refine spec_of_W hΓ hmix Tryz.func178 rfl (by decide) rfl ?_
 have hlen:(l.map TLine.tr).length=l.length:=by simp
 have hE:=s_spec_EndOf l k hl
 cases he:endAt l k.toNat with
 | none=>
  have h1:endOf l k= -1:=by rw[endOf,he];split <;> rfl
  have h2:elseOf l k= -1:=by
   rw[elseOf]
   split
   ·unfold elseAt;rw[he];cases l[k.toNat]? <;> rfl
   ·rfl
  rw[h1]at hE
  rw[h2]
  repeat' ((conv=>whnf);first|refine Or.inl ?_|apply oi|(apply fi<;>intro h)|refine ci hE (ai rfl (ai rfl trivial)) ?_|refine⟨_,rfl,?_⟩|((with_reducible show _=_);rfl))
  all_goals try((with_reducible refine Obl.mk ?_);exact KO)
  all_goals try exact KX
 | some e=>
  obtain⟨x,hx,ho,_,hke,hel⟩:=endAt_some he
  by_cases h0:0≤k
  ·obtain⟨k,rfl⟩:=Int.eq_ofNat_of_zero_le h0
   rw[Int.toNat_natCast]at he hx hke
   rw[endOf_at,endI_some he]at hE
   by_cases h3:x.fKind=3
   ·obtain⟨R,hR⟩:∃R,elseOf l (k:Int)=R:=⟨_,rfl⟩
    rw[hR]
    have hR:endI (elseN l e (e - (k+1)) (k+1))=R:=by
     rw[elseOf,if_pos h0,Int.toNat_natCast,elseAt,hx,he]at hR
     dsimp only at hR
     rw[if_pos h3]at hR
     exact hR
    repeat' ((conv=>whnf);first|refine Or.inl ?_|apply oi|(apply fi<;>intro h)|refine ci hE (ai rfl (ai rfl trivial)) ?_|refine⟨k,x.tr,rfl,map_get hx,?_⟩|refine⟨_,rfl,?_⟩|((with_reducible show _=_);rfl))
    all_goals try((with_reducible refine Obl.mk ?_);exact KO)
    all_goals try exact KX
    all_goals try(exfalso;(try simp_all[within]);(try omega);done)
    conv=>whnf
    refine⟨{i:Nat // k < i∧i≤e∧endI (elseN l e (e - i) i)=R},fun q=>⟨[(0,vP l),(5,tI .i64 (e:Int)),(6,tI .i64 (q.1:Int))],[],[]⟩,fun q=>e - q.1,⟨k+1,by omega,by omega,hR⟩,?_,?_⟩
    ·skip
     repeat' ((conv=>whnf);first|refine Or.inl ?_|apply oi|(apply fi<;>intro h)|refine⟨_,rfl,?_⟩|((with_reducible show _=_);rfl))
     all_goals try((with_reducible refine Obl.mk ?_);exact KO)
     all_goals exact⟨by dsimp only;rw[IntWalk.i64_in _ (by omega)];rfl⟩
    intro⟨i,hki,hi,hr⟩
    dsimp only at hki hi hr ⊢
    by_cases hlt:i < e
    ·obtain⟨y,hy⟩:=get_of_lt (l:=l) (k:=i) (by omega)
     rw[elseN_step hlt hy]at hr
     have hE2:=s_spec_EndOf l (i:Int) hl
     by_cases h4:y.fKind=4
     ·rw[if_pos h4]at hr
      subst hr
      repeat' ((conv=>whnf);first|refine Or.inl ?_|apply oi|(apply fi<;>intro h)|refine ci hE2 (ai rfl (ai rfl trivial)) ?_|refine⟨i,y.tr,rfl,map_get hy,?_⟩|refine⟨_,rfl,?_⟩|((with_reducible show _=_);rfl))
      all_goals try((with_reducible refine Obl.mk ?_);exact KO)
      all_goals try exact KX
      all_goals try(exfalso;(try simp_all[within]);(try omega);done)
     ·rw[if_neg h4]at hr
      by_cases h5:y.fKind=3∨y.fKind=5
      ·rw[if_pos h5]at hr
       obtain⟨m,hm,hm1,hm2⟩:=endAt_in he (i:=i) hki hlt hy (opensK_iff.2 (by omega))
       rw[hm]at hr
       dsimp only at hr
       rw[endOf_at,endI_some hm]at hE2
       repeat' ((conv=>whnf);first|refine Or.inl ?_|apply oi|(apply fi<;>intro h)|refine ci hE2 (ai rfl (ai rfl trivial)) ?_|refine⟨i,y.tr,rfl,map_get hy,?_⟩|refine⟨_,rfl,?_⟩|((with_reducible show _=_);rfl))
       all_goals try((with_reducible refine Obl.mk ?_);exact KO)
       all_goals try exact KX
       all_goals try(exfalso;(try simp_all[within]);(try omega);done)
       all_goals
        conv=>whnf
        refine⟨⟨m+1,by omega,by omega,hr⟩,?_,by dsimp only;omega⟩
        repeat' ((conv=>whnf);first|refine Or.inl ?_|apply oi|(apply fi<;>intro h)|refine⟨_,rfl,?_⟩|((with_reducible show _=_);rfl))
        all_goals try((with_reducible refine Obl.mk ?_);exact KO)
        all_goals try exact⟨K2⟩
        all_goals exact⟨by dsimp only;rw[IntWalk.i64_in _ (by omega)];rfl⟩
      ·rw[if_neg h5]at hr
       repeat' ((conv=>whnf);first|refine Or.inl ?_|apply oi|(apply fi<;>intro h)|refine ci hE2 (ai rfl (ai rfl trivial)) ?_|refine⟨i,y.tr,rfl,map_get hy,?_⟩|refine⟨_,rfl,?_⟩|((with_reducible show _=_);rfl))
       all_goals try((with_reducible refine Obl.mk ?_);exact KO)
       all_goals try exact KX
       all_goals try(exfalso;(try simp_all[within]);(try omega);done)
       all_goals try(exfalso;simp_all;done)
       conv=>whnf
       refine⟨⟨i+1,by omega,by omega,hr⟩,?_,by dsimp only;omega⟩
       repeat' ((conv=>whnf);first|refine Or.inl ?_|apply oi|(apply fi<;>intro h)|refine⟨_,rfl,?_⟩|((with_reducible show _=_);rfl))
       all_goals try((with_reducible refine Obl.mk ?_);exact KO)
       all_goals try exact⟨K2⟩
       all_goals exact⟨by dsimp only;rw[IntWalk.i64_in _ (by omega)];rfl⟩
    ·rw[elseN_end (by omega)]at hr
     subst hr
     repeat' ((conv=>whnf);first|refine Or.inl ?_|apply oi|(apply fi<;>intro h)|refine⟨_,rfl,?_⟩|((with_reducible show _=_);rfl))
     all_goals try((with_reducible refine Obl.mk ?_);exact KO)
     all_goals try exact KX
   ·have h2:elseOf l (k:Int)= -1:=by
     rw[elseOf,if_pos h0,Int.toNat_natCast,elseAt_off hx (.inl h3)];rfl
    rw[h2]
    repeat' ((conv=>whnf);first|refine Or.inl ?_|apply oi|(apply fi<;>intro h)|refine ci hE (ai rfl (ai rfl trivial)) ?_|refine⟨k,x.tr,rfl,map_get hx,?_⟩|refine⟨_,rfl,?_⟩|((with_reducible show _=_);rfl))
    all_goals try((with_reducible refine Obl.mk ?_);exact KO)
    all_goals try exact KX
    all_goals try(exfalso;(try simp_all[within]);(try omega);done)
  ·have h1:endOf l k= -1:=by rw[endOf,if_neg h0]
   have h2:elseOf l k= -1:=by rw[elseOf,if_neg h0]
   rw[h1]at hE
   rw[h2]
   repeat' ((conv=>whnf);first|refine Or.inl ?_|apply oi|(apply fi<;>intro h)|refine ci hE (ai rfl (ai rfl trivial)) ?_|refine⟨_,rfl,?_⟩|((with_reducible show _=_);rfl))
   all_goals try((with_reducible refine Obl.mk ?_);exact KO)
   all_goals try exact KX
theorem s_spec_FunctionLines (l:List TLine)(hl:l.length≤1048576):Sim.Spec Tryz.prog 33 [tvP l] (rL 1 ((funs l).map fun n:Nat=>intRow n)):=by
 refine spec_of_W hΓ hmix Tryz.func33 rfl (by decide) rfl ?_
 have hlen:(l.map TLine.tr).length=l.length:=by simp
 obtain⟨R,hR⟩:∃R,funs l=R:=⟨_,rfl⟩
 rw[hR]
 repeat' ((conv=>whnf);first|refine Or.inl ?_|apply oi|(apply fi<;>intro h)|refine⟨_,rfl,?_⟩|((with_reducible show _=_);rfl))
 all_goals try((with_reducible refine Obl.mk ?_);exact KO)
 conv=>whnf
 refine⟨{q:Nat×List Nat // q.1≤l.length∧q.2.length≤q.1∧q.2++funsF (l.drop q.1) q.1=R},fun q=>⟨[(0,vP l),(3,.r (.c (.own (5,0,0)))),(4,tI .i64 (q.1.1:Int))],[((5,0,0),some (.arr true 1 (q.1.2.map fun n:Nat=>intRow n)))],[5]⟩,fun q=>l.length - q.1.1,⟨(0,[]),by simp,by simp,by simpa [funs]using hR⟩,?_,?_⟩
 ·skip
  repeat' ((conv=>whnf);first|refine Or.inl ?_|apply oi|(apply fi<;>intro h)|refine⟨_,rfl,?_⟩|((with_reducible show _=_);rfl))
  all_goals try((with_reducible refine Obl.mk ?_);exact KO)
 intro⟨⟨k,acc⟩,hk,hal,hr⟩
 dsimp only at hk hal hr ⊢
 have hacc:(acc.map fun n:Nat=>intRow n).length=acc.length:=by simp
 by_cases hlt:k < l.length
 ·obtain⟨x,hx⟩:=get_of_lt hlt
  rw[funsF_at hx]at hr
  by_cases h0:x.fKind=0
  ·rw[if_pos h0]at hr
   repeat' ((conv=>whnf);first|refine Or.inl ?_|apply oi|(apply fi<;>intro h)|refine⟨k,x.tr,rfl,map_get hx,?_⟩|refine⟨_,rfl,?_⟩|((with_reducible show _=_);rfl))
   all_goals try((with_reducible refine Obl.mk ?_);exact KO)
   all_goals try exact KX
   all_goals try(exfalso;(try simp_all[within]);(try omega);done)
   all_goals try exact⟨⟨by simp;omega,by simp;omega⟩⟩
   conv=>whnf
   refine⟨⟨(k+1,acc++[k]),by dsimp only;omega,by simp;omega,by rw[←hr];simp⟩,?_,by dsimp only;omega⟩
   repeat' ((conv=>whnf);first|refine Or.inl ?_|apply oi|(apply fi<;>intro h)|refine⟨_,rfl,?_⟩|((with_reducible show _=_);rfl))
   all_goals try((with_reducible refine Obl.mk ?_);exact KO)
   all_goals try exact⟨K2⟩
   all_goals exact⟨by simp[intRow]⟩
  ·rw[if_neg h0,List.nil_append]at hr
   repeat' ((conv=>whnf);first|refine Or.inl ?_|apply oi|(apply fi<;>intro h)|refine⟨k,x.tr,rfl,map_get hx,?_⟩|refine⟨_,rfl,?_⟩|((with_reducible show _=_);rfl))
   all_goals try((with_reducible refine Obl.mk ?_);exact KO)
   all_goals try exact KX
   all_goals try(exfalso;(try simp_all[within]);(try omega);done)
   conv=>whnf
   refine⟨⟨(k+1,acc),by dsimp only;omega,by dsimp only;omega,hr⟩,?_,by dsimp only;omega⟩
   repeat' ((conv=>whnf);first|refine Or.inl ?_|apply oi|(apply fi<;>intro h)|refine⟨_,rfl,?_⟩|((with_reducible show _=_);rfl))
   all_goals try((with_reducible refine Obl.mk ?_);exact KO)
   all_goals try exact⟨K2⟩
 ·rw[List.drop_eq_nil_of_le (by omega),funsF,List.append_nil]at hr
  subst hr
  repeat' ((conv=>whnf);first|refine Or.inl ?_|apply oi|(apply fi<;>intro h)|refine⟨_,rfl,?_⟩|((with_reducible show _=_);rfl))
  all_goals try((with_reducible refine Obl.mk ?_);exact KO)
  all_goals try exact KX
theorem s_spec_FindFunction (l:List TLine)(s:List UInt8)(hl:l.length≤1048576):Sim.Spec Tryz.prog 119 [tvP l,tvS s] (rI (findF l s)):=by
 refine spec_of_W hΓ hmix Tryz.func119 rfl (by decide) rfl ?_
 have hlen:(l.map TLine.tr).length=l.length:=by simp
 obtain⟨R,hR⟩:∃R,findF l s=R:=⟨_,rfl⟩
 rw[hR]
 repeat' ((conv=>whnf);first|refine Or.inl ?_|apply oi|(apply fi<;>intro h)|refine⟨_,rfl,?_⟩|((with_reducible show _=_);rfl))
 all_goals try((with_reducible refine Obl.mk ?_);exact KO)
 conv=>whnf
 refine⟨{k:Nat // k≤l.length∧endI (findN (l.drop k) k s)=R},fun q=>⟨[(0,vP l),(1,tS s),(5,tI .i64 (q.1:Int))],[],[]⟩,fun q=>l.length - q.1,⟨0,by omega,hR⟩,?_,?_⟩
 ·skip
  repeat' ((conv=>whnf);first|refine Or.inl ?_|apply oi|(apply fi<;>intro h)|refine⟨_,rfl,?_⟩|((with_reducible show _=_);rfl))
  all_goals try((with_reducible refine Obl.mk ?_);exact KO)
 intro⟨k,hk,hr⟩
 dsimp only at hk hr ⊢
 by_cases hlt:k < l.length
 ·obtain⟨x,hx⟩:=get_of_lt hlt
  rw[findN_at hx]at hr
  by_cases h0:x.fKind=0∧x.fName=s
  ·rw[if_pos h0]at hr
   obtain⟨h1,h2⟩:=h0
   subst h2
   subst hr
   repeat' ((conv=>whnf);first|refine Or.inl ?_|apply oi|(apply fi<;>intro h)|refine⟨k,x.tr,rfl,map_get hx,?_⟩|refine⟨_,rfl,?_⟩|((with_reducible show _=_);rfl))
   all_goals try((with_reducible refine Obl.mk ?_);exact KO)
   all_goals try exact KX
   all_goals try(exfalso;(try simp_all[within]);(try omega);done)
  ·rw[if_neg h0]at hr
   repeat' ((conv=>whnf);first|refine Or.inl ?_|apply oi|(apply fi<;>intro h)|refine⟨k,x.tr,rfl,map_get hx,?_⟩|refine⟨_,rfl,?_⟩|((with_reducible show _=_);rfl))
   all_goals try((with_reducible refine Obl.mk ?_);exact KO)
   all_goals try exact KX
   all_goals try(exfalso;apply h0;simp_all;done)
   all_goals
    conv=>whnf
    refine⟨⟨k+1,by omega,hr⟩,?_,by dsimp only;omega⟩
    repeat' ((conv=>whnf);first|refine Or.inl ?_|apply oi|(apply fi<;>intro h)|refine⟨_,rfl,?_⟩|((with_reducible show _=_);rfl))
    all_goals try((with_reducible refine Obl.mk ?_);exact KO)
    all_goals try exact⟨K2⟩
 ·rw[List.drop_eq_nil_of_le (by omega),findN]at hr
  subst hr
  repeat' ((conv=>whnf);first|refine Or.inl ?_|apply oi|(apply fi<;>intro h)|refine⟨_,rfl,?_⟩|((with_reducible show _=_);rfl))
  all_goals try((with_reducible refine Obl.mk ?_);exact KO)
  all_goals try exact KX
abbrev rN (l:List (List UInt8)):Res:=rL 1 (l.map strRow)
theorem localsOf_eq {l:List TLine}{k e:Nat}{x:TLine}(hx:l[k]?=some x)(he:endAt l k=some e)(h0:x.fKind=0):localsOf l (k:Int)=locN l e (e - k) k x.fArgs:=by
 rw[localsOf,if_pos (by omega),Int.toNat_natCast,hx,he]
 dsimp only
 rw[if_pos h0]
theorem locals_off {l:List TLine}{k:Int}(h:∀e x,endAt l k.toNat=some e→l[k.toNat]?=some x→0≤k→x.fKind≠0):localsOf l k=[]:=by
 rw[localsOf]
 split
 ·split
  ·rename_i x e hx he
   rw[if_neg (h e x he hx (by assumption))]
  ·rfl
 ·rfl
theorem locals_le {l:List TLine}{k:Int}(hl:l.length≤1048576)(hs:∀x∈l,smallR 1048576 x.tr):(localsOf l k).length≤2097152∧True:=by
 refine⟨?_,trivial⟩
 rw[localsOf]
 split
 ·split
  ·rename_i x e hx he
   obtain⟨_,_,_,_,h1,h2⟩:=endAt_some he
   have:=(line_small (hs x (List.mem_of_getElem? hx))).2.1
   split
   ·have:=locN_len (l:=l) (e:=e) (e - k.toNat) k.toNat x.fArgs
    omega
   ·simp
  ·simp
 ·simp
theorem s_spec_l04Index (l:List (List UInt8))(s:List UInt8)(hl:l.length≤2097152):Sim.Spec Tryz.prog 179 [tvL 1 (l.map strRow),tvS s] (rI (idxOf l s)):=by
 refine spec_of_W hΓ hmix Tryz.func179 rfl (by decide) rfl ?_
 have hlen:(l.map strRow).length=l.length:=by simp
 obtain⟨R,hR⟩:∃R,idxOf l s=R:=⟨_,rfl⟩
 rw[hR]
 repeat' ((conv=>whnf);first|refine Or.inl ?_|apply oi|(apply fi<;>intro h)|refine⟨_,rfl,?_⟩|((with_reducible show _=_);rfl))
 all_goals try((with_reducible refine Obl.mk ?_);exact KO)
 conv=>whnf
 refine⟨{k:Nat // k≤l.length∧endI (idxN (l.drop k) k s)=R},fun k=>⟨[(0,.r (.c (.t (.lst 1 (l.map strRow))))),(1,tS s),(5,tI .i64 (k.1:Int))],[],[]⟩,fun k=>l.length - k.1,⟨0,by omega,hR⟩,?_,?_⟩
 ·skip
  repeat' ((conv=>whnf);first|refine Or.inl ?_|apply oi|(apply fi<;>intro h)|refine⟨_,rfl,?_⟩|((with_reducible show _=_);rfl))
  all_goals try((with_reducible refine Obl.mk ?_);exact KO)
 intro⟨k,hk,hr⟩
 dsimp only at hk hr ⊢
 by_cases hlt:k < l.length
 ·obtain⟨x,hx⟩:=get_of_lt hlt
  rw[idxN_at hx]at hr
  cases he:(x==s)with
  | true=>
   rw[he,if_pos rfl]at hr
   have he2:=eq_of_beq he
   subst he2
   subst hr
   repeat' ((conv=>whnf);first|refine Or.inl ?_|apply oi|(apply fi<;>intro h)|refine⟨k,(strRow x),rfl,map_get hx,?_⟩|refine⟨_,rfl,?_⟩|((with_reducible show _=_);rfl))
   all_goals try((with_reducible refine Obl.mk ?_);exact KO)
   all_goals try exact KX
   all_goals try(exfalso;(try simp_all[within]);(try omega);done)
  | false=>
   rw[he,if_neg (by simp)]at hr
   repeat' ((conv=>whnf);first|refine Or.inl ?_|apply oi|(apply fi<;>intro h)|refine⟨k,(strRow x),rfl,map_get hx,?_⟩|refine⟨_,rfl,?_⟩|((with_reducible show _=_);rfl))
   all_goals try((with_reducible refine Obl.mk ?_);exact KO)
   all_goals try exact KX
   all_goals try(exfalso;(try simp_all[within]);(try omega);done)
   conv=>whnf
   refine⟨⟨k+1,by omega,hr⟩,?_,by dsimp only;omega⟩
   repeat' ((conv=>whnf);first|refine Or.inl ?_|apply oi|(apply fi<;>intro h)|refine⟨_,rfl,?_⟩|((with_reducible show _=_);rfl))
   all_goals try((with_reducible refine Obl.mk ?_);exact KO)
   all_goals try exact⟨K2⟩
 ·rw[List.drop_eq_nil_of_le (by omega),idxN]at hr
  subst hr
  repeat' ((conv=>whnf);first|refine Or.inl ?_|apply oi|(apply fi<;>intro h)|refine⟨_,rfl,?_⟩|((with_reducible show _=_);rfl))
  all_goals try((with_reducible refine Obl.mk ?_);exact KO)
  all_goals try exact KX
theorem s_spec_LocalsOf (l:List TLine)(k:Int)(hl:l.length≤1048576)(hs:∀x∈l,smallR 1048576 x.tr):Sim.Spec Tryz.prog 177 [tvP l,tvI k] (rN (localsOf l k)):=by
 refine spec_of_W hΓ hmix Tryz.func177 rfl (by decide) rfl ?_
 have hlen:(l.map TLine.tr).length=l.length:=by simp
 have hE:=s_spec_EndOf l k hl
 by_cases h0:0≤k
 ·obtain⟨k,rfl⟩:=Int.eq_ofNat_of_zero_le h0
  rw[endOf_at]at hE
  cases he:endAt l k with
  | none=>
   rw[endI_none he]at hE
   rw[locals_off (fun e x h1 _ _=>by rw[Int.toNat_natCast,he]at h1;cases h1)]
   repeat' ((conv=>whnf);first|refine Or.inl ?_|apply oi|(apply fi<;>intro h)|refine ci hE (ai rfl (ai rfl trivial)) ?_|refine⟨_,rfl,?_⟩|((with_reducible show _=_);rfl))
   all_goals try((with_reducible refine Obl.mk ?_);exact KO)
   all_goals try exact KX
  | some e=>
   rw[endI_some he]at hE
   obtain⟨x,hx,ho,_,hke,hel⟩:=endAt_some he
   by_cases hk0:x.fKind=0
   ·have hsm:=line_small (hs x (List.mem_of_getElem? hx))
    rw[localsOf_eq hx he hk0]
    obtain⟨R,hR⟩:∃R,locN l e (e - k) k x.fArgs=R:=⟨_,rfl⟩
    rw[hR]
    have hal:(x.fArgs.map strRow).length=x.fArgs.length:=by simp
    repeat' ((conv=>whnf);first|refine Or.inl ?_|apply oi|(apply fi<;>intro h)|refine ci hE (ai rfl (ai rfl trivial)) ?_|refine⟨k,x.tr,rfl,map_get hx,?_⟩|refine⟨_,rfl,?_⟩|((with_reducible show _=_);rfl))
    all_goals try((with_reducible refine Obl.mk ?_);exact KO)
    all_goals try exact KX
    all_goals try(exfalso;(try simp_all[within]);(try omega);done)
    all_goals try exact⟨⟨by simp;omega,by simp;omega⟩⟩
    conv=>whnf
    refine⟨{q:Nat×List (List UInt8) // k≤q.1∧q.1≤e∧q.2.length≤1048576+q.1∧locN l e (e - q.1) q.1 q.2=R},fun q=>⟨[(0,vP l),(5,tI .i64 (e:Int)),(6,.r (.c (.own (6,0,0)))),(7,tI .i64 (q.1.1:Int))],[((6,0,0),some (.arr false 1 (q.1.2.map strRow)))],[6]⟩,fun q=>e - q.1.1,⟨(k,x.fArgs),by dsimp only;omega,by dsimp only;omega,by dsimp only;omega,hR⟩,?_,?_⟩
    ·skip
     repeat' ((conv=>whnf);first|refine Or.inl ?_|apply oi|(apply fi<;>intro h)|refine⟨_,rfl,?_⟩|((with_reducible show _=_);rfl))
     all_goals try((with_reducible refine Obl.mk ?_);exact KO)
     all_goals exact⟨by simp⟩
    intro⟨⟨i,acc⟩,hki,hi,hac,hr⟩
    dsimp only at hki hi hac hr ⊢
    have hal2:(acc.map strRow).length=acc.length:=by simp
    by_cases hlt:i < e
    ·obtain⟨y,hy⟩:=get_of_lt (l:=l) (k:=i) (by omega)
     rw[locN_step hlt hy]at hr
     have hC:=s_spec_l04Index acc y.fName (by omega)
     by_cases h1:y.fKind=1
     ·rw[if_pos h1]at hr
      have hix:=idxOf_has (l:=acc) (s:=y.fName)
      generalize idxOf acc y.fName=ix at *
      unfold addName at hr
      cases hc:acc.contains y.fName with
      | true=>
       rw[hc]at hix hr
       rw[if_pos rfl]at hr
       repeat' ((conv=>whnf);first|refine Or.inl ?_|apply oi|(apply fi<;>intro h)|refine ci hC (ai rfl (ai rfl trivial)) ?_|refine⟨i,y.tr,rfl,map_get hy,?_⟩|refine⟨_,rfl,?_⟩|((with_reducible show _=_);rfl))
       all_goals try((with_reducible refine Obl.mk ?_);exact KO)
       all_goals try exact KX
       all_goals try(exfalso;(try simp_all[within]);(try omega);done)
       all_goals
        conv=>whnf
        refine⟨⟨(i+1,acc),by dsimp only;omega,by dsimp only;omega,by dsimp only;omega,hr⟩,?_,by dsimp only;omega⟩
        repeat' ((conv=>whnf);first|refine Or.inl ?_|apply oi|(apply fi<;>intro h)|refine⟨_,rfl,?_⟩|((with_reducible show _=_);rfl))
        all_goals try((with_reducible refine Obl.mk ?_);exact KO)
        all_goals try exact⟨K2⟩
      | false=>
       rw[hc]at hix hr
       rw[if_neg (by simp)]at hr
       repeat' ((conv=>whnf);first|refine Or.inl ?_|apply oi|(apply fi<;>intro h)|refine ci hC (ai rfl (ai rfl trivial)) ?_|refine⟨i,y.tr,rfl,map_get hy,?_⟩|refine⟨_,rfl,?_⟩|((with_reducible show _=_);rfl))
       all_goals try((with_reducible refine Obl.mk ?_);exact KO)
       all_goals try exact KX
       all_goals try(exfalso;(try simp_all[within]);(try omega);done)
       all_goals try exact⟨⟨by simp;omega,by simp;omega⟩⟩
       all_goals
        conv=>whnf
        refine⟨⟨(i+1,acc++[y.fName]),by dsimp only;omega,by dsimp only;omega,by simp;omega,hr⟩,?_,by dsimp only;omega⟩
        repeat' ((conv=>whnf);first|refine Or.inl ?_|apply oi|(apply fi<;>intro h)|refine⟨_,rfl,?_⟩|((with_reducible show _=_);rfl))
        all_goals try((with_reducible refine Obl.mk ?_);exact KO)
        all_goals try exact⟨K2⟩
        all_goals exact⟨by simp[strRow]⟩
     ·rw[if_neg h1]at hr
      repeat' ((conv=>whnf);first|refine Or.inl ?_|apply oi|(apply fi<;>intro h)|refine ci hC (ai rfl (ai rfl trivial)) ?_|refine⟨i,y.tr,rfl,map_get hy,?_⟩|refine⟨_,rfl,?_⟩|((with_reducible show _=_);rfl))
      all_goals try((with_reducible refine Obl.mk ?_);exact KO)
      all_goals try exact KX
      all_goals try(exfalso;(try simp_all[within]);(try omega);done)
      all_goals try(exfalso;simp_all;done)
      conv=>whnf
      refine⟨⟨(i+1,acc),by dsimp only;omega,by dsimp only;omega,by dsimp only;omega,hr⟩,?_,by dsimp only;omega⟩
      repeat' ((conv=>whnf);first|refine Or.inl ?_|apply oi|(apply fi<;>intro h)|refine⟨_,rfl,?_⟩|((with_reducible show _=_);rfl))
      all_goals try((with_reducible refine Obl.mk ?_);exact KO)
      all_goals try exact⟨K2⟩
    ·rw[locN_end (by omega)]at hr
     subst hr
     repeat' ((conv=>whnf);first|refine Or.inl ?_|apply oi|(apply fi<;>intro h)|refine⟨_,rfl,?_⟩|((with_reducible show _=_);rfl))
     all_goals try((with_reducible refine Obl.mk ?_);exact KO)
     all_goals try exact KX
     all_goals exact⟨⟨rfl,flat_strs _⟩⟩
   ·rw[locals_off (fun e x' h1 h2 _=>by rw[Int.toNat_natCast,hx]at h2;injection h2 with h2;subst h2;exact hk0)]
    repeat' ((conv=>whnf);first|refine Or.inl ?_|apply oi|(apply fi<;>intro h)|refine ci hE (ai rfl (ai rfl trivial)) ?_|refine⟨k,x.tr,rfl,map_get hx,?_⟩|refine⟨_,rfl,?_⟩|((with_reducible show _=_);rfl))
    all_goals try((with_reducible refine Obl.mk ?_);exact KO)
    all_goals try exact KX
    all_goals try(exfalso;(try simp_all[within]);(try omega);done)
 ·have h1:endOf l k= -1:=by rw[endOf,if_neg h0]
  rw[h1]at hE
  rw[locals_off (fun e x _ _ h=>absurd h h0)]
  repeat' ((conv=>whnf);first|refine Or.inl ?_|apply oi|(apply fi<;>intro h)|refine ci hE (ai rfl (ai rfl trivial)) ?_|refine⟨_,rfl,?_⟩|((with_reducible show _=_);rfl))
  all_goals try((with_reducible refine Obl.mk ?_);exact KO)
  all_goals try exact KX
end Go.Proofs.YtjmplnfiabmalaaGreat
namespace Go.Proofs.YtjmplnfiabmalaaGreat
open Go.Sim
set_option maxRecDepth 100000
set_option maxHeartbeats 4000000
abbrev vN (l:List (List UInt8)):AV:= .r (.c (.t (.lst 1 (l.map strRow))))
theorem all_at {α:Type}{f:α→Bool}{l:List α}{k:Nat}{x:α}(hx:l[k]?=some x):(l.drop k).all f=(f x && (l.drop (k+1)).all f):=by
 rw[drop_at hx,List.all_cons]
end Go.Proofs.YtjmplnfiabmalaaGreat
namespace Go.Proofs.YtjmplnfiabmalaaGreat
open Go.Sim
set_option maxRecDepth 100000
set_option maxHeartbeats 4000000
abbrev nR (n:Nat):List Tr:=intRow n
theorem headOk_at {l:List TLine}{x:TLine}(hx:l[0]?=some x):headOk l=(x.fKind==0 && (x.fName==mainName && x.fArgs.length==0)):=by
 cases l with
 | nil=>cases hx
 | cons y r=>rw[List.getElem?_cons_zero]at hx;injection hx with hx;subst hx;rfl
end Go.Proofs.YtjmplnfiabmalaaGreat
