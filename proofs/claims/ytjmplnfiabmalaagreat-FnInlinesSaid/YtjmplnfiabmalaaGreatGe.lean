import Derived.Test.YtjmplnfiabmalaaGreatGd
import Derived.Test.YtjmplnfiabmalaaGreatRows
namespace Go.Sim
theorem K1 {p:Prop}(h:False:=by simp at *;omega):p:=h.elim
theorem K2 {p:Prop}(h:p:=by dsimp only;rw[IntWalk.i64_in _ (by omega)];rfl):p:=h
theorem K3 {p:Prop}(h:False:=by simp(disch:=omega)only[IntWalk.i64_in]at *;simp only[beq_iff_eq]at *;omega):p:=h.elim
theorem K4 {p:Prop}(h:False:=by simp only[beq_iff_eq]at *;omega):p:=h.elim
theorem K5 {p:Prop}(h:p:=by simp <;> omega):p:=h
theorem K6 {p:Prop}(h:p:=by rw[IntWalk.i64_in _ (by omega)];rfl):p:=h
theorem K7 {k:IntKind}{a b:Int}(h:a=b:=by dsimp only;rw[IntWalk.i64_in _ (by omega)];omega):Tr.int k a=Tr.int k b:=congrArg (Tr.int k) h
end Go.Sim
namespace Go.Proofs.YtjmplnfiabmalaaGreat
open Go.Sim
def Γ:Env:=[
 (1,{size:=1,bytes:=8,agg:=false,zero:=[AC.opq]}),
 (2,{size:=1,bytes:=8,agg:=false,zero:=[AC.t (Tr.int Go.IntKind.i64 (Int.ofNat 0))],kind:=some Go.IntKind.i64}),
 (3,{size:=1,bytes:=8,agg:=false,zero:=[AC.t (Tr.int Go.IntKind.i64 (Int.ofNat 0))],kind:=some Go.IntKind.i64}),
 (4,{size:=1,bytes:=1,agg:=false,zero:=[AC.t (Tr.bool false)],bool:=true}),
 (5,{size:=1,bytes:=1,agg:=false,zero:=[AC.t (Tr.int Go.IntKind.u8 (Int.ofNat 0))],kind:=some Go.IntKind.u8}),
 (6,{size:=1,bytes:=1,agg:=false,zero:=[AC.t (Tr.int Go.IntKind.u8 (Int.ofNat 0))],kind:=some Go.IntKind.u8}),
 (7,{size:=4,bytes:=24,agg:=true,zero:=[AC.t (Tr.int Go.IntKind.i64 (Int.ofNat 0)),AC.t (Tr.int Go.IntKind.i64 (Int.ofNat 0)),AC.t (Tr.bool false),AC.t (Tr.int Go.IntKind.u8 (Int.ofNat 0))],fields:=[(0,1,2),(1,1,3),(2,1,4),(3,1,6)]}),
 (8,{size:=4,bytes:=24,agg:=true,zero:=[AC.t (Tr.int Go.IntKind.i64 (Int.ofNat 0)),AC.t (Tr.int Go.IntKind.i64 (Int.ofNat 0)),AC.t (Tr.bool false),AC.t (Tr.int Go.IntKind.u8 (Int.ofNat 0))],fields:=[(0,1,2),(1,1,3),(2,1,4),(3,1,6)]}),
 (9,{size:=1,bytes:=16,agg:=false,zero:=[AC.t (Tr.str [])],str:=true}),
 (10,{size:=1,bytes:=16,agg:=false,zero:=[AC.t (Tr.str [])],str:=true}),
 (11,{size:=1,bytes:=16,agg:=false,zero:=[AC.t (Tr.str [])],str:=true}),
 (12,{size:=1,bytes:=8,agg:=false,zero:=[AC.t (Tr.int Go.IntKind.u64 (Int.ofNat 0))],kind:=some Go.IntKind.u64}),
 (13,{size:=2,bytes:=24,agg:=true,zero:=[AC.t (Tr.str []),AC.t (Tr.int Go.IntKind.u64 (Int.ofNat 0))],fields:=[(0,1,9),(1,1,12)]}),
 (14,{size:=2,bytes:=24,agg:=true,zero:=[AC.t (Tr.str []),AC.t (Tr.int Go.IntKind.u64 (Int.ofNat 0))],fields:=[(0,1,9),(1,1,12)]}),
 (15,{size:=1,bytes:=8,agg:=false,zero:=[AC.nilp]}),
 (16,{size:=1,bytes:=8,agg:=false,zero:=[AC.nilp]}),
 (17,{size:=1,bytes:=8,agg:=false,zero:=[AC.nilp]}),
 (18,{size:=1,bytes:=8,agg:=true,zero:=[AC.nilp],fields:=[(0,1,17)]}),
 (19,{size:=1,bytes:=8,agg:=true,zero:=[AC.nilp],fields:=[(0,1,17)]}),
 (20,{size:=1,bytes:=16,agg:=false,zero:=[AC.opq]}),
 (21,{size:=1,bytes:=4,agg:=false,zero:=[AC.t (Tr.int Go.IntKind.i32 (Int.ofNat 0))],kind:=some Go.IntKind.i32}),
 (22,{size:=1,bytes:=24,agg:=false,zero:=[AC.nils 0],elem:=some 5}),
 (23,{size:=1,bytes:=8,agg:=false,zero:=[AC.opq]}),
 (24,{size:=1,bytes:=24,agg:=false,zero:=[AC.nils 0],elem:=some 135}),
 (25,{size:=4,bytes:=24,agg:=true,zero:=[AC.t (Tr.int Go.IntKind.i64 (Int.ofNat 0)),AC.t (Tr.int Go.IntKind.i64 (Int.ofNat 0)),AC.t (Tr.bool false),AC.t (Tr.bool false)],fields:=[(0,1,3),(1,1,3),(2,1,4),(3,1,4)]}),
 (26,{size:=4,bytes:=24,agg:=true,zero:=[AC.t (Tr.int Go.IntKind.i64 (Int.ofNat 0)),AC.t (Tr.int Go.IntKind.i64 (Int.ofNat 0)),AC.t (Tr.bool false),AC.t (Tr.bool false)],fields:=[(0,1,3),(1,1,3),(2,1,4),(3,1,4)]}),
 (28,{size:=1,bytes:=8,agg:=false,zero:=[AC.opq]}),
 (29,{size:=1,bytes:=24,agg:=false,zero:=[AC.nils 0],elem:=some 39}),
 (30,{size:=1,bytes:=8,agg:=false,zero:=[AC.opq]}),
 (31,{size:=1,bytes:=24,agg:=false,zero:=[AC.nils 0],elem:=some 42}),
 (32,{size:=1,bytes:=8,agg:=false,zero:=[AC.opq]}),
 (33,{size:=2,bytes:=16,agg:=true,zero:=[AC.t (Tr.int Go.IntKind.i64 (Int.ofNat 0)),AC.t (Tr.int Go.IntKind.i64 (Int.ofNat 0))],fields:=[(0,1,3),(1,1,3)]}),
 (34,{size:=2,bytes:=16,agg:=true,zero:=[AC.t (Tr.int Go.IntKind.i64 (Int.ofNat 0)),AC.t (Tr.int Go.IntKind.i64 (Int.ofNat 0))],fields:=[(0,1,3),(1,1,3)]}),
 (35,{size:=1,bytes:=24,agg:=false,zero:=[AC.nils 0],elem:=some 3}),
 (36,{size:=7,bytes:=72,agg:=true,zero:=[AC.t (Tr.int Go.IntKind.i64 (Int.ofNat 0)),AC.t (Tr.int Go.IntKind.i64 (Int.ofNat 0)),AC.t (Tr.int Go.IntKind.i64 (Int.ofNat 0)),AC.t (Tr.bool false),AC.nils 0,AC.t (Tr.int Go.IntKind.i64 (Int.ofNat 0)),AC.t (Tr.bool false)],fields:=[(0,2,34),(2,1,3),(3,1,4),(4,1,35),(5,1,3),(6,1,4)]}),
 (37,{size:=7,bytes:=72,agg:=true,zero:=[AC.t (Tr.int Go.IntKind.i64 (Int.ofNat 0)),AC.t (Tr.int Go.IntKind.i64 (Int.ofNat 0)),AC.t (Tr.int Go.IntKind.i64 (Int.ofNat 0)),AC.t (Tr.bool false),AC.nils 0,AC.t (Tr.int Go.IntKind.i64 (Int.ofNat 0)),AC.t (Tr.bool false)],fields:=[(0,2,34),(2,1,3),(3,1,4),(4,1,35),(5,1,3),(6,1,4)]}),
 (38,{size:=8,bytes:=80,agg:=true,zero:=[AC.t (Tr.int Go.IntKind.i64 (Int.ofNat 0)),AC.t (Tr.int Go.IntKind.i64 (Int.ofNat 0)),AC.t (Tr.int Go.IntKind.i64 (Int.ofNat 0)),AC.t (Tr.int Go.IntKind.i64 (Int.ofNat 0)),AC.t (Tr.bool false),AC.nils 0,AC.t (Tr.int Go.IntKind.i64 (Int.ofNat 0)),AC.t (Tr.bool false)],fields:=[(0,1,3),(1,7,37)]}),
 (39,{size:=8,bytes:=80,agg:=true,zero:=[AC.t (Tr.int Go.IntKind.i64 (Int.ofNat 0)),AC.t (Tr.int Go.IntKind.i64 (Int.ofNat 0)),AC.t (Tr.int Go.IntKind.i64 (Int.ofNat 0)),AC.t (Tr.int Go.IntKind.i64 (Int.ofNat 0)),AC.t (Tr.bool false),AC.nils 0,AC.t (Tr.int Go.IntKind.i64 (Int.ofNat 0)),AC.t (Tr.bool false)],fields:=[(0,1,3),(1,7,37)]}),
 (40,{size:=1,bytes:=8,agg:=false,zero:=[AC.opq]}),
 (41,{size:=5,bytes:=48,agg:=true,zero:=[AC.t (Tr.int Go.IntKind.i64 (Int.ofNat 0)),AC.t (Tr.int Go.IntKind.i64 (Int.ofNat 0)),AC.t (Tr.int Go.IntKind.i64 (Int.ofNat 0)),AC.t (Tr.int Go.IntKind.i64 (Int.ofNat 0)),AC.t (Tr.str [])],fields:=[(0,1,3),(1,1,3),(2,1,3),(3,1,3),(4,1,9)]}),
 (42,{size:=5,bytes:=48,agg:=true,zero:=[AC.t (Tr.int Go.IntKind.i64 (Int.ofNat 0)),AC.t (Tr.int Go.IntKind.i64 (Int.ofNat 0)),AC.t (Tr.int Go.IntKind.i64 (Int.ofNat 0)),AC.t (Tr.int Go.IntKind.i64 (Int.ofNat 0)),AC.t (Tr.str [])],fields:=[(0,1,3),(1,1,3),(2,1,3),(3,1,3),(4,1,9)]}),
 (43,{size:=1,bytes:=8,agg:=false,zero:=[AC.opq]}),
 (45,{size:=1,bytes:=8,agg:=false,zero:=[AC.opq]}),
 (46,{size:=1,bytes:=8,agg:=false,zero:=[AC.opq]}),
 (47,{size:=1,bytes:=8,agg:=false,zero:=[AC.opq]}),
 (48,{size:=1,bytes:=8,agg:=false,zero:=[AC.opq]}),
 (49,{size:=1,bytes:=24,agg:=false,zero:=[AC.nils 0],elem:=some 83}),
 (50,{size:=3,bytes:=72,agg:=true,zero:=[AC.nils 0,AC.nils 0,AC.nils 0],fields:=[(0,1,49),(1,1,35),(2,1,35)]}),
 (51,{size:=3,bytes:=72,agg:=true,zero:=[AC.nils 0,AC.nils 0,AC.nils 0],fields:=[(0,1,49),(1,1,35),(2,1,35)]}),
 (53,{size:=1,bytes:=8,agg:=false,zero:=[AC.opq]}),
 (54,{size:=7,bytes:=88,agg:=true,zero:=[AC.t (Tr.int Go.IntKind.i64 (Int.ofNat 0)),AC.t (Tr.int Go.IntKind.i64 (Int.ofNat 0)),AC.t (Tr.int Go.IntKind.i64 (Int.ofNat 0)),AC.nils 0,AC.nils 0,AC.t (Tr.int Go.IntKind.i64 (Int.ofNat 0)),AC.t (Tr.int Go.IntKind.i64 (Int.ofNat 0))],fields:=[(0,1,3),(1,1,3),(2,1,3),(3,1,35),(4,1,35),(5,1,3),(6,1,3)]}),
 (55,{size:=7,bytes:=88,agg:=true,zero:=[AC.t (Tr.int Go.IntKind.i64 (Int.ofNat 0)),AC.t (Tr.int Go.IntKind.i64 (Int.ofNat 0)),AC.t (Tr.int Go.IntKind.i64 (Int.ofNat 0)),AC.nils 0,AC.nils 0,AC.t (Tr.int Go.IntKind.i64 (Int.ofNat 0)),AC.t (Tr.int Go.IntKind.i64 (Int.ofNat 0))],fields:=[(0,1,3),(1,1,3),(2,1,3),(3,1,35),(4,1,35),(5,1,3),(6,1,3)]}),
 (57,{size:=1,bytes:=8,agg:=false,zero:=[AC.opq]}),
 (58,{size:=1,bytes:=8,agg:=false,zero:=[AC.opq]}),
 (60,{size:=1,bytes:=8,agg:=false,zero:=[AC.opq]}),
 (61,{size:=1,bytes:=8,agg:=false,zero:=[AC.opq]}),
 (62,{size:=1,bytes:=8,agg:=false,zero:=[AC.opq]}),
 (64,{size:=1,bytes:=8,agg:=false,zero:=[AC.opq]}),
 (65,{size:=1,bytes:=8,agg:=false,zero:=[AC.opq]}),
 (67,{size:=1,bytes:=8,agg:=false,zero:=[AC.opq]}),
 (69,{size:=1,bytes:=8,agg:=false,zero:=[AC.opq]}),
 (70,{size:=1,bytes:=8,agg:=false,zero:=[AC.opq]}),
 (71,{size:=1,bytes:=8,agg:=false,zero:=[AC.opq]}),
 (72,{size:=1,bytes:=24,agg:=false,zero:=[AC.nils 0],elem:=some 96}),
 (73,{size:=1,bytes:=24,agg:=false,zero:=[AC.nils 0],elem:=some 174}),
 (74,{size:=1,bytes:=24,agg:=false,zero:=[AC.nils 0],elem:=some 176}),
 (75,{size:=5,bytes:=104,agg:=true,zero:=[AC.t (Tr.int Go.IntKind.i64 (Int.ofNat 0)),AC.nils 0,AC.nils 0,AC.nils 0,AC.nils 0],fields:=[(0,1,3),(1,1,72),(2,1,73),(3,1,74),(4,1,31)]}),
 (76,{size:=5,bytes:=104,agg:=true,zero:=[AC.t (Tr.int Go.IntKind.i64 (Int.ofNat 0)),AC.nils 0,AC.nils 0,AC.nils 0,AC.nils 0],fields:=[(0,1,3),(1,1,72),(2,1,73),(3,1,74),(4,1,31)]}),
 (77,{size:=1,bytes:=8,agg:=false,zero:=[AC.opq]}),
 (78,{size:=1,bytes:=8,agg:=false,zero:=[AC.opq]}),
 (80,{size:=1,bytes:=8,agg:=false,zero:=[AC.opq]}),
 (81,{size:=1,bytes:=8,agg:=false,zero:=[AC.opq]}),
 (82,{size:=2,bytes:=40,agg:=true,zero:=[AC.t (Tr.str []),AC.nils 0],fields:=[(0,1,9),(1,1,72)]}),
 (83,{size:=2,bytes:=40,agg:=true,zero:=[AC.t (Tr.str []),AC.nils 0],fields:=[(0,1,9),(1,1,72)]}),
 (84,{size:=1,bytes:=8,agg:=false,zero:=[AC.opq]}),
 (85,{size:=1,bytes:=8,agg:=false,zero:=[AC.opq]}),
 (86,{size:=1,bytes:=8,agg:=false,zero:=[AC.opq]}),
 (87,{size:=1,bytes:=8,agg:=false,zero:=[AC.opq]}),
 (88,{size:=1,bytes:=8,agg:=false,zero:=[AC.opq]}),
 (89,{size:=1,bytes:=8,agg:=false,zero:=[AC.opq]}),
 (90,{size:=1,bytes:=24,agg:=false,zero:=[AC.nils 0],elem:=some 94}),
 (92,{size:=1,bytes:=8,agg:=false,zero:=[AC.opq]}),
 (93,{size:=2,bytes:=24,agg:=true,zero:=[AC.t (Tr.str []),AC.t (Tr.int Go.IntKind.i64 (Int.ofNat 0))],fields:=[(0,1,9),(1,1,3)]}),
 (94,{size:=2,bytes:=24,agg:=true,zero:=[AC.t (Tr.str []),AC.t (Tr.int Go.IntKind.i64 (Int.ofNat 0))],fields:=[(0,1,9),(1,1,3)]}),
 (95,{size:=3,bytes:=32,agg:=true,zero:=[AC.t (Tr.str []),AC.t (Tr.int Go.IntKind.i64 (Int.ofNat 0)),AC.t (Tr.int Go.IntKind.i64 (Int.ofNat 0))],fields:=[(0,1,9),(1,1,3),(2,1,3)]}),
 (96,{size:=3,bytes:=32,agg:=true,zero:=[AC.t (Tr.str []),AC.t (Tr.int Go.IntKind.i64 (Int.ofNat 0)),AC.t (Tr.int Go.IntKind.i64 (Int.ofNat 0))],fields:=[(0,1,9),(1,1,3),(2,1,3)]}),
 (97,{size:=1,bytes:=8,agg:=false,zero:=[AC.opq]}),
 (98,{size:=1,bytes:=24,agg:=false,zero:=[AC.nils 0],elem:=some 73}),
 (100,{size:=1,bytes:=8,agg:=false,zero:=[AC.opq]}),
 (101,{size:=4,bytes:=48,agg:=true,zero:=[AC.t (Tr.int Go.IntKind.i64 (Int.ofNat 0)),AC.t (Tr.int Go.IntKind.i64 (Int.ofNat 0)),AC.t (Tr.int Go.IntKind.i64 (Int.ofNat 0)),AC.nils 0],fields:=[(0,1,3),(1,1,3),(2,1,3),(3,1,35)]}),
 (102,{size:=4,bytes:=48,agg:=true,zero:=[AC.t (Tr.int Go.IntKind.i64 (Int.ofNat 0)),AC.t (Tr.int Go.IntKind.i64 (Int.ofNat 0)),AC.t (Tr.int Go.IntKind.i64 (Int.ofNat 0)),AC.nils 0],fields:=[(0,1,3),(1,1,3),(2,1,3),(3,1,35)]}),
 (103,{size:=1,bytes:=8,agg:=false,zero:=[AC.opq]}),
 (105,{size:=1,bytes:=8,agg:=false,zero:=[AC.opq]}),
 (106,{size:=1,bytes:=8,agg:=false,zero:=[AC.opq]}),
 (107,{size:=1,bytes:=24,agg:=false,zero:=[AC.nils 0],elem:=some 186}),
 (108,{size:=4,bytes:=24,agg:=true,zero:=[AC.t (Tr.int Go.IntKind.i64 (Int.ofNat 0)),AC.t (Tr.int Go.IntKind.i64 (Int.ofNat 0)),AC.t (Tr.bool false),AC.t (Tr.bool false)],fields:=[(0,1,3),(1,1,3),(2,1,4),(3,1,4)]}),
 (109,{size:=1,bytes:=8,agg:=false,zero:=[AC.opq]}),
 (110,{size:=1,bytes:=8,agg:=false,zero:=[AC.opq]}),
 (111,{size:=1,bytes:=8,agg:=false,zero:=[AC.opq]}),
 (112,{size:=1,bytes:=8,agg:=false,zero:=[AC.opq]}),
 (113,{size:=1,bytes:=8,agg:=false,zero:=[AC.opq]}),
 (114,{size:=1,bytes:=8,agg:=false,zero:=[AC.opq]}),
 (115,{size:=1,bytes:=8,agg:=false,zero:=[AC.opq]}),
 (116,{size:=1,bytes:=8,agg:=false,zero:=[AC.opq]}),
 (117,{size:=1,bytes:=8,agg:=false,zero:=[AC.opq]}),
 (118,{size:=1,bytes:=8,agg:=false,zero:=[AC.opq]}),
 (119,{size:=1,bytes:=8,agg:=false,zero:=[AC.nilp]}),
 (120,{size:=1,bytes:=8,agg:=false,zero:=[AC.opq]}),
 (121,{size:=1,bytes:=8,agg:=false,zero:=[AC.opq]}),
 (122,{size:=1,bytes:=8,agg:=false,zero:=[AC.opq]}),
 (123,{size:=1,bytes:=8,agg:=false,zero:=[AC.opq]}),
 (124,{size:=1,bytes:=8,agg:=false,zero:=[AC.opq]}),
 (125,{size:=1,bytes:=8,agg:=false,zero:=[AC.opq]}),
 (126,{size:=1,bytes:=8,agg:=false,zero:=[AC.opq]}),
 (127,{size:=1,bytes:=24,agg:=false,zero:=[AC.nils 0],elem:=some 37}),
 (128,{size:=1,bytes:=8,agg:=false,zero:=[AC.opq]}),
 (129,{size:=1,bytes:=8,agg:=false,zero:=[AC.opq]}),
 (130,{size:=1,bytes:=8,agg:=false,zero:=[AC.opq]}),
 (131,{size:=1,bytes:=8,agg:=false,zero:=[AC.opq]}),
 (132,{size:=1,bytes:=24,agg:=false,zero:=[AC.nils 0],elem:=some 9}),
 (133,{size:=1,bytes:=24,agg:=false,zero:=[AC.nils 0],elem:=some 201}),
 (134,{size:=4,bytes:=72,agg:=true,zero:=[AC.t (Tr.int Go.IntKind.i64 (Int.ofNat 0)),AC.t (Tr.str []),AC.nils 0,AC.nils 0],fields:=[(0,1,3),(1,1,9),(2,1,132),(3,1,133)]}),
 (135,{size:=4,bytes:=72,agg:=true,zero:=[AC.t (Tr.int Go.IntKind.i64 (Int.ofNat 0)),AC.t (Tr.str []),AC.nils 0,AC.nils 0],fields:=[(0,1,3),(1,1,9),(2,1,132),(3,1,133)]}),
 (137,{size:=1,bytes:=8,agg:=false,zero:=[AC.opq]}),
 (139,{size:=1,bytes:=8,agg:=false,zero:=[AC.opq]}),
 (141,{size:=1,bytes:=8,agg:=false,zero:=[AC.opq]}),
 (142,{size:=1,bytes:=8,agg:=false,zero:=[AC.opq]}),
 (143,{size:=1,bytes:=8,agg:=false,zero:=[AC.opq]}),
 (144,{size:=1,bytes:=8,agg:=false,zero:=[AC.opq]}),
 (145,{size:=1,bytes:=8,agg:=false,zero:=[AC.opq]}),
 (146,{size:=1,bytes:=8,agg:=false,zero:=[AC.opq]}),
 (147,{size:=1,bytes:=8,agg:=false,zero:=[AC.opq]}),
 (148,{size:=1,bytes:=8,agg:=false,zero:=[AC.opq]}),
 (149,{size:=1,bytes:=8,agg:=false,zero:=[AC.opq]}),
 (150,{size:=1,bytes:=8,agg:=false,zero:=[AC.opq]}),
 (151,{size:=1,bytes:=8,agg:=false,zero:=[AC.opq]}),
 (152,{size:=1,bytes:=8,agg:=false,zero:=[AC.opq]}),
 (153,{size:=1,bytes:=8,agg:=false,zero:=[AC.opq]}),
 (154,{size:=1,bytes:=8,agg:=false,zero:=[AC.opq]}),
 (155,{size:=1,bytes:=8,agg:=false,zero:=[AC.opq]}),
 (156,{size:=1,bytes:=8,agg:=false,zero:=[AC.opq]}),
 (157,{size:=1,bytes:=8,agg:=false,zero:=[AC.opq]}),
 (158,{size:=1,bytes:=8,agg:=false,zero:=[AC.opq]}),
 (159,{size:=1,bytes:=8,agg:=false,zero:=[AC.nilp]}),
 (160,{size:=3,bytes:=32,agg:=true,zero:=[AC.t (Tr.str []),AC.t (Tr.int Go.IntKind.i64 (Int.ofNat 0)),AC.t (Tr.bool false)],fields:=[(0,1,9),(1,1,3),(2,1,4)]}),
 (161,{size:=3,bytes:=32,agg:=true,zero:=[AC.t (Tr.str []),AC.t (Tr.int Go.IntKind.i64 (Int.ofNat 0)),AC.t (Tr.bool false)],fields:=[(0,1,9),(1,1,3),(2,1,4)]}),
 (162,{size:=1,bytes:=8,agg:=false,zero:=[AC.opq]}),
 (163,{size:=1,bytes:=8,agg:=false,zero:=[AC.opq]}),
 (164,{size:=1,bytes:=8,agg:=false,zero:=[AC.opq]}),
 (166,{size:=1,bytes:=8,agg:=false,zero:=[AC.opq]}),
 (168,{size:=1,bytes:=8,agg:=false,zero:=[AC.opq]}),
 (169,{size:=1,bytes:=8,agg:=false,zero:=[AC.opq]}),
 (170,{size:=1,bytes:=8,agg:=false,zero:=[AC.opq]}),
 (171,{size:=1,bytes:=8,agg:=false,zero:=[AC.opq]}),
 (172,{size:=1,bytes:=8,agg:=false,zero:=[AC.opq]}),
 (173,{size:=4,bytes:=32,agg:=true,zero:=[AC.t (Tr.int Go.IntKind.i64 (Int.ofNat 0)),AC.t (Tr.int Go.IntKind.i64 (Int.ofNat 0)),AC.t (Tr.bool false),AC.t (Tr.int Go.IntKind.i64 (Int.ofNat 0))],fields:=[(0,1,3),(1,1,3),(2,1,4),(3,1,3)]}),
 (174,{size:=4,bytes:=32,agg:=true,zero:=[AC.t (Tr.int Go.IntKind.i64 (Int.ofNat 0)),AC.t (Tr.int Go.IntKind.i64 (Int.ofNat 0)),AC.t (Tr.bool false),AC.t (Tr.int Go.IntKind.i64 (Int.ofNat 0))],fields:=[(0,1,3),(1,1,3),(2,1,4),(3,1,3)]}),
 (175,{size:=3,bytes:=24,agg:=true,zero:=[AC.t (Tr.int Go.IntKind.i64 (Int.ofNat 0)),AC.t (Tr.int Go.IntKind.i64 (Int.ofNat 0)),AC.t (Tr.bool false)],fields:=[(0,1,3),(1,1,3),(2,1,4)]}),
 (176,{size:=3,bytes:=24,agg:=true,zero:=[AC.t (Tr.int Go.IntKind.i64 (Int.ofNat 0)),AC.t (Tr.int Go.IntKind.i64 (Int.ofNat 0)),AC.t (Tr.bool false)],fields:=[(0,1,3),(1,1,3),(2,1,4)]}),
 (177,{size:=1,bytes:=8,agg:=false,zero:=[AC.opq]}),
 (178,{size:=1,bytes:=8,agg:=false,zero:=[AC.opq]}),
 (179,{size:=1,bytes:=8,agg:=false,zero:=[AC.opq]}),
 (181,{size:=1,bytes:=8,agg:=false,zero:=[AC.opq]}),
 (182,{size:=1,bytes:=8,agg:=false,zero:=[AC.opq]}),
 (183,{size:=1,bytes:=8,agg:=false,zero:=[AC.opq]}),
 (184,{size:=1,bytes:=24,agg:=false,zero:=[AC.nils 0],elem:=some 262}),
 (185,{size:=4,bytes:=72,agg:=true,zero:=[AC.t (Tr.int Go.IntKind.i64 (Int.ofNat 0)),AC.t (Tr.str []),AC.nils 0,AC.nils 0],fields:=[(0,1,3),(1,1,9),(2,1,132),(3,1,184)]}),
 (186,{size:=4,bytes:=72,agg:=true,zero:=[AC.t (Tr.int Go.IntKind.i64 (Int.ofNat 0)),AC.t (Tr.str []),AC.nils 0,AC.nils 0],fields:=[(0,1,3),(1,1,9),(2,1,132),(3,1,184)]}),
 (187,{size:=1,bytes:=8,agg:=false,zero:=[AC.opq]}),
 (188,{size:=1,bytes:=24,agg:=false,zero:=[AC.nils 0],elem:=some 29}),
 (190,{size:=1,bytes:=8,agg:=false,zero:=[AC.opq]}),
 (191,{size:=1,bytes:=8,agg:=false,zero:=[AC.opq]}),
 (192,{size:=1,bytes:=8,agg:=false,zero:=[AC.opq]}),
 (193,{size:=1,bytes:=8,agg:=false,zero:=[AC.opq]}),
 (194,{size:=1,bytes:=8,agg:=false,zero:=[AC.opq]}),
 (195,{size:=1,bytes:=8,agg:=false,zero:=[AC.opq]}),
 (196,{size:=1,bytes:=8,agg:=false,zero:=[AC.opq]}),
 (197,{size:=1,bytes:=8,agg:=false,zero:=[AC.opq]}),
 (198,{size:=3,bytes:=40,agg:=true,zero:=[AC.nils 0,AC.t (Tr.int Go.IntKind.i64 (Int.ofNat 0)),AC.t (Tr.int Go.IntKind.i64 (Int.ofNat 0))],fields:=[(0,1,22),(1,1,3),(2,1,3)]}),
 (199,{size:=3,bytes:=40,agg:=true,zero:=[AC.nils 0,AC.t (Tr.int Go.IntKind.i64 (Int.ofNat 0)),AC.t (Tr.int Go.IntKind.i64 (Int.ofNat 0))],fields:=[(0,1,22),(1,1,3),(2,1,3)]}),
 (200,{size:=3,bytes:=32,agg:=true,zero:=[AC.t (Tr.int Go.IntKind.i64 (Int.ofNat 0)),AC.t (Tr.int Go.IntKind.i64 (Int.ofNat 0)),AC.t (Tr.str [])],fields:=[(0,1,3),(1,1,3),(2,1,9)]}),
 (201,{size:=3,bytes:=32,agg:=true,zero:=[AC.t (Tr.int Go.IntKind.i64 (Int.ofNat 0)),AC.t (Tr.int Go.IntKind.i64 (Int.ofNat 0)),AC.t (Tr.str [])],fields:=[(0,1,3),(1,1,3),(2,1,9)]}),
 (202,{size:=1,bytes:=8,agg:=false,zero:=[AC.opq]}),
 (203,{size:=1,bytes:=8,agg:=false,zero:=[AC.opq]}),
 (204,{size:=1,bytes:=8,agg:=false,zero:=[AC.opq]}),
 (205,{size:=1,bytes:=8,agg:=false,zero:=[AC.opq]}),
 (207,{size:=1,bytes:=8,agg:=false,zero:=[AC.opq]}),
 (208,{size:=1,bytes:=8,agg:=false,zero:=[AC.opq]}),
 (209,{size:=1,bytes:=8,agg:=false,zero:=[AC.opq]}),
 (210,{size:=1,bytes:=8,agg:=false,zero:=[AC.t (Tr.int Go.IntKind.u64 (Int.ofNat 0))],kind:=some Go.IntKind.u64}),
 (211,{size:=1,bytes:=8,agg:=false,zero:=[AC.opq]}),
 (212,{size:=1,bytes:=8,agg:=false,zero:=[AC.nilp]}),
 (213,{size:=1,bytes:=8,agg:=false,zero:=[AC.nilp]}),
 (214,{size:=2,bytes:=16,agg:=true,zero:=[AC.nilp,AC.t (Tr.bool false)],fields:=[(0,1,213),(1,1,4)]}),
 (215,{size:=2,bytes:=16,agg:=true,zero:=[AC.nilp,AC.t (Tr.bool false)],fields:=[(0,1,213),(1,1,4)]}),
 (216,{size:=1,bytes:=8,agg:=false,zero:=[AC.opq]}),
 (217,{size:=1,bytes:=8,agg:=false,zero:=[AC.opq]}),
 (218,{size:=1,bytes:=8,agg:=false,zero:=[AC.nilp]}),
 (219,{size:=8,bytes:=96,agg:=true,zero:=[AC.t (Tr.int Go.IntKind.i64 (Int.ofNat 0)),AC.t (Tr.int Go.IntKind.i64 (Int.ofNat 0)),AC.t (Tr.int Go.IntKind.i64 (Int.ofNat 0)),AC.nils 0,AC.nils 0,AC.t (Tr.int Go.IntKind.i64 (Int.ofNat 0)),AC.t (Tr.int Go.IntKind.i64 (Int.ofNat 0)),AC.t (Tr.bool false)],fields:=[(0,7,55),(7,1,4)]}),
 (220,{size:=8,bytes:=96,agg:=true,zero:=[AC.t (Tr.int Go.IntKind.i64 (Int.ofNat 0)),AC.t (Tr.int Go.IntKind.i64 (Int.ofNat 0)),AC.t (Tr.int Go.IntKind.i64 (Int.ofNat 0)),AC.nils 0,AC.nils 0,AC.t (Tr.int Go.IntKind.i64 (Int.ofNat 0)),AC.t (Tr.int Go.IntKind.i64 (Int.ofNat 0)),AC.t (Tr.bool false)],fields:=[(0,7,55),(7,1,4)]}),
 (221,{size:=1,bytes:=8,agg:=false,zero:=[AC.opq]}),
 (222,{size:=1,bytes:=24,agg:=false,zero:=[AC.nils 0],elem:=some 34}),
 (224,{size:=1,bytes:=8,agg:=false,zero:=[AC.opq]}),
 (225,{size:=1,bytes:=8,agg:=false,zero:=[AC.opq]}),
 (226,{size:=1,bytes:=8,agg:=false,zero:=[AC.opq]}),
 (227,{size:=1,bytes:=8,agg:=false,zero:=[AC.opq]}),
 (228,{size:=1,bytes:=8,agg:=false,zero:=[AC.opq]}),
 (229,{size:=1,bytes:=8,agg:=false,zero:=[AC.opq]}),
 (230,{size:=1,bytes:=8,agg:=false,zero:=[AC.opq]}),
 (231,{size:=1,bytes:=8,agg:=false,zero:=[AC.opq]}),
 (232,{size:=1,bytes:=8,agg:=false,zero:=[AC.opq]}),
 (233,{size:=1,bytes:=8,agg:=false,zero:=[AC.opq]}),
 (234,{size:=1,bytes:=8,agg:=false,zero:=[AC.opq]}),
 (235,{size:=1,bytes:=8,agg:=false,zero:=[AC.opq]}),
 (236,{size:=1,bytes:=8,agg:=false,zero:=[AC.opq]}),
 (237,{size:=1,bytes:=8,agg:=false,zero:=[AC.opq]}),
 (238,{size:=1,bytes:=8,agg:=false,zero:=[AC.opq]}),
 (239,{size:=1,bytes:=8,agg:=false,zero:=[AC.opq]}),
 (240,{size:=1,bytes:=8,agg:=false,zero:=[AC.opq]}),
 (241,{size:=1,bytes:=8,agg:=false,zero:=[AC.opq]}),
 (242,{size:=1,bytes:=8,agg:=false,zero:=[AC.nilp]}),
 (243,{size:=4,bytes:=80,agg:=true,zero:=[AC.nilp,AC.nils 0,AC.nils 0,AC.nils 0],fields:=[(0,1,119),(1,1,132),(2,1,132),(3,1,35)]}),
 (244,{size:=4,bytes:=80,agg:=true,zero:=[AC.nilp,AC.nils 0,AC.nils 0,AC.nils 0],fields:=[(0,1,119),(1,1,132),(2,1,132),(3,1,35)]}),
 (245,{size:=1,bytes:=8,agg:=false,zero:=[AC.opq]}),
 (246,{size:=1,bytes:=8,agg:=false,zero:=[AC.opq]}),
 (247,{size:=1,bytes:=8,agg:=false,zero:=[AC.opq]}),
 (248,{size:=1,bytes:=8,agg:=false,zero:=[AC.nilp]}),
 (249,{size:=1,bytes:=24,agg:=false,zero:=[AC.nils 0],elem:=some 253}),
 (250,{size:=13,bytes:=144,agg:=true,zero:=[AC.nils 0,AC.t (Tr.int Go.IntKind.i64 (Int.ofNat 0)),AC.t (Tr.int Go.IntKind.i64 (Int.ofNat 0)),AC.t (Tr.bool false),AC.t (Tr.bool false),AC.t (Tr.bool false),AC.t (Tr.int Go.IntKind.i64 (Int.ofNat 0)),AC.t (Tr.int Go.IntKind.i64 (Int.ofNat 0)),AC.t (Tr.int Go.IntKind.i64 (Int.ofNat 0)),AC.t (Tr.int Go.IntKind.i64 (Int.ofNat 0)),AC.nils 0,AC.nils 0,AC.t (Tr.bool false)],fields:=[(0,1,24),(1,4,26),(5,1,4),(6,1,3),(7,1,3),(8,1,3),(9,1,3),(10,1,127),(11,1,249),(12,1,4)]}),
 (251,{size:=13,bytes:=144,agg:=true,zero:=[AC.nils 0,AC.t (Tr.int Go.IntKind.i64 (Int.ofNat 0)),AC.t (Tr.int Go.IntKind.i64 (Int.ofNat 0)),AC.t (Tr.bool false),AC.t (Tr.bool false),AC.t (Tr.bool false),AC.t (Tr.int Go.IntKind.i64 (Int.ofNat 0)),AC.t (Tr.int Go.IntKind.i64 (Int.ofNat 0)),AC.t (Tr.int Go.IntKind.i64 (Int.ofNat 0)),AC.t (Tr.int Go.IntKind.i64 (Int.ofNat 0)),AC.nils 0,AC.nils 0,AC.t (Tr.bool false)],fields:=[(0,1,24),(1,4,26),(5,1,4),(6,1,3),(7,1,3),(8,1,3),(9,1,3),(10,1,127),(11,1,249),(12,1,4)]}),
 (252,{size:=6,bytes:=96,agg:=true,zero:=[AC.t (Tr.int Go.IntKind.i64 (Int.ofNat 0)),AC.nils 0,AC.nils 0,AC.t (Tr.int Go.IntKind.i64 (Int.ofNat 0)),AC.t (Tr.bool false),AC.nils 0],fields:=[(0,1,3),(1,1,35),(2,1,132),(3,1,3),(4,1,4),(5,1,35)]}),
 (253,{size:=6,bytes:=96,agg:=true,zero:=[AC.t (Tr.int Go.IntKind.i64 (Int.ofNat 0)),AC.nils 0,AC.nils 0,AC.t (Tr.int Go.IntKind.i64 (Int.ofNat 0)),AC.t (Tr.bool false),AC.nils 0],fields:=[(0,1,3),(1,1,35),(2,1,132),(3,1,3),(4,1,4),(5,1,35)]}),
 (254,{size:=1,bytes:=8,agg:=false,zero:=[AC.opq]}),
 (255,{size:=1,bytes:=8,agg:=false,zero:=[AC.opq]}),
 (256,{size:=1,bytes:=8,agg:=false,zero:=[AC.opq]}),
 (257,{size:=1,bytes:=8,agg:=false,zero:=[AC.opq]}),
 (258,{size:=1,bytes:=8,agg:=false,zero:=[AC.opq]}),
 (259,{size:=1,bytes:=8,agg:=false,zero:=[AC.opq]}),
 (260,{size:=1,bytes:=8,agg:=false,zero:=[AC.opq]}),
 (261,{size:=1,bytes:=8,agg:=false,zero:=[AC.opq]}),
 (262,{size:=3,bytes:=32,agg:=true,zero:=[AC.t (Tr.int Go.IntKind.i64 (Int.ofNat 0)),AC.t (Tr.int Go.IntKind.i64 (Int.ofNat 0)),AC.t (Tr.str [])],fields:=[(0,1,3),(1,1,3),(2,1,9)]}),
 (263,{size:=1,bytes:=8,agg:=false,zero:=[AC.opq]}),
 (264,{size:=1,bytes:=8,agg:=false,zero:=[AC.opq]}),
 (265,{size:=1,bytes:=8,agg:=false,zero:=[AC.opq]}),
 (266,{size:=1,bytes:=8,agg:=false,zero:=[AC.opq]}),
 (267,{size:=1,bytes:=8,agg:=false,zero:=[AC.opq]}),
 (268,{size:=1,bytes:=8,agg:=false,zero:=[AC.opq]}),
 (269,{size:=1,bytes:=8,agg:=false,zero:=[AC.opq]}),
 (270,{size:=1,bytes:=24,agg:=false,zero:=[AC.nils 0],elem:=some 273}),
 (271,{size:=1,bytes:=8,agg:=false,zero:=[AC.opq]}),
 (272,{size:=2,bytes:=16,agg:=true,zero:=[AC.t (Tr.int Go.IntKind.i64 (Int.ofNat 0)),AC.t (Tr.int Go.IntKind.i64 (Int.ofNat 0))],fields:=[(0,1,3),(1,1,3)]}),
 (273,{size:=2,bytes:=16,agg:=true,zero:=[AC.t (Tr.int Go.IntKind.i64 (Int.ofNat 0)),AC.t (Tr.int Go.IntKind.i64 (Int.ofNat 0))],fields:=[(0,1,3),(1,1,3)]}),
 (274,{size:=1,bytes:=8,agg:=false,zero:=[AC.opq]}),
 (275,{size:=1,bytes:=8,agg:=false,zero:=[AC.opq]}),
 (276,{size:=1,bytes:=8,agg:=false,zero:=[AC.opq]}),
 (277,{size:=1,bytes:=8,agg:=false,zero:=[AC.opq]}),
 (278,{size:=1,bytes:=8,agg:=false,zero:=[AC.opq]}),
 (279,{size:=1,bytes:=8,agg:=false,zero:=[AC.nilp]}),
 (280,{size:=11,bytes:=128,agg:=true,zero:=[AC.nils 0,AC.t (Tr.int Go.IntKind.i64 (Int.ofNat 0)),AC.t (Tr.int Go.IntKind.i64 (Int.ofNat 0)),AC.t (Tr.bool false),AC.t (Tr.bool false),AC.t (Tr.bool false),AC.t (Tr.int Go.IntKind.i64 (Int.ofNat 0)),AC.t (Tr.int Go.IntKind.i64 (Int.ofNat 0)),AC.nils 0,AC.t (Tr.int Go.IntKind.i64 (Int.ofNat 0)),AC.nils 0],fields:=[(0,1,24),(1,4,26),(5,1,4),(6,1,3),(7,1,3),(8,1,127),(9,1,3),(10,1,35)]}),
 (281,{size:=11,bytes:=128,agg:=true,zero:=[AC.nils 0,AC.t (Tr.int Go.IntKind.i64 (Int.ofNat 0)),AC.t (Tr.int Go.IntKind.i64 (Int.ofNat 0)),AC.t (Tr.bool false),AC.t (Tr.bool false),AC.t (Tr.bool false),AC.t (Tr.int Go.IntKind.i64 (Int.ofNat 0)),AC.t (Tr.int Go.IntKind.i64 (Int.ofNat 0)),AC.nils 0,AC.t (Tr.int Go.IntKind.i64 (Int.ofNat 0)),AC.nils 0],fields:=[(0,1,24),(1,4,26),(5,1,4),(6,1,3),(7,1,3),(8,1,127),(9,1,3),(10,1,35)]}),
 (282,{size:=1,bytes:=8,agg:=false,zero:=[AC.nilp]}),
 (283,{size:=8,bytes:=112,agg:=true,zero:=[AC.t (Tr.int Go.IntKind.i64 (Int.ofNat 0)),AC.t (Tr.int Go.IntKind.i64 (Int.ofNat 0)),AC.nils 0,AC.t (Tr.int Go.IntKind.i64 (Int.ofNat 0)),AC.t (Tr.int Go.IntKind.i64 (Int.ofNat 0)),AC.nils 0,AC.t (Tr.int Go.IntKind.i64 (Int.ofNat 0)),AC.nils 0],fields:=[(0,1,3),(1,1,3),(2,1,132),(3,1,3),(4,1,3),(5,1,35),(6,1,3),(7,1,35)]}),
 (284,{size:=8,bytes:=112,agg:=true,zero:=[AC.t (Tr.int Go.IntKind.i64 (Int.ofNat 0)),AC.t (Tr.int Go.IntKind.i64 (Int.ofNat 0)),AC.nils 0,AC.t (Tr.int Go.IntKind.i64 (Int.ofNat 0)),AC.t (Tr.int Go.IntKind.i64 (Int.ofNat 0)),AC.nils 0,AC.t (Tr.int Go.IntKind.i64 (Int.ofNat 0)),AC.nils 0],fields:=[(0,1,3),(1,1,3),(2,1,132),(3,1,3),(4,1,3),(5,1,35),(6,1,3),(7,1,35)]}),
 (285,{size:=1,bytes:=8,agg:=false,zero:=[AC.opq]}),
 (286,{size:=1,bytes:=8,agg:=false,zero:=[AC.opq]}),
 (287,{size:=1,bytes:=8,agg:=false,zero:=[AC.opq]}),
 (288,{size:=1,bytes:=8,agg:=false,zero:=[AC.opq]}),
 (289,{size:=1,bytes:=8,agg:=false,zero:=[AC.nilp]}),
 (290,{size:=1,bytes:=8,agg:=false,zero:=[AC.opq]}),
 (291,{size:=1,bytes:=8,agg:=false,zero:=[AC.opq]}),
 (292,{size:=1,bytes:=8,agg:=false,zero:=[AC.opq]}),
 (293,{size:=1,bytes:=4,agg:=false,zero:=[AC.t (Tr.int Go.IntKind.u32 (Int.ofNat 0))],kind:=some Go.IntKind.u32}),
 (294,{size:=1,bytes:=8,agg:=false,zero:=[AC.opq],map:=some (some Go.IntKind.i64)}),
 (295,{size:=1,bytes:=8,agg:=false,zero:=[AC.opq]}),
 (296,{size:=1,bytes:=8,agg:=false,zero:=[AC.opq]}),
 (297,{size:=1,bytes:=8,agg:=false,zero:=[AC.opq]}),
 (298,{size:=1,bytes:=8,agg:=false,zero:=[AC.opq]}),
 (299,{size:=1,bytes:=24,agg:=false,zero:=[AC.nils 0],elem:=some 133}),
 (300,{size:=1,bytes:=8,agg:=false,zero:=[AC.opq]}),
 (301,{size:=1,bytes:=8,agg:=false,zero:=[AC.opq]}),
 (302,{size:=1,bytes:=8,agg:=false,zero:=[AC.opq]}),
 (303,{size:=4,bytes:=40,agg:=true,zero:=[AC.nilp,AC.nilp,AC.nilp,AC.t (Tr.str [])],fields:=[(0,1,17),(1,1,17),(2,1,17),(3,1,9)]}),
 (304,{size:=4,bytes:=40,agg:=true,zero:=[AC.nilp,AC.nilp,AC.nilp,AC.t (Tr.str [])],fields:=[(0,1,17),(1,1,17),(2,1,17),(3,1,9)]}),
 (308,{size:=1,bytes:=1,agg:=false,zero:=[AC.t (Tr.int Go.IntKind.u8 (Int.ofNat 0))],kind:=some Go.IntKind.u8}),
 (309,{size:=1,bytes:=1,agg:=false,zero:=[AC.t (Tr.int Go.IntKind.u8 (Int.ofNat 0))],kind:=some Go.IntKind.u8}),
 (310,{size:=1,bytes:=8,agg:=false,zero:=[AC.opq]}),
 (311,{size:=1,bytes:=8,agg:=false,zero:=[AC.nilp]}),
 (312,{size:=1,bytes:=4,agg:=false,zero:=[AC.t (Tr.int Go.IntKind.i32 (Int.ofNat 0))],kind:=some Go.IntKind.i32}),
 (313,{size:=1,bytes:=4,agg:=false,zero:=[AC.t (Tr.int Go.IntKind.i32 (Int.ofNat 0))],kind:=some Go.IntKind.i32}),
 (314,{size:=11,bytes:=48,agg:=true,zero:=[AC.t (Tr.int Go.IntKind.u64 (Int.ofNat 0)),AC.t (Tr.int Go.IntKind.u64 (Int.ofNat 0)),AC.t (Tr.int Go.IntKind.u32 (Int.ofNat 0)),AC.t (Tr.int Go.IntKind.u8 (Int.ofNat 0)),AC.t (Tr.int Go.IntKind.u8 (Int.ofNat 0)),AC.t (Tr.int Go.IntKind.u8 (Int.ofNat 0)),AC.t (Tr.int Go.IntKind.u8 (Int.ofNat 0)),AC.opq,AC.nilp,AC.t (Tr.int Go.IntKind.i32 (Int.ofNat 0)),AC.t (Tr.int Go.IntKind.i32 (Int.ofNat 0))],fields:=[(0,1,12),(1,1,12),(2,1,293),(3,1,308),(4,1,5),(5,1,5),(6,1,309),(7,1,310),(8,1,311),(9,1,312),(10,1,313)]}),
 (315,{size:=11,bytes:=48,agg:=true,zero:=[AC.t (Tr.int Go.IntKind.u64 (Int.ofNat 0)),AC.t (Tr.int Go.IntKind.u64 (Int.ofNat 0)),AC.t (Tr.int Go.IntKind.u32 (Int.ofNat 0)),AC.t (Tr.int Go.IntKind.u8 (Int.ofNat 0)),AC.t (Tr.int Go.IntKind.u8 (Int.ofNat 0)),AC.t (Tr.int Go.IntKind.u8 (Int.ofNat 0)),AC.t (Tr.int Go.IntKind.u8 (Int.ofNat 0)),AC.opq,AC.nilp,AC.t (Tr.int Go.IntKind.i32 (Int.ofNat 0)),AC.t (Tr.int Go.IntKind.i32 (Int.ofNat 0))],fields:=[(0,1,12),(1,1,12),(2,1,293),(3,1,308),(4,1,5),(5,1,5),(6,1,309),(7,1,310),(8,1,311),(9,1,312),(10,1,313)]}),
 (316,{size:=1,bytes:=8,agg:=false,zero:=[AC.nilp]})]
theorem hΓ:Γ.chk Tryz.prog=true:=by kernel_rfl
theorem hmix:Tryz.prog.follows .mixedOrders=true:=by kernel_rfl
end Go.Proofs.YtjmplnfiabmalaaGreat
namespace Go.Proofs.YtjmplnfiabmalaaGreat
open Go.Sim Go.ChangeShapes Go.WideShapes Go.ChangeAt Go.RowKit
theorem own:ownKnob Tryz.prog.godebug=none:=by kernel_rfl
theorem laidOut:laidOutB Tryz.prog=true:=by kernel_rfl
theorem rows_map {α:Type}{g:α→List Tr}{Q:α→Prop}:∀{rows:List (List Tr)},(∀r∈rows,∃m,r=g m∧Q m)→∃ns:List α,rows=ns.map g∧∀m∈ns,Q m
 | [],_=>⟨[],rfl,fun _ h=>by cases h⟩
 | r::rows,h=>by
  obtain⟨m,rfl,hm⟩:=h r (by simp)
  obtain⟨ns,rfl,hns⟩:=rows_map (rows:=rows) fun r hr=>h r (by simp[hr])
  exact⟨m::ns,rfl,fun x hx=>by
   rcases List.mem_cons.1 hx with rfl|hx
   ·exact hm
   ·exact hns x hx⟩
end Go.Proofs.YtjmplnfiabmalaaGreat
namespace Go.Proofs.YtjmplnfiabmalaaGreat
open Go.Sim
abbrev tvI (n:Int):TV:= .c (.int .i64 n)
abbrev tvS (n:List UInt8):TV:= .c (.str n)
abbrev rI (n:Int):Res:= .r (.c (.t (.int .i64 n)))
abbrev rB (b:Bool):Res:= .r (.c (.t (.bool b)))
abbrev rS (b:List UInt8):Res:= .r (.c (.t (.str b)))
def within (n lo hi:Int):Bool:=decide (lo≤n) && decide (n≤hi)
theorem within_iff {n lo hi:Int}:within n lo hi=true↔lo≤n∧n≤hi:=by simp[within]
set_option maxRecDepth 100000
theorem s_impl_between (n lo hi:Int):Sim.Spec Tryz.prog 79 [tvI n,tvI lo,tvI hi] (rB (within n lo hi)):=by
 refine spec_of_W hΓ hmix Tryz.func79 rfl (by decide) rfl ?_
 repeat' ((conv=>whnf);first|refine Or.inl ?_|apply oi|(apply fi<;>intro h)|refine⟨_,rfl,?_⟩|((with_reducible show _=_);rfl))
 all_goals try((with_reducible refine Obl.mk ?_);exact KO)
 all_goals refine⟨?_⟩
 all_goals simp_all[within]
 all_goals omega
theorem s_spec_l01In (n lo hi:Int):Sim.Spec Tryz.prog 74 [tvI n,tvI lo,tvI hi] (rB (within n lo hi)):=by
 refine spec_of_W hΓ hmix Tryz.func74 rfl (by decide) rfl ?_
 repeat' ((conv=>whnf);first|refine Or.inl ?_|apply oi|(apply fi<;>intro h)|refine⟨_,rfl,?_⟩|((with_reducible show _=_);rfl))
 all_goals try((with_reducible refine Obl.mk ?_);exact KO)
 all_goals refine⟨?_⟩
 all_goals simp_all[within]
 all_goals omega
def signless (n:Int):Int:=if within n (-549755813888) 549755813887 then(if n < 0 then -2 * n - 1 else 2 * n)else -1
def signed (n:Int):Int:=if within n 0 1099511627775 then(if n % 2=1 then -((n+1) / 2)else n / 2)else 0
theorem and_low (n:Int)(k:Nat)(h0:0≤n)(h1:n≤9223372036854775807)(hk:k≤62):((BitVec.ofInt 64 n &&& BitVec.ofInt 64 (2 ^ k - 1:Int)).toNat:Int)=n % (2 ^ k:Int):=by
 obtain⟨m,rfl⟩:=Int.eq_ofNat_of_zero_le h0
 have hp:(2 ^ k:Nat)≤2 ^ 62:=Nat.pow_le_pow_right (by omega) hk
 have hp1:1≤(2 ^ k:Nat):=Nat.one_le_two_pow
 have e:(2 ^ k - 1:Int)=((2 ^ k - 1:Nat):Int):=by
  rw[Int.natCast_sub hp1];simp
 rw[e,BitVec.toNat_and,BitVec.toNat_ofInt,BitVec.toNat_ofInt]
 have e1:((m:Int) % ((2 ^ 64:Nat):Int)).toNat=m:=by omega
 have e2:(((2 ^ k - 1:Nat):Int) % ((2 ^ 64:Nat):Int)).toNat=2 ^ k - 1:=by
  have:2 ^ k - 1 < 2 ^ 64:=by omega
  omega
 rw[e1,e2,Nat.and_two_pow_sub_one_eq_mod]
 simp
theorem signed_odd {n:Int}(h0:0≤n)(h1:n≤1099511627775):IntKind.i64.wrap ((IntKind.i64.wrap (0 - IntKind.i64.wrap (n+1))).tdiv 2)= -((n+1) / 2):=by
 rw[IntWalk.i64_in (n+1) (by omega),IntWalk.i64_in (0 - (n+1)) (by omega),show 0 - (n+1)= -(n+1) by omega,Int.neg_tdiv,Int.tdiv_eq_ediv_of_nonneg (by omega),IntWalk.i64_in _ (by omega)]
theorem signed_even {n:Int}(h0:0≤n)(h1:n≤1099511627775):IntKind.i64.wrap (n.tdiv 2)=n / 2:=by
 rw[Int.tdiv_eq_ediv_of_nonneg (by omega),IntWalk.i64_in _ (by omega)]
theorem s_impl_Signless (n:Int):Sim.Spec Tryz.prog 160 [tvI n] (rI (signless n)):=by
 refine spec_of_W hΓ hmix Tryz.func160 rfl (by decide) rfl ?_
 repeat' ((conv=>whnf);first|refine Or.inl ?_|apply oi|(apply fi<;>intro h)|refine ci (s_impl_between _ _ _) (ai rfl (ai rfl (ai rfl trivial))) ?_|refine⟨_,rfl,?_⟩|((with_reducible show _=_);rfl))
 all_goals try((with_reducible refine Obl.mk ?_);exact KO)
 all_goals refine⟨congrArg (Tr.int _) ?_⟩
 all_goals simp_all[signless,IntKind.wrap_i64,within]
 all_goals omega
theorem s_impl_Signed (n:Int):Sim.Spec Tryz.prog 159 [tvI n] (rI (signed n)):=by
 refine spec_of_W hΓ hmix Tryz.func159 rfl (by decide) rfl ?_
 repeat' ((conv=>whnf);first|refine Or.inl ?_|apply oi|(apply fi<;>intro h)|refine ci (s_impl_between _ _ _) (ai rfl (ai rfl (ai rfl trivial))) ?_|refine⟨_,rfl,?_⟩|((with_reducible show _=_);rfl))
 all_goals try((with_reducible refine Obl.mk ?_);exact KO)
 ·refine⟨congrArg (Tr.int _) ?_⟩
  have h':within n 0 1099511627775=false:=by simpa using h
  rw[signed,h'];rfl
 ·rename_i h0
  refine⟨congrArg (Tr.int _) ?_⟩
  have h':within n 0 1099511627775=true:=by simpa using h0
  have hb:=within_iff.1 h'
  rw[Int.tmod_eq_emod_of_nonneg hb.1]at h
  rw[signed_odd hb.1 hb.2,signed,if_pos h',if_pos (by simpa using h)]
 ·rename_i h0
  refine⟨congrArg (Tr.int _) ?_⟩
  have h':within n 0 1099511627775=true:=by simpa using h0
  have hb:=within_iff.1 h'
  rw[Int.tmod_eq_emod_of_nonneg hb.1]at h
  rw[signed_even hb.1 hb.2,signed,if_pos h',if_neg (by simpa using h)]
end Go.Proofs.YtjmplnfiabmalaaGreat
namespace Go.Proofs.YtjmplnfiabmalaaGreat
open Go.Sim
set_option maxRecDepth 100000
def encN (n:Nat):List UInt8:=if n≤127 then [UInt8.ofNat n]else UInt8.ofNat (n % 128+128)::encN (n / 128)
 termination_by n
 decreasing_by omega
def enc (n:Int):List UInt8:=if within n 0 1099511627775 then encN n.toNat else []
theorem encN_len:∀(k n:Nat),n < 128 ^ (k+1)→(encN n).length≤k+1
 | 0,n,h=>by rw[encN,if_pos (by omega)];simp
 | k+1,n,h=>by
  rw[encN]
  split
  ·simp
  ·have:=encN_len k (n / 128) (by rw[Nat.pow_succ]at h;omega)
   simp only[List.length_cons];omega
theorem enc_len (n:Int):(enc n).length≤6:=by
 unfold enc
 split
 ·rename_i h
  have:=within_iff.1 h
  exact encN_len 5 _ (by omega)
 ·simp
theorem encN_pos (n:Nat):0 < (encN n).length:=by
 rw[encN];split <;> simp
theorem or_128 (x:Nat)(h:x < 128):x ||| 128=x+128:=by
 have:=Nat.two_pow_add_eq_or_of_lt (i:=7) (b:=x) (by omega) 1
 rw[show(2:Nat) ^ 7 * 1=128 from rfl]at this
 rw[Nat.or_comm];omega
theorem byte_hi {n:Nat}(h:n≤1099511627775):IntKind.u8.wrap (IntKind.i64.wrap ((BitVec.ofInt IntKind.i64.bits (IntKind.i64.wrap ((BitVec.ofInt IntKind.i64.bits (n:Int) &&& BitVec.ofInt IntKind.i64.bits 127).toNat:Int)) ||| BitVec.ofInt IntKind.i64.bits 128).toNat:Int))=((UInt8.ofNat (n % 128+128)).toNat:Int):=by
 rw[show((BitVec.ofInt IntKind.i64.bits (n:Int) &&& BitVec.ofInt IntKind.i64.bits 127).toNat:Int)=(n:Int) % 128 from and_low n 7 (by omega) (by omega) (by omega),IntWalk.i64_in ((n:Int) % 128) (by omega)]
 have e:(BitVec.ofInt IntKind.i64.bits ((n:Int) % 128) ||| BitVec.ofInt IntKind.i64.bits 128).toNat=n % 128+128:=by
  show(BitVec.ofInt 64 ((n:Int) % 128) ||| BitVec.ofInt 64 128).toNat=_
  rw[BitVec.toNat_or,BitVec.toNat_ofInt,BitVec.toNat_ofInt]
  have e1:((n:Int) % 128 % ((2 ^ 64:Nat):Int)).toNat=n % 128:=by omega
  have e2:((128:Int) % ((2 ^ 64:Nat):Int)).toNat=128:=by decide
  rw[e1,e2,or_128 _ (by omega)]
 rw[e,IntWalk.i64_in _ (by omega),IntWalk.u8_in _ (by omega)]
 simp
 omega
theorem byte_lo {n:Nat}(h:n≤127):IntKind.u8.wrap (n:Int)=((UInt8.ofNat n).toNat:Int):=by
 rw[IntWalk.u8_in _ (by omega)]
 simp
 omega
theorem shr7 {n:Nat}(h:n≤1099511627775):(n:Int).fdiv (2 ^ (min (Int.toNat 7) IntKind.i64.bits))=((n / 128:Nat):Int):=by
 show(n:Int).fdiv 128=_
 rw[Int.fdiv_eq_ediv_of_nonneg _ (by omega)]
 omega
abbrev EncIx (n:Nat):={p:Nat×List UInt8 // p.2++encN p.1=encN n∧p.1≤1099511627775∧(encN n).length≤6}
def encSt {n:Nat}(i:EncIx n):St:=⟨[(0,tI .i64 (i.1.1:Int)),(3,.r (.c (.own (3,0,0))))],[((3,0,0),some (.arr true 1 (i.1.2.map byteRow)))],[3]⟩
theorem s_impl_EncodeVarint (n:Int):Sim.Spec Tryz.prog 86 [tvI n] (rS (enc n)):=by
 refine spec_of_W hΓ hmix Tryz.func86 rfl (by decide) rfl ?_
 repeat' ((conv=>whnf);first|refine Or.inl ?_|apply oi|(apply fi<;>intro h)|refine ci (s_impl_between _ _ _) (ai rfl (ai rfl (ai rfl trivial))) ?_|refine⟨_,rfl,?_⟩|((with_reducible show _=_);rfl))
 all_goals try((with_reducible refine Obl.mk ?_);exact KO)
 ·refine⟨congrArg Tr.str ?_⟩
  have h':within n 0 1099511627775=false:=by simpa using h
  rw[enc,h'];rfl
 have h':within n 0 1099511627775=true:=by simpa using h
 have hb:=within_iff.1 h'
 obtain⟨k,rfl⟩:=Int.eq_ofNat_of_zero_le hb.1
 have hlen:=enc_len (k:Int)
 simp only[enc,h',if_true,Int.toNat_natCast]at hlen ⊢
 conv=>whnf
 refine⟨EncIx k,encSt,fun i=>i.1.1,⟨(k,[]),by simp,by omega,hlen⟩,?_,?_⟩
 ·skip
  repeat' ((conv=>whnf);first|refine Or.inl ?_|apply oi|(apply fi<;>intro h)|refine⟨_,rfl,?_⟩|((with_reducible show _=_);rfl))
  all_goals try((with_reducible refine Obl.mk ?_);exact KO)
 intro⟨⟨m,bs⟩,hinv,hm,hl⟩
 dsimp only[encSt]at hinv hm ⊢
 have hbl:bs.length+1≤6:=by
  have:=congrArg List.length hinv
  have h2:=encN_pos m
  simp only[List.length_append]at this
  omega
 repeat' ((conv=>whnf);first|refine Or.inl ?_|apply oi|(apply fi<;>intro h)|refine⟨_,rfl,?_⟩|((with_reducible show _=_);rfl))
 all_goals try((with_reducible refine Obl.mk ?_);exact KO)
 all_goals try exact⟨fun r hr=>by simp at hr;subst hr;rfl⟩
 all_goals try exact⟨⟨by simp;omega,by simp;omega⟩⟩
 ·have hlt:127 < m:=by have:=of_decide_eq_true h;omega
  conv=>whnf
  refine⟨⟨(m / 128,bs++[UInt8.ofNat (m % 128+128)]),?_,?_,hl⟩,?_,?_⟩
  ·dsimp only
   rw[←hinv,encN.eq_def m,if_neg (by omega)]
   simp
  ·dsimp only;omega
  ·skip
   repeat' ((conv=>whnf);first|refine Or.inl ?_|apply oi|(apply fi<;>intro h)|refine⟨_,rfl,?_⟩|((with_reducible show _=_);rfl))
   all_goals try((with_reducible refine Obl.mk ?_);exact KO)
   ·refine⟨?_⟩
    dsimp only
    rw[shr7 hm]
   ·refine⟨?_⟩
    dsimp only
    rw[byte_hi hm]
    simp[byteRow]
  ·dsimp only;omega
 ·have hle:m≤127:=by have:=of_decide_eq_false h;omega
  conv=>whnf
  refine⟨bs++[UInt8.ofNat m],?_,?_⟩
  ·rw[byte_lo hle]
   simp[byteRow]
  ·skip
   repeat' ((conv=>whnf);first|refine Or.inl ?_|apply oi|(apply fi<;>intro h)|refine⟨_,rfl,?_⟩|((with_reducible show _=_);rfl))
   all_goals try((with_reducible refine Obl.mk ?_);exact KO)
   refine⟨congrArg Tr.str ?_⟩
   rw[←hinv,encN.eq_def m,if_pos hle]
theorem s_impl_PackText (s:List UInt8)(hs:s.length≤1048576):Sim.Spec Tryz.prog 88 [tvS s] (rS (enc s.length++s)):=by
 refine spec_of_W hΓ hmix Tryz.func88 rfl (by decide) rfl ?_
 repeat' ((conv=>whnf);first|refine Or.inl ?_|apply oi|(apply fi<;>intro h)|refine ci (s_impl_EncodeVarint _) (ai rfl trivial) ?_|refine⟨_,rfl,?_⟩|((with_reducible show _=_);rfl))
 all_goals try((with_reducible refine Obl.mk ?_);exact KO)
 ·exact⟨by have:=enc_len s.length;omega⟩
end Go.Proofs.YtjmplnfiabmalaaGreat
namespace Go.Proofs.YtjmplnfiabmalaaGreat
open Go.Sim
set_option maxRecDepth 100000
def decL (s:List UInt8)(p:Nat):Nat→Nat→Nat→Option (Nat×Nat)
 | 0,_,_=>none
 | f+1,k,n=>match s[p+k]? with
  | none=>none
  | some b=>let n':=n+b.toNat % 128 * 128 ^ k
   if 127 < b.toNat then decL s p f (k+1) n' else if enc n'=(s.drop p).take (k+1)then some (n',k+1)else none
def dec (s:List UInt8)(p:Int):Option (Nat×Nat):=if p < 0 then none else decL s p.toNat 6 0 0
def decN (o:Option (Nat×Nat)):Int:=match o with|some x=>x.1|none=>0
def decK (o:Option (Nat×Nat)):Int:=match o with|some x=>x.2|none=>0
abbrev rDec (o:Option (Nat×Nat)):Res:= .tup [.c (.t (.int .i64 (decN o))),.c (.t (.int .i64 (decK o))),.c (.t (.bool o.isSome))]
theorem low_or (n x k:Nat)(hk:k < 6)(hn:n < 128 ^ k)(hx:x < 128):n ||| x * 128 ^ k=n+x * 128 ^ k:=by
 have e:(128:Nat) ^ k=2 ^ (7 * k):=by rw[show(128:Nat)=2 ^ 7 from rfl,←Nat.pow_mul]
 rw[e]at hn ⊢
 have:=Nat.two_pow_add_eq_or_of_lt hn x
 rw[Nat.mul_comm]at this
 rw[Nat.or_comm,←this,Nat.add_comm]
theorem pow_le6 {k:Nat}(hk:k < 6):128 ^ k≤34359738368:=by
 have:(128:Nat) ^ k≤128 ^ 5:=Nat.pow_le_pow_right (by omega) (by omega)
 omega
theorem step_lt {n x k:Nat}(hn:n < 128 ^ k)(hx:x < 128):n+x * 128 ^ k < 128 ^ (k+1):=by
 have:(x+1) * 128 ^ k≤128 * 128 ^ k:=Nat.mul_le_mul_right _ (by omega)
 rw[Nat.pow_succ,Nat.mul_comm _ 128]
 rw[Nat.add_mul]at this
 omega
theorem gather0 {n x k:Nat}(hk:k < 6)(hn:n < 128 ^ k)(hx:x < 128):IntKind.i64.wrap ((BitVec.ofInt IntKind.i64.bits (n:Int) ||| BitVec.ofInt IntKind.i64.bits (IntKind.i64.wrap ((x:Int) * 2 ^ min (IntKind.i64.wrap (7 * (k:Int))).toNat IntKind.i64.bits))).toNat:Int)=((n+x * 128 ^ k:Nat):Int):=by
 have hp:=pow_le6 hk
 have hlt:=step_lt hn hx
 have hp1:128 ^ (k+1)≤4398046511104:=by rw[Nat.pow_succ];omega
 have e0:IntKind.i64.wrap (7 * (k:Int))=((7 * k:Nat):Int):=by rw[IntWalk.i64_in _ (by omega)];omega
 have e1:min (IntKind.i64.wrap (7 * (k:Int))).toNat IntKind.i64.bits=7 * k:=by
  rw[e0]
  show min (7 * k) 64=7 * k
  omega
 have e2:(2:Int) ^ (7 * k)=((128 ^ k:Nat):Int):=by rw[show(128:Nat)=2 ^ 7 from rfl,←Nat.pow_mul];simp
 have e3:(x:Int) * ((128 ^ k:Nat):Int)=((x * 128 ^ k:Nat):Int):=by simp
 rw[e1,e2,e3,IntWalk.i64_in ((x * 128 ^ k:Nat):Int) (by omega)]
 have e4:(BitVec.ofInt IntKind.i64.bits (n:Int) ||| BitVec.ofInt IntKind.i64.bits ((x * 128 ^ k:Nat):Int)).toNat=n+x * 128 ^ k:=by
  show(BitVec.ofInt 64 (n:Int) ||| BitVec.ofInt 64 ((x * 128 ^ k:Nat):Int)).toNat=_
  rw[BitVec.toNat_or,BitVec.toNat_ofInt,BitVec.toNat_ofInt]
  have e5:((n:Int) % ((2 ^ 64:Nat):Int)).toNat=n:=by omega
  have e6:(((x * 128 ^ k:Nat):Int) % ((2 ^ 64:Nat):Int)).toNat=x * 128 ^ k:=by omega
  rw[e5,e6,low_or n x k hk hn hx]
 rw[e4,IntWalk.i64_in _ (by omega)]
theorem byte_and (b:UInt8):IntKind.i64.wrap ((BitVec.ofInt IntKind.i64.bits (IntKind.i64.wrap (b.toNat:Int)) &&& BitVec.ofInt IntKind.i64.bits 127).toNat:Int)=((b.toNat % 128:Nat):Int):=by
 have hb:=b.toNat_lt
 rw[IntWalk.i64_in (b.toNat:Int) (by omega),show((BitVec.ofInt IntKind.i64.bits (b.toNat:Int) &&& BitVec.ofInt IntKind.i64.bits 127).toNat:Int)=(b.toNat:Int) % 128 from and_low b.toNat 7 (by omega) (by omega) (by omega),IntWalk.i64_in _ (by omega)]
 omega
theorem decL_step {s:List UInt8}{p k n:Nat}{b:UInt8}(hk:k < 6)(hb:s[p+k]?=some b):decL s p (6 - k) k n=
  if 127 < b.toNat then decL s p (6 - (k+1)) (k+1) (n+b.toNat % 128 * 128 ^ k)else if enc ((n+b.toNat % 128 * 128 ^ k:Nat):Int)=(s.drop p).take (k+1)then some (n+b.toNat % 128 * 128 ^ k,k+1)else none:=by
 rw[show 6 - k=(6 - (k+1))+1 by omega,decL,hb]
theorem decL_none {s:List UInt8}{p k n:Nat}(h:k=6∨s.length≤p+k):decL s p (6 - k) k n=none:=by
 cases hf:6 - k with
 | zero=>rfl
 | succ f=>rw[decL,List.getElem?_eq_none (by omega)]
abbrev DecIx (s:List UInt8)(p:Nat):={q:Nat×Nat // q.1≤6∧q.2 < 128 ^ q.1∧decL s p (6 - q.1) q.1 q.2=dec s p}
theorem s_impl_DecodeVarint (s:List UInt8)(p:Int)(hs:s.length≤1048576):Sim.Spec Tryz.prog 83 [tvS s,tvI p] (rDec (dec s p)):=by
 refine spec_of_W hΓ hmix Tryz.func83 rfl (by decide) rfl ?_
 repeat' ((conv=>whnf);first|refine Or.inl ?_|apply oi|(apply fi<;>intro h)|refine ci (s_impl_between _ _ _) (ai rfl (ai rfl (ai rfl trivial))) ?_|refine ci (s_impl_EncodeVarint _) (ai rfl trivial) ?_|refine⟨_,rfl,?_⟩|((with_reducible show _=_);rfl))
 all_goals try((with_reducible refine Obl.mk ?_);exact KO)
 rotate_right 1
 all_goals try
  refine⟨?_⟩
  have hnone:dec s p=none:=by
   have h':¬(0≤p∧p≤(s.length:Int) - 1):=by
    rw[←within_iff]
    rw[IntWalk.i64_in _ (by omega)]at h
    simpa using h
   rw[dec]
   split
   ·rfl
   ·exact decL_none (k:=0) (.inr (by omega))
  rw[hnone];rfl
 have hw:within p 0 (IntKind.i64.wrap (s.length - 1))=true:=by simpa using h
 rw[IntWalk.i64_in _ (by omega)]at hw
 have hb:=within_iff.1 hw
 obtain⟨p,rfl⟩:=Int.eq_ofNat_of_zero_le hb.1
 clear h hw
 repeat' ((conv=>whnf);first|refine Or.inl ?_|apply oi|(apply fi<;>intro h)|refine⟨_,rfl,?_⟩|((with_reducible show _=_);rfl))
 all_goals try((with_reducible refine Obl.mk ?_);exact KO)
 conv=>whnf
 refine⟨DecIx s p,fun i=>⟨[(0,tS s),(1,tI .i64 (p:Int)),(8,tI .i64 (i.1.1:Int)),(7,tI .i64 (i.1.2:Int))],[],[]⟩,fun i=>6 - i.1.1,⟨(0,0),by omega,by simp,by rw[dec,if_neg (by omega)];simp⟩,?_,?_⟩
 ·skip
  repeat' ((conv=>whnf);first|refine Or.inl ?_|apply oi|(apply fi<;>intro h)|refine⟨_,rfl,?_⟩|((with_reducible show _=_);rfl))
  all_goals try((with_reducible refine Obl.mk ?_);exact KO)
 intro⟨⟨k,n⟩,hk,hn,hd⟩
 dsimp only at hk hn hd ⊢
 repeat' ((conv=>whnf);first|refine Or.inl ?_|apply oi|(apply fi<;>intro h)|refine⟨_,rfl,?_⟩|((with_reducible show _=_);rfl))
 all_goals try((with_reducible refine Obl.mk ?_);exact KO)
 ·have hk6:k < 6:=by
   rename_i h0
   have:=of_decide_eq_true h0;omega
  have hpk:p+k < s.length:=by
   have:=of_decide_eq_true h
   rw[IntWalk.i64_in _ (by omega)]at this;omega
  clear h
  obtain⟨b,hb'⟩:∃b,s[p+k]?=some b:=⟨_,List.getElem?_eq_getElem hpk⟩
  conv=>whnf
  refine⟨p+k,b,by rw[IntWalk.i64_in _ (by omega)];rfl,hb',?_⟩
  repeat' ((conv=>whnf);first|refine Or.inl ?_|apply oi|(apply fi<;>intro h)|refine ci (s_impl_EncodeVarint _) (ai rfl trivial) ?_|refine⟨_,rfl,?_⟩|((with_reducible show _=_);rfl))
  all_goals try((with_reducible refine Obl.mk ?_);exact KO)
  ·exact⟨by rw[IntWalk.i64_in _ (by omega)];omega⟩
  ·have hbl:=b.toNat_lt
   have hgt:127 < b.toNat:=by
    have:=of_decide_eq_true h
    rw[IntWalk.i64_in _ (by omega)]at this;omega
   rw[byte_and,gather0 hk6 hn (by omega)]
   conv=>whnf
   refine⟨⟨(k+1,n+b.toNat % 128 * 128 ^ k),by dsimp only;omega,step_lt hn (by omega),?_⟩,?_,by dsimp only;omega⟩
   ·dsimp only
    rw[←hd,decL_step hk6 hb',if_pos hgt]
   ·skip
    repeat' ((conv=>whnf);first|refine Or.inl ?_|apply oi|(apply fi<;>intro h)|refine⟨_,rfl,?_⟩|((with_reducible show _=_);rfl))
    all_goals try((with_reducible refine Obl.mk ?_);exact KO)
    exact⟨by dsimp only;rw[IntWalk.i64_in _ (by omega)];rfl⟩
  ·have hle:¬127 < b.toNat:=by
    have:=of_decide_eq_false h
    have hbl:=b.toNat_lt
    rw[IntWalk.i64_in _ (by omega)]at this;omega
   rw[byte_and,gather0 hk6 hn (by omega)]
   have hstep:=decL_step (n:=n) hk6 hb'
   rw[if_neg hle,hd]at hstep
   conv=>whnf
   refine⟨p,p+k+1,rfl,?_,by omega,by omega,?_⟩
   ·show IntKind.i64.wrap (IntKind.i64.wrap (_+_)+1)=_
    rw[IntWalk.i64_in ((p:Int)+k) (by omega),IntWalk.i64_in _ (by omega)]
    rfl
   rw[List.drop_take,show p+k+1 - p=k+1 by omega]
   repeat' ((conv=>whnf);first|refine Or.inl ?_|apply oi|(apply fi<;>intro h)|refine ci (s_impl_EncodeVarint _) (ai rfl trivial) ?_|refine⟨_,rfl,?_⟩|((with_reducible show _=_);rfl))
   all_goals try((with_reducible refine Obl.mk ?_);exact KO)
   all_goals
    refine⟨?_⟩
    first
    |(rw[if_neg (by simpa using h)]at hstep;rw[hstep];rfl)
    |(rw[if_pos (by simpa using h)]at hstep;rw[hstep];first|rfl|(rw[IntWalk.i64_in _ (by omega)];rfl))
 all_goals
  refine⟨?_⟩
  have hnone:dec s p=none:=by
   rw[←hd]
   apply decL_none
   have h2:=of_decide_eq_false h
   try rw[IntWalk.i64_in _ (by omega)]at h2
   omega
  rw[hnone];rfl
end Go.Proofs.YtjmplnfiabmalaaGreat
namespace Go.Proofs.YtjmplnfiabmalaaGreat
open Go.Sim
set_option maxRecDepth 100000
theorem decL_some {s:List UInt8}{p:Nat}:∀(f k n:Nat) {a b:Nat},decL s p f k n=some (a,b)→k < b∧b≤k+f∧p+b≤s.length∧a≤1099511627775
 | 0,_,_,_,_,h=>by simp[decL]at h
 | f+1,k,n,a,b,h=>by
  rw[decL]at h
  split at h
  ·cases h
  ·rename_i c hc
   have hlt:p+k < s.length:=by
    rcases Nat.lt_or_ge (p+k) s.length with h'|h'
    ·exact h'
    ·rw[List.getElem?_eq_none h']at hc;cases hc
   simp only at h
   split at h
   ·have:=decL_some f (k+1) _ h
    omega
   ·split at h
    ·rename_i he
     simp only[Option.some.injEq,Prod.mk.injEq]at h
     obtain⟨rfl,rfl⟩:=h
     refine⟨by omega,by omega,by omega,?_⟩
     have hl:=congrArg List.length he
     simp only[List.length_take,List.length_drop]at hl
     rw[enc]at hl
     split at hl
     ·rename_i hw
      have:=within_iff.1 hw
      omega
     ·simp at hl;omega
    ·cases h
theorem dec_some {s:List UInt8}{p:Int}{a b:Nat}(h:dec s p=some (a,b)):0≤p∧0 < b∧b≤6∧p.toNat+b≤s.length∧a≤1099511627775:=by
 rw[dec]at h
 split at h
 ·cases h
 ·have:=decL_some 6 0 0 h
  omega
def unpackT (s:List UInt8)(p:Int):Option (List UInt8×Nat):=
 match dec s p with
 | none=>none
 | some (n,k)=>if n+p.toNat+k≤s.length then some ((s.drop (p.toNat+k)).take n,k+n)else none
def unS (o:Option (List UInt8×Nat)):List UInt8:=match o with|some x=>x.1|none=>[]
def unK (o:Option (List UInt8×Nat)):Int:=match o with|some x=>x.2|none=>0
abbrev rUn (o:Option (List UInt8×Nat)):Res:= .tup [.c (.t (.str (unS o))),.c (.t (.int .i64 (unK o))),.c (.t (.bool o.isSome))]
abbrev rDec0:Res:= .tup [.c (.t (.int .i64 0)),.c (.t (.int .i64 0)),.c (.t (.bool false))]
abbrev rDec1 (n k:Nat):Res:= .tup [.c (.t (.int .i64 n)),.c (.t (.int .i64 k)),.c (.t (.bool true))]
theorem dec_none_spec {P:Program}{f:FuncId}{s:List UInt8}{p:Int}(h:Sim.Spec P f [tvS s,tvI p] (rDec (dec s p)))(hd:dec s p=none):Sim.Spec P f [tvS s,tvI p] rDec0:=by
 rw[hd]at h;exact h
theorem dec_some_spec {P:Program}{f:FuncId}{s:List UInt8}{p:Int}{n k:Nat}(h:Sim.Spec P f [tvS s,tvI p] (rDec (dec s p)))(hd:dec s p=some (n,k)):Sim.Spec P f [tvS s,tvI p] (rDec1 n k):=by
 rw[hd]at h;exact h
theorem s_impl_UnpackText (s:List UInt8)(p:Int)(hs:s.length≤1048576)(hp:p≤9223372036854775807):Sim.Spec Tryz.prog 85 [tvS s,tvI p] (rUn (unpackT s p)):=by
 have hD:=s_impl_DecodeVarint s p hs
 match hd:dec s p with
 | none=>
  have hD:=dec_none_spec hD hd
  have hu:unpackT s p=none:=by rw[unpackT,hd]
  rw[hu]
  refine spec_of_W hΓ hmix Tryz.func85 rfl (by decide) rfl ?_
  repeat' ((conv=>whnf);first|refine Or.inl ?_|apply oi|(apply fi<;>intro h)|refine ci hD (ai rfl (ai rfl trivial)) ?_|refine⟨_,rfl,?_⟩|((with_reducible show _=_);rfl))
  all_goals try((with_reducible refine Obl.mk ?_);exact KO)
 | some (n,k)=>
  have hD:=dec_some_spec hD hd
  obtain⟨h0,h1,h2,h3,h4⟩:=dec_some hd
  obtain⟨p,rfl⟩:=Int.eq_ofNat_of_zero_le h0
  rw[Int.toNat_natCast]at h3
  have hu:unpackT s p=if n+p+k≤s.length then some ((s.drop (p+k)).take n,k+n)else none:=by rw[unpackT,hd];rfl
  rw[hu]
  refine spec_of_W hΓ hmix Tryz.func85 rfl (by decide) rfl ?_
  repeat' ((conv=>whnf);first|refine Or.inl ?_|apply oi|(apply fi<;>intro h)|refine ci hD (ai rfl (ai rfl trivial)) ?_|refine⟨_,rfl,?_⟩|((with_reducible show _=_);rfl))
  all_goals try((with_reducible refine Obl.mk ?_);exact KO)
  all_goals try
   have h5:=of_decide_eq_true h
   rw[IntWalk.i64_in ((s.length:Int) - p) (by omega),IntWalk.i64_in _ (by omega)]at h5
   rw[if_neg (by omega)]
   exact⟨rfl⟩
  have h5:=of_decide_eq_false h
  rw[IntWalk.i64_in ((s.length:Int) - p) (by omega),IntWalk.i64_in _ (by omega)]at h5
  rw[if_pos (by omega)]
  conv=>whnf
  refine⟨p+k,p+k+n,?_,?_,by omega,by omega,?_⟩
  ·show IntKind.i64.wrap (_+_)=_
   rw[IntWalk.i64_in _ (by omega)];rfl
  ·show IntKind.i64.wrap (IntKind.i64.wrap (_+_)+_)=_
   rw[IntWalk.i64_in ((p:Int)+k) (by omega),IntWalk.i64_in _ (by omega)];rfl
  rw[List.drop_take,show p+k+n - (p+k)=n by omega]
  repeat' ((conv=>whnf);first|refine Or.inl ?_|apply oi|(apply fi<;>intro h)|refine⟨_,rfl,?_⟩|((with_reducible show _=_);rfl))
  all_goals try((with_reducible refine Obl.mk ?_);exact KO)
  exact⟨by rw[IntWalk.i64_in _ (by omega)];rfl⟩
end Go.Proofs.YtjmplnfiabmalaaGreat
namespace Go.Proofs.YtjmplnfiabmalaaGreat
open Go.Sim Go.RowKit
def inI (n:Int):Prop:= -9223372036854775808≤n∧n≤9223372036854775807
def intRow (n:Int):List Tr:=[.int .i64 n]
def strRow (s:List UInt8):List Tr:=[.str s]
structure TOp where
 fCode:Int
 fArg:Int
def TOp.tr (x:TOp):List Tr:=[.int .i64 x.fCode,.int .i64 x.fArg]
def TOp.wf (x:TOp):Prop:=inI x.fCode∧inI x.fArg
structure TTok where
 fKind:Int
 fNum:Int
 fName:List UInt8
def TTok.tr (x:TTok):List Tr:=[.int .i64 x.fKind,.int .i64 x.fNum,.str x.fName]
def TTok.wf (x:TTok):Prop:=inI x.fKind∧inI x.fNum∧x.fName.length≤maxLen
structure TLine where
 fKind:Int
 fName:List UInt8
 fArgs:List (List UInt8)
 fExpr:List TTok
def TLine.tr (x:TLine):List Tr:=[.int .i64 x.fKind,.str x.fName,.lst 1 (x.fArgs.map strRow),.lst 3 (x.fExpr.map TTok.tr)]
def TLine.wf (x:TLine):Prop:=inI x.fKind∧x.fName.length≤maxLen∧(x.fArgs.length≤maxLen∧∀y∈x.fArgs,y.length≤maxLen)∧(x.fExpr.length≤maxLen∧∀y∈x.fExpr,y.wf)
structure TBuild where
 fFrames:Int
 fInline:Int
 fFold:Bool
 fSplit:Bool
def TBuild.tr (x:TBuild):List Tr:=[.int .i64 x.fFrames,.int .i64 x.fInline,.bool x.fFold,.bool x.fSplit]
def TBuild.wf (x:TBuild):Prop:=inI x.fFrames∧inI x.fInline
structure TItem where
 fOp:TOp
 fLine:Int
 fStart:Bool
 fChain:List Int
 fDepth:Int
 fEntered:Bool
def TItem.tr (x:TItem):List Tr:=[.int .i64 x.fOp.fCode,.int .i64 x.fOp.fArg,.int .i64 x.fLine,.bool x.fStart,.lst 1 (x.fChain.map intRow),.int .i64 x.fDepth,.bool x.fEntered]
def TItem.wf (x:TItem):Prop:=x.fOp.wf∧inI x.fLine∧(x.fChain.length≤maxLen∧∀y∈x.fChain,inI y)∧inI x.fDepth
structure TSymbol where
 fName:List UInt8
 fStart:Int
 fSize:Int
def TSymbol.tr (x:TSymbol):List Tr:=[.str x.fName,.int .i64 x.fStart,.int .i64 x.fSize]
def TSymbol.wf (x:TSymbol):Prop:=x.fName.length≤maxLen∧inI x.fStart∧inI x.fSize
structure TImage where
 fCode:List UInt8
 fSymbols:List TSymbol
def TImage.tr (x:TImage):List Tr:=[.str x.fCode,.lst 3 (x.fSymbols.map TSymbol.tr)]
def TImage.wf (x:TImage):Prop:=x.fCode.length≤maxLen∧(x.fSymbols.length≤maxLen∧∀y∈x.fSymbols,y.wf)
structure TSpace where
 fImages:List TImage
 fBases:List Int
 fEntries:List Int
def TSpace.tr (x:TSpace):List Tr:=[.lst 2 (x.fImages.map TImage.tr),.lst 1 (x.fBases.map intRow),.lst 1 (x.fEntries.map intRow)]
def TSpace.wf (x:TSpace):Prop:=(x.fImages.length≤maxLen∧∀y∈x.fImages,y.wf)∧(x.fBases.length≤maxLen∧∀y∈x.fBases,inI y)∧(x.fEntries.length≤maxLen∧∀y∈x.fEntries,inI y)
structure TMachine where
 fPc:Int
 fSp:Int
 fFp:Int
 fStack:List Int
 fOut:List Int
 fState:Int
 fValue:Int
def TMachine.tr (x:TMachine):List Tr:=[.int .i64 x.fPc,.int .i64 x.fSp,.int .i64 x.fFp,.lst 1 (x.fStack.map intRow),.lst 1 (x.fOut.map intRow),.int .i64 x.fState,.int .i64 x.fValue]
def TMachine.wf (x:TMachine):Prop:=inI x.fPc∧inI x.fSp∧inI x.fFp∧(x.fStack.length≤maxLen∧∀y∈x.fStack,inI y)∧(x.fOut.length≤maxLen∧∀y∈x.fOut,inI y)∧inI x.fState∧inI x.fValue
structure TPlace where
 fOffset:Int
 fItem:TItem
def TPlace.tr (x:TPlace):List Tr:=[.int .i64 x.fOffset,.int .i64 x.fItem.fOp.fCode,.int .i64 x.fItem.fOp.fArg,.int .i64 x.fItem.fLine,.bool x.fItem.fStart,.lst 1 (x.fItem.fChain.map intRow),.int .i64 x.fItem.fDepth,.bool x.fItem.fEntered]
def TPlace.wf (x:TPlace):Prop:=inI x.fOffset∧x.fItem.wf
structure TRule where
 fStart:Int
 fEnd:Int
 fFrame:Bool
 fDepth:Int
def TRule.tr (x:TRule):List Tr:=[.int .i64 x.fStart,.int .i64 x.fEnd,.bool x.fFrame,.int .i64 x.fDepth]
def TRule.wf (x:TRule):Prop:=inI x.fStart∧inI x.fEnd∧inI x.fDepth
structure TView where
 fPc:Int
 fSp:Int
 fFp:Int
 fWords:List Int
def TView.tr (x:TView):List Tr:=[.int .i64 x.fPc,.int .i64 x.fSp,.int .i64 x.fFp,.lst 1 (x.fWords.map intRow)]
def TView.wf (x:TView):Prop:=inI x.fPc∧inI x.fSp∧inI x.fFp∧(x.fWords.length≤maxLen∧∀y∈x.fWords,inI y)
structure TRow where
 fOffset:Int
 fLine:Int
 fStart:Bool
def TRow.tr (x:TRow):List Tr:=[.int .i64 x.fOffset,.int .i64 x.fLine,.bool x.fStart]
def TRow.wf (x:TRow):Prop:=inI x.fOffset∧inI x.fLine
structure TInline where
 fStart:Int
 fEnd:Int
 fLevel:Int
 fLine:Int
 fName:List UInt8
def TInline.tr (x:TInline):List Tr:=[.int .i64 x.fStart,.int .i64 x.fEnd,.int .i64 x.fLevel,.int .i64 x.fLine,.str x.fName]
def TInline.wf (x:TInline):Prop:=inI x.fStart∧inI x.fEnd∧inI x.fLevel∧inI x.fLine∧x.fName.length≤maxLen
structure TDebug where
 fId:Int
 fSymbols:List TSymbol
 fRules:List TRule
 fRows:List TRow
 fInlines:List TInline
def TDebug.tr (x:TDebug):List Tr:=[.int .i64 x.fId,.lst 3 (x.fSymbols.map TSymbol.tr),.lst 4 (x.fRules.map TRule.tr),.lst 3 (x.fRows.map TRow.tr),.lst 5 (x.fInlines.map TInline.tr)]
def TDebug.wf (x:TDebug):Prop:=inI x.fId∧(x.fSymbols.length≤maxLen∧∀y∈x.fSymbols,y.wf)∧(x.fRules.length≤maxLen∧∀y∈x.fRules,y.wf)∧(x.fRows.length≤maxLen∧∀y∈x.fRows,y.wf)∧(x.fInlines.length≤maxLen∧∀y∈x.fInlines,y.wf)
structure TFrame where
 fName:List UInt8
 fLine:Int
def TFrame.tr (x:TFrame):List Tr:=[.str x.fName,.int .i64 x.fLine]
def TFrame.wf (x:TFrame):Prop:=x.fName.length≤maxLen∧inI x.fLine
end Go.Proofs.YtjmplnfiabmalaaGreat
namespace Go.Proofs.YtjmplnfiabmalaaGreat
open Go.Sim
set_option maxRecDepth 100000
abbrev tvL (sz:Nat)(rows:List (List Tr)):TV:= .c (.lst sz rows)
abbrev rL (sz:Nat)(rows:List (List Tr)):Res:= .r (.c (.arr sz rows))
theorem map_get {α β:Type}{f:α→β}{l:List α}{k:Nat}{x:α}(h:l[k]?=some x):(l.map f)[k]?=some (f x):=by simp[h]
theorem get_of_lt {α:Type}{l:List α}{k:Nat}(h:k < l.length):∃x,l[k]?=some x:=⟨_,List.getElem?_eq_getElem h⟩
def packL:List Int→Option (List UInt8)
 | []=>some []
 | n::ns=>if signless n < 0 then none else(packL ns).map (enc (signless n)++·)
def packInts (ns:List Int):List UInt8:=match packL ns with|some bs=>enc ns.length++bs|none=>[]
def packR (acc:List UInt8):Option (List UInt8)→List UInt8
 | some bs=>acc++bs
 | none=>[]
abbrev PackIx (ns:List Int):={q:Nat×List UInt8 // q.1≤ns.length∧q.2.length≤6 * (q.1+1)∧packInts ns=packR q.2 (packL (ns.drop q.1))}
theorem drop_at {α:Type}{l:List α}{k:Nat}{x:α}(h:l[k]?=some x):l.drop k=x::l.drop (k+1):=by
 have hk:k < l.length:=by
  rcases Nat.lt_or_ge k l.length with h'|h'
  ·exact h'
  ·rw[List.getElem?_eq_none h']at h;cases h
 rw[List.getElem?_eq_getElem hk]at h
 injection h with h
 rw[←h]
 exact List.drop_eq_getElem_cons hk
theorem pack_neg {acc:List UInt8}{n:Int}{ns:List Int}(h:signless n < 0):packR acc (packL (n::ns))=[]:=by
 rw[packL,if_pos h];rfl
theorem pack_pos {acc:List UInt8}{n:Int}{ns:List Int}(h:¬signless n < 0):packR acc (packL (n::ns))=packR (acc++enc (signless n)) (packL ns):=by
 rw[packL,if_neg h]
 cases packL ns <;> simp[packR]
theorem pack_start (ns:List Int):packInts ns=packR (enc ns.length) (packL (ns.drop 0)):=by
 unfold packInts
 rw[List.drop_zero]
 cases packL ns <;> rfl
theorem pack_end {ns:List Int}{k:Nat}(h:ns.length≤k)(acc:List UInt8):packR acc (packL (ns.drop k))=acc:=by
 rw[List.drop_eq_nil_of_le h];simp[packL,packR]
theorem s_impl_PackInts (ns:List Int)(hl:ns.length≤16777216):Sim.Spec Tryz.prog 87 [tvL 1 (ns.map intRow)] (rS (packInts ns)):=by
 refine spec_of_W hΓ hmix Tryz.func87 rfl (by decide) rfl ?_
 have hlen:(ns.map intRow).length=ns.length:=by simp
 have hel:=enc_len ns.length
 repeat' ((conv=>whnf);first|refine Or.inl ?_|apply oi|(apply fi<;>intro h)|refine ci (s_impl_EncodeVarint _) (ai rfl trivial) ?_|refine⟨_,rfl,?_⟩|((with_reducible show _=_);rfl))
 all_goals try((with_reducible refine Obl.mk ?_);exact KO)
 ·exact⟨by rw[hlen];omega⟩
 repeat' ((conv=>whnf);first|refine Or.inl ?_|apply oi|(apply fi<;>intro h)|refine⟨_,rfl,?_⟩|((with_reducible show _=_);rfl))
 all_goals try((with_reducible refine Obl.mk ?_);exact KO)
 conv=>whnf
 refine⟨PackIx ns,fun q=>⟨[(10,.r (.c (.t (.lst 1 (ns.map intRow))))),(11,tI .i64 ((ns.map intRow).length:Int)),(12,tI .i64 (q.1.1:Int)),(3,.r (.c (.own (3,0,0))))],[((3,0,0),some (.arr true 1 (q.1.2.map byteRow)))],[3]⟩,fun q=>ns.length - q.1.1,⟨(0,enc ns.length),by simp,by dsimp only;omega,pack_start ns⟩,?_,?_⟩
 ·skip
  repeat' ((conv=>whnf);first|refine Or.inl ?_|apply oi|(apply fi<;>intro h)|refine⟨_,rfl,?_⟩|((with_reducible show _=_);rfl))
  all_goals try((with_reducible refine Obl.mk ?_);exact KO)
  all_goals exact⟨by rw[hlen]⟩
 intro⟨⟨k,acc⟩,hk,hal,hp⟩
 dsimp only at hk hal hp ⊢
 repeat' ((conv=>whnf);first|refine Or.inl ?_|apply oi|(apply fi<;>intro h)|refine⟨_,rfl,?_⟩|((with_reducible show _=_);rfl))
 all_goals try((with_reducible refine Obl.mk ?_);exact KO)
 ·have hlt:k < ns.length:=by have:=of_decide_eq_true h;omega
  obtain⟨x,hx⟩:=get_of_lt hlt
  rw[drop_at hx]at hp
  conv=>whnf
  refine⟨k,intRow x,rfl,map_get hx,?_⟩
  have hxl:=enc_len (signless x)
  repeat' ((conv=>whnf);first|refine Or.inl ?_|apply oi|(apply fi<;>intro h)|refine ci (s_impl_Signless _) (ai rfl trivial) ?_|refine ci (s_impl_EncodeVarint _) (ai rfl trivial) ?_|refine⟨_,rfl,?_⟩|((with_reducible show _=_);rfl))
  all_goals try((with_reducible refine Obl.mk ?_);exact KO)
  ·rw[hp,pack_neg (of_decide_eq_true h)]
   exact⟨rfl⟩
  have hpos:=pack_pos (acc:=acc) (ns:=ns.drop (k+1)) (of_decide_eq_false h)
  conv=>whnf
  refine⟨⟨(k+1,acc++enc (signless x)),by dsimp only;omega,by dsimp only;rw[List.length_append];omega,hp.trans hpos⟩,?_,by dsimp only;omega⟩
  repeat' ((conv=>whnf);first|refine Or.inl ?_|apply oi|(apply fi<;>intro h)|refine⟨_,rfl,?_⟩|((with_reducible show _=_);rfl))
  all_goals try((with_reducible refine Obl.mk ?_);exact KO)
  ·exact⟨by dsimp only;rw[IntWalk.i64_in _ (by omega)];rfl⟩
  ·exact⟨by simp⟩
 ·have hge:ns.length≤k:=by have:=of_decide_eq_false h;omega
  rw[hp,pack_end hge]
  exact⟨rfl⟩
end Go.Proofs.YtjmplnfiabmalaaGreat
namespace Go.Proofs.YtjmplnfiabmalaaGreat
open Go.Sim Go.RowKit
set_option maxRecDepth 100000
theorem smallRs_map {α:Type}{g:α→List Tr}{L:Int}{l:List α}{sz:Nat}(h:smallT L (.lst sz (l.map g))){x:α}(hx:x∈l):smallR L (g x):=by
 rw[smallT]at h
 exact smallRs_mem h.2 _ (List.mem_map_of_mem hx)
theorem small_len {α:Type}{g:α→List Tr}{L:Int}{l:List α}{sz:Nat}(h:smallT L (.lst sz (l.map g))):(l.length:Int)≤L:=by
 rw[smallT]at h
 simpa using h.1
theorem small_nat {α:Type}{g:α→List Tr}{l:List α}{sz:Nat}(h:smallT 1048576 (.lst sz (l.map g))):l.length≤1048576:=by
 have:=small_len h
 omega
end Go.Proofs.YtjmplnfiabmalaaGreat
namespace Go.Proofs.YtjmplnfiabmalaaGreat
open Go.Sim
set_option maxRecDepth 100000
def unpackL (s:List UInt8)(p:Nat):Nat→Nat→Option (List Int×Nat)
 | 0,z=>some ([],z)
 | n+1,z=>match dec s ((p+z:Nat):Int)with
  | none=>none
  | some x=>(unpackL s p n (z+x.2)).map fun y=>(signed x.1::y.1,y.2)
def unpackInts (s:List UInt8)(p:Int):Option (List Int×Nat):=match dec s p with
 | none=>none
 | some x=>unpackL s p.toNat x.1 x.2
def upL (o:Option (List Int×Nat)):List Int:=match o with|some x=>x.1|none=>[]
def upZ (o:Option (List Int×Nat)):Int:=match o with|some x=>x.2|none=>0
abbrev rUnp (o:Option (List Int×Nat)):Res:= .tup [.c (.arr 1 ((upL o).map intRow)),.c (.t (.int .i64 (upZ o))),.c (.t (.bool o.isSome))]
theorem unpackL_len {s:List UInt8}{p:Nat}:∀{n z:Nat} {y:List Int×Nat},unpackL s p n z=some y→y.1.length=n∧z+n≤y.2∧(p+z≤s.length→p+y.2≤s.length)
 | 0,z,y,h=>by
  rw[unpackL]at h
  injection h with h
  subst h
  exact⟨rfl,Nat.le_refl _,id⟩
 | n+1,z,y,h=>by
  rw[unpackL]at h
  split at h
  ·cases h
  ·rename_i x hx
   obtain⟨a,b⟩:=x
   have hd:=dec_some hx
   rw[Int.toNat_natCast]at hd
   rw[Option.map_eq_some_iff]at h
   obtain⟨y',h',rfl⟩:=h
   have:=unpackL_len h'
   dsimp only at this ⊢
   refine⟨by simp[this.1],by omega,fun _=>this.2.2 (by omega)⟩
def UpInv (s:List UInt8)(p:Int)(R:Option (List Int×Nat))(N:Int)(k z:Nat)(ok:Bool)(acc:List Int):Prop:=
 acc.length=k∧(k:Int)≤N∧acc.length≤s.length+1∧(match ok with
  | true=>0≤p∧p.toNat+z≤s.length∧acc.length≤z∧R=(unpackL s p.toNat (N.toNat - k) z).map fun y=>(acc++y.1,y.2)
  | false=>R=none)
theorem dec_size {s:List UInt8}{p:Int}:decN (dec s p)≤1099511627775∧0≤decN (dec s p)∧0≤decK (dec s p)∧decK (dec s p)≤6:=by
 match hd:dec s p with
 | none=>simp[decN,decK]
 | some (a,b)=>have:=dec_some hd;simp only[decN,decK];omega
theorem up_start {s:List UInt8}{p:Int}:UpInv s p (unpackInts s p) (decN (dec s p)) 0 (decK (dec s p)).toNat (dec s p).isSome []:=by
 have hz:=dec_size (s:=s) (p:=p)
 refine⟨rfl,by simpa using hz.2.1,by simp,?_⟩
 match hd:dec s p with
 | none=>simp[unpackInts,hd]
 | some (a,b)=>
  have:=dec_some hd
  simp only[Option.isSome,decN,decK,unpackInts,hd]
  refine⟨by omega,by simp;omega,by simp,?_⟩
  simp
theorem up_step {s:List UInt8}{p:Int}{R:Option (List Int×Nat)}{N:Int}{k z:Nat}{acc:List Int}(h:UpInv s p R N k z true acc)(hk:(k:Int) < N):
  UpInv s p R N (k+1) (z+(decK (dec s ((p.toNat+z:Nat):Int))).toNat) (dec s ((p.toNat+z:Nat):Int)).isSome (acc++[signed (decN (dec s ((p.toNat+z:Nat):Int)))]):=by
 obtain⟨h1,h2,h3,h4,h5,h6,h7⟩:=h
 refine⟨by simp[h1],by omega,by simp;omega,?_⟩
 rw[show N.toNat - k=(N.toNat - (k+1))+1 by omega,unpackL]at h7
 match hd:dec s ((p.toNat+z:Nat):Int)with
 | none=>rw[hd]at h7;simpa using h7
 | some (a,b)=>
  have:=dec_some hd
  rw[Int.toNat_natCast]at this
  rw[hd]at h7
  simp only[Option.isSome,decN,decK]
  refine⟨h4,by simp;omega,by simp;omega,?_⟩
  rw[h7]
  simp only[Option.map_map,Int.toNat_natCast]
  congr 1
  funext y
  simp
theorem up_end {s:List UInt8}{p:Int}{R:Option (List Int×Nat)}{N:Int}{k z:Nat}{acc:List Int}(h:UpInv s p R N k z true acc)(hk:N≤k):R=some (acc,z):=by
 obtain⟨h1,h2,h3,h4,h5,h6,h7⟩:=h
 rw[show N.toNat - k=0 by omega,unpackL]at h7
 simpa using h7
theorem up_big {s:List UInt8}{p:Int}(h:(s.length:Int) < decN (dec s p)):unpackInts s p=none:=by
 match hu:unpackInts s p with
 | none=>rfl
 | some y=>
  exfalso
  match hd:dec s p with
  | none=>rw[hd]at h;simp[decN]at h;omega
  | some (a,b)=>
   have:=dec_some hd
   rw[unpackInts,hd]at hu
   have:=unpackL_len hu
   rw[hd]at h
   simp only[decN]at h
   dsimp only at *
   omega
abbrev UpIy (s:List UInt8)(p:Int)(R:Option (List Int×Nat)):={q:Nat×Nat×List Int // UpInv s p R (decN (dec s p)) q.1 q.2.1 true q.2.2∧q.2.1≤2000000}
theorem s_impl_UnpackInts (s:List UInt8)(p:Int)(hs:s.length≤1048576)(hp:p≤9223372036854775807):Sim.Spec Tryz.prog 84 [tvS s,tvI p] (rUnp (unpackInts s p)):=by
 have hz:=dec_size (s:=s) (p:=p)
 have hst:=up_start (s:=s) (p:=p)
 have hbig:=up_big (s:=s) (p:=p)
 obtain⟨R,hR⟩:∃R,unpackInts s p=R:=⟨_,rfl⟩
 rw[hR]at hst hbig ⊢
 refine spec_of_W hΓ hmix Tryz.func84 rfl (by decide) rfl ?_
 repeat' ((conv=>whnf);first|refine Or.inl ?_|apply oi|(apply fi<;>intro h)|refine ci ((s_impl_DecodeVarint s p hs)) (ai rfl (ai rfl trivial)) ?_|refine⟨_,rfl,?_⟩|((with_reducible show _=_);rfl))
 all_goals try((with_reducible refine Obl.mk ?_);exact KO)
 all_goals try(
  have hn:=hbig (of_decide_eq_true h)
  subst hn
  exact⟨rfl⟩)
 all_goals try(
  have hn:(dec s p).isSome=false:=by simpa using h
  rw[hn]at hst
  have hn:=hst.2.2.2
  subst hn
  exact⟨rfl⟩)
 have hok:(dec s p).isSome=true:=by simp at *;assumption
 rw[hok]at hst
 conv=>whnf
 refine⟨UpIy s p R,fun q=>⟨[(0,tS s),(1,tI .i64 p),(7,tI .i64 (decN (dec s p))),(8,tI .i64 (q.1.2.1:Int)),(10,.r (.c (.own (10,0,0)))),(11,tI .i64 (q.1.1:Int))],[((10,0,0),some (.arr true 1 (q.1.2.2.map intRow)))],[10]⟩,fun q=>(decN (dec s p)).toNat - q.1.1,⟨(0,(decK (dec s p)).toNat,[]),hst,by dsimp only;omega⟩,?_,?_⟩
 ·skip
  repeat' ((conv=>whnf);first|refine Or.inl ?_|apply oi|(apply fi<;>intro h)|refine⟨_,rfl,?_⟩|((with_reducible show _=_);rfl))
  all_goals try((with_reducible refine Obl.mk ?_);exact KO)
  exact⟨by dsimp only;rw[Int.toNat_of_nonneg hz.2.2.1]⟩
 intro⟨⟨k,z,acc⟩,hinv,hz1⟩
 dsimp only at hinv hz1 ⊢
 by_cases hk:(k:Int) < decN (dec s p)
 ·have hnext:=up_step hinv hk
  have hz2:=dec_size (s:=s) (p:=((p.toNat+z:Nat):Int))
  obtain⟨g1,g2,g3,g4,g5,g6,g7⟩:=hinv
  have e:IntKind.i64.wrap (p+z)=((p.toNat+z:Nat):Int):=by rw[IntWalk.i64_in _ (by omega)];omega
  have hD:=s_impl_DecodeVarint s (IntKind.i64.wrap (p+z)) hs
  repeat' ((conv=>whnf);first|refine Or.inl ?_|apply oi|(apply fi<;>intro h)|refine ci hD (ai rfl (ai rfl trivial)) ?_|refine ci (s_impl_Signed _) (ai rfl trivial) ?_|refine⟨_,rfl,?_⟩|((with_reducible show _=_);rfl))
  all_goals try((with_reducible refine Obl.mk ?_);exact KO)
  all_goals try exact absurd hk (of_decide_eq_false (by assumption))
  all_goals try(
   rw[e]at h
   have hn:(dec s ((p.toNat+z:Nat):Int)).isSome=false:=by simpa using h
   rw[hn]at hnext
   have hn:=hnext.2.2.2
   subst hn
   exact⟨rfl⟩)
  conv=>whnf
  rw[e]at h ⊢
  have hn:(dec s ((p.toNat+z:Nat):Int)).isSome=true:=by simpa using h
  rw[hn]at hnext
  refine⟨⟨(k+1,z+(decK (dec s ((p.toNat+z:Nat):Int))).toNat,acc++[signed (decN (dec s ((p.toNat+z:Nat):Int)))]),hnext,by dsimp only;obtain⟨_,_,_,_,h5,_⟩:=hnext;omega⟩,?_,by dsimp only;omega⟩
  repeat' ((conv=>whnf);first|refine Or.inl ?_|apply oi|(apply fi<;>intro h)|refine⟨_,rfl,?_⟩|((with_reducible show _=_);rfl))
  all_goals try((with_reducible refine Obl.mk ?_);exact KO)
  ·exact⟨congrArg (Tr.int _) (by dsimp only;rw[IntWalk.i64_in _ (by omega)];omega)⟩
  ·exact⟨congrArg (Tr.int _) (by dsimp only;rw[IntWalk.i64_in _ (by omega)];omega)⟩
  ·exact⟨by simp[intRow]⟩
 ·have hend:=up_end hinv (by omega)
  subst hend
  repeat' ((conv=>whnf);first|refine Or.inl ?_|apply oi|(apply fi<;>intro h)|refine⟨_,rfl,?_⟩|((with_reducible show _=_);rfl))
  all_goals try((with_reducible refine Obl.mk ?_);exact KO)
  all_goals(exfalso;simp only[decide_eq_true_eq]at *;omega)
theorem byte_ofNat {m:Nat}(h:m < 256):(UInt8.ofNat m).toNat=m:=by simp;omega
theorem decL_enc {s rest:List UInt8}{p n:Nat}(hn:n≤1099511627775)(hs:s.drop p=encN n++rest):
  ∀(f k m acc:Nat),f+k=6→k+(encN m).length≤6→s.drop (p+k)=encN m++rest→acc+m * 128 ^ k=n→(encN n).length=k+(encN m).length→decL s p f k acc=some (n,(encN n).length)
 | 0,k,m,acc,hf,hk,hd,hacc,hlen=>by have:=encN_pos m;omega
 | f+1,k,m,acc,hf,hk,hd,hacc,hlen=>by
  rw[encN.eq_def m]at hd hk hlen
  have henc:enc (n:Int)=encN n:=by rw[enc,if_pos (within_iff.2 ⟨by omega,by omega⟩),Int.toNat_natCast]
  by_cases hm:m≤127
  ·rw[if_pos hm]at hd hk hlen
   have hb:s[p+k]?=some (UInt8.ofNat m):=by
    have:=congrArg (fun l=>l[0]?) hd
    simpa [List.getElem?_drop]using this
   have h1:(UInt8.ofNat m).toNat=m:=byte_ofNat (by omega)
   rw[decL,hb]
   dsimp only
   rw[h1,if_neg (by omega),show acc+m % 128 * 128 ^ k=n by rw[Nat.mod_eq_of_lt (by omega)];exact hacc,henc,hs]
   simp only[List.length_cons,List.length_nil]at hlen
   rw[List.take_append_of_le_length (by omega),List.take_of_length_le (by omega),if_pos rfl,hlen]
  ·rw[if_neg hm]at hd hk hlen
   have hb:s[p+k]?=some (UInt8.ofNat (m % 128+128)):=by
    have:=congrArg (fun l=>l[0]?) hd
    simpa [List.getElem?_drop]using this
   have h1:(UInt8.ofNat (m % 128+128)).toNat=m % 128+128:=byte_ofNat (by omega)
   rw[decL,hb]
   dsimp only
   rw[h1,if_pos (by omega)]
   simp only[List.length_cons]at hk hlen
   refine decL_enc hn hs f (k+1) (m / 128) _ (by omega) (by omega) ?_ ?_ (by omega)
   ·have:=congrArg (List.drop 1) hd
    rw[List.drop_drop]at this
    simpa [Nat.add_assoc]using this
   ·rw[show(m % 128+128) % 128=m % 128 by omega,←hacc,Nat.pow_succ,Nat.add_assoc]
    congr 1
    have h3:m / 128 * (128 ^ k * 128)=128 * (m / 128) * 128 ^ k:=by rw[Nat.mul_comm (128 ^ k),←Nat.mul_assoc,Nat.mul_comm (m / 128)]
    rw[h3,←Nat.add_mul]
    congr 1
    omega
theorem dec_at {s rest:List UInt8}{p:Nat}{n:Int}(h0:0≤n)(h1:n≤1099511627775)(hs:s.drop p=enc n++rest):dec s (p:Int)=some (n.toNat,(enc n).length):=by
 obtain⟨m,rfl⟩:=Int.eq_ofNat_of_zero_le h0
 have henc:enc (m:Int)=encN m:=by rw[enc,if_pos (within_iff.2 ⟨by omega,by omega⟩),Int.toNat_natCast]
 have hl:=enc_len (m:Int)
 rw[henc]at hs hl ⊢
 rw[dec,if_neg (by omega),Int.toNat_natCast,Int.toNat_natCast]
 exact decL_enc (by omega) hs 6 0 m 0 rfl (by omega) (by simpa using hs) (by omega) (by omega)
def inSign (n:Int):Prop:= -549755813888≤n∧n≤549755813887
theorem signless_range {n:Int}(h:inSign n):0≤signless n∧signless n≤1099511627775∧signed (signless n)=n:=by
 obtain⟨h1,h2⟩:=h
 rw[signless,if_pos (within_iff.2 ⟨h1,h2⟩)]
 split
 ·refine⟨by omega,by omega,?_⟩
  rw[signed,if_pos (within_iff.2 ⟨by omega,by omega⟩),if_pos (by omega)]
  omega
 ·refine⟨by omega,by omega,?_⟩
  rw[signed,if_pos (within_iff.2 ⟨by omega,by omega⟩),if_neg (by omega)]
  omega
theorem packL_some:∀{l:List Int},(∀n∈l,inSign n)→∃bs,packL l=some bs
 | [],_=>⟨[],rfl⟩
 | n::l,h=>by
  obtain⟨bs,hb⟩:=packL_some (l:=l) fun x hx=>h x (by simp[hx])
  have:=signless_range (h n (by simp))
  exact⟨enc (signless n)++bs,by rw[packL,if_neg (by omega),hb];rfl⟩
theorem unpackL_at {s rest:List UInt8}{p:Nat}:∀{l:List Int} {bs:List UInt8} {z:Nat},(∀n∈l,inSign n)→packL l=some bs→s.drop (p+z)=bs++rest→unpackL s p l.length z=some (l,z+bs.length)
 | [],bs,z,_,hp,hs=>by
  rw[packL]at hp
  injection hp with hp
  subst hp
  rfl
 | n::l,bs,z,h,hp,hs=>by
  have hr:=signless_range (h n (by simp))
  rw[packL,if_neg (by omega)]at hp
  rw[Option.map_eq_some_iff]at hp
  obtain⟨bs',hp',rfl⟩:=hp
  rw[List.append_assoc]at hs
  rw[List.length_cons,unpackL,dec_at hr.1 hr.2.1 hs]
  dsimp only
  have hrec:=unpackL_at (l:=l) (z:=z+(enc (signless n)).length) (p:=p) (s:=s) (rest:=rest) (fun x hx=>h x (by simp[hx])) hp' (by
   have:=congrArg (List.drop (enc (signless n)).length) hs
   rw[List.drop_drop,List.drop_left]at this
   rw[←this,Nat.add_assoc])
  rw[hrec]
  simp only[Option.map_some,List.length_append]
  rw[Int.toNat_of_nonneg hr.1,hr.2.2,Nat.add_assoc]
theorem unpack_at {s rest:List UInt8}{p:Nat}{l:List Int}(h:∀n∈l,inSign n)(hl:l.length≤1099511627775)(hs:s.drop p=packInts l++rest):unpackInts s (p:Int)=some (l,(packInts l).length):=by
 obtain⟨bs,hb⟩:=packL_some h
 rw[packInts,hb]at hs ⊢
 dsimp only at hs ⊢
 rw[List.append_assoc]at hs
 rw[unpackInts,dec_at (n:=l.length) (by omega) (by omega) hs]
 dsimp only
 rw[Int.toNat_natCast,Int.toNat_natCast,unpackL_at (rest:=rest) h hb (by
  have:=congrArg (List.drop (enc (l.length:Int)).length) hs
  rw[List.drop_drop,List.drop_left]at this
  exact this),List.length_append]
theorem unpackT_at {s rest t:List UInt8}{p:Nat}(ht:t.length≤1099511627775)(hs:s.drop p=(enc t.length++t)++rest):unpackT s (p:Int)=some (t,(enc t.length++t).length):=by
 rw[List.append_assoc]at hs
 have hd:=congrArg (List.drop (enc (t.length:Int)).length) hs
 rw[List.drop_drop,List.drop_left]at hd
 have hlen:t.length+p+(enc (t.length:Int)).length≤s.length:=by
  have:=congrArg List.length hd
  simp only[List.length_drop,List.length_append]at this
  by_cases h0:t.length=0
  ·have h1:=congrArg List.length hs
   have h2:0 < (enc (t.length:Int)).length:=by rw[h0];exact encN_pos 0
   simp only[List.length_drop,List.length_append]at h1
   omega
  ·omega
 rw[unpackT,dec_at (n:=t.length) (by omega) (by omega) hs]
 dsimp only
 rw[Int.toNat_natCast,Int.toNat_natCast,if_pos (by omega),hd,List.take_left,List.length_append]
theorem packL_len:∀{l:List Int} {bs:List UInt8},packL l=some bs→bs.length≤6 * l.length
 | [],bs,h=>by rw[packL]at h;injection h with h;subst h;simp
 | n::l,bs,h=>by
  rw[packL]at h
  split at h
  ·cases h
  ·rw[Option.map_eq_some_iff]at h
   obtain⟨b',hb',rfl⟩:=h
   have:=packL_len hb'
   have:=enc_len (signless n)
   simp only[List.length_append,List.length_cons]
   omega
theorem s_laws_big (bs:List UInt8):Sim.Spec Tryz.prog 11 [tvL 1 (bs.map byteRow)] (rB (decide (1048576 < (bs.length:Int)))):=by
 refine spec_of_W hΓ hmix Tryz.func11 rfl (by decide) rfl ?_
 have hl:(bs.map byteRow).length=bs.length:=by simp
 repeat' ((conv=>whnf);first|refine Or.inl ?_|apply oi|(apply fi<;>intro h)|refine⟨_,rfl,?_⟩|((with_reducible show _=_);rfl))
 all_goals try((with_reducible refine Obl.mk ?_);exact KO)
 exact⟨by rw[hl]⟩
end Go.Proofs.YtjmplnfiabmalaaGreat
namespace Go.Proofs.YtjmplnfiabmalaaGreat
open Go.Sim
set_option maxRecDepth 100000
set_option maxHeartbeats 4000000
def ruleOkAt (last:Int)(r:TRule):Prop:=last≤r.fStart∧r.fStart < r.fEnd∧r.fEnd≤1000000∧0≤r.fDepth∧r.fDepth≤1200∧(r.fFrame=true→r.fDepth=0)
instance (last:Int) (r:TRule):Decidable (ruleOkAt last r):=by unfold ruleOkAt;infer_instance
end Go.Proofs.YtjmplnfiabmalaaGreat
namespace Go.Proofs.YtjmplnfiabmalaaGreat
open Go.Sim
set_option maxRecDepth 100000
set_option maxHeartbeats 4000000
def low (b:UInt8):Bool:=decide (97≤b.toNat) && decide (b.toNat≤122)
def nameOk (s:List UInt8):Bool:=s.all low && within s.length 1 8
abbrev NameIx (s:List UInt8):={k:Nat // k≤s.length∧(s.take k).all low=true}
theorem all_take {α:Type}{p:α→Bool}{s:List α}{k:Nat}{b:α}(h:(s.take k).all p=true)(hb:s[k]?=some b)(hp:p b=true):(s.take (k+1)).all p=true:=by
 rw[List.take_add_one,hb]
 simp_all
theorem all_bad {α:Type}{p:α→Bool}{s:List α}{k:Nat}{b:α}(hb:s[k]?=some b)(hp:p b=false):s.all p=false:=by
 rw[Bool.eq_false_iff]
 intro h
 rw[List.all_eq_true]at h
 rw[h b (List.mem_of_getElem? hb)]at hp
 cases hp
theorem s_impl_NameOk (s:List UInt8)(hl:s.length≤1099511627775):Sim.Spec Tryz.prog 161 [tvS s] (rB (nameOk s)):=by
 refine spec_of_W hΓ hmix Tryz.func161 rfl (by decide) rfl ?_
 unfold nameOk
 repeat' ((conv=>whnf);first|refine Or.inl ?_|apply oi|(apply fi<;>intro h)|refine⟨_,rfl,?_⟩|((with_reducible show _=_);rfl))
 all_goals try((with_reducible refine Obl.mk ?_);exact KO)
 conv=>whnf
 refine⟨NameIx s,fun k=>⟨[(0,tS s),(3,tI .i64 (k.1:Int))],[],[]⟩,fun k=>s.length - k.1,⟨0,by omega,rfl⟩,?_,?_⟩
 ·skip
  repeat' ((conv=>whnf);first|refine Or.inl ?_|apply oi|(apply fi<;>intro h)|refine⟨_,rfl,?_⟩|((with_reducible show _=_);rfl))
  all_goals try((with_reducible refine Obl.mk ?_);exact KO)
 intro⟨k,hk,hp⟩
 dsimp only
 by_cases hlt:k < s.length
 ·obtain⟨b,hb⟩:=get_of_lt hlt
  have hbl:=b.toNat_lt
  cases hlo:low b with
  | false=>
   rw[all_bad hb hlo]
   unfold low at hlo
   repeat' ((conv=>whnf);first|refine Or.inl ?_|apply oi|(apply fi<;>intro h)|refine⟨k,b,rfl,hb,?_⟩|refine⟨_,rfl,?_⟩|((with_reducible show _=_);rfl))
   all_goals try((with_reducible refine Obl.mk ?_);exact KO)
   all_goals try exact KX
   all_goals(exfalso;simp at *;omega)
  | true=>
   have hnx:=all_take hp hb hlo
   unfold low at hlo
   repeat' ((conv=>whnf);first|refine Or.inl ?_|apply oi|(apply fi<;>intro h)|refine⟨k,b,rfl,hb,?_⟩|refine⟨_,rfl,?_⟩|((with_reducible show _=_);rfl))
   all_goals try((with_reducible refine Obl.mk ?_);exact KO)
   all_goals try exact KX
   all_goals try exact K1
   conv=>whnf
   refine⟨⟨k+1,by omega,hnx⟩,?_,by dsimp only;omega⟩
   repeat' ((conv=>whnf);first|refine Or.inl ?_|apply oi|(apply fi<;>intro h)|refine⟨_,rfl,?_⟩|((with_reducible show _=_);rfl))
   all_goals try((with_reducible refine Obl.mk ?_);exact KO)
   all_goals try exact⟨K2⟩
 ·have hge:s.length≤k:=by omega
  rw[List.take_of_length_le hge]at hp
  rw[hp]
  repeat' ((conv=>whnf);first|refine Or.inl ?_|apply oi|(apply fi<;>intro h)|refine ci (s_impl_between _ _ _) (ai rfl (ai rfl (ai rfl trivial))) ?_|refine⟨_,rfl,?_⟩|((with_reducible show _=_);rfl))
  all_goals try((with_reducible refine Obl.mk ?_);exact KO)
  all_goals try exact KX
theorem s_spec_NameOk (s:List UInt8)(hl:s.length≤1099511627775):Sim.Spec Tryz.prog 173 [tvS s] (rB (nameOk s)):=by
 refine spec_of_W hΓ hmix Tryz.func173 rfl (by decide) rfl ?_
 unfold nameOk
 repeat' ((conv=>whnf);first|refine Or.inl ?_|apply oi|(apply fi<;>intro h)|refine⟨_,rfl,?_⟩|((with_reducible show _=_);rfl))
 all_goals try((with_reducible refine Obl.mk ?_);exact KO)
 conv=>whnf
 refine⟨NameIx s,fun k=>⟨[(0,tS s),(3,tI .i64 (k.1:Int))],[],[]⟩,fun k=>s.length - k.1,⟨0,by omega,rfl⟩,?_,?_⟩
 ·skip
  repeat' ((conv=>whnf);first|refine Or.inl ?_|apply oi|(apply fi<;>intro h)|refine⟨_,rfl,?_⟩|((with_reducible show _=_);rfl))
  all_goals try((with_reducible refine Obl.mk ?_);exact KO)
 intro⟨k,hk,hp⟩
 dsimp only
 by_cases hlt:k < s.length
 ·obtain⟨b,hb⟩:=get_of_lt hlt
  have hbl:=b.toNat_lt
  cases hlo:low b with
  | false=>
   rw[all_bad hb hlo]
   unfold low at hlo
   repeat' ((conv=>whnf);first|refine Or.inl ?_|apply oi|(apply fi<;>intro h)|refine⟨k,b,rfl,hb,?_⟩|refine⟨_,rfl,?_⟩|((with_reducible show _=_);rfl))
   all_goals try((with_reducible refine Obl.mk ?_);exact KO)
   all_goals try exact KX
   all_goals(exfalso;simp at *;omega)
  | true=>
   have hnx:=all_take hp hb hlo
   unfold low at hlo
   repeat' ((conv=>whnf);first|refine Or.inl ?_|apply oi|(apply fi<;>intro h)|refine⟨k,b,rfl,hb,?_⟩|refine⟨_,rfl,?_⟩|((with_reducible show _=_);rfl))
   all_goals try((with_reducible refine Obl.mk ?_);exact KO)
   all_goals try exact KX
   all_goals try exact K1
   conv=>whnf
   refine⟨⟨k+1,by omega,hnx⟩,?_,by dsimp only;omega⟩
   repeat' ((conv=>whnf);first|refine Or.inl ?_|apply oi|(apply fi<;>intro h)|refine⟨_,rfl,?_⟩|((with_reducible show _=_);rfl))
   all_goals try((with_reducible refine Obl.mk ?_);exact KO)
   all_goals try exact⟨K2⟩
 ·have hge:s.length≤k:=by omega
  rw[List.take_of_length_le hge]at hp
  rw[hp]
  repeat' ((conv=>whnf);first|refine Or.inl ?_|apply oi|(apply fi<;>intro h)|refine ci (s_spec_l01In _ _ _) (ai rfl (ai rfl (ai rfl trivial))) ?_|refine⟨_,rfl,?_⟩|((with_reducible show _=_);rfl))
  all_goals try((with_reducible refine Obl.mk ?_);exact KO)
  all_goals try exact KX
def inlineOk (x:TInline):Bool:=decide (0≤x.fStart) && decide (x.fStart < x.fEnd) && decide (x.fEnd≤1000000) && within x.fLevel 0 2 && within x.fLine 0 59 && nameOk x.fName
theorem s_impl_inlineOk (x:TInline)(hl:x.fName.length≤1099511627775):Sim.Spec Tryz.prog 89 [.agg x.tr] (rB (inlineOk x)):=by
 refine spec_of_W hΓ hmix Tryz.func89 rfl (by decide) rfl ?_
 unfold inlineOk
 have hn:=s_impl_NameOk x.fName hl
 generalize nameOk x.fName=nb at *
 repeat' ((conv=>whnf);first|refine Or.inl ?_|apply oi|(apply fi<;>intro h)|refine ci (s_impl_between _ _ _) (ai rfl (ai rfl (ai rfl trivial))) ?_|refine ci hn (ai rfl trivial) ?_|refine⟨_,rfl,?_⟩|((with_reducible show _=_);rfl))
 all_goals try((with_reducible refine Obl.mk ?_);exact KO)
 all_goals(refine⟨congrArg Tr.bool ?_⟩;simp_all;try(intros;omega))
def holds (x y:TInline):Bool:=(y.fLevel==x.fLevel - 1) && decide (y.fStart≤x.fStart) && decide (x.fEnd≤y.fEnd)
def behind (p:Option TInline)(x:TInline):Prop:=match p with
 | none=>True
 | some p=>p.fLevel≤x.fLevel∧(p.fLevel=x.fLevel→p.fEnd≤x.fStart)
instance (p:Option TInline) (x:TInline):Decidable (behind p x):=by unfold behind;cases p <;> infer_instance
def inlOkAt (pre:List TInline)(x:TInline):Bool:=inlineOk x && decide (behind pre.getLast? x) && (x.fLevel==0 || pre.any (holds x))
def inlinesOkF:List TInline→List TInline→Bool
 | _,[]=>true
 | pre,x::l=>if inlOkAt pre x=true then inlinesOkF (pre++[x]) l else false
def inlinesOk (l:List TInline):Bool:=inlinesOkF [] l
theorem inlinesOk_at {l:List TInline}{k:Nat}{x:TInline}(hx:l[k]?=some x):inlinesOkF (l.take k) (l.drop k)=if inlOkAt (l.take k) x=true then inlinesOkF (l.take (k+1)) (l.drop (k+1))else false:=by
 rw[drop_at hx,inlinesOkF]
 congr 2
 rw[List.take_add_one,hx]
 rfl
theorem last_take {l:List TInline}{k:Nat}(hk:k≤l.length):(l.take k).getLast?=if k=0 then none else l[k - 1]?:=by
 rw[List.getLast?_eq_getElem?,List.length_take,Nat.min_eq_left hk]
 split
 ·subst k;simp
 ·rw[List.getElem?_take,if_pos (by omega)]
abbrev InlIx (l:List TInline)(R:Bool):={k:Nat // k≤l.length∧inlinesOkF (l.take k) (l.drop k)=R}
abbrev InIx (l:List TInline)(k:Nat)(x:TInline)(W:Bool):={q:Nat×Bool // q.1≤k∧(q.2 || ((l.take k).drop q.1).any (holds x))=W}
theorem any_at {l:List TInline}{k j:Nat}{x y:TInline}{b:Bool}(hj:j < k)(hy:l[j]?=some y):(b || ((l.take k).drop j).any (holds x))=((b || holds x y) || ((l.take k).drop (j+1)).any (holds x)):=by
 rw[drop_at (x:=y) (by rw[List.getElem?_take,if_pos hj];exact hy),List.any_cons,Bool.or_assoc]
theorem s_impl_InlinesOk (l:List TInline)(hl:l.length≤1048576)(hn:∀x∈l,x.fName.length≤1099511627775):Sim.Spec Tryz.prog 19 [tvL 5 (l.map TInline.tr)] (rB (inlinesOk l)):=by
 refine spec_of_W hΓ hmix Tryz.func19 rfl (by decide) rfl ?_
 have hlen:(l.map TInline.tr).length=l.length:=by simp
 obtain⟨R,hR⟩:∃R,inlinesOk l=R:=⟨_,rfl⟩
 rw[hR]
 repeat' ((conv=>whnf);first|refine Or.inl ?_|apply oi|(apply fi<;>intro h)|refine⟨_,rfl,?_⟩|((with_reducible show _=_);rfl))
 all_goals try((with_reducible refine Obl.mk ?_);exact KO)
 conv=>whnf
 refine⟨InlIx l R,fun k=>⟨[(0,.r (.c (.t (.lst 5 (l.map TInline.tr))))),(8,.r (.c (.t (.lst 5 (l.map TInline.tr))))),(9,tI .i64 ((l.map TInline.tr).length:Int)),(10,tI .i64 (k.1:Int))],[],[]⟩,fun k=>l.length - k.1,⟨0,by omega,hR⟩,?_,?_⟩
 ·skip
  repeat' ((conv=>whnf);first|refine Or.inl ?_|apply oi|(apply fi<;>intro h)|refine⟨_,rfl,?_⟩|((with_reducible show _=_);rfl))
  all_goals try((with_reducible refine Obl.mk ?_);exact KO)
 intro⟨k,hk,hr⟩
 dsimp only
 by_cases hlt:k < l.length
 ·obtain⟨x,hx⟩:=get_of_lt hlt
  rw[inlinesOk_at hx]at hr
  have hi:=s_impl_inlineOk x (hn x (List.mem_of_getElem? hx))
  have hw:0 < k→IntKind.i64.wrap (↑k - 1)=((k - 1:Nat):Int):=fun h=>by rw[IntWalk.i64_in _ (by omega)];omega
  have hlast:=last_take hk
  have htk:((l.map TInline.tr).take k).length=k:=by simp;omega
  cases hio:inlineOk x with
  | false=>
   rw[hio]at hi
   rw[if_neg (by unfold inlOkAt;rw[hio];simp)]at hr
   subst hr
   repeat' ((conv=>whnf);first|refine Or.inl ?_|apply oi|(apply fi<;>intro h)|refine⟨k,x.tr,rfl,map_get hx,?_⟩|refine ci hi (ai (ai rfl (ai rfl (ai rfl (ai rfl (ai rfl trivial))))) trivial) ?_|refine⟨_,rfl,?_⟩|((with_reducible show _=_);rfl))
   all_goals try((with_reducible refine Obl.mk ?_);exact KO)
   all_goals try exact KX
  | true=>
   rw[hio]at hi
   by_cases hbh:behind (l.take k).getLast? x
   ·have hcond:k=0∨(∃p,0 < k∧l[k - 1]?=some p∧p.fLevel < x.fLevel)∨(∃p,0 < k∧l[k - 1]?=some p∧p.fLevel=x.fLevel∧p.fEnd≤x.fStart):=by
     by_cases hk0:k=0
     ·exact .inl hk0
     ·obtain⟨p,hp⟩:=get_of_lt (l:=l) (k:=k - 1) (by omega)
      rw[hlast,if_neg hk0,hp]at hbh
      by_cases he:p.fLevel=x.fLevel
      ·exact .inr (.inr ⟨p,by omega,hp,he,hbh.2 he⟩)
      ·exact .inr (.inl ⟨p,by omega,hp,by have:=hbh.1;omega⟩)
    have hlv:0≤x.fLevel∧x.fLevel≤2:=by
     unfold inlineOk at hio
     simp only[Bool.and_eq_true]at hio
     exact within_iff.1 hio.1.1.2
    have hwl:IntKind.i64.wrap (x.fLevel - 1)=x.fLevel - 1:=IntWalk.i64_in _ (by omega)
    have hok:inlOkAt (l.take k) x=(x.fLevel==0 || (l.take k).any (holds x)):=by unfold inlOkAt;rw[hio,decide_eq_true hbh];simp
    rw[hok]at hr
    obtain⟨W,hW⟩:∃W,(x.fLevel==0 || (l.take k).any (holds x))=W:=⟨_,rfl⟩
    rw[hW]at hr
    have hlk:(((l.map TInline.tr).take k).drop 0).length=k:=by simp;omega
    rcases hcond with hk0|⟨p,hk0,hp,hb1⟩|⟨p,hk0,hp,hb1,hb2⟩
    all_goals
     repeat' ((conv=>whnf);first|refine Or.inl ?_|apply oi|(apply fi<;>intro h)|refine⟨k,x.tr,rfl,map_get hx,?_⟩|refine⟨(k - 1),p.tr,hw hk0,map_get hp,?_⟩|refine ci hi (ai (ai rfl (ai rfl (ai rfl (ai rfl (ai rfl trivial))))) trivial) ?_|refine⟨_,rfl,?_⟩|((with_reducible show _=_);rfl))
     all_goals try((with_reducible refine Obl.mk ?_);exact KO)
     all_goals try exact KX
     all_goals try(exfalso;(try simp_all[within]);(try omega);done)
     conv=>whnf
     refine⟨0,k,rfl,rfl,by omega,by omega,?_⟩
     repeat' ((conv=>whnf);first|refine Or.inl ?_|apply oi|(apply fi<;>intro h)|refine⟨_,rfl,?_⟩|((with_reducible show _=_);rfl))
     all_goals try((with_reducible refine Obl.mk ?_);exact KO)
     conv=>whnf
     refine⟨InIx l k x W,fun q=>⟨[(0,.r (.c (.t (.lst 5 (l.map TInline.tr))))),(8,.r (.c (.t (.lst 5 (l.map TInline.tr))))),(9,tI .i64 ((l.map TInline.tr).length:Int)),(10,tI .i64 (k:Int)),(4,.r (.c (.ptr (4,0,0) 0))),(5,tB q.1.2),(60,.r (.c (.t (.lst 5 (((l.map TInline.tr).take k).drop 0))))),(61,tI .i64 ((((l.map TInline.tr).take k).drop 0).length:Int)),(62,tI .i64 (q.1.1:Int))],[((4,0,0),some (.box (x.tr.map .t)))],[4]⟩,fun q=>k - q.1.1,⟨(0,x.fLevel==0),by simp,by simpa using hW⟩,?_,?_⟩
     ·skip
      repeat' ((conv=>whnf);first|refine Or.inl ?_|apply oi|(apply fi<;>intro h)|refine⟨_,rfl,?_⟩|((with_reducible show _=_);rfl))
      all_goals try((with_reducible refine Obl.mk ?_);exact KO)
     intro⟨⟨j,b⟩,hj,hwi⟩
     dsimp only at hj hwi ⊢
     by_cases hjk:j < k
     ·obtain⟨y,hy⟩:=get_of_lt (l:=l) (k:=j) (by omega)
      have hy':(((l.map TInline.tr).take k).drop 0)[j]?=some y.tr:=by rw[List.drop_zero,List.getElem?_take,if_pos hjk];exact map_get hy
      rw[any_at hjk hy]at hwi
      repeat' ((conv=>whnf);first|refine Or.inl ?_|apply oi|(apply fi<;>intro h)|refine⟨j,y.tr,rfl,hy',?_⟩|refine⟨_,rfl,?_⟩|((with_reducible show _=_);rfl))
      all_goals try((with_reducible refine Obl.mk ?_);exact KO)
      all_goals try exact KX
      all_goals
       conv=>whnf
       refine⟨⟨(j+1,b || holds x y),by dsimp only;omega,hwi⟩,?_,by dsimp only;omega⟩
       repeat' ((conv=>whnf);first|refine Or.inl ?_|apply oi|(apply fi<;>intro h)|refine⟨_,rfl,?_⟩|((with_reducible show _=_);rfl))
       all_goals try((with_reducible refine Obl.mk ?_);exact KO)
       all_goals try exact⟨K2⟩
       all_goals try(
        refine⟨congrArg Tr.bool ?_⟩
        unfold holds
        simp_all
        try(intros;omega)
        done)
     ·have hge:k≤j:=by omega
      rw[List.drop_eq_nil_of_le (by simp;omega),List.any_nil,Bool.or_false]at hwi
      subst hwi
      cases b with
      | false=>
       rw[if_neg (by simp)]at hr
       subst hr
       repeat' ((conv=>whnf);first|refine Or.inl ?_|apply oi|(apply fi<;>intro h)|refine⟨_,rfl,?_⟩|((with_reducible show _=_);rfl))
       all_goals try((with_reducible refine Obl.mk ?_);exact KO)
       all_goals try exact KX
       all_goals try(exfalso;(try simp_all[within]);(try omega);done)
      | true=>
       rw[if_pos rfl]at hr
       repeat' ((conv=>whnf);first|refine Or.inl ?_|apply oi|(apply fi<;>intro h)|refine⟨_,rfl,?_⟩|((with_reducible show _=_);rfl))
       all_goals try((with_reducible refine Obl.mk ?_);exact KO)
       all_goals try exact KX
       all_goals try(exfalso;(try simp_all[within]);(try omega);done)
       conv=>whnf
       refine⟨⟨k+1,by omega,hr⟩,?_,by dsimp only;omega⟩
       repeat' ((conv=>whnf);first|refine Or.inl ?_|apply oi|(apply fi<;>intro h)|refine⟨_,rfl,?_⟩|((with_reducible show _=_);rfl))
       all_goals try((with_reducible refine Obl.mk ?_);exact KO)
       all_goals try exact⟨K2⟩
   ·have hk0:0 < k:=by
     rcases Nat.eq_zero_or_pos k with h|h
     ·rw[hlast,if_pos h]at hbh
      exact absurd trivial hbh
     ·exact h
    obtain⟨p,hp⟩:=get_of_lt (l:=l) (k:=k - 1) (by omega)
    rw[if_neg (by unfold inlOkAt;rw[decide_eq_false hbh];simp)]at hr
    rw[hlast,if_neg (by omega),hp]at hbh
    subst hr
    unfold behind at hbh
    dsimp only at hbh
    by_cases he:p.fLevel=x.fLevel
    all_goals
     repeat' ((conv=>whnf);first|refine Or.inl ?_|apply oi|(apply fi<;>intro h)|refine⟨k,x.tr,rfl,map_get hx,?_⟩|refine⟨(k - 1),p.tr,hw hk0,map_get hp,?_⟩|refine ci hi (ai (ai rfl (ai rfl (ai rfl (ai rfl (ai rfl trivial))))) trivial) ?_|refine⟨_,rfl,?_⟩|((with_reducible show _=_);rfl))
     all_goals try((with_reducible refine Obl.mk ?_);exact KO)
     all_goals try exact KX
     all_goals try(exfalso;(try simp_all[within]);(try omega);done)
     all_goals try(exfalso;apply hbh;(try simp_all[within]);(try omega);done)
 ·have hge:l.length≤k:=by omega
  rw[List.drop_eq_nil_of_le hge,inlinesOkF]at hr
  subst hr
  repeat' ((conv=>whnf);first|refine Or.inl ?_|apply oi|(apply fi<;>intro h)|refine⟨_,rfl,?_⟩|((with_reducible show _=_);rfl))
  all_goals try((with_reducible refine Obl.mk ?_);exact KO)
  all_goals try exact KX
end Go.Proofs.YtjmplnfiabmalaaGreat
namespace Go.Proofs.YtjmplnfiabmalaaGreat
open Go.Sim
set_option maxRecDepth 100000
set_option maxHeartbeats 4000000
def tokOk (t:TTok):Bool:=
 if t.fKind=0 then within t.fNum 0 999 && t.fName==[]
 else if t.fKind=7 then within t.fNum 0 4 && nameOk t.fName
 else if t.fKind=1 then t.fNum==0 && nameOk t.fName
 else within t.fKind 2 6 && (t.fNum==0 && t.fName==[])
theorem s_impl_TokOk (t:TTok)(hl:t.fName.length≤1099511627775):Sim.Spec Tryz.prog 266 [.agg t.tr] (rB (tokOk t)):=by
 refine spec_of_W hΓ hmix Tryz.func266 rfl (by decide) rfl ?_
 have hN:=s_impl_NameOk t.fName hl
 unfold tokOk
 generalize nameOk t.fName=nb at *
 repeat' ((conv=>whnf);first|refine Or.inl ?_|apply oi|(apply fi<;>intro h)|refine ci (s_impl_between _ _ _) (ai rfl (ai rfl (ai rfl trivial))) ?_|refine ci hN (ai rfl trivial) ?_|refine⟨_,rfl,?_⟩|((with_reducible show _=_);rfl))
 all_goals try((with_reducible refine Obl.mk ?_);exact KO)
 all_goals(refine⟨congrArg Tr.bool ?_⟩;simp_all;try(intros;omega))
theorem s_spec_TokOk (t:TTok)(hl:t.fName.length≤1099511627775):Sim.Spec Tryz.prog 252 [.agg t.tr] (rB (tokOk t)):=by
 refine spec_of_W hΓ hmix Tryz.func252 rfl (by decide) rfl ?_
 have hN:=s_spec_NameOk t.fName hl
 unfold tokOk
 generalize nameOk t.fName=nb at *
 repeat' ((conv=>whnf);first|refine Or.inl ?_|apply oi|(apply fi<;>intro h)|refine ci (s_spec_l01In _ _ _) (ai rfl (ai rfl (ai rfl trivial))) ?_|refine ci hN (ai rfl trivial) ?_|refine⟨_,rfl,?_⟩|((with_reducible show _=_);rfl))
 all_goals try((with_reducible refine Obl.mk ?_);exact KO)
 all_goals(refine⟨congrArg Tr.bool ?_⟩;simp_all[within];(try(intros;omega));(try((repeat' split) <;> intros <;> omega)))
def arity (t:TTok):Int:=if tokOk t=false then -1 else if t.fKind=7 then t.fNum else if t.fKind=0∨t.fKind=1 then 0 else 2
theorem s_impl_Arity (t:TTok)(hl:t.fName.length≤1099511627775):Sim.Spec Tryz.prog 267 [.agg t.tr] (rI (arity t)):=by
 refine spec_of_W hΓ hmix Tryz.func267 rfl (by decide) rfl ?_
 have hT:=s_impl_TokOk t hl
 unfold arity
 generalize tokOk t=nb at *
 repeat' ((conv=>whnf);first|refine Or.inl ?_|apply oi|(apply fi<;>intro h)|refine ci hT (ai (ai rfl (ai rfl (ai rfl trivial))) trivial) ?_|refine⟨_,rfl,?_⟩|((with_reducible show _=_);rfl))
 all_goals try((with_reducible refine Obl.mk ?_);exact KO)
 all_goals(refine⟨congrArg (Tr.int _) ?_⟩;simp_all)
theorem s_spec_Arity (t:TTok)(hl:t.fName.length≤1099511627775):Sim.Spec Tryz.prog 253 [.agg t.tr] (rI (arity t)):=by
 refine spec_of_W hΓ hmix Tryz.func253 rfl (by decide) rfl ?_
 have hT:=s_spec_TokOk t hl
 unfold arity
 generalize tokOk t=nb at *
 repeat' ((conv=>whnf);first|refine Or.inl ?_|apply oi|(apply fi<;>intro h)|refine ci hT (ai (ai rfl (ai rfl (ai rfl trivial))) trivial) ?_|refine⟨_,rfl,?_⟩|((with_reducible show _=_);rfl))
 all_goals try((with_reducible refine Obl.mk ?_);exact KO)
 all_goals(refine⟨congrArg (Tr.int _) ?_⟩;simp_all)
def ar (t:TTok):Nat:=(arity t).toNat
theorem ar_eq {t:TTok}(h:tokOk t=true):arity t=(ar t:Int)∧ar t≤4:=by
 unfold ar arity
 rw[if_neg (by simp[h])]
 unfold tokOk at h
 split
 ·rename_i h7
  rw[if_neg (by omega),if_pos h7]at h
  simp only[Bool.and_eq_true,within_iff]at h
  omega
 ·split <;> omega
def endL:List TTok→Nat→Nat→Option Nat
 | _,p,0=>some p
 | [],_,_+1=>none
 | t::l,p,n+1=>if tokOk t=true then endL l (p+1) (n+ar t)else none
def endI (o:Option Nat):Int:=match o with|some e=>e|none=> -1
def exprEnd (l:List TTok)(p:Int):Int:=if 0≤p then endI (endL (l.drop p.toNat) p.toNat 1)else -1
theorem endL_at {l:List TTok}{p n:Nat}{t:TTok}(h:l[p]?=some t):endL (l.drop p) p (n+1)=if tokOk t=true then endL (l.drop (p+1)) (p+1) (n+ar t)else none:=by
 rw[drop_at h,endL]
abbrev EndIx (l:List TTok)(R:Int):={q:Nat×Nat // q.1≤l.length∧q.2≤1+4 * q.1∧endI (endL (l.drop q.1) q.1 q.2)=R}
def toksShort (l:List TTok):Prop:=∀t∈l,t.fName.length≤1099511627775
theorem s_impl_ExprEnd (l:List TTok)(p:Int)(hl:l.length≤1048576)(hn:toksShort l):Sim.Spec Tryz.prog 249 [tvL 3 (l.map TTok.tr),tvI p] (rI (exprEnd l p)):=by
 refine spec_of_W hΓ hmix Tryz.func249 rfl (by decide) rfl ?_
 have hlen:(l.map TTok.tr).length=l.length:=by simp
 have hw:IntKind.i64.wrap (((l.map TTok.tr).length:Int) - 1)=(l.length:Int) - 1:=by rw[IntWalk.i64_in _ (by omega)];omega
 by_cases hin:0≤p∧p < l.length
 ·have hb:=s_impl_between p 0 (IntKind.i64.wrap (((l.map TTok.tr).length:Int) - 1))
  rw[within_iff.2 ⟨hin.1,by rw[hw];omega⟩]at hb
  obtain⟨p,rfl⟩:=Int.eq_ofNat_of_zero_le hin.1
  obtain⟨R,hR⟩:∃R,exprEnd l (p:Int)=R:=⟨_,rfl⟩
  rw[hR]
  rw[exprEnd,if_pos hin.1,Int.toNat_natCast]at hR
  repeat' ((conv=>whnf);first|refine Or.inl ?_|apply oi|(apply fi<;>intro h)|refine ci hb (ai rfl (ai rfl (ai rfl trivial))) ?_|refine⟨_,rfl,?_⟩|((with_reducible show _=_);rfl))
  all_goals try((with_reducible refine Obl.mk ?_);exact KO)
  conv=>whnf
  refine⟨EndIx l R,fun q=>⟨[(0,.r (.c (.t (.lst 3 (l.map TTok.tr))))),(1,tI .i64 (q.1.1:Int)),(5,tI .i64 (q.1.2:Int))],[],[]⟩,fun q=>l.length - q.1.1,⟨(p,1),by omega,by omega,hR⟩,?_,?_⟩
  ·skip
   repeat' ((conv=>whnf);first|refine Or.inl ?_|apply oi|(apply fi<;>intro h)|refine⟨_,rfl,?_⟩|((with_reducible show _=_);rfl))
   all_goals try((with_reducible refine Obl.mk ?_);exact KO)
  intro⟨⟨a,n⟩,ha,hn4,hr⟩
  dsimp only at ha hn4 hr ⊢
  cases n with
  | zero=>
   have:R=(a:Int):=by
    rw[←hr]
    cases l.drop a <;> rfl
   subst this
   repeat' ((conv=>whnf);first|refine Or.inl ?_|apply oi|(apply fi<;>intro h)|refine⟨_,rfl,?_⟩|((with_reducible show _=_);rfl))
   all_goals try((with_reducible refine Obl.mk ?_);exact KO)
   all_goals try exact KX
  | succ n=>
   by_cases hlt:a < l.length
   ·obtain⟨t,ht⟩:=get_of_lt hlt
    rw[endL_at ht]at hr
    have hT:=s_impl_TokOk t (hn t (List.mem_of_getElem? ht))
    have hA:=s_impl_Arity t (hn t (List.mem_of_getElem? ht))
    cases hok:tokOk t with
    | false=>
     rw[hok]at hT
     rw[if_neg (by simp[hok])]at hr
     subst hr
     repeat' ((conv=>whnf);first|refine Or.inl ?_|apply oi|(apply fi<;>intro h)|refine⟨a,t.tr,rfl,map_get ht,?_⟩|refine ci hT (ai (ai rfl (ai rfl (ai rfl trivial))) trivial) ?_|refine⟨_,rfl,?_⟩|((with_reducible show _=_);rfl))
     all_goals try((with_reducible refine Obl.mk ?_);exact KO)
     all_goals try exact KX
    | true=>
     obtain⟨e1,e2⟩:=ar_eq hok
     rw[e1]at hA
     rw[hok]at hT
     rw[if_pos hok]at hr
     repeat' ((conv=>whnf);first|refine Or.inl ?_|apply oi|(apply fi<;>intro h)|refine⟨a,t.tr,rfl,map_get ht,?_⟩|refine ci hT (ai (ai rfl (ai rfl (ai rfl trivial))) trivial) ?_|refine ci hA (ai (ai rfl (ai rfl (ai rfl trivial))) trivial) ?_|refine⟨_,rfl,?_⟩|((with_reducible show _=_);rfl))
     all_goals try((with_reducible refine Obl.mk ?_);exact KO)
     all_goals try exact KX
     conv=>whnf
     refine⟨⟨(a+1,n+ar t),by dsimp only;omega,by dsimp only;omega,hr⟩,?_,by dsimp only;omega⟩
     repeat' ((conv=>whnf);first|refine Or.inl ?_|apply oi|(apply fi<;>intro h)|refine⟨_,rfl,?_⟩|((with_reducible show _=_);rfl))
     all_goals try((with_reducible refine Obl.mk ?_);exact KO)
     all_goals try exact⟨K2⟩
     all_goals try exact⟨by dsimp only;congr 1;rw[IntWalk.i64_in _ (by omega)];omega⟩
     all_goals exact⟨congrArg (Tr.int _) (by dsimp only;simp(disch:=omega)only[IntWalk.i64_in];omega)⟩
   ·rw[List.drop_eq_nil_of_le (by omega),endL]at hr
    subst hr
    repeat' ((conv=>whnf);first|refine Or.inl ?_|apply oi|(apply fi<;>intro h)|refine⟨_,rfl,?_⟩|((with_reducible show _=_);rfl))
    all_goals try((with_reducible refine Obl.mk ?_);exact KO)
    all_goals try exact KX
 ·have hb:=s_impl_between p 0 (IntKind.i64.wrap (((l.map TTok.tr).length:Int) - 1))
  have hf:within p 0 (IntKind.i64.wrap (((l.map TTok.tr).length:Int) - 1))=false:=by
   cases hx:within p 0 (IntKind.i64.wrap (((l.map TTok.tr).length:Int) - 1))with
   | false=>rfl
   | true=>have:=within_iff.1 hx;rw[hw]at this;exact absurd ⟨this.1,by omega⟩ hin
  rw[hf]at hb
  have he:exprEnd l p= -1:=by
   unfold exprEnd
   split
   ·rw[List.drop_eq_nil_of_le (by omega)];rfl
   ·rfl
  rw[he]
  repeat' ((conv=>whnf);first|refine Or.inl ?_|apply oi|(apply fi<;>intro h)|refine ci hb (ai rfl (ai rfl (ai rfl trivial))) ?_|refine⟨_,rfl,?_⟩|((with_reducible show _=_);rfl))
  all_goals try((with_reducible refine Obl.mk ?_);exact KO)
  all_goals(exfalso;simp at h;done)
theorem s_spec_ExprEnd (l:List TTok)(p:Int)(hl:l.length≤1048576)(hn:toksShort l):Sim.Spec Tryz.prog 231 [tvL 3 (l.map TTok.tr),tvI p] (rI (exprEnd l p)):=by
 refine spec_of_W hΓ hmix Tryz.func231 rfl (by decide) rfl ?_
 have hlen:(l.map TTok.tr).length=l.length:=by simp
 by_cases h0:0≤p
 ·obtain⟨p,rfl⟩:=Int.eq_ofNat_of_zero_le h0
  obtain⟨R,hR⟩:∃R,exprEnd l (p:Int)=R:=⟨_,rfl⟩
  rw[hR]
  rw[exprEnd,if_pos h0,Int.toNat_natCast]at hR
  by_cases hlp:p≤l.length
  ·skip
   repeat' ((conv=>whnf);first|refine Or.inl ?_|apply oi|(apply fi<;>intro h)|refine⟨_,rfl,?_⟩|((with_reducible show _=_);rfl))
   all_goals try((with_reducible refine Obl.mk ?_);exact KO)
   all_goals try exact KX
   conv=>whnf
   refine⟨EndIx l R,fun q=>⟨[(0,.r (.c (.t (.lst 3 (l.map TTok.tr))))),(1,tI .i64 (q.1.1:Int)),(5,tI .i64 (q.1.2:Int))],[],[]⟩,fun q=>l.length - q.1.1,⟨(p,1),by omega,by omega,hR⟩,?_,?_⟩
   ·skip
    repeat' ((conv=>whnf);first|refine Or.inl ?_|apply oi|(apply fi<;>intro h)|refine⟨_,rfl,?_⟩|((with_reducible show _=_);rfl))
    all_goals try((with_reducible refine Obl.mk ?_);exact KO)
   intro⟨⟨a,n⟩,ha,hn4,hr⟩
   dsimp only at ha hn4 hr ⊢
   cases n with
   | zero=>
    have:R=(a:Int):=by
     rw[←hr]
     cases l.drop a <;> rfl
    subst this
    repeat' ((conv=>whnf);first|refine Or.inl ?_|apply oi|(apply fi<;>intro h)|refine⟨_,rfl,?_⟩|((with_reducible show _=_);rfl))
    all_goals try((with_reducible refine Obl.mk ?_);exact KO)
    all_goals try exact KX
   | succ n=>
    by_cases hlt:a < l.length
    ·obtain⟨t,ht⟩:=get_of_lt hlt
     rw[endL_at ht]at hr
     have hT:=s_spec_TokOk t (hn t (List.mem_of_getElem? ht))
     have hA:=s_spec_Arity t (hn t (List.mem_of_getElem? ht))
     cases hok:tokOk t with
     | false=>
      rw[hok]at hT
      rw[if_neg (by simp[hok])]at hr
      subst hr
      repeat' ((conv=>whnf);first|refine Or.inl ?_|apply oi|(apply fi<;>intro h)|refine⟨a,t.tr,rfl,map_get ht,?_⟩|refine ci hT (ai (ai rfl (ai rfl (ai rfl trivial))) trivial) ?_|refine⟨_,rfl,?_⟩|((with_reducible show _=_);rfl))
      all_goals try((with_reducible refine Obl.mk ?_);exact KO)
      all_goals try exact KX
     | true=>
      obtain⟨e1,e2⟩:=ar_eq hok
      rw[e1]at hA
      rw[hok]at hT
      rw[if_pos hok]at hr
      repeat' ((conv=>whnf);first|refine Or.inl ?_|apply oi|(apply fi<;>intro h)|refine⟨a,t.tr,rfl,map_get ht,?_⟩|refine ci hT (ai (ai rfl (ai rfl (ai rfl trivial))) trivial) ?_|refine ci hA (ai (ai rfl (ai rfl (ai rfl trivial))) trivial) ?_|refine⟨_,rfl,?_⟩|((with_reducible show _=_);rfl))
      all_goals try((with_reducible refine Obl.mk ?_);exact KO)
      all_goals try exact KX
      conv=>whnf
      refine⟨⟨(a+1,n+ar t),by dsimp only;omega,by dsimp only;omega,hr⟩,?_,by dsimp only;omega⟩
      repeat' ((conv=>whnf);first|refine Or.inl ?_|apply oi|(apply fi<;>intro h)|refine⟨_,rfl,?_⟩|((with_reducible show _=_);rfl))
      all_goals try((with_reducible refine Obl.mk ?_);exact KO)
      all_goals try exact⟨K2⟩
      all_goals try exact⟨by dsimp only;congr 1;rw[IntWalk.i64_in _ (by omega)];omega⟩
      all_goals exact⟨congrArg (Tr.int _) (by dsimp only;simp(disch:=omega)only[IntWalk.i64_in];omega)⟩
    ·rw[List.drop_eq_nil_of_le (by omega),endL]at hr
     subst hr
     repeat' ((conv=>whnf);first|refine Or.inl ?_|apply oi|(apply fi<;>intro h)|refine⟨_,rfl,?_⟩|((with_reducible show _=_);rfl))
     all_goals try((with_reducible refine Obl.mk ?_);exact KO)
     all_goals try exact KX
  ·rw[List.drop_eq_nil_of_le (by omega),endL]at hR
   subst hR
   repeat' ((conv=>whnf);first|refine Or.inl ?_|apply oi|(apply fi<;>intro h)|refine⟨_,rfl,?_⟩|((with_reducible show _=_);rfl))
   all_goals try((with_reducible refine Obl.mk ?_);exact KO)
   all_goals try exact KX
   conv=>whnf
   refine⟨Unit,fun q=>⟨[(0,.r (.c (.t (.lst 3 (l.map TTok.tr))))),(1,tI .i64 (p:Int)),(5,tI .i64 1)],[],[]⟩,fun q=>0,(),?_,?_⟩
   ·skip
    repeat' ((conv=>whnf);first|refine Or.inl ?_|apply oi|(apply fi<;>intro h)|refine⟨_,rfl,?_⟩|((with_reducible show _=_);rfl))
    all_goals try((with_reducible refine Obl.mk ?_);exact KO)
   intro q
   repeat' ((conv=>whnf);first|refine Or.inl ?_|apply oi|(apply fi<;>intro h)|refine⟨_,rfl,?_⟩|((with_reducible show _=_);rfl))
   all_goals try((with_reducible refine Obl.mk ?_);exact KO)
   all_goals try exact KX
 ·have he:exprEnd l p= -1:=by rw[exprEnd,if_neg h0]
  rw[he]
  repeat' ((conv=>whnf);first|refine Or.inl ?_|apply oi|(apply fi<;>intro h)|refine⟨_,rfl,?_⟩|((with_reducible show _=_);rfl))
  all_goals try((with_reducible refine Obl.mk ?_);exact KO)
  all_goals try exact KX
def exprOk (l:List TTok):Bool:=decide (l.length≤20) && (decide (0 < l.length) && exprEnd l 0==(l.length:Int))
theorem s_impl_ExprOk (l:List TTok)(hl:l.length≤1048576)(hn:toksShort l):Sim.Spec Tryz.prog 210 [tvL 3 (l.map TTok.tr)] (rB (exprOk l)):=by
 refine spec_of_W hΓ hmix Tryz.func210 rfl (by decide) rfl ?_
 have hlen:(l.map TTok.tr).length=l.length:=by simp
 have hE:=s_impl_ExprEnd l 0 hl hn
 unfold exprOk
 generalize exprEnd l 0=e at *
 repeat' ((conv=>whnf);first|refine Or.inl ?_|apply oi|(apply fi<;>intro h)|refine ci hE (ai rfl (ai rfl trivial)) ?_|refine⟨_,rfl,?_⟩|((with_reducible show _=_);rfl))
 all_goals try((with_reducible refine Obl.mk ?_);exact KO)
 all_goals(refine⟨congrArg Tr.bool ?_⟩;simp_all;try omega)
theorem s_spec_ExprOk (l:List TTok)(hl:l.length≤1048576)(hn:toksShort l):Sim.Spec Tryz.prog 175 [tvL 3 (l.map TTok.tr)] (rB (exprOk l)):=by
 refine spec_of_W hΓ hmix Tryz.func175 rfl (by decide) rfl ?_
 have hlen:(l.map TTok.tr).length=l.length:=by simp
 have hE:=s_spec_ExprEnd l 0 hl hn
 unfold exprOk
 generalize exprEnd l 0=e at *
 repeat' ((conv=>whnf);first|refine Or.inl ?_|apply oi|(apply fi<;>intro h)|refine ci hE (ai rfl (ai rfl trivial)) ?_|refine⟨_,rfl,?_⟩|((with_reducible show _=_);rfl))
 all_goals try((with_reducible refine Obl.mk ?_);exact KO)
 all_goals(refine⟨congrArg Tr.bool ?_⟩;simp_all;try omega)
end Go.Proofs.YtjmplnfiabmalaaGreat
namespace Go.Proofs.YtjmplnfiabmalaaGreat
open Go.Sim
set_option maxRecDepth 100000
set_option maxHeartbeats 4000000
def idxN {α:Type}[BEq α]:List α→Nat→α→Option Nat
 | [],_,_=>none
 | x::l,i,s=>if(x==s)=true then some i else idxN l (i+1) s
theorem idxN_at {α:Type}[BEq α]{l:List α}{i:Nat}{x s:α}(hx:l[i]?=some x):idxN (l.drop i) i s=if(x==s)=true then some i else idxN (l.drop (i+1)) (i+1) s:=by
 rw[drop_at hx,idxN]
theorem idxN_some {α:Type}[BEq α]:∀{l:List α} {i k:Nat} {s:α},idxN l i s=some k→i≤k∧k < i+l.length
 | [],_,_,_,h=>by rw[idxN]at h;cases h
 | x::l,i,k,s,h=>by
  rw[idxN]at h
  simp only[List.length_cons]
  split at h
  ·injection h with h;omega
  ·have:=idxN_some h;omega
theorem idxN_has {α:Type}[BEq α][LawfulBEq α]:∀{l:List α} {i:Nat} {s:α},(idxN l i s).isSome=l.contains s
 | [],_,_=>rfl
 | x::l,i,s=>by
  rw[idxN,List.contains_cons]
  cases h:(x==s)with
  | true=>rw[if_pos rfl];simp[eq_of_beq h]
  | false=>
   have h2:(s==x)=false:=by rw[beq_eq_false_iff_ne]at h ⊢;exact fun e=>h e.symm
   rw[if_neg (by simp),h2,Bool.false_or]
   exact idxN_has
def idxOf {α:Type}[BEq α](l:List α)(s:α):Int:=endI (idxN l 0 s)
theorem idxOf_has {α:Type}[BEq α][LawfulBEq α]{l:List α}{s:α}:decide (0≤idxOf l s)=l.contains s:=by
 rw[←idxN_has (i:=0),idxOf]
 cases idxN l 0 s with
 | none=>rfl
 | some k=>simp[endI]
theorem s_slices_IndexS (l:List (List UInt8))(s:List UInt8)(hl:l.length≤4194304):Sim.Spec Tryz.prog 265 [tvL 1 (l.map strRow),tvS s] (rI (idxOf l s)):=by
 refine spec_of_W hΓ hmix Tryz.func265 rfl (by decide) rfl ?_
 have hlen:(l.map strRow).length=l.length:=by simp
 obtain⟨R,hR⟩:∃R,idxOf l s=R:=⟨_,rfl⟩
 rw[hR]
 repeat' ((conv=>whnf);first|refine Or.inl ?_|apply oi|(apply fi<;>intro h)|refine⟨_,rfl,?_⟩|((with_reducible show _=_);rfl))
 all_goals try((with_reducible refine Obl.mk ?_);exact KO)
 conv=>whnf
 refine⟨{k:Nat // k≤l.length∧endI (idxN (l.drop k) k s)=R},fun k=>⟨[(0,.r (.c (.t (.lst 1 (l.map strRow))))),(1,tS s),(6,.r (.c (.t (.lst 1 (l.map strRow))))),(7,tI .i64 ((l.map strRow).length:Int)),(8,tI .i64 (k.1:Int))],[],[]⟩,fun k=>l.length - k.1,⟨0,by omega,hR⟩,?_,?_⟩
 ·skip
  repeat' ((conv=>whnf);first|refine Or.inl ?_|apply oi|(apply fi<;>intro h)|refine⟨_,rfl,?_⟩|((with_reducible show _=_);rfl))
  all_goals try((with_reducible refine Obl.mk ?_);exact KO)
 intro⟨k,hk,hr⟩
 dsimp only at hk hr ⊢
 by_cases hlt:k < l.length
 ·obtain⟨x,hx⟩:=get_of_lt hlt
  rw[idxN_at hx]at hr
  cases he:(x==s)with
  | true=>
   rw[he,if_pos rfl]at hr
   have he2:=eq_of_beq he
   subst he2
   subst hr
   repeat' ((conv=>whnf);first|refine Or.inl ?_|apply oi|(apply fi<;>intro h)|refine⟨k,(strRow x),rfl,map_get hx,?_⟩|refine⟨_,rfl,?_⟩|((with_reducible show _=_);rfl))
   all_goals try((with_reducible refine Obl.mk ?_);exact KO)
   all_goals try exact KX
   all_goals try(exfalso;(try simp_all[within]);(try omega);done)
  | false=>
   rw[he,if_neg (by simp)]at hr
   repeat' ((conv=>whnf);first|refine Or.inl ?_|apply oi|(apply fi<;>intro h)|refine⟨k,(strRow x),rfl,map_get hx,?_⟩|refine⟨_,rfl,?_⟩|((with_reducible show _=_);rfl))
   all_goals try((with_reducible refine Obl.mk ?_);exact KO)
   all_goals try exact KX
   all_goals try(exfalso;(try simp_all[within]);(try omega);done)
   conv=>whnf
   refine⟨⟨k+1,by omega,hr⟩,?_,by dsimp only;omega⟩
   repeat' ((conv=>whnf);first|refine Or.inl ?_|apply oi|(apply fi<;>intro h)|refine⟨_,rfl,?_⟩|((with_reducible show _=_);rfl))
   all_goals try((with_reducible refine Obl.mk ?_);exact KO)
   all_goals try exact⟨K2⟩
 ·rw[List.drop_eq_nil_of_le (by omega),idxN]at hr
  subst hr
  repeat' ((conv=>whnf);first|refine Or.inl ?_|apply oi|(apply fi<;>intro h)|refine⟨_,rfl,?_⟩|((with_reducible show _=_);rfl))
  all_goals try((with_reducible refine Obl.mk ?_);exact KO)
  all_goals try exact KX
theorem s_slices_ContainsS (l:List (List UInt8))(s:List UInt8)(hl:l.length≤4194304):Sim.Spec Tryz.prog 248 [tvL 1 (l.map strRow),tvS s] (rB (l.contains s)):=by
 refine spec_of_W hΓ hmix Tryz.func248 rfl (by decide) rfl ?_
 have hI:=s_slices_IndexS l s hl
 rw[←idxOf_has]
 generalize idxOf l s=e at *
 repeat' ((conv=>whnf);first|refine Or.inl ?_|apply oi|(apply fi<;>intro h)|refine ci hI (ai rfl (ai rfl trivial)) ?_|refine⟨_,rfl,?_⟩|((with_reducible show _=_);rfl))
 all_goals try((with_reducible refine Obl.mk ?_);exact KO)
theorem s_slices_IndexI (l:List Int)(s:Int)(hl:l.length≤4194304):Sim.Spec Tryz.prog 214 [tvL 1 (l.map intRow),tvI s] (rI (idxOf l s)):=by
 refine spec_of_W hΓ hmix Tryz.func214 rfl (by decide) rfl ?_
 have hlen:(l.map intRow).length=l.length:=by simp
 obtain⟨R,hR⟩:∃R,idxOf l s=R:=⟨_,rfl⟩
 rw[hR]
 repeat' ((conv=>whnf);first|refine Or.inl ?_|apply oi|(apply fi<;>intro h)|refine⟨_,rfl,?_⟩|((with_reducible show _=_);rfl))
 all_goals try((with_reducible refine Obl.mk ?_);exact KO)
 conv=>whnf
 refine⟨{k:Nat // k≤l.length∧endI (idxN (l.drop k) k s)=R},fun k=>⟨[(0,.r (.c (.t (.lst 1 (l.map intRow))))),(1,tI .i64 s),(6,.r (.c (.t (.lst 1 (l.map intRow))))),(7,tI .i64 ((l.map intRow).length:Int)),(8,tI .i64 (k.1:Int))],[],[]⟩,fun k=>l.length - k.1,⟨0,by omega,hR⟩,?_,?_⟩
 ·skip
  repeat' ((conv=>whnf);first|refine Or.inl ?_|apply oi|(apply fi<;>intro h)|refine⟨_,rfl,?_⟩|((with_reducible show _=_);rfl))
  all_goals try((with_reducible refine Obl.mk ?_);exact KO)
 intro⟨k,hk,hr⟩
 dsimp only at hk hr ⊢
 by_cases hlt:k < l.length
 ·obtain⟨x,hx⟩:=get_of_lt hlt
  rw[idxN_at hx]at hr
  cases he:(x==s)with
  | true=>
   rw[he,if_pos rfl]at hr
   have he2:=eq_of_beq he
   subst he2
   subst hr
   repeat' ((conv=>whnf);first|refine Or.inl ?_|apply oi|(apply fi<;>intro h)|refine⟨k,(intRow x),rfl,map_get hx,?_⟩|refine⟨_,rfl,?_⟩|((with_reducible show _=_);rfl))
   all_goals try((with_reducible refine Obl.mk ?_);exact KO)
   all_goals try exact KX
   all_goals try(exfalso;(try simp_all[within]);(try omega);done)
  | false=>
   rw[he,if_neg (by simp)]at hr
   repeat' ((conv=>whnf);first|refine Or.inl ?_|apply oi|(apply fi<;>intro h)|refine⟨k,(intRow x),rfl,map_get hx,?_⟩|refine⟨_,rfl,?_⟩|((with_reducible show _=_);rfl))
   all_goals try((with_reducible refine Obl.mk ?_);exact KO)
   all_goals try exact KX
   all_goals try(exfalso;(try simp_all[within]);(try omega);done)
   conv=>whnf
   refine⟨⟨k+1,by omega,hr⟩,?_,by dsimp only;omega⟩
   repeat' ((conv=>whnf);first|refine Or.inl ?_|apply oi|(apply fi<;>intro h)|refine⟨_,rfl,?_⟩|((with_reducible show _=_);rfl))
   all_goals try((with_reducible refine Obl.mk ?_);exact KO)
   all_goals try exact⟨K2⟩
 ·rw[List.drop_eq_nil_of_le (by omega),idxN]at hr
  subst hr
  repeat' ((conv=>whnf);first|refine Or.inl ?_|apply oi|(apply fi<;>intro h)|refine⟨_,rfl,?_⟩|((with_reducible show _=_);rfl))
  all_goals try((with_reducible refine Obl.mk ?_);exact KO)
  all_goals try exact KX
theorem s_slices_ContainsI (l:List Int)(s:Int)(hl:l.length≤4194304):Sim.Spec Tryz.prog 157 [tvL 1 (l.map intRow),tvI s] (rB (l.contains s)):=by
 refine spec_of_W hΓ hmix Tryz.func157 rfl (by decide) rfl ?_
 have hI:=s_slices_IndexI l s hl
 rw[←idxOf_has]
 generalize idxOf l s=e at *
 repeat' ((conv=>whnf);first|refine Or.inl ?_|apply oi|(apply fi<;>intro h)|refine ci hI (ai rfl (ai rfl trivial)) ?_|refine⟨_,rfl,?_⟩|((with_reducible show _=_);rfl))
 all_goals try((with_reducible refine Obl.mk ?_);exact KO)
def argN (l:List (List UInt8)):Nat→Nat→Bool
 | 0,_=>true
 | n+1,k=>match l[k]? with
  | some s=>if nameOk s=true∧(l.take k).contains s=false then argN l n (k+1)else false
  | none=>true
theorem argN_step {l:List (List UInt8)}{k:Nat}{s:List UInt8}(hx:l[k]?=some s):argN l (l.length - k) k=if nameOk s=true∧(l.take k).contains s=false then argN l (l.length - (k+1)) (k+1)else false:=by
 have hk:k < l.length:=by
  rcases Nat.lt_or_ge k l.length with h|h
  ·exact h
  ·rw[List.getElem?_eq_none h]at hx;cases hx
 rw[show l.length - k=(l.length - (k+1))+1 by omega,argN,hx]
def areArgs (l:List (List UInt8)):Bool:=argN l l.length 0 && decide (l.length≤4)
theorem s_impl_areArgs (l:List (List UInt8))(hl:l.length≤1048576)(hn:∀x∈l,x.length≤1099511627775):Sim.Spec Tryz.prog 208 [tvL 1 (l.map strRow)] (rB (areArgs l)):=by
 refine spec_of_W hΓ hmix Tryz.func208 rfl (by decide) rfl ?_
 have hlen:(l.map strRow).length=l.length:=by simp
 obtain⟨R,hR⟩:∃R,areArgs l=R:=⟨_,rfl⟩
 rw[hR]
 repeat' ((conv=>whnf);first|refine Or.inl ?_|apply oi|(apply fi<;>intro h)|refine⟨_,rfl,?_⟩|((with_reducible show _=_);rfl))
 all_goals try((with_reducible refine Obl.mk ?_);exact KO)
 conv=>whnf
 refine⟨{k:Nat // k≤l.length∧(argN l (l.length - k) k && decide (l.length≤4))=R},fun k=>⟨[(0,.r (.c (.t (.lst 1 (l.map strRow))))),(5,.r (.c (.t (.lst 1 (l.map strRow))))),(6,tI .i64 ((l.map strRow).length:Int)),(7,tI .i64 (k.1:Int))],[],[]⟩,fun k=>l.length - k.1,⟨0,by omega,by rw[Nat.sub_zero];exact hR⟩,?_,?_⟩
 ·skip
  repeat' ((conv=>whnf);first|refine Or.inl ?_|apply oi|(apply fi<;>intro h)|refine⟨_,rfl,?_⟩|((with_reducible show _=_);rfl))
  all_goals try((with_reducible refine Obl.mk ?_);exact KO)
 intro⟨k,hk,hr⟩
 dsimp only at hk hr ⊢
 by_cases hlt:k < l.length
 ·obtain⟨s,hs⟩:=get_of_lt hlt
  rw[argN_step hs]at hr
  have hN:=s_impl_NameOk s (hn s (List.mem_of_getElem? hs))
  have hC:=s_slices_ContainsS (l.take k) s (by simp;omega)
  cases hno:nameOk s with
  | false=>
   rw[hno]at hN hr
   rw[if_neg (by simp),Bool.false_and]at hr
   subst hr
   repeat' ((conv=>whnf);first|refine Or.inl ?_|apply oi|(apply fi<;>intro h)|refine⟨k,(strRow s),rfl,map_get hs,?_⟩|refine ci hN (ai rfl trivial) ?_|refine⟨_,rfl,?_⟩|((with_reducible show _=_);rfl))
   all_goals try((with_reducible refine Obl.mk ?_);exact KO)
   all_goals try exact KX
   all_goals try(exfalso;(try simp_all[within]);(try omega);done)
  | true=>
   rw[hno]at hN hr
   cases hco:(l.take k).contains s with
   | true=>
    rw[hco]at hC hr
    rw[if_neg (by simp),Bool.false_and]at hr
    subst hr
    rw[List.map_take]at hC
    repeat' ((conv=>whnf);first|refine Or.inl ?_|apply oi|(apply fi<;>intro h)|refine⟨k,(strRow s),rfl,map_get hs,?_⟩|refine ci hN (ai rfl trivial) ?_|refine⟨_,rfl,?_⟩|((with_reducible show _=_);rfl))
    all_goals try((with_reducible refine Obl.mk ?_);exact KO)
    all_goals try exact KX
    all_goals try(exfalso;(try simp_all[within]);(try omega);done)
    conv=>whnf
    refine⟨0,k,rfl,rfl,by omega,by omega,?_⟩
    repeat' ((conv=>whnf);first|refine Or.inl ?_|apply oi|(apply fi<;>intro h)|refine ci hC (ai rfl (ai rfl trivial)) ?_|refine⟨_,rfl,?_⟩|((with_reducible show _=_);rfl))
    all_goals try((with_reducible refine Obl.mk ?_);exact KO)
   | false=>
    rw[hco]at hC hr
    rw[if_pos ⟨rfl,rfl⟩]at hr
    rw[List.map_take]at hC
    repeat' ((conv=>whnf);first|refine Or.inl ?_|apply oi|(apply fi<;>intro h)|refine⟨k,(strRow s),rfl,map_get hs,?_⟩|refine ci hN (ai rfl trivial) ?_|refine⟨_,rfl,?_⟩|((with_reducible show _=_);rfl))
    all_goals try((with_reducible refine Obl.mk ?_);exact KO)
    all_goals try exact KX
    all_goals try(exfalso;(try simp_all[within]);(try omega);done)
    conv=>whnf
    refine⟨0,k,rfl,rfl,by omega,by omega,?_⟩
    repeat' ((conv=>whnf);first|refine Or.inl ?_|apply oi|(apply fi<;>intro h)|refine ci hC (ai rfl (ai rfl trivial)) ?_|refine⟨_,rfl,?_⟩|((with_reducible show _=_);rfl))
    all_goals try((with_reducible refine Obl.mk ?_);exact KO)
    all_goals try exact KX
    all_goals try(exfalso;(try simp_all[within]);(try omega);done)
    conv=>whnf
    refine⟨⟨k+1,by omega,hr⟩,?_,by dsimp only;omega⟩
    repeat' ((conv=>whnf);first|refine Or.inl ?_|apply oi|(apply fi<;>intro h)|refine⟨_,rfl,?_⟩|((with_reducible show _=_);rfl))
    all_goals try((with_reducible refine Obl.mk ?_);exact KO)
    all_goals try exact⟨K2⟩
 ·rw[show l.length - k=0 by omega,argN,Bool.true_and]at hr
  subst hr
  repeat' ((conv=>whnf);first|refine Or.inl ?_|apply oi|(apply fi<;>intro h)|refine⟨_,rfl,?_⟩|((with_reducible show _=_);rfl))
  all_goals try((with_reducible refine Obl.mk ?_);exact KO)
  all_goals try exact KX
  all_goals exact⟨congrArg Tr.bool (decide_eq_decide.2 (by rw[hlen];omega))⟩
def hasExpr (k:Int):Bool:=k==1 || (k==2 || (k==3 || (k==5 || k==6)))
theorem s_impl_hasExpr (k:Int):Sim.Spec Tryz.prog 209 [tvI k] (rB (hasExpr k)):=by
 refine spec_of_W hΓ hmix Tryz.func209 rfl (by decide) rfl ?_
 unfold hasExpr
 repeat' ((conv=>whnf);first|refine Or.inl ?_|apply oi|(apply fi<;>intro h)|refine⟨_,rfl,?_⟩|((with_reducible show _=_);rfl))
 all_goals try((with_reducible refine Obl.mk ?_);exact KO)
 all_goals(refine⟨congrArg Tr.bool ?_⟩;simp_all;(try(rw[Bool.eq_iff_iff];simp;omega)))
theorem s_spec_l03HasExpr (k:Int)(hk:within k 0 7=true):Sim.Spec Tryz.prog 174 [tvI k] (rB (hasExpr k)):=by
 refine spec_of_W hΓ hmix Tryz.func174 rfl (by decide) rfl ?_
 have:=within_iff.1 hk
 unfold hasExpr
 repeat' ((conv=>whnf);first|refine Or.inl ?_|apply oi|(apply fi<;>intro h)|refine⟨_,rfl,?_⟩|((with_reducible show _=_);rfl))
 all_goals try((with_reducible refine Obl.mk ?_);exact KO)
 all_goals(refine⟨congrArg Tr.bool ?_⟩;simp_all;(try(rw[Bool.eq_iff_iff];simp;done));(try(rw[Bool.eq_iff_iff];simp;omega)))
def lineOk (x:TLine):Bool:=within x.fKind 0 7 && ((if x.fKind=0∨x.fKind=1 then nameOk x.fName else x.fName==[]) && ((if x.fKind=0 then areArgs x.fArgs else x.fArgs.length==0) && (if hasExpr x.fKind=true then exprOk x.fExpr else x.fExpr.length==0)))
theorem line_small {x:TLine}(hs:smallR 1048576 x.tr):x.fName.length≤1048576∧x.fArgs.length≤1048576∧(∀y∈x.fArgs,y.length≤1048576)∧x.fExpr.length≤1048576∧(∀y∈x.fExpr,y.fName.length≤1048576):=by
 simp only[TLine.tr,smallR]at hs
 obtain⟨_,h1,h2,h3,_⟩:=hs
 have e1:=small_len h2
 have e2:=small_len h3
 refine⟨by rw[smallT]at h1;omega,by omega,fun y hy=>?_,by omega,fun y hy=>?_⟩
 ·have:=smallRs_map h2 hy
  simp only[strRow,smallR,smallT]at this
  omega
 ·have:=smallRs_map h3 hy
  simp only[TTok.tr,smallR,smallT]at this
  omega
theorem lineOk_kind {x:TLine}(h:within x.fKind 0 7=false):lineOk x=false:=by
 unfold lineOk;rw[h];rfl
theorem lineOk_args {x:TLine}(h:4 < x.fArgs.length):lineOk x=false:=by
 have h1:areArgs x.fArgs=false:=by unfold areArgs;rw[decide_eq_false (by omega),Bool.and_false]
 have h2:(x.fArgs.length==0)=false:=by rw[beq_eq_false_iff_ne];omega
 unfold lineOk
 rw[h1,h2]
 split <;> simp
theorem s_impl_LineOk (x:TLine)(hs:smallR 1048576 x.tr):Sim.Spec Tryz.prog 152 [.agg x.tr] (rB (lineOk x)):=by
 refine spec_of_W hΓ hmix Tryz.func152 rfl (by decide) rfl ?_
 obtain⟨h1,h2,h3,h4,h5⟩:=line_small hs
 have hB:=s_impl_between x.fKind 0 7
 have hN:=s_impl_NameOk x.fName (by omega)
 have hA:=s_impl_areArgs x.fArgs h2 (fun y hy=>by have:=h3 y hy;omega)
 have hH:=s_impl_hasExpr x.fKind
 have hE:=s_impl_ExprOk x.fExpr h4 (fun y hy=>by have:=h5 y hy;omega)
 unfold lineOk
 generalize within x.fKind 0 7=b1 at *
 generalize nameOk x.fName=b2 at *
 generalize areArgs x.fArgs=b3 at *
 generalize hasExpr x.fKind=b4 at *
 generalize exprOk x.fExpr=b5 at *
 have hl1:(x.fArgs.map strRow).length=x.fArgs.length:=by simp
 have hl2:(x.fExpr.map TTok.tr).length=x.fExpr.length:=by simp
 repeat' ((conv=>whnf);first|refine Or.inl ?_|apply oi|(apply fi<;>intro h)|refine ci hB (ai rfl (ai rfl (ai rfl trivial))) ?_|refine ci hN (ai rfl trivial) ?_|refine ci hA (ai rfl trivial) ?_|refine ci hH (ai rfl trivial) ?_|refine ci hE (ai rfl trivial) ?_|refine⟨_,rfl,?_⟩|((with_reducible show _=_);rfl))
 all_goals try((with_reducible refine Obl.mk ?_);exact KO)
 all_goals(refine⟨congrArg Tr.bool ?_⟩;simp_all;(try(rw[Bool.eq_iff_iff];simp;done));(try(rw[Bool.eq_iff_iff];simp;omega));(try(intro hh;exfalso;simp_all;done)))
theorem drop_has {l:List (List UInt8)}{k i:Nat}{y s:List UInt8}(hi:i < k)(hy:l[i]?=some y):((l.take k).drop i).contains s=(s==y || ((l.take k).drop (i+1)).contains s):=by
 rw[drop_at (x:=y) (by rw[List.getElem?_take,if_pos hi];exact hy),List.contains_cons]
theorem lineOk_0 {x:TLine}(hk:within x.fKind 0 7=true)(h0:x.fKind=0)(ha:x.fArgs.length≤4):lineOk x=(argN x.fArgs x.fArgs.length 0 && (nameOk x.fName && x.fExpr.length==0)):=by
 unfold lineOk areArgs
 rw[hk,if_pos (.inl h0),if_pos h0,if_neg (by rw[h0];decide),decide_eq_true ha]
 cases nameOk x.fName <;> cases argN x.fArgs x.fArgs.length 0 <;> simp
theorem lineOk_1 {x:TLine}(hk:within x.fKind 0 7=true)(h0:x.fKind≠0):lineOk x=(x.fArgs.length==0 && ((if x.fKind=1 then nameOk x.fName else x.fName==[]) && (if hasExpr x.fKind=true then exprOk x.fExpr else x.fExpr.length==0))):=by
 have e:(if x.fKind=0∨x.fKind=1 then nameOk x.fName else x.fName==[])=(if x.fKind=1 then nameOk x.fName else x.fName==[]):=by
  by_cases h1:x.fKind=1
  ·rw[if_pos (.inr h1),if_pos h1]
  ·rw[if_neg (by omega),if_neg h1]
 unfold lineOk
 rw[hk,if_neg h0,e,Bool.true_and]
 generalize(if x.fKind=1 then nameOk x.fName else x.fName==[])=a
 generalize(if hasExpr x.fKind=true then exprOk x.fExpr else x.fExpr.length==0)=b
 cases a <;> cases(x.fArgs.length==0) <;> simp
theorem natBeq0 (n:Nat):((n:Int)==0)=(n==0):=by rw[Bool.eq_iff_iff];simp
abbrev lBox (x:TLine):AO:= .box (x.tr.map .t)
theorem s_spec_LineOk (x:TLine)(hs:smallR 1048576 x.tr):Sim.Spec Tryz.prog 118 [.agg x.tr] (rB (lineOk x)):=by
 refine spec_of_W hΓ hmix Tryz.func118 rfl (by decide) rfl ?_
 obtain⟨h1,h2,h3,h4,h5⟩:=line_small hs
 have hB:=s_spec_l01In x.fKind 0 7
 have hN:=s_spec_NameOk x.fName (by omega)
 have hE:=s_spec_ExprOk x.fExpr h4 (fun y hy=>by have:=h5 y hy;omega)
 have hl1:(x.fArgs.map strRow).length=x.fArgs.length:=by simp
 have hl2:(x.fExpr.map TTok.tr).length=x.fExpr.length:=by simp
 cases hk:within x.fKind 0 7 with
 | false=>
  rw[hk]at hB
  rw[lineOk_kind hk]
  repeat' ((conv=>whnf);first|refine Or.inl ?_|apply oi|(apply fi<;>intro h)|refine ci hB (ai rfl (ai rfl (ai rfl trivial))) ?_|refine⟨_,rfl,?_⟩|((with_reducible show _=_);rfl))
  all_goals try((with_reducible refine Obl.mk ?_);exact KO)
  all_goals try exact KX
 | true=>
  rw[hk]at hB
  have hH:=s_spec_l03HasExpr x.fKind hk
  by_cases ha:x.fArgs.length≤4
  ·by_cases h0:x.fKind=0
   ·rw[lineOk_0 hk h0 ha]
    generalize nameOk x.fName=b2 at *
    generalize exprOk x.fExpr=b5 at *
    obtain⟨A,hA⟩:∃A,argN x.fArgs x.fArgs.length 0=A:=⟨_,rfl⟩
    rw[hA]
    have hh0:hasExpr x.fKind=false:=by rw[h0];rfl
    rw[hh0]at hH
    repeat' ((conv=>whnf);first|refine Or.inl ?_|apply oi|(apply fi<;>intro h)|refine ci hB (ai rfl (ai rfl (ai rfl trivial))) ?_|refine⟨_,rfl,?_⟩|((with_reducible show _=_);rfl))
    all_goals try((with_reducible refine Obl.mk ?_);exact KO)
    all_goals try exact KX
    conv=>whnf
    refine⟨{k:Nat // k≤x.fArgs.length∧argN x.fArgs (x.fArgs.length - k) k=A},fun q=>⟨[(1,.r (.c (.ptr (1,0,0) 0))),(3,tI .i64 (q.1:Int))],[((1,0,0),some (lBox x))],[1]⟩,fun q=>x.fArgs.length - q.1,⟨0,by omega,by rw[Nat.sub_zero];exact hA⟩,?_,?_⟩
    ·skip
     repeat' ((conv=>whnf);first|refine Or.inl ?_|apply oi|(apply fi<;>intro h)|refine⟨_,rfl,?_⟩|((with_reducible show _=_);rfl))
     all_goals try((with_reducible refine Obl.mk ?_);exact KO)
    intro⟨k,hkl,hr⟩
    dsimp only at hkl hr ⊢
    by_cases hlt:k < x.fArgs.length
    ·obtain⟨s,hsk⟩:=get_of_lt hlt
     rw[argN_step hsk]at hr
     have hN2:=s_spec_NameOk s (by have:=h3 s (List.mem_of_getElem? hsk);omega)
     cases hno:nameOk s with
     | false=>
      rw[hno]at hN2 hr
      rw[if_neg (by simp)]at hr
      subst hr
      repeat' ((conv=>whnf);first|refine Or.inl ?_|apply oi|(apply fi<;>intro h)|refine ci hN2 (ai rfl trivial) ?_|refine⟨k,(strRow s),rfl,map_get hsk,?_⟩|refine⟨_,rfl,?_⟩|((with_reducible show _=_);rfl))
      all_goals try((with_reducible refine Obl.mk ?_);exact KO)
      all_goals try exact KX
     | true=>
      rw[hno]at hN2 hr
      obtain⟨C,hC⟩:∃C,(x.fArgs.take k).contains s=C:=⟨_,rfl⟩
      rw[hC]at hr
      repeat' ((conv=>whnf);first|refine Or.inl ?_|apply oi|(apply fi<;>intro h)|refine ci hN2 (ai rfl trivial) ?_|refine⟨k,(strRow s),rfl,map_get hsk,?_⟩|refine⟨_,rfl,?_⟩|((with_reducible show _=_);rfl))
      all_goals try((with_reducible refine Obl.mk ?_);exact KO)
      all_goals try exact KX
      all_goals try(exfalso;(try simp_all[within]);(try omega);done)
      conv=>whnf
      refine⟨{i:Nat // i≤k∧((x.fArgs.take k).drop i).contains s=C},fun q=>⟨[(1,.r (.c (.ptr (1,0,0) 0))),(3,tI .i64 (k:Int)),(4,tI .i64 (q.1:Int))],[((1,0,0),some (lBox x))],[1]⟩,fun q=>k - q.1,⟨0,by omega,hC⟩,?_,?_⟩
      ·skip
       repeat' ((conv=>whnf);first|refine Or.inl ?_|apply oi|(apply fi<;>intro h)|refine⟨_,rfl,?_⟩|((with_reducible show _=_);rfl))
       all_goals try((with_reducible refine Obl.mk ?_);exact KO)
      intro⟨i,hik,hc⟩
      dsimp only at hik hc ⊢
      by_cases hil:i < k
      ·obtain⟨y,hy⟩:=get_of_lt (l:=x.fArgs) (k:=i) (by omega)
       rw[drop_has hil hy]at hc
       by_cases hys:s=y
       ·subst hys
        rw[beq_self_eq_true,Bool.true_or]at hc
        subst hc
        rw[if_neg (by simp)]at hr
        subst hr
        repeat' ((conv=>whnf);first|refine Or.inl ?_|apply oi|(apply fi<;>intro h)|refine⟨i,(strRow s),rfl,map_get hy,?_⟩|refine⟨k,(strRow s),rfl,map_get hsk,?_⟩|refine⟨_,rfl,?_⟩|((with_reducible show _=_);rfl))
        all_goals try((with_reducible refine Obl.mk ?_);exact KO)
        all_goals try exact KX
        all_goals try(exfalso;(try simp_all[within]);(try omega);done)
       ·rw[beq_eq_false_iff_ne.2 hys,Bool.false_or]at hc
        repeat' ((conv=>whnf);first|refine Or.inl ?_|apply oi|(apply fi<;>intro h)|refine⟨i,(strRow y),rfl,map_get hy,?_⟩|refine⟨k,(strRow s),rfl,map_get hsk,?_⟩|refine⟨_,rfl,?_⟩|((with_reducible show _=_);rfl))
        all_goals try((with_reducible refine Obl.mk ?_);exact KO)
        all_goals try exact KX
        all_goals try(exfalso;apply hys;simp_all;done)
        conv=>whnf
        refine⟨⟨i+1,by omega,hc⟩,?_,by dsimp only;omega⟩
        repeat' ((conv=>whnf);first|refine Or.inl ?_|apply oi|(apply fi<;>intro h)|refine⟨_,rfl,?_⟩|((with_reducible show _=_);rfl))
        all_goals try((with_reducible refine Obl.mk ?_);exact KO)
        all_goals try exact⟨K2⟩
      ·rw[List.drop_eq_nil_of_le (by simp;omega)]at hc
       have hc:false=C:=hc
       subst hc
       rw[if_pos ⟨rfl,rfl⟩]at hr
       repeat' ((conv=>whnf);first|refine Or.inl ?_|apply oi|(apply fi<;>intro h)|refine⟨_,rfl,?_⟩|((with_reducible show _=_);rfl))
       all_goals try((with_reducible refine Obl.mk ?_);exact KO)
       all_goals try exact KX
       conv=>whnf
       refine⟨⟨k+1,by omega,hr⟩,?_,by dsimp only;omega⟩
       repeat' ((conv=>whnf);first|refine Or.inl ?_|apply oi|(apply fi<;>intro h)|refine⟨_,rfl,?_⟩|((with_reducible show _=_);rfl))
       all_goals try((with_reducible refine Obl.mk ?_);exact KO)
       all_goals try exact⟨K2⟩
    ·rw[show x.fArgs.length - k=0 by omega]at hr
     have hr:true=A:=hr
     subst hr
     repeat' ((conv=>whnf);first|refine Or.inl ?_|apply oi|(apply fi<;>intro h)|refine ci hN (ai rfl trivial) ?_|refine ci hH (ai rfl trivial) ?_|refine ci hE (ai rfl trivial) ?_|refine⟨_,rfl,?_⟩|((with_reducible show _=_);rfl))
     all_goals try((with_reducible refine Obl.mk ?_);exact KO)
     all_goals try exact KX
     all_goals try(exfalso;(try simp_all[within]);(try omega);done)
     all_goals(refine⟨congrArg Tr.bool ?_⟩;simp_all;(try exact natBeq0 _))
   ·rw[lineOk_1 hk h0]
    generalize nameOk x.fName=b2 at *
    generalize exprOk x.fExpr=b5 at *
    generalize hasExpr x.fKind=b4 at *
    repeat' ((conv=>whnf);first|refine Or.inl ?_|apply oi|(apply fi<;>intro h)|refine ci hB (ai rfl (ai rfl (ai rfl trivial))) ?_|refine⟨_,rfl,?_⟩|((with_reducible show _=_);rfl))
    all_goals try((with_reducible refine Obl.mk ?_);exact KO)
    all_goals try exact KX
    conv=>whnf
    refine⟨Unit,fun q=>⟨[(1,.r (.c (.ptr (1,0,0) 0))),(3,tI .i64 0)],[((1,0,0),some (lBox x))],[1]⟩,fun q=>0,(),?_,?_⟩
    ·skip
     repeat' ((conv=>whnf);first|refine Or.inl ?_|apply oi|(apply fi<;>intro h)|refine⟨_,rfl,?_⟩|((with_reducible show _=_);rfl))
     all_goals try((with_reducible refine Obl.mk ?_);exact KO)
    intro q
    dsimp only
    by_cases hlt:0 < x.fArgs.length
    ·obtain⟨s,hsk⟩:=get_of_lt hlt
     have hN2:=s_spec_NameOk s (by have:=h3 s (List.mem_of_getElem? hsk);omega)
     rw[show(x.fArgs.length==0)=false by rw[beq_eq_false_iff_ne];omega]
     repeat' ((conv=>whnf);first|refine Or.inl ?_|apply oi|(apply fi<;>intro h)|refine ci hN2 (ai rfl trivial) ?_|refine⟨0,(strRow s),rfl,map_get hsk,?_⟩|refine⟨_,rfl,?_⟩|((with_reducible show _=_);rfl))
     all_goals try((with_reducible refine Obl.mk ?_);exact KO)
     all_goals try exact KX
     all_goals try(exfalso;(try simp_all[within]);(try omega);done)
     all_goals try(exfalso;simp_all;done)
    ·have hz:x.fArgs.length=0:=by omega
     rw[show(x.fArgs.length==0)=true by rw[hz];rfl]
     rw[hz]at hl1
     repeat' ((conv=>whnf);first|refine Or.inl ?_|apply oi|(apply fi<;>intro h)|refine ci hN (ai rfl trivial) ?_|refine ci hH (ai rfl trivial) ?_|refine ci hE (ai rfl trivial) ?_|refine⟨_,rfl,?_⟩|((with_reducible show _=_);rfl))
     all_goals try((with_reducible refine Obl.mk ?_);exact KO)
     all_goals try(exfalso;simp_all;done)
     all_goals(refine⟨congrArg Tr.bool ?_⟩;simp_all;(try exact natBeq0 _);(try(rw[Bool.eq_iff_iff];simp;omega)))
  ·rw[lineOk_args (by omega)]
   repeat' ((conv=>whnf);first|refine Or.inl ?_|apply oi|(apply fi<;>intro h)|refine ci hB (ai rfl (ai rfl (ai rfl trivial))) ?_|refine⟨_,rfl,?_⟩|((with_reducible show _=_);rfl))
   all_goals try((with_reducible refine Obl.mk ?_);exact KO)
   all_goals try exact KX
end Go.Proofs.YtjmplnfiabmalaaGreat
namespace Go.Proofs.YtjmplnfiabmalaaGreat
open Go.Sim
set_option maxRecDepth 100000
set_option maxHeartbeats 4000000
def opensK (k:Int):Bool:=k==0 || (k==3 || k==5)
theorem opensK_iff {k:Int}:opensK k=true↔k=0∨k=3∨k=5:=by simp[opensK]
def endN:List TLine→Nat→Nat→Option Nat
 | [],_,_=>none
 | x::l,i,o=>if opensK x.fKind=true then endN l (i+1) (o+1)else if x.fKind=7 then(if o=1 then some i else endN l (i+1) (o - 1))else endN l (i+1) o
def endAt (l:List TLine)(k:Nat):Option Nat:=match l[k]? with
 | some x=>if opensK x.fKind=true then endN (l.drop (k+1)) (k+1) 1 else none
 | none=>none
def endOf (l:List TLine)(k:Int):Int:=if 0≤k then endI (endAt l k.toNat)else -1
theorem endN_at {l:List TLine}{i o:Nat}{x:TLine}(h:l[i]?=some x):endN (l.drop i) i o=if opensK x.fKind=true then endN (l.drop (i+1)) (i+1) (o+1)else if x.fKind=7 then(if o=1 then some i else endN (l.drop (i+1)) (i+1) (o - 1))else endN (l.drop (i+1)) (i+1) o:=by
 rw[drop_at h,endN]
theorem endN_no {l:List TLine}{i o:Nat}(h:l.length≤i):endN (l.drop i) i o=none:=by
 rw[List.drop_eq_nil_of_le h,endN]
theorem endN_ge:∀{l:List TLine} {i o e:Nat},endN l i o=some e→i≤e∧e < i+l.length
 | [],_,_,_,h=>by rw[endN]at h;cases h
 | x::l,i,o,e,h=>by
  rw[endN]at h
  simp only[List.length_cons]
  split at h
  ·have:=endN_ge h;omega
  ·split at h
   ·split at h
    ·injection h with h;omega
    ·have:=endN_ge h;omega
   ·have:=endN_ge h;omega
theorem endN_lt {l:List TLine}{i o e:Nat}(h:endN (l.drop i) i o=some e):i≤e∧e < l.length:=by
 have:=endN_ge h
 rw[List.length_drop]at this
 omega
theorem endN_add:∀{l:List TLine} {i:Nat} (n:Nat) {a b:Nat},l.length - i≤n→1≤a→1≤b→endN (l.drop i) i (a+b)=(endN (l.drop i) i b).bind fun m=>endN (l.drop (m+1)) (m+1) a
 | l,i,0,a,b,hn,_,_=>by rw[endN_no (by omega),endN_no (by omega)];rfl
 | l,i,n+1,a,b,hn,ha,hb=>by
  by_cases hi:i < l.length
  ·obtain⟨x,hx⟩:=get_of_lt hi
   rw[endN_at hx,endN_at hx]
   split
   ·rw[show a+b+1=a+(b+1) by omega]
    exact endN_add n (by omega) ha (by omega)
   ·split
    ·rw[if_neg (by omega)]
     by_cases h1:b=1
     ·subst h1
      rw[if_pos rfl]
      rfl
     ·rw[if_neg h1,show a+b - 1=a+(b - 1) by omega]
      exact endN_add n (by omega) ha (by omega)
    ·exact endN_add n (by omega) ha hb
  ·rw[endN_no (by omega),endN_no (by omega)];rfl
theorem endN_kind:∀{l:List TLine} {i:Nat} (n:Nat) {o e:Nat},l.length - i≤n→endN (l.drop i) i o=some e→∃x,l[e]?=some x∧x.fKind=7
 | l,i,0,o,e,hn,h=>by rw[endN_no (by omega)]at h;cases h
 | l,i,n+1,o,e,hn,h=>by
  by_cases hi:i < l.length
  ·obtain⟨x,hx⟩:=get_of_lt hi
   rw[endN_at hx]at h
   split at h
   ·exact endN_kind n (by omega) h
   ·split at h
    ·split at h
     ·injection h with h
      subst h
      exact⟨x,hx,by assumption⟩
     ·exact endN_kind n (by omega) h
    ·exact endN_kind n (by omega) h
  ·rw[endN_no (by omega)]at h;cases h
theorem endAt_some {l:List TLine}{k e:Nat}(h:endAt l k=some e):∃x,l[k]?=some x∧opensK x.fKind=true∧endN (l.drop (k+1)) (k+1) 1=some e∧k < e∧e < l.length:=by
 unfold endAt at h
 split at h
 ·rename_i x hx
  split at h
  ·rename_i ho
   have:=endN_lt h
   exact⟨x,hx,ho,h,by omega,by omega⟩
  ·cases h
 ·cases h
theorem endAt_of {l:List TLine}{k:Nat}{x:TLine}(hx:l[k]?=some x)(ho:opensK x.fKind=true):endAt l k=endN (l.drop (k+1)) (k+1) 1:=by
 unfold endAt
 rw[hx]
 dsimp only
 rw[if_pos ho]
theorem endAt_kind {l:List TLine}{k e:Nat}(h:endAt l k=some e):∃x,l[e]?=some x∧x.fKind=7:=by
 obtain⟨_,_,_,h,_⟩:=endAt_some h
 exact endN_kind _ (Nat.le_refl _) h
theorem endN_lev:∀{l:List TLine} (n:Nat) {s o e i:Nat},i - s≤n→1≤o→endN (l.drop s) s o=some e→s≤i→i≤e→∃o',1≤o'∧endN (l.drop i) i o'=some e
 | l,0,s,o,e,i,hn,ho,h,h1,h2=>by
  have:s=i:=by omega
  subst this
  exact⟨o,ho,h⟩
 | l,n+1,s,o,e,i,hn,ho,h,h1,h2=>by
  by_cases hs:s=i
  ·subst hs;exact⟨o,ho,h⟩
  have hl:=endN_lt h
  obtain⟨x,hx⟩:=get_of_lt (l:=l) (k:=s) (by omega)
  rw[endN_at hx]at h
  split at h
  ·exact endN_lev n (by omega) (by omega) h (by omega) h2
  ·split at h
   ·split at h
    ·injection h with h;omega
    ·exact endN_lev n (by omega) (by omega) h (by omega) h2
   ·exact endN_lev n (by omega) ho h (by omega) h2
theorem endAt_in {l:List TLine}{k e i:Nat}{x:TLine}(h:endAt l k=some e)(h1:k < i)(h2:i < e)(hx:l[i]?=some x)(ho:opensK x.fKind=true):∃m,endAt l i=some m∧i < m∧m < e:=by
 obtain⟨_,_,_,he,_,hlt⟩:=endAt_some h
 obtain⟨o,ho1,hlev⟩:=endN_lev _ (Nat.le_refl _) (Nat.le_refl 1) he (by omega:k+1≤i) (by omega)
 rw[endN_at hx,if_pos ho,endN_add _ (Nat.le_refl _) ho1 (Nat.le_refl 1)]at hlev
 cases hm:endN (l.drop (i+1)) (i+1) 1 with
 | none=>rw[hm]at hlev;cases hlev
 | some m=>
  rw[hm]at hlev
  have h3:=endN_lt hm
  have h4:=endN_lt (show endN (l.drop (m+1)) (m+1) o=some e from hlev)
  exact⟨m,by rw[endAt_of hx ho];exact hm,by omega,by omega⟩
theorem endOf_at {l:List TLine}{k:Nat}:endOf l (k:Int)=endI (endAt l k):=by
 rw[endOf,if_pos (by omega),Int.toNat_natCast]
theorem endI_some {o:Option Nat}{n:Nat}(h:o=some n):endI o=(n:Int):=by rw[h];rfl
theorem endI_none {o:Option Nat}(h:o=none):endI o= -1:=by rw[h];rfl
def elseN (l:List TLine)(e:Nat):Nat→Nat→Option Nat
 | 0,_=>none
 | n+1,i=>if i < e then(match l[i]? with
  | some x=>if x.fKind=4 then some i else if x.fKind=3∨x.fKind=5 then(match endAt l i with
   | some m=>elseN l e n (m+1)
   | none=>elseN l e n (i+1))else elseN l e n (i+1)
  | none=>none)else none
def elseAt (l:List TLine)(k:Nat):Option Nat:=match l[k]?,endAt l k with
 | some x,some e=>if x.fKind=3 then elseN l e (e - (k+1)) (k+1)else none
 | _,_=>none
def elseOf (l:List TLine)(k:Int):Int:=if 0≤k then endI (elseAt l k.toNat)else -1
theorem elseN_more {l:List TLine}{e:Nat}:∀{n m i:Nat},e - i≤n→e - i≤m→elseN l e n i=elseN l e m i
 | 0,0,_,_,_=>rfl
 | 0,m+1,i,h1,h2=>by rw[elseN,elseN,if_neg (by omega)]
 | n+1,0,i,h1,h2=>by rw[elseN,elseN,if_neg (by omega)]
 | n+1,m+1,i,h1,h2=>by
  rw[elseN,elseN]
  by_cases hi:i < e
  ·rw[if_pos hi,if_pos hi]
   cases hx:l[i]? with
   | none=>rfl
   | some x=>
    dsimp only
    split
    ·rfl
    ·split
     ·cases hm:endAt l i with
      | none=>exact elseN_more (by omega) (by omega)
      | some m'=>
       have:=endAt_some hm
       obtain⟨_,_,_,_,h3,_⟩:=this
       exact elseN_more (by omega) (by omega)
     ·exact elseN_more (by omega) (by omega)
  ·rw[if_neg hi,if_neg hi]
theorem elseN_step {l:List TLine}{e i:Nat}{x:TLine}(hi:i < e)(hx:l[i]?=some x):elseN l e (e - i) i=if x.fKind=4 then some i else if x.fKind=3∨x.fKind=5 then(match endAt l i with
   | some m=>elseN l e (e - (m+1)) (m+1)
   | none=>elseN l e (e - (i+1)) (i+1))else elseN l e (e - (i+1)) (i+1):=by
 obtain⟨n,hn⟩:∃n,e - i=n+1:=⟨e - i - 1,by omega⟩
 rw[hn,elseN,if_pos hi,hx]
 dsimp only
 split
 ·rfl
 ·split
  ·cases hm:endAt l i with
   | none=>exact elseN_more (by omega) (by omega)
   | some m=>
    obtain⟨_,_,_,_,h3,_⟩:=endAt_some hm
    exact elseN_more (by omega) (by omega)
  ·exact elseN_more (by omega) (by omega)
theorem elseN_end {l:List TLine}{e i n:Nat}(hi:e≤i):elseN l e n i=none:=by
 cases n with
 | zero=>rfl
 | succ n=>rw[elseN,if_neg (by omega)]
theorem elseN_in {l:List TLine}{e:Nat}:∀{n i j:Nat},elseN l e n i=some j→i≤j∧j < e∧∃x,l[j]?=some x∧x.fKind=4
 | 0,_,_,h=>by rw[elseN]at h;cases h
 | n+1,i,j,h=>by
  rw[elseN]at h
  split at h
  ·rename_i hi
   split at h
   ·rename_i x hx
    split at h
    ·injection h with h;subst h;exact⟨by omega,hi,x,hx,by assumption⟩
    ·split at h
     ·split at h
      ·rename_i m hm
       obtain⟨_,_,_,_,h3,_⟩:=endAt_some hm
       have:=elseN_in h
       exact⟨by omega,this.2⟩
      ·have:=elseN_in h
       exact⟨by omega,this.2⟩
     ·have:=elseN_in h
      exact⟨by omega,this.2⟩
   ·cases h
  ·cases h
theorem elseAt_some {l:List TLine}{k j:Nat}(h:elseAt l k=some j):∃x e,l[k]?=some x∧x.fKind=3∧endAt l k=some e∧k < j∧j < e∧∃y,l[j]?=some y∧y.fKind=4:=by
 unfold elseAt at h
 split at h
 ·rename_i x e hx he
  split at h
  ·rename_i h3
   have:=elseN_in h
   exact⟨x,e,hx,h3,he,by omega,this.2⟩
  ·cases h
 ·cases h
def funsF:List TLine→Nat→List Nat
 | [],_=>[]
 | x::l,i=>(if x.fKind=0 then [i]else [])++funsF l (i+1)
def funs (l:List TLine):List Nat:=funsF l 0
theorem funsF_at {l:List TLine}{i:Nat}{x:TLine}(hx:l[i]?=some x):funsF (l.drop i) i=(if x.fKind=0 then [i]else [])++funsF (l.drop (i+1)) (i+1):=by
 rw[drop_at hx,funsF]
theorem funsF_len:∀(l:List TLine) (i:Nat),(funsF l i).length≤l.length
 | [],_=>by simp[funsF]
 | x::l,i=>by
  have:=funsF_len l (i+1)
  rw[funsF,List.length_append,List.length_cons]
  split <;> simp <;> omega
theorem funsF_lt:∀{l:List TLine} {i k:Nat},k∈funsF l i→i≤k∧k < i+l.length∧∃x,l[k - i]?=some x∧x.fKind=0
 | [],_,_,h=>by simp[funsF]at h
 | x::l,i,k,h=>by
  rw[funsF,List.mem_append]at h
  rcases h with h|h
  ·split at h
   ·simp only[List.mem_cons,List.not_mem_nil,or_false]at h
    subst h
    exact⟨by omega,by simp,x,by simp,by assumption⟩
   ·cases h
  ·obtain⟨h1,h2,y,hy,hk⟩:=funsF_lt h
   refine⟨by omega,by simp only[List.length_cons];omega,y,?_,hk⟩
   rw[show k - i=(k - (i+1))+1 by omega,List.getElem?_cons_succ]
   exact hy
theorem funs_lt {l:List TLine}{k:Nat}(h:k∈funs l):k < l.length∧∃x,l[k]?=some x∧x.fKind=0:=by
 have:=funsF_lt h
 simpa using this.2
def findN:List TLine→Nat→List UInt8→Option Nat
 | [],_,_=>none
 | x::l,i,s=>if x.fKind=0∧x.fName=s then some i else findN l (i+1) s
def findF (l:List TLine)(s:List UInt8):Int:=endI (findN l 0 s)
theorem findN_at {l:List TLine}{i:Nat}{x:TLine}{s:List UInt8}(hx:l[i]?=some x):findN (l.drop i) i s=if x.fKind=0∧x.fName=s then some i else findN (l.drop (i+1)) (i+1) s:=by
 rw[drop_at hx,findN]
theorem findN_some:∀{l:List TLine} {i k:Nat} {s:List UInt8},findN l i s=some k→i≤k∧k < i+l.length∧∃x,l[k - i]?=some x∧x.fKind=0∧x.fName=s
 | [],_,_,_,h=>by rw[findN]at h;cases h
 | x::l,i,k,s,h=>by
  rw[findN]at h
  split at h
  ·injection h with h;subst h
   exact⟨by omega,by simp,x,by simp,by assumption⟩
  ·obtain⟨h1,h2,y,hy,hk⟩:=findN_some h
   refine⟨by omega,by simp only[List.length_cons];omega,y,?_,hk⟩
   rw[show k - i=(k - (i+1))+1 by omega,List.getElem?_cons_succ]
   exact hy
theorem find_some {l:List TLine}{k:Nat}{s:List UInt8}(h:findN l 0 s=some k):k < l.length∧∃x,l[k]?=some x∧x.fKind=0∧x.fName=s:=by
 have:=findN_some h
 simpa using this.2
def addName (acc:List (List UInt8))(s:List UInt8):List (List UInt8):=if acc.contains s=true then acc else acc++[s]
def locN (l:List TLine)(e:Nat):Nat→Nat→List (List UInt8)→List (List UInt8)
 | 0,_,acc=>acc
 | n+1,i,acc=>if i < e then(match l[i]? with
  | some x=>locN l e n (i+1) (if x.fKind=1 then addName acc x.fName else acc)
  | none=>acc)else acc
def localsOf (l:List TLine)(k:Int):List (List UInt8):=if 0≤k then(match l[k.toNat]?,endAt l k.toNat with
 | some x,some e=>if x.fKind=0 then locN l e (e - k.toNat) k.toNat x.fArgs else []
 | _,_=>[])else []
theorem locN_step {l:List TLine}{e i:Nat}{x:TLine}{acc:List (List UInt8)}(hi:i < e)(hx:l[i]?=some x):locN l e (e - i) i acc=locN l e (e - (i+1)) (i+1) (if x.fKind=1 then addName acc x.fName else acc):=by
 rw[show e - i=(e - (i+1))+1 by omega,locN,if_pos hi,hx]
theorem locN_end {l:List TLine}{e i n:Nat}{acc:List (List UInt8)}(hi:e≤i):locN l e n i acc=acc:=by
 cases n with
 | zero=>rfl
 | succ n=>rw[locN,if_neg (by omega)]
theorem addName_len (acc:List (List UInt8))(s:List UInt8):(addName acc s).length≤acc.length+1:=by
 unfold addName
 split <;> simp
theorem locN_len {l:List TLine}{e:Nat}:∀(n i:Nat) (acc:List (List UInt8)),(locN l e n i acc).length≤acc.length+n
 | 0,_,_=>by simp[locN]
 | n+1,i,acc=>by
  rw[locN]
  split
  ·split
   ·refine Nat.le_trans (locN_len n _ _) ?_
    split
    ·have:=addName_len acc (by assumption:TLine).fName;omega
    ·omega
   ·omega
  ·omega
def tokKnown (l:List TLine)(locals:List (List UInt8))(t:TTok):Bool:=
 if t.fKind=1 then locals.contains t.fName
 else if t.fKind=7 then(match findN l 0 t.fName with
  | some f=>(match l[f]? with|some x=>(x.fArgs.length:Int)==t.fNum|none=>false)
  | none=>false)
 else true
def exprKnown (l:List TLine)(locals:List (List UInt8))(ts:List TTok):Bool:=ts.all (tokKnown l locals)
def dep (x:TLine)(d:Nat):Nat:=if x.fKind=3∨x.fKind=5 then d+1 else if x.fKind=7 then d - 1 else d
def bodyN (l:List TLine)(locals:List (List UInt8))(e:Nat):Nat→Nat→Nat→Bool
 | 0,_,_=>true
 | n+1,i,d=>if i < e then(match l[i]? with
  | some x=>if x.fKind=0 then false else
   if dep x d≤4∧exprKnown l locals x.fExpr=true then bodyN l locals e n (i+1) (dep x d)else false
  | none=>false)else true
theorem bodyN_step {l:List TLine}{locals:List (List UInt8)}{e i d:Nat}{x:TLine}(hi:i < e)(hx:l[i]?=some x):bodyN l locals e (e - i) i d=if x.fKind=0 then false else if dep x d≤4∧exprKnown l locals x.fExpr=true then bodyN l locals e (e - (i+1)) (i+1) (dep x d)else false:=by
 rw[show e - i=(e - (i+1))+1 by omega,bodyN,if_pos hi,hx]
theorem bodyN_end {l:List TLine}{locals:List (List UInt8)}{e i d n:Nat}(hi:e≤i):bodyN l locals e n i d=true:=by
 cases n with
 | zero=>rfl
 | succ n=>rw[bodyN,if_neg (by omega)]
end Go.Proofs.YtjmplnfiabmalaaGreat
namespace Go.Proofs.YtjmplnfiabmalaaGreat
open Go.Sim
set_option maxRecDepth 100000
set_option maxHeartbeats 4000000
def anyE (l:List TLine)(i:Nat):Nat→Nat→Bool
 | 0,_=>false
 | n+1,j=>(elseAt l j==some i) || anyE l i n (j+1)
theorem anyE_iff {l:List TLine}{i:Nat}:∀{n j:Nat},anyE l i n j=true↔∃k,j≤k∧k < j+n∧elseAt l k=some i
 | 0,j=>by
  rw[anyE]
  exact⟨fun h=>(by cases h),fun⟨k,h1,h2,_⟩=>(by omega)⟩
 | n+1,j=>by
  rw[anyE,Bool.or_eq_true,anyE_iff,beq_iff_eq]
  constructor
  ·rintro(h|⟨k,h1,h2,h3⟩)
   ·exact⟨j,by omega,by omega,h⟩
   ·exact⟨k,by omega,by omega,h3⟩
  ·rintro⟨k,h1,h2,h3⟩
   by_cases hk:k=j
   ·subst hk;exact .inl h3
   ·exact .inr ⟨k,by omega,by omega,h3⟩
def elsesIn (l:List TLine)(k e:Nat):Nat→Nat→Bool
 | 0,_=>true
 | n+1,i=>if i < e then(match l[i]? with
  | some x=>(if x.fKind=4 then anyE l i (i - k) k else true) && elsesIn l k e n (i+1)
  | none=>true)else true
theorem elsesIn_iff {l:List TLine}{k e:Nat}:∀{n i:Nat},e - i≤n→(elsesIn l k e n i=true↔∀j x,i≤j→j < e→l[j]?=some x→x.fKind=4→anyE l j (j - k) k=true)
 | 0,i,h=>⟨fun _ j x h1 h2=>by omega,fun _=>rfl⟩
 | n+1,i,h=>by
  rw[elsesIn]
  by_cases hi:i < e
  ·rw[if_pos hi]
   cases hx:l[i]? with
   | none=>
    refine⟨fun _ j x h1 h2 hj=>?_,fun _=>rfl⟩
    have:l.length≤i:=List.getElem?_eq_none_iff.1 hx
    rw[List.getElem?_eq_none (by omega)]at hj
    cases hj
   | some x=>
    dsimp only
    rw[Bool.and_eq_true,elsesIn_iff (by omega)]
    constructor
    ·rintro⟨h1,h2⟩ j y hj1 hj2 hy hk
     by_cases he:j=i
     ·subst he
      rw[hx]at hy
      injection hy with hy
      subst hy
      rw[if_pos hk]at h1
      exact h1
     ·exact h2 j y (by omega) hj2 hy hk
    ·intro H
     refine⟨?_,fun j y hj1 hj2 hy hk=>H j y (by omega) hj2 hy hk⟩
     split
     ·exact H i x (Nat.le_refl _) hi hx (by assumption)
     ·rfl
  ·rw[if_neg hi]
   exact⟨fun _ j x h1 h2=>by omega,fun _=>rfl⟩
def bodyS (l:List TLine)(locals:List (List UInt8))(k e:Nat):Nat→Nat→Nat→Bool
 | 0,_,_=>true
 | n+1,i,d=>if i < e then(match l[i]? with
  | some x=>if x.fKind=0 then false else if x.fKind=4∧anyE l i (i - k) k=false then false else
   if dep x d≤4∧exprKnown l locals x.fExpr=true then bodyS l locals k e n (i+1) (dep x d)else false
  | none=>false)else true
theorem bodyS_step {l:List TLine}{locals:List (List UInt8)}{k e i d:Nat}{x:TLine}(hi:i < e)(hx:l[i]?=some x):bodyS l locals k e (e - i) i d=if x.fKind=0 then false else if x.fKind=4∧anyE l i (i - k) k=false then false else if dep x d≤4∧exprKnown l locals x.fExpr=true then bodyS l locals k e (e - (i+1)) (i+1) (dep x d)else false:=by
 rw[show e - i=(e - (i+1))+1 by omega,bodyS,if_pos hi,hx]
theorem bodyS_end {l:List TLine}{locals:List (List UInt8)}{k e i d n:Nat}(hi:e≤i):bodyS l locals k e n i d=true:=by
 cases n with
 | zero=>rfl
 | succ n=>rw[bodyS,if_neg (by omega)]
theorem bodyS_eq {l:List TLine}{locals:List (List UInt8)}{k e:Nat}:∀{n i d:Nat},bodyS l locals k e n i d=(bodyN l locals e n i d && elsesIn l k e n i)
 | 0,i,d=>rfl
 | n+1,i,d=>by
  rw[bodyS,bodyN,elsesIn]
  by_cases hi:i < e
  ·rw[if_pos hi,if_pos hi,if_pos hi]
   cases hx:l[i]? with
   | none=>rfl
   | some x=>
    dsimp only
    by_cases h0:x.fKind=0
    ·rw[if_pos h0,if_pos h0];rfl
    ·rw[if_neg h0,if_neg h0]
     rw[bodyS_eq]
     by_cases h4:x.fKind=4
     ·rw[if_pos h4]
      cases ha:anyE l i (i - k) k with
      | false=>rw[if_pos ⟨h4,rfl⟩];simp
      | true=>
       rw[if_neg (by simp)]
       split <;> simp_all
     ·rw[if_neg (by simp[h4]),if_neg h4]
      split <;> simp_all
  ·rw[if_neg hi,if_neg hi,if_neg hi];rfl
def fnOk (l:List TLine)(k e:Nat):Bool:=decide ((localsOf l (k:Int)).length≤8) && bodyN l (localsOf l (k:Int)) e (e - (k+1)) (k+1) 0
def fnOkS (l:List TLine)(k e:Nat):Bool:=decide ((localsOf l (k:Int)).length≤8) && bodyS l (localsOf l (k:Int)) k e (e - (k+1)) (k+1) 0
theorem fnOkS_eq {l:List TLine}{k e:Nat}:fnOkS l k e=(fnOk l k e && elsesIn l k e (e - (k+1)) (k+1)):=by
 rw[fnOkS,fnOk,bodyS_eq,Bool.and_assoc]
theorem fnOk_nofun {l:List TLine}{k e:Nat}(h:fnOk l k e=true)(he:e≤l.length):∀i x,k < i→i < e→l[i]?=some x→x.fKind≠0:=by
 rw[fnOk,Bool.and_eq_true]at h
 have key:∀(n i d:Nat),e - i≤n→bodyN l (localsOf l (k:Int)) e n i d=true→∀j x,i≤j→j < e→l[j]?=some x→x.fKind≠0:=by
  intro n
  induction n with
  | zero=>intro i d hn _ j x h1 h2;omega
  | succ n ih=>
   intro i d hn hb j x h1 h2 hx
   rw[bodyN,if_pos (by omega)]at hb
   obtain⟨y,hy⟩:=get_of_lt (l:=l) (k:=i) (by omega)
   rw[hy]at hb
   dsimp only at hb
   split at hb
   ·cases hb
   ·rename_i h0
    split at hb
    ·by_cases hj:j=i
     ·subst hj
      rw[hy]at hx
      injection hx with hx
      subst hx
      exact h0
     ·exact ih (i+1) _ (by omega) hb j x (by omega) h2 hx
    ·cases hb
 exact fun i x h1 h2 hx=>key _ _ _ (Nat.le_refl _) h.2 i x (by omega) h2 hx
def chainN (F:Nat→Nat→Bool)(l:List TLine):Nat→Nat→Bool
 | 0,k=>decide (l.length≤k)
 | n+1,k=>if k < l.length then(match l[k]?,endAt l k with
  | some x,some e=>if x.fKind=0∧F k e=true then chainN F l n (e+1)else false
  | _,_=>false)else true
theorem chainN_step {F:Nat→Nat→Bool}{l:List TLine}{k n:Nat}{x:TLine}(hx:l[k]?=some x)(hn:l.length - k≤n):chainN F l n k=match endAt l k with|some e=>if x.fKind=0∧F k e=true then chainN F l (l.length - (e+1)) (e+1)else false|none=>false:=by
 have more:∀(n m k:Nat),l.length - k≤n→l.length - k≤m→chainN F l n k=chainN F l m k:=by
  intro n
  induction n with
  | zero=>
   intro m k h1 h2
   rw[chainN,decide_eq_true (by omega)]
   cases m with
   | zero=>rw[chainN,decide_eq_true (by omega)]
   | succ m=>rw[chainN,if_neg (by omega)]
  | succ n ih=>
   intro m k h1 h2
   cases m with
   | zero=>rw[chainN,chainN,if_neg (by omega),decide_eq_true (by omega)]
   | succ m=>
    rw[chainN,chainN]
    split
    ·split
     ·rename_i x e hx he
      obtain⟨_,_,_,_,h3,_⟩:=endAt_some he
      split
      ·exact ih m (e+1) (by omega) (by omega)
      ·rfl
     ·rfl
    ·rfl
 have hk:k < l.length:=by
  rcases Nat.lt_or_ge k l.length with h|h
  ·exact h
  ·rw[List.getElem?_eq_none h]at hx;cases hx
 obtain⟨m,rfl⟩:∃m,n=m+1:=⟨n - 1,by omega⟩
 rw[chainN,if_pos hk,hx]
 cases he:endAt l k with
 | none=>rfl
 | some e=>
  obtain⟨_,_,_,_,h3,_⟩:=endAt_some he
  dsimp only
  split
  ·exact more _ _ _ (by omega) (by omega)
  ·rfl
theorem chainN_end {F:Nat→Nat→Bool}{l:List TLine}{k n:Nat}(hk:l.length≤k):chainN F l n k=true:=by
 cases n with
 | zero=>rw[chainN,decide_eq_true hk]
 | succ n=>rw[chainN,if_neg (by omega)]
def elsesOk (l:List TLine):Bool:=elsesIn l 0 l.length l.length 0
def nameFirst (l:List TLine)(k:Nat):Bool:=match l[k]? with|some x=>findN l 0 x.fName==some k|none=>false
def chainI (l:List TLine):List Nat→Nat→Bool
 | [],next=>elsesOk l && (next==l.length)
 | k::fs,next=>match endAt l k with
  | some e=>if k=next∧nameFirst l k=true∧fnOk l k e=true then chainI l fs (e+1)else false
  | none=>false
theorem funsF_skip {l:List TLine}{i e:Nat}:∀(n:Nat),e - i≤n→i≤e→e≤l.length→(∀j x,i≤j→j < e→l[j]?=some x→x.fKind≠0)→funsF (l.drop i) i=funsF (l.drop e) e
 | n,hn,hi,he,h=>by
  by_cases hx:i=e
  ·subst hx;rfl
  obtain⟨x,hxi⟩:=get_of_lt (l:=l) (k:=i) (by omega)
  cases n with
  | zero=>omega
  | succ n=>
   rw[funsF_at hxi,if_neg (h i x (Nat.le_refl _) (by omega) hxi),List.nil_append]
   exact funsF_skip n (by omega) (by omega) he fun j y h1 h2=>h j y (by omega) h2
theorem chainI_eq {l:List TLine}:∀(n i:Nat),l.length - i≤n→i≤l.length→chainI l (funsF (l.drop i) i) i=((funsF (l.drop i) i).all (nameFirst l) && chainN (fnOk l) l (l.length - i) i && elsesOk l)
 | n,i,hn,hi=>by
  by_cases hlt:i < l.length
  ·obtain⟨x,hx⟩:=get_of_lt hlt
   rw[chainN_step hx (Nat.le_refl _)]
   by_cases h0:x.fKind=0
   ·rw[funsF_at hx,if_pos h0,List.cons_append,List.nil_append,chainI,List.all_cons]
    cases he:endAt l i with
    | none=>simp
    | some e=>
     dsimp only
     obtain⟨_,_,_,_,h3,h4⟩:=endAt_some he
     cases hf:fnOk l i e with
     | false=>simp
     | true=>
      have hnf:=fnOk_nofun hf (by omega)
      have hsk:funsF (l.drop (i+1)) (i+1)=funsF (l.drop (e+1)) (e+1):=by
       refine funsF_skip _ (Nat.le_refl _) (by omega) (by omega) fun j y h5 h6 hy=>?_
       by_cases hje:j=e
       ·subst hje
        obtain⟨z,hz,hz7⟩:=endAt_kind he
        rw[hy]at hz
        injection hz with hz
        subst hz
        omega
       ·exact hnf j y (by omega) (by omega) hy
      cases n with
      | zero=>omega
      | succ n=>
       have ih:=chainI_eq (l:=l) n (e+1) (by omega) (by omega)
       rw[hsk]
       cases hnm:nameFirst l i with
       | false=>simp
       | true=>
        rw[if_pos ⟨rfl,rfl,rfl⟩,if_pos ⟨h0,rfl⟩,ih]
        simp
   ·have hc:(match endAt l i with|some e=>if x.fKind=0∧fnOk l i e=true then chainN (fnOk l) l (l.length - (e+1)) (e+1)else false|none=>false)=false:=by
     cases endAt l i with
     | none=>rfl
     | some e=>dsimp only;rw[if_neg (by simp[h0])]
    rw[hc,Bool.and_false,Bool.false_and]
    rw[funsF_at hx,if_neg h0,List.nil_append]
    cases hfs:funsF (l.drop (i+1)) (i+1)with
    | nil=>
     rw[chainI]
     have:(i==l.length)=false:=by rw[beq_eq_false_iff_ne];omega
     rw[this,Bool.and_false]
    | cons k fs=>
     have hk:k∈funsF (l.drop (i+1)) (i+1):=by rw[hfs];simp
     have:=(funsF_lt hk).1
     rw[chainI]
     cases endAt l k with
     | none=>rfl
     | some e=>dsimp only;rw[if_neg (by omega)]
  ·have:i=l.length:=by omega
   subst this
   rw[List.drop_eq_nil_of_le (Nat.le_refl _),funsF,chainI,chainN_end (Nat.le_refl _)]
   simp
theorem chainS_eq {l:List TLine}:∀(n k:Nat),l.length - k≤n→k≤l.length→(∀j m,j < k→endAt l j=some m→m < k)→
  (chainN (fnOkS l) l (l.length - k) k=(chainN (fnOk l) l (l.length - k) k && elsesIn l 0 l.length (l.length - k) k))
 | n,k,hn,hk,hP=>by
  by_cases hlt:k < l.length
  ·obtain⟨x,hx⟩:=get_of_lt hlt
   rw[chainN_step hx (Nat.le_refl _),chainN_step hx (Nat.le_refl _)]
   cases he:endAt l k with
   | none=>simp
   | some e=>
    dsimp only
    obtain⟨_,hx',ho,_,h3,h4⟩:=endAt_some he
    obtain⟨z,hz,hz7⟩:=endAt_kind he
    by_cases h0:x.fKind=0
    ·have hP':∀j m,j < e+1→endAt l j=some m→m < e+1:=by
      intro j m hj hm
      rcases Nat.lt_trichotomy j k with hjk|hjk|hjk
      ·have:=hP j m hjk hm;omega
      ·subst hjk
       rw[he]at hm
       injection hm with hm
       omega
      ·obtain⟨y,hy,hyo,_⟩:=endAt_some hm
       by_cases hje:j=e
       ·subst hje
        rw[hz]at hy
        injection hy with hy
        subst hy
        rw[opensK_iff]at hyo
        omega
       ·obtain⟨m',hm',_,h5⟩:=endAt_in he hjk (by omega) hy hyo
        rw[hm]at hm'
        injection hm' with hm'
        omega
     cases n with
     | zero=>omega
     | succ n=>
      have ih:=chainS_eq (l:=l) n (e+1) (by omega) (by omega) hP'
      have hels:elsesIn l 0 l.length (l.length - k) k=(elsesIn l k e (e - (k+1)) (k+1) && elsesIn l 0 l.length (l.length - (e+1)) (e+1)):=by
       rw[Bool.eq_iff_iff,Bool.and_eq_true,elsesIn_iff (Nat.le_refl _),elsesIn_iff (Nat.le_refl _),elsesIn_iff (Nat.le_refl _)]
       constructor
       ·intro H
        refine⟨fun j y h5 h6 hy h7=>?_,fun j y h5 h6 hy h7=>H j y (by omega) h6 hy h7⟩
        have:=H j y (by omega) (by omega) hy h7
        rw[anyE_iff]at this ⊢
        obtain⟨i,h8,h9,h10⟩:=this
        refine⟨i,?_,by omega,h10⟩
        rcases Nat.lt_or_ge i k with h11|h11
        ·obtain⟨_,m,_,_,h12,_,h13,_⟩:=elseAt_some h10
         have:=hP i m h11 h12
         omega
        ·exact h11
       ·rintro⟨H1,H2⟩ j y h5 h6 hy h7
        rcases Nat.lt_or_ge e j with h8|h8
        ·exact H2 j y h8 h6 hy h7
        ·have hje:j≠e:=fun h=>by
          subst h
          rw[hz]at hy
          injection hy with hy
          subst hy
          omega
         have hjk:j≠k:=fun h=>by
          subst h
          rw[hx]at hy
          injection hy with hy
          subst hy
          omega
         have:=H1 j y (by omega) (by omega) hy h7
         rw[anyE_iff]at this ⊢
         obtain⟨i,h9,h10,h11⟩:=this
         exact⟨i,by omega,by omega,h11⟩
      rw[hels,ih,fnOkS_eq]
      cases fnOk l k e <;> cases elsesIn l k e (e - (k+1)) (k+1) <;> simp[h0]
    ·rw[if_neg (by simp[h0]),if_neg (by simp[h0])];rfl
  ·have:k=l.length:=by omega
   subst this
   rw[chainN_end (Nat.le_refl _),chainN_end (Nat.le_refl _)]
   rw[Nat.sub_self]
   rfl
def mainName:List UInt8:=[109,97,105,110]
def headOk (l:List TLine):Bool:=match l with
 | []=>false
 | x::_=>x.fKind==0 && (x.fName==mainName && x.fArgs.length==0)
def programOk (l:List TLine):Bool:=decide (l.length≤60) && (decide (1≤(funs l).length∧(funs l).length≤6) && (l.all lineOk && (headOk l && ((funs l).all (nameFirst l) && (chainN (fnOk l) l l.length 0 && elsesOk l)))))
theorem chainI_all (l:List TLine):chainI l (funs l) 0=((funs l).all (nameFirst l) && (chainN (fnOk l) l l.length 0 && elsesOk l)):=by
 have:=chainI_eq (l:=l) _ 0 (Nat.le_refl _) (by omega)
 rw[List.drop_zero]at this
 rw[funs,this,Nat.sub_zero,Bool.and_assoc]
theorem chainS_all (l:List TLine):chainN (fnOkS l) l l.length 0=(chainN (fnOk l) l l.length 0 && elsesOk l):=by
 have:=chainS_eq (l:=l) _ 0 (Nat.le_refl _) (by omega) (fun j m h=>by omega)
 rw[Nat.sub_zero]at this
 exact this
def StkOk (l:List TLine)(e:Nat):Nat→List Nat→Prop
 | i,[]=>endN (l.drop i) i 1=some e
 | i,m::es=>i≤m∧endN (l.drop i) i 1=some m∧StkOk l e (m+1) es
theorem StkOk.push {l:List TLine}{e i:Nat}{es:List Nat}{x:TLine}(h:StkOk l e i es)(hx:l[i]?=some x)(ho:opensK x.fKind=true):∃m,endAt l i=some m∧i < m∧StkOk l e (i+1) (m::es):=by
 have key:∀m',endN (l.drop i) i 1=some m'→∃m,endAt l i=some m∧i < m∧endN (l.drop (i+1)) (i+1) 1=some m∧endN (l.drop (m+1)) (m+1) 1=some m':=by
  intro m' hm
  rw[endN_at hx,if_pos ho,endN_add _ (Nat.le_refl _) (Nat.le_refl 1) (Nat.le_refl 1)]at hm
  cases h1:endN (l.drop (i+1)) (i+1) 1 with
  | none=>rw[h1]at hm;cases hm
  | some m=>
   rw[h1]at hm
   have:=endN_lt h1
   exact⟨m,by rw[endAt_of hx ho];exact h1,by omega,rfl,hm⟩
 cases es with
 | nil=>
  obtain⟨m,h1,h2,h3,h4⟩:=key e h
  exact⟨m,h1,h2,by omega,h3,h4⟩
 | cons m' es=>
  obtain⟨g1,g2,g3⟩:=h
  obtain⟨m,h1,h2,h3,h4⟩:=key m' g2
  have:=endN_lt h4
  exact⟨m,h1,h2,by omega,h3,by omega,h4,g3⟩
theorem StkOk.other {l:List TLine}{e i:Nat}{es:List Nat}{x:TLine}(h:StkOk l e i es)(hx:l[i]?=some x)(ho:opensK x.fKind=false)(h7:x.fKind≠7):StkOk l e (i+1) es:=by
 have key:∀m',endN (l.drop i) i 1=some m'→endN (l.drop (i+1)) (i+1) 1=some m':=by
  intro m' hm
  rw[endN_at hx,if_neg (by simp[ho]),if_neg h7]at hm
  exact hm
 cases es with
 | nil=>exact key e h
 | cons m' es=>
  obtain⟨g1,g2,g3⟩:=h
  have:=endN_lt (key m' g2)
  exact⟨by omega,key m' g2,g3⟩
theorem StkOk.pop {l:List TLine}{e i:Nat}{es:List Nat}{x:TLine}(h:StkOk l e i es)(hx:l[i]?=some x)(h7:x.fKind=7):(es=[]∧i=e)∨∃es',es=i::es'∧StkOk l e (i+1) es':=by
 have ho:¬opensK x.fKind=true:=by rw[opensK_iff];omega
 cases es with
 | nil=>
  unfold StkOk at h
  rw[endN_at hx,if_neg ho,if_pos h7,if_pos rfl]at h
  injection h with h
  exact .inl ⟨rfl,h⟩
 | cons m' es=>
  obtain⟨g1,g2,g3⟩:=h
  rw[endN_at hx,if_neg ho,if_pos h7,if_pos rfl]at g2
  injection g2 with g2
  subst g2
  exact .inr ⟨es,rfl,g3⟩
theorem StkOk.le {l:List TLine}{e:Nat}:∀{i:Nat} {es:List Nat},StkOk l e i es→i≤e
 | i,[],h=>(endN_lt h).1
 | i,m::es,h=>by
  have:=StkOk.le h.2.2
  have:=h.1
  omega
end Go.Proofs.YtjmplnfiabmalaaGreat
namespace Go.Proofs.YtjmplnfiabmalaaGreat
open Go.Sim
set_option maxRecDepth 100000
set_option maxHeartbeats 4000000
inductive Ex where
 | node (t:TTok) (es:List Ex)
mutual
def Ex.toks:Ex→List TTok
 | .node t es=>t::exToks es
def exToks:List Ex→List TTok
 | []=>[]
 | a::es=>a.toks++exToks es
end
mutual
def Ex.ok:Ex→Prop
 | .node t es=>tokOk t=true∧es.length=ar t∧exsOk es
def exsOk:List Ex→Prop
 | []=>True
 | a::es=>a.ok∧exsOk es
end
theorem Ex.toks_pos (e:Ex):0 < e.toks.length:=by cases e;simp[Ex.toks]
theorem exToks_append:∀(a b:List Ex),exToks (a++b)=exToks a++exToks b
 | [],b=>by rw[List.nil_append,exToks,List.nil_append]
 | x::a,b=>by rw[List.cons_append,exToks,exToks,exToks_append a b,List.append_assoc]
theorem exsOk_take:∀{l:List Ex} (n:Nat),exsOk l→exsOk (l.take n)
 | [],n,h=>by rw[List.take_nil];exact h
 | x::l,0,h=>by rw[List.take_zero];trivial
 | x::l,n+1,h=>by rw[List.take_succ_cons];exact⟨h.1,exsOk_take n h.2⟩
theorem exsOk_drop:∀{l:List Ex} (n:Nat),exsOk l→exsOk (l.drop n)
 | [],n,h=>by rw[List.drop_nil];exact h
 | x::l,0,h=>h
 | x::l,n+1,h=>by rw[List.drop_succ_cons];exact exsOk_drop n h.2
theorem endL_parse:∀{l:List TTok} {p n e:Nat},endL l p n=some e→∃es:List Ex,es.length=n∧exsOk es∧∃rest,l=exToks es++rest∧p+(exToks es).length=e
 | l,p,0,e,h=>by
  have h:some p=some e:=by cases l <;> exact h
  injection h with h
  exact⟨[],rfl,trivial,l,rfl,by simp[exToks];omega⟩
 | [],_,_+1,_,h=>by rw[endL]at h;cases h
 | t::l,p,n+1,e,h=>by
  rw[endL]at h
  split at h
  ·rename_i hok
   obtain⟨es,h1,h2,rest,h3,h4⟩:=endL_parse h
   refine⟨.node t (es.take (ar t))::es.drop (ar t),by simp;omega,⟨⟨hok,by simp;omega,exsOk_take _ h2⟩,exsOk_drop _ h2⟩,rest,?_,?_⟩
   ·rw[exToks,Ex.toks,List.cons_append,←exToks_append,List.take_append_drop,List.cons_append,←h3]
   ·rw[exToks,Ex.toks,List.cons_append,←exToks_append,List.take_append_drop,List.length_cons];omega
  ·cases h
mutual
theorem Ex.endL:∀(e:Ex),e.ok→∀(r:List TTok) (p n:Nat),Go.Proofs.YtjmplnfiabmalaaGreat.endL (e.toks++r) p (n+1)=Go.Proofs.YtjmplnfiabmalaaGreat.endL r (p+e.toks.length) n
 | .node t es,h,r,p,n=>by
  rw[Ex.toks,List.cons_append,Go.Proofs.YtjmplnfiabmalaaGreat.endL,if_pos h.1,show n+ar t=n+es.length by rw[h.2.1],exs_endL es h.2.2,List.length_cons]
  congr 1;omega
theorem exs_endL:∀(es:List Ex),exsOk es→∀(r:List TTok) (p n:Nat),Go.Proofs.YtjmplnfiabmalaaGreat.endL (exToks es++r) p (n+es.length)=Go.Proofs.YtjmplnfiabmalaaGreat.endL r (p+(exToks es).length) n
 | [],_,r,p,n=>by rw[exToks];simp
 | a::es,h,r,p,n=>by
  rw[exToks,List.append_assoc,List.length_cons,show n+(es.length+1)=(n+es.length)+1 by omega,Ex.endL a h.1,exs_endL es h.2,List.length_append]
  congr 1;omega
end
theorem exprOk_parse {l:List TTok}(h:exprOk l=true):∃e:Ex,e.ok∧l=e.toks:=by
 unfold exprOk at h
 simp only[Bool.and_eq_true,decide_eq_true_eq,beq_iff_eq]at h
 obtain⟨_,h1,h2⟩:=h
 rw[exprEnd,if_pos (by omega)]at h2
 show ∃e:Ex,e.ok∧l=e.toks
 cases he:Go.Proofs.YtjmplnfiabmalaaGreat.endL (l.drop (0:Int).toNat) (0:Int).toNat 1 with
 | none=>rw[he]at h2;simp only[endI]at h2;omega
 | some e=>
  rw[he]at h2
  simp only[endI]at h2
  obtain⟨es,g1,g2,rest,g3,g4⟩:=endL_parse he
  match es,g1 with
  | [a],_=>
   rw[exToks,exToks,List.append_nil]at g3 g4
   have e0:l.drop (0:Int).toNat=l:=rfl
   rw[e0]at g3
   have:rest=[]:=by
    have:=congrArg List.length g3
    rw[List.length_append]at this
    have e1:(0:Int).toNat=0:=rfl
    rw[e1]at g4
    exact List.length_eq_zero_iff.1 (by omega)
   subst this
   exact⟨a,g2.1,by rw[g3,List.append_nil]⟩
def stands (l:List TTok)(p:Nat)(e:Ex):Prop:=∃r,l.drop p=e.toks++r
def standAll (l:List TTok)(p:Nat)(es:List Ex):Prop:=∃r,l.drop p=exToks es++r
theorem stands_end {l:List TTok}{p:Nat}{e:Ex}(h:stands l p e)(ho:e.ok):exprEnd l (p:Int)=((p+e.toks.length:Nat):Int):=by
 obtain⟨r,h⟩:=h
 rw[exprEnd,if_pos (by omega),Int.toNat_natCast,h,show(1:Nat)=0+1 from rfl,Ex.endL e ho]
 cases r <;> rfl
theorem stands_tok {l:List TTok}{p:Nat}{t:TTok}{es:List Ex}(h:stands l p (.node t es)):l[p]?=some t∧standAll l (p+1) es:=by
 obtain⟨r,h⟩:=h
 rw[Ex.toks,List.cons_append]at h
 refine⟨?_,r,?_⟩
 ·have:=congrArg (·[0]?) h
  simpa [List.getElem?_drop]using this
 ·have:=congrArg (·.drop 1) h
  simpa [List.drop_drop]using this
theorem standAll_cons {l:List TTok}{p:Nat}{a:Ex}{es:List Ex}(h:standAll l p (a::es)):stands l p a∧standAll l (p+a.toks.length) es:=by
 obtain⟨r,h⟩:=h
 rw[exToks,List.append_assoc]at h
 refine⟨⟨_,h⟩,r,?_⟩
 rw[←List.drop_drop,h,List.drop_left]
def posL:Nat→List Ex→List Nat
 | _,[]=>[]
 | p,a::es=>p::posL (p+a.toks.length) es
theorem posL_len:∀(p:Nat) (es:List Ex),(posL p es).length=es.length
 | _,[]=>rfl
 | p,a::es=>by rw[posL,List.length_cons,posL_len,List.length_cons]
theorem posL_at:∀{l:List TTok} {p:Nat} {es:List Ex} {k:Nat} {a:Ex},standAll l p es→es[k]?=some a→∃q,(posL p es)[k]?=some q∧stands l q a
 | _,_,[],_,_,_,h=>by simp at h
 | l,p,b::es,0,a,hs,h=>by
  rw[List.getElem?_cons_zero]at h
  injection h with h
  subst h
  exact⟨p,by rw[posL,List.getElem?_cons_zero],(standAll_cons hs).1⟩
 | l,p,b::es,k+1,a,hs,h=>by
  rw[List.getElem?_cons_succ]at h
  obtain⟨q,h1,h2⟩:=posL_at (standAll_cons hs).2 h
  exact⟨q,by rw[posL,List.getElem?_cons_succ];exact h1,h2⟩
theorem tok_kinds {t:TTok}(h:tokOk t=true):t.fKind=0∨t.fKind=1∨t.fKind=7∨(2≤t.fKind∧t.fKind≤6):=by
 unfold tokOk at h
 split at h
 ·omega
 ·split at h
  ·omega
  ·split at h
   ·omega
   ·simp only[Bool.and_eq_true,within_iff]at h
    omega
theorem ar_kind {t:TTok}(h:tokOk t=true):((t.fKind=0∨t.fKind=1)→ar t=0)∧(t.fKind=7→(ar t:Int)=t.fNum)∧(2≤t.fKind→t.fKind≤6→ar t=2):=by
 obtain⟨e1,_⟩:=ar_eq h
 unfold arity at e1
 rw[if_neg (by simp[h])]at e1
 refine⟨fun h0=>?_,fun h7=>?_,fun h2 h6=>?_⟩
 ·rw[if_neg (by omega),if_pos h0]at e1;omega
 ·rw[if_pos h7]at e1;omega
 ·rw[if_neg (by omega),if_neg (by omega)]at e1;omega
theorem standAll_at:∀{l:List TTok} {p:Nat} {es:List Ex} {j:Nat} {a:Ex},standAll l p es→es[j]?=some a→stands l (p+(exToks (es.take j)).length) a
 | _,_,[],_,_,_,h=>by simp at h
 | l,p,b::es,0,a,hs,h=>by
  rw[List.getElem?_cons_zero]at h
  injection h with h
  subst h
  simpa [exToks]using(standAll_cons hs).1
 | l,p,b::es,j+1,a,hs,h=>by
  rw[List.getElem?_cons_succ]at h
  have:=standAll_at (standAll_cons hs).2 h
  rw[List.take_succ_cons,exToks,List.length_append,←Nat.add_assoc]
  exact this
end Go.Proofs.YtjmplnfiabmalaaGreat
