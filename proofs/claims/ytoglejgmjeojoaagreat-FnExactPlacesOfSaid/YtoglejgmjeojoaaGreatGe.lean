import Derived.Test.YtoglejgmjeojoaaGreatGd
import Derived.Test.YtoglejgmjeojoaaGreatRows
namespace Go.Sim
theorem K1 {p:Prop}(h:p:=by simp;omega):p:=h
theorem K2 {k:IntKind}{a b:Int}(h:a=b:=by(try simp(disch:=omega)only[IntWalk.i64_in])):Tr.int k a=Tr.int k b:=congrArg (Tr.int k) h
theorem K3 {p:Prop}(h:False:=by simp at *;omega):p:=h.elim
theorem K4 {p:Prop}(h:p:=by dsimp only;rw[IntWalk.i64_in _ (by omega)];rfl):p:=h
theorem K5 {p:Prop}(h:False:=by simp(disch:=omega)only[IntWalk.i64_in]at *;simp only[beq_iff_eq]at *;omega):p:=h.elim
theorem K6 {p:Prop}(h:False:=by simp only[beq_iff_eq]at *;omega):p:=h.elim
theorem K7 {p:Prop}(h:p:=by simp <;> omega):p:=h
theorem KD {p:Prop}(h:p:=by dsimp only;omega):p:=h
end Go.Sim
namespace Go.Proofs.YtoglejgmjeojoaaGreat
open Go.Sim
def Γ:Env:=[
 (1,{size:=1,bytes:=8,agg:=false,zero:=[AC.opq]}),
 (2,{size:=1,bytes:=8,agg:=false,zero:=[AC.t (Tr.int Go.IntKind.i64 (Int.ofNat 0))],kind:=some Go.IntKind.i64}),
 (3,{size:=1,bytes:=8,agg:=false,zero:=[AC.t (Tr.int Go.IntKind.i64 (Int.ofNat 0))],kind:=some Go.IntKind.i64}),
 (4,{size:=1,bytes:=1,agg:=false,zero:=[AC.t (Tr.bool false)],bool:=true}),
 (5,{size:=1,bytes:=1,agg:=false,zero:=[AC.t (Tr.int Go.IntKind.u8 (Int.ofNat 0))],kind:=some Go.IntKind.u8}),
 (6,{size:=1,bytes:=1,agg:=false,zero:=[AC.t (Tr.int Go.IntKind.u8 (Int.ofNat 0))],kind:=some Go.IntKind.u8}),
 (7,{size:=4,bytes:=24,agg:=true,zero:=[AC.t (Tr.int Go.IntKind.i64 (Int.ofNat 0)),AC.t (Tr.int Go.IntKind.i64 (Int.ofNat 0)),AC.t (Tr.bool false),AC.t (Tr.int Go.IntKind.u8 (Int.ofNat 0))],fields:=[(0,1,2),(1,1,3),(2,1,4),(3,1,6)]}),
 (8,{size:=4,bytes:=24,agg:=true,zero:=[AC.t (Tr.int Go.IntKind.i64 (Int.ofNat 0)),AC.t (Tr.int Go.IntKind.i64 (Int.ofNat 0)),AC.t (Tr.bool false),AC.t (Tr.int Go.IntKind.u8 (Int.ofNat 0))],fields:=[(0,1,2),(1,1,3),(2,1,4),(3,1,6)]}),
 (9,{size:=1,bytes:=16,agg:=false,zero:=[AC.t (Tr.str [])],str:=true}),
 (10,{size:=1,bytes:=16,agg:=false,zero:=[AC.t (Tr.str [])],str:=true}),
 (11,{size:=1,bytes:=16,agg:=false,zero:=[AC.t (Tr.str [])],str:=true}),
 (12,{size:=1,bytes:=8,agg:=false,zero:=[AC.t (Tr.int Go.IntKind.u64 (Int.ofNat 0))],kind:=some Go.IntKind.u64}),
 (13,{size:=2,bytes:=24,agg:=true,zero:=[AC.t (Tr.str []),AC.t (Tr.int Go.IntKind.u64 (Int.ofNat 0))],fields:=[(0,1,9),(1,1,12)]}),
 (14,{size:=2,bytes:=24,agg:=true,zero:=[AC.t (Tr.str []),AC.t (Tr.int Go.IntKind.u64 (Int.ofNat 0))],fields:=[(0,1,9),(1,1,12)]}),
 (15,{size:=1,bytes:=8,agg:=false,zero:=[AC.nilp]}),
 (16,{size:=1,bytes:=8,agg:=false,zero:=[AC.nilp]}),
 (17,{size:=1,bytes:=8,agg:=false,zero:=[AC.nilp]}),
 (18,{size:=1,bytes:=8,agg:=true,zero:=[AC.nilp],fields:=[(0,1,17)]}),
 (19,{size:=1,bytes:=8,agg:=true,zero:=[AC.nilp],fields:=[(0,1,17)]}),
 (20,{size:=1,bytes:=16,agg:=false,zero:=[AC.opq]}),
 (21,{size:=1,bytes:=4,agg:=false,zero:=[AC.t (Tr.int Go.IntKind.i32 (Int.ofNat 0))],kind:=some Go.IntKind.i32}),
 (22,{size:=1,bytes:=24,agg:=false,zero:=[AC.nils 0],elem:=some 5}),
 (23,{size:=1,bytes:=8,agg:=false,zero:=[AC.opq]}),
 (24,{size:=1,bytes:=24,agg:=false,zero:=[AC.nils 0],elem:=some 138}),
 (25,{size:=4,bytes:=24,agg:=true,zero:=[AC.t (Tr.int Go.IntKind.i64 (Int.ofNat 0)),AC.t (Tr.int Go.IntKind.i64 (Int.ofNat 0)),AC.t (Tr.bool false),AC.t (Tr.bool false)],fields:=[(0,1,3),(1,1,3),(2,1,4),(3,1,4)]}),
 (26,{size:=4,bytes:=24,agg:=true,zero:=[AC.t (Tr.int Go.IntKind.i64 (Int.ofNat 0)),AC.t (Tr.int Go.IntKind.i64 (Int.ofNat 0)),AC.t (Tr.bool false),AC.t (Tr.bool false)],fields:=[(0,1,3),(1,1,3),(2,1,4),(3,1,4)]}),
 (27,{size:=1,bytes:=24,agg:=false,zero:=[AC.nils 0],elem:=some 93}),
 (28,{size:=1,bytes:=24,agg:=false,zero:=[AC.nils 0],elem:=some 3}),
 (29,{size:=3,bytes:=72,agg:=true,zero:=[AC.nils 0,AC.nils 0,AC.nils 0],fields:=[(0,1,27),(1,1,28),(2,1,28)]}),
 (30,{size:=3,bytes:=72,agg:=true,zero:=[AC.nils 0,AC.nils 0,AC.nils 0],fields:=[(0,1,27),(1,1,28),(2,1,28)]}),
 (32,{size:=1,bytes:=8,agg:=false,zero:=[AC.opq]}),
 (33,{size:=1,bytes:=24,agg:=false,zero:=[AC.nils 0],elem:=some 118}),
 (34,{size:=1,bytes:=8,agg:=false,zero:=[AC.opq]}),
 (35,{size:=1,bytes:=24,agg:=false,zero:=[AC.nils 0],elem:=some 103}),
 (36,{size:=1,bytes:=8,agg:=false,zero:=[AC.opq]}),
 (37,{size:=1,bytes:=24,agg:=false,zero:=[AC.nils 0],elem:=some 33}),
 (38,{size:=7,bytes:=88,agg:=true,zero:=[AC.t (Tr.int Go.IntKind.i64 (Int.ofNat 0)),AC.t (Tr.int Go.IntKind.i64 (Int.ofNat 0)),AC.t (Tr.int Go.IntKind.i64 (Int.ofNat 0)),AC.nils 0,AC.nils 0,AC.t (Tr.int Go.IntKind.i64 (Int.ofNat 0)),AC.t (Tr.int Go.IntKind.i64 (Int.ofNat 0))],fields:=[(0,1,3),(1,1,3),(2,1,3),(3,1,28),(4,1,28),(5,1,3),(6,1,3)]}),
 (39,{size:=7,bytes:=88,agg:=true,zero:=[AC.t (Tr.int Go.IntKind.i64 (Int.ofNat 0)),AC.t (Tr.int Go.IntKind.i64 (Int.ofNat 0)),AC.t (Tr.int Go.IntKind.i64 (Int.ofNat 0)),AC.nils 0,AC.nils 0,AC.t (Tr.int Go.IntKind.i64 (Int.ofNat 0)),AC.t (Tr.int Go.IntKind.i64 (Int.ofNat 0))],fields:=[(0,1,3),(1,1,3),(2,1,3),(3,1,28),(4,1,28),(5,1,3),(6,1,3)]}),
 (41,{size:=1,bytes:=8,agg:=false,zero:=[AC.opq]}),
 (43,{size:=1,bytes:=8,agg:=false,zero:=[AC.opq]}),
 (44,{size:=4,bytes:=48,agg:=true,zero:=[AC.t (Tr.int Go.IntKind.i64 (Int.ofNat 0)),AC.t (Tr.int Go.IntKind.i64 (Int.ofNat 0)),AC.t (Tr.int Go.IntKind.i64 (Int.ofNat 0)),AC.nils 0],fields:=[(0,1,3),(1,1,3),(2,1,3),(3,1,28)]}),
 (45,{size:=4,bytes:=48,agg:=true,zero:=[AC.t (Tr.int Go.IntKind.i64 (Int.ofNat 0)),AC.t (Tr.int Go.IntKind.i64 (Int.ofNat 0)),AC.t (Tr.int Go.IntKind.i64 (Int.ofNat 0)),AC.nils 0],fields:=[(0,1,3),(1,1,3),(2,1,3),(3,1,28)]}),
 (46,{size:=1,bytes:=8,agg:=false,zero:=[AC.opq]}),
 (47,{size:=2,bytes:=16,agg:=true,zero:=[AC.t (Tr.int Go.IntKind.i64 (Int.ofNat 0)),AC.t (Tr.int Go.IntKind.i64 (Int.ofNat 0))],fields:=[(0,1,3),(1,1,3)]}),
 (48,{size:=2,bytes:=16,agg:=true,zero:=[AC.t (Tr.int Go.IntKind.i64 (Int.ofNat 0)),AC.t (Tr.int Go.IntKind.i64 (Int.ofNat 0))],fields:=[(0,1,3),(1,1,3)]}),
 (50,{size:=1,bytes:=8,agg:=false,zero:=[AC.opq]}),
 (51,{size:=1,bytes:=8,agg:=false,zero:=[AC.opq]}),
 (53,{size:=1,bytes:=8,agg:=false,zero:=[AC.opq]}),
 (54,{size:=1,bytes:=8,agg:=false,zero:=[AC.opq]}),
 (56,{size:=1,bytes:=8,agg:=false,zero:=[AC.opq]}),
 (57,{size:=1,bytes:=8,agg:=false,zero:=[AC.opq]}),
 (58,{size:=1,bytes:=8,agg:=false,zero:=[AC.opq]}),
 (59,{size:=1,bytes:=24,agg:=false,zero:=[AC.nils 0],elem:=some 135}),
 (60,{size:=4,bytes:=24,agg:=true,zero:=[AC.t (Tr.int Go.IntKind.i64 (Int.ofNat 0)),AC.t (Tr.int Go.IntKind.i64 (Int.ofNat 0)),AC.t (Tr.bool false),AC.t (Tr.bool false)],fields:=[(0,1,3),(1,1,3),(2,1,4),(3,1,4)]}),
 (61,{size:=1,bytes:=8,agg:=false,zero:=[AC.opq]}),
 (62,{size:=1,bytes:=8,agg:=false,zero:=[AC.opq]}),
 (63,{size:=1,bytes:=8,agg:=false,zero:=[AC.opq]}),
 (64,{size:=1,bytes:=8,agg:=false,zero:=[AC.opq]}),
 (65,{size:=1,bytes:=8,agg:=false,zero:=[AC.opq]}),
 (66,{size:=1,bytes:=8,agg:=false,zero:=[AC.opq]}),
 (67,{size:=1,bytes:=8,agg:=false,zero:=[AC.opq]}),
 (68,{size:=1,bytes:=8,agg:=false,zero:=[AC.opq]}),
 (70,{size:=1,bytes:=8,agg:=false,zero:=[AC.opq]}),
 (71,{size:=1,bytes:=8,agg:=false,zero:=[AC.opq]}),
 (72,{size:=1,bytes:=8,agg:=false,zero:=[AC.opq]}),
 (73,{size:=1,bytes:=8,agg:=false,zero:=[AC.opq]}),
 (75,{size:=1,bytes:=8,agg:=false,zero:=[AC.opq]}),
 (76,{size:=1,bytes:=24,agg:=false,zero:=[AC.nils 0],elem:=some 28}),
 (77,{size:=4,bytes:=64,agg:=true,zero:=[AC.nils 0,AC.nils 0,AC.t (Tr.int Go.IntKind.i64 (Int.ofNat 0)),AC.t (Tr.int Go.IntKind.i64 (Int.ofNat 0))],fields:=[(0,1,28),(1,1,76),(2,1,3),(3,1,3)]}),
 (78,{size:=4,bytes:=64,agg:=true,zero:=[AC.nils 0,AC.nils 0,AC.t (Tr.int Go.IntKind.i64 (Int.ofNat 0)),AC.t (Tr.int Go.IntKind.i64 (Int.ofNat 0))],fields:=[(0,1,28),(1,1,76),(2,1,3),(3,1,3)]}),
 (79,{size:=1,bytes:=8,agg:=false,zero:=[AC.opq]}),
 (81,{size:=1,bytes:=8,agg:=false,zero:=[AC.opq]}),
 (82,{size:=1,bytes:=24,agg:=false,zero:=[AC.nils 0],elem:=some 111}),
 (83,{size:=1,bytes:=24,agg:=false,zero:=[AC.nils 0],elem:=some 186}),
 (84,{size:=1,bytes:=24,agg:=false,zero:=[AC.nils 0],elem:=some 192}),
 (85,{size:=5,bytes:=104,agg:=true,zero:=[AC.t (Tr.int Go.IntKind.i64 (Int.ofNat 0)),AC.nils 0,AC.nils 0,AC.nils 0,AC.nils 0],fields:=[(0,1,3),(1,1,82),(2,1,33),(3,1,83),(4,1,84)]}),
 (86,{size:=5,bytes:=104,agg:=true,zero:=[AC.t (Tr.int Go.IntKind.i64 (Int.ofNat 0)),AC.nils 0,AC.nils 0,AC.nils 0,AC.nils 0],fields:=[(0,1,3),(1,1,82),(2,1,33),(3,1,83),(4,1,84)]}),
 (87,{size:=1,bytes:=8,agg:=false,zero:=[AC.opq]}),
 (88,{size:=1,bytes:=8,agg:=false,zero:=[AC.opq]}),
 (90,{size:=1,bytes:=8,agg:=false,zero:=[AC.opq]}),
 (91,{size:=1,bytes:=8,agg:=false,zero:=[AC.opq]}),
 (92,{size:=2,bytes:=40,agg:=true,zero:=[AC.t (Tr.str []),AC.nils 0],fields:=[(0,1,9),(1,1,82)]}),
 (93,{size:=2,bytes:=40,agg:=true,zero:=[AC.t (Tr.str []),AC.nils 0],fields:=[(0,1,9),(1,1,82)]}),
 (94,{size:=1,bytes:=8,agg:=false,zero:=[AC.opq]}),
 (95,{size:=1,bytes:=8,agg:=false,zero:=[AC.opq]}),
 (96,{size:=1,bytes:=8,agg:=false,zero:=[AC.opq]}),
 (97,{size:=1,bytes:=8,agg:=false,zero:=[AC.opq]}),
 (98,{size:=1,bytes:=8,agg:=false,zero:=[AC.opq]}),
 (99,{size:=1,bytes:=8,agg:=false,zero:=[AC.opq]}),
 (100,{size:=7,bytes:=72,agg:=true,zero:=[AC.t (Tr.int Go.IntKind.i64 (Int.ofNat 0)),AC.t (Tr.int Go.IntKind.i64 (Int.ofNat 0)),AC.t (Tr.int Go.IntKind.i64 (Int.ofNat 0)),AC.t (Tr.bool false),AC.nils 0,AC.t (Tr.int Go.IntKind.i64 (Int.ofNat 0)),AC.t (Tr.bool false)],fields:=[(0,2,48),(2,1,3),(3,1,4),(4,1,28),(5,1,3),(6,1,4)]}),
 (101,{size:=7,bytes:=72,agg:=true,zero:=[AC.t (Tr.int Go.IntKind.i64 (Int.ofNat 0)),AC.t (Tr.int Go.IntKind.i64 (Int.ofNat 0)),AC.t (Tr.int Go.IntKind.i64 (Int.ofNat 0)),AC.t (Tr.bool false),AC.nils 0,AC.t (Tr.int Go.IntKind.i64 (Int.ofNat 0)),AC.t (Tr.bool false)],fields:=[(0,2,48),(2,1,3),(3,1,4),(4,1,28),(5,1,3),(6,1,4)]}),
 (102,{size:=8,bytes:=80,agg:=true,zero:=[AC.t (Tr.int Go.IntKind.i64 (Int.ofNat 0)),AC.t (Tr.int Go.IntKind.i64 (Int.ofNat 0)),AC.t (Tr.int Go.IntKind.i64 (Int.ofNat 0)),AC.t (Tr.int Go.IntKind.i64 (Int.ofNat 0)),AC.t (Tr.bool false),AC.nils 0,AC.t (Tr.int Go.IntKind.i64 (Int.ofNat 0)),AC.t (Tr.bool false)],fields:=[(0,1,3),(1,7,101)]}),
 (103,{size:=8,bytes:=80,agg:=true,zero:=[AC.t (Tr.int Go.IntKind.i64 (Int.ofNat 0)),AC.t (Tr.int Go.IntKind.i64 (Int.ofNat 0)),AC.t (Tr.int Go.IntKind.i64 (Int.ofNat 0)),AC.t (Tr.int Go.IntKind.i64 (Int.ofNat 0)),AC.t (Tr.bool false),AC.nils 0,AC.t (Tr.int Go.IntKind.i64 (Int.ofNat 0)),AC.t (Tr.bool false)],fields:=[(0,1,3),(1,7,101)]}),
 (104,{size:=1,bytes:=24,agg:=false,zero:=[AC.nils 0],elem:=some 108}),
 (106,{size:=1,bytes:=8,agg:=false,zero:=[AC.opq]}),
 (107,{size:=2,bytes:=24,agg:=true,zero:=[AC.t (Tr.str []),AC.t (Tr.int Go.IntKind.i64 (Int.ofNat 0))],fields:=[(0,1,9),(1,1,3)]}),
 (108,{size:=2,bytes:=24,agg:=true,zero:=[AC.t (Tr.str []),AC.t (Tr.int Go.IntKind.i64 (Int.ofNat 0))],fields:=[(0,1,9),(1,1,3)]}),
 (109,{size:=1,bytes:=8,agg:=false,zero:=[AC.opq]}),
 (110,{size:=3,bytes:=32,agg:=true,zero:=[AC.t (Tr.str []),AC.t (Tr.int Go.IntKind.i64 (Int.ofNat 0)),AC.t (Tr.int Go.IntKind.i64 (Int.ofNat 0))],fields:=[(0,1,9),(1,1,3),(2,1,3)]}),
 (111,{size:=3,bytes:=32,agg:=true,zero:=[AC.t (Tr.str []),AC.t (Tr.int Go.IntKind.i64 (Int.ofNat 0)),AC.t (Tr.int Go.IntKind.i64 (Int.ofNat 0))],fields:=[(0,1,9),(1,1,3),(2,1,3)]}),
 (112,{size:=1,bytes:=8,agg:=false,zero:=[AC.opq]}),
 (113,{size:=1,bytes:=8,agg:=false,zero:=[AC.nilp]}),
 (114,{size:=1,bytes:=8,agg:=false,zero:=[AC.opq]}),
 (115,{size:=1,bytes:=8,agg:=false,zero:=[AC.opq]}),
 (116,{size:=1,bytes:=8,agg:=false,zero:=[AC.opq]}),
 (117,{size:=4,bytes:=32,agg:=true,zero:=[AC.t (Tr.int Go.IntKind.i64 (Int.ofNat 0)),AC.t (Tr.int Go.IntKind.i64 (Int.ofNat 0)),AC.t (Tr.bool false),AC.t (Tr.int Go.IntKind.i64 (Int.ofNat 0))],fields:=[(0,1,3),(1,1,3),(2,1,4),(3,1,3)]}),
 (118,{size:=4,bytes:=32,agg:=true,zero:=[AC.t (Tr.int Go.IntKind.i64 (Int.ofNat 0)),AC.t (Tr.int Go.IntKind.i64 (Int.ofNat 0)),AC.t (Tr.bool false),AC.t (Tr.int Go.IntKind.i64 (Int.ofNat 0))],fields:=[(0,1,3),(1,1,3),(2,1,4),(3,1,3)]}),
 (119,{size:=1,bytes:=8,agg:=false,zero:=[AC.opq]}),
 (120,{size:=1,bytes:=8,agg:=false,zero:=[AC.opq]}),
 (121,{size:=1,bytes:=8,agg:=false,zero:=[AC.opq]}),
 (122,{size:=1,bytes:=8,agg:=false,zero:=[AC.opq]}),
 (123,{size:=1,bytes:=24,agg:=false,zero:=[AC.nils 0],elem:=some 101}),
 (124,{size:=1,bytes:=8,agg:=false,zero:=[AC.opq]}),
 (125,{size:=1,bytes:=8,agg:=false,zero:=[AC.opq]}),
 (127,{size:=1,bytes:=8,agg:=false,zero:=[AC.opq]}),
 (128,{size:=1,bytes:=8,agg:=false,zero:=[AC.opq]}),
 (129,{size:=1,bytes:=8,agg:=false,zero:=[AC.opq]}),
 (130,{size:=1,bytes:=8,agg:=false,zero:=[AC.opq]}),
 (131,{size:=1,bytes:=8,agg:=false,zero:=[AC.opq]}),
 (132,{size:=1,bytes:=24,agg:=false,zero:=[AC.nils 0],elem:=some 9}),
 (133,{size:=1,bytes:=24,agg:=false,zero:=[AC.nils 0],elem:=some 265}),
 (134,{size:=4,bytes:=72,agg:=true,zero:=[AC.t (Tr.int Go.IntKind.i64 (Int.ofNat 0)),AC.t (Tr.str []),AC.nils 0,AC.nils 0],fields:=[(0,1,3),(1,1,9),(2,1,132),(3,1,133)]}),
 (135,{size:=4,bytes:=72,agg:=true,zero:=[AC.t (Tr.int Go.IntKind.i64 (Int.ofNat 0)),AC.t (Tr.str []),AC.nils 0,AC.nils 0],fields:=[(0,1,3),(1,1,9),(2,1,132),(3,1,133)]}),
 (136,{size:=1,bytes:=24,agg:=false,zero:=[AC.nils 0],elem:=some 221}),
 (137,{size:=4,bytes:=72,agg:=true,zero:=[AC.t (Tr.int Go.IntKind.i64 (Int.ofNat 0)),AC.t (Tr.str []),AC.nils 0,AC.nils 0],fields:=[(0,1,3),(1,1,9),(2,1,132),(3,1,136)]}),
 (138,{size:=4,bytes:=72,agg:=true,zero:=[AC.t (Tr.int Go.IntKind.i64 (Int.ofNat 0)),AC.t (Tr.str []),AC.nils 0,AC.nils 0],fields:=[(0,1,3),(1,1,9),(2,1,132),(3,1,136)]}),
 (139,{size:=1,bytes:=8,agg:=false,zero:=[AC.opq]}),
 (140,{size:=1,bytes:=24,agg:=false,zero:=[AC.nils 0],elem:=some 35}),
 (142,{size:=1,bytes:=8,agg:=false,zero:=[AC.opq]}),
 (143,{size:=1,bytes:=8,agg:=false,zero:=[AC.opq]}),
 (144,{size:=1,bytes:=8,agg:=false,zero:=[AC.opq]}),
 (145,{size:=1,bytes:=8,agg:=false,zero:=[AC.opq]}),
 (146,{size:=1,bytes:=8,agg:=false,zero:=[AC.opq]}),
 (147,{size:=1,bytes:=8,agg:=false,zero:=[AC.opq]}),
 (148,{size:=1,bytes:=8,agg:=false,zero:=[AC.opq]}),
 (149,{size:=1,bytes:=8,agg:=false,zero:=[AC.opq]}),
 (150,{size:=1,bytes:=8,agg:=false,zero:=[AC.opq]}),
 (151,{size:=1,bytes:=8,agg:=false,zero:=[AC.opq]}),
 (152,{size:=1,bytes:=8,agg:=false,zero:=[AC.opq]}),
 (153,{size:=1,bytes:=8,agg:=false,zero:=[AC.nilp]}),
 (154,{size:=7,bytes:=120,agg:=true,zero:=[AC.nils 0,AC.t (Tr.int Go.IntKind.i64 (Int.ofNat 0)),AC.nils 0,AC.nils 0,AC.t (Tr.int Go.IntKind.i64 (Int.ofNat 0)),AC.t (Tr.int Go.IntKind.i64 (Int.ofNat 0)),AC.nils 0],fields:=[(0,1,24),(1,1,3),(2,4,78),(6,1,28)]}),
 (155,{size:=7,bytes:=120,agg:=true,zero:=[AC.nils 0,AC.t (Tr.int Go.IntKind.i64 (Int.ofNat 0)),AC.nils 0,AC.nils 0,AC.t (Tr.int Go.IntKind.i64 (Int.ofNat 0)),AC.t (Tr.int Go.IntKind.i64 (Int.ofNat 0)),AC.nils 0],fields:=[(0,1,24),(1,1,3),(2,4,78),(6,1,28)]}),
 (156,{size:=1,bytes:=8,agg:=false,zero:=[AC.opq]}),
 (157,{size:=1,bytes:=8,agg:=false,zero:=[AC.opq]}),
 (158,{size:=1,bytes:=8,agg:=false,zero:=[AC.opq]}),
 (159,{size:=1,bytes:=8,agg:=false,zero:=[AC.opq]}),
 (160,{size:=1,bytes:=8,agg:=false,zero:=[AC.opq]}),
 (161,{size:=1,bytes:=8,agg:=false,zero:=[AC.opq]}),
 (162,{size:=1,bytes:=8,agg:=false,zero:=[AC.opq]}),
 (163,{size:=1,bytes:=8,agg:=false,zero:=[AC.opq]}),
 (164,{size:=1,bytes:=8,agg:=false,zero:=[AC.opq]}),
 (165,{size:=1,bytes:=8,agg:=false,zero:=[AC.opq]}),
 (166,{size:=1,bytes:=8,agg:=false,zero:=[AC.opq]}),
 (167,{size:=1,bytes:=8,agg:=false,zero:=[AC.opq]}),
 (168,{size:=1,bytes:=8,agg:=false,zero:=[AC.opq]}),
 (169,{size:=1,bytes:=8,agg:=false,zero:=[AC.nilp]}),
 (170,{size:=3,bytes:=32,agg:=true,zero:=[AC.t (Tr.str []),AC.t (Tr.int Go.IntKind.i64 (Int.ofNat 0)),AC.t (Tr.bool false)],fields:=[(0,1,9),(1,1,3),(2,1,4)]}),
 (171,{size:=3,bytes:=32,agg:=true,zero:=[AC.t (Tr.str []),AC.t (Tr.int Go.IntKind.i64 (Int.ofNat 0)),AC.t (Tr.bool false)],fields:=[(0,1,9),(1,1,3),(2,1,4)]}),
 (172,{size:=1,bytes:=8,agg:=false,zero:=[AC.opq]}),
 (173,{size:=1,bytes:=8,agg:=false,zero:=[AC.opq]}),
 (174,{size:=1,bytes:=8,agg:=false,zero:=[AC.opq]}),
 (176,{size:=1,bytes:=8,agg:=false,zero:=[AC.opq]}),
 (178,{size:=1,bytes:=8,agg:=false,zero:=[AC.opq]}),
 (180,{size:=1,bytes:=8,agg:=false,zero:=[AC.opq]}),
 (181,{size:=1,bytes:=8,agg:=false,zero:=[AC.opq]}),
 (182,{size:=1,bytes:=8,agg:=false,zero:=[AC.opq]}),
 (183,{size:=1,bytes:=8,agg:=false,zero:=[AC.opq]}),
 (184,{size:=1,bytes:=8,agg:=false,zero:=[AC.opq]}),
 (185,{size:=3,bytes:=24,agg:=true,zero:=[AC.t (Tr.int Go.IntKind.i64 (Int.ofNat 0)),AC.t (Tr.int Go.IntKind.i64 (Int.ofNat 0)),AC.t (Tr.bool false)],fields:=[(0,1,3),(1,1,3),(2,1,4)]}),
 (186,{size:=3,bytes:=24,agg:=true,zero:=[AC.t (Tr.int Go.IntKind.i64 (Int.ofNat 0)),AC.t (Tr.int Go.IntKind.i64 (Int.ofNat 0)),AC.t (Tr.bool false)],fields:=[(0,1,3),(1,1,3),(2,1,4)]}),
 (187,{size:=1,bytes:=8,agg:=false,zero:=[AC.opq]}),
 (188,{size:=1,bytes:=8,agg:=false,zero:=[AC.opq]}),
 (189,{size:=1,bytes:=8,agg:=false,zero:=[AC.opq]}),
 (190,{size:=1,bytes:=8,agg:=false,zero:=[AC.opq]}),
 (191,{size:=5,bytes:=48,agg:=true,zero:=[AC.t (Tr.int Go.IntKind.i64 (Int.ofNat 0)),AC.t (Tr.int Go.IntKind.i64 (Int.ofNat 0)),AC.t (Tr.int Go.IntKind.i64 (Int.ofNat 0)),AC.t (Tr.int Go.IntKind.i64 (Int.ofNat 0)),AC.t (Tr.str [])],fields:=[(0,1,3),(1,1,3),(2,1,3),(3,1,3),(4,1,9)]}),
 (192,{size:=5,bytes:=48,agg:=true,zero:=[AC.t (Tr.int Go.IntKind.i64 (Int.ofNat 0)),AC.t (Tr.int Go.IntKind.i64 (Int.ofNat 0)),AC.t (Tr.int Go.IntKind.i64 (Int.ofNat 0)),AC.t (Tr.int Go.IntKind.i64 (Int.ofNat 0)),AC.t (Tr.str [])],fields:=[(0,1,3),(1,1,3),(2,1,3),(3,1,3),(4,1,9)]}),
 (193,{size:=1,bytes:=8,agg:=false,zero:=[AC.opq]}),
 (194,{size:=1,bytes:=8,agg:=false,zero:=[AC.opq]}),
 (195,{size:=3,bytes:=40,agg:=true,zero:=[AC.nils 0,AC.t (Tr.int Go.IntKind.i64 (Int.ofNat 0)),AC.t (Tr.int Go.IntKind.i64 (Int.ofNat 0))],fields:=[(0,1,22),(1,1,3),(2,1,3)]}),
 (196,{size:=3,bytes:=40,agg:=true,zero:=[AC.nils 0,AC.t (Tr.int Go.IntKind.i64 (Int.ofNat 0)),AC.t (Tr.int Go.IntKind.i64 (Int.ofNat 0))],fields:=[(0,1,22),(1,1,3),(2,1,3)]}),
 (197,{size:=1,bytes:=8,agg:=false,zero:=[AC.opq]}),
 (198,{size:=1,bytes:=8,agg:=false,zero:=[AC.opq]}),
 (200,{size:=1,bytes:=8,agg:=false,zero:=[AC.opq]}),
 (201,{size:=1,bytes:=8,agg:=false,zero:=[AC.opq]}),
 (203,{size:=1,bytes:=8,agg:=false,zero:=[AC.opq]}),
 (204,{size:=1,bytes:=8,agg:=false,zero:=[AC.opq]}),
 (205,{size:=1,bytes:=8,agg:=false,zero:=[AC.opq]}),
 (206,{size:=1,bytes:=8,agg:=false,zero:=[AC.opq]}),
 (207,{size:=1,bytes:=8,agg:=false,zero:=[AC.nilp]}),
 (208,{size:=8,bytes:=96,agg:=true,zero:=[AC.t (Tr.int Go.IntKind.i64 (Int.ofNat 0)),AC.t (Tr.int Go.IntKind.i64 (Int.ofNat 0)),AC.t (Tr.int Go.IntKind.i64 (Int.ofNat 0)),AC.nils 0,AC.nils 0,AC.t (Tr.int Go.IntKind.i64 (Int.ofNat 0)),AC.t (Tr.int Go.IntKind.i64 (Int.ofNat 0)),AC.t (Tr.bool false)],fields:=[(0,7,39),(7,1,4)]}),
 (209,{size:=8,bytes:=96,agg:=true,zero:=[AC.t (Tr.int Go.IntKind.i64 (Int.ofNat 0)),AC.t (Tr.int Go.IntKind.i64 (Int.ofNat 0)),AC.t (Tr.int Go.IntKind.i64 (Int.ofNat 0)),AC.nils 0,AC.nils 0,AC.t (Tr.int Go.IntKind.i64 (Int.ofNat 0)),AC.t (Tr.int Go.IntKind.i64 (Int.ofNat 0)),AC.t (Tr.bool false)],fields:=[(0,7,39),(7,1,4)]}),
 (210,{size:=1,bytes:=8,agg:=false,zero:=[AC.opq]}),
 (211,{size:=1,bytes:=8,agg:=false,zero:=[AC.opq]}),
 (212,{size:=1,bytes:=8,agg:=false,zero:=[AC.opq]}),
 (213,{size:=1,bytes:=8,agg:=false,zero:=[AC.opq]}),
 (214,{size:=1,bytes:=8,agg:=false,zero:=[AC.opq]}),
 (215,{size:=1,bytes:=8,agg:=false,zero:=[AC.opq]}),
 (216,{size:=1,bytes:=8,agg:=false,zero:=[AC.opq]}),
 (217,{size:=1,bytes:=8,agg:=false,zero:=[AC.opq]}),
 (218,{size:=1,bytes:=8,agg:=false,zero:=[AC.opq]}),
 (219,{size:=1,bytes:=8,agg:=false,zero:=[AC.opq]}),
 (220,{size:=3,bytes:=32,agg:=true,zero:=[AC.t (Tr.int Go.IntKind.i64 (Int.ofNat 0)),AC.t (Tr.int Go.IntKind.i64 (Int.ofNat 0)),AC.t (Tr.str [])],fields:=[(0,1,3),(1,1,3),(2,1,9)]}),
 (221,{size:=3,bytes:=32,agg:=true,zero:=[AC.t (Tr.int Go.IntKind.i64 (Int.ofNat 0)),AC.t (Tr.int Go.IntKind.i64 (Int.ofNat 0)),AC.t (Tr.str [])],fields:=[(0,1,3),(1,1,3),(2,1,9)]}),
 (222,{size:=1,bytes:=8,agg:=false,zero:=[AC.opq]}),
 (223,{size:=1,bytes:=8,agg:=false,zero:=[AC.opq]}),
 (224,{size:=1,bytes:=8,agg:=false,zero:=[AC.opq]}),
 (225,{size:=1,bytes:=8,agg:=false,zero:=[AC.opq]}),
 (226,{size:=1,bytes:=8,agg:=false,zero:=[AC.opq]}),
 (227,{size:=1,bytes:=8,agg:=false,zero:=[AC.opq]}),
 (228,{size:=1,bytes:=8,agg:=false,zero:=[AC.opq]}),
 (229,{size:=1,bytes:=8,agg:=false,zero:=[AC.opq]}),
 (230,{size:=1,bytes:=8,agg:=false,zero:=[AC.nilp]}),
 (231,{size:=1,bytes:=8,agg:=false,zero:=[AC.nilp]}),
 (232,{size:=2,bytes:=16,agg:=true,zero:=[AC.nilp,AC.t (Tr.bool false)],fields:=[(0,1,231),(1,1,4)]}),
 (233,{size:=2,bytes:=16,agg:=true,zero:=[AC.nilp,AC.t (Tr.bool false)],fields:=[(0,1,231),(1,1,4)]}),
 (234,{size:=1,bytes:=8,agg:=false,zero:=[AC.opq]}),
 (235,{size:=1,bytes:=8,agg:=false,zero:=[AC.opq]}),
 (236,{size:=1,bytes:=8,agg:=false,zero:=[AC.opq]}),
 (237,{size:=1,bytes:=8,agg:=false,zero:=[AC.opq]}),
 (238,{size:=1,bytes:=8,agg:=false,zero:=[AC.t (Tr.int Go.IntKind.u64 (Int.ofNat 0))],kind:=some Go.IntKind.u64}),
 (240,{size:=1,bytes:=8,agg:=false,zero:=[AC.opq]}),
 (241,{size:=1,bytes:=8,agg:=false,zero:=[AC.opq]}),
 (243,{size:=1,bytes:=8,agg:=false,zero:=[AC.opq]}),
 (245,{size:=1,bytes:=8,agg:=false,zero:=[AC.opq]}),
 (246,{size:=1,bytes:=8,agg:=false,zero:=[AC.opq]}),
 (247,{size:=1,bytes:=8,agg:=false,zero:=[AC.opq]}),
 (248,{size:=1,bytes:=8,agg:=false,zero:=[AC.opq]}),
 (249,{size:=1,bytes:=8,agg:=false,zero:=[AC.opq]}),
 (250,{size:=1,bytes:=8,agg:=false,zero:=[AC.nilp]}),
 (251,{size:=1,bytes:=24,agg:=false,zero:=[AC.nils 0],elem:=some 255}),
 (252,{size:=13,bytes:=144,agg:=true,zero:=[AC.nils 0,AC.t (Tr.int Go.IntKind.i64 (Int.ofNat 0)),AC.t (Tr.int Go.IntKind.i64 (Int.ofNat 0)),AC.t (Tr.bool false),AC.t (Tr.bool false),AC.t (Tr.bool false),AC.t (Tr.int Go.IntKind.i64 (Int.ofNat 0)),AC.t (Tr.int Go.IntKind.i64 (Int.ofNat 0)),AC.t (Tr.int Go.IntKind.i64 (Int.ofNat 0)),AC.t (Tr.int Go.IntKind.i64 (Int.ofNat 0)),AC.nils 0,AC.nils 0,AC.t (Tr.bool false)],fields:=[(0,1,24),(1,4,26),(5,1,4),(6,1,3),(7,1,3),(8,1,3),(9,1,3),(10,1,123),(11,1,251),(12,1,4)]}),
 (253,{size:=13,bytes:=144,agg:=true,zero:=[AC.nils 0,AC.t (Tr.int Go.IntKind.i64 (Int.ofNat 0)),AC.t (Tr.int Go.IntKind.i64 (Int.ofNat 0)),AC.t (Tr.bool false),AC.t (Tr.bool false),AC.t (Tr.bool false),AC.t (Tr.int Go.IntKind.i64 (Int.ofNat 0)),AC.t (Tr.int Go.IntKind.i64 (Int.ofNat 0)),AC.t (Tr.int Go.IntKind.i64 (Int.ofNat 0)),AC.t (Tr.int Go.IntKind.i64 (Int.ofNat 0)),AC.nils 0,AC.nils 0,AC.t (Tr.bool false)],fields:=[(0,1,24),(1,4,26),(5,1,4),(6,1,3),(7,1,3),(8,1,3),(9,1,3),(10,1,123),(11,1,251),(12,1,4)]}),
 (254,{size:=6,bytes:=96,agg:=true,zero:=[AC.t (Tr.int Go.IntKind.i64 (Int.ofNat 0)),AC.nils 0,AC.nils 0,AC.t (Tr.int Go.IntKind.i64 (Int.ofNat 0)),AC.t (Tr.bool false),AC.nils 0],fields:=[(0,1,3),(1,1,28),(2,1,132),(3,1,3),(4,1,4),(5,1,28)]}),
 (255,{size:=6,bytes:=96,agg:=true,zero:=[AC.t (Tr.int Go.IntKind.i64 (Int.ofNat 0)),AC.nils 0,AC.nils 0,AC.t (Tr.int Go.IntKind.i64 (Int.ofNat 0)),AC.t (Tr.bool false),AC.nils 0],fields:=[(0,1,3),(1,1,28),(2,1,132),(3,1,3),(4,1,4),(5,1,28)]}),
 (256,{size:=1,bytes:=8,agg:=false,zero:=[AC.opq]}),
 (257,{size:=1,bytes:=24,agg:=false,zero:=[AC.nils 0],elem:=some 48}),
 (259,{size:=1,bytes:=8,agg:=false,zero:=[AC.opq]}),
 (260,{size:=1,bytes:=8,agg:=false,zero:=[AC.opq]}),
 (261,{size:=1,bytes:=8,agg:=false,zero:=[AC.opq]}),
 (262,{size:=1,bytes:=8,agg:=false,zero:=[AC.opq]}),
 (263,{size:=1,bytes:=8,agg:=false,zero:=[AC.opq]}),
 (264,{size:=1,bytes:=8,agg:=false,zero:=[AC.opq]}),
 (265,{size:=3,bytes:=32,agg:=true,zero:=[AC.t (Tr.int Go.IntKind.i64 (Int.ofNat 0)),AC.t (Tr.int Go.IntKind.i64 (Int.ofNat 0)),AC.t (Tr.str [])],fields:=[(0,1,3),(1,1,3),(2,1,9)]}),
 (266,{size:=1,bytes:=8,agg:=false,zero:=[AC.opq]}),
 (267,{size:=1,bytes:=8,agg:=false,zero:=[AC.opq]}),
 (268,{size:=1,bytes:=8,agg:=false,zero:=[AC.opq]}),
 (269,{size:=1,bytes:=8,agg:=false,zero:=[AC.opq]}),
 (270,{size:=1,bytes:=8,agg:=false,zero:=[AC.opq]}),
 (271,{size:=1,bytes:=8,agg:=false,zero:=[AC.opq]}),
 (272,{size:=1,bytes:=8,agg:=false,zero:=[AC.nilp]}),
 (273,{size:=4,bytes:=80,agg:=true,zero:=[AC.nilp,AC.nils 0,AC.nils 0,AC.nils 0],fields:=[(0,1,113),(1,1,132),(2,1,132),(3,1,28)]}),
 (274,{size:=4,bytes:=80,agg:=true,zero:=[AC.nilp,AC.nils 0,AC.nils 0,AC.nils 0],fields:=[(0,1,113),(1,1,132),(2,1,132),(3,1,28)]}),
 (275,{size:=1,bytes:=8,agg:=false,zero:=[AC.opq]}),
 (276,{size:=1,bytes:=8,agg:=false,zero:=[AC.opq]}),
 (277,{size:=1,bytes:=8,agg:=false,zero:=[AC.opq]}),
 (278,{size:=1,bytes:=8,agg:=false,zero:=[AC.opq]}),
 (279,{size:=1,bytes:=8,agg:=false,zero:=[AC.opq]}),
 (280,{size:=1,bytes:=24,agg:=false,zero:=[AC.nils 0],elem:=some 283}),
 (281,{size:=1,bytes:=8,agg:=false,zero:=[AC.opq]}),
 (282,{size:=2,bytes:=16,agg:=true,zero:=[AC.t (Tr.int Go.IntKind.i64 (Int.ofNat 0)),AC.t (Tr.int Go.IntKind.i64 (Int.ofNat 0))],fields:=[(0,1,3),(1,1,3)]}),
 (283,{size:=2,bytes:=16,agg:=true,zero:=[AC.t (Tr.int Go.IntKind.i64 (Int.ofNat 0)),AC.t (Tr.int Go.IntKind.i64 (Int.ofNat 0))],fields:=[(0,1,3),(1,1,3)]}),
 (284,{size:=1,bytes:=8,agg:=false,zero:=[AC.opq]}),
 (285,{size:=1,bytes:=8,agg:=false,zero:=[AC.opq]}),
 (286,{size:=1,bytes:=8,agg:=false,zero:=[AC.opq]}),
 (287,{size:=1,bytes:=8,agg:=false,zero:=[AC.nilp]}),
 (288,{size:=11,bytes:=128,agg:=true,zero:=[AC.nils 0,AC.t (Tr.int Go.IntKind.i64 (Int.ofNat 0)),AC.t (Tr.int Go.IntKind.i64 (Int.ofNat 0)),AC.t (Tr.bool false),AC.t (Tr.bool false),AC.t (Tr.bool false),AC.t (Tr.int Go.IntKind.i64 (Int.ofNat 0)),AC.t (Tr.int Go.IntKind.i64 (Int.ofNat 0)),AC.nils 0,AC.t (Tr.int Go.IntKind.i64 (Int.ofNat 0)),AC.nils 0],fields:=[(0,1,24),(1,4,26),(5,1,4),(6,1,3),(7,1,3),(8,1,123),(9,1,3),(10,1,28)]}),
 (289,{size:=11,bytes:=128,agg:=true,zero:=[AC.nils 0,AC.t (Tr.int Go.IntKind.i64 (Int.ofNat 0)),AC.t (Tr.int Go.IntKind.i64 (Int.ofNat 0)),AC.t (Tr.bool false),AC.t (Tr.bool false),AC.t (Tr.bool false),AC.t (Tr.int Go.IntKind.i64 (Int.ofNat 0)),AC.t (Tr.int Go.IntKind.i64 (Int.ofNat 0)),AC.nils 0,AC.t (Tr.int Go.IntKind.i64 (Int.ofNat 0)),AC.nils 0],fields:=[(0,1,24),(1,4,26),(5,1,4),(6,1,3),(7,1,3),(8,1,123),(9,1,3),(10,1,28)]}),
 (290,{size:=1,bytes:=8,agg:=false,zero:=[AC.nilp]}),
 (291,{size:=8,bytes:=112,agg:=true,zero:=[AC.t (Tr.int Go.IntKind.i64 (Int.ofNat 0)),AC.t (Tr.int Go.IntKind.i64 (Int.ofNat 0)),AC.nils 0,AC.t (Tr.int Go.IntKind.i64 (Int.ofNat 0)),AC.t (Tr.int Go.IntKind.i64 (Int.ofNat 0)),AC.nils 0,AC.t (Tr.int Go.IntKind.i64 (Int.ofNat 0)),AC.nils 0],fields:=[(0,1,3),(1,1,3),(2,1,132),(3,1,3),(4,1,3),(5,1,28),(6,1,3),(7,1,28)]}),
 (292,{size:=8,bytes:=112,agg:=true,zero:=[AC.t (Tr.int Go.IntKind.i64 (Int.ofNat 0)),AC.t (Tr.int Go.IntKind.i64 (Int.ofNat 0)),AC.nils 0,AC.t (Tr.int Go.IntKind.i64 (Int.ofNat 0)),AC.t (Tr.int Go.IntKind.i64 (Int.ofNat 0)),AC.nils 0,AC.t (Tr.int Go.IntKind.i64 (Int.ofNat 0)),AC.nils 0],fields:=[(0,1,3),(1,1,3),(2,1,132),(3,1,3),(4,1,3),(5,1,28),(6,1,3),(7,1,28)]}),
 (293,{size:=1,bytes:=8,agg:=false,zero:=[AC.opq]}),
 (294,{size:=1,bytes:=8,agg:=false,zero:=[AC.opq]}),
 (295,{size:=1,bytes:=8,agg:=false,zero:=[AC.opq]}),
 (296,{size:=1,bytes:=8,agg:=false,zero:=[AC.opq]}),
 (297,{size:=1,bytes:=8,agg:=false,zero:=[AC.opq]}),
 (298,{size:=1,bytes:=8,agg:=false,zero:=[AC.opq]}),
 (299,{size:=1,bytes:=8,agg:=false,zero:=[AC.nilp]}),
 (300,{size:=1,bytes:=8,agg:=false,zero:=[AC.opq]}),
 (301,{size:=1,bytes:=8,agg:=false,zero:=[AC.opq]}),
 (302,{size:=1,bytes:=8,agg:=false,zero:=[AC.opq]}),
 (303,{size:=1,bytes:=8,agg:=false,zero:=[AC.opq],map:=some (some Go.IntKind.i64)}),
 (304,{size:=1,bytes:=8,agg:=false,zero:=[AC.opq]}),
 (305,{size:=1,bytes:=8,agg:=false,zero:=[AC.opq]}),
 (306,{size:=1,bytes:=8,agg:=false,zero:=[AC.opq]}),
 (307,{size:=1,bytes:=8,agg:=false,zero:=[AC.opq]}),
 (308,{size:=1,bytes:=4,agg:=false,zero:=[AC.t (Tr.int Go.IntKind.u32 (Int.ofNat 0))],kind:=some Go.IntKind.u32}),
 (309,{size:=1,bytes:=24,agg:=false,zero:=[AC.nils 0],elem:=some 136}),
 (310,{size:=1,bytes:=8,agg:=false,zero:=[AC.opq]}),
 (311,{size:=1,bytes:=8,agg:=false,zero:=[AC.opq]}),
 (312,{size:=1,bytes:=8,agg:=false,zero:=[AC.opq]}),
 (313,{size:=4,bytes:=40,agg:=true,zero:=[AC.nilp,AC.nilp,AC.nilp,AC.t (Tr.str [])],fields:=[(0,1,17),(1,1,17),(2,1,17),(3,1,9)]}),
 (314,{size:=4,bytes:=40,agg:=true,zero:=[AC.nilp,AC.nilp,AC.nilp,AC.t (Tr.str [])],fields:=[(0,1,17),(1,1,17),(2,1,17),(3,1,9)]}),
 (318,{size:=1,bytes:=1,agg:=false,zero:=[AC.t (Tr.int Go.IntKind.u8 (Int.ofNat 0))],kind:=some Go.IntKind.u8}),
 (319,{size:=1,bytes:=1,agg:=false,zero:=[AC.t (Tr.int Go.IntKind.u8 (Int.ofNat 0))],kind:=some Go.IntKind.u8}),
 (320,{size:=1,bytes:=8,agg:=false,zero:=[AC.opq]}),
 (321,{size:=1,bytes:=8,agg:=false,zero:=[AC.nilp]}),
 (322,{size:=1,bytes:=4,agg:=false,zero:=[AC.t (Tr.int Go.IntKind.i32 (Int.ofNat 0))],kind:=some Go.IntKind.i32}),
 (323,{size:=1,bytes:=4,agg:=false,zero:=[AC.t (Tr.int Go.IntKind.i32 (Int.ofNat 0))],kind:=some Go.IntKind.i32}),
 (324,{size:=11,bytes:=48,agg:=true,zero:=[AC.t (Tr.int Go.IntKind.u64 (Int.ofNat 0)),AC.t (Tr.int Go.IntKind.u64 (Int.ofNat 0)),AC.t (Tr.int Go.IntKind.u32 (Int.ofNat 0)),AC.t (Tr.int Go.IntKind.u8 (Int.ofNat 0)),AC.t (Tr.int Go.IntKind.u8 (Int.ofNat 0)),AC.t (Tr.int Go.IntKind.u8 (Int.ofNat 0)),AC.t (Tr.int Go.IntKind.u8 (Int.ofNat 0)),AC.opq,AC.nilp,AC.t (Tr.int Go.IntKind.i32 (Int.ofNat 0)),AC.t (Tr.int Go.IntKind.i32 (Int.ofNat 0))],fields:=[(0,1,12),(1,1,12),(2,1,308),(3,1,318),(4,1,5),(5,1,5),(6,1,319),(7,1,320),(8,1,321),(9,1,322),(10,1,323)]}),
 (325,{size:=11,bytes:=48,agg:=true,zero:=[AC.t (Tr.int Go.IntKind.u64 (Int.ofNat 0)),AC.t (Tr.int Go.IntKind.u64 (Int.ofNat 0)),AC.t (Tr.int Go.IntKind.u32 (Int.ofNat 0)),AC.t (Tr.int Go.IntKind.u8 (Int.ofNat 0)),AC.t (Tr.int Go.IntKind.u8 (Int.ofNat 0)),AC.t (Tr.int Go.IntKind.u8 (Int.ofNat 0)),AC.t (Tr.int Go.IntKind.u8 (Int.ofNat 0)),AC.opq,AC.nilp,AC.t (Tr.int Go.IntKind.i32 (Int.ofNat 0)),AC.t (Tr.int Go.IntKind.i32 (Int.ofNat 0))],fields:=[(0,1,12),(1,1,12),(2,1,308),(3,1,318),(4,1,5),(5,1,5),(6,1,319),(7,1,320),(8,1,321),(9,1,322),(10,1,323)]}),
 (326,{size:=1,bytes:=8,agg:=false,zero:=[AC.nilp]})]
theorem hΓ:Γ.chk Tryz.prog=true:=by kernel_rfl
theorem aq:Tryz.prog.follows .mixedOrders=true:=by kernel_rfl
end Go.Proofs.YtoglejgmjeojoaaGreat
namespace Go.Proofs.YtoglejgmjeojoaaGreat
open Go.Sim Go.ChangeShapes Go.WideShapes Go.ChangeAt Go.RowKit
theorem own:ownKnob Tryz.prog.godebug=none:=by kernel_rfl
theorem Bi:laidOutB Tryz.prog=true:=by kernel_rfl
theorem Ce {n:Int}(h:(Lit.int .i64 n).wf=true):n≤9223372036854775807:=by
 simp[Lit.wf]at h
 exact h.2
theorem Ca {n:Int}(h:(Lit.int .i64 n).wf=true):-9223372036854775808≤n:=by
 simp[Lit.wf]at h
 exact h.1
theorem mQ {α:Type}{g:α→List Tr}{Q:α→Prop}:∀{rows:List (List Tr)},(∀r∈rows,∃m,r=g m∧Q m)→∃ns:List α,rows=ns.map g∧∀m∈ns,Q m
 | [],_=>⟨[],rfl,fun _ h=>by cases h⟩
 | r::rows,h=>by
  obtain⟨m,rfl,hm⟩:=h r (by simp)
  obtain⟨ns,rfl,hns⟩:=mQ (rows:=rows) fun r hr=>h r (by simp[hr])
  exact⟨m::ns,rfl,fun x hx=>by
   rcases List.mem_cons.1 hx with rfl|hx
   ·exact hm
   ·exact hns x hx⟩
end Go.Proofs.YtoglejgmjeojoaaGreat
namespace Go.Proofs.YtoglejgmjeojoaaGreat
open Go.Sim Go.RowKit
def inI (n:Int):Prop:= -9223372036854775808≤n∧n≤9223372036854775807
def ab (n:Int):List Tr:=[.int .i64 n]
def ag (s:List UInt8):List Tr:=[.str s]
structure CO where
 fah:Int
 fal:Int
def CO.tr (x:CO):List Tr:=[.int .i64 x.fah,.int .i64 x.fal]
def CO.wf (x:CO):Prop:=inI x.fah∧inI x.fal
structure CU where
 faa:Int
 faf:Int
 fab:List UInt8
def CU.tr (x:CU):List Tr:=[.int .i64 x.faa,.int .i64 x.faf,.str x.fab]
def CU.wf (x:CU):Prop:=inI x.faa∧inI x.faf∧x.fab.length≤maxLen
structure CM where
 faa:Int
 fab:List UInt8
 fad:List (List UInt8)
 fac:List CU
def CM.tr (x:CM):List Tr:=[.int .i64 x.faa,.str x.fab,.lst 1 (x.fad.map ag),.lst 3 (x.fac.map CU.tr)]
def CM.wf (x:CM):Prop:=inI x.faa∧x.fab.length≤maxLen∧(x.fad.length≤maxLen∧∀y∈x.fad,y.length≤maxLen)∧(x.fac.length≤maxLen∧∀y∈x.fac,y.wf)
structure CE where
 fan:Int
 fag:Int
 faq:Bool
 far:Bool
def CE.tr (x:CE):List Tr:=[.int .i64 x.fan,.int .i64 x.fag,.bool x.faq,.bool x.far]
def CE.wf (x:CE):Prop:=inI x.fan∧inI x.fag
structure CL where
 fae:CO
 fam:Int
 fai:Bool
 faj:List Int
 fao:Int
 fap:Bool
def CL.tr (x:CL):List Tr:=[.int .i64 x.fae.fah,.int .i64 x.fae.fal,.int .i64 x.fam,.bool x.fai,.lst 1 (x.faj.map ab),.int .i64 x.fao,.bool x.fap]
def CL.wf (x:CL):Prop:=x.fae.wf∧inI x.fam∧(x.faj.length≤maxLen∧∀y∈x.faj,inI y)∧inI x.fao
structure CT where
 fab:List UInt8
 fai:Int
 faK:Int
def CT.tr (x:CT):List Tr:=[.str x.fab,.int .i64 x.fai,.int .i64 x.faK]
def CT.wf (x:CT):Prop:=x.fab.length≤maxLen∧inI x.fai∧inI x.faK
structure CJ where
 fah:List UInt8
 fau:List CT
def CJ.tr (x:CJ):List Tr:=[.str x.fah,.lst 3 (x.fau.map CT.tr)]
def CJ.wf (x:CJ):Prop:=x.fah.length≤maxLen∧(x.fau.length≤maxLen∧∀y∈x.fau,y.wf)
structure CS where
 faH:List CJ
 faD:List Int
 faz:List Int
def CS.tr (x:CS):List Tr:=[.lst 2 (x.faH.map CJ.tr),.lst 1 (x.faD.map ab),.lst 1 (x.faz.map ab)]
def CS.wf (x:CS):Prop:=(x.faH.length≤maxLen∧∀y∈x.faH,y.wf)∧(x.faD.length≤maxLen∧∀y∈x.faD,inI y)∧(x.faz.length≤maxLen∧∀y∈x.faz,inI y)
structure CN where
 fax:Int
 fay:Int
 faw:Int
 faA:List Int
 faB:List Int
 faM:Int
 faJ:Int
def CN.tr (x:CN):List Tr:=[.int .i64 x.fax,.int .i64 x.fay,.int .i64 x.faw,.lst 1 (x.faA.map ab),.lst 1 (x.faB.map ab),.int .i64 x.faM,.int .i64 x.faJ]
def CN.wf (x:CN):Prop:=inI x.fax∧inI x.fay∧inI x.faw∧(x.faA.length≤maxLen∧∀y∈x.faA,inI y)∧(x.faB.length≤maxLen∧∀y∈x.faB,inI y)∧inI x.faM∧inI x.faJ
structure CP where
 fat:Int
 fak:CL
def CP.tr (x:CP):List Tr:=[.int .i64 x.fat,.int .i64 x.fak.fae.fah,.int .i64 x.fak.fae.fal,.int .i64 x.fak.fam,.bool x.fak.fai,.lst 1 (x.fak.faj.map ab),.int .i64 x.fak.fao,.bool x.fak.fap]
def CP.wf (x:CP):Prop:=inI x.fat∧x.fak.wf
structure CR where
 fai:Int
 fas:Int
 faI:Bool
 fao:Int
def CR.tr (x:CR):List Tr:=[.int .i64 x.fai,.int .i64 x.fas,.bool x.faI,.int .i64 x.fao]
def CR.wf (x:CR):Prop:=inI x.fai∧inI x.fas∧inI x.fao
structure CV where
 fax:Int
 fay:Int
 faw:Int
 faE:List Int
def CV.tr (x:CV):List Tr:=[.int .i64 x.fax,.int .i64 x.fay,.int .i64 x.faw,.lst 1 (x.faE.map ab)]
def CV.wf (x:CV):Prop:=inI x.fax∧inI x.fay∧inI x.faw∧(x.faE.length≤maxLen∧∀y∈x.faE,inI y)
structure CQ where
 fat:Int
 fam:Int
 fai:Bool
def CQ.tr (x:CQ):List Tr:=[.int .i64 x.fat,.int .i64 x.fam,.bool x.fai]
def CQ.wf (x:CQ):Prop:=inI x.fat∧inI x.fam
structure CK where
 fai:Int
 fas:Int
 fav:Int
 fam:Int
 fab:List UInt8
def CK.tr (x:CK):List Tr:=[.int .i64 x.fai,.int .i64 x.fas,.int .i64 x.fav,.int .i64 x.fam,.str x.fab]
def CK.wf (x:CK):Prop:=inI x.fai∧inI x.fas∧inI x.fav∧inI x.fam∧x.fab.length≤maxLen
structure CG where
 faL:Int
 fau:List CT
 faG:List CR
 faF:List CQ
 faC:List CK
def CG.tr (x:CG):List Tr:=[.int .i64 x.faL,.lst 3 (x.fau.map CT.tr),.lst 4 (x.faG.map CR.tr),.lst 3 (x.faF.map CQ.tr),.lst 5 (x.faC.map CK.tr)]
def CG.wf (x:CG):Prop:=inI x.faL∧(x.fau.length≤maxLen∧∀y∈x.fau,y.wf)∧(x.faG.length≤maxLen∧∀y∈x.faG,y.wf)∧(x.faF.length≤maxLen∧∀y∈x.faF,y.wf)∧(x.faC.length≤maxLen∧∀y∈x.faC,y.wf)
structure CH where
 fab:List UInt8
 fam:Int
def CH.tr (x:CH):List Tr:=[.str x.fab,.int .i64 x.fam]
def CH.wf (x:CH):Prop:=x.fab.length≤maxLen∧inI x.fam
end Go.Proofs.YtoglejgmjeojoaaGreat
namespace Go.Proofs.YtoglejgmjeojoaaGreat
open Go.Sim
set_option maxRecDepth 100000
def digs (n:Nat)(acc:List UInt8):List UInt8:=if n=0 then acc else digs (n / 10) (UInt8.ofNat (48+n % 10)::acc)
 termination_by n
 decreasing_by omega
def xM (k:Int):List UInt8:=if k≤0 then [109,48]else 109::digs k.toNat []
mutual
def cnT:Tr→Nat
 | .lst _ rows=>aw rows
 | _=>1
def cnR:List Tr→Nat
 | []=>0
 | c::cs=>cnT c+cnR cs
def aw:List (List Tr)→Nat
 | []=>0
 | r::rs=>cnR r+aw rs
end
mutual
def mkT:Tr→Int→Tr
 | .int kd _,k=> .int kd k
 | .bool _,k=> .bool (k.tmod 3==0)
 | .str _,k=> .str (xM k)
 | .lst sz rows,k=> .lst sz (aN rows k)
def mkR:List Tr→Int→List Tr
 | [],_=>[]
 | c::cs,k=>mkT c k::mkR cs (k+(cnT c:Nat))
def aN:List (List Tr)→Int→List (List Tr)
 | [],_=>[]
 | r::rs,k=>mkR r k::aN rs (k+(cnR r:Nat))
end
theorem cG:∀(a b:List (List Tr)),aw (a++b)=aw a+aw b
 | [],b=>by rw[List.nil_append,aw];omega
 | r::a,b=>by rw[List.cons_append,aw,aw,cG a b];omega
theorem bY:∀(a b:List (List Tr)) (k:Int),aN (a++b) k=aN a k++aN b (k+(aw a:Nat))
 | [],b,k=>by rw[List.nil_append,aw,aN,List.nil_append];simp
 | r::a,b,k=>by
  rw[List.cons_append,aN,aN,bY a b,aw,List.cons_append]
  congr 2
  congr 1
  omega
theorem cp:∀(a:List (List Tr)) (k:Int),(aN a k).length=a.length
 | [],_=>by rw[aN]
 | r::a,k=>by rw[aN,List.length_cons,List.length_cons,cp a]
theorem AU {rows:List (List Tr)}{M:Nat}(h:∀r∈rows,cnR r≤M):aw rows≤rows.length * M:=by
 induction rows with
 | nil=>rw[aw];omega
 | cons r rs ih=>
  rw[aw,List.length_cons,Nat.succ_mul]
  have h1:=h r (by simp)
  have h2:=ih fun r hr=>h r (by simp[hr])
  omega
theorem eZ {α:Type}{g:α→List Tr}{l:List α}{M:Nat}(h:∀x∈l,cnR (g x)≤M):aw (l.map g)≤l.length * M:=by
 have:=AU (rows:=l.map g) (M:=M) fun r hr=>by obtain⟨x,hx,rfl⟩:=List.mem_map.1 hr;exact h x hx
 rwa [List.length_map]at this
theorem eR {α:Type}(g:α→List Tr)(a:List α)(x:α):aw ((a++[x]).map g)=aw (a.map g)+cnR (g x):=by
 rw[List.map_append,cG,List.map_cons,List.map_nil,aw,aw];omega
theorem iq {α:Type}(g:α→List Tr)(a:List α)(x:α)(k:Int):aN ((a++[x]).map g) k=aN (a.map g) k++[mkR (g x) (k+(aw (a.map g):Nat))]:=by
 rw[List.map_append,bY,List.map_cons,List.map_nil,aN,aN]
theorem jA {α:Type}{D t:List α}{r:α}{n:Nat}(h:D.length=n):(D++r::t)[n]?=some r:=by
 subst h;simp
theorem mV {α:Type}{D t:List α}{r r':α}{n:Nat}(h:D.length=n):(D++r::t).set n r'=D++r'::t:=by
 subst h;simp
theorem jh {α:Type}{l:List α}{r:α}{n:Nat}(h:n < l.length):(l.set n r)[n]?=some r:=by simp[h]
theorem set_set {α:Type}(l:List α)(r r':α)(n:Nat):(l.set n r).set n r'=l.set n r':=List.set_set ..
theorem bM (a b:List (List Tr)):ae (a++b)=ae a++ae b:=by simp[ae]
theorem aB (a:List (List Tr)):(ae a).length=a.length:=by simp[ae]
theorem eX (r:List Tr)(b:List (List Tr)):ae (r::b)=r.map .d::ae b:=by simp[ae]
theorem undeep (a:List (List Tr)):(ae a).map (·.map DC.tr)=a:=by
 rw[ae,List.map_map]
 conv=>rhs;rw[←List.map_id a]
 apply List.map_congr_left
 intro r _
 simp only[Function.comp,List.map_map,id]
 conv=>rhs;rw[←List.map_id r]
 apply List.map_congr_left
 intro x _
 rfl
theorem kU (sz:Nat)(a:List (List Tr)):Tr.lst sz a=Tr.lst sz ((ae a).map (·.map DC.tr)):=by rw[undeep]
theorem ey {l:List (List Tr)}{k:Nat}{r:List Tr}(h:l[k]?=some r):(ae l)[k]?=some (r.map .d):=by simp[ae,h]
theorem iX (l:List (List Tr))(k:Nat)(r:List Tr):(ae l).set k (r.map .d)=ae (l.set k r):=by simp[ae,List.map_set]
theorem fM {A:Prop}{Q:(ι:Type)→(ι→St)→Prop}(h:A):A∨∃(ι:Type) (S:ι→St),Q ι S:=Or.inl h
theorem dG {α:Type}{g:α→List Tr}(l:List α)(h:∀x,∀c∈g x,∀sz rs,c≠.lst sz rs):flat (l.map g):=by
 intro row hr c hc sz rs
 obtain⟨x,_,rfl⟩:=List.mem_map.1 hr
 exact h x c hc sz rs
theorem dY (l:List Int):flat (l.map ab):=dG _ (by intro x c hc sz rs e;subst e;simp[ab]at hc)
theorem iB {α:Type}(a b:List α)(x:α):a++[x]++b=a++x::b:=by simp
end Go.Proofs.YtoglejgmjeojoaaGreat
namespace Go.Proofs.YtoglejgmjeojoaaGreat
open Go.Sim
abbrev tvI (n:Int):TV:= .c (.int .i64 n)
abbrev tvS (n:List UInt8):TV:= .c (.str n)
abbrev rI (n:Int):Res:= .r (.c (.t (.int .i64 n)))
abbrev rB (b:Bool):Res:= .r (.c (.t (.bool b)))
abbrev rS (b:List UInt8):Res:= .r (.c (.t (.str b)))
def ah (n lo hi:Int):Bool:=decide (lo≤n) && decide (n≤hi)
theorem within_iff {n lo hi:Int}:ah n lo hi=true↔lo≤n∧n≤hi:=by simp[ah]
set_option maxRecDepth 100000
theorem aJ (n lo hi:Int):Sim.Spec Tryz.prog 74 [tvI n,tvI lo,tvI hi] (rB (ah n lo hi)):=by
 refine aj hΓ aq Tryz.func74 rfl (by decide) rfl ?_
 repeat' ((conv=>whnf);first|refine Or.inl ?_|apply oi|(apply fi<;>intro h)|refine⟨_,rfl,?_⟩|exact rfl)
 all_goals try exact⟨KO⟩
 all_goals refine⟨?_⟩
 all_goals simp_all[ah]
 all_goals omega
theorem cn (n lo hi:Int):Sim.Spec Tryz.prog 61 [tvI n,tvI lo,tvI hi] (rB (ah n lo hi)):=by
 refine aj hΓ aq Tryz.func61 rfl (by decide) rfl ?_
 repeat' ((conv=>whnf);first|refine Or.inl ?_|apply oi|(apply fi<;>intro h)|refine⟨_,rfl,?_⟩|exact rfl)
 all_goals try exact⟨KO⟩
 all_goals refine⟨?_⟩
 all_goals simp_all[ah]
 all_goals omega
def signed (n:Int):Int:=if ah n 0 1099511627775 then(if n % 2=1 then -((n+1) / 2)else n / 2)else 0
end Go.Proofs.YtoglejgmjeojoaaGreat
namespace Go.Proofs.YtoglejgmjeojoaaGreat
open Go.Sim
set_option maxRecDepth 100000
def CA (n:Nat):List UInt8:=if n≤127 then [UInt8.ofNat n]else UInt8.ofNat (n % 128+128)::CA (n / 128)
 termination_by n
 decreasing_by omega
def enc (n:Int):List UInt8:=if ah n 0 1099511627775 then CA n.toNat else []
abbrev tvL (sz:Nat)(rows:List (List Tr)):TV:= .c (.lst sz rows)
abbrev rL (sz:Nat)(rows:List (List Tr)):Res:= .r (.c (.arr sz rows))
def dV {α:Type}(l:List α)(z:α)(k:Nat):List α:=l.take k++List.replicate (l.length - k) z
theorem fe {α:Type}(l:List α)(z:α):List.replicate l.length z=dV l z 0:=by simp[dV]
theorem mv {α:Type}{l:List α}{z:α}{k:Nat}(h:l.length≤k):dV l z k=l:=by
 simp[dV,List.take_of_length_le h,Nat.sub_eq_zero_of_le h]
theorem me {α:Type}{l:List α}{z:α}{k:Nat}(h:k≤l.length):(dV l z k).length=l.length:=by
 simp[dV];omega
theorem lV {α:Type}{l:List α}{z:α}{k:Nat}(h:k < l.length):(dV l z k)[k]?=some z:=by
 rw[dV,List.getElem?_append_right (by simp;omega),List.getElem?_replicate,if_pos (by simp;omega)]
theorem lY {α:Type}{l:List α}{z x:α}{k:Nat}(h:l[k]?=some x):(dV l z k).set k x=dV l z (k+1):=by
 have hk:k < l.length:=by
  rcases Nat.lt_or_ge k l.length with h'|h'
  ·exact h'
  ·rw[List.getElem?_eq_none h']at h;cases h
 have hx:l[k]=x:=by rw[List.getElem?_eq_getElem hk]at h;injection h
 obtain⟨m,hm⟩:∃m,l.length - k=m+1:=⟨l.length - k - 1,by omega⟩
 rw[dV,dV,List.set_append_right _ _ (by simp;omega),hm,List.replicate_succ,List.take_succ_eq_append_getElem hk,hx,show l.length - (k+1)=m by omega]
 simp[Nat.min_eq_left (Nat.le_of_lt hk)]
theorem aa {α β:Type}{f:α→β}{l:List α}{k:Nat}{x:α}(h:l[k]?=some x):(l.map f)[k]?=some (f x):=by simp[h]
theorem af {α:Type}{l:List α}{k:Nat}(h:k < l.length):∃x,l[k]?=some x:=⟨_,List.getElem?_eq_getElem h⟩
theorem Cc {ns ms:List Int}{k:Nat}{x y:Int}(h1:ns[k]?=some x)(h2:ms[k]?=some y)(hne:x≠y):(ns==ms)=false:=by
 rw[beq_eq_false_iff_ne]
 intro e
 subst e
 rw[h1]at h2
 injection h2 with h2
 exact hne h2
theorem AZ {ns ms:List Int}(h:ns.length≠ms.length):(ns==ms)=false:=by
 rw[beq_eq_false_iff_ne]
 intro e;subst e;exact h rfl
theorem sE (ns ms:List Int)(hl:ns.length≤1048576):Sim.Spec Tryz.prog 91 [tvL 1 (ns.map ab),tvL 1 (ms.map ab)] (rB (ns==ms)):=by
 refine aj hΓ aq Tryz.func91 rfl (by decide) rfl ?_
 have hlen:(ns.map ab).length=ns.length:=by simp
 have hlen2:(ms.map ab).length=ms.length:=by simp
 repeat' ((conv=>whnf);first|refine Or.inl ?_|apply oi|(apply fi<;>intro h)|refine⟨_,rfl,?_⟩|exact rfl)
 all_goals try exact⟨KO⟩
 ·rw[hlen,hlen2]at h
  rw[AZ (by intro e;rw[e]at h;simp at h)]
  exact⟨rfl⟩
 have hle:ns.length=ms.length:=by
  rw[hlen,hlen2]at h
  have:((ns.length:Int)==(ms.length:Int))=true:=by simpa using h
  have:=eq_of_beq this
  omega
 repeat' ((conv=>whnf);first|refine Or.inl ?_|apply oi|(apply fi<;>intro h)|refine⟨_,rfl,?_⟩|exact rfl)
 all_goals try exact⟨KO⟩
 conv=>whnf
 refine⟨{k:Nat // k≤ns.length∧∀j,j < k→ns[j]?=ms[j]?},fun k=>⟨[(0,.r (.c (.t (.lst 1 (ns.map ab))))),(1,.r (.c (.t (.lst 1 (ms.map ab))))),(5,tI .i64 (k.1:Int))],[],[]⟩,fun k=>ns.length - k.1,⟨0,by omega,fun j hj=>by omega⟩,?_,?_⟩
 ·skip
  repeat' ((conv=>whnf);first|refine Or.inl ?_|apply oi|(apply fi<;>intro h)|refine⟨_,rfl,?_⟩|exact rfl)
  all_goals try exact⟨KO⟩
 intro⟨k,hk,hsame⟩
 dsimp only
 repeat' ((conv=>whnf);first|refine Or.inl ?_|apply oi|(apply fi<;>intro h)|refine⟨_,rfl,?_⟩|exact rfl)
 all_goals try exact⟨KO⟩
 ·have hlt:k < ns.length:=by have:=of_decide_eq_true h;omega
  obtain⟨x,hx⟩:=af hlt
  obtain⟨y,hy⟩:=af (show k < ms.length by omega)
  conv=>whnf
  refine⟨k,ab x,rfl,aa hx,?_⟩
  repeat' ((conv=>whnf);first|refine Or.inl ?_|apply oi|(apply fi<;>intro h)|refine⟨_,rfl,?_⟩|exact rfl)
  all_goals try exact⟨KO⟩
  conv=>whnf
  refine⟨k,ab y,rfl,aa hy,?_⟩
  repeat' ((conv=>whnf);first|refine Or.inl ?_|apply oi|(apply fi<;>intro h)|refine⟨_,rfl,?_⟩|exact rfl)
  all_goals try exact⟨KO⟩
  ·rw[Cc hx hy (by simpa using h)]
   exact⟨rfl⟩
  have hxy:x=y:=by simpa using h
  conv=>whnf
  refine⟨⟨k+1,by omega,fun j hj=>?_⟩,?_,KD⟩
  ·rcases Nat.lt_or_ge j k with h'|h'
   ·exact hsame j h'
   ·have:j=k:=by omega
    subst this
    rw[hx,hy,hxy]
  repeat' ((conv=>whnf);first|refine Or.inl ?_|apply oi|(apply fi<;>intro h)|refine⟨_,rfl,?_⟩|exact rfl)
  all_goals try exact⟨KO⟩
  exact⟨by dsimp only;rw[IntWalk.i64_in _ (by omega)];rfl⟩
 ·have hge:ns.length≤k:=by have:=of_decide_eq_false h;omega
  have:ns=ms:=List.ext_getElem? fun j=>by
   rcases Nat.lt_or_ge j k with h'|h'
   ·exact hsame j h'
   ·rw[List.getElem?_eq_none (by omega),List.getElem?_eq_none (by omega)]
  subst this
  exact⟨by simp⟩
theorem dP {α:Type}{l:List α}{k:Nat}{x:α}(h:l[k]?=some x):l.drop k=x::l.drop (k+1):=by
 have hk:k < l.length:=by
  rcases Nat.lt_or_ge k l.length with h'|h'
  ·exact h'
  ·rw[List.getElem?_eq_none h']at h;cases h
 rw[List.getElem?_eq_getElem hk]at h
 injection h with h
 rw[←h]
 exact List.drop_eq_getElem_cons hk
end Go.Proofs.YtoglejgmjeojoaaGreat
namespace Go.Proofs.YtoglejgmjeojoaaGreat
open Go.Sim Go.RowKit
set_option maxRecDepth 100000
theorem oK {n:Int}(h:(Lit.int .i64 n).wf=true):inI n:=⟨Ca h,Ce h⟩
theorem Cq {r:List Tr}(h:∃s:List UInt8,r=[Tr.str s]∧s.length≤maxLen):∃m,r=ag m∧m.length≤maxLen:=by
 obtain⟨m,rfl,hw⟩:=h
 exact⟨m,rfl,hw⟩
theorem aC {α:Type}{g:α→List Tr}{L:Int}{l:List α}{sz:Nat}(h:aA L (.lst sz (l.map g))){x:α}(hx:x∈l):aE L (g x):=by
 rw[aA]at h
 exact oN h.2 _ (List.mem_map_of_mem hx)
theorem cR {α:Type}{g:α→List Tr}{L:Int}{l:List α}{sz:Nat}(h:aA L (.lst sz (l.map g))):(l.length:Int)≤L:=by
 rw[aA]at h
 simpa using h.1
theorem bo {α:Type}{g:α→List Tr}{l:List α}{sz:Nat}(h:aA 1048576 (.lst sz (l.map g))):l.length≤1048576:=by
 have:=cR h
 omega
theorem ou (ns:List (List UInt8))(hs:aA 1048576 (.lst 1 (ns.map ag))):Sim.Spec Tryz.prog 149 [tvL 1 (ns.map ag)] (rL 1 (ns.map ag)):=by
 have hl:=cR hs
 refine aj hΓ aq Tryz.func149 rfl (by decide) rfl ?_
 have hlen:(ns.map ag).length=ns.length:=by simp
 repeat' ((conv=>whnf);first|refine Or.inl ?_|apply oi|(apply fi<;>intro h)|refine⟨_,rfl,?_⟩|exact rfl)
 all_goals try exact⟨KO⟩
 ·exact⟨by omega⟩
 ·exact⟨by dsimp only;omega⟩
 repeat' ((conv=>whnf);first|refine Or.inl ?_|apply oi|(apply fi<;>intro h)|refine⟨_,rfl,?_⟩|exact rfl)
 all_goals try exact⟨KO⟩
 conv=>whnf
 refine⟨{k:Nat // k≤ns.length},fun k=>⟨[(0,.r (.c (.t (.lst 1 (ns.map ag))))),(3,.r (.c (.own (3,0,0)))),(4,tI .i64 (k.1:Int))],[((3,0,0),some (.arr true 1 (dV (ns.map ag) (ag []) k.1)))],[3]⟩,fun k=>ns.length - k.1,⟨0,by omega⟩,?_,?_⟩
 ·skip
  repeat' ((conv=>whnf);first|refine Or.inl ?_|apply oi|(apply fi<;>intro h)|refine⟨_,rfl,?_⟩|exact rfl)
  all_goals try exact⟨KO⟩
 intro⟨k,hk⟩
 dsimp only
 repeat' ((conv=>whnf);first|refine Or.inl ?_|apply oi|(apply fi<;>intro h)|refine⟨_,rfl,?_⟩|exact rfl)
 all_goals try exact⟨KO⟩
 ·have hlt:k < ns.length:=by have:=of_decide_eq_true h;omega
  obtain⟨x,hx⟩:=af hlt
  conv=>whnf
  refine⟨k,ag x,rfl,aa hx,?_⟩
  repeat' ((conv=>whnf);first|refine Or.inl ?_|apply oi|(apply fi<;>intro h)|refine⟨_,rfl,?_⟩|exact rfl)
  all_goals try exact⟨KO⟩
  ·exact⟨by rw[me (by omega)];omega⟩
  conv=>whnf
  refine⟨ag [],lV (by omega),?_⟩
  repeat' ((conv=>whnf);first|refine Or.inl ?_|apply oi|(apply fi<;>intro h)|refine⟨_,rfl,?_⟩|exact rfl)
  all_goals try exact⟨KO⟩
  conv=>whnf
  refine⟨⟨k+1,by omega⟩,?_,KD⟩
  repeat' ((conv=>whnf);first|refine Or.inl ?_|apply oi|(apply fi<;>intro h)|refine⟨_,rfl,?_⟩|exact rfl)
  all_goals try exact⟨KO⟩
  ·exact⟨by dsimp only;rw[IntWalk.i64_in _ (by omega)];rfl⟩
  ·exact⟨lY (aa hx)⟩
 ·have hge:ns.length≤k:=by have:=of_decide_eq_false h;omega
  exact⟨mv (by omega)⟩
theorem oB (ns:List (List UInt8))(hs:aA 1048576 (.lst 1 (ns.map ag))):Sim.Spec Tryz.prog 162 [tvL 1 (ns.map ag),tvL 1 (ns.map ag)] (rB true):=by
 have hl:=cR hs
 refine aj hΓ aq Tryz.func162 rfl (by decide) rfl ?_
 have hlen:(ns.map ag).length=ns.length:=by simp
 repeat' ((conv=>whnf);first|refine Or.inl ?_|apply oi|(apply fi<;>intro h)|refine⟨_,rfl,?_⟩|exact rfl)
 all_goals try exact⟨KO⟩
 ·simp at h
 conv=>whnf
 refine⟨{k:Nat // k≤ns.length},fun k=>⟨[(0,.r (.c (.t (.lst 1 (ns.map ag))))),(1,.r (.c (.t (.lst 1 (ns.map ag))))),(5,tI .i64 (k.1:Int))],[],[]⟩,fun k=>ns.length - k.1,⟨0,by omega⟩,?_,?_⟩
 ·skip
  repeat' ((conv=>whnf);first|refine Or.inl ?_|apply oi|(apply fi<;>intro h)|refine⟨_,rfl,?_⟩|exact rfl)
  all_goals try exact⟨KO⟩
 intro⟨k,hk⟩
 dsimp only
 repeat' ((conv=>whnf);first|refine Or.inl ?_|apply oi|(apply fi<;>intro h)|refine⟨_,rfl,?_⟩|exact rfl)
 all_goals try exact⟨KO⟩
 ·have hlt:k < ns.length:=by have:=of_decide_eq_true h;omega
  obtain⟨x,hx⟩:=af hlt
  conv=>whnf
  refine⟨k,ag x,rfl,aa hx,?_⟩
  repeat' ((conv=>whnf);first|refine Or.inl ?_|apply oi|(apply fi<;>intro h)|refine⟨_,rfl,?_⟩|exact rfl)
  all_goals try exact⟨KO⟩
  conv=>whnf
  refine⟨k,ag x,rfl,aa hx,?_⟩
  repeat' ((conv=>whnf);first|refine Or.inl ?_|apply oi|(apply fi<;>intro h)|refine⟨_,rfl,?_⟩|exact rfl)
  all_goals try exact⟨KO⟩
  ·simp at h
  conv=>whnf
  refine⟨⟨k+1,by omega⟩,?_,KD⟩
  repeat' ((conv=>whnf);first|refine Or.inl ?_|apply oi|(apply fi<;>intro h)|refine⟨_,rfl,?_⟩|exact rfl)
  all_goals try exact⟨KO⟩
  exact⟨by dsimp only;rw[IntWalk.i64_in _ (by omega)];rfl⟩
theorem ot (ns:List (List UInt8))(hw:ns.length≤maxLen∧∀y∈ns,y.length≤maxLen)(left:Int)(hle0:0≤left)(hle1:left≤1048576):Sim.Spec Tryz.prog 147 [tvL 1 (ns.map ag),tvI left] (rI (szT (.lst 1 (ns.map ag)) left)):=by
 have hlen:(ns.map ag).length=ns.length:=by simp
 have hl2:ns.length≤9223372036854775807:=by simpa [maxLen]using hw.1
 rw[szT]
 refine aj hΓ aq Tryz.func147 rfl (by decide) rfl ?_
 repeat' ((conv=>whnf);first|refine Or.inl ?_|apply oi|(apply fi<;>intro h)|refine⟨_,rfl,?_⟩|exact rfl)
 all_goals try exact⟨KO⟩
 ·refine⟨congrArg (Tr.int _) ?_⟩
  have h2:=of_decide_eq_true h
  rw[IntWalk.i64_in _ (by omega)]at h2
  rw[if_pos h2]
 have h2:=of_decide_eq_false h
 rw[IntWalk.i64_in _ (by omega)]at h2 ⊢
 rw[if_neg h2]
 conv=>whnf
 refine⟨{q:Nat×Int // q.1≤ns.length∧0≤q.2∧q.2≤1048576∧jP ((ns.drop q.1).map ag) q.2=jP (ns.map ag) (left - (ns.map ag).length)},fun q=>⟨[(0,.r (.c (.t (.lst 1 (ns.map ag))))),(1,tI .i64 q.1.2),(5,tI .i64 (q.1.1:Int))],[],[]⟩,fun q=>ns.length - q.1.1,⟨(0,left - (ns.map ag).length),by simp,by dsimp only;omega,by dsimp only;omega,by simp⟩,?_,?_⟩
 ·skip
  repeat' ((conv=>whnf);first|refine Or.inl ?_|apply oi|(apply fi<;>intro h)|refine⟨_,rfl,?_⟩|exact rfl)
  all_goals try exact⟨KO⟩
 intro⟨⟨k,lk⟩,hk,h0,h1,hsz⟩
 dsimp only at hk h0 h1 hsz ⊢
 repeat' ((conv=>whnf);first|refine Or.inl ?_|apply oi|(apply fi<;>intro h)|refine⟨_,rfl,?_⟩|exact rfl)
 all_goals try exact⟨KO⟩
 ·have hlt:k < ns.length:=by have:=of_decide_eq_true h;omega
  obtain⟨x,hx⟩:=af hlt
  have hxl:x.length≤9223372036854775807:=by simpa [maxLen]using hw.2 x (List.mem_of_getElem? hx)
  rw[dP hx,List.map_cons,jP,ag,szR,szT]at hsz
  conv=>whnf
  refine⟨k,ag x,rfl,aa hx,?_⟩
  repeat' ((conv=>whnf);first|refine Or.inl ?_|apply oi|(apply fi<;>intro h)|refine⟨_,rfl,?_⟩|exact rfl)
  all_goals try exact⟨KO⟩
  ·refine⟨congrArg (Tr.int _) ?_⟩
   have h3:=of_decide_eq_true h
   rw[IntWalk.i64_in _ (by omega)]at h3
   rw[←hsz,if_pos h3]
   simp
  have h3:=of_decide_eq_false h
  rw[IntWalk.i64_in _ (by omega)]at h3
  rw[if_neg h3,if_neg h3,szR,if_neg h3]at hsz
  conv=>whnf
  refine⟨⟨(k+1,lk - x.length),by dsimp only;omega,by dsimp only;omega,by dsimp only;omega,hsz⟩,?_,KD⟩
  repeat' ((conv=>whnf);first|refine Or.inl ?_|apply oi|(apply fi<;>intro h)|refine⟨_,rfl,?_⟩|exact rfl)
  all_goals try exact⟨KO⟩
  ·exact⟨by dsimp only;rw[IntWalk.i64_in _ (by omega)]⟩
  ·exact⟨by dsimp only;rw[IntWalk.i64_in _ (by omega)];rfl⟩
 ·have hge:ns.length≤k:=by have:=of_decide_eq_false h;omega
  rw[List.drop_eq_nil_of_le hge,List.map_nil,jP]at hsz
  exact⟨congrArg (Tr.int _) hsz⟩
theorem Cj {row:List Tr}(h:eE Γ 8 265 row):∃x:CU,row=x.tr∧x.wf:=by
 obtain⟨_,_,rfl,⟨x0,rfl,w0⟩,_,_,rfl,⟨x1,rfl,w1⟩,_,_,rfl,⟨x2,rfl,w2⟩,rfl⟩:=h
 exact⟨⟨x0,x1,x2⟩,rfl,⟨oK w0,oK w1,w2⟩⟩
theorem Br {row:List Tr}(h:eE Γ 8 135 row):∃x:CM,row=x.tr∧x.wf:=by
 obtain⟨_,_,rfl,⟨x0,rfl,w0⟩,_,_,rfl,⟨x1,rfl,w1⟩,_,_,rfl,⟨r2,rfl,w2,e2⟩,_,_,rfl,⟨r3,rfl,w3,e3⟩,rfl⟩:=h
 obtain⟨x2,rfl,v2⟩:=mQ (g:=ag) (Q:=(fun y=>y.length≤maxLen)) (rows:=r2) (fun r hr=>Cq (e2 r hr))
 obtain⟨x3,rfl,v3⟩:=mQ (g:=CU.tr) (Q:=(fun y=>y.wf)) (rows:=r3) (fun r hr=>Cj (ve (by decide) (e3 r hr)))
 exact⟨⟨x0,x1,x2,x3⟩,rfl,⟨oK w0,w1,⟨by simpa using w2,v2⟩,⟨by simpa using w3,v3⟩⟩⟩
theorem AF {row:List Tr}(h:eE Γ 8 60 row):∃x:CE,row=x.tr∧x.wf:=by
 obtain⟨_,_,rfl,⟨x0,rfl,w0⟩,_,_,rfl,⟨x1,rfl,w1⟩,_,_,rfl,⟨x2,rfl⟩,_,_,rfl,⟨x3,rfl⟩,rfl⟩:=h
 exact⟨⟨x0,x1,x2,x3⟩,rfl,⟨oK w0,oK w1⟩⟩
theorem vX (x:CO)(hs:aE 1048576 x.tr):Sim.Spec Tryz.prog 221 [.agg x.tr,.agg x.tr] (rB true):=by
 simp only[CO.tr,aE]at hs
 refine aj hΓ aq Tryz.func221 rfl (by decide) rfl ?_
 repeat' ((conv=>whnf);first|refine Or.inl ?_|apply oi|(apply fi<;>intro h)|refine⟨_,rfl,?_⟩|exact rfl)
 all_goals try exact⟨KO⟩
 all_goals simp at *
theorem uR (x:CU)(hs:aE 1048576 x.tr):Sim.Spec Tryz.prog 209 [.agg x.tr] (.r (.agg (x.tr.map zG))):=by
 simp only[CU.tr,aE]at hs
 refine aj hΓ aq Tryz.func209 rfl (by decide) rfl ?_
 repeat' ((conv=>whnf);first|refine Or.inl ?_|apply oi|(apply fi<;>intro h)|refine⟨_,rfl,?_⟩|exact rfl)
 all_goals try exact⟨KO⟩
theorem mU (x:CU)(hs:aE 1048576 x.tr):Sim.Spec Tryz.prog 222 [.agg x.tr,.agg x.tr] (rB true):=by
 simp only[CU.tr,aE]at hs
 refine aj hΓ aq Tryz.func222 rfl (by decide) rfl ?_
 repeat' ((conv=>whnf);first|refine Or.inl ?_|apply oi|(apply fi<;>intro h)|refine⟨_,rfl,?_⟩|exact rfl)
 all_goals try exact⟨KO⟩
 all_goals simp at *
theorem uz (x:CU)(hw:x.wf)(left:Int)(hle0:0≤left)(hle1:left≤1048576):Sim.Spec Tryz.prog 208 [.agg x.tr,tvI left] (rI (szR x.tr left)):=by
 simp only[CU.wf,maxLen]at hw
 obtain⟨Z,hz0⟩:∃Z,Z=szR x.tr left:=⟨_,rfl⟩
 have hz:=hz0
 rw[CU.tr]at hz
 refine aj hΓ aq Tryz.func208 rfl (by decide) rfl ?_
 rw[uS (by omega)]at hz
 rw[uS (by omega)]at hz
 repeat' ((conv=>whnf);first|refine Or.inl ?_|apply oi|(apply fi<;>intro h)|refine⟨_,rfl,?_⟩|exact rfl)
 all_goals try exact⟨KO⟩
 ·have h2:=of_decide_eq_true h
  rw[IntWalk.i64_in _ (by omega)]at h2
  exact⟨congrArg (Tr.int _) (hz0.symm.trans (hz.trans (pj h2))).symm⟩
 have g1:=of_decide_eq_false h
 rw[IntWalk.i64_in _ (by omega)]at g1
 clear h
 rw[IntWalk.i64_in (left - x.fab.length) (by omega)]
 rw[xW g1]at hz
 all_goals exact⟨congrArg (Tr.int _) ((hz0.symm.trans (hz.trans (yg _))).symm)⟩
theorem sG (xs:List (CU))(hs:aA 1048576 (.lst 3 (xs.map CU.tr))):Sim.Spec Tryz.prog 150 [tvL 3 (xs.map CU.tr)] (rL 3 (xs.map CU.tr)):=by
 have hl:=cR hs
 have hlen:(xs.map CU.tr).length=xs.length:=by simp
 refine aj hΓ aq Tryz.func150 rfl (by decide) rfl ?_
 repeat' ((conv=>whnf);first|refine Or.inl ?_|apply oi|(apply fi<;>intro h)|refine⟨_,rfl,?_⟩|exact rfl)
 all_goals try exact⟨KO⟩
 ·exact⟨by omega⟩
 ·exact⟨by dsimp only;omega⟩
 repeat' ((conv=>whnf);first|refine Or.inl ?_|apply oi|(apply fi<;>intro h)|refine⟨_,rfl,?_⟩|exact rfl)
 all_goals try exact⟨KO⟩
 conv=>whnf
 refine⟨{k:Nat // k≤xs.length},fun k=>⟨[(0,.r (.c (.t (.lst 3 (xs.map CU.tr))))),(3,.r (.c (.own (3,0,0)))),(4,tI .i64 (k.1:Int))],[((3,0,0),some (.arr true 3 (dV (xs.map CU.tr) [.int .i64 0,.int .i64 0,.str []] k.1)))],[3]⟩,fun k=>xs.length - k.1,⟨0,by omega⟩,?_,?_⟩
 ·skip
  repeat' ((conv=>whnf);first|refine Or.inl ?_|apply oi|(apply fi<;>intro h)|refine⟨_,rfl,?_⟩|exact rfl)
  all_goals try exact⟨KO⟩
  all_goals exact⟨by first|(rw[←fe,hlen];done)|(rw[←fe,hlen,ae,List.map_replicate];done)|(rw[←fe,hlen,ae,List.map_replicate];rfl)⟩
 intro⟨k,hk⟩
 dsimp only
 repeat' ((conv=>whnf);first|refine Or.inl ?_|apply oi|(apply fi<;>intro h)|refine⟨_,rfl,?_⟩|exact rfl)
 all_goals try exact⟨KO⟩
 ·have hlt:k < xs.length:=by have:=of_decide_eq_true h;omega
  obtain⟨x,hx⟩:=af hlt
  have hsr:=aC hs (List.mem_of_getElem? hx)
  conv=>whnf
  refine⟨k,_,rfl,aa hx,?_⟩
  repeat' ((conv=>whnf);first|refine Or.inl ?_|apply oi|(apply fi<;>intro h)|refine ci ((uR x hsr)) (ai (ai rfl (ai rfl (ai rfl trivial))) trivial) ?_|refine⟨_,rfl,?_⟩|exact rfl)
  all_goals try exact⟨KO⟩
  ·exact⟨by rw[me (by omega)];omega⟩
  conv=>whnf
  refine⟨_,lV (by omega),?_⟩
  repeat' ((conv=>whnf);first|refine Or.inl ?_|apply oi|(apply fi<;>intro h)|refine⟨_,rfl,?_⟩|exact rfl)
  all_goals try exact⟨KO⟩
  conv=>whnf
  refine⟨⟨k+1,by omega⟩,?_,KD⟩
  repeat' ((conv=>whnf);first|refine Or.inl ?_|apply oi|(apply fi<;>intro h)|refine⟨_,rfl,?_⟩|exact rfl)
  all_goals try exact⟨KO⟩
  ·exact⟨by dsimp only;rw[IntWalk.i64_in _ (by omega)];rfl⟩
  ·exact⟨lY (aa hx)⟩
 ·have hge:xs.length≤k:=by have:=of_decide_eq_false h;omega
  exact⟨mv (by omega)⟩
theorem sO (xs:List (CU))(hs:aA 1048576 (.lst 3 (xs.map CU.tr))):Sim.Spec Tryz.prog 163 [tvL 3 (xs.map CU.tr),tvL 3 (xs.map CU.tr)] (rB true):=by
 have hl:=cR hs
 have hlen:(xs.map CU.tr).length=xs.length:=by simp
 refine aj hΓ aq Tryz.func163 rfl (by decide) rfl ?_
 repeat' ((conv=>whnf);first|refine Or.inl ?_|apply oi|(apply fi<;>intro h)|refine⟨_,rfl,?_⟩|exact rfl)
 all_goals try exact⟨KO⟩
 ·simp at h
 conv=>whnf
 refine⟨{k:Nat // k≤xs.length},fun k=>⟨[(0,.r (.c (.t (.lst 3 (xs.map CU.tr))))),(1,.r (.c (.t (.lst 3 (xs.map CU.tr))))),(5,tI .i64 (k.1:Int))],[],[]⟩,fun k=>xs.length - k.1,⟨0,by omega⟩,?_,?_⟩
 ·skip
  repeat' ((conv=>whnf);first|refine Or.inl ?_|apply oi|(apply fi<;>intro h)|refine⟨_,rfl,?_⟩|exact rfl)
  all_goals try exact⟨KO⟩
 intro⟨k,hk⟩
 dsimp only
 repeat' ((conv=>whnf);first|refine Or.inl ?_|apply oi|(apply fi<;>intro h)|refine⟨_,rfl,?_⟩|exact rfl)
 all_goals try exact⟨KO⟩
 ·have hlt:k < xs.length:=by have:=of_decide_eq_true h;omega
  obtain⟨x,hx⟩:=af hlt
  have hsr:=aC hs (List.mem_of_getElem? hx)
  conv=>whnf
  refine⟨k,_,rfl,aa hx,?_⟩
  repeat' ((conv=>whnf);first|refine Or.inl ?_|apply oi|(apply fi<;>intro h)|refine ci ((mU x hsr)) (ai (ai rfl (ai rfl (ai rfl trivial))) (ai (ai rfl (ai rfl (ai rfl trivial))) trivial)) ?_|refine⟨_,rfl,?_⟩|exact rfl)
  all_goals try exact⟨KO⟩
  conv=>whnf
  refine⟨k,_,rfl,aa hx,?_⟩
  repeat' ((conv=>whnf);first|refine Or.inl ?_|apply oi|(apply fi<;>intro h)|refine ci ((mU x hsr)) (ai (ai rfl (ai rfl (ai rfl trivial))) (ai (ai rfl (ai rfl (ai rfl trivial))) trivial)) ?_|refine⟨_,rfl,?_⟩|exact rfl)
  all_goals try exact⟨KO⟩
  all_goals try(exfalso;simp at h;done)
  conv=>whnf
  refine⟨⟨k+1,by omega⟩,?_,KD⟩
  repeat' ((conv=>whnf);first|refine Or.inl ?_|apply oi|(apply fi<;>intro h)|refine⟨_,rfl,?_⟩|exact rfl)
  all_goals try exact⟨KO⟩
  exact⟨by dsimp only;rw[IntWalk.i64_in _ (by omega)];rfl⟩
theorem sI (xs:List (CU))(hw:xs.length≤maxLen∧∀y∈xs,y.wf)(left:Int)(hle0:0≤left)(hle1:left≤1048576):Sim.Spec Tryz.prog 148 [tvL 3 (xs.map CU.tr),tvI left] (rI (szT (.lst 3 (xs.map CU.tr)) left)):=by
 have hl2:(xs.map CU.tr).length≤9223372036854775807:=by simpa [maxLen]using hw.1
 have hlen:(xs.map CU.tr).length=xs.length:=by simp
 rw[szT]
 refine aj hΓ aq Tryz.func148 rfl (by decide) rfl ?_
 repeat' ((conv=>whnf);first|refine Or.inl ?_|apply oi|(apply fi<;>intro h)|refine⟨_,rfl,?_⟩|exact rfl)
 all_goals try exact⟨KO⟩
 ·refine⟨congrArg (Tr.int _) ?_⟩
  have h2:=of_decide_eq_true h
  rw[IntWalk.i64_in _ (by omega)]at h2
  rw[if_pos h2]
 have h2:=of_decide_eq_false h
 rw[IntWalk.i64_in _ (by omega)]at h2 ⊢
 rw[if_neg h2]
 conv=>whnf
 refine⟨{q:Nat×Int // q.1≤xs.length∧0≤q.2∧q.2≤1048576∧jP ((xs.drop q.1).map CU.tr) q.2=jP (xs.map CU.tr) (left - (xs.map CU.tr).length)},fun q=>⟨[(0,.r (.c (.t (.lst 3 (xs.map CU.tr))))),(1,tI .i64 q.1.2),(5,tI .i64 (q.1.1:Int))],[],[]⟩,fun q=>xs.length - q.1.1,⟨(0,left - (xs.map CU.tr).length),by simp,by dsimp only;omega,by dsimp only;omega,by simp⟩,?_,?_⟩
 ·skip
  repeat' ((conv=>whnf);first|refine Or.inl ?_|apply oi|(apply fi<;>intro h)|refine⟨_,rfl,?_⟩|exact rfl)
  all_goals try exact⟨KO⟩
 intro⟨⟨k,lk⟩,hk,h0,h1,hsz⟩
 dsimp only at hk h0 h1 hsz ⊢
 repeat' ((conv=>whnf);first|refine Or.inl ?_|apply oi|(apply fi<;>intro h)|refine⟨_,rfl,?_⟩|exact rfl)
 all_goals try exact⟨KO⟩
 ·have hlt:k < xs.length:=by have:=of_decide_eq_true h;omega
  obtain⟨x,hx⟩:=af hlt
  have hxw:=hw.2 x (List.mem_of_getElem? hx)
  rw[dP hx,List.map_cons,jP]at hsz
  conv=>whnf
  refine⟨k,_,rfl,aa hx,?_⟩
  repeat' ((conv=>whnf);first|refine Or.inl ?_|apply oi|(apply fi<;>intro h)|refine ci ((uz x hxw lk h0 h1)) (ai (ai rfl (ai rfl (ai rfl trivial))) (ai rfl trivial)) ?_|refine⟨_,rfl,?_⟩|exact rfl)
  all_goals try exact⟨KO⟩
  ·refine⟨congrArg (Tr.int _) ?_⟩
   rw[←hsz,if_pos (of_decide_eq_true h)]
  have h3:=of_decide_eq_false h
  rw[if_neg h3]at hsz
  have hsm:=kP (L:=1048576) _ _ (Int.not_lt.1 h3) h1
  conv=>whnf
  refine⟨⟨(k+1,_),by dsimp only;omega,by dsimp only;exact Int.not_lt.1 h3,by dsimp only;exact Int.le_trans hsm.2 h1,hsz⟩,?_,KD⟩
  repeat' ((conv=>whnf);first|refine Or.inl ?_|apply oi|(apply fi<;>intro h)|refine⟨_,rfl,?_⟩|exact rfl)
  all_goals try exact⟨KO⟩
  exact⟨by dsimp only;rw[IntWalk.i64_in _ (by omega)];rfl⟩
 ·have hge:xs.length≤k:=by have:=of_decide_eq_false h;omega
  rw[List.drop_eq_nil_of_le hge,List.map_nil,jP]at hsz
  exact⟨congrArg (Tr.int _) hsz⟩
theorem sK (x:CM)(hs:aE 1048576 x.tr):Sim.Spec Tryz.prog 76 [.agg x.tr] (.r (.agg (x.tr.map zG))):=by
 simp only[CM.tr,aE]at hs
 refine aj hΓ aq Tryz.func76 rfl (by decide) rfl ?_
 repeat' ((conv=>whnf);first|refine Or.inl ?_|apply oi|(apply fi<;>intro h)|refine ci ((ou x.fad hs.2.2.1)) (ai rfl trivial) ?_|refine ci ((sG x.fac hs.2.2.2.1)) (ai rfl trivial) ?_|refine⟨_,rfl,?_⟩|exact rfl)
 all_goals try exact⟨KO⟩
theorem lD (x:CM)(hs:aE 1048576 x.tr):Sim.Spec Tryz.prog 81 [.agg x.tr,.agg x.tr] (rB true):=by
 simp only[CM.tr,aE]at hs
 refine aj hΓ aq Tryz.func81 rfl (by decide) rfl ?_
 repeat' ((conv=>whnf);first|refine Or.inl ?_|apply oi|(apply fi<;>intro h)|refine ci ((oB x.fad hs.2.2.1)) (ai rfl (ai rfl trivial)) ?_|refine ci ((sO x.fac hs.2.2.2.1)) (ai rfl (ai rfl trivial)) ?_|refine⟨_,rfl,?_⟩|exact rfl)
 all_goals try exact⟨KO⟩
 all_goals simp at *
theorem sC (x:CM)(hw:x.wf)(left:Int)(hle0:0≤left)(hle1:left≤1048576):Sim.Spec Tryz.prog 75 [.agg x.tr,tvI left] (rI (szR x.tr left)):=by
 simp only[CM.wf,maxLen]at hw
 obtain⟨Z,hz0⟩:∃Z,Z=szR x.tr left:=⟨_,rfl⟩
 have hz:=hz0
 rw[CM.tr]at hz
 refine aj hΓ aq Tryz.func75 rfl (by decide) rfl ?_
 rw[uS (by omega)]at hz
 repeat' ((conv=>whnf);first|refine Or.inl ?_|apply oi|(apply fi<;>intro h)|refine⟨_,rfl,?_⟩|exact rfl)
 all_goals try exact⟨KO⟩
 ·have h2:=of_decide_eq_true h
  rw[IntWalk.i64_in _ (by omega)]at h2
  exact⟨congrArg (Tr.int _) (hz0.symm.trans (hz.trans (pj h2))).symm⟩
 have g1:=of_decide_eq_false h
 rw[IntWalk.i64_in _ (by omega)]at g1
 clear h
 rw[IntWalk.i64_in (left - x.fab.length) (by omega)]
 rw[xW g1]at hz
 repeat' ((conv=>whnf);first|refine Or.inl ?_|apply oi|(apply fi<;>intro h)|refine⟨_,rfl,?_⟩|exact rfl)
 all_goals try exact⟨KO⟩
 repeat' ((conv=>whnf);first|refine Or.inl ?_|apply oi|(apply fi<;>intro h)|refine ci ((ot x.fad (by simpa [maxLen]using hw.2.2.1) (left - x.fab.length) (by omega) (by omega))) (ai rfl (ai rfl trivial)) ?_|refine⟨_,rfl,?_⟩|exact rfl)
 all_goals try exact⟨KO⟩
 ·exact⟨congrArg (Tr.int _) (hz0.symm.trans (hz.trans (yy (of_decide_eq_true h)))).symm⟩
 have g2:=of_decide_eq_false h
 clear h
 rw[yd g2]at hz
 have b2:=(lw (L:=1048576) _ _ (Int.not_lt.1 g2) (by omega)).2
 repeat' ((conv=>whnf);first|refine Or.inl ?_|apply oi|(apply fi<;>intro h)|refine⟨_,rfl,?_⟩|exact rfl)
 all_goals try exact⟨KO⟩
 repeat' ((conv=>whnf);first|refine Or.inl ?_|apply oi|(apply fi<;>intro h)|refine ci ((sI x.fac (by simpa [maxLen]using hw.2.2.2) (szT (.lst 1 (x.fad.map ag)) (left - x.fab.length)) (by omega) (by omega))) (ai rfl (ai rfl trivial)) ?_|refine⟨_,rfl,?_⟩|exact rfl)
 all_goals try exact⟨KO⟩
 ·exact⟨congrArg (Tr.int _) (hz0.symm.trans (hz.trans (yy (of_decide_eq_true h)))).symm⟩
 have g3:=of_decide_eq_false h
 clear h
 rw[yd g3]at hz
 have b3:=(lw (L:=1048576) _ _ (Int.not_lt.1 g3) (by omega)).2
 all_goals exact⟨congrArg (Tr.int _) ((hz0.symm.trans (hz.trans (yg _))).symm)⟩
theorem rR (xs:List (CM))(hs:aA 1048576 (.lst 4 (xs.map CM.tr))):Sim.Spec Tryz.prog 30 [tvL 4 (xs.map CM.tr),tvL 4 (xs.map CM.tr)] (rB true):=by
 have hl:=cR hs
 have hlen:(xs.map CM.tr).length=xs.length:=by simp
 refine aj hΓ aq Tryz.func30 rfl (by decide) rfl ?_
 repeat' ((conv=>whnf);first|refine Or.inl ?_|apply oi|(apply fi<;>intro h)|refine⟨_,rfl,?_⟩|exact rfl)
 all_goals try exact⟨KO⟩
 ·simp at h
 conv=>whnf
 refine⟨{k:Nat // k≤xs.length},fun k=>⟨[(0,.r (.c (.t (.lst 4 (xs.map CM.tr))))),(1,.r (.c (.t (.lst 4 (xs.map CM.tr))))),(5,tI .i64 (k.1:Int))],[],[]⟩,fun k=>xs.length - k.1,⟨0,by omega⟩,?_,?_⟩
 ·skip
  repeat' ((conv=>whnf);first|refine Or.inl ?_|apply oi|(apply fi<;>intro h)|refine⟨_,rfl,?_⟩|exact rfl)
  all_goals try exact⟨KO⟩
 intro⟨k,hk⟩
 dsimp only
 repeat' ((conv=>whnf);first|refine Or.inl ?_|apply oi|(apply fi<;>intro h)|refine⟨_,rfl,?_⟩|exact rfl)
 all_goals try exact⟨KO⟩
 ·have hlt:k < xs.length:=by have:=of_decide_eq_true h;omega
  obtain⟨x,hx⟩:=af hlt
  have hsr:=aC hs (List.mem_of_getElem? hx)
  conv=>whnf
  refine⟨k,_,rfl,aa hx,?_⟩
  repeat' ((conv=>whnf);first|refine Or.inl ?_|apply oi|(apply fi<;>intro h)|refine ci ((lD x hsr)) (ai (ai rfl (ai rfl (ai rfl (ai rfl trivial)))) (ai (ai rfl (ai rfl (ai rfl (ai rfl trivial)))) trivial)) ?_|refine⟨_,rfl,?_⟩|exact rfl)
  all_goals try exact⟨KO⟩
  conv=>whnf
  refine⟨k,_,rfl,aa hx,?_⟩
  repeat' ((conv=>whnf);first|refine Or.inl ?_|apply oi|(apply fi<;>intro h)|refine ci ((lD x hsr)) (ai (ai rfl (ai rfl (ai rfl (ai rfl trivial)))) (ai (ai rfl (ai rfl (ai rfl (ai rfl trivial)))) trivial)) ?_|refine⟨_,rfl,?_⟩|exact rfl)
  all_goals try exact⟨KO⟩
  all_goals try(exfalso;simp at h;done)
  conv=>whnf
  refine⟨⟨k+1,by omega⟩,?_,KD⟩
  repeat' ((conv=>whnf);first|refine Or.inl ?_|apply oi|(apply fi<;>intro h)|refine⟨_,rfl,?_⟩|exact rfl)
  all_goals try exact⟨KO⟩
  exact⟨by dsimp only;rw[IntWalk.i64_in _ (by omega)];rfl⟩
theorem qR (xs:List (CM))(hw:xs.length≤maxLen∧∀y∈xs,y.wf)(left:Int)(hle0:0≤left)(hle1:left≤1048576):Sim.Spec Tryz.prog 25 [tvL 4 (xs.map CM.tr),tvI left] (rI (szT (.lst 4 (xs.map CM.tr)) left)):=by
 have hl2:(xs.map CM.tr).length≤9223372036854775807:=by simpa [maxLen]using hw.1
 have hlen:(xs.map CM.tr).length=xs.length:=by simp
 rw[szT]
 refine aj hΓ aq Tryz.func25 rfl (by decide) rfl ?_
 repeat' ((conv=>whnf);first|refine Or.inl ?_|apply oi|(apply fi<;>intro h)|refine⟨_,rfl,?_⟩|exact rfl)
 all_goals try exact⟨KO⟩
 ·refine⟨congrArg (Tr.int _) ?_⟩
  have h2:=of_decide_eq_true h
  rw[IntWalk.i64_in _ (by omega)]at h2
  rw[if_pos h2]
 have h2:=of_decide_eq_false h
 rw[IntWalk.i64_in _ (by omega)]at h2 ⊢
 rw[if_neg h2]
 conv=>whnf
 refine⟨{q:Nat×Int // q.1≤xs.length∧0≤q.2∧q.2≤1048576∧jP ((xs.drop q.1).map CM.tr) q.2=jP (xs.map CM.tr) (left - (xs.map CM.tr).length)},fun q=>⟨[(0,.r (.c (.t (.lst 4 (xs.map CM.tr))))),(1,tI .i64 q.1.2),(5,tI .i64 (q.1.1:Int))],[],[]⟩,fun q=>xs.length - q.1.1,⟨(0,left - (xs.map CM.tr).length),by simp,by dsimp only;omega,by dsimp only;omega,by simp⟩,?_,?_⟩
 ·skip
  repeat' ((conv=>whnf);first|refine Or.inl ?_|apply oi|(apply fi<;>intro h)|refine⟨_,rfl,?_⟩|exact rfl)
  all_goals try exact⟨KO⟩
 intro⟨⟨k,lk⟩,hk,h0,h1,hsz⟩
 dsimp only at hk h0 h1 hsz ⊢
 repeat' ((conv=>whnf);first|refine Or.inl ?_|apply oi|(apply fi<;>intro h)|refine⟨_,rfl,?_⟩|exact rfl)
 all_goals try exact⟨KO⟩
 ·have hlt:k < xs.length:=by have:=of_decide_eq_true h;omega
  obtain⟨x,hx⟩:=af hlt
  have hxw:=hw.2 x (List.mem_of_getElem? hx)
  rw[dP hx,List.map_cons,jP]at hsz
  conv=>whnf
  refine⟨k,_,rfl,aa hx,?_⟩
  repeat' ((conv=>whnf);first|refine Or.inl ?_|apply oi|(apply fi<;>intro h)|refine ci ((sC x hxw lk h0 h1)) (ai (ai rfl (ai rfl (ai rfl (ai rfl trivial)))) (ai rfl trivial)) ?_|refine⟨_,rfl,?_⟩|exact rfl)
  all_goals try exact⟨KO⟩
  ·refine⟨congrArg (Tr.int _) ?_⟩
   rw[←hsz,if_pos (of_decide_eq_true h)]
  have h3:=of_decide_eq_false h
  rw[if_neg h3]at hsz
  have hsm:=kP (L:=1048576) _ _ (Int.not_lt.1 h3) h1
  conv=>whnf
  refine⟨⟨(k+1,_),by dsimp only;omega,by dsimp only;exact Int.not_lt.1 h3,by dsimp only;exact Int.le_trans hsm.2 h1,hsz⟩,?_,KD⟩
  repeat' ((conv=>whnf);first|refine Or.inl ?_|apply oi|(apply fi<;>intro h)|refine⟨_,rfl,?_⟩|exact rfl)
  all_goals try exact⟨KO⟩
  exact⟨by dsimp only;rw[IntWalk.i64_in _ (by omega)];rfl⟩
 ·have hge:xs.length≤k:=by have:=of_decide_eq_false h;omega
  rw[List.drop_eq_nil_of_le hge,List.map_nil,jP]at hsz
  exact⟨congrArg (Tr.int _) hsz⟩
theorem rp (x:CE)(hs:aE 1048576 x.tr):Sim.Spec Tryz.prog 27 [.agg x.tr] (.r (.agg (x.tr.map zG))):=by
 simp only[CE.tr,aE]at hs
 refine aj hΓ aq Tryz.func27 rfl (by decide) rfl ?_
 repeat' ((conv=>whnf);first|refine Or.inl ?_|apply oi|(apply fi<;>intro h)|refine⟨_,rfl,?_⟩|exact rfl)
 all_goals try exact⟨KO⟩
theorem sA (x:CL)(hs:aE 1048576 x.tr):Sim.Spec Tryz.prog 161 [.agg x.tr,.agg x.tr] (rB true):=by
 simp only[CL.tr,aE]at hs
 refine aj hΓ aq Tryz.func161 rfl (by decide) rfl ?_
 repeat' ((conv=>whnf);first|refine Or.inl ?_|apply oi|(apply fi<;>intro h)|refine ci ((vX x.fae (by rw[CO.tr];simp only[aE];exact⟨hs.1,hs.2.1,trivial⟩))) (ai (ai rfl (ai rfl trivial)) (ai (ai rfl (ai rfl trivial)) trivial)) ?_|refine ci ((sE x.faj x.faj (bo hs.2.2.2.2.1))) (ai rfl (ai rfl trivial)) ?_|refine⟨_,rfl,?_⟩|exact rfl)
 all_goals try exact⟨KO⟩
 all_goals simp at *
theorem jU (x:CP)(hs:aE 1048576 x.tr):Sim.Spec Tryz.prog 80 [.agg x.tr,.agg x.tr] (rB true):=by
 simp only[CP.tr,aE]at hs
 refine aj hΓ aq Tryz.func80 rfl (by decide) rfl ?_
 repeat' ((conv=>whnf);first|refine Or.inl ?_|apply oi|(apply fi<;>intro h)|refine ci ((sA x.fak (by rw[CL.tr];simp only[aE];exact⟨hs.2.1,hs.2.2.1,hs.2.2.2.1,hs.2.2.2.2.1,hs.2.2.2.2.2.1,hs.2.2.2.2.2.2.1,hs.2.2.2.2.2.2.2.1,trivial⟩))) (ai (ai rfl (ai rfl (ai rfl (ai rfl (ai rfl (ai rfl (ai rfl trivial))))))) (ai (ai rfl (ai rfl (ai rfl (ai rfl (ai rfl (ai rfl (ai rfl trivial))))))) trivial)) ?_|refine⟨_,rfl,?_⟩|exact rfl)
 all_goals try exact⟨KO⟩
 all_goals simp at *
theorem pO (xs:List (CP))(hs:aA 1048576 (.lst 8 (xs.map CP.tr))):Sim.Spec Tryz.prog 29 [tvL 8 (xs.map CP.tr),tvL 8 (xs.map CP.tr)] (rB true):=by
 have hl:=cR hs
 have hlen:(xs.map CP.tr).length=xs.length:=by simp
 refine aj hΓ aq Tryz.func29 rfl (by decide) rfl ?_
 repeat' ((conv=>whnf);first|refine Or.inl ?_|apply oi|(apply fi<;>intro h)|refine⟨_,rfl,?_⟩|exact rfl)
 all_goals try exact⟨KO⟩
 ·simp at h
 conv=>whnf
 refine⟨{k:Nat // k≤xs.length},fun k=>⟨[(0,.r (.c (.t (.lst 8 (xs.map CP.tr))))),(1,.r (.c (.t (.lst 8 (xs.map CP.tr))))),(5,tI .i64 (k.1:Int))],[],[]⟩,fun k=>xs.length - k.1,⟨0,by omega⟩,?_,?_⟩
 ·skip
  repeat' ((conv=>whnf);first|refine Or.inl ?_|apply oi|(apply fi<;>intro h)|refine⟨_,rfl,?_⟩|exact rfl)
  all_goals try exact⟨KO⟩
 intro⟨k,hk⟩
 dsimp only
 repeat' ((conv=>whnf);first|refine Or.inl ?_|apply oi|(apply fi<;>intro h)|refine⟨_,rfl,?_⟩|exact rfl)
 all_goals try exact⟨KO⟩
 ·have hlt:k < xs.length:=by have:=of_decide_eq_true h;omega
  obtain⟨x,hx⟩:=af hlt
  have hsr:=aC hs (List.mem_of_getElem? hx)
  conv=>whnf
  refine⟨k,_,rfl,aa hx,?_⟩
  repeat' ((conv=>whnf);first|refine Or.inl ?_|apply oi|(apply fi<;>intro h)|refine ci ((jU x hsr)) (ai (ai rfl (ai rfl (ai rfl (ai rfl (ai rfl (ai rfl (ai rfl (ai rfl trivial)))))))) (ai (ai rfl (ai rfl (ai rfl (ai rfl (ai rfl (ai rfl (ai rfl (ai rfl trivial)))))))) trivial)) ?_|refine⟨_,rfl,?_⟩|exact rfl)
  all_goals try exact⟨KO⟩
  conv=>whnf
  refine⟨k,_,rfl,aa hx,?_⟩
  repeat' ((conv=>whnf);first|refine Or.inl ?_|apply oi|(apply fi<;>intro h)|refine ci ((jU x hsr)) (ai (ai rfl (ai rfl (ai rfl (ai rfl (ai rfl (ai rfl (ai rfl (ai rfl trivial)))))))) (ai (ai rfl (ai rfl (ai rfl (ai rfl (ai rfl (ai rfl (ai rfl (ai rfl trivial)))))))) trivial)) ?_|refine⟨_,rfl,?_⟩|exact rfl)
  all_goals try exact⟨KO⟩
  all_goals try(exfalso;simp at h;done)
  conv=>whnf
  refine⟨⟨k+1,by omega⟩,?_,KD⟩
  repeat' ((conv=>whnf);first|refine Or.inl ?_|apply oi|(apply fi<;>intro h)|refine⟨_,rfl,?_⟩|exact rfl)
  all_goals try exact⟨KO⟩
  exact⟨by dsimp only;rw[IntWalk.i64_in _ (by omega)];rfl⟩
end Go.Proofs.YtoglejgmjeojoaaGreat
namespace Go.Proofs.YtoglejgmjeojoaaGreat
open Go.Sim Go.RowKit
set_option maxRecDepth 100000
set_option maxHeartbeats 4000000
theorem vj:∀(cs:List Tr) (k:Int),(∀c∈cs,∀sz rs,c≠.lst sz rs)→∀c∈mkR cs k,∀sz rs,c≠.lst sz rs
 | [],_,_,c,hc,_,_=>by rw[mkR]at hc;cases hc
 | d::cs,k,h,c,hc,sz,rs=>by
  rw[mkR]at hc
  rcases List.mem_cons.1 hc with rfl|hc
  ·have:=h d (by simp)
   cases d with
   | lst sz rows=>exact absurd rfl (this sz rows)
   | _=>intro e;simp[mkT]at e
  ·exact vj cs _ (fun c hc=>h c (by simp[hc])) c hc sz rs
theorem mC:∀(rows:List (List Tr)) (k:Int),flat rows→flat (aN rows k)
 | [],_,_=>by rw[aN];intro r hr;cases hr
 | r::rows,k,h=>by
  rw[aN]
  intro row hr
  rcases List.mem_cons.1 hr with rfl|hr
  ·exact vj r k (h r (by simp))
  ·exact mC rows _ (fun r hr=>h r (by simp[hr])) row hr
theorem zO (m:Nat):IntKind.u8.wrap (IntKind.i64.wrap (48+(m:Int).tmod 10))=((UInt8.ofNat (48+m % 10)).toNat:Int):=by
 rw[Int.tmod_eq_emod_of_nonneg (by omega),IntWalk.i64_in _ (by omega),IntWalk.u8_in _ (by omega)]
 simp
 omega
theorem Bm (m:Nat)(h:m≤9223372036854775807):IntKind.i64.wrap ((m:Int).tdiv 10)=((m / 10:Nat):Int):=by
 rw[Int.tdiv_eq_ediv_of_nonneg (by omega),IntWalk.i64_in _ (by omega)]
 omega
theorem da (k:Int)(hk:k≤9223372036854775807):Sim.Spec Tryz.prog 82 [tvI k] (rS (xM k)):=by
 refine aj hΓ aq Tryz.func82 rfl (by decide) rfl ?_
 repeat' ((conv=>whnf);first|refine Or.inl ?_|apply oi|(apply fi<;>intro h)|refine⟨_,rfl,?_⟩|exact rfl)
 all_goals try exact⟨KO⟩
 ·exact⟨by rw[xM,if_pos (of_decide_eq_true h)]⟩
 have h0:¬k≤0:=of_decide_eq_false h
 clear h
 rw[xM,if_neg h0]
 obtain⟨n,rfl⟩:=Int.eq_ofNat_of_zero_le (show 0≤k by omega)
 conv=>whnf
 refine⟨{q:Nat×List UInt8 // digs q.1 q.2=digs n []∧q.1 * 10 ^ q.2.length≤9223372036854775807∧q.2.length≤20},fun q=>⟨[(0,tI .i64 (q.1.1:Nat)),(3,tS q.1.2)],[],[]⟩,fun q=>q.1.1,⟨(n,[]),by simp,by simp;omega,by simp⟩,?_,?_⟩
 ·skip
  repeat' ((conv=>whnf);first|refine Or.inl ?_|apply oi|(apply fi<;>intro h)|refine⟨_,rfl,?_⟩|exact rfl)
  all_goals try exact⟨KO⟩
 intro⟨⟨m,o⟩,hd,hb,hl⟩
 dsimp only at hd hb hl ⊢
 have hm:m≤9223372036854775807:=Nat.le_trans (Nat.le_mul_of_pos_right m (Nat.pow_pos (by omega))) hb
 repeat' ((conv=>whnf);first|refine Or.inl ?_|apply oi|(apply fi<;>intro h)|refine⟨_,rfl,?_⟩|exact rfl)
 all_goals try exact⟨KO⟩
 all_goals try exact⟨fun r hr=>by simp at hr;subst hr;rfl⟩
 all_goals try exact⟨K1⟩
 ·have hmp:0 < m:=by have:=of_decide_eq_true h;omega
  have hl18:o.length≤18:=by
   rcases Nat.lt_or_ge 18 o.length with h'|h'
   ·have h1:10 ^ 19≤10 ^ o.length:=Nat.pow_le_pow_right (by omega) h'
    have h2:10 ^ o.length≤m * 10 ^ o.length:=Nat.le_mul_of_pos_left _ hmp
    omega
   ·exact h'
  conv=>whnf
  refine⟨[UInt8.ofNat (48+m % 10)],by rw[zO];rfl,?_⟩
  repeat' ((conv=>whnf);first|refine Or.inl ?_|apply oi|(apply fi<;>intro h)|refine⟨_,rfl,?_⟩|exact rfl)
  all_goals try exact⟨KO⟩
  all_goals try exact⟨K1⟩
  conv=>whnf
  refine⟨⟨(m / 10,UInt8.ofNat (48+m % 10)::o),by rw[←hd,digs.eq_def m,if_neg (by omega)],?_,by simp;omega⟩,?_,KD⟩
  ·dsimp only
   rw[List.length_cons,Nat.pow_succ]
   have h1:m / 10 * 10≤m:=Nat.div_mul_le_self m 10
   have h2:=Nat.mul_le_mul_right (10 ^ o.length) h1
   rw[Nat.mul_comm (10 ^ o.length) 10,←Nat.mul_assoc]
   omega
  repeat' ((conv=>whnf);first|refine Or.inl ?_|apply oi|(apply fi<;>intro h)|refine⟨_,rfl,?_⟩|exact rfl)
  all_goals try exact⟨KO⟩
  exact⟨by dsimp only;rw[Bm m hm]⟩
 ·have hm0:m=0:=by have:=of_decide_eq_false h;omega
  subst hm0
  rw[digs,if_pos rfl]at hd
  exact⟨by rw[hd];rfl⟩
theorem pz (xs:List (Int))(k:Int)(hk0:0≤k)(hl:xs.length≤1099511627776)(hk:k+(aw (xs.map ab):Nat)≤4611686018427387904):bp Tryz.prog 85 [.r (.c (.own (0,0,0))),tI .i64 k] [((0,0,0),.arr false 1 (xs.map ab))] (tI .i64 (k+(aw (xs.map ab):Nat))) [((0,0,0),.arr false 1 (aN (xs.map ab) k))]:=by
 refine eG hΓ aq Tryz.func85 rfl (by decide) rfl rfl ?_
 repeat' ((conv=>whnf);first|refine Or.inl ?_|apply oi|(apply fi<;>intro h)|refine⟨_,rfl,?_⟩|exact rfl)
 all_goals try exact⟨KO⟩
 conv=>whnf
 refine⟨{q:List (Int)×List (Int) // q.1++q.2=xs},fun q=>⟨[(0,.r (.c (.own (0,0,0)))),(1,tI .i64 (k+(aw (q.1.1.map ab):Nat))),(5,tI .i64 (q.1.1.length:Nat))],[((0,0,0),some (.arr false 1 (aN (q.1.1.map ab) k++q.1.2.map ab)))],[0]⟩,fun q=>q.1.2.length,⟨([],xs),rfl⟩,?_,?_⟩
 ·skip
  repeat' ((conv=>whnf);first|refine Or.inl ?_|apply oi|(apply fi<;>intro h)|refine⟨_,rfl,?_⟩|exact rfl)
  all_goals try exact⟨KO⟩
  all_goals exact⟨by first|rfl|simp[aw,aN]⟩
 intro⟨⟨a,b⟩,hab⟩
 dsimp only at hab ⊢
 have hal:a.length+b.length≤1099511627776:=by rw[←List.length_append,hab];exact hl
 have hsum:k+(aw (a.map ab):Nat)+(aw (b.map ab):Nat)=k+(aw (xs.map ab):Nat):=by rw[←hab,List.map_append,cG];omega
 have hall:aN (xs.map ab) k=aN (a.map ab) k++aN (b.map ab) (k+(aw (a.map ab):Nat)):=by rw[←hab,List.map_append,bY]
 have hDl:(aN (a.map ab) k).length=a.length:=by rw[cp,List.length_map]
 generalize hR:aN (a.map ab) k++b.map ab=R
 have hRl:R.length=a.length+b.length:=by rw[←hR];simp[hDl]
 generalize hK:k+(aw (a.map ab):Nat)=K at hsum hall ⊢
 generalize hD:aN (a.map ab) k=D at hR hall hDl
 generalize hT:aN (xs.map ab) k=T at hall ⊢
 generalize hC:k+(aw (xs.map ab):Nat)=C at hk hsum ⊢
 have hK0:0≤K:=by omega
 rcases hb:b with _|⟨x,b2⟩
 all_goals rw[hb]at hR hall hsum hRl hal
 ·have hKC:K=C:=by simpa [aw]using hsum
  have hRT:R=T:=by rw[hall,←hR];simp[aN]
  repeat' ((conv=>whnf);first|refine Or.inl ?_|apply oi|(apply fi<;>intro h)|refine⟨_,rfl,?_⟩|exact rfl)
  all_goals try exact⟨KO⟩
  all_goals try(exfalso;have h':=of_decide_eq_true h;rw[hRl]at h';simp at h';done)
  all_goals first|exact⟨by rw[hKC]⟩|exact⟨hRT⟩
 ·have hal2:a.length+(b2.length+1)≤1099511627776:=hal
  have hcx:cnR (ab x)=1:=by simp only[ab,cnR,cnT]
  have hsm:K+((1:Nat):Int)+(aw (b2.map ab):Nat)=C:=by rw[←hsum,List.map_cons,aw,hcx];omega
  have hRl2:R.length=a.length+(b2.length+1):=hRl
  have aQ:R[a.length]?=some (ab x):=by rw[←hR];exact jA hDl
  repeat' ((conv=>whnf);first|refine Or.inl ?_|apply oi|(apply fi<;>intro h)|refine⟨_,aQ,?_⟩|refine⟨_,jh (by(try simp only[List.length_set]);omega),?_⟩|refine ci ((da _ (by(try simp(disch:=omega)only[IntWalk.i64_in]);omega))) (ai rfl trivial) ?_|refine⟨_,rfl,?_⟩|exact rfl)
  all_goals try exact⟨KO⟩
  all_goals try(exfalso;have h':=of_decide_eq_false h;omega;done)
  all_goals try exact⟨by(try simp only[List.length_set]);omega⟩
  conv=>whnf
  refine⟨⟨(a++[x],b2),by rw[←hab,hb];simp⟩,?_,Nat.lt_succ_self _⟩
  repeat' ((conv=>whnf);first|refine Or.inl ?_|apply oi|(apply fi<;>intro h)|refine⟨_,rfl,?_⟩|exact rfl)
  all_goals try exact⟨KO⟩
  ·refine⟨congrArg (Tr.int _) ?_⟩
   dsimp only
   rw[eR,hcx]
   try simp(disch:=omega)only[IntWalk.i64_in]
   try omega
  ·refine⟨congrArg (Tr.int _) ?_⟩
   dsimp only
   rw[List.length_append]
   try simp(disch:=omega)only[IntWalk.i64_in]
   try rfl
  ·refine⟨?_⟩
   dsimp only
   rw[iq,iB,hD,hK,←hR]
   try simp(disch:=omega)only[set_set,mV hDl,List.map_cons,IntWalk.i64_in]
   try rfl
theorem pQ (xs:List (Int))(k:Int)(hk0:0≤k)(hl:xs.length≤1099511627776)(hk:k+(aw (xs.map ab):Nat)≤4611686018427387904):Sim.Spec Tryz.prog 86 [tvL 1 (aN (xs.map ab) k),tvI k] (rI (k+(aw (xs.map ab):Nat))):=by
 refine aj hΓ aq Tryz.func86 rfl (by decide) rfl ?_
 have hTl:(aN (xs.map ab) k).length=xs.length:=by rw[cp,List.length_map]
 have hal0:=fun(a b:List (Int))=>bY (a.map ab) (b.map ab) k
 generalize hT:aN (xs.map ab) k=T at hTl ⊢
 repeat' ((conv=>whnf);first|refine Or.inl ?_|apply oi|(apply fi<;>intro h)|refine⟨_,rfl,?_⟩|exact rfl)
 all_goals try exact⟨KO⟩
 conv=>whnf
 refine⟨{q:List (Int)×List (Int) // q.1++q.2=xs},fun q=>⟨[(0,.r (.c (.t (.lst 1 T)))),(1,tI .i64 (k+(aw (q.1.1.map ab):Nat))),(5,tI .i64 (q.1.1.length:Nat))],[],[]⟩,fun q=>q.1.2.length,⟨([],xs),rfl⟩,?_,?_⟩
 ·skip
  repeat' ((conv=>whnf);first|refine Or.inl ?_|apply oi|(apply fi<;>intro h)|refine⟨_,rfl,?_⟩|exact rfl)
  all_goals try exact⟨KO⟩
  all_goals exact⟨by first|rfl|simp[aw]⟩
 intro⟨⟨a,b⟩,hab⟩
 dsimp only at hab ⊢
 have hal:a.length+b.length≤1099511627776:=by rw[←List.length_append,hab];exact hl
 have hsum:k+(aw (a.map ab):Nat)+(aw (b.map ab):Nat)=k+(aw (xs.map ab):Nat):=by rw[←hab,List.map_append,cG];omega
 have hall:T=aN (a.map ab) k++aN (b.map ab) (k+(aw (a.map ab):Nat)):=by rw[←hT,←hab,List.map_append,bY]
 have hDl:(aN (a.map ab) k).length=a.length:=by rw[cp,List.length_map]
 have hTl2:T.length=a.length+b.length:=by rw[hTl,←hab,List.length_append]
 generalize hK:k+(aw (a.map ab):Nat)=K at hsum hall ⊢
 generalize hD:aN (a.map ab) k=D at hall hDl
 generalize hC:k+(aw (xs.map ab):Nat)=C at hk hsum ⊢
 have hK0:0≤K:=by omega
 rcases hb:b with _|⟨x,b2⟩
 all_goals rw[hb]at hall hsum hTl2 hal
 ·have hKC:K=C:=by simpa [aw]using hsum
  repeat' ((conv=>whnf);first|refine Or.inl ?_|apply oi|(apply fi<;>intro h)|refine⟨_,rfl,?_⟩|exact rfl)
  all_goals try exact⟨KO⟩
  all_goals try(exfalso;have h':=of_decide_eq_true h;rw[hTl2]at h';simp at h';done)
  all_goals exact⟨by rw[hKC]⟩
 ·have hal2:a.length+(b2.length+1)≤1099511627776:=hal
  have hcx:cnR (ab x)=1:=by simp only[ab,cnR,cnT]
  have hsm:K+((1:Nat):Int)+(aw (b2.map ab):Nat)=C:=by rw[←hsum,List.map_cons,aw,hcx];omega
  have hTl3:T.length=a.length+(b2.length+1):=hTl2
  have aQ:T[a.length]?=some [.int .i64 (K)]:=by rw[hall,List.map_cons,aN];exact jA hDl
  repeat' ((conv=>whnf);first|refine Or.inl ?_|apply oi|(apply fi<;>intro h)|refine⟨a.length,_,rfl,aQ,?_⟩|refine⟨_,rfl,?_⟩|exact rfl)
  all_goals try exact⟨KO⟩
  all_goals try(exfalso;have h':=of_decide_eq_false h;omega;done)
  all_goals try(exfalso;(try have h':=of_decide_eq_true h);(try simp(disch:=omega) [IntWalk.i64_in]at h');(try simp(disch:=omega) [IntWalk.i64_in]at h);(try omega);done)
  conv=>whnf
  refine⟨⟨(a++[x],b2),by rw[←hab,hb];simp⟩,?_,Nat.lt_succ_self _⟩
  repeat' ((conv=>whnf);first|refine Or.inl ?_|apply oi|(apply fi<;>intro h)|refine⟨_,rfl,?_⟩|exact rfl)
  all_goals try exact⟨KO⟩
  ·refine⟨congrArg (Tr.int _) ?_⟩
   dsimp only
   rw[eR,hcx]
   try simp(disch:=omega)only[IntWalk.i64_in]
   try omega
  ·refine⟨congrArg (Tr.int _) ?_⟩
   dsimp only
   rw[List.length_append]
   try simp(disch:=omega)only[IntWalk.i64_in]
   try rfl
theorem Bz (xs:List (Int))(hs:aA 1048576 (.lst 1 (xs.map ab))):aw (xs.map ab)≤1048576 * 1:=by
 have h1:=bo hs
 refine Nat.le_trans (eZ (g:=ab) (M:=1) fun x hx=>?_) (Nat.mul_le_mul_right _ h1)
 have hcx:cnR (ab x)=1:=by simp only[ab,cnR,cnT]
 rw[hcx]
 omega
theorem mq (xs:List (List UInt8))(k:Int)(hk0:0≤k)(hl:xs.length≤1099511627776)(hk:k+(aw (xs.map ag):Nat)≤4611686018427387904):bp Tryz.prog 83 [.r (.c (.own (0,0,0))),tI .i64 k] [((0,0,0),.arr false 1 (xs.map ag))] (tI .i64 (k+(aw (xs.map ag):Nat))) [((0,0,0),.arr false 1 (aN (xs.map ag) k))]:=by
 refine eG hΓ aq Tryz.func83 rfl (by decide) rfl rfl ?_
 repeat' ((conv=>whnf);first|refine Or.inl ?_|apply oi|(apply fi<;>intro h)|refine⟨_,rfl,?_⟩|exact rfl)
 all_goals try exact⟨KO⟩
 conv=>whnf
 refine⟨{q:List (List UInt8)×List (List UInt8) // q.1++q.2=xs},fun q=>⟨[(0,.r (.c (.own (0,0,0)))),(1,tI .i64 (k+(aw (q.1.1.map ag):Nat))),(5,tI .i64 (q.1.1.length:Nat))],[((0,0,0),some (.arr false 1 (aN (q.1.1.map ag) k++q.1.2.map ag)))],[0]⟩,fun q=>q.1.2.length,⟨([],xs),rfl⟩,?_,?_⟩
 ·skip
  repeat' ((conv=>whnf);first|refine Or.inl ?_|apply oi|(apply fi<;>intro h)|refine⟨_,rfl,?_⟩|exact rfl)
  all_goals try exact⟨KO⟩
  all_goals exact⟨by first|rfl|simp[aw,aN]⟩
 intro⟨⟨a,b⟩,hab⟩
 dsimp only at hab ⊢
 have hal:a.length+b.length≤1099511627776:=by rw[←List.length_append,hab];exact hl
 have hsum:k+(aw (a.map ag):Nat)+(aw (b.map ag):Nat)=k+(aw (xs.map ag):Nat):=by rw[←hab,List.map_append,cG];omega
 have hall:aN (xs.map ag) k=aN (a.map ag) k++aN (b.map ag) (k+(aw (a.map ag):Nat)):=by rw[←hab,List.map_append,bY]
 have hDl:(aN (a.map ag) k).length=a.length:=by rw[cp,List.length_map]
 generalize hR:aN (a.map ag) k++b.map ag=R
 have hRl:R.length=a.length+b.length:=by rw[←hR];simp[hDl]
 generalize hK:k+(aw (a.map ag):Nat)=K at hsum hall ⊢
 generalize hD:aN (a.map ag) k=D at hR hall hDl
 generalize hT:aN (xs.map ag) k=T at hall ⊢
 generalize hC:k+(aw (xs.map ag):Nat)=C at hk hsum ⊢
 have hK0:0≤K:=by omega
 rcases hb:b with _|⟨x,b2⟩
 all_goals rw[hb]at hR hall hsum hRl hal
 ·have hKC:K=C:=by simpa [aw]using hsum
  have hRT:R=T:=by rw[hall,←hR];simp[aN]
  repeat' ((conv=>whnf);first|refine Or.inl ?_|apply oi|(apply fi<;>intro h)|refine⟨_,rfl,?_⟩|exact rfl)
  all_goals try exact⟨KO⟩
  all_goals try(exfalso;have h':=of_decide_eq_true h;rw[hRl]at h';simp at h';done)
  all_goals first|exact⟨by rw[hKC]⟩|exact⟨hRT⟩
 ·have hal2:a.length+(b2.length+1)≤1099511627776:=hal
  have hcx:cnR (ag x)=1:=by simp only[ag,cnR,cnT]
  have hsm:K+((1:Nat):Int)+(aw (b2.map ag):Nat)=C:=by rw[←hsum,List.map_cons,aw,hcx];omega
  have hRl2:R.length=a.length+(b2.length+1):=hRl
  have aQ:R[a.length]?=some (ag x):=by rw[←hR];exact jA hDl
  repeat' ((conv=>whnf);first|refine Or.inl ?_|apply oi|(apply fi<;>intro h)|refine⟨_,aQ,?_⟩|refine⟨_,jh (by(try simp only[List.length_set]);omega),?_⟩|refine ci ((da _ (by(try simp(disch:=omega)only[IntWalk.i64_in]);omega))) (ai rfl trivial) ?_|refine⟨_,rfl,?_⟩|exact rfl)
  all_goals try exact⟨KO⟩
  all_goals try(exfalso;have h':=of_decide_eq_false h;omega;done)
  all_goals try exact⟨by(try simp only[List.length_set]);omega⟩
  conv=>whnf
  refine⟨⟨(a++[x],b2),by rw[←hab,hb];simp⟩,?_,Nat.lt_succ_self _⟩
  repeat' ((conv=>whnf);first|refine Or.inl ?_|apply oi|(apply fi<;>intro h)|refine⟨_,rfl,?_⟩|exact rfl)
  all_goals try exact⟨KO⟩
  ·refine⟨congrArg (Tr.int _) ?_⟩
   dsimp only
   rw[eR,hcx]
   try simp(disch:=omega)only[IntWalk.i64_in]
   try omega
  ·refine⟨congrArg (Tr.int _) ?_⟩
   dsimp only
   rw[List.length_append]
   try simp(disch:=omega)only[IntWalk.i64_in]
   try rfl
  ·refine⟨?_⟩
   dsimp only
   rw[iq,iB,hD,hK,←hR]
   try simp(disch:=omega)only[set_set,mV hDl,List.map_cons,IntWalk.i64_in]
   try rfl
theorem wI (xs:List (List UInt8))(hs:aA 1048576 (.lst 1 (xs.map ag))):aw (xs.map ag)≤1048576 * 1:=by
 have h1:=bo hs
 refine Nat.le_trans (eZ (g:=ag) (M:=1) fun x hx=>?_) (Nat.mul_le_mul_right _ h1)
 have hcx:cnR (ag x)=1:=by simp only[ag,cnR,cnT]
 rw[hcx]
 omega
theorem pP (xs:List (CU))(k:Int)(hk0:0≤k)(hl:xs.length≤1099511627776)(hk:k+(aw (xs.map CU.tr):Nat)≤4611686018427387904):bp Tryz.prog 84 [.r (.c (.own (0,0,0))),tI .i64 k] [((0,0,0),.arr false 3 (xs.map CU.tr))] (tI .i64 (k+(aw (xs.map CU.tr):Nat))) [((0,0,0),.arr false 3 (aN (xs.map CU.tr) k))]:=by
 refine eG hΓ aq Tryz.func84 rfl (by decide) rfl rfl ?_
 repeat' ((conv=>whnf);first|refine Or.inl ?_|apply oi|(apply fi<;>intro h)|refine⟨_,rfl,?_⟩|exact rfl)
 all_goals try exact⟨KO⟩
 conv=>whnf
 refine⟨{q:List (CU)×List (CU) // q.1++q.2=xs},fun q=>⟨[(0,.r (.c (.own (0,0,0)))),(1,tI .i64 (k+(aw (q.1.1.map CU.tr):Nat))),(5,tI .i64 (q.1.1.length:Nat))],[((0,0,0),some (.arr false 3 (aN (q.1.1.map CU.tr) k++q.1.2.map CU.tr)))],[0]⟩,fun q=>q.1.2.length,⟨([],xs),rfl⟩,?_,?_⟩
 ·skip
  repeat' ((conv=>whnf);first|refine Or.inl ?_|apply oi|(apply fi<;>intro h)|refine⟨_,rfl,?_⟩|exact rfl)
  all_goals try exact⟨KO⟩
  all_goals exact⟨by first|rfl|simp[aw,aN]⟩
 intro⟨⟨a,b⟩,hab⟩
 dsimp only at hab ⊢
 have hal:a.length+b.length≤1099511627776:=by rw[←List.length_append,hab];exact hl
 have hsum:k+(aw (a.map CU.tr):Nat)+(aw (b.map CU.tr):Nat)=k+(aw (xs.map CU.tr):Nat):=by rw[←hab,List.map_append,cG];omega
 have hall:aN (xs.map CU.tr) k=aN (a.map CU.tr) k++aN (b.map CU.tr) (k+(aw (a.map CU.tr):Nat)):=by rw[←hab,List.map_append,bY]
 have hDl:(aN (a.map CU.tr) k).length=a.length:=by rw[cp,List.length_map]
 generalize hR:aN (a.map CU.tr) k++b.map CU.tr=R
 have hRl:R.length=a.length+b.length:=by rw[←hR];simp[hDl]
 generalize hK:k+(aw (a.map CU.tr):Nat)=K at hsum hall ⊢
 generalize hD:aN (a.map CU.tr) k=D at hR hall hDl
 generalize hT:aN (xs.map CU.tr) k=T at hall ⊢
 generalize hC:k+(aw (xs.map CU.tr):Nat)=C at hk hsum ⊢
 have hK0:0≤K:=by omega
 rcases hb:b with _|⟨x,b2⟩
 all_goals rw[hb]at hR hall hsum hRl hal
 ·have hKC:K=C:=by simpa [aw]using hsum
  have hRT:R=T:=by rw[hall,←hR];simp[aN]
  repeat' ((conv=>whnf);first|refine Or.inl ?_|apply oi|(apply fi<;>intro h)|refine⟨_,rfl,?_⟩|exact rfl)
  all_goals try exact⟨KO⟩
  all_goals try(exfalso;have h':=of_decide_eq_true h;rw[hRl]at h';simp at h';done)
  all_goals first|exact⟨by rw[hKC]⟩|exact⟨hRT⟩
 ·have hal2:a.length+(b2.length+1)≤1099511627776:=hal
  have hcx:cnR (CU.tr x)=3:=by simp only[CU.tr,cnR,cnT]
  have hsm:K+((3:Nat):Int)+(aw (b2.map CU.tr):Nat)=C:=by rw[←hsum,List.map_cons,aw,hcx];omega
  have hRl2:R.length=a.length+(b2.length+1):=hRl
  have aQ:R[a.length]?=some (CU.tr x):=by rw[←hR];exact jA hDl
  repeat' ((conv=>whnf);first|refine Or.inl ?_|apply oi|(apply fi<;>intro h)|refine⟨_,aQ,?_⟩|refine⟨_,jh (by(try simp only[List.length_set]);omega),?_⟩|refine ci ((da _ (by(try simp(disch:=omega)only[IntWalk.i64_in]);omega))) (ai rfl trivial) ?_|refine⟨_,rfl,?_⟩|exact rfl)
  all_goals try exact⟨KO⟩
  all_goals try(exfalso;have h':=of_decide_eq_false h;omega;done)
  all_goals try exact⟨by(try simp only[List.length_set]);omega⟩
  conv=>whnf
  refine⟨⟨(a++[x],b2),by rw[←hab,hb];simp⟩,?_,Nat.lt_succ_self _⟩
  repeat' ((conv=>whnf);first|refine Or.inl ?_|apply oi|(apply fi<;>intro h)|refine⟨_,rfl,?_⟩|exact rfl)
  all_goals try exact⟨KO⟩
  ·refine⟨congrArg (Tr.int _) ?_⟩
   dsimp only
   rw[eR,hcx]
   try simp(disch:=omega)only[IntWalk.i64_in]
   try omega
  ·refine⟨congrArg (Tr.int _) ?_⟩
   dsimp only
   rw[List.length_append]
   try simp(disch:=omega)only[IntWalk.i64_in]
   try rfl
  ·refine⟨?_⟩
   dsimp only
   rw[iq,iB,hD,hK,←hR]
   try simp(disch:=omega)only[set_set,mV hDl,List.map_cons,IntWalk.i64_in]
   try rfl
theorem AP (xs:List (CU))(hs:aA 1048576 (.lst 3 (xs.map CU.tr))):aw (xs.map CU.tr)≤1048576 * 3:=by
 have h1:=bo hs
 refine Nat.le_trans (eZ (g:=CU.tr) (M:=3) fun x hx=>?_) (Nat.mul_le_mul_right _ h1)
 have hcx:cnR (CU.tr x)=3:=by simp only[CU.tr,cnR,cnT]
 rw[hcx]
 omega
theorem nC (xs:List (CP))(k:Int)(hk0:0≤k)(hl:xs.length≤1099511627776)(hk:k+(aw (xs.map CP.tr):Nat)≤4611686018427387904)(hin:∀x∈xs,x.fak.faj.length≤1099511627776):bp Tryz.prog 32 [.r (.c (.own (0,0,0))),tI .i64 k] [((0,0,0),.dar 8 (ae (xs.map CP.tr)) none)] (tI .i64 (k+(aw (xs.map CP.tr):Nat))) [((0,0,0),.dar 8 (ae (aN (xs.map CP.tr) k)) none)]:=by
 refine eG hΓ aq Tryz.func32 rfl (by decide) rfl rfl ?_
 repeat' ((conv=>whnf);first|refine Or.inl ?_|apply oi|(apply fi<;>intro h)|refine⟨_,rfl,?_⟩|exact rfl)
 all_goals try exact⟨KO⟩
 conv=>whnf
 refine⟨{q:List (CP)×List (CP) // q.1++q.2=xs},fun q=>⟨[(0,.r (.c (.own (0,0,0)))),(1,tI .i64 (k+(aw (q.1.1.map CP.tr):Nat))),(5,tI .i64 (q.1.1.length:Nat))],[((0,0,0),some (.dar 8 (ae (aN (q.1.1.map CP.tr) k++q.1.2.map CP.tr)) none))],[0]⟩,fun q=>q.1.2.length,⟨([],xs),rfl⟩,?_,?_⟩
 ·skip
  repeat' ((conv=>whnf);first|refine Or.inl ?_|apply oi|(apply fi<;>intro h)|refine⟨_,rfl,?_⟩|exact rfl)
  all_goals try exact⟨KO⟩
  all_goals exact⟨by first|rfl|simp[aw,aN]⟩
 intro⟨⟨a,b⟩,hab⟩
 dsimp only at hab ⊢
 have hal:a.length+b.length≤1099511627776:=by rw[←List.length_append,hab];exact hl
 have hsum:k+(aw (a.map CP.tr):Nat)+(aw (b.map CP.tr):Nat)=k+(aw (xs.map CP.tr):Nat):=by rw[←hab,List.map_append,cG];omega
 have hall:aN (xs.map CP.tr) k=aN (a.map CP.tr) k++aN (b.map CP.tr) (k+(aw (a.map CP.tr):Nat)):=by rw[←hab,List.map_append,bY]
 have hDl:(aN (a.map CP.tr) k).length=a.length:=by rw[cp,List.length_map]
 generalize hR:ae (aN (a.map CP.tr) k++b.map CP.tr)=R
 have hRl:R.length=a.length+b.length:=by rw[←hR];simp[hDl,aB]
 generalize hK:k+(aw (a.map CP.tr):Nat)=K at hsum hall ⊢
 generalize hD:aN (a.map CP.tr) k=D at hR hall hDl
 generalize hT:aN (xs.map CP.tr) k=T at hall ⊢
 generalize hC:k+(aw (xs.map CP.tr):Nat)=C at hk hsum ⊢
 have hK0:0≤K:=by omega
 rcases hb:b with _|⟨x,b2⟩
 all_goals rw[hb]at hR hall hsum hRl hal
 ·have hKC:K=C:=by simpa [aw]using hsum
  have hRT:R=ae (T):=by rw[hall,←hR];simp[aN]
  repeat' ((conv=>whnf);first|refine Or.inl ?_|apply oi|(apply fi<;>intro h)|refine⟨_,rfl,?_⟩|exact rfl)
  all_goals try exact⟨KO⟩
  all_goals try(exfalso;have h':=of_decide_eq_true h;rw[hRl]at h';simp at h';done)
  all_goals first|exact⟨by rw[hKC]⟩|exact⟨hRT⟩
 ·have hal2:a.length+(b2.length+1)≤1099511627776:=hal
  have hcx:cnR (CP.tr x)=7+aw (x.fak.faj.map ab):=by simp only[CP.tr,cnR,cnT] <;> omega
  have hsm:K+((7+aw (x.fak.faj.map ab):Nat):Int)+(aw (b2.map CP.tr):Nat)=C:=by rw[←hsum,List.map_cons,aw,hcx];omega
  have hRl2:R.length=a.length+(b2.length+1):=hRl
  have hix:=hin x (by rw[←hab,hb];simp)
  have aQ:R[a.length]?=some (((CP.tr x).map .d)):=by rw[←hR,List.map_cons,bM,eX];exact jA (by rw[aB];exact hDl)
  repeat' ((conv=>whnf);first|refine cg (pz x.fak.faj (K+1+1+1+1+1) (by omega) hix (by omega)) ?_|refine Or.inl ?_|apply oi|(apply fi<;>intro h)|refine⟨_,aQ,?_⟩|refine⟨_,jh (by(try simp only[List.length_set]);omega),?_⟩|refine ci ((da _ (by(try simp(disch:=omega)only[IntWalk.i64_in]);omega))) (ai rfl trivial) ?_|refine⟨_,rfl,?_⟩|exact rfl)
  all_goals try exact⟨KO⟩
  all_goals try(exfalso;have h':=of_decide_eq_false h;omega;done)
  all_goals try exact⟨by(try simp only[List.length_set]);omega⟩
  all_goals try exact⟨dG _ (by intro x c hc sz rs e;subst e;simp[ab]at hc)⟩
  all_goals try exact⟨mC _ _ (dG _ (by intro x c hc sz rs e;subst e;simp[ab]at hc))⟩
  all_goals try exact⟨K2⟩
  conv=>whnf
  refine⟨⟨(a++[x],b2),by rw[←hab,hb];simp⟩,?_,Nat.lt_succ_self _⟩
  repeat' ((conv=>whnf);first|refine Or.inl ?_|apply oi|(apply fi<;>intro h)|refine⟨_,aQ,?_⟩|refine⟨_,jh (by(try simp only[List.length_set]);omega),?_⟩|refine⟨_,rfl,?_⟩|exact rfl)
  all_goals try exact⟨KO⟩
  all_goals try exact⟨mC _ _ (dG _ (by intro x c hc sz rs e;subst e;simp[ab]at hc))⟩
  ·refine⟨congrArg (Tr.int _) ?_⟩
   dsimp only
   rw[eR,hcx]
   try simp(disch:=omega)only[IntWalk.i64_in]
   try omega
  ·refine⟨congrArg (Tr.int _) ?_⟩
   dsimp only
   rw[List.length_append]
   try simp(disch:=omega)only[IntWalk.i64_in]
   try rfl
  ·refine⟨?_⟩
   dsimp only
   have hDd:(ae D).length=a.length:=by rw[aB];exact hDl
   rw[iq,iB,hD,hK,←hR]
   try simp(disch:=omega)only[set_set,bM,eX,mV hDd,List.map_cons,IntWalk.i64_in]
   try rfl
theorem nz (xs:List (CP))(k:Int)(hk0:0≤k)(hl:xs.length≤1099511627776)(hk:k+(aw (xs.map CP.tr):Nat)≤4611686018427387904)(hin:∀x∈xs,x.fak.faj.length≤1099511627776):Sim.Spec Tryz.prog 33 [tvL 8 (aN (xs.map CP.tr) k),tvI k] (rI (k+(aw (xs.map CP.tr):Nat))):=by
 refine aj hΓ aq Tryz.func33 rfl (by decide) rfl ?_
 have hTl:(aN (xs.map CP.tr) k).length=xs.length:=by rw[cp,List.length_map]
 have hal0:=fun(a b:List (CP))=>bY (a.map CP.tr) (b.map CP.tr) k
 generalize hT:aN (xs.map CP.tr) k=T at hTl ⊢
 repeat' ((conv=>whnf);first|refine Or.inl ?_|apply oi|(apply fi<;>intro h)|refine⟨_,rfl,?_⟩|exact rfl)
 all_goals try exact⟨KO⟩
 conv=>whnf
 refine⟨{q:List (CP)×List (CP) // q.1++q.2=xs},fun q=>⟨[(0,.r (.c (.t (.lst 8 T)))),(1,tI .i64 (k+(aw (q.1.1.map CP.tr):Nat))),(5,tI .i64 (q.1.1.length:Nat))],[],[]⟩,fun q=>q.1.2.length,⟨([],xs),rfl⟩,?_,?_⟩
 ·skip
  repeat' ((conv=>whnf);first|refine Or.inl ?_|apply oi|(apply fi<;>intro h)|refine⟨_,rfl,?_⟩|exact rfl)
  all_goals try exact⟨KO⟩
  all_goals exact⟨by first|rfl|simp[aw]⟩
 intro⟨⟨a,b⟩,hab⟩
 dsimp only at hab ⊢
 have hal:a.length+b.length≤1099511627776:=by rw[←List.length_append,hab];exact hl
 have hsum:k+(aw (a.map CP.tr):Nat)+(aw (b.map CP.tr):Nat)=k+(aw (xs.map CP.tr):Nat):=by rw[←hab,List.map_append,cG];omega
 have hall:T=aN (a.map CP.tr) k++aN (b.map CP.tr) (k+(aw (a.map CP.tr):Nat)):=by rw[←hT,←hab,List.map_append,bY]
 have hDl:(aN (a.map CP.tr) k).length=a.length:=by rw[cp,List.length_map]
 have hTl2:T.length=a.length+b.length:=by rw[hTl,←hab,List.length_append]
 generalize hK:k+(aw (a.map CP.tr):Nat)=K at hsum hall ⊢
 generalize hD:aN (a.map CP.tr) k=D at hall hDl
 generalize hC:k+(aw (xs.map CP.tr):Nat)=C at hk hsum ⊢
 have hK0:0≤K:=by omega
 rcases hb:b with _|⟨x,b2⟩
 all_goals rw[hb]at hall hsum hTl2 hal
 ·have hKC:K=C:=by simpa [aw]using hsum
  repeat' ((conv=>whnf);first|refine Or.inl ?_|apply oi|(apply fi<;>intro h)|refine⟨_,rfl,?_⟩|exact rfl)
  all_goals try exact⟨KO⟩
  all_goals try(exfalso;have h':=of_decide_eq_true h;rw[hTl2]at h';simp at h';done)
  all_goals exact⟨by rw[hKC]⟩
 ·have hal2:a.length+(b2.length+1)≤1099511627776:=hal
  have hcx:cnR (CP.tr x)=7+aw (x.fak.faj.map ab):=by simp only[CP.tr,cnR,cnT] <;> omega
  have hsm:K+((7+aw (x.fak.faj.map ab):Nat):Int)+(aw (b2.map CP.tr):Nat)=C:=by rw[←hsum,List.map_cons,aw,hcx];omega
  have hTl3:T.length=a.length+(b2.length+1):=hTl2
  have hix:=hin x (by rw[←hab,hb];simp)
  have aQ:T[a.length]?=some [.int .i64 (K),.int .i64 (K+1),.int .i64 (K+1+1),.int .i64 (K+1+1+1),.bool ((K+1+1+1+1).tmod 3==0),.lst 1 (aN (x.fak.faj.map ab) (K+1+1+1+1+1)),.int .i64 (K+1+1+1+1+1+(aw (x.fak.faj.map ab):Nat)),.bool ((K+1+1+1+1+1+(aw (x.fak.faj.map ab):Nat)+1).tmod 3==0)]:=by rw[hall,List.map_cons,aN];exact jA hDl
  repeat' ((conv=>whnf);first|refine Or.inl ?_|apply oi|(apply fi<;>intro h)|refine⟨a.length,_,rfl,aQ,?_⟩|refine⟨_,rfl,?_⟩|exact rfl)
  all_goals try exact⟨KO⟩
  all_goals try(exfalso;have h':=of_decide_eq_false h;omega;done)
  all_goals try(exfalso;(try have h':=of_decide_eq_true h);(try simp(disch:=omega) [IntWalk.i64_in]at h');(try simp(disch:=omega) [IntWalk.i64_in]at h);(try omega);done)
  repeat' ((conv=>whnf);first|refine Or.inl ?_|apply oi|(apply fi<;>intro h)|refine⟨a.length,_,rfl,aQ,?_⟩|refine ci ((pQ x.fak.faj (K+1+1+1+1+1) (by omega) hix (by omega))) (ai rfl (ai KW trivial)) ?_|refine⟨_,rfl,?_⟩|exact rfl)
  all_goals try exact⟨KO⟩
  all_goals try(exfalso;have h':=of_decide_eq_false h;omega;done)
  all_goals try(exfalso;(try have h':=of_decide_eq_true h);(try simp(disch:=omega) [IntWalk.i64_in]at h');(try simp(disch:=omega) [IntWalk.i64_in]at h);(try omega);done)
  conv=>whnf
  refine⟨⟨(a++[x],b2),by rw[←hab,hb];simp⟩,?_,Nat.lt_succ_self _⟩
  repeat' ((conv=>whnf);first|refine Or.inl ?_|apply oi|(apply fi<;>intro h)|refine⟨_,rfl,?_⟩|exact rfl)
  all_goals try exact⟨KO⟩
  ·refine⟨congrArg (Tr.int _) ?_⟩
   dsimp only
   rw[eR,hcx]
   try simp(disch:=omega)only[IntWalk.i64_in]
   try omega
  ·refine⟨congrArg (Tr.int _) ?_⟩
   dsimp only
   rw[List.length_append]
   try simp(disch:=omega)only[IntWalk.i64_in]
   try rfl
theorem yL (xs:List (CP))(hs:aA 1048576 (.lst 8 (xs.map CP.tr))):aw (xs.map CP.tr)≤1048576 * 1048583:=by
 have h1:=bo hs
 refine Nat.le_trans (eZ (g:=CP.tr) (M:=1048583) fun x hx=>?_) (Nat.mul_le_mul_right _ h1)
 have hcx:cnR (CP.tr x)=7+aw (x.fak.faj.map ab):=by simp only[CP.tr,cnR,cnT] <;> omega
 rw[hcx]
 have hr:=aC hs hx
 simp only[CP.tr,aE]at hr
 have c5:=Bz _ (hr.2.2.2.2.2.1)
 omega
theorem sb (xs:List (CP))(hs:aA 1048576 (.lst 8 (xs.map CP.tr))):∀x∈xs,x.fak.faj.length≤1099511627776:=by
 intro x hx
 have hr:=aC hs hx
 simp only[CP.tr,aE]at hr
 exact Nat.le_trans (bo (hr.2.2.2.2.2.1)) (by omega)
theorem oF (xs:List (CM))(k:Int)(hk0:0≤k)(hl:xs.length≤1099511627776)(hk:k+(aw (xs.map CM.tr):Nat)≤4611686018427387904)(hin:∀x∈xs,x.fad.length≤1099511627776∧x.fac.length≤1099511627776):bp Tryz.prog 31 [.r (.c (.own (0,0,0))),tI .i64 k] [((0,0,0),.dar 4 (ae (xs.map CM.tr)) none)] (tI .i64 (k+(aw (xs.map CM.tr):Nat))) [((0,0,0),.dar 4 (ae (aN (xs.map CM.tr) k)) none)]:=by
 refine eG hΓ aq Tryz.func31 rfl (by decide) rfl rfl ?_
 repeat' ((conv=>whnf);first|refine Or.inl ?_|apply oi|(apply fi<;>intro h)|refine⟨_,rfl,?_⟩|exact rfl)
 all_goals try exact⟨KO⟩
 conv=>whnf
 refine⟨{q:List (CM)×List (CM) // q.1++q.2=xs},fun q=>⟨[(0,.r (.c (.own (0,0,0)))),(1,tI .i64 (k+(aw (q.1.1.map CM.tr):Nat))),(5,tI .i64 (q.1.1.length:Nat))],[((0,0,0),some (.dar 4 (ae (aN (q.1.1.map CM.tr) k++q.1.2.map CM.tr)) none))],[0]⟩,fun q=>q.1.2.length,⟨([],xs),rfl⟩,?_,?_⟩
 ·skip
  repeat' ((conv=>whnf);first|refine Or.inl ?_|apply oi|(apply fi<;>intro h)|refine⟨_,rfl,?_⟩|exact rfl)
  all_goals try exact⟨KO⟩
  all_goals exact⟨by first|rfl|simp[aw,aN]⟩
 intro⟨⟨a,b⟩,hab⟩
 dsimp only at hab ⊢
 have hal:a.length+b.length≤1099511627776:=by rw[←List.length_append,hab];exact hl
 have hsum:k+(aw (a.map CM.tr):Nat)+(aw (b.map CM.tr):Nat)=k+(aw (xs.map CM.tr):Nat):=by rw[←hab,List.map_append,cG];omega
 have hall:aN (xs.map CM.tr) k=aN (a.map CM.tr) k++aN (b.map CM.tr) (k+(aw (a.map CM.tr):Nat)):=by rw[←hab,List.map_append,bY]
 have hDl:(aN (a.map CM.tr) k).length=a.length:=by rw[cp,List.length_map]
 generalize hR:ae (aN (a.map CM.tr) k++b.map CM.tr)=R
 have hRl:R.length=a.length+b.length:=by rw[←hR];simp[hDl,aB]
 generalize hK:k+(aw (a.map CM.tr):Nat)=K at hsum hall ⊢
 generalize hD:aN (a.map CM.tr) k=D at hR hall hDl
 generalize hT:aN (xs.map CM.tr) k=T at hall ⊢
 generalize hC:k+(aw (xs.map CM.tr):Nat)=C at hk hsum ⊢
 have hK0:0≤K:=by omega
 rcases hb:b with _|⟨x,b2⟩
 all_goals rw[hb]at hR hall hsum hRl hal
 ·have hKC:K=C:=by simpa [aw]using hsum
  have hRT:R=ae (T):=by rw[hall,←hR];simp[aN]
  repeat' ((conv=>whnf);first|refine Or.inl ?_|apply oi|(apply fi<;>intro h)|refine⟨_,rfl,?_⟩|exact rfl)
  all_goals try exact⟨KO⟩
  all_goals try(exfalso;have h':=of_decide_eq_true h;rw[hRl]at h';simp at h';done)
  all_goals first|exact⟨by rw[hKC]⟩|exact⟨hRT⟩
 ·have hal2:a.length+(b2.length+1)≤1099511627776:=hal
  have hcx:cnR (CM.tr x)=2+aw (x.fad.map ag)+aw (x.fac.map CU.tr):=by simp only[CM.tr,cnR,cnT] <;> omega
  have hsm:K+((2+aw (x.fad.map ag)+aw (x.fac.map CU.tr):Nat):Int)+(aw (b2.map CM.tr):Nat)=C:=by rw[←hsum,List.map_cons,aw,hcx];omega
  have hRl2:R.length=a.length+(b2.length+1):=hRl
  have hix:=hin x (by rw[←hab,hb];simp)
  have aQ:R[a.length]?=some (((CM.tr x).map .d)):=by rw[←hR,List.map_cons,bM,eX];exact jA (by rw[aB];exact hDl)
  repeat' ((conv=>whnf);first|refine cg (mq x.fad (K+1+1) (by omega) hix.1 (by omega)) ?_|refine cg (pP x.fac (K+1+1+(aw (x.fad.map ag):Nat)) (by omega) hix.2 (by omega)) ?_|refine Or.inl ?_|apply oi|(apply fi<;>intro h)|refine⟨_,aQ,?_⟩|refine⟨_,jh (by(try simp only[List.length_set]);omega),?_⟩|refine ci ((da _ (by(try simp(disch:=omega)only[IntWalk.i64_in]);omega))) (ai rfl trivial) ?_|refine⟨_,rfl,?_⟩|exact rfl)
  all_goals try exact⟨KO⟩
  all_goals try(exfalso;have h':=of_decide_eq_false h;omega;done)
  all_goals try exact⟨by(try simp only[List.length_set]);omega⟩
  all_goals try exact⟨dG _ (by intro x c hc sz rs e;subst e;simp[CU.tr,ag]at hc)⟩
  all_goals try exact⟨mC _ _ (dG _ (by intro x c hc sz rs e;subst e;simp[CU.tr,ag]at hc))⟩
  all_goals try exact⟨K2⟩
  conv=>whnf
  refine⟨⟨(a++[x],b2),by rw[←hab,hb];simp⟩,?_,Nat.lt_succ_self _⟩
  repeat' ((conv=>whnf);first|refine Or.inl ?_|apply oi|(apply fi<;>intro h)|refine⟨_,aQ,?_⟩|refine⟨_,jh (by(try simp only[List.length_set]);omega),?_⟩|refine⟨_,rfl,?_⟩|exact rfl)
  all_goals try exact⟨KO⟩
  all_goals try exact⟨mC _ _ (dG _ (by intro x c hc sz rs e;subst e;simp[CU.tr,ag]at hc))⟩
  ·refine⟨congrArg (Tr.int _) ?_⟩
   dsimp only
   rw[eR,hcx]
   try simp(disch:=omega)only[IntWalk.i64_in]
   try omega
  ·refine⟨congrArg (Tr.int _) ?_⟩
   dsimp only
   rw[List.length_append]
   try simp(disch:=omega)only[IntWalk.i64_in]
   try rfl
  ·refine⟨?_⟩
   dsimp only
   have hDd:(ae D).length=a.length:=by rw[aB];exact hDl
   rw[iq,iB,hD,hK,←hR]
   try simp(disch:=omega)only[set_set,bM,eX,mV hDd,List.map_cons,IntWalk.i64_in]
   try rfl
theorem AH (xs:List (CM))(hs:aA 1048576 (.lst 4 (xs.map CM.tr))):aw (xs.map CM.tr)≤1048576 * 4194306:=by
 have h1:=bo hs
 refine Nat.le_trans (eZ (g:=CM.tr) (M:=4194306) fun x hx=>?_) (Nat.mul_le_mul_right _ h1)
 have hcx:cnR (CM.tr x)=2+aw (x.fad.map ag)+aw (x.fac.map CU.tr):=by simp only[CM.tr,cnR,cnT] <;> omega
 rw[hcx]
 have hr:=aC hs hx
 simp only[CM.tr,aE]at hr
 have c2:=wI _ (hr.2.2.1)
 have c3:=AP _ (hr.2.2.2.1)
 omega
theorem zg (xs:List (CM))(hs:aA 1048576 (.lst 4 (xs.map CM.tr))):∀x∈xs,x.fad.length≤1099511627776∧x.fac.length≤1099511627776:=by
 intro x hx
 have hr:=aC hs hx
 simp only[CM.tr,aE]at hr
 exact⟨Nat.le_trans (bo (hr.2.2.1)) (by omega),Nat.le_trans (bo (hr.2.2.2.1)) (by omega)⟩
theorem qO (xs:List (CM))(hs:aA 1048576 (.lst 4 (xs.map CM.tr))):bp Tryz.prog 26 [.r (.c (.t (.lst 4 (xs.map CM.tr))))] [] (.r (.c (.own (1,0,0)))) [((1,0,0),.dar 4 (ae (xs.map CM.tr)) none)]:=by
 have hl:=cR hs
 have hlen:(xs.map CM.tr).length=xs.length:=by simp
 refine eG hΓ aq Tryz.func26 rfl (by decide) rfl rfl ?_
 repeat' ((conv=>whnf);first|refine Or.inl ?_|apply oi|(apply fi<;>intro h)|refine⟨_,rfl,?_⟩|exact rfl)
 all_goals try exact⟨KO⟩
 ·exact⟨by omega⟩
 ·exact⟨by dsimp only;omega⟩
 repeat' ((conv=>whnf);first|refine Or.inl ?_|apply oi|(apply fi<;>intro h)|refine⟨_,rfl,?_⟩|exact rfl)
 all_goals try exact⟨KO⟩
 conv=>whnf
 refine⟨{k:Nat // k≤xs.length},fun k=>⟨[(0,.r (.c (.t (.lst 4 (xs.map CM.tr))))),(3,.r (.c (.own (3,0,0)))),(4,tI .i64 (k.1:Int))],[((3,0,0),some (.dar 4 (ae (dV (xs.map CM.tr) [.int .i64 0,.str [],.lst 0 [],.lst 0 []] k.1)) none))],[3,0]⟩,fun k=>xs.length - k.1,⟨0,by omega⟩,?_,?_⟩
 ·skip
  repeat' ((conv=>whnf);first|refine Or.inl ?_|apply oi|(apply fi<;>intro h)|refine⟨_,rfl,?_⟩|exact rfl)
  all_goals try exact⟨KO⟩
  all_goals exact⟨by first|(rw[←fe,hlen,ae,List.map_replicate];done)|(rw[←fe,hlen,ae,List.map_replicate];rfl)⟩
 intro⟨k,hk⟩
 dsimp only
 repeat' ((conv=>whnf);first|refine Or.inl ?_|apply oi|(apply fi<;>intro h)|refine⟨_,rfl,?_⟩|exact rfl)
 all_goals try exact⟨KO⟩
 ·have hlt:k < xs.length:=by have:=of_decide_eq_true h;omega
  obtain⟨x,hx⟩:=af hlt
  have hsr:=aC hs (List.mem_of_getElem? hx)
  conv=>whnf
  refine⟨k,_,rfl,aa hx,?_⟩
  repeat' ((conv=>whnf);first|refine Or.inl ?_|apply oi|(apply fi<;>intro h)|refine ci ((sK x hsr)) (ai (ai rfl (ai rfl (ai rfl (ai rfl trivial)))) trivial) ?_|refine⟨_,rfl,?_⟩|exact rfl)
  all_goals try exact⟨KO⟩
  ·exact⟨by rw[aB,me (by omega)];omega⟩
  conv=>whnf
  refine⟨_,ey (lV (by omega)),?_⟩
  repeat' ((conv=>whnf);first|refine Or.inl ?_|apply oi|(apply fi<;>intro h)|refine⟨_,rfl,?_⟩|exact rfl)
  all_goals try exact⟨KO⟩
  all_goals try exact⟨dG _ (by intro x c hc sz rs e;subst e;simp[CU.tr,ag]at hc)⟩
  conv=>whnf
  refine⟨⟨k+1,by omega⟩,?_,KD⟩
  repeat' ((conv=>whnf);first|refine Or.inl ?_|apply oi|(apply fi<;>intro h)|refine⟨_,rfl,?_⟩|exact rfl)
  all_goals try exact⟨KO⟩
  ·exact⟨by dsimp only;rw[IntWalk.i64_in _ (by omega)];rfl⟩
  ·exact⟨(iX _ _ (CM.tr x)).trans (congrArg ae (lY (aa hx)))⟩
 ·have hge:xs.length≤k:=by have:=of_decide_eq_false h;omega
  exact⟨congrArg ae (mv (by omega))⟩
end Go.Proofs.YtoglejgmjeojoaaGreat
namespace Go.Proofs.YtoglejgmjeojoaaGreat
open Go.Sim
set_option maxRecDepth 100000
set_option maxHeartbeats 4000000
def vG (last:Int)(r:CR):Prop:=last≤r.fai∧r.fai < r.fas∧r.fas≤1000000∧0≤r.fao∧r.fao≤1200∧(r.faI=true→r.fao=0)
instance (last:Int) (r:CR):Decidable (vG last r):=by unfold vG;infer_instance
def low (b:UInt8):Bool:=decide (97≤b.toNat) && decide (b.toNat≤122)
def cC (s:List UInt8):Bool:=s.all low && ah s.length 1 8
abbrev zH (s:List UInt8):={k:Nat // k≤s.length∧(s.take k).all low=true}
theorem vC {α:Type}{p:α→Bool}{s:List α}{k:Nat}{b:α}(h:(s.take k).all p=true)(hb:s[k]?=some b)(hp:p b=true):(s.take (k+1)).all p=true:=by
 rw[List.take_add_one,hb]
 simp_all
theorem xP {α:Type}{p:α→Bool}{s:List α}{k:Nat}{b:α}(hb:s[k]?=some b)(hp:p b=false):s.all p=false:=by
 rw[Bool.eq_false_iff]
 intro h
 rw[List.all_eq_true]at h
 rw[h b (List.mem_of_getElem? hb)]at hp
 cases hp
theorem ig (s:List UInt8)(hl:s.length≤1099511627775):Sim.Spec Tryz.prog 210 [tvS s] (rB (cC s)):=by
 refine aj hΓ aq Tryz.func210 rfl (by decide) rfl ?_
 unfold cC
 repeat' ((conv=>whnf);first|refine Or.inl ?_|apply oi|(apply fi<;>intro h)|refine⟨_,rfl,?_⟩|exact rfl)
 all_goals try exact⟨KO⟩
 conv=>whnf
 refine⟨zH s,fun k=>⟨[(0,tS s),(3,tI .i64 (k.1:Int))],[],[]⟩,fun k=>s.length - k.1,⟨0,by omega,rfl⟩,?_,?_⟩
 ·skip
  repeat' ((conv=>whnf);first|refine Or.inl ?_|apply oi|(apply fi<;>intro h)|refine⟨_,rfl,?_⟩|exact rfl)
  all_goals try exact⟨KO⟩
 intro⟨k,hk,hp⟩
 dsimp only
 by_cases hlt:k < s.length
 ·obtain⟨b,hb⟩:=af hlt
  have hbl:=b.toNat_lt
  cases hlo:low b with
  | false=>
   rw[xP hb hlo]
   unfold low at hlo
   repeat' ((conv=>whnf);first|refine Or.inl ?_|apply oi|(apply fi<;>intro h)|refine⟨k,b,rfl,hb,?_⟩|refine⟨_,rfl,?_⟩|exact rfl)
   all_goals try exact⟨KO⟩
   all_goals try exact KX
   all_goals(exfalso;simp at *;omega)
  | true=>
   have hnx:=vC hp hb hlo
   unfold low at hlo
   repeat' ((conv=>whnf);first|refine Or.inl ?_|apply oi|(apply fi<;>intro h)|refine⟨k,b,rfl,hb,?_⟩|refine⟨_,rfl,?_⟩|exact rfl)
   all_goals try exact⟨KO⟩
   all_goals try exact KX
   all_goals try exact K3
   conv=>whnf
   refine⟨⟨k+1,by omega,hnx⟩,?_,KD⟩
   repeat' ((conv=>whnf);first|refine Or.inl ?_|apply oi|(apply fi<;>intro h)|refine⟨_,rfl,?_⟩|exact rfl)
   all_goals try exact⟨KO⟩
   all_goals try exact⟨K4⟩
 ·have hge:s.length≤k:=by omega
  rw[List.take_of_length_le hge]at hp
  rw[hp]
  repeat' ((conv=>whnf);first|refine Or.inl ?_|apply oi|(apply fi<;>intro h)|refine ci (aJ _ _ _) (ai rfl (ai rfl (ai rfl trivial))) ?_|refine⟨_,rfl,?_⟩|exact rfl)
  all_goals try exact⟨KO⟩
  all_goals try exact KX
theorem eW (s:List UInt8)(hl:s.length≤1099511627775):Sim.Spec Tryz.prog 189 [tvS s] (rB (cC s)):=by
 refine aj hΓ aq Tryz.func189 rfl (by decide) rfl ?_
 unfold cC
 repeat' ((conv=>whnf);first|refine Or.inl ?_|apply oi|(apply fi<;>intro h)|refine⟨_,rfl,?_⟩|exact rfl)
 all_goals try exact⟨KO⟩
 conv=>whnf
 refine⟨zH s,fun k=>⟨[(0,tS s),(3,tI .i64 (k.1:Int))],[],[]⟩,fun k=>s.length - k.1,⟨0,by omega,rfl⟩,?_,?_⟩
 ·skip
  repeat' ((conv=>whnf);first|refine Or.inl ?_|apply oi|(apply fi<;>intro h)|refine⟨_,rfl,?_⟩|exact rfl)
  all_goals try exact⟨KO⟩
 intro⟨k,hk,hp⟩
 dsimp only
 by_cases hlt:k < s.length
 ·obtain⟨b,hb⟩:=af hlt
  have hbl:=b.toNat_lt
  cases hlo:low b with
  | false=>
   rw[xP hb hlo]
   unfold low at hlo
   repeat' ((conv=>whnf);first|refine Or.inl ?_|apply oi|(apply fi<;>intro h)|refine⟨k,b,rfl,hb,?_⟩|refine⟨_,rfl,?_⟩|exact rfl)
   all_goals try exact⟨KO⟩
   all_goals try exact KX
   all_goals(exfalso;simp at *;omega)
  | true=>
   have hnx:=vC hp hb hlo
   unfold low at hlo
   repeat' ((conv=>whnf);first|refine Or.inl ?_|apply oi|(apply fi<;>intro h)|refine⟨k,b,rfl,hb,?_⟩|refine⟨_,rfl,?_⟩|exact rfl)
   all_goals try exact⟨KO⟩
   all_goals try exact KX
   all_goals try exact K3
   conv=>whnf
   refine⟨⟨k+1,by omega,hnx⟩,?_,KD⟩
   repeat' ((conv=>whnf);first|refine Or.inl ?_|apply oi|(apply fi<;>intro h)|refine⟨_,rfl,?_⟩|exact rfl)
   all_goals try exact⟨KO⟩
   all_goals try exact⟨K4⟩
 ·have hge:s.length≤k:=by omega
  rw[List.take_of_length_le hge]at hp
  rw[hp]
  repeat' ((conv=>whnf);first|refine Or.inl ?_|apply oi|(apply fi<;>intro h)|refine ci (cn _ _ _) (ai rfl (ai rfl (ai rfl trivial))) ?_|refine⟨_,rfl,?_⟩|exact rfl)
  all_goals try exact⟨KO⟩
  all_goals try exact KX
def behind (p:Option CK)(x:CK):Prop:=match p with
 | none=>True
 | some p=>p.fav≤x.fav∧(p.fav=x.fav→p.fas≤x.fai)
instance (p:Option CK) (x:CK):Decidable (behind p x):=by unfold behind;cases p <;> infer_instance
def dB (t:CU):Bool:=
 if t.faa=0 then ah t.faf 0 999 && t.fab==[]
 else if t.faa=7 then ah t.faf 0 4 && cC t.fab
 else if t.faa=1 then t.faf==0 && cC t.fab
 else ah t.faa 2 6 && (t.faf==0 && t.fab==[])
theorem na (t:CU)(hl:t.fab.length≤1099511627775):Sim.Spec Tryz.prog 264 [.agg t.tr] (rB (dB t)):=by
 refine aj hΓ aq Tryz.func264 rfl (by decide) rfl ?_
 have hN:=ig t.fab hl
 unfold dB
 generalize cC t.fab=nb at *
 repeat' ((conv=>whnf);first|refine Or.inl ?_|apply oi|(apply fi<;>intro h)|refine ci (aJ _ _ _) (ai rfl (ai rfl (ai rfl trivial))) ?_|refine ci hN (ai rfl trivial) ?_|refine⟨_,rfl,?_⟩|exact rfl)
 all_goals try exact⟨KO⟩
 all_goals(refine⟨congrArg Tr.bool ?_⟩;simp_all;try(intros;omega))
theorem nN (t:CU)(hl:t.fab.length≤1099511627775):Sim.Spec Tryz.prog 255 [.agg t.tr] (rB (dB t)):=by
 refine aj hΓ aq Tryz.func255 rfl (by decide) rfl ?_
 have hN:=eW t.fab hl
 unfold dB
 generalize cC t.fab=nb at *
 repeat' ((conv=>whnf);first|refine Or.inl ?_|apply oi|(apply fi<;>intro h)|refine ci (cn _ _ _) (ai rfl (ai rfl (ai rfl trivial))) ?_|refine ci hN (ai rfl trivial) ?_|refine⟨_,rfl,?_⟩|exact rfl)
 all_goals try exact⟨KO⟩
 all_goals(refine⟨congrArg Tr.bool ?_⟩;simp_all[ah];(try(intros;omega));(try((repeat' split) <;> intros <;> omega)))
def lI (t:CU):Int:=if dB t=false then -1 else if t.faa=7 then t.faf else if t.faa=0∨t.faa=1 then 0 else 2
theorem mM (t:CU)(hl:t.fab.length≤1099511627775):Sim.Spec Tryz.prog 265 [.agg t.tr] (rI (lI t)):=by
 refine aj hΓ aq Tryz.func265 rfl (by decide) rfl ?_
 have hT:=na t hl
 unfold lI
 generalize dB t=nb at *
 repeat' ((conv=>whnf);first|refine Or.inl ?_|apply oi|(apply fi<;>intro h)|refine ci hT (ai (ai rfl (ai rfl (ai rfl trivial))) trivial) ?_|refine⟨_,rfl,?_⟩|exact rfl)
 all_goals try exact⟨KO⟩
 all_goals(refine⟨congrArg (Tr.int _) ?_⟩;simp_all)
theorem jC (t:CU)(hl:t.fab.length≤1099511627775):Sim.Spec Tryz.prog 228 [.agg t.tr] (rI (lI t)):=by
 refine aj hΓ aq Tryz.func228 rfl (by decide) rfl ?_
 have hT:=nN t hl
 unfold lI
 generalize dB t=nb at *
 repeat' ((conv=>whnf);first|refine Or.inl ?_|apply oi|(apply fi<;>intro h)|refine ci hT (ai (ai rfl (ai rfl (ai rfl trivial))) trivial) ?_|refine⟨_,rfl,?_⟩|exact rfl)
 all_goals try exact⟨KO⟩
 all_goals(refine⟨congrArg (Tr.int _) ?_⟩;simp_all)
def ar (t:CU):Nat:=(lI t).toNat
theorem nJ {t:CU}(h:dB t=true):lI t=(ar t:Int)∧ar t≤4:=by
 unfold ar lI
 rw[if_neg (by simp[h])]
 unfold dB at h
 split
 ·rename_i h7
  rw[if_neg (by omega),if_pos h7]at h
  simp only[Bool.and_eq_true,within_iff]at h
  omega
 ·split <;> omega
def endL:List CU→Nat→Nat→Option Nat
 | _,p,0=>some p
 | [],_,_+1=>none
 | t::l,p,n+1=>if dB t=true then endL l (p+1) (n+ar t)else none
def bS (o:Option Nat):Int:=match o with|some e=>e|none=> -1
def cH (l:List CU)(p:Int):Int:=if 0≤p then bS (endL (l.drop p.toNat) p.toNat 1)else -1
theorem yk {l:List CU}{p n:Nat}{t:CU}(h:l[p]?=some t):endL (l.drop p) p (n+1)=if dB t=true then endL (l.drop (p+1)) (p+1) (n+ar t)else none:=by
 rw[dP h,endL]
abbrev BP (l:List CU)(R:Int):={q:Nat×Nat // q.1≤l.length∧q.2≤1+4 * q.1∧bS (endL (l.drop q.1) q.1 q.2)=R}
def cP (l:List CU):Prop:=∀t∈l,t.fab.length≤1099511627775
theorem gk (l:List CU)(p:Int)(hl:l.length≤1048576)(hn:cP l):Sim.Spec Tryz.prog 248 [tvL 3 (l.map CU.tr),tvI p] (rI (cH l p)):=by
 refine aj hΓ aq Tryz.func248 rfl (by decide) rfl ?_
 have hlen:(l.map CU.tr).length=l.length:=by simp
 have hw:IntKind.i64.wrap (((l.map CU.tr).length:Int) - 1)=(l.length:Int) - 1:=by rw[IntWalk.i64_in _ (by omega)];omega
 by_cases hin:0≤p∧p < l.length
 ·have hb:=aJ p 0 (IntKind.i64.wrap (((l.map CU.tr).length:Int) - 1))
  rw[within_iff.2 ⟨hin.1,by rw[hw];omega⟩]at hb
  obtain⟨p,rfl⟩:=Int.eq_ofNat_of_zero_le hin.1
  obtain⟨R,hR⟩:∃R,cH l (p:Int)=R:=⟨_,rfl⟩
  rw[hR]
  rw[cH,if_pos hin.1,Int.toNat_natCast]at hR
  repeat' ((conv=>whnf);first|refine Or.inl ?_|apply oi|(apply fi<;>intro h)|refine ci hb (ai rfl (ai rfl (ai rfl trivial))) ?_|refine⟨_,rfl,?_⟩|exact rfl)
  all_goals try exact⟨KO⟩
  conv=>whnf
  refine⟨BP l R,fun q=>⟨[(0,.r (.c (.t (.lst 3 (l.map CU.tr))))),(1,tI .i64 (q.1.1:Int)),(5,tI .i64 (q.1.2:Int))],[],[]⟩,fun q=>l.length - q.1.1,⟨(p,1),by omega,by omega,hR⟩,?_,?_⟩
  ·skip
   repeat' ((conv=>whnf);first|refine Or.inl ?_|apply oi|(apply fi<;>intro h)|refine⟨_,rfl,?_⟩|exact rfl)
   all_goals try exact⟨KO⟩
  intro⟨⟨a,n⟩,ha,hn4,hr⟩
  dsimp only at ha hn4 hr ⊢
  cases n with
  | zero=>
   have:R=(a:Int):=by
    rw[←hr]
    cases l.drop a <;> rfl
   subst this
   repeat' ((conv=>whnf);first|refine Or.inl ?_|apply oi|(apply fi<;>intro h)|refine⟨_,rfl,?_⟩|exact rfl)
   all_goals try exact⟨KO⟩
   all_goals try exact KX
  | succ n=>
   by_cases hlt:a < l.length
   ·obtain⟨t,ht⟩:=af hlt
    rw[yk ht]at hr
    have hT:=na t (hn t (List.mem_of_getElem? ht))
    have hA:=mM t (hn t (List.mem_of_getElem? ht))
    cases hok:dB t with
    | false=>
     rw[hok]at hT
     rw[if_neg (by simp[hok])]at hr
     subst hr
     repeat' ((conv=>whnf);first|refine Or.inl ?_|apply oi|(apply fi<;>intro h)|refine⟨a,t.tr,rfl,aa ht,?_⟩|refine ci hT (ai (ai rfl (ai rfl (ai rfl trivial))) trivial) ?_|refine⟨_,rfl,?_⟩|exact rfl)
     all_goals try exact⟨KO⟩
     all_goals try exact KX
    | true=>
     obtain⟨e1,e2⟩:=nJ hok
     rw[e1]at hA
     rw[hok]at hT
     rw[if_pos hok]at hr
     repeat' ((conv=>whnf);first|refine Or.inl ?_|apply oi|(apply fi<;>intro h)|refine⟨a,t.tr,rfl,aa ht,?_⟩|refine ci hT (ai (ai rfl (ai rfl (ai rfl trivial))) trivial) ?_|refine ci hA (ai (ai rfl (ai rfl (ai rfl trivial))) trivial) ?_|refine⟨_,rfl,?_⟩|exact rfl)
     all_goals try exact⟨KO⟩
     all_goals try exact KX
     conv=>whnf
     refine⟨⟨(a+1,n+ar t),by dsimp only;omega,by dsimp only;omega,hr⟩,?_,KD⟩
     repeat' ((conv=>whnf);first|refine Or.inl ?_|apply oi|(apply fi<;>intro h)|refine⟨_,rfl,?_⟩|exact rfl)
     all_goals try exact⟨KO⟩
     all_goals try exact⟨K4⟩
     all_goals try exact⟨by dsimp only;congr 1;rw[IntWalk.i64_in _ (by omega)];omega⟩
     all_goals exact⟨congrArg (Tr.int _) (by dsimp only;simp(disch:=omega)only[IntWalk.i64_in];omega)⟩
   ·rw[List.drop_eq_nil_of_le (by omega),endL]at hr
    subst hr
    repeat' ((conv=>whnf);first|refine Or.inl ?_|apply oi|(apply fi<;>intro h)|refine⟨_,rfl,?_⟩|exact rfl)
    all_goals try exact⟨KO⟩
    all_goals try exact KX
 ·have hb:=aJ p 0 (IntKind.i64.wrap (((l.map CU.tr).length:Int) - 1))
  have hf:ah p 0 (IntKind.i64.wrap (((l.map CU.tr).length:Int) - 1))=false:=by
   cases hx:ah p 0 (IntKind.i64.wrap (((l.map CU.tr).length:Int) - 1))with
   | false=>rfl
   | true=>have:=within_iff.1 hx;rw[hw]at this;exact absurd ⟨this.1,by omega⟩ hin
  rw[hf]at hb
  have he:cH l p= -1:=by
   unfold cH
   split
   ·rw[List.drop_eq_nil_of_le (by omega)];rfl
   ·rfl
  rw[he]
  repeat' ((conv=>whnf);first|refine Or.inl ?_|apply oi|(apply fi<;>intro h)|refine ci hb (ai rfl (ai rfl (ai rfl trivial))) ?_|refine⟨_,rfl,?_⟩|exact rfl)
  all_goals try exact⟨KO⟩
  all_goals(exfalso;simp at h;done)
theorem gg (l:List CU)(p:Int)(hl:l.length≤1048576)(hn:cP l):Sim.Spec Tryz.prog 238 [tvL 3 (l.map CU.tr),tvI p] (rI (cH l p)):=by
 refine aj hΓ aq Tryz.func238 rfl (by decide) rfl ?_
 have hlen:(l.map CU.tr).length=l.length:=by simp
 by_cases h0:0≤p
 ·obtain⟨p,rfl⟩:=Int.eq_ofNat_of_zero_le h0
  obtain⟨R,hR⟩:∃R,cH l (p:Int)=R:=⟨_,rfl⟩
  rw[hR]
  rw[cH,if_pos h0,Int.toNat_natCast]at hR
  by_cases hlp:p≤l.length
  ·skip
   repeat' ((conv=>whnf);first|refine Or.inl ?_|apply oi|(apply fi<;>intro h)|refine⟨_,rfl,?_⟩|exact rfl)
   all_goals try exact⟨KO⟩
   all_goals try exact KX
   conv=>whnf
   refine⟨BP l R,fun q=>⟨[(0,.r (.c (.t (.lst 3 (l.map CU.tr))))),(1,tI .i64 (q.1.1:Int)),(5,tI .i64 (q.1.2:Int))],[],[]⟩,fun q=>l.length - q.1.1,⟨(p,1),by omega,by omega,hR⟩,?_,?_⟩
   ·skip
    repeat' ((conv=>whnf);first|refine Or.inl ?_|apply oi|(apply fi<;>intro h)|refine⟨_,rfl,?_⟩|exact rfl)
    all_goals try exact⟨KO⟩
   intro⟨⟨a,n⟩,ha,hn4,hr⟩
   dsimp only at ha hn4 hr ⊢
   cases n with
   | zero=>
    have:R=(a:Int):=by
     rw[←hr]
     cases l.drop a <;> rfl
    subst this
    repeat' ((conv=>whnf);first|refine Or.inl ?_|apply oi|(apply fi<;>intro h)|refine⟨_,rfl,?_⟩|exact rfl)
    all_goals try exact⟨KO⟩
    all_goals try exact KX
   | succ n=>
    by_cases hlt:a < l.length
    ·obtain⟨t,ht⟩:=af hlt
     rw[yk ht]at hr
     have hT:=nN t (hn t (List.mem_of_getElem? ht))
     have hA:=jC t (hn t (List.mem_of_getElem? ht))
     cases hok:dB t with
     | false=>
      rw[hok]at hT
      rw[if_neg (by simp[hok])]at hr
      subst hr
      repeat' ((conv=>whnf);first|refine Or.inl ?_|apply oi|(apply fi<;>intro h)|refine⟨a,t.tr,rfl,aa ht,?_⟩|refine ci hT (ai (ai rfl (ai rfl (ai rfl trivial))) trivial) ?_|refine⟨_,rfl,?_⟩|exact rfl)
      all_goals try exact⟨KO⟩
      all_goals try exact KX
     | true=>
      obtain⟨e1,e2⟩:=nJ hok
      rw[e1]at hA
      rw[hok]at hT
      rw[if_pos hok]at hr
      repeat' ((conv=>whnf);first|refine Or.inl ?_|apply oi|(apply fi<;>intro h)|refine⟨a,t.tr,rfl,aa ht,?_⟩|refine ci hT (ai (ai rfl (ai rfl (ai rfl trivial))) trivial) ?_|refine ci hA (ai (ai rfl (ai rfl (ai rfl trivial))) trivial) ?_|refine⟨_,rfl,?_⟩|exact rfl)
      all_goals try exact⟨KO⟩
      all_goals try exact KX
      conv=>whnf
      refine⟨⟨(a+1,n+ar t),by dsimp only;omega,by dsimp only;omega,hr⟩,?_,KD⟩
      repeat' ((conv=>whnf);first|refine Or.inl ?_|apply oi|(apply fi<;>intro h)|refine⟨_,rfl,?_⟩|exact rfl)
      all_goals try exact⟨KO⟩
      all_goals try exact⟨K4⟩
      all_goals try exact⟨by dsimp only;congr 1;rw[IntWalk.i64_in _ (by omega)];omega⟩
      all_goals exact⟨congrArg (Tr.int _) (by dsimp only;simp(disch:=omega)only[IntWalk.i64_in];omega)⟩
    ·rw[List.drop_eq_nil_of_le (by omega),endL]at hr
     subst hr
     repeat' ((conv=>whnf);first|refine Or.inl ?_|apply oi|(apply fi<;>intro h)|refine⟨_,rfl,?_⟩|exact rfl)
     all_goals try exact⟨KO⟩
     all_goals try exact KX
  ·rw[List.drop_eq_nil_of_le (by omega),endL]at hR
   subst hR
   repeat' ((conv=>whnf);first|refine Or.inl ?_|apply oi|(apply fi<;>intro h)|refine⟨_,rfl,?_⟩|exact rfl)
   all_goals try exact⟨KO⟩
   all_goals try exact KX
   conv=>whnf
   refine⟨Unit,fun q=>⟨[(0,.r (.c (.t (.lst 3 (l.map CU.tr))))),(1,tI .i64 (p:Int)),(5,tI .i64 1)],[],[]⟩,fun q=>0,(),?_,?_⟩
   ·skip
    repeat' ((conv=>whnf);first|refine Or.inl ?_|apply oi|(apply fi<;>intro h)|refine⟨_,rfl,?_⟩|exact rfl)
    all_goals try exact⟨KO⟩
   intro q
   repeat' ((conv=>whnf);first|refine Or.inl ?_|apply oi|(apply fi<;>intro h)|refine⟨_,rfl,?_⟩|exact rfl)
   all_goals try exact⟨KO⟩
   all_goals try exact KX
 ·have he:cH l p= -1:=by rw[cH,if_neg h0]
  rw[he]
  repeat' ((conv=>whnf);first|refine Or.inl ?_|apply oi|(apply fi<;>intro h)|refine⟨_,rfl,?_⟩|exact rfl)
  all_goals try exact⟨KO⟩
  all_goals try exact KX
def ba (l:List CU):Bool:=decide (l.length≤20) && (decide (0 < l.length) && cH l 0==(l.length:Int))
theorem lB (l:List CU)(hl:l.length≤1048576)(hn:cP l):Sim.Spec Tryz.prog 213 [tvL 3 (l.map CU.tr)] (rB (ba l)):=by
 refine aj hΓ aq Tryz.func213 rfl (by decide) rfl ?_
 have hlen:(l.map CU.tr).length=l.length:=by simp
 have hE:=gk l 0 hl hn
 unfold ba
 generalize cH l 0=e at *
 repeat' ((conv=>whnf);first|refine Or.inl ?_|apply oi|(apply fi<;>intro h)|refine ci hE (ai rfl (ai rfl trivial)) ?_|refine⟨_,rfl,?_⟩|exact rfl)
 all_goals try exact⟨KO⟩
 all_goals(refine⟨congrArg Tr.bool ?_⟩;simp_all;try omega)
theorem lH (l:List CU)(hl:l.length≤1048576)(hn:cP l):Sim.Spec Tryz.prog 191 [tvL 3 (l.map CU.tr)] (rB (ba l)):=by
 refine aj hΓ aq Tryz.func191 rfl (by decide) rfl ?_
 have hlen:(l.map CU.tr).length=l.length:=by simp
 have hE:=gg l 0 hl hn
 unfold ba
 generalize cH l 0=e at *
 repeat' ((conv=>whnf);first|refine Or.inl ?_|apply oi|(apply fi<;>intro h)|refine ci hE (ai rfl (ai rfl trivial)) ?_|refine⟨_,rfl,?_⟩|exact rfl)
 all_goals try exact⟨KO⟩
 all_goals(refine⟨congrArg Tr.bool ?_⟩;simp_all;try omega)
def ia {α:Type}[BEq α]:List α→Nat→α→Option Nat
 | [],_,_=>none
 | x::l,i,s=>if(x==s)=true then some i else ia l (i+1) s
theorem uy {α:Type}[BEq α]{l:List α}{i:Nat}{x s:α}(hx:l[i]?=some x):ia (l.drop i) i s=if(x==s)=true then some i else ia (l.drop (i+1)) (i+1) s:=by
 rw[dP hx,ia]
theorem sR {α:Type}[BEq α]:∀{l:List α} {i k:Nat} {s:α},ia l i s=some k→i≤k∧k < i+l.length
 | [],_,_,_,h=>by rw[ia]at h;cases h
 | x::l,i,k,s,h=>by
  rw[ia]at h
  simp only[List.length_cons]
  split at h
  ·injection h with h;omega
  ·have:=sR h;omega
theorem vn {α:Type}[BEq α][LawfulBEq α]:∀{l:List α} {i:Nat} {s:α},(ia l i s).isSome=l.contains s
 | [],_,_=>rfl
 | x::l,i,s=>by
  rw[ia,List.contains_cons]
  cases h:(x==s)with
  | true=>rw[if_pos rfl];simp[eq_of_beq h]
  | false=>
   have h2:(s==x)=false:=by rw[beq_eq_false_iff_ne]at h ⊢;exact fun e=>h e.symm
   rw[if_neg (by simp),h2,Bool.false_or]
   exact vn
def ct {α:Type}[BEq α](l:List α)(s:α):Int:=bS (ia l 0 s)
theorem lh {α:Type}[BEq α][LawfulBEq α]{l:List α}{s:α}:decide (0≤ct l s)=l.contains s:=by
 rw[←vn (i:=0),ct]
 cases ia l 0 s with
 | none=>rfl
 | some k=>simp[bS]
theorem fB (l:List (List UInt8))(s:List UInt8)(hl:l.length≤4194304):Sim.Spec Tryz.prog 263 [tvL 1 (l.map ag),tvS s] (rI (ct l s)):=by
 refine aj hΓ aq Tryz.func263 rfl (by decide) rfl ?_
 have hlen:(l.map ag).length=l.length:=by simp
 obtain⟨R,hR⟩:∃R,ct l s=R:=⟨_,rfl⟩
 rw[hR]
 repeat' ((conv=>whnf);first|refine Or.inl ?_|apply oi|(apply fi<;>intro h)|refine⟨_,rfl,?_⟩|exact rfl)
 all_goals try exact⟨KO⟩
 conv=>whnf
 refine⟨{k:Nat // k≤l.length∧bS (ia (l.drop k) k s)=R},fun k=>⟨[(0,.r (.c (.t (.lst 1 (l.map ag))))),(1,tS s),(6,.r (.c (.t (.lst 1 (l.map ag))))),(7,tI .i64 ((l.map ag).length:Int)),(8,tI .i64 (k.1:Int))],[],[]⟩,fun k=>l.length - k.1,⟨0,by omega,hR⟩,?_,?_⟩
 ·skip
  repeat' ((conv=>whnf);first|refine Or.inl ?_|apply oi|(apply fi<;>intro h)|refine⟨_,rfl,?_⟩|exact rfl)
  all_goals try exact⟨KO⟩
 intro⟨k,hk,hr⟩
 dsimp only at hk hr ⊢
 by_cases hlt:k < l.length
 ·obtain⟨x,hx⟩:=af hlt
  rw[uy hx]at hr
  cases he:(x==s)with
  | true=>
   rw[he,if_pos rfl]at hr
   have he2:=eq_of_beq he
   subst he2
   subst hr
   repeat' ((conv=>whnf);first|refine Or.inl ?_|apply oi|(apply fi<;>intro h)|refine⟨k,(ag x),rfl,aa hx,?_⟩|refine⟨_,rfl,?_⟩|exact rfl)
   all_goals try exact⟨KO⟩
   all_goals try exact KX
   all_goals try(exfalso;(try simp_all[ah]);(try omega);done)
  | false=>
   rw[he,if_neg (by simp)]at hr
   repeat' ((conv=>whnf);first|refine Or.inl ?_|apply oi|(apply fi<;>intro h)|refine⟨k,(ag x),rfl,aa hx,?_⟩|refine⟨_,rfl,?_⟩|exact rfl)
   all_goals try exact⟨KO⟩
   all_goals try exact KX
   all_goals try(exfalso;(try simp_all[ah]);(try omega);done)
   conv=>whnf
   refine⟨⟨k+1,by omega,hr⟩,?_,KD⟩
   repeat' ((conv=>whnf);first|refine Or.inl ?_|apply oi|(apply fi<;>intro h)|refine⟨_,rfl,?_⟩|exact rfl)
   all_goals try exact⟨KO⟩
   all_goals try exact⟨K4⟩
 ·rw[List.drop_eq_nil_of_le (by omega),ia]at hr
  subst hr
  repeat' ((conv=>whnf);first|refine Or.inl ?_|apply oi|(apply fi<;>intro h)|refine⟨_,rfl,?_⟩|exact rfl)
  all_goals try exact⟨KO⟩
  all_goals try exact KX
theorem dU (l:List (List UInt8))(s:List UInt8)(hl:l.length≤4194304):Sim.Spec Tryz.prog 247 [tvL 1 (l.map ag),tvS s] (rB (l.contains s)):=by
 refine aj hΓ aq Tryz.func247 rfl (by decide) rfl ?_
 have hI:=fB l s hl
 rw[←lh]
 generalize ct l s=e at *
 repeat' ((conv=>whnf);first|refine Or.inl ?_|apply oi|(apply fi<;>intro h)|refine ci hI (ai rfl (ai rfl trivial)) ?_|refine⟨_,rfl,?_⟩|exact rfl)
 all_goals try exact⟨KO⟩
theorem jO (l:List Int)(s:Int)(hl:l.length≤4194304):Sim.Spec Tryz.prog 217 [tvL 1 (l.map ab),tvI s] (rI (ct l s)):=by
 refine aj hΓ aq Tryz.func217 rfl (by decide) rfl ?_
 have hlen:(l.map ab).length=l.length:=by simp
 obtain⟨R,hR⟩:∃R,ct l s=R:=⟨_,rfl⟩
 rw[hR]
 repeat' ((conv=>whnf);first|refine Or.inl ?_|apply oi|(apply fi<;>intro h)|refine⟨_,rfl,?_⟩|exact rfl)
 all_goals try exact⟨KO⟩
 conv=>whnf
 refine⟨{k:Nat // k≤l.length∧bS (ia (l.drop k) k s)=R},fun k=>⟨[(0,.r (.c (.t (.lst 1 (l.map ab))))),(1,tI .i64 s),(6,.r (.c (.t (.lst 1 (l.map ab))))),(7,tI .i64 ((l.map ab).length:Int)),(8,tI .i64 (k.1:Int))],[],[]⟩,fun k=>l.length - k.1,⟨0,by omega,hR⟩,?_,?_⟩
 ·skip
  repeat' ((conv=>whnf);first|refine Or.inl ?_|apply oi|(apply fi<;>intro h)|refine⟨_,rfl,?_⟩|exact rfl)
  all_goals try exact⟨KO⟩
 intro⟨k,hk,hr⟩
 dsimp only at hk hr ⊢
 by_cases hlt:k < l.length
 ·obtain⟨x,hx⟩:=af hlt
  rw[uy hx]at hr
  cases he:(x==s)with
  | true=>
   rw[he,if_pos rfl]at hr
   have he2:=eq_of_beq he
   subst he2
   subst hr
   repeat' ((conv=>whnf);first|refine Or.inl ?_|apply oi|(apply fi<;>intro h)|refine⟨k,(ab x),rfl,aa hx,?_⟩|refine⟨_,rfl,?_⟩|exact rfl)
   all_goals try exact⟨KO⟩
   all_goals try exact KX
   all_goals try(exfalso;(try simp_all[ah]);(try omega);done)
  | false=>
   rw[he,if_neg (by simp)]at hr
   repeat' ((conv=>whnf);first|refine Or.inl ?_|apply oi|(apply fi<;>intro h)|refine⟨k,(ab x),rfl,aa hx,?_⟩|refine⟨_,rfl,?_⟩|exact rfl)
   all_goals try exact⟨KO⟩
   all_goals try exact KX
   all_goals try(exfalso;(try simp_all[ah]);(try omega);done)
   conv=>whnf
   refine⟨⟨k+1,by omega,hr⟩,?_,KD⟩
   repeat' ((conv=>whnf);first|refine Or.inl ?_|apply oi|(apply fi<;>intro h)|refine⟨_,rfl,?_⟩|exact rfl)
   all_goals try exact⟨KO⟩
   all_goals try exact⟨K4⟩
 ·rw[List.drop_eq_nil_of_le (by omega),ia]at hr
  subst hr
  repeat' ((conv=>whnf);first|refine Or.inl ?_|apply oi|(apply fi<;>intro h)|refine⟨_,rfl,?_⟩|exact rfl)
  all_goals try exact⟨KO⟩
  all_goals try exact KX
theorem gj (l:List Int)(s:Int)(hl:l.length≤4194304):Sim.Spec Tryz.prog 156 [tvL 1 (l.map ab),tvI s] (rB (l.contains s)):=by
 refine aj hΓ aq Tryz.func156 rfl (by decide) rfl ?_
 have hI:=jO l s hl
 rw[←lh]
 generalize ct l s=e at *
 repeat' ((conv=>whnf);first|refine Or.inl ?_|apply oi|(apply fi<;>intro h)|refine ci hI (ai rfl (ai rfl trivial)) ?_|refine⟨_,rfl,?_⟩|exact rfl)
 all_goals try exact⟨KO⟩
def qX (l:List (List UInt8)):Nat→Nat→Bool
 | 0,_=>true
 | n+1,k=>match l[k]? with
  | some s=>if cC s=true∧(l.take k).contains s=false then qX l n (k+1)else false
  | none=>true
theorem sU {l:List (List UInt8)}{k:Nat}{s:List UInt8}(hx:l[k]?=some s):qX l (l.length - k) k=if cC s=true∧(l.take k).contains s=false then qX l (l.length - (k+1)) (k+1)else false:=by
 have hk:k < l.length:=by
  rcases Nat.lt_or_ge k l.length with h|h
  ·exact h
  ·rw[List.getElem?_eq_none h]at hx;cases hx
 rw[show l.length - k=(l.length - (k+1))+1 by omega,qX,hx]
def ju (l:List (List UInt8)):Bool:=qX l l.length 0 && decide (l.length≤4)
theorem qs (l:List (List UInt8))(hl:l.length≤1048576)(hn:∀x∈l,x.length≤1099511627775):Sim.Spec Tryz.prog 211 [tvL 1 (l.map ag)] (rB (ju l)):=by
 refine aj hΓ aq Tryz.func211 rfl (by decide) rfl ?_
 have hlen:(l.map ag).length=l.length:=by simp
 obtain⟨R,hR⟩:∃R,ju l=R:=⟨_,rfl⟩
 rw[hR]
 repeat' ((conv=>whnf);first|refine Or.inl ?_|apply oi|(apply fi<;>intro h)|refine⟨_,rfl,?_⟩|exact rfl)
 all_goals try exact⟨KO⟩
 conv=>whnf
 refine⟨{k:Nat // k≤l.length∧(qX l (l.length - k) k && decide (l.length≤4))=R},fun k=>⟨[(0,.r (.c (.t (.lst 1 (l.map ag))))),(5,.r (.c (.t (.lst 1 (l.map ag))))),(6,tI .i64 ((l.map ag).length:Int)),(7,tI .i64 (k.1:Int))],[],[]⟩,fun k=>l.length - k.1,⟨0,by omega,by rw[Nat.sub_zero];exact hR⟩,?_,?_⟩
 ·skip
  repeat' ((conv=>whnf);first|refine Or.inl ?_|apply oi|(apply fi<;>intro h)|refine⟨_,rfl,?_⟩|exact rfl)
  all_goals try exact⟨KO⟩
 intro⟨k,hk,hr⟩
 dsimp only at hk hr ⊢
 by_cases hlt:k < l.length
 ·obtain⟨s,hs⟩:=af hlt
  rw[sU hs]at hr
  have hN:=ig s (hn s (List.mem_of_getElem? hs))
  have hC:=dU (l.take k) s (by simp;omega)
  cases hno:cC s with
  | false=>
   rw[hno]at hN hr
   rw[if_neg (by simp),Bool.false_and]at hr
   subst hr
   repeat' ((conv=>whnf);first|refine Or.inl ?_|apply oi|(apply fi<;>intro h)|refine⟨k,(ag s),rfl,aa hs,?_⟩|refine ci hN (ai rfl trivial) ?_|refine⟨_,rfl,?_⟩|exact rfl)
   all_goals try exact⟨KO⟩
   all_goals try exact KX
   all_goals try(exfalso;(try simp_all[ah]);(try omega);done)
  | true=>
   rw[hno]at hN hr
   cases hco:(l.take k).contains s with
   | true=>
    rw[hco]at hC hr
    rw[if_neg (by simp),Bool.false_and]at hr
    subst hr
    rw[List.map_take]at hC
    repeat' ((conv=>whnf);first|refine Or.inl ?_|apply oi|(apply fi<;>intro h)|refine⟨k,(ag s),rfl,aa hs,?_⟩|refine ci hN (ai rfl trivial) ?_|refine⟨_,rfl,?_⟩|exact rfl)
    all_goals try exact⟨KO⟩
    all_goals try exact KX
    all_goals try(exfalso;(try simp_all[ah]);(try omega);done)
    conv=>whnf
    refine⟨0,k,rfl,rfl,by omega,by omega,?_⟩
    repeat' ((conv=>whnf);first|refine Or.inl ?_|apply oi|(apply fi<;>intro h)|refine ci hC (ai rfl (ai rfl trivial)) ?_|refine⟨_,rfl,?_⟩|exact rfl)
    all_goals try exact⟨KO⟩
   | false=>
    rw[hco]at hC hr
    rw[if_pos ⟨rfl,rfl⟩]at hr
    rw[List.map_take]at hC
    repeat' ((conv=>whnf);first|refine Or.inl ?_|apply oi|(apply fi<;>intro h)|refine⟨k,(ag s),rfl,aa hs,?_⟩|refine ci hN (ai rfl trivial) ?_|refine⟨_,rfl,?_⟩|exact rfl)
    all_goals try exact⟨KO⟩
    all_goals try exact KX
    all_goals try(exfalso;(try simp_all[ah]);(try omega);done)
    conv=>whnf
    refine⟨0,k,rfl,rfl,by omega,by omega,?_⟩
    repeat' ((conv=>whnf);first|refine Or.inl ?_|apply oi|(apply fi<;>intro h)|refine ci hC (ai rfl (ai rfl trivial)) ?_|refine⟨_,rfl,?_⟩|exact rfl)
    all_goals try exact⟨KO⟩
    all_goals try exact KX
    all_goals try(exfalso;(try simp_all[ah]);(try omega);done)
    conv=>whnf
    refine⟨⟨k+1,by omega,hr⟩,?_,KD⟩
    repeat' ((conv=>whnf);first|refine Or.inl ?_|apply oi|(apply fi<;>intro h)|refine⟨_,rfl,?_⟩|exact rfl)
    all_goals try exact⟨KO⟩
    all_goals try exact⟨K4⟩
 ·rw[show l.length - k=0 by omega,qX,Bool.true_and]at hr
  subst hr
  repeat' ((conv=>whnf);first|refine Or.inl ?_|apply oi|(apply fi<;>intro h)|refine⟨_,rfl,?_⟩|exact rfl)
  all_goals try exact⟨KO⟩
  all_goals try exact KX
  all_goals exact⟨congrArg Tr.bool (decide_eq_decide.2 (by rw[hlen];omega))⟩
def cz (k:Int):Bool:=k==1 || (k==2 || (k==3 || (k==5 || k==6)))
theorem kA (k:Int):Sim.Spec Tryz.prog 212 [tvI k] (rB (cz k)):=by
 refine aj hΓ aq Tryz.func212 rfl (by decide) rfl ?_
 unfold cz
 repeat' ((conv=>whnf);first|refine Or.inl ?_|apply oi|(apply fi<;>intro h)|refine⟨_,rfl,?_⟩|exact rfl)
 all_goals try exact⟨KO⟩
 all_goals(refine⟨congrArg Tr.bool ?_⟩;simp_all;(try(rw[Bool.eq_iff_iff];simp;omega)))
theorem nB (k:Int)(hk:ah k 0 7=true):Sim.Spec Tryz.prog 190 [tvI k] (rB (cz k)):=by
 refine aj hΓ aq Tryz.func190 rfl (by decide) rfl ?_
 have:=within_iff.1 hk
 unfold cz
 repeat' ((conv=>whnf);first|refine Or.inl ?_|apply oi|(apply fi<;>intro h)|refine⟨_,rfl,?_⟩|exact rfl)
 all_goals try exact⟨KO⟩
 all_goals(refine⟨congrArg Tr.bool ?_⟩;simp_all;(try(rw[Bool.eq_iff_iff];simp;done));(try(rw[Bool.eq_iff_iff];simp;omega)))
def bZ (x:CM):Bool:=ah x.faa 0 7 && ((if x.faa=0∨x.faa=1 then cC x.fab else x.fab==[]) && ((if x.faa=0 then ju x.fad else x.fad.length==0) && (if cz x.faa=true then ba x.fac else x.fac.length==0)))
theorem cd {x:CM}(hs:aE 1048576 x.tr):x.fab.length≤1048576∧x.fad.length≤1048576∧(∀y∈x.fad,y.length≤1048576)∧x.fac.length≤1048576∧(∀y∈x.fac,y.fab.length≤1048576):=by
 simp only[CM.tr,aE]at hs
 obtain⟨_,h1,h2,h3,_⟩:=hs
 have e1:=cR h2
 have e2:=cR h3
 refine⟨by rw[aA]at h1;omega,by omega,fun y hy=>?_,by omega,fun y hy=>?_⟩
 ·have:=aC h2 hy
  simp only[ag,aE,aA]at this
  omega
 ·have:=aC h3 hy
  simp only[CU.tr,aE,aA]at this
  omega
theorem wn {x:CM}(h:ah x.faa 0 7=false):bZ x=false:=by
 unfold bZ;rw[h];rfl
theorem po {x:CM}(h:4 < x.fad.length):bZ x=false:=by
 have h1:ju x.fad=false:=by unfold ju;rw[decide_eq_false (by omega),Bool.and_false]
 have h2:(x.fad.length==0)=false:=by rw[beq_eq_false_iff_ne];omega
 unfold bZ
 rw[h1,h2]
 split <;> simp
theorem lK (x:CM)(hs:aE 1048576 x.tr):Sim.Spec Tryz.prog 151 [.agg x.tr] (rB (bZ x)):=by
 refine aj hΓ aq Tryz.func151 rfl (by decide) rfl ?_
 obtain⟨h1,h2,h3,h4,h5⟩:=cd hs
 have hB:=aJ x.faa 0 7
 have hN:=ig x.fab (by omega)
 have hA:=qs x.fad h2 (fun y hy=>by have:=h3 y hy;omega)
 have hH:=kA x.faa
 have hE:=lB x.fac h4 (fun y hy=>by have:=h5 y hy;omega)
 unfold bZ
 generalize ah x.faa 0 7=b1 at *
 generalize cC x.fab=b2 at *
 generalize ju x.fad=b3 at *
 generalize cz x.faa=b4 at *
 generalize ba x.fac=b5 at *
 have hl1:(x.fad.map ag).length=x.fad.length:=by simp
 have hl2:(x.fac.map CU.tr).length=x.fac.length:=by simp
 repeat' ((conv=>whnf);first|refine Or.inl ?_|apply oi|(apply fi<;>intro h)|refine ci hB (ai rfl (ai rfl (ai rfl trivial))) ?_|refine ci hN (ai rfl trivial) ?_|refine ci hA (ai rfl trivial) ?_|refine ci hH (ai rfl trivial) ?_|refine ci hE (ai rfl trivial) ?_|refine⟨_,rfl,?_⟩|exact rfl)
 all_goals try exact⟨KO⟩
 all_goals(refine⟨congrArg Tr.bool ?_⟩;simp_all;(try(rw[Bool.eq_iff_iff];simp;done));(try(rw[Bool.eq_iff_iff];simp;omega));(try(intro hh;exfalso;simp_all;done)))
theorem zJ {l:List (List UInt8)}{k i:Nat}{y s:List UInt8}(hi:i < k)(hy:l[i]?=some y):((l.take k).drop i).contains s=(s==y || ((l.take k).drop (i+1)).contains s):=by
 rw[dP (x:=y) (by rw[List.getElem?_take,if_pos hi];exact hy),List.contains_cons]
theorem zQ {x:CM}(hk:ah x.faa 0 7=true)(h0:x.faa=0)(ha:x.fad.length≤4):bZ x=(qX x.fad x.fad.length 0 && (cC x.fab && x.fac.length==0)):=by
 unfold bZ ju
 rw[hk,if_pos (.inl h0),if_pos h0,if_neg (by rw[h0];decide),decide_eq_true ha]
 cases cC x.fab <;> cases qX x.fad x.fad.length 0 <;> simp
theorem AL {x:CM}(hk:ah x.faa 0 7=true)(h0:x.faa≠0):bZ x=(x.fad.length==0 && ((if x.faa=1 then cC x.fab else x.fab==[]) && (if cz x.faa=true then ba x.fac else x.fac.length==0))):=by
 have e:(if x.faa=0∨x.faa=1 then cC x.fab else x.fab==[])=(if x.faa=1 then cC x.fab else x.fab==[]):=by
  by_cases h1:x.faa=1
  ·rw[if_pos (.inr h1),if_pos h1]
  ·rw[if_neg (by omega),if_neg h1]
 unfold bZ
 rw[hk,if_neg h0,e,Bool.true_and]
 generalize(if x.faa=1 then cC x.fab else x.fab==[])=a
 generalize(if cz x.faa=true then ba x.fac else x.fac.length==0)=b
 cases a <;> cases(x.fad.length==0) <;> simp
theorem yp (n:Nat):((n:Int)==0)=(n==0):=by rw[Bool.eq_iff_iff];simp
abbrev BT (x:CM):AO:= .box (x.tr.map .t)
theorem lJ (x:CM)(hs:aE 1048576 x.tr):Sim.Spec Tryz.prog 119 [.agg x.tr] (rB (bZ x)):=by
 refine aj hΓ aq Tryz.func119 rfl (by decide) rfl ?_
 obtain⟨h1,h2,h3,h4,h5⟩:=cd hs
 have hB:=cn x.faa 0 7
 have hN:=eW x.fab (by omega)
 have hE:=lH x.fac h4 (fun y hy=>by have:=h5 y hy;omega)
 have hl1:(x.fad.map ag).length=x.fad.length:=by simp
 have hl2:(x.fac.map CU.tr).length=x.fac.length:=by simp
 cases hk:ah x.faa 0 7 with
 | false=>
  rw[hk]at hB
  rw[wn hk]
  repeat' ((conv=>whnf);first|refine Or.inl ?_|apply oi|(apply fi<;>intro h)|refine ci hB (ai rfl (ai rfl (ai rfl trivial))) ?_|refine⟨_,rfl,?_⟩|exact rfl)
  all_goals try exact⟨KO⟩
  all_goals try exact KX
 | true=>
  rw[hk]at hB
  have hH:=nB x.faa hk
  by_cases ha:x.fad.length≤4
  ·by_cases h0:x.faa=0
   ·rw[zQ hk h0 ha]
    generalize cC x.fab=b2 at *
    generalize ba x.fac=b5 at *
    obtain⟨A,hA⟩:∃A,qX x.fad x.fad.length 0=A:=⟨_,rfl⟩
    rw[hA]
    have hh0:cz x.faa=false:=by rw[h0];rfl
    rw[hh0]at hH
    repeat' ((conv=>whnf);first|refine Or.inl ?_|apply oi|(apply fi<;>intro h)|refine ci hB (ai rfl (ai rfl (ai rfl trivial))) ?_|refine⟨_,rfl,?_⟩|exact rfl)
    all_goals try exact⟨KO⟩
    all_goals try exact KX
    conv=>whnf
    refine⟨{k:Nat // k≤x.fad.length∧qX x.fad (x.fad.length - k) k=A},fun q=>⟨[(1,.r (.c (.ptr (1,0,0) 0))),(3,tI .i64 (q.1:Int))],[((1,0,0),some (BT x))],[1]⟩,fun q=>x.fad.length - q.1,⟨0,by omega,by rw[Nat.sub_zero];exact hA⟩,?_,?_⟩
    ·skip
     repeat' ((conv=>whnf);first|refine Or.inl ?_|apply oi|(apply fi<;>intro h)|refine⟨_,rfl,?_⟩|exact rfl)
     all_goals try exact⟨KO⟩
    intro⟨k,hkl,hr⟩
    dsimp only at hkl hr ⊢
    by_cases hlt:k < x.fad.length
    ·obtain⟨s,hsk⟩:=af hlt
     rw[sU hsk]at hr
     have hN2:=eW s (by have:=h3 s (List.mem_of_getElem? hsk);omega)
     cases hno:cC s with
     | false=>
      rw[hno]at hN2 hr
      rw[if_neg (by simp)]at hr
      subst hr
      repeat' ((conv=>whnf);first|refine Or.inl ?_|apply oi|(apply fi<;>intro h)|refine ci hN2 (ai rfl trivial) ?_|refine⟨k,(ag s),rfl,aa hsk,?_⟩|refine⟨_,rfl,?_⟩|exact rfl)
      all_goals try exact⟨KO⟩
      all_goals try exact KX
     | true=>
      rw[hno]at hN2 hr
      obtain⟨C,hC⟩:∃C,(x.fad.take k).contains s=C:=⟨_,rfl⟩
      rw[hC]at hr
      repeat' ((conv=>whnf);first|refine Or.inl ?_|apply oi|(apply fi<;>intro h)|refine ci hN2 (ai rfl trivial) ?_|refine⟨k,(ag s),rfl,aa hsk,?_⟩|refine⟨_,rfl,?_⟩|exact rfl)
      all_goals try exact⟨KO⟩
      all_goals try exact KX
      all_goals try(exfalso;(try simp_all[ah]);(try omega);done)
      conv=>whnf
      refine⟨{i:Nat // i≤k∧((x.fad.take k).drop i).contains s=C},fun q=>⟨[(1,.r (.c (.ptr (1,0,0) 0))),(3,tI .i64 (k:Int)),(4,tI .i64 (q.1:Int))],[((1,0,0),some (BT x))],[1]⟩,fun q=>k - q.1,⟨0,by omega,hC⟩,?_,?_⟩
      ·skip
       repeat' ((conv=>whnf);first|refine Or.inl ?_|apply oi|(apply fi<;>intro h)|refine⟨_,rfl,?_⟩|exact rfl)
       all_goals try exact⟨KO⟩
      intro⟨i,hik,hc⟩
      dsimp only at hik hc ⊢
      by_cases hil:i < k
      ·obtain⟨y,hy⟩:=af (l:=x.fad) (k:=i) (by omega)
       rw[zJ hil hy]at hc
       by_cases hys:s=y
       ·subst hys
        rw[beq_self_eq_true,Bool.true_or]at hc
        subst hc
        rw[if_neg (by simp)]at hr
        subst hr
        repeat' ((conv=>whnf);first|refine Or.inl ?_|apply oi|(apply fi<;>intro h)|refine⟨i,(ag s),rfl,aa hy,?_⟩|refine⟨k,(ag s),rfl,aa hsk,?_⟩|refine⟨_,rfl,?_⟩|exact rfl)
        all_goals try exact⟨KO⟩
        all_goals try exact KX
        all_goals try(exfalso;(try simp_all[ah]);(try omega);done)
       ·rw[beq_eq_false_iff_ne.2 hys,Bool.false_or]at hc
        repeat' ((conv=>whnf);first|refine Or.inl ?_|apply oi|(apply fi<;>intro h)|refine⟨i,(ag y),rfl,aa hy,?_⟩|refine⟨k,(ag s),rfl,aa hsk,?_⟩|refine⟨_,rfl,?_⟩|exact rfl)
        all_goals try exact⟨KO⟩
        all_goals try exact KX
        all_goals try(exfalso;apply hys;simp_all;done)
        conv=>whnf
        refine⟨⟨i+1,by omega,hc⟩,?_,KD⟩
        repeat' ((conv=>whnf);first|refine Or.inl ?_|apply oi|(apply fi<;>intro h)|refine⟨_,rfl,?_⟩|exact rfl)
        all_goals try exact⟨KO⟩
        all_goals try exact⟨K4⟩
      ·rw[List.drop_eq_nil_of_le (by simp;omega)]at hc
       have hc:false=C:=hc
       subst hc
       rw[if_pos ⟨rfl,rfl⟩]at hr
       repeat' ((conv=>whnf);first|refine Or.inl ?_|apply oi|(apply fi<;>intro h)|refine⟨_,rfl,?_⟩|exact rfl)
       all_goals try exact⟨KO⟩
       all_goals try exact KX
       conv=>whnf
       refine⟨⟨k+1,by omega,hr⟩,?_,KD⟩
       repeat' ((conv=>whnf);first|refine Or.inl ?_|apply oi|(apply fi<;>intro h)|refine⟨_,rfl,?_⟩|exact rfl)
       all_goals try exact⟨KO⟩
       all_goals try exact⟨K4⟩
    ·rw[show x.fad.length - k=0 by omega]at hr
     have hr:true=A:=hr
     subst hr
     repeat' ((conv=>whnf);first|refine Or.inl ?_|apply oi|(apply fi<;>intro h)|refine ci hN (ai rfl trivial) ?_|refine ci hH (ai rfl trivial) ?_|refine ci hE (ai rfl trivial) ?_|refine⟨_,rfl,?_⟩|exact rfl)
     all_goals try exact⟨KO⟩
     all_goals try exact KX
     all_goals try(exfalso;(try simp_all[ah]);(try omega);done)
     all_goals(refine⟨congrArg Tr.bool ?_⟩;simp_all;(try exact yp _))
   ·rw[AL hk h0]
    generalize cC x.fab=b2 at *
    generalize ba x.fac=b5 at *
    generalize cz x.faa=b4 at *
    repeat' ((conv=>whnf);first|refine Or.inl ?_|apply oi|(apply fi<;>intro h)|refine ci hB (ai rfl (ai rfl (ai rfl trivial))) ?_|refine⟨_,rfl,?_⟩|exact rfl)
    all_goals try exact⟨KO⟩
    all_goals try exact KX
    conv=>whnf
    refine⟨Unit,fun q=>⟨[(1,.r (.c (.ptr (1,0,0) 0))),(3,tI .i64 0)],[((1,0,0),some (BT x))],[1]⟩,fun q=>0,(),?_,?_⟩
    ·skip
     repeat' ((conv=>whnf);first|refine Or.inl ?_|apply oi|(apply fi<;>intro h)|refine⟨_,rfl,?_⟩|exact rfl)
     all_goals try exact⟨KO⟩
    intro q
    dsimp only
    by_cases hlt:0 < x.fad.length
    ·obtain⟨s,hsk⟩:=af hlt
     have hN2:=eW s (by have:=h3 s (List.mem_of_getElem? hsk);omega)
     rw[show(x.fad.length==0)=false by rw[beq_eq_false_iff_ne];omega]
     repeat' ((conv=>whnf);first|refine Or.inl ?_|apply oi|(apply fi<;>intro h)|refine ci hN2 (ai rfl trivial) ?_|refine⟨0,(ag s),rfl,aa hsk,?_⟩|refine⟨_,rfl,?_⟩|exact rfl)
     all_goals try exact⟨KO⟩
     all_goals try exact KX
     all_goals try(exfalso;(try simp_all[ah]);(try omega);done)
     all_goals try(exfalso;simp_all;done)
    ·have hz:x.fad.length=0:=by omega
     rw[show(x.fad.length==0)=true by rw[hz];rfl]
     rw[hz]at hl1
     repeat' ((conv=>whnf);first|refine Or.inl ?_|apply oi|(apply fi<;>intro h)|refine ci hN (ai rfl trivial) ?_|refine ci hH (ai rfl trivial) ?_|refine ci hE (ai rfl trivial) ?_|refine⟨_,rfl,?_⟩|exact rfl)
     all_goals try exact⟨KO⟩
     all_goals try(exfalso;simp_all;done)
     all_goals(refine⟨congrArg Tr.bool ?_⟩;simp_all;(try exact yp _);(try(rw[Bool.eq_iff_iff];simp;omega)))
  ·rw[po (by omega)]
   repeat' ((conv=>whnf);first|refine Or.inl ?_|apply oi|(apply fi<;>intro h)|refine ci hB (ai rfl (ai rfl (ai rfl trivial))) ?_|refine⟨_,rfl,?_⟩|exact rfl)
   all_goals try exact⟨KO⟩
   all_goals try exact KX
end Go.Proofs.YtoglejgmjeojoaaGreat
