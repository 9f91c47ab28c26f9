import Derived.Test.YtoglejgmjeojoaaGreatGd
import Derived.Test.YtoglejgmjeojoaaGreatRows
namespace Go.Sim
theorem K1 {p:Prop}(h:p:=by simp;omega):p:=h
theorem K2 {k:IntKind}{a b:Int}(h:a=b:=by(try simp(disch:=omega)only[IntWalk.i64_in])):Tr.int k a=Tr.int k b:=congrArg (Tr.int k) h
theorem K3 {p:Prop}(h:False:=by simp at *;omega):p:=h.elim
theorem K4 {p:Prop}(h:p:=by dsimp only;rw[IntWalk.i64_in _ (by omega)];rfl):p:=h
theorem K5 {p:Prop}(h:False:=by simp(disch:=omega)only[IntWalk.i64_in]at *;simp only[beq_iff_eq]at *;omega):p:=h.elim
theorem K6 {p:Prop}(h:False:=by simp only[beq_iff_eq]at *;omega):p:=h.elim
theorem K7 {p:Prop}(h:p:=by simp <;> omega):p:=h
theorem K8 {p:Prop}(h:p:=by rw[IntWalk.i64_in _ (by omega)];omega):p:=h
theorem K9 {p:Prop}(h:p:=by rw[List.length_append];omega):p:=h
theorem KD {p:Prop}(h:p:=by dsimp only;omega):p:=h
end Go.Sim
namespace Go.Proofs.YtoglejgmjeojoaaGreat
open Go.Sim
def Γ:Env:=[
 (1,{size:=1,bytes:=8,agg:=false,zero:=[AC.opq]}),
 (2,{size:=1,bytes:=8,agg:=false,zero:=[AC.t (Tr.int Go.IntKind.i64 (Int.ofNat 0))],kind:=some Go.IntKind.i64}),
 (3,{size:=1,bytes:=8,agg:=false,zero:=[AC.t (Tr.int Go.IntKind.i64 (Int.ofNat 0))],kind:=some Go.IntKind.i64}),
 (4,{size:=1,bytes:=1,agg:=false,zero:=[AC.t (Tr.bool false)],bool:=true}),
 (5,{size:=1,bytes:=1,agg:=false,zero:=[AC.t (Tr.int Go.IntKind.u8 (Int.ofNat 0))],kind:=some Go.IntKind.u8}),
 (6,{size:=1,bytes:=1,agg:=false,zero:=[AC.t (Tr.int Go.IntKind.u8 (Int.ofNat 0))],kind:=some Go.IntKind.u8}),
 (7,{size:=4,bytes:=24,agg:=true,zero:=[AC.t (Tr.int Go.IntKind.i64 (Int.ofNat 0)),AC.t (Tr.int Go.IntKind.i64 (Int.ofNat 0)),AC.t (Tr.bool false),AC.t (Tr.int Go.IntKind.u8 (Int.ofNat 0))],fields:=[(0,1,2),(1,1,3),(2,1,4),(3,1,6)]}),
 (8,{size:=4,bytes:=24,agg:=true,zero:=[AC.t (Tr.int Go.IntKind.i64 (Int.ofNat 0)),AC.t (Tr.int Go.IntKind.i64 (Int.ofNat 0)),AC.t (Tr.bool false),AC.t (Tr.int Go.IntKind.u8 (Int.ofNat 0))],fields:=[(0,1,2),(1,1,3),(2,1,4),(3,1,6)]}),
 (9,{size:=1,bytes:=16,agg:=false,zero:=[AC.t (Tr.str [])],str:=true}),
 (10,{size:=1,bytes:=16,agg:=false,zero:=[AC.t (Tr.str [])],str:=true}),
 (11,{size:=1,bytes:=16,agg:=false,zero:=[AC.t (Tr.str [])],str:=true}),
 (12,{size:=1,bytes:=8,agg:=false,zero:=[AC.t (Tr.int Go.IntKind.u64 (Int.ofNat 0))],kind:=some Go.IntKind.u64}),
 (13,{size:=2,bytes:=24,agg:=true,zero:=[AC.t (Tr.str []),AC.t (Tr.int Go.IntKind.u64 (Int.ofNat 0))],fields:=[(0,1,9),(1,1,12)]}),
 (14,{size:=2,bytes:=24,agg:=true,zero:=[AC.t (Tr.str []),AC.t (Tr.int Go.IntKind.u64 (Int.ofNat 0))],fields:=[(0,1,9),(1,1,12)]}),
 (15,{size:=1,bytes:=8,agg:=false,zero:=[AC.nilp]}),
 (16,{size:=1,bytes:=8,agg:=false,zero:=[AC.nilp]}),
 (17,{size:=1,bytes:=8,agg:=false,zero:=[AC.nilp]}),
 (18,{size:=1,bytes:=8,agg:=true,zero:=[AC.nilp],fields:=[(0,1,17)]}),
 (19,{size:=1,bytes:=8,agg:=true,zero:=[AC.nilp],fields:=[(0,1,17)]}),
 (20,{size:=1,bytes:=16,agg:=false,zero:=[AC.opq]}),
 (21,{size:=1,bytes:=4,agg:=false,zero:=[AC.t (Tr.int Go.IntKind.i32 (Int.ofNat 0))],kind:=some Go.IntKind.i32}),
 (22,{size:=1,bytes:=24,agg:=false,zero:=[AC.nils 0],elem:=some 5}),
 (23,{size:=1,bytes:=8,agg:=false,zero:=[AC.opq]}),
 (24,{size:=1,bytes:=24,agg:=false,zero:=[AC.nils 0],elem:=some 138}),
 (25,{size:=4,bytes:=24,agg:=true,zero:=[AC.t (Tr.int Go.IntKind.i64 (Int.ofNat 0)),AC.t (Tr.int Go.IntKind.i64 (Int.ofNat 0)),AC.t (Tr.bool false),AC.t (Tr.bool false)],fields:=[(0,1,3),(1,1,3),(2,1,4),(3,1,4)]}),
 (26,{size:=4,bytes:=24,agg:=true,zero:=[AC.t (Tr.int Go.IntKind.i64 (Int.ofNat 0)),AC.t (Tr.int Go.IntKind.i64 (Int.ofNat 0)),AC.t (Tr.bool false),AC.t (Tr.bool false)],fields:=[(0,1,3),(1,1,3),(2,1,4),(3,1,4)]}),
 (27,{size:=1,bytes:=24,agg:=false,zero:=[AC.nils 0],elem:=some 93}),
 (28,{size:=1,bytes:=24,agg:=false,zero:=[AC.nils 0],elem:=some 3}),
 (29,{size:=3,bytes:=72,agg:=true,zero:=[AC.nils 0,AC.nils 0,AC.nils 0],fields:=[(0,1,27),(1,1,28),(2,1,28)]}),
 (30,{size:=3,bytes:=72,agg:=true,zero:=[AC.nils 0,AC.nils 0,AC.nils 0],fields:=[(0,1,27),(1,1,28),(2,1,28)]}),
 (32,{size:=1,bytes:=8,agg:=false,zero:=[AC.opq]}),
 (33,{size:=1,bytes:=24,agg:=false,zero:=[AC.nils 0],elem:=some 118}),
 (34,{size:=1,bytes:=8,agg:=false,zero:=[AC.opq]}),
 (35,{size:=1,bytes:=24,agg:=false,zero:=[AC.nils 0],elem:=some 103}),
 (36,{size:=1,bytes:=8,agg:=false,zero:=[AC.opq]}),
 (37,{size:=1,bytes:=24,agg:=false,zero:=[AC.nils 0],elem:=some 33}),
 (38,{size:=7,bytes:=88,agg:=true,zero:=[AC.t (Tr.int Go.IntKind.i64 (Int.ofNat 0)),AC.t (Tr.int Go.IntKind.i64 (Int.ofNat 0)),AC.t (Tr.int Go.IntKind.i64 (Int.ofNat 0)),AC.nils 0,AC.nils 0,AC.t (Tr.int Go.IntKind.i64 (Int.ofNat 0)),AC.t (Tr.int Go.IntKind.i64 (Int.ofNat 0))],fields:=[(0,1,3),(1,1,3),(2,1,3),(3,1,28),(4,1,28),(5,1,3),(6,1,3)]}),
 (39,{size:=7,bytes:=88,agg:=true,zero:=[AC.t (Tr.int Go.IntKind.i64 (Int.ofNat 0)),AC.t (Tr.int Go.IntKind.i64 (Int.ofNat 0)),AC.t (Tr.int Go.IntKind.i64 (Int.ofNat 0)),AC.nils 0,AC.nils 0,AC.t (Tr.int Go.IntKind.i64 (Int.ofNat 0)),AC.t (Tr.int Go.IntKind.i64 (Int.ofNat 0))],fields:=[(0,1,3),(1,1,3),(2,1,3),(3,1,28),(4,1,28),(5,1,3),(6,1,3)]}),
 (41,{size:=1,bytes:=8,agg:=false,zero:=[AC.opq]}),
 (43,{size:=1,bytes:=8,agg:=false,zero:=[AC.opq]}),
 (44,{size:=4,bytes:=48,agg:=true,zero:=[AC.t (Tr.int Go.IntKind.i64 (Int.ofNat 0)),AC.t (Tr.int Go.IntKind.i64 (Int.ofNat 0)),AC.t (Tr.int Go.IntKind.i64 (Int.ofNat 0)),AC.nils 0],fields:=[(0,1,3),(1,1,3),(2,1,3),(3,1,28)]}),
 (45,{size:=4,bytes:=48,agg:=true,zero:=[AC.t (Tr.int Go.IntKind.i64 (Int.ofNat 0)),AC.t (Tr.int Go.IntKind.i64 (Int.ofNat 0)),AC.t (Tr.int Go.IntKind.i64 (Int.ofNat 0)),AC.nils 0],fields:=[(0,1,3),(1,1,3),(2,1,3),(3,1,28)]}),
 (46,{size:=1,bytes:=8,agg:=false,zero:=[AC.opq]}),
 (47,{size:=2,bytes:=16,agg:=true,zero:=[AC.t (Tr.int Go.IntKind.i64 (Int.ofNat 0)),AC.t (Tr.int Go.IntKind.i64 (Int.ofNat 0))],fields:=[(0,1,3),(1,1,3)]}),
 (48,{size:=2,bytes:=16,agg:=true,zero:=[AC.t (Tr.int Go.IntKind.i64 (Int.ofNat 0)),AC.t (Tr.int Go.IntKind.i64 (Int.ofNat 0))],fields:=[(0,1,3),(1,1,3)]}),
 (50,{size:=1,bytes:=8,agg:=false,zero:=[AC.opq]}),
 (51,{size:=1,bytes:=8,agg:=false,zero:=[AC.opq]}),
 (53,{size:=1,bytes:=8,agg:=false,zero:=[AC.opq]}),
 (54,{size:=1,bytes:=8,agg:=false,zero:=[AC.opq]}),
 (56,{size:=1,bytes:=8,agg:=false,zero:=[AC.opq]}),
 (57,{size:=1,bytes:=8,agg:=false,zero:=[AC.opq]}),
 (58,{size:=1,bytes:=8,agg:=false,zero:=[AC.opq]}),
 (59,{size:=1,bytes:=24,agg:=false,zero:=[AC.nils 0],elem:=some 135}),
 (60,{size:=4,bytes:=24,agg:=true,zero:=[AC.t (Tr.int Go.IntKind.i64 (Int.ofNat 0)),AC.t (Tr.int Go.IntKind.i64 (Int.ofNat 0)),AC.t (Tr.bool false),AC.t (Tr.bool false)],fields:=[(0,1,3),(1,1,3),(2,1,4),(3,1,4)]}),
 (61,{size:=1,bytes:=8,agg:=false,zero:=[AC.opq]}),
 (62,{size:=1,bytes:=8,agg:=false,zero:=[AC.opq]}),
 (63,{size:=1,bytes:=8,agg:=false,zero:=[AC.opq]}),
 (64,{size:=1,bytes:=8,agg:=false,zero:=[AC.opq]}),
 (65,{size:=1,bytes:=8,agg:=false,zero:=[AC.opq]}),
 (66,{size:=1,bytes:=8,agg:=false,zero:=[AC.opq]}),
 (67,{size:=1,bytes:=8,agg:=false,zero:=[AC.opq]}),
 (68,{size:=1,bytes:=8,agg:=false,zero:=[AC.opq]}),
 (70,{size:=1,bytes:=8,agg:=false,zero:=[AC.opq]}),
 (71,{size:=1,bytes:=8,agg:=false,zero:=[AC.opq]}),
 (72,{size:=1,bytes:=8,agg:=false,zero:=[AC.opq]}),
 (73,{size:=1,bytes:=8,agg:=false,zero:=[AC.opq]}),
 (75,{size:=1,bytes:=8,agg:=false,zero:=[AC.opq]}),
 (76,{size:=1,bytes:=24,agg:=false,zero:=[AC.nils 0],elem:=some 28}),
 (77,{size:=4,bytes:=64,agg:=true,zero:=[AC.nils 0,AC.nils 0,AC.t (Tr.int Go.IntKind.i64 (Int.ofNat 0)),AC.t (Tr.int Go.IntKind.i64 (Int.ofNat 0))],fields:=[(0,1,28),(1,1,76),(2,1,3),(3,1,3)]}),
 (78,{size:=4,bytes:=64,agg:=true,zero:=[AC.nils 0,AC.nils 0,AC.t (Tr.int Go.IntKind.i64 (Int.ofNat 0)),AC.t (Tr.int Go.IntKind.i64 (Int.ofNat 0))],fields:=[(0,1,28),(1,1,76),(2,1,3),(3,1,3)]}),
 (79,{size:=1,bytes:=8,agg:=false,zero:=[AC.opq]}),
 (81,{size:=1,bytes:=8,agg:=false,zero:=[AC.opq]}),
 (82,{size:=1,bytes:=24,agg:=false,zero:=[AC.nils 0],elem:=some 111}),
 (83,{size:=1,bytes:=24,agg:=false,zero:=[AC.nils 0],elem:=some 186}),
 (84,{size:=1,bytes:=24,agg:=false,zero:=[AC.nils 0],elem:=some 192}),
 (85,{size:=5,bytes:=104,agg:=true,zero:=[AC.t (Tr.int Go.IntKind.i64 (Int.ofNat 0)),AC.nils 0,AC.nils 0,AC.nils 0,AC.nils 0],fields:=[(0,1,3),(1,1,82),(2,1,33),(3,1,83),(4,1,84)]}),
 (86,{size:=5,bytes:=104,agg:=true,zero:=[AC.t (Tr.int Go.IntKind.i64 (Int.ofNat 0)),AC.nils 0,AC.nils 0,AC.nils 0,AC.nils 0],fields:=[(0,1,3),(1,1,82),(2,1,33),(3,1,83),(4,1,84)]}),
 (87,{size:=1,bytes:=8,agg:=false,zero:=[AC.opq]}),
 (88,{size:=1,bytes:=8,agg:=false,zero:=[AC.opq]}),
 (90,{size:=1,bytes:=8,agg:=false,zero:=[AC.opq]}),
 (91,{size:=1,bytes:=8,agg:=false,zero:=[AC.opq]}),
 (92,{size:=2,bytes:=40,agg:=true,zero:=[AC.t (Tr.str []),AC.nils 0],fields:=[(0,1,9),(1,1,82)]}),
 (93,{size:=2,bytes:=40,agg:=true,zero:=[AC.t (Tr.str []),AC.nils 0],fields:=[(0,1,9),(1,1,82)]}),
 (94,{size:=1,bytes:=8,agg:=false,zero:=[AC.opq]}),
 (95,{size:=1,bytes:=8,agg:=false,zero:=[AC.opq]}),
 (96,{size:=1,bytes:=8,agg:=false,zero:=[AC.opq]}),
 (97,{size:=1,bytes:=8,agg:=false,zero:=[AC.opq]}),
 (98,{size:=1,bytes:=8,agg:=false,zero:=[AC.opq]}),
 (99,{size:=1,bytes:=8,agg:=false,zero:=[AC.opq]}),
 (100,{size:=7,bytes:=72,agg:=true,zero:=[AC.t (Tr.int Go.IntKind.i64 (Int.ofNat 0)),AC.t (Tr.int Go.IntKind.i64 (Int.ofNat 0)),AC.t (Tr.int Go.IntKind.i64 (Int.ofNat 0)),AC.t (Tr.bool false),AC.nils 0,AC.t (Tr.int Go.IntKind.i64 (Int.ofNat 0)),AC.t (Tr.bool false)],fields:=[(0,2,48),(2,1,3),(3,1,4),(4,1,28),(5,1,3),(6,1,4)]}),
 (101,{size:=7,bytes:=72,agg:=true,zero:=[AC.t (Tr.int Go.IntKind.i64 (Int.ofNat 0)),AC.t (Tr.int Go.IntKind.i64 (Int.ofNat 0)),AC.t (Tr.int Go.IntKind.i64 (Int.ofNat 0)),AC.t (Tr.bool false),AC.nils 0,AC.t (Tr.int Go.IntKind.i64 (Int.ofNat 0)),AC.t (Tr.bool false)],fields:=[(0,2,48),(2,1,3),(3,1,4),(4,1,28),(5,1,3),(6,1,4)]}),
 (102,{size:=8,bytes:=80,agg:=true,zero:=[AC.t (Tr.int Go.IntKind.i64 (Int.ofNat 0)),AC.t (Tr.int Go.IntKind.i64 (Int.ofNat 0)),AC.t (Tr.int Go.IntKind.i64 (Int.ofNat 0)),AC.t (Tr.int Go.IntKind.i64 (Int.ofNat 0)),AC.t (Tr.bool false),AC.nils 0,AC.t (Tr.int Go.IntKind.i64 (Int.ofNat 0)),AC.t (Tr.bool false)],fields:=[(0,1,3),(1,7,101)]}),
 (103,{size:=8,bytes:=80,agg:=true,zero:=[AC.t (Tr.int Go.IntKind.i64 (Int.ofNat 0)),AC.t (Tr.int Go.IntKind.i64 (Int.ofNat 0)),AC.t (Tr.int Go.IntKind.i64 (Int.ofNat 0)),AC.t (Tr.int Go.IntKind.i64 (Int.ofNat 0)),AC.t (Tr.bool false),AC.nils 0,AC.t (Tr.int Go.IntKind.i64 (Int.ofNat 0)),AC.t (Tr.bool false)],fields:=[(0,1,3),(1,7,101)]}),
 (104,{size:=1,bytes:=24,agg:=false,zero:=[AC.nils 0],elem:=some 108}),
 (106,{size:=1,bytes:=8,agg:=false,zero:=[AC.opq]}),
 (107,{size:=2,bytes:=24,agg:=true,zero:=[AC.t (Tr.str []),AC.t (Tr.int Go.IntKind.i64 (Int.ofNat 0))],fields:=[(0,1,9),(1,1,3)]}),
 (108,{size:=2,bytes:=24,agg:=true,zero:=[AC.t (Tr.str []),AC.t (Tr.int Go.IntKind.i64 (Int.ofNat 0))],fields:=[(0,1,9),(1,1,3)]}),
 (109,{size:=1,bytes:=8,agg:=false,zero:=[AC.opq]}),
 (110,{size:=3,bytes:=32,agg:=true,zero:=[AC.t (Tr.str []),AC.t (Tr.int Go.IntKind.i64 (Int.ofNat 0)),AC.t (Tr.int Go.IntKind.i64 (Int.ofNat 0))],fields:=[(0,1,9),(1,1,3),(2,1,3)]}),
 (111,{size:=3,bytes:=32,agg:=true,zero:=[AC.t (Tr.str []),AC.t (Tr.int Go.IntKind.i64 (Int.ofNat 0)),AC.t (Tr.int Go.IntKind.i64 (Int.ofNat 0))],fields:=[(0,1,9),(1,1,3),(2,1,3)]}),
 (112,{size:=1,bytes:=8,agg:=false,zero:=[AC.opq]}),
 (113,{size:=1,bytes:=8,agg:=false,zero:=[AC.nilp]}),
 (114,{size:=1,bytes:=8,agg:=false,zero:=[AC.opq]}),
 (115,{size:=1,bytes:=8,agg:=false,zero:=[AC.opq]}),
 (116,{size:=1,bytes:=8,agg:=false,zero:=[AC.opq]}),
 (117,{size:=4,bytes:=32,agg:=true,zero:=[AC.t (Tr.int Go.IntKind.i64 (Int.ofNat 0)),AC.t (Tr.int Go.IntKind.i64 (Int.ofNat 0)),AC.t (Tr.bool false),AC.t (Tr.int Go.IntKind.i64 (Int.ofNat 0))],fields:=[(0,1,3),(1,1,3),(2,1,4),(3,1,3)]}),
 (118,{size:=4,bytes:=32,agg:=true,zero:=[AC.t (Tr.int Go.IntKind.i64 (Int.ofNat 0)),AC.t (Tr.int Go.IntKind.i64 (Int.ofNat 0)),AC.t (Tr.bool false),AC.t (Tr.int Go.IntKind.i64 (Int.ofNat 0))],fields:=[(0,1,3),(1,1,3),(2,1,4),(3,1,3)]}),
 (119,{size:=1,bytes:=8,agg:=false,zero:=[AC.opq]}),
 (120,{size:=1,bytes:=8,agg:=false,zero:=[AC.opq]}),
 (121,{size:=1,bytes:=8,agg:=false,zero:=[AC.opq]}),
 (122,{size:=1,bytes:=8,agg:=false,zero:=[AC.opq]}),
 (123,{size:=1,bytes:=24,agg:=false,zero:=[AC.nils 0],elem:=some 101}),
 (124,{size:=1,bytes:=8,agg:=false,zero:=[AC.opq]}),
 (125,{size:=1,bytes:=8,agg:=false,zero:=[AC.opq]}),
 (127,{size:=1,bytes:=8,agg:=false,zero:=[AC.opq]}),
 (128,{size:=1,bytes:=8,agg:=false,zero:=[AC.opq]}),
 (129,{size:=1,bytes:=8,agg:=false,zero:=[AC.opq]}),
 (130,{size:=1,bytes:=8,agg:=false,zero:=[AC.opq]}),
 (131,{size:=1,bytes:=8,agg:=false,zero:=[AC.opq]}),
 (132,{size:=1,bytes:=24,agg:=false,zero:=[AC.nils 0],elem:=some 9}),
 (133,{size:=1,bytes:=24,agg:=false,zero:=[AC.nils 0],elem:=some 265}),
 (134,{size:=4,bytes:=72,agg:=true,zero:=[AC.t (Tr.int Go.IntKind.i64 (Int.ofNat 0)),AC.t (Tr.str []),AC.nils 0,AC.nils 0],fields:=[(0,1,3),(1,1,9),(2,1,132),(3,1,133)]}),
 (135,{size:=4,bytes:=72,agg:=true,zero:=[AC.t (Tr.int Go.IntKind.i64 (Int.ofNat 0)),AC.t (Tr.str []),AC.nils 0,AC.nils 0],fields:=[(0,1,3),(1,1,9),(2,1,132),(3,1,133)]}),
 (136,{size:=1,bytes:=24,agg:=false,zero:=[AC.nils 0],elem:=some 221}),
 (137,{size:=4,bytes:=72,agg:=true,zero:=[AC.t (Tr.int Go.IntKind.i64 (Int.ofNat 0)),AC.t (Tr.str []),AC.nils 0,AC.nils 0],fields:=[(0,1,3),(1,1,9),(2,1,132),(3,1,136)]}),
 (138,{size:=4,bytes:=72,agg:=true,zero:=[AC.t (Tr.int Go.IntKind.i64 (Int.ofNat 0)),AC.t (Tr.str []),AC.nils 0,AC.nils 0],fields:=[(0,1,3),(1,1,9),(2,1,132),(3,1,136)]}),
 (139,{size:=1,bytes:=8,agg:=false,zero:=[AC.opq]}),
 (140,{size:=1,bytes:=24,agg:=false,zero:=[AC.nils 0],elem:=some 35}),
 (142,{size:=1,bytes:=8,agg:=false,zero:=[AC.opq]}),
 (143,{size:=1,bytes:=8,agg:=false,zero:=[AC.opq]}),
 (144,{size:=1,bytes:=8,agg:=false,zero:=[AC.opq]}),
 (145,{size:=1,bytes:=8,agg:=false,zero:=[AC.opq]}),
 (146,{size:=1,bytes:=8,agg:=false,zero:=[AC.opq]}),
 (147,{size:=1,bytes:=8,agg:=false,zero:=[AC.opq]}),
 (148,{size:=1,bytes:=8,agg:=false,zero:=[AC.opq]}),
 (149,{size:=1,bytes:=8,agg:=false,zero:=[AC.opq]}),
 (150,{size:=1,bytes:=8,agg:=false,zero:=[AC.opq]}),
 (151,{size:=1,bytes:=8,agg:=false,zero:=[AC.opq]}),
 (152,{size:=1,bytes:=8,agg:=false,zero:=[AC.opq]}),
 (153,{size:=1,bytes:=8,agg:=false,zero:=[AC.nilp]}),
 (154,{size:=7,bytes:=120,agg:=true,zero:=[AC.nils 0,AC.t (Tr.int Go.IntKind.i64 (Int.ofNat 0)),AC.nils 0,AC.nils 0,AC.t (Tr.int Go.IntKind.i64 (Int.ofNat 0)),AC.t (Tr.int Go.IntKind.i64 (Int.ofNat 0)),AC.nils 0],fields:=[(0,1,24),(1,1,3),(2,4,78),(6,1,28)]}),
 (155,{size:=7,bytes:=120,agg:=true,zero:=[AC.nils 0,AC.t (Tr.int Go.IntKind.i64 (Int.ofNat 0)),AC.nils 0,AC.nils 0,AC.t (Tr.int Go.IntKind.i64 (Int.ofNat 0)),AC.t (Tr.int Go.IntKind.i64 (Int.ofNat 0)),AC.nils 0],fields:=[(0,1,24),(1,1,3),(2,4,78),(6,1,28)]}),
 (156,{size:=1,bytes:=8,agg:=false,zero:=[AC.opq]}),
 (157,{size:=1,bytes:=8,agg:=false,zero:=[AC.opq]}),
 (158,{size:=1,bytes:=8,agg:=false,zero:=[AC.opq]}),
 (159,{size:=1,bytes:=8,agg:=false,zero:=[AC.opq]}),
 (160,{size:=1,bytes:=8,agg:=false,zero:=[AC.opq]}),
 (161,{size:=1,bytes:=8,agg:=false,zero:=[AC.opq]}),
 (162,{size:=1,bytes:=8,agg:=false,zero:=[AC.opq]}),
 (163,{size:=1,bytes:=8,agg:=false,zero:=[AC.opq]}),
 (164,{size:=1,bytes:=8,agg:=false,zero:=[AC.opq]}),
 (165,{size:=1,bytes:=8,agg:=false,zero:=[AC.opq]}),
 (166,{size:=1,bytes:=8,agg:=false,zero:=[AC.opq]}),
 (167,{size:=1,bytes:=8,agg:=false,zero:=[AC.opq]}),
 (168,{size:=1,bytes:=8,agg:=false,zero:=[AC.opq]}),
 (169,{size:=1,bytes:=8,agg:=false,zero:=[AC.nilp]}),
 (170,{size:=3,bytes:=32,agg:=true,zero:=[AC.t (Tr.str []),AC.t (Tr.int Go.IntKind.i64 (Int.ofNat 0)),AC.t (Tr.bool false)],fields:=[(0,1,9),(1,1,3),(2,1,4)]}),
 (171,{size:=3,bytes:=32,agg:=true,zero:=[AC.t (Tr.str []),AC.t (Tr.int Go.IntKind.i64 (Int.ofNat 0)),AC.t (Tr.bool false)],fields:=[(0,1,9),(1,1,3),(2,1,4)]}),
 (172,{size:=1,bytes:=8,agg:=false,zero:=[AC.opq]}),
 (173,{size:=1,bytes:=8,agg:=false,zero:=[AC.opq]}),
 (174,{size:=1,bytes:=8,agg:=false,zero:=[AC.opq]}),
 (176,{size:=1,bytes:=8,agg:=false,zero:=[AC.opq]}),
 (178,{size:=1,bytes:=8,agg:=false,zero:=[AC.opq]}),
 (180,{size:=1,bytes:=8,agg:=false,zero:=[AC.opq]}),
 (181,{size:=1,bytes:=8,agg:=false,zero:=[AC.opq]}),
 (182,{size:=1,bytes:=8,agg:=false,zero:=[AC.opq]}),
 (183,{size:=1,bytes:=8,agg:=false,zero:=[AC.opq]}),
 (184,{size:=1,bytes:=8,agg:=false,zero:=[AC.opq]}),
 (185,{size:=3,bytes:=24,agg:=true,zero:=[AC.t (Tr.int Go.IntKind.i64 (Int.ofNat 0)),AC.t (Tr.int Go.IntKind.i64 (Int.ofNat 0)),AC.t (Tr.bool false)],fields:=[(0,1,3),(1,1,3),(2,1,4)]}),
 (186,{size:=3,bytes:=24,agg:=true,zero:=[AC.t (Tr.int Go.IntKind.i64 (Int.ofNat 0)),AC.t (Tr.int Go.IntKind.i64 (Int.ofNat 0)),AC.t (Tr.bool false)],fields:=[(0,1,3),(1,1,3),(2,1,4)]}),
 (187,{size:=1,bytes:=8,agg:=false,zero:=[AC.opq]}),
 (188,{size:=1,bytes:=8,agg:=false,zero:=[AC.opq]}),
 (189,{size:=1,bytes:=8,agg:=false,zero:=[AC.opq]}),
 (190,{size:=1,bytes:=8,agg:=false,zero:=[AC.opq]}),
 (191,{size:=5,bytes:=48,agg:=true,zero:=[AC.t (Tr.int Go.IntKind.i64 (Int.ofNat 0)),AC.t (Tr.int Go.IntKind.i64 (Int.ofNat 0)),AC.t (Tr.int Go.IntKind.i64 (Int.ofNat 0)),AC.t (Tr.int Go.IntKind.i64 (Int.ofNat 0)),AC.t (Tr.str [])],fields:=[(0,1,3),(1,1,3),(2,1,3),(3,1,3),(4,1,9)]}),
 (192,{size:=5,bytes:=48,agg:=true,zero:=[AC.t (Tr.int Go.IntKind.i64 (Int.ofNat 0)),AC.t (Tr.int Go.IntKind.i64 (Int.ofNat 0)),AC.t (Tr.int Go.IntKind.i64 (Int.ofNat 0)),AC.t (Tr.int Go.IntKind.i64 (Int.ofNat 0)),AC.t (Tr.str [])],fields:=[(0,1,3),(1,1,3),(2,1,3),(3,1,3),(4,1,9)]}),
 (193,{size:=1,bytes:=8,agg:=false,zero:=[AC.opq]}),
 (194,{size:=1,bytes:=8,agg:=false,zero:=[AC.opq]}),
 (195,{size:=3,bytes:=40,agg:=true,zero:=[AC.nils 0,AC.t (Tr.int Go.IntKind.i64 (Int.ofNat 0)),AC.t (Tr.int Go.IntKind.i64 (Int.ofNat 0))],fields:=[(0,1,22),(1,1,3),(2,1,3)]}),
 (196,{size:=3,bytes:=40,agg:=true,zero:=[AC.nils 0,AC.t (Tr.int Go.IntKind.i64 (Int.ofNat 0)),AC.t (Tr.int Go.IntKind.i64 (Int.ofNat 0))],fields:=[(0,1,22),(1,1,3),(2,1,3)]}),
 (197,{size:=1,bytes:=8,agg:=false,zero:=[AC.opq]}),
 (198,{size:=1,bytes:=8,agg:=false,zero:=[AC.opq]}),
 (200,{size:=1,bytes:=8,agg:=false,zero:=[AC.opq]}),
 (201,{size:=1,bytes:=8,agg:=false,zero:=[AC.opq]}),
 (203,{size:=1,bytes:=8,agg:=false,zero:=[AC.opq]}),
 (204,{size:=1,bytes:=8,agg:=false,zero:=[AC.opq]}),
 (205,{size:=1,bytes:=8,agg:=false,zero:=[AC.opq]}),
 (206,{size:=1,bytes:=8,agg:=false,zero:=[AC.opq]}),
 (207,{size:=1,bytes:=8,agg:=false,zero:=[AC.nilp]}),
 (208,{size:=8,bytes:=96,agg:=true,zero:=[AC.t (Tr.int Go.IntKind.i64 (Int.ofNat 0)),AC.t (Tr.int Go.IntKind.i64 (Int.ofNat 0)),AC.t (Tr.int Go.IntKind.i64 (Int.ofNat 0)),AC.nils 0,AC.nils 0,AC.t (Tr.int Go.IntKind.i64 (Int.ofNat 0)),AC.t (Tr.int Go.IntKind.i64 (Int.ofNat 0)),AC.t (Tr.bool false)],fields:=[(0,7,39),(7,1,4)]}),
 (209,{size:=8,bytes:=96,agg:=true,zero:=[AC.t (Tr.int Go.IntKind.i64 (Int.ofNat 0)),AC.t (Tr.int Go.IntKind.i64 (Int.ofNat 0)),AC.t (Tr.int Go.IntKind.i64 (Int.ofNat 0)),AC.nils 0,AC.nils 0,AC.t (Tr.int Go.IntKind.i64 (Int.ofNat 0)),AC.t (Tr.int Go.IntKind.i64 (Int.ofNat 0)),AC.t (Tr.bool false)],fields:=[(0,7,39),(7,1,4)]}),
 (210,{size:=1,bytes:=8,agg:=false,zero:=[AC.opq]}),
 (211,{size:=1,bytes:=8,agg:=false,zero:=[AC.opq]}),
 (212,{size:=1,bytes:=8,agg:=false,zero:=[AC.opq]}),
 (213,{size:=1,bytes:=8,agg:=false,zero:=[AC.opq]}),
 (214,{size:=1,bytes:=8,agg:=false,zero:=[AC.opq]}),
 (215,{size:=1,bytes:=8,agg:=false,zero:=[AC.opq]}),
 (216,{size:=1,bytes:=8,agg:=false,zero:=[AC.opq]}),
 (217,{size:=1,bytes:=8,agg:=false,zero:=[AC.opq]}),
 (218,{size:=1,bytes:=8,agg:=false,zero:=[AC.opq]}),
 (219,{size:=1,bytes:=8,agg:=false,zero:=[AC.opq]}),
 (220,{size:=3,bytes:=32,agg:=true,zero:=[AC.t (Tr.int Go.IntKind.i64 (Int.ofNat 0)),AC.t (Tr.int Go.IntKind.i64 (Int.ofNat 0)),AC.t (Tr.str [])],fields:=[(0,1,3),(1,1,3),(2,1,9)]}),
 (221,{size:=3,bytes:=32,agg:=true,zero:=[AC.t (Tr.int Go.IntKind.i64 (Int.ofNat 0)),AC.t (Tr.int Go.IntKind.i64 (Int.ofNat 0)),AC.t (Tr.str [])],fields:=[(0,1,3),(1,1,3),(2,1,9)]}),
 (222,{size:=1,bytes:=8,agg:=false,zero:=[AC.opq]}),
 (223,{size:=1,bytes:=8,agg:=false,zero:=[AC.opq]}),
 (224,{size:=1,bytes:=8,agg:=false,zero:=[AC.opq]}),
 (225,{size:=1,bytes:=8,agg:=false,zero:=[AC.opq]}),
 (226,{size:=1,bytes:=8,agg:=false,zero:=[AC.opq]}),
 (227,{size:=1,bytes:=8,agg:=false,zero:=[AC.opq]}),
 (228,{size:=1,bytes:=8,agg:=false,zero:=[AC.opq]}),
 (229,{size:=1,bytes:=8,agg:=false,zero:=[AC.opq]}),
 (230,{size:=1,bytes:=8,agg:=false,zero:=[AC.nilp]}),
 (231,{size:=1,bytes:=8,agg:=false,zero:=[AC.nilp]}),
 (232,{size:=2,bytes:=16,agg:=true,zero:=[AC.nilp,AC.t (Tr.bool false)],fields:=[(0,1,231),(1,1,4)]}),
 (233,{size:=2,bytes:=16,agg:=true,zero:=[AC.nilp,AC.t (Tr.bool false)],fields:=[(0,1,231),(1,1,4)]}),
 (234,{size:=1,bytes:=8,agg:=false,zero:=[AC.opq]}),
 (235,{size:=1,bytes:=8,agg:=false,zero:=[AC.opq]}),
 (236,{size:=1,bytes:=8,agg:=false,zero:=[AC.opq]}),
 (237,{size:=1,bytes:=8,agg:=false,zero:=[AC.opq]}),
 (238,{size:=1,bytes:=8,agg:=false,zero:=[AC.t (Tr.int Go.IntKind.u64 (Int.ofNat 0))],kind:=some Go.IntKind.u64}),
 (240,{size:=1,bytes:=8,agg:=false,zero:=[AC.opq]}),
 (241,{size:=1,bytes:=8,agg:=false,zero:=[AC.opq]}),
 (243,{size:=1,bytes:=8,agg:=false,zero:=[AC.opq]}),
 (245,{size:=1,bytes:=8,agg:=false,zero:=[AC.opq]}),
 (246,{size:=1,bytes:=8,agg:=false,zero:=[AC.opq]}),
 (247,{size:=1,bytes:=8,agg:=false,zero:=[AC.opq]}),
 (248,{size:=1,bytes:=8,agg:=false,zero:=[AC.opq]}),
 (249,{size:=1,bytes:=8,agg:=false,zero:=[AC.opq]}),
 (250,{size:=1,bytes:=8,agg:=false,zero:=[AC.nilp]}),
 (251,{size:=1,bytes:=24,agg:=false,zero:=[AC.nils 0],elem:=some 255}),
 (252,{size:=13,bytes:=144,agg:=true,zero:=[AC.nils 0,AC.t (Tr.int Go.IntKind.i64 (Int.ofNat 0)),AC.t (Tr.int Go.IntKind.i64 (Int.ofNat 0)),AC.t (Tr.bool false),AC.t (Tr.bool false),AC.t (Tr.bool false),AC.t (Tr.int Go.IntKind.i64 (Int.ofNat 0)),AC.t (Tr.int Go.IntKind.i64 (Int.ofNat 0)),AC.t (Tr.int Go.IntKind.i64 (Int.ofNat 0)),AC.t (Tr.int Go.IntKind.i64 (Int.ofNat 0)),AC.nils 0,AC.nils 0,AC.t (Tr.bool false)],fields:=[(0,1,24),(1,4,26),(5,1,4),(6,1,3),(7,1,3),(8,1,3),(9,1,3),(10,1,123),(11,1,251),(12,1,4)]}),
 (253,{size:=13,bytes:=144,agg:=true,zero:=[AC.nils 0,AC.t (Tr.int Go.IntKind.i64 (Int.ofNat 0)),AC.t (Tr.int Go.IntKind.i64 (Int.ofNat 0)),AC.t (Tr.bool false),AC.t (Tr.bool false),AC.t (Tr.bool false),AC.t (Tr.int Go.IntKind.i64 (Int.ofNat 0)),AC.t (Tr.int Go.IntKind.i64 (Int.ofNat 0)),AC.t (Tr.int Go.IntKind.i64 (Int.ofNat 0)),AC.t (Tr.int Go.IntKind.i64 (Int.ofNat 0)),AC.nils 0,AC.nils 0,AC.t (Tr.bool false)],fields:=[(0,1,24),(1,4,26),(5,1,4),(6,1,3),(7,1,3),(8,1,3),(9,1,3),(10,1,123),(11,1,251),(12,1,4)]}),
 (254,{size:=6,bytes:=96,agg:=true,zero:=[AC.t (Tr.int Go.IntKind.i64 (Int.ofNat 0)),AC.nils 0,AC.nils 0,AC.t (Tr.int Go.IntKind.i64 (Int.ofNat 0)),AC.t (Tr.bool false),AC.nils 0],fields:=[(0,1,3),(1,1,28),(2,1,132),(3,1,3),(4,1,4),(5,1,28)]}),
 (255,{size:=6,bytes:=96,agg:=true,zero:=[AC.t (Tr.int Go.IntKind.i64 (Int.ofNat 0)),AC.nils 0,AC.nils 0,AC.t (Tr.int Go.IntKind.i64 (Int.ofNat 0)),AC.t (Tr.bool false),AC.nils 0],fields:=[(0,1,3),(1,1,28),(2,1,132),(3,1,3),(4,1,4),(5,1,28)]}),
 (256,{size:=1,bytes:=8,agg:=false,zero:=[AC.opq]}),
 (257,{size:=1,bytes:=24,agg:=false,zero:=[AC.nils 0],elem:=some 48}),
 (259,{size:=1,bytes:=8,agg:=false,zero:=[AC.opq]}),
 (260,{size:=1,bytes:=8,agg:=false,zero:=[AC.opq]}),
 (261,{size:=1,bytes:=8,agg:=false,zero:=[AC.opq]}),
 (262,{size:=1,bytes:=8,agg:=false,zero:=[AC.opq]}),
 (263,{size:=1,bytes:=8,agg:=false,zero:=[AC.opq]}),
 (264,{size:=1,bytes:=8,agg:=false,zero:=[AC.opq]}),
 (265,{size:=3,bytes:=32,agg:=true,zero:=[AC.t (Tr.int Go.IntKind.i64 (Int.ofNat 0)),AC.t (Tr.int Go.IntKind.i64 (Int.ofNat 0)),AC.t (Tr.str [])],fields:=[(0,1,3),(1,1,3),(2,1,9)]}),
 (266,{size:=1,bytes:=8,agg:=false,zero:=[AC.opq]}),
 (267,{size:=1,bytes:=8,agg:=false,zero:=[AC.opq]}),
 (268,{size:=1,bytes:=8,agg:=false,zero:=[AC.opq]}),
 (269,{size:=1,bytes:=8,agg:=false,zero:=[AC.opq]}),
 (270,{size:=1,bytes:=8,agg:=false,zero:=[AC.opq]}),
 (271,{size:=1,bytes:=8,agg:=false,zero:=[AC.opq]}),
 (272,{size:=1,bytes:=8,agg:=false,zero:=[AC.nilp]}),
 (273,{size:=4,bytes:=80,agg:=true,zero:=[AC.nilp,AC.nils 0,AC.nils 0,AC.nils 0],fields:=[(0,1,113),(1,1,132),(2,1,132),(3,1,28)]}),
 (274,{size:=4,bytes:=80,agg:=true,zero:=[AC.nilp,AC.nils 0,AC.nils 0,AC.nils 0],fields:=[(0,1,113),(1,1,132),(2,1,132),(3,1,28)]}),
 (275,{size:=1,bytes:=8,agg:=false,zero:=[AC.opq]}),
 (276,{size:=1,bytes:=8,agg:=false,zero:=[AC.opq]}),
 (277,{size:=1,bytes:=8,agg:=false,zero:=[AC.opq]}),
 (278,{size:=1,bytes:=8,agg:=false,zero:=[AC.opq]}),
 (279,{size:=1,bytes:=8,agg:=false,zero:=[AC.opq]}),
 (280,{size:=1,bytes:=24,agg:=false,zero:=[AC.nils 0],elem:=some 283}),
 (281,{size:=1,bytes:=8,agg:=false,zero:=[AC.opq]}),
 (282,{size:=2,bytes:=16,agg:=true,zero:=[AC.t (Tr.int Go.IntKind.i64 (Int.ofNat 0)),AC.t (Tr.int Go.IntKind.i64 (Int.ofNat 0))],fields:=[(0,1,3),(1,1,3)]}),
 (283,{size:=2,bytes:=16,agg:=true,zero:=[AC.t (Tr.int Go.IntKind.i64 (Int.ofNat 0)),AC.t (Tr.int Go.IntKind.i64 (Int.ofNat 0))],fields:=[(0,1,3),(1,1,3)]}),
 (284,{size:=1,bytes:=8,agg:=false,zero:=[AC.opq]}),
 (285,{size:=1,bytes:=8,agg:=false,zero:=[AC.opq]}),
 (286,{size:=1,bytes:=8,agg:=false,zero:=[AC.opq]}),
 (287,{size:=1,bytes:=8,agg:=false,zero:=[AC.nilp]}),
 (288,{size:=11,bytes:=128,agg:=true,zero:=[AC.nils 0,AC.t (Tr.int Go.IntKind.i64 (Int.ofNat 0)),AC.t (Tr.int Go.IntKind.i64 (Int.ofNat 0)),AC.t (Tr.bool false),AC.t (Tr.bool false),AC.t (Tr.bool false),AC.t (Tr.int Go.IntKind.i64 (Int.ofNat 0)),AC.t (Tr.int Go.IntKind.i64 (Int.ofNat 0)),AC.nils 0,AC.t (Tr.int Go.IntKind.i64 (Int.ofNat 0)),AC.nils 0],fields:=[(0,1,24),(1,4,26),(5,1,4),(6,1,3),(7,1,3),(8,1,123),(9,1,3),(10,1,28)]}),
 (289,{size:=11,bytes:=128,agg:=true,zero:=[AC.nils 0,AC.t (Tr.int Go.IntKind.i64 (Int.ofNat 0)),AC.t (Tr.int Go.IntKind.i64 (Int.ofNat 0)),AC.t (Tr.bool false),AC.t (Tr.bool false),AC.t (Tr.bool false),AC.t (Tr.int Go.IntKind.i64 (Int.ofNat 0)),AC.t (Tr.int Go.IntKind.i64 (Int.ofNat 0)),AC.nils 0,AC.t (Tr.int Go.IntKind.i64 (Int.ofNat 0)),AC.nils 0],fields:=[(0,1,24),(1,4,26),(5,1,4),(6,1,3),(7,1,3),(8,1,123),(9,1,3),(10,1,28)]}),
 (290,{size:=1,bytes:=8,agg:=false,zero:=[AC.nilp]}),
 (291,{size:=8,bytes:=112,agg:=true,zero:=[AC.t (Tr.int Go.IntKind.i64 (Int.ofNat 0)),AC.t (Tr.int Go.IntKind.i64 (Int.ofNat 0)),AC.nils 0,AC.t (Tr.int Go.IntKind.i64 (Int.ofNat 0)),AC.t (Tr.int Go.IntKind.i64 (Int.ofNat 0)),AC.nils 0,AC.t (Tr.int Go.IntKind.i64 (Int.ofNat 0)),AC.nils 0],fields:=[(0,1,3),(1,1,3),(2,1,132),(3,1,3),(4,1,3),(5,1,28),(6,1,3),(7,1,28)]}),
 (292,{size:=8,bytes:=112,agg:=true,zero:=[AC.t (Tr.int Go.IntKind.i64 (Int.ofNat 0)),AC.t (Tr.int Go.IntKind.i64 (Int.ofNat 0)),AC.nils 0,AC.t (Tr.int Go.IntKind.i64 (Int.ofNat 0)),AC.t (Tr.int Go.IntKind.i64 (Int.ofNat 0)),AC.nils 0,AC.t (Tr.int Go.IntKind.i64 (Int.ofNat 0)),AC.nils 0],fields:=[(0,1,3),(1,1,3),(2,1,132),(3,1,3),(4,1,3),(5,1,28),(6,1,3),(7,1,28)]}),
 (293,{size:=1,bytes:=8,agg:=false,zero:=[AC.opq]}),
 (294,{size:=1,bytes:=8,agg:=false,zero:=[AC.opq]}),
 (295,{size:=1,bytes:=8,agg:=false,zero:=[AC.opq]}),
 (296,{size:=1,bytes:=8,agg:=false,zero:=[AC.opq]}),
 (297,{size:=1,bytes:=8,agg:=false,zero:=[AC.opq]}),
 (298,{size:=1,bytes:=8,agg:=false,zero:=[AC.opq]}),
 (299,{size:=1,bytes:=8,agg:=false,zero:=[AC.nilp]}),
 (300,{size:=1,bytes:=8,agg:=false,zero:=[AC.opq]}),
 (301,{size:=1,bytes:=8,agg:=false,zero:=[AC.opq]}),
 (302,{size:=1,bytes:=8,agg:=false,zero:=[AC.opq]}),
 (303,{size:=1,bytes:=8,agg:=false,zero:=[AC.opq],map:=some (some Go.IntKind.i64)}),
 (304,{size:=1,bytes:=8,agg:=false,zero:=[AC.opq]}),
 (305,{size:=1,bytes:=8,agg:=false,zero:=[AC.opq]}),
 (306,{size:=1,bytes:=8,agg:=false,zero:=[AC.opq]}),
 (307,{size:=1,bytes:=8,agg:=false,zero:=[AC.opq]}),
 (308,{size:=1,bytes:=4,agg:=false,zero:=[AC.t (Tr.int Go.IntKind.u32 (Int.ofNat 0))],kind:=some Go.IntKind.u32}),
 (309,{size:=1,bytes:=24,agg:=false,zero:=[AC.nils 0],elem:=some 136}),
 (310,{size:=1,bytes:=8,agg:=false,zero:=[AC.opq]}),
 (311,{size:=1,bytes:=8,agg:=false,zero:=[AC.opq]}),
 (312,{size:=1,bytes:=8,agg:=false,zero:=[AC.opq]}),
 (313,{size:=4,bytes:=40,agg:=true,zero:=[AC.nilp,AC.nilp,AC.nilp,AC.t (Tr.str [])],fields:=[(0,1,17),(1,1,17),(2,1,17),(3,1,9)]}),
 (314,{size:=4,bytes:=40,agg:=true,zero:=[AC.nilp,AC.nilp,AC.nilp,AC.t (Tr.str [])],fields:=[(0,1,17),(1,1,17),(2,1,17),(3,1,9)]}),
 (318,{size:=1,bytes:=1,agg:=false,zero:=[AC.t (Tr.int Go.IntKind.u8 (Int.ofNat 0))],kind:=some Go.IntKind.u8}),
 (319,{size:=1,bytes:=1,agg:=false,zero:=[AC.t (Tr.int Go.IntKind.u8 (Int.ofNat 0))],kind:=some Go.IntKind.u8}),
 (320,{size:=1,bytes:=8,agg:=false,zero:=[AC.opq]}),
 (321,{size:=1,bytes:=8,agg:=false,zero:=[AC.nilp]}),
 (322,{size:=1,bytes:=4,agg:=false,zero:=[AC.t (Tr.int Go.IntKind.i32 (Int.ofNat 0))],kind:=some Go.IntKind.i32}),
 (323,{size:=1,bytes:=4,agg:=false,zero:=[AC.t (Tr.int Go.IntKind.i32 (Int.ofNat 0))],kind:=some Go.IntKind.i32}),
 (324,{size:=11,bytes:=48,agg:=true,zero:=[AC.t (Tr.int Go.IntKind.u64 (Int.ofNat 0)),AC.t (Tr.int Go.IntKind.u64 (Int.ofNat 0)),AC.t (Tr.int Go.IntKind.u32 (Int.ofNat 0)),AC.t (Tr.int Go.IntKind.u8 (Int.ofNat 0)),AC.t (Tr.int Go.IntKind.u8 (Int.ofNat 0)),AC.t (Tr.int Go.IntKind.u8 (Int.ofNat 0)),AC.t (Tr.int Go.IntKind.u8 (Int.ofNat 0)),AC.opq,AC.nilp,AC.t (Tr.int Go.IntKind.i32 (Int.ofNat 0)),AC.t (Tr.int Go.IntKind.i32 (Int.ofNat 0))],fields:=[(0,1,12),(1,1,12),(2,1,308),(3,1,318),(4,1,5),(5,1,5),(6,1,319),(7,1,320),(8,1,321),(9,1,322),(10,1,323)]}),
 (325,{size:=11,bytes:=48,agg:=true,zero:=[AC.t (Tr.int Go.IntKind.u64 (Int.ofNat 0)),AC.t (Tr.int Go.IntKind.u64 (Int.ofNat 0)),AC.t (Tr.int Go.IntKind.u32 (Int.ofNat 0)),AC.t (Tr.int Go.IntKind.u8 (Int.ofNat 0)),AC.t (Tr.int Go.IntKind.u8 (Int.ofNat 0)),AC.t (Tr.int Go.IntKind.u8 (Int.ofNat 0)),AC.t (Tr.int Go.IntKind.u8 (Int.ofNat 0)),AC.opq,AC.nilp,AC.t (Tr.int Go.IntKind.i32 (Int.ofNat 0)),AC.t (Tr.int Go.IntKind.i32 (Int.ofNat 0))],fields:=[(0,1,12),(1,1,12),(2,1,308),(3,1,318),(4,1,5),(5,1,5),(6,1,319),(7,1,320),(8,1,321),(9,1,322),(10,1,323)]}),
 (326,{size:=1,bytes:=8,agg:=false,zero:=[AC.nilp]})]
theorem hΓ:Γ.chk Tryz.prog=true:=by kernel_rfl
theorem ao:Tryz.prog.follows .mixedOrders=true:=by kernel_rfl
end Go.Proofs.YtoglejgmjeojoaaGreat
namespace Go.Proofs.YtoglejgmjeojoaaGreat
open Go.Sim Go.ChangeShapes Go.WideShapes Go.ChangeAt Go.RowKit
theorem own:ownKnob Tryz.prog.godebug=none:=by kernel_rfl
theorem Eu:laidOutB Tryz.prog=true:=by kernel_rfl
theorem Fl {n:Int}(h:(Lit.int .i64 n).wf=true):n≤9223372036854775807:=by
 simp[Lit.wf]at h
 exact h.2
theorem Fv {n:Int}(h:(Lit.int .i64 n).wf=true):-9223372036854775808≤n:=by
 simp[Lit.wf]at h
 exact h.1
theorem ow {α:Type}{g:α→List Tr}{Q:α→Prop}:∀{rows:List (List Tr)},(∀r∈rows,∃m,r=g m∧Q m)→∃ns:List α,rows=ns.map g∧∀m∈ns,Q m
 | [],_=>⟨[],rfl,fun _ h=>by cases h⟩
 | r::rows,h=>by
  obtain⟨m,rfl,hm⟩:=h r (by simp)
  obtain⟨ns,rfl,hns⟩:=ow (rows:=rows) fun r hr=>h r (by simp[hr])
  exact⟨m::ns,rfl,fun x hx=>by
   rcases List.mem_cons.1 hx with rfl|hx
   ·exact hm
   ·exact hns x hx⟩
end Go.Proofs.YtoglejgmjeojoaaGreat
namespace Go.Proofs.YtoglejgmjeojoaaGreat
open Go.Sim Go.RowKit
def inI (n:Int):Prop:= -9223372036854775808≤n∧n≤9223372036854775807
def aa (n:Int):List Tr:=[.int .i64 n]
def ag (s:List UInt8):List Tr:=[.str s]
structure FZ where
 fac:Int
 fak:Int
def FZ.tr (x:FZ):List Tr:=[.int .i64 x.fac,.int .i64 x.fak]
def FZ.wf (x:FZ):Prop:=inI x.fac∧inI x.fak
structure Gf where
 faa:Int
 fai:Int
 fab:List UInt8
def Gf.tr (x:Gf):List Tr:=[.int .i64 x.faa,.int .i64 x.fai,.str x.fab]
def Gf.wf (x:Gf):Prop:=inI x.faa∧inI x.fai∧x.fab.length≤maxLen
structure FX where
 faa:Int
 fab:List UInt8
 faf:List (List UInt8)
 fad:List Gf
def FX.tr (x:FX):List Tr:=[.int .i64 x.faa,.str x.fab,.lst 1 (x.faf.map ag),.lst 3 (x.fad.map Gf.tr)]
def FX.wf (x:FX):Prop:=inI x.faa∧x.fab.length≤maxLen∧(x.faf.length≤maxLen∧∀y∈x.faf,y.length≤maxLen)∧(x.fad.length≤maxLen∧∀y∈x.fad,y.wf)
structure FO where
 fat:Int
 faj:Int
 fax:Bool
 fav:Bool
def FO.tr (x:FO):List Tr:=[.int .i64 x.fat,.int .i64 x.faj,.bool x.fax,.bool x.fav]
def FO.wf (x:FO):Prop:=inI x.fat∧inI x.faj
structure FW where
 fag:FZ
 fan:Int
 fah:Bool
 far:List Int
 fas:Int
 faw:Bool
def FW.tr (x:FW):List Tr:=[.int .i64 x.fag.fac,.int .i64 x.fag.fak,.int .i64 x.fan,.bool x.fah,.lst 1 (x.far.map aa),.int .i64 x.fas,.bool x.faw]
def FW.wf (x:FW):Prop:=x.fag.wf∧inI x.fan∧(x.far.length≤maxLen∧∀y∈x.far,inI y)∧inI x.fas
structure Ge where
 fab:List UInt8
 fah:Int
 fap:Int
def Ge.tr (x:Ge):List Tr:=[.str x.fab,.int .i64 x.fah,.int .i64 x.fap]
def Ge.wf (x:Ge):Prop:=x.fab.length≤maxLen∧inI x.fah∧inI x.fap
structure FU where
 fac:List UInt8
 fae:List Ge
def FU.tr (x:FU):List Tr:=[.str x.fac,.lst 3 (x.fae.map Ge.tr)]
def FU.wf (x:FU):Prop:=x.fac.length≤maxLen∧(x.fae.length≤maxLen∧∀y∈x.fae,y.wf)
structure Gd where
 fam:List FU
 fao:List Int
 faq:List Int
def Gd.tr (x:Gd):List Tr:=[.lst 2 (x.fam.map FU.tr),.lst 1 (x.fao.map aa),.lst 1 (x.faq.map aa)]
def Gd.wf (x:Gd):Prop:=(x.fam.length≤maxLen∧∀y∈x.fam,y.wf)∧(x.fao.length≤maxLen∧∀y∈x.fao,inI y)∧(x.faq.length≤maxLen∧∀y∈x.faq,inI y)
structure FY where
 faB:Int
 faC:Int
 faA:Int
 faD:List Int
 faH:List Int
 faK:Int
 faJ:Int
def FY.tr (x:FY):List Tr:=[.int .i64 x.faB,.int .i64 x.faC,.int .i64 x.faA,.lst 1 (x.faD.map aa),.lst 1 (x.faH.map aa),.int .i64 x.faK,.int .i64 x.faJ]
def FY.wf (x:FY):Prop:=inI x.faB∧inI x.faC∧inI x.faA∧(x.faD.length≤maxLen∧∀y∈x.faD,inI y)∧(x.faH.length≤maxLen∧∀y∈x.faH,inI y)∧inI x.faK∧inI x.faJ
structure Ga where
 fau:Int
 fal:FW
def Ga.tr (x:Ga):List Tr:=[.int .i64 x.fau,.int .i64 x.fal.fag.fac,.int .i64 x.fal.fag.fak,.int .i64 x.fal.fan,.bool x.fal.fah,.lst 1 (x.fal.far.map aa),.int .i64 x.fal.fas,.bool x.fal.faw]
def Ga.wf (x:Ga):Prop:=inI x.fau∧x.fal.wf
structure Gc where
 fah:Int
 fay:Int
 faL:Bool
 fas:Int
def Gc.tr (x:Gc):List Tr:=[.int .i64 x.fah,.int .i64 x.fay,.bool x.faL,.int .i64 x.fas]
def Gc.wf (x:Gc):Prop:=inI x.fah∧inI x.fay∧inI x.fas
structure Gg where
 faB:Int
 faC:Int
 faA:Int
 faF:List Int
def Gg.tr (x:Gg):List Tr:=[.int .i64 x.faB,.int .i64 x.faC,.int .i64 x.faA,.lst 1 (x.faF.map aa)]
def Gg.wf (x:Gg):Prop:=inI x.faB∧inI x.faC∧inI x.faA∧(x.faF.length≤maxLen∧∀y∈x.faF,inI y)
structure Gb where
 fau:Int
 fan:Int
 fah:Bool
def Gb.tr (x:Gb):List Tr:=[.int .i64 x.fau,.int .i64 x.fan,.bool x.fah]
def Gb.wf (x:Gb):Prop:=inI x.fau∧inI x.fan
structure FV where
 fah:Int
 fay:Int
 faz:Int
 fan:Int
 fab:List UInt8
def FV.tr (x:FV):List Tr:=[.int .i64 x.fah,.int .i64 x.fay,.int .i64 x.faz,.int .i64 x.fan,.str x.fab]
def FV.wf (x:FV):Prop:=inI x.fah∧inI x.fay∧inI x.faz∧inI x.fan∧x.fab.length≤maxLen
structure FQ where
 faM:Int
 fae:List Ge
 faE:List Gc
 faI:List Gb
 faG:List FV
def FQ.tr (x:FQ):List Tr:=[.int .i64 x.faM,.lst 3 (x.fae.map Ge.tr),.lst 4 (x.faE.map Gc.tr),.lst 3 (x.faI.map Gb.tr),.lst 5 (x.faG.map FV.tr)]
def FQ.wf (x:FQ):Prop:=inI x.faM∧(x.fae.length≤maxLen∧∀y∈x.fae,y.wf)∧(x.faE.length≤maxLen∧∀y∈x.faE,y.wf)∧(x.faI.length≤maxLen∧∀y∈x.faI,y.wf)∧(x.faG.length≤maxLen∧∀y∈x.faG,y.wf)
structure FR where
 fab:List UInt8
 fan:Int
def FR.tr (x:FR):List Tr:=[.str x.fab,.int .i64 x.fan]
def FR.wf (x:FR):Prop:=x.fab.length≤maxLen∧inI x.fan
end Go.Proofs.YtoglejgmjeojoaaGreat
namespace Go.Proofs.YtoglejgmjeojoaaGreat
open Go.Sim
set_option maxRecDepth 100000
def digs (n:Nat)(acc:List UInt8):List UInt8:=if n=0 then acc else digs (n / 10) (UInt8.ofNat (48+n % 10)::acc)
 termination_by n
 decreasing_by omega
def ww (k:Int):List UInt8:=if k≤0 then [109,48]else 109::digs k.toNat []
mutual
def cnT:Tr→Nat
 | .lst _ rows=>aq rows
 | _=>1
def cnR:List Tr→Nat
 | []=>0
 | c::cs=>cnT c+cnR cs
def aq:List (List Tr)→Nat
 | []=>0
 | r::rs=>cnR r+aq rs
end
mutual
def mkT:Tr→Int→Tr
 | .int kd _,k=> .int kd k
 | .bool _,k=> .bool (k.tmod 3==0)
 | .str _,k=> .str (ww k)
 | .lst sz rows,k=> .lst sz (aK rows k)
def mkR:List Tr→Int→List Tr
 | [],_=>[]
 | c::cs,k=>mkT c k::mkR cs (k+(cnT c:Nat))
def aK:List (List Tr)→Int→List (List Tr)
 | [],_=>[]
 | r::rs,k=>mkR r k::aK rs (k+(cnR r:Nat))
end
theorem cy:∀(a b:List (List Tr)),aq (a++b)=aq a+aq b
 | [],b=>by rw[List.nil_append,aq];omega
 | r::a,b=>by rw[List.cons_append,aq,aq,cy a b];omega
theorem bF:∀(a b:List (List Tr)) (k:Int),aK (a++b) k=aK a k++aK b (k+(aq a:Nat))
 | [],b,k=>by rw[List.nil_append,aq,aK,List.nil_append];simp
 | r::a,b,k=>by
  rw[List.cons_append,aK,aK,bF a b,aq,List.cons_append]
  congr 2
  congr 1
  omega
theorem bS:∀(a:List (List Tr)) (k:Int),(aK a k).length=a.length
 | [],_=>by rw[aK]
 | r::a,k=>by rw[aK,List.length_cons,List.length_cons,bS a]
theorem DY {rows:List (List Tr)}{M:Nat}(h:∀r∈rows,cnR r≤M):aq rows≤rows.length * M:=by
 induction rows with
 | nil=>rw[aq];omega
 | cons r rs ih=>
  rw[aq,List.length_cons,Nat.succ_mul]
  have h1:=h r (by simp)
  have h2:=ih fun r hr=>h r (by simp[hr])
  omega
theorem fh {α:Type}{g:α→List Tr}{l:List α}{M:Nat}(h:∀x∈l,cnR (g x)≤M):aq (l.map g)≤l.length * M:=by
 have:=DY (rows:=l.map g) (M:=M) fun r hr=>by obtain⟨x,hx,rfl⟩:=List.mem_map.1 hr;exact h x hx
 rwa [List.length_map]at this
theorem ew {α:Type}(g:α→List Tr)(a:List α)(x:α):aq ((a++[x]).map g)=aq (a.map g)+cnR (g x):=by
 rw[List.map_append,cy,List.map_cons,List.map_nil,aq,aq];omega
theorem iy {α:Type}(g:α→List Tr)(a:List α)(x:α)(k:Int):aK ((a++[x]).map g) k=aK (a.map g) k++[mkR (g x) (k+(aq (a.map g):Nat))]:=by
 rw[List.map_append,bF,List.map_cons,List.map_nil,aK,aK]
theorem ik {α:Type}{D t:List α}{r:α}{n:Nat}(h:D.length=n):(D++r::t)[n]?=some r:=by
 subst h;simp
theorem mK {α:Type}{D t:List α}{r r':α}{n:Nat}(h:D.length=n):(D++r::t).set n r'=D++r'::t:=by
 subst h;simp
theorem jk {α:Type}{l:List α}{r:α}{n:Nat}(h:n < l.length):(l.set n r)[n]?=some r:=by simp[h]
theorem set_set {α:Type}(l:List α)(r r':α)(n:Nat):(l.set n r).set n r'=l.set n r':=List.set_set ..
theorem cC (a b:List (List Tr)):ah (a++b)=ah a++ah b:=by simp[ah]
theorem aR (a:List (List Tr)):(ah a).length=a.length:=by simp[ah]
theorem gh (r:List Tr)(b:List (List Tr)):ah (r::b)=r.map .d::ah b:=by simp[ah]
theorem undeep (a:List (List Tr)):(ah a).map (·.map DC.tr)=a:=by
 rw[ah,List.map_map]
 conv=>rhs;rw[←List.map_id a]
 apply List.map_congr_left
 intro r _
 simp only[Function.comp,List.map_map,id]
 conv=>rhs;rw[←List.map_id r]
 apply List.map_congr_left
 intro x _
 rfl
theorem mR (sz:Nat)(a:List (List Tr)):Tr.lst sz a=Tr.lst sz ((ah a).map (·.map DC.tr)):=by rw[undeep]
theorem fJ {l:List (List Tr)}{k:Nat}{r:List Tr}(h:l[k]?=some r):(ah l)[k]?=some (r.map .d):=by simp[ah,h]
theorem kC (l:List (List Tr))(k:Nat)(r:List Tr):(ah l).set k (r.map .d)=ah (l.set k r):=by simp[ah,List.map_set]
theorem ep {A:Prop}{Q:(ι:Type)→(ι→St)→Prop}(h:A):A∨∃(ι:Type) (S:ι→St),Q ι S:=Or.inl h
theorem dr {α:Type}{g:α→List Tr}(l:List α)(h:∀x,∀c∈g x,∀sz rs,c≠.lst sz rs):flat (l.map g):=by
 intro row hr c hc sz rs
 obtain⟨x,_,rfl⟩:=List.mem_map.1 hr
 exact h x c hc sz rs
theorem fj (l:List Int):flat (l.map aa):=dr _ (by intro x c hc sz rs e;subst e;simp[aa]at hc)
theorem iv {α:Type}(a b:List α)(x:α):a++[x]++b=a++x::b:=by simp
end Go.Proofs.YtoglejgmjeojoaaGreat
namespace Go.Proofs.YtoglejgmjeojoaaGreat
open Go.Sim
abbrev tvI (n:Int):TV:= .c (.int .i64 n)
abbrev tvS (n:List UInt8):TV:= .c (.str n)
abbrev rI (n:Int):Res:= .r (.c (.t (.int .i64 n)))
abbrev rB (b:Bool):Res:= .r (.c (.t (.bool b)))
abbrev rS (b:List UInt8):Res:= .r (.c (.t (.str b)))
def af (n lo hi:Int):Bool:=decide (lo≤n) && decide (n≤hi)
theorem within_iff {n lo hi:Int}:af n lo hi=true↔lo≤n∧n≤hi:=by simp[af]
set_option maxRecDepth 100000
theorem aE (n lo hi:Int):Sim.Spec Tryz.prog 74 [tvI n,tvI lo,tvI hi] (rB (af n lo hi)):=by
 refine aj hΓ ao Tryz.func74 rfl (by decide) rfl ?_
 repeat' ((conv=>whnf);first|refine Or.inl ?_|apply oi|(apply fi<;>intro h)|refine⟨_,rfl,?_⟩|exact rfl)
 all_goals try exact⟨KO⟩
 all_goals refine⟨?_⟩
 all_goals simp_all[af]
 all_goals omega
theorem bd (n lo hi:Int):Sim.Spec Tryz.prog 61 [tvI n,tvI lo,tvI hi] (rB (af n lo hi)):=by
 refine aj hΓ ao Tryz.func61 rfl (by decide) rfl ?_
 repeat' ((conv=>whnf);first|refine Or.inl ?_|apply oi|(apply fi<;>intro h)|refine⟨_,rfl,?_⟩|exact rfl)
 all_goals try exact⟨KO⟩
 all_goals refine⟨?_⟩
 all_goals simp_all[af]
 all_goals omega
def signed (n:Int):Int:=if af n 0 1099511627775 then(if n % 2=1 then -((n+1) / 2)else n / 2)else 0
end Go.Proofs.YtoglejgmjeojoaaGreat
namespace Go.Proofs.YtoglejgmjeojoaaGreat
open Go.Sim
set_option maxRecDepth 100000
def FI (n:Nat):List UInt8:=if n≤127 then [UInt8.ofNat n]else UInt8.ofNat (n % 128+128)::FI (n / 128)
 termination_by n
 decreasing_by omega
def enc (n:Int):List UInt8:=if af n 0 1099511627775 then FI n.toNat else []
abbrev tvL (sz:Nat)(rows:List (List Tr)):TV:= .c (.lst sz rows)
abbrev rL (sz:Nat)(rows:List (List Tr)):Res:= .r (.c (.arr sz rows))
def eV {α:Type}(l:List α)(z:α)(k:Nat):List α:=l.take k++List.replicate (l.length - k) z
theorem gv {α:Type}(l:List α)(z:α):List.replicate l.length z=eV l z 0:=by simp[eV]
theorem nG {α:Type}{l:List α}{z:α}{k:Nat}(h:l.length≤k):eV l z k=l:=by
 simp[eV,List.take_of_length_le h,Nat.sub_eq_zero_of_le h]
theorem ou {α:Type}{l:List α}{z:α}{k:Nat}(h:k≤l.length):(eV l z k).length=l.length:=by
 simp[eV];omega
theorem oh {α:Type}{l:List α}{z:α}{k:Nat}(h:k < l.length):(eV l z k)[k]?=some z:=by
 rw[eV,List.getElem?_append_right (by simp;omega),List.getElem?_replicate,if_pos (by simp;omega)]
theorem nF {α:Type}{l:List α}{z x:α}{k:Nat}(h:l[k]?=some x):(eV l z k).set k x=eV l z (k+1):=by
 have hk:k < l.length:=by
  rcases Nat.lt_or_ge k l.length with h'|h'
  ·exact h'
  ·rw[List.getElem?_eq_none h']at h;cases h
 have hx:l[k]=x:=by rw[List.getElem?_eq_getElem hk]at h;injection h
 obtain⟨m,hm⟩:∃m,l.length - k=m+1:=⟨l.length - k - 1,by omega⟩
 rw[eV,eV,List.set_append_right _ _ (by simp;omega),hm,List.replicate_succ,List.take_succ_eq_append_getElem hk,hx,show l.length - (k+1)=m by omega]
 simp[Nat.min_eq_left (Nat.le_of_lt hk)]
theorem ab {α β:Type}{f:α→β}{l:List α}{k:Nat}{x:α}(h:l[k]?=some x):(l.map f)[k]?=some (f x):=by simp[h]
theorem ae {α:Type}{l:List α}{k:Nat}(h:k < l.length):∃x,l[k]?=some x:=⟨_,List.getElem?_eq_getElem h⟩
theorem Fg {ns ms:List Int}{k:Nat}{x y:Int}(h1:ns[k]?=some x)(h2:ms[k]?=some y)(hne:x≠y):(ns==ms)=false:=by
 rw[beq_eq_false_iff_ne]
 intro e
 subst e
 rw[h1]at h2
 injection h2 with h2
 exact hne h2
theorem EA {ns ms:List Int}(h:ns.length≠ms.length):(ns==ms)=false:=by
 rw[beq_eq_false_iff_ne]
 intro e;subst e;exact h rfl
theorem nh (ns ms:List Int)(hl:ns.length≤1048576):Sim.Spec Tryz.prog 91 [tvL 1 (ns.map aa),tvL 1 (ms.map aa)] (rB (ns==ms)):=by
 refine aj hΓ ao Tryz.func91 rfl (by decide) rfl ?_
 have hlen:(ns.map aa).length=ns.length:=by simp
 have hlen2:(ms.map aa).length=ms.length:=by simp
 repeat' ((conv=>whnf);first|refine Or.inl ?_|apply oi|(apply fi<;>intro h)|refine⟨_,rfl,?_⟩|exact rfl)
 all_goals try exact⟨KO⟩
 ·rw[hlen,hlen2]at h
  rw[EA (by intro e;rw[e]at h;simp at h)]
  exact⟨rfl⟩
 have hle:ns.length=ms.length:=by
  rw[hlen,hlen2]at h
  have:((ns.length:Int)==(ms.length:Int))=true:=by simpa using h
  have:=eq_of_beq this
  omega
 repeat' ((conv=>whnf);first|refine Or.inl ?_|apply oi|(apply fi<;>intro h)|refine⟨_,rfl,?_⟩|exact rfl)
 all_goals try exact⟨KO⟩
 conv=>whnf
 refine⟨{k:Nat // k≤ns.length∧∀j,j < k→ns[j]?=ms[j]?},fun k=>⟨[(0,.r (.c (.t (.lst 1 (ns.map aa))))),(1,.r (.c (.t (.lst 1 (ms.map aa))))),(5,tI .i64 (k.1:Int))],[],[]⟩,fun k=>ns.length - k.1,⟨0,by omega,fun j hj=>by omega⟩,?_,?_⟩
 ·skip
  repeat' ((conv=>whnf);first|refine Or.inl ?_|apply oi|(apply fi<;>intro h)|refine⟨_,rfl,?_⟩|exact rfl)
  all_goals try exact⟨KO⟩
 intro⟨k,hk,hsame⟩
 dsimp only
 repeat' ((conv=>whnf);first|refine Or.inl ?_|apply oi|(apply fi<;>intro h)|refine⟨_,rfl,?_⟩|exact rfl)
 all_goals try exact⟨KO⟩
 ·have hlt:k < ns.length:=by have:=of_decide_eq_true h;omega
  obtain⟨x,hx⟩:=ae hlt
  obtain⟨y,hy⟩:=ae (show k < ms.length by omega)
  conv=>whnf
  refine⟨k,aa x,rfl,ab hx,?_⟩
  repeat' ((conv=>whnf);first|refine Or.inl ?_|apply oi|(apply fi<;>intro h)|refine⟨_,rfl,?_⟩|exact rfl)
  all_goals try exact⟨KO⟩
  conv=>whnf
  refine⟨k,aa y,rfl,ab hy,?_⟩
  repeat' ((conv=>whnf);first|refine Or.inl ?_|apply oi|(apply fi<;>intro h)|refine⟨_,rfl,?_⟩|exact rfl)
  all_goals try exact⟨KO⟩
  ·rw[Fg hx hy (by simpa using h)]
   exact⟨rfl⟩
  have hxy:x=y:=by simpa using h
  conv=>whnf
  refine⟨⟨k+1,by omega,fun j hj=>?_⟩,?_,KD⟩
  ·rcases Nat.lt_or_ge j k with h'|h'
   ·exact hsame j h'
   ·have:j=k:=by omega
    subst this
    rw[hx,hy,hxy]
  repeat' ((conv=>whnf);first|refine Or.inl ?_|apply oi|(apply fi<;>intro h)|refine⟨_,rfl,?_⟩|exact rfl)
  all_goals try exact⟨KO⟩
  exact⟨by dsimp only;rw[IntWalk.i64_in _ (by omega)];rfl⟩
 ·have hge:ns.length≤k:=by have:=of_decide_eq_false h;omega
  have:ns=ms:=List.ext_getElem? fun j=>by
   rcases Nat.lt_or_ge j k with h'|h'
   ·exact hsame j h'
   ·rw[List.getElem?_eq_none (by omega),List.getElem?_eq_none (by omega)]
  subst this
  exact⟨by simp⟩
theorem cV {α:Type}{l:List α}{k:Nat}{x:α}(h:l[k]?=some x):l.drop k=x::l.drop (k+1):=by
 have hk:k < l.length:=by
  rcases Nat.lt_or_ge k l.length with h'|h'
  ·exact h'
  ·rw[List.getElem?_eq_none h']at h;cases h
 rw[List.getElem?_eq_getElem hk]at h
 injection h with h
 rw[←h]
 exact List.drop_eq_getElem_cons hk
end Go.Proofs.YtoglejgmjeojoaaGreat
namespace Go.Proofs.YtoglejgmjeojoaaGreat
open Go.Sim Go.RowKit
set_option maxRecDepth 100000
theorem nN {n:Int}(h:(Lit.int .i64 n).wf=true):inI n:=⟨Fv h,Fl h⟩
theorem FB {r:List Tr}(h:∃s:List UInt8,r=[Tr.str s]∧s.length≤maxLen):∃m,r=ag m∧m.length≤maxLen:=by
 obtain⟨m,rfl,hw⟩:=h
 exact⟨m,rfl,hw⟩
theorem aA {α:Type}{g:α→List Tr}{L:Int}{l:List α}{sz:Nat}(h:ay L (.lst sz (l.map g))){x:α}(hx:x∈l):aw L (g x):=by
 rw[ay]at h
 exact rA h.2 _ (List.mem_map_of_mem hx)
theorem cU {α:Type}{g:α→List Tr}{L:Int}{l:List α}{sz:Nat}(h:ay L (.lst sz (l.map g))):(l.length:Int)≤L:=by
 rw[ay]at h
 simpa using h.1
theorem aI {α:Type}{g:α→List Tr}{l:List α}{sz:Nat}(h:ay 1048576 (.lst sz (l.map g))):l.length≤1048576:=by
 have:=cU h
 omega
theorem pX (ns:List (List UInt8))(hs:ay 1048576 (.lst 1 (ns.map ag))):Sim.Spec Tryz.prog 149 [tvL 1 (ns.map ag)] (rL 1 (ns.map ag)):=by
 have hl:=cU hs
 refine aj hΓ ao Tryz.func149 rfl (by decide) rfl ?_
 have hlen:(ns.map ag).length=ns.length:=by simp
 repeat' ((conv=>whnf);first|refine Or.inl ?_|apply oi|(apply fi<;>intro h)|refine⟨_,rfl,?_⟩|exact rfl)
 all_goals try exact⟨KO⟩
 ·exact⟨by omega⟩
 ·exact⟨by dsimp only;omega⟩
 repeat' ((conv=>whnf);first|refine Or.inl ?_|apply oi|(apply fi<;>intro h)|refine⟨_,rfl,?_⟩|exact rfl)
 all_goals try exact⟨KO⟩
 conv=>whnf
 refine⟨{k:Nat // k≤ns.length},fun k=>⟨[(0,.r (.c (.t (.lst 1 (ns.map ag))))),(3,.r (.c (.own (3,0,0)))),(4,tI .i64 (k.1:Int))],[((3,0,0),some (.arr true 1 (eV (ns.map ag) (ag []) k.1)))],[3]⟩,fun k=>ns.length - k.1,⟨0,by omega⟩,?_,?_⟩
 ·skip
  repeat' ((conv=>whnf);first|refine Or.inl ?_|apply oi|(apply fi<;>intro h)|refine⟨_,rfl,?_⟩|exact rfl)
  all_goals try exact⟨KO⟩
 intro⟨k,hk⟩
 dsimp only
 repeat' ((conv=>whnf);first|refine Or.inl ?_|apply oi|(apply fi<;>intro h)|refine⟨_,rfl,?_⟩|exact rfl)
 all_goals try exact⟨KO⟩
 ·have hlt:k < ns.length:=by have:=of_decide_eq_true h;omega
  obtain⟨x,hx⟩:=ae hlt
  conv=>whnf
  refine⟨k,ag x,rfl,ab hx,?_⟩
  repeat' ((conv=>whnf);first|refine Or.inl ?_|apply oi|(apply fi<;>intro h)|refine⟨_,rfl,?_⟩|exact rfl)
  all_goals try exact⟨KO⟩
  ·exact⟨by rw[ou (by omega)];omega⟩
  conv=>whnf
  refine⟨ag [],oh (by omega),?_⟩
  repeat' ((conv=>whnf);first|refine Or.inl ?_|apply oi|(apply fi<;>intro h)|refine⟨_,rfl,?_⟩|exact rfl)
  all_goals try exact⟨KO⟩
  conv=>whnf
  refine⟨⟨k+1,by omega⟩,?_,KD⟩
  repeat' ((conv=>whnf);first|refine Or.inl ?_|apply oi|(apply fi<;>intro h)|refine⟨_,rfl,?_⟩|exact rfl)
  all_goals try exact⟨KO⟩
  ·exact⟨by dsimp only;rw[IntWalk.i64_in _ (by omega)];rfl⟩
  ·exact⟨nF (ab hx)⟩
 ·have hge:ns.length≤k:=by have:=of_decide_eq_false h;omega
  exact⟨nG (by omega)⟩
theorem qL (ns:List (List UInt8))(hs:ay 1048576 (.lst 1 (ns.map ag))):Sim.Spec Tryz.prog 162 [tvL 1 (ns.map ag),tvL 1 (ns.map ag)] (rB true):=by
 have hl:=cU hs
 refine aj hΓ ao Tryz.func162 rfl (by decide) rfl ?_
 have hlen:(ns.map ag).length=ns.length:=by simp
 repeat' ((conv=>whnf);first|refine Or.inl ?_|apply oi|(apply fi<;>intro h)|refine⟨_,rfl,?_⟩|exact rfl)
 all_goals try exact⟨KO⟩
 ·simp at h
 conv=>whnf
 refine⟨{k:Nat // k≤ns.length},fun k=>⟨[(0,.r (.c (.t (.lst 1 (ns.map ag))))),(1,.r (.c (.t (.lst 1 (ns.map ag))))),(5,tI .i64 (k.1:Int))],[],[]⟩,fun k=>ns.length - k.1,⟨0,by omega⟩,?_,?_⟩
 ·skip
  repeat' ((conv=>whnf);first|refine Or.inl ?_|apply oi|(apply fi<;>intro h)|refine⟨_,rfl,?_⟩|exact rfl)
  all_goals try exact⟨KO⟩
 intro⟨k,hk⟩
 dsimp only
 repeat' ((conv=>whnf);first|refine Or.inl ?_|apply oi|(apply fi<;>intro h)|refine⟨_,rfl,?_⟩|exact rfl)
 all_goals try exact⟨KO⟩
 ·have hlt:k < ns.length:=by have:=of_decide_eq_true h;omega
  obtain⟨x,hx⟩:=ae hlt
  conv=>whnf
  refine⟨k,ag x,rfl,ab hx,?_⟩
  repeat' ((conv=>whnf);first|refine Or.inl ?_|apply oi|(apply fi<;>intro h)|refine⟨_,rfl,?_⟩|exact rfl)
  all_goals try exact⟨KO⟩
  conv=>whnf
  refine⟨k,ag x,rfl,ab hx,?_⟩
  repeat' ((conv=>whnf);first|refine Or.inl ?_|apply oi|(apply fi<;>intro h)|refine⟨_,rfl,?_⟩|exact rfl)
  all_goals try exact⟨KO⟩
  ·simp at h
  conv=>whnf
  refine⟨⟨k+1,by omega⟩,?_,KD⟩
  repeat' ((conv=>whnf);first|refine Or.inl ?_|apply oi|(apply fi<;>intro h)|refine⟨_,rfl,?_⟩|exact rfl)
  all_goals try exact⟨KO⟩
  exact⟨by dsimp only;rw[IntWalk.i64_in _ (by omega)];rfl⟩
theorem qE (ns:List (List UInt8))(hw:ns.length≤maxLen∧∀y∈ns,y.length≤maxLen)(left:Int)(hle0:0≤left)(hle1:left≤1048576):Sim.Spec Tryz.prog 147 [tvL 1 (ns.map ag),tvI left] (rI (szT (.lst 1 (ns.map ag)) left)):=by
 have hlen:(ns.map ag).length=ns.length:=by simp
 have hl2:ns.length≤9223372036854775807:=by simpa [maxLen]using hw.1
 rw[szT]
 refine aj hΓ ao Tryz.func147 rfl (by decide) rfl ?_
 repeat' ((conv=>whnf);first|refine Or.inl ?_|apply oi|(apply fi<;>intro h)|refine⟨_,rfl,?_⟩|exact rfl)
 all_goals try exact⟨KO⟩
 ·refine⟨congrArg (Tr.int _) ?_⟩
  have h2:=of_decide_eq_true h
  rw[IntWalk.i64_in _ (by omega)]at h2
  rw[if_pos h2]
 have h2:=of_decide_eq_false h
 rw[IntWalk.i64_in _ (by omega)]at h2 ⊢
 rw[if_neg h2]
 conv=>whnf
 refine⟨{q:Nat×Int // q.1≤ns.length∧0≤q.2∧q.2≤1048576∧ll ((ns.drop q.1).map ag) q.2=ll (ns.map ag) (left - (ns.map ag).length)},fun q=>⟨[(0,.r (.c (.t (.lst 1 (ns.map ag))))),(1,tI .i64 q.1.2),(5,tI .i64 (q.1.1:Int))],[],[]⟩,fun q=>ns.length - q.1.1,⟨(0,left - (ns.map ag).length),by simp,by dsimp only;omega,by dsimp only;omega,by simp⟩,?_,?_⟩
 ·skip
  repeat' ((conv=>whnf);first|refine Or.inl ?_|apply oi|(apply fi<;>intro h)|refine⟨_,rfl,?_⟩|exact rfl)
  all_goals try exact⟨KO⟩
 intro⟨⟨k,lk⟩,hk,h0,h1,hsz⟩
 dsimp only at hk h0 h1 hsz ⊢
 repeat' ((conv=>whnf);first|refine Or.inl ?_|apply oi|(apply fi<;>intro h)|refine⟨_,rfl,?_⟩|exact rfl)
 all_goals try exact⟨KO⟩
 ·have hlt:k < ns.length:=by have:=of_decide_eq_true h;omega
  obtain⟨x,hx⟩:=ae hlt
  have hxl:x.length≤9223372036854775807:=by simpa [maxLen]using hw.2 x (List.mem_of_getElem? hx)
  rw[cV hx,List.map_cons,ll,ag,szR,szT]at hsz
  conv=>whnf
  refine⟨k,ag x,rfl,ab hx,?_⟩
  repeat' ((conv=>whnf);first|refine Or.inl ?_|apply oi|(apply fi<;>intro h)|refine⟨_,rfl,?_⟩|exact rfl)
  all_goals try exact⟨KO⟩
  ·refine⟨congrArg (Tr.int _) ?_⟩
   have h3:=of_decide_eq_true h
   rw[IntWalk.i64_in _ (by omega)]at h3
   rw[←hsz,if_pos h3]
   simp
  have h3:=of_decide_eq_false h
  rw[IntWalk.i64_in _ (by omega)]at h3
  rw[if_neg h3,if_neg h3,szR,if_neg h3]at hsz
  conv=>whnf
  refine⟨⟨(k+1,lk - x.length),by dsimp only;omega,by dsimp only;omega,by dsimp only;omega,hsz⟩,?_,KD⟩
  repeat' ((conv=>whnf);first|refine Or.inl ?_|apply oi|(apply fi<;>intro h)|refine⟨_,rfl,?_⟩|exact rfl)
  all_goals try exact⟨KO⟩
  ·exact⟨by dsimp only;rw[IntWalk.i64_in _ (by omega)]⟩
  ·exact⟨by dsimp only;rw[IntWalk.i64_in _ (by omega)];rfl⟩
 ·have hge:ns.length≤k:=by have:=of_decide_eq_false h;omega
  rw[List.drop_eq_nil_of_le hge,List.map_nil,ll]at hsz
  exact⟨congrArg (Tr.int _) hsz⟩
theorem Ft {row:List Tr}(h:fN Γ 8 265 row):∃x:Gf,row=x.tr∧x.wf:=by
 obtain⟨_,_,rfl,⟨x0,rfl,w0⟩,_,_,rfl,⟨x1,rfl,w1⟩,_,_,rfl,⟨x2,rfl,w2⟩,rfl⟩:=h
 exact⟨⟨x0,x1,x2⟩,rfl,⟨nN w0,nN w1,w2⟩⟩
theorem Ey {row:List Tr}(h:fN Γ 8 135 row):∃x:FX,row=x.tr∧x.wf:=by
 obtain⟨_,_,rfl,⟨x0,rfl,w0⟩,_,_,rfl,⟨x1,rfl,w1⟩,_,_,rfl,⟨r2,rfl,w2,e2⟩,_,_,rfl,⟨r3,rfl,w3,e3⟩,rfl⟩:=h
 obtain⟨x2,rfl,v2⟩:=ow (g:=ag) (Q:=(fun y=>y.length≤maxLen)) (rows:=r2) (fun r hr=>FB (e2 r hr))
 obtain⟨x3,rfl,v3⟩:=ow (g:=Gf.tr) (Q:=(fun y=>y.wf)) (rows:=r3) (fun r hr=>Ft (zm (by decide) (e3 r hr)))
 exact⟨⟨x0,x1,x2,x3⟩,rfl,⟨nN w0,w1,⟨by simpa using w2,v2⟩,⟨by simpa using w3,v3⟩⟩⟩
theorem CJ {row:List Tr}(h:fN Γ 8 60 row):∃x:FO,row=x.tr∧x.wf:=by
 obtain⟨_,_,rfl,⟨x0,rfl,w0⟩,_,_,rfl,⟨x1,rfl,w1⟩,_,_,rfl,⟨x2,rfl⟩,_,_,rfl,⟨x3,rfl⟩,rfl⟩:=h
 exact⟨⟨x0,x1,x2,x3⟩,rfl,⟨nN w0,nN w1⟩⟩
theorem xe (x:Gf)(hs:aw 1048576 x.tr):Sim.Spec Tryz.prog 209 [.agg x.tr] (.r (.agg (x.tr.map zh))):=by
 simp only[Gf.tr,aw]at hs
 refine aj hΓ ao Tryz.func209 rfl (by decide) rfl ?_
 repeat' ((conv=>whnf);first|refine Or.inl ?_|apply oi|(apply fi<;>intro h)|refine⟨_,rfl,?_⟩|exact rfl)
 all_goals try exact⟨KO⟩
theorem pa (x:Gf)(hs:aw 1048576 x.tr):Sim.Spec Tryz.prog 222 [.agg x.tr,.agg x.tr] (rB true):=by
 simp only[Gf.tr,aw]at hs
 refine aj hΓ ao Tryz.func222 rfl (by decide) rfl ?_
 repeat' ((conv=>whnf);first|refine Or.inl ?_|apply oi|(apply fi<;>intro h)|refine⟨_,rfl,?_⟩|exact rfl)
 all_goals try exact⟨KO⟩
 all_goals simp at *
theorem wV (x:Gf)(hw:x.wf)(left:Int)(hle0:0≤left)(hle1:left≤1048576):Sim.Spec Tryz.prog 208 [.agg x.tr,tvI left] (rI (szR x.tr left)):=by
 simp only[Gf.wf,maxLen]at hw
 obtain⟨Z,hz0⟩:∃Z,Z=szR x.tr left:=⟨_,rfl⟩
 have hz:=hz0
 rw[Gf.tr]at hz
 refine aj hΓ ao Tryz.func208 rfl (by decide) rfl ?_
 rw[xG (by omega)]at hz
 rw[xG (by omega)]at hz
 repeat' ((conv=>whnf);first|refine Or.inl ?_|apply oi|(apply fi<;>intro h)|refine⟨_,rfl,?_⟩|exact rfl)
 all_goals try exact⟨KO⟩
 ·have h2:=of_decide_eq_true h
  rw[IntWalk.i64_in _ (by omega)]at h2
  exact⟨congrArg (Tr.int _) (hz0.symm.trans (hz.trans (ru h2))).symm⟩
 have g1:=of_decide_eq_false h
 rw[IntWalk.i64_in _ (by omega)]at g1
 clear h
 rw[IntWalk.i64_in (left - x.fab.length) (by omega)]
 rw[Bi g1]at hz
 all_goals exact⟨congrArg (Tr.int _) ((hz0.symm.trans (hz.trans (Bp _))).symm)⟩
theorem vi (xs:List (Gf))(hs:ay 1048576 (.lst 3 (xs.map Gf.tr))):Sim.Spec Tryz.prog 150 [tvL 3 (xs.map Gf.tr)] (rL 3 (xs.map Gf.tr)):=by
 have hl:=cU hs
 have hlen:(xs.map Gf.tr).length=xs.length:=by simp
 refine aj hΓ ao Tryz.func150 rfl (by decide) rfl ?_
 repeat' ((conv=>whnf);first|refine Or.inl ?_|apply oi|(apply fi<;>intro h)|refine⟨_,rfl,?_⟩|exact rfl)
 all_goals try exact⟨KO⟩
 ·exact⟨by omega⟩
 ·exact⟨by dsimp only;omega⟩
 repeat' ((conv=>whnf);first|refine Or.inl ?_|apply oi|(apply fi<;>intro h)|refine⟨_,rfl,?_⟩|exact rfl)
 all_goals try exact⟨KO⟩
 conv=>whnf
 refine⟨{k:Nat // k≤xs.length},fun k=>⟨[(0,.r (.c (.t (.lst 3 (xs.map Gf.tr))))),(3,.r (.c (.own (3,0,0)))),(4,tI .i64 (k.1:Int))],[((3,0,0),some (.arr true 3 (eV (xs.map Gf.tr) [.int .i64 0,.int .i64 0,.str []] k.1)))],[3]⟩,fun k=>xs.length - k.1,⟨0,by omega⟩,?_,?_⟩
 ·skip
  repeat' ((conv=>whnf);first|refine Or.inl ?_|apply oi|(apply fi<;>intro h)|refine⟨_,rfl,?_⟩|exact rfl)
  all_goals try exact⟨KO⟩
  all_goals exact⟨by first|(rw[←gv,hlen];done)|(rw[←gv,hlen,ah,List.map_replicate];done)|(rw[←gv,hlen,ah,List.map_replicate];rfl)⟩
 intro⟨k,hk⟩
 dsimp only
 repeat' ((conv=>whnf);first|refine Or.inl ?_|apply oi|(apply fi<;>intro h)|refine⟨_,rfl,?_⟩|exact rfl)
 all_goals try exact⟨KO⟩
 ·have hlt:k < xs.length:=by have:=of_decide_eq_true h;omega
  obtain⟨x,hx⟩:=ae hlt
  have hsr:=aA hs (List.mem_of_getElem? hx)
  conv=>whnf
  refine⟨k,_,rfl,ab hx,?_⟩
  repeat' ((conv=>whnf);first|refine Or.inl ?_|apply oi|(apply fi<;>intro h)|refine ci ((xe x hsr)) (ai (ai rfl (ai rfl (ai rfl trivial))) trivial) ?_|refine⟨_,rfl,?_⟩|exact rfl)
  all_goals try exact⟨KO⟩
  ·exact⟨by rw[ou (by omega)];omega⟩
  conv=>whnf
  refine⟨_,oh (by omega),?_⟩
  repeat' ((conv=>whnf);first|refine Or.inl ?_|apply oi|(apply fi<;>intro h)|refine⟨_,rfl,?_⟩|exact rfl)
  all_goals try exact⟨KO⟩
  conv=>whnf
  refine⟨⟨k+1,by omega⟩,?_,KD⟩
  repeat' ((conv=>whnf);first|refine Or.inl ?_|apply oi|(apply fi<;>intro h)|refine⟨_,rfl,?_⟩|exact rfl)
  all_goals try exact⟨KO⟩
  ·exact⟨by dsimp only;rw[IntWalk.i64_in _ (by omega)];rfl⟩
  ·exact⟨nF (ab hx)⟩
 ·have hge:xs.length≤k:=by have:=of_decide_eq_false h;omega
  exact⟨nG (by omega)⟩
theorem vf (xs:List (Gf))(hs:ay 1048576 (.lst 3 (xs.map Gf.tr))):Sim.Spec Tryz.prog 163 [tvL 3 (xs.map Gf.tr),tvL 3 (xs.map Gf.tr)] (rB true):=by
 have hl:=cU hs
 have hlen:(xs.map Gf.tr).length=xs.length:=by simp
 refine aj hΓ ao Tryz.func163 rfl (by decide) rfl ?_
 repeat' ((conv=>whnf);first|refine Or.inl ?_|apply oi|(apply fi<;>intro h)|refine⟨_,rfl,?_⟩|exact rfl)
 all_goals try exact⟨KO⟩
 ·simp at h
 conv=>whnf
 refine⟨{k:Nat // k≤xs.length},fun k=>⟨[(0,.r (.c (.t (.lst 3 (xs.map Gf.tr))))),(1,.r (.c (.t (.lst 3 (xs.map Gf.tr))))),(5,tI .i64 (k.1:Int))],[],[]⟩,fun k=>xs.length - k.1,⟨0,by omega⟩,?_,?_⟩
 ·skip
  repeat' ((conv=>whnf);first|refine Or.inl ?_|apply oi|(apply fi<;>intro h)|refine⟨_,rfl,?_⟩|exact rfl)
  all_goals try exact⟨KO⟩
 intro⟨k,hk⟩
 dsimp only
 repeat' ((conv=>whnf);first|refine Or.inl ?_|apply oi|(apply fi<;>intro h)|refine⟨_,rfl,?_⟩|exact rfl)
 all_goals try exact⟨KO⟩
 ·have hlt:k < xs.length:=by have:=of_decide_eq_true h;omega
  obtain⟨x,hx⟩:=ae hlt
  have hsr:=aA hs (List.mem_of_getElem? hx)
  conv=>whnf
  refine⟨k,_,rfl,ab hx,?_⟩
  repeat' ((conv=>whnf);first|refine Or.inl ?_|apply oi|(apply fi<;>intro h)|refine ci ((pa x hsr)) (ai (ai rfl (ai rfl (ai rfl trivial))) (ai (ai rfl (ai rfl (ai rfl trivial))) trivial)) ?_|refine⟨_,rfl,?_⟩|exact rfl)
  all_goals try exact⟨KO⟩
  conv=>whnf
  refine⟨k,_,rfl,ab hx,?_⟩
  repeat' ((conv=>whnf);first|refine Or.inl ?_|apply oi|(apply fi<;>intro h)|refine ci ((pa x hsr)) (ai (ai rfl (ai rfl (ai rfl trivial))) (ai (ai rfl (ai rfl (ai rfl trivial))) trivial)) ?_|refine⟨_,rfl,?_⟩|exact rfl)
  all_goals try exact⟨KO⟩
  all_goals try(exfalso;simp at h;done)
  conv=>whnf
  refine⟨⟨k+1,by omega⟩,?_,KD⟩
  repeat' ((conv=>whnf);first|refine Or.inl ?_|apply oi|(apply fi<;>intro h)|refine⟨_,rfl,?_⟩|exact rfl)
  all_goals try exact⟨KO⟩
  exact⟨by dsimp only;rw[IntWalk.i64_in _ (by omega)];rfl⟩
theorem vh (xs:List (Gf))(hw:xs.length≤maxLen∧∀y∈xs,y.wf)(left:Int)(hle0:0≤left)(hle1:left≤1048576):Sim.Spec Tryz.prog 148 [tvL 3 (xs.map Gf.tr),tvI left] (rI (szT (.lst 3 (xs.map Gf.tr)) left)):=by
 have hl2:(xs.map Gf.tr).length≤9223372036854775807:=by simpa [maxLen]using hw.1
 have hlen:(xs.map Gf.tr).length=xs.length:=by simp
 rw[szT]
 refine aj hΓ ao Tryz.func148 rfl (by decide) rfl ?_
 repeat' ((conv=>whnf);first|refine Or.inl ?_|apply oi|(apply fi<;>intro h)|refine⟨_,rfl,?_⟩|exact rfl)
 all_goals try exact⟨KO⟩
 ·refine⟨congrArg (Tr.int _) ?_⟩
  have h2:=of_decide_eq_true h
  rw[IntWalk.i64_in _ (by omega)]at h2
  rw[if_pos h2]
 have h2:=of_decide_eq_false h
 rw[IntWalk.i64_in _ (by omega)]at h2 ⊢
 rw[if_neg h2]
 conv=>whnf
 refine⟨{q:Nat×Int // q.1≤xs.length∧0≤q.2∧q.2≤1048576∧ll ((xs.drop q.1).map Gf.tr) q.2=ll (xs.map Gf.tr) (left - (xs.map Gf.tr).length)},fun q=>⟨[(0,.r (.c (.t (.lst 3 (xs.map Gf.tr))))),(1,tI .i64 q.1.2),(5,tI .i64 (q.1.1:Int))],[],[]⟩,fun q=>xs.length - q.1.1,⟨(0,left - (xs.map Gf.tr).length),by simp,by dsimp only;omega,by dsimp only;omega,by simp⟩,?_,?_⟩
 ·skip
  repeat' ((conv=>whnf);first|refine Or.inl ?_|apply oi|(apply fi<;>intro h)|refine⟨_,rfl,?_⟩|exact rfl)
  all_goals try exact⟨KO⟩
 intro⟨⟨k,lk⟩,hk,h0,h1,hsz⟩
 dsimp only at hk h0 h1 hsz ⊢
 repeat' ((conv=>whnf);first|refine Or.inl ?_|apply oi|(apply fi<;>intro h)|refine⟨_,rfl,?_⟩|exact rfl)
 all_goals try exact⟨KO⟩
 ·have hlt:k < xs.length:=by have:=of_decide_eq_true h;omega
  obtain⟨x,hx⟩:=ae hlt
  have hxw:=hw.2 x (List.mem_of_getElem? hx)
  rw[cV hx,List.map_cons,ll]at hsz
  conv=>whnf
  refine⟨k,_,rfl,ab hx,?_⟩
  repeat' ((conv=>whnf);first|refine Or.inl ?_|apply oi|(apply fi<;>intro h)|refine ci ((wV x hxw lk h0 h1)) (ai (ai rfl (ai rfl (ai rfl trivial))) (ai rfl trivial)) ?_|refine⟨_,rfl,?_⟩|exact rfl)
  all_goals try exact⟨KO⟩
  ·refine⟨congrArg (Tr.int _) ?_⟩
   rw[←hsz,if_pos (of_decide_eq_true h)]
  have h3:=of_decide_eq_false h
  rw[if_neg h3]at hsz
  have hsm:=mO (L:=1048576) _ _ (Int.not_lt.1 h3) h1
  conv=>whnf
  refine⟨⟨(k+1,_),by dsimp only;omega,by dsimp only;exact Int.not_lt.1 h3,by dsimp only;exact Int.le_trans hsm.2 h1,hsz⟩,?_,KD⟩
  repeat' ((conv=>whnf);first|refine Or.inl ?_|apply oi|(apply fi<;>intro h)|refine⟨_,rfl,?_⟩|exact rfl)
  all_goals try exact⟨KO⟩
  exact⟨by dsimp only;rw[IntWalk.i64_in _ (by omega)];rfl⟩
 ·have hge:xs.length≤k:=by have:=of_decide_eq_false h;omega
  rw[List.drop_eq_nil_of_le hge,List.map_nil,ll]at hsz
  exact⟨congrArg (Tr.int _) hsz⟩
theorem uZ (x:FX)(hs:aw 1048576 x.tr):Sim.Spec Tryz.prog 76 [.agg x.tr] (.r (.agg (x.tr.map zh))):=by
 simp only[FX.tr,aw]at hs
 refine aj hΓ ao Tryz.func76 rfl (by decide) rfl ?_
 repeat' ((conv=>whnf);first|refine Or.inl ?_|apply oi|(apply fi<;>intro h)|refine ci ((pX x.faf hs.2.2.1)) (ai rfl trivial) ?_|refine ci ((vi x.fad hs.2.2.2.1)) (ai rfl trivial) ?_|refine⟨_,rfl,?_⟩|exact rfl)
 all_goals try exact⟨KO⟩
theorem nn (x:FX)(hs:aw 1048576 x.tr):Sim.Spec Tryz.prog 81 [.agg x.tr,.agg x.tr] (rB true):=by
 simp only[FX.tr,aw]at hs
 refine aj hΓ ao Tryz.func81 rfl (by decide) rfl ?_
 repeat' ((conv=>whnf);first|refine Or.inl ?_|apply oi|(apply fi<;>intro h)|refine ci ((qL x.faf hs.2.2.1)) (ai rfl (ai rfl trivial)) ?_|refine ci ((vf x.fad hs.2.2.2.1)) (ai rfl (ai rfl trivial)) ?_|refine⟨_,rfl,?_⟩|exact rfl)
 all_goals try exact⟨KO⟩
 all_goals simp at *
theorem uY (x:FX)(hw:x.wf)(left:Int)(hle0:0≤left)(hle1:left≤1048576):Sim.Spec Tryz.prog 75 [.agg x.tr,tvI left] (rI (szR x.tr left)):=by
 simp only[FX.wf,maxLen]at hw
 obtain⟨Z,hz0⟩:∃Z,Z=szR x.tr left:=⟨_,rfl⟩
 have hz:=hz0
 rw[FX.tr]at hz
 refine aj hΓ ao Tryz.func75 rfl (by decide) rfl ?_
 rw[xG (by omega)]at hz
 repeat' ((conv=>whnf);first|refine Or.inl ?_|apply oi|(apply fi<;>intro h)|refine⟨_,rfl,?_⟩|exact rfl)
 all_goals try exact⟨KO⟩
 ·have h2:=of_decide_eq_true h
  rw[IntWalk.i64_in _ (by omega)]at h2
  exact⟨congrArg (Tr.int _) (hz0.symm.trans (hz.trans (ru h2))).symm⟩
 have g1:=of_decide_eq_false h
 rw[IntWalk.i64_in _ (by omega)]at g1
 clear h
 rw[IntWalk.i64_in (left - x.fab.length) (by omega)]
 rw[Bi g1]at hz
 repeat' ((conv=>whnf);first|refine Or.inl ?_|apply oi|(apply fi<;>intro h)|refine⟨_,rfl,?_⟩|exact rfl)
 all_goals try exact⟨KO⟩
 repeat' ((conv=>whnf);first|refine Or.inl ?_|apply oi|(apply fi<;>intro h)|refine ci ((qE x.faf (by simpa [maxLen]using hw.2.2.1) (left - x.fab.length) (by omega) (by omega))) (ai rfl (ai rfl trivial)) ?_|refine⟨_,rfl,?_⟩|exact rfl)
 all_goals try exact⟨KO⟩
 ·exact⟨congrArg (Tr.int _) (hz0.symm.trans (hz.trans (AX (of_decide_eq_true h)))).symm⟩
 have g2:=of_decide_eq_false h
 clear h
 rw[AG g2]at hz
 have b2:=(mr (L:=1048576) _ _ (Int.not_lt.1 g2) (by omega)).2
 repeat' ((conv=>whnf);first|refine Or.inl ?_|apply oi|(apply fi<;>intro h)|refine⟨_,rfl,?_⟩|exact rfl)
 all_goals try exact⟨KO⟩
 repeat' ((conv=>whnf);first|refine Or.inl ?_|apply oi|(apply fi<;>intro h)|refine ci ((vh x.fad (by simpa [maxLen]using hw.2.2.2) (szT (.lst 1 (x.faf.map ag)) (left - x.fab.length)) (by omega) (by omega))) (ai rfl (ai rfl trivial)) ?_|refine⟨_,rfl,?_⟩|exact rfl)
 all_goals try exact⟨KO⟩
 ·exact⟨congrArg (Tr.int _) (hz0.symm.trans (hz.trans (AX (of_decide_eq_true h)))).symm⟩
 have g3:=of_decide_eq_false h
 clear h
 rw[AG g3]at hz
 have b3:=(mr (L:=1048576) _ _ (Int.not_lt.1 g3) (by omega)).2
 all_goals exact⟨congrArg (Tr.int _) ((hz0.symm.trans (hz.trans (Bp _))).symm)⟩
theorem th (xs:List (FX))(hs:ay 1048576 (.lst 4 (xs.map FX.tr))):Sim.Spec Tryz.prog 30 [tvL 4 (xs.map FX.tr),tvL 4 (xs.map FX.tr)] (rB true):=by
 have hl:=cU hs
 have hlen:(xs.map FX.tr).length=xs.length:=by simp
 refine aj hΓ ao Tryz.func30 rfl (by decide) rfl ?_
 repeat' ((conv=>whnf);first|refine Or.inl ?_|apply oi|(apply fi<;>intro h)|refine⟨_,rfl,?_⟩|exact rfl)
 all_goals try exact⟨KO⟩
 ·simp at h
 conv=>whnf
 refine⟨{k:Nat // k≤xs.length},fun k=>⟨[(0,.r (.c (.t (.lst 4 (xs.map FX.tr))))),(1,.r (.c (.t (.lst 4 (xs.map FX.tr))))),(5,tI .i64 (k.1:Int))],[],[]⟩,fun k=>xs.length - k.1,⟨0,by omega⟩,?_,?_⟩
 ·skip
  repeat' ((conv=>whnf);first|refine Or.inl ?_|apply oi|(apply fi<;>intro h)|refine⟨_,rfl,?_⟩|exact rfl)
  all_goals try exact⟨KO⟩
 intro⟨k,hk⟩
 dsimp only
 repeat' ((conv=>whnf);first|refine Or.inl ?_|apply oi|(apply fi<;>intro h)|refine⟨_,rfl,?_⟩|exact rfl)
 all_goals try exact⟨KO⟩
 ·have hlt:k < xs.length:=by have:=of_decide_eq_true h;omega
  obtain⟨x,hx⟩:=ae hlt
  have hsr:=aA hs (List.mem_of_getElem? hx)
  conv=>whnf
  refine⟨k,_,rfl,ab hx,?_⟩
  repeat' ((conv=>whnf);first|refine Or.inl ?_|apply oi|(apply fi<;>intro h)|refine ci ((nn x hsr)) (ai (ai rfl (ai rfl (ai rfl (ai rfl trivial)))) (ai (ai rfl (ai rfl (ai rfl (ai rfl trivial)))) trivial)) ?_|refine⟨_,rfl,?_⟩|exact rfl)
  all_goals try exact⟨KO⟩
  conv=>whnf
  refine⟨k,_,rfl,ab hx,?_⟩
  repeat' ((conv=>whnf);first|refine Or.inl ?_|apply oi|(apply fi<;>intro h)|refine ci ((nn x hsr)) (ai (ai rfl (ai rfl (ai rfl (ai rfl trivial)))) (ai (ai rfl (ai rfl (ai rfl (ai rfl trivial)))) trivial)) ?_|refine⟨_,rfl,?_⟩|exact rfl)
  all_goals try exact⟨KO⟩
  all_goals try(exfalso;simp at h;done)
  conv=>whnf
  refine⟨⟨k+1,by omega⟩,?_,KD⟩
  repeat' ((conv=>whnf);first|refine Or.inl ?_|apply oi|(apply fi<;>intro h)|refine⟨_,rfl,?_⟩|exact rfl)
  all_goals try exact⟨KO⟩
  exact⟨by dsimp only;rw[IntWalk.i64_in _ (by omega)];rfl⟩
theorem tt (xs:List (FX))(hw:xs.length≤maxLen∧∀y∈xs,y.wf)(left:Int)(hle0:0≤left)(hle1:left≤1048576):Sim.Spec Tryz.prog 25 [tvL 4 (xs.map FX.tr),tvI left] (rI (szT (.lst 4 (xs.map FX.tr)) left)):=by
 have hl2:(xs.map FX.tr).length≤9223372036854775807:=by simpa [maxLen]using hw.1
 have hlen:(xs.map FX.tr).length=xs.length:=by simp
 rw[szT]
 refine aj hΓ ao Tryz.func25 rfl (by decide) rfl ?_
 repeat' ((conv=>whnf);first|refine Or.inl ?_|apply oi|(apply fi<;>intro h)|refine⟨_,rfl,?_⟩|exact rfl)
 all_goals try exact⟨KO⟩
 ·refine⟨congrArg (Tr.int _) ?_⟩
  have h2:=of_decide_eq_true h
  rw[IntWalk.i64_in _ (by omega)]at h2
  rw[if_pos h2]
 have h2:=of_decide_eq_false h
 rw[IntWalk.i64_in _ (by omega)]at h2 ⊢
 rw[if_neg h2]
 conv=>whnf
 refine⟨{q:Nat×Int // q.1≤xs.length∧0≤q.2∧q.2≤1048576∧ll ((xs.drop q.1).map FX.tr) q.2=ll (xs.map FX.tr) (left - (xs.map FX.tr).length)},fun q=>⟨[(0,.r (.c (.t (.lst 4 (xs.map FX.tr))))),(1,tI .i64 q.1.2),(5,tI .i64 (q.1.1:Int))],[],[]⟩,fun q=>xs.length - q.1.1,⟨(0,left - (xs.map FX.tr).length),by simp,by dsimp only;omega,by dsimp only;omega,by simp⟩,?_,?_⟩
 ·skip
  repeat' ((conv=>whnf);first|refine Or.inl ?_|apply oi|(apply fi<;>intro h)|refine⟨_,rfl,?_⟩|exact rfl)
  all_goals try exact⟨KO⟩
 intro⟨⟨k,lk⟩,hk,h0,h1,hsz⟩
 dsimp only at hk h0 h1 hsz ⊢
 repeat' ((conv=>whnf);first|refine Or.inl ?_|apply oi|(apply fi<;>intro h)|refine⟨_,rfl,?_⟩|exact rfl)
 all_goals try exact⟨KO⟩
 ·have hlt:k < xs.length:=by have:=of_decide_eq_true h;omega
  obtain⟨x,hx⟩:=ae hlt
  have hxw:=hw.2 x (List.mem_of_getElem? hx)
  rw[cV hx,List.map_cons,ll]at hsz
  conv=>whnf
  refine⟨k,_,rfl,ab hx,?_⟩
  repeat' ((conv=>whnf);first|refine Or.inl ?_|apply oi|(apply fi<;>intro h)|refine ci ((uY x hxw lk h0 h1)) (ai (ai rfl (ai rfl (ai rfl (ai rfl trivial)))) (ai rfl trivial)) ?_|refine⟨_,rfl,?_⟩|exact rfl)
  all_goals try exact⟨KO⟩
  ·refine⟨congrArg (Tr.int _) ?_⟩
   rw[←hsz,if_pos (of_decide_eq_true h)]
  have h3:=of_decide_eq_false h
  rw[if_neg h3]at hsz
  have hsm:=mO (L:=1048576) _ _ (Int.not_lt.1 h3) h1
  conv=>whnf
  refine⟨⟨(k+1,_),by dsimp only;omega,by dsimp only;exact Int.not_lt.1 h3,by dsimp only;exact Int.le_trans hsm.2 h1,hsz⟩,?_,KD⟩
  repeat' ((conv=>whnf);first|refine Or.inl ?_|apply oi|(apply fi<;>intro h)|refine⟨_,rfl,?_⟩|exact rfl)
  all_goals try exact⟨KO⟩
  exact⟨by dsimp only;rw[IntWalk.i64_in _ (by omega)];rfl⟩
 ·have hge:xs.length≤k:=by have:=of_decide_eq_false h;omega
  rw[List.drop_eq_nil_of_le hge,List.map_nil,ll]at hsz
  exact⟨congrArg (Tr.int _) hsz⟩
theorem uu (x:FO)(hs:aw 1048576 x.tr):Sim.Spec Tryz.prog 27 [.agg x.tr] (.r (.agg (x.tr.map zh))):=by
 simp only[FO.tr,aw]at hs
 refine aj hΓ ao Tryz.func27 rfl (by decide) rfl ?_
 repeat' ((conv=>whnf);first|refine Or.inl ?_|apply oi|(apply fi<;>intro h)|refine⟨_,rfl,?_⟩|exact rfl)
 all_goals try exact⟨KO⟩
theorem lf (x:Ge)(hs:aw 1048576 x.tr):Sim.Spec Tryz.prog 253 [.agg x.tr,.agg x.tr] (rB true):=by
 simp only[Ge.tr,aw]at hs
 refine aj hΓ ao Tryz.func253 rfl (by decide) rfl ?_
 repeat' ((conv=>whnf);first|refine Or.inl ?_|apply oi|(apply fi<;>intro h)|refine⟨_,rfl,?_⟩|exact rfl)
 all_goals try exact⟨KO⟩
 all_goals simp at *
theorem qw (xs:List (Ge))(hs:ay 1048576 (.lst 3 (xs.map Ge.tr))):Sim.Spec Tryz.prog 225 [tvL 3 (xs.map Ge.tr),tvL 3 (xs.map Ge.tr)] (rB true):=by
 have hl:=cU hs
 have hlen:(xs.map Ge.tr).length=xs.length:=by simp
 refine aj hΓ ao Tryz.func225 rfl (by decide) rfl ?_
 repeat' ((conv=>whnf);first|refine Or.inl ?_|apply oi|(apply fi<;>intro h)|refine⟨_,rfl,?_⟩|exact rfl)
 all_goals try exact⟨KO⟩
 ·simp at h
 conv=>whnf
 refine⟨{k:Nat // k≤xs.length},fun k=>⟨[(0,.r (.c (.t (.lst 3 (xs.map Ge.tr))))),(1,.r (.c (.t (.lst 3 (xs.map Ge.tr))))),(5,tI .i64 (k.1:Int))],[],[]⟩,fun k=>xs.length - k.1,⟨0,by omega⟩,?_,?_⟩
 ·skip
  repeat' ((conv=>whnf);first|refine Or.inl ?_|apply oi|(apply fi<;>intro h)|refine⟨_,rfl,?_⟩|exact rfl)
  all_goals try exact⟨KO⟩
 intro⟨k,hk⟩
 dsimp only
 repeat' ((conv=>whnf);first|refine Or.inl ?_|apply oi|(apply fi<;>intro h)|refine⟨_,rfl,?_⟩|exact rfl)
 all_goals try exact⟨KO⟩
 ·have hlt:k < xs.length:=by have:=of_decide_eq_true h;omega
  obtain⟨x,hx⟩:=ae hlt
  have hsr:=aA hs (List.mem_of_getElem? hx)
  conv=>whnf
  refine⟨k,_,rfl,ab hx,?_⟩
  repeat' ((conv=>whnf);first|refine Or.inl ?_|apply oi|(apply fi<;>intro h)|refine ci ((lf x hsr)) (ai (ai rfl (ai rfl (ai rfl trivial))) (ai (ai rfl (ai rfl (ai rfl trivial))) trivial)) ?_|refine⟨_,rfl,?_⟩|exact rfl)
  all_goals try exact⟨KO⟩
  conv=>whnf
  refine⟨k,_,rfl,ab hx,?_⟩
  repeat' ((conv=>whnf);first|refine Or.inl ?_|apply oi|(apply fi<;>intro h)|refine ci ((lf x hsr)) (ai (ai rfl (ai rfl (ai rfl trivial))) (ai (ai rfl (ai rfl (ai rfl trivial))) trivial)) ?_|refine⟨_,rfl,?_⟩|exact rfl)
  all_goals try exact⟨KO⟩
  all_goals try(exfalso;simp at h;done)
  conv=>whnf
  refine⟨⟨k+1,by omega⟩,?_,KD⟩
  repeat' ((conv=>whnf);first|refine Or.inl ?_|apply oi|(apply fi<;>intro h)|refine⟨_,rfl,?_⟩|exact rfl)
  all_goals try exact⟨KO⟩
  exact⟨by dsimp only;rw[IntWalk.i64_in _ (by omega)];rfl⟩
theorem lu (x:FU)(hs:aw 1048576 x.tr):Sim.Spec Tryz.prog 167 [.agg x.tr,.agg x.tr] (rB true):=by
 simp only[FU.tr,aw]at hs
 refine aj hΓ ao Tryz.func167 rfl (by decide) rfl ?_
 repeat' ((conv=>whnf);first|refine Or.inl ?_|apply oi|(apply fi<;>intro h)|refine ci ((qw x.fae hs.2.1)) (ai rfl (ai rfl trivial)) ?_|refine⟨_,rfl,?_⟩|exact rfl)
 all_goals try exact⟨KO⟩
 all_goals simp at *
theorem sd (xs:List (FU))(hs:ay 1048576 (.lst 2 (xs.map FU.tr))):Sim.Spec Tryz.prog 90 [tvL 2 (xs.map FU.tr),tvL 2 (xs.map FU.tr)] (rB true):=by
 have hl:=cU hs
 have hlen:(xs.map FU.tr).length=xs.length:=by simp
 refine aj hΓ ao Tryz.func90 rfl (by decide) rfl ?_
 repeat' ((conv=>whnf);first|refine Or.inl ?_|apply oi|(apply fi<;>intro h)|refine⟨_,rfl,?_⟩|exact rfl)
 all_goals try exact⟨KO⟩
 ·simp at h
 conv=>whnf
 refine⟨{k:Nat // k≤xs.length},fun k=>⟨[(0,.r (.c (.t (.lst 2 (xs.map FU.tr))))),(1,.r (.c (.t (.lst 2 (xs.map FU.tr))))),(5,tI .i64 (k.1:Int))],[],[]⟩,fun k=>xs.length - k.1,⟨0,by omega⟩,?_,?_⟩
 ·skip
  repeat' ((conv=>whnf);first|refine Or.inl ?_|apply oi|(apply fi<;>intro h)|refine⟨_,rfl,?_⟩|exact rfl)
  all_goals try exact⟨KO⟩
 intro⟨k,hk⟩
 dsimp only
 repeat' ((conv=>whnf);first|refine Or.inl ?_|apply oi|(apply fi<;>intro h)|refine⟨_,rfl,?_⟩|exact rfl)
 all_goals try exact⟨KO⟩
 ·have hlt:k < xs.length:=by have:=of_decide_eq_true h;omega
  obtain⟨x,hx⟩:=ae hlt
  have hsr:=aA hs (List.mem_of_getElem? hx)
  conv=>whnf
  refine⟨k,_,rfl,ab hx,?_⟩
  repeat' ((conv=>whnf);first|refine Or.inl ?_|apply oi|(apply fi<;>intro h)|refine ci ((lu x hsr)) (ai (ai rfl (ai rfl trivial)) (ai (ai rfl (ai rfl trivial)) trivial)) ?_|refine⟨_,rfl,?_⟩|exact rfl)
  all_goals try exact⟨KO⟩
  conv=>whnf
  refine⟨k,_,rfl,ab hx,?_⟩
  repeat' ((conv=>whnf);first|refine Or.inl ?_|apply oi|(apply fi<;>intro h)|refine ci ((lu x hsr)) (ai (ai rfl (ai rfl trivial)) (ai (ai rfl (ai rfl trivial)) trivial)) ?_|refine⟨_,rfl,?_⟩|exact rfl)
  all_goals try exact⟨KO⟩
  all_goals try(exfalso;simp at h;done)
  conv=>whnf
  refine⟨⟨k+1,by omega⟩,?_,KD⟩
  repeat' ((conv=>whnf);first|refine Or.inl ?_|apply oi|(apply fi<;>intro h)|refine⟨_,rfl,?_⟩|exact rfl)
  all_goals try exact⟨KO⟩
  exact⟨by dsimp only;rw[IntWalk.i64_in _ (by omega)];rfl⟩
theorem uq (x:Gd)(hs:aw 1048576 x.tr):Sim.Spec Tryz.prog 36 [.agg x.tr,.agg x.tr] (rB true):=by
 simp only[Gd.tr,aw]at hs
 refine aj hΓ ao Tryz.func36 rfl (by decide) rfl ?_
 repeat' ((conv=>whnf);first|refine Or.inl ?_|apply oi|(apply fi<;>intro h)|refine ci ((sd x.fam hs.1)) (ai rfl (ai rfl trivial)) ?_|refine ci ((nh x.fao x.fao (aI hs.2.1))) (ai rfl (ai rfl trivial)) ?_|refine ci ((nh x.faq x.faq (aI hs.2.2.1))) (ai rfl (ai rfl trivial)) ?_|refine⟨_,rfl,?_⟩|exact rfl)
 all_goals try exact⟨KO⟩
 all_goals simp at *
end Go.Proofs.YtoglejgmjeojoaaGreat
namespace Go.Proofs.YtoglejgmjeojoaaGreat
open Go.Sim Go.RowKit
set_option maxRecDepth 100000
set_option maxHeartbeats 4000000
theorem yj:∀(cs:List Tr) (k:Int),(∀c∈cs,∀sz rs,c≠.lst sz rs)→∀c∈mkR cs k,∀sz rs,c≠.lst sz rs
 | [],_,_,c,hc,_,_=>by rw[mkR]at hc;cases hc
 | d::cs,k,h,c,hc,sz,rs=>by
  rw[mkR]at hc
  rcases List.mem_cons.1 hc with rfl|hc
  ·have:=h d (by simp)
   cases d with
   | lst sz rows=>exact absurd rfl (this sz rows)
   | _=>intro e;simp[mkT]at e
  ·exact yj cs _ (fun c hc=>h c (by simp[hc])) c hc sz rs
theorem pb:∀(rows:List (List Tr)) (k:Int),flat rows→flat (aK rows k)
 | [],_,_=>by rw[aK];intro r hr;cases hr
 | r::rows,k,h=>by
  rw[aK]
  intro row hr
  rcases List.mem_cons.1 hr with rfl|hr
  ·exact yj r k (h r (by simp))
  ·exact pb rows _ (fun r hr=>h r (by simp[hr])) row hr
theorem Dv (m:Nat):IntKind.u8.wrap (IntKind.i64.wrap (48+(m:Int).tmod 10))=((UInt8.ofNat (48+m % 10)).toNat:Int):=by
 rw[Int.tmod_eq_emod_of_nonneg (by omega),IntWalk.i64_in _ (by omega),IntWalk.u8_in _ (by omega)]
 simp
 omega
theorem Ez (m:Nat)(h:m≤9223372036854775807):IntKind.i64.wrap ((m:Int).tdiv 10)=((m / 10:Nat):Int):=by
 rw[Int.tdiv_eq_ediv_of_nonneg (by omega),IntWalk.i64_in _ (by omega)]
 omega
theorem bL (k:Int)(hk:k≤9223372036854775807):Sim.Spec Tryz.prog 82 [tvI k] (rS (ww k)):=by
 refine aj hΓ ao Tryz.func82 rfl (by decide) rfl ?_
 repeat' ((conv=>whnf);first|refine Or.inl ?_|apply oi|(apply fi<;>intro h)|refine⟨_,rfl,?_⟩|exact rfl)
 all_goals try exact⟨KO⟩
 ·exact⟨by rw[ww,if_pos (of_decide_eq_true h)]⟩
 have h0:¬k≤0:=of_decide_eq_false h
 clear h
 rw[ww,if_neg h0]
 obtain⟨n,rfl⟩:=Int.eq_ofNat_of_zero_le (show 0≤k by omega)
 conv=>whnf
 refine⟨{q:Nat×List UInt8 // digs q.1 q.2=digs n []∧q.1 * 10 ^ q.2.length≤9223372036854775807∧q.2.length≤20},fun q=>⟨[(0,tI .i64 (q.1.1:Nat)),(3,tS q.1.2)],[],[]⟩,fun q=>q.1.1,⟨(n,[]),by simp,by simp;omega,by simp⟩,?_,?_⟩
 ·skip
  repeat' ((conv=>whnf);first|refine Or.inl ?_|apply oi|(apply fi<;>intro h)|refine⟨_,rfl,?_⟩|exact rfl)
  all_goals try exact⟨KO⟩
 intro⟨⟨m,o⟩,hd,hb,hl⟩
 dsimp only at hd hb hl ⊢
 have hm:m≤9223372036854775807:=Nat.le_trans (Nat.le_mul_of_pos_right m (Nat.pow_pos (by omega))) hb
 repeat' ((conv=>whnf);first|refine Or.inl ?_|apply oi|(apply fi<;>intro h)|refine⟨_,rfl,?_⟩|exact rfl)
 all_goals try exact⟨KO⟩
 all_goals try exact⟨fun r hr=>by simp at hr;subst hr;rfl⟩
 all_goals try exact⟨K1⟩
 ·have hmp:0 < m:=by have:=of_decide_eq_true h;omega
  have hl18:o.length≤18:=by
   rcases Nat.lt_or_ge 18 o.length with h'|h'
   ·have h1:10 ^ 19≤10 ^ o.length:=Nat.pow_le_pow_right (by omega) h'
    have h2:10 ^ o.length≤m * 10 ^ o.length:=Nat.le_mul_of_pos_left _ hmp
    omega
   ·exact h'
  conv=>whnf
  refine⟨[UInt8.ofNat (48+m % 10)],by rw[Dv];rfl,?_⟩
  repeat' ((conv=>whnf);first|refine Or.inl ?_|apply oi|(apply fi<;>intro h)|refine⟨_,rfl,?_⟩|exact rfl)
  all_goals try exact⟨KO⟩
  all_goals try exact⟨K1⟩
  conv=>whnf
  refine⟨⟨(m / 10,UInt8.ofNat (48+m % 10)::o),by rw[←hd,digs.eq_def m,if_neg (by omega)],?_,by simp;omega⟩,?_,KD⟩
  ·dsimp only
   rw[List.length_cons,Nat.pow_succ]
   have h1:m / 10 * 10≤m:=Nat.div_mul_le_self m 10
   have h2:=Nat.mul_le_mul_right (10 ^ o.length) h1
   rw[Nat.mul_comm (10 ^ o.length) 10,←Nat.mul_assoc]
   omega
  repeat' ((conv=>whnf);first|refine Or.inl ?_|apply oi|(apply fi<;>intro h)|refine⟨_,rfl,?_⟩|exact rfl)
  all_goals try exact⟨KO⟩
  exact⟨by dsimp only;rw[Ez m hm]⟩
 ·have hm0:m=0:=by have:=of_decide_eq_false h;omega
  subst hm0
  rw[digs,if_pos rfl]at hd
  exact⟨by rw[hd];rfl⟩
theorem kY (xs:List (Int))(k:Int)(hk0:0≤k)(hl:xs.length≤1099511627776)(hk:k+(aq (xs.map aa):Nat)≤4611686018427387904):bx Tryz.prog 85 [.r (.c (.own (0,0,0))),tI .i64 k] [((0,0,0),.arr false 1 (xs.map aa))] (tI .i64 (k+(aq (xs.map aa):Nat))) [((0,0,0),.arr false 1 (aK (xs.map aa) k))]:=by
 refine dU hΓ ao Tryz.func85 rfl (by decide) rfl rfl ?_
 repeat' ((conv=>whnf);first|refine Or.inl ?_|apply oi|(apply fi<;>intro h)|refine⟨_,rfl,?_⟩|exact rfl)
 all_goals try exact⟨KO⟩
 conv=>whnf
 refine⟨{q:List (Int)×List (Int) // q.1++q.2=xs},fun q=>⟨[(0,.r (.c (.own (0,0,0)))),(1,tI .i64 (k+(aq (q.1.1.map aa):Nat))),(5,tI .i64 (q.1.1.length:Nat))],[((0,0,0),some (.arr false 1 (aK (q.1.1.map aa) k++q.1.2.map aa)))],[0]⟩,fun q=>q.1.2.length,⟨([],xs),rfl⟩,?_,?_⟩
 ·skip
  repeat' ((conv=>whnf);first|refine Or.inl ?_|apply oi|(apply fi<;>intro h)|refine⟨_,rfl,?_⟩|exact rfl)
  all_goals try exact⟨KO⟩
  all_goals exact⟨by first|rfl|simp[aq,aK]⟩
 intro⟨⟨a,b⟩,hab⟩
 dsimp only at hab ⊢
 have hal:a.length+b.length≤1099511627776:=by rw[←List.length_append,hab];exact hl
 have hsum:k+(aq (a.map aa):Nat)+(aq (b.map aa):Nat)=k+(aq (xs.map aa):Nat):=by rw[←hab,List.map_append,cy];omega
 have hall:aK (xs.map aa) k=aK (a.map aa) k++aK (b.map aa) (k+(aq (a.map aa):Nat)):=by rw[←hab,List.map_append,bF]
 have hDl:(aK (a.map aa) k).length=a.length:=by rw[bS,List.length_map]
 generalize hR:aK (a.map aa) k++b.map aa=R
 have hRl:R.length=a.length+b.length:=by rw[←hR];simp[hDl]
 generalize hK:k+(aq (a.map aa):Nat)=K at hsum hall ⊢
 generalize hD:aK (a.map aa) k=D at hR hall hDl
 generalize hT:aK (xs.map aa) k=T at hall ⊢
 generalize hC:k+(aq (xs.map aa):Nat)=C at hk hsum ⊢
 have hK0:0≤K:=by omega
 rcases hb:b with _|⟨x,b2⟩
 all_goals rw[hb]at hR hall hsum hRl hal
 ·have hKC:K=C:=by simpa [aq]using hsum
  have hRT:R=T:=by rw[hall,←hR];simp[aK]
  repeat' ((conv=>whnf);first|refine Or.inl ?_|apply oi|(apply fi<;>intro h)|refine⟨_,rfl,?_⟩|exact rfl)
  all_goals try exact⟨KO⟩
  all_goals try(exfalso;have h':=of_decide_eq_true h;rw[hRl]at h';simp at h';done)
  all_goals first|exact⟨by rw[hKC]⟩|exact⟨hRT⟩
 ·have hal2:a.length+(b2.length+1)≤1099511627776:=hal
  have hcx:cnR (aa x)=1:=by simp only[aa,cnR,cnT]
  have hsm:K+((1:Nat):Int)+(aq (b2.map aa):Nat)=C:=by rw[←hsum,List.map_cons,aq,hcx];omega
  have hRl2:R.length=a.length+(b2.length+1):=hRl
  have bh:R[a.length]?=some (aa x):=by rw[←hR];exact ik hDl
  repeat' ((conv=>whnf);first|refine Or.inl ?_|apply oi|(apply fi<;>intro h)|refine⟨_,bh,?_⟩|refine⟨_,jk (by(try simp only[List.length_set]);omega),?_⟩|refine ci ((bL _ (by(try simp(disch:=omega)only[IntWalk.i64_in]);omega))) (ai rfl trivial) ?_|refine⟨_,rfl,?_⟩|exact rfl)
  all_goals try exact⟨KO⟩
  all_goals try(exfalso;have h':=of_decide_eq_false h;omega;done)
  all_goals try exact⟨by(try simp only[List.length_set]);omega⟩
  conv=>whnf
  refine⟨⟨(a++[x],b2),by rw[←hab,hb];simp⟩,?_,Nat.lt_succ_self _⟩
  repeat' ((conv=>whnf);first|refine Or.inl ?_|apply oi|(apply fi<;>intro h)|refine⟨_,rfl,?_⟩|exact rfl)
  all_goals try exact⟨KO⟩
  ·refine⟨congrArg (Tr.int _) ?_⟩
   dsimp only
   rw[ew,hcx]
   try simp(disch:=omega)only[IntWalk.i64_in]
   try omega
  ·refine⟨congrArg (Tr.int _) ?_⟩
   dsimp only
   rw[List.length_append]
   try simp(disch:=omega)only[IntWalk.i64_in]
   try rfl
  ·refine⟨?_⟩
   dsimp only
   rw[iy,iv,hD,hK,←hR]
   try simp(disch:=omega)only[set_set,mK hDl,List.map_cons,IntWalk.i64_in]
   try rfl
theorem lc (xs:List (Int))(k:Int)(hk0:0≤k)(hl:xs.length≤1099511627776)(hk:k+(aq (xs.map aa):Nat)≤4611686018427387904):Sim.Spec Tryz.prog 86 [tvL 1 (aK (xs.map aa) k),tvI k] (rI (k+(aq (xs.map aa):Nat))):=by
 refine aj hΓ ao Tryz.func86 rfl (by decide) rfl ?_
 have hTl:(aK (xs.map aa) k).length=xs.length:=by rw[bS,List.length_map]
 have hal0:=fun(a b:List (Int))=>bF (a.map aa) (b.map aa) k
 generalize hT:aK (xs.map aa) k=T at hTl ⊢
 repeat' ((conv=>whnf);first|refine Or.inl ?_|apply oi|(apply fi<;>intro h)|refine⟨_,rfl,?_⟩|exact rfl)
 all_goals try exact⟨KO⟩
 conv=>whnf
 refine⟨{q:List (Int)×List (Int) // q.1++q.2=xs},fun q=>⟨[(0,.r (.c (.t (.lst 1 T)))),(1,tI .i64 (k+(aq (q.1.1.map aa):Nat))),(5,tI .i64 (q.1.1.length:Nat))],[],[]⟩,fun q=>q.1.2.length,⟨([],xs),rfl⟩,?_,?_⟩
 ·skip
  repeat' ((conv=>whnf);first|refine Or.inl ?_|apply oi|(apply fi<;>intro h)|refine⟨_,rfl,?_⟩|exact rfl)
  all_goals try exact⟨KO⟩
  all_goals exact⟨by first|rfl|simp[aq]⟩
 intro⟨⟨a,b⟩,hab⟩
 dsimp only at hab ⊢
 have hal:a.length+b.length≤1099511627776:=by rw[←List.length_append,hab];exact hl
 have hsum:k+(aq (a.map aa):Nat)+(aq (b.map aa):Nat)=k+(aq (xs.map aa):Nat):=by rw[←hab,List.map_append,cy];omega
 have hall:T=aK (a.map aa) k++aK (b.map aa) (k+(aq (a.map aa):Nat)):=by rw[←hT,←hab,List.map_append,bF]
 have hDl:(aK (a.map aa) k).length=a.length:=by rw[bS,List.length_map]
 have hTl2:T.length=a.length+b.length:=by rw[hTl,←hab,List.length_append]
 generalize hK:k+(aq (a.map aa):Nat)=K at hsum hall ⊢
 generalize hD:aK (a.map aa) k=D at hall hDl
 generalize hC:k+(aq (xs.map aa):Nat)=C at hk hsum ⊢
 have hK0:0≤K:=by omega
 rcases hb:b with _|⟨x,b2⟩
 all_goals rw[hb]at hall hsum hTl2 hal
 ·have hKC:K=C:=by simpa [aq]using hsum
  repeat' ((conv=>whnf);first|refine Or.inl ?_|apply oi|(apply fi<;>intro h)|refine⟨_,rfl,?_⟩|exact rfl)
  all_goals try exact⟨KO⟩
  all_goals try(exfalso;have h':=of_decide_eq_true h;rw[hTl2]at h';simp at h';done)
  all_goals exact⟨by rw[hKC]⟩
 ·have hal2:a.length+(b2.length+1)≤1099511627776:=hal
  have hcx:cnR (aa x)=1:=by simp only[aa,cnR,cnT]
  have hsm:K+((1:Nat):Int)+(aq (b2.map aa):Nat)=C:=by rw[←hsum,List.map_cons,aq,hcx];omega
  have hTl3:T.length=a.length+(b2.length+1):=hTl2
  have bh:T[a.length]?=some [.int .i64 (K)]:=by rw[hall,List.map_cons,aK];exact ik hDl
  repeat' ((conv=>whnf);first|refine Or.inl ?_|apply oi|(apply fi<;>intro h)|refine⟨a.length,_,rfl,bh,?_⟩|refine⟨_,rfl,?_⟩|exact rfl)
  all_goals try exact⟨KO⟩
  all_goals try(exfalso;have h':=of_decide_eq_false h;omega;done)
  all_goals try(exfalso;(try have h':=of_decide_eq_true h);(try simp(disch:=omega) [IntWalk.i64_in]at h');(try simp(disch:=omega) [IntWalk.i64_in]at h);(try omega);done)
  conv=>whnf
  refine⟨⟨(a++[x],b2),by rw[←hab,hb];simp⟩,?_,Nat.lt_succ_self _⟩
  repeat' ((conv=>whnf);first|refine Or.inl ?_|apply oi|(apply fi<;>intro h)|refine⟨_,rfl,?_⟩|exact rfl)
  all_goals try exact⟨KO⟩
  ·refine⟨congrArg (Tr.int _) ?_⟩
   dsimp only
   rw[ew,hcx]
   try simp(disch:=omega)only[IntWalk.i64_in]
   try omega
  ·refine⟨congrArg (Tr.int _) ?_⟩
   dsimp only
   rw[List.length_append]
   try simp(disch:=omega)only[IntWalk.i64_in]
   try rfl
theorem Ba (xs:List (Int))(hs:ay 1048576 (.lst 1 (xs.map aa))):aq (xs.map aa)≤1048576 * 1:=by
 have h1:=aI hs
 refine Nat.le_trans (fh (g:=aa) (M:=1) fun x hx=>?_) (Nat.mul_le_mul_right _ h1)
 have hcx:cnR (aa x)=1:=by simp only[aa,cnR,cnT]
 rw[hcx]
 omega
theorem og (xs:List (List UInt8))(k:Int)(hk0:0≤k)(hl:xs.length≤1099511627776)(hk:k+(aq (xs.map ag):Nat)≤4611686018427387904):bx Tryz.prog 83 [.r (.c (.own (0,0,0))),tI .i64 k] [((0,0,0),.arr false 1 (xs.map ag))] (tI .i64 (k+(aq (xs.map ag):Nat))) [((0,0,0),.arr false 1 (aK (xs.map ag) k))]:=by
 refine dU hΓ ao Tryz.func83 rfl (by decide) rfl rfl ?_
 repeat' ((conv=>whnf);first|refine Or.inl ?_|apply oi|(apply fi<;>intro h)|refine⟨_,rfl,?_⟩|exact rfl)
 all_goals try exact⟨KO⟩
 conv=>whnf
 refine⟨{q:List (List UInt8)×List (List UInt8) // q.1++q.2=xs},fun q=>⟨[(0,.r (.c (.own (0,0,0)))),(1,tI .i64 (k+(aq (q.1.1.map ag):Nat))),(5,tI .i64 (q.1.1.length:Nat))],[((0,0,0),some (.arr false 1 (aK (q.1.1.map ag) k++q.1.2.map ag)))],[0]⟩,fun q=>q.1.2.length,⟨([],xs),rfl⟩,?_,?_⟩
 ·skip
  repeat' ((conv=>whnf);first|refine Or.inl ?_|apply oi|(apply fi<;>intro h)|refine⟨_,rfl,?_⟩|exact rfl)
  all_goals try exact⟨KO⟩
  all_goals exact⟨by first|rfl|simp[aq,aK]⟩
 intro⟨⟨a,b⟩,hab⟩
 dsimp only at hab ⊢
 have hal:a.length+b.length≤1099511627776:=by rw[←List.length_append,hab];exact hl
 have hsum:k+(aq (a.map ag):Nat)+(aq (b.map ag):Nat)=k+(aq (xs.map ag):Nat):=by rw[←hab,List.map_append,cy];omega
 have hall:aK (xs.map ag) k=aK (a.map ag) k++aK (b.map ag) (k+(aq (a.map ag):Nat)):=by rw[←hab,List.map_append,bF]
 have hDl:(aK (a.map ag) k).length=a.length:=by rw[bS,List.length_map]
 generalize hR:aK (a.map ag) k++b.map ag=R
 have hRl:R.length=a.length+b.length:=by rw[←hR];simp[hDl]
 generalize hK:k+(aq (a.map ag):Nat)=K at hsum hall ⊢
 generalize hD:aK (a.map ag) k=D at hR hall hDl
 generalize hT:aK (xs.map ag) k=T at hall ⊢
 generalize hC:k+(aq (xs.map ag):Nat)=C at hk hsum ⊢
 have hK0:0≤K:=by omega
 rcases hb:b with _|⟨x,b2⟩
 all_goals rw[hb]at hR hall hsum hRl hal
 ·have hKC:K=C:=by simpa [aq]using hsum
  have hRT:R=T:=by rw[hall,←hR];simp[aK]
  repeat' ((conv=>whnf);first|refine Or.inl ?_|apply oi|(apply fi<;>intro h)|refine⟨_,rfl,?_⟩|exact rfl)
  all_goals try exact⟨KO⟩
  all_goals try(exfalso;have h':=of_decide_eq_true h;rw[hRl]at h';simp at h';done)
  all_goals first|exact⟨by rw[hKC]⟩|exact⟨hRT⟩
 ·have hal2:a.length+(b2.length+1)≤1099511627776:=hal
  have hcx:cnR (ag x)=1:=by simp only[ag,cnR,cnT]
  have hsm:K+((1:Nat):Int)+(aq (b2.map ag):Nat)=C:=by rw[←hsum,List.map_cons,aq,hcx];omega
  have hRl2:R.length=a.length+(b2.length+1):=hRl
  have bh:R[a.length]?=some (ag x):=by rw[←hR];exact ik hDl
  repeat' ((conv=>whnf);first|refine Or.inl ?_|apply oi|(apply fi<;>intro h)|refine⟨_,bh,?_⟩|refine⟨_,jk (by(try simp only[List.length_set]);omega),?_⟩|refine ci ((bL _ (by(try simp(disch:=omega)only[IntWalk.i64_in]);omega))) (ai rfl trivial) ?_|refine⟨_,rfl,?_⟩|exact rfl)
  all_goals try exact⟨KO⟩
  all_goals try(exfalso;have h':=of_decide_eq_false h;omega;done)
  all_goals try exact⟨by(try simp only[List.length_set]);omega⟩
  conv=>whnf
  refine⟨⟨(a++[x],b2),by rw[←hab,hb];simp⟩,?_,Nat.lt_succ_self _⟩
  repeat' ((conv=>whnf);first|refine Or.inl ?_|apply oi|(apply fi<;>intro h)|refine⟨_,rfl,?_⟩|exact rfl)
  all_goals try exact⟨KO⟩
  ·refine⟨congrArg (Tr.int _) ?_⟩
   dsimp only
   rw[ew,hcx]
   try simp(disch:=omega)only[IntWalk.i64_in]
   try omega
  ·refine⟨congrArg (Tr.int _) ?_⟩
   dsimp only
   rw[List.length_append]
   try simp(disch:=omega)only[IntWalk.i64_in]
   try rfl
  ·refine⟨?_⟩
   dsimp only
   rw[iy,iv,hD,hK,←hR]
   try simp(disch:=omega)only[set_set,mK hDl,List.map_cons,IntWalk.i64_in]
   try rfl
theorem zG (xs:List (List UInt8))(hs:ay 1048576 (.lst 1 (xs.map ag))):aq (xs.map ag)≤1048576 * 1:=by
 have h1:=aI hs
 refine Nat.le_trans (fh (g:=ag) (M:=1) fun x hx=>?_) (Nat.mul_le_mul_right _ h1)
 have hcx:cnR (ag x)=1:=by simp only[ag,cnR,cnT]
 rw[hcx]
 omega
theorem rJ (xs:List (Gf))(k:Int)(hk0:0≤k)(hl:xs.length≤1099511627776)(hk:k+(aq (xs.map Gf.tr):Nat)≤4611686018427387904):bx Tryz.prog 84 [.r (.c (.own (0,0,0))),tI .i64 k] [((0,0,0),.arr false 3 (xs.map Gf.tr))] (tI .i64 (k+(aq (xs.map Gf.tr):Nat))) [((0,0,0),.arr false 3 (aK (xs.map Gf.tr) k))]:=by
 refine dU hΓ ao Tryz.func84 rfl (by decide) rfl rfl ?_
 repeat' ((conv=>whnf);first|refine Or.inl ?_|apply oi|(apply fi<;>intro h)|refine⟨_,rfl,?_⟩|exact rfl)
 all_goals try exact⟨KO⟩
 conv=>whnf
 refine⟨{q:List (Gf)×List (Gf) // q.1++q.2=xs},fun q=>⟨[(0,.r (.c (.own (0,0,0)))),(1,tI .i64 (k+(aq (q.1.1.map Gf.tr):Nat))),(5,tI .i64 (q.1.1.length:Nat))],[((0,0,0),some (.arr false 3 (aK (q.1.1.map Gf.tr) k++q.1.2.map Gf.tr)))],[0]⟩,fun q=>q.1.2.length,⟨([],xs),rfl⟩,?_,?_⟩
 ·skip
  repeat' ((conv=>whnf);first|refine Or.inl ?_|apply oi|(apply fi<;>intro h)|refine⟨_,rfl,?_⟩|exact rfl)
  all_goals try exact⟨KO⟩
  all_goals exact⟨by first|rfl|simp[aq,aK]⟩
 intro⟨⟨a,b⟩,hab⟩
 dsimp only at hab ⊢
 have hal:a.length+b.length≤1099511627776:=by rw[←List.length_append,hab];exact hl
 have hsum:k+(aq (a.map Gf.tr):Nat)+(aq (b.map Gf.tr):Nat)=k+(aq (xs.map Gf.tr):Nat):=by rw[←hab,List.map_append,cy];omega
 have hall:aK (xs.map Gf.tr) k=aK (a.map Gf.tr) k++aK (b.map Gf.tr) (k+(aq (a.map Gf.tr):Nat)):=by rw[←hab,List.map_append,bF]
 have hDl:(aK (a.map Gf.tr) k).length=a.length:=by rw[bS,List.length_map]
 generalize hR:aK (a.map Gf.tr) k++b.map Gf.tr=R
 have hRl:R.length=a.length+b.length:=by rw[←hR];simp[hDl]
 generalize hK:k+(aq (a.map Gf.tr):Nat)=K at hsum hall ⊢
 generalize hD:aK (a.map Gf.tr) k=D at hR hall hDl
 generalize hT:aK (xs.map Gf.tr) k=T at hall ⊢
 generalize hC:k+(aq (xs.map Gf.tr):Nat)=C at hk hsum ⊢
 have hK0:0≤K:=by omega
 rcases hb:b with _|⟨x,b2⟩
 all_goals rw[hb]at hR hall hsum hRl hal
 ·have hKC:K=C:=by simpa [aq]using hsum
  have hRT:R=T:=by rw[hall,←hR];simp[aK]
  repeat' ((conv=>whnf);first|refine Or.inl ?_|apply oi|(apply fi<;>intro h)|refine⟨_,rfl,?_⟩|exact rfl)
  all_goals try exact⟨KO⟩
  all_goals try(exfalso;have h':=of_decide_eq_true h;rw[hRl]at h';simp at h';done)
  all_goals first|exact⟨by rw[hKC]⟩|exact⟨hRT⟩
 ·have hal2:a.length+(b2.length+1)≤1099511627776:=hal
  have hcx:cnR (Gf.tr x)=3:=by simp only[Gf.tr,cnR,cnT]
  have hsm:K+((3:Nat):Int)+(aq (b2.map Gf.tr):Nat)=C:=by rw[←hsum,List.map_cons,aq,hcx];omega
  have hRl2:R.length=a.length+(b2.length+1):=hRl
  have bh:R[a.length]?=some (Gf.tr x):=by rw[←hR];exact ik hDl
  repeat' ((conv=>whnf);first|refine Or.inl ?_|apply oi|(apply fi<;>intro h)|refine⟨_,bh,?_⟩|refine⟨_,jk (by(try simp only[List.length_set]);omega),?_⟩|refine ci ((bL _ (by(try simp(disch:=omega)only[IntWalk.i64_in]);omega))) (ai rfl trivial) ?_|refine⟨_,rfl,?_⟩|exact rfl)
  all_goals try exact⟨KO⟩
  all_goals try(exfalso;have h':=of_decide_eq_false h;omega;done)
  all_goals try exact⟨by(try simp only[List.length_set]);omega⟩
  conv=>whnf
  refine⟨⟨(a++[x],b2),by rw[←hab,hb];simp⟩,?_,Nat.lt_succ_self _⟩
  repeat' ((conv=>whnf);first|refine Or.inl ?_|apply oi|(apply fi<;>intro h)|refine⟨_,rfl,?_⟩|exact rfl)
  all_goals try exact⟨KO⟩
  ·refine⟨congrArg (Tr.int _) ?_⟩
   dsimp only
   rw[ew,hcx]
   try simp(disch:=omega)only[IntWalk.i64_in]
   try omega
  ·refine⟨congrArg (Tr.int _) ?_⟩
   dsimp only
   rw[List.length_append]
   try simp(disch:=omega)only[IntWalk.i64_in]
   try rfl
  ·refine⟨?_⟩
   dsimp only
   rw[iy,iv,hD,hK,←hR]
   try simp(disch:=omega)only[set_set,mK hDl,List.map_cons,IntWalk.i64_in]
   try rfl
theorem EG (xs:List (Gf))(hs:ay 1048576 (.lst 3 (xs.map Gf.tr))):aq (xs.map Gf.tr)≤1048576 * 3:=by
 have h1:=aI hs
 refine Nat.le_trans (fh (g:=Gf.tr) (M:=3) fun x hx=>?_) (Nat.mul_le_mul_right _ h1)
 have hcx:cnR (Gf.tr x)=3:=by simp only[Gf.tr,cnR,cnT]
 rw[hcx]
 omega
theorem nC (xs:List (Ge))(k:Int)(hk0:0≤k)(hl:xs.length≤1099511627776)(hk:k+(aq (xs.map Ge.tr):Nat)≤4611686018427387904):bx Tryz.prog 168 [.r (.c (.own (0,0,0))),tI .i64 k] [((0,0,0),.arr false 3 (xs.map Ge.tr))] (tI .i64 (k+(aq (xs.map Ge.tr):Nat))) [((0,0,0),.arr false 3 (aK (xs.map Ge.tr) k))]:=by
 refine dU hΓ ao Tryz.func168 rfl (by decide) rfl rfl ?_
 repeat' ((conv=>whnf);first|refine Or.inl ?_|apply oi|(apply fi<;>intro h)|refine⟨_,rfl,?_⟩|exact rfl)
 all_goals try exact⟨KO⟩
 conv=>whnf
 refine⟨{q:List (Ge)×List (Ge) // q.1++q.2=xs},fun q=>⟨[(0,.r (.c (.own (0,0,0)))),(1,tI .i64 (k+(aq (q.1.1.map Ge.tr):Nat))),(5,tI .i64 (q.1.1.length:Nat))],[((0,0,0),some (.arr false 3 (aK (q.1.1.map Ge.tr) k++q.1.2.map Ge.tr)))],[0]⟩,fun q=>q.1.2.length,⟨([],xs),rfl⟩,?_,?_⟩
 ·skip
  repeat' ((conv=>whnf);first|refine Or.inl ?_|apply oi|(apply fi<;>intro h)|refine⟨_,rfl,?_⟩|exact rfl)
  all_goals try exact⟨KO⟩
  all_goals exact⟨by first|rfl|simp[aq,aK]⟩
 intro⟨⟨a,b⟩,hab⟩
 dsimp only at hab ⊢
 have hal:a.length+b.length≤1099511627776:=by rw[←List.length_append,hab];exact hl
 have hsum:k+(aq (a.map Ge.tr):Nat)+(aq (b.map Ge.tr):Nat)=k+(aq (xs.map Ge.tr):Nat):=by rw[←hab,List.map_append,cy];omega
 have hall:aK (xs.map Ge.tr) k=aK (a.map Ge.tr) k++aK (b.map Ge.tr) (k+(aq (a.map Ge.tr):Nat)):=by rw[←hab,List.map_append,bF]
 have hDl:(aK (a.map Ge.tr) k).length=a.length:=by rw[bS,List.length_map]
 generalize hR:aK (a.map Ge.tr) k++b.map Ge.tr=R
 have hRl:R.length=a.length+b.length:=by rw[←hR];simp[hDl]
 generalize hK:k+(aq (a.map Ge.tr):Nat)=K at hsum hall ⊢
 generalize hD:aK (a.map Ge.tr) k=D at hR hall hDl
 generalize hT:aK (xs.map Ge.tr) k=T at hall ⊢
 generalize hC:k+(aq (xs.map Ge.tr):Nat)=C at hk hsum ⊢
 have hK0:0≤K:=by omega
 rcases hb:b with _|⟨x,b2⟩
 all_goals rw[hb]at hR hall hsum hRl hal
 ·have hKC:K=C:=by simpa [aq]using hsum
  have hRT:R=T:=by rw[hall,←hR];simp[aK]
  repeat' ((conv=>whnf);first|refine Or.inl ?_|apply oi|(apply fi<;>intro h)|refine⟨_,rfl,?_⟩|exact rfl)
  all_goals try exact⟨KO⟩
  all_goals try(exfalso;have h':=of_decide_eq_true h;rw[hRl]at h';simp at h';done)
  all_goals first|exact⟨by rw[hKC]⟩|exact⟨hRT⟩
 ·have hal2:a.length+(b2.length+1)≤1099511627776:=hal
  have hcx:cnR (Ge.tr x)=3:=by simp only[Ge.tr,cnR,cnT]
  have hsm:K+((3:Nat):Int)+(aq (b2.map Ge.tr):Nat)=C:=by rw[←hsum,List.map_cons,aq,hcx];omega
  have hRl2:R.length=a.length+(b2.length+1):=hRl
  have bh:R[a.length]?=some (Ge.tr x):=by rw[←hR];exact ik hDl
  repeat' ((conv=>whnf);first|refine Or.inl ?_|apply oi|(apply fi<;>intro h)|refine⟨_,bh,?_⟩|refine⟨_,jk (by(try simp only[List.length_set]);omega),?_⟩|refine ci ((bL _ (by(try simp(disch:=omega)only[IntWalk.i64_in]);omega))) (ai rfl trivial) ?_|refine⟨_,rfl,?_⟩|exact rfl)
  all_goals try exact⟨KO⟩
  all_goals try(exfalso;have h':=of_decide_eq_false h;omega;done)
  all_goals try exact⟨by(try simp only[List.length_set]);omega⟩
  conv=>whnf
  refine⟨⟨(a++[x],b2),by rw[←hab,hb];simp⟩,?_,Nat.lt_succ_self _⟩
  repeat' ((conv=>whnf);first|refine Or.inl ?_|apply oi|(apply fi<;>intro h)|refine⟨_,rfl,?_⟩|exact rfl)
  all_goals try exact⟨KO⟩
  ·refine⟨congrArg (Tr.int _) ?_⟩
   dsimp only
   rw[ew,hcx]
   try simp(disch:=omega)only[IntWalk.i64_in]
   try omega
  ·refine⟨congrArg (Tr.int _) ?_⟩
   dsimp only
   rw[List.length_append]
   try simp(disch:=omega)only[IntWalk.i64_in]
   try rfl
  ·refine⟨?_⟩
   dsimp only
   rw[iy,iv,hD,hK,←hR]
   try simp(disch:=omega)only[set_set,mK hDl,List.map_cons,IntWalk.i64_in]
   try rfl
theorem ol (xs:List (Ge))(k:Int)(hk0:0≤k)(hl:xs.length≤1099511627776)(hk:k+(aq (xs.map Ge.tr):Nat)≤4611686018427387904):Sim.Spec Tryz.prog 169 [tvL 3 (aK (xs.map Ge.tr) k),tvI k] (rI (k+(aq (xs.map Ge.tr):Nat))):=by
 refine aj hΓ ao Tryz.func169 rfl (by decide) rfl ?_
 have hTl:(aK (xs.map Ge.tr) k).length=xs.length:=by rw[bS,List.length_map]
 have hal0:=fun(a b:List (Ge))=>bF (a.map Ge.tr) (b.map Ge.tr) k
 generalize hT:aK (xs.map Ge.tr) k=T at hTl ⊢
 repeat' ((conv=>whnf);first|refine Or.inl ?_|apply oi|(apply fi<;>intro h)|refine⟨_,rfl,?_⟩|exact rfl)
 all_goals try exact⟨KO⟩
 conv=>whnf
 refine⟨{q:List (Ge)×List (Ge) // q.1++q.2=xs},fun q=>⟨[(0,.r (.c (.t (.lst 3 T)))),(1,tI .i64 (k+(aq (q.1.1.map Ge.tr):Nat))),(5,tI .i64 (q.1.1.length:Nat))],[],[]⟩,fun q=>q.1.2.length,⟨([],xs),rfl⟩,?_,?_⟩
 ·skip
  repeat' ((conv=>whnf);first|refine Or.inl ?_|apply oi|(apply fi<;>intro h)|refine⟨_,rfl,?_⟩|exact rfl)
  all_goals try exact⟨KO⟩
  all_goals exact⟨by first|rfl|simp[aq]⟩
 intro⟨⟨a,b⟩,hab⟩
 dsimp only at hab ⊢
 have hal:a.length+b.length≤1099511627776:=by rw[←List.length_append,hab];exact hl
 have hsum:k+(aq (a.map Ge.tr):Nat)+(aq (b.map Ge.tr):Nat)=k+(aq (xs.map Ge.tr):Nat):=by rw[←hab,List.map_append,cy];omega
 have hall:T=aK (a.map Ge.tr) k++aK (b.map Ge.tr) (k+(aq (a.map Ge.tr):Nat)):=by rw[←hT,←hab,List.map_append,bF]
 have hDl:(aK (a.map Ge.tr) k).length=a.length:=by rw[bS,List.length_map]
 have hTl2:T.length=a.length+b.length:=by rw[hTl,←hab,List.length_append]
 generalize hK:k+(aq (a.map Ge.tr):Nat)=K at hsum hall ⊢
 generalize hD:aK (a.map Ge.tr) k=D at hall hDl
 generalize hC:k+(aq (xs.map Ge.tr):Nat)=C at hk hsum ⊢
 have hK0:0≤K:=by omega
 rcases hb:b with _|⟨x,b2⟩
 all_goals rw[hb]at hall hsum hTl2 hal
 ·have hKC:K=C:=by simpa [aq]using hsum
  repeat' ((conv=>whnf);first|refine Or.inl ?_|apply oi|(apply fi<;>intro h)|refine⟨_,rfl,?_⟩|exact rfl)
  all_goals try exact⟨KO⟩
  all_goals try(exfalso;have h':=of_decide_eq_true h;rw[hTl2]at h';simp at h';done)
  all_goals exact⟨by rw[hKC]⟩
 ·have hal2:a.length+(b2.length+1)≤1099511627776:=hal
  have hcx:cnR (Ge.tr x)=3:=by simp only[Ge.tr,cnR,cnT]
  have hsm:K+((3:Nat):Int)+(aq (b2.map Ge.tr):Nat)=C:=by rw[←hsum,List.map_cons,aq,hcx];omega
  have hTl3:T.length=a.length+(b2.length+1):=hTl2
  have bh:T[a.length]?=some [.str (ww (K)),.int .i64 (K+1),.int .i64 (K+1+1)]:=by rw[hall,List.map_cons,aK];exact ik hDl
  repeat' ((conv=>whnf);first|refine Or.inl ?_|apply oi|(apply fi<;>intro h)|refine⟨a.length,_,rfl,bh,?_⟩|refine ci ((bL _ (by(try simp(disch:=omega)only[IntWalk.i64_in]);omega))) (ai rfl trivial) ?_|refine⟨_,rfl,?_⟩|exact rfl)
  all_goals try exact⟨KO⟩
  all_goals try(exfalso;have h':=of_decide_eq_false h;omega;done)
  all_goals try(exfalso;(try have h':=of_decide_eq_true h);(try simp(disch:=omega) [IntWalk.i64_in]at h');(try simp(disch:=omega) [IntWalk.i64_in]at h);(try omega);done)
  conv=>whnf
  refine⟨⟨(a++[x],b2),by rw[←hab,hb];simp⟩,?_,Nat.lt_succ_self _⟩
  repeat' ((conv=>whnf);first|refine Or.inl ?_|apply oi|(apply fi<;>intro h)|refine⟨_,rfl,?_⟩|exact rfl)
  all_goals try exact⟨KO⟩
  ·refine⟨congrArg (Tr.int _) ?_⟩
   dsimp only
   rw[ew,hcx]
   try simp(disch:=omega)only[IntWalk.i64_in]
   try omega
  ·refine⟨congrArg (Tr.int _) ?_⟩
   dsimp only
   rw[List.length_append]
   try simp(disch:=omega)only[IntWalk.i64_in]
   try rfl
theorem zS (xs:List (Ge))(hs:ay 1048576 (.lst 3 (xs.map Ge.tr))):aq (xs.map Ge.tr)≤1048576 * 3:=by
 have h1:=aI hs
 refine Nat.le_trans (fh (g:=Ge.tr) (M:=3) fun x hx=>?_) (Nat.mul_le_mul_right _ h1)
 have hcx:cnR (Ge.tr x)=3:=by simp only[Ge.tr,cnR,cnT]
 rw[hcx]
 omega
theorem qm (xs:List (FX))(k:Int)(hk0:0≤k)(hl:xs.length≤1099511627776)(hk:k+(aq (xs.map FX.tr):Nat)≤4611686018427387904)(hin:∀x∈xs,x.faf.length≤1099511627776∧x.fad.length≤1099511627776):bx Tryz.prog 31 [.r (.c (.own (0,0,0))),tI .i64 k] [((0,0,0),.dar 4 (ah (xs.map FX.tr)) none)] (tI .i64 (k+(aq (xs.map FX.tr):Nat))) [((0,0,0),.dar 4 (ah (aK (xs.map FX.tr) k)) none)]:=by
 refine dU hΓ ao Tryz.func31 rfl (by decide) rfl rfl ?_
 repeat' ((conv=>whnf);first|refine Or.inl ?_|apply oi|(apply fi<;>intro h)|refine⟨_,rfl,?_⟩|exact rfl)
 all_goals try exact⟨KO⟩
 conv=>whnf
 refine⟨{q:List (FX)×List (FX) // q.1++q.2=xs},fun q=>⟨[(0,.r (.c (.own (0,0,0)))),(1,tI .i64 (k+(aq (q.1.1.map FX.tr):Nat))),(5,tI .i64 (q.1.1.length:Nat))],[((0,0,0),some (.dar 4 (ah (aK (q.1.1.map FX.tr) k++q.1.2.map FX.tr)) none))],[0]⟩,fun q=>q.1.2.length,⟨([],xs),rfl⟩,?_,?_⟩
 ·skip
  repeat' ((conv=>whnf);first|refine Or.inl ?_|apply oi|(apply fi<;>intro h)|refine⟨_,rfl,?_⟩|exact rfl)
  all_goals try exact⟨KO⟩
  all_goals exact⟨by first|rfl|simp[aq,aK]⟩
 intro⟨⟨a,b⟩,hab⟩
 dsimp only at hab ⊢
 have hal:a.length+b.length≤1099511627776:=by rw[←List.length_append,hab];exact hl
 have hsum:k+(aq (a.map FX.tr):Nat)+(aq (b.map FX.tr):Nat)=k+(aq (xs.map FX.tr):Nat):=by rw[←hab,List.map_append,cy];omega
 have hall:aK (xs.map FX.tr) k=aK (a.map FX.tr) k++aK (b.map FX.tr) (k+(aq (a.map FX.tr):Nat)):=by rw[←hab,List.map_append,bF]
 have hDl:(aK (a.map FX.tr) k).length=a.length:=by rw[bS,List.length_map]
 generalize hR:ah (aK (a.map FX.tr) k++b.map FX.tr)=R
 have hRl:R.length=a.length+b.length:=by rw[←hR];simp[hDl,aR]
 generalize hK:k+(aq (a.map FX.tr):Nat)=K at hsum hall ⊢
 generalize hD:aK (a.map FX.tr) k=D at hR hall hDl
 generalize hT:aK (xs.map FX.tr) k=T at hall ⊢
 generalize hC:k+(aq (xs.map FX.tr):Nat)=C at hk hsum ⊢
 have hK0:0≤K:=by omega
 rcases hb:b with _|⟨x,b2⟩
 all_goals rw[hb]at hR hall hsum hRl hal
 ·have hKC:K=C:=by simpa [aq]using hsum
  have hRT:R=ah (T):=by rw[hall,←hR];simp[aK]
  repeat' ((conv=>whnf);first|refine Or.inl ?_|apply oi|(apply fi<;>intro h)|refine⟨_,rfl,?_⟩|exact rfl)
  all_goals try exact⟨KO⟩
  all_goals try(exfalso;have h':=of_decide_eq_true h;rw[hRl]at h';simp at h';done)
  all_goals first|exact⟨by rw[hKC]⟩|exact⟨hRT⟩
 ·have hal2:a.length+(b2.length+1)≤1099511627776:=hal
  have hcx:cnR (FX.tr x)=2+aq (x.faf.map ag)+aq (x.fad.map Gf.tr):=by simp only[FX.tr,cnR,cnT] <;> omega
  have hsm:K+((2+aq (x.faf.map ag)+aq (x.fad.map Gf.tr):Nat):Int)+(aq (b2.map FX.tr):Nat)=C:=by rw[←hsum,List.map_cons,aq,hcx];omega
  have hRl2:R.length=a.length+(b2.length+1):=hRl
  have hix:=hin x (by rw[←hab,hb];simp)
  have bh:R[a.length]?=some (((FX.tr x).map .d)):=by rw[←hR,List.map_cons,cC,gh];exact ik (by rw[aR];exact hDl)
  repeat' ((conv=>whnf);first|refine cg (og x.faf (K+1+1) (by omega) hix.1 (by omega)) ?_|refine cg (rJ x.fad (K+1+1+(aq (x.faf.map ag):Nat)) (by omega) hix.2 (by omega)) ?_|refine Or.inl ?_|apply oi|(apply fi<;>intro h)|refine⟨_,bh,?_⟩|refine⟨_,jk (by(try simp only[List.length_set]);omega),?_⟩|refine ci ((bL _ (by(try simp(disch:=omega)only[IntWalk.i64_in]);omega))) (ai rfl trivial) ?_|refine⟨_,rfl,?_⟩|exact rfl)
  all_goals try exact⟨KO⟩
  all_goals try(exfalso;have h':=of_decide_eq_false h;omega;done)
  all_goals try exact⟨by(try simp only[List.length_set]);omega⟩
  all_goals try exact⟨dr _ (by intro x c hc sz rs e;subst e;simp[Gf.tr,ag]at hc)⟩
  all_goals try exact⟨pb _ _ (dr _ (by intro x c hc sz rs e;subst e;simp[Gf.tr,ag]at hc))⟩
  all_goals try exact⟨K2⟩
  conv=>whnf
  refine⟨⟨(a++[x],b2),by rw[←hab,hb];simp⟩,?_,Nat.lt_succ_self _⟩
  repeat' ((conv=>whnf);first|refine Or.inl ?_|apply oi|(apply fi<;>intro h)|refine⟨_,bh,?_⟩|refine⟨_,jk (by(try simp only[List.length_set]);omega),?_⟩|refine⟨_,rfl,?_⟩|exact rfl)
  all_goals try exact⟨KO⟩
  all_goals try exact⟨pb _ _ (dr _ (by intro x c hc sz rs e;subst e;simp[Gf.tr,ag]at hc))⟩
  ·refine⟨congrArg (Tr.int _) ?_⟩
   dsimp only
   rw[ew,hcx]
   try simp(disch:=omega)only[IntWalk.i64_in]
   try omega
  ·refine⟨congrArg (Tr.int _) ?_⟩
   dsimp only
   rw[List.length_append]
   try simp(disch:=omega)only[IntWalk.i64_in]
   try rfl
  ·refine⟨?_⟩
   dsimp only
   have hDd:(ah D).length=a.length:=by rw[aR];exact hDl
   rw[iy,iv,hD,hK,←hR]
   try simp(disch:=omega)only[set_set,cC,gh,mK hDd,List.map_cons,IntWalk.i64_in]
   try rfl
theorem DA (xs:List (FX))(hs:ay 1048576 (.lst 4 (xs.map FX.tr))):aq (xs.map FX.tr)≤1048576 * 4194306:=by
 have h1:=aI hs
 refine Nat.le_trans (fh (g:=FX.tr) (M:=4194306) fun x hx=>?_) (Nat.mul_le_mul_right _ h1)
 have hcx:cnR (FX.tr x)=2+aq (x.faf.map ag)+aq (x.fad.map Gf.tr):=by simp only[FX.tr,cnR,cnT] <;> omega
 rw[hcx]
 have hr:=aA hs hx
 simp only[FX.tr,aw]at hr
 have c2:=zG _ (hr.2.2.1)
 have c3:=EG _ (hr.2.2.2.1)
 omega
theorem Cl (xs:List (FX))(hs:ay 1048576 (.lst 4 (xs.map FX.tr))):∀x∈xs,x.faf.length≤1099511627776∧x.fad.length≤1099511627776:=by
 intro x hx
 have hr:=aA hs hx
 simp only[FX.tr,aw]at hr
 exact⟨Nat.le_trans (aI (hr.2.2.1)) (by omega),Nat.le_trans (aI (hr.2.2.2.1)) (by omega)⟩
theorem ux (xs:List (FX))(hs:ay 1048576 (.lst 4 (xs.map FX.tr))):bx Tryz.prog 26 [.r (.c (.t (.lst 4 (xs.map FX.tr))))] [] (.r (.c (.own (1,0,0)))) [((1,0,0),.dar 4 (ah (xs.map FX.tr)) none)]:=by
 have hl:=cU hs
 have hlen:(xs.map FX.tr).length=xs.length:=by simp
 refine dU hΓ ao Tryz.func26 rfl (by decide) rfl rfl ?_
 repeat' ((conv=>whnf);first|refine Or.inl ?_|apply oi|(apply fi<;>intro h)|refine⟨_,rfl,?_⟩|exact rfl)
 all_goals try exact⟨KO⟩
 ·exact⟨by omega⟩
 ·exact⟨by dsimp only;omega⟩
 repeat' ((conv=>whnf);first|refine Or.inl ?_|apply oi|(apply fi<;>intro h)|refine⟨_,rfl,?_⟩|exact rfl)
 all_goals try exact⟨KO⟩
 conv=>whnf
 refine⟨{k:Nat // k≤xs.length},fun k=>⟨[(0,.r (.c (.t (.lst 4 (xs.map FX.tr))))),(3,.r (.c (.own (3,0,0)))),(4,tI .i64 (k.1:Int))],[((3,0,0),some (.dar 4 (ah (eV (xs.map FX.tr) [.int .i64 0,.str [],.lst 0 [],.lst 0 []] k.1)) none))],[3,0]⟩,fun k=>xs.length - k.1,⟨0,by omega⟩,?_,?_⟩
 ·skip
  repeat' ((conv=>whnf);first|refine Or.inl ?_|apply oi|(apply fi<;>intro h)|refine⟨_,rfl,?_⟩|exact rfl)
  all_goals try exact⟨KO⟩
  all_goals exact⟨by first|(rw[←gv,hlen,ah,List.map_replicate];done)|(rw[←gv,hlen,ah,List.map_replicate];rfl)⟩
 intro⟨k,hk⟩
 dsimp only
 repeat' ((conv=>whnf);first|refine Or.inl ?_|apply oi|(apply fi<;>intro h)|refine⟨_,rfl,?_⟩|exact rfl)
 all_goals try exact⟨KO⟩
 ·have hlt:k < xs.length:=by have:=of_decide_eq_true h;omega
  obtain⟨x,hx⟩:=ae hlt
  have hsr:=aA hs (List.mem_of_getElem? hx)
  conv=>whnf
  refine⟨k,_,rfl,ab hx,?_⟩
  repeat' ((conv=>whnf);first|refine Or.inl ?_|apply oi|(apply fi<;>intro h)|refine ci ((uZ x hsr)) (ai (ai rfl (ai rfl (ai rfl (ai rfl trivial)))) trivial) ?_|refine⟨_,rfl,?_⟩|exact rfl)
  all_goals try exact⟨KO⟩
  ·exact⟨by rw[aR,ou (by omega)];omega⟩
  conv=>whnf
  refine⟨_,fJ (oh (by omega)),?_⟩
  repeat' ((conv=>whnf);first|refine Or.inl ?_|apply oi|(apply fi<;>intro h)|refine⟨_,rfl,?_⟩|exact rfl)
  all_goals try exact⟨KO⟩
  all_goals try exact⟨dr _ (by intro x c hc sz rs e;subst e;simp[Gf.tr,ag]at hc)⟩
  conv=>whnf
  refine⟨⟨k+1,by omega⟩,?_,KD⟩
  repeat' ((conv=>whnf);first|refine Or.inl ?_|apply oi|(apply fi<;>intro h)|refine⟨_,rfl,?_⟩|exact rfl)
  all_goals try exact⟨KO⟩
  ·exact⟨by dsimp only;rw[IntWalk.i64_in _ (by omega)];rfl⟩
  ·exact⟨(kC _ _ (FX.tr x)).trans (congrArg ah (nF (ab hx)))⟩
 ·have hge:xs.length≤k:=by have:=of_decide_eq_false h;omega
  exact⟨congrArg ah (nG (by omega))⟩
theorem ph (xs:List (FU))(k:Int)(hk0:0≤k)(hl:xs.length≤1099511627776)(hk:k+(aq (xs.map FU.tr):Nat)≤4611686018427387904)(hin:∀x∈xs,x.fae.length≤1099511627776):bx Tryz.prog 92 [.r (.c (.own (0,0,0))),tI .i64 k] [((0,0,0),.dar 2 (ah (xs.map FU.tr)) none)] (tI .i64 (k+(aq (xs.map FU.tr):Nat))) [((0,0,0),.dar 2 (ah (aK (xs.map FU.tr) k)) none)]:=by
 refine dU hΓ ao Tryz.func92 rfl (by decide) rfl rfl ?_
 repeat' ((conv=>whnf);first|refine Or.inl ?_|apply oi|(apply fi<;>intro h)|refine⟨_,rfl,?_⟩|exact rfl)
 all_goals try exact⟨KO⟩
 conv=>whnf
 refine⟨{q:List (FU)×List (FU) // q.1++q.2=xs},fun q=>⟨[(0,.r (.c (.own (0,0,0)))),(1,tI .i64 (k+(aq (q.1.1.map FU.tr):Nat))),(5,tI .i64 (q.1.1.length:Nat))],[((0,0,0),some (.dar 2 (ah (aK (q.1.1.map FU.tr) k++q.1.2.map FU.tr)) none))],[0]⟩,fun q=>q.1.2.length,⟨([],xs),rfl⟩,?_,?_⟩
 ·skip
  repeat' ((conv=>whnf);first|refine Or.inl ?_|apply oi|(apply fi<;>intro h)|refine⟨_,rfl,?_⟩|exact rfl)
  all_goals try exact⟨KO⟩
  all_goals exact⟨by first|rfl|simp[aq,aK]⟩
 intro⟨⟨a,b⟩,hab⟩
 dsimp only at hab ⊢
 have hal:a.length+b.length≤1099511627776:=by rw[←List.length_append,hab];exact hl
 have hsum:k+(aq (a.map FU.tr):Nat)+(aq (b.map FU.tr):Nat)=k+(aq (xs.map FU.tr):Nat):=by rw[←hab,List.map_append,cy];omega
 have hall:aK (xs.map FU.tr) k=aK (a.map FU.tr) k++aK (b.map FU.tr) (k+(aq (a.map FU.tr):Nat)):=by rw[←hab,List.map_append,bF]
 have hDl:(aK (a.map FU.tr) k).length=a.length:=by rw[bS,List.length_map]
 generalize hR:ah (aK (a.map FU.tr) k++b.map FU.tr)=R
 have hRl:R.length=a.length+b.length:=by rw[←hR];simp[hDl,aR]
 generalize hK:k+(aq (a.map FU.tr):Nat)=K at hsum hall ⊢
 generalize hD:aK (a.map FU.tr) k=D at hR hall hDl
 generalize hT:aK (xs.map FU.tr) k=T at hall ⊢
 generalize hC:k+(aq (xs.map FU.tr):Nat)=C at hk hsum ⊢
 have hK0:0≤K:=by omega
 rcases hb:b with _|⟨x,b2⟩
 all_goals rw[hb]at hR hall hsum hRl hal
 ·have hKC:K=C:=by simpa [aq]using hsum
  have hRT:R=ah (T):=by rw[hall,←hR];simp[aK]
  repeat' ((conv=>whnf);first|refine Or.inl ?_|apply oi|(apply fi<;>intro h)|refine⟨_,rfl,?_⟩|exact rfl)
  all_goals try exact⟨KO⟩
  all_goals try(exfalso;have h':=of_decide_eq_true h;rw[hRl]at h';simp at h';done)
  all_goals first|exact⟨by rw[hKC]⟩|exact⟨hRT⟩
 ·have hal2:a.length+(b2.length+1)≤1099511627776:=hal
  have hcx:cnR (FU.tr x)=1+aq (x.fae.map Ge.tr):=by simp only[FU.tr,cnR,cnT] <;> omega
  have hsm:K+((1+aq (x.fae.map Ge.tr):Nat):Int)+(aq (b2.map FU.tr):Nat)=C:=by rw[←hsum,List.map_cons,aq,hcx];omega
  have hRl2:R.length=a.length+(b2.length+1):=hRl
  have hix:=hin x (by rw[←hab,hb];simp)
  have bh:R[a.length]?=some (((FU.tr x).map .d)):=by rw[←hR,List.map_cons,cC,gh];exact ik (by rw[aR];exact hDl)
  repeat' ((conv=>whnf);first|refine cg (nC x.fae (K+1) (by omega) hix (by omega)) ?_|refine Or.inl ?_|apply oi|(apply fi<;>intro h)|refine⟨_,bh,?_⟩|refine⟨_,jk (by(try simp only[List.length_set]);omega),?_⟩|refine ci ((bL _ (by(try simp(disch:=omega)only[IntWalk.i64_in]);omega))) (ai rfl trivial) ?_|refine⟨_,rfl,?_⟩|exact rfl)
  all_goals try exact⟨KO⟩
  all_goals try(exfalso;have h':=of_decide_eq_false h;omega;done)
  all_goals try exact⟨by(try simp only[List.length_set]);omega⟩
  all_goals try exact⟨dr _ (by intro x c hc sz rs e;subst e;simp[Ge.tr]at hc)⟩
  all_goals try exact⟨pb _ _ (dr _ (by intro x c hc sz rs e;subst e;simp[Ge.tr]at hc))⟩
  all_goals try exact⟨K2⟩
  conv=>whnf
  refine⟨⟨(a++[x],b2),by rw[←hab,hb];simp⟩,?_,Nat.lt_succ_self _⟩
  repeat' ((conv=>whnf);first|refine Or.inl ?_|apply oi|(apply fi<;>intro h)|refine⟨_,bh,?_⟩|refine⟨_,jk (by(try simp only[List.length_set]);omega),?_⟩|refine⟨_,rfl,?_⟩|exact rfl)
  all_goals try exact⟨KO⟩
  all_goals try exact⟨pb _ _ (dr _ (by intro x c hc sz rs e;subst e;simp[Ge.tr]at hc))⟩
  ·refine⟨congrArg (Tr.int _) ?_⟩
   dsimp only
   rw[ew,hcx]
   try simp(disch:=omega)only[IntWalk.i64_in]
   try omega
  ·refine⟨congrArg (Tr.int _) ?_⟩
   dsimp only
   rw[List.length_append]
   try simp(disch:=omega)only[IntWalk.i64_in]
   try rfl
  ·refine⟨?_⟩
   dsimp only
   have hDd:(ah D).length=a.length:=by rw[aR];exact hDl
   rw[iy,iv,hD,hK,←hR]
   try simp(disch:=omega)only[set_set,cC,gh,mK hDd,List.map_cons,IntWalk.i64_in]
   try rfl
theorem pm (xs:List (FU))(k:Int)(hk0:0≤k)(hl:xs.length≤1099511627776)(hk:k+(aq (xs.map FU.tr):Nat)≤4611686018427387904)(hin:∀x∈xs,x.fae.length≤1099511627776):Sim.Spec Tryz.prog 93 [tvL 2 (aK (xs.map FU.tr) k),tvI k] (rI (k+(aq (xs.map FU.tr):Nat))):=by
 refine aj hΓ ao Tryz.func93 rfl (by decide) rfl ?_
 have hTl:(aK (xs.map FU.tr) k).length=xs.length:=by rw[bS,List.length_map]
 have hal0:=fun(a b:List (FU))=>bF (a.map FU.tr) (b.map FU.tr) k
 generalize hT:aK (xs.map FU.tr) k=T at hTl ⊢
 repeat' ((conv=>whnf);first|refine Or.inl ?_|apply oi|(apply fi<;>intro h)|refine⟨_,rfl,?_⟩|exact rfl)
 all_goals try exact⟨KO⟩
 conv=>whnf
 refine⟨{q:List (FU)×List (FU) // q.1++q.2=xs},fun q=>⟨[(0,.r (.c (.t (.lst 2 T)))),(1,tI .i64 (k+(aq (q.1.1.map FU.tr):Nat))),(5,tI .i64 (q.1.1.length:Nat))],[],[]⟩,fun q=>q.1.2.length,⟨([],xs),rfl⟩,?_,?_⟩
 ·skip
  repeat' ((conv=>whnf);first|refine Or.inl ?_|apply oi|(apply fi<;>intro h)|refine⟨_,rfl,?_⟩|exact rfl)
  all_goals try exact⟨KO⟩
  all_goals exact⟨by first|rfl|simp[aq]⟩
 intro⟨⟨a,b⟩,hab⟩
 dsimp only at hab ⊢
 have hal:a.length+b.length≤1099511627776:=by rw[←List.length_append,hab];exact hl
 have hsum:k+(aq (a.map FU.tr):Nat)+(aq (b.map FU.tr):Nat)=k+(aq (xs.map FU.tr):Nat):=by rw[←hab,List.map_append,cy];omega
 have hall:T=aK (a.map FU.tr) k++aK (b.map FU.tr) (k+(aq (a.map FU.tr):Nat)):=by rw[←hT,←hab,List.map_append,bF]
 have hDl:(aK (a.map FU.tr) k).length=a.length:=by rw[bS,List.length_map]
 have hTl2:T.length=a.length+b.length:=by rw[hTl,←hab,List.length_append]
 generalize hK:k+(aq (a.map FU.tr):Nat)=K at hsum hall ⊢
 generalize hD:aK (a.map FU.tr) k=D at hall hDl
 generalize hC:k+(aq (xs.map FU.tr):Nat)=C at hk hsum ⊢
 have hK0:0≤K:=by omega
 rcases hb:b with _|⟨x,b2⟩
 all_goals rw[hb]at hall hsum hTl2 hal
 ·have hKC:K=C:=by simpa [aq]using hsum
  repeat' ((conv=>whnf);first|refine Or.inl ?_|apply oi|(apply fi<;>intro h)|refine⟨_,rfl,?_⟩|exact rfl)
  all_goals try exact⟨KO⟩
  all_goals try(exfalso;have h':=of_decide_eq_true h;rw[hTl2]at h';simp at h';done)
  all_goals exact⟨by rw[hKC]⟩
 ·have hal2:a.length+(b2.length+1)≤1099511627776:=hal
  have hcx:cnR (FU.tr x)=1+aq (x.fae.map Ge.tr):=by simp only[FU.tr,cnR,cnT] <;> omega
  have hsm:K+((1+aq (x.fae.map Ge.tr):Nat):Int)+(aq (b2.map FU.tr):Nat)=C:=by rw[←hsum,List.map_cons,aq,hcx];omega
  have hTl3:T.length=a.length+(b2.length+1):=hTl2
  have hix:=hin x (by rw[←hab,hb];simp)
  have bh:T[a.length]?=some [.str (ww (K)),.lst 3 (aK (x.fae.map Ge.tr) (K+1))]:=by rw[hall,List.map_cons,aK];exact ik hDl
  repeat' ((conv=>whnf);first|refine Or.inl ?_|apply oi|(apply fi<;>intro h)|refine⟨a.length,_,rfl,bh,?_⟩|refine ci ((bL _ (by(try simp(disch:=omega)only[IntWalk.i64_in]);omega))) (ai rfl trivial) ?_|refine⟨_,rfl,?_⟩|exact rfl)
  all_goals try exact⟨KO⟩
  all_goals try(exfalso;have h':=of_decide_eq_false h;omega;done)
  all_goals try(exfalso;(try have h':=of_decide_eq_true h);(try simp(disch:=omega) [IntWalk.i64_in]at h');(try simp(disch:=omega) [IntWalk.i64_in]at h);(try omega);done)
  repeat' ((conv=>whnf);first|refine Or.inl ?_|apply oi|(apply fi<;>intro h)|refine⟨a.length,_,rfl,bh,?_⟩|refine ci ((bL _ (by(try simp(disch:=omega)only[IntWalk.i64_in]);omega))) (ai rfl trivial) ?_|refine ci ((ol x.fae (K+1) (by omega) hix (by omega))) (ai rfl (ai KW trivial)) ?_|refine⟨_,rfl,?_⟩|exact rfl)
  all_goals try exact⟨KO⟩
  all_goals try(exfalso;have h':=of_decide_eq_false h;omega;done)
  all_goals try(exfalso;(try have h':=of_decide_eq_true h);(try simp(disch:=omega) [IntWalk.i64_in]at h');(try simp(disch:=omega) [IntWalk.i64_in]at h);(try omega);done)
  conv=>whnf
  refine⟨⟨(a++[x],b2),by rw[←hab,hb];simp⟩,?_,Nat.lt_succ_self _⟩
  repeat' ((conv=>whnf);first|refine Or.inl ?_|apply oi|(apply fi<;>intro h)|refine⟨_,rfl,?_⟩|exact rfl)
  all_goals try exact⟨KO⟩
  ·refine⟨congrArg (Tr.int _) ?_⟩
   dsimp only
   rw[ew,hcx]
   try simp(disch:=omega)only[IntWalk.i64_in]
   try omega
  ·refine⟨congrArg (Tr.int _) ?_⟩
   dsimp only
   rw[List.length_append]
   try simp(disch:=omega)only[IntWalk.i64_in]
   try rfl
theorem Ct (xs:List (FU))(hs:ay 1048576 (.lst 2 (xs.map FU.tr))):aq (xs.map FU.tr)≤1048576 * 3145729:=by
 have h1:=aI hs
 refine Nat.le_trans (fh (g:=FU.tr) (M:=3145729) fun x hx=>?_) (Nat.mul_le_mul_right _ h1)
 have hcx:cnR (FU.tr x)=1+aq (x.fae.map Ge.tr):=by simp only[FU.tr,cnR,cnT] <;> omega
 rw[hcx]
 have hr:=aA hs hx
 simp only[FU.tr,aw]at hr
 have c1:=zS _ (hr.2.1)
 omega
theorem tZ (xs:List (FU))(hs:ay 1048576 (.lst 2 (xs.map FU.tr))):∀x∈xs,x.fae.length≤1099511627776:=by
 intro x hx
 have hr:=aA hs hx
 simp only[FU.tr,aw]at hr
 exact Nat.le_trans (aI (hr.2.1)) (by omega)
theorem qj (x:Gd)(k:Int)(hk0:0≤k)(hl0:x.fam.length≤1099511627776)(hin0:∀y∈x.fam,y.fae.length≤1099511627776)(hl1:x.fao.length≤1099511627776)(hl2:x.faq.length≤1099511627776)(hk:k+(aq (x.fam.map FU.tr):Nat)+(aq (x.fao.map aa):Nat)+(aq (x.faq.map aa):Nat)≤4611686018427387904):bx Tryz.prog 37 [.r (.agg [.own (0,0,0),.own (0,0,1),.own (0,0,2)]),tI .i64 k] [((0,0,0),.dar 2 (ah (x.fam.map FU.tr)) none),((0,0,1),.arr false 1 (x.fao.map aa)),((0,0,2),.arr false 1 (x.faq.map aa))] (tI .i64 (k+(aq (x.fam.map FU.tr):Nat)+(aq (x.fao.map aa):Nat)+(aq (x.faq.map aa):Nat))) [((0,0,0),.dar 2 (ah (aK (x.fam.map FU.tr) (k))) none),((0,0,1),.arr false 1 (aK (x.fao.map aa) (k+(aq (x.fam.map FU.tr):Nat)))),((0,0,2),.arr false 1 (aK (x.faq.map aa) (k+(aq (x.fam.map FU.tr):Nat)+(aq (x.fao.map aa):Nat))))]:=by
 refine dU hΓ ao Tryz.func37 rfl (by decide) rfl rfl ?_
 repeat' ((conv=>whnf);first|refine ep ?_|apply aZ|apply oi|(apply fi<;>intro h)|refine⟨_,rfl,?_⟩|exact rfl)
 all_goals try exact⟨KO⟩
 refine cg (ph x.fam (k) (by omega) hl0 (by omega) hin0) ?_
 repeat' ((conv=>whnf);first|refine ep ?_|apply aZ|apply oi|(apply fi<;>intro h)|refine⟨_,rfl,?_⟩|exact rfl)
 all_goals try exact⟨KO⟩
 refine cg (kY x.fao (k+(aq (x.fam.map FU.tr):Nat)) (by omega) hl1 (by omega)) ?_
 repeat' ((conv=>whnf);first|refine ep ?_|apply aZ|apply oi|(apply fi<;>intro h)|refine⟨_,rfl,?_⟩|exact rfl)
 all_goals try exact⟨KO⟩
 refine cg (kY x.faq (k+(aq (x.fam.map FU.tr):Nat)+(aq (x.fao.map aa):Nat)) (by omega) hl2 (by omega)) ?_
 repeat' ((conv=>whnf);first|refine ep ?_|apply aZ|apply oi|(apply fi<;>intro h)|refine⟨_,rfl,?_⟩|exact rfl)
 all_goals try exact⟨KO⟩
theorem qg (x:Gd)(k:Int)(hk0:0≤k)(hl0:x.fam.length≤1099511627776)(hin0:∀y∈x.fam,y.fae.length≤1099511627776)(hl1:x.fao.length≤1099511627776)(hl2:x.faq.length≤1099511627776)(hk:k+(aq (x.fam.map FU.tr):Nat)+(aq (x.fao.map aa):Nat)+(aq (x.faq.map aa):Nat)≤4611686018427387904):Sim.Spec Tryz.prog 38 [.agg [.lst 2 (aK (x.fam.map FU.tr) (k)),.lst 1 (aK (x.fao.map aa) (k+(aq (x.fam.map FU.tr):Nat))),.lst 1 (aK (x.faq.map aa) (k+(aq (x.fam.map FU.tr):Nat)+(aq (x.fao.map aa):Nat)))],tvI k] (rI (k+(aq (x.fam.map FU.tr):Nat)+(aq (x.fao.map aa):Nat)+(aq (x.faq.map aa):Nat))):=by
 refine aj hΓ ao Tryz.func38 rfl (by decide) rfl ?_
 repeat' ((conv=>whnf);first|refine Or.inl ?_|apply oi|(apply fi<;>intro h)|refine ci ((pm x.fam (k) (by omega) hl0 (by omega) hin0)) (ai rfl (ai rfl trivial)) ?_|refine⟨_,rfl,?_⟩|exact rfl)
 all_goals try exact⟨KO⟩
 all_goals try(exfalso;have h':=of_decide_eq_true h;omega;done)
 repeat' ((conv=>whnf);first|refine Or.inl ?_|apply oi|(apply fi<;>intro h)|refine ci ((lc x.fao (k+(aq (x.fam.map FU.tr):Nat)) (by omega) hl1 (by omega))) (ai rfl (ai rfl trivial)) ?_|refine⟨_,rfl,?_⟩|exact rfl)
 all_goals try exact⟨KO⟩
 all_goals try(exfalso;have h':=of_decide_eq_true h;omega;done)
 repeat' ((conv=>whnf);first|refine Or.inl ?_|apply oi|(apply fi<;>intro h)|refine ci ((lc x.faq (k+(aq (x.fam.map FU.tr):Nat)+(aq (x.fao.map aa):Nat)) (by omega) hl2 (by omega))) (ai rfl (ai rfl trivial)) ?_|refine⟨_,rfl,?_⟩|exact rfl)
 all_goals try exact⟨KO⟩
 all_goals try(exfalso;have h':=of_decide_eq_true h;omega;done)
 all_goals exact⟨rfl⟩
end Go.Proofs.YtoglejgmjeojoaaGreat
namespace Go.Proofs.YtoglejgmjeojoaaGreat
open Go.Sim
set_option maxRecDepth 100000
set_option maxHeartbeats 4000000
def yY (last:Int)(r:Gc):Prop:=last≤r.fah∧r.fah < r.fay∧r.fay≤1000000∧0≤r.fas∧r.fas≤1200∧(r.faL=true→r.fas=0)
instance (last:Int) (r:Gc):Decidable (yY last r):=by unfold yY;infer_instance
def low (b:UInt8):Bool:=decide (97≤b.toNat) && decide (b.toNat≤122)
def cA (s:List UInt8):Bool:=s.all low && af s.length 1 8
abbrev DG (s:List UInt8):={k:Nat // k≤s.length∧(s.take k).all low=true}
theorem yN {α:Type}{p:α→Bool}{s:List α}{k:Nat}{b:α}(h:(s.take k).all p=true)(hb:s[k]?=some b)(hp:p b=true):(s.take (k+1)).all p=true:=by
 rw[List.take_add_one,hb]
 simp_all
theorem AE {α:Type}{p:α→Bool}{s:List α}{k:Nat}{b:α}(hb:s[k]?=some b)(hp:p b=false):s.all p=false:=by
 rw[Bool.eq_false_iff]
 intro h
 rw[List.all_eq_true]at h
 rw[h b (List.mem_of_getElem? hb)]at hp
 cases hp
theorem gk (s:List UInt8)(hl:s.length≤1099511627775):Sim.Spec Tryz.prog 210 [tvS s] (rB (cA s)):=by
 refine aj hΓ ao Tryz.func210 rfl (by decide) rfl ?_
 unfold cA
 repeat' ((conv=>whnf);first|refine Or.inl ?_|apply oi|(apply fi<;>intro h)|refine⟨_,rfl,?_⟩|exact rfl)
 all_goals try exact⟨KO⟩
 conv=>whnf
 refine⟨DG s,fun k=>⟨[(0,tS s),(3,tI .i64 (k.1:Int))],[],[]⟩,fun k=>s.length - k.1,⟨0,by omega,rfl⟩,?_,?_⟩
 ·skip
  repeat' ((conv=>whnf);first|refine Or.inl ?_|apply oi|(apply fi<;>intro h)|refine⟨_,rfl,?_⟩|exact rfl)
  all_goals try exact⟨KO⟩
 intro⟨k,hk,hp⟩
 dsimp only
 by_cases hlt:k < s.length
 ·obtain⟨b,hb⟩:=ae hlt
  have hbl:=b.toNat_lt
  cases hlo:low b with
  | false=>
   rw[AE hb hlo]
   unfold low at hlo
   repeat' ((conv=>whnf);first|refine Or.inl ?_|apply oi|(apply fi<;>intro h)|refine⟨k,b,rfl,hb,?_⟩|refine⟨_,rfl,?_⟩|exact rfl)
   all_goals try exact⟨KO⟩
   all_goals try exact KX
   all_goals(exfalso;simp at *;omega)
  | true=>
   have hnx:=yN hp hb hlo
   unfold low at hlo
   repeat' ((conv=>whnf);first|refine Or.inl ?_|apply oi|(apply fi<;>intro h)|refine⟨k,b,rfl,hb,?_⟩|refine⟨_,rfl,?_⟩|exact rfl)
   all_goals try exact⟨KO⟩
   all_goals try exact KX
   all_goals try exact K3
   conv=>whnf
   refine⟨⟨k+1,by omega,hnx⟩,?_,KD⟩
   repeat' ((conv=>whnf);first|refine Or.inl ?_|apply oi|(apply fi<;>intro h)|refine⟨_,rfl,?_⟩|exact rfl)
   all_goals try exact⟨KO⟩
   all_goals try exact⟨K4⟩
 ·have hge:s.length≤k:=by omega
  rw[List.take_of_length_le hge]at hp
  rw[hp]
  repeat' ((conv=>whnf);first|refine Or.inl ?_|apply oi|(apply fi<;>intro h)|refine ci (aE _ _ _) (ai rfl (ai rfl (ai rfl trivial))) ?_|refine⟨_,rfl,?_⟩|exact rfl)
  all_goals try exact⟨KO⟩
  all_goals try exact KX
theorem eN (s:List UInt8)(hl:s.length≤1099511627775):Sim.Spec Tryz.prog 189 [tvS s] (rB (cA s)):=by
 refine aj hΓ ao Tryz.func189 rfl (by decide) rfl ?_
 unfold cA
 repeat' ((conv=>whnf);first|refine Or.inl ?_|apply oi|(apply fi<;>intro h)|refine⟨_,rfl,?_⟩|exact rfl)
 all_goals try exact⟨KO⟩
 conv=>whnf
 refine⟨DG s,fun k=>⟨[(0,tS s),(3,tI .i64 (k.1:Int))],[],[]⟩,fun k=>s.length - k.1,⟨0,by omega,rfl⟩,?_,?_⟩
 ·skip
  repeat' ((conv=>whnf);first|refine Or.inl ?_|apply oi|(apply fi<;>intro h)|refine⟨_,rfl,?_⟩|exact rfl)
  all_goals try exact⟨KO⟩
 intro⟨k,hk,hp⟩
 dsimp only
 by_cases hlt:k < s.length
 ·obtain⟨b,hb⟩:=ae hlt
  have hbl:=b.toNat_lt
  cases hlo:low b with
  | false=>
   rw[AE hb hlo]
   unfold low at hlo
   repeat' ((conv=>whnf);first|refine Or.inl ?_|apply oi|(apply fi<;>intro h)|refine⟨k,b,rfl,hb,?_⟩|refine⟨_,rfl,?_⟩|exact rfl)
   all_goals try exact⟨KO⟩
   all_goals try exact KX
   all_goals(exfalso;simp at *;omega)
  | true=>
   have hnx:=yN hp hb hlo
   unfold low at hlo
   repeat' ((conv=>whnf);first|refine Or.inl ?_|apply oi|(apply fi<;>intro h)|refine⟨k,b,rfl,hb,?_⟩|refine⟨_,rfl,?_⟩|exact rfl)
   all_goals try exact⟨KO⟩
   all_goals try exact KX
   all_goals try exact K3
   conv=>whnf
   refine⟨⟨k+1,by omega,hnx⟩,?_,KD⟩
   repeat' ((conv=>whnf);first|refine Or.inl ?_|apply oi|(apply fi<;>intro h)|refine⟨_,rfl,?_⟩|exact rfl)
   all_goals try exact⟨KO⟩
   all_goals try exact⟨K4⟩
 ·have hge:s.length≤k:=by omega
  rw[List.take_of_length_le hge]at hp
  rw[hp]
  repeat' ((conv=>whnf);first|refine Or.inl ?_|apply oi|(apply fi<;>intro h)|refine ci (bd _ _ _) (ai rfl (ai rfl (ai rfl trivial))) ?_|refine⟨_,rfl,?_⟩|exact rfl)
  all_goals try exact⟨KO⟩
  all_goals try exact KX
def behind (p:Option FV)(x:FV):Prop:=match p with
 | none=>True
 | some p=>p.faz≤x.faz∧(p.faz=x.faz→p.fay≤x.fah)
instance (p:Option FV) (x:FV):Decidable (behind p x):=by unfold behind;cases p <;> infer_instance
def eB (t:Gf):Bool:=
 if t.faa=0 then af t.fai 0 999 && t.fab==[]
 else if t.faa=7 then af t.fai 0 4 && cA t.fab
 else if t.faa=1 then t.fai==0 && cA t.fab
 else af t.faa 2 6 && (t.fai==0 && t.fab==[])
theorem pJ (t:Gf)(hl:t.fab.length≤1099511627775):Sim.Spec Tryz.prog 264 [.agg t.tr] (rB (eB t)):=by
 refine aj hΓ ao Tryz.func264 rfl (by decide) rfl ?_
 have hN:=gk t.fab hl
 unfold eB
 generalize cA t.fab=nb at *
 repeat' ((conv=>whnf);first|refine Or.inl ?_|apply oi|(apply fi<;>intro h)|refine ci (aE _ _ _) (ai rfl (ai rfl (ai rfl trivial))) ?_|refine ci hN (ai rfl trivial) ?_|refine⟨_,rfl,?_⟩|exact rfl)
 all_goals try exact⟨KO⟩
 all_goals(refine⟨congrArg Tr.bool ?_⟩;simp_all;try(intros;omega))
theorem po (t:Gf)(hl:t.fab.length≤1099511627775):Sim.Spec Tryz.prog 255 [.agg t.tr] (rB (eB t)):=by
 refine aj hΓ ao Tryz.func255 rfl (by decide) rfl ?_
 have hN:=eN t.fab hl
 unfold eB
 generalize cA t.fab=nb at *
 repeat' ((conv=>whnf);first|refine Or.inl ?_|apply oi|(apply fi<;>intro h)|refine ci (bd _ _ _) (ai rfl (ai rfl (ai rfl trivial))) ?_|refine ci hN (ai rfl trivial) ?_|refine⟨_,rfl,?_⟩|exact rfl)
 all_goals try exact⟨KO⟩
 all_goals(refine⟨congrArg Tr.bool ?_⟩;simp_all[af];(try(intros;omega));(try((repeat' split) <;> intros <;> omega)))
def nw (t:Gf):Int:=if eB t=false then -1 else if t.faa=7 then t.fai else if t.faa=0∨t.faa=1 then 0 else 2
theorem pr (t:Gf)(hl:t.fab.length≤1099511627775):Sim.Spec Tryz.prog 265 [.agg t.tr] (rI (nw t)):=by
 refine aj hΓ ao Tryz.func265 rfl (by decide) rfl ?_
 have hT:=pJ t hl
 unfold nw
 generalize eB t=nb at *
 repeat' ((conv=>whnf);first|refine Or.inl ?_|apply oi|(apply fi<;>intro h)|refine ci hT (ai (ai rfl (ai rfl (ai rfl trivial))) trivial) ?_|refine⟨_,rfl,?_⟩|exact rfl)
 all_goals try exact⟨KO⟩
 all_goals(refine⟨congrArg (Tr.int _) ?_⟩;simp_all)
theorem kp (t:Gf)(hl:t.fab.length≤1099511627775):Sim.Spec Tryz.prog 228 [.agg t.tr] (rI (nw t)):=by
 refine aj hΓ ao Tryz.func228 rfl (by decide) rfl ?_
 have hT:=po t hl
 unfold nw
 generalize eB t=nb at *
 repeat' ((conv=>whnf);first|refine Or.inl ?_|apply oi|(apply fi<;>intro h)|refine ci hT (ai (ai rfl (ai rfl (ai rfl trivial))) trivial) ?_|refine⟨_,rfl,?_⟩|exact rfl)
 all_goals try exact⟨KO⟩
 all_goals(refine⟨congrArg (Tr.int _) ?_⟩;simp_all)
def ar (t:Gf):Nat:=(nw t).toNat
theorem pi {t:Gf}(h:eB t=true):nw t=(ar t:Int)∧ar t≤4:=by
 unfold ar nw
 rw[if_neg (by simp[h])]
 unfold eB at h
 split
 ·rename_i h7
  rw[if_neg (by omega),if_pos h7]at h
  simp only[Bool.and_eq_true,within_iff]at h
  omega
 ·split <;> omega
def endL:List Gf→Nat→Nat→Option Nat
 | _,p,0=>some p
 | [],_,_+1=>none
 | t::l,p,n+1=>if eB t=true then endL l (p+1) (n+ar t)else none
def cp (o:Option Nat):Int:=match o with|some e=>e|none=> -1
def cY (l:List Gf)(p:Int):Int:=if 0≤p then cp (endL (l.drop p.toNat) p.toNat 1)else -1
theorem AN {l:List Gf}{p n:Nat}{t:Gf}(h:l[p]?=some t):endL (l.drop p) p (n+1)=if eB t=true then endL (l.drop (p+1)) (p+1) (n+ar t)else none:=by
 rw[cV h,endL]
abbrev EQ (l:List Gf)(R:Int):={q:Nat×Nat // q.1≤l.length∧q.2≤1+4 * q.1∧cp (endL (l.drop q.1) q.1 q.2)=R}
def dq (l:List Gf):Prop:=∀t∈l,t.fab.length≤1099511627775
theorem iI (l:List Gf)(p:Int)(hl:l.length≤1048576)(hn:dq l):Sim.Spec Tryz.prog 248 [tvL 3 (l.map Gf.tr),tvI p] (rI (cY l p)):=by
 refine aj hΓ ao Tryz.func248 rfl (by decide) rfl ?_
 have hlen:(l.map Gf.tr).length=l.length:=by simp
 have hw:IntKind.i64.wrap (((l.map Gf.tr).length:Int) - 1)=(l.length:Int) - 1:=by rw[IntWalk.i64_in _ (by omega)];omega
 by_cases hin:0≤p∧p < l.length
 ·have hb:=aE p 0 (IntKind.i64.wrap (((l.map Gf.tr).length:Int) - 1))
  rw[within_iff.2 ⟨hin.1,by rw[hw];omega⟩]at hb
  obtain⟨p,rfl⟩:=Int.eq_ofNat_of_zero_le hin.1
  obtain⟨R,hR⟩:∃R,cY l (p:Int)=R:=⟨_,rfl⟩
  rw[hR]
  rw[cY,if_pos hin.1,Int.toNat_natCast]at hR
  repeat' ((conv=>whnf);first|refine Or.inl ?_|apply oi|(apply fi<;>intro h)|refine ci hb (ai rfl (ai rfl (ai rfl trivial))) ?_|refine⟨_,rfl,?_⟩|exact rfl)
  all_goals try exact⟨KO⟩
  conv=>whnf
  refine⟨EQ l R,fun q=>⟨[(0,.r (.c (.t (.lst 3 (l.map Gf.tr))))),(1,tI .i64 (q.1.1:Int)),(5,tI .i64 (q.1.2:Int))],[],[]⟩,fun q=>l.length - q.1.1,⟨(p,1),by omega,by omega,hR⟩,?_,?_⟩
  ·skip
   repeat' ((conv=>whnf);first|refine Or.inl ?_|apply oi|(apply fi<;>intro h)|refine⟨_,rfl,?_⟩|exact rfl)
   all_goals try exact⟨KO⟩
  intro⟨⟨a,n⟩,ha,hn4,hr⟩
  dsimp only at ha hn4 hr ⊢
  cases n with
  | zero=>
   have:R=(a:Int):=by
    rw[←hr]
    cases l.drop a <;> rfl
   subst this
   repeat' ((conv=>whnf);first|refine Or.inl ?_|apply oi|(apply fi<;>intro h)|refine⟨_,rfl,?_⟩|exact rfl)
   all_goals try exact⟨KO⟩
   all_goals try exact KX
  | succ n=>
   by_cases hlt:a < l.length
   ·obtain⟨t,ht⟩:=ae hlt
    rw[AN ht]at hr
    have hT:=pJ t (hn t (List.mem_of_getElem? ht))
    have hA:=pr t (hn t (List.mem_of_getElem? ht))
    cases hok:eB t with
    | false=>
     rw[hok]at hT
     rw[if_neg (by simp[hok])]at hr
     subst hr
     repeat' ((conv=>whnf);first|refine Or.inl ?_|apply oi|(apply fi<;>intro h)|refine⟨a,t.tr,rfl,ab ht,?_⟩|refine ci hT (ai (ai rfl (ai rfl (ai rfl trivial))) trivial) ?_|refine⟨_,rfl,?_⟩|exact rfl)
     all_goals try exact⟨KO⟩
     all_goals try exact KX
    | true=>
     obtain⟨e1,e2⟩:=pi hok
     rw[e1]at hA
     rw[hok]at hT
     rw[if_pos hok]at hr
     repeat' ((conv=>whnf);first|refine Or.inl ?_|apply oi|(apply fi<;>intro h)|refine⟨a,t.tr,rfl,ab ht,?_⟩|refine ci hT (ai (ai rfl (ai rfl (ai rfl trivial))) trivial) ?_|refine ci hA (ai (ai rfl (ai rfl (ai rfl trivial))) trivial) ?_|refine⟨_,rfl,?_⟩|exact rfl)
     all_goals try exact⟨KO⟩
     all_goals try exact KX
     conv=>whnf
     refine⟨⟨(a+1,n+ar t),by dsimp only;omega,by dsimp only;omega,hr⟩,?_,KD⟩
     repeat' ((conv=>whnf);first|refine Or.inl ?_|apply oi|(apply fi<;>intro h)|refine⟨_,rfl,?_⟩|exact rfl)
     all_goals try exact⟨KO⟩
     all_goals try exact⟨K4⟩
     all_goals try exact⟨by dsimp only;congr 1;rw[IntWalk.i64_in _ (by omega)];omega⟩
     all_goals exact⟨congrArg (Tr.int _) (by dsimp only;simp(disch:=omega)only[IntWalk.i64_in];omega)⟩
   ·rw[List.drop_eq_nil_of_le (by omega),endL]at hr
    subst hr
    repeat' ((conv=>whnf);first|refine Or.inl ?_|apply oi|(apply fi<;>intro h)|refine⟨_,rfl,?_⟩|exact rfl)
    all_goals try exact⟨KO⟩
    all_goals try exact KX
 ·have hb:=aE p 0 (IntKind.i64.wrap (((l.map Gf.tr).length:Int) - 1))
  have hf:af p 0 (IntKind.i64.wrap (((l.map Gf.tr).length:Int) - 1))=false:=by
   cases hx:af p 0 (IntKind.i64.wrap (((l.map Gf.tr).length:Int) - 1))with
   | false=>rfl
   | true=>have:=within_iff.1 hx;rw[hw]at this;exact absurd ⟨this.1,by omega⟩ hin
  rw[hf]at hb
  have he:cY l p= -1:=by
   unfold cY
   split
   ·rw[List.drop_eq_nil_of_le (by omega)];rfl
   ·rfl
  rw[he]
  repeat' ((conv=>whnf);first|refine Or.inl ?_|apply oi|(apply fi<;>intro h)|refine ci hb (ai rfl (ai rfl (ai rfl trivial))) ?_|refine⟨_,rfl,?_⟩|exact rfl)
  all_goals try exact⟨KO⟩
  all_goals(exfalso;simp at h;done)
theorem iU (l:List Gf)(p:Int)(hl:l.length≤1048576)(hn:dq l):Sim.Spec Tryz.prog 238 [tvL 3 (l.map Gf.tr),tvI p] (rI (cY l p)):=by
 refine aj hΓ ao Tryz.func238 rfl (by decide) rfl ?_
 have hlen:(l.map Gf.tr).length=l.length:=by simp
 by_cases h0:0≤p
 ·obtain⟨p,rfl⟩:=Int.eq_ofNat_of_zero_le h0
  obtain⟨R,hR⟩:∃R,cY l (p:Int)=R:=⟨_,rfl⟩
  rw[hR]
  rw[cY,if_pos h0,Int.toNat_natCast]at hR
  by_cases hlp:p≤l.length
  ·skip
   repeat' ((conv=>whnf);first|refine Or.inl ?_|apply oi|(apply fi<;>intro h)|refine⟨_,rfl,?_⟩|exact rfl)
   all_goals try exact⟨KO⟩
   all_goals try exact KX
   conv=>whnf
   refine⟨EQ l R,fun q=>⟨[(0,.r (.c (.t (.lst 3 (l.map Gf.tr))))),(1,tI .i64 (q.1.1:Int)),(5,tI .i64 (q.1.2:Int))],[],[]⟩,fun q=>l.length - q.1.1,⟨(p,1),by omega,by omega,hR⟩,?_,?_⟩
   ·skip
    repeat' ((conv=>whnf);first|refine Or.inl ?_|apply oi|(apply fi<;>intro h)|refine⟨_,rfl,?_⟩|exact rfl)
    all_goals try exact⟨KO⟩
   intro⟨⟨a,n⟩,ha,hn4,hr⟩
   dsimp only at ha hn4 hr ⊢
   cases n with
   | zero=>
    have:R=(a:Int):=by
     rw[←hr]
     cases l.drop a <;> rfl
    subst this
    repeat' ((conv=>whnf);first|refine Or.inl ?_|apply oi|(apply fi<;>intro h)|refine⟨_,rfl,?_⟩|exact rfl)
    all_goals try exact⟨KO⟩
    all_goals try exact KX
   | succ n=>
    by_cases hlt:a < l.length
    ·obtain⟨t,ht⟩:=ae hlt
     rw[AN ht]at hr
     have hT:=po t (hn t (List.mem_of_getElem? ht))
     have hA:=kp t (hn t (List.mem_of_getElem? ht))
     cases hok:eB t with
     | false=>
      rw[hok]at hT
      rw[if_neg (by simp[hok])]at hr
      subst hr
      repeat' ((conv=>whnf);first|refine Or.inl ?_|apply oi|(apply fi<;>intro h)|refine⟨a,t.tr,rfl,ab ht,?_⟩|refine ci hT (ai (ai rfl (ai rfl (ai rfl trivial))) trivial) ?_|refine⟨_,rfl,?_⟩|exact rfl)
      all_goals try exact⟨KO⟩
      all_goals try exact KX
     | true=>
      obtain⟨e1,e2⟩:=pi hok
      rw[e1]at hA
      rw[hok]at hT
      rw[if_pos hok]at hr
      repeat' ((conv=>whnf);first|refine Or.inl ?_|apply oi|(apply fi<;>intro h)|refine⟨a,t.tr,rfl,ab ht,?_⟩|refine ci hT (ai (ai rfl (ai rfl (ai rfl trivial))) trivial) ?_|refine ci hA (ai (ai rfl (ai rfl (ai rfl trivial))) trivial) ?_|refine⟨_,rfl,?_⟩|exact rfl)
      all_goals try exact⟨KO⟩
      all_goals try exact KX
      conv=>whnf
      refine⟨⟨(a+1,n+ar t),by dsimp only;omega,by dsimp only;omega,hr⟩,?_,KD⟩
      repeat' ((conv=>whnf);first|refine Or.inl ?_|apply oi|(apply fi<;>intro h)|refine⟨_,rfl,?_⟩|exact rfl)
      all_goals try exact⟨KO⟩
      all_goals try exact⟨K4⟩
      all_goals try exact⟨by dsimp only;congr 1;rw[IntWalk.i64_in _ (by omega)];omega⟩
      all_goals exact⟨congrArg (Tr.int _) (by dsimp only;simp(disch:=omega)only[IntWalk.i64_in];omega)⟩
    ·rw[List.drop_eq_nil_of_le (by omega),endL]at hr
     subst hr
     repeat' ((conv=>whnf);first|refine Or.inl ?_|apply oi|(apply fi<;>intro h)|refine⟨_,rfl,?_⟩|exact rfl)
     all_goals try exact⟨KO⟩
     all_goals try exact KX
  ·rw[List.drop_eq_nil_of_le (by omega),endL]at hR
   subst hR
   repeat' ((conv=>whnf);first|refine Or.inl ?_|apply oi|(apply fi<;>intro h)|refine⟨_,rfl,?_⟩|exact rfl)
   all_goals try exact⟨KO⟩
   all_goals try exact KX
   conv=>whnf
   refine⟨Unit,fun q=>⟨[(0,.r (.c (.t (.lst 3 (l.map Gf.tr))))),(1,tI .i64 (p:Int)),(5,tI .i64 1)],[],[]⟩,fun q=>0,(),?_,?_⟩
   ·skip
    repeat' ((conv=>whnf);first|refine Or.inl ?_|apply oi|(apply fi<;>intro h)|refine⟨_,rfl,?_⟩|exact rfl)
    all_goals try exact⟨KO⟩
   intro q
   repeat' ((conv=>whnf);first|refine Or.inl ?_|apply oi|(apply fi<;>intro h)|refine⟨_,rfl,?_⟩|exact rfl)
   all_goals try exact⟨KO⟩
   all_goals try exact KX
 ·have he:cY l p= -1:=by rw[cY,if_neg h0]
  rw[he]
  repeat' ((conv=>whnf);first|refine Or.inl ?_|apply oi|(apply fi<;>intro h)|refine⟨_,rfl,?_⟩|exact rfl)
  all_goals try exact⟨KO⟩
  all_goals try exact KX
def bi (l:List Gf):Bool:=decide (l.length≤20) && (decide (0 < l.length) && cY l 0==(l.length:Int))
theorem nd (l:List Gf)(hl:l.length≤1048576)(hn:dq l):Sim.Spec Tryz.prog 213 [tvL 3 (l.map Gf.tr)] (rB (bi l)):=by
 refine aj hΓ ao Tryz.func213 rfl (by decide) rfl ?_
 have hlen:(l.map Gf.tr).length=l.length:=by simp
 have hE:=iI l 0 hl hn
 unfold bi
 generalize cY l 0=e at *
 repeat' ((conv=>whnf);first|refine Or.inl ?_|apply oi|(apply fi<;>intro h)|refine ci hE (ai rfl (ai rfl trivial)) ?_|refine⟨_,rfl,?_⟩|exact rfl)
 all_goals try exact⟨KO⟩
 all_goals(refine⟨congrArg Tr.bool ?_⟩;simp_all;try omega)
theorem np (l:List Gf)(hl:l.length≤1048576)(hn:dq l):Sim.Spec Tryz.prog 191 [tvL 3 (l.map Gf.tr)] (rB (bi l)):=by
 refine aj hΓ ao Tryz.func191 rfl (by decide) rfl ?_
 have hlen:(l.map Gf.tr).length=l.length:=by simp
 have hE:=iU l 0 hl hn
 unfold bi
 generalize cY l 0=e at *
 repeat' ((conv=>whnf);first|refine Or.inl ?_|apply oi|(apply fi<;>intro h)|refine ci hE (ai rfl (ai rfl trivial)) ?_|refine⟨_,rfl,?_⟩|exact rfl)
 all_goals try exact⟨KO⟩
 all_goals(refine⟨congrArg Tr.bool ?_⟩;simp_all;try omega)
end Go.Proofs.YtoglejgmjeojoaaGreat
