import Derived.Test.YtogdbgmiigfmfaaGreatGd
import Derived.Test.YtogdbgmiigfmfaaGreatRows
namespace Go.Sim
theorem K1 {p:Prop}(h:p:=by simp;omega):p:=h
theorem K2 {k:IntKind}{a b:Int}(h:a=b:=by(try simp(disch:=omega)only[IntWalk.i64_in])):Tr.int k a=Tr.int k b:=congrArg (Tr.int k) h
theorem K3 {p:Prop}(h:False:=by simp at *;omega):p:=h.elim
theorem K4 {p:Prop}(h:p:=by dsimp only;rw[IntWalk.i64_in _ (by omega)];rfl):p:=h
theorem K5 {p:Prop}(h:False:=by simp(disch:=omega)only[IntWalk.i64_in]at *;simp only[beq_iff_eq]at *;omega):p:=h.elim
theorem K6 {p:Prop}(h:False:=by simp only[beq_iff_eq]at *;omega):p:=h.elim
theorem K7 {p:Prop}(h:p:=by simp <;> omega):p:=h
theorem K8 {p:Prop}(h:p:=by rw[List.length_append];omega):p:=h
end Go.Sim
namespace Go.Proofs.YtogdbgmiigfmfaaGreat
open Go.Sim
def Γ:Env:=[
 (1,{size:=1,bytes:=8,agg:=false,zero:=[AC.opq]}),
 (2,{size:=1,bytes:=8,agg:=false,zero:=[AC.t (Tr.int Go.IntKind.i64 (Int.ofNat 0))],kind:=some Go.IntKind.i64}),
 (3,{size:=1,bytes:=8,agg:=false,zero:=[AC.t (Tr.int Go.IntKind.i64 (Int.ofNat 0))],kind:=some Go.IntKind.i64}),
 (4,{size:=1,bytes:=1,agg:=false,zero:=[AC.t (Tr.bool false)],bool:=true}),
 (5,{size:=1,bytes:=1,agg:=false,zero:=[AC.t (Tr.int Go.IntKind.u8 (Int.ofNat 0))],kind:=some Go.IntKind.u8}),
 (6,{size:=1,bytes:=1,agg:=false,zero:=[AC.t (Tr.int Go.IntKind.u8 (Int.ofNat 0))],kind:=some Go.IntKind.u8}),
 (7,{size:=4,bytes:=24,agg:=true,zero:=[AC.t (Tr.int Go.IntKind.i64 (Int.ofNat 0)),AC.t (Tr.int Go.IntKind.i64 (Int.ofNat 0)),AC.t (Tr.bool false),AC.t (Tr.int Go.IntKind.u8 (Int.ofNat 0))],fields:=[(0,1,2),(1,1,3),(2,1,4),(3,1,6)]}),
 (8,{size:=4,bytes:=24,agg:=true,zero:=[AC.t (Tr.int Go.IntKind.i64 (Int.ofNat 0)),AC.t (Tr.int Go.IntKind.i64 (Int.ofNat 0)),AC.t (Tr.bool false),AC.t (Tr.int Go.IntKind.u8 (Int.ofNat 0))],fields:=[(0,1,2),(1,1,3),(2,1,4),(3,1,6)]}),
 (9,{size:=1,bytes:=16,agg:=false,zero:=[AC.t (Tr.str [])],str:=true}),
 (10,{size:=1,bytes:=16,agg:=false,zero:=[AC.t (Tr.str [])],str:=true}),
 (11,{size:=1,bytes:=16,agg:=false,zero:=[AC.t (Tr.str [])],str:=true}),
 (12,{size:=1,bytes:=8,agg:=false,zero:=[AC.t (Tr.int Go.IntKind.u64 (Int.ofNat 0))],kind:=some Go.IntKind.u64}),
 (13,{size:=2,bytes:=24,agg:=true,zero:=[AC.t (Tr.str []),AC.t (Tr.int Go.IntKind.u64 (Int.ofNat 0))],fields:=[(0,1,9),(1,1,12)]}),
 (14,{size:=2,bytes:=24,agg:=true,zero:=[AC.t (Tr.str []),AC.t (Tr.int Go.IntKind.u64 (Int.ofNat 0))],fields:=[(0,1,9),(1,1,12)]}),
 (15,{size:=1,bytes:=8,agg:=false,zero:=[AC.nilp]}),
 (16,{size:=1,bytes:=8,agg:=false,zero:=[AC.nilp]}),
 (17,{size:=1,bytes:=8,agg:=false,zero:=[AC.nilp]}),
 (18,{size:=1,bytes:=8,agg:=true,zero:=[AC.nilp],fields:=[(0,1,17)]}),
 (19,{size:=1,bytes:=8,agg:=true,zero:=[AC.nilp],fields:=[(0,1,17)]}),
 (20,{size:=1,bytes:=16,agg:=false,zero:=[AC.opq]}),
 (21,{size:=1,bytes:=4,agg:=false,zero:=[AC.t (Tr.int Go.IntKind.i32 (Int.ofNat 0))],kind:=some Go.IntKind.i32}),
 (22,{size:=1,bytes:=24,agg:=false,zero:=[AC.nils 0],elem:=some 82}),
 (23,{size:=4,bytes:=24,agg:=true,zero:=[AC.t (Tr.int Go.IntKind.i64 (Int.ofNat 0)),AC.t (Tr.int Go.IntKind.i64 (Int.ofNat 0)),AC.t (Tr.bool false),AC.t (Tr.bool false)],fields:=[(0,1,3),(1,1,3),(2,1,4),(3,1,4)]}),
 (24,{size:=4,bytes:=24,agg:=true,zero:=[AC.t (Tr.int Go.IntKind.i64 (Int.ofNat 0)),AC.t (Tr.int Go.IntKind.i64 (Int.ofNat 0)),AC.t (Tr.bool false),AC.t (Tr.bool false)],fields:=[(0,1,3),(1,1,3),(2,1,4),(3,1,4)]}),
 (25,{size:=1,bytes:=8,agg:=false,zero:=[AC.opq]}),
 (26,{size:=1,bytes:=24,agg:=false,zero:=[AC.nils 0],elem:=some 97}),
 (27,{size:=1,bytes:=8,agg:=false,zero:=[AC.opq]}),
 (28,{size:=1,bytes:=24,agg:=false,zero:=[AC.nils 0],elem:=some 91}),
 (29,{size:=1,bytes:=8,agg:=false,zero:=[AC.opq]}),
 (30,{size:=4,bytes:=24,agg:=true,zero:=[AC.t (Tr.int Go.IntKind.i64 (Int.ofNat 0)),AC.t (Tr.int Go.IntKind.i64 (Int.ofNat 0)),AC.t (Tr.bool false),AC.t (Tr.bool false)],fields:=[(0,1,3),(1,1,3),(2,1,4),(3,1,4)]}),
 (31,{size:=1,bytes:=8,agg:=false,zero:=[AC.opq]}),
 (32,{size:=1,bytes:=8,agg:=false,zero:=[AC.opq]}),
 (33,{size:=1,bytes:=8,agg:=false,zero:=[AC.opq]}),
 (34,{size:=1,bytes:=8,agg:=false,zero:=[AC.opq]}),
 (35,{size:=1,bytes:=8,agg:=false,zero:=[AC.opq]}),
 (36,{size:=1,bytes:=8,agg:=false,zero:=[AC.opq]}),
 (37,{size:=1,bytes:=24,agg:=false,zero:=[AC.nils 0],elem:=some 106}),
 (38,{size:=1,bytes:=8,agg:=false,zero:=[AC.opq]}),
 (39,{size:=1,bytes:=8,agg:=false,zero:=[AC.opq]}),
 (40,{size:=1,bytes:=8,agg:=false,zero:=[AC.opq]}),
 (41,{size:=1,bytes:=8,agg:=false,zero:=[AC.opq]}),
 (42,{size:=1,bytes:=24,agg:=false,zero:=[AC.nils 0],elem:=some 112}),
 (43,{size:=2,bytes:=40,agg:=true,zero:=[AC.t (Tr.str []),AC.nils 0],fields:=[(0,1,9),(1,1,42)]}),
 (44,{size:=2,bytes:=40,agg:=true,zero:=[AC.t (Tr.str []),AC.nils 0],fields:=[(0,1,9),(1,1,42)]}),
 (45,{size:=1,bytes:=8,agg:=false,zero:=[AC.opq]}),
 (46,{size:=1,bytes:=8,agg:=false,zero:=[AC.opq]}),
 (47,{size:=1,bytes:=8,agg:=false,zero:=[AC.opq]}),
 (48,{size:=1,bytes:=24,agg:=false,zero:=[AC.nils 0],elem:=some 44}),
 (49,{size:=1,bytes:=24,agg:=false,zero:=[AC.nils 0],elem:=some 3}),
 (50,{size:=3,bytes:=72,agg:=true,zero:=[AC.nils 0,AC.nils 0,AC.nils 0],fields:=[(0,1,48),(1,1,49),(2,1,49)]}),
 (51,{size:=3,bytes:=72,agg:=true,zero:=[AC.nils 0,AC.nils 0,AC.nils 0],fields:=[(0,1,48),(1,1,49),(2,1,49)]}),
 (53,{size:=1,bytes:=8,agg:=false,zero:=[AC.opq]}),
 (54,{size:=1,bytes:=8,agg:=false,zero:=[AC.opq]}),
 (55,{size:=1,bytes:=8,agg:=false,zero:=[AC.opq]}),
 (56,{size:=1,bytes:=8,agg:=false,zero:=[AC.opq]}),
 (57,{size:=1,bytes:=24,agg:=false,zero:=[AC.nils 0],elem:=some 5}),
 (58,{size:=1,bytes:=8,agg:=false,zero:=[AC.opq]}),
 (60,{size:=1,bytes:=8,agg:=false,zero:=[AC.opq]}),
 (61,{size:=1,bytes:=24,agg:=false,zero:=[AC.nils 0],elem:=some 125}),
 (62,{size:=1,bytes:=8,agg:=false,zero:=[AC.opq]}),
 (63,{size:=1,bytes:=24,agg:=false,zero:=[AC.nils 0],elem:=some 61}),
 (64,{size:=7,bytes:=88,agg:=true,zero:=[AC.t (Tr.int Go.IntKind.i64 (Int.ofNat 0)),AC.t (Tr.int Go.IntKind.i64 (Int.ofNat 0)),AC.t (Tr.int Go.IntKind.i64 (Int.ofNat 0)),AC.nils 0,AC.nils 0,AC.t (Tr.int Go.IntKind.i64 (Int.ofNat 0)),AC.t (Tr.int Go.IntKind.i64 (Int.ofNat 0))],fields:=[(0,1,3),(1,1,3),(2,1,3),(3,1,49),(4,1,49),(5,1,3),(6,1,3)]}),
 (65,{size:=7,bytes:=88,agg:=true,zero:=[AC.t (Tr.int Go.IntKind.i64 (Int.ofNat 0)),AC.t (Tr.int Go.IntKind.i64 (Int.ofNat 0)),AC.t (Tr.int Go.IntKind.i64 (Int.ofNat 0)),AC.nils 0,AC.nils 0,AC.t (Tr.int Go.IntKind.i64 (Int.ofNat 0)),AC.t (Tr.int Go.IntKind.i64 (Int.ofNat 0))],fields:=[(0,1,3),(1,1,3),(2,1,3),(3,1,49),(4,1,49),(5,1,3),(6,1,3)]}),
 (67,{size:=1,bytes:=8,agg:=false,zero:=[AC.opq]}),
 (69,{size:=1,bytes:=8,agg:=false,zero:=[AC.opq]}),
 (70,{size:=4,bytes:=48,agg:=true,zero:=[AC.t (Tr.int Go.IntKind.i64 (Int.ofNat 0)),AC.t (Tr.int Go.IntKind.i64 (Int.ofNat 0)),AC.t (Tr.int Go.IntKind.i64 (Int.ofNat 0)),AC.nils 0],fields:=[(0,1,3),(1,1,3),(2,1,3),(3,1,49)]}),
 (71,{size:=4,bytes:=48,agg:=true,zero:=[AC.t (Tr.int Go.IntKind.i64 (Int.ofNat 0)),AC.t (Tr.int Go.IntKind.i64 (Int.ofNat 0)),AC.t (Tr.int Go.IntKind.i64 (Int.ofNat 0)),AC.nils 0],fields:=[(0,1,3),(1,1,3),(2,1,3),(3,1,49)]}),
 (72,{size:=1,bytes:=8,agg:=false,zero:=[AC.opq]}),
 (73,{size:=2,bytes:=16,agg:=true,zero:=[AC.t (Tr.int Go.IntKind.i64 (Int.ofNat 0)),AC.t (Tr.int Go.IntKind.i64 (Int.ofNat 0))],fields:=[(0,1,3),(1,1,3)]}),
 (74,{size:=2,bytes:=16,agg:=true,zero:=[AC.t (Tr.int Go.IntKind.i64 (Int.ofNat 0)),AC.t (Tr.int Go.IntKind.i64 (Int.ofNat 0))],fields:=[(0,1,3),(1,1,3)]}),
 (76,{size:=1,bytes:=8,agg:=false,zero:=[AC.opq]}),
 (77,{size:=1,bytes:=8,agg:=false,zero:=[AC.opq]}),
 (78,{size:=1,bytes:=8,agg:=false,zero:=[AC.opq]}),
 (79,{size:=1,bytes:=24,agg:=false,zero:=[AC.nils 0],elem:=some 9}),
 (80,{size:=1,bytes:=24,agg:=false,zero:=[AC.nils 0],elem:=some 186}),
 (81,{size:=4,bytes:=72,agg:=true,zero:=[AC.t (Tr.int Go.IntKind.i64 (Int.ofNat 0)),AC.t (Tr.str []),AC.nils 0,AC.nils 0],fields:=[(0,1,3),(1,1,9),(2,1,79),(3,1,80)]}),
 (82,{size:=4,bytes:=72,agg:=true,zero:=[AC.t (Tr.int Go.IntKind.i64 (Int.ofNat 0)),AC.t (Tr.str []),AC.nils 0,AC.nils 0],fields:=[(0,1,3),(1,1,9),(2,1,79),(3,1,80)]}),
 (83,{size:=1,bytes:=8,agg:=false,zero:=[AC.opq]}),
 (84,{size:=1,bytes:=8,agg:=false,zero:=[AC.opq]}),
 (85,{size:=1,bytes:=8,agg:=false,zero:=[AC.opq]}),
 (86,{size:=1,bytes:=8,agg:=false,zero:=[AC.opq]}),
 (88,{size:=1,bytes:=8,agg:=false,zero:=[AC.opq]}),
 (89,{size:=1,bytes:=24,agg:=false,zero:=[AC.nils 0],elem:=some 159}),
 (90,{size:=4,bytes:=72,agg:=true,zero:=[AC.t (Tr.int Go.IntKind.i64 (Int.ofNat 0)),AC.t (Tr.str []),AC.nils 0,AC.nils 0],fields:=[(0,1,3),(1,1,9),(2,1,79),(3,1,89)]}),
 (91,{size:=4,bytes:=72,agg:=true,zero:=[AC.t (Tr.int Go.IntKind.i64 (Int.ofNat 0)),AC.t (Tr.str []),AC.nils 0,AC.nils 0],fields:=[(0,1,3),(1,1,9),(2,1,79),(3,1,89)]}),
 (92,{size:=1,bytes:=8,agg:=false,zero:=[AC.opq]}),
 (93,{size:=1,bytes:=8,agg:=false,zero:=[AC.opq]}),
 (94,{size:=1,bytes:=8,agg:=false,zero:=[AC.opq]}),
 (95,{size:=1,bytes:=8,agg:=false,zero:=[AC.opq]}),
 (96,{size:=7,bytes:=72,agg:=true,zero:=[AC.t (Tr.int Go.IntKind.i64 (Int.ofNat 0)),AC.t (Tr.int Go.IntKind.i64 (Int.ofNat 0)),AC.t (Tr.int Go.IntKind.i64 (Int.ofNat 0)),AC.t (Tr.bool false),AC.nils 0,AC.t (Tr.int Go.IntKind.i64 (Int.ofNat 0)),AC.t (Tr.bool false)],fields:=[(0,2,74),(2,1,3),(3,1,4),(4,1,49),(5,1,3),(6,1,4)]}),
 (97,{size:=7,bytes:=72,agg:=true,zero:=[AC.t (Tr.int Go.IntKind.i64 (Int.ofNat 0)),AC.t (Tr.int Go.IntKind.i64 (Int.ofNat 0)),AC.t (Tr.int Go.IntKind.i64 (Int.ofNat 0)),AC.t (Tr.bool false),AC.nils 0,AC.t (Tr.int Go.IntKind.i64 (Int.ofNat 0)),AC.t (Tr.bool false)],fields:=[(0,2,74),(2,1,3),(3,1,4),(4,1,49),(5,1,3),(6,1,4)]}),
 (98,{size:=1,bytes:=8,agg:=false,zero:=[AC.opq]}),
 (99,{size:=1,bytes:=8,agg:=false,zero:=[AC.opq]}),
 (100,{size:=1,bytes:=8,agg:=false,zero:=[AC.opq]}),
 (101,{size:=1,bytes:=8,agg:=false,zero:=[AC.opq]}),
 (102,{size:=1,bytes:=8,agg:=false,zero:=[AC.opq]}),
 (103,{size:=1,bytes:=8,agg:=false,zero:=[AC.opq]}),
 (104,{size:=1,bytes:=8,agg:=false,zero:=[AC.opq]}),
 (105,{size:=8,bytes:=80,agg:=true,zero:=[AC.t (Tr.int Go.IntKind.i64 (Int.ofNat 0)),AC.t (Tr.int Go.IntKind.i64 (Int.ofNat 0)),AC.t (Tr.int Go.IntKind.i64 (Int.ofNat 0)),AC.t (Tr.int Go.IntKind.i64 (Int.ofNat 0)),AC.t (Tr.bool false),AC.nils 0,AC.t (Tr.int Go.IntKind.i64 (Int.ofNat 0)),AC.t (Tr.bool false)],fields:=[(0,1,3),(1,7,97)]}),
 (106,{size:=8,bytes:=80,agg:=true,zero:=[AC.t (Tr.int Go.IntKind.i64 (Int.ofNat 0)),AC.t (Tr.int Go.IntKind.i64 (Int.ofNat 0)),AC.t (Tr.int Go.IntKind.i64 (Int.ofNat 0)),AC.t (Tr.int Go.IntKind.i64 (Int.ofNat 0)),AC.t (Tr.bool false),AC.nils 0,AC.t (Tr.int Go.IntKind.i64 (Int.ofNat 0)),AC.t (Tr.bool false)],fields:=[(0,1,3),(1,7,97)]}),
 (107,{size:=1,bytes:=24,agg:=false,zero:=[AC.nils 0],elem:=some 37}),
 (109,{size:=1,bytes:=8,agg:=false,zero:=[AC.opq]}),
 (110,{size:=1,bytes:=8,agg:=false,zero:=[AC.opq]}),
 (111,{size:=3,bytes:=32,agg:=true,zero:=[AC.t (Tr.str []),AC.t (Tr.int Go.IntKind.i64 (Int.ofNat 0)),AC.t (Tr.int Go.IntKind.i64 (Int.ofNat 0))],fields:=[(0,1,9),(1,1,3),(2,1,3)]}),
 (112,{size:=3,bytes:=32,agg:=true,zero:=[AC.t (Tr.str []),AC.t (Tr.int Go.IntKind.i64 (Int.ofNat 0)),AC.t (Tr.int Go.IntKind.i64 (Int.ofNat 0))],fields:=[(0,1,9),(1,1,3),(2,1,3)]}),
 (113,{size:=1,bytes:=8,agg:=false,zero:=[AC.opq]}),
 (114,{size:=1,bytes:=8,agg:=false,zero:=[AC.opq]}),
 (115,{size:=1,bytes:=8,agg:=false,zero:=[AC.opq]}),
 (116,{size:=1,bytes:=8,agg:=false,zero:=[AC.opq]}),
 (117,{size:=1,bytes:=8,agg:=false,zero:=[AC.opq]}),
 (118,{size:=1,bytes:=8,agg:=false,zero:=[AC.opq]}),
 (119,{size:=1,bytes:=8,agg:=false,zero:=[AC.opq]}),
 (120,{size:=1,bytes:=8,agg:=false,zero:=[AC.opq]}),
 (121,{size:=1,bytes:=8,agg:=false,zero:=[AC.nilp]}),
 (122,{size:=1,bytes:=8,agg:=false,zero:=[AC.opq]}),
 (123,{size:=1,bytes:=8,agg:=false,zero:=[AC.opq]}),
 (124,{size:=4,bytes:=32,agg:=true,zero:=[AC.t (Tr.int Go.IntKind.i64 (Int.ofNat 0)),AC.t (Tr.int Go.IntKind.i64 (Int.ofNat 0)),AC.t (Tr.bool false),AC.t (Tr.int Go.IntKind.i64 (Int.ofNat 0))],fields:=[(0,1,3),(1,1,3),(2,1,4),(3,1,3)]}),
 (125,{size:=4,bytes:=32,agg:=true,zero:=[AC.t (Tr.int Go.IntKind.i64 (Int.ofNat 0)),AC.t (Tr.int Go.IntKind.i64 (Int.ofNat 0)),AC.t (Tr.bool false),AC.t (Tr.int Go.IntKind.i64 (Int.ofNat 0))],fields:=[(0,1,3),(1,1,3),(2,1,4),(3,1,3)]}),
 (127,{size:=1,bytes:=8,agg:=false,zero:=[AC.opq]}),
 (128,{size:=1,bytes:=8,agg:=false,zero:=[AC.opq]}),
 (129,{size:=1,bytes:=8,agg:=false,zero:=[AC.opq]}),
 (130,{size:=1,bytes:=8,agg:=false,zero:=[AC.opq]}),
 (131,{size:=1,bytes:=8,agg:=false,zero:=[AC.opq]}),
 (132,{size:=1,bytes:=8,agg:=false,zero:=[AC.opq]}),
 (133,{size:=1,bytes:=8,agg:=false,zero:=[AC.opq]}),
 (134,{size:=1,bytes:=8,agg:=false,zero:=[AC.opq]}),
 (135,{size:=1,bytes:=8,agg:=false,zero:=[AC.nilp]}),
 (136,{size:=1,bytes:=24,agg:=false,zero:=[AC.nils 0],elem:=some 141}),
 (137,{size:=13,bytes:=144,agg:=true,zero:=[AC.nils 0,AC.t (Tr.int Go.IntKind.i64 (Int.ofNat 0)),AC.t (Tr.int Go.IntKind.i64 (Int.ofNat 0)),AC.t (Tr.bool false),AC.t (Tr.bool false),AC.t (Tr.bool false),AC.t (Tr.int Go.IntKind.i64 (Int.ofNat 0)),AC.t (Tr.int Go.IntKind.i64 (Int.ofNat 0)),AC.t (Tr.int Go.IntKind.i64 (Int.ofNat 0)),AC.t (Tr.int Go.IntKind.i64 (Int.ofNat 0)),AC.nils 0,AC.nils 0,AC.t (Tr.bool false)],fields:=[(0,1,28),(1,4,30),(5,1,4),(6,1,3),(7,1,3),(8,1,3),(9,1,3),(10,1,26),(11,1,136),(12,1,4)]}),
 (138,{size:=13,bytes:=144,agg:=true,zero:=[AC.nils 0,AC.t (Tr.int Go.IntKind.i64 (Int.ofNat 0)),AC.t (Tr.int Go.IntKind.i64 (Int.ofNat 0)),AC.t (Tr.bool false),AC.t (Tr.bool false),AC.t (Tr.bool false),AC.t (Tr.int Go.IntKind.i64 (Int.ofNat 0)),AC.t (Tr.int Go.IntKind.i64 (Int.ofNat 0)),AC.t (Tr.int Go.IntKind.i64 (Int.ofNat 0)),AC.t (Tr.int Go.IntKind.i64 (Int.ofNat 0)),AC.nils 0,AC.nils 0,AC.t (Tr.bool false)],fields:=[(0,1,28),(1,4,30),(5,1,4),(6,1,3),(7,1,3),(8,1,3),(9,1,3),(10,1,26),(11,1,136),(12,1,4)]}),
 (139,{size:=1,bytes:=8,agg:=false,zero:=[AC.opq]}),
 (140,{size:=6,bytes:=96,agg:=true,zero:=[AC.t (Tr.int Go.IntKind.i64 (Int.ofNat 0)),AC.nils 0,AC.nils 0,AC.t (Tr.int Go.IntKind.i64 (Int.ofNat 0)),AC.t (Tr.bool false),AC.nils 0],fields:=[(0,1,3),(1,1,49),(2,1,79),(3,1,3),(4,1,4),(5,1,49)]}),
 (141,{size:=6,bytes:=96,agg:=true,zero:=[AC.t (Tr.int Go.IntKind.i64 (Int.ofNat 0)),AC.nils 0,AC.nils 0,AC.t (Tr.int Go.IntKind.i64 (Int.ofNat 0)),AC.t (Tr.bool false),AC.nils 0],fields:=[(0,1,3),(1,1,49),(2,1,79),(3,1,3),(4,1,4),(5,1,49)]}),
 (142,{size:=1,bytes:=8,agg:=false,zero:=[AC.opq]}),
 (143,{size:=1,bytes:=8,agg:=false,zero:=[AC.opq]}),
 (144,{size:=1,bytes:=8,agg:=false,zero:=[AC.opq]}),
 (145,{size:=1,bytes:=8,agg:=false,zero:=[AC.opq]}),
 (146,{size:=1,bytes:=8,agg:=false,zero:=[AC.opq]}),
 (147,{size:=1,bytes:=8,agg:=false,zero:=[AC.nilp]}),
 (148,{size:=11,bytes:=128,agg:=true,zero:=[AC.nils 0,AC.t (Tr.int Go.IntKind.i64 (Int.ofNat 0)),AC.t (Tr.int Go.IntKind.i64 (Int.ofNat 0)),AC.t (Tr.bool false),AC.t (Tr.bool false),AC.t (Tr.bool false),AC.t (Tr.int Go.IntKind.i64 (Int.ofNat 0)),AC.t (Tr.int Go.IntKind.i64 (Int.ofNat 0)),AC.nils 0,AC.t (Tr.int Go.IntKind.i64 (Int.ofNat 0)),AC.nils 0],fields:=[(0,1,28),(1,4,30),(5,1,4),(6,1,3),(7,1,3),(8,1,26),(9,1,3),(10,1,49)]}),
 (149,{size:=11,bytes:=128,agg:=true,zero:=[AC.nils 0,AC.t (Tr.int Go.IntKind.i64 (Int.ofNat 0)),AC.t (Tr.int Go.IntKind.i64 (Int.ofNat 0)),AC.t (Tr.bool false),AC.t (Tr.bool false),AC.t (Tr.bool false),AC.t (Tr.int Go.IntKind.i64 (Int.ofNat 0)),AC.t (Tr.int Go.IntKind.i64 (Int.ofNat 0)),AC.nils 0,AC.t (Tr.int Go.IntKind.i64 (Int.ofNat 0)),AC.nils 0],fields:=[(0,1,28),(1,4,30),(5,1,4),(6,1,3),(7,1,3),(8,1,26),(9,1,3),(10,1,49)]}),
 (150,{size:=1,bytes:=8,agg:=false,zero:=[AC.nilp]}),
 (151,{size:=8,bytes:=112,agg:=true,zero:=[AC.t (Tr.int Go.IntKind.i64 (Int.ofNat 0)),AC.t (Tr.int Go.IntKind.i64 (Int.ofNat 0)),AC.nils 0,AC.t (Tr.int Go.IntKind.i64 (Int.ofNat 0)),AC.t (Tr.int Go.IntKind.i64 (Int.ofNat 0)),AC.nils 0,AC.t (Tr.int Go.IntKind.i64 (Int.ofNat 0)),AC.nils 0],fields:=[(0,1,3),(1,1,3),(2,1,79),(3,1,3),(4,1,3),(5,1,49),(6,1,3),(7,1,49)]}),
 (152,{size:=8,bytes:=112,agg:=true,zero:=[AC.t (Tr.int Go.IntKind.i64 (Int.ofNat 0)),AC.t (Tr.int Go.IntKind.i64 (Int.ofNat 0)),AC.nils 0,AC.t (Tr.int Go.IntKind.i64 (Int.ofNat 0)),AC.t (Tr.int Go.IntKind.i64 (Int.ofNat 0)),AC.nils 0,AC.t (Tr.int Go.IntKind.i64 (Int.ofNat 0)),AC.nils 0],fields:=[(0,1,3),(1,1,3),(2,1,79),(3,1,3),(4,1,3),(5,1,49),(6,1,3),(7,1,49)]}),
 (153,{size:=1,bytes:=8,agg:=false,zero:=[AC.opq]}),
 (154,{size:=1,bytes:=8,agg:=false,zero:=[AC.opq]}),
 (155,{size:=1,bytes:=8,agg:=false,zero:=[AC.opq]}),
 (156,{size:=1,bytes:=8,agg:=false,zero:=[AC.opq]}),
 (157,{size:=1,bytes:=8,agg:=false,zero:=[AC.opq]}),
 (158,{size:=3,bytes:=32,agg:=true,zero:=[AC.t (Tr.int Go.IntKind.i64 (Int.ofNat 0)),AC.t (Tr.int Go.IntKind.i64 (Int.ofNat 0)),AC.t (Tr.str [])],fields:=[(0,1,3),(1,1,3),(2,1,9)]}),
 (159,{size:=3,bytes:=32,agg:=true,zero:=[AC.t (Tr.int Go.IntKind.i64 (Int.ofNat 0)),AC.t (Tr.int Go.IntKind.i64 (Int.ofNat 0)),AC.t (Tr.str [])],fields:=[(0,1,3),(1,1,3),(2,1,9)]}),
 (161,{size:=1,bytes:=8,agg:=false,zero:=[AC.opq]}),
 (162,{size:=1,bytes:=8,agg:=false,zero:=[AC.opq]}),
 (163,{size:=1,bytes:=8,agg:=false,zero:=[AC.opq]}),
 (164,{size:=1,bytes:=8,agg:=false,zero:=[AC.opq]}),
 (165,{size:=1,bytes:=8,agg:=false,zero:=[AC.opq]}),
 (166,{size:=1,bytes:=8,agg:=false,zero:=[AC.opq]}),
 (168,{size:=1,bytes:=8,agg:=false,zero:=[AC.opq]}),
 (169,{size:=1,bytes:=8,agg:=false,zero:=[AC.opq]}),
 (170,{size:=1,bytes:=8,agg:=false,zero:=[AC.opq]}),
 (171,{size:=1,bytes:=8,agg:=false,zero:=[AC.opq]}),
 (172,{size:=1,bytes:=8,agg:=false,zero:=[AC.opq]}),
 (173,{size:=1,bytes:=8,agg:=false,zero:=[AC.opq]}),
 (174,{size:=3,bytes:=40,agg:=true,zero:=[AC.nils 0,AC.t (Tr.int Go.IntKind.i64 (Int.ofNat 0)),AC.t (Tr.int Go.IntKind.i64 (Int.ofNat 0))],fields:=[(0,1,57),(1,1,3),(2,1,3)]}),
 (175,{size:=3,bytes:=40,agg:=true,zero:=[AC.nils 0,AC.t (Tr.int Go.IntKind.i64 (Int.ofNat 0)),AC.t (Tr.int Go.IntKind.i64 (Int.ofNat 0))],fields:=[(0,1,57),(1,1,3),(2,1,3)]}),
 (176,{size:=1,bytes:=8,agg:=false,zero:=[AC.opq]}),
 (177,{size:=1,bytes:=8,agg:=false,zero:=[AC.opq]}),
 (178,{size:=1,bytes:=8,agg:=false,zero:=[AC.opq]}),
 (179,{size:=1,bytes:=8,agg:=false,zero:=[AC.opq]}),
 (180,{size:=1,bytes:=8,agg:=false,zero:=[AC.opq]}),
 (181,{size:=1,bytes:=8,agg:=false,zero:=[AC.nilp]}),
 (182,{size:=8,bytes:=96,agg:=true,zero:=[AC.t (Tr.int Go.IntKind.i64 (Int.ofNat 0)),AC.t (Tr.int Go.IntKind.i64 (Int.ofNat 0)),AC.t (Tr.int Go.IntKind.i64 (Int.ofNat 0)),AC.nils 0,AC.nils 0,AC.t (Tr.int Go.IntKind.i64 (Int.ofNat 0)),AC.t (Tr.int Go.IntKind.i64 (Int.ofNat 0)),AC.t (Tr.bool false)],fields:=[(0,7,65),(7,1,4)]}),
 (183,{size:=8,bytes:=96,agg:=true,zero:=[AC.t (Tr.int Go.IntKind.i64 (Int.ofNat 0)),AC.t (Tr.int Go.IntKind.i64 (Int.ofNat 0)),AC.t (Tr.int Go.IntKind.i64 (Int.ofNat 0)),AC.nils 0,AC.nils 0,AC.t (Tr.int Go.IntKind.i64 (Int.ofNat 0)),AC.t (Tr.int Go.IntKind.i64 (Int.ofNat 0)),AC.t (Tr.bool false)],fields:=[(0,7,65),(7,1,4)]}),
 (184,{size:=1,bytes:=8,agg:=false,zero:=[AC.opq]}),
 (185,{size:=1,bytes:=8,agg:=false,zero:=[AC.opq]}),
 (186,{size:=3,bytes:=32,agg:=true,zero:=[AC.t (Tr.int Go.IntKind.i64 (Int.ofNat 0)),AC.t (Tr.int Go.IntKind.i64 (Int.ofNat 0)),AC.t (Tr.str [])],fields:=[(0,1,3),(1,1,3),(2,1,9)]}),
 (187,{size:=1,bytes:=8,agg:=false,zero:=[AC.opq]}),
 (188,{size:=1,bytes:=8,agg:=false,zero:=[AC.opq]}),
 (189,{size:=1,bytes:=8,agg:=false,zero:=[AC.opq]}),
 (190,{size:=1,bytes:=8,agg:=false,zero:=[AC.opq]}),
 (191,{size:=1,bytes:=8,agg:=false,zero:=[AC.opq]}),
 (192,{size:=1,bytes:=24,agg:=false,zero:=[AC.nils 0],elem:=some 195}),
 (193,{size:=1,bytes:=8,agg:=false,zero:=[AC.opq]}),
 (194,{size:=2,bytes:=16,agg:=true,zero:=[AC.t (Tr.int Go.IntKind.i64 (Int.ofNat 0)),AC.t (Tr.int Go.IntKind.i64 (Int.ofNat 0))],fields:=[(0,1,3),(1,1,3)]}),
 (195,{size:=2,bytes:=16,agg:=true,zero:=[AC.t (Tr.int Go.IntKind.i64 (Int.ofNat 0)),AC.t (Tr.int Go.IntKind.i64 (Int.ofNat 0))],fields:=[(0,1,3),(1,1,3)]}),
 (196,{size:=1,bytes:=8,agg:=false,zero:=[AC.opq]}),
 (197,{size:=1,bytes:=8,agg:=false,zero:=[AC.opq]}),
 (198,{size:=1,bytes:=8,agg:=false,zero:=[AC.opq]}),
 (199,{size:=1,bytes:=8,agg:=false,zero:=[AC.opq]}),
 (200,{size:=1,bytes:=8,agg:=false,zero:=[AC.opq]}),
 (201,{size:=1,bytes:=8,agg:=false,zero:=[AC.opq]}),
 (202,{size:=1,bytes:=8,agg:=false,zero:=[AC.opq]}),
 (203,{size:=1,bytes:=8,agg:=false,zero:=[AC.opq]}),
 (204,{size:=1,bytes:=8,agg:=false,zero:=[AC.opq],map:=some (some Go.IntKind.i64)}),
 (205,{size:=1,bytes:=8,agg:=false,zero:=[AC.opq]}),
 (206,{size:=1,bytes:=8,agg:=false,zero:=[AC.opq]}),
 (207,{size:=1,bytes:=8,agg:=false,zero:=[AC.opq]}),
 (208,{size:=1,bytes:=8,agg:=false,zero:=[AC.opq]}),
 (209,{size:=1,bytes:=8,agg:=false,zero:=[AC.opq]}),
 (210,{size:=1,bytes:=24,agg:=false,zero:=[AC.nils 0],elem:=some 74}),
 (212,{size:=1,bytes:=8,agg:=false,zero:=[AC.opq]}),
 (213,{size:=1,bytes:=8,agg:=false,zero:=[AC.opq]}),
 (214,{size:=1,bytes:=8,agg:=false,zero:=[AC.opq]}),
 (215,{size:=1,bytes:=8,agg:=false,zero:=[AC.opq]}),
 (216,{size:=1,bytes:=8,agg:=false,zero:=[AC.opq]}),
 (217,{size:=1,bytes:=8,agg:=false,zero:=[AC.opq]}),
 (218,{size:=1,bytes:=8,agg:=false,zero:=[AC.opq]}),
 (219,{size:=1,bytes:=8,agg:=false,zero:=[AC.opq]}),
 (220,{size:=1,bytes:=8,agg:=false,zero:=[AC.opq]}),
 (221,{size:=1,bytes:=8,agg:=false,zero:=[AC.opq]}),
 (222,{size:=1,bytes:=8,agg:=false,zero:=[AC.nilp]}),
 (223,{size:=1,bytes:=8,agg:=false,zero:=[AC.opq]}),
 (224,{size:=1,bytes:=8,agg:=false,zero:=[AC.opq]}),
 (225,{size:=1,bytes:=8,agg:=false,zero:=[AC.opq]}),
 (226,{size:=1,bytes:=8,agg:=false,zero:=[AC.opq]}),
 (227,{size:=1,bytes:=24,agg:=false,zero:=[AC.nils 0],elem:=some 89}),
 (228,{size:=1,bytes:=8,agg:=false,zero:=[AC.opq]}),
 (229,{size:=1,bytes:=8,agg:=false,zero:=[AC.opq]}),
 (230,{size:=1,bytes:=8,agg:=false,zero:=[AC.nilp]}),
 (231,{size:=4,bytes:=80,agg:=true,zero:=[AC.nilp,AC.nils 0,AC.nils 0,AC.nils 0],fields:=[(0,1,121),(1,1,79),(2,1,79),(3,1,49)]}),
 (232,{size:=4,bytes:=80,agg:=true,zero:=[AC.nilp,AC.nils 0,AC.nils 0,AC.nils 0],fields:=[(0,1,121),(1,1,79),(2,1,79),(3,1,49)]}),
 (233,{size:=1,bytes:=8,agg:=false,zero:=[AC.opq]}),
 (234,{size:=1,bytes:=8,agg:=false,zero:=[AC.opq]}),
 (235,{size:=1,bytes:=8,agg:=false,zero:=[AC.t (Tr.int Go.IntKind.u64 (Int.ofNat 0))],kind:=some Go.IntKind.u64}),
 (236,{size:=1,bytes:=8,agg:=false,zero:=[AC.opq]}),
 (237,{size:=1,bytes:=8,agg:=false,zero:=[AC.opq]}),
 (238,{size:=1,bytes:=8,agg:=false,zero:=[AC.opq]}),
 (239,{size:=1,bytes:=4,agg:=false,zero:=[AC.t (Tr.int Go.IntKind.u32 (Int.ofNat 0))],kind:=some Go.IntKind.u32}),
 (240,{size:=1,bytes:=8,agg:=false,zero:=[AC.opq]}),
 (241,{size:=4,bytes:=40,agg:=true,zero:=[AC.nilp,AC.nilp,AC.nilp,AC.t (Tr.str [])],fields:=[(0,1,17),(1,1,17),(2,1,17),(3,1,9)]}),
 (242,{size:=4,bytes:=40,agg:=true,zero:=[AC.nilp,AC.nilp,AC.nilp,AC.t (Tr.str [])],fields:=[(0,1,17),(1,1,17),(2,1,17),(3,1,9)]}),
 (246,{size:=1,bytes:=1,agg:=false,zero:=[AC.t (Tr.int Go.IntKind.u8 (Int.ofNat 0))],kind:=some Go.IntKind.u8}),
 (247,{size:=1,bytes:=1,agg:=false,zero:=[AC.t (Tr.int Go.IntKind.u8 (Int.ofNat 0))],kind:=some Go.IntKind.u8}),
 (248,{size:=1,bytes:=8,agg:=false,zero:=[AC.opq]}),
 (249,{size:=1,bytes:=8,agg:=false,zero:=[AC.nilp]}),
 (250,{size:=1,bytes:=4,agg:=false,zero:=[AC.t (Tr.int Go.IntKind.i32 (Int.ofNat 0))],kind:=some Go.IntKind.i32}),
 (251,{size:=1,bytes:=4,agg:=false,zero:=[AC.t (Tr.int Go.IntKind.i32 (Int.ofNat 0))],kind:=some Go.IntKind.i32}),
 (252,{size:=11,bytes:=48,agg:=true,zero:=[AC.t (Tr.int Go.IntKind.u64 (Int.ofNat 0)),AC.t (Tr.int Go.IntKind.u64 (Int.ofNat 0)),AC.t (Tr.int Go.IntKind.u32 (Int.ofNat 0)),AC.t (Tr.int Go.IntKind.u8 (Int.ofNat 0)),AC.t (Tr.int Go.IntKind.u8 (Int.ofNat 0)),AC.t (Tr.int Go.IntKind.u8 (Int.ofNat 0)),AC.t (Tr.int Go.IntKind.u8 (Int.ofNat 0)),AC.opq,AC.nilp,AC.t (Tr.int Go.IntKind.i32 (Int.ofNat 0)),AC.t (Tr.int Go.IntKind.i32 (Int.ofNat 0))],fields:=[(0,1,12),(1,1,12),(2,1,239),(3,1,246),(4,1,5),(5,1,5),(6,1,247),(7,1,248),(8,1,249),(9,1,250),(10,1,251)]}),
 (253,{size:=11,bytes:=48,agg:=true,zero:=[AC.t (Tr.int Go.IntKind.u64 (Int.ofNat 0)),AC.t (Tr.int Go.IntKind.u64 (Int.ofNat 0)),AC.t (Tr.int Go.IntKind.u32 (Int.ofNat 0)),AC.t (Tr.int Go.IntKind.u8 (Int.ofNat 0)),AC.t (Tr.int Go.IntKind.u8 (Int.ofNat 0)),AC.t (Tr.int Go.IntKind.u8 (Int.ofNat 0)),AC.t (Tr.int Go.IntKind.u8 (Int.ofNat 0)),AC.opq,AC.nilp,AC.t (Tr.int Go.IntKind.i32 (Int.ofNat 0)),AC.t (Tr.int Go.IntKind.i32 (Int.ofNat 0))],fields:=[(0,1,12),(1,1,12),(2,1,239),(3,1,246),(4,1,5),(5,1,5),(6,1,247),(7,1,248),(8,1,249),(9,1,250),(10,1,251)]}),
 (254,{size:=1,bytes:=8,agg:=false,zero:=[AC.nilp]})]
theorem hΓ:Γ.chk Tryz.prog=true:=by kernel_rfl
theorem hmix:Tryz.prog.follows .mixedOrders=true:=by kernel_rfl
end Go.Proofs.YtogdbgmiigfmfaaGreat
namespace Go.Proofs.YtogdbgmiigfmfaaGreat
open Go.Sim Go.ChangeShapes Go.WideShapes Go.ChangeAt Go.RowKit
theorem own:ownKnob Tryz.prog.godebug=none:=by kernel_rfl
theorem laidOut:laidOutB Tryz.prog=true:=by kernel_rfl
theorem i64_le {n:Int}(h:(Lit.int .i64 n).wf=true):n≤9223372036854775807:=by
 simp[Lit.wf]at h
 exact h.2
theorem i64_ge {n:Int}(h:(Lit.int .i64 n).wf=true):-9223372036854775808≤n:=by
 simp[Lit.wf]at h
 exact h.1
theorem rows_map {α:Type}{g:α→List Tr}{Q:α→Prop}:∀{rows:List (List Tr)},(∀r∈rows,∃m,r=g m∧Q m)→∃ns:List α,rows=ns.map g∧∀m∈ns,Q m
 | [],_=>⟨[],rfl,fun _ h=>by cases h⟩
 | r::rows,h=>by
  obtain⟨m,rfl,hm⟩:=h r (by simp)
  obtain⟨ns,rfl,hns⟩:=rows_map (rows:=rows) fun r hr=>h r (by simp[hr])
  exact⟨m::ns,rfl,fun x hx=>by
   rcases List.mem_cons.1 hx with rfl|hx
   ·exact hm
   ·exact hns x hx⟩
end Go.Proofs.YtogdbgmiigfmfaaGreat
namespace Go.Proofs.YtogdbgmiigfmfaaGreat
open Go.Sim Go.RowKit
def inI (n:Int):Prop:= -9223372036854775808≤n∧n≤9223372036854775807
def intRow (n:Int):List Tr:=[.int .i64 n]
def strRow (s:List UInt8):List Tr:=[.str s]
structure TOp where
 fCode:Int
 fArg:Int
def TOp.tr (x:TOp):List Tr:=[.int .i64 x.fCode,.int .i64 x.fArg]
def TOp.wf (x:TOp):Prop:=inI x.fCode∧inI x.fArg
structure TTok where
 fKind:Int
 fNum:Int
 fName:List UInt8
def TTok.tr (x:TTok):List Tr:=[.int .i64 x.fKind,.int .i64 x.fNum,.str x.fName]
def TTok.wf (x:TTok):Prop:=inI x.fKind∧inI x.fNum∧x.fName.length≤maxLen
structure TLine where
 fKind:Int
 fName:List UInt8
 fArgs:List (List UInt8)
 fExpr:List TTok
def TLine.tr (x:TLine):List Tr:=[.int .i64 x.fKind,.str x.fName,.lst 1 (x.fArgs.map strRow),.lst 3 (x.fExpr.map TTok.tr)]
def TLine.wf (x:TLine):Prop:=inI x.fKind∧x.fName.length≤maxLen∧(x.fArgs.length≤maxLen∧∀y∈x.fArgs,y.length≤maxLen)∧(x.fExpr.length≤maxLen∧∀y∈x.fExpr,y.wf)
structure TBuild where
 fFrames:Int
 fInline:Int
 fFold:Bool
 fSplit:Bool
def TBuild.tr (x:TBuild):List Tr:=[.int .i64 x.fFrames,.int .i64 x.fInline,.bool x.fFold,.bool x.fSplit]
def TBuild.wf (x:TBuild):Prop:=inI x.fFrames∧inI x.fInline
structure TItem where
 fOp:TOp
 fLine:Int
 fStart:Bool
 fChain:List Int
 fDepth:Int
 fEntered:Bool
def TItem.tr (x:TItem):List Tr:=[.int .i64 x.fOp.fCode,.int .i64 x.fOp.fArg,.int .i64 x.fLine,.bool x.fStart,.lst 1 (x.fChain.map intRow),.int .i64 x.fDepth,.bool x.fEntered]
def TItem.wf (x:TItem):Prop:=x.fOp.wf∧inI x.fLine∧(x.fChain.length≤maxLen∧∀y∈x.fChain,inI y)∧inI x.fDepth
structure TSymbol where
 fName:List UInt8
 fStart:Int
 fSize:Int
def TSymbol.tr (x:TSymbol):List Tr:=[.str x.fName,.int .i64 x.fStart,.int .i64 x.fSize]
def TSymbol.wf (x:TSymbol):Prop:=x.fName.length≤maxLen∧inI x.fStart∧inI x.fSize
structure TImage where
 fCode:List UInt8
 fSymbols:List TSymbol
def TImage.tr (x:TImage):List Tr:=[.str x.fCode,.lst 3 (x.fSymbols.map TSymbol.tr)]
def TImage.wf (x:TImage):Prop:=x.fCode.length≤maxLen∧(x.fSymbols.length≤maxLen∧∀y∈x.fSymbols,y.wf)
structure TSpace where
 fImages:List TImage
 fBases:List Int
 fEntries:List Int
def TSpace.tr (x:TSpace):List Tr:=[.lst 2 (x.fImages.map TImage.tr),.lst 1 (x.fBases.map intRow),.lst 1 (x.fEntries.map intRow)]
def TSpace.wf (x:TSpace):Prop:=(x.fImages.length≤maxLen∧∀y∈x.fImages,y.wf)∧(x.fBases.length≤maxLen∧∀y∈x.fBases,inI y)∧(x.fEntries.length≤maxLen∧∀y∈x.fEntries,inI y)
structure TMachine where
 fPc:Int
 fSp:Int
 fFp:Int
 fStack:List Int
 fOut:List Int
 fState:Int
 fValue:Int
def TMachine.tr (x:TMachine):List Tr:=[.int .i64 x.fPc,.int .i64 x.fSp,.int .i64 x.fFp,.lst 1 (x.fStack.map intRow),.lst 1 (x.fOut.map intRow),.int .i64 x.fState,.int .i64 x.fValue]
def TMachine.wf (x:TMachine):Prop:=inI x.fPc∧inI x.fSp∧inI x.fFp∧(x.fStack.length≤maxLen∧∀y∈x.fStack,inI y)∧(x.fOut.length≤maxLen∧∀y∈x.fOut,inI y)∧inI x.fState∧inI x.fValue
structure TPlace where
 fOffset:Int
 fItem:TItem
def TPlace.tr (x:TPlace):List Tr:=[.int .i64 x.fOffset,.int .i64 x.fItem.fOp.fCode,.int .i64 x.fItem.fOp.fArg,.int .i64 x.fItem.fLine,.bool x.fItem.fStart,.lst 1 (x.fItem.fChain.map intRow),.int .i64 x.fItem.fDepth,.bool x.fItem.fEntered]
def TPlace.wf (x:TPlace):Prop:=inI x.fOffset∧x.fItem.wf
structure TRule where
 fStart:Int
 fEnd:Int
 fFrame:Bool
 fDepth:Int
def TRule.tr (x:TRule):List Tr:=[.int .i64 x.fStart,.int .i64 x.fEnd,.bool x.fFrame,.int .i64 x.fDepth]
def TRule.wf (x:TRule):Prop:=inI x.fStart∧inI x.fEnd∧inI x.fDepth
structure TView where
 fPc:Int
 fSp:Int
 fFp:Int
 fWords:List Int
def TView.tr (x:TView):List Tr:=[.int .i64 x.fPc,.int .i64 x.fSp,.int .i64 x.fFp,.lst 1 (x.fWords.map intRow)]
def TView.wf (x:TView):Prop:=inI x.fPc∧inI x.fSp∧inI x.fFp∧(x.fWords.length≤maxLen∧∀y∈x.fWords,inI y)
structure TRow where
 fOffset:Int
 fLine:Int
 fStart:Bool
def TRow.tr (x:TRow):List Tr:=[.int .i64 x.fOffset,.int .i64 x.fLine,.bool x.fStart]
def TRow.wf (x:TRow):Prop:=inI x.fOffset∧inI x.fLine
structure TInline where
 fStart:Int
 fEnd:Int
 fLevel:Int
 fLine:Int
 fName:List UInt8
def TInline.tr (x:TInline):List Tr:=[.int .i64 x.fStart,.int .i64 x.fEnd,.int .i64 x.fLevel,.int .i64 x.fLine,.str x.fName]
def TInline.wf (x:TInline):Prop:=inI x.fStart∧inI x.fEnd∧inI x.fLevel∧inI x.fLine∧x.fName.length≤maxLen
structure TDebug where
 fId:Int
 fSymbols:List TSymbol
 fRules:List TRule
 fRows:List TRow
 fInlines:List TInline
def TDebug.tr (x:TDebug):List Tr:=[.int .i64 x.fId,.lst 3 (x.fSymbols.map TSymbol.tr),.lst 4 (x.fRules.map TRule.tr),.lst 3 (x.fRows.map TRow.tr),.lst 5 (x.fInlines.map TInline.tr)]
def TDebug.wf (x:TDebug):Prop:=inI x.fId∧(x.fSymbols.length≤maxLen∧∀y∈x.fSymbols,y.wf)∧(x.fRules.length≤maxLen∧∀y∈x.fRules,y.wf)∧(x.fRows.length≤maxLen∧∀y∈x.fRows,y.wf)∧(x.fInlines.length≤maxLen∧∀y∈x.fInlines,y.wf)
structure TFrame where
 fName:List UInt8
 fLine:Int
def TFrame.tr (x:TFrame):List Tr:=[.str x.fName,.int .i64 x.fLine]
def TFrame.wf (x:TFrame):Prop:=x.fName.length≤maxLen∧inI x.fLine
end Go.Proofs.YtogdbgmiigfmfaaGreat
namespace Go.Proofs.YtogdbgmiigfmfaaGreat
open Go.Sim
set_option maxRecDepth 100000
def digs (n:Nat)(acc:List UInt8):List UInt8:=if n=0 then acc else digs (n / 10) (UInt8.ofNat (48+n % 10)::acc)
 termination_by n
 decreasing_by omega
def mText (k:Int):List UInt8:=if k≤0 then [109,48]else 109::digs k.toNat []
mutual
def cnT:Tr→Nat
 | .lst _ rows=>cnRs rows
 | _=>1
def cnR:List Tr→Nat
 | []=>0
 | c::cs=>cnT c+cnR cs
def cnRs:List (List Tr)→Nat
 | []=>0
 | r::rs=>cnR r+cnRs rs
end
mutual
def mkT:Tr→Int→Tr
 | .int kd _,k=> .int kd k
 | .bool _,k=> .bool (k.tmod 3==0)
 | .str _,k=> .str (mText k)
 | .lst sz rows,k=> .lst sz (mkRs rows k)
def mkR:List Tr→Int→List Tr
 | [],_=>[]
 | c::cs,k=>mkT c k::mkR cs (k+(cnT c:Nat))
def mkRs:List (List Tr)→Int→List (List Tr)
 | [],_=>[]
 | r::rs,k=>mkR r k::mkRs rs (k+(cnR r:Nat))
end
theorem cnRs_append:∀(a b:List (List Tr)),cnRs (a++b)=cnRs a+cnRs b
 | [],b=>by rw[List.nil_append,cnRs];omega
 | r::a,b=>by rw[List.cons_append,cnRs,cnRs,cnRs_append a b];omega
theorem mkRs_append:∀(a b:List (List Tr)) (k:Int),mkRs (a++b) k=mkRs a k++mkRs b (k+(cnRs a:Nat))
 | [],b,k=>by rw[List.nil_append,cnRs,mkRs,List.nil_append];simp
 | r::a,b,k=>by
  rw[List.cons_append,mkRs,mkRs,mkRs_append a b,cnRs,List.cons_append]
  congr 2
  congr 1
  omega
theorem mkRs_length:∀(a:List (List Tr)) (k:Int),(mkRs a k).length=a.length
 | [],_=>by rw[mkRs]
 | r::a,k=>by rw[mkRs,List.length_cons,List.length_cons,mkRs_length a]
theorem cnRs_le {rows:List (List Tr)}{M:Nat}(h:∀r∈rows,cnR r≤M):cnRs rows≤rows.length * M:=by
 induction rows with
 | nil=>rw[cnRs];omega
 | cons r rs ih=>
  rw[cnRs,List.length_cons,Nat.succ_mul]
  have h1:=h r (by simp)
  have h2:=ih fun r hr=>h r (by simp[hr])
  omega
theorem cnRs_map_le {α:Type}{g:α→List Tr}{l:List α}{M:Nat}(h:∀x∈l,cnR (g x)≤M):cnRs (l.map g)≤l.length * M:=by
 have:=cnRs_le (rows:=l.map g) (M:=M) fun r hr=>by obtain⟨x,hx,rfl⟩:=List.mem_map.1 hr;exact h x hx
 rwa [List.length_map]at this
theorem cnRs_snoc {α:Type}(g:α→List Tr)(a:List α)(x:α):cnRs ((a++[x]).map g)=cnRs (a.map g)+cnR (g x):=by
 rw[List.map_append,cnRs_append,List.map_cons,List.map_nil,cnRs,cnRs];omega
theorem mkRs_snoc {α:Type}(g:α→List Tr)(a:List α)(x:α)(k:Int):mkRs ((a++[x]).map g) k=mkRs (a.map g) k++[mkR (g x) (k+(cnRs (a.map g):Nat))]:=by
 rw[List.map_append,mkRs_append,List.map_cons,List.map_nil,mkRs,mkRs]
theorem mid_get {α:Type}{D t:List α}{r:α}{n:Nat}(h:D.length=n):(D++r::t)[n]?=some r:=by
 subst h;simp
theorem mid_set {α:Type}{D t:List α}{r r':α}{n:Nat}(h:D.length=n):(D++r::t).set n r'=D++r'::t:=by
 subst h;simp
theorem set_get {α:Type}{l:List α}{r:α}{n:Nat}(h:n < l.length):(l.set n r)[n]?=some r:=by simp[h]
theorem set_set {α:Type}(l:List α)(r r':α)(n:Nat):(l.set n r).set n r'=l.set n r':=List.set_set ..
theorem deepRows_append (a b:List (List Tr)):deepRows (a++b)=deepRows a++deepRows b:=by simp[deepRows]
theorem deepRows_length (a:List (List Tr)):(deepRows a).length=a.length:=by simp[deepRows]
theorem deepRows_cons (r:List Tr)(b:List (List Tr)):deepRows (r::b)=r.map .d::deepRows b:=by simp[deepRows]
theorem undeep (a:List (List Tr)):(deepRows a).map (·.map DC.tr)=a:=by
 rw[deepRows,List.map_map]
 conv=>rhs;rw[←List.map_id a]
 apply List.map_congr_left
 intro r _
 simp only[Function.comp,List.map_map,id]
 conv=>rhs;rw[←List.map_id r]
 apply List.map_congr_left
 intro x _
 rfl
theorem deep_eq (sz:Nat)(a:List (List Tr)):Tr.lst sz a=Tr.lst sz ((deepRows a).map (·.map DC.tr)):=by rw[undeep]
theorem deepRows_get {l:List (List Tr)}{k:Nat}{r:List Tr}(h:l[k]?=some r):(deepRows l)[k]?=some (r.map .d):=by simp[deepRows,h]
theorem deepRows_set (l:List (List Tr))(k:Nat)(r:List Tr):(deepRows l).set k (r.map .d)=deepRows (l.set k r):=by simp[deepRows,List.map_set]
theorem seq_inl {A:Prop}{Q:(ι:Type)→(ι→St)→Prop}(h:A):A∨∃(ι:Type) (S:ι→St),Q ι S:=Or.inl h
theorem flat_map {α:Type}{g:α→List Tr}(l:List α)(h:∀x,∀c∈g x,∀sz rs,c≠.lst sz rs):flat (l.map g):=by
 intro row hr c hc sz rs
 obtain⟨x,_,rfl⟩:=List.mem_map.1 hr
 exact h x c hc sz rs
theorem flat_ints (l:List Int):flat (l.map intRow):=flat_map _ (by intro x c hc sz rs e;subst e;simp[intRow]at hc)
theorem snoc_cons {α:Type}(a b:List α)(x:α):a++[x]++b=a++x::b:=by simp
end Go.Proofs.YtogdbgmiigfmfaaGreat
namespace Go.Proofs.YtogdbgmiigfmfaaGreat
open Go.Sim
abbrev tvI (n:Int):TV:= .c (.int .i64 n)
abbrev tvS (n:List UInt8):TV:= .c (.str n)
abbrev rI (n:Int):Res:= .r (.c (.t (.int .i64 n)))
abbrev rB (b:Bool):Res:= .r (.c (.t (.bool b)))
abbrev rS (b:List UInt8):Res:= .r (.c (.t (.str b)))
def within (n lo hi:Int):Bool:=decide (lo≤n) && decide (n≤hi)
theorem within_iff {n lo hi:Int}:within n lo hi=true↔lo≤n∧n≤hi:=by simp[within]
set_option maxRecDepth 100000
theorem s_impl_between (n lo hi:Int):Sim.Spec Tryz.prog 50 [tvI n,tvI lo,tvI hi] (rB (within n lo hi)):=by
 refine spec_of_W hΓ hmix Tryz.func50 rfl (by decide) rfl ?_
 repeat' ((conv=>whnf);first|refine Or.inl ?_|apply oi|(apply fi<;>intro h)|refine⟨_,rfl,?_⟩|((with_reducible show _=_);rfl))
 all_goals try((with_reducible refine Obl.mk ?_);exact KO)
 all_goals refine⟨?_⟩
 all_goals simp_all[within]
 all_goals omega
theorem s_spec_l01In (n lo hi:Int):Sim.Spec Tryz.prog 61 [tvI n,tvI lo,tvI hi] (rB (within n lo hi)):=by
 refine spec_of_W hΓ hmix Tryz.func61 rfl (by decide) rfl ?_
 repeat' ((conv=>whnf);first|refine Or.inl ?_|apply oi|(apply fi<;>intro h)|refine⟨_,rfl,?_⟩|((with_reducible show _=_);rfl))
 all_goals try((with_reducible refine Obl.mk ?_);exact KO)
 all_goals refine⟨?_⟩
 all_goals simp_all[within]
 all_goals omega
def signed (n:Int):Int:=if within n 0 1099511627775 then(if n % 2=1 then -((n+1) / 2)else n / 2)else 0
end Go.Proofs.YtogdbgmiigfmfaaGreat
namespace Go.Proofs.YtogdbgmiigfmfaaGreat
open Go.Sim
set_option maxRecDepth 100000
def encN (n:Nat):List UInt8:=if n≤127 then [UInt8.ofNat n]else UInt8.ofNat (n % 128+128)::encN (n / 128)
 termination_by n
 decreasing_by omega
def enc (n:Int):List UInt8:=if within n 0 1099511627775 then encN n.toNat else []
end Go.Proofs.YtogdbgmiigfmfaaGreat
namespace Go.Proofs.YtogdbgmiigfmfaaGreat
open Go.Sim
set_option maxRecDepth 100000
abbrev tvL (sz:Nat)(rows:List (List Tr)):TV:= .c (.lst sz rows)
abbrev rL (sz:Nat)(rows:List (List Tr)):Res:= .r (.c (.arr sz rows))
def filled {α:Type}(l:List α)(z:α)(k:Nat):List α:=l.take k++List.replicate (l.length - k) z
theorem filled_zero {α:Type}(l:List α)(z:α):List.replicate l.length z=filled l z 0:=by simp[filled]
theorem filled_all {α:Type}{l:List α}{z:α}{k:Nat}(h:l.length≤k):filled l z k=l:=by
 simp[filled,List.take_of_length_le h,Nat.sub_eq_zero_of_le h]
theorem filled_len {α:Type}{l:List α}{z:α}{k:Nat}(h:k≤l.length):(filled l z k).length=l.length:=by
 simp[filled];omega
theorem filled_get {α:Type}{l:List α}{z:α}{k:Nat}(h:k < l.length):(filled l z k)[k]?=some z:=by
 rw[filled,List.getElem?_append_right (by simp;omega),List.getElem?_replicate,if_pos (by simp;omega)]
theorem filled_set {α:Type}{l:List α}{z x:α}{k:Nat}(h:l[k]?=some x):(filled l z k).set k x=filled l z (k+1):=by
 have hk:k < l.length:=by
  rcases Nat.lt_or_ge k l.length with h'|h'
  ·exact h'
  ·rw[List.getElem?_eq_none h']at h;cases h
 have hx:l[k]=x:=by rw[List.getElem?_eq_getElem hk]at h;injection h
 obtain⟨m,hm⟩:∃m,l.length - k=m+1:=⟨l.length - k - 1,by omega⟩
 rw[filled,filled,List.set_append_right _ _ (by simp;omega),hm,List.replicate_succ,List.take_succ_eq_append_getElem hk,hx,show l.length - (k+1)=m by omega]
 simp[Nat.min_eq_left (Nat.le_of_lt hk)]
theorem map_get {α β:Type}{f:α→β}{l:List α}{k:Nat}{x:α}(h:l[k]?=some x):(l.map f)[k]?=some (f x):=by simp[h]
theorem get_of_lt {α:Type}{l:List α}{k:Nat}(h:k < l.length):∃x,l[k]?=some x:=⟨_,List.getElem?_eq_getElem h⟩
theorem drop_at {α:Type}{l:List α}{k:Nat}{x:α}(h:l[k]?=some x):l.drop k=x::l.drop (k+1):=by
 have hk:k < l.length:=by
  rcases Nat.lt_or_ge k l.length with h'|h'
  ·exact h'
  ·rw[List.getElem?_eq_none h']at h;cases h
 rw[List.getElem?_eq_getElem hk]at h
 injection h with h
 rw[←h]
 exact List.drop_eq_getElem_cons hk
end Go.Proofs.YtogdbgmiigfmfaaGreat
namespace Go.Proofs.YtogdbgmiigfmfaaGreat
open Go.Sim Go.RowKit
set_option maxRecDepth 100000
theorem inI_of {n:Int}(h:(Lit.int .i64 n).wf=true):inI n:=⟨i64_ge h,i64_le h⟩
theorem ty_str {r:List Tr}(h:∃s:List UInt8,r=[Tr.str s]∧s.length≤maxLen):∃m,r=strRow m∧m.length≤maxLen:=by
 obtain⟨m,rfl,hw⟩:=h
 exact⟨m,rfl,hw⟩
theorem smallRs_map {α:Type}{g:α→List Tr}{L:Int}{l:List α}{sz:Nat}(h:smallT L (.lst sz (l.map g))){x:α}(hx:x∈l):smallR L (g x):=by
 rw[smallT]at h
 exact smallRs_mem h.2 _ (List.mem_map_of_mem hx)
theorem small_len {α:Type}{g:α→List Tr}{L:Int}{l:List α}{sz:Nat}(h:smallT L (.lst sz (l.map g))):(l.length:Int)≤L:=by
 rw[smallT]at h
 simpa using h.1
theorem small_nat {α:Type}{g:α→List Tr}{l:List α}{sz:Nat}(h:smallT 1048576 (.lst sz (l.map g))):l.length≤1048576:=by
 have:=small_len h
 omega
theorem s_laws_toStringS (ns:List (List UInt8))(hs:smallT 1048576 (.lst 1 (ns.map strRow))):Sim.Spec Tryz.prog 96 [tvL 1 (ns.map strRow)] (rL 1 (ns.map strRow)):=by
 have hl:=small_len hs
 refine spec_of_W hΓ hmix Tryz.func96 rfl (by decide) rfl ?_
 have hlen:(ns.map strRow).length=ns.length:=by simp
 repeat' ((conv=>whnf);first|refine Or.inl ?_|apply oi|(apply fi<;>intro h)|refine⟨_,rfl,?_⟩|((with_reducible show _=_);rfl))
 all_goals try((with_reducible refine Obl.mk ?_);exact KO)
 ·exact⟨by omega⟩
 ·exact⟨by dsimp only;omega⟩
 repeat' ((conv=>whnf);first|refine Or.inl ?_|apply oi|(apply fi<;>intro h)|refine⟨_,rfl,?_⟩|((with_reducible show _=_);rfl))
 all_goals try((with_reducible refine Obl.mk ?_);exact KO)
 conv=>whnf
 refine⟨{k:Nat // k≤ns.length},fun k=>⟨[(0,.r (.c (.t (.lst 1 (ns.map strRow))))),(3,.r (.c (.own (3,0,0)))),(4,tI .i64 (k.1:Int))],[((3,0,0),some (.arr true 1 (filled (ns.map strRow) (strRow []) k.1)))],[3]⟩,fun k=>ns.length - k.1,⟨0,by omega⟩,?_,?_⟩
 ·skip
  repeat' ((conv=>whnf);first|refine Or.inl ?_|apply oi|(apply fi<;>intro h)|refine⟨_,rfl,?_⟩|((with_reducible show _=_);rfl))
  all_goals try((with_reducible refine Obl.mk ?_);exact KO)
 intro⟨k,hk⟩
 dsimp only
 repeat' ((conv=>whnf);first|refine Or.inl ?_|apply oi|(apply fi<;>intro h)|refine⟨_,rfl,?_⟩|((with_reducible show _=_);rfl))
 all_goals try((with_reducible refine Obl.mk ?_);exact KO)
 ·have hlt:k < ns.length:=by have:=of_decide_eq_true h;omega
  obtain⟨x,hx⟩:=get_of_lt hlt
  conv=>whnf
  refine⟨k,strRow x,rfl,map_get hx,?_⟩
  repeat' ((conv=>whnf);first|refine Or.inl ?_|apply oi|(apply fi<;>intro h)|refine⟨_,rfl,?_⟩|((with_reducible show _=_);rfl))
  all_goals try((with_reducible refine Obl.mk ?_);exact KO)
  ·exact⟨by rw[filled_len (by omega)];omega⟩
  conv=>whnf
  refine⟨strRow [],filled_get (by omega),?_⟩
  repeat' ((conv=>whnf);first|refine Or.inl ?_|apply oi|(apply fi<;>intro h)|refine⟨_,rfl,?_⟩|((with_reducible show _=_);rfl))
  all_goals try((with_reducible refine Obl.mk ?_);exact KO)
  conv=>whnf
  refine⟨⟨k+1,by omega⟩,?_,by dsimp only;omega⟩
  repeat' ((conv=>whnf);first|refine Or.inl ?_|apply oi|(apply fi<;>intro h)|refine⟨_,rfl,?_⟩|((with_reducible show _=_);rfl))
  all_goals try((with_reducible refine Obl.mk ?_);exact KO)
  ·exact⟨by dsimp only;rw[IntWalk.i64_in _ (by omega)];rfl⟩
  ·exact⟨filled_set (map_get hx)⟩
 ·have hge:ns.length≤k:=by have:=of_decide_eq_false h;omega
  exact⟨filled_all (by omega)⟩
theorem s_laws_eqStringS (ns:List (List UInt8))(hs:smallT 1048576 (.lst 1 (ns.map strRow))):Sim.Spec Tryz.prog 110 [tvL 1 (ns.map strRow),tvL 1 (ns.map strRow)] (rB true):=by
 have hl:=small_len hs
 refine spec_of_W hΓ hmix Tryz.func110 rfl (by decide) rfl ?_
 have hlen:(ns.map strRow).length=ns.length:=by simp
 repeat' ((conv=>whnf);first|refine Or.inl ?_|apply oi|(apply fi<;>intro h)|refine⟨_,rfl,?_⟩|((with_reducible show _=_);rfl))
 all_goals try((with_reducible refine Obl.mk ?_);exact KO)
 ·simp at h
 conv=>whnf
 refine⟨{k:Nat // k≤ns.length},fun k=>⟨[(0,.r (.c (.t (.lst 1 (ns.map strRow))))),(1,.r (.c (.t (.lst 1 (ns.map strRow))))),(5,tI .i64 (k.1:Int))],[],[]⟩,fun k=>ns.length - k.1,⟨0,by omega⟩,?_,?_⟩
 ·skip
  repeat' ((conv=>whnf);first|refine Or.inl ?_|apply oi|(apply fi<;>intro h)|refine⟨_,rfl,?_⟩|((with_reducible show _=_);rfl))
  all_goals try((with_reducible refine Obl.mk ?_);exact KO)
 intro⟨k,hk⟩
 dsimp only
 repeat' ((conv=>whnf);first|refine Or.inl ?_|apply oi|(apply fi<;>intro h)|refine⟨_,rfl,?_⟩|((with_reducible show _=_);rfl))
 all_goals try((with_reducible refine Obl.mk ?_);exact KO)
 ·have hlt:k < ns.length:=by have:=of_decide_eq_true h;omega
  obtain⟨x,hx⟩:=get_of_lt hlt
  conv=>whnf
  refine⟨k,strRow x,rfl,map_get hx,?_⟩
  repeat' ((conv=>whnf);first|refine Or.inl ?_|apply oi|(apply fi<;>intro h)|refine⟨_,rfl,?_⟩|((with_reducible show _=_);rfl))
  all_goals try((with_reducible refine Obl.mk ?_);exact KO)
  conv=>whnf
  refine⟨k,strRow x,rfl,map_get hx,?_⟩
  repeat' ((conv=>whnf);first|refine Or.inl ?_|apply oi|(apply fi<;>intro h)|refine⟨_,rfl,?_⟩|((with_reducible show _=_);rfl))
  all_goals try((with_reducible refine Obl.mk ?_);exact KO)
  ·simp at h
  conv=>whnf
  refine⟨⟨k+1,by omega⟩,?_,by dsimp only;omega⟩
  repeat' ((conv=>whnf);first|refine Or.inl ?_|apply oi|(apply fi<;>intro h)|refine⟨_,rfl,?_⟩|((with_reducible show _=_);rfl))
  all_goals try((with_reducible refine Obl.mk ?_);exact KO)
  exact⟨by dsimp only;rw[IntWalk.i64_in _ (by omega)];rfl⟩
theorem s_laws_szStringS (ns:List (List UInt8))(hw:ns.length≤maxLen∧∀y∈ns,y.length≤maxLen)(left:Int)(hle0:0≤left)(hle1:left≤1048576):Sim.Spec Tryz.prog 85 [tvL 1 (ns.map strRow),tvI left] (rI (szT (.lst 1 (ns.map strRow)) left)):=by
 have hlen:(ns.map strRow).length=ns.length:=by simp
 have hl2:ns.length≤9223372036854775807:=by simpa [maxLen]using hw.1
 rw[szT]
 refine spec_of_W hΓ hmix Tryz.func85 rfl (by decide) rfl ?_
 repeat' ((conv=>whnf);first|refine Or.inl ?_|apply oi|(apply fi<;>intro h)|refine⟨_,rfl,?_⟩|((with_reducible show _=_);rfl))
 all_goals try((with_reducible refine Obl.mk ?_);exact KO)
 ·refine⟨congrArg (Tr.int _) ?_⟩
  have h2:=of_decide_eq_true h
  rw[IntWalk.i64_in _ (by omega)]at h2
  rw[if_pos h2]
 have h2:=of_decide_eq_false h
 rw[IntWalk.i64_in _ (by omega)]at h2 ⊢
 rw[if_neg h2]
 conv=>whnf
 refine⟨{q:Nat×Int // q.1≤ns.length∧0≤q.2∧q.2≤1048576∧szRs ((ns.drop q.1).map strRow) q.2=szRs (ns.map strRow) (left - (ns.map strRow).length)},fun q=>⟨[(0,.r (.c (.t (.lst 1 (ns.map strRow))))),(1,tI .i64 q.1.2),(5,tI .i64 (q.1.1:Int))],[],[]⟩,fun q=>ns.length - q.1.1,⟨(0,left - (ns.map strRow).length),by simp,by dsimp only;omega,by dsimp only;omega,by simp⟩,?_,?_⟩
 ·skip
  repeat' ((conv=>whnf);first|refine Or.inl ?_|apply oi|(apply fi<;>intro h)|refine⟨_,rfl,?_⟩|((with_reducible show _=_);rfl))
  all_goals try((with_reducible refine Obl.mk ?_);exact KO)
 intro⟨⟨k,lk⟩,hk,h0,h1,hsz⟩
 dsimp only at hk h0 h1 hsz ⊢
 repeat' ((conv=>whnf);first|refine Or.inl ?_|apply oi|(apply fi<;>intro h)|refine⟨_,rfl,?_⟩|((with_reducible show _=_);rfl))
 all_goals try((with_reducible refine Obl.mk ?_);exact KO)
 ·have hlt:k < ns.length:=by have:=of_decide_eq_true h;omega
  obtain⟨x,hx⟩:=get_of_lt hlt
  have hxl:x.length≤9223372036854775807:=by simpa [maxLen]using hw.2 x (List.mem_of_getElem? hx)
  rw[drop_at hx,List.map_cons,szRs,strRow,szR,szT]at hsz
  conv=>whnf
  refine⟨k,strRow x,rfl,map_get hx,?_⟩
  repeat' ((conv=>whnf);first|refine Or.inl ?_|apply oi|(apply fi<;>intro h)|refine⟨_,rfl,?_⟩|((with_reducible show _=_);rfl))
  all_goals try((with_reducible refine Obl.mk ?_);exact KO)
  ·refine⟨congrArg (Tr.int _) ?_⟩
   have h3:=of_decide_eq_true h
   rw[IntWalk.i64_in _ (by omega)]at h3
   rw[←hsz,if_pos h3]
   simp
  have h3:=of_decide_eq_false h
  rw[IntWalk.i64_in _ (by omega)]at h3
  rw[if_neg h3,if_neg h3,szR,if_neg h3]at hsz
  conv=>whnf
  refine⟨⟨(k+1,lk - x.length),by dsimp only;omega,by dsimp only;omega,by dsimp only;omega,hsz⟩,?_,by dsimp only;omega⟩
  repeat' ((conv=>whnf);first|refine Or.inl ?_|apply oi|(apply fi<;>intro h)|refine⟨_,rfl,?_⟩|((with_reducible show _=_);rfl))
  all_goals try((with_reducible refine Obl.mk ?_);exact KO)
  ·exact⟨by dsimp only;rw[IntWalk.i64_in _ (by omega)]⟩
  ·exact⟨by dsimp only;rw[IntWalk.i64_in _ (by omega)];rfl⟩
 ·have hge:ns.length≤k:=by have:=of_decide_eq_false h;omega
  rw[List.drop_eq_nil_of_le hge,List.map_nil,szRs]at hsz
  exact⟨congrArg (Tr.int _) hsz⟩
theorem ty_Tok {row:List Tr}(h:typed Γ 8 186 row):∃x:TTok,row=x.tr∧x.wf:=by
 obtain⟨_,_,rfl,⟨x0,rfl,w0⟩,_,_,rfl,⟨x1,rfl,w1⟩,_,_,rfl,⟨x2,rfl,w2⟩,rfl⟩:=h
 exact⟨⟨x0,x1,x2⟩,rfl,⟨inI_of w0,inI_of w1,w2⟩⟩
theorem ty_Line {row:List Tr}(h:typed Γ 8 82 row):∃x:TLine,row=x.tr∧x.wf:=by
 obtain⟨_,_,rfl,⟨x0,rfl,w0⟩,_,_,rfl,⟨x1,rfl,w1⟩,_,_,rfl,⟨r2,rfl,w2,e2⟩,_,_,rfl,⟨r3,rfl,w3,e3⟩,rfl⟩:=h
 obtain⟨x2,rfl,v2⟩:=rows_map (g:=strRow) (Q:=(fun y=>y.length≤maxLen)) (rows:=r2) (fun r hr=>ty_str (e2 r hr))
 obtain⟨x3,rfl,v3⟩:=rows_map (g:=TTok.tr) (Q:=(fun y=>y.wf)) (rows:=r3) (fun r hr=>ty_Tok (typed_le (by decide) (e3 r hr)))
 exact⟨⟨x0,x1,x2,x3⟩,rfl,⟨inI_of w0,w1,⟨by simpa using w2,v2⟩,⟨by simpa using w3,v3⟩⟩⟩
theorem ty_Build {row:List Tr}(h:typed Γ 8 24 row):∃x:TBuild,row=x.tr∧x.wf:=by
 obtain⟨_,_,rfl,⟨x0,rfl,w0⟩,_,_,rfl,⟨x1,rfl,w1⟩,_,_,rfl,⟨x2,rfl⟩,_,_,rfl,⟨x3,rfl⟩,rfl⟩:=h
 exact⟨⟨x0,x1,x2,x3⟩,rfl,⟨inI_of w0,inI_of w1⟩⟩
theorem s_laws_toTok (x:TTok)(hs:smallR 1048576 x.tr):Sim.Spec Tryz.prog 151 [.agg x.tr] (.r (.agg (x.tr.map resC))):=by
 simp only[TTok.tr,smallR]at hs
 refine spec_of_W hΓ hmix Tryz.func151 rfl (by decide) rfl ?_
 repeat' ((conv=>whnf);first|refine Or.inl ?_|apply oi|(apply fi<;>intro h)|refine⟨_,rfl,?_⟩|((with_reducible show _=_);rfl))
 all_goals try((with_reducible refine Obl.mk ?_);exact KO)
theorem s_laws_eqTok (x:TTok)(hs:smallR 1048576 x.tr):Sim.Spec Tryz.prog 167 [.agg x.tr,.agg x.tr] (rB true):=by
 simp only[TTok.tr,smallR]at hs
 refine spec_of_W hΓ hmix Tryz.func167 rfl (by decide) rfl ?_
 repeat' ((conv=>whnf);first|refine Or.inl ?_|apply oi|(apply fi<;>intro h)|refine⟨_,rfl,?_⟩|((with_reducible show _=_);rfl))
 all_goals try((with_reducible refine Obl.mk ?_);exact KO)
 all_goals simp at *
theorem s_laws_szTok (x:TTok)(hw:x.wf)(left:Int)(hle0:0≤left)(hle1:left≤1048576):Sim.Spec Tryz.prog 137 [.agg x.tr,tvI left] (rI (szR x.tr left)):=by
 simp only[TTok.wf,maxLen]at hw
 obtain⟨Z,hz0⟩:∃Z,Z=szR x.tr left:=⟨_,rfl⟩
 have hz:=hz0
 rw[TTok.tr]at hz
 refine spec_of_W hΓ hmix Tryz.func137 rfl (by decide) rfl ?_
 rw[szR_int (by omega)]at hz
 rw[szR_int (by omega)]at hz
 repeat' ((conv=>whnf);first|refine Or.inl ?_|apply oi|(apply fi<;>intro h)|refine⟨_,rfl,?_⟩|((with_reducible show _=_);rfl))
 all_goals try((with_reducible refine Obl.mk ?_);exact KO)
 ·have h2:=of_decide_eq_true h
  rw[IntWalk.i64_in _ (by omega)]at h2
  exact⟨congrArg (Tr.int _) (hz0.symm.trans (hz.trans (szR_str_neg h2))).symm⟩
 have g1:=of_decide_eq_false h
 rw[IntWalk.i64_in _ (by omega)]at g1
 clear h
 rw[IntWalk.i64_in (left - x.fName.length) (by omega)]
 rw[szR_str g1]at hz
 all_goals exact⟨congrArg (Tr.int _) ((hz0.symm.trans (hz.trans (szR_nil _))).symm)⟩
theorem s_laws_toTokS (xs:List (TTok))(hs:smallT 1048576 (.lst 3 (xs.map TTok.tr))):Sim.Spec Tryz.prog 97 [tvL 3 (xs.map TTok.tr)] (rL 3 (xs.map TTok.tr)):=by
 have hl:=small_len hs
 have hlen:(xs.map TTok.tr).length=xs.length:=by simp
 refine spec_of_W hΓ hmix Tryz.func97 rfl (by decide) rfl ?_
 repeat' ((conv=>whnf);first|refine Or.inl ?_|apply oi|(apply fi<;>intro h)|refine⟨_,rfl,?_⟩|((with_reducible show _=_);rfl))
 all_goals try((with_reducible refine Obl.mk ?_);exact KO)
 ·exact⟨by omega⟩
 ·exact⟨by dsimp only;omega⟩
 repeat' ((conv=>whnf);first|refine Or.inl ?_|apply oi|(apply fi<;>intro h)|refine⟨_,rfl,?_⟩|((with_reducible show _=_);rfl))
 all_goals try((with_reducible refine Obl.mk ?_);exact KO)
 conv=>whnf
 refine⟨{k:Nat // k≤xs.length},fun k=>⟨[(0,.r (.c (.t (.lst 3 (xs.map TTok.tr))))),(3,.r (.c (.own (3,0,0)))),(4,tI .i64 (k.1:Int))],[((3,0,0),some (.arr true 3 (filled (xs.map TTok.tr) [.int .i64 0,.int .i64 0,.str []] k.1)))],[3]⟩,fun k=>xs.length - k.1,⟨0,by omega⟩,?_,?_⟩
 ·skip
  repeat' ((conv=>whnf);first|refine Or.inl ?_|apply oi|(apply fi<;>intro h)|refine⟨_,rfl,?_⟩|((with_reducible show _=_);rfl))
  all_goals try((with_reducible refine Obl.mk ?_);exact KO)
  all_goals exact⟨by first|(rw[←filled_zero,hlen];done)|(rw[←filled_zero,hlen,deepRows,List.map_replicate];done)|(rw[←filled_zero,hlen,deepRows,List.map_replicate];rfl)⟩
 intro⟨k,hk⟩
 dsimp only
 repeat' ((conv=>whnf);first|refine Or.inl ?_|apply oi|(apply fi<;>intro h)|refine⟨_,rfl,?_⟩|((with_reducible show _=_);rfl))
 all_goals try((with_reducible refine Obl.mk ?_);exact KO)
 ·have hlt:k < xs.length:=by have:=of_decide_eq_true h;omega
  obtain⟨x,hx⟩:=get_of_lt hlt
  have hsr:=smallRs_map hs (List.mem_of_getElem? hx)
  conv=>whnf
  refine⟨k,_,rfl,map_get hx,?_⟩
  repeat' ((conv=>whnf);first|refine Or.inl ?_|apply oi|(apply fi<;>intro h)|refine ci ((s_laws_toTok x hsr)) (ai (ai rfl (ai rfl (ai rfl trivial))) trivial) ?_|refine⟨_,rfl,?_⟩|((with_reducible show _=_);rfl))
  all_goals try((with_reducible refine Obl.mk ?_);exact KO)
  ·exact⟨by rw[filled_len (by omega)];omega⟩
  conv=>whnf
  refine⟨_,filled_get (by omega),?_⟩
  repeat' ((conv=>whnf);first|refine Or.inl ?_|apply oi|(apply fi<;>intro h)|refine⟨_,rfl,?_⟩|((with_reducible show _=_);rfl))
  all_goals try((with_reducible refine Obl.mk ?_);exact KO)
  conv=>whnf
  refine⟨⟨k+1,by omega⟩,?_,by dsimp only;omega⟩
  repeat' ((conv=>whnf);first|refine Or.inl ?_|apply oi|(apply fi<;>intro h)|refine⟨_,rfl,?_⟩|((with_reducible show _=_);rfl))
  all_goals try((with_reducible refine Obl.mk ?_);exact KO)
  ·exact⟨by dsimp only;rw[IntWalk.i64_in _ (by omega)];rfl⟩
  ·exact⟨filled_set (map_get hx)⟩
 ·have hge:xs.length≤k:=by have:=of_decide_eq_false h;omega
  exact⟨filled_all (by omega)⟩
theorem s_laws_eqTokS (xs:List (TTok))(hs:smallT 1048576 (.lst 3 (xs.map TTok.tr))):Sim.Spec Tryz.prog 111 [tvL 3 (xs.map TTok.tr),tvL 3 (xs.map TTok.tr)] (rB true):=by
 have hl:=small_len hs
 have hlen:(xs.map TTok.tr).length=xs.length:=by simp
 refine spec_of_W hΓ hmix Tryz.func111 rfl (by decide) rfl ?_
 repeat' ((conv=>whnf);first|refine Or.inl ?_|apply oi|(apply fi<;>intro h)|refine⟨_,rfl,?_⟩|((with_reducible show _=_);rfl))
 all_goals try((with_reducible refine Obl.mk ?_);exact KO)
 ·simp at h
 conv=>whnf
 refine⟨{k:Nat // k≤xs.length},fun k=>⟨[(0,.r (.c (.t (.lst 3 (xs.map TTok.tr))))),(1,.r (.c (.t (.lst 3 (xs.map TTok.tr))))),(5,tI .i64 (k.1:Int))],[],[]⟩,fun k=>xs.length - k.1,⟨0,by omega⟩,?_,?_⟩
 ·skip
  repeat' ((conv=>whnf);first|refine Or.inl ?_|apply oi|(apply fi<;>intro h)|refine⟨_,rfl,?_⟩|((with_reducible show _=_);rfl))
  all_goals try((with_reducible refine Obl.mk ?_);exact KO)
 intro⟨k,hk⟩
 dsimp only
 repeat' ((conv=>whnf);first|refine Or.inl ?_|apply oi|(apply fi<;>intro h)|refine⟨_,rfl,?_⟩|((with_reducible show _=_);rfl))
 all_goals try((with_reducible refine Obl.mk ?_);exact KO)
 ·have hlt:k < xs.length:=by have:=of_decide_eq_true h;omega
  obtain⟨x,hx⟩:=get_of_lt hlt
  have hsr:=smallRs_map hs (List.mem_of_getElem? hx)
  conv=>whnf
  refine⟨k,_,rfl,map_get hx,?_⟩
  repeat' ((conv=>whnf);first|refine Or.inl ?_|apply oi|(apply fi<;>intro h)|refine ci ((s_laws_eqTok x hsr)) (ai (ai rfl (ai rfl (ai rfl trivial))) (ai (ai rfl (ai rfl (ai rfl trivial))) trivial)) ?_|refine⟨_,rfl,?_⟩|((with_reducible show _=_);rfl))
  all_goals try((with_reducible refine Obl.mk ?_);exact KO)
  conv=>whnf
  refine⟨k,_,rfl,map_get hx,?_⟩
  repeat' ((conv=>whnf);first|refine Or.inl ?_|apply oi|(apply fi<;>intro h)|refine ci ((s_laws_eqTok x hsr)) (ai (ai rfl (ai rfl (ai rfl trivial))) (ai (ai rfl (ai rfl (ai rfl trivial))) trivial)) ?_|refine⟨_,rfl,?_⟩|((with_reducible show _=_);rfl))
  all_goals try((with_reducible refine Obl.mk ?_);exact KO)
  all_goals try(exfalso;simp at h;done)
  conv=>whnf
  refine⟨⟨k+1,by omega⟩,?_,by dsimp only;omega⟩
  repeat' ((conv=>whnf);first|refine Or.inl ?_|apply oi|(apply fi<;>intro h)|refine⟨_,rfl,?_⟩|((with_reducible show _=_);rfl))
  all_goals try((with_reducible refine Obl.mk ?_);exact KO)
  exact⟨by dsimp only;rw[IntWalk.i64_in _ (by omega)];rfl⟩
theorem s_laws_szTokS (xs:List (TTok))(hw:xs.length≤maxLen∧∀y∈xs,y.wf)(left:Int)(hle0:0≤left)(hle1:left≤1048576):Sim.Spec Tryz.prog 86 [tvL 3 (xs.map TTok.tr),tvI left] (rI (szT (.lst 3 (xs.map TTok.tr)) left)):=by
 have hl2:(xs.map TTok.tr).length≤9223372036854775807:=by simpa [maxLen]using hw.1
 have hlen:(xs.map TTok.tr).length=xs.length:=by simp
 rw[szT]
 refine spec_of_W hΓ hmix Tryz.func86 rfl (by decide) rfl ?_
 repeat' ((conv=>whnf);first|refine Or.inl ?_|apply oi|(apply fi<;>intro h)|refine⟨_,rfl,?_⟩|((with_reducible show _=_);rfl))
 all_goals try((with_reducible refine Obl.mk ?_);exact KO)
 ·refine⟨congrArg (Tr.int _) ?_⟩
  have h2:=of_decide_eq_true h
  rw[IntWalk.i64_in _ (by omega)]at h2
  rw[if_pos h2]
 have h2:=of_decide_eq_false h
 rw[IntWalk.i64_in _ (by omega)]at h2 ⊢
 rw[if_neg h2]
 conv=>whnf
 refine⟨{q:Nat×Int // q.1≤xs.length∧0≤q.2∧q.2≤1048576∧szRs ((xs.drop q.1).map TTok.tr) q.2=szRs (xs.map TTok.tr) (left - (xs.map TTok.tr).length)},fun q=>⟨[(0,.r (.c (.t (.lst 3 (xs.map TTok.tr))))),(1,tI .i64 q.1.2),(5,tI .i64 (q.1.1:Int))],[],[]⟩,fun q=>xs.length - q.1.1,⟨(0,left - (xs.map TTok.tr).length),by simp,by dsimp only;omega,by dsimp only;omega,by simp⟩,?_,?_⟩
 ·skip
  repeat' ((conv=>whnf);first|refine Or.inl ?_|apply oi|(apply fi<;>intro h)|refine⟨_,rfl,?_⟩|((with_reducible show _=_);rfl))
  all_goals try((with_reducible refine Obl.mk ?_);exact KO)
 intro⟨⟨k,lk⟩,hk,h0,h1,hsz⟩
 dsimp only at hk h0 h1 hsz ⊢
 repeat' ((conv=>whnf);first|refine Or.inl ?_|apply oi|(apply fi<;>intro h)|refine⟨_,rfl,?_⟩|((with_reducible show _=_);rfl))
 all_goals try((with_reducible refine Obl.mk ?_);exact KO)
 ·have hlt:k < xs.length:=by have:=of_decide_eq_true h;omega
  obtain⟨x,hx⟩:=get_of_lt hlt
  have hxw:=hw.2 x (List.mem_of_getElem? hx)
  rw[drop_at hx,List.map_cons,szRs]at hsz
  conv=>whnf
  refine⟨k,_,rfl,map_get hx,?_⟩
  repeat' ((conv=>whnf);first|refine Or.inl ?_|apply oi|(apply fi<;>intro h)|refine ci ((s_laws_szTok x hxw lk h0 h1)) (ai (ai rfl (ai rfl (ai rfl trivial))) (ai rfl trivial)) ?_|refine⟨_,rfl,?_⟩|((with_reducible show _=_);rfl))
  all_goals try((with_reducible refine Obl.mk ?_);exact KO)
  ·refine⟨congrArg (Tr.int _) ?_⟩
   rw[←hsz,if_pos (of_decide_eq_true h)]
  have h3:=of_decide_eq_false h
  rw[if_neg h3]at hsz
  have hsm:=szR_small (L:=1048576) _ _ (Int.not_lt.1 h3) h1
  conv=>whnf
  refine⟨⟨(k+1,_),by dsimp only;omega,by dsimp only;exact Int.not_lt.1 h3,by dsimp only;exact Int.le_trans hsm.2 h1,hsz⟩,?_,by dsimp only;omega⟩
  repeat' ((conv=>whnf);first|refine Or.inl ?_|apply oi|(apply fi<;>intro h)|refine⟨_,rfl,?_⟩|((with_reducible show _=_);rfl))
  all_goals try((with_reducible refine Obl.mk ?_);exact KO)
  exact⟨by dsimp only;rw[IntWalk.i64_in _ (by omega)];rfl⟩
 ·have hge:xs.length≤k:=by have:=of_decide_eq_false h;omega
  rw[List.drop_eq_nil_of_le hge,List.map_nil,szRs]at hsz
  exact⟨congrArg (Tr.int _) hsz⟩
theorem s_laws_toLine (x:TLine)(hs:smallR 1048576 x.tr):Sim.Spec Tryz.prog 47 [.agg x.tr] (.r (.agg (x.tr.map resC))):=by
 simp only[TLine.tr,smallR]at hs
 refine spec_of_W hΓ hmix Tryz.func47 rfl (by decide) rfl ?_
 repeat' ((conv=>whnf);first|refine Or.inl ?_|apply oi|(apply fi<;>intro h)|refine ci ((s_laws_toStringS x.fArgs hs.2.2.1)) (ai rfl trivial) ?_|refine ci ((s_laws_toTokS x.fExpr hs.2.2.2.1)) (ai rfl trivial) ?_|refine⟨_,rfl,?_⟩|((with_reducible show _=_);rfl))
 all_goals try((with_reducible refine Obl.mk ?_);exact KO)
theorem s_laws_eqLine (x:TLine)(hs:smallR 1048576 x.tr):Sim.Spec Tryz.prog 55 [.agg x.tr,.agg x.tr] (rB true):=by
 simp only[TLine.tr,smallR]at hs
 refine spec_of_W hΓ hmix Tryz.func55 rfl (by decide) rfl ?_
 repeat' ((conv=>whnf);first|refine Or.inl ?_|apply oi|(apply fi<;>intro h)|refine ci ((s_laws_eqStringS x.fArgs hs.2.2.1)) (ai rfl (ai rfl trivial)) ?_|refine ci ((s_laws_eqTokS x.fExpr hs.2.2.2.1)) (ai rfl (ai rfl trivial)) ?_|refine⟨_,rfl,?_⟩|((with_reducible show _=_);rfl))
 all_goals try((with_reducible refine Obl.mk ?_);exact KO)
 all_goals simp at *
theorem s_laws_szLine (x:TLine)(hw:x.wf)(left:Int)(hle0:0≤left)(hle1:left≤1048576):Sim.Spec Tryz.prog 41 [.agg x.tr,tvI left] (rI (szR x.tr left)):=by
 simp only[TLine.wf,maxLen]at hw
 obtain⟨Z,hz0⟩:∃Z,Z=szR x.tr left:=⟨_,rfl⟩
 have hz:=hz0
 rw[TLine.tr]at hz
 refine spec_of_W hΓ hmix Tryz.func41 rfl (by decide) rfl ?_
 rw[szR_int (by omega)]at hz
 repeat' ((conv=>whnf);first|refine Or.inl ?_|apply oi|(apply fi<;>intro h)|refine⟨_,rfl,?_⟩|((with_reducible show _=_);rfl))
 all_goals try((with_reducible refine Obl.mk ?_);exact KO)
 ·have h2:=of_decide_eq_true h
  rw[IntWalk.i64_in _ (by omega)]at h2
  exact⟨congrArg (Tr.int _) (hz0.symm.trans (hz.trans (szR_str_neg h2))).symm⟩
 have g1:=of_decide_eq_false h
 rw[IntWalk.i64_in _ (by omega)]at g1
 clear h
 rw[IntWalk.i64_in (left - x.fName.length) (by omega)]
 rw[szR_str g1]at hz
 repeat' ((conv=>whnf);first|refine Or.inl ?_|apply oi|(apply fi<;>intro h)|refine⟨_,rfl,?_⟩|((with_reducible show _=_);rfl))
 all_goals try((with_reducible refine Obl.mk ?_);exact KO)
 repeat' ((conv=>whnf);first|refine Or.inl ?_|apply oi|(apply fi<;>intro h)|refine ci ((s_laws_szStringS x.fArgs (by simpa [maxLen]using hw.2.2.1) (left - x.fName.length) (by omega) (by omega))) (ai rfl (ai rfl trivial)) ?_|refine⟨_,rfl,?_⟩|((with_reducible show _=_);rfl))
 all_goals try((with_reducible refine Obl.mk ?_);exact KO)
 ·exact⟨congrArg (Tr.int _) (hz0.symm.trans (hz.trans (szR_neg (of_decide_eq_true h)))).symm⟩
 have g2:=of_decide_eq_false h
 clear h
 rw[szR_pos g2]at hz
 have b2:=(szT_small (L:=1048576) _ _ (Int.not_lt.1 g2) (by omega)).2
 repeat' ((conv=>whnf);first|refine Or.inl ?_|apply oi|(apply fi<;>intro h)|refine⟨_,rfl,?_⟩|((with_reducible show _=_);rfl))
 all_goals try((with_reducible refine Obl.mk ?_);exact KO)
 repeat' ((conv=>whnf);first|refine Or.inl ?_|apply oi|(apply fi<;>intro h)|refine ci ((s_laws_szTokS x.fExpr (by simpa [maxLen]using hw.2.2.2) (szT (.lst 1 (x.fArgs.map strRow)) (left - x.fName.length)) (by omega) (by omega))) (ai rfl (ai rfl trivial)) ?_|refine⟨_,rfl,?_⟩|((with_reducible show _=_);rfl))
 all_goals try((with_reducible refine Obl.mk ?_);exact KO)
 ·exact⟨congrArg (Tr.int _) (hz0.symm.trans (hz.trans (szR_neg (of_decide_eq_true h)))).symm⟩
 have g3:=of_decide_eq_false h
 clear h
 rw[szR_pos g3]at hz
 have b3:=(szT_small (L:=1048576) _ _ (Int.not_lt.1 g3) (by omega)).2
 all_goals exact⟨congrArg (Tr.int _) ((hz0.symm.trans (hz.trans (szR_nil _))).symm)⟩
theorem s_laws_eqLineS (xs:List (TLine))(hs:smallT 1048576 (.lst 4 (xs.map TLine.tr))):Sim.Spec Tryz.prog 14 [tvL 4 (xs.map TLine.tr),tvL 4 (xs.map TLine.tr)] (rB true):=by
 have hl:=small_len hs
 have hlen:(xs.map TLine.tr).length=xs.length:=by simp
 refine spec_of_W hΓ hmix Tryz.func14 rfl (by decide) rfl ?_
 repeat' ((conv=>whnf);first|refine Or.inl ?_|apply oi|(apply fi<;>intro h)|refine⟨_,rfl,?_⟩|((with_reducible show _=_);rfl))
 all_goals try((with_reducible refine Obl.mk ?_);exact KO)
 ·simp at h
 conv=>whnf
 refine⟨{k:Nat // k≤xs.length},fun k=>⟨[(0,.r (.c (.t (.lst 4 (xs.map TLine.tr))))),(1,.r (.c (.t (.lst 4 (xs.map TLine.tr))))),(5,tI .i64 (k.1:Int))],[],[]⟩,fun k=>xs.length - k.1,⟨0,by omega⟩,?_,?_⟩
 ·skip
  repeat' ((conv=>whnf);first|refine Or.inl ?_|apply oi|(apply fi<;>intro h)|refine⟨_,rfl,?_⟩|((with_reducible show _=_);rfl))
  all_goals try((with_reducible refine Obl.mk ?_);exact KO)
 intro⟨k,hk⟩
 dsimp only
 repeat' ((conv=>whnf);first|refine Or.inl ?_|apply oi|(apply fi<;>intro h)|refine⟨_,rfl,?_⟩|((with_reducible show _=_);rfl))
 all_goals try((with_reducible refine Obl.mk ?_);exact KO)
 ·have hlt:k < xs.length:=by have:=of_decide_eq_true h;omega
  obtain⟨x,hx⟩:=get_of_lt hlt
  have hsr:=smallRs_map hs (List.mem_of_getElem? hx)
  conv=>whnf
  refine⟨k,_,rfl,map_get hx,?_⟩
  repeat' ((conv=>whnf);first|refine Or.inl ?_|apply oi|(apply fi<;>intro h)|refine ci ((s_laws_eqLine x hsr)) (ai (ai rfl (ai rfl (ai rfl (ai rfl trivial)))) (ai (ai rfl (ai rfl (ai rfl (ai rfl trivial)))) trivial)) ?_|refine⟨_,rfl,?_⟩|((with_reducible show _=_);rfl))
  all_goals try((with_reducible refine Obl.mk ?_);exact KO)
  conv=>whnf
  refine⟨k,_,rfl,map_get hx,?_⟩
  repeat' ((conv=>whnf);first|refine Or.inl ?_|apply oi|(apply fi<;>intro h)|refine ci ((s_laws_eqLine x hsr)) (ai (ai rfl (ai rfl (ai rfl (ai rfl trivial)))) (ai (ai rfl (ai rfl (ai rfl (ai rfl trivial)))) trivial)) ?_|refine⟨_,rfl,?_⟩|((with_reducible show _=_);rfl))
  all_goals try((with_reducible refine Obl.mk ?_);exact KO)
  all_goals try(exfalso;simp at h;done)
  conv=>whnf
  refine⟨⟨k+1,by omega⟩,?_,by dsimp only;omega⟩
  repeat' ((conv=>whnf);first|refine Or.inl ?_|apply oi|(apply fi<;>intro h)|refine⟨_,rfl,?_⟩|((with_reducible show _=_);rfl))
  all_goals try((with_reducible refine Obl.mk ?_);exact KO)
  exact⟨by dsimp only;rw[IntWalk.i64_in _ (by omega)];rfl⟩
theorem s_laws_szLineS (xs:List (TLine))(hw:xs.length≤maxLen∧∀y∈xs,y.wf)(left:Int)(hle0:0≤left)(hle1:left≤1048576):Sim.Spec Tryz.prog 8 [tvL 4 (xs.map TLine.tr),tvI left] (rI (szT (.lst 4 (xs.map TLine.tr)) left)):=by
 have hl2:(xs.map TLine.tr).length≤9223372036854775807:=by simpa [maxLen]using hw.1
 have hlen:(xs.map TLine.tr).length=xs.length:=by simp
 rw[szT]
 refine spec_of_W hΓ hmix Tryz.func8 rfl (by decide) rfl ?_
 repeat' ((conv=>whnf);first|refine Or.inl ?_|apply oi|(apply fi<;>intro h)|refine⟨_,rfl,?_⟩|((with_reducible show _=_);rfl))
 all_goals try((with_reducible refine Obl.mk ?_);exact KO)
 ·refine⟨congrArg (Tr.int _) ?_⟩
  have h2:=of_decide_eq_true h
  rw[IntWalk.i64_in _ (by omega)]at h2
  rw[if_pos h2]
 have h2:=of_decide_eq_false h
 rw[IntWalk.i64_in _ (by omega)]at h2 ⊢
 rw[if_neg h2]
 conv=>whnf
 refine⟨{q:Nat×Int // q.1≤xs.length∧0≤q.2∧q.2≤1048576∧szRs ((xs.drop q.1).map TLine.tr) q.2=szRs (xs.map TLine.tr) (left - (xs.map TLine.tr).length)},fun q=>⟨[(0,.r (.c (.t (.lst 4 (xs.map TLine.tr))))),(1,tI .i64 q.1.2),(5,tI .i64 (q.1.1:Int))],[],[]⟩,fun q=>xs.length - q.1.1,⟨(0,left - (xs.map TLine.tr).length),by simp,by dsimp only;omega,by dsimp only;omega,by simp⟩,?_,?_⟩
 ·skip
  repeat' ((conv=>whnf);first|refine Or.inl ?_|apply oi|(apply fi<;>intro h)|refine⟨_,rfl,?_⟩|((with_reducible show _=_);rfl))
  all_goals try((with_reducible refine Obl.mk ?_);exact KO)
 intro⟨⟨k,lk⟩,hk,h0,h1,hsz⟩
 dsimp only at hk h0 h1 hsz ⊢
 repeat' ((conv=>whnf);first|refine Or.inl ?_|apply oi|(apply fi<;>intro h)|refine⟨_,rfl,?_⟩|((with_reducible show _=_);rfl))
 all_goals try((with_reducible refine Obl.mk ?_);exact KO)
 ·have hlt:k < xs.length:=by have:=of_decide_eq_true h;omega
  obtain⟨x,hx⟩:=get_of_lt hlt
  have hxw:=hw.2 x (List.mem_of_getElem? hx)
  rw[drop_at hx,List.map_cons,szRs]at hsz
  conv=>whnf
  refine⟨k,_,rfl,map_get hx,?_⟩
  repeat' ((conv=>whnf);first|refine Or.inl ?_|apply oi|(apply fi<;>intro h)|refine ci ((s_laws_szLine x hxw lk h0 h1)) (ai (ai rfl (ai rfl (ai rfl (ai rfl trivial)))) (ai rfl trivial)) ?_|refine⟨_,rfl,?_⟩|((with_reducible show _=_);rfl))
  all_goals try((with_reducible refine Obl.mk ?_);exact KO)
  ·refine⟨congrArg (Tr.int _) ?_⟩
   rw[←hsz,if_pos (of_decide_eq_true h)]
  have h3:=of_decide_eq_false h
  rw[if_neg h3]at hsz
  have hsm:=szR_small (L:=1048576) _ _ (Int.not_lt.1 h3) h1
  conv=>whnf
  refine⟨⟨(k+1,_),by dsimp only;omega,by dsimp only;exact Int.not_lt.1 h3,by dsimp only;exact Int.le_trans hsm.2 h1,hsz⟩,?_,by dsimp only;omega⟩
  repeat' ((conv=>whnf);first|refine Or.inl ?_|apply oi|(apply fi<;>intro h)|refine⟨_,rfl,?_⟩|((with_reducible show _=_);rfl))
  all_goals try((with_reducible refine Obl.mk ?_);exact KO)
  exact⟨by dsimp only;rw[IntWalk.i64_in _ (by omega)];rfl⟩
 ·have hge:xs.length≤k:=by have:=of_decide_eq_false h;omega
  rw[List.drop_eq_nil_of_le hge,List.map_nil,szRs]at hsz
  exact⟨congrArg (Tr.int _) hsz⟩
theorem s_laws_toBuild (x:TBuild)(hs:smallR 1048576 x.tr):Sim.Spec Tryz.prog 11 [.agg x.tr] (.r (.agg (x.tr.map resC))):=by
 simp only[TBuild.tr,smallR]at hs
 refine spec_of_W hΓ hmix Tryz.func11 rfl (by decide) rfl ?_
 repeat' ((conv=>whnf);first|refine Or.inl ?_|apply oi|(apply fi<;>intro h)|refine⟨_,rfl,?_⟩|((with_reducible show _=_);rfl))
 all_goals try((with_reducible refine Obl.mk ?_);exact KO)
theorem s_laws_eqSymbol (x:TSymbol)(hs:smallR 1048576 x.tr):Sim.Spec Tryz.prog 119 [.agg x.tr,.agg x.tr] (rB true):=by
 simp only[TSymbol.tr,smallR]at hs
 refine spec_of_W hΓ hmix Tryz.func119 rfl (by decide) rfl ?_
 repeat' ((conv=>whnf);first|refine Or.inl ?_|apply oi|(apply fi<;>intro h)|refine⟨_,rfl,?_⟩|((with_reducible show _=_);rfl))
 all_goals try((with_reducible refine Obl.mk ?_);exact KO)
 all_goals simp at *
theorem s_laws_eqSymbolS (xs:List (TSymbol))(hs:smallT 1048576 (.lst 3 (xs.map TSymbol.tr))):Sim.Spec Tryz.prog 68 [tvL 3 (xs.map TSymbol.tr),tvL 3 (xs.map TSymbol.tr)] (rB true):=by
 have hl:=small_len hs
 have hlen:(xs.map TSymbol.tr).length=xs.length:=by simp
 refine spec_of_W hΓ hmix Tryz.func68 rfl (by decide) rfl ?_
 repeat' ((conv=>whnf);first|refine Or.inl ?_|apply oi|(apply fi<;>intro h)|refine⟨_,rfl,?_⟩|((with_reducible show _=_);rfl))
 all_goals try((with_reducible refine Obl.mk ?_);exact KO)
 ·simp at h
 conv=>whnf
 refine⟨{k:Nat // k≤xs.length},fun k=>⟨[(0,.r (.c (.t (.lst 3 (xs.map TSymbol.tr))))),(1,.r (.c (.t (.lst 3 (xs.map TSymbol.tr))))),(5,tI .i64 (k.1:Int))],[],[]⟩,fun k=>xs.length - k.1,⟨0,by omega⟩,?_,?_⟩
 ·skip
  repeat' ((conv=>whnf);first|refine Or.inl ?_|apply oi|(apply fi<;>intro h)|refine⟨_,rfl,?_⟩|((with_reducible show _=_);rfl))
  all_goals try((with_reducible refine Obl.mk ?_);exact KO)
 intro⟨k,hk⟩
 dsimp only
 repeat' ((conv=>whnf);first|refine Or.inl ?_|apply oi|(apply fi<;>intro h)|refine⟨_,rfl,?_⟩|((with_reducible show _=_);rfl))
 all_goals try((with_reducible refine Obl.mk ?_);exact KO)
 ·have hlt:k < xs.length:=by have:=of_decide_eq_true h;omega
  obtain⟨x,hx⟩:=get_of_lt hlt
  have hsr:=smallRs_map hs (List.mem_of_getElem? hx)
  conv=>whnf
  refine⟨k,_,rfl,map_get hx,?_⟩
  repeat' ((conv=>whnf);first|refine Or.inl ?_|apply oi|(apply fi<;>intro h)|refine ci ((s_laws_eqSymbol x hsr)) (ai (ai rfl (ai rfl (ai rfl trivial))) (ai (ai rfl (ai rfl (ai rfl trivial))) trivial)) ?_|refine⟨_,rfl,?_⟩|((with_reducible show _=_);rfl))
  all_goals try((with_reducible refine Obl.mk ?_);exact KO)
  conv=>whnf
  refine⟨k,_,rfl,map_get hx,?_⟩
  repeat' ((conv=>whnf);first|refine Or.inl ?_|apply oi|(apply fi<;>intro h)|refine ci ((s_laws_eqSymbol x hsr)) (ai (ai rfl (ai rfl (ai rfl trivial))) (ai (ai rfl (ai rfl (ai rfl trivial))) trivial)) ?_|refine⟨_,rfl,?_⟩|((with_reducible show _=_);rfl))
  all_goals try((with_reducible refine Obl.mk ?_);exact KO)
  all_goals try(exfalso;simp at h;done)
  conv=>whnf
  refine⟨⟨k+1,by omega⟩,?_,by dsimp only;omega⟩
  repeat' ((conv=>whnf);first|refine Or.inl ?_|apply oi|(apply fi<;>intro h)|refine⟨_,rfl,?_⟩|((with_reducible show _=_);rfl))
  all_goals try((with_reducible refine Obl.mk ?_);exact KO)
  exact⟨by dsimp only;rw[IntWalk.i64_in _ (by omega)];rfl⟩
theorem s_laws_eqImage (x:TImage)(hs:smallR 1048576 x.tr):Sim.Spec Tryz.prog 25 [.agg x.tr,.agg x.tr] (rB true):=by
 simp only[TImage.tr,smallR]at hs
 refine spec_of_W hΓ hmix Tryz.func25 rfl (by decide) rfl ?_
 repeat' ((conv=>whnf);first|refine Or.inl ?_|apply oi|(apply fi<;>intro h)|refine ci ((s_laws_eqSymbolS x.fSymbols hs.2.1)) (ai rfl (ai rfl trivial)) ?_|refine⟨_,rfl,?_⟩|((with_reducible show _=_);rfl))
 all_goals try((with_reducible refine Obl.mk ?_);exact KO)
 all_goals simp at *
end Go.Proofs.YtogdbgmiigfmfaaGreat
namespace Go.Proofs.YtogdbgmiigfmfaaGreat
open Go.Sim Go.RowKit
set_option maxRecDepth 100000
set_option maxHeartbeats 4000000
theorem mkR_flat:∀(cs:List Tr) (k:Int),(∀c∈cs,∀sz rs,c≠.lst sz rs)→∀c∈mkR cs k,∀sz rs,c≠.lst sz rs
 | [],_,_,c,hc,_,_=>by rw[mkR]at hc;cases hc
 | d::cs,k,h,c,hc,sz,rs=>by
  rw[mkR]at hc
  rcases List.mem_cons.1 hc with rfl|hc
  ·have:=h d (by simp)
   cases d with
   | lst sz rows=>exact absurd rfl (this sz rows)
   | _=>intro e;simp[mkT]at e
  ·exact mkR_flat cs _ (fun c hc=>h c (by simp[hc])) c hc sz rs
theorem flat_mk:∀(rows:List (List Tr)) (k:Int),flat rows→flat (mkRs rows k)
 | [],_,_=>by rw[mkRs];intro r hr;cases hr
 | r::rows,k,h=>by
  rw[mkRs]
  intro row hr
  rcases List.mem_cons.1 hr with rfl|hr
  ·exact mkR_flat r k (h r (by simp))
  ·exact flat_mk rows _ (fun r hr=>h r (by simp[hr])) row hr
theorem dig_byte (m:Nat):IntKind.u8.wrap (IntKind.i64.wrap (48+(m:Int).tmod 10))=((UInt8.ofNat (48+m % 10)).toNat:Int):=by
 rw[Int.tmod_eq_emod_of_nonneg (by omega),IntWalk.i64_in _ (by omega),IntWalk.u8_in _ (by omega)]
 simp
 omega
theorem dig_div (m:Nat)(h:m≤9223372036854775807):IntKind.i64.wrap ((m:Int).tdiv 10)=((m / 10:Nat):Int):=by
 rw[Int.tdiv_eq_ediv_of_nonneg (by omega),IntWalk.i64_in _ (by omega)]
 omega
theorem s_laws_markText (k:Int)(hk:k≤9223372036854775807):Sim.Spec Tryz.prog 56 [tvI k] (rS (mText k)):=by
 refine spec_of_W hΓ hmix Tryz.func56 rfl (by decide) rfl ?_
 repeat' ((conv=>whnf);first|refine Or.inl ?_|apply oi|(apply fi<;>intro h)|refine⟨_,rfl,?_⟩|((with_reducible show _=_);rfl))
 all_goals try((with_reducible refine Obl.mk ?_);exact KO)
 ·exact⟨by rw[mText,if_pos (of_decide_eq_true h)]⟩
 have h0:¬k≤0:=of_decide_eq_false h
 clear h
 rw[mText,if_neg h0]
 obtain⟨n,rfl⟩:=Int.eq_ofNat_of_zero_le (show 0≤k by omega)
 conv=>whnf
 refine⟨{q:Nat×List UInt8 // digs q.1 q.2=digs n []∧q.1 * 10 ^ q.2.length≤9223372036854775807∧q.2.length≤20},fun q=>⟨[(0,tI .i64 (q.1.1:Nat)),(3,tS q.1.2)],[],[]⟩,fun q=>q.1.1,⟨(n,[]),by simp,by simp;omega,by simp⟩,?_,?_⟩
 ·skip
  repeat' ((conv=>whnf);first|refine Or.inl ?_|apply oi|(apply fi<;>intro h)|refine⟨_,rfl,?_⟩|((with_reducible show _=_);rfl))
  all_goals try((with_reducible refine Obl.mk ?_);exact KO)
 intro⟨⟨m,o⟩,hd,hb,hl⟩
 dsimp only at hd hb hl ⊢
 have hm:m≤9223372036854775807:=Nat.le_trans (Nat.le_mul_of_pos_right m (Nat.pow_pos (by omega))) hb
 repeat' ((conv=>whnf);first|refine Or.inl ?_|apply oi|(apply fi<;>intro h)|refine⟨_,rfl,?_⟩|((with_reducible show _=_);rfl))
 all_goals try((with_reducible refine Obl.mk ?_);exact KO)
 all_goals try exact⟨fun r hr=>by simp at hr;subst hr;rfl⟩
 all_goals try exact⟨K1⟩
 ·have hmp:0 < m:=by have:=of_decide_eq_true h;omega
  have hl18:o.length≤18:=by
   rcases Nat.lt_or_ge 18 o.length with h'|h'
   ·have h1:10 ^ 19≤10 ^ o.length:=Nat.pow_le_pow_right (by omega) h'
    have h2:10 ^ o.length≤m * 10 ^ o.length:=Nat.le_mul_of_pos_left _ hmp
    omega
   ·exact h'
  conv=>whnf
  refine⟨[UInt8.ofNat (48+m % 10)],by rw[dig_byte];rfl,?_⟩
  repeat' ((conv=>whnf);first|refine Or.inl ?_|apply oi|(apply fi<;>intro h)|refine⟨_,rfl,?_⟩|((with_reducible show _=_);rfl))
  all_goals try((with_reducible refine Obl.mk ?_);exact KO)
  all_goals try exact⟨K1⟩
  conv=>whnf
  refine⟨⟨(m / 10,UInt8.ofNat (48+m % 10)::o),by rw[←hd,digs.eq_def m,if_neg (by omega)],?_,by simp;omega⟩,?_,by dsimp only;omega⟩
  ·dsimp only
   rw[List.length_cons,Nat.pow_succ]
   have h1:m / 10 * 10≤m:=Nat.div_mul_le_self m 10
   have h2:=Nat.mul_le_mul_right (10 ^ o.length) h1
   rw[Nat.mul_comm (10 ^ o.length) 10,←Nat.mul_assoc]
   omega
  repeat' ((conv=>whnf);first|refine Or.inl ?_|apply oi|(apply fi<;>intro h)|refine⟨_,rfl,?_⟩|((with_reducible show _=_);rfl))
  all_goals try((with_reducible refine Obl.mk ?_);exact KO)
  exact⟨by dsimp only;rw[dig_div m hm]⟩
 ·have hm0:m=0:=by have:=of_decide_eq_false h;omega
  subst hm0
  rw[digs,if_pos rfl]at hd
  exact⟨by rw[hd];rfl⟩
theorem g_laws_markStringS (xs:List (List UInt8))(k:Int)(hk0:0≤k)(hl:xs.length≤1099511627776)(hk:k+(cnRs (xs.map strRow):Nat)≤4611686018427387904):SpecG Tryz.prog 57 [.r (.c (.own (0,0,0))),tI .i64 k] [((0,0,0),.arr false 1 (xs.map strRow))] (tI .i64 (k+(cnRs (xs.map strRow):Nat))) [((0,0,0),.arr false 1 (mkRs (xs.map strRow) k))]:=by
 refine specG_of_W hΓ hmix Tryz.func57 rfl (by decide) rfl rfl ?_
 repeat' ((conv=>whnf);first|refine Or.inl ?_|apply oi|(apply fi<;>intro h)|refine⟨_,rfl,?_⟩|((with_reducible show _=_);rfl))
 all_goals try((with_reducible refine Obl.mk ?_);exact KO)
 conv=>whnf
 refine⟨{q:List (List UInt8)×List (List UInt8) // q.1++q.2=xs},fun q=>⟨[(0,.r (.c (.own (0,0,0)))),(1,tI .i64 (k+(cnRs (q.1.1.map strRow):Nat))),(5,tI .i64 (q.1.1.length:Nat))],[((0,0,0),some (.arr false 1 (mkRs (q.1.1.map strRow) k++q.1.2.map strRow)))],[0]⟩,fun q=>q.1.2.length,⟨([],xs),rfl⟩,?_,?_⟩
 ·skip
  repeat' ((conv=>whnf);first|refine Or.inl ?_|apply oi|(apply fi<;>intro h)|refine⟨_,rfl,?_⟩|((with_reducible show _=_);rfl))
  all_goals try((with_reducible refine Obl.mk ?_);exact KO)
  all_goals exact⟨by first|rfl|simp[cnRs,mkRs]⟩
 intro⟨⟨a,b⟩,hab⟩
 dsimp only at hab ⊢
 have hal:a.length+b.length≤1099511627776:=by rw[←List.length_append,hab];exact hl
 have hsum:k+(cnRs (a.map strRow):Nat)+(cnRs (b.map strRow):Nat)=k+(cnRs (xs.map strRow):Nat):=by rw[←hab,List.map_append,cnRs_append];omega
 have hall:mkRs (xs.map strRow) k=mkRs (a.map strRow) k++mkRs (b.map strRow) (k+(cnRs (a.map strRow):Nat)):=by rw[←hab,List.map_append,mkRs_append]
 have hDl:(mkRs (a.map strRow) k).length=a.length:=by rw[mkRs_length,List.length_map]
 generalize hR:mkRs (a.map strRow) k++b.map strRow=R
 have hRl:R.length=a.length+b.length:=by rw[←hR];simp[hDl]
 generalize hK:k+(cnRs (a.map strRow):Nat)=K at hsum hall ⊢
 generalize hD:mkRs (a.map strRow) k=D at hR hall hDl
 generalize hT:mkRs (xs.map strRow) k=T at hall ⊢
 generalize hC:k+(cnRs (xs.map strRow):Nat)=C at hk hsum ⊢
 have hK0:0≤K:=by omega
 rcases hb:b with _|⟨x,b2⟩
 all_goals rw[hb]at hR hall hsum hRl hal
 ·have hKC:K=C:=by simpa [cnRs]using hsum
  have hRT:R=T:=by rw[hall,←hR];simp[mkRs]
  repeat' ((conv=>whnf);first|refine Or.inl ?_|apply oi|(apply fi<;>intro h)|refine⟨_,rfl,?_⟩|((with_reducible show _=_);rfl))
  all_goals try((with_reducible refine Obl.mk ?_);exact KO)
  all_goals try(exfalso;have h':=of_decide_eq_true h;rw[hRl]at h';simp at h';done)
  all_goals first|exact⟨by rw[hKC]⟩|exact⟨hRT⟩
 ·have hal2:a.length+(b2.length+1)≤1099511627776:=hal
  have hcx:cnR (strRow x)=1:=by simp only[strRow,cnR,cnT]
  have hsm:K+((1:Nat):Int)+(cnRs (b2.map strRow):Nat)=C:=by rw[←hsum,List.map_cons,cnRs,hcx];omega
  have hRl2:R.length=a.length+(b2.length+1):=hRl
  have hget:R[a.length]?=some (strRow x):=by rw[←hR];exact mid_get hDl
  repeat' ((conv=>whnf);first|refine Or.inl ?_|apply oi|(apply fi<;>intro h)|refine⟨_,hget,?_⟩|refine⟨_,set_get (by(try simp only[List.length_set]);omega),?_⟩|refine ci ((s_laws_markText _ (by(try simp(disch:=omega)only[IntWalk.i64_in]);omega))) (ai rfl trivial) ?_|refine⟨_,rfl,?_⟩|((with_reducible show _=_);rfl))
  all_goals try((with_reducible refine Obl.mk ?_);exact KO)
  all_goals try(exfalso;have h':=of_decide_eq_false h;omega;done)
  all_goals try exact⟨by(try simp only[List.length_set]);omega⟩
  conv=>whnf
  refine⟨⟨(a++[x],b2),by rw[←hab,hb];simp⟩,?_,Nat.lt_succ_self _⟩
  repeat' ((conv=>whnf);first|refine Or.inl ?_|apply oi|(apply fi<;>intro h)|refine⟨_,rfl,?_⟩|((with_reducible show _=_);rfl))
  all_goals try((with_reducible refine Obl.mk ?_);exact KO)
  ·refine⟨congrArg (Tr.int _) ?_⟩
   dsimp only
   rw[cnRs_snoc,hcx]
   try simp(disch:=omega)only[IntWalk.i64_in]
   try omega
  ·refine⟨congrArg (Tr.int _) ?_⟩
   dsimp only
   rw[List.length_append]
   try simp(disch:=omega)only[IntWalk.i64_in]
   try rfl
  ·refine⟨?_⟩
   dsimp only
   rw[mkRs_snoc,snoc_cons,hD,hK,←hR]
   try simp(disch:=omega)only[set_set,mid_set hDl,List.map_cons,IntWalk.i64_in]
   try rfl
theorem cn_StringS (xs:List (List UInt8))(hs:smallT 1048576 (.lst 1 (xs.map strRow))):cnRs (xs.map strRow)≤1048576 * 1:=by
 have h1:=small_nat hs
 refine Nat.le_trans (cnRs_map_le (g:=strRow) (M:=1) fun x hx=>?_) (Nat.mul_le_mul_right _ h1)
 have hcx:cnR (strRow x)=1:=by simp only[strRow,cnR,cnT]
 rw[hcx]
 omega
theorem g_laws_markTokS (xs:List (TTok))(k:Int)(hk0:0≤k)(hl:xs.length≤1099511627776)(hk:k+(cnRs (xs.map TTok.tr):Nat)≤4611686018427387904):SpecG Tryz.prog 58 [.r (.c (.own (0,0,0))),tI .i64 k] [((0,0,0),.arr false 3 (xs.map TTok.tr))] (tI .i64 (k+(cnRs (xs.map TTok.tr):Nat))) [((0,0,0),.arr false 3 (mkRs (xs.map TTok.tr) k))]:=by
 refine specG_of_W hΓ hmix Tryz.func58 rfl (by decide) rfl rfl ?_
 repeat' ((conv=>whnf);first|refine Or.inl ?_|apply oi|(apply fi<;>intro h)|refine⟨_,rfl,?_⟩|((with_reducible show _=_);rfl))
 all_goals try((with_reducible refine Obl.mk ?_);exact KO)
 conv=>whnf
 refine⟨{q:List (TTok)×List (TTok) // q.1++q.2=xs},fun q=>⟨[(0,.r (.c (.own (0,0,0)))),(1,tI .i64 (k+(cnRs (q.1.1.map TTok.tr):Nat))),(5,tI .i64 (q.1.1.length:Nat))],[((0,0,0),some (.arr false 3 (mkRs (q.1.1.map TTok.tr) k++q.1.2.map TTok.tr)))],[0]⟩,fun q=>q.1.2.length,⟨([],xs),rfl⟩,?_,?_⟩
 ·skip
  repeat' ((conv=>whnf);first|refine Or.inl ?_|apply oi|(apply fi<;>intro h)|refine⟨_,rfl,?_⟩|((with_reducible show _=_);rfl))
  all_goals try((with_reducible refine Obl.mk ?_);exact KO)
  all_goals exact⟨by first|rfl|simp[cnRs,mkRs]⟩
 intro⟨⟨a,b⟩,hab⟩
 dsimp only at hab ⊢
 have hal:a.length+b.length≤1099511627776:=by rw[←List.length_append,hab];exact hl
 have hsum:k+(cnRs (a.map TTok.tr):Nat)+(cnRs (b.map TTok.tr):Nat)=k+(cnRs (xs.map TTok.tr):Nat):=by rw[←hab,List.map_append,cnRs_append];omega
 have hall:mkRs (xs.map TTok.tr) k=mkRs (a.map TTok.tr) k++mkRs (b.map TTok.tr) (k+(cnRs (a.map TTok.tr):Nat)):=by rw[←hab,List.map_append,mkRs_append]
 have hDl:(mkRs (a.map TTok.tr) k).length=a.length:=by rw[mkRs_length,List.length_map]
 generalize hR:mkRs (a.map TTok.tr) k++b.map TTok.tr=R
 have hRl:R.length=a.length+b.length:=by rw[←hR];simp[hDl]
 generalize hK:k+(cnRs (a.map TTok.tr):Nat)=K at hsum hall ⊢
 generalize hD:mkRs (a.map TTok.tr) k=D at hR hall hDl
 generalize hT:mkRs (xs.map TTok.tr) k=T at hall ⊢
 generalize hC:k+(cnRs (xs.map TTok.tr):Nat)=C at hk hsum ⊢
 have hK0:0≤K:=by omega
 rcases hb:b with _|⟨x,b2⟩
 all_goals rw[hb]at hR hall hsum hRl hal
 ·have hKC:K=C:=by simpa [cnRs]using hsum
  have hRT:R=T:=by rw[hall,←hR];simp[mkRs]
  repeat' ((conv=>whnf);first|refine Or.inl ?_|apply oi|(apply fi<;>intro h)|refine⟨_,rfl,?_⟩|((with_reducible show _=_);rfl))
  all_goals try((with_reducible refine Obl.mk ?_);exact KO)
  all_goals try(exfalso;have h':=of_decide_eq_true h;rw[hRl]at h';simp at h';done)
  all_goals first|exact⟨by rw[hKC]⟩|exact⟨hRT⟩
 ·have hal2:a.length+(b2.length+1)≤1099511627776:=hal
  have hcx:cnR (TTok.tr x)=3:=by simp only[TTok.tr,cnR,cnT]
  have hsm:K+((3:Nat):Int)+(cnRs (b2.map TTok.tr):Nat)=C:=by rw[←hsum,List.map_cons,cnRs,hcx];omega
  have hRl2:R.length=a.length+(b2.length+1):=hRl
  have hget:R[a.length]?=some (TTok.tr x):=by rw[←hR];exact mid_get hDl
  repeat' ((conv=>whnf);first|refine Or.inl ?_|apply oi|(apply fi<;>intro h)|refine⟨_,hget,?_⟩|refine⟨_,set_get (by(try simp only[List.length_set]);omega),?_⟩|refine ci ((s_laws_markText _ (by(try simp(disch:=omega)only[IntWalk.i64_in]);omega))) (ai rfl trivial) ?_|refine⟨_,rfl,?_⟩|((with_reducible show _=_);rfl))
  all_goals try((with_reducible refine Obl.mk ?_);exact KO)
  all_goals try(exfalso;have h':=of_decide_eq_false h;omega;done)
  all_goals try exact⟨by(try simp only[List.length_set]);omega⟩
  conv=>whnf
  refine⟨⟨(a++[x],b2),by rw[←hab,hb];simp⟩,?_,Nat.lt_succ_self _⟩
  repeat' ((conv=>whnf);first|refine Or.inl ?_|apply oi|(apply fi<;>intro h)|refine⟨_,rfl,?_⟩|((with_reducible show _=_);rfl))
  all_goals try((with_reducible refine Obl.mk ?_);exact KO)
  ·refine⟨congrArg (Tr.int _) ?_⟩
   dsimp only
   rw[cnRs_snoc,hcx]
   try simp(disch:=omega)only[IntWalk.i64_in]
   try omega
  ·refine⟨congrArg (Tr.int _) ?_⟩
   dsimp only
   rw[List.length_append]
   try simp(disch:=omega)only[IntWalk.i64_in]
   try rfl
  ·refine⟨?_⟩
   dsimp only
   rw[mkRs_snoc,snoc_cons,hD,hK,←hR]
   try simp(disch:=omega)only[set_set,mid_set hDl,List.map_cons,IntWalk.i64_in]
   try rfl
theorem cn_TokS (xs:List (TTok))(hs:smallT 1048576 (.lst 3 (xs.map TTok.tr))):cnRs (xs.map TTok.tr)≤1048576 * 3:=by
 have h1:=small_nat hs
 refine Nat.le_trans (cnRs_map_le (g:=TTok.tr) (M:=3) fun x hx=>?_) (Nat.mul_le_mul_right _ h1)
 have hcx:cnR (TTok.tr x)=3:=by simp only[TTok.tr,cnR,cnT]
 rw[hcx]
 omega
theorem g_laws_markSymbolS (xs:List (TSymbol))(k:Int)(hk0:0≤k)(hl:xs.length≤1099511627776)(hk:k+(cnRs (xs.map TSymbol.tr):Nat)≤4611686018427387904):SpecG Tryz.prog 69 [.r (.c (.own (0,0,0))),tI .i64 k] [((0,0,0),.arr false 3 (xs.map TSymbol.tr))] (tI .i64 (k+(cnRs (xs.map TSymbol.tr):Nat))) [((0,0,0),.arr false 3 (mkRs (xs.map TSymbol.tr) k))]:=by
 refine specG_of_W hΓ hmix Tryz.func69 rfl (by decide) rfl rfl ?_
 repeat' ((conv=>whnf);first|refine Or.inl ?_|apply oi|(apply fi<;>intro h)|refine⟨_,rfl,?_⟩|((with_reducible show _=_);rfl))
 all_goals try((with_reducible refine Obl.mk ?_);exact KO)
 conv=>whnf
 refine⟨{q:List (TSymbol)×List (TSymbol) // q.1++q.2=xs},fun q=>⟨[(0,.r (.c (.own (0,0,0)))),(1,tI .i64 (k+(cnRs (q.1.1.map TSymbol.tr):Nat))),(5,tI .i64 (q.1.1.length:Nat))],[((0,0,0),some (.arr false 3 (mkRs (q.1.1.map TSymbol.tr) k++q.1.2.map TSymbol.tr)))],[0]⟩,fun q=>q.1.2.length,⟨([],xs),rfl⟩,?_,?_⟩
 ·skip
  repeat' ((conv=>whnf);first|refine Or.inl ?_|apply oi|(apply fi<;>intro h)|refine⟨_,rfl,?_⟩|((with_reducible show _=_);rfl))
  all_goals try((with_reducible refine Obl.mk ?_);exact KO)
  all_goals exact⟨by first|rfl|simp[cnRs,mkRs]⟩
 intro⟨⟨a,b⟩,hab⟩
 dsimp only at hab ⊢
 have hal:a.length+b.length≤1099511627776:=by rw[←List.length_append,hab];exact hl
 have hsum:k+(cnRs (a.map TSymbol.tr):Nat)+(cnRs (b.map TSymbol.tr):Nat)=k+(cnRs (xs.map TSymbol.tr):Nat):=by rw[←hab,List.map_append,cnRs_append];omega
 have hall:mkRs (xs.map TSymbol.tr) k=mkRs (a.map TSymbol.tr) k++mkRs (b.map TSymbol.tr) (k+(cnRs (a.map TSymbol.tr):Nat)):=by rw[←hab,List.map_append,mkRs_append]
 have hDl:(mkRs (a.map TSymbol.tr) k).length=a.length:=by rw[mkRs_length,List.length_map]
 generalize hR:mkRs (a.map TSymbol.tr) k++b.map TSymbol.tr=R
 have hRl:R.length=a.length+b.length:=by rw[←hR];simp[hDl]
 generalize hK:k+(cnRs (a.map TSymbol.tr):Nat)=K at hsum hall ⊢
 generalize hD:mkRs (a.map TSymbol.tr) k=D at hR hall hDl
 generalize hT:mkRs (xs.map TSymbol.tr) k=T at hall ⊢
 generalize hC:k+(cnRs (xs.map TSymbol.tr):Nat)=C at hk hsum ⊢
 have hK0:0≤K:=by omega
 rcases hb:b with _|⟨x,b2⟩
 all_goals rw[hb]at hR hall hsum hRl hal
 ·have hKC:K=C:=by simpa [cnRs]using hsum
  have hRT:R=T:=by rw[hall,←hR];simp[mkRs]
  repeat' ((conv=>whnf);first|refine Or.inl ?_|apply oi|(apply fi<;>intro h)|refine⟨_,rfl,?_⟩|((with_reducible show _=_);rfl))
  all_goals try((with_reducible refine Obl.mk ?_);exact KO)
  all_goals try(exfalso;have h':=of_decide_eq_true h;rw[hRl]at h';simp at h';done)
  all_goals first|exact⟨by rw[hKC]⟩|exact⟨hRT⟩
 ·have hal2:a.length+(b2.length+1)≤1099511627776:=hal
  have hcx:cnR (TSymbol.tr x)=3:=by simp only[TSymbol.tr,cnR,cnT]
  have hsm:K+((3:Nat):Int)+(cnRs (b2.map TSymbol.tr):Nat)=C:=by rw[←hsum,List.map_cons,cnRs,hcx];omega
  have hRl2:R.length=a.length+(b2.length+1):=hRl
  have hget:R[a.length]?=some (TSymbol.tr x):=by rw[←hR];exact mid_get hDl
  repeat' ((conv=>whnf);first|refine Or.inl ?_|apply oi|(apply fi<;>intro h)|refine⟨_,hget,?_⟩|refine⟨_,set_get (by(try simp only[List.length_set]);omega),?_⟩|refine ci ((s_laws_markText _ (by(try simp(disch:=omega)only[IntWalk.i64_in]);omega))) (ai rfl trivial) ?_|refine⟨_,rfl,?_⟩|((with_reducible show _=_);rfl))
  all_goals try((with_reducible refine Obl.mk ?_);exact KO)
  all_goals try(exfalso;have h':=of_decide_eq_false h;omega;done)
  all_goals try exact⟨by(try simp only[List.length_set]);omega⟩
  conv=>whnf
  refine⟨⟨(a++[x],b2),by rw[←hab,hb];simp⟩,?_,Nat.lt_succ_self _⟩
  repeat' ((conv=>whnf);first|refine Or.inl ?_|apply oi|(apply fi<;>intro h)|refine⟨_,rfl,?_⟩|((with_reducible show _=_);rfl))
  all_goals try((with_reducible refine Obl.mk ?_);exact KO)
  ·refine⟨congrArg (Tr.int _) ?_⟩
   dsimp only
   rw[cnRs_snoc,hcx]
   try simp(disch:=omega)only[IntWalk.i64_in]
   try omega
  ·refine⟨congrArg (Tr.int _) ?_⟩
   dsimp only
   rw[List.length_append]
   try simp(disch:=omega)only[IntWalk.i64_in]
   try rfl
  ·refine⟨?_⟩
   dsimp only
   rw[mkRs_snoc,snoc_cons,hD,hK,←hR]
   try simp(disch:=omega)only[set_set,mid_set hDl,List.map_cons,IntWalk.i64_in]
   try rfl
theorem s_laws_heldSymbolS (xs:List (TSymbol))(k:Int)(hk0:0≤k)(hl:xs.length≤1099511627776)(hk:k+(cnRs (xs.map TSymbol.tr):Nat)≤4611686018427387904):Sim.Spec Tryz.prog 70 [tvL 3 (mkRs (xs.map TSymbol.tr) k),tvI k] (rI (k+(cnRs (xs.map TSymbol.tr):Nat))):=by
 refine spec_of_W hΓ hmix Tryz.func70 rfl (by decide) rfl ?_
 have hTl:(mkRs (xs.map TSymbol.tr) k).length=xs.length:=by rw[mkRs_length,List.length_map]
 have hal0:=fun(a b:List (TSymbol))=>mkRs_append (a.map TSymbol.tr) (b.map TSymbol.tr) k
 generalize hT:mkRs (xs.map TSymbol.tr) k=T at hTl ⊢
 repeat' ((conv=>whnf);first|refine Or.inl ?_|apply oi|(apply fi<;>intro h)|refine⟨_,rfl,?_⟩|((with_reducible show _=_);rfl))
 all_goals try((with_reducible refine Obl.mk ?_);exact KO)
 conv=>whnf
 refine⟨{q:List (TSymbol)×List (TSymbol) // q.1++q.2=xs},fun q=>⟨[(0,.r (.c (.t (.lst 3 T)))),(1,tI .i64 (k+(cnRs (q.1.1.map TSymbol.tr):Nat))),(5,tI .i64 (q.1.1.length:Nat))],[],[]⟩,fun q=>q.1.2.length,⟨([],xs),rfl⟩,?_,?_⟩
 ·skip
  repeat' ((conv=>whnf);first|refine Or.inl ?_|apply oi|(apply fi<;>intro h)|refine⟨_,rfl,?_⟩|((with_reducible show _=_);rfl))
  all_goals try((with_reducible refine Obl.mk ?_);exact KO)
  all_goals exact⟨by first|rfl|simp[cnRs]⟩
 intro⟨⟨a,b⟩,hab⟩
 dsimp only at hab ⊢
 have hal:a.length+b.length≤1099511627776:=by rw[←List.length_append,hab];exact hl
 have hsum:k+(cnRs (a.map TSymbol.tr):Nat)+(cnRs (b.map TSymbol.tr):Nat)=k+(cnRs (xs.map TSymbol.tr):Nat):=by rw[←hab,List.map_append,cnRs_append];omega
 have hall:T=mkRs (a.map TSymbol.tr) k++mkRs (b.map TSymbol.tr) (k+(cnRs (a.map TSymbol.tr):Nat)):=by rw[←hT,←hab,List.map_append,mkRs_append]
 have hDl:(mkRs (a.map TSymbol.tr) k).length=a.length:=by rw[mkRs_length,List.length_map]
 have hTl2:T.length=a.length+b.length:=by rw[hTl,←hab,List.length_append]
 generalize hK:k+(cnRs (a.map TSymbol.tr):Nat)=K at hsum hall ⊢
 generalize hD:mkRs (a.map TSymbol.tr) k=D at hall hDl
 generalize hC:k+(cnRs (xs.map TSymbol.tr):Nat)=C at hk hsum ⊢
 have hK0:0≤K:=by omega
 rcases hb:b with _|⟨x,b2⟩
 all_goals rw[hb]at hall hsum hTl2 hal
 ·have hKC:K=C:=by simpa [cnRs]using hsum
  repeat' ((conv=>whnf);first|refine Or.inl ?_|apply oi|(apply fi<;>intro h)|refine⟨_,rfl,?_⟩|((with_reducible show _=_);rfl))
  all_goals try((with_reducible refine Obl.mk ?_);exact KO)
  all_goals try(exfalso;have h':=of_decide_eq_true h;rw[hTl2]at h';simp at h';done)
  all_goals exact⟨by rw[hKC]⟩
 ·have hal2:a.length+(b2.length+1)≤1099511627776:=hal
  have hcx:cnR (TSymbol.tr x)=3:=by simp only[TSymbol.tr,cnR,cnT]
  have hsm:K+((3:Nat):Int)+(cnRs (b2.map TSymbol.tr):Nat)=C:=by rw[←hsum,List.map_cons,cnRs,hcx];omega
  have hTl3:T.length=a.length+(b2.length+1):=hTl2
  have hget:T[a.length]?=some [.str (mText (K)),.int .i64 (K+1),.int .i64 (K+1+1)]:=by rw[hall,List.map_cons,mkRs];exact mid_get hDl
  repeat' ((conv=>whnf);first|refine Or.inl ?_|apply oi|(apply fi<;>intro h)|refine⟨a.length,_,rfl,hget,?_⟩|refine ci ((s_laws_markText _ (by(try simp(disch:=omega)only[IntWalk.i64_in]);omega))) (ai rfl trivial) ?_|refine⟨_,rfl,?_⟩|((with_reducible show _=_);rfl))
  all_goals try((with_reducible refine Obl.mk ?_);exact KO)
  all_goals try(exfalso;have h':=of_decide_eq_false h;omega;done)
  all_goals try(exfalso;(try have h':=of_decide_eq_true h);(try simp(disch:=omega) [IntWalk.i64_in]at h');(try simp(disch:=omega) [IntWalk.i64_in]at h);(try omega);done)
  conv=>whnf
  refine⟨⟨(a++[x],b2),by rw[←hab,hb];simp⟩,?_,Nat.lt_succ_self _⟩
  repeat' ((conv=>whnf);first|refine Or.inl ?_|apply oi|(apply fi<;>intro h)|refine⟨_,rfl,?_⟩|((with_reducible show _=_);rfl))
  all_goals try((with_reducible refine Obl.mk ?_);exact KO)
  ·refine⟨congrArg (Tr.int _) ?_⟩
   dsimp only
   rw[cnRs_snoc,hcx]
   try simp(disch:=omega)only[IntWalk.i64_in]
   try omega
  ·refine⟨congrArg (Tr.int _) ?_⟩
   dsimp only
   rw[List.length_append]
   try simp(disch:=omega)only[IntWalk.i64_in]
   try rfl
theorem cn_SymbolS (xs:List (TSymbol))(hs:smallT 1048576 (.lst 3 (xs.map TSymbol.tr))):cnRs (xs.map TSymbol.tr)≤1048576 * 3:=by
 have h1:=small_nat hs
 refine Nat.le_trans (cnRs_map_le (g:=TSymbol.tr) (M:=3) fun x hx=>?_) (Nat.mul_le_mul_right _ h1)
 have hcx:cnR (TSymbol.tr x)=3:=by simp only[TSymbol.tr,cnR,cnT]
 rw[hcx]
 omega
theorem g_laws_markLineS (xs:List (TLine))(k:Int)(hk0:0≤k)(hl:xs.length≤1099511627776)(hk:k+(cnRs (xs.map TLine.tr):Nat)≤4611686018427387904)(hin:∀x∈xs,x.fArgs.length≤1099511627776∧x.fExpr.length≤1099511627776):SpecG Tryz.prog 15 [.r (.c (.own (0,0,0))),tI .i64 k] [((0,0,0),.dar 4 (deepRows (xs.map TLine.tr)) none)] (tI .i64 (k+(cnRs (xs.map TLine.tr):Nat))) [((0,0,0),.dar 4 (deepRows (mkRs (xs.map TLine.tr) k)) none)]:=by
 refine specG_of_W hΓ hmix Tryz.func15 rfl (by decide) rfl rfl ?_
 repeat' ((conv=>whnf);first|refine Or.inl ?_|apply oi|(apply fi<;>intro h)|refine⟨_,rfl,?_⟩|((with_reducible show _=_);rfl))
 all_goals try((with_reducible refine Obl.mk ?_);exact KO)
 conv=>whnf
 refine⟨{q:List (TLine)×List (TLine) // q.1++q.2=xs},fun q=>⟨[(0,.r (.c (.own (0,0,0)))),(1,tI .i64 (k+(cnRs (q.1.1.map TLine.tr):Nat))),(5,tI .i64 (q.1.1.length:Nat))],[((0,0,0),some (.dar 4 (deepRows (mkRs (q.1.1.map TLine.tr) k++q.1.2.map TLine.tr)) none))],[0]⟩,fun q=>q.1.2.length,⟨([],xs),rfl⟩,?_,?_⟩
 ·skip
  repeat' ((conv=>whnf);first|refine Or.inl ?_|apply oi|(apply fi<;>intro h)|refine⟨_,rfl,?_⟩|((with_reducible show _=_);rfl))
  all_goals try((with_reducible refine Obl.mk ?_);exact KO)
  all_goals exact⟨by first|rfl|simp[cnRs,mkRs]⟩
 intro⟨⟨a,b⟩,hab⟩
 dsimp only at hab ⊢
 have hal:a.length+b.length≤1099511627776:=by rw[←List.length_append,hab];exact hl
 have hsum:k+(cnRs (a.map TLine.tr):Nat)+(cnRs (b.map TLine.tr):Nat)=k+(cnRs (xs.map TLine.tr):Nat):=by rw[←hab,List.map_append,cnRs_append];omega
 have hall:mkRs (xs.map TLine.tr) k=mkRs (a.map TLine.tr) k++mkRs (b.map TLine.tr) (k+(cnRs (a.map TLine.tr):Nat)):=by rw[←hab,List.map_append,mkRs_append]
 have hDl:(mkRs (a.map TLine.tr) k).length=a.length:=by rw[mkRs_length,List.length_map]
 generalize hR:deepRows (mkRs (a.map TLine.tr) k++b.map TLine.tr)=R
 have hRl:R.length=a.length+b.length:=by rw[←hR];simp[hDl,deepRows_length]
 generalize hK:k+(cnRs (a.map TLine.tr):Nat)=K at hsum hall ⊢
 generalize hD:mkRs (a.map TLine.tr) k=D at hR hall hDl
 generalize hT:mkRs (xs.map TLine.tr) k=T at hall ⊢
 generalize hC:k+(cnRs (xs.map TLine.tr):Nat)=C at hk hsum ⊢
 have hK0:0≤K:=by omega
 rcases hb:b with _|⟨x,b2⟩
 all_goals rw[hb]at hR hall hsum hRl hal
 ·have hKC:K=C:=by simpa [cnRs]using hsum
  have hRT:R=deepRows (T):=by rw[hall,←hR];simp[mkRs]
  repeat' ((conv=>whnf);first|refine Or.inl ?_|apply oi|(apply fi<;>intro h)|refine⟨_,rfl,?_⟩|((with_reducible show _=_);rfl))
  all_goals try((with_reducible refine Obl.mk ?_);exact KO)
  all_goals try(exfalso;have h':=of_decide_eq_true h;rw[hRl]at h';simp at h';done)
  all_goals first|exact⟨by rw[hKC]⟩|exact⟨hRT⟩
 ·have hal2:a.length+(b2.length+1)≤1099511627776:=hal
  have hcx:cnR (TLine.tr x)=2+cnRs (x.fArgs.map strRow)+cnRs (x.fExpr.map TTok.tr):=by simp only[TLine.tr,cnR,cnT] <;> omega
  have hsm:K+((2+cnRs (x.fArgs.map strRow)+cnRs (x.fExpr.map TTok.tr):Nat):Int)+(cnRs (b2.map TLine.tr):Nat)=C:=by rw[←hsum,List.map_cons,cnRs,hcx];omega
  have hRl2:R.length=a.length+(b2.length+1):=hRl
  have hix:=hin x (by rw[←hab,hb];simp)
  have hget:R[a.length]?=some (((TLine.tr x).map .d)):=by rw[←hR,List.map_cons,deepRows_append,deepRows_cons];exact mid_get (by rw[deepRows_length];exact hDl)
  repeat' ((conv=>whnf);first|refine cg (g_laws_markStringS x.fArgs (K+1+1) (by omega) hix.1 (by omega)) ?_|refine cg (g_laws_markTokS x.fExpr (K+1+1+(cnRs (x.fArgs.map strRow):Nat)) (by omega) hix.2 (by omega)) ?_|refine Or.inl ?_|apply oi|(apply fi<;>intro h)|refine⟨_,hget,?_⟩|refine⟨_,set_get (by(try simp only[List.length_set]);omega),?_⟩|refine ci ((s_laws_markText _ (by(try simp(disch:=omega)only[IntWalk.i64_in]);omega))) (ai rfl trivial) ?_|refine⟨_,rfl,?_⟩|((with_reducible show _=_);rfl))
  all_goals try((with_reducible refine Obl.mk ?_);exact KO)
  all_goals try(exfalso;have h':=of_decide_eq_false h;omega;done)
  all_goals try exact⟨by(try simp only[List.length_set]);omega⟩
  all_goals try exact⟨flat_map _ (by intro x c hc sz rs e;subst e;simp[TTok.tr,strRow]at hc)⟩
  all_goals try exact⟨flat_mk _ _ (flat_map _ (by intro x c hc sz rs e;subst e;simp[TTok.tr,strRow]at hc))⟩
  all_goals try exact⟨K2⟩
  conv=>whnf
  refine⟨⟨(a++[x],b2),by rw[←hab,hb];simp⟩,?_,Nat.lt_succ_self _⟩
  repeat' ((conv=>whnf);first|refine Or.inl ?_|apply oi|(apply fi<;>intro h)|refine⟨_,hget,?_⟩|refine⟨_,set_get (by(try simp only[List.length_set]);omega),?_⟩|refine⟨_,rfl,?_⟩|((with_reducible show _=_);rfl))
  all_goals try((with_reducible refine Obl.mk ?_);exact KO)
  all_goals try exact⟨flat_mk _ _ (flat_map _ (by intro x c hc sz rs e;subst e;simp[TTok.tr,strRow]at hc))⟩
  ·refine⟨congrArg (Tr.int _) ?_⟩
   dsimp only
   rw[cnRs_snoc,hcx]
   try simp(disch:=omega)only[IntWalk.i64_in]
   try omega
  ·refine⟨congrArg (Tr.int _) ?_⟩
   dsimp only
   rw[List.length_append]
   try simp(disch:=omega)only[IntWalk.i64_in]
   try rfl
  ·refine⟨?_⟩
   dsimp only
   have hDd:(deepRows D).length=a.length:=by rw[deepRows_length];exact hDl
   rw[mkRs_snoc,snoc_cons,hD,hK,←hR]
   try simp(disch:=omega)only[set_set,deepRows_append,deepRows_cons,mid_set hDd,List.map_cons,IntWalk.i64_in]
   try rfl
theorem cn_LineS (xs:List (TLine))(hs:smallT 1048576 (.lst 4 (xs.map TLine.tr))):cnRs (xs.map TLine.tr)≤1048576 * 4194306:=by
 have h1:=small_nat hs
 refine Nat.le_trans (cnRs_map_le (g:=TLine.tr) (M:=4194306) fun x hx=>?_) (Nat.mul_le_mul_right _ h1)
 have hcx:cnR (TLine.tr x)=2+cnRs (x.fArgs.map strRow)+cnRs (x.fExpr.map TTok.tr):=by simp only[TLine.tr,cnR,cnT] <;> omega
 rw[hcx]
 have hr:=smallRs_map hs hx
 simp only[TLine.tr,smallR]at hr
 have c2:=cn_StringS _ (hr.2.2.1)
 have c3:=cn_TokS _ (hr.2.2.2.1)
 omega
theorem hin_LineS (xs:List (TLine))(hs:smallT 1048576 (.lst 4 (xs.map TLine.tr))):∀x∈xs,x.fArgs.length≤1099511627776∧x.fExpr.length≤1099511627776:=by
 intro x hx
 have hr:=smallRs_map hs hx
 simp only[TLine.tr,smallR]at hr
 exact⟨Nat.le_trans (small_nat (hr.2.2.1)) (by omega),Nat.le_trans (small_nat (hr.2.2.2.1)) (by omega)⟩
theorem g_laws_toLineS (xs:List (TLine))(hs:smallT 1048576 (.lst 4 (xs.map TLine.tr))):SpecG Tryz.prog 10 [.r (.c (.t (.lst 4 (xs.map TLine.tr))))] [] (.r (.c (.own (1,0,0)))) [((1,0,0),.dar 4 (deepRows (xs.map TLine.tr)) none)]:=by
 have hl:=small_len hs
 have hlen:(xs.map TLine.tr).length=xs.length:=by simp
 refine specG_of_W hΓ hmix Tryz.func10 rfl (by decide) rfl rfl ?_
 repeat' ((conv=>whnf);first|refine Or.inl ?_|apply oi|(apply fi<;>intro h)|refine⟨_,rfl,?_⟩|((with_reducible show _=_);rfl))
 all_goals try((with_reducible refine Obl.mk ?_);exact KO)
 ·exact⟨by omega⟩
 ·exact⟨by dsimp only;omega⟩
 repeat' ((conv=>whnf);first|refine Or.inl ?_|apply oi|(apply fi<;>intro h)|refine⟨_,rfl,?_⟩|((with_reducible show _=_);rfl))
 all_goals try((with_reducible refine Obl.mk ?_);exact KO)
 conv=>whnf
 refine⟨{k:Nat // k≤xs.length},fun k=>⟨[(0,.r (.c (.t (.lst 4 (xs.map TLine.tr))))),(3,.r (.c (.own (3,0,0)))),(4,tI .i64 (k.1:Int))],[((3,0,0),some (.dar 4 (deepRows (filled (xs.map TLine.tr) [.int .i64 0,.str [],.lst 0 [],.lst 0 []] k.1)) none))],[3,0]⟩,fun k=>xs.length - k.1,⟨0,by omega⟩,?_,?_⟩
 ·skip
  repeat' ((conv=>whnf);first|refine Or.inl ?_|apply oi|(apply fi<;>intro h)|refine⟨_,rfl,?_⟩|((with_reducible show _=_);rfl))
  all_goals try((with_reducible refine Obl.mk ?_);exact KO)
  all_goals exact⟨by first|(rw[←filled_zero,hlen,deepRows,List.map_replicate];done)|(rw[←filled_zero,hlen,deepRows,List.map_replicate];rfl)⟩
 intro⟨k,hk⟩
 dsimp only
 repeat' ((conv=>whnf);first|refine Or.inl ?_|apply oi|(apply fi<;>intro h)|refine⟨_,rfl,?_⟩|((with_reducible show _=_);rfl))
 all_goals try((with_reducible refine Obl.mk ?_);exact KO)
 ·have hlt:k < xs.length:=by have:=of_decide_eq_true h;omega
  obtain⟨x,hx⟩:=get_of_lt hlt
  have hsr:=smallRs_map hs (List.mem_of_getElem? hx)
  conv=>whnf
  refine⟨k,_,rfl,map_get hx,?_⟩
  repeat' ((conv=>whnf);first|refine Or.inl ?_|apply oi|(apply fi<;>intro h)|refine ci ((s_laws_toLine x hsr)) (ai (ai rfl (ai rfl (ai rfl (ai rfl trivial)))) trivial) ?_|refine⟨_,rfl,?_⟩|((with_reducible show _=_);rfl))
  all_goals try((with_reducible refine Obl.mk ?_);exact KO)
  ·exact⟨by rw[deepRows_length,filled_len (by omega)];omega⟩
  conv=>whnf
  refine⟨_,deepRows_get (filled_get (by omega)),?_⟩
  repeat' ((conv=>whnf);first|refine Or.inl ?_|apply oi|(apply fi<;>intro h)|refine⟨_,rfl,?_⟩|((with_reducible show _=_);rfl))
  all_goals try((with_reducible refine Obl.mk ?_);exact KO)
  all_goals try exact⟨flat_map _ (by intro x c hc sz rs e;subst e;simp[TTok.tr,strRow]at hc)⟩
  conv=>whnf
  refine⟨⟨k+1,by omega⟩,?_,by dsimp only;omega⟩
  repeat' ((conv=>whnf);first|refine Or.inl ?_|apply oi|(apply fi<;>intro h)|refine⟨_,rfl,?_⟩|((with_reducible show _=_);rfl))
  all_goals try((with_reducible refine Obl.mk ?_);exact KO)
  ·exact⟨by dsimp only;rw[IntWalk.i64_in _ (by omega)];rfl⟩
  ·exact⟨(deepRows_set _ _ (TLine.tr x)).trans (congrArg deepRows (filled_set (map_get hx)))⟩
 ·have hge:xs.length≤k:=by have:=of_decide_eq_false h;omega
  exact⟨congrArg deepRows (filled_all (by omega))⟩
theorem g_laws_markImage (x:TImage)(k:Int)(hk0:0≤k)(hl1:x.fSymbols.length≤1099511627776)(hk:k+(cnRs (x.fSymbols.map TSymbol.tr):Nat)≤4611686018427387904):SpecG Tryz.prog 26 [.r (.agg [.t (.str x.fCode),.own (0,0,1)]),tI .i64 k] [((0,0,1),.arr false 3 (x.fSymbols.map TSymbol.tr))] (tI .i64 (k+(cnRs (x.fSymbols.map TSymbol.tr):Nat))) [((0,0,1),.arr false 3 (mkRs (x.fSymbols.map TSymbol.tr) (k)))]:=by
 refine specG_of_W hΓ hmix Tryz.func26 rfl (by decide) rfl rfl ?_
 repeat' ((conv=>whnf);first|refine seq_inl ?_|apply reg_inl|apply oi|(apply fi<;>intro h)|refine⟨_,rfl,?_⟩|((with_reducible show _=_);rfl))
 all_goals try((with_reducible refine Obl.mk ?_);exact KO)
 refine cg (g_laws_markSymbolS x.fSymbols (k) (by omega) hl1 (by omega)) ?_
 repeat' ((conv=>whnf);first|refine seq_inl ?_|apply reg_inl|apply oi|(apply fi<;>intro h)|refine⟨_,rfl,?_⟩|((with_reducible show _=_);rfl))
 all_goals try((with_reducible refine Obl.mk ?_);exact KO)
theorem s_laws_heldImage (x:TImage)(k:Int)(hk0:0≤k)(hl1:x.fSymbols.length≤1099511627776)(hk:k+(cnRs (x.fSymbols.map TSymbol.tr):Nat)≤4611686018427387904):Sim.Spec Tryz.prog 27 [.agg [.str x.fCode,.lst 3 (mkRs (x.fSymbols.map TSymbol.tr) (k))],tvI k] (rI (k+(cnRs (x.fSymbols.map TSymbol.tr):Nat))):=by
 refine spec_of_W hΓ hmix Tryz.func27 rfl (by decide) rfl ?_
 repeat' ((conv=>whnf);first|refine Or.inl ?_|apply oi|(apply fi<;>intro h)|refine ci ((s_laws_heldSymbolS x.fSymbols (k) (by omega) hl1 (by omega))) (ai rfl (ai rfl trivial)) ?_|refine⟨_,rfl,?_⟩|((with_reducible show _=_);rfl))
 all_goals try((with_reducible refine Obl.mk ?_);exact KO)
 all_goals try(exfalso;have h':=of_decide_eq_true h;omega;done)
 all_goals exact⟨rfl⟩
end Go.Proofs.YtogdbgmiigfmfaaGreat
namespace Go.Proofs.YtogdbgmiigfmfaaGreat
open Go.Sim
set_option maxRecDepth 100000
set_option maxHeartbeats 4000000
def ruleOkAt (last:Int)(r:TRule):Prop:=last≤r.fStart∧r.fStart < r.fEnd∧r.fEnd≤1000000∧0≤r.fDepth∧r.fDepth≤1200∧(r.fFrame=true→r.fDepth=0)
instance (last:Int) (r:TRule):Decidable (ruleOkAt last r):=by unfold ruleOkAt;infer_instance
end Go.Proofs.YtogdbgmiigfmfaaGreat
namespace Go.Proofs.YtogdbgmiigfmfaaGreat
open Go.Sim
set_option maxRecDepth 100000
set_option maxHeartbeats 4000000
def low (b:UInt8):Bool:=decide (97≤b.toNat) && decide (b.toNat≤122)
def nameOk (s:List UInt8):Bool:=s.all low && within s.length 1 8
abbrev NameIx (s:List UInt8):={k:Nat // k≤s.length∧(s.take k).all low=true}
theorem all_take {α:Type}{p:α→Bool}{s:List α}{k:Nat}{b:α}(h:(s.take k).all p=true)(hb:s[k]?=some b)(hp:p b=true):(s.take (k+1)).all p=true:=by
 rw[List.take_add_one,hb]
 simp_all
theorem all_bad {α:Type}{p:α→Bool}{s:List α}{k:Nat}{b:α}(hb:s[k]?=some b)(hp:p b=false):s.all p=false:=by
 rw[Bool.eq_false_iff]
 intro h
 rw[List.all_eq_true]at h
 rw[h b (List.mem_of_getElem? hb)]at hp
 cases hp
theorem s_impl_NameOk (s:List UInt8)(hl:s.length≤1099511627775):Sim.Spec Tryz.prog 152 [tvS s] (rB (nameOk s)):=by
 refine spec_of_W hΓ hmix Tryz.func152 rfl (by decide) rfl ?_
 unfold nameOk
 repeat' ((conv=>whnf);first|refine Or.inl ?_|apply oi|(apply fi<;>intro h)|refine⟨_,rfl,?_⟩|((with_reducible show _=_);rfl))
 all_goals try((with_reducible refine Obl.mk ?_);exact KO)
 conv=>whnf
 refine⟨NameIx s,fun k=>⟨[(0,tS s),(3,tI .i64 (k.1:Int))],[],[]⟩,fun k=>s.length - k.1,⟨0,by omega,rfl⟩,?_,?_⟩
 ·skip
  repeat' ((conv=>whnf);first|refine Or.inl ?_|apply oi|(apply fi<;>intro h)|refine⟨_,rfl,?_⟩|((with_reducible show _=_);rfl))
  all_goals try((with_reducible refine Obl.mk ?_);exact KO)
 intro⟨k,hk,hp⟩
 dsimp only
 by_cases hlt:k < s.length
 ·obtain⟨b,hb⟩:=get_of_lt hlt
  have hbl:=b.toNat_lt
  cases hlo:low b with
  | false=>
   rw[all_bad hb hlo]
   unfold low at hlo
   repeat' ((conv=>whnf);first|refine Or.inl ?_|apply oi|(apply fi<;>intro h)|refine⟨k,b,rfl,hb,?_⟩|refine⟨_,rfl,?_⟩|((with_reducible show _=_);rfl))
   all_goals try((with_reducible refine Obl.mk ?_);exact KO)
   all_goals try exact KX
   all_goals(exfalso;simp at *;omega)
  | true=>
   have hnx:=all_take hp hb hlo
   unfold low at hlo
   repeat' ((conv=>whnf);first|refine Or.inl ?_|apply oi|(apply fi<;>intro h)|refine⟨k,b,rfl,hb,?_⟩|refine⟨_,rfl,?_⟩|((with_reducible show _=_);rfl))
   all_goals try((with_reducible refine Obl.mk ?_);exact KO)
   all_goals try exact KX
   all_goals try exact K3
   conv=>whnf
   refine⟨⟨k+1,by omega,hnx⟩,?_,by dsimp only;omega⟩
   repeat' ((conv=>whnf);first|refine Or.inl ?_|apply oi|(apply fi<;>intro h)|refine⟨_,rfl,?_⟩|((with_reducible show _=_);rfl))
   all_goals try((with_reducible refine Obl.mk ?_);exact KO)
   all_goals try exact⟨K4⟩
 ·have hge:s.length≤k:=by omega
  rw[List.take_of_length_le hge]at hp
  rw[hp]
  repeat' ((conv=>whnf);first|refine Or.inl ?_|apply oi|(apply fi<;>intro h)|refine ci (s_impl_between _ _ _) (ai rfl (ai rfl (ai rfl trivial))) ?_|refine⟨_,rfl,?_⟩|((with_reducible show _=_);rfl))
  all_goals try((with_reducible refine Obl.mk ?_);exact KO)
  all_goals try exact KX
theorem s_spec_NameOk (s:List UInt8)(hl:s.length≤1099511627775):Sim.Spec Tryz.prog 138 [tvS s] (rB (nameOk s)):=by
 refine spec_of_W hΓ hmix Tryz.func138 rfl (by decide) rfl ?_
 unfold nameOk
 repeat' ((conv=>whnf);first|refine Or.inl ?_|apply oi|(apply fi<;>intro h)|refine⟨_,rfl,?_⟩|((with_reducible show _=_);rfl))
 all_goals try((with_reducible refine Obl.mk ?_);exact KO)
 conv=>whnf
 refine⟨NameIx s,fun k=>⟨[(0,tS s),(3,tI .i64 (k.1:Int))],[],[]⟩,fun k=>s.length - k.1,⟨0,by omega,rfl⟩,?_,?_⟩
 ·skip
  repeat' ((conv=>whnf);first|refine Or.inl ?_|apply oi|(apply fi<;>intro h)|refine⟨_,rfl,?_⟩|((with_reducible show _=_);rfl))
  all_goals try((with_reducible refine Obl.mk ?_);exact KO)
 intro⟨k,hk,hp⟩
 dsimp only
 by_cases hlt:k < s.length
 ·obtain⟨b,hb⟩:=get_of_lt hlt
  have hbl:=b.toNat_lt
  cases hlo:low b with
  | false=>
   rw[all_bad hb hlo]
   unfold low at hlo
   repeat' ((conv=>whnf);first|refine Or.inl ?_|apply oi|(apply fi<;>intro h)|refine⟨k,b,rfl,hb,?_⟩|refine⟨_,rfl,?_⟩|((with_reducible show _=_);rfl))
   all_goals try((with_reducible refine Obl.mk ?_);exact KO)
   all_goals try exact KX
   all_goals(exfalso;simp at *;omega)
  | true=>
   have hnx:=all_take hp hb hlo
   unfold low at hlo
   repeat' ((conv=>whnf);first|refine Or.inl ?_|apply oi|(apply fi<;>intro h)|refine⟨k,b,rfl,hb,?_⟩|refine⟨_,rfl,?_⟩|((with_reducible show _=_);rfl))
   all_goals try((with_reducible refine Obl.mk ?_);exact KO)
   all_goals try exact KX
   all_goals try exact K3
   conv=>whnf
   refine⟨⟨k+1,by omega,hnx⟩,?_,by dsimp only;omega⟩
   repeat' ((conv=>whnf);first|refine Or.inl ?_|apply oi|(apply fi<;>intro h)|refine⟨_,rfl,?_⟩|((with_reducible show _=_);rfl))
   all_goals try((with_reducible refine Obl.mk ?_);exact KO)
   all_goals try exact⟨K4⟩
 ·have hge:s.length≤k:=by omega
  rw[List.take_of_length_le hge]at hp
  rw[hp]
  repeat' ((conv=>whnf);first|refine Or.inl ?_|apply oi|(apply fi<;>intro h)|refine ci (s_spec_l01In _ _ _) (ai rfl (ai rfl (ai rfl trivial))) ?_|refine⟨_,rfl,?_⟩|((with_reducible show _=_);rfl))
  all_goals try((with_reducible refine Obl.mk ?_);exact KO)
  all_goals try exact KX
def behind (p:Option TInline)(x:TInline):Prop:=match p with
 | none=>True
 | some p=>p.fLevel≤x.fLevel∧(p.fLevel=x.fLevel→p.fEnd≤x.fStart)
instance (p:Option TInline) (x:TInline):Decidable (behind p x):=by unfold behind;cases p <;> infer_instance
end Go.Proofs.YtogdbgmiigfmfaaGreat
namespace Go.Proofs.YtogdbgmiigfmfaaGreat
open Go.Sim
set_option maxRecDepth 100000
set_option maxHeartbeats 4000000
def tokOk (t:TTok):Bool:=
 if t.fKind=0 then within t.fNum 0 999 && t.fName==[]
 else if t.fKind=7 then within t.fNum 0 4 && nameOk t.fName
 else if t.fKind=1 then t.fNum==0 && nameOk t.fName
 else within t.fKind 2 6 && (t.fNum==0 && t.fName==[])
theorem s_impl_TokOk (t:TTok)(hl:t.fName.length≤1099511627775):Sim.Spec Tryz.prog 201 [.agg t.tr] (rB (tokOk t)):=by
 refine spec_of_W hΓ hmix Tryz.func201 rfl (by decide) rfl ?_
 have hN:=s_impl_NameOk t.fName hl
 unfold tokOk
 generalize nameOk t.fName=nb at *
 repeat' ((conv=>whnf);first|refine Or.inl ?_|apply oi|(apply fi<;>intro h)|refine ci (s_impl_between _ _ _) (ai rfl (ai rfl (ai rfl trivial))) ?_|refine ci hN (ai rfl trivial) ?_|refine⟨_,rfl,?_⟩|((with_reducible show _=_);rfl))
 all_goals try((with_reducible refine Obl.mk ?_);exact KO)
 all_goals(refine⟨congrArg Tr.bool ?_⟩;simp_all;try(intros;omega))
theorem s_spec_TokOk (t:TTok)(hl:t.fName.length≤1099511627775):Sim.Spec Tryz.prog 200 [.agg t.tr] (rB (tokOk t)):=by
 refine spec_of_W hΓ hmix Tryz.func200 rfl (by decide) rfl ?_
 have hN:=s_spec_NameOk t.fName hl
 unfold tokOk
 generalize nameOk t.fName=nb at *
 repeat' ((conv=>whnf);first|refine Or.inl ?_|apply oi|(apply fi<;>intro h)|refine ci (s_spec_l01In _ _ _) (ai rfl (ai rfl (ai rfl trivial))) ?_|refine ci hN (ai rfl trivial) ?_|refine⟨_,rfl,?_⟩|((with_reducible show _=_);rfl))
 all_goals try((with_reducible refine Obl.mk ?_);exact KO)
 all_goals(refine⟨congrArg Tr.bool ?_⟩;simp_all[within];(try(intros;omega));(try((repeat' split) <;> intros <;> omega)))
def arity (t:TTok):Int:=if tokOk t=false then -1 else if t.fKind=7 then t.fNum else if t.fKind=0∨t.fKind=1 then 0 else 2
theorem s_impl_Arity (t:TTok)(hl:t.fName.length≤1099511627775):Sim.Spec Tryz.prog 202 [.agg t.tr] (rI (arity t)):=by
 refine spec_of_W hΓ hmix Tryz.func202 rfl (by decide) rfl ?_
 have hT:=s_impl_TokOk t hl
 unfold arity
 generalize tokOk t=nb at *
 repeat' ((conv=>whnf);first|refine Or.inl ?_|apply oi|(apply fi<;>intro h)|refine ci hT (ai (ai rfl (ai rfl (ai rfl trivial))) trivial) ?_|refine⟨_,rfl,?_⟩|((with_reducible show _=_);rfl))
 all_goals try((with_reducible refine Obl.mk ?_);exact KO)
 all_goals(refine⟨congrArg (Tr.int _) ?_⟩;simp_all)
theorem s_spec_Arity (t:TTok)(hl:t.fName.length≤1099511627775):Sim.Spec Tryz.prog 185 [.agg t.tr] (rI (arity t)):=by
 refine spec_of_W hΓ hmix Tryz.func185 rfl (by decide) rfl ?_
 have hT:=s_spec_TokOk t hl
 unfold arity
 generalize tokOk t=nb at *
 repeat' ((conv=>whnf);first|refine Or.inl ?_|apply oi|(apply fi<;>intro h)|refine ci hT (ai (ai rfl (ai rfl (ai rfl trivial))) trivial) ?_|refine⟨_,rfl,?_⟩|((with_reducible show _=_);rfl))
 all_goals try((with_reducible refine Obl.mk ?_);exact KO)
 all_goals(refine⟨congrArg (Tr.int _) ?_⟩;simp_all)
def ar (t:TTok):Nat:=(arity t).toNat
theorem ar_eq {t:TTok}(h:tokOk t=true):arity t=(ar t:Int)∧ar t≤4:=by
 unfold ar arity
 rw[if_neg (by simp[h])]
 unfold tokOk at h
 split
 ·rename_i h7
  rw[if_neg (by omega),if_pos h7]at h
  simp only[Bool.and_eq_true,within_iff]at h
  omega
 ·split <;> omega
def endL:List TTok→Nat→Nat→Option Nat
 | _,p,0=>some p
 | [],_,_+1=>none
 | t::l,p,n+1=>if tokOk t=true then endL l (p+1) (n+ar t)else none
def endI (o:Option Nat):Int:=match o with|some e=>e|none=> -1
def exprEnd (l:List TTok)(p:Int):Int:=if 0≤p then endI (endL (l.drop p.toNat) p.toNat 1)else -1
theorem endL_at {l:List TTok}{p n:Nat}{t:TTok}(h:l[p]?=some t):endL (l.drop p) p (n+1)=if tokOk t=true then endL (l.drop (p+1)) (p+1) (n+ar t)else none:=by
 rw[drop_at h,endL]
abbrev EndIx (l:List TTok)(R:Int):={q:Nat×Nat // q.1≤l.length∧q.2≤1+4 * q.1∧endI (endL (l.drop q.1) q.1 q.2)=R}
def toksShort (l:List TTok):Prop:=∀t∈l,t.fName.length≤1099511627775
theorem s_impl_ExprEnd (l:List TTok)(p:Int)(hl:l.length≤1048576)(hn:toksShort l):Sim.Spec Tryz.prog 190 [tvL 3 (l.map TTok.tr),tvI p] (rI (exprEnd l p)):=by
 refine spec_of_W hΓ hmix Tryz.func190 rfl (by decide) rfl ?_
 have hlen:(l.map TTok.tr).length=l.length:=by simp
 have hw:IntKind.i64.wrap (((l.map TTok.tr).length:Int) - 1)=(l.length:Int) - 1:=by rw[IntWalk.i64_in _ (by omega)];omega
 by_cases hin:0≤p∧p < l.length
 ·have hb:=s_impl_between p 0 (IntKind.i64.wrap (((l.map TTok.tr).length:Int) - 1))
  rw[within_iff.2 ⟨hin.1,by rw[hw];omega⟩]at hb
  obtain⟨p,rfl⟩:=Int.eq_ofNat_of_zero_le hin.1
  obtain⟨R,hR⟩:∃R,exprEnd l (p:Int)=R:=⟨_,rfl⟩
  rw[hR]
  rw[exprEnd,if_pos hin.1,Int.toNat_natCast]at hR
  repeat' ((conv=>whnf);first|refine Or.inl ?_|apply oi|(apply fi<;>intro h)|refine ci hb (ai rfl (ai rfl (ai rfl trivial))) ?_|refine⟨_,rfl,?_⟩|((with_reducible show _=_);rfl))
  all_goals try((with_reducible refine Obl.mk ?_);exact KO)
  conv=>whnf
  refine⟨EndIx l R,fun q=>⟨[(0,.r (.c (.t (.lst 3 (l.map TTok.tr))))),(1,tI .i64 (q.1.1:Int)),(5,tI .i64 (q.1.2:Int))],[],[]⟩,fun q=>l.length - q.1.1,⟨(p,1),by omega,by omega,hR⟩,?_,?_⟩
  ·skip
   repeat' ((conv=>whnf);first|refine Or.inl ?_|apply oi|(apply fi<;>intro h)|refine⟨_,rfl,?_⟩|((with_reducible show _=_);rfl))
   all_goals try((with_reducible refine Obl.mk ?_);exact KO)
  intro⟨⟨a,n⟩,ha,hn4,hr⟩
  dsimp only at ha hn4 hr ⊢
  cases n with
  | zero=>
   have:R=(a:Int):=by
    rw[←hr]
    cases l.drop a <;> rfl
   subst this
   repeat' ((conv=>whnf);first|refine Or.inl ?_|apply oi|(apply fi<;>intro h)|refine⟨_,rfl,?_⟩|((with_reducible show _=_);rfl))
   all_goals try((with_reducible refine Obl.mk ?_);exact KO)
   all_goals try exact KX
  | succ n=>
   by_cases hlt:a < l.length
   ·obtain⟨t,ht⟩:=get_of_lt hlt
    rw[endL_at ht]at hr
    have hT:=s_impl_TokOk t (hn t (List.mem_of_getElem? ht))
    have hA:=s_impl_Arity t (hn t (List.mem_of_getElem? ht))
    cases hok:tokOk t with
    | false=>
     rw[hok]at hT
     rw[if_neg (by simp[hok])]at hr
     subst hr
     repeat' ((conv=>whnf);first|refine Or.inl ?_|apply oi|(apply fi<;>intro h)|refine⟨a,t.tr,rfl,map_get ht,?_⟩|refine ci hT (ai (ai rfl (ai rfl (ai rfl trivial))) trivial) ?_|refine⟨_,rfl,?_⟩|((with_reducible show _=_);rfl))
     all_goals try((with_reducible refine Obl.mk ?_);exact KO)
     all_goals try exact KX
    | true=>
     obtain⟨e1,e2⟩:=ar_eq hok
     rw[e1]at hA
     rw[hok]at hT
     rw[if_pos hok]at hr
     repeat' ((conv=>whnf);first|refine Or.inl ?_|apply oi|(apply fi<;>intro h)|refine⟨a,t.tr,rfl,map_get ht,?_⟩|refine ci hT (ai (ai rfl (ai rfl (ai rfl trivial))) trivial) ?_|refine ci hA (ai (ai rfl (ai rfl (ai rfl trivial))) trivial) ?_|refine⟨_,rfl,?_⟩|((with_reducible show _=_);rfl))
     all_goals try((with_reducible refine Obl.mk ?_);exact KO)
     all_goals try exact KX
     conv=>whnf
     refine⟨⟨(a+1,n+ar t),by dsimp only;omega,by dsimp only;omega,hr⟩,?_,by dsimp only;omega⟩
     repeat' ((conv=>whnf);first|refine Or.inl ?_|apply oi|(apply fi<;>intro h)|refine⟨_,rfl,?_⟩|((with_reducible show _=_);rfl))
     all_goals try((with_reducible refine Obl.mk ?_);exact KO)
     all_goals try exact⟨K4⟩
     all_goals try exact⟨by dsimp only;congr 1;rw[IntWalk.i64_in _ (by omega)];omega⟩
     all_goals exact⟨congrArg (Tr.int _) (by dsimp only;simp(disch:=omega)only[IntWalk.i64_in];omega)⟩
   ·rw[List.drop_eq_nil_of_le (by omega),endL]at hr
    subst hr
    repeat' ((conv=>whnf);first|refine Or.inl ?_|apply oi|(apply fi<;>intro h)|refine⟨_,rfl,?_⟩|((with_reducible show _=_);rfl))
    all_goals try((with_reducible refine Obl.mk ?_);exact KO)
    all_goals try exact KX
 ·have hb:=s_impl_between p 0 (IntKind.i64.wrap (((l.map TTok.tr).length:Int) - 1))
  have hf:within p 0 (IntKind.i64.wrap (((l.map TTok.tr).length:Int) - 1))=false:=by
   cases hx:within p 0 (IntKind.i64.wrap (((l.map TTok.tr).length:Int) - 1))with
   | false=>rfl
   | true=>have:=within_iff.1 hx;rw[hw]at this;exact absurd ⟨this.1,by omega⟩ hin
  rw[hf]at hb
  have he:exprEnd l p= -1:=by
   unfold exprEnd
   split
   ·rw[List.drop_eq_nil_of_le (by omega)];rfl
   ·rfl
  rw[he]
  repeat' ((conv=>whnf);first|refine Or.inl ?_|apply oi|(apply fi<;>intro h)|refine ci hb (ai rfl (ai rfl (ai rfl trivial))) ?_|refine⟨_,rfl,?_⟩|((with_reducible show _=_);rfl))
  all_goals try((with_reducible refine Obl.mk ?_);exact KO)
  all_goals(exfalso;simp at h;done)
theorem s_spec_ExprEnd (l:List TTok)(p:Int)(hl:l.length≤1048576)(hn:toksShort l):Sim.Spec Tryz.prog 182 [tvL 3 (l.map TTok.tr),tvI p] (rI (exprEnd l p)):=by
 refine spec_of_W hΓ hmix Tryz.func182 rfl (by decide) rfl ?_
 have hlen:(l.map TTok.tr).length=l.length:=by simp
 by_cases h0:0≤p
 ·obtain⟨p,rfl⟩:=Int.eq_ofNat_of_zero_le h0
  obtain⟨R,hR⟩:∃R,exprEnd l (p:Int)=R:=⟨_,rfl⟩
  rw[hR]
  rw[exprEnd,if_pos h0,Int.toNat_natCast]at hR
  by_cases hlp:p≤l.length
  ·skip
   repeat' ((conv=>whnf);first|refine Or.inl ?_|apply oi|(apply fi<;>intro h)|refine⟨_,rfl,?_⟩|((with_reducible show _=_);rfl))
   all_goals try((with_reducible refine Obl.mk ?_);exact KO)
   all_goals try exact KX
   conv=>whnf
   refine⟨EndIx l R,fun q=>⟨[(0,.r (.c (.t (.lst 3 (l.map TTok.tr))))),(1,tI .i64 (q.1.1:Int)),(5,tI .i64 (q.1.2:Int))],[],[]⟩,fun q=>l.length - q.1.1,⟨(p,1),by omega,by omega,hR⟩,?_,?_⟩
   ·skip
    repeat' ((conv=>whnf);first|refine Or.inl ?_|apply oi|(apply fi<;>intro h)|refine⟨_,rfl,?_⟩|((with_reducible show _=_);rfl))
    all_goals try((with_reducible refine Obl.mk ?_);exact KO)
   intro⟨⟨a,n⟩,ha,hn4,hr⟩
   dsimp only at ha hn4 hr ⊢
   cases n with
   | zero=>
    have:R=(a:Int):=by
     rw[←hr]
     cases l.drop a <;> rfl
    subst this
    repeat' ((conv=>whnf);first|refine Or.inl ?_|apply oi|(apply fi<;>intro h)|refine⟨_,rfl,?_⟩|((with_reducible show _=_);rfl))
    all_goals try((with_reducible refine Obl.mk ?_);exact KO)
    all_goals try exact KX
   | succ n=>
    by_cases hlt:a < l.length
    ·obtain⟨t,ht⟩:=get_of_lt hlt
     rw[endL_at ht]at hr
     have hT:=s_spec_TokOk t (hn t (List.mem_of_getElem? ht))
     have hA:=s_spec_Arity t (hn t (List.mem_of_getElem? ht))
     cases hok:tokOk t with
     | false=>
      rw[hok]at hT
      rw[if_neg (by simp[hok])]at hr
      subst hr
      repeat' ((conv=>whnf);first|refine Or.inl ?_|apply oi|(apply fi<;>intro h)|refine⟨a,t.tr,rfl,map_get ht,?_⟩|refine ci hT (ai (ai rfl (ai rfl (ai rfl trivial))) trivial) ?_|refine⟨_,rfl,?_⟩|((with_reducible show _=_);rfl))
      all_goals try((with_reducible refine Obl.mk ?_);exact KO)
      all_goals try exact KX
     | true=>
      obtain⟨e1,e2⟩:=ar_eq hok
      rw[e1]at hA
      rw[hok]at hT
      rw[if_pos hok]at hr
      repeat' ((conv=>whnf);first|refine Or.inl ?_|apply oi|(apply fi<;>intro h)|refine⟨a,t.tr,rfl,map_get ht,?_⟩|refine ci hT (ai (ai rfl (ai rfl (ai rfl trivial))) trivial) ?_|refine ci hA (ai (ai rfl (ai rfl (ai rfl trivial))) trivial) ?_|refine⟨_,rfl,?_⟩|((with_reducible show _=_);rfl))
      all_goals try((with_reducible refine Obl.mk ?_);exact KO)
      all_goals try exact KX
      conv=>whnf
      refine⟨⟨(a+1,n+ar t),by dsimp only;omega,by dsimp only;omega,hr⟩,?_,by dsimp only;omega⟩
      repeat' ((conv=>whnf);first|refine Or.inl ?_|apply oi|(apply fi<;>intro h)|refine⟨_,rfl,?_⟩|((with_reducible show _=_);rfl))
      all_goals try((with_reducible refine Obl.mk ?_);exact KO)
      all_goals try exact⟨K4⟩
      all_goals try exact⟨by dsimp only;congr 1;rw[IntWalk.i64_in _ (by omega)];omega⟩
      all_goals exact⟨congrArg (Tr.int _) (by dsimp only;simp(disch:=omega)only[IntWalk.i64_in];omega)⟩
    ·rw[List.drop_eq_nil_of_le (by omega),endL]at hr
     subst hr
     repeat' ((conv=>whnf);first|refine Or.inl ?_|apply oi|(apply fi<;>intro h)|refine⟨_,rfl,?_⟩|((with_reducible show _=_);rfl))
     all_goals try((with_reducible refine Obl.mk ?_);exact KO)
     all_goals try exact KX
  ·rw[List.drop_eq_nil_of_le (by omega),endL]at hR
   subst hR
   repeat' ((conv=>whnf);first|refine Or.inl ?_|apply oi|(apply fi<;>intro h)|refine⟨_,rfl,?_⟩|((with_reducible show _=_);rfl))
   all_goals try((with_reducible refine Obl.mk ?_);exact KO)
   all_goals try exact KX
   conv=>whnf
   refine⟨Unit,fun q=>⟨[(0,.r (.c (.t (.lst 3 (l.map TTok.tr))))),(1,tI .i64 (p:Int)),(5,tI .i64 1)],[],[]⟩,fun q=>0,(),?_,?_⟩
   ·skip
    repeat' ((conv=>whnf);first|refine Or.inl ?_|apply oi|(apply fi<;>intro h)|refine⟨_,rfl,?_⟩|((with_reducible show _=_);rfl))
    all_goals try((with_reducible refine Obl.mk ?_);exact KO)
   intro q
   repeat' ((conv=>whnf);first|refine Or.inl ?_|apply oi|(apply fi<;>intro h)|refine⟨_,rfl,?_⟩|((with_reducible show _=_);rfl))
   all_goals try((with_reducible refine Obl.mk ?_);exact KO)
   all_goals try exact KX
 ·have he:exprEnd l p= -1:=by rw[exprEnd,if_neg h0]
  rw[he]
  repeat' ((conv=>whnf);first|refine Or.inl ?_|apply oi|(apply fi<;>intro h)|refine⟨_,rfl,?_⟩|((with_reducible show _=_);rfl))
  all_goals try((with_reducible refine Obl.mk ?_);exact KO)
  all_goals try exact KX
def exprOk (l:List TTok):Bool:=decide (l.length≤20) && (decide (0 < l.length) && exprEnd l 0==(l.length:Int))
theorem s_impl_ExprOk (l:List TTok)(hl:l.length≤1048576)(hn:toksShort l):Sim.Spec Tryz.prog 155 [tvL 3 (l.map TTok.tr)] (rB (exprOk l)):=by
 refine spec_of_W hΓ hmix Tryz.func155 rfl (by decide) rfl ?_
 have hlen:(l.map TTok.tr).length=l.length:=by simp
 have hE:=s_impl_ExprEnd l 0 hl hn
 unfold exprOk
 generalize exprEnd l 0=e at *
 repeat' ((conv=>whnf);first|refine Or.inl ?_|apply oi|(apply fi<;>intro h)|refine ci hE (ai rfl (ai rfl trivial)) ?_|refine⟨_,rfl,?_⟩|((with_reducible show _=_);rfl))
 all_goals try((with_reducible refine Obl.mk ?_);exact KO)
 all_goals(refine⟨congrArg Tr.bool ?_⟩;simp_all;try omega)
theorem s_spec_ExprOk (l:List TTok)(hl:l.length≤1048576)(hn:toksShort l):Sim.Spec Tryz.prog 140 [tvL 3 (l.map TTok.tr)] (rB (exprOk l)):=by
 refine spec_of_W hΓ hmix Tryz.func140 rfl (by decide) rfl ?_
 have hlen:(l.map TTok.tr).length=l.length:=by simp
 have hE:=s_spec_ExprEnd l 0 hl hn
 unfold exprOk
 generalize exprEnd l 0=e at *
 repeat' ((conv=>whnf);first|refine Or.inl ?_|apply oi|(apply fi<;>intro h)|refine ci hE (ai rfl (ai rfl trivial)) ?_|refine⟨_,rfl,?_⟩|((with_reducible show _=_);rfl))
 all_goals try((with_reducible refine Obl.mk ?_);exact KO)
 all_goals(refine⟨congrArg Tr.bool ?_⟩;simp_all;try omega)
end Go.Proofs.YtogdbgmiigfmfaaGreat
namespace Go.Proofs.YtogdbgmiigfmfaaGreat
open Go.Sim
set_option maxRecDepth 100000
set_option maxHeartbeats 4000000
def idxN {α:Type}[BEq α]:List α→Nat→α→Option Nat
 | [],_,_=>none
 | x::l,i,s=>if(x==s)=true then some i else idxN l (i+1) s
theorem idxN_at {α:Type}[BEq α]{l:List α}{i:Nat}{x s:α}(hx:l[i]?=some x):idxN (l.drop i) i s=if(x==s)=true then some i else idxN (l.drop (i+1)) (i+1) s:=by
 rw[drop_at hx,idxN]
theorem idxN_some {α:Type}[BEq α]:∀{l:List α} {i k:Nat} {s:α},idxN l i s=some k→i≤k∧k < i+l.length
 | [],_,_,_,h=>by rw[idxN]at h;cases h
 | x::l,i,k,s,h=>by
  rw[idxN]at h
  simp only[List.length_cons]
  split at h
  ·injection h with h;omega
  ·have:=idxN_some h;omega
theorem idxN_has {α:Type}[BEq α][LawfulBEq α]:∀{l:List α} {i:Nat} {s:α},(idxN l i s).isSome=l.contains s
 | [],_,_=>rfl
 | x::l,i,s=>by
  rw[idxN,List.contains_cons]
  cases h:(x==s)with
  | true=>rw[if_pos rfl];simp[eq_of_beq h]
  | false=>
   have h2:(s==x)=false:=by rw[beq_eq_false_iff_ne]at h ⊢;exact fun e=>h e.symm
   rw[if_neg (by simp),h2,Bool.false_or]
   exact idxN_has
def idxOf {α:Type}[BEq α](l:List α)(s:α):Int:=endI (idxN l 0 s)
theorem idxOf_has {α:Type}[BEq α][LawfulBEq α]{l:List α}{s:α}:decide (0≤idxOf l s)=l.contains s:=by
 rw[←idxN_has (i:=0),idxOf]
 cases idxN l 0 s with
 | none=>rfl
 | some k=>simp[endI]
theorem s_slices_IndexS (l:List (List UInt8))(s:List UInt8)(hl:l.length≤4194304):Sim.Spec Tryz.prog 164 [tvL 1 (l.map strRow),tvS s] (rI (idxOf l s)):=by
 refine spec_of_W hΓ hmix Tryz.func164 rfl (by decide) rfl ?_
 have hlen:(l.map strRow).length=l.length:=by simp
 obtain⟨R,hR⟩:∃R,idxOf l s=R:=⟨_,rfl⟩
 rw[hR]
 repeat' ((conv=>whnf);first|refine Or.inl ?_|apply oi|(apply fi<;>intro h)|refine⟨_,rfl,?_⟩|((with_reducible show _=_);rfl))
 all_goals try((with_reducible refine Obl.mk ?_);exact KO)
 conv=>whnf
 refine⟨{k:Nat // k≤l.length∧endI (idxN (l.drop k) k s)=R},fun k=>⟨[(0,.r (.c (.t (.lst 1 (l.map strRow))))),(1,tS s),(6,.r (.c (.t (.lst 1 (l.map strRow))))),(7,tI .i64 ((l.map strRow).length:Int)),(8,tI .i64 (k.1:Int))],[],[]⟩,fun k=>l.length - k.1,⟨0,by omega,hR⟩,?_,?_⟩
 ·skip
  repeat' ((conv=>whnf);first|refine Or.inl ?_|apply oi|(apply fi<;>intro h)|refine⟨_,rfl,?_⟩|((with_reducible show _=_);rfl))
  all_goals try((with_reducible refine Obl.mk ?_);exact KO)
 intro⟨k,hk,hr⟩
 dsimp only at hk hr ⊢
 by_cases hlt:k < l.length
 ·obtain⟨x,hx⟩:=get_of_lt hlt
  rw[idxN_at hx]at hr
  cases he:(x==s)with
  | true=>
   rw[he,if_pos rfl]at hr
   have he2:=eq_of_beq he
   subst he2
   subst hr
   repeat' ((conv=>whnf);first|refine Or.inl ?_|apply oi|(apply fi<;>intro h)|refine⟨k,(strRow x),rfl,map_get hx,?_⟩|refine⟨_,rfl,?_⟩|((with_reducible show _=_);rfl))
   all_goals try((with_reducible refine Obl.mk ?_);exact KO)
   all_goals try exact KX
   all_goals try(exfalso;(try simp_all[within]);(try omega);done)
  | false=>
   rw[he,if_neg (by simp)]at hr
   repeat' ((conv=>whnf);first|refine Or.inl ?_|apply oi|(apply fi<;>intro h)|refine⟨k,(strRow x),rfl,map_get hx,?_⟩|refine⟨_,rfl,?_⟩|((with_reducible show _=_);rfl))
   all_goals try((with_reducible refine Obl.mk ?_);exact KO)
   all_goals try exact KX
   all_goals try(exfalso;(try simp_all[within]);(try omega);done)
   conv=>whnf
   refine⟨⟨k+1,by omega,hr⟩,?_,by dsimp only;omega⟩
   repeat' ((conv=>whnf);first|refine Or.inl ?_|apply oi|(apply fi<;>intro h)|refine⟨_,rfl,?_⟩|((with_reducible show _=_);rfl))
   all_goals try((with_reducible refine Obl.mk ?_);exact KO)
   all_goals try exact⟨K4⟩
 ·rw[List.drop_eq_nil_of_le (by omega),idxN]at hr
  subst hr
  repeat' ((conv=>whnf);first|refine Or.inl ?_|apply oi|(apply fi<;>intro h)|refine⟨_,rfl,?_⟩|((with_reducible show _=_);rfl))
  all_goals try((with_reducible refine Obl.mk ?_);exact KO)
  all_goals try exact KX
theorem s_slices_ContainsS (l:List (List UInt8))(s:List UInt8)(hl:l.length≤4194304):Sim.Spec Tryz.prog 160 [tvL 1 (l.map strRow),tvS s] (rB (l.contains s)):=by
 refine spec_of_W hΓ hmix Tryz.func160 rfl (by decide) rfl ?_
 have hI:=s_slices_IndexS l s hl
 rw[←idxOf_has]
 generalize idxOf l s=e at *
 repeat' ((conv=>whnf);first|refine Or.inl ?_|apply oi|(apply fi<;>intro h)|refine ci hI (ai rfl (ai rfl trivial)) ?_|refine⟨_,rfl,?_⟩|((with_reducible show _=_);rfl))
 all_goals try((with_reducible refine Obl.mk ?_);exact KO)
theorem s_slices_IndexI (l:List Int)(s:Int)(hl:l.length≤4194304):Sim.Spec Tryz.prog 158 [tvL 1 (l.map intRow),tvI s] (rI (idxOf l s)):=by
 refine spec_of_W hΓ hmix Tryz.func158 rfl (by decide) rfl ?_
 have hlen:(l.map intRow).length=l.length:=by simp
 obtain⟨R,hR⟩:∃R,idxOf l s=R:=⟨_,rfl⟩
 rw[hR]
 repeat' ((conv=>whnf);first|refine Or.inl ?_|apply oi|(apply fi<;>intro h)|refine⟨_,rfl,?_⟩|((with_reducible show _=_);rfl))
 all_goals try((with_reducible refine Obl.mk ?_);exact KO)
 conv=>whnf
 refine⟨{k:Nat // k≤l.length∧endI (idxN (l.drop k) k s)=R},fun k=>⟨[(0,.r (.c (.t (.lst 1 (l.map intRow))))),(1,tI .i64 s),(6,.r (.c (.t (.lst 1 (l.map intRow))))),(7,tI .i64 ((l.map intRow).length:Int)),(8,tI .i64 (k.1:Int))],[],[]⟩,fun k=>l.length - k.1,⟨0,by omega,hR⟩,?_,?_⟩
 ·skip
  repeat' ((conv=>whnf);first|refine Or.inl ?_|apply oi|(apply fi<;>intro h)|refine⟨_,rfl,?_⟩|((with_reducible show _=_);rfl))
  all_goals try((with_reducible refine Obl.mk ?_);exact KO)
 intro⟨k,hk,hr⟩
 dsimp only at hk hr ⊢
 by_cases hlt:k < l.length
 ·obtain⟨x,hx⟩:=get_of_lt hlt
  rw[idxN_at hx]at hr
  cases he:(x==s)with
  | true=>
   rw[he,if_pos rfl]at hr
   have he2:=eq_of_beq he
   subst he2
   subst hr
   repeat' ((conv=>whnf);first|refine Or.inl ?_|apply oi|(apply fi<;>intro h)|refine⟨k,(intRow x),rfl,map_get hx,?_⟩|refine⟨_,rfl,?_⟩|((with_reducible show _=_);rfl))
   all_goals try((with_reducible refine Obl.mk ?_);exact KO)
   all_goals try exact KX
   all_goals try(exfalso;(try simp_all[within]);(try omega);done)
  | false=>
   rw[he,if_neg (by simp)]at hr
   repeat' ((conv=>whnf);first|refine Or.inl ?_|apply oi|(apply fi<;>intro h)|refine⟨k,(intRow x),rfl,map_get hx,?_⟩|refine⟨_,rfl,?_⟩|((with_reducible show _=_);rfl))
   all_goals try((with_reducible refine Obl.mk ?_);exact KO)
   all_goals try exact KX
   all_goals try(exfalso;(try simp_all[within]);(try omega);done)
   conv=>whnf
   refine⟨⟨k+1,by omega,hr⟩,?_,by dsimp only;omega⟩
   repeat' ((conv=>whnf);first|refine Or.inl ?_|apply oi|(apply fi<;>intro h)|refine⟨_,rfl,?_⟩|((with_reducible show _=_);rfl))
   all_goals try((with_reducible refine Obl.mk ?_);exact KO)
   all_goals try exact⟨K4⟩
 ·rw[List.drop_eq_nil_of_le (by omega),idxN]at hr
  subst hr
  repeat' ((conv=>whnf);first|refine Or.inl ?_|apply oi|(apply fi<;>intro h)|refine⟨_,rfl,?_⟩|((with_reducible show _=_);rfl))
  all_goals try((with_reducible refine Obl.mk ?_);exact KO)
  all_goals try exact KX
theorem s_slices_ContainsI (l:List Int)(s:Int)(hl:l.length≤4194304):Sim.Spec Tryz.prog 103 [tvL 1 (l.map intRow),tvI s] (rB (l.contains s)):=by
 refine spec_of_W hΓ hmix Tryz.func103 rfl (by decide) rfl ?_
 have hI:=s_slices_IndexI l s hl
 rw[←idxOf_has]
 generalize idxOf l s=e at *
 repeat' ((conv=>whnf);first|refine Or.inl ?_|apply oi|(apply fi<;>intro h)|refine ci hI (ai rfl (ai rfl trivial)) ?_|refine⟨_,rfl,?_⟩|((with_reducible show _=_);rfl))
 all_goals try((with_reducible refine Obl.mk ?_);exact KO)
def argN (l:List (List UInt8)):Nat→Nat→Bool
 | 0,_=>true
 | n+1,k=>match l[k]? with
  | some s=>if nameOk s=true∧(l.take k).contains s=false then argN l n (k+1)else false
  | none=>true
theorem argN_step {l:List (List UInt8)}{k:Nat}{s:List UInt8}(hx:l[k]?=some s):argN l (l.length - k) k=if nameOk s=true∧(l.take k).contains s=false then argN l (l.length - (k+1)) (k+1)else false:=by
 have hk:k < l.length:=by
  rcases Nat.lt_or_ge k l.length with h|h
  ·exact h
  ·rw[List.getElem?_eq_none h]at hx;cases hx
 rw[show l.length - k=(l.length - (k+1))+1 by omega,argN,hx]
def areArgs (l:List (List UInt8)):Bool:=argN l l.length 0 && decide (l.length≤4)
theorem s_impl_areArgs (l:List (List UInt8))(hl:l.length≤1048576)(hn:∀x∈l,x.length≤1099511627775):Sim.Spec Tryz.prog 153 [tvL 1 (l.map strRow)] (rB (areArgs l)):=by
 refine spec_of_W hΓ hmix Tryz.func153 rfl (by decide) rfl ?_
 have hlen:(l.map strRow).length=l.length:=by simp
 obtain⟨R,hR⟩:∃R,areArgs l=R:=⟨_,rfl⟩
 rw[hR]
 repeat' ((conv=>whnf);first|refine Or.inl ?_|apply oi|(apply fi<;>intro h)|refine⟨_,rfl,?_⟩|((with_reducible show _=_);rfl))
 all_goals try((with_reducible refine Obl.mk ?_);exact KO)
 conv=>whnf
 refine⟨{k:Nat // k≤l.length∧(argN l (l.length - k) k && decide (l.length≤4))=R},fun k=>⟨[(0,.r (.c (.t (.lst 1 (l.map strRow))))),(5,.r (.c (.t (.lst 1 (l.map strRow))))),(6,tI .i64 ((l.map strRow).length:Int)),(7,tI .i64 (k.1:Int))],[],[]⟩,fun k=>l.length - k.1,⟨0,by omega,by rw[Nat.sub_zero];exact hR⟩,?_,?_⟩
 ·skip
  repeat' ((conv=>whnf);first|refine Or.inl ?_|apply oi|(apply fi<;>intro h)|refine⟨_,rfl,?_⟩|((with_reducible show _=_);rfl))
  all_goals try((with_reducible refine Obl.mk ?_);exact KO)
 intro⟨k,hk,hr⟩
 dsimp only at hk hr ⊢
 by_cases hlt:k < l.length
 ·obtain⟨s,hs⟩:=get_of_lt hlt
  rw[argN_step hs]at hr
  have hN:=s_impl_NameOk s (hn s (List.mem_of_getElem? hs))
  have hC:=s_slices_ContainsS (l.take k) s (by simp;omega)
  cases hno:nameOk s with
  | false=>
   rw[hno]at hN hr
   rw[if_neg (by simp),Bool.false_and]at hr
   subst hr
   repeat' ((conv=>whnf);first|refine Or.inl ?_|apply oi|(apply fi<;>intro h)|refine⟨k,(strRow s),rfl,map_get hs,?_⟩|refine ci hN (ai rfl trivial) ?_|refine⟨_,rfl,?_⟩|((with_reducible show _=_);rfl))
   all_goals try((with_reducible refine Obl.mk ?_);exact KO)
   all_goals try exact KX
   all_goals try(exfalso;(try simp_all[within]);(try omega);done)
  | true=>
   rw[hno]at hN hr
   cases hco:(l.take k).contains s with
   | true=>
    rw[hco]at hC hr
    rw[if_neg (by simp),Bool.false_and]at hr
    subst hr
    rw[List.map_take]at hC
    repeat' ((conv=>whnf);first|refine Or.inl ?_|apply oi|(apply fi<;>intro h)|refine⟨k,(strRow s),rfl,map_get hs,?_⟩|refine ci hN (ai rfl trivial) ?_|refine⟨_,rfl,?_⟩|((with_reducible show _=_);rfl))
    all_goals try((with_reducible refine Obl.mk ?_);exact KO)
    all_goals try exact KX
    all_goals try(exfalso;(try simp_all[within]);(try omega);done)
    conv=>whnf
    refine⟨0,k,rfl,rfl,by omega,by omega,?_⟩
    repeat' ((conv=>whnf);first|refine Or.inl ?_|apply oi|(apply fi<;>intro h)|refine ci hC (ai rfl (ai rfl trivial)) ?_|refine⟨_,rfl,?_⟩|((with_reducible show _=_);rfl))
    all_goals try((with_reducible refine Obl.mk ?_);exact KO)
   | false=>
    rw[hco]at hC hr
    rw[if_pos ⟨rfl,rfl⟩]at hr
    rw[List.map_take]at hC
    repeat' ((conv=>whnf);first|refine Or.inl ?_|apply oi|(apply fi<;>intro h)|refine⟨k,(strRow s),rfl,map_get hs,?_⟩|refine ci hN (ai rfl trivial) ?_|refine⟨_,rfl,?_⟩|((with_reducible show _=_);rfl))
    all_goals try((with_reducible refine Obl.mk ?_);exact KO)
    all_goals try exact KX
    all_goals try(exfalso;(try simp_all[within]);(try omega);done)
    conv=>whnf
    refine⟨0,k,rfl,rfl,by omega,by omega,?_⟩
    repeat' ((conv=>whnf);first|refine Or.inl ?_|apply oi|(apply fi<;>intro h)|refine ci hC (ai rfl (ai rfl trivial)) ?_|refine⟨_,rfl,?_⟩|((with_reducible show _=_);rfl))
    all_goals try((with_reducible refine Obl.mk ?_);exact KO)
    all_goals try exact KX
    all_goals try(exfalso;(try simp_all[within]);(try omega);done)
    conv=>whnf
    refine⟨⟨k+1,by omega,hr⟩,?_,by dsimp only;omega⟩
    repeat' ((conv=>whnf);first|refine Or.inl ?_|apply oi|(apply fi<;>intro h)|refine⟨_,rfl,?_⟩|((with_reducible show _=_);rfl))
    all_goals try((with_reducible refine Obl.mk ?_);exact KO)
    all_goals try exact⟨K4⟩
 ·rw[show l.length - k=0 by omega,argN,Bool.true_and]at hr
  subst hr
  repeat' ((conv=>whnf);first|refine Or.inl ?_|apply oi|(apply fi<;>intro h)|refine⟨_,rfl,?_⟩|((with_reducible show _=_);rfl))
  all_goals try((with_reducible refine Obl.mk ?_);exact KO)
  all_goals try exact KX
  all_goals exact⟨congrArg Tr.bool (decide_eq_decide.2 (by rw[hlen];omega))⟩
def hasExpr (k:Int):Bool:=k==1 || (k==2 || (k==3 || (k==5 || k==6)))
theorem s_impl_hasExpr (k:Int):Sim.Spec Tryz.prog 154 [tvI k] (rB (hasExpr k)):=by
 refine spec_of_W hΓ hmix Tryz.func154 rfl (by decide) rfl ?_
 unfold hasExpr
 repeat' ((conv=>whnf);first|refine Or.inl ?_|apply oi|(apply fi<;>intro h)|refine⟨_,rfl,?_⟩|((with_reducible show _=_);rfl))
 all_goals try((with_reducible refine Obl.mk ?_);exact KO)
 all_goals(refine⟨congrArg Tr.bool ?_⟩;simp_all;(try(rw[Bool.eq_iff_iff];simp;omega)))
theorem s_spec_l03HasExpr (k:Int)(hk:within k 0 7=true):Sim.Spec Tryz.prog 139 [tvI k] (rB (hasExpr k)):=by
 refine spec_of_W hΓ hmix Tryz.func139 rfl (by decide) rfl ?_
 have:=within_iff.1 hk
 unfold hasExpr
 repeat' ((conv=>whnf);first|refine Or.inl ?_|apply oi|(apply fi<;>intro h)|refine⟨_,rfl,?_⟩|((with_reducible show _=_);rfl))
 all_goals try((with_reducible refine Obl.mk ?_);exact KO)
 all_goals(refine⟨congrArg Tr.bool ?_⟩;simp_all;(try(rw[Bool.eq_iff_iff];simp;done));(try(rw[Bool.eq_iff_iff];simp;omega)))
def lineOk (x:TLine):Bool:=within x.fKind 0 7 && ((if x.fKind=0∨x.fKind=1 then nameOk x.fName else x.fName==[]) && ((if x.fKind=0 then areArgs x.fArgs else x.fArgs.length==0) && (if hasExpr x.fKind=true then exprOk x.fExpr else x.fExpr.length==0)))
theorem line_small {x:TLine}(hs:smallR 1048576 x.tr):x.fName.length≤1048576∧x.fArgs.length≤1048576∧(∀y∈x.fArgs,y.length≤1048576)∧x.fExpr.length≤1048576∧(∀y∈x.fExpr,y.fName.length≤1048576):=by
 simp only[TLine.tr,smallR]at hs
 obtain⟨_,h1,h2,h3,_⟩:=hs
 have e1:=small_len h2
 have e2:=small_len h3
 refine⟨by rw[smallT]at h1;omega,by omega,fun y hy=>?_,by omega,fun y hy=>?_⟩
 ·have:=smallRs_map h2 hy
  simp only[strRow,smallR,smallT]at this
  omega
 ·have:=smallRs_map h3 hy
  simp only[TTok.tr,smallR,smallT]at this
  omega
theorem lineOk_kind {x:TLine}(h:within x.fKind 0 7=false):lineOk x=false:=by
 unfold lineOk;rw[h];rfl
theorem lineOk_args {x:TLine}(h:4 < x.fArgs.length):lineOk x=false:=by
 have h1:areArgs x.fArgs=false:=by unfold areArgs;rw[decide_eq_false (by omega),Bool.and_false]
 have h2:(x.fArgs.length==0)=false:=by rw[beq_eq_false_iff_ne];omega
 unfold lineOk
 rw[h1,h2]
 split <;> simp
theorem s_impl_LineOk (x:TLine)(hs:smallR 1048576 x.tr):Sim.Spec Tryz.prog 98 [.agg x.tr] (rB (lineOk x)):=by
 refine spec_of_W hΓ hmix Tryz.func98 rfl (by decide) rfl ?_
 obtain⟨h1,h2,h3,h4,h5⟩:=line_small hs
 have hB:=s_impl_between x.fKind 0 7
 have hN:=s_impl_NameOk x.fName (by omega)
 have hA:=s_impl_areArgs x.fArgs h2 (fun y hy=>by have:=h3 y hy;omega)
 have hH:=s_impl_hasExpr x.fKind
 have hE:=s_impl_ExprOk x.fExpr h4 (fun y hy=>by have:=h5 y hy;omega)
 unfold lineOk
 generalize within x.fKind 0 7=b1 at *
 generalize nameOk x.fName=b2 at *
 generalize areArgs x.fArgs=b3 at *
 generalize hasExpr x.fKind=b4 at *
 generalize exprOk x.fExpr=b5 at *
 have hl1:(x.fArgs.map strRow).length=x.fArgs.length:=by simp
 have hl2:(x.fExpr.map TTok.tr).length=x.fExpr.length:=by simp
 repeat' ((conv=>whnf);first|refine Or.inl ?_|apply oi|(apply fi<;>intro h)|refine ci hB (ai rfl (ai rfl (ai rfl trivial))) ?_|refine ci hN (ai rfl trivial) ?_|refine ci hA (ai rfl trivial) ?_|refine ci hH (ai rfl trivial) ?_|refine ci hE (ai rfl trivial) ?_|refine⟨_,rfl,?_⟩|((with_reducible show _=_);rfl))
 all_goals try((with_reducible refine Obl.mk ?_);exact KO)
 all_goals(refine⟨congrArg Tr.bool ?_⟩;simp_all;(try(rw[Bool.eq_iff_iff];simp;done));(try(rw[Bool.eq_iff_iff];simp;omega));(try(intro hh;exfalso;simp_all;done)))
theorem drop_has {l:List (List UInt8)}{k i:Nat}{y s:List UInt8}(hi:i < k)(hy:l[i]?=some y):((l.take k).drop i).contains s=(s==y || ((l.take k).drop (i+1)).contains s):=by
 rw[drop_at (x:=y) (by rw[List.getElem?_take,if_pos hi];exact hy),List.contains_cons]
theorem lineOk_0 {x:TLine}(hk:within x.fKind 0 7=true)(h0:x.fKind=0)(ha:x.fArgs.length≤4):lineOk x=(argN x.fArgs x.fArgs.length 0 && (nameOk x.fName && x.fExpr.length==0)):=by
 unfold lineOk areArgs
 rw[hk,if_pos (.inl h0),if_pos h0,if_neg (by rw[h0];decide),decide_eq_true ha]
 cases nameOk x.fName <;> cases argN x.fArgs x.fArgs.length 0 <;> simp
theorem lineOk_1 {x:TLine}(hk:within x.fKind 0 7=true)(h0:x.fKind≠0):lineOk x=(x.fArgs.length==0 && ((if x.fKind=1 then nameOk x.fName else x.fName==[]) && (if hasExpr x.fKind=true then exprOk x.fExpr else x.fExpr.length==0))):=by
 have e:(if x.fKind=0∨x.fKind=1 then nameOk x.fName else x.fName==[])=(if x.fKind=1 then nameOk x.fName else x.fName==[]):=by
  by_cases h1:x.fKind=1
  ·rw[if_pos (.inr h1),if_pos h1]
  ·rw[if_neg (by omega),if_neg h1]
 unfold lineOk
 rw[hk,if_neg h0,e,Bool.true_and]
 generalize(if x.fKind=1 then nameOk x.fName else x.fName==[])=a
 generalize(if hasExpr x.fKind=true then exprOk x.fExpr else x.fExpr.length==0)=b
 cases a <;> cases(x.fArgs.length==0) <;> simp
theorem natBeq0 (n:Nat):((n:Int)==0)=(n==0):=by rw[Bool.eq_iff_iff];simp
abbrev lBox (x:TLine):AO:= .box (x.tr.map .t)
theorem s_spec_LineOk (x:TLine)(hs:smallR 1048576 x.tr):Sim.Spec Tryz.prog 87 [.agg x.tr] (rB (lineOk x)):=by
 refine spec_of_W hΓ hmix Tryz.func87 rfl (by decide) rfl ?_
 obtain⟨h1,h2,h3,h4,h5⟩:=line_small hs
 have hB:=s_spec_l01In x.fKind 0 7
 have hN:=s_spec_NameOk x.fName (by omega)
 have hE:=s_spec_ExprOk x.fExpr h4 (fun y hy=>by have:=h5 y hy;omega)
 have hl1:(x.fArgs.map strRow).length=x.fArgs.length:=by simp
 have hl2:(x.fExpr.map TTok.tr).length=x.fExpr.length:=by simp
 cases hk:within x.fKind 0 7 with
 | false=>
  rw[hk]at hB
  rw[lineOk_kind hk]
  repeat' ((conv=>whnf);first|refine Or.inl ?_|apply oi|(apply fi<;>intro h)|refine ci hB (ai rfl (ai rfl (ai rfl trivial))) ?_|refine⟨_,rfl,?_⟩|((with_reducible show _=_);rfl))
  all_goals try((with_reducible refine Obl.mk ?_);exact KO)
  all_goals try exact KX
 | true=>
  rw[hk]at hB
  have hH:=s_spec_l03HasExpr x.fKind hk
  by_cases ha:x.fArgs.length≤4
  ·by_cases h0:x.fKind=0
   ·rw[lineOk_0 hk h0 ha]
    generalize nameOk x.fName=b2 at *
    generalize exprOk x.fExpr=b5 at *
    obtain⟨A,hA⟩:∃A,argN x.fArgs x.fArgs.length 0=A:=⟨_,rfl⟩
    rw[hA]
    have hh0:hasExpr x.fKind=false:=by rw[h0];rfl
    rw[hh0]at hH
    repeat' ((conv=>whnf);first|refine Or.inl ?_|apply oi|(apply fi<;>intro h)|refine ci hB (ai rfl (ai rfl (ai rfl trivial))) ?_|refine⟨_,rfl,?_⟩|((with_reducible show _=_);rfl))
    all_goals try((with_reducible refine Obl.mk ?_);exact KO)
    all_goals try exact KX
    conv=>whnf
    refine⟨{k:Nat // k≤x.fArgs.length∧argN x.fArgs (x.fArgs.length - k) k=A},fun q=>⟨[(1,.r (.c (.ptr (1,0,0) 0))),(3,tI .i64 (q.1:Int))],[((1,0,0),some (lBox x))],[1]⟩,fun q=>x.fArgs.length - q.1,⟨0,by omega,by rw[Nat.sub_zero];exact hA⟩,?_,?_⟩
    ·skip
     repeat' ((conv=>whnf);first|refine Or.inl ?_|apply oi|(apply fi<;>intro h)|refine⟨_,rfl,?_⟩|((with_reducible show _=_);rfl))
     all_goals try((with_reducible refine Obl.mk ?_);exact KO)
    intro⟨k,hkl,hr⟩
    dsimp only at hkl hr ⊢
    by_cases hlt:k < x.fArgs.length
    ·obtain⟨s,hsk⟩:=get_of_lt hlt
     rw[argN_step hsk]at hr
     have hN2:=s_spec_NameOk s (by have:=h3 s (List.mem_of_getElem? hsk);omega)
     cases hno:nameOk s with
     | false=>
      rw[hno]at hN2 hr
      rw[if_neg (by simp)]at hr
      subst hr
      repeat' ((conv=>whnf);first|refine Or.inl ?_|apply oi|(apply fi<;>intro h)|refine ci hN2 (ai rfl trivial) ?_|refine⟨k,(strRow s),rfl,map_get hsk,?_⟩|refine⟨_,rfl,?_⟩|((with_reducible show _=_);rfl))
      all_goals try((with_reducible refine Obl.mk ?_);exact KO)
      all_goals try exact KX
     | true=>
      rw[hno]at hN2 hr
      obtain⟨C,hC⟩:∃C,(x.fArgs.take k).contains s=C:=⟨_,rfl⟩
      rw[hC]at hr
      repeat' ((conv=>whnf);first|refine Or.inl ?_|apply oi|(apply fi<;>intro h)|refine ci hN2 (ai rfl trivial) ?_|refine⟨k,(strRow s),rfl,map_get hsk,?_⟩|refine⟨_,rfl,?_⟩|((with_reducible show _=_);rfl))
      all_goals try((with_reducible refine Obl.mk ?_);exact KO)
      all_goals try exact KX
      all_goals try(exfalso;(try simp_all[within]);(try omega);done)
      conv=>whnf
      refine⟨{i:Nat // i≤k∧((x.fArgs.take k).drop i).contains s=C},fun q=>⟨[(1,.r (.c (.ptr (1,0,0) 0))),(3,tI .i64 (k:Int)),(4,tI .i64 (q.1:Int))],[((1,0,0),some (lBox x))],[1]⟩,fun q=>k - q.1,⟨0,by omega,hC⟩,?_,?_⟩
      ·skip
       repeat' ((conv=>whnf);first|refine Or.inl ?_|apply oi|(apply fi<;>intro h)|refine⟨_,rfl,?_⟩|((with_reducible show _=_);rfl))
       all_goals try((with_reducible refine Obl.mk ?_);exact KO)
      intro⟨i,hik,hc⟩
      dsimp only at hik hc ⊢
      by_cases hil:i < k
      ·obtain⟨y,hy⟩:=get_of_lt (l:=x.fArgs) (k:=i) (by omega)
       rw[drop_has hil hy]at hc
       by_cases hys:s=y
       ·subst hys
        rw[beq_self_eq_true,Bool.true_or]at hc
        subst hc
        rw[if_neg (by simp)]at hr
        subst hr
        repeat' ((conv=>whnf);first|refine Or.inl ?_|apply oi|(apply fi<;>intro h)|refine⟨i,(strRow s),rfl,map_get hy,?_⟩|refine⟨k,(strRow s),rfl,map_get hsk,?_⟩|refine⟨_,rfl,?_⟩|((with_reducible show _=_);rfl))
        all_goals try((with_reducible refine Obl.mk ?_);exact KO)
        all_goals try exact KX
        all_goals try(exfalso;(try simp_all[within]);(try omega);done)
       ·rw[beq_eq_false_iff_ne.2 hys,Bool.false_or]at hc
        repeat' ((conv=>whnf);first|refine Or.inl ?_|apply oi|(apply fi<;>intro h)|refine⟨i,(strRow y),rfl,map_get hy,?_⟩|refine⟨k,(strRow s),rfl,map_get hsk,?_⟩|refine⟨_,rfl,?_⟩|((with_reducible show _=_);rfl))
        all_goals try((with_reducible refine Obl.mk ?_);exact KO)
        all_goals try exact KX
        all_goals try(exfalso;apply hys;simp_all;done)
        conv=>whnf
        refine⟨⟨i+1,by omega,hc⟩,?_,by dsimp only;omega⟩
        repeat' ((conv=>whnf);first|refine Or.inl ?_|apply oi|(apply fi<;>intro h)|refine⟨_,rfl,?_⟩|((with_reducible show _=_);rfl))
        all_goals try((with_reducible refine Obl.mk ?_);exact KO)
        all_goals try exact⟨K4⟩
      ·rw[List.drop_eq_nil_of_le (by simp;omega)]at hc
       have hc:false=C:=hc
       subst hc
       rw[if_pos ⟨rfl,rfl⟩]at hr
       repeat' ((conv=>whnf);first|refine Or.inl ?_|apply oi|(apply fi<;>intro h)|refine⟨_,rfl,?_⟩|((with_reducible show _=_);rfl))
       all_goals try((with_reducible refine Obl.mk ?_);exact KO)
       all_goals try exact KX
       conv=>whnf
       refine⟨⟨k+1,by omega,hr⟩,?_,by dsimp only;omega⟩
       repeat' ((conv=>whnf);first|refine Or.inl ?_|apply oi|(apply fi<;>intro h)|refine⟨_,rfl,?_⟩|((with_reducible show _=_);rfl))
       all_goals try((with_reducible refine Obl.mk ?_);exact KO)
       all_goals try exact⟨K4⟩
    ·rw[show x.fArgs.length - k=0 by omega]at hr
     have hr:true=A:=hr
     subst hr
     repeat' ((conv=>whnf);first|refine Or.inl ?_|apply oi|(apply fi<;>intro h)|refine ci hN (ai rfl trivial) ?_|refine ci hH (ai rfl trivial) ?_|refine ci hE (ai rfl trivial) ?_|refine⟨_,rfl,?_⟩|((with_reducible show _=_);rfl))
     all_goals try((with_reducible refine Obl.mk ?_);exact KO)
     all_goals try exact KX
     all_goals try(exfalso;(try simp_all[within]);(try omega);done)
     all_goals(refine⟨congrArg Tr.bool ?_⟩;simp_all;(try exact natBeq0 _))
   ·rw[lineOk_1 hk h0]
    generalize nameOk x.fName=b2 at *
    generalize exprOk x.fExpr=b5 at *
    generalize hasExpr x.fKind=b4 at *
    repeat' ((conv=>whnf);first|refine Or.inl ?_|apply oi|(apply fi<;>intro h)|refine ci hB (ai rfl (ai rfl (ai rfl trivial))) ?_|refine⟨_,rfl,?_⟩|((with_reducible show _=_);rfl))
    all_goals try((with_reducible refine Obl.mk ?_);exact KO)
    all_goals try exact KX
    conv=>whnf
    refine⟨Unit,fun q=>⟨[(1,.r (.c (.ptr (1,0,0) 0))),(3,tI .i64 0)],[((1,0,0),some (lBox x))],[1]⟩,fun q=>0,(),?_,?_⟩
    ·skip
     repeat' ((conv=>whnf);first|refine Or.inl ?_|apply oi|(apply fi<;>intro h)|refine⟨_,rfl,?_⟩|((with_reducible show _=_);rfl))
     all_goals try((with_reducible refine Obl.mk ?_);exact KO)
    intro q
    dsimp only
    by_cases hlt:0 < x.fArgs.length
    ·obtain⟨s,hsk⟩:=get_of_lt hlt
     have hN2:=s_spec_NameOk s (by have:=h3 s (List.mem_of_getElem? hsk);omega)
     rw[show(x.fArgs.length==0)=false by rw[beq_eq_false_iff_ne];omega]
     repeat' ((conv=>whnf);first|refine Or.inl ?_|apply oi|(apply fi<;>intro h)|refine ci hN2 (ai rfl trivial) ?_|refine⟨0,(strRow s),rfl,map_get hsk,?_⟩|refine⟨_,rfl,?_⟩|((with_reducible show _=_);rfl))
     all_goals try((with_reducible refine Obl.mk ?_);exact KO)
     all_goals try exact KX
     all_goals try(exfalso;(try simp_all[within]);(try omega);done)
     all_goals try(exfalso;simp_all;done)
    ·have hz:x.fArgs.length=0:=by omega
     rw[show(x.fArgs.length==0)=true by rw[hz];rfl]
     rw[hz]at hl1
     repeat' ((conv=>whnf);first|refine Or.inl ?_|apply oi|(apply fi<;>intro h)|refine ci hN (ai rfl trivial) ?_|refine ci hH (ai rfl trivial) ?_|refine ci hE (ai rfl trivial) ?_|refine⟨_,rfl,?_⟩|((with_reducible show _=_);rfl))
     all_goals try((with_reducible refine Obl.mk ?_);exact KO)
     all_goals try(exfalso;simp_all;done)
     all_goals(refine⟨congrArg Tr.bool ?_⟩;simp_all;(try exact natBeq0 _);(try(rw[Bool.eq_iff_iff];simp;omega)))
  ·rw[lineOk_args (by omega)]
   repeat' ((conv=>whnf);first|refine Or.inl ?_|apply oi|(apply fi<;>intro h)|refine ci hB (ai rfl (ai rfl (ai rfl trivial))) ?_|refine⟨_,rfl,?_⟩|((with_reducible show _=_);rfl))
   all_goals try((with_reducible refine Obl.mk ?_);exact KO)
   all_goals try exact KX
end Go.Proofs.YtogdbgmiigfmfaaGreat
namespace Go.Proofs.YtogdbgmiigfmfaaGreat
open Go.Sim
set_option maxRecDepth 100000
set_option maxHeartbeats 4000000
def opensK (k:Int):Bool:=k==0 || (k==3 || k==5)
theorem opensK_iff {k:Int}:opensK k=true↔k=0∨k=3∨k=5:=by simp[opensK]
def endN:List TLine→Nat→Nat→Option Nat
 | [],_,_=>none
 | x::l,i,o=>if opensK x.fKind=true then endN l (i+1) (o+1)else if x.fKind=7 then(if o=1 then some i else endN l (i+1) (o - 1))else endN l (i+1) o
def endAt (l:List TLine)(k:Nat):Option Nat:=match l[k]? with
 | some x=>if opensK x.fKind=true then endN (l.drop (k+1)) (k+1) 1 else none
 | none=>none
def endOf (l:List TLine)(k:Int):Int:=if 0≤k then endI (endAt l k.toNat)else -1
theorem endN_at {l:List TLine}{i o:Nat}{x:TLine}(h:l[i]?=some x):endN (l.drop i) i o=if opensK x.fKind=true then endN (l.drop (i+1)) (i+1) (o+1)else if x.fKind=7 then(if o=1 then some i else endN (l.drop (i+1)) (i+1) (o - 1))else endN (l.drop (i+1)) (i+1) o:=by
 rw[drop_at h,endN]
theorem endN_no {l:List TLine}{i o:Nat}(h:l.length≤i):endN (l.drop i) i o=none:=by
 rw[List.drop_eq_nil_of_le h,endN]
theorem endN_ge:∀{l:List TLine} {i o e:Nat},endN l i o=some e→i≤e∧e < i+l.length
 | [],_,_,_,h=>by rw[endN]at h;cases h
 | x::l,i,o,e,h=>by
  rw[endN]at h
  simp only[List.length_cons]
  split at h
  ·have:=endN_ge h;omega
  ·split at h
   ·split at h
    ·injection h with h;omega
    ·have:=endN_ge h;omega
   ·have:=endN_ge h;omega
theorem endN_lt {l:List TLine}{i o e:Nat}(h:endN (l.drop i) i o=some e):i≤e∧e < l.length:=by
 have:=endN_ge h
 rw[List.length_drop]at this
 omega
theorem endN_add:∀{l:List TLine} {i:Nat} (n:Nat) {a b:Nat},l.length - i≤n→1≤a→1≤b→endN (l.drop i) i (a+b)=(endN (l.drop i) i b).bind fun m=>endN (l.drop (m+1)) (m+1) a
 | l,i,0,a,b,hn,_,_=>by rw[endN_no (by omega),endN_no (by omega)];rfl
 | l,i,n+1,a,b,hn,ha,hb=>by
  by_cases hi:i < l.length
  ·obtain⟨x,hx⟩:=get_of_lt hi
   rw[endN_at hx,endN_at hx]
   split
   ·rw[show a+b+1=a+(b+1) by omega]
    exact endN_add n (by omega) ha (by omega)
   ·split
    ·rw[if_neg (by omega)]
     by_cases h1:b=1
     ·subst h1
      rw[if_pos rfl]
      rfl
     ·rw[if_neg h1,show a+b - 1=a+(b - 1) by omega]
      exact endN_add n (by omega) ha (by omega)
    ·exact endN_add n (by omega) ha hb
  ·rw[endN_no (by omega),endN_no (by omega)];rfl
theorem endN_kind:∀{l:List TLine} {i:Nat} (n:Nat) {o e:Nat},l.length - i≤n→endN (l.drop i) i o=some e→∃x,l[e]?=some x∧x.fKind=7
 | l,i,0,o,e,hn,h=>by rw[endN_no (by omega)]at h;cases h
 | l,i,n+1,o,e,hn,h=>by
  by_cases hi:i < l.length
  ·obtain⟨x,hx⟩:=get_of_lt hi
   rw[endN_at hx]at h
   split at h
   ·exact endN_kind n (by omega) h
   ·split at h
    ·split at h
     ·injection h with h
      subst h
      exact⟨x,hx,by assumption⟩
     ·exact endN_kind n (by omega) h
    ·exact endN_kind n (by omega) h
  ·rw[endN_no (by omega)]at h;cases h
theorem endAt_some {l:List TLine}{k e:Nat}(h:endAt l k=some e):∃x,l[k]?=some x∧opensK x.fKind=true∧endN (l.drop (k+1)) (k+1) 1=some e∧k < e∧e < l.length:=by
 unfold endAt at h
 split at h
 ·rename_i x hx
  split at h
  ·rename_i ho
   have:=endN_lt h
   exact⟨x,hx,ho,h,by omega,by omega⟩
  ·cases h
 ·cases h
theorem endAt_of {l:List TLine}{k:Nat}{x:TLine}(hx:l[k]?=some x)(ho:opensK x.fKind=true):endAt l k=endN (l.drop (k+1)) (k+1) 1:=by
 unfold endAt
 rw[hx]
 dsimp only
 rw[if_pos ho]
theorem endAt_kind {l:List TLine}{k e:Nat}(h:endAt l k=some e):∃x,l[e]?=some x∧x.fKind=7:=by
 obtain⟨_,_,_,h,_⟩:=endAt_some h
 exact endN_kind _ (Nat.le_refl _) h
theorem endN_lev:∀{l:List TLine} (n:Nat) {s o e i:Nat},i - s≤n→1≤o→endN (l.drop s) s o=some e→s≤i→i≤e→∃o',1≤o'∧endN (l.drop i) i o'=some e
 | l,0,s,o,e,i,hn,ho,h,h1,h2=>by
  have:s=i:=by omega
  subst this
  exact⟨o,ho,h⟩
 | l,n+1,s,o,e,i,hn,ho,h,h1,h2=>by
  by_cases hs:s=i
  ·subst hs;exact⟨o,ho,h⟩
  have hl:=endN_lt h
  obtain⟨x,hx⟩:=get_of_lt (l:=l) (k:=s) (by omega)
  rw[endN_at hx]at h
  split at h
  ·exact endN_lev n (by omega) (by omega) h (by omega) h2
  ·split at h
   ·split at h
    ·injection h with h;omega
    ·exact endN_lev n (by omega) (by omega) h (by omega) h2
   ·exact endN_lev n (by omega) ho h (by omega) h2
theorem endAt_in {l:List TLine}{k e i:Nat}{x:TLine}(h:endAt l k=some e)(h1:k < i)(h2:i < e)(hx:l[i]?=some x)(ho:opensK x.fKind=true):∃m,endAt l i=some m∧i < m∧m < e:=by
 obtain⟨_,_,_,he,_,hlt⟩:=endAt_some h
 obtain⟨o,ho1,hlev⟩:=endN_lev _ (Nat.le_refl _) (Nat.le_refl 1) he (by omega:k+1≤i) (by omega)
 rw[endN_at hx,if_pos ho,endN_add _ (Nat.le_refl _) ho1 (Nat.le_refl 1)]at hlev
 cases hm:endN (l.drop (i+1)) (i+1) 1 with
 | none=>rw[hm]at hlev;cases hlev
 | some m=>
  rw[hm]at hlev
  have h3:=endN_lt hm
  have h4:=endN_lt (show endN (l.drop (m+1)) (m+1) o=some e from hlev)
  exact⟨m,by rw[endAt_of hx ho];exact hm,by omega,by omega⟩
theorem endOf_at {l:List TLine}{k:Nat}:endOf l (k:Int)=endI (endAt l k):=by
 rw[endOf,if_pos (by omega),Int.toNat_natCast]
theorem endI_some {o:Option Nat}{n:Nat}(h:o=some n):endI o=(n:Int):=by rw[h];rfl
theorem endI_none {o:Option Nat}(h:o=none):endI o= -1:=by rw[h];rfl
def elseN (l:List TLine)(e:Nat):Nat→Nat→Option Nat
 | 0,_=>none
 | n+1,i=>if i < e then(match l[i]? with
  | some x=>if x.fKind=4 then some i else if x.fKind=3∨x.fKind=5 then(match endAt l i with
   | some m=>elseN l e n (m+1)
   | none=>elseN l e n (i+1))else elseN l e n (i+1)
  | none=>none)else none
def elseAt (l:List TLine)(k:Nat):Option Nat:=match l[k]?,endAt l k with
 | some x,some e=>if x.fKind=3 then elseN l e (e - (k+1)) (k+1)else none
 | _,_=>none
def elseOf (l:List TLine)(k:Int):Int:=if 0≤k then endI (elseAt l k.toNat)else -1
theorem elseN_more {l:List TLine}{e:Nat}:∀{n m i:Nat},e - i≤n→e - i≤m→elseN l e n i=elseN l e m i
 | 0,0,_,_,_=>rfl
 | 0,m+1,i,h1,h2=>by rw[elseN,elseN,if_neg (by omega)]
 | n+1,0,i,h1,h2=>by rw[elseN,elseN,if_neg (by omega)]
 | n+1,m+1,i,h1,h2=>by
  rw[elseN,elseN]
  by_cases hi:i < e
  ·rw[if_pos hi,if_pos hi]
   cases hx:l[i]? with
   | none=>rfl
   | some x=>
    dsimp only
    split
    ·rfl
    ·split
     ·cases hm:endAt l i with
      | none=>exact elseN_more (by omega) (by omega)
      | some m'=>
       have:=endAt_some hm
       obtain⟨_,_,_,_,h3,_⟩:=this
       exact elseN_more (by omega) (by omega)
     ·exact elseN_more (by omega) (by omega)
  ·rw[if_neg hi,if_neg hi]
theorem elseN_step {l:List TLine}{e i:Nat}{x:TLine}(hi:i < e)(hx:l[i]?=some x):elseN l e (e - i) i=if x.fKind=4 then some i else if x.fKind=3∨x.fKind=5 then(match endAt l i with
   | some m=>elseN l e (e - (m+1)) (m+1)
   | none=>elseN l e (e - (i+1)) (i+1))else elseN l e (e - (i+1)) (i+1):=by
 obtain⟨n,hn⟩:∃n,e - i=n+1:=⟨e - i - 1,by omega⟩
 rw[hn,elseN,if_pos hi,hx]
 dsimp only
 split
 ·rfl
 ·split
  ·cases hm:endAt l i with
   | none=>exact elseN_more (by omega) (by omega)
   | some m=>
    obtain⟨_,_,_,_,h3,_⟩:=endAt_some hm
    exact elseN_more (by omega) (by omega)
  ·exact elseN_more (by omega) (by omega)
theorem elseN_end {l:List TLine}{e i n:Nat}(hi:e≤i):elseN l e n i=none:=by
 cases n with
 | zero=>rfl
 | succ n=>rw[elseN,if_neg (by omega)]
theorem elseN_in {l:List TLine}{e:Nat}:∀{n i j:Nat},elseN l e n i=some j→i≤j∧j < e∧∃x,l[j]?=some x∧x.fKind=4
 | 0,_,_,h=>by rw[elseN]at h;cases h
 | n+1,i,j,h=>by
  rw[elseN]at h
  split at h
  ·rename_i hi
   split at h
   ·rename_i x hx
    split at h
    ·injection h with h;subst h;exact⟨by omega,hi,x,hx,by assumption⟩
    ·split at h
     ·split at h
      ·rename_i m hm
       obtain⟨_,_,_,_,h3,_⟩:=endAt_some hm
       have:=elseN_in h
       exact⟨by omega,this.2⟩
      ·have:=elseN_in h
       exact⟨by omega,this.2⟩
     ·have:=elseN_in h
      exact⟨by omega,this.2⟩
   ·cases h
  ·cases h
theorem elseAt_some {l:List TLine}{k j:Nat}(h:elseAt l k=some j):∃x e,l[k]?=some x∧x.fKind=3∧endAt l k=some e∧k < j∧j < e∧∃y,l[j]?=some y∧y.fKind=4:=by
 unfold elseAt at h
 split at h
 ·rename_i x e hx he
  split at h
  ·rename_i h3
   have:=elseN_in h
   exact⟨x,e,hx,h3,he,by omega,this.2⟩
  ·cases h
 ·cases h
def funsF:List TLine→Nat→List Nat
 | [],_=>[]
 | x::l,i=>(if x.fKind=0 then [i]else [])++funsF l (i+1)
def funs (l:List TLine):List Nat:=funsF l 0
theorem funsF_at {l:List TLine}{i:Nat}{x:TLine}(hx:l[i]?=some x):funsF (l.drop i) i=(if x.fKind=0 then [i]else [])++funsF (l.drop (i+1)) (i+1):=by
 rw[drop_at hx,funsF]
theorem funsF_len:∀(l:List TLine) (i:Nat),(funsF l i).length≤l.length
 | [],_=>by simp[funsF]
 | x::l,i=>by
  have:=funsF_len l (i+1)
  rw[funsF,List.length_append,List.length_cons]
  split <;> simp <;> omega
theorem funsF_lt:∀{l:List TLine} {i k:Nat},k∈funsF l i→i≤k∧k < i+l.length∧∃x,l[k - i]?=some x∧x.fKind=0
 | [],_,_,h=>by simp[funsF]at h
 | x::l,i,k,h=>by
  rw[funsF,List.mem_append]at h
  rcases h with h|h
  ·split at h
   ·simp only[List.mem_cons,List.not_mem_nil,or_false]at h
    subst h
    exact⟨by omega,by simp,x,by simp,by assumption⟩
   ·cases h
  ·obtain⟨h1,h2,y,hy,hk⟩:=funsF_lt h
   refine⟨by omega,by simp only[List.length_cons];omega,y,?_,hk⟩
   rw[show k - i=(k - (i+1))+1 by omega,List.getElem?_cons_succ]
   exact hy
theorem funs_lt {l:List TLine}{k:Nat}(h:k∈funs l):k < l.length∧∃x,l[k]?=some x∧x.fKind=0:=by
 have:=funsF_lt h
 simpa using this.2
def findN:List TLine→Nat→List UInt8→Option Nat
 | [],_,_=>none
 | x::l,i,s=>if x.fKind=0∧x.fName=s then some i else findN l (i+1) s
def findF (l:List TLine)(s:List UInt8):Int:=endI (findN l 0 s)
theorem findN_at {l:List TLine}{i:Nat}{x:TLine}{s:List UInt8}(hx:l[i]?=some x):findN (l.drop i) i s=if x.fKind=0∧x.fName=s then some i else findN (l.drop (i+1)) (i+1) s:=by
 rw[drop_at hx,findN]
theorem findN_some:∀{l:List TLine} {i k:Nat} {s:List UInt8},findN l i s=some k→i≤k∧k < i+l.length∧∃x,l[k - i]?=some x∧x.fKind=0∧x.fName=s
 | [],_,_,_,h=>by rw[findN]at h;cases h
 | x::l,i,k,s,h=>by
  rw[findN]at h
  split at h
  ·injection h with h;subst h
   exact⟨by omega,by simp,x,by simp,by assumption⟩
  ·obtain⟨h1,h2,y,hy,hk⟩:=findN_some h
   refine⟨by omega,by simp only[List.length_cons];omega,y,?_,hk⟩
   rw[show k - i=(k - (i+1))+1 by omega,List.getElem?_cons_succ]
   exact hy
theorem find_some {l:List TLine}{k:Nat}{s:List UInt8}(h:findN l 0 s=some k):k < l.length∧∃x,l[k]?=some x∧x.fKind=0∧x.fName=s:=by
 have:=findN_some h
 simpa using this.2
def addName (acc:List (List UInt8))(s:List UInt8):List (List UInt8):=if acc.contains s=true then acc else acc++[s]
def locN (l:List TLine)(e:Nat):Nat→Nat→List (List UInt8)→List (List UInt8)
 | 0,_,acc=>acc
 | n+1,i,acc=>if i < e then(match l[i]? with
  | some x=>locN l e n (i+1) (if x.fKind=1 then addName acc x.fName else acc)
  | none=>acc)else acc
def localsOf (l:List TLine)(k:Int):List (List UInt8):=if 0≤k then(match l[k.toNat]?,endAt l k.toNat with
 | some x,some e=>if x.fKind=0 then locN l e (e - k.toNat) k.toNat x.fArgs else []
 | _,_=>[])else []
theorem locN_step {l:List TLine}{e i:Nat}{x:TLine}{acc:List (List UInt8)}(hi:i < e)(hx:l[i]?=some x):locN l e (e - i) i acc=locN l e (e - (i+1)) (i+1) (if x.fKind=1 then addName acc x.fName else acc):=by
 rw[show e - i=(e - (i+1))+1 by omega,locN,if_pos hi,hx]
theorem locN_end {l:List TLine}{e i n:Nat}{acc:List (List UInt8)}(hi:e≤i):locN l e n i acc=acc:=by
 cases n with
 | zero=>rfl
 | succ n=>rw[locN,if_neg (by omega)]
theorem addName_len (acc:List (List UInt8))(s:List UInt8):(addName acc s).length≤acc.length+1:=by
 unfold addName
 split <;> simp
theorem locN_len {l:List TLine}{e:Nat}:∀(n i:Nat) (acc:List (List UInt8)),(locN l e n i acc).length≤acc.length+n
 | 0,_,_=>by simp[locN]
 | n+1,i,acc=>by
  rw[locN]
  split
  ·split
   ·refine Nat.le_trans (locN_len n _ _) ?_
    split
    ·have:=addName_len acc (by assumption:TLine).fName;omega
    ·omega
   ·omega
  ·omega
def tokKnown (l:List TLine)(locals:List (List UInt8))(t:TTok):Bool:=
 if t.fKind=1 then locals.contains t.fName
 else if t.fKind=7 then(match findN l 0 t.fName with
  | some f=>(match l[f]? with|some x=>(x.fArgs.length:Int)==t.fNum|none=>false)
  | none=>false)
 else true
def exprKnown (l:List TLine)(locals:List (List UInt8))(ts:List TTok):Bool:=ts.all (tokKnown l locals)
def dep (x:TLine)(d:Nat):Nat:=if x.fKind=3∨x.fKind=5 then d+1 else if x.fKind=7 then d - 1 else d
def bodyN (l:List TLine)(locals:List (List UInt8))(e:Nat):Nat→Nat→Nat→Bool
 | 0,_,_=>true
 | n+1,i,d=>if i < e then(match l[i]? with
  | some x=>if x.fKind=0 then false else
   if dep x d≤4∧exprKnown l locals x.fExpr=true then bodyN l locals e n (i+1) (dep x d)else false
  | none=>false)else true
theorem bodyN_step {l:List TLine}{locals:List (List UInt8)}{e i d:Nat}{x:TLine}(hi:i < e)(hx:l[i]?=some x):bodyN l locals e (e - i) i d=if x.fKind=0 then false else if dep x d≤4∧exprKnown l locals x.fExpr=true then bodyN l locals e (e - (i+1)) (i+1) (dep x d)else false:=by
 rw[show e - i=(e - (i+1))+1 by omega,bodyN,if_pos hi,hx]
theorem bodyN_end {l:List TLine}{locals:List (List UInt8)}{e i d n:Nat}(hi:e≤i):bodyN l locals e n i d=true:=by
 cases n with
 | zero=>rfl
 | succ n=>rw[bodyN,if_neg (by omega)]
end Go.Proofs.YtogdbgmiigfmfaaGreat
