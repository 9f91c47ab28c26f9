import Derived.Test.YtjmplnfiabmalaaGe
import Derived.Test.YtjmplnfiabmalaaRows
namespace Go.Sim
theorem K1 {p:Prop}(h:p:=by simp;omega):p:=h
theorem K2 {k:IntKind}{a b:Int}(h:a=b:=by(try simp(disch:=omega)only[IntWalk.i64_in])):Tr.int k a=Tr.int k b:=congrArg (Tr.int k) h
theorem K3 {p:Prop}(h:False:=by simp at *;omega):p:=h.elim
theorem K4 {p:Prop}(h:p:=by dsimp only;rw[IntWalk.i64_in _ (by omega)];rfl):p:=h
theorem K5 {p:Prop}(h:False:=by simp(disch:=omega)only[IntWalk.i64_in]at *;simp only[beq_iff_eq]at *;omega):p:=h.elim
theorem K6 {p:Prop}(h:False:=by simp only[beq_iff_eq]at *;omega):p:=h.elim
theorem K7 {p:Prop}(h:p:=by simp <;> omega):p:=h
theorem KD {p:Prop}(h:p:=by dsimp only;omega):p:=h
end Go.Sim
namespace Go.Proofs.Ytjmplnfiabmalaa
open Go.Sim
def Γ:Env:=[
 (1,{size:=1,bytes:=8,agg:=false,zero:=[AC.opq]}),
 (2,{size:=1,bytes:=8,agg:=false,zero:=[AC.t (Tr.int Go.IntKind.i64 (Int.ofNat 0))],kind:=some Go.IntKind.i64}),
 (3,{size:=1,bytes:=8,agg:=false,zero:=[AC.t (Tr.int Go.IntKind.i64 (Int.ofNat 0))],kind:=some Go.IntKind.i64}),
 (4,{size:=1,bytes:=1,agg:=false,zero:=[AC.t (Tr.bool false)],bool:=true}),
 (5,{size:=1,bytes:=1,agg:=false,zero:=[AC.t (Tr.int Go.IntKind.u8 (Int.ofNat 0))],kind:=some Go.IntKind.u8}),
 (6,{size:=1,bytes:=1,agg:=false,zero:=[AC.t (Tr.int Go.IntKind.u8 (Int.ofNat 0))],kind:=some Go.IntKind.u8}),
 (7,{size:=4,bytes:=24,agg:=true,zero:=[AC.t (Tr.int Go.IntKind.i64 (Int.ofNat 0)),AC.t (Tr.int Go.IntKind.i64 (Int.ofNat 0)),AC.t (Tr.bool false),AC.t (Tr.int Go.IntKind.u8 (Int.ofNat 0))],fields:=[(0,1,2),(1,1,3),(2,1,4),(3,1,6)]}),
 (8,{size:=4,bytes:=24,agg:=true,zero:=[AC.t (Tr.int Go.IntKind.i64 (Int.ofNat 0)),AC.t (Tr.int Go.IntKind.i64 (Int.ofNat 0)),AC.t (Tr.bool false),AC.t (Tr.int Go.IntKind.u8 (Int.ofNat 0))],fields:=[(0,1,2),(1,1,3),(2,1,4),(3,1,6)]}),
 (9,{size:=1,bytes:=16,agg:=false,zero:=[AC.t (Tr.str [])],str:=true}),
 (10,{size:=1,bytes:=16,agg:=false,zero:=[AC.t (Tr.str [])],str:=true}),
 (11,{size:=1,bytes:=16,agg:=false,zero:=[AC.t (Tr.str [])],str:=true}),
 (12,{size:=1,bytes:=8,agg:=false,zero:=[AC.t (Tr.int Go.IntKind.u64 (Int.ofNat 0))],kind:=some Go.IntKind.u64}),
 (13,{size:=2,bytes:=24,agg:=true,zero:=[AC.t (Tr.str []),AC.t (Tr.int Go.IntKind.u64 (Int.ofNat 0))],fields:=[(0,1,9),(1,1,12)]}),
 (14,{size:=2,bytes:=24,agg:=true,zero:=[AC.t (Tr.str []),AC.t (Tr.int Go.IntKind.u64 (Int.ofNat 0))],fields:=[(0,1,9),(1,1,12)]}),
 (15,{size:=1,bytes:=8,agg:=false,zero:=[AC.nilp]}),
 (16,{size:=1,bytes:=8,agg:=false,zero:=[AC.nilp]}),
 (17,{size:=1,bytes:=8,agg:=false,zero:=[AC.nilp]}),
 (18,{size:=1,bytes:=8,agg:=true,zero:=[AC.nilp],fields:=[(0,1,17)]}),
 (19,{size:=1,bytes:=8,agg:=true,zero:=[AC.nilp],fields:=[(0,1,17)]}),
 (20,{size:=1,bytes:=16,agg:=false,zero:=[AC.opq]}),
 (21,{size:=1,bytes:=4,agg:=false,zero:=[AC.t (Tr.int Go.IntKind.i32 (Int.ofNat 0))],kind:=some Go.IntKind.i32}),
 (22,{size:=1,bytes:=24,agg:=false,zero:=[AC.nils 0],elem:=some 55}),
 (23,{size:=1,bytes:=8,agg:=false,zero:=[AC.opq]}),
 (24,{size:=1,bytes:=24,agg:=false,zero:=[AC.nils 0],elem:=some 3}),
 (25,{size:=1,bytes:=24,agg:=false,zero:=[AC.nils 0],elem:=some 24}),
 (26,{size:=4,bytes:=64,agg:=true,zero:=[AC.nils 0,AC.nils 0,AC.t (Tr.int Go.IntKind.i64 (Int.ofNat 0)),AC.t (Tr.int Go.IntKind.i64 (Int.ofNat 0))],fields:=[(0,1,24),(1,1,25),(2,1,3),(3,1,3)]}),
 (27,{size:=4,bytes:=64,agg:=true,zero:=[AC.nils 0,AC.nils 0,AC.t (Tr.int Go.IntKind.i64 (Int.ofNat 0)),AC.t (Tr.int Go.IntKind.i64 (Int.ofNat 0))],fields:=[(0,1,24),(1,1,25),(2,1,3),(3,1,3)]}),
 (28,{size:=1,bytes:=8,agg:=false,zero:=[AC.opq]}),
 (29,{size:=1,bytes:=24,agg:=false,zero:=[AC.nils 0],elem:=some 49}),
 (30,{size:=1,bytes:=8,agg:=false,zero:=[AC.opq]}),
 (31,{size:=1,bytes:=8,agg:=false,zero:=[AC.opq]}),
 (32,{size:=1,bytes:=8,agg:=false,zero:=[AC.opq]}),
 (33,{size:=1,bytes:=8,agg:=false,zero:=[AC.opq]}),
 (34,{size:=1,bytes:=8,agg:=false,zero:=[AC.opq]}),
 (35,{size:=1,bytes:=8,agg:=false,zero:=[AC.opq]}),
 (36,{size:=1,bytes:=24,agg:=false,zero:=[AC.nils 0],elem:=some 5}),
 (37,{size:=1,bytes:=8,agg:=false,zero:=[AC.opq]}),
 (38,{size:=1,bytes:=8,agg:=false,zero:=[AC.opq]}),
 (39,{size:=1,bytes:=8,agg:=false,zero:=[AC.opq]}),
 (40,{size:=1,bytes:=8,agg:=false,zero:=[AC.opq]}),
 (41,{size:=1,bytes:=8,agg:=false,zero:=[AC.opq]}),
 (42,{size:=1,bytes:=8,agg:=false,zero:=[AC.opq]}),
 (43,{size:=1,bytes:=8,agg:=false,zero:=[AC.opq]}),
 (44,{size:=1,bytes:=8,agg:=false,zero:=[AC.opq]}),
 (45,{size:=1,bytes:=8,agg:=false,zero:=[AC.opq]}),
 (46,{size:=1,bytes:=24,agg:=false,zero:=[AC.nils 0],elem:=some 9}),
 (47,{size:=1,bytes:=24,agg:=false,zero:=[AC.nils 0],elem:=some 51}),
 (48,{size:=4,bytes:=72,agg:=true,zero:=[AC.t (Tr.int Go.IntKind.i64 (Int.ofNat 0)),AC.t (Tr.str []),AC.nils 0,AC.nils 0],fields:=[(0,1,3),(1,1,9),(2,1,46),(3,1,47)]}),
 (49,{size:=4,bytes:=72,agg:=true,zero:=[AC.t (Tr.int Go.IntKind.i64 (Int.ofNat 0)),AC.t (Tr.str []),AC.nils 0,AC.nils 0],fields:=[(0,1,3),(1,1,9),(2,1,46),(3,1,47)]}),
 (50,{size:=3,bytes:=32,agg:=true,zero:=[AC.t (Tr.int Go.IntKind.i64 (Int.ofNat 0)),AC.t (Tr.int Go.IntKind.i64 (Int.ofNat 0)),AC.t (Tr.str [])],fields:=[(0,1,3),(1,1,3),(2,1,9)]}),
 (51,{size:=3,bytes:=32,agg:=true,zero:=[AC.t (Tr.int Go.IntKind.i64 (Int.ofNat 0)),AC.t (Tr.int Go.IntKind.i64 (Int.ofNat 0)),AC.t (Tr.str [])],fields:=[(0,1,3),(1,1,3),(2,1,9)]}),
 (52,{size:=1,bytes:=8,agg:=false,zero:=[AC.opq]}),
 (53,{size:=1,bytes:=24,agg:=false,zero:=[AC.nils 0],elem:=some 111}),
 (54,{size:=4,bytes:=72,agg:=true,zero:=[AC.t (Tr.int Go.IntKind.i64 (Int.ofNat 0)),AC.t (Tr.str []),AC.nils 0,AC.nils 0],fields:=[(0,1,3),(1,1,9),(2,1,46),(3,1,53)]}),
 (55,{size:=4,bytes:=72,agg:=true,zero:=[AC.t (Tr.int Go.IntKind.i64 (Int.ofNat 0)),AC.t (Tr.str []),AC.nils 0,AC.nils 0],fields:=[(0,1,3),(1,1,9),(2,1,46),(3,1,53)]}),
 (56,{size:=1,bytes:=8,agg:=false,zero:=[AC.opq]}),
 (57,{size:=1,bytes:=8,agg:=false,zero:=[AC.nilp]}),
 (58,{size:=7,bytes:=120,agg:=true,zero:=[AC.nils 0,AC.t (Tr.int Go.IntKind.i64 (Int.ofNat 0)),AC.nils 0,AC.nils 0,AC.t (Tr.int Go.IntKind.i64 (Int.ofNat 0)),AC.t (Tr.int Go.IntKind.i64 (Int.ofNat 0)),AC.nils 0],fields:=[(0,1,29),(1,1,3),(2,4,27),(6,1,24)]}),
 (59,{size:=7,bytes:=120,agg:=true,zero:=[AC.nils 0,AC.t (Tr.int Go.IntKind.i64 (Int.ofNat 0)),AC.nils 0,AC.nils 0,AC.t (Tr.int Go.IntKind.i64 (Int.ofNat 0)),AC.t (Tr.int Go.IntKind.i64 (Int.ofNat 0)),AC.nils 0],fields:=[(0,1,29),(1,1,3),(2,4,27),(6,1,24)]}),
 (60,{size:=1,bytes:=8,agg:=false,zero:=[AC.opq]}),
 (61,{size:=1,bytes:=8,agg:=false,zero:=[AC.opq]}),
 (62,{size:=1,bytes:=8,agg:=false,zero:=[AC.nilp]}),
 (63,{size:=1,bytes:=8,agg:=false,zero:=[AC.opq]}),
 (64,{size:=8,bytes:=144,agg:=true,zero:=[AC.nils 0,AC.t (Tr.int Go.IntKind.i64 (Int.ofNat 0)),AC.nils 0,AC.nils 0,AC.nils 0,AC.t (Tr.int Go.IntKind.i64 (Int.ofNat 0)),AC.t (Tr.int Go.IntKind.i64 (Int.ofNat 0)),AC.nils 0],fields:=[(0,1,29),(1,1,3),(2,1,24),(3,4,27),(7,1,24)]}),
 (65,{size:=8,bytes:=144,agg:=true,zero:=[AC.nils 0,AC.t (Tr.int Go.IntKind.i64 (Int.ofNat 0)),AC.nils 0,AC.nils 0,AC.nils 0,AC.t (Tr.int Go.IntKind.i64 (Int.ofNat 0)),AC.t (Tr.int Go.IntKind.i64 (Int.ofNat 0)),AC.nils 0],fields:=[(0,1,29),(1,1,3),(2,1,24),(3,4,27),(7,1,24)]}),
 (66,{size:=1,bytes:=8,agg:=true,zero:=[AC.t (Tr.int Go.IntKind.i64 (Int.ofNat 0))],fields:=[(0,1,3)]}),
 (67,{size:=1,bytes:=8,agg:=true,zero:=[AC.t (Tr.int Go.IntKind.i64 (Int.ofNat 0))],fields:=[(0,1,3)]}),
 (69,{size:=1,bytes:=8,agg:=false,zero:=[AC.opq]}),
 (70,{size:=1,bytes:=8,agg:=false,zero:=[AC.opq]}),
 (71,{size:=1,bytes:=8,agg:=false,zero:=[AC.opq]}),
 (72,{size:=1,bytes:=8,agg:=false,zero:=[AC.opq]}),
 (73,{size:=1,bytes:=8,agg:=false,zero:=[AC.opq]}),
 (74,{size:=1,bytes:=8,agg:=false,zero:=[AC.opq]}),
 (75,{size:=1,bytes:=8,agg:=false,zero:=[AC.opq]}),
 (76,{size:=1,bytes:=8,agg:=false,zero:=[AC.nilp]}),
 (77,{size:=1,bytes:=8,agg:=false,zero:=[AC.opq]}),
 (78,{size:=1,bytes:=8,agg:=false,zero:=[AC.opq]}),
 (79,{size:=1,bytes:=8,agg:=false,zero:=[AC.opq]}),
 (80,{size:=1,bytes:=8,agg:=false,zero:=[AC.opq]}),
 (81,{size:=1,bytes:=8,agg:=false,zero:=[AC.opq]}),
 (82,{size:=1,bytes:=8,agg:=false,zero:=[AC.opq]}),
 (83,{size:=1,bytes:=8,agg:=false,zero:=[AC.opq]}),
 (84,{size:=1,bytes:=8,agg:=false,zero:=[AC.opq]}),
 (85,{size:=1,bytes:=8,agg:=false,zero:=[AC.opq]}),
 (87,{size:=1,bytes:=8,agg:=false,zero:=[AC.opq]}),
 (88,{size:=1,bytes:=8,agg:=false,zero:=[AC.opq]}),
 (89,{size:=1,bytes:=8,agg:=false,zero:=[AC.opq]}),
 (90,{size:=1,bytes:=8,agg:=false,zero:=[AC.opq]}),
 (91,{size:=1,bytes:=8,agg:=false,zero:=[AC.opq]}),
 (92,{size:=1,bytes:=8,agg:=false,zero:=[AC.opq],map:=some none}),
 (93,{size:=1,bytes:=8,agg:=false,zero:=[AC.opq]}),
 (94,{size:=1,bytes:=8,agg:=false,zero:=[AC.opq]}),
 (95,{size:=1,bytes:=8,agg:=false,zero:=[AC.opq]}),
 (96,{size:=1,bytes:=8,agg:=false,zero:=[AC.opq]}),
 (97,{size:=1,bytes:=8,agg:=false,zero:=[AC.opq]}),
 (98,{size:=1,bytes:=8,agg:=false,zero:=[AC.opq]}),
 (99,{size:=1,bytes:=8,agg:=false,zero:=[AC.nilp]}),
 (100,{size:=4,bytes:=80,agg:=true,zero:=[AC.nilp,AC.nils 0,AC.nils 0,AC.nils 0],fields:=[(0,1,76),(1,1,46),(2,1,46),(3,1,24)]}),
 (101,{size:=4,bytes:=80,agg:=true,zero:=[AC.nilp,AC.nils 0,AC.nils 0,AC.nils 0],fields:=[(0,1,76),(1,1,46),(2,1,46),(3,1,24)]}),
 (102,{size:=1,bytes:=8,agg:=false,zero:=[AC.opq]}),
 (103,{size:=1,bytes:=8,agg:=false,zero:=[AC.opq]}),
 (104,{size:=1,bytes:=8,agg:=false,zero:=[AC.opq]}),
 (105,{size:=3,bytes:=40,agg:=true,zero:=[AC.nils 0,AC.t (Tr.int Go.IntKind.i64 (Int.ofNat 0)),AC.t (Tr.int Go.IntKind.i64 (Int.ofNat 0))],fields:=[(0,1,36),(1,1,3),(2,1,3)]}),
 (106,{size:=3,bytes:=40,agg:=true,zero:=[AC.nils 0,AC.t (Tr.int Go.IntKind.i64 (Int.ofNat 0)),AC.t (Tr.int Go.IntKind.i64 (Int.ofNat 0))],fields:=[(0,1,36),(1,1,3),(2,1,3)]}),
 (107,{size:=1,bytes:=8,agg:=false,zero:=[AC.opq]}),
 (108,{size:=1,bytes:=8,agg:=false,zero:=[AC.opq]}),
 (109,{size:=1,bytes:=8,agg:=false,zero:=[AC.opq]}),
 (110,{size:=1,bytes:=8,agg:=false,zero:=[AC.opq]}),
 (111,{size:=3,bytes:=32,agg:=true,zero:=[AC.t (Tr.int Go.IntKind.i64 (Int.ofNat 0)),AC.t (Tr.int Go.IntKind.i64 (Int.ofNat 0)),AC.t (Tr.str [])],fields:=[(0,1,3),(1,1,3),(2,1,9)]}),
 (112,{size:=1,bytes:=8,agg:=false,zero:=[AC.opq]}),
 (113,{size:=1,bytes:=8,agg:=false,zero:=[AC.opq]}),
 (114,{size:=1,bytes:=8,agg:=false,zero:=[AC.opq]}),
 (115,{size:=1,bytes:=8,agg:=false,zero:=[AC.opq]}),
 (116,{size:=1,bytes:=8,agg:=false,zero:=[AC.opq]}),
 (117,{size:=1,bytes:=8,agg:=false,zero:=[AC.opq]}),
 (118,{size:=1,bytes:=8,agg:=false,zero:=[AC.opq]}),
 (119,{size:=1,bytes:=8,agg:=false,zero:=[AC.opq]}),
 (120,{size:=1,bytes:=8,agg:=false,zero:=[AC.opq]}),
 (121,{size:=1,bytes:=24,agg:=false,zero:=[AC.nils 0],elem:=some 47}),
 (122,{size:=1,bytes:=8,agg:=false,zero:=[AC.opq]}),
 (123,{size:=1,bytes:=8,agg:=false,zero:=[AC.opq]}),
 (124,{size:=1,bytes:=8,agg:=false,zero:=[AC.t (Tr.int Go.IntKind.u64 (Int.ofNat 0))],kind:=some Go.IntKind.u64}),
 (125,{size:=1,bytes:=8,agg:=false,zero:=[AC.opq]}),
 (126,{size:=1,bytes:=4,agg:=false,zero:=[AC.t (Tr.int Go.IntKind.u32 (Int.ofNat 0))],kind:=some Go.IntKind.u32}),
 (127,{size:=1,bytes:=8,agg:=false,zero:=[AC.opq]}),
 (128,{size:=4,bytes:=40,agg:=true,zero:=[AC.nilp,AC.nilp,AC.nilp,AC.t (Tr.str [])],fields:=[(0,1,17),(1,1,17),(2,1,17),(3,1,9)]}),
 (129,{size:=4,bytes:=40,agg:=true,zero:=[AC.nilp,AC.nilp,AC.nilp,AC.t (Tr.str [])],fields:=[(0,1,17),(1,1,17),(2,1,17),(3,1,9)]}),
 (133,{size:=1,bytes:=8,agg:=false,zero:=[AC.opq]}),
 (134,{size:=1,bytes:=1,agg:=false,zero:=[AC.t (Tr.int Go.IntKind.u8 (Int.ofNat 0))],kind:=some Go.IntKind.u8}),
 (135,{size:=1,bytes:=1,agg:=false,zero:=[AC.t (Tr.int Go.IntKind.u8 (Int.ofNat 0))],kind:=some Go.IntKind.u8}),
 (136,{size:=1,bytes:=8,agg:=false,zero:=[AC.opq]}),
 (137,{size:=1,bytes:=8,agg:=false,zero:=[AC.nilp]}),
 (138,{size:=1,bytes:=4,agg:=false,zero:=[AC.t (Tr.int Go.IntKind.i32 (Int.ofNat 0))],kind:=some Go.IntKind.i32}),
 (139,{size:=1,bytes:=4,agg:=false,zero:=[AC.t (Tr.int Go.IntKind.i32 (Int.ofNat 0))],kind:=some Go.IntKind.i32}),
 (140,{size:=11,bytes:=48,agg:=true,zero:=[AC.t (Tr.int Go.IntKind.u64 (Int.ofNat 0)),AC.t (Tr.int Go.IntKind.u64 (Int.ofNat 0)),AC.t (Tr.int Go.IntKind.u32 (Int.ofNat 0)),AC.t (Tr.int Go.IntKind.u8 (Int.ofNat 0)),AC.t (Tr.int Go.IntKind.u8 (Int.ofNat 0)),AC.t (Tr.int Go.IntKind.u8 (Int.ofNat 0)),AC.t (Tr.int Go.IntKind.u8 (Int.ofNat 0)),AC.opq,AC.nilp,AC.t (Tr.int Go.IntKind.i32 (Int.ofNat 0)),AC.t (Tr.int Go.IntKind.i32 (Int.ofNat 0))],fields:=[(0,1,12),(1,1,12),(2,1,126),(3,1,134),(4,1,5),(5,1,5),(6,1,135),(7,1,136),(8,1,137),(9,1,138),(10,1,139)]}),
 (141,{size:=11,bytes:=48,agg:=true,zero:=[AC.t (Tr.int Go.IntKind.u64 (Int.ofNat 0)),AC.t (Tr.int Go.IntKind.u64 (Int.ofNat 0)),AC.t (Tr.int Go.IntKind.u32 (Int.ofNat 0)),AC.t (Tr.int Go.IntKind.u8 (Int.ofNat 0)),AC.t (Tr.int Go.IntKind.u8 (Int.ofNat 0)),AC.t (Tr.int Go.IntKind.u8 (Int.ofNat 0)),AC.t (Tr.int Go.IntKind.u8 (Int.ofNat 0)),AC.opq,AC.nilp,AC.t (Tr.int Go.IntKind.i32 (Int.ofNat 0)),AC.t (Tr.int Go.IntKind.i32 (Int.ofNat 0))],fields:=[(0,1,12),(1,1,12),(2,1,126),(3,1,134),(4,1,5),(5,1,5),(6,1,135),(7,1,136),(8,1,137),(9,1,138),(10,1,139)]}),
 (142,{size:=1,bytes:=8,agg:=false,zero:=[AC.nilp]})]
theorem hΓ:Γ.chk Try.prog=true:=by kernel_rfl
theorem ap:Try.prog.follows .mixedOrders=true:=by kernel_rfl
end Go.Proofs.Ytjmplnfiabmalaa
namespace Go.Proofs.Ytjmplnfiabmalaa
open Go.Sim Go.ChangeShapes Go.WideShapes Go.ChangeAt Go.RowKit
theorem own:ownKnob Try.prog.godebug=none:=by kernel_rfl
theorem xP:laidOutB Try.prog=true:=by kernel_rfl
theorem yV {n:Int}(h:(Lit.int .i64 n).wf=true):n≤9223372036854775807:=by
 simp[Lit.wf]at h
 exact h.2
theorem za {n:Int}(h:(Lit.int .i64 n).wf=true):-9223372036854775808≤n:=by
 simp[Lit.wf]at h
 exact h.1
theorem lc {α:Type}{g:α→List Tr}{Q:α→Prop}:∀{rows:List (List Tr)},(∀r∈rows,∃m,r=g m∧Q m)→∃ns:List α,rows=ns.map g∧∀m∈ns,Q m
 | [],_=>⟨[],rfl,fun _ h=>by cases h⟩
 | r::rows,h=>by
  obtain⟨m,rfl,hm⟩:=h r (by simp)
  obtain⟨ns,rfl,hns⟩:=lc (rows:=rows) fun r hr=>h r (by simp[hr])
  exact⟨m::ns,rfl,fun x hx=>by
   rcases List.mem_cons.1 hx with rfl|hx
   ·exact hm
   ·exact hns x hx⟩
end Go.Proofs.Ytjmplnfiabmalaa
namespace Go.Proofs.Ytjmplnfiabmalaa
open Go.Sim Go.RowKit
def inI (n:Int):Prop:= -9223372036854775808≤n∧n≤9223372036854775807
def aa (n:Int):List Tr:=[.int .i64 n]
def ah (s:List UInt8):List Tr:=[.str s]
def aq {α:Type}(sz:Nat)(g:α→List Tr)(l:List α):List Tr:=[.lst sz (l.map g)]
structure Aj where
 fai:Int
 fax:Int
def Aj.tr (x:Aj):List Tr:=[.int .i64 x.fai,.int .i64 x.fax]
def Aj.wf (x:Aj):Prop:=inI x.fai∧inI x.fax
structure Aq where
 faa:Int
 faf:Int
 fab:List UInt8
def Aq.tr (x:Aq):List Tr:=[.int .i64 x.faa,.int .i64 x.faf,.str x.fab]
def Aq.wf (x:Aq):Prop:=inI x.faa∧inI x.faf∧x.fab.length≤maxLen
structure Ah where
 faa:Int
 fab:List UInt8
 fac:List (List UInt8)
 fad:List Aq
def Ah.tr (x:Ah):List Tr:=[.int .i64 x.faa,.str x.fab,.lst 1 (x.fac.map ah),.lst 3 (x.fad.map Aq.tr)]
def Ah.wf (x:Ah):Prop:=inI x.faa∧x.fab.length≤maxLen∧(x.fac.length≤maxLen∧∀y∈x.fac,y.length≤maxLen)∧(x.fad.length≤maxLen∧∀y∈x.fad,y.wf)
structure Aa where
 faI:Int
 fan:Int
 faN:Bool
 faM:Bool
def Aa.tr (x:Aa):List Tr:=[.int .i64 x.faI,.int .i64 x.fan,.bool x.faN,.bool x.faM]
def Aa.wf (x:Aa):Prop:=inI x.faI∧inI x.fan
structure Ag where
 faq:Aj
 faj:Int
 fah:Bool
 fas:List Int
 fak:Int
 faG:Bool
def Ag.tr (x:Ag):List Tr:=[.int .i64 x.faq.fai,.int .i64 x.faq.fax,.int .i64 x.faj,.bool x.fah,.lst 1 (x.fas.map aa),.int .i64 x.fak,.bool x.faG]
def Ag.wf (x:Ag):Prop:=x.faq.wf∧inI x.faj∧(x.fas.length≤maxLen∧∀y∈x.fas,inI y)∧inI x.fak
structure Ap where
 fab:List UInt8
 fah:Int
 faJ:Int
def Ap.tr (x:Ap):List Tr:=[.str x.fab,.int .i64 x.fah,.int .i64 x.faJ]
def Ap.wf (x:Ap):Prop:=x.fab.length≤maxLen∧inI x.fah∧inI x.faJ
structure Ae where
 fai:List UInt8
 fap:List Ap
def Ae.tr (x:Ae):List Tr:=[.str x.fai,.lst 3 (x.fap.map Ap.tr)]
def Ae.wf (x:Ae):Prop:=x.fai.length≤maxLen∧(x.fap.length≤maxLen∧∀y∈x.fap,y.wf)
structure Ao where
 faz:List Ae
 faD:List Int
 faA:List Int
def Ao.tr (x:Ao):List Tr:=[.lst 2 (x.faz.map Ae.tr),.lst 1 (x.faD.map aa),.lst 1 (x.faA.map aa)]
def Ao.wf (x:Ao):Prop:=(x.faz.length≤maxLen∧∀y∈x.faz,y.wf)∧(x.faD.length≤maxLen∧∀y∈x.faD,inI y)∧(x.faA.length≤maxLen∧∀y∈x.faA,inI y)
structure Ai where
 fau:Int
 faw:Int
 fav:Int
 faC:List Int
 fae:List Int
 faK:Int
 fao:Int
def Ai.tr (x:Ai):List Tr:=[.int .i64 x.fau,.int .i64 x.faw,.int .i64 x.fav,.lst 1 (x.faC.map aa),.lst 1 (x.fae.map aa),.int .i64 x.faK,.int .i64 x.fao]
def Ai.wf (x:Ai):Prop:=inI x.fau∧inI x.faw∧inI x.fav∧(x.faC.length≤maxLen∧∀y∈x.faC,inI y)∧(x.fae.length≤maxLen∧∀y∈x.fae,inI y)∧inI x.faK∧inI x.fao
structure Ak where
 fat:Int
 fam:Ag
def Ak.tr (x:Ak):List Tr:=[.int .i64 x.fat,.int .i64 x.fam.faq.fai,.int .i64 x.fam.faq.fax,.int .i64 x.fam.faj,.bool x.fam.fah,.lst 1 (x.fam.fas.map aa),.int .i64 x.fam.fak,.bool x.fam.faG]
def Ak.wf (x:Ak):Prop:=inI x.fat∧x.fam.wf
structure Am where
 fah:Int
 fal:Int
 faL:Bool
 fak:Int
def Am.tr (x:Am):List Tr:=[.int .i64 x.fah,.int .i64 x.fal,.bool x.faL,.int .i64 x.fak]
def Am.wf (x:Am):Prop:=inI x.fah∧inI x.fal∧inI x.fak
structure Ar where
 fau:Int
 faw:Int
 fav:Int
 faE:List Int
def Ar.tr (x:Ar):List Tr:=[.int .i64 x.fau,.int .i64 x.faw,.int .i64 x.fav,.lst 1 (x.faE.map aa)]
def Ar.wf (x:Ar):Prop:=inI x.fau∧inI x.faw∧inI x.fav∧(x.faE.length≤maxLen∧∀y∈x.faE,inI y)
structure Al where
 fat:Int
 faj:Int
 fah:Bool
def Al.tr (x:Al):List Tr:=[.int .i64 x.fat,.int .i64 x.faj,.bool x.fah]
def Al.wf (x:Al):Prop:=inI x.fat∧inI x.faj
structure Af where
 fah:Int
 fal:Int
 far:Int
 faj:Int
 fab:List UInt8
def Af.tr (x:Af):List Tr:=[.int .i64 x.fah,.int .i64 x.fal,.int .i64 x.far,.int .i64 x.faj,.str x.fab]
def Af.wf (x:Af):Prop:=inI x.fah∧inI x.fal∧inI x.far∧inI x.faj∧x.fab.length≤maxLen
structure Ab where
 faH:Int
 fap:List Ap
 fay:List Am
 faF:List Al
 faB:List Af
def Ab.tr (x:Ab):List Tr:=[.int .i64 x.faH,.lst 3 (x.fap.map Ap.tr),.lst 4 (x.fay.map Am.tr),.lst 3 (x.faF.map Al.tr),.lst 5 (x.faB.map Af.tr)]
def Ab.wf (x:Ab):Prop:=inI x.faH∧(x.fap.length≤maxLen∧∀y∈x.fap,y.wf)∧(x.fay.length≤maxLen∧∀y∈x.fay,y.wf)∧(x.faF.length≤maxLen∧∀y∈x.faF,y.wf)∧(x.faB.length≤maxLen∧∀y∈x.faB,y.wf)
structure Ac where
 fab:List UInt8
 faj:Int
def Ac.tr (x:Ac):List Tr:=[.str x.fab,.int .i64 x.faj]
def Ac.wf (x:Ac):Prop:=x.fab.length≤maxLen∧inI x.faj
end Go.Proofs.Ytjmplnfiabmalaa
namespace Go.Proofs.Ytjmplnfiabmalaa
open Go.Sim
set_option maxRecDepth 100000
def digs (n:Nat)(acc:List UInt8):List UInt8:=if n=0 then acc else digs (n / 10) (UInt8.ofNat (48+n % 10)::acc)
 termination_by n
 decreasing_by omega
def ve (k:Int):List UInt8:=if k≤0 then [109,48]else 109::digs k.toNat []
mutual
def cnT:Tr→Nat
 | .lst _ rows=>au rows
 | _=>1
def cnR:List Tr→Nat
 | []=>0
 | c::cs=>cnT c+cnR cs
def au:List (List Tr)→Nat
 | []=>0
 | r::rs=>cnR r+au rs
end
mutual
def mkT:Tr→Int→Tr
 | .int kd _,k=> .int kd k
 | .bool _,k=> .bool (k.tmod 3==0)
 | .str _,k=> .str (ve k)
 | .lst sz rows,k=> .lst sz (aG rows k)
def mkR:List Tr→Int→List Tr
 | [],_=>[]
 | c::cs,k=>mkT c k::mkR cs (k+(cnT c:Nat))
def aG:List (List Tr)→Int→List (List Tr)
 | [],_=>[]
 | r::rs,k=>mkR r k::aG rs (k+(cnR r:Nat))
end
theorem bH:∀(a b:List (List Tr)),au (a++b)=au a+au b
 | [],b=>by rw[List.nil_append,au];omega
 | r::a,b=>by rw[List.cons_append,au,au,bH a b];omega
theorem bq:∀(a b:List (List Tr)) (k:Int),aG (a++b) k=aG a k++aG b (k+(au a:Nat))
 | [],b,k=>by rw[List.nil_append,au,aG,List.nil_append];simp
 | r::a,b,k=>by
  rw[List.cons_append,aG,aG,bq a b,au,List.cons_append]
  congr 2
  congr 1
  omega
theorem bx:∀(a:List (List Tr)) (k:Int),(aG a k).length=a.length
 | [],_=>by rw[aG]
 | r::a,k=>by rw[aG,List.length_cons,List.length_cons,bx a]
theorem xN {rows:List (List Tr)}{M:Nat}(h:∀r∈rows,cnR r≤M):au rows≤rows.length * M:=by
 induction rows with
 | nil=>rw[au];omega
 | cons r rs ih=>
  rw[au,List.length_cons,Nat.succ_mul]
  have h1:=h r (by simp)
  have h2:=ih fun r hr=>h r (by simp[hr])
  omega
theorem dX {α:Type}{g:α→List Tr}{l:List α}{M:Nat}(h:∀x∈l,cnR (g x)≤M):au (l.map g)≤l.length * M:=by
 have:=xN (rows:=l.map g) (M:=M) fun r hr=>by obtain⟨x,hx,rfl⟩:=List.mem_map.1 hr;exact h x hx
 rwa [List.length_map]at this
theorem dH {α:Type}(g:α→List Tr)(a:List α)(x:α):au ((a++[x]).map g)=au (a.map g)+cnR (g x):=by
 rw[List.map_append,bH,List.map_cons,List.map_nil,au,au];omega
theorem fX {α:Type}(g:α→List Tr)(a:List α)(x:α)(k:Int):aG ((a++[x]).map g) k=aG (a.map g) k++[mkR (g x) (k+(au (a.map g):Nat))]:=by
 rw[List.map_append,bq,List.map_cons,List.map_nil,aG,aG]
theorem gN {α:Type}{D t:List α}{r:α}{n:Nat}(h:D.length=n):(D++r::t)[n]?=some r:=by
 subst h;simp
theorem kL {α:Type}{D t:List α}{r r':α}{n:Nat}(h:D.length=n):(D++r::t).set n r'=D++r'::t:=by
 subst h;simp
theorem gi {α:Type}{l:List α}{r:α}{n:Nat}(h:n < l.length):(l.set n r)[n]?=some r:=by simp[h]
theorem set_set {α:Type}(l:List α)(r r':α)(n:Nat):(l.set n r).set n r'=l.set n r':=List.set_set ..
theorem cS (a b:List (List Tr)):ae (a++b)=ae a++ae b:=by simp[ae]
theorem aE (a:List (List Tr)):(ae a).length=a.length:=by simp[ae]
theorem dS (r:List Tr)(b:List (List Tr)):ae (r::b)=r.map .d::ae b:=by simp[ae]
theorem undeep (a:List (List Tr)):(ae a).map (·.map DC.tr)=a:=by
 rw[ae,List.map_map]
 conv=>rhs;rw[←List.map_id a]
 apply List.map_congr_left
 intro r _
 simp only[Function.comp,List.map_map,id]
 conv=>rhs;rw[←List.map_id r]
 apply List.map_congr_left
 intro x _
 rfl
theorem jf (sz:Nat)(a:List (List Tr)):Tr.lst sz a=Tr.lst sz ((ae a).map (·.map DC.tr)):=by rw[undeep]
theorem qC {l:List (List Tr)}{k:Nat}{r:List Tr}(h:l[k]?=some r):(ae l)[k]?=some (r.map .d):=by simp[ae,h]
theorem rO (l:List (List Tr))(k:Nat)(r:List Tr):(ae l).set k (r.map .d)=ae (l.set k r):=by simp[ae,List.map_set]
theorem cQ {A:Prop}{Q:(ι:Type)→(ι→St)→Prop}(h:A):A∨∃(ι:Type) (S:ι→St),Q ι S:=Or.inl h
theorem dq {α:Type}{g:α→List Tr}(l:List α)(h:∀x,∀c∈g x,∀sz rs,c≠.lst sz rs):flat (l.map g):=by
 intro row hr c hc sz rs
 obtain⟨x,_,rfl⟩:=List.mem_map.1 hr
 exact h x c hc sz rs
theorem db (l:List Int):flat (l.map aa):=dq _ (by intro x c hc sz rs e;subst e;simp[aa]at hc)
theorem fV {α:Type}(a b:List α)(x:α):a++[x]++b=a++x::b:=by simp
end Go.Proofs.Ytjmplnfiabmalaa
namespace Go.Proofs.Ytjmplnfiabmalaa
open Go.Sim
abbrev tvI (n:Int):TV:= .c (.int .i64 n)
abbrev tvS (n:List UInt8):TV:= .c (.str n)
abbrev rI (n:Int):Res:= .r (.c (.t (.int .i64 n)))
abbrev rB (b:Bool):Res:= .r (.c (.t (.bool b)))
abbrev rS (b:List UInt8):Res:= .r (.c (.t (.str b)))
def af (n lo hi:Int):Bool:=decide (lo≤n) && decide (n≤hi)
theorem within_iff {n lo hi:Int}:af n lo hi=true↔lo≤n∧n≤hi:=by simp[af]
set_option maxRecDepth 100000
theorem aZ (n lo hi:Int):Sim.Spec Try.prog 31 [tvI n,tvI lo,tvI hi] (rB (af n lo hi)):=by
 refine an hΓ ap Try.func31 rfl (by decide) rfl ?_
 repeat' ((conv=>whnf);first|refine Or.inl ?_|apply oi|(apply fi<;>intro h)|refine⟨_,rfl,?_⟩|exact rfl)
 all_goals try exact⟨KO⟩
 all_goals refine⟨?_⟩
 all_goals simp_all[af]
 all_goals omega
theorem dx (n lo hi:Int):Sim.Spec Try.prog 27 [tvI n,tvI lo,tvI hi] (rB (af n lo hi)):=by
 refine an hΓ ap Try.func27 rfl (by decide) rfl ?_
 repeat' ((conv=>whnf);first|refine Or.inl ?_|apply oi|(apply fi<;>intro h)|refine⟨_,rfl,?_⟩|exact rfl)
 all_goals try exact⟨KO⟩
 all_goals refine⟨?_⟩
 all_goals simp_all[af]
 all_goals omega
def signed (n:Int):Int:=if af n 0 1099511627775 then(if n % 2=1 then -((n+1) / 2)else n / 2)else 0
end Go.Proofs.Ytjmplnfiabmalaa
namespace Go.Proofs.Ytjmplnfiabmalaa
open Go.Sim
set_option maxRecDepth 100000
def zh (n:Nat):List UInt8:=if n≤127 then [UInt8.ofNat n]else UInt8.ofNat (n % 128+128)::zh (n / 128)
 termination_by n
 decreasing_by omega
def enc (n:Int):List UInt8:=if af n 0 1099511627775 then zh n.toNat else []
abbrev tvL (sz:Nat)(rows:List (List Tr)):TV:= .c (.lst sz rows)
abbrev rL (sz:Nat)(rows:List (List Tr)):Res:= .r (.c (.arr sz rows))
def cZ {α:Type}(l:List α)(z:α)(k:Nat):List α:=l.take k++List.replicate (l.length - k) z
theorem dU {α:Type}(l:List α)(z:α):List.replicate l.length z=cZ l z 0:=by simp[cZ]
theorem jO {α:Type}{l:List α}{z:α}{k:Nat}(h:l.length≤k):cZ l z k=l:=by
 simp[cZ,List.take_of_length_le h,Nat.sub_eq_zero_of_le h]
theorem jF {α:Type}{l:List α}{z:α}{k:Nat}(h:k≤l.length):(cZ l z k).length=l.length:=by
 simp[cZ];omega
theorem jT {α:Type}{l:List α}{z:α}{k:Nat}(h:k < l.length):(cZ l z k)[k]?=some z:=by
 rw[cZ,List.getElem?_append_right (by simp;omega),List.getElem?_replicate,if_pos (by simp;omega)]
theorem jD {α:Type}{l:List α}{z x:α}{k:Nat}(h:l[k]?=some x):(cZ l z k).set k x=cZ l z (k+1):=by
 have hk:k < l.length:=by
  rcases Nat.lt_or_ge k l.length with h'|h'
  ·exact h'
  ·rw[List.getElem?_eq_none h']at h;cases h
 have hx:l[k]=x:=by rw[List.getElem?_eq_getElem hk]at h;injection h
 obtain⟨m,hm⟩:∃m,l.length - k=m+1:=⟨l.length - k - 1,by omega⟩
 rw[cZ,cZ,List.set_append_right _ _ (by simp;omega),hm,List.replicate_succ,List.take_succ_eq_append_getElem hk,hx,show l.length - (k+1)=m by omega]
 simp[Nat.min_eq_left (Nat.le_of_lt hk)]
theorem ab {α β:Type}{f:α→β}{l:List α}{k:Nat}{x:α}(h:l[k]?=some x):(l.map f)[k]?=some (f x):=by simp[h]
theorem ak {α:Type}{l:List α}{k:Nat}(h:k < l.length):∃x,l[k]?=some x:=⟨_,List.getElem?_eq_getElem h⟩
theorem yP {ns ms:List Int}{k:Nat}{x y:Int}(h1:ns[k]?=some x)(h2:ms[k]?=some y)(hne:x≠y):(ns==ms)=false:=by
 rw[beq_eq_false_iff_ne]
 intro e
 subst e
 rw[h1]at h2
 injection h2 with h2
 exact hne h2
theorem yi {ns ms:List Int}(h:ns.length≠ms.length):(ns==ms)=false:=by
 rw[beq_eq_false_iff_ne]
 intro e;subst e;exact h rfl
theorem fF (ns ms:List Int)(hl:ns.length≤1048576):Sim.Spec Try.prog 35 [tvL 1 (ns.map aa),tvL 1 (ms.map aa)] (rB (ns==ms)):=by
 refine an hΓ ap Try.func35 rfl (by decide) rfl ?_
 have hlen:(ns.map aa).length=ns.length:=by simp
 have hlen2:(ms.map aa).length=ms.length:=by simp
 repeat' ((conv=>whnf);first|refine Or.inl ?_|apply oi|(apply fi<;>intro h)|refine⟨_,rfl,?_⟩|exact rfl)
 all_goals try exact⟨KO⟩
 ·rw[hlen,hlen2]at h
  rw[yi (by intro e;rw[e]at h;simp at h)]
  exact⟨rfl⟩
 have hle:ns.length=ms.length:=by
  rw[hlen,hlen2]at h
  have:((ns.length:Int)==(ms.length:Int))=true:=by simpa using h
  have:=eq_of_beq this
  omega
 repeat' ((conv=>whnf);first|refine Or.inl ?_|apply oi|(apply fi<;>intro h)|refine⟨_,rfl,?_⟩|exact rfl)
 all_goals try exact⟨KO⟩
 conv=>whnf
 refine⟨{k:Nat // k≤ns.length∧∀j,j < k→ns[j]?=ms[j]?},fun k=>⟨[(0,.r (.c (.t (.lst 1 (ns.map aa))))),(1,.r (.c (.t (.lst 1 (ms.map aa))))),(5,tI .i64 (k.1:Int))],[],[]⟩,fun k=>ns.length - k.1,⟨0,by omega,fun j hj=>by omega⟩,?_,?_⟩
 ·skip
  repeat' ((conv=>whnf);first|refine Or.inl ?_|apply oi|(apply fi<;>intro h)|refine⟨_,rfl,?_⟩|exact rfl)
  all_goals try exact⟨KO⟩
 intro⟨k,hk,hsame⟩
 dsimp only
 repeat' ((conv=>whnf);first|refine Or.inl ?_|apply oi|(apply fi<;>intro h)|refine⟨_,rfl,?_⟩|exact rfl)
 all_goals try exact⟨KO⟩
 ·have hlt:k < ns.length:=by have:=of_decide_eq_true h;omega
  obtain⟨x,hx⟩:=ak hlt
  obtain⟨y,hy⟩:=ak (show k < ms.length by omega)
  conv=>whnf
  refine⟨k,aa x,rfl,ab hx,?_⟩
  repeat' ((conv=>whnf);first|refine Or.inl ?_|apply oi|(apply fi<;>intro h)|refine⟨_,rfl,?_⟩|exact rfl)
  all_goals try exact⟨KO⟩
  conv=>whnf
  refine⟨k,aa y,rfl,ab hy,?_⟩
  repeat' ((conv=>whnf);first|refine Or.inl ?_|apply oi|(apply fi<;>intro h)|refine⟨_,rfl,?_⟩|exact rfl)
  all_goals try exact⟨KO⟩
  ·rw[yP hx hy (by simpa using h)]
   exact⟨rfl⟩
  have hxy:x=y:=by simpa using h
  conv=>whnf
  refine⟨⟨k+1,by omega,fun j hj=>?_⟩,?_,KD⟩
  ·rcases Nat.lt_or_ge j k with h'|h'
   ·exact hsame j h'
   ·have:j=k:=by omega
    subst this
    rw[hx,hy,hxy]
  repeat' ((conv=>whnf);first|refine Or.inl ?_|apply oi|(apply fi<;>intro h)|refine⟨_,rfl,?_⟩|exact rfl)
  all_goals try exact⟨KO⟩
  exact⟨by dsimp only;rw[IntWalk.i64_in _ (by omega)];rfl⟩
 ·have hge:ns.length≤k:=by have:=of_decide_eq_false h;omega
  have:ns=ms:=List.ext_getElem? fun j=>by
   rcases Nat.lt_or_ge j k with h'|h'
   ·exact hsame j h'
   ·rw[List.getElem?_eq_none (by omega),List.getElem?_eq_none (by omega)]
  subst this
  exact⟨by simp⟩
theorem dB {α:Type}{l:List α}{k:Nat}{x:α}(h:l[k]?=some x):l.drop k=x::l.drop (k+1):=by
 have hk:k < l.length:=by
  rcases Nat.lt_or_ge k l.length with h'|h'
  ·exact h'
  ·rw[List.getElem?_eq_none h']at h;cases h
 rw[List.getElem?_eq_getElem hk]at h
 injection h with h
 rw[←h]
 exact List.drop_eq_getElem_cons hk
end Go.Proofs.Ytjmplnfiabmalaa
namespace Go.Proofs.Ytjmplnfiabmalaa
open Go.Sim Go.RowKit
set_option maxRecDepth 100000
theorem rn {n:Int}(h:(Lit.int .i64 n).wf=true):inI n:=⟨za h,yV h⟩
theorem yO {r:List Tr}(h:∃s:List UInt8,r=[Tr.str s]∧s.length≤maxLen):∃m,r=ah m∧m.length≤maxLen:=by
 obtain⟨m,rfl,hw⟩:=h
 exact⟨m,rfl,hw⟩
theorem aS {α:Type}{g:α→List Tr}{L:Int}{l:List α}{sz:Nat}(h:aF L (.lst sz (l.map g))){x:α}(hx:x∈l):ay L (g x):=by
 rw[aF]at h
 exact mA h.2 _ (List.mem_map_of_mem hx)
theorem cm {α:Type}{g:α→List Tr}{L:Int}{l:List α}{sz:Nat}(h:aF L (.lst sz (l.map g))):(l.length:Int)≤L:=by
 rw[aF]at h
 simpa using h.1
theorem aX {α:Type}{g:α→List Tr}{l:List α}{sz:Nat}(h:aF 1048576 (.lst sz (l.map g))):l.length≤1048576:=by
 have:=cm h
 omega
theorem lD (ns:List (List UInt8))(hs:aF 1048576 (.lst 1 (ns.map ah))):Sim.Spec Try.prog 62 [tvL 1 (ns.map ah)] (rL 1 (ns.map ah)):=by
 have hl:=cm hs
 refine an hΓ ap Try.func62 rfl (by decide) rfl ?_
 have hlen:(ns.map ah).length=ns.length:=by simp
 repeat' ((conv=>whnf);first|refine Or.inl ?_|apply oi|(apply fi<;>intro h)|refine⟨_,rfl,?_⟩|exact rfl)
 all_goals try exact⟨KO⟩
 ·exact⟨by omega⟩
 ·exact⟨by dsimp only;omega⟩
 repeat' ((conv=>whnf);first|refine Or.inl ?_|apply oi|(apply fi<;>intro h)|refine⟨_,rfl,?_⟩|exact rfl)
 all_goals try exact⟨KO⟩
 conv=>whnf
 refine⟨{k:Nat // k≤ns.length},fun k=>⟨[(0,.r (.c (.t (.lst 1 (ns.map ah))))),(3,.r (.c (.own (3,0,0)))),(4,tI .i64 (k.1:Int))],[((3,0,0),some (.arr true 1 (cZ (ns.map ah) (ah []) k.1)))],[3]⟩,fun k=>ns.length - k.1,⟨0,by omega⟩,?_,?_⟩
 ·skip
  repeat' ((conv=>whnf);first|refine Or.inl ?_|apply oi|(apply fi<;>intro h)|refine⟨_,rfl,?_⟩|exact rfl)
  all_goals try exact⟨KO⟩
 intro⟨k,hk⟩
 dsimp only
 repeat' ((conv=>whnf);first|refine Or.inl ?_|apply oi|(apply fi<;>intro h)|refine⟨_,rfl,?_⟩|exact rfl)
 all_goals try exact⟨KO⟩
 ·have hlt:k < ns.length:=by have:=of_decide_eq_true h;omega
  obtain⟨x,hx⟩:=ak hlt
  conv=>whnf
  refine⟨k,ah x,rfl,ab hx,?_⟩
  repeat' ((conv=>whnf);first|refine Or.inl ?_|apply oi|(apply fi<;>intro h)|refine⟨_,rfl,?_⟩|exact rfl)
  all_goals try exact⟨KO⟩
  ·exact⟨by rw[jF (by omega)];omega⟩
  conv=>whnf
  refine⟨ah [],jT (by omega),?_⟩
  repeat' ((conv=>whnf);first|refine Or.inl ?_|apply oi|(apply fi<;>intro h)|refine⟨_,rfl,?_⟩|exact rfl)
  all_goals try exact⟨KO⟩
  conv=>whnf
  refine⟨⟨k+1,by omega⟩,?_,KD⟩
  repeat' ((conv=>whnf);first|refine Or.inl ?_|apply oi|(apply fi<;>intro h)|refine⟨_,rfl,?_⟩|exact rfl)
  all_goals try exact⟨KO⟩
  ·exact⟨by dsimp only;rw[IntWalk.i64_in _ (by omega)];rfl⟩
  ·exact⟨jD (ab hx)⟩
 ·have hge:ns.length≤k:=by have:=of_decide_eq_false h;omega
  exact⟨jO (by omega)⟩
theorem lI (ns:List (List UInt8))(hs:aF 1048576 (.lst 1 (ns.map ah))):Sim.Spec Try.prog 75 [tvL 1 (ns.map ah),tvL 1 (ns.map ah)] (rB true):=by
 have hl:=cm hs
 refine an hΓ ap Try.func75 rfl (by decide) rfl ?_
 have hlen:(ns.map ah).length=ns.length:=by simp
 repeat' ((conv=>whnf);first|refine Or.inl ?_|apply oi|(apply fi<;>intro h)|refine⟨_,rfl,?_⟩|exact rfl)
 all_goals try exact⟨KO⟩
 ·simp at h
 conv=>whnf
 refine⟨{k:Nat // k≤ns.length},fun k=>⟨[(0,.r (.c (.t (.lst 1 (ns.map ah))))),(1,.r (.c (.t (.lst 1 (ns.map ah))))),(5,tI .i64 (k.1:Int))],[],[]⟩,fun k=>ns.length - k.1,⟨0,by omega⟩,?_,?_⟩
 ·skip
  repeat' ((conv=>whnf);first|refine Or.inl ?_|apply oi|(apply fi<;>intro h)|refine⟨_,rfl,?_⟩|exact rfl)
  all_goals try exact⟨KO⟩
 intro⟨k,hk⟩
 dsimp only
 repeat' ((conv=>whnf);first|refine Or.inl ?_|apply oi|(apply fi<;>intro h)|refine⟨_,rfl,?_⟩|exact rfl)
 all_goals try exact⟨KO⟩
 ·have hlt:k < ns.length:=by have:=of_decide_eq_true h;omega
  obtain⟨x,hx⟩:=ak hlt
  conv=>whnf
  refine⟨k,ah x,rfl,ab hx,?_⟩
  repeat' ((conv=>whnf);first|refine Or.inl ?_|apply oi|(apply fi<;>intro h)|refine⟨_,rfl,?_⟩|exact rfl)
  all_goals try exact⟨KO⟩
  conv=>whnf
  refine⟨k,ah x,rfl,ab hx,?_⟩
  repeat' ((conv=>whnf);first|refine Or.inl ?_|apply oi|(apply fi<;>intro h)|refine⟨_,rfl,?_⟩|exact rfl)
  all_goals try exact⟨KO⟩
  ·simp at h
  conv=>whnf
  refine⟨⟨k+1,by omega⟩,?_,KD⟩
  repeat' ((conv=>whnf);first|refine Or.inl ?_|apply oi|(apply fi<;>intro h)|refine⟨_,rfl,?_⟩|exact rfl)
  all_goals try exact⟨KO⟩
  exact⟨by dsimp only;rw[IntWalk.i64_in _ (by omega)];rfl⟩
theorem lJ (ns:List (List UInt8))(hw:ns.length≤maxLen∧∀y∈ns,y.length≤maxLen)(left:Int)(hle0:0≤left)(hle1:left≤1048576):Sim.Spec Try.prog 55 [tvL 1 (ns.map ah),tvI left] (rI (szT (.lst 1 (ns.map ah)) left)):=by
 have hlen:(ns.map ah).length=ns.length:=by simp
 have hl2:ns.length≤9223372036854775807:=by simpa [maxLen]using hw.1
 rw[szT]
 refine an hΓ ap Try.func55 rfl (by decide) rfl ?_
 repeat' ((conv=>whnf);first|refine Or.inl ?_|apply oi|(apply fi<;>intro h)|refine⟨_,rfl,?_⟩|exact rfl)
 all_goals try exact⟨KO⟩
 ·refine⟨congrArg (Tr.int _) ?_⟩
  have h2:=of_decide_eq_true h
  rw[IntWalk.i64_in _ (by omega)]at h2
  rw[if_pos h2]
 have h2:=of_decide_eq_false h
 rw[IntWalk.i64_in _ (by omega)]at h2 ⊢
 rw[if_neg h2]
 conv=>whnf
 refine⟨{q:Nat×Int // q.1≤ns.length∧0≤q.2∧q.2≤1048576∧gX ((ns.drop q.1).map ah) q.2=gX (ns.map ah) (left - (ns.map ah).length)},fun q=>⟨[(0,.r (.c (.t (.lst 1 (ns.map ah))))),(1,tI .i64 q.1.2),(5,tI .i64 (q.1.1:Int))],[],[]⟩,fun q=>ns.length - q.1.1,⟨(0,left - (ns.map ah).length),by simp,by dsimp only;omega,by dsimp only;omega,by simp⟩,?_,?_⟩
 ·skip
  repeat' ((conv=>whnf);first|refine Or.inl ?_|apply oi|(apply fi<;>intro h)|refine⟨_,rfl,?_⟩|exact rfl)
  all_goals try exact⟨KO⟩
 intro⟨⟨k,lk⟩,hk,h0,h1,hsz⟩
 dsimp only at hk h0 h1 hsz ⊢
 repeat' ((conv=>whnf);first|refine Or.inl ?_|apply oi|(apply fi<;>intro h)|refine⟨_,rfl,?_⟩|exact rfl)
 all_goals try exact⟨KO⟩
 ·have hlt:k < ns.length:=by have:=of_decide_eq_true h;omega
  obtain⟨x,hx⟩:=ak hlt
  have hxl:x.length≤9223372036854775807:=by simpa [maxLen]using hw.2 x (List.mem_of_getElem? hx)
  rw[dB hx,List.map_cons,gX,ah,szR,szT]at hsz
  conv=>whnf
  refine⟨k,ah x,rfl,ab hx,?_⟩
  repeat' ((conv=>whnf);first|refine Or.inl ?_|apply oi|(apply fi<;>intro h)|refine⟨_,rfl,?_⟩|exact rfl)
  all_goals try exact⟨KO⟩
  ·refine⟨congrArg (Tr.int _) ?_⟩
   have h3:=of_decide_eq_true h
   rw[IntWalk.i64_in _ (by omega)]at h3
   rw[←hsz,if_pos h3]
   simp
  have h3:=of_decide_eq_false h
  rw[IntWalk.i64_in _ (by omega)]at h3
  rw[if_neg h3,if_neg h3,szR,if_neg h3]at hsz
  conv=>whnf
  refine⟨⟨(k+1,lk - x.length),by dsimp only;omega,by dsimp only;omega,by dsimp only;omega,hsz⟩,?_,KD⟩
  repeat' ((conv=>whnf);first|refine Or.inl ?_|apply oi|(apply fi<;>intro h)|refine⟨_,rfl,?_⟩|exact rfl)
  all_goals try exact⟨KO⟩
  ·exact⟨by dsimp only;rw[IntWalk.i64_in _ (by omega)]⟩
  ·exact⟨by dsimp only;rw[IntWalk.i64_in _ (by omega)];rfl⟩
 ·have hge:ns.length≤k:=by have:=of_decide_eq_false h;omega
  rw[List.drop_eq_nil_of_le hge,List.map_nil,gX]at hsz
  exact⟨congrArg (Tr.int _) hsz⟩
theorem yC {row:List Tr}(h:eu Γ 8 111 row):∃x:Aq,row=x.tr∧x.wf:=by
 obtain⟨_,_,rfl,⟨x0,rfl,w0⟩,_,_,rfl,⟨x1,rfl,w1⟩,_,_,rfl,⟨x2,rfl,w2⟩,rfl⟩:=h
 exact⟨⟨x0,x1,x2⟩,rfl,⟨rn w0,rn w1,w2⟩⟩
theorem xU {row:List Tr}(h:eu Γ 8 55 row):∃x:Ah,row=x.tr∧x.wf:=by
 obtain⟨_,_,rfl,⟨x0,rfl,w0⟩,_,_,rfl,⟨x1,rfl,w1⟩,_,_,rfl,⟨r2,rfl,w2,e2⟩,_,_,rfl,⟨r3,rfl,w3,e3⟩,rfl⟩:=h
 obtain⟨x2,rfl,v2⟩:=lc (g:=ah) (Q:=(fun y=>y.length≤maxLen)) (rows:=r2) (fun r hr=>yO (e2 r hr))
 obtain⟨x3,rfl,v3⟩:=lc (g:=Aq.tr) (Q:=(fun y=>y.wf)) (rows:=r3) (fun r hr=>yC (sd (by decide) (e3 r hr)))
 exact⟨⟨x0,x1,x2,x3⟩,rfl,⟨rn w0,w1,⟨by simpa using w2,v2⟩,⟨by simpa using w3,v3⟩⟩⟩
theorem rQ (x:Aq)(hs:ay 1048576 x.tr):Sim.Spec Try.prog 92 [.agg x.tr] (.r (.agg (x.tr.map yA))):=by
 simp only[Aq.tr,ay]at hs
 refine an hΓ ap Try.func92 rfl (by decide) rfl ?_
 repeat' ((conv=>whnf);first|refine Or.inl ?_|apply oi|(apply fi<;>intro h)|refine⟨_,rfl,?_⟩|exact rfl)
 all_goals try exact⟨KO⟩
theorem kp (x:Aq)(hs:ay 1048576 x.tr):Sim.Spec Try.prog 101 [.agg x.tr,.agg x.tr] (rB true):=by
 simp only[Aq.tr,ay]at hs
 refine an hΓ ap Try.func101 rfl (by decide) rfl ?_
 repeat' ((conv=>whnf);first|refine Or.inl ?_|apply oi|(apply fi<;>intro h)|refine⟨_,rfl,?_⟩|exact rfl)
 all_goals try exact⟨KO⟩
 all_goals simp at *
theorem qI (x:Aq)(hw:x.wf)(left:Int)(hle0:0≤left)(hle1:left≤1048576):Sim.Spec Try.prog 89 [.agg x.tr,tvI left] (rI (szR x.tr left)):=by
 simp only[Aq.wf,maxLen]at hw
 obtain⟨Z,hz0⟩:∃Z,Z=szR x.tr left:=⟨_,rfl⟩
 have hz:=hz0
 rw[Aq.tr]at hz
 refine an hΓ ap Try.func89 rfl (by decide) rfl ?_
 rw[qR (by omega)]at hz
 rw[qR (by omega)]at hz
 repeat' ((conv=>whnf);first|refine Or.inl ?_|apply oi|(apply fi<;>intro h)|refine⟨_,rfl,?_⟩|exact rfl)
 all_goals try exact⟨KO⟩
 ·have h2:=of_decide_eq_true h
  rw[IntWalk.i64_in _ (by omega)]at h2
  exact⟨congrArg (Tr.int _) (hz0.symm.trans (hz.trans (mO h2))).symm⟩
 have g1:=of_decide_eq_false h
 rw[IntWalk.i64_in _ (by omega)]at g1
 clear h
 rw[IntWalk.i64_in (left - x.fab.length) (by omega)]
 rw[uS g1]at hz
 all_goals exact⟨congrArg (Tr.int _) ((hz0.symm.trans (hz.trans (uz _))).symm)⟩
theorem pE (xs:List (Aq))(hs:aF 1048576 (.lst 3 (xs.map Aq.tr))):Sim.Spec Try.prog 63 [tvL 3 (xs.map Aq.tr)] (rL 3 (xs.map Aq.tr)):=by
 have hl:=cm hs
 have hlen:(xs.map Aq.tr).length=xs.length:=by simp
 refine an hΓ ap Try.func63 rfl (by decide) rfl ?_
 repeat' ((conv=>whnf);first|refine Or.inl ?_|apply oi|(apply fi<;>intro h)|refine⟨_,rfl,?_⟩|exact rfl)
 all_goals try exact⟨KO⟩
 ·exact⟨by omega⟩
 ·exact⟨by dsimp only;omega⟩
 repeat' ((conv=>whnf);first|refine Or.inl ?_|apply oi|(apply fi<;>intro h)|refine⟨_,rfl,?_⟩|exact rfl)
 all_goals try exact⟨KO⟩
 conv=>whnf
 refine⟨{k:Nat // k≤xs.length},fun k=>⟨[(0,.r (.c (.t (.lst 3 (xs.map Aq.tr))))),(3,.r (.c (.own (3,0,0)))),(4,tI .i64 (k.1:Int))],[((3,0,0),some (.arr true 3 (cZ (xs.map Aq.tr) [.int .i64 0,.int .i64 0,.str []] k.1)))],[3]⟩,fun k=>xs.length - k.1,⟨0,by omega⟩,?_,?_⟩
 ·skip
  repeat' ((conv=>whnf);first|refine Or.inl ?_|apply oi|(apply fi<;>intro h)|refine⟨_,rfl,?_⟩|exact rfl)
  all_goals try exact⟨KO⟩
  all_goals exact⟨by first|(rw[←dU,hlen];done)|(rw[←dU,hlen,ae,List.map_replicate];done)|(rw[←dU,hlen,ae,List.map_replicate];rfl)⟩
 intro⟨k,hk⟩
 dsimp only
 repeat' ((conv=>whnf);first|refine Or.inl ?_|apply oi|(apply fi<;>intro h)|refine⟨_,rfl,?_⟩|exact rfl)
 all_goals try exact⟨KO⟩
 ·have hlt:k < xs.length:=by have:=of_decide_eq_true h;omega
  obtain⟨x,hx⟩:=ak hlt
  have hsr:=aS hs (List.mem_of_getElem? hx)
  conv=>whnf
  refine⟨k,_,rfl,ab hx,?_⟩
  repeat' ((conv=>whnf);first|refine Or.inl ?_|apply oi|(apply fi<;>intro h)|refine ci ((rQ x hsr)) (ai (ai rfl (ai rfl (ai rfl trivial))) trivial) ?_|refine⟨_,rfl,?_⟩|exact rfl)
  all_goals try exact⟨KO⟩
  ·exact⟨by rw[jF (by omega)];omega⟩
  conv=>whnf
  refine⟨_,jT (by omega),?_⟩
  repeat' ((conv=>whnf);first|refine Or.inl ?_|apply oi|(apply fi<;>intro h)|refine⟨_,rfl,?_⟩|exact rfl)
  all_goals try exact⟨KO⟩
  conv=>whnf
  refine⟨⟨k+1,by omega⟩,?_,KD⟩
  repeat' ((conv=>whnf);first|refine Or.inl ?_|apply oi|(apply fi<;>intro h)|refine⟨_,rfl,?_⟩|exact rfl)
  all_goals try exact⟨KO⟩
  ·exact⟨by dsimp only;rw[IntWalk.i64_in _ (by omega)];rfl⟩
  ·exact⟨jD (ab hx)⟩
 ·have hge:xs.length≤k:=by have:=of_decide_eq_false h;omega
  exact⟨jO (by omega)⟩
theorem pu (xs:List (Aq))(hs:aF 1048576 (.lst 3 (xs.map Aq.tr))):Sim.Spec Try.prog 76 [tvL 3 (xs.map Aq.tr),tvL 3 (xs.map Aq.tr)] (rB true):=by
 have hl:=cm hs
 have hlen:(xs.map Aq.tr).length=xs.length:=by simp
 refine an hΓ ap Try.func76 rfl (by decide) rfl ?_
 repeat' ((conv=>whnf);first|refine Or.inl ?_|apply oi|(apply fi<;>intro h)|refine⟨_,rfl,?_⟩|exact rfl)
 all_goals try exact⟨KO⟩
 ·simp at h
 conv=>whnf
 refine⟨{k:Nat // k≤xs.length},fun k=>⟨[(0,.r (.c (.t (.lst 3 (xs.map Aq.tr))))),(1,.r (.c (.t (.lst 3 (xs.map Aq.tr))))),(5,tI .i64 (k.1:Int))],[],[]⟩,fun k=>xs.length - k.1,⟨0,by omega⟩,?_,?_⟩
 ·skip
  repeat' ((conv=>whnf);first|refine Or.inl ?_|apply oi|(apply fi<;>intro h)|refine⟨_,rfl,?_⟩|exact rfl)
  all_goals try exact⟨KO⟩
 intro⟨k,hk⟩
 dsimp only
 repeat' ((conv=>whnf);first|refine Or.inl ?_|apply oi|(apply fi<;>intro h)|refine⟨_,rfl,?_⟩|exact rfl)
 all_goals try exact⟨KO⟩
 ·have hlt:k < xs.length:=by have:=of_decide_eq_true h;omega
  obtain⟨x,hx⟩:=ak hlt
  have hsr:=aS hs (List.mem_of_getElem? hx)
  conv=>whnf
  refine⟨k,_,rfl,ab hx,?_⟩
  repeat' ((conv=>whnf);first|refine Or.inl ?_|apply oi|(apply fi<;>intro h)|refine ci ((kp x hsr)) (ai (ai rfl (ai rfl (ai rfl trivial))) (ai (ai rfl (ai rfl (ai rfl trivial))) trivial)) ?_|refine⟨_,rfl,?_⟩|exact rfl)
  all_goals try exact⟨KO⟩
  conv=>whnf
  refine⟨k,_,rfl,ab hx,?_⟩
  repeat' ((conv=>whnf);first|refine Or.inl ?_|apply oi|(apply fi<;>intro h)|refine ci ((kp x hsr)) (ai (ai rfl (ai rfl (ai rfl trivial))) (ai (ai rfl (ai rfl (ai rfl trivial))) trivial)) ?_|refine⟨_,rfl,?_⟩|exact rfl)
  all_goals try exact⟨KO⟩
  all_goals try(exfalso;simp at h;done)
  conv=>whnf
  refine⟨⟨k+1,by omega⟩,?_,KD⟩
  repeat' ((conv=>whnf);first|refine Or.inl ?_|apply oi|(apply fi<;>intro h)|refine⟨_,rfl,?_⟩|exact rfl)
  all_goals try exact⟨KO⟩
  exact⟨by dsimp only;rw[IntWalk.i64_in _ (by omega)];rfl⟩
theorem pH (xs:List (Aq))(hw:xs.length≤maxLen∧∀y∈xs,y.wf)(left:Int)(hle0:0≤left)(hle1:left≤1048576):Sim.Spec Try.prog 56 [tvL 3 (xs.map Aq.tr),tvI left] (rI (szT (.lst 3 (xs.map Aq.tr)) left)):=by
 have hl2:(xs.map Aq.tr).length≤9223372036854775807:=by simpa [maxLen]using hw.1
 have hlen:(xs.map Aq.tr).length=xs.length:=by simp
 rw[szT]
 refine an hΓ ap Try.func56 rfl (by decide) rfl ?_
 repeat' ((conv=>whnf);first|refine Or.inl ?_|apply oi|(apply fi<;>intro h)|refine⟨_,rfl,?_⟩|exact rfl)
 all_goals try exact⟨KO⟩
 ·refine⟨congrArg (Tr.int _) ?_⟩
  have h2:=of_decide_eq_true h
  rw[IntWalk.i64_in _ (by omega)]at h2
  rw[if_pos h2]
 have h2:=of_decide_eq_false h
 rw[IntWalk.i64_in _ (by omega)]at h2 ⊢
 rw[if_neg h2]
 conv=>whnf
 refine⟨{q:Nat×Int // q.1≤xs.length∧0≤q.2∧q.2≤1048576∧gX ((xs.drop q.1).map Aq.tr) q.2=gX (xs.map Aq.tr) (left - (xs.map Aq.tr).length)},fun q=>⟨[(0,.r (.c (.t (.lst 3 (xs.map Aq.tr))))),(1,tI .i64 q.1.2),(5,tI .i64 (q.1.1:Int))],[],[]⟩,fun q=>xs.length - q.1.1,⟨(0,left - (xs.map Aq.tr).length),by simp,by dsimp only;omega,by dsimp only;omega,by simp⟩,?_,?_⟩
 ·skip
  repeat' ((conv=>whnf);first|refine Or.inl ?_|apply oi|(apply fi<;>intro h)|refine⟨_,rfl,?_⟩|exact rfl)
  all_goals try exact⟨KO⟩
 intro⟨⟨k,lk⟩,hk,h0,h1,hsz⟩
 dsimp only at hk h0 h1 hsz ⊢
 repeat' ((conv=>whnf);first|refine Or.inl ?_|apply oi|(apply fi<;>intro h)|refine⟨_,rfl,?_⟩|exact rfl)
 all_goals try exact⟨KO⟩
 ·have hlt:k < xs.length:=by have:=of_decide_eq_true h;omega
  obtain⟨x,hx⟩:=ak hlt
  have hxw:=hw.2 x (List.mem_of_getElem? hx)
  rw[dB hx,List.map_cons,gX]at hsz
  conv=>whnf
  refine⟨k,_,rfl,ab hx,?_⟩
  repeat' ((conv=>whnf);first|refine Or.inl ?_|apply oi|(apply fi<;>intro h)|refine ci ((qI x hxw lk h0 h1)) (ai (ai rfl (ai rfl (ai rfl trivial))) (ai rfl trivial)) ?_|refine⟨_,rfl,?_⟩|exact rfl)
  all_goals try exact⟨KO⟩
  ·refine⟨congrArg (Tr.int _) ?_⟩
   rw[←hsz,if_pos (of_decide_eq_true h)]
  have h3:=of_decide_eq_false h
  rw[if_neg h3]at hsz
  have hsm:=iZ (L:=1048576) _ _ (Int.not_lt.1 h3) h1
  conv=>whnf
  refine⟨⟨(k+1,_),by dsimp only;omega,by dsimp only;exact Int.not_lt.1 h3,by dsimp only;exact Int.le_trans hsm.2 h1,hsz⟩,?_,KD⟩
  repeat' ((conv=>whnf);first|refine Or.inl ?_|apply oi|(apply fi<;>intro h)|refine⟨_,rfl,?_⟩|exact rfl)
  all_goals try exact⟨KO⟩
  exact⟨by dsimp only;rw[IntWalk.i64_in _ (by omega)];rfl⟩
 ·have hge:xs.length≤k:=by have:=of_decide_eq_false h;omega
  rw[List.drop_eq_nil_of_le hge,List.map_nil,gX]at hsz
  exact⟨congrArg (Tr.int _) hsz⟩
theorem pz (x:Ah)(hs:ay 1048576 x.tr):Sim.Spec Try.prog 29 [.agg x.tr] (.r (.agg (x.tr.map yA))):=by
 simp only[Ah.tr,ay]at hs
 refine an hΓ ap Try.func29 rfl (by decide) rfl ?_
 repeat' ((conv=>whnf);first|refine Or.inl ?_|apply oi|(apply fi<;>intro h)|refine ci ((lD x.fac hs.2.2.1)) (ai rfl trivial) ?_|refine ci ((pE x.fad hs.2.2.2.1)) (ai rfl trivial) ?_|refine⟨_,rfl,?_⟩|exact rfl)
 all_goals try exact⟨KO⟩
theorem jt (x:Ah)(hs:ay 1048576 x.tr):Sim.Spec Try.prog 37 [.agg x.tr,.agg x.tr] (rB true):=by
 simp only[Ah.tr,ay]at hs
 refine an hΓ ap Try.func37 rfl (by decide) rfl ?_
 repeat' ((conv=>whnf);first|refine Or.inl ?_|apply oi|(apply fi<;>intro h)|refine ci ((lI x.fac hs.2.2.1)) (ai rfl (ai rfl trivial)) ?_|refine ci ((pu x.fad hs.2.2.2.1)) (ai rfl (ai rfl trivial)) ?_|refine⟨_,rfl,?_⟩|exact rfl)
 all_goals try exact⟨KO⟩
 all_goals simp at *
theorem pB (x:Ah)(hw:x.wf)(left:Int)(hle0:0≤left)(hle1:left≤1048576):Sim.Spec Try.prog 26 [.agg x.tr,tvI left] (rI (szR x.tr left)):=by
 simp only[Ah.wf,maxLen]at hw
 obtain⟨Z,hz0⟩:∃Z,Z=szR x.tr left:=⟨_,rfl⟩
 have hz:=hz0
 rw[Ah.tr]at hz
 refine an hΓ ap Try.func26 rfl (by decide) rfl ?_
 rw[qR (by omega)]at hz
 repeat' ((conv=>whnf);first|refine Or.inl ?_|apply oi|(apply fi<;>intro h)|refine⟨_,rfl,?_⟩|exact rfl)
 all_goals try exact⟨KO⟩
 ·have h2:=of_decide_eq_true h
  rw[IntWalk.i64_in _ (by omega)]at h2
  exact⟨congrArg (Tr.int _) (hz0.symm.trans (hz.trans (mO h2))).symm⟩
 have g1:=of_decide_eq_false h
 rw[IntWalk.i64_in _ (by omega)]at g1
 clear h
 rw[IntWalk.i64_in (left - x.fab.length) (by omega)]
 rw[uS g1]at hz
 repeat' ((conv=>whnf);first|refine Or.inl ?_|apply oi|(apply fi<;>intro h)|refine⟨_,rfl,?_⟩|exact rfl)
 all_goals try exact⟨KO⟩
 repeat' ((conv=>whnf);first|refine Or.inl ?_|apply oi|(apply fi<;>intro h)|refine ci ((lJ x.fac (by simpa [maxLen]using hw.2.2.1) (left - x.fab.length) (by omega) (by omega))) (ai rfl (ai rfl trivial)) ?_|refine⟨_,rfl,?_⟩|exact rfl)
 all_goals try exact⟨KO⟩
 ·exact⟨congrArg (Tr.int _) (hz0.symm.trans (hz.trans (vk (of_decide_eq_true h)))).symm⟩
 have g2:=of_decide_eq_false h
 clear h
 rw[uG g2]at hz
 have b2:=(iR (L:=1048576) _ _ (Int.not_lt.1 g2) (by omega)).2
 repeat' ((conv=>whnf);first|refine Or.inl ?_|apply oi|(apply fi<;>intro h)|refine⟨_,rfl,?_⟩|exact rfl)
 all_goals try exact⟨KO⟩
 repeat' ((conv=>whnf);first|refine Or.inl ?_|apply oi|(apply fi<;>intro h)|refine ci ((pH x.fad (by simpa [maxLen]using hw.2.2.2) (szT (.lst 1 (x.fac.map ah)) (left - x.fab.length)) (by omega) (by omega))) (ai rfl (ai rfl trivial)) ?_|refine⟨_,rfl,?_⟩|exact rfl)
 all_goals try exact⟨KO⟩
 ·exact⟨congrArg (Tr.int _) (hz0.symm.trans (hz.trans (vk (of_decide_eq_true h)))).symm⟩
 have g3:=of_decide_eq_false h
 clear h
 rw[uG g3]at hz
 have b3:=(iR (L:=1048576) _ _ (Int.not_lt.1 g3) (by omega)).2
 all_goals exact⟨congrArg (Tr.int _) ((hz0.symm.trans (hz.trans (uz _))).symm)⟩
theorem oe (xs:List (Ah))(hs:aF 1048576 (.lst 4 (xs.map Ah.tr))):Sim.Spec Try.prog 12 [tvL 4 (xs.map Ah.tr),tvL 4 (xs.map Ah.tr)] (rB true):=by
 have hl:=cm hs
 have hlen:(xs.map Ah.tr).length=xs.length:=by simp
 refine an hΓ ap Try.func12 rfl (by decide) rfl ?_
 repeat' ((conv=>whnf);first|refine Or.inl ?_|apply oi|(apply fi<;>intro h)|refine⟨_,rfl,?_⟩|exact rfl)
 all_goals try exact⟨KO⟩
 ·simp at h
 conv=>whnf
 refine⟨{k:Nat // k≤xs.length},fun k=>⟨[(0,.r (.c (.t (.lst 4 (xs.map Ah.tr))))),(1,.r (.c (.t (.lst 4 (xs.map Ah.tr))))),(5,tI .i64 (k.1:Int))],[],[]⟩,fun k=>xs.length - k.1,⟨0,by omega⟩,?_,?_⟩
 ·skip
  repeat' ((conv=>whnf);first|refine Or.inl ?_|apply oi|(apply fi<;>intro h)|refine⟨_,rfl,?_⟩|exact rfl)
  all_goals try exact⟨KO⟩
 intro⟨k,hk⟩
 dsimp only
 repeat' ((conv=>whnf);first|refine Or.inl ?_|apply oi|(apply fi<;>intro h)|refine⟨_,rfl,?_⟩|exact rfl)
 all_goals try exact⟨KO⟩
 ·have hlt:k < xs.length:=by have:=of_decide_eq_true h;omega
  obtain⟨x,hx⟩:=ak hlt
  have hsr:=aS hs (List.mem_of_getElem? hx)
  conv=>whnf
  refine⟨k,_,rfl,ab hx,?_⟩
  repeat' ((conv=>whnf);first|refine Or.inl ?_|apply oi|(apply fi<;>intro h)|refine ci ((jt x hsr)) (ai (ai rfl (ai rfl (ai rfl (ai rfl trivial)))) (ai (ai rfl (ai rfl (ai rfl (ai rfl trivial)))) trivial)) ?_|refine⟨_,rfl,?_⟩|exact rfl)
  all_goals try exact⟨KO⟩
  conv=>whnf
  refine⟨k,_,rfl,ab hx,?_⟩
  repeat' ((conv=>whnf);first|refine Or.inl ?_|apply oi|(apply fi<;>intro h)|refine ci ((jt x hsr)) (ai (ai rfl (ai rfl (ai rfl (ai rfl trivial)))) (ai (ai rfl (ai rfl (ai rfl (ai rfl trivial)))) trivial)) ?_|refine⟨_,rfl,?_⟩|exact rfl)
  all_goals try exact⟨KO⟩
  all_goals try(exfalso;simp at h;done)
  conv=>whnf
  refine⟨⟨k+1,by omega⟩,?_,KD⟩
  repeat' ((conv=>whnf);first|refine Or.inl ?_|apply oi|(apply fi<;>intro h)|refine⟨_,rfl,?_⟩|exact rfl)
  all_goals try exact⟨KO⟩
  exact⟨by dsimp only;rw[IntWalk.i64_in _ (by omega)];rfl⟩
theorem oO (xs:List (Ah))(hw:xs.length≤maxLen∧∀y∈xs,y.wf)(left:Int)(hle0:0≤left)(hle1:left≤1048576):Sim.Spec Try.prog 7 [tvL 4 (xs.map Ah.tr),tvI left] (rI (szT (.lst 4 (xs.map Ah.tr)) left)):=by
 have hl2:(xs.map Ah.tr).length≤9223372036854775807:=by simpa [maxLen]using hw.1
 have hlen:(xs.map Ah.tr).length=xs.length:=by simp
 rw[szT]
 refine an hΓ ap Try.func7 rfl (by decide) rfl ?_
 repeat' ((conv=>whnf);first|refine Or.inl ?_|apply oi|(apply fi<;>intro h)|refine⟨_,rfl,?_⟩|exact rfl)
 all_goals try exact⟨KO⟩
 ·refine⟨congrArg (Tr.int _) ?_⟩
  have h2:=of_decide_eq_true h
  rw[IntWalk.i64_in _ (by omega)]at h2
  rw[if_pos h2]
 have h2:=of_decide_eq_false h
 rw[IntWalk.i64_in _ (by omega)]at h2 ⊢
 rw[if_neg h2]
 conv=>whnf
 refine⟨{q:Nat×Int // q.1≤xs.length∧0≤q.2∧q.2≤1048576∧gX ((xs.drop q.1).map Ah.tr) q.2=gX (xs.map Ah.tr) (left - (xs.map Ah.tr).length)},fun q=>⟨[(0,.r (.c (.t (.lst 4 (xs.map Ah.tr))))),(1,tI .i64 q.1.2),(5,tI .i64 (q.1.1:Int))],[],[]⟩,fun q=>xs.length - q.1.1,⟨(0,left - (xs.map Ah.tr).length),by simp,by dsimp only;omega,by dsimp only;omega,by simp⟩,?_,?_⟩
 ·skip
  repeat' ((conv=>whnf);first|refine Or.inl ?_|apply oi|(apply fi<;>intro h)|refine⟨_,rfl,?_⟩|exact rfl)
  all_goals try exact⟨KO⟩
 intro⟨⟨k,lk⟩,hk,h0,h1,hsz⟩
 dsimp only at hk h0 h1 hsz ⊢
 repeat' ((conv=>whnf);first|refine Or.inl ?_|apply oi|(apply fi<;>intro h)|refine⟨_,rfl,?_⟩|exact rfl)
 all_goals try exact⟨KO⟩
 ·have hlt:k < xs.length:=by have:=of_decide_eq_true h;omega
  obtain⟨x,hx⟩:=ak hlt
  have hxw:=hw.2 x (List.mem_of_getElem? hx)
  rw[dB hx,List.map_cons,gX]at hsz
  conv=>whnf
  refine⟨k,_,rfl,ab hx,?_⟩
  repeat' ((conv=>whnf);first|refine Or.inl ?_|apply oi|(apply fi<;>intro h)|refine ci ((pB x hxw lk h0 h1)) (ai (ai rfl (ai rfl (ai rfl (ai rfl trivial)))) (ai rfl trivial)) ?_|refine⟨_,rfl,?_⟩|exact rfl)
  all_goals try exact⟨KO⟩
  ·refine⟨congrArg (Tr.int _) ?_⟩
   rw[←hsz,if_pos (of_decide_eq_true h)]
  have h3:=of_decide_eq_false h
  rw[if_neg h3]at hsz
  have hsm:=iZ (L:=1048576) _ _ (Int.not_lt.1 h3) h1
  conv=>whnf
  refine⟨⟨(k+1,_),by dsimp only;omega,by dsimp only;exact Int.not_lt.1 h3,by dsimp only;exact Int.le_trans hsm.2 h1,hsz⟩,?_,KD⟩
  repeat' ((conv=>whnf);first|refine Or.inl ?_|apply oi|(apply fi<;>intro h)|refine⟨_,rfl,?_⟩|exact rfl)
  all_goals try exact⟨KO⟩
  exact⟨by dsimp only;rw[IntWalk.i64_in _ (by omega)];rfl⟩
 ·have hge:xs.length≤k:=by have:=of_decide_eq_false h;omega
  rw[List.drop_eq_nil_of_le hge,List.map_nil,gX]at hsz
  exact⟨congrArg (Tr.int _) hsz⟩
end Go.Proofs.Ytjmplnfiabmalaa
namespace Go.Proofs.Ytjmplnfiabmalaa
open Go.Sim Go.RowKit
set_option maxRecDepth 100000
set_option maxHeartbeats 4000000
theorem sB:∀(cs:List Tr) (k:Int),(∀c∈cs,∀sz rs,c≠.lst sz rs)→∀c∈mkR cs k,∀sz rs,c≠.lst sz rs
 | [],_,_,c,hc,_,_=>by rw[mkR]at hc;cases hc
 | d::cs,k,h,c,hc,sz,rs=>by
  rw[mkR]at hc
  rcases List.mem_cons.1 hc with rfl|hc
  ·have:=h d (by simp)
   cases d with
   | lst sz rows=>exact absurd rfl (this sz rows)
   | _=>intro e;simp[mkT]at e
  ·exact sB cs _ (fun c hc=>h c (by simp[hc])) c hc sz rs
theorem kQ:∀(rows:List (List Tr)) (k:Int),flat rows→flat (aG rows k)
 | [],_,_=>by rw[aG];intro r hr;cases hr
 | r::rows,k,h=>by
  rw[aG]
  intro row hr
  rcases List.mem_cons.1 hr with rfl|hr
  ·exact sB r k (h r (by simp))
  ·exact kQ rows _ (fun r hr=>h r (by simp[hr])) row hr
theorem wu (m:Nat):IntKind.u8.wrap (IntKind.i64.wrap (48+(m:Int).tmod 10))=((UInt8.ofNat (48+m % 10)).toNat:Int):=by
 rw[Int.tmod_eq_emod_of_nonneg (by omega),IntWalk.i64_in _ (by omega),IntWalk.u8_in _ (by omega)]
 simp
 omega
theorem xG (m:Nat)(h:m≤9223372036854775807):IntKind.i64.wrap ((m:Int).tdiv 10)=((m / 10:Nat):Int):=by
 rw[Int.tdiv_eq_ediv_of_nonneg (by omega),IntWalk.i64_in _ (by omega)]
 omega
theorem cb (k:Int)(hk:k≤9223372036854775807):Sim.Spec Try.prog 38 [tvI k] (rS (ve k)):=by
 refine an hΓ ap Try.func38 rfl (by decide) rfl ?_
 repeat' ((conv=>whnf);first|refine Or.inl ?_|apply oi|(apply fi<;>intro h)|refine⟨_,rfl,?_⟩|exact rfl)
 all_goals try exact⟨KO⟩
 ·exact⟨by rw[ve,if_pos (of_decide_eq_true h)]⟩
 have h0:¬k≤0:=of_decide_eq_false h
 clear h
 rw[ve,if_neg h0]
 obtain⟨n,rfl⟩:=Int.eq_ofNat_of_zero_le (show 0≤k by omega)
 conv=>whnf
 refine⟨{q:Nat×List UInt8 // digs q.1 q.2=digs n []∧q.1 * 10 ^ q.2.length≤9223372036854775807∧q.2.length≤20},fun q=>⟨[(0,tI .i64 (q.1.1:Nat)),(3,tS q.1.2)],[],[]⟩,fun q=>q.1.1,⟨(n,[]),by simp,by simp;omega,by simp⟩,?_,?_⟩
 ·skip
  repeat' ((conv=>whnf);first|refine Or.inl ?_|apply oi|(apply fi<;>intro h)|refine⟨_,rfl,?_⟩|exact rfl)
  all_goals try exact⟨KO⟩
 intro⟨⟨m,o⟩,hd,hb,hl⟩
 dsimp only at hd hb hl ⊢
 have hm:m≤9223372036854775807:=Nat.le_trans (Nat.le_mul_of_pos_right m (Nat.pow_pos (by omega))) hb
 repeat' ((conv=>whnf);first|refine Or.inl ?_|apply oi|(apply fi<;>intro h)|refine⟨_,rfl,?_⟩|exact rfl)
 all_goals try exact⟨KO⟩
 all_goals try exact⟨fun r hr=>by simp at hr;subst hr;rfl⟩
 all_goals try exact⟨K1⟩
 ·have hmp:0 < m:=by have:=of_decide_eq_true h;omega
  have hl18:o.length≤18:=by
   rcases Nat.lt_or_ge 18 o.length with h'|h'
   ·have h1:10 ^ 19≤10 ^ o.length:=Nat.pow_le_pow_right (by omega) h'
    have h2:10 ^ o.length≤m * 10 ^ o.length:=Nat.le_mul_of_pos_left _ hmp
    omega
   ·exact h'
  conv=>whnf
  refine⟨[UInt8.ofNat (48+m % 10)],by rw[wu];rfl,?_⟩
  repeat' ((conv=>whnf);first|refine Or.inl ?_|apply oi|(apply fi<;>intro h)|refine⟨_,rfl,?_⟩|exact rfl)
  all_goals try exact⟨KO⟩
  all_goals try exact⟨K1⟩
  conv=>whnf
  refine⟨⟨(m / 10,UInt8.ofNat (48+m % 10)::o),by rw[←hd,digs.eq_def m,if_neg (by omega)],?_,by simp;omega⟩,?_,KD⟩
  ·dsimp only
   rw[List.length_cons,Nat.pow_succ]
   have h1:m / 10 * 10≤m:=Nat.div_mul_le_self m 10
   have h2:=Nat.mul_le_mul_right (10 ^ o.length) h1
   rw[Nat.mul_comm (10 ^ o.length) 10,←Nat.mul_assoc]
   omega
  repeat' ((conv=>whnf);first|refine Or.inl ?_|apply oi|(apply fi<;>intro h)|refine⟨_,rfl,?_⟩|exact rfl)
  all_goals try exact⟨KO⟩
  exact⟨by dsimp only;rw[xG m hm]⟩
 ·have hm0:m=0:=by have:=of_decide_eq_false h;omega
  subst hm0
  rw[digs,if_pos rfl]at hd
  exact⟨by rw[hd];rfl⟩
theorem gV (xs:List (Int))(k:Int)(hk0:0≤k)(hl:xs.length≤1099511627776)(hk:k+(au (xs.map aa):Nat)≤4611686018427387904):bG Try.prog 41 [.r (.c (.own (0,0,0))),tI .i64 k] [((0,0,0),.arr false 1 (xs.map aa))] (tI .i64 (k+(au (xs.map aa):Nat))) [((0,0,0),.arr false 1 (aG (xs.map aa) k))]:=by
 refine cV hΓ ap Try.func41 rfl (by decide) rfl rfl ?_
 repeat' ((conv=>whnf);first|refine Or.inl ?_|apply oi|(apply fi<;>intro h)|refine⟨_,rfl,?_⟩|exact rfl)
 all_goals try exact⟨KO⟩
 conv=>whnf
 refine⟨{q:List (Int)×List (Int) // q.1++q.2=xs},fun q=>⟨[(0,.r (.c (.own (0,0,0)))),(1,tI .i64 (k+(au (q.1.1.map aa):Nat))),(5,tI .i64 (q.1.1.length:Nat))],[((0,0,0),some (.arr false 1 (aG (q.1.1.map aa) k++q.1.2.map aa)))],[0]⟩,fun q=>q.1.2.length,⟨([],xs),rfl⟩,?_,?_⟩
 ·skip
  repeat' ((conv=>whnf);first|refine Or.inl ?_|apply oi|(apply fi<;>intro h)|refine⟨_,rfl,?_⟩|exact rfl)
  all_goals try exact⟨KO⟩
  all_goals exact⟨by first|rfl|simp[au,aG]⟩
 intro⟨⟨a,b⟩,hab⟩
 dsimp only at hab ⊢
 have hal:a.length+b.length≤1099511627776:=by rw[←List.length_append,hab];exact hl
 have hsum:k+(au (a.map aa):Nat)+(au (b.map aa):Nat)=k+(au (xs.map aa):Nat):=by rw[←hab,List.map_append,bH];omega
 have hall:aG (xs.map aa) k=aG (a.map aa) k++aG (b.map aa) (k+(au (a.map aa):Nat)):=by rw[←hab,List.map_append,bq]
 have hDl:(aG (a.map aa) k).length=a.length:=by rw[bx,List.length_map]
 generalize hR:aG (a.map aa) k++b.map aa=R
 have hRl:R.length=a.length+b.length:=by rw[←hR];simp[hDl]
 generalize hK:k+(au (a.map aa):Nat)=K at hsum hall ⊢
 generalize hD:aG (a.map aa) k=D at hR hall hDl
 generalize hT:aG (xs.map aa) k=T at hall ⊢
 generalize hC:k+(au (xs.map aa):Nat)=C at hk hsum ⊢
 have hK0:0≤K:=by omega
 rcases hb:b with _|⟨x,b2⟩
 all_goals rw[hb]at hR hall hsum hRl hal
 ·have hKC:K=C:=by simpa [au]using hsum
  have hRT:R=T:=by rw[hall,←hR];simp[aG]
  repeat' ((conv=>whnf);first|refine Or.inl ?_|apply oi|(apply fi<;>intro h)|refine⟨_,rfl,?_⟩|exact rfl)
  all_goals try exact⟨KO⟩
  all_goals try(exfalso;have h':=of_decide_eq_true h;rw[hRl]at h';simp at h';done)
  all_goals first|exact⟨by rw[hKC]⟩|exact⟨hRT⟩
 ·have hal2:a.length+(b2.length+1)≤1099511627776:=hal
  have hcx:cnR (aa x)=1:=by simp only[aa,cnR,cnT]
  have hsm:K+((1:Nat):Int)+(au (b2.map aa):Nat)=C:=by rw[←hsum,List.map_cons,au,hcx];omega
  have hRl2:R.length=a.length+(b2.length+1):=hRl
  have aU:R[a.length]?=some (aa x):=by rw[←hR];exact gN hDl
  repeat' ((conv=>whnf);first|refine Or.inl ?_|apply oi|(apply fi<;>intro h)|refine⟨_,aU,?_⟩|refine⟨_,gi (by(try simp only[List.length_set]);omega),?_⟩|refine ci ((cb _ (by(try simp(disch:=omega)only[IntWalk.i64_in]);omega))) (ai rfl trivial) ?_|refine⟨_,rfl,?_⟩|exact rfl)
  all_goals try exact⟨KO⟩
  all_goals try(exfalso;have h':=of_decide_eq_false h;omega;done)
  all_goals try exact⟨by(try simp only[List.length_set]);omega⟩
  conv=>whnf
  refine⟨⟨(a++[x],b2),by rw[←hab,hb];simp⟩,?_,Nat.lt_succ_self _⟩
  repeat' ((conv=>whnf);first|refine Or.inl ?_|apply oi|(apply fi<;>intro h)|refine⟨_,rfl,?_⟩|exact rfl)
  all_goals try exact⟨KO⟩
  ·refine⟨congrArg (Tr.int _) ?_⟩
   dsimp only
   rw[dH,hcx]
   try simp(disch:=omega)only[IntWalk.i64_in]
   try omega
  ·refine⟨congrArg (Tr.int _) ?_⟩
   dsimp only
   rw[List.length_append]
   try simp(disch:=omega)only[IntWalk.i64_in]
   try rfl
  ·refine⟨?_⟩
   dsimp only
   rw[fX,fV,hD,hK,←hR]
   try simp(disch:=omega)only[set_set,kL hDl,List.map_cons,IntWalk.i64_in]
   try rfl
theorem gS (xs:List (Int))(k:Int)(hk0:0≤k)(hl:xs.length≤1099511627776)(hk:k+(au (xs.map aa):Nat)≤4611686018427387904):Sim.Spec Try.prog 43 [tvL 1 (aG (xs.map aa) k),tvI k] (rI (k+(au (xs.map aa):Nat))):=by
 refine an hΓ ap Try.func43 rfl (by decide) rfl ?_
 have hTl:(aG (xs.map aa) k).length=xs.length:=by rw[bx,List.length_map]
 have hal0:=fun(a b:List (Int))=>bq (a.map aa) (b.map aa) k
 generalize hT:aG (xs.map aa) k=T at hTl ⊢
 repeat' ((conv=>whnf);first|refine Or.inl ?_|apply oi|(apply fi<;>intro h)|refine⟨_,rfl,?_⟩|exact rfl)
 all_goals try exact⟨KO⟩
 conv=>whnf
 refine⟨{q:List (Int)×List (Int) // q.1++q.2=xs},fun q=>⟨[(0,.r (.c (.t (.lst 1 T)))),(1,tI .i64 (k+(au (q.1.1.map aa):Nat))),(5,tI .i64 (q.1.1.length:Nat))],[],[]⟩,fun q=>q.1.2.length,⟨([],xs),rfl⟩,?_,?_⟩
 ·skip
  repeat' ((conv=>whnf);first|refine Or.inl ?_|apply oi|(apply fi<;>intro h)|refine⟨_,rfl,?_⟩|exact rfl)
  all_goals try exact⟨KO⟩
  all_goals exact⟨by first|rfl|simp[au]⟩
 intro⟨⟨a,b⟩,hab⟩
 dsimp only at hab ⊢
 have hal:a.length+b.length≤1099511627776:=by rw[←List.length_append,hab];exact hl
 have hsum:k+(au (a.map aa):Nat)+(au (b.map aa):Nat)=k+(au (xs.map aa):Nat):=by rw[←hab,List.map_append,bH];omega
 have hall:T=aG (a.map aa) k++aG (b.map aa) (k+(au (a.map aa):Nat)):=by rw[←hT,←hab,List.map_append,bq]
 have hDl:(aG (a.map aa) k).length=a.length:=by rw[bx,List.length_map]
 have hTl2:T.length=a.length+b.length:=by rw[hTl,←hab,List.length_append]
 generalize hK:k+(au (a.map aa):Nat)=K at hsum hall ⊢
 generalize hD:aG (a.map aa) k=D at hall hDl
 generalize hC:k+(au (xs.map aa):Nat)=C at hk hsum ⊢
 have hK0:0≤K:=by omega
 rcases hb:b with _|⟨x,b2⟩
 all_goals rw[hb]at hall hsum hTl2 hal
 ·have hKC:K=C:=by simpa [au]using hsum
  repeat' ((conv=>whnf);first|refine Or.inl ?_|apply oi|(apply fi<;>intro h)|refine⟨_,rfl,?_⟩|exact rfl)
  all_goals try exact⟨KO⟩
  all_goals try(exfalso;have h':=of_decide_eq_true h;rw[hTl2]at h';simp at h';done)
  all_goals exact⟨by rw[hKC]⟩
 ·have hal2:a.length+(b2.length+1)≤1099511627776:=hal
  have hcx:cnR (aa x)=1:=by simp only[aa,cnR,cnT]
  have hsm:K+((1:Nat):Int)+(au (b2.map aa):Nat)=C:=by rw[←hsum,List.map_cons,au,hcx];omega
  have hTl3:T.length=a.length+(b2.length+1):=hTl2
  have aU:T[a.length]?=some [.int .i64 (K)]:=by rw[hall,List.map_cons,aG];exact gN hDl
  repeat' ((conv=>whnf);first|refine Or.inl ?_|apply oi|(apply fi<;>intro h)|refine⟨a.length,_,rfl,aU,?_⟩|refine⟨_,rfl,?_⟩|exact rfl)
  all_goals try exact⟨KO⟩
  all_goals try(exfalso;have h':=of_decide_eq_false h;omega;done)
  all_goals try(exfalso;(try have h':=of_decide_eq_true h);(try simp(disch:=omega) [IntWalk.i64_in]at h');(try simp(disch:=omega) [IntWalk.i64_in]at h);(try omega);done)
  conv=>whnf
  refine⟨⟨(a++[x],b2),by rw[←hab,hb];simp⟩,?_,Nat.lt_succ_self _⟩
  repeat' ((conv=>whnf);first|refine Or.inl ?_|apply oi|(apply fi<;>intro h)|refine⟨_,rfl,?_⟩|exact rfl)
  all_goals try exact⟨KO⟩
  ·refine⟨congrArg (Tr.int _) ?_⟩
   dsimp only
   rw[dH,hcx]
   try simp(disch:=omega)only[IntWalk.i64_in]
   try omega
  ·refine⟨congrArg (Tr.int _) ?_⟩
   dsimp only
   rw[List.length_append]
   try simp(disch:=omega)only[IntWalk.i64_in]
   try rfl
theorem vf (xs:List (Int))(hs:aF 1048576 (.lst 1 (xs.map aa))):au (xs.map aa)≤1048576 * 1:=by
 have h1:=aX hs
 refine Nat.le_trans (dX (g:=aa) (M:=1) fun x hx=>?_) (Nat.mul_le_mul_right _ h1)
 have hcx:cnR (aa x)=1:=by simp only[aa,cnR,cnT]
 rw[hcx]
 omega
theorem jQ (xs:List (List UInt8))(k:Int)(hk0:0≤k)(hl:xs.length≤1099511627776)(hk:k+(au (xs.map ah):Nat)≤4611686018427387904):bG Try.prog 39 [.r (.c (.own (0,0,0))),tI .i64 k] [((0,0,0),.arr false 1 (xs.map ah))] (tI .i64 (k+(au (xs.map ah):Nat))) [((0,0,0),.arr false 1 (aG (xs.map ah) k))]:=by
 refine cV hΓ ap Try.func39 rfl (by decide) rfl rfl ?_
 repeat' ((conv=>whnf);first|refine Or.inl ?_|apply oi|(apply fi<;>intro h)|refine⟨_,rfl,?_⟩|exact rfl)
 all_goals try exact⟨KO⟩
 conv=>whnf
 refine⟨{q:List (List UInt8)×List (List UInt8) // q.1++q.2=xs},fun q=>⟨[(0,.r (.c (.own (0,0,0)))),(1,tI .i64 (k+(au (q.1.1.map ah):Nat))),(5,tI .i64 (q.1.1.length:Nat))],[((0,0,0),some (.arr false 1 (aG (q.1.1.map ah) k++q.1.2.map ah)))],[0]⟩,fun q=>q.1.2.length,⟨([],xs),rfl⟩,?_,?_⟩
 ·skip
  repeat' ((conv=>whnf);first|refine Or.inl ?_|apply oi|(apply fi<;>intro h)|refine⟨_,rfl,?_⟩|exact rfl)
  all_goals try exact⟨KO⟩
  all_goals exact⟨by first|rfl|simp[au,aG]⟩
 intro⟨⟨a,b⟩,hab⟩
 dsimp only at hab ⊢
 have hal:a.length+b.length≤1099511627776:=by rw[←List.length_append,hab];exact hl
 have hsum:k+(au (a.map ah):Nat)+(au (b.map ah):Nat)=k+(au (xs.map ah):Nat):=by rw[←hab,List.map_append,bH];omega
 have hall:aG (xs.map ah) k=aG (a.map ah) k++aG (b.map ah) (k+(au (a.map ah):Nat)):=by rw[←hab,List.map_append,bq]
 have hDl:(aG (a.map ah) k).length=a.length:=by rw[bx,List.length_map]
 generalize hR:aG (a.map ah) k++b.map ah=R
 have hRl:R.length=a.length+b.length:=by rw[←hR];simp[hDl]
 generalize hK:k+(au (a.map ah):Nat)=K at hsum hall ⊢
 generalize hD:aG (a.map ah) k=D at hR hall hDl
 generalize hT:aG (xs.map ah) k=T at hall ⊢
 generalize hC:k+(au (xs.map ah):Nat)=C at hk hsum ⊢
 have hK0:0≤K:=by omega
 rcases hb:b with _|⟨x,b2⟩
 all_goals rw[hb]at hR hall hsum hRl hal
 ·have hKC:K=C:=by simpa [au]using hsum
  have hRT:R=T:=by rw[hall,←hR];simp[aG]
  repeat' ((conv=>whnf);first|refine Or.inl ?_|apply oi|(apply fi<;>intro h)|refine⟨_,rfl,?_⟩|exact rfl)
  all_goals try exact⟨KO⟩
  all_goals try(exfalso;have h':=of_decide_eq_true h;rw[hRl]at h';simp at h';done)
  all_goals first|exact⟨by rw[hKC]⟩|exact⟨hRT⟩
 ·have hal2:a.length+(b2.length+1)≤1099511627776:=hal
  have hcx:cnR (ah x)=1:=by simp only[ah,cnR,cnT]
  have hsm:K+((1:Nat):Int)+(au (b2.map ah):Nat)=C:=by rw[←hsum,List.map_cons,au,hcx];omega
  have hRl2:R.length=a.length+(b2.length+1):=hRl
  have aU:R[a.length]?=some (ah x):=by rw[←hR];exact gN hDl
  repeat' ((conv=>whnf);first|refine Or.inl ?_|apply oi|(apply fi<;>intro h)|refine⟨_,aU,?_⟩|refine⟨_,gi (by(try simp only[List.length_set]);omega),?_⟩|refine ci ((cb _ (by(try simp(disch:=omega)only[IntWalk.i64_in]);omega))) (ai rfl trivial) ?_|refine⟨_,rfl,?_⟩|exact rfl)
  all_goals try exact⟨KO⟩
  all_goals try(exfalso;have h':=of_decide_eq_false h;omega;done)
  all_goals try exact⟨by(try simp only[List.length_set]);omega⟩
  conv=>whnf
  refine⟨⟨(a++[x],b2),by rw[←hab,hb];simp⟩,?_,Nat.lt_succ_self _⟩
  repeat' ((conv=>whnf);first|refine Or.inl ?_|apply oi|(apply fi<;>intro h)|refine⟨_,rfl,?_⟩|exact rfl)
  all_goals try exact⟨KO⟩
  ·refine⟨congrArg (Tr.int _) ?_⟩
   dsimp only
   rw[dH,hcx]
   try simp(disch:=omega)only[IntWalk.i64_in]
   try omega
  ·refine⟨congrArg (Tr.int _) ?_⟩
   dsimp only
   rw[List.length_append]
   try simp(disch:=omega)only[IntWalk.i64_in]
   try rfl
  ·refine⟨?_⟩
   dsimp only
   rw[fX,fV,hD,hK,←hR]
   try simp(disch:=omega)only[set_set,kL hDl,List.map_cons,IntWalk.i64_in]
   try rfl
theorem tY (xs:List (List UInt8))(hs:aF 1048576 (.lst 1 (xs.map ah))):au (xs.map ah)≤1048576 * 1:=by
 have h1:=aX hs
 refine Nat.le_trans (dX (g:=ah) (M:=1) fun x hx=>?_) (Nat.mul_le_mul_right _ h1)
 have hcx:cnR (ah x)=1:=by simp only[ah,cnR,cnT]
 rw[hcx]
 omega
theorem nd (xs:List (Aq))(k:Int)(hk0:0≤k)(hl:xs.length≤1099511627776)(hk:k+(au (xs.map Aq.tr):Nat)≤4611686018427387904):bG Try.prog 40 [.r (.c (.own (0,0,0))),tI .i64 k] [((0,0,0),.arr false 3 (xs.map Aq.tr))] (tI .i64 (k+(au (xs.map Aq.tr):Nat))) [((0,0,0),.arr false 3 (aG (xs.map Aq.tr) k))]:=by
 refine cV hΓ ap Try.func40 rfl (by decide) rfl rfl ?_
 repeat' ((conv=>whnf);first|refine Or.inl ?_|apply oi|(apply fi<;>intro h)|refine⟨_,rfl,?_⟩|exact rfl)
 all_goals try exact⟨KO⟩
 conv=>whnf
 refine⟨{q:List (Aq)×List (Aq) // q.1++q.2=xs},fun q=>⟨[(0,.r (.c (.own (0,0,0)))),(1,tI .i64 (k+(au (q.1.1.map Aq.tr):Nat))),(5,tI .i64 (q.1.1.length:Nat))],[((0,0,0),some (.arr false 3 (aG (q.1.1.map Aq.tr) k++q.1.2.map Aq.tr)))],[0]⟩,fun q=>q.1.2.length,⟨([],xs),rfl⟩,?_,?_⟩
 ·skip
  repeat' ((conv=>whnf);first|refine Or.inl ?_|apply oi|(apply fi<;>intro h)|refine⟨_,rfl,?_⟩|exact rfl)
  all_goals try exact⟨KO⟩
  all_goals exact⟨by first|rfl|simp[au,aG]⟩
 intro⟨⟨a,b⟩,hab⟩
 dsimp only at hab ⊢
 have hal:a.length+b.length≤1099511627776:=by rw[←List.length_append,hab];exact hl
 have hsum:k+(au (a.map Aq.tr):Nat)+(au (b.map Aq.tr):Nat)=k+(au (xs.map Aq.tr):Nat):=by rw[←hab,List.map_append,bH];omega
 have hall:aG (xs.map Aq.tr) k=aG (a.map Aq.tr) k++aG (b.map Aq.tr) (k+(au (a.map Aq.tr):Nat)):=by rw[←hab,List.map_append,bq]
 have hDl:(aG (a.map Aq.tr) k).length=a.length:=by rw[bx,List.length_map]
 generalize hR:aG (a.map Aq.tr) k++b.map Aq.tr=R
 have hRl:R.length=a.length+b.length:=by rw[←hR];simp[hDl]
 generalize hK:k+(au (a.map Aq.tr):Nat)=K at hsum hall ⊢
 generalize hD:aG (a.map Aq.tr) k=D at hR hall hDl
 generalize hT:aG (xs.map Aq.tr) k=T at hall ⊢
 generalize hC:k+(au (xs.map Aq.tr):Nat)=C at hk hsum ⊢
 have hK0:0≤K:=by omega
 rcases hb:b with _|⟨x,b2⟩
 all_goals rw[hb]at hR hall hsum hRl hal
 ·have hKC:K=C:=by simpa [au]using hsum
  have hRT:R=T:=by rw[hall,←hR];simp[aG]
  repeat' ((conv=>whnf);first|refine Or.inl ?_|apply oi|(apply fi<;>intro h)|refine⟨_,rfl,?_⟩|exact rfl)
  all_goals try exact⟨KO⟩
  all_goals try(exfalso;have h':=of_decide_eq_true h;rw[hRl]at h';simp at h';done)
  all_goals first|exact⟨by rw[hKC]⟩|exact⟨hRT⟩
 ·have hal2:a.length+(b2.length+1)≤1099511627776:=hal
  have hcx:cnR (Aq.tr x)=3:=by simp only[Aq.tr,cnR,cnT]
  have hsm:K+((3:Nat):Int)+(au (b2.map Aq.tr):Nat)=C:=by rw[←hsum,List.map_cons,au,hcx];omega
  have hRl2:R.length=a.length+(b2.length+1):=hRl
  have aU:R[a.length]?=some (Aq.tr x):=by rw[←hR];exact gN hDl
  repeat' ((conv=>whnf);first|refine Or.inl ?_|apply oi|(apply fi<;>intro h)|refine⟨_,aU,?_⟩|refine⟨_,gi (by(try simp only[List.length_set]);omega),?_⟩|refine ci ((cb _ (by(try simp(disch:=omega)only[IntWalk.i64_in]);omega))) (ai rfl trivial) ?_|refine⟨_,rfl,?_⟩|exact rfl)
  all_goals try exact⟨KO⟩
  all_goals try(exfalso;have h':=of_decide_eq_false h;omega;done)
  all_goals try exact⟨by(try simp only[List.length_set]);omega⟩
  conv=>whnf
  refine⟨⟨(a++[x],b2),by rw[←hab,hb];simp⟩,?_,Nat.lt_succ_self _⟩
  repeat' ((conv=>whnf);first|refine Or.inl ?_|apply oi|(apply fi<;>intro h)|refine⟨_,rfl,?_⟩|exact rfl)
  all_goals try exact⟨KO⟩
  ·refine⟨congrArg (Tr.int _) ?_⟩
   dsimp only
   rw[dH,hcx]
   try simp(disch:=omega)only[IntWalk.i64_in]
   try omega
  ·refine⟨congrArg (Tr.int _) ?_⟩
   dsimp only
   rw[List.length_append]
   try simp(disch:=omega)only[IntWalk.i64_in]
   try rfl
  ·refine⟨?_⟩
   dsimp only
   rw[fX,fV,hD,hK,←hR]
   try simp(disch:=omega)only[set_set,kL hDl,List.map_cons,IntWalk.i64_in]
   try rfl
theorem yd (xs:List (Aq))(hs:aF 1048576 (.lst 3 (xs.map Aq.tr))):au (xs.map Aq.tr)≤1048576 * 3:=by
 have h1:=aX hs
 refine Nat.le_trans (dX (g:=Aq.tr) (M:=3) fun x hx=>?_) (Nat.mul_le_mul_right _ h1)
 have hcx:cnR (Aq.tr x)=3:=by simp only[Aq.tr,cnR,cnT]
 rw[hcx]
 omega
theorem mh (xs:List (Ah))(k:Int)(hk0:0≤k)(hl:xs.length≤1099511627776)(hk:k+(au (xs.map Ah.tr):Nat)≤4611686018427387904)(hin:∀x∈xs,x.fac.length≤1099511627776∧x.fad.length≤1099511627776):bG Try.prog 13 [.r (.c (.own (0,0,0))),tI .i64 k] [((0,0,0),.dar 4 (ae (xs.map Ah.tr)) none)] (tI .i64 (k+(au (xs.map Ah.tr):Nat))) [((0,0,0),.dar 4 (ae (aG (xs.map Ah.tr) k)) none)]:=by
 refine cV hΓ ap Try.func13 rfl (by decide) rfl rfl ?_
 repeat' ((conv=>whnf);first|refine Or.inl ?_|apply oi|(apply fi<;>intro h)|refine⟨_,rfl,?_⟩|exact rfl)
 all_goals try exact⟨KO⟩
 conv=>whnf
 refine⟨{q:List (Ah)×List (Ah) // q.1++q.2=xs},fun q=>⟨[(0,.r (.c (.own (0,0,0)))),(1,tI .i64 (k+(au (q.1.1.map Ah.tr):Nat))),(5,tI .i64 (q.1.1.length:Nat))],[((0,0,0),some (.dar 4 (ae (aG (q.1.1.map Ah.tr) k++q.1.2.map Ah.tr)) none))],[0]⟩,fun q=>q.1.2.length,⟨([],xs),rfl⟩,?_,?_⟩
 ·skip
  repeat' ((conv=>whnf);first|refine Or.inl ?_|apply oi|(apply fi<;>intro h)|refine⟨_,rfl,?_⟩|exact rfl)
  all_goals try exact⟨KO⟩
  all_goals exact⟨by first|rfl|simp[au,aG]⟩
 intro⟨⟨a,b⟩,hab⟩
 dsimp only at hab ⊢
 have hal:a.length+b.length≤1099511627776:=by rw[←List.length_append,hab];exact hl
 have hsum:k+(au (a.map Ah.tr):Nat)+(au (b.map Ah.tr):Nat)=k+(au (xs.map Ah.tr):Nat):=by rw[←hab,List.map_append,bH];omega
 have hall:aG (xs.map Ah.tr) k=aG (a.map Ah.tr) k++aG (b.map Ah.tr) (k+(au (a.map Ah.tr):Nat)):=by rw[←hab,List.map_append,bq]
 have hDl:(aG (a.map Ah.tr) k).length=a.length:=by rw[bx,List.length_map]
 generalize hR:ae (aG (a.map Ah.tr) k++b.map Ah.tr)=R
 have hRl:R.length=a.length+b.length:=by rw[←hR];simp[hDl,aE]
 generalize hK:k+(au (a.map Ah.tr):Nat)=K at hsum hall ⊢
 generalize hD:aG (a.map Ah.tr) k=D at hR hall hDl
 generalize hT:aG (xs.map Ah.tr) k=T at hall ⊢
 generalize hC:k+(au (xs.map Ah.tr):Nat)=C at hk hsum ⊢
 have hK0:0≤K:=by omega
 rcases hb:b with _|⟨x,b2⟩
 all_goals rw[hb]at hR hall hsum hRl hal
 ·have hKC:K=C:=by simpa [au]using hsum
  have hRT:R=ae (T):=by rw[hall,←hR];simp[aG]
  repeat' ((conv=>whnf);first|refine Or.inl ?_|apply oi|(apply fi<;>intro h)|refine⟨_,rfl,?_⟩|exact rfl)
  all_goals try exact⟨KO⟩
  all_goals try(exfalso;have h':=of_decide_eq_true h;rw[hRl]at h';simp at h';done)
  all_goals first|exact⟨by rw[hKC]⟩|exact⟨hRT⟩
 ·have hal2:a.length+(b2.length+1)≤1099511627776:=hal
  have hcx:cnR (Ah.tr x)=2+au (x.fac.map ah)+au (x.fad.map Aq.tr):=by simp only[Ah.tr,cnR,cnT] <;> omega
  have hsm:K+((2+au (x.fac.map ah)+au (x.fad.map Aq.tr):Nat):Int)+(au (b2.map Ah.tr):Nat)=C:=by rw[←hsum,List.map_cons,au,hcx];omega
  have hRl2:R.length=a.length+(b2.length+1):=hRl
  have hix:=hin x (by rw[←hab,hb];simp)
  have aU:R[a.length]?=some (((Ah.tr x).map .d)):=by rw[←hR,List.map_cons,cS,dS];exact gN (by rw[aE];exact hDl)
  repeat' ((conv=>whnf);first|refine cg (jQ x.fac (K+1+1) (by omega) hix.1 (by omega)) ?_|refine cg (nd x.fad (K+1+1+(au (x.fac.map ah):Nat)) (by omega) hix.2 (by omega)) ?_|refine Or.inl ?_|apply oi|(apply fi<;>intro h)|refine⟨_,aU,?_⟩|refine⟨_,gi (by(try simp only[List.length_set]);omega),?_⟩|refine ci ((cb _ (by(try simp(disch:=omega)only[IntWalk.i64_in]);omega))) (ai rfl trivial) ?_|refine⟨_,rfl,?_⟩|exact rfl)
  all_goals try exact⟨KO⟩
  all_goals try(exfalso;have h':=of_decide_eq_false h;omega;done)
  all_goals try exact⟨by(try simp only[List.length_set]);omega⟩
  all_goals try exact⟨dq _ (by intro x c hc sz rs e;subst e;simp[Aq.tr,ah]at hc)⟩
  all_goals try exact⟨kQ _ _ (dq _ (by intro x c hc sz rs e;subst e;simp[Aq.tr,ah]at hc))⟩
  all_goals try exact⟨K2⟩
  conv=>whnf
  refine⟨⟨(a++[x],b2),by rw[←hab,hb];simp⟩,?_,Nat.lt_succ_self _⟩
  repeat' ((conv=>whnf);first|refine Or.inl ?_|apply oi|(apply fi<;>intro h)|refine⟨_,aU,?_⟩|refine⟨_,gi (by(try simp only[List.length_set]);omega),?_⟩|refine⟨_,rfl,?_⟩|exact rfl)
  all_goals try exact⟨KO⟩
  all_goals try exact⟨kQ _ _ (dq _ (by intro x c hc sz rs e;subst e;simp[Aq.tr,ah]at hc))⟩
  ·refine⟨congrArg (Tr.int _) ?_⟩
   dsimp only
   rw[dH,hcx]
   try simp(disch:=omega)only[IntWalk.i64_in]
   try omega
  ·refine⟨congrArg (Tr.int _) ?_⟩
   dsimp only
   rw[List.length_append]
   try simp(disch:=omega)only[IntWalk.i64_in]
   try rfl
  ·refine⟨?_⟩
   dsimp only
   have hDd:(ae D).length=a.length:=by rw[aE];exact hDl
   rw[fX,fV,hD,hK,←hR]
   try simp(disch:=omega)only[set_set,cS,dS,kL hDd,List.map_cons,IntWalk.i64_in]
   try rfl
theorem wt (xs:List (Ah))(hs:aF 1048576 (.lst 4 (xs.map Ah.tr))):au (xs.map Ah.tr)≤1048576 * 4194306:=by
 have h1:=aX hs
 refine Nat.le_trans (dX (g:=Ah.tr) (M:=4194306) fun x hx=>?_) (Nat.mul_le_mul_right _ h1)
 have hcx:cnR (Ah.tr x)=2+au (x.fac.map ah)+au (x.fad.map Aq.tr):=by simp only[Ah.tr,cnR,cnT] <;> omega
 rw[hcx]
 have hr:=aS hs hx
 simp only[Ah.tr,ay]at hr
 have c2:=tY _ (hr.2.2.1)
 have c3:=yd _ (hr.2.2.2.1)
 omega
theorem vK (xs:List (Ah))(hs:aF 1048576 (.lst 4 (xs.map Ah.tr))):∀x∈xs,x.fac.length≤1099511627776∧x.fad.length≤1099511627776:=by
 intro x hx
 have hr:=aS hs hx
 simp only[Ah.tr,ay]at hr
 exact⟨Nat.le_trans (aX (hr.2.2.1)) (by omega),Nat.le_trans (aX (hr.2.2.2.1)) (by omega)⟩
theorem ox (xs:List (Ah))(hs:aF 1048576 (.lst 4 (xs.map Ah.tr))):bG Try.prog 9 [.r (.c (.t (.lst 4 (xs.map Ah.tr))))] [] (.r (.c (.own (1,0,0)))) [((1,0,0),.dar 4 (ae (xs.map Ah.tr)) none)]:=by
 have hl:=cm hs
 have hlen:(xs.map Ah.tr).length=xs.length:=by simp
 refine cV hΓ ap Try.func9 rfl (by decide) rfl rfl ?_
 repeat' ((conv=>whnf);first|refine Or.inl ?_|apply oi|(apply fi<;>intro h)|refine⟨_,rfl,?_⟩|exact rfl)
 all_goals try exact⟨KO⟩
 ·exact⟨by omega⟩
 ·exact⟨by dsimp only;omega⟩
 repeat' ((conv=>whnf);first|refine Or.inl ?_|apply oi|(apply fi<;>intro h)|refine⟨_,rfl,?_⟩|exact rfl)
 all_goals try exact⟨KO⟩
 conv=>whnf
 refine⟨{k:Nat // k≤xs.length},fun k=>⟨[(0,.r (.c (.t (.lst 4 (xs.map Ah.tr))))),(3,.r (.c (.own (3,0,0)))),(4,tI .i64 (k.1:Int))],[((3,0,0),some (.dar 4 (ae (cZ (xs.map Ah.tr) [.int .i64 0,.str [],.lst 0 [],.lst 0 []] k.1)) none))],[3,0]⟩,fun k=>xs.length - k.1,⟨0,by omega⟩,?_,?_⟩
 ·skip
  repeat' ((conv=>whnf);first|refine Or.inl ?_|apply oi|(apply fi<;>intro h)|refine⟨_,rfl,?_⟩|exact rfl)
  all_goals try exact⟨KO⟩
  all_goals exact⟨by first|(rw[←dU,hlen,ae,List.map_replicate];done)|(rw[←dU,hlen,ae,List.map_replicate];rfl)⟩
 intro⟨k,hk⟩
 dsimp only
 repeat' ((conv=>whnf);first|refine Or.inl ?_|apply oi|(apply fi<;>intro h)|refine⟨_,rfl,?_⟩|exact rfl)
 all_goals try exact⟨KO⟩
 ·have hlt:k < xs.length:=by have:=of_decide_eq_true h;omega
  obtain⟨x,hx⟩:=ak hlt
  have hsr:=aS hs (List.mem_of_getElem? hx)
  conv=>whnf
  refine⟨k,_,rfl,ab hx,?_⟩
  repeat' ((conv=>whnf);first|refine Or.inl ?_|apply oi|(apply fi<;>intro h)|refine ci ((pz x hsr)) (ai (ai rfl (ai rfl (ai rfl (ai rfl trivial)))) trivial) ?_|refine⟨_,rfl,?_⟩|exact rfl)
  all_goals try exact⟨KO⟩
  ·exact⟨by rw[aE,jF (by omega)];omega⟩
  conv=>whnf
  refine⟨_,qC (jT (by omega)),?_⟩
  repeat' ((conv=>whnf);first|refine Or.inl ?_|apply oi|(apply fi<;>intro h)|refine⟨_,rfl,?_⟩|exact rfl)
  all_goals try exact⟨KO⟩
  all_goals try exact⟨dq _ (by intro x c hc sz rs e;subst e;simp[Aq.tr,ah]at hc)⟩
  conv=>whnf
  refine⟨⟨k+1,by omega⟩,?_,KD⟩
  repeat' ((conv=>whnf);first|refine Or.inl ?_|apply oi|(apply fi<;>intro h)|refine⟨_,rfl,?_⟩|exact rfl)
  all_goals try exact⟨KO⟩
  ·exact⟨by dsimp only;rw[IntWalk.i64_in _ (by omega)];rfl⟩
  ·exact⟨(rO _ _ (Ah.tr x)).trans (congrArg ae (jD (ab hx)))⟩
 ·have hge:xs.length≤k:=by have:=of_decide_eq_false h;omega
  exact⟨congrArg ae (jO (by omega))⟩
end Go.Proofs.Ytjmplnfiabmalaa
namespace Go.Proofs.Ytjmplnfiabmalaa
open Go.Sim
set_option maxRecDepth 100000
set_option maxHeartbeats 4000000
def rV (last:Int)(r:Am):Prop:=last≤r.fah∧r.fah < r.fal∧r.fal≤1000000∧0≤r.fak∧r.fak≤1200∧(r.faL=true→r.fak=0)
instance (last:Int) (r:Am):Decidable (rV last r):=by unfold rV;infer_instance
def low (b:UInt8):Bool:=decide (97≤b.toNat) && decide (b.toNat≤122)
def bD (s:List UInt8):Bool:=s.all low && af s.length 1 8
abbrev xo (s:List UInt8):={k:Nat // k≤s.length∧(s.take k).all low=true}
theorem rU {α:Type}{p:α→Bool}{s:List α}{k:Nat}{b:α}(h:(s.take k).all p=true)(hb:s[k]?=some b)(hp:p b=true):(s.take (k+1)).all p=true:=by
 rw[List.take_add_one,hb]
 simp_all
theorem uR {α:Type}{p:α→Bool}{s:List α}{k:Nat}{b:α}(hb:s[k]?=some b)(hp:p b=false):s.all p=false:=by
 rw[Bool.eq_false_iff]
 intro h
 rw[List.all_eq_true]at h
 rw[h b (List.mem_of_getElem? hb)]at hp
 cases hp
theorem fB (s:List UInt8)(hl:s.length≤1099511627775):Sim.Spec Try.prog 93 [tvS s] (rB (bD s)):=by
 refine an hΓ ap Try.func93 rfl (by decide) rfl ?_
 unfold bD
 repeat' ((conv=>whnf);first|refine Or.inl ?_|apply oi|(apply fi<;>intro h)|refine⟨_,rfl,?_⟩|exact rfl)
 all_goals try exact⟨KO⟩
 conv=>whnf
 refine⟨xo s,fun k=>⟨[(0,tS s),(3,tI .i64 (k.1:Int))],[],[]⟩,fun k=>s.length - k.1,⟨0,by omega,rfl⟩,?_,?_⟩
 ·skip
  repeat' ((conv=>whnf);first|refine Or.inl ?_|apply oi|(apply fi<;>intro h)|refine⟨_,rfl,?_⟩|exact rfl)
  all_goals try exact⟨KO⟩
 intro⟨k,hk,hp⟩
 dsimp only
 by_cases hlt:k < s.length
 ·obtain⟨b,hb⟩:=ak hlt
  have hbl:=b.toNat_lt
  cases hlo:low b with
  | false=>
   rw[uR hb hlo]
   unfold low at hlo
   repeat' ((conv=>whnf);first|refine Or.inl ?_|apply oi|(apply fi<;>intro h)|refine⟨k,b,rfl,hb,?_⟩|refine⟨_,rfl,?_⟩|exact rfl)
   all_goals try exact⟨KO⟩
   all_goals try exact KX
   all_goals(exfalso;simp at *;omega)
  | true=>
   have hnx:=rU hp hb hlo
   unfold low at hlo
   repeat' ((conv=>whnf);first|refine Or.inl ?_|apply oi|(apply fi<;>intro h)|refine⟨k,b,rfl,hb,?_⟩|refine⟨_,rfl,?_⟩|exact rfl)
   all_goals try exact⟨KO⟩
   all_goals try exact KX
   all_goals try exact K3
   conv=>whnf
   refine⟨⟨k+1,by omega,hnx⟩,?_,KD⟩
   repeat' ((conv=>whnf);first|refine Or.inl ?_|apply oi|(apply fi<;>intro h)|refine⟨_,rfl,?_⟩|exact rfl)
   all_goals try exact⟨KO⟩
   all_goals try exact⟨K4⟩
 ·have hge:s.length≤k:=by omega
  rw[List.take_of_length_le hge]at hp
  rw[hp]
  repeat' ((conv=>whnf);first|refine Or.inl ?_|apply oi|(apply fi<;>intro h)|refine ci (aZ _ _ _) (ai rfl (ai rfl (ai rfl trivial))) ?_|refine⟨_,rfl,?_⟩|exact rfl)
  all_goals try exact⟨KO⟩
  all_goals try exact KX
theorem dQ (s:List UInt8)(hl:s.length≤1099511627775):Sim.Spec Try.prog 81 [tvS s] (rB (bD s)):=by
 refine an hΓ ap Try.func81 rfl (by decide) rfl ?_
 unfold bD
 repeat' ((conv=>whnf);first|refine Or.inl ?_|apply oi|(apply fi<;>intro h)|refine⟨_,rfl,?_⟩|exact rfl)
 all_goals try exact⟨KO⟩
 conv=>whnf
 refine⟨xo s,fun k=>⟨[(0,tS s),(3,tI .i64 (k.1:Int))],[],[]⟩,fun k=>s.length - k.1,⟨0,by omega,rfl⟩,?_,?_⟩
 ·skip
  repeat' ((conv=>whnf);first|refine Or.inl ?_|apply oi|(apply fi<;>intro h)|refine⟨_,rfl,?_⟩|exact rfl)
  all_goals try exact⟨KO⟩
 intro⟨k,hk,hp⟩
 dsimp only
 by_cases hlt:k < s.length
 ·obtain⟨b,hb⟩:=ak hlt
  have hbl:=b.toNat_lt
  cases hlo:low b with
  | false=>
   rw[uR hb hlo]
   unfold low at hlo
   repeat' ((conv=>whnf);first|refine Or.inl ?_|apply oi|(apply fi<;>intro h)|refine⟨k,b,rfl,hb,?_⟩|refine⟨_,rfl,?_⟩|exact rfl)
   all_goals try exact⟨KO⟩
   all_goals try exact KX
   all_goals(exfalso;simp at *;omega)
  | true=>
   have hnx:=rU hp hb hlo
   unfold low at hlo
   repeat' ((conv=>whnf);first|refine Or.inl ?_|apply oi|(apply fi<;>intro h)|refine⟨k,b,rfl,hb,?_⟩|refine⟨_,rfl,?_⟩|exact rfl)
   all_goals try exact⟨KO⟩
   all_goals try exact KX
   all_goals try exact K3
   conv=>whnf
   refine⟨⟨k+1,by omega,hnx⟩,?_,KD⟩
   repeat' ((conv=>whnf);first|refine Or.inl ?_|apply oi|(apply fi<;>intro h)|refine⟨_,rfl,?_⟩|exact rfl)
   all_goals try exact⟨KO⟩
   all_goals try exact⟨K4⟩
 ·have hge:s.length≤k:=by omega
  rw[List.take_of_length_le hge]at hp
  rw[hp]
  repeat' ((conv=>whnf);first|refine Or.inl ?_|apply oi|(apply fi<;>intro h)|refine ci (dx _ _ _) (ai rfl (ai rfl (ai rfl trivial))) ?_|refine⟨_,rfl,?_⟩|exact rfl)
  all_goals try exact⟨KO⟩
  all_goals try exact KX
def behind (p:Option Af)(x:Af):Prop:=match p with
 | none=>True
 | some p=>p.far≤x.far∧(p.far=x.far→p.fal≤x.fah)
instance (p:Option Af) (x:Af):Decidable (behind p x):=by unfold behind;cases p <;> infer_instance
def dZ (t:Aq):Bool:=
 if t.faa=0 then af t.faf 0 999 && t.fab==[]
 else if t.faa=7 then af t.faf 0 4 && bD t.fab
 else if t.faa=1 then t.faf==0 && bD t.fab
 else af t.faa 2 6 && (t.faf==0 && t.fab==[])
theorem kR (t:Aq)(hl:t.fab.length≤1099511627775):Sim.Spec Try.prog 112 [.agg t.tr] (rB (dZ t)):=by
 refine an hΓ ap Try.func112 rfl (by decide) rfl ?_
 have hN:=fB t.fab hl
 unfold dZ
 generalize bD t.fab=nb at *
 repeat' ((conv=>whnf);first|refine Or.inl ?_|apply oi|(apply fi<;>intro h)|refine ci (aZ _ _ _) (ai rfl (ai rfl (ai rfl trivial))) ?_|refine ci hN (ai rfl trivial) ?_|refine⟨_,rfl,?_⟩|exact rfl)
 all_goals try exact⟨KO⟩
 all_goals(refine⟨congrArg Tr.bool ?_⟩;simp_all;try(intros;omega))
theorem lj (t:Aq)(hl:t.fab.length≤1099511627775):Sim.Spec Try.prog 106 [.agg t.tr] (rB (dZ t)):=by
 refine an hΓ ap Try.func106 rfl (by decide) rfl ?_
 have hN:=dQ t.fab hl
 unfold dZ
 generalize bD t.fab=nb at *
 repeat' ((conv=>whnf);first|refine Or.inl ?_|apply oi|(apply fi<;>intro h)|refine ci (dx _ _ _) (ai rfl (ai rfl (ai rfl trivial))) ?_|refine ci hN (ai rfl trivial) ?_|refine⟨_,rfl,?_⟩|exact rfl)
 all_goals try exact⟨KO⟩
 all_goals(refine⟨congrArg Tr.bool ?_⟩;simp_all[af];(try(intros;omega));(try((repeat' split) <;> intros <;> omega)))
def mu (t:Aq):Int:=if dZ t=false then -1 else if t.faa=7 then t.faf else if t.faa=0∨t.faa=1 then 0 else 2
theorem li (t:Aq)(hl:t.fab.length≤1099511627775):Sim.Spec Try.prog 109 [.agg t.tr] (rI (mu t)):=by
 refine an hΓ ap Try.func109 rfl (by decide) rfl ?_
 have hT:=kR t hl
 unfold mu
 generalize dZ t=nb at *
 repeat' ((conv=>whnf);first|refine Or.inl ?_|apply oi|(apply fi<;>intro h)|refine ci hT (ai (ai rfl (ai rfl (ai rfl trivial))) trivial) ?_|refine⟨_,rfl,?_⟩|exact rfl)
 all_goals try exact⟨KO⟩
 all_goals(refine⟨congrArg (Tr.int _) ?_⟩;simp_all)
theorem ky (t:Aq)(hl:t.fab.length≤1099511627775):Sim.Spec Try.prog 90 [.agg t.tr] (rI (mu t)):=by
 refine an hΓ ap Try.func90 rfl (by decide) rfl ?_
 have hT:=lj t hl
 unfold mu
 generalize dZ t=nb at *
 repeat' ((conv=>whnf);first|refine Or.inl ?_|apply oi|(apply fi<;>intro h)|refine ci hT (ai (ai rfl (ai rfl (ai rfl trivial))) trivial) ?_|refine⟨_,rfl,?_⟩|exact rfl)
 all_goals try exact⟨KO⟩
 all_goals(refine⟨congrArg (Tr.int _) ?_⟩;simp_all)
def ar (t:Aq):Nat:=(mu t).toNat
theorem qm {t:Aq}(h:dZ t=true):mu t=(ar t:Int)∧ar t≤4:=by
 unfold ar mu
 rw[if_neg (by simp[h])]
 unfold dZ at h
 split
 ·rename_i h7
  rw[if_neg (by omega),if_pos h7]at h
  simp only[Bool.and_eq_true,within_iff]at h
  omega
 ·split <;> omega
def endL:List Aq→Nat→Nat→Option Nat
 | _,p,0=>some p
 | [],_,_+1=>none
 | t::l,p,n+1=>if dZ t=true then endL l (p+1) (n+ar t)else none
def bN (o:Option Nat):Int:=match o with|some e=>e|none=> -1
def bP (l:List Aq)(p:Int):Int:=if 0≤p then bN (endL (l.drop p.toNat) p.toNat 1)else -1
theorem uE {l:List Aq}{p n:Nat}{t:Aq}(h:l[p]?=some t):endL (l.drop p) p (n+1)=if dZ t=true then endL (l.drop (p+1)) (p+1) (n+ar t)else none:=by
 rw[dB h,endL]
abbrev yw (l:List Aq)(R:Int):={q:Nat×Nat // q.1≤l.length∧q.2≤1+4 * q.1∧bN (endL (l.drop q.1) q.1 q.2)=R}
def eJ (l:List Aq):Prop:=∀t∈l,t.fab.length≤1099511627775
theorem eQ (l:List Aq)(p:Int)(hl:l.length≤1048576)(hn:eJ l):Sim.Spec Try.prog 105 [tvL 3 (l.map Aq.tr),tvI p] (rI (bP l p)):=by
 refine an hΓ ap Try.func105 rfl (by decide) rfl ?_
 have hlen:(l.map Aq.tr).length=l.length:=by simp
 have hw:IntKind.i64.wrap (((l.map Aq.tr).length:Int) - 1)=(l.length:Int) - 1:=by rw[IntWalk.i64_in _ (by omega)];omega
 by_cases hin:0≤p∧p < l.length
 ·have hb:=aZ p 0 (IntKind.i64.wrap (((l.map Aq.tr).length:Int) - 1))
  rw[within_iff.2 ⟨hin.1,by rw[hw];omega⟩]at hb
  obtain⟨p,rfl⟩:=Int.eq_ofNat_of_zero_le hin.1
  obtain⟨R,hR⟩:∃R,bP l (p:Int)=R:=⟨_,rfl⟩
  rw[hR]
  rw[bP,if_pos hin.1,Int.toNat_natCast]at hR
  repeat' ((conv=>whnf);first|refine Or.inl ?_|apply oi|(apply fi<;>intro h)|refine ci hb (ai rfl (ai rfl (ai rfl trivial))) ?_|refine⟨_,rfl,?_⟩|exact rfl)
  all_goals try exact⟨KO⟩
  conv=>whnf
  refine⟨yw l R,fun q=>⟨[(0,.r (.c (.t (.lst 3 (l.map Aq.tr))))),(1,tI .i64 (q.1.1:Int)),(5,tI .i64 (q.1.2:Int))],[],[]⟩,fun q=>l.length - q.1.1,⟨(p,1),by omega,by omega,hR⟩,?_,?_⟩
  ·skip
   repeat' ((conv=>whnf);first|refine Or.inl ?_|apply oi|(apply fi<;>intro h)|refine⟨_,rfl,?_⟩|exact rfl)
   all_goals try exact⟨KO⟩
  intro⟨⟨a,n⟩,ha,hn4,hr⟩
  dsimp only at ha hn4 hr ⊢
  cases n with
  | zero=>
   have:R=(a:Int):=by
    rw[←hr]
    cases l.drop a <;> rfl
   subst this
   repeat' ((conv=>whnf);first|refine Or.inl ?_|apply oi|(apply fi<;>intro h)|refine⟨_,rfl,?_⟩|exact rfl)
   all_goals try exact⟨KO⟩
   all_goals try exact KX
  | succ n=>
   by_cases hlt:a < l.length
   ·obtain⟨t,ht⟩:=ak hlt
    rw[uE ht]at hr
    have hT:=kR t (hn t (List.mem_of_getElem? ht))
    have hA:=li t (hn t (List.mem_of_getElem? ht))
    cases hok:dZ t with
    | false=>
     rw[hok]at hT
     rw[if_neg (by simp[hok])]at hr
     subst hr
     repeat' ((conv=>whnf);first|refine Or.inl ?_|apply oi|(apply fi<;>intro h)|refine⟨a,t.tr,rfl,ab ht,?_⟩|refine ci hT (ai (ai rfl (ai rfl (ai rfl trivial))) trivial) ?_|refine⟨_,rfl,?_⟩|exact rfl)
     all_goals try exact⟨KO⟩
     all_goals try exact KX
    | true=>
     obtain⟨e1,e2⟩:=qm hok
     rw[e1]at hA
     rw[hok]at hT
     rw[if_pos hok]at hr
     repeat' ((conv=>whnf);first|refine Or.inl ?_|apply oi|(apply fi<;>intro h)|refine⟨a,t.tr,rfl,ab ht,?_⟩|refine ci hT (ai (ai rfl (ai rfl (ai rfl trivial))) trivial) ?_|refine ci hA (ai (ai rfl (ai rfl (ai rfl trivial))) trivial) ?_|refine⟨_,rfl,?_⟩|exact rfl)
     all_goals try exact⟨KO⟩
     all_goals try exact KX
     conv=>whnf
     refine⟨⟨(a+1,n+ar t),by dsimp only;omega,by dsimp only;omega,hr⟩,?_,KD⟩
     repeat' ((conv=>whnf);first|refine Or.inl ?_|apply oi|(apply fi<;>intro h)|refine⟨_,rfl,?_⟩|exact rfl)
     all_goals try exact⟨KO⟩
     all_goals try exact⟨K4⟩
     all_goals try exact⟨by dsimp only;congr 1;rw[IntWalk.i64_in _ (by omega)];omega⟩
     all_goals exact⟨congrArg (Tr.int _) (by dsimp only;simp(disch:=omega)only[IntWalk.i64_in];omega)⟩
   ·rw[List.drop_eq_nil_of_le (by omega),endL]at hr
    subst hr
    repeat' ((conv=>whnf);first|refine Or.inl ?_|apply oi|(apply fi<;>intro h)|refine⟨_,rfl,?_⟩|exact rfl)
    all_goals try exact⟨KO⟩
    all_goals try exact KX
 ·have hb:=aZ p 0 (IntKind.i64.wrap (((l.map Aq.tr).length:Int) - 1))
  have hf:af p 0 (IntKind.i64.wrap (((l.map Aq.tr).length:Int) - 1))=false:=by
   cases hx:af p 0 (IntKind.i64.wrap (((l.map Aq.tr).length:Int) - 1))with
   | false=>rfl
   | true=>have:=within_iff.1 hx;rw[hw]at this;exact absurd ⟨this.1,by omega⟩ hin
  rw[hf]at hb
  have he:bP l p= -1:=by
   unfold bP
   split
   ·rw[List.drop_eq_nil_of_le (by omega)];rfl
   ·rfl
  rw[he]
  repeat' ((conv=>whnf);first|refine Or.inl ?_|apply oi|(apply fi<;>intro h)|refine ci hb (ai rfl (ai rfl (ai rfl trivial))) ?_|refine⟨_,rfl,?_⟩|exact rfl)
  all_goals try exact⟨KO⟩
  all_goals(exfalso;simp at h;done)
theorem oB (l:List Aq)(p:Int)(hl:l.length≤1048576)(hn:eJ l):Sim.Spec Try.prog 104 [tvL 3 (l.map Aq.tr),tvI p] (rI (bP l p)):=by
 refine an hΓ ap Try.func104 rfl (by decide) rfl ?_
 have hlen:(l.map Aq.tr).length=l.length:=by simp
 by_cases h0:0≤p
 ·obtain⟨p,rfl⟩:=Int.eq_ofNat_of_zero_le h0
  obtain⟨R,hR⟩:∃R,bP l (p:Int)=R:=⟨_,rfl⟩
  rw[hR]
  rw[bP,if_pos h0,Int.toNat_natCast]at hR
  by_cases hlp:p≤l.length
  ·skip
   repeat' ((conv=>whnf);first|refine Or.inl ?_|apply oi|(apply fi<;>intro h)|refine⟨_,rfl,?_⟩|exact rfl)
   all_goals try exact⟨KO⟩
   all_goals try exact KX
   conv=>whnf
   refine⟨yw l R,fun q=>⟨[(0,.r (.c (.t (.lst 3 (l.map Aq.tr))))),(1,tI .i64 (q.1.1:Int)),(5,tI .i64 (q.1.2:Int))],[],[]⟩,fun q=>l.length - q.1.1,⟨(p,1),by omega,by omega,hR⟩,?_,?_⟩
   ·skip
    repeat' ((conv=>whnf);first|refine Or.inl ?_|apply oi|(apply fi<;>intro h)|refine⟨_,rfl,?_⟩|exact rfl)
    all_goals try exact⟨KO⟩
   intro⟨⟨a,n⟩,ha,hn4,hr⟩
   dsimp only at ha hn4 hr ⊢
   cases n with
   | zero=>
    have:R=(a:Int):=by
     rw[←hr]
     cases l.drop a <;> rfl
    subst this
    repeat' ((conv=>whnf);first|refine Or.inl ?_|apply oi|(apply fi<;>intro h)|refine⟨_,rfl,?_⟩|exact rfl)
    all_goals try exact⟨KO⟩
    all_goals try exact KX
   | succ n=>
    by_cases hlt:a < l.length
    ·obtain⟨t,ht⟩:=ak hlt
     rw[uE ht]at hr
     have hT:=lj t (hn t (List.mem_of_getElem? ht))
     have hA:=ky t (hn t (List.mem_of_getElem? ht))
     cases hok:dZ t with
     | false=>
      rw[hok]at hT
      rw[if_neg (by simp[hok])]at hr
      subst hr
      repeat' ((conv=>whnf);first|refine Or.inl ?_|apply oi|(apply fi<;>intro h)|refine⟨a,t.tr,rfl,ab ht,?_⟩|refine ci hT (ai (ai rfl (ai rfl (ai rfl trivial))) trivial) ?_|refine⟨_,rfl,?_⟩|exact rfl)
      all_goals try exact⟨KO⟩
      all_goals try exact KX
     | true=>
      obtain⟨e1,e2⟩:=qm hok
      rw[e1]at hA
      rw[hok]at hT
      rw[if_pos hok]at hr
      repeat' ((conv=>whnf);first|refine Or.inl ?_|apply oi|(apply fi<;>intro h)|refine⟨a,t.tr,rfl,ab ht,?_⟩|refine ci hT (ai (ai rfl (ai rfl (ai rfl trivial))) trivial) ?_|refine ci hA (ai (ai rfl (ai rfl (ai rfl trivial))) trivial) ?_|refine⟨_,rfl,?_⟩|exact rfl)
      all_goals try exact⟨KO⟩
      all_goals try exact KX
      conv=>whnf
      refine⟨⟨(a+1,n+ar t),by dsimp only;omega,by dsimp only;omega,hr⟩,?_,KD⟩
      repeat' ((conv=>whnf);first|refine Or.inl ?_|apply oi|(apply fi<;>intro h)|refine⟨_,rfl,?_⟩|exact rfl)
      all_goals try exact⟨KO⟩
      all_goals try exact⟨K4⟩
      all_goals try exact⟨by dsimp only;congr 1;rw[IntWalk.i64_in _ (by omega)];omega⟩
      all_goals exact⟨congrArg (Tr.int _) (by dsimp only;simp(disch:=omega)only[IntWalk.i64_in];omega)⟩
    ·rw[List.drop_eq_nil_of_le (by omega),endL]at hr
     subst hr
     repeat' ((conv=>whnf);first|refine Or.inl ?_|apply oi|(apply fi<;>intro h)|refine⟨_,rfl,?_⟩|exact rfl)
     all_goals try exact⟨KO⟩
     all_goals try exact KX
  ·rw[List.drop_eq_nil_of_le (by omega),endL]at hR
   subst hR
   repeat' ((conv=>whnf);first|refine Or.inl ?_|apply oi|(apply fi<;>intro h)|refine⟨_,rfl,?_⟩|exact rfl)
   all_goals try exact⟨KO⟩
   all_goals try exact KX
   conv=>whnf
   refine⟨Unit,fun q=>⟨[(0,.r (.c (.t (.lst 3 (l.map Aq.tr))))),(1,tI .i64 (p:Int)),(5,tI .i64 1)],[],[]⟩,fun q=>0,(),?_,?_⟩
   ·skip
    repeat' ((conv=>whnf);first|refine Or.inl ?_|apply oi|(apply fi<;>intro h)|refine⟨_,rfl,?_⟩|exact rfl)
    all_goals try exact⟨KO⟩
   intro q
   repeat' ((conv=>whnf);first|refine Or.inl ?_|apply oi|(apply fi<;>intro h)|refine⟨_,rfl,?_⟩|exact rfl)
   all_goals try exact⟨KO⟩
   all_goals try exact KX
 ·have he:bP l p= -1:=by rw[bP,if_neg h0]
  rw[he]
  repeat' ((conv=>whnf);first|refine Or.inl ?_|apply oi|(apply fi<;>intro h)|refine⟨_,rfl,?_⟩|exact rfl)
  all_goals try exact⟨KO⟩
  all_goals try exact KX
def bJ (l:List Aq):Bool:=decide (l.length≤20) && (decide (0 < l.length) && bP l 0==(l.length:Int))
theorem pr (l:List Aq)(hl:l.length≤1048576)(hn:eJ l):Sim.Spec Try.prog 85 [tvL 3 (l.map Aq.tr)] (rB (bJ l)):=by
 refine an hΓ ap Try.func85 rfl (by decide) rfl ?_
 have hlen:(l.map Aq.tr).length=l.length:=by simp
 have hE:=eQ l 0 hl hn
 unfold bJ
 generalize bP l 0=e at *
 repeat' ((conv=>whnf);first|refine Or.inl ?_|apply oi|(apply fi<;>intro h)|refine ci hE (ai rfl (ai rfl trivial)) ?_|refine⟨_,rfl,?_⟩|exact rfl)
 all_goals try exact⟨KO⟩
 all_goals(refine⟨congrArg Tr.bool ?_⟩;simp_all;try omega)
theorem pG (l:List Aq)(hl:l.length≤1048576)(hn:eJ l):Sim.Spec Try.prog 83 [tvL 3 (l.map Aq.tr)] (rB (bJ l)):=by
 refine an hΓ ap Try.func83 rfl (by decide) rfl ?_
 have hlen:(l.map Aq.tr).length=l.length:=by simp
 have hE:=oB l 0 hl hn
 unfold bJ
 generalize bP l 0=e at *
 repeat' ((conv=>whnf);first|refine Or.inl ?_|apply oi|(apply fi<;>intro h)|refine ci hE (ai rfl (ai rfl trivial)) ?_|refine⟨_,rfl,?_⟩|exact rfl)
 all_goals try exact⟨KO⟩
 all_goals(refine⟨congrArg Tr.bool ?_⟩;simp_all;try omega)
def cY {α:Type}[BEq α]:List α→Nat→α→Option Nat
 | [],_,_=>none
 | x::l,i,s=>if(x==s)=true then some i else cY l (i+1) s
theorem qJ {α:Type}[BEq α]{l:List α}{i:Nat}{x s:α}(hx:l[i]?=some x):cY (l.drop i) i s=if(x==s)=true then some i else cY (l.drop (i+1)) (i+1) s:=by
 rw[dB hx,cY]
theorem fT {α:Type}[BEq α]:∀{l:List α} {i k:Nat} {s:α},cY l i s=some k→i≤k∧k < i+l.length
 | [],_,_,_,h=>by rw[cY]at h;cases h
 | x::l,i,k,s,h=>by
  rw[cY]at h
  simp only[List.length_cons]
  split at h
  ·injection h with h;omega
  ·have:=fT h;omega
theorem pb {α:Type}[BEq α][LawfulBEq α]:∀{l:List α} {i:Nat} {s:α},(cY l i s).isSome=l.contains s
 | [],_,_=>rfl
 | x::l,i,s=>by
  rw[cY,List.contains_cons]
  cases h:(x==s)with
  | true=>rw[if_pos rfl];simp[eq_of_beq h]
  | false=>
   have h2:(s==x)=false:=by rw[beq_eq_false_iff_ne]at h ⊢;exact fun e=>h e.symm
   rw[if_neg (by simp),h2,Bool.false_or]
   exact pb
def dC {α:Type}[BEq α](l:List α)(s:α):Int:=bN (cY l 0 s)
theorem jc {α:Type}[BEq α][LawfulBEq α]{l:List α}{s:α}:decide (0≤dC l s)=l.contains s:=by
 rw[←pb (i:=0),dC]
 cases cY l 0 s with
 | none=>rfl
 | some k=>simp[bN]
theorem mR (l:List (List UInt8))(s:List UInt8)(hl:l.length≤4194304):Sim.Spec Try.prog 113 [tvL 1 (l.map ah),tvS s] (rI (dC l s)):=by
 refine an hΓ ap Try.func113 rfl (by decide) rfl ?_
 have hlen:(l.map ah).length=l.length:=by simp
 obtain⟨R,hR⟩:∃R,dC l s=R:=⟨_,rfl⟩
 rw[hR]
 repeat' ((conv=>whnf);first|refine Or.inl ?_|apply oi|(apply fi<;>intro h)|refine⟨_,rfl,?_⟩|exact rfl)
 all_goals try exact⟨KO⟩
 conv=>whnf
 refine⟨{k:Nat // k≤l.length∧bN (cY (l.drop k) k s)=R},fun k=>⟨[(0,.r (.c (.t (.lst 1 (l.map ah))))),(1,tS s),(6,.r (.c (.t (.lst 1 (l.map ah))))),(7,tI .i64 ((l.map ah).length:Int)),(8,tI .i64 (k.1:Int))],[],[]⟩,fun k=>l.length - k.1,⟨0,by omega,hR⟩,?_,?_⟩
 ·skip
  repeat' ((conv=>whnf);first|refine Or.inl ?_|apply oi|(apply fi<;>intro h)|refine⟨_,rfl,?_⟩|exact rfl)
  all_goals try exact⟨KO⟩
 intro⟨k,hk,hr⟩
 dsimp only at hk hr ⊢
 by_cases hlt:k < l.length
 ·obtain⟨x,hx⟩:=ak hlt
  rw[qJ hx]at hr
  cases he:(x==s)with
  | true=>
   rw[he,if_pos rfl]at hr
   have he2:=eq_of_beq he
   subst he2
   subst hr
   repeat' ((conv=>whnf);first|refine Or.inl ?_|apply oi|(apply fi<;>intro h)|refine⟨k,(ah x),rfl,ab hx,?_⟩|refine⟨_,rfl,?_⟩|exact rfl)
   all_goals try exact⟨KO⟩
   all_goals try exact KX
   all_goals try(exfalso;(try simp_all[af]);(try omega);done)
  | false=>
   rw[he,if_neg (by simp)]at hr
   repeat' ((conv=>whnf);first|refine Or.inl ?_|apply oi|(apply fi<;>intro h)|refine⟨k,(ah x),rfl,ab hx,?_⟩|refine⟨_,rfl,?_⟩|exact rfl)
   all_goals try exact⟨KO⟩
   all_goals try exact KX
   all_goals try(exfalso;(try simp_all[af]);(try omega);done)
   conv=>whnf
   refine⟨⟨k+1,by omega,hr⟩,?_,KD⟩
   repeat' ((conv=>whnf);first|refine Or.inl ?_|apply oi|(apply fi<;>intro h)|refine⟨_,rfl,?_⟩|exact rfl)
   all_goals try exact⟨KO⟩
   all_goals try exact⟨K4⟩
 ·rw[List.drop_eq_nil_of_le (by omega),cY]at hr
  subst hr
  repeat' ((conv=>whnf);first|refine Or.inl ?_|apply oi|(apply fi<;>intro h)|refine⟨_,rfl,?_⟩|exact rfl)
  all_goals try exact⟨KO⟩
  all_goals try exact KX
theorem cX (l:List (List UInt8))(s:List UInt8)(hl:l.length≤4194304):Sim.Spec Try.prog 108 [tvL 1 (l.map ah),tvS s] (rB (l.contains s)):=by
 refine an hΓ ap Try.func108 rfl (by decide) rfl ?_
 have hI:=mR l s hl
 rw[←jc]
 generalize dC l s=e at *
 repeat' ((conv=>whnf);first|refine Or.inl ?_|apply oi|(apply fi<;>intro h)|refine ci hI (ai rfl (ai rfl trivial)) ?_|refine⟨_,rfl,?_⟩|exact rfl)
 all_goals try exact⟨KO⟩
theorem nc (l:List Int)(s:Int)(hl:l.length≤4194304):Sim.Spec Try.prog 98 [tvL 1 (l.map aa),tvI s] (rI (dC l s)):=by
 refine an hΓ ap Try.func98 rfl (by decide) rfl ?_
 have hlen:(l.map aa).length=l.length:=by simp
 obtain⟨R,hR⟩:∃R,dC l s=R:=⟨_,rfl⟩
 rw[hR]
 repeat' ((conv=>whnf);first|refine Or.inl ?_|apply oi|(apply fi<;>intro h)|refine⟨_,rfl,?_⟩|exact rfl)
 all_goals try exact⟨KO⟩
 conv=>whnf
 refine⟨{k:Nat // k≤l.length∧bN (cY (l.drop k) k s)=R},fun k=>⟨[(0,.r (.c (.t (.lst 1 (l.map aa))))),(1,tI .i64 s),(6,.r (.c (.t (.lst 1 (l.map aa))))),(7,tI .i64 ((l.map aa).length:Int)),(8,tI .i64 (k.1:Int))],[],[]⟩,fun k=>l.length - k.1,⟨0,by omega,hR⟩,?_,?_⟩
 ·skip
  repeat' ((conv=>whnf);first|refine Or.inl ?_|apply oi|(apply fi<;>intro h)|refine⟨_,rfl,?_⟩|exact rfl)
  all_goals try exact⟨KO⟩
 intro⟨k,hk,hr⟩
 dsimp only at hk hr ⊢
 by_cases hlt:k < l.length
 ·obtain⟨x,hx⟩:=ak hlt
  rw[qJ hx]at hr
  cases he:(x==s)with
  | true=>
   rw[he,if_pos rfl]at hr
   have he2:=eq_of_beq he
   subst he2
   subst hr
   repeat' ((conv=>whnf);first|refine Or.inl ?_|apply oi|(apply fi<;>intro h)|refine⟨k,(aa x),rfl,ab hx,?_⟩|refine⟨_,rfl,?_⟩|exact rfl)
   all_goals try exact⟨KO⟩
   all_goals try exact KX
   all_goals try(exfalso;(try simp_all[af]);(try omega);done)
  | false=>
   rw[he,if_neg (by simp)]at hr
   repeat' ((conv=>whnf);first|refine Or.inl ?_|apply oi|(apply fi<;>intro h)|refine⟨k,(aa x),rfl,ab hx,?_⟩|refine⟨_,rfl,?_⟩|exact rfl)
   all_goals try exact⟨KO⟩
   all_goals try exact KX
   all_goals try(exfalso;(try simp_all[af]);(try omega);done)
   conv=>whnf
   refine⟨⟨k+1,by omega,hr⟩,?_,KD⟩
   repeat' ((conv=>whnf);first|refine Or.inl ?_|apply oi|(apply fi<;>intro h)|refine⟨_,rfl,?_⟩|exact rfl)
   all_goals try exact⟨KO⟩
   all_goals try exact⟨K4⟩
 ·rw[List.drop_eq_nil_of_le (by omega),cY]at hr
  subst hr
  repeat' ((conv=>whnf);first|refine Or.inl ?_|apply oi|(apply fi<;>intro h)|refine⟨_,rfl,?_⟩|exact rfl)
  all_goals try exact⟨KO⟩
  all_goals try exact KX
theorem jW (l:List Int)(s:Int)(hl:l.length≤4194304):Sim.Spec Try.prog 70 [tvL 1 (l.map aa),tvI s] (rB (l.contains s)):=by
 refine an hΓ ap Try.func70 rfl (by decide) rfl ?_
 have hI:=nc l s hl
 rw[←jc]
 generalize dC l s=e at *
 repeat' ((conv=>whnf);first|refine Or.inl ?_|apply oi|(apply fi<;>intro h)|refine ci hI (ai rfl (ai rfl trivial)) ?_|refine⟨_,rfl,?_⟩|exact rfl)
 all_goals try exact⟨KO⟩
def lX (l:List (List UInt8)):Nat→Nat→Bool
 | 0,_=>true
 | n+1,k=>match l[k]? with
  | some s=>if bD s=true∧(l.take k).contains s=false then lX l n (k+1)else false
  | none=>true
theorem pQ {l:List (List UInt8)}{k:Nat}{s:List UInt8}(hx:l[k]?=some s):lX l (l.length - k) k=if bD s=true∧(l.take k).contains s=false then lX l (l.length - (k+1)) (k+1)else false:=by
 have hk:k < l.length:=by
  rcases Nat.lt_or_ge k l.length with h|h
  ·exact h
  ·rw[List.getElem?_eq_none h]at hx;cases hx
 rw[show l.length - k=(l.length - (k+1))+1 by omega,lX,hx]
def dA (l:List (List UInt8)):Bool:=lX l l.length 0 && decide (l.length≤4)
theorem oS (l:List (List UInt8))(hl:l.length≤1048576)(hn:∀x∈l,x.length≤1099511627775):Sim.Spec Try.prog 94 [tvL 1 (l.map ah)] (rB (dA l)):=by
 refine an hΓ ap Try.func94 rfl (by decide) rfl ?_
 have hlen:(l.map ah).length=l.length:=by simp
 obtain⟨R,hR⟩:∃R,dA l=R:=⟨_,rfl⟩
 rw[hR]
 repeat' ((conv=>whnf);first|refine Or.inl ?_|apply oi|(apply fi<;>intro h)|refine⟨_,rfl,?_⟩|exact rfl)
 all_goals try exact⟨KO⟩
 conv=>whnf
 refine⟨{k:Nat // k≤l.length∧(lX l (l.length - k) k && decide (l.length≤4))=R},fun k=>⟨[(0,.r (.c (.t (.lst 1 (l.map ah))))),(5,.r (.c (.t (.lst 1 (l.map ah))))),(6,tI .i64 ((l.map ah).length:Int)),(7,tI .i64 (k.1:Int))],[],[]⟩,fun k=>l.length - k.1,⟨0,by omega,by rw[Nat.sub_zero];exact hR⟩,?_,?_⟩
 ·skip
  repeat' ((conv=>whnf);first|refine Or.inl ?_|apply oi|(apply fi<;>intro h)|refine⟨_,rfl,?_⟩|exact rfl)
  all_goals try exact⟨KO⟩
 intro⟨k,hk,hr⟩
 dsimp only at hk hr ⊢
 by_cases hlt:k < l.length
 ·obtain⟨s,hs⟩:=ak hlt
  rw[pQ hs]at hr
  have hN:=fB s (hn s (List.mem_of_getElem? hs))
  have hC:=cX (l.take k) s (by simp;omega)
  cases hno:bD s with
  | false=>
   rw[hno]at hN hr
   rw[if_neg (by simp),Bool.false_and]at hr
   subst hr
   repeat' ((conv=>whnf);first|refine Or.inl ?_|apply oi|(apply fi<;>intro h)|refine⟨k,(ah s),rfl,ab hs,?_⟩|refine ci hN (ai rfl trivial) ?_|refine⟨_,rfl,?_⟩|exact rfl)
   all_goals try exact⟨KO⟩
   all_goals try exact KX
   all_goals try(exfalso;(try simp_all[af]);(try omega);done)
  | true=>
   rw[hno]at hN hr
   cases hco:(l.take k).contains s with
   | true=>
    rw[hco]at hC hr
    rw[if_neg (by simp),Bool.false_and]at hr
    subst hr
    rw[List.map_take]at hC
    repeat' ((conv=>whnf);first|refine Or.inl ?_|apply oi|(apply fi<;>intro h)|refine⟨k,(ah s),rfl,ab hs,?_⟩|refine ci hN (ai rfl trivial) ?_|refine⟨_,rfl,?_⟩|exact rfl)
    all_goals try exact⟨KO⟩
    all_goals try exact KX
    all_goals try(exfalso;(try simp_all[af]);(try omega);done)
    conv=>whnf
    refine⟨0,k,rfl,rfl,by omega,by omega,?_⟩
    repeat' ((conv=>whnf);first|refine Or.inl ?_|apply oi|(apply fi<;>intro h)|refine ci hC (ai rfl (ai rfl trivial)) ?_|refine⟨_,rfl,?_⟩|exact rfl)
    all_goals try exact⟨KO⟩
   | false=>
    rw[hco]at hC hr
    rw[if_pos ⟨rfl,rfl⟩]at hr
    rw[List.map_take]at hC
    repeat' ((conv=>whnf);first|refine Or.inl ?_|apply oi|(apply fi<;>intro h)|refine⟨k,(ah s),rfl,ab hs,?_⟩|refine ci hN (ai rfl trivial) ?_|refine⟨_,rfl,?_⟩|exact rfl)
    all_goals try exact⟨KO⟩
    all_goals try exact KX
    all_goals try(exfalso;(try simp_all[af]);(try omega);done)
    conv=>whnf
    refine⟨0,k,rfl,rfl,by omega,by omega,?_⟩
    repeat' ((conv=>whnf);first|refine Or.inl ?_|apply oi|(apply fi<;>intro h)|refine ci hC (ai rfl (ai rfl trivial)) ?_|refine⟨_,rfl,?_⟩|exact rfl)
    all_goals try exact⟨KO⟩
    all_goals try exact KX
    all_goals try(exfalso;(try simp_all[af]);(try omega);done)
    conv=>whnf
    refine⟨⟨k+1,by omega,hr⟩,?_,KD⟩
    repeat' ((conv=>whnf);first|refine Or.inl ?_|apply oi|(apply fi<;>intro h)|refine⟨_,rfl,?_⟩|exact rfl)
    all_goals try exact⟨KO⟩
    all_goals try exact⟨K4⟩
 ·rw[show l.length - k=0 by omega,lX,Bool.true_and]at hr
  subst hr
  repeat' ((conv=>whnf);first|refine Or.inl ?_|apply oi|(apply fi<;>intro h)|refine⟨_,rfl,?_⟩|exact rfl)
  all_goals try exact⟨KO⟩
  all_goals try exact KX
  all_goals exact⟨congrArg Tr.bool (decide_eq_decide.2 (by rw[hlen];omega))⟩
def bR (k:Int):Bool:=k==1 || (k==2 || (k==3 || (k==5 || k==6)))
theorem iG (k:Int):Sim.Spec Try.prog 71 [tvI k] (rB (bR k)):=by
 refine an hΓ ap Try.func71 rfl (by decide) rfl ?_
 unfold bR
 repeat' ((conv=>whnf);first|refine Or.inl ?_|apply oi|(apply fi<;>intro h)|refine⟨_,rfl,?_⟩|exact rfl)
 all_goals try exact⟨KO⟩
 all_goals(refine⟨congrArg Tr.bool ?_⟩;simp_all;(try(rw[Bool.eq_iff_iff];simp;omega)))
theorem ls (k:Int)(hk:af k 0 7=true):Sim.Spec Try.prog 82 [tvI k] (rB (bR k)):=by
 refine an hΓ ap Try.func82 rfl (by decide) rfl ?_
 have:=within_iff.1 hk
 unfold bR
 repeat' ((conv=>whnf);first|refine Or.inl ?_|apply oi|(apply fi<;>intro h)|refine⟨_,rfl,?_⟩|exact rfl)
 all_goals try exact⟨KO⟩
 all_goals(refine⟨congrArg Tr.bool ?_⟩;simp_all;(try(rw[Bool.eq_iff_iff];simp;done));(try(rw[Bool.eq_iff_iff];simp;omega)))
def bk (x:Ah):Bool:=af x.faa 0 7 && ((if x.faa=0∨x.faa=1 then bD x.fab else x.fab==[]) && ((if x.faa=0 then dA x.fac else x.fac.length==0) && (if bR x.faa=true then bJ x.fad else x.fad.length==0)))
theorem cr {x:Ah}(hs:ay 1048576 x.tr):x.fab.length≤1048576∧x.fac.length≤1048576∧(∀y∈x.fac,y.length≤1048576)∧x.fad.length≤1048576∧(∀y∈x.fad,y.fab.length≤1048576):=by
 simp only[Ah.tr,ay]at hs
 obtain⟨_,h1,h2,h3,_⟩:=hs
 have e1:=cm h2
 have e2:=cm h3
 refine⟨by rw[aF]at h1;omega,by omega,fun y hy=>?_,by omega,fun y hy=>?_⟩
 ·have:=aS h2 hy
  simp only[ah,ay,aF]at this
  omega
 ·have:=aS h3 hy
  simp only[Aq.tr,ay,aF]at this
  omega
theorem tx {x:Ah}(h:af x.faa 0 7=false):bk x=false:=by
 unfold bk;rw[h];rfl
theorem mD {x:Ah}(h:4 < x.fac.length):bk x=false:=by
 have h1:dA x.fac=false:=by unfold dA;rw[decide_eq_false (by omega),Bool.and_false]
 have h2:(x.fac.length==0)=false:=by rw[beq_eq_false_iff_ne];omega
 unfold bk
 rw[h1,h2]
 split <;> simp
theorem jx (x:Ah)(hs:ay 1048576 x.tr):Sim.Spec Try.prog 65 [.agg x.tr] (rB (bk x)):=by
 refine an hΓ ap Try.func65 rfl (by decide) rfl ?_
 obtain⟨h1,h2,h3,h4,h5⟩:=cr hs
 have hB:=aZ x.faa 0 7
 have hN:=fB x.fab (by omega)
 have hA:=oS x.fac h2 (fun y hy=>by have:=h3 y hy;omega)
 have hH:=iG x.faa
 have hE:=pr x.fad h4 (fun y hy=>by have:=h5 y hy;omega)
 unfold bk
 generalize af x.faa 0 7=b1 at *
 generalize bD x.fab=b2 at *
 generalize dA x.fac=b3 at *
 generalize bR x.faa=b4 at *
 generalize bJ x.fad=b5 at *
 have hl1:(x.fac.map ah).length=x.fac.length:=by simp
 have hl2:(x.fad.map Aq.tr).length=x.fad.length:=by simp
 repeat' ((conv=>whnf);first|refine Or.inl ?_|apply oi|(apply fi<;>intro h)|refine ci hB (ai rfl (ai rfl (ai rfl trivial))) ?_|refine ci hN (ai rfl trivial) ?_|refine ci hA (ai rfl trivial) ?_|refine ci hH (ai rfl trivial) ?_|refine ci hE (ai rfl trivial) ?_|refine⟨_,rfl,?_⟩|exact rfl)
 all_goals try exact⟨KO⟩
 all_goals(refine⟨congrArg Tr.bool ?_⟩;simp_all;(try(rw[Bool.eq_iff_iff];simp;done));(try(rw[Bool.eq_iff_iff];simp;omega));(try(intro hh;exfalso;simp_all;done)))
theorem wv {l:List (List UInt8)}{k i:Nat}{y s:List UInt8}(hi:i < k)(hy:l[i]?=some y):((l.take k).drop i).contains s=(s==y || ((l.take k).drop (i+1)).contains s):=by
 rw[dB (x:=y) (by rw[List.getElem?_take,if_pos hi];exact hy),List.contains_cons]
theorem wP {x:Ah}(hk:af x.faa 0 7=true)(h0:x.faa=0)(ha:x.fac.length≤4):bk x=(lX x.fac x.fac.length 0 && (bD x.fab && x.fad.length==0)):=by
 unfold bk dA
 rw[hk,if_pos (.inl h0),if_pos h0,if_neg (by rw[h0];decide),decide_eq_true ha]
 cases bD x.fab <;> cases lX x.fac x.fac.length 0 <;> simp
theorem xz {x:Ah}(hk:af x.faa 0 7=true)(h0:x.faa≠0):bk x=(x.fac.length==0 && ((if x.faa=1 then bD x.fab else x.fab==[]) && (if bR x.faa=true then bJ x.fad else x.fad.length==0))):=by
 have e:(if x.faa=0∨x.faa=1 then bD x.fab else x.fab==[])=(if x.faa=1 then bD x.fab else x.fab==[]):=by
  by_cases h1:x.faa=1
  ·rw[if_pos (.inr h1),if_pos h1]
  ·rw[if_neg (by omega),if_neg h1]
 unfold bk
 rw[hk,if_neg h0,e,Bool.true_and]
 generalize(if x.faa=1 then bD x.fab else x.fab==[])=a
 generalize(if bR x.faa=true then bJ x.fad else x.fad.length==0)=b
 cases a <;> cases(x.fac.length==0) <;> simp
theorem uy (n:Nat):((n:Int)==0)=(n==0):=by rw[Bool.eq_iff_iff];simp
abbrev zd (x:Ah):AO:= .box (x.tr.map .t)
theorem jm (x:Ah)(hs:ay 1048576 x.tr):Sim.Spec Try.prog 48 [.agg x.tr] (rB (bk x)):=by
 refine an hΓ ap Try.func48 rfl (by decide) rfl ?_
 obtain⟨h1,h2,h3,h4,h5⟩:=cr hs
 have hB:=dx x.faa 0 7
 have hN:=dQ x.fab (by omega)
 have hE:=pG x.fad h4 (fun y hy=>by have:=h5 y hy;omega)
 have hl1:(x.fac.map ah).length=x.fac.length:=by simp
 have hl2:(x.fad.map Aq.tr).length=x.fad.length:=by simp
 cases hk:af x.faa 0 7 with
 | false=>
  rw[hk]at hB
  rw[tx hk]
  repeat' ((conv=>whnf);first|refine Or.inl ?_|apply oi|(apply fi<;>intro h)|refine ci hB (ai rfl (ai rfl (ai rfl trivial))) ?_|refine⟨_,rfl,?_⟩|exact rfl)
  all_goals try exact⟨KO⟩
  all_goals try exact KX
 | true=>
  rw[hk]at hB
  have hH:=ls x.faa hk
  by_cases ha:x.fac.length≤4
  ·by_cases h0:x.faa=0
   ·rw[wP hk h0 ha]
    generalize bD x.fab=b2 at *
    generalize bJ x.fad=b5 at *
    obtain⟨A,hA⟩:∃A,lX x.fac x.fac.length 0=A:=⟨_,rfl⟩
    rw[hA]
    have hh0:bR x.faa=false:=by rw[h0];rfl
    rw[hh0]at hH
    repeat' ((conv=>whnf);first|refine Or.inl ?_|apply oi|(apply fi<;>intro h)|refine ci hB (ai rfl (ai rfl (ai rfl trivial))) ?_|refine⟨_,rfl,?_⟩|exact rfl)
    all_goals try exact⟨KO⟩
    all_goals try exact KX
    conv=>whnf
    refine⟨{k:Nat // k≤x.fac.length∧lX x.fac (x.fac.length - k) k=A},fun q=>⟨[(1,.r (.c (.ptr (1,0,0) 0))),(3,tI .i64 (q.1:Int))],[((1,0,0),some (zd x))],[1]⟩,fun q=>x.fac.length - q.1,⟨0,by omega,by rw[Nat.sub_zero];exact hA⟩,?_,?_⟩
    ·skip
     repeat' ((conv=>whnf);first|refine Or.inl ?_|apply oi|(apply fi<;>intro h)|refine⟨_,rfl,?_⟩|exact rfl)
     all_goals try exact⟨KO⟩
    intro⟨k,hkl,hr⟩
    dsimp only at hkl hr ⊢
    by_cases hlt:k < x.fac.length
    ·obtain⟨s,hsk⟩:=ak hlt
     rw[pQ hsk]at hr
     have hN2:=dQ s (by have:=h3 s (List.mem_of_getElem? hsk);omega)
     cases hno:bD s with
     | false=>
      rw[hno]at hN2 hr
      rw[if_neg (by simp)]at hr
      subst hr
      repeat' ((conv=>whnf);first|refine Or.inl ?_|apply oi|(apply fi<;>intro h)|refine ci hN2 (ai rfl trivial) ?_|refine⟨k,(ah s),rfl,ab hsk,?_⟩|refine⟨_,rfl,?_⟩|exact rfl)
      all_goals try exact⟨KO⟩
      all_goals try exact KX
     | true=>
      rw[hno]at hN2 hr
      obtain⟨C,hC⟩:∃C,(x.fac.take k).contains s=C:=⟨_,rfl⟩
      rw[hC]at hr
      repeat' ((conv=>whnf);first|refine Or.inl ?_|apply oi|(apply fi<;>intro h)|refine ci hN2 (ai rfl trivial) ?_|refine⟨k,(ah s),rfl,ab hsk,?_⟩|refine⟨_,rfl,?_⟩|exact rfl)
      all_goals try exact⟨KO⟩
      all_goals try exact KX
      all_goals try(exfalso;(try simp_all[af]);(try omega);done)
      conv=>whnf
      refine⟨{i:Nat // i≤k∧((x.fac.take k).drop i).contains s=C},fun q=>⟨[(1,.r (.c (.ptr (1,0,0) 0))),(3,tI .i64 (k:Int)),(4,tI .i64 (q.1:Int))],[((1,0,0),some (zd x))],[1]⟩,fun q=>k - q.1,⟨0,by omega,hC⟩,?_,?_⟩
      ·skip
       repeat' ((conv=>whnf);first|refine Or.inl ?_|apply oi|(apply fi<;>intro h)|refine⟨_,rfl,?_⟩|exact rfl)
       all_goals try exact⟨KO⟩
      intro⟨i,hik,hc⟩
      dsimp only at hik hc ⊢
      by_cases hil:i < k
      ·obtain⟨y,hy⟩:=ak (l:=x.fac) (k:=i) (by omega)
       rw[wv hil hy]at hc
       by_cases hys:s=y
       ·subst hys
        rw[beq_self_eq_true,Bool.true_or]at hc
        subst hc
        rw[if_neg (by simp)]at hr
        subst hr
        repeat' ((conv=>whnf);first|refine Or.inl ?_|apply oi|(apply fi<;>intro h)|refine⟨i,(ah s),rfl,ab hy,?_⟩|refine⟨k,(ah s),rfl,ab hsk,?_⟩|refine⟨_,rfl,?_⟩|exact rfl)
        all_goals try exact⟨KO⟩
        all_goals try exact KX
        all_goals try(exfalso;(try simp_all[af]);(try omega);done)
       ·rw[beq_eq_false_iff_ne.2 hys,Bool.false_or]at hc
        repeat' ((conv=>whnf);first|refine Or.inl ?_|apply oi|(apply fi<;>intro h)|refine⟨i,(ah y),rfl,ab hy,?_⟩|refine⟨k,(ah s),rfl,ab hsk,?_⟩|refine⟨_,rfl,?_⟩|exact rfl)
        all_goals try exact⟨KO⟩
        all_goals try exact KX
        all_goals try(exfalso;apply hys;simp_all;done)
        conv=>whnf
        refine⟨⟨i+1,by omega,hc⟩,?_,KD⟩
        repeat' ((conv=>whnf);first|refine Or.inl ?_|apply oi|(apply fi<;>intro h)|refine⟨_,rfl,?_⟩|exact rfl)
        all_goals try exact⟨KO⟩
        all_goals try exact⟨K4⟩
      ·rw[List.drop_eq_nil_of_le (by simp;omega)]at hc
       have hc:false=C:=hc
       subst hc
       rw[if_pos ⟨rfl,rfl⟩]at hr
       repeat' ((conv=>whnf);first|refine Or.inl ?_|apply oi|(apply fi<;>intro h)|refine⟨_,rfl,?_⟩|exact rfl)
       all_goals try exact⟨KO⟩
       all_goals try exact KX
       conv=>whnf
       refine⟨⟨k+1,by omega,hr⟩,?_,KD⟩
       repeat' ((conv=>whnf);first|refine Or.inl ?_|apply oi|(apply fi<;>intro h)|refine⟨_,rfl,?_⟩|exact rfl)
       all_goals try exact⟨KO⟩
       all_goals try exact⟨K4⟩
    ·rw[show x.fac.length - k=0 by omega]at hr
     have hr:true=A:=hr
     subst hr
     repeat' ((conv=>whnf);first|refine Or.inl ?_|apply oi|(apply fi<;>intro h)|refine ci hN (ai rfl trivial) ?_|refine ci hH (ai rfl trivial) ?_|refine ci hE (ai rfl trivial) ?_|refine⟨_,rfl,?_⟩|exact rfl)
     all_goals try exact⟨KO⟩
     all_goals try exact KX
     all_goals try(exfalso;(try simp_all[af]);(try omega);done)
     all_goals(refine⟨congrArg Tr.bool ?_⟩;simp_all;(try exact uy _))
   ·rw[xz hk h0]
    generalize bD x.fab=b2 at *
    generalize bJ x.fad=b5 at *
    generalize bR x.faa=b4 at *
    repeat' ((conv=>whnf);first|refine Or.inl ?_|apply oi|(apply fi<;>intro h)|refine ci hB (ai rfl (ai rfl (ai rfl trivial))) ?_|refine⟨_,rfl,?_⟩|exact rfl)
    all_goals try exact⟨KO⟩
    all_goals try exact KX
    conv=>whnf
    refine⟨Unit,fun q=>⟨[(1,.r (.c (.ptr (1,0,0) 0))),(3,tI .i64 0)],[((1,0,0),some (zd x))],[1]⟩,fun q=>0,(),?_,?_⟩
    ·skip
     repeat' ((conv=>whnf);first|refine Or.inl ?_|apply oi|(apply fi<;>intro h)|refine⟨_,rfl,?_⟩|exact rfl)
     all_goals try exact⟨KO⟩
    intro q
    dsimp only
    by_cases hlt:0 < x.fac.length
    ·obtain⟨s,hsk⟩:=ak hlt
     have hN2:=dQ s (by have:=h3 s (List.mem_of_getElem? hsk);omega)
     rw[show(x.fac.length==0)=false by rw[beq_eq_false_iff_ne];omega]
     repeat' ((conv=>whnf);first|refine Or.inl ?_|apply oi|(apply fi<;>intro h)|refine ci hN2 (ai rfl trivial) ?_|refine⟨0,(ah s),rfl,ab hsk,?_⟩|refine⟨_,rfl,?_⟩|exact rfl)
     all_goals try exact⟨KO⟩
     all_goals try exact KX
     all_goals try(exfalso;(try simp_all[af]);(try omega);done)
     all_goals try(exfalso;simp_all;done)
    ·have hz:x.fac.length=0:=by omega
     rw[show(x.fac.length==0)=true by rw[hz];rfl]
     rw[hz]at hl1
     repeat' ((conv=>whnf);first|refine Or.inl ?_|apply oi|(apply fi<;>intro h)|refine ci hN (ai rfl trivial) ?_|refine ci hH (ai rfl trivial) ?_|refine ci hE (ai rfl trivial) ?_|refine⟨_,rfl,?_⟩|exact rfl)
     all_goals try exact⟨KO⟩
     all_goals try(exfalso;simp_all;done)
     all_goals(refine⟨congrArg Tr.bool ?_⟩;simp_all;(try exact uy _);(try(rw[Bool.eq_iff_iff];simp;omega)))
  ·rw[mD (by omega)]
   repeat' ((conv=>whnf);first|refine Or.inl ?_|apply oi|(apply fi<;>intro h)|refine ci hB (ai rfl (ai rfl (ai rfl trivial))) ?_|refine⟨_,rfl,?_⟩|exact rfl)
   all_goals try exact⟨KO⟩
   all_goals try exact KX
def bh (k:Int):Bool:=k==0 || (k==3 || k==5)
theorem opensK_iff {k:Int}:bh k=true↔k=0∨k=3∨k=5:=by simp[bh]
def endN:List Ah→Nat→Nat→Option Nat
 | [],_,_=>none
 | x::l,i,o=>if bh x.faa=true then endN l (i+1) (o+1)else if x.faa=7 then(if o=1 then some i else endN l (i+1) (o - 1))else endN l (i+1) o
def endAt (l:List Ah)(k:Nat):Option Nat:=match l[k]? with
 | some x=>if bh x.faa=true then endN (l.drop (k+1)) (k+1) 1 else none
 | none=>none
def br (l:List Ah)(k:Int):Int:=if 0≤k then bN (endAt l k.toNat)else -1
theorem bF {l:List Ah}{i o:Nat}{x:Ah}(h:l[i]?=some x):endN (l.drop i) i o=if bh x.faa=true then endN (l.drop (i+1)) (i+1) (o+1)else if x.faa=7 then(if o=1 then some i else endN (l.drop (i+1)) (i+1) (o - 1))else endN (l.drop (i+1)) (i+1) o:=by
 rw[dB h,endN]
theorem fm {l:List Ah}{i o:Nat}(h:l.length≤i):endN (l.drop i) i o=none:=by
 rw[List.drop_eq_nil_of_le h,endN]
theorem nj:∀{l:List Ah} {i o e:Nat},endN l i o=some e→i≤e∧e < i+l.length
 | [],_,_,_,h=>by rw[endN]at h;cases h
 | x::l,i,o,e,h=>by
  rw[endN]at h
  simp only[List.length_cons]
  split at h
  ·have:=nj h;omega
  ·split at h
   ·split at h
    ·injection h with h;omega
    ·have:=nj h;omega
   ·have:=nj h;omega
theorem eF {l:List Ah}{i o e:Nat}(h:endN (l.drop i) i o=some e):i≤e∧e < l.length:=by
 have:=nj h
 rw[List.length_drop]at this
 omega
theorem iJ:∀{l:List Ah} {i:Nat} (n:Nat) {a b:Nat},l.length - i≤n→1≤a→1≤b→endN (l.drop i) i (a+b)=(endN (l.drop i) i b).bind fun m=>endN (l.drop (m+1)) (m+1) a
 | l,i,0,a,b,hn,_,_=>by rw[fm (by omega),fm (by omega)];rfl
 | l,i,n+1,a,b,hn,ha,hb=>by
  by_cases hi:i < l.length
  ·obtain⟨x,hx⟩:=ak hi
   rw[bF hx,bF hx]
   split
   ·rw[show a+b+1=a+(b+1) by omega]
    exact iJ n (by omega) ha (by omega)
   ·split
    ·rw[if_neg (by omega)]
     by_cases h1:b=1
     ·subst h1
      rw[if_pos rfl]
      rfl
     ·rw[if_neg h1,show a+b - 1=a+(b - 1) by omega]
      exact iJ n (by omega) ha (by omega)
    ·exact iJ n (by omega) ha hb
  ·rw[fm (by omega),fm (by omega)];rfl
theorem iQ:∀{l:List Ah} {i:Nat} (n:Nat) {o e:Nat},l.length - i≤n→endN (l.drop i) i o=some e→∃x,l[e]?=some x∧x.faa=7
 | l,i,0,o,e,hn,h=>by rw[fm (by omega)]at h;cases h
 | l,i,n+1,o,e,hn,h=>by
  by_cases hi:i < l.length
  ·obtain⟨x,hx⟩:=ak hi
   rw[bF hx]at h
   split at h
   ·exact iQ n (by omega) h
   ·split at h
    ·split at h
     ·injection h with h
      subst h
      exact⟨x,hx,by assumption⟩
     ·exact iQ n (by omega) h
    ·exact iQ n (by omega) h
  ·rw[fm (by omega)]at h;cases h
theorem aw {l:List Ah}{k e:Nat}(h:endAt l k=some e):∃x,l[k]?=some x∧bh x.faa=true∧endN (l.drop (k+1)) (k+1) 1=some e∧k < e∧e < l.length:=by
 unfold endAt at h
 split at h
 ·rename_i x hx
  split at h
  ·rename_i ho
   have:=eF h
   exact⟨x,hx,ho,h,by omega,by omega⟩
  ·cases h
 ·cases h
theorem kq {l:List Ah}{k:Nat}{x:Ah}(hx:l[k]?=some x)(ho:bh x.faa=true):endAt l k=endN (l.drop (k+1)) (k+1) 1:=by
 unfold endAt
 rw[hx]
 dsimp only
 rw[if_pos ho]
theorem bf {l:List Ah}{k e:Nat}(h:endAt l k=some e):∃x,l[e]?=some x∧x.faa=7:=by
 obtain⟨_,_,_,h,_⟩:=aw h
 exact iQ _ (Nat.le_refl _) h
theorem kx:∀{l:List Ah} (n:Nat) {s o e i:Nat},i - s≤n→1≤o→endN (l.drop s) s o=some e→s≤i→i≤e→∃o',1≤o'∧endN (l.drop i) i o'=some e
 | l,0,s,o,e,i,hn,ho,h,h1,h2=>by
  have:s=i:=by omega
  subst this
  exact⟨o,ho,h⟩
 | l,n+1,s,o,e,i,hn,ho,h,h1,h2=>by
  by_cases hs:s=i
  ·subst hs;exact⟨o,ho,h⟩
  have hl:=eF h
  obtain⟨x,hx⟩:=ak (l:=l) (k:=s) (by omega)
  rw[bF hx]at h
  split at h
  ·exact kx n (by omega) (by omega) h (by omega) h2
  ·split at h
   ·split at h
    ·injection h with h;omega
    ·exact kx n (by omega) (by omega) h (by omega) h2
   ·exact kx n (by omega) ho h (by omega) h2
theorem bt {l:List Ah}{k e i:Nat}{x:Ah}(h:endAt l k=some e)(h1:k < i)(h2:i < e)(hx:l[i]?=some x)(ho:bh x.faa=true):∃m,endAt l i=some m∧i < m∧m < e:=by
 obtain⟨_,_,_,he,_,hlt⟩:=aw h
 obtain⟨o,ho1,hlev⟩:=kx _ (Nat.le_refl _) (Nat.le_refl 1) he (by omega:k+1≤i) (by omega)
 rw[bF hx,if_pos ho,iJ _ (Nat.le_refl _) ho1 (Nat.le_refl 1)]at hlev
 cases hm:endN (l.drop (i+1)) (i+1) 1 with
 | none=>rw[hm]at hlev;cases hlev
 | some m=>
  rw[hm]at hlev
  have h3:=eF hm
  have h4:=eF (show endN (l.drop (m+1)) (m+1) o=some e from hlev)
  exact⟨m,by rw[kq hx ho];exact hm,by omega,by omega⟩
theorem aK {l:List Ah}{k:Nat}:br l (k:Int)=bN (endAt l k):=by
 rw[br,if_pos (by omega),Int.toNat_natCast]
theorem aN {o:Option Nat}{n:Nat}(h:o=some n):bN o=(n:Int):=by rw[h];rfl
theorem eI {o:Option Nat}(h:o=none):bN o= -1:=by rw[h];rfl
def elseN (l:List Ah)(e:Nat):Nat→Nat→Option Nat
 | 0,_=>none
 | n+1,i=>if i < e then(match l[i]? with
  | some x=>if x.faa=4 then some i else if x.faa=3∨x.faa=5 then(match endAt l i with
   | some m=>elseN l e n (m+1)
   | none=>elseN l e n (i+1))else elseN l e n (i+1)
  | none=>none)else none
def elseAt (l:List Ah)(k:Nat):Option Nat:=match l[k]?,endAt l k with
 | some x,some e=>if x.faa=3 then elseN l e (e - (k+1)) (k+1)else none
 | _,_=>none
def aL (l:List Ah)(k:Int):Int:=if 0≤k then bN (elseAt l k.toNat)else -1
theorem dP {l:List Ah}{e:Nat}:∀{n m i:Nat},e - i≤n→e - i≤m→elseN l e n i=elseN l e m i
 | 0,0,_,_,_=>rfl
 | 0,m+1,i,h1,h2=>by rw[elseN,elseN,if_neg (by omega)]
 | n+1,0,i,h1,h2=>by rw[elseN,elseN,if_neg (by omega)]
 | n+1,m+1,i,h1,h2=>by
  rw[elseN,elseN]
  by_cases hi:i < e
  ·rw[if_pos hi,if_pos hi]
   cases hx:l[i]? with
   | none=>rfl
   | some x=>
    dsimp only
    split
    ·rfl
    ·split
     ·cases hm:endAt l i with
      | none=>exact dP (by omega) (by omega)
      | some m'=>
       have:=aw hm
       obtain⟨_,_,_,_,h3,_⟩:=this
       exact dP (by omega) (by omega)
     ·exact dP (by omega) (by omega)
  ·rw[if_neg hi,if_neg hi]
theorem oL {l:List Ah}{e i:Nat}{x:Ah}(hi:i < e)(hx:l[i]?=some x):elseN l e (e - i) i=if x.faa=4 then some i else if x.faa=3∨x.faa=5 then(match endAt l i with
   | some m=>elseN l e (e - (m+1)) (m+1)
   | none=>elseN l e (e - (i+1)) (i+1))else elseN l e (e - (i+1)) (i+1):=by
 obtain⟨n,hn⟩:∃n,e - i=n+1:=⟨e - i - 1,by omega⟩
 rw[hn,elseN,if_pos hi,hx]
 dsimp only
 split
 ·rfl
 ·split
  ·cases hm:endAt l i with
   | none=>exact dP (by omega) (by omega)
   | some m=>
    obtain⟨_,_,_,_,h3,_⟩:=aw hm
    exact dP (by omega) (by omega)
  ·exact dP (by omega) (by omega)
theorem pM {l:List Ah}{e i n:Nat}(hi:e≤i):elseN l e n i=none:=by
 cases n with
 | zero=>rfl
 | succ n=>rw[elseN,if_neg (by omega)]
theorem iw {l:List Ah}{e:Nat}:∀{n i j:Nat},elseN l e n i=some j→i≤j∧j < e∧∃x,l[j]?=some x∧x.faa=4
 | 0,_,_,h=>by rw[elseN]at h;cases h
 | n+1,i,j,h=>by
  rw[elseN]at h
  split at h
  ·rename_i hi
   split at h
   ·rename_i x hx
    split at h
    ·injection h with h;subst h;exact⟨by omega,hi,x,hx,by assumption⟩
    ·split at h
     ·split at h
      ·rename_i m hm
       obtain⟨_,_,_,_,h3,_⟩:=aw hm
       have:=iw h
       exact⟨by omega,this.2⟩
      ·have:=iw h
       exact⟨by omega,this.2⟩
     ·have:=iw h
      exact⟨by omega,this.2⟩
   ·cases h
  ·cases h
theorem aO {l:List Ah}{k j:Nat}(h:elseAt l k=some j):∃x e,l[k]?=some x∧x.faa=3∧endAt l k=some e∧k < j∧j < e∧∃y,l[j]?=some y∧y.faa=4:=by
 unfold elseAt at h
 split at h
 ·rename_i x e hx he
  split at h
  ·rename_i h3
   have:=iw h
   exact⟨x,e,hx,h3,he,by omega,this.2⟩
  ·cases h
 ·cases h
def bU:List Ah→Nat→List Nat
 | [],_=>[]
 | x::l,i=>(if x.faa=0 then [i]else [])++bU l (i+1)
def bA (l:List Ah):List Nat:=bU l 0
theorem fR {l:List Ah}{i:Nat}{x:Ah}(hx:l[i]?=some x):bU (l.drop i) i=(if x.faa=0 then [i]else [])++bU (l.drop (i+1)) (i+1):=by
 rw[dB hx,bU]
theorem pO:∀(l:List Ah) (i:Nat),(bU l i).length≤l.length
 | [],_=>by simp[bU]
 | x::l,i=>by
  have:=pO l (i+1)
  rw[bU,List.length_append,List.length_cons]
  split <;> simp <;> omega
theorem ou:∀{l:List Ah} {i k:Nat},k∈bU l i→i≤k∧k < i+l.length∧∃x,l[k - i]?=some x∧x.faa=0
 | [],_,_,h=>by simp[bU]at h
 | x::l,i,k,h=>by
  rw[bU,List.mem_append]at h
  rcases h with h|h
  ·split at h
   ·simp only[List.mem_cons,List.not_mem_nil,or_false]at h
    subst h
    exact⟨by omega,by simp,x,by simp,by assumption⟩
   ·cases h
  ·obtain⟨h1,h2,y,hy,hk⟩:=ou h
   refine⟨by omega,by simp only[List.length_cons];omega,y,?_,hk⟩
   rw[show k - i=(k - (i+1))+1 by omega,List.getElem?_cons_succ]
   exact hy
theorem vg {l:List Ah}{k:Nat}(h:k∈bA l):k < l.length∧∃x,l[k]?=some x∧x.faa=0:=by
 have:=ou h
 simpa using this.2
def findN:List Ah→Nat→List UInt8→Option Nat
 | [],_,_=>none
 | x::l,i,s=>if x.faa=0∧x.fab=s then some i else findN l (i+1) s
def cy (l:List Ah)(s:List UInt8):Int:=bN (findN l 0 s)
theorem sy {l:List Ah}{i:Nat}{x:Ah}{s:List UInt8}(hx:l[i]?=some x):findN (l.drop i) i s=if x.faa=0∧x.fab=s then some i else findN (l.drop (i+1)) (i+1) s:=by
 rw[dB hx,findN]
theorem ow:∀{l:List Ah} {i k:Nat} {s:List UInt8},findN l i s=some k→i≤k∧k < i+l.length∧∃x,l[k - i]?=some x∧x.faa=0∧x.fab=s
 | [],_,_,_,h=>by rw[findN]at h;cases h
 | x::l,i,k,s,h=>by
  rw[findN]at h
  split at h
  ·injection h with h;subst h
   exact⟨by omega,by simp,x,by simp,by assumption⟩
  ·obtain⟨h1,h2,y,hy,hk⟩:=ow h
   refine⟨by omega,by simp only[List.length_cons];omega,y,?_,hk⟩
   rw[show k - i=(k - (i+1))+1 by omega,List.getElem?_cons_succ]
   exact hy
theorem eK {l:List Ah}{k:Nat}{s:List UInt8}(h:findN l 0 s=some k):k < l.length∧∃x,l[k]?=some x∧x.faa=0∧x.fab=s:=by
 have:=ow h
 simpa using this.2
def cD (acc:List (List UInt8))(s:List UInt8):List (List UInt8):=if acc.contains s=true then acc else acc++[s]
def locN (l:List Ah)(e:Nat):Nat→Nat→List (List UInt8)→List (List UInt8)
 | 0,_,acc=>acc
 | n+1,i,acc=>if i < e then(match l[i]? with
  | some x=>locN l e n (i+1) (if x.faa=1 then cD acc x.fab else acc)
  | none=>acc)else acc
def localsOf (l:List Ah)(k:Int):List (List UInt8):=if 0≤k then(match l[k.toNat]?,endAt l k.toNat with
 | some x,some e=>if x.faa=0 then locN l e (e - k.toNat) k.toNat x.fac else []
 | _,_=>[])else []
theorem qs {l:List Ah}{e i:Nat}{x:Ah}{acc:List (List UInt8)}(hi:i < e)(hx:l[i]?=some x):locN l e (e - i) i acc=locN l e (e - (i+1)) (i+1) (if x.faa=1 then cD acc x.fab else acc):=by
 rw[show e - i=(e - (i+1))+1 by omega,locN,if_pos hi,hx]
theorem sU {l:List Ah}{e i n:Nat}{acc:List (List UInt8)}(hi:e≤i):locN l e n i acc=acc:=by
 cases n with
 | zero=>rfl
 | succ n=>rw[locN,if_neg (by omega)]
theorem ss (acc:List (List UInt8))(s:List UInt8):(cD acc s).length≤acc.length+1:=by
 unfold cD
 split <;> simp
theorem sI {l:List Ah}{e:Nat}:∀(n i:Nat) (acc:List (List UInt8)),(locN l e n i acc).length≤acc.length+n
 | 0,_,_=>by simp[locN]
 | n+1,i,acc=>by
  rw[locN]
  split
  ·split
   ·refine Nat.le_trans (sI n _ _) ?_
    split
    ·have:=ss acc (by assumption:Ah).fab;omega
    ·omega
   ·omega
  ·omega
def aW (l:List Ah)(locals:List (List UInt8))(t:Aq):Bool:=
 if t.faa=1 then locals.contains t.fab
 else if t.faa=7 then(match findN l 0 t.fab with
  | some f=>(match l[f]? with|some x=>(x.fac.length:Int)==t.faf|none=>false)
  | none=>false)
 else true
def aR (l:List Ah)(locals:List (List UInt8))(ts:List Aq):Bool:=ts.all (aW l locals)
def dep (x:Ah)(d:Nat):Nat:=if x.faa=3∨x.faa=5 then d+1 else if x.faa=7 then d - 1 else d
def eZ (l:List Ah)(locals:List (List UInt8))(e:Nat):Nat→Nat→Nat→Bool
 | 0,_,_=>true
 | n+1,i,d=>if i < e then(match l[i]? with
  | some x=>if x.faa=0 then false else
   if dep x d≤4∧aR l locals x.fad=true then eZ l locals e n (i+1) (dep x d)else false
  | none=>false)else true
theorem nW {l:List Ah}{locals:List (List UInt8)}{e i d:Nat}{x:Ah}(hi:i < e)(hx:l[i]?=some x):eZ l locals e (e - i) i d=if x.faa=0 then false else if dep x d≤4∧aR l locals x.fad=true then eZ l locals e (e - (i+1)) (i+1) (dep x d)else false:=by
 rw[show e - i=(e - (i+1))+1 by omega,eZ,if_pos hi,hx]
theorem qb {l:List Ah}{locals:List (List UInt8)}{e i d n:Nat}(hi:e≤i):eZ l locals e n i d=true:=by
 cases n with
 | zero=>rfl
 | succ n=>rw[eZ,if_neg (by omega)]
def jk (l:List Ah)(i:Nat):Nat→Nat→Bool
 | 0,_=>false
 | n+1,j=>(elseAt l j==some i) || jk l i n (j+1)
theorem ic {l:List Ah}{i:Nat}:∀{n j:Nat},jk l i n j=true↔∃k,j≤k∧k < j+n∧elseAt l k=some i
 | 0,j=>by
  rw[jk]
  exact⟨fun h=>(by cases h),fun⟨k,h1,h2,_⟩=>(by omega)⟩
 | n+1,j=>by
  rw[jk,Bool.or_eq_true,ic,beq_iff_eq]
  constructor
  ·rintro(h|⟨k,h1,h2,h3⟩)
   ·exact⟨j,by omega,by omega,h⟩
   ·exact⟨k,by omega,by omega,h3⟩
  ·rintro⟨k,h1,h2,h3⟩
   by_cases hk:k=j
   ·subst hk;exact .inl h3
   ·exact .inr ⟨k,by omega,by omega,h3⟩
def bO (l:List Ah)(k e:Nat):Nat→Nat→Bool
 | 0,_=>true
 | n+1,i=>if i < e then(match l[i]? with
  | some x=>(if x.faa=4 then jk l i (i - k) k else true) && bO l k e n (i+1)
  | none=>true)else true
theorem eb {l:List Ah}{k e:Nat}:∀{n i:Nat},e - i≤n→(bO l k e n i=true↔∀j x,i≤j→j < e→l[j]?=some x→x.faa=4→jk l j (j - k) k=true)
 | 0,i,h=>⟨fun _ j x h1 h2=>by omega,fun _=>rfl⟩
 | n+1,i,h=>by
  rw[bO]
  by_cases hi:i < e
  ·rw[if_pos hi]
   cases hx:l[i]? with
   | none=>
    refine⟨fun _ j x h1 h2 hj=>?_,fun _=>rfl⟩
    have:l.length≤i:=List.getElem?_eq_none_iff.1 hx
    rw[List.getElem?_eq_none (by omega)]at hj
    cases hj
   | some x=>
    dsimp only
    rw[Bool.and_eq_true,eb (by omega)]
    constructor
    ·rintro⟨h1,h2⟩ j y hj1 hj2 hy hk
     by_cases he:j=i
     ·subst he
      rw[hx]at hy
      injection hy with hy
      subst hy
      rw[if_pos hk]at h1
      exact h1
     ·exact h2 j y (by omega) hj2 hy hk
    ·intro H
     refine⟨?_,fun j y hj1 hj2 hy hk=>H j y (by omega) hj2 hy hk⟩
     split
     ·exact H i x (Nat.le_refl _) hi hx (by assumption)
     ·rfl
  ·rw[if_neg hi]
   exact⟨fun _ j x h1 h2=>by omega,fun _=>rfl⟩
def gT (l:List Ah)(locals:List (List UInt8))(k e:Nat):Nat→Nat→Nat→Bool
 | 0,_,_=>true
 | n+1,i,d=>if i < e then(match l[i]? with
  | some x=>if x.faa=0 then false else if x.faa=4∧jk l i (i - k) k=false then false else
   if dep x d≤4∧aR l locals x.fad=true then gT l locals k e n (i+1) (dep x d)else false
  | none=>false)else true
theorem tG {l:List Ah}{locals:List (List UInt8)}{k e i d:Nat}{x:Ah}(hi:i < e)(hx:l[i]?=some x):gT l locals k e (e - i) i d=if x.faa=0 then false else if x.faa=4∧jk l i (i - k) k=false then false else if dep x d≤4∧aR l locals x.fad=true then gT l locals k e (e - (i+1)) (i+1) (dep x d)else false:=by
 rw[show e - i=(e - (i+1))+1 by omega,gT,if_pos hi,hx]
theorem wc {l:List Ah}{locals:List (List UInt8)}{k e i d n:Nat}(hi:e≤i):gT l locals k e n i d=true:=by
 cases n with
 | zero=>rfl
 | succ n=>rw[gT,if_neg (by omega)]
theorem tk {l:List Ah}{locals:List (List UInt8)}{k e:Nat}:∀{n i d:Nat},gT l locals k e n i d=(eZ l locals e n i d && bO l k e n i)
 | 0,i,d=>rfl
 | n+1,i,d=>by
  rw[gT,eZ,bO]
  by_cases hi:i < e
  ·rw[if_pos hi,if_pos hi,if_pos hi]
   cases hx:l[i]? with
   | none=>rfl
   | some x=>
    dsimp only
    by_cases h0:x.faa=0
    ·rw[if_pos h0,if_pos h0];rfl
    ·rw[if_neg h0,if_neg h0]
     rw[tk]
     by_cases h4:x.faa=4
     ·rw[if_pos h4]
      cases ha:jk l i (i - k) k with
      | false=>rw[if_pos ⟨h4,rfl⟩];simp
      | true=>
       rw[if_neg (by simp)]
       split <;> simp_all
     ·rw[if_neg (by simp[h4]),if_neg h4]
      split <;> simp_all
  ·rw[if_neg hi,if_neg hi,if_neg hi];rfl
def eY (l:List Ah)(k e:Nat):Bool:=decide ((localsOf l (k:Int)).length≤8) && eZ l (localsOf l (k:Int)) e (e - (k+1)) (k+1) 0
def gW (l:List Ah)(k e:Nat):Bool:=decide ((localsOf l (k:Int)).length≤8) && gT l (localsOf l (k:Int)) k e (e - (k+1)) (k+1) 0
theorem ip {l:List Ah}{k e:Nat}:gW l k e=(eY l k e && bO l k e (e - (k+1)) (k+1)):=by
 rw[gW,eY,tk,Bool.and_assoc]
theorem jL {l:List Ah}{k e:Nat}(h:eY l k e=true)(he:e≤l.length):∀i x,k < i→i < e→l[i]?=some x→x.faa≠0:=by
 rw[eY,Bool.and_eq_true]at h
 have key:∀(n i d:Nat),e - i≤n→eZ l (localsOf l (k:Int)) e n i d=true→∀j x,i≤j→j < e→l[j]?=some x→x.faa≠0:=by
  intro n
  induction n with
  | zero=>intro i d hn _ j x h1 h2;omega
  | succ n ih=>
   intro i d hn hb j x h1 h2 hx
   rw[eZ,if_pos (by omega)]at hb
   obtain⟨y,hy⟩:=ak (l:=l) (k:=i) (by omega)
   rw[hy]at hb
   dsimp only at hb
   split at hb
   ·cases hb
   ·rename_i h0
    split at hb
    ·by_cases hj:j=i
     ·subst hj
      rw[hy]at hx
      injection hx with hx
      subst hx
      exact h0
     ·exact ih (i+1) _ (by omega) hb j x (by omega) h2 hx
    ·cases hb
 exact fun i x h1 h2 hx=>key _ _ _ (Nat.le_refl _) h.2 i x (by omega) h2 hx
def aY (F:Nat→Nat→Bool)(l:List Ah):Nat→Nat→Bool
 | 0,k=>decide (l.length≤k)
 | n+1,k=>if k < l.length then(match l[k]?,endAt l k with
  | some x,some e=>if x.faa=0∧F k e=true then aY F l n (e+1)else false
  | _,_=>false)else true
theorem fv {F:Nat→Nat→Bool}{l:List Ah}{k n:Nat}{x:Ah}(hx:l[k]?=some x)(hn:l.length - k≤n):aY F l n k=match endAt l k with|some e=>if x.faa=0∧F k e=true then aY F l (l.length - (e+1)) (e+1)else false|none=>false:=by
 have more:∀(n m k:Nat),l.length - k≤n→l.length - k≤m→aY F l n k=aY F l m k:=by
  intro n
  induction n with
  | zero=>
   intro m k h1 h2
   rw[aY,decide_eq_true (by omega)]
   cases m with
   | zero=>rw[aY,decide_eq_true (by omega)]
   | succ m=>rw[aY,if_neg (by omega)]
  | succ n ih=>
   intro m k h1 h2
   cases m with
   | zero=>rw[aY,aY,if_neg (by omega),decide_eq_true (by omega)]
   | succ m=>
    rw[aY,aY]
    split
    ·split
     ·rename_i x e hx he
      obtain⟨_,_,_,_,h3,_⟩:=aw he
      split
      ·exact ih m (e+1) (by omega) (by omega)
      ·rfl
     ·rfl
    ·rfl
 have hk:k < l.length:=by
  rcases Nat.lt_or_ge k l.length with h|h
  ·exact h
  ·rw[List.getElem?_eq_none h]at hx;cases hx
 obtain⟨m,rfl⟩:∃m,n=m+1:=⟨n - 1,by omega⟩
 rw[aY,if_pos hk,hx]
 cases he:endAt l k with
 | none=>rfl
 | some e=>
  obtain⟨_,_,_,_,h3,_⟩:=aw he
  dsimp only
  split
  ·exact more _ _ _ (by omega) (by omega)
  ·rfl
theorem ke {F:Nat→Nat→Bool}{l:List Ah}{k n:Nat}(hk:l.length≤k):aY F l n k=true:=by
 cases n with
 | zero=>rw[aY,decide_eq_true hk]
 | succ n=>rw[aY,if_neg (by omega)]
def fo (l:List Ah):Bool:=bO l 0 l.length l.length 0
def aM (l:List Ah)(k:Nat):Bool:=match l[k]? with|some x=>findN l 0 x.fab==some k|none=>false
def dI (l:List Ah):List Nat→Nat→Bool
 | [],next=>fo l && (next==l.length)
 | k::fs,next=>match endAt l k with
  | some e=>if k=next∧aM l k=true∧eY l k e=true then dI l fs (e+1)else false
  | none=>false
theorem pi {l:List Ah}{i e:Nat}:∀(n:Nat),e - i≤n→i≤e→e≤l.length→(∀j x,i≤j→j < e→l[j]?=some x→x.faa≠0)→bU (l.drop i) i=bU (l.drop e) e
 | n,hn,hi,he,h=>by
  by_cases hx:i=e
  ·subst hx;rfl
  obtain⟨x,hxi⟩:=ak (l:=l) (k:=i) (by omega)
  cases n with
  | zero=>omega
  | succ n=>
   rw[fR hxi,if_neg (h i x (Nat.le_refl _) (by omega) hxi),List.nil_append]
   exact pi n (by omega) (by omega) he fun j y h1 h2=>h j y (by omega) h2
theorem qk {l:List Ah}:∀(n i:Nat),l.length - i≤n→i≤l.length→dI l (bU (l.drop i) i) i=((bU (l.drop i) i).all (aM l) && aY (eY l) l (l.length - i) i && fo l)
 | n,i,hn,hi=>by
  by_cases hlt:i < l.length
  ·obtain⟨x,hx⟩:=ak hlt
   rw[fv hx (Nat.le_refl _)]
   by_cases h0:x.faa=0
   ·rw[fR hx,if_pos h0,List.cons_append,List.nil_append,dI,List.all_cons]
    cases he:endAt l i with
    | none=>simp
    | some e=>
     dsimp only
     obtain⟨_,_,_,_,h3,h4⟩:=aw he
     cases hf:eY l i e with
     | false=>simp
     | true=>
      have hnf:=jL hf (by omega)
      have hsk:bU (l.drop (i+1)) (i+1)=bU (l.drop (e+1)) (e+1):=by
       refine pi _ (Nat.le_refl _) (by omega) (by omega) fun j y h5 h6 hy=>?_
       by_cases hje:j=e
       ·subst hje
        obtain⟨z,hz,hz7⟩:=bf he
        rw[hy]at hz
        injection hz with hz
        subst hz
        omega
       ·exact hnf j y (by omega) (by omega) hy
      cases n with
      | zero=>omega
      | succ n=>
       have ih:=qk (l:=l) n (e+1) (by omega) (by omega)
       rw[hsk]
       cases hnm:aM l i with
       | false=>simp
       | true=>
        rw[if_pos ⟨rfl,rfl,rfl⟩,if_pos ⟨h0,rfl⟩,ih]
        simp
   ·have hc:(match endAt l i with|some e=>if x.faa=0∧eY l i e=true then aY (eY l) l (l.length - (e+1)) (e+1)else false|none=>false)=false:=by
     cases endAt l i with
     | none=>rfl
     | some e=>dsimp only;rw[if_neg (by simp[h0])]
    rw[hc,Bool.and_false,Bool.false_and]
    rw[fR hx,if_neg h0,List.nil_append]
    cases hfs:bU (l.drop (i+1)) (i+1)with
    | nil=>
     rw[dI]
     have:(i==l.length)=false:=by rw[beq_eq_false_iff_ne];omega
     rw[this,Bool.and_false]
    | cons k fs=>
     have hk:k∈bU (l.drop (i+1)) (i+1):=by rw[hfs];simp
     have:=(ou hk).1
     rw[dI]
     cases endAt l k with
     | none=>rfl
     | some e=>dsimp only;rw[if_neg (by omega)]
  ·have:i=l.length:=by omega
   subst this
   rw[List.drop_eq_nil_of_le (Nat.le_refl _),bU,dI,ke (Nat.le_refl _)]
   simp
theorem qc {l:List Ah}:∀(n k:Nat),l.length - k≤n→k≤l.length→(∀j m,j < k→endAt l j=some m→m < k)→
  (aY (gW l) l (l.length - k) k=(aY (eY l) l (l.length - k) k && bO l 0 l.length (l.length - k) k))
 | n,k,hn,hk,hP=>by
  by_cases hlt:k < l.length
  ·obtain⟨x,hx⟩:=ak hlt
   rw[fv hx (Nat.le_refl _),fv hx (Nat.le_refl _)]
   cases he:endAt l k with
   | none=>simp
   | some e=>
    dsimp only
    obtain⟨_,hx',ho,_,h3,h4⟩:=aw he
    obtain⟨z,hz,hz7⟩:=bf he
    by_cases h0:x.faa=0
    ·have hP':∀j m,j < e+1→endAt l j=some m→m < e+1:=by
      intro j m hj hm
      rcases Nat.lt_trichotomy j k with hjk|hjk|hjk
      ·have:=hP j m hjk hm;omega
      ·subst hjk
       rw[he]at hm
       injection hm with hm
       omega
      ·obtain⟨y,hy,hyo,_⟩:=aw hm
       by_cases hje:j=e
       ·subst hje
        rw[hz]at hy
        injection hy with hy
        subst hy
        rw[opensK_iff]at hyo
        omega
       ·obtain⟨m',hm',_,h5⟩:=bt he hjk (by omega) hy hyo
        rw[hm]at hm'
        injection hm' with hm'
        omega
     cases n with
     | zero=>omega
     | succ n=>
      have ih:=qc (l:=l) n (e+1) (by omega) (by omega) hP'
      have hels:bO l 0 l.length (l.length - k) k=(bO l k e (e - (k+1)) (k+1) && bO l 0 l.length (l.length - (e+1)) (e+1)):=by
       rw[Bool.eq_iff_iff,Bool.and_eq_true,eb (Nat.le_refl _),eb (Nat.le_refl _),eb (Nat.le_refl _)]
       constructor
       ·intro H
        refine⟨fun j y h5 h6 hy h7=>?_,fun j y h5 h6 hy h7=>H j y (by omega) h6 hy h7⟩
        have:=H j y (by omega) (by omega) hy h7
        rw[ic]at this ⊢
        obtain⟨i,h8,h9,h10⟩:=this
        refine⟨i,?_,by omega,h10⟩
        rcases Nat.lt_or_ge i k with h11|h11
        ·obtain⟨_,m,_,_,h12,_,h13,_⟩:=aO h10
         have:=hP i m h11 h12
         omega
        ·exact h11
       ·rintro⟨H1,H2⟩ j y h5 h6 hy h7
        rcases Nat.lt_or_ge e j with h8|h8
        ·exact H2 j y h8 h6 hy h7
        ·have hje:j≠e:=fun h=>by
          subst h
          rw[hz]at hy
          injection hy with hy
          subst hy
          omega
         have hjk:j≠k:=fun h=>by
          subst h
          rw[hx]at hy
          injection hy with hy
          subst hy
          omega
         have:=H1 j y (by omega) (by omega) hy h7
         rw[ic]at this ⊢
         obtain⟨i,h9,h10,h11⟩:=this
         exact⟨i,by omega,by omega,h11⟩
      rw[hels,ih,ip]
      cases eY l k e <;> cases bO l k e (e - (k+1)) (k+1) <;> simp[h0]
    ·rw[if_neg (by simp[h0]),if_neg (by simp[h0])];rfl
  ·have:k=l.length:=by omega
   subst this
   rw[ke (Nat.le_refl _),ke (Nat.le_refl _)]
   rw[Nat.sub_self]
   rfl
def dv:List UInt8:=[109,97,105,110]
def gM (l:List Ah):Bool:=match l with
 | []=>false
 | x::_=>x.faa==0 && (x.fab==dv && x.fac.length==0)
def aD (l:List Ah):Bool:=decide (l.length≤60) && (decide (1≤(bA l).length∧(bA l).length≤6) && (l.all bk && (gM l && ((bA l).all (aM l) && (aY (eY l) l l.length 0 && fo l)))))
theorem tT (l:List Ah):dI l (bA l) 0=((bA l).all (aM l) && (aY (eY l) l l.length 0 && fo l)):=by
 have:=qk (l:=l) _ 0 (Nat.le_refl _) (by omega)
 rw[List.drop_zero]at this
 rw[bA,this,Nat.sub_zero,Bool.and_assoc]
theorem kb (l:List Ah):aY (gW l) l l.length 0=(aY (eY l) l l.length 0 && fo l):=by
 have:=qc (l:=l) _ 0 (Nat.le_refl _) (by omega) (fun j m h=>by omega)
 rw[Nat.sub_zero]at this
 exact this
def StkOk (l:List Ah)(e:Nat):Nat→List Nat→Prop
 | i,[]=>endN (l.drop i) i 1=some e
 | i,m::es=>i≤m∧endN (l.drop i) i 1=some m∧StkOk l e (m+1) es
theorem StkOk.push {l:List Ah}{e i:Nat}{es:List Nat}{x:Ah}(h:StkOk l e i es)(hx:l[i]?=some x)(ho:bh x.faa=true):∃m,endAt l i=some m∧i < m∧StkOk l e (i+1) (m::es):=by
 have key:∀m',endN (l.drop i) i 1=some m'→∃m,endAt l i=some m∧i < m∧endN (l.drop (i+1)) (i+1) 1=some m∧endN (l.drop (m+1)) (m+1) 1=some m':=by
  intro m' hm
  rw[bF hx,if_pos ho,iJ _ (Nat.le_refl _) (Nat.le_refl 1) (Nat.le_refl 1)]at hm
  cases h1:endN (l.drop (i+1)) (i+1) 1 with
  | none=>rw[h1]at hm;cases hm
  | some m=>
   rw[h1]at hm
   have:=eF h1
   exact⟨m,by rw[kq hx ho];exact h1,by omega,rfl,hm⟩
 cases es with
 | nil=>
  obtain⟨m,h1,h2,h3,h4⟩:=key e h
  exact⟨m,h1,h2,by omega,h3,h4⟩
 | cons m' es=>
  obtain⟨g1,g2,g3⟩:=h
  obtain⟨m,h1,h2,h3,h4⟩:=key m' g2
  have:=eF h4
  exact⟨m,h1,h2,by omega,h3,by omega,h4,g3⟩
theorem StkOk.other {l:List Ah}{e i:Nat}{es:List Nat}{x:Ah}(h:StkOk l e i es)(hx:l[i]?=some x)(ho:bh x.faa=false)(h7:x.faa≠7):StkOk l e (i+1) es:=by
 have key:∀m',endN (l.drop i) i 1=some m'→endN (l.drop (i+1)) (i+1) 1=some m':=by
  intro m' hm
  rw[bF hx,if_neg (by simp[ho]),if_neg h7]at hm
  exact hm
 cases es with
 | nil=>exact key e h
 | cons m' es=>
  obtain⟨g1,g2,g3⟩:=h
  have:=eF (key m' g2)
  exact⟨by omega,key m' g2,g3⟩
theorem StkOk.pop {l:List Ah}{e i:Nat}{es:List Nat}{x:Ah}(h:StkOk l e i es)(hx:l[i]?=some x)(h7:x.faa=7):(es=[]∧i=e)∨∃es',es=i::es'∧StkOk l e (i+1) es':=by
 have ho:¬bh x.faa=true:=by rw[opensK_iff];omega
 cases es with
 | nil=>
  unfold StkOk at h
  rw[bF hx,if_neg ho,if_pos h7,if_pos rfl]at h
  injection h with h
  exact .inl ⟨rfl,h⟩
 | cons m' es=>
  obtain⟨g1,g2,g3⟩:=h
  rw[bF hx,if_neg ho,if_pos h7,if_pos rfl]at g2
  injection g2 with g2
  subst g2
  exact .inr ⟨es,rfl,g3⟩
theorem StkOk.le {l:List Ah}{e:Nat}:∀{i:Nat} {es:List Nat},StkOk l e i es→i≤e
 | i,[],h=>(eF h).1
 | i,m::es,h=>by
  have:=StkOk.le h.2.2
  have:=h.1
  omega
inductive Ex where
 | node (t:Aq) (es:List Ex)
mutual
def Ex.toks:Ex→List Aq
 | .node t es=>t::az es
def az:List Ex→List Aq
 | []=>[]
 | a::es=>a.toks++az es
end
mutual
def Ex.ok:Ex→Prop
 | .node t es=>dZ t=true∧es.length=ar t∧jv es
def jv:List Ex→Prop
 | []=>True
 | a::es=>a.ok∧jv es
end
theorem Ex.toks_pos (e:Ex):0 < e.toks.length:=by cases e;simp[Ex.toks]
theorem fJ:∀(a b:List Ex),az (a++b)=az a++az b
 | [],b=>by rw[List.nil_append,az,List.nil_append]
 | x::a,b=>by rw[List.cons_append,az,az,fJ a b,List.append_assoc]
theorem oT:∀{l:List Ex} (n:Nat),jv l→jv (l.take n)
 | [],n,h=>by rw[List.take_nil];exact h
 | x::l,0,h=>by rw[List.take_zero];trivial
 | x::l,n+1,h=>by rw[List.take_succ_cons];exact⟨h.1,oT n h.2⟩
theorem oI:∀{l:List Ex} (n:Nat),jv l→jv (l.drop n)
 | [],n,h=>by rw[List.drop_nil];exact h
 | x::l,0,h=>h
 | x::l,n+1,h=>by rw[List.drop_succ_cons];exact oI n h.2
theorem om:∀{l:List Aq} {p n e:Nat},endL l p n=some e→∃es:List Ex,es.length=n∧jv es∧∃rest,l=az es++rest∧p+(az es).length=e
 | l,p,0,e,h=>by
  have h:some p=some e:=by cases l <;> exact h
  injection h with h
  exact⟨[],rfl,trivial,l,rfl,by simp[az];omega⟩
 | [],_,_+1,_,h=>by rw[endL]at h;cases h
 | t::l,p,n+1,e,h=>by
  rw[endL]at h
  split at h
  ·rename_i hok
   obtain⟨es,h1,h2,rest,h3,h4⟩:=om h
   refine⟨.node t (es.take (ar t))::es.drop (ar t),by simp;omega,⟨⟨hok,by simp;omega,oT _ h2⟩,oI _ h2⟩,rest,?_,?_⟩
   ·rw[az,Ex.toks,List.cons_append,←fJ,List.take_append_drop,List.cons_append,←h3]
   ·rw[az,Ex.toks,List.cons_append,←fJ,List.take_append_drop,List.length_cons];omega
  ·cases h
mutual
theorem Ex.endL:∀(e:Ex),e.ok→∀(r:List Aq) (p n:Nat),Go.Proofs.Ytjmplnfiabmalaa.endL (e.toks++r) p (n+1)=Go.Proofs.Ytjmplnfiabmalaa.endL r (p+e.toks.length) n
 | .node t es,h,r,p,n=>by
  rw[Ex.toks,List.cons_append,Go.Proofs.Ytjmplnfiabmalaa.endL,if_pos h.1,show n+ar t=n+es.length by rw[h.2.1],sA es h.2.2,List.length_cons]
  congr 1;omega
theorem sA:∀(es:List Ex),jv es→∀(r:List Aq) (p n:Nat),Go.Proofs.Ytjmplnfiabmalaa.endL (az es++r) p (n+es.length)=Go.Proofs.Ytjmplnfiabmalaa.endL r (p+(az es).length) n
 | [],_,r,p,n=>by rw[az];simp
 | a::es,h,r,p,n=>by
  rw[az,List.append_assoc,List.length_cons,show n+(es.length+1)=(n+es.length)+1 by omega,Ex.endL a h.1,sA es h.2,List.length_append]
  congr 1;omega
end
theorem ko {l:List Aq}(h:bJ l=true):∃e:Ex,e.ok∧l=e.toks:=by
 unfold bJ at h
 simp only[Bool.and_eq_true,decide_eq_true_eq,beq_iff_eq]at h
 obtain⟨_,h1,h2⟩:=h
 rw[bP,if_pos (by omega)]at h2
 show ∃e:Ex,e.ok∧l=e.toks
 cases he:Go.Proofs.Ytjmplnfiabmalaa.endL (l.drop (0:Int).toNat) (0:Int).toNat 1 with
 | none=>rw[he]at h2;simp only[bN]at h2;omega
 | some e=>
  rw[he]at h2
  simp only[bN]at h2
  obtain⟨es,g1,g2,rest,g3,g4⟩:=om he
  match es,g1 with
  | [a],_=>
   rw[az,az,List.append_nil]at g3 g4
   have e0:l.drop (0:Int).toNat=l:=rfl
   rw[e0]at g3
   have:rest=[]:=by
    have:=congrArg List.length g3
    rw[List.length_append]at this
    have e1:(0:Int).toNat=0:=rfl
    rw[e1]at g4
    exact List.length_eq_zero_iff.1 (by omega)
   subst this
   exact⟨a,g2.1,by rw[g3,List.append_nil]⟩
def gy (l:List Aq)(p:Nat)(e:Ex):Prop:=∃r,l.drop p=e.toks++r
def fN (l:List Aq)(p:Nat)(es:List Ex):Prop:=∃r,l.drop p=az es++r
theorem oG {l:List Aq}{p:Nat}{e:Ex}(h:gy l p e)(ho:e.ok):bP l (p:Int)=((p+e.toks.length:Nat):Int):=by
 obtain⟨r,h⟩:=h
 rw[bP,if_pos (by omega),Int.toNat_natCast,h,show(1:Nat)=0+1 from rfl,Ex.endL e ho]
 cases r <;> rfl
theorem jH {l:List Aq}{p:Nat}{t:Aq}{es:List Ex}(h:gy l p (.node t es)):l[p]?=some t∧fN l (p+1) es:=by
 obtain⟨r,h⟩:=h
 rw[Ex.toks,List.cons_append]at h
 refine⟨?_,r,?_⟩
 ·have:=congrArg (·[0]?) h
  simpa [List.getElem?_drop]using this
 ·have:=congrArg (·.drop 1) h
  simpa [List.drop_drop]using this
theorem cO {l:List Aq}{p:Nat}{a:Ex}{es:List Ex}(h:fN l p (a::es)):gy l p a∧fN l (p+a.toks.length) es:=by
 obtain⟨r,h⟩:=h
 rw[az,List.append_assoc]at h
 refine⟨⟨_,h⟩,r,?_⟩
 rw[←List.drop_drop,h,List.drop_left]
def cW:Nat→List Ex→List Nat
 | _,[]=>[]
 | p,a::es=>p::cW (p+a.toks.length) es
theorem sK:∀(p:Nat) (es:List Ex),(cW p es).length=es.length
 | _,[]=>rfl
 | p,a::es=>by rw[cW,List.length_cons,sK,List.length_cons]
theorem gJ:∀{l:List Aq} {p:Nat} {es:List Ex} {k:Nat} {a:Ex},fN l p es→es[k]?=some a→∃q,(cW p es)[k]?=some q∧gy l q a
 | _,_,[],_,_,_,h=>by simp at h
 | l,p,b::es,0,a,hs,h=>by
  rw[List.getElem?_cons_zero]at h
  injection h with h
  subst h
  exact⟨p,by rw[cW,List.getElem?_cons_zero],(cO hs).1⟩
 | l,p,b::es,k+1,a,hs,h=>by
  rw[List.getElem?_cons_succ]at h
  obtain⟨q,h1,h2⟩:=gJ (cO hs).2 h
  exact⟨q,by rw[cW,List.getElem?_cons_succ];exact h1,h2⟩
theorem pT {t:Aq}(h:dZ t=true):t.faa=0∨t.faa=1∨t.faa=7∨(2≤t.faa∧t.faa≤6):=by
 unfold dZ at h
 split at h
 ·omega
 ·split at h
  ·omega
  ·split at h
   ·omega
   ·simp only[Bool.and_eq_true,within_iff]at h
    omega
theorem vl {t:Aq}(h:dZ t=true):((t.faa=0∨t.faa=1)→ar t=0)∧(t.faa=7→(ar t:Int)=t.faf)∧(2≤t.faa→t.faa≤6→ar t=2):=by
 obtain⟨e1,_⟩:=qm h
 unfold mu at e1
 rw[if_neg (by simp[h])]at e1
 refine⟨fun h0=>?_,fun h7=>?_,fun h2 h6=>?_⟩
 ·rw[if_neg (by omega),if_pos h0]at e1;omega
 ·rw[if_pos h7]at e1;omega
 ·rw[if_neg (by omega),if_neg (by omega)]at e1;omega
theorem fk:∀{l:List Aq} {p:Nat} {es:List Ex} {j:Nat} {a:Ex},fN l p es→es[j]?=some a→gy l (p+(az (es.take j)).length) a
 | _,_,[],_,_,_,h=>by simp at h
 | l,p,b::es,0,a,hs,h=>by
  rw[List.getElem?_cons_zero]at h
  injection h with h
  subst h
  simpa [az]using(cO hs).1
 | l,p,b::es,j+1,a,hs,h=>by
  rw[List.getElem?_cons_succ]at h
  have:=fk (cO hs).2 h
  rw[List.take_succ_cons,az,List.length_append,←Nat.add_assoc]
  exact this
end Go.Proofs.Ytjmplnfiabmalaa
