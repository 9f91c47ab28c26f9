import Derived.Test.YtjmplnfiabmalaaGe
import Derived.Test.YtjmplnfiabmalaaRows
namespace Go.Sim
theorem K1 {p:Prop}(h:False:=by simp at *;omega):p:=h.elim
theorem K2 {p:Prop}(h:p:=by dsimp only;rw[IntWalk.i64_in _ (by omega)];rfl):p:=h
theorem K3 {p:Prop}(h:False:=by simp(disch:=omega)only[IntWalk.i64_in]at *;simp only[beq_iff_eq]at *;omega):p:=h.elim
theorem K4 {p:Prop}(h:False:=by simp only[beq_iff_eq]at *;omega):p:=h.elim
theorem K5 {p:Prop}(h:p:=by simp <;> omega):p:=h
theorem K6 {p:Prop}(h:p:=by rw[IntWalk.i64_in _ (by omega)];rfl):p:=h
theorem K7 {k:IntKind}{a b:Int}(h:a=b:=by dsimp only;rw[IntWalk.i64_in _ (by omega)];omega):Tr.int k a=Tr.int k b:=congrArg (Tr.int k) h
theorem KD {p:Prop}(h:p:=by dsimp only;omega):p:=h
end Go.Sim
namespace Go.Proofs.Ytjmplnfiabmalaa
open Go.Sim
def Γ:Env:=[
 (1,{size:=1,bytes:=8,agg:=false,zero:=[AC.opq]}),
 (2,{size:=1,bytes:=8,agg:=false,zero:=[AC.t (Tr.int Go.IntKind.i64 (Int.ofNat 0))],kind:=some Go.IntKind.i64}),
 (3,{size:=1,bytes:=8,agg:=false,zero:=[AC.t (Tr.int Go.IntKind.i64 (Int.ofNat 0))],kind:=some Go.IntKind.i64}),
 (4,{size:=1,bytes:=1,agg:=false,zero:=[AC.t (Tr.bool false)],bool:=true}),
 (5,{size:=1,bytes:=1,agg:=false,zero:=[AC.t (Tr.int Go.IntKind.u8 (Int.ofNat 0))],kind:=some Go.IntKind.u8}),
 (6,{size:=1,bytes:=1,agg:=false,zero:=[AC.t (Tr.int Go.IntKind.u8 (Int.ofNat 0))],kind:=some Go.IntKind.u8}),
 (7,{size:=4,bytes:=24,agg:=true,zero:=[AC.t (Tr.int Go.IntKind.i64 (Int.ofNat 0)),AC.t (Tr.int Go.IntKind.i64 (Int.ofNat 0)),AC.t (Tr.bool false),AC.t (Tr.int Go.IntKind.u8 (Int.ofNat 0))],fields:=[(0,1,2),(1,1,3),(2,1,4),(3,1,6)]}),
 (8,{size:=4,bytes:=24,agg:=true,zero:=[AC.t (Tr.int Go.IntKind.i64 (Int.ofNat 0)),AC.t (Tr.int Go.IntKind.i64 (Int.ofNat 0)),AC.t (Tr.bool false),AC.t (Tr.int Go.IntKind.u8 (Int.ofNat 0))],fields:=[(0,1,2),(1,1,3),(2,1,4),(3,1,6)]}),
 (9,{size:=1,bytes:=16,agg:=false,zero:=[AC.t (Tr.str [])],str:=true}),
 (10,{size:=1,bytes:=16,agg:=false,zero:=[AC.t (Tr.str [])],str:=true}),
 (11,{size:=1,bytes:=16,agg:=false,zero:=[AC.t (Tr.str [])],str:=true}),
 (12,{size:=1,bytes:=8,agg:=false,zero:=[AC.t (Tr.int Go.IntKind.u64 (Int.ofNat 0))],kind:=some Go.IntKind.u64}),
 (13,{size:=2,bytes:=24,agg:=true,zero:=[AC.t (Tr.str []),AC.t (Tr.int Go.IntKind.u64 (Int.ofNat 0))],fields:=[(0,1,9),(1,1,12)]}),
 (14,{size:=2,bytes:=24,agg:=true,zero:=[AC.t (Tr.str []),AC.t (Tr.int Go.IntKind.u64 (Int.ofNat 0))],fields:=[(0,1,9),(1,1,12)]}),
 (15,{size:=1,bytes:=8,agg:=false,zero:=[AC.nilp]}),
 (16,{size:=1,bytes:=8,agg:=false,zero:=[AC.nilp]}),
 (17,{size:=1,bytes:=8,agg:=false,zero:=[AC.nilp]}),
 (18,{size:=1,bytes:=8,agg:=true,zero:=[AC.nilp],fields:=[(0,1,17)]}),
 (19,{size:=1,bytes:=8,agg:=true,zero:=[AC.nilp],fields:=[(0,1,17)]}),
 (20,{size:=1,bytes:=16,agg:=false,zero:=[AC.opq]}),
 (21,{size:=1,bytes:=4,agg:=false,zero:=[AC.t (Tr.int Go.IntKind.i32 (Int.ofNat 0))],kind:=some Go.IntKind.i32}),
 (22,{size:=1,bytes:=24,agg:=false,zero:=[AC.nils 0],elem:=some 55}),
 (23,{size:=1,bytes:=8,agg:=false,zero:=[AC.opq]}),
 (24,{size:=1,bytes:=24,agg:=false,zero:=[AC.nils 0],elem:=some 3}),
 (25,{size:=1,bytes:=24,agg:=false,zero:=[AC.nils 0],elem:=some 24}),
 (26,{size:=4,bytes:=64,agg:=true,zero:=[AC.nils 0,AC.nils 0,AC.t (Tr.int Go.IntKind.i64 (Int.ofNat 0)),AC.t (Tr.int Go.IntKind.i64 (Int.ofNat 0))],fields:=[(0,1,24),(1,1,25),(2,1,3),(3,1,3)]}),
 (27,{size:=4,bytes:=64,agg:=true,zero:=[AC.nils 0,AC.nils 0,AC.t (Tr.int Go.IntKind.i64 (Int.ofNat 0)),AC.t (Tr.int Go.IntKind.i64 (Int.ofNat 0))],fields:=[(0,1,24),(1,1,25),(2,1,3),(3,1,3)]}),
 (28,{size:=1,bytes:=8,agg:=false,zero:=[AC.opq]}),
 (29,{size:=1,bytes:=24,agg:=false,zero:=[AC.nils 0],elem:=some 49}),
 (30,{size:=1,bytes:=8,agg:=false,zero:=[AC.opq]}),
 (31,{size:=1,bytes:=8,agg:=false,zero:=[AC.opq]}),
 (32,{size:=1,bytes:=8,agg:=false,zero:=[AC.opq]}),
 (33,{size:=1,bytes:=8,agg:=false,zero:=[AC.opq]}),
 (34,{size:=1,bytes:=8,agg:=false,zero:=[AC.opq]}),
 (35,{size:=1,bytes:=8,agg:=false,zero:=[AC.opq]}),
 (36,{size:=1,bytes:=24,agg:=false,zero:=[AC.nils 0],elem:=some 5}),
 (37,{size:=1,bytes:=8,agg:=false,zero:=[AC.opq]}),
 (38,{size:=1,bytes:=8,agg:=false,zero:=[AC.opq]}),
 (39,{size:=1,bytes:=8,agg:=false,zero:=[AC.opq]}),
 (40,{size:=1,bytes:=8,agg:=false,zero:=[AC.opq]}),
 (41,{size:=1,bytes:=8,agg:=false,zero:=[AC.opq]}),
 (42,{size:=1,bytes:=8,agg:=false,zero:=[AC.opq]}),
 (43,{size:=1,bytes:=8,agg:=false,zero:=[AC.opq]}),
 (44,{size:=1,bytes:=8,agg:=false,zero:=[AC.opq]}),
 (45,{size:=1,bytes:=8,agg:=false,zero:=[AC.opq]}),
 (46,{size:=1,bytes:=24,agg:=false,zero:=[AC.nils 0],elem:=some 9}),
 (47,{size:=1,bytes:=24,agg:=false,zero:=[AC.nils 0],elem:=some 51}),
 (48,{size:=4,bytes:=72,agg:=true,zero:=[AC.t (Tr.int Go.IntKind.i64 (Int.ofNat 0)),AC.t (Tr.str []),AC.nils 0,AC.nils 0],fields:=[(0,1,3),(1,1,9),(2,1,46),(3,1,47)]}),
 (49,{size:=4,bytes:=72,agg:=true,zero:=[AC.t (Tr.int Go.IntKind.i64 (Int.ofNat 0)),AC.t (Tr.str []),AC.nils 0,AC.nils 0],fields:=[(0,1,3),(1,1,9),(2,1,46),(3,1,47)]}),
 (50,{size:=3,bytes:=32,agg:=true,zero:=[AC.t (Tr.int Go.IntKind.i64 (Int.ofNat 0)),AC.t (Tr.int Go.IntKind.i64 (Int.ofNat 0)),AC.t (Tr.str [])],fields:=[(0,1,3),(1,1,3),(2,1,9)]}),
 (51,{size:=3,bytes:=32,agg:=true,zero:=[AC.t (Tr.int Go.IntKind.i64 (Int.ofNat 0)),AC.t (Tr.int Go.IntKind.i64 (Int.ofNat 0)),AC.t (Tr.str [])],fields:=[(0,1,3),(1,1,3),(2,1,9)]}),
 (52,{size:=1,bytes:=8,agg:=false,zero:=[AC.opq]}),
 (53,{size:=1,bytes:=24,agg:=false,zero:=[AC.nils 0],elem:=some 111}),
 (54,{size:=4,bytes:=72,agg:=true,zero:=[AC.t (Tr.int Go.IntKind.i64 (Int.ofNat 0)),AC.t (Tr.str []),AC.nils 0,AC.nils 0],fields:=[(0,1,3),(1,1,9),(2,1,46),(3,1,53)]}),
 (55,{size:=4,bytes:=72,agg:=true,zero:=[AC.t (Tr.int Go.IntKind.i64 (Int.ofNat 0)),AC.t (Tr.str []),AC.nils 0,AC.nils 0],fields:=[(0,1,3),(1,1,9),(2,1,46),(3,1,53)]}),
 (56,{size:=1,bytes:=8,agg:=false,zero:=[AC.opq]}),
 (57,{size:=1,bytes:=8,agg:=false,zero:=[AC.nilp]}),
 (58,{size:=7,bytes:=120,agg:=true,zero:=[AC.nils 0,AC.t (Tr.int Go.IntKind.i64 (Int.ofNat 0)),AC.nils 0,AC.nils 0,AC.t (Tr.int Go.IntKind.i64 (Int.ofNat 0)),AC.t (Tr.int Go.IntKind.i64 (Int.ofNat 0)),AC.nils 0],fields:=[(0,1,29),(1,1,3),(2,4,27),(6,1,24)]}),
 (59,{size:=7,bytes:=120,agg:=true,zero:=[AC.nils 0,AC.t (Tr.int Go.IntKind.i64 (Int.ofNat 0)),AC.nils 0,AC.nils 0,AC.t (Tr.int Go.IntKind.i64 (Int.ofNat 0)),AC.t (Tr.int Go.IntKind.i64 (Int.ofNat 0)),AC.nils 0],fields:=[(0,1,29),(1,1,3),(2,4,27),(6,1,24)]}),
 (60,{size:=1,bytes:=8,agg:=false,zero:=[AC.opq]}),
 (61,{size:=1,bytes:=8,agg:=false,zero:=[AC.opq]}),
 (62,{size:=1,bytes:=8,agg:=false,zero:=[AC.nilp]}),
 (63,{size:=1,bytes:=8,agg:=false,zero:=[AC.opq]}),
 (64,{size:=8,bytes:=144,agg:=true,zero:=[AC.nils 0,AC.t (Tr.int Go.IntKind.i64 (Int.ofNat 0)),AC.nils 0,AC.nils 0,AC.nils 0,AC.t (Tr.int Go.IntKind.i64 (Int.ofNat 0)),AC.t (Tr.int Go.IntKind.i64 (Int.ofNat 0)),AC.nils 0],fields:=[(0,1,29),(1,1,3),(2,1,24),(3,4,27),(7,1,24)]}),
 (65,{size:=8,bytes:=144,agg:=true,zero:=[AC.nils 0,AC.t (Tr.int Go.IntKind.i64 (Int.ofNat 0)),AC.nils 0,AC.nils 0,AC.nils 0,AC.t (Tr.int Go.IntKind.i64 (Int.ofNat 0)),AC.t (Tr.int Go.IntKind.i64 (Int.ofNat 0)),AC.nils 0],fields:=[(0,1,29),(1,1,3),(2,1,24),(3,4,27),(7,1,24)]}),
 (66,{size:=1,bytes:=8,agg:=true,zero:=[AC.t (Tr.int Go.IntKind.i64 (Int.ofNat 0))],fields:=[(0,1,3)]}),
 (67,{size:=1,bytes:=8,agg:=true,zero:=[AC.t (Tr.int Go.IntKind.i64 (Int.ofNat 0))],fields:=[(0,1,3)]}),
 (69,{size:=1,bytes:=8,agg:=false,zero:=[AC.opq]}),
 (70,{size:=1,bytes:=8,agg:=false,zero:=[AC.opq]}),
 (71,{size:=1,bytes:=8,agg:=false,zero:=[AC.opq]}),
 (72,{size:=1,bytes:=8,agg:=false,zero:=[AC.opq]}),
 (73,{size:=1,bytes:=8,agg:=false,zero:=[AC.opq]}),
 (74,{size:=1,bytes:=8,agg:=false,zero:=[AC.opq]}),
 (75,{size:=1,bytes:=8,agg:=false,zero:=[AC.opq]}),
 (76,{size:=1,bytes:=8,agg:=false,zero:=[AC.nilp]}),
 (77,{size:=1,bytes:=8,agg:=false,zero:=[AC.opq]}),
 (78,{size:=1,bytes:=8,agg:=false,zero:=[AC.opq]}),
 (79,{size:=1,bytes:=8,agg:=false,zero:=[AC.opq]}),
 (80,{size:=1,bytes:=8,agg:=false,zero:=[AC.opq]}),
 (81,{size:=1,bytes:=8,agg:=false,zero:=[AC.opq]}),
 (82,{size:=1,bytes:=8,agg:=false,zero:=[AC.opq]}),
 (83,{size:=1,bytes:=8,agg:=false,zero:=[AC.opq]}),
 (84,{size:=1,bytes:=8,agg:=false,zero:=[AC.opq]}),
 (85,{size:=1,bytes:=8,agg:=false,zero:=[AC.opq]}),
 (87,{size:=1,bytes:=8,agg:=false,zero:=[AC.opq]}),
 (88,{size:=1,bytes:=8,agg:=false,zero:=[AC.opq]}),
 (89,{size:=1,bytes:=8,agg:=false,zero:=[AC.opq]}),
 (90,{size:=1,bytes:=8,agg:=false,zero:=[AC.opq]}),
 (91,{size:=1,bytes:=8,agg:=false,zero:=[AC.opq]}),
 (92,{size:=1,bytes:=8,agg:=false,zero:=[AC.opq],map:=some none}),
 (93,{size:=1,bytes:=8,agg:=false,zero:=[AC.opq]}),
 (94,{size:=1,bytes:=8,agg:=false,zero:=[AC.opq]}),
 (95,{size:=1,bytes:=8,agg:=false,zero:=[AC.opq]}),
 (96,{size:=1,bytes:=8,agg:=false,zero:=[AC.opq]}),
 (97,{size:=1,bytes:=8,agg:=false,zero:=[AC.opq]}),
 (98,{size:=1,bytes:=8,agg:=false,zero:=[AC.opq]}),
 (99,{size:=1,bytes:=8,agg:=false,zero:=[AC.nilp]}),
 (100,{size:=4,bytes:=80,agg:=true,zero:=[AC.nilp,AC.nils 0,AC.nils 0,AC.nils 0],fields:=[(0,1,76),(1,1,46),(2,1,46),(3,1,24)]}),
 (101,{size:=4,bytes:=80,agg:=true,zero:=[AC.nilp,AC.nils 0,AC.nils 0,AC.nils 0],fields:=[(0,1,76),(1,1,46),(2,1,46),(3,1,24)]}),
 (102,{size:=1,bytes:=8,agg:=false,zero:=[AC.opq]}),
 (103,{size:=1,bytes:=8,agg:=false,zero:=[AC.opq]}),
 (104,{size:=1,bytes:=8,agg:=false,zero:=[AC.opq]}),
 (105,{size:=3,bytes:=40,agg:=true,zero:=[AC.nils 0,AC.t (Tr.int Go.IntKind.i64 (Int.ofNat 0)),AC.t (Tr.int Go.IntKind.i64 (Int.ofNat 0))],fields:=[(0,1,36),(1,1,3),(2,1,3)]}),
 (106,{size:=3,bytes:=40,agg:=true,zero:=[AC.nils 0,AC.t (Tr.int Go.IntKind.i64 (Int.ofNat 0)),AC.t (Tr.int Go.IntKind.i64 (Int.ofNat 0))],fields:=[(0,1,36),(1,1,3),(2,1,3)]}),
 (107,{size:=1,bytes:=8,agg:=false,zero:=[AC.opq]}),
 (108,{size:=1,bytes:=8,agg:=false,zero:=[AC.opq]}),
 (109,{size:=1,bytes:=8,agg:=false,zero:=[AC.opq]}),
 (110,{size:=1,bytes:=8,agg:=false,zero:=[AC.opq]}),
 (111,{size:=3,bytes:=32,agg:=true,zero:=[AC.t (Tr.int Go.IntKind.i64 (Int.ofNat 0)),AC.t (Tr.int Go.IntKind.i64 (Int.ofNat 0)),AC.t (Tr.str [])],fields:=[(0,1,3),(1,1,3),(2,1,9)]}),
 (112,{size:=1,bytes:=8,agg:=false,zero:=[AC.opq]}),
 (113,{size:=1,bytes:=8,agg:=false,zero:=[AC.opq]}),
 (114,{size:=1,bytes:=8,agg:=false,zero:=[AC.opq]}),
 (115,{size:=1,bytes:=8,agg:=false,zero:=[AC.opq]}),
 (116,{size:=1,bytes:=8,agg:=false,zero:=[AC.opq]}),
 (117,{size:=1,bytes:=8,agg:=false,zero:=[AC.opq]}),
 (118,{size:=1,bytes:=8,agg:=false,zero:=[AC.opq]}),
 (119,{size:=1,bytes:=8,agg:=false,zero:=[AC.opq]}),
 (120,{size:=1,bytes:=8,agg:=false,zero:=[AC.opq]}),
 (121,{size:=1,bytes:=24,agg:=false,zero:=[AC.nils 0],elem:=some 47}),
 (122,{size:=1,bytes:=8,agg:=false,zero:=[AC.opq]}),
 (123,{size:=1,bytes:=8,agg:=false,zero:=[AC.opq]}),
 (124,{size:=1,bytes:=8,agg:=false,zero:=[AC.t (Tr.int Go.IntKind.u64 (Int.ofNat 0))],kind:=some Go.IntKind.u64}),
 (125,{size:=1,bytes:=8,agg:=false,zero:=[AC.opq]}),
 (126,{size:=1,bytes:=4,agg:=false,zero:=[AC.t (Tr.int Go.IntKind.u32 (Int.ofNat 0))],kind:=some Go.IntKind.u32}),
 (127,{size:=1,bytes:=8,agg:=false,zero:=[AC.opq]}),
 (128,{size:=4,bytes:=40,agg:=true,zero:=[AC.nilp,AC.nilp,AC.nilp,AC.t (Tr.str [])],fields:=[(0,1,17),(1,1,17),(2,1,17),(3,1,9)]}),
 (129,{size:=4,bytes:=40,agg:=true,zero:=[AC.nilp,AC.nilp,AC.nilp,AC.t (Tr.str [])],fields:=[(0,1,17),(1,1,17),(2,1,17),(3,1,9)]}),
 (133,{size:=1,bytes:=8,agg:=false,zero:=[AC.opq]}),
 (134,{size:=1,bytes:=1,agg:=false,zero:=[AC.t (Tr.int Go.IntKind.u8 (Int.ofNat 0))],kind:=some Go.IntKind.u8}),
 (135,{size:=1,bytes:=1,agg:=false,zero:=[AC.t (Tr.int Go.IntKind.u8 (Int.ofNat 0))],kind:=some Go.IntKind.u8}),
 (136,{size:=1,bytes:=8,agg:=false,zero:=[AC.opq]}),
 (137,{size:=1,bytes:=8,agg:=false,zero:=[AC.nilp]}),
 (138,{size:=1,bytes:=4,agg:=false,zero:=[AC.t (Tr.int Go.IntKind.i32 (Int.ofNat 0))],kind:=some Go.IntKind.i32}),
 (139,{size:=1,bytes:=4,agg:=false,zero:=[AC.t (Tr.int Go.IntKind.i32 (Int.ofNat 0))],kind:=some Go.IntKind.i32}),
 (140,{size:=11,bytes:=48,agg:=true,zero:=[AC.t (Tr.int Go.IntKind.u64 (Int.ofNat 0)),AC.t (Tr.int Go.IntKind.u64 (Int.ofNat 0)),AC.t (Tr.int Go.IntKind.u32 (Int.ofNat 0)),AC.t (Tr.int Go.IntKind.u8 (Int.ofNat 0)),AC.t (Tr.int Go.IntKind.u8 (Int.ofNat 0)),AC.t (Tr.int Go.IntKind.u8 (Int.ofNat 0)),AC.t (Tr.int Go.IntKind.u8 (Int.ofNat 0)),AC.opq,AC.nilp,AC.t (Tr.int Go.IntKind.i32 (Int.ofNat 0)),AC.t (Tr.int Go.IntKind.i32 (Int.ofNat 0))],fields:=[(0,1,12),(1,1,12),(2,1,126),(3,1,134),(4,1,5),(5,1,5),(6,1,135),(7,1,136),(8,1,137),(9,1,138),(10,1,139)]}),
 (141,{size:=11,bytes:=48,agg:=true,zero:=[AC.t (Tr.int Go.IntKind.u64 (Int.ofNat 0)),AC.t (Tr.int Go.IntKind.u64 (Int.ofNat 0)),AC.t (Tr.int Go.IntKind.u32 (Int.ofNat 0)),AC.t (Tr.int Go.IntKind.u8 (Int.ofNat 0)),AC.t (Tr.int Go.IntKind.u8 (Int.ofNat 0)),AC.t (Tr.int Go.IntKind.u8 (Int.ofNat 0)),AC.t (Tr.int Go.IntKind.u8 (Int.ofNat 0)),AC.opq,AC.nilp,AC.t (Tr.int Go.IntKind.i32 (Int.ofNat 0)),AC.t (Tr.int Go.IntKind.i32 (Int.ofNat 0))],fields:=[(0,1,12),(1,1,12),(2,1,126),(3,1,134),(4,1,5),(5,1,5),(6,1,135),(7,1,136),(8,1,137),(9,1,138),(10,1,139)]}),
 (142,{size:=1,bytes:=8,agg:=false,zero:=[AC.nilp]})]
theorem hΓ:Γ.chk Try.prog=true:=by kernel_rfl
theorem au:Try.prog.follows .mixedOrders=true:=by kernel_rfl
end Go.Proofs.Ytjmplnfiabmalaa
namespace Go.Proofs.Ytjmplnfiabmalaa
open Go.Sim Go.ChangeShapes Go.WideShapes Go.ChangeAt Go.RowKit
theorem own:ownKnob Try.prog.godebug=none:=by kernel_rfl
theorem xL:laidOutB Try.prog=true:=by kernel_rfl
theorem rR {α:Type}{g:α→List Tr}{Q:α→Prop}:∀{rows:List (List Tr)},(∀r∈rows,∃m,r=g m∧Q m)→∃ns:List α,rows=ns.map g∧∀m∈ns,Q m
 | [],_=>⟨[],rfl,fun _ h=>by cases h⟩
 | r::rows,h=>by
  obtain⟨m,rfl,hm⟩:=h r (by simp)
  obtain⟨ns,rfl,hns⟩:=rR (rows:=rows) fun r hr=>h r (by simp[hr])
  exact⟨m::ns,rfl,fun x hx=>by
   rcases List.mem_cons.1 hx with rfl|hx
   ·exact hm
   ·exact hns x hx⟩
end Go.Proofs.Ytjmplnfiabmalaa
namespace Go.Proofs.Ytjmplnfiabmalaa
open Go.Sim
abbrev tvI (n:Int):TV:= .c (.int .i64 n)
abbrev tvS (n:List UInt8):TV:= .c (.str n)
abbrev rI (n:Int):Res:= .r (.c (.t (.int .i64 n)))
abbrev rB (b:Bool):Res:= .r (.c (.t (.bool b)))
abbrev rS (b:List UInt8):Res:= .r (.c (.t (.str b)))
def ae (n lo hi:Int):Bool:=decide (lo≤n) && decide (n≤hi)
theorem within_iff {n lo hi:Int}:ae n lo hi=true↔lo≤n∧n≤hi:=by simp[ae]
set_option maxRecDepth 100000
theorem aV (n lo hi:Int):Sim.Spec Try.prog 31 [tvI n,tvI lo,tvI hi] (rB (ae n lo hi)):=by
 refine ap hΓ au Try.func31 rfl (by decide) rfl ?_
 repeat' ((conv=>whnf);first|refine Or.inl ?_|apply oi|(apply fi<;>intro h)|refine⟨_,rfl,?_⟩|exact rfl)
 all_goals try exact⟨KO⟩
 all_goals refine⟨?_⟩
 all_goals simp_all[ae]
 all_goals omega
theorem dt (n lo hi:Int):Sim.Spec Try.prog 27 [tvI n,tvI lo,tvI hi] (rB (ae n lo hi)):=by
 refine ap hΓ au Try.func27 rfl (by decide) rfl ?_
 repeat' ((conv=>whnf);first|refine Or.inl ?_|apply oi|(apply fi<;>intro h)|refine⟨_,rfl,?_⟩|exact rfl)
 all_goals try exact⟨KO⟩
 all_goals refine⟨?_⟩
 all_goals simp_all[ae]
 all_goals omega
def signed (n:Int):Int:=if ae n 0 1099511627775 then(if n % 2=1 then -((n+1) / 2)else n / 2)else 0
end Go.Proofs.Ytjmplnfiabmalaa
namespace Go.Proofs.Ytjmplnfiabmalaa
open Go.Sim
set_option maxRecDepth 100000
def zu (n:Nat):List UInt8:=if n≤127 then [UInt8.ofNat n]else UInt8.ofNat (n % 128+128)::zu (n / 128)
 termination_by n
 decreasing_by omega
def enc (n:Int):List UInt8:=if ae n 0 1099511627775 then zu n.toNat else []
end Go.Proofs.Ytjmplnfiabmalaa
namespace Go.Proofs.Ytjmplnfiabmalaa
open Go.Sim Go.RowKit
def inI (n:Int):Prop:= -9223372036854775808≤n∧n≤9223372036854775807
def ab (n:Int):List Tr:=[.int .i64 n]
def ah (s:List UInt8):List Tr:=[.str s]
def ph {α:Type}(sz:Nat)(g:α→List Tr)(l:List α):List Tr:=[.lst sz (l.map g)]
structure Ak where
 fag:Int
 fax:Int
def Ak.tr (x:Ak):List Tr:=[.int .i64 x.fag,.int .i64 x.fax]
def Ak.wf (x:Ak):Prop:=inI x.fag∧inI x.fax
structure Ar where
 faa:Int
 fae:Int
 fab:List UInt8
def Ar.tr (x:Ar):List Tr:=[.int .i64 x.faa,.int .i64 x.fae,.str x.fab]
def Ar.wf (x:Ar):Prop:=inI x.faa∧inI x.fae∧x.fab.length≤maxLen
structure Ai where
 faa:Int
 fab:List UInt8
 fad:List (List UInt8)
 fac:List Ar
def Ai.tr (x:Ai):List Tr:=[.int .i64 x.faa,.str x.fab,.lst 1 (x.fad.map ah),.lst 3 (x.fac.map Ar.tr)]
def Ai.wf (x:Ai):Prop:=inI x.faa∧x.fab.length≤maxLen∧(x.fad.length≤maxLen∧∀y∈x.fad,y.length≤maxLen)∧(x.fac.length≤maxLen∧∀y∈x.fac,y.wf)
structure Aa where
 faJ:Int
 fan:Int
 faN:Bool
 faM:Bool
def Aa.tr (x:Aa):List Tr:=[.int .i64 x.faJ,.int .i64 x.fan,.bool x.faN,.bool x.faM]
def Aa.wf (x:Aa):Prop:=inI x.faJ∧inI x.fan
structure Ah where
 far:Ak
 fai:Int
 faf:Bool
 fas:List Int
 faj:Int
 faD:Bool
def Ah.tr (x:Ah):List Tr:=[.int .i64 x.far.fag,.int .i64 x.far.fax,.int .i64 x.fai,.bool x.faf,.lst 1 (x.fas.map ab),.int .i64 x.faj,.bool x.faD]
def Ah.wf (x:Ah):Prop:=x.far.wf∧inI x.fai∧(x.fas.length≤maxLen∧∀y∈x.fas,inI y)∧inI x.faj
structure Aq where
 fab:List UInt8
 faf:Int
 faI:Int
def Aq.tr (x:Aq):List Tr:=[.str x.fab,.int .i64 x.faf,.int .i64 x.faI]
def Aq.wf (x:Aq):Prop:=x.fab.length≤maxLen∧inI x.faf∧inI x.faI
structure Af where
 fag:List UInt8
 fap:List Aq
def Af.tr (x:Af):List Tr:=[.str x.fag,.lst 3 (x.fap.map Aq.tr)]
def Af.wf (x:Af):Prop:=x.fag.length≤maxLen∧(x.fap.length≤maxLen∧∀y∈x.fap,y.wf)
structure Ap where
 faB:List Af
 fay:List Int
 faA:List Int
def Ap.tr (x:Ap):List Tr:=[.lst 2 (x.faB.map Af.tr),.lst 1 (x.fay.map ab),.lst 1 (x.faA.map ab)]
def Ap.wf (x:Ap):Prop:=(x.faB.length≤maxLen∧∀y∈x.faB,y.wf)∧(x.fay.length≤maxLen∧∀y∈x.fay,inI y)∧(x.faA.length≤maxLen∧∀y∈x.faA,inI y)
structure Aj where
 fat:Int
 faw:Int
 fau:Int
 faz:List Int
 fak:List Int
 faK:Int
 fao:Int
def Aj.tr (x:Aj):List Tr:=[.int .i64 x.fat,.int .i64 x.faw,.int .i64 x.fau,.lst 1 (x.faz.map ab),.lst 1 (x.fak.map ab),.int .i64 x.faK,.int .i64 x.fao]
def Aj.wf (x:Aj):Prop:=inI x.fat∧inI x.faw∧inI x.fau∧(x.faz.length≤maxLen∧∀y∈x.faz,inI y)∧(x.fak.length≤maxLen∧∀y∈x.fak,inI y)∧inI x.faK∧inI x.fao
structure Al where
 fav:Int
 fam:Ah
def Al.tr (x:Al):List Tr:=[.int .i64 x.fav,.int .i64 x.fam.far.fag,.int .i64 x.fam.far.fax,.int .i64 x.fam.fai,.bool x.fam.faf,.lst 1 (x.fam.fas.map ab),.int .i64 x.fam.faj,.bool x.fam.faD]
def Al.wf (x:Al):Prop:=inI x.fav∧x.fam.wf
structure An where
 faf:Int
 fal:Int
 faL:Bool
 faj:Int
def An.tr (x:An):List Tr:=[.int .i64 x.faf,.int .i64 x.fal,.bool x.faL,.int .i64 x.faj]
def An.wf (x:An):Prop:=inI x.faf∧inI x.fal∧inI x.faj
structure As where
 fat:Int
 faw:Int
 fau:Int
 faF:List Int
def As.tr (x:As):List Tr:=[.int .i64 x.fat,.int .i64 x.faw,.int .i64 x.fau,.lst 1 (x.faF.map ab)]
def As.wf (x:As):Prop:=inI x.fat∧inI x.faw∧inI x.fau∧(x.faF.length≤maxLen∧∀y∈x.faF,inI y)
structure Am where
 fav:Int
 fai:Int
 faf:Bool
def Am.tr (x:Am):List Tr:=[.int .i64 x.fav,.int .i64 x.fai,.bool x.faf]
def Am.wf (x:Am):Prop:=inI x.fav∧inI x.fai
structure Ag where
 faf:Int
 fal:Int
 faq:Int
 fai:Int
 fab:List UInt8
def Ag.tr (x:Ag):List Tr:=[.int .i64 x.faf,.int .i64 x.fal,.int .i64 x.faq,.int .i64 x.fai,.str x.fab]
def Ag.wf (x:Ag):Prop:=inI x.faf∧inI x.fal∧inI x.faq∧inI x.fai∧x.fab.length≤maxLen
structure Ac where
 faH:Int
 fap:List Aq
 faC:List An
 faG:List Am
 faE:List Ag
def Ac.tr (x:Ac):List Tr:=[.int .i64 x.faH,.lst 3 (x.fap.map Aq.tr),.lst 4 (x.faC.map An.tr),.lst 3 (x.faG.map Am.tr),.lst 5 (x.faE.map Ag.tr)]
def Ac.wf (x:Ac):Prop:=inI x.faH∧(x.fap.length≤maxLen∧∀y∈x.fap,y.wf)∧(x.faC.length≤maxLen∧∀y∈x.faC,y.wf)∧(x.faG.length≤maxLen∧∀y∈x.faG,y.wf)∧(x.faE.length≤maxLen∧∀y∈x.faE,y.wf)
structure Ad where
 fab:List UInt8
 fai:Int
def Ad.tr (x:Ad):List Tr:=[.str x.fab,.int .i64 x.fai]
def Ad.wf (x:Ad):Prop:=x.fab.length≤maxLen∧inI x.fai
end Go.Proofs.Ytjmplnfiabmalaa
namespace Go.Proofs.Ytjmplnfiabmalaa
open Go.Sim
set_option maxRecDepth 100000
abbrev tvL (sz:Nat)(rows:List (List Tr)):TV:= .c (.lst sz rows)
abbrev rL (sz:Nat)(rows:List (List Tr)):Res:= .r (.c (.arr sz rows))
theorem aa {α β:Type}{f:α→β}{l:List α}{k:Nat}{x:α}(h:l[k]?=some x):(l.map f)[k]?=some (f x):=by simp[h]
theorem af {α:Type}{l:List α}{k:Nat}(h:k < l.length):∃x,l[k]?=some x:=⟨_,List.getElem?_eq_getElem h⟩
theorem eA {α:Type}{l:List α}{k:Nat}{x:α}(h:l[k]?=some x):l.drop k=x::l.drop (k+1):=by
 have hk:k < l.length:=by
  rcases Nat.lt_or_ge k l.length with h'|h'
  ·exact h'
  ·rw[List.getElem?_eq_none h']at h;cases h
 rw[List.getElem?_eq_getElem hk]at h
 injection h with h
 rw[←h]
 exact List.drop_eq_getElem_cons hk
end Go.Proofs.Ytjmplnfiabmalaa
namespace Go.Proofs.Ytjmplnfiabmalaa
open Go.Sim Go.RowKit
set_option maxRecDepth 100000
theorem cz {α:Type}{g:α→List Tr}{L:Int}{l:List α}{sz:Nat}(h:bd L (.lst sz (l.map g))){x:α}(hx:x∈l):bI L (g x):=by
 rw[bd]at h
 exact mG h.2 _ (List.mem_map_of_mem hx)
theorem lz {α:Type}{g:α→List Tr}{L:Int}{l:List α}{sz:Nat}(h:bd L (.lst sz (l.map g))):(l.length:Int)≤L:=by
 rw[bd]at h
 simpa using h.1
theorem pV {α:Type}{g:α→List Tr}{l:List α}{sz:Nat}(h:bd 1048576 (.lst sz (l.map g))):l.length≤1048576:=by
 have:=lz h
 omega
end Go.Proofs.Ytjmplnfiabmalaa
namespace Go.Proofs.Ytjmplnfiabmalaa
open Go.Sim
set_option maxRecDepth 100000
theorem tJ (bs:List UInt8):Sim.Spec Try.prog 16 [tvL 1 (bs.map aI)] (rB (decide (1048576 < (bs.length:Int)))):=by
 refine ap hΓ au Try.func16 rfl (by decide) rfl ?_
 have hl:(bs.map aI).length=bs.length:=by simp
 repeat' ((conv=>whnf);first|refine Or.inl ?_|apply oi|(apply fi<;>intro h)|refine⟨_,rfl,?_⟩|exact rfl)
 all_goals try exact⟨KO⟩
 exact⟨by rw[hl]⟩
end Go.Proofs.Ytjmplnfiabmalaa
namespace Go.Proofs.Ytjmplnfiabmalaa
open Go.Sim
set_option maxRecDepth 100000
set_option maxHeartbeats 4000000
def sy (last:Int)(r:An):Prop:=last≤r.faf∧r.faf < r.fal∧r.fal≤1000000∧0≤r.faj∧r.faj≤1200∧(r.faL=true→r.faj=0)
instance (last:Int) (r:An):Decidable (sy last r):=by unfold sy;infer_instance
def low (b:UInt8):Bool:=decide (97≤b.toNat) && decide (b.toNat≤122)
def bE (s:List UInt8):Bool:=s.all low && ae s.length 1 8
abbrev wg (s:List UInt8):={k:Nat // k≤s.length∧(s.take k).all low=true}
theorem sU {α:Type}{p:α→Bool}{s:List α}{k:Nat}{b:α}(h:(s.take k).all p=true)(hb:s[k]?=some b)(hp:p b=true):(s.take (k+1)).all p=true:=by
 rw[List.take_add_one,hb]
 simp_all
theorem uT {α:Type}{p:α→Bool}{s:List α}{k:Nat}{b:α}(hb:s[k]?=some b)(hp:p b=false):s.all p=false:=by
 rw[Bool.eq_false_iff]
 intro h
 rw[List.all_eq_true]at h
 rw[h b (List.mem_of_getElem? hb)]at hp
 cases hp
theorem fM (s:List UInt8)(hl:s.length≤1099511627775):Sim.Spec Try.prog 93 [tvS s] (rB (bE s)):=by
 refine ap hΓ au Try.func93 rfl (by decide) rfl ?_
 unfold bE
 repeat' ((conv=>whnf);first|refine Or.inl ?_|apply oi|(apply fi<;>intro h)|refine⟨_,rfl,?_⟩|exact rfl)
 all_goals try exact⟨KO⟩
 conv=>whnf
 refine⟨wg s,fun k=>⟨[(0,tS s),(3,tI .i64 (k.1:Int))],[],[]⟩,fun k=>s.length - k.1,⟨0,by omega,rfl⟩,?_,?_⟩
 ·skip
  repeat' ((conv=>whnf);first|refine Or.inl ?_|apply oi|(apply fi<;>intro h)|refine⟨_,rfl,?_⟩|exact rfl)
  all_goals try exact⟨KO⟩
 intro⟨k,hk,hp⟩
 dsimp only
 by_cases hlt:k < s.length
 ·obtain⟨b,hb⟩:=af hlt
  have hbl:=b.toNat_lt
  cases hlo:low b with
  | false=>
   rw[uT hb hlo]
   unfold low at hlo
   repeat' ((conv=>whnf);first|refine Or.inl ?_|apply oi|(apply fi<;>intro h)|refine⟨k,b,rfl,hb,?_⟩|refine⟨_,rfl,?_⟩|exact rfl)
   all_goals try exact⟨KO⟩
   all_goals try exact KX
   all_goals(exfalso;simp at *;omega)
  | true=>
   have hnx:=sU hp hb hlo
   unfold low at hlo
   repeat' ((conv=>whnf);first|refine Or.inl ?_|apply oi|(apply fi<;>intro h)|refine⟨k,b,rfl,hb,?_⟩|refine⟨_,rfl,?_⟩|exact rfl)
   all_goals try exact⟨KO⟩
   all_goals try exact KX
   all_goals try exact K1
   conv=>whnf
   refine⟨⟨k+1,by omega,hnx⟩,?_,KD⟩
   repeat' ((conv=>whnf);first|refine Or.inl ?_|apply oi|(apply fi<;>intro h)|refine⟨_,rfl,?_⟩|exact rfl)
   all_goals try exact⟨KO⟩
   all_goals try exact⟨K2⟩
 ·have hge:s.length≤k:=by omega
  rw[List.take_of_length_le hge]at hp
  rw[hp]
  repeat' ((conv=>whnf);first|refine Or.inl ?_|apply oi|(apply fi<;>intro h)|refine ci (aV _ _ _) (ai rfl (ai rfl (ai rfl trivial))) ?_|refine⟨_,rfl,?_⟩|exact rfl)
  all_goals try exact⟨KO⟩
  all_goals try exact KX
theorem dR (s:List UInt8)(hl:s.length≤1099511627775):Sim.Spec Try.prog 81 [tvS s] (rB (bE s)):=by
 refine ap hΓ au Try.func81 rfl (by decide) rfl ?_
 unfold bE
 repeat' ((conv=>whnf);first|refine Or.inl ?_|apply oi|(apply fi<;>intro h)|refine⟨_,rfl,?_⟩|exact rfl)
 all_goals try exact⟨KO⟩
 conv=>whnf
 refine⟨wg s,fun k=>⟨[(0,tS s),(3,tI .i64 (k.1:Int))],[],[]⟩,fun k=>s.length - k.1,⟨0,by omega,rfl⟩,?_,?_⟩
 ·skip
  repeat' ((conv=>whnf);first|refine Or.inl ?_|apply oi|(apply fi<;>intro h)|refine⟨_,rfl,?_⟩|exact rfl)
  all_goals try exact⟨KO⟩
 intro⟨k,hk,hp⟩
 dsimp only
 by_cases hlt:k < s.length
 ·obtain⟨b,hb⟩:=af hlt
  have hbl:=b.toNat_lt
  cases hlo:low b with
  | false=>
   rw[uT hb hlo]
   unfold low at hlo
   repeat' ((conv=>whnf);first|refine Or.inl ?_|apply oi|(apply fi<;>intro h)|refine⟨k,b,rfl,hb,?_⟩|refine⟨_,rfl,?_⟩|exact rfl)
   all_goals try exact⟨KO⟩
   all_goals try exact KX
   all_goals(exfalso;simp at *;omega)
  | true=>
   have hnx:=sU hp hb hlo
   unfold low at hlo
   repeat' ((conv=>whnf);first|refine Or.inl ?_|apply oi|(apply fi<;>intro h)|refine⟨k,b,rfl,hb,?_⟩|refine⟨_,rfl,?_⟩|exact rfl)
   all_goals try exact⟨KO⟩
   all_goals try exact KX
   all_goals try exact K1
   conv=>whnf
   refine⟨⟨k+1,by omega,hnx⟩,?_,KD⟩
   repeat' ((conv=>whnf);first|refine Or.inl ?_|apply oi|(apply fi<;>intro h)|refine⟨_,rfl,?_⟩|exact rfl)
   all_goals try exact⟨KO⟩
   all_goals try exact⟨K2⟩
 ·have hge:s.length≤k:=by omega
  rw[List.take_of_length_le hge]at hp
  rw[hp]
  repeat' ((conv=>whnf);first|refine Or.inl ?_|apply oi|(apply fi<;>intro h)|refine ci (dt _ _ _) (ai rfl (ai rfl (ai rfl trivial))) ?_|refine⟨_,rfl,?_⟩|exact rfl)
  all_goals try exact⟨KO⟩
  all_goals try exact KX
def behind (p:Option Ag)(x:Ag):Prop:=match p with
 | none=>True
 | some p=>p.faq≤x.faq∧(p.faq=x.faq→p.fal≤x.faf)
instance (p:Option Ag) (x:Ag):Decidable (behind p x):=by unfold behind;cases p <;> infer_instance
def dZ (t:Ar):Bool:=
 if t.faa=0 then ae t.fae 0 999 && t.fab==[]
 else if t.faa=7 then ae t.fae 0 4 && bE t.fab
 else if t.faa=1 then t.fae==0 && bE t.fab
 else ae t.faa 2 6 && (t.fae==0 && t.fab==[])
theorem kR (t:Ar)(hl:t.fab.length≤1099511627775):Sim.Spec Try.prog 112 [.agg t.tr] (rB (dZ t)):=by
 refine ap hΓ au Try.func112 rfl (by decide) rfl ?_
 have hN:=fM t.fab hl
 unfold dZ
 generalize bE t.fab=nb at *
 repeat' ((conv=>whnf);first|refine Or.inl ?_|apply oi|(apply fi<;>intro h)|refine ci (aV _ _ _) (ai rfl (ai rfl (ai rfl trivial))) ?_|refine ci hN (ai rfl trivial) ?_|refine⟨_,rfl,?_⟩|exact rfl)
 all_goals try exact⟨KO⟩
 all_goals(refine⟨congrArg Tr.bool ?_⟩;simp_all;try(intros;omega))
theorem kL (t:Ar)(hl:t.fab.length≤1099511627775):Sim.Spec Try.prog 106 [.agg t.tr] (rB (dZ t)):=by
 refine ap hΓ au Try.func106 rfl (by decide) rfl ?_
 have hN:=dR t.fab hl
 unfold dZ
 generalize bE t.fab=nb at *
 repeat' ((conv=>whnf);first|refine Or.inl ?_|apply oi|(apply fi<;>intro h)|refine ci (dt _ _ _) (ai rfl (ai rfl (ai rfl trivial))) ?_|refine ci hN (ai rfl trivial) ?_|refine⟨_,rfl,?_⟩|exact rfl)
 all_goals try exact⟨KO⟩
 all_goals(refine⟨congrArg Tr.bool ?_⟩;simp_all[ae];(try(intros;omega));(try((repeat' split) <;> intros <;> omega)))
def mA (t:Ar):Int:=if dZ t=false then -1 else if t.faa=7 then t.fae else if t.faa=0∨t.faa=1 then 0 else 2
theorem ko (t:Ar)(hl:t.fab.length≤1099511627775):Sim.Spec Try.prog 109 [.agg t.tr] (rI (mA t)):=by
 refine ap hΓ au Try.func109 rfl (by decide) rfl ?_
 have hT:=kR t hl
 unfold mA
 generalize dZ t=nb at *
 repeat' ((conv=>whnf);first|refine Or.inl ?_|apply oi|(apply fi<;>intro h)|refine ci hT (ai (ai rfl (ai rfl (ai rfl trivial))) trivial) ?_|refine⟨_,rfl,?_⟩|exact rfl)
 all_goals try exact⟨KO⟩
 all_goals(refine⟨congrArg (Tr.int _) ?_⟩;simp_all)
theorem kO (t:Ar)(hl:t.fab.length≤1099511627775):Sim.Spec Try.prog 90 [.agg t.tr] (rI (mA t)):=by
 refine ap hΓ au Try.func90 rfl (by decide) rfl ?_
 have hT:=kL t hl
 unfold mA
 generalize dZ t=nb at *
 repeat' ((conv=>whnf);first|refine Or.inl ?_|apply oi|(apply fi<;>intro h)|refine ci hT (ai (ai rfl (ai rfl (ai rfl trivial))) trivial) ?_|refine⟨_,rfl,?_⟩|exact rfl)
 all_goals try exact⟨KO⟩
 all_goals(refine⟨congrArg (Tr.int _) ?_⟩;simp_all)
def ar (t:Ar):Nat:=(mA t).toNat
theorem qb {t:Ar}(h:dZ t=true):mA t=(ar t:Int)∧ar t≤4:=by
 unfold ar mA
 rw[if_neg (by simp[h])]
 unfold dZ at h
 split
 ·rename_i h7
  rw[if_neg (by omega),if_pos h7]at h
  simp only[Bool.and_eq_true,within_iff]at h
  omega
 ·split <;> omega
def endL:List Ar→Nat→Nat→Option Nat
 | _,p,0=>some p
 | [],_,_+1=>none
 | t::l,p,n+1=>if dZ t=true then endL l (p+1) (n+ar t)else none
def bM (o:Option Nat):Int:=match o with|some e=>e|none=> -1
def bQ (l:List Ar)(p:Int):Int:=if 0≤p then bM (endL (l.drop p.toNat) p.toNat 1)else -1
theorem vm {l:List Ar}{p n:Nat}{t:Ar}(h:l[p]?=some t):endL (l.drop p) p (n+1)=if dZ t=true then endL (l.drop (p+1)) (p+1) (n+ar t)else none:=by
 rw[eA h,endL]
abbrev yz (l:List Ar)(R:Int):={q:Nat×Nat // q.1≤l.length∧q.2≤1+4 * q.1∧bM (endL (l.drop q.1) q.1 q.2)=R}
def eF (l:List Ar):Prop:=∀t∈l,t.fab.length≤1099511627775
theorem eU (l:List Ar)(p:Int)(hl:l.length≤1048576)(hn:eF l):Sim.Spec Try.prog 105 [tvL 3 (l.map Ar.tr),tvI p] (rI (bQ l p)):=by
 refine ap hΓ au Try.func105 rfl (by decide) rfl ?_
 have hlen:(l.map Ar.tr).length=l.length:=by simp
 have hw:IntKind.i64.wrap (((l.map Ar.tr).length:Int) - 1)=(l.length:Int) - 1:=by rw[IntWalk.i64_in _ (by omega)];omega
 by_cases hin:0≤p∧p < l.length
 ·have hb:=aV p 0 (IntKind.i64.wrap (((l.map Ar.tr).length:Int) - 1))
  rw[within_iff.2 ⟨hin.1,by rw[hw];omega⟩]at hb
  obtain⟨p,rfl⟩:=Int.eq_ofNat_of_zero_le hin.1
  obtain⟨R,hR⟩:∃R,bQ l (p:Int)=R:=⟨_,rfl⟩
  rw[hR]
  rw[bQ,if_pos hin.1,Int.toNat_natCast]at hR
  repeat' ((conv=>whnf);first|refine Or.inl ?_|apply oi|(apply fi<;>intro h)|refine ci hb (ai rfl (ai rfl (ai rfl trivial))) ?_|refine⟨_,rfl,?_⟩|exact rfl)
  all_goals try exact⟨KO⟩
  conv=>whnf
  refine⟨yz l R,fun q=>⟨[(0,.r (.c (.t (.lst 3 (l.map Ar.tr))))),(1,tI .i64 (q.1.1:Int)),(5,tI .i64 (q.1.2:Int))],[],[]⟩,fun q=>l.length - q.1.1,⟨(p,1),by omega,by omega,hR⟩,?_,?_⟩
  ·skip
   repeat' ((conv=>whnf);first|refine Or.inl ?_|apply oi|(apply fi<;>intro h)|refine⟨_,rfl,?_⟩|exact rfl)
   all_goals try exact⟨KO⟩
  intro⟨⟨a,n⟩,ha,hn4,hr⟩
  dsimp only at ha hn4 hr ⊢
  cases n with
  | zero=>
   have:R=(a:Int):=by
    rw[←hr]
    cases l.drop a <;> rfl
   subst this
   repeat' ((conv=>whnf);first|refine Or.inl ?_|apply oi|(apply fi<;>intro h)|refine⟨_,rfl,?_⟩|exact rfl)
   all_goals try exact⟨KO⟩
   all_goals try exact KX
  | succ n=>
   by_cases hlt:a < l.length
   ·obtain⟨t,ht⟩:=af hlt
    rw[vm ht]at hr
    have hT:=kR t (hn t (List.mem_of_getElem? ht))
    have hA:=ko t (hn t (List.mem_of_getElem? ht))
    cases hok:dZ t with
    | false=>
     rw[hok]at hT
     rw[if_neg (by simp[hok])]at hr
     subst hr
     repeat' ((conv=>whnf);first|refine Or.inl ?_|apply oi|(apply fi<;>intro h)|refine⟨a,t.tr,rfl,aa ht,?_⟩|refine ci hT (ai (ai rfl (ai rfl (ai rfl trivial))) trivial) ?_|refine⟨_,rfl,?_⟩|exact rfl)
     all_goals try exact⟨KO⟩
     all_goals try exact KX
    | true=>
     obtain⟨e1,e2⟩:=qb hok
     rw[e1]at hA
     rw[hok]at hT
     rw[if_pos hok]at hr
     repeat' ((conv=>whnf);first|refine Or.inl ?_|apply oi|(apply fi<;>intro h)|refine⟨a,t.tr,rfl,aa ht,?_⟩|refine ci hT (ai (ai rfl (ai rfl (ai rfl trivial))) trivial) ?_|refine ci hA (ai (ai rfl (ai rfl (ai rfl trivial))) trivial) ?_|refine⟨_,rfl,?_⟩|exact rfl)
     all_goals try exact⟨KO⟩
     all_goals try exact KX
     conv=>whnf
     refine⟨⟨(a+1,n+ar t),by dsimp only;omega,by dsimp only;omega,hr⟩,?_,KD⟩
     repeat' ((conv=>whnf);first|refine Or.inl ?_|apply oi|(apply fi<;>intro h)|refine⟨_,rfl,?_⟩|exact rfl)
     all_goals try exact⟨KO⟩
     all_goals try exact⟨K2⟩
     all_goals try exact⟨by dsimp only;congr 1;rw[IntWalk.i64_in _ (by omega)];omega⟩
     all_goals exact⟨congrArg (Tr.int _) (by dsimp only;simp(disch:=omega)only[IntWalk.i64_in];omega)⟩
   ·rw[List.drop_eq_nil_of_le (by omega),endL]at hr
    subst hr
    repeat' ((conv=>whnf);first|refine Or.inl ?_|apply oi|(apply fi<;>intro h)|refine⟨_,rfl,?_⟩|exact rfl)
    all_goals try exact⟨KO⟩
    all_goals try exact KX
 ·have hb:=aV p 0 (IntKind.i64.wrap (((l.map Ar.tr).length:Int) - 1))
  have hf:ae p 0 (IntKind.i64.wrap (((l.map Ar.tr).length:Int) - 1))=false:=by
   cases hx:ae p 0 (IntKind.i64.wrap (((l.map Ar.tr).length:Int) - 1))with
   | false=>rfl
   | true=>have:=within_iff.1 hx;rw[hw]at this;exact absurd ⟨this.1,by omega⟩ hin
  rw[hf]at hb
  have he:bQ l p= -1:=by
   unfold bQ
   split
   ·rw[List.drop_eq_nil_of_le (by omega)];rfl
   ·rfl
  rw[he]
  repeat' ((conv=>whnf);first|refine Or.inl ?_|apply oi|(apply fi<;>intro h)|refine ci hb (ai rfl (ai rfl (ai rfl trivial))) ?_|refine⟨_,rfl,?_⟩|exact rfl)
  all_goals try exact⟨KO⟩
  all_goals(exfalso;simp at h;done)
theorem oH (l:List Ar)(p:Int)(hl:l.length≤1048576)(hn:eF l):Sim.Spec Try.prog 104 [tvL 3 (l.map Ar.tr),tvI p] (rI (bQ l p)):=by
 refine ap hΓ au Try.func104 rfl (by decide) rfl ?_
 have hlen:(l.map Ar.tr).length=l.length:=by simp
 by_cases h0:0≤p
 ·obtain⟨p,rfl⟩:=Int.eq_ofNat_of_zero_le h0
  obtain⟨R,hR⟩:∃R,bQ l (p:Int)=R:=⟨_,rfl⟩
  rw[hR]
  rw[bQ,if_pos h0,Int.toNat_natCast]at hR
  by_cases hlp:p≤l.length
  ·skip
   repeat' ((conv=>whnf);first|refine Or.inl ?_|apply oi|(apply fi<;>intro h)|refine⟨_,rfl,?_⟩|exact rfl)
   all_goals try exact⟨KO⟩
   all_goals try exact KX
   conv=>whnf
   refine⟨yz l R,fun q=>⟨[(0,.r (.c (.t (.lst 3 (l.map Ar.tr))))),(1,tI .i64 (q.1.1:Int)),(5,tI .i64 (q.1.2:Int))],[],[]⟩,fun q=>l.length - q.1.1,⟨(p,1),by omega,by omega,hR⟩,?_,?_⟩
   ·skip
    repeat' ((conv=>whnf);first|refine Or.inl ?_|apply oi|(apply fi<;>intro h)|refine⟨_,rfl,?_⟩|exact rfl)
    all_goals try exact⟨KO⟩
   intro⟨⟨a,n⟩,ha,hn4,hr⟩
   dsimp only at ha hn4 hr ⊢
   cases n with
   | zero=>
    have:R=(a:Int):=by
     rw[←hr]
     cases l.drop a <;> rfl
    subst this
    repeat' ((conv=>whnf);first|refine Or.inl ?_|apply oi|(apply fi<;>intro h)|refine⟨_,rfl,?_⟩|exact rfl)
    all_goals try exact⟨KO⟩
    all_goals try exact KX
   | succ n=>
    by_cases hlt:a < l.length
    ·obtain⟨t,ht⟩:=af hlt
     rw[vm ht]at hr
     have hT:=kL t (hn t (List.mem_of_getElem? ht))
     have hA:=kO t (hn t (List.mem_of_getElem? ht))
     cases hok:dZ t with
     | false=>
      rw[hok]at hT
      rw[if_neg (by simp[hok])]at hr
      subst hr
      repeat' ((conv=>whnf);first|refine Or.inl ?_|apply oi|(apply fi<;>intro h)|refine⟨a,t.tr,rfl,aa ht,?_⟩|refine ci hT (ai (ai rfl (ai rfl (ai rfl trivial))) trivial) ?_|refine⟨_,rfl,?_⟩|exact rfl)
      all_goals try exact⟨KO⟩
      all_goals try exact KX
     | true=>
      obtain⟨e1,e2⟩:=qb hok
      rw[e1]at hA
      rw[hok]at hT
      rw[if_pos hok]at hr
      repeat' ((conv=>whnf);first|refine Or.inl ?_|apply oi|(apply fi<;>intro h)|refine⟨a,t.tr,rfl,aa ht,?_⟩|refine ci hT (ai (ai rfl (ai rfl (ai rfl trivial))) trivial) ?_|refine ci hA (ai (ai rfl (ai rfl (ai rfl trivial))) trivial) ?_|refine⟨_,rfl,?_⟩|exact rfl)
      all_goals try exact⟨KO⟩
      all_goals try exact KX
      conv=>whnf
      refine⟨⟨(a+1,n+ar t),by dsimp only;omega,by dsimp only;omega,hr⟩,?_,KD⟩
      repeat' ((conv=>whnf);first|refine Or.inl ?_|apply oi|(apply fi<;>intro h)|refine⟨_,rfl,?_⟩|exact rfl)
      all_goals try exact⟨KO⟩
      all_goals try exact⟨K2⟩
      all_goals try exact⟨by dsimp only;congr 1;rw[IntWalk.i64_in _ (by omega)];omega⟩
      all_goals exact⟨congrArg (Tr.int _) (by dsimp only;simp(disch:=omega)only[IntWalk.i64_in];omega)⟩
    ·rw[List.drop_eq_nil_of_le (by omega),endL]at hr
     subst hr
     repeat' ((conv=>whnf);first|refine Or.inl ?_|apply oi|(apply fi<;>intro h)|refine⟨_,rfl,?_⟩|exact rfl)
     all_goals try exact⟨KO⟩
     all_goals try exact KX
  ·rw[List.drop_eq_nil_of_le (by omega),endL]at hR
   subst hR
   repeat' ((conv=>whnf);first|refine Or.inl ?_|apply oi|(apply fi<;>intro h)|refine⟨_,rfl,?_⟩|exact rfl)
   all_goals try exact⟨KO⟩
   all_goals try exact KX
   conv=>whnf
   refine⟨Unit,fun q=>⟨[(0,.r (.c (.t (.lst 3 (l.map Ar.tr))))),(1,tI .i64 (p:Int)),(5,tI .i64 1)],[],[]⟩,fun q=>0,(),?_,?_⟩
   ·skip
    repeat' ((conv=>whnf);first|refine Or.inl ?_|apply oi|(apply fi<;>intro h)|refine⟨_,rfl,?_⟩|exact rfl)
    all_goals try exact⟨KO⟩
   intro q
   repeat' ((conv=>whnf);first|refine Or.inl ?_|apply oi|(apply fi<;>intro h)|refine⟨_,rfl,?_⟩|exact rfl)
   all_goals try exact⟨KO⟩
   all_goals try exact KX
 ·have he:bQ l p= -1:=by rw[bQ,if_neg h0]
  rw[he]
  repeat' ((conv=>whnf);first|refine Or.inl ?_|apply oi|(apply fi<;>intro h)|refine⟨_,rfl,?_⟩|exact rfl)
  all_goals try exact⟨KO⟩
  all_goals try exact KX
def bH (l:List Ar):Bool:=decide (l.length≤20) && (decide (0 < l.length) && bQ l 0==(l.length:Int))
theorem pn (l:List Ar)(hl:l.length≤1048576)(hn:eF l):Sim.Spec Try.prog 85 [tvL 3 (l.map Ar.tr)] (rB (bH l)):=by
 refine ap hΓ au Try.func85 rfl (by decide) rfl ?_
 have hlen:(l.map Ar.tr).length=l.length:=by simp
 have hE:=eU l 0 hl hn
 unfold bH
 generalize bQ l 0=e at *
 repeat' ((conv=>whnf);first|refine Or.inl ?_|apply oi|(apply fi<;>intro h)|refine ci hE (ai rfl (ai rfl trivial)) ?_|refine⟨_,rfl,?_⟩|exact rfl)
 all_goals try exact⟨KO⟩
 all_goals(refine⟨congrArg Tr.bool ?_⟩;simp_all;try omega)
theorem pm (l:List Ar)(hl:l.length≤1048576)(hn:eF l):Sim.Spec Try.prog 83 [tvL 3 (l.map Ar.tr)] (rB (bH l)):=by
 refine ap hΓ au Try.func83 rfl (by decide) rfl ?_
 have hlen:(l.map Ar.tr).length=l.length:=by simp
 have hE:=oH l 0 hl hn
 unfold bH
 generalize bQ l 0=e at *
 repeat' ((conv=>whnf);first|refine Or.inl ?_|apply oi|(apply fi<;>intro h)|refine ci hE (ai rfl (ai rfl trivial)) ?_|refine⟨_,rfl,?_⟩|exact rfl)
 all_goals try exact⟨KO⟩
 all_goals(refine⟨congrArg Tr.bool ?_⟩;simp_all;try omega)
def cW {α:Type}[BEq α]:List α→Nat→α→Option Nat
 | [],_,_=>none
 | x::l,i,s=>if(x==s)=true then some i else cW l (i+1) s
theorem rx {α:Type}[BEq α]{l:List α}{i:Nat}{x s:α}(hx:l[i]?=some x):cW (l.drop i) i s=if(x==s)=true then some i else cW (l.drop (i+1)) (i+1) s:=by
 rw[eA hx,cW]
theorem gd {α:Type}[BEq α]:∀{l:List α} {i k:Nat} {s:α},cW l i s=some k→i≤k∧k < i+l.length
 | [],_,_,_,h=>by rw[cW]at h;cases h
 | x::l,i,k,s,h=>by
  rw[cW]at h
  simp only[List.length_cons]
  split at h
  ·injection h with h;omega
  ·have:=gd h;omega
theorem nJ {α:Type}[BEq α][LawfulBEq α]:∀{l:List α} {i:Nat} {s:α},(cW l i s).isSome=l.contains s
 | [],_,_=>rfl
 | x::l,i,s=>by
  rw[cW,List.contains_cons]
  cases h:(x==s)with
  | true=>rw[if_pos rfl];simp[eq_of_beq h]
  | false=>
   have h2:(s==x)=false:=by rw[beq_eq_false_iff_ne]at h ⊢;exact fun e=>h e.symm
   rw[if_neg (by simp),h2,Bool.false_or]
   exact nJ
def dB {α:Type}[BEq α](l:List α)(s:α):Int:=bM (cW l 0 s)
theorem jc {α:Type}[BEq α][LawfulBEq α]{l:List α}{s:α}:decide (0≤dB l s)=l.contains s:=by
 rw[←nJ (i:=0),dB]
 cases cW l 0 s with
 | none=>rfl
 | some k=>simp[bM]
theorem mV (l:List (List UInt8))(s:List UInt8)(hl:l.length≤4194304):Sim.Spec Try.prog 113 [tvL 1 (l.map ah),tvS s] (rI (dB l s)):=by
 refine ap hΓ au Try.func113 rfl (by decide) rfl ?_
 have hlen:(l.map ah).length=l.length:=by simp
 obtain⟨R,hR⟩:∃R,dB l s=R:=⟨_,rfl⟩
 rw[hR]
 repeat' ((conv=>whnf);first|refine Or.inl ?_|apply oi|(apply fi<;>intro h)|refine⟨_,rfl,?_⟩|exact rfl)
 all_goals try exact⟨KO⟩
 conv=>whnf
 refine⟨{k:Nat // k≤l.length∧bM (cW (l.drop k) k s)=R},fun k=>⟨[(0,.r (.c (.t (.lst 1 (l.map ah))))),(1,tS s),(6,.r (.c (.t (.lst 1 (l.map ah))))),(7,tI .i64 ((l.map ah).length:Int)),(8,tI .i64 (k.1:Int))],[],[]⟩,fun k=>l.length - k.1,⟨0,by omega,hR⟩,?_,?_⟩
 ·skip
  repeat' ((conv=>whnf);first|refine Or.inl ?_|apply oi|(apply fi<;>intro h)|refine⟨_,rfl,?_⟩|exact rfl)
  all_goals try exact⟨KO⟩
 intro⟨k,hk,hr⟩
 dsimp only at hk hr ⊢
 by_cases hlt:k < l.length
 ·obtain⟨x,hx⟩:=af hlt
  rw[rx hx]at hr
  cases he:(x==s)with
  | true=>
   rw[he,if_pos rfl]at hr
   have he2:=eq_of_beq he
   subst he2
   subst hr
   repeat' ((conv=>whnf);first|refine Or.inl ?_|apply oi|(apply fi<;>intro h)|refine⟨k,(ah x),rfl,aa hx,?_⟩|refine⟨_,rfl,?_⟩|exact rfl)
   all_goals try exact⟨KO⟩
   all_goals try exact KX
   all_goals try(exfalso;(try simp_all[ae]);(try omega);done)
  | false=>
   rw[he,if_neg (by simp)]at hr
   repeat' ((conv=>whnf);first|refine Or.inl ?_|apply oi|(apply fi<;>intro h)|refine⟨k,(ah x),rfl,aa hx,?_⟩|refine⟨_,rfl,?_⟩|exact rfl)
   all_goals try exact⟨KO⟩
   all_goals try exact KX
   all_goals try(exfalso;(try simp_all[ae]);(try omega);done)
   conv=>whnf
   refine⟨⟨k+1,by omega,hr⟩,?_,KD⟩
   repeat' ((conv=>whnf);first|refine Or.inl ?_|apply oi|(apply fi<;>intro h)|refine⟨_,rfl,?_⟩|exact rfl)
   all_goals try exact⟨KO⟩
   all_goals try exact⟨K2⟩
 ·rw[List.drop_eq_nil_of_le (by omega),cW]at hr
  subst hr
  repeat' ((conv=>whnf);first|refine Or.inl ?_|apply oi|(apply fi<;>intro h)|refine⟨_,rfl,?_⟩|exact rfl)
  all_goals try exact⟨KO⟩
  all_goals try exact KX
theorem cT (l:List (List UInt8))(s:List UInt8)(hl:l.length≤4194304):Sim.Spec Try.prog 108 [tvL 1 (l.map ah),tvS s] (rB (l.contains s)):=by
 refine ap hΓ au Try.func108 rfl (by decide) rfl ?_
 have hI:=mV l s hl
 rw[←jc]
 generalize dB l s=e at *
 repeat' ((conv=>whnf);first|refine Or.inl ?_|apply oi|(apply fi<;>intro h)|refine ci hI (ai rfl (ai rfl trivial)) ?_|refine⟨_,rfl,?_⟩|exact rfl)
 all_goals try exact⟨KO⟩
theorem mT (l:List Int)(s:Int)(hl:l.length≤4194304):Sim.Spec Try.prog 98 [tvL 1 (l.map ab),tvI s] (rI (dB l s)):=by
 refine ap hΓ au Try.func98 rfl (by decide) rfl ?_
 have hlen:(l.map ab).length=l.length:=by simp
 obtain⟨R,hR⟩:∃R,dB l s=R:=⟨_,rfl⟩
 rw[hR]
 repeat' ((conv=>whnf);first|refine Or.inl ?_|apply oi|(apply fi<;>intro h)|refine⟨_,rfl,?_⟩|exact rfl)
 all_goals try exact⟨KO⟩
 conv=>whnf
 refine⟨{k:Nat // k≤l.length∧bM (cW (l.drop k) k s)=R},fun k=>⟨[(0,.r (.c (.t (.lst 1 (l.map ab))))),(1,tI .i64 s),(6,.r (.c (.t (.lst 1 (l.map ab))))),(7,tI .i64 ((l.map ab).length:Int)),(8,tI .i64 (k.1:Int))],[],[]⟩,fun k=>l.length - k.1,⟨0,by omega,hR⟩,?_,?_⟩
 ·skip
  repeat' ((conv=>whnf);first|refine Or.inl ?_|apply oi|(apply fi<;>intro h)|refine⟨_,rfl,?_⟩|exact rfl)
  all_goals try exact⟨KO⟩
 intro⟨k,hk,hr⟩
 dsimp only at hk hr ⊢
 by_cases hlt:k < l.length
 ·obtain⟨x,hx⟩:=af hlt
  rw[rx hx]at hr
  cases he:(x==s)with
  | true=>
   rw[he,if_pos rfl]at hr
   have he2:=eq_of_beq he
   subst he2
   subst hr
   repeat' ((conv=>whnf);first|refine Or.inl ?_|apply oi|(apply fi<;>intro h)|refine⟨k,(ab x),rfl,aa hx,?_⟩|refine⟨_,rfl,?_⟩|exact rfl)
   all_goals try exact⟨KO⟩
   all_goals try exact KX
   all_goals try(exfalso;(try simp_all[ae]);(try omega);done)
  | false=>
   rw[he,if_neg (by simp)]at hr
   repeat' ((conv=>whnf);first|refine Or.inl ?_|apply oi|(apply fi<;>intro h)|refine⟨k,(ab x),rfl,aa hx,?_⟩|refine⟨_,rfl,?_⟩|exact rfl)
   all_goals try exact⟨KO⟩
   all_goals try exact KX
   all_goals try(exfalso;(try simp_all[ae]);(try omega);done)
   conv=>whnf
   refine⟨⟨k+1,by omega,hr⟩,?_,KD⟩
   repeat' ((conv=>whnf);first|refine Or.inl ?_|apply oi|(apply fi<;>intro h)|refine⟨_,rfl,?_⟩|exact rfl)
   all_goals try exact⟨KO⟩
   all_goals try exact⟨K2⟩
 ·rw[List.drop_eq_nil_of_le (by omega),cW]at hr
  subst hr
  repeat' ((conv=>whnf);first|refine Or.inl ?_|apply oi|(apply fi<;>intro h)|refine⟨_,rfl,?_⟩|exact rfl)
  all_goals try exact⟨KO⟩
  all_goals try exact KX
theorem jV (l:List Int)(s:Int)(hl:l.length≤4194304):Sim.Spec Try.prog 70 [tvL 1 (l.map ab),tvI s] (rB (l.contains s)):=by
 refine ap hΓ au Try.func70 rfl (by decide) rfl ?_
 have hI:=mT l s hl
 rw[←jc]
 generalize dB l s=e at *
 repeat' ((conv=>whnf);first|refine Or.inl ?_|apply oi|(apply fi<;>intro h)|refine ci hI (ai rfl (ai rfl trivial)) ?_|refine⟨_,rfl,?_⟩|exact rfl)
 all_goals try exact⟨KO⟩
def lS (l:List (List UInt8)):Nat→Nat→Bool
 | 0,_=>true
 | n+1,k=>match l[k]? with
  | some s=>if bE s=true∧(l.take k).contains s=false then lS l n (k+1)else false
  | none=>true
theorem pZ {l:List (List UInt8)}{k:Nat}{s:List UInt8}(hx:l[k]?=some s):lS l (l.length - k) k=if bE s=true∧(l.take k).contains s=false then lS l (l.length - (k+1)) (k+1)else false:=by
 have hk:k < l.length:=by
  rcases Nat.lt_or_ge k l.length with h|h
  ·exact h
  ·rw[List.getElem?_eq_none h]at hx;cases hx
 rw[show l.length - k=(l.length - (k+1))+1 by omega,lS,hx]
def di (l:List (List UInt8)):Bool:=lS l l.length 0 && decide (l.length≤4)
theorem oA (l:List (List UInt8))(hl:l.length≤1048576)(hn:∀x∈l,x.length≤1099511627775):Sim.Spec Try.prog 94 [tvL 1 (l.map ah)] (rB (di l)):=by
 refine ap hΓ au Try.func94 rfl (by decide) rfl ?_
 have hlen:(l.map ah).length=l.length:=by simp
 obtain⟨R,hR⟩:∃R,di l=R:=⟨_,rfl⟩
 rw[hR]
 repeat' ((conv=>whnf);first|refine Or.inl ?_|apply oi|(apply fi<;>intro h)|refine⟨_,rfl,?_⟩|exact rfl)
 all_goals try exact⟨KO⟩
 conv=>whnf
 refine⟨{k:Nat // k≤l.length∧(lS l (l.length - k) k && decide (l.length≤4))=R},fun k=>⟨[(0,.r (.c (.t (.lst 1 (l.map ah))))),(5,.r (.c (.t (.lst 1 (l.map ah))))),(6,tI .i64 ((l.map ah).length:Int)),(7,tI .i64 (k.1:Int))],[],[]⟩,fun k=>l.length - k.1,⟨0,by omega,by rw[Nat.sub_zero];exact hR⟩,?_,?_⟩
 ·skip
  repeat' ((conv=>whnf);first|refine Or.inl ?_|apply oi|(apply fi<;>intro h)|refine⟨_,rfl,?_⟩|exact rfl)
  all_goals try exact⟨KO⟩
 intro⟨k,hk,hr⟩
 dsimp only at hk hr ⊢
 by_cases hlt:k < l.length
 ·obtain⟨s,hs⟩:=af hlt
  rw[pZ hs]at hr
  have hN:=fM s (hn s (List.mem_of_getElem? hs))
  have hC:=cT (l.take k) s (by simp;omega)
  cases hno:bE s with
  | false=>
   rw[hno]at hN hr
   rw[if_neg (by simp),Bool.false_and]at hr
   subst hr
   repeat' ((conv=>whnf);first|refine Or.inl ?_|apply oi|(apply fi<;>intro h)|refine⟨k,(ah s),rfl,aa hs,?_⟩|refine ci hN (ai rfl trivial) ?_|refine⟨_,rfl,?_⟩|exact rfl)
   all_goals try exact⟨KO⟩
   all_goals try exact KX
   all_goals try(exfalso;(try simp_all[ae]);(try omega);done)
  | true=>
   rw[hno]at hN hr
   cases hco:(l.take k).contains s with
   | true=>
    rw[hco]at hC hr
    rw[if_neg (by simp),Bool.false_and]at hr
    subst hr
    rw[List.map_take]at hC
    repeat' ((conv=>whnf);first|refine Or.inl ?_|apply oi|(apply fi<;>intro h)|refine⟨k,(ah s),rfl,aa hs,?_⟩|refine ci hN (ai rfl trivial) ?_|refine⟨_,rfl,?_⟩|exact rfl)
    all_goals try exact⟨KO⟩
    all_goals try exact KX
    all_goals try(exfalso;(try simp_all[ae]);(try omega);done)
    conv=>whnf
    refine⟨0,k,rfl,rfl,by omega,by omega,?_⟩
    repeat' ((conv=>whnf);first|refine Or.inl ?_|apply oi|(apply fi<;>intro h)|refine ci hC (ai rfl (ai rfl trivial)) ?_|refine⟨_,rfl,?_⟩|exact rfl)
    all_goals try exact⟨KO⟩
   | false=>
    rw[hco]at hC hr
    rw[if_pos ⟨rfl,rfl⟩]at hr
    rw[List.map_take]at hC
    repeat' ((conv=>whnf);first|refine Or.inl ?_|apply oi|(apply fi<;>intro h)|refine⟨k,(ah s),rfl,aa hs,?_⟩|refine ci hN (ai rfl trivial) ?_|refine⟨_,rfl,?_⟩|exact rfl)
    all_goals try exact⟨KO⟩
    all_goals try exact KX
    all_goals try(exfalso;(try simp_all[ae]);(try omega);done)
    conv=>whnf
    refine⟨0,k,rfl,rfl,by omega,by omega,?_⟩
    repeat' ((conv=>whnf);first|refine Or.inl ?_|apply oi|(apply fi<;>intro h)|refine ci hC (ai rfl (ai rfl trivial)) ?_|refine⟨_,rfl,?_⟩|exact rfl)
    all_goals try exact⟨KO⟩
    all_goals try exact KX
    all_goals try(exfalso;(try simp_all[ae]);(try omega);done)
    conv=>whnf
    refine⟨⟨k+1,by omega,hr⟩,?_,KD⟩
    repeat' ((conv=>whnf);first|refine Or.inl ?_|apply oi|(apply fi<;>intro h)|refine⟨_,rfl,?_⟩|exact rfl)
    all_goals try exact⟨KO⟩
    all_goals try exact⟨K2⟩
 ·rw[show l.length - k=0 by omega,lS,Bool.true_and]at hr
  subst hr
  repeat' ((conv=>whnf);first|refine Or.inl ?_|apply oi|(apply fi<;>intro h)|refine⟨_,rfl,?_⟩|exact rfl)
  all_goals try exact⟨KO⟩
  all_goals try exact KX
  all_goals exact⟨congrArg Tr.bool (decide_eq_decide.2 (by rw[hlen];omega))⟩
def bP (k:Int):Bool:=k==1 || (k==2 || (k==3 || (k==5 || k==6)))
theorem iG (k:Int):Sim.Spec Try.prog 71 [tvI k] (rB (bP k)):=by
 refine ap hΓ au Try.func71 rfl (by decide) rfl ?_
 unfold bP
 repeat' ((conv=>whnf);first|refine Or.inl ?_|apply oi|(apply fi<;>intro h)|refine⟨_,rfl,?_⟩|exact rfl)
 all_goals try exact⟨KO⟩
 all_goals(refine⟨congrArg Tr.bool ?_⟩;simp_all;(try(rw[Bool.eq_iff_iff];simp;omega)))
theorem lf (k:Int)(hk:ae k 0 7=true):Sim.Spec Try.prog 82 [tvI k] (rB (bP k)):=by
 refine ap hΓ au Try.func82 rfl (by decide) rfl ?_
 have:=within_iff.1 hk
 unfold bP
 repeat' ((conv=>whnf);first|refine Or.inl ?_|apply oi|(apply fi<;>intro h)|refine⟨_,rfl,?_⟩|exact rfl)
 all_goals try exact⟨KO⟩
 all_goals(refine⟨congrArg Tr.bool ?_⟩;simp_all;(try(rw[Bool.eq_iff_iff];simp;done));(try(rw[Bool.eq_iff_iff];simp;omega)))
def bm (x:Ai):Bool:=ae x.faa 0 7 && ((if x.faa=0∨x.faa=1 then bE x.fab else x.fab==[]) && ((if x.faa=0 then di x.fad else x.fad.length==0) && (if bP x.faa=true then bH x.fac else x.fac.length==0)))
theorem cb {x:Ai}(hs:bI 1048576 x.tr):x.fab.length≤1048576∧x.fad.length≤1048576∧(∀y∈x.fad,y.length≤1048576)∧x.fac.length≤1048576∧(∀y∈x.fac,y.fab.length≤1048576):=by
 simp only[Ai.tr,bI]at hs
 obtain⟨_,h1,h2,h3,_⟩:=hs
 have e1:=lz h2
 have e2:=lz h3
 refine⟨by rw[bd]at h1;omega,by omega,fun y hy=>?_,by omega,fun y hy=>?_⟩
 ·have:=cz h2 hy
  simp only[ah,bI,bd]at this
  omega
 ·have:=cz h3 hy
  simp only[Ar.tr,bI,bd]at this
  omega
theorem rW {x:Ai}(h:ae x.faa 0 7=false):bm x=false:=by
 unfold bm;rw[h];rfl
theorem mx {x:Ai}(h:4 < x.fad.length):bm x=false:=by
 have h1:di x.fad=false:=by unfold di;rw[decide_eq_false (by omega),Bool.and_false]
 have h2:(x.fad.length==0)=false:=by rw[beq_eq_false_iff_ne];omega
 unfold bm
 rw[h1,h2]
 split <;> simp
theorem jt (x:Ai)(hs:bI 1048576 x.tr):Sim.Spec Try.prog 65 [.agg x.tr] (rB (bm x)):=by
 refine ap hΓ au Try.func65 rfl (by decide) rfl ?_
 obtain⟨h1,h2,h3,h4,h5⟩:=cb hs
 have hB:=aV x.faa 0 7
 have hN:=fM x.fab (by omega)
 have hA:=oA x.fad h2 (fun y hy=>by have:=h3 y hy;omega)
 have hH:=iG x.faa
 have hE:=pn x.fac h4 (fun y hy=>by have:=h5 y hy;omega)
 unfold bm
 generalize ae x.faa 0 7=b1 at *
 generalize bE x.fab=b2 at *
 generalize di x.fad=b3 at *
 generalize bP x.faa=b4 at *
 generalize bH x.fac=b5 at *
 have hl1:(x.fad.map ah).length=x.fad.length:=by simp
 have hl2:(x.fac.map Ar.tr).length=x.fac.length:=by simp
 repeat' ((conv=>whnf);first|refine Or.inl ?_|apply oi|(apply fi<;>intro h)|refine ci hB (ai rfl (ai rfl (ai rfl trivial))) ?_|refine ci hN (ai rfl trivial) ?_|refine ci hA (ai rfl trivial) ?_|refine ci hH (ai rfl trivial) ?_|refine ci hE (ai rfl trivial) ?_|refine⟨_,rfl,?_⟩|exact rfl)
 all_goals try exact⟨KO⟩
 all_goals(refine⟨congrArg Tr.bool ?_⟩;simp_all;(try(rw[Bool.eq_iff_iff];simp;done));(try(rw[Bool.eq_iff_iff];simp;omega));(try(intro hh;exfalso;simp_all;done)))
theorem wH {l:List (List UInt8)}{k i:Nat}{y s:List UInt8}(hi:i < k)(hy:l[i]?=some y):((l.take k).drop i).contains s=(s==y || ((l.take k).drop (i+1)).contains s):=by
 rw[eA (x:=y) (by rw[List.getElem?_take,if_pos hi];exact hy),List.contains_cons]
theorem wT {x:Ai}(hk:ae x.faa 0 7=true)(h0:x.faa=0)(ha:x.fad.length≤4):bm x=(lS x.fad x.fad.length 0 && (bE x.fab && x.fac.length==0)):=by
 unfold bm di
 rw[hk,if_pos (.inl h0),if_pos h0,if_neg (by rw[h0];decide),decide_eq_true ha]
 cases bE x.fab <;> cases lS x.fad x.fad.length 0 <;> simp
theorem wc {x:Ai}(hk:ae x.faa 0 7=true)(h0:x.faa≠0):bm x=(x.fad.length==0 && ((if x.faa=1 then bE x.fab else x.fab==[]) && (if bP x.faa=true then bH x.fac else x.fac.length==0))):=by
 have e:(if x.faa=0∨x.faa=1 then bE x.fab else x.fab==[])=(if x.faa=1 then bE x.fab else x.fab==[]):=by
  by_cases h1:x.faa=1
  ·rw[if_pos (.inr h1),if_pos h1]
  ·rw[if_neg (by omega),if_neg h1]
 unfold bm
 rw[hk,if_neg h0,e,Bool.true_and]
 generalize(if x.faa=1 then bE x.fab else x.fab==[])=a
 generalize(if bP x.faa=true then bH x.fac else x.fac.length==0)=b
 cases a <;> cases(x.fad.length==0) <;> simp
theorem vg (n:Nat):((n:Int)==0)=(n==0):=by rw[Bool.eq_iff_iff];simp
abbrev yL (x:Ai):AO:= .box (x.tr.map .t)
theorem jp (x:Ai)(hs:bI 1048576 x.tr):Sim.Spec Try.prog 48 [.agg x.tr] (rB (bm x)):=by
 refine ap hΓ au Try.func48 rfl (by decide) rfl ?_
 obtain⟨h1,h2,h3,h4,h5⟩:=cb hs
 have hB:=dt x.faa 0 7
 have hN:=dR x.fab (by omega)
 have hE:=pm x.fac h4 (fun y hy=>by have:=h5 y hy;omega)
 have hl1:(x.fad.map ah).length=x.fad.length:=by simp
 have hl2:(x.fac.map Ar.tr).length=x.fac.length:=by simp
 cases hk:ae x.faa 0 7 with
 | false=>
  rw[hk]at hB
  rw[rW hk]
  repeat' ((conv=>whnf);first|refine Or.inl ?_|apply oi|(apply fi<;>intro h)|refine ci hB (ai rfl (ai rfl (ai rfl trivial))) ?_|refine⟨_,rfl,?_⟩|exact rfl)
  all_goals try exact⟨KO⟩
  all_goals try exact KX
 | true=>
  rw[hk]at hB
  have hH:=lf x.faa hk
  by_cases ha:x.fad.length≤4
  ·by_cases h0:x.faa=0
   ·rw[wT hk h0 ha]
    generalize bE x.fab=b2 at *
    generalize bH x.fac=b5 at *
    obtain⟨A,hA⟩:∃A,lS x.fad x.fad.length 0=A:=⟨_,rfl⟩
    rw[hA]
    have hh0:bP x.faa=false:=by rw[h0];rfl
    rw[hh0]at hH
    repeat' ((conv=>whnf);first|refine Or.inl ?_|apply oi|(apply fi<;>intro h)|refine ci hB (ai rfl (ai rfl (ai rfl trivial))) ?_|refine⟨_,rfl,?_⟩|exact rfl)
    all_goals try exact⟨KO⟩
    all_goals try exact KX
    conv=>whnf
    refine⟨{k:Nat // k≤x.fad.length∧lS x.fad (x.fad.length - k) k=A},fun q=>⟨[(1,.r (.c (.ptr (1,0,0) 0))),(3,tI .i64 (q.1:Int))],[((1,0,0),some (yL x))],[1]⟩,fun q=>x.fad.length - q.1,⟨0,by omega,by rw[Nat.sub_zero];exact hA⟩,?_,?_⟩
    ·skip
     repeat' ((conv=>whnf);first|refine Or.inl ?_|apply oi|(apply fi<;>intro h)|refine⟨_,rfl,?_⟩|exact rfl)
     all_goals try exact⟨KO⟩
    intro⟨k,hkl,hr⟩
    dsimp only at hkl hr ⊢
    by_cases hlt:k < x.fad.length
    ·obtain⟨s,hsk⟩:=af hlt
     rw[pZ hsk]at hr
     have hN2:=dR s (by have:=h3 s (List.mem_of_getElem? hsk);omega)
     cases hno:bE s with
     | false=>
      rw[hno]at hN2 hr
      rw[if_neg (by simp)]at hr
      subst hr
      repeat' ((conv=>whnf);first|refine Or.inl ?_|apply oi|(apply fi<;>intro h)|refine ci hN2 (ai rfl trivial) ?_|refine⟨k,(ah s),rfl,aa hsk,?_⟩|refine⟨_,rfl,?_⟩|exact rfl)
      all_goals try exact⟨KO⟩
      all_goals try exact KX
     | true=>
      rw[hno]at hN2 hr
      obtain⟨C,hC⟩:∃C,(x.fad.take k).contains s=C:=⟨_,rfl⟩
      rw[hC]at hr
      repeat' ((conv=>whnf);first|refine Or.inl ?_|apply oi|(apply fi<;>intro h)|refine ci hN2 (ai rfl trivial) ?_|refine⟨k,(ah s),rfl,aa hsk,?_⟩|refine⟨_,rfl,?_⟩|exact rfl)
      all_goals try exact⟨KO⟩
      all_goals try exact KX
      all_goals try(exfalso;(try simp_all[ae]);(try omega);done)
      conv=>whnf
      refine⟨{i:Nat // i≤k∧((x.fad.take k).drop i).contains s=C},fun q=>⟨[(1,.r (.c (.ptr (1,0,0) 0))),(3,tI .i64 (k:Int)),(4,tI .i64 (q.1:Int))],[((1,0,0),some (yL x))],[1]⟩,fun q=>k - q.1,⟨0,by omega,hC⟩,?_,?_⟩
      ·skip
       repeat' ((conv=>whnf);first|refine Or.inl ?_|apply oi|(apply fi<;>intro h)|refine⟨_,rfl,?_⟩|exact rfl)
       all_goals try exact⟨KO⟩
      intro⟨i,hik,hc⟩
      dsimp only at hik hc ⊢
      by_cases hil:i < k
      ·obtain⟨y,hy⟩:=af (l:=x.fad) (k:=i) (by omega)
       rw[wH hil hy]at hc
       by_cases hys:s=y
       ·subst hys
        rw[beq_self_eq_true,Bool.true_or]at hc
        subst hc
        rw[if_neg (by simp)]at hr
        subst hr
        repeat' ((conv=>whnf);first|refine Or.inl ?_|apply oi|(apply fi<;>intro h)|refine⟨i,(ah s),rfl,aa hy,?_⟩|refine⟨k,(ah s),rfl,aa hsk,?_⟩|refine⟨_,rfl,?_⟩|exact rfl)
        all_goals try exact⟨KO⟩
        all_goals try exact KX
        all_goals try(exfalso;(try simp_all[ae]);(try omega);done)
       ·rw[beq_eq_false_iff_ne.2 hys,Bool.false_or]at hc
        repeat' ((conv=>whnf);first|refine Or.inl ?_|apply oi|(apply fi<;>intro h)|refine⟨i,(ah y),rfl,aa hy,?_⟩|refine⟨k,(ah s),rfl,aa hsk,?_⟩|refine⟨_,rfl,?_⟩|exact rfl)
        all_goals try exact⟨KO⟩
        all_goals try exact KX
        all_goals try(exfalso;apply hys;simp_all;done)
        conv=>whnf
        refine⟨⟨i+1,by omega,hc⟩,?_,KD⟩
        repeat' ((conv=>whnf);first|refine Or.inl ?_|apply oi|(apply fi<;>intro h)|refine⟨_,rfl,?_⟩|exact rfl)
        all_goals try exact⟨KO⟩
        all_goals try exact⟨K2⟩
      ·rw[List.drop_eq_nil_of_le (by simp;omega)]at hc
       have hc:false=C:=hc
       subst hc
       rw[if_pos ⟨rfl,rfl⟩]at hr
       repeat' ((conv=>whnf);first|refine Or.inl ?_|apply oi|(apply fi<;>intro h)|refine⟨_,rfl,?_⟩|exact rfl)
       all_goals try exact⟨KO⟩
       all_goals try exact KX
       conv=>whnf
       refine⟨⟨k+1,by omega,hr⟩,?_,KD⟩
       repeat' ((conv=>whnf);first|refine Or.inl ?_|apply oi|(apply fi<;>intro h)|refine⟨_,rfl,?_⟩|exact rfl)
       all_goals try exact⟨KO⟩
       all_goals try exact⟨K2⟩
    ·rw[show x.fad.length - k=0 by omega]at hr
     have hr:true=A:=hr
     subst hr
     repeat' ((conv=>whnf);first|refine Or.inl ?_|apply oi|(apply fi<;>intro h)|refine ci hN (ai rfl trivial) ?_|refine ci hH (ai rfl trivial) ?_|refine ci hE (ai rfl trivial) ?_|refine⟨_,rfl,?_⟩|exact rfl)
     all_goals try exact⟨KO⟩
     all_goals try exact KX
     all_goals try(exfalso;(try simp_all[ae]);(try omega);done)
     all_goals(refine⟨congrArg Tr.bool ?_⟩;simp_all;(try exact vg _))
   ·rw[wc hk h0]
    generalize bE x.fab=b2 at *
    generalize bH x.fac=b5 at *
    generalize bP x.faa=b4 at *
    repeat' ((conv=>whnf);first|refine Or.inl ?_|apply oi|(apply fi<;>intro h)|refine ci hB (ai rfl (ai rfl (ai rfl trivial))) ?_|refine⟨_,rfl,?_⟩|exact rfl)
    all_goals try exact⟨KO⟩
    all_goals try exact KX
    conv=>whnf
    refine⟨Unit,fun q=>⟨[(1,.r (.c (.ptr (1,0,0) 0))),(3,tI .i64 0)],[((1,0,0),some (yL x))],[1]⟩,fun q=>0,(),?_,?_⟩
    ·skip
     repeat' ((conv=>whnf);first|refine Or.inl ?_|apply oi|(apply fi<;>intro h)|refine⟨_,rfl,?_⟩|exact rfl)
     all_goals try exact⟨KO⟩
    intro q
    dsimp only
    by_cases hlt:0 < x.fad.length
    ·obtain⟨s,hsk⟩:=af hlt
     have hN2:=dR s (by have:=h3 s (List.mem_of_getElem? hsk);omega)
     rw[show(x.fad.length==0)=false by rw[beq_eq_false_iff_ne];omega]
     repeat' ((conv=>whnf);first|refine Or.inl ?_|apply oi|(apply fi<;>intro h)|refine ci hN2 (ai rfl trivial) ?_|refine⟨0,(ah s),rfl,aa hsk,?_⟩|refine⟨_,rfl,?_⟩|exact rfl)
     all_goals try exact⟨KO⟩
     all_goals try exact KX
     all_goals try(exfalso;(try simp_all[ae]);(try omega);done)
     all_goals try(exfalso;simp_all;done)
    ·have hz:x.fad.length=0:=by omega
     rw[show(x.fad.length==0)=true by rw[hz];rfl]
     rw[hz]at hl1
     repeat' ((conv=>whnf);first|refine Or.inl ?_|apply oi|(apply fi<;>intro h)|refine ci hN (ai rfl trivial) ?_|refine ci hH (ai rfl trivial) ?_|refine ci hE (ai rfl trivial) ?_|refine⟨_,rfl,?_⟩|exact rfl)
     all_goals try exact⟨KO⟩
     all_goals try(exfalso;simp_all;done)
     all_goals(refine⟨congrArg Tr.bool ?_⟩;simp_all;(try exact vg _);(try(rw[Bool.eq_iff_iff];simp;omega)))
  ·rw[mx (by omega)]
   repeat' ((conv=>whnf);first|refine Or.inl ?_|apply oi|(apply fi<;>intro h)|refine ci hB (ai rfl (ai rfl (ai rfl trivial))) ?_|refine⟨_,rfl,?_⟩|exact rfl)
   all_goals try exact⟨KO⟩
   all_goals try exact KX
def be (k:Int):Bool:=k==0 || (k==3 || k==5)
theorem opensK_iff {k:Int}:be k=true↔k=0∨k=3∨k=5:=by simp[be]
def endN:List Ai→Nat→Nat→Option Nat
 | [],_,_=>none
 | x::l,i,o=>if be x.faa=true then endN l (i+1) (o+1)else if x.faa=7 then(if o=1 then some i else endN l (i+1) (o - 1))else endN l (i+1) o
def endAt (l:List Ai)(k:Nat):Option Nat:=match l[k]? with
 | some x=>if be x.faa=true then endN (l.drop (k+1)) (k+1) 1 else none
 | none=>none
def bv (l:List Ai)(k:Int):Int:=if 0≤k then bM (endAt l k.toNat)else -1
theorem bG {l:List Ai}{i o:Nat}{x:Ai}(h:l[i]?=some x):endN (l.drop i) i o=if be x.faa=true then endN (l.drop (i+1)) (i+1) (o+1)else if x.faa=7 then(if o=1 then some i else endN (l.drop (i+1)) (i+1) (o - 1))else endN (l.drop (i+1)) (i+1) o:=by
 rw[eA h,endN]
theorem fu {l:List Ai}{i o:Nat}(h:l.length≤i):endN (l.drop i) i o=none:=by
 rw[List.drop_eq_nil_of_le h,endN]
theorem ng:∀{l:List Ai} {i o e:Nat},endN l i o=some e→i≤e∧e < i+l.length
 | [],_,_,_,h=>by rw[endN]at h;cases h
 | x::l,i,o,e,h=>by
  rw[endN]at h
  simp only[List.length_cons]
  split at h
  ·have:=ng h;omega
  ·split at h
   ·split at h
    ·injection h with h;omega
    ·have:=ng h;omega
   ·have:=ng h;omega
theorem ez {l:List Ai}{i o e:Nat}(h:endN (l.drop i) i o=some e):i≤e∧e < l.length:=by
 have:=ng h
 rw[List.length_drop]at this
 omega
theorem iN:∀{l:List Ai} {i:Nat} (n:Nat) {a b:Nat},l.length - i≤n→1≤a→1≤b→endN (l.drop i) i (a+b)=(endN (l.drop i) i b).bind fun m=>endN (l.drop (m+1)) (m+1) a
 | l,i,0,a,b,hn,_,_=>by rw[fu (by omega),fu (by omega)];rfl
 | l,i,n+1,a,b,hn,ha,hb=>by
  by_cases hi:i < l.length
  ·obtain⟨x,hx⟩:=af hi
   rw[bG hx,bG hx]
   split
   ·rw[show a+b+1=a+(b+1) by omega]
    exact iN n (by omega) ha (by omega)
   ·split
    ·rw[if_neg (by omega)]
     by_cases h1:b=1
     ·subst h1
      rw[if_pos rfl]
      rfl
     ·rw[if_neg h1,show a+b - 1=a+(b - 1) by omega]
      exact iN n (by omega) ha (by omega)
    ·exact iN n (by omega) ha hb
  ·rw[fu (by omega),fu (by omega)];rfl
theorem iZ:∀{l:List Ai} {i:Nat} (n:Nat) {o e:Nat},l.length - i≤n→endN (l.drop i) i o=some e→∃x,l[e]?=some x∧x.faa=7
 | l,i,0,o,e,hn,h=>by rw[fu (by omega)]at h;cases h
 | l,i,n+1,o,e,hn,h=>by
  by_cases hi:i < l.length
  ·obtain⟨x,hx⟩:=af hi
   rw[bG hx]at h
   split at h
   ·exact iZ n (by omega) h
   ·split at h
    ·split at h
     ·injection h with h
      subst h
      exact⟨x,hx,by assumption⟩
     ·exact iZ n (by omega) h
    ·exact iZ n (by omega) h
  ·rw[fu (by omega)]at h;cases h
theorem aw {l:List Ai}{k e:Nat}(h:endAt l k=some e):∃x,l[k]?=some x∧be x.faa=true∧endN (l.drop (k+1)) (k+1) 1=some e∧k < e∧e < l.length:=by
 unfold endAt at h
 split at h
 ·rename_i x hx
  split at h
  ·rename_i ho
   have:=ez h
   exact⟨x,hx,ho,h,by omega,by omega⟩
  ·cases h
 ·cases h
theorem kG {l:List Ai}{k:Nat}{x:Ai}(hx:l[k]?=some x)(ho:be x.faa=true):endAt l k=endN (l.drop (k+1)) (k+1) 1:=by
 unfold endAt
 rw[hx]
 dsimp only
 rw[if_pos ho]
theorem bc {l:List Ai}{k e:Nat}(h:endAt l k=some e):∃x,l[e]?=some x∧x.faa=7:=by
 obtain⟨_,_,_,h,_⟩:=aw h
 exact iZ _ (Nat.le_refl _) h
theorem kB:∀{l:List Ai} (n:Nat) {s o e i:Nat},i - s≤n→1≤o→endN (l.drop s) s o=some e→s≤i→i≤e→∃o',1≤o'∧endN (l.drop i) i o'=some e
 | l,0,s,o,e,i,hn,ho,h,h1,h2=>by
  have:s=i:=by omega
  subst this
  exact⟨o,ho,h⟩
 | l,n+1,s,o,e,i,hn,ho,h,h1,h2=>by
  by_cases hs:s=i
  ·subst hs;exact⟨o,ho,h⟩
  have hl:=ez h
  obtain⟨x,hx⟩:=af (l:=l) (k:=s) (by omega)
  rw[bG hx]at h
  split at h
  ·exact kB n (by omega) (by omega) h (by omega) h2
  ·split at h
   ·split at h
    ·injection h with h;omega
    ·exact kB n (by omega) (by omega) h (by omega) h2
   ·exact kB n (by omega) ho h (by omega) h2
theorem bu {l:List Ai}{k e i:Nat}{x:Ai}(h:endAt l k=some e)(h1:k < i)(h2:i < e)(hx:l[i]?=some x)(ho:be x.faa=true):∃m,endAt l i=some m∧i < m∧m < e:=by
 obtain⟨_,_,_,he,_,hlt⟩:=aw h
 obtain⟨o,ho1,hlev⟩:=kB _ (Nat.le_refl _) (Nat.le_refl 1) he (by omega:k+1≤i) (by omega)
 rw[bG hx,if_pos ho,iN _ (Nat.le_refl _) ho1 (Nat.le_refl 1)]at hlev
 cases hm:endN (l.drop (i+1)) (i+1) 1 with
 | none=>rw[hm]at hlev;cases hlev
 | some m=>
  rw[hm]at hlev
  have h3:=ez hm
  have h4:=ez (show endN (l.drop (m+1)) (m+1) o=some e from hlev)
  exact⟨m,by rw[kG hx ho];exact hm,by omega,by omega⟩
theorem aG {l:List Ai}{k:Nat}:bv l (k:Int)=bM (endAt l k):=by
 rw[bv,if_pos (by omega),Int.toNat_natCast]
theorem aK {o:Option Nat}{n:Nat}(h:o=some n):bM o=(n:Int):=by rw[h];rfl
theorem eC {o:Option Nat}(h:o=none):bM o= -1:=by rw[h];rfl
def elseN (l:List Ai)(e:Nat):Nat→Nat→Option Nat
 | 0,_=>none
 | n+1,i=>if i < e then(match l[i]? with
  | some x=>if x.faa=4 then some i else if x.faa=3∨x.faa=5 then(match endAt l i with
   | some m=>elseN l e n (m+1)
   | none=>elseN l e n (i+1))else elseN l e n (i+1)
  | none=>none)else none
def elseAt (l:List Ai)(k:Nat):Option Nat:=match l[k]?,endAt l k with
 | some x,some e=>if x.faa=3 then elseN l e (e - (k+1)) (k+1)else none
 | _,_=>none
def aH (l:List Ai)(k:Int):Int:=if 0≤k then bM (elseAt l k.toNat)else -1
theorem dE {l:List Ai}{e:Nat}:∀{n m i:Nat},e - i≤n→e - i≤m→elseN l e n i=elseN l e m i
 | 0,0,_,_,_=>rfl
 | 0,m+1,i,h1,h2=>by rw[elseN,elseN,if_neg (by omega)]
 | n+1,0,i,h1,h2=>by rw[elseN,elseN,if_neg (by omega)]
 | n+1,m+1,i,h1,h2=>by
  rw[elseN,elseN]
  by_cases hi:i < e
  ·rw[if_pos hi,if_pos hi]
   cases hx:l[i]? with
   | none=>rfl
   | some x=>
    dsimp only
    split
    ·rfl
    ·split
     ·cases hm:endAt l i with
      | none=>exact dE (by omega) (by omega)
      | some m'=>
       have:=aw hm
       obtain⟨_,_,_,_,h3,_⟩:=this
       exact dE (by omega) (by omega)
     ·exact dE (by omega) (by omega)
  ·rw[if_neg hi,if_neg hi]
theorem og {l:List Ai}{e i:Nat}{x:Ai}(hi:i < e)(hx:l[i]?=some x):elseN l e (e - i) i=if x.faa=4 then some i else if x.faa=3∨x.faa=5 then(match endAt l i with
   | some m=>elseN l e (e - (m+1)) (m+1)
   | none=>elseN l e (e - (i+1)) (i+1))else elseN l e (e - (i+1)) (i+1):=by
 obtain⟨n,hn⟩:∃n,e - i=n+1:=⟨e - i - 1,by omega⟩
 rw[hn,elseN,if_pos hi,hx]
 dsimp only
 split
 ·rfl
 ·split
  ·cases hm:endAt l i with
   | none=>exact dE (by omega) (by omega)
   | some m=>
    obtain⟨_,_,_,_,h3,_⟩:=aw hm
    exact dE (by omega) (by omega)
  ·exact dE (by omega) (by omega)
theorem pE {l:List Ai}{e i n:Nat}(hi:e≤i):elseN l e n i=none:=by
 cases n with
 | zero=>rfl
 | succ n=>rw[elseN,if_neg (by omega)]
theorem iC {l:List Ai}{e:Nat}:∀{n i j:Nat},elseN l e n i=some j→i≤j∧j < e∧∃x,l[j]?=some x∧x.faa=4
 | 0,_,_,h=>by rw[elseN]at h;cases h
 | n+1,i,j,h=>by
  rw[elseN]at h
  split at h
  ·rename_i hi
   split at h
   ·rename_i x hx
    split at h
    ·injection h with h;subst h;exact⟨by omega,hi,x,hx,by assumption⟩
    ·split at h
     ·split at h
      ·rename_i m hm
       obtain⟨_,_,_,_,h3,_⟩:=aw hm
       have:=iC h
       exact⟨by omega,this.2⟩
      ·have:=iC h
       exact⟨by omega,this.2⟩
     ·have:=iC h
      exact⟨by omega,this.2⟩
   ·cases h
  ·cases h
theorem aL {l:List Ai}{k j:Nat}(h:elseAt l k=some j):∃x e,l[k]?=some x∧x.faa=3∧endAt l k=some e∧k < j∧j < e∧∃y,l[j]?=some y∧y.faa=4:=by
 unfold elseAt at h
 split at h
 ·rename_i x e hx he
  split at h
  ·rename_i h3
   have:=iC h
   exact⟨x,e,hx,h3,he,by omega,this.2⟩
  ·cases h
 ·cases h
def bW:List Ai→Nat→List Nat
 | [],_=>[]
 | x::l,i=>(if x.faa=0 then [i]else [])++bW l (i+1)
def bx (l:List Ai):List Nat:=bW l 0
theorem fS {l:List Ai}{i:Nat}{x:Ai}(hx:l[i]?=some x):bW (l.drop i) i=(if x.faa=0 then [i]else [])++bW (l.drop (i+1)) (i+1):=by
 rw[eA hx,bW]
theorem pK:∀(l:List Ai) (i:Nat),(bW l i).length≤l.length
 | [],_=>by simp[bW]
 | x::l,i=>by
  have:=pK l (i+1)
  rw[bW,List.length_append,List.length_cons]
  split <;> simp <;> omega
theorem nF:∀{l:List Ai} {i k:Nat},k∈bW l i→i≤k∧k < i+l.length∧∃x,l[k - i]?=some x∧x.faa=0
 | [],_,_,h=>by simp[bW]at h
 | x::l,i,k,h=>by
  rw[bW,List.mem_append]at h
  rcases h with h|h
  ·split at h
   ·simp only[List.mem_cons,List.not_mem_nil,or_false]at h
    subst h
    exact⟨by omega,by simp,x,by simp,by assumption⟩
   ·cases h
  ·obtain⟨h1,h2,y,hy,hk⟩:=nF h
   refine⟨by omega,by simp only[List.length_cons];omega,y,?_,hk⟩
   rw[show k - i=(k - (i+1))+1 by omega,List.getElem?_cons_succ]
   exact hy
theorem vb {l:List Ai}{k:Nat}(h:k∈bx l):k < l.length∧∃x,l[k]?=some x∧x.faa=0:=by
 have:=nF h
 simpa using this.2
def findN:List Ai→Nat→List UInt8→Option Nat
 | [],_,_=>none
 | x::l,i,s=>if x.faa=0∧x.fab=s then some i else findN l (i+1) s
def cA (l:List Ai)(s:List UInt8):Int:=bM (findN l 0 s)
theorem sG {l:List Ai}{i:Nat}{x:Ai}{s:List UInt8}(hx:l[i]?=some x):findN (l.drop i) i s=if x.faa=0∧x.fab=s then some i else findN (l.drop (i+1)) (i+1) s:=by
 rw[eA hx,findN]
theorem nK:∀{l:List Ai} {i k:Nat} {s:List UInt8},findN l i s=some k→i≤k∧k < i+l.length∧∃x,l[k - i]?=some x∧x.faa=0∧x.fab=s
 | [],_,_,_,h=>by rw[findN]at h;cases h
 | x::l,i,k,s,h=>by
  rw[findN]at h
  split at h
  ·injection h with h;subst h
   exact⟨by omega,by simp,x,by simp,by assumption⟩
  ·obtain⟨h1,h2,y,hy,hk⟩:=nK h
   refine⟨by omega,by simp only[List.length_cons];omega,y,?_,hk⟩
   rw[show k - i=(k - (i+1))+1 by omega,List.getElem?_cons_succ]
   exact hy
theorem dF {l:List Ai}{k:Nat}{s:List UInt8}(h:findN l 0 s=some k):k < l.length∧∃x,l[k]?=some x∧x.faa=0∧x.fab=s:=by
 have:=nK h
 simpa using this.2
def cI (acc:List (List UInt8))(s:List UInt8):List (List UInt8):=if acc.contains s=true then acc else acc++[s]
def locN (l:List Ai)(e:Nat):Nat→Nat→List (List UInt8)→List (List UInt8)
 | 0,_,acc=>acc
 | n+1,i,acc=>if i < e then(match l[i]? with
  | some x=>locN l e n (i+1) (if x.faa=1 then cI acc x.fab else acc)
  | none=>acc)else acc
def localsOf (l:List Ai)(k:Int):List (List UInt8):=if 0≤k then(match l[k.toNat]?,endAt l k.toNat with
 | some x,some e=>if x.faa=0 then locN l e (e - k.toNat) k.toNat x.fad else []
 | _,_=>[])else []
theorem pQ {l:List Ai}{e i:Nat}{x:Ai}{acc:List (List UInt8)}(hi:i < e)(hx:l[i]?=some x):locN l e (e - i) i acc=locN l e (e - (i+1)) (i+1) (if x.faa=1 then cI acc x.fab else acc):=by
 rw[show e - i=(e - (i+1))+1 by omega,locN,if_pos hi,hx]
theorem rO {l:List Ai}{e i n:Nat}{acc:List (List UInt8)}(hi:e≤i):locN l e n i acc=acc:=by
 cases n with
 | zero=>rfl
 | succ n=>rw[locN,if_neg (by omega)]
theorem sA (acc:List (List UInt8))(s:List UInt8):(cI acc s).length≤acc.length+1:=by
 unfold cI
 split <;> simp
theorem rQ {l:List Ai}{e:Nat}:∀(n i:Nat) (acc:List (List UInt8)),(locN l e n i acc).length≤acc.length+n
 | 0,_,_=>by simp[locN]
 | n+1,i,acc=>by
  rw[locN]
  split
  ·split
   ·refine Nat.le_trans (rQ n _ _) ?_
    split
    ·have:=sA acc (by assumption:Ai).fab;omega
    ·omega
   ·omega
  ·omega
def aR (l:List Ai)(locals:List (List UInt8))(t:Ar):Bool:=
 if t.faa=1 then locals.contains t.fab
 else if t.faa=7 then(match findN l 0 t.fab with
  | some f=>(match l[f]? with|some x=>(x.fad.length:Int)==t.fae|none=>false)
  | none=>false)
 else true
def aN (l:List Ai)(locals:List (List UInt8))(ts:List Ar):Bool:=ts.all (aR l locals)
def dep (x:Ai)(d:Nat):Nat:=if x.faa=3∨x.faa=5 then d+1 else if x.faa=7 then d - 1 else d
def eJ (l:List Ai)(locals:List (List UInt8))(e:Nat):Nat→Nat→Nat→Bool
 | 0,_,_=>true
 | n+1,i,d=>if i < e then(match l[i]? with
  | some x=>if x.faa=0 then false else
   if dep x d≤4∧aN l locals x.fac=true then eJ l locals e n (i+1) (dep x d)else false
  | none=>false)else true
theorem nt {l:List Ai}{locals:List (List UInt8)}{e i d:Nat}{x:Ai}(hi:i < e)(hx:l[i]?=some x):eJ l locals e (e - i) i d=if x.faa=0 then false else if dep x d≤4∧aN l locals x.fac=true then eJ l locals e (e - (i+1)) (i+1) (dep x d)else false:=by
 rw[show e - i=(e - (i+1))+1 by omega,eJ,if_pos hi,hx]
theorem pG {l:List Ai}{locals:List (List UInt8)}{e i d n:Nat}(hi:e≤i):eJ l locals e n i d=true:=by
 cases n with
 | zero=>rfl
 | succ n=>rw[eJ,if_neg (by omega)]
def jo (l:List Ai)(i:Nat):Nat→Nat→Bool
 | 0,_=>false
 | n+1,j=>(elseAt l j==some i) || jo l i n (j+1)
theorem ik {l:List Ai}{i:Nat}:∀{n j:Nat},jo l i n j=true↔∃k,j≤k∧k < j+n∧elseAt l k=some i
 | 0,j=>by
  rw[jo]
  exact⟨fun h=>(by cases h),fun⟨k,h1,h2,_⟩=>(by omega)⟩
 | n+1,j=>by
  rw[jo,Bool.or_eq_true,ik,beq_iff_eq]
  constructor
  ·rintro(h|⟨k,h1,h2,h3⟩)
   ·exact⟨j,by omega,by omega,h⟩
   ·exact⟨k,by omega,by omega,h3⟩
  ·rintro⟨k,h1,h2,h3⟩
   by_cases hk:k=j
   ·subst hk;exact .inl h3
   ·exact .inr ⟨k,by omega,by omega,h3⟩
def bN (l:List Ai)(k e:Nat):Nat→Nat→Bool
 | 0,_=>true
 | n+1,i=>if i < e then(match l[i]? with
  | some x=>(if x.faa=4 then jo l i (i - k) k else true) && bN l k e n (i+1)
  | none=>true)else true
theorem dT {l:List Ai}{k e:Nat}:∀{n i:Nat},e - i≤n→(bN l k e n i=true↔∀j x,i≤j→j < e→l[j]?=some x→x.faa=4→jo l j (j - k) k=true)
 | 0,i,h=>⟨fun _ j x h1 h2=>by omega,fun _=>rfl⟩
 | n+1,i,h=>by
  rw[bN]
  by_cases hi:i < e
  ·rw[if_pos hi]
   cases hx:l[i]? with
   | none=>
    refine⟨fun _ j x h1 h2 hj=>?_,fun _=>rfl⟩
    have:l.length≤i:=List.getElem?_eq_none_iff.1 hx
    rw[List.getElem?_eq_none (by omega)]at hj
    cases hj
   | some x=>
    dsimp only
    rw[Bool.and_eq_true,dT (by omega)]
    constructor
    ·rintro⟨h1,h2⟩ j y hj1 hj2 hy hk
     by_cases he:j=i
     ·subst he
      rw[hx]at hy
      injection hy with hy
      subst hy
      rw[if_pos hk]at h1
      exact h1
     ·exact h2 j y (by omega) hj2 hy hk
    ·intro H
     refine⟨?_,fun j y hj1 hj2 hy hk=>H j y (by omega) hj2 hy hk⟩
     split
     ·exact H i x (Nat.le_refl _) hi hx (by assumption)
     ·rfl
  ·rw[if_neg hi]
   exact⟨fun _ j x h1 h2=>by omega,fun _=>rfl⟩
def gQ (l:List Ai)(locals:List (List UInt8))(k e:Nat):Nat→Nat→Nat→Bool
 | 0,_,_=>true
 | n+1,i,d=>if i < e then(match l[i]? with
  | some x=>if x.faa=0 then false else if x.faa=4∧jo l i (i - k) k=false then false else
   if dep x d≤4∧aN l locals x.fac=true then gQ l locals k e n (i+1) (dep x d)else false
  | none=>false)else true
theorem uq {l:List Ai}{locals:List (List UInt8)}{k e i d:Nat}{x:Ai}(hi:i < e)(hx:l[i]?=some x):gQ l locals k e (e - i) i d=if x.faa=0 then false else if x.faa=4∧jo l i (i - k) k=false then false else if dep x d≤4∧aN l locals x.fac=true then gQ l locals k e (e - (i+1)) (i+1) (dep x d)else false:=by
 rw[show e - i=(e - (i+1))+1 by omega,gQ,if_pos hi,hx]
theorem vq {l:List Ai}{locals:List (List UInt8)}{k e i d n:Nat}(hi:e≤i):gQ l locals k e n i d=true:=by
 cases n with
 | zero=>rfl
 | succ n=>rw[gQ,if_neg (by omega)]
theorem sE {l:List Ai}{locals:List (List UInt8)}{k e:Nat}:∀{n i d:Nat},gQ l locals k e n i d=(eJ l locals e n i d && bN l k e n i)
 | 0,i,d=>rfl
 | n+1,i,d=>by
  rw[gQ,eJ,bN]
  by_cases hi:i < e
  ·rw[if_pos hi,if_pos hi,if_pos hi]
   cases hx:l[i]? with
   | none=>rfl
   | some x=>
    dsimp only
    by_cases h0:x.faa=0
    ·rw[if_pos h0,if_pos h0];rfl
    ·rw[if_neg h0,if_neg h0]
     rw[sE]
     by_cases h4:x.faa=4
     ·rw[if_pos h4]
      cases ha:jo l i (i - k) k with
      | false=>rw[if_pos ⟨h4,rfl⟩];simp
      | true=>
       rw[if_neg (by simp)]
       split <;> simp_all
     ·rw[if_neg (by simp[h4]),if_neg h4]
      split <;> simp_all
  ·rw[if_neg hi,if_neg hi,if_neg hi];rfl
def eS (l:List Ai)(k e:Nat):Bool:=decide ((localsOf l (k:Int)).length≤8) && eJ l (localsOf l (k:Int)) e (e - (k+1)) (k+1) 0
def gS (l:List Ai)(k e:Nat):Bool:=decide ((localsOf l (k:Int)).length≤8) && gQ l (localsOf l (k:Int)) k e (e - (k+1)) (k+1) 0
theorem iz {l:List Ai}{k e:Nat}:gS l k e=(eS l k e && bN l k e (e - (k+1)) (k+1)):=by
 rw[gS,eS,sE,Bool.and_assoc]
theorem ka {l:List Ai}{k e:Nat}(h:eS l k e=true)(he:e≤l.length):∀i x,k < i→i < e→l[i]?=some x→x.faa≠0:=by
 rw[eS,Bool.and_eq_true]at h
 have key:∀(n i d:Nat),e - i≤n→eJ l (localsOf l (k:Int)) e n i d=true→∀j x,i≤j→j < e→l[j]?=some x→x.faa≠0:=by
  intro n
  induction n with
  | zero=>intro i d hn _ j x h1 h2;omega
  | succ n ih=>
   intro i d hn hb j x h1 h2 hx
   rw[eJ,if_pos (by omega)]at hb
   obtain⟨y,hy⟩:=af (l:=l) (k:=i) (by omega)
   rw[hy]at hb
   dsimp only at hb
   split at hb
   ·cases hb
   ·rename_i h0
    split at hb
    ·by_cases hj:j=i
     ·subst hj
      rw[hy]at hx
      injection hx with hx
      subst hx
      exact h0
     ·exact ih (i+1) _ (by omega) hb j x (by omega) h2 hx
    ·cases hb
 exact fun i x h1 h2 hx=>key _ _ _ (Nat.le_refl _) h.2 i x (by omega) h2 hx
def aW (F:Nat→Nat→Bool)(l:List Ai):Nat→Nat→Bool
 | 0,k=>decide (l.length≤k)
 | n+1,k=>if k < l.length then(match l[k]?,endAt l k with
  | some x,some e=>if x.faa=0∧F k e=true then aW F l n (e+1)else false
  | _,_=>false)else true
theorem fq {F:Nat→Nat→Bool}{l:List Ai}{k n:Nat}{x:Ai}(hx:l[k]?=some x)(hn:l.length - k≤n):aW F l n k=match endAt l k with|some e=>if x.faa=0∧F k e=true then aW F l (l.length - (e+1)) (e+1)else false|none=>false:=by
 have more:∀(n m k:Nat),l.length - k≤n→l.length - k≤m→aW F l n k=aW F l m k:=by
  intro n
  induction n with
  | zero=>
   intro m k h1 h2
   rw[aW,decide_eq_true (by omega)]
   cases m with
   | zero=>rw[aW,decide_eq_true (by omega)]
   | succ m=>rw[aW,if_neg (by omega)]
  | succ n ih=>
   intro m k h1 h2
   cases m with
   | zero=>rw[aW,aW,if_neg (by omega),decide_eq_true (by omega)]
   | succ m=>
    rw[aW,aW]
    split
    ·split
     ·rename_i x e hx he
      obtain⟨_,_,_,_,h3,_⟩:=aw he
      split
      ·exact ih m (e+1) (by omega) (by omega)
      ·rfl
     ·rfl
    ·rfl
 have hk:k < l.length:=by
  rcases Nat.lt_or_ge k l.length with h|h
  ·exact h
  ·rw[List.getElem?_eq_none h]at hx;cases hx
 obtain⟨m,rfl⟩:∃m,n=m+1:=⟨n - 1,by omega⟩
 rw[aW,if_pos hk,hx]
 cases he:endAt l k with
 | none=>rfl
 | some e=>
  obtain⟨_,_,_,_,h3,_⟩:=aw he
  dsimp only
  split
  ·exact more _ _ _ (by omega) (by omega)
  ·rfl
theorem jS {F:Nat→Nat→Bool}{l:List Ai}{k n:Nat}(hk:l.length≤k):aW F l n k=true:=by
 cases n with
 | zero=>rw[aW,decide_eq_true hk]
 | succ n=>rw[aW,if_neg (by omega)]
def fB (l:List Ai):Bool:=bN l 0 l.length l.length 0
def aJ (l:List Ai)(k:Nat):Bool:=match l[k]? with|some x=>findN l 0 x.fab==some k|none=>false
def dH (l:List Ai):List Nat→Nat→Bool
 | [],next=>fB l && (next==l.length)
 | k::fs,next=>match endAt l k with
  | some e=>if k=next∧aJ l k=true∧eS l k e=true then dH l fs (e+1)else false
  | none=>false
theorem pb {l:List Ai}{i e:Nat}:∀(n:Nat),e - i≤n→i≤e→e≤l.length→(∀j x,i≤j→j < e→l[j]?=some x→x.faa≠0)→bW (l.drop i) i=bW (l.drop e) e
 | n,hn,hi,he,h=>by
  by_cases hx:i=e
  ·subst hx;rfl
  obtain⟨x,hxi⟩:=af (l:=l) (k:=i) (by omega)
  cases n with
  | zero=>omega
  | succ n=>
   rw[fS hxi,if_neg (h i x (Nat.le_refl _) (by omega) hxi),List.nil_append]
   exact pb n (by omega) (by omega) he fun j y h1 h2=>h j y (by omega) h2
theorem pX {l:List Ai}:∀(n i:Nat),l.length - i≤n→i≤l.length→dH l (bW (l.drop i) i) i=((bW (l.drop i) i).all (aJ l) && aW (eS l) l (l.length - i) i && fB l)
 | n,i,hn,hi=>by
  by_cases hlt:i < l.length
  ·obtain⟨x,hx⟩:=af hlt
   rw[fq hx (Nat.le_refl _)]
   by_cases h0:x.faa=0
   ·rw[fS hx,if_pos h0,List.cons_append,List.nil_append,dH,List.all_cons]
    cases he:endAt l i with
    | none=>simp
    | some e=>
     dsimp only
     obtain⟨_,_,_,_,h3,h4⟩:=aw he
     cases hf:eS l i e with
     | false=>simp
     | true=>
      have hnf:=ka hf (by omega)
      have hsk:bW (l.drop (i+1)) (i+1)=bW (l.drop (e+1)) (e+1):=by
       refine pb _ (Nat.le_refl _) (by omega) (by omega) fun j y h5 h6 hy=>?_
       by_cases hje:j=e
       ·subst hje
        obtain⟨z,hz,hz7⟩:=bc he
        rw[hy]at hz
        injection hz with hz
        subst hz
        omega
       ·exact hnf j y (by omega) (by omega) hy
      cases n with
      | zero=>omega
      | succ n=>
       have ih:=pX (l:=l) n (e+1) (by omega) (by omega)
       rw[hsk]
       cases hnm:aJ l i with
       | false=>simp
       | true=>
        rw[if_pos ⟨rfl,rfl,rfl⟩,if_pos ⟨h0,rfl⟩,ih]
        simp
   ·have hc:(match endAt l i with|some e=>if x.faa=0∧eS l i e=true then aW (eS l) l (l.length - (e+1)) (e+1)else false|none=>false)=false:=by
     cases endAt l i with
     | none=>rfl
     | some e=>dsimp only;rw[if_neg (by simp[h0])]
    rw[hc,Bool.and_false,Bool.false_and]
    rw[fS hx,if_neg h0,List.nil_append]
    cases hfs:bW (l.drop (i+1)) (i+1)with
    | nil=>
     rw[dH]
     have:(i==l.length)=false:=by rw[beq_eq_false_iff_ne];omega
     rw[this,Bool.and_false]
    | cons k fs=>
     have hk:k∈bW (l.drop (i+1)) (i+1):=by rw[hfs];simp
     have:=(nF hk).1
     rw[dH]
     cases endAt l k with
     | none=>rfl
     | some e=>dsimp only;rw[if_neg (by omega)]
  ·have:i=l.length:=by omega
   subst this
   rw[List.drop_eq_nil_of_le (Nat.le_refl _),bW,dH,jS (Nat.le_refl _)]
   simp
theorem qi {l:List Ai}:∀(n k:Nat),l.length - k≤n→k≤l.length→(∀j m,j < k→endAt l j=some m→m < k)→
  (aW (gS l) l (l.length - k) k=(aW (eS l) l (l.length - k) k && bN l 0 l.length (l.length - k) k))
 | n,k,hn,hk,hP=>by
  by_cases hlt:k < l.length
  ·obtain⟨x,hx⟩:=af hlt
   rw[fq hx (Nat.le_refl _),fq hx (Nat.le_refl _)]
   cases he:endAt l k with
   | none=>simp
   | some e=>
    dsimp only
    obtain⟨_,hx',ho,_,h3,h4⟩:=aw he
    obtain⟨z,hz,hz7⟩:=bc he
    by_cases h0:x.faa=0
    ·have hP':∀j m,j < e+1→endAt l j=some m→m < e+1:=by
      intro j m hj hm
      rcases Nat.lt_trichotomy j k with hjk|hjk|hjk
      ·have:=hP j m hjk hm;omega
      ·subst hjk
       rw[he]at hm
       injection hm with hm
       omega
      ·obtain⟨y,hy,hyo,_⟩:=aw hm
       by_cases hje:j=e
       ·subst hje
        rw[hz]at hy
        injection hy with hy
        subst hy
        rw[opensK_iff]at hyo
        omega
       ·obtain⟨m',hm',_,h5⟩:=bu he hjk (by omega) hy hyo
        rw[hm]at hm'
        injection hm' with hm'
        omega
     cases n with
     | zero=>omega
     | succ n=>
      have ih:=qi (l:=l) n (e+1) (by omega) (by omega) hP'
      have hels:bN l 0 l.length (l.length - k) k=(bN l k e (e - (k+1)) (k+1) && bN l 0 l.length (l.length - (e+1)) (e+1)):=by
       rw[Bool.eq_iff_iff,Bool.and_eq_true,dT (Nat.le_refl _),dT (Nat.le_refl _),dT (Nat.le_refl _)]
       constructor
       ·intro H
        refine⟨fun j y h5 h6 hy h7=>?_,fun j y h5 h6 hy h7=>H j y (by omega) h6 hy h7⟩
        have:=H j y (by omega) (by omega) hy h7
        rw[ik]at this ⊢
        obtain⟨i,h8,h9,h10⟩:=this
        refine⟨i,?_,by omega,h10⟩
        rcases Nat.lt_or_ge i k with h11|h11
        ·obtain⟨_,m,_,_,h12,_,h13,_⟩:=aL h10
         have:=hP i m h11 h12
         omega
        ·exact h11
       ·rintro⟨H1,H2⟩ j y h5 h6 hy h7
        rcases Nat.lt_or_ge e j with h8|h8
        ·exact H2 j y h8 h6 hy h7
        ·have hje:j≠e:=fun h=>by
          subst h
          rw[hz]at hy
          injection hy with hy
          subst hy
          omega
         have hjk:j≠k:=fun h=>by
          subst h
          rw[hx]at hy
          injection hy with hy
          subst hy
          omega
         have:=H1 j y (by omega) (by omega) hy h7
         rw[ik]at this ⊢
         obtain⟨i,h9,h10,h11⟩:=this
         exact⟨i,by omega,by omega,h11⟩
      rw[hels,ih,iz]
      cases eS l k e <;> cases bN l k e (e - (k+1)) (k+1) <;> simp[h0]
    ·rw[if_neg (by simp[h0]),if_neg (by simp[h0])];rfl
  ·have:k=l.length:=by omega
   subst this
   rw[jS (Nat.le_refl _),jS (Nat.le_refl _)]
   rw[Nat.sub_self]
   rfl
def cB:List UInt8:=[109,97,105,110]
def gD (l:List Ai):Bool:=match l with
 | []=>false
 | x::_=>x.faa==0 && (x.fab==cB && x.fad.length==0)
def aB (l:List Ai):Bool:=decide (l.length≤60) && (decide (1≤(bx l).length∧(bx l).length≤6) && (l.all bm && (gD l && ((bx l).all (aJ l) && (aW (eS l) l l.length 0 && fB l)))))
theorem tZ (l:List Ai):dH l (bx l) 0=((bx l).all (aJ l) && (aW (eS l) l l.length 0 && fB l)):=by
 have:=pX (l:=l) _ 0 (Nat.le_refl _) (by omega)
 rw[List.drop_zero]at this
 rw[bx,this,Nat.sub_zero,Bool.and_assoc]
theorem jT (l:List Ai):aW (gS l) l l.length 0=(aW (eS l) l l.length 0 && fB l):=by
 have:=qi (l:=l) _ 0 (Nat.le_refl _) (by omega) (fun j m h=>by omega)
 rw[Nat.sub_zero]at this
 exact this
def StkOk (l:List Ai)(e:Nat):Nat→List Nat→Prop
 | i,[]=>endN (l.drop i) i 1=some e
 | i,m::es=>i≤m∧endN (l.drop i) i 1=some m∧StkOk l e (m+1) es
theorem StkOk.push {l:List Ai}{e i:Nat}{es:List Nat}{x:Ai}(h:StkOk l e i es)(hx:l[i]?=some x)(ho:be x.faa=true):∃m,endAt l i=some m∧i < m∧StkOk l e (i+1) (m::es):=by
 have key:∀m',endN (l.drop i) i 1=some m'→∃m,endAt l i=some m∧i < m∧endN (l.drop (i+1)) (i+1) 1=some m∧endN (l.drop (m+1)) (m+1) 1=some m':=by
  intro m' hm
  rw[bG hx,if_pos ho,iN _ (Nat.le_refl _) (Nat.le_refl 1) (Nat.le_refl 1)]at hm
  cases h1:endN (l.drop (i+1)) (i+1) 1 with
  | none=>rw[h1]at hm;cases hm
  | some m=>
   rw[h1]at hm
   have:=ez h1
   exact⟨m,by rw[kG hx ho];exact h1,by omega,rfl,hm⟩
 cases es with
 | nil=>
  obtain⟨m,h1,h2,h3,h4⟩:=key e h
  exact⟨m,h1,h2,by omega,h3,h4⟩
 | cons m' es=>
  obtain⟨g1,g2,g3⟩:=h
  obtain⟨m,h1,h2,h3,h4⟩:=key m' g2
  have:=ez h4
  exact⟨m,h1,h2,by omega,h3,by omega,h4,g3⟩
theorem StkOk.other {l:List Ai}{e i:Nat}{es:List Nat}{x:Ai}(h:StkOk l e i es)(hx:l[i]?=some x)(ho:be x.faa=false)(h7:x.faa≠7):StkOk l e (i+1) es:=by
 have key:∀m',endN (l.drop i) i 1=some m'→endN (l.drop (i+1)) (i+1) 1=some m':=by
  intro m' hm
  rw[bG hx,if_neg (by simp[ho]),if_neg h7]at hm
  exact hm
 cases es with
 | nil=>exact key e h
 | cons m' es=>
  obtain⟨g1,g2,g3⟩:=h
  have:=ez (key m' g2)
  exact⟨by omega,key m' g2,g3⟩
theorem StkOk.pop {l:List Ai}{e i:Nat}{es:List Nat}{x:Ai}(h:StkOk l e i es)(hx:l[i]?=some x)(h7:x.faa=7):(es=[]∧i=e)∨∃es',es=i::es'∧StkOk l e (i+1) es':=by
 have ho:¬be x.faa=true:=by rw[opensK_iff];omega
 cases es with
 | nil=>
  unfold StkOk at h
  rw[bG hx,if_neg ho,if_pos h7,if_pos rfl]at h
  injection h with h
  exact .inl ⟨rfl,h⟩
 | cons m' es=>
  obtain⟨g1,g2,g3⟩:=h
  rw[bG hx,if_neg ho,if_pos h7,if_pos rfl]at g2
  injection g2 with g2
  subst g2
  exact .inr ⟨es,rfl,g3⟩
theorem StkOk.le {l:List Ai}{e:Nat}:∀{i:Nat} {es:List Nat},StkOk l e i es→i≤e
 | i,[],h=>(ez h).1
 | i,m::es,h=>by
  have:=StkOk.le h.2.2
  have:=h.1
  omega
inductive Ex where
 | node (t:Ar) (es:List Ex)
mutual
def Ex.toks:Ex→List Ar
 | .node t es=>t::ay es
def ay:List Ex→List Ar
 | []=>[]
 | a::es=>a.toks++ay es
end
mutual
def Ex.ok:Ex→Prop
 | .node t es=>dZ t=true∧es.length=ar t∧jv es
def jv:List Ex→Prop
 | []=>True
 | a::es=>a.ok∧jv es
end
theorem Ex.toks_pos (e:Ex):0 < e.toks.length:=by cases e;simp[Ex.toks]
theorem fN:∀(a b:List Ex),ay (a++b)=ay a++ay b
 | [],b=>by rw[List.nil_append,ay,List.nil_append]
 | x::a,b=>by rw[List.cons_append,ay,ay,fN a b,List.append_assoc]
theorem pd:∀{l:List Ex} (n:Nat),jv l→jv (l.take n)
 | [],n,h=>by rw[List.take_nil];exact h
 | x::l,0,h=>by rw[List.take_zero];trivial
 | x::l,n+1,h=>by rw[List.take_succ_cons];exact⟨h.1,pd n h.2⟩
theorem oK:∀{l:List Ex} (n:Nat),jv l→jv (l.drop n)
 | [],n,h=>by rw[List.drop_nil];exact h
 | x::l,0,h=>h
 | x::l,n+1,h=>by rw[List.drop_succ_cons];exact oK n h.2
theorem ou:∀{l:List Ar} {p n e:Nat},endL l p n=some e→∃es:List Ex,es.length=n∧jv es∧∃rest,l=ay es++rest∧p+(ay es).length=e
 | l,p,0,e,h=>by
  have h:some p=some e:=by cases l <;> exact h
  injection h with h
  exact⟨[],rfl,trivial,l,rfl,by simp[ay];omega⟩
 | [],_,_+1,_,h=>by rw[endL]at h;cases h
 | t::l,p,n+1,e,h=>by
  rw[endL]at h
  split at h
  ·rename_i hok
   obtain⟨es,h1,h2,rest,h3,h4⟩:=ou h
   refine⟨.node t (es.take (ar t))::es.drop (ar t),by simp;omega,⟨⟨hok,by simp;omega,pd _ h2⟩,oK _ h2⟩,rest,?_,?_⟩
   ·rw[ay,Ex.toks,List.cons_append,←fN,List.take_append_drop,List.cons_append,←h3]
   ·rw[ay,Ex.toks,List.cons_append,←fN,List.take_append_drop,List.length_cons];omega
  ·cases h
mutual
theorem Ex.endL:∀(e:Ex),e.ok→∀(r:List Ar) (p n:Nat),Go.Proofs.Ytjmplnfiabmalaa.endL (e.toks++r) p (n+1)=Go.Proofs.Ytjmplnfiabmalaa.endL r (p+e.toks.length) n
 | .node t es,h,r,p,n=>by
  rw[Ex.toks,List.cons_append,Go.Proofs.Ytjmplnfiabmalaa.endL,if_pos h.1,show n+ar t=n+es.length by rw[h.2.1],rU es h.2.2,List.length_cons]
  congr 1;omega
theorem rU:∀(es:List Ex),jv es→∀(r:List Ar) (p n:Nat),Go.Proofs.Ytjmplnfiabmalaa.endL (ay es++r) p (n+es.length)=Go.Proofs.Ytjmplnfiabmalaa.endL r (p+(ay es).length) n
 | [],_,r,p,n=>by rw[ay];simp
 | a::es,h,r,p,n=>by
  rw[ay,List.append_assoc,List.length_cons,show n+(es.length+1)=(n+es.length)+1 by omega,Ex.endL a h.1,rU es h.2,List.length_append]
  congr 1;omega
end
theorem lp {l:List Ar}(h:bH l=true):∃e:Ex,e.ok∧l=e.toks:=by
 unfold bH at h
 simp only[Bool.and_eq_true,decide_eq_true_eq,beq_iff_eq]at h
 obtain⟨_,h1,h2⟩:=h
 rw[bQ,if_pos (by omega)]at h2
 show ∃e:Ex,e.ok∧l=e.toks
 cases he:Go.Proofs.Ytjmplnfiabmalaa.endL (l.drop (0:Int).toNat) (0:Int).toNat 1 with
 | none=>rw[he]at h2;simp only[bM]at h2;omega
 | some e=>
  rw[he]at h2
  simp only[bM]at h2
  obtain⟨es,g1,g2,rest,g3,g4⟩:=ou he
  match es,g1 with
  | [a],_=>
   rw[ay,ay,List.append_nil]at g3 g4
   have e0:l.drop (0:Int).toNat=l:=rfl
   rw[e0]at g3
   have:rest=[]:=by
    have:=congrArg List.length g3
    rw[List.length_append]at this
    have e1:(0:Int).toNat=0:=rfl
    rw[e1]at g4
    exact List.length_eq_zero_iff.1 (by omega)
   subst this
   exact⟨a,g2.1,by rw[g3,List.append_nil]⟩
def gI (l:List Ar)(p:Nat)(e:Ex):Prop:=∃r,l.drop p=e.toks++r
def fU (l:List Ar)(p:Nat)(es:List Ex):Prop:=∃r,l.drop p=ay es++r
theorem pc {l:List Ar}{p:Nat}{e:Ex}(h:gI l p e)(ho:e.ok):bQ l (p:Int)=((p+e.toks.length:Nat):Int):=by
 obtain⟨r,h⟩:=h
 rw[bQ,if_pos (by omega),Int.toNat_natCast,h,show(1:Nat)=0+1 from rfl,Ex.endL e ho]
 cases r <;> rfl
theorem jL {l:List Ar}{p:Nat}{t:Ar}{es:List Ex}(h:gI l p (.node t es)):l[p]?=some t∧fU l (p+1) es:=by
 obtain⟨r,h⟩:=h
 rw[Ex.toks,List.cons_append]at h
 refine⟨?_,r,?_⟩
 ·have:=congrArg (·[0]?) h
  simpa [List.getElem?_drop]using this
 ·have:=congrArg (·.drop 1) h
  simpa [List.drop_drop]using this
theorem cQ {l:List Ar}{p:Nat}{a:Ex}{es:List Ex}(h:fU l p (a::es)):gI l p a∧fU l (p+a.toks.length) es:=by
 obtain⟨r,h⟩:=h
 rw[ay,List.append_assoc]at h
 refine⟨⟨_,h⟩,r,?_⟩
 rw[←List.drop_drop,h,List.drop_left]
def cV:Nat→List Ex→List Nat
 | _,[]=>[]
 | p,a::es=>p::cV (p+a.toks.length) es
theorem sa:∀(p:Nat) (es:List Ex),(cV p es).length=es.length
 | _,[]=>rfl
 | p,a::es=>by rw[cV,List.length_cons,sa,List.length_cons]
theorem gu:∀{l:List Ar} {p:Nat} {es:List Ex} {k:Nat} {a:Ex},fU l p es→es[k]?=some a→∃q,(cV p es)[k]?=some q∧gI l q a
 | _,_,[],_,_,_,h=>by simp at h
 | l,p,b::es,0,a,hs,h=>by
  rw[List.getElem?_cons_zero]at h
  injection h with h
  subst h
  exact⟨p,by rw[cV,List.getElem?_cons_zero],(cQ hs).1⟩
 | l,p,b::es,k+1,a,hs,h=>by
  rw[List.getElem?_cons_succ]at h
  obtain⟨q,h1,h2⟩:=gu (cQ hs).2 h
  exact⟨q,by rw[cV,List.getElem?_cons_succ];exact h1,h2⟩
theorem pH {t:Ar}(h:dZ t=true):t.faa=0∨t.faa=1∨t.faa=7∨(2≤t.faa∧t.faa≤6):=by
 unfold dZ at h
 split at h
 ·omega
 ·split at h
  ·omega
  ·split at h
   ·omega
   ·simp only[Bool.and_eq_true,within_iff]at h
    omega
theorem uY {t:Ar}(h:dZ t=true):((t.faa=0∨t.faa=1)→ar t=0)∧(t.faa=7→(ar t:Int)=t.fae)∧(2≤t.faa→t.faa≤6→ar t=2):=by
 obtain⟨e1,_⟩:=qb h
 unfold mA at e1
 rw[if_neg (by simp[h])]at e1
 refine⟨fun h0=>?_,fun h7=>?_,fun h2 h6=>?_⟩
 ·rw[if_neg (by omega),if_pos h0]at e1;omega
 ·rw[if_pos h7]at e1;omega
 ·rw[if_neg (by omega),if_neg (by omega)]at e1;omega
theorem fA:∀{l:List Ar} {p:Nat} {es:List Ex} {j:Nat} {a:Ex},fU l p es→es[j]?=some a→gI l (p+(ay (es.take j)).length) a
 | _,_,[],_,_,_,h=>by simp at h
 | l,p,b::es,0,a,hs,h=>by
  rw[List.getElem?_cons_zero]at h
  injection h with h
  subst h
  simpa [ay]using(cQ hs).1
 | l,p,b::es,j+1,a,hs,h=>by
  rw[List.getElem?_cons_succ]at h
  have:=fA (cQ hs).2 h
  rw[List.take_succ_cons,ay,List.length_append,←Nat.add_assoc]
  exact this
end Go.Proofs.Ytjmplnfiabmalaa
namespace Go.Proofs.Ytjmplnfiabmalaa
open Go.Sim
set_option maxRecDepth 100000
set_option maxHeartbeats 4000000
abbrev tvP (l:List Ai):TV:=tvL 4 (l.map Ai.tr)
abbrev vP (l:List Ai):AV:= .r (.c (.t (.lst 4 (l.map Ai.tr))))
theorem kq (k:Int):Sim.Spec Try.prog 95 [tvI k] (rB (be k)):=by
 refine ap hΓ au Try.func95 rfl (by decide) rfl ?_
 unfold be
 repeat' ((conv=>whnf);first|refine Or.inl ?_|apply oi|(apply fi<;>intro h)|refine⟨_,rfl,?_⟩|exact rfl)
 all_goals try exact⟨KO⟩
 all_goals(refine⟨congrArg Tr.bool ?_⟩;simp_all;(try(rw[Bool.eq_iff_iff];simp;omega)))
theorem gT (k:Int):Sim.Spec Try.prog 84 [tvI k] (rB (be k)):=by
 refine ap hΓ au Try.func84 rfl (by decide) rfl ?_
 unfold be
 repeat' ((conv=>whnf);first|refine Or.inl ?_|apply oi|(apply fi<;>intro h)|refine⟨_,rfl,?_⟩|exact rfl)
 all_goals try exact⟨KO⟩
 all_goals(refine⟨congrArg Tr.bool ?_⟩;simp_all;(try(rw[Bool.eq_iff_iff];simp;omega)))
abbrev wx (l:List Ai)(k:Nat)(R:Int):={q:Nat×Nat // q.1≤l.length∧q.2≤q.1∧(q.2=0→q.1=k)∧bM (endN (l.drop q.1) q.1 q.2)=R}
theorem nV {l:List Ai}{k:Nat}{x:Ai}(hx:l[k]?=some x)(ho:be x.faa=true):endN (l.drop k) k 0=endAt l k:=by
 rw[bG hx,if_pos ho,kG hx ho]
theorem bF (l:List Ai)(k:Int)(hl:l.length≤1048576):Sim.Spec Try.prog 66 [tvP l,tvI k] (rI (bv l k)):=by
 refine ap hΓ au Try.func66 rfl (by decide) rfl ?_
 have hlen:(l.map Ai.tr).length=l.length:=by simp
 by_cases hin:0≤k∧k < l.length
 ·obtain⟨h0,h1⟩:=hin
  obtain⟨k,rfl⟩:=Int.eq_ofNat_of_zero_le h0
  obtain⟨x,hx⟩:=af (l:=l) (k:=k) (by omega)
  have hO:=kq x.faa
  have hw:IntKind.i64.wrap (((l.map Ai.tr).length:Int) - 1)=(l.length:Int) - 1:=by rw[IntWalk.i64_in _ (by omega)];omega
  have hb:=aV (k:Int) 0 (IntKind.i64.wrap (((l.map Ai.tr).length:Int) - 1))
  rw[within_iff.2 ⟨h0,by rw[hw];omega⟩]at hb
  cases ho:be x.faa with
  | false=>
   rw[ho]at hO
   have:bv l (k:Int)= -1:=by rw[aG,endAt,hx];dsimp only;rw[if_neg (by simp[ho])];rfl
   rw[this]
   repeat' ((conv=>whnf);first|refine Or.inl ?_|apply oi|(apply fi<;>intro h)|refine ci hb (ai rfl (ai rfl (ai rfl trivial))) ?_|refine⟨k,x.tr,rfl,aa hx,?_⟩|refine ci hO (ai rfl trivial) ?_|refine⟨_,rfl,?_⟩|exact rfl)
   all_goals try exact⟨KO⟩
   all_goals try exact KX
  | true=>
   rw[ho]at hO
   obtain⟨R,hR⟩:∃R,bv l (k:Int)=R:=⟨_,rfl⟩
   rw[hR]
   rw[aG,←nV hx ho]at hR
   repeat' ((conv=>whnf);first|refine Or.inl ?_|apply oi|(apply fi<;>intro h)|refine ci hb (ai rfl (ai rfl (ai rfl trivial))) ?_|refine⟨k,x.tr,rfl,aa hx,?_⟩|refine ci hO (ai rfl trivial) ?_|refine⟨_,rfl,?_⟩|exact rfl)
   all_goals try exact⟨KO⟩
   all_goals try exact KX
   conv=>whnf
   refine⟨wx l k R,fun q=>⟨[(0,vP l),(5,tI .i64 (q.1.2:Int)),(6,tI .i64 (q.1.1:Int))],[],[]⟩,fun q=>l.length - q.1.1,⟨(k,0),by dsimp only;omega,by omega,fun _=>rfl,hR⟩,?_,?_⟩
   ·skip
    repeat' ((conv=>whnf);first|refine Or.inl ?_|apply oi|(apply fi<;>intro h)|refine⟨_,rfl,?_⟩|exact rfl)
    all_goals try exact⟨KO⟩
   intro⟨⟨i,o⟩,hi,hoi,hs,hr⟩
   dsimp only at hi hoi hs hr ⊢
   by_cases hlt:i < l.length
   ·obtain⟨y,hy⟩:=af hlt
    have hO2:=kq y.faa
    rw[bG hy]at hr
    cases hoy:be y.faa with
    | true=>
     rw[hoy]at hO2
     rw[if_pos hoy]at hr
     have h7:y.faa≠7:=by rw[opensK_iff]at hoy;omega
     repeat' ((conv=>whnf);first|refine Or.inl ?_|apply oi|(apply fi<;>intro h)|refine⟨i,y.tr,rfl,aa hy,?_⟩|refine ci hO2 (ai rfl trivial) ?_|refine⟨_,rfl,?_⟩|exact rfl)
     all_goals try exact⟨KO⟩
     all_goals try exact KX
     all_goals try(exfalso;(try simp_all[ae]);(try omega);done)
     all_goals try exact K3
     conv=>whnf
     refine⟨⟨(i+1,o+1),by dsimp only;omega,by dsimp only;omega,fun h=>by omega,hr⟩,?_,KD⟩
     repeat' ((conv=>whnf);first|refine Or.inl ?_|apply oi|(apply fi<;>intro h)|refine⟨_,rfl,?_⟩|exact rfl)
     all_goals try exact⟨KO⟩
     all_goals try exact⟨K2⟩
     all_goals exact⟨by dsimp only;rw[IntWalk.i64_in _ (by omega)];rfl⟩
    | false=>
     rw[hoy]at hO2
     rw[if_neg (by simp[hoy])]at hr
     have hne:o≠0:=fun h=>by
      have:=hs h
      subst this
      rw[hx]at hy
      injection hy with hy
      subst hy
      rw[ho]at hoy
      cases hoy
     by_cases h7:y.faa=7
     ·rw[if_pos h7]at hr
      by_cases h1:o=1
      ·rw[if_pos h1]at hr
       subst hr
       subst h1
       repeat' ((conv=>whnf);first|refine Or.inl ?_|apply oi|(apply fi<;>intro h)|refine⟨i,y.tr,rfl,aa hy,?_⟩|refine ci hO2 (ai rfl trivial) ?_|refine⟨_,rfl,?_⟩|exact rfl)
       all_goals try exact⟨KO⟩
       all_goals try exact KX
       all_goals try(exfalso;(try simp_all[ae]);(try omega);done)
      ·rw[if_neg h1]at hr
       repeat' ((conv=>whnf);first|refine Or.inl ?_|apply oi|(apply fi<;>intro h)|refine⟨i,y.tr,rfl,aa hy,?_⟩|refine ci hO2 (ai rfl trivial) ?_|refine⟨_,rfl,?_⟩|exact rfl)
       all_goals try exact⟨KO⟩
       all_goals try exact KX
       all_goals try(exfalso;(try simp_all[ae]);(try omega);done)
       all_goals try exact K3
       conv=>whnf
       refine⟨⟨(i+1,o - 1),by dsimp only;omega,by dsimp only;omega,fun h=>by omega,hr⟩,?_,KD⟩
       repeat' ((conv=>whnf);first|refine Or.inl ?_|apply oi|(apply fi<;>intro h)|refine⟨_,rfl,?_⟩|exact rfl)
       all_goals try exact⟨KO⟩
       all_goals try exact⟨K2⟩
       all_goals exact⟨by dsimp only;congr 1;rw[IntWalk.i64_in _ (by omega)];omega⟩
     ·rw[if_neg h7]at hr
      repeat' ((conv=>whnf);first|refine Or.inl ?_|apply oi|(apply fi<;>intro h)|refine⟨i,y.tr,rfl,aa hy,?_⟩|refine ci hO2 (ai rfl trivial) ?_|refine⟨_,rfl,?_⟩|exact rfl)
      all_goals try exact⟨KO⟩
      all_goals try exact KX
      all_goals try(exfalso;(try simp_all[ae]);(try omega);done)
      all_goals try exact K4
      conv=>whnf
      refine⟨⟨(i+1,o),by dsimp only;omega,by dsimp only;omega,fun h=>by omega,hr⟩,?_,KD⟩
      repeat' ((conv=>whnf);first|refine Or.inl ?_|apply oi|(apply fi<;>intro h)|refine⟨_,rfl,?_⟩|exact rfl)
      all_goals try exact⟨KO⟩
      all_goals try exact⟨K2⟩
   ·rw[fu (by omega)]at hr
    subst hr
    repeat' ((conv=>whnf);first|refine Or.inl ?_|apply oi|(apply fi<;>intro h)|refine⟨_,rfl,?_⟩|exact rfl)
    all_goals try exact⟨KO⟩
    all_goals try exact KX
 ·have:bv l k= -1:=by
   rw[bv]
   split
   ·rw[endAt,List.getElem?_eq_none (by omega)];rfl
   ·rfl
  rw[this]
  have hb:=aV k 0 (IntKind.i64.wrap (((l.map Ai.tr).length:Int) - 1))
  have hw:IntKind.i64.wrap (((l.map Ai.tr).length:Int) - 1)=(l.length:Int) - 1:=by rw[IntWalk.i64_in _ (by omega)];omega
  have hf:ae k 0 (IntKind.i64.wrap (((l.map Ai.tr).length:Int) - 1))=false:=by
   cases hx:ae k 0 (IntKind.i64.wrap (((l.map Ai.tr).length:Int) - 1))with
   | false=>rfl
   | true=>have:=within_iff.1 hx;rw[hw]at this;exact absurd ⟨this.1,by omega⟩ hin
  rw[hf]at hb
  repeat' ((conv=>whnf);first|refine Or.inl ?_|apply oi|(apply fi<;>intro h)|refine ci hb (ai rfl (ai rfl (ai rfl trivial))) ?_|refine⟨_,rfl,?_⟩|exact rfl)
  all_goals try exact⟨KO⟩
  all_goals try exact KX
theorem bo (l:List Ai)(k:Int)(hl:l.length≤1048576):Sim.Spec Try.prog 50 [tvP l,tvI k] (rI (bv l k)):=by
 refine ap hΓ au Try.func50 rfl (by decide) rfl ?_
 have hlen:(l.map Ai.tr).length=l.length:=by simp
 by_cases hin:0≤k∧k < l.length
 ·obtain⟨h0,h1⟩:=hin
  obtain⟨k,rfl⟩:=Int.eq_ofNat_of_zero_le h0
  obtain⟨x,hx⟩:=af (l:=l) (k:=k) (by omega)
  have hO:=gT x.faa
  skip
  cases ho:be x.faa with
  | false=>
   rw[ho]at hO
   have:bv l (k:Int)= -1:=by rw[aG,endAt,hx];dsimp only;rw[if_neg (by simp[ho])];rfl
   rw[this]
   repeat' ((conv=>whnf);first|refine Or.inl ?_|apply oi|(apply fi<;>intro h)|refine⟨k,x.tr,rfl,aa hx,?_⟩|refine ci hO (ai rfl trivial) ?_|refine⟨_,rfl,?_⟩|exact rfl)
   all_goals try exact⟨KO⟩
   all_goals try exact KX
  | true=>
   rw[ho]at hO
   obtain⟨R,hR⟩:∃R,bv l (k:Int)=R:=⟨_,rfl⟩
   rw[hR]
   rw[aG,←nV hx ho]at hR
   repeat' ((conv=>whnf);first|refine Or.inl ?_|apply oi|(apply fi<;>intro h)|refine⟨k,x.tr,rfl,aa hx,?_⟩|refine ci hO (ai rfl trivial) ?_|refine⟨_,rfl,?_⟩|exact rfl)
   all_goals try exact⟨KO⟩
   all_goals try exact KX
   conv=>whnf
   refine⟨wx l k R,fun q=>⟨[(0,vP l),(5,tI .i64 (q.1.2:Int)),(6,tI .i64 (q.1.1:Int))],[],[]⟩,fun q=>l.length - q.1.1,⟨(k,0),by dsimp only;omega,by omega,fun _=>rfl,hR⟩,?_,?_⟩
   ·skip
    repeat' ((conv=>whnf);first|refine Or.inl ?_|apply oi|(apply fi<;>intro h)|refine⟨_,rfl,?_⟩|exact rfl)
    all_goals try exact⟨KO⟩
   intro⟨⟨i,o⟩,hi,hoi,hs,hr⟩
   dsimp only at hi hoi hs hr ⊢
   by_cases hlt:i < l.length
   ·obtain⟨y,hy⟩:=af hlt
    have hO2:=gT y.faa
    rw[bG hy]at hr
    cases hoy:be y.faa with
    | true=>
     rw[hoy]at hO2
     rw[if_pos hoy]at hr
     have h7:y.faa≠7:=by rw[opensK_iff]at hoy;omega
     repeat' ((conv=>whnf);first|refine Or.inl ?_|apply oi|(apply fi<;>intro h)|refine⟨i,y.tr,rfl,aa hy,?_⟩|refine ci hO2 (ai rfl trivial) ?_|refine⟨_,rfl,?_⟩|exact rfl)
     all_goals try exact⟨KO⟩
     all_goals try exact KX
     all_goals try(exfalso;(try simp_all[ae]);(try omega);done)
     all_goals try exact K3
     conv=>whnf
     refine⟨⟨(i+1,o+1),by dsimp only;omega,by dsimp only;omega,fun h=>by omega,hr⟩,?_,KD⟩
     repeat' ((conv=>whnf);first|refine Or.inl ?_|apply oi|(apply fi<;>intro h)|refine⟨_,rfl,?_⟩|exact rfl)
     all_goals try exact⟨KO⟩
     all_goals try exact⟨K2⟩
     all_goals exact⟨by dsimp only;rw[IntWalk.i64_in _ (by omega)];rfl⟩
    | false=>
     rw[hoy]at hO2
     rw[if_neg (by simp[hoy])]at hr
     have hne:o≠0:=fun h=>by
      have:=hs h
      subst this
      rw[hx]at hy
      injection hy with hy
      subst hy
      rw[ho]at hoy
      cases hoy
     by_cases h7:y.faa=7
     ·rw[if_pos h7]at hr
      by_cases h1:o=1
      ·rw[if_pos h1]at hr
       subst hr
       subst h1
       repeat' ((conv=>whnf);first|refine Or.inl ?_|apply oi|(apply fi<;>intro h)|refine⟨i,y.tr,rfl,aa hy,?_⟩|refine ci hO2 (ai rfl trivial) ?_|refine⟨_,rfl,?_⟩|exact rfl)
       all_goals try exact⟨KO⟩
       all_goals try exact KX
       all_goals try(exfalso;(try simp_all[ae]);(try omega);done)
      ·rw[if_neg h1]at hr
       repeat' ((conv=>whnf);first|refine Or.inl ?_|apply oi|(apply fi<;>intro h)|refine⟨i,y.tr,rfl,aa hy,?_⟩|refine ci hO2 (ai rfl trivial) ?_|refine⟨_,rfl,?_⟩|exact rfl)
       all_goals try exact⟨KO⟩
       all_goals try exact KX
       all_goals try(exfalso;(try simp_all[ae]);(try omega);done)
       all_goals try exact K3
       conv=>whnf
       refine⟨⟨(i+1,o - 1),by dsimp only;omega,by dsimp only;omega,fun h=>by omega,hr⟩,?_,KD⟩
       repeat' ((conv=>whnf);first|refine Or.inl ?_|apply oi|(apply fi<;>intro h)|refine⟨_,rfl,?_⟩|exact rfl)
       all_goals try exact⟨KO⟩
       all_goals try exact⟨K2⟩
       all_goals exact⟨by dsimp only;congr 1;rw[IntWalk.i64_in _ (by omega)];omega⟩
     ·rw[if_neg h7]at hr
      repeat' ((conv=>whnf);first|refine Or.inl ?_|apply oi|(apply fi<;>intro h)|refine⟨i,y.tr,rfl,aa hy,?_⟩|refine ci hO2 (ai rfl trivial) ?_|refine⟨_,rfl,?_⟩|exact rfl)
      all_goals try exact⟨KO⟩
      all_goals try exact KX
      all_goals try(exfalso;(try simp_all[ae]);(try omega);done)
      all_goals try exact K4
      conv=>whnf
      refine⟨⟨(i+1,o),by dsimp only;omega,by dsimp only;omega,fun h=>by omega,hr⟩,?_,KD⟩
      repeat' ((conv=>whnf);first|refine Or.inl ?_|apply oi|(apply fi<;>intro h)|refine⟨_,rfl,?_⟩|exact rfl)
      all_goals try exact⟨KO⟩
      all_goals try exact⟨K2⟩
   ·rw[fu (by omega)]at hr
    subst hr
    repeat' ((conv=>whnf);first|refine Or.inl ?_|apply oi|(apply fi<;>intro h)|refine⟨_,rfl,?_⟩|exact rfl)
    all_goals try exact⟨KO⟩
    all_goals try exact KX
 ·have:bv l k= -1:=by
   rw[bv]
   split
   ·rw[endAt,List.getElem?_eq_none (by omega)];rfl
   ·rfl
  rw[this]
  repeat' ((conv=>whnf);first|refine Or.inl ?_|apply oi|(apply fi<;>intro h)|refine⟨_,rfl,?_⟩|exact rfl)
  all_goals try exact⟨KO⟩
  all_goals try exact KX
end Go.Proofs.Ytjmplnfiabmalaa
namespace Go.Proofs.Ytjmplnfiabmalaa
open Go.Sim
set_option maxRecDepth 100000
theorem bh (a:List (List Tr)):(ak a).length=a.length:=by simp[ak]
theorem gr {A:Prop}{Q:(ι:Type)→(ι→St)→Prop}(h:A):A∨∃(ι:Type) (S:ι→St),Q ι S:=Or.inl h
theorem nu {α:Type}{g:α→List Tr}(l:List α)(h:∀x,∀c∈g x,∀sz rs,c≠.lst sz rs):flat (l.map g):=by
 intro row hr c hc sz rs
 obtain⟨x,_,rfl⟩:=List.mem_map.1 hr
 exact h x c hc sz rs
theorem da (l:List Int):flat (l.map ab):=nu _ (by intro x c hc sz rs e;subst e;simp[ab]at hc)
end Go.Proofs.Ytjmplnfiabmalaa
namespace Go.Proofs.Ytjmplnfiabmalaa
open Go.Sim
set_option maxRecDepth 100000
set_option maxHeartbeats 4000000
theorem lA (l:List (List UInt8)):flat (l.map ah):=nu _ (by intro x c hc sz rs e;subst e;simp[ah]at hc)
theorem nE {l:List Ai}{k:Nat}{x:Ai}(hx:l[k]?=some x)(h:x.faa≠3∨endAt l k=none):elseAt l k=none:=by
 unfold elseAt
 rw[hx]
 cases he:endAt l k with
 | none=>rfl
 | some e=>
  dsimp only
  rw[if_neg]
  rcases h with h|h
  ·exact h
  ·rw[he]at h;cases h
theorem fG (l:List Ai)(k:Int)(hl:l.length≤1048576):Sim.Spec Try.prog 69 [tvP l,tvI k] (rI (aH l k)):=by
 refine ap hΓ au Try.func69 rfl (by decide) rfl ?_
 have hlen:(l.map Ai.tr).length=l.length:=by simp
 have hE:=bF l k hl
 cases he:endAt l k.toNat with
 | none=>
  have h1:bv l k= -1:=by rw[bv,he];split <;> rfl
  have h2:aH l k= -1:=by
   rw[aH]
   split
   ·unfold elseAt;rw[he];cases l[k.toNat]? <;> rfl
   ·rfl
  rw[h1]at hE
  rw[h2]
  repeat' ((conv=>whnf);first|refine Or.inl ?_|apply oi|(apply fi<;>intro h)|refine ci hE (ai rfl (ai rfl trivial)) ?_|refine⟨_,rfl,?_⟩|exact rfl)
  all_goals try exact⟨KO⟩
  all_goals try exact KX
 | some e=>
  obtain⟨x,hx,ho,_,hke,hel⟩:=aw he
  by_cases h0:0≤k
  ·obtain⟨k,rfl⟩:=Int.eq_ofNat_of_zero_le h0
   rw[Int.toNat_natCast]at he hx hke
   rw[aG,aK he]at hE
   by_cases h3:x.faa=3
   ·obtain⟨R,hR⟩:∃R,aH l (k:Int)=R:=⟨_,rfl⟩
    rw[hR]
    have hR:bM (elseN l e (e - (k+1)) (k+1))=R:=by
     rw[aH,if_pos h0,Int.toNat_natCast,elseAt,hx,he]at hR
     dsimp only at hR
     rw[if_pos h3]at hR
     exact hR
    repeat' ((conv=>whnf);first|refine Or.inl ?_|apply oi|(apply fi<;>intro h)|refine ci hE (ai rfl (ai rfl trivial)) ?_|refine⟨k,x.tr,rfl,aa hx,?_⟩|refine⟨_,rfl,?_⟩|exact rfl)
    all_goals try exact⟨KO⟩
    all_goals try exact KX
    all_goals try(exfalso;(try simp_all[ae]);(try omega);done)
    conv=>whnf
    refine⟨{i:Nat // k < i∧i≤e∧bM (elseN l e (e - i) i)=R},fun q=>⟨[(0,vP l),(5,tI .i64 (e:Int)),(6,tI .i64 (q.1:Int))],[],[]⟩,fun q=>e - q.1,⟨k+1,by omega,by omega,hR⟩,?_,?_⟩
    ·skip
     repeat' ((conv=>whnf);first|refine Or.inl ?_|apply oi|(apply fi<;>intro h)|refine⟨_,rfl,?_⟩|exact rfl)
     all_goals try exact⟨KO⟩
     all_goals exact⟨by dsimp only;rw[IntWalk.i64_in _ (by omega)];rfl⟩
    intro⟨i,hki,hi,hr⟩
    dsimp only at hki hi hr ⊢
    by_cases hlt:i < e
    ·obtain⟨y,hy⟩:=af (l:=l) (k:=i) (by omega)
     rw[og hlt hy]at hr
     have hE2:=bF l (i:Int) hl
     by_cases h4:y.faa=4
     ·rw[if_pos h4]at hr
      subst hr
      repeat' ((conv=>whnf);first|refine Or.inl ?_|apply oi|(apply fi<;>intro h)|refine ci hE2 (ai rfl (ai rfl trivial)) ?_|refine⟨i,y.tr,rfl,aa hy,?_⟩|refine⟨_,rfl,?_⟩|exact rfl)
      all_goals try exact⟨KO⟩
      all_goals try exact KX
      all_goals try(exfalso;(try simp_all[ae]);(try omega);done)
     ·rw[if_neg h4]at hr
      by_cases h5:y.faa=3∨y.faa=5
      ·rw[if_pos h5]at hr
       obtain⟨m,hm,hm1,hm2⟩:=bu he (i:=i) hki hlt hy (opensK_iff.2 (by omega))
       rw[hm]at hr
       dsimp only at hr
       rw[aG,aK hm]at hE2
       repeat' ((conv=>whnf);first|refine Or.inl ?_|apply oi|(apply fi<;>intro h)|refine ci hE2 (ai rfl (ai rfl trivial)) ?_|refine⟨i,y.tr,rfl,aa hy,?_⟩|refine⟨_,rfl,?_⟩|exact rfl)
       all_goals try exact⟨KO⟩
       all_goals try exact KX
       all_goals try(exfalso;(try simp_all[ae]);(try omega);done)
       all_goals
        conv=>whnf
        refine⟨⟨m+1,by omega,by omega,hr⟩,?_,KD⟩
        repeat' ((conv=>whnf);first|refine Or.inl ?_|apply oi|(apply fi<;>intro h)|refine⟨_,rfl,?_⟩|exact rfl)
        all_goals try exact⟨KO⟩
        all_goals try exact⟨K2⟩
        all_goals exact⟨by dsimp only;rw[IntWalk.i64_in _ (by omega)];rfl⟩
      ·rw[if_neg h5]at hr
       repeat' ((conv=>whnf);first|refine Or.inl ?_|apply oi|(apply fi<;>intro h)|refine ci hE2 (ai rfl (ai rfl trivial)) ?_|refine⟨i,y.tr,rfl,aa hy,?_⟩|refine⟨_,rfl,?_⟩|exact rfl)
       all_goals try exact⟨KO⟩
       all_goals try exact KX
       all_goals try(exfalso;(try simp_all[ae]);(try omega);done)
       all_goals try(exfalso;simp_all;done)
       conv=>whnf
       refine⟨⟨i+1,by omega,by omega,hr⟩,?_,KD⟩
       repeat' ((conv=>whnf);first|refine Or.inl ?_|apply oi|(apply fi<;>intro h)|refine⟨_,rfl,?_⟩|exact rfl)
       all_goals try exact⟨KO⟩
       all_goals try exact⟨K2⟩
       all_goals exact⟨by dsimp only;rw[IntWalk.i64_in _ (by omega)];rfl⟩
    ·rw[pE (by omega)]at hr
     subst hr
     repeat' ((conv=>whnf);first|refine Or.inl ?_|apply oi|(apply fi<;>intro h)|refine⟨_,rfl,?_⟩|exact rfl)
     all_goals try exact⟨KO⟩
     all_goals try exact KX
   ·have h2:aH l (k:Int)= -1:=by
     rw[aH,if_pos h0,Int.toNat_natCast,nE hx (.inl h3)];rfl
    rw[h2]
    repeat' ((conv=>whnf);first|refine Or.inl ?_|apply oi|(apply fi<;>intro h)|refine ci hE (ai rfl (ai rfl trivial)) ?_|refine⟨k,x.tr,rfl,aa hx,?_⟩|refine⟨_,rfl,?_⟩|exact rfl)
    all_goals try exact⟨KO⟩
    all_goals try exact KX
    all_goals try(exfalso;(try simp_all[ae]);(try omega);done)
  ·have h1:bv l k= -1:=by rw[bv,if_neg h0]
   have h2:aH l k= -1:=by rw[aH,if_neg h0]
   rw[h1]at hE
   rw[h2]
   repeat' ((conv=>whnf);first|refine Or.inl ?_|apply oi|(apply fi<;>intro h)|refine ci hE (ai rfl (ai rfl trivial)) ?_|refine⟨_,rfl,?_⟩|exact rfl)
   all_goals try exact⟨KO⟩
   all_goals try exact KX
theorem fJ (l:List Ai)(k:Int)(hl:l.length≤1048576):Sim.Spec Try.prog 58 [tvP l,tvI k] (rI (aH l k)):=by
 refine ap hΓ au Try.func58 rfl (by decide) rfl ?_
 have hlen:(l.map Ai.tr).length=l.length:=by simp
 have hE:=bo l k hl
 cases he:endAt l k.toNat with
 | none=>
  have h1:bv l k= -1:=by rw[bv,he];split <;> rfl
  have h2:aH l k= -1:=by
   rw[aH]
   split
   ·unfold elseAt;rw[he];cases l[k.toNat]? <;> rfl
   ·rfl
  rw[h1]at hE
  rw[h2]
  repeat' ((conv=>whnf);first|refine Or.inl ?_|apply oi|(apply fi<;>intro h)|refine ci hE (ai rfl (ai rfl trivial)) ?_|refine⟨_,rfl,?_⟩|exact rfl)
  all_goals try exact⟨KO⟩
  all_goals try exact KX
 | some e=>
  obtain⟨x,hx,ho,_,hke,hel⟩:=aw he
  by_cases h0:0≤k
  ·obtain⟨k,rfl⟩:=Int.eq_ofNat_of_zero_le h0
   rw[Int.toNat_natCast]at he hx hke
   rw[aG,aK he]at hE
   by_cases h3:x.faa=3
   ·obtain⟨R,hR⟩:∃R,aH l (k:Int)=R:=⟨_,rfl⟩
    rw[hR]
    have hR:bM (elseN l e (e - (k+1)) (k+1))=R:=by
     rw[aH,if_pos h0,Int.toNat_natCast,elseAt,hx,he]at hR
     dsimp only at hR
     rw[if_pos h3]at hR
     exact hR
    repeat' ((conv=>whnf);first|refine Or.inl ?_|apply oi|(apply fi<;>intro h)|refine ci hE (ai rfl (ai rfl trivial)) ?_|refine⟨k,x.tr,rfl,aa hx,?_⟩|refine⟨_,rfl,?_⟩|exact rfl)
    all_goals try exact⟨KO⟩
    all_goals try exact KX
    all_goals try(exfalso;(try simp_all[ae]);(try omega);done)
    conv=>whnf
    refine⟨{i:Nat // k < i∧i≤e∧bM (elseN l e (e - i) i)=R},fun q=>⟨[(0,vP l),(5,tI .i64 (e:Int)),(6,tI .i64 (q.1:Int))],[],[]⟩,fun q=>e - q.1,⟨k+1,by omega,by omega,hR⟩,?_,?_⟩
    ·skip
     repeat' ((conv=>whnf);first|refine Or.inl ?_|apply oi|(apply fi<;>intro h)|refine⟨_,rfl,?_⟩|exact rfl)
     all_goals try exact⟨KO⟩
     all_goals exact⟨by dsimp only;rw[IntWalk.i64_in _ (by omega)];rfl⟩
    intro⟨i,hki,hi,hr⟩
    dsimp only at hki hi hr ⊢
    by_cases hlt:i < e
    ·obtain⟨y,hy⟩:=af (l:=l) (k:=i) (by omega)
     rw[og hlt hy]at hr
     have hE2:=bo l (i:Int) hl
     by_cases h4:y.faa=4
     ·rw[if_pos h4]at hr
      subst hr
      repeat' ((conv=>whnf);first|refine Or.inl ?_|apply oi|(apply fi<;>intro h)|refine ci hE2 (ai rfl (ai rfl trivial)) ?_|refine⟨i,y.tr,rfl,aa hy,?_⟩|refine⟨_,rfl,?_⟩|exact rfl)
      all_goals try exact⟨KO⟩
      all_goals try exact KX
      all_goals try(exfalso;(try simp_all[ae]);(try omega);done)
     ·rw[if_neg h4]at hr
      by_cases h5:y.faa=3∨y.faa=5
      ·rw[if_pos h5]at hr
       obtain⟨m,hm,hm1,hm2⟩:=bu he (i:=i) hki hlt hy (opensK_iff.2 (by omega))
       rw[hm]at hr
       dsimp only at hr
       rw[aG,aK hm]at hE2
       repeat' ((conv=>whnf);first|refine Or.inl ?_|apply oi|(apply fi<;>intro h)|refine ci hE2 (ai rfl (ai rfl trivial)) ?_|refine⟨i,y.tr,rfl,aa hy,?_⟩|refine⟨_,rfl,?_⟩|exact rfl)
       all_goals try exact⟨KO⟩
       all_goals try exact KX
       all_goals try(exfalso;(try simp_all[ae]);(try omega);done)
       all_goals
        conv=>whnf
        refine⟨⟨m+1,by omega,by omega,hr⟩,?_,KD⟩
        repeat' ((conv=>whnf);first|refine Or.inl ?_|apply oi|(apply fi<;>intro h)|refine⟨_,rfl,?_⟩|exact rfl)
        all_goals try exact⟨KO⟩
        all_goals try exact⟨K2⟩
        all_goals exact⟨by dsimp only;rw[IntWalk.i64_in _ (by omega)];rfl⟩
      ·rw[if_neg h5]at hr
       repeat' ((conv=>whnf);first|refine Or.inl ?_|apply oi|(apply fi<;>intro h)|refine ci hE2 (ai rfl (ai rfl trivial)) ?_|refine⟨i,y.tr,rfl,aa hy,?_⟩|refine⟨_,rfl,?_⟩|exact rfl)
       all_goals try exact⟨KO⟩
       all_goals try exact KX
       all_goals try(exfalso;(try simp_all[ae]);(try omega);done)
       all_goals try(exfalso;simp_all;done)
       conv=>whnf
       refine⟨⟨i+1,by omega,by omega,hr⟩,?_,KD⟩
       repeat' ((conv=>whnf);first|refine Or.inl ?_|apply oi|(apply fi<;>intro h)|refine⟨_,rfl,?_⟩|exact rfl)
       all_goals try exact⟨KO⟩
       all_goals try exact⟨K2⟩
       all_goals exact⟨by dsimp only;rw[IntWalk.i64_in _ (by omega)];rfl⟩
    ·rw[pE (by omega)]at hr
     subst hr
     repeat' ((conv=>whnf);first|refine Or.inl ?_|apply oi|(apply fi<;>intro h)|refine⟨_,rfl,?_⟩|exact rfl)
     all_goals try exact⟨KO⟩
     all_goals try exact KX
   ·have h2:aH l (k:Int)= -1:=by
     rw[aH,if_pos h0,Int.toNat_natCast,nE hx (.inl h3)];rfl
    rw[h2]
    repeat' ((conv=>whnf);first|refine Or.inl ?_|apply oi|(apply fi<;>intro h)|refine ci hE (ai rfl (ai rfl trivial)) ?_|refine⟨k,x.tr,rfl,aa hx,?_⟩|refine⟨_,rfl,?_⟩|exact rfl)
    all_goals try exact⟨KO⟩
    all_goals try exact KX
    all_goals try(exfalso;(try simp_all[ae]);(try omega);done)
  ·have h1:bv l k= -1:=by rw[bv,if_neg h0]
   have h2:aH l k= -1:=by rw[aH,if_neg h0]
   rw[h1]at hE
   rw[h2]
   repeat' ((conv=>whnf);first|refine Or.inl ?_|apply oi|(apply fi<;>intro h)|refine ci hE (ai rfl (ai rfl trivial)) ?_|refine⟨_,rfl,?_⟩|exact rfl)
   all_goals try exact⟨KO⟩
   all_goals try exact KX
theorem iP (l:List Ai)(hl:l.length≤1048576):Sim.Spec Try.prog 64 [tvP l] (rL 1 ((bx l).map fun n:Nat=>ab n)):=by
 refine ap hΓ au Try.func64 rfl (by decide) rfl ?_
 have hlen:(l.map Ai.tr).length=l.length:=by simp
 obtain⟨R,hR⟩:∃R,bx l=R:=⟨_,rfl⟩
 rw[hR]
 repeat' ((conv=>whnf);first|refine Or.inl ?_|apply oi|(apply fi<;>intro h)|refine⟨_,rfl,?_⟩|exact rfl)
 all_goals try exact⟨KO⟩
 conv=>whnf
 refine⟨{q:Nat×List Nat // q.1≤l.length∧q.2.length≤q.1∧q.2++bW (l.drop q.1) q.1=R},fun q=>⟨[(0,vP l),(3,.r (.c (.own (6,0,0)))),(7,vP l),(8,tI .i64 ((l.map Ai.tr).length:Int)),(9,tI .i64 (q.1.1:Int))],[((6,0,0),some (.arr true 1 (q.1.2.map fun n:Nat=>ab n)))],[6]⟩,fun q=>l.length - q.1.1,⟨(0,[]),by simp,by simp,by simpa [bx]using hR⟩,?_,?_⟩
 ·skip
  repeat' ((conv=>whnf);first|refine Or.inl ?_|apply oi|(apply fi<;>intro h)|refine⟨_,rfl,?_⟩|exact rfl)
  all_goals try exact⟨KO⟩
 intro⟨⟨k,acc⟩,hk,hal,hr⟩
 dsimp only at hk hal hr ⊢
 have hacc:(acc.map fun n:Nat=>ab n).length=acc.length:=by simp
 by_cases hlt:k < l.length
 ·obtain⟨x,hx⟩:=af hlt
  rw[fS hx]at hr
  by_cases h0:x.faa=0
  ·rw[if_pos h0]at hr
   repeat' ((conv=>whnf);first|refine Or.inl ?_|apply oi|(apply fi<;>intro h)|refine⟨k,x.tr,rfl,aa hx,?_⟩|refine⟨_,rfl,?_⟩|exact rfl)
   all_goals try exact⟨KO⟩
   all_goals try exact KX
   all_goals try(exfalso;(try simp_all[ae]);(try omega);done)
   all_goals try exact⟨⟨by simp;omega,by simp;omega⟩⟩
   conv=>whnf
   refine⟨⟨(k+1,acc++[k]),by dsimp only;omega,by simp;omega,by rw[←hr];simp⟩,?_,KD⟩
   repeat' ((conv=>whnf);first|refine Or.inl ?_|apply oi|(apply fi<;>intro h)|refine⟨_,rfl,?_⟩|exact rfl)
   all_goals try exact⟨KO⟩
   all_goals try exact⟨K2⟩
   all_goals exact⟨by simp[ab]⟩
  ·rw[if_neg h0,List.nil_append]at hr
   repeat' ((conv=>whnf);first|refine Or.inl ?_|apply oi|(apply fi<;>intro h)|refine⟨k,x.tr,rfl,aa hx,?_⟩|refine⟨_,rfl,?_⟩|exact rfl)
   all_goals try exact⟨KO⟩
   all_goals try exact KX
   all_goals try(exfalso;(try simp_all[ae]);(try omega);done)
   conv=>whnf
   refine⟨⟨(k+1,acc),by dsimp only;omega,by dsimp only;omega,hr⟩,?_,KD⟩
   repeat' ((conv=>whnf);first|refine Or.inl ?_|apply oi|(apply fi<;>intro h)|refine⟨_,rfl,?_⟩|exact rfl)
   all_goals try exact⟨KO⟩
   all_goals try exact⟨K2⟩
 ·rw[List.drop_eq_nil_of_le (by omega),bW,List.append_nil]at hr
  subst hr
  repeat' ((conv=>whnf);first|refine Or.inl ?_|apply oi|(apply fi<;>intro h)|refine⟨_,rfl,?_⟩|exact rfl)
  all_goals try exact⟨KO⟩
  all_goals try exact KX
theorem ir (l:List Ai)(hl:l.length≤1048576):Sim.Spec Try.prog 47 [tvP l] (rL 1 ((bx l).map fun n:Nat=>ab n)):=by
 refine ap hΓ au Try.func47 rfl (by decide) rfl ?_
 have hlen:(l.map Ai.tr).length=l.length:=by simp
 obtain⟨R,hR⟩:∃R,bx l=R:=⟨_,rfl⟩
 rw[hR]
 repeat' ((conv=>whnf);first|refine Or.inl ?_|apply oi|(apply fi<;>intro h)|refine⟨_,rfl,?_⟩|exact rfl)
 all_goals try exact⟨KO⟩
 conv=>whnf
 refine⟨{q:Nat×List Nat // q.1≤l.length∧q.2.length≤q.1∧q.2++bW (l.drop q.1) q.1=R},fun q=>⟨[(0,vP l),(3,.r (.c (.own (5,0,0)))),(4,tI .i64 (q.1.1:Int))],[((5,0,0),some (.arr true 1 (q.1.2.map fun n:Nat=>ab n)))],[5]⟩,fun q=>l.length - q.1.1,⟨(0,[]),by simp,by simp,by simpa [bx]using hR⟩,?_,?_⟩
 ·skip
  repeat' ((conv=>whnf);first|refine Or.inl ?_|apply oi|(apply fi<;>intro h)|refine⟨_,rfl,?_⟩|exact rfl)
  all_goals try exact⟨KO⟩
 intro⟨⟨k,acc⟩,hk,hal,hr⟩
 dsimp only at hk hal hr ⊢
 have hacc:(acc.map fun n:Nat=>ab n).length=acc.length:=by simp
 by_cases hlt:k < l.length
 ·obtain⟨x,hx⟩:=af hlt
  rw[fS hx]at hr
  by_cases h0:x.faa=0
  ·rw[if_pos h0]at hr
   repeat' ((conv=>whnf);first|refine Or.inl ?_|apply oi|(apply fi<;>intro h)|refine⟨k,x.tr,rfl,aa hx,?_⟩|refine⟨_,rfl,?_⟩|exact rfl)
   all_goals try exact⟨KO⟩
   all_goals try exact KX
   all_goals try(exfalso;(try simp_all[ae]);(try omega);done)
   all_goals try exact⟨⟨by simp;omega,by simp;omega⟩⟩
   conv=>whnf
   refine⟨⟨(k+1,acc++[k]),by dsimp only;omega,by simp;omega,by rw[←hr];simp⟩,?_,KD⟩
   repeat' ((conv=>whnf);first|refine Or.inl ?_|apply oi|(apply fi<;>intro h)|refine⟨_,rfl,?_⟩|exact rfl)
   all_goals try exact⟨KO⟩
   all_goals try exact⟨K2⟩
   all_goals exact⟨by simp[ab]⟩
  ·rw[if_neg h0,List.nil_append]at hr
   repeat' ((conv=>whnf);first|refine Or.inl ?_|apply oi|(apply fi<;>intro h)|refine⟨k,x.tr,rfl,aa hx,?_⟩|refine⟨_,rfl,?_⟩|exact rfl)
   all_goals try exact⟨KO⟩
   all_goals try exact KX
   all_goals try(exfalso;(try simp_all[ae]);(try omega);done)
   conv=>whnf
   refine⟨⟨(k+1,acc),by dsimp only;omega,by dsimp only;omega,hr⟩,?_,KD⟩
   repeat' ((conv=>whnf);first|refine Or.inl ?_|apply oi|(apply fi<;>intro h)|refine⟨_,rfl,?_⟩|exact rfl)
   all_goals try exact⟨KO⟩
   all_goals try exact⟨K2⟩
 ·rw[List.drop_eq_nil_of_le (by omega),bW,List.append_nil]at hr
  subst hr
  repeat' ((conv=>whnf);first|refine Or.inl ?_|apply oi|(apply fi<;>intro h)|refine⟨_,rfl,?_⟩|exact rfl)
  all_goals try exact⟨KO⟩
  all_goals try exact KX
theorem cL (l:List Ai)(s:List UInt8)(hl:l.length≤1048576):Sim.Spec Try.prog 67 [tvP l,tvS s] (rI (cA l s)):=by
 refine ap hΓ au Try.func67 rfl (by decide) rfl ?_
 have hlen:(l.map Ai.tr).length=l.length:=by simp
 obtain⟨R,hR⟩:∃R,cA l s=R:=⟨_,rfl⟩
 rw[hR]
 repeat' ((conv=>whnf);first|refine Or.inl ?_|apply oi|(apply fi<;>intro h)|refine⟨_,rfl,?_⟩|exact rfl)
 all_goals try exact⟨KO⟩
 conv=>whnf
 refine⟨{k:Nat // k≤l.length∧bM (findN (l.drop k) k s)=R},fun q=>⟨[(0,vP l),(1,tS s),(7,vP l),(8,tI .i64 ((l.map Ai.tr).length:Int)),(9,tI .i64 (q.1:Int))],[],[]⟩,fun q=>l.length - q.1,⟨0,by omega,hR⟩,?_,?_⟩
 ·skip
  repeat' ((conv=>whnf);first|refine Or.inl ?_|apply oi|(apply fi<;>intro h)|refine⟨_,rfl,?_⟩|exact rfl)
  all_goals try exact⟨KO⟩
 intro⟨k,hk,hr⟩
 dsimp only at hk hr ⊢
 by_cases hlt:k < l.length
 ·obtain⟨x,hx⟩:=af hlt
  rw[sG hx]at hr
  by_cases h0:x.faa=0∧x.fab=s
  ·rw[if_pos h0]at hr
   obtain⟨h1,h2⟩:=h0
   subst h2
   subst hr
   repeat' ((conv=>whnf);first|refine Or.inl ?_|apply oi|(apply fi<;>intro h)|refine⟨k,x.tr,rfl,aa hx,?_⟩|refine⟨_,rfl,?_⟩|exact rfl)
   all_goals try exact⟨KO⟩
   all_goals try exact KX
   all_goals try(exfalso;(try simp_all[ae]);(try omega);done)
  ·rw[if_neg h0]at hr
   repeat' ((conv=>whnf);first|refine Or.inl ?_|apply oi|(apply fi<;>intro h)|refine⟨k,x.tr,rfl,aa hx,?_⟩|refine⟨_,rfl,?_⟩|exact rfl)
   all_goals try exact⟨KO⟩
   all_goals try exact KX
   all_goals try(exfalso;apply h0;simp_all;done)
   all_goals
    conv=>whnf
    refine⟨⟨k+1,by omega,hr⟩,?_,KD⟩
    repeat' ((conv=>whnf);first|refine Or.inl ?_|apply oi|(apply fi<;>intro h)|refine⟨_,rfl,?_⟩|exact rfl)
    all_goals try exact⟨KO⟩
    all_goals try exact⟨K2⟩
 ·rw[List.drop_eq_nil_of_le (by omega),findN]at hr
  subst hr
  repeat' ((conv=>whnf);first|refine Or.inl ?_|apply oi|(apply fi<;>intro h)|refine⟨_,rfl,?_⟩|exact rfl)
  all_goals try exact⟨KO⟩
  all_goals try exact KX
theorem bO (l:List Ai)(s:List UInt8)(hl:l.length≤1048576):Sim.Spec Try.prog 49 [tvP l,tvS s] (rI (cA l s)):=by
 refine ap hΓ au Try.func49 rfl (by decide) rfl ?_
 have hlen:(l.map Ai.tr).length=l.length:=by simp
 obtain⟨R,hR⟩:∃R,cA l s=R:=⟨_,rfl⟩
 rw[hR]
 repeat' ((conv=>whnf);first|refine Or.inl ?_|apply oi|(apply fi<;>intro h)|refine⟨_,rfl,?_⟩|exact rfl)
 all_goals try exact⟨KO⟩
 conv=>whnf
 refine⟨{k:Nat // k≤l.length∧bM (findN (l.drop k) k s)=R},fun q=>⟨[(0,vP l),(1,tS s),(5,tI .i64 (q.1:Int))],[],[]⟩,fun q=>l.length - q.1,⟨0,by omega,hR⟩,?_,?_⟩
 ·skip
  repeat' ((conv=>whnf);first|refine Or.inl ?_|apply oi|(apply fi<;>intro h)|refine⟨_,rfl,?_⟩|exact rfl)
  all_goals try exact⟨KO⟩
 intro⟨k,hk,hr⟩
 dsimp only at hk hr ⊢
 by_cases hlt:k < l.length
 ·obtain⟨x,hx⟩:=af hlt
  rw[sG hx]at hr
  by_cases h0:x.faa=0∧x.fab=s
  ·rw[if_pos h0]at hr
   obtain⟨h1,h2⟩:=h0
   subst h2
   subst hr
   repeat' ((conv=>whnf);first|refine Or.inl ?_|apply oi|(apply fi<;>intro h)|refine⟨k,x.tr,rfl,aa hx,?_⟩|refine⟨_,rfl,?_⟩|exact rfl)
   all_goals try exact⟨KO⟩
   all_goals try exact KX
   all_goals try(exfalso;(try simp_all[ae]);(try omega);done)
  ·rw[if_neg h0]at hr
   repeat' ((conv=>whnf);first|refine Or.inl ?_|apply oi|(apply fi<;>intro h)|refine⟨k,x.tr,rfl,aa hx,?_⟩|refine⟨_,rfl,?_⟩|exact rfl)
   all_goals try exact⟨KO⟩
   all_goals try exact KX
   all_goals try(exfalso;apply h0;simp_all;done)
   all_goals
    conv=>whnf
    refine⟨⟨k+1,by omega,hr⟩,?_,KD⟩
    repeat' ((conv=>whnf);first|refine Or.inl ?_|apply oi|(apply fi<;>intro h)|refine⟨_,rfl,?_⟩|exact rfl)
    all_goals try exact⟨KO⟩
    all_goals try exact⟨K2⟩
 ·rw[List.drop_eq_nil_of_le (by omega),findN]at hr
  subst hr
  repeat' ((conv=>whnf);first|refine Or.inl ?_|apply oi|(apply fi<;>intro h)|refine⟨_,rfl,?_⟩|exact rfl)
  all_goals try exact⟨KO⟩
  all_goals try exact KX
abbrev rN (l:List (List UInt8)):Res:=rL 1 (l.map ah)
theorem mn {l:List Ai}{k e:Nat}{x:Ai}(hx:l[k]?=some x)(he:endAt l k=some e)(h0:x.faa=0):localsOf l (k:Int)=locN l e (e - k) k x.fad:=by
 rw[localsOf,if_pos (by omega),Int.toNat_natCast,hx,he]
 dsimp only
 rw[if_pos h0]
theorem dP {l:List Ai}{k:Int}(h:∀e x,endAt l k.toNat=some e→l[k.toNat]?=some x→0≤k→x.faa≠0):localsOf l k=[]:=by
 rw[localsOf]
 split
 ·split
  ·rename_i x e hx he
   rw[if_neg (h e x he hx (by assumption))]
  ·rfl
 ·rfl
theorem qc {l:List Ai}{k:Int}(hl:l.length≤1048576)(hs:∀x∈l,bI 1048576 x.tr):(localsOf l k).length≤2097152∧True:=by
 refine⟨?_,trivial⟩
 rw[localsOf]
 split
 ·split
  ·rename_i x e hx he
   obtain⟨_,_,_,_,h1,h2⟩:=aw he
   have:=(cb (hs x (List.mem_of_getElem? hx))).2.1
   split
   ·have:=rQ (l:=l) (e:=e) (e - k.toNat) k.toNat x.fad
    omega
   ·simp
  ·simp
 ·simp
theorem cS (l:List (List UInt8))(s:List UInt8)(hl:l.length≤2097152):Sim.Spec Try.prog 61 [tvL 1 (l.map ah),tvS s] (rI (dB l s)):=by
 refine ap hΓ au Try.func61 rfl (by decide) rfl ?_
 have hlen:(l.map ah).length=l.length:=by simp
 obtain⟨R,hR⟩:∃R,dB l s=R:=⟨_,rfl⟩
 rw[hR]
 repeat' ((conv=>whnf);first|refine Or.inl ?_|apply oi|(apply fi<;>intro h)|refine⟨_,rfl,?_⟩|exact rfl)
 all_goals try exact⟨KO⟩
 conv=>whnf
 refine⟨{k:Nat // k≤l.length∧bM (cW (l.drop k) k s)=R},fun k=>⟨[(0,.r (.c (.t (.lst 1 (l.map ah))))),(1,tS s),(5,tI .i64 (k.1:Int))],[],[]⟩,fun k=>l.length - k.1,⟨0,by omega,hR⟩,?_,?_⟩
 ·skip
  repeat' ((conv=>whnf);first|refine Or.inl ?_|apply oi|(apply fi<;>intro h)|refine⟨_,rfl,?_⟩|exact rfl)
  all_goals try exact⟨KO⟩
 intro⟨k,hk,hr⟩
 dsimp only at hk hr ⊢
 by_cases hlt:k < l.length
 ·obtain⟨x,hx⟩:=af hlt
  rw[rx hx]at hr
  cases he:(x==s)with
  | true=>
   rw[he,if_pos rfl]at hr
   have he2:=eq_of_beq he
   subst he2
   subst hr
   repeat' ((conv=>whnf);first|refine Or.inl ?_|apply oi|(apply fi<;>intro h)|refine⟨k,(ah x),rfl,aa hx,?_⟩|refine⟨_,rfl,?_⟩|exact rfl)
   all_goals try exact⟨KO⟩
   all_goals try exact KX
   all_goals try(exfalso;(try simp_all[ae]);(try omega);done)
  | false=>
   rw[he,if_neg (by simp)]at hr
   repeat' ((conv=>whnf);first|refine Or.inl ?_|apply oi|(apply fi<;>intro h)|refine⟨k,(ah x),rfl,aa hx,?_⟩|refine⟨_,rfl,?_⟩|exact rfl)
   all_goals try exact⟨KO⟩
   all_goals try exact KX
   all_goals try(exfalso;(try simp_all[ae]);(try omega);done)
   conv=>whnf
   refine⟨⟨k+1,by omega,hr⟩,?_,KD⟩
   repeat' ((conv=>whnf);first|refine Or.inl ?_|apply oi|(apply fi<;>intro h)|refine⟨_,rfl,?_⟩|exact rfl)
   all_goals try exact⟨KO⟩
   all_goals try exact⟨K2⟩
 ·rw[List.drop_eq_nil_of_le (by omega),cW]at hr
  subst hr
  repeat' ((conv=>whnf);first|refine Or.inl ?_|apply oi|(apply fi<;>intro h)|refine⟨_,rfl,?_⟩|exact rfl)
  all_goals try exact⟨KO⟩
  all_goals try exact KX
theorem mS (l:List Ai)(k:Int)(hl:l.length≤1048576)(hs:∀x∈l,bI 1048576 x.tr):Sim.Spec Try.prog 96 [tvP l,tvI k] (rN (localsOf l k)):=by
 refine ap hΓ au Try.func96 rfl (by decide) rfl ?_
 have hlen:(l.map Ai.tr).length=l.length:=by simp
 have hE:=bF l k hl
 by_cases h0:0≤k
 ·obtain⟨k,rfl⟩:=Int.eq_ofNat_of_zero_le h0
  rw[aG]at hE
  cases he:endAt l k with
  | none=>
   rw[eC he]at hE
   rw[dP (fun e x h1 _ _=>by rw[Int.toNat_natCast,he]at h1;cases h1)]
   repeat' ((conv=>whnf);first|refine Or.inl ?_|apply oi|(apply fi<;>intro h)|refine ci hE (ai rfl (ai rfl trivial)) ?_|refine⟨_,rfl,?_⟩|exact rfl)
   all_goals try exact⟨KO⟩
   all_goals try exact KX
  | some e=>
   rw[aK he]at hE
   obtain⟨x,hx,ho,_,hke,hel⟩:=aw he
   by_cases hk0:x.faa=0
   ·have hsm:=cb (hs x (List.mem_of_getElem? hx))
    rw[mn hx he hk0]
    obtain⟨R,hR⟩:∃R,locN l e (e - k) k x.fad=R:=⟨_,rfl⟩
    rw[hR]
    have hal:(x.fad.map ah).length=x.fad.length:=by simp
    repeat' ((conv=>whnf);first|refine Or.inl ?_|apply oi|(apply fi<;>intro h)|refine ci hE (ai rfl (ai rfl trivial)) ?_|refine⟨k,x.tr,rfl,aa hx,?_⟩|refine⟨_,rfl,?_⟩|exact rfl)
    all_goals try exact⟨KO⟩
    all_goals try exact KX
    all_goals try(exfalso;(try simp_all[ae]);(try omega);done)
    all_goals try exact⟨⟨by simp;omega,by simp;omega⟩⟩
    conv=>whnf
    refine⟨{q:Nat×List (List UInt8) // k≤q.1∧q.1≤e∧q.2.length≤1048576+q.1∧locN l e (e - q.1) q.1 q.2=R},fun q=>⟨[(0,vP l),(5,tI .i64 (e:Int)),(6,.r (.c (.own (6,0,0)))),(7,tI .i64 (q.1.1:Int))],[((6,0,0),some (.arr false 1 (q.1.2.map ah)))],[6]⟩,fun q=>e - q.1.1,⟨(k,x.fad),by dsimp only;omega,by dsimp only;omega,by dsimp only;omega,hR⟩,?_,?_⟩
    ·skip
     repeat' ((conv=>whnf);first|refine Or.inl ?_|apply oi|(apply fi<;>intro h)|refine⟨_,rfl,?_⟩|exact rfl)
     all_goals try exact⟨KO⟩
     all_goals exact⟨by simp⟩
    intro⟨⟨i,acc⟩,hki,hi,hac,hr⟩
    dsimp only at hki hi hac hr ⊢
    have hal2:(acc.map ah).length=acc.length:=by simp
    by_cases hlt:i < e
    ·obtain⟨y,hy⟩:=af (l:=l) (k:=i) (by omega)
     rw[pQ hlt hy]at hr
     have hC:=cT acc y.fab (by omega)
     by_cases h1:y.faa=1
     ·rw[if_pos h1]at hr
      unfold cI at hr
      cases hc:acc.contains y.fab with
      | true=>
       rw[hc]at hC hr
       rw[if_pos rfl]at hr
       repeat' ((conv=>whnf);first|refine Or.inl ?_|apply oi|(apply fi<;>intro h)|refine ci hC (ai rfl (ai rfl trivial)) ?_|refine⟨i,y.tr,rfl,aa hy,?_⟩|refine⟨_,rfl,?_⟩|exact rfl)
       all_goals try exact⟨KO⟩
       all_goals try exact KX
       all_goals try(exfalso;(try simp_all[ae]);(try omega);done)
       all_goals
        conv=>whnf
        refine⟨⟨(i+1,acc),by dsimp only;omega,by dsimp only;omega,by dsimp only;omega,hr⟩,?_,KD⟩
        repeat' ((conv=>whnf);first|refine Or.inl ?_|apply oi|(apply fi<;>intro h)|refine⟨_,rfl,?_⟩|exact rfl)
        all_goals try exact⟨KO⟩
        all_goals try exact⟨K2⟩
      | false=>
       rw[hc]at hC hr
       rw[if_neg (by simp)]at hr
       repeat' ((conv=>whnf);first|refine Or.inl ?_|apply oi|(apply fi<;>intro h)|refine ci hC (ai rfl (ai rfl trivial)) ?_|refine⟨i,y.tr,rfl,aa hy,?_⟩|refine⟨_,rfl,?_⟩|exact rfl)
       all_goals try exact⟨KO⟩
       all_goals try exact KX
       all_goals try(exfalso;(try simp_all[ae]);(try omega);done)
       all_goals try exact⟨⟨by simp;omega,by simp;omega⟩⟩
       all_goals
        conv=>whnf
        refine⟨⟨(i+1,acc++[y.fab]),by dsimp only;omega,by dsimp only;omega,by simp;omega,hr⟩,?_,KD⟩
        repeat' ((conv=>whnf);first|refine Or.inl ?_|apply oi|(apply fi<;>intro h)|refine⟨_,rfl,?_⟩|exact rfl)
        all_goals try exact⟨KO⟩
        all_goals try exact⟨K2⟩
        all_goals exact⟨by simp[ah]⟩
     ·rw[if_neg h1]at hr
      repeat' ((conv=>whnf);first|refine Or.inl ?_|apply oi|(apply fi<;>intro h)|refine ci hC (ai rfl (ai rfl trivial)) ?_|refine⟨i,y.tr,rfl,aa hy,?_⟩|refine⟨_,rfl,?_⟩|exact rfl)
      all_goals try exact⟨KO⟩
      all_goals try exact KX
      all_goals try(exfalso;(try simp_all[ae]);(try omega);done)
      all_goals try(exfalso;simp_all;done)
      conv=>whnf
      refine⟨⟨(i+1,acc),by dsimp only;omega,by dsimp only;omega,by dsimp only;omega,hr⟩,?_,KD⟩
      repeat' ((conv=>whnf);first|refine Or.inl ?_|apply oi|(apply fi<;>intro h)|refine⟨_,rfl,?_⟩|exact rfl)
      all_goals try exact⟨KO⟩
      all_goals try exact⟨K2⟩
    ·rw[rO (by omega)]at hr
     subst hr
     repeat' ((conv=>whnf);first|refine Or.inl ?_|apply oi|(apply fi<;>intro h)|refine⟨_,rfl,?_⟩|exact rfl)
     all_goals try exact⟨KO⟩
     all_goals try exact KX
     all_goals exact⟨⟨rfl,lA _⟩⟩
   ·rw[dP (fun e x' h1 h2 _=>by rw[Int.toNat_natCast,hx]at h2;injection h2 with h2;subst h2;exact hk0)]
    repeat' ((conv=>whnf);first|refine Or.inl ?_|apply oi|(apply fi<;>intro h)|refine ci hE (ai rfl (ai rfl trivial)) ?_|refine⟨k,x.tr,rfl,aa hx,?_⟩|refine⟨_,rfl,?_⟩|exact rfl)
    all_goals try exact⟨KO⟩
    all_goals try exact KX
    all_goals try(exfalso;(try simp_all[ae]);(try omega);done)
 ·have h1:bv l k= -1:=by rw[bv,if_neg h0]
  rw[h1]at hE
  rw[dP (fun e x _ _ h=>absurd h h0)]
  repeat' ((conv=>whnf);first|refine Or.inl ?_|apply oi|(apply fi<;>intro h)|refine ci hE (ai rfl (ai rfl trivial)) ?_|refine⟨_,rfl,?_⟩|exact rfl)
  all_goals try exact⟨KO⟩
  all_goals try exact KX
theorem gR (l:List Ai)(k:Int)(hl:l.length≤1048576)(hs:∀x∈l,bI 1048576 x.tr):Sim.Spec Try.prog 57 [tvP l,tvI k] (rN (localsOf l k)):=by
 refine ap hΓ au Try.func57 rfl (by decide) rfl ?_
 have hlen:(l.map Ai.tr).length=l.length:=by simp
 have hE:=bo l k hl
 by_cases h0:0≤k
 ·obtain⟨k,rfl⟩:=Int.eq_ofNat_of_zero_le h0
  rw[aG]at hE
  cases he:endAt l k with
  | none=>
   rw[eC he]at hE
   rw[dP (fun e x h1 _ _=>by rw[Int.toNat_natCast,he]at h1;cases h1)]
   repeat' ((conv=>whnf);first|refine Or.inl ?_|apply oi|(apply fi<;>intro h)|refine ci hE (ai rfl (ai rfl trivial)) ?_|refine⟨_,rfl,?_⟩|exact rfl)
   all_goals try exact⟨KO⟩
   all_goals try exact KX
  | some e=>
   rw[aK he]at hE
   obtain⟨x,hx,ho,_,hke,hel⟩:=aw he
   by_cases hk0:x.faa=0
   ·have hsm:=cb (hs x (List.mem_of_getElem? hx))
    rw[mn hx he hk0]
    obtain⟨R,hR⟩:∃R,locN l e (e - k) k x.fad=R:=⟨_,rfl⟩
    rw[hR]
    have hal:(x.fad.map ah).length=x.fad.length:=by simp
    repeat' ((conv=>whnf);first|refine Or.inl ?_|apply oi|(apply fi<;>intro h)|refine ci hE (ai rfl (ai rfl trivial)) ?_|refine⟨k,x.tr,rfl,aa hx,?_⟩|refine⟨_,rfl,?_⟩|exact rfl)
    all_goals try exact⟨KO⟩
    all_goals try exact KX
    all_goals try(exfalso;(try simp_all[ae]);(try omega);done)
    all_goals try exact⟨⟨by simp;omega,by simp;omega⟩⟩
    conv=>whnf
    refine⟨{q:Nat×List (List UInt8) // k≤q.1∧q.1≤e∧q.2.length≤1048576+q.1∧locN l e (e - q.1) q.1 q.2=R},fun q=>⟨[(0,vP l),(5,tI .i64 (e:Int)),(6,.r (.c (.own (6,0,0)))),(7,tI .i64 (q.1.1:Int))],[((6,0,0),some (.arr false 1 (q.1.2.map ah)))],[6]⟩,fun q=>e - q.1.1,⟨(k,x.fad),by dsimp only;omega,by dsimp only;omega,by dsimp only;omega,hR⟩,?_,?_⟩
    ·skip
     repeat' ((conv=>whnf);first|refine Or.inl ?_|apply oi|(apply fi<;>intro h)|refine⟨_,rfl,?_⟩|exact rfl)
     all_goals try exact⟨KO⟩
     all_goals exact⟨by simp⟩
    intro⟨⟨i,acc⟩,hki,hi,hac,hr⟩
    dsimp only at hki hi hac hr ⊢
    have hal2:(acc.map ah).length=acc.length:=by simp
    by_cases hlt:i < e
    ·obtain⟨y,hy⟩:=af (l:=l) (k:=i) (by omega)
     rw[pQ hlt hy]at hr
     have hC:=cS acc y.fab (by omega)
     by_cases h1:y.faa=1
     ·rw[if_pos h1]at hr
      have hix:=jc (l:=acc) (s:=y.fab)
      generalize dB acc y.fab=ix at *
      unfold cI at hr
      cases hc:acc.contains y.fab with
      | true=>
       rw[hc]at hix hr
       rw[if_pos rfl]at hr
       repeat' ((conv=>whnf);first|refine Or.inl ?_|apply oi|(apply fi<;>intro h)|refine ci hC (ai rfl (ai rfl trivial)) ?_|refine⟨i,y.tr,rfl,aa hy,?_⟩|refine⟨_,rfl,?_⟩|exact rfl)
       all_goals try exact⟨KO⟩
       all_goals try exact KX
       all_goals try(exfalso;(try simp_all[ae]);(try omega);done)
       all_goals
        conv=>whnf
        refine⟨⟨(i+1,acc),by dsimp only;omega,by dsimp only;omega,by dsimp only;omega,hr⟩,?_,KD⟩
        repeat' ((conv=>whnf);first|refine Or.inl ?_|apply oi|(apply fi<;>intro h)|refine⟨_,rfl,?_⟩|exact rfl)
        all_goals try exact⟨KO⟩
        all_goals try exact⟨K2⟩
      | false=>
       rw[hc]at hix hr
       rw[if_neg (by simp)]at hr
       repeat' ((conv=>whnf);first|refine Or.inl ?_|apply oi|(apply fi<;>intro h)|refine ci hC (ai rfl (ai rfl trivial)) ?_|refine⟨i,y.tr,rfl,aa hy,?_⟩|refine⟨_,rfl,?_⟩|exact rfl)
       all_goals try exact⟨KO⟩
       all_goals try exact KX
       all_goals try(exfalso;(try simp_all[ae]);(try omega);done)
       all_goals try exact⟨⟨by simp;omega,by simp;omega⟩⟩
       all_goals
        conv=>whnf
        refine⟨⟨(i+1,acc++[y.fab]),by dsimp only;omega,by dsimp only;omega,by simp;omega,hr⟩,?_,KD⟩
        repeat' ((conv=>whnf);first|refine Or.inl ?_|apply oi|(apply fi<;>intro h)|refine⟨_,rfl,?_⟩|exact rfl)
        all_goals try exact⟨KO⟩
        all_goals try exact⟨K2⟩
        all_goals exact⟨by simp[ah]⟩
     ·rw[if_neg h1]at hr
      repeat' ((conv=>whnf);first|refine Or.inl ?_|apply oi|(apply fi<;>intro h)|refine ci hC (ai rfl (ai rfl trivial)) ?_|refine⟨i,y.tr,rfl,aa hy,?_⟩|refine⟨_,rfl,?_⟩|exact rfl)
      all_goals try exact⟨KO⟩
      all_goals try exact KX
      all_goals try(exfalso;(try simp_all[ae]);(try omega);done)
      all_goals try(exfalso;simp_all;done)
      conv=>whnf
      refine⟨⟨(i+1,acc),by dsimp only;omega,by dsimp only;omega,by dsimp only;omega,hr⟩,?_,KD⟩
      repeat' ((conv=>whnf);first|refine Or.inl ?_|apply oi|(apply fi<;>intro h)|refine⟨_,rfl,?_⟩|exact rfl)
      all_goals try exact⟨KO⟩
      all_goals try exact⟨K2⟩
    ·rw[rO (by omega)]at hr
     subst hr
     repeat' ((conv=>whnf);first|refine Or.inl ?_|apply oi|(apply fi<;>intro h)|refine⟨_,rfl,?_⟩|exact rfl)
     all_goals try exact⟨KO⟩
     all_goals try exact KX
     all_goals exact⟨⟨rfl,lA _⟩⟩
   ·rw[dP (fun e x' h1 h2 _=>by rw[Int.toNat_natCast,hx]at h2;injection h2 with h2;subst h2;exact hk0)]
    repeat' ((conv=>whnf);first|refine Or.inl ?_|apply oi|(apply fi<;>intro h)|refine ci hE (ai rfl (ai rfl trivial)) ?_|refine⟨k,x.tr,rfl,aa hx,?_⟩|refine⟨_,rfl,?_⟩|exact rfl)
    all_goals try exact⟨KO⟩
    all_goals try exact KX
    all_goals try(exfalso;(try simp_all[ae]);(try omega);done)
 ·have h1:bv l k= -1:=by rw[bv,if_neg h0]
  rw[h1]at hE
  rw[dP (fun e x _ _ h=>absurd h h0)]
  repeat' ((conv=>whnf);first|refine Or.inl ?_|apply oi|(apply fi<;>intro h)|refine ci hE (ai rfl (ai rfl trivial)) ?_|refine⟨_,rfl,?_⟩|exact rfl)
  all_goals try exact⟨KO⟩
  all_goals try exact KX
end Go.Proofs.Ytjmplnfiabmalaa
