import Derived.Test.YtoglejgmjeojoaaGreatGd
import Derived.Test.YtoglejgmjeojoaaGreatRows
set_option maxRecDepth 100000
set_option maxHeartbeats 0
namespace Go.Sim
theorem K1 {p:Prop}(h:False:=by simp at *;omega):p:=h.elim
theorem K2 {p:Prop}(h:p:=by dsimp only;rw[c8 _ (by omega)];rfl):p:=h
theorem K3 {p:Prop}(h:False:=by simp(disch:=omega)only[c8]at *;simp only[w5]at *;omega):p:=h.elim
theorem K4 {p:Prop}(h:False:=by simp only[w5]at *;omega):p:=h.elim
theorem K5 {p:Prop}(h:p:=by simp<;>omega):p:=h
theorem K6 {p:Prop}(h:p:=by rw[c8 _ (by omega)];rfl):p:=h
theorem K7 {p:Prop}(h:p:=by rw[c8 _ (by omega)];omega):p:=h
theorem K8 {k:IntKind}{a b:Int}(h:a=b:=by dsimp only;rw[c8 _ (by omega)];omega):Tr.int k a=Tr.int k b:=congrArg (Tr.int k) h
theorem K9 {p:Prop}(h:p:=by rw[c7];omega):p:=h
theorem KD {p:Prop}(h:p:=by dsimp only;omega):p:=h
theorem Y1{p:Prop}(h:p:=by first|rfl|exact⟨KO⟩):p:=h
theorem Y2{p:Prop}(h:p:=by first|rfl|exact⟨KO⟩|exact KX):p:=h
theorem Y3{p:Prop}(h:p:=by first|rfl|exact⟨KO⟩|exact KX|exact K1):p:=h
theorem Y4{p:Prop}(h:p:=by first|rfl|exact⟨KO⟩|exact⟨K2⟩):p:=h
theorem Y5{p:Prop}(h:p:=by first|rfl|exact⟨KO⟩|exact⟨K5⟩):p:=h
theorem Y6{p:Prop}(h:p:=by first|rfl|exact⟨KP⟩|exact KX):p:=h
theorem Y7{p:Prop}(h:p:=by first|rfl|exact⟨KP⟩|exact⟨K2⟩):p:=h
theorem Y8{p:Prop}(h:p:=by first|rfl|exact⟨KP⟩):p:=h
theorem Y9{p:Prop}(h:p:=by first|rfl|exact⟨KP⟩|exact⟨KW⟩):p:=h
theorem Y10{p:Prop}(h:p:=by first|rfl|exact⟨KP⟩|exact KX|exact⟨KW⟩|exact KK):p:=h
theorem Y11{p:Prop}(h:p:=by first|rfl|exact⟨KP⟩|exact KX|exact KK):p:=h
theorem Y12{p:Prop}(h:p:=by first|rfl|exact⟨KP⟩|exact KX|exact⟨KW⟩):p:=h
theorem Y13{p:Prop}(h:p:=by first|rfl|exact⟨KP⟩|exact⟨KW⟩|exact KN):p:=h
theorem Y14{p:Prop}(h:p:=by first|rfl|exact⟨KO⟩|exact KX|exact⟨K7⟩):p:=h
theorem Y15{p:Prop}(h:p:=by first|rfl|exact⟨KP⟩|exact KK):p:=h
theorem Y16{p:Prop}(h:p:=by first|rfl|exact⟨KP⟩|exact⟨K8⟩):p:=h
theorem Y17{p:Prop}(h:p:=by first|rfl|exact⟨KO⟩|exact K1):p:=h
theorem Y18{p:Prop}(h:p:=by first|rfl|exact⟨KR⟩):p:=h
theorem Y19{p:Prop}(h:p:=by first|rfl|exact⟨KP⟩|exact KX|exact⟨K9⟩):p:=h
theorem Z1{p:Prop}(h:p:=by(repeat' ((conv=>whnf);first|refine Or.inl ?_|apply oi|apply fi|intro h|exact Y1|refine e_ rfl ?_));skip):p:=h
theorem Z2{p:Prop}(h:p:=by(repeat' ((conv=>whnf);first|apply Wx|apply W6|apply oi|apply fi|intro h|exact Y8|refine e_ rfl ?_));skip):p:=h
theorem Z3{p:Prop}(h:p:=by(repeat' ((conv=>whnf);first|refine Or.inl ?_|apply oi|apply fi|intro h|exact Y4|refine e_ rfl ?_));skip):p:=h
theorem Z4{p:Prop}(h:p:=by(repeat' ((conv=>whnf);first|refine Or.inl ?_|apply oi|apply fi|intro h|exact Y2|refine e_ rfl ?_));skip):p:=h
theorem Z5{p:Prop}(h:p:=by(repeat' ((conv=>whnf);first|apply Wx|apply W6|apply oi|apply fi|intro h|exact Y9|refine e_ rfl ?_));skip):p:=h
theorem Z6{p:Prop}(h:p:=by(repeat' ((conv=>whnf);first|apply Wx|apply W6|apply oi|apply fi|intro h|exact Y6|refine e_ rfl ?_));skip):p:=h
theorem Z7{p:Prop}(h:p:=by(repeat' ((conv=>whnf);first|apply Wx|apply W6|apply oi|apply fi|intro h|exact Y7|refine e_ rfl ?_));skip):p:=h
end Go.Sim
namespace Go.Proofs.P
open Go.Sim Tryz
abbrev e0 := AC.t (Tr.int Go.IntKind.i64 (Int.ofNat 0))
abbrev e1 := AC.t (Tr.bool false)
abbrev e2 := AC.t (Tr.str [])
abbrev e3 := AC.nils 0
abbrev e4 (s b : Nat) (z : List AC) : Qp := {size:=s,bytes:=b,agg:=true,zero:=z}
abbrev e5 (s b : Nat) (z : List AC) : Qp := {size:=s,bytes:=b,agg:=false,zero:=z}
def Γ:Env:=[(2,{size:=1,bytes:=8,agg:=false,zero:=[e0],kind:=some Go.IntKind.i64}),
(3,{size:=1,bytes:=8,agg:=false,zero:=[e0],kind:=some Go.IntKind.i64}),
(4,{size:=1,bytes:=1,agg:=false,zero:=[e1],bool:=true}),
(5,{size:=1,bytes:=1,agg:=false,zero:=[AC.t (Tr.int Go.IntKind.u8 (Int.ofNat 0))],kind:=some Go.IntKind.u8}),
(6,{size:=1,bytes:=1,agg:=false,zero:=[AC.t (Tr.int Go.IntKind.u8 (Int.ofNat 0))],kind:=some Go.IntKind.u8}),
(7,{size:=4,bytes:=24,agg:=true,zero:=[e0,e0,e1,AC.t (Tr.int Go.IntKind.u8 (Int.ofNat 0))],fields:=[(0,1,2),(1,1,3),(2,1,4),(3,1,6)]}),
(8,{size:=4,bytes:=24,agg:=true,zero:=[e0,e0,e1,AC.t (Tr.int Go.IntKind.u8 (Int.ofNat 0))],fields:=[(0,1,2),(1,1,3),(2,1,4),(3,1,6)]}),
(9,{size:=1,bytes:=16,agg:=false,zero:=[e2],str:=true}),
(10,{size:=1,bytes:=16,agg:=false,zero:=[e2],str:=true}),
(11,{size:=1,bytes:=16,agg:=false,zero:=[e2],str:=true}),
(15,e5 1 8 [AC.nilp]),
(16,e5 1 8 [AC.nilp]),
(17,e5 1 8 [AC.nilp]),
(18,{size:=1,bytes:=8,agg:=true,zero:=[AC.nilp],fields:=[(0,1,17)]}),
(19,{size:=1,bytes:=8,agg:=true,zero:=[AC.nilp],fields:=[(0,1,17)]}),
(20,e5 1 16 [AC.opq]),
(21,{size:=1,bytes:=4,agg:=false,zero:=[AC.t (Tr.int Go.IntKind.i32 (Int.ofNat 0))],kind:=some Go.IntKind.i32}),
(22,{size:=1,bytes:=24,agg:=false,zero:=[e3],elem:=some 5}),
(24,{size:=1,bytes:=24,agg:=false,zero:=[e3],elem:=some 138}),
(25,{size:=4,bytes:=24,agg:=true,zero:=[e0,e0,e1,e1],fields:=[(0,1,3),(1,1,3),(2,1,4),(3,1,4)]}),
(26,{size:=4,bytes:=24,agg:=true,zero:=[e0,e0,e1,e1],fields:=[(0,1,3),(1,1,3),(2,1,4),(3,1,4)]}),
(27,{size:=1,bytes:=24,agg:=false,zero:=[e3],elem:=some 93}),
(28,{size:=1,bytes:=24,agg:=false,zero:=[e3],elem:=some 3}),
(29,{size:=3,bytes:=72,agg:=true,zero:=[e3,e3,e3],fields:=[(0,1,27),(1,1,28),(2,1,28)]}),
(30,{size:=3,bytes:=72,agg:=true,zero:=[e3,e3,e3],fields:=[(0,1,27),(1,1,28),(2,1,28)]}),
(33,{size:=1,bytes:=24,agg:=false,zero:=[e3],elem:=some 118}),
(35,{size:=1,bytes:=24,agg:=false,zero:=[e3],elem:=some 103}),
(37,{size:=1,bytes:=24,agg:=false,zero:=[e3],elem:=some 33}),
(38,{size:=7,bytes:=88,agg:=true,zero:=[e0,e0,e0,e3,e3,e0,e0],fields:=[(0,1,3),(1,1,3),(2,1,3),(3,1,28),(4,1,28),(5,1,3),(6,1,3)]}),
(39,{size:=7,bytes:=88,agg:=true,zero:=[e0,e0,e0,e3,e3,e0,e0],fields:=[(0,1,3),(1,1,3),(2,1,3),(3,1,28),(4,1,28),(5,1,3),(6,1,3)]}),
(44,{size:=4,bytes:=48,agg:=true,zero:=[e0,e0,e0,e3],fields:=[(0,1,3),(1,1,3),(2,1,3),(3,1,28)]}),
(45,{size:=4,bytes:=48,agg:=true,zero:=[e0,e0,e0,e3],fields:=[(0,1,3),(1,1,3),(2,1,3),(3,1,28)]}),
(47,{size:=2,bytes:=16,agg:=true,zero:=[e0,e0],fields:=[(0,1,3),(1,1,3)]}),
(48,{size:=2,bytes:=16,agg:=true,zero:=[e0,e0],fields:=[(0,1,3),(1,1,3)]}),
(59,{size:=1,bytes:=24,agg:=false,zero:=[e3],elem:=some 135}),
(60,{size:=4,bytes:=24,agg:=true,zero:=[e0,e0,e1,e1],fields:=[(0,1,3),(1,1,3),(2,1,4),(3,1,4)]}),
(76,{size:=1,bytes:=24,agg:=false,zero:=[e3],elem:=some 28}),
(77,{size:=4,bytes:=64,agg:=true,zero:=[e3,e3,e0,e0],fields:=[(0,1,28),(1,1,76),(2,1,3),(3,1,3)]}),
(78,{size:=4,bytes:=64,agg:=true,zero:=[e3,e3,e0,e0],fields:=[(0,1,28),(1,1,76),(2,1,3),(3,1,3)]}),
(82,{size:=1,bytes:=24,agg:=false,zero:=[e3],elem:=some 111}),
(83,{size:=1,bytes:=24,agg:=false,zero:=[e3],elem:=some 186}),
(84,{size:=1,bytes:=24,agg:=false,zero:=[e3],elem:=some 192}),
(85,{size:=5,bytes:=104,agg:=true,zero:=[e0,e3,e3,e3,e3],fields:=[(0,1,3),(1,1,82),(2,1,33),(3,1,83),(4,1,84)]}),
(86,{size:=5,bytes:=104,agg:=true,zero:=[e0,e3,e3,e3,e3],fields:=[(0,1,3),(1,1,82),(2,1,33),(3,1,83),(4,1,84)]}),
(92,{size:=2,bytes:=40,agg:=true,zero:=[e2,e3],fields:=[(0,1,9),(1,1,82)]}),
(93,{size:=2,bytes:=40,agg:=true,zero:=[e2,e3],fields:=[(0,1,9),(1,1,82)]}),
(100,{size:=7,bytes:=72,agg:=true,zero:=[e0,e0,e0,e1,e3,e0,e1],fields:=[(0,2,48),(2,1,3),(3,1,4),(4,1,28),(5,1,3),(6,1,4)]}),
(101,{size:=7,bytes:=72,agg:=true,zero:=[e0,e0,e0,e1,e3,e0,e1],fields:=[(0,2,48),(2,1,3),(3,1,4),(4,1,28),(5,1,3),(6,1,4)]}),
(102,{size:=8,bytes:=80,agg:=true,zero:=[e0,e0,e0,e0,e1,e3,e0,e1],fields:=[(0,1,3),(1,7,101)]}),
(103,{size:=8,bytes:=80,agg:=true,zero:=[e0,e0,e0,e0,e1,e3,e0,e1],fields:=[(0,1,3),(1,7,101)]}),
(104,{size:=1,bytes:=24,agg:=false,zero:=[e3],elem:=some 108}),
(107,{size:=2,bytes:=24,agg:=true,zero:=[e2,e0],fields:=[(0,1,9),(1,1,3)]}),
(108,{size:=2,bytes:=24,agg:=true,zero:=[e2,e0],fields:=[(0,1,9),(1,1,3)]}),
(110,{size:=3,bytes:=32,agg:=true,zero:=[e2,e0,e0],fields:=[(0,1,9),(1,1,3),(2,1,3)]}),
(111,{size:=3,bytes:=32,agg:=true,zero:=[e2,e0,e0],fields:=[(0,1,9),(1,1,3),(2,1,3)]}),
(113,e5 1 8 [AC.nilp]),
(117,{size:=4,bytes:=32,agg:=true,zero:=[e0,e0,e1,e0],fields:=[(0,1,3),(1,1,3),(2,1,4),(3,1,3)]}),
(118,{size:=4,bytes:=32,agg:=true,zero:=[e0,e0,e1,e0],fields:=[(0,1,3),(1,1,3),(2,1,4),(3,1,3)]}),
(123,{size:=1,bytes:=24,agg:=false,zero:=[e3],elem:=some 101}),
(132,{size:=1,bytes:=24,agg:=false,zero:=[e3],elem:=some 9}),
(133,{size:=1,bytes:=24,agg:=false,zero:=[e3],elem:=some 265}),
(134,{size:=4,bytes:=72,agg:=true,zero:=[e0,e2,e3,e3],fields:=[(0,1,3),(1,1,9),(2,1,132),(3,1,133)]}),
(135,{size:=4,bytes:=72,agg:=true,zero:=[e0,e2,e3,e3],fields:=[(0,1,3),(1,1,9),(2,1,132),(3,1,133)]}),
(136,{size:=1,bytes:=24,agg:=false,zero:=[e3],elem:=some 221}),
(137,{size:=4,bytes:=72,agg:=true,zero:=[e0,e2,e3,e3],fields:=[(0,1,3),(1,1,9),(2,1,132),(3,1,136)]}),
(138,{size:=4,bytes:=72,agg:=true,zero:=[e0,e2,e3,e3],fields:=[(0,1,3),(1,1,9),(2,1,132),(3,1,136)]}),
(140,{size:=1,bytes:=24,agg:=false,zero:=[e3],elem:=some 35}),
(153,e5 1 8 [AC.nilp]),
(154,{size:=7,bytes:=120,agg:=true,zero:=[e3,e0,e3,e3,e0,e0,e3],fields:=[(0,1,24),(1,1,3),(2,4,78),(6,1,28)]}),
(155,{size:=7,bytes:=120,agg:=true,zero:=[e3,e0,e3,e3,e0,e0,e3],fields:=[(0,1,24),(1,1,3),(2,4,78),(6,1,28)]}),
(169,e5 1 8 [AC.nilp]),
(170,{size:=3,bytes:=32,agg:=true,zero:=[e2,e0,e1],fields:=[(0,1,9),(1,1,3),(2,1,4)]}),
(171,{size:=3,bytes:=32,agg:=true,zero:=[e2,e0,e1],fields:=[(0,1,9),(1,1,3),(2,1,4)]}),
(185,{size:=3,bytes:=24,agg:=true,zero:=[e0,e0,e1],fields:=[(0,1,3),(1,1,3),(2,1,4)]}),
(186,{size:=3,bytes:=24,agg:=true,zero:=[e0,e0,e1],fields:=[(0,1,3),(1,1,3),(2,1,4)]}),
(191,{size:=5,bytes:=48,agg:=true,zero:=[e0,e0,e0,e0,e2],fields:=[(0,1,3),(1,1,3),(2,1,3),(3,1,3),(4,1,9)]}),
(192,{size:=5,bytes:=48,agg:=true,zero:=[e0,e0,e0,e0,e2],fields:=[(0,1,3),(1,1,3),(2,1,3),(3,1,3),(4,1,9)]}),
(195,{size:=3,bytes:=40,agg:=true,zero:=[e3,e0,e0],fields:=[(0,1,22),(1,1,3),(2,1,3)]}),
(196,{size:=3,bytes:=40,agg:=true,zero:=[e3,e0,e0],fields:=[(0,1,22),(1,1,3),(2,1,3)]}),
(207,e5 1 8 [AC.nilp]),
(208,{size:=8,bytes:=96,agg:=true,zero:=[e0,e0,e0,e3,e3,e0,e0,e1],fields:=[(0,7,39),(7,1,4)]}),
(209,{size:=8,bytes:=96,agg:=true,zero:=[e0,e0,e0,e3,e3,e0,e0,e1],fields:=[(0,7,39),(7,1,4)]}),
(220,{size:=3,bytes:=32,agg:=true,zero:=[e0,e0,e2],fields:=[(0,1,3),(1,1,3),(2,1,9)]}),
(221,{size:=3,bytes:=32,agg:=true,zero:=[e0,e0,e2],fields:=[(0,1,3),(1,1,3),(2,1,9)]}),
(230,e5 1 8 [AC.nilp]),
(231,e5 1 8 [AC.nilp]),
(232,{size:=2,bytes:=16,agg:=true,zero:=[AC.nilp,e1],fields:=[(0,1,231),(1,1,4)]}),
(233,{size:=2,bytes:=16,agg:=true,zero:=[AC.nilp,e1],fields:=[(0,1,231),(1,1,4)]}),
(250,e5 1 8 [AC.nilp]),
(251,{size:=1,bytes:=24,agg:=false,zero:=[e3],elem:=some 255}),
(252,{size:=13,bytes:=144,agg:=true,zero:=[e3,e0,e0,e1,e1,e1,e0,e0,e0,e0,e3,e3,e1],fields:=[(0,1,24),(1,4,26),(5,1,4),(6,1,3),(7,1,3),(8,1,3),(9,1,3),(10,1,123),(11,1,251),(12,1,4)]}),
(253,{size:=13,bytes:=144,agg:=true,zero:=[e3,e0,e0,e1,e1,e1,e0,e0,e0,e0,e3,e3,e1],fields:=[(0,1,24),(1,4,26),(5,1,4),(6,1,3),(7,1,3),(8,1,3),(9,1,3),(10,1,123),(11,1,251),(12,1,4)]}),
(254,{size:=6,bytes:=96,agg:=true,zero:=[e0,e3,e3,e0,e1,e3],fields:=[(0,1,3),(1,1,28),(2,1,132),(3,1,3),(4,1,4),(5,1,28)]}),
(255,{size:=6,bytes:=96,agg:=true,zero:=[e0,e3,e3,e0,e1,e3],fields:=[(0,1,3),(1,1,28),(2,1,132),(3,1,3),(4,1,4),(5,1,28)]}),
(257,{size:=1,bytes:=24,agg:=false,zero:=[e3],elem:=some 48}),
(265,{size:=3,bytes:=32,agg:=true,zero:=[e0,e0,e2],fields:=[(0,1,3),(1,1,3),(2,1,9)]}),
(272,e5 1 8 [AC.nilp]),
(273,{size:=4,bytes:=80,agg:=true,zero:=[AC.nilp,e3,e3,e3],fields:=[(0,1,113),(1,1,132),(2,1,132),(3,1,28)]}),
(274,{size:=4,bytes:=80,agg:=true,zero:=[AC.nilp,e3,e3,e3],fields:=[(0,1,113),(1,1,132),(2,1,132),(3,1,28)]}),
(280,{size:=1,bytes:=24,agg:=false,zero:=[e3],elem:=some 283}),
(282,{size:=2,bytes:=16,agg:=true,zero:=[e0,e0],fields:=[(0,1,3),(1,1,3)]}),
(283,{size:=2,bytes:=16,agg:=true,zero:=[e0,e0],fields:=[(0,1,3),(1,1,3)]}),
(287,e5 1 8 [AC.nilp]),
(288,{size:=11,bytes:=128,agg:=true,zero:=[e3,e0,e0,e1,e1,e1,e0,e0,e3,e0,e3],fields:=[(0,1,24),(1,4,26),(5,1,4),(6,1,3),(7,1,3),(8,1,123),(9,1,3),(10,1,28)]}),
(289,{size:=11,bytes:=128,agg:=true,zero:=[e3,e0,e0,e1,e1,e1,e0,e0,e3,e0,e3],fields:=[(0,1,24),(1,4,26),(5,1,4),(6,1,3),(7,1,3),(8,1,123),(9,1,3),(10,1,28)]}),
(290,e5 1 8 [AC.nilp]),
(291,{size:=8,bytes:=112,agg:=true,zero:=[e0,e0,e3,e0,e0,e3,e0,e3],fields:=[(0,1,3),(1,1,3),(2,1,132),(3,1,3),(4,1,3),(5,1,28),(6,1,3),(7,1,28)]}),
(292,{size:=8,bytes:=112,agg:=true,zero:=[e0,e0,e3,e0,e0,e3,e0,e3],fields:=[(0,1,3),(1,1,3),(2,1,132),(3,1,3),(4,1,3),(5,1,28),(6,1,3),(7,1,28)]}),
(299,e5 1 8 [AC.nilp]),
(303,{size:=1,bytes:=8,agg:=false,zero:=[AC.opq],map:=some (some Go.IntKind.i64)}),
(308,{size:=1,bytes:=4,agg:=false,zero:=[AC.t (Tr.int Go.IntKind.u32 (Int.ofNat 0))],kind:=some Go.IntKind.u32}),
(309,{size:=1,bytes:=24,agg:=false,zero:=[e3],elem:=some 136}),
(313,{size:=4,bytes:=40,agg:=true,zero:=[AC.nilp,AC.nilp,AC.nilp,e2],fields:=[(0,1,17),(1,1,17),(2,1,17),(3,1,9)]}),
(314,{size:=4,bytes:=40,agg:=true,zero:=[AC.nilp,AC.nilp,AC.nilp,e2],fields:=[(0,1,17),(1,1,17),(2,1,17),(3,1,9)]}),
(318,{size:=1,bytes:=1,agg:=false,zero:=[AC.t (Tr.int Go.IntKind.u8 (Int.ofNat 0))],kind:=some Go.IntKind.u8}),
(319,{size:=1,bytes:=1,agg:=false,zero:=[AC.t (Tr.int Go.IntKind.u8 (Int.ofNat 0))],kind:=some Go.IntKind.u8}),
(321,e5 1 8 [AC.nilp]),
(322,{size:=1,bytes:=4,agg:=false,zero:=[AC.t (Tr.int Go.IntKind.i32 (Int.ofNat 0))],kind:=some Go.IntKind.i32}),
(323,{size:=1,bytes:=4,agg:=false,zero:=[AC.t (Tr.int Go.IntKind.i32 (Int.ofNat 0))],kind:=some Go.IntKind.i32}),
(326,e5 1 8 [AC.nilp])]
theorem hΓ:Γ.chk prog=true:=by kernel_rfl
theorem aF:prog.follows .mixedOrders=true:=by kernel_rfl
end Go.Proofs.P
namespace Go.Proofs.P
open Go.Sim Tryz Go.ChangeShapes Go.WideShapes Go.ChangeAt Go.RowKit
theorem own:ownKnob prog.godebug=none:=by kernel_rfl
theorem Om:laidOutB prog=true:=by kernel_rfl
theorem Gt {α:Type}{g:α->List Tr}{Q:α->Prop}:∀{rows:List (List Tr)},(∀r∈rows,∃m,r=g m/\Q m)->∃ns:List α,rows=ns.map g/\∀m∈ns,Q m
 | [],_=>⟨[],rfl,fun _ h=>by cases h⟩
 | r::rows,h=>by
  obtain⟨m,rfl,hm⟩:=h r s_;obtain⟨ns,rfl,Xw⟩:=Gt (rows:=rows) fun r hr=>h r aaX
  exact⟨m::ns,rfl,fun x hx=>by
   rcases d8.1 hx with rfl|hx
   ·exact hm
   ·exact Xw x hx⟩
end Go.Proofs.P
namespace Go.Proofs.P
open Go.Sim Tryz
abbrev tvI (n:Int):TV:= .c (.int .i64 n)
abbrev tvS (n:List UInt8):TV:= .c (.str n)
abbrev rI (n:Int):Res:= .r (.c (.t (.int .i64 n)))
abbrev rB (b:Bool):Res:= .r (.c (.t (.bool b)))
abbrev rS (b:List UInt8):Res:= .r (.c (.t (.str b)))
def af (n lo hi:Int):Bool:=decide (lo<=n)&&decide (n<=hi)
theorem within_iff {n lo hi:Int}:af n lo hi=true↔lo<=n/\n<=hi:=by simp[af]
set_option maxRecDepth 100000
theorem V100{p:Prop}(h:p:=by
 repeat' ((conv=>whnf);first|refine Or.inl ?_|apply oi|apply fi|intro h|exact Y1|refine e_ rfl ?_)
 all_goals refine⟨?_⟩
 all_goals simp_all[af]
 all_goals omega):p:=h
theorem aN (n lo hi:Int):Sim.Spec prog 74 [tvI n,tvI lo,tvI hi] (rB (af n lo hi)):=by refine az hΓ aF func74 rfl d_ rfl ?_;exact V100
theorem bz (n lo hi:Int):Sim.Spec prog 61 [tvI n,tvI lo,tvI hi] (rB (af n lo hi)):=by refine az hΓ aF func61 rfl d_ rfl ?_;exact V100
def signed (n:Int):Int:=if af n 0 1099511627775 then(if n%2=1 then -((n+1)/2)else n/2)else 0
end Go.Proofs.P
namespace Go.Proofs.P
open Go.Sim Tryz
set_option maxRecDepth 100000
def PP (n:Nat):List UInt8:=if n<=127 then [UInt8.ofNat n]else UInt8.ofNat (n%128+128)::PP (n/128)
 termination_by n
 decreasing_by omega
def enc (n:Int):List UInt8:=if af n 0 1099511627775 then PP n.toNat else []
end Go.Proofs.P
namespace Go.Proofs.P
open Go.Sim Tryz Go.RowKit
def inI (n:Int):Prop:= -9223372036854775808<=n/\n<=9223372036854775807
def aa (n:Int):List Tr:=[.int .i64 n]
def ah (s:List UInt8):List Tr:=[.str s]
def Lt {α:Type}(sz:Nat)(g:α->List Tr)(l:List α):List Tr:=[.lst sz (l.map g)]
structure Qv where
 J5:Int
 L2:Int
def Qv.tr (x:Qv):List Tr:=[.int .i64 x.J5,.int .i64 x.L2]
def Qv.wf (x:Qv):Prop:=inI x.J5/\inI x.L2
structure QC where
 J0:Int
 M1:Int
 J7:List UInt8
def QC.tr (x:QC):List Tr:=[.int .i64 x.J0,.int .i64 x.M1,.str x.J7]
def QC.wf (x:QC):Prop:=inI x.J0/\inI x.M1/\x.J7.length<=maxLen
structure Qt where
 J0:Int
 J7:List UInt8
 L3:List (List UInt8)
 L0:List QC
def Qt.tr (x:Qt):List Tr:=[.int .i64 x.J0,.str x.J7,.lst 1 (x.L3.map ah),.lst 3 (x.L0.map QC.tr)]
def Qt.wf (x:Qt):Prop:=inI x.J0/\x.J7.length<=maxLen/\(x.L3.length<=maxLen/\∀y∈x.L3,y.length<=maxLen)/\(x.L0.length<=maxLen/\∀y∈x.L0,y.wf)
structure Ql where
 N3:Int
 M0:Int
 N9:Bool
 N4:Bool
def Ql.tr (x:Ql):List Tr:=[.int .i64 x.N3,.int .i64 x.M0,.bool x.N9,.bool x.N4]
def Ql.wf (x:Ql):Prop:=inI x.N3/\inI x.M0
structure Qs where
 K0:Qv
 M8:Int
 L7:Bool
 N0:List Int
 M6:Int
 N2:Bool
def Qs.tr (x:Qs):List Tr:=[.int .i64 x.K0.J5,.int .i64 x.K0.L2,.int .i64 x.M8,.bool x.L7,.lst 1 (x.N0.map aa),.int .i64 x.M6,.bool x.N2]
def Qs.wf (x:Qs):Prop:=x.K0.wf/\inI x.M8/\(x.N0.length<=maxLen/\∀y∈x.N0,inI y)/\inI x.M6
structure QB where
 J7:List UInt8
 L7:Int
 M9:Int
def QB.tr (x:QB):List Tr:=[.str x.J7,.int .i64 x.L7,.int .i64 x.M9]
def QB.wf (x:QB):Prop:=x.J7.length<=maxLen/\inI x.L7/\inI x.M9
structure Qq where
 J5:List UInt8
 L4:List QB
def Qq.tr (x:Qq):List Tr:=[.str x.J5,.lst 3 (x.L4.map QB.tr)]
def Qq.wf (x:Qq):Prop:=x.J5.length<=maxLen/\(x.L4.length<=maxLen/\∀y∈x.L4,y.wf)
structure QA where
 N6:List Qq
 O0:List Int
 M2:List Int
def QA.tr (x:QA):List Tr:=[.lst 2 (x.N6.map Qq.tr),.lst 1 (x.O0.map aa),.lst 1 (x.M2.map aa)]
def QA.wf (x:QA):Prop:=(x.N6.length<=maxLen/\∀y∈x.N6,y.wf)/\(x.O0.length<=maxLen/\∀y∈x.O0,inI y)/\(x.M2.length<=maxLen/\∀y∈x.M2,inI y)
structure Qu where
 M4:Int
 L8:Int
 M3:Int
 M5:List Int
 L6:List Int
 L9:Int
 N8:Int
def Qu.tr (x:Qu):List Tr:=[.int .i64 x.M4,.int .i64 x.L8,.int .i64 x.M3,.lst 1 (x.M5.map aa),.lst 1 (x.L6.map aa),.int .i64 x.L9,.int .i64 x.N8]
def Qu.wf (x:Qu):Prop:=inI x.M4/\inI x.L8/\inI x.M3/\(x.M5.length<=maxLen/\∀y∈x.M5,inI y)/\(x.L6.length<=maxLen/\∀y∈x.L6,inI y)/\inI x.L9/\inI x.N8
structure Qw where
 M7:Int
 L5:Qs
def Qw.tr (x:Qw):List Tr:=[.int .i64 x.M7,.int .i64 x.L5.K0.J5,.int .i64 x.L5.K0.L2,.int .i64 x.L5.M8,.bool x.L5.L7,.lst 1 (x.L5.N0.map aa),.int .i64 x.L5.M6,.bool x.L5.N2]
def Qw.wf (x:Qw):Prop:=inI x.M7/\x.L5.wf
structure Qy where
 L7:Int
 N1:Int
 N7:Bool
 M6:Int
def Qy.tr (x:Qy):List Tr:=[.int .i64 x.L7,.int .i64 x.N1,.bool x.N7,.int .i64 x.M6]
def Qy.wf (x:Qy):Prop:=inI x.L7/\inI x.N1/\inI x.M6
structure QD where
 M4:Int
 L8:Int
 M3:Int
 faL:List Int
def QD.tr (x:QD):List Tr:=[.int .i64 x.M4,.int .i64 x.L8,.int .i64 x.M3,.lst 1 (x.faL.map aa)]
def QD.wf (x:QD):Prop:=inI x.M4/\inI x.L8/\inI x.M3/\(x.faL.length<=maxLen/\∀y∈x.faL,inI y)
structure Qx where
 M7:Int
 M8:Int
 L7:Bool
def Qx.tr (x:Qx):List Tr:=[.int .i64 x.M7,.int .i64 x.M8,.bool x.L7]
def Qx.wf (x:Qx):Prop:=inI x.M7/\inI x.M8
structure Qr where
 L7:Int
 N1:Int
 O1:Int
 M8:Int
 J7:List UInt8
def Qr.tr (x:Qr):List Tr:=[.int .i64 x.L7,.int .i64 x.N1,.int .i64 x.O1,.int .i64 x.M8,.str x.J7]
def Qr.wf (x:Qr):Prop:=inI x.L7/\inI x.N1/\inI x.O1/\inI x.M8/\x.J7.length<=maxLen
structure Qn where
 faN:Int
 L4:List QB
 faK:List Qy
 faM:List Qx
 faJ:List Qr
def Qn.tr (x:Qn):List Tr:=[.int .i64 x.faN,.lst 3 (x.L4.map QB.tr),.lst 4 (x.faK.map Qy.tr),.lst 3 (x.faM.map Qx.tr),.lst 5 (x.faJ.map Qr.tr)]
def Qn.wf (x:Qn):Prop:=inI x.faN/\(x.L4.length<=maxLen/\∀y∈x.L4,y.wf)/\(x.faK.length<=maxLen/\∀y∈x.faK,y.wf)/\(x.faM.length<=maxLen/\∀y∈x.faM,y.wf)/\(x.faJ.length<=maxLen/\∀y∈x.faJ,y.wf)
structure Qo where
 J7:List UInt8
 M8:Int
def Qo.tr (x:Qo):List Tr:=[.str x.J7,.int .i64 x.M8]
def Qo.wf (x:Qo):Prop:=x.J7.length<=maxLen/\inI x.M8
end Go.Proofs.P
namespace Go.Proofs.P
open Go.Sim Tryz
set_option maxRecDepth 100000
abbrev tvL (sz:Nat)(rows:List (List Tr)):TV:= .c (.lst sz rows)
abbrev rL (sz:Nat)(rows:List (List Tr)):Res:= .r (.c (.arr sz rows))
theorem ab {α β:Type}{f:α->β}{l:List α}{k:Nat}{x:α}(h:l[k]?=some x):(l.map f)[k]?=some (f x):=by simp[h]
theorem ae {α:Type}{l:List α}{k:Nat}(h:k<l.length):∃x,l[k]?=some x:=⟨_,i9 h⟩
theorem Py {ns ms:List Int}{k:Nat}{x y:Int}(h1:ns[k]?=some x)(h2:ms[k]?=some y)(P2:x≠y):(ns==ms)=false:=by rw[w3];intro e;subst e;rw[h1]at h2;injection h2 with h2;exact P2 h2
theorem NY {ns ms:List Int}(h:ns.length≠ms.length):(ns==ms)=false:=by rw[w3];intro e;subst e;exact h rfl
theorem dX {α:Type}{l:List α}{k:Nat}{x:α}(h:l[k]?=some x):l.drop k=x::l.drop (k+1):=by
 have hk:k<l.length:=by
  rcases n5 k l.length with h'|h'
  ·exact h'
  ·rw[e9 h']at h;cases h
 rw[i9 hk]at h;injection h with h;rw[<-h];exact C3 hk
end Go.Proofs.P
namespace Go.Proofs.P
open Go.Sim Tryz Go.RowKit
set_option maxRecDepth 100000
theorem bk {α:Type}{g:α->List Tr}{L:Int}{l:List α}{sz:Nat}(h:aK L (.lst sz (l.map g))){x:α}(hx:x∈l):aS L (g x):=by rw[aK]at h;exact wx h.2 _ (List.mem_map_of_mem hx)
theorem qj {α:Type}{g:α->List Tr}{L:Int}{l:List α}{sz:Nat}(h:aK L (.lst sz (l.map g))):(l.length:Int)<=L:=by rw[aK]at h;simpa using h.1
theorem cP {α:Type}{g:α->List Tr}{l:List α}{sz:Nat}(h:aK 1048576 (.lst sz (l.map g))):l.length<=1048576:=by have:=qj h;omega
end Go.Proofs.P
namespace Go.Proofs.P
open Go.Sim Tryz
set_option maxRecDepth 100000
def atV (bs:List UInt8)(i:Nat):Nat:=match bs[(i*5+1)%bs.length]? with|some b=>b.toNat|none=>0
theorem Mk (bs:List UInt8)(i:Nat):atV bs i<=255:=by
 unfold atV;split
 ·rename_i b _;have:=b.toNat_lt;omega
 ·omega
theorem HZ (bs:List UInt8):Sim.Spec prog 9 [tvL 1 (bs.map bo)] (rB (decide (1048576<(bs.length:Int)))):=by
 refine az hΓ aF func9 rfl d_ rfl ?_;have hl:(bs.map bo).length=bs.length:=s_;repeat' ((conv=>whnf);first|refine Or.inl ?_|apply oi|apply fi|intro h|exact Y1|refine e_ rfl ?_)
 exact⟨by rw[hl]⟩
theorem Bd (bs:List UInt8)(i:Nat)(hi:i<=1000)(hl:bs.length<=1048576):Sim.Spec prog 19 [tvL 1 (bs.map bo),tvI (i:Int)] (rI (atV bs i)):=by
 refine az hΓ aF func19 rfl d_ rfl ?_;have O2:(bs.map bo).length=bs.length:=s_;repeat' ((conv=>whnf);first|refine Or.inl ?_|apply oi|apply fi|intro h|exact Y1|refine e_ rfl ?_)
 ·have h0:bs.length=0:=by rw[O2]at h;have:=z8 h;omega
  have:bs=[]:=x7 h0;subst this;exact⟨rfl⟩
 ·have h0:bs.length≠0:=by rw[O2]at h;intro e;rw[e]at h;simp at h
  exact⟨by rw[O2];omega⟩
 have h0:bs.length≠0:=by rw[O2]at h;intro e;rw[e]at h;simp at h
 have Rq:0<bs.length:=Nat.pos_of_ne_zero h0;obtain⟨b,hb⟩:=ae (l:=bs) (k:=(i*5+1)%bs.length) (I6 _ Rq);have U0:=b.toNat_lt;conv=>whnf
 refine⟨(i*5+1)%bs.length,bo b,?_,ab hb,?_⟩
 ·show(IntKind.i64.wrap (IntKind.i64.wrap (_*5)+1)).tmod _=_;rw[c8 ((i:Int)*5) o_,c8 _ o_,O2,E8 o_];simp
 repeat' ((conv=>whnf);first|refine Or.inl ?_|apply oi|apply fi|intro h|exact Y1|refine e_ rfl ?_)
 refine⟨congrArg (Tr.int _) ?_⟩;rw[c8 _ o_,atV,hb]
theorem nY (ns ms:List Int)(hl:ns.length<=1048576):Sim.Spec prog 23 [tvL 1 (ns.map aa),tvL 1 (ms.map aa)] (rB (ns==ms)):=by
 refine az hΓ aF func23 rfl d_ rfl ?_;have O2:(ns.map aa).length=ns.length:=s_;have VO:(ms.map aa).length=ms.length:=s_;repeat' ((conv=>whnf);first|refine Or.inl ?_|apply oi|apply fi|intro h|exact Y1|refine e_ rfl ?_)
 ·rw[O2,VO]at h;rw[NY (by intro e;rw[e]at h;simp at h)];exact⟨rfl⟩
 have P6:ns.length=ms.length:=by
  rw[O2,VO]at h;have:((ns.length:Int)==(ms.length:Int))=true:=by simpa using h
  have:=z8 this;omega
 repeat' ((conv=>whnf);first|refine Or.inl ?_|apply oi|apply fi|intro h|exact Y1|refine e_ rfl ?_)
 conv=>whnf
 refine⟨{k:Nat//k<=ns.length/\∀j,j<k->ns[j]?=ms[j]?},fun k=>⟨[(0,.r (.c (.t (.lst 1 (ns.map aa))))),(1,.r (.c (.t (.lst 1 (ms.map aa))))),(5,tI .i64 (k.1:Int))],[],[]⟩,fun k=>ns.length-k.1,⟨0,o_,fun j hj=>o_⟩,?_,?_⟩
 ·exact Z1
 intro⟨k,hk,XB⟩;dsimp only;repeat' ((conv=>whnf);first|refine Or.inl ?_|apply oi|apply fi|intro h|exact Y1|refine e_ rfl ?_)
 ·have O4:k<ns.length:=by have:=j5 h;omega
  obtain⟨x,hx⟩:=ae O4;obtain⟨y,hy⟩:=ae (show k<ms.length by omega);conv=>whnf
  refine⟨k,aa x,rfl,ab hx,?_⟩;repeat' ((conv=>whnf);first|refine Or.inl ?_|apply oi|apply fi|intro h|exact Y1|refine e_ rfl ?_)
  conv=>whnf
  refine⟨k,aa y,rfl,ab hy,?_⟩;repeat' ((conv=>whnf);first|refine Or.inl ?_|apply oi|apply fi|intro h|exact Y1|refine e_ rfl ?_)
  ·rw[Py hx hy aap];exact⟨rfl⟩
  have hxy:x=y:=by simpa using h
  conv=>whnf
  refine⟨⟨k+1,o_,fun j hj=>?_⟩,?_,KD⟩
  ·rcases n5 j k with h'|h'
   ·exact XB j h'
   ·have:j=k:=o_;subst this;rw[hx,hy,hxy]
  repeat' ((conv=>whnf);first|refine Or.inl ?_|apply oi|apply fi|intro h|exact Y1|refine e_ rfl ?_)
  exact⟨by dsimp only;rw[c8 _ o_];rfl⟩
 ·have QY:ns.length<=k:=by have:=j6 h;omega
  have:ns=ms:=B4 fun j=>by
   rcases n5 j k with h'|h'
   ·exact XB j h'
   ·rw[e9 o_,e9 o_]
  subst this;exact⟨s_⟩
end Go.Proofs.P
namespace Go.Proofs.P
open Go.Sim Tryz
def je (last:Int)(r:Qy):Prop:=last<=r.L7/\r.L7<r.N1/\r.N1<=1000000/\0<=r.M6/\r.M6<=1200/\(r.N7=true->r.M6=0)
instance (last:Int) (r:Qy):Decidable (je last r):=by unfold je;infer_instance
def dT:Int->List Qy->Bool
 | _,[]=>true
 | p,r::l=>if je p r then dT r.N1 l else false
def Dm (l:List Qy):Bool:=dT 0 l
def mO (off:Int):List Qy->Nat->Int
 | [],_=> -1
 | r::l,i=>if r.L7<=off/\off<r.N1 then(i:Int)else mO off l (i+1)
def tK (l:List Qy)(off:Int):Int:=if Dm l then mO off l 0 else -1
def iE (m:Qu):Bool:=(m.M5.length==1200)&&af m.L8 0 1200&&af m.L9 0 2
theorem vM (m:Qu):Sim.Spec prog 72 [.agg m.tr] (rB (iE m)):=by
 refine az hΓ aF func72 rfl d_ rfl ?_;have O2:(m.M5.map aa).length=m.M5.length:=s_;unfold iE;repeat' ((conv=>whnf);first|refine Or.inl ?_|apply oi|apply fi|intro h|refine ci (aN _ _ _) (ai rfl (ai rfl (ai rfl trivial))) ?_|exact Y1|refine e_ rfl ?_)
 all_goals(refine⟨congrArg Tr.bool ?_⟩;simp_all;try omega)
def low (b:UInt8):Bool:=decide (97<=b.toNat)&&decide (b.toNat<=122)
def dD (s:List UInt8):Bool:=s.all low&&af s.length 1 8
abbrev Nd (s:List UInt8):={k:Nat//k<=s.length/\(s.take k).all low=true}
theorem Ez {α:Type}{p:α->Bool}{s:List α}{k:Nat}{b:α}(h:(s.take k).all p=true)(hb:s[k]?=some b)(hp:p b=true):(s.take (k+1)).all p=true:=by rw[A0,hb];simp_all
theorem IX {α:Type}{p:α->Bool}{s:List α}{k:Nat}{b:α}(hb:s[k]?=some b)(hp:p b=false):s.all p=false:=by
 rw[Bool.eq_false_iff];intro h;rw[n9]at h;rw[h b (c9 hb)]at hp
 cases hp
theorem V22{p:Prop}(h:p:=by
 obtain⟨b,hb⟩:=ae O4;have U0:=b.toNat_lt
 cases TQ:low b with
 | false=>
  rw[IX hb TQ];unfold low at TQ;repeat' ((conv=>whnf);first|refine Or.inl ?_|apply oi|apply fi|intro h|refine⟨k,b,rfl,hb,?_⟩|exact Y2|refine e_ rfl ?_)
  all_goals(exfalso;simp at *;omega)
 | true=>
  have Sb:=Ez hp hb TQ;unfold low at TQ;repeat' ((conv=>whnf);first|refine Or.inl ?_|apply oi|apply fi|intro h|refine⟨k,b,rfl,hb,?_⟩|exact Y3|refine e_ rfl ?_)
  conv=>whnf
  refine⟨⟨k+1,o_,Sb⟩,?_,KD⟩
  exact Z3):p:=h
theorem jJ (s:List UInt8)(hl:s.length<=1099511627775):Sim.Spec prog 210 [tvS s] (rB (dD s)):=by
 refine az hΓ aF func210 rfl d_ rfl ?_;unfold dD;repeat' ((conv=>whnf);first|refine Or.inl ?_|apply oi|apply fi|intro h|exact Y1|refine e_ rfl ?_)
 conv=>whnf
 refine⟨Nd s,fun k=>⟨[(0,tS s),(3,tI .i64 (k.1:Int))],[],[]⟩,fun k=>s.length-k.1,⟨0,o_,rfl⟩,?_,?_⟩
 ·exact Z1
 intro⟨k,hk,hp⟩;dsimp only;by_cases O4:k<s.length
 ·exact V22
 ·have QY:s.length<=k:=o_;rw[gt QY]at hp;rw[hp];repeat' ((conv=>whnf);first|refine Or.inl ?_|apply oi|apply fi|intro h|refine ci (aN _ _ _) (ai rfl (ai rfl (ai rfl trivial))) ?_|exact Y2|refine e_ rfl ?_)
theorem gT (s:List UInt8)(hl:s.length<=1099511627775):Sim.Spec prog 189 [tvS s] (rB (dD s)):=by
 refine az hΓ aF func189 rfl d_ rfl ?_;unfold dD;repeat' ((conv=>whnf);first|refine Or.inl ?_|apply oi|apply fi|intro h|exact Y1|refine e_ rfl ?_)
 conv=>whnf
 refine⟨Nd s,fun k=>⟨[(0,tS s),(3,tI .i64 (k.1:Int))],[],[]⟩,fun k=>s.length-k.1,⟨0,o_,rfl⟩,?_,?_⟩
 ·exact Z1
 intro⟨k,hk,hp⟩;dsimp only;by_cases O4:k<s.length
 ·exact V22
 ·have QY:s.length<=k:=o_;rw[gt QY]at hp;rw[hp];repeat' ((conv=>whnf);first|refine Or.inl ?_|apply oi|apply fi|intro h|refine ci (bz _ _ _) (ai rfl (ai rfl (ai rfl trivial))) ?_|exact Y2|refine e_ rfl ?_)
def behind (p:Option Qr)(x:Qr):Prop:=match p with
 | none=>True
 | some p=>p.O1<=x.O1/\(p.O1=x.O1->p.N1<=x.L7)
instance (p:Option Qr) (x:Qr):Decidable (behind p x):=by unfold behind;cases p<;>infer_instance
def fI (t:QC):Bool:=
 if t.J0=0 then af t.M1 0 999&&t.J7==[]
 else if t.J0=7 then af t.M1 0 4&&dD t.J7
 else if t.J0=1 then t.M1==0&&dD t.J7
 else af t.J0 2 6&&(t.M1==0&&t.J7==[])
theorem tn (t:QC)(hl:t.J7.length<=1099511627775):Sim.Spec prog 264 [.agg t.tr] (rB (fI t)):=by
 refine az hΓ aF func264 rfl d_ rfl ?_;have hN:=jJ t.J7 hl;unfold fI
 generalize dD t.J7=nb at *
 repeat' ((conv=>whnf);first|refine Or.inl ?_|apply oi|apply fi|intro h|refine ci (aN _ _ _) (ai rfl (ai rfl (ai rfl trivial))) ?_|refine ci hN (ai rfl trivial) ?_|exact Y1|refine e_ rfl ?_)
 all_goals(refine⟨congrArg Tr.bool ?_⟩;simp_all;try(intros;omega))
theorem sR (t:QC)(hl:t.J7.length<=1099511627775):Sim.Spec prog 255 [.agg t.tr] (rB (fI t)):=by
 refine az hΓ aF func255 rfl d_ rfl ?_;have hN:=gT t.J7 hl;unfold fI
 generalize dD t.J7=nb at *
 repeat' ((conv=>whnf);first|refine Or.inl ?_|apply oi|apply fi|intro h|refine ci (bz _ _ _) (ai rfl (ai rfl (ai rfl trivial))) ?_|refine ci hN (ai rfl trivial) ?_|exact Y1|refine e_ rfl ?_)
 all_goals(refine⟨congrArg Tr.bool ?_⟩;simp_all[af];(try(intros;omega));(try((repeat' split)<;>intros<;>omega)))
def nX (t:QC):Int:=if fI t=false then -1 else if t.J0=7 then t.M1 else if t.J0=0\/t.J0=1 then 0 else 2
theorem V57{p:Prop}(h:p:=by
 unfold nX
 generalize fI t=nb at *
 repeat' ((conv=>whnf);first|refine Or.inl ?_|apply oi|apply fi|intro h|refine ci hT (ai (ai rfl (ai rfl (ai rfl trivial))) trivial) ?_|exact Y1|refine e_ rfl ?_)
 all_goals(refine⟨congrArg (Tr.int _) ?_⟩;simp_all)):p:=h
theorem tX (t:QC)(hl:t.J7.length<=1099511627775):Sim.Spec prog 265 [.agg t.tr] (rI (nX t)):=by refine az hΓ aF func265 rfl d_ rfl ?_;have hT:=tn t hl;exact V57
theorem kO (t:QC)(hl:t.J7.length<=1099511627775):Sim.Spec prog 228 [.agg t.tr] (rI (nX t)):=by refine az hΓ aF func228 rfl d_ rfl ?_;have hT:=sR t hl;exact V57
def ar (t:QC):Nat:=(nX t).toNat
theorem rg {t:QC}(h:fI t=true):nX t=(ar t:Int)/\ar t<=4:=by
 unfold ar nX;rw[b8 abd];unfold fI at h;split
 ·rename_i h7;rw[b8 o_,b9 h7]at h;simp only[d5,within_iff]at h;omega
 ·split<;>omega
def endL:List QC->Nat->Nat->Option Nat
 | _,p,0=>some p
 | [],_,_+1=>none
 | t::l,p,n+1=>if fI t=true then endL l (p+1) (n+ar t)else none
def cn (o:Option Nat):Int:=match o with|some e=>e|none=> -1
def ez (l:List QC)(p:Int):Int:=if 0<=p then cn (endL (l.drop p.toNat) p.toNat 1)else -1
theorem IG {l:List QC}{p n:Nat}{t:QC}(h:l[p]?=some t):endL (l.drop p) p (n+1)=if fI t=true then endL (l.drop (p+1)) (p+1) (n+ar t)else none:=by rw[dX h,endL]
abbrev OG (l:List QC)(R:Int):={q:Nat×Nat//q.1<=l.length/\q.2<=1+4*q.1/\cn (endL (l.drop q.1) q.1 q.2)=R}
def ep (l:List QC):Prop:=∀t∈l,t.J7.length<=1099511627775
theorem V10{p:Prop}(h:p:=by
 cases O7:fI t with
 | false=>
  rw[O7]at hT;rw[b8 (by simp[O7])]at hr;subst hr
  repeat' ((conv=>whnf);first|refine Or.inl ?_|apply oi|apply fi|intro h|refine⟨a,t.tr,rfl,ab ht,?_⟩|refine ci hT (ai (ai rfl (ai rfl (ai rfl trivial))) trivial) ?_|exact Y2|refine e_ rfl ?_)
 | true=>
  obtain⟨e1,e2⟩:=rg O7;rw[e1]at hA;rw[O7]at hT;rw[b9 O7]at hr;repeat' ((conv=>whnf);first|refine Or.inl ?_|apply oi|apply fi|intro h|refine⟨a,t.tr,rfl,ab ht,?_⟩|refine ci hT (ai (ai rfl (ai rfl (ai rfl trivial))) trivial) ?_|refine ci hA (ai (ai rfl (ai rfl (ai rfl trivial))) trivial) ?_|exact Y2|refine e_ rfl ?_)
  conv=>whnf
  refine⟨⟨(a+1,n+ar t),g_,g_,hr⟩,?_,KD⟩;repeat' ((conv=>whnf);first|refine Or.inl ?_|apply oi|apply fi|intro h|exact Y4|refine e_ rfl ?_)
  all_goals try exact⟨by dsimp only;congr 1;rw[c8 _ o_];omega⟩
  all_goals exact⟨congrArg (Tr.int _) (by dsimp only;simp(disch:=omega)only[c8];omega)⟩):p:=h
theorem lD (l:List QC)(p:Int)(hl:l.length<=1048576)(hn:ep l):Sim.Spec prog 248 [tvL 3 (l.map QC.tr),tvI p] (rI (ez l p)):=by
 refine az hΓ aF func248 rfl d_ rfl ?_;have O2:(l.map QC.tr).length=l.length:=s_;have hw:IntKind.i64.wrap (((l.map QC.tr).length:Int)-1)=(l.length:Int)-1:=by rw[c8 _ o_];omega
 by_cases hin:0<=p/\p<l.length
 ·have hb:=aN p 0 (IntKind.i64.wrap (((l.map QC.tr).length:Int)-1));rw[within_iff.2 ⟨hin.1,by rw[hw];omega⟩]at hb;obtain⟨p,rfl⟩:=i7 hin.1;obtain⟨R,hR⟩:∃R,ez l (p:Int)=R:=⟨_,rfl⟩;rw[hR];rw[ez,b9 hin.1,e7]at hR;repeat' ((conv=>whnf);first|refine Or.inl ?_|apply oi|apply fi|intro h|refine ci hb (ai rfl (ai rfl (ai rfl trivial))) ?_|exact Y1|refine e_ rfl ?_)
  conv=>whnf
  refine⟨OG l R,fun q=>⟨[(0,.r (.c (.t (.lst 3 (l.map QC.tr))))),(1,tI .i64 (q.1.1:Int)),(5,tI .i64 (q.1.2:Int))],[],[]⟩,fun q=>l.length-q.1.1,⟨(p,1),o_,o_,hR⟩,?_,?_⟩
  ·exact Z1
  intro⟨⟨a,n⟩,ha,Xy,hr⟩;dsimp only at ha Xy hr⊢
  cases n with
  | zero=>
   have:R=(a:Int):=by
    rw[<-hr]
    cases l.drop a<;>rfl
   subst this
   exact Z4
  | succ n=>
   by_cases O4:a<l.length
   ·obtain⟨t,ht⟩:=ae O4;rw[IG ht]at hr;have hT:=tn t (hn t (c9 ht));have hA:=tX t (hn t (c9 ht));exact V10
   ·rw[m6 o_,endL]at hr;subst hr;exact Z4
 ·have hb:=aN p 0 (IntKind.i64.wrap (((l.map QC.tr).length:Int)-1))
  have hf:af p 0 (IntKind.i64.wrap (((l.map QC.tr).length:Int)-1))=false:=by cases hx:af p 0 (IntKind.i64.wrap (((l.map QC.tr).length:Int)-1))with|false=>rfl|true=>have:=within_iff.1 hx;rw[hw]at this;exact absurd ⟨this.1,o_⟩ hin
  rw[hf]at hb
  have he:ez l p= -1:=by
   unfold ez;split
   ·rw[m6 o_];rfl
   ·rfl
  rw[he];repeat' ((conv=>whnf);first|refine Or.inl ?_|apply oi|apply fi|intro h|refine ci hb (ai rfl (ai rfl (ai rfl trivial))) ?_|exact Y1|refine e_ rfl ?_)
  all_goals(exfalso;simp at h;done)
theorem lF (l:List QC)(p:Int)(hl:l.length<=1048576)(hn:ep l):Sim.Spec prog 238 [tvL 3 (l.map QC.tr),tvI p] (rI (ez l p)):=by
 refine az hΓ aF func238 rfl d_ rfl ?_;have O2:(l.map QC.tr).length=l.length:=s_;by_cases h0:0<=p
 ·obtain⟨p,rfl⟩:=i7 h0;obtain⟨R,hR⟩:∃R,ez l (p:Int)=R:=⟨_,rfl⟩;rw[hR];rw[ez,b9 h0,e7]at hR;by_cases hlp:p<=l.length
  ·repeat' ((conv=>whnf);first|refine Or.inl ?_|apply oi|apply fi|intro h|exact Y2|refine e_ rfl ?_)
   conv=>whnf
   refine⟨OG l R,fun q=>⟨[(0,.r (.c (.t (.lst 3 (l.map QC.tr))))),(1,tI .i64 (q.1.1:Int)),(5,tI .i64 (q.1.2:Int))],[],[]⟩,fun q=>l.length-q.1.1,⟨(p,1),o_,o_,hR⟩,?_,?_⟩
   ·exact Z1
   intro⟨⟨a,n⟩,ha,Xy,hr⟩;dsimp only at ha Xy hr⊢
   cases n with
   | zero=>
    have:R=(a:Int):=by
     rw[<-hr]
     cases l.drop a<;>rfl
    subst this
    exact Z4
   | succ n=>
    by_cases O4:a<l.length
    ·obtain⟨t,ht⟩:=ae O4;rw[IG ht]at hr;have hT:=sR t (hn t (c9 ht));have hA:=kO t (hn t (c9 ht));exact V10
    ·rw[m6 o_,endL]at hr;subst hr;exact Z4
  ·rw[m6 o_,endL]at hR;subst hR;repeat' ((conv=>whnf);first|refine Or.inl ?_|apply oi|apply fi|intro h|exact Y2|refine e_ rfl ?_)
   conv=>whnf
   refine⟨Unit,fun q=>⟨[(0,.r (.c (.t (.lst 3 (l.map QC.tr))))),(1,tI .i64 (p:Int)),(5,tI .i64 1)],[],[]⟩,fun q=>0,(),?_,?_⟩
   ·exact Z1
   intro q;exact Z4
 ·have he:ez l p= -1:=by rw[ez,b8 h0]
  rw[he];exact Z4
def bq (l:List QC):Bool:=decide (l.length<=20)&&(decide (0<l.length)&&ez l 0==(l.length:Int))
theorem V66{p:Prop}(h:p:=by
 unfold bq
 generalize ez l 0=e at *
 repeat' ((conv=>whnf);first|refine Or.inl ?_|apply oi|apply fi|intro h|refine ci hE (ai rfl (ai rfl trivial)) ?_|exact Y1|refine e_ rfl ?_)
 all_goals(refine⟨congrArg Tr.bool ?_⟩;simp_all;try omega)):p:=h
theorem qR (l:List QC)(hl:l.length<=1048576)(hn:ep l):Sim.Spec prog 213 [tvL 3 (l.map QC.tr)] (rB (bq l)):=by refine az hΓ aF func213 rfl d_ rfl ?_;have O2:(l.map QC.tr).length=l.length:=s_;have hE:=lD l 0 hl hn;exact V66
theorem qN (l:List QC)(hl:l.length<=1048576)(hn:ep l):Sim.Spec prog 191 [tvL 3 (l.map QC.tr)] (rB (bq l)):=by refine az hΓ aF func191 rfl d_ rfl ?_;have O2:(l.map QC.tr).length=l.length:=s_;have hE:=lF l 0 hl hn;exact V66
def eQ {α:Type}[BEq α]:List α->Nat->α->Option Nat
 | [],_,_=>none
 | x::l,i,s=>if(x==s)=true then some i else eQ l (i+1) s
theorem Cw {α:Type}[BEq α]{l:List α}{i:Nat}{x s:α}(hx:l[i]?=some x):eQ (l.drop i) i s=if(x==s)=true then some i else eQ (l.drop (i+1)) (i+1) s:=by rw[dX hx,eQ]
theorem jp {α:Type}[BEq α]:∀{l:List α} {i k:Nat} {s:α},eQ l i s=some k->i<=k/\k<i+l.length
 | [],_,_,_,h=>by rw[eQ]at h;cases h
 | x::l,i,k,s,h=>by
  rw[eQ]at h;simp only[d6];split at h
  ·injection h with h;omega
  ·have:=jp h;omega
theorem yC {α:Type}[BEq α][LawfulBEq α]:∀{l:List α} {i:Nat} {s:α},(eQ l i s).isSome=l.contains s
 | [],_,_=>rfl
 | x::l,i,s=>by
  rw[eQ,B9]
  cases h:(x==s)with
  | true=>rw[b9 rfl];simp[z8 h]
  | false=>have h2:(s==x)=false:=(by rw[w3]at h⊢;exact fun e=>h e.symm);rw[b8 s_,h2,A8];exact yC
def cN {α:Type}[BEq α](l:List α)(s:α):Int:=cn (eQ l 0 s)
theorem qq {α:Type}[BEq α][LawfulBEq α]{l:List α}{s:α}:decide (0<=cN l s)=l.contains s:=by
 rw[<-yC (i:=0),cN]
 cases eQ l 0 s with|none=>rfl|some k=>simp[cn]
theorem Q1{p:Prop}(h:p:=by exfalso;(try simp_all[af]);(try omega);first|done|fail):p:=h
theorem V17{p:Prop}(h:p:=by
 obtain⟨x,hx⟩:=ae O4;rw[Cw hx]at hr
 cases he:(x==s)with
 | true=>
  rw[he,b9 rfl]at hr;have S8:=z8 he;subst S8;subst hr;repeat' ((conv=>whnf);first|refine Or.inl ?_|apply oi|apply fi|intro h|refine⟨k,(ah x),rfl,ab hx,?_⟩|exact Y2|refine e_ rfl ?_)
  all_goals try exact Q1
 | false=>
  rw[he,b8 s_]at hr;repeat' ((conv=>whnf);first|refine Or.inl ?_|apply oi|apply fi|intro h|refine⟨k,(ah x),rfl,ab hx,?_⟩|exact Y2|refine e_ rfl ?_)
  all_goals try exact Q1
  conv=>whnf
  refine⟨⟨k+1,o_,hr⟩,?_,KD⟩
  exact Z3):p:=h
theorem ky (l:List (List UInt8))(s:List UInt8)(hl:l.length<=4194304):Sim.Spec prog 263 [tvL 1 (l.map ah),tvS s] (rI (cN l s)):=by
 refine az hΓ aF func263 rfl d_ rfl ?_;have O2:(l.map ah).length=l.length:=s_;obtain⟨R,hR⟩:∃R,cN l s=R:=⟨_,rfl⟩;rw[hR];repeat' ((conv=>whnf);first|refine Or.inl ?_|apply oi|apply fi|intro h|exact Y1|refine e_ rfl ?_)
 conv=>whnf
 refine⟨{k:Nat//k<=l.length/\cn (eQ (l.drop k) k s)=R},fun k=>⟨[(0,.r (.c (.t (.lst 1 (l.map ah))))),(1,tS s),(6,.r (.c (.t (.lst 1 (l.map ah))))),(7,tI .i64 ((l.map ah).length:Int)),(8,tI .i64 (k.1:Int))],[],[]⟩,fun k=>l.length-k.1,⟨0,o_,hR⟩,?_,?_⟩
 ·exact Z1
 intro⟨k,hk,hr⟩;dsimp only at hk hr⊢;by_cases O4:k<l.length
 ·exact V17
 ·rw[m6 o_,eQ]at hr;subst hr;exact Z4
theorem V90{p:Prop}(h:p:=by
 rw[<-qq]
 generalize cN l s=e at *
 repeat' ((conv=>whnf);first|refine Or.inl ?_|apply oi|apply fi|intro h|refine ci hI (ai rfl (ai rfl trivial)) ?_|exact Y1|refine e_ rfl ?_)):p:=h
theorem ir (l:List (List UInt8))(s:List UInt8)(hl:l.length<=4194304):Sim.Spec prog 247 [tvL 1 (l.map ah),tvS s] (rB (l.contains s)):=by refine az hΓ aF func247 rfl d_ rfl ?_;have hI:=ky l s hl;exact V90
theorem og (l:List Int)(s:Int)(hl:l.length<=4194304):Sim.Spec prog 217 [tvL 1 (l.map aa),tvI s] (rI (cN l s)):=by
 refine az hΓ aF func217 rfl d_ rfl ?_;have O2:(l.map aa).length=l.length:=s_;obtain⟨R,hR⟩:∃R,cN l s=R:=⟨_,rfl⟩;rw[hR];repeat' ((conv=>whnf);first|refine Or.inl ?_|apply oi|apply fi|intro h|exact Y1|refine e_ rfl ?_)
 conv=>whnf
 refine⟨{k:Nat//k<=l.length/\cn (eQ (l.drop k) k s)=R},fun k=>⟨[(0,.r (.c (.t (.lst 1 (l.map aa))))),(1,tI .i64 s),(6,.r (.c (.t (.lst 1 (l.map aa))))),(7,tI .i64 ((l.map aa).length:Int)),(8,tI .i64 (k.1:Int))],[],[]⟩,fun k=>l.length-k.1,⟨0,o_,hR⟩,?_,?_⟩
 ·exact Z1
 intro⟨k,hk,hr⟩;dsimp only at hk hr⊢;by_cases O4:k<l.length
 ·obtain⟨x,hx⟩:=ae O4;rw[Cw hx]at hr
  cases he:(x==s)with
  | true=>
   rw[he,b9 rfl]at hr;have S8:=z8 he;subst S8;subst hr;repeat' ((conv=>whnf);first|refine Or.inl ?_|apply oi|apply fi|intro h|refine⟨k,(aa x),rfl,ab hx,?_⟩|exact Y2|refine e_ rfl ?_)
   all_goals try exact Q1
  | false=>
   rw[he,b8 s_]at hr;repeat' ((conv=>whnf);first|refine Or.inl ?_|apply oi|apply fi|intro h|refine⟨k,(aa x),rfl,ab hx,?_⟩|exact Y2|refine e_ rfl ?_)
   all_goals try exact Q1
   conv=>whnf
   refine⟨⟨k+1,o_,hr⟩,?_,KD⟩;exact Z3
 ·rw[m6 o_,eQ]at hr;subst hr;exact Z4
theorem lq (l:List Int)(s:Int)(hl:l.length<=4194304):Sim.Spec prog 156 [tvL 1 (l.map aa),tvI s] (rB (l.contains s)):=by refine az hΓ aF func156 rfl d_ rfl ?_;have hI:=og l s hl;exact V90
def vh (l:List (List UInt8)):Nat->Nat->Bool
 | 0,_=>true
 | n+1,k=>match l[k]? with
  | some s=>if dD s=true/\(l.take k).contains s=false then vh l n (k+1)else false
  | none=>true
theorem V145{p:Prop}(h:p:=by
 rcases n5 k l.length with h|h
 ·exact h
 ·rw[e9 h]at hx;cases hx):p:=h
theorem BC {l:List (List UInt8)}{k:Nat}{s:List UInt8}(hx:l[k]?=some s):vh l (l.length-k) k=if dD s=true/\(l.take k).contains s=false then vh l (l.length-(k+1)) (k+1)else false:=by
 have hk:k<l.length:=by exact V145
 rw[show l.length-k=(l.length-(k+1))+1 by omega,vh,hx]
def jI (l:List (List UInt8)):Bool:=vh l l.length 0&&decide (l.length<=4)
theorem zx (l:List (List UInt8))(hl:l.length<=1048576)(hn:∀x∈l,x.length<=1099511627775):Sim.Spec prog 211 [tvL 1 (l.map ah)] (rB (jI l)):=by
 refine az hΓ aF func211 rfl d_ rfl ?_;have O2:(l.map ah).length=l.length:=s_;obtain⟨R,hR⟩:∃R,jI l=R:=⟨_,rfl⟩;rw[hR];repeat' ((conv=>whnf);first|refine Or.inl ?_|apply oi|apply fi|intro h|exact Y1|refine e_ rfl ?_)
 conv=>whnf
 refine⟨{k:Nat//k<=l.length/\(vh l (l.length-k) k&&decide (l.length<=4))=R},fun k=>⟨[(0,.r (.c (.t (.lst 1 (l.map ah))))),(5,.r (.c (.t (.lst 1 (l.map ah))))),(6,tI .i64 ((l.map ah).length:Int)),(7,tI .i64 (k.1:Int))],[],[]⟩,fun k=>l.length-k.1,⟨0,o_,by rw[u7];exact hR⟩,?_,?_⟩
 ·exact Z1
 intro⟨k,hk,hr⟩;dsimp only at hk hr⊢;by_cases O4:k<l.length
 ·obtain⟨s,hs⟩:=ae O4;rw[BC hs]at hr;have hN:=jJ s (hn s (c9 hs));have hC:=ir (l.take k) s aad
  cases QR:dD s with
  | false=>
   rw[QR]at hN hr;rw[b8 s_,n4]at hr;subst hr;repeat' ((conv=>whnf);first|refine Or.inl ?_|apply oi|apply fi|intro h|refine⟨k,(ah s),rfl,ab hs,?_⟩|refine ci hN (ai rfl trivial) ?_|exact Y2|refine e_ rfl ?_)
   all_goals try exact Q1
  | true=>
   rw[QR]at hN hr
   cases hco:(l.take k).contains s with
   | true=>
    rw[hco]at hC hr;rw[b8 s_,n4]at hr;subst hr;rw[y8]at hC;repeat' ((conv=>whnf);first|refine Or.inl ?_|apply oi|apply fi|intro h|refine⟨k,(ah s),rfl,ab hs,?_⟩|refine ci hN (ai rfl trivial) ?_|exact Y2|refine e_ rfl ?_)
    all_goals try exact Q1
    conv=>whnf
    refine⟨0,k,rfl,rfl,o_,o_,?_⟩
    repeat' ((conv=>whnf);first|refine Or.inl ?_|apply oi|apply fi|intro h|refine ci hC (ai rfl (ai rfl trivial)) ?_|exact Y1|refine e_ rfl ?_)
   | false=>
    rw[hco]at hC hr;rw[b9 ⟨rfl,rfl⟩]at hr;rw[y8]at hC;repeat' ((conv=>whnf);first|refine Or.inl ?_|apply oi|apply fi|intro h|refine⟨k,(ah s),rfl,ab hs,?_⟩|refine ci hN (ai rfl trivial) ?_|exact Y2|refine e_ rfl ?_)
    all_goals try exact Q1
    conv=>whnf
    refine⟨0,k,rfl,rfl,o_,o_,?_⟩;repeat' ((conv=>whnf);first|refine Or.inl ?_|apply oi|apply fi|intro h|refine ci hC (ai rfl (ai rfl trivial)) ?_|exact Y2|refine e_ rfl ?_)
    all_goals try exact Q1
    conv=>whnf
    refine⟨⟨k+1,o_,hr⟩,?_,KD⟩;exact Z3
 ·rw[show l.length-k=0 by omega,vh,l6]at hr;subst hr;repeat' ((conv=>whnf);first|refine Or.inl ?_|apply oi|apply fi|intro h|exact Y2|refine e_ rfl ?_)
  all_goals exact⟨congrArg Tr.bool (decide_eq_decide.2 (by rw[O2];omega))⟩
def dY (k:Int):Bool:=k==1||(k==2||(k==3||(k==5||k==6)))
theorem pK (k:Int):Sim.Spec prog 212 [tvI k] (rB (dY k)):=by
 refine az hΓ aF func212 rfl d_ rfl ?_;unfold dY;repeat' ((conv=>whnf);first|refine Or.inl ?_|apply oi|apply fi|intro h|exact Y1|refine e_ rfl ?_)
 all_goals(refine⟨congrArg Tr.bool ?_⟩;simp_all;(try(rw[u0];simp;omega)))
theorem sF (k:Int)(hk:af k 0 7=true):Sim.Spec prog 190 [tvI k] (rB (dY k)):=by
 refine az hΓ aF func190 rfl d_ rfl ?_;have:=within_iff.1 hk;unfold dY;repeat' ((conv=>whnf);first|refine Or.inl ?_|apply oi|apply fi|intro h|exact Y1|refine e_ rfl ?_)
 all_goals(refine⟨congrArg Tr.bool ?_⟩;simp_all;(try(rw[u0];simp;done));(try(rw[u0];simp;omega)))
def cF (x:Qt):Bool:=af x.J0 0 7&&((if x.J0=0\/x.J0=1 then dD x.J7 else x.J7==[])&&((if x.J0=0 then jI x.L3 else x.L3.length==0)&&(if dY x.J0=true then bq x.L0 else x.L0.length==0)))
theorem dv {x:Qt}(hs:aS 1048576 x.tr):x.J7.length<=1048576/\x.L3.length<=1048576/\(∀y∈x.L3,y.length<=1048576)/\x.L0.length<=1048576/\(∀y∈x.L0,y.J7.length<=1048576):=by
 simp only[Qt.tr,aS]at hs;obtain⟨_,h1,h2,h3,_⟩:=hs;have e1:=qj h2;have e2:=qj h3;refine⟨by rw[aK]at h1;omega,o_,fun y hy=>?_,o_,fun y hy=>?_⟩
 ·have:=bk h2 hy;simp only[ah,aS,aK]at this;omega
 ·have:=bk h3 hy;simp only[QC.tr,aS,aK]at this;omega
theorem FU {x:Qt}(h:af x.J0 0 7=false):cF x=false:=by unfold cF;rw[h];rfl
theorem wv {x:Qt}(h:4<x.L3.length):cF x=false:=by
 have h1:jI x.L3=false:=by unfold jI;rw[A5 o_,E9]
 have h2:(x.L3.length==0)=false:=by rw[w3];omega
 unfold cF;rw[h1,h2];split<;>simp
theorem qO (x:Qt)(hs:aS 1048576 x.tr):Sim.Spec prog 151 [.agg x.tr] (rB (cF x)):=by
 refine az hΓ aF func151 rfl d_ rfl ?_;obtain⟨h1,h2,h3,h4,h5⟩:=dv hs;have hB:=aN x.J0 0 7;have hN:=jJ x.J7 o_;have hA:=zx x.L3 h2 (fun y hy=>by have:=h3 y hy;omega);have hH:=pK x.J0;have hE:=qR x.L0 h4 (fun y hy=>by have:=h5 y hy;omega);unfold cF
 generalize af x.J0 0 7=b1 at *
 generalize dD x.J7=b2 at *
 generalize jI x.L3=b3 at *
 generalize dY x.J0=b4 at *
 generalize bq x.L0=b5 at *
 have UE:(x.L3.map ah).length=x.L3.length:=s_;have SR:(x.L0.map QC.tr).length=x.L0.length:=s_;repeat' ((conv=>whnf);first|refine Or.inl ?_|apply oi|apply fi|intro h|refine ci hB (ai rfl (ai rfl (ai rfl trivial))) ?_|refine ci hN (ai rfl trivial) ?_|refine ci hA (ai rfl trivial) ?_|refine ci hH (ai rfl trivial) ?_|refine ci hE (ai rfl trivial) ?_|exact Y1|refine e_ rfl ?_)
 all_goals(refine⟨congrArg Tr.bool ?_⟩;simp_all;(try(rw[u0];simp;done));(try(rw[u0];simp;omega));(try(intro hh;exfalso;simp_all;done)))
theorem MQ {l:List (List UInt8)}{k i:Nat}{y s:List UInt8}(hi:i<k)(hy:l[i]?=some y):((l.take k).drop i).contains s=(s==y||((l.take k).drop (i+1)).contains s):=by rw[dX (x:=y) (by rw[n7,b9 hi];exact hy),B9]
theorem MA {x:Qt}(hk:af x.J0 0 7=true)(h0:x.J0=0)(ha:x.L3.length<=4):cF x=(vh x.L3 x.L3.length 0&&(dD x.J7&&x.L0.length==0)):=by
 unfold cF jI;rw[hk,b9 (.inl h0),b9 h0,b8 (by rw[h0];decide),q9 ha]
 cases dD x.J7<;>cases vh x.L3 x.L3.length 0<;>simp
theorem LJ {x:Qt}(hk:af x.J0 0 7=true)(h0:x.J0≠0):cF x=(x.L3.length==0&&((if x.J0=1 then dD x.J7 else x.J7==[])&&(if dY x.J0=true then bq x.L0 else x.L0.length==0))):=by
 have e:(if x.J0=0\/x.J0=1 then dD x.J7 else x.J7==[])=(if x.J0=1 then dD x.J7 else x.J7==[]):=by
  by_cases h1:x.J0=1
  ·rw[b9 (.inr h1),b9 h1]
  ·rw[b8 o_,b8 h1]
 unfold cF;rw[hk,b8 h0,e,l6];generalize(if x.J0=1 then dD x.J7 else x.J7==[])=a;generalize(if dY x.J0=true then bq x.L0 else x.L0.length==0)=b
 cases a<;>cases(x.L3.length==0)<;>simp
theorem I_ (n:Nat):((n:Int)==0)=(n==0):=by rw[u0];simp
abbrev Pr (x:Qt):AO:= .box (x.tr.map .t)
theorem V108{p:Prop}(h:p:=by
 repeat' ((conv=>whnf);first|refine Or.inl ?_|apply oi|apply fi|intro h|refine ci hB (ai rfl (ai rfl (ai rfl trivial))) ?_|exact Y2|refine e_ rfl ?_)):p:=h
theorem Q3{p:Prop}(h:p:=by exfalso;simp_all;first|done|fail):p:=h
theorem qV (x:Qt)(hs:aS 1048576 x.tr):Sim.Spec prog 119 [.agg x.tr] (rB (cF x)):=by
 refine az hΓ aF func119 rfl d_ rfl ?_;obtain⟨h1,h2,h3,h4,h5⟩:=dv hs;have hB:=bz x.J0 0 7;have hN:=gT x.J7 o_;have hE:=qN x.L0 h4 (fun y hy=>by have:=h5 y hy;omega);have UE:(x.L3.map ah).length=x.L3.length:=s_;have SR:(x.L0.map QC.tr).length=x.L0.length:=s_
 cases hk:af x.J0 0 7 with
 | false=>
  rw[hk]at hB;rw[FU hk]
  exact V108
 | true=>
  rw[hk]at hB;have hH:=sF x.J0 hk;by_cases ha:x.L3.length<=4
  ·by_cases h0:x.J0=0
   ·rw[MA hk h0 ha]
    generalize dD x.J7=b2 at *
    generalize bq x.L0=b5 at *
    obtain⟨A,hA⟩:∃A,vh x.L3 x.L3.length 0=A:=⟨_,rfl⟩;rw[hA];have hh0:dY x.J0=false:=(by rw[h0];rfl);rw[hh0]at hH;repeat' ((conv=>whnf);first|refine Or.inl ?_|apply oi|apply fi|intro h|refine ci hB (ai rfl (ai rfl (ai rfl trivial))) ?_|exact Y2|refine e_ rfl ?_)
    conv=>whnf
    refine⟨{k:Nat//k<=x.L3.length/\vh x.L3 (x.L3.length-k) k=A},fun q=>⟨[(1,.r (.c (.ptr (1,0,0) 0))),(3,tI .i64 (q.1:Int))],[((1,0,0),some (Pr x))],[1]⟩,fun q=>x.L3.length-q.1,⟨0,o_,by rw[u7];exact hA⟩,?_,?_⟩
    ·exact Z1
    intro⟨k,QV,hr⟩;dsimp only at QV hr⊢;by_cases O4:k<x.L3.length
    ·obtain⟨s,SZ⟩:=ae O4;rw[BC SZ]at hr;have Vj:=gT s (by have:=h3 s (c9 SZ);omega)
     cases QR:dD s with
     | false=>
      rw[QR]at Vj hr;rw[b8 s_]at hr;subst hr
      repeat' ((conv=>whnf);first|refine Or.inl ?_|apply oi|apply fi|intro h|refine ci Vj (ai rfl trivial) ?_|refine⟨k,(ah s),rfl,ab SZ,?_⟩|exact Y2|refine e_ rfl ?_)
     | true=>
      rw[QR]at Vj hr;obtain⟨C,hC⟩:∃C,(x.L3.take k).contains s=C:=⟨_,rfl⟩;rw[hC]at hr;repeat' ((conv=>whnf);first|refine Or.inl ?_|apply oi|apply fi|intro h|refine ci Vj (ai rfl trivial) ?_|refine⟨k,(ah s),rfl,ab SZ,?_⟩|exact Y2|refine e_ rfl ?_)
      all_goals try exact Q1
      conv=>whnf
      refine⟨{i:Nat//i<=k/\((x.L3.take k).drop i).contains s=C},fun q=>⟨[(1,.r (.c (.ptr (1,0,0) 0))),(3,tI .i64 (k:Int)),(4,tI .i64 (q.1:Int))],[((1,0,0),some (Pr x))],[1]⟩,fun q=>k-q.1,⟨0,o_,hC⟩,?_,?_⟩
      ·exact Z1
      intro⟨i,RB,hc⟩;dsimp only at RB hc⊢;by_cases Rw:i<k
      ·obtain⟨y,hy⟩:=ae (l:=x.L3) (k:=i) o_;rw[MQ Rw hy]at hc;by_cases hys:s=y
       ·subst hys;rw[H0,Bool.true_or]at hc;subst hc;rw[b8 s_]at hr;subst hr;repeat' ((conv=>whnf);first|refine Or.inl ?_|apply oi|apply fi|intro h|refine⟨i,(ah s),rfl,ab hy,?_⟩|refine⟨k,(ah s),rfl,ab SZ,?_⟩|exact Y2|refine e_ rfl ?_)
        all_goals try exact Q1
       ·rw[w3.2 hys,A8]at hc;repeat' ((conv=>whnf);first|refine Or.inl ?_|apply oi|apply fi|intro h|refine⟨i,(ah y),rfl,ab hy,?_⟩|refine⟨k,(ah s),rfl,ab SZ,?_⟩|exact Y2|refine e_ rfl ?_)
        all_goals try(exfalso;apply hys;simp_all;done)
        conv=>whnf
        refine⟨⟨i+1,o_,hc⟩,?_,KD⟩;exact Z3
      ·rw[m6 aad]at hc;have hc:false=C:=hc;subst hc;rw[b9 ⟨rfl,rfl⟩]at hr;repeat' ((conv=>whnf);first|refine Or.inl ?_|apply oi|apply fi|intro h|exact Y2|refine e_ rfl ?_)
       conv=>whnf
       refine⟨⟨k+1,o_,hr⟩,?_,KD⟩;exact Z3
    ·rw[show x.L3.length-k=0 by omega]at hr;have hr:true=A:=hr;subst hr;repeat' ((conv=>whnf);first|refine Or.inl ?_|apply oi|apply fi|intro h|refine ci hN (ai rfl trivial) ?_|refine ci hH (ai rfl trivial) ?_|refine ci hE (ai rfl trivial) ?_|exact Y2|refine e_ rfl ?_)
     all_goals try exact Q1
     all_goals(refine⟨congrArg Tr.bool ?_⟩;simp_all;(try exact I_ _))
   ·rw[LJ hk h0]
    generalize dD x.J7=b2 at *
    generalize bq x.L0=b5 at *
    generalize dY x.J0=b4 at *
    repeat' ((conv=>whnf);first|refine Or.inl ?_|apply oi|apply fi|intro h|refine ci hB (ai rfl (ai rfl (ai rfl trivial))) ?_|exact Y2|refine e_ rfl ?_)
    conv=>whnf
    refine⟨Unit,fun q=>⟨[(1,.r (.c (.ptr (1,0,0) 0))),(3,tI .i64 0)],[((1,0,0),some (Pr x))],[1]⟩,fun q=>0,(),?_,?_⟩
    ·exact Z1
    intro q;dsimp only;by_cases O4:0<x.L3.length
    ·obtain⟨s,SZ⟩:=ae O4;have Vj:=gT s (by have:=h3 s (c9 SZ);omega);rw[show(x.L3.length==0)=false by rw[w3];omega];repeat' ((conv=>whnf);first|refine Or.inl ?_|apply oi|apply fi|intro h|refine ci Vj (ai rfl trivial) ?_|refine⟨0,(ah s),rfl,ab SZ,?_⟩|exact Y2|refine e_ rfl ?_)
     all_goals try exact Q1
     all_goals try exact Q3
    ·have hz:x.L3.length=0:=o_;rw[show(x.L3.length==0)=true by rw[hz];rfl];rw[hz]at UE;repeat' ((conv=>whnf);first|refine Or.inl ?_|apply oi|apply fi|intro h|refine ci hN (ai rfl trivial) ?_|refine ci hH (ai rfl trivial) ?_|refine ci hE (ai rfl trivial) ?_|exact Y1|refine e_ rfl ?_)
     all_goals try exact Q3
     all_goals(refine⟨congrArg Tr.bool ?_⟩;simp_all;(try exact I_ _);(try(rw[u0];simp;omega)))
  ·rw[wv o_];exact V108
def cU (k:Int):Bool:=k==0||(k==3||k==5)
theorem opensK_iff {k:Int}:cU k=true↔k=0\/k=3\/k=5:=by simp[cU]
def endN:List Qt->Nat->Nat->Option Nat
 | [],_,_=>none
 | x::l,i,o=>if cU x.J0=true then endN l (i+1) (o+1)else if x.J0=7 then(if o=1 then some i else endN l (i+1) (o-1))else endN l (i+1) o
def h_ (l:List Qt)(k:Nat):Option Nat:=match l[k]? with
 | some x=>if cU x.J0=true then endN (l.drop (k+1)) (k+1) 1 else none
 | none=>none
def bA (l:List Qt)(k:Int):Int:=if 0<=k then cn (h_ l k.toNat)else -1
theorem eG {l:List Qt}{i o:Nat}{x:Qt}(h:l[i]?=some x):endN (l.drop i) i o=if cU x.J0=true then endN (l.drop (i+1)) (i+1) (o+1)else if x.J0=7 then(if o=1 then some i else endN (l.drop (i+1)) (i+1) (o-1))else endN (l.drop (i+1)) (i+1) o:=by rw[dX h,endN]
theorem ml {l:List Qt}{i o:Nat}(h:l.length<=i):endN (l.drop i) i o=none:=by rw[m6 h,endN]
theorem xw:∀{l:List Qt} {i o e:Nat},endN l i o=some e->i<=e/\e<i+l.length
 | [],_,_,_,h=>by rw[endN]at h;cases h
 | x::l,i,o,e,h=>by
  rw[endN]at h;simp only[d6];split at h
  ·have:=xw h;omega
  ·split at h
   ·split at h
    ·injection h with h;omega
    ·have:=xw h;omega
   ·have:=xw h;omega
theorem kJ {l:List Qt}{i o e:Nat}(h:endN (l.drop i) i o=some e):i<=e/\e<l.length:=by have:=xw h;rw[y9]at this;omega
theorem ow:∀{l:List Qt} {i:Nat} (n:Nat) {a b:Nat},l.length-i<=n->1<=a->1<=b->endN (l.drop i) i (a+b)=(endN (l.drop i) i b).bind fun m=>endN (l.drop (m+1)) (m+1) a
 | l,i,0,a,b,hn,_,_=>by rw[ml o_,ml o_];rfl
 | l,i,n+1,a,b,hn,ha,hb=>by
  by_cases hi:i<l.length
  ·obtain⟨x,hx⟩:=ae hi;rw[eG hx,eG hx];split
   ·rw[show a+b+1=a+(b+1) by omega];exact ow n o_ ha o_
   ·split
    ·rw[b8 o_];by_cases h1:b=1
     ·subst h1;rw[b9 rfl];rfl
     ·rw[b8 h1,show a+b-1=a+(b-1) by omega];exact ow n o_ ha o_
    ·exact ow n o_ ha hb
  ·rw[ml o_,ml o_];rfl
theorem qC:∀{l:List Qt} {i:Nat} (n:Nat) {o e:Nat},l.length-i<=n->endN (l.drop i) i o=some e->∃x,l[e]?=some x/\x.J0=7
 | l,i,0,o,e,hn,h=>by rw[ml o_]at h;cases h
 | l,i,n+1,o,e,hn,h=>by
  by_cases hi:i<l.length
  ·obtain⟨x,hx⟩:=ae hi;rw[eG hx]at h;split at h
   ·exact qC n o_ h
   ·split at h
    ·split at h
     ·injection h with h;subst h;exact⟨x,hx,by assumption⟩
     ·exact qC n o_ h
    ·exact qC n o_ h
  ·rw[ml o_]at h;cases h
theorem aI {l:List Qt}{k e:Nat}(h:h_ l k=some e):∃x,l[k]?=some x/\cU x.J0=true/\endN (l.drop (k+1)) (k+1) 1=some e/\k<e/\e<l.length:=by
 unfold h_ at h;split at h
 ·rename_i x hx;split at h
  ·rename_i ho;have:=kJ h;exact⟨x,hx,ho,h,o_,o_⟩
  ·cases h
 ·cases h
theorem ug {l:List Qt}{k:Nat}{x:Qt}(hx:l[k]?=some x)(ho:cU x.J0=true):h_ l k=endN (l.drop (k+1)) (k+1) 1:=by unfold h_;rw[hx];dsimp only;rw[b9 ho]
theorem bn {l:List Qt}{k e:Nat}(h:h_ l k=some e):∃x,l[e]?=some x/\x.J0=7:=by obtain⟨_,_,_,h,_⟩:=aI h;exact qC _ (d7 _) h
theorem ul:∀{l:List Qt} (n:Nat) {s o e i:Nat},i-s<=n->1<=o->endN (l.drop s) s o=some e->s<=i->i<=e->∃o',1<=o'/\endN (l.drop i) i o'=some e
 | l,0,s,o,e,i,hn,ho,h,h1,h2=>by
  have:s=i:=o_;subst this
  exact⟨o,ho,h⟩
 | l,n+1,s,o,e,i,hn,ho,h,h1,h2=>by
  by_cases hs:s=i
  ·subst hs;exact⟨o,ho,h⟩
  have hl:=kJ h;obtain⟨x,hx⟩:=ae (l:=l) (k:=s) o_;rw[eG hx]at h;split at h
  ·exact ul n o_ o_ h o_ h2
  ·split at h
   ·split at h
    ·injection h with h;omega
    ·exact ul n o_ o_ h o_ h2
   ·exact ul n o_ ho h o_ h2
theorem dE {l:List Qt}{k e i:Nat}{x:Qt}(h:h_ l k=some e)(h1:k<i)(h2:i<e)(hx:l[i]?=some x)(ho:cU x.J0=true):∃m,h_ l i=some m/\i<m/\m<e:=by
 obtain⟨_,_,_,he,_,O4⟩:=aI h;obtain⟨o,ho1,R8⟩:=ul _ (d7 _) (d7 1) he (by omega:k+1<=i) o_;rw[eG hx,b9 ho,ow _ (d7 _) ho1 (d7 1)]at R8
 cases hm:endN (l.drop (i+1)) (i+1) 1 with
 | none=>rw[hm]at R8;cases R8
 | some m=>rw[hm]at R8;have h3:=kJ hm;have h4:=kJ (show endN (l.drop (m+1)) (m+1) o=some e from R8);exact⟨m,by rw[ug hx ho];exact hm,o_,o_⟩
theorem bc {l:List Qt}{k:Nat}:bA l (k:Int)=cn (h_ l k):=by rw[bA,b9 o_,e7]
theorem aU {o:Option Nat}{n:Nat}(h:o=some n):cn o=(n:Int):=by rw[h];rfl
theorem kY {o:Option Nat}(h:o=none):cn o= -1:=by rw[h];rfl
def elseN (l:List Qt)(e:Nat):Nat->Nat->Option Nat
 | 0,_=>none
 | n+1,i=>if i<e then(match l[i]? with
  | some x=>if x.J0=4 then some i else if x.J0=3\/x.J0=5 then(match h_ l i with
   | some m=>elseN l e n (m+1)
   | none=>elseN l e n (i+1))else elseN l e n (i+1)
  | none=>none)else none
def i_ (l:List Qt)(k:Nat):Option Nat:=match l[k]?,h_ l k with
 | some x,some e=>if x.J0=3 then elseN l e (e-(k+1)) (k+1)else none
 | _,_=>none
def bi (l:List Qt)(k:Int):Int:=if 0<=k then cn (i_ l k.toNat)else -1
theorem jt {l:List Qt}{e:Nat}:∀{n m i:Nat},e-i<=n->e-i<=m->elseN l e n i=elseN l e m i
 | 0,0,_,_,_=>rfl
 | 0,m+1,i,h1,h2=>by rw[elseN,elseN,b8 o_]
 | n+1,0,i,h1,h2=>by rw[elseN,elseN,b8 o_]
 | n+1,m+1,i,h1,h2=>by
  rw[elseN,elseN];by_cases hi:i<e
  ·rw[b9 hi,b9 hi]
   cases hx:l[i]? with
   | none=>rfl
   | some x=>
    dsimp only;split
    ·rfl
    ·split
     ·cases hm:h_ l i with
      | none=>exact jt o_ o_
      | some m'=>have:=aI hm;obtain⟨_,_,_,_,h3,_⟩:=this;exact jt o_ o_
     ·exact jt o_ o_
  ·rw[b8 hi,b8 hi]
theorem Ad {l:List Qt}{e i:Nat}{x:Qt}(hi:i<e)(hx:l[i]?=some x):elseN l e (e-i) i=if x.J0=4 then some i else if x.J0=3\/x.J0=5 then(match h_ l i with
   | some m=>elseN l e (e-(m+1)) (m+1)
   | none=>elseN l e (e-(i+1)) (i+1))else elseN l e (e-(i+1)) (i+1):=by
 obtain⟨n,hn⟩:∃n,e-i=n+1:=⟨e-i-1,o_⟩;rw[hn,elseN,b9 hi,hx];dsimp only;split
 ·rfl
 ·split
  ·cases hm:h_ l i with
   | none=>exact jt o_ o_
   | some m=>obtain⟨_,_,_,_,h3,_⟩:=aI hm;exact jt o_ o_
  ·exact jt o_ o_
theorem Cg {l:List Qt}{e i n:Nat}(hi:e<=i):elseN l e n i=none:=by cases n with|zero=>rfl|succ n=>rw[elseN,b8 o_]
theorem oV {l:List Qt}{e:Nat}:∀{n i j:Nat},elseN l e n i=some j->i<=j/\j<e/\∃x,l[j]?=some x/\x.J0=4
 | 0,_,_,h=>by rw[elseN]at h;cases h
 | n+1,i,j,h=>by
  rw[elseN]at h;split at h
  ·rename_i hi;split at h
   ·rename_i x hx;split at h
    ·injection h with h;subst h;exact⟨o_,hi,x,hx,by assumption⟩
    ·split at h
     ·split at h
      ·rename_i m hm;obtain⟨_,_,_,_,h3,_⟩:=aI hm;have:=oV h;exact⟨o_,this.2⟩
      ·have:=oV h;exact⟨o_,this.2⟩
     ·have:=oV h;exact⟨o_,this.2⟩
   ·cases h
  ·cases h
theorem aP {l:List Qt}{k j:Nat}(h:i_ l k=some j):∃x e,l[k]?=some x/\x.J0=3/\h_ l k=some e/\k<j/\j<e/\∃y,l[j]?=some y/\y.J0=4:=by
 unfold i_ at h;split at h
 ·rename_i x e hx he;split at h
  ·rename_i h3;have:=oV h;exact⟨x,e,hx,h3,he,o_,this.2⟩
  ·cases h
 ·cases h
def funsF:List Qt->Nat->List Nat
 | [],_=>[]
 | x::l,i=>(if x.J0=0 then [i]else [])++funsF l (i+1)
def aq (l:List Qt):List Nat:=funsF l 0
theorem mK {l:List Qt}{i:Nat}{x:Qt}(hx:l[i]?=some x):funsF (l.drop i) i=(if x.J0=0 then [i]else [])++funsF (l.drop (i+1)) (i+1):=by rw[dX hx,funsF]
theorem pP:∀(l:List Qt) (i:Nat),(funsF l i).length<=l.length
 | [],_=>by simp[funsF]
 | x::l,i=>by
  have:=pP l (i+1);rw[funsF,c7,d6];split<;>simp<;>omega
theorem V122{p:Prop}(h:p:=by
 refine⟨o_,by simp only[d6];omega,y,?_,hk⟩;rw[show k-i=(k-(i+1))+1 by omega,j8]
 exact hy):p:=h
theorem uu:∀{l:List Qt} {i k:Nat},k∈funsF l i->i<=k/\k<i+l.length/\∃x,l[k-i]?=some x/\x.J0=0
 | [],_,_,h=>by simp[funsF]at h
 | x::l,i,k,h=>by
  rw[funsF,f0]at h;rcases h with h|h
  ·split at h
   ·simp only[d8,m8,or_false]at h;subst h;exact⟨o_,s_,x,s_,by assumption⟩
   ·cases h
  ·obtain⟨h1,h2,y,hy,hk⟩:=uu h;exact V122
theorem kN {l:List Qt}{k:Nat}(h:k∈aq l):k<l.length/\∃x,l[k]?=some x/\x.J0=0:=by have:=uu h;simpa using this.2
def findN:List Qt->Nat->List UInt8->Option Nat
 | [],_,_=>none
 | x::l,i,s=>if x.J0=0/\x.J7=s then some i else findN l (i+1) s
def fS (l:List Qt)(s:List UInt8):Int:=cn (findN l 0 s)
theorem Gg {l:List Qt}{i:Nat}{x:Qt}{s:List UInt8}(hx:l[i]?=some x):findN (l.drop i) i s=if x.J0=0/\x.J7=s then some i else findN (l.drop (i+1)) (i+1) s:=by rw[dX hx,findN]
theorem yV:∀{l:List Qt} {i k:Nat} {s:List UInt8},findN l i s=some k->i<=k/\k<i+l.length/\∃x,l[k-i]?=some x/\x.J0=0/\x.J7=s
 | [],_,_,_,h=>by rw[findN]at h;cases h
 | x::l,i,k,s,h=>by
  rw[findN]at h;split at h
  ·injection h with h;subst h;exact⟨o_,s_,x,s_,by assumption⟩
  ·obtain⟨h1,h2,y,hy,hk⟩:=yV h;exact V122
theorem dR {l:List Qt}{k:Nat}{s:List UInt8}(h:findN l 0 s=some k):k<l.length/\∃x,l[k]?=some x/\x.J0=0/\x.J7=s:=by have:=yV h;simpa using this.2
def gZ (acc:List (List UInt8))(s:List UInt8):List (List UInt8):=if acc.contains s=true then acc else acc++[s]
def locN (l:List Qt)(e:Nat):Nat->Nat->List (List UInt8)->List (List UInt8)
 | 0,_,acc=>acc
 | n+1,i,acc=>if i<e then(match l[i]? with
  | some x=>locN l e n (i+1) (if x.J0=1 then gZ acc x.J7 else acc)
  | none=>acc)else acc
def a_ (l:List Qt)(k:Int):List (List UInt8):=if 0<=k then(match l[k.toNat]?,h_ l k.toNat with
 | some x,some e=>if x.J0=0 then locN l e (e-k.toNat) k.toNat x.L3 else []
 | _,_=>[])else []
theorem AP {l:List Qt}{e i:Nat}{x:Qt}{acc:List (List UInt8)}(hi:i<e)(hx:l[i]?=some x):locN l e (e-i) i acc=locN l e (e-(i+1)) (i+1) (if x.J0=1 then gZ acc x.J7 else acc):=by rw[show e-i=(e-(i+1))+1 by omega,locN,b9 hi,hx]
theorem DU {l:List Qt}{e i n:Nat}{acc:List (List UInt8)}(hi:e<=i):locN l e n i acc=acc:=by cases n with|zero=>rfl|succ n=>rw[locN,b8 o_]
theorem El (acc:List (List UInt8))(s:List UInt8):(gZ acc s).length<=acc.length+1:=by unfold gZ;split<;>simp
theorem Fh {l:List Qt}{e:Nat}:∀(n i:Nat) (acc:List (List UInt8)),(locN l e n i acc).length<=acc.length+n
 | 0,_,_=>by simp[locN]
 | n+1,i,acc=>by
  rw[locN];split
  ·split
   ·refine s8 (Fh n _ _) ?_;split
    ·have:=El acc (by assumption:Qt).J7;omega
    ·omega
   ·omega
  ·omega
def bR (l:List Qt)(locals:List (List UInt8))(t:QC):Bool:=
 if t.J0=1 then locals.contains t.J7
 else if t.J0=7 then(match findN l 0 t.J7 with
  | some f=>(match l[f]? with|some x=>(x.L3.length:Int)==t.M1|none=>false)
  | none=>false)
 else true
def bQ (l:List Qt)(locals:List (List UInt8))(ts:List QC):Bool:=ts.all (bR l locals)
def dep (x:Qt)(d:Nat):Nat:=if x.J0=3\/x.J0=5 then d+1 else if x.J0=7 then d-1 else d
def jo (l:List Qt)(locals:List (List UInt8))(e:Nat):Nat->Nat->Nat->Bool
 | 0,_,_=>true
 | n+1,i,d=>if i<e then(match l[i]? with
  | some x=>if x.J0=0 then false else
   if dep x d<=4/\bQ l locals x.L0=true then jo l locals e n (i+1) (dep x d)else false
  | none=>false)else true
theorem zk {l:List Qt}{locals:List (List UInt8)}{e i d:Nat}{x:Qt}(hi:i<e)(hx:l[i]?=some x):jo l locals e (e-i) i d=if x.J0=0 then false else if dep x d<=4/\bQ l locals x.L0=true then jo l locals e (e-(i+1)) (i+1) (dep x d)else false:=by rw[show e-i=(e-(i+1))+1 by omega,jo,b9 hi,hx]
theorem BG {l:List Qt}{locals:List (List UInt8)}{e i d n:Nat}(hi:e<=i):jo l locals e n i d=true:=by cases n with|zero=>rfl|succ n=>rw[jo,b8 o_]
def anyE (l:List Qt)(i:Nat):Nat->Nat->Bool
 | 0,_=>false
 | n+1,j=>(i_ l j==some i)||anyE l i n (j+1)
theorem pA {l:List Qt}{i:Nat}:∀{n j:Nat},anyE l i n j=true↔∃k,j<=k/\k<j+n/\i_ l k=some i
 | 0,j=>by
  rw[anyE]
  exact⟨fun h=>aa4,fun⟨k,h1,h2,_⟩=>o_⟩
 | n+1,j=>by
  rw[anyE,x9,pA,w5];constructor
  ·rintro(h|⟨k,h1,h2,h3⟩)
   ·exact⟨j,o_,o_,h⟩
   ·exact⟨k,o_,o_,h3⟩
  ·rintro⟨k,h1,h2,h3⟩;by_cases hk:k=j
   ·subst hk;exact .inl h3
   ·exact .inr ⟨k,o_,o_,h3⟩
def elsesIn (l:List Qt)(k e:Nat):Nat->Nat->Bool
 | 0,_=>true
 | n+1,i=>if i<e then(match l[i]? with
  | some x=>(if x.J0=4 then anyE l i (i-k) k else true)&&elsesIn l k e n (i+1)
  | none=>true)else true
theorem jU {l:List Qt}{k e:Nat}:∀{n i:Nat},e-i<=n->(elsesIn l k e n i=true↔∀j x,i<=j->j<e->l[j]?=some x->x.J0=4->anyE l j (j-k) k=true)
 | 0,i,h=>⟨fun _ j x h1 h2=>o_,fun _=>rfl⟩
 | n+1,i,h=>by
  rw[elsesIn];by_cases hi:i<e
  ·rw[b9 hi]
   cases hx:l[i]? with
   | none=>
    refine⟨fun _ j x h1 h2 hj=>?_,fun _=>rfl⟩;have:l.length<=i:=F1.1 hx;rw[e9 o_]at hj
    cases hj
   | some x=>
    dsimp only;rw[d5,jU o_];constructor
    ·rintro⟨h1,h2⟩ j y hj1 T3 hy hk;by_cases he:j=i
     ·subst he;rw[hx]at hy;injection hy with hy;subst hy;rw[b9 hk]at h1;exact h1
     ·exact h2 j y o_ T3 hy hk
    ·intro H;refine⟨?_,fun j y hj1 T3 hy hk=>H j y o_ T3 hy hk⟩;split
     ·exact H i x (d7 _) hi hx aav
     ·rfl
  ·rw[b8 hi];exact⟨fun _ j x h1 h2=>o_,fun _=>rfl⟩
def oh (l:List Qt)(locals:List (List UInt8))(k e:Nat):Nat->Nat->Nat->Bool
 | 0,_,_=>true
 | n+1,i,d=>if i<e then(match l[i]? with
  | some x=>if x.J0=0 then false else if x.J0=4/\anyE l i (i-k) k=false then false else
   if dep x d<=4/\bQ l locals x.L0=true then oh l locals k e n (i+1) (dep x d)else false
  | none=>false)else true
theorem GQ {l:List Qt}{locals:List (List UInt8)}{k e i d:Nat}{x:Qt}(hi:i<e)(hx:l[i]?=some x):oh l locals k e (e-i) i d=if x.J0=0 then false else if x.J0=4/\anyE l i (i-k) k=false then false else if dep x d<=4/\bQ l locals x.L0=true then oh l locals k e (e-(i+1)) (i+1) (dep x d)else false:=by rw[show e-i=(e-(i+1))+1 by omega,oh,b9 hi,hx]
theorem Jw {l:List Qt}{locals:List (List UInt8)}{k e i d n:Nat}(hi:e<=i):oh l locals k e n i d=true:=by cases n with|zero=>rfl|succ n=>rw[oh,b8 o_]
theorem Gz {l:List Qt}{locals:List (List UInt8)}{k e:Nat}:∀{n i d:Nat},oh l locals k e n i d=(jo l locals e n i d&&elsesIn l k e n i)
 | 0,i,d=>rfl
 | n+1,i,d=>by
  rw[oh,jo,elsesIn];by_cases hi:i<e
  ·rw[b9 hi,b9 hi,b9 hi]
   cases hx:l[i]? with
   | none=>rfl
   | some x=>
    dsimp only;by_cases h0:x.J0=0
    ·rw[b9 h0,b9 h0];rfl
    ·rw[b8 h0,b8 h0];rw[Gz];by_cases h4:x.J0=4
     ·rw[b9 h4]
      cases ha:anyE l i (i-k) k with
      | false=>rw[b9 ⟨h4,rfl⟩];simp
      | true=>rw[b8 s_];split<;>simp_all
     ·rw[b8 (by simp[h4]),b8 h4];split<;>simp_all
  ·rw[b8 hi,b8 hi,b8 hi];rfl
def kL (l:List Qt)(k e:Nat):Bool:=decide ((a_ l (k:Int)).length<=8)&&jo l (a_ l (k:Int)) e (e-(k+1)) (k+1) 0
def om (l:List Qt)(k e:Nat):Bool:=decide ((a_ l (k:Int)).length<=8)&&oh l (a_ l (k:Int)) k e (e-(k+1)) (k+1) 0
theorem pG {l:List Qt}{k e:Nat}:om l k e=(kL l k e&&elsesIn l k e (e-(k+1)) (k+1)):=by rw[om,kL,Gz,Bool.and_assoc]
theorem sr {l:List Qt}{k e:Nat}(h:kL l k e=true)(he:e<=l.length):∀i x,k<i->i<e->l[i]?=some x->x.J0≠0:=by
 rw[kL,d5]at h
 have key:∀(n i d:Nat),e-i<=n->jo l (a_ l (k:Int)) e n i d=true->∀j x,i<=j->j<e->l[j]?=some x->x.J0≠0:=by
  intro n
  induction n with
  | zero=>intro i d hn _ j x h1 h2;omega
  | succ n ih=>
   intro i d hn hb j x h1 h2 hx;rw[jo,b9 o_]at hb;obtain⟨y,hy⟩:=ae (l:=l) (k:=i) o_;rw[hy]at hb;dsimp only at hb;split at hb
   ·cases hb
   ·rename_i h0;split at hb
    ·by_cases hj:j=i
     ·subst hj;rw[hy]at hx;injection hx with hx;subst hx;exact h0
     ·exact ih (i+1) _ o_ hb j x o_ h2 hx
    ·cases hb
 exact fun i x h1 h2 hx=>key _ _ _ (d7 _) h.2 i x o_ h2 hx
def ck (F:Nat->Nat->Bool)(l:List Qt):Nat->Nat->Bool
 | 0,k=>decide (l.length<=k)
 | n+1,k=>if k<l.length then(match l[k]?,h_ l k with
  | some x,some e=>if x.J0=0/\F k e=true then ck F l n (e+1)else false
  | _,_=>false)else true
theorem lY {F:Nat->Nat->Bool}{l:List Qt}{k n:Nat}{x:Qt}(hx:l[k]?=some x)(hn:l.length-k<=n):ck F l n k=match h_ l k with|some e=>if x.J0=0/\F k e=true then ck F l (l.length-(e+1)) (e+1)else false|none=>false:=by
 have more:∀(n m k:Nat),l.length-k<=n->l.length-k<=m->ck F l n k=ck F l m k:=by
  intro n
  induction n with
  | zero=>
   intro m k h1 h2;rw[ck,q9 o_]
   cases m with|zero=>rw[ck,q9 o_]|succ m=>rw[ck,b8 o_]
  | succ n ih=>
   intro m k h1 h2
   cases m with
   | zero=>rw[ck,ck,b8 o_,q9 o_]
   | succ m=>
    rw[ck,ck];split
    ·split
     ·rename_i x e hx he;obtain⟨_,_,_,_,h3,_⟩:=aI he;split
      ·exact ih m (e+1) o_ o_
      ·rfl
     ·rfl
    ·rfl
 have hk:k<l.length:=by exact V145
 obtain⟨m,rfl⟩:∃m,n=m+1:=⟨n-1,o_⟩;rw[ck,b9 hk,hx]
 cases he:h_ l k with
 | none=>rfl
 | some e=>
  obtain⟨_,_,_,_,h3,_⟩:=aI he;dsimp only;split
  ·exact more _ _ _ o_ o_
  ·rfl
theorem rJ {F:Nat->Nat->Bool}{l:List Qt}{k n:Nat}(hk:l.length<=k):ck F l n k=true:=by cases n with|zero=>rw[ck,q9 hk]|succ n=>rw[ck,b8 o_]
def kH (l:List Qt):Bool:=elsesIn l 0 l.length l.length 0
def nameFirst (l:List Qt)(k:Nat):Bool:=match l[k]? with|some x=>findN l 0 x.J7==some k|none=>false
def jA (l:List Qt):List Nat->Nat->Bool
 | [],next=>kH l&&(next==l.length)
 | k::fs,next=>match h_ l k with
  | some e=>if k=next/\nameFirst l k=true/\kL l k e=true then jA l fs (e+1)else false
  | none=>false
theorem yP {l:List Qt}{i e:Nat}:∀(n:Nat),e-i<=n->i<=e->e<=l.length->(∀j x,i<=j->j<e->l[j]?=some x->x.J0≠0)->funsF (l.drop i) i=funsF (l.drop e) e
 | n,hn,hi,he,h=>by
  by_cases hx:i=e
  ·subst hx;rfl
  obtain⟨x,Wp⟩:=ae (l:=l) (k:=i) o_
  cases n with
  | zero=>omega
  | succ n=>rw[mK Wp,b8 (h i x (d7 _) o_ Wp),r9];exact yP n o_ o_ he fun j y h1 h2=>h j y o_ h2
theorem BZ {l:List Qt}:∀(n i:Nat),l.length-i<=n->i<=l.length->jA l (funsF (l.drop i) i) i=((funsF (l.drop i) i).all (nameFirst l)&&ck (kL l) l (l.length-i) i&&kH l)
 | n,i,hn,hi=>by
  by_cases O4:i<l.length
  ·obtain⟨x,hx⟩:=ae O4;rw[lY hx (d7 _)];by_cases h0:x.J0=0
   ·rw[mK hx,b9 h0,p9,r9,jA,F3]
    cases he:h_ l i with
    | none=>simp
    | some e=>
     dsimp only;obtain⟨_,_,_,_,h3,h4⟩:=aI he
     cases hf:kL l i e with
     | false=>simp
     | true=>
      have SX:=sr hf o_
      have SZ:funsF (l.drop (i+1)) (i+1)=funsF (l.drop (e+1)) (e+1):=by
       refine yP _ (d7 _) o_ o_ fun j y h5 h6 hy=>?_;by_cases Ut:j=e
       ·subst Ut;obtain⟨z,hz,Yo⟩:=bn he;rw[hy]at hz;injection hz with hz;subst hz;omega
       ·exact SX j y o_ o_ hy
      cases n with
      | zero=>omega
      | succ n=>
       have ih:=BZ (l:=l) n (e+1) o_ o_;rw[SZ]
       cases Sp:nameFirst l i with
       | false=>simp
       | true=>rw[b9 ⟨rfl,rfl,rfl⟩,b9 ⟨h0,rfl⟩,ih];simp
   ·have hc:(match h_ l i with|some e=>if x.J0=0/\kL l i e=true then ck (kL l) l (l.length-(e+1)) (e+1)else false|none=>false)=false:=by cases h_ l i with|none=>rfl|some e=>dsimp only;rw[b8 (by simp[h0])]
    rw[hc,E9,n4];rw[mK hx,b8 h0,r9]
    cases TD:funsF (l.drop (i+1)) (i+1)with
    | nil=>
     rw[jA];have:(i==l.length)=false:=by rw[w3];omega
     rw[this,E9]
    | cons k fs=>
     have hk:k∈funsF (l.drop (i+1)) (i+1):=(by rw[TD];simp);have:=(uu hk).1;rw[jA]
     cases h_ l k with|none=>rfl|some e=>dsimp only;rw[b8 o_]
  ·have:i=l.length:=o_;subst this;rw[m6 (d7 _),funsF,jA,rJ (d7 _)];simp
theorem Cq {l:List Qt}:∀(n k:Nat),l.length-k<=n->k<=l.length->(∀j m,j<k->h_ l j=some m->m<k)->
  (ck (om l) l (l.length-k) k=(ck (kL l) l (l.length-k) k&&elsesIn l 0 l.length (l.length-k) k))
 | n,k,hn,hk,hP=>by
  by_cases O4:k<l.length
  ·obtain⟨x,hx⟩:=ae O4;rw[lY hx (d7 _),lY hx (d7 _)]
   cases he:h_ l k with
   | none=>simp
   | some e=>
    dsimp only;obtain⟨_,TA,ho,_,h3,h4⟩:=aI he;obtain⟨z,hz,Yo⟩:=bn he;by_cases h0:x.J0=0
    ·have hP':∀j m,j<e+1->h_ l j=some m->m<e+1:=by
      intro j m hj hm;rcases y7 j k with SN|SN|SN
      ·have:=hP j m SN hm;omega
      ·subst SN;rw[he]at hm;injection hm with hm;omega
      ·obtain⟨y,hy,hyo,_⟩:=aI hm;by_cases Ut:j=e
       ·subst Ut;rw[hz]at hy;injection hy with hy;subst hy;rw[opensK_iff]at hyo;omega
       ·obtain⟨m',Sh,_,h5⟩:=dE he SN o_ hy hyo;rw[hm]at Sh;injection Sh with Sh;omega
     cases n with
     | zero=>omega
     | succ n=>
      have ih:=Cq (l:=l) n (e+1) o_ o_ hP'
      have acp:elsesIn l 0 l.length (l.length-k) k=(elsesIn l k e (e-(k+1)) (k+1)&&elsesIn l 0 l.length (l.length-(e+1)) (e+1)):=by
       rw[u0,d5,jU (d7 _),jU (d7 _),jU (d7 _)];constructor
       ·intro H;refine⟨fun j y h5 h6 hy h7=>?_,fun j y h5 h6 hy h7=>H j y o_ h6 hy h7⟩;have:=H j y o_ o_ hy h7;rw[pA]at this⊢;obtain⟨i,h8,h9,Ym⟩:=this;refine⟨i,?_,o_,Ym⟩;rcases n5 i k with WJ|WJ
        ·obtain⟨_,m,_,_,h12,_,h13,_⟩:=aP Ym;have:=hP i m WJ h12;omega
        ·exact WJ
       ·rintro⟨H1,H2⟩ j y h5 h6 hy h7;rcases n5 e j with h8|h8
        ·exact H2 j y h8 h6 hy h7
        ·have Ut:j≠e:=fun h=>by
          subst h;rw[hz]at hy;injection hy with hy;subst hy;omega
         have SN:j≠k:=fun h=>by
          subst h;rw[hx]at hy;injection hy with hy;subst hy;omega
         have:=H1 j y o_ o_ hy h7;rw[pA]at this⊢;obtain⟨i,h9,Ym,WJ⟩:=this;exact⟨i,o_,o_,WJ⟩
      rw[acp,ih,pG]
      cases kL l k e<;>cases elsesIn l k e (e-(k+1)) (k+1)<;>simp[h0]
    ·rw[b8 (by simp[h0]),b8 (by simp[h0])];rfl
  ·have:k=l.length:=o_;subst this;rw[rJ (d7 _),rJ (d7 _)];rw[v6];rfl
def iM:List UInt8:=[109,97,105,110]
def headOk (l:List Qt):Bool:=match l with
 | []=>false
 | x::_=>x.J0==0&&(x.J7==iM&&x.L3.length==0)
def ak (l:List Qt):Bool:=decide (l.length<=60)&&(decide (1<=(aq l).length/\(aq l).length<=6)&&(l.all cF&&(headOk l&&((aq l).all (nameFirst l)&&(ck (kL l) l l.length 0&&kH l)))))
theorem Hn (l:List Qt):jA l (aq l) 0=((aq l).all (nameFirst l)&&(ck (kL l) l l.length 0&&kH l)):=by have:=BZ (l:=l) _ 0 (d7 _) o_;rw[A1]at this;rw[aq,this,u7,Bool.and_assoc]
theorem rx (l:List Qt):ck (om l) l l.length 0=(ck (kL l) l l.length 0&&kH l):=by have:=Cq (l:=l) _ 0 (d7 _) o_ (fun j m h=>o_);rw[u7]at this;exact this
def StkOk (l:List Qt)(e:Nat):Nat->List Nat->Prop
 | i,[]=>endN (l.drop i) i 1=some e
 | i,m::es=>i<=m/\endN (l.drop i) i 1=some m/\StkOk l e (m+1) es
theorem StkOk.push {l:List Qt}{e i:Nat}{es:List Nat}{x:Qt}(h:StkOk l e i es)(hx:l[i]?=some x)(ho:cU x.J0=true):∃m,h_ l i=some m/\i<m/\StkOk l e (i+1) (m::es):=by
 have key:∀m',endN (l.drop i) i 1=some m'->∃m,h_ l i=some m/\i<m/\endN (l.drop (i+1)) (i+1) 1=some m/\endN (l.drop (m+1)) (m+1) 1=some m':=by
  intro m' hm;rw[eG hx,b9 ho,ow _ (d7 _) (d7 1) (d7 1)]at hm
  cases h1:endN (l.drop (i+1)) (i+1) 1 with
  | none=>rw[h1]at hm;cases hm
  | some m=>rw[h1]at hm;have:=kJ h1;exact⟨m,by rw[ug hx ho];exact h1,o_,rfl,hm⟩
 cases es with
 | nil=>
  obtain⟨m,h1,h2,h3,h4⟩:=key e h
  exact⟨m,h1,h2,o_,h3,h4⟩
 | cons m' es=>obtain⟨g1,g2,g3⟩:=h;obtain⟨m,h1,h2,h3,h4⟩:=key m' g2;have:=kJ h4;exact⟨m,h1,h2,o_,h3,o_,h4,g3⟩
theorem StkOk.other {l:List Qt}{e i:Nat}{es:List Nat}{x:Qt}(h:StkOk l e i es)(hx:l[i]?=some x)(ho:cU x.J0=false)(h7:x.J0≠7):StkOk l e (i+1) es:=by
 have key:∀m',endN (l.drop i) i 1=some m'->endN (l.drop (i+1)) (i+1) 1=some m':=by intro m' hm;rw[eG hx,b8 aao,b8 h7]at hm;exact hm
 cases es with
 | nil=>exact key e h
 | cons m' es=>obtain⟨g1,g2,g3⟩:=h;have:=kJ (key m' g2);exact⟨o_,key m' g2,g3⟩
theorem StkOk.pop {l:List Qt}{e i:Nat}{es:List Nat}{x:Qt}(h:StkOk l e i es)(hx:l[i]?=some x)(h7:x.J0=7):(es=[]/\i=e)\/∃R6,es=i::R6/\StkOk l e (i+1) R6:=by
 have ho:¬cU x.J0=true:=by rw[opensK_iff];omega
 cases es with
 | nil=>
  unfold StkOk at h;rw[eG hx,b8 ho,b9 h7,b9 rfl]at h;injection h with h
  exact .inl ⟨rfl,h⟩
 | cons m' es=>obtain⟨g1,g2,g3⟩:=h;rw[eG hx,b8 ho,b9 h7,b9 rfl]at g2;injection g2 with g2;subst g2;exact .inr ⟨es,rfl,g3⟩
theorem StkOk.le {l:List Qt}{e:Nat}:∀{i:Nat} {es:List Nat},StkOk l e i es->i<=e
 | i,[],h=>(kJ h).1
 | i,m::es,h=>by
  have:=StkOk.le h.2.2;have:=h.1;omega
inductive Ex where
 | node (t:QC) (es:List Ex)
mutual
def Ex.toks:Ex->List QC
 | .node t es=>t::ao es
def ao:List Ex->List QC
 | []=>[]
 | a::es=>a.toks++ao es
end
mutual
def Ex.ok:Ex->Prop
 | .node t es=>fI t=true/\es.length=ar t/\jd es
def jd:List Ex->Prop
 | []=>True
 | a::es=>a.ok/\jd es
end
theorem Ex.toks_pos (e:Ex):0<e.toks.length:=by cases e;simp[Ex.toks]
theorem gM:∀(a b:List Ex),ao (a++b)=ao a++ao b
 | [],b=>by rw[r9,ao,r9]
 | x::a,b=>by rw[p9,ao,ao,gM a b,l9]
theorem zV:∀{l:List Ex} (n:Nat),jd l->jd (l.take n)
 | [],n,h=>by rw[List.take_nil];exact h
 | x::l,0,h=>by rw[D1];trivial
 | x::l,n+1,h=>by rw[s5];exact⟨h.1,zV n h.2⟩
theorem yu:∀{l:List Ex} (n:Nat),jd l->jd (l.drop n)
 | [],n,h=>by rw[List.drop_nil];exact h
 | x::l,0,h=>h
 | x::l,n+1,h=>by rw[List.drop_succ_cons];exact yu n h.2
theorem yU:∀{l:List QC} {p n e:Nat},endL l p n=some e->∃es:List Ex,es.length=n/\jd es/\∃rest,l=ao es++rest/\p+(ao es).length=e
 | l,p,0,e,h=>by
  have h:some p=some e:=by cases l<;>exact h
  injection h with h
  exact⟨[],rfl,trivial,l,rfl,by simp[ao];omega⟩
 | [],_,_+1,_,h=>by rw[endL]at h;cases h
 | t::l,p,n+1,e,h=>by
  rw[endL]at h;split at h
  ·rename_i O7;obtain⟨es,h1,h2,rest,h3,h4⟩:=yU h;refine⟨.node t (es.take (ar t))::es.drop (ar t),by simp;omega,⟨⟨O7,by simp;omega,zV _ h2⟩,yu _ h2⟩,rest,?_,?_⟩
   ·rw[ao,Ex.toks,p9,<-gM,x5,p9,<-h3]
   ·rw[ao,Ex.toks,p9,<-gM,x5,d6];omega
  ·cases h
mutual
theorem Ex.endL:∀(e:Ex),e.ok->∀(r:List QC) (p n:Nat),Go.Proofs.P.endL (e.toks++r) p (n+1)=Go.Proofs.P.endL r (p+e.toks.length) n
 | .node t es,h,r,p,n=>by
  rw[Ex.toks,p9,Go.Proofs.P.endL,b9 h.1,show n+ar t=n+es.length by rw[h.2.1],Fs es h.2.2,d6];congr 1;omega
theorem Fs:∀(es:List Ex),jd es->∀(r:List QC) (p n:Nat),Go.Proofs.P.endL (ao es++r) p (n+es.length)=Go.Proofs.P.endL r (p+(ao es).length) n
 | [],_,r,p,n=>by rw[ao];simp
 | a::es,h,r,p,n=>by
  rw[ao,l9,d6,show n+(es.length+1)=(n+es.length)+1 by omega,Ex.endL a h.1,Fs es h.2,c7];congr 1;omega
end
theorem kQ {l:List QC}(h:bq l=true):∃e:Ex,e.ok/\l=e.toks:=by
 unfold bq at h;simp only[d5,i8,w5]at h;obtain⟨_,h1,h2⟩:=h;rw[ez,b9 o_]at h2;show ∃e:Ex,e.ok/\l=e.toks
 cases he:Go.Proofs.P.endL (l.drop (0:Int).toNat) (0:Int).toNat 1 with
 | none=>rw[he]at h2;simp only[cn]at h2;omega
 | some e=>
  rw[he]at h2;simp only[cn]at h2;obtain⟨es,g1,g2,rest,g3,g4⟩:=yU he
  match es,g1 with
  | [a],_=>
   rw[ao,ao,m7]at g3 g4;have e0:l.drop (0:Int).toNat=l:=rfl;rw[e0]at g3
   have:rest=[]:=by have:=congrArg List.length g3;rw[c7]at this;have e1:(0:Int).toNat=0:=rfl;rw[e1]at g4;exact z4.1 o_
   subst this;exact⟨a,g2.1,by rw[g3,m7]⟩
def iv (l:List QC)(p:Nat)(e:Ex):Prop:=∃r,l.drop p=e.toks++r
def lp (l:List QC)(p:Nat)(es:List Ex):Prop:=∃r,l.drop p=ao es++r
theorem ll {l:List QC}{p:Nat}{e:Ex}(h:iv l p e)(ho:e.ok):ez l (p:Int)=((p+e.toks.length:Nat):Int):=by
 obtain⟨r,h⟩:=h;rw[ez,b9 o_,e7,h,show(1:Nat)=0+1 from rfl,Ex.endL e ho]
 cases r<;>rfl
theorem ip {l:List QC}{p:Nat}{t:QC}{es:List Ex}(h:iv l p (.node t es)):l[p]?=some t/\lp l (p+1) es:=by
 obtain⟨r,h⟩:=h;rw[Ex.toks,p9]at h;refine⟨?_,r,?_⟩
 ·have:=congrArg (·[0]?) h;simpa [w7]using this
 ·have:=congrArg (·.drop 1) h;simpa [H6]using this
theorem fC {l:List QC}{p:Nat}{a:Ex}{es:List Ex}(h:lp l p (a::es)):iv l p a/\lp l (p+a.toks.length) es:=by obtain⟨r,h⟩:=h;rw[ao,l9]at h;refine⟨⟨_,h⟩,r,?_⟩;rw[<-H6,h,List.drop_left]
def iS:Nat->List Ex->List Nat
 | _,[]=>[]
 | p,a::es=>p::iS (p+a.toks.length) es
theorem tw:∀(p:Nat) (es:List Ex),(iS p es).length=es.length
 | _,[]=>rfl
 | p,a::es=>by rw[iS,d6,tw,d6]
theorem xP:∀{l:List QC} {p:Nat} {es:List Ex} {k:Nat} {a:Ex},lp l p es->es[k]?=some a->∃q,(iS p es)[k]?=some q/\iv l q a
 | _,_,[],_,_,_,h=>by simp at h
 | l,p,b::es,0,a,hs,h=>by
  rw[f9]at h;injection h with h;subst h
  exact⟨p,by rw[iS,f9],(fC hs).1⟩
 | l,p,b::es,k+1,a,hs,h=>by
  rw[j8]at h;obtain⟨q,h1,h2⟩:=xP (fC hs).2 h;exact⟨q,by rw[iS,j8];exact h1,h2⟩
theorem qs {t:QC}(h:fI t=true):t.J0=0\/t.J0=1\/t.J0=7\/(2<=t.J0/\t.J0<=6):=by
 unfold fI at h;split at h
 ·omega
 ·split at h
  ·omega
  ·split at h
   ·omega
   ·simp only[d5,within_iff]at h;omega
theorem xS {t:QC}(h:fI t=true):((t.J0=0\/t.J0=1)->ar t=0)/\(t.J0=7->(ar t:Int)=t.M1)/\(2<=t.J0->t.J0<=6->ar t=2):=by
 obtain⟨e1,_⟩:=rg h;unfold nX at e1;rw[b8 abd]at e1;refine⟨fun h0=>?_,fun h7=>?_,fun h2 h6=>?_⟩
 ·rw[b8 o_,b9 h0]at e1;omega
 ·rw[b9 h7]at e1;omega
 ·rw[b8 o_,b8 o_]at e1;omega
theorem kb:∀{l:List QC} {p:Nat} {es:List Ex} {j:Nat} {a:Ex},lp l p es->es[j]?=some a->iv l (p+(ao (es.take j)).length) a
 | _,_,[],_,_,_,h=>by simp at h
 | l,p,b::es,0,a,hs,h=>by
  rw[f9]at h;injection h with h;subst h
  simpa [ao]using(fC hs).1
 | l,p,b::es,j+1,a,hs,h=>by
  rw[j8]at h;have:=kb (fC hs).2 h;rw[s5,ao,c7,<-D7];exact this
end Go.Proofs.P
namespace Go.Proofs.P
noncomputable section
open Go.Sim Tryz
structure Cx where
 p:List Qt
 b:Ql
 J8:Bool
 J1:Int
 args:Int
structure Sc where
 f:Nat
 I9:List Int
 J3:List (List UInt8)
 first:Int
 J9:Bool
structure Gs where
 I8:List Qs
 J4:Int
 start:Bool
def kw (C:Cx)(s:Gs)(depth code arg line:Int)(chain:List Int):Qs:=⟨⟨code,arg⟩,line,s.start,chain,if C.J8=true/\0<s.I8.length then 0 else depth,C.J8&&decide (0<s.I8.length)⟩
def aB (C:Cx)(s:Gs)(depth code arg line:Int)(chain:List Int):Gs:=⟨s.I8++[kw C s depth code arg line chain],s.J4,false⟩
def jl (C:Cx)(x:Sc)(i:Int):Bool:=x.J9&&decide (i<C.args)
def eI (C:Cx)(x:Sc)(i:Int):Int:=if x.J9=true then i-C.args else x.first+i
def bL (C:Cx)(store:Bool):Int:=(if C.J8=true then 1 else 3)+(if store=true then 1 else 0)
def bU (C:Cx)(x:Sc)(depth i:Int):Int:=
 if C.J8=true then(if jl C x i=true then 1+(C.args-i)else -1-eI C x i)
 else(if jl C x i=true then depth+(C.args-i)else depth-1-eI C x i)
def Ei (C:Cx)(x:Sc)(s:Gs)(depth i line:Int):Gs:=aB C s depth (bL C false) (bU C x depth i) line x.I9
def cX (C:Cx)(x:Sc)(s:Gs)(depth i line:Int)(chain:List Int):Gs:=aB C s depth (bL C true) (bU C x depth i) line chain
def bD (C:Cx)(y:Sc)(chain:List Int)(line:Int):Nat->Int->Gs->Gs
 | 0,_,s=>s
 | n+1,d,s=>bD C y chain line n (d-1) (cX C y s d n line chain)
def cj (C:Cx)(y:Sc)(chain:List Int)(line d:Int):Nat->Nat->Gs->Gs
 | 0,_,s=>s
 | n+1,i,s=>cj C y chain line d n (i+1) (cX C y (aB C s d 0 0 line chain) (d+1) i line chain)
def bv (l:List Qs)(j:Int)(v:Int):List Qs:=if 0<=j then(match l[j.toNat]? with
 | some x=>l.set j.toNat ⟨⟨x.K0.J5,v⟩,x.M8,x.L7,x.N0,x.M6,x.N2⟩
 | none=>l)else l
def patchL (l:List Qs)(v:Int):List Int->List Qs
 | []=>l
 | j::js=>patchL (bv l j v) v js
def iH (p:List Qt)(g:Nat):Nat:=((p.take g).filter fun x=>x.J0==0).length
def cv (C:Cx)(inside:List Nat)(g:Nat)(n:Nat):Bool:=decide ((inside.length:Int)<=C.b.M0)&&(decide (bA C.p (g:Int)-g<=9)&&(decide (n<200)&&!inside.contains g))
def fW (C:Cx)(rep:Sc->List Nat->Nat->Nat->Int->Gs->Gs)(x:Sc)(inside:List Nat)(line:Nat)(t:QC)(d:Int)(s:Gs):Gs:=
 if t.J0=0 then aB C s d 0 t.M1 line x.I9
 else if t.J0=1 then Ei C x s d (cN x.J3 t.J7) line
 else if t.J0=7 then(match findN C.p 0 t.J7 with
  | some g=>if cv C inside g s.I8.length=true then rep x inside line g d s else aB C s d 12 (iH C.p g) line x.I9
  | none=>s)
 else aB C s d (5+t.J0-2) 0 line x.I9
mutual
def dk (C:Cx)(rep:Sc->List Nat->Nat->Nat->Int->Gs->Gs)(x:Sc)(inside:List Nat)(line:Nat):Ex->Int->Gs->Gs
 | .node t es,d,s=>fW C rep x inside line t (d+es.length) (ce C rep x inside line es d s)
def ce (C:Cx)(rep:Sc->List Nat->Nat->Nat->Int->Gs->Gs)(x:Sc)(inside:List Nat)(line:Nat):List Ex->Int->Gs->Gs
 | [],_,s=>s
 | a::es,d,s=>ce C rep x inside line es (d+1) (dk C rep x inside line a d s)
end
def ba (C:Cx)(x:Sc):Int:=if x.J9=true then(x.J3.length:Int)-C.args else x.first+x.J3.length
def b_ (p:List Qt)(g:Nat):Nat:=match p[g]? with|some l=>l.L3.length|none=>0
def bF (C:Cx)(x:Sc)(line g:Nat):Sc:=⟨g,x.I9++[(line:Int)],a_ C.p (g:Int),ba C x,false⟩
def di (C:Cx)(x:Sc)(line g:Nat)(d:Int)(s:Gs):Gs:=
 cj C (bF C x line g) x.I9 line (d-b_ C.p g) ((a_ C.p (g:Int)).length-b_ C.p g) (b_ C.p g)
  (bD C (bF C x line g) x.I9 line (b_ C.p g) d ⟨s.I8,max s.J4 (ba C x+(a_ C.p (g:Int)).length),s.start⟩)
def bu (C:Cx)(x:Sc)(line:Nat)(d:Int)(s:Gs):Gs:=if s.start=true then aB C s d 15 0 line x.I9 else s
def fH (C:Cx)(lines:Sc->List Nat->Int->Gs->Gs×List Int)(x:Sc)(inside:List Nat)(line g:Nat)(d:Int)(s:Gs):Gs:=
 let r:=lines (bF C x line g) (inside++[g]) (d-b_ C.p g) (bu C x line (d-b_ C.p g) (di C x line g d s))
 ⟨patchL r.1.I8 r.1.I8.length r.2,r.1.J4,r.1.start⟩
def ownN (p:List Qt)(k:Nat):Nat->Option Nat
 | 0=>none
 | n+1=>if h_ p n=some k\/i_ p n=some k then some n else ownN p k n
def f_ (p:List Qt)(k:Nat):Nat:=(ownN p k p.length).getD 0
def j_ (p:List Qt)(k:Nat):Int:=match p[k]? with|some x=>x.J0|none=> -1
structure Ls where
 g:Gs
 J6:List Int
 pos:List Int
 lv:List Int
def exL (l:List QC):Ex:=if h:bq l=true then Classical.choose (kQ h)else .node ⟨0,0,[]⟩ []
theorem mA {l:List QC}(h:bq l=true):(exL l).ok/\l=(exL l).toks:=by rw[exL,dif_pos h];exact t9 (kQ h)
def atL (l:List Int)(k:Nat):Int:=l[k]?.getD 0
def be (C:Cx)(x:Sc)(k:Nat)(last:Bool)(d:Int)(L:Ls):Ls:=
 if x.J9=true then(if C.J8=true then{L with g:=aB C L.g d 14 C.args k x.I9} else{L with g:=aB C L.g d 16 (C.args+16*C.J1) k x.I9})
 else if last=true then L
 else{L with g:=aB C L.g d 10 0 k x.I9,lv:=L.lv++[(L.g.I8.length:Int)]}
def dn (C:Cx)(rep:Sc->List Nat->Nat->Nat->Int->Gs->Gs)(x:Sc)(inside:List Nat)(base:Int)(k:Nat)(ln:Qt)(L:Ls):Ls:=
 if ln.J0=4 then
  let g:=aB C L.g base 10 0 k x.I9
  {L with g:=⟨bv g.I8 (atL L.pos (f_ C.p k)) g.I8.length,g.J4,g.start⟩,pos:=L.pos.set k L.g.I8.length}
 else if ln.J0=7 then
  if f_ C.p k=x.f then be C x k true (base+1) {L with g:=aB C L.g base 0 0 k x.I9}
  else if j_ C.p (f_ C.p k)=5 then{L with g:=aB C L.g base 10 (atL L.J6 (f_ C.p k)) k x.I9}
  else L
 else
  let L1:Ls:={L with g:=dk C rep x inside k (exL ln.L0) base ⟨L.g.I8,L.g.J4,true⟩,J6:=L.J6.set k L.g.I8.length}
  if ln.J0=1 then{L1 with g:=cX C x L1.g (base+1) (cN x.J3 ln.J7) k x.I9}
  else if ln.J0=2 then{L1 with g:=aB C L1.g (base+1) 17 0 k x.I9}
  else if ln.J0=6 then be C x k false (base+1) L1
  else{L1 with g:=aB C L1.g (base+1) 11 0 k x.I9,pos:=L1.pos.set k L1.g.I8.length}
def eU (p:List Qt)(k:Nat):Nat:=match i_ p (f_ p k)with|some j=>j|none=>f_ p k
def bf (C:Cx)(x:Sc)(k:Nat)(ln:Qt)(L:Ls):Ls:=
 if ln.J0=7/\f_ C.p k≠x.f then{L with g:=⟨bv L.g.I8 (atL L.pos (eU C.p k)) L.g.I8.length,L.g.J4,L.g.start⟩} else L
def fh (C:Cx)(rep:Sc->List Nat->Nat->Nat->Int->Gs->Gs)(x:Sc)(inside:List Nat)(base:Int):Nat->Nat->Ls->Ls
 | 0,_,L=>L
 | n+1,k,L=>match C.p[k]? with
  | some ln=>fh C rep x inside base n (k+1) (bf C x k ln (dn C rep x inside base k ln L))
  | none=>L
def cz (C:Cx)(s:Gs):Ls:=⟨s,List.replicate C.p.length 0,List.replicate C.p.length 0,[]⟩
def dq (p:List Qt)(f:Nat):Nat:=(h_ p f).getD 0
def aZ (C:Cx)(rep:Sc->List Nat->Nat->Nat->Int->Gs->Gs)(x:Sc)(inside:List Nat)(base:Int)(s:Gs):Gs×List Int:=
 let L:=fh C rep x inside base (dq C.p x.f-x.f) (x.f+1) (cz C s)
 (L.g,L.lv)
def bg (C:Cx):Nat->Sc->List Nat->Nat->Nat->Int->Gs->Gs
 | 0=>fun _ _ _ _ _ s=>s
 | n+1=>fH C (aZ C (bg C n))
def db (C:Cx)(f:Nat):Gs:=aB C ⟨[],(a_ C.p (f:Int)).length-C.args,false⟩ 0 (if C.J8=true then 13 else 15) C.J1 f []
def aO (C:Cx)(f:Nat):Sc:=⟨f,[],a_ C.p (f:Int),0,true⟩
def cJ (C:Cx)(f:Nat):Gs:=(aZ C (bg C C.b.M0.toNat) (aO C f) [f] C.J1 (db C f)).1
end
end Go.Proofs.P
namespace Go.Proofs.P
open Go.Sim Tryz
theorem aE {α:Type}{l:List α}{k:Nat}{x:α}(h:l[k]?=some x):k<l.length:=by
 rcases n5 k l.length with h'|h'
 ·exact h'
 ·rw[e9 h']at h;cases h
theorem uT {l:List Qt}{i j e:Nat}(hi:h_ l i=some e)(hj:h_ l j=some e):i=j:=by
 have key:∀{i j:Nat},h_ l i=some e->h_ l j=some e->i<j->False:=by intro i j hi hj O4;obtain⟨x,hx,ho,_,h1,_⟩:=aI hj;obtain⟨m,hm,_,h2⟩:=dE hi O4 h1 hx ho;rw[hj]at hm;injection hm with hm;omega
 rcases y7 i j with h|h|h
 ·exact(key hi hj h).elim
 ·exact h
 ·exact(key hj hi h).elim
theorem kZ {l:List Qt}{e:Nat}:∀{n i j:Nat},elseN l e n i=some j->∀k x m,i<=k->k<j->l[k]?=some x->(x.J0=3\/x.J0=5)->h_ l k=some m->m<j
 | 0,_,_,h=>by rw[elseN]at h;cases h
 | n+1,i,j,h=>by
  intro k x m h1 h2 hx h3 hm;rw[elseN]at h;split at h
  ·split at h
   ·rename_i y hy;split at h
    ·injection h with h;omega
    ·split at h
     ·split at h
      ·rename_i m' Sh;have hin:=oV h;obtain⟨_,_,_,_,g1,_⟩:=aI Sh;by_cases hk:k=i
       ·subst hk;rw[Sh]at hm;injection hm with hm;omega
       ·by_cases Rf:k<=m'
        ·by_cases hk3:k=m'
         ·subst hk3;obtain⟨z,hz,h7⟩:=bn Sh;rw[hx]at hz;injection hz with hz;subst hz;omega
         ·obtain⟨m2,U2,_,g2⟩:=dE Sh o_ o_ hx aak;rw[hm]at U2;injection U2 with U2;omega
        ·exact kZ h k x m o_ h2 hx h3 hm
      ·rename_i QR;by_cases hk:k=i
       ·subst hk;rw[QR]at hm
        cases hm
       ·exact kZ h k x m o_ h2 hx h3 hm
     ·by_cases hk:k=i
      ·subst hk;rw[hx]at hy;injection hy with hy;subst hy;rename_i P2;exact absurd h3 P2
      ·exact kZ h k x m o_ h2 hx h3 hm
   ·cases h
  ·cases h
theorem lG {l:List Qt}{i j k:Nat}(hi:i_ l i=some k)(hj:i_ l j=some k):i=j:=by
 have key:∀{i j:Nat},i_ l i=some k->i_ l j=some k->i<j->False:=by
  intro i j hi hj O4;obtain⟨y,ej,hy,h3,Yt,h4,h5,_⟩:=aP hj;unfold i_ at hi;split at hi
  ·split at hi
   ·have:=kZ hi j y ej o_ h4 hy (.inl h3) Yt;omega
   ·cases hi
  ·cases hi
 rcases y7 i j with h|h|h
 ·exact(key hi hj h).elim
 ·exact h
 ·exact(key hj hi h).elim
theorem uD {p:List Qt}{k i:Nat}:∀{n:Nat},ownN p k n=some i->i<n/\(h_ p i=some k\/i_ p i=some k)
 | 0,h=>by rw[ownN]at h;cases h
 | n+1,h=>by
  rw[ownN]at h;split at h
  ·injection h with h;subst h;exact⟨o_,by assumption⟩
  ·have:=uD h;exact⟨o_,this.2⟩
theorem zp {p:List Qt}{k i:Nat}(hi:h_ p i=some k\/i_ p i=some k):∀{n:Nat},i<n->∃j,ownN p k n=some j
 | 0,h=>o_
 | n+1,h=>by
  rw[ownN];split
  ·exact⟨_,rfl⟩
  ·by_cases he:i=n
   ·subst he;exact absurd hi aav
   ·exact zp hi o_
theorem jK {p:List Qt}{k i:Nat}(h:h_ p i=some k):f_ p k=i:=by
 obtain⟨x,hx,_,_,_,_⟩:=aI h;obtain⟨j,hj⟩:=zp (.inl h) (aE hx);rw[f_,hj];obtain⟨_,h1|h1⟩:=uD hj
 ·exact uT h1 h
 ·obtain⟨_,_,_,_,_,_,_,y,hy,h4⟩:=aP h1;obtain⟨z,hz,h7⟩:=bn h;rw[hy]at hz;injection hz with hz;subst hz;omega
theorem oT {p:List Qt}{k i:Nat}(h:i_ p i=some k):f_ p k=i:=by
 obtain⟨x,e,hx,_,_,_,_,y,hy,h4⟩:=aP h;obtain⟨j,hj⟩:=zp (.inr h) (aE hx);rw[f_,hj];obtain⟨_,h1|h1⟩:=uD hj
 ·obtain⟨z,hz,h7⟩:=bn h1;rw[hy]at hz;injection hz with hz;subst hz;omega
 ·exact lG h1 h
theorem ni {l:List Qt}{i:Nat}{x:Qt}(hx:l[i]?=some x)(h7:x.J0=7):∀(n s o e:Nat),i-s<=n->s<=i->1<=o->endN (l.drop s) s o=some e->i<=e->(∃k,s<=k/\k<i/\h_ l k=some i)\/∃j,1<=j/\j<=o/\endN (l.drop s) s j=some i
 | n,s,o,e,hn,hs,ho,h,hi=>by
  have QR:¬cU x.J0=true:=by rw[opensK_iff];omega
  by_cases he:s=i
  ·subst he;exact .inr ⟨1,d7 _,ho,by rw[eG hx,b8 QR,b9 h7,b9 rfl]⟩
  obtain⟨m,rfl⟩:∃m,n=m+1:=⟨n-1,o_⟩;have hl:=kJ h;obtain⟨y,hy⟩:=ae (l:=l) (k:=s) o_;rw[eG hy]at h;by_cases O3:cU y.J0=true
  ·rw[b9 O3]at h;rcases ni hx h7 m (s+1) (o+1) e o_ o_ o_ h hi with⟨k,h1,h2,h3⟩|⟨j,h1,h2,h3⟩
   ·exact .inl ⟨k,o_,h2,h3⟩
   ·by_cases hj:j=1
    ·subst hj;exact .inl ⟨s,d7 _,o_,by rw[ug hy O3];exact h3⟩
    ·exact .inr ⟨j-1,o_,o_,by rw[eG hy,b9 O3,show j-1+1=j by omega];exact h3⟩
  ·rw[b8 O3]at h;by_cases h7y:y.J0=7
   ·rw[b9 h7y]at h;by_cases h1o:o=1
    ·rw[b9 h1o]at h;injection h with h;omega
    ·rw[b8 h1o]at h;rcases ni hx h7 m (s+1) (o-1) e o_ o_ o_ h hi with⟨k,h1,h2,h3⟩|⟨j,h1,h2,h3⟩
     ·exact .inl ⟨k,o_,h2,h3⟩
     ·exact .inr ⟨j+1,o_,o_,by rw[eG hy,b8 O3,b9 h7y,b8 o_,show j+1-1=j by omega];exact h3⟩
   ·rw[b8 h7y]at h;rcases ni hx h7 m (s+1) o e o_ o_ ho h hi with⟨k,h1,h2,h3⟩|⟨j,h1,h2,h3⟩
    ·exact .inl ⟨k,o_,h2,h3⟩
    ·exact .inr ⟨j,h1,h2,by rw[eG hy,b8 O3,b8 h7y];exact h3⟩
structure CxOk (C:Cx):Prop where
 len:C.p.length<=60
 small:aK 1048576 (.lst 4 (C.p.map Qt.tr))
 line:∀(k:Nat) (ln:Qt),C.p[k]?=some ln->0<=ln.J0/\ln.J0<=7/\ln.L3.length<=4/\ln.L0.length<=20/\((ln.J0=1\/ln.J0=2\/ln.J0=3\/ln.J0=5\/ln.J0=6)->bq ln.L0=true)
 fn:∀(g:Nat) (ln:Qt),C.p[g]?=some ln->ln.J0=0->∃e,h_ C.p g=some e/\(a_ C.p (g:Int)).length<=8/\ln.L3.length<=(a_ C.p (g:Int)).length/\∀(k:Nat) (y:Qt),g<k->k<e->C.p[k]?=some y->y.J0≠0/\(∀t∈y.L0,t.J0=7->∃f,findN C.p 0 t.J7=some f/\(b_ C.p f:Int)=t.M1)/\(y.J0=4->∃i,g<=i/\i<k/\i_ C.p i=some k)
 args:0<=C.args/\C.args<=4
 J1:0<=C.J1/\C.J1<=1000
 inl:0<=C.b.M0/\C.b.M0<=3
structure ScOk (C:Cx) (x:Sc) (ins:List Nat):Prop where
 fn:∃ln,C.p[x.f]?=some ln/\ln.J0=0
 loc:x.J3=a_ C.p (x.f:Int)
 first:0<=x.first/\x.first<=8*ins.length
 I9:x.I9.length+1=ins.length
 out:x.J9=true↔x.I9=[]
 args:x.J9=true->C.args=b_ C.p x.f
 mem:ins.getLast?=some x.f
section
variable {C:Cx} {x:Sc} {ins:List Nat}
theorem CxOk.b_ (h:CxOk C)(g:Nat):b_ C.p g<=4:=by
 unfold Go.Proofs.P.b_;split
 ·rename_i l hl;have:=h.line _ _ hl;omega
 ·omega
theorem ScOk.endE (hC:CxOk C)(hx:ScOk C x ins):∃e,h_ C.p x.f=some e/\x.f<e/\e<C.p.length/\dq C.p x.f=e/\x.J3.length<=8:=by obtain⟨ln,h1,h2⟩:=hx.fn;obtain⟨e,h3,h4,h5,_⟩:=hC.fn _ _ h1 h2;obtain⟨_,_,_,_,h6,h7⟩:=aI h3;exact⟨e,h3,h6,h7,by rw[dq,h3];rfl,by rw[hx.loc];exact h4⟩
theorem ScOk.argLe (hC:CxOk C)(hx:ScOk C x ins):b_ C.p x.f<=x.J3.length:=by obtain⟨ln,h1,h2⟩:=hx.fn;obtain⟨e,h3,h4,h5,_⟩:=hC.fn _ _ h1 h2;rw[hx.loc,Go.Proofs.P.b_,h1];exact h5
theorem ScOk.own7 (hC:CxOk C)(hx:ScOk C x ins){e k:Nat}{ln:Qt}(he:h_ C.p x.f=some e)(h1:x.f<k)(h2:k<=e)(hk:C.p[k]?=some ln)(h7:ln.J0=7):
  h_ C.p (f_ C.p k)=some k/\((k=e/\f_ C.p k=x.f)\/(k<e/\x.f<f_ C.p k/\f_ C.p k<k/\∃y,C.p[f_ C.p k]?=some y/\(y.J0=3\/y.J0=5))):=by
 obtain⟨l0,g1,g2⟩:=hx.fn;obtain⟨e',g3,_,_,g4⟩:=hC.fn _ _ g1 g2;rw[he]at g3;injection g3 with g3;subst g3;by_cases QI:k=e
 ·subst QI;rw[jK he];exact⟨he,.inl ⟨rfl,rfl⟩⟩
 ·obtain⟨z,hz,hzo,hzn,_,_⟩:=aI he;rcases ni hk h7 _ (x.f+1) 1 e (d7 _) o_ (d7 _) hzn h2 with⟨i,k1,k2,k3⟩|⟨j,k1,k2,k3⟩
  ·rw[jK k3];obtain⟨y,hy,hyo,_⟩:=aI k3;have:=(g4 i y o_ o_ hy).1;rw[opensK_iff]at hyo;exact⟨k3,.inr ⟨o_,o_,k2,y,hy,o_⟩⟩
  ·have:j=1:=o_;subst this;rw[hzn]at k3;injection k3 with k3;omega
theorem ScOk.own4 (hC:CxOk C)(hx:ScOk C x ins){e k:Nat}{ln:Qt}(he:h_ C.p x.f=some e)(h1:x.f<k)(h2:k<=e)(hk:C.p[k]?=some ln)(h4:ln.J0=4):
  i_ C.p (f_ C.p k)=some k/\x.f<f_ C.p k/\f_ C.p k<k/\k<e:=by
 obtain⟨l0,g1,g2⟩:=hx.fn;obtain⟨e',g3,_,_,g4⟩:=hC.fn _ _ g1 g2;rw[he]at g3;injection g3 with g3;subst g3
 have QI:k≠e:=fun h=>by
  subst h;obtain⟨y,hy,h7⟩:=bn he;rw[hk]at hy;injection hy with hy;subst hy;omega
 obtain⟨i,k1,k2,k3⟩:=(g4 k ln h1 o_ hk).2.2 h4;rw[oT k3];obtain⟨y,_,hy,h3,_⟩:=aP k3
 have:i≠x.f:=fun h=>by
  subst h;rw[g1]at hy;injection hy with hy;subst hy;omega
 exact⟨k3,o_,k2,o_⟩
end
abbrev tvP (l:List Qt):TV:=tvL 4 (l.map Qt.tr)
abbrev vP (l:List Qt):AV:= .r (.c (.t (.lst 4 (l.map Qt.tr))))
theorem V76{p:Prop}(h:p:=by
 unfold cU;repeat' ((conv=>whnf);first|refine Or.inl ?_|apply oi|apply fi|intro h|exact Y1|refine e_ rfl ?_)
 all_goals(refine⟨congrArg Tr.bool ?_⟩;simp_all;(try(rw[u0];simp;omega)))):p:=h
theorem tC (k:Int):Sim.Spec prog 214 [tvI k] (rB (cU k)):=by refine az hΓ aF func214 rfl d_ rfl ?_;exact V76
theorem oa (k:Int):Sim.Spec prog 192 [tvI k] (rB (cU k)):=by refine az hΓ aF func192 rfl d_ rfl ?_;exact V76
abbrev Mi (l:List Qt)(k:Nat)(R:Int):={q:Nat×Nat//q.1<=l.length/\q.2<=q.1/\(q.2=0->q.1=k)/\cn (endN (l.drop q.1) q.1 q.2)=R}
theorem zz {l:List Qt}{k:Nat}{x:Qt}(hx:l[k]?=some x)(ho:cU x.J0=true):endN (l.drop k) k 0=h_ l k:=by rw[eG hx,b9 ho,ug hx ho]
theorem Q5{p:Prop}(h:p:=by exact⟨by dsimp only;rw[c8 _ o_];rfl⟩):p:=h
theorem V4{p:Prop}(h:p:=by
 rw[eG hy]at hr
 cases Yy:cU y.J0 with
 | true=>
  rw[Yy]at WX;rw[b9 Yy]at hr;have h7:y.J0≠7:=by rw[opensK_iff]at Yy;omega
  repeat' ((conv=>whnf);first|refine Or.inl ?_|apply oi|apply fi|intro h|refine⟨i,y.tr,rfl,ab hy,?_⟩|refine ci WX (ai rfl trivial) ?_|exact Y2|refine e_ rfl ?_)
  all_goals try exact Q1
  all_goals try exact K3
  conv=>whnf
  refine⟨⟨(i+1,o+1),g_,g_,fun h=>o_,hr⟩,?_,KD⟩;repeat' ((conv=>whnf);first|refine Or.inl ?_|apply oi|apply fi|intro h|exact Y4|refine e_ rfl ?_)
  all_goals exact Q5
 | false=>
  rw[Yy]at WX;rw[b8 (by simp[Yy])]at hr
  have P2:o≠0:=fun h=>by
   have:=hs h;subst this;rw[hx]at hy;injection hy with hy;subst hy;rw[ho]at Yy
   cases Yy
  by_cases h7:y.J0=7
  ·rw[b9 h7]at hr;by_cases h1:o=1
   ·rw[b9 h1]at hr;subst hr;subst h1;repeat' ((conv=>whnf);first|refine Or.inl ?_|apply oi|apply fi|intro h|refine⟨i,y.tr,rfl,ab hy,?_⟩|refine ci WX (ai rfl trivial) ?_|exact Y2|refine e_ rfl ?_)
    all_goals try exact Q1
   ·rw[b8 h1]at hr;repeat' ((conv=>whnf);first|refine Or.inl ?_|apply oi|apply fi|intro h|refine⟨i,y.tr,rfl,ab hy,?_⟩|refine ci WX (ai rfl trivial) ?_|exact Y2|refine e_ rfl ?_)
    all_goals try exact Q1
    all_goals try exact K3
    conv=>whnf
    refine⟨⟨(i+1,o-1),g_,g_,fun h=>o_,hr⟩,?_,KD⟩;repeat' ((conv=>whnf);first|refine Or.inl ?_|apply oi|apply fi|intro h|exact Y4|refine e_ rfl ?_)
    all_goals exact⟨by dsimp only;congr 1;rw[c8 _ o_];omega⟩
  ·rw[b8 h7]at hr;repeat' ((conv=>whnf);first|refine Or.inl ?_|apply oi|apply fi|intro h|refine⟨i,y.tr,rfl,ab hy,?_⟩|refine ci WX (ai rfl trivial) ?_|exact Y2|refine e_ rfl ?_)
   all_goals try exact Q1
   all_goals try exact K4
   conv=>whnf
   refine⟨⟨(i+1,o),g_,g_,fun h=>o_,hr⟩,?_,KD⟩
   exact Z3):p:=h
theorem dL (l:List Qt)(k:Int)(hl:l.length<=1048576):Sim.Spec prog 152 [tvP l,tvI k] (rI (bA l k)):=by
 refine az hΓ aF func152 rfl d_ rfl ?_;have O2:(l.map Qt.tr).length=l.length:=s_;by_cases hin:0<=k/\k<l.length
 ·obtain⟨h0,h1⟩:=hin;obtain⟨k,rfl⟩:=i7 h0;obtain⟨x,hx⟩:=ae (l:=l) (k:=k) o_;have hO:=tC x.J0;have hw:IntKind.i64.wrap (((l.map Qt.tr).length:Int)-1)=(l.length:Int)-1:=by rw[c8 _ o_];omega
  have hb:=aN (k:Int) 0 (IntKind.i64.wrap (((l.map Qt.tr).length:Int)-1));rw[within_iff.2 ⟨h0,by rw[hw];omega⟩]at hb
  cases ho:cU x.J0 with
  | false=>
   rw[ho]at hO;have:bA l (k:Int)= -1:=(by rw[bc,h_,hx];dsimp only;rw[b8 aao];rfl);rw[this]
   repeat' ((conv=>whnf);first|refine Or.inl ?_|apply oi|apply fi|intro h|refine ci hb (ai rfl (ai rfl (ai rfl trivial))) ?_|refine⟨k,x.tr,rfl,ab hx,?_⟩|refine ci hO (ai rfl trivial) ?_|exact Y2|refine e_ rfl ?_)
  | true=>
   rw[ho]at hO;obtain⟨R,hR⟩:∃R,bA l (k:Int)=R:=⟨_,rfl⟩;rw[hR];rw[bc,<-zz hx ho]at hR;repeat' ((conv=>whnf);first|refine Or.inl ?_|apply oi|apply fi|intro h|refine ci hb (ai rfl (ai rfl (ai rfl trivial))) ?_|refine⟨k,x.tr,rfl,ab hx,?_⟩|refine ci hO (ai rfl trivial) ?_|exact Y2|refine e_ rfl ?_)
   conv=>whnf
   refine⟨Mi l k R,fun q=>⟨[(0,vP l),(5,tI .i64 (q.1.2:Int)),(6,tI .i64 (q.1.1:Int))],[],[]⟩,fun q=>l.length-q.1.1,⟨(k,0),g_,o_,fun _=>rfl,hR⟩,?_,?_⟩
   ·exact Z1
   intro⟨⟨i,o⟩,hi,Zp,hs,hr⟩;dsimp only at hi Zp hs hr⊢;by_cases O4:i<l.length
   ·obtain⟨y,hy⟩:=ae O4;have WX:=tC y.J0;exact V4
   ·rw[ml o_]at hr;subst hr;exact Z4
 ·have:bA l k= -1:=by
   rw[bA];split
   ·rw[h_,e9 o_];rfl
   ·rfl
  rw[this];have hb:=aN k 0 (IntKind.i64.wrap (((l.map Qt.tr).length:Int)-1));have hw:IntKind.i64.wrap (((l.map Qt.tr).length:Int)-1)=(l.length:Int)-1:=by rw[c8 _ o_];omega
  have hf:af k 0 (IntKind.i64.wrap (((l.map Qt.tr).length:Int)-1))=false:=by cases hx:af k 0 (IntKind.i64.wrap (((l.map Qt.tr).length:Int)-1))with|false=>rfl|true=>have:=within_iff.1 hx;rw[hw]at this;exact absurd ⟨this.1,o_⟩ hin
  rw[hf]at hb;repeat' ((conv=>whnf);first|refine Or.inl ?_|apply oi|apply fi|intro h|refine ci hb (ai rfl (ai rfl (ai rfl trivial))) ?_|exact Y2|refine e_ rfl ?_)
theorem bW (l:List Qt)(k:Int)(hl:l.length<=1048576):Sim.Spec prog 121 [tvP l,tvI k] (rI (bA l k)):=by
 refine az hΓ aF func121 rfl d_ rfl ?_;have O2:(l.map Qt.tr).length=l.length:=s_;by_cases hin:0<=k/\k<l.length
 ·obtain⟨h0,h1⟩:=hin;obtain⟨k,rfl⟩:=i7 h0;obtain⟨x,hx⟩:=ae (l:=l) (k:=k) o_;have hO:=oa x.J0
  skip
  cases ho:cU x.J0 with
  | false=>
   rw[ho]at hO;have:bA l (k:Int)= -1:=(by rw[bc,h_,hx];dsimp only;rw[b8 aao];rfl);rw[this]
   repeat' ((conv=>whnf);first|refine Or.inl ?_|apply oi|apply fi|intro h|refine⟨k,x.tr,rfl,ab hx,?_⟩|refine ci hO (ai rfl trivial) ?_|exact Y2|refine e_ rfl ?_)
  | true=>
   rw[ho]at hO;obtain⟨R,hR⟩:∃R,bA l (k:Int)=R:=⟨_,rfl⟩;rw[hR];rw[bc,<-zz hx ho]at hR;repeat' ((conv=>whnf);first|refine Or.inl ?_|apply oi|apply fi|intro h|refine⟨k,x.tr,rfl,ab hx,?_⟩|refine ci hO (ai rfl trivial) ?_|exact Y2|refine e_ rfl ?_)
   conv=>whnf
   refine⟨Mi l k R,fun q=>⟨[(0,vP l),(5,tI .i64 (q.1.2:Int)),(6,tI .i64 (q.1.1:Int))],[],[]⟩,fun q=>l.length-q.1.1,⟨(k,0),g_,o_,fun _=>rfl,hR⟩,?_,?_⟩
   ·exact Z1
   intro⟨⟨i,o⟩,hi,Zp,hs,hr⟩;dsimp only at hi Zp hs hr⊢;by_cases O4:i<l.length
   ·obtain⟨y,hy⟩:=ae O4;have WX:=oa y.J0;exact V4
   ·rw[ml o_]at hr;subst hr;exact Z4
 ·have:bA l k= -1:=by
   rw[bA];split
   ·rw[h_,e9 o_];rfl
   ·rfl
  rw[this];exact Z4
end Go.Proofs.P
namespace Go.Proofs.P
open Go.Sim Tryz
set_option maxRecDepth 100000
theorem kA (a b:List (List Tr)):aw (a++b)=aw a++aw b:=by simp[aw]
theorem bX (a:List (List Tr)):(aw a).length=a.length:=by simp[aw]
theorem kF {l:List (List Tr)}{k:Nat}{r:List Tr}(h:l[k]?=some r):(aw l)[k]?=some (r.map .d):=by simp[aw,h]
theorem sL (l:List (List Tr))(k:Nat)(r:List Tr):(aw l).set k (r.map .d)=aw (l.set k r):=by simp[aw,C7]
theorem aD {A:Prop}{Q:(ι:Type)->(ι->St)->Prop}(h:A):A\/∃(ι:Type) (S:ι->St),Q ι S:=Or.inl h
theorem oy {α:Type}{g:α->List Tr}(l:List α)(h:∀x,∀c∈g x,∀sz rs,c≠.lst sz rs):flat (l.map g):=by intro row hr c hc sz rs;obtain⟨x,_,rfl⟩:=q7.1 hr;exact h x c hc sz rs
theorem dh (l:List Int):flat (l.map aa):=oy _ (by intro x c hc sz rs e;subst e;simp[aa]at hc)
end Go.Proofs.P
