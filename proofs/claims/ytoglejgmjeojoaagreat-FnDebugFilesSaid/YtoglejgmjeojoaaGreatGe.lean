import Derived.Test.YtoglejgmjeojoaaGreatGd
import Derived.Test.YtoglejgmjeojoaaGreatRows
set_option maxRecDepth 100000
set_option maxHeartbeats 4000000
namespace Go.Sim
theorem K1 {p:Prop}(h:p:=by dsimp only;rw[c6 _ (by omega)];rfl):p:=h
theorem K2 {p:Prop}(h:False:=by simp at *;omega):p:=h.elim
theorem K3 {p:Prop}(h:False:=by simp(disch:=omega)only[c6]at *;simp only[x7]at *;omega):p:=h.elim
theorem K4 {p:Prop}(h:False:=by simp only[x7]at *;omega):p:=h.elim
theorem K5 {p:Prop}(h:p:=by simp<;>omega):p:=h
theorem K6 {p:Prop}(h:p:=by rw[c6 _ (by omega)];rfl):p:=h
theorem K7 {p:Prop}(h:p:=by simp only[d9];omega):p:=h
theorem K8 {p:Prop}(h:p:=by rw[d9];omega):p:=h
theorem K9 {k:IntKind}{a b:Int}(h:a=b:=by dsimp only;rw[c6 _ (by omega)];omega):Tr.int k a=Tr.int k b:=congrArg (Tr.int k) h
theorem K10 {p:Prop}(h:p:=by(try simp only[b8]);omega):p:=h
theorem K11 {p:Prop}(h:p:=by simp only[b8]at *;omega):p:=h
theorem K12 {p:Prop}(h:p:=by rw[b8];omega):p:=h
theorem KD {p:Prop}(h:p:=by dsimp only;omega):p:=h
theorem Y1{p:Prop}(h:p:=by first|rfl|exact⟨KO⟩):p:=h
theorem Y2{p:Prop}(h:p:=by first|rfl|exact⟨KO⟩|exact⟨K1⟩):p:=h
theorem Y3{p:Prop}(h:p:=by first|rfl|exact⟨KO⟩|exact KX):p:=h
theorem Y4{p:Prop}(h:p:=by first|rfl|exact⟨KO⟩|exact KX|exact K2):p:=h
theorem Y5{p:Prop}(h:p:=by first|rfl|exact⟨KO⟩|exact⟨K5⟩):p:=h
theorem Y6{p:Prop}(h:p:=by first|rfl|exact⟨KP⟩|exact KX):p:=h
theorem Y7{p:Prop}(h:p:=by first|rfl|exact⟨KP⟩|exact⟨K1⟩):p:=h
theorem Y8{p:Prop}(h:p:=by first|rfl|exact⟨KP⟩):p:=h
theorem Y9{p:Prop}(h:p:=by first|rfl|exact⟨KP⟩|exact⟨KW⟩):p:=h
theorem Y10{p:Prop}(h:p:=by first|rfl|exact⟨KP⟩|exact KX|exact⟨KW⟩|exact KK):p:=h
theorem Y11{p:Prop}(h:p:=by first|rfl|exact⟨KP⟩|exact KX|exact KK):p:=h
theorem Y12{p:Prop}(h:p:=by first|rfl|exact⟨KP⟩|exact KX|exact⟨KW⟩):p:=h
theorem Y13{p:Prop}(h:p:=by first|rfl|exact⟨KO⟩|exact KX|exact⟨K7⟩):p:=h
theorem Y14{p:Prop}(h:p:=by first|rfl|exact⟨KO⟩|exact KX|exact⟨K8⟩):p:=h
theorem Y15{p:Prop}(h:p:=by first|rfl|exact⟨KP⟩|exact KK):p:=h
theorem Y16{p:Prop}(h:p:=by first|rfl|exact⟨KP⟩|exact⟨K9⟩):p:=h
theorem Y17{p:Prop}(h:p:=by first|rfl|exact⟨KO⟩|exact KX|exact⟨K10⟩):p:=h
theorem Y18{p:Prop}(h:p:=by first|rfl|exact⟨KO⟩|exact KX|exact⟨K10⟩|exact⟨K11⟩):p:=h
theorem Y19{p:Prop}(h:p:=by first|rfl|exact⟨KP⟩|exact⟨KW⟩|exact KN):p:=h
theorem Y20{p:Prop}(h:p:=by first|rfl|exact⟨KP⟩|exact KX|exact⟨K12⟩):p:=h
theorem Z1{p:Prop}(h:p:=by(repeat' ((conv=>whnf);first|refine Or.inl ?_|apply oi|apply fi|intro h|exact Y1|refine e_ rfl ?_));skip):p:=h
theorem Z2{p:Prop}(h:p:=by(repeat' ((conv=>whnf);first|apply Wx|apply W6|apply oi|apply fi|intro h|exact Y8|refine e_ rfl ?_));skip):p:=h
theorem Z3{p:Prop}(h:p:=by(repeat' ((conv=>whnf);first|refine Or.inl ?_|apply oi|apply fi|intro h|exact Y2|refine e_ rfl ?_));skip):p:=h
theorem Z4{p:Prop}(h:p:=by(repeat' ((conv=>whnf);first|refine Or.inl ?_|apply oi|apply fi|intro h|exact Y3|refine e_ rfl ?_));skip):p:=h
theorem Z5{p:Prop}(h:p:=by(repeat' ((conv=>whnf);first|apply Wx|apply W6|apply oi|apply fi|intro h|exact Y9|refine e_ rfl ?_));skip):p:=h
theorem Z6{p:Prop}(h:p:=by(repeat' ((conv=>whnf);first|apply Wx|apply W6|apply oi|apply fi|intro h|exact Y6|refine e_ rfl ?_));skip):p:=h
theorem Z7{p:Prop}(h:p:=by(repeat' ((conv=>whnf);first|apply Wx|apply W6|apply oi|apply fi|intro h|exact Y7|refine e_ rfl ?_));skip):p:=h
end Go.Sim
namespace Go.Proofs.P
open Go.Sim Tryz
abbrev e0 := AC.t (Tr.int Go.IntKind.i64 (Int.ofNat 0))
abbrev e1 := AC.t (Tr.bool false)
abbrev e2 := AC.t (Tr.str [])
abbrev e3 := AC.nils 0
abbrev e4 (s b : Nat) (z : List AC) : Of := {size:=s,bytes:=b,agg:=true,zero:=z}
abbrev e5 (s b : Nat) (z : List AC) : Of := {size:=s,bytes:=b,agg:=false,zero:=z}
def Γ:Env:=[(2,{size:=1,bytes:=8,agg:=false,zero:=[e0],kind:=some Go.IntKind.i64}),
(3,{size:=1,bytes:=8,agg:=false,zero:=[e0],kind:=some Go.IntKind.i64}),
(4,{size:=1,bytes:=1,agg:=false,zero:=[e1],bool:=true}),
(5,{size:=1,bytes:=1,agg:=false,zero:=[AC.t (Tr.int Go.IntKind.u8 (Int.ofNat 0))],kind:=some Go.IntKind.u8}),
(6,{size:=1,bytes:=1,agg:=false,zero:=[AC.t (Tr.int Go.IntKind.u8 (Int.ofNat 0))],kind:=some Go.IntKind.u8}),
(7,{size:=4,bytes:=24,agg:=true,zero:=[e0,e0,e1,AC.t (Tr.int Go.IntKind.u8 (Int.ofNat 0))],fields:=[(0,1,2),(1,1,3),(2,1,4),(3,1,6)]}),
(8,{size:=4,bytes:=24,agg:=true,zero:=[e0,e0,e1,AC.t (Tr.int Go.IntKind.u8 (Int.ofNat 0))],fields:=[(0,1,2),(1,1,3),(2,1,4),(3,1,6)]}),
(9,{size:=1,bytes:=16,agg:=false,zero:=[e2],str:=true}),
(10,{size:=1,bytes:=16,agg:=false,zero:=[e2],str:=true}),
(11,{size:=1,bytes:=16,agg:=false,zero:=[e2],str:=true}),
(15,e5 1 8 [AC.nilp]),
(16,e5 1 8 [AC.nilp]),
(17,e5 1 8 [AC.nilp]),
(18,{size:=1,bytes:=8,agg:=true,zero:=[AC.nilp],fields:=[(0,1,17)]}),
(19,{size:=1,bytes:=8,agg:=true,zero:=[AC.nilp],fields:=[(0,1,17)]}),
(20,e5 1 16 [AC.opq]),
(21,{size:=1,bytes:=4,agg:=false,zero:=[AC.t (Tr.int Go.IntKind.i32 (Int.ofNat 0))],kind:=some Go.IntKind.i32}),
(22,{size:=1,bytes:=24,agg:=false,zero:=[e3],elem:=some 5}),
(24,{size:=1,bytes:=24,agg:=false,zero:=[e3],elem:=some 138}),
(25,{size:=4,bytes:=24,agg:=true,zero:=[e0,e0,e1,e1],fields:=[(0,1,3),(1,1,3),(2,1,4),(3,1,4)]}),
(26,{size:=4,bytes:=24,agg:=true,zero:=[e0,e0,e1,e1],fields:=[(0,1,3),(1,1,3),(2,1,4),(3,1,4)]}),
(27,{size:=1,bytes:=24,agg:=false,zero:=[e3],elem:=some 93}),
(28,{size:=1,bytes:=24,agg:=false,zero:=[e3],elem:=some 3}),
(29,{size:=3,bytes:=72,agg:=true,zero:=[e3,e3,e3],fields:=[(0,1,27),(1,1,28),(2,1,28)]}),
(30,{size:=3,bytes:=72,agg:=true,zero:=[e3,e3,e3],fields:=[(0,1,27),(1,1,28),(2,1,28)]}),
(33,{size:=1,bytes:=24,agg:=false,zero:=[e3],elem:=some 118}),
(35,{size:=1,bytes:=24,agg:=false,zero:=[e3],elem:=some 103}),
(37,{size:=1,bytes:=24,agg:=false,zero:=[e3],elem:=some 33}),
(38,{size:=7,bytes:=88,agg:=true,zero:=[e0,e0,e0,e3,e3,e0,e0],fields:=[(0,1,3),(1,1,3),(2,1,3),(3,1,28),(4,1,28),(5,1,3),(6,1,3)]}),
(39,{size:=7,bytes:=88,agg:=true,zero:=[e0,e0,e0,e3,e3,e0,e0],fields:=[(0,1,3),(1,1,3),(2,1,3),(3,1,28),(4,1,28),(5,1,3),(6,1,3)]}),
(44,{size:=4,bytes:=48,agg:=true,zero:=[e0,e0,e0,e3],fields:=[(0,1,3),(1,1,3),(2,1,3),(3,1,28)]}),
(45,{size:=4,bytes:=48,agg:=true,zero:=[e0,e0,e0,e3],fields:=[(0,1,3),(1,1,3),(2,1,3),(3,1,28)]}),
(47,{size:=2,bytes:=16,agg:=true,zero:=[e0,e0],fields:=[(0,1,3),(1,1,3)]}),
(48,{size:=2,bytes:=16,agg:=true,zero:=[e0,e0],fields:=[(0,1,3),(1,1,3)]}),
(59,{size:=1,bytes:=24,agg:=false,zero:=[e3],elem:=some 135}),
(60,{size:=4,bytes:=24,agg:=true,zero:=[e0,e0,e1,e1],fields:=[(0,1,3),(1,1,3),(2,1,4),(3,1,4)]}),
(76,{size:=1,bytes:=24,agg:=false,zero:=[e3],elem:=some 28}),
(77,{size:=4,bytes:=64,agg:=true,zero:=[e3,e3,e0,e0],fields:=[(0,1,28),(1,1,76),(2,1,3),(3,1,3)]}),
(78,{size:=4,bytes:=64,agg:=true,zero:=[e3,e3,e0,e0],fields:=[(0,1,28),(1,1,76),(2,1,3),(3,1,3)]}),
(82,{size:=1,bytes:=24,agg:=false,zero:=[e3],elem:=some 111}),
(83,{size:=1,bytes:=24,agg:=false,zero:=[e3],elem:=some 186}),
(84,{size:=1,bytes:=24,agg:=false,zero:=[e3],elem:=some 192}),
(85,{size:=5,bytes:=104,agg:=true,zero:=[e0,e3,e3,e3,e3],fields:=[(0,1,3),(1,1,82),(2,1,33),(3,1,83),(4,1,84)]}),
(86,{size:=5,bytes:=104,agg:=true,zero:=[e0,e3,e3,e3,e3],fields:=[(0,1,3),(1,1,82),(2,1,33),(3,1,83),(4,1,84)]}),
(92,{size:=2,bytes:=40,agg:=true,zero:=[e2,e3],fields:=[(0,1,9),(1,1,82)]}),
(93,{size:=2,bytes:=40,agg:=true,zero:=[e2,e3],fields:=[(0,1,9),(1,1,82)]}),
(100,{size:=7,bytes:=72,agg:=true,zero:=[e0,e0,e0,e1,e3,e0,e1],fields:=[(0,2,48),(2,1,3),(3,1,4),(4,1,28),(5,1,3),(6,1,4)]}),
(101,{size:=7,bytes:=72,agg:=true,zero:=[e0,e0,e0,e1,e3,e0,e1],fields:=[(0,2,48),(2,1,3),(3,1,4),(4,1,28),(5,1,3),(6,1,4)]}),
(102,{size:=8,bytes:=80,agg:=true,zero:=[e0,e0,e0,e0,e1,e3,e0,e1],fields:=[(0,1,3),(1,7,101)]}),
(103,{size:=8,bytes:=80,agg:=true,zero:=[e0,e0,e0,e0,e1,e3,e0,e1],fields:=[(0,1,3),(1,7,101)]}),
(104,{size:=1,bytes:=24,agg:=false,zero:=[e3],elem:=some 108}),
(107,{size:=2,bytes:=24,agg:=true,zero:=[e2,e0],fields:=[(0,1,9),(1,1,3)]}),
(108,{size:=2,bytes:=24,agg:=true,zero:=[e2,e0],fields:=[(0,1,9),(1,1,3)]}),
(110,{size:=3,bytes:=32,agg:=true,zero:=[e2,e0,e0],fields:=[(0,1,9),(1,1,3),(2,1,3)]}),
(111,{size:=3,bytes:=32,agg:=true,zero:=[e2,e0,e0],fields:=[(0,1,9),(1,1,3),(2,1,3)]}),
(113,e5 1 8 [AC.nilp]),
(117,{size:=4,bytes:=32,agg:=true,zero:=[e0,e0,e1,e0],fields:=[(0,1,3),(1,1,3),(2,1,4),(3,1,3)]}),
(118,{size:=4,bytes:=32,agg:=true,zero:=[e0,e0,e1,e0],fields:=[(0,1,3),(1,1,3),(2,1,4),(3,1,3)]}),
(123,{size:=1,bytes:=24,agg:=false,zero:=[e3],elem:=some 101}),
(132,{size:=1,bytes:=24,agg:=false,zero:=[e3],elem:=some 9}),
(133,{size:=1,bytes:=24,agg:=false,zero:=[e3],elem:=some 265}),
(134,{size:=4,bytes:=72,agg:=true,zero:=[e0,e2,e3,e3],fields:=[(0,1,3),(1,1,9),(2,1,132),(3,1,133)]}),
(135,{size:=4,bytes:=72,agg:=true,zero:=[e0,e2,e3,e3],fields:=[(0,1,3),(1,1,9),(2,1,132),(3,1,133)]}),
(136,{size:=1,bytes:=24,agg:=false,zero:=[e3],elem:=some 221}),
(137,{size:=4,bytes:=72,agg:=true,zero:=[e0,e2,e3,e3],fields:=[(0,1,3),(1,1,9),(2,1,132),(3,1,136)]}),
(138,{size:=4,bytes:=72,agg:=true,zero:=[e0,e2,e3,e3],fields:=[(0,1,3),(1,1,9),(2,1,132),(3,1,136)]}),
(140,{size:=1,bytes:=24,agg:=false,zero:=[e3],elem:=some 35}),
(153,e5 1 8 [AC.nilp]),
(154,{size:=7,bytes:=120,agg:=true,zero:=[e3,e0,e3,e3,e0,e0,e3],fields:=[(0,1,24),(1,1,3),(2,4,78),(6,1,28)]}),
(155,{size:=7,bytes:=120,agg:=true,zero:=[e3,e0,e3,e3,e0,e0,e3],fields:=[(0,1,24),(1,1,3),(2,4,78),(6,1,28)]}),
(169,e5 1 8 [AC.nilp]),
(170,{size:=3,bytes:=32,agg:=true,zero:=[e2,e0,e1],fields:=[(0,1,9),(1,1,3),(2,1,4)]}),
(171,{size:=3,bytes:=32,agg:=true,zero:=[e2,e0,e1],fields:=[(0,1,9),(1,1,3),(2,1,4)]}),
(185,{size:=3,bytes:=24,agg:=true,zero:=[e0,e0,e1],fields:=[(0,1,3),(1,1,3),(2,1,4)]}),
(186,{size:=3,bytes:=24,agg:=true,zero:=[e0,e0,e1],fields:=[(0,1,3),(1,1,3),(2,1,4)]}),
(191,{size:=5,bytes:=48,agg:=true,zero:=[e0,e0,e0,e0,e2],fields:=[(0,1,3),(1,1,3),(2,1,3),(3,1,3),(4,1,9)]}),
(192,{size:=5,bytes:=48,agg:=true,zero:=[e0,e0,e0,e0,e2],fields:=[(0,1,3),(1,1,3),(2,1,3),(3,1,3),(4,1,9)]}),
(195,{size:=3,bytes:=40,agg:=true,zero:=[e3,e0,e0],fields:=[(0,1,22),(1,1,3),(2,1,3)]}),
(196,{size:=3,bytes:=40,agg:=true,zero:=[e3,e0,e0],fields:=[(0,1,22),(1,1,3),(2,1,3)]}),
(207,e5 1 8 [AC.nilp]),
(208,{size:=8,bytes:=96,agg:=true,zero:=[e0,e0,e0,e3,e3,e0,e0,e1],fields:=[(0,7,39),(7,1,4)]}),
(209,{size:=8,bytes:=96,agg:=true,zero:=[e0,e0,e0,e3,e3,e0,e0,e1],fields:=[(0,7,39),(7,1,4)]}),
(220,{size:=3,bytes:=32,agg:=true,zero:=[e0,e0,e2],fields:=[(0,1,3),(1,1,3),(2,1,9)]}),
(221,{size:=3,bytes:=32,agg:=true,zero:=[e0,e0,e2],fields:=[(0,1,3),(1,1,3),(2,1,9)]}),
(230,e5 1 8 [AC.nilp]),
(231,e5 1 8 [AC.nilp]),
(232,{size:=2,bytes:=16,agg:=true,zero:=[AC.nilp,e1],fields:=[(0,1,231),(1,1,4)]}),
(233,{size:=2,bytes:=16,agg:=true,zero:=[AC.nilp,e1],fields:=[(0,1,231),(1,1,4)]}),
(250,e5 1 8 [AC.nilp]),
(251,{size:=1,bytes:=24,agg:=false,zero:=[e3],elem:=some 255}),
(252,{size:=13,bytes:=144,agg:=true,zero:=[e3,e0,e0,e1,e1,e1,e0,e0,e0,e0,e3,e3,e1],fields:=[(0,1,24),(1,4,26),(5,1,4),(6,1,3),(7,1,3),(8,1,3),(9,1,3),(10,1,123),(11,1,251),(12,1,4)]}),
(253,{size:=13,bytes:=144,agg:=true,zero:=[e3,e0,e0,e1,e1,e1,e0,e0,e0,e0,e3,e3,e1],fields:=[(0,1,24),(1,4,26),(5,1,4),(6,1,3),(7,1,3),(8,1,3),(9,1,3),(10,1,123),(11,1,251),(12,1,4)]}),
(254,{size:=6,bytes:=96,agg:=true,zero:=[e0,e3,e3,e0,e1,e3],fields:=[(0,1,3),(1,1,28),(2,1,132),(3,1,3),(4,1,4),(5,1,28)]}),
(255,{size:=6,bytes:=96,agg:=true,zero:=[e0,e3,e3,e0,e1,e3],fields:=[(0,1,3),(1,1,28),(2,1,132),(3,1,3),(4,1,4),(5,1,28)]}),
(257,{size:=1,bytes:=24,agg:=false,zero:=[e3],elem:=some 48}),
(265,{size:=3,bytes:=32,agg:=true,zero:=[e0,e0,e2],fields:=[(0,1,3),(1,1,3),(2,1,9)]}),
(272,e5 1 8 [AC.nilp]),
(273,{size:=4,bytes:=80,agg:=true,zero:=[AC.nilp,e3,e3,e3],fields:=[(0,1,113),(1,1,132),(2,1,132),(3,1,28)]}),
(274,{size:=4,bytes:=80,agg:=true,zero:=[AC.nilp,e3,e3,e3],fields:=[(0,1,113),(1,1,132),(2,1,132),(3,1,28)]}),
(280,{size:=1,bytes:=24,agg:=false,zero:=[e3],elem:=some 283}),
(282,{size:=2,bytes:=16,agg:=true,zero:=[e0,e0],fields:=[(0,1,3),(1,1,3)]}),
(283,{size:=2,bytes:=16,agg:=true,zero:=[e0,e0],fields:=[(0,1,3),(1,1,3)]}),
(287,e5 1 8 [AC.nilp]),
(288,{size:=11,bytes:=128,agg:=true,zero:=[e3,e0,e0,e1,e1,e1,e0,e0,e3,e0,e3],fields:=[(0,1,24),(1,4,26),(5,1,4),(6,1,3),(7,1,3),(8,1,123),(9,1,3),(10,1,28)]}),
(289,{size:=11,bytes:=128,agg:=true,zero:=[e3,e0,e0,e1,e1,e1,e0,e0,e3,e0,e3],fields:=[(0,1,24),(1,4,26),(5,1,4),(6,1,3),(7,1,3),(8,1,123),(9,1,3),(10,1,28)]}),
(290,e5 1 8 [AC.nilp]),
(291,{size:=8,bytes:=112,agg:=true,zero:=[e0,e0,e3,e0,e0,e3,e0,e3],fields:=[(0,1,3),(1,1,3),(2,1,132),(3,1,3),(4,1,3),(5,1,28),(6,1,3),(7,1,28)]}),
(292,{size:=8,bytes:=112,agg:=true,zero:=[e0,e0,e3,e0,e0,e3,e0,e3],fields:=[(0,1,3),(1,1,3),(2,1,132),(3,1,3),(4,1,3),(5,1,28),(6,1,3),(7,1,28)]}),
(299,e5 1 8 [AC.nilp]),
(303,{size:=1,bytes:=8,agg:=false,zero:=[AC.opq],map:=some (some Go.IntKind.i64)}),
(308,{size:=1,bytes:=4,agg:=false,zero:=[AC.t (Tr.int Go.IntKind.u32 (Int.ofNat 0))],kind:=some Go.IntKind.u32}),
(309,{size:=1,bytes:=24,agg:=false,zero:=[e3],elem:=some 136}),
(313,{size:=4,bytes:=40,agg:=true,zero:=[AC.nilp,AC.nilp,AC.nilp,e2],fields:=[(0,1,17),(1,1,17),(2,1,17),(3,1,9)]}),
(314,{size:=4,bytes:=40,agg:=true,zero:=[AC.nilp,AC.nilp,AC.nilp,e2],fields:=[(0,1,17),(1,1,17),(2,1,17),(3,1,9)]}),
(318,{size:=1,bytes:=1,agg:=false,zero:=[AC.t (Tr.int Go.IntKind.u8 (Int.ofNat 0))],kind:=some Go.IntKind.u8}),
(319,{size:=1,bytes:=1,agg:=false,zero:=[AC.t (Tr.int Go.IntKind.u8 (Int.ofNat 0))],kind:=some Go.IntKind.u8}),
(321,e5 1 8 [AC.nilp]),
(322,{size:=1,bytes:=4,agg:=false,zero:=[AC.t (Tr.int Go.IntKind.i32 (Int.ofNat 0))],kind:=some Go.IntKind.i32}),
(323,{size:=1,bytes:=4,agg:=false,zero:=[AC.t (Tr.int Go.IntKind.i32 (Int.ofNat 0))],kind:=some Go.IntKind.i32}),
(326,e5 1 8 [AC.nilp])]
theorem hΓ:Γ.chk prog=true:=by kernel_rfl
theorem ay:prog.follows .mixedOrders=true:=by kernel_rfl
end Go.Proofs.P
namespace Go.Proofs.P
open Go.Sim Tryz Go.ChangeShapes Go.WideShapes Go.ChangeAt Go.RowKit
theorem own:ownKnob prog.godebug=none:=by kernel_rfl
theorem Mc:laidOutB prog=true:=by kernel_rfl
theorem DM {α:Type}{g:α->List Tr}{Q:α->Prop}:∀{rows:List (List Tr)},(∀r∈rows,∃m,r=g m/\Q m)->∃ns:List α,rows=ns.map g/\∀m∈ns,Q m
 | [],_=>⟨[],rfl,fun _ h=>by cases h⟩
 | r::rows,h=>by
  obtain⟨m,rfl,hm⟩:=h r s_;obtain⟨ns,rfl,Ub⟩:=DM (rows:=rows) fun r hr=>h r aaw
  exact⟨m::ns,rfl,fun x hx=>by
   rcases d6.1 hx with rfl|hx
   ·exact hm
   ·exact Ub x hx⟩
end Go.Proofs.P
namespace Go.Proofs.P
open Go.Sim Tryz
abbrev tvI (n:Int):TV:= .c (.int .i64 n)
abbrev tvB (n:Bool):TV:= .c (.bool n)
abbrev tvS (n:List UInt8):TV:= .c (.str n)
abbrev rI (n:Int):Res:= .r (.c (.t (.int .i64 n)))
abbrev rB (b:Bool):Res:= .r (.c (.t (.bool b)))
abbrev rS (b:List UInt8):Res:= .r (.c (.t (.str b)))
def af (n lo hi:Int):Bool:=decide (lo<=n)&&decide (n<=hi)
theorem within_iff {n lo hi:Int}:af n lo hi=true↔lo<=n/\n<=hi:=by simp[af]
set_option maxRecDepth 100000
theorem V95{p:Prop}(h:p:=by
 repeat' ((conv=>whnf);first|refine Or.inl ?_|apply oi|apply fi|intro h|exact Y1|refine e_ rfl ?_)
 all_goals refine⟨?_⟩
 all_goals simp_all[af]
 all_goals omega):p:=h
theorem ak (n lo hi:Int):Sim.Spec prog 74 [tvI n,tvI lo,tvI hi] (rB (af n lo hi)):=by refine ag hΓ ay func74 rfl d_ rfl ?_;exact V95
theorem cC (n lo hi:Int):Sim.Spec prog 61 [tvI n,tvI lo,tvI hi] (rB (af n lo hi)):=by refine ag hΓ ay func61 rfl d_ rfl ?_;exact V95
def bJ (n:Int):Int:=if af n (-549755813888) 549755813887 then(if n<0 then -2*n-1 else 2*n)else -1
def signed (n:Int):Int:=if af n 0 1099511627775 then(if n%2=1 then -((n+1)/2)else n/2)else 0
theorem Hf (n:Int)(k:Nat)(h0:0<=n)(h1:n<=9223372036854775807)(hk:k<=62):((BitVec.ofInt 64 n &&& BitVec.ofInt 64 (2^k-1:Int)).toNat:Int)=n%(2^k:Int):=by
 obtain⟨m,rfl⟩:=j8 h0;have hp:(2^k:Nat)<=2^62:=G5 o_ hk;have XS:1<=(2^k:Nat):=Nat.one_le_two_pow
 have e:(2^k-1:Int)=((2^k-1:Nat):Int):=by rw[Int.natCast_sub XS];simp
 rw[e,I1,A3,A3];have e1:((m:Int)%((2^64:Nat):Int)).toNat=m:=o_
 have e2:(((2^k-1:Nat):Int)%((2^64:Nat):Int)).toNat=2^k-1:=by have:2^k-1<2^64:=o_;omega
 rw[e1,e2,C8];simp
theorem Gb {n:Int}(h0:0<=n)(h1:n<=1099511627775):IntKind.i64.wrap ((IntKind.i64.wrap (0-IntKind.i64.wrap (n+1))).tdiv 2)= -((n+1)/2):=by rw[c6 (n+1) o_,c6 (0-(n+1)) o_,show 0-(n+1)= -(n+1) by omega,Int.neg_tdiv,E1 o_,c6 _ o_]
theorem DF {n:Int}(h0:0<=n)(h1:n<=1099511627775):IntKind.i64.wrap (n.tdiv 2)=n/2:=by rw[E1 o_,c6 _ o_]
theorem vD (n:Int):Sim.Spec prog 184 [tvI n] (rI (bJ n)):=by
 refine ag hΓ ay func184 rfl d_ rfl ?_;repeat' ((conv=>whnf);first|refine Or.inl ?_|apply oi|apply fi|intro h|refine ci (ak _ _ _) (ai rfl (ai rfl (ai rfl trivial))) ?_|exact Y1|refine e_ rfl ?_)
 all_goals refine⟨congrArg (Tr.int _) ?_⟩
 all_goals simp_all[bJ,IntKind.wrap_i64,af]
 all_goals omega
theorem zy (n:Int):Sim.Spec prog 237 [tvI n] (rI (signed n)):=by
 refine ag hΓ ay func237 rfl d_ rfl ?_;repeat' ((conv=>whnf);first|refine Or.inl ?_|apply oi|apply fi|intro h|refine ci (ak _ _ _) (ai rfl (ai rfl (ai rfl trivial))) ?_|exact Y1|refine e_ rfl ?_)
 ·refine⟨congrArg (Tr.int _) ?_⟩;have h':af n 0 1099511627775=false:=by simpa using h
  rw[signed,h'];rfl
 ·rename_i h0;refine⟨congrArg (Tr.int _) ?_⟩;have h':af n 0 1099511627775=true:=by simpa using h0
  have hb:=within_iff.1 h';rw[w5 hb.1]at h;rw[Gb hb.1 hb.2,signed,d5 h',d5 aac]
 ·rename_i h0;refine⟨congrArg (Tr.int _) ?_⟩;have h':af n 0 1099511627775=true:=by simpa using h0
  have hb:=within_iff.1 h';rw[w5 hb.1]at h;rw[DF hb.1 hb.2,signed,d5 h',c8 aac]
end Go.Proofs.P
namespace Go.Proofs.P
open Go.Sim Tryz
set_option maxRecDepth 100000
def encN (n:Nat):List UInt8:=if n<=127 then [UInt8.ofNat n]else UInt8.ofNat (n%128+128)::encN (n/128)
 termination_by n
 decreasing_by omega
def enc (n:Int):List UInt8:=if af n 0 1099511627775 then encN n.toNat else []
theorem tz:∀(k n:Nat),n<128^(k+1)->(encN n).length<=k+1
 | 0,n,h=>by rw[encN,d5 o_];simp
 | k+1,n,h=>by
  rw[encN];split
  ·simp
  ·have:=tz k (n/128) (by rw[F7]at h;omega);simp only[c7];omega
theorem cD (n:Int):(enc n).length<=6:=by
 unfold enc;split
 ·rename_i h;have:=within_iff.1 h;exact tz 5 _ o_
 ·simp
theorem yy (n:Nat):0<(encN n).length:=by rw[encN];split<;>simp
theorem NC (x:Nat)(h:x<128):x ||| 128=x+128:=by have:=Nat.two_pow_add_eq_or_of_lt (i:=7) (b:=x) o_ 1;rw[show(2:Nat)^7*1=128 from rfl]at this;rw[Nat.or_comm];omega
theorem Ly {n:Nat}(h:n<=1099511627775):IntKind.u8.wrap (IntKind.i64.wrap ((BitVec.ofInt IntKind.i64.bits (IntKind.i64.wrap ((BitVec.ofInt IntKind.i64.bits (n:Int) &&& BitVec.ofInt IntKind.i64.bits 127).toNat:Int)) ||| BitVec.ofInt IntKind.i64.bits 128).toNat:Int))=((UInt8.ofNat (n%128+128)).toNat:Int):=by
 rw[show((BitVec.ofInt IntKind.i64.bits (n:Int) &&& BitVec.ofInt IntKind.i64.bits 127).toNat:Int)=(n:Int)%128 from Hf n 7 o_ o_ o_,c6 ((n:Int)%128) o_]
 have e:(BitVec.ofInt IntKind.i64.bits ((n:Int)%128) ||| BitVec.ofInt IntKind.i64.bits 128).toNat=n%128+128:=by show(BitVec.ofInt 64 ((n:Int)%128) ||| BitVec.ofInt 64 128).toNat=_;rw[BitVec.toNat_or,A3,A3];have e1:((n:Int)%128%((2^64:Nat):Int)).toNat=n%128:=o_;have e2:((128:Int)%((2^64:Nat):Int)).toNat=128:=d_;rw[e1,e2,NC _ o_]
 rw[e,c6 _ o_,IntWalk.u8_in _ o_];simp;omega
theorem Lu {n:Nat}(h:n<=127):IntKind.u8.wrap (n:Int)=((UInt8.ofNat n).toNat:Int):=by rw[IntWalk.u8_in _ o_];simp;omega
theorem NW {n:Nat}(h:n<=1099511627775):(n:Int).fdiv (2^(min (Int.toNat 7) IntKind.i64.bits))=((n/128:Nat):Int):=by show(n:Int).fdiv 128=_;rw[Int.fdiv_eq_ediv_of_nonneg _ o_];omega
abbrev Mw (n:Nat):={p:Nat×List UInt8//p.2++encN p.1=encN n/\p.1<=1099511627775/\(encN n).length<=6}
def MF {n:Nat}(i:Mw n):St:=⟨[(0,tI .i64 (i.1.1:Int)),(3,.r (.c (.own (3,0,0))))],[((3,0,0),some (.arr true 1 (i.1.2.map aZ)))],[3]⟩
theorem Q11{p:Prop}(h:p:=by exact⟨⟨by simp;omega,by simp;omega⟩⟩):p:=h
theorem bb (n:Int):Sim.Spec prog 106 [tvI n] (rS (enc n)):=by
 refine ag hΓ ay func106 rfl d_ rfl ?_;repeat' ((conv=>whnf);first|refine Or.inl ?_|apply oi|apply fi|intro h|refine ci (ak _ _ _) (ai rfl (ai rfl (ai rfl trivial))) ?_|exact Y1|refine e_ rfl ?_)
 ·refine⟨congrArg Tr.str ?_⟩;have h':af n 0 1099511627775=false:=by simpa using h
  rw[enc,h'];rfl
 have h':af n 0 1099511627775=true:=by simpa using h
 have hb:=within_iff.1 h';obtain⟨k,rfl⟩:=j8 hb.1;have N1:=cD (k:Int);simp only[enc,h',if_true,e8]at N1⊢;conv=>whnf
 refine⟨Mw k,MF,fun i=>i.1.1,⟨(k,[]),s_,o_,N1⟩,?_,?_⟩
 ·exact Z1
 intro⟨⟨m,bs⟩,Qz,hm,hl⟩;dsimp only[MF]at Qz hm⊢
 have RH:bs.length+1<=6:=by have:=congrArg List.length Qz;have h2:=yy m;simp only[b8]at this;omega
 repeat' ((conv=>whnf);first|refine Or.inl ?_|apply oi|apply fi|intro h|exact Y1|refine e_ rfl ?_)
 all_goals try exact⟨fun r hr=>by simp at hr;subst hr;rfl⟩
 all_goals try exact Q11
 ·have N2:127<m:=by have:=m6 h;omega
  conv=>whnf
  refine⟨⟨(m/128,bs++[UInt8.ofNat (m%128+128)]),?_,?_,hl⟩,?_,?_⟩
  ·dsimp only;rw[<-Qz,encN.eq_def m,c8 o_];simp
  ·dsimp only;omega
  ·repeat' ((conv=>whnf);first|refine Or.inl ?_|apply oi|apply fi|intro h|exact Y1|refine e_ rfl ?_)
   ·refine⟨?_⟩;dsimp only;rw[NW hm]
   ·refine⟨?_⟩;dsimp only;rw[Ly hm];simp[aZ]
  ·dsimp only;omega
 ·have OH:m<=127:=by have:=n6 h;omega
  conv=>whnf
  refine⟨bs++[UInt8.ofNat m],?_,?_⟩
  ·rw[Lu OH];simp[aZ]
  ·repeat' ((conv=>whnf);first|refine Or.inl ?_|apply oi|apply fi|intro h|exact Y1|refine e_ rfl ?_)
   refine⟨congrArg Tr.str ?_⟩;rw[<-Qz,encN.eq_def m,d5 OH]
theorem V68{p:Prop}(h:p:=by
 refine ag hΓ ay func107 rfl d_ rfl ?_;repeat' ((conv=>whnf);first|refine Or.inl ?_|apply oi|apply fi|intro h|refine ci (bb _) (ai rfl trivial) ?_|exact Y1|refine e_ rfl ?_)
 ·exact⟨by have:=cD s.length;omega⟩):p:=h
theorem nH (s:List UInt8)(hs:s.length<=1048576):Sim.Spec prog 107 [tvS s] (rS (enc s.length++s)):=by exact V68
def sm (s:List UInt8)(p:Nat):Nat->Nat->Nat->Option (Nat×Nat)
 | 0,_,_=>none
 | f+1,k,n=>match s[p+k]? with
  | none=>none
  | some b=>let n':=n+b.toNat%128*128^k
   if 127<b.toNat then sm s p f (k+1) n' else if enc n'=(s.drop p).take (k+1)then some (n',k+1)else none
def dec (s:List UInt8)(p:Int):Option (Nat×Nat):=if p<0 then none else sm s p.toNat 6 0 0
def mh (o:Option (Nat×Nat)):Int:=match o with|some x=>x.1|none=>0
def np (o:Option (Nat×Nat)):Int:=match o with|some x=>x.2|none=>0
abbrev NB (o:Option (Nat×Nat)):Res:= .tup [.c (.t (.int .i64 (mh o))),.c (.t (.int .i64 (np o))),.c (.t (.bool o.isSome))]
theorem MG (n x k:Nat)(hk:k<6)(hn:n<128^k)(hx:x<128):n ||| x*128^k=n+x*128^k:=by
 have e:(128:Nat)^k=2^(7*k):=by rw[show(128:Nat)=2^7 from rfl,<-Nat.pow_mul]
 rw[e]at hn⊢;have:=Nat.two_pow_add_eq_or_of_lt hn x;rw[H0]at this;rw[Nat.or_comm,<-this,Nat.add_comm]
theorem LH {k:Nat}(hk:k<6):128^k<=34359738368:=by have:(128:Nat)^k<=128^5:=G5 o_ o_;omega
theorem Hk {n x k:Nat}(hn:n<128^k)(hx:x<128):n+x*128^k<128^(k+1):=by have:(x+1)*128^k<=128*128^k:=l8 _ o_;rw[F7,H0 _ 128];rw[o8]at this;omega
theorem Hu {n x k:Nat}(hk:k<6)(hn:n<128^k)(hx:x<128):IntKind.i64.wrap ((BitVec.ofInt IntKind.i64.bits (n:Int) ||| BitVec.ofInt IntKind.i64.bits (IntKind.i64.wrap ((x:Int)*2^min (IntKind.i64.wrap (7*(k:Int))).toNat IntKind.i64.bits))).toNat:Int)=((n+x*128^k:Nat):Int):=by
 have hp:=LH hk;have N2:=Hk hn hx;have XS:128^(k+1)<=4398046511104:=by rw[F7];omega
 have e0:IntKind.i64.wrap (7*(k:Int))=((7*k:Nat):Int):=by rw[c6 _ o_];omega
 have e1:min (IntKind.i64.wrap (7*(k:Int))).toNat IntKind.i64.bits=7*k:=by rw[e0];show min (7*k) 64=7*k;omega
 have e2:(2:Int)^(7*k)=((128^k:Nat):Int):=by rw[show(128:Nat)=2^7 from rfl,<-Nat.pow_mul];simp
 have e3:(x:Int)*((128^k:Nat):Int)=((x*128^k:Nat):Int):=s_;rw[e1,e2,e3,c6 ((x*128^k:Nat):Int) o_]
 have e4:(BitVec.ofInt IntKind.i64.bits (n:Int) ||| BitVec.ofInt IntKind.i64.bits ((x*128^k:Nat):Int)).toNat=n+x*128^k:=by show(BitVec.ofInt 64 (n:Int) ||| BitVec.ofInt 64 ((x*128^k:Nat):Int)).toNat=_;rw[BitVec.toNat_or,A3,A3];have e5:((n:Int)%((2^64:Nat):Int)).toNat=n:=o_;have e6:(((x*128^k:Nat):Int)%((2^64:Nat):Int)).toNat=x*128^k:=o_;rw[e5,e6,MG n x k hk hn hx]
 rw[e4,c6 _ o_]
theorem EK (b:UInt8):IntKind.i64.wrap ((BitVec.ofInt IntKind.i64.bits (IntKind.i64.wrap (b.toNat:Int)) &&& BitVec.ofInt IntKind.i64.bits 127).toNat:Int)=((b.toNat%128:Nat):Int):=by have hb:=b.toNat_lt;rw[c6 (b.toNat:Int) o_,show((BitVec.ofInt IntKind.i64.bits (b.toNat:Int) &&& BitVec.ofInt IntKind.i64.bits 127).toNat:Int)=(b.toNat:Int)%128 from Hf b.toNat 7 o_ o_ o_,c6 _ o_];omega
theorem zZ {s:List UInt8}{p k n:Nat}{b:UInt8}(hk:k<6)(hb:s[p+k]?=some b):sm s p (6-k) k n=
  if 127<b.toNat then sm s p (6-(k+1)) (k+1) (n+b.toNat%128*128^k)else if enc ((n+b.toNat%128*128^k:Nat):Int)=(s.drop p).take (k+1)then some (n+b.toNat%128*128^k,k+1)else none:=by
 rw[show 6-k=(6-(k+1))+1 by omega,sm,hb]
theorem AG {s:List UInt8}{p k n:Nat}(h:k=6\/s.length<=p+k):sm s p (6-k) k n=none:=by cases hf:6-k with|zero=>rfl|succ f=>rw[sm,e9 o_]
abbrev NJ (s:List UInt8)(p:Nat):={q:Nat×Nat//q.1<=6/\q.2<128^q.1/\sm s p (6-q.1) q.1 q.2=dec s p}
theorem dn (s:List UInt8)(p:Int)(hs:s.length<=1048576):Sim.Spec prog 185 [tvS s,tvI p] (NB (dec s p)):=by
 refine ag hΓ ay func185 rfl d_ rfl ?_;repeat' ((conv=>whnf);first|refine Or.inl ?_|apply oi|apply fi|intro h|refine ci (ak _ _ _) (ai rfl (ai rfl (ai rfl trivial))) ?_|refine ci (bb _) (ai rfl trivial) ?_|exact Y1|refine e_ rfl ?_)
 rotate_right 1
 all_goals try
  refine⟨?_⟩
  have S5:dec s p=none:=by
   have h':¬(0<=p/\p<=(s.length:Int)-1):=by rw[<-within_iff];rw[c6 _ o_]at h;simpa using h
   rw[dec];split
   ·rfl
   ·exact AG (k:=0) (.inr o_)
  rw[S5];rfl
 have hw:af p 0 (IntKind.i64.wrap (s.length-1))=true:=by simpa using h
 rw[c6 _ o_]at hw;have hb:=within_iff.1 hw;obtain⟨p,rfl⟩:=j8 hb.1;clear h hw;repeat' ((conv=>whnf);first|refine Or.inl ?_|apply oi|apply fi|intro h|exact Y1|refine e_ rfl ?_)
 conv=>whnf
 refine⟨NJ s p,fun i=>⟨[(0,tS s),(1,tI .i64 (p:Int)),(8,tI .i64 (i.1.1:Int)),(7,tI .i64 (i.1.2:Int))],[],[]⟩,fun i=>6-i.1.1,⟨(0,0),o_,s_,by rw[dec,c8 o_];simp⟩,?_,?_⟩
 ·exact Z1
 intro⟨⟨k,n⟩,hk,hn,hd⟩;dsimp only at hk hn hd⊢;repeat' ((conv=>whnf);first|refine Or.inl ?_|apply oi|apply fi|intro h|exact Y1|refine e_ rfl ?_)
 ·have UC:k<6:=by rename_i h0;have:=m6 h0;omega
  have XM:p+k<s.length:=by have:=m6 h;rw[c6 _ o_]at this;omega
  clear h;obtain⟨b,OO⟩:∃b,s[p+k]?=some b:=⟨_,f9 XM⟩;conv=>whnf
  refine⟨p+k,b,by rw[c6 _ o_];rfl,OO,?_⟩;repeat' ((conv=>whnf);first|refine Or.inl ?_|apply oi|apply fi|intro h|refine ci (bb _) (ai rfl trivial) ?_|exact Y1|refine e_ rfl ?_)
  ·exact⟨by rw[c6 _ o_];omega⟩
  ·have RH:=b.toNat_lt
   have UR:127<b.toNat:=by have:=m6 h;rw[c6 _ o_]at this;omega
   rw[EK,Hu UC hn o_];conv=>whnf
   refine⟨⟨(k+1,n+b.toNat%128*128^k),g_,Hk hn o_,?_⟩,?_,KD⟩
   ·dsimp only;rw[<-hd,zZ UC OO,d5 UR]
   ·repeat' ((conv=>whnf);first|refine Or.inl ?_|apply oi|apply fi|intro h|exact Y1|refine e_ rfl ?_)
    exact⟨by dsimp only;rw[c6 _ o_];rfl⟩
  ·have OH:¬127<b.toNat:=by have:=n6 h;have RH:=b.toNat_lt;rw[c6 _ o_]at this;omega
   rw[EK,Hu UC hn o_];have O5:=zZ (n:=n) UC OO;rw[c8 OH,hd]at O5;conv=>whnf
   refine⟨p,p+k+1,rfl,?_,o_,o_,?_⟩
   ·show IntKind.i64.wrap (IntKind.i64.wrap (_+_)+1)=_;rw[c6 ((p:Int)+k) o_,c6 _ o_];rfl
   rw[F1,show p+k+1-p=k+1 by omega];repeat' ((conv=>whnf);first|refine Or.inl ?_|apply oi|apply fi|intro h|refine ci (bb _) (ai rfl trivial) ?_|exact Y1|refine e_ rfl ?_)
   all_goals
    refine⟨?_⟩
    first
    |(rw[c8 aac]at O5;rw[O5];rfl)
    |(rw[d5 aac]at O5;rw[O5];first|rfl|(rw[c6 _ o_];rfl))
 all_goals
  refine⟨?_⟩
  have S5:dec s p=none:=by
   rw[<-hd];apply AG;have h2:=n6 h;try rw[c6 _ o_]at h2
   omega
  rw[S5];rfl
theorem Ae {s:List UInt8}{p:Nat}:∀(f k n:Nat) {a b:Nat},sm s p f k n=some (a,b)->k<b/\b<=k+f/\p+b<=s.length/\a<=1099511627775
 | 0,_,_,_,_,h=>by simp[sm]at h
 | f+1,k,n,a,b,h=>by
  rw[sm]at h;split at h
  ·cases h
  ·rename_i c hc
   have N2:p+k<s.length:=by
    rcases l9 (p+k) s.length with h'|h'
    ·exact h'
    ·rw[e9 h']at hc;cases hc
   simp only at h;split at h
   ·have:=Ae f (k+1) _ h;omega
   ·split at h
    ·rename_i he;simp only[Option.some.injEq,Prod.mk.injEq]at h;obtain⟨rfl,rfl⟩:=h;refine⟨o_,o_,o_,?_⟩;have hl:=congrArg List.length he;simp only[j5,t8]at hl;rw[enc]at hl;split at hl
     ·rename_i hw;have:=within_iff.1 hw;omega
     ·simp at hl;omega
    ·cases h
theorem dW {s:List UInt8}{p:Int}{a b:Nat}(h:dec s p=some (a,b)):0<=p/\0<b/\b<=6/\p.toNat+b<=s.length/\a<=1099511627775:=by
 rw[dec]at h;split at h
 ·cases h
 ·have:=Ae 6 0 0 h;omega
def bH (s:List UInt8)(p:Int):Option (List UInt8×Nat):=
 match dec s p with
 | none=>none
 | some (n,k)=>if n+p.toNat+k<=s.length then some ((s.drop (p.toNat+k)).take n,k+n)else none
def unS (o:Option (List UInt8×Nat)):List UInt8:=match o with|some x=>x.1|none=>[]
def unK (o:Option (List UInt8×Nat)):Int:=match o with|some x=>x.2|none=>0
abbrev rUn (o:Option (List UInt8×Nat)):Res:= .tup [.c (.t (.str (unS o))),.c (.t (.int .i64 (unK o))),.c (.t (.bool o.isSome))]
abbrev ND:Res:= .tup [.c (.t (.int .i64 0)),.c (.t (.int .i64 0)),.c (.t (.bool false))]
abbrev NM (n k:Nat):Res:= .tup [.c (.t (.int .i64 n)),.c (.t (.int .i64 k)),.c (.t (.bool true))]
theorem qA {P:Program}{f:FuncId}{s:List UInt8}{p:Int}(h:Sim.Spec P f [tvS s,tvI p] (NB (dec s p)))(hd:dec s p=none):Sim.Spec P f [tvS s,tvI p] ND:=by rw[hd]at h;exact h
theorem qD {P:Program}{f:FuncId}{s:List UInt8}{p:Int}{n k:Nat}(h:Sim.Spec P f [tvS s,tvI p] (NB (dec s p)))(hd:dec s p=some (n,k)):Sim.Spec P f [tvS s,tvI p] (NM n k):=by rw[hd]at h;exact h
theorem V108{p:Prop}(h:p:=by
 repeat' ((conv=>whnf);first|refine Or.inl ?_|apply oi|apply fi|intro h|refine ci hD (ai rfl (ai rfl trivial)) ?_|exact Y1|refine e_ rfl ?_)):p:=h
theorem iz (s:List UInt8)(p:Int)(hs:s.length<=1048576)(hp:p<=9223372036854775807):Sim.Spec prog 187 [tvS s,tvI p] (rUn (bH s p)):=by
 have hD:=dn s p hs
 match hd:dec s p with
 | none=>
  have hD:=qA hD hd;have hu:bH s p=none:=by rw[bH,hd]
  rw[hu];refine ag hΓ ay func187 rfl d_ rfl ?_
  exact V108
 | some (n,k)=>
  have hD:=qD hD hd;obtain⟨h0,h1,h2,h3,h4⟩:=dW hd;obtain⟨p,rfl⟩:=j8 h0;rw[e8]at h3;have hu:bH s p=if n+p+k<=s.length then some ((s.drop (p+k)).take n,k+n)else none:=by rw[bH,hd];rfl
  rw[hu];refine ag hΓ ay func187 rfl d_ rfl ?_;repeat' ((conv=>whnf);first|refine Or.inl ?_|apply oi|apply fi|intro h|refine ci hD (ai rfl (ai rfl trivial)) ?_|exact Y1|refine e_ rfl ?_)
  all_goals try
   have h5:=m6 h;rw[c6 ((s.length:Int)-p) o_,c6 _ o_]at h5;rw[c8 o_];exact⟨rfl⟩
  have h5:=n6 h;rw[c6 ((s.length:Int)-p) o_,c6 _ o_]at h5;rw[d5 o_];conv=>whnf
  refine⟨p+k,p+k+n,?_,?_,o_,o_,?_⟩
  ·show IntKind.i64.wrap (_+_)=_;rw[c6 _ o_];rfl
  ·show IntKind.i64.wrap (IntKind.i64.wrap (_+_)+_)=_;rw[c6 ((p:Int)+k) o_,c6 _ o_];rfl
  rw[F1,show p+k+n-(p+k)=n by omega];repeat' ((conv=>whnf);first|refine Or.inl ?_|apply oi|apply fi|intro h|exact Y1|refine e_ rfl ?_)
  exact⟨by rw[c6 _ o_];rfl⟩
end Go.Proofs.P
namespace Go.Proofs.P
open Go.Sim Tryz Go.RowKit
def inI (n:Int):Prop:= -9223372036854775808<=n/\n<=9223372036854775807
def ae (n:Int):List Tr:=[.int .i64 n]
def ah (s:List UInt8):List Tr:=[.str s]
structure Ol where
 J4:Int
 L6:Int
def Ol.tr (x:Ol):List Tr:=[.int .i64 x.J4,.int .i64 x.L6]
def Ol.wf (x:Ol):Prop:=inI x.J4/\inI x.L6
structure Ou where
 I6:Int
 L3:Int
 J0:List UInt8
def Ou.tr (x:Ou):List Tr:=[.int .i64 x.I6,.int .i64 x.L3,.str x.J0]
def Ou.wf (x:Ou):Prop:=inI x.I6/\inI x.L3/\x.J0.length<=maxLen
structure Oj where
 I6:Int
 J0:List UInt8
 K0:List (List UInt8)
 J5:List Ou
def Oj.tr (x:Oj):List Tr:=[.int .i64 x.I6,.str x.J0,.lst 1 (x.K0.map ah),.lst 3 (x.J5.map Ou.tr)]
def Oj.wf (x:Oj):Prop:=inI x.I6/\x.J0.length<=maxLen/\(x.K0.length<=maxLen/\∀y∈x.K0,y.length<=maxLen)/\(x.J5.length<=maxLen/\∀y∈x.J5,y.wf)
structure Oa where
 M5:Int
 L4:Int
 N0:Bool
 M9:Bool
def Oa.tr (x:Oa):List Tr:=[.int .i64 x.M5,.int .i64 x.L4,.bool x.N0,.bool x.M9]
def Oa.wf (x:Oa):Prop:=inI x.M5/\inI x.L4
structure Oi where
 J6:Ol
 J9:Int
 J8:Bool
 J3:List Int
 L9:Int
 M7:Bool
def Oi.tr (x:Oi):List Tr:=[.int .i64 x.J6.J4,.int .i64 x.J6.L6,.int .i64 x.J9,.bool x.J8,.lst 1 (x.J3.map ae),.int .i64 x.L9,.bool x.M7]
def Oi.wf (x:Oi):Prop:=x.J6.wf/\inI x.J9/\(x.J3.length<=maxLen/\∀y∈x.J3,inI y)/\inI x.L9
structure Ot where
 J0:List UInt8
 J8:Int
 M0:Int
def Ot.tr (x:Ot):List Tr:=[.str x.J0,.int .i64 x.J8,.int .i64 x.M0]
def Ot.wf (x:Ot):Prop:=x.J0.length<=maxLen/\inI x.J8/\inI x.M0
structure Og where
 J4:List UInt8
 L7:List Ot
def Og.tr (x:Og):List Tr:=[.str x.J4,.lst 3 (x.L7.map Ot.tr)]
def Og.wf (x:Og):Prop:=x.J4.length<=maxLen/\(x.L7.length<=maxLen/\∀y∈x.L7,y.wf)
structure Oq where
 faJ:List Og
 faH:List Int
 faL:List Int
def Oq.tr (x:Oq):List Tr:=[.lst 2 (x.faJ.map Og.tr),.lst 1 (x.faH.map ae),.lst 1 (x.faL.map ae)]
def Oq.wf (x:Oq):Prop:=(x.faJ.length<=maxLen/\∀y∈x.faJ,y.wf)/\(x.faH.length<=maxLen/\∀y∈x.faH,inI y)/\(x.faL.length<=maxLen/\∀y∈x.faL,inI y)
structure Ok where
 faE:Int
 faF:Int
 faD:Int
 faI:List Int
 faG:List Int
 faN:Int
 faM:Int
def Ok.tr (x:Ok):List Tr:=[.int .i64 x.faE,.int .i64 x.faF,.int .i64 x.faD,.lst 1 (x.faI.map ae),.lst 1 (x.faG.map ae),.int .i64 x.faN,.int .i64 x.faM]
def Ok.wf (x:Ok):Prop:=inI x.faE/\inI x.faF/\inI x.faD/\(x.faI.length<=maxLen/\∀y∈x.faI,inI y)/\(x.faG.length<=maxLen/\∀y∈x.faG,inI y)/\inI x.faN/\inI x.faM
structure Om where
 J7:Int
 I8:Oi
def Om.tr (x:Om):List Tr:=[.int .i64 x.J7,.int .i64 x.I8.J6.J4,.int .i64 x.I8.J6.L6,.int .i64 x.I8.J9,.bool x.I8.J8,.lst 1 (x.I8.J3.map ae),.int .i64 x.I8.L9,.bool x.I8.M7]
def Om.wf (x:Om):Prop:=inI x.J7/\x.I8.wf
structure Oo where
 J8:Int
 L5:Int
 M4:Bool
 L9:Int
def Oo.tr (x:Oo):List Tr:=[.int .i64 x.J8,.int .i64 x.L5,.bool x.M4,.int .i64 x.L9]
def Oo.wf (x:Oo):Prop:=inI x.J8/\inI x.L5/\inI x.L9
structure Ov where
 faE:Int
 faF:Int
 faD:Int
 faK:List Int
def Ov.tr (x:Ov):List Tr:=[.int .i64 x.faE,.int .i64 x.faF,.int .i64 x.faD,.lst 1 (x.faK.map ae)]
def Ov.wf (x:Ov):Prop:=inI x.faE/\inI x.faF/\inI x.faD/\(x.faK.length<=maxLen/\∀y∈x.faK,inI y)
structure On where
 J7:Int
 J9:Int
 J8:Bool
def On.tr (x:On):List Tr:=[.int .i64 x.J7,.int .i64 x.J9,.bool x.J8]
def On.wf (x:On):Prop:=inI x.J7/\inI x.J9
structure Oh where
 J8:Int
 L5:Int
 L8:Int
 J9:Int
 J0:List UInt8
def Oh.tr (x:Oh):List Tr:=[.int .i64 x.J8,.int .i64 x.L5,.int .i64 x.L8,.int .i64 x.J9,.str x.J0]
def Oh.wf (x:Oh):Prop:=inI x.J8/\inI x.L5/\inI x.L8/\inI x.J9/\x.J0.length<=maxLen
structure Od where
 M6:Int
 L7:List Ot
 M3:List Oo
 M1:List On
 M2:List Oh
def Od.tr (x:Od):List Tr:=[.int .i64 x.M6,.lst 3 (x.L7.map Ot.tr),.lst 4 (x.M3.map Oo.tr),.lst 3 (x.M1.map On.tr),.lst 5 (x.M2.map Oh.tr)]
def Od.wf (x:Od):Prop:=inI x.M6/\(x.L7.length<=maxLen/\∀y∈x.L7,y.wf)/\(x.M3.length<=maxLen/\∀y∈x.M3,y.wf)/\(x.M1.length<=maxLen/\∀y∈x.M1,y.wf)/\(x.M2.length<=maxLen/\∀y∈x.M2,y.wf)
structure Oe where
 J0:List UInt8
 J9:Int
def Oe.tr (x:Oe):List Tr:=[.str x.J0,.int .i64 x.J9]
def Oe.wf (x:Oe):Prop:=x.J0.length<=maxLen/\inI x.J9
end Go.Proofs.P
namespace Go.Proofs.P
open Go.Sim Tryz
set_option maxRecDepth 100000
abbrev tvL (sz:Nat)(rows:List (List Tr)):TV:= .c (.lst sz rows)
abbrev rL (sz:Nat)(rows:List (List Tr)):Res:= .r (.c (.arr sz rows))
theorem aa {α β:Type}{f:α->β}{l:List α}{k:Nat}{x:α}(h:l[k]?=some x):(l.map f)[k]?=some (f x):=by simp[h]
theorem ab {α:Type}{l:List α}{k:Nat}(h:k<l.length):∃x,l[k]?=some x:=⟨_,f9 h⟩
def cT:List Int->Option (List UInt8)
 | []=>some []
 | n::ns=>if bJ n<0 then none else(cT ns).map (enc (bJ n)++·)
def bt (ns:List Int):List UInt8:=match cT ns with|some bs=>enc ns.length++bs|none=>[]
def vC (acc:List UInt8):Option (List UInt8)->List UInt8
 | some bs=>acc++bs
 | none=>[]
abbrev NA (ns:List Int):={q:Nat×List UInt8//q.1<=ns.length/\q.2.length<=6*(q.1+1)/\bt ns=vC q.2 (cT (ns.drop q.1))}
theorem aP {α:Type}{l:List α}{k:Nat}{x:α}(h:l[k]?=some x):l.drop k=x::l.drop (k+1):=by
 have hk:k<l.length:=by
  rcases l9 k l.length with h'|h'
  ·exact h'
  ·rw[e9 h']at h;cases h
 rw[f9 hk]at h;injection h with h;rw[<-h];exact z5 hk
theorem KE {acc:List UInt8}{n:Int}{ns:List Int}(h:bJ n<0):vC acc (cT (n::ns))=[]:=by rw[cT,d5 h];rfl
theorem Lr {acc:List UInt8}{n:Int}{ns:List Int}(h:¬bJ n<0):vC acc (cT (n::ns))=vC (acc++enc (bJ n)) (cT ns):=by
 rw[cT,c8 h]
 cases cT ns<;>simp[vC]
theorem FF (ns:List Int):bt ns=vC (enc ns.length) (cT (ns.drop 0)):=by
 unfold bt;rw[v6]
 cases cT ns<;>rfl
theorem Kj {ns:List Int}{k:Nat}(h:ns.length<=k)(acc:List UInt8):vC acc (cT (ns.drop k))=acc:=by rw[d8 h];simp[cT,vC]
theorem gh (ns:List Int)(hl:ns.length<=16777216):Sim.Spec prog 108 [tvL 1 (ns.map ae)] (rS (bt ns)):=by
 refine ag hΓ ay func108 rfl d_ rfl ?_;have N1:(ns.map ae).length=ns.length:=s_;have Pq:=cD ns.length;repeat' ((conv=>whnf);first|refine Or.inl ?_|apply oi|apply fi|intro h|refine ci (bb _) (ai rfl trivial) ?_|exact Y1|refine e_ rfl ?_)
 ·exact⟨by rw[N1];omega⟩
 repeat' ((conv=>whnf);first|refine Or.inl ?_|apply oi|apply fi|intro h|exact Y1|refine e_ rfl ?_)
 conv=>whnf
 refine⟨NA ns,fun q=>⟨[(10,.r (.c (.t (.lst 1 (ns.map ae))))),(11,tI .i64 ((ns.map ae).length:Int)),(12,tI .i64 (q.1.1:Int)),(3,.r (.c (.own (3,0,0))))],[((3,0,0),some (.arr true 1 (q.1.2.map aZ)))],[3]⟩,fun q=>ns.length-q.1.1,⟨(0,enc ns.length),s_,g_,FF ns⟩,?_,?_⟩
 ·repeat' ((conv=>whnf);first|refine Or.inl ?_|apply oi|apply fi|intro h|exact Y1|refine e_ rfl ?_)
  all_goals exact⟨by rw[N1]⟩
 intro⟨⟨k,acc⟩,hk,OC,hp⟩;dsimp only at hk OC hp⊢;repeat' ((conv=>whnf);first|refine Or.inl ?_|apply oi|apply fi|intro h|exact Y1|refine e_ rfl ?_)
 ·have N2:k<ns.length:=by have:=m6 h;omega
  obtain⟨x,hx⟩:=ab N2;rw[aP hx]at hp;conv=>whnf
  refine⟨k,ae x,rfl,aa hx,?_⟩;have Rv:=cD (bJ x);repeat' ((conv=>whnf);first|refine Or.inl ?_|apply oi|apply fi|intro h|refine ci (vD _) (ai rfl trivial) ?_|refine ci (bb _) (ai rfl trivial) ?_|exact Y1|refine e_ rfl ?_)
  ·rw[hp,KE (m6 h)];exact⟨rfl⟩
  have Pp:=Lr (acc:=acc) (ns:=ns.drop (k+1)) (n6 h);conv=>whnf
  refine⟨⟨(k+1,acc++enc (bJ x)),g_,by dsimp only;rw[b8];omega,hp.trans Pp⟩,?_,KD⟩;repeat' ((conv=>whnf);first|refine Or.inl ?_|apply oi|apply fi|intro h|exact Y1|refine e_ rfl ?_)
  ·exact⟨by dsimp only;rw[c6 _ o_];rfl⟩
  ·exact⟨s_⟩
 ·have OK:ns.length<=k:=by have:=n6 h;omega
  rw[hp,Kj OK];exact⟨rfl⟩
end Go.Proofs.P
namespace Go.Proofs.P
open Go.Sim Tryz Go.RowKit
set_option maxRecDepth 100000
theorem bx {α:Type}{g:α->List Tr}{L:Int}{l:List α}{sz:Nat}(h:aE L (.lst sz (l.map g))){x:α}(hx:x∈l):aX L (g x):=by rw[aE]at h;exact vn h.2 _ (List.mem_map_of_mem hx)
theorem mC {α:Type}{g:α->List Tr}{L:Int}{l:List α}{sz:Nat}(h:aE L (.lst sz (l.map g))):(l.length:Int)<=L:=by rw[aE]at h;simpa using h.1
theorem cu {α:Type}{g:α->List Tr}{l:List α}{sz:Nat}(h:aE 1048576 (.lst sz (l.map g))):l.length<=1048576:=by have:=mC h;omega
theorem Ig {L:Int}{s:List UInt8}(h:aE L (.str s)):(s.length:Int)<=L:=by rw[aE]at h;exact h
end Go.Proofs.P
namespace Go.Proofs.P
open Go.Sim Tryz
set_option maxRecDepth 100000
def fh (s:List UInt8)(p:Nat):Nat->Nat->Option (List Int×Nat)
 | 0,z=>some ([],z)
 | n+1,z=>match dec s ((p+z:Nat):Int)with
  | none=>none
  | some x=>(fh s p n (z+x.2)).map fun y=>(signed x.1::y.1,y.2)
def aD (s:List UInt8)(p:Int):Option (List Int×Nat):=match dec s p with
 | none=>none
 | some x=>fh s p.toNat x.1 x.2
def upL (o:Option (List Int×Nat)):List Int:=match o with|some x=>x.1|none=>[]
def upZ (o:Option (List Int×Nat)):Int:=match o with|some x=>x.2|none=>0
abbrev BQ (o:Option (List Int×Nat)):Res:= .tup [.c (.arr 1 ((upL o).map ae)),.c (.t (.int .i64 (upZ o))),.c (.t (.bool o.isSome))]
theorem lB {s:List UInt8}{p:Nat}:∀{n z:Nat} {y:List Int×Nat},fh s p n z=some y->y.1.length=n/\z+n<=y.2/\(p+z<=s.length->p+y.2<=s.length)
 | 0,z,y,h=>by
  rw[fh]at h;injection h with h;subst h
  exact⟨rfl,d7 _,id⟩
 | n+1,z,y,h=>by
  rw[fh]at h;split at h
  ·cases h
  ·rename_i x hx;obtain⟨a,b⟩:=x;have hd:=dW hx;rw[e8]at hd;rw[m9]at h;obtain⟨y',h',rfl⟩:=h;have:=lB h';dsimp only at this⊢;refine⟨by simp[this.1],o_,fun _=>this.2.2 o_⟩
def Er (s:List UInt8)(p:Int)(R:Option (List Int×Nat))(N:Int)(k z:Nat)(ok:Bool)(acc:List Int):Prop:=
 acc.length=k/\(k:Int)<=N/\acc.length<=s.length+1/\(match ok with
  | true=>0<=p/\p.toNat+z<=s.length/\acc.length<=z/\R=(fh s p.toNat (N.toNat-k) z).map fun y=>(acc++y.1,y.2)
  | false=>R=none)
theorem xn {s:List UInt8}{p:Int}:mh (dec s p)<=1099511627775/\0<=mh (dec s p)/\0<=np (dec s p)/\np (dec s p)<=6:=by match hd:dec s p with|none=>simp[mh,np]|some (a,b)=>have:=dW hd;simp only[mh,np];omega
theorem Li {s:List UInt8}{p:Int}:Er s p (aD s p) (mh (dec s p)) 0 (np (dec s p)).toNat (dec s p).isSome []:=by
 have hz:=xn (s:=s) (p:=p);refine⟨rfl,by simpa using hz.2.1,s_,?_⟩
 match hd:dec s p with
 | none=>simp[aD,hd]
 | some (a,b)=>have:=dW hd;simp only[Option.isSome,mh,np,aD,hd];refine⟨o_,by simp;omega,s_,?_⟩;simp
theorem Mj {s:List UInt8}{p:Int}{R:Option (List Int×Nat)}{N:Int}{k z:Nat}{acc:List Int}(h:Er s p R N k z true acc)(hk:(k:Int)<N):
  Er s p R N (k+1) (z+(np (dec s ((p.toNat+z:Nat):Int))).toNat) (dec s ((p.toNat+z:Nat):Int)).isSome (acc++[signed (mh (dec s ((p.toNat+z:Nat):Int)))]):=by
 obtain⟨h1,h2,h3,h4,h5,h6,h7⟩:=h;refine⟨by simp[h1],o_,by simp;omega,?_⟩;rw[show N.toNat-k=(N.toNat-(k+1))+1 by omega,fh]at h7
 match hd:dec s ((p.toNat+z:Nat):Int)with
 | none=>rw[hd]at h7;simpa using h7
 | some (a,b)=>have:=dW hd;rw[e8]at this;rw[hd]at h7;simp only[Option.isSome,mh,np];refine⟨h4,by simp;omega,by simp;omega,?_⟩;rw[h7];simp only[Option.map_map,e8];congr 1;funext y;simp
theorem MK {s:List UInt8}{p:Int}{R:Option (List Int×Nat)}{N:Int}{k z:Nat}{acc:List Int}(h:Er s p R N k z true acc)(hk:N<=k):R=some (acc,z):=by obtain⟨h1,h2,h3,h4,h5,h6,h7⟩:=h;rw[show N.toNat-k=0 by omega,fh]at h7;simpa using h7
theorem Nr {s:List UInt8}{p:Int}(h:(s.length:Int)<mh (dec s p)):aD s p=none:=by
 match hu:aD s p with
 | none=>rfl
 | some y=>
  exfalso
  match hd:dec s p with
  | none=>rw[hd]at h;simp[mh]at h;omega
  | some (a,b)=>
   have:=dW hd;rw[aD,hd]at hu;have:=lB hu;rw[hd]at h;simp only[mh]at h
   dsimp only at *
   omega
abbrev NX (s:List UInt8)(p:Int)(R:Option (List Int×Nat)):={q:Nat×Nat×List Int//Er s p R (mh (dec s p)) q.1 q.2.1 true q.2.2/\q.2.1<=2000000}
theorem fj (s:List UInt8)(p:Int)(hs:s.length<=1048576)(hp:p<=9223372036854775807):Sim.Spec prog 188 [tvS s,tvI p] (BQ (aD s p)):=by
 have hz:=xn (s:=s) (p:=p);have O4:=Li (s:=s) (p:=p);have We:=Nr (s:=s) (p:=p);obtain⟨R,hR⟩:∃R,aD s p=R:=⟨_,rfl⟩;rw[hR]at O4 We⊢;refine ag hΓ ay func188 rfl d_ rfl ?_;repeat' ((conv=>whnf);first|refine Or.inl ?_|apply oi|apply fi|intro h|refine ci ((dn s p hs)) (ai rfl (ai rfl trivial)) ?_|exact Y1|refine e_ rfl ?_)
 all_goals try(
  have hn:=We (m6 h);subst hn
  exact⟨rfl⟩)
 all_goals try(
  have hn:(dec s p).isSome=false:=by simpa using h
  rw[hn]at O4;have hn:=O4.2.2.2;subst hn
  exact⟨rfl⟩)
 have N7:(dec s p).isSome=true:=by simp at *;assumption
 rw[N7]at O4;conv=>whnf
 refine⟨NX s p R,fun q=>⟨[(0,tS s),(1,tI .i64 p),(7,tI .i64 (mh (dec s p))),(8,tI .i64 (q.1.2.1:Int)),(10,.r (.c (.own (10,0,0)))),(11,tI .i64 (q.1.1:Int))],[((10,0,0),some (.arr true 1 (q.1.2.2.map ae)))],[10]⟩,fun q=>(mh (dec s p)).toNat-q.1.1,⟨(0,(np (dec s p)).toNat,[]),O4,g_⟩,?_,?_⟩
 ·repeat' ((conv=>whnf);first|refine Or.inl ?_|apply oi|apply fi|intro h|exact Y1|refine e_ rfl ?_)
  exact⟨by dsimp only;rw[z6 hz.2.2.1]⟩
 intro⟨⟨k,z,acc⟩,Qz,UZ⟩;dsimp only at Qz UZ⊢;by_cases hk:(k:Int)<mh (dec s p)
 ·have OS:=Mj Qz hk;have hz2:=xn (s:=s) (p:=((p.toNat+z:Nat):Int));obtain⟨g1,g2,g3,g4,g5,g6,g7⟩:=Qz;have e:IntKind.i64.wrap (p+z)=((p.toNat+z:Nat):Int):=by rw[c6 _ o_];omega
  have hD:=dn s (IntKind.i64.wrap (p+z)) hs;repeat' ((conv=>whnf);first|refine Or.inl ?_|apply oi|apply fi|intro h|refine ci hD (ai rfl (ai rfl trivial)) ?_|refine ci (zy _) (ai rfl trivial) ?_|exact Y1|refine e_ rfl ?_)
  all_goals try exact absurd hk (n6 aag)
  all_goals try(
   rw[e]at h;have hn:(dec s ((p.toNat+z:Nat):Int)).isSome=false:=(by simpa using h);rw[hn]at OS;have hn:=OS.2.2.2;subst hn
   exact⟨rfl⟩)
  conv=>whnf
  rw[e]at h⊢;have hn:(dec s ((p.toNat+z:Nat):Int)).isSome=true:=by simpa using h
  rw[hn]at OS;refine⟨⟨(k+1,z+(np (dec s ((p.toNat+z:Nat):Int))).toNat,acc++[signed (mh (dec s ((p.toNat+z:Nat):Int)))]),OS,by dsimp only;obtain⟨_,_,_,_,h5,_⟩:=OS;omega⟩,?_,KD⟩;repeat' ((conv=>whnf);first|refine Or.inl ?_|apply oi|apply fi|intro h|exact Y1|refine e_ rfl ?_)
  ·exact⟨congrArg (Tr.int _) aav⟩
  ·exact⟨congrArg (Tr.int _) aav⟩
  ·exact⟨by simp[ae]⟩
 ·have Qb:=MK Qz o_;subst Qb;repeat' ((conv=>whnf);first|refine Or.inl ?_|apply oi|apply fi|intro h|exact Y1|refine e_ rfl ?_)
  all_goals(exfalso;simp only[j7]at *;omega)
theorem yb {m:Nat}(h:m<256):(UInt8.ofNat m).toNat=m:=by simp;omega
theorem CI {s rest:List UInt8}{p n:Nat}(hn:n<=1099511627775)(hs:s.drop p=encN n++rest):
  ∀(f k m acc:Nat),f+k=6->k+(encN m).length<=6->s.drop (p+k)=encN m++rest->acc+m*128^k=n->(encN n).length=k+(encN m).length->sm s p f k acc=some (n,(encN n).length)
 | 0,k,m,acc,hf,hk,hd,RM,N1=>by have:=yy m;omega
 | f+1,k,m,acc,hf,hk,hd,RM,N1=>by
  rw[encN.eq_def m]at hd hk N1;have Uv:enc (n:Int)=encN n:=by rw[enc,d5 (within_iff.2 ⟨o_,o_⟩),e8]
  by_cases hm:m<=127
  ·rw[d5 hm]at hd hk N1
   have hb:s[p+k]?=some (UInt8.ofNat m):=by have:=congrArg (fun l=>l[0]?) hd;simpa [r9]using this
   have h1:(UInt8.ofNat m).toNat=m:=yb o_;rw[sm,hb];dsimp only;rw[h1,c8 o_,show acc+m%128*128^k=n by rw[Nat.mod_eq_of_lt o_];exact RM,Uv,hs];simp only[c7,e7]at N1;rw[x8 o_,gt o_,d5 rfl,N1]
  ·rw[c8 hm]at hd hk N1
   have hb:s[p+k]?=some (UInt8.ofNat (m%128+128)):=by have:=congrArg (fun l=>l[0]?) hd;simpa [r9]using this
   have h1:(UInt8.ofNat (m%128+128)).toNat=m%128+128:=yb o_;rw[sm,hb];dsimp only;rw[h1,d5 o_];simp only[c7]at hk N1;refine CI hn hs f (k+1) (m/128) _ o_ o_ ?_ ?_ o_
   ·have:=congrArg (List.drop 1) hd;rw[y9]at this;simpa [C4]using this
   ·rw[show(m%128+128)%128=m%128 by omega,<-RM,F7,C4];congr 1;have h3:m/128*(128^k*128)=128*(m/128)*128^k:=(by rw[H0 (128^k),<-Nat.mul_assoc,H0 (m/128)]);rw[h3,<-o8];congr 1;omega
theorem tM {s rest:List UInt8}{p:Nat}{n:Int}(h0:0<=n)(h1:n<=1099511627775)(hs:s.drop p=enc n++rest):dec s (p:Int)=some (n.toNat,(enc n).length):=by
 obtain⟨m,rfl⟩:=j8 h0;have Uv:enc (m:Int)=encN m:=by rw[enc,d5 (within_iff.2 ⟨o_,o_⟩),e8]
 have hl:=cD (m:Int);rw[Uv]at hs hl⊢;rw[dec,c8 o_,e8,e8];exact CI o_ hs 6 0 m 0 rfl o_ (by simpa using hs) o_ o_
def mR (n:Int):Prop:= -549755813888<=n/\n<=549755813887
theorem pk {n:Int}(h:mR n):0<=bJ n/\bJ n<=1099511627775/\signed (bJ n)=n:=by
 obtain⟨h1,h2⟩:=h;rw[bJ,d5 (within_iff.2 ⟨h1,h2⟩)];split
 ·refine⟨o_,o_,?_⟩;rw[signed,d5 (within_iff.2 ⟨o_,o_⟩),d5 o_];omega
 ·refine⟨o_,o_,?_⟩;rw[signed,d5 (within_iff.2 ⟨o_,o_⟩),c8 o_];omega
theorem yv:∀{l:List Int},(∀n∈l,mR n)->∃bs,cT l=some bs
 | [],_=>⟨[],rfl⟩
 | n::l,h=>by
  obtain⟨bs,hb⟩:=yv (l:=l) fun x hx=>h x aat;have:=pk (h n s_);exact⟨enc (bJ n)++bs,by rw[cT,c8 o_,hb];rfl⟩
theorem xz {s rest:List UInt8}{p:Nat}:∀{l:List Int} {bs:List UInt8} {z:Nat},(∀n∈l,mR n)->cT l=some bs->s.drop (p+z)=bs++rest->fh s p l.length z=some (l,z+bs.length)
 | [],bs,z,_,hp,hs=>by
  rw[cT]at hp;injection hp with hp;subst hp
  rfl
 | n::l,bs,z,h,hp,hs=>by
  have hr:=pk (h n s_);rw[cT,c8 o_]at hp;rw[m9]at hp;obtain⟨bs',Ra,rfl⟩:=hp;rw[j9]at hs;rw[c7,fh,tM hr.1 hr.2.1 hs];dsimp only
  have O9:=xz (l:=l) (z:=z+(enc (bJ n)).length) (p:=p) (s:=s) (rest:=rest) (fun x hx=>h x aat) Ra (by
   have:=congrArg (List.drop (enc (bJ n)).length) hs;rw[y9,A6]at this
   rw[<-this,C4])
  rw[O9];simp only[s6,b8];rw[z6 hr.1,hr.2.2,C4]
theorem mw {s rest:List UInt8}{p:Nat}{l:List Int}(h:∀n∈l,mR n)(hl:l.length<=1099511627775)(hs:s.drop p=bt l++rest):aD s (p:Int)=some (l,(bt l).length):=by
 obtain⟨bs,hb⟩:=yv h;rw[bt,hb]at hs⊢;dsimp only at hs⊢;rw[j9]at hs;rw[aD,tM (n:=l.length) o_ o_ hs];dsimp only
 rw[e8,e8,xz (rest:=rest) h hb (by
  have:=congrArg (List.drop (enc (l.length:Int)).length) hs;rw[y9,A6]at this
  exact this),b8]
theorem kz {s rest t:List UInt8}{p:Nat}(ht:t.length<=1099511627775)(hs:s.drop p=(enc t.length++t)++rest):bH s (p:Int)=some (t,(enc t.length++t).length):=by
 rw[j9]at hs;have hd:=congrArg (List.drop (enc (t.length:Int)).length) hs;rw[y9,A6]at hd
 have N1:t.length+p+(enc (t.length:Int)).length<=s.length:=by
  have:=congrArg List.length hd;simp only[t8,b8]at this;by_cases h0:t.length=0
  ·have h1:=congrArg List.length hs;have h2:0<(enc (t.length:Int)).length:=(by rw[h0];exact yy 0);simp only[t8,b8]at h1;omega
  ·omega
 rw[bH,tM (n:=t.length) o_ o_ hs];dsimp only;rw[e8,e8,d5 o_,hd,F2,b8]
theorem An:∀{l:List Int} {bs:List UInt8},cT l=some bs->bs.length<=6*l.length
 | [],bs,h=>by rw[cT]at h;injection h with h;subst h;simp
 | n::l,bs,h=>by
  rw[cT]at h;split at h
  ·cases h
  ·rw[m9]at h;obtain⟨b',OO,rfl⟩:=h;have:=An OO;have:=cD (bJ n);simp only[b8,c7];omega
theorem Gg (bs:List UInt8):Sim.Spec prog 9 [tvL 1 (bs.map aZ)] (rB (decide (1048576<(bs.length:Int)))):=by
 refine ag hΓ ay func9 rfl d_ rfl ?_;have hl:(bs.map aZ).length=bs.length:=s_;repeat' ((conv=>whnf);first|refine Or.inl ?_|apply oi|apply fi|intro h|exact Y1|refine e_ rfl ?_)
 exact⟨by rw[hl]⟩
def gU (p:Option Int)(r:On):Bool:=af r.J7 0 1000000&&af r.J9 0 59&&(match p with|none=>true|some q=>decide (q<r.J7))
def fg:Option Int->List On->Bool
 | _,[]=>true
 | p,r::l=>gU p r&&fg (some r.J7) l
def gq (l:List On):Bool:=fg none l
def qF (l:List On)(k:Nat):Option Int:=if k=0 then none else(l[k-1]?).map (·.J7)
theorem Ga {l:List On}{k:Nat}{x:On}(h:l[k]?=some x):qF l (k+1)=some x.J7:=by rw[qF,c8 o_];simp[h]
theorem ID {l:List On}{k:Nat}{x:On}(hx:l[k]?=some x):fg (qF l k) (l.drop k)=(gU (qF l k) x&&fg (qF l (k+1)) (l.drop (k+1))):=by rw[aP hx,fg,Ga hx]
theorem lV (l:List On)(hl:l.length<=1048576):Sim.Spec prog 104 [tvL 3 (l.map On.tr)] (rB (gq l)):=by
 refine ag hΓ ay func104 rfl d_ rfl ?_;have N1:(l.map On.tr).length=l.length:=s_;repeat' ((conv=>whnf);first|refine Or.inl ?_|apply oi|apply fi|intro h|exact Y1|refine e_ rfl ?_)
 conv=>whnf
 refine⟨{k:Nat//k<=l.length/\fg (qF l k) (l.drop k)=gq l},fun k=>⟨[(0,.r (.c (.t (.lst 3 (l.map On.tr))))),(5,.r (.c (.t (.lst 3 (l.map On.tr))))),(6,tI .i64 ((l.map On.tr).length:Int)),(7,tI .i64 (k.1:Int))],[],[]⟩,fun k=>l.length-k.1,⟨0,o_,rfl⟩,?_,?_⟩
 ·exact Z1
 intro⟨k,hk,hr⟩;dsimp only;repeat' ((conv=>whnf);first|refine Or.inl ?_|apply oi|apply fi|intro h|exact Y1|refine e_ rfl ?_)
 ·have N2:k<l.length:=by have:=m6 h;omega
  obtain⟨x,hx⟩:=ab N2;rw[ID hx]at hr;conv=>whnf
  refine⟨k,x.tr,rfl,aa hx,?_⟩;repeat' ((conv=>whnf);first|refine Or.inl ?_|apply oi|apply fi|intro h|refine ci (ak _ _ _) (ai rfl (ai rfl (ai rfl trivial))) ?_|exact Y1|refine e_ rfl ?_)
  all_goals try(
   refine⟨congrArg Tr.bool ?_⟩;rw[<-hr];unfold gU;simp_all
   done)
  ·have O6:0<k:=(by have:=m6 h;omega);obtain⟨y,hy⟩:=ab (l:=l) (k:=k-1) o_;conv=>whnf
   refine⟨k-1,y.tr,by rw[c6 _ o_];omega,aa hy,?_⟩;have hp:qF l k=some y.J7:=(by rw[qF,c8 o_,hy];rfl);rw[hp]at hr;repeat' ((conv=>whnf);first|refine Or.inl ?_|apply oi|apply fi|intro h|exact Y1|refine e_ rfl ?_)
   ·refine⟨congrArg Tr.bool ?_⟩;rw[<-hr];unfold gU;simp_all;omega
   have N7:gU (some y.J7) x=true:=by unfold gU;simp_all
   rw[N7,m7]at hr;conv=>whnf
   refine⟨⟨k+1,o_,hr⟩,?_,KD⟩;exact Z3
  ·have O6:k=0:=by have:=n6 h;omega
   have N7:gU (qF l k) x=true:=by subst O6;unfold gU qF;simp_all
   rw[N7,m7]at hr;conv=>whnf
   refine⟨⟨k+1,o_,hr⟩,?_,KD⟩;exact Z3
 ·have OK:l.length<=k:=by have:=n6 h;omega
  rw[d8 OK]at hr;exact⟨by rw[<-hr];rfl⟩
def cW (off:Int):List On->Nat->Int->Int
 | [],_,f=>f
 | r::l,i,f=>cW off l (i+1) (if r.J7<=off then(i:Int)else f)
def fq (l:List On)(off:Int):Int:=if gq l then cW off l 0 (-1)else -1
theorem FJ {off:Int}{l:List On}{k:Nat}{f:Int}{x:On}(hx:l[k]?=some x):cW off (l.drop k) k f=cW off (l.drop (k+1)) (k+1) (if x.J7<=off then(k:Int)else f):=by rw[aP hx,cW]
theorem oH (l:List On)(off:Int)(hl:l.length<=1048576):Sim.Spec prog 126 [tvL 3 (l.map On.tr),tvI off] (rI (fq l off)):=by
 refine ag hΓ ay func126 rfl d_ rfl ?_;have N1:(l.map On.tr).length=l.length:=s_;unfold fq;repeat' ((conv=>whnf);first|refine Or.inl ?_|apply oi|apply fi|intro h|refine ci ((lV l hl)) (ai rfl trivial) ?_|exact Y1|refine e_ rfl ?_)
 ·have h':gq l=false:=by simpa using h
  exact⟨by rw[h'];rfl⟩
 have h':gq l=true:=by simpa using h
 rw[h',d5 rfl];conv=>whnf
 refine⟨{q:Nat×Int//q.1<=l.length/\cW off (l.drop q.1) q.1 q.2=cW off l 0 (-1)},fun q=>⟨[(1,tI .i64 off),(5,tI .i64 q.1.2),(11,.r (.c (.t (.lst 3 (l.map On.tr))))),(12,tI .i64 ((l.map On.tr).length:Int)),(13,tI .i64 (q.1.1:Int))],[],[]⟩,fun q=>l.length-q.1.1,⟨(0,-1),s_,rfl⟩,?_,?_⟩
 ·exact Z1
 intro⟨⟨k,f⟩,hk,hr⟩;dsimp only at hk hr⊢;by_cases N2:k<l.length
 ·obtain⟨x,hx⟩:=ab N2;rw[FJ hx]at hr;by_cases Si:x.J7<=off
  ·rw[d5 Si]at hr;repeat' ((conv=>whnf);first|refine Or.inl ?_|apply oi|apply fi|intro h|refine⟨k,x.tr,rfl,aa hx,?_⟩|exact Y3|refine e_ rfl ?_)
   conv=>whnf
   refine⟨⟨(k+1,(k:Int)),g_,hr⟩,?_,KD⟩;exact Z3
  ·rw[c8 Si]at hr;repeat' ((conv=>whnf);first|refine Or.inl ?_|apply oi|apply fi|intro h|refine⟨k,x.tr,rfl,aa hx,?_⟩|exact Y3|refine e_ rfl ?_)
   conv=>whnf
   refine⟨⟨(k+1,f),g_,hr⟩,?_,KD⟩;exact Z3
 ·have OK:l.length<=k:=o_;rw[d8 OK,cW]at hr;repeat' ((conv=>whnf);first|refine Or.inl ?_|apply oi|apply fi|intro h|exact Y3|refine e_ rfl ?_)
  exact⟨by rw[hr]⟩
theorem nV {off:Int}:∀{l:List On} {i:Nat} {f:Int},(f= -1\/(0<=f/\f<i))->cW off l i f= -1\/(0<=cW off l i f/\cW off l i f<i+l.length)
 | [],i,f,h=>by rw[cW];simp only[e7];omega
 | r::l,i,f,h=>by
  rw[cW];have:=nV (off:=off) (l:=l) (i:=i+1) (f:=if r.J7<=off then(i:Int)else f) (by split<;>omega);simp only[c7];omega
theorem qx (l:List On)(off:Int):fq l off= -1\/(0<=fq l off/\fq l off<l.length):=by
 unfold fq;split
 ·have:=nV (off:=off) (l:=l) (i:=0) (f:= -1) (.inl rfl);omega
 ·exact .inl rfl
def wi (l:List On)(off:Int):Bool:=decide (0<=fq l off)&&(match l[(fq l off).toNat]? with|some r=>r.J7==off&&r.J8|none=>false)
theorem xZ (l:List On)(off:Int)(hl:l.length<=1048576):Sim.Spec prog 127 [tvL 3 (l.map On.tr),tvI off] (rB (wi l off)):=by
 refine ag hΓ ay func127 rfl d_ rfl ?_;have N1:(l.map On.tr).length=l.length:=s_;have Rx:=oH l off hl;have Uk:=qx l off;unfold wi
 generalize fq l off=f at *
 rcases Uk with rfl|⟨h0,h1⟩
 ·repeat' ((conv=>whnf);first|refine Or.inl ?_|apply oi|apply fi|intro h|refine ci Rx (ai rfl (ai rfl trivial)) ?_|exact Y1|refine e_ rfl ?_)
  all_goals simp at *
 ·obtain⟨j,rfl⟩:=j8 h0;obtain⟨x,hx⟩:=ab (l:=l) (k:=j) o_;rw[e8,hx];repeat' ((conv=>whnf);first|refine Or.inl ?_|apply oi|apply fi|intro h|refine ci Rx (ai rfl (ai rfl trivial)) ?_|refine⟨j,x.tr,rfl,aa hx,?_⟩|exact Y1|refine e_ rfl ?_)
  all_goals(refine⟨congrArg Tr.bool ?_⟩;simp_all)
def b01 (b:Bool):Int:=match b with|true=>1|false=>0
def bL:On->List On->List Int
 | _,[]=>[]
 | p,r::l=>(r.J7-p.J7)::(r.J9-p.J9)::b01 r.J8::bL r l
def iA:On:=⟨0,0,false⟩
def aR (l:List On):List UInt8:=if gq l then bt (bL iA l)else []
def fG (r:On):Prop:=0<=r.J7/\r.J7<=1000000/\0<=r.J9/\r.J9<=59
theorem lu:∀{l:List On} {p:Option Int},fg p l=true->∀r∈l,fG r
 | [],_,_,r,hr=>by cases hr
 | x::l,p,h,r,hr=>by
  rw[fg,c9]at h;rcases d6.1 hr with rfl|hr
  ·have h1:=h.1;unfold gU at h1;simp only[c9]at h1;have a:=within_iff.1 h1.1.1;have b:=within_iff.1 h1.1.2;exact⟨a.1,a.2,b.1,b.2⟩
  ·exact lu h.2 r hr
abbrev MJ (l:List On)(E:List Int):={q:Nat×On×List Int//q.1<=l.length/\q.2.2.length=3*q.1/\fG q.2.1/\q.2.2++bL q.2.1 (l.drop q.1)=E}
theorem Fg {l:List On}{k:Nat}{p x:On}{acc:List Int}(hx:l[k]?=some x):acc++bL p (l.drop k)=(acc++[x.J7-p.J7,x.J9-p.J9,b01 x.J8])++bL x (l.drop (k+1)):=by rw[aP hx,bL];simp
theorem mS:∀(l:List On) (p:On),(bL p l).length=3*l.length
 | [],_=>rfl
 | r::l,_=>by rw[bL];simp[mS l r];omega
theorem V87{p:Prop}(h:p:=by
 have hPk:=gh acc o_;clear hE;subst hr
 repeat' ((conv=>whnf);first|refine Or.inl ?_|apply oi|apply fi|intro h|refine ci hPk (ai rfl trivial) ?_|exact Y3|refine e_ rfl ?_)):p:=h
theorem lK (l:List On)(hl:l.length<=1048576):Sim.Spec prog 110 [tvL 3 (l.map On.tr)] (rS (aR l)):=by
 refine ag hΓ ay func110 rfl d_ rfl ?_;have N1:(l.map On.tr).length=l.length:=s_;unfold aR;repeat' ((conv=>whnf);first|refine Or.inl ?_|apply oi|apply fi|intro h|refine ci ((lV l hl)) (ai rfl trivial) ?_|exact Y1|refine e_ rfl ?_)
 ·have h':gq l=false:=by simpa using h
  exact⟨by rw[h'];rfl⟩
 have h':gq l=true:=by simpa using h
 have Qa:=lu h';rw[h',d5 rfl];obtain⟨E,hE⟩:∃E,bL iA l=E:=⟨_,rfl⟩;rw[hE];conv=>whnf
 refine⟨MJ l E,fun q=>⟨[(3,.r (.c (.own (3,0,0)))),(4,.r (.c (.ptr (4,0,0) 0))),(13,.r (.c (.t (.lst 3 (l.map On.tr))))),(14,tI .i64 ((l.map On.tr).length:Int)),(15,tI .i64 (q.1.1:Int))],[((3,0,0),some (.arr true 1 (q.1.2.2.map ae))),((4,0,0),some (.box [.t (.int .i64 q.1.2.1.J7),.t (.int .i64 q.1.2.1.J9),.t (.bool q.1.2.1.J8)]))],[3,4]⟩,fun q=>l.length-q.1.1,⟨(0,iA,[]),s_,rfl,by simp[fG,iA],hE⟩,?_,?_⟩
 ·exact Z1
 intro⟨⟨k,p,acc⟩,hk,OC,hp,hr⟩;dsimp only at hk OC hp hr⊢;by_cases N2:k<l.length
 ·obtain⟨x,hx⟩:=ab N2;rw[Fg hx]at hr;have Xe:=Qa x (b9 hx);have Si:=Xe;have hp2:=hp;unfold fG at Si hp2;have w1:IntKind.i64.wrap (x.J7-p.J7)=x.J7-p.J7:=c6 _ o_;have w2:IntKind.i64.wrap (x.J9-p.J9)=x.J9-p.J9:=c6 _ o_;repeat' ((conv=>whnf);first|refine Or.inl ?_|apply oi|apply fi|intro h|refine⟨k,x.tr,rfl,aa hx,?_⟩|exact Y1|refine e_ rfl ?_)
  all_goals try exact absurd N2 (by have:=n6 aag;omega)
  ·conv=>whnf
   refine⟨⟨(k+1,x,acc++[x.J7-p.J7,x.J9-p.J9,b01 x.J8]),g_,by simp;omega,Xe,hr⟩,?_,KD⟩;repeat' ((conv=>whnf);first|refine Or.inl ?_|apply oi|apply fi|intro h|exact Y2|refine e_ rfl ?_)
   refine⟨?_⟩;dsimp only;rw[w1,w2,show x.J8=true by assumption];simp[ae,b01]
  ·conv=>whnf
   refine⟨⟨(k+1,x,acc++[x.J7-p.J7,x.J9-p.J9,b01 x.J8]),g_,by simp;omega,Xe,hr⟩,?_,KD⟩;repeat' ((conv=>whnf);first|refine Or.inl ?_|apply oi|apply fi|intro h|exact Y2|refine e_ rfl ?_)
   refine⟨?_⟩;dsimp only;rw[w1,w2,show x.J8=false by assumption];simp[ae,b01]
 ·have OK:l.length<=k:=o_;rw[d8 OK,bL,i9]at hr;exact V87
end Go.Proofs.P
namespace Go.Proofs.P
open Go.Sim Tryz
def dK (last:Int)(r:Oo):Prop:=last<=r.J8/\r.J8<r.L5/\r.L5<=1000000/\0<=r.L9/\r.L9<=1200/\(r.M4=true->r.L9=0)
instance (last:Int) (r:Oo):Decidable (dK last r):=by unfold dK;infer_instance
def cV:Int->List Oo->Bool
 | _,[]=>true
 | p,r::l=>if dK p r then cV r.L5 l else false
def fI (l:List Oo):Bool:=cV 0 l
def jM (l:List Oo)(k:Nat):Int:=if k=0 then 0 else match l[k-1]? with|some r=>r.L5|none=>0
theorem yz {l:List Oo}{k:Nat}{x:Oo}(h:l[k]?=some x):jM l (k+1)=x.L5:=by rw[jM,c8 o_];simp[h]
theorem Ft {l:List Oo}{k:Nat}{x:Oo}(hx:l[k]?=some x):cV (jM l k) (l.drop k)=if dK (jM l k) x then cV (jM l (k+1)) (l.drop (k+1))else false:=by rw[aP hx,cV,yz hx]
theorem Le {l:List Oo}{k:Nat}{x:Oo}(hx:l[k]?=some x)(h0:0<=jM l k)(hb:dK (jM l k) x):0<=jM l (k+1):=by rw[yz hx];unfold dK at hb;omega
abbrev Ml (l:List Oo)(R:Bool):={k:Nat//k<=l.length/\0<=jM l k/\cV (jM l k) (l.drop k)=R}
theorem Q29{p:Prop}(h:p:=by exfalso;apply hb;(try simp_all[af]);(try omega);first|done|fail):p:=h
theorem Q1{p:Prop}(h:p:=by exfalso;(try simp_all[af]);(try omega);first|done|fail):p:=h
theorem ov (l:List Oo)(hl:l.length<=1048576):Sim.Spec prog 103 [tvL 4 (l.map Oo.tr)] (rB (fI l)):=by
 refine ag hΓ ay func103 rfl d_ rfl ?_;have N1:(l.map Oo.tr).length=l.length:=s_;obtain⟨R,hR⟩:∃R,fI l=R:=⟨_,rfl⟩;rw[hR];repeat' ((conv=>whnf);first|refine Or.inl ?_|apply oi|apply fi|intro h|exact Y1|refine e_ rfl ?_)
 conv=>whnf
 refine⟨Ml l R,fun k=>⟨[(0,.r (.c (.t (.lst 4 (l.map Oo.tr))))),(5,.r (.c (.t (.lst 4 (l.map Oo.tr))))),(6,tI .i64 ((l.map Oo.tr).length:Int)),(7,tI .i64 (k.1:Int))],[],[]⟩,fun k=>l.length-k.1,⟨0,o_,by simp[jM],hR⟩,?_,?_⟩
 ·exact Z1
 intro⟨k,hk,h0,hr⟩;dsimp only;by_cases N2:k<l.length
 ·obtain⟨x,hx⟩:=ab N2;rw[Ft hx]at hr;have XR:=Le hx h0;have XO:∀y,0<k->l[k-1]?=some y->jM l k=y.L5:=fun y h1 h2=>by rw[jM,c8 o_,h2]
  have VM:k=0->jM l k=0:=fun h1=>by rw[jM,d5 h1]
  have hw:0<k->IntKind.i64.wrap (↑k-1)=((k-1:Nat):Int):=fun h=>by rw[c6 _ o_];omega
  by_cases hb:dK (jM l k) x
  ·rw[d5 hb]at hr;have XR:=XR hb;unfold dK at hb;rcases z4 k with O6|O6
   ·have VM:=VM O6
    cases P2:x.M4
    all_goals
     repeat' ((conv=>whnf);first|refine Or.inl ?_|apply oi|apply fi|intro h|refine⟨k,x.tr,rfl,aa hx,?_⟩|refine ci (ak _ _ _) (ai rfl (ai rfl (ai rfl trivial))) ?_|exact Y3|refine e_ rfl ?_)
     all_goals try exact Q1
     conv=>whnf
     refine⟨⟨k+1,o_,XR,hr⟩,?_,KD⟩;exact Z3
   ·obtain⟨y,hy⟩:=ab (l:=l) (k:=k-1) o_;have XO:=XO y O6 hy;have hw:=hw O6
    cases P2:x.M4
    all_goals
     repeat' ((conv=>whnf);first|refine Or.inl ?_|apply oi|apply fi|intro h|refine⟨k,x.tr,rfl,aa hx,?_⟩|refine⟨(k-1),y.tr,hw,aa hy,?_⟩|refine ci (ak _ _ _) (ai rfl (ai rfl (ai rfl trivial))) ?_|exact Y3|refine e_ rfl ?_)
     all_goals try exact Q1
     conv=>whnf
     refine⟨⟨k+1,o_,XR,hr⟩,?_,KD⟩;exact Z3
  ·rw[c8 hb]at hr;subst hr;unfold dK at hb;rcases z4 k with O6|O6
   ·have VM:=VM O6
    cases P2:x.M4
    all_goals
     repeat' ((conv=>whnf);first|refine Or.inl ?_|apply oi|apply fi|intro h|refine⟨k,x.tr,rfl,aa hx,?_⟩|refine ci (ak _ _ _) (ai rfl (ai rfl (ai rfl trivial))) ?_|exact Y3|refine e_ rfl ?_)
     all_goals try exact Q29
   ·obtain⟨y,hy⟩:=ab (l:=l) (k:=k-1) o_;have XO:=XO y O6 hy;have hw:=hw O6
    cases P2:x.M4
    all_goals
     repeat' ((conv=>whnf);first|refine Or.inl ?_|apply oi|apply fi|intro h|refine⟨k,x.tr,rfl,aa hx,?_⟩|refine⟨(k-1),y.tr,hw,aa hy,?_⟩|refine ci (ak _ _ _) (ai rfl (ai rfl (ai rfl trivial))) ?_|exact Y3|refine e_ rfl ?_)
     all_goals try exact Q29
 ·have OK:l.length<=k:=o_;rw[d8 OK,cV]at hr;subst hr;exact Z4
def bh:Int->List Oo->List Int
 | _,[]=>[]
 | p,r::l=>(r.J8-p)::(r.L5-r.J8)::b01 r.M4::r.L9::bh r.L5 l
def aK (l:List Oo):List UInt8:=if fI l then bt (bh 0 l)else []
def mA (r:Oo):Prop:=0<=r.J8/\r.J8<r.L5/\r.L5<=1000000/\0<=r.L9/\r.L9<=1200
theorem kg:∀{l:List Oo} {p:Int},0<=p->cV p l=true->∀r∈l,mA r
 | [],_,_,_,r,hr=>by cases hr
 | x::l,p,h0,h,r,hr=>by
  rw[cV]at h;split at h
  ·rename_i hb;unfold dK at hb;rcases d6.1 hr with rfl|hr
   ·unfold mA;omega
   ·exact kg o_ h r hr
  ·cases h
abbrev MX (l:List Oo)(E:List Int):={q:Nat×Int×List Int//q.1<=l.length/\q.2.2.length=4*q.1/\0<=q.2.1/\q.2.1<=1000000/\q.2.2++bh q.2.1 (l.drop q.1)=E}
theorem Fa {l:List Oo}{k:Nat}{p:Int}{x:Oo}{acc:List Int}(hx:l[k]?=some x):acc++bh p (l.drop k)=(acc++[x.J8-p,x.L5-x.J8,b01 x.M4,x.L9])++bh x.L5 (l.drop (k+1)):=by rw[aP hx,bh];simp
theorem kZ (l:List Oo)(hl:l.length<=1048576):Sim.Spec prog 109 [tvL 4 (l.map Oo.tr)] (rS (aK l)):=by
 refine ag hΓ ay func109 rfl d_ rfl ?_;have N1:(l.map Oo.tr).length=l.length:=s_;unfold aK;repeat' ((conv=>whnf);first|refine Or.inl ?_|apply oi|apply fi|intro h|refine ci ((ov l hl)) (ai rfl trivial) ?_|exact Y1|refine e_ rfl ?_)
 ·have h':fI l=false:=by simpa using h
  exact⟨by rw[h'];rfl⟩
 have h':fI l=true:=by simpa using h
 have Qa:=kg o_ h';rw[h',d5 rfl];obtain⟨E,hE⟩:∃E,bh 0 l=E:=⟨_,rfl⟩;rw[hE];conv=>whnf
 refine⟨MX l E,fun q=>⟨[(3,.r (.c (.own (3,0,0)))),(4,tI .i64 q.1.2.1),(12,.r (.c (.t (.lst 4 (l.map Oo.tr))))),(13,tI .i64 ((l.map Oo.tr).length:Int)),(14,tI .i64 (q.1.1:Int))],[((3,0,0),some (.arr true 1 (q.1.2.2.map ae)))],[3]⟩,fun q=>l.length-q.1.1,⟨(0,0,[]),s_,rfl,s_,s_,hE⟩,?_,?_⟩
 ·exact Z1
 intro⟨⟨k,p,acc⟩,hk,OC,hp,XS,hr⟩;dsimp only at hk OC hp XS hr⊢;by_cases N2:k<l.length
 ·obtain⟨x,hx⟩:=ab N2;rw[Fa hx]at hr;have Si:=Qa x (b9 hx);unfold mA at Si;have w1:IntKind.i64.wrap (x.J8-p)=x.J8-p:=c6 _ o_;have w2:IntKind.i64.wrap (x.L5-x.J8)=x.L5-x.J8:=c6 _ o_
  cases O4:x.M4
  all_goals
   rw[O4]at hr;repeat' ((conv=>whnf);first|refine Or.inl ?_|apply oi|apply fi|intro h|refine⟨k,x.tr,rfl,aa hx,?_⟩|exact Y3|refine e_ rfl ?_)
   all_goals try exact Q1
   conv=>whnf
   refine⟨⟨(k+1,x.L5,_),g_,by simp;omega,g_,g_,hr⟩,?_,KD⟩;repeat' ((conv=>whnf);first|refine Or.inl ?_|apply oi|apply fi|intro h|exact Y2|refine e_ rfl ?_)
   refine⟨?_⟩;dsimp only;rw[w1,w2];simp[ae,b01]
 ·have OK:l.length<=k:=o_;rw[d8 OK,bh,i9]at hr;exact V87
def low (b:UInt8):Bool:=decide (97<=b.toNat)&&decide (b.toNat<=122)
def bW (s:List UInt8):Bool:=s.all low&&af s.length 1 8
abbrev Kv (s:List UInt8):={k:Nat//k<=s.length/\(s.take k).all low=true}
theorem EP {α:Type}{p:α->Bool}{s:List α}{k:Nat}{b:α}(h:(s.take k).all p=true)(hb:s[k]?=some b)(hp:p b=true):(s.take (k+1)).all p=true:=by rw[z7,hb];simp_all
theorem Ha {α:Type}{p:α->Bool}{s:List α}{k:Nat}{b:α}(hb:s[k]?=some b)(hp:p b=false):s.all p=false:=by
 rw[Bool.eq_false_iff];intro h;rw[q7]at h;rw[h b (b9 hb)]at hp
 cases hp
theorem V21{p:Prop}(h:p:=by
 obtain⟨b,hb⟩:=ab N2;have RH:=b.toNat_lt
 cases Sf:low b with
 | false=>
  rw[Ha hb Sf];unfold low at Sf;repeat' ((conv=>whnf);first|refine Or.inl ?_|apply oi|apply fi|intro h|refine⟨k,b,rfl,hb,?_⟩|exact Y3|refine e_ rfl ?_)
  all_goals(exfalso;simp at *;omega)
 | true=>
  have Zi:=EP hp hb Sf;unfold low at Sf;repeat' ((conv=>whnf);first|refine Or.inl ?_|apply oi|apply fi|intro h|refine⟨k,b,rfl,hb,?_⟩|exact Y4|refine e_ rfl ?_)
  conv=>whnf
  refine⟨⟨k+1,o_,Zi⟩,?_,KD⟩
  exact Z3):p:=h
theorem iY (s:List UInt8)(hl:s.length<=1099511627775):Sim.Spec prog 210 [tvS s] (rB (bW s)):=by
 refine ag hΓ ay func210 rfl d_ rfl ?_;unfold bW;repeat' ((conv=>whnf);first|refine Or.inl ?_|apply oi|apply fi|intro h|exact Y1|refine e_ rfl ?_)
 conv=>whnf
 refine⟨Kv s,fun k=>⟨[(0,tS s),(3,tI .i64 (k.1:Int))],[],[]⟩,fun k=>s.length-k.1,⟨0,o_,rfl⟩,?_,?_⟩
 ·exact Z1
 intro⟨k,hk,hp⟩;dsimp only;by_cases N2:k<s.length
 ·exact V21
 ·have OK:s.length<=k:=o_;rw[gt OK]at hp;rw[hp];repeat' ((conv=>whnf);first|refine Or.inl ?_|apply oi|apply fi|intro h|refine ci (ak _ _ _) (ai rfl (ai rfl (ai rfl trivial))) ?_|exact Y3|refine e_ rfl ?_)
theorem jc (s:List UInt8)(hl:s.length<=1099511627775):Sim.Spec prog 189 [tvS s] (rB (bW s)):=by
 refine ag hΓ ay func189 rfl d_ rfl ?_;unfold bW;repeat' ((conv=>whnf);first|refine Or.inl ?_|apply oi|apply fi|intro h|exact Y1|refine e_ rfl ?_)
 conv=>whnf
 refine⟨Kv s,fun k=>⟨[(0,tS s),(3,tI .i64 (k.1:Int))],[],[]⟩,fun k=>s.length-k.1,⟨0,o_,rfl⟩,?_,?_⟩
 ·exact Z1
 intro⟨k,hk,hp⟩;dsimp only;by_cases N2:k<s.length
 ·exact V21
 ·have OK:s.length<=k:=o_;rw[gt OK]at hp;rw[hp];repeat' ((conv=>whnf);first|refine Or.inl ?_|apply oi|apply fi|intro h|refine ci (cC _ _ _) (ai rfl (ai rfl (ai rfl trivial))) ?_|exact Y3|refine e_ rfl ?_)
def ip (x:Oh):Bool:=decide (0<=x.J8)&&decide (x.J8<x.L5)&&decide (x.L5<=1000000)&&af x.L8 0 2&&af x.J9 0 59&&bW x.J0
theorem vV (x:Oh)(hl:x.J0.length<=1099511627775):Sim.Spec prog 183 [.agg x.tr] (rB (ip x)):=by
 refine ag hΓ ay func183 rfl d_ rfl ?_;unfold ip;have hn:=iY x.J0 hl
 generalize bW x.J0=nb at *
 repeat' ((conv=>whnf);first|refine Or.inl ?_|apply oi|apply fi|intro h|refine ci (ak _ _ _) (ai rfl (ai rfl (ai rfl trivial))) ?_|refine ci hn (ai rfl trivial) ?_|exact Y1|refine e_ rfl ?_)
 all_goals(refine⟨congrArg Tr.bool ?_⟩;simp_all;try(intros;omega))
def holds (x y:Oh):Bool:=(y.L8==x.L8-1)&&decide (y.J8<=x.J8)&&decide (x.L5<=y.L5)
def behind (p:Option Oh)(x:Oh):Prop:=match p with
 | none=>True
 | some p=>p.L8<=x.L8/\(p.L8=x.L8->p.L5<=x.J8)
instance (p:Option Oh) (x:Oh):Decidable (behind p x):=by unfold behind;cases p<;>infer_instance
def ke (pre:List Oh)(x:Oh):Bool:=ip x&&decide (behind pre.getLast? x)&&(x.L8==0||pre.any (holds x))
def bS:List Oh->List Oh->Bool
 | _,[]=>true
 | pre,x::l=>if ke pre x=true then bS (pre++[x]) l else false
def dV (l:List Oh):Bool:=bS [] l
theorem Cd {l:List Oh}{k:Nat}{x:Oh}(hx:l[k]?=some x):bS (l.take k) (l.drop k)=if ke (l.take k) x=true then bS (l.take (k+1)) (l.drop (k+1))else false:=by rw[aP hx,bS];congr 2;rw[z7,hx];rfl
theorem HS {l:List Oh}{k:Nat}(hk:k<=l.length):(l.take k).getLast?=if k=0 then none else l[k-1]?:=by
 rw[List.getLast?_eq_getElem?,j5,x6 hk];split
 ·subst k;simp
 ·rw[l4,d5 o_]
abbrev NS (l:List Oh)(R:Bool):={k:Nat//k<=l.length/\bS (l.take k) (l.drop k)=R}
abbrev NZ (l:List Oh)(k:Nat)(x:Oh)(W:Bool):={q:Nat×Bool//q.1<=k/\(q.2||((l.take k).drop q.1).any (holds x))=W}
theorem Nl {l:List Oh}{k j:Nat}{x y:Oh}{b:Bool}(hj:j<k)(hy:l[j]?=some y):(b||((l.take k).drop j).any (holds x))=((b||holds x y)||((l.take k).drop (j+1)).any (holds x)):=by rw[aP (x:=y) (by rw[l4,d5 hj];exact hy),List.any_cons,Bool.or_assoc]
theorem fL (l:List Oh)(hl:l.length<=1048576)(hn:∀x∈l,x.J0.length<=1099511627775):Sim.Spec prog 105 [tvL 5 (l.map Oh.tr)] (rB (dV l)):=by
 refine ag hΓ ay func105 rfl d_ rfl ?_;have N1:(l.map Oh.tr).length=l.length:=s_;obtain⟨R,hR⟩:∃R,dV l=R:=⟨_,rfl⟩;rw[hR];repeat' ((conv=>whnf);first|refine Or.inl ?_|apply oi|apply fi|intro h|exact Y1|refine e_ rfl ?_)
 conv=>whnf
 refine⟨NS l R,fun k=>⟨[(0,.r (.c (.t (.lst 5 (l.map Oh.tr))))),(8,.r (.c (.t (.lst 5 (l.map Oh.tr))))),(9,tI .i64 ((l.map Oh.tr).length:Int)),(10,tI .i64 (k.1:Int))],[],[]⟩,fun k=>l.length-k.1,⟨0,o_,hR⟩,?_,?_⟩
 ·exact Z1
 intro⟨k,hk,hr⟩;dsimp only;by_cases N2:k<l.length
 ·obtain⟨x,hx⟩:=ab N2;rw[Cd hx]at hr;have hi:=vV x (hn x (b9 hx));have hw:0<k->IntKind.i64.wrap (↑k-1)=((k-1:Nat):Int):=fun h=>by rw[c6 _ o_];omega
  have Qe:=HS hk;have Uq:((l.map Oh.tr).take k).length=k:=by simp;omega
  cases P0:ip x with
  | false=>
   rw[P0]at hi;rw[c8 (by unfold ke;rw[P0];simp)]at hr;subst hr
   repeat' ((conv=>whnf);first|refine Or.inl ?_|apply oi|apply fi|intro h|refine⟨k,x.tr,rfl,aa hx,?_⟩|refine ci hi (ai (ai rfl (ai rfl (ai rfl (ai rfl (ai rfl trivial))))) trivial) ?_|exact Y3|refine e_ rfl ?_)
  | true=>
   rw[P0]at hi;by_cases Sp:behind (l.take k).getLast? x
   ·have RE:k=0\/(∃p,0<k/\l[k-1]?=some p/\p.L8<x.L8)\/(∃p,0<k/\l[k-1]?=some p/\p.L8=x.L8/\p.L5<=x.J8):=by
     by_cases O6:k=0
     ·exact .inl O6
     ·obtain⟨p,hp⟩:=ab (l:=l) (k:=k-1) o_;rw[Qe,c8 O6,hp]at Sp;by_cases he:p.L8=x.L8
      ·exact .inr (.inr ⟨p,o_,hp,he,Sp.2 he⟩)
      ·exact .inr (.inl ⟨p,o_,hp,by have:=Sp.1;omega⟩)
    have RG:0<=x.L8/\x.L8<=2:=by unfold ip at P0;simp only[c9]at P0;exact within_iff.1 P0.1.1.2
    have R7:IntKind.i64.wrap (x.L8-1)=x.L8-1:=c6 _ o_;have N7:ke (l.take k) x=(x.L8==0||(l.take k).any (holds x)):=(by unfold ke;rw[P0,r7 Sp];simp);rw[N7]at hr;obtain⟨W,hW⟩:∃W,(x.L8==0||(l.take k).any (holds x))=W:=⟨_,rfl⟩;rw[hW]at hr;have Sz:(((l.map Oh.tr).take k).drop 0).length=k:=(by simp;omega);rcases RE with O6|⟨p,O6,hp,PK⟩|⟨p,O6,hp,PK,OX⟩
    all_goals
     repeat' ((conv=>whnf);first|refine Or.inl ?_|apply oi|apply fi|intro h|refine⟨k,x.tr,rfl,aa hx,?_⟩|refine⟨(k-1),p.tr,hw O6,aa hp,?_⟩|refine ci hi (ai (ai rfl (ai rfl (ai rfl (ai rfl (ai rfl trivial))))) trivial) ?_|exact Y3|refine e_ rfl ?_)
     all_goals try exact Q1
     conv=>whnf
     refine⟨0,k,rfl,rfl,o_,o_,?_⟩;repeat' ((conv=>whnf);first|refine Or.inl ?_|apply oi|apply fi|intro h|exact Y1|refine e_ rfl ?_)
     conv=>whnf
     refine⟨NZ l k x W,fun q=>⟨[(0,.r (.c (.t (.lst 5 (l.map Oh.tr))))),(8,.r (.c (.t (.lst 5 (l.map Oh.tr))))),(9,tI .i64 ((l.map Oh.tr).length:Int)),(10,tI .i64 (k:Int)),(4,.r (.c (.ptr (4,0,0) 0))),(5,tB q.1.2),(60,.r (.c (.t (.lst 5 (((l.map Oh.tr).take k).drop 0))))),(61,tI .i64 ((((l.map Oh.tr).take k).drop 0).length:Int)),(62,tI .i64 (q.1.1:Int))],[((4,0,0),some (.box (x.tr.map .t)))],[4]⟩,fun q=>k-q.1.1,⟨(0,x.L8==0),s_,by simpa using hW⟩,?_,?_⟩
     ·exact Z1
     intro⟨⟨j,b⟩,hj,UL⟩;dsimp only at hj UL⊢;by_cases Qq:j<k
     ·obtain⟨y,hy⟩:=ab (l:=l) (k:=j) o_;have Rg:(((l.map Oh.tr).take k).drop 0)[j]?=some y.tr:=(by rw[v6,l4,d5 Qq];exact aa hy);rw[Nl Qq hy]at UL;repeat' ((conv=>whnf);first|refine Or.inl ?_|apply oi|apply fi|intro h|refine⟨j,y.tr,rfl,Rg,?_⟩|exact Y3|refine e_ rfl ?_)
      all_goals
       conv=>whnf
       refine⟨⟨(j+1,b||holds x y),g_,UL⟩,?_,KD⟩;repeat' ((conv=>whnf);first|refine Or.inl ?_|apply oi|apply fi|intro h|exact Y2|refine e_ rfl ?_)
       all_goals try(
        refine⟨congrArg Tr.bool ?_⟩;unfold holds;simp_all;try(intros;omega)
        done)
     ·have OK:k<=j:=o_;rw[d8 aab,List.any_nil,Bool.or_false]at UL;subst UL
      cases b with
      | false=>
       rw[c8 s_]at hr;subst hr;repeat' ((conv=>whnf);first|refine Or.inl ?_|apply oi|apply fi|intro h|exact Y3|refine e_ rfl ?_)
       all_goals try exact Q1
      | true=>
       rw[d5 rfl]at hr;repeat' ((conv=>whnf);first|refine Or.inl ?_|apply oi|apply fi|intro h|exact Y3|refine e_ rfl ?_)
       all_goals try exact Q1
       conv=>whnf
       refine⟨⟨k+1,o_,hr⟩,?_,KD⟩;exact Z3
   ·have O6:0<k:=by
     rcases z4 k with h|h
     ·rw[Qe,d5 h]at Sp;exact absurd trivial Sp
     ·exact h
    obtain⟨p,hp⟩:=ab (l:=l) (k:=k-1) o_;rw[c8 (by unfold ke;rw[y5 Sp];simp)]at hr;rw[Qe,c8 o_,hp]at Sp;subst hr;unfold behind at Sp;dsimp only at Sp;by_cases he:p.L8=x.L8
    all_goals
     repeat' ((conv=>whnf);first|refine Or.inl ?_|apply oi|apply fi|intro h|refine⟨k,x.tr,rfl,aa hx,?_⟩|refine⟨(k-1),p.tr,hw O6,aa hp,?_⟩|refine ci hi (ai (ai rfl (ai rfl (ai rfl (ai rfl (ai rfl trivial))))) trivial) ?_|exact Y3|refine e_ rfl ?_)
     all_goals try exact Q1
     all_goals try(exfalso;apply Sp;(try simp_all[af]);(try omega);done)
 ·have OK:l.length<=k:=o_;rw[d8 OK,bS]at hr;subst hr;exact Z4
theorem AS {l:List Oh}(h:aE 1048576 (.lst 5 (l.map Oh.tr))):∀x∈l,x.J0.length<=1048576:=fun x hx=>by
 have:=bx h hx;simp only[Oh.tr,aX,aE]at this;omega
theorem IY {l:List Oh}(h:aE 1048576 (.lst 5 (l.map Oh.tr))):∀x∈l,x.J0.length<=1099511627775:=fun x hx=>by
 have:=AS h x hx;omega
def fv (t:Ou):Bool:=
 if t.I6=0 then af t.L3 0 999&&t.J0==[]
 else if t.I6=7 then af t.L3 0 4&&bW t.J0
 else if t.I6=1 then t.L3==0&&bW t.J0
 else af t.I6 2 6&&(t.L3==0&&t.J0==[])
theorem rG (t:Ou)(hl:t.J0.length<=1099511627775):Sim.Spec prog 264 [.agg t.tr] (rB (fv t)):=by
 refine ag hΓ ay func264 rfl d_ rfl ?_;have hN:=iY t.J0 hl;unfold fv
 generalize bW t.J0=nb at *
 repeat' ((conv=>whnf);first|refine Or.inl ?_|apply oi|apply fi|intro h|refine ci (ak _ _ _) (ai rfl (ai rfl (ai rfl trivial))) ?_|refine ci hN (ai rfl trivial) ?_|exact Y1|refine e_ rfl ?_)
 all_goals(refine⟨congrArg Tr.bool ?_⟩;simp_all;try(intros;omega))
theorem sO (t:Ou)(hl:t.J0.length<=1099511627775):Sim.Spec prog 255 [.agg t.tr] (rB (fv t)):=by
 refine ag hΓ ay func255 rfl d_ rfl ?_;have hN:=jc t.J0 hl;unfold fv
 generalize bW t.J0=nb at *
 repeat' ((conv=>whnf);first|refine Or.inl ?_|apply oi|apply fi|intro h|refine ci (cC _ _ _) (ai rfl (ai rfl (ai rfl trivial))) ?_|refine ci hN (ai rfl trivial) ?_|exact Y1|refine e_ rfl ?_)
 all_goals(refine⟨congrArg Tr.bool ?_⟩;simp_all[af];(try(intros;omega));(try((repeat' split)<;>intros<;>omega)))
def nP (t:Ou):Int:=if fv t=false then -1 else if t.I6=7 then t.L3 else if t.I6=0\/t.I6=1 then 0 else 2
theorem V53{p:Prop}(h:p:=by
 unfold nP
 generalize fv t=nb at *
 repeat' ((conv=>whnf);first|refine Or.inl ?_|apply oi|apply fi|intro h|refine ci hT (ai (ai rfl (ai rfl (ai rfl trivial))) trivial) ?_|exact Y1|refine e_ rfl ?_)
 all_goals(refine⟨congrArg (Tr.int _) ?_⟩;simp_all)):p:=h
theorem sn (t:Ou)(hl:t.J0.length<=1099511627775):Sim.Spec prog 265 [.agg t.tr] (rI (nP t)):=by refine ag hΓ ay func265 rfl d_ rfl ?_;have hT:=rG t hl;exact V53
theorem nu (t:Ou)(hl:t.J0.length<=1099511627775):Sim.Spec prog 228 [.agg t.tr] (rI (nP t)):=by refine ag hΓ ay func228 rfl d_ rfl ?_;have hT:=sO t hl;exact V53
def ar (t:Ou):Nat:=(nP t).toNat
theorem rD {t:Ou}(h:fv t=true):nP t=(ar t:Int)/\ar t<=4:=by
 unfold ar nP;rw[c8 aaI];unfold fv at h;split
 ·rename_i h7;rw[c8 o_,d5 h7]at h;simp only[c9,within_iff]at h;omega
 ·split<;>omega
def endL:List Ou->Nat->Nat->Option Nat
 | _,p,0=>some p
 | [],_,_+1=>none
 | t::l,p,n+1=>if fv t=true then endL l (p+1) (n+ar t)else none
def cX (o:Option Nat):Int:=match o with|some e=>e|none=> -1
def ec (l:List Ou)(p:Int):Int:=if 0<=p then cX (endL (l.drop p.toNat) p.toNat 1)else -1
theorem HH {l:List Ou}{p n:Nat}{t:Ou}(h:l[p]?=some t):endL (l.drop p) p (n+1)=if fv t=true then endL (l.drop (p+1)) (p+1) (n+ar t)else none:=by rw[aP h,endL]
abbrev Mv (l:List Ou)(R:Int):={q:Nat×Nat//q.1<=l.length/\q.2<=1+4*q.1/\cX (endL (l.drop q.1) q.1 q.2)=R}
def eG (l:List Ou):Prop:=∀t∈l,t.J0.length<=1099511627775
theorem Q21{p:Prop}(h:p:=by exact⟨by dsimp only;congr 1;rw[c6 _ o_];omega⟩):p:=h
theorem V7{p:Prop}(h:p:=by
 cases N7:fv t with
 | false=>
  rw[N7]at hT;rw[c8 (by simp[N7])]at hr;subst hr
  repeat' ((conv=>whnf);first|refine Or.inl ?_|apply oi|apply fi|intro h|refine⟨a,t.tr,rfl,aa ht,?_⟩|refine ci hT (ai (ai rfl (ai rfl (ai rfl trivial))) trivial) ?_|exact Y3|refine e_ rfl ?_)
 | true=>
  obtain⟨e1,e2⟩:=rD N7;rw[e1]at hA;rw[N7]at hT;rw[d5 N7]at hr;repeat' ((conv=>whnf);first|refine Or.inl ?_|apply oi|apply fi|intro h|refine⟨a,t.tr,rfl,aa ht,?_⟩|refine ci hT (ai (ai rfl (ai rfl (ai rfl trivial))) trivial) ?_|refine ci hA (ai (ai rfl (ai rfl (ai rfl trivial))) trivial) ?_|exact Y3|refine e_ rfl ?_)
  conv=>whnf
  refine⟨⟨(a+1,n+ar t),g_,g_,hr⟩,?_,KD⟩;repeat' ((conv=>whnf);first|refine Or.inl ?_|apply oi|apply fi|intro h|exact Y2|refine e_ rfl ?_)
  all_goals try exact Q21
  all_goals exact⟨congrArg (Tr.int _) (by dsimp only;simp(disch:=omega)only[c6];omega)⟩):p:=h
theorem kw (l:List Ou)(p:Int)(hl:l.length<=1048576)(hn:eG l):Sim.Spec prog 248 [tvL 3 (l.map Ou.tr),tvI p] (rI (ec l p)):=by
 refine ag hΓ ay func248 rfl d_ rfl ?_;have N1:(l.map Ou.tr).length=l.length:=s_;have hw:IntKind.i64.wrap (((l.map Ou.tr).length:Int)-1)=(l.length:Int)-1:=by rw[c6 _ o_];omega
 by_cases hin:0<=p/\p<l.length
 ·have hb:=ak p 0 (IntKind.i64.wrap (((l.map Ou.tr).length:Int)-1));rw[within_iff.2 ⟨hin.1,by rw[hw];omega⟩]at hb;obtain⟨p,rfl⟩:=j8 hin.1;obtain⟨R,hR⟩:∃R,ec l (p:Int)=R:=⟨_,rfl⟩;rw[hR];rw[ec,d5 hin.1,e8]at hR;repeat' ((conv=>whnf);first|refine Or.inl ?_|apply oi|apply fi|intro h|refine ci hb (ai rfl (ai rfl (ai rfl trivial))) ?_|exact Y1|refine e_ rfl ?_)
  conv=>whnf
  refine⟨Mv l R,fun q=>⟨[(0,.r (.c (.t (.lst 3 (l.map Ou.tr))))),(1,tI .i64 (q.1.1:Int)),(5,tI .i64 (q.1.2:Int))],[],[]⟩,fun q=>l.length-q.1.1,⟨(p,1),o_,o_,hR⟩,?_,?_⟩
  ·exact Z1
  intro⟨⟨a,n⟩,ha,ZC,hr⟩;dsimp only at ha ZC hr⊢
  cases n with
  | zero=>
   have:R=(a:Int):=by
    rw[<-hr]
    cases l.drop a<;>rfl
   subst this
   exact Z4
  | succ n=>
   by_cases N2:a<l.length
   ·obtain⟨t,ht⟩:=ab N2;rw[HH ht]at hr;have hT:=rG t (hn t (b9 ht));have hA:=sn t (hn t (b9 ht));exact V7
   ·rw[d8 o_,endL]at hr;subst hr;exact Z4
 ·have hb:=ak p 0 (IntKind.i64.wrap (((l.map Ou.tr).length:Int)-1))
  have hf:af p 0 (IntKind.i64.wrap (((l.map Ou.tr).length:Int)-1))=false:=by cases hx:af p 0 (IntKind.i64.wrap (((l.map Ou.tr).length:Int)-1))with|false=>rfl|true=>have:=within_iff.1 hx;rw[hw]at this;exact absurd ⟨this.1,o_⟩ hin
  rw[hf]at hb
  have he:ec l p= -1:=by
   unfold ec;split
   ·rw[d8 o_];rfl
   ·rfl
  rw[he];repeat' ((conv=>whnf);first|refine Or.inl ?_|apply oi|apply fi|intro h|refine ci hb (ai rfl (ai rfl (ai rfl trivial))) ?_|exact Y1|refine e_ rfl ?_)
  all_goals(exfalso;simp at h;done)
theorem kJ (l:List Ou)(p:Int)(hl:l.length<=1048576)(hn:eG l):Sim.Spec prog 238 [tvL 3 (l.map Ou.tr),tvI p] (rI (ec l p)):=by
 refine ag hΓ ay func238 rfl d_ rfl ?_;have N1:(l.map Ou.tr).length=l.length:=s_;by_cases h0:0<=p
 ·obtain⟨p,rfl⟩:=j8 h0;obtain⟨R,hR⟩:∃R,ec l (p:Int)=R:=⟨_,rfl⟩;rw[hR];rw[ec,d5 h0,e8]at hR;by_cases hlp:p<=l.length
  ·repeat' ((conv=>whnf);first|refine Or.inl ?_|apply oi|apply fi|intro h|exact Y3|refine e_ rfl ?_)
   conv=>whnf
   refine⟨Mv l R,fun q=>⟨[(0,.r (.c (.t (.lst 3 (l.map Ou.tr))))),(1,tI .i64 (q.1.1:Int)),(5,tI .i64 (q.1.2:Int))],[],[]⟩,fun q=>l.length-q.1.1,⟨(p,1),o_,o_,hR⟩,?_,?_⟩
   ·exact Z1
   intro⟨⟨a,n⟩,ha,ZC,hr⟩;dsimp only at ha ZC hr⊢
   cases n with
   | zero=>
    have:R=(a:Int):=by
     rw[<-hr]
     cases l.drop a<;>rfl
    subst this
    exact Z4
   | succ n=>
    by_cases N2:a<l.length
    ·obtain⟨t,ht⟩:=ab N2;rw[HH ht]at hr;have hT:=sO t (hn t (b9 ht));have hA:=nu t (hn t (b9 ht));exact V7
    ·rw[d8 o_,endL]at hr;subst hr;exact Z4
  ·rw[d8 o_,endL]at hR;subst hR;repeat' ((conv=>whnf);first|refine Or.inl ?_|apply oi|apply fi|intro h|exact Y3|refine e_ rfl ?_)
   conv=>whnf
   refine⟨Unit,fun q=>⟨[(0,.r (.c (.t (.lst 3 (l.map Ou.tr))))),(1,tI .i64 (p:Int)),(5,tI .i64 1)],[],[]⟩,fun q=>0,(),?_,?_⟩
   ·exact Z1
   intro q;exact Z4
 ·have he:ec l p= -1:=by rw[ec,c8 h0]
  rw[he];exact Z4
def bF (l:List Ou):Bool:=decide (l.length<=20)&&(decide (0<l.length)&&ec l 0==(l.length:Int))
theorem V60{p:Prop}(h:p:=by
 unfold bF
 generalize ec l 0=e at *
 repeat' ((conv=>whnf);first|refine Or.inl ?_|apply oi|apply fi|intro h|refine ci hE (ai rfl (ai rfl trivial)) ?_|exact Y1|refine e_ rfl ?_)
 all_goals(refine⟨congrArg Tr.bool ?_⟩;simp_all;try omega)):p:=h
theorem qy (l:List Ou)(hl:l.length<=1048576)(hn:eG l):Sim.Spec prog 213 [tvL 3 (l.map Ou.tr)] (rB (bF l)):=by refine ag hΓ ay func213 rfl d_ rfl ?_;have N1:(l.map Ou.tr).length=l.length:=s_;have hE:=kw l 0 hl hn;exact V60
theorem pZ (l:List Ou)(hl:l.length<=1048576)(hn:eG l):Sim.Spec prog 191 [tvL 3 (l.map Ou.tr)] (rB (bF l)):=by refine ag hΓ ay func191 rfl d_ rfl ?_;have N1:(l.map Ou.tr).length=l.length:=s_;have hE:=kJ l 0 hl hn;exact V60
def lM {α:Type}[BEq α]:List α->Nat->α->Option Nat
 | [],_,_=>none
 | x::l,i,s=>if(x==s)=true then some i else lM l (i+1) s
theorem Bp {α:Type}[BEq α]{l:List α}{i:Nat}{x s:α}(hx:l[i]?=some x):lM (l.drop i) i s=if(x==s)=true then some i else lM (l.drop (i+1)) (i+1) s:=by rw[aP hx,lM]
theorem Be {α:Type}[BEq α]:∀{l:List α} {i k:Nat} {s:α},lM l i s=some k->i<=k/\k<i+l.length
 | [],_,_,_,h=>by rw[lM]at h;cases h
 | x::l,i,k,s,h=>by
  rw[lM]at h;simp only[c7];split at h
  ·injection h with h;omega
  ·have:=Be h;omega
theorem DL {α:Type}[BEq α][LawfulBEq α]:∀{l:List α} {i:Nat} {s:α},(lM l i s).isSome=l.contains s
 | [],_,_=>rfl
 | x::l,i,s=>by
  rw[lM,B4]
  cases h:(x==s)with
  | true=>rw[d5 rfl];simp[B6 h]
  | false=>have h2:(s==x)=false:=(by rw[x5]at h⊢;exact fun e=>h e.symm);rw[c8 s_,h2,C5];exact DL
def dJ {α:Type}[BEq α](l:List α)(s:α):Int:=cX (lM l 0 s)
theorem pU {α:Type}[BEq α][LawfulBEq α]{l:List α}{s:α}:decide (0<=dJ l s)=l.contains s:=by
 rw[<-DL (i:=0),dJ]
 cases lM l 0 s with|none=>rfl|some k=>simp[cX]
theorem V16{p:Prop}(h:p:=by
 obtain⟨x,hx⟩:=ab N2;rw[Bp hx]at hr
 cases he:(x==s)with
 | true=>
  rw[he,d5 rfl]at hr;have PX:=B6 he;subst PX;subst hr;repeat' ((conv=>whnf);first|refine Or.inl ?_|apply oi|apply fi|intro h|refine⟨k,(ah x),rfl,aa hx,?_⟩|exact Y3|refine e_ rfl ?_)
  all_goals try exact Q1
 | false=>
  rw[he,c8 s_]at hr;repeat' ((conv=>whnf);first|refine Or.inl ?_|apply oi|apply fi|intro h|refine⟨k,(ah x),rfl,aa hx,?_⟩|exact Y3|refine e_ rfl ?_)
  all_goals try exact Q1
  conv=>whnf
  refine⟨⟨k+1,o_,hr⟩,?_,KD⟩
  exact Z3):p:=h
theorem jJ (l:List (List UInt8))(s:List UInt8)(hl:l.length<=4194304):Sim.Spec prog 263 [tvL 1 (l.map ah),tvS s] (rI (dJ l s)):=by
 refine ag hΓ ay func263 rfl d_ rfl ?_;have N1:(l.map ah).length=l.length:=s_;obtain⟨R,hR⟩:∃R,dJ l s=R:=⟨_,rfl⟩;rw[hR];repeat' ((conv=>whnf);first|refine Or.inl ?_|apply oi|apply fi|intro h|exact Y1|refine e_ rfl ?_)
 conv=>whnf
 refine⟨{k:Nat//k<=l.length/\cX (lM (l.drop k) k s)=R},fun k=>⟨[(0,.r (.c (.t (.lst 1 (l.map ah))))),(1,tS s),(6,.r (.c (.t (.lst 1 (l.map ah))))),(7,tI .i64 ((l.map ah).length:Int)),(8,tI .i64 (k.1:Int))],[],[]⟩,fun k=>l.length-k.1,⟨0,o_,hR⟩,?_,?_⟩
 ·exact Z1
 intro⟨k,hk,hr⟩;dsimp only at hk hr⊢;by_cases N2:k<l.length
 ·exact V16
 ·rw[d8 o_,lM]at hr;subst hr;exact Z4
theorem V86{p:Prop}(h:p:=by
 rw[<-pU]
 generalize dJ l s=e at *
 repeat' ((conv=>whnf);first|refine Or.inl ?_|apply oi|apply fi|intro h|refine ci hI (ai rfl (ai rfl trivial)) ?_|exact Y1|refine e_ rfl ?_)):p:=h
theorem go (l:List (List UInt8))(s:List UInt8)(hl:l.length<=4194304):Sim.Spec prog 247 [tvL 1 (l.map ah),tvS s] (rB (l.contains s)):=by refine ag hΓ ay func247 rfl d_ rfl ?_;have hI:=jJ l s hl;exact V86
theorem nS (l:List Int)(s:Int)(hl:l.length<=4194304):Sim.Spec prog 217 [tvL 1 (l.map ae),tvI s] (rI (dJ l s)):=by
 refine ag hΓ ay func217 rfl d_ rfl ?_;have N1:(l.map ae).length=l.length:=s_;obtain⟨R,hR⟩:∃R,dJ l s=R:=⟨_,rfl⟩;rw[hR];repeat' ((conv=>whnf);first|refine Or.inl ?_|apply oi|apply fi|intro h|exact Y1|refine e_ rfl ?_)
 conv=>whnf
 refine⟨{k:Nat//k<=l.length/\cX (lM (l.drop k) k s)=R},fun k=>⟨[(0,.r (.c (.t (.lst 1 (l.map ae))))),(1,tI .i64 s),(6,.r (.c (.t (.lst 1 (l.map ae))))),(7,tI .i64 ((l.map ae).length:Int)),(8,tI .i64 (k.1:Int))],[],[]⟩,fun k=>l.length-k.1,⟨0,o_,hR⟩,?_,?_⟩
 ·exact Z1
 intro⟨k,hk,hr⟩;dsimp only at hk hr⊢;by_cases N2:k<l.length
 ·obtain⟨x,hx⟩:=ab N2;rw[Bp hx]at hr
  cases he:(x==s)with
  | true=>
   rw[he,d5 rfl]at hr;have PX:=B6 he;subst PX;subst hr;repeat' ((conv=>whnf);first|refine Or.inl ?_|apply oi|apply fi|intro h|refine⟨k,(ae x),rfl,aa hx,?_⟩|exact Y3|refine e_ rfl ?_)
   all_goals try exact Q1
  | false=>
   rw[he,c8 s_]at hr;repeat' ((conv=>whnf);first|refine Or.inl ?_|apply oi|apply fi|intro h|refine⟨k,(ae x),rfl,aa hx,?_⟩|exact Y3|refine e_ rfl ?_)
   all_goals try exact Q1
   conv=>whnf
   refine⟨⟨k+1,o_,hr⟩,?_,KD⟩;exact Z3
 ·rw[d8 o_,lM]at hr;subst hr;exact Z4
theorem kC (l:List Int)(s:Int)(hl:l.length<=4194304):Sim.Spec prog 156 [tvL 1 (l.map ae),tvI s] (rB (l.contains s)):=by refine ag hΓ ay func156 rfl d_ rfl ?_;have hI:=nS l s hl;exact V86
def yj (l:List (List UInt8)):Nat->Nat->Bool
 | 0,_=>true
 | n+1,k=>match l[k]? with
  | some s=>if bW s=true/\(l.take k).contains s=false then yj l n (k+1)else false
  | none=>true
theorem V140{p:Prop}(h:p:=by
 rcases l9 k l.length with h|h
 ·exact h
 ·rw[e9 h]at hx;cases hx):p:=h
theorem Aw {l:List (List UInt8)}{k:Nat}{s:List UInt8}(hx:l[k]?=some s):yj l (l.length-k) k=if bW s=true/\(l.take k).contains s=false then yj l (l.length-(k+1)) (k+1)else false:=by
 have hk:k<l.length:=by exact V140
 rw[show l.length-k=(l.length-(k+1))+1 by omega,yj,hx]
def nt (l:List (List UInt8)):Bool:=yj l l.length 0&&decide (l.length<=4)
theorem yQ (l:List (List UInt8))(hl:l.length<=1048576)(hn:∀x∈l,x.length<=1099511627775):Sim.Spec prog 211 [tvL 1 (l.map ah)] (rB (nt l)):=by
 refine ag hΓ ay func211 rfl d_ rfl ?_;have N1:(l.map ah).length=l.length:=s_;obtain⟨R,hR⟩:∃R,nt l=R:=⟨_,rfl⟩;rw[hR];repeat' ((conv=>whnf);first|refine Or.inl ?_|apply oi|apply fi|intro h|exact Y1|refine e_ rfl ?_)
 conv=>whnf
 refine⟨{k:Nat//k<=l.length/\(yj l (l.length-k) k&&decide (l.length<=4))=R},fun k=>⟨[(0,.r (.c (.t (.lst 1 (l.map ah))))),(5,.r (.c (.t (.lst 1 (l.map ah))))),(6,tI .i64 ((l.map ah).length:Int)),(7,tI .i64 (k.1:Int))],[],[]⟩,fun k=>l.length-k.1,⟨0,o_,by rw[v3];exact hR⟩,?_,?_⟩
 ·exact Z1
 intro⟨k,hk,hr⟩;dsimp only at hk hr⊢;by_cases N2:k<l.length
 ·obtain⟨s,hs⟩:=ab N2;rw[Aw hs]at hr;have hN:=iY s (hn s (b9 hs));have hC:=go (l.take k) s aab
  cases Px:bW s with
  | false=>
   rw[Px]at hN hr;rw[c8 s_,q9]at hr;subst hr;repeat' ((conv=>whnf);first|refine Or.inl ?_|apply oi|apply fi|intro h|refine⟨k,(ah s),rfl,aa hs,?_⟩|refine ci hN (ai rfl trivial) ?_|exact Y3|refine e_ rfl ?_)
   all_goals try exact Q1
  | true=>
   rw[Px]at hN hr
   cases Z9:(l.take k).contains s with
   | true=>
    rw[Z9]at hC hr;rw[c8 s_,q9]at hr;subst hr;rw[v9]at hC;repeat' ((conv=>whnf);first|refine Or.inl ?_|apply oi|apply fi|intro h|refine⟨k,(ah s),rfl,aa hs,?_⟩|refine ci hN (ai rfl trivial) ?_|exact Y3|refine e_ rfl ?_)
    all_goals try exact Q1
    conv=>whnf
    refine⟨0,k,rfl,rfl,o_,o_,?_⟩
    repeat' ((conv=>whnf);first|refine Or.inl ?_|apply oi|apply fi|intro h|refine ci hC (ai rfl (ai rfl trivial)) ?_|exact Y1|refine e_ rfl ?_)
   | false=>
    rw[Z9]at hC hr;rw[d5 ⟨rfl,rfl⟩]at hr;rw[v9]at hC;repeat' ((conv=>whnf);first|refine Or.inl ?_|apply oi|apply fi|intro h|refine⟨k,(ah s),rfl,aa hs,?_⟩|refine ci hN (ai rfl trivial) ?_|exact Y3|refine e_ rfl ?_)
    all_goals try exact Q1
    conv=>whnf
    refine⟨0,k,rfl,rfl,o_,o_,?_⟩;repeat' ((conv=>whnf);first|refine Or.inl ?_|apply oi|apply fi|intro h|refine ci hC (ai rfl (ai rfl trivial)) ?_|exact Y3|refine e_ rfl ?_)
    all_goals try exact Q1
    conv=>whnf
    refine⟨⟨k+1,o_,hr⟩,?_,KD⟩;exact Z3
 ·rw[show l.length-k=0 by omega,yj,m7]at hr;subst hr;repeat' ((conv=>whnf);first|refine Or.inl ?_|apply oi|apply fi|intro h|exact Y3|refine e_ rfl ?_)
  all_goals exact⟨congrArg Tr.bool (decide_eq_decide.2 (by rw[N1];omega))⟩
def dQ (k:Int):Bool:=k==1||(k==2||(k==3||(k==5||k==6)))
theorem oV (k:Int):Sim.Spec prog 212 [tvI k] (rB (dQ k)):=by
 refine ag hΓ ay func212 rfl d_ rfl ?_;unfold dQ;repeat' ((conv=>whnf);first|refine Or.inl ?_|apply oi|apply fi|intro h|exact Y1|refine e_ rfl ?_)
 all_goals(refine⟨congrArg Tr.bool ?_⟩;simp_all;(try(rw[u7];simp;omega)))
theorem tA (k:Int)(hk:af k 0 7=true):Sim.Spec prog 190 [tvI k] (rB (dQ k)):=by
 refine ag hΓ ay func190 rfl d_ rfl ?_;have:=within_iff.1 hk;unfold dQ;repeat' ((conv=>whnf);first|refine Or.inl ?_|apply oi|apply fi|intro h|exact Y1|refine e_ rfl ?_)
 all_goals(refine⟨congrArg Tr.bool ?_⟩;simp_all;(try(rw[u7];simp;done));(try(rw[u7];simp;omega)))
def cF (x:Oj):Bool:=af x.I6 0 7&&((if x.I6=0\/x.I6=1 then bW x.J0 else x.J0==[])&&((if x.I6=0 then nt x.K0 else x.K0.length==0)&&(if dQ x.I6=true then bF x.J5 else x.J5.length==0)))
theorem dg {x:Oj}(hs:aX 1048576 x.tr):x.J0.length<=1048576/\x.K0.length<=1048576/\(∀y∈x.K0,y.length<=1048576)/\x.J5.length<=1048576/\(∀y∈x.J5,y.J0.length<=1048576):=by
 simp only[Oj.tr,aX]at hs;obtain⟨_,h1,h2,h3,_⟩:=hs;have e1:=mC h2;have e2:=mC h3;refine⟨by rw[aE]at h1;omega,o_,fun y hy=>?_,o_,fun y hy=>?_⟩
 ·have:=bx h2 hy;simp only[ah,aX,aE]at this;omega
 ·have:=bx h3 hy;simp only[Ou.tr,aX,aE]at this;omega
theorem DE {x:Oj}(h:af x.I6 0 7=false):cF x=false:=by unfold cF;rw[h];rfl
theorem vl {x:Oj}(h:4<x.K0.length):cF x=false:=by
 have h1:nt x.K0=false:=by unfold nt;rw[y5 o_,F8]
 have h2:(x.K0.length==0)=false:=by rw[x5];omega
 unfold cF;rw[h1,h2];split<;>simp
theorem qt (x:Oj)(hs:aX 1048576 x.tr):Sim.Spec prog 151 [.agg x.tr] (rB (cF x)):=by
 refine ag hΓ ay func151 rfl d_ rfl ?_;obtain⟨h1,h2,h3,h4,h5⟩:=dg hs;have hB:=ak x.I6 0 7;have hN:=iY x.J0 o_;have hA:=yQ x.K0 h2 (fun y hy=>by have:=h3 y hy;omega);have hH:=oV x.I6;have hE:=qy x.J5 h4 (fun y hy=>by have:=h5 y hy;omega);unfold cF
 generalize af x.I6 0 7=b1 at *
 generalize bW x.J0=b2 at *
 generalize nt x.K0=b3 at *
 generalize dQ x.I6=b4 at *
 generalize bF x.J5=b5 at *
 have SC:(x.K0.map ah).length=x.K0.length:=s_;have Tt:(x.J5.map Ou.tr).length=x.J5.length:=s_;repeat' ((conv=>whnf);first|refine Or.inl ?_|apply oi|apply fi|intro h|refine ci hB (ai rfl (ai rfl (ai rfl trivial))) ?_|refine ci hN (ai rfl trivial) ?_|refine ci hA (ai rfl trivial) ?_|refine ci hH (ai rfl trivial) ?_|refine ci hE (ai rfl trivial) ?_|exact Y1|refine e_ rfl ?_)
 all_goals(refine⟨congrArg Tr.bool ?_⟩;simp_all;(try(rw[u7];simp;done));(try(rw[u7];simp;omega));(try(intro hh;exfalso;simp_all;done)))
theorem Js {l:List (List UInt8)}{k i:Nat}{y s:List UInt8}(hi:i<k)(hy:l[i]?=some y):((l.take k).drop i).contains s=(s==y||((l.take k).drop (i+1)).contains s):=by rw[aP (x:=y) (by rw[l4,d5 hi];exact hy),B4]
theorem JZ {x:Oj}(hk:af x.I6 0 7=true)(h0:x.I6=0)(ha:x.K0.length<=4):cF x=(yj x.K0 x.K0.length 0&&(bW x.J0&&x.J5.length==0)):=by
 unfold cF nt;rw[hk,d5 (.inl h0),d5 h0,c8 (by rw[h0];decide),r7 ha]
 cases bW x.J0<;>cases yj x.K0 x.K0.length 0<;>simp
theorem Kw {x:Oj}(hk:af x.I6 0 7=true)(h0:x.I6≠0):cF x=(x.K0.length==0&&((if x.I6=1 then bW x.J0 else x.J0==[])&&(if dQ x.I6=true then bF x.J5 else x.J5.length==0))):=by
 have e:(if x.I6=0\/x.I6=1 then bW x.J0 else x.J0==[])=(if x.I6=1 then bW x.J0 else x.J0==[]):=by
  by_cases h1:x.I6=1
  ·rw[d5 (.inr h1),d5 h1]
  ·rw[c8 o_,c8 h1]
 unfold cF;rw[hk,c8 h0,e,m7];generalize(if x.I6=1 then bW x.J0 else x.J0==[])=a;generalize(if dQ x.I6=true then bF x.J5 else x.J5.length==0)=b
 cases a<;>cases(x.K0.length==0)<;>simp
theorem Hx (n:Nat):((n:Int)==0)=(n==0):=by rw[u7];simp
abbrev MY (x:Oj):AO:= .box (x.tr.map .t)
theorem V103{p:Prop}(h:p:=by
 repeat' ((conv=>whnf);first|refine Or.inl ?_|apply oi|apply fi|intro h|refine ci hB (ai rfl (ai rfl (ai rfl trivial))) ?_|exact Y3|refine e_ rfl ?_)):p:=h
theorem Q3{p:Prop}(h:p:=by exfalso;simp_all;first|done|fail):p:=h
theorem qm (x:Oj)(hs:aX 1048576 x.tr):Sim.Spec prog 119 [.agg x.tr] (rB (cF x)):=by
 refine ag hΓ ay func119 rfl d_ rfl ?_;obtain⟨h1,h2,h3,h4,h5⟩:=dg hs;have hB:=cC x.I6 0 7;have hN:=jc x.J0 o_;have hE:=pZ x.J5 h4 (fun y hy=>by have:=h5 y hy;omega);have SC:(x.K0.map ah).length=x.K0.length:=s_;have Tt:(x.J5.map Ou.tr).length=x.J5.length:=s_
 cases hk:af x.I6 0 7 with
 | false=>
  rw[hk]at hB;rw[DE hk]
  exact V103
 | true=>
  rw[hk]at hB;have hH:=tA x.I6 hk;by_cases ha:x.K0.length<=4
  ·by_cases h0:x.I6=0
   ·rw[JZ hk h0 ha]
    generalize bW x.J0=b2 at *
    generalize bF x.J5=b5 at *
    obtain⟨A,hA⟩:∃A,yj x.K0 x.K0.length 0=A:=⟨_,rfl⟩;rw[hA];have YP:dQ x.I6=false:=(by rw[h0];rfl);rw[YP]at hH;repeat' ((conv=>whnf);first|refine Or.inl ?_|apply oi|apply fi|intro h|refine ci hB (ai rfl (ai rfl (ai rfl trivial))) ?_|exact Y3|refine e_ rfl ?_)
    conv=>whnf
    refine⟨{k:Nat//k<=x.K0.length/\yj x.K0 (x.K0.length-k) k=A},fun q=>⟨[(1,.r (.c (.ptr (1,0,0) 0))),(3,tI .i64 (q.1:Int))],[((1,0,0),some (MY x))],[1]⟩,fun q=>x.K0.length-q.1,⟨0,o_,by rw[v3];exact hA⟩,?_,?_⟩
    ·exact Z1
    intro⟨k,OZ,hr⟩;dsimp only at OZ hr⊢;by_cases N2:k<x.K0.length
    ·obtain⟨s,Qp⟩:=ab N2;rw[Aw Qp]at hr;have S8:=jc s (by have:=h3 s (b9 Qp);omega)
     cases Px:bW s with
     | false=>
      rw[Px]at S8 hr;rw[c8 s_]at hr;subst hr
      repeat' ((conv=>whnf);first|refine Or.inl ?_|apply oi|apply fi|intro h|refine ci S8 (ai rfl trivial) ?_|refine⟨k,(ah s),rfl,aa Qp,?_⟩|exact Y3|refine e_ rfl ?_)
     | true=>
      rw[Px]at S8 hr;obtain⟨C,hC⟩:∃C,(x.K0.take k).contains s=C:=⟨_,rfl⟩;rw[hC]at hr;repeat' ((conv=>whnf);first|refine Or.inl ?_|apply oi|apply fi|intro h|refine ci S8 (ai rfl trivial) ?_|refine⟨k,(ah s),rfl,aa Qp,?_⟩|exact Y3|refine e_ rfl ?_)
      all_goals try exact Q1
      conv=>whnf
      refine⟨{i:Nat//i<=k/\((x.K0.take k).drop i).contains s=C},fun q=>⟨[(1,.r (.c (.ptr (1,0,0) 0))),(3,tI .i64 (k:Int)),(4,tI .i64 (q.1:Int))],[((1,0,0),some (MY x))],[1]⟩,fun q=>k-q.1,⟨0,o_,hC⟩,?_,?_⟩
      ·exact Z1
      intro⟨i,Ph,hc⟩;dsimp only at Ph hc⊢;by_cases O3:i<k
      ·obtain⟨y,hy⟩:=ab (l:=x.K0) (k:=i) o_;rw[Js O3 hy]at hc;by_cases YM:s=y
       ·subst YM;rw[beq_self_eq_true,I3]at hc;subst hc;rw[c8 s_]at hr;subst hr;repeat' ((conv=>whnf);first|refine Or.inl ?_|apply oi|apply fi|intro h|refine⟨i,(ah s),rfl,aa hy,?_⟩|refine⟨k,(ah s),rfl,aa Qp,?_⟩|exact Y3|refine e_ rfl ?_)
        all_goals try exact Q1
       ·rw[x5.2 YM,C5]at hc;repeat' ((conv=>whnf);first|refine Or.inl ?_|apply oi|apply fi|intro h|refine⟨i,(ah y),rfl,aa hy,?_⟩|refine⟨k,(ah s),rfl,aa Qp,?_⟩|exact Y3|refine e_ rfl ?_)
        all_goals try(exfalso;apply YM;simp_all;done)
        conv=>whnf
        refine⟨⟨i+1,o_,hc⟩,?_,KD⟩;exact Z3
      ·rw[d8 aab]at hc;have hc:false=C:=hc;subst hc;rw[d5 ⟨rfl,rfl⟩]at hr;repeat' ((conv=>whnf);first|refine Or.inl ?_|apply oi|apply fi|intro h|exact Y3|refine e_ rfl ?_)
       conv=>whnf
       refine⟨⟨k+1,o_,hr⟩,?_,KD⟩;exact Z3
    ·rw[show x.K0.length-k=0 by omega]at hr;have hr:true=A:=hr;subst hr;repeat' ((conv=>whnf);first|refine Or.inl ?_|apply oi|apply fi|intro h|refine ci hN (ai rfl trivial) ?_|refine ci hH (ai rfl trivial) ?_|refine ci hE (ai rfl trivial) ?_|exact Y3|refine e_ rfl ?_)
     all_goals try exact Q1
     all_goals(refine⟨congrArg Tr.bool ?_⟩;simp_all;(try exact Hx _))
   ·rw[Kw hk h0]
    generalize bW x.J0=b2 at *
    generalize bF x.J5=b5 at *
    generalize dQ x.I6=b4 at *
    repeat' ((conv=>whnf);first|refine Or.inl ?_|apply oi|apply fi|intro h|refine ci hB (ai rfl (ai rfl (ai rfl trivial))) ?_|exact Y3|refine e_ rfl ?_)
    conv=>whnf
    refine⟨Unit,fun q=>⟨[(1,.r (.c (.ptr (1,0,0) 0))),(3,tI .i64 0)],[((1,0,0),some (MY x))],[1]⟩,fun q=>0,(),?_,?_⟩
    ·exact Z1
    intro q;dsimp only;by_cases N2:0<x.K0.length
    ·obtain⟨s,Qp⟩:=ab N2;have S8:=jc s (by have:=h3 s (b9 Qp);omega);rw[show(x.K0.length==0)=false by rw[x5];omega];repeat' ((conv=>whnf);first|refine Or.inl ?_|apply oi|apply fi|intro h|refine ci S8 (ai rfl trivial) ?_|refine⟨0,(ah s),rfl,aa Qp,?_⟩|exact Y3|refine e_ rfl ?_)
     all_goals try exact Q1
     all_goals try exact Q3
    ·have hz:x.K0.length=0:=o_;rw[show(x.K0.length==0)=true by rw[hz];rfl];rw[hz]at SC;repeat' ((conv=>whnf);first|refine Or.inl ?_|apply oi|apply fi|intro h|refine ci hN (ai rfl trivial) ?_|refine ci hH (ai rfl trivial) ?_|refine ci hE (ai rfl trivial) ?_|exact Y1|refine e_ rfl ?_)
     all_goals try exact Q3
     all_goals(refine⟨congrArg Tr.bool ?_⟩;simp_all;(try exact Hx _);(try(rw[u7];simp;omega)))
  ·rw[vl o_];exact V103
def cQ (k:Int):Bool:=k==0||(k==3||k==5)
theorem opensK_iff {k:Int}:cQ k=true↔k=0\/k=3\/k=5:=by simp[cQ]
def endN:List Oj->Nat->Nat->Option Nat
 | [],_,_=>none
 | x::l,i,o=>if cQ x.I6=true then endN l (i+1) (o+1)else if x.I6=7 then(if o=1 then some i else endN l (i+1) (o-1))else endN l (i+1) o
def endAt (l:List Oj)(k:Nat):Option Nat:=match l[k]? with
 | some x=>if cQ x.I6=true then endN (l.drop (k+1)) (k+1) 1 else none
 | none=>none
def bB (l:List Oj)(k:Int):Int:=if 0<=k then cX (endAt l k.toNat)else -1
theorem ep {l:List Oj}{i o:Nat}{x:Oj}(h:l[i]?=some x):endN (l.drop i) i o=if cQ x.I6=true then endN (l.drop (i+1)) (i+1) (o+1)else if x.I6=7 then(if o=1 then some i else endN (l.drop (i+1)) (i+1) (o-1))else endN (l.drop (i+1)) (i+1) o:=by rw[aP h,endN]
theorem lh {l:List Oj}{i o:Nat}(h:l.length<=i):endN (l.drop i) i o=none:=by rw[d8 h,endN]
theorem wo:∀{l:List Oj} {i o e:Nat},endN l i o=some e->i<=e/\e<i+l.length
 | [],_,_,_,h=>by rw[endN]at h;cases h
 | x::l,i,o,e,h=>by
  rw[endN]at h;simp only[c7];split at h
  ·have:=wo h;omega
  ·split at h
   ·split at h
    ·injection h with h;omega
    ·have:=wo h;omega
   ·have:=wo h;omega
theorem jX {l:List Oj}{i o e:Nat}(h:endN (l.drop i) i o=some e):i<=e/\e<l.length:=by have:=wo h;rw[t8]at this;omega
theorem oT:∀{l:List Oj} {i:Nat} (n:Nat) {a b:Nat},l.length-i<=n->1<=a->1<=b->endN (l.drop i) i (a+b)=(endN (l.drop i) i b).bind fun m=>endN (l.drop (m+1)) (m+1) a
 | l,i,0,a,b,hn,_,_=>by rw[lh o_,lh o_];rfl
 | l,i,n+1,a,b,hn,ha,hb=>by
  by_cases hi:i<l.length
  ·obtain⟨x,hx⟩:=ab hi;rw[ep hx,ep hx];split
   ·rw[show a+b+1=a+(b+1) by omega];exact oT n o_ ha o_
   ·split
    ·rw[c8 o_];by_cases h1:b=1
     ·subst h1;rw[d5 rfl];rfl
     ·rw[c8 h1,show a+b-1=a+(b-1) by omega];exact oT n o_ ha o_
    ·exact oT n o_ ha hb
  ·rw[lh o_,lh o_];rfl
theorem pz:∀{l:List Oj} {i:Nat} (n:Nat) {o e:Nat},l.length-i<=n->endN (l.drop i) i o=some e->∃x,l[e]?=some x/\x.I6=7
 | l,i,0,o,e,hn,h=>by rw[lh o_]at h;cases h
 | l,i,n+1,o,e,hn,h=>by
  by_cases hi:i<l.length
  ·obtain⟨x,hx⟩:=ab hi;rw[ep hx]at h;split at h
   ·exact pz n o_ h
   ·split at h
    ·split at h
     ·injection h with h;subst h;exact⟨x,hx,by assumption⟩
     ·exact pz n o_ h
    ·exact pz n o_ h
  ·rw[lh o_]at h;cases h
theorem aL {l:List Oj}{k e:Nat}(h:endAt l k=some e):∃x,l[k]?=some x/\cQ x.I6=true/\endN (l.drop (k+1)) (k+1) 1=some e/\k<e/\e<l.length:=by
 unfold endAt at h;split at h
 ·rename_i x hx;split at h
  ·rename_i ho;have:=jX h;exact⟨x,hx,ho,h,o_,o_⟩
  ·cases h
 ·cases h
theorem su {l:List Oj}{k:Nat}{x:Oj}(hx:l[k]?=some x)(ho:cQ x.I6=true):endAt l k=endN (l.drop (k+1)) (k+1) 1:=by unfold endAt;rw[hx];dsimp only;rw[d5 ho]
theorem bG {l:List Oj}{k e:Nat}(h:endAt l k=some e):∃x,l[e]?=some x/\x.I6=7:=by obtain⟨_,_,_,h,_⟩:=aL h;exact pz _ (d7 _) h
theorem sE:∀{l:List Oj} (n:Nat) {s o e i:Nat},i-s<=n->1<=o->endN (l.drop s) s o=some e->s<=i->i<=e->∃o',1<=o'/\endN (l.drop i) i o'=some e
 | l,0,s,o,e,i,hn,ho,h,h1,h2=>by
  have:s=i:=o_;subst this
  exact⟨o,ho,h⟩
 | l,n+1,s,o,e,i,hn,ho,h,h1,h2=>by
  by_cases hs:s=i
  ·subst hs;exact⟨o,ho,h⟩
  have hl:=jX h;obtain⟨x,hx⟩:=ab (l:=l) (k:=s) o_;rw[ep hx]at h;split at h
  ·exact sE n o_ o_ h o_ h2
  ·split at h
   ·split at h
    ·injection h with h;omega
    ·exact sE n o_ o_ h o_ h2
   ·exact sE n o_ ho h o_ h2
theorem pb {l:List Oj}{k e i:Nat}{x:Oj}(h:endAt l k=some e)(h1:k<i)(h2:i<e)(hx:l[i]?=some x)(ho:cQ x.I6=true):∃m,endAt l i=some m/\i<m/\m<e:=by
 obtain⟨_,_,_,he,_,N2⟩:=aL h;obtain⟨o,X0,PC⟩:=sE _ (d7 _) (d7 1) he (by omega:k+1<=i) o_;rw[ep hx,d5 ho,oT _ (d7 _) X0 (d7 1)]at PC
 cases hm:endN (l.drop (i+1)) (i+1) 1 with
 | none=>rw[hm]at PC;cases PC
 | some m=>rw[hm]at PC;have h3:=jX hm;have h4:=jX (show endN (l.drop (m+1)) (m+1) o=some e from PC);exact⟨m,by rw[su hx ho];exact hm,o_,o_⟩
theorem bu {l:List Oj}{k:Nat}:bB l (k:Int)=cX (endAt l k):=by rw[bB,d5 o_,e8]
theorem br {o:Option Nat}{n:Nat}(h:o=some n):cX o=(n:Int):=by rw[h];rfl
theorem km {o:Option Nat}(h:o=none):cX o= -1:=by rw[h];rfl
def elseN (l:List Oj)(e:Nat):Nat->Nat->Option Nat
 | 0,_=>none
 | n+1,i=>if i<e then(match l[i]? with
  | some x=>if x.I6=4 then some i else if x.I6=3\/x.I6=5 then(match endAt l i with
   | some m=>elseN l e n (m+1)
   | none=>elseN l e n (i+1))else elseN l e n (i+1)
  | none=>none)else none
def elseAt (l:List Oj)(k:Nat):Option Nat:=match l[k]?,endAt l k with
 | some x,some e=>if x.I6=3 then elseN l e (e-(k+1)) (k+1)else none
 | _,_=>none
def bv (l:List Oj)(k:Int):Int:=if 0<=k then cX (elseAt l k.toNat)else -1
theorem iL {l:List Oj}{e:Nat}:∀{n m i:Nat},e-i<=n->e-i<=m->elseN l e n i=elseN l e m i
 | 0,0,_,_,_=>rfl
 | 0,m+1,i,h1,h2=>by rw[elseN,elseN,c8 o_]
 | n+1,0,i,h1,h2=>by rw[elseN,elseN,c8 o_]
 | n+1,m+1,i,h1,h2=>by
  rw[elseN,elseN];by_cases hi:i<e
  ·rw[d5 hi,d5 hi]
   cases hx:l[i]? with
   | none=>rfl
   | some x=>
    dsimp only;split
    ·rfl
    ·split
     ·cases hm:endAt l i with
      | none=>exact iL o_ o_
      | some m'=>have:=aL hm;obtain⟨_,_,_,_,h3,_⟩:=this;exact iL o_ o_
     ·exact iL o_ o_
  ·rw[c8 hi,c8 hi]
theorem xI {l:List Oj}{e i:Nat}{x:Oj}(hi:i<e)(hx:l[i]?=some x):elseN l e (e-i) i=if x.I6=4 then some i else if x.I6=3\/x.I6=5 then(match endAt l i with
   | some m=>elseN l e (e-(m+1)) (m+1)
   | none=>elseN l e (e-(i+1)) (i+1))else elseN l e (e-(i+1)) (i+1):=by
 obtain⟨n,hn⟩:∃n,e-i=n+1:=⟨e-i-1,o_⟩;rw[hn,elseN,d5 hi,hx];dsimp only;split
 ·rfl
 ·split
  ·cases hm:endAt l i with
   | none=>exact iL o_ o_
   | some m=>obtain⟨_,_,_,_,h3,_⟩:=aL hm;exact iL o_ o_
  ·exact iL o_ o_
theorem zJ {l:List Oj}{e i n:Nat}(hi:e<=i):elseN l e n i=none:=by cases n with|zero=>rfl|succ n=>rw[elseN,c8 o_]
theorem oG {l:List Oj}{e:Nat}:∀{n i j:Nat},elseN l e n i=some j->i<=j/\j<e/\∃x,l[j]?=some x/\x.I6=4
 | 0,_,_,h=>by rw[elseN]at h;cases h
 | n+1,i,j,h=>by
  rw[elseN]at h;split at h
  ·rename_i hi;split at h
   ·rename_i x hx;split at h
    ·injection h with h;subst h;exact⟨o_,hi,x,hx,by assumption⟩
    ·split at h
     ·split at h
      ·rename_i m hm;obtain⟨_,_,_,_,h3,_⟩:=aL hm;have:=oG h;exact⟨o_,this.2⟩
      ·have:=oG h;exact⟨o_,this.2⟩
     ·have:=oG h;exact⟨o_,this.2⟩
   ·cases h
  ·cases h
theorem bn {l:List Oj}{k j:Nat}(h:elseAt l k=some j):∃x e,l[k]?=some x/\x.I6=3/\endAt l k=some e/\k<j/\j<e/\∃y,l[j]?=some y/\y.I6=4:=by
 unfold elseAt at h;split at h
 ·rename_i x e hx he;split at h
  ·rename_i h3;have:=oG h;exact⟨x,e,hx,h3,he,o_,this.2⟩
  ·cases h
 ·cases h
def funsF:List Oj->Nat->List Nat
 | [],_=>[]
 | x::l,i=>(if x.I6=0 then [i]else [])++funsF l (i+1)
def az (l:List Oj):List Nat:=funsF l 0
theorem my {l:List Oj}{i:Nat}{x:Oj}(hx:l[i]?=some x):funsF (l.drop i) i=(if x.I6=0 then [i]else [])++funsF (l.drop (i+1)) (i+1):=by rw[aP hx,funsF]
theorem pH:∀(l:List Oj) (i:Nat),(funsF l i).length<=l.length
 | [],_=>by simp[funsF]
 | x::l,i=>by
  have:=pH l (i+1);rw[funsF,b8,c7];split<;>simp<;>omega
theorem V120{p:Prop}(h:p:=by
 refine⟨o_,by simp only[c7];omega,y,?_,hk⟩;rw[show k-i=(k-(i+1))+1 by omega,m5]
 exact hy):p:=h
theorem rK:∀{l:List Oj} {i k:Nat},k∈funsF l i->i<=k/\k<i+l.length/\∃x,l[k-i]?=some x/\x.I6=0
 | [],_,_,h=>by simp[funsF]at h
 | x::l,i,k,h=>by
  rw[funsF,f0]at h;rcases h with h|h
  ·split at h
   ·simp only[d6,j6,or_false]at h;subst h;exact⟨o_,s_,x,s_,by assumption⟩
   ·cases h
  ·obtain⟨h1,h2,y,hy,hk⟩:=rK h;exact V120
theorem jW {l:List Oj}{k:Nat}(h:k∈az l):k<l.length/\∃x,l[k]?=some x/\x.I6=0:=by have:=rK h;simpa using this.2
def findN:List Oj->Nat->List UInt8->Option Nat
 | [],_,_=>none
 | x::l,i,s=>if x.I6=0/\x.J0=s then some i else findN l (i+1) s
def fY (l:List Oj)(s:List UInt8):Int:=cX (findN l 0 s)
theorem Em {l:List Oj}{i:Nat}{x:Oj}{s:List UInt8}(hx:l[i]?=some x):findN (l.drop i) i s=if x.I6=0/\x.J0=s then some i else findN (l.drop (i+1)) (i+1) s:=by rw[aP hx,findN]
theorem xx:∀{l:List Oj} {i k:Nat} {s:List UInt8},findN l i s=some k->i<=k/\k<i+l.length/\∃x,l[k-i]?=some x/\x.I6=0/\x.J0=s
 | [],_,_,_,h=>by rw[findN]at h;cases h
 | x::l,i,k,s,h=>by
  rw[findN]at h;split at h
  ·injection h with h;subst h;exact⟨o_,s_,x,s_,by assumption⟩
  ·obtain⟨h1,h2,y,hy,hk⟩:=xx h;exact V120
theorem eV {l:List Oj}{k:Nat}{s:List UInt8}(h:findN l 0 s=some k):k<l.length/\∃x,l[k]?=some x/\x.I6=0/\x.J0=s:=by have:=xx h;simpa using this.2
def lk (acc:List (List UInt8))(s:List UInt8):List (List UInt8):=if acc.contains s=true then acc else acc++[s]
def locN (l:List Oj)(e:Nat):Nat->Nat->List (List UInt8)->List (List UInt8)
 | 0,_,acc=>acc
 | n+1,i,acc=>if i<e then(match l[i]? with
  | some x=>locN l e n (i+1) (if x.I6=1 then lk acc x.J0 else acc)
  | none=>acc)else acc
def localsOf (l:List Oj)(k:Int):List (List UInt8):=if 0<=k then(match l[k.toNat]?,endAt l k.toNat with
 | some x,some e=>if x.I6=0 then locN l e (e-k.toNat) k.toNat x.K0 else []
 | _,_=>[])else []
theorem Bd {l:List Oj}{e i:Nat}{x:Oj}{acc:List (List UInt8)}(hi:i<e)(hx:l[i]?=some x):locN l e (e-i) i acc=locN l e (e-(i+1)) (i+1) (if x.I6=1 then lk acc x.J0 else acc):=by rw[show e-i=(e-(i+1))+1 by omega,locN,d5 hi,hx]
theorem Ew {l:List Oj}{e i n:Nat}{acc:List (List UInt8)}(hi:e<=i):locN l e n i acc=acc:=by cases n with|zero=>rfl|succ n=>rw[locN,c8 o_]
theorem EE (acc:List (List UInt8))(s:List UInt8):(lk acc s).length<=acc.length+1:=by unfold lk;split<;>simp
theorem Eh {l:List Oj}{e:Nat}:∀(n i:Nat) (acc:List (List UInt8)),(locN l e n i acc).length<=acc.length+n
 | 0,_,_=>by simp[locN]
 | n+1,i,acc=>by
  rw[locN];split
  ·split
   ·refine t7 (Eh n _ _) ?_;split
    ·have:=EE acc (by assumption:Oj).J0;omega
    ·omega
   ·omega
  ·omega
def cv (l:List Oj)(locals:List (List UInt8))(t:Ou):Bool:=
 if t.I6=1 then locals.contains t.J0
 else if t.I6=7 then(match findN l 0 t.J0 with
  | some f=>(match l[f]? with|some x=>(x.K0.length:Int)==t.L3|none=>false)
  | none=>false)
 else true
def bX (l:List Oj)(locals:List (List UInt8))(ts:List Ou):Bool:=ts.all (cv l locals)
def dep (x:Oj)(d:Nat):Nat:=if x.I6=3\/x.I6=5 then d+1 else if x.I6=7 then d-1 else d
def kE (l:List Oj)(locals:List (List UInt8))(e:Nat):Nat->Nat->Nat->Bool
 | 0,_,_=>true
 | n+1,i,d=>if i<e then(match l[i]? with
  | some x=>if x.I6=0 then false else
   if dep x d<=4/\bX l locals x.J5=true then kE l locals e n (i+1) (dep x d)else false
  | none=>false)else true
theorem xW {l:List Oj}{locals:List (List UInt8)}{e i d:Nat}{x:Oj}(hi:i<e)(hx:l[i]?=some x):kE l locals e (e-i) i d=if x.I6=0 then false else if dep x d<=4/\bX l locals x.J5=true then kE l locals e (e-(i+1)) (i+1) (dep x d)else false:=by rw[show e-i=(e-(i+1))+1 by omega,kE,d5 hi,hx]
theorem Bf {l:List Oj}{locals:List (List UInt8)}{e i d n:Nat}(hi:e<=i):kE l locals e n i d=true:=by cases n with|zero=>rfl|succ n=>rw[kE,c8 o_]
end Go.Proofs.P
