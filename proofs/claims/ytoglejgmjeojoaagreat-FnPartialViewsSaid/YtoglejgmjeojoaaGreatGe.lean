import Derived.Test.YtoglejgmjeojoaaGreatGd
import Derived.Test.YtoglejgmjeojoaaGreatRows
set_option maxRecDepth 100000
set_option maxHeartbeats 4000000
namespace Go.Sim
theorem K1 {p:Prop}(h:p:=by dsimp only;rw[c6 _ (by omega)];rfl):p:=h
theorem K2 {p:Prop}(h:False:=by simp at *;omega):p:=h.elim
theorem K3 {p:Prop}(h:False:=by simp(disch:=omega)only[c6]at *;simp only[w9]at *;omega):p:=h.elim
theorem K4 {p:Prop}(h:False:=by simp only[w9]at *;omega):p:=h.elim
theorem K5 {p:Prop}(h:p:=by rw[c6 _ (by omega)];rfl):p:=h
theorem K6 {p:Prop}(h:p:=by rw[c6 _ (by omega)];omega):p:=h
theorem K7 {k:IntKind}{a b:Int}(h:a=b:=by dsimp only;rw[c6 _ (by omega)];omega):Tr.int k a=Tr.int k b:=congrArg (Tr.int k) h
theorem K8 {p:Prop}(h:False:=by simp_all;omega):p:=h.elim
theorem KD {p:Prop}(h:p:=by dsimp only;omega):p:=h
theorem Y1{p:Prop}(h:p:=by first|rfl|exact⟨KO⟩):p:=h
theorem Y2{p:Prop}(h:p:=by first|rfl|exact⟨KO⟩|exact KX):p:=h
theorem Y3{p:Prop}(h:p:=by first|rfl|exact⟨KO⟩|exact⟨K1⟩):p:=h
theorem Y4{p:Prop}(h:p:=by first|rfl|exact⟨KO⟩|exact KX|exact K2):p:=h
theorem Y5{p:Prop}(h:p:=by first|rfl|exact⟨KP⟩|exact KX):p:=h
theorem Y6{p:Prop}(h:p:=by first|rfl|exact⟨KP⟩|exact⟨K1⟩):p:=h
theorem Y7{p:Prop}(h:p:=by first|rfl|exact⟨KP⟩):p:=h
theorem Y8{p:Prop}(h:p:=by first|rfl|exact⟨KP⟩|exact⟨KW⟩):p:=h
theorem Y9{p:Prop}(h:p:=by first|rfl|exact⟨KP⟩|exact KX|exact⟨KW⟩|exact KK):p:=h
theorem Y10{p:Prop}(h:p:=by first|rfl|exact⟨KP⟩|exact KX|exact KK):p:=h
theorem Y11{p:Prop}(h:p:=by first|rfl|exact⟨KP⟩|exact KX|exact⟨KW⟩):p:=h
theorem Y12{p:Prop}(h:p:=by first|rfl|exact⟨KO⟩|exact KX|exact⟨K6⟩):p:=h
theorem Y13{p:Prop}(h:p:=by first|rfl|exact⟨KP⟩|exact KK):p:=h
theorem Y14{p:Prop}(h:p:=by first|rfl|exact⟨KP⟩|exact⟨K7⟩):p:=h
theorem Y15{p:Prop}(h:p:=by first|rfl|exact⟨KO⟩|exact K8):p:=h
theorem Y16{p:Prop}(h:p:=by first|rfl|exact⟨KR⟩):p:=h
theorem Z1{p:Prop}(h:p:=by(repeat' ((conv=>whnf);first|refine Or.inl ?_|apply oi|apply fi|intro h|exact Y1|refine e_ rfl ?_));skip):p:=h
theorem Z2{p:Prop}(h:p:=by(repeat' ((conv=>whnf);first|apply Wx|apply W6|apply oi|apply fi|intro h|exact Y7|refine e_ rfl ?_));skip):p:=h
theorem Z3{p:Prop}(h:p:=by(repeat' ((conv=>whnf);first|refine Or.inl ?_|apply oi|apply fi|intro h|exact Y2|refine e_ rfl ?_));skip):p:=h
theorem Z4{p:Prop}(h:p:=by(repeat' ((conv=>whnf);first|refine Or.inl ?_|apply oi|apply fi|intro h|exact Y3|refine e_ rfl ?_));skip):p:=h
theorem Z5{p:Prop}(h:p:=by(repeat' ((conv=>whnf);first|apply Wx|apply W6|apply oi|apply fi|intro h|exact Y6|refine e_ rfl ?_));skip):p:=h
theorem Z6{p:Prop}(h:p:=by(repeat' ((conv=>whnf);first|apply Wx|apply W6|apply oi|apply fi|intro h|exact Y8|refine e_ rfl ?_));skip):p:=h
theorem Z7{p:Prop}(h:p:=by(repeat' ((conv=>whnf);first|apply Wx|apply W6|apply oi|apply fi|intro h|exact Y5|refine e_ rfl ?_));skip):p:=h
end Go.Sim
namespace Go.Proofs.P
open Go.Sim Tryz
abbrev e0 := AC.t (Tr.int Go.IntKind.i64 (Int.ofNat 0))
abbrev e1 := AC.t (Tr.bool false)
abbrev e2 := AC.t (Tr.str [])
abbrev e3 := AC.nils 0
abbrev e4 (s b : Nat) (z : List AC) : Mm := {size:=s,bytes:=b,agg:=true,zero:=z}
abbrev e5 (s b : Nat) (z : List AC) : Mm := {size:=s,bytes:=b,agg:=false,zero:=z}
def Γ:Env:=[(2,{size:=1,bytes:=8,agg:=false,zero:=[e0],kind:=some Go.IntKind.i64}),
(3,{size:=1,bytes:=8,agg:=false,zero:=[e0],kind:=some Go.IntKind.i64}),
(4,{size:=1,bytes:=1,agg:=false,zero:=[e1],bool:=true}),
(5,{size:=1,bytes:=1,agg:=false,zero:=[AC.t (Tr.int Go.IntKind.u8 (Int.ofNat 0))],kind:=some Go.IntKind.u8}),
(6,{size:=1,bytes:=1,agg:=false,zero:=[AC.t (Tr.int Go.IntKind.u8 (Int.ofNat 0))],kind:=some Go.IntKind.u8}),
(7,{size:=4,bytes:=24,agg:=true,zero:=[e0,e0,e1,AC.t (Tr.int Go.IntKind.u8 (Int.ofNat 0))],fields:=[(0,1,2),(1,1,3),(2,1,4),(3,1,6)]}),
(8,{size:=4,bytes:=24,agg:=true,zero:=[e0,e0,e1,AC.t (Tr.int Go.IntKind.u8 (Int.ofNat 0))],fields:=[(0,1,2),(1,1,3),(2,1,4),(3,1,6)]}),
(9,{size:=1,bytes:=16,agg:=false,zero:=[e2],str:=true}),
(10,{size:=1,bytes:=16,agg:=false,zero:=[e2],str:=true}),
(11,{size:=1,bytes:=16,agg:=false,zero:=[e2],str:=true}),
(15,e5 1 8 [AC.nilp]),
(16,e5 1 8 [AC.nilp]),
(17,e5 1 8 [AC.nilp]),
(18,{size:=1,bytes:=8,agg:=true,zero:=[AC.nilp],fields:=[(0,1,17)]}),
(19,{size:=1,bytes:=8,agg:=true,zero:=[AC.nilp],fields:=[(0,1,17)]}),
(20,e5 1 16 [AC.opq]),
(21,{size:=1,bytes:=4,agg:=false,zero:=[AC.t (Tr.int Go.IntKind.i32 (Int.ofNat 0))],kind:=some Go.IntKind.i32}),
(22,{size:=1,bytes:=24,agg:=false,zero:=[e3],elem:=some 5}),
(24,{size:=1,bytes:=24,agg:=false,zero:=[e3],elem:=some 138}),
(25,{size:=4,bytes:=24,agg:=true,zero:=[e0,e0,e1,e1],fields:=[(0,1,3),(1,1,3),(2,1,4),(3,1,4)]}),
(26,{size:=4,bytes:=24,agg:=true,zero:=[e0,e0,e1,e1],fields:=[(0,1,3),(1,1,3),(2,1,4),(3,1,4)]}),
(27,{size:=1,bytes:=24,agg:=false,zero:=[e3],elem:=some 93}),
(28,{size:=1,bytes:=24,agg:=false,zero:=[e3],elem:=some 3}),
(29,{size:=3,bytes:=72,agg:=true,zero:=[e3,e3,e3],fields:=[(0,1,27),(1,1,28),(2,1,28)]}),
(30,{size:=3,bytes:=72,agg:=true,zero:=[e3,e3,e3],fields:=[(0,1,27),(1,1,28),(2,1,28)]}),
(33,{size:=1,bytes:=24,agg:=false,zero:=[e3],elem:=some 118}),
(35,{size:=1,bytes:=24,agg:=false,zero:=[e3],elem:=some 103}),
(37,{size:=1,bytes:=24,agg:=false,zero:=[e3],elem:=some 33}),
(38,{size:=7,bytes:=88,agg:=true,zero:=[e0,e0,e0,e3,e3,e0,e0],fields:=[(0,1,3),(1,1,3),(2,1,3),(3,1,28),(4,1,28),(5,1,3),(6,1,3)]}),
(39,{size:=7,bytes:=88,agg:=true,zero:=[e0,e0,e0,e3,e3,e0,e0],fields:=[(0,1,3),(1,1,3),(2,1,3),(3,1,28),(4,1,28),(5,1,3),(6,1,3)]}),
(44,{size:=4,bytes:=48,agg:=true,zero:=[e0,e0,e0,e3],fields:=[(0,1,3),(1,1,3),(2,1,3),(3,1,28)]}),
(45,{size:=4,bytes:=48,agg:=true,zero:=[e0,e0,e0,e3],fields:=[(0,1,3),(1,1,3),(2,1,3),(3,1,28)]}),
(47,{size:=2,bytes:=16,agg:=true,zero:=[e0,e0],fields:=[(0,1,3),(1,1,3)]}),
(48,{size:=2,bytes:=16,agg:=true,zero:=[e0,e0],fields:=[(0,1,3),(1,1,3)]}),
(59,{size:=1,bytes:=24,agg:=false,zero:=[e3],elem:=some 135}),
(60,{size:=4,bytes:=24,agg:=true,zero:=[e0,e0,e1,e1],fields:=[(0,1,3),(1,1,3),(2,1,4),(3,1,4)]}),
(76,{size:=1,bytes:=24,agg:=false,zero:=[e3],elem:=some 28}),
(77,{size:=4,bytes:=64,agg:=true,zero:=[e3,e3,e0,e0],fields:=[(0,1,28),(1,1,76),(2,1,3),(3,1,3)]}),
(78,{size:=4,bytes:=64,agg:=true,zero:=[e3,e3,e0,e0],fields:=[(0,1,28),(1,1,76),(2,1,3),(3,1,3)]}),
(82,{size:=1,bytes:=24,agg:=false,zero:=[e3],elem:=some 111}),
(83,{size:=1,bytes:=24,agg:=false,zero:=[e3],elem:=some 186}),
(84,{size:=1,bytes:=24,agg:=false,zero:=[e3],elem:=some 192}),
(85,{size:=5,bytes:=104,agg:=true,zero:=[e0,e3,e3,e3,e3],fields:=[(0,1,3),(1,1,82),(2,1,33),(3,1,83),(4,1,84)]}),
(86,{size:=5,bytes:=104,agg:=true,zero:=[e0,e3,e3,e3,e3],fields:=[(0,1,3),(1,1,82),(2,1,33),(3,1,83),(4,1,84)]}),
(92,{size:=2,bytes:=40,agg:=true,zero:=[e2,e3],fields:=[(0,1,9),(1,1,82)]}),
(93,{size:=2,bytes:=40,agg:=true,zero:=[e2,e3],fields:=[(0,1,9),(1,1,82)]}),
(100,{size:=7,bytes:=72,agg:=true,zero:=[e0,e0,e0,e1,e3,e0,e1],fields:=[(0,2,48),(2,1,3),(3,1,4),(4,1,28),(5,1,3),(6,1,4)]}),
(101,{size:=7,bytes:=72,agg:=true,zero:=[e0,e0,e0,e1,e3,e0,e1],fields:=[(0,2,48),(2,1,3),(3,1,4),(4,1,28),(5,1,3),(6,1,4)]}),
(102,{size:=8,bytes:=80,agg:=true,zero:=[e0,e0,e0,e0,e1,e3,e0,e1],fields:=[(0,1,3),(1,7,101)]}),
(103,{size:=8,bytes:=80,agg:=true,zero:=[e0,e0,e0,e0,e1,e3,e0,e1],fields:=[(0,1,3),(1,7,101)]}),
(104,{size:=1,bytes:=24,agg:=false,zero:=[e3],elem:=some 108}),
(107,{size:=2,bytes:=24,agg:=true,zero:=[e2,e0],fields:=[(0,1,9),(1,1,3)]}),
(108,{size:=2,bytes:=24,agg:=true,zero:=[e2,e0],fields:=[(0,1,9),(1,1,3)]}),
(110,{size:=3,bytes:=32,agg:=true,zero:=[e2,e0,e0],fields:=[(0,1,9),(1,1,3),(2,1,3)]}),
(111,{size:=3,bytes:=32,agg:=true,zero:=[e2,e0,e0],fields:=[(0,1,9),(1,1,3),(2,1,3)]}),
(113,e5 1 8 [AC.nilp]),
(117,{size:=4,bytes:=32,agg:=true,zero:=[e0,e0,e1,e0],fields:=[(0,1,3),(1,1,3),(2,1,4),(3,1,3)]}),
(118,{size:=4,bytes:=32,agg:=true,zero:=[e0,e0,e1,e0],fields:=[(0,1,3),(1,1,3),(2,1,4),(3,1,3)]}),
(123,{size:=1,bytes:=24,agg:=false,zero:=[e3],elem:=some 101}),
(132,{size:=1,bytes:=24,agg:=false,zero:=[e3],elem:=some 9}),
(133,{size:=1,bytes:=24,agg:=false,zero:=[e3],elem:=some 265}),
(134,{size:=4,bytes:=72,agg:=true,zero:=[e0,e2,e3,e3],fields:=[(0,1,3),(1,1,9),(2,1,132),(3,1,133)]}),
(135,{size:=4,bytes:=72,agg:=true,zero:=[e0,e2,e3,e3],fields:=[(0,1,3),(1,1,9),(2,1,132),(3,1,133)]}),
(136,{size:=1,bytes:=24,agg:=false,zero:=[e3],elem:=some 221}),
(137,{size:=4,bytes:=72,agg:=true,zero:=[e0,e2,e3,e3],fields:=[(0,1,3),(1,1,9),(2,1,132),(3,1,136)]}),
(138,{size:=4,bytes:=72,agg:=true,zero:=[e0,e2,e3,e3],fields:=[(0,1,3),(1,1,9),(2,1,132),(3,1,136)]}),
(140,{size:=1,bytes:=24,agg:=false,zero:=[e3],elem:=some 35}),
(153,e5 1 8 [AC.nilp]),
(154,{size:=7,bytes:=120,agg:=true,zero:=[e3,e0,e3,e3,e0,e0,e3],fields:=[(0,1,24),(1,1,3),(2,4,78),(6,1,28)]}),
(155,{size:=7,bytes:=120,agg:=true,zero:=[e3,e0,e3,e3,e0,e0,e3],fields:=[(0,1,24),(1,1,3),(2,4,78),(6,1,28)]}),
(169,e5 1 8 [AC.nilp]),
(170,{size:=3,bytes:=32,agg:=true,zero:=[e2,e0,e1],fields:=[(0,1,9),(1,1,3),(2,1,4)]}),
(171,{size:=3,bytes:=32,agg:=true,zero:=[e2,e0,e1],fields:=[(0,1,9),(1,1,3),(2,1,4)]}),
(185,{size:=3,bytes:=24,agg:=true,zero:=[e0,e0,e1],fields:=[(0,1,3),(1,1,3),(2,1,4)]}),
(186,{size:=3,bytes:=24,agg:=true,zero:=[e0,e0,e1],fields:=[(0,1,3),(1,1,3),(2,1,4)]}),
(191,{size:=5,bytes:=48,agg:=true,zero:=[e0,e0,e0,e0,e2],fields:=[(0,1,3),(1,1,3),(2,1,3),(3,1,3),(4,1,9)]}),
(192,{size:=5,bytes:=48,agg:=true,zero:=[e0,e0,e0,e0,e2],fields:=[(0,1,3),(1,1,3),(2,1,3),(3,1,3),(4,1,9)]}),
(195,{size:=3,bytes:=40,agg:=true,zero:=[e3,e0,e0],fields:=[(0,1,22),(1,1,3),(2,1,3)]}),
(196,{size:=3,bytes:=40,agg:=true,zero:=[e3,e0,e0],fields:=[(0,1,22),(1,1,3),(2,1,3)]}),
(207,e5 1 8 [AC.nilp]),
(208,{size:=8,bytes:=96,agg:=true,zero:=[e0,e0,e0,e3,e3,e0,e0,e1],fields:=[(0,7,39),(7,1,4)]}),
(209,{size:=8,bytes:=96,agg:=true,zero:=[e0,e0,e0,e3,e3,e0,e0,e1],fields:=[(0,7,39),(7,1,4)]}),
(220,{size:=3,bytes:=32,agg:=true,zero:=[e0,e0,e2],fields:=[(0,1,3),(1,1,3),(2,1,9)]}),
(221,{size:=3,bytes:=32,agg:=true,zero:=[e0,e0,e2],fields:=[(0,1,3),(1,1,3),(2,1,9)]}),
(230,e5 1 8 [AC.nilp]),
(231,e5 1 8 [AC.nilp]),
(232,{size:=2,bytes:=16,agg:=true,zero:=[AC.nilp,e1],fields:=[(0,1,231),(1,1,4)]}),
(233,{size:=2,bytes:=16,agg:=true,zero:=[AC.nilp,e1],fields:=[(0,1,231),(1,1,4)]}),
(250,e5 1 8 [AC.nilp]),
(251,{size:=1,bytes:=24,agg:=false,zero:=[e3],elem:=some 255}),
(252,{size:=13,bytes:=144,agg:=true,zero:=[e3,e0,e0,e1,e1,e1,e0,e0,e0,e0,e3,e3,e1],fields:=[(0,1,24),(1,4,26),(5,1,4),(6,1,3),(7,1,3),(8,1,3),(9,1,3),(10,1,123),(11,1,251),(12,1,4)]}),
(253,{size:=13,bytes:=144,agg:=true,zero:=[e3,e0,e0,e1,e1,e1,e0,e0,e0,e0,e3,e3,e1],fields:=[(0,1,24),(1,4,26),(5,1,4),(6,1,3),(7,1,3),(8,1,3),(9,1,3),(10,1,123),(11,1,251),(12,1,4)]}),
(254,{size:=6,bytes:=96,agg:=true,zero:=[e0,e3,e3,e0,e1,e3],fields:=[(0,1,3),(1,1,28),(2,1,132),(3,1,3),(4,1,4),(5,1,28)]}),
(255,{size:=6,bytes:=96,agg:=true,zero:=[e0,e3,e3,e0,e1,e3],fields:=[(0,1,3),(1,1,28),(2,1,132),(3,1,3),(4,1,4),(5,1,28)]}),
(257,{size:=1,bytes:=24,agg:=false,zero:=[e3],elem:=some 48}),
(265,{size:=3,bytes:=32,agg:=true,zero:=[e0,e0,e2],fields:=[(0,1,3),(1,1,3),(2,1,9)]}),
(272,e5 1 8 [AC.nilp]),
(273,{size:=4,bytes:=80,agg:=true,zero:=[AC.nilp,e3,e3,e3],fields:=[(0,1,113),(1,1,132),(2,1,132),(3,1,28)]}),
(274,{size:=4,bytes:=80,agg:=true,zero:=[AC.nilp,e3,e3,e3],fields:=[(0,1,113),(1,1,132),(2,1,132),(3,1,28)]}),
(280,{size:=1,bytes:=24,agg:=false,zero:=[e3],elem:=some 283}),
(282,{size:=2,bytes:=16,agg:=true,zero:=[e0,e0],fields:=[(0,1,3),(1,1,3)]}),
(283,{size:=2,bytes:=16,agg:=true,zero:=[e0,e0],fields:=[(0,1,3),(1,1,3)]}),
(287,e5 1 8 [AC.nilp]),
(288,{size:=11,bytes:=128,agg:=true,zero:=[e3,e0,e0,e1,e1,e1,e0,e0,e3,e0,e3],fields:=[(0,1,24),(1,4,26),(5,1,4),(6,1,3),(7,1,3),(8,1,123),(9,1,3),(10,1,28)]}),
(289,{size:=11,bytes:=128,agg:=true,zero:=[e3,e0,e0,e1,e1,e1,e0,e0,e3,e0,e3],fields:=[(0,1,24),(1,4,26),(5,1,4),(6,1,3),(7,1,3),(8,1,123),(9,1,3),(10,1,28)]}),
(290,e5 1 8 [AC.nilp]),
(291,{size:=8,bytes:=112,agg:=true,zero:=[e0,e0,e3,e0,e0,e3,e0,e3],fields:=[(0,1,3),(1,1,3),(2,1,132),(3,1,3),(4,1,3),(5,1,28),(6,1,3),(7,1,28)]}),
(292,{size:=8,bytes:=112,agg:=true,zero:=[e0,e0,e3,e0,e0,e3,e0,e3],fields:=[(0,1,3),(1,1,3),(2,1,132),(3,1,3),(4,1,3),(5,1,28),(6,1,3),(7,1,28)]}),
(299,e5 1 8 [AC.nilp]),
(303,{size:=1,bytes:=8,agg:=false,zero:=[AC.opq],map:=some (some Go.IntKind.i64)}),
(308,{size:=1,bytes:=4,agg:=false,zero:=[AC.t (Tr.int Go.IntKind.u32 (Int.ofNat 0))],kind:=some Go.IntKind.u32}),
(309,{size:=1,bytes:=24,agg:=false,zero:=[e3],elem:=some 136}),
(313,{size:=4,bytes:=40,agg:=true,zero:=[AC.nilp,AC.nilp,AC.nilp,e2],fields:=[(0,1,17),(1,1,17),(2,1,17),(3,1,9)]}),
(314,{size:=4,bytes:=40,agg:=true,zero:=[AC.nilp,AC.nilp,AC.nilp,e2],fields:=[(0,1,17),(1,1,17),(2,1,17),(3,1,9)]}),
(318,{size:=1,bytes:=1,agg:=false,zero:=[AC.t (Tr.int Go.IntKind.u8 (Int.ofNat 0))],kind:=some Go.IntKind.u8}),
(319,{size:=1,bytes:=1,agg:=false,zero:=[AC.t (Tr.int Go.IntKind.u8 (Int.ofNat 0))],kind:=some Go.IntKind.u8}),
(321,e5 1 8 [AC.nilp]),
(322,{size:=1,bytes:=4,agg:=false,zero:=[AC.t (Tr.int Go.IntKind.i32 (Int.ofNat 0))],kind:=some Go.IntKind.i32}),
(323,{size:=1,bytes:=4,agg:=false,zero:=[AC.t (Tr.int Go.IntKind.i32 (Int.ofNat 0))],kind:=some Go.IntKind.i32}),
(326,e5 1 8 [AC.nilp])]
theorem hΓ:Γ.chk prog=true:=by kernel_rfl
theorem aE:prog.follows .mixedOrders=true:=by kernel_rfl
end Go.Proofs.P
namespace Go.Proofs.P
open Go.Sim Tryz Go.ChangeShapes Go.WideShapes Go.ChangeAt Go.RowKit
theorem own:ownKnob prog.godebug=none:=by kernel_rfl
theorem JI:laidOutB prog=true:=by kernel_rfl
theorem Co {α:Type}{g:α->List Tr}{Q:α->Prop}:∀{rows:List (List Tr)},(∀r∈rows,∃m,r=g m/\Q m)->∃ns:List α,rows=ns.map g/\∀m∈ns,Q m
 | [],_=>⟨[],rfl,fun _ h=>by cases h⟩
 | r::rows,h=>by
  obtain⟨m,rfl,hm⟩:=h r s_;obtain⟨ns,rfl,SL⟩:=Co (rows:=rows) fun r hr=>h r aaz
  exact⟨m::ns,rfl,fun x hx=>by
   rcases d7.1 hx with rfl|hx
   ·exact hm
   ·exact SL x hx⟩
end Go.Proofs.P
namespace Go.Proofs.P
open Go.Sim Tryz
abbrev tvI (n:Int):TV:= .c (.int .i64 n)
abbrev tvB (n:Bool):TV:= .c (.bool n)
abbrev tvS (n:List UInt8):TV:= .c (.str n)
abbrev rI (n:Int):Res:= .r (.c (.t (.int .i64 n)))
abbrev rB (b:Bool):Res:= .r (.c (.t (.bool b)))
abbrev rS (b:List UInt8):Res:= .r (.c (.t (.str b)))
def af (n lo hi:Int):Bool:=decide (lo<=n)&&decide (n<=hi)
theorem within_iff {n lo hi:Int}:af n lo hi=true↔lo<=n/\n<=hi:=by simp[af]
set_option maxRecDepth 100000
theorem V78{p:Prop}(h:p:=by
 repeat' ((conv=>whnf);first|refine Or.inl ?_|apply oi|apply fi|intro h|exact Y1|refine e_ rfl ?_)
 all_goals refine⟨?_⟩
 all_goals simp_all[af]
 all_goals omega):p:=h
theorem aW (n lo hi:Int):Sim.Spec prog 74 [tvI n,tvI lo,tvI hi] (rB (af n lo hi)):=by refine ag hΓ aE func74 rfl d_ rfl ?_;exact V78
theorem aJ (n lo hi:Int):Sim.Spec prog 61 [tvI n,tvI lo,tvI hi] (rB (af n lo hi)):=by refine ag hΓ aE func61 rfl d_ rfl ?_;exact V78
def signed (n:Int):Int:=if af n 0 1099511627775 then(if n%2=1 then -((n+1)/2)else n/2)else 0
end Go.Proofs.P
namespace Go.Proofs.P
open Go.Sim Tryz
set_option maxRecDepth 100000
def LH (n:Nat):List UInt8:=if n<=127 then [UInt8.ofNat n]else UInt8.ofNat (n%128+128)::LH (n/128)
 termination_by n
 decreasing_by omega
def enc (n:Int):List UInt8:=if af n 0 1099511627775 then LH n.toNat else []
end Go.Proofs.P
namespace Go.Proofs.P
open Go.Sim Tryz Go.RowKit
def inI (n:Int):Prop:= -9223372036854775808<=n/\n<=9223372036854775807
def aa (n:Int):List Tr:=[.int .i64 n]
def aq (s:List UInt8):List Tr:=[.str s]
def bc {α:Type}(sz:Nat)(g:α->List Tr)(l:List α):List Tr:=[.lst sz (l.map g)]
structure Mt where
 J3:Int
 K9:Int
def Mt.tr (x:Mt):List Tr:=[.int .i64 x.J3,.int .i64 x.K9]
def Mt.wf (x:Mt):Prop:=inI x.J3/\inI x.K9
structure Mz where
 J5:Int
 MI:Int
 L0:List UInt8
def Mz.tr (x:Mz):List Tr:=[.int .i64 x.J5,.int .i64 x.MI,.str x.L0]
def Mz.wf (x:Mz):Prop:=inI x.J5/\inI x.MI/\x.L0.length<=maxLen
structure Mq where
 J5:Int
 L0:List UInt8
 L9:List (List UInt8)
 L5:List Mz
def Mq.tr (x:Mq):List Tr:=[.int .i64 x.J5,.str x.L0,.lst 1 (x.L9.map aq),.lst 3 (x.L5.map Mz.tr)]
def Mq.wf (x:Mq):Prop:=inI x.J5/\x.L0.length<=maxLen/\(x.L9.length<=maxLen/\∀y∈x.L9,y.length<=maxLen)/\(x.L5.length<=maxLen/\∀y∈x.L5,y.wf)
structure Mi where
 MS:Int
 MJ:Int
 MY:Bool
 MX:Bool
def Mi.tr (x:Mi):List Tr:=[.int .i64 x.MS,.int .i64 x.MJ,.bool x.MY,.bool x.MX]
def Mi.wf (x:Mi):Prop:=inI x.MS/\inI x.MJ
structure Mp where
 J7:Mt
 MM:Int
 L8:Bool
 MQ:List Int
 MG:Int
 MR:Bool
def Mp.tr (x:Mp):List Tr:=[.int .i64 x.J7.J3,.int .i64 x.J7.K9,.int .i64 x.MM,.bool x.L8,.lst 1 (x.MQ.map aa),.int .i64 x.MG,.bool x.MR]
def Mp.wf (x:Mp):Prop:=x.J7.wf/\inI x.MM/\(x.MQ.length<=maxLen/\∀y∈x.MQ,inI y)/\inI x.MG
structure My where
 L0:List UInt8
 L8:Int
 MO:Int
def My.tr (x:My):List Tr:=[.str x.L0,.int .i64 x.L8,.int .i64 x.MO]
def My.wf (x:My):Prop:=x.L0.length<=maxLen/\inI x.L8/\inI x.MO
structure Mn where
 J3:List UInt8
 ME:List My
def Mn.tr (x:Mn):List Tr:=[.str x.J3,.lst 3 (x.ME.map My.tr)]
def Mn.wf (x:Mn):Prop:=x.J3.length<=maxLen/\(x.ME.length<=maxLen/\∀y∈x.ME,y.wf)
structure Mx where
 MT:List Mn
 MV:List Int
 MF:List Int
def Mx.tr (x:Mx):List Tr:=[.lst 2 (x.MT.map Mn.tr),.lst 1 (x.MV.map aa),.lst 1 (x.MF.map aa)]
def Mx.wf (x:Mx):Prop:=(x.MT.length<=maxLen/\∀y∈x.MT,y.wf)/\(x.MV.length<=maxLen/\∀y∈x.MV,inI y)/\(x.MF.length<=maxLen/\∀y∈x.MF,inI y)
structure Mr where
 L3:Int
 J6:Int
 L4:Int
 MH:List Int
 MD:List Int
 MC:Int
 faG:Int
def Mr.tr (x:Mr):List Tr:=[.int .i64 x.L3,.int .i64 x.J6,.int .i64 x.L4,.lst 1 (x.MH.map aa),.lst 1 (x.MD.map aa),.int .i64 x.MC,.int .i64 x.faG]
def Mr.wf (x:Mr):Prop:=inI x.L3/\inI x.J6/\inI x.L4/\(x.MH.length<=maxLen/\∀y∈x.MH,inI y)/\(x.MD.length<=maxLen/\∀y∈x.MD,inI y)/\inI x.MC/\inI x.faG
structure Mu where
 MK:Int
 L7:Mp
def Mu.tr (x:Mu):List Tr:=[.int .i64 x.MK,.int .i64 x.L7.J7.J3,.int .i64 x.L7.J7.K9,.int .i64 x.L7.MM,.bool x.L7.L8,.lst 1 (x.L7.MQ.map aa),.int .i64 x.L7.MG,.bool x.L7.MR]
def Mu.wf (x:Mu):Prop:=inI x.MK/\x.L7.wf
structure Mw where
 L8:Int
 ML:Int
 MP:Bool
 MG:Int
def Mw.tr (x:Mw):List Tr:=[.int .i64 x.L8,.int .i64 x.ML,.bool x.MP,.int .i64 x.MG]
def Mw.wf (x:Mw):Prop:=inI x.L8/\inI x.ML/\inI x.MG
structure MA where
 L3:Int
 J6:Int
 L4:Int
 MB:List Int
def MA.tr (x:MA):List Tr:=[.int .i64 x.L3,.int .i64 x.J6,.int .i64 x.L4,.lst 1 (x.MB.map aa)]
def MA.wf (x:MA):Prop:=inI x.L3/\inI x.J6/\inI x.L4/\(x.MB.length<=maxLen/\∀y∈x.MB,inI y)
structure Mv where
 MK:Int
 MM:Int
 L8:Bool
def Mv.tr (x:Mv):List Tr:=[.int .i64 x.MK,.int .i64 x.MM,.bool x.L8]
def Mv.wf (x:Mv):Prop:=inI x.MK/\inI x.MM
structure Mo where
 L8:Int
 ML:Int
 MZ:Int
 MM:Int
 L0:List UInt8
def Mo.tr (x:Mo):List Tr:=[.int .i64 x.L8,.int .i64 x.ML,.int .i64 x.MZ,.int .i64 x.MM,.str x.L0]
def Mo.wf (x:Mo):Prop:=inI x.L8/\inI x.ML/\inI x.MZ/\inI x.MM/\x.L0.length<=maxLen
structure Mk where
 faM:Int
 ME:List My
 faJ:List Mw
 faL:List Mv
 faK:List Mo
def Mk.tr (x:Mk):List Tr:=[.int .i64 x.faM,.lst 3 (x.ME.map My.tr),.lst 4 (x.faJ.map Mw.tr),.lst 3 (x.faL.map Mv.tr),.lst 5 (x.faK.map Mo.tr)]
def Mk.wf (x:Mk):Prop:=inI x.faM/\(x.ME.length<=maxLen/\∀y∈x.ME,y.wf)/\(x.faJ.length<=maxLen/\∀y∈x.faJ,y.wf)/\(x.faL.length<=maxLen/\∀y∈x.faL,y.wf)/\(x.faK.length<=maxLen/\∀y∈x.faK,y.wf)
structure Ml where
 L0:List UInt8
 MM:Int
def Ml.tr (x:Ml):List Tr:=[.str x.L0,.int .i64 x.MM]
def Ml.wf (x:Ml):Prop:=x.L0.length<=maxLen/\inI x.MM
end Go.Proofs.P
namespace Go.Proofs.P
open Go.Sim Tryz
set_option maxRecDepth 100000
abbrev tvL (sz:Nat)(rows:List (List Tr)):TV:= .c (.lst sz rows)
abbrev rL (sz:Nat)(rows:List (List Tr)):Res:= .r (.c (.arr sz rows))
theorem ab {α β:Type}{f:α->β}{l:List α}{k:Nat}{x:α}(h:l[k]?=some x):(l.map f)[k]?=some (f x):=by simp[h]
theorem ae {α:Type}{l:List α}{k:Nat}(h:k<l.length):∃x,l[k]?=some x:=⟨_,i8 h⟩
theorem Lh {ns ms:List Int}{k:Nat}{x y:Int}(h1:ns[k]?=some x)(h2:ms[k]?=some y)(M9:x≠y):(ns==ms)=false:=by rw[A2];intro e;subst e;rw[h1]at h2;injection h2 with h2;exact M9 h2
theorem Ju {ns ms:List Int}(h:ns.length≠ms.length):(ns==ms)=false:=by rw[A2];intro e;subst e;exact h rfl
theorem cJ {α:Type}{l:List α}{k:Nat}{x:α}(h:l[k]?=some x):l.drop k=x::l.drop (k+1):=by
 have hk:k<l.length:=by
  rcases m5 k l.length with h'|h'
  ·exact h'
  ·rw[e9 h']at h;cases h
 rw[i8 hk]at h;injection h with h;rw[<-h];exact C4 hk
end Go.Proofs.P
namespace Go.Proofs.P
open Go.Sim Tryz Go.RowKit
set_option maxRecDepth 100000
theorem aZ {α:Type}{g:α->List Tr}{L:Int}{l:List α}{sz:Nat}(h:ao L (.lst sz (l.map g))){x:α}(hx:x∈l):az L (g x):=by rw[ao]at h;exact sT h.2 _ (List.mem_map_of_mem hx)
theorem nI {α:Type}{g:α->List Tr}{L:Int}{l:List α}{sz:Nat}(h:ao L (.lst sz (l.map g))):(l.length:Int)<=L:=by rw[ao]at h;simpa using h.1
theorem bi {α:Type}{g:α->List Tr}{l:List α}{sz:Nat}(h:ao 1048576 (.lst sz (l.map g))):l.length<=1048576:=by have:=nI h;omega
end Go.Proofs.P
namespace Go.Proofs.P
open Go.Sim Tryz
set_option maxRecDepth 100000
def atV (bs:List UInt8)(i:Nat):Nat:=match bs[(i*5+1)%bs.length]? with|some b=>b.toNat|none=>0
theorem Ix (bs:List UInt8)(i:Nat):atV bs i<=255:=by
 unfold atV;split
 ·rename_i b _;have:=b.toNat_lt;omega
 ·omega
theorem Dq (bs:List UInt8):Sim.Spec prog 9 [tvL 1 (bs.map aT)] (rB (decide (1048576<(bs.length:Int)))):=by
 refine ag hΓ aE func9 rfl d_ rfl ?_;have hl:(bs.map aT).length=bs.length:=s_;repeat' ((conv=>whnf);first|refine Or.inl ?_|apply oi|apply fi|intro h|exact Y1|refine e_ rfl ?_)
 exact⟨by rw[hl]⟩
theorem yI (bs:List UInt8)(i:Nat)(hi:i<=1000)(hl:bs.length<=1048576):Sim.Spec prog 19 [tvL 1 (bs.map aT),tvI (i:Int)] (rI (atV bs i)):=by
 refine ag hΓ aE func19 rfl d_ rfl ?_;have M0:(bs.map aT).length=bs.length:=s_;repeat' ((conv=>whnf);first|refine Or.inl ?_|apply oi|apply fi|intro h|exact Y1|refine e_ rfl ?_)
 ·have h0:bs.length=0:=by rw[M0]at h;have:=B2 h;omega
  have:bs=[]:=w7 h0;subst this;exact⟨rfl⟩
 ·have h0:bs.length≠0:=by rw[M0]at h;intro e;rw[e]at h;simp at h
  exact⟨by rw[M0];omega⟩
 have h0:bs.length≠0:=by rw[M0]at h;intro e;rw[e]at h;simp at h
 have Ny:0<bs.length:=Nat.pos_of_ne_zero h0;obtain⟨b,hb⟩:=ae (l:=bs) (k:=(i*5+1)%bs.length) (F3 _ Ny);have P4:=b.toNat_lt;conv=>whnf
 refine⟨(i*5+1)%bs.length,aT b,?_,ab hb,?_⟩
 ·show(IntKind.i64.wrap (IntKind.i64.wrap (_*5)+1)).tmod _=_;rw[c6 ((i:Int)*5) o_,c6 _ o_,M0,A6 o_];simp
 repeat' ((conv=>whnf);first|refine Or.inl ?_|apply oi|apply fi|intro h|exact Y1|refine e_ rfl ?_)
 refine⟨congrArg (Tr.int _) ?_⟩;rw[c6 _ o_,atV,hb]
theorem tT (ns ms:List Int)(hl:ns.length<=1048576):Sim.Spec prog 23 [tvL 1 (ns.map aa),tvL 1 (ms.map aa)] (rB (ns==ms)):=by
 refine ag hΓ aE func23 rfl d_ rfl ?_;have M0:(ns.map aa).length=ns.length:=s_;have Pb:(ms.map aa).length=ms.length:=s_;repeat' ((conv=>whnf);first|refine Or.inl ?_|apply oi|apply fi|intro h|exact Y1|refine e_ rfl ?_)
 ·rw[M0,Pb]at h;rw[Ju (by intro e;rw[e]at h;simp at h)];exact⟨rfl⟩
 have Nu:ns.length=ms.length:=by
  rw[M0,Pb]at h;have:((ns.length:Int)==(ms.length:Int))=true:=by simpa using h
  have:=B2 this;omega
 repeat' ((conv=>whnf);first|refine Or.inl ?_|apply oi|apply fi|intro h|exact Y1|refine e_ rfl ?_)
 conv=>whnf
 refine⟨{k:Nat//k<=ns.length/\∀j,j<k->ns[j]?=ms[j]?},fun k=>⟨[(0,.r (.c (.t (.lst 1 (ns.map aa))))),(1,.r (.c (.t (.lst 1 (ms.map aa))))),(5,tI .i64 (k.1:Int))],[],[]⟩,fun k=>ns.length-k.1,⟨0,o_,fun j hj=>o_⟩,?_,?_⟩
 ·exact Z1
 intro⟨k,hk,Sl⟩;dsimp only;repeat' ((conv=>whnf);first|refine Or.inl ?_|apply oi|apply fi|intro h|exact Y1|refine e_ rfl ?_)
 ·have M3:k<ns.length:=by have:=d9 h;omega
  obtain⟨x,hx⟩:=ae M3;obtain⟨y,hy⟩:=ae (show k<ms.length by omega);conv=>whnf
  refine⟨k,aa x,rfl,ab hx,?_⟩;repeat' ((conv=>whnf);first|refine Or.inl ?_|apply oi|apply fi|intro h|exact Y1|refine e_ rfl ?_)
  conv=>whnf
  refine⟨k,aa y,rfl,ab hy,?_⟩;repeat' ((conv=>whnf);first|refine Or.inl ?_|apply oi|apply fi|intro h|exact Y1|refine e_ rfl ?_)
  ·rw[Lh hx hy aaf];exact⟨rfl⟩
  have hxy:x=y:=by simpa using h
  conv=>whnf
  refine⟨⟨k+1,o_,fun j hj=>?_⟩,?_,KD⟩
  ·rcases m5 j k with h'|h'
   ·exact Sl j h'
   ·have:j=k:=o_;subst this;rw[hx,hy,hxy]
  repeat' ((conv=>whnf);first|refine Or.inl ?_|apply oi|apply fi|intro h|exact Y1|refine e_ rfl ?_)
  exact⟨by dsimp only;rw[c6 _ o_];rfl⟩
 ·have Nk:ns.length<=k:=by have:=e8 h;omega
  have:ns=ms:=I0 fun j=>by
   rcases m5 j k with h'|h'
   ·exact Sl j h'
   ·rw[e9 o_,e9 o_]
  subst this;exact⟨s_⟩
end Go.Proofs.P
namespace Go.Proofs.P
open Go.Sim Tryz
def cz (last:Int)(r:Mw):Prop:=last<=r.L8/\r.L8<r.ML/\r.ML<=1000000/\0<=r.MG/\r.MG<=1200/\(r.MP=true->r.MG=0)
instance (last:Int) (r:Mw):Decidable (cz last r):=by unfold cz;infer_instance
def bL:Int->List Mw->Bool
 | _,[]=>true
 | p,r::l=>if cz p r then bL r.ML l else false
def gl (l:List Mw):Bool:=bL 0 l
def gk (l:List Mw)(k:Nat):Int:=if k=0 then 0 else match l[k-1]? with|some r=>r.ML|none=>0
theorem pF {l:List Mw}{k:Nat}{x:Mw}(h:l[k]?=some x):gk l (k+1)=x.ML:=by rw[gk,b8 o_];simp[h]
theorem uR {l:List Mw}{k:Nat}{x:Mw}(hx:l[k]?=some x):bL (gk l k) (l.drop k)=if cz (gk l k) x then bL (gk l (k+1)) (l.drop (k+1))else false:=by rw[cJ hx,bL,pF hx]
theorem CJ {l:List Mw}{k:Nat}{x:Mw}(hx:l[k]?=some x)(h0:0<=gk l k)(hb:cz (gk l k) x):0<=gk l (k+1):=by rw[pF hx];unfold cz at hb;omega
abbrev Er (l:List Mw)(R:Bool):={k:Nat//k<=l.length/\0<=gk l k/\bL (gk l k) (l.drop k)=R}
theorem Q13{p:Prop}(h:p:=by exfalso;apply hb;(try simp_all[af]);(try omega);first|done|fail):p:=h
theorem Q2{p:Prop}(h:p:=by exfalso;(try simp_all[af]);(try omega);first|done|fail):p:=h
theorem wN (l:List Mw)(hl:l.length<=1048576):Sim.Spec prog 103 [tvL 4 (l.map Mw.tr)] (rB (gl l)):=by
 refine ag hΓ aE func103 rfl d_ rfl ?_;have M0:(l.map Mw.tr).length=l.length:=s_;obtain⟨R,hR⟩:∃R,gl l=R:=⟨_,rfl⟩;rw[hR];repeat' ((conv=>whnf);first|refine Or.inl ?_|apply oi|apply fi|intro h|exact Y1|refine e_ rfl ?_)
 conv=>whnf
 refine⟨Er l R,fun k=>⟨[(0,.r (.c (.t (.lst 4 (l.map Mw.tr))))),(5,.r (.c (.t (.lst 4 (l.map Mw.tr))))),(6,tI .i64 ((l.map Mw.tr).length:Int)),(7,tI .i64 (k.1:Int))],[],[]⟩,fun k=>l.length-k.1,⟨0,o_,by simp[gk],hR⟩,?_,?_⟩
 ·exact Z1
 intro⟨k,hk,h0,hr⟩;dsimp only;by_cases M3:k<l.length
 ·obtain⟨x,hx⟩:=ae M3;rw[uR hx]at hr;have Sr:=CJ hx h0;have VD:∀y,0<k->l[k-1]?=some y->gk l k=y.ML:=fun y h1 h2=>by rw[gk,b8 o_,h2]
  have Ss:k=0->gk l k=0:=fun h1=>by rw[gk,c7 h1]
  have hw:0<k->IntKind.i64.wrap (↑k-1)=((k-1:Nat):Int):=fun h=>by rw[c6 _ o_];omega
  by_cases hb:cz (gk l k) x
  ·rw[c7 hb]at hr;have Sr:=Sr hb;unfold cz at hb;rcases v4 k with Oz|Oz
   ·have Ss:=Ss Oz
    cases NF:x.MP
    all_goals
     repeat' ((conv=>whnf);first|refine Or.inl ?_|apply oi|apply fi|intro h|refine⟨k,x.tr,rfl,ab hx,?_⟩|refine ci (aW _ _ _) (ai rfl (ai rfl (ai rfl trivial))) ?_|exact Y2|refine e_ rfl ?_)
     all_goals try exact Q2
     conv=>whnf
     refine⟨⟨k+1,o_,Sr,hr⟩,?_,KD⟩;exact Z4
   ·obtain⟨y,hy⟩:=ae (l:=l) (k:=k-1) o_;have VD:=VD y Oz hy;have hw:=hw Oz
    cases NF:x.MP
    all_goals
     repeat' ((conv=>whnf);first|refine Or.inl ?_|apply oi|apply fi|intro h|refine⟨k,x.tr,rfl,ab hx,?_⟩|refine⟨(k-1),y.tr,hw,ab hy,?_⟩|refine ci (aW _ _ _) (ai rfl (ai rfl (ai rfl trivial))) ?_|exact Y2|refine e_ rfl ?_)
     all_goals try exact Q2
     conv=>whnf
     refine⟨⟨k+1,o_,Sr,hr⟩,?_,KD⟩;exact Z4
  ·rw[b8 hb]at hr;subst hr;unfold cz at hb;rcases v4 k with Oz|Oz
   ·have Ss:=Ss Oz
    cases NF:x.MP
    all_goals
     repeat' ((conv=>whnf);first|refine Or.inl ?_|apply oi|apply fi|intro h|refine⟨k,x.tr,rfl,ab hx,?_⟩|refine ci (aW _ _ _) (ai rfl (ai rfl (ai rfl trivial))) ?_|exact Y2|refine e_ rfl ?_)
     all_goals try exact Q13
   ·obtain⟨y,hy⟩:=ae (l:=l) (k:=k-1) o_;have VD:=VD y Oz hy;have hw:=hw Oz
    cases NF:x.MP
    all_goals
     repeat' ((conv=>whnf);first|refine Or.inl ?_|apply oi|apply fi|intro h|refine⟨k,x.tr,rfl,ab hx,?_⟩|refine⟨(k-1),y.tr,hw,ab hy,?_⟩|refine ci (aW _ _ _) (ai rfl (ai rfl (ai rfl trivial))) ?_|exact Y2|refine e_ rfl ?_)
     all_goals try exact Q13
 ·have Nk:l.length<=k:=o_;rw[m9 Nk,bL]at hr;subst hr;exact Z3
theorem mQ (l:List Mw)(hl:l.length<=1048576):Sim.Spec prog 207 [tvL 4 (l.map Mw.tr)] (rB (gl l)):=by
 refine ag hΓ aE func207 rfl d_ rfl ?_;have M0:(l.map Mw.tr).length=l.length:=s_;obtain⟨R,hR⟩:∃R,gl l=R:=⟨_,rfl⟩;rw[hR];repeat' ((conv=>whnf);first|refine Or.inl ?_|apply oi|apply fi|intro h|exact Y1|refine e_ rfl ?_)
 conv=>whnf
 refine⟨Er l R,fun k=>⟨[(0,.r (.c (.t (.lst 4 (l.map Mw.tr))))),(3,tI .i64 (gk l k.1)),(4,tI .i64 (k.1:Int))],[],[]⟩,fun k=>l.length-k.1,⟨0,o_,by simp[gk],hR⟩,?_,?_⟩
 ·exact Z1
 intro⟨k,hk,h0,hr⟩;dsimp only;by_cases M3:k<l.length
 ·obtain⟨x,hx⟩:=ae M3;rw[uR hx]at hr;have Sr:=CJ hx h0;have WU:=pF hx;by_cases hb:cz (gk l k) x
  ·rw[c7 hb]at hr;have Sr:=Sr hb;unfold cz at hb
   cases NF:x.MP
   all_goals
    repeat' ((conv=>whnf);first|refine Or.inl ?_|apply oi|apply fi|intro h|refine⟨k,x.tr,rfl,ab hx,?_⟩|refine ci (aJ _ _ _) (ai rfl (ai rfl (ai rfl trivial))) ?_|exact Y2|refine e_ rfl ?_)
    all_goals try exact Q2
    conv=>whnf
    refine⟨⟨k+1,o_,Sr,hr⟩,?_,KD⟩;repeat' ((conv=>whnf);first|refine Or.inl ?_|apply oi|apply fi|intro h|exact Y3|refine e_ rfl ?_)
    exact⟨by dsimp only;rw[WU]⟩
  ·rw[b8 hb]at hr;subst hr;unfold cz at hb
   cases NF:x.MP
   all_goals
    repeat' ((conv=>whnf);first|refine Or.inl ?_|apply oi|apply fi|intro h|refine⟨k,x.tr,rfl,ab hx,?_⟩|refine ci (aJ _ _ _) (ai rfl (ai rfl (ai rfl trivial))) ?_|exact Y2|refine e_ rfl ?_)
    all_goals try exact Q13
 ·have Nk:l.length<=k:=o_;rw[m9 Nk,bL]at hr;subst hr;exact Z3
def bO (off:Int):List Mw->Nat->Int
 | [],_=> -1
 | r::l,i=>if r.L8<=off/\off<r.ML then(i:Int)else bO off l (i+1)
def bJ (l:List Mw)(off:Int):Int:=if gl l then bO off l 0 else -1
theorem tn {off:Int}{l:List Mw}{k:Nat}{x:Mw}(hx:l[k]?=some x):bO off (l.drop k) k=if x.L8<=off/\off<x.ML then(k:Int)else bO off (l.drop (k+1)) (k+1):=by rw[cJ hx,bO]
theorem V14{p:Prop}(h:p:=by
 obtain⟨x,hx⟩:=ae M3;rw[tn hx]at hr;by_cases hb:x.L8<=off/\off<x.ML
 ·rw[c7 hb]at hr;subst hr;repeat' ((conv=>whnf);first|refine Or.inl ?_|apply oi|apply fi|intro h|refine⟨k,x.tr,rfl,ab hx,?_⟩|exact Y2|refine e_ rfl ?_)
  all_goals try exact Q2
 ·rw[b8 hb]at hr;repeat' ((conv=>whnf);first|refine Or.inl ?_|apply oi|apply fi|intro h|refine⟨k,x.tr,rfl,ab hx,?_⟩|exact Y2|refine e_ rfl ?_)
  all_goals try exact Q13
  all_goals
   conv=>whnf
   refine⟨⟨k+1,o_,hr⟩,?_,KD⟩
   exact Z4):p:=h
theorem mc (l:List Mw)(off:Int)(hl:l.length<=1048576):Sim.Spec prog 138 [tvL 4 (l.map Mw.tr),tvI off] (rI (bJ l off)):=by
 refine ag hΓ aE func138 rfl d_ rfl ?_;have M0:(l.map Mw.tr).length=l.length:=s_;unfold bJ;repeat' ((conv=>whnf);first|refine Or.inl ?_|apply oi|apply fi|intro h|refine ci ((wN l hl)) (ai rfl trivial) ?_|exact Y1|refine e_ rfl ?_)
 ·have h':gl l=false:=by simpa using h
  exact⟨by rw[h'];rfl⟩
 have h':gl l=true:=by simpa using h
 rw[h',c7 rfl];obtain⟨R,hR⟩:∃R,bO off l 0=R:=⟨_,rfl⟩;rw[hR];conv=>whnf
 refine⟨{k:Nat//k<=l.length/\bO off (l.drop k) k=R},fun k=>⟨[(1,tI .i64 off),(10,.r (.c (.t (.lst 4 (l.map Mw.tr))))),(11,tI .i64 ((l.map Mw.tr).length:Int)),(12,tI .i64 (k.1:Int))],[],[]⟩,fun k=>l.length-k.1,⟨0,s_,hR⟩,?_,?_⟩
 ·exact Z1
 intro⟨k,hk,hr⟩;dsimp only at hk hr⊢;by_cases M3:k<l.length
 ·exact V14
 ·have Nk:l.length<=k:=o_;rw[m9 Nk,bO]at hr;subst hr;exact Z3
theorem lU (l:List Mw)(off:Int)(hl:l.length<=1048576):Sim.Spec prog 145 [tvL 4 (l.map Mw.tr),tvI off] (rI (bJ l off)):=by
 refine ag hΓ aE func145 rfl d_ rfl ?_;have M0:(l.map Mw.tr).length=l.length:=s_;unfold bJ
 cases M5:gl l with
 | false=>
  have hs:=mQ l hl;rw[M5]at hs;repeat' ((conv=>whnf);first|refine Or.inl ?_|apply oi|apply fi|intro h|refine ci hs (ai rfl trivial) ?_|exact Y1|refine e_ rfl ?_)
  conv=>whnf
  refine⟨Unit,fun _=>⟨[(0,.r (.c (.t (.lst 4 (l.map Mw.tr))))),(5,tB false),(6,tI .i64 0)],[],[]⟩,fun _=>0,(),?_,?_⟩
  ·exact Z1
  intro _;repeat' ((conv=>whnf);first|refine Or.inl ?_|apply oi|apply fi|intro h|exact Y1|refine e_ rfl ?_)
  all_goals simp at *
 | true=>
  have hs:=mQ l hl;rw[M5]at hs;rw[c7 rfl];obtain⟨R,hR⟩:∃R,bO off l 0=R:=⟨_,rfl⟩;rw[hR];repeat' ((conv=>whnf);first|refine Or.inl ?_|apply oi|apply fi|intro h|refine ci hs (ai rfl trivial) ?_|exact Y1|refine e_ rfl ?_)
  conv=>whnf
  refine⟨{k:Nat//k<=l.length/\bO off (l.drop k) k=R},fun k=>⟨[(0,.r (.c (.t (.lst 4 (l.map Mw.tr))))),(1,tI .i64 off),(5,tB true),(6,tI .i64 (k.1:Int))],[],[]⟩,fun k=>l.length-k.1,⟨0,s_,hR⟩,?_,?_⟩
  ·exact Z1
  intro⟨k,hk,hr⟩;dsimp only at hk hr⊢;by_cases M3:k<l.length
  ·exact V14
  ·have Nk:l.length<=k:=o_;rw[m9 Nk,bO]at hr;subst hr;exact Z3
def lg (r:Mw):Prop:=0<=r.L8/\r.L8<r.ML/\r.ML<=1000000/\0<=r.MG/\r.MG<=1200
theorem gG:∀{l:List Mw} {p:Int},0<=p->bL p l=true->∀r∈l,lg r
 | [],_,_,_,r,hr=>by cases hr
 | x::l,p,h0,h,r,hr=>by
  rw[bL]at h;split at h
  ·rename_i hb;unfold cz at hb;rcases d7.1 hr with rfl|hr
   ·unfold lg;omega
   ·exact gG o_ h r hr
  ·cases h
def cw (v:MA):Bool:=af v.J6 0 1200&&decide ((v.MB.length:Int)<=1200-v.J6)
theorem V75{p:Prop}(h:p:=by
 rw[hw]at hs
 repeat' ((conv=>whnf);first|refine Or.inl ?_|apply oi|apply fi|intro h|refine ci hs (ai rfl (ai rfl (ai rfl trivial))) ?_|exact Y1|refine e_ rfl ?_)):p:=h
theorem V51{p:Prop}(h:p:=by
 rw[hw]at hs;have hb:=within_iff.1 hw;repeat' ((conv=>whnf);first|refine Or.inl ?_|apply oi|apply fi|intro h|refine ci hs (ai rfl (ai rfl (ai rfl trivial))) ?_|exact Y1|refine e_ rfl ?_)
 exact⟨by rw[c6 _ o_,M0];rfl⟩):p:=h
theorem kA (v:MA):Sim.Spec prog 24 [.agg v.tr] (rB (cw v)):=by
 refine ag hΓ aE func24 rfl d_ rfl ?_;unfold cw;have M0:(v.MB.map aa).length=v.MB.length:=s_
 cases hw:af v.J6 0 1200 with
 | false=>
  have hs:=aW v.J6 0 1200
  exact V75
 | true=>have hs:=aW v.J6 0 1200;exact V51
theorem oG (v:MA):Sim.Spec prog 144 [.agg v.tr] (rB (cw v)):=by
 refine ag hΓ aE func144 rfl d_ rfl ?_;unfold cw;have M0:(v.MB.map aa).length=v.MB.length:=s_
 cases hw:af v.J6 0 1200 with
 | false=>
  have hs:=aJ v.J6 0 1200
  exact V75
 | true=>have hs:=aJ v.J6 0 1200;exact V51
def bZ (v:MA)(a:Int):Option Int:=if cw v=true/\af a v.J6 (v.J6+v.MB.length-1)=true then v.MB[(a-v.J6).toNat]? else none
def oI (o:Option Int):Int:=match o with|some x=>x|none=>0
abbrev KF (o:Option Int):Res:= .tup [.c (.t (.int .i64 (oI o))),.c (.t (.bool o.isSome))]
theorem viewOk_iff {v:MA}:cw v=true↔(0<=v.J6/\v.J6<=1200)/\(v.MB.length:Int)<=1200-v.J6:=by unfold cw;rw[b9,within_iff,j6]
theorem V59{p:Prop}(h:p:=by
 rw[hv]at hs;rw[b8 s_]
 repeat' ((conv=>whnf);first|refine Or.inl ?_|apply oi|apply fi|intro h|refine ci hs (ai (ai rfl (ai rfl (ai rfl (ai rfl trivial)))) trivial) ?_|exact Y1|refine e_ rfl ?_)):p:=h
theorem V40{p:Prop}(h:p:=by
 repeat' ((conv=>whnf);first|refine Or.inl ?_|apply oi|apply fi|intro h|refine ci hs (ai (ai rfl (ai rfl (ai rfl (ai rfl trivial)))) trivial) ?_|refine ci Rs (ai rfl (ai rfl (ai rfl trivial))) ?_|exact Y1|refine e_ rfl ?_)
 all_goals(rw[w1,hw]at *;simp at *)):p:=h
theorem V13{p:Prop}(h:p:=by
 have hb:=within_iff.1 hw;rw[c7 ⟨rfl,rfl⟩];obtain⟨j,hj⟩:=gt (show 0<=a-v.J6 by omega);obtain⟨x,hx⟩:=ae (l:=v.MB) (k:=j) o_;have w2:IntKind.i64.wrap (a-v.J6)=(j:Int):=by rw[c6 _ o_];exact hj
 rw[hj,d6,hx];repeat' ((conv=>whnf);first|refine Or.inl ?_|apply oi|apply fi|intro h|refine ci hs (ai (ai rfl (ai rfl (ai rfl (ai rfl trivial)))) trivial) ?_|refine ci Rs (ai rfl (ai rfl (ai rfl trivial))) ?_|refine⟨j,aa x,w2,ab hx,?_⟩|exact Y1|refine e_ rfl ?_)
 all_goals try exact absurd hw (by have:=h;rw[w1]at this;simpa using this)):p:=h
theorem dG (v:MA)(a:Int):Sim.Spec prog 22 [.agg v.tr,tvI a] (KF (bZ v a)):=by
 refine ag hΓ aE func22 rfl d_ rfl ?_;have hs:=kA v;have M0:(v.MB.map aa).length=v.MB.length:=s_;unfold bZ
 cases hv:cw v with
 | false=>exact V59
 | true=>
  rw[hv]at hs;have WM:=viewOk_iff.1 hv
  have w1:IntKind.i64.wrap (IntKind.i64.wrap (v.J6+(v.MB.map aa).length)-1)=v.J6+v.MB.length-1:=by rw[M0,c6 (v.J6+v.MB.length) o_,c6 _ o_]
  have Rs:=aW a v.J6 (IntKind.i64.wrap (IntKind.i64.wrap (v.J6+(v.MB.map aa).length)-1))
  cases hw:af a v.J6 (v.J6+v.MB.length-1)with
  | false=>
   rw[b8 s_];have UQ:=Rs;rw[w1,hw]at UQ;rw[<-hw,<-w1]at UQ
   exact V40
  | true=>exact V13
theorem eI (v:MA)(a:Int):Sim.Spec prog 146 [.agg v.tr,tvI a] (KF (bZ v a)):=by
 refine ag hΓ aE func146 rfl d_ rfl ?_;have hs:=oG v;have M0:(v.MB.map aa).length=v.MB.length:=s_;unfold bZ
 cases hv:cw v with
 | false=>exact V59
 | true=>
  rw[hv]at hs;have WM:=viewOk_iff.1 hv
  have w1:IntKind.i64.wrap (IntKind.i64.wrap (v.J6+(v.MB.map aa).length)-1)=v.J6+v.MB.length-1:=by rw[M0,c6 (v.J6+v.MB.length) o_,c6 _ o_]
  have Rs:=aJ a v.J6 (IntKind.i64.wrap (IntKind.i64.wrap (v.J6+(v.MB.map aa).length)-1))
  cases hw:af a v.J6 (v.J6+v.MB.length-1)with
  | false=>
   rw[b8 s_]
   exact V40
  | true=>exact V13
def bN (m:Mr):Bool:=(m.MH.length==1200)&&af m.J6 0 1200&&af m.MC 0 2
theorem rE (m:Mr):Sim.Spec prog 72 [.agg m.tr] (rB (bN m)):=by
 refine ag hΓ aE func72 rfl d_ rfl ?_;have M0:(m.MH.map aa).length=m.MH.length:=s_;unfold bN;repeat' ((conv=>whnf);first|refine Or.inl ?_|apply oi|apply fi|intro h|refine ci (aW _ _ _) (ai rfl (ai rfl (ai rfl trivial))) ?_|exact Y1|refine e_ rfl ?_)
 all_goals(refine⟨congrArg Tr.bool ?_⟩;simp_all;try omega)
theorem kL (m:Mr):Sim.Spec prog 67 [.agg m.tr] (rB (bN m)):=by
 refine ag hΓ aE func67 rfl d_ rfl ?_;have M0:(m.MH.map aa).length=m.MH.length:=s_;unfold bN;repeat' ((conv=>whnf);first|refine Or.inl ?_|apply oi|apply fi|intro h|refine ci (aJ _ _ _) (ai rfl (ai rfl (ai rfl trivial))) ?_|exact Y1|refine e_ rfl ?_)
 all_goals(refine⟨congrArg Tr.bool ?_⟩;simp_all;try omega)
def low (b:UInt8):Bool:=decide (97<=b.toNat)&&decide (b.toNat<=122)
def db (s:List UInt8):Bool:=s.all low&&af s.length 1 8
abbrev HN (s:List UInt8):={k:Nat//k<=s.length/\(s.take k).all low=true}
theorem Cp {α:Type}{p:α->Bool}{s:List α}{k:Nat}{b:α}(h:(s.take k).all p=true)(hb:s[k]?=some b)(hp:p b=true):(s.take (k+1)).all p=true:=by rw[B5,hb];simp_all
theorem EO {α:Type}{p:α->Bool}{s:List α}{k:Nat}{b:α}(hb:s[k]?=some b)(hp:p b=false):s.all p=false:=by
 rw[Bool.eq_false_iff];intro h;rw[o8]at h;rw[h b (c9 hb)]at hp
 cases hp
theorem V18{p:Prop}(h:p:=by
 obtain⟨b,hb⟩:=ae M3;have P4:=b.toNat_lt
 cases PW:low b with
 | false=>
  rw[EO hb PW];unfold low at PW;repeat' ((conv=>whnf);first|refine Or.inl ?_|apply oi|apply fi|intro h|refine⟨k,b,rfl,hb,?_⟩|exact Y2|refine e_ rfl ?_)
  all_goals(exfalso;simp at *;omega)
 | true=>
  have Vo:=Cp hp hb PW;unfold low at PW;repeat' ((conv=>whnf);first|refine Or.inl ?_|apply oi|apply fi|intro h|refine⟨k,b,rfl,hb,?_⟩|exact Y4|refine e_ rfl ?_)
  conv=>whnf
  refine⟨⟨k+1,o_,Vo⟩,?_,KD⟩
  exact Z4):p:=h
theorem xv (s:List UInt8)(hl:s.length<=1099511627775):Sim.Spec prog 210 [tvS s] (rB (db s)):=by
 refine ag hΓ aE func210 rfl d_ rfl ?_;unfold db;repeat' ((conv=>whnf);first|refine Or.inl ?_|apply oi|apply fi|intro h|exact Y1|refine e_ rfl ?_)
 conv=>whnf
 refine⟨HN s,fun k=>⟨[(0,tS s),(3,tI .i64 (k.1:Int))],[],[]⟩,fun k=>s.length-k.1,⟨0,o_,rfl⟩,?_,?_⟩
 ·exact Z1
 intro⟨k,hk,hp⟩;dsimp only;by_cases M3:k<s.length
 ·exact V18
 ·have Nk:s.length<=k:=o_;rw[i7 Nk]at hp;rw[hp];repeat' ((conv=>whnf);first|refine Or.inl ?_|apply oi|apply fi|intro h|refine ci (aW _ _ _) (ai rfl (ai rfl (ai rfl trivial))) ?_|exact Y2|refine e_ rfl ?_)
theorem fI (s:List UInt8)(hl:s.length<=1099511627775):Sim.Spec prog 189 [tvS s] (rB (db s)):=by
 refine ag hΓ aE func189 rfl d_ rfl ?_;unfold db;repeat' ((conv=>whnf);first|refine Or.inl ?_|apply oi|apply fi|intro h|exact Y1|refine e_ rfl ?_)
 conv=>whnf
 refine⟨HN s,fun k=>⟨[(0,tS s),(3,tI .i64 (k.1:Int))],[],[]⟩,fun k=>s.length-k.1,⟨0,o_,rfl⟩,?_,?_⟩
 ·exact Z1
 intro⟨k,hk,hp⟩;dsimp only;by_cases M3:k<s.length
 ·exact V18
 ·have Nk:s.length<=k:=o_;rw[i7 Nk]at hp;rw[hp];repeat' ((conv=>whnf);first|refine Or.inl ?_|apply oi|apply fi|intro h|refine ci (aJ _ _ _) (ai rfl (ai rfl (ai rfl trivial))) ?_|exact Y2|refine e_ rfl ?_)
def behind (p:Option Mo)(x:Mo):Prop:=match p with
 | none=>True
 | some p=>p.MZ<=x.MZ/\(p.MZ=x.MZ->p.ML<=x.L8)
instance (p:Option Mo) (x:Mo):Decidable (behind p x):=by unfold behind;cases p<;>infer_instance
def fE (t:Mz):Bool:=
 if t.J5=0 then af t.MI 0 999&&t.L0==[]
 else if t.J5=7 then af t.MI 0 4&&db t.L0
 else if t.J5=1 then t.MI==0&&db t.L0
 else af t.J5 2 6&&(t.MI==0&&t.L0==[])
theorem qg (t:Mz)(hl:t.L0.length<=1099511627775):Sim.Spec prog 255 [.agg t.tr] (rB (fE t)):=by
 refine ag hΓ aE func255 rfl d_ rfl ?_;have hN:=fI t.L0 hl;unfold fE
 generalize db t.L0=nb at *
 repeat' ((conv=>whnf);first|refine Or.inl ?_|apply oi|apply fi|intro h|refine ci (aJ _ _ _) (ai rfl (ai rfl (ai rfl trivial))) ?_|refine ci hN (ai rfl trivial) ?_|exact Y1|refine e_ rfl ?_)
 all_goals(refine⟨congrArg Tr.bool ?_⟩;simp_all[af];(try(intros;omega));(try((repeat' split)<;>intros<;>omega)))
def ni (t:Mz):Int:=if fE t=false then -1 else if t.J5=7 then t.MI else if t.J5=0\/t.J5=1 then 0 else 2
theorem lI (t:Mz)(hl:t.L0.length<=1099511627775):Sim.Spec prog 228 [.agg t.tr] (rI (ni t)):=by
 refine ag hΓ aE func228 rfl d_ rfl ?_;have hT:=qg t hl;unfold ni
 generalize fE t=nb at *
 repeat' ((conv=>whnf);first|refine Or.inl ?_|apply oi|apply fi|intro h|refine ci hT (ai (ai rfl (ai rfl (ai rfl trivial))) trivial) ?_|exact Y1|refine e_ rfl ?_)
 all_goals(refine⟨congrArg (Tr.int _) ?_⟩;simp_all)
def ar (t:Mz):Nat:=(ni t).toNat
theorem yK {t:Mz}(h:fE t=true):ni t=(ar t:Int)/\ar t<=4:=by
 unfold ar ni;rw[b8 aaM];unfold fE at h;split
 ·rename_i h7;rw[b8 o_,c7 h7]at h;simp only[b9,within_iff]at h;omega
 ·split<;>omega
def endL:List Mz->Nat->Nat->Option Nat
 | _,p,0=>some p
 | [],_,_+1=>none
 | t::l,p,n+1=>if fE t=true then endL l (p+1) (n+ar t)else none
def cS (o:Option Nat):Int:=match o with|some e=>e|none=> -1
def gr (l:List Mz)(p:Int):Int:=if 0<=p then cS (endL (l.drop p.toNat) p.toNat 1)else -1
theorem JC {l:List Mz}{p n:Nat}{t:Mz}(h:l[p]?=some t):endL (l.drop p) p (n+1)=if fE t=true then endL (l.drop (p+1)) (p+1) (n+ar t)else none:=by rw[cJ h,endL]
abbrev LQ (l:List Mz)(R:Int):={q:Nat×Nat//q.1<=l.length/\q.2<=1+4*q.1/\cS (endL (l.drop q.1) q.1 q.2)=R}
def jv (l:List Mz):Prop:=∀t∈l,t.L0.length<=1099511627775
theorem jD (l:List Mz)(p:Int)(hl:l.length<=1048576)(hn:jv l):Sim.Spec prog 238 [tvL 3 (l.map Mz.tr),tvI p] (rI (gr l p)):=by
 refine ag hΓ aE func238 rfl d_ rfl ?_;have M0:(l.map Mz.tr).length=l.length:=s_;by_cases h0:0<=p
 ·obtain⟨p,rfl⟩:=gt h0;obtain⟨R,hR⟩:∃R,gr l (p:Int)=R:=⟨_,rfl⟩;rw[hR];rw[gr,c7 h0,d6]at hR;by_cases hlp:p<=l.length
  ·repeat' ((conv=>whnf);first|refine Or.inl ?_|apply oi|apply fi|intro h|exact Y2|refine e_ rfl ?_)
   conv=>whnf
   refine⟨LQ l R,fun q=>⟨[(0,.r (.c (.t (.lst 3 (l.map Mz.tr))))),(1,tI .i64 (q.1.1:Int)),(5,tI .i64 (q.1.2:Int))],[],[]⟩,fun q=>l.length-q.1.1,⟨(p,1),o_,o_,hR⟩,?_,?_⟩
   ·exact Z1
   intro⟨⟨a,n⟩,ha,Xr,hr⟩;dsimp only at ha Xr hr⊢
   cases n with
   | zero=>
    have:R=(a:Int):=by
     rw[<-hr]
     cases l.drop a<;>rfl
    subst this
    exact Z3
   | succ n=>
    by_cases M3:a<l.length
    ·obtain⟨t,ht⟩:=ae M3;rw[JC ht]at hr;have hT:=qg t (hn t (c9 ht));have hA:=lI t (hn t (c9 ht))
     cases M5:fE t with
     | false=>
      rw[M5]at hT;rw[b8 (by simp[M5])]at hr;subst hr
      repeat' ((conv=>whnf);first|refine Or.inl ?_|apply oi|apply fi|intro h|refine⟨a,t.tr,rfl,ab ht,?_⟩|refine ci hT (ai (ai rfl (ai rfl (ai rfl trivial))) trivial) ?_|exact Y2|refine e_ rfl ?_)
     | true=>
      obtain⟨e1,e2⟩:=yK M5;rw[e1]at hA;rw[M5]at hT;rw[c7 M5]at hr;repeat' ((conv=>whnf);first|refine Or.inl ?_|apply oi|apply fi|intro h|refine⟨a,t.tr,rfl,ab ht,?_⟩|refine ci hT (ai (ai rfl (ai rfl (ai rfl trivial))) trivial) ?_|refine ci hA (ai (ai rfl (ai rfl (ai rfl trivial))) trivial) ?_|exact Y2|refine e_ rfl ?_)
      conv=>whnf
      refine⟨⟨(a+1,n+ar t),g_,g_,hr⟩,?_,KD⟩;repeat' ((conv=>whnf);first|refine Or.inl ?_|apply oi|apply fi|intro h|exact Y3|refine e_ rfl ?_)
      all_goals try exact⟨by dsimp only;congr 1;rw[c6 _ o_];omega⟩
      all_goals exact⟨congrArg (Tr.int _) (by dsimp only;simp(disch:=omega)only[c6];omega)⟩
    ·rw[m9 o_,endL]at hr;subst hr;exact Z3
  ·rw[m9 o_,endL]at hR;subst hR;repeat' ((conv=>whnf);first|refine Or.inl ?_|apply oi|apply fi|intro h|exact Y2|refine e_ rfl ?_)
   conv=>whnf
   refine⟨Unit,fun q=>⟨[(0,.r (.c (.t (.lst 3 (l.map Mz.tr))))),(1,tI .i64 (p:Int)),(5,tI .i64 1)],[],[]⟩,fun q=>0,(),?_,?_⟩
   ·exact Z1
   intro q;exact Z3
 ·have he:gr l p= -1:=by rw[gr,b8 h0]
  rw[he];exact Z3
def bz (l:List Mz):Bool:=decide (l.length<=20)&&(decide (0<l.length)&&gr l 0==(l.length:Int))
theorem ox (l:List Mz)(hl:l.length<=1048576)(hn:jv l):Sim.Spec prog 191 [tvL 3 (l.map Mz.tr)] (rB (bz l)):=by
 refine ag hΓ aE func191 rfl d_ rfl ?_;have M0:(l.map Mz.tr).length=l.length:=s_;have hE:=jD l 0 hl hn;unfold bz
 generalize gr l 0=e at *
 repeat' ((conv=>whnf);first|refine Or.inl ?_|apply oi|apply fi|intro h|refine ci hE (ai rfl (ai rfl trivial)) ?_|exact Y1|refine e_ rfl ?_)
 all_goals(refine⟨congrArg Tr.bool ?_⟩;simp_all;try omega)
def iL {α:Type}[BEq α]:List α->Nat->α->Option Nat
 | [],_,_=>none
 | x::l,i,s=>if(x==s)=true then some i else iL l (i+1) s
theorem JF {α:Type}[BEq α]{l:List α}{i:Nat}{x s:α}(hx:l[i]?=some x):iL (l.drop i) i s=if(x==s)=true then some i else iL (l.drop (i+1)) (i+1) s:=by rw[cJ hx,iL]
theorem nH {α:Type}[BEq α]:∀{l:List α} {i k:Nat} {s:α},iL l i s=some k->i<=k/\k<i+l.length
 | [],_,_,_,h=>by rw[iL]at h;cases h
 | x::l,i,k,s,h=>by
  rw[iL]at h;simp only[d5];split at h
  ·injection h with h;omega
  ·have:=nH h;omega
theorem wa {α:Type}[BEq α][LawfulBEq α]:∀{l:List α} {i:Nat} {s:α},(iL l i s).isSome=l.contains s
 | [],_,_=>rfl
 | x::l,i,s=>by
  rw[iL,List.contains_cons]
  cases h:(x==s)with
  | true=>rw[c7 rfl];simp[B2 h]
  | false=>have h2:(s==x)=false:=(by rw[A2]at h⊢;exact fun e=>h e.symm);rw[b8 s_,h2,C9];exact wa
def dJ {α:Type}[BEq α](l:List α)(s:α):Int:=cS (iL l 0 s)
theorem xH {α:Type}[BEq α][LawfulBEq α]{l:List α}{s:α}:decide (0<=dJ l s)=l.contains s:=by
 rw[<-wa (i:=0),dJ]
 cases iL l 0 s with|none=>rfl|some k=>simp[cS]
def zU (l:List (List UInt8)):Nat->Nat->Bool
 | 0,_=>true
 | n+1,k=>match l[k]? with
  | some s=>if db s=true/\(l.take k).contains s=false then zU l n (k+1)else false
  | none=>true
theorem V120{p:Prop}(h:p:=by
 rcases m5 k l.length with h|h
 ·exact h
 ·rw[e9 h]at hx;cases hx):p:=h
theorem FU {l:List (List UInt8)}{k:Nat}{s:List UInt8}(hx:l[k]?=some s):zU l (l.length-k) k=if db s=true/\(l.take k).contains s=false then zU l (l.length-(k+1)) (k+1)else false:=by
 have hk:k<l.length:=by exact V120
 rw[show l.length-k=(l.length-(k+1))+1 by omega,zU,hx]
def uF (l:List (List UInt8)):Bool:=zU l l.length 0&&decide (l.length<=4)
def jr (k:Int):Bool:=k==1||(k==2||(k==3||(k==5||k==6)))
theorem qh (k:Int)(hk:af k 0 7=true):Sim.Spec prog 190 [tvI k] (rB (jr k)):=by
 refine ag hΓ aE func190 rfl d_ rfl ?_;have:=within_iff.1 hk;unfold jr;repeat' ((conv=>whnf);first|refine Or.inl ?_|apply oi|apply fi|intro h|exact Y1|refine e_ rfl ?_)
 all_goals(refine⟨congrArg Tr.bool ?_⟩;simp_all;(try(rw[A0];simp;done));(try(rw[A0];simp;omega)))
def dh (x:Mq):Bool:=af x.J5 0 7&&((if x.J5=0\/x.J5=1 then db x.L0 else x.L0==[])&&((if x.J5=0 then uF x.L9 else x.L9.length==0)&&(if jr x.J5=true then bz x.L5 else x.L5.length==0)))
theorem fT {x:Mq}(hs:az 1048576 x.tr):x.L0.length<=1048576/\x.L9.length<=1048576/\(∀y∈x.L9,y.length<=1048576)/\x.L5.length<=1048576/\(∀y∈x.L5,y.L0.length<=1048576):=by
 simp only[Mq.tr,az]at hs;obtain⟨_,h1,h2,h3,_⟩:=hs;have e1:=nI h2;have e2:=nI h3;refine⟨by rw[ao]at h1;omega,o_,fun y hy=>?_,o_,fun y hy=>?_⟩
 ·have:=aZ h2 hy;simp only[aq,az,ao]at this;omega
 ·have:=aZ h3 hy;simp only[Mz.tr,az,ao]at this;omega
theorem AQ {x:Mq}(h:af x.J5 0 7=false):dh x=false:=by unfold dh;rw[h];rfl
theorem sN {x:Mq}(h:4<x.L9.length):dh x=false:=by
 have h1:uF x.L9=false:=by unfold uF;rw[B6 o_,D2]
 have h2:(x.L9.length==0)=false:=by rw[A2];omega
 unfold dh;rw[h1,h2];split<;>simp
theorem Hi {l:List (List UInt8)}{k i:Nat}{y s:List UInt8}(hi:i<k)(hy:l[i]?=some y):((l.take k).drop i).contains s=(s==y||((l.take k).drop (i+1)).contains s):=by rw[cJ (x:=y) (by rw[n3,c7 hi];exact hy),List.contains_cons]
theorem HX {x:Mq}(hk:af x.J5 0 7=true)(h0:x.J5=0)(ha:x.L9.length<=4):dh x=(zU x.L9 x.L9.length 0&&(db x.L0&&x.L5.length==0)):=by
 unfold dh uF;rw[hk,c7 (.inl h0),c7 h0,b8 (by rw[h0];decide),q7 ha]
 cases db x.L0<;>cases zU x.L9 x.L9.length 0<;>simp
theorem HK {x:Mq}(hk:af x.J5 0 7=true)(h0:x.J5≠0):dh x=(x.L9.length==0&&((if x.J5=1 then db x.L0 else x.L0==[])&&(if jr x.J5=true then bz x.L5 else x.L5.length==0))):=by
 have e:(if x.J5=0\/x.J5=1 then db x.L0 else x.L0==[])=(if x.J5=1 then db x.L0 else x.L0==[]):=by
  by_cases h1:x.J5=1
  ·rw[c7 (.inr h1),c7 h1]
  ·rw[b8 o_,b8 h1]
 unfold dh;rw[hk,b8 h0,e,n7];generalize(if x.J5=1 then db x.L0 else x.L0==[])=a;generalize(if jr x.J5=true then bz x.L5 else x.L5.length==0)=b
 cases a<;>cases(x.L9.length==0)<;>simp
theorem EC (n:Nat):((n:Int)==0)=(n==0):=by rw[A0];simp
abbrev Lq (x:Mq):AO:= .box (x.tr.map .t)
theorem V83{p:Prop}(h:p:=by
 repeat' ((conv=>whnf);first|refine Or.inl ?_|apply oi|apply fi|intro h|refine ci hB (ai rfl (ai rfl (ai rfl trivial))) ?_|exact Y2|refine e_ rfl ?_)):p:=h
theorem Q6{p:Prop}(h:p:=by exfalso;simp_all;first|done|fail):p:=h
theorem oH (x:Mq)(hs:az 1048576 x.tr):Sim.Spec prog 119 [.agg x.tr] (rB (dh x)):=by
 refine ag hΓ aE func119 rfl d_ rfl ?_;obtain⟨h1,h2,h3,h4,h5⟩:=fT hs;have hB:=aJ x.J5 0 7;have hN:=fI x.L0 o_;have hE:=ox x.L5 h4 (fun y hy=>by have:=h5 y hy;omega);have RF:(x.L9.map aq).length=x.L9.length:=s_;have OQ:(x.L5.map Mz.tr).length=x.L5.length:=s_
 cases hk:af x.J5 0 7 with
 | false=>
  rw[hk]at hB;rw[AQ hk]
  exact V83
 | true=>
  rw[hk]at hB;have hH:=qh x.J5 hk;by_cases ha:x.L9.length<=4
  ·by_cases h0:x.J5=0
   ·rw[HX hk h0 ha]
    generalize db x.L0=b2 at *
    generalize bz x.L5=b5 at *
    obtain⟨A,hA⟩:∃A,zU x.L9 x.L9.length 0=A:=⟨_,rfl⟩;rw[hA];have WB:jr x.J5=false:=(by rw[h0];rfl);rw[WB]at hH;repeat' ((conv=>whnf);first|refine Or.inl ?_|apply oi|apply fi|intro h|refine ci hB (ai rfl (ai rfl (ai rfl trivial))) ?_|exact Y2|refine e_ rfl ?_)
    conv=>whnf
    refine⟨{k:Nat//k<=x.L9.length/\zU x.L9 (x.L9.length-k) k=A},fun q=>⟨[(1,.r (.c (.ptr (1,0,0) 0))),(3,tI .i64 (q.1:Int))],[((1,0,0),some (Lq x))],[1]⟩,fun q=>x.L9.length-q.1,⟨0,o_,by rw[y7];exact hA⟩,?_,?_⟩
    ·exact Z1
    intro⟨k,NL,hr⟩;dsimp only at NL hr⊢;by_cases M3:k<x.L9.length
    ·obtain⟨s,P3⟩:=ae M3;rw[FU P3]at hr;have TN:=fI s (by have:=h3 s (c9 P3);omega)
     cases Nm:db s with
     | false=>
      rw[Nm]at TN hr;rw[b8 s_]at hr;subst hr
      repeat' ((conv=>whnf);first|refine Or.inl ?_|apply oi|apply fi|intro h|refine ci TN (ai rfl trivial) ?_|refine⟨k,(aq s),rfl,ab P3,?_⟩|exact Y2|refine e_ rfl ?_)
     | true=>
      rw[Nm]at TN hr;obtain⟨C,hC⟩:∃C,(x.L9.take k).contains s=C:=⟨_,rfl⟩;rw[hC]at hr;repeat' ((conv=>whnf);first|refine Or.inl ?_|apply oi|apply fi|intro h|refine ci TN (ai rfl trivial) ?_|refine⟨k,(aq s),rfl,ab P3,?_⟩|exact Y2|refine e_ rfl ?_)
      all_goals try exact Q2
      conv=>whnf
      refine⟨{i:Nat//i<=k/\((x.L9.take k).drop i).contains s=C},fun q=>⟨[(1,.r (.c (.ptr (1,0,0) 0))),(3,tI .i64 (k:Int)),(4,tI .i64 (q.1:Int))],[((1,0,0),some (Lq x))],[1]⟩,fun q=>k-q.1,⟨0,o_,hC⟩,?_,?_⟩
      ·exact Z1
      intro⟨i,O9,hc⟩;dsimp only at O9 hc⊢;by_cases N6:i<k
      ·obtain⟨y,hy⟩:=ae (l:=x.L9) (k:=i) o_;rw[Hi N6 hy]at hc;by_cases WJ:s=y
       ·subst WJ;rw[I7,Bool.true_or]at hc;subst hc;rw[b8 s_]at hr;subst hr;repeat' ((conv=>whnf);first|refine Or.inl ?_|apply oi|apply fi|intro h|refine⟨i,(aq s),rfl,ab hy,?_⟩|refine⟨k,(aq s),rfl,ab P3,?_⟩|exact Y2|refine e_ rfl ?_)
        all_goals try exact Q2
       ·rw[A2.2 WJ,C9]at hc;repeat' ((conv=>whnf);first|refine Or.inl ?_|apply oi|apply fi|intro h|refine⟨i,(aq y),rfl,ab hy,?_⟩|refine⟨k,(aq s),rfl,ab P3,?_⟩|exact Y2|refine e_ rfl ?_)
        all_goals try(exfalso;apply WJ;simp_all;done)
        conv=>whnf
        refine⟨⟨i+1,o_,hc⟩,?_,KD⟩;exact Z4
      ·rw[m9 aab]at hc;have hc:false=C:=hc;subst hc;rw[c7 ⟨rfl,rfl⟩]at hr;repeat' ((conv=>whnf);first|refine Or.inl ?_|apply oi|apply fi|intro h|exact Y2|refine e_ rfl ?_)
       conv=>whnf
       refine⟨⟨k+1,o_,hr⟩,?_,KD⟩;exact Z4
    ·rw[show x.L9.length-k=0 by omega]at hr;have hr:true=A:=hr;subst hr;repeat' ((conv=>whnf);first|refine Or.inl ?_|apply oi|apply fi|intro h|refine ci hN (ai rfl trivial) ?_|refine ci hH (ai rfl trivial) ?_|refine ci hE (ai rfl trivial) ?_|exact Y2|refine e_ rfl ?_)
     all_goals try exact Q2
     all_goals(refine⟨congrArg Tr.bool ?_⟩;simp_all;(try exact EC _))
   ·rw[HK hk h0]
    generalize db x.L0=b2 at *
    generalize bz x.L5=b5 at *
    generalize jr x.J5=b4 at *
    repeat' ((conv=>whnf);first|refine Or.inl ?_|apply oi|apply fi|intro h|refine ci hB (ai rfl (ai rfl (ai rfl trivial))) ?_|exact Y2|refine e_ rfl ?_)
    conv=>whnf
    refine⟨Unit,fun q=>⟨[(1,.r (.c (.ptr (1,0,0) 0))),(3,tI .i64 0)],[((1,0,0),some (Lq x))],[1]⟩,fun q=>0,(),?_,?_⟩
    ·exact Z1
    intro q;dsimp only;by_cases M3:0<x.L9.length
    ·obtain⟨s,P3⟩:=ae M3;have TN:=fI s (by have:=h3 s (c9 P3);omega);rw[show(x.L9.length==0)=false by rw[A2];omega];repeat' ((conv=>whnf);first|refine Or.inl ?_|apply oi|apply fi|intro h|refine ci TN (ai rfl trivial) ?_|refine⟨0,(aq s),rfl,ab P3,?_⟩|exact Y2|refine e_ rfl ?_)
     all_goals try exact Q2
     all_goals try exact Q6
    ·have hz:x.L9.length=0:=o_;rw[show(x.L9.length==0)=true by rw[hz];rfl];rw[hz]at RF;repeat' ((conv=>whnf);first|refine Or.inl ?_|apply oi|apply fi|intro h|refine ci hN (ai rfl trivial) ?_|refine ci hH (ai rfl trivial) ?_|refine ci hE (ai rfl trivial) ?_|exact Y1|refine e_ rfl ?_)
     all_goals try exact Q6
     all_goals(refine⟨congrArg Tr.bool ?_⟩;simp_all;(try exact EC _);(try(rw[A0];simp;omega)))
  ·rw[sN o_];exact V83
def dT (k:Int):Bool:=k==0||(k==3||k==5)
theorem opensK_iff {k:Int}:dT k=true↔k=0\/k=3\/k=5:=by simp[dT]
def endN:List Mq->Nat->Nat->Option Nat
 | [],_,_=>none
 | x::l,i,o=>if dT x.J5=true then endN l (i+1) (o+1)else if x.J5=7 then(if o=1 then some i else endN l (i+1) (o-1))else endN l (i+1) o
def endAt (l:List Mq)(k:Nat):Option Nat:=match l[k]? with
 | some x=>if dT x.J5=true then endN (l.drop (k+1)) (k+1) 1 else none
 | none=>none
def cB (l:List Mq)(k:Int):Int:=if 0<=k then cS (endAt l k.toNat)else -1
theorem dN {l:List Mq}{i o:Nat}{x:Mq}(h:l[i]?=some x):endN (l.drop i) i o=if dT x.J5=true then endN (l.drop (i+1)) (i+1) (o+1)else if x.J5=7 then(if o=1 then some i else endN (l.drop (i+1)) (i+1) (o-1))else endN (l.drop (i+1)) (i+1) o:=by rw[cJ h,endN]
theorem lj {l:List Mq}{i o:Nat}(h:l.length<=i):endN (l.drop i) i o=none:=by rw[m9 h,endN]
theorem uG:∀{l:List Mq} {i o e:Nat},endN l i o=some e->i<=e/\e<i+l.length
 | [],_,_,_,h=>by rw[endN]at h;cases h
 | x::l,i,o,e,h=>by
  rw[endN]at h;simp only[d5];split at h
  ·have:=uG h;omega
  ·split at h
   ·split at h
    ·injection h with h;omega
    ·have:=uG h;omega
   ·have:=uG h;omega
theorem jq {l:List Mq}{i o e:Nat}(h:endN (l.drop i) i o=some e):i<=e/\e<l.length:=by have:=uG h;rw[r7]at this;omega
theorem nz:∀{l:List Mq} {i:Nat} (n:Nat) {a b:Nat},l.length-i<=n->1<=a->1<=b->endN (l.drop i) i (a+b)=(endN (l.drop i) i b).bind fun m=>endN (l.drop (m+1)) (m+1) a
 | l,i,0,a,b,hn,_,_=>by rw[lj o_,lj o_];rfl
 | l,i,n+1,a,b,hn,ha,hb=>by
  by_cases hi:i<l.length
  ·obtain⟨x,hx⟩:=ae hi;rw[dN hx,dN hx];split
   ·rw[show a+b+1=a+(b+1) by omega];exact nz n o_ ha o_
   ·split
    ·rw[b8 o_];by_cases h1:b=1
     ·subst h1;rw[c7 rfl];rfl
     ·rw[b8 h1,show a+b-1=a+(b-1) by omega];exact nz n o_ ha o_
    ·exact nz n o_ ha hb
  ·rw[lj o_,lj o_];rfl
theorem oo:∀{l:List Mq} {i:Nat} (n:Nat) {o e:Nat},l.length-i<=n->endN (l.drop i) i o=some e->∃x,l[e]?=some x/\x.J5=7
 | l,i,0,o,e,hn,h=>by rw[lj o_]at h;cases h
 | l,i,n+1,o,e,hn,h=>by
  by_cases hi:i<l.length
  ·obtain⟨x,hx⟩:=ae hi;rw[dN hx]at h;split at h
   ·exact oo n o_ h
   ·split at h
    ·split at h
     ·injection h with h;subst h;exact⟨x,hx,by assumption⟩
     ·exact oo n o_ h
    ·exact oo n o_ h
  ·rw[lj o_]at h;cases h
theorem aN {l:List Mq}{k e:Nat}(h:endAt l k=some e):∃x,l[k]?=some x/\dT x.J5=true/\endN (l.drop (k+1)) (k+1) 1=some e/\k<e/\e<l.length:=by
 unfold endAt at h;split at h
 ·rename_i x hx;split at h
  ·rename_i ho;have:=jq h;exact⟨x,hx,ho,h,o_,o_⟩
  ·cases h
 ·cases h
theorem qw {l:List Mq}{k:Nat}{x:Mq}(hx:l[k]?=some x)(ho:dT x.J5=true):endAt l k=endN (l.drop (k+1)) (k+1) 1:=by unfold endAt;rw[hx];dsimp only;rw[c7 ho]
theorem bR {l:List Mq}{k e:Nat}(h:endAt l k=some e):∃x,l[e]?=some x/\x.J5=7:=by obtain⟨_,_,_,h,_⟩:=aN h;exact oo _ (d8 _) h
theorem qs:∀{l:List Mq} (n:Nat) {s o e i:Nat},i-s<=n->1<=o->endN (l.drop s) s o=some e->s<=i->i<=e->∃o',1<=o'/\endN (l.drop i) i o'=some e
 | l,0,s,o,e,i,hn,ho,h,h1,h2=>by
  have:s=i:=o_;subst this
  exact⟨o,ho,h⟩
 | l,n+1,s,o,e,i,hn,ho,h,h1,h2=>by
  by_cases hs:s=i
  ·subst hs;exact⟨o,ho,h⟩
  have hl:=jq h;obtain⟨x,hx⟩:=ae (l:=l) (k:=s) o_;rw[dN hx]at h;split at h
  ·exact qs n o_ o_ h o_ h2
  ·split at h
   ·split at h
    ·injection h with h;omega
    ·exact qs n o_ o_ h o_ h2
   ·exact qs n o_ ho h o_ h2
theorem jx {l:List Mq}{k e i:Nat}{x:Mq}(h:endAt l k=some e)(h1:k<i)(h2:i<e)(hx:l[i]?=some x)(ho:dT x.J5=true):∃m,endAt l i=some m/\i<m/\m<e:=by
 obtain⟨_,_,_,he,_,M3⟩:=aN h;obtain⟨o,ZL,O1⟩:=qs _ (d8 _) (d8 1) he (by omega:k+1<=i) o_;rw[dN hx,c7 ho,nz _ (d8 _) ZL (d8 1)]at O1
 cases hm:endN (l.drop (i+1)) (i+1) 1 with
 | none=>rw[hm]at O1;cases O1
 | some m=>rw[hm]at O1;have h3:=jq hm;have h4:=jq (show endN (l.drop (m+1)) (m+1) o=some e from O1);exact⟨m,by rw[qw hx ho];exact hm,o_,o_⟩
theorem cD {l:List Mq}{k:Nat}:cB l (k:Int)=cS (endAt l k):=by rw[cB,c7 o_,d6]
theorem bY {o:Option Nat}{n:Nat}(h:o=some n):cS o=(n:Int):=by rw[h];rfl
theorem sr {o:Option Nat}(h:o=none):cS o= -1:=by rw[h];rfl
def elseN (l:List Mq)(e:Nat):Nat->Nat->Option Nat
 | 0,_=>none
 | n+1,i=>if i<e then(match l[i]? with
  | some x=>if x.J5=4 then some i else if x.J5=3\/x.J5=5 then(match endAt l i with
   | some m=>elseN l e n (m+1)
   | none=>elseN l e n (i+1))else elseN l e n (i+1)
  | none=>none)else none
def elseAt (l:List Mq)(k:Nat):Option Nat:=match l[k]?,endAt l k with
 | some x,some e=>if x.J5=3 then elseN l e (e-(k+1)) (k+1)else none
 | _,_=>none
def cG (l:List Mq)(k:Int):Int:=if 0<=k then cS (elseAt l k.toNat)else -1
theorem iw {l:List Mq}{e:Nat}:∀{n m i:Nat},e-i<=n->e-i<=m->elseN l e n i=elseN l e m i
 | 0,0,_,_,_=>rfl
 | 0,m+1,i,h1,h2=>by rw[elseN,elseN,b8 o_]
 | n+1,0,i,h1,h2=>by rw[elseN,elseN,b8 o_]
 | n+1,m+1,i,h1,h2=>by
  rw[elseN,elseN];by_cases hi:i<e
  ·rw[c7 hi,c7 hi]
   cases hx:l[i]? with
   | none=>rfl
   | some x=>
    dsimp only;split
    ·rfl
    ·split
     ·cases hm:endAt l i with
      | none=>exact iw o_ o_
      | some m'=>have:=aN hm;obtain⟨_,_,_,_,h3,_⟩:=this;exact iw o_ o_
     ·exact iw o_ o_
  ·rw[b8 hi,b8 hi]
theorem Dz {l:List Mq}{e i:Nat}{x:Mq}(hi:i<e)(hx:l[i]?=some x):elseN l e (e-i) i=if x.J5=4 then some i else if x.J5=3\/x.J5=5 then(match endAt l i with
   | some m=>elseN l e (e-(m+1)) (m+1)
   | none=>elseN l e (e-(i+1)) (i+1))else elseN l e (e-(i+1)) (i+1):=by
 obtain⟨n,hn⟩:∃n,e-i=n+1:=⟨e-i-1,o_⟩;rw[hn,elseN,c7 hi,hx];dsimp only;split
 ·rfl
 ·split
  ·cases hm:endAt l i with
   | none=>exact iw o_ o_
   | some m=>obtain⟨_,_,_,_,h3,_⟩:=aN hm;exact iw o_ o_
  ·exact iw o_ o_
theorem FP {l:List Mq}{e i n:Nat}(hi:e<=i):elseN l e n i=none:=by cases n with|zero=>rfl|succ n=>rw[elseN,b8 o_]
theorem nC {l:List Mq}{e:Nat}:∀{n i j:Nat},elseN l e n i=some j->i<=j/\j<e/\∃x,l[j]?=some x/\x.J5=4
 | 0,_,_,h=>by rw[elseN]at h;cases h
 | n+1,i,j,h=>by
  rw[elseN]at h;split at h
  ·rename_i hi;split at h
   ·rename_i x hx;split at h
    ·injection h with h;subst h;exact⟨o_,hi,x,hx,by assumption⟩
    ·split at h
     ·split at h
      ·rename_i m hm;obtain⟨_,_,_,_,h3,_⟩:=aN hm;have:=nC h;exact⟨o_,this.2⟩
      ·have:=nC h;exact⟨o_,this.2⟩
     ·have:=nC h;exact⟨o_,this.2⟩
   ·cases h
  ·cases h
theorem bA {l:List Mq}{k j:Nat}(h:elseAt l k=some j):∃x e,l[k]?=some x/\x.J5=3/\endAt l k=some e/\k<j/\j<e/\∃y,l[j]?=some y/\y.J5=4:=by
 unfold elseAt at h;split at h
 ·rename_i x e hx he;split at h
  ·rename_i h3;have:=nC h;exact⟨x,e,hx,h3,he,o_,this.2⟩
  ·cases h
 ·cases h
def funsF:List Mq->Nat->List Nat
 | [],_=>[]
 | x::l,i=>(if x.J5=0 then [i]else [])++funsF l (i+1)
def aA (l:List Mq):List Nat:=funsF l 0
theorem Bc {l:List Mq}{i:Nat}{x:Mq}(hx:l[i]?=some x):funsF (l.drop i) i=(if x.J5=0 then [i]else [])++funsF (l.drop (i+1)) (i+1):=by rw[cJ hx,funsF]
theorem V98{p:Prop}(h:p:=by
 refine⟨o_,by simp only[d5];omega,y,?_,hk⟩;rw[show k-i=(k-(i+1))+1 by omega,l4]
 exact hy):p:=h
theorem vk:∀{l:List Mq} {i k:Nat},k∈funsF l i->i<=k/\k<i+l.length/\∃x,l[k-i]?=some x/\x.J5=0
 | [],_,_,h=>by simp[funsF]at h
 | x::l,i,k,h=>by
  rw[funsF,f0]at h;rcases h with h|h
  ·split at h
   ·simp only[d7,l9,or_false]at h;subst h;exact⟨o_,s_,x,s_,by assumption⟩
   ·cases h
  ·obtain⟨h1,h2,y,hy,hk⟩:=vk h;exact V98
theorem nU {l:List Mq}{k:Nat}(h:k∈aA l):k<l.length/\∃x,l[k]?=some x/\x.J5=0:=by have:=vk h;simpa using this.2
def findN:List Mq->Nat->List UInt8->Option Nat
 | [],_,_=>none
 | x::l,i,s=>if x.J5=0/\x.L0=s then some i else findN l (i+1) s
def md (l:List Mq)(s:List UInt8):Int:=cS (findN l 0 s)
theorem Hj {l:List Mq}{i:Nat}{x:Mq}{s:List UInt8}(hx:l[i]?=some x):findN (l.drop i) i s=if x.J5=0/\x.L0=s then some i else findN (l.drop (i+1)) (i+1) s:=by rw[cJ hx,findN]
theorem wM:∀{l:List Mq} {i k:Nat} {s:List UInt8},findN l i s=some k->i<=k/\k<i+l.length/\∃x,l[k-i]?=some x/\x.J5=0/\x.L0=s
 | [],_,_,_,h=>by rw[findN]at h;cases h
 | x::l,i,k,s,h=>by
  rw[findN]at h;split at h
  ·injection h with h;subst h;exact⟨o_,s_,x,s_,by assumption⟩
  ·obtain⟨h1,h2,y,hy,hk⟩:=wM h;exact V98
theorem ig {l:List Mq}{k:Nat}{s:List UInt8}(h:findN l 0 s=some k):k<l.length/\∃x,l[k]?=some x/\x.J5=0/\x.L0=s:=by have:=wM h;simpa using this.2
def gg (acc:List (List UInt8))(s:List UInt8):List (List UInt8):=if acc.contains s=true then acc else acc++[s]
def locN (l:List Mq)(e:Nat):Nat->Nat->List (List UInt8)->List (List UInt8)
 | 0,_,acc=>acc
 | n+1,i,acc=>if i<e then(match l[i]? with
  | some x=>locN l e n (i+1) (if x.J5=1 then gg acc x.L0 else acc)
  | none=>acc)else acc
def localsOf (l:List Mq)(k:Int):List (List UInt8):=if 0<=k then(match l[k.toNat]?,endAt l k.toNat with
 | some x,some e=>if x.J5=0 then locN l e (e-k.toNat) k.toNat x.L9 else []
 | _,_=>[])else []
theorem Gx {l:List Mq}{e i:Nat}{x:Mq}{acc:List (List UInt8)}(hi:i<e)(hx:l[i]?=some x):locN l e (e-i) i acc=locN l e (e-(i+1)) (i+1) (if x.J5=1 then gg acc x.L0 else acc):=by rw[show e-i=(e-(i+1))+1 by omega,locN,c7 hi,hx]
theorem IU {l:List Mq}{e i n:Nat}{acc:List (List UInt8)}(hi:e<=i):locN l e n i acc=acc:=by cases n with|zero=>rfl|succ n=>rw[locN,b8 o_]
theorem BM (acc:List (List UInt8))(s:List UInt8):(gg acc s).length<=acc.length+1:=by unfold gg;split<;>simp
theorem BR {l:List Mq}{e:Nat}:∀(n i:Nat) (acc:List (List UInt8)),(locN l e n i acc).length<=acc.length+n
 | 0,_,_=>by simp[locN]
 | n+1,i,acc=>by
  rw[locN];split
  ·split
   ·refine v6 (BR n _ _) ?_;split
    ·have:=BM acc (by assumption:Mq).L0;omega
    ·omega
   ·omega
  ·omega
def cO (l:List Mq)(locals:List (List UInt8))(t:Mz):Bool:=
 if t.J5=1 then locals.contains t.L0
 else if t.J5=7 then(match findN l 0 t.L0 with
  | some f=>(match l[f]? with|some x=>(x.L9.length:Int)==t.MI|none=>false)
  | none=>false)
 else true
def eF (l:List Mq)(locals:List (List UInt8))(ts:List Mz):Bool:=ts.all (cO l locals)
def dep (x:Mq)(d:Nat):Nat:=if x.J5=3\/x.J5=5 then d+1 else if x.J5=7 then d-1 else d
def mP (l:List Mq)(locals:List (List UInt8))(e:Nat):Nat->Nat->Nat->Bool
 | 0,_,_=>true
 | n+1,i,d=>if i<e then(match l[i]? with
  | some x=>if x.J5=0 then false else
   if dep x d<=4/\eF l locals x.L5=true then mP l locals e n (i+1) (dep x d)else false
  | none=>false)else true
def anyE (l:List Mq)(i:Nat):Nat->Nat->Bool
 | 0,_=>false
 | n+1,j=>(elseAt l j==some i)||anyE l i n (j+1)
theorem qp {l:List Mq}{i:Nat}:∀{n j:Nat},anyE l i n j=true↔∃k,j<=k/\k<j+n/\elseAt l k=some i
 | 0,j=>by
  rw[anyE]
  exact⟨fun h=>(by cases h),fun⟨k,h1,h2,_⟩=>o_⟩
 | n+1,j=>by
  rw[anyE,w5,qp,w9];constructor
  ·rintro(h|⟨k,h1,h2,h3⟩)
   ·exact⟨j,o_,o_,h⟩
   ·exact⟨k,o_,o_,h3⟩
  ·rintro⟨k,h1,h2,h3⟩;by_cases hk:k=j
   ·subst hk;exact .inl h3
   ·exact .inr ⟨k,o_,o_,h3⟩
def elsesIn (l:List Mq)(k e:Nat):Nat->Nat->Bool
 | 0,_=>true
 | n+1,i=>if i<e then(match l[i]? with
  | some x=>(if x.J5=4 then anyE l i (i-k) k else true)&&elsesIn l k e n (i+1)
  | none=>true)else true
theorem iN {l:List Mq}{k e:Nat}:∀{n i:Nat},e-i<=n->(elsesIn l k e n i=true↔∀j x,i<=j->j<e->l[j]?=some x->x.J5=4->anyE l j (j-k) k=true)
 | 0,i,h=>⟨fun _ j x h1 h2=>o_,fun _=>rfl⟩
 | n+1,i,h=>by
  rw[elsesIn];by_cases hi:i<e
  ·rw[c7 hi]
   cases hx:l[i]? with
   | none=>
    refine⟨fun _ j x h1 h2 hj=>?_,fun _=>rfl⟩;have:l.length<=i:=List.getElem?_eq_none_iff.1 hx;rw[e9 o_]at hj
    cases hj
   | some x=>
    dsimp only;rw[b9,iN o_];constructor
    ·rintro⟨h1,h2⟩ j y Wk Qs hy hk;by_cases he:j=i
     ·subst he;rw[hx]at hy;injection hy with hy;subst hy;rw[c7 hk]at h1;exact h1
     ·exact h2 j y o_ Qs hy hk
    ·intro H;refine⟨?_,fun j y Wk Qs hy hk=>H j y o_ Qs hy hk⟩;split
     ·exact H i x (d8 _) hi hx aak
     ·rfl
  ·rw[b8 hi];exact⟨fun _ j x h1 h2=>o_,fun _=>rfl⟩
def mf (l:List Mq)(locals:List (List UInt8))(k e:Nat):Nat->Nat->Nat->Bool
 | 0,_,_=>true
 | n+1,i,d=>if i<e then(match l[i]? with
  | some x=>if x.J5=0 then false else if x.J5=4/\anyE l i (i-k) k=false then false else
   if dep x d<=4/\eF l locals x.L5=true then mf l locals k e n (i+1) (dep x d)else false
  | none=>false)else true
theorem CW {l:List Mq}{locals:List (List UInt8)}{k e i d:Nat}{x:Mq}(hi:i<e)(hx:l[i]?=some x):mf l locals k e (e-i) i d=if x.J5=0 then false else if x.J5=4/\anyE l i (i-k) k=false then false else if dep x d<=4/\eF l locals x.L5=true then mf l locals k e (e-(i+1)) (i+1) (dep x d)else false:=by rw[show e-i=(e-(i+1))+1 by omega,mf,c7 hi,hx]
theorem Gi {l:List Mq}{locals:List (List UInt8)}{k e i d n:Nat}(hi:e<=i):mf l locals k e n i d=true:=by cases n with|zero=>rfl|succ n=>rw[mf,b8 o_]
theorem CB {l:List Mq}{locals:List (List UInt8)}{k e:Nat}:∀{n i d:Nat},mf l locals k e n i d=(mP l locals e n i d&&elsesIn l k e n i)
 | 0,i,d=>rfl
 | n+1,i,d=>by
  rw[mf,mP,elsesIn];by_cases hi:i<e
  ·rw[c7 hi,c7 hi,c7 hi]
   cases hx:l[i]? with
   | none=>rfl
   | some x=>
    dsimp only;by_cases h0:x.J5=0
    ·rw[c7 h0,c7 h0];rfl
    ·rw[b8 h0,b8 h0];rw[CB];by_cases h4:x.J5=4
     ·rw[c7 h4]
      cases ha:anyE l i (i-k) k with
      | false=>rw[c7 ⟨h4,rfl⟩];simp
      | true=>rw[b8 s_];split<;>simp_all
     ·rw[b8 (by simp[h4]),b8 h4];split<;>simp_all
  ·rw[b8 hi,b8 hi,b8 hi];rfl
def tY (l:List Mq)(k e:Nat):Bool:=decide ((localsOf l (k:Int)).length<=8)&&mP l (localsOf l (k:Int)) e (e-(k+1)) (k+1) 0
def lY (l:List Mq)(k e:Nat):Bool:=decide ((localsOf l (k:Int)).length<=8)&&mf l (localsOf l (k:Int)) k e (e-(k+1)) (k+1) 0
theorem nE {l:List Mq}{k e:Nat}:lY l k e=(tY l k e&&elsesIn l k e (e-(k+1)) (k+1)):=by rw[lY,tY,CB,Bool.and_assoc]
theorem uY {l:List Mq}{k e:Nat}(h:tY l k e=true)(he:e<=l.length):∀i x,k<i->i<e->l[i]?=some x->x.J5≠0:=by
 rw[tY,b9]at h
 have key:∀(n i d:Nat),e-i<=n->mP l (localsOf l (k:Int)) e n i d=true->∀j x,i<=j->j<e->l[j]?=some x->x.J5≠0:=by
  intro n
  induction n with
  | zero=>intro i d hn _ j x h1 h2;omega
  | succ n ih=>
   intro i d hn hb j x h1 h2 hx;rw[mP,c7 o_]at hb;obtain⟨y,hy⟩:=ae (l:=l) (k:=i) o_;rw[hy]at hb;dsimp only at hb;split at hb
   ·cases hb
   ·rename_i h0;split at hb
    ·by_cases hj:j=i
     ·subst hj;rw[hy]at hx;injection hx with hx;subst hx;exact h0
     ·exact ih (i+1) _ o_ hb j x o_ h2 hx
    ·cases hb
 exact fun i x h1 h2 hx=>key _ _ _ (d8 _) h.2 i x o_ h2 hx
def bT (F:Nat->Nat->Bool)(l:List Mq):Nat->Nat->Bool
 | 0,k=>decide (l.length<=k)
 | n+1,k=>if k<l.length then(match l[k]?,endAt l k with
  | some x,some e=>if x.J5=0/\F k e=true then bT F l n (e+1)else false
  | _,_=>false)else true
theorem mC {F:Nat->Nat->Bool}{l:List Mq}{k n:Nat}{x:Mq}(hx:l[k]?=some x)(hn:l.length-k<=n):bT F l n k=match endAt l k with|some e=>if x.J5=0/\F k e=true then bT F l (l.length-(e+1)) (e+1)else false|none=>false:=by
 have more:∀(n m k:Nat),l.length-k<=n->l.length-k<=m->bT F l n k=bT F l m k:=by
  intro n
  induction n with
  | zero=>
   intro m k h1 h2;rw[bT,q7 o_]
   cases m with|zero=>rw[bT,q7 o_]|succ m=>rw[bT,b8 o_]
  | succ n ih=>
   intro m k h1 h2
   cases m with
   | zero=>rw[bT,bT,b8 o_,q7 o_]
   | succ m=>
    rw[bT,bT];split
    ·split
     ·rename_i x e hx he;obtain⟨_,_,_,_,h3,_⟩:=aN he;split
      ·exact ih m (e+1) o_ o_
      ·rfl
     ·rfl
    ·rfl
 have hk:k<l.length:=by exact V120
 obtain⟨m,rfl⟩:∃m,n=m+1:=⟨n-1,o_⟩;rw[bT,c7 hk,hx]
 cases he:endAt l k with
 | none=>rfl
 | some e=>
  obtain⟨_,_,_,_,h3,_⟩:=aN he;dsimp only;split
  ·exact more _ _ _ o_ o_
  ·rfl
theorem xb {F:Nat->Nat->Bool}{l:List Mq}{k n:Nat}(hk:l.length<=k):bT F l n k=true:=by cases n with|zero=>rw[bT,q7 hk]|succ n=>rw[bT,b8 o_]
def uD (l:List Mq):Bool:=elsesIn l 0 l.length l.length 0
def nameFirst (l:List Mq)(k:Nat):Bool:=match l[k]? with|some x=>findN l 0 x.L0==some k|none=>false
theorem yc {l:List Mq}:∀(n k:Nat),l.length-k<=n->k<=l.length->(∀j m,j<k->endAt l j=some m->m<k)->
  (bT (lY l) l (l.length-k) k=(bT (tY l) l (l.length-k) k&&elsesIn l 0 l.length (l.length-k) k))
 | n,k,hn,hk,hP=>by
  by_cases M3:k<l.length
  ·obtain⟨x,hx⟩:=ae M3;rw[mC hx (d8 _),mC hx (d8 _)]
   cases he:endAt l k with
   | none=>simp
   | some e=>
    dsimp only;obtain⟨_,O6,ho,_,h3,h4⟩:=aN he;obtain⟨z,hz,Yt⟩:=bR he;by_cases h0:x.J5=0
    ·have ZR:∀j m,j<e+1->endAt l j=some m->m<e+1:=by
      intro j m hj hm;rcases B4 j k with OH|OH|OH
      ·have:=hP j m OH hm;omega
      ·subst OH;rw[he]at hm;injection hm with hm;omega
      ·obtain⟨y,hy,Wj,_⟩:=aN hm;by_cases T6:j=e
       ·subst T6;rw[hz]at hy;injection hy with hy;subst hy;rw[opensK_iff]at Wj;omega
       ·obtain⟨m',QY,_,h5⟩:=jx he OH o_ hy Wj;rw[hm]at QY;injection QY with QY;omega
     cases n with
     | zero=>omega
     | succ n=>
      have ih:=yc (l:=l) n (e+1) o_ o_ ZR
      have XH:elsesIn l 0 l.length (l.length-k) k=(elsesIn l k e (e-(k+1)) (k+1)&&elsesIn l 0 l.length (l.length-(e+1)) (e+1)):=by
       rw[A0,b9,iN (d8 _),iN (d8 _),iN (d8 _)];constructor
       ·intro H;refine⟨fun j y h5 h6 hy h7=>?_,fun j y h5 h6 hy h7=>H j y o_ h6 hy h7⟩;have:=H j y o_ o_ hy h7;rw[qp]at this⊢;obtain⟨i,h8,h9,WX⟩:=this;refine⟨i,?_,o_,WX⟩;rcases m5 i k with Ti|Ti
        ·obtain⟨_,m,_,_,RY,_,YT,_⟩:=bA WX;have:=hP i m Ti RY;omega
        ·exact Ti
       ·rintro⟨H1,H2⟩ j y h5 h6 hy h7;rcases m5 e j with h8|h8
        ·exact H2 j y h8 h6 hy h7
        ·have T6:j≠e:=fun h=>by
          subst h;rw[hz]at hy;injection hy with hy;subst hy;omega
         have OH:j≠k:=fun h=>by
          subst h;rw[hx]at hy;injection hy with hy;subst hy;omega
         have:=H1 j y o_ o_ hy h7;rw[qp]at this⊢;obtain⟨i,h9,WX,Ti⟩:=this;exact⟨i,o_,o_,Ti⟩
      rw[XH,ih,nE]
      cases tY l k e<;>cases elsesIn l k e (e-(k+1)) (k+1)<;>simp[h0]
    ·rw[b8 (by simp[h0]),b8 (by simp[h0])];rfl
  ·have:k=l.length:=o_;subst this;rw[xb (d8 _),xb (d8 _)];rw[x6];rfl
def kP:List UInt8:=[109,97,105,110]
def headOk (l:List Mq):Bool:=match l with
 | []=>false
 | x::_=>x.J5==0&&(x.L0==kP&&x.L9.length==0)
def aj (l:List Mq):Bool:=decide (l.length<=60)&&(decide (1<=(aA l).length/\(aA l).length<=6)&&(l.all dh&&(headOk l&&((aA l).all (nameFirst l)&&(bT (tY l) l l.length 0&&uD l)))))
theorem pu (l:List Mq):bT (lY l) l l.length 0=(bT (tY l) l l.length 0&&uD l):=by have:=yc (l:=l) _ 0 (d8 _) o_ (fun j m h=>o_);rw[y7]at this;exact this
def StkOk (l:List Mq)(e:Nat):Nat->List Nat->Prop
 | i,[]=>endN (l.drop i) i 1=some e
 | i,m::es=>i<=m/\endN (l.drop i) i 1=some m/\StkOk l e (m+1) es
theorem StkOk.push {l:List Mq}{e i:Nat}{es:List Nat}{x:Mq}(h:StkOk l e i es)(hx:l[i]?=some x)(ho:dT x.J5=true):∃m,endAt l i=some m/\i<m/\StkOk l e (i+1) (m::es):=by
 have key:∀m',endN (l.drop i) i 1=some m'->∃m,endAt l i=some m/\i<m/\endN (l.drop (i+1)) (i+1) 1=some m/\endN (l.drop (m+1)) (m+1) 1=some m':=by
  intro m' hm;rw[dN hx,c7 ho,nz _ (d8 _) (d8 1) (d8 1)]at hm
  cases h1:endN (l.drop (i+1)) (i+1) 1 with
  | none=>rw[h1]at hm;cases hm
  | some m=>rw[h1]at hm;have:=jq h1;exact⟨m,by rw[qw hx ho];exact h1,o_,rfl,hm⟩
 cases es with
 | nil=>
  obtain⟨m,h1,h2,h3,h4⟩:=key e h
  exact⟨m,h1,h2,o_,h3,h4⟩
 | cons m' es=>obtain⟨g1,g2,g3⟩:=h;obtain⟨m,h1,h2,h3,h4⟩:=key m' g2;have:=jq h4;exact⟨m,h1,h2,o_,h3,o_,h4,g3⟩
theorem StkOk.other {l:List Mq}{e i:Nat}{es:List Nat}{x:Mq}(h:StkOk l e i es)(hx:l[i]?=some x)(ho:dT x.J5=false)(h7:x.J5≠7):StkOk l e (i+1) es:=by
 have key:∀m',endN (l.drop i) i 1=some m'->endN (l.drop (i+1)) (i+1) 1=some m':=by intro m' hm;rw[dN hx,b8 aah,b8 h7]at hm;exact hm
 cases es with
 | nil=>exact key e h
 | cons m' es=>obtain⟨g1,g2,g3⟩:=h;have:=jq (key m' g2);exact⟨o_,key m' g2,g3⟩
theorem StkOk.pop {l:List Mq}{e i:Nat}{es:List Nat}{x:Mq}(h:StkOk l e i es)(hx:l[i]?=some x)(h7:x.J5=7):(es=[]/\i=e)\/∃Ot,es=i::Ot/\StkOk l e (i+1) Ot:=by
 have ho:¬dT x.J5=true:=by rw[opensK_iff];omega
 cases es with
 | nil=>
  unfold StkOk at h;rw[dN hx,b8 ho,c7 h7,c7 rfl]at h;injection h with h
  exact .inl ⟨rfl,h⟩
 | cons m' es=>obtain⟨g1,g2,g3⟩:=h;rw[dN hx,b8 ho,c7 h7,c7 rfl]at g2;injection g2 with g2;subst g2;exact .inr ⟨es,rfl,g3⟩
theorem StkOk.le {l:List Mq}{e:Nat}:∀{i:Nat} {es:List Nat},StkOk l e i es->i<=e
 | i,[],h=>(jq h).1
 | i,m::es,h=>by
  have:=StkOk.le h.2.2;have:=h.1;omega
inductive Ex where
 | node (t:Mz) (es:List Ex)
mutual
def Ex.toks:Ex->List Mz
 | .node t es=>t::aw es
def aw:List Ex->List Mz
 | []=>[]
 | a::es=>a.toks++aw es
end
mutual
def Ex.ok:Ex->Prop
 | .node t es=>fE t=true/\es.length=ar t/\jf es
def jf:List Ex->Prop
 | []=>True
 | a::es=>a.ok/\jf es
end
theorem Ex.toks_pos (e:Ex):0<e.toks.length:=by cases e;simp[Ex.toks]
theorem iD:∀(a b:List Ex),aw (a++b)=aw a++aw b
 | [],b=>by rw[t7,aw,t7]
 | x::a,b=>by rw[u3,aw,aw,iD a b,j9]
theorem vO:∀{l:List Ex} (n:Nat),jf l->jf (l.take n)
 | [],n,h=>by rw[List.take_nil];exact h
 | x::l,0,h=>by rw[H6];trivial
 | x::l,n+1,h=>by rw[q9];exact⟨h.1,vO n h.2⟩
theorem vy:∀{l:List Ex} (n:Nat),jf l->jf (l.drop n)
 | [],n,h=>by rw[List.drop_nil];exact h
 | x::l,0,h=>h
 | x::l,n+1,h=>by rw[List.drop_succ_cons];exact vy n h.2
theorem xd:∀{l:List Mz} {p n e:Nat},endL l p n=some e->∃es:List Ex,es.length=n/\jf es/\∃rest,l=aw es++rest/\p+(aw es).length=e
 | l,p,0,e,h=>by
  have h:some p=some e:=by cases l<;>exact h
  injection h with h
  exact⟨[],rfl,trivial,l,rfl,by simp[aw];omega⟩
 | [],_,_+1,_,h=>by rw[endL]at h;cases h
 | t::l,p,n+1,e,h=>by
  rw[endL]at h;split at h
  ·rename_i M5;obtain⟨es,h1,h2,rest,h3,h4⟩:=xd h;refine⟨.node t (es.take (ar t))::es.drop (ar t),by simp;omega,⟨⟨M5,by simp;omega,vO _ h2⟩,vy _ h2⟩,rest,?_,?_⟩
   ·rw[aw,Ex.toks,u3,<-iD,z4,u3,<-h3]
   ·rw[aw,Ex.toks,u3,<-iD,z4,d5];omega
  ·cases h
mutual
theorem Ex.endL:∀(e:Ex),e.ok->∀(r:List Mz) (p n:Nat),Go.Proofs.P.endL (e.toks++r) p (n+1)=Go.Proofs.P.endL r (p+e.toks.length) n
 | .node t es,h,r,p,n=>by
  rw[Ex.toks,u3,Go.Proofs.P.endL,c7 h.1,show n+ar t=n+es.length by rw[h.2.1],Bf es h.2.2,d5];congr 1;omega
theorem Bf:∀(es:List Ex),jf es->∀(r:List Mz) (p n:Nat),Go.Proofs.P.endL (aw es++r) p (n+es.length)=Go.Proofs.P.endL r (p+(aw es).length) n
 | [],_,r,p,n=>by rw[aw];simp
 | a::es,h,r,p,n=>by
  rw[aw,j9,d5,show n+(es.length+1)=(n+es.length)+1 by omega,Ex.endL a h.1,Bf es h.2,c8];congr 1;omega
end
theorem jk {l:List Mz}(h:bz l=true):∃e:Ex,e.ok/\l=e.toks:=by
 unfold bz at h;simp only[b9,j6,w9]at h;obtain⟨_,h1,h2⟩:=h;rw[gr,c7 o_]at h2;show ∃e:Ex,e.ok/\l=e.toks
 cases he:Go.Proofs.P.endL (l.drop (0:Int).toNat) (0:Int).toNat 1 with
 | none=>rw[he]at h2;simp only[cS]at h2;omega
 | some e=>
  rw[he]at h2;simp only[cS]at h2;obtain⟨es,g1,g2,rest,g3,g4⟩:=xd he
  match es,g1 with
  | [a],_=>
   rw[aw,aw,m7]at g3 g4;have e0:l.drop (0:Int).toNat=l:=rfl;rw[e0]at g3
   have:rest=[]:=by have:=congrArg List.length g3;rw[c8]at this;have e1:(0:Int).toNat=0:=rfl;rw[e1]at g4;exact A5.1 o_
   subst this;exact⟨a,g2.1,by rw[g3,m7]⟩
def kD (l:List Mz)(p:Nat)(e:Ex):Prop:=∃r,l.drop p=e.toks++r
def kJ (l:List Mz)(p:Nat)(es:List Ex):Prop:=∃r,l.drop p=aw es++r
theorem oU {l:List Mz}{p:Nat}{e:Ex}(h:kD l p e)(ho:e.ok):gr l (p:Int)=((p+e.toks.length:Nat):Int):=by
 obtain⟨r,h⟩:=h;rw[gr,c7 o_,d6,h,show(1:Nat)=0+1 from rfl,Ex.endL e ho]
 cases r<;>rfl
theorem pr {l:List Mz}{p:Nat}{t:Mz}{es:List Ex}(h:kD l p (.node t es)):l[p]?=some t/\kJ l (p+1) es:=by
 obtain⟨r,h⟩:=h;rw[Ex.toks,u3]at h;refine⟨?_,r,?_⟩
 ·have:=congrArg (·[0]?) h;simpa [v3]using this
 ·have:=congrArg (·.drop 1) h;simpa [F4]using this
theorem fJ {l:List Mz}{p:Nat}{a:Ex}{es:List Ex}(h:kJ l p (a::es)):kD l p a/\kJ l (p+a.toks.length) es:=by obtain⟨r,h⟩:=h;rw[aw,j9]at h;refine⟨⟨_,h⟩,r,?_⟩;rw[<-F4,h,List.drop_left]
def qx:Nat->List Ex->List Nat
 | _,[]=>[]
 | p,a::es=>p::qx (p+a.toks.length) es
theorem AZ:∀(p:Nat) (es:List Ex),(qx p es).length=es.length
 | _,[]=>rfl
 | p,a::es=>by rw[qx,d5,AZ,d5]
theorem EA:∀{l:List Mz} {p:Nat} {es:List Ex} {k:Nat} {a:Ex},kJ l p es->es[k]?=some a->∃q,(qx p es)[k]?=some q/\kD l q a
 | _,_,[],_,_,_,h=>by simp at h
 | l,p,b::es,0,a,hs,h=>by
  rw[f9]at h;injection h with h;subst h
  exact⟨p,by rw[qx,f9],(fJ hs).1⟩
 | l,p,b::es,k+1,a,hs,h=>by
  rw[l4]at h;obtain⟨q,h1,h2⟩:=EA (fJ hs).2 h;exact⟨q,by rw[qx,l4];exact h1,h2⟩
theorem FB {t:Mz}(h:fE t=true):t.J5=0\/t.J5=1\/t.J5=7\/(2<=t.J5/\t.J5<=6):=by
 unfold fE at h;split at h
 ·omega
 ·split at h
  ·omega
  ·split at h
   ·omega
   ·simp only[b9,within_iff]at h;omega
theorem JB {t:Mz}(h:fE t=true):((t.J5=0\/t.J5=1)->ar t=0)/\(t.J5=7->(ar t:Int)=t.MI)/\(2<=t.J5->t.J5<=6->ar t=2):=by
 obtain⟨e1,_⟩:=yK h;unfold ni at e1;rw[b8 aaM]at e1;refine⟨fun h0=>?_,fun h7=>?_,fun h2 h6=>?_⟩
 ·rw[b8 o_,c7 h0]at e1;omega
 ·rw[c7 h7]at e1;omega
 ·rw[b8 o_,b8 o_]at e1;omega
theorem tM:∀{l:List Mz} {p:Nat} {es:List Ex} {j:Nat} {a:Ex},kJ l p es->es[j]?=some a->kD l (p+(aw (es.take j)).length) a
 | _,_,[],_,_,_,h=>by simp at h
 | l,p,b::es,0,a,hs,h=>by
  rw[f9]at h;injection h with h;subst h
  simpa [aw]using(fJ hs).1
 | l,p,b::es,j+1,a,hs,h=>by
  rw[l4]at h;have:=tM (fJ hs).2 h;rw[q9,aw,c8,<-I1];exact this
end Go.Proofs.P
namespace Go.Proofs.P
noncomputable section
open Go.Sim Tryz
structure Cx where
 p:List Mq
 b:Mi
 K0:Bool
 J2:Int
 args:Int
structure Sc where
 f:Nat
 J4:List Int
 L2:List (List UInt8)
 first:Int
 L6:Bool
structure Gs where
 J1:List Mp
 J8:Int
 start:Bool
def bS (C:Cx)(s:Gs)(depth code arg line:Int)(chain:List Int):Mp:=⟨⟨code,arg⟩,line,s.start,chain,if C.K0=true/\0<s.J1.length then 0 else depth,C.K0&&decide (0<s.J1.length)⟩
def aF (C:Cx)(s:Gs)(depth code arg line:Int)(chain:List Int):Gs:=⟨s.J1++[bS C s depth code arg line chain],s.J8,false⟩
def Ax (C:Cx)(x:Sc)(i:Int):Bool:=x.L6&&decide (i<C.args)
def mL (C:Cx)(x:Sc)(i:Int):Int:=if x.L6=true then i-C.args else x.first+i
def cH (C:Cx)(store:Bool):Int:=(if C.K0=true then 1 else 3)+(if store=true then 1 else 0)
def fA (C:Cx)(x:Sc)(depth i:Int):Int:=
 if C.K0=true then(if Ax C x i=true then 1+(C.args-i)else -1-mL C x i)
 else(if Ax C x i=true then depth+(C.args-i)else depth-1-mL C x i)
def En (C:Cx)(x:Sc)(s:Gs)(depth i line:Int):Gs:=aF C s depth (cH C false) (fA C x depth i) line x.J4
def fS (C:Cx)(x:Sc)(s:Gs)(depth i line:Int)(chain:List Int):Gs:=aF C s depth (cH C true) (fA C x depth i) line chain
def cK (C:Cx)(y:Sc)(chain:List Int)(line:Int):Nat->Int->Gs->Gs
 | 0,_,s=>s
 | n+1,d,s=>cK C y chain line n (d-1) (fS C y s d n line chain)
def dH (C:Cx)(y:Sc)(chain:List Int)(line d:Int):Nat->Nat->Gs->Gs
 | 0,_,s=>s
 | n+1,i,s=>dH C y chain line d n (i+1) (fS C y (aF C s d 0 0 line chain) (d+1) i line chain)
def cf (l:List Mp)(j:Int)(v:Int):List Mp:=if 0<=j then(match l[j.toNat]? with
 | some x=>l.set j.toNat ⟨⟨x.J7.J3,v⟩,x.MM,x.L8,x.MQ,x.MG,x.MR⟩
 | none=>l)else l
def patchL (l:List Mp)(v:Int):List Int->List Mp
 | []=>l
 | j::js=>patchL (cf l j v) v js
def lf (p:List Mq)(g:Nat):Nat:=((p.take g).filter fun x=>x.J5==0).length
def cU (C:Cx)(inside:List Nat)(g:Nat)(n:Nat):Bool:=decide ((inside.length:Int)<=C.b.MJ)&&(decide (cB C.p (g:Int)-g<=9)&&(decide (n<200)&&!inside.contains g))
def mm (C:Cx)(rep:Sc->List Nat->Nat->Nat->Int->Gs->Gs)(x:Sc)(inside:List Nat)(line:Nat)(t:Mz)(d:Int)(s:Gs):Gs:=
 if t.J5=0 then aF C s d 0 t.MI line x.J4
 else if t.J5=1 then En C x s d (dJ x.L2 t.L0) line
 else if t.J5=7 then(match findN C.p 0 t.L0 with
  | some g=>if cU C inside g s.J1.length=true then rep x inside line g d s else aF C s d 12 (lf C.p g) line x.J4
  | none=>s)
 else aF C s d (5+t.J5-2) 0 line x.J4
mutual
def eA (C:Cx)(rep:Sc->List Nat->Nat->Nat->Int->Gs->Gs)(x:Sc)(inside:List Nat)(line:Nat):Ex->Int->Gs->Gs
 | .node t es,d,s=>mm C rep x inside line t (d+es.length) (cZ C rep x inside line es d s)
def cZ (C:Cx)(rep:Sc->List Nat->Nat->Nat->Int->Gs->Gs)(x:Sc)(inside:List Nat)(line:Nat):List Ex->Int->Gs->Gs
 | [],_,s=>s
 | a::es,d,s=>cZ C rep x inside line es (d+1) (eA C rep x inside line a d s)
end
def ct (C:Cx)(x:Sc):Int:=if x.L6=true then(x.L2.length:Int)-C.args else x.first+x.L2.length
def argsN (p:List Mq)(g:Nat):Nat:=match p[g]? with|some l=>l.L9.length|none=>0
def cr (C:Cx)(x:Sc)(line g:Nat):Sc:=⟨g,x.J4++[(line:Int)],localsOf C.p (g:Int),ct C x,false⟩
def fY (C:Cx)(x:Sc)(line g:Nat)(d:Int)(s:Gs):Gs:=
 dH C (cr C x line g) x.J4 line (d-argsN C.p g) ((localsOf C.p (g:Int)).length-argsN C.p g) (argsN C.p g)
  (cK C (cr C x line g) x.J4 line (argsN C.p g) d ⟨s.J1,max s.J8 (ct C x+(localsOf C.p (g:Int)).length),s.start⟩)
def dk (C:Cx)(x:Sc)(line:Nat)(d:Int)(s:Gs):Gs:=if s.start=true then aF C s d 15 0 line x.J4 else s
def lZ (C:Cx)(lines:Sc->List Nat->Int->Gs->Gs×List Int)(x:Sc)(inside:List Nat)(line g:Nat)(d:Int)(s:Gs):Gs:=
 let r:=lines (cr C x line g) (inside++[g]) (d-argsN C.p g) (dk C x line (d-argsN C.p g) (fY C x line g d s))
 ⟨patchL r.1.J1 r.1.J1.length r.2,r.1.J8,r.1.start⟩
def ownN (p:List Mq)(k:Nat):Nat->Option Nat
 | 0=>none
 | n+1=>if endAt p n=some k\/elseAt p n=some k then some n else ownN p k n
def ownOf (p:List Mq)(k:Nat):Nat:=(ownN p k p.length).getD 0
def kindAt (p:List Mq)(k:Nat):Int:=match p[k]? with|some x=>x.J5|none=> -1
structure Ls where
 g:Gs
 J9:List Int
 pos:List Int
 lv:List Int
def exL (l:List Mz):Ex:=if h:bz l=true then Classical.choose (jk h)else .node ⟨0,0,[]⟩ []
theorem rt {l:List Mz}(h:bz l=true):(exL l).ok/\l=(exL l).toks:=by rw[exL,dif_pos h];exact l6 (jk h)
def atL (l:List Int)(k:Nat):Int:=l[k]?.getD 0
def bg (C:Cx)(x:Sc)(k:Nat)(last:Bool)(d:Int)(L:Ls):Ls:=
 if x.L6=true then(if C.K0=true then{L with g:=aF C L.g d 14 C.args k x.J4} else{L with g:=aF C L.g d 16 (C.args+16*C.J2) k x.J4})
 else if last=true then L
 else{L with g:=aF C L.g d 10 0 k x.J4,lv:=L.lv++[(L.g.J1.length:Int)]}
def bQ (C:Cx)(rep:Sc->List Nat->Nat->Nat->Int->Gs->Gs)(x:Sc)(inside:List Nat)(base:Int)(k:Nat)(ln:Mq)(L:Ls):Ls:=
 if ln.J5=4 then
  let g:=aF C L.g base 10 0 k x.J4
  {L with g:=⟨cf g.J1 (atL L.pos (ownOf C.p k)) g.J1.length,g.J8,g.start⟩,pos:=L.pos.set k L.g.J1.length}
 else if ln.J5=7 then
  if ownOf C.p k=x.f then bg C x k true (base+1) {L with g:=aF C L.g base 0 0 k x.J4}
  else if kindAt C.p (ownOf C.p k)=5 then{L with g:=aF C L.g base 10 (atL L.J9 (ownOf C.p k)) k x.J4}
  else L
 else
  let L1:Ls:={L with g:=eA C rep x inside k (exL ln.L5) base ⟨L.g.J1,L.g.J8,true⟩,J9:=L.J9.set k L.g.J1.length}
  if ln.J5=1 then{L1 with g:=fS C x L1.g (base+1) (dJ x.L2 ln.L0) k x.J4}
  else if ln.J5=2 then{L1 with g:=aF C L1.g (base+1) 17 0 k x.J4}
  else if ln.J5=6 then bg C x k false (base+1) L1
  else{L1 with g:=aF C L1.g (base+1) 11 0 k x.J4,pos:=L1.pos.set k L1.g.J1.length}
def iT (p:List Mq)(k:Nat):Nat:=match elseAt p (ownOf p k)with|some j=>j|none=>ownOf p k
def bH (C:Cx)(x:Sc)(k:Nat)(ln:Mq)(L:Ls):Ls:=
 if ln.J5=7/\ownOf C.p k≠x.f then{L with g:=⟨cf L.g.J1 (atL L.pos (iT C.p k)) L.g.J1.length,L.g.J8,L.g.start⟩} else L
def dL (C:Cx)(rep:Sc->List Nat->Nat->Nat->Int->Gs->Gs)(x:Sc)(inside:List Nat)(base:Int):Nat->Nat->Ls->Ls
 | 0,_,L=>L
 | n+1,k,L=>match C.p[k]? with
  | some ln=>dL C rep x inside base n (k+1) (bH C x k ln (bQ C rep x inside base k ln L))
  | none=>L
def cC (C:Cx)(s:Gs):Ls:=⟨s,List.replicate C.p.length 0,List.replicate C.p.length 0,[]⟩
def lc (p:List Mq)(f:Nat):Nat:=(endAt p f).getD 0
def bx (C:Cx)(rep:Sc->List Nat->Nat->Nat->Int->Gs->Gs)(x:Sc)(inside:List Nat)(base:Int)(s:Gs):Gs×List Int:=
 let L:=dL C rep x inside base (lc C.p x.f-x.f) (x.f+1) (cC C s)
 (L.g,L.lv)
def cQ (C:Cx):Nat->Sc->List Nat->Nat->Nat->Int->Gs->Gs
 | 0=>fun _ _ _ _ _ s=>s
 | n+1=>lZ C (bx C (cQ C n))
def dV (C:Cx)(f:Nat):Gs:=aF C ⟨[],(localsOf C.p (f:Int)).length-C.args,false⟩ 0 (if C.K0=true then 13 else 15) C.J2 f []
def bd (C:Cx)(f:Nat):Sc:=⟨f,[],localsOf C.p (f:Int),0,true⟩
def dK (C:Cx)(f:Nat):Gs:=(bx C (cQ C C.b.MJ.toNat) (bd C f) [f] C.J2 (dV C f)).1
end
end Go.Proofs.P
namespace Go.Proofs.P
open Go.Sim Tryz
theorem aI {α:Type}{l:List α}{k:Nat}{x:α}(h:l[k]?=some x):k<l.length:=by
 rcases m5 k l.length with h'|h'
 ·exact h'
 ·rw[e9 h']at h;cases h
theorem xN {l:List Mq}{i j e:Nat}(hi:endAt l i=some e)(hj:endAt l j=some e):i=j:=by
 have key:∀{i j:Nat},endAt l i=some e->endAt l j=some e->i<j->False:=by intro i j hi hj M3;obtain⟨x,hx,ho,_,h1,_⟩:=aN hj;obtain⟨m,hm,_,h2⟩:=jx hi M3 h1 hx ho;rw[hj]at hm;injection hm with hm;omega
 rcases B4 i j with h|h|h
 ·exact(key hi hj h).elim
 ·exact h
 ·exact(key hj hi h).elim
theorem oa {l:List Mq}{e:Nat}:∀{n i j:Nat},elseN l e n i=some j->∀k x m,i<=k->k<j->l[k]?=some x->(x.J5=3\/x.J5=5)->endAt l k=some m->m<j
 | 0,_,_,h=>by rw[elseN]at h;cases h
 | n+1,i,j,h=>by
  intro k x m h1 h2 hx h3 hm;rw[elseN]at h;split at h
  ·split at h
   ·rename_i y hy;split at h
    ·injection h with h;omega
    ·split at h
     ·split at h
      ·rename_i m' QY;have hin:=nC h;obtain⟨_,_,_,_,g1,_⟩:=aN QY;by_cases hk:k=i
       ·subst hk;rw[QY]at hm;injection hm with hm;omega
       ·by_cases Ni:k<=m'
        ·by_cases ZW:k=m'
         ·subst ZW;obtain⟨z,hz,h7⟩:=bR QY;rw[hx]at hz;injection hz with hz;subst hz;omega
         ·obtain⟨m2,R6,_,g2⟩:=jx QY o_ o_ hx aaJ;rw[hm]at R6;injection R6 with R6;omega
        ·exact oa h k x m o_ h2 hx h3 hm
      ·rename_i Nm;by_cases hk:k=i
       ·subst hk;rw[Nm]at hm
        cases hm
       ·exact oa h k x m o_ h2 hx h3 hm
     ·by_cases hk:k=i
      ·subst hk;rw[hx]at hy;injection hy with hy;subst hy;rename_i M9;exact absurd h3 M9
      ·exact oa h k x m o_ h2 hx h3 hm
   ·cases h
  ·cases h
theorem pa {l:List Mq}{i j k:Nat}(hi:elseAt l i=some k)(hj:elseAt l j=some k):i=j:=by
 have key:∀{i j:Nat},elseAt l i=some k->elseAt l j=some k->i<j->False:=by
  intro i j hi hj M3;obtain⟨y,ej,hy,h3,ST,h4,h5,_⟩:=bA hj;unfold elseAt at hi;split at hi
  ·split at hi
   ·have:=oa hi j y ej o_ h4 hy (.inl h3) ST;omega
   ·cases hi
  ·cases hi
 rcases B4 i j with h|h|h
 ·exact(key hi hj h).elim
 ·exact h
 ·exact(key hj hi h).elim
theorem rp {p:List Mq}{k i:Nat}:∀{n:Nat},ownN p k n=some i->i<n/\(endAt p i=some k\/elseAt p i=some k)
 | 0,h=>by rw[ownN]at h;cases h
 | n+1,h=>by
  rw[ownN]at h;split at h
  ·injection h with h;subst h;exact⟨o_,by assumption⟩
  ·have:=rp h;exact⟨o_,this.2⟩
theorem vQ {p:List Mq}{k i:Nat}(hi:endAt p i=some k\/elseAt p i=some k):∀{n:Nat},i<n->∃j,ownN p k n=some j
 | 0,h=>o_
 | n+1,h=>by
  rw[ownN];split
  ·exact⟨_,rfl⟩
  ·by_cases he:i=n
   ·subst he;exact absurd hi aak
   ·exact vQ hi o_
theorem ko {p:List Mq}{k i:Nat}(h:endAt p i=some k):ownOf p k=i:=by
 obtain⟨x,hx,_,_,_,_⟩:=aN h;obtain⟨j,hj⟩:=vQ (.inl h) (aI hx);rw[ownOf,hj];obtain⟨_,h1|h1⟩:=rp hj
 ·exact xN h1 h
 ·obtain⟨_,_,_,_,_,_,_,y,hy,h4⟩:=bA h1;obtain⟨z,hz,h7⟩:=bR h;rw[hy]at hz;injection hz with hz;subst hz;omega
theorem vC {p:List Mq}{k i:Nat}(h:elseAt p i=some k):ownOf p k=i:=by
 obtain⟨x,e,hx,_,_,_,_,y,hy,h4⟩:=bA h;obtain⟨j,hj⟩:=vQ (.inr h) (aI hx);rw[ownOf,hj];obtain⟨_,h1|h1⟩:=rp hj
 ·obtain⟨z,hz,h7⟩:=bR h1;rw[hy]at hz;injection hz with hz;subst hz;omega
 ·exact pa h1 h
theorem lM {l:List Mq}{i:Nat}{x:Mq}(hx:l[i]?=some x)(h7:x.J5=7):∀(n s o e:Nat),i-s<=n->s<=i->1<=o->endN (l.drop s) s o=some e->i<=e->(∃k,s<=k/\k<i/\endAt l k=some i)\/∃j,1<=j/\j<=o/\endN (l.drop s) s j=some i
 | n,s,o,e,hn,hs,ho,h,hi=>by
  have Nm:¬dT x.J5=true:=by rw[opensK_iff];omega
  by_cases he:s=i
  ·subst he;exact .inr ⟨1,d8 _,ho,by rw[dN hx,b8 Nm,c7 h7,c7 rfl]⟩
  obtain⟨m,rfl⟩:∃m,n=m+1:=⟨n-1,o_⟩;have hl:=jq h;obtain⟨y,hy⟩:=ae (l:=l) (k:=s) o_;rw[dN hy]at h;by_cases M1:dT y.J5=true
  ·rw[c7 M1]at h;rcases lM hx h7 m (s+1) (o+1) e o_ o_ o_ h hi with⟨k,h1,h2,h3⟩|⟨j,h1,h2,h3⟩
   ·exact .inl ⟨k,o_,h2,h3⟩
   ·by_cases hj:j=1
    ·subst hj;exact .inl ⟨s,d8 _,o_,by rw[qw hy M1];exact h3⟩
    ·exact .inr ⟨j-1,o_,o_,by rw[dN hy,c7 M1,show j-1+1=j by omega];exact h3⟩
  ·rw[b8 M1]at h;by_cases We:y.J5=7
   ·rw[c7 We]at h;by_cases YK:o=1
    ·rw[c7 YK]at h;injection h with h;omega
    ·rw[b8 YK]at h;rcases lM hx h7 m (s+1) (o-1) e o_ o_ o_ h hi with⟨k,h1,h2,h3⟩|⟨j,h1,h2,h3⟩
     ·exact .inl ⟨k,o_,h2,h3⟩
     ·exact .inr ⟨j+1,o_,o_,by rw[dN hy,b8 M1,c7 We,b8 o_,show j+1-1=j by omega];exact h3⟩
   ·rw[b8 We]at h;rcases lM hx h7 m (s+1) o e o_ o_ ho h hi with⟨k,h1,h2,h3⟩|⟨j,h1,h2,h3⟩
    ·exact .inl ⟨k,o_,h2,h3⟩
    ·exact .inr ⟨j,h1,h2,by rw[dN hy,b8 M1,b8 We];exact h3⟩
structure CxOk (C:Cx):Prop where
 len:C.p.length<=60
 small:ao 1048576 (.lst 4 (C.p.map Mq.tr))
 line:∀(k:Nat) (ln:Mq),C.p[k]?=some ln->0<=ln.J5/\ln.J5<=7/\ln.L9.length<=4/\ln.L5.length<=20/\((ln.J5=1\/ln.J5=2\/ln.J5=3\/ln.J5=5\/ln.J5=6)->bz ln.L5=true)
 fn:∀(g:Nat) (ln:Mq),C.p[g]?=some ln->ln.J5=0->∃e,endAt C.p g=some e/\(localsOf C.p (g:Int)).length<=8/\ln.L9.length<=(localsOf C.p (g:Int)).length/\∀(k:Nat) (y:Mq),g<k->k<e->C.p[k]?=some y->y.J5≠0/\(∀t∈y.L5,t.J5=7->∃f,findN C.p 0 t.L0=some f/\(argsN C.p f:Int)=t.MI)/\(y.J5=4->∃i,g<=i/\i<k/\elseAt C.p i=some k)
 args:0<=C.args/\C.args<=4
 J2:0<=C.J2/\C.J2<=1000
 inl:0<=C.b.MJ/\C.b.MJ<=3
structure ScOk (C:Cx) (x:Sc) (ins:List Nat):Prop where
 fn:∃ln,C.p[x.f]?=some ln/\ln.J5=0
 loc:x.L2=localsOf C.p (x.f:Int)
 first:0<=x.first/\x.first<=8*ins.length
 J4:x.J4.length+1=ins.length
 out:x.L6=true↔x.J4=[]
 args:x.L6=true->C.args=argsN C.p x.f
 mem:ins.getLast?=some x.f
section
variable {C:Cx} {x:Sc} {ins:List Nat}
theorem CxOk.argsN (h:CxOk C)(g:Nat):argsN C.p g<=4:=by
 unfold Go.Proofs.P.argsN;split
 ·rename_i l hl;have:=h.line _ _ hl;omega
 ·omega
theorem ScOk.endE (hC:CxOk C)(hx:ScOk C x ins):∃e,endAt C.p x.f=some e/\x.f<e/\e<C.p.length/\lc C.p x.f=e/\x.L2.length<=8:=by obtain⟨ln,h1,h2⟩:=hx.fn;obtain⟨e,h3,h4,h5,_⟩:=hC.fn _ _ h1 h2;obtain⟨_,_,_,_,h6,h7⟩:=aN h3;exact⟨e,h3,h6,h7,by rw[lc,h3];rfl,by rw[hx.loc];exact h4⟩
theorem ScOk.argLe (hC:CxOk C)(hx:ScOk C x ins):argsN C.p x.f<=x.L2.length:=by obtain⟨ln,h1,h2⟩:=hx.fn;obtain⟨e,h3,h4,h5,_⟩:=hC.fn _ _ h1 h2;rw[hx.loc,Go.Proofs.P.argsN,h1];exact h5
theorem ScOk.own7 (hC:CxOk C)(hx:ScOk C x ins){e k:Nat}{ln:Mq}(he:endAt C.p x.f=some e)(h1:x.f<k)(h2:k<=e)(hk:C.p[k]?=some ln)(h7:ln.J5=7):
  endAt C.p (ownOf C.p k)=some k/\((k=e/\ownOf C.p k=x.f)\/(k<e/\x.f<ownOf C.p k/\ownOf C.p k<k/\∃y,C.p[ownOf C.p k]?=some y/\(y.J5=3\/y.J5=5))):=by
 obtain⟨l0,g1,g2⟩:=hx.fn;obtain⟨e',g3,_,_,g4⟩:=hC.fn _ _ g1 g2;rw[he]at g3;injection g3 with g3;subst g3;by_cases Ob:k=e
 ·subst Ob;rw[ko he];exact⟨he,.inl ⟨rfl,rfl⟩⟩
 ·obtain⟨z,hz,hzo,YH,_,_⟩:=aN he;rcases lM hk h7 _ (x.f+1) 1 e (d8 _) o_ (d8 _) YH h2 with⟨i,k1,k2,k3⟩|⟨j,k1,k2,k3⟩
  ·rw[ko k3];obtain⟨y,hy,Wj,_⟩:=aN k3;have:=(g4 i y o_ o_ hy).1;rw[opensK_iff]at Wj;exact⟨k3,.inr ⟨o_,o_,k2,y,hy,o_⟩⟩
  ·have:j=1:=o_;subst this;rw[YH]at k3;injection k3 with k3;omega
theorem ScOk.own4 (hC:CxOk C)(hx:ScOk C x ins){e k:Nat}{ln:Mq}(he:endAt C.p x.f=some e)(h1:x.f<k)(h2:k<=e)(hk:C.p[k]?=some ln)(h4:ln.J5=4):
  elseAt C.p (ownOf C.p k)=some k/\x.f<ownOf C.p k/\ownOf C.p k<k/\k<e:=by
 obtain⟨l0,g1,g2⟩:=hx.fn;obtain⟨e',g3,_,_,g4⟩:=hC.fn _ _ g1 g2;rw[he]at g3;injection g3 with g3;subst g3
 have Ob:k≠e:=fun h=>by
  subst h;obtain⟨y,hy,h7⟩:=bR he;rw[hk]at hy;injection hy with hy;subst hy;omega
 obtain⟨i,k1,k2,k3⟩:=(g4 k ln h1 o_ hk).2.2 h4;rw[vC k3];obtain⟨y,_,hy,h3,_⟩:=bA k3
 have:i≠x.f:=fun h=>by
  subst h;rw[g1]at hy;injection hy with hy;subst hy;omega
 exact⟨k3,o_,k2,o_⟩
end
abbrev tvP (l:List Mq):TV:=tvL 4 (l.map Mq.tr)
abbrev vP (l:List Mq):AV:= .r (.c (.t (.lst 4 (l.map Mq.tr))))
theorem mb (k:Int):Sim.Spec prog 192 [tvI k] (rB (dT k)):=by
 refine ag hΓ aE func192 rfl d_ rfl ?_;unfold dT;repeat' ((conv=>whnf);first|refine Or.inl ?_|apply oi|apply fi|intro h|exact Y1|refine e_ rfl ?_)
 all_goals(refine⟨congrArg Tr.bool ?_⟩;simp_all;(try(rw[A0];simp;omega)))
abbrev KM (l:List Mq)(k:Nat)(R:Int):={q:Nat×Nat//q.1<=l.length/\q.2<=q.1/\(q.2=0->q.1=k)/\cS (endN (l.drop q.1) q.1 q.2)=R}
theorem De {l:List Mq}{k:Nat}{x:Mq}(hx:l[k]?=some x)(ho:dT x.J5=true):endN (l.drop k) k 0=endAt l k:=by rw[dN hx,c7 ho,qw hx ho]
theorem Q4{p:Prop}(h:p:=by exact⟨by dsimp only;rw[c6 _ o_];rfl⟩):p:=h
theorem cY (l:List Mq)(k:Int)(hl:l.length<=1048576):Sim.Spec prog 121 [tvP l,tvI k] (rI (cB l k)):=by
 refine ag hΓ aE func121 rfl d_ rfl ?_;have M0:(l.map Mq.tr).length=l.length:=s_;by_cases hin:0<=k/\k<l.length
 ·obtain⟨h0,h1⟩:=hin;obtain⟨k,rfl⟩:=gt h0;obtain⟨x,hx⟩:=ae (l:=l) (k:=k) o_;have hO:=mb x.J5
  skip
  cases ho:dT x.J5 with
  | false=>
   rw[ho]at hO;have:cB l (k:Int)= -1:=(by rw[cD,endAt,hx];dsimp only;rw[b8 aah];rfl);rw[this]
   repeat' ((conv=>whnf);first|refine Or.inl ?_|apply oi|apply fi|intro h|refine⟨k,x.tr,rfl,ab hx,?_⟩|refine ci hO (ai rfl trivial) ?_|exact Y2|refine e_ rfl ?_)
  | true=>
   rw[ho]at hO;obtain⟨R,hR⟩:∃R,cB l (k:Int)=R:=⟨_,rfl⟩;rw[hR];rw[cD,<-De hx ho]at hR;repeat' ((conv=>whnf);first|refine Or.inl ?_|apply oi|apply fi|intro h|refine⟨k,x.tr,rfl,ab hx,?_⟩|refine ci hO (ai rfl trivial) ?_|exact Y2|refine e_ rfl ?_)
   conv=>whnf
   refine⟨KM l k R,fun q=>⟨[(0,vP l),(5,tI .i64 (q.1.2:Int)),(6,tI .i64 (q.1.1:Int))],[],[]⟩,fun q=>l.length-q.1.1,⟨(k,0),g_,o_,fun _=>rfl,hR⟩,?_,?_⟩
   ·exact Z1
   intro⟨⟨i,o⟩,hi,VN,hs,hr⟩;dsimp only at hi VN hs hr⊢;by_cases M3:i<l.length
   ·obtain⟨y,hy⟩:=ae M3;have TJ:=mb y.J5;rw[dN hy]at hr
    cases SS:dT y.J5 with
    | true=>
     rw[SS]at TJ;rw[c7 SS]at hr;have h7:y.J5≠7:=(by rw[opensK_iff]at SS;omega);repeat' ((conv=>whnf);first|refine Or.inl ?_|apply oi|apply fi|intro h|refine⟨i,y.tr,rfl,ab hy,?_⟩|refine ci TJ (ai rfl trivial) ?_|exact Y2|refine e_ rfl ?_)
     all_goals try exact Q2
     all_goals try exact K3
     conv=>whnf
     refine⟨⟨(i+1,o+1),g_,g_,fun h=>o_,hr⟩,?_,KD⟩;repeat' ((conv=>whnf);first|refine Or.inl ?_|apply oi|apply fi|intro h|exact Y3|refine e_ rfl ?_)
     all_goals exact Q4
    | false=>
     rw[SS]at TJ;rw[b8 (by simp[SS])]at hr
     have M9:o≠0:=fun h=>by
      have:=hs h;subst this;rw[hx]at hy;injection hy with hy;subst hy;rw[ho]at SS
      cases SS
     by_cases h7:y.J5=7
     ·rw[c7 h7]at hr;by_cases h1:o=1
      ·rw[c7 h1]at hr;subst hr;subst h1;repeat' ((conv=>whnf);first|refine Or.inl ?_|apply oi|apply fi|intro h|refine⟨i,y.tr,rfl,ab hy,?_⟩|refine ci TJ (ai rfl trivial) ?_|exact Y2|refine e_ rfl ?_)
       all_goals try exact Q2
      ·rw[b8 h1]at hr;repeat' ((conv=>whnf);first|refine Or.inl ?_|apply oi|apply fi|intro h|refine⟨i,y.tr,rfl,ab hy,?_⟩|refine ci TJ (ai rfl trivial) ?_|exact Y2|refine e_ rfl ?_)
       all_goals try exact Q2
       all_goals try exact K3
       conv=>whnf
       refine⟨⟨(i+1,o-1),g_,g_,fun h=>o_,hr⟩,?_,KD⟩;repeat' ((conv=>whnf);first|refine Or.inl ?_|apply oi|apply fi|intro h|exact Y3|refine e_ rfl ?_)
       all_goals exact⟨by dsimp only;congr 1;rw[c6 _ o_];omega⟩
     ·rw[b8 h7]at hr;repeat' ((conv=>whnf);first|refine Or.inl ?_|apply oi|apply fi|intro h|refine⟨i,y.tr,rfl,ab hy,?_⟩|refine ci TJ (ai rfl trivial) ?_|exact Y2|refine e_ rfl ?_)
      all_goals try exact Q2
      all_goals try exact K4
      conv=>whnf
      refine⟨⟨(i+1,o),g_,g_,fun h=>o_,hr⟩,?_,KD⟩;exact Z4
   ·rw[lj o_]at hr;subst hr;exact Z3
 ·have:cB l k= -1:=by
   rw[cB];split
   ·rw[endAt,e9 o_];rfl
   ·rfl
  rw[this];exact Z3
end Go.Proofs.P
namespace Go.Proofs.P
open Go.Sim Tryz
set_option maxRecDepth 100000
theorem Jo {α:Type}{D t:List α}{r:α}{n:Nat}(h:D.length=n):(D++r::t)[n]?=some r:=by subst h;simp
theorem Jl {α:Type}{D t:List α}{r r':α}{n:Nat}(h:D.length=n):(D++r::t).set n r'=D++r'::t:=by subst h;simp
theorem jc (a:List (List Tr)):(aL a).length=a.length:=by simp[aL]
theorem jj {l:List (List Tr)}{k:Nat}{r:List Tr}(h:l[k]?=some r):(aL l)[k]?=some (r.map .d):=by simp[aL,h]
theorem rj (l:List (List Tr))(k:Nat)(r:List Tr):(aL l).set k (r.map .d)=aL (l.set k r):=by simp[aL,F9]
theorem aB {A:Prop}{Q:(ι:Type)->(ι->St)->Prop}(h:A):A\/∃(ι:Type) (S:ι->St),Q ι S:=Or.inl h
theorem nk {α:Type}{g:α->List Tr}(l:List α)(h:∀x,∀c∈g x,∀sz rs,c≠.lst sz rs):flat (l.map g):=by intro row hr c hc sz rs;obtain⟨x,_,rfl⟩:=n9.1 hr;exact h x c hc sz rs
theorem bh (l:List Int):flat (l.map aa):=nk _ (by intro x c hc sz rs e;subst e;simp[aa]at hc)
end Go.Proofs.P
namespace Go.Proofs.P
open Go.Sim Tryz
theorem kQ (l:List (List UInt8)):flat (l.map aq):=nk _ (by intro x c hc sz rs e;subst e;simp[aq]at hc)
theorem CP {l:List Mq}{k:Nat}{x:Mq}(hx:l[k]?=some x)(h:x.J5≠3\/endAt l k=none):elseAt l k=none:=by
 unfold elseAt;rw[hx]
 cases he:endAt l k with
 | none=>rfl
 | some e=>
  dsimp only;rw[b8];rcases h with h|h
  ·exact h
  ·rw[he]at h;cases h
theorem V52{p:Prop}(h:p:=by
 repeat' ((conv=>whnf);first|refine Or.inl ?_|apply oi|apply fi|intro h|refine ci hE (ai rfl (ai rfl trivial)) ?_|refine⟨k,x.tr,rfl,ab hx,?_⟩|exact Y2|refine e_ rfl ?_)
 all_goals try(exfalso;(try simp_all[af]);(try omega);done)):p:=h
theorem V86{p:Prop}(h:p:=by
 repeat' ((conv=>whnf);first|refine Or.inl ?_|apply oi|apply fi|intro h|refine ci hE (ai rfl (ai rfl trivial)) ?_|exact Y2|refine e_ rfl ?_)):p:=h
theorem kx (l:List Mq)(k:Int)(hl:l.length<=1048576):Sim.Spec prog 173 [tvP l,tvI k] (rI (cG l k)):=by
 refine ag hΓ aE func173 rfl d_ rfl ?_;have M0:(l.map Mq.tr).length=l.length:=s_;have hE:=cY l k hl
 cases he:endAt l k.toNat with
 | none=>
  have h1:cB l k= -1:=by rw[cB,he];split<;>rfl
  have h2:cG l k= -1:=by
   rw[cG];split
   ·unfold elseAt;rw[he];cases l[k.toNat]?<;>rfl
   ·rfl
  rw[h1]at hE;rw[h2]
  repeat' ((conv=>whnf);first|refine Or.inl ?_|apply oi|apply fi|intro h|refine ci hE (ai rfl (ai rfl trivial)) ?_|exact Y2|refine e_ rfl ?_)
 | some e=>
  obtain⟨x,hx,ho,_,Ob,NC⟩:=aN he;by_cases h0:0<=k
  ·obtain⟨k,rfl⟩:=gt h0;rw[d6]at he hx Ob;rw[cD,bY he]at hE;by_cases h3:x.J5=3
   ·obtain⟨R,hR⟩:∃R,cG l (k:Int)=R:=⟨_,rfl⟩;rw[hR]
    have hR:cS (elseN l e (e-(k+1)) (k+1))=R:=by rw[cG,c7 h0,d6,elseAt,hx,he]at hR;dsimp only at hR;rw[c7 h3]at hR;exact hR
    repeat' ((conv=>whnf);first|refine Or.inl ?_|apply oi|apply fi|intro h|refine ci hE (ai rfl (ai rfl trivial)) ?_|refine⟨k,x.tr,rfl,ab hx,?_⟩|exact Y2|refine e_ rfl ?_)
    all_goals try exact Q2
    conv=>whnf
    refine⟨{i:Nat//k<i/\i<=e/\cS (elseN l e (e-i) i)=R},fun q=>⟨[(0,vP l),(5,tI .i64 (e:Int)),(6,tI .i64 (q.1:Int))],[],[]⟩,fun q=>e-q.1,⟨k+1,o_,o_,hR⟩,?_,?_⟩
    ·repeat' ((conv=>whnf);first|refine Or.inl ?_|apply oi|apply fi|intro h|exact Y1|refine e_ rfl ?_)
     all_goals exact Q4
    intro⟨i,S2,hi,hr⟩;dsimp only at S2 hi hr⊢;by_cases M3:i<e
    ·obtain⟨y,hy⟩:=ae (l:=l) (k:=i) o_;rw[Dz M3 hy]at hr;have Wu:=cY l (i:Int) hl;by_cases h4:y.J5=4
     ·rw[c7 h4]at hr;subst hr;repeat' ((conv=>whnf);first|refine Or.inl ?_|apply oi|apply fi|intro h|refine ci Wu (ai rfl (ai rfl trivial)) ?_|refine⟨i,y.tr,rfl,ab hy,?_⟩|exact Y2|refine e_ rfl ?_)
      all_goals try exact Q2
     ·rw[b8 h4]at hr;by_cases h5:y.J5=3\/y.J5=5
      ·rw[c7 h5]at hr;obtain⟨m,hm,Sb,R6⟩:=jx he (i:=i) S2 M3 hy (opensK_iff.2 o_);rw[hm]at hr;dsimp only at hr;rw[cD,bY hm]at Wu;repeat' ((conv=>whnf);first|refine Or.inl ?_|apply oi|apply fi|intro h|refine ci Wu (ai rfl (ai rfl trivial)) ?_|refine⟨i,y.tr,rfl,ab hy,?_⟩|exact Y2|refine e_ rfl ?_)
       all_goals try exact Q2
       all_goals
        conv=>whnf
        refine⟨⟨m+1,o_,o_,hr⟩,?_,KD⟩;repeat' ((conv=>whnf);first|refine Or.inl ?_|apply oi|apply fi|intro h|exact Y3|refine e_ rfl ?_)
        all_goals exact Q4
      ·rw[b8 h5]at hr;repeat' ((conv=>whnf);first|refine Or.inl ?_|apply oi|apply fi|intro h|refine ci Wu (ai rfl (ai rfl trivial)) ?_|refine⟨i,y.tr,rfl,ab hy,?_⟩|exact Y2|refine e_ rfl ?_)
       all_goals try exact Q2
       all_goals try exact Q6
       conv=>whnf
       refine⟨⟨i+1,o_,o_,hr⟩,?_,KD⟩;repeat' ((conv=>whnf);first|refine Or.inl ?_|apply oi|apply fi|intro h|exact Y3|refine e_ rfl ?_)
       all_goals exact Q4
    ·rw[FP o_]at hr;subst hr;exact Z3
   ·have h2:cG l (k:Int)= -1:=by rw[cG,c7 h0,d6,CP hx (.inl h3)];rfl
    rw[h2];exact V52
  ·have h1:cB l k= -1:=(by rw[cB,b8 h0]);have h2:cG l k= -1:=(by rw[cG,b8 h0]);rw[h1]at hE;rw[h2];exact V86
theorem Q11{p:Prop}(h:p:=by exact⟨⟨by simp;omega,by simp;omega⟩⟩):p:=h
theorem cN (l:List Mq)(hl:l.length<=1048576):Sim.Spec prog 62 [tvP l] (rL 1 ((aA l).map fun n:Nat=>aa n)):=by
 refine ag hΓ aE func62 rfl d_ rfl ?_;have M0:(l.map Mq.tr).length=l.length:=s_;obtain⟨R,hR⟩:∃R,aA l=R:=⟨_,rfl⟩;rw[hR];repeat' ((conv=>whnf);first|refine Or.inl ?_|apply oi|apply fi|intro h|exact Y1|refine e_ rfl ?_)
 conv=>whnf
 refine⟨{q:Nat×List Nat//q.1<=l.length/\q.2.length<=q.1/\q.2++funsF (l.drop q.1) q.1=R},fun q=>⟨[(0,vP l),(3,.r (.c (.own (5,0,0)))),(4,tI .i64 (q.1.1:Int))],[((5,0,0),some (.arr true 1 (q.1.2.map fun n:Nat=>aa n)))],[5]⟩,fun q=>l.length-q.1.1,⟨(0,[]),s_,s_,by simpa [aA]using hR⟩,?_,?_⟩
 ·exact Z1
 intro⟨⟨k,acc⟩,hk,NA,hr⟩;dsimp only at hk NA hr⊢;have aaF:(acc.map fun n:Nat=>aa n).length=acc.length:=s_;by_cases M3:k<l.length
 ·obtain⟨x,hx⟩:=ae M3;rw[Bc hx]at hr;by_cases h0:x.J5=0
  ·rw[c7 h0]at hr;repeat' ((conv=>whnf);first|refine Or.inl ?_|apply oi|apply fi|intro h|refine⟨k,x.tr,rfl,ab hx,?_⟩|exact Y2|refine e_ rfl ?_)
   all_goals try exact Q2
   all_goals try exact Q11
   conv=>whnf
   refine⟨⟨(k+1,acc++[k]),g_,by simp;omega,by rw[<-hr];simp⟩,?_,KD⟩;repeat' ((conv=>whnf);first|refine Or.inl ?_|apply oi|apply fi|intro h|exact Y3|refine e_ rfl ?_)
   all_goals exact⟨by simp[aa]⟩
  ·rw[b8 h0,t7]at hr;repeat' ((conv=>whnf);first|refine Or.inl ?_|apply oi|apply fi|intro h|refine⟨k,x.tr,rfl,ab hx,?_⟩|exact Y2|refine e_ rfl ?_)
   all_goals try exact Q2
   conv=>whnf
   refine⟨⟨(k+1,acc),g_,g_,hr⟩,?_,KD⟩;exact Z4
 ·rw[m9 o_,funsF,m7]at hr;subst hr;exact Z3
theorem dM (l:List Mq)(s:List UInt8)(hl:l.length<=1048576):Sim.Spec prog 120 [tvP l,tvS s] (rI (md l s)):=by
 refine ag hΓ aE func120 rfl d_ rfl ?_;have M0:(l.map Mq.tr).length=l.length:=s_;obtain⟨R,hR⟩:∃R,md l s=R:=⟨_,rfl⟩;rw[hR];repeat' ((conv=>whnf);first|refine Or.inl ?_|apply oi|apply fi|intro h|exact Y1|refine e_ rfl ?_)
 conv=>whnf
 refine⟨{k:Nat//k<=l.length/\cS (findN (l.drop k) k s)=R},fun q=>⟨[(0,vP l),(1,tS s),(5,tI .i64 (q.1:Int))],[],[]⟩,fun q=>l.length-q.1,⟨0,o_,hR⟩,?_,?_⟩
 ·exact Z1
 intro⟨k,hk,hr⟩;dsimp only at hk hr⊢;by_cases M3:k<l.length
 ·obtain⟨x,hx⟩:=ae M3;rw[Hj hx]at hr;by_cases h0:x.J5=0/\x.L0=s
  ·rw[c7 h0]at hr;obtain⟨h1,h2⟩:=h0;subst h2;subst hr;repeat' ((conv=>whnf);first|refine Or.inl ?_|apply oi|apply fi|intro h|refine⟨k,x.tr,rfl,ab hx,?_⟩|exact Y2|refine e_ rfl ?_)
   all_goals try exact Q2
  ·rw[b8 h0]at hr;repeat' ((conv=>whnf);first|refine Or.inl ?_|apply oi|apply fi|intro h|refine⟨k,x.tr,rfl,ab hx,?_⟩|exact Y2|refine e_ rfl ?_)
   all_goals try(exfalso;apply h0;simp_all;done)
   all_goals
    conv=>whnf
    refine⟨⟨k+1,o_,hr⟩,?_,KD⟩;exact Z4
 ·rw[m9 o_,findN]at hr;subst hr;exact Z3
abbrev rN (l:List (List UInt8)):Res:=rL 1 (l.map aq)
theorem BD {l:List Mq}{k e:Nat}{x:Mq}(hx:l[k]?=some x)(he:endAt l k=some e)(h0:x.J5=0):localsOf l (k:Int)=locN l e (e-k) k x.L9:=by rw[localsOf,c7 o_,d6,hx,he];dsimp only;rw[c7 h0]
theorem pk {l:List Mq}{k:Int}(h:∀e x,endAt l k.toNat=some e->l[k.toNat]?=some x->0<=k->x.J5≠0):localsOf l k=[]:=by
 rw[localsOf];split
 ·split
  ·rename_i x e hx he;rw[b8 (h e x he hx aak)]
  ·rfl
 ·rfl
theorem Gq {l:List Mq}{k:Int}(hl:l.length<=1048576)(hs:∀x∈l,az 1048576 x.tr):(localsOf l k).length<=2097152/\True:=by
 refine⟨?_,trivial⟩;rw[localsOf];split
 ·split
  ·rename_i x e hx he;obtain⟨_,_,_,_,h1,h2⟩:=aN he;have:=(fT (hs x (c9 hx))).2.1;split
   ·have:=BR (l:=l) (e:=e) (e-k.toNat) k.toNat x.L9;omega
   ·simp
  ·simp
 ·simp
theorem fP (l:List (List UInt8))(s:List UInt8)(hl:l.length<=2097152):Sim.Spec prog 176 [tvL 1 (l.map aq),tvS s] (rI (dJ l s)):=by
 refine ag hΓ aE func176 rfl d_ rfl ?_;have M0:(l.map aq).length=l.length:=s_;obtain⟨R,hR⟩:∃R,dJ l s=R:=⟨_,rfl⟩;rw[hR];repeat' ((conv=>whnf);first|refine Or.inl ?_|apply oi|apply fi|intro h|exact Y1|refine e_ rfl ?_)
 conv=>whnf
 refine⟨{k:Nat//k<=l.length/\cS (iL (l.drop k) k s)=R},fun k=>⟨[(0,.r (.c (.t (.lst 1 (l.map aq))))),(1,tS s),(5,tI .i64 (k.1:Int))],[],[]⟩,fun k=>l.length-k.1,⟨0,o_,hR⟩,?_,?_⟩
 ·exact Z1
 intro⟨k,hk,hr⟩;dsimp only at hk hr⊢;by_cases M3:k<l.length
 ·obtain⟨x,hx⟩:=ae M3;rw[JF hx]at hr
  cases he:(x==s)with
  | true=>
   rw[he,c7 rfl]at hr;have O4:=B2 he;subst O4;subst hr;repeat' ((conv=>whnf);first|refine Or.inl ?_|apply oi|apply fi|intro h|refine⟨k,(aq x),rfl,ab hx,?_⟩|exact Y2|refine e_ rfl ?_)
   all_goals try exact Q2
  | false=>
   rw[he,b8 s_]at hr;repeat' ((conv=>whnf);first|refine Or.inl ?_|apply oi|apply fi|intro h|refine⟨k,(aq x),rfl,ab hx,?_⟩|exact Y2|refine e_ rfl ?_)
   all_goals try exact Q2
   conv=>whnf
   refine⟨⟨k+1,o_,hr⟩,?_,KD⟩;exact Z4
 ·rw[m9 o_,iL]at hr;subst hr;exact Z3
theorem jd (l:List Mq)(k:Int)(hl:l.length<=1048576)(hs:∀x∈l,az 1048576 x.tr):Sim.Spec prog 172 [tvP l,tvI k] (rN (localsOf l k)):=by
 refine ag hΓ aE func172 rfl d_ rfl ?_;have M0:(l.map Mq.tr).length=l.length:=s_;have hE:=cY l k hl;by_cases h0:0<=k
 ·obtain⟨k,rfl⟩:=gt h0;rw[cD]at hE
  cases he:endAt l k with
  | none=>
   rw[sr he]at hE;rw[pk (fun e x h1 _ _=>by rw[d6,he]at h1;cases h1)]
   exact V86
  | some e=>
   rw[bY he]at hE;obtain⟨x,hx,ho,_,Ob,NC⟩:=aN he;by_cases Oz:x.J5=0
   ·have Qr:=fT (hs x (c9 hx));rw[BD hx he Oz];obtain⟨R,hR⟩:∃R,locN l e (e-k) k x.L9=R:=⟨_,rfl⟩;rw[hR];have NA:(x.L9.map aq).length=x.L9.length:=s_;repeat' ((conv=>whnf);first|refine Or.inl ?_|apply oi|apply fi|intro h|refine ci hE (ai rfl (ai rfl trivial)) ?_|refine⟨k,x.tr,rfl,ab hx,?_⟩|exact Y2|refine e_ rfl ?_)
    all_goals try exact Q2
    all_goals try exact Q11
    conv=>whnf
    refine⟨{q:Nat×List (List UInt8)//k<=q.1/\q.1<=e/\q.2.length<=1048576+q.1/\locN l e (e-q.1) q.1 q.2=R},fun q=>⟨[(0,vP l),(5,tI .i64 (e:Int)),(6,.r (.c (.own (6,0,0)))),(7,tI .i64 (q.1.1:Int))],[((6,0,0),some (.arr false 1 (q.1.2.map aq)))],[6]⟩,fun q=>e-q.1.1,⟨(k,x.L9),g_,g_,g_,hR⟩,?_,?_⟩
    ·repeat' ((conv=>whnf);first|refine Or.inl ?_|apply oi|apply fi|intro h|exact Y1|refine e_ rfl ?_)
     all_goals exact⟨s_⟩
    intro⟨⟨i,acc⟩,S2,hi,Ye,hr⟩;dsimp only at S2 hi Ye hr⊢;have N8:(acc.map aq).length=acc.length:=s_;by_cases M3:i<e
    ·obtain⟨y,hy⟩:=ae (l:=l) (k:=i) o_;rw[Gx M3 hy]at hr;have hC:=fP acc y.L0 o_;by_cases h1:y.J5=1
     ·rw[c7 h1]at hr;have PZ:=xH (l:=acc) (s:=y.L0)
      generalize dJ acc y.L0=ix at *
      unfold gg at hr
      cases hc:acc.contains y.L0 with
      | true=>
       rw[hc]at PZ hr;rw[c7 rfl]at hr;repeat' ((conv=>whnf);first|refine Or.inl ?_|apply oi|apply fi|intro h|refine ci hC (ai rfl (ai rfl trivial)) ?_|refine⟨i,y.tr,rfl,ab hy,?_⟩|exact Y2|refine e_ rfl ?_)
       all_goals try exact Q2
       all_goals
        conv=>whnf
        refine⟨⟨(i+1,acc),g_,g_,g_,hr⟩,?_,KD⟩
        exact Z4
      | false=>
       rw[hc]at PZ hr;rw[b8 s_]at hr;repeat' ((conv=>whnf);first|refine Or.inl ?_|apply oi|apply fi|intro h|refine ci hC (ai rfl (ai rfl trivial)) ?_|refine⟨i,y.tr,rfl,ab hy,?_⟩|exact Y2|refine e_ rfl ?_)
       all_goals try exact Q2
       all_goals try exact Q11
       all_goals
        conv=>whnf
        refine⟨⟨(i+1,acc++[y.L0]),g_,g_,by simp;omega,hr⟩,?_,KD⟩;repeat' ((conv=>whnf);first|refine Or.inl ?_|apply oi|apply fi|intro h|exact Y3|refine e_ rfl ?_)
        all_goals exact⟨by simp[aq]⟩
     ·rw[b8 h1]at hr;repeat' ((conv=>whnf);first|refine Or.inl ?_|apply oi|apply fi|intro h|refine ci hC (ai rfl (ai rfl trivial)) ?_|refine⟨i,y.tr,rfl,ab hy,?_⟩|exact Y2|refine e_ rfl ?_)
      all_goals try exact Q2
      all_goals try exact Q6
      conv=>whnf
      refine⟨⟨(i+1,acc),g_,g_,g_,hr⟩,?_,KD⟩;exact Z4
    ·rw[IU o_]at hr;subst hr;repeat' ((conv=>whnf);first|refine Or.inl ?_|apply oi|apply fi|intro h|exact Y2|refine e_ rfl ?_)
     all_goals exact⟨⟨rfl,kQ _⟩⟩
   ·rw[pk (fun e x' h1 h2 _=>by rw[d6,hx]at h2;injection h2 with h2;subst h2;exact Oz)];exact V52
 ·have h1:cB l k= -1:=by rw[cB,b8 h0]
  rw[h1]at hE;rw[pk (fun e x _ _ h=>absurd h h0)];exact V86
abbrev vN (l:List (List UInt8)):AV:= .r (.c (.t (.lst 1 (l.map aq))))
theorem Lj {α:Type}{f:α->Bool}{l:List α}{k:Nat}{x:α}(hx:l[k]?=some x):(l.drop k).all f=(f x&&(l.drop (k+1)).all f):=by rw[cJ hx,E9]
abbrev nR (n:Nat):List Tr:=aa n
theorem GG {l:List Mq}{x:Mq}(hx:l[0]?=some x):headOk l=(x.J5==0&&(x.L0==kP&&x.L9.length==0)):=by
 cases l with
 | nil=>cases hx
 | cons y r=>rw[f9]at hx;injection hx with hx;subst hx;rfl
end Go.Proofs.P
