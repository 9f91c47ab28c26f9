import Derived.Test.YtoglejgmjeojoaaGreatGd
import Derived.Test.YtoglejgmjeojoaaGreatRows
set_option maxRecDepth 100000
set_option maxHeartbeats 4000000
namespace Go.Sim
theorem K1 {p:Prop}(h:p:=by dsimp only;rw[c6 _ (by omega)];rfl):p:=h
theorem K2 {p:Prop}(h:False:=by simp at *;omega):p:=h.elim
theorem K3 {p:Prop}(h:False:=by simp(disch:=omega)only[c6]at *;simp only[w8]at *;omega):p:=h.elim
theorem K4 {p:Prop}(h:False:=by simp only[w8]at *;omega):p:=h.elim
theorem K5 {p:Prop}(h:p:=by rw[c6 _ (by omega)];rfl):p:=h
theorem K6 {p:Prop}(h:p:=by rw[c6 _ (by omega)];omega):p:=h
theorem K7 {k:IntKind}{a b:Int}(h:a=b:=by dsimp only;rw[c6 _ (by omega)];omega):Tr.int k a=Tr.int k b:=congrArg (Tr.int k) h
theorem K8 {p:Prop}(h:False:=by simp_all;omega):p:=h.elim
theorem KD {p:Prop}(h:p:=by dsimp only;omega):p:=h
theorem Y1{p:Prop}(h:p:=by first|rfl|exact⟨KO⟩):p:=h
theorem Y2{p:Prop}(h:p:=by first|rfl|exact⟨KO⟩|exact KX):p:=h
theorem Y3{p:Prop}(h:p:=by first|rfl|exact⟨KO⟩|exact⟨K1⟩):p:=h
theorem Y4{p:Prop}(h:p:=by first|rfl|exact⟨KO⟩|exact KX|exact K2):p:=h
theorem Y5{p:Prop}(h:p:=by first|rfl|exact⟨KP⟩|exact KX):p:=h
theorem Y6{p:Prop}(h:p:=by first|rfl|exact⟨KP⟩|exact⟨K1⟩):p:=h
theorem Y7{p:Prop}(h:p:=by first|rfl|exact⟨KP⟩):p:=h
theorem Y8{p:Prop}(h:p:=by first|rfl|exact⟨KP⟩|exact⟨KW⟩):p:=h
theorem Y9{p:Prop}(h:p:=by first|rfl|exact⟨KP⟩|exact KX|exact⟨KW⟩|exact KK):p:=h
theorem Y10{p:Prop}(h:p:=by first|rfl|exact⟨KP⟩|exact KX|exact KK):p:=h
theorem Y11{p:Prop}(h:p:=by first|rfl|exact⟨KP⟩|exact KX|exact⟨KW⟩):p:=h
theorem Y12{p:Prop}(h:p:=by first|rfl|exact⟨KO⟩|exact KX|exact⟨K6⟩):p:=h
theorem Y13{p:Prop}(h:p:=by first|rfl|exact⟨KP⟩|exact KK):p:=h
theorem Y14{p:Prop}(h:p:=by first|rfl|exact⟨KP⟩|exact⟨K7⟩):p:=h
theorem Y15{p:Prop}(h:p:=by first|rfl|exact⟨KO⟩|exact K8):p:=h
theorem Y16{p:Prop}(h:p:=by first|rfl|exact⟨KR⟩):p:=h
theorem Z1{p:Prop}(h:p:=by(repeat' ((conv=>whnf);first|refine Or.inl ?_|apply oi|apply fi|intro h|exact Y1|refine e_ rfl ?_));skip):p:=h
theorem Z2{p:Prop}(h:p:=by(repeat' ((conv=>whnf);first|apply Wx|apply W6|apply oi|apply fi|intro h|exact Y7|refine e_ rfl ?_));skip):p:=h
theorem Z3{p:Prop}(h:p:=by(repeat' ((conv=>whnf);first|refine Or.inl ?_|apply oi|apply fi|intro h|exact Y3|refine e_ rfl ?_));skip):p:=h
theorem Z4{p:Prop}(h:p:=by(repeat' ((conv=>whnf);first|refine Or.inl ?_|apply oi|apply fi|intro h|exact Y2|refine e_ rfl ?_));skip):p:=h
theorem Z5{p:Prop}(h:p:=by(repeat' ((conv=>whnf);first|apply Wx|apply W6|apply oi|apply fi|intro h|exact Y6|refine e_ rfl ?_));skip):p:=h
theorem Z6{p:Prop}(h:p:=by(repeat' ((conv=>whnf);first|apply Wx|apply W6|apply oi|apply fi|intro h|exact Y8|refine e_ rfl ?_));skip):p:=h
theorem Z7{p:Prop}(h:p:=by(repeat' ((conv=>whnf);first|apply Wx|apply W6|apply oi|apply fi|intro h|exact Y5|refine e_ rfl ?_));skip):p:=h
end Go.Sim
namespace Go.Proofs.P
open Go.Sim Tryz
abbrev e0 := AC.t (Tr.int Go.IntKind.i64 (Int.ofNat 0))
abbrev e1 := AC.t (Tr.bool false)
abbrev e2 := AC.t (Tr.str [])
abbrev e3 := AC.nils 0
abbrev e4 (s b : Nat) (z : List AC) : LK := {size:=s,bytes:=b,agg:=true,zero:=z}
abbrev e5 (s b : Nat) (z : List AC) : LK := {size:=s,bytes:=b,agg:=false,zero:=z}
def Γ:Env:=[(2,{size:=1,bytes:=8,agg:=false,zero:=[e0],kind:=some Go.IntKind.i64}),
(3,{size:=1,bytes:=8,agg:=false,zero:=[e0],kind:=some Go.IntKind.i64}),
(4,{size:=1,bytes:=1,agg:=false,zero:=[e1],bool:=true}),
(5,{size:=1,bytes:=1,agg:=false,zero:=[AC.t (Tr.int Go.IntKind.u8 (Int.ofNat 0))],kind:=some Go.IntKind.u8}),
(6,{size:=1,bytes:=1,agg:=false,zero:=[AC.t (Tr.int Go.IntKind.u8 (Int.ofNat 0))],kind:=some Go.IntKind.u8}),
(7,{size:=4,bytes:=24,agg:=true,zero:=[e0,e0,e1,AC.t (Tr.int Go.IntKind.u8 (Int.ofNat 0))],fields:=[(0,1,2),(1,1,3),(2,1,4),(3,1,6)]}),
(8,{size:=4,bytes:=24,agg:=true,zero:=[e0,e0,e1,AC.t (Tr.int Go.IntKind.u8 (Int.ofNat 0))],fields:=[(0,1,2),(1,1,3),(2,1,4),(3,1,6)]}),
(9,{size:=1,bytes:=16,agg:=false,zero:=[e2],str:=true}),
(10,{size:=1,bytes:=16,agg:=false,zero:=[e2],str:=true}),
(11,{size:=1,bytes:=16,agg:=false,zero:=[e2],str:=true}),
(15,e5 1 8 [AC.nilp]),
(16,e5 1 8 [AC.nilp]),
(17,e5 1 8 [AC.nilp]),
(18,{size:=1,bytes:=8,agg:=true,zero:=[AC.nilp],fields:=[(0,1,17)]}),
(19,{size:=1,bytes:=8,agg:=true,zero:=[AC.nilp],fields:=[(0,1,17)]}),
(20,e5 1 16 [AC.opq]),
(21,{size:=1,bytes:=4,agg:=false,zero:=[AC.t (Tr.int Go.IntKind.i32 (Int.ofNat 0))],kind:=some Go.IntKind.i32}),
(22,{size:=1,bytes:=24,agg:=false,zero:=[e3],elem:=some 5}),
(24,{size:=1,bytes:=24,agg:=false,zero:=[e3],elem:=some 138}),
(25,{size:=4,bytes:=24,agg:=true,zero:=[e0,e0,e1,e1],fields:=[(0,1,3),(1,1,3),(2,1,4),(3,1,4)]}),
(26,{size:=4,bytes:=24,agg:=true,zero:=[e0,e0,e1,e1],fields:=[(0,1,3),(1,1,3),(2,1,4),(3,1,4)]}),
(27,{size:=1,bytes:=24,agg:=false,zero:=[e3],elem:=some 93}),
(28,{size:=1,bytes:=24,agg:=false,zero:=[e3],elem:=some 3}),
(29,{size:=3,bytes:=72,agg:=true,zero:=[e3,e3,e3],fields:=[(0,1,27),(1,1,28),(2,1,28)]}),
(30,{size:=3,bytes:=72,agg:=true,zero:=[e3,e3,e3],fields:=[(0,1,27),(1,1,28),(2,1,28)]}),
(33,{size:=1,bytes:=24,agg:=false,zero:=[e3],elem:=some 118}),
(35,{size:=1,bytes:=24,agg:=false,zero:=[e3],elem:=some 103}),
(37,{size:=1,bytes:=24,agg:=false,zero:=[e3],elem:=some 33}),
(38,{size:=7,bytes:=88,agg:=true,zero:=[e0,e0,e0,e3,e3,e0,e0],fields:=[(0,1,3),(1,1,3),(2,1,3),(3,1,28),(4,1,28),(5,1,3),(6,1,3)]}),
(39,{size:=7,bytes:=88,agg:=true,zero:=[e0,e0,e0,e3,e3,e0,e0],fields:=[(0,1,3),(1,1,3),(2,1,3),(3,1,28),(4,1,28),(5,1,3),(6,1,3)]}),
(44,{size:=4,bytes:=48,agg:=true,zero:=[e0,e0,e0,e3],fields:=[(0,1,3),(1,1,3),(2,1,3),(3,1,28)]}),
(45,{size:=4,bytes:=48,agg:=true,zero:=[e0,e0,e0,e3],fields:=[(0,1,3),(1,1,3),(2,1,3),(3,1,28)]}),
(47,{size:=2,bytes:=16,agg:=true,zero:=[e0,e0],fields:=[(0,1,3),(1,1,3)]}),
(48,{size:=2,bytes:=16,agg:=true,zero:=[e0,e0],fields:=[(0,1,3),(1,1,3)]}),
(59,{size:=1,bytes:=24,agg:=false,zero:=[e3],elem:=some 135}),
(60,{size:=4,bytes:=24,agg:=true,zero:=[e0,e0,e1,e1],fields:=[(0,1,3),(1,1,3),(2,1,4),(3,1,4)]}),
(76,{size:=1,bytes:=24,agg:=false,zero:=[e3],elem:=some 28}),
(77,{size:=4,bytes:=64,agg:=true,zero:=[e3,e3,e0,e0],fields:=[(0,1,28),(1,1,76),(2,1,3),(3,1,3)]}),
(78,{size:=4,bytes:=64,agg:=true,zero:=[e3,e3,e0,e0],fields:=[(0,1,28),(1,1,76),(2,1,3),(3,1,3)]}),
(82,{size:=1,bytes:=24,agg:=false,zero:=[e3],elem:=some 111}),
(83,{size:=1,bytes:=24,agg:=false,zero:=[e3],elem:=some 186}),
(84,{size:=1,bytes:=24,agg:=false,zero:=[e3],elem:=some 192}),
(85,{size:=5,bytes:=104,agg:=true,zero:=[e0,e3,e3,e3,e3],fields:=[(0,1,3),(1,1,82),(2,1,33),(3,1,83),(4,1,84)]}),
(86,{size:=5,bytes:=104,agg:=true,zero:=[e0,e3,e3,e3,e3],fields:=[(0,1,3),(1,1,82),(2,1,33),(3,1,83),(4,1,84)]}),
(92,{size:=2,bytes:=40,agg:=true,zero:=[e2,e3],fields:=[(0,1,9),(1,1,82)]}),
(93,{size:=2,bytes:=40,agg:=true,zero:=[e2,e3],fields:=[(0,1,9),(1,1,82)]}),
(100,{size:=7,bytes:=72,agg:=true,zero:=[e0,e0,e0,e1,e3,e0,e1],fields:=[(0,2,48),(2,1,3),(3,1,4),(4,1,28),(5,1,3),(6,1,4)]}),
(101,{size:=7,bytes:=72,agg:=true,zero:=[e0,e0,e0,e1,e3,e0,e1],fields:=[(0,2,48),(2,1,3),(3,1,4),(4,1,28),(5,1,3),(6,1,4)]}),
(102,{size:=8,bytes:=80,agg:=true,zero:=[e0,e0,e0,e0,e1,e3,e0,e1],fields:=[(0,1,3),(1,7,101)]}),
(103,{size:=8,bytes:=80,agg:=true,zero:=[e0,e0,e0,e0,e1,e3,e0,e1],fields:=[(0,1,3),(1,7,101)]}),
(104,{size:=1,bytes:=24,agg:=false,zero:=[e3],elem:=some 108}),
(107,{size:=2,bytes:=24,agg:=true,zero:=[e2,e0],fields:=[(0,1,9),(1,1,3)]}),
(108,{size:=2,bytes:=24,agg:=true,zero:=[e2,e0],fields:=[(0,1,9),(1,1,3)]}),
(110,{size:=3,bytes:=32,agg:=true,zero:=[e2,e0,e0],fields:=[(0,1,9),(1,1,3),(2,1,3)]}),
(111,{size:=3,bytes:=32,agg:=true,zero:=[e2,e0,e0],fields:=[(0,1,9),(1,1,3),(2,1,3)]}),
(113,e5 1 8 [AC.nilp]),
(117,{size:=4,bytes:=32,agg:=true,zero:=[e0,e0,e1,e0],fields:=[(0,1,3),(1,1,3),(2,1,4),(3,1,3)]}),
(118,{size:=4,bytes:=32,agg:=true,zero:=[e0,e0,e1,e0],fields:=[(0,1,3),(1,1,3),(2,1,4),(3,1,3)]}),
(123,{size:=1,bytes:=24,agg:=false,zero:=[e3],elem:=some 101}),
(132,{size:=1,bytes:=24,agg:=false,zero:=[e3],elem:=some 9}),
(133,{size:=1,bytes:=24,agg:=false,zero:=[e3],elem:=some 265}),
(134,{size:=4,bytes:=72,agg:=true,zero:=[e0,e2,e3,e3],fields:=[(0,1,3),(1,1,9),(2,1,132),(3,1,133)]}),
(135,{size:=4,bytes:=72,agg:=true,zero:=[e0,e2,e3,e3],fields:=[(0,1,3),(1,1,9),(2,1,132),(3,1,133)]}),
(136,{size:=1,bytes:=24,agg:=false,zero:=[e3],elem:=some 221}),
(137,{size:=4,bytes:=72,agg:=true,zero:=[e0,e2,e3,e3],fields:=[(0,1,3),(1,1,9),(2,1,132),(3,1,136)]}),
(138,{size:=4,bytes:=72,agg:=true,zero:=[e0,e2,e3,e3],fields:=[(0,1,3),(1,1,9),(2,1,132),(3,1,136)]}),
(140,{size:=1,bytes:=24,agg:=false,zero:=[e3],elem:=some 35}),
(153,e5 1 8 [AC.nilp]),
(154,{size:=7,bytes:=120,agg:=true,zero:=[e3,e0,e3,e3,e0,e0,e3],fields:=[(0,1,24),(1,1,3),(2,4,78),(6,1,28)]}),
(155,{size:=7,bytes:=120,agg:=true,zero:=[e3,e0,e3,e3,e0,e0,e3],fields:=[(0,1,24),(1,1,3),(2,4,78),(6,1,28)]}),
(169,e5 1 8 [AC.nilp]),
(170,{size:=3,bytes:=32,agg:=true,zero:=[e2,e0,e1],fields:=[(0,1,9),(1,1,3),(2,1,4)]}),
(171,{size:=3,bytes:=32,agg:=true,zero:=[e2,e0,e1],fields:=[(0,1,9),(1,1,3),(2,1,4)]}),
(185,{size:=3,bytes:=24,agg:=true,zero:=[e0,e0,e1],fields:=[(0,1,3),(1,1,3),(2,1,4)]}),
(186,{size:=3,bytes:=24,agg:=true,zero:=[e0,e0,e1],fields:=[(0,1,3),(1,1,3),(2,1,4)]}),
(191,{size:=5,bytes:=48,agg:=true,zero:=[e0,e0,e0,e0,e2],fields:=[(0,1,3),(1,1,3),(2,1,3),(3,1,3),(4,1,9)]}),
(192,{size:=5,bytes:=48,agg:=true,zero:=[e0,e0,e0,e0,e2],fields:=[(0,1,3),(1,1,3),(2,1,3),(3,1,3),(4,1,9)]}),
(195,{size:=3,bytes:=40,agg:=true,zero:=[e3,e0,e0],fields:=[(0,1,22),(1,1,3),(2,1,3)]}),
(196,{size:=3,bytes:=40,agg:=true,zero:=[e3,e0,e0],fields:=[(0,1,22),(1,1,3),(2,1,3)]}),
(207,e5 1 8 [AC.nilp]),
(208,{size:=8,bytes:=96,agg:=true,zero:=[e0,e0,e0,e3,e3,e0,e0,e1],fields:=[(0,7,39),(7,1,4)]}),
(209,{size:=8,bytes:=96,agg:=true,zero:=[e0,e0,e0,e3,e3,e0,e0,e1],fields:=[(0,7,39),(7,1,4)]}),
(220,{size:=3,bytes:=32,agg:=true,zero:=[e0,e0,e2],fields:=[(0,1,3),(1,1,3),(2,1,9)]}),
(221,{size:=3,bytes:=32,agg:=true,zero:=[e0,e0,e2],fields:=[(0,1,3),(1,1,3),(2,1,9)]}),
(230,e5 1 8 [AC.nilp]),
(231,e5 1 8 [AC.nilp]),
(232,{size:=2,bytes:=16,agg:=true,zero:=[AC.nilp,e1],fields:=[(0,1,231),(1,1,4)]}),
(233,{size:=2,bytes:=16,agg:=true,zero:=[AC.nilp,e1],fields:=[(0,1,231),(1,1,4)]}),
(250,e5 1 8 [AC.nilp]),
(251,{size:=1,bytes:=24,agg:=false,zero:=[e3],elem:=some 255}),
(252,{size:=13,bytes:=144,agg:=true,zero:=[e3,e0,e0,e1,e1,e1,e0,e0,e0,e0,e3,e3,e1],fields:=[(0,1,24),(1,4,26),(5,1,4),(6,1,3),(7,1,3),(8,1,3),(9,1,3),(10,1,123),(11,1,251),(12,1,4)]}),
(253,{size:=13,bytes:=144,agg:=true,zero:=[e3,e0,e0,e1,e1,e1,e0,e0,e0,e0,e3,e3,e1],fields:=[(0,1,24),(1,4,26),(5,1,4),(6,1,3),(7,1,3),(8,1,3),(9,1,3),(10,1,123),(11,1,251),(12,1,4)]}),
(254,{size:=6,bytes:=96,agg:=true,zero:=[e0,e3,e3,e0,e1,e3],fields:=[(0,1,3),(1,1,28),(2,1,132),(3,1,3),(4,1,4),(5,1,28)]}),
(255,{size:=6,bytes:=96,agg:=true,zero:=[e0,e3,e3,e0,e1,e3],fields:=[(0,1,3),(1,1,28),(2,1,132),(3,1,3),(4,1,4),(5,1,28)]}),
(257,{size:=1,bytes:=24,agg:=false,zero:=[e3],elem:=some 48}),
(265,{size:=3,bytes:=32,agg:=true,zero:=[e0,e0,e2],fields:=[(0,1,3),(1,1,3),(2,1,9)]}),
(272,e5 1 8 [AC.nilp]),
(273,{size:=4,bytes:=80,agg:=true,zero:=[AC.nilp,e3,e3,e3],fields:=[(0,1,113),(1,1,132),(2,1,132),(3,1,28)]}),
(274,{size:=4,bytes:=80,agg:=true,zero:=[AC.nilp,e3,e3,e3],fields:=[(0,1,113),(1,1,132),(2,1,132),(3,1,28)]}),
(280,{size:=1,bytes:=24,agg:=false,zero:=[e3],elem:=some 283}),
(282,{size:=2,bytes:=16,agg:=true,zero:=[e0,e0],fields:=[(0,1,3),(1,1,3)]}),
(283,{size:=2,bytes:=16,agg:=true,zero:=[e0,e0],fields:=[(0,1,3),(1,1,3)]}),
(287,e5 1 8 [AC.nilp]),
(288,{size:=11,bytes:=128,agg:=true,zero:=[e3,e0,e0,e1,e1,e1,e0,e0,e3,e0,e3],fields:=[(0,1,24),(1,4,26),(5,1,4),(6,1,3),(7,1,3),(8,1,123),(9,1,3),(10,1,28)]}),
(289,{size:=11,bytes:=128,agg:=true,zero:=[e3,e0,e0,e1,e1,e1,e0,e0,e3,e0,e3],fields:=[(0,1,24),(1,4,26),(5,1,4),(6,1,3),(7,1,3),(8,1,123),(9,1,3),(10,1,28)]}),
(290,e5 1 8 [AC.nilp]),
(291,{size:=8,bytes:=112,agg:=true,zero:=[e0,e0,e3,e0,e0,e3,e0,e3],fields:=[(0,1,3),(1,1,3),(2,1,132),(3,1,3),(4,1,3),(5,1,28),(6,1,3),(7,1,28)]}),
(292,{size:=8,bytes:=112,agg:=true,zero:=[e0,e0,e3,e0,e0,e3,e0,e3],fields:=[(0,1,3),(1,1,3),(2,1,132),(3,1,3),(4,1,3),(5,1,28),(6,1,3),(7,1,28)]}),
(299,e5 1 8 [AC.nilp]),
(303,{size:=1,bytes:=8,agg:=false,zero:=[AC.opq],map:=some (some Go.IntKind.i64)}),
(308,{size:=1,bytes:=4,agg:=false,zero:=[AC.t (Tr.int Go.IntKind.u32 (Int.ofNat 0))],kind:=some Go.IntKind.u32}),
(309,{size:=1,bytes:=24,agg:=false,zero:=[e3],elem:=some 136}),
(313,{size:=4,bytes:=40,agg:=true,zero:=[AC.nilp,AC.nilp,AC.nilp,e2],fields:=[(0,1,17),(1,1,17),(2,1,17),(3,1,9)]}),
(314,{size:=4,bytes:=40,agg:=true,zero:=[AC.nilp,AC.nilp,AC.nilp,e2],fields:=[(0,1,17),(1,1,17),(2,1,17),(3,1,9)]}),
(318,{size:=1,bytes:=1,agg:=false,zero:=[AC.t (Tr.int Go.IntKind.u8 (Int.ofNat 0))],kind:=some Go.IntKind.u8}),
(319,{size:=1,bytes:=1,agg:=false,zero:=[AC.t (Tr.int Go.IntKind.u8 (Int.ofNat 0))],kind:=some Go.IntKind.u8}),
(321,e5 1 8 [AC.nilp]),
(322,{size:=1,bytes:=4,agg:=false,zero:=[AC.t (Tr.int Go.IntKind.i32 (Int.ofNat 0))],kind:=some Go.IntKind.i32}),
(323,{size:=1,bytes:=4,agg:=false,zero:=[AC.t (Tr.int Go.IntKind.i32 (Int.ofNat 0))],kind:=some Go.IntKind.i32}),
(326,e5 1 8 [AC.nilp])]
theorem hΓ:Γ.chk prog=true:=by kernel_rfl
theorem aG:prog.follows .mixedOrders=true:=by kernel_rfl
end Go.Proofs.P
namespace Go.Proofs.P
open Go.Sim Tryz Go.ChangeShapes Go.WideShapes Go.ChangeAt Go.RowKit
theorem own:ownKnob prog.godebug=none:=by kernel_rfl
theorem JC:laidOutB prog=true:=by kernel_rfl
theorem AA {α:Type}{g:α->List Tr}{Q:α->Prop}:∀{rows:List (List Tr)},(∀r∈rows,∃m,r=g m/\Q m)->∃ns:List α,rows=ns.map g/\∀m∈ns,Q m
 | [],_=>⟨[],rfl,fun _ h=>by cases h⟩
 | r::rows,h=>by
  obtain⟨m,rfl,hm⟩:=h r s_;obtain⟨ns,rfl,RZ⟩:=AA (rows:=rows) fun r hr=>h r aau
  exact⟨m::ns,rfl,fun x hx=>by
   rcases d6.1 hx with rfl|hx
   ·exact hm
   ·exact RZ x hx⟩
end Go.Proofs.P
namespace Go.Proofs.P
open Go.Sim Tryz
abbrev tvI (n:Int):TV:= .c (.int .i64 n)
abbrev tvB (n:Bool):TV:= .c (.bool n)
abbrev tvS (n:List UInt8):TV:= .c (.str n)
abbrev rI (n:Int):Res:= .r (.c (.t (.int .i64 n)))
abbrev rB (b:Bool):Res:= .r (.c (.t (.bool b)))
abbrev rS (b:List UInt8):Res:= .r (.c (.t (.str b)))
def af (n lo hi:Int):Bool:=decide (lo<=n)&&decide (n<=hi)
theorem within_iff {n lo hi:Int}:af n lo hi=true↔lo<=n/\n<=hi:=by simp[af]
set_option maxRecDepth 100000
theorem V68{p:Prop}(h:p:=by
 repeat' ((conv=>whnf);first|refine Or.inl ?_|apply oi|apply fi|intro h|exact Y1|refine e_ rfl ?_)
 all_goals refine⟨?_⟩
 all_goals simp_all[af]
 all_goals omega):p:=h
theorem ba (n lo hi:Int):Sim.Spec prog 74 [tvI n,tvI lo,tvI hi] (rB (af n lo hi)):=by refine ak hΓ aG func74 rfl d_ rfl ?_;exact V68
theorem aP (n lo hi:Int):Sim.Spec prog 61 [tvI n,tvI lo,tvI hi] (rB (af n lo hi)):=by refine ak hΓ aG func61 rfl d_ rfl ?_;exact V68
def signed (n:Int):Int:=if af n 0 1099511627775 then(if n%2=1 then -((n+1)/2)else n/2)else 0
end Go.Proofs.P
namespace Go.Proofs.P
open Go.Sim Tryz
set_option maxRecDepth 100000
def Li (n:Nat):List UInt8:=if n<=127 then [UInt8.ofNat n]else UInt8.ofNat (n%128+128)::Li (n/128)
 termination_by n
 decreasing_by omega
def enc (n:Int):List UInt8:=if af n 0 1099511627775 then Li n.toNat else []
end Go.Proofs.P
namespace Go.Proofs.P
open Go.Sim Tryz Go.RowKit
def inI (n:Int):Prop:= -9223372036854775808<=n/\n<=9223372036854775807
def aa (n:Int):List Tr:=[.int .i64 n]
def ao (s:List UInt8):List Tr:=[.str s]
def cQ {α:Type}(sz:Nat)(g:α->List Tr)(l:List α):List Tr:=[.lst sz (l.map g)]
structure LS where
 I9:Int
 J7:Int
def LS.tr (x:LS):List Tr:=[.int .i64 x.I9,.int .i64 x.J7]
def LS.wf (x:LS):Prop:=inI x.I9/\inI x.J7
structure LZ where
 J1:Int
 Mc:Int
 J8:List UInt8
def LZ.tr (x:LZ):List Tr:=[.int .i64 x.J1,.int .i64 x.Mc,.str x.J8]
def LZ.wf (x:LZ):Prop:=inI x.J1/\inI x.Mc/\x.J8.length<=maxLen
structure LP where
 J1:Int
 J8:List UInt8
 L5:List (List UInt8)
 K9:List LZ
def LP.tr (x:LP):List Tr:=[.int .i64 x.J1,.str x.J8,.lst 1 (x.L5.map ao),.lst 3 (x.K9.map LZ.tr)]
def LP.wf (x:LP):Prop:=inI x.J1/\x.J8.length<=maxLen/\(x.L5.length<=maxLen/\∀y∈x.L5,y.length<=maxLen)/\(x.K9.length<=maxLen/\∀y∈x.K9,y.wf)
structure LG where
 Mo:Int
 Md:Int
 Mv:Bool
 Mt:Bool
def LG.tr (x:LG):List Tr:=[.int .i64 x.Mo,.int .i64 x.Md,.bool x.Mv,.bool x.Mt]
def LG.wf (x:LG):Prop:=inI x.Mo/\inI x.Md
structure LO where
 J2:LS
 Mi:Int
 L4:Bool
 Mm:List Int
 Me:Int
 Mn:Bool
def LO.tr (x:LO):List Tr:=[.int .i64 x.J2.I9,.int .i64 x.J2.J7,.int .i64 x.Mi,.bool x.L4,.lst 1 (x.Mm.map aa),.int .i64 x.Me,.bool x.Mn]
def LO.wf (x:LO):Prop:=x.J2.wf/\inI x.Mi/\(x.Mm.length<=maxLen/\∀y∈x.Mm,inI y)/\inI x.Me
structure LY where
 J8:List UInt8
 L4:Int
 Mk:Int
def LY.tr (x:LY):List Tr:=[.str x.J8,.int .i64 x.L4,.int .i64 x.Mk]
def LY.wf (x:LY):Prop:=x.J8.length<=maxLen/\inI x.L4/\inI x.Mk
structure LM where
 I9:List UInt8
 L8:List LY
def LM.tr (x:LM):List Tr:=[.str x.I9,.lst 3 (x.L8.map LY.tr)]
def LM.wf (x:LM):Prop:=x.I9.length<=maxLen/\(x.L8.length<=maxLen/\∀y∈x.L8,y.wf)
structure LX where
 Mp:List LM
 Mr:List Int
 L9:List Int
def LX.tr (x:LX):List Tr:=[.lst 2 (x.Mp.map LM.tr),.lst 1 (x.Mr.map aa),.lst 1 (x.L9.map aa)]
def LX.wf (x:LX):Prop:=(x.Mp.length<=maxLen/\∀y∈x.Mp,y.wf)/\(x.Mr.length<=maxLen/\∀y∈x.Mr,inI y)/\(x.L9.length<=maxLen/\∀y∈x.L9,inI y)
structure LQ where
 K0:Int
 J5:Int
 L0:Int
 Mg:List Int
 L7:List Int
 L6:Int
 faG:Int
def LQ.tr (x:LQ):List Tr:=[.int .i64 x.K0,.int .i64 x.J5,.int .i64 x.L0,.lst 1 (x.Mg.map aa),.lst 1 (x.L7.map aa),.int .i64 x.L6,.int .i64 x.faG]
def LQ.wf (x:LQ):Prop:=inI x.K0/\inI x.J5/\inI x.L0/\(x.Mg.length<=maxLen/\∀y∈x.Mg,inI y)/\(x.L7.length<=maxLen/\∀y∈x.L7,inI y)/\inI x.L6/\inI x.faG
structure LU where
 Mf:Int
 L3:LO
def LU.tr (x:LU):List Tr:=[.int .i64 x.Mf,.int .i64 x.L3.J2.I9,.int .i64 x.L3.J2.J7,.int .i64 x.L3.Mi,.bool x.L3.L4,.lst 1 (x.L3.Mm.map aa),.int .i64 x.L3.Me,.bool x.L3.Mn]
def LU.wf (x:LU):Prop:=inI x.Mf/\x.L3.wf
structure LW where
 L4:Int
 Mh:Int
 Ml:Bool
 Me:Int
def LW.tr (x:LW):List Tr:=[.int .i64 x.L4,.int .i64 x.Mh,.bool x.Ml,.int .i64 x.Me]
def LW.wf (x:LW):Prop:=inI x.L4/\inI x.Mh/\inI x.Me
structure Ma where
 K0:Int
 J5:Int
 L0:Int
 Mb:List Int
def Ma.tr (x:Ma):List Tr:=[.int .i64 x.K0,.int .i64 x.J5,.int .i64 x.L0,.lst 1 (x.Mb.map aa)]
def Ma.wf (x:Ma):Prop:=inI x.K0/\inI x.J5/\inI x.L0/\(x.Mb.length<=maxLen/\∀y∈x.Mb,inI y)
structure LV where
 Mf:Int
 Mi:Int
 L4:Bool
def LV.tr (x:LV):List Tr:=[.int .i64 x.Mf,.int .i64 x.Mi,.bool x.L4]
def LV.wf (x:LV):Prop:=inI x.Mf/\inI x.Mi
structure LN where
 L4:Int
 Mh:Int
 Mu:Int
 Mi:Int
 J8:List UInt8
def LN.tr (x:LN):List Tr:=[.int .i64 x.L4,.int .i64 x.Mh,.int .i64 x.Mu,.int .i64 x.Mi,.str x.J8]
def LN.wf (x:LN):Prop:=inI x.L4/\inI x.Mh/\inI x.Mu/\inI x.Mi/\x.J8.length<=maxLen
structure LI where
 faM:Int
 L8:List LY
 faK:List LW
 faJ:List LV
 faL:List LN
def LI.tr (x:LI):List Tr:=[.int .i64 x.faM,.lst 3 (x.L8.map LY.tr),.lst 4 (x.faK.map LW.tr),.lst 3 (x.faJ.map LV.tr),.lst 5 (x.faL.map LN.tr)]
def LI.wf (x:LI):Prop:=inI x.faM/\(x.L8.length<=maxLen/\∀y∈x.L8,y.wf)/\(x.faK.length<=maxLen/\∀y∈x.faK,y.wf)/\(x.faJ.length<=maxLen/\∀y∈x.faJ,y.wf)/\(x.faL.length<=maxLen/\∀y∈x.faL,y.wf)
structure LJ where
 J8:List UInt8
 Mi:Int
def LJ.tr (x:LJ):List Tr:=[.str x.J8,.int .i64 x.Mi]
def LJ.wf (x:LJ):Prop:=x.J8.length<=maxLen/\inI x.Mi
end Go.Proofs.P
namespace Go.Proofs.P
open Go.Sim Tryz
set_option maxRecDepth 100000
abbrev tvL (sz:Nat)(rows:List (List Tr)):TV:= .c (.lst sz rows)
abbrev rL (sz:Nat)(rows:List (List Tr)):Res:= .r (.c (.arr sz rows))
theorem ab {α β:Type}{f:α->β}{l:List α}{k:Nat}{x:α}(h:l[k]?=some x):(l.map f)[k]?=some (f x):=by simp[h]
theorem ae {α:Type}{l:List α}{k:Nat}(h:k<l.length):∃x,l[k]?=some x:=⟨_,i7 h⟩
theorem cF {α:Type}{l:List α}{k:Nat}{x:α}(h:l[k]?=some x):l.drop k=x::l.drop (k+1):=by
 have hk:k<l.length:=by
  rcases m7 k l.length with h'|h'
  ·exact h'
  ·rw[e9 h']at h;cases h
 rw[i7 hk]at h;injection h with h;rw[<-h];exact C2 hk
end Go.Proofs.P
namespace Go.Proofs.P
open Go.Sim Tryz Go.RowKit
set_option maxRecDepth 100000
theorem bg {α:Type}{g:α->List Tr}{L:Int}{l:List α}{sz:Nat}(h:aw L (.lst sz (l.map g))){x:α}(hx:x∈l):aF L (g x):=by rw[aw]at h;exact sN h.2 _ (List.mem_map_of_mem hx)
theorem nB {α:Type}{g:α->List Tr}{L:Int}{l:List α}{sz:Nat}(h:aw L (.lst sz (l.map g))):(l.length:Int)<=L:=by rw[aw]at h;simpa using h.1
theorem bE {α:Type}{g:α->List Tr}{l:List α}{sz:Nat}(h:aw 1048576 (.lst sz (l.map g))):l.length<=1048576:=by have:=nB h;omega
end Go.Proofs.P
namespace Go.Proofs.P
open Go.Sim Tryz
set_option maxRecDepth 100000
theorem Dj (bs:List UInt8):Sim.Spec prog 9 [tvL 1 (bs.map aY)] (rB (decide (1048576<(bs.length:Int)))):=by
 refine ak hΓ aG func9 rfl d_ rfl ?_;have hl:(bs.map aY).length=bs.length:=s_;repeat' ((conv=>whnf);first|refine Or.inl ?_|apply oi|apply fi|intro h|exact Y1|refine e_ rfl ?_)
 exact⟨by rw[hl]⟩
end Go.Proofs.P
namespace Go.Proofs.P
open Go.Sim Tryz
def cP (last:Int)(r:LW):Prop:=last<=r.L4/\r.L4<r.Mh/\r.Mh<=1000000/\0<=r.Me/\r.Me<=1200/\(r.Ml=true->r.Me=0)
instance (last:Int) (r:LW):Decidable (cP last r):=by unfold cP;infer_instance
def bI:Int->List LW->Bool
 | _,[]=>true
 | p,r::l=>if cP p r then bI r.Mh l else false
def jZ (l:List LW):Bool:=bI 0 l
def iT (l:List LW)(k:Nat):Int:=if k=0 then 0 else match l[k-1]? with|some r=>r.Mh|none=>0
theorem ws {l:List LW}{k:Nat}{x:LW}(h:l[k]?=some x):iT l (k+1)=x.Mh:=by rw[iT,b8 o_];simp[h]
theorem Dr {l:List LW}{k:Nat}{x:LW}(hx:l[k]?=some x):bI (iT l k) (l.drop k)=if cP (iT l k) x then bI (iT l (k+1)) (l.drop (k+1))else false:=by rw[cF hx,bI,ws hx]
theorem Hn {l:List LW}{k:Nat}{x:LW}(hx:l[k]?=some x)(h0:0<=iT l k)(hb:cP (iT l k) x):0<=iT l (k+1):=by rw[ws hx];unfold cP at hb;omega
abbrev JI (l:List LW)(R:Bool):={k:Nat//k<=l.length/\0<=iT l k/\bI (iT l k) (l.drop k)=R}
theorem Q16{p:Prop}(h:p:=by exfalso;apply hb;(try simp_all[af]);(try omega);first|done|fail):p:=h
theorem Q2{p:Prop}(h:p:=by exfalso;(try simp_all[af]);(try omega);first|done|fail):p:=h
theorem vf (l:List LW)(hl:l.length<=1048576):Sim.Spec prog 103 [tvL 4 (l.map LW.tr)] (rB (jZ l)):=by
 refine ak hΓ aG func103 rfl d_ rfl ?_;have Mw:(l.map LW.tr).length=l.length:=s_;obtain⟨R,hR⟩:∃R,jZ l=R:=⟨_,rfl⟩;rw[hR];repeat' ((conv=>whnf);first|refine Or.inl ?_|apply oi|apply fi|intro h|exact Y1|refine e_ rfl ?_)
 conv=>whnf
 refine⟨JI l R,fun k=>⟨[(0,.r (.c (.t (.lst 4 (l.map LW.tr))))),(5,.r (.c (.t (.lst 4 (l.map LW.tr))))),(6,tI .i64 ((l.map LW.tr).length:Int)),(7,tI .i64 (k.1:Int))],[],[]⟩,fun k=>l.length-k.1,⟨0,o_,by simp[iT],hR⟩,?_,?_⟩
 ·exact Z1
 intro⟨k,hk,h0,hr⟩;dsimp only;by_cases Mz:k<l.length
 ·obtain⟨x,hx⟩:=ae Mz;rw[Dr hx]at hr;have Vf:=Hn hx h0;have Vl:∀y,0<k->l[k-1]?=some y->iT l k=y.Mh:=fun y h1 h2=>by rw[iT,b8 o_,h2]
  have RH:k=0->iT l k=0:=fun h1=>by rw[iT,c7 h1]
  have hw:0<k->IntKind.i64.wrap (↑k-1)=((k-1:Nat):Int):=fun h=>by rw[c6 _ o_];omega
  by_cases hb:cP (iT l k) x
  ·rw[c7 hb]at hr;have Vf:=Vf hb;unfold cP at hb;rcases v3 k with N1|N1
   ·have RH:=RH N1
    cases Ni:x.Ml
    all_goals
     repeat' ((conv=>whnf);first|refine Or.inl ?_|apply oi|apply fi|intro h|refine⟨k,x.tr,rfl,ab hx,?_⟩|refine ci (ba _ _ _) (ai rfl (ai rfl (ai rfl trivial))) ?_|exact Y2|refine e_ rfl ?_)
     all_goals try exact Q2
     conv=>whnf
     refine⟨⟨k+1,o_,Vf,hr⟩,?_,KD⟩;exact Z3
   ·obtain⟨y,hy⟩:=ae (l:=l) (k:=k-1) o_;have Vl:=Vl y N1 hy;have hw:=hw N1
    cases Ni:x.Ml
    all_goals
     repeat' ((conv=>whnf);first|refine Or.inl ?_|apply oi|apply fi|intro h|refine⟨k,x.tr,rfl,ab hx,?_⟩|refine⟨(k-1),y.tr,hw,ab hy,?_⟩|refine ci (ba _ _ _) (ai rfl (ai rfl (ai rfl trivial))) ?_|exact Y2|refine e_ rfl ?_)
     all_goals try exact Q2
     conv=>whnf
     refine⟨⟨k+1,o_,Vf,hr⟩,?_,KD⟩;exact Z3
  ·rw[b8 hb]at hr;subst hr;unfold cP at hb;rcases v3 k with N1|N1
   ·have RH:=RH N1
    cases Ni:x.Ml
    all_goals
     repeat' ((conv=>whnf);first|refine Or.inl ?_|apply oi|apply fi|intro h|refine⟨k,x.tr,rfl,ab hx,?_⟩|refine ci (ba _ _ _) (ai rfl (ai rfl (ai rfl trivial))) ?_|exact Y2|refine e_ rfl ?_)
     all_goals try exact Q16
   ·obtain⟨y,hy⟩:=ae (l:=l) (k:=k-1) o_;have Vl:=Vl y N1 hy;have hw:=hw N1
    cases Ni:x.Ml
    all_goals
     repeat' ((conv=>whnf);first|refine Or.inl ?_|apply oi|apply fi|intro h|refine⟨k,x.tr,rfl,ab hx,?_⟩|refine⟨(k-1),y.tr,hw,ab hy,?_⟩|refine ci (ba _ _ _) (ai rfl (ai rfl (ai rfl trivial))) ?_|exact Y2|refine e_ rfl ?_)
     all_goals try exact Q16
 ·have MT:l.length<=k:=o_;rw[n9 MT,bI]at hr;subst hr;exact Z4
def cr (off:Int):List LW->Nat->Int
 | [],_=> -1
 | r::l,i=>if r.L4<=off/\off<r.Mh then(i:Int)else cr off l (i+1)
def cO (l:List LW)(off:Int):Int:=if jZ l then cr off l 0 else -1
theorem AP {off:Int}{l:List LW}{k:Nat}{x:LW}(hx:l[k]?=some x):cr off (l.drop k) k=if x.L4<=off/\off<x.Mh then(k:Int)else cr off (l.drop (k+1)) (k+1):=by rw[cF hx,cr]
theorem V51{p:Prop}(h:p:=by
 subst hr;repeat' ((conv=>whnf);first|refine Or.inl ?_|apply oi|apply fi|intro h|refine⟨k,x.tr,rfl,ab hx,?_⟩|exact Y2|refine e_ rfl ?_)
 all_goals try(exfalso;(try simp_all[af]);(try omega);done)):p:=h
theorem lO (l:List LW)(off:Int)(hl:l.length<=1048576):Sim.Spec prog 138 [tvL 4 (l.map LW.tr),tvI off] (rI (cO l off)):=by
 refine ak hΓ aG func138 rfl d_ rfl ?_;have Mw:(l.map LW.tr).length=l.length:=s_;unfold cO;repeat' ((conv=>whnf);first|refine Or.inl ?_|apply oi|apply fi|intro h|refine ci ((vf l hl)) (ai rfl trivial) ?_|exact Y1|refine e_ rfl ?_)
 ·have h':jZ l=false:=by simpa using h
  exact⟨by rw[h'];rfl⟩
 have h':jZ l=true:=by simpa using h
 rw[h',c7 rfl];obtain⟨R,hR⟩:∃R,cr off l 0=R:=⟨_,rfl⟩;rw[hR];conv=>whnf
 refine⟨{k:Nat//k<=l.length/\cr off (l.drop k) k=R},fun k=>⟨[(1,tI .i64 off),(10,.r (.c (.t (.lst 4 (l.map LW.tr))))),(11,tI .i64 ((l.map LW.tr).length:Int)),(12,tI .i64 (k.1:Int))],[],[]⟩,fun k=>l.length-k.1,⟨0,s_,hR⟩,?_,?_⟩
 ·exact Z1
 intro⟨k,hk,hr⟩;dsimp only at hk hr⊢;by_cases Mz:k<l.length
 ·obtain⟨x,hx⟩:=ae Mz;rw[AP hx]at hr;by_cases hb:x.L4<=off/\off<x.Mh
  ·rw[c7 hb]at hr;exact V51
  ·rw[b8 hb]at hr;repeat' ((conv=>whnf);first|refine Or.inl ?_|apply oi|apply fi|intro h|refine⟨k,x.tr,rfl,ab hx,?_⟩|exact Y2|refine e_ rfl ?_)
   all_goals try exact Q16
   all_goals
    conv=>whnf
    refine⟨⟨k+1,o_,hr⟩,?_,KD⟩;exact Z3
 ·have MT:l.length<=k:=o_;rw[n9 MT,cr]at hr;subst hr;exact Z4
def pK (r:LW):Prop:=0<=r.L4/\r.L4<r.Mh/\r.Mh<=1000000/\0<=r.Me/\r.Me<=1200
theorem kZ:∀{l:List LW} {p:Int},0<=p->bI p l=true->∀r∈l,pK r
 | [],_,_,_,r,hr=>by cases hr
 | x::l,p,h0,h,r,hr=>by
  rw[bI]at h;split at h
  ·rename_i hb;unfold cP at hb;rcases d6.1 hr with rfl|hr
   ·unfold pK;omega
   ·exact kZ o_ h r hr
  ·cases h
def fo (v:Ma):Bool:=af v.J5 0 1200&&decide ((v.Mb.length:Int)<=1200-v.J5)
theorem nY (v:Ma):Sim.Spec prog 24 [.agg v.tr] (rB (fo v)):=by
 refine ak hΓ aG func24 rfl d_ rfl ?_;unfold fo;have Mw:(v.Mb.map aa).length=v.Mb.length:=s_
 cases hw:af v.J5 0 1200 with
 | false=>
  have hs:=ba v.J5 0 1200;rw[hw]at hs
  repeat' ((conv=>whnf);first|refine Or.inl ?_|apply oi|apply fi|intro h|refine ci hs (ai rfl (ai rfl (ai rfl trivial))) ?_|exact Y1|refine e_ rfl ?_)
 | true=>
  have hs:=ba v.J5 0 1200;rw[hw]at hs;have hb:=within_iff.1 hw;repeat' ((conv=>whnf);first|refine Or.inl ?_|apply oi|apply fi|intro h|refine ci hs (ai rfl (ai rfl (ai rfl trivial))) ?_|exact Y1|refine e_ rfl ?_)
  exact⟨by rw[c6 _ o_,Mw];rfl⟩
def dk (v:Ma)(a:Int):Option Int:=if fo v=true/\af a v.J5 (v.J5+v.Mb.length-1)=true then v.Mb[(a-v.J5).toNat]? else none
def oI (o:Option Int):Int:=match o with|some x=>x|none=>0
abbrev Le (o:Option Int):Res:= .tup [.c (.t (.int .i64 (oI o))),.c (.t (.bool o.isSome))]
theorem viewOk_iff {v:Ma}:fo v=true↔(0<=v.J5/\v.J5<=1200)/\(v.Mb.length:Int)<=1200-v.J5:=by unfold fo;rw[b9,within_iff,j5]
theorem eC (v:Ma)(a:Int):Sim.Spec prog 22 [.agg v.tr,tvI a] (Le (dk v a)):=by
 refine ak hΓ aG func22 rfl d_ rfl ?_;have hs:=nY v;have Mw:(v.Mb.map aa).length=v.Mb.length:=s_;unfold dk
 cases hv:fo v with
 | false=>
  rw[hv]at hs;rw[b8 s_]
  repeat' ((conv=>whnf);first|refine Or.inl ?_|apply oi|apply fi|intro h|refine ci hs (ai (ai rfl (ai rfl (ai rfl (ai rfl trivial)))) trivial) ?_|exact Y1|refine e_ rfl ?_)
 | true=>
  rw[hv]at hs;have YI:=viewOk_iff.1 hv
  have w1:IntKind.i64.wrap (IntKind.i64.wrap (v.J5+(v.Mb.map aa).length)-1)=v.J5+v.Mb.length-1:=by rw[Mw,c6 (v.J5+v.Mb.length) o_,c6 _ o_]
  have Rs:=ba a v.J5 (IntKind.i64.wrap (IntKind.i64.wrap (v.J5+(v.Mb.map aa).length)-1))
  cases hw:af a v.J5 (v.J5+v.Mb.length-1)with
  | false=>
   rw[b8 s_];have Uu:=Rs;rw[w1,hw]at Uu;rw[<-hw,<-w1]at Uu;repeat' ((conv=>whnf);first|refine Or.inl ?_|apply oi|apply fi|intro h|refine ci hs (ai (ai rfl (ai rfl (ai rfl (ai rfl trivial)))) trivial) ?_|refine ci Rs (ai rfl (ai rfl (ai rfl trivial))) ?_|exact Y1|refine e_ rfl ?_)
   all_goals(rw[w1,hw]at *;simp at *)
  | true=>
   have hb:=within_iff.1 hw;rw[c7 ⟨rfl,rfl⟩];obtain⟨j,hj⟩:=j6 (show 0<=a-v.J5 by omega);obtain⟨x,hx⟩:=ae (l:=v.Mb) (k:=j) o_;have w2:IntKind.i64.wrap (a-v.J5)=(j:Int):=(by rw[c6 _ o_];exact hj);rw[hj,d7,hx];repeat' ((conv=>whnf);first|refine Or.inl ?_|apply oi|apply fi|intro h|refine ci hs (ai (ai rfl (ai rfl (ai rfl (ai rfl trivial)))) trivial) ?_|refine ci Rs (ai rfl (ai rfl (ai rfl trivial))) ?_|refine⟨j,aa x,w2,ab hx,?_⟩|exact Y1|refine e_ rfl ?_)
   all_goals try exact absurd hw (by have:=h;rw[w1]at this;simpa using this)
def cI (m:LQ):Bool:=(m.Mg.length==1200)&&af m.J5 0 1200&&af m.L6 0 2
theorem kN (m:LQ):Sim.Spec prog 67 [.agg m.tr] (rB (cI m)):=by
 refine ak hΓ aG func67 rfl d_ rfl ?_;have Mw:(m.Mg.map aa).length=m.Mg.length:=s_;unfold cI;repeat' ((conv=>whnf);first|refine Or.inl ?_|apply oi|apply fi|intro h|refine ci (aP _ _ _) (ai rfl (ai rfl (ai rfl trivial))) ?_|exact Y1|refine e_ rfl ?_)
 all_goals(refine⟨congrArg Tr.bool ?_⟩;simp_all;try omega)
def low (b:UInt8):Bool:=decide (97<=b.toNat)&&decide (b.toNat<=122)
def db (s:List UInt8):Bool:=s.all low&&af s.length 1 8
abbrev Gw (s:List UInt8):={k:Nat//k<=s.length/\(s.take k).all low=true}
theorem Bp {α:Type}{p:α->Bool}{s:List α}{k:Nat}{b:α}(h:(s.take k).all p=true)(hb:s[k]?=some b)(hp:p b=true):(s.take (k+1)).all p=true:=by rw[B2,hb];simp_all
theorem DW {α:Type}{p:α->Bool}{s:List α}{k:Nat}{b:α}(hb:s[k]?=some b)(hp:p b=false):s.all p=false:=by
 rw[Bool.eq_false_iff];intro h;rw[o8]at h;rw[h b (c9 hb)]at hp
 cases hp
theorem V13{p:Prop}(h:p:=by
 obtain⟨b,hb⟩:=ae Mz;have PM:=b.toNat_lt
 cases Pq:low b with
 | false=>
  rw[DW hb Pq];unfold low at Pq;repeat' ((conv=>whnf);first|refine Or.inl ?_|apply oi|apply fi|intro h|refine⟨k,b,rfl,hb,?_⟩|exact Y2|refine e_ rfl ?_)
  all_goals(exfalso;simp at *;omega)
 | true=>
  have Wj:=Bp hp hb Pq;unfold low at Pq;repeat' ((conv=>whnf);first|refine Or.inl ?_|apply oi|apply fi|intro h|refine⟨k,b,rfl,hb,?_⟩|exact Y4|refine e_ rfl ?_)
  conv=>whnf
  refine⟨⟨k+1,o_,Wj⟩,?_,KD⟩
  exact Z3):p:=h
theorem wZ (s:List UInt8)(hl:s.length<=1099511627775):Sim.Spec prog 210 [tvS s] (rB (db s)):=by
 refine ak hΓ aG func210 rfl d_ rfl ?_;unfold db;repeat' ((conv=>whnf);first|refine Or.inl ?_|apply oi|apply fi|intro h|exact Y1|refine e_ rfl ?_)
 conv=>whnf
 refine⟨Gw s,fun k=>⟨[(0,tS s),(3,tI .i64 (k.1:Int))],[],[]⟩,fun k=>s.length-k.1,⟨0,o_,rfl⟩,?_,?_⟩
 ·exact Z1
 intro⟨k,hk,hp⟩;dsimp only;by_cases Mz:k<s.length
 ·exact V13
 ·have MT:s.length<=k:=o_;rw[gt MT]at hp;rw[hp];repeat' ((conv=>whnf);first|refine Or.inl ?_|apply oi|apply fi|intro h|refine ci (ba _ _ _) (ai rfl (ai rfl (ai rfl trivial))) ?_|exact Y2|refine e_ rfl ?_)
theorem fC (s:List UInt8)(hl:s.length<=1099511627775):Sim.Spec prog 189 [tvS s] (rB (db s)):=by
 refine ak hΓ aG func189 rfl d_ rfl ?_;unfold db;repeat' ((conv=>whnf);first|refine Or.inl ?_|apply oi|apply fi|intro h|exact Y1|refine e_ rfl ?_)
 conv=>whnf
 refine⟨Gw s,fun k=>⟨[(0,tS s),(3,tI .i64 (k.1:Int))],[],[]⟩,fun k=>s.length-k.1,⟨0,o_,rfl⟩,?_,?_⟩
 ·exact Z1
 intro⟨k,hk,hp⟩;dsimp only;by_cases Mz:k<s.length
 ·exact V13
 ·have MT:s.length<=k:=o_;rw[gt MT]at hp;rw[hp];repeat' ((conv=>whnf);first|refine Or.inl ?_|apply oi|apply fi|intro h|refine ci (aP _ _ _) (ai rfl (ai rfl (ai rfl trivial))) ?_|exact Y2|refine e_ rfl ?_)
def behind (p:Option LN)(x:LN):Prop:=match p with
 | none=>True
 | some p=>p.Mu<=x.Mu/\(p.Mu=x.Mu->p.Mh<=x.L4)
instance (p:Option LN) (x:LN):Decidable (behind p x):=by unfold behind;cases p<;>infer_instance
def fw (t:LZ):Bool:=
 if t.J1=0 then af t.Mc 0 999&&t.J8==[]
 else if t.J1=7 then af t.Mc 0 4&&db t.J8
 else if t.J1=1 then t.Mc==0&&db t.J8
 else af t.J1 2 6&&(t.Mc==0&&t.J8==[])
theorem qa (t:LZ)(hl:t.J8.length<=1099511627775):Sim.Spec prog 255 [.agg t.tr] (rB (fw t)):=by
 refine ak hΓ aG func255 rfl d_ rfl ?_;have hN:=fC t.J8 hl;unfold fw
 generalize db t.J8=nb at *
 repeat' ((conv=>whnf);first|refine Or.inl ?_|apply oi|apply fi|intro h|refine ci (aP _ _ _) (ai rfl (ai rfl (ai rfl trivial))) ?_|refine ci hN (ai rfl trivial) ?_|exact Y1|refine e_ rfl ?_)
 all_goals(refine⟨congrArg Tr.bool ?_⟩;simp_all[af];(try(intros;omega));(try((repeat' split)<;>intros<;>omega)))
def mc (t:LZ):Int:=if fw t=false then -1 else if t.J1=7 then t.Mc else if t.J1=0\/t.J1=1 then 0 else 2
theorem ll (t:LZ)(hl:t.J8.length<=1099511627775):Sim.Spec prog 228 [.agg t.tr] (rI (mc t)):=by
 refine ak hΓ aG func228 rfl d_ rfl ?_;have hT:=qa t hl;unfold mc
 generalize fw t=nb at *
 repeat' ((conv=>whnf);first|refine Or.inl ?_|apply oi|apply fi|intro h|refine ci hT (ai (ai rfl (ai rfl (ai rfl trivial))) trivial) ?_|exact Y1|refine e_ rfl ?_)
 all_goals(refine⟨congrArg (Tr.int _) ?_⟩;simp_all)
def ar (t:LZ):Nat:=(mc t).toNat
theorem xY {t:LZ}(h:fw t=true):mc t=(ar t:Int)/\ar t<=4:=by
 unfold ar mc;rw[b8 aaE];unfold fw at h;split
 ·rename_i h7;rw[b8 o_,c7 h7]at h;simp only[b9,within_iff]at h;omega
 ·split<;>omega
def endL:List LZ->Nat->Nat->Option Nat
 | _,p,0=>some p
 | [],_,_+1=>none
 | t::l,p,n+1=>if fw t=true then endL l (p+1) (n+ar t)else none
def cM (o:Option Nat):Int:=match o with|some e=>e|none=> -1
def gn (l:List LZ)(p:Int):Int:=if 0<=p then cM (endL (l.drop p.toNat) p.toNat 1)else -1
theorem IV {l:List LZ}{p n:Nat}{t:LZ}(h:l[p]?=some t):endL (l.drop p) p (n+1)=if fw t=true then endL (l.drop (p+1)) (p+1) (n+ar t)else none:=by rw[cF h,endL]
abbrev Ly (l:List LZ)(R:Int):={q:Nat×Nat//q.1<=l.length/\q.2<=1+4*q.1/\cM (endL (l.drop q.1) q.1 q.2)=R}
def jl (l:List LZ):Prop:=∀t∈l,t.J8.length<=1099511627775
theorem jp (l:List LZ)(p:Int)(hl:l.length<=1048576)(hn:jl l):Sim.Spec prog 238 [tvL 3 (l.map LZ.tr),tvI p] (rI (gn l p)):=by
 refine ak hΓ aG func238 rfl d_ rfl ?_;have Mw:(l.map LZ.tr).length=l.length:=s_;by_cases h0:0<=p
 ·obtain⟨p,rfl⟩:=j6 h0;obtain⟨R,hR⟩:∃R,gn l (p:Int)=R:=⟨_,rfl⟩;rw[hR];rw[gn,c7 h0,d7]at hR;by_cases hlp:p<=l.length
  ·repeat' ((conv=>whnf);first|refine Or.inl ?_|apply oi|apply fi|intro h|exact Y2|refine e_ rfl ?_)
   conv=>whnf
   refine⟨Ly l R,fun q=>⟨[(0,.r (.c (.t (.lst 3 (l.map LZ.tr))))),(1,tI .i64 (q.1.1:Int)),(5,tI .i64 (q.1.2:Int))],[],[]⟩,fun q=>l.length-q.1.1,⟨(p,1),o_,o_,hR⟩,?_,?_⟩
   ·exact Z1
   intro⟨⟨a,n⟩,ha,WL,hr⟩;dsimp only at ha WL hr⊢
   cases n with
   | zero=>
    have:R=(a:Int):=by
     rw[<-hr]
     cases l.drop a<;>rfl
    subst this
    exact Z4
   | succ n=>
    by_cases Mz:a<l.length
    ·obtain⟨t,ht⟩:=ae Mz;rw[IV ht]at hr;have hT:=qa t (hn t (c9 ht));have hA:=ll t (hn t (c9 ht))
     cases MC:fw t with
     | false=>
      rw[MC]at hT;rw[b8 (by simp[MC])]at hr;subst hr
      repeat' ((conv=>whnf);first|refine Or.inl ?_|apply oi|apply fi|intro h|refine⟨a,t.tr,rfl,ab ht,?_⟩|refine ci hT (ai (ai rfl (ai rfl (ai rfl trivial))) trivial) ?_|exact Y2|refine e_ rfl ?_)
     | true=>
      obtain⟨e1,e2⟩:=xY MC;rw[e1]at hA;rw[MC]at hT;rw[c7 MC]at hr;repeat' ((conv=>whnf);first|refine Or.inl ?_|apply oi|apply fi|intro h|refine⟨a,t.tr,rfl,ab ht,?_⟩|refine ci hT (ai (ai rfl (ai rfl (ai rfl trivial))) trivial) ?_|refine ci hA (ai (ai rfl (ai rfl (ai rfl trivial))) trivial) ?_|exact Y2|refine e_ rfl ?_)
      conv=>whnf
      refine⟨⟨(a+1,n+ar t),g_,g_,hr⟩,?_,KD⟩;repeat' ((conv=>whnf);first|refine Or.inl ?_|apply oi|apply fi|intro h|exact Y3|refine e_ rfl ?_)
      all_goals try exact⟨by dsimp only;congr 1;rw[c6 _ o_];omega⟩
      all_goals exact⟨congrArg (Tr.int _) (by dsimp only;simp(disch:=omega)only[c6];omega)⟩
    ·rw[n9 o_,endL]at hr;subst hr;exact Z4
  ·rw[n9 o_,endL]at hR;subst hR;repeat' ((conv=>whnf);first|refine Or.inl ?_|apply oi|apply fi|intro h|exact Y2|refine e_ rfl ?_)
   conv=>whnf
   refine⟨Unit,fun q=>⟨[(0,.r (.c (.t (.lst 3 (l.map LZ.tr))))),(1,tI .i64 (p:Int)),(5,tI .i64 1)],[],[]⟩,fun q=>0,(),?_,?_⟩
   ·exact Z1
   intro q;exact Z4
 ·have he:gn l p= -1:=by rw[gn,b8 h0]
  rw[he];exact Z4
def br (l:List LZ):Bool:=decide (l.length<=20)&&(decide (0<l.length)&&gn l 0==(l.length:Int))
theorem oq (l:List LZ)(hl:l.length<=1048576)(hn:jl l):Sim.Spec prog 191 [tvL 3 (l.map LZ.tr)] (rB (br l)):=by
 refine ak hΓ aG func191 rfl d_ rfl ?_;have Mw:(l.map LZ.tr).length=l.length:=s_;have hE:=jp l 0 hl hn;unfold br
 generalize gn l 0=e at *
 repeat' ((conv=>whnf);first|refine Or.inl ?_|apply oi|apply fi|intro h|refine ci hE (ai rfl (ai rfl trivial)) ?_|exact Y1|refine e_ rfl ?_)
 all_goals(refine⟨congrArg Tr.bool ?_⟩;simp_all;try omega)
def iH {α:Type}[BEq α]:List α->Nat->α->Option Nat
 | [],_,_=>none
 | x::l,i,s=>if(x==s)=true then some i else iH l (i+1) s
theorem Jb {α:Type}[BEq α]{l:List α}{i:Nat}{x s:α}(hx:l[i]?=some x):iH (l.drop i) i s=if(x==s)=true then some i else iH (l.drop (i+1)) (i+1) s:=by rw[cF hx,iH]
theorem nA {α:Type}[BEq α]:∀{l:List α} {i k:Nat} {s:α},iH l i s=some k->i<=k/\k<i+l.length
 | [],_,_,_,h=>by rw[iH]at h;cases h
 | x::l,i,k,s,h=>by
  rw[iH]at h;simp only[d5];split at h
  ·injection h with h;omega
  ·have:=nA h;omega
theorem wF {α:Type}[BEq α][LawfulBEq α]:∀{l:List α} {i:Nat} {s:α},(iH l i s).isSome=l.contains s
 | [],_,_=>rfl
 | x::l,i,s=>by
  rw[iH,List.contains_cons]
  cases h:(x==s)with
  | true=>rw[c7 rfl];simp[B7 h]
  | false=>have h2:(s==x)=false:=(by rw[B4]at h⊢;exact fun e=>h e.symm);rw[b8 s_,h2,C7];exact wF
def dG {α:Type}[BEq α](l:List α)(s:α):Int:=cM (iH l 0 s)
theorem xg {α:Type}[BEq α][LawfulBEq α]{l:List α}{s:α}:decide (0<=dG l s)=l.contains s:=by
 rw[<-wF (i:=0),dG]
 cases iH l 0 s with|none=>rfl|some k=>simp[cM]
def yy (l:List (List UInt8)):Nat->Nat->Bool
 | 0,_=>true
 | n+1,k=>match l[k]? with
  | some s=>if db s=true/\(l.take k).contains s=false then yy l n (k+1)else false
  | none=>true
theorem V109{p:Prop}(h:p:=by
 rcases m7 k l.length with h|h
 ·exact h
 ·rw[e9 h]at hx;cases hx):p:=h
theorem Fj {l:List (List UInt8)}{k:Nat}{s:List UInt8}(hx:l[k]?=some s):yy l (l.length-k) k=if db s=true/\(l.take k).contains s=false then yy l (l.length-(k+1)) (k+1)else false:=by
 have hk:k<l.length:=by exact V109
 rw[show l.length-k=(l.length-(k+1))+1 by omega,yy,hx]
def ug (l:List (List UInt8)):Bool:=yy l l.length 0&&decide (l.length<=4)
def iW (k:Int):Bool:=k==1||(k==2||(k==3||(k==5||k==6)))
theorem qb (k:Int)(hk:af k 0 7=true):Sim.Spec prog 190 [tvI k] (rB (iW k)):=by
 refine ak hΓ aG func190 rfl d_ rfl ?_;have:=within_iff.1 hk;unfold iW;repeat' ((conv=>whnf);first|refine Or.inl ?_|apply oi|apply fi|intro h|exact Y1|refine e_ rfl ?_)
 all_goals(refine⟨congrArg Tr.bool ?_⟩;simp_all;(try(rw[A0];simp;done));(try(rw[A0];simp;omega)))
def cY (x:LP):Bool:=af x.J1 0 7&&((if x.J1=0\/x.J1=1 then db x.J8 else x.J8==[])&&((if x.J1=0 then ug x.L5 else x.L5.length==0)&&(if iW x.J1=true then br x.K9 else x.K9.length==0)))
theorem fM {x:LP}(hs:aF 1048576 x.tr):x.J8.length<=1048576/\x.L5.length<=1048576/\(∀y∈x.L5,y.length<=1048576)/\x.K9.length<=1048576/\(∀y∈x.K9,y.J8.length<=1048576):=by
 simp only[LP.tr,aF]at hs;obtain⟨_,h1,h2,h3,_⟩:=hs;have e1:=nB h2;have e2:=nB h3;refine⟨by rw[aw]at h1;omega,o_,fun y hy=>?_,o_,fun y hy=>?_⟩
 ·have:=bg h2 hy;simp only[ao,aF,aw]at this;omega
 ·have:=bg h3 hy;simp only[LZ.tr,aF,aw]at this;omega
theorem AW {x:LP}(h:af x.J1 0 7=false):cY x=false:=by unfold cY;rw[h];rfl
theorem tv {x:LP}(h:4<x.L5.length):cY x=false:=by
 have h1:ug x.L5=false:=by unfold ug;rw[D5 o_,C9]
 have h2:(x.L5.length==0)=false:=by rw[B4];omega
 unfold cY;rw[h1,h2];split<;>simp
theorem Hq {l:List (List UInt8)}{k i:Nat}{y s:List UInt8}(hi:i<k)(hy:l[i]?=some y):((l.take k).drop i).contains s=(s==y||((l.take k).drop (i+1)).contains s):=by rw[cF (x:=y) (by rw[n3,c7 hi];exact hy),List.contains_cons]
theorem Gp {x:LP}(hk:af x.J1 0 7=true)(h0:x.J1=0)(ha:x.L5.length<=4):cY x=(yy x.L5 x.L5.length 0&&(db x.J8&&x.K9.length==0)):=by
 unfold cY ug;rw[hk,c7 (.inl h0),c7 h0,b8 (by rw[h0];decide),q9 ha]
 cases db x.J8<;>cases yy x.L5 x.L5.length 0<;>simp
theorem GN {x:LP}(hk:af x.J1 0 7=true)(h0:x.J1≠0):cY x=(x.L5.length==0&&((if x.J1=1 then db x.J8 else x.J8==[])&&(if iW x.J1=true then br x.K9 else x.K9.length==0))):=by
 have e:(if x.J1=0\/x.J1=1 then db x.J8 else x.J8==[])=(if x.J1=1 then db x.J8 else x.J8==[]):=by
  by_cases h1:x.J1=1
  ·rw[c7 (.inr h1),c7 h1]
  ·rw[b8 o_,b8 h1]
 unfold cY;rw[hk,b8 h0,e,m9];generalize(if x.J1=1 then db x.J8 else x.J8==[])=a;generalize(if iW x.J1=true then br x.K9 else x.K9.length==0)=b
 cases a<;>cases(x.L5.length==0)<;>simp
theorem DF (n:Nat):((n:Int)==0)=(n==0):=by rw[A0];simp
abbrev Kk (x:LP):AO:= .box (x.tr.map .t)
theorem V73{p:Prop}(h:p:=by
 repeat' ((conv=>whnf);first|refine Or.inl ?_|apply oi|apply fi|intro h|refine ci hB (ai rfl (ai rfl (ai rfl trivial))) ?_|exact Y2|refine e_ rfl ?_)):p:=h
theorem Q5{p:Prop}(h:p:=by exfalso;simp_all;first|done|fail):p:=h
theorem oo (x:LP)(hs:aF 1048576 x.tr):Sim.Spec prog 119 [.agg x.tr] (rB (cY x)):=by
 refine ak hΓ aG func119 rfl d_ rfl ?_;obtain⟨h1,h2,h3,h4,h5⟩:=fM hs;have hB:=aP x.J1 0 7;have hN:=fC x.J8 o_;have hE:=oq x.K9 h4 (fun y hy=>by have:=h5 y hy;omega);have PP:(x.L5.map ao).length=x.L5.length:=s_;have Oa:(x.K9.map LZ.tr).length=x.K9.length:=s_
 cases hk:af x.J1 0 7 with
 | false=>
  rw[hk]at hB;rw[AW hk]
  exact V73
 | true=>
  rw[hk]at hB;have hH:=qb x.J1 hk;by_cases ha:x.L5.length<=4
  ·by_cases h0:x.J1=0
   ·rw[Gp hk h0 ha]
    generalize db x.J8=b2 at *
    generalize br x.K9=b5 at *
    obtain⟨A,hA⟩:∃A,yy x.L5 x.L5.length 0=A:=⟨_,rfl⟩;rw[hA];have VZ:iW x.J1=false:=(by rw[h0];rfl);rw[VZ]at hH;repeat' ((conv=>whnf);first|refine Or.inl ?_|apply oi|apply fi|intro h|refine ci hB (ai rfl (ai rfl (ai rfl trivial))) ?_|exact Y2|refine e_ rfl ?_)
    conv=>whnf
    refine⟨{k:Nat//k<=x.L5.length/\yy x.L5 (x.L5.length-k) k=A},fun q=>⟨[(1,.r (.c (.ptr (1,0,0) 0))),(3,tI .i64 (q.1:Int))],[((1,0,0),some (Kk x))],[1]⟩,fun q=>x.L5.length-q.1,⟨0,o_,by rw[y0];exact hA⟩,?_,?_⟩
    ·exact Z1
    intro⟨k,Nf,hr⟩;dsimp only at Nf hr⊢;by_cases Mz:k<x.L5.length
    ·obtain⟨s,Px⟩:=ae Mz;rw[Fj Px]at hr;have Tj:=fC s (by have:=h3 s (c9 Px);omega)
     cases MR:db s with
     | false=>
      rw[MR]at Tj hr;rw[b8 s_]at hr;subst hr
      repeat' ((conv=>whnf);first|refine Or.inl ?_|apply oi|apply fi|intro h|refine ci Tj (ai rfl trivial) ?_|refine⟨k,(ao s),rfl,ab Px,?_⟩|exact Y2|refine e_ rfl ?_)
     | true=>
      rw[MR]at Tj hr;obtain⟨C,hC⟩:∃C,(x.L5.take k).contains s=C:=⟨_,rfl⟩;rw[hC]at hr;repeat' ((conv=>whnf);first|refine Or.inl ?_|apply oi|apply fi|intro h|refine ci Tj (ai rfl trivial) ?_|refine⟨k,(ao s),rfl,ab Px,?_⟩|exact Y2|refine e_ rfl ?_)
      all_goals try exact Q2
      conv=>whnf
      refine⟨{i:Nat//i<=k/\((x.L5.take k).drop i).contains s=C},fun q=>⟨[(1,.r (.c (.ptr (1,0,0) 0))),(3,tI .i64 (k:Int)),(4,tI .i64 (q.1:Int))],[((1,0,0),some (Kk x))],[1]⟩,fun q=>k-q.1,⟨0,o_,hC⟩,?_,?_⟩
      ·exact Z1
      intro⟨i,Oz,hc⟩;dsimp only at Oz hc⊢;by_cases Ny:i<k
      ·obtain⟨y,hy⟩:=ae (l:=x.L5) (k:=i) o_;rw[Hq Ny hy]at hc;by_cases Vx:s=y
       ·subst Vx;rw[beq_self_eq_true,Bool.true_or]at hc;subst hc;rw[b8 s_]at hr;subst hr;repeat' ((conv=>whnf);first|refine Or.inl ?_|apply oi|apply fi|intro h|refine⟨i,(ao s),rfl,ab hy,?_⟩|refine⟨k,(ao s),rfl,ab Px,?_⟩|exact Y2|refine e_ rfl ?_)
        all_goals try exact Q2
       ·rw[B4.2 Vx,C7]at hc;repeat' ((conv=>whnf);first|refine Or.inl ?_|apply oi|apply fi|intro h|refine⟨i,(ao y),rfl,ab hy,?_⟩|refine⟨k,(ao s),rfl,ab Px,?_⟩|exact Y2|refine e_ rfl ?_)
        all_goals try(exfalso;apply Vx;simp_all;done)
        conv=>whnf
        refine⟨⟨i+1,o_,hc⟩,?_,KD⟩;exact Z3
      ·rw[n9 aab]at hc;have hc:false=C:=hc;subst hc;rw[c7 ⟨rfl,rfl⟩]at hr;repeat' ((conv=>whnf);first|refine Or.inl ?_|apply oi|apply fi|intro h|exact Y2|refine e_ rfl ?_)
       conv=>whnf
       refine⟨⟨k+1,o_,hr⟩,?_,KD⟩;exact Z3
    ·rw[show x.L5.length-k=0 by omega]at hr;have hr:true=A:=hr;subst hr;repeat' ((conv=>whnf);first|refine Or.inl ?_|apply oi|apply fi|intro h|refine ci hN (ai rfl trivial) ?_|refine ci hH (ai rfl trivial) ?_|refine ci hE (ai rfl trivial) ?_|exact Y2|refine e_ rfl ?_)
     all_goals try exact Q2
     all_goals(refine⟨congrArg Tr.bool ?_⟩;simp_all;(try exact DF _))
   ·rw[GN hk h0]
    generalize db x.J8=b2 at *
    generalize br x.K9=b5 at *
    generalize iW x.J1=b4 at *
    repeat' ((conv=>whnf);first|refine Or.inl ?_|apply oi|apply fi|intro h|refine ci hB (ai rfl (ai rfl (ai rfl trivial))) ?_|exact Y2|refine e_ rfl ?_)
    conv=>whnf
    refine⟨Unit,fun q=>⟨[(1,.r (.c (.ptr (1,0,0) 0))),(3,tI .i64 0)],[((1,0,0),some (Kk x))],[1]⟩,fun q=>0,(),?_,?_⟩
    ·exact Z1
    intro q;dsimp only;by_cases Mz:0<x.L5.length
    ·obtain⟨s,Px⟩:=ae Mz;have Tj:=fC s (by have:=h3 s (c9 Px);omega);rw[show(x.L5.length==0)=false by rw[B4];omega];repeat' ((conv=>whnf);first|refine Or.inl ?_|apply oi|apply fi|intro h|refine ci Tj (ai rfl trivial) ?_|refine⟨0,(ao s),rfl,ab Px,?_⟩|exact Y2|refine e_ rfl ?_)
     all_goals try exact Q2
     all_goals try exact Q5
    ·have hz:x.L5.length=0:=o_;rw[show(x.L5.length==0)=true by rw[hz];rfl];rw[hz]at PP;repeat' ((conv=>whnf);first|refine Or.inl ?_|apply oi|apply fi|intro h|refine ci hN (ai rfl trivial) ?_|refine ci hH (ai rfl trivial) ?_|refine ci hE (ai rfl trivial) ?_|exact Y1|refine e_ rfl ?_)
     all_goals try exact Q5
     all_goals(refine⟨congrArg Tr.bool ?_⟩;simp_all;(try exact DF _);(try(rw[A0];simp;omega)))
  ·rw[tv o_];exact V73
def dM (k:Int):Bool:=k==0||(k==3||k==5)
theorem opensK_iff {k:Int}:dM k=true↔k=0\/k=3\/k=5:=by simp[dM]
def endN:List LP->Nat->Nat->Option Nat
 | [],_,_=>none
 | x::l,i,o=>if dM x.J1=true then endN l (i+1) (o+1)else if x.J1=7 then(if o=1 then some i else endN l (i+1) (o-1))else endN l (i+1) o
def endAt (l:List LP)(k:Nat):Option Nat:=match l[k]? with
 | some x=>if dM x.J1=true then endN (l.drop (k+1)) (k+1) 1 else none
 | none=>none
def ct (l:List LP)(k:Int):Int:=if 0<=k then cM (endAt l k.toNat)else -1
theorem dK {l:List LP}{i o:Nat}{x:LP}(h:l[i]?=some x):endN (l.drop i) i o=if dM x.J1=true then endN (l.drop (i+1)) (i+1) (o+1)else if x.J1=7 then(if o=1 then some i else endN (l.drop (i+1)) (i+1) (o-1))else endN (l.drop (i+1)) (i+1) o:=by rw[cF h,endN]
theorem lf {l:List LP}{i o:Nat}(h:l.length<=i):endN (l.drop i) i o=none:=by rw[n9 h,endN]
theorem tZ:∀{l:List LP} {i o e:Nat},endN l i o=some e->i<=e/\e<i+l.length
 | [],_,_,_,h=>by rw[endN]at h;cases h
 | x::l,i,o,e,h=>by
  rw[endN]at h;simp only[d5];split at h
  ·have:=tZ h;omega
  ·split at h
   ·split at h
    ·injection h with h;omega
    ·have:=tZ h;omega
   ·have:=tZ h;omega
theorem jg {l:List LP}{i o e:Nat}(h:endN (l.drop i) i o=some e):i<=e/\e<l.length:=by have:=tZ h;rw[t9]at this;omega
theorem mm:∀{l:List LP} {i:Nat} (n:Nat) {a b:Nat},l.length-i<=n->1<=a->1<=b->endN (l.drop i) i (a+b)=(endN (l.drop i) i b).bind fun m=>endN (l.drop (m+1)) (m+1) a
 | l,i,0,a,b,hn,_,_=>by rw[lf o_,lf o_];rfl
 | l,i,n+1,a,b,hn,ha,hb=>by
  by_cases hi:i<l.length
  ·obtain⟨x,hx⟩:=ae hi;rw[dK hx,dK hx];split
   ·rw[show a+b+1=a+(b+1) by omega];exact mm n o_ ha o_
   ·split
    ·rw[b8 o_];by_cases h1:b=1
     ·subst h1;rw[c7 rfl];rfl
     ·rw[b8 h1,show a+b-1=a+(b-1) by omega];exact mm n o_ ha o_
    ·exact mm n o_ ha hb
  ·rw[lf o_,lf o_];rfl
theorem nC:∀{l:List LP} {i:Nat} (n:Nat) {o e:Nat},l.length-i<=n->endN (l.drop i) i o=some e->∃x,l[e]?=some x/\x.J1=7
 | l,i,0,o,e,hn,h=>by rw[lf o_]at h;cases h
 | l,i,n+1,o,e,hn,h=>by
  by_cases hi:i<l.length
  ·obtain⟨x,hx⟩:=ae hi;rw[dK hx]at h;split at h
   ·exact nC n o_ h
   ·split at h
    ·split at h
     ·injection h with h;subst h;exact⟨x,hx,by assumption⟩
     ·exact nC n o_ h
    ·exact nC n o_ h
  ·rw[lf o_]at h;cases h
theorem aN {l:List LP}{k e:Nat}(h:endAt l k=some e):∃x,l[k]?=some x/\dM x.J1=true/\endN (l.drop (k+1)) (k+1) 1=some e/\k<e/\e<l.length:=by
 unfold endAt at h;split at h
 ·rename_i x hx;split at h
  ·rename_i ho;have:=jg h;exact⟨x,hx,ho,h,o_,o_⟩
  ·cases h
 ·cases h
theorem qL {l:List LP}{k:Nat}{x:LP}(hx:l[k]?=some x)(ho:dM x.J1=true):endAt l k=endN (l.drop (k+1)) (k+1) 1:=by unfold endAt;rw[hx];dsimp only;rw[c7 ho]
theorem bK {l:List LP}{k e:Nat}(h:endAt l k=some e):∃x,l[e]?=some x/\x.J1=7:=by obtain⟨_,_,_,h,_⟩:=aN h;exact nC _ (d8 _) h
theorem qn:∀{l:List LP} (n:Nat) {s o e i:Nat},i-s<=n->1<=o->endN (l.drop s) s o=some e->s<=i->i<=e->∃o',1<=o'/\endN (l.drop i) i o'=some e
 | l,0,s,o,e,i,hn,ho,h,h1,h2=>by
  have:s=i:=o_;subst this
  exact⟨o,ho,h⟩
 | l,n+1,s,o,e,i,hn,ho,h,h1,h2=>by
  by_cases hs:s=i
  ·subst hs;exact⟨o,ho,h⟩
  have hl:=jg h;obtain⟨x,hx⟩:=ae (l:=l) (k:=s) o_;rw[dK hx]at h;split at h
  ·exact qn n o_ o_ h o_ h2
  ·split at h
   ·split at h
    ·injection h with h;omega
    ·exact qn n o_ o_ h o_ h2
   ·exact qn n o_ ho h o_ h2
theorem jo {l:List LP}{k e i:Nat}{x:LP}(h:endAt l k=some e)(h1:k<i)(h2:i<e)(hx:l[i]?=some x)(ho:dM x.J1=true):∃m,endAt l i=some m/\i<m/\m<e:=by
 obtain⟨_,_,_,he,_,Mz⟩:=aN h;obtain⟨o,ZY,Om⟩:=qn _ (d8 _) (d8 1) he (by omega:k+1<=i) o_;rw[dK hx,c7 ho,mm _ (d8 _) ZY (d8 1)]at Om
 cases hm:endN (l.drop (i+1)) (i+1) 1 with
 | none=>rw[hm]at Om;cases Om
 | some m=>rw[hm]at Om;have h3:=jg hm;have h4:=jg (show endN (l.drop (m+1)) (m+1) o=some e from Om);exact⟨m,by rw[qL hx ho];exact hm,o_,o_⟩
theorem cw {l:List LP}{k:Nat}:ct l (k:Int)=cM (endAt l k):=by rw[ct,c7 o_,d7]
theorem bQ {o:Option Nat}{n:Nat}(h:o=some n):cM o=(n:Int):=by rw[h];rfl
theorem qP {o:Option Nat}(h:o=none):cM o= -1:=by rw[h];rfl
def elseN (l:List LP)(e:Nat):Nat->Nat->Option Nat
 | 0,_=>none
 | n+1,i=>if i<e then(match l[i]? with
  | some x=>if x.J1=4 then some i else if x.J1=3\/x.J1=5 then(match endAt l i with
   | some m=>elseN l e n (m+1)
   | none=>elseN l e n (i+1))else elseN l e n (i+1)
  | none=>none)else none
def elseAt (l:List LP)(k:Nat):Option Nat:=match l[k]?,endAt l k with
 | some x,some e=>if x.J1=3 then elseN l e (e-(k+1)) (k+1)else none
 | _,_=>none
def cB (l:List LP)(k:Int):Int:=if 0<=k then cM (elseAt l k.toNat)else -1
theorem gJ {l:List LP}{e:Nat}:∀{n m i:Nat},e-i<=n->e-i<=m->elseN l e n i=elseN l e m i
 | 0,0,_,_,_=>rfl
 | 0,m+1,i,h1,h2=>by rw[elseN,elseN,b8 o_]
 | n+1,0,i,h1,h2=>by rw[elseN,elseN,b8 o_]
 | n+1,m+1,i,h1,h2=>by
  rw[elseN,elseN];by_cases hi:i<e
  ·rw[c7 hi,c7 hi]
   cases hx:l[i]? with
   | none=>rfl
   | some x=>
    dsimp only;split
    ·rfl
    ·split
     ·cases hm:endAt l i with
      | none=>exact gJ o_ o_
      | some m'=>have:=aN hm;obtain⟨_,_,_,_,h3,_⟩:=this;exact gJ o_ o_
     ·exact gJ o_ o_
  ·rw[b8 hi,b8 hi]
theorem Dk {l:List LP}{e i:Nat}{x:LP}(hi:i<e)(hx:l[i]?=some x):elseN l e (e-i) i=if x.J1=4 then some i else if x.J1=3\/x.J1=5 then(match endAt l i with
   | some m=>elseN l e (e-(m+1)) (m+1)
   | none=>elseN l e (e-(i+1)) (i+1))else elseN l e (e-(i+1)) (i+1):=by
 obtain⟨n,hn⟩:∃n,e-i=n+1:=⟨e-i-1,o_⟩;rw[hn,elseN,c7 hi,hx];dsimp only;split
 ·rfl
 ·split
  ·cases hm:endAt l i with
   | none=>exact gJ o_ o_
   | some m=>obtain⟨_,_,_,_,h3,_⟩:=aN hm;exact gJ o_ o_
  ·exact gJ o_ o_
theorem FM {l:List LP}{e i n:Nat}(hi:e<=i):elseN l e n i=none:=by cases n with|zero=>rfl|succ n=>rw[elseN,b8 o_]
theorem mZ {l:List LP}{e:Nat}:∀{n i j:Nat},elseN l e n i=some j->i<=j/\j<e/\∃x,l[j]?=some x/\x.J1=4
 | 0,_,_,h=>by rw[elseN]at h;cases h
 | n+1,i,j,h=>by
  rw[elseN]at h;split at h
  ·rename_i hi;split at h
   ·rename_i x hx;split at h
    ·injection h with h;subst h;exact⟨o_,hi,x,hx,by assumption⟩
    ·split at h
     ·split at h
      ·rename_i m hm;obtain⟨_,_,_,_,h3,_⟩:=aN hm;have:=mZ h;exact⟨o_,this.2⟩
      ·have:=mZ h;exact⟨o_,this.2⟩
     ·have:=mZ h;exact⟨o_,this.2⟩
   ·cases h
  ·cases h
theorem bu {l:List LP}{k j:Nat}(h:elseAt l k=some j):∃x e,l[k]?=some x/\x.J1=3/\endAt l k=some e/\k<j/\j<e/\∃y,l[j]?=some y/\y.J1=4:=by
 unfold elseAt at h;split at h
 ·rename_i x e hx he;split at h
  ·rename_i h3;have:=mZ h;exact⟨x,e,hx,h3,he,o_,this.2⟩
  ·cases h
 ·cases h
def funsF:List LP->Nat->List Nat
 | [],_=>[]
 | x::l,i=>(if x.J1=0 then [i]else [])++funsF l (i+1)
def ay (l:List LP):List Nat:=funsF l 0
theorem zR {l:List LP}{i:Nat}{x:LP}(hx:l[i]?=some x):funsF (l.drop i) i=(if x.J1=0 then [i]else [])++funsF (l.drop (i+1)) (i+1):=by rw[cF hx,funsF]
theorem V88{p:Prop}(h:p:=by
 refine⟨o_,by simp only[d5];omega,y,?_,hk⟩;rw[show k-i=(k-(i+1))+1 by omega,j8]
 exact hy):p:=h
theorem vA:∀{l:List LP} {i k:Nat},k∈funsF l i->i<=k/\k<i+l.length/\∃x,l[k-i]?=some x/\x.J1=0
 | [],_,_,h=>by simp[funsF]at h
 | x::l,i,k,h=>by
  rw[funsF,d9]at h;rcases h with h|h
  ·split at h
   ·simp only[d6,l4,or_false]at h;subst h;exact⟨o_,s_,x,s_,by assumption⟩
   ·cases h
  ·obtain⟨h1,h2,y,hy,hk⟩:=vA h;exact V88
theorem nV {l:List LP}{k:Nat}(h:k∈ay l):k<l.length/\∃x,l[k]?=some x/\x.J1=0:=by have:=vA h;simpa using this.2
def findN:List LP->Nat->List UInt8->Option Nat
 | [],_,_=>none
 | x::l,i,s=>if x.J1=0/\x.J8=s then some i else findN l (i+1) s
def lP (l:List LP)(s:List UInt8):Int:=cM (findN l 0 s)
theorem Hv {l:List LP}{i:Nat}{x:LP}{s:List UInt8}(hx:l[i]?=some x):findN (l.drop i) i s=if x.J1=0/\x.J8=s then some i else findN (l.drop (i+1)) (i+1) s:=by rw[cF hx,findN]
theorem vJ:∀{l:List LP} {i k:Nat} {s:List UInt8},findN l i s=some k->i<=k/\k<i+l.length/\∃x,l[k-i]?=some x/\x.J1=0/\x.J8=s
 | [],_,_,_,h=>by rw[findN]at h;cases h
 | x::l,i,k,s,h=>by
  rw[findN]at h;split at h
  ·injection h with h;subst h;exact⟨o_,s_,x,s_,by assumption⟩
  ·obtain⟨h1,h2,y,hy,hk⟩:=vJ h;exact V88
theorem gK {l:List LP}{k:Nat}{s:List UInt8}(h:findN l 0 s=some k):k<l.length/\∃x,l[k]?=some x/\x.J1=0/\x.J8=s:=by have:=vJ h;simpa using this.2
def fX (acc:List (List UInt8))(s:List UInt8):List (List UInt8):=if acc.contains s=true then acc else acc++[s]
def locN (l:List LP)(e:Nat):Nat->Nat->List (List UInt8)->List (List UInt8)
 | 0,_,acc=>acc
 | n+1,i,acc=>if i<e then(match l[i]? with
  | some x=>locN l e n (i+1) (if x.J1=1 then fX acc x.J8 else acc)
  | none=>acc)else acc
def localsOf (l:List LP)(k:Int):List (List UInt8):=if 0<=k then(match l[k.toNat]?,endAt l k.toNat with
 | some x,some e=>if x.J1=0 then locN l e (e-k.toNat) k.toNat x.L5 else []
 | _,_=>[])else []
theorem FX {l:List LP}{e i:Nat}{x:LP}{acc:List (List UInt8)}(hi:i<e)(hx:l[i]?=some x):locN l e (e-i) i acc=locN l e (e-(i+1)) (i+1) (if x.J1=1 then fX acc x.J8 else acc):=by rw[show e-i=(e-(i+1))+1 by omega,locN,c7 hi,hx]
theorem HP {l:List LP}{e i n:Nat}{acc:List (List UInt8)}(hi:e<=i):locN l e n i acc=acc:=by cases n with|zero=>rfl|succ n=>rw[locN,b8 o_]
theorem Ci (acc:List (List UInt8))(s:List UInt8):(fX acc s).length<=acc.length+1:=by unfold fX;split<;>simp
theorem Bs {l:List LP}{e:Nat}:∀(n i:Nat) (acc:List (List UInt8)),(locN l e n i acc).length<=acc.length+n
 | 0,_,_=>by simp[locN]
 | n+1,i,acc=>by
  rw[locN];split
  ·split
   ·refine v5 (Bs n _ _) ?_;split
    ·have:=Ci acc (by assumption:LP).J8;omega
    ·omega
   ·omega
  ·omega
def cG (l:List LP)(locals:List (List UInt8))(t:LZ):Bool:=
 if t.J1=1 then locals.contains t.J8
 else if t.J1=7 then(match findN l 0 t.J8 with
  | some f=>(match l[f]? with|some x=>(x.L5.length:Int)==t.Mc|none=>false)
  | none=>false)
 else true
def eB (l:List LP)(locals:List (List UInt8))(ts:List LZ):Bool:=ts.all (cG l locals)
def dep (x:LP)(d:Nat):Nat:=if x.J1=3\/x.J1=5 then d+1 else if x.J1=7 then d-1 else d
def mX (l:List LP)(locals:List (List UInt8))(e:Nat):Nat->Nat->Nat->Bool
 | 0,_,_=>true
 | n+1,i,d=>if i<e then(match l[i]? with
  | some x=>if x.J1=0 then false else
   if dep x d<=4/\eB l locals x.K9=true then mX l locals e n (i+1) (dep x d)else false
  | none=>false)else true
def anyE (l:List LP)(i:Nat):Nat->Nat->Bool
 | 0,_=>false
 | n+1,j=>(elseAt l j==some i)||anyE l i n (j+1)
theorem pT {l:List LP}{i:Nat}:∀{n j:Nat},anyE l i n j=true↔∃k,j<=k/\k<j+n/\elseAt l k=some i
 | 0,j=>by
  rw[anyE]
  exact⟨fun h=>(by cases h),fun⟨k,h1,h2,_⟩=>o_⟩
 | n+1,j=>by
  rw[anyE,w5,pT,w8];constructor
  ·rintro(h|⟨k,h1,h2,h3⟩)
   ·exact⟨j,o_,o_,h⟩
   ·exact⟨k,o_,o_,h3⟩
  ·rintro⟨k,h1,h2,h3⟩;by_cases hk:k=j
   ·subst hk;exact .inl h3
   ·exact .inr ⟨k,o_,o_,h3⟩
def elsesIn (l:List LP)(k e:Nat):Nat->Nat->Bool
 | 0,_=>true
 | n+1,i=>if i<e then(match l[i]? with
  | some x=>(if x.J1=4 then anyE l i (i-k) k else true)&&elsesIn l k e n (i+1)
  | none=>true)else true
theorem iE {l:List LP}{k e:Nat}:∀{n i:Nat},e-i<=n->(elsesIn l k e n i=true↔∀j x,i<=j->j<e->l[j]?=some x->x.J1=4->anyE l j (j-k) k=true)
 | 0,i,h=>⟨fun _ j x h1 h2=>o_,fun _=>rfl⟩
 | n+1,i,h=>by
  rw[elsesIn];by_cases hi:i<e
  ·rw[c7 hi]
   cases hx:l[i]? with
   | none=>
    refine⟨fun _ j x h1 h2 hj=>?_,fun _=>rfl⟩;have:l.length<=i:=List.getElem?_eq_none_iff.1 hx;rw[e9 o_]at hj
    cases hj
   | some x=>
    dsimp only;rw[b9,iE o_];constructor
    ·rintro⟨h1,h2⟩ j y Ve PT hy hk;by_cases he:j=i
     ·subst he;rw[hx]at hy;injection hy with hy;subst hy;rw[c7 hk]at h1;exact h1
     ·exact h2 j y o_ PT hy hk
    ·intro H;refine⟨?_,fun j y Ve PT hy hk=>H j y o_ PT hy hk⟩;split
     ·exact H i x (d8 _) hi hx aaj
     ·rfl
  ·rw[b8 hi];exact⟨fun _ j x h1 h2=>o_,fun _=>rfl⟩
def lN (l:List LP)(locals:List (List UInt8))(k e:Nat):Nat->Nat->Nat->Bool
 | 0,_,_=>true
 | n+1,i,d=>if i<e then(match l[i]? with
  | some x=>if x.J1=0 then false else if x.J1=4/\anyE l i (i-k) k=false then false else
   if dep x d<=4/\eB l locals x.K9=true then lN l locals k e n (i+1) (dep x d)else false
  | none=>false)else true
theorem Dd {l:List LP}{locals:List (List UInt8)}{k e i d:Nat}{x:LP}(hi:i<e)(hx:l[i]?=some x):lN l locals k e (e-i) i d=if x.J1=0 then false else if x.J1=4/\anyE l i (i-k) k=false then false else if dep x d<=4/\eB l locals x.K9=true then lN l locals k e (e-(i+1)) (i+1) (dep x d)else false:=by rw[show e-i=(e-(i+1))+1 by omega,lN,c7 hi,hx]
theorem Gj {l:List LP}{locals:List (List UInt8)}{k e i d n:Nat}(hi:e<=i):lN l locals k e n i d=true:=by cases n with|zero=>rfl|succ n=>rw[lN,b8 o_]
theorem zW {l:List LP}{locals:List (List UInt8)}{k e:Nat}:∀{n i d:Nat},lN l locals k e n i d=(mX l locals e n i d&&elsesIn l k e n i)
 | 0,i,d=>rfl
 | n+1,i,d=>by
  rw[lN,mX,elsesIn];by_cases hi:i<e
  ·rw[c7 hi,c7 hi,c7 hi]
   cases hx:l[i]? with
   | none=>rfl
   | some x=>
    dsimp only;by_cases h0:x.J1=0
    ·rw[c7 h0,c7 h0];rfl
    ·rw[b8 h0,b8 h0];rw[zW];by_cases h4:x.J1=4
     ·rw[c7 h4]
      cases ha:anyE l i (i-k) k with
      | false=>rw[c7 ⟨h4,rfl⟩];simp
      | true=>rw[b8 s_];split<;>simp_all
     ·rw[b8 (by simp[h4]),b8 h4];split<;>simp_all
  ·rw[b8 hi,b8 hi,b8 hi];rfl
def tP (l:List LP)(k e:Nat):Bool:=decide ((localsOf l (k:Int)).length<=8)&&mX l (localsOf l (k:Int)) e (e-(k+1)) (k+1) 0
def lW (l:List LP)(k e:Nat):Bool:=decide ((localsOf l (k:Int)).length<=8)&&lN l (localsOf l (k:Int)) k e (e-(k+1)) (k+1) 0
theorem mw {l:List LP}{k e:Nat}:lW l k e=(tP l k e&&elsesIn l k e (e-(k+1)) (k+1)):=by rw[lW,tP,zW,Bool.and_assoc]
theorem wc {l:List LP}{k e:Nat}(h:tP l k e=true)(he:e<=l.length):∀i x,k<i->i<e->l[i]?=some x->x.J1≠0:=by
 rw[tP,b9]at h
 have key:∀(n i d:Nat),e-i<=n->mX l (localsOf l (k:Int)) e n i d=true->∀j x,i<=j->j<e->l[j]?=some x->x.J1≠0:=by
  intro n
  induction n with
  | zero=>intro i d hn _ j x h1 h2;omega
  | succ n ih=>
   intro i d hn hb j x h1 h2 hx;rw[mX,c7 o_]at hb;obtain⟨y,hy⟩:=ae (l:=l) (k:=i) o_;rw[hy]at hb;dsimp only at hb;split at hb
   ·cases hb
   ·rename_i h0;split at hb
    ·by_cases hj:j=i
     ·subst hj;rw[hy]at hx;injection hx with hx;subst hx;exact h0
     ·exact ih (i+1) _ o_ hb j x o_ h2 hx
    ·cases hb
 exact fun i x h1 h2 hx=>key _ _ _ (d8 _) h.2 i x o_ h2 hx
def bM (F:Nat->Nat->Bool)(l:List LP):Nat->Nat->Bool
 | 0,k=>decide (l.length<=k)
 | n+1,k=>if k<l.length then(match l[k]?,endAt l k with
  | some x,some e=>if x.J1=0/\F k e=true then bM F l n (e+1)else false
  | _,_=>false)else true
theorem na {F:Nat->Nat->Bool}{l:List LP}{k n:Nat}{x:LP}(hx:l[k]?=some x)(hn:l.length-k<=n):bM F l n k=match endAt l k with|some e=>if x.J1=0/\F k e=true then bM F l (l.length-(e+1)) (e+1)else false|none=>false:=by
 have more:∀(n m k:Nat),l.length-k<=n->l.length-k<=m->bM F l n k=bM F l m k:=by
  intro n
  induction n with
  | zero=>
   intro m k h1 h2;rw[bM,q9 o_]
   cases m with|zero=>rw[bM,q9 o_]|succ m=>rw[bM,b8 o_]
  | succ n ih=>
   intro m k h1 h2
   cases m with
   | zero=>rw[bM,bM,b8 o_,q9 o_]
   | succ m=>
    rw[bM,bM];split
    ·split
     ·rename_i x e hx he;obtain⟨_,_,_,_,h3,_⟩:=aN he;split
      ·exact ih m (e+1) o_ o_
      ·rfl
     ·rfl
    ·rfl
 have hk:k<l.length:=by exact V109
 obtain⟨m,rfl⟩:∃m,n=m+1:=⟨n-1,o_⟩;rw[bM,c7 hk,hx]
 cases he:endAt l k with
 | none=>rfl
 | some e=>
  obtain⟨_,_,_,_,h3,_⟩:=aN he;dsimp only;split
  ·exact more _ _ _ o_ o_
  ·rfl
theorem uv {F:Nat->Nat->Bool}{l:List LP}{k n:Nat}(hk:l.length<=k):bM F l n k=true:=by cases n with|zero=>rw[bM,q9 hk]|succ n=>rw[bM,b8 o_]
def ue (l:List LP):Bool:=elsesIn l 0 l.length l.length 0
def nameFirst (l:List LP)(k:Nat):Bool:=match l[k]? with|some x=>findN l 0 x.J8==some k|none=>false
theorem xS {l:List LP}:∀(n k:Nat),l.length-k<=n->k<=l.length->(∀j m,j<k->endAt l j=some m->m<k)->
  (bM (lW l) l (l.length-k) k=(bM (tP l) l (l.length-k) k&&elsesIn l 0 l.length (l.length-k) k))
 | n,k,hn,hk,hP=>by
  by_cases Mz:k<l.length
  ·obtain⟨x,hx⟩:=ae Mz;rw[na hx (d8 _),na hx (d8 _)]
   cases he:endAt l k with
   | none=>simp
   | some e=>
    dsimp only;obtain⟨_,Ox,ho,_,h3,h4⟩:=aN he;obtain⟨z,hz,Xv⟩:=bK he;by_cases h0:x.J1=0
    ·have Zn:∀j m,j<e+1->endAt l j=some m->m<e+1:=by
      intro j m hj hm;rcases B1 j k with N9|N9|N9
      ·have:=hP j m N9 hm;omega
      ·subst N9;rw[he]at hm;injection hm with hm;omega
      ·obtain⟨y,hy,Va,_⟩:=aN hm;by_cases SX:j=e
       ·subst SX;rw[hz]at hy;injection hy with hy;subst hy;rw[opensK_iff]at Va;omega
       ·obtain⟨m',P8,_,h5⟩:=jo he N9 o_ hy Va;rw[hm]at P8;injection P8 with P8;omega
     cases n with
     | zero=>omega
     | succ n=>
      have ih:=xS (l:=l) n (e+1) o_ o_ Zn
      have WF:elsesIn l 0 l.length (l.length-k) k=(elsesIn l k e (e-(k+1)) (k+1)&&elsesIn l 0 l.length (l.length-(e+1)) (e+1)):=by
       rw[A0,b9,iE (d8 _),iE (d8 _),iE (d8 _)];constructor
       ·intro H;refine⟨fun j y h5 h6 hy h7=>?_,fun j y h5 h6 hy h7=>H j y o_ h6 hy h7⟩;have:=H j y o_ o_ hy h7;rw[pT]at this⊢;obtain⟨i,h8,h9,VW⟩:=this;refine⟨i,?_,o_,VW⟩;rcases m7 i k with Sq|Sq
        ·obtain⟨_,m,_,_,Rv,_,Xy,_⟩:=bu VW;have:=hP i m Sq Rv;omega
        ·exact Sq
       ·rintro⟨H1,H2⟩ j y h5 h6 hy h7;rcases m7 e j with h8|h8
        ·exact H2 j y h8 h6 hy h7
        ·have SX:j≠e:=fun h=>by
          subst h;rw[hz]at hy;injection hy with hy;subst hy;omega
         have N9:j≠k:=fun h=>by
          subst h;rw[hx]at hy;injection hy with hy;subst hy;omega
         have:=H1 j y o_ o_ hy h7;rw[pT]at this⊢;obtain⟨i,h9,VW,Sq⟩:=this;exact⟨i,o_,o_,Sq⟩
      rw[WF,ih,mw]
      cases tP l k e<;>cases elsesIn l k e (e-(k+1)) (k+1)<;>simp[h0]
    ·rw[b8 (by simp[h0]),b8 (by simp[h0])];rfl
  ·have:k=l.length:=o_;subst this;rw[uv (d8 _),uv (d8 _)];rw[w9];rfl
def kJ:List UInt8:=[109,97,105,110]
def headOk (l:List LP):Bool:=match l with
 | []=>false
 | x::_=>x.J1==0&&(x.J8==kJ&&x.L5.length==0)
def ah (l:List LP):Bool:=decide (l.length<=60)&&(decide (1<=(ay l).length/\(ay l).length<=6)&&(l.all cY&&(headOk l&&((ay l).all (nameFirst l)&&(bM (tP l) l l.length 0&&ue l)))))
theorem oJ (l:List LP):bM (lW l) l l.length 0=(bM (tP l) l l.length 0&&ue l):=by have:=xS (l:=l) _ 0 (d8 _) o_ (fun j m h=>o_);rw[y0]at this;exact this
def StkOk (l:List LP)(e:Nat):Nat->List Nat->Prop
 | i,[]=>endN (l.drop i) i 1=some e
 | i,m::es=>i<=m/\endN (l.drop i) i 1=some m/\StkOk l e (m+1) es
theorem StkOk.push {l:List LP}{e i:Nat}{es:List Nat}{x:LP}(h:StkOk l e i es)(hx:l[i]?=some x)(ho:dM x.J1=true):∃m,endAt l i=some m/\i<m/\StkOk l e (i+1) (m::es):=by
 have key:∀m',endN (l.drop i) i 1=some m'->∃m,endAt l i=some m/\i<m/\endN (l.drop (i+1)) (i+1) 1=some m/\endN (l.drop (m+1)) (m+1) 1=some m':=by
  intro m' hm;rw[dK hx,c7 ho,mm _ (d8 _) (d8 1) (d8 1)]at hm
  cases h1:endN (l.drop (i+1)) (i+1) 1 with
  | none=>rw[h1]at hm;cases hm
  | some m=>rw[h1]at hm;have:=jg h1;exact⟨m,by rw[qL hx ho];exact h1,o_,rfl,hm⟩
 cases es with
 | nil=>
  obtain⟨m,h1,h2,h3,h4⟩:=key e h
  exact⟨m,h1,h2,o_,h3,h4⟩
 | cons m' es=>obtain⟨g1,g2,g3⟩:=h;obtain⟨m,h1,h2,h3,h4⟩:=key m' g2;have:=jg h4;exact⟨m,h1,h2,o_,h3,o_,h4,g3⟩
theorem StkOk.other {l:List LP}{e i:Nat}{es:List Nat}{x:LP}(h:StkOk l e i es)(hx:l[i]?=some x)(ho:dM x.J1=false)(h7:x.J1≠7):StkOk l e (i+1) es:=by
 have key:∀m',endN (l.drop i) i 1=some m'->endN (l.drop (i+1)) (i+1) 1=some m':=by intro m' hm;rw[dK hx,b8 aag,b8 h7]at hm;exact hm
 cases es with
 | nil=>exact key e h
 | cons m' es=>obtain⟨g1,g2,g3⟩:=h;have:=jg (key m' g2);exact⟨o_,key m' g2,g3⟩
theorem StkOk.pop {l:List LP}{e i:Nat}{es:List Nat}{x:LP}(h:StkOk l e i es)(hx:l[i]?=some x)(h7:x.J1=7):(es=[]/\i=e)\/∃NY,es=i::NY/\StkOk l e (i+1) NY:=by
 have ho:¬dM x.J1=true:=by rw[opensK_iff];omega
 cases es with
 | nil=>
  unfold StkOk at h;rw[dK hx,b8 ho,c7 h7,c7 rfl]at h;injection h with h
  exact .inl ⟨rfl,h⟩
 | cons m' es=>obtain⟨g1,g2,g3⟩:=h;rw[dK hx,b8 ho,c7 h7,c7 rfl]at g2;injection g2 with g2;subst g2;exact .inr ⟨es,rfl,g3⟩
theorem StkOk.le {l:List LP}{e:Nat}:∀{i:Nat} {es:List Nat},StkOk l e i es->i<=e
 | i,[],h=>(jg h).1
 | i,m::es,h=>by
  have:=StkOk.le h.2.2;have:=h.1;omega
inductive Ex where
 | node (t:LZ) (es:List Ex)
mutual
def Ex.toks:Ex->List LZ
 | .node t es=>t::aq es
def aq:List Ex->List LZ
 | []=>[]
 | a::es=>a.toks++aq es
end
mutual
def Ex.ok:Ex->Prop
 | .node t es=>fw t=true/\es.length=ar t/\iV es
def iV:List Ex->Prop
 | []=>True
 | a::es=>a.ok/\iV es
end
theorem Ex.toks_pos (e:Ex):0<e.toks.length:=by cases e;simp[Ex.toks]
theorem ij:∀(a b:List Ex),aq (a++b)=aq a++aq b
 | [],b=>by rw[t6,aq,t6]
 | x::a,b=>by rw[u3,aq,aq,ij a b,j9]
theorem vn:∀{l:List Ex} (n:Nat),iV l->iV (l.take n)
 | [],n,h=>by rw[List.take_nil];exact h
 | x::l,0,h=>by rw[H5];trivial
 | x::l,n+1,h=>by rw[q8];exact⟨h.1,vn n h.2⟩
theorem vk:∀{l:List Ex} (n:Nat),iV l->iV (l.drop n)
 | [],n,h=>by rw[List.drop_nil];exact h
 | x::l,0,h=>h
 | x::l,n+1,h=>by rw[List.drop_succ_cons];exact vk n h.2
theorem wJ:∀{l:List LZ} {p n e:Nat},endL l p n=some e->∃es:List Ex,es.length=n/\iV es/\∃rest,l=aq es++rest/\p+(aq es).length=e
 | l,p,0,e,h=>by
  have h:some p=some e:=by cases l<;>exact h
  injection h with h
  exact⟨[],rfl,trivial,l,rfl,by simp[aq];omega⟩
 | [],_,_+1,_,h=>by rw[endL]at h;cases h
 | t::l,p,n+1,e,h=>by
  rw[endL]at h;split at h
  ·rename_i MC;obtain⟨es,h1,h2,rest,h3,h4⟩:=wJ h;refine⟨.node t (es.take (ar t))::es.drop (ar t),by simp;omega,⟨⟨MC,by simp;omega,vn _ h2⟩,vk _ h2⟩,rest,?_,?_⟩
   ·rw[aq,Ex.toks,u3,<-ij,y9,u3,<-h3]
   ·rw[aq,Ex.toks,u3,<-ij,y9,d5];omega
  ·cases h
mutual
theorem Ex.endL:∀(e:Ex),e.ok->∀(r:List LZ) (p n:Nat),Go.Proofs.P.endL (e.toks++r) p (n+1)=Go.Proofs.P.endL r (p+e.toks.length) n
 | .node t es,h,r,p,n=>by
  rw[Ex.toks,u3,Go.Proofs.P.endL,c7 h.1,show n+ar t=n+es.length by rw[h.2.1],Cg es h.2.2,d5];congr 1;omega
theorem Cg:∀(es:List Ex),iV es->∀(r:List LZ) (p n:Nat),Go.Proofs.P.endL (aq es++r) p (n+es.length)=Go.Proofs.P.endL r (p+(aq es).length) n
 | [],_,r,p,n=>by rw[aq];simp
 | a::es,h,r,p,n=>by
  rw[aq,j9,d5,show n+(es.length+1)=(n+es.length)+1 by omega,Ex.endL a h.1,Cg es h.2,c8];congr 1;omega
end
theorem jc {l:List LZ}(h:br l=true):∃e:Ex,e.ok/\l=e.toks:=by
 unfold br at h;simp only[b9,j5,w8]at h;obtain⟨_,h1,h2⟩:=h;rw[gn,c7 o_]at h2;show ∃e:Ex,e.ok/\l=e.toks
 cases he:Go.Proofs.P.endL (l.drop (0:Int).toNat) (0:Int).toNat 1 with
 | none=>rw[he]at h2;simp only[cM]at h2;omega
 | some e=>
  rw[he]at h2;simp only[cM]at h2;obtain⟨es,g1,g2,rest,g3,g4⟩:=wJ he
  match es,g1 with
  | [a],_=>
   rw[aq,aq,m6]at g3 g4;have e0:l.drop (0:Int).toNat=l:=rfl;rw[e0]at g3
   have:rest=[]:=by have:=congrArg List.length g3;rw[c8]at this;have e1:(0:Int).toNat=0:=rfl;rw[e1]at g4;exact A3.1 o_
   subst this;exact⟨a,g2.1,by rw[g3,m6]⟩
def kr (l:List LZ)(p:Nat)(e:Ex):Prop:=∃r,l.drop p=e.toks++r
def kG (l:List LZ)(p:Nat)(es:List Ex):Prop:=∃r,l.drop p=aq es++r
theorem pv {l:List LZ}{p:Nat}{e:Ex}(h:kr l p e)(ho:e.ok):gn l (p:Int)=((p+e.toks.length:Nat):Int):=by
 obtain⟨r,h⟩:=h;rw[gn,c7 o_,d7,h,show(1:Nat)=0+1 from rfl,Ex.endL e ho]
 cases r<;>rfl
theorem oR {l:List LZ}{p:Nat}{t:LZ}{es:List Ex}(h:kr l p (.node t es)):l[p]?=some t/\kG l (p+1) es:=by
 obtain⟨r,h⟩:=h;rw[Ex.toks,u3]at h;refine⟨?_,r,?_⟩
 ·have:=congrArg (·[0]?) h;simpa [v7]using this
 ·have:=congrArg (·.drop 1) h;simpa [F1]using this
theorem fF {l:List LZ}{p:Nat}{a:Ex}{es:List Ex}(h:kG l p (a::es)):kr l p a/\kG l (p+a.toks.length) es:=by obtain⟨r,h⟩:=h;rw[aq,j9]at h;refine⟨⟨_,h⟩,r,?_⟩;rw[<-F1,h,List.drop_left]
def pN:Nat->List Ex->List Nat
 | _,[]=>[]
 | p,a::es=>p::pN (p+a.toks.length) es
theorem Br:∀(p:Nat) (es:List Ex),(pN p es).length=es.length
 | _,[]=>rfl
 | p,a::es=>by rw[pN,d5,Br,d5]
theorem EE:∀{l:List LZ} {p:Nat} {es:List Ex} {k:Nat} {a:Ex},kG l p es->es[k]?=some a->∃q,(pN p es)[k]?=some q/\kr l q a
 | _,_,[],_,_,_,h=>by simp at h
 | l,p,b::es,0,a,hs,h=>by
  rw[e8]at h;injection h with h;subst h
  exact⟨p,by rw[pN,e8],(fF hs).1⟩
 | l,p,b::es,k+1,a,hs,h=>by
  rw[j8]at h;obtain⟨q,h1,h2⟩:=EE (fF hs).2 h;exact⟨q,by rw[pN,j8];exact h1,h2⟩
theorem Fe {t:LZ}(h:fw t=true):t.J1=0\/t.J1=1\/t.J1=7\/(2<=t.J1/\t.J1<=6):=by
 unfold fw at h;split at h
 ·omega
 ·split at h
  ·omega
  ·split at h
   ·omega
   ·simp only[b9,within_iff]at h;omega
theorem IU {t:LZ}(h:fw t=true):((t.J1=0\/t.J1=1)->ar t=0)/\(t.J1=7->(ar t:Int)=t.Mc)/\(2<=t.J1->t.J1<=6->ar t=2):=by
 obtain⟨e1,_⟩:=xY h;unfold mc at e1;rw[b8 aaE]at e1;refine⟨fun h0=>?_,fun h7=>?_,fun h2 h6=>?_⟩
 ·rw[b8 o_,c7 h0]at e1;omega
 ·rw[c7 h7]at e1;omega
 ·rw[b8 o_,b8 o_]at e1;omega
theorem su:∀{l:List LZ} {p:Nat} {es:List Ex} {j:Nat} {a:Ex},kG l p es->es[j]?=some a->kr l (p+(aq (es.take j)).length) a
 | _,_,[],_,_,_,h=>by simp at h
 | l,p,b::es,0,a,hs,h=>by
  rw[e8]at h;injection h with h;subst h
  simpa [aq]using(fF hs).1
 | l,p,b::es,j+1,a,hs,h=>by
  rw[j8]at h;have:=su (fF hs).2 h;rw[q8,aq,c8,<-H9];exact this
end Go.Proofs.P
namespace Go.Proofs.P
noncomputable section
open Go.Sim Tryz
structure Cx where
 p:List LP
 b:LG
 J6:Bool
 I8:Int
 args:Int
structure Sc where
 f:Nat
 J0:List Int
 J9:List (List UInt8)
 first:Int
 L2:Bool
structure Gs where
 I7:List LO
 J3:Int
 start:Bool
def bL (C:Cx)(s:Gs)(depth code arg line:Int)(chain:List Int):LO:=⟨⟨code,arg⟩,line,s.start,chain,if C.J6=true/\0<s.I7.length then 0 else depth,C.J6&&decide (0<s.I7.length)⟩
def aC (C:Cx)(s:Gs)(depth code arg line:Int)(chain:List Int):Gs:=⟨s.I7++[bL C s depth code arg line chain],s.J3,false⟩
def Be (C:Cx)(x:Sc)(i:Int):Bool:=x.L2&&decide (i<C.args)
def mP (C:Cx)(x:Sc)(i:Int):Int:=if x.L2=true then i-C.args else x.first+i
def cA (C:Cx)(store:Bool):Int:=(if C.J6=true then 1 else 3)+(if store=true then 1 else 0)
def fu (C:Cx)(x:Sc)(depth i:Int):Int:=
 if C.J6=true then(if Be C x i=true then 1+(C.args-i)else -1-mP C x i)
 else(if Be C x i=true then depth+(C.args-i)else depth-1-mP C x i)
def Ej (C:Cx)(x:Sc)(s:Gs)(depth i line:Int):Gs:=aC C s depth (cA C false) (fu C x depth i) line x.J0
def fP (C:Cx)(x:Sc)(s:Gs)(depth i line:Int)(chain:List Int):Gs:=aC C s depth (cA C true) (fu C x depth i) line chain
def cE (C:Cx)(y:Sc)(chain:List Int)(line:Int):Nat->Int->Gs->Gs
 | 0,_,s=>s
 | n+1,d,s=>cE C y chain line n (d-1) (fP C y s d n line chain)
def dD (C:Cx)(y:Sc)(chain:List Int)(line d:Int):Nat->Nat->Gs->Gs
 | 0,_,s=>s
 | n+1,i,s=>dD C y chain line d n (i+1) (fP C y (aC C s d 0 0 line chain) (d+1) i line chain)
def bU (l:List LO)(j:Int)(v:Int):List LO:=if 0<=j then(match l[j.toNat]? with
 | some x=>l.set j.toNat ⟨⟨x.J2.I9,v⟩,x.Mi,x.L4,x.Mm,x.Me,x.Mn⟩
 | none=>l)else l
def patchL (l:List LO)(v:Int):List Int->List LO
 | []=>l
 | j::js=>patchL (bU l j v) v js
def kL (p:List LP)(g:Nat):Nat:=((p.take g).filter fun x=>x.J1==0).length
def cL (C:Cx)(inside:List Nat)(g:Nat)(n:Nat):Bool:=decide ((inside.length:Int)<=C.b.Md)&&(decide (ct C.p (g:Int)-g<=9)&&(decide (n<200)&&!inside.contains g))
def lZ (C:Cx)(rep:Sc->List Nat->Nat->Nat->Int->Gs->Gs)(x:Sc)(inside:List Nat)(line:Nat)(t:LZ)(d:Int)(s:Gs):Gs:=
 if t.J1=0 then aC C s d 0 t.Mc line x.J0
 else if t.J1=1 then Ej C x s d (dG x.J9 t.J8) line
 else if t.J1=7 then(match findN C.p 0 t.J8 with
  | some g=>if cL C inside g s.I7.length=true then rep x inside line g d s else aC C s d 12 (kL C.p g) line x.J0
  | none=>s)
 else aC C s d (5+t.J1-2) 0 line x.J0
mutual
def ew (C:Cx)(rep:Sc->List Nat->Nat->Nat->Int->Gs->Gs)(x:Sc)(inside:List Nat)(line:Nat):Ex->Int->Gs->Gs
 | .node t es,d,s=>lZ C rep x inside line t (d+es.length) (cW C rep x inside line es d s)
def cW (C:Cx)(rep:Sc->List Nat->Nat->Nat->Int->Gs->Gs)(x:Sc)(inside:List Nat)(line:Nat):List Ex->Int->Gs->Gs
 | [],_,s=>s
 | a::es,d,s=>cW C rep x inside line es (d+1) (ew C rep x inside line a d s)
end
def ck (C:Cx)(x:Sc):Int:=if x.L2=true then(x.J9.length:Int)-C.args else x.first+x.J9.length
def argsN (p:List LP)(g:Nat):Nat:=match p[g]? with|some l=>l.L5.length|none=>0
def cj (C:Cx)(x:Sc)(line g:Nat):Sc:=⟨g,x.J0++[(line:Int)],localsOf C.p (g:Int),ck C x,false⟩
def fU (C:Cx)(x:Sc)(line g:Nat)(d:Int)(s:Gs):Gs:=
 dD C (cj C x line g) x.J0 line (d-argsN C.p g) ((localsOf C.p (g:Int)).length-argsN C.p g) (argsN C.p g)
  (cE C (cj C x line g) x.J0 line (argsN C.p g) d ⟨s.I7,max s.J3 (ck C x+(localsOf C.p (g:Int)).length),s.start⟩)
def cZ (C:Cx)(x:Sc)(line:Nat)(d:Int)(s:Gs):Gs:=if s.start=true then aC C s d 15 0 line x.J0 else s
def lV (C:Cx)(lines:Sc->List Nat->Int->Gs->Gs×List Int)(x:Sc)(inside:List Nat)(line g:Nat)(d:Int)(s:Gs):Gs:=
 let r:=lines (cj C x line g) (inside++[g]) (d-argsN C.p g) (cZ C x line (d-argsN C.p g) (fU C x line g d s))
 ⟨patchL r.1.I7 r.1.I7.length r.2,r.1.J3,r.1.start⟩
def ownN (p:List LP)(k:Nat):Nat->Option Nat
 | 0=>none
 | n+1=>if endAt p n=some k\/elseAt p n=some k then some n else ownN p k n
def ownOf (p:List LP)(k:Nat):Nat:=(ownN p k p.length).getD 0
def kindAt (p:List LP)(k:Nat):Int:=match p[k]? with|some x=>x.J1|none=> -1
structure Ls where
 g:Gs
 J4:List Int
 pos:List Int
 lv:List Int
def exL (l:List LZ):Ex:=if h:br l=true then Classical.choose (jc h)else .node ⟨0,0,[]⟩ []
theorem rk {l:List LZ}(h:br l=true):(exL l).ok/\l=(exL l).toks:=by rw[exL,dif_pos h];exact l8 (jc h)
def atL (l:List Int)(k:Nat):Int:=l[k]?.getD 0
def be (C:Cx)(x:Sc)(k:Nat)(last:Bool)(d:Int)(L:Ls):Ls:=
 if x.L2=true then(if C.J6=true then{L with g:=aC C L.g d 14 C.args k x.J0} else{L with g:=aC C L.g d 16 (C.args+16*C.I8) k x.J0})
 else if last=true then L
 else{L with g:=aC C L.g d 10 0 k x.J0,lv:=L.lv++[(L.g.I7.length:Int)]}
def bH (C:Cx)(rep:Sc->List Nat->Nat->Nat->Int->Gs->Gs)(x:Sc)(inside:List Nat)(base:Int)(k:Nat)(ln:LP)(L:Ls):Ls:=
 if ln.J1=4 then
  let g:=aC C L.g base 10 0 k x.J0
  {L with g:=⟨bU g.I7 (atL L.pos (ownOf C.p k)) g.I7.length,g.J3,g.start⟩,pos:=L.pos.set k L.g.I7.length}
 else if ln.J1=7 then
  if ownOf C.p k=x.f then be C x k true (base+1) {L with g:=aC C L.g base 0 0 k x.J0}
  else if kindAt C.p (ownOf C.p k)=5 then{L with g:=aC C L.g base 10 (atL L.J4 (ownOf C.p k)) k x.J0}
  else L
 else
  let L1:Ls:={L with g:=ew C rep x inside k (exL ln.K9) base ⟨L.g.I7,L.g.J3,true⟩,J4:=L.J4.set k L.g.I7.length}
  if ln.J1=1 then{L1 with g:=fP C x L1.g (base+1) (dG x.J9 ln.J8) k x.J0}
  else if ln.J1=2 then{L1 with g:=aC C L1.g (base+1) 17 0 k x.J0}
  else if ln.J1=6 then be C x k false (base+1) L1
  else{L1 with g:=aC C L1.g (base+1) 11 0 k x.J0,pos:=L1.pos.set k L1.g.I7.length}
def iN (p:List LP)(k:Nat):Nat:=match elseAt p (ownOf p k)with|some j=>j|none=>ownOf p k
def bB (C:Cx)(x:Sc)(k:Nat)(ln:LP)(L:Ls):Ls:=
 if ln.J1=7/\ownOf C.p k≠x.f then{L with g:=⟨bU L.g.I7 (atL L.pos (iN C.p k)) L.g.I7.length,L.g.J3,L.g.start⟩} else L
def dI (C:Cx)(rep:Sc->List Nat->Nat->Nat->Int->Gs->Gs)(x:Sc)(inside:List Nat)(base:Int):Nat->Nat->Ls->Ls
 | 0,_,L=>L
 | n+1,k,L=>match C.p[k]? with
  | some ln=>dI C rep x inside base n (k+1) (bB C x k ln (bH C rep x inside base k ln L))
  | none=>L
def cv (C:Cx)(s:Gs):Ls:=⟨s,List.replicate C.p.length 0,List.replicate C.p.length 0,[]⟩
def kE (p:List LP)(f:Nat):Nat:=(endAt p f).getD 0
def bq (C:Cx)(rep:Sc->List Nat->Nat->Nat->Int->Gs->Gs)(x:Sc)(inside:List Nat)(base:Int)(s:Gs):Gs×List Int:=
 let L:=dI C rep x inside base (kE C.p x.f-x.f) (x.f+1) (cv C s)
 (L.g,L.lv)
def cK (C:Cx):Nat->Sc->List Nat->Nat->Nat->Int->Gs->Gs
 | 0=>fun _ _ _ _ _ s=>s
 | n+1=>lV C (bq C (cK C n))
def dQ (C:Cx)(f:Nat):Gs:=aC C ⟨[],(localsOf C.p (f:Int)).length-C.args,false⟩ 0 (if C.J6=true then 13 else 15) C.I8 f []
def bb (C:Cx)(f:Nat):Sc:=⟨f,[],localsOf C.p (f:Int),0,true⟩
def dH (C:Cx)(f:Nat):Gs:=(bq C (cK C C.b.Md.toNat) (bb C f) [f] C.I8 (dQ C f)).1
end
end Go.Proofs.P
namespace Go.Proofs.P
open Go.Sim Tryz
theorem aH {α:Type}{l:List α}{k:Nat}{x:α}(h:l[k]?=some x):k<l.length:=by
 rcases m7 k l.length with h'|h'
 ·exact h'
 ·rw[e9 h']at h;cases h
theorem xG {l:List LP}{i j e:Nat}(hi:endAt l i=some e)(hj:endAt l j=some e):i=j:=by
 have key:∀{i j:Nat},endAt l i=some e->endAt l j=some e->i<j->False:=by intro i j hi hj Mz;obtain⟨x,hx,ho,_,h1,_⟩:=aN hj;obtain⟨m,hm,_,h2⟩:=jo hi Mz h1 hx ho;rw[hj]at hm;injection hm with hm;omega
 rcases B1 i j with h|h|h
 ·exact(key hi hj h).elim
 ·exact h
 ·exact(key hj hi h).elim
theorem nM {l:List LP}{e:Nat}:∀{n i j:Nat},elseN l e n i=some j->∀k x m,i<=k->k<j->l[k]?=some x->(x.J1=3\/x.J1=5)->endAt l k=some m->m<j
 | 0,_,_,h=>by rw[elseN]at h;cases h
 | n+1,i,j,h=>by
  intro k x m h1 h2 hx h3 hm;rw[elseN]at h;split at h
  ·split at h
   ·rename_i y hy;split at h
    ·injection h with h;omega
    ·split at h
     ·split at h
      ·rename_i m' P8;have hin:=mZ h;obtain⟨_,_,_,_,g1,_⟩:=aN P8;by_cases hk:k=i
       ·subst hk;rw[P8]at hm;injection hm with hm;omega
       ·by_cases MO:k<=m'
        ·by_cases YF:k=m'
         ·subst YF;obtain⟨z,hz,h7⟩:=bK P8;rw[hx]at hz;injection hz with hz;subst hz;omega
         ·obtain⟨m2,O6,_,g2⟩:=jo P8 o_ o_ hx aaC;rw[hm]at O6;injection O6 with O6;omega
        ·exact nM h k x m o_ h2 hx h3 hm
      ·rename_i MR;by_cases hk:k=i
       ·subst hk;rw[MR]at hm
        cases hm
       ·exact nM h k x m o_ h2 hx h3 hm
     ·by_cases hk:k=i
      ·subst hk;rw[hx]at hy;injection hy with hy;subst hy;rename_i MF;exact absurd h3 MF
      ·exact nM h k x m o_ h2 hx h3 hm
   ·cases h
  ·cases h
theorem pr {l:List LP}{i j k:Nat}(hi:elseAt l i=some k)(hj:elseAt l j=some k):i=j:=by
 have key:∀{i j:Nat},elseAt l i=some k->elseAt l j=some k->i<j->False:=by
  intro i j hi hj Mz;obtain⟨y,ej,hy,h3,Sh,h4,h5,_⟩:=bu hj;unfold elseAt at hi;split at hi
  ·split at hi
   ·have:=nM hi j y ej o_ h4 hy (.inl h3) Sh;omega
   ·cases hi
  ·cases hi
 rcases B1 i j with h|h|h
 ·exact(key hi hj h).elim
 ·exact h
 ·exact(key hj hi h).elim
theorem rq {p:List LP}{k i:Nat}:∀{n:Nat},ownN p k n=some i->i<n/\(endAt p i=some k\/elseAt p i=some k)
 | 0,h=>by rw[ownN]at h;cases h
 | n+1,h=>by
  rw[ownN]at h;split at h
  ·injection h with h;subst h;exact⟨o_,by assumption⟩
  ·have:=rq h;exact⟨o_,this.2⟩
theorem wz {p:List LP}{k i:Nat}(hi:endAt p i=some k\/elseAt p i=some k):∀{n:Nat},i<n->∃j,ownN p k n=some j
 | 0,h=>o_
 | n+1,h=>by
  rw[ownN];split
  ·exact⟨_,rfl⟩
  ·by_cases he:i=n
   ·subst he;exact absurd hi aaj
   ·exact wz hi o_
theorem jY {p:List LP}{k i:Nat}(h:endAt p i=some k):ownOf p k=i:=by
 obtain⟨x,hx,_,_,_,_⟩:=aN h;obtain⟨j,hj⟩:=wz (.inl h) (aH hx);rw[ownOf,hj];obtain⟨_,h1|h1⟩:=rq hj
 ·exact xG h1 h
 ·obtain⟨_,_,_,_,_,_,_,y,hy,h4⟩:=bu h1;obtain⟨z,hz,h7⟩:=bK h;rw[hy]at hz;injection hz with hz;subst hz;omega
theorem uy {p:List LP}{k i:Nat}(h:elseAt p i=some k):ownOf p k=i:=by
 obtain⟨x,e,hx,_,_,_,_,y,hy,h4⟩:=bu h;obtain⟨j,hj⟩:=wz (.inr h) (aH hx);rw[ownOf,hj];obtain⟨_,h1|h1⟩:=rq hj
 ·obtain⟨z,hz,h7⟩:=bK h1;rw[hy]at hz;injection hz with hz;subst hz;omega
 ·exact pr h1 h
theorem lJ {l:List LP}{i:Nat}{x:LP}(hx:l[i]?=some x)(h7:x.J1=7):∀(n s o e:Nat),i-s<=n->s<=i->1<=o->endN (l.drop s) s o=some e->i<=e->(∃k,s<=k/\k<i/\endAt l k=some i)\/∃j,1<=j/\j<=o/\endN (l.drop s) s j=some i
 | n,s,o,e,hn,hs,ho,h,hi=>by
  have MR:¬dM x.J1=true:=by rw[opensK_iff];omega
  by_cases he:s=i
  ·subst he;exact .inr ⟨1,d8 _,ho,by rw[dK hx,b8 MR,c7 h7,c7 rfl]⟩
  obtain⟨m,rfl⟩:∃m,n=m+1:=⟨n-1,o_⟩;have hl:=jg h;obtain⟨y,hy⟩:=ae (l:=l) (k:=s) o_;rw[dK hy]at h;by_cases Mx:dM y.J1=true
  ·rw[c7 Mx]at h;rcases lJ hx h7 m (s+1) (o+1) e o_ o_ o_ h hi with⟨k,h1,h2,h3⟩|⟨j,h1,h2,h3⟩
   ·exact .inl ⟨k,o_,h2,h3⟩
   ·by_cases hj:j=1
    ·subst hj;exact .inl ⟨s,d8 _,o_,by rw[qL hy Mx];exact h3⟩
    ·exact .inr ⟨j-1,o_,o_,by rw[dK hy,c7 Mx,show j-1+1=j by omega];exact h3⟩
  ·rw[b8 Mx]at h;by_cases UW:y.J1=7
   ·rw[c7 UW]at h;by_cases XW:o=1
    ·rw[c7 XW]at h;injection h with h;omega
    ·rw[b8 XW]at h;rcases lJ hx h7 m (s+1) (o-1) e o_ o_ o_ h hi with⟨k,h1,h2,h3⟩|⟨j,h1,h2,h3⟩
     ·exact .inl ⟨k,o_,h2,h3⟩
     ·exact .inr ⟨j+1,o_,o_,by rw[dK hy,b8 Mx,c7 UW,b8 o_,show j+1-1=j by omega];exact h3⟩
   ·rw[b8 UW]at h;rcases lJ hx h7 m (s+1) o e o_ o_ ho h hi with⟨k,h1,h2,h3⟩|⟨j,h1,h2,h3⟩
    ·exact .inl ⟨k,o_,h2,h3⟩
    ·exact .inr ⟨j,h1,h2,by rw[dK hy,b8 Mx,b8 UW];exact h3⟩
structure CxOk (C:Cx):Prop where
 len:C.p.length<=60
 small:aw 1048576 (.lst 4 (C.p.map LP.tr))
 line:∀(k:Nat) (ln:LP),C.p[k]?=some ln->0<=ln.J1/\ln.J1<=7/\ln.L5.length<=4/\ln.K9.length<=20/\((ln.J1=1\/ln.J1=2\/ln.J1=3\/ln.J1=5\/ln.J1=6)->br ln.K9=true)
 fn:∀(g:Nat) (ln:LP),C.p[g]?=some ln->ln.J1=0->∃e,endAt C.p g=some e/\(localsOf C.p (g:Int)).length<=8/\ln.L5.length<=(localsOf C.p (g:Int)).length/\∀(k:Nat) (y:LP),g<k->k<e->C.p[k]?=some y->y.J1≠0/\(∀t∈y.K9,t.J1=7->∃f,findN C.p 0 t.J8=some f/\(argsN C.p f:Int)=t.Mc)/\(y.J1=4->∃i,g<=i/\i<k/\elseAt C.p i=some k)
 args:0<=C.args/\C.args<=4
 I8:0<=C.I8/\C.I8<=1000
 inl:0<=C.b.Md/\C.b.Md<=3
structure ScOk (C:Cx) (x:Sc) (ins:List Nat):Prop where
 fn:∃ln,C.p[x.f]?=some ln/\ln.J1=0
 loc:x.J9=localsOf C.p (x.f:Int)
 first:0<=x.first/\x.first<=8*ins.length
 J0:x.J0.length+1=ins.length
 out:x.L2=true↔x.J0=[]
 args:x.L2=true->C.args=argsN C.p x.f
 mem:ins.getLast?=some x.f
section
variable {C:Cx} {x:Sc} {ins:List Nat}
theorem CxOk.argsN (h:CxOk C)(g:Nat):argsN C.p g<=4:=by
 unfold Go.Proofs.P.argsN;split
 ·rename_i l hl;have:=h.line _ _ hl;omega
 ·omega
theorem ScOk.endE (hC:CxOk C)(hx:ScOk C x ins):∃e,endAt C.p x.f=some e/\x.f<e/\e<C.p.length/\kE C.p x.f=e/\x.J9.length<=8:=by obtain⟨ln,h1,h2⟩:=hx.fn;obtain⟨e,h3,h4,h5,_⟩:=hC.fn _ _ h1 h2;obtain⟨_,_,_,_,h6,h7⟩:=aN h3;exact⟨e,h3,h6,h7,by rw[kE,h3];rfl,by rw[hx.loc];exact h4⟩
theorem ScOk.argLe (hC:CxOk C)(hx:ScOk C x ins):argsN C.p x.f<=x.J9.length:=by obtain⟨ln,h1,h2⟩:=hx.fn;obtain⟨e,h3,h4,h5,_⟩:=hC.fn _ _ h1 h2;rw[hx.loc,Go.Proofs.P.argsN,h1];exact h5
theorem ScOk.own7 (hC:CxOk C)(hx:ScOk C x ins){e k:Nat}{ln:LP}(he:endAt C.p x.f=some e)(h1:x.f<k)(h2:k<=e)(hk:C.p[k]?=some ln)(h7:ln.J1=7):
  endAt C.p (ownOf C.p k)=some k/\((k=e/\ownOf C.p k=x.f)\/(k<e/\x.f<ownOf C.p k/\ownOf C.p k<k/\∃y,C.p[ownOf C.p k]?=some y/\(y.J1=3\/y.J1=5))):=by
 obtain⟨l0,g1,g2⟩:=hx.fn;obtain⟨e',g3,_,_,g4⟩:=hC.fn _ _ g1 g2;rw[he]at g3;injection g3 with g3;subst g3;by_cases NF:k=e
 ·subst NF;rw[jY he];exact⟨he,.inl ⟨rfl,rfl⟩⟩
 ·obtain⟨z,hz,hzo,XF,_,_⟩:=aN he;rcases lJ hk h7 _ (x.f+1) 1 e (d8 _) o_ (d8 _) XF h2 with⟨i,k1,k2,k3⟩|⟨j,k1,k2,k3⟩
  ·rw[jY k3];obtain⟨y,hy,Va,_⟩:=aN k3;have:=(g4 i y o_ o_ hy).1;rw[opensK_iff]at Va;exact⟨k3,.inr ⟨o_,o_,k2,y,hy,o_⟩⟩
  ·have:j=1:=o_;subst this;rw[XF]at k3;injection k3 with k3;omega
theorem ScOk.own4 (hC:CxOk C)(hx:ScOk C x ins){e k:Nat}{ln:LP}(he:endAt C.p x.f=some e)(h1:x.f<k)(h2:k<=e)(hk:C.p[k]?=some ln)(h4:ln.J1=4):
  elseAt C.p (ownOf C.p k)=some k/\x.f<ownOf C.p k/\ownOf C.p k<k/\k<e:=by
 obtain⟨l0,g1,g2⟩:=hx.fn;obtain⟨e',g3,_,_,g4⟩:=hC.fn _ _ g1 g2;rw[he]at g3;injection g3 with g3;subst g3
 have NF:k≠e:=fun h=>by
  subst h;obtain⟨y,hy,h7⟩:=bK he;rw[hk]at hy;injection hy with hy;subst hy;omega
 obtain⟨i,k1,k2,k3⟩:=(g4 k ln h1 o_ hk).2.2 h4;rw[uy k3];obtain⟨y,_,hy,h3,_⟩:=bu k3
 have:i≠x.f:=fun h=>by
  subst h;rw[g1]at hy;injection hy with hy;subst hy;omega
 exact⟨k3,o_,k2,o_⟩
end
abbrev tvP (l:List LP):TV:=tvL 4 (l.map LP.tr)
abbrev vP (l:List LP):AV:= .r (.c (.t (.lst 4 (l.map LP.tr))))
theorem lT (k:Int):Sim.Spec prog 192 [tvI k] (rB (dM k)):=by
 refine ak hΓ aG func192 rfl d_ rfl ?_;unfold dM;repeat' ((conv=>whnf);first|refine Or.inl ?_|apply oi|apply fi|intro h|exact Y1|refine e_ rfl ?_)
 all_goals(refine⟨congrArg Tr.bool ?_⟩;simp_all;(try(rw[A0];simp;omega)))
abbrev Kt (l:List LP)(k:Nat)(R:Int):={q:Nat×Nat//q.1<=l.length/\q.2<=q.1/\(q.2=0->q.1=k)/\cM (endN (l.drop q.1) q.1 q.2)=R}
theorem Dc {l:List LP}{k:Nat}{x:LP}(hx:l[k]?=some x)(ho:dM x.J1=true):endN (l.drop k) k 0=endAt l k:=by rw[dK hx,c7 ho,qL hx ho]
theorem Q3{p:Prop}(h:p:=by exact⟨by dsimp only;rw[c6 _ o_];rfl⟩):p:=h
theorem cT (l:List LP)(k:Int)(hl:l.length<=1048576):Sim.Spec prog 121 [tvP l,tvI k] (rI (ct l k)):=by
 refine ak hΓ aG func121 rfl d_ rfl ?_;have Mw:(l.map LP.tr).length=l.length:=s_;by_cases hin:0<=k/\k<l.length
 ·obtain⟨h0,h1⟩:=hin;obtain⟨k,rfl⟩:=j6 h0;obtain⟨x,hx⟩:=ae (l:=l) (k:=k) o_;have hO:=lT x.J1
  skip
  cases ho:dM x.J1 with
  | false=>
   rw[ho]at hO;have:ct l (k:Int)= -1:=(by rw[cw,endAt,hx];dsimp only;rw[b8 aag];rfl);rw[this]
   repeat' ((conv=>whnf);first|refine Or.inl ?_|apply oi|apply fi|intro h|refine⟨k,x.tr,rfl,ab hx,?_⟩|refine ci hO (ai rfl trivial) ?_|exact Y2|refine e_ rfl ?_)
  | true=>
   rw[ho]at hO;obtain⟨R,hR⟩:∃R,ct l (k:Int)=R:=⟨_,rfl⟩;rw[hR];rw[cw,<-Dc hx ho]at hR;repeat' ((conv=>whnf);first|refine Or.inl ?_|apply oi|apply fi|intro h|refine⟨k,x.tr,rfl,ab hx,?_⟩|refine ci hO (ai rfl trivial) ?_|exact Y2|refine e_ rfl ?_)
   conv=>whnf
   refine⟨Kt l k R,fun q=>⟨[(0,vP l),(5,tI .i64 (q.1.2:Int)),(6,tI .i64 (q.1.1:Int))],[],[]⟩,fun q=>l.length-q.1.1,⟨(k,0),g_,o_,fun _=>rfl,hR⟩,?_,?_⟩
   ·exact Z1
   intro⟨⟨i,o⟩,hi,UP,hs,hr⟩;dsimp only at hi UP hs hr⊢;by_cases Mz:i<l.length
   ·obtain⟨y,hy⟩:=ae Mz;have SV:=lT y.J1;rw[dK hy]at hr
    cases Sg:dM y.J1 with
    | true=>
     rw[Sg]at SV;rw[c7 Sg]at hr;have h7:y.J1≠7:=(by rw[opensK_iff]at Sg;omega);repeat' ((conv=>whnf);first|refine Or.inl ?_|apply oi|apply fi|intro h|refine⟨i,y.tr,rfl,ab hy,?_⟩|refine ci SV (ai rfl trivial) ?_|exact Y2|refine e_ rfl ?_)
     all_goals try exact Q2
     all_goals try exact K3
     conv=>whnf
     refine⟨⟨(i+1,o+1),g_,g_,fun h=>o_,hr⟩,?_,KD⟩;repeat' ((conv=>whnf);first|refine Or.inl ?_|apply oi|apply fi|intro h|exact Y3|refine e_ rfl ?_)
     all_goals exact Q3
    | false=>
     rw[Sg]at SV;rw[b8 (by simp[Sg])]at hr
     have MF:o≠0:=fun h=>by
      have:=hs h;subst this;rw[hx]at hy;injection hy with hy;subst hy;rw[ho]at Sg
      cases Sg
     by_cases h7:y.J1=7
     ·rw[c7 h7]at hr;by_cases h1:o=1
      ·rw[c7 h1]at hr;subst hr;subst h1;repeat' ((conv=>whnf);first|refine Or.inl ?_|apply oi|apply fi|intro h|refine⟨i,y.tr,rfl,ab hy,?_⟩|refine ci SV (ai rfl trivial) ?_|exact Y2|refine e_ rfl ?_)
       all_goals try exact Q2
      ·rw[b8 h1]at hr;repeat' ((conv=>whnf);first|refine Or.inl ?_|apply oi|apply fi|intro h|refine⟨i,y.tr,rfl,ab hy,?_⟩|refine ci SV (ai rfl trivial) ?_|exact Y2|refine e_ rfl ?_)
       all_goals try exact Q2
       all_goals try exact K3
       conv=>whnf
       refine⟨⟨(i+1,o-1),g_,g_,fun h=>o_,hr⟩,?_,KD⟩;repeat' ((conv=>whnf);first|refine Or.inl ?_|apply oi|apply fi|intro h|exact Y3|refine e_ rfl ?_)
       all_goals exact⟨by dsimp only;congr 1;rw[c6 _ o_];omega⟩
     ·rw[b8 h7]at hr;repeat' ((conv=>whnf);first|refine Or.inl ?_|apply oi|apply fi|intro h|refine⟨i,y.tr,rfl,ab hy,?_⟩|refine ci SV (ai rfl trivial) ?_|exact Y2|refine e_ rfl ?_)
      all_goals try exact Q2
      all_goals try exact K4
      conv=>whnf
      refine⟨⟨(i+1,o),g_,g_,fun h=>o_,hr⟩,?_,KD⟩;exact Z3
   ·rw[lf o_]at hr;subst hr;exact Z4
 ·have:ct l k= -1:=by
   rw[ct];split
   ·rw[endAt,e9 o_];rfl
   ·rfl
  rw[this];exact Z4
end Go.Proofs.P
namespace Go.Proofs.P
open Go.Sim Tryz
set_option maxRecDepth 100000
theorem Jh {α:Type}{D t:List α}{r:α}{n:Nat}(h:D.length=n):(D++r::t)[n]?=some r:=by subst h;simp
theorem IW {α:Type}{D t:List α}{r r':α}{n:Nat}(h:D.length=n):(D++r::t).set n r'=D++r'::t:=by subst h;simp
theorem iK (a:List (List Tr)):(aK a).length=a.length:=by simp[aK]
theorem ji {l:List (List Tr)}{k:Nat}{r:List Tr}(h:l[k]?=some r):(aK l)[k]?=some (r.map .d):=by simp[aK,h]
theorem qd (l:List (List Tr))(k:Nat)(r:List Tr):(aK l).set k (r.map .d)=aK (l.set k r):=by simp[aK,F6]
theorem aI {A:Prop}{Q:(ι:Type)->(ι->St)->Prop}(h:A):A\/∃(ι:Type) (S:ι->St),Q ι S:=Or.inl h
theorem mt {α:Type}{g:α->List Tr}(l:List α)(h:∀x,∀c∈g x,∀sz rs,c≠.lst sz rs):flat (l.map g):=by intro row hr c hc sz rs;obtain⟨x,_,rfl⟩:=n7.1 hr;exact h x c hc sz rs
theorem bZ (l:List Int):flat (l.map aa):=mt _ (by intro x c hc sz rs e;subst e;simp[aa]at hc)
end Go.Proofs.P
namespace Go.Proofs.P
open Go.Sim Tryz
theorem kV (l:List (List UInt8)):flat (l.map ao):=mt _ (by intro x c hc sz rs e;subst e;simp[ao]at hc)
theorem CR {l:List LP}{k:Nat}{x:LP}(hx:l[k]?=some x)(h:x.J1≠3\/endAt l k=none):elseAt l k=none:=by
 unfold elseAt;rw[hx]
 cases he:endAt l k with
 | none=>rfl
 | some e=>
  dsimp only;rw[b8];rcases h with h|h
  ·exact h
  ·rw[he]at h;cases h
theorem V44{p:Prop}(h:p:=by
 repeat' ((conv=>whnf);first|refine Or.inl ?_|apply oi|apply fi|intro h|refine ci hE (ai rfl (ai rfl trivial)) ?_|refine⟨k,x.tr,rfl,ab hx,?_⟩|exact Y2|refine e_ rfl ?_)
 all_goals try(exfalso;(try simp_all[af]);(try omega);done)):p:=h
theorem V76{p:Prop}(h:p:=by
 repeat' ((conv=>whnf);first|refine Or.inl ?_|apply oi|apply fi|intro h|refine ci hE (ai rfl (ai rfl trivial)) ?_|exact Y2|refine e_ rfl ?_)):p:=h
theorem ko (l:List LP)(k:Int)(hl:l.length<=1048576):Sim.Spec prog 173 [tvP l,tvI k] (rI (cB l k)):=by
 refine ak hΓ aG func173 rfl d_ rfl ?_;have Mw:(l.map LP.tr).length=l.length:=s_;have hE:=cT l k hl
 cases he:endAt l k.toNat with
 | none=>
  have h1:ct l k= -1:=by rw[ct,he];split<;>rfl
  have h2:cB l k= -1:=by
   rw[cB];split
   ·unfold elseAt;rw[he];cases l[k.toNat]?<;>rfl
   ·rfl
  rw[h1]at hE;rw[h2]
  repeat' ((conv=>whnf);first|refine Or.inl ?_|apply oi|apply fi|intro h|refine ci hE (ai rfl (ai rfl trivial)) ?_|exact Y2|refine e_ rfl ?_)
 | some e=>
  obtain⟨x,hx,ho,_,NF,M6⟩:=aN he;by_cases h0:0<=k
  ·obtain⟨k,rfl⟩:=j6 h0;rw[d7]at he hx NF;rw[cw,bQ he]at hE;by_cases h3:x.J1=3
   ·obtain⟨R,hR⟩:∃R,cB l (k:Int)=R:=⟨_,rfl⟩;rw[hR]
    have hR:cM (elseN l e (e-(k+1)) (k+1))=R:=by rw[cB,c7 h0,d7,elseAt,hx,he]at hR;dsimp only at hR;rw[c7 h3]at hR;exact hR
    repeat' ((conv=>whnf);first|refine Or.inl ?_|apply oi|apply fi|intro h|refine ci hE (ai rfl (ai rfl trivial)) ?_|refine⟨k,x.tr,rfl,ab hx,?_⟩|exact Y2|refine e_ rfl ?_)
    all_goals try exact Q2
    conv=>whnf
    refine⟨{i:Nat//k<i/\i<=e/\cM (elseN l e (e-i) i)=R},fun q=>⟨[(0,vP l),(5,tI .i64 (e:Int)),(6,tI .i64 (q.1:Int))],[],[]⟩,fun q=>e-q.1,⟨k+1,o_,o_,hR⟩,?_,?_⟩
    ·repeat' ((conv=>whnf);first|refine Or.inl ?_|apply oi|apply fi|intro h|exact Y1|refine e_ rfl ?_)
     all_goals exact Q3
    intro⟨i,SE,hi,hr⟩;dsimp only at SE hi hr⊢;by_cases Mz:i<e
    ·obtain⟨y,hy⟩:=ae (l:=l) (k:=i) o_;rw[Dk Mz hy]at hr;have UL:=cT l (i:Int) hl;by_cases h4:y.J1=4
     ·rw[c7 h4]at hr;subst hr;repeat' ((conv=>whnf);first|refine Or.inl ?_|apply oi|apply fi|intro h|refine ci UL (ai rfl (ai rfl trivial)) ?_|refine⟨i,y.tr,rfl,ab hy,?_⟩|exact Y2|refine e_ rfl ?_)
      all_goals try exact Q2
     ·rw[b8 h4]at hr;by_cases h5:y.J1=3\/y.J1=5
      ·rw[c7 h5]at hr;obtain⟨m,hm,RW,O6⟩:=jo he (i:=i) SE Mz hy (opensK_iff.2 o_);rw[hm]at hr;dsimp only at hr;rw[cw,bQ hm]at UL;repeat' ((conv=>whnf);first|refine Or.inl ?_|apply oi|apply fi|intro h|refine ci UL (ai rfl (ai rfl trivial)) ?_|refine⟨i,y.tr,rfl,ab hy,?_⟩|exact Y2|refine e_ rfl ?_)
       all_goals try exact Q2
       all_goals
        conv=>whnf
        refine⟨⟨m+1,o_,o_,hr⟩,?_,KD⟩;repeat' ((conv=>whnf);first|refine Or.inl ?_|apply oi|apply fi|intro h|exact Y3|refine e_ rfl ?_)
        all_goals exact Q3
      ·rw[b8 h5]at hr;repeat' ((conv=>whnf);first|refine Or.inl ?_|apply oi|apply fi|intro h|refine ci UL (ai rfl (ai rfl trivial)) ?_|refine⟨i,y.tr,rfl,ab hy,?_⟩|exact Y2|refine e_ rfl ?_)
       all_goals try exact Q2
       all_goals try exact Q5
       conv=>whnf
       refine⟨⟨i+1,o_,o_,hr⟩,?_,KD⟩;repeat' ((conv=>whnf);first|refine Or.inl ?_|apply oi|apply fi|intro h|exact Y3|refine e_ rfl ?_)
       all_goals exact Q3
    ·rw[FM o_]at hr;subst hr;exact Z4
   ·have h2:cB l (k:Int)= -1:=by rw[cB,c7 h0,d7,CR hx (.inl h3)];rfl
    rw[h2];exact V44
  ·have h1:ct l k= -1:=(by rw[ct,b8 h0]);have h2:cB l k= -1:=(by rw[cB,b8 h0]);rw[h1]at hE;rw[h2];exact V76
theorem Q15{p:Prop}(h:p:=by exact⟨⟨by simp;omega,by simp;omega⟩⟩):p:=h
theorem cH (l:List LP)(hl:l.length<=1048576):Sim.Spec prog 62 [tvP l] (rL 1 ((ay l).map fun n:Nat=>aa n)):=by
 refine ak hΓ aG func62 rfl d_ rfl ?_;have Mw:(l.map LP.tr).length=l.length:=s_;obtain⟨R,hR⟩:∃R,ay l=R:=⟨_,rfl⟩;rw[hR];repeat' ((conv=>whnf);first|refine Or.inl ?_|apply oi|apply fi|intro h|exact Y1|refine e_ rfl ?_)
 conv=>whnf
 refine⟨{q:Nat×List Nat//q.1<=l.length/\q.2.length<=q.1/\q.2++funsF (l.drop q.1) q.1=R},fun q=>⟨[(0,vP l),(3,.r (.c (.own (5,0,0)))),(4,tI .i64 (q.1.1:Int))],[((5,0,0),some (.arr true 1 (q.1.2.map fun n:Nat=>aa n)))],[5]⟩,fun q=>l.length-q.1.1,⟨(0,[]),s_,s_,by simpa [ay]using hR⟩,?_,?_⟩
 ·exact Z1
 intro⟨⟨k,acc⟩,hk,M5,hr⟩;dsimp only at hk M5 hr⊢;have ZO:(acc.map fun n:Nat=>aa n).length=acc.length:=s_;by_cases Mz:k<l.length
 ·obtain⟨x,hx⟩:=ae Mz;rw[zR hx]at hr;by_cases h0:x.J1=0
  ·rw[c7 h0]at hr;repeat' ((conv=>whnf);first|refine Or.inl ?_|apply oi|apply fi|intro h|refine⟨k,x.tr,rfl,ab hx,?_⟩|exact Y2|refine e_ rfl ?_)
   all_goals try exact Q2
   all_goals try exact Q15
   conv=>whnf
   refine⟨⟨(k+1,acc++[k]),g_,by simp;omega,by rw[<-hr];simp⟩,?_,KD⟩;repeat' ((conv=>whnf);first|refine Or.inl ?_|apply oi|apply fi|intro h|exact Y3|refine e_ rfl ?_)
   all_goals exact⟨by simp[aa]⟩
  ·rw[b8 h0,t6]at hr;repeat' ((conv=>whnf);first|refine Or.inl ?_|apply oi|apply fi|intro h|refine⟨k,x.tr,rfl,ab hx,?_⟩|exact Y2|refine e_ rfl ?_)
   all_goals try exact Q2
   conv=>whnf
   refine⟨⟨(k+1,acc),g_,g_,hr⟩,?_,KD⟩;exact Z3
 ·rw[n9 o_,funsF,m6]at hr;subst hr;exact Z4
theorem dJ (l:List LP)(s:List UInt8)(hl:l.length<=1048576):Sim.Spec prog 120 [tvP l,tvS s] (rI (lP l s)):=by
 refine ak hΓ aG func120 rfl d_ rfl ?_;have Mw:(l.map LP.tr).length=l.length:=s_;obtain⟨R,hR⟩:∃R,lP l s=R:=⟨_,rfl⟩;rw[hR];repeat' ((conv=>whnf);first|refine Or.inl ?_|apply oi|apply fi|intro h|exact Y1|refine e_ rfl ?_)
 conv=>whnf
 refine⟨{k:Nat//k<=l.length/\cM (findN (l.drop k) k s)=R},fun q=>⟨[(0,vP l),(1,tS s),(5,tI .i64 (q.1:Int))],[],[]⟩,fun q=>l.length-q.1,⟨0,o_,hR⟩,?_,?_⟩
 ·exact Z1
 intro⟨k,hk,hr⟩;dsimp only at hk hr⊢;by_cases Mz:k<l.length
 ·obtain⟨x,hx⟩:=ae Mz;rw[Hv hx]at hr;by_cases h0:x.J1=0/\x.J8=s
  ·rw[c7 h0]at hr;obtain⟨h1,h2⟩:=h0;subst h2;exact V51
  ·rw[b8 h0]at hr;repeat' ((conv=>whnf);first|refine Or.inl ?_|apply oi|apply fi|intro h|refine⟨k,x.tr,rfl,ab hx,?_⟩|exact Y2|refine e_ rfl ?_)
   all_goals try(exfalso;apply h0;simp_all;done)
   all_goals
    conv=>whnf
    refine⟨⟨k+1,o_,hr⟩,?_,KD⟩;exact Z3
 ·rw[n9 o_,findN]at hr;subst hr;exact Z4
abbrev rN (l:List (List UInt8)):Res:=rL 1 (l.map ao)
theorem zV {l:List LP}{k e:Nat}{x:LP}(hx:l[k]?=some x)(he:endAt l k=some e)(h0:x.J1=0):localsOf l (k:Int)=locN l e (e-k) k x.L5:=by rw[localsOf,c7 o_,d7,hx,he];dsimp only;rw[c7 h0]
theorem oA {l:List LP}{k:Int}(h:∀e x,endAt l k.toNat=some e->l[k.toNat]?=some x->0<=k->x.J1≠0):localsOf l k=[]:=by
 rw[localsOf];split
 ·split
  ·rename_i x e hx he;rw[b8 (h e x he hx aaj)]
  ·rfl
 ·rfl
theorem Gi {l:List LP}{k:Int}(hl:l.length<=1048576)(hs:∀x∈l,aF 1048576 x.tr):(localsOf l k).length<=2097152/\True:=by
 refine⟨?_,trivial⟩;rw[localsOf];split
 ·split
  ·rename_i x e hx he;obtain⟨_,_,_,_,h1,h2⟩:=aN he;have:=(fM (hs x (c9 hx))).2.1;split
   ·have:=Bs (l:=l) (e:=e) (e-k.toNat) k.toNat x.L5;omega
   ·simp
  ·simp
 ·simp
theorem fI (l:List (List UInt8))(s:List UInt8)(hl:l.length<=2097152):Sim.Spec prog 176 [tvL 1 (l.map ao),tvS s] (rI (dG l s)):=by
 refine ak hΓ aG func176 rfl d_ rfl ?_;have Mw:(l.map ao).length=l.length:=s_;obtain⟨R,hR⟩:∃R,dG l s=R:=⟨_,rfl⟩;rw[hR];repeat' ((conv=>whnf);first|refine Or.inl ?_|apply oi|apply fi|intro h|exact Y1|refine e_ rfl ?_)
 conv=>whnf
 refine⟨{k:Nat//k<=l.length/\cM (iH (l.drop k) k s)=R},fun k=>⟨[(0,.r (.c (.t (.lst 1 (l.map ao))))),(1,tS s),(5,tI .i64 (k.1:Int))],[],[]⟩,fun k=>l.length-k.1,⟨0,o_,hR⟩,?_,?_⟩
 ·exact Z1
 intro⟨k,hk,hr⟩;dsimp only at hk hr⊢;by_cases Mz:k<l.length
 ·obtain⟨x,hx⟩:=ae Mz;rw[Jb hx]at hr
  cases he:(x==s)with
  | true=>
   rw[he,c7 rfl]at hr;have Ou:=B7 he;subst Ou;subst hr;repeat' ((conv=>whnf);first|refine Or.inl ?_|apply oi|apply fi|intro h|refine⟨k,(ao x),rfl,ab hx,?_⟩|exact Y2|refine e_ rfl ?_)
   all_goals try exact Q2
  | false=>
   rw[he,b8 s_]at hr;repeat' ((conv=>whnf);first|refine Or.inl ?_|apply oi|apply fi|intro h|refine⟨k,(ao x),rfl,ab hx,?_⟩|exact Y2|refine e_ rfl ?_)
   all_goals try exact Q2
   conv=>whnf
   refine⟨⟨k+1,o_,hr⟩,?_,KD⟩;exact Z3
 ·rw[n9 o_,iH]at hr;subst hr;exact Z4
theorem iM (l:List LP)(k:Int)(hl:l.length<=1048576)(hs:∀x∈l,aF 1048576 x.tr):Sim.Spec prog 172 [tvP l,tvI k] (rN (localsOf l k)):=by
 refine ak hΓ aG func172 rfl d_ rfl ?_;have Mw:(l.map LP.tr).length=l.length:=s_;have hE:=cT l k hl;by_cases h0:0<=k
 ·obtain⟨k,rfl⟩:=j6 h0;rw[cw]at hE
  cases he:endAt l k with
  | none=>
   rw[qP he]at hE;rw[oA (fun e x h1 _ _=>by rw[d7,he]at h1;cases h1)]
   exact V76
  | some e=>
   rw[bQ he]at hE;obtain⟨x,hx,ho,_,NF,M6⟩:=aN he;by_cases N1:x.J1=0
   ·have QN:=fM (hs x (c9 hx));rw[zV hx he N1];obtain⟨R,hR⟩:∃R,locN l e (e-k) k x.L5=R:=⟨_,rfl⟩;rw[hR];have M5:(x.L5.map ao).length=x.L5.length:=s_;repeat' ((conv=>whnf);first|refine Or.inl ?_|apply oi|apply fi|intro h|refine ci hE (ai rfl (ai rfl trivial)) ?_|refine⟨k,x.tr,rfl,ab hx,?_⟩|exact Y2|refine e_ rfl ?_)
    all_goals try exact Q2
    all_goals try exact Q15
    conv=>whnf
    refine⟨{q:Nat×List (List UInt8)//k<=q.1/\q.1<=e/\q.2.length<=1048576+q.1/\locN l e (e-q.1) q.1 q.2=R},fun q=>⟨[(0,vP l),(5,tI .i64 (e:Int)),(6,.r (.c (.own (6,0,0)))),(7,tI .i64 (q.1.1:Int))],[((6,0,0),some (.arr false 1 (q.1.2.map ao)))],[6]⟩,fun q=>e-q.1.1,⟨(k,x.L5),g_,g_,g_,hR⟩,?_,?_⟩
    ·repeat' ((conv=>whnf);first|refine Or.inl ?_|apply oi|apply fi|intro h|exact Y1|refine e_ rfl ?_)
     all_goals exact⟨s_⟩
    intro⟨⟨i,acc⟩,SE,hi,XY,hr⟩;dsimp only at SE hi XY hr⊢;have NW:(acc.map ao).length=acc.length:=s_;by_cases Mz:i<e
    ·obtain⟨y,hy⟩:=ae (l:=l) (k:=i) o_;rw[FX Mz hy]at hr;have hC:=fI acc y.J8 o_;by_cases h1:y.J1=1
     ·rw[c7 h1]at hr;have OU:=xg (l:=acc) (s:=y.J8)
      generalize dG acc y.J8=ix at *
      unfold fX at hr
      cases hc:acc.contains y.J8 with
      | true=>
       rw[hc]at OU hr;rw[c7 rfl]at hr;repeat' ((conv=>whnf);first|refine Or.inl ?_|apply oi|apply fi|intro h|refine ci hC (ai rfl (ai rfl trivial)) ?_|refine⟨i,y.tr,rfl,ab hy,?_⟩|exact Y2|refine e_ rfl ?_)
       all_goals try exact Q2
       all_goals
        conv=>whnf
        refine⟨⟨(i+1,acc),g_,g_,g_,hr⟩,?_,KD⟩
        exact Z3
      | false=>
       rw[hc]at OU hr;rw[b8 s_]at hr;repeat' ((conv=>whnf);first|refine Or.inl ?_|apply oi|apply fi|intro h|refine ci hC (ai rfl (ai rfl trivial)) ?_|refine⟨i,y.tr,rfl,ab hy,?_⟩|exact Y2|refine e_ rfl ?_)
       all_goals try exact Q2
       all_goals try exact Q15
       all_goals
        conv=>whnf
        refine⟨⟨(i+1,acc++[y.J8]),g_,g_,by simp;omega,hr⟩,?_,KD⟩;repeat' ((conv=>whnf);first|refine Or.inl ?_|apply oi|apply fi|intro h|exact Y3|refine e_ rfl ?_)
        all_goals exact⟨by simp[ao]⟩
     ·rw[b8 h1]at hr;repeat' ((conv=>whnf);first|refine Or.inl ?_|apply oi|apply fi|intro h|refine ci hC (ai rfl (ai rfl trivial)) ?_|refine⟨i,y.tr,rfl,ab hy,?_⟩|exact Y2|refine e_ rfl ?_)
      all_goals try exact Q2
      all_goals try exact Q5
      conv=>whnf
      refine⟨⟨(i+1,acc),g_,g_,g_,hr⟩,?_,KD⟩;exact Z3
    ·rw[HP o_]at hr;subst hr;repeat' ((conv=>whnf);first|refine Or.inl ?_|apply oi|apply fi|intro h|exact Y2|refine e_ rfl ?_)
     all_goals exact⟨⟨rfl,kV _⟩⟩
   ·rw[oA (fun e x' h1 h2 _=>by rw[d7,hx]at h2;injection h2 with h2;subst h2;exact N1)];exact V44
 ·have h1:ct l k= -1:=by rw[ct,b8 h0]
  rw[h1]at hE;rw[oA (fun e x _ _ h=>absurd h h0)];exact V76
abbrev vN (l:List (List UInt8)):AV:= .r (.c (.t (.lst 1 (l.map ao))))
theorem Kr {α:Type}{f:α->Bool}{l:List α}{k:Nat}{x:α}(hx:l[k]?=some x):(l.drop k).all f=(f x&&(l.drop (k+1)).all f):=by rw[cF hx,E7]
abbrev nR (n:Nat):List Tr:=aa n
theorem FH {l:List LP}{x:LP}(hx:l[0]?=some x):headOk l=(x.J1==0&&(x.J8==kJ&&x.L5.length==0)):=by
 cases l with
 | nil=>cases hx
 | cons y r=>rw[e8]at hx;injection hx with hx;subst hx;rfl
end Go.Proofs.P
