import Derived.Test.YtoglejgmjeojoaaGreatGd
import Derived.Test.YtoglejgmjeojoaaGreatRows
set_option maxRecDepth 100000
set_option maxHeartbeats 4000000
namespace Go.Sim
theorem K1 {p:Prop}(h:p:=by dsimp only;rw[c6 _ (by omega)];rfl):p:=h
theorem K2 {p:Prop}(h:False:=by simp at *;omega):p:=h.elim
theorem K3 {p:Prop}(h:False:=by simp(disch:=omega)only[c6]at *;simp only[w8]at *;omega):p:=h.elim
theorem K4 {p:Prop}(h:False:=by simp only[w8]at *;omega):p:=h.elim
theorem K5 {p:Prop}(h:p:=by rw[c6 _ (by omega)];rfl):p:=h
theorem K6 {p:Prop}(h:p:=by rw[c6 _ (by omega)];omega):p:=h
theorem K7 {k:IntKind}{a b:Int}(h:a=b:=by dsimp only;rw[c6 _ (by omega)];omega):Tr.int k a=Tr.int k b:=congrArg (Tr.int k) h
theorem K8 {p:Prop}(h:False:=by simp_all;omega):p:=h.elim
theorem KD {p:Prop}(h:p:=by dsimp only;omega):p:=h
theorem Y1{p:Prop}(h:p:=by first|rfl|exact⟨KO⟩):p:=h
theorem Y2{p:Prop}(h:p:=by first|rfl|exact⟨KO⟩|exact KX):p:=h
theorem Y3{p:Prop}(h:p:=by first|rfl|exact⟨KO⟩|exact⟨K1⟩):p:=h
theorem Y4{p:Prop}(h:p:=by first|rfl|exact⟨KO⟩|exact KX|exact K2):p:=h
theorem Y5{p:Prop}(h:p:=by first|rfl|exact⟨KP⟩|exact KX):p:=h
theorem Y6{p:Prop}(h:p:=by first|rfl|exact⟨KP⟩|exact⟨K1⟩):p:=h
theorem Y7{p:Prop}(h:p:=by first|rfl|exact⟨KP⟩):p:=h
theorem Y8{p:Prop}(h:p:=by first|rfl|exact⟨KP⟩|exact⟨KW⟩):p:=h
theorem Y9{p:Prop}(h:p:=by first|rfl|exact⟨KP⟩|exact KX|exact⟨KW⟩|exact KK):p:=h
theorem Y10{p:Prop}(h:p:=by first|rfl|exact⟨KP⟩|exact KX|exact KK):p:=h
theorem Y11{p:Prop}(h:p:=by first|rfl|exact⟨KP⟩|exact KX|exact⟨KW⟩):p:=h
theorem Y12{p:Prop}(h:p:=by first|rfl|exact⟨KO⟩|exact KX|exact⟨K6⟩):p:=h
theorem Y13{p:Prop}(h:p:=by first|rfl|exact⟨KP⟩|exact KK):p:=h
theorem Y14{p:Prop}(h:p:=by first|rfl|exact⟨KP⟩|exact⟨K7⟩):p:=h
theorem Y15{p:Prop}(h:p:=by first|rfl|exact⟨KO⟩|exact K8):p:=h
theorem Y16{p:Prop}(h:p:=by first|rfl|exact⟨KR⟩):p:=h
theorem Z1{p:Prop}(h:p:=by(repeat' ((conv=>whnf);first|refine Or.inl ?_|apply oi|apply fi|intro h|exact Y1|refine e_ rfl ?_));skip):p:=h
theorem Z2{p:Prop}(h:p:=by(repeat' ((conv=>whnf);first|apply Wx|apply W6|apply oi|apply fi|intro h|exact Y7|refine e_ rfl ?_));skip):p:=h
theorem Z3{p:Prop}(h:p:=by(repeat' ((conv=>whnf);first|refine Or.inl ?_|apply oi|apply fi|intro h|exact Y3|refine e_ rfl ?_));skip):p:=h
theorem Z4{p:Prop}(h:p:=by(repeat' ((conv=>whnf);first|refine Or.inl ?_|apply oi|apply fi|intro h|exact Y2|refine e_ rfl ?_));skip):p:=h
theorem Z5{p:Prop}(h:p:=by(repeat' ((conv=>whnf);first|apply Wx|apply W6|apply oi|apply fi|intro h|exact Y6|refine e_ rfl ?_));skip):p:=h
theorem Z6{p:Prop}(h:p:=by(repeat' ((conv=>whnf);first|apply Wx|apply W6|apply oi|apply fi|intro h|exact Y8|refine e_ rfl ?_));skip):p:=h
theorem Z7{p:Prop}(h:p:=by(repeat' ((conv=>whnf);first|apply Wx|apply W6|apply oi|apply fi|intro h|exact Y5|refine e_ rfl ?_));skip):p:=h
end Go.Sim
namespace Go.Proofs.P
open Go.Sim Tryz
abbrev e0 := AC.t (Tr.int Go.IntKind.i64 (Int.ofNat 0))
abbrev e1 := AC.t (Tr.bool false)
abbrev e2 := AC.t (Tr.str [])
abbrev e3 := AC.nils 0
abbrev e4 (s b : Nat) (z : List AC) : LJ := {size:=s,bytes:=b,agg:=true,zero:=z}
abbrev e5 (s b : Nat) (z : List AC) : LJ := {size:=s,bytes:=b,agg:=false,zero:=z}
def Γ:Env:=[(2,{size:=1,bytes:=8,agg:=false,zero:=[e0],kind:=some Go.IntKind.i64}),
(3,{size:=1,bytes:=8,agg:=false,zero:=[e0],kind:=some Go.IntKind.i64}),
(4,{size:=1,bytes:=1,agg:=false,zero:=[e1],bool:=true}),
(5,{size:=1,bytes:=1,agg:=false,zero:=[AC.t (Tr.int Go.IntKind.u8 (Int.ofNat 0))],kind:=some Go.IntKind.u8}),
(6,{size:=1,bytes:=1,agg:=false,zero:=[AC.t (Tr.int Go.IntKind.u8 (Int.ofNat 0))],kind:=some Go.IntKind.u8}),
(7,{size:=4,bytes:=24,agg:=true,zero:=[e0,e0,e1,AC.t (Tr.int Go.IntKind.u8 (Int.ofNat 0))],fields:=[(0,1,2),(1,1,3),(2,1,4),(3,1,6)]}),
(8,{size:=4,bytes:=24,agg:=true,zero:=[e0,e0,e1,AC.t (Tr.int Go.IntKind.u8 (Int.ofNat 0))],fields:=[(0,1,2),(1,1,3),(2,1,4),(3,1,6)]}),
(9,{size:=1,bytes:=16,agg:=false,zero:=[e2],str:=true}),
(10,{size:=1,bytes:=16,agg:=false,zero:=[e2],str:=true}),
(11,{size:=1,bytes:=16,agg:=false,zero:=[e2],str:=true}),
(15,e5 1 8 [AC.nilp]),
(16,e5 1 8 [AC.nilp]),
(17,e5 1 8 [AC.nilp]),
(18,{size:=1,bytes:=8,agg:=true,zero:=[AC.nilp],fields:=[(0,1,17)]}),
(19,{size:=1,bytes:=8,agg:=true,zero:=[AC.nilp],fields:=[(0,1,17)]}),
(20,e5 1 16 [AC.opq]),
(21,{size:=1,bytes:=4,agg:=false,zero:=[AC.t (Tr.int Go.IntKind.i32 (Int.ofNat 0))],kind:=some Go.IntKind.i32}),
(22,{size:=1,bytes:=24,agg:=false,zero:=[e3],elem:=some 5}),
(24,{size:=1,bytes:=24,agg:=false,zero:=[e3],elem:=some 138}),
(25,{size:=4,bytes:=24,agg:=true,zero:=[e0,e0,e1,e1],fields:=[(0,1,3),(1,1,3),(2,1,4),(3,1,4)]}),
(26,{size:=4,bytes:=24,agg:=true,zero:=[e0,e0,e1,e1],fields:=[(0,1,3),(1,1,3),(2,1,4),(3,1,4)]}),
(27,{size:=1,bytes:=24,agg:=false,zero:=[e3],elem:=some 93}),
(28,{size:=1,bytes:=24,agg:=false,zero:=[e3],elem:=some 3}),
(29,{size:=3,bytes:=72,agg:=true,zero:=[e3,e3,e3],fields:=[(0,1,27),(1,1,28),(2,1,28)]}),
(30,{size:=3,bytes:=72,agg:=true,zero:=[e3,e3,e3],fields:=[(0,1,27),(1,1,28),(2,1,28)]}),
(33,{size:=1,bytes:=24,agg:=false,zero:=[e3],elem:=some 118}),
(35,{size:=1,bytes:=24,agg:=false,zero:=[e3],elem:=some 103}),
(37,{size:=1,bytes:=24,agg:=false,zero:=[e3],elem:=some 33}),
(38,{size:=7,bytes:=88,agg:=true,zero:=[e0,e0,e0,e3,e3,e0,e0],fields:=[(0,1,3),(1,1,3),(2,1,3),(3,1,28),(4,1,28),(5,1,3),(6,1,3)]}),
(39,{size:=7,bytes:=88,agg:=true,zero:=[e0,e0,e0,e3,e3,e0,e0],fields:=[(0,1,3),(1,1,3),(2,1,3),(3,1,28),(4,1,28),(5,1,3),(6,1,3)]}),
(44,{size:=4,bytes:=48,agg:=true,zero:=[e0,e0,e0,e3],fields:=[(0,1,3),(1,1,3),(2,1,3),(3,1,28)]}),
(45,{size:=4,bytes:=48,agg:=true,zero:=[e0,e0,e0,e3],fields:=[(0,1,3),(1,1,3),(2,1,3),(3,1,28)]}),
(47,{size:=2,bytes:=16,agg:=true,zero:=[e0,e0],fields:=[(0,1,3),(1,1,3)]}),
(48,{size:=2,bytes:=16,agg:=true,zero:=[e0,e0],fields:=[(0,1,3),(1,1,3)]}),
(59,{size:=1,bytes:=24,agg:=false,zero:=[e3],elem:=some 135}),
(60,{size:=4,bytes:=24,agg:=true,zero:=[e0,e0,e1,e1],fields:=[(0,1,3),(1,1,3),(2,1,4),(3,1,4)]}),
(76,{size:=1,bytes:=24,agg:=false,zero:=[e3],elem:=some 28}),
(77,{size:=4,bytes:=64,agg:=true,zero:=[e3,e3,e0,e0],fields:=[(0,1,28),(1,1,76),(2,1,3),(3,1,3)]}),
(78,{size:=4,bytes:=64,agg:=true,zero:=[e3,e3,e0,e0],fields:=[(0,1,28),(1,1,76),(2,1,3),(3,1,3)]}),
(82,{size:=1,bytes:=24,agg:=false,zero:=[e3],elem:=some 111}),
(83,{size:=1,bytes:=24,agg:=false,zero:=[e3],elem:=some 186}),
(84,{size:=1,bytes:=24,agg:=false,zero:=[e3],elem:=some 192}),
(85,{size:=5,bytes:=104,agg:=true,zero:=[e0,e3,e3,e3,e3],fields:=[(0,1,3),(1,1,82),(2,1,33),(3,1,83),(4,1,84)]}),
(86,{size:=5,bytes:=104,agg:=true,zero:=[e0,e3,e3,e3,e3],fields:=[(0,1,3),(1,1,82),(2,1,33),(3,1,83),(4,1,84)]}),
(92,{size:=2,bytes:=40,agg:=true,zero:=[e2,e3],fields:=[(0,1,9),(1,1,82)]}),
(93,{size:=2,bytes:=40,agg:=true,zero:=[e2,e3],fields:=[(0,1,9),(1,1,82)]}),
(100,{size:=7,bytes:=72,agg:=true,zero:=[e0,e0,e0,e1,e3,e0,e1],fields:=[(0,2,48),(2,1,3),(3,1,4),(4,1,28),(5,1,3),(6,1,4)]}),
(101,{size:=7,bytes:=72,agg:=true,zero:=[e0,e0,e0,e1,e3,e0,e1],fields:=[(0,2,48),(2,1,3),(3,1,4),(4,1,28),(5,1,3),(6,1,4)]}),
(102,{size:=8,bytes:=80,agg:=true,zero:=[e0,e0,e0,e0,e1,e3,e0,e1],fields:=[(0,1,3),(1,7,101)]}),
(103,{size:=8,bytes:=80,agg:=true,zero:=[e0,e0,e0,e0,e1,e3,e0,e1],fields:=[(0,1,3),(1,7,101)]}),
(104,{size:=1,bytes:=24,agg:=false,zero:=[e3],elem:=some 108}),
(107,{size:=2,bytes:=24,agg:=true,zero:=[e2,e0],fields:=[(0,1,9),(1,1,3)]}),
(108,{size:=2,bytes:=24,agg:=true,zero:=[e2,e0],fields:=[(0,1,9),(1,1,3)]}),
(110,{size:=3,bytes:=32,agg:=true,zero:=[e2,e0,e0],fields:=[(0,1,9),(1,1,3),(2,1,3)]}),
(111,{size:=3,bytes:=32,agg:=true,zero:=[e2,e0,e0],fields:=[(0,1,9),(1,1,3),(2,1,3)]}),
(113,e5 1 8 [AC.nilp]),
(117,{size:=4,bytes:=32,agg:=true,zero:=[e0,e0,e1,e0],fields:=[(0,1,3),(1,1,3),(2,1,4),(3,1,3)]}),
(118,{size:=4,bytes:=32,agg:=true,zero:=[e0,e0,e1,e0],fields:=[(0,1,3),(1,1,3),(2,1,4),(3,1,3)]}),
(123,{size:=1,bytes:=24,agg:=false,zero:=[e3],elem:=some 101}),
(132,{size:=1,bytes:=24,agg:=false,zero:=[e3],elem:=some 9}),
(133,{size:=1,bytes:=24,agg:=false,zero:=[e3],elem:=some 265}),
(134,{size:=4,bytes:=72,agg:=true,zero:=[e0,e2,e3,e3],fields:=[(0,1,3),(1,1,9),(2,1,132),(3,1,133)]}),
(135,{size:=4,bytes:=72,agg:=true,zero:=[e0,e2,e3,e3],fields:=[(0,1,3),(1,1,9),(2,1,132),(3,1,133)]}),
(136,{size:=1,bytes:=24,agg:=false,zero:=[e3],elem:=some 221}),
(137,{size:=4,bytes:=72,agg:=true,zero:=[e0,e2,e3,e3],fields:=[(0,1,3),(1,1,9),(2,1,132),(3,1,136)]}),
(138,{size:=4,bytes:=72,agg:=true,zero:=[e0,e2,e3,e3],fields:=[(0,1,3),(1,1,9),(2,1,132),(3,1,136)]}),
(140,{size:=1,bytes:=24,agg:=false,zero:=[e3],elem:=some 35}),
(153,e5 1 8 [AC.nilp]),
(154,{size:=7,bytes:=120,agg:=true,zero:=[e3,e0,e3,e3,e0,e0,e3],fields:=[(0,1,24),(1,1,3),(2,4,78),(6,1,28)]}),
(155,{size:=7,bytes:=120,agg:=true,zero:=[e3,e0,e3,e3,e0,e0,e3],fields:=[(0,1,24),(1,1,3),(2,4,78),(6,1,28)]}),
(169,e5 1 8 [AC.nilp]),
(170,{size:=3,bytes:=32,agg:=true,zero:=[e2,e0,e1],fields:=[(0,1,9),(1,1,3),(2,1,4)]}),
(171,{size:=3,bytes:=32,agg:=true,zero:=[e2,e0,e1],fields:=[(0,1,9),(1,1,3),(2,1,4)]}),
(185,{size:=3,bytes:=24,agg:=true,zero:=[e0,e0,e1],fields:=[(0,1,3),(1,1,3),(2,1,4)]}),
(186,{size:=3,bytes:=24,agg:=true,zero:=[e0,e0,e1],fields:=[(0,1,3),(1,1,3),(2,1,4)]}),
(191,{size:=5,bytes:=48,agg:=true,zero:=[e0,e0,e0,e0,e2],fields:=[(0,1,3),(1,1,3),(2,1,3),(3,1,3),(4,1,9)]}),
(192,{size:=5,bytes:=48,agg:=true,zero:=[e0,e0,e0,e0,e2],fields:=[(0,1,3),(1,1,3),(2,1,3),(3,1,3),(4,1,9)]}),
(195,{size:=3,bytes:=40,agg:=true,zero:=[e3,e0,e0],fields:=[(0,1,22),(1,1,3),(2,1,3)]}),
(196,{size:=3,bytes:=40,agg:=true,zero:=[e3,e0,e0],fields:=[(0,1,22),(1,1,3),(2,1,3)]}),
(207,e5 1 8 [AC.nilp]),
(208,{size:=8,bytes:=96,agg:=true,zero:=[e0,e0,e0,e3,e3,e0,e0,e1],fields:=[(0,7,39),(7,1,4)]}),
(209,{size:=8,bytes:=96,agg:=true,zero:=[e0,e0,e0,e3,e3,e0,e0,e1],fields:=[(0,7,39),(7,1,4)]}),
(220,{size:=3,bytes:=32,agg:=true,zero:=[e0,e0,e2],fields:=[(0,1,3),(1,1,3),(2,1,9)]}),
(221,{size:=3,bytes:=32,agg:=true,zero:=[e0,e0,e2],fields:=[(0,1,3),(1,1,3),(2,1,9)]}),
(230,e5 1 8 [AC.nilp]),
(231,e5 1 8 [AC.nilp]),
(232,{size:=2,bytes:=16,agg:=true,zero:=[AC.nilp,e1],fields:=[(0,1,231),(1,1,4)]}),
(233,{size:=2,bytes:=16,agg:=true,zero:=[AC.nilp,e1],fields:=[(0,1,231),(1,1,4)]}),
(250,e5 1 8 [AC.nilp]),
(251,{size:=1,bytes:=24,agg:=false,zero:=[e3],elem:=some 255}),
(252,{size:=13,bytes:=144,agg:=true,zero:=[e3,e0,e0,e1,e1,e1,e0,e0,e0,e0,e3,e3,e1],fields:=[(0,1,24),(1,4,26),(5,1,4),(6,1,3),(7,1,3),(8,1,3),(9,1,3),(10,1,123),(11,1,251),(12,1,4)]}),
(253,{size:=13,bytes:=144,agg:=true,zero:=[e3,e0,e0,e1,e1,e1,e0,e0,e0,e0,e3,e3,e1],fields:=[(0,1,24),(1,4,26),(5,1,4),(6,1,3),(7,1,3),(8,1,3),(9,1,3),(10,1,123),(11,1,251),(12,1,4)]}),
(254,{size:=6,bytes:=96,agg:=true,zero:=[e0,e3,e3,e0,e1,e3],fields:=[(0,1,3),(1,1,28),(2,1,132),(3,1,3),(4,1,4),(5,1,28)]}),
(255,{size:=6,bytes:=96,agg:=true,zero:=[e0,e3,e3,e0,e1,e3],fields:=[(0,1,3),(1,1,28),(2,1,132),(3,1,3),(4,1,4),(5,1,28)]}),
(257,{size:=1,bytes:=24,agg:=false,zero:=[e3],elem:=some 48}),
(265,{size:=3,bytes:=32,agg:=true,zero:=[e0,e0,e2],fields:=[(0,1,3),(1,1,3),(2,1,9)]}),
(272,e5 1 8 [AC.nilp]),
(273,{size:=4,bytes:=80,agg:=true,zero:=[AC.nilp,e3,e3,e3],fields:=[(0,1,113),(1,1,132),(2,1,132),(3,1,28)]}),
(274,{size:=4,bytes:=80,agg:=true,zero:=[AC.nilp,e3,e3,e3],fields:=[(0,1,113),(1,1,132),(2,1,132),(3,1,28)]}),
(280,{size:=1,bytes:=24,agg:=false,zero:=[e3],elem:=some 283}),
(282,{size:=2,bytes:=16,agg:=true,zero:=[e0,e0],fields:=[(0,1,3),(1,1,3)]}),
(283,{size:=2,bytes:=16,agg:=true,zero:=[e0,e0],fields:=[(0,1,3),(1,1,3)]}),
(287,e5 1 8 [AC.nilp]),
(288,{size:=11,bytes:=128,agg:=true,zero:=[e3,e0,e0,e1,e1,e1,e0,e0,e3,e0,e3],fields:=[(0,1,24),(1,4,26),(5,1,4),(6,1,3),(7,1,3),(8,1,123),(9,1,3),(10,1,28)]}),
(289,{size:=11,bytes:=128,agg:=true,zero:=[e3,e0,e0,e1,e1,e1,e0,e0,e3,e0,e3],fields:=[(0,1,24),(1,4,26),(5,1,4),(6,1,3),(7,1,3),(8,1,123),(9,1,3),(10,1,28)]}),
(290,e5 1 8 [AC.nilp]),
(291,{size:=8,bytes:=112,agg:=true,zero:=[e0,e0,e3,e0,e0,e3,e0,e3],fields:=[(0,1,3),(1,1,3),(2,1,132),(3,1,3),(4,1,3),(5,1,28),(6,1,3),(7,1,28)]}),
(292,{size:=8,bytes:=112,agg:=true,zero:=[e0,e0,e3,e0,e0,e3,e0,e3],fields:=[(0,1,3),(1,1,3),(2,1,132),(3,1,3),(4,1,3),(5,1,28),(6,1,3),(7,1,28)]}),
(299,e5 1 8 [AC.nilp]),
(303,{size:=1,bytes:=8,agg:=false,zero:=[AC.opq],map:=some (some Go.IntKind.i64)}),
(308,{size:=1,bytes:=4,agg:=false,zero:=[AC.t (Tr.int Go.IntKind.u32 (Int.ofNat 0))],kind:=some Go.IntKind.u32}),
(309,{size:=1,bytes:=24,agg:=false,zero:=[e3],elem:=some 136}),
(313,{size:=4,bytes:=40,agg:=true,zero:=[AC.nilp,AC.nilp,AC.nilp,e2],fields:=[(0,1,17),(1,1,17),(2,1,17),(3,1,9)]}),
(314,{size:=4,bytes:=40,agg:=true,zero:=[AC.nilp,AC.nilp,AC.nilp,e2],fields:=[(0,1,17),(1,1,17),(2,1,17),(3,1,9)]}),
(318,{size:=1,bytes:=1,agg:=false,zero:=[AC.t (Tr.int Go.IntKind.u8 (Int.ofNat 0))],kind:=some Go.IntKind.u8}),
(319,{size:=1,bytes:=1,agg:=false,zero:=[AC.t (Tr.int Go.IntKind.u8 (Int.ofNat 0))],kind:=some Go.IntKind.u8}),
(321,e5 1 8 [AC.nilp]),
(322,{size:=1,bytes:=4,agg:=false,zero:=[AC.t (Tr.int Go.IntKind.i32 (Int.ofNat 0))],kind:=some Go.IntKind.i32}),
(323,{size:=1,bytes:=4,agg:=false,zero:=[AC.t (Tr.int Go.IntKind.i32 (Int.ofNat 0))],kind:=some Go.IntKind.i32}),
(326,e5 1 8 [AC.nilp])]
theorem hΓ:Γ.chk prog=true:=by kernel_rfl
theorem aG:prog.follows .mixedOrders=true:=by kernel_rfl
end Go.Proofs.P
namespace Go.Proofs.P
open Go.Sim Tryz Go.ChangeShapes Go.WideShapes Go.ChangeAt Go.RowKit
theorem own:ownKnob prog.godebug=none:=by kernel_rfl
theorem IJ:laidOutB prog=true:=by kernel_rfl
theorem Af {α:Type}{g:α->List Tr}{Q:α->Prop}:∀{rows:List (List Tr)},(∀r∈rows,∃m,r=g m/\Q m)->∃ns:List α,rows=ns.map g/\∀m∈ns,Q m
 | [],_=>⟨[],rfl,fun _ h=>by cases h⟩
 | r::rows,h=>by
  obtain⟨m,rfl,hm⟩:=h r s_;obtain⟨ns,rfl,RX⟩:=Af (rows:=rows) fun r hr=>h r aay
  exact⟨m::ns,rfl,fun x hx=>by
   rcases d6.1 hx with rfl|hx
   ·exact hm
   ·exact RX x hx⟩
end Go.Proofs.P
namespace Go.Proofs.P
open Go.Sim Tryz
abbrev tvI (n:Int):TV:= .c (.int .i64 n)
abbrev tvB (n:Bool):TV:= .c (.bool n)
abbrev tvS (n:List UInt8):TV:= .c (.str n)
abbrev rI (n:Int):Res:= .r (.c (.t (.int .i64 n)))
abbrev rB (b:Bool):Res:= .r (.c (.t (.bool b)))
abbrev rS (b:List UInt8):Res:= .r (.c (.t (.str b)))
def af (n lo hi:Int):Bool:=decide (lo<=n)&&decide (n<=hi)
theorem within_iff {n lo hi:Int}:af n lo hi=true↔lo<=n/\n<=hi:=by simp[af]
set_option maxRecDepth 100000
theorem V68{p:Prop}(h:p:=by
 repeat' ((conv=>whnf);first|refine Or.inl ?_|apply oi|apply fi|intro h|exact Y1|refine e_ rfl ?_)
 all_goals refine⟨?_⟩
 all_goals simp_all[af]
 all_goals omega):p:=h
theorem ba (n lo hi:Int):Sim.Spec prog 74 [tvI n,tvI lo,tvI hi] (rB (af n lo hi)):=by refine ak hΓ aG func74 rfl d_ rfl ?_;exact V68
theorem aP (n lo hi:Int):Sim.Spec prog 61 [tvI n,tvI lo,tvI hi] (rB (af n lo hi)):=by refine ak hΓ aG func61 rfl d_ rfl ?_;exact V68
def signed (n:Int):Int:=if af n 0 1099511627775 then(if n%2=1 then -((n+1)/2)else n/2)else 0
end Go.Proofs.P
namespace Go.Proofs.P
open Go.Sim Tryz
set_option maxRecDepth 100000
def Lt (n:Nat):List UInt8:=if n<=127 then [UInt8.ofNat n]else UInt8.ofNat (n%128+128)::Lt (n/128)
 termination_by n
 decreasing_by omega
def enc (n:Int):List UInt8:=if af n 0 1099511627775 then Lt n.toNat else []
end Go.Proofs.P
namespace Go.Proofs.P
open Go.Sim Tryz Go.RowKit
def inI (n:Int):Prop:= -9223372036854775808<=n/\n<=9223372036854775807
def aa (n:Int):List Tr:=[.int .i64 n]
def ao (s:List UInt8):List Tr:=[.str s]
def cQ {α:Type}(sz:Nat)(g:α->List Tr)(l:List α):List Tr:=[.lst sz (l.map g)]
structure LQ where
 I9:Int
 J7:Int
def LQ.tr (x:LQ):List Tr:=[.int .i64 x.I9,.int .i64 x.J7]
def LQ.wf (x:LQ):Prop:=inI x.I9/\inI x.J7
structure LY where
 J1:Int
 Mb:Int
 J8:List UInt8
def LY.tr (x:LY):List Tr:=[.int .i64 x.J1,.int .i64 x.Mb,.str x.J8]
def LY.wf (x:LY):Prop:=inI x.J1/\inI x.Mb/\x.J8.length<=maxLen
structure LO where
 J1:Int
 J8:List UInt8
 L5:List (List UInt8)
 K9:List LY
def LO.tr (x:LO):List Tr:=[.int .i64 x.J1,.str x.J8,.lst 1 (x.L5.map ao),.lst 3 (x.K9.map LY.tr)]
def LO.wf (x:LO):Prop:=inI x.J1/\x.J8.length<=maxLen/\(x.L5.length<=maxLen/\∀y∈x.L5,y.length<=maxLen)/\(x.K9.length<=maxLen/\∀y∈x.K9,y.wf)
structure LF where
 Mn:Int
 Mc:Int
 Mu:Bool
 Mr:Bool
def LF.tr (x:LF):List Tr:=[.int .i64 x.Mn,.int .i64 x.Mc,.bool x.Mu,.bool x.Mr]
def LF.wf (x:LF):Prop:=inI x.Mn/\inI x.Mc
structure LN where
 J2:LQ
 Mh:Int
 L4:Bool
 Ml:List Int
 Md:Int
 Mm:Bool
def LN.tr (x:LN):List Tr:=[.int .i64 x.J2.I9,.int .i64 x.J2.J7,.int .i64 x.Mh,.bool x.L4,.lst 1 (x.Ml.map aa),.int .i64 x.Md,.bool x.Mm]
def LN.wf (x:LN):Prop:=x.J2.wf/\inI x.Mh/\(x.Ml.length<=maxLen/\∀y∈x.Ml,inI y)/\inI x.Md
structure LX where
 J8:List UInt8
 L4:Int
 Mj:Int
def LX.tr (x:LX):List Tr:=[.str x.J8,.int .i64 x.L4,.int .i64 x.Mj]
def LX.wf (x:LX):Prop:=x.J8.length<=maxLen/\inI x.L4/\inI x.Mj
structure LK where
 I9:List UInt8
 L8:List LX
def LK.tr (x:LK):List Tr:=[.str x.I9,.lst 3 (x.L8.map LX.tr)]
def LK.wf (x:LK):Prop:=x.I9.length<=maxLen/\(x.L8.length<=maxLen/\∀y∈x.L8,y.wf)
structure LW where
 Mo:List LK
 Mq:List Int
 L9:List Int
def LW.tr (x:LW):List Tr:=[.lst 2 (x.Mo.map LK.tr),.lst 1 (x.Mq.map aa),.lst 1 (x.L9.map aa)]
def LW.wf (x:LW):Prop:=(x.Mo.length<=maxLen/\∀y∈x.Mo,y.wf)/\(x.Mq.length<=maxLen/\∀y∈x.Mq,inI y)/\(x.L9.length<=maxLen/\∀y∈x.L9,inI y)
structure LP where
 K0:Int
 J5:Int
 L0:Int
 Mf:List Int
 L7:List Int
 L6:Int
 faG:Int
def LP.tr (x:LP):List Tr:=[.int .i64 x.K0,.int .i64 x.J5,.int .i64 x.L0,.lst 1 (x.Mf.map aa),.lst 1 (x.L7.map aa),.int .i64 x.L6,.int .i64 x.faG]
def LP.wf (x:LP):Prop:=inI x.K0/\inI x.J5/\inI x.L0/\(x.Mf.length<=maxLen/\∀y∈x.Mf,inI y)/\(x.L7.length<=maxLen/\∀y∈x.L7,inI y)/\inI x.L6/\inI x.faG
structure LS where
 Me:Int
 L3:LN
def LS.tr (x:LS):List Tr:=[.int .i64 x.Me,.int .i64 x.L3.J2.I9,.int .i64 x.L3.J2.J7,.int .i64 x.L3.Mh,.bool x.L3.L4,.lst 1 (x.L3.Ml.map aa),.int .i64 x.L3.Md,.bool x.L3.Mm]
def LS.wf (x:LS):Prop:=inI x.Me/\x.L3.wf
structure LV where
 L4:Int
 Mg:Int
 Mk:Bool
 Md:Int
def LV.tr (x:LV):List Tr:=[.int .i64 x.L4,.int .i64 x.Mg,.bool x.Mk,.int .i64 x.Md]
def LV.wf (x:LV):Prop:=inI x.L4/\inI x.Mg/\inI x.Md
structure LZ where
 K0:Int
 J5:Int
 L0:Int
 Ma:List Int
def LZ.tr (x:LZ):List Tr:=[.int .i64 x.K0,.int .i64 x.J5,.int .i64 x.L0,.lst 1 (x.Ma.map aa)]
def LZ.wf (x:LZ):Prop:=inI x.K0/\inI x.J5/\inI x.L0/\(x.Ma.length<=maxLen/\∀y∈x.Ma,inI y)
structure LU where
 Me:Int
 Mh:Int
 L4:Bool
def LU.tr (x:LU):List Tr:=[.int .i64 x.Me,.int .i64 x.Mh,.bool x.L4]
def LU.wf (x:LU):Prop:=inI x.Me/\inI x.Mh
structure LM where
 L4:Int
 Mg:Int
 Mt:Int
 Mh:Int
 J8:List UInt8
def LM.tr (x:LM):List Tr:=[.int .i64 x.L4,.int .i64 x.Mg,.int .i64 x.Mt,.int .i64 x.Mh,.str x.J8]
def LM.wf (x:LM):Prop:=inI x.L4/\inI x.Mg/\inI x.Mt/\inI x.Mh/\x.J8.length<=maxLen
structure LH where
 faM:Int
 L8:List LX
 faL:List LV
 faJ:List LU
 faK:List LM
def LH.tr (x:LH):List Tr:=[.int .i64 x.faM,.lst 3 (x.L8.map LX.tr),.lst 4 (x.faL.map LV.tr),.lst 3 (x.faJ.map LU.tr),.lst 5 (x.faK.map LM.tr)]
def LH.wf (x:LH):Prop:=inI x.faM/\(x.L8.length<=maxLen/\∀y∈x.L8,y.wf)/\(x.faL.length<=maxLen/\∀y∈x.faL,y.wf)/\(x.faJ.length<=maxLen/\∀y∈x.faJ,y.wf)/\(x.faK.length<=maxLen/\∀y∈x.faK,y.wf)
structure LI where
 J8:List UInt8
 Mh:Int
def LI.tr (x:LI):List Tr:=[.str x.J8,.int .i64 x.Mh]
def LI.wf (x:LI):Prop:=x.J8.length<=maxLen/\inI x.Mh
end Go.Proofs.P
namespace Go.Proofs.P
open Go.Sim Tryz
set_option maxRecDepth 100000
abbrev tvL (sz:Nat)(rows:List (List Tr)):TV:= .c (.lst sz rows)
abbrev rL (sz:Nat)(rows:List (List Tr)):Res:= .r (.c (.arr sz rows))
theorem ab {α β:Type}{f:α->β}{l:List α}{k:Nat}{x:α}(h:l[k]?=some x):(l.map f)[k]?=some (f x):=by simp[h]
theorem ae {α:Type}{l:List α}{k:Nat}(h:k<l.length):∃x,l[k]?=some x:=⟨_,i7 h⟩
theorem cF {α:Type}{l:List α}{k:Nat}{x:α}(h:l[k]?=some x):l.drop k=x::l.drop (k+1):=by
 have hk:k<l.length:=by
  rcases m7 k l.length with h'|h'
  ·exact h'
  ·rw[e9 h']at h;cases h
 rw[i7 hk]at h;injection h with h;rw[<-h];exact C2 hk
end Go.Proofs.P
namespace Go.Proofs.P
open Go.Sim Tryz Go.RowKit
set_option maxRecDepth 100000
theorem bf {α:Type}{g:α->List Tr}{L:Int}{l:List α}{sz:Nat}(h:aw L (.lst sz (l.map g))){x:α}(hx:x∈l):aF L (g x):=by rw[aw]at h;exact sZ h.2 _ (List.mem_map_of_mem hx)
theorem nO {α:Type}{g:α->List Tr}{L:Int}{l:List α}{sz:Nat}(h:aw L (.lst sz (l.map g))):(l.length:Int)<=L:=by rw[aw]at h;simpa using h.1
theorem bE {α:Type}{g:α->List Tr}{l:List α}{sz:Nat}(h:aw 1048576 (.lst sz (l.map g))):l.length<=1048576:=by have:=nO h;omega
end Go.Proofs.P
namespace Go.Proofs.P
open Go.Sim Tryz
set_option maxRecDepth 100000
theorem Cy (bs:List UInt8):Sim.Spec prog 9 [tvL 1 (bs.map aY)] (rB (decide (1048576<(bs.length:Int)))):=by
 refine ak hΓ aG func9 rfl d_ rfl ?_;have hl:(bs.map aY).length=bs.length:=s_;repeat' ((conv=>whnf);first|refine Or.inl ?_|apply oi|apply fi|intro h|exact Y1|refine e_ rfl ?_)
 exact⟨by rw[hl]⟩
end Go.Proofs.P
namespace Go.Proofs.P
open Go.Sim Tryz
def cM (last:Int)(r:LV):Prop:=last<=r.L4/\r.L4<r.Mg/\r.Mg<=1000000/\0<=r.Md/\r.Md<=1200/\(r.Mk=true->r.Md=0)
instance (last:Int) (r:LV):Decidable (cM last r):=by unfold cM;infer_instance
def bH:Int->List LV->Bool
 | _,[]=>true
 | p,r::l=>if cM p r then bH r.Mg l else false
def jX (l:List LV):Bool:=bH 0 l
def iU (l:List LV)(k:Nat):Int:=if k=0 then 0 else match l[k-1]? with|some r=>r.Mg|none=>0
theorem wl {l:List LV}{k:Nat}{x:LV}(h:l[k]?=some x):iU l (k+1)=x.Mg:=by rw[iU,b8 o_];simp[h]
theorem CQ {l:List LV}{k:Nat}{x:LV}(hx:l[k]?=some x):bH (iU l k) (l.drop k)=if cM (iU l k) x then bH (iU l (k+1)) (l.drop (k+1))else false:=by rw[cF hx,bH,wl hx]
theorem Gu {l:List LV}{k:Nat}{x:LV}(hx:l[k]?=some x)(h0:0<=iU l k)(hb:cM (iU l k) x):0<=iU l (k+1):=by rw[wl hx];unfold cM at hb;omega
abbrev JI (l:List LV)(R:Bool):={k:Nat//k<=l.length/\0<=iU l k/\bH (iU l k) (l.drop k)=R}
theorem Q16{p:Prop}(h:p:=by exfalso;apply hb;(try simp_all[af]);(try omega);first|done|fail):p:=h
theorem Q2{p:Prop}(h:p:=by exfalso;(try simp_all[af]);(try omega);first|done|fail):p:=h
theorem wD (l:List LV)(hl:l.length<=1048576):Sim.Spec prog 103 [tvL 4 (l.map LV.tr)] (rB (jX l)):=by
 refine ak hΓ aG func103 rfl d_ rfl ?_;have Mv:(l.map LV.tr).length=l.length:=s_;obtain⟨R,hR⟩:∃R,jX l=R:=⟨_,rfl⟩;rw[hR];repeat' ((conv=>whnf);first|refine Or.inl ?_|apply oi|apply fi|intro h|exact Y1|refine e_ rfl ?_)
 conv=>whnf
 refine⟨JI l R,fun k=>⟨[(0,.r (.c (.t (.lst 4 (l.map LV.tr))))),(5,.r (.c (.t (.lst 4 (l.map LV.tr))))),(6,tI .i64 ((l.map LV.tr).length:Int)),(7,tI .i64 (k.1:Int))],[],[]⟩,fun k=>l.length-k.1,⟨0,o_,by simp[iU],hR⟩,?_,?_⟩
 ·exact Z1
 intro⟨k,hk,h0,hr⟩;dsimp only;by_cases My:k<l.length
 ·obtain⟨x,hx⟩:=ae My;rw[CQ hx]at hr;have U7:=Gu hx h0;have UV:∀y,0<k->l[k-1]?=some y->iU l k=y.Mg:=fun y h1 h2=>by rw[iU,b8 o_,h2]
  have Rv:k=0->iU l k=0:=fun h1=>by rw[iU,c7 h1]
  have hw:0<k->IntKind.i64.wrap (↑k-1)=((k-1:Nat):Int):=fun h=>by rw[c6 _ o_];omega
  by_cases hb:cM (iU l k) x
  ·rw[c7 hb]at hr;have U7:=U7 hb;unfold cM at hb;rcases v3 k with N1|N1
   ·have Rv:=Rv N1
    cases Nh:x.Mk
    all_goals
     repeat' ((conv=>whnf);first|refine Or.inl ?_|apply oi|apply fi|intro h|refine⟨k,x.tr,rfl,ab hx,?_⟩|refine ci (ba _ _ _) (ai rfl (ai rfl (ai rfl trivial))) ?_|exact Y2|refine e_ rfl ?_)
     all_goals try exact Q2
     conv=>whnf
     refine⟨⟨k+1,o_,U7,hr⟩,?_,KD⟩;exact Z3
   ·obtain⟨y,hy⟩:=ae (l:=l) (k:=k-1) o_;have UV:=UV y N1 hy;have hw:=hw N1
    cases Nh:x.Mk
    all_goals
     repeat' ((conv=>whnf);first|refine Or.inl ?_|apply oi|apply fi|intro h|refine⟨k,x.tr,rfl,ab hx,?_⟩|refine⟨(k-1),y.tr,hw,ab hy,?_⟩|refine ci (ba _ _ _) (ai rfl (ai rfl (ai rfl trivial))) ?_|exact Y2|refine e_ rfl ?_)
     all_goals try exact Q2
     conv=>whnf
     refine⟨⟨k+1,o_,U7,hr⟩,?_,KD⟩;exact Z3
  ·rw[b8 hb]at hr;subst hr;unfold cM at hb;rcases v3 k with N1|N1
   ·have Rv:=Rv N1
    cases Nh:x.Mk
    all_goals
     repeat' ((conv=>whnf);first|refine Or.inl ?_|apply oi|apply fi|intro h|refine⟨k,x.tr,rfl,ab hx,?_⟩|refine ci (ba _ _ _) (ai rfl (ai rfl (ai rfl trivial))) ?_|exact Y2|refine e_ rfl ?_)
     all_goals try exact Q16
   ·obtain⟨y,hy⟩:=ae (l:=l) (k:=k-1) o_;have UV:=UV y N1 hy;have hw:=hw N1
    cases Nh:x.Mk
    all_goals
     repeat' ((conv=>whnf);first|refine Or.inl ?_|apply oi|apply fi|intro h|refine⟨k,x.tr,rfl,ab hx,?_⟩|refine⟨(k-1),y.tr,hw,ab hy,?_⟩|refine ci (ba _ _ _) (ai rfl (ai rfl (ai rfl trivial))) ?_|exact Y2|refine e_ rfl ?_)
     all_goals try exact Q16
 ·have MS:l.length<=k:=o_;rw[n9 MS,bH]at hr;subst hr;exact Z4
def cr (off:Int):List LV->Nat->Int
 | [],_=> -1
 | r::l,i=>if r.L4<=off/\off<r.Mg then(i:Int)else cr off l (i+1)
def cP (l:List LV)(off:Int):Int:=if jX l then cr off l 0 else -1
theorem zM {off:Int}{l:List LV}{k:Nat}{x:LV}(hx:l[k]?=some x):cr off (l.drop k) k=if x.L4<=off/\off<x.Mg then(k:Int)else cr off (l.drop (k+1)) (k+1):=by rw[cF hx,cr]
theorem V51{p:Prop}(h:p:=by
 subst hr;repeat' ((conv=>whnf);first|refine Or.inl ?_|apply oi|apply fi|intro h|refine⟨k,x.tr,rfl,ab hx,?_⟩|exact Y2|refine e_ rfl ?_)
 all_goals try(exfalso;(try simp_all[af]);(try omega);done)):p:=h
theorem lS (l:List LV)(off:Int)(hl:l.length<=1048576):Sim.Spec prog 138 [tvL 4 (l.map LV.tr),tvI off] (rI (cP l off)):=by
 refine ak hΓ aG func138 rfl d_ rfl ?_;have Mv:(l.map LV.tr).length=l.length:=s_;unfold cP;repeat' ((conv=>whnf);first|refine Or.inl ?_|apply oi|apply fi|intro h|refine ci ((wD l hl)) (ai rfl trivial) ?_|exact Y1|refine e_ rfl ?_)
 ·have h':jX l=false:=by simpa using h
  exact⟨by rw[h'];rfl⟩
 have h':jX l=true:=by simpa using h
 rw[h',c7 rfl];obtain⟨R,hR⟩:∃R,cr off l 0=R:=⟨_,rfl⟩;rw[hR];conv=>whnf
 refine⟨{k:Nat//k<=l.length/\cr off (l.drop k) k=R},fun k=>⟨[(1,tI .i64 off),(10,.r (.c (.t (.lst 4 (l.map LV.tr))))),(11,tI .i64 ((l.map LV.tr).length:Int)),(12,tI .i64 (k.1:Int))],[],[]⟩,fun k=>l.length-k.1,⟨0,s_,hR⟩,?_,?_⟩
 ·exact Z1
 intro⟨k,hk,hr⟩;dsimp only at hk hr⊢;by_cases My:k<l.length
 ·obtain⟨x,hx⟩:=ae My;rw[zM hx]at hr;by_cases hb:x.L4<=off/\off<x.Mg
  ·rw[c7 hb]at hr;exact V51
  ·rw[b8 hb]at hr;repeat' ((conv=>whnf);first|refine Or.inl ?_|apply oi|apply fi|intro h|refine⟨k,x.tr,rfl,ab hx,?_⟩|exact Y2|refine e_ rfl ?_)
   all_goals try exact Q16
   all_goals
    conv=>whnf
    refine⟨⟨k+1,o_,hr⟩,?_,KD⟩;exact Z3
 ·have MS:l.length<=k:=o_;rw[n9 MS,cr]at hr;subst hr;exact Z4
def qd (r:LV):Prop:=0<=r.L4/\r.L4<r.Mg/\r.Mg<=1000000/\0<=r.Md/\r.Md<=1200
theorem kY:∀{l:List LV} {p:Int},0<=p->bH p l=true->∀r∈l,qd r
 | [],_,_,_,r,hr=>by cases hr
 | x::l,p,h0,h,r,hr=>by
  rw[bH]at h;split at h
  ·rename_i hb;unfold cM at hb;rcases d6.1 hr with rfl|hr
   ·unfold qd;omega
   ·exact kY o_ h r hr
  ·cases h
def fj (v:LZ):Bool:=af v.J5 0 1200&&decide ((v.Ma.length:Int)<=1200-v.J5)
theorem og (v:LZ):Sim.Spec prog 24 [.agg v.tr] (rB (fj v)):=by
 refine ak hΓ aG func24 rfl d_ rfl ?_;unfold fj;have Mv:(v.Ma.map aa).length=v.Ma.length:=s_
 cases hw:af v.J5 0 1200 with
 | false=>
  have hs:=ba v.J5 0 1200;rw[hw]at hs
  repeat' ((conv=>whnf);first|refine Or.inl ?_|apply oi|apply fi|intro h|refine ci hs (ai rfl (ai rfl (ai rfl trivial))) ?_|exact Y1|refine e_ rfl ?_)
 | true=>
  have hs:=ba v.J5 0 1200;rw[hw]at hs;have hb:=within_iff.1 hw;repeat' ((conv=>whnf);first|refine Or.inl ?_|apply oi|apply fi|intro h|refine ci hs (ai rfl (ai rfl (ai rfl trivial))) ?_|exact Y1|refine e_ rfl ?_)
  exact⟨by rw[c6 _ o_,Mv];rfl⟩
def dl (v:LZ)(a:Int):Option Int:=if fj v=true/\af a v.J5 (v.J5+v.Ma.length-1)=true then v.Ma[(a-v.J5).toNat]? else none
def oI (o:Option Int):Int:=match o with|some x=>x|none=>0
abbrev Lb (o:Option Int):Res:= .tup [.c (.t (.int .i64 (oI o))),.c (.t (.bool o.isSome))]
theorem viewOk_iff {v:LZ}:fj v=true↔(0<=v.J5/\v.J5<=1200)/\(v.Ma.length:Int)<=1200-v.J5:=by unfold fj;rw[b9,within_iff,j5]
theorem eB (v:LZ)(a:Int):Sim.Spec prog 22 [.agg v.tr,tvI a] (Lb (dl v a)):=by
 refine ak hΓ aG func22 rfl d_ rfl ?_;have hs:=og v;have Mv:(v.Ma.map aa).length=v.Ma.length:=s_;unfold dl
 cases hv:fj v with
 | false=>
  rw[hv]at hs;rw[b8 s_]
  repeat' ((conv=>whnf);first|refine Or.inl ?_|apply oi|apply fi|intro h|refine ci hs (ai (ai rfl (ai rfl (ai rfl (ai rfl trivial)))) trivial) ?_|exact Y1|refine e_ rfl ?_)
 | true=>
  rw[hv]at hs;have YN:=viewOk_iff.1 hv
  have w1:IntKind.i64.wrap (IntKind.i64.wrap (v.J5+(v.Ma.map aa).length)-1)=v.J5+v.Ma.length-1:=by rw[Mv,c6 (v.J5+v.Ma.length) o_,c6 _ o_]
  have Ru:=ba a v.J5 (IntKind.i64.wrap (IntKind.i64.wrap (v.J5+(v.Ma.map aa).length)-1))
  cases hw:af a v.J5 (v.J5+v.Ma.length-1)with
  | false=>
   rw[b8 s_];have UB:=Ru;rw[w1,hw]at UB;rw[<-hw,<-w1]at UB;repeat' ((conv=>whnf);first|refine Or.inl ?_|apply oi|apply fi|intro h|refine ci hs (ai (ai rfl (ai rfl (ai rfl (ai rfl trivial)))) trivial) ?_|refine ci Ru (ai rfl (ai rfl (ai rfl trivial))) ?_|exact Y1|refine e_ rfl ?_)
   all_goals(rw[w1,hw]at *;simp at *)
  | true=>
   have hb:=within_iff.1 hw;rw[c7 ⟨rfl,rfl⟩];obtain⟨j,hj⟩:=j6 (show 0<=a-v.J5 by omega);obtain⟨x,hx⟩:=ae (l:=v.Ma) (k:=j) o_;have w2:IntKind.i64.wrap (a-v.J5)=(j:Int):=(by rw[c6 _ o_];exact hj);rw[hj,d7,hx];repeat' ((conv=>whnf);first|refine Or.inl ?_|apply oi|apply fi|intro h|refine ci hs (ai (ai rfl (ai rfl (ai rfl (ai rfl trivial)))) trivial) ?_|refine ci Ru (ai rfl (ai rfl (ai rfl trivial))) ?_|refine⟨j,aa x,w2,ab hx,?_⟩|exact Y1|refine e_ rfl ?_)
   all_goals try exact absurd hw (by have:=h;rw[w1]at this;simpa using this)
def cI (m:LP):Bool:=(m.Mf.length==1200)&&af m.J5 0 1200&&af m.L6 0 2
theorem kA (m:LP):Sim.Spec prog 67 [.agg m.tr] (rB (cI m)):=by
 refine ak hΓ aG func67 rfl d_ rfl ?_;have Mv:(m.Mf.map aa).length=m.Mf.length:=s_;unfold cI;repeat' ((conv=>whnf);first|refine Or.inl ?_|apply oi|apply fi|intro h|refine ci (aP _ _ _) (ai rfl (ai rfl (ai rfl trivial))) ?_|exact Y1|refine e_ rfl ?_)
 all_goals(refine⟨congrArg Tr.bool ?_⟩;simp_all;try omega)
def low (b:UInt8):Bool:=decide (97<=b.toNat)&&decide (b.toNat<=122)
def da (s:List UInt8):Bool:=s.all low&&af s.length 1 8
abbrev Ij (s:List UInt8):={k:Nat//k<=s.length/\(s.take k).all low=true}
theorem BA {α:Type}{p:α->Bool}{s:List α}{k:Nat}{b:α}(h:(s.take k).all p=true)(hb:s[k]?=some b)(hp:p b=true):(s.take (k+1)).all p=true:=by rw[B2,hb];simp_all
theorem DQ {α:Type}{p:α->Bool}{s:List α}{k:Nat}{b:α}(hb:s[k]?=some b)(hp:p b=false):s.all p=false:=by
 rw[Bool.eq_false_iff];intro h;rw[o8]at h;rw[h b (c9 hb)]at hp
 cases hp
theorem V13{p:Prop}(h:p:=by
 obtain⟨b,hb⟩:=ae My;have PM:=b.toNat_lt
 cases Pr:low b with
 | false=>
  rw[DQ hb Pr];unfold low at Pr;repeat' ((conv=>whnf);first|refine Or.inl ?_|apply oi|apply fi|intro h|refine⟨k,b,rfl,hb,?_⟩|exact Y2|refine e_ rfl ?_)
  all_goals(exfalso;simp at *;omega)
 | true=>
  have WK:=BA hp hb Pr;unfold low at Pr;repeat' ((conv=>whnf);first|refine Or.inl ?_|apply oi|apply fi|intro h|refine⟨k,b,rfl,hb,?_⟩|exact Y4|refine e_ rfl ?_)
  conv=>whnf
  refine⟨⟨k+1,o_,WK⟩,?_,KD⟩
  exact Z3):p:=h
theorem wR (s:List UInt8)(hl:s.length<=1099511627775):Sim.Spec prog 210 [tvS s] (rB (da s)):=by
 refine ak hΓ aG func210 rfl d_ rfl ?_;unfold da;repeat' ((conv=>whnf);first|refine Or.inl ?_|apply oi|apply fi|intro h|exact Y1|refine e_ rfl ?_)
 conv=>whnf
 refine⟨Ij s,fun k=>⟨[(0,tS s),(3,tI .i64 (k.1:Int))],[],[]⟩,fun k=>s.length-k.1,⟨0,o_,rfl⟩,?_,?_⟩
 ·exact Z1
 intro⟨k,hk,hp⟩;dsimp only;by_cases My:k<s.length
 ·exact V13
 ·have MS:s.length<=k:=o_;rw[gt MS]at hp;rw[hp];repeat' ((conv=>whnf);first|refine Or.inl ?_|apply oi|apply fi|intro h|refine ci (ba _ _ _) (ai rfl (ai rfl (ai rfl trivial))) ?_|exact Y2|refine e_ rfl ?_)
theorem fE (s:List UInt8)(hl:s.length<=1099511627775):Sim.Spec prog 189 [tvS s] (rB (da s)):=by
 refine ak hΓ aG func189 rfl d_ rfl ?_;unfold da;repeat' ((conv=>whnf);first|refine Or.inl ?_|apply oi|apply fi|intro h|exact Y1|refine e_ rfl ?_)
 conv=>whnf
 refine⟨Ij s,fun k=>⟨[(0,tS s),(3,tI .i64 (k.1:Int))],[],[]⟩,fun k=>s.length-k.1,⟨0,o_,rfl⟩,?_,?_⟩
 ·exact Z1
 intro⟨k,hk,hp⟩;dsimp only;by_cases My:k<s.length
 ·exact V13
 ·have MS:s.length<=k:=o_;rw[gt MS]at hp;rw[hp];repeat' ((conv=>whnf);first|refine Or.inl ?_|apply oi|apply fi|intro h|refine ci (aP _ _ _) (ai rfl (ai rfl (ai rfl trivial))) ?_|exact Y2|refine e_ rfl ?_)
def behind (p:Option LM)(x:LM):Prop:=match p with
 | none=>True
 | some p=>p.Mt<=x.Mt/\(p.Mt=x.Mt->p.Mg<=x.L4)
instance (p:Option LM) (x:LM):Decidable (behind p x):=by unfold behind;cases p<;>infer_instance
def fw (t:LY):Bool:=
 if t.J1=0 then af t.Mb 0 999&&t.J8==[]
 else if t.J1=7 then af t.Mb 0 4&&da t.J8
 else if t.J1=1 then t.Mb==0&&da t.J8
 else af t.J1 2 6&&(t.Mb==0&&t.J8==[])
theorem qa (t:LY)(hl:t.J8.length<=1099511627775):Sim.Spec prog 255 [.agg t.tr] (rB (fw t)):=by
 refine ak hΓ aG func255 rfl d_ rfl ?_;have hN:=fE t.J8 hl;unfold fw
 generalize da t.J8=nb at *
 repeat' ((conv=>whnf);first|refine Or.inl ?_|apply oi|apply fi|intro h|refine ci (aP _ _ _) (ai rfl (ai rfl (ai rfl trivial))) ?_|refine ci hN (ai rfl trivial) ?_|exact Y1|refine e_ rfl ?_)
 all_goals(refine⟨congrArg Tr.bool ?_⟩;simp_all[af];(try(intros;omega));(try((repeat' split)<;>intros<;>omega)))
def mG (t:LY):Int:=if fw t=false then -1 else if t.J1=7 then t.Mb else if t.J1=0\/t.J1=1 then 0 else 2
theorem lB (t:LY)(hl:t.J8.length<=1099511627775):Sim.Spec prog 228 [.agg t.tr] (rI (mG t)):=by
 refine ak hΓ aG func228 rfl d_ rfl ?_;have hT:=qa t hl;unfold mG
 generalize fw t=nb at *
 repeat' ((conv=>whnf);first|refine Or.inl ?_|apply oi|apply fi|intro h|refine ci hT (ai (ai rfl (ai rfl (ai rfl trivial))) trivial) ?_|exact Y1|refine e_ rfl ?_)
 all_goals(refine⟨congrArg (Tr.int _) ?_⟩;simp_all)
def ar (t:LY):Nat:=(mG t).toNat
theorem xZ {t:LY}(h:fw t=true):mG t=(ar t:Int)/\ar t<=4:=by
 unfold ar mG;rw[b8 aaI];unfold fw at h;split
 ·rename_i h7;rw[b8 o_,c7 h7]at h;simp only[b9,within_iff]at h;omega
 ·split<;>omega
def endL:List LY->Nat->Nat->Option Nat
 | _,p,0=>some p
 | [],_,_+1=>none
 | t::l,p,n+1=>if fw t=true then endL l (p+1) (n+ar t)else none
def cO (o:Option Nat):Int:=match o with|some e=>e|none=> -1
def gv (l:List LY)(p:Int):Int:=if 0<=p then cO (endL (l.drop p.toNat) p.toNat 1)else -1
theorem JN {l:List LY}{p n:Nat}{t:LY}(h:l[p]?=some t):endL (l.drop p) p (n+1)=if fw t=true then endL (l.drop (p+1)) (p+1) (n+ar t)else none:=by rw[cF h,endL]
abbrev LB (l:List LY)(R:Int):={q:Nat×Nat//q.1<=l.length/\q.2<=1+4*q.1/\cO (endL (l.drop q.1) q.1 q.2)=R}
def jj (l:List LY):Prop:=∀t∈l,t.J8.length<=1099511627775
theorem jz (l:List LY)(p:Int)(hl:l.length<=1048576)(hn:jj l):Sim.Spec prog 238 [tvL 3 (l.map LY.tr),tvI p] (rI (gv l p)):=by
 refine ak hΓ aG func238 rfl d_ rfl ?_;have Mv:(l.map LY.tr).length=l.length:=s_;by_cases h0:0<=p
 ·obtain⟨p,rfl⟩:=j6 h0;obtain⟨R,hR⟩:∃R,gv l (p:Int)=R:=⟨_,rfl⟩;rw[hR];rw[gv,c7 h0,d7]at hR;by_cases hlp:p<=l.length
  ·repeat' ((conv=>whnf);first|refine Or.inl ?_|apply oi|apply fi|intro h|exact Y2|refine e_ rfl ?_)
   conv=>whnf
   refine⟨LB l R,fun q=>⟨[(0,.r (.c (.t (.lst 3 (l.map LY.tr))))),(1,tI .i64 (q.1.1:Int)),(5,tI .i64 (q.1.2:Int))],[],[]⟩,fun q=>l.length-q.1.1,⟨(p,1),o_,o_,hR⟩,?_,?_⟩
   ·exact Z1
   intro⟨⟨a,n⟩,ha,WC,hr⟩;dsimp only at ha WC hr⊢
   cases n with
   | zero=>
    have:R=(a:Int):=by
     rw[<-hr]
     cases l.drop a<;>rfl
    subst this
    exact Z4
   | succ n=>
    by_cases My:a<l.length
    ·obtain⟨t,ht⟩:=ae My;rw[JN ht]at hr;have hT:=qa t (hn t (c9 ht));have hA:=lB t (hn t (c9 ht))
     cases MA:fw t with
     | false=>
      rw[MA]at hT;rw[b8 (by simp[MA])]at hr;subst hr
      repeat' ((conv=>whnf);first|refine Or.inl ?_|apply oi|apply fi|intro h|refine⟨a,t.tr,rfl,ab ht,?_⟩|refine ci hT (ai (ai rfl (ai rfl (ai rfl trivial))) trivial) ?_|exact Y2|refine e_ rfl ?_)
     | true=>
      obtain⟨e1,e2⟩:=xZ MA;rw[e1]at hA;rw[MA]at hT;rw[c7 MA]at hr;repeat' ((conv=>whnf);first|refine Or.inl ?_|apply oi|apply fi|intro h|refine⟨a,t.tr,rfl,ab ht,?_⟩|refine ci hT (ai (ai rfl (ai rfl (ai rfl trivial))) trivial) ?_|refine ci hA (ai (ai rfl (ai rfl (ai rfl trivial))) trivial) ?_|exact Y2|refine e_ rfl ?_)
      conv=>whnf
      refine⟨⟨(a+1,n+ar t),g_,g_,hr⟩,?_,KD⟩;repeat' ((conv=>whnf);first|refine Or.inl ?_|apply oi|apply fi|intro h|exact Y3|refine e_ rfl ?_)
      all_goals try exact⟨by dsimp only;congr 1;rw[c6 _ o_];omega⟩
      all_goals exact⟨congrArg (Tr.int _) (by dsimp only;simp(disch:=omega)only[c6];omega)⟩
    ·rw[n9 o_,endL]at hr;subst hr;exact Z4
  ·rw[n9 o_,endL]at hR;subst hR;repeat' ((conv=>whnf);first|refine Or.inl ?_|apply oi|apply fi|intro h|exact Y2|refine e_ rfl ?_)
   conv=>whnf
   refine⟨Unit,fun q=>⟨[(0,.r (.c (.t (.lst 3 (l.map LY.tr))))),(1,tI .i64 (p:Int)),(5,tI .i64 1)],[],[]⟩,fun q=>0,(),?_,?_⟩
   ·exact Z1
   intro q;exact Z4
 ·have he:gv l p= -1:=by rw[gv,b8 h0]
  rw[he];exact Z4
def br (l:List LY):Bool:=decide (l.length<=20)&&(decide (0<l.length)&&gv l 0==(l.length:Int))
theorem ot (l:List LY)(hl:l.length<=1048576)(hn:jj l):Sim.Spec prog 191 [tvL 3 (l.map LY.tr)] (rB (br l)):=by
 refine ak hΓ aG func191 rfl d_ rfl ?_;have Mv:(l.map LY.tr).length=l.length:=s_;have hE:=jz l 0 hl hn;unfold br
 generalize gv l 0=e at *
 repeat' ((conv=>whnf);first|refine Or.inl ?_|apply oi|apply fi|intro h|refine ci hE (ai rfl (ai rfl trivial)) ?_|exact Y1|refine e_ rfl ?_)
 all_goals(refine⟨congrArg Tr.bool ?_⟩;simp_all;try omega)
def iF {α:Type}[BEq α]:List α->Nat->α->Option Nat
 | [],_,_=>none
 | x::l,i,s=>if(x==s)=true then some i else iF l (i+1) s
theorem Jn {α:Type}[BEq α]{l:List α}{i:Nat}{x s:α}(hx:l[i]?=some x):iF (l.drop i) i s=if(x==s)=true then some i else iF (l.drop (i+1)) (i+1) s:=by rw[cF hx,iF]
theorem nz {α:Type}[BEq α]:∀{l:List α} {i k:Nat} {s:α},iF l i s=some k->i<=k/\k<i+l.length
 | [],_,_,_,h=>by rw[iF]at h;cases h
 | x::l,i,k,s,h=>by
  rw[iF]at h;simp only[d5];split at h
  ·injection h with h;omega
  ·have:=nz h;omega
theorem vE {α:Type}[BEq α][LawfulBEq α]:∀{l:List α} {i:Nat} {s:α},(iF l i s).isSome=l.contains s
 | [],_,_=>rfl
 | x::l,i,s=>by
  rw[iF,List.contains_cons]
  cases h:(x==s)with
  | true=>rw[c7 rfl];simp[B7 h]
  | false=>have h2:(s==x)=false:=(by rw[B4]at h⊢;exact fun e=>h e.symm);rw[b8 s_,h2,C7];exact vE
def dG {α:Type}[BEq α](l:List α)(s:α):Int:=cO (iF l 0 s)
theorem xN {α:Type}[BEq α][LawfulBEq α]{l:List α}{s:α}:decide (0<=dG l s)=l.contains s:=by
 rw[<-vE (i:=0),dG]
 cases iF l 0 s with|none=>rfl|some k=>simp[cO]
def zC (l:List (List UInt8)):Nat->Nat->Bool
 | 0,_=>true
 | n+1,k=>match l[k]? with
  | some s=>if da s=true/\(l.take k).contains s=false then zC l n (k+1)else false
  | none=>true
theorem V109{p:Prop}(h:p:=by
 rcases m7 k l.length with h|h
 ·exact h
 ·rw[e9 h]at hx;cases hx):p:=h
theorem FL {l:List (List UInt8)}{k:Nat}{s:List UInt8}(hx:l[k]?=some s):zC l (l.length-k) k=if da s=true/\(l.take k).contains s=false then zC l (l.length-(k+1)) (k+1)else false:=by
 have hk:k<l.length:=by exact V109
 rw[show l.length-k=(l.length-(k+1))+1 by omega,zC,hx]
def tY (l:List (List UInt8)):Bool:=zC l l.length 0&&decide (l.length<=4)
def iW (k:Int):Bool:=k==1||(k==2||(k==3||(k==5||k==6)))
theorem pz (k:Int)(hk:af k 0 7=true):Sim.Spec prog 190 [tvI k] (rB (iW k)):=by
 refine ak hΓ aG func190 rfl d_ rfl ?_;have:=within_iff.1 hk;unfold iW;repeat' ((conv=>whnf);first|refine Or.inl ?_|apply oi|apply fi|intro h|exact Y1|refine e_ rfl ?_)
 all_goals(refine⟨congrArg Tr.bool ?_⟩;simp_all;(try(rw[A0];simp;done));(try(rw[A0];simp;omega)))
def cZ (x:LO):Bool:=af x.J1 0 7&&((if x.J1=0\/x.J1=1 then da x.J8 else x.J8==[])&&((if x.J1=0 then tY x.L5 else x.L5.length==0)&&(if iW x.J1=true then br x.K9 else x.K9.length==0)))
theorem fO {x:LO}(hs:aF 1048576 x.tr):x.J8.length<=1048576/\x.L5.length<=1048576/\(∀y∈x.L5,y.length<=1048576)/\x.K9.length<=1048576/\(∀y∈x.K9,y.J8.length<=1048576):=by
 simp only[LO.tr,aF]at hs;obtain⟨_,h1,h2,h3,_⟩:=hs;have e1:=nO h2;have e2:=nO h3;refine⟨by rw[aw]at h1;omega,o_,fun y hy=>?_,o_,fun y hy=>?_⟩
 ·have:=bf h2 hy;simp only[ao,aF,aw]at this;omega
 ·have:=bf h3 hy;simp only[LY.tr,aF,aw]at this;omega
theorem Bi {x:LO}(h:af x.J1 0 7=false):cZ x=false:=by unfold cZ;rw[h];rfl
theorem sT {x:LO}(h:4<x.L5.length):cZ x=false:=by
 have h1:tY x.L5=false:=by unfold tY;rw[D5 o_,C9]
 have h2:(x.L5.length==0)=false:=by rw[B4];omega
 unfold cZ;rw[h1,h2];split<;>simp
theorem Ir {l:List (List UInt8)}{k i:Nat}{y s:List UInt8}(hi:i<k)(hy:l[i]?=some y):((l.take k).drop i).contains s=(s==y||((l.take k).drop (i+1)).contains s):=by rw[cF (x:=y) (by rw[n3,c7 hi];exact hy),List.contains_cons]
theorem Ha {x:LO}(hk:af x.J1 0 7=true)(h0:x.J1=0)(ha:x.L5.length<=4):cZ x=(zC x.L5 x.L5.length 0&&(da x.J8&&x.K9.length==0)):=by
 unfold cZ tY;rw[hk,c7 (.inl h0),c7 h0,b8 (by rw[h0];decide),q9 ha]
 cases da x.J8<;>cases zC x.L5 x.L5.length 0<;>simp
theorem GF {x:LO}(hk:af x.J1 0 7=true)(h0:x.J1≠0):cZ x=(x.L5.length==0&&((if x.J1=1 then da x.J8 else x.J8==[])&&(if iW x.J1=true then br x.K9 else x.K9.length==0))):=by
 have e:(if x.J1=0\/x.J1=1 then da x.J8 else x.J8==[])=(if x.J1=1 then da x.J8 else x.J8==[]):=by
  by_cases h1:x.J1=1
  ·rw[c7 (.inr h1),c7 h1]
  ·rw[b8 o_,b8 h1]
 unfold cZ;rw[hk,b8 h0,e,m9];generalize(if x.J1=1 then da x.J8 else x.J8==[])=a;generalize(if iW x.J1=true then br x.K9 else x.K9.length==0)=b
 cases a<;>cases(x.L5.length==0)<;>simp
theorem Et (n:Nat):((n:Int)==0)=(n==0):=by rw[A0];simp
abbrev KE (x:LO):AO:= .box (x.tr.map .t)
theorem V73{p:Prop}(h:p:=by
 repeat' ((conv=>whnf);first|refine Or.inl ?_|apply oi|apply fi|intro h|refine ci hB (ai rfl (ai rfl (ai rfl trivial))) ?_|exact Y2|refine e_ rfl ?_)):p:=h
theorem Q5{p:Prop}(h:p:=by exfalso;simp_all;first|done|fail):p:=h
theorem oy (x:LO)(hs:aF 1048576 x.tr):Sim.Spec prog 119 [.agg x.tr] (rB (cZ x)):=by
 refine ak hΓ aG func119 rfl d_ rfl ?_;obtain⟨h1,h2,h3,h4,h5⟩:=fO hs;have hB:=aP x.J1 0 7;have hN:=fE x.J8 o_;have hE:=ot x.K9 h4 (fun y hy=>by have:=h5 y hy;omega);have PN:(x.L5.map ao).length=x.L5.length:=s_;have N7:(x.K9.map LY.tr).length=x.K9.length:=s_
 cases hk:af x.J1 0 7 with
 | false=>
  rw[hk]at hB;rw[Bi hk]
  exact V73
 | true=>
  rw[hk]at hB;have hH:=pz x.J1 hk;by_cases ha:x.L5.length<=4
  ·by_cases h0:x.J1=0
   ·rw[Ha hk h0 ha]
    generalize da x.J8=b2 at *
    generalize br x.K9=b5 at *
    obtain⟨A,hA⟩:∃A,zC x.L5 x.L5.length 0=A:=⟨_,rfl⟩;rw[hA];have Wb:iW x.J1=false:=(by rw[h0];rfl);rw[Wb]at hH;repeat' ((conv=>whnf);first|refine Or.inl ?_|apply oi|apply fi|intro h|refine ci hB (ai rfl (ai rfl (ai rfl trivial))) ?_|exact Y2|refine e_ rfl ?_)
    conv=>whnf
    refine⟨{k:Nat//k<=x.L5.length/\zC x.L5 (x.L5.length-k) k=A},fun q=>⟨[(1,.r (.c (.ptr (1,0,0) 0))),(3,tI .i64 (q.1:Int))],[((1,0,0),some (KE x))],[1]⟩,fun q=>x.L5.length-q.1,⟨0,o_,by rw[y0];exact hA⟩,?_,?_⟩
    ·exact Z1
    intro⟨k,Ne,hr⟩;dsimp only at Ne hr⊢;by_cases My:k<x.L5.length
    ·obtain⟨s,PE⟩:=ae My;rw[FL PE]at hr;have Tc:=fE s (by have:=h3 s (c9 PE);omega)
     cases MQ:da s with
     | false=>
      rw[MQ]at Tc hr;rw[b8 s_]at hr;subst hr
      repeat' ((conv=>whnf);first|refine Or.inl ?_|apply oi|apply fi|intro h|refine ci Tc (ai rfl trivial) ?_|refine⟨k,(ao s),rfl,ab PE,?_⟩|exact Y2|refine e_ rfl ?_)
     | true=>
      rw[MQ]at Tc hr;obtain⟨C,hC⟩:∃C,(x.L5.take k).contains s=C:=⟨_,rfl⟩;rw[hC]at hr;repeat' ((conv=>whnf);first|refine Or.inl ?_|apply oi|apply fi|intro h|refine ci Tc (ai rfl trivial) ?_|refine⟨k,(ao s),rfl,ab PE,?_⟩|exact Y2|refine e_ rfl ?_)
      all_goals try exact Q2
      conv=>whnf
      refine⟨{i:Nat//i<=k/\((x.L5.take k).drop i).contains s=C},fun q=>⟨[(1,.r (.c (.ptr (1,0,0) 0))),(3,tI .i64 (k:Int)),(4,tI .i64 (q.1:Int))],[((1,0,0),some (KE x))],[1]⟩,fun q=>k-q.1,⟨0,o_,hC⟩,?_,?_⟩
      ·exact Z1
      intro⟨i,Ou,hc⟩;dsimp only at Ou hc⊢;by_cases Nz:i<k
      ·obtain⟨y,hy⟩:=ae (l:=x.L5) (k:=i) o_;rw[Ir Nz hy]at hc;by_cases VF:s=y
       ·subst VF;rw[beq_self_eq_true,Bool.true_or]at hc;subst hc;rw[b8 s_]at hr;subst hr;repeat' ((conv=>whnf);first|refine Or.inl ?_|apply oi|apply fi|intro h|refine⟨i,(ao s),rfl,ab hy,?_⟩|refine⟨k,(ao s),rfl,ab PE,?_⟩|exact Y2|refine e_ rfl ?_)
        all_goals try exact Q2
       ·rw[B4.2 VF,C7]at hc;repeat' ((conv=>whnf);first|refine Or.inl ?_|apply oi|apply fi|intro h|refine⟨i,(ao y),rfl,ab hy,?_⟩|refine⟨k,(ao s),rfl,ab PE,?_⟩|exact Y2|refine e_ rfl ?_)
        all_goals try(exfalso;apply VF;simp_all;done)
        conv=>whnf
        refine⟨⟨i+1,o_,hc⟩,?_,KD⟩;exact Z3
      ·rw[n9 aab]at hc;have hc:false=C:=hc;subst hc;rw[c7 ⟨rfl,rfl⟩]at hr;repeat' ((conv=>whnf);first|refine Or.inl ?_|apply oi|apply fi|intro h|exact Y2|refine e_ rfl ?_)
       conv=>whnf
       refine⟨⟨k+1,o_,hr⟩,?_,KD⟩;exact Z3
    ·rw[show x.L5.length-k=0 by omega]at hr;have hr:true=A:=hr;subst hr;repeat' ((conv=>whnf);first|refine Or.inl ?_|apply oi|apply fi|intro h|refine ci hN (ai rfl trivial) ?_|refine ci hH (ai rfl trivial) ?_|refine ci hE (ai rfl trivial) ?_|exact Y2|refine e_ rfl ?_)
     all_goals try exact Q2
     all_goals(refine⟨congrArg Tr.bool ?_⟩;simp_all;(try exact Et _))
   ·rw[GF hk h0]
    generalize da x.J8=b2 at *
    generalize br x.K9=b5 at *
    generalize iW x.J1=b4 at *
    repeat' ((conv=>whnf);first|refine Or.inl ?_|apply oi|apply fi|intro h|refine ci hB (ai rfl (ai rfl (ai rfl trivial))) ?_|exact Y2|refine e_ rfl ?_)
    conv=>whnf
    refine⟨Unit,fun q=>⟨[(1,.r (.c (.ptr (1,0,0) 0))),(3,tI .i64 0)],[((1,0,0),some (KE x))],[1]⟩,fun q=>0,(),?_,?_⟩
    ·exact Z1
    intro q;dsimp only;by_cases My:0<x.L5.length
    ·obtain⟨s,PE⟩:=ae My;have Tc:=fE s (by have:=h3 s (c9 PE);omega);rw[show(x.L5.length==0)=false by rw[B4];omega];repeat' ((conv=>whnf);first|refine Or.inl ?_|apply oi|apply fi|intro h|refine ci Tc (ai rfl trivial) ?_|refine⟨0,(ao s),rfl,ab PE,?_⟩|exact Y2|refine e_ rfl ?_)
     all_goals try exact Q2
     all_goals try exact Q5
    ·have hz:x.L5.length=0:=o_;rw[show(x.L5.length==0)=true by rw[hz];rfl];rw[hz]at PN;repeat' ((conv=>whnf);first|refine Or.inl ?_|apply oi|apply fi|intro h|refine ci hN (ai rfl trivial) ?_|refine ci hH (ai rfl trivial) ?_|refine ci hE (ai rfl trivial) ?_|exact Y1|refine e_ rfl ?_)
     all_goals try exact Q5
     all_goals(refine⟨congrArg Tr.bool ?_⟩;simp_all;(try exact Et _);(try(rw[A0];simp;omega)))
  ·rw[sT o_];exact V73
def dL (k:Int):Bool:=k==0||(k==3||k==5)
theorem opensK_iff {k:Int}:dL k=true↔k=0\/k=3\/k=5:=by simp[dL]
def endN:List LO->Nat->Nat->Option Nat
 | [],_,_=>none
 | x::l,i,o=>if dL x.J1=true then endN l (i+1) (o+1)else if x.J1=7 then(if o=1 then some i else endN l (i+1) (o-1))else endN l (i+1) o
def endAt (l:List LO)(k:Nat):Option Nat:=match l[k]? with
 | some x=>if dL x.J1=true then endN (l.drop (k+1)) (k+1) 1 else none
 | none=>none
def ct (l:List LO)(k:Int):Int:=if 0<=k then cO (endAt l k.toNat)else -1
theorem dJ {l:List LO}{i o:Nat}{x:LO}(h:l[i]?=some x):endN (l.drop i) i o=if dL x.J1=true then endN (l.drop (i+1)) (i+1) (o+1)else if x.J1=7 then(if o=1 then some i else endN (l.drop (i+1)) (i+1) (o-1))else endN (l.drop (i+1)) (i+1) o:=by rw[cF h,endN]
theorem lp {l:List LO}{i o:Nat}(h:l.length<=i):endN (l.drop i) i o=none:=by rw[n9 h,endN]
theorem ug:∀{l:List LO} {i o e:Nat},endN l i o=some e->i<=e/\e<i+l.length
 | [],_,_,_,h=>by rw[endN]at h;cases h
 | x::l,i,o,e,h=>by
  rw[endN]at h;simp only[d5];split at h
  ·have:=ug h;omega
  ·split at h
   ·split at h
    ·injection h with h;omega
    ·have:=ug h;omega
   ·have:=ug h;omega
theorem jg {l:List LO}{i o e:Nat}(h:endN (l.drop i) i o=some e):i<=e/\e<l.length:=by have:=ug h;rw[t9]at this;omega
theorem me:∀{l:List LO} {i:Nat} (n:Nat) {a b:Nat},l.length-i<=n->1<=a->1<=b->endN (l.drop i) i (a+b)=(endN (l.drop i) i b).bind fun m=>endN (l.drop (m+1)) (m+1) a
 | l,i,0,a,b,hn,_,_=>by rw[lp o_,lp o_];rfl
 | l,i,n+1,a,b,hn,ha,hb=>by
  by_cases hi:i<l.length
  ·obtain⟨x,hx⟩:=ae hi;rw[dJ hx,dJ hx];split
   ·rw[show a+b+1=a+(b+1) by omega];exact me n o_ ha o_
   ·split
    ·rw[b8 o_];by_cases h1:b=1
     ·subst h1;rw[c7 rfl];rfl
     ·rw[b8 h1,show a+b-1=a+(b-1) by omega];exact me n o_ ha o_
    ·exact me n o_ ha hb
  ·rw[lp o_,lp o_];rfl
theorem nF:∀{l:List LO} {i:Nat} (n:Nat) {o e:Nat},l.length-i<=n->endN (l.drop i) i o=some e->∃x,l[e]?=some x/\x.J1=7
 | l,i,0,o,e,hn,h=>by rw[lp o_]at h;cases h
 | l,i,n+1,o,e,hn,h=>by
  by_cases hi:i<l.length
  ·obtain⟨x,hx⟩:=ae hi;rw[dJ hx]at h;split at h
   ·exact nF n o_ h
   ·split at h
    ·split at h
     ·injection h with h;subst h;exact⟨x,hx,by assumption⟩
     ·exact nF n o_ h
    ·exact nF n o_ h
  ·rw[lp o_]at h;cases h
theorem aN {l:List LO}{k e:Nat}(h:endAt l k=some e):∃x,l[k]?=some x/\dL x.J1=true/\endN (l.drop (k+1)) (k+1) 1=some e/\k<e/\e<l.length:=by
 unfold endAt at h;split at h
 ·rename_i x hx;split at h
  ·rename_i ho;have:=jg h;exact⟨x,hx,ho,h,o_,o_⟩
  ·cases h
 ·cases h
theorem pO {l:List LO}{k:Nat}{x:LO}(hx:l[k]?=some x)(ho:dL x.J1=true):endAt l k=endN (l.drop (k+1)) (k+1) 1:=by unfold endAt;rw[hx];dsimp only;rw[c7 ho]
theorem bL {l:List LO}{k e:Nat}(h:endAt l k=some e):∃x,l[e]?=some x/\x.J1=7:=by obtain⟨_,_,_,h,_⟩:=aN h;exact nF _ (d8 _) h
theorem pG:∀{l:List LO} (n:Nat) {s o e i:Nat},i-s<=n->1<=o->endN (l.drop s) s o=some e->s<=i->i<=e->∃o',1<=o'/\endN (l.drop i) i o'=some e
 | l,0,s,o,e,i,hn,ho,h,h1,h2=>by
  have:s=i:=o_;subst this
  exact⟨o,ho,h⟩
 | l,n+1,s,o,e,i,hn,ho,h,h1,h2=>by
  by_cases hs:s=i
  ·subst hs;exact⟨o,ho,h⟩
  have hl:=jg h;obtain⟨x,hx⟩:=ae (l:=l) (k:=s) o_;rw[dJ hx]at h;split at h
  ·exact pG n o_ o_ h o_ h2
  ·split at h
   ·split at h
    ·injection h with h;omega
    ·exact pG n o_ o_ h o_ h2
   ·exact pG n o_ ho h o_ h2
theorem jr {l:List LO}{k e i:Nat}{x:LO}(h:endAt l k=some e)(h1:k<i)(h2:i<e)(hx:l[i]?=some x)(ho:dL x.J1=true):∃m,endAt l i=some m/\i<m/\m<e:=by
 obtain⟨_,_,_,he,_,My⟩:=aN h;obtain⟨o,Zs,On⟩:=pG _ (d8 _) (d8 1) he (by omega:k+1<=i) o_;rw[dJ hx,c7 ho,me _ (d8 _) Zs (d8 1)]at On
 cases hm:endN (l.drop (i+1)) (i+1) 1 with
 | none=>rw[hm]at On;cases On
 | some m=>rw[hm]at On;have h3:=jg hm;have h4:=jg (show endN (l.drop (m+1)) (m+1) o=some e from On);exact⟨m,by rw[pO hx ho];exact hm,o_,o_⟩
theorem cw {l:List LO}{k:Nat}:ct l (k:Int)=cO (endAt l k):=by rw[ct,c7 o_,d7]
theorem bR {o:Option Nat}{n:Nat}(h:o=some n):cO o=(n:Int):=by rw[h];rfl
theorem rt {o:Option Nat}(h:o=none):cO o= -1:=by rw[h];rfl
def elseN (l:List LO)(e:Nat):Nat->Nat->Option Nat
 | 0,_=>none
 | n+1,i=>if i<e then(match l[i]? with
  | some x=>if x.J1=4 then some i else if x.J1=3\/x.J1=5 then(match endAt l i with
   | some m=>elseN l e n (m+1)
   | none=>elseN l e n (i+1))else elseN l e n (i+1)
  | none=>none)else none
def elseAt (l:List LO)(k:Nat):Option Nat:=match l[k]?,endAt l k with
 | some x,some e=>if x.J1=3 then elseN l e (e-(k+1)) (k+1)else none
 | _,_=>none
def cB (l:List LO)(k:Int):Int:=if 0<=k then cO (elseAt l k.toNat)else -1
theorem gT {l:List LO}{e:Nat}:∀{n m i:Nat},e-i<=n->e-i<=m->elseN l e n i=elseN l e m i
 | 0,0,_,_,_=>rfl
 | 0,m+1,i,h1,h2=>by rw[elseN,elseN,b8 o_]
 | n+1,0,i,h1,h2=>by rw[elseN,elseN,b8 o_]
 | n+1,m+1,i,h1,h2=>by
  rw[elseN,elseN];by_cases hi:i<e
  ·rw[c7 hi,c7 hi]
   cases hx:l[i]? with
   | none=>rfl
   | some x=>
    dsimp only;split
    ·rfl
    ·split
     ·cases hm:endAt l i with
      | none=>exact gT o_ o_
      | some m'=>have:=aN hm;obtain⟨_,_,_,_,h3,_⟩:=this;exact gT o_ o_
     ·exact gT o_ o_
  ·rw[b8 hi,b8 hi]
theorem CH {l:List LO}{e i:Nat}{x:LO}(hi:i<e)(hx:l[i]?=some x):elseN l e (e-i) i=if x.J1=4 then some i else if x.J1=3\/x.J1=5 then(match endAt l i with
   | some m=>elseN l e (e-(m+1)) (m+1)
   | none=>elseN l e (e-(i+1)) (i+1))else elseN l e (e-(i+1)) (i+1):=by
 obtain⟨n,hn⟩:∃n,e-i=n+1:=⟨e-i-1,o_⟩;rw[hn,elseN,c7 hi,hx];dsimp only;split
 ·rfl
 ·split
  ·cases hm:endAt l i with
   | none=>exact gT o_ o_
   | some m=>obtain⟨_,_,_,_,h3,_⟩:=aN hm;exact gT o_ o_
  ·exact gT o_ o_
theorem Gj {l:List LO}{e i n:Nat}(hi:e<=i):elseN l e n i=none:=by cases n with|zero=>rfl|succ n=>rw[elseN,b8 o_]
theorem md {l:List LO}{e:Nat}:∀{n i j:Nat},elseN l e n i=some j->i<=j/\j<e/\∃x,l[j]?=some x/\x.J1=4
 | 0,_,_,h=>by rw[elseN]at h;cases h
 | n+1,i,j,h=>by
  rw[elseN]at h;split at h
  ·rename_i hi;split at h
   ·rename_i x hx;split at h
    ·injection h with h;subst h;exact⟨o_,hi,x,hx,by assumption⟩
    ·split at h
     ·split at h
      ·rename_i m hm;obtain⟨_,_,_,_,h3,_⟩:=aN hm;have:=md h;exact⟨o_,this.2⟩
      ·have:=md h;exact⟨o_,this.2⟩
     ·have:=md h;exact⟨o_,this.2⟩
   ·cases h
  ·cases h
theorem bt {l:List LO}{k j:Nat}(h:elseAt l k=some j):∃x e,l[k]?=some x/\x.J1=3/\endAt l k=some e/\k<j/\j<e/\∃y,l[j]?=some y/\y.J1=4:=by
 unfold elseAt at h;split at h
 ·rename_i x e hx he;split at h
  ·rename_i h3;have:=md h;exact⟨x,e,hx,h3,he,o_,this.2⟩
  ·cases h
 ·cases h
def funsF:List LO->Nat->List Nat
 | [],_=>[]
 | x::l,i=>(if x.J1=0 then [i]else [])++funsF l (i+1)
def ay (l:List LO):List Nat:=funsF l 0
theorem AK {l:List LO}{i:Nat}{x:LO}(hx:l[i]?=some x):funsF (l.drop i) i=(if x.J1=0 then [i]else [])++funsF (l.drop (i+1)) (i+1):=by rw[cF hx,funsF]
theorem V88{p:Prop}(h:p:=by
 refine⟨o_,by simp only[d5];omega,y,?_,hk⟩;rw[show k-i=(k-(i+1))+1 by omega,j8]
 exact hy):p:=h
theorem un:∀{l:List LO} {i k:Nat},k∈funsF l i->i<=k/\k<i+l.length/\∃x,l[k-i]?=some x/\x.J1=0
 | [],_,_,h=>by simp[funsF]at h
 | x::l,i,k,h=>by
  rw[funsF,d9]at h;rcases h with h|h
  ·split at h
   ·simp only[d6,l4,or_false]at h;subst h;exact⟨o_,s_,x,s_,by assumption⟩
   ·cases h
  ·obtain⟨h1,h2,y,hy,hk⟩:=un h;exact V88
theorem nV {l:List LO}{k:Nat}(h:k∈ay l):k<l.length/\∃x,l[k]?=some x/\x.J1=0:=by have:=un h;simpa using this.2
def findN:List LO->Nat->List UInt8->Option Nat
 | [],_,_=>none
 | x::l,i,s=>if x.J1=0/\x.J8=s then some i else findN l (i+1) s
def lQ (l:List LO)(s:List UInt8):Int:=cO (findN l 0 s)
theorem HX {l:List LO}{i:Nat}{x:LO}{s:List UInt8}(hx:l[i]?=some x):findN (l.drop i) i s=if x.J1=0/\x.J8=s then some i else findN (l.drop (i+1)) (i+1) s:=by rw[cF hx,findN]
theorem vg:∀{l:List LO} {i k:Nat} {s:List UInt8},findN l i s=some k->i<=k/\k<i+l.length/\∃x,l[k-i]?=some x/\x.J1=0/\x.J8=s
 | [],_,_,_,h=>by rw[findN]at h;cases h
 | x::l,i,k,s,h=>by
  rw[findN]at h;split at h
  ·injection h with h;subst h;exact⟨o_,s_,x,s_,by assumption⟩
  ·obtain⟨h1,h2,y,hy,hk⟩:=vg h;exact V88
theorem gY {l:List LO}{k:Nat}{s:List UInt8}(h:findN l 0 s=some k):k<l.length/\∃x,l[k]?=some x/\x.J1=0/\x.J8=s:=by have:=vg h;simpa using this.2
def gj (acc:List (List UInt8))(s:List UInt8):List (List UInt8):=if acc.contains s=true then acc else acc++[s]
def locN (l:List LO)(e:Nat):Nat->Nat->List (List UInt8)->List (List UInt8)
 | 0,_,acc=>acc
 | n+1,i,acc=>if i<e then(match l[i]? with
  | some x=>locN l e n (i+1) (if x.J1=1 then gj acc x.J8 else acc)
  | none=>acc)else acc
def localsOf (l:List LO)(k:Int):List (List UInt8):=if 0<=k then(match l[k.toNat]?,endAt l k.toNat with
 | some x,some e=>if x.J1=0 then locN l e (e-k.toNat) k.toNat x.L5 else []
 | _,_=>[])else []
theorem Fc {l:List LO}{e i:Nat}{x:LO}{acc:List (List UInt8)}(hi:i<e)(hx:l[i]?=some x):locN l e (e-i) i acc=locN l e (e-(i+1)) (i+1) (if x.J1=1 then gj acc x.J8 else acc):=by rw[show e-i=(e-(i+1))+1 by omega,locN,c7 hi,hx]
theorem HM {l:List LO}{e i n:Nat}{acc:List (List UInt8)}(hi:e<=i):locN l e n i acc=acc:=by cases n with|zero=>rfl|succ n=>rw[locN,b8 o_]
theorem Ab (acc:List (List UInt8))(s:List UInt8):(gj acc s).length<=acc.length+1:=by unfold gj;split<;>simp
theorem AJ {l:List LO}{e:Nat}:∀(n i:Nat) (acc:List (List UInt8)),(locN l e n i acc).length<=acc.length+n
 | 0,_,_=>by simp[locN]
 | n+1,i,acc=>by
  rw[locN];split
  ·split
   ·refine v5 (AJ n _ _) ?_;split
    ·have:=Ab acc (by assumption:LO).J8;omega
    ·omega
   ·omega
  ·omega
def cH (l:List LO)(locals:List (List UInt8))(t:LY):Bool:=
 if t.J1=1 then locals.contains t.J8
 else if t.J1=7 then(match findN l 0 t.J8 with
  | some f=>(match l[f]? with|some x=>(x.L5.length:Int)==t.Mb|none=>false)
  | none=>false)
 else true
def eC (l:List LO)(locals:List (List UInt8))(ts:List LY):Bool:=ts.all (cH l locals)
def dep (x:LO)(d:Nat):Nat:=if x.J1=3\/x.J1=5 then d+1 else if x.J1=7 then d-1 else d
def mH (l:List LO)(locals:List (List UInt8))(e:Nat):Nat->Nat->Nat->Bool
 | 0,_,_=>true
 | n+1,i,d=>if i<e then(match l[i]? with
  | some x=>if x.J1=0 then false else
   if dep x d<=4/\eC l locals x.K9=true then mH l locals e n (i+1) (dep x d)else false
  | none=>false)else true
def anyE (l:List LO)(i:Nat):Nat->Nat->Bool
 | 0,_=>false
 | n+1,j=>(elseAt l j==some i)||anyE l i n (j+1)
theorem qo {l:List LO}{i:Nat}:∀{n j:Nat},anyE l i n j=true↔∃k,j<=k/\k<j+n/\elseAt l k=some i
 | 0,j=>by
  rw[anyE]
  exact⟨fun h=>(by cases h),fun⟨k,h1,h2,_⟩=>o_⟩
 | n+1,j=>by
  rw[anyE,w5,qo,w8];constructor
  ·rintro(h|⟨k,h1,h2,h3⟩)
   ·exact⟨j,o_,o_,h⟩
   ·exact⟨k,o_,o_,h3⟩
  ·rintro⟨k,h1,h2,h3⟩;by_cases hk:k=j
   ·subst hk;exact .inl h3
   ·exact .inr ⟨k,o_,o_,h3⟩
def elsesIn (l:List LO)(k e:Nat):Nat->Nat->Bool
 | 0,_=>true
 | n+1,i=>if i<e then(match l[i]? with
  | some x=>(if x.J1=4 then anyE l i (i-k) k else true)&&elsesIn l k e n (i+1)
  | none=>true)else true
theorem iA {l:List LO}{k e:Nat}:∀{n i:Nat},e-i<=n->(elsesIn l k e n i=true↔∀j x,i<=j->j<e->l[j]?=some x->x.J1=4->anyE l j (j-k) k=true)
 | 0,i,h=>⟨fun _ j x h1 h2=>o_,fun _=>rfl⟩
 | n+1,i,h=>by
  rw[elsesIn];by_cases hi:i<e
  ·rw[c7 hi]
   cases hx:l[i]? with
   | none=>
    refine⟨fun _ j x h1 h2 hj=>?_,fun _=>rfl⟩;have:l.length<=i:=List.getElem?_eq_none_iff.1 hx;rw[e9 o_]at hj
    cases hj
   | some x=>
    dsimp only;rw[b9,iA o_];constructor
    ·rintro⟨h1,h2⟩ j y Ve PP hy hk;by_cases he:j=i
     ·subst he;rw[hx]at hy;injection hy with hy;subst hy;rw[c7 hk]at h1;exact h1
     ·exact h2 j y o_ PP hy hk
    ·intro H;refine⟨?_,fun j y Ve PP hy hk=>H j y o_ PP hy hk⟩;split
     ·exact H i x (d8 _) hi hx aaj
     ·rfl
  ·rw[b8 hi];exact⟨fun _ j x h1 h2=>o_,fun _=>rfl⟩
def lU (l:List LO)(locals:List (List UInt8))(k e:Nat):Nat->Nat->Nat->Bool
 | 0,_,_=>true
 | n+1,i,d=>if i<e then(match l[i]? with
  | some x=>if x.J1=0 then false else if x.J1=4/\anyE l i (i-k) k=false then false else
   if dep x d<=4/\eC l locals x.K9=true then lU l locals k e n (i+1) (dep x d)else false
  | none=>false)else true
theorem CN {l:List LO}{locals:List (List UInt8)}{k e i d:Nat}{x:LO}(hi:i<e)(hx:l[i]?=some x):lU l locals k e (e-i) i d=if x.J1=0 then false else if x.J1=4/\anyE l i (i-k) k=false then false else if dep x d<=4/\eC l locals x.K9=true then lU l locals k e (e-(i+1)) (i+1) (dep x d)else false:=by rw[show e-i=(e-(i+1))+1 by omega,lU,c7 hi,hx]
theorem FC {l:List LO}{locals:List (List UInt8)}{k e i d n:Nat}(hi:e<=i):lU l locals k e n i d=true:=by cases n with|zero=>rfl|succ n=>rw[lU,b8 o_]
theorem zR {l:List LO}{locals:List (List UInt8)}{k e:Nat}:∀{n i d:Nat},lU l locals k e n i d=(mH l locals e n i d&&elsesIn l k e n i)
 | 0,i,d=>rfl
 | n+1,i,d=>by
  rw[lU,mH,elsesIn];by_cases hi:i<e
  ·rw[c7 hi,c7 hi,c7 hi]
   cases hx:l[i]? with
   | none=>rfl
   | some x=>
    dsimp only;by_cases h0:x.J1=0
    ·rw[c7 h0,c7 h0];rfl
    ·rw[b8 h0,b8 h0];rw[zR];by_cases h4:x.J1=4
     ·rw[c7 h4]
      cases ha:anyE l i (i-k) k with
      | false=>rw[c7 ⟨h4,rfl⟩];simp
      | true=>rw[b8 s_];split<;>simp_all
     ·rw[b8 (by simp[h4]),b8 h4];split<;>simp_all
  ·rw[b8 hi,b8 hi,b8 hi];rfl
def tF (l:List LO)(k e:Nat):Bool:=decide ((localsOf l (k:Int)).length<=8)&&mH l (localsOf l (k:Int)) e (e-(k+1)) (k+1) 0
def lL (l:List LO)(k e:Nat):Bool:=decide ((localsOf l (k:Int)).length<=8)&&lU l (localsOf l (k:Int)) k e (e-(k+1)) (k+1) 0
theorem mA {l:List LO}{k e:Nat}:lL l k e=(tF l k e&&elsesIn l k e (e-(k+1)) (k+1)):=by rw[lL,tF,zR,Bool.and_assoc]
theorem uw {l:List LO}{k e:Nat}(h:tF l k e=true)(he:e<=l.length):∀i x,k<i->i<e->l[i]?=some x->x.J1≠0:=by
 rw[tF,b9]at h
 have key:∀(n i d:Nat),e-i<=n->mH l (localsOf l (k:Int)) e n i d=true->∀j x,i<=j->j<e->l[j]?=some x->x.J1≠0:=by
  intro n
  induction n with
  | zero=>intro i d hn _ j x h1 h2;omega
  | succ n ih=>
   intro i d hn hb j x h1 h2 hx;rw[mH,c7 o_]at hb;obtain⟨y,hy⟩:=ae (l:=l) (k:=i) o_;rw[hy]at hb;dsimp only at hb;split at hb
   ·cases hb
   ·rename_i h0;split at hb
    ·by_cases hj:j=i
     ·subst hj;rw[hy]at hx;injection hx with hx;subst hx;exact h0
     ·exact ih (i+1) _ o_ hb j x o_ h2 hx
    ·cases hb
 exact fun i x h1 h2 hx=>key _ _ _ (d8 _) h.2 i x o_ h2 hx
def bK (F:Nat->Nat->Bool)(l:List LO):Nat->Nat->Bool
 | 0,k=>decide (l.length<=k)
 | n+1,k=>if k<l.length then(match l[k]?,endAt l k with
  | some x,some e=>if x.J1=0/\F k e=true then bK F l n (e+1)else false
  | _,_=>false)else true
theorem mC {F:Nat->Nat->Bool}{l:List LO}{k n:Nat}{x:LO}(hx:l[k]?=some x)(hn:l.length-k<=n):bK F l n k=match endAt l k with|some e=>if x.J1=0/\F k e=true then bK F l (l.length-(e+1)) (e+1)else false|none=>false:=by
 have more:∀(n m k:Nat),l.length-k<=n->l.length-k<=m->bK F l n k=bK F l m k:=by
  intro n
  induction n with
  | zero=>
   intro m k h1 h2;rw[bK,q9 o_]
   cases m with|zero=>rw[bK,q9 o_]|succ m=>rw[bK,b8 o_]
  | succ n ih=>
   intro m k h1 h2
   cases m with
   | zero=>rw[bK,bK,b8 o_,q9 o_]
   | succ m=>
    rw[bK,bK];split
    ·split
     ·rename_i x e hx he;obtain⟨_,_,_,_,h3,_⟩:=aN he;split
      ·exact ih m (e+1) o_ o_
      ·rfl
     ·rfl
    ·rfl
 have hk:k<l.length:=by exact V109
 obtain⟨m,rfl⟩:∃m,n=m+1:=⟨n-1,o_⟩;rw[bK,c7 hk,hx]
 cases he:endAt l k with
 | none=>rfl
 | some e=>
  obtain⟨_,_,_,_,h3,_⟩:=aN he;dsimp only;split
  ·exact more _ _ _ o_ o_
  ·rfl
theorem vG {F:Nat->Nat->Bool}{l:List LO}{k n:Nat}(hk:l.length<=k):bK F l n k=true:=by cases n with|zero=>rw[bK,q9 hk]|succ n=>rw[bK,b8 o_]
def tW (l:List LO):Bool:=elsesIn l 0 l.length l.length 0
def nameFirst (l:List LO)(k:Nat):Bool:=match l[k]? with|some x=>findN l 0 x.J8==some k|none=>false
theorem xK {l:List LO}:∀(n k:Nat),l.length-k<=n->k<=l.length->(∀j m,j<k->endAt l j=some m->m<k)->
  (bK (lL l) l (l.length-k) k=(bK (tF l) l (l.length-k) k&&elsesIn l 0 l.length (l.length-k) k))
 | n,k,hn,hk,hP=>by
  by_cases My:k<l.length
  ·obtain⟨x,hx⟩:=ae My;rw[mC hx (d8 _),mC hx (d8 _)]
   cases he:endAt l k with
   | none=>simp
   | some e=>
    dsimp only;obtain⟨_,Ot,ho,_,h3,h4⟩:=aN he;obtain⟨z,hz,Xf⟩:=bL he;by_cases h0:x.J1=0
    ·have YX:∀j m,j<e+1->endAt l j=some m->m<e+1:=by
      intro j m hj hm;rcases B1 j k with N9|N9|N9
      ·have:=hP j m N9 hm;omega
      ·subst N9;rw[he]at hm;injection hm with hm;omega
      ·obtain⟨y,hy,Vm,_⟩:=aN hm;by_cases S3:j=e
       ·subst S3;rw[hz]at hy;injection hy with hy;subst hy;rw[opensK_iff]at Vm;omega
       ·obtain⟨m',PX,_,h5⟩:=jr he N9 o_ hy Vm;rw[hm]at PX;injection PX with PX;omega
     cases n with
     | zero=>omega
     | succ n=>
      have ih:=xK (l:=l) n (e+1) o_ o_ YX
      have VL:elsesIn l 0 l.length (l.length-k) k=(elsesIn l k e (e-(k+1)) (k+1)&&elsesIn l 0 l.length (l.length-(e+1)) (e+1)):=by
       rw[A0,b9,iA (d8 _),iA (d8 _),iA (d8 _)];constructor
       ·intro H;refine⟨fun j y h5 h6 hy h7=>?_,fun j y h5 h6 hy h7=>H j y o_ h6 hy h7⟩;have:=H j y o_ o_ hy h7;rw[qo]at this⊢;obtain⟨i,h8,h9,Vt⟩:=this;refine⟨i,?_,o_,Vt⟩;rcases m7 i k with Sz|Sz
        ·obtain⟨_,m,_,_,Rt,_,XE,_⟩:=bt Vt;have:=hP i m Sz Rt;omega
        ·exact Sz
       ·rintro⟨H1,H2⟩ j y h5 h6 hy h7;rcases m7 e j with h8|h8
        ·exact H2 j y h8 h6 hy h7
        ·have S3:j≠e:=fun h=>by
          subst h;rw[hz]at hy;injection hy with hy;subst hy;omega
         have N9:j≠k:=fun h=>by
          subst h;rw[hx]at hy;injection hy with hy;subst hy;omega
         have:=H1 j y o_ o_ hy h7;rw[qo]at this⊢;obtain⟨i,h9,Vt,Sz⟩:=this;exact⟨i,o_,o_,Sz⟩
      rw[VL,ih,mA]
      cases tF l k e<;>cases elsesIn l k e (e-(k+1)) (k+1)<;>simp[h0]
    ·rw[b8 (by simp[h0]),b8 (by simp[h0])];rfl
  ·have:k=l.length:=o_;subst this;rw[vG (d8 _),vG (d8 _)];rw[w9];rfl
def kP:List UInt8:=[109,97,105,110]
def headOk (l:List LO):Bool:=match l with
 | []=>false
 | x::_=>x.J1==0&&(x.J8==kP&&x.L5.length==0)
def ah (l:List LO):Bool:=decide (l.length<=60)&&(decide (1<=(ay l).length/\(ay l).length<=6)&&(l.all cZ&&(headOk l&&((ay l).all (nameFirst l)&&(bK (tF l) l l.length 0&&tW l)))))
theorem oY (l:List LO):bK (lL l) l l.length 0=(bK (tF l) l l.length 0&&tW l):=by have:=xK (l:=l) _ 0 (d8 _) o_ (fun j m h=>o_);rw[y0]at this;exact this
def StkOk (l:List LO)(e:Nat):Nat->List Nat->Prop
 | i,[]=>endN (l.drop i) i 1=some e
 | i,m::es=>i<=m/\endN (l.drop i) i 1=some m/\StkOk l e (m+1) es
theorem StkOk.push {l:List LO}{e i:Nat}{es:List Nat}{x:LO}(h:StkOk l e i es)(hx:l[i]?=some x)(ho:dL x.J1=true):∃m,endAt l i=some m/\i<m/\StkOk l e (i+1) (m::es):=by
 have key:∀m',endN (l.drop i) i 1=some m'->∃m,endAt l i=some m/\i<m/\endN (l.drop (i+1)) (i+1) 1=some m/\endN (l.drop (m+1)) (m+1) 1=some m':=by
  intro m' hm;rw[dJ hx,c7 ho,me _ (d8 _) (d8 1) (d8 1)]at hm
  cases h1:endN (l.drop (i+1)) (i+1) 1 with
  | none=>rw[h1]at hm;cases hm
  | some m=>rw[h1]at hm;have:=jg h1;exact⟨m,by rw[pO hx ho];exact h1,o_,rfl,hm⟩
 cases es with
 | nil=>
  obtain⟨m,h1,h2,h3,h4⟩:=key e h
  exact⟨m,h1,h2,o_,h3,h4⟩
 | cons m' es=>obtain⟨g1,g2,g3⟩:=h;obtain⟨m,h1,h2,h3,h4⟩:=key m' g2;have:=jg h4;exact⟨m,h1,h2,o_,h3,o_,h4,g3⟩
theorem StkOk.other {l:List LO}{e i:Nat}{es:List Nat}{x:LO}(h:StkOk l e i es)(hx:l[i]?=some x)(ho:dL x.J1=false)(h7:x.J1≠7):StkOk l e (i+1) es:=by
 have key:∀m',endN (l.drop i) i 1=some m'->endN (l.drop (i+1)) (i+1) 1=some m':=by intro m' hm;rw[dJ hx,b8 aag,b8 h7]at hm;exact hm
 cases es with
 | nil=>exact key e h
 | cons m' es=>obtain⟨g1,g2,g3⟩:=h;have:=jg (key m' g2);exact⟨o_,key m' g2,g3⟩
theorem StkOk.pop {l:List LO}{e i:Nat}{es:List Nat}{x:LO}(h:StkOk l e i es)(hx:l[i]?=some x)(h7:x.J1=7):(es=[]/\i=e)\/∃NW,es=i::NW/\StkOk l e (i+1) NW:=by
 have ho:¬dL x.J1=true:=by rw[opensK_iff];omega
 cases es with
 | nil=>
  unfold StkOk at h;rw[dJ hx,b8 ho,c7 h7,c7 rfl]at h;injection h with h
  exact .inl ⟨rfl,h⟩
 | cons m' es=>obtain⟨g1,g2,g3⟩:=h;rw[dJ hx,b8 ho,c7 h7,c7 rfl]at g2;injection g2 with g2;subst g2;exact .inr ⟨es,rfl,g3⟩
theorem StkOk.le {l:List LO}{e:Nat}:∀{i:Nat} {es:List Nat},StkOk l e i es->i<=e
 | i,[],h=>(jg h).1
 | i,m::es,h=>by
  have:=StkOk.le h.2.2;have:=h.1;omega
inductive Ex where
 | node (t:LY) (es:List Ex)
mutual
def Ex.toks:Ex->List LY
 | .node t es=>t::au es
def au:List Ex->List LY
 | []=>[]
 | a::es=>a.toks++au es
end
mutual
def Ex.ok:Ex->Prop
 | .node t es=>fw t=true/\es.length=ar t/\iT es
def iT:List Ex->Prop
 | []=>True
 | a::es=>a.ok/\iT es
end
theorem Ex.toks_pos (e:Ex):0<e.toks.length:=by cases e;simp[Ex.toks]
theorem iq:∀(a b:List Ex),au (a++b)=au a++au b
 | [],b=>by rw[t6,au,t6]
 | x::a,b=>by rw[u3,au,au,iq a b,j9]
theorem wm:∀{l:List Ex} (n:Nat),iT l->iT (l.take n)
 | [],n,h=>by rw[List.take_nil];exact h
 | x::l,0,h=>by rw[H5];trivial
 | x::l,n+1,h=>by rw[q8];exact⟨h.1,wm n h.2⟩
theorem vc:∀{l:List Ex} (n:Nat),iT l->iT (l.drop n)
 | [],n,h=>by rw[List.drop_nil];exact h
 | x::l,0,h=>h
 | x::l,n+1,h=>by rw[List.drop_succ_cons];exact vc n h.2
theorem wy:∀{l:List LY} {p n e:Nat},endL l p n=some e->∃es:List Ex,es.length=n/\iT es/\∃rest,l=au es++rest/\p+(au es).length=e
 | l,p,0,e,h=>by
  have h:some p=some e:=by cases l<;>exact h
  injection h with h
  exact⟨[],rfl,trivial,l,rfl,by simp[au];omega⟩
 | [],_,_+1,_,h=>by rw[endL]at h;cases h
 | t::l,p,n+1,e,h=>by
  rw[endL]at h;split at h
  ·rename_i MA;obtain⟨es,h1,h2,rest,h3,h4⟩:=wy h;refine⟨.node t (es.take (ar t))::es.drop (ar t),by simp;omega,⟨⟨MA,by simp;omega,wm _ h2⟩,vc _ h2⟩,rest,?_,?_⟩
   ·rw[au,Ex.toks,u3,<-iq,y9,u3,<-h3]
   ·rw[au,Ex.toks,u3,<-iq,y9,d5];omega
  ·cases h
mutual
theorem Ex.endL:∀(e:Ex),e.ok->∀(r:List LY) (p n:Nat),Go.Proofs.P.endL (e.toks++r) p (n+1)=Go.Proofs.P.endL r (p+e.toks.length) n
 | .node t es,h,r,p,n=>by
  rw[Ex.toks,u3,Go.Proofs.P.endL,c7 h.1,show n+ar t=n+es.length by rw[h.2.1],BM es h.2.2,d5];congr 1;omega
theorem BM:∀(es:List Ex),iT es->∀(r:List LY) (p n:Nat),Go.Proofs.P.endL (au es++r) p (n+es.length)=Go.Proofs.P.endL r (p+(au es).length) n
 | [],_,r,p,n=>by rw[au];simp
 | a::es,h,r,p,n=>by
  rw[au,j9,d5,show n+(es.length+1)=(n+es.length)+1 by omega,Ex.endL a h.1,BM es h.2,c8];congr 1;omega
end
theorem jf {l:List LY}(h:br l=true):∃e:Ex,e.ok/\l=e.toks:=by
 unfold br at h;simp only[b9,j5,w8]at h;obtain⟨_,h1,h2⟩:=h;rw[gv,c7 o_]at h2;show ∃e:Ex,e.ok/\l=e.toks
 cases he:Go.Proofs.P.endL (l.drop (0:Int).toNat) (0:Int).toNat 1 with
 | none=>rw[he]at h2;simp only[cO]at h2;omega
 | some e=>
  rw[he]at h2;simp only[cO]at h2;obtain⟨es,g1,g2,rest,g3,g4⟩:=wy he
  match es,g1 with
  | [a],_=>
   rw[au,au,m6]at g3 g4;have e0:l.drop (0:Int).toNat=l:=rfl;rw[e0]at g3
   have:rest=[]:=by have:=congrArg List.length g3;rw[c8]at this;have e1:(0:Int).toNat=0:=rfl;rw[e1]at g4;exact A3.1 o_
   subst this;exact⟨a,g2.1,by rw[g3,m6]⟩
def kp (l:List LY)(p:Nat)(e:Ex):Prop:=∃r,l.drop p=e.toks++r
def kJ (l:List LY)(p:Nat)(es:List Ex):Prop:=∃r,l.drop p=au es++r
theorem pk {l:List LY}{p:Nat}{e:Ex}(h:kp l p e)(ho:e.ok):gv l (p:Int)=((p+e.toks.length:Nat):Int):=by
 obtain⟨r,h⟩:=h;rw[gv,c7 o_,d7,h,show(1:Nat)=0+1 from rfl,Ex.endL e ho]
 cases r<;>rfl
theorem oz {l:List LY}{p:Nat}{t:LY}{es:List Ex}(h:kp l p (.node t es)):l[p]?=some t/\kJ l (p+1) es:=by
 obtain⟨r,h⟩:=h;rw[Ex.toks,u3]at h;refine⟨?_,r,?_⟩
 ·have:=congrArg (·[0]?) h;simpa [v7]using this
 ·have:=congrArg (·.drop 1) h;simpa [F1]using this
theorem fA {l:List LY}{p:Nat}{a:Ex}{es:List Ex}(h:kJ l p (a::es)):kp l p a/\kJ l (p+a.toks.length) es:=by obtain⟨r,h⟩:=h;rw[au,j9]at h;refine⟨⟨_,h⟩,r,?_⟩;rw[<-F1,h,List.drop_left]
def pN:Nat->List Ex->List Nat
 | _,[]=>[]
 | p,a::es=>p::pN (p+a.toks.length) es
theorem Ay:∀(p:Nat) (es:List Ex),(pN p es).length=es.length
 | _,[]=>rfl
 | p,a::es=>by rw[pN,d5,Ay,d5]
theorem EG:∀{l:List LY} {p:Nat} {es:List Ex} {k:Nat} {a:Ex},kJ l p es->es[k]?=some a->∃q,(pN p es)[k]?=some q/\kp l q a
 | _,_,[],_,_,_,h=>by simp at h
 | l,p,b::es,0,a,hs,h=>by
  rw[e8]at h;injection h with h;subst h
  exact⟨p,by rw[pN,e8],(fA hs).1⟩
 | l,p,b::es,k+1,a,hs,h=>by
  rw[j8]at h;obtain⟨q,h1,h2⟩:=EG (fA hs).2 h;exact⟨q,by rw[pN,j8];exact h1,h2⟩
theorem Ga {t:LY}(h:fw t=true):t.J1=0\/t.J1=1\/t.J1=7\/(2<=t.J1/\t.J1<=6):=by
 unfold fw at h;split at h
 ·omega
 ·split at h
  ·omega
  ·split at h
   ·omega
   ·simp only[b9,within_iff]at h;omega
theorem Js {t:LY}(h:fw t=true):((t.J1=0\/t.J1=1)->ar t=0)/\(t.J1=7->(ar t:Int)=t.Mb)/\(2<=t.J1->t.J1<=6->ar t=2):=by
 obtain⟨e1,_⟩:=xZ h;unfold mG at e1;rw[b8 aaI]at e1;refine⟨fun h0=>?_,fun h7=>?_,fun h2 h6=>?_⟩
 ·rw[b8 o_,c7 h0]at e1;omega
 ·rw[c7 h7]at e1;omega
 ·rw[b8 o_,b8 o_]at e1;omega
theorem sl:∀{l:List LY} {p:Nat} {es:List Ex} {j:Nat} {a:Ex},kJ l p es->es[j]?=some a->kp l (p+(au (es.take j)).length) a
 | _,_,[],_,_,_,h=>by simp at h
 | l,p,b::es,0,a,hs,h=>by
  rw[e8]at h;injection h with h;subst h
  simpa [au]using(fA hs).1
 | l,p,b::es,j+1,a,hs,h=>by
  rw[j8]at h;have:=sl (fA hs).2 h;rw[q8,au,c8,<-H9];exact this
end Go.Proofs.P
namespace Go.Proofs.P
noncomputable section
open Go.Sim Tryz
structure Cx where
 p:List LO
 b:LF
 J6:Bool
 I8:Int
 args:Int
structure Sc where
 f:Nat
 J0:List Int
 J9:List (List UInt8)
 first:Int
 L2:Bool
structure Gs where
 I7:List LN
 J3:Int
 start:Bool
def bM (C:Cx)(s:Gs)(depth code arg line:Int)(chain:List Int):LN:=⟨⟨code,arg⟩,line,s.start,chain,if C.J6=true/\0<s.I7.length then 0 else depth,C.J6&&decide (0<s.I7.length)⟩
def aC (C:Cx)(s:Gs)(depth code arg line:Int)(chain:List Int):Gs:=⟨s.I7++[bM C s depth code arg line chain],s.J3,false⟩
def Ca (C:Cx)(x:Sc)(i:Int):Bool:=x.L2&&decide (i<C.args)
def ng (C:Cx)(x:Sc)(i:Int):Int:=if x.L2=true then i-C.args else x.first+i
def cy (C:Cx)(store:Bool):Int:=(if C.J6=true then 1 else 3)+(if store=true then 1 else 0)
def fq (C:Cx)(x:Sc)(depth i:Int):Int:=
 if C.J6=true then(if Ca C x i=true then 1+(C.args-i)else -1-ng C x i)
 else(if Ca C x i=true then depth+(C.args-i)else depth-1-ng C x i)
def Ek (C:Cx)(x:Sc)(s:Gs)(depth i line:Int):Gs:=aC C s depth (cy C false) (fq C x depth i) line x.J0
def fQ (C:Cx)(x:Sc)(s:Gs)(depth i line:Int)(chain:List Int):Gs:=aC C s depth (cy C true) (fq C x depth i) line chain
def cD (C:Cx)(y:Sc)(chain:List Int)(line:Int):Nat->Int->Gs->Gs
 | 0,_,s=>s
 | n+1,d,s=>cD C y chain line n (d-1) (fQ C y s d n line chain)
def dD (C:Cx)(y:Sc)(chain:List Int)(line d:Int):Nat->Nat->Gs->Gs
 | 0,_,s=>s
 | n+1,i,s=>dD C y chain line d n (i+1) (fQ C y (aC C s d 0 0 line chain) (d+1) i line chain)
def bV (l:List LN)(j:Int)(v:Int):List LN:=if 0<=j then(match l[j.toNat]? with
 | some x=>l.set j.toNat ⟨⟨x.J2.I9,v⟩,x.Mh,x.L4,x.Ml,x.Md,x.Mm⟩
 | none=>l)else l
def patchL (l:List LN)(v:Int):List Int->List LN
 | []=>l
 | j::js=>patchL (bV l j v) v js
def kI (p:List LO)(g:Nat):Nat:=((p.take g).filter fun x=>x.J1==0).length
def cL (C:Cx)(inside:List Nat)(g:Nat)(n:Nat):Bool:=decide ((inside.length:Int)<=C.b.Mc)&&(decide (ct C.p (g:Int)-g<=9)&&(decide (n<200)&&!inside.contains g))
def ma (C:Cx)(rep:Sc->List Nat->Nat->Nat->Int->Gs->Gs)(x:Sc)(inside:List Nat)(line:Nat)(t:LY)(d:Int)(s:Gs):Gs:=
 if t.J1=0 then aC C s d 0 t.Mb line x.J0
 else if t.J1=1 then Ek C x s d (dG x.J9 t.J8) line
 else if t.J1=7 then(match findN C.p 0 t.J8 with
  | some g=>if cL C inside g s.I7.length=true then rep x inside line g d s else aC C s d 12 (kI C.p g) line x.J0
  | none=>s)
 else aC C s d (5+t.J1-2) 0 line x.J0
mutual
def eA (C:Cx)(rep:Sc->List Nat->Nat->Nat->Int->Gs->Gs)(x:Sc)(inside:List Nat)(line:Nat):Ex->Int->Gs->Gs
 | .node t es,d,s=>ma C rep x inside line t (d+es.length) (cW C rep x inside line es d s)
def cW (C:Cx)(rep:Sc->List Nat->Nat->Nat->Int->Gs->Gs)(x:Sc)(inside:List Nat)(line:Nat):List Ex->Int->Gs->Gs
 | [],_,s=>s
 | a::es,d,s=>cW C rep x inside line es (d+1) (eA C rep x inside line a d s)
end
def ck (C:Cx)(x:Sc):Int:=if x.L2=true then(x.J9.length:Int)-C.args else x.first+x.J9.length
def argsN (p:List LO)(g:Nat):Nat:=match p[g]? with|some l=>l.L5.length|none=>0
def cf (C:Cx)(x:Sc)(line g:Nat):Sc:=⟨g,x.J0++[(line:Int)],localsOf C.p (g:Int),ck C x,false⟩
def fU (C:Cx)(x:Sc)(line g:Nat)(d:Int)(s:Gs):Gs:=
 dD C (cf C x line g) x.J0 line (d-argsN C.p g) ((localsOf C.p (g:Int)).length-argsN C.p g) (argsN C.p g)
  (cD C (cf C x line g) x.J0 line (argsN C.p g) d ⟨s.I7,max s.J3 (ck C x+(localsOf C.p (g:Int)).length),s.start⟩)
def dc (C:Cx)(x:Sc)(line:Nat)(d:Int)(s:Gs):Gs:=if s.start=true then aC C s d 15 0 line x.J0 else s
def lT (C:Cx)(lines:Sc->List Nat->Int->Gs->Gs×List Int)(x:Sc)(inside:List Nat)(line g:Nat)(d:Int)(s:Gs):Gs:=
 let r:=lines (cf C x line g) (inside++[g]) (d-argsN C.p g) (dc C x line (d-argsN C.p g) (fU C x line g d s))
 ⟨patchL r.1.I7 r.1.I7.length r.2,r.1.J3,r.1.start⟩
def ownN (p:List LO)(k:Nat):Nat->Option Nat
 | 0=>none
 | n+1=>if endAt p n=some k\/elseAt p n=some k then some n else ownN p k n
def ownOf (p:List LO)(k:Nat):Nat:=(ownN p k p.length).getD 0
def kindAt (p:List LO)(k:Nat):Int:=match p[k]? with|some x=>x.J1|none=> -1
structure Ls where
 g:Gs
 J4:List Int
 pos:List Int
 lv:List Int
def exL (l:List LY):Ex:=if h:br l=true then Classical.choose (jf h)else .node ⟨0,0,[]⟩ []
theorem qX {l:List LY}(h:br l=true):(exL l).ok/\l=(exL l).toks:=by rw[exL,dif_pos h];exact l8 (jf h)
def atL (l:List Int)(k:Nat):Int:=l[k]?.getD 0
def be (C:Cx)(x:Sc)(k:Nat)(last:Bool)(d:Int)(L:Ls):Ls:=
 if x.L2=true then(if C.J6=true then{L with g:=aC C L.g d 14 C.args k x.J0} else{L with g:=aC C L.g d 16 (C.args+16*C.I8) k x.J0})
 else if last=true then L
 else{L with g:=aC C L.g d 10 0 k x.J0,lv:=L.lv++[(L.g.I7.length:Int)]}
def bI (C:Cx)(rep:Sc->List Nat->Nat->Nat->Int->Gs->Gs)(x:Sc)(inside:List Nat)(base:Int)(k:Nat)(ln:LO)(L:Ls):Ls:=
 if ln.J1=4 then
  let g:=aC C L.g base 10 0 k x.J0
  {L with g:=⟨bV g.I7 (atL L.pos (ownOf C.p k)) g.I7.length,g.J3,g.start⟩,pos:=L.pos.set k L.g.I7.length}
 else if ln.J1=7 then
  if ownOf C.p k=x.f then be C x k true (base+1) {L with g:=aC C L.g base 0 0 k x.J0}
  else if kindAt C.p (ownOf C.p k)=5 then{L with g:=aC C L.g base 10 (atL L.J4 (ownOf C.p k)) k x.J0}
  else L
 else
  let L1:Ls:={L with g:=eA C rep x inside k (exL ln.K9) base ⟨L.g.I7,L.g.J3,true⟩,J4:=L.J4.set k L.g.I7.length}
  if ln.J1=1 then{L1 with g:=fQ C x L1.g (base+1) (dG x.J9 ln.J8) k x.J0}
  else if ln.J1=2 then{L1 with g:=aC C L1.g (base+1) 17 0 k x.J0}
  else if ln.J1=6 then be C x k false (base+1) L1
  else{L1 with g:=aC C L1.g (base+1) 11 0 k x.J0,pos:=L1.pos.set k L1.g.I7.length}
def iN (p:List LO)(k:Nat):Nat:=match elseAt p (ownOf p k)with|some j=>j|none=>ownOf p k
def bB (C:Cx)(x:Sc)(k:Nat)(ln:LO)(L:Ls):Ls:=
 if ln.J1=7/\ownOf C.p k≠x.f then{L with g:=⟨bV L.g.I7 (atL L.pos (iN C.p k)) L.g.I7.length,L.g.J3,L.g.start⟩} else L
def dI (C:Cx)(rep:Sc->List Nat->Nat->Nat->Int->Gs->Gs)(x:Sc)(inside:List Nat)(base:Int):Nat->Nat->Ls->Ls
 | 0,_,L=>L
 | n+1,k,L=>match C.p[k]? with
  | some ln=>dI C rep x inside base n (k+1) (bB C x k ln (bI C rep x inside base k ln L))
  | none=>L
def cu (C:Cx)(s:Gs):Ls:=⟨s,List.replicate C.p.length 0,List.replicate C.p.length 0,[]⟩
def kQ (p:List LO)(f:Nat):Nat:=(endAt p f).getD 0
def bq (C:Cx)(rep:Sc->List Nat->Nat->Nat->Int->Gs->Gs)(x:Sc)(inside:List Nat)(base:Int)(s:Gs):Gs×List Int:=
 let L:=dI C rep x inside base (kQ C.p x.f-x.f) (x.f+1) (cu C s)
 (L.g,L.lv)
def cK (C:Cx):Nat->Sc->List Nat->Nat->Nat->Int->Gs->Gs
 | 0=>fun _ _ _ _ _ s=>s
 | n+1=>lT C (bq C (cK C n))
def dS (C:Cx)(f:Nat):Gs:=aC C ⟨[],(localsOf C.p (f:Int)).length-C.args,false⟩ 0 (if C.J6=true then 13 else 15) C.I8 f []
def bb (C:Cx)(f:Nat):Sc:=⟨f,[],localsOf C.p (f:Int),0,true⟩
def dH (C:Cx)(f:Nat):Gs:=(bq C (cK C C.b.Mc.toNat) (bb C f) [f] C.I8 (dS C f)).1
end
end Go.Proofs.P
namespace Go.Proofs.P
open Go.Sim Tryz
theorem aH {α:Type}{l:List α}{k:Nat}{x:α}(h:l[k]?=some x):k<l.length:=by
 rcases m7 k l.length with h'|h'
 ·exact h'
 ·rw[e9 h']at h;cases h
theorem xG {l:List LO}{i j e:Nat}(hi:endAt l i=some e)(hj:endAt l j=some e):i=j:=by
 have key:∀{i j:Nat},endAt l i=some e->endAt l j=some e->i<j->False:=by intro i j hi hj My;obtain⟨x,hx,ho,_,h1,_⟩:=aN hj;obtain⟨m,hm,_,h2⟩:=jr hi My h1 hx ho;rw[hj]at hm;injection hm with hm;omega
 rcases B1 i j with h|h|h
 ·exact(key hi hj h).elim
 ·exact h
 ·exact(key hj hi h).elim
theorem nC {l:List LO}{e:Nat}:∀{n i j:Nat},elseN l e n i=some j->∀k x m,i<=k->k<j->l[k]?=some x->(x.J1=3\/x.J1=5)->endAt l k=some m->m<j
 | 0,_,_,h=>by rw[elseN]at h;cases h
 | n+1,i,j,h=>by
  intro k x m h1 h2 hx h3 hm;rw[elseN]at h;split at h
  ·split at h
   ·rename_i y hy;split at h
    ·injection h with h;omega
    ·split at h
     ·split at h
      ·rename_i m' PX;have hin:=md h;obtain⟨_,_,_,_,g1,_⟩:=aN PX;by_cases hk:k=i
       ·subst hk;rw[PX]at hm;injection hm with hm;omega
       ·by_cases MN:k<=m'
        ·by_cases YO:k=m'
         ·subst YO;obtain⟨z,hz,h7⟩:=bL PX;rw[hx]at hz;injection hz with hz;subst hz;omega
         ·obtain⟨m2,O9,_,g2⟩:=jr PX o_ o_ hx aaG;rw[hm]at O9;injection O9 with O9;omega
        ·exact nC h k x m o_ h2 hx h3 hm
      ·rename_i MQ;by_cases hk:k=i
       ·subst hk;rw[MQ]at hm
        cases hm
       ·exact nC h k x m o_ h2 hx h3 hm
     ·by_cases hk:k=i
      ·subst hk;rw[hx]at hy;injection hy with hy;subst hy;rename_i ME;exact absurd h3 ME
      ·exact nC h k x m o_ h2 hx h3 hm
   ·cases h
  ·cases h
theorem pt {l:List LO}{i j k:Nat}(hi:elseAt l i=some k)(hj:elseAt l j=some k):i=j:=by
 have key:∀{i j:Nat},elseAt l i=some k->elseAt l j=some k->i<j->False:=by
  intro i j hi hj My;obtain⟨y,ej,hy,h3,So,h4,h5,_⟩:=bt hj;unfold elseAt at hi;split at hi
  ·split at hi
   ·have:=nC hi j y ej o_ h4 hy (.inl h3) So;omega
   ·cases hi
  ·cases hi
 rcases B1 i j with h|h|h
 ·exact(key hi hj h).elim
 ·exact h
 ·exact(key hj hi h).elim
theorem rG {p:List LO}{k i:Nat}:∀{n:Nat},ownN p k n=some i->i<n/\(endAt p i=some k\/elseAt p i=some k)
 | 0,h=>by rw[ownN]at h;cases h
 | n+1,h=>by
  rw[ownN]at h;split at h
  ·injection h with h;subst h;exact⟨o_,by assumption⟩
  ·have:=rG h;exact⟨o_,this.2⟩
theorem uQ {p:List LO}{k i:Nat}(hi:endAt p i=some k\/elseAt p i=some k):∀{n:Nat},i<n->∃j,ownN p k n=some j
 | 0,h=>o_
 | n+1,h=>by
  rw[ownN];split
  ·exact⟨_,rfl⟩
  ·by_cases he:i=n
   ·subst he;exact absurd hi aaj
   ·exact uQ hi o_
theorem jZ {p:List LO}{k i:Nat}(h:endAt p i=some k):ownOf p k=i:=by
 obtain⟨x,hx,_,_,_,_⟩:=aN h;obtain⟨j,hj⟩:=uQ (.inl h) (aH hx);rw[ownOf,hj];obtain⟨_,h1|h1⟩:=rG hj
 ·exact xG h1 h
 ·obtain⟨_,_,_,_,_,_,_,y,hy,h4⟩:=bt h1;obtain⟨z,hz,h7⟩:=bL h;rw[hy]at hz;injection hz with hz;subst hz;omega
theorem vl {p:List LO}{k i:Nat}(h:elseAt p i=some k):ownOf p k=i:=by
 obtain⟨x,e,hx,_,_,_,_,y,hy,h4⟩:=bt h;obtain⟨j,hj⟩:=uQ (.inr h) (aH hx);rw[ownOf,hj];obtain⟨_,h1|h1⟩:=rG hj
 ·obtain⟨z,hz,h7⟩:=bL h1;rw[hy]at hz;injection hz with hz;subst hz;omega
 ·exact pt h1 h
theorem lz {l:List LO}{i:Nat}{x:LO}(hx:l[i]?=some x)(h7:x.J1=7):∀(n s o e:Nat),i-s<=n->s<=i->1<=o->endN (l.drop s) s o=some e->i<=e->(∃k,s<=k/\k<i/\endAt l k=some i)\/∃j,1<=j/\j<=o/\endN (l.drop s) s j=some i
 | n,s,o,e,hn,hs,ho,h,hi=>by
  have MQ:¬dL x.J1=true:=by rw[opensK_iff];omega
  by_cases he:s=i
  ·subst he;exact .inr ⟨1,d8 _,ho,by rw[dJ hx,b8 MQ,c7 h7,c7 rfl]⟩
  obtain⟨m,rfl⟩:∃m,n=m+1:=⟨n-1,o_⟩;have hl:=jg h;obtain⟨y,hy⟩:=ae (l:=l) (k:=s) o_;rw[dJ hy]at h;by_cases Mw:dL y.J1=true
  ·rw[c7 Mw]at h;rcases lz hx h7 m (s+1) (o+1) e o_ o_ o_ h hi with⟨k,h1,h2,h3⟩|⟨j,h1,h2,h3⟩
   ·exact .inl ⟨k,o_,h2,h3⟩
   ·by_cases hj:j=1
    ·subst hj;exact .inl ⟨s,d8 _,o_,by rw[pO hy Mw];exact h3⟩
    ·exact .inr ⟨j-1,o_,o_,by rw[dJ hy,c7 Mw,show j-1+1=j by omega];exact h3⟩
  ·rw[b8 Mw]at h;by_cases UW:y.J1=7
   ·rw[c7 UW]at h;by_cases Xu:o=1
    ·rw[c7 Xu]at h;injection h with h;omega
    ·rw[b8 Xu]at h;rcases lz hx h7 m (s+1) (o-1) e o_ o_ o_ h hi with⟨k,h1,h2,h3⟩|⟨j,h1,h2,h3⟩
     ·exact .inl ⟨k,o_,h2,h3⟩
     ·exact .inr ⟨j+1,o_,o_,by rw[dJ hy,b8 Mw,c7 UW,b8 o_,show j+1-1=j by omega];exact h3⟩
   ·rw[b8 UW]at h;rcases lz hx h7 m (s+1) o e o_ o_ ho h hi with⟨k,h1,h2,h3⟩|⟨j,h1,h2,h3⟩
    ·exact .inl ⟨k,o_,h2,h3⟩
    ·exact .inr ⟨j,h1,h2,by rw[dJ hy,b8 Mw,b8 UW];exact h3⟩
structure CxOk (C:Cx):Prop where
 len:C.p.length<=60
 small:aw 1048576 (.lst 4 (C.p.map LO.tr))
 line:∀(k:Nat) (ln:LO),C.p[k]?=some ln->0<=ln.J1/\ln.J1<=7/\ln.L5.length<=4/\ln.K9.length<=20/\((ln.J1=1\/ln.J1=2\/ln.J1=3\/ln.J1=5\/ln.J1=6)->br ln.K9=true)
 fn:∀(g:Nat) (ln:LO),C.p[g]?=some ln->ln.J1=0->∃e,endAt C.p g=some e/\(localsOf C.p (g:Int)).length<=8/\ln.L5.length<=(localsOf C.p (g:Int)).length/\∀(k:Nat) (y:LO),g<k->k<e->C.p[k]?=some y->y.J1≠0/\(∀t∈y.K9,t.J1=7->∃f,findN C.p 0 t.J8=some f/\(argsN C.p f:Int)=t.Mb)/\(y.J1=4->∃i,g<=i/\i<k/\elseAt C.p i=some k)
 args:0<=C.args/\C.args<=4
 I8:0<=C.I8/\C.I8<=1000
 inl:0<=C.b.Mc/\C.b.Mc<=3
structure ScOk (C:Cx) (x:Sc) (ins:List Nat):Prop where
 fn:∃ln,C.p[x.f]?=some ln/\ln.J1=0
 loc:x.J9=localsOf C.p (x.f:Int)
 first:0<=x.first/\x.first<=8*ins.length
 J0:x.J0.length+1=ins.length
 out:x.L2=true↔x.J0=[]
 args:x.L2=true->C.args=argsN C.p x.f
 mem:ins.getLast?=some x.f
section
variable {C:Cx} {x:Sc} {ins:List Nat}
theorem CxOk.argsN (h:CxOk C)(g:Nat):argsN C.p g<=4:=by
 unfold Go.Proofs.P.argsN;split
 ·rename_i l hl;have:=h.line _ _ hl;omega
 ·omega
theorem ScOk.endE (hC:CxOk C)(hx:ScOk C x ins):∃e,endAt C.p x.f=some e/\x.f<e/\e<C.p.length/\kQ C.p x.f=e/\x.J9.length<=8:=by obtain⟨ln,h1,h2⟩:=hx.fn;obtain⟨e,h3,h4,h5,_⟩:=hC.fn _ _ h1 h2;obtain⟨_,_,_,_,h6,h7⟩:=aN h3;exact⟨e,h3,h6,h7,by rw[kQ,h3];rfl,by rw[hx.loc];exact h4⟩
theorem ScOk.argLe (hC:CxOk C)(hx:ScOk C x ins):argsN C.p x.f<=x.J9.length:=by obtain⟨ln,h1,h2⟩:=hx.fn;obtain⟨e,h3,h4,h5,_⟩:=hC.fn _ _ h1 h2;rw[hx.loc,Go.Proofs.P.argsN,h1];exact h5
theorem ScOk.own7 (hC:CxOk C)(hx:ScOk C x ins){e k:Nat}{ln:LO}(he:endAt C.p x.f=some e)(h1:x.f<k)(h2:k<=e)(hk:C.p[k]?=some ln)(h7:ln.J1=7):
  endAt C.p (ownOf C.p k)=some k/\((k=e/\ownOf C.p k=x.f)\/(k<e/\x.f<ownOf C.p k/\ownOf C.p k<k/\∃y,C.p[ownOf C.p k]?=some y/\(y.J1=3\/y.J1=5))):=by
 obtain⟨l0,g1,g2⟩:=hx.fn;obtain⟨e',g3,_,_,g4⟩:=hC.fn _ _ g1 g2;rw[he]at g3;injection g3 with g3;subst g3;by_cases ND:k=e
 ·subst ND;rw[jZ he];exact⟨he,.inl ⟨rfl,rfl⟩⟩
 ·obtain⟨z,hz,hzo,X4,_,_⟩:=aN he;rcases lz hk h7 _ (x.f+1) 1 e (d8 _) o_ (d8 _) X4 h2 with⟨i,k1,k2,k3⟩|⟨j,k1,k2,k3⟩
  ·rw[jZ k3];obtain⟨y,hy,Vm,_⟩:=aN k3;have:=(g4 i y o_ o_ hy).1;rw[opensK_iff]at Vm;exact⟨k3,.inr ⟨o_,o_,k2,y,hy,o_⟩⟩
  ·have:j=1:=o_;subst this;rw[X4]at k3;injection k3 with k3;omega
theorem ScOk.own4 (hC:CxOk C)(hx:ScOk C x ins){e k:Nat}{ln:LO}(he:endAt C.p x.f=some e)(h1:x.f<k)(h2:k<=e)(hk:C.p[k]?=some ln)(h4:ln.J1=4):
  elseAt C.p (ownOf C.p k)=some k/\x.f<ownOf C.p k/\ownOf C.p k<k/\k<e:=by
 obtain⟨l0,g1,g2⟩:=hx.fn;obtain⟨e',g3,_,_,g4⟩:=hC.fn _ _ g1 g2;rw[he]at g3;injection g3 with g3;subst g3
 have ND:k≠e:=fun h=>by
  subst h;obtain⟨y,hy,h7⟩:=bL he;rw[hk]at hy;injection hy with hy;subst hy;omega
 obtain⟨i,k1,k2,k3⟩:=(g4 k ln h1 o_ hk).2.2 h4;rw[vl k3];obtain⟨y,_,hy,h3,_⟩:=bt k3
 have:i≠x.f:=fun h=>by
  subst h;rw[g1]at hy;injection hy with hy;subst hy;omega
 exact⟨k3,o_,k2,o_⟩
end
abbrev tvP (l:List LO):TV:=tvL 4 (l.map LO.tr)
abbrev vP (l:List LO):AV:= .r (.c (.t (.lst 4 (l.map LO.tr))))
theorem lX (k:Int):Sim.Spec prog 192 [tvI k] (rB (dL k)):=by
 refine ak hΓ aG func192 rfl d_ rfl ?_;unfold dL;repeat' ((conv=>whnf);first|refine Or.inl ?_|apply oi|apply fi|intro h|exact Y1|refine e_ rfl ?_)
 all_goals(refine⟨congrArg Tr.bool ?_⟩;simp_all;(try(rw[A0];simp;omega)))
abbrev KI (l:List LO)(k:Nat)(R:Int):={q:Nat×Nat//q.1<=l.length/\q.2<=q.1/\(q.2=0->q.1=k)/\cO (endN (l.drop q.1) q.1 q.2)=R}
theorem Dh {l:List LO}{k:Nat}{x:LO}(hx:l[k]?=some x)(ho:dL x.J1=true):endN (l.drop k) k 0=endAt l k:=by rw[dJ hx,c7 ho,pO hx ho]
theorem Q3{p:Prop}(h:p:=by exact⟨by dsimp only;rw[c6 _ o_];rfl⟩):p:=h
theorem cU (l:List LO)(k:Int)(hl:l.length<=1048576):Sim.Spec prog 121 [tvP l,tvI k] (rI (ct l k)):=by
 refine ak hΓ aG func121 rfl d_ rfl ?_;have Mv:(l.map LO.tr).length=l.length:=s_;by_cases hin:0<=k/\k<l.length
 ·obtain⟨h0,h1⟩:=hin;obtain⟨k,rfl⟩:=j6 h0;obtain⟨x,hx⟩:=ae (l:=l) (k:=k) o_;have hO:=lX x.J1
  skip
  cases ho:dL x.J1 with
  | false=>
   rw[ho]at hO;have:ct l (k:Int)= -1:=(by rw[cw,endAt,hx];dsimp only;rw[b8 aag];rfl);rw[this]
   repeat' ((conv=>whnf);first|refine Or.inl ?_|apply oi|apply fi|intro h|refine⟨k,x.tr,rfl,ab hx,?_⟩|refine ci hO (ai rfl trivial) ?_|exact Y2|refine e_ rfl ?_)
  | true=>
   rw[ho]at hO;obtain⟨R,hR⟩:∃R,ct l (k:Int)=R:=⟨_,rfl⟩;rw[hR];rw[cw,<-Dh hx ho]at hR;repeat' ((conv=>whnf);first|refine Or.inl ?_|apply oi|apply fi|intro h|refine⟨k,x.tr,rfl,ab hx,?_⟩|refine ci hO (ai rfl trivial) ?_|exact Y2|refine e_ rfl ?_)
   conv=>whnf
   refine⟨KI l k R,fun q=>⟨[(0,vP l),(5,tI .i64 (q.1.2:Int)),(6,tI .i64 (q.1.1:Int))],[],[]⟩,fun q=>l.length-q.1.1,⟨(k,0),g_,o_,fun _=>rfl,hR⟩,?_,?_⟩
   ·exact Z1
   intro⟨⟨i,o⟩,hi,Vc,hs,hr⟩;dsimp only at hi Vc hs hr⊢;by_cases My:i<l.length
   ·obtain⟨y,hy⟩:=ae My;have Tk:=lX y.J1;rw[dJ hy]at hr
    cases SA:dL y.J1 with
    | true=>
     rw[SA]at Tk;rw[c7 SA]at hr;have h7:y.J1≠7:=(by rw[opensK_iff]at SA;omega);repeat' ((conv=>whnf);first|refine Or.inl ?_|apply oi|apply fi|intro h|refine⟨i,y.tr,rfl,ab hy,?_⟩|refine ci Tk (ai rfl trivial) ?_|exact Y2|refine e_ rfl ?_)
     all_goals try exact Q2
     all_goals try exact K3
     conv=>whnf
     refine⟨⟨(i+1,o+1),g_,g_,fun h=>o_,hr⟩,?_,KD⟩;repeat' ((conv=>whnf);first|refine Or.inl ?_|apply oi|apply fi|intro h|exact Y3|refine e_ rfl ?_)
     all_goals exact Q3
    | false=>
     rw[SA]at Tk;rw[b8 (by simp[SA])]at hr
     have ME:o≠0:=fun h=>by
      have:=hs h;subst this;rw[hx]at hy;injection hy with hy;subst hy;rw[ho]at SA
      cases SA
     by_cases h7:y.J1=7
     ·rw[c7 h7]at hr;by_cases h1:o=1
      ·rw[c7 h1]at hr;subst hr;subst h1;repeat' ((conv=>whnf);first|refine Or.inl ?_|apply oi|apply fi|intro h|refine⟨i,y.tr,rfl,ab hy,?_⟩|refine ci Tk (ai rfl trivial) ?_|exact Y2|refine e_ rfl ?_)
       all_goals try exact Q2
      ·rw[b8 h1]at hr;repeat' ((conv=>whnf);first|refine Or.inl ?_|apply oi|apply fi|intro h|refine⟨i,y.tr,rfl,ab hy,?_⟩|refine ci Tk (ai rfl trivial) ?_|exact Y2|refine e_ rfl ?_)
       all_goals try exact Q2
       all_goals try exact K3
       conv=>whnf
       refine⟨⟨(i+1,o-1),g_,g_,fun h=>o_,hr⟩,?_,KD⟩;repeat' ((conv=>whnf);first|refine Or.inl ?_|apply oi|apply fi|intro h|exact Y3|refine e_ rfl ?_)
       all_goals exact⟨by dsimp only;congr 1;rw[c6 _ o_];omega⟩
     ·rw[b8 h7]at hr;repeat' ((conv=>whnf);first|refine Or.inl ?_|apply oi|apply fi|intro h|refine⟨i,y.tr,rfl,ab hy,?_⟩|refine ci Tk (ai rfl trivial) ?_|exact Y2|refine e_ rfl ?_)
      all_goals try exact Q2
      all_goals try exact K4
      conv=>whnf
      refine⟨⟨(i+1,o),g_,g_,fun h=>o_,hr⟩,?_,KD⟩;exact Z3
   ·rw[lp o_]at hr;subst hr;exact Z4
 ·have:ct l k= -1:=by
   rw[ct];split
   ·rw[endAt,e9 o_];rfl
   ·rfl
  rw[this];exact Z4
end Go.Proofs.P
namespace Go.Proofs.P
open Go.Sim Tryz
set_option maxRecDepth 100000
theorem IU {α:Type}{D t:List α}{r:α}{n:Nat}(h:D.length=n):(D++r::t)[n]?=some r:=by subst h;simp
theorem Jx {α:Type}{D t:List α}{r r':α}{n:Nat}(h:D.length=n):(D++r::t).set n r'=D++r'::t:=by subst h;simp
theorem iI (a:List (List Tr)):(aK a).length=a.length:=by simp[aK]
theorem jh {l:List (List Tr)}{k:Nat}{r:List Tr}(h:l[k]?=some r):(aK l)[k]?=some (r.map .d):=by simp[aK,h]
theorem qq (l:List (List Tr))(k:Nat)(r:List Tr):(aK l).set k (r.map .d)=aK (l.set k r):=by simp[aK,F6]
theorem aI {A:Prop}{Q:(ι:Type)->(ι->St)->Prop}(h:A):A\/∃(ι:Type) (S:ι->St),Q ι S:=Or.inl h
theorem mT {α:Type}{g:α->List Tr}(l:List α)(h:∀x,∀c∈g x,∀sz rs,c≠.lst sz rs):flat (l.map g):=by intro row hr c hc sz rs;obtain⟨x,_,rfl⟩:=n7.1 hr;exact h x c hc sz rs
theorem ca (l:List Int):flat (l.map aa):=mT _ (by intro x c hc sz rs e;subst e;simp[aa]at hc)
end Go.Proofs.P
namespace Go.Proofs.P
open Go.Sim Tryz
theorem kF (l:List (List UInt8)):flat (l.map ao):=mT _ (by intro x c hc sz rs e;subst e;simp[ao]at hc)
theorem Dx {l:List LO}{k:Nat}{x:LO}(hx:l[k]?=some x)(h:x.J1≠3\/endAt l k=none):elseAt l k=none:=by
 unfold elseAt;rw[hx]
 cases he:endAt l k with
 | none=>rfl
 | some e=>
  dsimp only;rw[b8];rcases h with h|h
  ·exact h
  ·rw[he]at h;cases h
theorem V44{p:Prop}(h:p:=by
 repeat' ((conv=>whnf);first|refine Or.inl ?_|apply oi|apply fi|intro h|refine ci hE (ai rfl (ai rfl trivial)) ?_|refine⟨k,x.tr,rfl,ab hx,?_⟩|exact Y2|refine e_ rfl ?_)
 all_goals try(exfalso;(try simp_all[af]);(try omega);done)):p:=h
theorem V76{p:Prop}(h:p:=by
 repeat' ((conv=>whnf);first|refine Or.inl ?_|apply oi|apply fi|intro h|refine ci hE (ai rfl (ai rfl trivial)) ?_|exact Y2|refine e_ rfl ?_)):p:=h
theorem ky (l:List LO)(k:Int)(hl:l.length<=1048576):Sim.Spec prog 173 [tvP l,tvI k] (rI (cB l k)):=by
 refine ak hΓ aG func173 rfl d_ rfl ?_;have Mv:(l.map LO.tr).length=l.length:=s_;have hE:=cU l k hl
 cases he:endAt l k.toNat with
 | none=>
  have h1:ct l k= -1:=by rw[ct,he];split<;>rfl
  have h2:cB l k= -1:=by
   rw[cB];split
   ·unfold elseAt;rw[he];cases l[k.toNat]?<;>rfl
   ·rfl
  rw[h1]at hE;rw[h2]
  repeat' ((conv=>whnf);first|refine Or.inl ?_|apply oi|apply fi|intro h|refine ci hE (ai rfl (ai rfl trivial)) ?_|exact Y2|refine e_ rfl ?_)
 | some e=>
  obtain⟨x,hx,ho,_,ND,M6⟩:=aN he;by_cases h0:0<=k
  ·obtain⟨k,rfl⟩:=j6 h0;rw[d7]at he hx ND;rw[cw,bR he]at hE;by_cases h3:x.J1=3
   ·obtain⟨R,hR⟩:∃R,cB l (k:Int)=R:=⟨_,rfl⟩;rw[hR]
    have hR:cO (elseN l e (e-(k+1)) (k+1))=R:=by rw[cB,c7 h0,d7,elseAt,hx,he]at hR;dsimp only at hR;rw[c7 h3]at hR;exact hR
    repeat' ((conv=>whnf);first|refine Or.inl ?_|apply oi|apply fi|intro h|refine ci hE (ai rfl (ai rfl trivial)) ?_|refine⟨k,x.tr,rfl,ab hx,?_⟩|exact Y2|refine e_ rfl ?_)
    all_goals try exact Q2
    conv=>whnf
    refine⟨{i:Nat//k<i/\i<=e/\cO (elseN l e (e-i) i)=R},fun q=>⟨[(0,vP l),(5,tI .i64 (e:Int)),(6,tI .i64 (q.1:Int))],[],[]⟩,fun q=>e-q.1,⟨k+1,o_,o_,hR⟩,?_,?_⟩
    ·repeat' ((conv=>whnf);first|refine Or.inl ?_|apply oi|apply fi|intro h|exact Y1|refine e_ rfl ?_)
     all_goals exact Q3
    intro⟨i,R9,hi,hr⟩;dsimp only at R9 hi hr⊢;by_cases My:i<e
    ·obtain⟨y,hy⟩:=ae (l:=l) (k:=i) o_;rw[CH My hy]at hr;have UZ:=cU l (i:Int) hl;by_cases h4:y.J1=4
     ·rw[c7 h4]at hr;subst hr;repeat' ((conv=>whnf);first|refine Or.inl ?_|apply oi|apply fi|intro h|refine ci UZ (ai rfl (ai rfl trivial)) ?_|refine⟨i,y.tr,rfl,ab hy,?_⟩|exact Y2|refine e_ rfl ?_)
      all_goals try exact Q2
     ·rw[b8 h4]at hr;by_cases h5:y.J1=3\/y.J1=5
      ·rw[c7 h5]at hr;obtain⟨m,hm,RF,O9⟩:=jr he (i:=i) R9 My hy (opensK_iff.2 o_);rw[hm]at hr;dsimp only at hr;rw[cw,bR hm]at UZ;repeat' ((conv=>whnf);first|refine Or.inl ?_|apply oi|apply fi|intro h|refine ci UZ (ai rfl (ai rfl trivial)) ?_|refine⟨i,y.tr,rfl,ab hy,?_⟩|exact Y2|refine e_ rfl ?_)
       all_goals try exact Q2
       all_goals
        conv=>whnf
        refine⟨⟨m+1,o_,o_,hr⟩,?_,KD⟩;repeat' ((conv=>whnf);first|refine Or.inl ?_|apply oi|apply fi|intro h|exact Y3|refine e_ rfl ?_)
        all_goals exact Q3
      ·rw[b8 h5]at hr;repeat' ((conv=>whnf);first|refine Or.inl ?_|apply oi|apply fi|intro h|refine ci UZ (ai rfl (ai rfl trivial)) ?_|refine⟨i,y.tr,rfl,ab hy,?_⟩|exact Y2|refine e_ rfl ?_)
       all_goals try exact Q2
       all_goals try exact Q5
       conv=>whnf
       refine⟨⟨i+1,o_,o_,hr⟩,?_,KD⟩;repeat' ((conv=>whnf);first|refine Or.inl ?_|apply oi|apply fi|intro h|exact Y3|refine e_ rfl ?_)
       all_goals exact Q3
    ·rw[Gj o_]at hr;subst hr;exact Z4
   ·have h2:cB l (k:Int)= -1:=by rw[cB,c7 h0,d7,Dx hx (.inl h3)];rfl
    rw[h2];exact V44
  ·have h1:ct l k= -1:=(by rw[ct,b8 h0]);have h2:cB l k= -1:=(by rw[cB,b8 h0]);rw[h1]at hE;rw[h2];exact V76
theorem Q15{p:Prop}(h:p:=by exact⟨⟨by simp;omega,by simp;omega⟩⟩):p:=h
theorem cG (l:List LO)(hl:l.length<=1048576):Sim.Spec prog 62 [tvP l] (rL 1 ((ay l).map fun n:Nat=>aa n)):=by
 refine ak hΓ aG func62 rfl d_ rfl ?_;have Mv:(l.map LO.tr).length=l.length:=s_;obtain⟨R,hR⟩:∃R,ay l=R:=⟨_,rfl⟩;rw[hR];repeat' ((conv=>whnf);first|refine Or.inl ?_|apply oi|apply fi|intro h|exact Y1|refine e_ rfl ?_)
 conv=>whnf
 refine⟨{q:Nat×List Nat//q.1<=l.length/\q.2.length<=q.1/\q.2++funsF (l.drop q.1) q.1=R},fun q=>⟨[(0,vP l),(3,.r (.c (.own (5,0,0)))),(4,tI .i64 (q.1.1:Int))],[((5,0,0),some (.arr true 1 (q.1.2.map fun n:Nat=>aa n)))],[5]⟩,fun q=>l.length-q.1.1,⟨(0,[]),s_,s_,by simpa [ay]using hR⟩,?_,?_⟩
 ·exact Z1
 intro⟨⟨k,acc⟩,hk,M4,hr⟩;dsimp only at hk M4 hr⊢;have Zy:(acc.map fun n:Nat=>aa n).length=acc.length:=s_;by_cases My:k<l.length
 ·obtain⟨x,hx⟩:=ae My;rw[AK hx]at hr;by_cases h0:x.J1=0
  ·rw[c7 h0]at hr;repeat' ((conv=>whnf);first|refine Or.inl ?_|apply oi|apply fi|intro h|refine⟨k,x.tr,rfl,ab hx,?_⟩|exact Y2|refine e_ rfl ?_)
   all_goals try exact Q2
   all_goals try exact Q15
   conv=>whnf
   refine⟨⟨(k+1,acc++[k]),g_,by simp;omega,by rw[<-hr];simp⟩,?_,KD⟩;repeat' ((conv=>whnf);first|refine Or.inl ?_|apply oi|apply fi|intro h|exact Y3|refine e_ rfl ?_)
   all_goals exact⟨by simp[aa]⟩
  ·rw[b8 h0,t6]at hr;repeat' ((conv=>whnf);first|refine Or.inl ?_|apply oi|apply fi|intro h|refine⟨k,x.tr,rfl,ab hx,?_⟩|exact Y2|refine e_ rfl ?_)
   all_goals try exact Q2
   conv=>whnf
   refine⟨⟨(k+1,acc),g_,g_,hr⟩,?_,KD⟩;exact Z3
 ·rw[n9 o_,funsF,m6]at hr;subst hr;exact Z4
theorem dK (l:List LO)(s:List UInt8)(hl:l.length<=1048576):Sim.Spec prog 120 [tvP l,tvS s] (rI (lQ l s)):=by
 refine ak hΓ aG func120 rfl d_ rfl ?_;have Mv:(l.map LO.tr).length=l.length:=s_;obtain⟨R,hR⟩:∃R,lQ l s=R:=⟨_,rfl⟩;rw[hR];repeat' ((conv=>whnf);first|refine Or.inl ?_|apply oi|apply fi|intro h|exact Y1|refine e_ rfl ?_)
 conv=>whnf
 refine⟨{k:Nat//k<=l.length/\cO (findN (l.drop k) k s)=R},fun q=>⟨[(0,vP l),(1,tS s),(5,tI .i64 (q.1:Int))],[],[]⟩,fun q=>l.length-q.1,⟨0,o_,hR⟩,?_,?_⟩
 ·exact Z1
 intro⟨k,hk,hr⟩;dsimp only at hk hr⊢;by_cases My:k<l.length
 ·obtain⟨x,hx⟩:=ae My;rw[HX hx]at hr;by_cases h0:x.J1=0/\x.J8=s
  ·rw[c7 h0]at hr;obtain⟨h1,h2⟩:=h0;subst h2;exact V51
  ·rw[b8 h0]at hr;repeat' ((conv=>whnf);first|refine Or.inl ?_|apply oi|apply fi|intro h|refine⟨k,x.tr,rfl,ab hx,?_⟩|exact Y2|refine e_ rfl ?_)
   all_goals try(exfalso;apply h0;simp_all;done)
   all_goals
    conv=>whnf
    refine⟨⟨k+1,o_,hr⟩,?_,KD⟩;exact Z3
 ·rw[n9 o_,findN]at hr;subst hr;exact Z4
abbrev rN (l:List (List UInt8)):Res:=rL 1 (l.map ao)
theorem AW {l:List LO}{k e:Nat}{x:LO}(hx:l[k]?=some x)(he:endAt l k=some e)(h0:x.J1=0):localsOf l (k:Int)=locN l e (e-k) k x.L5:=by rw[localsOf,c7 o_,d7,hx,he];dsimp only;rw[c7 h0]
theorem po {l:List LO}{k:Int}(h:∀e x,endAt l k.toNat=some e->l[k.toNat]?=some x->0<=k->x.J1≠0):localsOf l k=[]:=by
 rw[localsOf];split
 ·split
  ·rename_i x e hx he;rw[b8 (h e x he hx aaj)]
  ·rfl
 ·rfl
theorem Fx {l:List LO}{k:Int}(hl:l.length<=1048576)(hs:∀x∈l,aF 1048576 x.tr):(localsOf l k).length<=2097152/\True:=by
 refine⟨?_,trivial⟩;rw[localsOf];split
 ·split
  ·rename_i x e hx he;obtain⟨_,_,_,_,h1,h2⟩:=aN he;have:=(fO (hs x (c9 hx))).2.1;split
   ·have:=AJ (l:=l) (e:=e) (e-k.toNat) k.toNat x.L5;omega
   ·simp
  ·simp
 ·simp
theorem fH (l:List (List UInt8))(s:List UInt8)(hl:l.length<=2097152):Sim.Spec prog 176 [tvL 1 (l.map ao),tvS s] (rI (dG l s)):=by
 refine ak hΓ aG func176 rfl d_ rfl ?_;have Mv:(l.map ao).length=l.length:=s_;obtain⟨R,hR⟩:∃R,dG l s=R:=⟨_,rfl⟩;rw[hR];repeat' ((conv=>whnf);first|refine Or.inl ?_|apply oi|apply fi|intro h|exact Y1|refine e_ rfl ?_)
 conv=>whnf
 refine⟨{k:Nat//k<=l.length/\cO (iF (l.drop k) k s)=R},fun k=>⟨[(0,.r (.c (.t (.lst 1 (l.map ao))))),(1,tS s),(5,tI .i64 (k.1:Int))],[],[]⟩,fun k=>l.length-k.1,⟨0,o_,hR⟩,?_,?_⟩
 ·exact Z1
 intro⟨k,hk,hr⟩;dsimp only at hk hr⊢;by_cases My:k<l.length
 ·obtain⟨x,hx⟩:=ae My;rw[Jn hx]at hr
  cases he:(x==s)with
  | true=>
   rw[he,c7 rfl]at hr;have Oy:=B7 he;subst Oy;subst hr;repeat' ((conv=>whnf);first|refine Or.inl ?_|apply oi|apply fi|intro h|refine⟨k,(ao x),rfl,ab hx,?_⟩|exact Y2|refine e_ rfl ?_)
   all_goals try exact Q2
  | false=>
   rw[he,b8 s_]at hr;repeat' ((conv=>whnf);first|refine Or.inl ?_|apply oi|apply fi|intro h|refine⟨k,(ao x),rfl,ab hx,?_⟩|exact Y2|refine e_ rfl ?_)
   all_goals try exact Q2
   conv=>whnf
   refine⟨⟨k+1,o_,hr⟩,?_,KD⟩;exact Z3
 ·rw[n9 o_,iF]at hr;subst hr;exact Z4
theorem iS (l:List LO)(k:Int)(hl:l.length<=1048576)(hs:∀x∈l,aF 1048576 x.tr):Sim.Spec prog 172 [tvP l,tvI k] (rN (localsOf l k)):=by
 refine ak hΓ aG func172 rfl d_ rfl ?_;have Mv:(l.map LO.tr).length=l.length:=s_;have hE:=cU l k hl;by_cases h0:0<=k
 ·obtain⟨k,rfl⟩:=j6 h0;rw[cw]at hE
  cases he:endAt l k with
  | none=>
   rw[rt he]at hE;rw[po (fun e x h1 _ _=>by rw[d7,he]at h1;cases h1)]
   exact V76
  | some e=>
   rw[bR he]at hE;obtain⟨x,hx,ho,_,ND,M6⟩:=aN he;by_cases N1:x.J1=0
   ·have QC:=fO (hs x (c9 hx));rw[AW hx he N1];obtain⟨R,hR⟩:∃R,locN l e (e-k) k x.L5=R:=⟨_,rfl⟩;rw[hR];have M4:(x.L5.map ao).length=x.L5.length:=s_;repeat' ((conv=>whnf);first|refine Or.inl ?_|apply oi|apply fi|intro h|refine ci hE (ai rfl (ai rfl trivial)) ?_|refine⟨k,x.tr,rfl,ab hx,?_⟩|exact Y2|refine e_ rfl ?_)
    all_goals try exact Q2
    all_goals try exact Q15
    conv=>whnf
    refine⟨{q:Nat×List (List UInt8)//k<=q.1/\q.1<=e/\q.2.length<=1048576+q.1/\locN l e (e-q.1) q.1 q.2=R},fun q=>⟨[(0,vP l),(5,tI .i64 (e:Int)),(6,.r (.c (.own (6,0,0)))),(7,tI .i64 (q.1.1:Int))],[((6,0,0),some (.arr false 1 (q.1.2.map ao)))],[6]⟩,fun q=>e-q.1.1,⟨(k,x.L5),g_,g_,g_,hR⟩,?_,?_⟩
    ·repeat' ((conv=>whnf);first|refine Or.inl ?_|apply oi|apply fi|intro h|exact Y1|refine e_ rfl ?_)
     all_goals exact⟨s_⟩
    intro⟨⟨i,acc⟩,R9,hi,X1,hr⟩;dsimp only at R9 hi X1 hr⊢;have NV:(acc.map ao).length=acc.length:=s_;by_cases My:i<e
    ·obtain⟨y,hy⟩:=ae (l:=l) (k:=i) o_;rw[Fc My hy]at hr;have hC:=fH acc y.J8 o_;by_cases h1:y.J1=1
     ·rw[c7 h1]at hr;have OK:=xN (l:=acc) (s:=y.J8)
      generalize dG acc y.J8=ix at *
      unfold gj at hr
      cases hc:acc.contains y.J8 with
      | true=>
       rw[hc]at OK hr;rw[c7 rfl]at hr;repeat' ((conv=>whnf);first|refine Or.inl ?_|apply oi|apply fi|intro h|refine ci hC (ai rfl (ai rfl trivial)) ?_|refine⟨i,y.tr,rfl,ab hy,?_⟩|exact Y2|refine e_ rfl ?_)
       all_goals try exact Q2
       all_goals
        conv=>whnf
        refine⟨⟨(i+1,acc),g_,g_,g_,hr⟩,?_,KD⟩
        exact Z3
      | false=>
       rw[hc]at OK hr;rw[b8 s_]at hr;repeat' ((conv=>whnf);first|refine Or.inl ?_|apply oi|apply fi|intro h|refine ci hC (ai rfl (ai rfl trivial)) ?_|refine⟨i,y.tr,rfl,ab hy,?_⟩|exact Y2|refine e_ rfl ?_)
       all_goals try exact Q2
       all_goals try exact Q15
       all_goals
        conv=>whnf
        refine⟨⟨(i+1,acc++[y.J8]),g_,g_,by simp;omega,hr⟩,?_,KD⟩;repeat' ((conv=>whnf);first|refine Or.inl ?_|apply oi|apply fi|intro h|exact Y3|refine e_ rfl ?_)
        all_goals exact⟨by simp[ao]⟩
     ·rw[b8 h1]at hr;repeat' ((conv=>whnf);first|refine Or.inl ?_|apply oi|apply fi|intro h|refine ci hC (ai rfl (ai rfl trivial)) ?_|refine⟨i,y.tr,rfl,ab hy,?_⟩|exact Y2|refine e_ rfl ?_)
      all_goals try exact Q2
      all_goals try exact Q5
      conv=>whnf
      refine⟨⟨(i+1,acc),g_,g_,g_,hr⟩,?_,KD⟩;exact Z3
    ·rw[HM o_]at hr;subst hr;repeat' ((conv=>whnf);first|refine Or.inl ?_|apply oi|apply fi|intro h|exact Y2|refine e_ rfl ?_)
     all_goals exact⟨⟨rfl,kF _⟩⟩
   ·rw[po (fun e x' h1 h2 _=>by rw[d7,hx]at h2;injection h2 with h2;subst h2;exact N1)];exact V44
 ·have h1:ct l k= -1:=by rw[ct,b8 h0]
  rw[h1]at hE;rw[po (fun e x _ _ h=>absurd h h0)];exact V76
abbrev vN (l:List (List UInt8)):AV:= .r (.c (.t (.lst 1 (l.map ao))))
theorem Kz {α:Type}{f:α->Bool}{l:List α}{k:Nat}{x:α}(hx:l[k]?=some x):(l.drop k).all f=(f x&&(l.drop (k+1)).all f):=by rw[cF hx,E7]
abbrev nR (n:Nat):List Tr:=aa n
theorem Gb {l:List LO}{x:LO}(hx:l[0]?=some x):headOk l=(x.J1==0&&(x.J8==kP&&x.L5.length==0)):=by
 cases l with
 | nil=>cases hx
 | cons y r=>rw[e8]at hx;injection hx with hx;subst hx;rfl
end Go.Proofs.P
