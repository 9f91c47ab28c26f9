import Derived.Test.YtoglejgmjeojoaaGd
import Derived.Test.YtoglejgmjeojoaaRows
namespace Go.Sim
theorem K1 {p:Prop}(h:False:=by simp at *;omega):p:=h.elim
theorem K2 {p:Prop}(h:p:=by dsimp only;rw[c9 _ (by omega)];rfl):p:=h
theorem K3 {p:Prop}(h:False:=by simp(disch:=omega)only[c9]at *;simp only[w8]at *;omega):p:=h.elim
theorem K4 {p:Prop}(h:False:=by simp only[w8]at *;omega):p:=h.elim
theorem K5 {p:Prop}(h:p:=by rw[c9 _ (by omega)];rfl):p:=h
theorem K6 {p:Prop}(h:p:=by rw[c9 _ (by omega)];omega):p:=h
theorem K7 {k:IntKind}{a b:Int}(h:a=b:=by dsimp only;rw[c9 _ (by omega)];omega):Tr.int k a=Tr.int k b:=congrArg (Tr.int k) h
theorem KD {p:Prop}(h:p:=by dsimp only;omega):p:=h
theorem Y1{p:Prop}(h:p:=by first|rfl|exact⟨KO⟩):p:=h
theorem Y2{p:Prop}(h:p:=by first|rfl|exact⟨KO⟩|exact KX):p:=h
theorem Y3{p:Prop}(h:p:=by first|rfl|exact⟨KO⟩|exact KX|exact K1):p:=h
theorem Y4{p:Prop}(h:p:=by first|rfl|exact⟨KO⟩|exact⟨K2⟩):p:=h
theorem Y5{p:Prop}(h:p:=by first|rfl|exact⟨KP⟩|exact KX):p:=h
theorem Y6{p:Prop}(h:p:=by first|rfl|exact⟨KP⟩|exact⟨K2⟩):p:=h
theorem Y7{p:Prop}(h:p:=by first|rfl|exact⟨KP⟩):p:=h
theorem Y8{p:Prop}(h:p:=by first|rfl|exact⟨KP⟩|exact⟨KW⟩):p:=h
theorem Y9{p:Prop}(h:p:=by first|rfl|exact⟨KP⟩|exact KX|exact⟨KW⟩|exact KK):p:=h
theorem Y10{p:Prop}(h:p:=by first|rfl|exact⟨KP⟩|exact KX|exact KK):p:=h
theorem Y11{p:Prop}(h:p:=by first|rfl|exact⟨KP⟩|exact KX|exact⟨KW⟩):p:=h
theorem Y12{p:Prop}(h:p:=by first|rfl|exact⟨KO⟩|exact KX|exact⟨K6⟩):p:=h
theorem Y13{p:Prop}(h:p:=by first|rfl|exact⟨KP⟩|exact KK):p:=h
theorem Y14{p:Prop}(h:p:=by first|rfl|exact⟨KP⟩|exact⟨K7⟩):p:=h
theorem Y15{p:Prop}(h:p:=by first|rfl|exact⟨KO⟩|exact K1):p:=h
theorem Y16{p:Prop}(h:p:=by first|rfl|exact⟨KR⟩):p:=h
theorem Z1{p:Prop}(h:p:=by(repeat' ((conv=>whnf);first|apply Wx|apply W6|apply oi|apply fi|intro h|refine⟨_,rfl,?_⟩|exact Y7|fail));skip):p:=h
theorem Z2{p:Prop}(h:p:=by(repeat' ((conv=>whnf);first|refine Or.inl ?_|apply oi|apply fi|intro h|refine⟨_,rfl,?_⟩|exact Y1|fail));skip):p:=h
theorem Z3{p:Prop}(h:p:=by(repeat' ((conv=>whnf);first|refine Or.inl ?_|apply oi|apply fi|intro h|refine⟨_,rfl,?_⟩|exact Y2|fail));skip):p:=h
theorem Z4{p:Prop}(h:p:=by(repeat' ((conv=>whnf);first|apply Wx|apply W6|apply oi|apply fi|intro h|refine⟨_,rfl,?_⟩|exact Y6|fail));skip):p:=h
theorem Z5{p:Prop}(h:p:=by(repeat' ((conv=>whnf);first|apply Wx|apply W6|apply oi|apply fi|intro h|refine⟨_,rfl,?_⟩|exact Y5|fail));skip):p:=h
theorem Z6{p:Prop}(h:p:=by(repeat' ((conv=>whnf);first|refine Or.inl ?_|apply oi|apply fi|intro h|refine⟨_,rfl,?_⟩|exact Y4|fail));skip):p:=h
theorem Z7{p:Prop}(h:p:=by(repeat' ((conv=>whnf);first|apply Wx|apply W6|apply oi|apply fi|intro h|refine⟨_,rfl,?_⟩|exact Y8|fail));skip):p:=h
end Go.Sim
namespace Go.Proofs.Ytoglejgmjeojoaa
open Go.Sim
abbrev e0 := AC.t (Tr.int Go.IntKind.i64 (Int.ofNat 0))
abbrev e1 := AC.t (Tr.bool false)
abbrev e2 := AC.t (Tr.str [])
abbrev e3 := AC.nils 0
abbrev e4 (s b : Nat) (z : List AC) : NT := {size:=s,bytes:=b,agg:=true,zero:=z}
abbrev e5 (s b : Nat) (z : List AC) : NT := {size:=s,bytes:=b,agg:=false,zero:=z}
def Γ:Env:=[
 (1,e5 1 8 [AC.opq]),
 (2,{size:=1,bytes:=8,agg:=false,zero:=[e0],kind:=some Go.IntKind.i64}),
 (3,{size:=1,bytes:=8,agg:=false,zero:=[e0],kind:=some Go.IntKind.i64}),
 (4,{size:=1,bytes:=1,agg:=false,zero:=[e1],bool:=true}),
 (5,{size:=1,bytes:=1,agg:=false,zero:=[AC.t (Tr.int Go.IntKind.u8 (Int.ofNat 0))],kind:=some Go.IntKind.u8}),
 (6,{size:=1,bytes:=1,agg:=false,zero:=[AC.t (Tr.int Go.IntKind.u8 (Int.ofNat 0))],kind:=some Go.IntKind.u8}),
 (7,{size:=4,bytes:=24,agg:=true,zero:=[e0,e0,e1,AC.t (Tr.int Go.IntKind.u8 (Int.ofNat 0))],fields:=[(0,1,2),(1,1,3),(2,1,4),(3,1,6)]}),
 (8,{size:=4,bytes:=24,agg:=true,zero:=[e0,e0,e1,AC.t (Tr.int Go.IntKind.u8 (Int.ofNat 0))],fields:=[(0,1,2),(1,1,3),(2,1,4),(3,1,6)]}),
 (9,{size:=1,bytes:=16,agg:=false,zero:=[e2],str:=true}),
 (10,{size:=1,bytes:=16,agg:=false,zero:=[e2],str:=true}),
 (11,{size:=1,bytes:=16,agg:=false,zero:=[e2],str:=true}),
 (12,{size:=1,bytes:=8,agg:=false,zero:=[AC.t (Tr.int Go.IntKind.u64 (Int.ofNat 0))],kind:=some Go.IntKind.u64}),
 (13,{size:=2,bytes:=24,agg:=true,zero:=[e2,AC.t (Tr.int Go.IntKind.u64 (Int.ofNat 0))],fields:=[(0,1,9),(1,1,12)]}),
 (14,{size:=2,bytes:=24,agg:=true,zero:=[e2,AC.t (Tr.int Go.IntKind.u64 (Int.ofNat 0))],fields:=[(0,1,9),(1,1,12)]}),
 (15,e5 1 8 [AC.nilp]),
 (16,e5 1 8 [AC.nilp]),
 (17,e5 1 8 [AC.nilp]),
 (18,{size:=1,bytes:=8,agg:=true,zero:=[AC.nilp],fields:=[(0,1,17)]}),
 (19,{size:=1,bytes:=8,agg:=true,zero:=[AC.nilp],fields:=[(0,1,17)]}),
 (20,e5 1 16 [AC.opq]),
 (21,{size:=1,bytes:=4,agg:=false,zero:=[AC.t (Tr.int Go.IntKind.i32 (Int.ofNat 0))],kind:=some Go.IntKind.i32}),
 (22,{size:=1,bytes:=24,agg:=false,zero:=[e3],elem:=some 5}),
 (23,e5 1 8 [AC.opq]),
 (24,{size:=1,bytes:=24,agg:=false,zero:=[e3],elem:=some 68}),
 (25,{size:=4,bytes:=24,agg:=true,zero:=[e0,e0,e1,e1],fields:=[(0,1,3),(1,1,3),(2,1,4),(3,1,4)]}),
 (26,{size:=4,bytes:=24,agg:=true,zero:=[e0,e0,e1,e1],fields:=[(0,1,3),(1,1,3),(2,1,4),(3,1,4)]}),
 (27,{size:=1,bytes:=24,agg:=false,zero:=[e3],elem:=some 82}),
 (28,{size:=1,bytes:=24,agg:=false,zero:=[e3],elem:=some 3}),
 (29,{size:=3,bytes:=72,agg:=true,zero:=[e3,e3,e3],fields:=[(0,1,27),(1,1,28),(2,1,28)]}),
 (30,{size:=3,bytes:=72,agg:=true,zero:=[e3,e3,e3],fields:=[(0,1,27),(1,1,28),(2,1,28)]}),
 (32,e5 1 8 [AC.opq]),
 (33,{size:=1,bytes:=24,agg:=false,zero:=[e3],elem:=some 28}),
 (34,{size:=4,bytes:=64,agg:=true,zero:=[e3,e3,e0,e0],fields:=[(0,1,28),(1,1,33),(2,1,3),(3,1,3)]}),
 (35,{size:=4,bytes:=64,agg:=true,zero:=[e3,e3,e0,e0],fields:=[(0,1,28),(1,1,33),(2,1,3),(3,1,3)]}),
 (36,e5 1 8 [AC.opq]),
 (37,{size:=7,bytes:=88,agg:=true,zero:=[e0,e0,e0,e3,e3,e0,e0],fields:=[(0,1,3),(1,1,3),(2,1,3),(3,1,28),(4,1,28),(5,1,3),(6,1,3)]}),
 (38,{size:=7,bytes:=88,agg:=true,zero:=[e0,e0,e0,e3,e3,e0,e0],fields:=[(0,1,3),(1,1,3),(2,1,3),(3,1,28),(4,1,28),(5,1,3),(6,1,3)]}),
 (40,e5 1 8 [AC.opq]),
 (42,e5 1 8 [AC.opq]),
 (43,e5 1 8 [AC.opq]),
 (44,e5 1 8 [AC.opq]),
 (45,e5 1 8 [AC.opq]),
 (46,e5 1 8 [AC.nilp]),
 (47,e5 1 8 [AC.opq]),
 (48,e5 1 8 [AC.opq]),
 (49,e5 1 8 [AC.opq]),
 (50,e5 1 8 [AC.nilp]),
 (51,{size:=7,bytes:=120,agg:=true,zero:=[e3,e0,e3,e3,e0,e0,e3],fields:=[(0,1,24),(1,1,3),(2,4,35),(6,1,28)]}),
 (52,{size:=7,bytes:=120,agg:=true,zero:=[e3,e0,e3,e3,e0,e0,e3],fields:=[(0,1,24),(1,1,3),(2,4,35),(6,1,28)]}),
 (53,e5 1 8 [AC.opq]),
 (54,e5 1 8 [AC.opq]),
 (55,e5 1 8 [AC.opq]),
 (56,e5 1 8 [AC.opq]),
 (57,e5 1 8 [AC.opq]),
 (58,e5 1 8 [AC.opq]),
 (60,e5 1 8 [AC.opq]),
 (61,e5 1 8 [AC.opq]),
 (62,e5 1 8 [AC.opq]),
 (63,{size:=3,bytes:=40,agg:=true,zero:=[e3,e0,e0],fields:=[(0,1,22),(1,1,3),(2,1,3)]}),
 (64,{size:=3,bytes:=40,agg:=true,zero:=[e3,e0,e0],fields:=[(0,1,22),(1,1,3),(2,1,3)]}),
 (65,{size:=1,bytes:=24,agg:=false,zero:=[e3],elem:=some 9}),
 (66,{size:=1,bytes:=24,agg:=false,zero:=[e3],elem:=some 95}),
 (67,{size:=4,bytes:=72,agg:=true,zero:=[e0,e2,e3,e3],fields:=[(0,1,3),(1,1,9),(2,1,65),(3,1,66)]}),
 (68,{size:=4,bytes:=72,agg:=true,zero:=[e0,e2,e3,e3],fields:=[(0,1,3),(1,1,9),(2,1,65),(3,1,66)]}),
 (69,e5 1 8 [AC.opq]),
 (70,e5 1 8 [AC.opq]),
 (71,e5 1 8 [AC.opq]),
 (72,e5 1 8 [AC.opq]),
 (73,e5 1 8 [AC.opq]),
 (74,e5 1 8 [AC.opq]),
 (75,e5 1 8 [AC.opq]),
 (77,e5 1 8 [AC.opq]),
 (78,e5 1 8 [AC.opq]),
 (79,e5 1 8 [AC.opq]),
 (80,{size:=1,bytes:=24,agg:=false,zero:=[e3],elem:=some 100}),
 (81,{size:=2,bytes:=40,agg:=true,zero:=[e2,e3],fields:=[(0,1,9),(1,1,80)]}),
 (82,{size:=2,bytes:=40,agg:=true,zero:=[e2,e3],fields:=[(0,1,9),(1,1,80)]}),
 (83,e5 1 8 [AC.opq]),
 (84,e5 1 8 [AC.opq]),
 (85,{size:=2,bytes:=16,agg:=true,zero:=[e0,e0],fields:=[(0,1,3),(1,1,3)]}),
 (86,{size:=2,bytes:=16,agg:=true,zero:=[e0,e0],fields:=[(0,1,3),(1,1,3)]}),
 (88,e5 1 8 [AC.opq]),
 (89,e5 1 8 [AC.nilp]),
 (90,e5 1 8 [AC.nilp]),
 (91,{size:=2,bytes:=16,agg:=true,zero:=[AC.nilp,e1],fields:=[(0,1,90),(1,1,4)]}),
 (92,{size:=2,bytes:=16,agg:=true,zero:=[AC.nilp,e1],fields:=[(0,1,90),(1,1,4)]}),
 (93,e5 1 8 [AC.opq]),
 (94,{size:=3,bytes:=32,agg:=true,zero:=[e0,e0,e2],fields:=[(0,1,3),(1,1,3),(2,1,9)]}),
 (95,{size:=3,bytes:=32,agg:=true,zero:=[e0,e0,e2],fields:=[(0,1,3),(1,1,3),(2,1,9)]}),
 (96,e5 1 8 [AC.opq]),
 (97,e5 1 8 [AC.opq]),
 (98,e5 1 8 [AC.opq]),
 (99,{size:=3,bytes:=32,agg:=true,zero:=[e2,e0,e0],fields:=[(0,1,9),(1,1,3),(2,1,3)]}),
 (100,{size:=3,bytes:=32,agg:=true,zero:=[e2,e0,e0],fields:=[(0,1,9),(1,1,3),(2,1,3)]}),
 (101,e5 1 8 [AC.opq]),
 (102,e5 1 8 [AC.opq]),
 (103,e5 1 8 [AC.opq]),
 (104,e5 1 8 [AC.opq]),
 (105,e5 1 8 [AC.opq]),
 (106,{size:=1,bytes:=24,agg:=false,zero:=[e3],elem:=some 86}),
 (108,e5 1 8 [AC.opq]),
 (109,e5 1 8 [AC.opq]),
 (111,e5 1 8 [AC.opq]),
 (112,e5 1 8 [AC.opq]),
 (113,e5 1 8 [AC.opq]),
 (114,e5 1 8 [AC.nilp]),
 (115,{size:=4,bytes:=80,agg:=true,zero:=[AC.nilp,e3,e3,e3],fields:=[(0,1,46),(1,1,65),(2,1,65),(3,1,28)]}),
 (116,{size:=4,bytes:=80,agg:=true,zero:=[AC.nilp,e3,e3,e3],fields:=[(0,1,46),(1,1,65),(2,1,65),(3,1,28)]}),
 (117,e5 1 8 [AC.opq]),
 (118,e5 1 8 [AC.opq]),
 (119,{size:=1,bytes:=24,agg:=false,zero:=[e3],elem:=some 124}),
 (120,e5 1 8 [AC.opq]),
 (121,{size:=7,bytes:=72,agg:=true,zero:=[e0,e0,e0,e1,e3,e0,e1],fields:=[(0,2,86),(2,1,3),(3,1,4),(4,1,28),(5,1,3),(6,1,4)]}),
 (122,{size:=7,bytes:=72,agg:=true,zero:=[e0,e0,e0,e1,e3,e0,e1],fields:=[(0,2,86),(2,1,3),(3,1,4),(4,1,28),(5,1,3),(6,1,4)]}),
 (123,{size:=8,bytes:=80,agg:=true,zero:=[e0,e0,e0,e0,e1,e3,e0,e1],fields:=[(0,1,3),(1,7,122)]}),
 (124,{size:=8,bytes:=80,agg:=true,zero:=[e0,e0,e0,e0,e1,e3,e0,e1],fields:=[(0,1,3),(1,7,122)]}),
 (125,e5 1 8 [AC.opq]),
 (126,e5 1 8 [AC.opq]),
 (127,{size:=1,bytes:=8,agg:=false,zero:=[AC.t (Tr.int Go.IntKind.u64 (Int.ofNat 0))],kind:=some Go.IntKind.u64}),
 (128,e5 1 8 [AC.opq]),
 (129,e5 1 8 [AC.opq]),
 (130,e5 1 8 [AC.opq]),
 (131,e5 1 8 [AC.opq]),
 (132,{size:=1,bytes:=24,agg:=false,zero:=[e3],elem:=some 122}),
 (133,e5 1 8 [AC.opq]),
 (134,e5 1 8 [AC.opq]),
 (135,{size:=1,bytes:=4,agg:=false,zero:=[AC.t (Tr.int Go.IntKind.u32 (Int.ofNat 0))],kind:=some Go.IntKind.u32}),
 (136,e5 1 8 [AC.opq]),
 (138,e5 1 8 [AC.opq]),
 (139,e5 1 8 [AC.opq]),
 (140,e5 1 8 [AC.nilp]),
 (141,{size:=1,bytes:=24,agg:=false,zero:=[e3],elem:=some 145}),
 (142,{size:=13,bytes:=144,agg:=true,zero:=[e3,e0,e0,e1,e1,e1,e0,e0,e0,e0,e3,e3,e1],fields:=[(0,1,24),(1,4,26),(5,1,4),(6,1,3),(7,1,3),(8,1,3),(9,1,3),(10,1,132),(11,1,141),(12,1,4)]}),
 (143,{size:=13,bytes:=144,agg:=true,zero:=[e3,e0,e0,e1,e1,e1,e0,e0,e0,e0,e3,e3,e1],fields:=[(0,1,24),(1,4,26),(5,1,4),(6,1,3),(7,1,3),(8,1,3),(9,1,3),(10,1,132),(11,1,141),(12,1,4)]}),
 (144,{size:=6,bytes:=96,agg:=true,zero:=[e0,e3,e3,e0,e1,e3],fields:=[(0,1,3),(1,1,28),(2,1,65),(3,1,3),(4,1,4),(5,1,28)]}),
 (145,{size:=6,bytes:=96,agg:=true,zero:=[e0,e3,e3,e0,e1,e3],fields:=[(0,1,3),(1,1,28),(2,1,65),(3,1,3),(4,1,4),(5,1,28)]}),
 (146,e5 1 8 [AC.opq]),
 (147,e5 1 8 [AC.opq]),
 (148,e5 1 8 [AC.opq]),
 (149,{size:=1,bytes:=24,agg:=false,zero:=[e3],elem:=some 152}),
 (150,e5 1 8 [AC.opq]),
 (151,{size:=2,bytes:=16,agg:=true,zero:=[e0,e0],fields:=[(0,1,3),(1,1,3)]}),
 (152,{size:=2,bytes:=16,agg:=true,zero:=[e0,e0],fields:=[(0,1,3),(1,1,3)]}),
 (153,e5 1 8 [AC.opq]),
 (154,e5 1 8 [AC.opq]),
 (155,e5 1 8 [AC.opq]),
 (156,e5 1 8 [AC.opq]),
 (157,e5 1 8 [AC.opq]),
 (158,e5 1 8 [AC.nilp]),
 (159,e5 1 8 [AC.opq]),
 (160,e5 1 8 [AC.opq]),
 (161,e5 1 8 [AC.opq]),
 (162,e5 1 8 [AC.opq]),
 (163,{size:=4,bytes:=40,agg:=true,zero:=[AC.nilp,AC.nilp,AC.nilp,e2],fields:=[(0,1,17),(1,1,17),(2,1,17),(3,1,9)]}),
 (164,{size:=4,bytes:=40,agg:=true,zero:=[AC.nilp,AC.nilp,AC.nilp,e2],fields:=[(0,1,17),(1,1,17),(2,1,17),(3,1,9)]}),
 (168,{size:=1,bytes:=1,agg:=false,zero:=[AC.t (Tr.int Go.IntKind.u8 (Int.ofNat 0))],kind:=some Go.IntKind.u8}),
 (169,{size:=1,bytes:=1,agg:=false,zero:=[AC.t (Tr.int Go.IntKind.u8 (Int.ofNat 0))],kind:=some Go.IntKind.u8}),
 (170,e5 1 8 [AC.opq]),
 (171,e5 1 8 [AC.nilp]),
 (172,{size:=1,bytes:=4,agg:=false,zero:=[AC.t (Tr.int Go.IntKind.i32 (Int.ofNat 0))],kind:=some Go.IntKind.i32}),
 (173,{size:=1,bytes:=4,agg:=false,zero:=[AC.t (Tr.int Go.IntKind.i32 (Int.ofNat 0))],kind:=some Go.IntKind.i32}),
 (174,{size:=11,bytes:=48,agg:=true,zero:=[AC.t (Tr.int Go.IntKind.u64 (Int.ofNat 0)),AC.t (Tr.int Go.IntKind.u64 (Int.ofNat 0)),AC.t (Tr.int Go.IntKind.u32 (Int.ofNat 0)),AC.t (Tr.int Go.IntKind.u8 (Int.ofNat 0)),AC.t (Tr.int Go.IntKind.u8 (Int.ofNat 0)),AC.t (Tr.int Go.IntKind.u8 (Int.ofNat 0)),AC.t (Tr.int Go.IntKind.u8 (Int.ofNat 0)),AC.opq,AC.nilp,AC.t (Tr.int Go.IntKind.i32 (Int.ofNat 0)),AC.t (Tr.int Go.IntKind.i32 (Int.ofNat 0))],fields:=[(0,1,12),(1,1,12),(2,1,135),(3,1,168),(4,1,5),(5,1,5),(6,1,169),(7,1,170),(8,1,171),(9,1,172),(10,1,173)]}),
 (175,{size:=11,bytes:=48,agg:=true,zero:=[AC.t (Tr.int Go.IntKind.u64 (Int.ofNat 0)),AC.t (Tr.int Go.IntKind.u64 (Int.ofNat 0)),AC.t (Tr.int Go.IntKind.u32 (Int.ofNat 0)),AC.t (Tr.int Go.IntKind.u8 (Int.ofNat 0)),AC.t (Tr.int Go.IntKind.u8 (Int.ofNat 0)),AC.t (Tr.int Go.IntKind.u8 (Int.ofNat 0)),AC.t (Tr.int Go.IntKind.u8 (Int.ofNat 0)),AC.opq,AC.nilp,AC.t (Tr.int Go.IntKind.i32 (Int.ofNat 0)),AC.t (Tr.int Go.IntKind.i32 (Int.ofNat 0))],fields:=[(0,1,12),(1,1,12),(2,1,135),(3,1,168),(4,1,5),(5,1,5),(6,1,169),(7,1,170),(8,1,171),(9,1,172),(10,1,173)]}),
 (176,e5 1 8 [AC.nilp])]
theorem hΓ:Γ.chk Try.prog=true:=by kernel_rfl
theorem aK:Try.prog.follows .mixedOrders=true:=by kernel_rfl
end Go.Proofs.Ytoglejgmjeojoaa
namespace Go.Proofs.Ytoglejgmjeojoaa
open Go.Sim Go.ChangeShapes Go.WideShapes Go.ChangeAt Go.RowKit
theorem own:ownKnob Try.prog.godebug=none:=by kernel_rfl
theorem Lm:laidOutB Try.prog=true:=by kernel_rfl
theorem Dy {α:Type}{g:α->List Tr}{Q:α->Prop}:∀{rows:List (List Tr)},(∀r∈rows,∃m,r=g m/\Q m)->∃ns:List α,rows=ns.map g/\∀m∈ns,Q m
 | [],_=>⟨[],rfl,fun _ h=>by cases h⟩
 | r::rows,h=>by
  obtain⟨m,rfl,hm⟩:=h r s_;obtain⟨ns,rfl,TO⟩:=Dy (rows:=rows) fun r hr=>h r (by simp[hr])
  exact⟨m::ns,rfl,fun x hx=>by
   rcases d7.1 hx with rfl|hx
   ·exact hm
   ·exact TO x hx⟩
end Go.Proofs.Ytoglejgmjeojoaa
namespace Go.Proofs.Ytoglejgmjeojoaa
open Go.Sim
abbrev tvI (n:Int):TV:= .c (.int .i64 n)
abbrev tvS (n:List UInt8):TV:= .c (.str n)
abbrev rI (n:Int):Res:= .r (.c (.t (.int .i64 n)))
abbrev rB (b:Bool):Res:= .r (.c (.t (.bool b)))
abbrev rS (b:List UInt8):Res:= .r (.c (.t (.str b)))
def af (n lo hi:Int):Bool:=decide (lo<=n)&&decide (n<=hi)
theorem within_iff {n lo hi:Int}:af n lo hi=true↔lo<=n/\n<=hi:=by simp[af]
set_option maxRecDepth 100000
theorem V61{p:Prop}(h:p:=by
 repeat' ((conv=>whnf);first|refine Or.inl ?_|apply oi|apply fi|intro h|refine⟨_,rfl,?_⟩|exact Y1|fail)
 all_goals refine⟨?_⟩
 all_goals simp_all[af]
 all_goals omega):p:=h
theorem bL (n lo hi:Int):Sim.Spec Try.prog 18 [tvI n,tvI lo,tvI hi] (rB (af n lo hi)):=by refine aG hΓ aK Try.func18 rfl d_ rfl ?_;exact V61
theorem bd (n lo hi:Int):Sim.Spec Try.prog 14 [tvI n,tvI lo,tvI hi] (rB (af n lo hi)):=by refine aG hΓ aK Try.func14 rfl d_ rfl ?_;exact V61
def signed (n:Int):Int:=if af n 0 1099511627775 then(if n%2=1 then -((n+1)/2)else n/2)else 0
end Go.Proofs.Ytoglejgmjeojoaa
namespace Go.Proofs.Ytoglejgmjeojoaa
open Go.Sim
set_option maxRecDepth 100000
def NH (n:Nat):List UInt8:=if n<=127 then [UInt8.ofNat n]else UInt8.ofNat (n%128+128)::NH (n/128)
 termination_by n
 decreasing_by omega
def enc (n:Int):List UInt8:=if af n 0 1099511627775 then NH n.toNat else []
end Go.Proofs.Ytoglejgmjeojoaa
namespace Go.Proofs.Ytoglejgmjeojoaa
open Go.Sim Go.RowKit
def inI (n:Int):Prop:= -9223372036854775808<=n/\n<=9223372036854775807
def aa (n:Int):List Tr:=[.int .i64 n]
def ax (s:List UInt8):List Tr:=[.str s]
def Ky {α:Type}(sz:Nat)(g:α->List Tr)(l:List α):List Tr:=[.lst sz (l.map g)]
structure NZ where
 fab:Int
 faf:Int
def NZ.tr (x:NZ):List Tr:=[.int .i64 x.fab,.int .i64 x.faf]
def NZ.wf (x:NZ):Prop:=inI x.fab/\inI x.faf
structure Og where
 faa:Int
 far:Int
 fac:List UInt8
def Og.tr (x:Og):List Tr:=[.int .i64 x.faa,.int .i64 x.far,.str x.fac]
def Og.wf (x:Og):Prop:=inI x.faa/\inI x.far/\x.fac.length<=maxLen
structure NX where
 faa:Int
 fac:List UInt8
 faj:List (List UInt8)
 fae:List Og
def NX.tr (x:NX):List Tr:=[.int .i64 x.faa,.str x.fac,.lst 1 (x.faj.map ax),.lst 3 (x.fae.map Og.tr)]
def NX.wf (x:NX):Prop:=inI x.faa/\x.fac.length<=maxLen/\(x.faj.length<=maxLen/\∀y∈x.faj,y.length<=maxLen)/\(x.fae.length<=maxLen/\∀y∈x.fae,y.wf)
structure NP where
 faC:Int
 faq:Int
 faG:Bool
 faF:Bool
def NP.tr (x:NP):List Tr:=[.int .i64 x.faC,.int .i64 x.faq,.bool x.faG,.bool x.faF]
def NP.wf (x:NP):Prop:=inI x.faC/\inI x.faq
structure NW where
 fad:NZ
 fav:Int
 fak:Bool
 fay:List Int
 fau:Int
 faz:Bool
def NW.tr (x:NW):List Tr:=[.int .i64 x.fad.fab,.int .i64 x.fad.faf,.int .i64 x.fav,.bool x.fak,.lst 1 (x.fay.map aa),.int .i64 x.fau,.bool x.faz]
def NW.wf (x:NW):Prop:=x.fad.wf/\inI x.fav/\(x.fay.length<=maxLen/\∀y∈x.fay,inI y)/\inI x.fau
structure Of where
 fac:List UInt8
 fak:Int
 faw:Int
def Of.tr (x:Of):List Tr:=[.str x.fac,.int .i64 x.fak,.int .i64 x.faw]
def Of.wf (x:Of):Prop:=x.fac.length<=maxLen/\inI x.fak/\inI x.faw
structure NU where
 fab:List UInt8
 fam:List Of
def NU.tr (x:NU):List Tr:=[.str x.fab,.lst 3 (x.fam.map Of.tr)]
def NU.wf (x:NU):Prop:=x.fab.length<=maxLen/\(x.fam.length<=maxLen/\∀y∈x.fam,y.wf)
structure Oe where
 faB:List NU
 faE:List Int
 fan:List Int
def Oe.tr (x:Oe):List Tr:=[.lst 2 (x.faB.map NU.tr),.lst 1 (x.faE.map aa),.lst 1 (x.fan.map aa)]
def Oe.wf (x:Oe):Prop:=(x.faB.length<=maxLen/\∀y∈x.faB,y.wf)/\(x.faE.length<=maxLen/\∀y∈x.faE,inI y)/\(x.fan.length<=maxLen/\∀y∈x.fan,inI y)
structure NY where
 fap:Int
 fag:Int
 fao:Int
 fas:List Int
 fah:List Int
 fal:Int
 faA:Int
def NY.tr (x:NY):List Tr:=[.int .i64 x.fap,.int .i64 x.fag,.int .i64 x.fao,.lst 1 (x.fas.map aa),.lst 1 (x.fah.map aa),.int .i64 x.fal,.int .i64 x.faA]
def NY.wf (x:NY):Prop:=inI x.fap/\inI x.fag/\inI x.fao/\(x.fas.length<=maxLen/\∀y∈x.fas,inI y)/\(x.fah.length<=maxLen/\∀y∈x.fah,inI y)/\inI x.fal/\inI x.faA
structure Oa where
 fat:Int
 fai:NW
def Oa.tr (x:Oa):List Tr:=[.int .i64 x.fat,.int .i64 x.fai.fad.fab,.int .i64 x.fai.fad.faf,.int .i64 x.fai.fav,.bool x.fai.fak,.lst 1 (x.fai.fay.map aa),.int .i64 x.fai.fau,.bool x.fai.faz]
def Oa.wf (x:Oa):Prop:=inI x.fat/\x.fai.wf
structure Oc where
 fak:Int
 fax:Int
 faD:Bool
 fau:Int
def Oc.tr (x:Oc):List Tr:=[.int .i64 x.fak,.int .i64 x.fax,.bool x.faD,.int .i64 x.fau]
def Oc.wf (x:Oc):Prop:=inI x.fak/\inI x.fax/\inI x.fau
structure Oh where
 fap:Int
 fag:Int
 fao:Int
 faK:List Int
def Oh.tr (x:Oh):List Tr:=[.int .i64 x.fap,.int .i64 x.fag,.int .i64 x.fao,.lst 1 (x.faK.map aa)]
def Oh.wf (x:Oh):Prop:=inI x.fap/\inI x.fag/\inI x.fao/\(x.faK.length<=maxLen/\∀y∈x.faK,inI y)
structure Ob where
 fat:Int
 fav:Int
 fak:Bool
def Ob.tr (x:Ob):List Tr:=[.int .i64 x.fat,.int .i64 x.fav,.bool x.fak]
def Ob.wf (x:Ob):Prop:=inI x.fat/\inI x.fav
structure NV where
 fak:Int
 fax:Int
 faH:Int
 fav:Int
 fac:List UInt8
def NV.tr (x:NV):List Tr:=[.int .i64 x.fak,.int .i64 x.fax,.int .i64 x.faH,.int .i64 x.fav,.str x.fac]
def NV.wf (x:NV):Prop:=inI x.fak/\inI x.fax/\inI x.faH/\inI x.fav/\x.fac.length<=maxLen
structure NR where
 faN:Int
 fam:List Of
 faJ:List Oc
 faL:List Ob
 faM:List NV
def NR.tr (x:NR):List Tr:=[.int .i64 x.faN,.lst 3 (x.fam.map Of.tr),.lst 4 (x.faJ.map Oc.tr),.lst 3 (x.faL.map Ob.tr),.lst 5 (x.faM.map NV.tr)]
def NR.wf (x:NR):Prop:=inI x.faN/\(x.fam.length<=maxLen/\∀y∈x.fam,y.wf)/\(x.faJ.length<=maxLen/\∀y∈x.faJ,y.wf)/\(x.faL.length<=maxLen/\∀y∈x.faL,y.wf)/\(x.faM.length<=maxLen/\∀y∈x.faM,y.wf)
structure NS where
 fac:List UInt8
 fav:Int
def NS.tr (x:NS):List Tr:=[.str x.fac,.int .i64 x.fav]
def NS.wf (x:NS):Prop:=x.fac.length<=maxLen/\inI x.fav
end Go.Proofs.Ytoglejgmjeojoaa
namespace Go.Proofs.Ytoglejgmjeojoaa
open Go.Sim
set_option maxRecDepth 100000
abbrev tvL (sz:Nat)(rows:List (List Tr)):TV:= .c (.lst sz rows)
abbrev rL (sz:Nat)(rows:List (List Tr)):Res:= .r (.c (.arr sz rows))
theorem ab {α β:Type}{f:α->β}{l:List α}{k:Nat}{x:α}(h:l[k]?=some x):(l.map f)[k]?=some (f x):=by simp[h]
theorem ae {α:Type}{l:List α}{k:Nat}(h:k<l.length):∃x,l[k]?=some x:=⟨_,i8 h⟩
theorem MB {ns ms:List Int}{k:Nat}{x y:Int}(h1:ns[k]?=some x)(h2:ms[k]?=some y)(K0:x≠y):(ns==ms)=false:=by rw[z8];intro e;subst e;rw[h1]at h2;injection h2 with h2;exact K0 h2
theorem KJ {ns ms:List Int}(h:ns.length≠ms.length):(ns==ms)=false:=by rw[z8];intro e;subst e;exact h rfl
theorem dD {α:Type}{l:List α}{k:Nat}{x:α}(h:l[k]?=some x):l.drop k=x::l.drop (k+1):=by
 have hk:k<l.length:=by
  rcases m6 k l.length with h'|h'
  ·exact h'
  ·rw[d8 h']at h;cases h
 rw[i8 hk]at h;injection h with h;rw[<-h];exact B9 hk
end Go.Proofs.Ytoglejgmjeojoaa
namespace Go.Proofs.Ytoglejgmjeojoaa
open Go.Sim Go.RowKit
set_option maxRecDepth 100000
theorem bi {α:Type}{g:α->List Tr}{L:Int}{l:List α}{sz:Nat}(h:aH L (.lst sz (l.map g))){x:α}(hx:x∈l):aR L (g x):=by rw[aH]at h;exact ua h.2 _ (List.mem_map_of_mem hx)
theorem oc {α:Type}{g:α->List Tr}{L:Int}{l:List α}{sz:Nat}(h:aH L (.lst sz (l.map g))):(l.length:Int)<=L:=by rw[aH]at h;simpa using h.1
theorem cQ {α:Type}{g:α->List Tr}{l:List α}{sz:Nat}(h:aH 1048576 (.lst sz (l.map g))):l.length<=1048576:=by have:=oc h;omega
end Go.Proofs.Ytoglejgmjeojoaa
namespace Go.Proofs.Ytoglejgmjeojoaa
open Go.Sim
set_option maxRecDepth 100000
theorem EY (bs:List UInt8):Sim.Spec Try.prog 4 [tvL 1 (bs.map ba)] (rB (decide (1048576<(bs.length:Int)))):=by
 refine aG hΓ aK Try.func4 rfl d_ rfl ?_;have hl:(bs.map ba).length=bs.length:=s_;repeat' ((conv=>whnf);first|refine Or.inl ?_|apply oi|apply fi|intro h|refine⟨_,rfl,?_⟩|exact Y1|fail)
 exact⟨by rw[hl]⟩
theorem uR (ns ms:List Int)(hl:ns.length<=1048576):Sim.Spec Try.prog 10 [tvL 1 (ns.map aa),tvL 1 (ms.map aa)] (rB (ns==ms)):=by
 refine aG hΓ aK Try.func10 rfl d_ rfl ?_;have J0:(ns.map aa).length=ns.length:=s_;have Tz:(ms.map aa).length=ms.length:=s_;repeat' ((conv=>whnf);first|refine Or.inl ?_|apply oi|apply fi|intro h|refine⟨_,rfl,?_⟩|exact Y1|fail)
 ·rw[J0,Tz]at h;rw[KJ (by intro e;rw[e]at h;simp at h)];exact⟨rfl⟩
 have L3:ns.length=ms.length:=by
  rw[J0,Tz]at h;have:((ns.length:Int)==(ms.length:Int))=true:=by simpa using h
  have:=A3 this;omega
 repeat' ((conv=>whnf);first|refine Or.inl ?_|apply oi|apply fi|intro h|refine⟨_,rfl,?_⟩|exact Y1|fail)
 conv=>whnf
 refine⟨{k:Nat//k<=ns.length/\∀j,j<k->ns[j]?=ms[j]?},fun k=>⟨[(0,.r (.c (.t (.lst 1 (ns.map aa))))),(1,.r (.c (.t (.lst 1 (ms.map aa))))),(5,tI .i64 (k.1:Int))],[],[]⟩,fun k=>ns.length-k.1,⟨0,o_,fun j hj=>by omega⟩,?_,?_⟩
 ·exact Z2
 intro⟨k,hk,TG⟩;dsimp only;repeat' ((conv=>whnf);first|refine Or.inl ?_|apply oi|apply fi|intro h|refine⟨_,rfl,?_⟩|exact Y1|fail)
 ·have J3:k<ns.length:=by have:=f9 h;omega
  obtain⟨x,hx⟩:=ae J3;obtain⟨y,hy⟩:=ae (show k<ms.length by omega);conv=>whnf
  refine⟨k,aa x,rfl,ab hx,?_⟩;repeat' ((conv=>whnf);first|refine Or.inl ?_|apply oi|apply fi|intro h|refine⟨_,rfl,?_⟩|exact Y1|fail)
  conv=>whnf
  refine⟨k,aa y,rfl,ab hy,?_⟩;repeat' ((conv=>whnf);first|refine Or.inl ?_|apply oi|apply fi|intro h|refine⟨_,rfl,?_⟩|exact Y1|fail)
  ·rw[MB hx hy (by simpa using h)];exact⟨rfl⟩
  have hxy:x=y:=by simpa using h
  conv=>whnf
  refine⟨⟨k+1,o_,fun j hj=>?_⟩,?_,KD⟩
  ·rcases m6 j k with h'|h'
   ·exact TG j h'
   ·have:j=k:=o_;subst this;rw[hx,hy,hxy]
  repeat' ((conv=>whnf);first|refine Or.inl ?_|apply oi|apply fi|intro h|refine⟨_,rfl,?_⟩|exact Y1|fail)
  exact⟨by dsimp only;rw[c9 _ o_];rfl⟩
 ·have N2:ns.length<=k:=by have:=f0 h;omega
  have:ns=ms:=I1 fun j=>by
   rcases m6 j k with h'|h'
   ·exact TG j h'
   ·rw[d8 o_,d8 o_]
  subst this;exact⟨s_⟩
end Go.Proofs.Ytoglejgmjeojoaa
namespace Go.Proofs.Ytoglejgmjeojoaa
open Go.Sim
set_option maxRecDepth 100000
set_option maxHeartbeats 4000000
def gu (last:Int)(r:Oc):Prop:=last<=r.fak/\r.fak<r.fax/\r.fax<=1000000/\0<=r.fau/\r.fau<=1200/\(r.faD=true->r.fau=0)
instance (last:Int) (r:Oc):Decidable (gu last r):=by unfold gu;infer_instance
def dn:Int->List Oc->Bool
 | _,[]=>true
 | p,r::l=>if gu p r then dn r.fax l else false
def Au (l:List Oc):Bool:=dn 0 l
def lA (off:Int):List Oc->Nat->Int
 | [],_=> -1
 | r::l,i=>if r.fak<=off/\off<r.fax then(i:Int)else lA off l (i+1)
def qS (l:List Oc)(off:Int):Int:=if Au l then lA off l 0 else -1
def gd (m:NY):Bool:=(m.fas.length==1200)&&af m.fag 0 1200&&af m.fal 0 2
theorem lK (m:NY):Sim.Spec Try.prog 9 [.agg m.tr] (rB (gd m)):=by
 refine aG hΓ aK Try.func9 rfl d_ rfl ?_;have J0:(m.fas.map aa).length=m.fas.length:=s_;unfold gd;repeat' ((conv=>whnf);first|refine Or.inl ?_|apply oi|apply fi|intro h|refine ci (bL _ _ _) (ai rfl (ai rfl (ai rfl trivial))) ?_|refine⟨_,rfl,?_⟩|exact Y1|fail)
 all_goals(refine⟨congrArg Tr.bool ?_⟩;simp_all;try omega)
def low (b:UInt8):Bool:=decide (97<=b.toNat)&&decide (b.toNat<=122)
def dq (s:List UInt8):Bool:=s.all low&&af s.length 1 8
abbrev JY (s:List UInt8):={k:Nat//k<=s.length/\(s.take k).all low=true}
theorem CN {α:Type}{p:α->Bool}{s:List α}{k:Nat}{b:α}(h:(s.take k).all p=true)(hb:s[k]?=some b)(hp:p b=true):(s.take (k+1)).all p=true:=by rw[z9,hb];simp_all
theorem Gt {α:Type}{p:α->Bool}{s:List α}{k:Nat}{b:α}(hb:s[k]?=some b)(hp:p b=false):s.all p=false:=by
 rw[Bool.eq_false_iff];intro h;rw[n7]at h;rw[h b (d4 hb)]at hp
 cases hp
theorem V12{p:Prop}(h:p:=by
 obtain⟨b,hb⟩:=ae J3;have Rg:=b.toNat_lt
 cases P8:low b with
 | false=>
  rw[Gt hb P8];unfold low at P8;repeat' ((conv=>whnf);first|refine Or.inl ?_|apply oi|apply fi|intro h|refine⟨k,b,rfl,hb,?_⟩|refine⟨_,rfl,?_⟩|exact Y2|fail)
  all_goals(exfalso;simp at *;omega)
 | true=>
  have O9:=CN hp hb P8;unfold low at P8;repeat' ((conv=>whnf);first|refine Or.inl ?_|apply oi|apply fi|intro h|refine⟨k,b,rfl,hb,?_⟩|refine⟨_,rfl,?_⟩|exact Y3|fail)
  conv=>whnf
  refine⟨⟨k+1,o_,O9⟩,?_,KD⟩
  exact Z6):p:=h
theorem yg (s:List UInt8)(hl:s.length<=1099511627775):Sim.Spec Try.prog 53 [tvS s] (rB (dq s)):=by
 refine aG hΓ aK Try.func53 rfl d_ rfl ?_;unfold dq;repeat' ((conv=>whnf);first|refine Or.inl ?_|apply oi|apply fi|intro h|refine⟨_,rfl,?_⟩|exact Y1|fail)
 conv=>whnf
 refine⟨JY s,fun k=>⟨[(0,tS s),(3,tI .i64 (k.1:Int))],[],[]⟩,fun k=>s.length-k.1,⟨0,o_,rfl⟩,?_,?_⟩
 ·exact Z2
 intro⟨k,hk,hp⟩;dsimp only;by_cases J3:k<s.length
 ·exact V12
 ·have N2:s.length<=k:=o_;rw[j5 N2]at hp;rw[hp];repeat' ((conv=>whnf);first|refine Or.inl ?_|apply oi|apply fi|intro h|refine ci (bL _ _ _) (ai rfl (ai rfl (ai rfl trivial))) ?_|refine⟨_,rfl,?_⟩|exact Y2|fail)
theorem fO (s:List UInt8)(hl:s.length<=1099511627775):Sim.Spec Try.prog 47 [tvS s] (rB (dq s)):=by
 refine aG hΓ aK Try.func47 rfl d_ rfl ?_;unfold dq;repeat' ((conv=>whnf);first|refine Or.inl ?_|apply oi|apply fi|intro h|refine⟨_,rfl,?_⟩|exact Y1|fail)
 conv=>whnf
 refine⟨JY s,fun k=>⟨[(0,tS s),(3,tI .i64 (k.1:Int))],[],[]⟩,fun k=>s.length-k.1,⟨0,o_,rfl⟩,?_,?_⟩
 ·exact Z2
 intro⟨k,hk,hp⟩;dsimp only;by_cases J3:k<s.length
 ·exact V12
 ·have N2:s.length<=k:=o_;rw[j5 N2]at hp;rw[hp];repeat' ((conv=>whnf);first|refine Or.inl ?_|apply oi|apply fi|intro h|refine ci (bd _ _ _) (ai rfl (ai rfl (ai rfl trivial))) ?_|refine⟨_,rfl,?_⟩|exact Y2|fail)
def behind (p:Option NV)(x:NV):Prop:=match p with
 | none=>True
 | some p=>p.faH<=x.faH/\(p.faH=x.faH->p.fax<=x.fak)
instance (p:Option NV) (x:NV):Decidable (behind p x):=by unfold behind;cases p<;>infer_instance
def fZ (t:Og):Bool:=
 if t.faa=0 then af t.far 0 999&&t.fac==[]
 else if t.faa=7 then af t.far 0 4&&dq t.fac
 else if t.faa=1 then t.far==0&&dq t.fac
 else af t.faa 2 6&&(t.far==0&&t.fac==[])
theorem qE (t:Og)(hl:t.fac.length<=1099511627775):Sim.Spec Try.prog 72 [.agg t.tr] (rB (fZ t)):=by
 refine aG hΓ aK Try.func72 rfl d_ rfl ?_;have hN:=fO t.fac hl;unfold fZ
 generalize dq t.fac=nb at *
 repeat' ((conv=>whnf);first|refine Or.inl ?_|apply oi|apply fi|intro h|refine ci (bd _ _ _) (ai rfl (ai rfl (ai rfl trivial))) ?_|refine ci hN (ai rfl trivial) ?_|refine⟨_,rfl,?_⟩|exact Y1|fail)
 all_goals(refine⟨congrArg Tr.bool ?_⟩;simp_all[af];(try(intros;omega));(try((repeat' split)<;>intros<;>omega)))
def oY (t:Og):Int:=if fZ t=false then -1 else if t.faa=7 then t.far else if t.faa=0\/t.faa=1 then 0 else 2
theorem jA (t:Og)(hl:t.fac.length<=1099511627775):Sim.Spec Try.prog 51 [.agg t.tr] (rI (oY t)):=by
 refine aG hΓ aK Try.func51 rfl d_ rfl ?_;have hT:=qE t hl;unfold oY
 generalize fZ t=nb at *
 repeat' ((conv=>whnf);first|refine Or.inl ?_|apply oi|apply fi|intro h|refine ci hT (ai (ai rfl (ai rfl (ai rfl trivial))) trivial) ?_|refine⟨_,rfl,?_⟩|exact Y1|fail)
 all_goals(refine⟨congrArg (Tr.int _) ?_⟩;simp_all)
def ar (t:Og):Nat:=(oY t).toNat
theorem zn {t:Og}(h:fZ t=true):oY t=(ar t:Int)/\ar t<=4:=by
 unfold ar oY;rw[b8 (by simp[h])];unfold fZ at h;split
 ·rename_i h7;rw[b8 o_,b9 h7]at h;simp only[c8,within_iff]at h;omega
 ·split<;>omega
def endL:List Og->Nat->Nat->Option Nat
 | _,p,0=>some p
 | [],_,_+1=>none
 | t::l,p,n+1=>if fZ t=true then endL l (p+1) (n+ar t)else none
def cA (o:Option Nat):Int:=match o with|some e=>e|none=> -1
def gW (l:List Og)(p:Int):Int:=if 0<=p then cA (endL (l.drop p.toNat) p.toNat 1)else -1
theorem LG {l:List Og}{p n:Nat}{t:Og}(h:l[p]?=some t):endL (l.drop p) p (n+1)=if fZ t=true then endL (l.drop (p+1)) (p+1) (n+ar t)else none:=by rw[dD h,endL]
abbrev Nn (l:List Og)(R:Int):={q:Nat×Nat//q.1<=l.length/\q.2<=1+4*q.1/\cA (endL (l.drop q.1) q.1 q.2)=R}
def iv (l:List Og):Prop:=∀t∈l,t.fac.length<=1099511627775
theorem ko (l:List Og)(p:Int)(hl:l.length<=1048576)(hn:iv l):Sim.Spec Try.prog 71 [tvL 3 (l.map Og.tr),tvI p] (rI (gW l p)):=by
 refine aG hΓ aK Try.func71 rfl d_ rfl ?_;have J0:(l.map Og.tr).length=l.length:=s_;by_cases h0:0<=p
 ·obtain⟨p,rfl⟩:=j8 h0;obtain⟨R,hR⟩:∃R,gW l (p:Int)=R:=⟨_,rfl⟩;rw[hR];rw[gW,b9 h0,d9]at hR;by_cases hlp:p<=l.length
  ·repeat' ((conv=>whnf);first|refine Or.inl ?_|apply oi|apply fi|intro h|refine⟨_,rfl,?_⟩|exact Y2|fail)
   conv=>whnf
   refine⟨Nn l R,fun q=>⟨[(0,.r (.c (.t (.lst 3 (l.map Og.tr))))),(1,tI .i64 (q.1.1:Int)),(5,tI .i64 (q.1.2:Int))],[],[]⟩,fun q=>l.length-q.1.1,⟨(p,1),o_,o_,hR⟩,?_,?_⟩
   ·exact Z2
   intro⟨⟨a,n⟩,ha,UH,hr⟩;dsimp only at ha UH hr⊢
   cases n with
   | zero=>
    have:R=(a:Int):=by
     rw[<-hr]
     cases l.drop a<;>rfl
    subst this
    exact Z3
   | succ n=>
    by_cases J3:a<l.length
    ·obtain⟨t,ht⟩:=ae J3;rw[LG ht]at hr;have hT:=qE t (hn t (d4 ht));have hA:=jA t (hn t (d4 ht))
     cases J5:fZ t with
     | false=>
      rw[J5]at hT;rw[b8 (by simp[J5])]at hr;subst hr
      repeat' ((conv=>whnf);first|refine Or.inl ?_|apply oi|apply fi|intro h|refine⟨a,t.tr,rfl,ab ht,?_⟩|refine ci hT (ai (ai rfl (ai rfl (ai rfl trivial))) trivial) ?_|refine⟨_,rfl,?_⟩|exact Y2|fail)
     | true=>
      obtain⟨e1,e2⟩:=zn J5;rw[e1]at hA;rw[J5]at hT;rw[b9 J5]at hr;repeat' ((conv=>whnf);first|refine Or.inl ?_|apply oi|apply fi|intro h|refine⟨a,t.tr,rfl,ab ht,?_⟩|refine ci hT (ai (ai rfl (ai rfl (ai rfl trivial))) trivial) ?_|refine ci hA (ai (ai rfl (ai rfl (ai rfl trivial))) trivial) ?_|refine⟨_,rfl,?_⟩|exact Y2|fail)
      conv=>whnf
      refine⟨⟨(a+1,n+ar t),g_,g_,hr⟩,?_,KD⟩;repeat' ((conv=>whnf);first|refine Or.inl ?_|apply oi|apply fi|intro h|refine⟨_,rfl,?_⟩|exact Y4|fail)
      all_goals try exact⟨by dsimp only;congr 1;rw[c9 _ o_];omega⟩
      all_goals exact⟨congrArg (Tr.int _) (by dsimp only;simp(disch:=omega)only[c9];omega)⟩
    ·rw[q8 o_,endL]at hr;subst hr;exact Z3
  ·rw[q8 o_,endL]at hR;subst hR;repeat' ((conv=>whnf);first|refine Or.inl ?_|apply oi|apply fi|intro h|refine⟨_,rfl,?_⟩|exact Y2|fail)
   conv=>whnf
   refine⟨Unit,fun q=>⟨[(0,.r (.c (.t (.lst 3 (l.map Og.tr))))),(1,tI .i64 (p:Int)),(5,tI .i64 1)],[],[]⟩,fun q=>0,(),?_,?_⟩
   ·exact Z2
   intro q;exact Z3
 ·have he:gW l p= -1:=by rw[gW,b8 h0]
  rw[he];exact Z3
def bh (l:List Og):Bool:=decide (l.length<=20)&&(decide (0<l.length)&&gW l 0==(l.length:Int))
theorem oP (l:List Og)(hl:l.length<=1048576)(hn:iv l):Sim.Spec Try.prog 49 [tvL 3 (l.map Og.tr)] (rB (bh l)):=by
 refine aG hΓ aK Try.func49 rfl d_ rfl ?_;have J0:(l.map Og.tr).length=l.length:=s_;have hE:=ko l 0 hl hn;unfold bh
 generalize gW l 0=e at *
 repeat' ((conv=>whnf);first|refine Or.inl ?_|apply oi|apply fi|intro h|refine ci hE (ai rfl (ai rfl trivial)) ?_|refine⟨_,rfl,?_⟩|exact Y1|fail)
 all_goals(refine⟨congrArg Tr.bool ?_⟩;simp_all;try omega)
def eQ {α:Type}[BEq α]:List α->Nat->α->Option Nat
 | [],_,_=>none
 | x::l,i,s=>if(x==s)=true then some i else eQ l (i+1) s
theorem Ly {α:Type}[BEq α]{l:List α}{i:Nat}{x s:α}(hx:l[i]?=some x):eQ (l.drop i) i s=if(x==s)=true then some i else eQ (l.drop (i+1)) (i+1) s:=by rw[dD hx,eQ]
theorem il {α:Type}[BEq α]:∀{l:List α} {i k:Nat} {s:α},eQ l i s=some k->i<=k/\k<i+l.length
 | [],_,_,_,h=>by rw[eQ]at h;cases h
 | x::l,i,k,s,h=>by
  rw[eQ]at h;simp only[d5];split at h
  ·injection h with h;omega
  ·have:=il h;omega
theorem xE {α:Type}[BEq α][LawfulBEq α]:∀{l:List α} {i:Nat} {s:α},(eQ l i s).isSome=l.contains s
 | [],_,_=>rfl
 | x::l,i,s=>by
  rw[eQ,List.contains_cons]
  cases h:(x==s)with
  | true=>rw[b9 rfl];simp[A3 h]
  | false=>
   have h2:(s==x)=false:=by rw[z8]at h⊢;exact fun e=>h e.symm
   rw[b8 s_,h2,B3];exact xE
def dy {α:Type}[BEq α](l:List α)(s:α):Int:=cA (eQ l 0 s)
theorem yR {α:Type}[BEq α][LawfulBEq α]{l:List α}{s:α}:decide (0<=dy l s)=l.contains s:=by
 rw[<-xE (i:=0),dy]
 cases eQ l 0 s with
 | none=>rfl
 | some k=>simp[cA]
def wi (l:List (List UInt8)):Nat->Nat->Bool
 | 0,_=>true
 | n+1,k=>match l[k]? with
  | some s=>if dq s=true/\(l.take k).contains s=false then wi l n (k+1)else false
  | none=>true
theorem V104{p:Prop}(h:p:=by
 rcases m6 k l.length with h|h
 ·exact h
 ·rw[d8 h]at hx;cases hx):p:=h
theorem Hn {l:List (List UInt8)}{k:Nat}{s:List UInt8}(hx:l[k]?=some s):wi l (l.length-k) k=if dq s=true/\(l.take k).contains s=false then wi l (l.length-(k+1)) (k+1)else false:=by
 have hk:k<l.length:=by exact V104
 rw[show l.length-k=(l.length-(k+1))+1 by omega,wi,hx]
def lQ (l:List (List UInt8)):Bool:=wi l l.length 0&&decide (l.length<=4)
def jp (k:Int):Bool:=k==1||(k==2||(k==3||(k==5||k==6)))
theorem qW (k:Int)(hk:af k 0 7=true):Sim.Spec Try.prog 48 [tvI k] (rB (jp k)):=by
 refine aG hΓ aK Try.func48 rfl d_ rfl ?_;have:=within_iff.1 hk;unfold jp;repeat' ((conv=>whnf);first|refine Or.inl ?_|apply oi|apply fi|intro h|refine⟨_,rfl,?_⟩|exact Y1|fail)
 all_goals(refine⟨congrArg Tr.bool ?_⟩;simp_all;(try(rw[z7];simp;done));(try(rw[z7];simp;omega)))
def dl (x:NX):Bool:=af x.faa 0 7&&((if x.faa=0\/x.faa=1 then dq x.fac else x.fac==[])&&((if x.faa=0 then lQ x.faj else x.faj.length==0)&&(if jp x.faa=true then bh x.fae else x.fae.length==0)))
theorem eY {x:NX}(hs:aR 1048576 x.tr):x.fac.length<=1048576/\x.faj.length<=1048576/\(∀y∈x.faj,y.length<=1048576)/\x.fae.length<=1048576/\(∀y∈x.fae,y.fac.length<=1048576):=by
 simp only[NX.tr,aR]at hs;obtain⟨_,h1,h2,h3,_⟩:=hs;have e1:=oc h2;have e2:=oc h3;refine⟨by rw[aH]at h1;omega,o_,fun y hy=>?_,o_,fun y hy=>?_⟩
 ·have:=bi h2 hy;simp only[ax,aR,aH]at this;omega
 ·have:=bi h3 hy;simp only[Og.tr,aR,aH]at this;omega
theorem Cl {x:NX}(h:af x.faa 0 7=false):dl x=false:=by unfold dl;rw[h];rfl
theorem un {x:NX}(h:4<x.faj.length):dl x=false:=by
 have h1:lQ x.faj=false:=by unfold lQ;rw[C2 o_,C8]
 have h2:(x.faj.length==0)=false:=by rw[z8];omega
 unfold dl;rw[h1,h2];split<;>simp
theorem JH {l:List (List UInt8)}{k i:Nat}{y s:List UInt8}(hi:i<k)(hy:l[i]?=some y):((l.take k).drop i).contains s=(s==y||((l.take k).drop (i+1)).contains s):=by rw[dD (x:=y) (by rw[n6,b9 hi];exact hy),List.contains_cons]
theorem Jy {x:NX}(hk:af x.faa 0 7=true)(h0:x.faa=0)(ha:x.faj.length<=4):dl x=(wi x.faj x.faj.length 0&&(dq x.fac&&x.fae.length==0)):=by
 unfold dl lQ;rw[hk,b9 (.inl h0),b9 h0,b8 (by rw[h0];decide),s6 ha]
 cases dq x.fac<;>cases wi x.faj x.faj.length 0<;>simp
theorem JZ {x:NX}(hk:af x.faa 0 7=true)(h0:x.faa≠0):dl x=(x.faj.length==0&&((if x.faa=1 then dq x.fac else x.fac==[])&&(if jp x.faa=true then bh x.fae else x.fae.length==0))):=by
 have e:(if x.faa=0\/x.faa=1 then dq x.fac else x.fac==[])=(if x.faa=1 then dq x.fac else x.fac==[]):=by
  by_cases h1:x.faa=1
  ·rw[b9 (.inr h1),b9 h1]
  ·rw[b8 o_,b8 h1]
 unfold dl;rw[hk,b8 h0,e,m8];generalize(if x.faa=1 then dq x.fac else x.fac==[])=a;generalize(if jp x.faa=true then bh x.fae else x.fae.length==0)=b
 cases a<;>cases(x.faj.length==0)<;>simp
theorem Fy (n:Nat):((n:Int)==0)=(n==0):=by rw[z7];simp
abbrev Mx (x:NX):AO:= .box (x.tr.map .t)
theorem V66{p:Prop}(h:p:=by
 repeat' ((conv=>whnf);first|refine Or.inl ?_|apply oi|apply fi|intro h|refine ci hB (ai rfl (ai rfl (ai rfl trivial))) ?_|refine⟨_,rfl,?_⟩|exact Y2|fail)):p:=h
theorem oT (x:NX)(hs:aR 1048576 x.tr):Sim.Spec Try.prog 26 [.agg x.tr] (rB (dl x)):=by
 refine aG hΓ aK Try.func26 rfl d_ rfl ?_;obtain⟨h1,h2,h3,h4,h5⟩:=eY hs;have hB:=bd x.faa 0 7;have hN:=fO x.fac o_;have hE:=oP x.fae h4 (fun y hy=>by have:=h5 y hy;omega);have RM:(x.faj.map ax).length=x.faj.length:=s_;have Pc:(x.fae.map Og.tr).length=x.fae.length:=s_
 cases hk:af x.faa 0 7 with
 | false=>
  rw[hk]at hB;rw[Cl hk]
  exact V66
 | true=>
  rw[hk]at hB;have hH:=qW x.faa hk;by_cases ha:x.faj.length<=4
  ·by_cases h0:x.faa=0
   ·rw[Jy hk h0 ha]
    generalize dq x.fac=b2 at *
    generalize bh x.fae=b5 at *
    obtain⟨A,hA⟩:∃A,wi x.faj x.faj.length 0=A:=⟨_,rfl⟩;rw[hA];have Xz:jp x.faa=false:=by rw[h0];rfl
    rw[Xz]at hH;repeat' ((conv=>whnf);first|refine Or.inl ?_|apply oi|apply fi|intro h|refine ci hB (ai rfl (ai rfl (ai rfl trivial))) ?_|refine⟨_,rfl,?_⟩|exact Y2|fail)
    conv=>whnf
    refine⟨{k:Nat//k<=x.faj.length/\wi x.faj (x.faj.length-k) k=A},fun q=>⟨[(1,.r (.c (.ptr (1,0,0) 0))),(3,tI .i64 (q.1:Int))],[((1,0,0),some (Mx x))],[1]⟩,fun q=>x.faj.length-q.1,⟨0,o_,by rw[x5];exact hA⟩,?_,?_⟩
    ·exact Z2
    intro⟨k,Om,hr⟩;dsimp only at Om hr⊢;by_cases J3:k<x.faj.length
    ·obtain⟨s,PH⟩:=ae J3;rw[Hn PH]at hr;have UM:=fO s (by have:=h3 s (d4 PH);omega)
     cases M1:dq s with
     | false=>
      rw[M1]at UM hr;rw[b8 s_]at hr;subst hr
      repeat' ((conv=>whnf);first|refine Or.inl ?_|apply oi|apply fi|intro h|refine ci UM (ai rfl trivial) ?_|refine⟨k,(ax s),rfl,ab PH,?_⟩|refine⟨_,rfl,?_⟩|exact Y2|fail)
     | true=>
      rw[M1]at UM hr;obtain⟨C,hC⟩:∃C,(x.faj.take k).contains s=C:=⟨_,rfl⟩;rw[hC]at hr;repeat' ((conv=>whnf);first|refine Or.inl ?_|apply oi|apply fi|intro h|refine ci UM (ai rfl trivial) ?_|refine⟨k,(ax s),rfl,ab PH,?_⟩|refine⟨_,rfl,?_⟩|exact Y2|fail)
      all_goals try(exfalso;(try simp_all[af]);(try omega);done)
      conv=>whnf
      refine⟨{i:Nat//i<=k/\((x.faj.take k).drop i).contains s=C},fun q=>⟨[(1,.r (.c (.ptr (1,0,0) 0))),(3,tI .i64 (k:Int)),(4,tI .i64 (q.1:Int))],[((1,0,0),some (Mx x))],[1]⟩,fun q=>k-q.1,⟨0,o_,hC⟩,?_,?_⟩
      ·exact Z2
      intro⟨i,Po,hc⟩;dsimp only at Po hc⊢;by_cases OH:i<k
      ·obtain⟨y,hy⟩:=ae (l:=x.faj) (k:=i) o_;rw[JH OH hy]at hc;by_cases X3:s=y
       ·subst X3;rw[G6,Bool.true_or]at hc;subst hc;rw[b8 s_]at hr;subst hr;repeat' ((conv=>whnf);first|refine Or.inl ?_|apply oi|apply fi|intro h|refine⟨i,(ax s),rfl,ab hy,?_⟩|refine⟨k,(ax s),rfl,ab PH,?_⟩|refine⟨_,rfl,?_⟩|exact Y2|fail)
        all_goals try(exfalso;(try simp_all[af]);(try omega);done)
       ·rw[z8.2 X3,B3]at hc;repeat' ((conv=>whnf);first|refine Or.inl ?_|apply oi|apply fi|intro h|refine⟨i,(ax y),rfl,ab hy,?_⟩|refine⟨k,(ax s),rfl,ab PH,?_⟩|refine⟨_,rfl,?_⟩|exact Y2|fail)
        all_goals try(exfalso;apply X3;simp_all;done)
        conv=>whnf
        refine⟨⟨i+1,o_,hc⟩,?_,KD⟩;exact Z6
      ·rw[q8 (by simp;omega)]at hc;have hc:false=C:=hc;subst hc;rw[b9 ⟨rfl,rfl⟩]at hr;repeat' ((conv=>whnf);first|refine Or.inl ?_|apply oi|apply fi|intro h|refine⟨_,rfl,?_⟩|exact Y2|fail)
       conv=>whnf
       refine⟨⟨k+1,o_,hr⟩,?_,KD⟩;exact Z6
    ·rw[show x.faj.length-k=0 by omega]at hr;have hr:true=A:=hr;subst hr;repeat' ((conv=>whnf);first|refine Or.inl ?_|apply oi|apply fi|intro h|refine ci hN (ai rfl trivial) ?_|refine ci hH (ai rfl trivial) ?_|refine ci hE (ai rfl trivial) ?_|refine⟨_,rfl,?_⟩|exact Y2|fail)
     all_goals try(exfalso;(try simp_all[af]);(try omega);done)
     all_goals(refine⟨congrArg Tr.bool ?_⟩;simp_all;(try exact Fy _))
   ·rw[JZ hk h0]
    generalize dq x.fac=b2 at *
    generalize bh x.fae=b5 at *
    generalize jp x.faa=b4 at *
    repeat' ((conv=>whnf);first|refine Or.inl ?_|apply oi|apply fi|intro h|refine ci hB (ai rfl (ai rfl (ai rfl trivial))) ?_|refine⟨_,rfl,?_⟩|exact Y2|fail)
    conv=>whnf
    refine⟨Unit,fun q=>⟨[(1,.r (.c (.ptr (1,0,0) 0))),(3,tI .i64 0)],[((1,0,0),some (Mx x))],[1]⟩,fun q=>0,(),?_,?_⟩
    ·exact Z2
    intro q;dsimp only;by_cases J3:0<x.faj.length
    ·obtain⟨s,PH⟩:=ae J3;have UM:=fO s (by have:=h3 s (d4 PH);omega);rw[show(x.faj.length==0)=false by rw[z8];omega];repeat' ((conv=>whnf);first|refine Or.inl ?_|apply oi|apply fi|intro h|refine ci UM (ai rfl trivial) ?_|refine⟨0,(ax s),rfl,ab PH,?_⟩|refine⟨_,rfl,?_⟩|exact Y2|fail)
     all_goals try(exfalso;(try simp_all[af]);(try omega);done)
     all_goals try(exfalso;simp_all;done)
    ·have hz:x.faj.length=0:=o_;rw[show(x.faj.length==0)=true by rw[hz];rfl];rw[hz]at RM;repeat' ((conv=>whnf);first|refine Or.inl ?_|apply oi|apply fi|intro h|refine ci hN (ai rfl trivial) ?_|refine ci hH (ai rfl trivial) ?_|refine ci hE (ai rfl trivial) ?_|refine⟨_,rfl,?_⟩|exact Y1|fail)
     all_goals try(exfalso;simp_all;done)
     all_goals(refine⟨congrArg Tr.bool ?_⟩;simp_all;(try exact Fy _);(try(rw[z7];simp;omega)))
  ·rw[un o_];exact V66
def dP (k:Int):Bool:=k==0||(k==3||k==5)
theorem opensK_iff {k:Int}:dP k=true↔k=0\/k=3\/k=5:=by simp[dP]
def endN:List NX->Nat->Nat->Option Nat
 | [],_,_=>none
 | x::l,i,o=>if dP x.faa=true then endN l (i+1) (o+1)else if x.faa=7 then(if o=1 then some i else endN l (i+1) (o-1))else endN l (i+1) o
def endAt (l:List NX)(k:Nat):Option Nat:=match l[k]? with
 | some x=>if dP x.faa=true then endN (l.drop (k+1)) (k+1) 1 else none
 | none=>none
def bT (l:List NX)(k:Int):Int:=if 0<=k then cA (endAt l k.toNat)else -1
theorem dR {l:List NX}{i o:Nat}{x:NX}(h:l[i]?=some x):endN (l.drop i) i o=if dP x.faa=true then endN (l.drop (i+1)) (i+1) (o+1)else if x.faa=7 then(if o=1 then some i else endN (l.drop (i+1)) (i+1) (o-1))else endN (l.drop (i+1)) (i+1) o:=by rw[dD h,endN]
theorem lS {l:List NX}{i o:Nat}(h:l.length<=i):endN (l.drop i) i o=none:=by rw[q8 h,endN]
theorem uU:∀{l:List NX} {i o e:Nat},endN l i o=some e->i<=e/\e<i+l.length
 | [],_,_,_,h=>by rw[endN]at h;cases h
 | x::l,i,o,e,h=>by
  rw[endN]at h;simp only[d5];split at h
  ·have:=uU h;omega
  ·split at h
   ·split at h
    ·injection h with h;omega
    ·have:=uU h;omega
   ·have:=uU h;omega
theorem ju {l:List NX}{i o e:Nat}(h:endN (l.drop i) i o=some e):i<=e/\e<l.length:=by have:=uU h;rw[x8]at this;omega
theorem mO:∀{l:List NX} {i:Nat} (n:Nat) {a b:Nat},l.length-i<=n->1<=a->1<=b->endN (l.drop i) i (a+b)=(endN (l.drop i) i b).bind fun m=>endN (l.drop (m+1)) (m+1) a
 | l,i,0,a,b,hn,_,_=>by rw[lS o_,lS o_];rfl
 | l,i,n+1,a,b,hn,ha,hb=>by
  by_cases hi:i<l.length
  ·obtain⟨x,hx⟩:=ae hi;rw[dR hx,dR hx];split
   ·rw[show a+b+1=a+(b+1) by omega];exact mO n o_ ha o_
   ·split
    ·rw[b8 o_];by_cases h1:b=1
     ·subst h1;rw[b9 rfl];rfl
     ·rw[b8 h1,show a+b-1=a+(b-1) by omega];exact mO n o_ ha o_
    ·exact mO n o_ ha hb
  ·rw[lS o_,lS o_];rfl
theorem oD:∀{l:List NX} {i:Nat} (n:Nat) {o e:Nat},l.length-i<=n->endN (l.drop i) i o=some e->∃x,l[e]?=some x/\x.faa=7
 | l,i,0,o,e,hn,h=>by rw[lS o_]at h;cases h
 | l,i,n+1,o,e,hn,h=>by
  by_cases hi:i<l.length
  ·obtain⟨x,hx⟩:=ae hi;rw[dR hx]at h;split at h
   ·exact oD n o_ h
   ·split at h
    ·split at h
     ·injection h with h;subst h;exact⟨x,hx,by assumption⟩
     ·exact oD n o_ h
    ·exact oD n o_ h
  ·rw[lS o_]at h;cases h
theorem aM {l:List NX}{k e:Nat}(h:endAt l k=some e):∃x,l[k]?=some x/\dP x.faa=true/\endN (l.drop (k+1)) (k+1) 1=some e/\k<e/\e<l.length:=by
 unfold endAt at h;split at h
 ·rename_i x hx;split at h
  ·rename_i ho;have:=ju h;exact⟨x,hx,ho,h,o_,o_⟩
  ·cases h
 ·cases h
theorem rD {l:List NX}{k:Nat}{x:NX}(hx:l[k]?=some x)(ho:dP x.faa=true):endAt l k=endN (l.drop (k+1)) (k+1) 1:=by unfold endAt;rw[hx];dsimp only;rw[b9 ho]
theorem bp {l:List NX}{k e:Nat}(h:endAt l k=some e):∃x,l[e]?=some x/\x.faa=7:=by obtain⟨_,_,_,h,_⟩:=aM h;exact oD _ (d6 _) h
theorem qv:∀{l:List NX} (n:Nat) {s o e i:Nat},i-s<=n->1<=o->endN (l.drop s) s o=some e->s<=i->i<=e->∃o',1<=o'/\endN (l.drop i) i o'=some e
 | l,0,s,o,e,i,hn,ho,h,h1,h2=>by
  have:s=i:=o_;subst this
  exact⟨o,ho,h⟩
 | l,n+1,s,o,e,i,hn,ho,h,h1,h2=>by
  by_cases hs:s=i
  ·subst hs;exact⟨o,ho,h⟩
  have hl:=ju h;obtain⟨x,hx⟩:=ae (l:=l) (k:=s) o_;rw[dR hx]at h;split at h
  ·exact qv n o_ o_ h o_ h2
  ·split at h
   ·split at h
    ·injection h with h;omega
    ·exact qv n o_ o_ h o_ h2
   ·exact qv n o_ ho h o_ h2
theorem cT {l:List NX}{k e i:Nat}{x:NX}(h:endAt l k=some e)(h1:k<i)(h2:i<e)(hx:l[i]?=some x)(ho:dP x.faa=true):∃m,endAt l i=some m/\i<m/\m<e:=by
 obtain⟨_,_,_,he,_,J3⟩:=aM h;obtain⟨o,ho1,PB⟩:=qv _ (d6 _) (d6 1) he (by omega:k+1<=i) o_;rw[dR hx,b9 ho,mO _ (d6 _) ho1 (d6 1)]at PB
 cases hm:endN (l.drop (i+1)) (i+1) 1 with
 | none=>rw[hm]at PB;cases PB
 | some m=>rw[hm]at PB;have h3:=ju hm;have h4:=ju (show endN (l.drop (m+1)) (m+1) o=some e from PB);exact⟨m,by rw[rD hx ho];exact hm,o_,o_⟩
theorem bA {l:List NX}{k:Nat}:bT l (k:Int)=cA (endAt l k):=by rw[bT,b9 o_,d9]
theorem aZ {o:Option Nat}{n:Nat}(h:o=some n):cA o=(n:Int):=by rw[h];rfl
theorem sC {o:Option Nat}(h:o=none):cA o= -1:=by rw[h];rfl
def elseN (l:List NX)(e:Nat):Nat->Nat->Option Nat
 | 0,_=>none
 | n+1,i=>if i<e then(match l[i]? with
  | some x=>if x.faa=4 then some i else if x.faa=3\/x.faa=5 then(match endAt l i with
   | some m=>elseN l e n (m+1)
   | none=>elseN l e n (i+1))else elseN l e n (i+1)
  | none=>none)else none
def elseAt (l:List NX)(k:Nat):Option Nat:=match l[k]?,endAt l k with
 | some x,some e=>if x.faa=3 then elseN l e (e-(k+1)) (k+1)else none
 | _,_=>none
def bE (l:List NX)(k:Int):Int:=if 0<=k then cA (elseAt l k.toNat)else -1
theorem iA {l:List NX}{e:Nat}:∀{n m i:Nat},e-i<=n->e-i<=m->elseN l e n i=elseN l e m i
 | 0,0,_,_,_=>rfl
 | 0,m+1,i,h1,h2=>by rw[elseN,elseN,b8 o_]
 | n+1,0,i,h1,h2=>by rw[elseN,elseN,b8 o_]
 | n+1,m+1,i,h1,h2=>by
  rw[elseN,elseN];by_cases hi:i<e
  ·rw[b9 hi,b9 hi]
   cases hx:l[i]? with
   | none=>rfl
   | some x=>
    dsimp only;split
    ·rfl
    ·split
     ·cases hm:endAt l i with
      | none=>exact iA o_ o_
      | some m'=>have:=aM hm;obtain⟨_,_,_,_,h3,_⟩:=this;exact iA o_ o_
     ·exact iA o_ o_
  ·rw[b8 hi,b8 hi]
theorem EP {l:List NX}{e i:Nat}{x:NX}(hi:i<e)(hx:l[i]?=some x):elseN l e (e-i) i=if x.faa=4 then some i else if x.faa=3\/x.faa=5 then(match endAt l i with
   | some m=>elseN l e (e-(m+1)) (m+1)
   | none=>elseN l e (e-(i+1)) (i+1))else elseN l e (e-(i+1)) (i+1):=by
 obtain⟨n,hn⟩:∃n,e-i=n+1:=⟨e-i-1,o_⟩;rw[hn,elseN,b9 hi,hx];dsimp only;split
 ·rfl
 ·split
  ·cases hm:endAt l i with
   | none=>exact iA o_ o_
   | some m=>obtain⟨_,_,_,_,h3,_⟩:=aM hm;exact iA o_ o_
  ·exact iA o_ o_
theorem GN {l:List NX}{e i n:Nat}(hi:e<=i):elseN l e n i=none:=by
 cases n with
 | zero=>rfl
 | succ n=>rw[elseN,b8 o_]
theorem na {l:List NX}{e:Nat}:∀{n i j:Nat},elseN l e n i=some j->i<=j/\j<e/\∃x,l[j]?=some x/\x.faa=4
 | 0,_,_,h=>by rw[elseN]at h;cases h
 | n+1,i,j,h=>by
  rw[elseN]at h;split at h
  ·rename_i hi;split at h
   ·rename_i x hx;split at h
    ·injection h with h;subst h;exact⟨o_,hi,x,hx,by assumption⟩
    ·split at h
     ·split at h
      ·rename_i m hm;obtain⟨_,_,_,_,h3,_⟩:=aM hm;have:=na h;exact⟨o_,this.2⟩
      ·have:=na h;exact⟨o_,this.2⟩
     ·have:=na h;exact⟨o_,this.2⟩
   ·cases h
  ·cases h
theorem aV {l:List NX}{k j:Nat}(h:elseAt l k=some j):∃x e,l[k]?=some x/\x.faa=3/\endAt l k=some e/\k<j/\j<e/\∃y,l[j]?=some y/\y.faa=4:=by
 unfold elseAt at h;split at h
 ·rename_i x e hx he;split at h
  ·rename_i h3;have:=na h;exact⟨x,e,hx,h3,he,o_,this.2⟩
  ·cases h
 ·cases h
def funsF:List NX->Nat->List Nat
 | [],_=>[]
 | x::l,i=>(if x.faa=0 then [i]else [])++funsF l (i+1)
def ay (l:List NX):List Nat:=funsF l 0
theorem Cw {l:List NX}{i:Nat}{x:NX}(hx:l[i]?=some x):funsF (l.drop i) i=(if x.faa=0 then [i]else [])++funsF (l.drop (i+1)) (i+1):=by rw[dD hx,funsF]
theorem V82{p:Prop}(h:p:=by
 refine⟨o_,by simp only[d5];omega,y,?_,hk⟩;rw[show k-i=(k-(i+1))+1 by omega,j6]
 exact hy):p:=h
theorem vS:∀{l:List NX} {i k:Nat},k∈funsF l i->i<=k/\k<i+l.length/\∃x,l[k-i]?=some x/\x.faa=0
 | [],_,_,h=>by simp[funsF]at h
 | x::l,i,k,h=>by
  rw[funsF,e7]at h;rcases h with h|h
  ·split at h
   ·simp only[d7,l8,or_false]at h;subst h;exact⟨o_,s_,x,s_,by assumption⟩
   ·cases h
  ·obtain⟨h1,h2,y,hy,hk⟩:=vS h;exact V82
theorem oq {l:List NX}{k:Nat}(h:k∈ay l):k<l.length/\∃x,l[k]?=some x/\x.faa=0:=by have:=vS h;simpa using this.2
def findN:List NX->Nat->List UInt8->Option Nat
 | [],_,_=>none
 | x::l,i,s=>if x.faa=0/\x.fac=s then some i else findN l (i+1) s
def kC (l:List NX)(s:List UInt8):Int:=cA (findN l 0 s)
theorem HZ {l:List NX}{i:Nat}{x:NX}{s:List UInt8}(hx:l[i]?=some x):findN (l.drop i) i s=if x.faa=0/\x.fac=s then some i else findN (l.drop (i+1)) (i+1) s:=by rw[dD hx,findN]
theorem wJ:∀{l:List NX} {i k:Nat} {s:List UInt8},findN l i s=some k->i<=k/\k<i+l.length/\∃x,l[k-i]?=some x/\x.faa=0/\x.fac=s
 | [],_,_,_,h=>by rw[findN]at h;cases h
 | x::l,i,k,s,h=>by
  rw[findN]at h;split at h
  ·injection h with h;subst h;exact⟨o_,s_,x,s_,by assumption⟩
  ·obtain⟨h1,h2,y,hy,hk⟩:=wJ h;exact V82
theorem eL {l:List NX}{k:Nat}{s:List UInt8}(h:findN l 0 s=some k):k<l.length/\∃x,l[k]?=some x/\x.faa=0/\x.fac=s:=by have:=wJ h;simpa using this.2
def gw (acc:List (List UInt8))(s:List UInt8):List (List UInt8):=if acc.contains s=true then acc else acc++[s]
def locN (l:List NX)(e:Nat):Nat->Nat->List (List UInt8)->List (List UInt8)
 | 0,_,acc=>acc
 | n+1,i,acc=>if i<e then(match l[i]? with
  | some x=>locN l e n (i+1) (if x.faa=1 then gw acc x.fac else acc)
  | none=>acc)else acc
def localsOf (l:List NX)(k:Int):List (List UInt8):=if 0<=k then(match l[k.toNat]?,endAt l k.toNat with
 | some x,some e=>if x.faa=0 then locN l e (e-k.toNat) k.toNat x.faj else []
 | _,_=>[])else []
theorem HT {l:List NX}{e i:Nat}{x:NX}{acc:List (List UInt8)}(hi:i<e)(hx:l[i]?=some x):locN l e (e-i) i acc=locN l e (e-(i+1)) (i+1) (if x.faa=1 then gw acc x.fac else acc):=by rw[show e-i=(e-(i+1))+1 by omega,locN,b9 hi,hx]
theorem KC {l:List NX}{e i n:Nat}{acc:List (List UInt8)}(hi:e<=i):locN l e n i acc=acc:=by
 cases n with
 | zero=>rfl
 | succ n=>rw[locN,b8 o_]
theorem BR (acc:List (List UInt8))(s:List UInt8):(gw acc s).length<=acc.length+1:=by unfold gw;split<;>simp
theorem DP {l:List NX}{e:Nat}:∀(n i:Nat) (acc:List (List UInt8)),(locN l e n i acc).length<=acc.length+n
 | 0,_,_=>by simp[locN]
 | n+1,i,acc=>by
  rw[locN];split
  ·split
   ·refine t7 (DP n _ _) ?_;split
    ·have:=BR acc (by assumption:NX).fac;omega
    ·omega
   ·omega
  ·omega
def cI (l:List NX)(locals:List (List UInt8))(t:Og):Bool:=
 if t.faa=1 then locals.contains t.fac
 else if t.faa=7 then(match findN l 0 t.fac with
  | some f=>(match l[f]? with|some x=>(x.faj.length:Int)==t.far|none=>false)
  | none=>false)
 else true
def eN (l:List NX)(locals:List (List UInt8))(ts:List Og):Bool:=ts.all (cI l locals)
def dep (x:NX)(d:Nat):Nat:=if x.faa=3\/x.faa=5 then d+1 else if x.faa=7 then d-1 else d
def np (l:List NX)(locals:List (List UInt8))(e:Nat):Nat->Nat->Nat->Bool
 | 0,_,_=>true
 | n+1,i,d=>if i<e then(match l[i]? with
  | some x=>if x.faa=0 then false else
   if dep x d<=4/\eN l locals x.fae=true then np l locals e n (i+1) (dep x d)else false
  | none=>false)else true
def anyE (l:List NX)(i:Nat):Nat->Nat->Bool
 | 0,_=>false
 | n+1,j=>(elseAt l j==some i)||anyE l i n (j+1)
theorem qy {l:List NX}{i:Nat}:∀{n j:Nat},anyE l i n j=true↔∃k,j<=k/\k<j+n/\elseAt l k=some i
 | 0,j=>by
  rw[anyE]
  exact⟨fun h=>(by cases h),fun⟨k,h1,h2,_⟩=>o_⟩
 | n+1,j=>by
  rw[anyE,v7,qy,w8];constructor
  ·rintro(h|⟨k,h1,h2,h3⟩)
   ·exact⟨j,o_,o_,h⟩
   ·exact⟨k,o_,o_,h3⟩
  ·rintro⟨k,h1,h2,h3⟩;by_cases hk:k=j
   ·subst hk;exact .inl h3
   ·exact .inr ⟨k,o_,o_,h3⟩
def elsesIn (l:List NX)(k e:Nat):Nat->Nat->Bool
 | 0,_=>true
 | n+1,i=>if i<e then(match l[i]? with
  | some x=>(if x.faa=4 then anyE l i (i-k) k else true)&&elsesIn l k e n (i+1)
  | none=>true)else true
theorem iZ {l:List NX}{k e:Nat}:∀{n i:Nat},e-i<=n->(elsesIn l k e n i=true↔∀j x,i<=j->j<e->l[j]?=some x->x.faa=4->anyE l j (j-k) k=true)
 | 0,i,h=>⟨fun _ j x h1 h2=>by omega,fun _=>rfl⟩
 | n+1,i,h=>by
  rw[elsesIn];by_cases hi:i<e
  ·rw[b9 hi]
   cases hx:l[i]? with
   | none=>
    refine⟨fun _ j x h1 h2 hj=>?_,fun _=>rfl⟩;have:l.length<=i:=E9.1 hx;rw[d8 o_]at hj
    cases hj
   | some x=>
    dsimp only;rw[c8,iZ o_];constructor
    ·rintro⟨h1,h2⟩ j y WA QE hy hk;by_cases he:j=i
     ·subst he;rw[hx]at hy;injection hy with hy;subst hy;rw[b9 hk]at h1;exact h1
     ·exact h2 j y o_ QE hy hk
    ·intro H;refine⟨?_,fun j y WA QE hy hk=>H j y o_ QE hy hk⟩;split
     ·exact H i x (d6 _) hi hx (by assumption)
     ·rfl
  ·rw[b8 hi];exact⟨fun _ j x h1 h2=>by omega,fun _=>rfl⟩
def mB (l:List NX)(locals:List (List UInt8))(k e:Nat):Nat->Nat->Nat->Bool
 | 0,_,_=>true
 | n+1,i,d=>if i<e then(match l[i]? with
  | some x=>if x.faa=0 then false else if x.faa=4/\anyE l i (i-k) k=false then false else
   if dep x d<=4/\eN l locals x.fae=true then mB l locals k e n (i+1) (dep x d)else false
  | none=>false)else true
theorem Fb {l:List NX}{locals:List (List UInt8)}{k e i d:Nat}{x:NX}(hi:i<e)(hx:l[i]?=some x):mB l locals k e (e-i) i d=if x.faa=0 then false else if x.faa=4/\anyE l i (i-k) k=false then false else if dep x d<=4/\eN l locals x.fae=true then mB l locals k e (e-(i+1)) (i+1) (dep x d)else false:=by rw[show e-i=(e-(i+1))+1 by omega,mB,b9 hi,hx]
theorem HM {l:List NX}{locals:List (List UInt8)}{k e i d n:Nat}(hi:e<=i):mB l locals k e n i d=true:=by
 cases n with
 | zero=>rfl
 | succ n=>rw[mB,b8 o_]
theorem BZ {l:List NX}{locals:List (List UInt8)}{k e:Nat}:∀{n i d:Nat},mB l locals k e n i d=(np l locals e n i d&&elsesIn l k e n i)
 | 0,i,d=>rfl
 | n+1,i,d=>by
  rw[mB,np,elsesIn];by_cases hi:i<e
  ·rw[b9 hi,b9 hi,b9 hi]
   cases hx:l[i]? with
   | none=>rfl
   | some x=>
    dsimp only;by_cases h0:x.faa=0
    ·rw[b9 h0,b9 h0];rfl
    ·rw[b8 h0,b8 h0];rw[BZ];by_cases h4:x.faa=4
     ·rw[b9 h4]
      cases ha:anyE l i (i-k) k with
      | false=>rw[b9 ⟨h4,rfl⟩];simp
      | true=>rw[b8 s_];split<;>simp_all
     ·rw[b8 (by simp[h4]),b8 h4];split<;>simp_all
  ·rw[b8 hi,b8 hi,b8 hi];rfl
def uP (l:List NX)(k e:Nat):Bool:=decide ((localsOf l (k:Int)).length<=8)&&np l (localsOf l (k:Int)) e (e-(k+1)) (k+1) 0
def mC (l:List NX)(k e:Nat):Bool:=decide ((localsOf l (k:Int)).length<=8)&&mB l (localsOf l (k:Int)) k e (e-(k+1)) (k+1) 0
theorem nk {l:List NX}{k e:Nat}:mC l k e=(uP l k e&&elsesIn l k e (e-(k+1)) (k+1)):=by rw[mC,uP,BZ,Bool.and_assoc]
theorem xJ {l:List NX}{k e:Nat}(h:uP l k e=true)(he:e<=l.length):∀i x,k<i->i<e->l[i]?=some x->x.faa≠0:=by
 rw[uP,c8]at h
 have key:∀(n i d:Nat),e-i<=n->np l (localsOf l (k:Int)) e n i d=true->∀j x,i<=j->j<e->l[j]?=some x->x.faa≠0:=by
  intro n
  induction n with
  | zero=>intro i d hn _ j x h1 h2;omega
  | succ n ih=>
   intro i d hn hb j x h1 h2 hx;rw[np,b9 o_]at hb;obtain⟨y,hy⟩:=ae (l:=l) (k:=i) o_;rw[hy]at hb;dsimp only at hb;split at hb
   ·cases hb
   ·rename_i h0;split at hb
    ·by_cases hj:j=i
     ·subst hj;rw[hy]at hx;injection hx with hx;subst hx;exact h0
     ·exact ih (i+1) _ o_ hb j x o_ h2 hx
    ·cases hb
 exact fun i x h1 h2 hx=>key _ _ _ (d6 _) h.2 i x o_ h2 hx
def bU (F:Nat->Nat->Bool)(l:List NX):Nat->Nat->Bool
 | 0,k=>decide (l.length<=k)
 | n+1,k=>if k<l.length then(match l[k]?,endAt l k with
  | some x,some e=>if x.faa=0/\F k e=true then bU F l n (e+1)else false
  | _,_=>false)else true
theorem mY {F:Nat->Nat->Bool}{l:List NX}{k n:Nat}{x:NX}(hx:l[k]?=some x)(hn:l.length-k<=n):bU F l n k=match endAt l k with|some e=>if x.faa=0/\F k e=true then bU F l (l.length-(e+1)) (e+1)else false|none=>false:=by
 have more:∀(n m k:Nat),l.length-k<=n->l.length-k<=m->bU F l n k=bU F l m k:=by
  intro n
  induction n with
  | zero=>
   intro m k h1 h2;rw[bU,s6 o_]
   cases m with
   | zero=>rw[bU,s6 o_]
   | succ m=>rw[bU,b8 o_]
  | succ n ih=>
   intro m k h1 h2
   cases m with
   | zero=>rw[bU,bU,b8 o_,s6 o_]
   | succ m=>
    rw[bU,bU];split
    ·split
     ·rename_i x e hx he;obtain⟨_,_,_,_,h3,_⟩:=aM he;split
      ·exact ih m (e+1) o_ o_
      ·rfl
     ·rfl
    ·rfl
 have hk:k<l.length:=by exact V104
 obtain⟨m,rfl⟩:∃m,n=m+1:=⟨n-1,o_⟩;rw[bU,b9 hk,hx]
 cases he:endAt l k with
 | none=>rfl
 | some e=>
  obtain⟨_,_,_,_,h3,_⟩:=aM he;dsimp only;split
  ·exact more _ _ _ o_ o_
  ·rfl
theorem wN {F:Nat->Nat->Bool}{l:List NX}{k n:Nat}(hk:l.length<=k):bU F l n k=true:=by
 cases n with
 | zero=>rw[bU,s6 hk]
 | succ n=>rw[bU,b8 o_]
def vp (l:List NX):Bool:=elsesIn l 0 l.length l.length 0
def nameFirst (l:List NX)(k:Nat):Bool:=match l[k]? with|some x=>findN l 0 x.fac==some k|none=>false
theorem yz {l:List NX}:∀(n k:Nat),l.length-k<=n->k<=l.length->(∀j m,j<k->endAt l j=some m->m<k)->
  (bU (mC l) l (l.length-k) k=(bU (uP l) l (l.length-k) k&&elsesIn l 0 l.length (l.length-k) k))
 | n,k,hn,hk,hP=>by
  by_cases J3:k<l.length
  ·obtain⟨x,hx⟩:=ae J3;rw[mY hx (d6 _),mY hx (d6 _)]
   cases he:endAt l k with
   | none=>simp
   | some e=>
    dsimp only;obtain⟨_,P1,ho,_,h3,h4⟩:=aM he;obtain⟨z,hz,hz7⟩:=bp he;by_cases h0:x.faa=0
    ·have hP':∀j m,j<e+1->endAt l j=some m->m<e+1:=by
      intro j m hj hm;rcases x6 j k with Pm|Pm|Pm
      ·have:=hP j m Pm hm;omega
      ·subst Pm;rw[he]at hm;injection hm with hm;omega
      ·obtain⟨y,hy,WO,_⟩:=aM hm;by_cases Uv:j=e
       ·subst Uv;rw[hz]at hy;injection hy with hy;subst hy;rw[opensK_iff]at WO;omega
       ·obtain⟨m',O8,_,h5⟩:=cT he Pm o_ hy WO;rw[hm]at O8;injection O8 with O8;omega
     cases n with
     | zero=>omega
     | succ n=>
      have ih:=yz (l:=l) n (e+1) o_ o_ hP'
      have YR:elsesIn l 0 l.length (l.length-k) k=(elsesIn l k e (e-(k+1)) (k+1)&&elsesIn l 0 l.length (l.length-(e+1)) (e+1)):=by
       rw[z7,c8,iZ (d6 _),iZ (d6 _),iZ (d6 _)];constructor
       ·intro H;refine⟨fun j y h5 h6 hy h7=>?_,fun j y h5 h6 hy h7=>H j y o_ h6 hy h7⟩;have:=H j y o_ o_ hy h7;rw[qy]at this⊢;obtain⟨i,h8,h9,Ub⟩:=this;refine⟨i,?_,o_,Ub⟩;rcases m6 i k with SM|SM
        ·obtain⟨_,m,_,_,WV,_,XN,_⟩:=aV Ub;have:=hP i m SM WV;omega
        ·exact SM
       ·rintro⟨H1,H2⟩ j y h5 h6 hy h7;rcases m6 e j with h8|h8
        ·exact H2 j y h8 h6 hy h7
        ·have Uv:j≠e:=fun h=>by
          subst h;rw[hz]at hy;injection hy with hy;subst hy;omega
         have Pm:j≠k:=fun h=>by
          subst h;rw[hx]at hy;injection hy with hy;subst hy;omega
         have:=H1 j y o_ o_ hy h7;rw[qy]at this⊢;obtain⟨i,h9,Ub,SM⟩:=this;exact⟨i,o_,o_,SM⟩
      rw[YR,ih,nk]
      cases uP l k e<;>cases elsesIn l k e (e-(k+1)) (k+1)<;>simp[h0]
    ·rw[b8 (by simp[h0]),b8 (by simp[h0])];rfl
  ·have:k=l.length:=o_;subst this;rw[wN (d6 _),wN (d6 _)];rw[v5];rfl
def kb:List UInt8:=[109,97,105,110]
def headOk (l:List NX):Bool:=match l with
 | []=>false
 | x::_=>x.faa==0&&(x.fac==kb&&x.faj.length==0)
def ah (l:List NX):Bool:=decide (l.length<=60)&&(decide (1<=(ay l).length/\(ay l).length<=6)&&(l.all dl&&(headOk l&&((ay l).all (nameFirst l)&&(bU (uP l) l l.length 0&&vp l)))))
theorem pC (l:List NX):bU (mC l) l l.length 0=(bU (uP l) l l.length 0&&vp l):=by have:=yz (l:=l) _ 0 (d6 _) o_ (fun j m h=>by omega);rw[x5]at this;exact this
def StkOk (l:List NX)(e:Nat):Nat->List Nat->Prop
 | i,[]=>endN (l.drop i) i 1=some e
 | i,m::es=>i<=m/\endN (l.drop i) i 1=some m/\StkOk l e (m+1) es
theorem StkOk.push {l:List NX}{e i:Nat}{es:List Nat}{x:NX}(h:StkOk l e i es)(hx:l[i]?=some x)(ho:dP x.faa=true):∃m,endAt l i=some m/\i<m/\StkOk l e (i+1) (m::es):=by
 have key:∀m',endN (l.drop i) i 1=some m'->∃m,endAt l i=some m/\i<m/\endN (l.drop (i+1)) (i+1) 1=some m/\endN (l.drop (m+1)) (m+1) 1=some m':=by
  intro m' hm;rw[dR hx,b9 ho,mO _ (d6 _) (d6 1) (d6 1)]at hm
  cases h1:endN (l.drop (i+1)) (i+1) 1 with
  | none=>rw[h1]at hm;cases hm
  | some m=>rw[h1]at hm;have:=ju h1;exact⟨m,by rw[rD hx ho];exact h1,o_,rfl,hm⟩
 cases es with
 | nil=>
  obtain⟨m,h1,h2,h3,h4⟩:=key e h
  exact⟨m,h1,h2,o_,h3,h4⟩
 | cons m' es=>obtain⟨g1,g2,g3⟩:=h;obtain⟨m,h1,h2,h3,h4⟩:=key m' g2;have:=ju h4;exact⟨m,h1,h2,o_,h3,o_,h4,g3⟩
theorem StkOk.other {l:List NX}{e i:Nat}{es:List Nat}{x:NX}(h:StkOk l e i es)(hx:l[i]?=some x)(ho:dP x.faa=false)(h7:x.faa≠7):StkOk l e (i+1) es:=by
 have key:∀m',endN (l.drop i) i 1=some m'->endN (l.drop (i+1)) (i+1) 1=some m':=by intro m' hm;rw[dR hx,b8 (by simp[ho]),b8 h7]at hm;exact hm
 cases es with
 | nil=>exact key e h
 | cons m' es=>obtain⟨g1,g2,g3⟩:=h;have:=ju (key m' g2);exact⟨o_,key m' g2,g3⟩
theorem StkOk.pop {l:List NX}{e i:Nat}{es:List Nat}{x:NX}(h:StkOk l e i es)(hx:l[i]?=some x)(h7:x.faa=7):(es=[]/\i=e)\/∃Pl,es=i::Pl/\StkOk l e (i+1) Pl:=by
 have ho:¬dP x.faa=true:=by rw[opensK_iff];omega
 cases es with
 | nil=>
  unfold StkOk at h;rw[dR hx,b8 ho,b9 h7,b9 rfl]at h;injection h with h
  exact .inl ⟨rfl,h⟩
 | cons m' es=>obtain⟨g1,g2,g3⟩:=h;rw[dR hx,b8 ho,b9 h7,b9 rfl]at g2;injection g2 with g2;subst g2;exact .inr ⟨es,rfl,g3⟩
theorem StkOk.le {l:List NX}{e:Nat}:∀{i:Nat} {es:List Nat},StkOk l e i es->i<=e
 | i,[],h=>(ju h).1
 | i,m::es,h=>by
  have:=StkOk.le h.2.2;have:=h.1;omega
inductive Ex where
 | node (t:Og) (es:List Ex)
mutual
def Ex.toks:Ex->List Og
 | .node t es=>t::ak es
def ak:List Ex->List Og
 | []=>[]
 | a::es=>a.toks++ak es
end
mutual
def Ex.ok:Ex->Prop
 | .node t es=>fZ t=true/\es.length=ar t/\ig es
def ig:List Ex->Prop
 | []=>True
 | a::es=>a.ok/\ig es
end
theorem Ex.toks_pos (e:Ex):0<e.toks.length:=by cases e;simp[Ex.toks]
theorem iJ:∀(a b:List Ex),ak (a++b)=ak a++ak b
 | [],b=>by rw[s8,ak,s8]
 | x::a,b=>by rw[p9,ak,ak,iJ a b,k0]
theorem wx:∀{l:List Ex} (n:Nat),ig l->ig (l.take n)
 | [],n,h=>by rw[List.take_nil];exact h
 | x::l,0,h=>by rw[C9];trivial
 | x::l,n+1,h=>by rw[q7];exact⟨h.1,wx n h.2⟩
theorem xF:∀{l:List Ex} (n:Nat),ig l->ig (l.drop n)
 | [],n,h=>by rw[List.drop_nil];exact h
 | x::l,0,h=>h
 | x::l,n+1,h=>by rw[List.drop_succ_cons];exact xF n h.2
theorem xn:∀{l:List Og} {p n e:Nat},endL l p n=some e->∃es:List Ex,es.length=n/\ig es/\∃rest,l=ak es++rest/\p+(ak es).length=e
 | l,p,0,e,h=>by
  have h:some p=some e:=by cases l<;>exact h
  injection h with h
  exact⟨[],rfl,trivial,l,rfl,by simp[ak];omega⟩
 | [],_,_+1,_,h=>by rw[endL]at h;cases h
 | t::l,p,n+1,e,h=>by
  rw[endL]at h;split at h
  ·rename_i J5;obtain⟨es,h1,h2,rest,h3,h4⟩:=xn h;refine⟨.node t (es.take (ar t))::es.drop (ar t),by simp;omega,⟨⟨J5,by simp;omega,wx _ h2⟩,xF _ h2⟩,rest,?_,?_⟩
   ·rw[ak,Ex.toks,p9,<-iJ,w5,p9,<-h3]
   ·rw[ak,Ex.toks,p9,<-iJ,w5,d5];omega
  ·cases h
mutual
theorem Ex.endL:∀(e:Ex),e.ok->∀(r:List Og) (p n:Nat),Go.Proofs.Ytoglejgmjeojoaa.endL (e.toks++r) p (n+1)=Go.Proofs.Ytoglejgmjeojoaa.endL r (p+e.toks.length) n
 | .node t es,h,r,p,n=>by
  rw[Ex.toks,p9,Go.Proofs.Ytoglejgmjeojoaa.endL,b9 h.1,show n+ar t=n+es.length by rw[h.2.1],Bu es h.2.2,d5];congr 1;omega
theorem Bu:∀(es:List Ex),ig es->∀(r:List Og) (p n:Nat),Go.Proofs.Ytoglejgmjeojoaa.endL (ak es++r) p (n+es.length)=Go.Proofs.Ytoglejgmjeojoaa.endL r (p+(ak es).length) n
 | [],_,r,p,n=>by rw[ak];simp
 | a::es,h,r,p,n=>by
  rw[ak,k0,d5,show n+(es.length+1)=(n+es.length)+1 by omega,Ex.endL a h.1,Bu es h.2,c7];congr 1;omega
end
theorem jC {l:List Og}(h:bh l=true):∃e:Ex,e.ok/\l=e.toks:=by
 unfold bh at h;simp only[c8,i7,w8]at h;obtain⟨_,h1,h2⟩:=h;rw[gW,b9 o_]at h2;show ∃e:Ex,e.ok/\l=e.toks
 cases he:Go.Proofs.Ytoglejgmjeojoaa.endL (l.drop (0:Int).toNat) (0:Int).toNat 1 with
 | none=>rw[he]at h2;simp only[cA]at h2;omega
 | some e=>
  rw[he]at h2;simp only[cA]at h2;obtain⟨es,g1,g2,rest,g3,g4⟩:=xn he
  match es,g1 with
  | [a],_=>
   rw[ak,ak,m9]at g3 g4;have e0:l.drop (0:Int).toNat=l:=rfl;rw[e0]at g3
   have:rest=[]:=by have:=congrArg List.length g3;rw[c7]at this;have e1:(0:Int).toNat=0:=rfl;rw[e1]at g4;exact z6.1 o_
   subst this;exact⟨a,g2.1,by rw[g3,m9]⟩
def jO (l:List Og)(p:Nat)(e:Ex):Prop:=∃r,l.drop p=e.toks++r
def lw (l:List Og)(p:Nat)(es:List Ex):Prop:=∃r,l.drop p=ak es++r
theorem pk {l:List Og}{p:Nat}{e:Ex}(h:jO l p e)(ho:e.ok):gW l (p:Int)=((p+e.toks.length:Nat):Int):=by
 obtain⟨r,h⟩:=h;rw[gW,b9 o_,d9,h,show(1:Nat)=0+1 from rfl,Ex.endL e ho]
 cases r<;>rfl
theorem mr {l:List Og}{p:Nat}{t:Og}{es:List Ex}(h:jO l p (.node t es)):l[p]?=some t/\lw l (p+1) es:=by
 obtain⟨r,h⟩:=h;rw[Ex.toks,p9]at h;refine⟨?_,r,?_⟩
 ·have:=congrArg (·[0]?) h;simpa [v9]using this
 ·have:=congrArg (·.drop 1) h;simpa [H6]using this
theorem fK {l:List Og}{p:Nat}{a:Ex}{es:List Ex}(h:lw l p (a::es)):jO l p a/\lw l (p+a.toks.length) es:=by obtain⟨r,h⟩:=h;rw[ak,k0]at h;refine⟨⟨_,h⟩,r,?_⟩;rw[<-H6,h,List.drop_left]
def rp:Nat->List Ex->List Nat
 | _,[]=>[]
 | p,a::es=>p::rp (p+a.toks.length) es
theorem Co:∀(p:Nat) (es:List Ex),(rp p es).length=es.length
 | _,[]=>rfl
 | p,a::es=>by rw[rp,d5,Co,d5]
theorem Ga:∀{l:List Og} {p:Nat} {es:List Ex} {k:Nat} {a:Ex},lw l p es->es[k]?=some a->∃q,(rp p es)[k]?=some q/\jO l q a
 | _,_,[],_,_,_,h=>by simp at h
 | l,p,b::es,0,a,hs,h=>by
  rw[e9]at h;injection h with h;subst h
  exact⟨p,by rw[rp,e9],(fK hs).1⟩
 | l,p,b::es,k+1,a,hs,h=>by
  rw[j6]at h;obtain⟨q,h1,h2⟩:=Ga (fK hs).2 h;exact⟨q,by rw[rp,j6];exact h1,h2⟩
theorem tk {t:Og}(h:fZ t=true):t.faa=0\/t.faa=1\/t.faa=7\/(2<=t.faa/\t.faa<=6):=by
 unfold fZ at h;split at h
 ·omega
 ·split at h
  ·omega
  ·split at h
   ·omega
   ·simp only[c8,within_iff]at h;omega
theorem Ba {t:Og}(h:fZ t=true):((t.faa=0\/t.faa=1)->ar t=0)/\(t.faa=7->(ar t:Int)=t.far)/\(2<=t.faa->t.faa<=6->ar t=2):=by
 obtain⟨e1,_⟩:=zn h;unfold oY at e1;rw[b8 (by simp[h])]at e1;refine⟨fun h0=>?_,fun h7=>?_,fun h2 h6=>?_⟩
 ·rw[b8 o_,b9 h0]at e1;omega
 ·rw[b9 h7]at e1;omega
 ·rw[b8 o_,b8 o_]at e1;omega
theorem jd:∀{l:List Og} {p:Nat} {es:List Ex} {j:Nat} {a:Ex},lw l p es->es[j]?=some a->jO l (p+(ak (es.take j)).length) a
 | _,_,[],_,_,_,h=>by simp at h
 | l,p,b::es,0,a,hs,h=>by
  rw[e9]at h;injection h with h;subst h
  simpa [ak]using(fK hs).1
 | l,p,b::es,j+1,a,hs,h=>by
  rw[j6]at h;have:=jd (fK hs).2 h;rw[q7,ak,c7,<-D7];exact this
end Go.Proofs.Ytoglejgmjeojoaa
namespace Go.Proofs.Ytoglejgmjeojoaa
noncomputable section
open Go.Sim
set_option maxRecDepth 100000
set_option maxHeartbeats 4000000
structure Cx where
 p:List NX
 b:NP
 framed:Bool
 words:Int
 args:Int
structure Sc where
 f:Nat
 chain:List Int
 locals:List (List UInt8)
 first:Int
 outer:Bool
structure Gs where
 items:List NW
 most:Int
 start:Bool
def la (C:Cx)(s:Gs)(depth code arg line:Int)(chain:List Int):NW:=⟨⟨code,arg⟩,line,s.start,chain,if C.framed=true/\0<s.items.length then 0 else depth,C.framed&&decide (0<s.items.length)⟩
def aI (C:Cx)(s:Gs)(depth code arg line:Int)(chain:List Int):Gs:=⟨s.items++[la C s depth code arg line chain],s.most,false⟩
def tZ (C:Cx)(x:Sc)(i:Int):Bool:=x.outer&&decide (i<C.args)
def kq (C:Cx)(x:Sc)(i:Int):Int:=if x.outer=true then i-C.args else x.first+i
def cM (C:Cx)(store:Bool):Int:=(if C.framed=true then 1 else 3)+(if store=true then 1 else 0)
def db (C:Cx)(x:Sc)(depth i:Int):Int:=
 if C.framed=true then(if tZ C x i=true then 1+(C.args-i)else -1-kq C x i)
 else(if tZ C x i=true then depth+(C.args-i)else depth-1-kq C x i)
def FP (C:Cx)(x:Sc)(s:Gs)(depth i line:Int):Gs:=aI C s depth (cM C false) (db C x depth i) line x.chain
def dL (C:Cx)(x:Sc)(s:Gs)(depth i line:Int)(chain:List Int):Gs:=aI C s depth (cM C true) (db C x depth i) line chain
def bR (C:Cx)(y:Sc)(chain:List Int)(line:Int):Nat->Int->Gs->Gs
 | 0,_,s=>s
 | n+1,d,s=>bR C y chain line n (d-1) (dL C y s d n line chain)
def cL (C:Cx)(y:Sc)(chain:List Int)(line d:Int):Nat->Nat->Gs->Gs
 | 0,_,s=>s
 | n+1,i,s=>cL C y chain line d n (i+1) (dL C y (aI C s d 0 0 line chain) (d+1) i line chain)
def bD (l:List NW)(j:Int)(v:Int):List NW:=if 0<=j then(match l[j.toNat]? with
 | some x=>l.set j.toNat ⟨⟨x.fad.fab,v⟩,x.fav,x.fak,x.fay,x.fau,x.faz⟩
 | none=>l)else l
def patchL (l:List NW)(v:Int):List Int->List NW
 | []=>l
 | j::js=>patchL (bD l j v) v js
def iV (p:List NX)(g:Nat):Nat:=((p.take g).filter fun x=>x.faa==0).length
def cK (C:Cx)(inside:List Nat)(g:Nat)(n:Nat):Bool:=decide ((inside.length:Int)<=C.b.faq)&&(decide (bT C.p (g:Int)-g<=9)&&(decide (n<200)&&!inside.contains g))
def jv (C:Cx)(rep:Sc->List Nat->Nat->Nat->Int->Gs->Gs)(x:Sc)(inside:List Nat)(line:Nat)(t:Og)(d:Int)(s:Gs):Gs:=
 if t.faa=0 then aI C s d 0 t.far line x.chain
 else if t.faa=1 then FP C x s d (dy x.locals t.fac) line
 else if t.faa=7 then(match findN C.p 0 t.fac with
  | some g=>if cK C inside g s.items.length=true then rep x inside line g d s else aI C s d 12 (iV C.p g) line x.chain
  | none=>s)
 else aI C s d (5+t.faa-2) 0 line x.chain
mutual
def dJ (C:Cx)(rep:Sc->List Nat->Nat->Nat->Int->Gs->Gs)(x:Sc)(inside:List Nat)(line:Nat):Ex->Int->Gs->Gs
 | .node t es,d,s=>jv C rep x inside line t (d+es.length) (cp C rep x inside line es d s)
def cp (C:Cx)(rep:Sc->List Nat->Nat->Nat->Int->Gs->Gs)(x:Sc)(inside:List Nat)(line:Nat):List Ex->Int->Gs->Gs
 | [],_,s=>s
 | a::es,d,s=>cp C rep x inside line es (d+1) (dJ C rep x inside line a d s)
end
def bz (C:Cx)(x:Sc):Int:=if x.outer=true then(x.locals.length:Int)-C.args else x.first+x.locals.length
def argsN (p:List NX)(g:Nat):Nat:=match p[g]? with|some l=>l.faj.length|none=>0
def bS (C:Cx)(x:Sc)(line g:Nat):Sc:=⟨g,x.chain++[(line:Int)],localsOf C.p (g:Int),bz C x,false⟩
def eS (C:Cx)(x:Sc)(line g:Nat)(d:Int)(s:Gs):Gs:=
 cL C (bS C x line g) x.chain line (d-argsN C.p g) ((localsOf C.p (g:Int)).length-argsN C.p g) (argsN C.p g)
  (bR C (bS C x line g) x.chain line (argsN C.p g) d ⟨s.items,max s.most (bz C x+(localsOf C.p (g:Int)).length),s.start⟩)
def ck (C:Cx)(x:Sc)(line:Nat)(d:Int)(s:Gs):Gs:=if s.start=true then aI C s d 15 0 line x.chain else s
def kO (C:Cx)(lines:Sc->List Nat->Int->Gs->Gs×List Int)(x:Sc)(inside:List Nat)(line g:Nat)(d:Int)(s:Gs):Gs:=
 let r:=lines (bS C x line g) (inside++[g]) (d-argsN C.p g) (ck C x line (d-argsN C.p g) (eS C x line g d s))
 ⟨patchL r.1.items r.1.items.length r.2,r.1.most,r.1.start⟩
def ownN (p:List NX)(k:Nat):Nat->Option Nat
 | 0=>none
 | n+1=>if endAt p n=some k\/elseAt p n=some k then some n else ownN p k n
def ownOf (p:List NX)(k:Nat):Nat:=(ownN p k p.length).getD 0
def kindAt (p:List NX)(k:Nat):Int:=match p[k]? with|some x=>x.faa|none=> -1
structure Ls where
 g:Gs
 heads:List Int
 pos:List Int
 lv:List Int
def exL (l:List Og):Ex:=if h:bh l=true then Classical.choose (jC h)else .node ⟨0,0,[]⟩ []
theorem nF {l:List Og}(h:bh l=true):(exL l).ok/\l=(exL l).toks:=by rw[exL,dif_pos h];exact r9 (jC h)
def atL (l:List Int)(k:Nat):Int:=l[k]?.getD 0
def bM (C:Cx)(x:Sc)(k:Nat)(last:Bool)(d:Int)(L:Ls):Ls:=
 if x.outer=true then(if C.framed=true then{L with g:=aI C L.g d 14 C.args k x.chain} else{L with g:=aI C L.g d 16 (C.args+16*C.words) k x.chain})
 else if last=true then L
 else{L with g:=aI C L.g d 10 0 k x.chain,lv:=L.lv++[(L.g.items.length:Int)]}
def cZ (C:Cx)(rep:Sc->List Nat->Nat->Nat->Int->Gs->Gs)(x:Sc)(inside:List Nat)(base:Int)(k:Nat)(ln:NX)(L:Ls):Ls:=
 if ln.faa=4 then
  let g:=aI C L.g base 10 0 k x.chain
  {L with g:=⟨bD g.items (atL L.pos (ownOf C.p k)) g.items.length,g.most,g.start⟩,pos:=L.pos.set k L.g.items.length}
 else if ln.faa=7 then
  if ownOf C.p k=x.f then bM C x k true (base+1) {L with g:=aI C L.g base 0 0 k x.chain}
  else if kindAt C.p (ownOf C.p k)=5 then{L with g:=aI C L.g base 10 (atL L.heads (ownOf C.p k)) k x.chain}
  else L
 else
  let L1:Ls:={L with g:=dJ C rep x inside k (exL ln.fae) base ⟨L.g.items,L.g.most,true⟩,heads:=L.heads.set k L.g.items.length}
  if ln.faa=1 then{L1 with g:=dL C x L1.g (base+1) (dy x.locals ln.fac) k x.chain}
  else if ln.faa=2 then{L1 with g:=aI C L1.g (base+1) 17 0 k x.chain}
  else if ln.faa=6 then bM C x k false (base+1) L1
  else{L1 with g:=aI C L1.g (base+1) 11 0 k x.chain,pos:=L1.pos.set k L1.g.items.length}
def fj (p:List NX)(k:Nat):Nat:=match elseAt p (ownOf p k)with|some j=>j|none=>ownOf p k
def bJ (C:Cx)(x:Sc)(k:Nat)(ln:NX)(L:Ls):Ls:=
 if ln.faa=7/\ownOf C.p k≠x.f then{L with g:=⟨bD L.g.items (atL L.pos (fj C.p k)) L.g.items.length,L.g.most,L.g.start⟩} else L
def fF (C:Cx)(rep:Sc->List Nat->Nat->Nat->Int->Gs->Gs)(x:Sc)(inside:List Nat)(base:Int):Nat->Nat->Ls->Ls
 | 0,_,L=>L
 | n+1,k,L=>match C.p[k]? with
  | some ln=>fF C rep x inside base n (k+1) (bJ C x k ln (cZ C rep x inside base k ln L))
  | none=>L
def dc (C:Cx)(s:Gs):Ls:=⟨s,List.replicate C.p.length 0,List.replicate C.p.length 0,[]⟩
def cO (p:List NX)(f:Nat):Nat:=(endAt p f).getD 0
def bv (C:Cx)(rep:Sc->List Nat->Nat->Nat->Int->Gs->Gs)(x:Sc)(inside:List Nat)(base:Int)(s:Gs):Gs×List Int:=
 let L:=fF C rep x inside base (cO C.p x.f-x.f) (x.f+1) (dc C s)
 (L.g,L.lv)
def bY (C:Cx):Nat->Sc->List Nat->Nat->Nat->Int->Gs->Gs
 | 0=>fun _ _ _ _ _ s=>s
 | n+1=>kO C (bv C (bY C n))
def cV (C:Cx)(f:Nat):Gs:=aI C ⟨[],(localsOf C.p (f:Int)).length-C.args,false⟩ 0 (if C.framed=true then 13 else 15) C.words f []
def aQ (C:Cx)(f:Nat):Sc:=⟨f,[],localsOf C.p (f:Int),0,true⟩
def dg (C:Cx)(f:Nat):Gs:=(bv C (bY C C.b.faq.toNat) (aQ C f) [f] C.words (cV C f)).1
end
end Go.Proofs.Ytoglejgmjeojoaa
namespace Go.Proofs.Ytoglejgmjeojoaa
open Go.Sim
set_option maxRecDepth 100000
set_option maxHeartbeats 4000000
theorem aJ {α:Type}{l:List α}{k:Nat}{x:α}(h:l[k]?=some x):k<l.length:=by
 rcases m6 k l.length with h'|h'
 ·exact h'
 ·rw[d8 h']at h;cases h
theorem sT {l:List NX}{i j e:Nat}(hi:endAt l i=some e)(hj:endAt l j=some e):i=j:=by
 have key:∀{i j:Nat},endAt l i=some e->endAt l j=some e->i<j->False:=by intro i j hi hj J3;obtain⟨x,hx,ho,_,h1,_⟩:=aM hj;obtain⟨m,hm,_,h2⟩:=cT hi J3 h1 hx ho;rw[hj]at hm;injection hm with hm;omega
 rcases x6 i j with h|h|h
 ·exact(key hi hj h).elim
 ·exact h
 ·exact(key hj hi h).elim
theorem jI {l:List NX}{e:Nat}:∀{n i j:Nat},elseN l e n i=some j->∀k x m,i<=k->k<j->l[k]?=some x->(x.faa=3\/x.faa=5)->endAt l k=some m->m<j
 | 0,_,_,h=>by rw[elseN]at h;cases h
 | n+1,i,j,h=>by
  intro k x m h1 h2 hx h3 hm;rw[elseN]at h;split at h
  ·split at h
   ·rename_i y hy;split at h
    ·injection h with h;omega
    ·split at h
     ·split at h
      ·rename_i m' O8;have hin:=na h;obtain⟨_,_,_,_,g1,_⟩:=aM O8;by_cases hk:k=i
       ·subst hk;rw[O8]at hm;injection hm with hm;omega
       ·by_cases N7:k<=m'
        ·by_cases hk3:k=m'
         ·subst hk3;obtain⟨z,hz,h7⟩:=bp O8;rw[hx]at hz;injection hz with hz;subst hz;omega
         ·obtain⟨m2,Sv,_,g2⟩:=cT O8 o_ o_ hx (by rw[opensK_iff];omega);rw[hm]at Sv;injection Sv with Sv;omega
        ·exact jI h k x m o_ h2 hx h3 hm
      ·rename_i M1;by_cases hk:k=i
       ·subst hk;rw[M1]at hm
        cases hm
       ·exact jI h k x m o_ h2 hx h3 hm
     ·by_cases hk:k=i
      ·subst hk;rw[hx]at hy;injection hy with hy;subst hy;rename_i K0;exact absurd h3 K0
      ·exact jI h k x m o_ h2 hx h3 hm
   ·cases h
  ·cases h
theorem lV {l:List NX}{i j k:Nat}(hi:elseAt l i=some k)(hj:elseAt l j=some k):i=j:=by
 have key:∀{i j:Nat},elseAt l i=some k->elseAt l j=some k->i<j->False:=by
  intro i j hi hj J3;obtain⟨y,ej,hy,h3,Uc,h4,h5,_⟩:=aV hj;unfold elseAt at hi;split at hi
  ·split at hi
   ·have:=jI hi j y ej o_ h4 hy (.inl h3) Uc;omega
   ·cases hi
  ·cases hi
 rcases x6 i j with h|h|h
 ·exact(key hi hj h).elim
 ·exact h
 ·exact(key hj hi h).elim
theorem tq {p:List NX}{k i:Nat}:∀{n:Nat},ownN p k n=some i->i<n/\(endAt p i=some k\/elseAt p i=some k)
 | 0,h=>by rw[ownN]at h;cases h
 | n+1,h=>by
  rw[ownN]at h;split at h
  ·injection h with h;subst h;exact⟨o_,by assumption⟩
  ·have:=tq h;exact⟨o_,this.2⟩
theorem vW {p:List NX}{k i:Nat}(hi:endAt p i=some k\/elseAt p i=some k):∀{n:Nat},i<n->∃j,ownN p k n=some j
 | 0,h=>o_
 | n+1,h=>by
  rw[ownN];split
  ·exact⟨_,rfl⟩
  ·by_cases he:i=n
   ·subst he;exact absurd hi (by assumption)
   ·exact vW hi o_
theorem kJ {p:List NX}{k i:Nat}(h:endAt p i=some k):ownOf p k=i:=by
 obtain⟨x,hx,_,_,_,_⟩:=aM h;obtain⟨j,hj⟩:=vW (.inl h) (aJ hx);rw[ownOf,hj];obtain⟨_,h1|h1⟩:=tq hj
 ·exact sT h1 h
 ·obtain⟨_,_,_,_,_,_,_,y,hy,h4⟩:=aV h1;obtain⟨z,hz,h7⟩:=bp h;rw[hy]at hz;injection hz with hz;subst hz;omega
theorem wl {p:List NX}{k i:Nat}(h:elseAt p i=some k):ownOf p k=i:=by
 obtain⟨x,e,hx,_,_,_,_,y,hy,h4⟩:=aV h;obtain⟨j,hj⟩:=vW (.inr h) (aJ hx);rw[ownOf,hj];obtain⟨_,h1|h1⟩:=tq hj
 ·obtain⟨z,hz,h7⟩:=bp h1;rw[hy]at hz;injection hz with hz;subst hz;omega
 ·exact lV h1 h
theorem lU {l:List NX}{i:Nat}{x:NX}(hx:l[i]?=some x)(h7:x.faa=7):∀(n s o e:Nat),i-s<=n->s<=i->1<=o->endN (l.drop s) s o=some e->i<=e->(∃k,s<=k/\k<i/\endAt l k=some i)\/∃j,1<=j/\j<=o/\endN (l.drop s) s j=some i
 | n,s,o,e,hn,hs,ho,h,hi=>by
  have M1:¬dP x.faa=true:=by rw[opensK_iff];omega
  by_cases he:s=i
  ·subst he;exact .inr ⟨1,d6 _,ho,by rw[dR hx,b8 M1,b9 h7,b9 rfl]⟩
  obtain⟨m,rfl⟩:∃m,n=m+1:=⟨n-1,o_⟩;have hl:=ju h;obtain⟨y,hy⟩:=ae (l:=l) (k:=s) o_;rw[dR hy]at h;by_cases J1:dP y.faa=true
  ·rw[b9 J1]at h;rcases lU hx h7 m (s+1) (o+1) e o_ o_ o_ h hi with⟨k,h1,h2,h3⟩|⟨j,h1,h2,h3⟩
   ·exact .inl ⟨k,o_,h2,h3⟩
   ·by_cases hj:j=1
    ·subst hj;exact .inl ⟨s,d6 _,o_,by rw[rD hy J1];exact h3⟩
    ·exact .inr ⟨j-1,o_,o_,by rw[dR hy,b9 J1,show j-1+1=j by omega];exact h3⟩
  ·rw[b8 J1]at h;by_cases WK:y.faa=7
   ·rw[b9 WK]at h;by_cases h1o:o=1
    ·rw[b9 h1o]at h;injection h with h;omega
    ·rw[b8 h1o]at h;rcases lU hx h7 m (s+1) (o-1) e o_ o_ o_ h hi with⟨k,h1,h2,h3⟩|⟨j,h1,h2,h3⟩
     ·exact .inl ⟨k,o_,h2,h3⟩
     ·exact .inr ⟨j+1,o_,o_,by rw[dR hy,b8 J1,b9 WK,b8 o_,show j+1-1=j by omega];exact h3⟩
   ·rw[b8 WK]at h;rcases lU hx h7 m (s+1) o e o_ o_ ho h hi with⟨k,h1,h2,h3⟩|⟨j,h1,h2,h3⟩
    ·exact .inl ⟨k,o_,h2,h3⟩
    ·exact .inr ⟨j,h1,h2,by rw[dR hy,b8 J1,b8 WK];exact h3⟩
structure CxOk (C:Cx):Prop where
 len:C.p.length<=60
 small:aH 1048576 (.lst 4 (C.p.map NX.tr))
 line:∀(k:Nat) (ln:NX),C.p[k]?=some ln->0<=ln.faa/\ln.faa<=7/\ln.faj.length<=4/\ln.fae.length<=20/\((ln.faa=1\/ln.faa=2\/ln.faa=3\/ln.faa=5\/ln.faa=6)->bh ln.fae=true)
 fn:∀(g:Nat) (ln:NX),C.p[g]?=some ln->ln.faa=0->∃e,endAt C.p g=some e/\(localsOf C.p (g:Int)).length<=8/\ln.faj.length<=(localsOf C.p (g:Int)).length/\∀(k:Nat) (y:NX),g<k->k<e->C.p[k]?=some y->y.faa≠0/\(∀t∈y.fae,t.faa=7->∃f,findN C.p 0 t.fac=some f/\(argsN C.p f:Int)=t.far)/\(y.faa=4->∃i,g<=i/\i<k/\elseAt C.p i=some k)
 args:0<=C.args/\C.args<=4
 words:0<=C.words/\C.words<=1000
 inl:0<=C.b.faq/\C.b.faq<=3
structure ScOk (C:Cx) (x:Sc) (ins:List Nat):Prop where
 fn:∃ln,C.p[x.f]?=some ln/\ln.faa=0
 loc:x.locals=localsOf C.p (x.f:Int)
 first:0<=x.first/\x.first<=8*ins.length
 chain:x.chain.length+1=ins.length
 out:x.outer=true↔x.chain=[]
 args:x.outer=true->C.args=argsN C.p x.f
 mem:ins.getLast?=some x.f
section
variable {C:Cx} {x:Sc} {ins:List Nat}
theorem CxOk.argsN (h:CxOk C)(g:Nat):argsN C.p g<=4:=by
 unfold Go.Proofs.Ytoglejgmjeojoaa.argsN;split
 ·rename_i l hl;have:=h.line _ _ hl;omega
 ·omega
theorem ScOk.endE (hC:CxOk C)(hx:ScOk C x ins):∃e,endAt C.p x.f=some e/\x.f<e/\e<C.p.length/\cO C.p x.f=e/\x.locals.length<=8:=by obtain⟨ln,h1,h2⟩:=hx.fn;obtain⟨e,h3,h4,h5,_⟩:=hC.fn _ _ h1 h2;obtain⟨_,_,_,_,h6,h7⟩:=aM h3;exact⟨e,h3,h6,h7,by rw[cO,h3];rfl,by rw[hx.loc];exact h4⟩
theorem ScOk.argLe (hC:CxOk C)(hx:ScOk C x ins):argsN C.p x.f<=x.locals.length:=by obtain⟨ln,h1,h2⟩:=hx.fn;obtain⟨e,h3,h4,h5,_⟩:=hC.fn _ _ h1 h2;rw[hx.loc,Go.Proofs.Ytoglejgmjeojoaa.argsN,h1];exact h5
theorem ScOk.own7 (hC:CxOk C)(hx:ScOk C x ins){e k:Nat}{ln:NX}(he:endAt C.p x.f=some e)(h1:x.f<k)(h2:k<=e)(hk:C.p[k]?=some ln)(h7:ln.faa=7):
  endAt C.p (ownOf C.p k)=some k/\((k=e/\ownOf C.p k=x.f)\/(k<e/\x.f<ownOf C.p k/\ownOf C.p k<k/\∃y,C.p[ownOf C.p k]?=some y/\(y.faa=3\/y.faa=5))):=by
 obtain⟨l0,g1,g2⟩:=hx.fn;obtain⟨e',g3,_,_,g4⟩:=hC.fn _ _ g1 g2;rw[he]at g3;injection g3 with g3;subst g3;by_cases M9:k=e
 ·subst M9;rw[kJ he];exact⟨he,.inl ⟨rfl,rfl⟩⟩
 ·obtain⟨z,hz,hzo,Zc,_,_⟩:=aM he;rcases lU hk h7 _ (x.f+1) 1 e (d6 _) o_ (d6 _) Zc h2 with⟨i,k1,k2,k3⟩|⟨j,k1,k2,k3⟩
  ·rw[kJ k3];obtain⟨y,hy,WO,_⟩:=aM k3;have:=(g4 i y o_ o_ hy).1;rw[opensK_iff]at WO;exact⟨k3,.inr ⟨o_,o_,k2,y,hy,o_⟩⟩
  ·have:j=1:=o_;subst this;rw[Zc]at k3;injection k3 with k3;omega
theorem ScOk.own4 (hC:CxOk C)(hx:ScOk C x ins){e k:Nat}{ln:NX}(he:endAt C.p x.f=some e)(h1:x.f<k)(h2:k<=e)(hk:C.p[k]?=some ln)(h4:ln.faa=4):
  elseAt C.p (ownOf C.p k)=some k/\x.f<ownOf C.p k/\ownOf C.p k<k/\k<e:=by
 obtain⟨l0,g1,g2⟩:=hx.fn;obtain⟨e',g3,_,_,g4⟩:=hC.fn _ _ g1 g2;rw[he]at g3;injection g3 with g3;subst g3
 have M9:k≠e:=fun h=>by
  subst h;obtain⟨y,hy,h7⟩:=bp he;rw[hk]at hy;injection hy with hy;subst hy;omega
 obtain⟨i,k1,k2,k3⟩:=(g4 k ln h1 o_ hk).2.2 h4;rw[wl k3];obtain⟨y,_,hy,h3,_⟩:=aV k3
 have:i≠x.f:=fun h=>by
  subst h;rw[g1]at hy;injection hy with hy;subst hy;omega
 exact⟨k3,o_,k2,o_⟩
end
abbrev tvP (l:List NX):TV:=tvL 4 (l.map NX.tr)
abbrev vP (l:List NX):AV:= .r (.c (.t (.lst 4 (l.map NX.tr))))
theorem mG (k:Int):Sim.Spec Try.prog 50 [tvI k] (rB (dP k)):=by
 refine aG hΓ aK Try.func50 rfl d_ rfl ?_;unfold dP;repeat' ((conv=>whnf);first|refine Or.inl ?_|apply oi|apply fi|intro h|refine⟨_,rfl,?_⟩|exact Y1|fail)
 all_goals(refine⟨congrArg Tr.bool ?_⟩;simp_all;(try(rw[z7];simp;omega)))
abbrev Nf (l:List NX)(k:Nat)(R:Int):={q:Nat×Nat//q.1<=l.length/\q.2<=q.1/\(q.2=0->q.1=k)/\cA (endN (l.drop q.1) q.1 q.2)=R}
theorem EI {l:List NX}{k:Nat}{x:NX}(hx:l[k]?=some x)(ho:dP x.faa=true):endN (l.drop k) k 0=endAt l k:=by rw[dR hx,b9 ho,rD hx ho]
theorem bB (l:List NX)(k:Int)(hl:l.length<=1048576):Sim.Spec Try.prog 28 [tvP l,tvI k] (rI (bT l k)):=by
 refine aG hΓ aK Try.func28 rfl d_ rfl ?_;have J0:(l.map NX.tr).length=l.length:=s_;by_cases hin:0<=k/\k<l.length
 ·obtain⟨h0,h1⟩:=hin;obtain⟨k,rfl⟩:=j8 h0;obtain⟨x,hx⟩:=ae (l:=l) (k:=k) o_;have hO:=mG x.faa
  skip
  cases ho:dP x.faa with
  | false=>
   rw[ho]at hO;have:bT l (k:Int)= -1:=by rw[bA,endAt,hx];dsimp only;rw[b8 (by simp[ho])];rfl
   rw[this]
   repeat' ((conv=>whnf);first|refine Or.inl ?_|apply oi|apply fi|intro h|refine⟨k,x.tr,rfl,ab hx,?_⟩|refine ci hO (ai rfl trivial) ?_|refine⟨_,rfl,?_⟩|exact Y2|fail)
  | true=>
   rw[ho]at hO;obtain⟨R,hR⟩:∃R,bT l (k:Int)=R:=⟨_,rfl⟩;rw[hR];rw[bA,<-EI hx ho]at hR;repeat' ((conv=>whnf);first|refine Or.inl ?_|apply oi|apply fi|intro h|refine⟨k,x.tr,rfl,ab hx,?_⟩|refine ci hO (ai rfl trivial) ?_|refine⟨_,rfl,?_⟩|exact Y2|fail)
   conv=>whnf
   refine⟨Nf l k R,fun q=>⟨[(0,vP l),(5,tI .i64 (q.1.2:Int)),(6,tI .i64 (q.1.1:Int))],[],[]⟩,fun q=>l.length-q.1.1,⟨(k,0),g_,o_,fun _=>rfl,hR⟩,?_,?_⟩
   ·exact Z2
   intro⟨⟨i,o⟩,hi,WT,hs,hr⟩;dsimp only at hi WT hs hr⊢;by_cases J3:i<l.length
   ·obtain⟨y,hy⟩:=ae J3;have UE:=mG y.faa;rw[dR hy]at hr
    cases Ua:dP y.faa with
    | true=>
     rw[Ua]at UE;rw[b9 Ua]at hr;have h7:y.faa≠7:=by rw[opensK_iff]at Ua;omega
     repeat' ((conv=>whnf);first|refine Or.inl ?_|apply oi|apply fi|intro h|refine⟨i,y.tr,rfl,ab hy,?_⟩|refine ci UE (ai rfl trivial) ?_|refine⟨_,rfl,?_⟩|exact Y2|fail)
     all_goals try(exfalso;(try simp_all[af]);(try omega);done)
     all_goals try exact K3
     conv=>whnf
     refine⟨⟨(i+1,o+1),g_,g_,fun h=>by omega,hr⟩,?_,KD⟩;repeat' ((conv=>whnf);first|refine Or.inl ?_|apply oi|apply fi|intro h|refine⟨_,rfl,?_⟩|exact Y4|fail)
     all_goals exact⟨by dsimp only;rw[c9 _ o_];rfl⟩
    | false=>
     rw[Ua]at UE;rw[b8 (by simp[Ua])]at hr
     have K0:o≠0:=fun h=>by
      have:=hs h;subst this;rw[hx]at hy;injection hy with hy;subst hy;rw[ho]at Ua
      cases Ua
     by_cases h7:y.faa=7
     ·rw[b9 h7]at hr;by_cases h1:o=1
      ·rw[b9 h1]at hr;subst hr;subst h1;repeat' ((conv=>whnf);first|refine Or.inl ?_|apply oi|apply fi|intro h|refine⟨i,y.tr,rfl,ab hy,?_⟩|refine ci UE (ai rfl trivial) ?_|refine⟨_,rfl,?_⟩|exact Y2|fail)
       all_goals try(exfalso;(try simp_all[af]);(try omega);done)
      ·rw[b8 h1]at hr;repeat' ((conv=>whnf);first|refine Or.inl ?_|apply oi|apply fi|intro h|refine⟨i,y.tr,rfl,ab hy,?_⟩|refine ci UE (ai rfl trivial) ?_|refine⟨_,rfl,?_⟩|exact Y2|fail)
       all_goals try(exfalso;(try simp_all[af]);(try omega);done)
       all_goals try exact K3
       conv=>whnf
       refine⟨⟨(i+1,o-1),g_,g_,fun h=>by omega,hr⟩,?_,KD⟩;repeat' ((conv=>whnf);first|refine Or.inl ?_|apply oi|apply fi|intro h|refine⟨_,rfl,?_⟩|exact Y4|fail)
       all_goals exact⟨by dsimp only;congr 1;rw[c9 _ o_];omega⟩
     ·rw[b8 h7]at hr;repeat' ((conv=>whnf);first|refine Or.inl ?_|apply oi|apply fi|intro h|refine⟨i,y.tr,rfl,ab hy,?_⟩|refine ci UE (ai rfl trivial) ?_|refine⟨_,rfl,?_⟩|exact Y2|fail)
      all_goals try(exfalso;(try simp_all[af]);(try omega);done)
      all_goals try exact K4
      conv=>whnf
      refine⟨⟨(i+1,o),g_,g_,fun h=>by omega,hr⟩,?_,KD⟩;exact Z6
   ·rw[lS o_]at hr;subst hr;exact Z3
 ·have:bT l k= -1:=by
   rw[bT];split
   ·rw[endAt,d8 o_];rfl
   ·rfl
  rw[this];exact Z3
end Go.Proofs.Ytoglejgmjeojoaa
namespace Go.Proofs.Ytoglejgmjeojoaa
open Go.Sim
set_option maxRecDepth 100000
theorem cS (a:List (List Tr)):(aC a).length=a.length:=by simp[aC]
theorem jB {l:List (List Tr)}{k:Nat}{r:List Tr}(h:l[k]?=some r):(aC l)[k]?=some (r.map .d):=by simp[aC,h]
theorem qD (l:List (List Tr))(k:Nat)(r:List Tr):(aC l).set k (r.map .d)=aC (l.set k r):=by simp[aC,E8]
theorem az {A:Prop}{Q:(ι:Type)->(ι->St)->Prop}(h:A):A\/∃(ι:Type) (S:ι->St),Q ι S:=Or.inl h
theorem qZ {α:Type}{g:α->List Tr}(l:List α)(h:∀x,∀c∈g x,∀sz rs,c≠.lst sz rs):flat (l.map g):=by intro row hr c hc sz rs;obtain⟨x,_,rfl⟩:=p6.1 hr;exact h x c hc sz rs
theorem da (l:List Int):flat (l.map aa):=qZ _ (by intro x c hc sz rs e;subst e;simp[aa]at hc)
end Go.Proofs.Ytoglejgmjeojoaa
namespace Go.Proofs.Ytoglejgmjeojoaa
open Go.Sim
set_option maxRecDepth 100000
set_option maxHeartbeats 4000000
theorem ls (l:List (List UInt8)):flat (l.map ax):=qZ _ (by intro x c hc sz rs e;subst e;simp[ax]at hc)
theorem Fe {l:List NX}{k:Nat}{x:NX}(hx:l[k]?=some x)(h:x.faa≠3\/endAt l k=none):elseAt l k=none:=by
 unfold elseAt;rw[hx]
 cases he:endAt l k with
 | none=>rfl
 | some e=>
  dsimp only;rw[b8];rcases h with h|h
  ·exact h
  ·rw[he]at h;cases h
theorem V40{p:Prop}(h:p:=by
 repeat' ((conv=>whnf);first|refine Or.inl ?_|apply oi|apply fi|intro h|refine ci hE (ai rfl (ai rfl trivial)) ?_|refine⟨k,x.tr,rfl,ab hx,?_⟩|refine⟨_,rfl,?_⟩|exact Y2|fail)
 all_goals try(exfalso;(try simp_all[af]);(try omega);done)):p:=h
theorem V71{p:Prop}(h:p:=by
 repeat' ((conv=>whnf);first|refine Or.inl ?_|apply oi|apply fi|intro h|refine ci hE (ai rfl (ai rfl trivial)) ?_|refine⟨_,rfl,?_⟩|exact Y2|fail)):p:=h
theorem fJ (l:List NX)(k:Int)(hl:l.length<=1048576):Sim.Spec Try.prog 31 [tvP l,tvI k] (rI (bE l k)):=by
 refine aG hΓ aK Try.func31 rfl d_ rfl ?_;have J0:(l.map NX.tr).length=l.length:=s_;have hE:=bB l k hl
 cases he:endAt l k.toNat with
 | none=>
  have h1:bT l k= -1:=by rw[bT,he];split<;>rfl
  have h2:bE l k= -1:=by
   rw[bE];split
   ·unfold elseAt;rw[he];cases l[k.toNat]?<;>rfl
   ·rfl
  rw[h1]at hE;rw[h2]
  repeat' ((conv=>whnf);first|refine Or.inl ?_|apply oi|apply fi|intro h|refine ci hE (ai rfl (ai rfl trivial)) ?_|refine⟨_,rfl,?_⟩|exact Y2|fail)
 | some e=>
  obtain⟨x,hx,ho,_,M9,N1⟩:=aM he;by_cases h0:0<=k
  ·obtain⟨k,rfl⟩:=j8 h0;rw[d9]at he hx M9;rw[bA,aZ he]at hE;by_cases h3:x.faa=3
   ·obtain⟨R,hR⟩:∃R,bE l (k:Int)=R:=⟨_,rfl⟩;rw[hR]
    have hR:cA (elseN l e (e-(k+1)) (k+1))=R:=by rw[bE,b9 h0,d9,elseAt,hx,he]at hR;dsimp only at hR;rw[b9 h3]at hR;exact hR
    repeat' ((conv=>whnf);first|refine Or.inl ?_|apply oi|apply fi|intro h|refine ci hE (ai rfl (ai rfl trivial)) ?_|refine⟨k,x.tr,rfl,ab hx,?_⟩|refine⟨_,rfl,?_⟩|exact Y2|fail)
    all_goals try(exfalso;(try simp_all[af]);(try omega);done)
    conv=>whnf
    refine⟨{i:Nat//k<i/\i<=e/\cA (elseN l e (e-i) i)=R},fun q=>⟨[(0,vP l),(5,tI .i64 (e:Int)),(6,tI .i64 (q.1:Int))],[],[]⟩,fun q=>e-q.1,⟨k+1,o_,o_,hR⟩,?_,?_⟩
    ·repeat' ((conv=>whnf);first|refine Or.inl ?_|apply oi|apply fi|intro h|refine⟨_,rfl,?_⟩|exact Y1|fail)
     all_goals exact⟨by dsimp only;rw[c9 _ o_];rfl⟩
    intro⟨i,UA,hi,hr⟩;dsimp only at UA hi hr⊢;by_cases J3:i<e
    ·obtain⟨y,hy⟩:=ae (l:=l) (k:=i) o_;rw[EP J3 hy]at hr;have WE:=bB l (i:Int) hl;by_cases h4:y.faa=4
     ·rw[b9 h4]at hr;subst hr;repeat' ((conv=>whnf);first|refine Or.inl ?_|apply oi|apply fi|intro h|refine ci WE (ai rfl (ai rfl trivial)) ?_|refine⟨i,y.tr,rfl,ab hy,?_⟩|refine⟨_,rfl,?_⟩|exact Y2|fail)
      all_goals try(exfalso;(try simp_all[af]);(try omega);done)
     ·rw[b8 h4]at hr;by_cases h5:y.faa=3\/y.faa=5
      ·rw[b9 h5]at hr;obtain⟨m,hm,TC,Sv⟩:=cT he (i:=i) UA J3 hy (opensK_iff.2 o_);rw[hm]at hr;dsimp only at hr;rw[bA,aZ hm]at WE;repeat' ((conv=>whnf);first|refine Or.inl ?_|apply oi|apply fi|intro h|refine ci WE (ai rfl (ai rfl trivial)) ?_|refine⟨i,y.tr,rfl,ab hy,?_⟩|refine⟨_,rfl,?_⟩|exact Y2|fail)
       all_goals try(exfalso;(try simp_all[af]);(try omega);done)
       all_goals
        conv=>whnf
        refine⟨⟨m+1,o_,o_,hr⟩,?_,KD⟩;repeat' ((conv=>whnf);first|refine Or.inl ?_|apply oi|apply fi|intro h|refine⟨_,rfl,?_⟩|exact Y4|fail)
        all_goals exact⟨by dsimp only;rw[c9 _ o_];rfl⟩
      ·rw[b8 h5]at hr;repeat' ((conv=>whnf);first|refine Or.inl ?_|apply oi|apply fi|intro h|refine ci WE (ai rfl (ai rfl trivial)) ?_|refine⟨i,y.tr,rfl,ab hy,?_⟩|refine⟨_,rfl,?_⟩|exact Y2|fail)
       all_goals try(exfalso;(try simp_all[af]);(try omega);done)
       all_goals try(exfalso;simp_all;done)
       conv=>whnf
       refine⟨⟨i+1,o_,o_,hr⟩,?_,KD⟩;repeat' ((conv=>whnf);first|refine Or.inl ?_|apply oi|apply fi|intro h|refine⟨_,rfl,?_⟩|exact Y4|fail)
       all_goals exact⟨by dsimp only;rw[c9 _ o_];rfl⟩
    ·rw[GN o_]at hr;subst hr;exact Z3
   ·have h2:bE l (k:Int)= -1:=by rw[bE,b9 h0,d9,Fe hx (.inl h3)];rfl
    rw[h2];exact V40
  ·have h1:bT l k= -1:=by rw[bT,b8 h0]
   have h2:bE l k= -1:=by rw[bE,b8 h0]
   rw[h1]at hE;rw[h2];exact V71
theorem cJ (l:List NX)(hl:l.length<=1048576):Sim.Spec Try.prog 25 [tvP l] (rL 1 ((ay l).map fun n:Nat=>aa n)):=by
 refine aG hΓ aK Try.func25 rfl d_ rfl ?_;have J0:(l.map NX.tr).length=l.length:=s_;obtain⟨R,hR⟩:∃R,ay l=R:=⟨_,rfl⟩;rw[hR];repeat' ((conv=>whnf);first|refine Or.inl ?_|apply oi|apply fi|intro h|refine⟨_,rfl,?_⟩|exact Y1|fail)
 conv=>whnf
 refine⟨{q:Nat×List Nat//q.1<=l.length/\q.2.length<=q.1/\q.2++funsF (l.drop q.1) q.1=R},fun q=>⟨[(0,vP l),(3,.r (.c (.own (5,0,0)))),(4,tI .i64 (q.1.1:Int))],[((5,0,0),some (.arr true 1 (q.1.2.map fun n:Nat=>aa n)))],[5]⟩,fun q=>l.length-q.1.1,⟨(0,[]),s_,s_,by simpa [ay]using hR⟩,?_,?_⟩
 ·exact Z2
 intro⟨⟨k,acc⟩,hk,Ow,hr⟩;dsimp only at hk Ow hr⊢;have ab4:(acc.map fun n:Nat=>aa n).length=acc.length:=s_;by_cases J3:k<l.length
 ·obtain⟨x,hx⟩:=ae J3;rw[Cw hx]at hr;by_cases h0:x.faa=0
  ·rw[b9 h0]at hr;repeat' ((conv=>whnf);first|refine Or.inl ?_|apply oi|apply fi|intro h|refine⟨k,x.tr,rfl,ab hx,?_⟩|refine⟨_,rfl,?_⟩|exact Y2|fail)
   all_goals try(exfalso;(try simp_all[af]);(try omega);done)
   all_goals try exact⟨⟨by simp;omega,by simp;omega⟩⟩
   conv=>whnf
   refine⟨⟨(k+1,acc++[k]),g_,by simp;omega,by rw[<-hr];simp⟩,?_,KD⟩;repeat' ((conv=>whnf);first|refine Or.inl ?_|apply oi|apply fi|intro h|refine⟨_,rfl,?_⟩|exact Y4|fail)
   all_goals exact⟨by simp[aa]⟩
  ·rw[b8 h0,s8]at hr;repeat' ((conv=>whnf);first|refine Or.inl ?_|apply oi|apply fi|intro h|refine⟨k,x.tr,rfl,ab hx,?_⟩|refine⟨_,rfl,?_⟩|exact Y2|fail)
   all_goals try(exfalso;(try simp_all[af]);(try omega);done)
   conv=>whnf
   refine⟨⟨(k+1,acc),g_,g_,hr⟩,?_,KD⟩;exact Z6
 ·rw[q8 o_,funsF,m9]at hr;subst hr;exact Z3
theorem cU (l:List NX)(s:List UInt8)(hl:l.length<=1048576):Sim.Spec Try.prog 27 [tvP l,tvS s] (rI (kC l s)):=by
 refine aG hΓ aK Try.func27 rfl d_ rfl ?_;have J0:(l.map NX.tr).length=l.length:=s_;obtain⟨R,hR⟩:∃R,kC l s=R:=⟨_,rfl⟩;rw[hR];repeat' ((conv=>whnf);first|refine Or.inl ?_|apply oi|apply fi|intro h|refine⟨_,rfl,?_⟩|exact Y1|fail)
 conv=>whnf
 refine⟨{k:Nat//k<=l.length/\cA (findN (l.drop k) k s)=R},fun q=>⟨[(0,vP l),(1,tS s),(5,tI .i64 (q.1:Int))],[],[]⟩,fun q=>l.length-q.1,⟨0,o_,hR⟩,?_,?_⟩
 ·exact Z2
 intro⟨k,hk,hr⟩;dsimp only at hk hr⊢;by_cases J3:k<l.length
 ·obtain⟨x,hx⟩:=ae J3;rw[HZ hx]at hr;by_cases h0:x.faa=0/\x.fac=s
  ·rw[b9 h0]at hr;obtain⟨h1,h2⟩:=h0;subst h2;subst hr;repeat' ((conv=>whnf);first|refine Or.inl ?_|apply oi|apply fi|intro h|refine⟨k,x.tr,rfl,ab hx,?_⟩|refine⟨_,rfl,?_⟩|exact Y2|fail)
   all_goals try(exfalso;(try simp_all[af]);(try omega);done)
  ·rw[b8 h0]at hr;repeat' ((conv=>whnf);first|refine Or.inl ?_|apply oi|apply fi|intro h|refine⟨k,x.tr,rfl,ab hx,?_⟩|refine⟨_,rfl,?_⟩|exact Y2|fail)
   all_goals try(exfalso;apply h0;simp_all;done)
   all_goals
    conv=>whnf
    refine⟨⟨k+1,o_,hr⟩,?_,KD⟩;exact Z6
 ·rw[q8 o_,findN]at hr;subst hr;exact Z3
abbrev rN (l:List (List UInt8)):Res:=rL 1 (l.map ax)
theorem Di {l:List NX}{k e:Nat}{x:NX}(hx:l[k]?=some x)(he:endAt l k=some e)(h0:x.faa=0):localsOf l (k:Int)=locN l e (e-k) k x.faj:=by rw[localsOf,b9 o_,d9,hx,he];dsimp only;rw[b9 h0]
theorem pZ {l:List NX}{k:Int}(h:∀e x,endAt l k.toNat=some e->l[k.toNat]?=some x->0<=k->x.faa≠0):localsOf l k=[]:=by
 rw[localsOf];split
 ·split
  ·rename_i x e hx he;rw[b8 (h e x he hx (by assumption))]
  ·rfl
 ·rfl
theorem GL {l:List NX}{k:Int}(hl:l.length<=1048576)(hs:∀x∈l,aR 1048576 x.tr):(localsOf l k).length<=2097152/\True:=by
 refine⟨?_,trivial⟩;rw[localsOf];split
 ·split
  ·rename_i x e hx he;obtain⟨_,_,_,_,h1,h2⟩:=aM he;have:=(eY (hs x (d4 hx))).2.1;split
   ·have:=DP (l:=l) (e:=e) (e-k.toNat) k.toNat x.faj;omega
   ·simp
  ·simp
 ·simp
theorem dA (l:List (List UInt8))(s:List UInt8)(hl:l.length<=2097152):Sim.Spec Try.prog 34 [tvL 1 (l.map ax),tvS s] (rI (dy l s)):=by
 refine aG hΓ aK Try.func34 rfl d_ rfl ?_;have J0:(l.map ax).length=l.length:=s_;obtain⟨R,hR⟩:∃R,dy l s=R:=⟨_,rfl⟩;rw[hR];repeat' ((conv=>whnf);first|refine Or.inl ?_|apply oi|apply fi|intro h|refine⟨_,rfl,?_⟩|exact Y1|fail)
 conv=>whnf
 refine⟨{k:Nat//k<=l.length/\cA (eQ (l.drop k) k s)=R},fun k=>⟨[(0,.r (.c (.t (.lst 1 (l.map ax))))),(1,tS s),(5,tI .i64 (k.1:Int))],[],[]⟩,fun k=>l.length-k.1,⟨0,o_,hR⟩,?_,?_⟩
 ·exact Z2
 intro⟨k,hk,hr⟩;dsimp only at hk hr⊢;by_cases J3:k<l.length
 ·obtain⟨x,hx⟩:=ae J3;rw[Ly hx]at hr
  cases he:(x==s)with
  | true=>
   rw[he,b9 rfl]at hr;have PX:=A3 he;subst PX;subst hr;repeat' ((conv=>whnf);first|refine Or.inl ?_|apply oi|apply fi|intro h|refine⟨k,(ax x),rfl,ab hx,?_⟩|refine⟨_,rfl,?_⟩|exact Y2|fail)
   all_goals try(exfalso;(try simp_all[af]);(try omega);done)
  | false=>
   rw[he,b8 s_]at hr;repeat' ((conv=>whnf);first|refine Or.inl ?_|apply oi|apply fi|intro h|refine⟨k,(ax x),rfl,ab hx,?_⟩|refine⟨_,rfl,?_⟩|exact Y2|fail)
   all_goals try(exfalso;(try simp_all[af]);(try omega);done)
   conv=>whnf
   refine⟨⟨k+1,o_,hr⟩,?_,KD⟩;exact Z6
 ·rw[q8 o_,eQ]at hr;subst hr;exact Z3
theorem fP (l:List NX)(k:Int)(hl:l.length<=1048576)(hs:∀x∈l,aR 1048576 x.tr):Sim.Spec Try.prog 30 [tvP l,tvI k] (rN (localsOf l k)):=by
 refine aG hΓ aK Try.func30 rfl d_ rfl ?_;have J0:(l.map NX.tr).length=l.length:=s_;have hE:=bB l k hl;by_cases h0:0<=k
 ·obtain⟨k,rfl⟩:=j8 h0;rw[bA]at hE
  cases he:endAt l k with
  | none=>
   rw[sC he]at hE;rw[pZ (fun e x h1 _ _=>by rw[d9,he]at h1;cases h1)]
   exact V71
  | some e=>
   rw[aZ he]at hE;obtain⟨x,hx,ho,_,M9,N1⟩:=aM he;by_cases QR:x.faa=0
   ·have SH:=eY (hs x (d4 hx));rw[Di hx he QR];obtain⟨R,hR⟩:∃R,locN l e (e-k) k x.faj=R:=⟨_,rfl⟩;rw[hR];have Ow:(x.faj.map ax).length=x.faj.length:=s_;repeat' ((conv=>whnf);first|refine Or.inl ?_|apply oi|apply fi|intro h|refine ci hE (ai rfl (ai rfl trivial)) ?_|refine⟨k,x.tr,rfl,ab hx,?_⟩|refine⟨_,rfl,?_⟩|exact Y2|fail)
    all_goals try(exfalso;(try simp_all[af]);(try omega);done)
    all_goals try exact⟨⟨by simp;omega,by simp;omega⟩⟩
    conv=>whnf
    refine⟨{q:Nat×List (List UInt8)//k<=q.1/\q.1<=e/\q.2.length<=1048576+q.1/\locN l e (e-q.1) q.1 q.2=R},fun q=>⟨[(0,vP l),(5,tI .i64 (e:Int)),(6,.r (.c (.own (6,0,0)))),(7,tI .i64 (q.1.1:Int))],[((6,0,0),some (.arr false 1 (q.1.2.map ax)))],[6]⟩,fun q=>e-q.1.1,⟨(k,x.faj),g_,g_,g_,hR⟩,?_,?_⟩
    ·repeat' ((conv=>whnf);first|refine Or.inl ?_|apply oi|apply fi|intro h|refine⟨_,rfl,?_⟩|exact Y1|fail)
     all_goals exact⟨s_⟩
    intro⟨⟨i,acc⟩,UA,hi,Zq,hr⟩;dsimp only at UA hi Zq hr⊢;have Q8:(acc.map ax).length=acc.length:=s_;by_cases J3:i<e
    ·obtain⟨y,hy⟩:=ae (l:=l) (k:=i) o_;rw[HT J3 hy]at hr;have hC:=dA acc y.fac o_;by_cases h1:y.faa=1
     ·rw[b9 h1]at hr;have PS:=yR (l:=acc) (s:=y.fac)
      generalize dy acc y.fac=ix at *
      unfold gw at hr
      cases hc:acc.contains y.fac with
      | true=>
       rw[hc]at PS hr;rw[b9 rfl]at hr;repeat' ((conv=>whnf);first|refine Or.inl ?_|apply oi|apply fi|intro h|refine ci hC (ai rfl (ai rfl trivial)) ?_|refine⟨i,y.tr,rfl,ab hy,?_⟩|refine⟨_,rfl,?_⟩|exact Y2|fail)
       all_goals try(exfalso;(try simp_all[af]);(try omega);done)
       all_goals
        conv=>whnf
        refine⟨⟨(i+1,acc),g_,g_,g_,hr⟩,?_,KD⟩
        exact Z6
      | false=>
       rw[hc]at PS hr;rw[b8 s_]at hr;repeat' ((conv=>whnf);first|refine Or.inl ?_|apply oi|apply fi|intro h|refine ci hC (ai rfl (ai rfl trivial)) ?_|refine⟨i,y.tr,rfl,ab hy,?_⟩|refine⟨_,rfl,?_⟩|exact Y2|fail)
       all_goals try(exfalso;(try simp_all[af]);(try omega);done)
       all_goals try exact⟨⟨by simp;omega,by simp;omega⟩⟩
       all_goals
        conv=>whnf
        refine⟨⟨(i+1,acc++[y.fac]),g_,g_,by simp;omega,hr⟩,?_,KD⟩;repeat' ((conv=>whnf);first|refine Or.inl ?_|apply oi|apply fi|intro h|refine⟨_,rfl,?_⟩|exact Y4|fail)
        all_goals exact⟨by simp[ax]⟩
     ·rw[b8 h1]at hr;repeat' ((conv=>whnf);first|refine Or.inl ?_|apply oi|apply fi|intro h|refine ci hC (ai rfl (ai rfl trivial)) ?_|refine⟨i,y.tr,rfl,ab hy,?_⟩|refine⟨_,rfl,?_⟩|exact Y2|fail)
      all_goals try(exfalso;(try simp_all[af]);(try omega);done)
      all_goals try(exfalso;simp_all;done)
      conv=>whnf
      refine⟨⟨(i+1,acc),g_,g_,g_,hr⟩,?_,KD⟩;exact Z6
    ·rw[KC o_]at hr;subst hr;repeat' ((conv=>whnf);first|refine Or.inl ?_|apply oi|apply fi|intro h|refine⟨_,rfl,?_⟩|exact Y2|fail)
     all_goals exact⟨⟨rfl,ls _⟩⟩
   ·rw[pZ (fun e x' h1 h2 _=>by rw[d9,hx]at h2;injection h2 with h2;subst h2;exact QR)];exact V40
 ·have h1:bT l k= -1:=by rw[bT,b8 h0]
  rw[h1]at hE;rw[pZ (fun e x _ _ h=>absurd h h0)];exact V71
abbrev vN (l:List (List UInt8)):AV:= .r (.c (.t (.lst 1 (l.map ax))))
theorem Nh {α:Type}{f:α->Bool}{l:List α}{k:Nat}{x:α}(hx:l[k]?=some x):(l.drop k).all f=(f x&&(l.drop (k+1)).all f):=by rw[dD hx,G7]
theorem StkOk.top {l:List NX}{e i m:Nat}{r:List Nat}(h:StkOk l e i (m::r)):i<=m:=h.1
abbrev nR (n:Nat):List Tr:=aa n
theorem GB {l:List NX}{x:NX}(hx:l[0]?=some x):headOk l=(x.faa==0&&(x.fac==kb&&x.faj.length==0)):=by
 cases l with
 | nil=>cases hx
 | cons y r=>rw[e9]at hx;injection hx with hx;subst hx;rfl
theorem ES {p q:Prop}[Decidable p][Decidable q]{α:Type}{a b:α}{r:α}(hp:p):((if p/\q then a else b)=r)=((if q then a else b)=r):=by
 by_cases hq:q
 ·rw[b9 ⟨hp,hq⟩,b9 hq]
 ·rw[b8 (fun h=>hq h.2),b8 hq]
theorem LU {l:List NX}{j i:Nat}:(bE l (j:Int)==(i:Int))=(elseAt l j==some i):=by
 rw[bE,b9 o_,d9]
 cases elseAt l j with
 | none=>simp[cA]
 | some m=>rw[z7];simp[cA];omega
theorem V35{p:Prop}(h:p:=by
 repeat' ((conv=>whnf);first|apply Wx|apply W6|apply oi|apply fi|intro h|refine⟨i,y.tr,rfl,ab hy,?_⟩|refine⟨j,t.tr,rfl,ab ht,?_⟩|refine cl hI ?_|refine cl hF ?_|refine⟨_,rfl,?_⟩|exact Y5|fail)
 all_goals try(exfalso;(try simp_all[af]);(try omega);done)):p:=h
theorem V23{p:Prop}(h:p:=by
 repeat' ((conv=>whnf);first|apply Wx|apply W6|apply oi|apply fi|intro h|refine⟨i,y.tr,rfl,ab hy,?_⟩|refine⟨j,t.tr,rfl,ab ht,?_⟩|refine cl hI ?_|refine cl hF ?_|refine⟨_,rfl,?_⟩|exact Y5|fail)
 all_goals try(exfalso;(try simp_all[af]);(try omega);done)
 all_goals try(exfalso;simp_all;done)
 conv=>whnf
 refine⟨⟨j+1,o_,N7⟩,?_,KD⟩
 exact Z4):p:=h
theorem vR (l:List NX)(k e:Nat)(hl:l.length<=60)(hs:∀x∈l,aR 1048576 x.tr)(he:endAt l k=some e):Sim.Spec Try.prog 29 [tvP l,tvI k,tvI e] (rB (mC l k e)):=by
 refine bF hΓ aK Try.func29 rfl d_ rfl ?_;have J0:(l.map NX.tr).length=l.length:=s_;have hL:=fP l k o_ hs;obtain⟨Zy,aap⟩:=GL (l:=l) (k:=(k:Int)) o_ hs;have Yr:=(aM he);obtain⟨x0,QQ,ho0,Te,M9,N1⟩:=Yr;unfold mC
 generalize localsOf l (k:Int)=loc at *
 have PF:(loc.map ax).length=loc.length:=s_;by_cases h8:loc.length<=8
 ·rw[s6 h8,m8];obtain⟨R,hR⟩:∃R,mB l loc k e (e-(k+1)) (k+1) 0=R:=⟨_,rfl⟩;rw[hR];repeat' ((conv=>whnf);first|apply Wx|apply W6|apply oi|apply fi|intro h|refine cl hL ?_|refine⟨_,rfl,?_⟩|exact Y5|fail)
  conv=>whnf
  refine⟨{q:Nat×List Nat//k<q.1/\q.1<=e/\StkOk l e q.1 q.2/\q.2.length<=4/\mB l loc k e (e-q.1) q.1 q.2.length=R},fun q=>⟨[(0,vP l),(1,tI .i64 (k:Int)),(2,tI .i64 (e:Int)),(7,.r (.c (.own (7,0,0)))),(8,tI .i64 ((q.1.2.length:Nat):Int)),(9,tI .i64 (q.1.1:Int))],[((7,0,0),some (.arr true 1 (loc.map ax)))],[7]⟩,fun q=>e-q.1.1,⟨(k+1,[]),g_,g_,Te,s_,hR⟩,?_,?_⟩
  ·exact Z4
  intro⟨⟨i,es⟩,q1,q2,g1,g2,g4⟩;dsimp only at q1 q2 g1 g2 g4⊢;by_cases J3:i<e
  ·obtain⟨y,hy⟩:=ae (l:=l) (k:=i) o_;have SZ:(y.fae.map Og.tr).length=y.fae.length:=s_;have abV:=(eY (hs y (d4 hy))).2.2.2.1;obtain⟨K,hK⟩:∃K,eN l loc y.fae=K:=⟨_,rfl⟩;rw[Fb J3 hy,hK]at g4;by_cases h0:y.faa=0
   ·rw[b9 h0]at g4;subst g4;repeat' ((conv=>whnf);first|apply Wx|apply W6|apply oi|apply fi|intro h|refine⟨i,y.tr,rfl,ab hy,?_⟩|refine⟨_,rfl,?_⟩|exact Y5|fail)
    all_goals try(exfalso;simp_all;done)
   ·rw[b8 h0]at g4;repeat' ((conv=>whnf);first|(with_reducible apply W1;fail_if_success (with_reducible show Wo _ _ _ _ (Code.seq (Code.region 8 _ _) _) _ _))|(with_reducible first|apply W2|apply W3|apply W4|apply W5|apply W6|apply W7|apply W8|apply W9)|apply aq|apply oi|apply fi|intro h|refine⟨i,y.tr,rfl,ab hy,?_⟩|refine⟨_,rfl,?_⟩|exact Y5|fail)
    refine ou {q:Nat×List Nat//StkOk l e (i+1) q.2/\q.1=q.2.length/\q.1<=60/\(if q.1<=4/\K=true then mB l loc k e (e-(i+1)) (i+1) q.1 else false)=R} (fun q=>⟨[(0,vP l),(1,tI .i64 (k:Int)),(2,tI .i64 (e:Int)),(7,.r (.c (.own (7,0,0)))),(8,tI .i64 ((q.1.1:Nat):Int)),(9,tI .i64 (i:Int))],[((7,0,0),some (.arr true 1 (loc.map ax)))],[7]⟩) ?_ ?_
    ·by_cases Ue:y.faa=3\/y.faa=5
     ·rw[b8 (fun h=>by omega)]at g4;have hd:dep y es.length=es.length+1:=by unfold dep;rw[b9 Ue]
      rw[hd]at g4;obtain⟨m',O8,UQ,PT⟩:=g1.push hy (opensK_iff.2 o_);have UZ:IntKind.i64.wrap ((es.length:Int)+1)=((es.length+1:Nat):Int):=by rw[c9 _ o_];omega
      repeat' ((conv=>whnf);first|apply Wx|apply W6|apply oi|apply fi|intro h|refine⟨i,y.tr,rfl,ab hy,?_⟩|refine⟨_,rfl,?_⟩|exact Y5|fail)
      all_goals try(exfalso;simp_all;done)
      all_goals
       conv=>whnf
       refine⟨⟨(es.length+1,m'::es),PT,rfl,g_,g4⟩,?_⟩;repeat' ((conv=>whnf);first|apply Wx|apply W6|apply oi|apply fi|intro h|refine⟨_,rfl,?_⟩|exact Y7|fail)
       all_goals try exact⟨by dsimp only;rw[UZ]⟩
     ·by_cases US:y.faa=7
      ·rw[b8 (fun h=>by omega)]at g4;rcases g1.pop hy US with⟨_,h'⟩|⟨Pl,PD,PT⟩
       ·omega
       have hd:dep y es.length=Pl.length:=by unfold dep;rw[b8 Ue,b9 US,PD];simp
       have hl4:es.length=Pl.length+1:=by rw[PD];rfl
       rw[hd]at g4;have UZ:IntKind.i64.wrap ((es.length:Int)-1)=(Pl.length:Int):=by rw[c9 _ o_];omega
       repeat' ((conv=>whnf);first|apply Wx|apply W6|apply oi|apply fi|intro h|refine⟨i,y.tr,rfl,ab hy,?_⟩|refine⟨_,rfl,?_⟩|exact Y5|fail)
       all_goals try(exfalso;simp_all;done)
       conv=>whnf
       refine⟨⟨(Pl.length,Pl),PT,rfl,g_,g4⟩,?_⟩;repeat' ((conv=>whnf);first|apply Wx|apply W6|apply oi|apply fi|intro h|refine⟨_,rfl,?_⟩|exact Y7|fail)
       all_goals try exact⟨by dsimp only;rw[UZ]⟩
      ·have hd:dep y es.length=es.length:=by unfold dep;rw[b8 Ue,b8 US]
       have ho:dP y.faa=false:=by
        cases hh:dP y.faa with
        | false=>rfl
        | true=>rw[opensK_iff]at hh;omega
       have PT:=g1.other hy ho US;rw[hd]at g4;by_cases h4:y.faa=4
       ·obtain⟨Av,hA⟩:∃Av,anyE l i (i-k) k=Av:=⟨_,rfl⟩;rw[hA]at g4;repeat' ((conv=>whnf);first|apply Wx|apply W6|apply oi|apply fi|intro h|refine⟨i,y.tr,rfl,ab hy,?_⟩|refine⟨_,rfl,?_⟩|exact Y5|fail)
        all_goals try(exfalso;simp_all;done)
        conv=>whnf
        refine⟨{q:Nat×Bool//q.1<=i/\(q.2||anyE l i (i-q.1) q.1)=Av},fun q=>⟨[(0,vP l),(1,tI .i64 (k:Int)),(2,tI .i64 (e:Int)),(7,.r (.c (.own (7,0,0)))),(8,tI .i64 ((es.length:Nat):Int)),(9,tI .i64 (i:Int)),(10,tB q.1.2),(11,tI .i64 (q.1.1:Int))],[((7,0,0),some (.arr true 1 (loc.map ax)))],[7]⟩,fun q=>i-q.1.1,⟨(k,false),g_,by simpa using hA⟩,?_,?_⟩
        ·exact Z1
        intro⟨⟨j,b⟩,hj,hb⟩;dsimp only at hj hb⊢;by_cases O2:j<i
        ·obtain⟨n,hn⟩:∃n,i-j=n+1:=⟨i-j-1,o_⟩;have Qn:i-(j+1)=n:=o_;rw[hn,anyE,<-LU]at hb;have hS:=fJ l (j:Int) o_
         generalize bE l (j:Int)=ee at *
         cases b with
         | true=>
          repeat' ((conv=>whnf);first|apply Wx|apply W6|apply oi|apply fi|intro h|refine cl hS ?_|refine⟨_,rfl,?_⟩|exact Y5|fail)
          conv=>whnf
          refine⟨⟨(j+1,true),g_,by simpa using hb⟩,?_,KD⟩
          exact Z4
         | false=>
          repeat' ((conv=>whnf);first|apply Wx|apply W6|apply oi|apply fi|intro h|refine cl hS ?_|refine⟨_,rfl,?_⟩|exact Y5|fail)
          conv=>whnf
          refine⟨⟨(j+1,(ee==(i:Int))),g_,by dsimp only;rw[Qn];simpa using hb⟩,?_,KD⟩;exact Z4
        ·rw[show i-j=0 by omega,anyE,Bool.or_false]at hb;subst hb
         cases b with
         | false=>
          rw[b9 ⟨h4,rfl⟩]at g4;subst g4
          exact Z5
         | true=>
          rw[b8 s_]at g4;repeat' ((conv=>whnf);first|apply Wx|apply W6|apply oi|apply fi|intro h|refine⟨_,rfl,?_⟩|exact Y5|fail)
          conv=>whnf
          refine⟨⟨(es.length,es),PT,rfl,g_,g4⟩,?_⟩;exact Z1
       ·rw[b8 (fun h=>h4 h.1)]at g4;repeat' ((conv=>whnf);first|apply Wx|apply W6|apply oi|apply fi|intro h|refine⟨i,y.tr,rfl,ab hy,?_⟩|refine⟨_,rfl,?_⟩|exact Y5|fail)
        all_goals try(exfalso;simp_all;done)
        conv=>whnf
        refine⟨⟨(es.length,es),PT,rfl,g_,g4⟩,?_⟩;exact Z1
    clear g4 g1;intro⟨⟨d,Pl⟩,PT,QS,Xv,g4⟩;dsimp only at PT QS Xv g4⊢;have UZ:(d:Int)=(d:Int):=rfl;by_cases YZ:(d)<=4
    ·rw[ES YZ]at g4;repeat' ((conv=>whnf);first|apply Wx|apply W6|apply oi|apply fi|intro h|refine⟨i,y.tr,rfl,ab hy,?_⟩|refine⟨_,rfl,?_⟩|exact Y5|fail)
     all_goals try(exfalso;simp only[p8,i7]at h;omega)
     conv=>whnf
     refine⟨{j:Nat//j<=y.fae.length/\(y.fae.drop j).all (cI l loc)=K},fun q=>⟨[(0,vP l),(1,tI .i64 (k:Int)),(2,tI .i64 (e:Int)),(7,.r (.c (.own (7,0,0)))),(8,tI .i64 (d:Int)),(9,tI .i64 (i:Int)),(12,tI .i64 (q.1:Int))],[((7,0,0),some (.arr true 1 (loc.map ax)))],[7]⟩,fun q=>y.fae.length-q.1,⟨0,o_,hK⟩,?_,?_⟩
     ·exact Z1
     intro⟨j,hj,N7⟩;dsimp only at hj N7⊢;by_cases OM:j<y.fae.length
     ·obtain⟨t,ht⟩:=ae OM;rw[Nh ht]at N7;have hI:=dA loc t.fac o_;have hF:=cU l t.fac o_;by_cases h1:t.faa=1
      ·have e1:cI l loc t=loc.contains t.fac:=by unfold cI;rw[b9 h1]
       rw[e1]at N7;have PS:=yR (l:=loc) (s:=t.fac)
       generalize dy loc t.fac=ix at *
       generalize kC l t.fac=ff at *
       cases hc:loc.contains t.fac with
       | false=>
        rw[hc]at PS N7;rw[q9]at N7;subst N7;rw[b8 s_]at g4;subst g4
        exact V35
       | true=>rw[hc]at PS N7;rw[m8]at N7;exact V23
      ·by_cases h7:t.faa=7
       ·cases hf:findN l 0 t.fac with
        | none=>
         have e1:cI l loc t=false:=by unfold cI;rw[b8 h1,b9 h7,hf]
         rw[e1,q9]at N7;subst N7;rw[b8 s_]at g4;subst g4;rw[show kC l t.fac= -1 from sC hf]at hF
         exact V35
        | some f=>
         obtain⟨L8,x,hx,QQ,_⟩:=eL hf;have e1:cI l loc t=((x.faj.length:Int)==t.far):=by unfold cI;rw[b8 h1,b9 h7,hf];dsimp only;rw[hx]
         rw[e1]at N7;rw[show kC l t.fac=(f:Int) from aZ hf]at hF;have RN:(x.faj.map ax).length=x.faj.length:=s_;by_cases hn:(x.faj.length:Int)=t.far
         ·rw[w8.2 hn,m8]at N7;repeat' ((conv=>whnf);first|apply Wx|apply W6|apply oi|apply fi|intro h|refine⟨i,y.tr,rfl,ab hy,?_⟩|refine⟨j,t.tr,rfl,ab ht,?_⟩|refine⟨f,x.tr,rfl,ab hx,?_⟩|refine cl hI ?_|refine cl hF ?_|refine⟨_,rfl,?_⟩|exact Y5|fail)
          all_goals try(exfalso;(try simp_all[af]);(try omega);done)
          all_goals try(exfalso;simp_all;done)
          conv=>whnf
          refine⟨⟨j+1,o_,N7⟩,?_,KD⟩;exact Z4
         ·rw[z8.2 hn,q9]at N7;subst N7;rw[b8 s_]at g4;subst g4;repeat' ((conv=>whnf);first|apply Wx|apply W6|apply oi|apply fi|intro h|refine⟨i,y.tr,rfl,ab hy,?_⟩|refine⟨j,t.tr,rfl,ab ht,?_⟩|refine⟨f,x.tr,rfl,ab hx,?_⟩|refine cl hI ?_|refine cl hF ?_|refine⟨_,rfl,?_⟩|exact Y5|fail)
          all_goals try(exfalso;(try simp_all[af]);(try omega);done)
          all_goals try(exfalso;simp_all;done)
       ·have e1:cI l loc t=true:=by unfold cI;rw[b8 h1,b8 h7]
        rw[e1,m8]at N7;exact V23
     ·rw[q8 o_,List.all_nil]at N7;subst N7;rw[b9 rfl]at g4;repeat' ((conv=>whnf);first|apply Wx|apply W6|apply oi|apply fi|intro h|refine⟨i,y.tr,rfl,ab hy,?_⟩|refine⟨_,rfl,?_⟩|exact Y7|fail)
      all_goals try(exfalso;have h':=f9 h;rw[SZ]at h';omega)
      conv=>whnf
      refine⟨⟨(i+1,Pl),g_,g_,PT,g_,by dsimp only;rw[<-QS];exact g4⟩,?_,KD⟩;repeat' ((conv=>whnf);first|apply Wx|apply W6|apply oi|apply fi|intro h|refine⟨_,rfl,?_⟩|exact Y7|fail)
      all_goals try exact⟨by dsimp only;rw[QS]⟩
      all_goals try exact⟨K2⟩
    ·rw[b8 (fun h=>YZ h.1)]at g4;subst g4;repeat' ((conv=>whnf);first|apply Wx|apply W6|apply oi|apply fi|intro h|refine⟨i,y.tr,rfl,ab hy,?_⟩|refine⟨_,rfl,?_⟩|exact Y5|fail)
     all_goals try(exfalso;simp only[p8,i7]at h;omega)
  ·rw[HM o_]at g4;subst g4;exact Z5
 ·rw[C2 h8,q9];repeat' ((conv=>whnf);first|apply Wx|apply W6|apply oi|apply fi|intro h|refine cl hL ?_|refine⟨_,rfl,?_⟩|exact Y5|fail)
theorem Kb {l:List NX}:(ay l).all (nameFirst l)=true↔∀k x,l[k]?=some x->x.faa=0->nameFirst l k=true:=by
 rw[n7];constructor
 ·intro H k x hx h0;refine H k ?_
  have key:∀(n i:Nat),l.length-i<=n->i<=k->k∈funsF (l.drop i) i:=by
   have Om:k<l.length:=by exact V104
   intro n
   induction n with
   | zero=>intro i h1 h2;omega
   | succ n ih=>
    intro i h1 h2;obtain⟨y,hy⟩:=ae (l:=l) (k:=i) o_;rw[Cw hy,e7];by_cases Po:i=k
    ·subst Po;rw[hx]at hy;injection hy with hy;subst hy;rw[b9 h0];exact .inl s_
    ·exact .inr (ih (i+1) o_ o_)
  have:=key l.length 0 o_ o_;rwa [A8]at this
 ·intro H k hk;obtain⟨_,x,hx,h0⟩:=oq hk;exact H k x hx h0
def ok1 (l:List NX)(k:Nat)(x:NX):Bool:=dl x&&(if x.faa=0 then nameFirst l k else true)
def okN (l:List NX):Nat->Nat->Bool
 | 0,_=>true
 | n+1,k=>match l[k]? with
  | some x=>ok1 l k x&&okN l n (k+1)
  | none=>true
theorem Ci {l:List NX}{k:Nat}{x:NX}(hx:l[k]?=some x):okN l (l.length-k) k=(ok1 l k x&&okN l (l.length-(k+1)) (k+1)):=by
 have hk:k<l.length:=by exact V104
 rw[show l.length-k=(l.length-(k+1))+1 by omega,okN,hx]
theorem Ar {l:List NX}:∀(n k:Nat),l.length-k<=n->(okN l (l.length-k) k=true↔∀j x,k<=j->l[j]?=some x->ok1 l j x=true)
 | n,k,hn=>by
  by_cases hk:k<l.length
  ·obtain⟨x,hx⟩:=ae hk
   cases n with
   | zero=>omega
   | succ n=>
    rw[Ci hx,c8,Ar n (k+1) o_];constructor
    ·rintro⟨h1,h2⟩ j y hj hy;by_cases Pm:j=k
     ·subst Pm;rw[hx]at hy;injection hy with hy;subst hy;exact h1
     ·exact h2 j y o_ hy
    ·intro H;exact⟨H k x (d6 _) hx,fun j y hj hy=>H j y o_ hy⟩
  ·rw[show l.length-k=0 by omega];refine⟨fun _ j x hj hx=>?_,fun _=>rfl⟩;rw[d8 o_]at hx
   cases hx
theorem LJ (l:List NX):okN l l.length 0=(l.all dl&&(ay l).all (nameFirst l)):=by
 have h0:=Ar (l:=l) l.length 0 o_;rw[x5]at h0;rw[z7,h0,c8,Kb,n7];constructor
 ·intro H;refine⟨fun x hx=>?_,fun k x hx h0=>?_⟩
  ·obtain⟨k,hk⟩:=C3 hx;have:=H k x o_ hk;rw[ok1,c8]at this;exact this.1
  ·have:=H k x o_ hx;rw[ok1,c8,b9 h0]at this;exact this.2
 ·rintro⟨H1,H2⟩ j x _ hx;rw[ok1,c8];refine⟨H1 x (d4 hx),?_⟩;split
  ·exact H2 j x hx (by assumption)
  ·rfl
theorem tA {l:List NX}:ah l=(decide (l.length<=60)&&(decide ((ay l).length<=6)&&(headOk l&&(okN l l.length 0&&bU (mC l) l l.length 0)))):=by
 unfold ah;rw[LJ,pC]
 cases hh:headOk l with
 | false=>simp
 | true=>
  have h1:1<=(ay l).length:=by
   cases l with
   | nil=>cases hh
   | cons x r=>
    have:x.faa=0:=by unfold headOk at hh;simp only[c8,w8]at hh;exact hh.1
    rw[ay,funsF,b9 this];simp
  have e:(decide (1<=(ay l).length/\(ay l).length<=6))=decide ((ay l).length<=6):=by rw[decide_eq_decide];omega
  rw[e];generalize decide (l.length<=60)=b1;generalize decide ((ay l).length<=6)=b2;generalize l.all dl=b3;generalize(ay l).all (nameFirst l)=b4;generalize vp l=b5;generalize bU (uP l) l l.length 0=b6
  cases b1<;>cases b2<;>cases b3<;>cases b4<;>cases b5<;>cases b6<;>rfl
theorem V50{p:Prop}(h:p:=by
 repeat' ((conv=>whnf);first|apply Wx|apply W6|apply oi|apply fi|intro h|refine cl hF ?_|refine⟨0,x0.tr,rfl,ab QQ,?_⟩|refine⟨_,rfl,?_⟩|exact Y5|fail)
 all_goals try(exfalso;simp_all[kb];done)):p:=h
theorem V83{p:Prop}(h:p:=by
 unfold nameFirst;rw[hx,kC];dsimp only
 cases findN l 0 x.fac with
 | none=>simp[cA]
 | some m=>rw[z7];simp[cA];omega):p:=h
theorem V28{p:Prop}(h:p:=by
 repeat' ((conv=>whnf);first|apply Wx|apply W6|apply oi|apply fi|intro h|refine cl hL ?_|refine cl hN ?_|refine⟨k,x.tr,rfl,ab hx,?_⟩|refine⟨_,rfl,?_⟩|exact Y5|fail)
 all_goals try(exfalso;simp_all;done)
 all_goals
  conv=>whnf
  refine⟨⟨k+1,o_,by simp_all⟩,?_,KD⟩
  exact Z4):p:=h
theorem V30{p:Prop}(h:p:=by
 repeat' ((conv=>whnf);first|apply Wx|apply W6|apply oi|apply fi|intro h|refine cl hL ?_|refine cl hN ?_|refine⟨k,x.tr,rfl,ab hx,?_⟩|refine⟨_,rfl,?_⟩|exact Y5|fail)
 all_goals try(exfalso;simp_all;done)
 all_goals
  conv=>whnf
  refine⟨⟨k+1,o_⟩,?_,KD⟩
  exact Z4):p:=h
theorem cF (l:List NX)(SH:aH 1048576 (.lst 4 (l.map NX.tr))):Sim.Spec Try.prog 13 [tvP l] (rB (ah l)):=by
 refine bF hΓ aK Try.func13 rfl d_ rfl ?_;have hl:=cQ SH;have hs:∀x∈l,aR 1048576 x.tr:=fun x hx=>bi SH hx;have J0:(l.map NX.tr).length=l.length:=s_;have hF:=cJ l hl;have L8:((ay l).map fun n:Nat=>aa n).length=(ay l).length:=s_;rw[tA];by_cases c1:l.length<=60
 ·rw[s6 c1,m8];by_cases OP:0<l.length
  ·obtain⟨x0,QQ⟩:=ae OP;have Ow:(x0.faj.map ax).length=x0.faj.length:=s_;have UO:=GB QQ;by_cases c2:(ay l).length<=6
   ·rw[s6 c2,m8]
    cases hh:headOk l with
    | false=>
     rw[hh]at UO;rw[q9]
     exact V50
    | true=>
     rw[hh]at UO;rw[m8]
     cases J5:okN l l.length 0 with
     | false=>
      rw[q9];repeat' ((conv=>whnf);first|apply Wx|apply W6|apply oi|apply fi|intro h|refine cl hF ?_|refine⟨0,x0.tr,rfl,ab QQ,?_⟩|refine⟨_,rfl,?_⟩|exact Y5|fail)
      all_goals try(exfalso;simp_all[kb];done)
      conv=>whnf
      refine⟨{k:Nat//k<=l.length/\okN l (l.length-k) k=false},fun q=>⟨[(0,vP l),(3,tI .i64 (q.1:Int))],[],[]⟩,fun q=>l.length-q.1,⟨0,o_,by rw[x5];exact J5⟩,?_,?_⟩
      ·exact Z1
      intro⟨k,hk,hr⟩;dsimp only at hk hr⊢;by_cases J3:k<l.length
      ·obtain⟨x,hx⟩:=ae J3;rw[Ci hx,ok1]at hr;have hL:=oT x (hs x (d4 hx));have hN:=cU l x.fac hl
       have X0:(kC l x.fac==(k:Int))=nameFirst l k:=by exact V83
       generalize kC l x.fac=ff at *
       generalize dl x=lo at *
       generalize nameFirst l k=nf at *
       by_cases h0:x.faa=0
       ·rw[b9 h0]at hr;exact V28
       ·rw[b8 h0,Bool.and_true]at hr;exact V28
      ·rw[show l.length-k=0 by omega]at hr
       cases hr
     | true=>
      rw[m8];obtain⟨R,hR⟩:∃R,bU (mC l) l l.length 0=R:=⟨_,rfl⟩;rw[hR];have Rv:=(Ar (l:=l) l.length 0 o_);rw[x5]at Rv;have Rv:=Rv.1 J5;repeat' ((conv=>whnf);first|apply Wx|apply W6|apply oi|apply fi|intro h|refine cl hF ?_|refine⟨0,x0.tr,rfl,ab QQ,?_⟩|refine⟨_,rfl,?_⟩|exact Y5|fail)
      all_goals try(exfalso;simp_all[kb];done)
      conv=>whnf
      refine⟨{k:Nat//k<=l.length},fun q=>⟨[(0,vP l),(3,tI .i64 (q.1:Int))],[],[]⟩,fun q=>l.length-q.1,⟨0,o_⟩,?_,?_⟩
      ·exact Z1
      intro⟨k,hk⟩;dsimp only at hk⊢;by_cases J3:k<l.length
      ·obtain⟨x,hx⟩:=ae J3;have hr:=Rv k x o_ hx;rw[ok1]at hr;have hL:=oT x (hs x (d4 hx));have hN:=cU l x.fac hl
       have X0:(kC l x.fac==(k:Int))=nameFirst l k:=by exact V83
       clear Rv J5
       generalize kC l x.fac=ff at *
       generalize dl x=lo at *
       generalize nameFirst l k=nf at *
       by_cases h0:x.faa=0
       ·rw[b9 h0]at hr;exact V30
       ·rw[b8 h0,Bool.and_true]at hr;exact V30
      ·repeat' ((conv=>whnf);first|apply Wx|apply W6|apply oi|apply fi|intro h|refine⟨_,rfl,?_⟩|exact Y5|fail)
       conv=>whnf
       refine⟨{k:Nat//k<=l.length/\bU (mC l) l (l.length-k) k=R},fun q=>⟨[(0,vP l),(4,tI .i64 (q.1:Int))],[],[]⟩,fun q=>l.length-q.1,⟨0,o_,by rw[x5];exact hR⟩,?_,?_⟩
       ·exact Z1
       intro⟨k,hk,hr⟩;dsimp only at hk hr⊢;by_cases J3:k<l.length
       ·obtain⟨x,hx⟩:=ae J3;rw[mY hx (d6 _)]at hr;have hE:=bB l (k:Int) hl
        cases he:endAt l k with
        | none=>
         rw[bA,sC he]at hE;rw[he]at hr;subst hr;repeat' ((conv=>whnf);first|apply Wx|apply W6|apply oi|apply fi|intro h|refine cl hE ?_|refine⟨k,x.tr,rfl,ab hx,?_⟩|refine⟨_,rfl,?_⟩|exact Y5|fail)
         all_goals try(exfalso;simp_all;done)
        | some e=>
         obtain⟨_,_,_,_,M9,N1⟩:=aM he;rw[bA,aZ he]at hE;rw[he]at hr;dsimp only at hr;have hK:=vR l k e c1 hs he
         generalize mC l k e=fb at *
         by_cases hc:x.faa=0/\fb=true
         ·rw[b9 hc]at hr;obtain⟨d1,d2⟩:=hc;subst d2;repeat' ((conv=>whnf);first|apply Wx|apply W6|apply oi|apply fi|intro h|refine cl hE ?_|refine cl hK ?_|refine⟨k,x.tr,rfl,ab hx,?_⟩|refine⟨_,rfl,?_⟩|exact Y5|fail)
          all_goals try(exfalso;simp_all;done)
          conv=>whnf
          refine⟨⟨e+1,o_,hr⟩,?_,KD⟩;exact Z4
         ·rw[b8 hc]at hr;subst hr;repeat' ((conv=>whnf);first|apply Wx|apply W6|apply oi|apply fi|intro h|refine cl hE ?_|refine cl hK ?_|refine⟨k,x.tr,rfl,ab hx,?_⟩|refine⟨_,rfl,?_⟩|exact Y5|fail)
          all_goals try(exfalso;simp_all;done)
       ·rw[show l.length-k=0 by omega,bU,s6 o_]at hr;subst hr;exact Z5
   ·rw[C2 c2,q9];exact V50
  ·have Yu:l=[]:=z6.1 o_;subst Yu;rw[show headOk ([]:List NX)=false from rfl,q9,C8];repeat' ((conv=>whnf);first|apply Wx|apply W6|apply oi|apply fi|intro h|refine cl hF ?_|refine⟨_,rfl,?_⟩|exact Y5|fail)
 ·rw[C2 c1,q9];repeat' ((conv=>whnf);first|apply Wx|apply W6|apply oi|apply fi|intro h|refine cl hF ?_|refine⟨_,rfl,?_⟩|exact Y5|fail)
  all_goals try(exfalso;simp_all;done)
theorem lC {l:List Og}{p:Nat}{e:Ex}(h:jO l p e):p+e.toks.length<=l.length:=by obtain⟨r,h⟩:=h;have h1:=congrArg List.length h;rw[x8,c7]at h1;have:=e.toks_pos;omega
theorem uz (l:List Og)(p:Nat)(t:Og)(es:List Ex)(hl:l.length<=1048576)(hn:iv l)(ho:(Ex.node t es).ok)(hs:jO l p (.node t es)):Sim.Spec Try.prog 97 [tvL 3 (l.map Og.tr),tvI p] (rL 1 ((rp (p+1) es).map nR)):=by
 refine bF hΓ aK Try.func97 rfl d_ rfl ?_;have J0:(l.map Og.tr).length=l.length:=s_;have L3:=lC hs;obtain⟨ht,TI⟩:=mr hs;have hX:=ko l p hl hn;rw[pk hs ho]at hX;have htn:=hn t (d4 ht);have hA:=jA t htn;obtain⟨e1,e2⟩:=zn ho.1;have N1:es.length=ar t:=ho.2.1;rw[e1,<-N1]at hA;obtain⟨R,hR⟩:∃R,rp (p+1) es=R:=⟨_,rfl⟩;rw[hR]
 have PQ:p<l.length:=by have:=(Ex.node t es).toks_pos;omega
 generalize p+(Ex.node t es).toks.length=pe at *
 repeat' ((conv=>whnf);first|apply Wx|apply W6|apply oi|apply fi|intro h|refine cl hX ?_|refine⟨p,t.tr,rfl,ab ht,?_⟩|refine cl hA ?_|refine⟨_,rfl,?_⟩|exact Y5|fail)
 conv=>whnf
 refine⟨{q:Nat×List Nat×List Ex//q.2.1++rp q.1 q.2.2=R/\lw l q.1 q.2.2/\ig q.2.2/\q.2.1.length+q.2.2.length<=4/\q.1<=1048577},fun q=>⟨[(0,.r (.c (.t (.lst 3 (l.map Og.tr))))),(5,.r (.c (.own (5,0,0)))),(6,tI .i64 (q.1.1:Int)),(7,tI .i64 (q.1.2.2.length:Int))],[((5,0,0),some (.arr true 1 (q.1.2.1.map nR)))],[5]⟩,fun q=>q.1.2.2.length,⟨(p+1,[],es),hR,TI,ho.2.2,by simp;omega,g_⟩,?_,?_⟩
 ·exact Z4
 intro⟨⟨q,acc,fs⟩,h1,h2,h3,h4,h5⟩;dsimp only at h1 h2 h3 h4 h5⊢
 cases fs with
 | nil=>
  rw[rp,m9]at h1;subst h1;repeat' ((conv=>whnf);first|apply Wx|apply W6|apply oi|apply fi|intro h|refine⟨_,rfl,?_⟩|exact Y5|fail)
  all_goals try(exfalso;simp at h;done)
 | cons a fs=>
  obtain⟨g1,g2⟩:=fK h2;have ZP:=ko l q hl hn;rw[pk g1 h3.1]at ZP;have RJ:=lC g1;have L8:(a::fs).length=fs.length+1:=rfl;repeat' ((conv=>whnf);first|apply Wx|apply W6|apply oi|apply fi|intro h|refine cl ZP ?_|refine⟨_,rfl,?_⟩|exact Y5|fail)
  all_goals try(exfalso;simp at h;done)
  all_goals try exact⟨⟨by simp<;>omega,by simp<;>omega⟩⟩
  conv=>whnf
  refine⟨⟨(q+a.toks.length,acc++[q],fs),by dsimp only;rw[<-h1,rp];simp,g2,h3.2,by simp only[c7,d5,gt]at *;omega,g_⟩,?_,by dsimp only;simp⟩;repeat' ((conv=>whnf);first|apply Wx|apply W6|apply oi|apply fi|intro h|refine⟨_,rfl,?_⟩|exact Y7|fail)
  all_goals try exact⟨by dsimp only;rw[L8,c9 _ o_];congr 1;omega⟩
  all_goals exact⟨by simp[aa]⟩
end Go.Proofs.Ytoglejgmjeojoaa
