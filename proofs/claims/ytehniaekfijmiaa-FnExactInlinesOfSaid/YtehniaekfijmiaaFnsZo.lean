/- What InlinesOf hands back is small. -/
import Derived.Test.YtehniaekfijmiaaFnsZn
import Derived.Test.YtehniaekfijmiaaMkB
namespace Go.Proofs.Ytehniaekfijmiaa
open Go.Sim
set_option maxRecDepth 100000
theorem nameTo_mem : ∀ (l : List TLine) (n : Nat), nameTo l n = [] ∨ ∃ x ∈ l, nameTo l n = x.fName
  | l, 0 => .inl rfl
  | l, n + 1 => by
    rw [nameTo]
    split
    · rename_i x hx
      split
      · exact .inr ⟨x, List.mem_of_getElem? hx, rfl⟩
      · exact nameTo_mem l n
    · exact nameTo_mem l n
theorem functionOfLine_short {l : List TLine} (hs : smallT 1048576 (.lst 4 (l.map TLine.tr))) (k : Int) : (functionOfLine l k).length ≤ 1048576 := by
  unfold functionOfLine
  split
  · rcases nameTo_mem l (k + 1).toNat with h | ⟨x, hx, h⟩
    · rw [h]; simp
    · rw [h]
      exact (line_small (smallRs_map hs hx)).1
  · simp
theorem nameAtI_short {l : List TLine} (hs : smallT 1048576 (.lst 4 (l.map TLine.tr))) (x : TItem) (lv : Nat) : (nameAtI l x lv).length ≤ 1048576 := by
  unfold nameAtI
  split <;> exact functionOfLine_short hs _
theorem lvN_short {p : List TLine} {l : List TPlace} (hs : smallT 1048576 (.lst 4 (p.map TLine.tr))) (lv : Nat) : ∀ (n i : Nat), ∀ x ∈ lvN p l lv n i, x.fName.length ≤ 1048576
  | 0, _ => by intro x hx; simp [lvN] at hx
  | n + 1, i => by
    intro x hx
    rw [lvN] at hx
    split at hx
    · cases hx
    · split at hx
      · exact lvN_short hs lv n _ x hx
      · split at hx
        · cases hx
        · rcases List.mem_cons.1 hx with rfl | hx
          · exact nameAtI_short hs _ _
          · exact lvN_short hs lv n _ x hx
theorem lvls_short {p : List TLine} {l : List TPlace} (hs : smallT 1048576 (.lst 4 (p.map TLine.tr))) : ∀ (n lv : Nat), ∀ x ∈ lvls p l n lv, x.fName.length ≤ 1048576
  | 0, _ => by intro x hx; simp [lvls] at hx
  | n + 1, lv => by
    intro x hx
    rw [lvls, List.mem_append] at hx
    rcases hx with hx | hx
    · exact lvN_short hs lv _ _ x hx
    · exact lvls_short hs n _ x hx
theorem small_InlineL {l : List TInline} (hl : l.length ≤ 1048576) (hn : ∀ x ∈ l, x.fName.length ≤ 1048576) : smallT 1048576 (.lst 5 (l.map TInline.tr)) := small_map hl fun x hx => by
  have := hn x hx
  simp [TInline.tr, smallR, smallT]
  omega
theorem chains_of {l : List TPlace} {z : Int} (hz : z ≤ 1048576) (h : 0 ≤ szT (.lst 8 (l.map TPlace.tr)) z) : chains l ≤ 1048576 := by
  rw [szT] at h
  split at h
  · omega
  · have := chains_le l (z - (l.map TPlace.tr).length) (by omega) h
    omega
theorem inlinesOf_small {p : List TLine} {l : List TPlace} (hs : smallT 1048576 (.lst 4 (p.map TLine.tr))) (hc : chains l ≤ 1048576) : smallT 1048576 (.lst 5 ((inlinesOf p l).map TInline.tr)) := by
  unfold inlinesOf
  split
  · refine small_InlineL ?_ (lvls_short hs _ _)
    have := lvls_len (p := p) (l := l) (n := deepF l 0) (lv := 0)
    rw [chainsFrom_zero] at this
    omega
  · exact small_InlineL (by simp) (by simp)
end Go.Proofs.Ytehniaekfijmiaa
