/- VMEff: a part of a verified evaluator of the model's code (or of its run), used for this seat's laws; it has no conditions. -/
import Derived.Test.YtfempmlelmdhbaaGreatVMHeap
set_option linter.all false
namespace Go.Proofs.YtfempmlelmdhbaaGreat.VM
open Go Go.RowKit

section
variable {P : Program} {T : Tb} {B : Nat} {β : Bt} {h : VH} (w : World)

theorem allLeaf_append : ∀ {a b : List VV}, allLeaf a = true → allLeaf b = true → allLeaf (a ++ b) = true
  | [], b, _, h => h
  | x :: a, b, h1, h2 => by
    simp only [allLeaf, List.cons_append] at h1 ⊢
    split at h1
    · exact allLeaf_append h1 h2
    · cases h1
theorem allLeaf_take : ∀ (n : Nat) {a : List VV}, allLeaf a = true → allLeaf (a.take n) = true := fun n _ h => allLeaf_of fun v hv => allLeaf_mem h v (List.mem_of_mem_take hv)
theorem allLeaf_drop : ∀ (n : Nat) {a : List VV}, allLeaf a = true → allLeaf (a.drop n) = true := fun n _ h => allLeaf_of fun v hv => allLeaf_mem h v (List.mem_of_mem_drop hv)

/-- A world after which everything below the base is as it was. -/
theorem Below.setRow' {B : Nat} {a w : World} (hb : Below B a w) {g : Nat} (hg : B ≤ g) (cs : Array Value) : Below B a (w.setRow g cs) :=
  ⟨hb.os, hb.tape, hb.output, by rw [setRow_size]; exact hb.size, fun k hk => by rw [setRow_other w g k cs (by omega)]; exact hb.block k hk⟩

theorem storeN_run (S : Sim B β h w) {b o : Nat} {vs : List VV} {h' : VH} {bi : BI} {xs : List Value} (hb : β b = some bi) (hs : storeN h b o vs = some h') (hr : VRelL β vs xs) :
    ∃ w1, (storeCells ⟨bi.rb, bi.off + o, none⟩ xs).run P w = .ok () w1 ∧ Sim B β h' w1 ∧ Below B w w1 ∧ h'.next = h.next := by
  unfold storeN at hs
  split at hs
  · rename_i cs hcs
    split at hs
    · rename_i hl0
      have hl : allLeaf vs = true ∧ 0 < vs.length := by
        cases vs with
        | nil => cases hl0
        | cons v vs => exact ⟨hl0, by simp⟩
      obtain ⟨hl, hpos⟩ := hl
      split at hs
      · rename_i cs' ho
        cases hs
        obtain ⟨e, hle⟩ := over_eq _ _ _ _ ho
        obtain ⟨arr, ty, fz, h1, h2, h3, h4⟩ := S.cells b bi false cs hb hcs
        obtain ⟨hfz0, hB⟩ := h4
        have hfz := hfz0 rfl
        subst hfz
        have hlen := hr.length
        have hfit : bi.off + o + xs.length ≤ arr.size := by
          have hlast : o + xs.length - 1 < cs.length := by omega
          obtain ⟨x, hx, _⟩ := h3 (o + xs.length - 1) _ (List.getElem?_eq_getElem hlast)
          rcases Nat.lt_or_ge (bi.off + (o + xs.length - 1)) arr.size with hc | hc
          · omega
          · rw [Array.getElem?_eq_none hc] at hx; cases hx
        have hrun := run_storeCells_at P bi.rb (bi.off + o) ty xs 0 arr w h1 (by omega) (hr.oneCells hl)
        simp only [Nat.add_zero] at hrun
        refine ⟨_, hrun, ?_, Below.setRow' (Below.refl B w) hB _, rfl⟩
        refine S.update hb (by rw [hcs]; rfl) ?_ ?_ (fun r hr => setRow_other w bi.rb r _ hr) (setRow_size w bi.rb _)
        · rw [e]
          exact allLeaf_append (allLeaf_append (allLeaf_take o (S.leaf b false cs hcs)) hl) (allLeaf_drop _ (S.leaf b false cs hcs))
        · refine ⟨_, ty, (0, 0), setRow_heap w bi.rb arr _ ty (0, 0) h1, ?_, ?_, fun _ => rfl⟩
          · simp; omega
          · intro i v hv
            rw [e] at hv
            simp only [List.getElem?_toArray]
            have ht : (arr.toList.take (bi.off + o)).length = bi.off + o := by simp; omega
            have hc : (cs.take o).length = o := by simp; omega
            by_cases h5 : i < o
            · rw [List.append_assoc, List.getElem?_append_left (by omega), List.getElem?_take, if_pos h5] at hv
              obtain ⟨x, hx, hrx⟩ := h3 i v hv
              refine ⟨x, ?_, hrx⟩
              rw [List.append_assoc, List.getElem?_append_left (by omega), List.getElem?_take, if_pos (by omega), Array.getElem?_toList]
              exact hx
            · by_cases h6 : i < o + vs.length
              · rw [List.append_assoc, List.getElem?_append_right (by omega), hc, List.getElem?_append_left (by omega)] at hv
                obtain ⟨x, hx, hrx⟩ := hr.get hv
                refine ⟨x, ?_, hrx⟩
                rw [List.append_assoc, List.getElem?_append_right (by omega), ht, List.getElem?_append_left (by omega)]
                rw [show bi.off + i - (bi.off + o) = i - o from by omega]; exact hx
              · rw [List.getElem?_append_right (by simp; omega), List.getElem?_drop] at hv
                have e1 : o + vs.length + (i - (cs.take o ++ vs).length) = i := by simp; omega
                rw [e1] at hv
                obtain ⟨x, hx, hrx⟩ := h3 i v hv
                refine ⟨x, ?_, hrx⟩
                rw [List.getElem?_append_right (by simp; omega), List.getElem?_drop]
                have e2 : bi.off + o + xs.length + (bi.off + i - (arr.toList.take (bi.off + o) ++ xs).length) = bi.off + i := by simp; omega
                rw [e2, Array.getElem?_toList]; exact hx
      · cases hs
    · cases hs
  · cases hs

end
end Go.Proofs.YtfempmlelmdhbaaGreat.VM
