/- VMIter: a part of a verified evaluator of the model's code (or of its run), used for this seat's laws; it has no conditions. -/
import Derived.Test.YtfempmlelmdhbaaGreatVMAppend
set_option linter.all false
namespace Go.Proofs.YtfempmlelmdhbaaGreat.VM
open Go Go.RowKit

section
variable {P : Program} {T : Tb} {B : Nat} {β : Bt} {h : VH} (w : World)

/-- What of a map an iterator has not seen. -/
def LeftR (β : Bt) : List (VV × VV × Nat) → List MapEntry → Prop
  | [], es => es = []
  | x :: xs, es => ∃ e es', es = e :: es' ∧ VRel β x.1 e.key ∧ VRel β x.2.1 e.val ∧ e.born = x.2.2 ∧ LeftR β xs es'

theorem leftOf_rel : ∀ {kvs : List (VV × VV)} {bs : List Nat} {es : List MapEntry} {seen : List Nat}, KvRel β kvs es → es.map (·.born) = bs →
    LeftR β (leftOf kvs bs seen) (es.filter fun e => !seen.contains e.born)
  | [], bs, es, seen, h, hb => by simp only [KvRel] at h; subst h; simp [leftOf, LeftR]
  | kv :: kvs, bs, es, seen, h, hb => by
    obtain ⟨e, es', rfl, h1, h2, h3⟩ := h
    simp only [List.map_cons] at hb
    subst hb
    have ih := leftOf_rel (seen := seen) h3 rfl
    have hc : seen.any (Nat.beq e.born) = seen.contains e.born := by
      rw [List.contains_eq_any_beq]
      have hf : (Nat.beq e.born) = fun x => e.born == x := by
        funext x; rw [Bool.eq_iff_iff, Nat.beq_eq]; simp
      rw [hf]
    simp only [leftOf, hc, List.filter_cons]
    cases seen.contains e.born with
    | true => simpa using ih
    | false => simp only [Bool.not_false, if_true]; exact ⟨e, _, rfl, h1, h2, rfl, ih⟩

/-- What is newly made, laid into the relation. -/
theorem alloc_after {w w1 : World} (S : Sim B β h w) {nb : Nat} {ob : VObj} {rob : Obj} {sz : Nat} (hn : β nb = none) (hlt : nb < h.next) (hg : h.get nb = ob) (hob : ObjRel β ob rob sz)
    (hw : w1.heap = w.heap.push rob) (hlk : World.Like w w1) : Sim B (β.add nb ⟨w.heap.size, 0, sz⟩) h w1 ∧ Below B w w1 := by
  have S1 := S.push hw
  refine ⟨S1.addAt hn hlt ?_ (fun _ => S.base) (by rw [hw, Array.size_push]; exact Nat.lt_succ_self _) (fun x bx hx _ => Nat.ne_of_lt (S.low x bx hx).2), ⟨hlk.os, hlk.tape, hlk.output, by rw [hw, Array.size_push]; omega, fun k hk => ?_⟩⟩
  · rw [hg]
    cases ob with
    | dead => exact hob.elim
    | cells ro cs =>
      obtain ⟨arr, ty, fz, e, h1, h2, h3, _⟩ := hob
      exact ⟨arr, ty, fz, by rw [hw, Array.getElem?_push, if_pos rfl, e], h1, fun i v hv => by rw [Nat.zero_add]; exact h2 i v hv, h3⟩
    | iter m since seen last =>
      obtain ⟨m', e, h1⟩ := hob
      exact ⟨m', by rw [hw, Array.getElem?_push, if_pos rfl, e], h1.mono (Bt.le_refl β), rfl⟩
    | map kvs bs cl =>
      obtain ⟨es, clock, e, h1⟩ := hob
      exact ⟨es, clock, by rw [hw, Array.getElem?_push, if_pos rfl, e], h1⟩
  · rw [hw, Array.getElem?_push, if_neg (by have := S.base; omega)]

variable (ok : T.Ok P)
include ok

/-- A new iterator. -/
theorem vrange_run (S : Sim B β h w) {t : TypeId} {x v : VV} {x' : Value} {h' : VH} (hv : vrange T.ty h t x = some (.val v h')) (hx : VRel β x x') :
    ∃ w1 r β', (Instr.range t x').run P w = .ok r w1 ∧ VRel β' v r ∧ After B β h w β' h' w1 := by
  unfold vrange at hv
  split at hv
  · rename_i i hi hr
    obtain ⟨d, inf, z, hd, hinf, hz, hzv, hzs, hs, hb, hde, hw, he⟩ := (ok.info hi).ex
    have hroom := room_le hr
    have hn := noneAbove w S
    have make : ∀ (m : Option Nat) (m' : Option Nat) (since : Nat) (w1 : World), ItR β m m' → w1 = w.alloc (.mapIter m' since #[] since) →
        After B β h w (β.add h.next ⟨w.heap.size, 0, 0⟩) (h.new (.iter m since [] since)) w1 := by
      intro m m' since w1 hm e
      subst e
      have S1 := S.newWeak hroom (o := .iter m since [] since) trivial
      have hg : (h.new (.iter m since [] since)).get h.next = .iter m since [] since := by rw [VH.get_new h _ _ (by omega), if_pos rfl]
      obtain ⟨S2, hbl⟩ := alloc_after (sz := 0) S1 hn (Nat.lt_succ_self _) hg (rob := .mapIter m' since #[] since) ⟨m', rfl, hm⟩ (w1 := w.alloc (.mapIter m' since #[] since)) rfl ⟨rfl, rfl, rfl⟩
      exact ⟨Bt.le_add hn _, fun b hb => Bt.add_ne _ _ (by omega), S2, hbl, Nat.le_succ _⟩
    split at hv
    · rename_i k e hdd
      rw [hde] at hdd
      cases d <;> simp only [mkVD, reduceCtorEq, VD.map.injEq] at hdd
      simp only [VRel] at hx; subst hx
      cases hv
      refine ⟨_, .pointer (some ⟨w.heap.size, 0, none⟩), _, ?_, ?_, make none none 0 _ trivial rfl⟩
      · simp only [Instr.range, Sem.run_bind, run_underlying hd, Result.andThen_ok, Sem.run_pure, run_newObj]
        rfl
      · exact ⟨_, Bt.add_self _ _ _, rfl⟩
    · rename_i k e b hdd
      rw [hde] at hdd
      cases d <;> simp only [mkVD, reduceCtorEq, VD.map.injEq] at hdd
      obtain ⟨bi, hbi, rfl⟩ := hx
      split at hv
      · rename_i kvs bs cl hk
        cases hv
        obtain ⟨es, clock, e1, ⟨e2, ebs, rfl⟩, e3⟩ := S.maps b bi kvs bs cl hbi hk
        have hg : (getObj bi.rb).run P w = .ok (.map es clock) w := by simp only [getObj, Sem.run, e1]
        refine ⟨_, .pointer (some ⟨w.heap.size, 0, none⟩), _, ?_, ?_, make (some b) (some bi.rb) clock _ ⟨bi, hbi, rfl⟩ rfl⟩
        · simp only [Instr.range, Sem.run_bind, run_underlying hd, Result.andThen_ok, Sem.run_pure, hg, run_newObj]
          rfl
        · exact ⟨_, Bt.add_self _ _ _, rfl⟩
      · cases hv
    · cases hv
  · cases hv

omit ok in
theorem LeftR.nil {es : List MapEntry} (h : LeftR β [] es) : es = [] := h
omit ok in
theorem LeftR.one {k v : VV} {s : Nat} {es : List MapEntry} (h : LeftR β [(k, v, s)] es) : ∃ e, es = [e] ∧ VRel β k e.key ∧ VRel β v e.val ∧ e.born = s := by
  obtain ⟨e, es', rfl, h1, h2, h3, h4⟩ := h
  have h4 := LeftR.nil h4
  subst h4
  exact ⟨e, rfl, h1, h2, h3⟩

omit ok in
/-- The next step of an iterator. -/
theorem vnext_run (S : Sim B β h w) {b : Nat} {v : VV} {h' : VH} {bi : BI} (hb : β b = some bi) (hv : vnext h b = some (.val v h')) (ty : TypeId) :
    ∃ w1 r, (Instr.next (.pointer (some ⟨bi.rb, bi.off, none⟩)) false ty).run P w = .ok r w1 ∧ VRel β v r ∧ After B β h w β h' w1 := by
  unfold vnext at hv
  split at hv
  · rename_i since seen last hg
    cases hv
    obtain ⟨m', e1, ⟨e2, e3⟩, e4⟩ := S.iters b bi _ _ _ _ hb hg
    cases m' with
    | some _ => exact e2.elim
    | none =>
      have hgo : (getObj bi.rb).run P w = .ok (.mapIter none since seen.toArray last) w := by simp only [getObj, Sem.run, e1]
      refine ⟨w, .tuple #[.bool false], ?_, ⟨_, rfl, _, _, rfl, rfl, rfl⟩, ⟨Bt.le_refl β, fun _ _ => rfl, S, Below.refl B w, Nat.le_refl _⟩⟩
      rw [e3]
      simp only [Instr.next, Sem.run_bind, hgo, Result.andThen_ok, Sem.run_pure]
  · rename_i m since seen last hg
    obtain ⟨m', e1, ⟨e2, e3⟩, e4⟩ := S.iters b bi _ _ _ _ hb hg
    cases m' with
    | none => exact e2.elim
    | some r =>
      obtain ⟨bm, hbm, rfl⟩ := e2
      have hgo : (getObj bi.rb).run P w = .ok (.mapIter (some bm.rb) since seen.toArray last) w := by simp only [getObj, Sem.run, e1]
      split at hv
      · rename_i kvs bs cl hk
        obtain ⟨es, clock, q1, ⟨q2, ebs, rfl⟩, q3⟩ := S.maps m bm kvs bs cl hbm hk
        have hgm : (getObj bm.rb).run P w = .ok (.map es clock) w := by simp only [getObj, Sem.run, q1]
        split at hv
        · cases hv
        · rename_i hcnd
          have hcnd' : (!seen.toArray.isEmpty && !es.isEmpty && es.all fun e => decide (e.born ≥ last)) = false := by
            rw [← hcnd, ← ebs]
            have g1 : seen.toArray.isEmpty = seen.isEmpty := by simp
            have g2 : es.isEmpty = (es.toList.map (·.born)).isEmpty := by cases es with | mk l => cases l <;> rfl
            have g3 : (es.all fun e => decide (e.born ≥ last)) = (es.toList.map (·.born)).all fun x => Nat.ble last x := by
              rw [← Array.all_toList, List.all_map]
              congr 1
              funext e
              rw [Bool.eq_iff_iff]; simp [Nat.ble_eq]
            rw [g1, g2, g3, Bool.and_assoc]
          have hleft := leftOf_rel (seen := seen) q2 ebs
          have hfl : ∀ l : List MapEntry, (es.toList.filter fun e => !seen.contains e.born) = l → (es.filter fun e => !seen.toArray.contains e.born) = l.toArray := by
            intro l hl
            apply Array.ext'
            rw [Array.toList_filter]
            simpa using hl
          split at hv
          · rename_i hlo
            cases hv
            rw [hlo] at hleft
            have hl := hfl [] (LeftR.nil hleft)
            refine ⟨w, .tuple #[.bool false], ?_, ⟨_, rfl, _, _, rfl, rfl, rfl⟩, ⟨Bt.le_refl β, fun _ _ => rfl, S, Below.refl B w, Nat.le_refl _⟩⟩
            rw [e3]
            simp only [Instr.next, Sem.run_bind, hgo, hgm, Result.andThen_ok, hcnd', hl]
            simp [Question.forced]
          · rename_i k x s hlo
            split at hv
            · rename_i hlt
              cases hv
              rw [hlo] at hleft
              obtain ⟨e, he, hk1, hv1, hs1⟩ := LeftR.one hleft
              subst hs1
              have hl := hfl [e] he
              have hlt' : e.born < since := by simpa [Nat.blt_eq] using hlt
              have hnge : ¬ (e.born ≥ since) := by omega
              have hlt2 : bi.rb < w.heap.size := (S.low b bi hb).2
              refine ⟨{ w with heap := w.heap.setIfInBounds bi.rb (.mapIter (some bm.rb) since (seen ++ [e.born]).toArray clock) }, .tuple #[.bool true, e.key, e.val], ?_, ⟨_, rfl, _, _, rfl, rfl, _, _, rfl, hk1, _, _, rfl, hv1, rfl⟩, ⟨Bt.le_refl β, fun _ _ => rfl, ?_, ⟨rfl, rfl, rfl, by simp, fun k hk' => ?_⟩, Nat.le_refl _⟩⟩
              · rw [e3]
                have ho : (#[e] : Array MapEntry).filter (fun x => decide (x.born < since)) = #[e] := by
                  apply Array.ext'; rw [Array.toList_filter]; simp [hlt']
                have hn2 : (#[e] : Array MapEntry).filter (fun x => decide (x.born ≥ since)) = #[] := by
                  apply Array.ext'; rw [Array.toList_filter]; simp; omega
                have hso : (setObj bi.rb (.mapIter (some bm.rb) since (seen.toArray.push e.born) clock)).run P w = .ok () { w with heap := w.heap.setIfInBounds bi.rb (.mapIter (some bm.rb) since (seen.toArray.push e.born) clock) } := by
                  simp only [setObj, Sem.run, e1]
                have hpush : seen.toArray.push e.born = (seen ++ [e.born]).toArray := by simp
                simp only [Instr.next, Sem.run_bind, hgo, hgm, Result.andThen_ok, hcnd', hl, ho, hn2]
                rw [hpush] at hso
                simp [Question.forced, hso]
              · refine S.update hb (by rw [hg]; rfl) trivial ⟨some bm.rb, ?_, ⟨bm, hbm, rfl⟩, e3⟩ (fun r hr => ?_) (by simp)
                · simp [hlt2]
                · show (w.heap.setIfInBounds bi.rb _)[r]? = _
                  rw [Array.getElem?_setIfInBounds_ne (Ne.symm hr)]
              · show (w.heap.setIfInBounds bi.rb _)[k]? = _
                rw [Array.getElem?_setIfInBounds_ne (by omega)]
            · cases hv
          · cases hv
      · cases hv
  · cases hv

end
end Go.Proofs.YtfempmlelmdhbaaGreat.VM
