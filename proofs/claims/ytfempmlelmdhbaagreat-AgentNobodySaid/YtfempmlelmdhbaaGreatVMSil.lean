/- VMSil: a part of a verified evaluator of the model's code (or of its run), used for this seat's laws; it has no conditions. -/
import Derived.Test.YtfempmlelmdhbaaGreatVMStep
set_option linter.all false
namespace Go.Proofs.YtfempmlelmdhbaaGreat.VM
open Go Go.RowKit

section
variable {P : Program} {T : Tb} {B : Nat} {β : Bt} {h : VH} (w : World)

/-- A block that the VM never writes is marked. -/
theorem Sim.mark (S : Sim B β h w) {b : Nat} {bi : BI} {cs : List VV} (hb : β b = some bi) (hg : h.get b = .cells true cs) {w' : World} {arr : Array Value} {ct : TypeId} {fz fz' : Nat × Nat}
    (he : w.heap[bi.rb]? = some (.cells arr ct fz)) (he' : w'.heap[bi.rb]? = some (.cells arr ct fz')) (hother : ∀ q, q ≠ bi.rb → w'.heap[q]? = w.heap[q]?) (hsize : w'.heap.size = w.heap.size) : Sim B β h w' := by
  refine Sim.mk' (fun x bx hx => ?_) (fun x bx hx => S.baseOf hx) S.okLeaf S.disj (fun x bx hx => by rw [hsize]; exact S.low x bx hx) S.wf S.small (by rw [hsize]; exact S.base)
  by_cases hr : bx.rb = bi.rb
  · have hno : (h.get x).rw = true → False := by
      intro hw
      by_cases e : x = b
      · subst e; rw [hg] at hw; cases hw
      · exact S.disj x b bx bi e hx hb hw (by rw [hg]; rfl) hr
    have ha := S.at hx
    cases ho : h.get x with
    | dead => trivial
    | cells ro cs' =>
      rw [ho] at ha hno
      cases ro with
      | false => exact (hno rfl).elim
      | true =>
        obtain ⟨arr', ct', fz2, q1, q2, q3, q4⟩ := ha
        rw [hr, he] at q1
        cases q1
        exact ⟨arr, ct, fz', by rw [hr]; exact he', q2, q3, fun e => by cases e⟩
    | map kvs bs cl => rw [ho] at hno; exact (hno rfl).elim
    | iter m since seen last => rw [ho] at hno; exact (hno rfl).elim
  · exact (S.at hx).world (hother _ hr)

variable (ok : T.Ok P)
include ok

theorem vsil_run (S : Sim B β h w) {n : Nat} {tm : Tm} {a : Act} (r : TmRel β n tm a.tmps) (o : Oper) {v : VV} (he : vsil T tm o.op h = some v) :
    ∃ x w1, (execOp a.eval o).run P w = .ok (.value x) w1 ∧ VRel β v x ∧ After B β h w β h w1 := by
  obtain ⟨dst, op, type, pos, after, guard⟩ := o
  simp only at he
  cases op <;> simp only [vsil, reduceCtorEq] at he
  case convert s d x =>
    split at he
    · rename_i i b o len cap sz hi hx
      obtain ⟨ds, inf, z, hd, hinf, hz, hzv, hzs, hs', hb, hde, hw, _⟩ := (ok.info hi).ex
      split at he
      · rename_i e cs hdd hsd hcs
        rw [hde] at hdd
        cases ds <;> simp only [mkVD, reduceCtorEq, VD.slice.injEq] at hdd
        rename_i e'
        subst hdd
        have hsd' := Nat.eq_of_beq_eq_true hsd
        subst hsd'
        split at he
        · rename_i ei hei
          obtain ⟨de, infe, ze, hde1, f1, f2, f3, f4, f5, f6, hdee, f7, f8⟩ := (ok.info hei).ex
          split at he
          · rename_i hk
            rw [hdee] at hk
            cases de <;> simp only [mkVD, reduceCtorEq, VD.int.injEq] at hk
            subst hk
            cases he
            have hrx := veval_rel r hx
            obtain ⟨bi, hbi, off', cap', hxe, hoff, hlc, hsz, hcc⟩ := hrx
            obtain ⟨arr, ct, fz, e1, e2, e3, e4⟩ := S.cells b bi true cs hbi hcs
            have hBb := e4.2
            have hlt := (S.low b bi hbi).2
            have hfr : (w.freeze ⟨bi.rb, arr.size, none⟩ 1).heap = w.heap.modify bi.rb fun
                | .cells c elem (lo, hi) => .cells c elem (if lo == hi then (arr.size, arr.size + 1) else (min lo arr.size, max hi (arr.size + 1)))
                | o => o := by simp only [World.freeze, Nat.one_ne_zero, if_false]; rfl
            obtain ⟨lo, hi2⟩ := fz
            have hat : (w.freeze ⟨bi.rb, arr.size, none⟩ 1).heap[bi.rb]? = some (.cells arr ct (if lo == hi2 then (arr.size, arr.size + 1) else (min lo arr.size, max hi2 (arr.size + 1)))) := by
              rw [hfr, Array.getElem?_modify, if_pos rfl, e1]; rfl
            have hoth : ∀ q, q ≠ bi.rb → (w.freeze ⟨bi.rb, arr.size, none⟩ 1).heap[q]? = w.heap[q]? := by
              intro q hq
              rw [hfr, Array.getElem?_modify, if_neg (Ne.symm hq)]
            have hsize : (w.freeze ⟨bi.rb, arr.size, none⟩ 1).heap.size = w.heap.size := by rw [hfr, Array.size_modify]
            have S1 := S.mark w hbi hcs e1 hat hoth hsize
            have hsh : w.shape? bi.rb = some (ct, arr.size) := by simp [World.shape?, e1]
            have hms : (markStringish ⟨bi.rb, off', none⟩).run P w = .ok () (w.freeze ⟨bi.rb, arr.size, none⟩ 1) := by
              simp only [markStringish, Sem.run_bind, run_shape, hsh, Result.andThen_ok, run_freeze]
            refine ⟨.slice (some ⟨bi.rb, off', none⟩) len cap', _, ?_, ⟨bi, hbi, off', cap', rfl, hoff, hlc, hsz, hcc⟩, ⟨Bt.le_refl β, fun _ _ => rfl, S1, ⟨rfl, rfl, rfl, Nat.le_of_eq hsize.symm, fun k hk => hoth k (by omega)⟩, Nat.le_refl _⟩⟩
            simp only [execOp, hxe, convert, Sem.run_bind, run_underlying hd, run_underlying hde1, Result.andThen_ok, beq_self_eq_true, hms, Sem.run_pure]
          · cases he
        · cases he
      · cases he
    · cases he

theorem vread_run (S : Sim B β h w) {n : Nat} {tm : Tm} {a : Act} (r : TmRel β n tm a.tmps) (o : Oper) {v : VV} (he : vread T tm o.op h = some v) :
    ∃ x w1, (execOp a.eval o).run P w = .ok (.value x) w1 ∧ VRel β v x ∧ After B β h w β h w1 := by
  unfold vread at he
  split at he
  · rename_i u hu
    cases he
    exact vsil_run w ok S r o hu
  · obtain ⟨x, hx, hv⟩ := vread0_run w ok S r o he
    exact ⟨x, w, hx, hv, ⟨Bt.le_refl β, fun _ _ => rfl, S, Below.refl B w, Nat.le_refl _⟩⟩

end
end Go.Proofs.YtfempmlelmdhbaaGreat.VM
