/- VMNext: a part of a verified evaluator of the model's code (or of its run), used for this seat's laws; it has no conditions. -/
import Derived.Test.YtfempmlelmdhbaaGreatVMAnc
set_option linter.all false
namespace Go.Proofs.YtfempmlelmdhbaaGreat.VM
open Go Go.RowKit

def VN.heap : VN → VH
  | .val _ h => h
  | .enter _ _ h => h
def Task.heap : Task → VH
  | .code _ _ _ h => h
  | .ops _ _ _ h => h
  | .draw _ _ _ _ h _ => h
  | .call _ _ h => h
def Res.heap : Res → VH
  | .code _ _ h => h
  | .call _ h => h

theorem put_next (h : VH) (b : Nat) (o : VObj) : (h.put b o).next = h.next := rfl
theorem new_next (h : VH) (o : VObj) : (h.new o).next = h.next + 1 := rfl

theorem storeN_next {h h' : VH} {b o : Nat} {vs : List VV} (hs : storeN h b o vs = some h') : h'.next = h.next := by
  unfold storeN at hs
  split at hs
  · split at hs
    · split at hs
      · cases hs; rfl
      · cases hs
    · cases hs
  · cases hs
theorem vmapUpdate_next {ty : Tr TI} {h h' : VH} {t : TypeId} {x k v : VV} (hs : vmapUpdate ty h t x k v = some h') : h'.next = h.next := by
  unfold vmapUpdate at hs
  repeat' split at hs
  all_goals (first | (cases hs; rfl) | cases hs)
theorem vdelete_next {ty : Tr TI} {h h' : VH} {t : TypeId} {x k : VV} (hs : vdelete ty h t x k = some h') : h'.next = h.next := by
  unfold vdelete at hs
  repeat' split at hs
  all_goals (first | (cases hs; rfl) | cases hs)
theorem vappend_next {ty : Tr TI} {h : VH} {t u : TypeId} {x y : VV} {n : VN} (hs : vappend ty h t u x y = some n) : h.next ≤ n.heap.next := by
  unfold vappend at hs
  repeat' split at hs
  all_goals (first | (cases hs; exact Nat.le_refl _) | (cases hs; exact Nat.le_succ _) | cases hs)

theorem vrange_next {ty : Tr TI} {h : VH} {t : TypeId} {x : VV} {n : VN} (hs : vrange ty h t x = some n) : h.next ≤ n.heap.next := by
  unfold vrange at hs
  repeat' split at hs
  all_goals (first | (cases hs; exact Nat.le_succ _) | cases hs)
theorem vnext_next {h : VH} {b : Nat} {n : VN} (hs : vnext h b = some n) : h.next ≤ n.heap.next := by
  unfold vnext at hs
  repeat' split at hs
  all_goals (first | (cases hs; exact Nat.le_refl _) | cases hs)

theorem veff_next {T : Tb} {tm : Tm} {op : Op} {h : VH} {n : VN} (hs : veff T tm op h = some n) : h.next ≤ n.heap.next := by
  cases op <;> simp only [veff, reduceCtorEq] at hs
  case range t x =>
    split at hs
    · exact vrange_next hs
    · cases hs
  case next it s =>
    cases s with
    | true => cases hs
    | false =>
      simp only at hs
      split at hs
      · exact vnext_next hs
      · cases hs
  case store =>
    repeat' split at hs
    all_goals (first | (rename_i hq; cases hs; exact Nat.le_of_eq (storeN_next hq).symm) | cases hs)
  case mapUpdate =>
    repeat' split at hs
    all_goals (first | (rename_i hq; cases hs; exact Nat.le_of_eq (vmapUpdate_next hq).symm) | cases hs)
  case insert =>
    repeat' split at hs
    all_goals (first | (rename_i hq; cases hs; exact Nat.le_of_eq (vmapUpdate_next hq).symm) | cases hs)
  case convert =>
    repeat' split at hs
    all_goals (first | (cases hs; exact Nat.le_refl _) | cases hs)
  case call =>
    split at hs
    · split at hs
      · split at hs
        · exact vappend_next hs
        · cases hs
      · split at hs
        · split at hs
          · rename_i hq; cases hs; exact Nat.le_of_eq (vdelete_next hq).symm
          · cases hs
        · cases hs
      · split at hs
        · cases hs; exact Nat.le_refl _
        · cases hs
      · split at hs
        · split at hs
          · split at hs
            · cases hs; exact Nat.le_refl _
            · cases hs
          · cases hs
        · cases hs
      · cases hs
    · cases hs

theorem vexec_next {T : Tb} {tm : Tm} {op : Op} {h : VH} {n : VN} (hs : vexec T tm op h = some n) : h.next ≤ n.heap.next := by
  unfold vexec at hs
  split at hs
  · split at hs
    · cases hs; exact Nat.le_refl _
    · cases hs
  · split at hs
    · cases hs; exact Nat.le_refl _
    · cases hs
  · split at hs
    · cases hs; exact Nat.le_succ _
    · cases hs
  · exact veff_next hs

theorem vrun_next (T : Tb) : ∀ (n : Nat) (t : Task) (r : Res), vrun T n t = some r → t.heap.next ≤ r.heap.next := by
  intro n
  induction n with
  | zero => intro t r h; simp [vrun] at h
  | succ n ih =>
    intro t r h
    cases t with
    | code dr c tm hp =>
      cases c <;> simp only [vrun, reduceCtorEq, Option.some.injEq] at h
      case skip => subst h; exact Nat.le_refl _
      case region id ops draw =>
        cases draw
        · simp only at h
          exact (ih (.ops ops.toList ops.toList tm hp) _ h : hp.next ≤ _)
        · simp only at h
          split at h
          · rename_i di _
            exact (ih (.draw di ops.toList (permOf ops.toList di.order) tm hp []) _ h : hp.next ≤ _)
          · cases h
      case seq a b =>
        split at h
        · rename_i tm' h' hq
          exact Nat.le_trans (ih (.code dr a tm hp) _ hq : hp.next ≤ h'.next) (ih _ _ h)
        · exact (ih (.code dr a tm hp) _ h : hp.next ≤ _)
      case cond x a b =>
        split at h
        · exact (ih (.code dr a tm hp) _ h : hp.next ≤ _)
        · exact (ih (.code dr b tm hp) _ h : hp.next ≤ _)
        · cases h
      case block id a =>
        split at h
        · rename_i id' tm' h' hq
          split at h
          · cases h; exact (ih (.code dr a tm hp) _ hq : hp.next ≤ h'.next)
          · cases h; exact (ih (.code dr a tm hp) _ hq : hp.next ≤ h'.next)
        · exact (ih (.code dr a tm hp) _ h : hp.next ≤ _)
      case loop a =>
        split at h
        · rename_i tm' h' hq
          exact Nat.le_trans (ih (.code dr a tm hp) _ hq : hp.next ≤ h'.next) (ih _ _ h)
        · exact (ih (.code dr a tm hp) _ h : hp.next ≤ _)
      case exit id => subst h; exact Nat.le_refl _
      case ret => subst h; exact Nat.le_refl _
    | ops all rest tm hp =>
      cases rest with
      | nil => simp only [vrun, Option.some.injEq] at h; subst h; exact Nat.le_refl _
      | cons o os =>
        simp only [vrun] at h
        split at h
        · exact (ih (.ops all os (tput tm o.dst undefV) hp) _ h : hp.next ≤ _)
        · split at h
          · rename_i v h' hq
            exact Nat.le_trans (vexec_next hq : hp.next ≤ h'.next) (ih _ _ h)
          · rename_i f args h' hq
            split at h
            · rename_i v h'' hc
              exact Nat.le_trans (Nat.le_trans (vexec_next hq : hp.next ≤ h'.next) (ih (.call f args h') _ hc : h'.next ≤ h''.next)) (ih _ _ h)
            · cases h
          · cases h
    | draw di all rest tm hp acc =>
      cases rest with
      | nil =>
        simp only [vrun] at h
        split at h
        · cases h; exact Nat.le_refl _
        · cases h
      | cons o os =>
        simp only [vrun] at h
        split at h
        · exact (ih (.draw di all os (tput tm o.dst undefV) hp _) _ h : hp.next ≤ _)
        · split at h
          · rename_i v h' hq
            exact Nat.le_trans (vexec_next hq : hp.next ≤ h'.next) (ih _ _ h)
          · rename_i f args h' hq
            split at h
            · rename_i v h'' hc
              exact Nat.le_trans (Nat.le_trans (vexec_next hq : hp.next ≤ h'.next) (ih (.call f args h') _ hc : h'.next ≤ h''.next)) (ih _ _ h)
            · cases h
          · cases h
    | call f args hp =>
      simp only [vrun] at h
      split at h
      · split at h
        · rename_i vf _ _ _ e tm h' _ hq
          split at h
          · cases h; exact (ih (.code vf.dr vf.code (Tr.ofList args) hp) _ hq : hp.next ≤ h'.next)
          · cases h
        · cases h
      · cases h

end Go.Proofs.YtfempmlelmdhbaaGreat.VM
