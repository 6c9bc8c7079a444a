/- VMDraw: a part of a verified evaluator of the model's code (or of its run), used for this seat's laws; it has no conditions. -/
import Derived.Test.YtfempmlelmdhbaaGreatVMCongr
set_option linter.all false
namespace Go.Proofs.YtfempmlelmdhbaaGreat.VM
open Go Go.RowKit

section
variable {P : Program} {T : Tb}

/-- A run over a row of operations, place by place. -/
structure Trail (P : Program) (T : Tb) (all per : List Oper) (sts : List St) (tmf : Tm) (hf : VH) : Prop where
  len : sts.length = per.length
  does : ∀ (p : Nat) (o : Oper) (s : St), per[p]? = some o → sts[p]? = some s → Does P T all o s.tm s.h s.v s.h'
  nextTm : ∀ (p : Nat) (o : Oper) (s s' : St), per[p]? = some o → sts[p]? = some s → sts[p + 1]? = some s' → s'.tm = tput s.tm o.dst s.v
  nextH : ∀ (p : Nat) (s s' : St), sts[p]? = some s → sts[p + 1]? = some s' → s'.h = s.h'
  lastTm : ∀ (p : Nat) (o : Oper) (s : St), per[p]? = some o → sts[p]? = some s → p + 1 = per.length → tmf = tput s.tm o.dst s.v
  lastH : ∀ (p : Nat) (s : St), sts[p]? = some s → p + 1 = per.length → hf = s.h'

theorem draw_trail {di : DI} {all : List Oper} {tmf : Tm} {hf : VH} {e : VE} : ∀ (N : Nat) (rest : List Oper) (tm : Tm) (h : VH) (acc : List St),
    (∀ m, m < N → CallOk P T m) → vrun T N (.draw di all rest tm h acc) = some (.code e tmf hf) →
    ∃ sts, Trail P T all rest sts tmf hf ∧ recheckAll T all (permOf all di.order) (acc.reverse ++ sts) hf di = true ∧ e = .normal ∧
      (∀ s, sts[0]? = some s → s.tm = tm ∧ s.h = h) ∧ (rest = [] → tmf = tm ∧ hf = h) := by
  intro N
  induction N with
  | zero => intro rest tm h acc _ hr; simp [vrun] at hr
  | succ N ih =>
    intro rest tm h acc hcall hr
    cases rest with
    | nil =>
      simp only [vrun] at hr
      split at hr
      · rename_i hc
        cases hr
        refine ⟨[], ⟨rfl, ?_, ?_, ?_, ?_, ?_⟩, by simpa using hc, rfl, ?_, fun _ => ⟨rfl, rfl⟩⟩
        all_goals (intros; simp_all)
      · cases hr
    | cons o os =>
      have hcall' : ∀ m, m < N → CallOk P T m := fun m hm => hcall m (by omega)
      obtain ⟨v, h1, hd, hr'⟩ : ∃ v h1, Does P T all o tm h v h1 ∧ vrun T N (.draw di all os (tput tm o.dst v) h1 (⟨tm, h, v, h1⟩ :: acc)) = some (.code e tmf hf) := by
        simp only [vrun] at hr
        split at hr
        · rename_i hw; exact ⟨_, _, .idle hw, hr⟩
        · rename_i hw
          split at hr
          · rename_i v h1 he; exact ⟨v, h1, .val hw he, hr⟩
          · rename_i f args h1 he
            split at hr
            · rename_i v h2 hc; exact ⟨v, h2, .call hw he (hcall N (Nat.lt_succ_self N)) hc, hr⟩
            · cases hr
          · cases hr
      obtain ⟨sts, t, hc, he, h0, hnil⟩ := ih os _ _ _ hcall' hr'
      refine ⟨⟨tm, h, v, h1⟩ :: sts, ⟨by simp [t.len], ?_, ?_, ?_, ?_, ?_⟩, by simpa using hc, he, ?_, ?_⟩
      · intro p o' s ho hs
        cases p with
        | zero => simp at ho hs; subst ho; subst hs; exact hd
        | succ p => simp at ho hs; exact t.does p o' s ho hs
      · intro p o' s s' ho hs hs'
        cases p with
        | zero => simp at ho hs hs'; subst ho; subst hs; exact (h0 s' hs').1
        | succ p => simp at ho hs hs'; exact t.nextTm p o' s s' ho hs hs'
      · intro p s s' hs hs'
        cases p with
        | zero => simp at hs hs'; subst hs; exact (h0 s' hs').2
        | succ p => simp at hs hs'; exact t.nextH p s s' hs hs'
      · intro p o' s ho hs hl
        cases p with
        | zero =>
          simp at ho hs hl; subst ho; subst hs
          have : os = [] := hl
          exact (hnil this).1
        | succ p => simp at ho hs hl; exact t.lastTm p o' s ho hs hl
      · intro p s hs hl
        cases p with
        | zero =>
          simp at hs hl; subst hs
          have : os = [] := hl
          exact (hnil this).2
        | succ p => simp at hs hl; exact t.lastH p s hs hl
      · intro s hs; simp at hs; subst hs; exact ⟨rfl, rfl⟩
      · intro h; cases h

/-! ### memory and places, place by place -/
def tmAt (sts : List St) (tmf : Tm) (q : Nat) : Tm := match sts[q]? with
  | some s => s.tm
  | none => tmf

section
variable {all per : List Oper} {sts : List St} {tmf : Tm} {hf : VH} (t : Trail P T all per sts tmf hf)
include t

theorem Trail.at {p : Nat} {o : Oper} (ho : per[p]? = some o) : ∃ s, sts[p]? = some s ∧ s.tm = tmAt sts tmf p ∧ s.h = heapAt sts hf p ∧ s.h' = heapAt sts hf (p + 1) ∧ tmAt sts tmf (p + 1) = tput s.tm o.dst s.v ∧ Does P T all o s.tm s.h s.v s.h' := by
  have hp : p < sts.length := by
    rw [t.len]
    rcases Nat.lt_or_ge p per.length with hc | hc
    · exact hc
    · rw [List.getElem?_eq_none hc] at ho; cases ho
  obtain ⟨s, hs⟩ : ∃ s, sts[p]? = some s := ⟨_, List.getElem?_eq_getElem hp⟩
  refine ⟨s, hs, by simp [tmAt, hs], by simp [heapAt, hs], ?_, ?_, t.does p o s ho hs⟩
  · cases hn : sts[p + 1]? with
    | some s' => simp only [heapAt, hn]; exact (t.nextH p s s' hs hn).symm
    | none =>
      simp only [heapAt, hn]
      exact (t.lastH p s hs (by
        have := List.getElem?_eq_none_iff.1 hn
        rw [← t.len]; omega)).symm
  · cases hn : sts[p + 1]? with
    | some s' => simp only [tmAt, hn]; exact t.nextTm p o s s' ho hs hn
    | none =>
      simp only [tmAt, hn]
      exact t.lastTm p o s ho hs (by
        have := List.getElem?_eq_none_iff.1 hn
        rw [← t.len]; omega)

omit t in
theorem does_next {o : Oper} {tm : Tm} {h h' : VH} {v : VV} (d : Does P T all o tm h v h') : h.next ≤ h'.next := by
  cases d with
  | idle => exact Nat.le_refl _
  | val hw he => exact vexec_next he
  | call hw he hc hv => exact Nat.le_trans (vexec_next he) (vrun_next T _ _ _ hv)

theorem Trail.next_mono {p q : Nat} (hpq : p ≤ q) (hq : q ≤ per.length) : (heapAt sts hf p).next ≤ (heapAt sts hf q).next := by
  induction q with
  | zero => have : p = 0 := by omega
            subst this; exact Nat.le_refl _
  | succ q ih =>
    rcases Nat.eq_or_lt_of_le hpq with rfl | hlt
    · exact Nat.le_refl _
    · obtain ⟨s, hs, h1, h2, h3, h4, h5⟩ := t.at (p := q) (List.getElem?_eq_getElem (show q < per.length by omega))
      have := does_next h5
      rw [h2, h3] at this
      exact Nat.le_trans (ih (by omega) (by omega)) this

omit t in
/-- What an operation without an effect leaves of memory. -/
theorem does_plain {o : Oper} {tm : Tm} {h h' : VH} {v : VV} (hne : isEffB T.ty o = false) (d : Does P T all o tm h v h') :
    h' = h ∨ (isAllocB T.ty o = true ∧ vwanted all tm o = true ∧ h.room = true ∧ ∃ ob mk, valloc T tm o.op = some (ob, mk) ∧ v = mk h.next ∧ h' = h.new ob) := by
  cases d with
  | idle => exact .inl rfl
  | val hw he =>
    cases hc : cls T.ty o.op with
    | pure =>
      unfold vexec at he; rw [hc] at he; simp only at he
      split at he
      · cases he; exact .inl rfl
      · cases he
    | read =>
      unfold vexec at he; rw [hc] at he; simp only at he
      split at he
      · cases he; exact .inl rfl
      · cases he
    | alloc =>
      obtain ⟨hr, ob, mk, ha, hv, hh⟩ := cls_alloc_ok hc he
      exact .inr ⟨by simp [isAllocB, hc], hw, hr, ob, mk, ha, hv, hh⟩
    | eff => simp [isEffB, hc] at hne
  | call hw he hc hv =>
    obtain ⟨h1, _⟩ := enter_eff he
    simp [isEffB, h1] at hne

/-- Between two effects memory grows alone: a relation to what was there goes on. -/
theorem Trail.grow {B : Nat} {β : Bt} {w : World} (ok : T.Ok P) {p q : Nat} (hpq : p ≤ q) (hq : q ≤ per.length) (hne : ∀ r, p ≤ r → r < q → effAt T.ty per r = false) (S : Sim B β (heapAt sts hf p) w)
    (hob : ∀ tm op ob mk, valloc T tm op = some (ob, mk) → ob.okLeaf) : Sim B β (heapAt sts hf q) w := by
  induction q with
  | zero => have : p = 0 := by omega
            subst this; exact S
  | succ q ih =>
    rcases Nat.eq_or_lt_of_le hpq with rfl | hlt
    · exact S
    · have hqp : q < per.length := by omega
      have ho := List.getElem?_eq_getElem hqp
      obtain ⟨s, hs, h1, h2, h3, h4, h5⟩ := t.at ho
      have S' := ih (by omega) (by omega) (fun r h1 h2 => hne r h1 (by omega))
      have hn := hne q (by omega) (Nat.lt_succ_self q)
      have hn' : isEffB T.ty per[q] = false := by simpa [effAt, ho] using hn
      rcases does_plain hn' h5 with e | ⟨_, _, hr, ob, mk, ha, _, e⟩
      · rw [h2, h3] at e; rw [e]; exact S'
      · rw [h3, h2] at e
        rw [e]
        exact S'.newWeak (room_le (by rw [← h2]; exact hr)) (hob _ _ _ _ ha)

/-- What was made at a place is still there at the next effect. -/
theorem Trail.keeps {p q b : Nat} (hpq : p ≤ q) (hq : q ≤ per.length) (hne : ∀ r, p ≤ r → r < q → effAt T.ty per r = false) (hb : b < (heapAt sts hf p).next) : (heapAt sts hf q).get b = (heapAt sts hf p).get b := by
  induction q with
  | zero => have : p = 0 := by omega
            subst this; rfl
  | succ q ih =>
    rcases Nat.eq_or_lt_of_le hpq with rfl | hlt
    · rfl
    · have hqp : q < per.length := by omega
      have ho := List.getElem?_eq_getElem hqp
      obtain ⟨s, hs, h1, h2, h3, h4, h5⟩ := t.at ho
      have e0 := ih (by omega) (by omega) (fun r h1 h2 => hne r h1 (by omega))
      have hn := hne q (by omega) (Nat.lt_succ_self q)
      have hn' : isEffB T.ty per[q] = false := by simpa [effAt, ho] using hn
      rcases does_plain hn' h5 with e | ⟨_, _, hr, ob, mk, ha, _, e⟩
      · rw [h2, h3] at e; rw [e]; exact e0
      · rw [h3, h2] at e
        have hroom := room_le hr
        rw [h2] at hroom
        have hm := t.next_mono (p := p) (q := q) (by omega) (by omega)
        rw [e, VH.get_new _ _ _ (by omega), if_neg (by omega)]
        exact e0

theorem Trail.same {p q : Nat} (hpq : p ≤ q) (hq : q ≤ per.length) (hne : ∀ r, p ≤ r → r < q → effAt T.ty per r = false ∧ allocAt T.ty per r = false) : heapAt sts hf q = heapAt sts hf p := by
  induction q with
  | zero => have : p = 0 := by omega
            subst this; rfl
  | succ q ih =>
    rcases Nat.eq_or_lt_of_le hpq with rfl | hlt
    · rfl
    · have hqp : q < per.length := by omega
      have ho := List.getElem?_eq_getElem hqp
      obtain ⟨s, hs, h1, h2, h3, h4, h5⟩ := t.at ho
      have e0 := ih (by omega) (by omega) (fun r h1 h2 => hne r h1 (by omega))
      obtain ⟨hn, hna⟩ := hne q (by omega) (Nat.lt_succ_self q)
      have hn' : isEffB T.ty per[q] = false := by simpa [effAt, ho] using hn
      have hna' : isAllocB T.ty per[q] = false := by simpa [allocAt, ho] using hna
      rcases does_plain hn' h5 with e | ⟨ha, _⟩
      · rw [h2, h3] at e; rw [e]; exact e0
      · rw [ha] at hna'; cases hna'

end
end
end Go.Proofs.YtfempmlelmdhbaaGreat.VM
