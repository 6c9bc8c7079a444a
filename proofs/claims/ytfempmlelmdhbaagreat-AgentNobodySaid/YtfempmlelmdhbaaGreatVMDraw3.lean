/- VMDraw3: a part of a verified evaluator of the model's code (or of its run), used for this seat's laws; it has no conditions. -/
import Derived.Test.YtfempmlelmdhbaaGreatVMDraw2
set_option linter.all false
namespace Go.Proofs.YtfempmlelmdhbaaGreat.VM
open Go Go.RowKit

section
variable {P : Program} {T : Tb} {all : List Oper} {od : List Nat} {sts : List St} {tm0 tmf : Tm} {hf : VH} {B : Nat} {β0 : Bt} {w0 : World} {nt : Nat} {df : List Deferred}

theorem getD_eq_false_lt {listed : Array Bool} {i : Nat} (hi : i < listed.size) (h : listed.getD i false = false) : listed.getD i true = false := by
  simp [Array.getD, hi] at h ⊢; exact h
theorem getD_true_lt {listed : Array Bool} {i : Nat} (h : listed.getD i true = false) : i < listed.size ∧ listed.getD i false = false := by
  by_cases hi : i < listed.size
  · refine ⟨hi, ?_⟩; simp [Array.getD, hi] at h ⊢; exact h
  · simp [Array.getD, hi] at h

theorem getD_set_self {listed : Array Bool} {i : Nat} (hi : i < listed.size) : (listed.setIfInBounds i true).getD i false = true := by
  simp [Array.getD, hi]
theorem getD_set_iff {listed : Array Bool} {i j : Nat} (hi : i < listed.size) : (listed.setIfInBounds i true).getD j false = true ↔ j = i ∨ listed.getD j false = true := by
  by_cases e : i = j
  · subst e; simp [getD_set_self hi]
  · rw [getD_set_ne false e]
    constructor
    · exact .inr
    · rintro (h | h)
      · exact (e h.symm).elim
      · exact h

/-- The places that an operation names hold, whichever have been, what they hold in the order. -/
theorem inv_agree (st : Static T.ty all od) (t : Trail P T all (permOf all od) sts tmf hf) (h0 : tmAt sts tmf 0 = tm0) (hn : nt < 2 ^ 39) (hdst : ∀ o ∈ all, dstOk nt o = true)
    {listed : Array Bool} {β : Bt} {a : Act} {w : World} (inv : Inv (T := T) all od (permOf all od) sts tm0 hf B β0 w0 nt df listed β a w)
    {p : Nat} {o : Oper} (hp : p < all.length) (ho : all[od.getD p 0]? = some o) (hl : listed.getD (od.getD p 0) false = false)
    (hedge : ∀ e ∈ o.after.toList, Region.binds .any e = true → listed.getD e.on false = true) {tmS : Tm}
    (hA : ∀ (p : Nat) (o : Oper) (s : St) (d : Tmp), (permOf all od)[p]? = some o → sts[p]? = some s → o.dst = some d → listed.getD (od.getD p 0) false = true → tget tmS d = s.v)
    (hB : ∀ t, (∀ (p : Nat) (o : Oper), (permOf all od)[p]? = some o → o.dst = some t → listed.getD (od.getD p 0) false = false) → tget tmS t = tget tm0 t) :
    ∀ x ∈ namesOf all o, tget tmS x = tget (tmAt sts tmf p) x := by
  intro x hx
  obtain ⟨s1, s2⟩ := tmAt_spec st t h0 hn hdst p (by omega)
  have hpl := (per_get (p := 0) st).1
  have hlt : ∀ i, listed.getD i false = true → i < all.length := by
    intro i hi
    rw [← inv.size]
    rcases Nat.lt_or_ge i listed.size with h | h
    · exact h
    · simp [Array.getD, Nat.not_lt.2 h] at hi
  by_cases hw : ∃ (r : Nat) (o' : Oper), (permOf all od)[r]? = some o' ∧ o'.dst = some x
  · obtain ⟨r, o', hr, hd⟩ := hw
    have hrl : r < all.length := by
      rcases Nat.lt_or_ge r (permOf all od).length with h | h
      · omega
      · rw [List.getElem?_eq_none h] at hr; cases hr
    have hro : all[od.getD r 0]? = some o' := by rw [← (per_get st).2 hrl]; exact hr
    have hdj : dstAt all (od.getD r 0) = some x := by unfold dstAt; rw [hro]; exact hd
    -- no other writes it
    have only : ∀ (r' : Nat) (o2 : Oper), (permOf all od)[r']? = some o2 → o2.dst = some x → r' = r := by
      intro r' o2 h1 h2
      have hr'l : r' < all.length := by
        rcases Nat.lt_or_ge r' (permOf all od).length with h | h
        · omega
        · rw [List.getElem?_eq_none h] at h1; cases h1
      have h3 : all[od.getD r' 0]? = some o2 := by rw [← (per_get st).2 hr'l]; exact h1
      by_cases e : od.getD r' 0 = od.getD r 0
      · exact od_inj st hr'l hrl e
      · exact (st.once _ _ x (od_get st hr'l).2 (od_get st hrl).2 e hdj (by unfold dstAt; rw [h3]; exact h2)).elim
    obtain ⟨s, hs, _⟩ := t.at hr
    have init : listed.getD (od.getD r 0) false = false → ¬ r < p → tget tmS x = tget (tmAt sts tmf p) x := by
      intro h1 h2
      rw [hB x fun r' o2 h3 h4 => by rw [only r' o2 h3 h4]; exact h1, s2 x fun r' o2 h3 h4 h5 => h2 (by rw [← only r' o2 h4 h5]; exact h3)]
    by_cases e : r = p
    · subst e; exact init hl (Nat.lt_irrefl _)
    · rcases st.named (od.getD p 0) (od.getD r 0) x o ho (od_get st hrl).2 (fun e2 => e (od_inj st hrl hp e2.symm)) hdj hx with h | h
      · have hcl := anc_closed all (fun i => listed.getD i false = true) (fun i o h1 h2 => inv.closed i o h1 h2) hlt _ _ ho hedge _ h
        rw [hA r o' s x hr hs hd hcl, s1 r o' s x (anc_pos st hp hrl h) hr hs hd]
      · have hnl : listed.getD (od.getD r 0) false = false := by
          cases hq : listed.getD (od.getD r 0) false with
          | false => rfl
          | true =>
            have hcl := anc_closed all (fun i => listed.getD i false = true) (fun i o h1 h2 => inv.closed i o h1 h2) hlt _ _ hro (inv.closed _ _ hq hro) _ h
            rw [hcl] at hl; cases hl
        exact init hnl (by have := anc_pos st hrl hp h; omega)
  · rw [hB x fun r o' h1 h2 => (hw ⟨r, o', h1, h2⟩).elim, s2 x fun r o' _ h1 h2 => hw ⟨r, o', h1, h2⟩]

/-- One more operation has been. -/
theorem inv_set (st : Static T.ty all od) (t : Trail P T all (permOf all od) sts tmf hf) (hdst : ∀ o ∈ all, dstOk nt o = true)
    {listed : Array Bool} {β : Bt} {a : Act} {w : World} (inv : Inv (T := T) all od (permOf all od) sts tm0 hf B β0 w0 nt df listed β a w)
    {p : Nat} {o : Oper} {s : St} (hp : p < all.length) (ho : all[od.getD p 0]? = some o) (hs : sts[p]? = some s) (hl : listed.getD (od.getD p 0) false = false)
    (hedge : ∀ e ∈ o.after.toList, Region.binds .any e = true → listed.getD e.on false = true)
    {β' : Bt} {x : Value} {w' : World} (hle : β.le β') (hv : VRel β' s.v x)
    (hcur : ∃ q, q ≤ (permOf all od).length ∧ effAt T.ty (permOf all od) q = true ∧ (q < (permOf all od).length → (listed.setIfInBounds (od.getD p 0) true).getD (od.getD q 0) false = false) ∧
      (∀ e, e < (permOf all od).length → effAt T.ty (permOf all od) e = true → ((listed.setIfInBounds (od.getD p 0) true).getD (od.getD e 0) false = true ↔ e < q)) ∧ After B β0 (heapAt sts hf 0) w0 β' (heapAt sts hf q) w')
    (hfresh : ∀ (p' : Nat) (o' : Oper) (s' : St), p' ≠ p → (permOf all od)[p']? = some o' → sts[p']? = some s' → isAllocB T.ty o' = true → vwanted all s'.tm o' = true → listed.getD (od.getD p' 0) false = false → β' s'.h.next = none) :
    Inv (T := T) all od (permOf all od) sts tm0 hf B β0 w0 nt df (listed.setIfInBounds (od.getD p 0) true) β' (a.put o.dst x) w' := by
  have hpi := (od_get st hp).2
  have hsz : od.getD p 0 < listed.size := by rw [inv.size]; exact hpi
  have hpl := (per_get (p := 0) st).1
  have hpo : (permOf all od)[p]? = some o := by rw [(per_get st).2 hp]; exact ho
  have hmem : o ∈ all := List.mem_of_getElem? ho
  have hdn : ∀ d, o.dst = some d → d < nt := by
    intro d hd
    have := hdst o hmem
    simpa [dstOk, hd, Nat.blt_eq] using this
  have inPer : ∀ (r : Nat) (o' : Oper), (permOf all od)[r]? = some o' → r < all.length := by
    intro r o' hr
    rcases Nat.lt_or_ge r (permOf all od).length with h | h
    · omega
    · rw [List.getElem?_eq_none h] at hr; cases hr
  obtain ⟨tmS, hr, hA, hB⟩ := inv.regs
  refine ⟨by rw [Array.size_setIfInBounds]; exact inv.size, ?_, hcur, ⟨tput tmS o.dst s.v, (hr.mono hle).put o.dst hdn hv, ?_, ?_⟩, ?_, ?_⟩
  · intro i o' hi ho' e he hb
    rw [getD_set_iff hsz] at hi
    rcases hi with rfl | hi
    · rw [ho] at ho'; cases ho'
      exact (getD_set_iff hsz).2 (.inr (hedge e he hb))
    · exact (getD_set_iff hsz).2 (.inr (inv.closed i o' hi ho' e he hb))
  · intro r o' s' d hro hs' hd hli
    rw [getD_set_iff hsz] at hli
    have hrl := inPer r o' hro
    by_cases e : r = p
    · subst e
      rw [hpo] at hro; cases hro
      rw [hs] at hs'; cases hs'
      rw [hd, tget_tput _ _ _ _ (Nat.lt_trans (hdn d hd) hr.small), if_pos rfl]
    · have hli' : listed.getD (od.getD r 0) false = true := by
        rcases hli with h | h
        · exact (e (od_inj st hrl hp h)).elim
        · exact h
      have h1 := hA r o' s' d hro hs' hd hli'
      cases hdo : o.dst with
      | none => simp only [tput]; exact h1
      | some d' =>
        have hne : d' ≠ d := by
          intro e2; subst e2
          have h3 : all[od.getD r 0]? = some o' := by rw [← (per_get st).2 hrl]; exact hro
          exact st.once (od.getD p 0) (od.getD r 0) d' hpi (od_get st hrl).2 (fun e3 => e (od_inj st hrl hp e3.symm)) (by unfold dstAt; rw [h3]; exact hd) (by unfold dstAt; rw [ho]; exact hdo)
        rw [tget_tput _ _ _ _ (Nat.lt_trans (hdn d' hdo) hr.small), if_neg hne]
        exact h1
  · intro y hy
    have hy' : ∀ (r : Nat) (o' : Oper), (permOf all od)[r]? = some o' → o'.dst = some y → listed.getD (od.getD r 0) false = false := by
      intro r o' h1 h2
      have h3 := hy r o' h1 h2
      cases hq : listed.getD (od.getD r 0) false with
      | false => rfl
      | true => rw [(getD_set_iff hsz).2 (.inr hq)] at h3; cases h3
    have h1 := hB y hy'
    cases hdo : o.dst with
    | none => simp only [tput]; exact h1
    | some d' =>
      have hne : d' ≠ y := by
        intro e2; subst e2
        have h3 := hy p o hpo hdo
        rw [getD_set_self hsz] at h3; cases h3
      rw [tget_tput _ _ _ _ (Nat.lt_trans (hdn d' hdo) hr.small), if_neg hne]
      exact h1
  · intro p' o' s' h1 h2 h3 h4 h5
    by_cases e : p' = p
    · subst e; rw [getD_set_self hsz] at h5; cases h5
    · have h5' : listed.getD (od.getD p' 0) false = false := by
        cases hq : listed.getD (od.getD p' 0) false with
        | false => rfl
        | true => rw [(getD_set_iff hsz).2 (.inr hq)] at h5; cases h5
      exact hfresh p' o' s' e h1 h2 h3 h4 h5'
  · rw [← inv.defers]; cases o.dst <;> rfl

/-- What is looked at again is as it was. -/
theorem checks_fact {di : DI} (hdi : di.checks = drawChecks T.ty all od) (hc : recheckAll T all (permOf all od) sts hf di = true) {p q : Nat} (hp : p < (permOf all od).length) (hq : q ≤ (permOf all od).length)
    (hn : needs T.ty (ancs all) od (permOf all od) p q = true) : recheck T all (permOf all od) sts hf p q = true := by
  have hqm : q ∈ (List.range ((permOf all od).length + 1)).filter fun q => needs T.ty (ancs all) od (permOf all od) p q := List.mem_filter.2 ⟨List.mem_range.2 (by omega), hn⟩
  have hm : (p, (List.range ((permOf all od).length + 1)).filter fun q => needs T.ty (ancs all) od (permOf all od) p q) ∈ di.checks := by
    rw [hdi]
    unfold drawChecks
    refine List.mem_filter.2 ⟨List.mem_map.2 ⟨p, List.mem_range.2 hp, rfl⟩, ?_⟩
    simp only
    split
    · rename_i e; rw [e] at hqm; cases hqm
    · rfl
  unfold recheckAll at hc
  split at hc
  · rename_i e; rw [e] at hm; cases hm
  · have h1 := List.all_eq_true.1 hc _ hm
    exact List.all_eq_true.1 h1 q hqm

end
end Go.Proofs.YtfempmlelmdhbaaGreat.VM
