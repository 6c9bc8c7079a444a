/- VMDraw2: a part of a verified evaluator of the model's code (or of its run), used for this seat's laws; it has no conditions. -/
import Derived.Test.YtfempmlelmdhbaaGreatVMDraw
set_option linter.all false
namespace Go.Proofs.YtfempmlelmdhbaaGreat.VM
open Go Go.RowKit

def cntU : Nat → (Nat → Bool) → Nat
  | 0, _ => 0
  | n + 1, f => cntU n f + (if f n then 0 else 1)
theorem cntU_set : ∀ (n : Nat) (f g : Nat → Bool) (i : Nat), i < n → f i = false → g i = true → (∀ j, j ≠ i → g j = f j) → cntU n g + 1 = cntU n f
  | 0, f, g, i, h, _, _, _ => by omega
  | n + 1, f, g, i, h, hf, hg, hne => by
    simp only [cntU]
    by_cases e : i = n
    · subst e
      have : ∀ m, m ≤ i → cntU m g = cntU m f := by
        intro m
        induction m with
        | zero => intro _; rfl
        | succ m ih => intro hm; simp only [cntU, ih (by omega), hne m (by omega)]
      rw [this i (Nat.le_refl _), hf, hg]; simp
    · have := cntU_set n f g i (by omega) hf hg hne
      rw [hne n (Ne.symm e)]; omega
theorem cntU_zero : ∀ (n : Nat) (f : Nat → Bool), cntU n f = 0 → ∀ i, i < n → f i = true
  | 0, f, _, i, hi => by omega
  | n + 1, f, h, i, hi => by
    simp only [cntU] at h
    by_cases e : i = n
    · subst e; cases hf : f i with
      | true => rfl
      | false => rw [hf] at h; simp at h
    · exact cntU_zero n f (by omega) i (by omega)

section
variable {P : Program} {T : Tb}

theorem valloc_leaf {tm : Tm} {op : Op} {ob : VObj} {mk : Nat → VV} (h : valloc T tm op = some (ob, mk)) : ob.okLeaf := by
  cases op <;> simp only [valloc, reduceCtorEq] at h
  case alloc e =>
    repeat' split at h
    all_goals first | (rename_i hl; cases h; exact hl) | cases h
  case box e x =>
    repeat' split at h
    all_goals first | (rename_i hl; cases h; exact hl) | cases h
  case buildSlice t n ps =>
    repeat' split at h
    all_goals first | (rename_i hl; cases h; exact hl) | cases h
  case makeSlice t l c =>
    repeat' split at h
    all_goals first | (rename_i hl; cases h; exact rep_leaf hl _) | cases h
  case makeMap t r =>
    cases r with
    | none => cases h; trivial
    | some _ => cases h
  case convert s d x =>
    repeat' split at h
    all_goals first | (cases h; exact bytesVV_leaf _) | cases h

/-! ### the invariant of a region that is run in some order -/
section
variable (all : List Oper) (od : List Nat) (per : List Oper) (sts : List St) (tm0 : Tm) (hf : VH) (B : Nat) (β0 : Bt) (w0 : World) (nt : Nat) (df : List Deferred)

structure Inv (listed : Array Bool) (β : Bt) (a : Act) (w : World) : Prop where
  size : listed.size = all.length
  closed : ∀ i o, listed.getD i false = true → all[i]? = some o → ∀ e ∈ o.after.toList, Region.binds .any e = true → listed.getD e.on false = true
  cur : ∃ q, q ≤ per.length ∧ effAt T.ty per q = true ∧ (q < per.length → listed.getD (od.getD q 0) false = false) ∧
    (∀ e, e < per.length → effAt T.ty per e = true → (listed.getD (od.getD e 0) false = true ↔ e < q)) ∧ After B β0 (heapAt sts hf 0) w0 β (heapAt sts hf q) w
  regs : ∃ tmS, TmRel β nt tmS a.tmps ∧
    (∀ (p : Nat) (o : Oper) (s : St) (d : Tmp), per[p]? = some o → sts[p]? = some s → o.dst = some d → listed.getD (od.getD p 0) false = true → tget tmS d = s.v) ∧
    (∀ t, (∀ (p : Nat) (o : Oper), per[p]? = some o → o.dst = some t → listed.getD (od.getD p 0) false = false) → tget tmS t = tget tm0 t)
  fresh : ∀ (p : Nat) (o : Oper) (s : St), per[p]? = some o → sts[p]? = some s → isAllocB T.ty o = true → vwanted all s.tm o = true → listed.getD (od.getD p 0) false = false → β s.h.next = none
  defers : a.defers = df
end

section
variable {all : List Oper} {od : List Nat} {sts : List St} {tm0 tmf : Tm} {hf : VH} {B : Nat} {β0 : Bt} {w0 : World} {nt : Nat} {df : List Deferred}

theorem od_get (st : Static T.ty all od) {p : Nat} (hp : p < all.length) : od[p]? = some (od.getD p 0) ∧ od.getD p 0 < all.length := by
  have hp' : p < od.length := by rw [st.len]; exact hp
  have h1 : od[p]? = some od[p] := List.getElem?_eq_getElem hp'
  have h2 : od.getD p 0 = od[p] := by simp [List.getD, h1]
  rw [h2]
  exact ⟨h1, st.lt _ (List.getElem_mem hp')⟩

theorem per_get (st : Static T.ty all od) {p : Nat} : (permOf all od).length = all.length ∧ (p < all.length → (permOf all od)[p]? = all[od.getD p 0]?) := by
  obtain ⟨h1, h2⟩ := permOf_get (all := all) (od := od) st.lt
  refine ⟨by rw [h1, st.len], fun hp => h2 p _ (od_get st hp).1⟩

theorem pos_of (st : Static T.ty all od) {i : Nat} (hi : i < all.length) : ∃ p, p < all.length ∧ od.getD p 0 = i := by
  obtain ⟨p, hp, e⟩ := List.getElem_of_mem (st.full i hi)
  refine ⟨p, by rw [← st.len]; exact hp, ?_⟩
  simp [List.getD, List.getElem?_eq_getElem hp, e]

theorem od_inj (st : Static T.ty all od) {p q : Nat} (hp : p < all.length) (hq : q < all.length) (h : od.getD p 0 = od.getD q 0) : p = q := by
  have hp' : p < od.length := by rw [st.len]; exact hp
  have hq' : q < od.length := by rw [st.len]; exact hq
  have e1 : od.getD p 0 = od[p] := by simp [List.getD, List.getElem?_eq_getElem hp']
  have e2 : od.getD q 0 = od[q] := by simp [List.getD, List.getElem?_eq_getElem hq']
  rw [e1, e2] at h
  have hpw := List.pairwise_iff_getElem.1 st.nodup
  rcases Nat.lt_trichotomy p q with hlt | rfl | hlt
  · exact (hpw p q hp' hq' hlt h).elim
  · rfl
  · exact (hpw q p hq' hp' hlt h.symm).elim

/-- Who stands ahead stands ahead in the order, too. -/
theorem anc_pos (st : Static T.ty all od) {p q : Nat} (hp : p < all.length) (hq : q < all.length) (h : isAnc (ancs all) (od.getD p 0) (od.getD q 0) = true) : q < p := by
  obtain ⟨_, hpi⟩ := od_get st hp
  have hcl := anc_closed all (fun i => i ∈ od.take p) (by
    intro i o hi ho e he hb
    obtain ⟨r, hr, e1⟩ := List.getElem_of_mem hi
    have hr1 : r < p := by have := hr; simp at this; omega
    have hr2 : r < all.length := by omega
    have e2 : od.getD r 0 = i := by
      have hr3 : r < od.length := by rw [st.len]; exact hr2
      simp [List.getD, List.getElem?_eq_getElem hr3]
      rw [← e1, List.getElem_take]
    have hpo : (permOf all od)[r]? = some o := by rw [(per_get st).2 hr2, e2]; exact ho
    have := st.edges r o hpo e he hb
    exact List.mem_of_mem_take (i := r) (by rw [List.take_take, Nat.min_eq_left (by omega)]; exact this)) (fun i hi => st.lt i (List.mem_of_mem_take hi))
  have ho : all[od.getD p 0]? = some all[od.getD p 0] := List.getElem?_eq_getElem hpi
  have hpo : (permOf all od)[p]? = some all[od.getD p 0] := by rw [(per_get st).2 hp]; exact ho
  have hmem := hcl _ _ ho (fun e he hb => st.edges p _ hpo e he hb) _ h
  obtain ⟨r, hr, e1⟩ := List.getElem_of_mem hmem
  have hr1 : r < p := by have := hr; simp at this; omega
  have e2 : od.getD r 0 = od.getD q 0 := by
    have hr3 : r < od.length := by rw [st.len]; omega
    rw [← e1, List.getElem_take]
    simp [List.getD, List.getElem?_eq_getElem hr3]
  have := od_inj st (by omega) hq e2
  omega

/-- What a place of the order holds in the temporaries. -/
theorem tmAt_spec (st : Static T.ty all od) (t : Trail P T all (permOf all od) sts tmf hf) (h0 : tmAt sts tmf 0 = tm0) (hn : nt < 2 ^ 39) (hdst : ∀ o ∈ all, dstOk nt o = true) : ∀ q, q ≤ all.length →
    (∀ (p : Nat) (o : Oper) (s : St) (d : Tmp), p < q → (permOf all od)[p]? = some o → sts[p]? = some s → o.dst = some d → tget (tmAt sts tmf q) d = s.v) ∧
    (∀ x, (∀ (p : Nat) (o : Oper), p < q → (permOf all od)[p]? = some o → o.dst ≠ some x) → tget (tmAt sts tmf q) x = tget tm0 x) := by
  intro q
  induction q with
  | zero => intro _; exact ⟨fun p o s d hp => by omega, fun x _ => by rw [h0]⟩
  | succ q ih =>
    intro hq
    obtain ⟨i1, i2⟩ := ih (by omega)
    have hpl := (per_get (p := 0) st).1
    have hqp : q < (permOf all od).length := by omega
    have ho := List.getElem?_eq_getElem hqp
    obtain ⟨s, hs, g1, g2, g3, g4, g5⟩ := t.at ho
    have hmem : (permOf all od)[q] ∈ all := by
      have := (per_get (p := q) st).2 (by omega)
      rw [ho] at this
      exact List.mem_of_getElem? this.symm
    have hd := hdst _ hmem
    rw [g1] at g4
    refine ⟨?_, ?_⟩
    · intro p o s' d hp hpo hs' hod
      rw [g4]
      by_cases e : p = q
      · subst e
        rw [ho] at hpo; cases hpo
        rw [hs] at hs'; cases hs'
        rw [hod, tget_tput _ _ _ _ (by simp [dstOk, hod, Nat.blt_eq] at hd; omega), if_pos rfl]
      · have hp' : p < q := by omega
        cases hdq : ((permOf all od)[q]).dst with
        | none => simp only [tput]; exact i1 p o s' d hp' hpo hs' hod
        | some d' =>
          have hne : d' ≠ d := by
            intro e2; subst e2
            have h1 := (per_get (p := p) st).2 (by omega)
            have h2 := (per_get (p := q) st).2 (by omega)
            rw [hpo] at h1; rw [ho] at h2
            refine st.once (od.getD q 0) (od.getD p 0) d' (od_get st (by omega)).2 (od_get st (by omega)).2 (fun e3 => e (od_inj st (by omega) (by omega) e3.symm)) ?_ ?_
            · unfold dstAt; rw [← h1]; exact hod
            · unfold dstAt; rw [← h2]; exact hdq
          rw [tget_tput _ _ _ _ (by simp [dstOk, hdq, Nat.blt_eq] at hd; omega), if_neg hne]
          exact i1 p o s' d hp' hpo hs' hod
    · intro x hx
      rw [g4]
      have hxq := hx q _ (Nat.lt_succ_self q) ho
      cases hdq : ((permOf all od)[q]).dst with
      | none => simp only [tput]; exact i2 x fun p o hp hpo => hx p o (by omega) hpo
      | some d' =>
        rw [tget_tput _ _ _ _ (by simp [dstOk, hdq, Nat.blt_eq] at hd; omega), if_neg (fun e => hxq (by rw [hdq, e]))]
        exact i2 x fun p o hp hpo => hx p o (by omega) hpo

end
end
end Go.Proofs.YtfempmlelmdhbaaGreat.VM
