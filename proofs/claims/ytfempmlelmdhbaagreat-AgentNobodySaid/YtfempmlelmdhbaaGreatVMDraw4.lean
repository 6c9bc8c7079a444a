/- VMDraw4: a part of a verified evaluator of the model's code (or of its run), used for this seat's laws; it has no conditions. -/
import Derived.Test.YtfempmlelmdhbaaGreatVMDraw3
set_option linter.all false
namespace Go.Proofs.YtfempmlelmdhbaaGreat.VM
open Go Go.RowKit

section
variable {P : Program} {T : Tb} {od : List Nat} {sts : List St} {tm0 tmf : Tm} {hf : VH} {B : Nat} {β0 : Bt} {w0 : World} {nt : Nat} {df : List Deferred}

theorem vreads_next {all : List Oper} (st : Static T.ty all od) (q0 : Nat) (h0 : q0 < (permOf all od).length) : ∃ q, q0 < q ∧ q ≤ (permOf all od).length ∧ effAt T.ty (permOf all od) q = true ∧ ∀ r, q0 < r → r < q → effAt T.ty (permOf all od) r = false := by
  have gen : ∀ n q1, q1 + n = (permOf all od).length → q0 < q1 → (∀ r, q0 < r → r < q1 → effAt T.ty (permOf all od) r = false) → ∃ q, q0 < q ∧ q ≤ (permOf all od).length ∧ effAt T.ty (permOf all od) q = true ∧ ∀ r, q0 < r → r < q → effAt T.ty (permOf all od) r = false := by
    intro n
    induction n with
    | zero =>
      intro q1 h1 h2 h3
      refine ⟨q1, h2, by omega, ?_, h3⟩
      unfold effAt
      rw [List.getElem?_eq_none (by omega)]
    | succ n ih =>
      intro q1 h1 h2 h3
      cases he : effAt T.ty (permOf all od) q1 with
      | true => exact ⟨q1, h2, by omega, he, h3⟩
      | false =>
        refine ih (q1 + 1) (by omega) (by omega) fun r hr1 hr2 => ?_
        by_cases e : r = q1
        · subst e; exact he
        · exact h3 r hr1 (by omega)
  exact gen ((permOf all od).length - (q0 + 1)) (q0 + 1) (by omega) (by omega) (fun r h1 h2 => by omega)

theorem isNext_of {per : List Oper} {p q : Nat} (h1 : p < q) (h2 : ∀ r, p < r → r < q → effAt T.ty per r = false) : isNext T.ty per p q = true := by
  unfold isNext
  simp only [Bool.and_eq_true, Nat.blt_eq]
  refine ⟨h1, List.all_eq_true.2 fun r hr => ?_⟩
  have hr' := List.mem_range.1 hr
  rcases Nat.lt_or_ge p r with h | h
  · simp [h2 r h hr']
  · simp [Nat.ble_eq, h]

theorem isNext_spec {per : List Oper} {p q : Nat} (h : isNext T.ty per p q = true) : p < q ∧ ∀ r, p < r → r < q → effAt T.ty per r = false := by
  unfold isNext at h
  simp only [Bool.and_eq_true, Nat.blt_eq] at h
  refine ⟨h.1, fun r h1 h2 => ?_⟩
  have := rangeAll_spec h.2 r h2
  simp only [Bool.or_eq_true, Nat.ble_eq, Bool.not_eq_true'] at this
  rcases this with h3 | h3
  · omega
  · exact h3

theorem noAlloc_spec {per : List Oper} {p q : Nat} (h : noAlloc T.ty per p q = true) : ∀ r, p < r → r < q → allocAt T.ty per r = false := by
  intro r h1 h2
  have := rangeAll_spec h r h2
  simp only [Bool.or_eq_true, Nat.ble_eq, Bool.not_eq_true'] at this
  rcases this with h3 | h3
  · omega
  · exact h3

theorem does_inv {all : List Oper} {o : Oper} {tm : Tm} {h h' : VH} {v : VV} (d : Does P T all o tm h v h') :
    (vwanted all tm o = false ∧ v = undefV ∧ h' = h) ∨ (vwanted all tm o = true ∧ vexec T tm o.op h = some (.val v h')) ∨ (vwanted all tm o = true ∧ isEffB T.ty o = true ∧ isAllocB T.ty o = false) := by
  cases d with
  | idle hw => exact .inl ⟨hw, rfl, rfl⟩
  | val hw he => exact .inr (.inl ⟨hw, he⟩)
  | call hw he _ _ => obtain ⟨h6, _⟩ := enter_eff he; exact .inr (.inr ⟨hw, by simp [isEffB, h6], by simp [isAllocB, h6]⟩)

variable (ops : Array Oper) (ok : T.Ok P)
include ok

theorem inv_wp (st : Static T.ty ops.toList od) (t : Trail P T ops.toList (permOf ops.toList od) sts tmf hf) (h0 : tmAt sts tmf 0 = tm0) (hn : nt < 2 ^ 39) (hdst : ∀ o ∈ ops.toList, dstOk nt o = true)
    {di : DI} (hdi : di.checks = drawChecks T.ty ops.toList od) (hck : recheckAll T ops.toList (permOf ops.toList od) sts hf di = true)
    {Q : Exit → Act → World → Prop} (hQ : ∀ β' a' w', TmRel β' nt tmf a'.tmps → a'.defers = df → After B β0 (heapAt sts hf 0) w0 β' hf w' → Q .normal a' w') :
    ∀ (fuel : Nat) (listed : Array Bool) (β : Bt) (a : Act) (w : World), Inv (T := T) ops.toList od (permOf ops.toList od) sts tm0 hf B β0 w0 nt df listed β a w → cntU ops.toList.length (fun i => listed.getD i false) ≤ fuel →
      wpAny P .any ops Q fuel listed a w := by
  have hpl := (per_get (p := 0) st).1
  -- all have been
  have done : ∀ (listed : Array Bool) (β : Bt) (a : Act) (w : World), Inv (T := T) ops.toList od (permOf ops.toList od) sts tm0 hf B β0 w0 nt df listed β a w → (∀ i, i < ops.toList.length → listed.getD i false = true) → Q .normal a w := by
    intro listed β a w inv hall
    obtain ⟨q, hq1, hq2, hq3, hq4, A⟩ := inv.cur
    have hqe : q = (permOf ops.toList od).length := by
      rcases Nat.lt_or_ge q (permOf ops.toList od).length with h | h
      · have := hq3 h
        rw [hall _ (od_get st (by omega)).2] at this; cases this
      · omega
    have hh : heapAt sts hf q = hf := by
      unfold heapAt
      rw [List.getElem?_eq_none (by rw [t.len]; omega)]
    rw [hh] at A
    obtain ⟨tmS, hr, hA, hB⟩ := inv.regs
    refine hQ β a w ⟨hr.size, hr.small, fun x => ?_⟩ inv.defers A
    obtain ⟨s1, s2⟩ := tmAt_spec st t h0 hn hdst ops.toList.length (Nat.le_refl _)
    have htm : tmAt sts tmf ops.toList.length = tmf := by
      unfold tmAt
      rw [List.getElem?_eq_none (by rw [t.len]; omega)]
    rw [htm] at s1 s2
    have : tget tmf x = tget tmS x := by
      by_cases hw : ∃ (r : Nat) (o' : Oper), (permOf ops.toList od)[r]? = some o' ∧ o'.dst = some x
      · obtain ⟨r, o', hr', hd⟩ := hw
        have hrl : r < ops.toList.length := by
          rcases Nat.lt_or_ge r (permOf ops.toList od).length with h | h
          · omega
          · rw [List.getElem?_eq_none h] at hr'; cases hr'
        obtain ⟨s, hs, _⟩ := t.at hr'
        rw [s1 r o' s x hrl hr' hs hd, hA r o' s x hr' hs hd (hall _ (od_get st hrl).2)]
      · rw [s2 x fun r o' _ h1 h2 => hw ⟨r, o', h1, h2⟩, hB x fun r o' h1 h2 => (hw ⟨r, o', h1, h2⟩).elim]
    rw [this]; exact hr.get x
  -- somebody is ready while not all have been
  have progress : ∀ (listed : Array Bool), listed.size = ops.toList.length → Region.ready .any ops listed = [] → ∀ i, i < ops.toList.length → listed.getD i false = true := by
    intro listed hsz hrd
    have : ∀ p, p < ops.toList.length → listed.getD (od.getD p 0) false = true := by
      intro p
      induction p using Nat.strongRecOn with
      | _ p ih =>
        intro hp
        cases hq : listed.getD (od.getD p 0) false with
        | true => rfl
        | false =>
          exfalso
          obtain ⟨hg, hlt⟩ := od_get st hp
          have ho : ops.toList[od.getD p 0]? = some ops.toList[od.getD p 0] := List.getElem?_eq_getElem hlt
          have hpo : (permOf ops.toList od)[p]? = some ops.toList[od.getD p 0] := by rw [(per_get st).2 hp]; exact ho
          have hm : od.getD p 0 ∈ Region.ready .any ops listed := by
            rw [mem_ready]
            refine ⟨getD_eq_false_lt (by rw [hsz]; exact hlt) hq, _, by rw [← Array.getElem?_toList]; exact ho, fun e he hb => ?_⟩
            have hmem := st.edges p _ hpo e (by simpa using he) hb
            obtain ⟨r, hr, e1⟩ := List.getElem_of_mem hmem
            have hr1 : r < p := by have := hr; simp at this; omega
            have e2 : od.getD r 0 = e.on := by
              have hr3 : r < od.length := by rw [st.len]; omega
              rw [← e1, List.getElem_take]
              simp [List.getD, List.getElem?_eq_getElem hr3]
            rw [← e2]; exact ih r hr1 (by omega)
          rw [hrd] at hm; cases hm
    intro i hi
    obtain ⟨p, hp, e⟩ := pos_of st hi
    rw [← e]; exact this p hp
  intro fuel
  induction fuel with
  | zero =>
    intro listed β a w inv hcnt
    have hall := cntU_zero _ _ (Nat.le_zero.1 hcnt)
    refine ⟨?_, done listed β a w inv hall⟩
    cases hrd : Region.ready .any ops listed with
    | nil => rfl
    | cons i l =>
      have hm : i ∈ Region.ready .any ops listed := by rw [hrd]; simp
      rw [mem_ready] at hm
      obtain ⟨h1, o, h2, _⟩ := hm
      obtain ⟨h3, h4⟩ := getD_true_lt h1
      have := hall i (by rw [← inv.size]; exact h3)
      rw [this] at h4; cases h4
  | succ fuel ih =>
    intro listed β a w inv hcnt
    refine ⟨fun hrd => done listed β a w inv (progress listed inv.size hrd), fun i hi => ?_⟩
    rw [mem_ready] at hi
    obtain ⟨h1, o, h2, hedge⟩ := hi
    obtain ⟨hlt, hnl⟩ := getD_true_lt h1
    have hil : i < ops.toList.length := by rw [← inv.size]; exact hlt
    obtain ⟨p, hp, hpe⟩ := pos_of st hil
    subst hpe
    have ho : ops.toList[od.getD p 0]? = some o := by rw [Array.getElem?_toList]; exact h2
    have hpo : (permOf ops.toList od)[p]? = some o := by rw [(per_get st).2 hp]; exact ho
    have hedge' : ∀ e ∈ o.after.toList, Region.binds .any e = true → listed.getD e.on false = true := fun e he hb => hedge e (by simpa using he) hb
    obtain ⟨s, hs, g1, g2, g3, g4, hd⟩ := t.at hpo
    obtain ⟨q, hq1, hq2, hq3, hq4, A⟩ := inv.cur
    obtain ⟨tmS, hr, hA, hB⟩ := inv.regs
    have hag := inv_agree st t h0 hn hdst inv hp ho hnl hedge' hA hB
    rw [← g1] at hag
    have hag' : ∀ x ∈ namesOf ops.toList o, tget s.tm x = tget tmS x := fun x hx => (hag x hx).symm
    have hdS := does_agree hag' hd
    have hcnt' : cntU ops.toList.length (fun j => (listed.setIfInBounds (od.getD p 0) true).getD j false) ≤ fuel := by
      have := cntU_set ops.toList.length (fun j => listed.getD j false) (fun j => (listed.setIfInBounds (od.getD p 0) true).getD j false) (od.getD p 0) hil hnl (getD_set_self hlt) (fun j hj => getD_set_ne false (Ne.symm hj))
      omega
    have hclosed : ∀ j, isAnc (ancs ops.toList) (od.getD p 0) j = true → listed.getD j false = true := by
      have := anc_closed ops.toList (fun i => listed.getD i false = true) (fun i o h1 h2 => inv.closed i o h1 h2) (fun i hi => by
        rw [← inv.size]
        rcases Nat.lt_or_ge i listed.size with h | h
        · exact h
        · simp [Array.getD, Nat.not_lt.2 h] at hi) _ _ ho hedge'
      exact this
    have hclosed2 : ∀ j, listed.getD j false = true → isAnc (ancs ops.toList) j (od.getD p 0) = true → False := by
      intro j hj ha
      have hjl : j < ops.toList.length := by
        rw [← inv.size]
        rcases Nat.lt_or_ge j listed.size with h | h
        · exact h
        · simp [Array.getD, Nat.not_lt.2 h] at hj
      have hoj := List.getElem?_eq_getElem hjl
      have := anc_closed ops.toList (fun i => listed.getD i false = true) (fun i o h1 h2 => inv.closed i o h1 h2) (fun i hi => by
        rw [← inv.size]
        rcases Nat.lt_or_ge i listed.size with h | h
        · exact h
        · simp [Array.getD, Nat.not_lt.2 h] at hi) _ _ hoj (inv.closed _ _ hj hoj) _ ha
      rw [this] at hnl; cases hnl
    cases hef : isEffB T.ty o with
    | true =>
      -- an effect: it is the next one
      have hefp : effAt T.ty (permOf ops.toList od) p = true := by simp [effAt, hpo, hef]
      have hpq : p = q := by
        have h3 : ¬ p < q := fun h => by
          have := (hq4 p (by omega) hefp).2 h
          rw [this] at hnl; cases hnl
        rcases Nat.lt_or_ge q p with h4 | h4
        · have h5 := st.chain q p h4 (by omega) hefp hq2
          have h6 := hclosed _ h5
          rw [hq3 (by omega)] at h6; cases h6
        · omega
      subst hpq
      rw [← g2] at A
      refine does_wp ok w A.sim hr ops h2 hdS fun x β' w' hv A' => ?_
      obtain ⟨q', hq'1, hq'2, hq'3, hq'4⟩ := vreads_next st p (by omega)
      have A2 := A.trans A'
      rw [g3] at A2 A'
      have A3 : After B β0 (heapAt sts hf 0) w0 β' (heapAt sts hf q') w' :=
        ⟨A2.le, A2.old, t.grow ok (by omega) hq'2 (fun r h1 h2 => hq'4 r (by omega) h2) A2.sim (fun _ _ _ _ h => valloc_leaf h), A2.below, t.next_mono (Nat.zero_le _) hq'2⟩
      refine ih _ β' _ w' (inv_set st t hdst inv hp ho hs hnl hedge' A'.le hv ?_ ?_) hcnt'
      · refine ⟨q', hq'2, hq'3, fun h => ?_, fun e he1 he2 => ?_, A3⟩
        · rw [getD_set_ne false (fun e => by have := od_inj st hp (by omega) e; omega)]
          cases hx : listed.getD (od.getD q' 0) false with
          | false => rfl
          | true => have := (hq4 q' h hq'3).1 hx; omega
        · rw [getD_set_iff hlt]
          constructor
          · rintro (h | h)
            · have := od_inj st (by omega) hp h; omega
            · have := (hq4 e he1 he2).1 h; omega
          · intro h
            by_cases e5 : e = p
            · subst e5; exact .inl rfl
            · refine .inr ((hq4 e he1 he2).2 ?_)
              rcases Nat.lt_or_ge e p with h6 | h6
              · exact h6
              · have := hq'4 e (by omega) h; rw [this] at he2; cases he2
      · intro p' o' s' hne hpo' hs' hal hw' hl'
        have hp'l : p' < (permOf ops.toList od).length := by
          rcases Nat.lt_or_ge p' (permOf ops.toList od).length with h | h
          · exact h
          · rw [List.getElem?_eq_none h] at hpo'; cases hpo'
        have hb := inv.fresh p' o' s' hpo' hs' hal hw' hl'
        obtain ⟨s2, hs2, k1, k2, k3, k4, k5⟩ := t.at hpo'
        rw [hs'] at hs2; cases hs2
        rcases Nat.lt_or_ge p' p with h | h
        · -- its number lies below
          have hlt2 : s'.h.next < (heapAt sts hf p).next := by
            have hm := t.next_mono (p := p' + 1) (q := p) (by omega) (by omega)
            rw [← k3] at hm
            rcases does_plain (by
              cases hq5 : isEffB T.ty o' with
              | false => rfl
              | true =>
                unfold isEffB at hq5; unfold isAllocB at hal
                cases hc5 : cls T.ty o'.op <;> simp [hc5] at hq5 hal) k5 with e | ⟨_, _, hr5, ob, mk, ha5, _, e⟩
            · exfalso
              rcases does_inv k5 with ⟨hw5, _⟩ | ⟨hw5, he5⟩ | ⟨_, _, h6⟩
              · rw [hw'] at hw5; cases hw5
              · obtain ⟨hr5, ob, mk, ha5, _, e5⟩ := cls_alloc_ok (by
                  unfold isAllocB at hal
                  cases hc5 : cls T.ty o'.op <;> simp [hc5] at hal
                  rfl) he5
                rw [e] at e5
                have := congrArg VH.next e5
                rw [new_next] at this; omega
              · rw [h6] at hal; cases hal
            · rw [e, new_next] at hm; omega
          rw [A'.old _ (by rw [g2]; exact hlt2)]; exact hb
        · -- its number lies above all
          cases hx : β' s'.h.next with
          | none => rfl
          | some bi =>
            have h8 := (A2.sim.low _ _ hx).1
            have h9 := t.next_mono (p := p + 1) (q := p') (by omega) (by omega)
            rw [k2] at h8; omega
    | false =>
      have hefp : effAt T.ty (permOf ops.toList od) p = false := by simp [effAt, hpo, hef]
      have hpq : p ≠ q := by intro e; subst e; rw [hefp] at hq2; cases hq2
      -- the present stays the same
      have cur' : ∀ {β' : Bt} {w' : World}, After B β0 (heapAt sts hf 0) w0 β' (heapAt sts hf q) w' → ∃ q, q ≤ (permOf ops.toList od).length ∧ effAt T.ty (permOf ops.toList od) q = true ∧ (q < (permOf ops.toList od).length → (listed.setIfInBounds (od.getD p 0) true).getD (od.getD q 0) false = false) ∧
          (∀ e, e < (permOf ops.toList od).length → effAt T.ty (permOf ops.toList od) e = true → ((listed.setIfInBounds (od.getD p 0) true).getD (od.getD e 0) false = true ↔ e < q)) ∧ After B β0 (heapAt sts hf 0) w0 β' (heapAt sts hf q) w' := by
        intro β' w' A'
        refine ⟨q, hq1, hq2, fun h => ?_, fun e he1 he2 => ?_, A'⟩
        · rw [getD_set_ne false (fun e => hpq (od_inj st hp (by omega) e))]; exact hq3 h
        · rw [getD_set_ne false (fun e5 => by have := od_inj st hp (by omega) e5; subst this; rw [hefp] at he2; cases he2)]
          exact hq4 e he1 he2
      have hposs : possible T.ty (ancs ops.toList) od (permOf ops.toList od) p q = true := by
        unfold possible
        refine List.all_eq_true.2 fun e he => ?_
        have he1 := List.mem_range.1 he
        cases he2 : effAt T.ty (permOf ops.toList od) e with
        | false => rfl
        | true =>
          simp only [Bool.not_true, Bool.false_or]
          cases hb : Nat.blt e q with
          | true =>
            have hlt5 : e < q := by simpa [Nat.blt_eq] using hb
            have hle5 := (hq4 e he1 he2).2 hlt5
            cases hx : isAnc (ancs ops.toList) (od.getD e 0) (od.getD p 0) with
            | false => rfl
            | true => exact (hclosed2 _ hle5 hx).elim
          | false =>
            have hlt5 : ¬ e < q := by intro h; rw [show Nat.blt e q = true from by simpa [Nat.blt_eq] using h] at hb; cases hb
            cases hx : isAnc (ancs ops.toList) (od.getD p 0) (od.getD e 0) with
            | false => rfl
            | true => exact (hlt5 ((hq4 e he1 he2).1 (hclosed _ hx))).elim
      have fresh' : ∀ (p' : Nat) (o' : Oper) (s' : St), p' ≠ p → (permOf ops.toList od)[p']? = some o' → sts[p']? = some s' → isAllocB T.ty o' = true → vwanted ops.toList s'.tm o' = true → listed.getD (od.getD p' 0) false = false → β s'.h.next = none :=
        fun p' o' s' _ h1 h2 h3 h4 h5 => inv.fresh p' o' s' h1 h2 h3 h4 h5
      have hwr := wanted_rel hr ops o
      have hwS : vwanted ops.toList s.tm o = vwanted ops.toList tmS o := vwanted_agree hag'
      have hve := veval_agree hag'
      unfold wpOp
      simp only [h2, hwr]
      cases hwant : vwanted ops.toList s.tm o with
      | false =>
        rw [← hwS, hwant]
        simp only [Bool.false_eq_true, if_false]
        have hsv : s.v = undefV := by
          rcases does_inv hd with ⟨_, e, _⟩ | ⟨hw, _⟩ | ⟨hw, _⟩
          · exact e
          · rw [hwant] at hw; cases hw
          · rw [hwant] at hw; cases hw
        exact ih _ β _ w (inv_set st t hdst inv hp ho hs hnl hedge' (Bt.le_refl β) (by rw [hsv]; exact undef_rel β) (cur' A) fresh') hcnt'
      | true =>
        rw [← hwS, hwant]
        simp only [if_true]
        left
        -- what the order's run found
        obtain ⟨v, h', he, ev, eh⟩ : ∃ v h', vexec T s.tm o.op s.h = some (.val v h') ∧ v = s.v ∧ h' = s.h' := by
          rcases does_inv hd with ⟨hw, _⟩ | ⟨_, he⟩ | ⟨_, h6, _⟩
          · rw [hwant] at hw; cases hw
          · exact ⟨_, _, he, rfl, rfl⟩
          · rw [h6] at hef; cases hef
        subst ev; subst eh
        cases hc : cls T.ty o.op with
        | eff => simp [isEffB, hc] at hef
        | pure =>
          have hpu : vpure T s.tm o.op = some s.v := by
            unfold vexec at he; rw [hc] at he; simp only at he
            split at he
            · rename_i u hu
              simp only [Option.some.injEq, VN.val.injEq] at he
              rw [← he.1]; exact hu
            · cases he
          rw [vpure_congr hve] at hpu
          obtain ⟨x, hx, hv⟩ := vpure_run ok w hr o hc hpu
          unfold Oper.wp
          rw [hx]
          exact ih _ β _ w (inv_set st t hdst inv hp ho hs hnl hedge' (Bt.le_refl β) hv (cur' A) fresh') hcnt'
        | read =>
          have hre0 : vread T s.tm o.op s.h = some s.v := by
            unfold vexec at he; rw [hc] at he; simp only at he
            split at he
            · rename_i u hu
              simp only [Option.some.injEq, VN.val.injEq] at he
              rw [← he.1]; exact hu
            · cases he
          have hrd : readAt T.ty (permOf ops.toList od) p = true := by simp [readAt, hpo, isReadB, hc]
          have hre : vread T s.tm o.op (heapAt sts hf q) = some s.v := by
            cases hnx : isNext T.ty (permOf ops.toList od) p q && noAlloc T.ty (permOf ops.toList od) p q with
            | true =>
              simp only [Bool.and_eq_true] at hnx
              obtain ⟨h5, h6⟩ := isNext_spec hnx.1
              have h7 := noAlloc_spec hnx.2
              have hal : allocAt T.ty (permOf ops.toList od) p = false := by simp [allocAt, hpo, isAllocB, hc]
              rw [t.same (p := p) (q := q) (by omega) hq1 (fun r h8 h9 => by
                rcases Nat.eq_or_lt_of_le h8 with rfl | h10
                · exact ⟨hefp, hal⟩
                · exact ⟨h6 r h10 h9, h7 r h10 h9⟩), ← g2]
              exact hre0
            | false =>
              have hnd : needs T.ty (ancs ops.toList) od (permOf ops.toList od) p q = true := by
                unfold needs; rw [hq2, hposs, hrd, hnx]; rfl
              have hrc := checks_fact hdi hck (by omega) hq1 hnd
              unfold recheck at hrc
              rw [hpo, hs] at hrc
              simp only [hwant, hc] at hrc
              split at hrc
              · rename_i u hu
                rw [hu, VV.eq_of_beq _ _ hrc]
              · cases hrc
          rw [vread_congr hve] at hre
          obtain ⟨x, w1, hx, hv, A1⟩ := vread_run w ok A.sim hr o hre
          unfold Oper.wp
          rw [hx]
          exact ih _ β _ w1 (inv_set st t hdst inv hp ho hs hnl hedge' (Bt.le_refl β) hv (cur' (A.trans A1)) fresh') hcnt'
        | alloc =>
          obtain ⟨hroom, ob, mk, ha, hmv, hmh⟩ := cls_alloc_ok hc he
          have hal : allocAt T.ty (permOf ops.toList od) p = true := by simp [allocAt, hpo, isAllocB, hc]
          have halo : isAllocB T.ty o = true := by simp [isAllocB, hc]
          -- it comes behind all effects that stand ahead of it in the order
          have hltq : p < q := by
            rcases Nat.lt_or_ge q p with h5 | h5
            · have h6 := hclosed _ (st.alloc q p h5 (by omega) hal hq2)
              rw [hq3 (by omega)] at h6; cases h6
            · omega
          have hsn : s.h.next < 2 ^ 39 := by have := room_le hroom; omega
          have hnew : s.h'.get s.h.next = ob := by rw [hmh, VH.get_new _ _ _ hsn, if_pos rfl]
          have hgq : (heapAt sts hf q).get s.h.next = ob := by
            cases hnx : isNext T.ty (permOf ops.toList od) p q with
            | true =>
              obtain ⟨h5, h6⟩ := isNext_spec hnx
              rw [t.keeps (p := p + 1) (q := q) (b := s.h.next) (by omega) hq1 (fun r h8 h9 => h6 r (by omega) h9) (by rw [← g3, hmh, new_next]; omega), ← g3]
              exact hnew
            | false =>
              have hnd : needs T.ty (ancs ops.toList) od (permOf ops.toList od) p q = true := by
                unfold needs; rw [hq2, hposs, hal, hnx]; simp
              have hrc := checks_fact hdi hck (by omega) hq1 hnd
              unfold recheck at hrc
              rw [hpo, hs] at hrc
              simp only [hwant, hc] at hrc
              rw [VObj.eq_of_beq _ _ hrc]; exact hnew
          have ha' := ha
          rw [valloc_congr hve] at ha'
          obtain ⟨w1, rob, x, sz, hx, hw1, hlk, hob, hmk⟩ := valloc_run w ok hr o ha'
          have hbn := inv.fresh p o s hpo hs halo hwant hnl
          have hnlt : s.h.next < (heapAt sts hf q).next := by
            have hm := t.next_mono (p := p + 1) (q := q) (by omega) hq1
            rw [← g3, hmh, new_next] at hm; omega
          obtain ⟨S2, hbl⟩ := alloc_after A.sim hbn hnlt hgq hob hw1 hlk
          have hle : β.le (β.add s.h.next ⟨w.heap.size, 0, sz⟩) := Bt.le_add hbn _
          have h0n : (heapAt sts hf 0).next ≤ s.h.next := by
            have := t.next_mono (p := 0) (q := p) (Nat.zero_le _) (by omega)
            rw [g2]; exact this
          unfold Oper.wp
          rw [hx]
          refine ih _ _ _ w1 (inv_set st t hdst inv hp ho hs hnl hedge' hle (by rw [hmv]; exact hmk _ _ (Bt.add_self _ _ _)) (cur' ⟨Bt.le_trans A.le hle, fun b hb => by rw [Bt.add_ne _ _ (by omega)]; exact A.old b hb, S2, A.below.trans hbl, A.next⟩) ?_) hcnt'
          intro p' o' s' hne hpo' hs' hal' hw' hl'
          have hp'l : p' < (permOf ops.toList od).length := by
            rcases Nat.lt_or_ge p' (permOf ops.toList od).length with h | h
            · exact h
            · rw [List.getElem?_eq_none h] at hpo'; cases hpo'
          obtain ⟨s2, hs2, k1, k2, k3, k4, k5⟩ := t.at hpo'
          rw [hs'] at hs2; cases hs2
          have hne2 : s'.h.next ≠ s.h.next := by
            rcases Nat.lt_or_ge p p' with h | h
            · have hm := t.next_mono (p := p + 1) (q := p') (by omega) (by omega)
              rw [← g3, hmh, new_next, ← k2] at hm; omega
            · have hlt5 : p' < p := by omega
              have hm := t.next_mono (p := p' + 1) (q := p) (by omega) (by omega)
              rw [← k3, ← g2] at hm
              have hc5 : cls T.ty o'.op = .alloc := by
                unfold isAllocB at hal'
                cases hc5 : cls T.ty o'.op <;> simp [hc5] at hal'
                rfl
              rcases does_inv k5 with ⟨hw5, _⟩ | ⟨hw5, he5⟩ | ⟨_, _, h6⟩
              · rw [hw'] at hw5; cases hw5
              · obtain ⟨hr5, ob5, mk5, ha5, _, e5⟩ := cls_alloc_ok hc5 he5
                rw [e5, new_next] at hm; omega
              · rw [h6] at hal'; cases hal'
          rw [Bt.add_ne _ _ hne2]
          exact inv.fresh p' o' s' hpo' hs' hal' hw' hl'

end
end Go.Proofs.YtfempmlelmdhbaaGreat.VM
