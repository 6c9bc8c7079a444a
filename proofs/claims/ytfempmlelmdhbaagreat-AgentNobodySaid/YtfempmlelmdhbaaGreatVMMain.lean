/- VMMain: a part of a verified evaluator of the model's code (or of its run), used for this seat's laws; it has no conditions. -/
import Derived.Test.YtfempmlelmdhbaaGreatVMDraw4
set_option linter.all false
namespace Go.Proofs.YtfempmlelmdhbaaGreat.VM
open Go Go.RowKit

def VE.toExit : VE → Exit
  | .normal => .normal
  | .exit id => .exit id
  | .ret => .ret

section
variable {P : Program} {T : Tb} (ok : T.Ok P)
include ok

theorem region_draw_wp {N : Nat} {di : DI} {id : Nat} {ops : Array Oper} {nt : Nat} {tm tm' : Tm} {h h' : VH} {e : VE} (hcall : ∀ m, m < N → CallOk P T m) (hst : drawStatic T.ty ops.toList di.order = true) (hdi : di.checks = drawChecks T.ty ops.toList di.order)
    (hdst : ∀ o ∈ ops.toList, dstOk nt o = true) (hr : vrun T N (.draw di ops.toList (permOf ops.toList di.order) tm h []) = some (.code e tm' h')) {B : Nat} {β : Bt} {a : Act} {w : World} (S : Sim B β h w) (r : TmRel β nt tm a.tmps)
    {Q : Exit → Act → World → Prop} (hQ : ∀ β' a' w', TmRel β' nt tm' a'.tmps → a'.defers = a.defers → After B β h w β' h' w' → Q e.toExit a' w') : (Code.region id ops true).wp P Q a w := by
  have st := drawStatic_spec hst
  obtain ⟨sts, t, hck, he, h0, hnil⟩ := draw_trail N _ _ _ _ hcall hr
  subst he
  simp only [List.reverse_nil, List.nil_append] at hck
  have hpl := (per_get (p := 0) st).1
  have htm0 : tmAt sts tm' 0 = tm := by
    unfold tmAt
    cases hs : sts[0]? with
    | some s => exact (h0 s hs).1
    | none =>
      have h1 := List.getElem?_eq_none_iff.1 hs
      have h2 : (permOf ops.toList di.order) = [] := List.length_eq_zero_iff.1 (by rw [← t.len]; omega)
      exact (hnil h2).1
  have hh0 : heapAt sts h' 0 = h := by
    unfold heapAt
    cases hs : sts[0]? with
    | some s => exact (h0 s hs).2
    | none =>
      have h1 := List.getElem?_eq_none_iff.1 hs
      have h2 : (permOf ops.toList di.order) = [] := List.length_eq_zero_iff.1 (by rw [← t.len]; omega)
      exact (hnil h2).2
  refine wp_region_any ok.mixed ?_
  have S0 : Sim B β h { w with drawn := w.drawn + 1 } := S.sameHeap rfl
  have hlen : ops.toList.length = ops.size := by simp
  refine inv_wp (tm0 := tm) (B := B) (β0 := β) (w0 := { w with drawn := w.drawn + 1 }) (df := a.defers) ops ok st t htm0 r.small hdst hdi hck ?_ ops.size _ β a _ ?_ ?_
  · intro β' a' w' hr' hd' A
    rw [hh0] at A
    exact hQ β' a' w' hr' hd' ⟨A.le, A.old, A.sim, ⟨A.below.os, A.below.tape, A.below.output, A.below.size, A.below.block⟩, A.next⟩
  · -- at the start
    have hfalse : ∀ i, (Array.replicate ops.size false).getD i false = false := by
      intro i; simp [Array.getD]
    obtain ⟨q, hq1, hq2, hq3⟩ : ∃ q, q ≤ (permOf ops.toList di.order).length ∧ effAt T.ty (permOf ops.toList di.order) q = true ∧ ∀ r, r < q → effAt T.ty (permOf ops.toList di.order) r = false := by
      cases he : effAt T.ty (permOf ops.toList di.order) 0 with
      | true => exact ⟨0, Nat.zero_le _, he, fun r hr => by omega⟩
      | false =>
        have hpos : 0 < (permOf ops.toList di.order).length := by
          rcases Nat.eq_zero_or_pos (permOf ops.toList di.order).length with h1 | h1
          · unfold effAt at he
            rw [List.getElem?_eq_none (by omega)] at he; cases he
          · exact h1
        obtain ⟨q, h1, h2, h3, h4⟩ := vreads_next st 0 hpos
        refine ⟨q, h2, h3, fun r hr => ?_⟩
        rcases Nat.eq_zero_or_pos r with h5 | h5
        · rw [h5]; exact he
        · exact h4 r h5 hr
    refine ⟨by simp, (fun i o hi => by rw [hfalse] at hi; cases hi), ⟨q, hq1, hq2, fun _ => hfalse _, fun e' he1 he2 => ?_, ?_⟩, ⟨tm, r, (fun p o s d _ _ _ hl => by rw [hfalse] at hl; cases hl), fun _ _ => rfl⟩, fun p o s hpo hs hal hw hl => ?_, rfl⟩
    · constructor
      · intro h1; rw [hfalse] at h1; cases h1
      · intro h1; rw [hq3 e' h1] at he2; cases he2
    · refine ⟨Bt.le_refl β, fun _ _ => rfl, t.grow ok (Nat.zero_le q) hq1 (fun r _ h2 => hq3 r h2) (by rw [hh0]; exact S0) (fun _ _ _ _ h => valloc_leaf h), Below.refl B _, t.next_mono (Nat.zero_le q) hq1⟩
    · obtain ⟨s2, hs2, k1, k2, _⟩ := t.at hpo
      rw [hs] at hs2; cases hs2
      cases hx : β s.h.next with
      | none => rfl
      | some bi =>
        have h1 := (S.low _ _ hx).1
        have hpl2 : p ≤ (permOf ops.toList di.order).length := by
          rcases Nat.lt_or_ge p (permOf ops.toList di.order).length with h2 | h2
          · omega
          · rw [List.getElem?_eq_none h2] at hpo; cases hpo
        have h2 := t.next_mono (Nat.zero_le p) hpl2
        rw [hh0, ← k2] at h2; omega
  · have : ∀ n, cntU n (fun i => (Array.replicate ops.size false).getD i false) ≤ n := by
      intro n
      induction n with
      | zero => exact Nat.le_refl _
      | succ n ih => simp only [cntU]; split <;> omega
    have := this ops.toList.length
    rw [hlen] at this ⊢; exact this

theorem code_rounds {nt : Nat} : ∀ (N : Nat), (∀ m, m < N → CallOk P T m) →
    (∀ (dr : Tr DI) (c : Code) (tm : Tm) (h : VH) (e : VE) (tm' : Tm) (h' : VH) (B : Nat) (β : Bt) (a : Act) (w : World) (Q : Exit → Act → World → Prop), codeOk T.ty nt dr c = true → vrun T N (.code dr c tm h) = some (.code e tm' h') → Sim B β h w → TmRel β nt tm a.tmps →
      (∀ β' a' w', TmRel β' nt tm' a'.tmps → a'.defers = a.defers → After B β h w β' h' w' → Q e.toExit a' w') → c.wp P Q a w) ∧
    (∀ (dr : Tr DI) (c : Code) (tm : Tm) (h : VH) (e : VE) (tm' : Tm) (h' : VH) (B : Nat) (β : Bt) (a : Act) (w : World) (Q : Exit → Act → World → Prop), codeOk T.ty nt dr c = true → vrun T N (.code dr (.loop c) tm h) = some (.code e tm' h') → Sim B β h w → TmRel β nt tm a.tmps →
      (∀ β' a' w', TmRel β' nt tm' a'.tmps → a'.defers = a.defers → After B β h w β' h' w' → Q e.toExit a' w') → Code.rounds P c Q N a w) := by
  intro N
  induction N with
  | zero =>
    intro _
    exact ⟨fun dr c tm h e tm' h' B β a w Q _ hr => by simp [vrun] at hr, fun dr c tm h e tm' h' B β a w Q _ hr => by simp [vrun] at hr⟩
  | succ N ih =>
    intro hcall
    obtain ⟨ih1, ih2⟩ := ih (fun m hm => hcall m (by omega))
    have rounds : ∀ (dr : Tr DI) (c : Code) (tm : Tm) (h : VH) (e : VE) (tm' : Tm) (h' : VH) (B : Nat) (β : Bt) (a : Act) (w : World) (Q : Exit → Act → World → Prop), codeOk T.ty nt dr c = true → vrun T (N + 1) (.code dr (.loop c) tm h) = some (.code e tm' h') → Sim B β h w → TmRel β nt tm a.tmps →
        (∀ β' a' w', TmRel β' nt tm' a'.tmps → a'.defers = a.defers → After B β h w β' h' w' → Q e.toExit a' w') → Code.rounds P c Q (N + 1) a w := by
      intro dr c tm h e tm' h' B β a w Q hco hr S r hQ
      rw [rounds_succ]
      simp only [vrun] at hr
      split at hr
      · rename_i tm1 h1 hq
        refine ih1 dr c tm h .normal tm1 h1 B β a w _ hco hq S r fun β' a' w' r' hd' A => ?_
        show Code.rounds P c Q N a' w'
        exact ih2 dr c tm1 h1 e tm' h' B β' a' w' Q hco hr A.sim r' fun β'' a'' w'' r'' hd'' A' => hQ β'' a'' w'' r'' (hd''.trans hd') (A.trans A')
      · rename_i hne
        refine ih1 dr c tm h e tm' h' B β a w _ hco hr S r fun β' a' w' r' hd' A => ?_
        cases e with
        | normal => exact (hne tm' h' hr).elim
        | exit id => exact hQ β' a' w' r' hd' A
        | ret => exact hQ β' a' w' r' hd' A
    refine ⟨?_, rounds⟩
    intro dr c tm h e tm' h' B β a w Q hco hr S r hQ
    have same : e = .normal → tm' = tm → h' = h → Q .normal a w := by
      intro h1 h2 h3; subst h1; subst h2; subst h3
      exact hQ β a w r rfl ⟨Bt.le_refl β, fun _ _ => rfl, S, Below.refl B w, Nat.le_refl _⟩
    cases c with
    | skip =>
      simp only [vrun, Option.some.injEq, Res.code.injEq] at hr
      exact wp_skip (same hr.1.symm hr.2.1.symm hr.2.2.symm)
    | exit id =>
      simp only [vrun, Option.some.injEq, Res.code.injEq] at hr
      obtain ⟨rfl, rfl, rfl⟩ := hr
      exact wp_exit (hQ β a w r rfl ⟨Bt.le_refl β, fun _ _ => rfl, S, Below.refl B w, Nat.le_refl _⟩)
    | ret =>
      simp only [vrun, Option.some.injEq, Res.code.injEq] at hr
      obtain ⟨rfl, rfl, rfl⟩ := hr
      exact wp_ret (hQ β a w r rfl ⟨Bt.le_refl β, fun _ _ => rfl, S, Below.refl B w, Nat.le_refl _⟩)
    | region id ops draw =>
      simp only [codeOk, Bool.and_eq_true] at hco
      obtain ⟨hdst, hdr⟩ := hco
      have hdst' : ∀ o ∈ ops.toList, dstOk nt o = true := fun o ho => List.all_eq_true.1 hdst o ho
      cases draw with
      | false =>
        simp only [vrun] at hr
        have hen : e = .normal := by
          have : ∀ (M : Nat) (rest : List Oper) (tm : Tm) (h : VH), vrun T M (.ops ops.toList rest tm h) = some (.code e tm' h') → e = .normal := by
            intro M
            induction M with
            | zero => intro rest tm h hq; simp [vrun] at hq
            | succ M ihM =>
              intro rest tm h hq
              cases rest with
              | nil => simp only [vrun, Option.some.injEq, Res.code.injEq] at hq; exact hq.1.symm
              | cons o os =>
                simp only [vrun] at hq
                split at hq
                · exact ihM _ _ _ hq
                · split at hq
                  · exact ihM _ _ _ hq
                  · split at hq
                    · exact ihM _ _ _ hq
                    · cases hq
                  · cases hq
          exact this N _ _ _ hr
        subst hen
        refine wp_region ?_
        have := ops_wp ok ops (Q := Q) hdst' N ops.toList 0 tm h β a w (fun m hm => hcall m (by omega)) (fun j => by rw [Nat.zero_add, Array.getElem?_toList]) (by simp) hr S r hQ
        simpa using this
      | true =>
        simp only [vrun] at hr
        split at hr
        · rename_i di hd
          simp only [hd] at hdr
          simp only [Bool.not_true, Bool.false_or] at hdr
          split at hdr
          · rename_i da db h1 h2
            cases h1
            unfold drawInfo at h2
            split at h2
            · rename_i hst
              cases h2
              simp only [diBeq, Bool.and_eq_true, decide_eq_true_eq] at hdr
              obtain ⟨e1, e2⟩ := hdr
              rw [← e1] at hst e2
              exact region_draw_wp ok (fun m hm => hcall m (by omega)) hst e2 hdst' hr S r hQ
            · cases h2
          · cases hdr
        · cases hr
    | seq x y =>
      simp only [codeOk, Bool.and_eq_true] at hco
      simp only [vrun] at hr
      refine wp_seq ?_
      split at hr
      · rename_i tm1 h1 hq
        refine ih1 dr x tm h .normal tm1 h1 B β a w _ hco.1 hq S r fun β' a' w' r' hd' A => ?_
        show y.wp P Q a' w'
        exact ih1 dr y tm1 h1 e tm' h' B β' a' w' Q hco.2 hr A.sim r' fun β'' a'' w'' r'' hd'' A' => hQ β'' a'' w'' r'' (hd''.trans hd') (A.trans A')
      · rename_i hne
        refine ih1 dr x tm h e tm' h' B β a w _ hco.1 hr S r fun β' a' w' r' hd' A => ?_
        cases e with
        | normal => exact (hne tm' h' hr).elim
        | exit id => exact hQ β' a' w' r' hd' A
        | ret => exact hQ β' a' w' r' hd' A
    | cond cx x y =>
      simp only [codeOk, Bool.and_eq_true] at hco
      simp only [vrun] at hr
      split at hr
      · rename_i hq
        have hc := veval_rel r hq
        simp only [VRel] at hc
        exact wp_cond_true hc (ih1 dr x tm h e tm' h' B β a w Q hco.1 hr S r hQ)
      · rename_i hq
        have hc := veval_rel r hq
        simp only [VRel] at hc
        exact wp_cond_false hc (ih1 dr y tm h e tm' h' B β a w Q hco.2 hr S r hQ)
      · cases hr
    | block id x =>
      simp only [codeOk] at hco
      simp only [vrun] at hr
      refine wp_block ?_
      split at hr
      · rename_i id' tm1 h1 hq
        refine ih1 dr x tm h (.exit id') tm1 h1 B β a w _ hco hq S r fun β' a' w' r' hd' A => ?_
        split at hr
        · rename_i hb
          cases hr
          have hb' := Nat.eq_of_beq_eq_true hb
          simp only [VE.toExit, Exit.inBlock, hb', if_true, beq_self_eq_true]
          exact hQ β' a' w' r' hd' A
        · rename_i hb
          cases hr
          have hb' : ¬ (id' = id) := by intro e2; subst e2; rw [show Nat.beq id' id' = true from by simp] at hb; cases hb
          simp only [VE.toExit, Exit.inBlock, hb', if_false]
          exact hQ β' a' w' r' hd' A
      · rename_i hne
        refine ih1 dr x tm h e tm' h' B β a w _ hco hr S r fun β' a' w' r' hd' A => ?_
        cases e with
        | normal => exact hQ β' a' w' r' hd' A
        | exit id' => exact (hne id' tm' h' hr).elim
        | ret => exact hQ β' a' w' r' hd' A
    | loop x =>
      simp only [codeOk] at hco
      exact wp_loop_rounds (N + 1) (rounds dr x tm h e tm' h' B β a w Q hco hr S r hQ)
    | rangeFunc _ _ _ _ => simp [vrun] at hr
    | scope _ => simp [vrun] at hr
    | label _ => simp [vrun] at hr
    | goto _ => simp [vrun] at hr
    | refuse _ => simp [vrun] at hr

def resOf (a : Act) : ResultVar → Sem Value
  | .tmp t => pure (a.tmps.getD t undef)
  | .cell ad t => do loadVar t (← asAddr (a.tmps.getD ad undef))

theorem vresults_run {fn : Func} {nt : Nat} {tm : Tm} {h : VH} {v : VV} {B : Nat} {β : Bt} {a : Act} {w : World} (hv : vresults T.ty tm h fn.results.toList = some v) (S : Sim B β h w) (r : TmRel β nt tm a.tmps) :
    ∃ x, (results fn a.tmps).run P w = .ok x w ∧ VRel β v x := by
  have list : ∀ (rs : List ResultVar) (vs : List VV), vresultL T.ty tm h rs = some vs → ∃ xs : List Value, (rs.mapM (resOf a)).run P w = .ok xs w ∧ VRelL β vs xs := by
    intro rs
    induction rs with
    | nil => intro vs h1; simp only [vresultL, Option.some.injEq] at h1; subst h1; exact ⟨[], by simp, rfl⟩
    | cons q rs ih =>
      intro vs h1
      simp only [vresultL] at h1
      split at h1
      · rename_i u us hu hus
        cases h1
        obtain ⟨xs, hx, hxs⟩ := ih us hus
        cases q with
        | tmp t =>
          simp only [vresult, Option.some.injEq] at hu
          subst hu
          exact ⟨a.tmps.getD t undef :: xs, by simp only [List.mapM_cons, resOf, Sem.run_bind, Sem.run_pure, Result.andThen_ok, hx], VRelL.cons (r.get t) hxs⟩
        | cell ad t =>
          simp only [vresult] at hu
          obtain ⟨adr, hadr, x, hx1, hv1⟩ := vload_run w ok S hu (r.get ad)
          exact ⟨x :: xs, by simp only [List.mapM_cons, resOf, Sem.run_bind, hadr, asAddr, Sem.run_pure, Result.andThen_ok, hx1, hx], VRelL.cons hv1 hxs⟩
      · cases h1
  unfold vresults at hv
  have fin : ∀ (vs : List VV), vresultL T.ty tm h fn.results.toList = some vs → ∃ xs : Array Value, (results fn a.tmps).run P w = .ok (if h : xs.size = 1 then xs[0] else .tuple xs) w ∧ VRelL β vs xs.toList := by
    intro vs hvs
    obtain ⟨xs, hx, hr⟩ := list _ vs hvs
    refine ⟨xs.toArray, ?_, by simpa using hr⟩
    unfold results
    simp only [Array.mapM_eq_mapM_toList, Sem.run_bind, Sem.run_map, Sem.run_pure]
    erw [hx]
    rfl
  split at hv
  · rename_i u hu
    cases hv
    obtain ⟨xs, hx, hr⟩ := fin _ hu
    obtain ⟨x, l, e, hv1, hl⟩ := hr
    have hl' := hl.nil_inv
    subst hl'
    have hsz : xs.size = 1 := by rw [← Array.length_toList, e]; rfl
    refine ⟨x, ?_, hv1⟩
    rw [hx]
    simp only [hsz, dif_pos]
    congr 1
    have : xs.toList[0]? = some x := by rw [e]; rfl
    rw [Array.getElem?_toList, Array.getElem?_eq_getElem (by omega)] at this
    exact Option.some.inj this
  · rename_i vs hne hu
    cases hv
    obtain ⟨xs, hx, hr⟩ := fin _ hu
    have hsz : xs.size ≠ 1 := by
      intro e
      have hl := hr.length
      simp only [Array.length_toList, e] at hl
      match vs, hl with
      | [u], _ => exact hne u rfl
    refine ⟨.tuple xs, ?_, ⟨xs, rfl, hr⟩⟩
    rw [hx, dif_neg hsz]
  · cases hv

/-- A call of the machine comes to what the interpreter says. -/
theorem call_ok : ∀ N, CallOk P T N := by
  intro N
  induction N using Nat.strongRecOn with
  | _ N ih =>
    intro f args h v h' hr B β w xs S hargs
    cases N with
    | zero => simp [vrun] at hr
    | succ N =>
      simp only [vrun] at hr
      split at hr
      · rename_i vf hf
        split at hr
        · rename_i e tm h0 hble hq
          obtain ⟨fn, hfn, hok⟩ := ok.fn f vf hf
          split at hr
          · rename_i u hu
            cases hr
            have hsz : args.length ≤ vf.ntmps := Nat.le_of_ble_eq_true hble
            have hlen := hargs.length
            simp only [Array.length_toList] at hlen
            refine calls_of_wp hfn hok.body ?_
            have r0 : TmRel β vf.ntmps (Tr.ofList args) (xs ++ Array.replicate (fn.ntmps - xs.size) undef) := by
              refine ⟨by simp; rw [hok.ntmps]; omega, by have := hok.small; omega, fun t => ?_⟩
              have hg : tget (Tr.ofList args) t = match args[t]? with | some v => v | none => undefV := by
                unfold tget; rw [Tr.get_ofList args t (by have := hok.small; omega)]; cases args[t]? <;> rfl
              rw [hg]
              cases ha : args[t]? with
              | some v =>
                obtain ⟨x, hx, hv⟩ := hargs.get ha
                have hlt : t < xs.size := by
                  rcases Nat.lt_or_ge t xs.size with h1 | h1
                  · exact h1
                  · rw [Array.getElem?_toList, Array.getElem?_eq_none h1] at hx; cases hx
                rw [Array.getElem?_toList] at hx
                rw [Array.getD_eq_getD_getElem?, Array.getElem?_append_left hlt, hx]
                exact hv
              | none =>
                have hge : xs.size ≤ t := by
                  have := List.getElem?_eq_none_iff.1 ha; omega
                have : (xs ++ Array.replicate (fn.ntmps - xs.size) undef).getD t undef = undef := by
                  simp only [Array.getD_eq_getD_getElem?, Array.getElem?_append_right hge, Array.getElem?_replicate]
                  split <;> rfl
                rw [this]
                exact undef_rel β
            refine (code_rounds ok N (fun m hm => ih m (by omega))).1 vf.dr vf.code _ h e tm _ B β ⟨_, []⟩ w _ hok.code hq S r0 ?_
            intro β' a' w' r' hd' A
            have fin : vresults T.ty tm h' vf.results = some v → bodyPost P fn (fun e w' => ∃ x β', e = .returned x ∧ VRel β' v x ∧ After B β h w β' h' w') .normal a' w' := by
              intro hv
              rw [← hok.results] at hv
              obtain ⟨x, hx, hvx⟩ := vresults_run ok hv A.sim r'
              exact ⟨hd', x, hx, x, β', rfl, hvx, A⟩
            cases e with
            | normal => exact fin hu
            | exit id => cases hu
            | ret => exact fin hu
          · cases hr
        · cases hr
      · cases hr

end
end Go.Proofs.YtfempmlelmdhbaaGreat.VM

/-! ### tables -/
namespace Go.Proofs.YtfempmlelmdhbaaGreat.VM
open Go
def Tr.All {α : Type} (p : Nat → α → Prop) : Tr α → (Nat → Nat) → Prop
  | .nil, _ => True
  | .node a l r, φ => (∀ x, a = some x → p (φ 0) x) ∧ l.All p (fun n => φ (2 * n + 1)) ∧ r.All p (fun n => φ (2 * n + 2))

theorem Tr.all_get' {α : Type} {p : Nat → α → Prop} : ∀ {t : Tr α} {φ : Nat → Nat} {n : Nat} {v : α}, t.All p φ → t.get n = some v → p (φ n) v
  | .nil, φ, n, v, _, h => by rw [Tr.get_nil] at h; cases h
  | .node a l r, φ, n, v, ha, h => by
    obtain ⟨h1, h2, h3⟩ := ha
    cases n with
    | zero => exact h1 v h
    | succ m =>
      rw [Tr.get_succ] at h
      simp only [Tr.lft, Tr.rgt] at h
      split at h
      · rename_i hm
        have := Tr.all_get' h2 h
        rwa [show 2 * (m / 2) + 1 = m + 1 from by omega] at this
      · rename_i hm
        have := Tr.all_get' h3 h
        rwa [show 2 * (m / 2) + 2 = m + 1 from by omega] at this
theorem Tr.all_get {α : Type} {p : Nat → α → Prop} {t : Tr α} {n : Nat} {v : α} (ha : t.All p (fun n => n)) (h : t.get n = some v) : p n v := Tr.all_get' ha h

def bodyOf (f : Func) : Code := match f.body with
  | some c => c
  | none => .skip

/-- Did a call come to 'true'? -/
def saysTrue : Option Res → Bool
  | some (.call (.bool true) _) => true
  | _ => false
theorem saysTrue_spec {r : Option Res} (h : saysTrue r = true) : ∃ h', r = some (.call (.bool true) h') := by
  unfold saysTrue at h
  split at h
  · exact ⟨_, rfl⟩
  · cases h
end Go.Proofs.YtfempmlelmdhbaaGreat.VM
