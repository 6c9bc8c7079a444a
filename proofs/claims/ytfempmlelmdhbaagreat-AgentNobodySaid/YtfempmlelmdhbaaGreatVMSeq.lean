/- VMSeq: a part of a verified evaluator of the model's code (or of its run), used for this seat's laws; it has no conditions. -/
import Derived.Test.YtfempmlelmdhbaaGreatVMNext
set_option linter.all false
namespace Go.Proofs.YtfempmlelmdhbaaGreat.VM
open Go Go.RowKit

theorem VRel.bool_of {β : Bt} {v : VV} {b : Bool} (h : VRel β v (.bool b)) : v = .bool b := by
  cases v <;> simp only [VRel] at h <;> first
    | (cases h; rfl)
    | (cases h; done)
    | (obtain ⟨_, _, h⟩ := h; cases h; done)
    | (obtain ⟨_, _, _, _, h, _⟩ := h; cases h; done)
    | (obtain ⟨_, _, h, _⟩ := h; cases h; done)
    | (obtain ⟨_, h, _⟩ := h; cases h; done)
    | (obtain ⟨_, _, _, h⟩ := h; cases h; done)

section
variable {P : Program} {T : Tb} {B : Nat} {β : Bt} {h : VH}

theorem yielded_rel {n : Nat} {tm : Tm} {a : Act} (r : TmRel β n tm a.tmps) (ops : Array Oper) (j : Nat) : yielded ops a.tmps j = vyield ops.toList tm j := by
  unfold yielded vyield
  rw [Array.getElem?_toList]
  cases ho : ops[j]? with
  | none => rfl
  | some o =>
    simp only [Option.bind_some]
    cases hd : o.dst with
    | none => rfl
    | some d =>
      simp only [Option.bind_some]
      have hr := r.get d
      cases hx : a.tmps[d]? with
      | none =>
        have hu : a.tmps.getD d undef = undef := by simp [Array.getD_eq_getD_getElem?, hx]
        rw [hu] at hr
        cases hv : tget tm d <;> first
          | rfl
          | (rw [hv] at hr; simp only [VRel] at hr; cases hr)
      | some x =>
        have hu : a.tmps.getD d undef = x := by simp [Array.getD_eq_getD_getElem?, hx]
        rw [hu] at hr
        cases x with
        | bool b => rw [hr.bool_of]
        | _ =>
          cases hv : tget tm d <;> first
            | rfl
            | (rw [hv] at hr; simp only [VRel] at hr; cases hr)

theorem wanted_rel {n : Nat} {tm : Tm} {a : Act} (r : TmRel β n tm a.tmps) (ops : Array Oper) (o : Oper) : Region.wanted o (yielded ops a.tmps) = vwanted ops.toList tm o := by
  unfold Region.wanted vwanted
  cases o.guard with
  | none => rfl
  | some g =>
    obtain ⟨j, want⟩ := g
    simp only [yielded_rel r]
    cases vyield ops.toList tm j with
    | none => rfl
    | some b => cases b <;> cases want <;> rfl

/-- Below, but for a draw. -/
theorem After.trans {β' β'' : Bt} {h' h'' : VH} {w w' w'' : World} (a : After B β h w β' h' w') (b : After B β' h' w' β'' h'' w'') : After B β h w β'' h'' w'' :=
  ⟨Bt.le_trans a.le b.le, fun x hx => by rw [b.old x (Nat.lt_of_lt_of_le hx a.next), a.old x hx], b.sim, a.below.trans b.below, Nat.le_trans a.next b.next⟩

theorem cls_alloc_ok {op : Op} {v : VV} {h' : VH} {tm : Tm} (hc : cls T.ty op = .alloc) (hs : vexec T tm op h = some (.val v h')) :
    h.room = true ∧ ∃ o mk, valloc T tm op = some (o, mk) ∧ v = mk h.next ∧ h' = h.new o := by
  unfold vexec at hs
  rw [hc] at hs
  simp only at hs
  split at hs
  · rename_i o mk hr ha
    cases hs
    exact ⟨hr, o, mk, ha, rfl, rfl⟩
  · cases hs

theorem ObjRel.okLeaf {ob : VObj} {rob : Obj} {sz : Nat} (h : ObjRel β ob rob sz) : ob.okLeaf := by
  cases ob with
  | dead => trivial
  | cells ro cs => obtain ⟨_, _, _, _, _, _, _, hl⟩ := h; exact hl
  | map kvs bs cl => trivial
  | iter m since seen last => trivial

variable (ok : T.Ok P) (w : World)
include ok

/-- An operation that comes to a value. -/
theorem vexec_val (S : Sim B β h w) {n : Nat} {tm : Tm} {a : Act} (r : TmRel β n tm a.tmps) (o : Oper) {v : VV} {h' : VH} (he : vexec T tm o.op h = some (.val v h')) :
    ∃ w1 nx x β', (execOp a.eval o).run P w = .ok nx w1 ∧ (nx = .value x ∨ (nx = .skip ∧ x = undef)) ∧ VRel β' v x ∧ After B β h w β' h' w1 := by
  cases hc : cls T.ty o.op with
  | pure =>
    unfold vexec at he
    rw [hc] at he
    simp only at he
    split at he
    · rename_i u hu
      cases he
      obtain ⟨x, hx, hv⟩ := vpure_run ok w r o hc hu
      exact ⟨w, _, x, β, hx, .inl rfl, hv, ⟨Bt.le_refl β, fun _ _ => rfl, S, Below.refl B w, Nat.le_refl _⟩⟩
    · cases he
  | read =>
    unfold vexec at he
    rw [hc] at he
    simp only at he
    split at he
    · rename_i u hu
      cases he
      obtain ⟨x, w1, hx, hv, A⟩ := vread_run w ok S r o hu
      exact ⟨w1, _, x, β, hx, .inl rfl, hv, A⟩
    · cases he
  | alloc =>
    obtain ⟨hr, ob, mk, ha, rfl, rfl⟩ := cls_alloc_ok hc he
    obtain ⟨w1, rob, x, sz, hx, hw, hlk, hob, hmk⟩ := valloc_run w ok r o ha
    have hroom := room_le hr
    have hn := noneAbove w S
    have S1 := S.newWeak hroom hob.okLeaf
    obtain ⟨S2, hb⟩ := alloc_after S1 hn (Nat.lt_succ_self _) (by rw [VH.get_new h _ _ (by omega), if_pos rfl]) hob hw hlk
    exact ⟨w1, _, x, _, hx, .inl rfl, hmk _ _ (Bt.add_self _ _ _), ⟨Bt.le_add hn _, fun b hb => Bt.add_ne _ _ (by omega), S2, hb, Nat.le_succ _⟩⟩
  | eff =>
    unfold vexec at he
    rw [hc] at he
    simp only at he
    exact veff_val w ok S r o he

def CallOk (P : Program) (T : Tb) (m : Nat) : Prop := ∀ (f : FuncId) (args : List VV) (h : VH) (v : VV) (h' : VH), vrun T m (.call f args h) = some (.call v h') →
  ∀ (B : Nat) (β : Bt) (w : World) (xs : Array Value), Sim B β h w → VRelL β args xs.toList →
    Calls P f xs w fun e w' => ∃ x β', e = .returned x ∧ VRel β' v x ∧ After B β h w β' h' w'

/-- What one operation comes to, in the interpreter. -/
inductive Does (P : Program) (T : Tb) (all : List Oper) (o : Oper) (tm : Tm) (h : VH) : VV → VH → Prop
  | idle : vwanted all tm o = false → Does P T all o tm h undefV h
  | val {v : VV} {h' : VH} : vwanted all tm o = true → vexec T tm o.op h = some (.val v h') → Does P T all o tm h v h'
  | call {f : FuncId} {args : List VV} {h1 h' : VH} {v : VV} {m : Nat} : vwanted all tm o = true → vexec T tm o.op h = some (.enter f args h1) → CallOk P T m → vrun T m (.call f args h1) = some (.call v h') → Does P T all o tm h v h'

omit ok in
theorem enter_eff {tm : Tm} {op : Op} {f : FuncId} {args : List VV} {h1 : VH} (he : vexec T tm op h = some (.enter f args h1)) : cls T.ty op = .eff ∧ veff T tm op h = some (.enter f args h1) := by
  unfold vexec at he
  cases hc : cls T.ty op with
  | pure => rw [hc] at he; simp only at he; split at he <;> cases he
  | read => rw [hc] at he; simp only at he; split at he <;> cases he
  | alloc => rw [hc] at he; simp only at he; split at he <;> cases he
  | eff => rw [hc] at he; exact ⟨rfl, he⟩

omit ok in
theorem vrun_call_fn {m : Nat} {f : FuncId} {args : List VV} {h1 : VH} {r : Res} (hv : vrun T m (.call f args h1) = some r) : ∃ vf, T.fn.get f = some vf := by
  cases m with
  | zero => simp [vrun] at hv
  | succ m =>
    simp only [vrun] at hv
    split at hv
    · rename_i vf hf; exact ⟨vf, hf⟩
    · cases hv

theorem does_wp (S : Sim B β h w) {n : Nat} {tm : Tm} {a : Act} (r : TmRel β n tm a.tmps) (ops : Array Oper) {i : Nat} {o : Oper} (ho : ops[i]? = some o) {v : VV} {h' : VH} (hd : Does P T ops.toList o tm h v h')
    {K : Act → World → Prop} {Q : Exit → Act → World → Prop} (hK : ∀ x β' w', VRel β' v x → After B β h w β' h' w' → K (a.put o.dst x) w') : wpOp P ops Q i K a w := by
  unfold wpOp
  simp only [ho, wanted_rel r ops o]
  cases hd with
  | idle hw =>
    simp only [hw, Bool.false_eq_true, if_false]
    exact hK undef β w (undef_rel β) ⟨Bt.le_refl β, fun _ _ => rfl, S, Below.refl B w, Nat.le_refl _⟩
  | val hw he =>
    simp only [hw, if_true]
    obtain ⟨w1, nx, x, β', hx, hnx, hv, A⟩ := vexec_val ok w S r o he
    left
    unfold Oper.wp
    rw [hx]
    rcases hnx with rfl | ⟨rfl, rfl⟩
    · exact hK x β' w1 hv A
    · exact hK undef β' w1 hv A
  | call hw he hc hv =>
    simp only [hw, if_true]
    obtain ⟨_, he'⟩ := enter_eff he
    obtain ⟨vf, hf⟩ := vrun_call_fn hv
    obtain ⟨rfl, xs, hx, hr⟩ := veff_enter w ok r o he' hf
    left
    unfold Oper.wp
    rw [hx]
    refine (hc _ _ _ _ _ hv B β w xs S hr).mono ?_
    rintro e w' ⟨x, β', rfl, hvx, A⟩
    exact hK x β' w' hvx A

/-- Operations in the text's order. -/
theorem ops_wp {Q : Exit → Act → World → Prop} (ops : Array Oper) {n : Nat} {tm' : Tm} {h' : VH} (hdst : ∀ o ∈ ops.toList, dstOk n o = true) : ∀ (N : Nat) (rest : List Oper) (k : Nat) (tm : Tm) (h : VH) (β : Bt) (a : Act) (w : World),
    (∀ m, m < N → CallOk P T m) → (∀ j, rest[j]? = ops[k + j]?) → k + rest.length = ops.size → vrun T N (.ops ops.toList rest tm h) = some (.code .normal tm' h') → Sim B β h w → TmRel β n tm a.tmps →
    (∀ β' a' w', TmRel β' n tm' a'.tmps → a'.defers = a.defers → After B β h w β' h' w' → Q .normal a' w') → wpOps P ops Q ((List.range rest.length).map (k + ·)) a w := by
  intro N
  induction N with
  | zero => intro rest k tm h β a w _ _ _ hr; simp [vrun] at hr
  | succ N ih =>
    intro rest k tm h β a w hcall hrest hlen hr S r hQ
    cases rest with
    | nil =>
      simp only [vrun, Option.some.injEq, Res.code.injEq] at hr
      obtain ⟨_, rfl, rfl⟩ := hr
      exact hQ β a w r rfl ⟨Bt.le_refl β, fun _ _ => rfl, S, Below.refl B w, Nat.le_refl _⟩
    | cons o os =>
      have ho : ops[k]? = some o := by have := hrest 0; simpa using this.symm
      have hmem : o ∈ ops.toList := List.mem_of_getElem? (by rw [Array.getElem?_toList]; exact ho)
      have hdo : ∀ d, o.dst = some d → d < n := by
        intro d hd
        have := hdst o hmem
        simpa [dstOk, hd, Nat.blt_eq] using this
      have hlist : (List.range (o :: os).length).map (k + ·) = k :: (List.range os.length).map (k + 1 + ·) := by
        rw [List.length_cons, List.range_succ_eq_map]
        simp only [List.map_cons, Nat.add_zero, List.map_map]
        congr 1
        apply List.map_congr_left
        intro j _
        simp only [Function.comp]; omega
      rw [hlist, wpOps_cons]
      have hrest' : ∀ j, os[j]? = ops[k + 1 + j]? := by
        intro j
        have := hrest (j + 1)
        rw [show k + 1 + j = k + (j + 1) from by omega, ← this]; simp
      have hlen' : k + 1 + os.length = ops.size := by simp at hlen; omega
      have hcall' : ∀ m, m < N → CallOk P T m := fun m hm => hcall m (by omega)
      -- what this operation does
      obtain ⟨v, h1, hd, hr'⟩ : ∃ v h1, Does P T ops.toList o tm h v h1 ∧ vrun T N (.ops ops.toList os (tput tm o.dst v) h1) = some (.code .normal tm' h') := by
        simp only [vrun] at hr
        split at hr
        · rename_i hw; exact ⟨_, _, .idle hw, hr⟩
        · rename_i hw
          split at hr
          · rename_i v h1 he; exact ⟨v, h1, .val hw he, hr⟩
          · rename_i f args h1 he
            split at hr
            · rename_i v h2 hc; exact ⟨v, h2, .call hw he (hcall N (Nat.lt_succ_self N)) hc, hr⟩
            · cases hr
          · cases hr
      refine does_wp ok w S r ops ho hd fun x β' w' hv A => ?_
      refine ih os (k + 1) _ _ β' (a.put o.dst x) w' hcall' hrest' hlen' hr' A.sim (r.mono A.le |>.put o.dst hdo hv) ?_
      intro β'' a' w'' r' hdf A'
      refine hQ β'' a' w'' r' ?_ (A.trans A')
      rw [hdf]; cases o.dst <;> rfl

end
end Go.Proofs.YtfempmlelmdhbaaGreat.VM
