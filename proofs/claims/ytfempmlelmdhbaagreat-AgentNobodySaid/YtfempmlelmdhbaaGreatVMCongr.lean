/- VMCongr: a part of a verified evaluator of the model's code (or of its run), used for this seat's laws; it has no conditions. -/
import Derived.Test.YtfempmlelmdhbaaGreatVMSeq
set_option linter.all false
namespace Go.Proofs.YtfempmlelmdhbaaGreat.VM
open Go Go.RowKit

/-! ### who reads which places -/
section
variable {T : Tb} {tm1 tm2 : Tm}

theorem vevals_congr : ∀ {l : List Operand}, (∀ x ∈ l, veval tm1 x = veval tm2 x) → vevals tm1 l = vevals tm2 l
  | [], _ => rfl
  | o :: os, h => by simp only [vevals, h o (by simp), vevals_congr (l := os) (fun x hx => h x (by simp [hx]))]
theorem vparts_congr : ∀ {l : List (Nat × Operand)}, (∀ x ∈ l.map (·.2), veval tm1 x = veval tm2 x) → vparts tm1 l = vparts tm2 l
  | [], _ => rfl
  | (i, o) :: os, h => by simp only [vparts, h o (by simp), vparts_congr (l := os) (fun x hx => h x (by simp at hx ⊢; exact .inr hx))]
theorem optEval_congr {o : Option Operand} (h : ∀ x ∈ o.toList, veval tm1 x = veval tm2 x) : optEval tm1 o = optEval tm2 o := by
  cases o with
  | none => rfl
  | some o => simp only [optEval, h o (by simp)]

theorem vpure_congr {op : Op} (h : ∀ x ∈ op.operands.toList, veval tm1 x = veval tm2 x) : vpure T tm1 op = vpure T tm2 op := by
  cases op <;> simp only [vpure]
  case move x => exact h x (by simp [Op.operands])
  case assign x => exact h x (by simp [Op.operands])
  case pick c a b => rw [h c (by simp [Op.operands]), h a (by simp [Op.operands]), h b (by simp [Op.operands])]
  case build t parts => rw [vparts_congr fun x hx => h x (by simpa [Op.operands] using hx)]
  case nilCheck x => rw [h x (by simp [Op.operands])]
  case binOp op t x y yt => rw [h x (by simp [Op.operands]), h y (by simp [Op.operands])]
  case unOp op t x => rw [h x (by simp [Op.operands])]
  case convert s d x => rw [h x (by simp [Op.operands])]
  case makeFunc fn a c =>
    cases fn <;> simp only
    rw [vevals_congr (l := a.toList) fun x hx => h x (by simp [Op.operands] at hx ⊢; exact .inl hx), vevals_congr (l := c.toList) fun x hx => h x (by simp [Op.operands] at hx ⊢; exact .inr hx)]
  case makeInterface t x => rw [h x (by simp [Op.operands])]
  case typeAssert x t u c => rw [h x (by simp [Op.operands])]
  case slice t x lo hi mx =>
    rw [h x (by simp [Op.operands]), optEval_congr (o := lo) fun y hy => h y (by simp [Op.operands] at hy ⊢; simp [hy]), optEval_congr (o := hi) fun y hy => h y (by simp [Op.operands] at hy ⊢; simp [hy]), optEval_congr (o := mx) fun y hy => h y (by simp [Op.operands] at hy ⊢; simp [hy])]
  case fieldAddr t x f => rw [h x (by simp [Op.operands])]
  case field t x f => rw [h x (by simp [Op.operands])]
  case indexAddr t x ix => rw [h x (by simp [Op.operands]), h ix (by simp [Op.operands])]
  case index t x ix => rw [h x (by simp [Op.operands]), h ix (by simp [Op.operands])]
  case extract t ix => rw [h t (by simp [Op.operands])]
  case call c => rw [vevals_congr (l := c.args.toList) fun x hx => h x (by simp [Op.operands, Call.operands] at hx ⊢; exact .inr hx)]

theorem vsil_congr {op : Op} {hp : VH} (h : ∀ x ∈ op.operands.toList, veval tm1 x = veval tm2 x) : vsil T tm1 op hp = vsil T tm2 op hp := by
  cases op <;> simp only [vsil]
  case convert s d x => rw [h x (by simp [Op.operands])]

theorem vread0_congr {op : Op} {hp : VH} (h : ∀ x ∈ op.operands.toList, veval tm1 x = veval tm2 x) : vread0 T tm1 op hp = vread0 T tm2 op hp := by
  cases op <;> simp only [vread0]
  case load t x => rw [h x (by simp [Op.operands])]
  case entry it => rw [h it (by simp [Op.operands])]
  case lookup t x k c => rw [h x (by simp [Op.operands]), h k (by simp [Op.operands])]
  case convert s d x => rw [h x (by simp [Op.operands])]
  case call c => rw [vevals_congr (l := c.args.toList) fun x hx => h x (by simp [Op.operands, Call.operands] at hx ⊢; exact .inr hx)]

theorem vread_congr {op : Op} {hp : VH} (h : ∀ x ∈ op.operands.toList, veval tm1 x = veval tm2 x) : vread T tm1 op hp = vread T tm2 op hp := by
  unfold vread
  rw [vsil_congr h, vread0_congr h]

theorem valloc_congr {op : Op} (h : ∀ x ∈ op.operands.toList, veval tm1 x = veval tm2 x) : valloc T tm1 op = valloc T tm2 op := by
  cases op <;> simp only [valloc]
  case makeMap t r => cases r <;> rfl
  case makeSlice t l c => rw [h l (by simp [Op.operands]), h c (by simp [Op.operands])]
  case box e x => rw [h x (by simp [Op.operands])]
  case buildSlice t n parts => rw [vparts_congr fun x hx => h x (by simpa [Op.operands] using hx)]
  case convert s d x => rw [h x (by simp [Op.operands])]

theorem veff_congr {op : Op} {hp : VH} (h : ∀ x ∈ op.operands.toList, veval tm1 x = veval tm2 x) : veff T tm1 op hp = veff T tm2 op hp := by
  cases op <;> simp only [veff]
  case range t x => rw [h x (by simp [Op.operands])]
  case next it s => cases s <;> simp only [h it (by simp [Op.operands])]
  case store t a x => rw [h a (by simp [Op.operands]), h x (by simp [Op.operands])]
  case mapUpdate t m k x => rw [h m (by simp [Op.operands]), h k (by simp [Op.operands]), h x (by simp [Op.operands])]
  case insert t m k x => rw [h m (by simp [Op.operands]), h k (by simp [Op.operands]), h x (by simp [Op.operands])]
  case convert s d x => rw [h x (by simp [Op.operands])]
  case call c =>
    rw [vevals_congr (l := c.args.toList) fun x hx => h x (by simp [Op.operands, Call.operands] at hx ⊢; exact .inr hx)]
    obtain ⟨callee, args, ats⟩ := c
    simp only
    cases callee with
    | value f => simp only [h f (by simp [Op.operands, Call.operands])]
    | invoke r m => simp only [h r (by simp [Op.operands, Call.operands])]
    | builtin b => cases b <;> rfl

theorem vexec_congr {op : Op} {hp : VH} (h : ∀ x ∈ op.operands.toList, veval tm1 x = veval tm2 x) : vexec T tm1 op hp = vexec T tm2 op hp := by
  unfold vexec
  rw [vpure_congr h, vread_congr h, valloc_congr h, veff_congr h]

theorem veval_agree {all : List Oper} {o : Oper} (h : ∀ t ∈ namesOf all o, tget tm1 t = tget tm2 t) : ∀ x ∈ o.op.operands.toList, veval tm1 x = veval tm2 x := by
  intro x hx
  cases x with
  | tmp t =>
    simp only [veval]
    rw [h t]
    unfold namesOf
    exact List.mem_append_left _ (List.mem_filterMap.2 ⟨.tmp t, hx, rfl⟩)
  | const v => rfl
  | global g => rfl
  | func f => rfl

theorem vwanted_agree {all : List Oper} {o : Oper} (h : ∀ t ∈ namesOf all o, tget tm1 t = tget tm2 t) : vwanted all tm1 o = vwanted all tm2 o := by
  unfold vwanted
  cases hg : o.guard with
  | none => rfl
  | some g =>
    obtain ⟨j, want⟩ := g
    have : vyield all tm1 j = vyield all tm2 j := by
      unfold vyield
      cases ho : all[j]? with
      | none => rfl
      | some p =>
        simp only
        cases hd : p.dst with
        | none => rfl
        | some d =>
          simp only
          rw [h d]
          unfold namesOf
          apply List.mem_append_right
          simp [hg, ho, hd]
    simp only [this]

theorem does_agree {P : Program} {all : List Oper} {o : Oper} {h h' : VH} {v : VV} (ha : ∀ t ∈ namesOf all o, tget tm1 t = tget tm2 t) (hd : Does P T all o tm1 h v h') : Does P T all o tm2 h v h' := by
  have e := veval_agree ha
  have ew := vwanted_agree ha
  cases hd with
  | idle hw => exact .idle (by rw [← ew]; exact hw)
  | val hw he => exact .val (by rw [← ew]; exact hw) (by rw [← vexec_congr e]; exact he)
  | call hw he hc hv => exact .call (by rw [← ew]; exact hw) (by rw [← vexec_congr e]; exact he) hc hv
end
end Go.Proofs.YtfempmlelmdhbaaGreat.VM
