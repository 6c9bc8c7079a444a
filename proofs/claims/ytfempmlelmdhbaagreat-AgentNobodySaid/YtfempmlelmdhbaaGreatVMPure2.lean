/- VMPure2: a part of a verified evaluator of the model's code (or of its run), used for this seat's laws; it has no conditions. -/
import Derived.Test.YtfempmlelmdhbaaGreatVMPure
set_option linter.all false
namespace Go.Proofs.YtfempmlelmdhbaaGreat.VM
open Go

section
variable {P : Program} {T : Tb} (ok : T.Ok P) {β : Bt} (w : World)
include ok

theorem veq_run {t : TypeId} {x y : VV} {b : Bool} {x' y' : Value} (h : veqT T.ty 50 t x y = some b) (hx : VRel β x x') (hy : VRel β y y') :
    (Op.equal t x' y').run P w = .ok b w := veqT_run ok w 50 h hx hy 10000 (by omega)

/-- Values of which the model's own '==' asks the type. -/
def eqKind : Value → Value → Bool
  | .int _ _, .int _ _ => false
  | .string _, .string _ => false
  | .float _ _, .float _ _ => false
  | .complex _ _ _, .complex _ _ _ => false
  | _, _ => true

omit ok in
theorem binOp_eql {t : TypeId} {x y : Value} (h : eqKind x y = true) : (binOp .eql t x y).run P w = ((Op.equal t x y).run P w).andThen fun b w' => .ok (.bool b) w' := by
  cases x <;> cases y <;> first
    | (simp [eqKind] at h; done)
    | (simp only [binOp, Sem.run_bind, Sem.run_pure])
omit ok in
theorem binOp_neq {t : TypeId} {x y : Value} (h : eqKind x y = true) : (binOp .neq t x y).run P w = ((Op.equal t x y).run P w).andThen fun b w' => .ok (.bool (!b)) w' := by
  cases x <;> cases y <;> first
    | (simp [eqKind] at h; done)
    | (simp only [binOp, Sem.run_bind, Sem.run_pure])

omit ok in
theorem eqKind_of {x y : VV} {x' y' : Value} (hx : VRel β x x') (hy : VRel β y y') (h1 : ∀ k a l b, x = .int k a → y = .int l b → False) (h2 : ∀ a b, x = .str a → y = .str b → False) : eqKind x' y' = true := by
  have hxi : ∀ k n, x' = .int k n → x = .int k n := by
    intro k n e; subst e
    cases x <;> simp only [VRel] at hx <;> first
      | (cases hx; done)
      | (cases hx; rfl)
      | (obtain ⟨_, _, h⟩ := hx; cases h; done)
      | (obtain ⟨_, _, _, _, h, _⟩ := hx; cases h; done)
      | (obtain ⟨_, _, h, _⟩ := hx; cases h; done)
      | (obtain ⟨_, h, _⟩ := hx; cases h; done)
  have hxs : ∀ n, x' = .string n → x = .str n := by
    intro n e; subst e
    cases x <;> simp only [VRel] at hx <;> first
      | (cases hx; done)
      | (cases hx; rfl)
      | (obtain ⟨_, _, h⟩ := hx; cases h; done)
      | (obtain ⟨_, _, _, _, h, _⟩ := hx; cases h; done)
      | (obtain ⟨_, _, h, _⟩ := hx; cases h; done)
      | (obtain ⟨_, h, _⟩ := hx; cases h; done)
  have hyi : ∀ k n, y' = .int k n → y = .int k n := by
    intro k n e; subst e
    cases y <;> simp only [VRel] at hy <;> first
      | (cases hy; done)
      | (cases hy; rfl)
      | (obtain ⟨_, _, h⟩ := hy; cases h; done)
      | (obtain ⟨_, _, _, _, h, _⟩ := hy; cases h; done)
      | (obtain ⟨_, _, h, _⟩ := hy; cases h; done)
      | (obtain ⟨_, h, _⟩ := hy; cases h; done)
  have hys : ∀ n, y' = .string n → y = .str n := by
    intro n e; subst e
    cases y <;> simp only [VRel] at hy <;> first
      | (cases hy; done)
      | (cases hy; rfl)
      | (obtain ⟨_, _, h⟩ := hy; cases h; done)
      | (obtain ⟨_, _, _, _, h, _⟩ := hy; cases h; done)
      | (obtain ⟨_, _, h, _⟩ := hy; cases h; done)
      | (obtain ⟨_, h, _⟩ := hy; cases h; done)
  have nf : ∀ k n, x' ≠ .float k n := by
    intro k n e; subst e
    cases x <;> simp only [VRel] at hx <;> first
      | (cases hx; done)
      | (obtain ⟨_, _, h⟩ := hx; cases h; done)
      | (obtain ⟨_, _, _, _, h, _⟩ := hx; cases h; done)
      | (obtain ⟨_, _, h, _⟩ := hx; cases h; done)
      | (obtain ⟨_, h, _⟩ := hx; cases h; done)
  have nc : ∀ k n m, x' ≠ .complex k n m := by
    intro k n m e; subst e
    cases x <;> simp only [VRel] at hx <;> first
      | (cases hx; done)
      | (obtain ⟨_, _, h⟩ := hx; cases h; done)
      | (obtain ⟨_, _, _, _, h, _⟩ := hx; cases h; done)
      | (obtain ⟨_, _, h, _⟩ := hx; cases h; done)
      | (obtain ⟨_, h, _⟩ := hx; cases h; done)
  unfold eqKind
  split
  · exact (h1 _ _ _ _ (hxi _ _ rfl) (hyi _ _ rfl)).elim
  · exact (h2 _ _ (hxs _ rfl) (hys _ rfl)).elim
  · exact (nf _ _ rfl).elim
  · exact (nc _ _ _ rfl).elim
  · rfl

omit ok in
theorem vbinInt_run {op : BinOp} (t : TypeId) {k k' : IntKind} {a b : Int} {v : VV} (h : vbinInt op k a k' b = some v) :
    ∃ r, (binOp op t (.int k a) (.int k' b)).run P w = .ok r w ∧ VRel β v r := by
  by_cases hs : op = .shl
  · subst hs
    simp only [vbinInt] at h
    split at h
    · cases h
    · rename_i hb
      cases h
      exact ⟨_, by simp only [binOp, Op.shift, if_neg hb, Sem.run_pure], rfl⟩
  by_cases hs' : op = .shr
  · subst hs'
    simp only [vbinInt] at h
    split at h
    · cases h
    · rename_i hb
      cases h
      exact ⟨_, by simp only [binOp, Op.shift, if_neg hb, Sem.run_pure], rfl⟩
  by_cases hk : k = k'
  · subst hk
    cases op <;> simp only [vbinInt, ne_eq, not_true_eq_false, if_false, reduceCtorEq] at h <;> first
      | exact (hs rfl).elim
      | exact (hs' rfl).elim
      | (cases h; exact ⟨_, by simp only [binOp, ne_eq, not_true_eq_false, if_false, Op.intArith, Op.intBits, Op.intCmp, Sem.run_pure], rfl⟩)
      | (split at h
         · cases h
         · rename_i hz
           cases h
           exact ⟨_, by simp only [binOp, ne_eq, not_true_eq_false, if_false, Op.intDiv, if_neg hz, Sem.run_pure], rfl⟩)
  · cases op <;> simp only [vbinInt, ne_eq, hk, not_false_eq_true, if_true, reduceCtorEq] at h <;> first
      | exact (hs rfl).elim
      | exact (hs' rfl).elim

omit ok in
theorem vbinStr_run {op : BinOp} (t : TypeId) {a b : ByteArray} {v : VV} (h : vbinStr op a b = some v) :
    ∃ r, (binOp op t (.string a) (.string b)).run P w = .ok r w ∧ VRel β v r := by
  cases op <;> simp only [vbinStr, reduceCtorEq] at h <;> first
    | (cases h; exact ⟨_, by simp only [binOp, Op.stringOp, Sem.run_pure, bytesEq_beq, ByteArray.toList_eq], rfl⟩)
    | (split at h
       · cases h
       · rename_i hz
         cases h
         have hz' : ¬ (((a.size + b.size : Nat) : Int) > IntKind.i64.max) := by simpa [IntKind.max, IntKind.signed, IntKind.bits] using hz
         exact ⟨_, by simp only [binOp, Op.stringOp, if_neg hz', Sem.run_pure], rfl⟩)

theorem vbin_run {op : BinOp} {t : TypeId} {x y v : VV} {x' y' : Value} (h : vbin T.ty op t x y = some v) (hx : VRel β x x') (hy : VRel β y y') :
    ∃ r, (binOp op t x' y').run P w = .ok r w ∧ VRel β v r := by
  unfold vbin at h
  split at h
  · simp only [VRel] at hx hy; subst hx; subst hy; exact vbinInt_run w t h
  · simp only [VRel] at hx hy; subst hx; subst hy; exact vbinStr_run w t h
  · rename_i n1 n2
    split at h
    · split at h
      · rename_i r hr
        cases h
        refine ⟨.bool r, ?_, rfl⟩
        rw [binOp_eql w (eqKind_of hx hy (fun k a l b e f => n1 _ _ _ _ e f) (fun a b e f => n2 _ _ e f)), veq_run ok w hr hx hy]
        rfl
      · cases h
    · split at h
      · rename_i r hr
        cases h
        refine ⟨.bool (!r), ?_, rfl⟩
        rw [binOp_neq w (eqKind_of hx hy (fun k a l b e f => n1 _ _ _ _ e f) (fun a b e f => n2 _ _ e f)), veq_run ok w hr hx hy]
        rfl
      · cases h
    · cases h

omit ok in
theorem vbin_veq {op : BinOp} {t : TypeId} {x y v : VV} (h : vbin T.ty op t x y = some v) :
    (∃ k a l b, x = .int k a ∧ y = .int l b) ∨ (∃ a b, x = .str a ∧ y = .str b) ∨ ∃ b, veqT T.ty 50 t x y = some b := by
  unfold vbin at h
  split at h
  · exact .inl ⟨_, _, _, _, rfl, rfl⟩
  · exact .inr (.inl ⟨_, _, rfl, rfl⟩)
  · refine .inr (.inr ?_)
    cases hv : veqT T.ty 50 t x y with
    | some b => exact ⟨b, rfl⟩
    | none =>
      rw [hv] at h
      cases op <;> cases h

omit ok in
theorem VRel.nilIface_inv {x : VV} (h : VRel β x .nilIface) : x = .niliface := by
  cases x <;> simp only [VRel] at h <;> first
    | rfl
    | (cases h; done)
    | (obtain ⟨_, _, h⟩ := h; cases h; done)
    | (obtain ⟨_, _, _, _, h, _⟩ := h; cases h; done)
    | (obtain ⟨_, _, h, _⟩ := h; cases h; done)
    | (obtain ⟨_, h, _⟩ := h; cases h; done)
    | (obtain ⟨_, _, _, h⟩ := h; cases h; done)
omit ok in
theorem VRel.agg_inv {x : VV} {xa : Array Value} (h : VRel β x (.agg xa)) : ∃ xs, x = .agg xs := by
  cases x <;> simp only [VRel] at h <;> first
    | exact ⟨_, rfl⟩
    | (cases h; done)
    | (obtain ⟨_, _, h⟩ := h; cases h; done)
    | (obtain ⟨_, _, _, _, h, _⟩ := h; cases h; done)
    | (obtain ⟨_, _, h, _⟩ := h; cases h; done)
    | (obtain ⟨_, h, _⟩ := h; cases h; done)
    | (obtain ⟨_, _, _, h⟩ := h; cases h; done)

theorem eqGuard_run {op : BinOp} {t : TypeId} {x y v : VV} {x' y' : Value} (ox oy : Operand) (h : vbin T.ty op t x y = some v) (hx : VRel β x x') (hy : VRel β y y') :
    (eqGuard op t ox oy x' y').run P w = .ok () w := by
  have hq := vbin_veq h
  clear h
  unfold eqGuard
  generalize (!(op matches .eql | .neq)) = c
  cases c
  case true => rfl
  case false =>
    simp only [Bool.false_eq_true, if_false]
    split
    · have e1 := hx.nilIface_inv
      have e2 := hy.nilIface_inv
      subst e1; subst e2
      rcases hq with ⟨k, a, l, b, h1, h2⟩ | ⟨a, b, h1, h2⟩ | ⟨b, hb⟩
      · cases h1
      · cases h1
      · unfold veqT at hb
        split at hb
        · cases hb
        · rename_i i hi
          cases hd : i.desc <;> simp only [hd, reduceCtorEq] at hb
    · obtain ⟨xs, rfl⟩ := hx.agg_inv
      obtain ⟨ys, rfl⟩ := hy.agg_inv
      rcases hq with ⟨k, a, l, b, h1, h2⟩ | ⟨a, b, h1, h2⟩ | ⟨b, hb⟩
      · cases h1
      · cases h1
      · unfold veqT at hb
        split at hb
        · cases hb
        · rename_i i hi
          obtain ⟨ds, inf, z, hd, hinf, hz, hzv, hzs, hs, hb', hde, hw, he⟩ := (ok.info hi).ex
          cases hd : i.desc <;> simp only [hd, reduceCtorEq] at hb
          split at hb
          · rename_i hq
            obtain ⟨h1, h2, h3⟩ := he hq
            simp [h3]
          · cases hb
    · rfl

omit ok in
theorem vun_run {op : UnOp} {x v : VV} {x' : Value} (h : vun op x = some v) (hx : VRel β x x') : ∃ r, (Op.unary op x').run P w = .ok r w ∧ VRel β v r := by
  unfold vun at h
  split at h <;> first
    | (simp only [VRel] at hx; subst hx; cases h; exact ⟨_, rfl, rfl⟩)
    | cases h

end
end Go.Proofs.YtfempmlelmdhbaaGreat.VM
