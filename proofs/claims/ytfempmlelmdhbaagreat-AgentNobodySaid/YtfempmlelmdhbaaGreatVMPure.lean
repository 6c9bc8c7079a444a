/- VMPure: a part of a verified evaluator of the model's code (or of its run), used for this seat's laws; it has no conditions. -/
import Derived.Test.YtfempmlelmdhbaaGreatVMSim
set_option linter.all false
namespace Go.Proofs.YtfempmlelmdhbaaGreat.VM
open Go

structure TIOk (P : Program) (t : TypeId) (i : TI) : Prop where
  ex : ∃ d inf z, P.underlying t = some d ∧ P.info? t = some inf ∧ inf.zero = some z ∧ toVV z = some i.zero ∧ z.cells.size = inf.size ∧ i.size = inf.size ∧ i.bytes = inf.bytes ∧
    i.desc = mkVD d ∧ fieldsWide P d = true ∧ (i.eqok = true → noBlank d = true ∧ P.stoodInHeld t = false ∧ P.eqGuardType P.depth t = false)

theorem mkTI_ok {P : Program} {t : TypeId} {i : TI} (h : mkTI P t = some i) : TIOk P t i := by
  unfold mkTI at h
  split at h
  · rename_i d inf hd hi
    split at h
    · rename_i z hz
      split at h
      · rename_i zv hzv
        split at h
        · rename_i hc
          cases h
          simp only [Bool.and_eq_true, beq_iff_eq] at hc
          exact ⟨d, inf, z, hd, hi, hz, hzv, hc.1, rfl, rfl, rfl, hc.2, by simp; intro a b c; exact ⟨a, b, c⟩⟩
        · cases h
      · cases h
    · cases h
  · cases h

theorem bytesEq_beq (p q : ByteArray) : bytesEq p.data.toList q.data.toList = (p.toList == q.toList) := by
  rw [Bool.eq_iff_iff, bytesEq_spec, ByteArray.toList_eq, ByteArray.toList_eq]; simp

def isAggDesc : TypeDesc → Bool
  | .struct _ | .array _ _ => true
  | _ => false

section
variable {P : Program} {T : Tb} (ok : T.Ok P) {β : Bt} (w : World)
include ok

theorem Tb.Ok.info {t : TypeId} {i : TI} (h : T.ty.get t = some i) : TIOk P t i := mkTI_ok (ok.ty t i h)

omit ok in
theorem run_sizeOf {t : TypeId} {inf : TypeInfo} (h : P.info? t = some inf) : (sizeOf t).run P w = .ok inf.size w := by
  simp [sizeOf, typeInfo, h]

omit ok in
theorem run_isAgg {t : TypeId} {d : TypeDesc} (h : P.underlying t = some d) : (isAgg t).run P w = .ok (isAggDesc d) w := by
  simp only [isAgg, Sem.run_bind, run_underlying h, Result.andThen_ok]
  cases d <;> rfl

theorem vpart_run {t : TypeId} {cs : List VV} {off : Nat} {v : VV} {xs : Array Value} (h : vpart T.ty t cs off = some v) (hr : VRelL β cs xs.toList) :
    ∃ x, (part t xs off).run P w = .ok x w ∧ VRel β v x := by
  unfold vpart at h
  split at h
  · rename_i i hi
    obtain ⟨d, inf, z, hd, hinf, hz, hzv, hzs, hs, hb, hde, hw, he⟩ := (ok.info hi).ex
    have single : ∀ (hn : isAggDesc d = false) (h : (match dropN off cs with | v :: _ => some v | [] => none) = some v),
        ∃ x, (part t xs off).run P w = .ok x w ∧ VRel β v x := by
      intro hn h
      rw [dropN_eq] at h
      split at h
      · rename_i u us hu
        cases h
        have : cs[off]? = some v := by
          have := List.getElem?_drop (xs := cs) (i := off) (j := 0)
          rw [hu] at this; simpa using this.symm
        obtain ⟨x, hx, hr'⟩ := hr.get this
        refine ⟨x, ?_, hr'⟩
        have hx' : xs[off]? = some x := by rw [← Array.getElem?_toList]; exact hx
        simp only [part, Sem.run_bind, run_isAgg w hd, Result.andThen_ok, hn, Bool.false_eq_true, if_false, hx', Sem.run_pure]
      · cases h
    rw [hde] at h
    cases d <;> simp only [mkVD] at h
    case struct fs =>
      split at h
      · rename_i l hl
        cases h
        obtain ⟨e, hlen⟩ := takeN_eq _ _ _ hl
        rw [dropN_eq] at e hlen
        refine ⟨.agg (xs.extract off (off + inf.size)), ?_, ?_⟩
        · simp only [part, Sem.run_bind, run_isAgg w hd, isAggDesc, Result.andThen_ok, if_true, run_sizeOf w hinf, Sem.run_pure]
        · refine ⟨_, rfl, ?_⟩
          subst e
          rw [hs]
          have := (hr.drop off).take inf.size
          simpa [Array.toList_extract, List.extract_eq_take_drop] using this
      · cases h
    all_goals first
      | exact single rfl h
      | cases h
  · cases h

theorem veqT_run : ∀ (d : Nat) {t : TypeId} {x y : VV} {b : Bool} {x' y' : Value}, veqT T.ty d t x y = some b → VRel β x x' → VRel β y y' →
    ∀ D, d ≤ D → (Op.equalIn D t x' y').run P w = .ok b w := by
  intro d
  induction d with
  | zero => intro t x y b x' y' h; simp [veqT] at h
  | succ d ih =>
    intro t x y b x' y' h hx hy D hD
    obtain ⟨D, rfl⟩ : ∃ m, D = m + 1 := ⟨D - 1, by omega⟩
    have hD' : d ≤ D := by omega
    unfold veqT at h
    split at h
    · cases h
    rename_i i hi
    obtain ⟨ds, inf, z, hd, hinf, hz, hzv, hzs, hs, hb, hde, hw, he⟩ := (ok.info hi).ex
    rw [hde] at h
    have fields : ∀ (fs : List Field) {xs ys : List VV} {xa ya : Array Value}, VRelL β xs xa.toList → VRelL β ys ya.toList → (∀ f ∈ fs, (f.name != "_") = true) →
        veqFs T.ty (veqT T.ty d) (fs.map fun f => (f.offset, f.type)) xs ys = some b → (Op.eqFields D xa ya fs).run P w = .ok b w := by
      intro fs
      induction fs with
      | nil => intro xs ys xa ya _ _ _ hg; simp [veqFs] at hg; subst hg; rfl
      | cons f fs ihf =>
        intro xs ys xa ya hxs hys hnb hg
        simp only [List.map_cons, veqFs] at hg
        split at hg
        · rename_i a c ha hc
          obtain ⟨a', hpa, hra⟩ := vpart_run ok w ha hxs
          obtain ⟨c', hpc, hrc⟩ := vpart_run ok w hc hys
          have hne : f.name ≠ "_" := by have := hnb f (by simp); simpa using this
          simp only [Op.eqFields, ne_eq, hne, not_false_eq_true, if_true, Sem.run_bind, hpa, hpc, Result.andThen_ok]
          split at hg
          · rename_i hq
            rw [ih hq hra hrc D hD']
            simp only [Result.andThen_ok, Bool.not_true, Bool.false_eq_true, if_false]
            exact ihf hxs hys (fun g hg' => hnb g (by simp [hg'])) hg
          · rename_i hq
            rw [ih hq hra hrc D hD']
            cases hg
            simp
          · cases hg
        · cases hg
    cases ds <;> simp only [mkVD] at h
    case struct fa =>
      cases x <;> cases y <;> simp only [reduceCtorEq] at h
      case agg.agg xs ys =>
        obtain ⟨xa, rfl, hxa⟩ := hx
        obtain ⟨ya, rfl, hya⟩ := hy
        split at h
        · rename_i hq
          obtain ⟨h1, h2, h3⟩ := he hq
          have hfo : P.fieldsOf t = fa := by simp [Program.fieldsOf, hd]
          have hu : P.underlying t = some (.struct (P.fieldsOf t)) := by rw [hfo]; exact hd
          rw [run_equalIn_struct w D t xa ya hu h2, hfo]
          exact fields fa.toList hxa hya (fun f hf => List.all_eq_true.1 h1 f hf) h
        · cases h
    case int k0 =>
      cases x <;> cases y <;> simp only [reduceCtorEq] at h
      simp only [VRel] at hx hy
      subst hx; subst hy
      split at h
      · rename_i hk
        simp only [decide_eq_true_eq] at hk
        subst hk
        cases h
        exact run_equalIn_int w D t _ k0 _ _ hd
      · cases h
    case bool =>
      cases x <;> cases y <;> simp only [reduceCtorEq] at h
      simp only [VRel] at hx hy
      subst hx; subst hy; cases h
      exact run_equalIn_bool w D t _ _ hd
    case string =>
      cases x <;> cases y <;> simp only [reduceCtorEq] at h
      simp only [VRel] at hx hy
      subst hx; subst hy; cases h
      rw [show ∀ p q : ByteArray, bytesEq p.data.toList q.data.toList = (p.toList == q.toList) from fun p q => bytesEq_beq p q]
      exact run_equalIn_string w D t _ _ hd
    all_goals
      clear fields ih he hw
      cases x <;> cases y <;> simp only [reduceCtorEq] at h <;> simp only [VRel] at hx hy <;> cases h
      all_goals first
        | (subst hx; subst hy; simp only [Op.equalIn, Sem.run_bind, run_underlying hd, Result.andThen_ok, Sem.run_pure]; done)
        | (obtain ⟨_, _, rfl⟩ := hx; subst hy; simp only [Op.equalIn, Sem.run_bind, run_underlying hd, Result.andThen_ok, Sem.run_pure]; done)
        | (obtain ⟨_, _, rfl⟩ := hy; subst hx; simp only [Op.equalIn, Sem.run_bind, run_underlying hd, Result.andThen_ok, Sem.run_pure]; rfl)
        | (obtain ⟨_, _, _, _, rfl, _⟩ := hx; subst hy; simp only [Op.equalIn, Sem.run_bind, run_underlying hd, Result.andThen_ok, Sem.run_pure]; done)
        | (obtain ⟨_, _, _, _, rfl, _⟩ := hy; subst hx; simp only [Op.equalIn, Sem.run_bind, run_underlying hd, Result.andThen_ok, Sem.run_pure]; rfl)
        | (obtain ⟨_, _, rfl, _⟩ := hx; subst hy; simp only [Op.equalIn, Sem.run_bind, run_underlying hd, Result.andThen_ok, Sem.run_pure]; done)
        | (obtain ⟨_, _, rfl, _⟩ := hy; subst hx; simp only [Op.equalIn, Sem.run_bind, run_underlying hd, Result.andThen_ok, Sem.run_pure]; done)
        | (obtain ⟨_, rfl, _⟩ := hx; subst hy; simp only [Op.equalIn, Sem.run_bind, run_underlying hd, Result.andThen_ok, Sem.run_pure]; done)
        | (obtain ⟨_, rfl, _⟩ := hy; subst hx; simp only [Op.equalIn, Sem.run_bind, run_underlying hd, Result.andThen_ok, Sem.run_pure]; done)

end
end Go.Proofs.YtfempmlelmdhbaaGreat.VM
