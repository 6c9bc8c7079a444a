/- VMPure5: a part of a verified evaluator of the model's code (or of its run), used for this seat's laws; it has no conditions. -/
import Derived.Test.YtfempmlelmdhbaaGreatVMPure4
import Derived.Laws.Build
set_option linter.all false
namespace Go.Proofs.YtfempmlelmdhbaaGreat.VM
open Go

section
variable {P : Program} {T : Tb} (ok : T.Ok P) {β : Bt} (w : World)

theorem optEval_rel {n : Nat} {tm : Tm} {a : Act} (r : TmRel β n tm a.tmps) {o : Option Operand} {v : Option VV} (h : optEval tm o = some v) : OptRel β v (o.map a.eval) := by
  cases o with
  | none => simp only [optEval, Option.some.injEq] at h; subst h; rfl
  | some o =>
    simp only [optEval] at h
    split at h
    · rename_i u hu
      cases h
      exact ⟨_, rfl, veval_rel r hu⟩
    · cases h

theorem vassert_run {u xt : TypeId} {c : Bool} {y v zv : VV} {z x' : Value} {d : TypeDesc} {inf : TypeInfo} (hd : P.underlying u = some d) (hnot : ∀ ms, d ≠ .interface ms) (hinf : P.info? u = some inf) (hz : inf.zero = some z)
    (hzr : VRel β zv z) (hx : VRel β y x') (h : vassert zv u c y = some v) : ∃ res, (Instr.typeAssert x' xt u c).run P w = .ok res w ∧ VRel β v res := by
  have hrun : ∀ (t : TypeId) (v' : Value), (Instr.typeAssert (.iface t v') xt u c).run P w = (if t = u then (pure (if c then .tuple #[v', .bool true] else v') : Sem Value) else (if c then (do pure (.tuple #[← zeroValue u, .bool false])) else runtimePanic (.typeAssertion (some xt) (some t) u ""))).run P w := by
    intro t v'
    simp only [Instr.typeAssert, Sem.run_bind, run_underlying hd, Result.andThen_ok]
  have hrun0 : (Instr.typeAssert .nilIface xt u c).run P w = (if c then (do pure (.tuple #[← zeroValue u, .bool false])) else runtimePanic (.typeAssertion (some xt) none u "") : Sem Value).run P w := by
    simp only [Instr.typeAssert, Sem.run_bind, run_underlying hd, Result.andThen_ok]
  have hzero : (zeroValue u).run P w = .ok z w := by simp [zeroValue, typeInfo, hinf, hz]
  unfold vassert at h
  split at h
  · rename_i t v0
    simp only [VRel] at hx
    obtain ⟨v', rfl, hv⟩ := hx
    rw [hrun]
    split at h
    · rename_i hb
      have hb := Nat.eq_of_beq_eq_true hb
      rw [if_pos hb]
      cases c
      · cases h; exact ⟨_, rfl, hv⟩
      · cases h; exact ⟨_, rfl, by simp only [VRel]; exact ⟨_, rfl, by simp only [VRelL]; exact ⟨_, _, rfl, hv, _, _, rfl, rfl, rfl⟩⟩⟩
    · rename_i hb
      have hb' : t ≠ u := fun e => by subst e; simp at hb
      rw [if_neg hb']
      cases c
      · cases h
      · cases h
        refine ⟨.tuple #[z, .bool false], by simp [hzero], ?_⟩
        simp only [VRel]; exact ⟨_, rfl, by simp only [VRelL]; exact ⟨_, _, rfl, hzr, _, _, rfl, rfl, rfl⟩⟩
  · simp only [VRel] at hx
    subst hx
    rw [hrun0]
    cases c
    · cases h
    · cases h
      refine ⟨.tuple #[z, .bool false], by simp [hzero], ?_⟩
      simp only [VRel]; exact ⟨_, rfl, by simp only [VRelL]; exact ⟨_, _, rfl, hzr, _, _, rfl, rfl, rfl⟩⟩
  · cases h

include ok

theorem vpure_run {n : Nat} {tm : Tm} {a : Act} (r : TmRel β n tm a.tmps) (o : Oper) {v : VV} (hc : cls T.ty o.op = .pure) (h : vpure T tm o.op = some v) :
    ∃ x, (execOp a.eval o).run P w = .ok (.value x) w ∧ VRel β v x := by
  obtain ⟨dst, op, type, pos, after, guard⟩ := o
  simp only at hc h
  have wrap : ∀ {s : Sem Value} {x : Value}, s.run P w = .ok x w → (do pure (Next.value (← s)) : Sem Next).run P w = .ok (.value x) w := by
    intro s x hs; simp [hs]
  cases op <;> simp only [vpure, reduceCtorEq] at h
  case move x => exact ⟨_, rfl, veval_rel r h⟩
  case assign x => exact ⟨_, rfl, veval_rel r h⟩
  case pick c x y =>
    split at h
    · rename_i hb
      have hcv := veval_rel r hb
      simp only [VRel] at hcv
      exact ⟨_, by simp [execOp, hcv, asBool], veval_rel r h⟩
    · rename_i hb
      have hcv := veval_rel r hb
      simp only [VRel] at hcv
      exact ⟨_, by simp [execOp, hcv, asBool], veval_rel r h⟩
    · cases h
  case build t parts =>
    split at h
    · rename_i i hi
      split at h
      · rename_i fs hd
        split at h
        · rename_i pl ps hpl hps
          split at h
          · rename_i cs hcs
            cases h
            obtain ⟨x, hx, hv⟩ := build_run w ok r hi hd hpl hps hcs
            exact ⟨x, wrap hx, hv⟩
          · cases h
        · cases h
      · cases h
    · cases h
  case nilCheck x =>
    split at h
    · rename_i b o hb
      cases h
      have hx := veval_rel r hb
      obtain ⟨bi, hbi, hx'⟩ := hx
      exact ⟨_, by simp only [execOp, hx', Sem.run_pure], ⟨bi, hbi, rfl⟩⟩
    · rename_i f x' c' hb
      cases h
      have hx := veval_rel r hb
      obtain ⟨x1, c1, hx', h1, h2⟩ := hx
      exact ⟨_, by simp only [execOp, hx', Sem.run_pure], ⟨x1, c1, rfl, h1, h2⟩⟩
    · rename_i t u hb
      cases h
      have hx := veval_rel r hb
      obtain ⟨x1, hx', h1⟩ := hx
      exact ⟨_, by simp only [execOp, hx', Sem.run_pure], ⟨x1, rfl, h1⟩⟩
    · cases h
  case binOp op t x y yt =>
    split at h
    · rename_i u1 u2 h1 h2
      obtain ⟨res, hr, hv⟩ := vbin_run ok w h (veval_rel r h1) (veval_rel r h2)
      refine ⟨res, ?_, hv⟩
      have hg := eqGuard_run ok w x y h (veval_rel r h1) (veval_rel r h2)
      simp only [execOp, Sem.run_bind, hg, hr, Result.andThen_ok, Sem.run_pure]
    · cases h
  case unOp op t x =>
    split at h
    · rename_i u hu
      obtain ⟨res, hr, hv⟩ := vun_run w h (veval_rel r hu)
      exact ⟨res, wrap hr, hv⟩
    · cases h
  case convert s d x =>
    split at h
    · rename_i is id u his hid hu
      obtain ⟨ds, infs, zs, hds, _⟩ := (ok.info his).ex
      obtain ⟨dd, infd, zd, hdd, _, _, _, _, _, _, hde, _⟩ := (ok.info hid).ex
      rw [hde] at h
      have hx := veval_rel r hu
      cases dd <;> cases u <;> simp only [mkVD, reduceCtorEq] at h
      case int.int k k2 n =>
        cases h
        simp only [VRel] at hx
        exact ⟨_, wrap (by simp only [convert, Sem.run_bind, run_underlying hds, run_underlying hdd, Result.andThen_ok, hx, Conv.intToInt, Sem.run_pure]), rfl⟩
      case string.str s =>
        cases h
        simp only [VRel] at hx
        exact ⟨_, wrap (by simp only [convert, Sem.run_bind, run_underlying hds, run_underlying hdd, Result.andThen_ok, hx, Sem.run_pure]), rfl⟩
    · cases h
  case makeFunc fn x y =>
    cases fn <;> simp only [reduceCtorEq] at h
    split at h
    · rename_i xs ys hxs hys
      cases h
      refine ⟨_, wrap (by simp only [Instr.makeFunc, Sem.run_pure]; rfl), ⟨_, _, rfl, ?_, ?_⟩⟩
      · simpa using vevals_rel r hxs
      · simpa using vevals_rel r hys
    · cases h
  case makeInterface t x =>
    split at h
    · rename_i i u hi hu
      obtain ⟨d, inf, z, hd, _, _, _, _, _, _, hde, _⟩ := (ok.info hi).ex
      have hx := veval_rel r hu
      have hconc : P.concrete t = true := by
        unfold Program.concrete; rw [hd]; rw [hde] at h; cases d <;> simp only [mkVD, reduceCtorEq] at h <;> rfl
      have hv : v = .iface t u := by
        split at h
        · cases h
        · cases h; rfl
      subst hv
      exact ⟨_, wrap (run_makeInterface w t _ hconc), by simp only [VRel]; exact ⟨_, rfl, hx⟩⟩
    · cases h
  case typeAssert x xt u c =>
    split at h
    · rename_i i y hi hy
      obtain ⟨d, inf, z, hd, hinf, hz, hzv, _, _, _, hde, _⟩ := (ok.info hi).ex
      have hx := veval_rel r hy
      have hzr : VRel β i.zero z := toVV_rel β z i.zero hzv
      have hnot : ∀ ms, d ≠ .interface ms := by intro ms e; subst e; rw [hde] at h; simp [mkVD] at h
      have h : vassert i.zero u c y = some v := by
        split at h
        · cases h
        · exact h
      obtain ⟨res, hr, hv⟩ := vassert_run w (xt := xt) hd hnot hinf hz hzr hx h
      exact ⟨res, wrap hr, hv⟩
    · cases h
  case slice t x lo hi mx =>
    split at h
    · rename_i u l h' m hu hl hh hm
      obtain ⟨res, hr, hv⟩ := vslice_run w ok h (veval_rel r hu) (optEval_rel r hl) (optEval_rel r hh) (optEval_rel r hm)
      exact ⟨res, wrap hr, hv⟩
    · cases h
  case fieldAddr t x f =>
    split at h
    · rename_i i b o hi hx
      split at h
      · rename_i fs hd
        split at h
        · rename_i off ft hf
          cases h
          obtain ⟨res, hr, hv⟩ := fieldAddr_run w ok hi hd hf (veval_rel r hx)
          exact ⟨res, wrap hr, hv⟩
        · cases h
      · cases h
    · cases h
  case field t x f =>
    split at h
    · rename_i i cs hi hx
      split at h
      · rename_i fs hd
        split at h
        · rename_i off ft hf
          obtain ⟨res, hr, hv⟩ := field_run w ok hi hd hf h (veval_rel r hx)
          exact ⟨res, wrap hr, hv⟩
        · cases h
      · cases h
    · cases h
  case indexAddr t x ix =>
    split at h
    · rename_i u1 u2 h1 h2
      obtain ⟨res, hr, hv⟩ := vindexAddr_run w ok h (veval_rel r h1) (veval_rel r h2)
      exact ⟨res, wrap hr, hv⟩
    · cases h
  case index t x ix =>
    split at h
    · rename_i u1 u2 h1 h2
      obtain ⟨res, hr, hv⟩ := vindex_run w ok h (veval_rel r h1) (veval_rel r h2)
      exact ⟨res, wrap hr, hv⟩
    · cases h
  case extract t ix =>
    split at h
    · rename_i vs hvs
      have hx := veval_rel r hvs
      obtain ⟨xa, hx', hxa⟩ := hx
      obtain ⟨x, hx2, hv⟩ := hxa.get h
      have hx3 : xa[ix]? = some x := by rw [← Array.getElem?_toList]; exact hx2
      exact ⟨x, wrap (by simp only [hx', Instr.extract, hx3, Sem.run_pure]), hv⟩
    · cases h
  case call c =>
    obtain ⟨callee, args, argTypes⟩ := c
    simp only at h
    split at h
    · rename_i u v1 l h2
      obtain ⟨x', l', he, hx, hl⟩ := vevals_rel r h2
      obtain ⟨res, hr, hv⟩ := vmin_run (P := P) w h hx hl
      have he' : (args.map a.eval).toList = x' :: l' := by rw [Array.toList_map]; exact he
      refine ⟨res, ?_, hv⟩
      simp only [execOp, resolve, invoke, builtin, Builtin.min_, Sem.run_bind, Sem.run_pure, Result.andThen_ok, he', hr]
    · rename_i u v1 l h2
      obtain ⟨x', l', he, hx, hl⟩ := vevals_rel r h2
      obtain ⟨res, hr, hv⟩ := vmax_run (P := P) w h hx hl
      have he' : (args.map a.eval).toList = x' :: l' := by rw [Array.toList_map]; exact he
      refine ⟨res, ?_, hv⟩
      simp only [execOp, resolve, invoke, builtin, Builtin.max_, Sem.run_bind, Sem.run_pure, Result.andThen_ok, he', hr]
    · cases h

end
end Go.Proofs.YtfempmlelmdhbaaGreat.VM
