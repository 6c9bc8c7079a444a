/- VMStep: a part of a verified evaluator of the model's code (or of its run), used for this seat's laws; it has no conditions. -/
import Derived.Test.YtfempmlelmdhbaaGreatVMIter
set_option linter.all false
namespace Go.Proofs.YtfempmlelmdhbaaGreat.VM
open Go Go.RowKit

section
variable {P : Program} {T : Tb} {B : Nat} {β : Bt} {h : VH} (w : World) (ok : T.Ok P)
include ok

theorem After.refl' (S : Sim B β h w) : After B β h w β h w := ⟨Bt.le_refl β, fun _ _ => rfl, S, Below.refl B w, Nat.le_refl _⟩

/-- An operation with an effect. -/
theorem veff_val (S : Sim B β h w) {n : Nat} {tm : Tm} {a : Act} (r : TmRel β n tm a.tmps) (o : Oper) {v : VV} {h' : VH} (he : veff T tm o.op h = some (.val v h')) :
    ∃ w1 nx x β', (execOp a.eval o).run P w = .ok nx w1 ∧ (nx = .value x ∨ (nx = .skip ∧ x = undef)) ∧ VRel β' v x ∧ After B β h w β' h' w1 := by
  obtain ⟨dst, op, type, pos, after, guard⟩ := o
  simp only at he
  cases op <;> simp only [veff, reduceCtorEq] at he
  case range t x =>
    split at he
    · rename_i y hy
      obtain ⟨w1, res, β', hrun, hv, A⟩ := vrange_run w ok S he (veval_rel r hy)
      exact ⟨w1, .value res, res, β', by simp only [execOp, Sem.run_bind, hrun, Result.andThen_ok, Sem.run_pure], .inl rfl, hv, A⟩
    · cases he
  case next it s =>
    cases s with
    | true => cases he
    | false =>
      simp only at he
      split at he
      · rename_i b hb
        obtain ⟨bi, hbi, hx⟩ := veval_rel r hb
        obtain ⟨w1, res, hrun, hv, A⟩ := vnext_run (P := P) w S hbi he type
        rw [Nat.add_zero] at hx
        exact ⟨w1, .value res, res, β, by simp only [execOp, hx, Sem.run_bind, hrun, Result.andThen_ok, Sem.run_pure], .inl rfl, hv, A⟩
      · cases he
  case store t ad x =>
    split at he
    · rename_i i b o v0 hi ha hx
      split at he
      · rename_i hsz
        split at he
        · rename_i h1 hs
          cases he
          obtain ⟨d, inf, z, hd, hinf, hz, hzv, hzs, hs', hb, hde, hw, _⟩ := (ok.info hi).ex
          have hra := veval_rel r ha
          have hrx := veval_rel r hx
          obtain ⟨bi, hbi, hae⟩ := hra
          obtain ⟨w1, hrun, S1, hbl, hnx⟩ := storeN_run (P := P) w S hbi hs hrx.cells
          have hcs : (a.eval x).cells.size = inf.size := by
            have := hrx.cells.length
            simp only [Array.length_toList] at this
            rw [← this, Nat.eq_of_beq_eq_true hsz, hs']
          refine ⟨w1, .skip, undef, β, ?_, .inr ⟨rfl, rfl⟩, undef_rel β, ⟨Bt.le_refl β, fun _ _ => rfl, S1, hbl, Nat.le_of_eq hnx.symm⟩⟩
          simp only [execOp, Instr.storeAt, hae, Instr.sureAddr, Sem.run_bind, Sem.run_pure, Result.andThen_ok, storeVar, run_sizeOf w hinf, hcs, ne_eq, not_true_eq_false, if_false, hrun]
        · cases he
      · cases he
    · cases he
  case mapUpdate t m k x =>
    split at he
    · rename_i u1 u2 u3 g1 g2 g3
      split at he
      · rename_i h1 hs
        cases he
        obtain ⟨w1, hrun, S1, hbl, hnx⟩ := vmapUpdate_run w ok S hs (veval_rel r g1) (veval_rel r g2) (veval_rel r g3)
        refine ⟨w1, .skip, undef, β, ?_, .inr ⟨rfl, rfl⟩, undef_rel β, ⟨Bt.le_refl β, fun _ _ => rfl, S1, hbl, Nat.le_of_eq hnx.symm⟩⟩
        simp only [execOp, Sem.run_bind, hrun, Result.andThen_ok, Sem.run_pure]
      · cases he
    · cases he
  case insert t m k x =>
    split at he
    · rename_i u1 u2 u3 g1 g2 g3
      split at he
      · rename_i h1 hs
        cases he
        obtain ⟨w1, hrun, S1, hbl, hnx⟩ := vmapUpdate_run w ok S hs (veval_rel r g1) (veval_rel r g2) (veval_rel r g3)
        refine ⟨w1, .skip, undef, β, ?_, .inr ⟨rfl, rfl⟩, undef_rel β, ⟨Bt.le_refl β, fun _ _ => rfl, S1, hbl, Nat.le_of_eq hnx.symm⟩⟩
        simp only [execOp, Sem.run_bind, hrun, Result.andThen_ok, Sem.run_pure]
      · cases he
    · cases he
  case convert s d x =>
    split at he
    · rename_i i j b o len cap sz hi hj hx
      obtain ⟨ds, inf, z, hd, hinf, hz, hzv, hzs, hs', hb, hde, hw, _⟩ := (ok.info hi).ex
      split at he
      · rename_i e hdd hsd
        rw [hde] at hdd
        cases ds <;> simp only [mkVD, reduceCtorEq, VD.slice.injEq] at hdd
        rename_i e'
        subst hdd
        have hsd' := Nat.eq_of_beq_eq_true hsd
        subst hsd'
        split at he
        · rename_i ei cs hei hcs
          obtain ⟨de, infe, ze, hde1, f1, f2, f3, f4, f5, f6, hdee, f7, f8⟩ := (ok.info hei).ex
          split at he
          · rename_i hk
            rw [hdee] at hk
            cases de <;> simp only [mkVD, reduceCtorEq, VD.int.injEq] at hk
            subst hk
            cases he
            have hrx := veval_rel r hx
            obtain ⟨bi, hbi, off', cap', hxe, hoff, hlc, hsz, hcc⟩ := hrx
            obtain ⟨arr, ct, fz, e1, e2, e3, e4⟩ := S.cells b bi false cs hbi hcs
            obtain ⟨hfz0, hBb⟩ := e4
            have hfz := hfz0 rfl
            subst hfz
            have hlt := (S.low b bi hbi).2
            have hfr : (w.freeze ⟨bi.rb, arr.size, none⟩ 1).heap = w.heap.modify bi.rb fun
                | .cells c elem (lo, hi) => .cells c elem (if lo == hi then (arr.size, arr.size + 1) else (min lo arr.size, max hi (arr.size + 1)))
                | o => o := by simp only [World.freeze, Nat.one_ne_zero, if_false]; rfl
            have hat : (w.freeze ⟨bi.rb, arr.size, none⟩ 1).heap[bi.rb]? = some (.cells arr ct (arr.size, arr.size + 1)) := by
              rw [hfr, Array.getElem?_modify, if_pos rfl, e1]; rfl
            have hoth : ∀ q, q ≠ bi.rb → (w.freeze ⟨bi.rb, arr.size, none⟩ 1).heap[q]? = w.heap[q]? := by
              intro q hq
              rw [hfr, Array.getElem?_modify, if_neg (Ne.symm hq)]
            have hsize : (w.freeze ⟨bi.rb, arr.size, none⟩ 1).heap.size = w.heap.size := by rw [hfr, Array.size_modify]
            have S1 := S.update (o' := .cells true cs) hbi (by rw [hcs]; rfl) (S.leaf b false cs hcs) (w' := w.freeze ⟨bi.rb, arr.size, none⟩ 1) ⟨arr, ct, _, hat, e2, e3, fun e => by cases e⟩ hoth hsize
            have hsh : w.shape? bi.rb = some (ct, arr.size) := by simp [World.shape?, e1]
            have hms : (markStringish ⟨bi.rb, off', none⟩).run P w = .ok () (w.freeze ⟨bi.rb, arr.size, none⟩ 1) := by
              simp only [markStringish, Sem.run_bind, run_shape, hsh, Result.andThen_ok, run_freeze]
            refine ⟨_, .value (.slice (some ⟨bi.rb, off', none⟩) len cap'), _, β, ?_, .inl rfl, ⟨bi, hbi, off', cap', rfl, hoff, hlc, hsz, hcc⟩, ⟨Bt.le_refl β, fun _ _ => rfl, S1, ⟨rfl, rfl, rfl, Nat.le_of_eq hsize.symm, fun k hk => hoth k (by omega)⟩, Nat.le_refl _⟩⟩
            · simp only [execOp, hxe, convert, Sem.run_bind, run_underlying hd, run_underlying hde1, Result.andThen_ok, beq_self_eq_true, hms, Sem.run_pure]
          · cases he
        · cases he
      · cases he
    · cases he
  case call c =>
    obtain ⟨callee, args, argTypes⟩ := c
    simp only at he
    split at he
    · rename_i vs hvs
      have hargs := vevals_rel r hvs
      split at he
      · -- append
        split at he
        · rename_i t u ts x y us ht
          obtain ⟨x', l1, he1, hx, hl1⟩ := hargs
          obtain ⟨y', l2, he2, hy, hl2⟩ := hl1
          subst he2
          have ht0 : argTypes[0]? = some t := by rw [← Array.getElem?_toList, ht]; rfl
          have ht1 : argTypes[1]? = some u := by rw [← Array.getElem?_toList, ht]; rfl
          have ha0 : (args.map a.eval)[0]? = some x' := by rw [← Array.getElem?_toList, Array.toList_map, he1]; rfl
          have ha1 : (args.map a.eval)[1]? = some y' := by rw [← Array.getElem?_toList, Array.toList_map, he1]; rfl
          obtain ⟨w1, res, β', hrun, hv, A⟩ := vappend_run w ok S (ty := type) he hx hy
          refine ⟨w1, .value res, res, β', ?_, .inl rfl, hv, A⟩
          simp only [execOp, resolve, invoke, builtin, Sem.run_bind, Sem.run_pure, Result.andThen_ok, append_congr ht0 ht1 ha0 ha1, hrun]
        · cases he
      · -- delete
        split at he
        · rename_i t ts x k us ht
          split at he
          · rename_i h1 hs
            cases he
            obtain ⟨x', l1, he1, hx, hl1⟩ := hargs
            obtain ⟨y', l2, he2, hy, hl2⟩ := hl1
            subst he2
            have ht0 : argTypes[0]? = some t := by rw [← Array.getElem?_toList, ht]; rfl
            have ha0 : (args.map a.eval)[0]? = some x' := by rw [← Array.getElem?_toList, Array.toList_map, he1]; rfl
            have ha1 : (args.map a.eval)[1]? = some y' := by rw [← Array.getElem?_toList, Array.toList_map, he1]; rfl
            obtain ⟨w1, hrun, S1, hbl, hnx⟩ := vdelete_run w ok S hs hx hy argTypes type (args.map a.eval) ht0 ha0 ha1
            refine ⟨w1, .value (.tuple #[]), .tuple #[], β, ?_, .inl rfl, ⟨_, rfl, rfl⟩, ⟨Bt.le_refl β, fun _ _ => rfl, S1, hbl, Nat.le_of_eq hnx.symm⟩⟩
            simp only [execOp, resolve, invoke, builtin, Sem.run_bind, Sem.run_pure, Result.andThen_ok, hrun]
          · cases he
        · cases he
      · split at he
        · cases he
        · cases he
      · split at he
        · split at he
          · split at he
            · cases he
            · cases he
          · cases he
        · cases he
      · cases he
    · cases he

omit ok in
theorem callFunc_enter {f : FuncId} {fn : Func} (hf : P.funcs[f]? = some fn) {c : Code} (hb : fn.body = some c) (hn : (fn.name == "runtime.NumGoroutine") = false) (args : Array Value) : (callFunc f args).run P w = .ok (.enter f args) w := by
  have hn' : ¬ fn.name = "runtime.NumGoroutine" := by simpa using hn
  simp [callFunc, hf, hn', hb]

omit ok in
theorem methsB_spec {t : TypeId} {l : List (String × FuncId)} (h : methsB P t l = true) {x : String × FuncId} (hx : x ∈ l) : methB P t x.1 = some x.2 := by
  unfold methsB at h
  have := List.all_eq_true.1 h x hx
  split at this
  · rename_i f hf; rw [hf, Nat.eq_of_beq_eq_true this]
  · cases this
omit ok in
theorem method_run {t : TypeId} {name : String} {f : FuncId} (h : methB P t name = some f) (v : Value) (n : Nat) : (method (n + 1) t v name).run P w = .ok (f, v) w := by
  unfold methB at h
  split at h
  · rename_i e i hd hi
    split at h
    · rename_i m hm
      split at h
      · rename_i f' hp hfn
        cases h
        have hp' : m.path.toList = [] := by simpa using hp
        simp [method, typeInfo, hi, hm, hp', follow, hfn, receiverAt, run_underlying hd, Place.get]
      · cases h
    · cases h
  · cases h
omit ok in
theorem callMethod_enter {t : TypeId} {name : String} {f : FuncId} (h : methB P t name = some f) (v : Value) (args : Array Value) {fn : Func} (hf : P.funcs[f]? = some fn) {c : Code} (hb : fn.body = some c) (hn : (fn.name == "runtime.NumGoroutine") = false) :
    (do
      let some recv := (#[Value.iface t v] ++ args)[0]? | stuck "call: a method without a receiver"
      callMethod recv name ((#[Value.iface t v] ++ args).extract 1 (#[Value.iface t v] ++ args).size) : Sem Next).run P w = .ok (.enter f (#[v] ++ args)) w := by
  have e0 : (#[Value.iface t v] ++ args)[0]? = some (Value.iface t v) := by
    rw [Array.getElem?_append_left (by exact Nat.zero_lt_one)]; rfl
  have e1 : (#[Value.iface t v] ++ args).extract 1 (#[Value.iface t v] ++ args).size = args := by
    apply Array.ext'
    rw [Array.toList_extract, Array.toList_append, Array.size_append]
    simp [List.extract]
    exact List.take_of_length_le (by simp)
  have hm : (method (P.types.size + Made.depth) t v name).run P w = .ok (f, v) w := method_run w h v _
  simp only [e0, e1, callMethod, Sem.run_bind, run_program, Result.andThen_ok, hm]
  exact callFunc_enter w hf hb hn _

theorem veff_enter {n : Nat} {tm : Tm} {a : Act} (r : TmRel β n tm a.tmps) (o : Oper) {f : FuncId} {args : List VV} {h' : VH} (he : veff T tm o.op h = some (.enter f args h')) {vf : VF} (hf : T.fn.get f = some vf) :
    h' = h ∧ ∃ xs : Array Value, (execOp a.eval o).run P w = .ok (.enter f xs) w ∧ VRelL β args xs.toList := by
  obtain ⟨dst, op, type, pos, after, guard⟩ := o
  simp only at he
  cases op <;> simp only [veff, reduceCtorEq] at he
  case range t x =>
    split at he
    · unfold vrange at he
      repeat' split at he
      all_goals cases he
    · cases he
  case next it s =>
    cases s with
    | true => cases he
    | false =>
      simp only at he
      split at he
      · unfold vnext at he
        repeat' split at he
        all_goals cases he
      · cases he
  case store t ad x =>
    split at he
    · split at he
      · split at he <;> cases he
      · cases he
    · cases he
  case mapUpdate t m k x =>
    split at he
    · split at he <;> cases he
    · cases he
  case insert t m k x =>
    split at he
    · split at he <;> cases he
    · cases he
  case convert s d x =>
    repeat' split at he
    all_goals cases he
  case call c =>
    obtain ⟨callee, cargs, argTypes⟩ := c
    simp only at he
    split at he
    · rename_i vs hvs
      have hargs := vevals_rel r hvs
      split at he
      · -- append never enters
        split at he
        · unfold vappend at he
          repeat' split at he
          all_goals cases he
        · cases he
      · split at he
        · split at he <;> cases he
        · cases he
      · rename_i g
        split at he
        · rename_i g0 first cap hg
          cases he
          have hgr := veval_rel r hg
          obtain ⟨first', cap', hge, h1, h2⟩ := hgr
          obtain ⟨fn, hfn, hmk⟩ := ok.fn _ _ hf
          refine ⟨rfl, first' ++ cargs.map a.eval ++ cap', ?_, ?_⟩
          · simp only [execOp, resolve, hge, Deferred.ofValue, Sem.run_bind, Sem.run_pure, Result.andThen_ok, invoke]
            exact callFunc_enter w hfn hmk.body hmk.name _
          · simp only [Array.toList_append, Array.toList_map]
            exact (h1.append hargs).append h2
        · cases he
      · rename_i x name
        split at he
        · rename_i t v hx
          have hxr := veval_rel r hx
          simp only [VRel] at hxr
          obtain ⟨v', hxe, hv⟩ := hxr
          split at he
          · rename_i l hl
            split at he
            · rename_i y hy
              cases he
              have hmb := methsB_spec (ok.ms _ _ hl) (List.mem_of_find?_eq_some hy)
              have hnm : y.1 = name := by simpa using List.find?_some hy
              rw [hnm] at hmb
              obtain ⟨fn, hfn, hmk⟩ := ok.fn _ _ hf
              refine ⟨rfl, #[v'] ++ cargs.map a.eval, ?_, ?_⟩
              · simp only [execOp, resolve, hxe, Sem.run_bind, Sem.run_pure, Result.andThen_ok, invoke]
                exact callMethod_enter w hmb v' _ hfn hmk.body hmk.name
              · simp only [Array.toList_append, Array.toList_map, VRelL]
                exact ⟨_, _, rfl, hv, hargs⟩
            · cases he
          · cases he
        · cases he
      · cases he
    · cases he

end
end Go.Proofs.YtfempmlelmdhbaaGreat.VM
