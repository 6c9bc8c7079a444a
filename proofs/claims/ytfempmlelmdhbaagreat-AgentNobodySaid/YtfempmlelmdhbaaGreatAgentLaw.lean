/- The row of the law AgentNobody: its run in the verified evaluator (VM), and the opening and shutting of its arguments. -/
import Derived.Test.YtfempmlelmdhbaaGreatAgentTab
import Derived.Test.YtfempmlelmdhbaaGreatRows
import Derived.WalkKit
import Derived.ProofKit
import Derived.OpenShut
import Derived.ShutString
import Derived.ChangeOld
import Derived.Below
import Derived.SizedLaws
import Derived.Carry
set_option linter.all false
namespace Go.Proofs.YtfempmlelmdhbaaGreat.agentNobody
open Go.ChangeShapes Go.WideShapes Go.ChangeAt Go.RowKit Go.Proofs.YtfempmlelmdhbaaGreat.VM
set_option linter.unusedVariables false
theorem own : ownKnob Tryz.prog.godebug = none := by kernel_rfl
theorem laidOut : laidOutB Tryz.prog = true := by kernel_rfl
theorem cells0 : plainCells Tryz.prog 48 [(.int .i64), (.int .i64), (.int .i64), (.int .i64), (.int .u64), (.int .i64), (.int .u64), (.int .i64), (.int .i64), (.int .u64), (.int .i64), (.int .u64), (.int .u64), (.int .u64), .slice, (.int .i64), (.int .i64), .bool, (.int .i64), (.int .i64), (.int .u64), (.int .i64), (.int .u64), (.int .i64), (.int .i64), (.int .u64), (.int .i64), (.int .u64), .slice, .bool, .bool, (.int .i64), .bool, (.int .i64), (.int .i64), (.int .i64), (.int .i64), (.int .u64), (.int .i64), (.int .i64), (.int .u64), (.int .i64), (.int .u64), (.int .i64), (.int .i64), (.int .u64), (.int .i64), (.int .u64), (.int .i64), (.int .i64), (.int .i64), .bool, (.int .i64), (.int .i64), (.int .u64), (.int .i64), (.int .u64), (.int .i64), (.int .i64), (.int .u64), (.int .i64), (.int .u64), .slice] = true := by kernel_rfl
theorem run (f0 : Ins) : saysTrue (vrun VTab.tb 20000 (.call 3 [.agg (ckVals [(.int .i64), (.int .i64), (.int .i64), (.int .i64), (.int .u64), (.int .i64), (.int .u64), (.int .i64), (.int .i64), (.int .u64), (.int .i64), (.int .u64), (.int .u64), (.int .u64), .slice, (.int .i64), (.int .i64), .bool, (.int .i64), (.int .i64), (.int .u64), (.int .i64), (.int .u64), (.int .i64), (.int .i64), (.int .u64), (.int .i64), (.int .u64), .slice, .bool, .bool, (.int .i64), .bool, (.int .i64), (.int .i64), (.int .i64), (.int .i64), (.int .u64), (.int .i64), (.int .i64), (.int .u64), (.int .i64), (.int .u64), (.int .i64), (.int .i64), (.int .u64), (.int .i64), (.int .u64), (.int .i64), (.int .i64), (.int .i64), .bool, (.int .i64), (.int .i64), (.int .u64), (.int .i64), (.int .u64), (.int .i64), (.int .i64), (.int .u64), (.int .i64), (.int .u64), .slice] 0 f0)] ⟨.nil, 0⟩)) = true := by kernel_rfl
set_option maxRecDepth 100000 in
theorem lifted (os : Os) (started : os.Started) (H : Type) (enc : TypeId × Value → H) :
    ReturnsInHanded {} Tryz.checked os 3 .any (Rows.agentNobodySpec.pre6 enc Tryz.prog Tryz.f3 Rows.agentNobodyRow.domain false) (Rows.agentNobodySpec.post enc Tryz.prog Tryz.f3 false true false false) := by
  refine returnsInHanded_of_change_sized (C := Tryz.checked) own started (by kernel_rfl) Tryz.func3
    (ChangeSpec.witness6 (enc := enc) (C := Tryz.checked) false ⟨#[], #[.agg #[.int .i64 0, .int .i64 0, .int .i64 0, .int .i64 0, .int .u64 0, .int .i64 0, .int .u64 0, .int .i64 0, .int .i64 0, .int .u64 0, .int .i64 0, .int .u64 0, .int .u64 0, .int .u64 0, .slice none 0 0, .int .i64 0, .int .i64 0, .bool false, .int .i64 0, .int .i64 0, .int .u64 0, .int .i64 0, .int .u64 0, .int .i64 0, .int .i64 0, .int .u64 0, .int .i64 0, .int .u64 0, .slice none 0 0, .bool false, .bool false, .int .i64 0, .bool false, .int .i64 0, .int .i64 0, .int .i64 0, .int .i64 0, .int .u64 0, .int .i64 0, .int .i64 0, .int .u64 0, .int .i64 0, .int .u64 0, .int .i64 0, .int .i64 0, .int .u64 0, .int .i64 0, .int .u64 0, .int .i64 0, .int .i64 0, .int .i64 0, .bool false, .int .i64 0, .int .i64 0, .int .u64 0, .int .i64 0, .int .u64 0, .int .i64 0, .int .i64 0, .int .u64 0, .int .i64 0, .int .u64 0, .slice none 0 0]], []⟩ 8 (by kernel_rfl) (by kernel_rfl) (by kernel_rfl) (by kernel_rfl)) ?_
  intro W base args ds gs before hval0 hW hcnd hsz0 _
  have hval : ∀ (j : Nat) t v, Tryz.f3.params[j]? = some t → args[j]? = some v → Value.okWide Tryz.prog W .any base t v := hval0
  have hW' := hW
  obtain ⟨p, q, hA0, hV, rfl, hfz, hnd⟩ := hW
  have hA : DataW.TrodAll enc Tryz.prog W 0 (fun _ => true) true Tryz.f3.params.toList args.toList ds p := hA0
  rw [Tryz.params3] at hA hval
  obtain ⟨v0, vs0, d0, ds0, p0, q0, hargs, rfl, rfl, h0, r0⟩ := trodAll_cons hA
  obtain ⟨rfl, rfl, rfl⟩ := trodAll_nil r0
  obtain rfl : args = #[v0] := by cases args; simp_all
  obtain ⟨rfl, rfl⟩ := trodVars_none hV
  obtain ⟨f0, g0⟩ := open_cells cells0 (hval 0 48 v0 rfl rfl)
  have lt0 : ∀ x ∈ p0, x.block < W.heap.size := by obtain ⟨m, hm⟩ := h0; exact DataW.trod_lt m _ _ _ hm
  clear hA0 hval0 hsz0
  have hrel : VRelL (fun _ => none) [.agg (ckVals [(.int .i64), (.int .i64), (.int .i64), (.int .i64), (.int .u64), (.int .i64), (.int .u64), (.int .i64), (.int .i64), (.int .u64), (.int .i64), (.int .u64), (.int .u64), (.int .u64), .slice, (.int .i64), (.int .i64), .bool, (.int .i64), (.int .i64), (.int .u64), (.int .i64), (.int .u64), (.int .i64), (.int .i64), (.int .u64), (.int .i64), (.int .u64), .slice, .bool, .bool, (.int .i64), .bool, (.int .i64), (.int .i64), (.int .i64), (.int .i64), (.int .u64), (.int .i64), (.int .i64), (.int .u64), (.int .i64), (.int .u64), (.int .i64), (.int .i64), (.int .u64), (.int .i64), (.int .u64), (.int .i64), (.int .i64), (.int .i64), .bool, (.int .i64), (.int .i64), (.int .u64), (.int .i64), (.int .u64), (.int .i64), (.int .i64), (.int .u64), (.int .i64), (.int .u64), .slice] 0 f0)] (#[v0] : Array Value).toList := by
    simp only [VRelL]
    exact ⟨_, _, rfl, g0 _, rfl⟩
  refine (calls_true VTab.tb_ok (run f0) hrel W).mono fun e W' ⟨he, bel⟩ => ?_
  subst he
  exact ⟨_, rfl, _, _, _, [], _, [], hW', trodAll_mk1 (shut_bool (Tryz.underlying4) _), (trodAll_cons_mk (Below.trod laidOut (by kernel_rfl) (of_decide_eq_true (by kernel_rfl)) h0 bel lt0) trodAll_mk0), rfl, bel.frame _, fun h => by cases h⟩
theorem over : Rows.agentNobodyRow.holds Tryz.pinned (OpenSpec.ofChange Rows.agentNobodySpec) :=
  OpenClaim.holds_of_wide 3 Tryz.f3 rfl rfl rfl rfl rfl rfl rfl ⟨rfl, rfl, rfl, rfl, rfl⟩ rfl rfl rfl rfl rfl (by kernel_rfl) Tryz.func3 (by kernel_rfl)
    (of_decide_eq_true (by kernel_rfl)) (by unfold Func.isWrapper; first | (rw [if_pos (by decide +kernel)]; kernel_rfl) | (rw [if_neg (by decide +kernel)]; exact ⟨rfl, rfl⟩))
    (fun os started H enc _ => lifted os started H enc)
theorem proved : Rows.AgentNobodySaid := over
end Go.Proofs.YtfempmlelmdhbaaGreat.agentNobody
namespace Go.Proofs.YtfempmlelmdhbaaGreat
/-- The row, under a short name, for the claim. -/
theorem agentNobody_holds : Rows.AgentNobodySaid := agentNobody.proved
end Go.Proofs.YtfempmlelmdhbaaGreat

