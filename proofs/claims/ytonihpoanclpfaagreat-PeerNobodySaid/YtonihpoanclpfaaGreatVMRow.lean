/- VMRow: a part of a verified evaluator of the model's code (or of its run), used for this seat's laws; it has no conditions. -/
import Derived.Test.YtonihpoanclpfaaGreatVMMain
import Derived.WideShapes
set_option linter.all false
namespace Go.Proofs.YtonihpoanclpfaaGreat.VM
open Go Go.RowKit Go.WideShapes
variable {P : Program} {T : Tb}

/-- Before the run: the VM's heap is empty. -/
theorem start_sim (w : World) : Sim w.heap.size (fun _ => none) ⟨.nil, 0⟩ w where
  cells := fun b bi ro cs h => by cases h
  leaf := fun b ro cs h => by
    have e : VH.get ⟨.nil, 0⟩ b = .dead := rfl
    rw [e] at h; cases h
  maps := fun b bi kvs h => by cases h
  disj := fun b b' bi bi' _ h => by cases h
  low := fun b bi h => by cases h
  wf := fun b _ => rfl
  small := by simp
  base := Nat.le_refl _

/-- The run of a law from the empty heap. -/
theorem calls_true (ok : T.Ok P) {N : Nat} {f : FuncId} {args : List VV} {xs : Array Value} (hr : saysTrue (vrun T N (.call f args ⟨.nil, 0⟩)) = true)
    (hargs : VRelL (fun _ => none) args xs.toList) (w : World) :
    Calls P f xs w fun e w' => e = .returned (.bool true) ∧ Below w.heap.size w w' := by
  obtain ⟨h', hr⟩ := saysTrue_spec hr
  refine (call_ok ok N f args ⟨.nil, 0⟩ (.bool true) h' hr w.heap.size (fun _ => none) w xs (start_sim w) hargs).mono fun e w' ⟨x, β', he, hv, ha⟩ => ?_
  simp only [VRel] at hv
  exact ⟨by rw [he, hv], ha.below⟩

/-- The kind of a cell that holds a whole number. -/
def intK (P : Program) (u : TypeId) : Option IntKind :=
  match P.underlying u with
  | some (.int k) => some k
  | _ => none
theorem intK_spec {u : TypeId} {k : IntKind} (h : intK P u = some k) : P.underlying u = some (.int k) := by
  unfold intK at h
  split at h
  · rename_i k' e; cases h; exact e
  · cases h
def allK (P : Program) : List TypeId → List IntKind → Bool
  | [], [] => true
  | u :: us, k :: ks => (match intK P u with | some k' => decide (k' = k) | none => false) && allK P us ks
  | _, _ => false
theorem allK_get : ∀ {us : List TypeId} {ks : List IntKind}, allK P us ks = true → us.length = ks.length ∧ ∀ (j : Nat) u, us[j]? = some u → ∃ k, ks[j]? = some k ∧ P.underlying u = some (.int k)
  | [], [], _ => ⟨rfl, fun j u h => by simp at h⟩
  | [], _ :: _, h => by simp [allK] at h
  | _ :: _, [], h => by simp [allK] at h
  | u :: us, k :: ks, h => by
    simp only [allK, Bool.and_eq_true] at h
    obtain ⟨h1, h2⟩ := h
    obtain ⟨hl, hg⟩ := allK_get h2
    refine ⟨by simp [hl], fun j v hv => ?_⟩
    cases j with
    | zero =>
      simp at hv; subst hv
      refine ⟨k, by simp, ?_⟩
      split at h1
      · rename_i k' e; simp at h1; subst h1; exact intK_spec e
      · cases h1
    | succ j => simp at hv; obtain ⟨k', hk, hu⟩ := hg j v hv; exact ⟨k', by simpa using hk, hu⟩
/-- A struct whose every cell is a whole number, of these kinds. -/
def intCells (P : Program) (t : TypeId) (ks : List IntKind) : Bool :=
  (match P.underlying t with | some (.struct _) => true | _ => false) && (P.cellsOf t == ks.length) &&
    (match P.cellTypes P.depth t with | some us => allK P us ks | none => false)

def intVals : List IntKind → Nat → (Nat → Int) → List VV
  | [], _, _ => []
  | k :: ks, i, f => .int k (f i) :: intVals ks (i + 1) f
theorem intVals_rel {β : Bt} {f : Nat → Int} : ∀ {ks : List IntKind} {xs : List Value} {i : Nat}, xs.length = ks.length → (∀ (j : Nat) k, ks[j]? = some k → xs[j]? = some (.int k (f (i + j)))) → VRelL β (intVals ks i f) xs
  | [], [], _, _, _ => by simp [intVals, VRelL]
  | [], _ :: _, _, h, _ => by simp at h
  | _ :: _, [], _, h, _ => by simp at h
  | k :: ks, x :: xs, i, hl, hg => by
    simp only [intVals, VRelL]
    refine ⟨x, xs, rfl, ?_, intVals_rel (by simpa using hl) fun j k' hk => ?_⟩
    · have := hg 0 k (by simp)
      simp at this
      simp only [VRel]; exact this
    · have := hg (j + 1) k' (by simpa using hk)
      simp at this
      rw [this]; congr 2; congr 1; omega

theorem open_intCells {t : TypeId} {ks : List IntKind} (hc : intCells P t ks = true) {w : World} {r : Reach} {base : Nat} {v : Value} (h : Value.okWide P w r base t v) :
    ∃ f : Nat → Int, ∀ β : Bt, VRel β (.agg (intVals ks 0 f)) v := by
  simp only [intCells, Bool.and_eq_true, beq_iff_eq] at hc
  obtain ⟨⟨h1, h2⟩, h3⟩ := hc
  split at h1
  case h_2 => cases h1
  rename_i fs ht
  split at h3
  case h_2 => cases h3
  rename_i us hu
  obtain ⟨hlen, hg⟩ := allK_get h3
  simp only [Value.okWide, ht] at h
  obtain ⟨cs, rfl, hsz, us', hu', _, hcell⟩ := h
  rw [hu] at hu'; cases hu'
  refine ⟨fun i => match cs[i]? with | some (.int _ n) => n | _ => 0, fun β => ?_⟩
  simp only [VRel]
  refine ⟨cs, rfl, intVals_rel (by rw [Array.length_toList, hsz, h2]) fun j k hk => ?_⟩
  have hj : j < ks.length := by
    rcases Nat.lt_or_ge j ks.length with h | h
    · exact h
    · rw [List.getElem?_eq_none h] at hk; cases hk
  have hj' : j < cs.size := by omega
  obtain ⟨u, hu2, hcu⟩ := hcell j cs[j] (Array.getElem?_eq_getElem hj')
  rw [Nat.mod_eq_of_lt (by omega)] at hu2
  obtain ⟨k', hk', hund⟩ := hg j u hu2
  rw [hk] at hk'; cases hk'
  have ho : Value.okWide P w r base u cs[j] := by simpa only [Value.okWide, hund] using hcu
  obtain ⟨n, hn⟩ := okWide_int hund ho
  have e : cs[j]? = some (.int k n) := by rw [Array.getElem?_eq_getElem hj', hn]
  rw [Array.getElem?_toList, Nat.zero_add, e]
end Go.Proofs.YtonihpoanclpfaaGreat.VM
