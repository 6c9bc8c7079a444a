/- VMRow: a part of a verified evaluator of the model's code (or of its run), used for this seat's laws; it has no conditions. -/
import Derived.Test.YtfempmlelmdhbaaGreatVMMain
import Derived.WideShapes
set_option linter.all false
namespace Go.Proofs.YtfempmlelmdhbaaGreat.VM
open Go Go.RowKit Go.WideShapes
variable {P : Program} {T : Tb}

/-- Before the run: the VM's heap is empty. -/
theorem start_sim (w : World) : Sim w.heap.size (fun _ => none) ⟨.nil, 0⟩ w where
  cells := fun b bi ro cs h => by cases h
  leaf := fun b ro cs h => by
    have e : VH.get ⟨.nil, 0⟩ b = .dead := rfl
    rw [e] at h; cases h
  maps := fun b bi kvs bs cl h => by cases h
  iters := fun b bi m since seen last h => by cases h
  disj := fun b b' bi bi' _ h => by cases h
  low := fun b bi h => by cases h
  wf := fun b _ => rfl
  small := by simp
  base := Nat.le_refl _

/-- The run of a law from the empty heap. -/
theorem calls_true (ok : T.Ok P) {N : Nat} {f : FuncId} {args : List VV} {xs : Array Value} (hr : saysTrue (vrun T N (.call f args ⟨.nil, 0⟩)) = true)
    (hargs : VRelL (fun _ => none) args xs.toList) (w : World) :
    Calls P f xs w fun e w' => e = .returned (.bool true) ∧ Below w.heap.size w w' := by
  obtain ⟨h', hr⟩ := saysTrue_spec hr
  refine (call_ok ok N f args ⟨.nil, 0⟩ (.bool true) h' hr w.heap.size (fun _ => none) w xs (start_sim w) hargs).mono fun e w' ⟨x, β', he, hv, ha⟩ => ?_
  simp only [VRel] at hv
  exact ⟨by rw [he, hv], ha.below⟩

/-- The kinds of cells that are opened. -/
inductive CK where
  | int (k : IntKind)
  | bool
  | str
  | slice
def ckOf (P : Program) (u : TypeId) : Option CK :=
  match P.underlying u with
  | some (.int k) => some (.int k)
  | some .bool => some .bool
  | some .string => some .str
  | some (.slice _) => some .slice
  | _ => none
/-- What an input's cells hold: whole numbers, truths and texts, each by its place. -/
structure Ins where
  n : Nat → Int
  b : Nat → Bool
  s : Nat → ByteArray
def ckVal (f : Ins) (i : Nat) : CK → VV
  | .int k => .int k (f.n i)
  | .bool => .bool (f.b i)
  | .str => .str (f.s i)
  | .slice => .oslice
def ckVals : List CK → Nat → Ins → List VV
  | [], _, _ => []
  | k :: ks, i, f => ckVal f i k :: ckVals ks (i + 1) f
def allCK (P : Program) : List TypeId → List CK → Prop
  | [], [] => True
  | u :: us, k :: ks => ckOf P u = some k ∧ allCK P us ks
  | _, _ => False
def ckBeq : CK → CK → Bool
  | .int k, .int l => decide (k = l)
  | .bool, .bool => true
  | .str, .str => true
  | .slice, .slice => true
  | _, _ => false
theorem ck_of_beq {a b : CK} (h : ckBeq a b = true) : a = b := by
  cases a <;> cases b <;> simp [ckBeq] at h
  · rw [h]
  · rfl
  · rfl
  · rfl
def allCKB (P : Program) : List TypeId → List CK → Bool
  | [], [] => true
  | u :: us, k :: ks => (match ckOf P u with | some k' => ckBeq k' k | none => false) && allCKB P us ks
  | _, _ => false
theorem allCK_get : ∀ {us : List TypeId} {ks : List CK}, allCKB P us ks = true → us.length = ks.length ∧ ∀ (j : Nat) u, us[j]? = some u → ∃ k, ks[j]? = some k ∧ ckOf P u = some k
  | [], [], _ => ⟨rfl, fun j u h => by simp at h⟩
  | [], _ :: _, h => by simp [allCKB] at h
  | _ :: _, [], h => by simp [allCKB] at h
  | u :: us, k :: ks, h => by
    simp only [allCKB, Bool.and_eq_true] at h
    obtain ⟨h1, h2⟩ := h
    obtain ⟨hl, hg⟩ := allCK_get h2
    refine ⟨by simp [hl], fun j v hv => ?_⟩
    cases j with
    | zero =>
      simp at hv; subst hv
      refine ⟨k, by simp, ?_⟩
      split at h1
      · rename_i k' e; rw [e, ck_of_beq h1]
      · cases h1
    | succ j => simp at hv; obtain ⟨k', hk, hu⟩ := hg j v hv; exact ⟨k', by simpa using hk, hu⟩
/-- A struct whose every cell is of one of these kinds. -/
def plainCells (P : Program) (t : TypeId) (ks : List CK) : Bool :=
  (match P.underlying t with | some (.struct _) => true | _ => false) && (P.cellsOf t == ks.length) &&
    (match P.cellTypes P.depth t with | some us => allCKB P us ks | none => false)

theorem ckVals_rel {β : Bt} {f : Ins} : ∀ {ks : List CK} {xs : List Value} {i : Nat}, xs.length = ks.length → (∀ (j : Nat) k, ks[j]? = some k → ∃ x, xs[j]? = some x ∧ VRel β (ckVal f (i + j) k) x) → VRelL β (ckVals ks i f) xs
  | [], [], _, _, _ => by simp [ckVals, VRelL]
  | [], _ :: _, _, h, _ => by simp at h
  | _ :: _, [], _, h, _ => by simp at h
  | k :: ks, x :: xs, i, hl, hg => by
    simp only [ckVals, VRelL]
    refine ⟨x, xs, rfl, ?_, ckVals_rel (by simpa using hl) fun j k' hk => ?_⟩
    · obtain ⟨y, hy, hr⟩ := hg 0 k (by simp)
      simp at hy; subst hy; simpa using hr
    · obtain ⟨y, hy, hr⟩ := hg (j + 1) k' (by simpa using hk)
      refine ⟨y, by simpa using hy, ?_⟩
      rw [show i + 1 + j = i + (j + 1) from by omega]; exact hr

theorem open_cells {t : TypeId} {ks : List CK} (hc : plainCells P t ks = true) {w : World} {r : Reach} {base : Nat} {v : Value} (h : Value.okWide P w r base t v) :
    ∃ f : Ins, ∀ β : Bt, VRel β (.agg (ckVals ks 0 f)) v := by
  simp only [plainCells, Bool.and_eq_true, beq_iff_eq] at hc
  obtain ⟨⟨h1, h2⟩, h3⟩ := hc
  split at h1
  case h_2 => cases h1
  rename_i fs ht
  split at h3
  case h_2 => cases h3
  rename_i us hu
  obtain ⟨hlen, hg⟩ := allCK_get h3
  simp only [Value.okWide, ht] at h
  obtain ⟨cs, rfl, hsz, us', hu', _, hcell⟩ := h
  rw [hu] at hu'; cases hu'
  refine ⟨⟨fun i => match cs[i]? with | some (.int _ n) => n | _ => 0, fun i => match cs[i]? with | some (.bool b) => b | _ => false, fun i => match cs[i]? with | some (.string s) => s | _ => ByteArray.empty⟩, fun β => ?_⟩
  simp only [VRel]
  refine ⟨cs, rfl, ckVals_rel (by rw [Array.length_toList, hsz, h2]) fun j k hk => ?_⟩
  have hj : j < ks.length := by
    rcases Nat.lt_or_ge j ks.length with h | h
    · exact h
    · rw [List.getElem?_eq_none h] at hk; cases hk
  have hj' : j < cs.size := by omega
  obtain ⟨u, hu2, hcu⟩ := hcell j cs[j] (Array.getElem?_eq_getElem hj')
  rw [Nat.mod_eq_of_lt (by omega)] at hu2
  obtain ⟨k', hk', hund⟩ := hg j u hu2
  rw [hk] at hk'; cases hk'
  have e0 : cs[j]? = some cs[j] := Array.getElem?_eq_getElem hj'
  refine ⟨cs[j], by rw [Array.getElem?_toList, e0], ?_⟩
  unfold ckOf at hund
  split at hund
  · rename_i k2 hd
    cases hund
    have ho : Value.okWide P w r base u cs[j] := by simpa only [Value.okWide, hd] using hcu
    obtain ⟨n, hn⟩ := okWide_int hd ho
    simp only [ckVal, VRel, Nat.zero_add, e0, hn]
  · rename_i hd
    cases hund
    have ho : Value.okWide P w r base u cs[j] := by simpa only [Value.okWide, hd] using hcu
    obtain ⟨n, hn⟩ := okWide_bool hd ho
    simp only [ckVal, VRel, Nat.zero_add, e0, hn]
  · rename_i hd
    cases hund
    have ho : Value.okWide P w r base u cs[j] := by simpa only [Value.okWide, hd] using hcu
    obtain ⟨n, hn⟩ := okWide_string hd ho
    simp only [ckVal, VRel, Nat.zero_add, e0, hn]
  · rename_i e hd
    cases hund
    have ho : Value.okWide P w r base u cs[j] := by simpa only [Value.okWide, hd] using hcu
    obtain ⟨a, l, c, hn⟩ := okWide_slice hd ho
    simp only [ckVal, VRel]
    exact ⟨(a, l, c), trivial, hn⟩
  · cases hund
end Go.Proofs.YtfempmlelmdhbaaGreat.VM
