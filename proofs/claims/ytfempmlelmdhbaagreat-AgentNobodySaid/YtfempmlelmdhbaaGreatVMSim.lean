/- VMSim: a part of a verified evaluator of the model's code (or of its run), used for this seat's laws; it has no conditions. -/
import Derived.Test.YtfempmlelmdhbaaGreatVMExec
import Derived.Laws.CopyRow
import Derived.Laws.AppendOwn
set_option linter.all false
namespace Go.Proofs.YtfempmlelmdhbaaGreat.VM
open Go

/-! ### where a virtual block lies -/
structure BI where
  rb : Nat
  off : Nat
  sz : Nat
abbrev Bt := Nat → Option BI
def Bt.le (β β' : Bt) : Prop := ∀ b bi, β b = some bi → β' b = some bi
theorem Bt.le_refl (β : Bt) : β.le β := fun _ _ h => h
theorem Bt.le_trans {a b c : Bt} (h : a.le b) (k : b.le c) : a.le c := fun _ _ x => k _ _ (h _ _ x)
def Bt.add (β : Bt) (b : Nat) (bi : BI) : Bt := fun x => if x = b then some bi else β x
theorem Bt.add_self (β : Bt) (b : Nat) (bi : BI) : β.add b bi b = some bi := by simp [Bt.add]
theorem Bt.add_ne (β : Bt) {b x : Nat} (bi : BI) (h : x ≠ b) : β.add b bi x = β x := by simp [Bt.add, h]
theorem Bt.le_add {β : Bt} {b : Nat} (h : β b = none) (bi : BI) : β.le (β.add b bi) := by
  intro x y hx
  have : x ≠ b := by intro e; rw [e, h] at hx; cases hx
  rw [Bt.add_ne _ _ this]; exact hx

mutual
def VRel (β : Bt) : VV → Value → Prop
  | .bool b, x => x = .bool b
  | .int k n, x => x = .int k n
  | .str s, x => x = .string s
  | .nilptr, x => x = .pointer none
  | .ptr b o, x => ∃ bi, β b = some bi ∧ x = .pointer (some ⟨bi.rb, bi.off + o, none⟩)
  | .nilslice, x => x = .slice none 0 0
  | .slice b o len cap s, x => ∃ bi, β b = some bi ∧ ∃ off' cap', x = .slice (some ⟨bi.rb, off', none⟩) len cap' ∧
      ((len ≠ 0 ∨ ∃ c, cap = some c ∧ c ≠ 0) → off' = bi.off + o) ∧ len ≤ cap' ∧ off' + cap' * s ≤ bi.sz ∧ (∀ c, cap = some c → cap' = c)
  | .nilmap, x => x = .map none
  | .map b, x => ∃ bi, β b = some bi ∧ x = .map (some bi.rb)
  | .nilfunc, x => x = .nilFunc
  | .func f first cap, x => ∃ first' cap', x = .func (.func f) first' cap' ∧ VRelL β first first'.toList ∧ VRelL β cap cap'.toList
  | .niliface, x => x = .nilIface
  | .iface t v, x => ∃ v', x = .iface t v' ∧ VRel β v v'
  | .agg cs, x => ∃ cs', x = .agg cs' ∧ VRelL β cs cs'.toList
  | .tuple vs, x => ∃ vs', x = .tuple vs' ∧ VRelL β vs vs'.toList
  | .oslice, x => ∃ p : Option Addr × Nat × Nat, True ∧ x = .slice p.1 p.2.1 p.2.2
def VRelL (β : Bt) : List VV → List Value → Prop
  | [], xs => xs = []
  | v :: vs, xs => ∃ x xs', xs = x :: xs' ∧ VRel β v x ∧ VRelL β vs xs'
end

mutual
theorem VRel.mono {β β' : Bt} (h : β.le β') : ∀ (v : VV) (x : Value), VRel β v x → VRel β' v x
  | .bool _, x, r => by simp only [VRel] at r ⊢; exact r
  | .int _ _, x, r => by simp only [VRel] at r ⊢; exact r
  | .str _, x, r => by simp only [VRel] at r ⊢; exact r
  | .nilptr, x, r => by simp only [VRel] at r ⊢; exact r
  | .ptr b o, x, r => by
    simp only [VRel] at r ⊢
    obtain ⟨bi, hb, hx⟩ := r
    exact ⟨bi, h _ _ hb, hx⟩
  | .nilslice, x, r => by simp only [VRel] at r ⊢; exact r
  | .slice b o len cap s, x, r => by
    simp only [VRel] at r ⊢
    obtain ⟨bi, hb, hx⟩ := r
    exact ⟨bi, h _ _ hb, hx⟩
  | .nilmap, x, r => by simp only [VRel] at r ⊢; exact r
  | .map b, x, r => by
    simp only [VRel] at r ⊢
    obtain ⟨bi, hb, hx⟩ := r
    exact ⟨bi, h _ _ hb, hx⟩
  | .nilfunc, x, r => by simp only [VRel] at r ⊢; exact r
  | .func f a c, x, r => by
    simp only [VRel] at r ⊢
    obtain ⟨a', c', hx, ha, hc⟩ := r
    exact ⟨a', c', hx, VRelL.mono h a _ ha, VRelL.mono h c _ hc⟩
  | .niliface, x, r => by simp only [VRel] at r ⊢; exact r
  | .oslice, x, r => by simp only [VRel] at r ⊢; exact r
  | .iface t v, x, r => by
    simp only [VRel] at r ⊢
    obtain ⟨v', hx, hv⟩ := r
    exact ⟨v', hx, VRel.mono h v _ hv⟩
  | .agg cs, x, r => by
    simp only [VRel] at r ⊢
    obtain ⟨cs', hx, hv⟩ := r
    exact ⟨cs', hx, VRelL.mono h cs _ hv⟩
  | .tuple cs, x, r => by
    simp only [VRel] at r ⊢
    obtain ⟨cs', hx, hv⟩ := r
    exact ⟨cs', hx, VRelL.mono h cs _ hv⟩
theorem VRelL.mono {β β' : Bt} (h : β.le β') : ∀ (vs : List VV) (xs : List Value), VRelL β vs xs → VRelL β' vs xs
  | [], xs, r => by simp only [VRelL] at r ⊢; exact r
  | v :: vs, xs, r => by
    simp only [VRelL] at r ⊢
    obtain ⟨x, xs', hx, hv, hvs⟩ := r
    exact ⟨x, xs', hx, VRel.mono h v _ hv, VRelL.mono h vs _ hvs⟩
end

theorem VRelL.length {β : Bt} : ∀ {vs : List VV} {xs : List Value}, VRelL β vs xs → vs.length = xs.length
  | [], xs, r => by simp only [VRelL] at r; rw [r]; rfl
  | v :: vs, xs, r => by
    simp only [VRelL] at r
    obtain ⟨x, xs', rfl, _, h⟩ := r
    simp [VRelL.length h]

theorem VRelL.get {β : Bt} : ∀ {vs : List VV} {xs : List Value}, VRelL β vs xs → ∀ {i : Nat} {v : VV}, vs[i]? = some v → ∃ x, xs[i]? = some x ∧ VRel β v x
  | [], xs, _, i, v, h => by simp at h
  | v :: vs, xs, r, i, u, h => by
    simp only [VRelL] at r
    obtain ⟨x, xs', rfl, hv, hvs⟩ := r
    cases i with
    | zero => simp at h; subst h; exact ⟨x, by simp, hv⟩
    | succ i => simp at h; obtain ⟨y, hy, hr⟩ := VRelL.get hvs h; exact ⟨y, by simpa using hy, hr⟩

theorem VRelL.mk {β : Bt} : ∀ {vs : List VV} {xs : List Value}, vs.length = xs.length → (∀ (i : Nat) (v : VV), vs[i]? = some v → ∃ x, xs[i]? = some x ∧ VRel β v x) → VRelL β vs xs
  | [], xs, hl, _ => by cases xs <;> simp at hl; simp [VRelL]
  | v :: vs, xs, hl, h => by
    cases xs with
    | nil => simp at hl
    | cons x xs =>
      obtain ⟨y, hy, hr⟩ := h 0 v (by simp)
      simp at hy; subst hy
      refine ⟨x, xs, rfl, hr, VRelL.mk (by simpa using hl) fun i u hu => ?_⟩
      obtain ⟨z, hz, hr'⟩ := h (i + 1) u (by simpa using hu)
      exact ⟨z, by simpa using hz, hr'⟩

theorem VRelL.append {β : Bt} : ∀ {vs us : List VV} {xs ys : List Value}, VRelL β vs xs → VRelL β us ys → VRelL β (vs ++ us) (xs ++ ys)
  | [], us, xs, ys, r, q => by simp only [VRelL] at r; subst r; simpa using q
  | v :: vs, us, xs, ys, r, q => by
    simp only [VRelL] at r
    obtain ⟨x, xs', rfl, hv, hvs⟩ := r
    exact ⟨x, xs' ++ ys, rfl, hv, VRelL.append hvs q⟩

theorem VRelL.cons {β : Bt} {v : VV} {vs : List VV} {x : Value} {xs : List Value} (h : VRel β v x) (hs : VRelL β vs xs) : VRelL β (v :: vs) (x :: xs) := ⟨x, xs, rfl, h, hs⟩
theorem VRelL.nil {β : Bt} : VRelL β [] [] := rfl
theorem VRelL.cons_inv {β : Bt} {v : VV} {vs : List VV} {xs : List Value} (h : VRelL β (v :: vs) xs) : ∃ x xs', xs = x :: xs' ∧ VRel β v x ∧ VRelL β vs xs' := h
theorem VRelL.nil_inv {β : Bt} {xs : List Value} (h : VRelL β [] xs) : xs = [] := h

theorem takeN_eq {α : Type} : ∀ (n : Nat) (l r : List α), takeN n l = some r → r = l.take n ∧ n ≤ l.length
  | 0, l, r, h => by simp [takeN] at h; subst h; simp
  | n + 1, [], r, h => by simp [takeN] at h
  | n + 1, x :: xs, r, h => by
    simp only [takeN] at h
    split at h
    · rename_i q hq
      cases h
      obtain ⟨e, hl⟩ := takeN_eq n xs q hq
      subst e
      exact ⟨by simp, by simp; omega⟩
    · cases h
theorem dropN_eq {α : Type} : ∀ (n : Nat) (l : List α), dropN n l = l.drop n
  | 0, l => rfl
  | n + 1, [] => by simp [dropN]
  | n + 1, x :: xs => by simp only [dropN, dropN_eq n xs, List.drop_succ_cons]
theorem over_zero {α : Type} : ∀ (vs cs r : List α), over 0 vs cs = some r → r = vs ++ cs.drop vs.length ∧ vs.length ≤ cs.length
  | [], cs, r, h => by simp [over] at h; subst h; simp
  | v :: vs, [], r, h => by simp [over] at h
  | v :: vs, c :: cs, r, h => by
    simp only [over] at h
    split at h
    · rename_i q hq
      cases h
      obtain ⟨e, hl⟩ := over_zero vs cs q hq
      subst e
      exact ⟨by simp, by simp; omega⟩
    · cases h
theorem over_eq {α : Type} : ∀ (o : Nat) (vs cs r : List α), over o vs cs = some r → r = cs.take o ++ vs ++ cs.drop (o + vs.length) ∧ o + vs.length ≤ cs.length
  | 0, vs, cs, r, h => by
    obtain ⟨e, hl⟩ := over_zero vs cs r h
    subst e
    exact ⟨by simp, by omega⟩
  | o + 1, vs, [], r, h => by simp [over] at h
  | o + 1, vs, c :: cs, r, h => by
    simp only [over] at h
    split at h
    · rename_i q hq
      cases h
      obtain ⟨e, hl⟩ := over_eq o vs cs q hq
      subst e
      refine ⟨?_, by simp; omega⟩
      have : o + 1 + vs.length = (o + vs.length) + 1 := by omega
      rw [this]; simp
    · cases h

theorem VRelL.take {β : Bt} (n : Nat) : ∀ {vs : List VV} {xs : List Value}, VRelL β vs xs → VRelL β (vs.take n) (xs.take n) := by
  intro vs xs h
  refine VRelL.mk (by simp [h.length]) fun i v hv => ?_
  rw [List.getElem?_take] at hv
  split at hv
  · rename_i hi
    obtain ⟨x, hx, hr⟩ := h.get hv
    exact ⟨x, by rw [List.getElem?_take, if_pos hi]; exact hx, hr⟩
  · cases hv
theorem VRelL.drop {β : Bt} (n : Nat) : ∀ {vs : List VV} {xs : List Value}, VRelL β vs xs → VRelL β (vs.drop n) (xs.drop n) := by
  intro vs xs h
  refine VRelL.mk (by simp [h.length]) fun i v hv => ?_
  rw [List.getElem?_drop] at hv
  obtain ⟨x, hx, hr⟩ := h.get hv
  exact ⟨x, by rw [List.getElem?_drop]; exact hx, hr⟩

theorem leafVV_rel (β : Bt) (x : Value) (v : VV) (h : leafVV x = some v) : VRel β v x := by
  cases x with
  | pointer a => cases a <;> simp [leafVV] at h; subst h; simp [VRel]
  | slice a n c =>
    cases a with
    | some a => simp [leafVV] at h
    | none =>
      cases n with
      | succ n => simp [leafVV] at h
      | zero =>
        cases c with
        | succ c => simp [leafVV] at h
        | zero => simp [leafVV] at h; subst h; simp [VRel]
  | map r => cases r <;> simp [leafVV] at h; subst h; simp [VRel]
  | _ => simp [leafVV] at h <;> (subst h; simp [VRel])
theorem leavesVV_rel (β : Bt) : ∀ (xs : List Value) (vs : List VV), leavesVV xs = some vs → VRelL β vs xs
  | [], vs, h => by simp [leavesVV] at h; subst h; simp [VRelL]
  | x :: xs, vs, h => by
    simp only [leavesVV] at h
    split at h
    · rename_i v us hv hus
      cases h
      exact VRelL.cons (leafVV_rel β x v hv) (leavesVV_rel β xs us hus)
    · cases h
theorem toVV_rel (β : Bt) (x : Value) (v : VV) (h : toVV x = some v) : VRel β v x := by
  cases x with
  | agg cs =>
    simp only [toVV] at h
    split at h
    · rename_i l hl; cases h; exact ⟨cs, rfl, leavesVV_rel β _ _ hl⟩
    · cases h
  | tuple cs =>
    simp only [toVV] at h
    split at h
    · rename_i hl; cases h; exact ⟨cs, rfl, by rw [hl]; rfl⟩
    · cases h
  | _ => exact leafVV_rel β _ v h

theorem VRel.cells {β : Bt} {v : VV} {x : Value} (h : VRel β v x) : VRelL β v.cells x.cells.toList := by
  cases v <;> simp only [VRel] at h
  case agg cs => obtain ⟨cs', rfl, h⟩ := h; exact h
  case bool => subst h; exact VRelL.cons (by simp [VRel]) VRelL.nil
  case int => subst h; exact VRelL.cons (by simp [VRel]) VRelL.nil
  case str => subst h; exact VRelL.cons (by simp [VRel]) VRelL.nil
  case nilptr => subst h; exact VRelL.cons (by simp [VRel]) VRelL.nil
  case nilslice => subst h; exact VRelL.cons (by simp [VRel]) VRelL.nil
  case nilmap => subst h; exact VRelL.cons (by simp [VRel]) VRelL.nil
  case nilfunc => subst h; exact VRelL.cons (by simp [VRel]) VRelL.nil
  case niliface => subst h; exact VRelL.cons (by simp [VRel]) VRelL.nil
  case ptr => obtain ⟨bi, hb, rfl⟩ := h; exact VRelL.cons ⟨bi, hb, rfl⟩ VRelL.nil
  case map => obtain ⟨bi, hb, rfl⟩ := h; exact VRelL.cons ⟨bi, hb, rfl⟩ VRelL.nil
  case slice => obtain ⟨bi, hb, o', c', rfl, h⟩ := h; exact VRelL.cons ⟨bi, hb, o', c', rfl, h⟩ VRelL.nil
  case func => obtain ⟨a, c, rfl, h⟩ := h; exact VRelL.cons ⟨a, c, rfl, h⟩ VRelL.nil
  case iface => obtain ⟨a, rfl, h⟩ := h; exact VRelL.cons ⟨a, rfl, h⟩ VRelL.nil
  case tuple => obtain ⟨a, rfl, h⟩ := h; exact VRelL.cons ⟨a, rfl, h⟩ VRelL.nil
  case oslice => obtain ⟨p, _, rfl⟩ := h; exact VRelL.cons ⟨p, trivial, rfl⟩ VRelL.nil

theorem VRel.oneCell {β : Bt} {v : VV} {x : Value} (h : VRel β v x) (hl : v.leaf = true) : x.oneCell' = true := by
  cases v <;> simp only [VRel] at h <;> simp [VV.leaf] at hl
  case ptr => obtain ⟨bi, hb, rfl⟩ := h; rfl
  case map => obtain ⟨bi, hb, rfl⟩ := h; rfl
  case slice => obtain ⟨bi, hb, o', c', rfl, h⟩ := h; rfl
  case func => obtain ⟨a, c, rfl, h⟩ := h; rfl
  case iface => obtain ⟨a, rfl, h⟩ := h; rfl
  case oslice => obtain ⟨p, _, rfl⟩ := h; rfl
  all_goals (subst h; rfl)

theorem allLeaf_mem : ∀ {vs : List VV}, allLeaf vs = true → ∀ v ∈ vs, v.leaf = true
  | [], _, v, hv => by simp at hv
  | u :: us, h, v, hv => by
    simp only [allLeaf] at h
    split at h
    · rename_i hu
      rcases List.mem_cons.1 hv with rfl | hv
      · exact hu
      · exact allLeaf_mem h v hv
    · cases h
theorem allLeaf_of : ∀ {vs : List VV}, (∀ v ∈ vs, v.leaf = true) → allLeaf vs = true
  | [], _ => rfl
  | u :: us, h => by
    simp only [allLeaf, h u (by simp)]
    exact allLeaf_of fun v hv => h v (by simp [hv])

theorem VRelL.oneCells {β : Bt} : ∀ {vs : List VV} {xs : List Value}, VRelL β vs xs → allLeaf vs = true → ∀ x ∈ xs, x.oneCell' = true
  | [], xs, r, _, x, hx => by simp only [VRelL] at r; subst r; simp at hx
  | v :: vs, xs, r, hl, x, hx => by
    obtain ⟨y, ys, rfl, hv, hvs⟩ := r
    simp only [allLeaf] at hl
    split at hl
    · rename_i hu
      rcases List.mem_cons.1 hx with rfl | hx
      · exact hv.oneCell hu
      · exact hvs.oneCells hl x hx
    · cases hl

/-! ### memory -/
def KvRel (β : Bt) : List (VV × VV) → List MapEntry → Prop
  | [], es => es = []
  | kv :: kvs, es => ∃ e es', es = e :: es' ∧ VRel β kv.1 e.key ∧ VRel β kv.2 e.val ∧ KvRel β kvs es'

theorem KvRel.mono {β β' : Bt} (h : β.le β') : ∀ {kvs : List (VV × VV)} {es : List MapEntry}, KvRel β kvs es → KvRel β' kvs es
  | [], es, r => r
  | kv :: kvs, es, r => by
    obtain ⟨e, es', he, h1, h2, h3⟩ := r
    exact ⟨e, es', he, VRel.mono h _ _ h1, VRel.mono h _ _ h2, KvRel.mono h h3⟩

/-- A map, with its entries' stamps and its clock. -/
def MapR (β : Bt) (kvs : List (VV × VV)) (bs : List Nat) (cl : Nat) (es : Array MapEntry) (clock : Nat) : Prop :=
  KvRel β kvs es.toList ∧ es.toList.map (·.born) = bs ∧ clock = cl
theorem MapR.mono {β β' : Bt} (h : β.le β') {kvs : List (VV × VV)} {bs : List Nat} {cl : Nat} {es : Array MapEntry} {clock : Nat} (r : MapR β kvs bs cl es clock) : MapR β' kvs bs cl es clock :=
  ⟨KvRel.mono h r.1, r.2⟩
/-- An iterator's map. -/
def ItR (β : Bt) : Option Nat → Option Nat → Prop
  | none, none => True
  | some b, some r => ∃ bi, β b = some bi ∧ r = bi.rb
  | _, _ => False
theorem ItR.mono {β β' : Bt} (h : β.le β') {m m' : Option Nat} (r : ItR β m m') : ItR β' m m' := by
  cases m <;> cases m' <;> simp only [ItR] at r ⊢
  obtain ⟨bi, hb, e⟩ := r
  exact ⟨bi, h _ _ hb, e⟩

def VObj.live : VObj → Bool
  | .dead => false
  | _ => true
def VObj.rw : VObj → Bool
  | .dead => false
  | .cells ro _ => !ro
  | .map .. => true
  | .iter .. => true

structure Sim (B : Nat) (β : Bt) (h : VH) (w : World) : Prop where
  cells : ∀ b bi ro cs, β b = some bi → h.get b = .cells ro cs → ∃ arr ty fz, w.heap[bi.rb]? = some (.cells arr ty fz) ∧ arr.size = bi.sz ∧
    (∀ i v, cs[i]? = some v → ∃ x, arr[bi.off + i]? = some x ∧ VRel β v x) ∧ ((ro = false → fz = (0, 0)) ∧ B ≤ bi.rb)
  leaf : ∀ b ro cs, h.get b = .cells ro cs → allLeaf cs = true
  maps : ∀ b bi kvs bs cl, β b = some bi → h.get b = .map kvs bs cl → ∃ es clock, w.heap[bi.rb]? = some (.map es clock) ∧ MapR β kvs bs cl es clock ∧ B ≤ bi.rb
  iters : ∀ b bi m since seen last, β b = some bi → h.get b = .iter m since seen last → ∃ m', w.heap[bi.rb]? = some (.mapIter m' since seen.toArray last) ∧ (ItR β m m' ∧ bi.off = 0) ∧ B ≤ bi.rb
  disj : ∀ b b' bi bi', b ≠ b' → β b = some bi → β b' = some bi' → (h.get b).rw = true → (h.get b').live = true → bi.rb ≠ bi'.rb
  low : ∀ b bi, β b = some bi → b < h.next ∧ bi.rb < w.heap.size
  wf : ∀ b, h.next ≤ b → h.get b = .dead
  small : h.next ≤ 1000000001
  base : B ≤ w.heap.size

theorem VH.get_put (h : VH) (b x : Nat) (o : VObj) (hb : b < 2 ^ 39) : (h.put b o).get x = if b = x then o else h.get x := by
  simp only [VH.get, VH.put, Tr.get_set 40 h.t b x o (by omega)]
  by_cases e : b = x <;> simp [e]
theorem VH.get_new (h : VH) (x : Nat) (o : VObj) (hb : h.next < 2 ^ 39) : (h.new o).get x = if h.next = x then o else h.get x := by
  simp only [VH.get, VH.new, Tr.get_set 40 h.t h.next x o (by omega)]
  by_cases e : h.next = x <;> simp [e]

theorem room_le {h : VH} (hr : h.room = true) : h.next ≤ 1000000000 := by
  simpa [VH.room, Nat.ble_eq] using hr

/-! ### temporaries -/
structure TmRel (β : Bt) (n : Nat) (tm : Tm) (xs : Array Value) : Prop where
  size : xs.size = n
  small : n < 2 ^ 39
  get : ∀ t, VRel β (tget tm t) (xs.getD t undef)

theorem TmRel.mono {β β' : Bt} (h : β.le β') {n : Nat} {tm : Tm} {xs : Array Value} (r : TmRel β n tm xs) : TmRel β' n tm xs :=
  ⟨r.size, r.small, fun t => VRel.mono h _ _ (r.get t)⟩

theorem tget_tput (tm : Tm) (d t : Nat) (v : VV) (hd : d < 2 ^ 39) : tget (tput tm (some d) v) t = if d = t then v else tget tm t := by
  simp only [tget, tput, Tr.get_set 40 tm d t v (by omega)]
  by_cases e : d = t <;> simp [e]

theorem undef_rel (β : Bt) : VRel β undefV undef := ⟨#[], rfl, rfl⟩

theorem TmRel.put {β : Bt} {n : Nat} {tm : Tm} {a : Act} (r : TmRel β n tm a.tmps) (dst : Option Tmp) (hd : ∀ d, dst = some d → d < n) {v : VV} {x : Value} (h : VRel β v x) :
    TmRel β n (tput tm dst v) (a.put dst x).tmps := by
  cases dst with
  | none => exact r
  | some d =>
    have hd' := hd d rfl
    refine ⟨by simpa [Act.put] using r.size, r.small, fun t => ?_⟩
    rw [tget_tput tm d t v (Nat.lt_trans hd' r.small)]
    have hs : d < a.tmps.size := by rw [r.size]; exact hd'
    by_cases e : d = t
    · subst e
      simp [Act.put, hs, h]
    · have := r.get t
      simp only [Act.put, if_neg e]
      simpa [Array.getD_eq_getD_getElem?, Array.getElem?_setIfInBounds_ne e] using this

theorem veval_rel {β : Bt} {n : Nat} {tm : Tm} {a : Act} (r : TmRel β n tm a.tmps) {o : Operand} {v : VV} (h : veval tm o = some v) : VRel β v (a.eval o) := by
  cases o with
  | tmp t => simp [veval] at h; subst h; exact r.get t
  | const x => exact toVV_rel β x v h
  | global g => simp [veval] at h
  | func f => simp [veval] at h; subst h; exact ⟨#[], #[], rfl, rfl, rfl⟩

theorem vevals_rel {β : Bt} {n : Nat} {tm : Tm} {a : Act} (r : TmRel β n tm a.tmps) : ∀ {os : List Operand} {vs : List VV}, vevals tm os = some vs → VRelL β vs (os.map a.eval)
  | [], vs, h => by simp [vevals] at h; subst h; rfl
  | o :: os, vs, h => by
    simp only [vevals] at h
    split at h
    · rename_i v us hv hus
      cases h
      exact VRelL.cons (veval_rel r hv) (vevals_rel r hus)
    · cases h

end Go.Proofs.YtfempmlelmdhbaaGreat.VM
