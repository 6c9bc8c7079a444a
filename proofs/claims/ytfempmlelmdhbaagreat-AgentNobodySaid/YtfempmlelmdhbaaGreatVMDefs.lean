/- VMDefs: a part of a verified evaluator of the model's code (or of its run), used for this seat's laws; it has no conditions. -/
import Derived.Orders
import Derived.LoopN
import Derived.Below
import Derived.Laws.StructEq
set_option linter.all false
namespace Go.Proofs.YtfempmlelmdhbaaGreat.VM
open Go

/-! ### a tree of places -/
inductive Tr (α : Type) where
  | nil
  | node (a : Option α) (l r : Tr α)

def Tr.get {α : Type} : Tr α → Nat → Option α
  | .nil, _ => none
  | .node a l r, n => match n with
    | 0 => a
    | m + 1 => match Nat.beq (Nat.mod m 2) 0 with
      | true => l.get (Nat.div m 2)
      | false => r.get (Nat.div m 2)

def Tr.top {α : Type} : Tr α → Option α
  | .nil => none
  | .node a _ _ => a
def Tr.lft {α : Type} : Tr α → Tr α
  | .nil => .nil
  | .node _ l _ => l
def Tr.rgt {α : Type} : Tr α → Tr α
  | .nil => .nil
  | .node _ _ r => r

def Tr.set {α : Type} : Nat → Tr α → Nat → α → Tr α
  | 0, t, _, _ => t
  | f + 1, t, n, v => match n with
    | 0 => .node (some v) t.lft t.rgt
    | m + 1 => match Nat.beq (Nat.mod m 2) 0 with
      | true => .node t.top (t.lft.set f (Nat.div m 2) v) t.rgt
      | false => .node t.top t.lft (t.rgt.set f (Nat.div m 2) v)

theorem Tr.get_nil {α : Type} (n : Nat) : (Tr.nil : Tr α).get n = none := by unfold Tr.get; rfl
theorem Tr.get_zero {α : Type} (t : Tr α) : t.get 0 = t.top := by cases t <;> rfl
theorem Tr.get_succ {α : Type} (t : Tr α) (m : Nat) : t.get (m + 1) = if m % 2 = 0 then t.lft.get (m / 2) else t.rgt.get (m / 2) := by
  cases t with
  | nil => simp [Tr.lft, Tr.rgt, Tr.get_nil]
  | node a l r =>
    have e : Nat.beq (Nat.mod m 2) 0 = decide (m % 2 = 0) := by
      rw [Bool.eq_iff_iff]; simp [Nat.beq_eq]; rfl
    simp only [Tr.get, e, Tr.lft, Tr.rgt]
    by_cases h : m % 2 = 0
    · simp [h]; rfl
    · simp [h]; rfl

theorem Tr.get_set {α : Type} (f : Nat) : ∀ (t : Tr α) (n m : Nat) (v : α), n + 1 < 2 ^ f → (t.set f n v).get m = if n = m then some v else t.get m := by
  induction f with
  | zero => intro t n m v h; simp at h
  | succ f ih =>
    intro t n m v h
    cases n with
    | zero =>
      show (Tr.node (some v) t.lft t.rgt).get m = _
      cases m with
      | zero => rfl
      | succ m => rw [Tr.get_succ, Tr.get_succ]; simp [Tr.lft, Tr.rgt]
    | succ n =>
      have e : Nat.beq (Nat.mod n 2) 0 = decide (n % 2 = 0) := by
        rw [Bool.eq_iff_iff]; simp [Nat.beq_eq]; rfl
      have hf : n / 2 + 1 < 2 ^ f := by rw [Nat.pow_succ] at h; omega
      have d : Nat.div n 2 = n / 2 := rfl
      simp only [Tr.set, e, d]
      by_cases hn : n % 2 = 0
      · simp only [hn, decide_true]
        cases m with
        | zero => rw [Tr.get_zero, Tr.get_zero]; simp [Tr.top]
        | succ m =>
          rw [Tr.get_succ, Tr.get_succ]
          simp only [Tr.lft, Tr.rgt]
          by_cases hm : m % 2 = 0
          · simp only [hm, if_true]
            rw [ih _ _ _ _ hf]
            by_cases h2 : n / 2 = m / 2
            · have : n = m := by omega
              simp [this]
            · have : ¬ n = m := by intro h; exact h2 (by rw [h])
              simp [h2, this]
          · have : ¬ n = m := by intro h; rw [h] at hn; exact hm hn
            simp [hm, this]
      · simp only [hn, decide_false]
        cases m with
        | zero => rw [Tr.get_zero, Tr.get_zero]; simp [Tr.top]
        | succ m =>
          rw [Tr.get_succ, Tr.get_succ]
          simp only [Tr.lft, Tr.rgt]
          by_cases hm : m % 2 = 0
          · have : ¬ n = m := by intro h; rw [h] at hn; exact hn hm
            simp [hm, this]
          · simp only [hm, if_false]
            rw [ih _ _ _ _ hf]
            by_cases h2 : n / 2 = m / 2
            · have : n = m := by omega
              simp [this]
            · have : ¬ n = m := by intro h; exact h2 (by rw [h])
              simp [h2, this]

def Tr.ofListFrom {α : Type} : Nat → List α → Tr α → Tr α
  | _, [], t => t
  | i, x :: xs, t => Tr.ofListFrom (i + 1) xs (t.set 40 i x)
def Tr.ofList {α : Type} (l : List α) : Tr α := Tr.ofListFrom 0 l .nil

theorem Tr.get_ofListFrom {α : Type} (l : List α) : ∀ (i : Nat) (t : Tr α) (m : Nat), i + l.length < 2 ^ 39 →
    (Tr.ofListFrom i l t).get m = if i ≤ m ∧ m < i + l.length then l[m - i]? else t.get m := by
  induction l with
  | nil => intro i t m _; simp [Tr.ofListFrom]; intro a b; omega
  | cons x xs ih =>
    intro i t m h
    simp only [Tr.ofListFrom]
    rw [ih (i + 1) _ m (by simp at h; omega), Tr.get_set 40 t i m x (by simp at h; omega)]
    simp only [List.length_cons]
    by_cases h1 : i + 1 ≤ m ∧ m < i + 1 + xs.length
    · rw [if_pos h1, if_pos (by omega)]
      have : m - i = (m - (i + 1)) + 1 := by omega
      rw [this]; simp
    · rw [if_neg h1]
      by_cases h2 : i = m
      · subst h2; simp
      · rw [if_neg h2, if_neg (by omega)]

theorem Tr.get_ofList {α : Type} (l : List α) (m : Nat) (h : l.length < 2 ^ 39) : (Tr.ofList l).get m = l[m]? := by
  unfold Tr.ofList
  rw [Tr.get_ofListFrom l 0 .nil m (by omega)]
  by_cases hm : m < l.length
  · simp [hm]
  · simp [hm, Tr.get_nil]

/-! ### values -/
inductive VV where
  | bool (b : Bool)
  | int (k : IntKind) (n : Int)
  | str (s : ByteArray)
  | nilptr
  | ptr (b o : Nat)
  | nilslice
  | slice (b o len : Nat) (cap : Option Nat) (s : Nat)
  | nilmap
  | map (b : Nat)
  | nilfunc
  | func (f : FuncId) (first cap : List VV)
  | niliface
  | iface (t : TypeId) (v : VV)
  | agg (cs : List VV)
  | tuple (vs : List VV)
  | oslice

def bytesEq : List UInt8 → List UInt8 → Bool
  | [], [] => true
  | a :: as, b :: bs => match Nat.beq a.toNat b.toNat with
    | true => bytesEq as bs
    | false => false
  | _, _ => false
theorem bytesEq_spec : ∀ (a b : List UInt8), bytesEq a b = true ↔ a = b
  | [], [] => by simp [bytesEq]
  | [], _ :: _ => by simp [bytesEq]
  | _ :: _, [] => by simp [bytesEq]
  | a :: as, b :: bs => by
    have h := bytesEq_spec as bs
    simp only [bytesEq]
    cases hb : Nat.beq a.toNat b.toNat with
    | true =>
      have : a = b := UInt8.toNat_inj.1 (Nat.eq_of_beq_eq_true hb)
      simp only [h, this, List.cons.injEq, true_and]
    | false =>
      have : ¬ a = b := by intro e; subst e; rw [show Nat.beq a.toNat a.toNat = true from by simp] at hb; cases hb
      simp [this]
theorem eq_of_bytes {a b : ByteArray} (h : a.data.toList = b.data.toList) : a = b := by
  cases a; cases b; simp at h; rw [h]

mutual
def VV.beq : VV → VV → Bool
  | .bool a, .bool b => a == b
  | .int k a, .int l b => decide (k = l) && decide (a = b)
  | .str a, .str b => bytesEq a.data.toList b.data.toList
  | .nilptr, .nilptr => true
  | .ptr a b, .ptr c d => decide (a = c) && decide (b = d)
  | .nilslice, .nilslice => true
  | .slice a b c d e, .slice a' b' c' d' e' => decide (a = a') && (decide (b = b') && (decide (c = c') && (decide (d = d') && decide (e = e'))))
  | .nilmap, .nilmap => true
  | .map a, .map b => decide (a = b)
  | .nilfunc, .nilfunc => true
  | .func f a b, .func g c d => decide (f = g) && (VV.beqL a c && VV.beqL b d)
  | .niliface, .niliface => true
  | .iface t v, .iface u w => decide (t = u) && VV.beq v w
  | .agg a, .agg b => VV.beqL a b
  | .tuple a, .tuple b => VV.beqL a b
  | .oslice, .oslice => true
  | _, _ => false
def VV.beqL : List VV → List VV → Bool
  | [], [] => true
  | a :: as, b :: bs => VV.beq a b && VV.beqL as bs
  | _, _ => false
end

mutual
theorem VV.eq_of_beq : ∀ (a b : VV), VV.beq a b = true → a = b
  | .bool a, b, h => by cases b <;> simp [VV.beq] at h; rw [h]
  | .int k a, b, h => by cases b <;> simp [VV.beq] at h; rw [h.1, h.2]
  | .str a, b, h => by cases b <;> simp [VV.beq] at h; rw [eq_of_bytes ((bytesEq_spec _ _).1 h)]
  | .nilptr, b, h => by cases b <;> simp [VV.beq] at h; rfl
  | .ptr a c, b, h => by cases b <;> simp [VV.beq] at h; rw [h.1, h.2]
  | .nilslice, b, h => by cases b <;> simp [VV.beq] at h; rfl
  | .slice a c d e g, b, h => by
    cases b <;> simp [VV.beq] at h
    obtain ⟨h1, h2, h3, h4, h5⟩ := h; rw [h1, h2, h3, h4, h5]
  | .nilmap, b, h => by cases b <;> simp [VV.beq] at h; rfl
  | .map a, b, h => by cases b <;> simp [VV.beq] at h; rw [h]
  | .nilfunc, b, h => by cases b <;> simp [VV.beq] at h; rfl
  | .func f a c, b, h => by
    cases b <;> simp [VV.beq] at h
    obtain ⟨h1, h2, h3⟩ := h; rw [h1, VV.eq_of_beqL _ _ h2, VV.eq_of_beqL _ _ h3]
  | .niliface, b, h => by cases b <;> simp [VV.beq] at h; rfl
  | .iface t v, b, h => by
    cases b <;> simp [VV.beq] at h
    rw [h.1, VV.eq_of_beq _ _ h.2]
  | .agg a, b, h => by cases b <;> simp [VV.beq] at h; rw [VV.eq_of_beqL _ _ h]
  | .tuple a, b, h => by cases b <;> simp [VV.beq] at h; rw [VV.eq_of_beqL _ _ h]
  | .oslice, b, h => by cases b <;> simp [VV.beq] at h; rfl
theorem VV.eq_of_beqL : ∀ (a b : List VV), VV.beqL a b = true → a = b
  | [], b, h => by cases b <;> simp [VV.beqL] at h; rfl
  | a :: as, b, h => by
    cases b <;> simp [VV.beqL] at h
    rw [VV.eq_of_beq _ _ h.1, VV.eq_of_beqL _ _ h.2]
end

/-- The cells that a value takes. -/
def VV.cells : VV → List VV
  | .agg cs => cs
  | v => [v]

/-- May it lie in one cell? -/
def VV.leaf : VV → Bool
  | .agg _ | .tuple _ => false
  | _ => true

def leafVV : Value → Option VV
  | .bool b => some (.bool b)
  | .int k n => some (.int k n)
  | .string s => some (.str s)
  | .pointer none => some .nilptr
  | .slice none 0 0 => some .nilslice
  | .map none => some .nilmap
  | .nilFunc => some .nilfunc
  | .nilIface => some .niliface
  | _ => none

def leavesVV : List Value → Option (List VV)
  | [] => some []
  | x :: xs => match leafVV x, leavesVV xs with
    | some v, some vs => some (v :: vs)
    | _, _ => none

def toVV : Value → Option VV
  | .agg cs => match leavesVV cs.toList with
    | some l => some (.agg l)
    | none => none
  | .tuple cs => match cs.toList with
    | [] => some (.tuple [])
    | _ => none
  | v => leafVV v

/-! ### memory -/
inductive VObj where
  | dead
  | cells (ro : Bool) (cs : List VV)
  | map (kvs : List (VV × VV)) (bs : List Nat) (cl : Nat)
  | iter (m : Option Nat) (since : Nat) (seen : List Nat) (last : Nat)

def kvsBeq : List (VV × VV) → List (VV × VV) → Bool
  | [], [] => true
  | (a, b) :: as, (c, d) :: cs => VV.beq a c && (VV.beq b d && kvsBeq as cs)
  | _, _ => false
theorem eq_of_kvsBeq : ∀ (a b : List (VV × VV)), kvsBeq a b = true → a = b
  | [], b, h => by cases b <;> simp [kvsBeq] at h; rfl
  | (x, y) :: as, b, h => by
    cases b with
    | nil => simp [kvsBeq] at h
    | cons z bs =>
      obtain ⟨c, d⟩ := z
      simp [kvsBeq] at h
      rw [VV.eq_of_beq _ _ h.1, VV.eq_of_beq _ _ h.2.1, eq_of_kvsBeq _ _ h.2.2]

def VObj.beq : VObj → VObj → Bool
  | .dead, .dead => true
  | .cells r a, .cells s b => decide (r = s) && VV.beqL a b
  | .map a s c, .map b t d => kvsBeq a b && (decide (s = t) && decide (c = d))
  | .iter a s t c, .iter b u x d => decide (a = b) && (decide (s = u) && (decide (t = x) && decide (c = d)))
  | _, _ => false
theorem VObj.eq_of_beq (a b : VObj) (h : VObj.beq a b = true) : a = b := by
  cases a <;> cases b <;> simp [VObj.beq] at h
  · rfl
  · rw [h.1, VV.eq_of_beqL _ _ h.2]
  · rw [eq_of_kvsBeq _ _ h.1, h.2.1, h.2.2]
  · rw [h.1, h.2.1, h.2.2.1, h.2.2.2]

structure VH where
  t : Tr VObj
  next : Nat

def VH.get (h : VH) (b : Nat) : VObj :=
  match h.t.get b with
  | some o => o
  | none => .dead
def VH.put (h : VH) (b : Nat) (o : VObj) : VH := ⟨h.t.set 40 b o, h.next⟩
/-- A new block. -/
def VH.new (h : VH) (o : VObj) : VH := ⟨h.t.set 40 h.next o, h.next + 1⟩
def VH.room (h : VH) : Bool := Nat.ble h.next 1000000000

end Go.Proofs.YtfempmlelmdhbaaGreat.VM
