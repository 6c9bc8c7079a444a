/- VMAnc: a part of a verified evaluator of the model's code (or of its run), used for this seat's laws; it has no conditions. -/
import Derived.Test.YtfempmlelmdhbaaGreatVMSil
set_option linter.all false
namespace Go.Proofs.YtfempmlelmdhbaaGreat.VM
open Go Go.RowKit

theorem ancGo_spec : ∀ (os : List Oper) (acc : List Nat), (ancGo os acc).length = acc.length + os.length ∧ (ancGo os acc).take acc.length = acc ∧
    ∀ j o, os[j]? = some o → (ancGo os acc)[acc.length + j]? = some (ancStep ((ancGo os acc).take (acc.length + j)) o)
  | [], acc => by simp [ancGo]
  | o :: os, acc => by
    obtain ⟨h1, h2, h3⟩ := ancGo_spec os (acc ++ [ancStep acc o])
    simp only [ancGo]
    have hlen : (acc ++ [ancStep acc o]).length = acc.length + 1 := by simp
    have htake : (ancGo os (acc ++ [ancStep acc o])).take acc.length = acc := by
      have := congrArg (List.take acc.length) h2
      rw [List.take_take, hlen, Nat.min_eq_left (Nat.le_succ _)] at this
      rw [this]; simp
    refine ⟨by rw [h1, hlen]; simp; omega, htake, ?_⟩
    intro j o' ho
    cases j with
    | zero =>
      simp at ho; subst ho
      rw [Nat.add_zero, htake]
      have : (ancGo os (acc ++ [ancStep acc o]))[acc.length]? = ((ancGo os (acc ++ [ancStep acc o])).take (acc ++ [ancStep acc o]).length)[acc.length]? := by
        rw [List.getElem?_take, if_pos (by rw [hlen]; omega)]
      rw [this, h2]; simp
    | succ j =>
      simp at ho
      have := h3 j o' ho
      rw [hlen] at this
      rw [show acc.length + (j + 1) = acc.length + 1 + j from by omega]
      exact this

theorem ancs_length (all : List Oper) : (ancs all).length = all.length := by have := (ancGo_spec all []).1; simpa [ancs] using this
theorem ancs_get (all : List Oper) {i : Nat} {o : Oper} (h : all[i]? = some o) : (ancs all)[i]? = some (ancStep ((ancs all).take i) o) := by
  have := (ancGo_spec all []).2.2 i o h
  simpa [ancs] using this

theorem ancStep_bit (acc : List Nat) (o : Oper) (j : Nat) (h : (ancStep acc o).testBit j = true) :
    ∃ e ∈ o.after.toList, Region.binds .any e = true ∧ (j = e.on ∨ (acc.getD e.on 0).testBit j = true) := by
  unfold ancStep at h
  have gen : ∀ (es : List Edge) (s : Nat), (es.foldl (fun s e => match Region.binds .any e with
      | true => Nat.lor (Nat.lor s (2 ^ e.on)) (acc.getD e.on 0)
      | false => s) s).testBit j = true → s.testBit j = true ∨ ∃ e ∈ es, Region.binds .any e = true ∧ (j = e.on ∨ (acc.getD e.on 0).testBit j = true) := by
    intro es
    induction es with
    | nil => intro s h; exact .inl h
    | cons e es ih =>
      intro s h
      simp only [List.foldl_cons] at h
      rcases ih _ h with h1 | ⟨e', he', hb', hj'⟩
      · cases hb : Region.binds .any e with
        | false => rw [hb] at h1; exact .inl h1
        | true =>
          rw [hb] at h1
          have h2 : ((s ||| 2 ^ e.on) ||| acc.getD e.on 0).testBit j = true := h1
          rw [Nat.testBit_or, Nat.testBit_or, Nat.testBit_two_pow] at h2
          simp only [Bool.or_eq_true, decide_eq_true_eq] at h2
          rcases h2 with (h2 | h2) | h2
          · exact .inl h2
          · exact .inr ⟨e, by simp, hb, .inl h2.symm⟩
          · exact .inr ⟨e, by simp, hb, .inr h2⟩
      · exact .inr ⟨e', by simp [he'], hb', hj'⟩
  rcases gen _ _ h with h1 | h1
  · simp at h1
  · exact h1

/-- What stands ahead of an operation is in each closed set that holds the ends of its edges. -/
theorem anc_closed (all : List Oper) (S : Nat → Prop) (hS : ∀ i o, S i → all[i]? = some o → ∀ e ∈ o.after.toList, Region.binds .any e = true → S e.on) (hlt : ∀ i, S i → i < all.length) :
    ∀ i o, all[i]? = some o → (∀ e ∈ o.after.toList, Region.binds .any e = true → S e.on) → ∀ j, isAnc (ancs all) i j = true → S j := by
  intro i
  induction i using Nat.strongRecOn with
  | _ i ih =>
    intro o ho he j hj
    unfold isAnc at hj
    have hg : (ancs all).getD i 0 = ancStep ((ancs all).take i) o := by
      simp [List.getD, ancs_get all ho]
    rw [hg] at hj
    obtain ⟨e, hem, hb, h1⟩ := ancStep_bit _ _ _ hj
    have hSe := he e hem hb
    rcases h1 with rfl | h1
    · exact hSe
    · by_cases hei : e.on < i
      · have hlt' := hlt _ hSe
        have ho' : all[e.on]? = some all[e.on] := List.getElem?_eq_getElem hlt'
        refine ih e.on hei all[e.on] ho' (hS e.on _ hSe ho') j ?_
        unfold isAnc
        have : ((ancs all).take i).getD e.on 0 = (ancs all).getD e.on 0 := by
          simp only [List.getD, List.getElem?_take, if_pos hei]
        rw [← this]; exact h1
      · have : ((ancs all).take i).getD e.on 0 = 0 := by
          simp only [List.getD, List.getElem?_take, if_neg hei, Option.getD_none]
        rw [this] at h1; simp at h1

theorem permOf_get {all : List Oper} : ∀ {od : List Nat}, (∀ i ∈ od, i < all.length) → (permOf all od).length = od.length ∧ ∀ (p i : Nat), od[p]? = some i → (permOf all od)[p]? = all[i]?
  | [], _ => by simp [permOf]
  | i :: is, h => by
    have hi : i < all.length := h i (by simp)
    obtain ⟨h1, h2⟩ := permOf_get (all := all) (od := is) (fun j hj => h j (by simp [hj]))
    have hg : all[i]? = some all[i] := List.getElem?_eq_getElem hi
    simp only [permOf, hg]
    refine ⟨by simp [h1], ?_⟩
    intro p j hj
    cases p with
    | zero => simp at hj; subst hj; simp
    | succ p => simp at hj; simpa using h2 p j hj

theorem nodupB_spec : ∀ {l : List Nat}, nodupB l = true → l.Nodup
  | [], _ => List.nodup_nil
  | x :: xs, h => by
    simp only [nodupB, Bool.and_eq_true, Bool.not_eq_true', List.contains_eq_mem, decide_eq_false_iff_not] at h
    exact List.nodup_cons.2 ⟨h.1, nodupB_spec h.2⟩

theorem rangeAll_spec {n : Nat} {p : Nat → Bool} (h : rangeAll n p = true) : ∀ i, i < n → p i = true := by
  intro i hi
  exact List.all_eq_true.1 h i (List.mem_range.2 hi)

/-- The static conditions, as facts. -/
structure Static (ty : Tr TI) (all : List Oper) (od : List Nat) : Prop where
  len : od.length = all.length
  nodup : od.Nodup
  full : ∀ i, i < all.length → i ∈ od
  lt : ∀ i ∈ od, i < all.length
  once : ∀ i j d, i < all.length → j < all.length → i ≠ j → dstAt all j = some d → dstAt all i ≠ some d
  named : ∀ i j d o, all[i]? = some o → j < all.length → i ≠ j → dstAt all j = some d → d ∈ namesOf all o → isAnc (ancs all) i j = true ∨ isAnc (ancs all) j i = true
  edges : ∀ p o, (permOf all od)[p]? = some o → ∀ e ∈ o.after.toList, Region.binds .any e = true → e.on ∈ od.take p
  guard : ∀ i o j b, all[i]? = some o → o.guard = some (j, b) → isAnc (ancs all) i j = true
  chain : ∀ p q, p < q → q < all.length → effAt ty (permOf all od) q = true → effAt ty (permOf all od) p = true → isAnc (ancs all) (od.getD q 0) (od.getD p 0) = true
  alloc : ∀ p q, p < q → q < all.length → allocAt ty (permOf all od) q = true → effAt ty (permOf all od) p = true → isAnc (ancs all) (od.getD q 0) (od.getD p 0) = true

theorem drawStatic_spec {ty : Tr TI} {all : List Oper} {od : List Nat} (h : drawStatic ty all od = true) : Static ty all od := by
  unfold drawStatic at h
  simp only [Bool.and_eq_true] at h
  obtain ⟨⟨⟨⟨⟨⟨⟨⟨h1, h2⟩, h3⟩, h4⟩, h5⟩, h6⟩, h7⟩, h8⟩, h9⟩ := h
  have hlt : ∀ i ∈ od, i < all.length := fun i hi => by
    have := List.all_eq_true.1 h4 i hi
    simpa [Nat.blt_eq] using this
  obtain ⟨hpl, hpg⟩ := permOf_get hlt
  have hlen : od.length = all.length := Nat.eq_of_beq_eq_true h1
  refine ⟨hlen, nodupB_spec h2, fun i hi => ?_, hlt, ?_, ?_, ?_, ?_, ?_, ?_⟩
  · have := rangeAll_spec h3 i hi
    simpa using this
  · intro i j d hi hj hne hd
    have h := rangeAll_spec h5 j hj
    simp only [hd] at h
    have h' := rangeAll_spec h i hi
    simp only [Bool.or_eq_true, beq_iff_eq, Bool.and_eq_true, Bool.not_eq_true'] at h'
    rcases h' with e | ⟨h', _⟩
    · exact (hne e).elim
    · intro e
      rw [e] at h'
      simp at h'
  · intro i j d o ho hj hne hd hn
    have hi : i < all.length := by
      rcases Nat.lt_or_ge i all.length with hc | hc
      · exact hc
      · rw [List.getElem?_eq_none hc] at ho; cases ho
    have h := rangeAll_spec h5 j hj
    simp only [hd] at h
    have h' := rangeAll_spec h i hi
    simp only [Bool.or_eq_true, beq_iff_eq, Bool.and_eq_true, Bool.not_eq_true', ho] at h'
    rcases h' with e | ⟨_, (h' | h') | h'⟩
    · exact (hne e).elim
    · rw [List.contains_eq_mem] at h'; simp [hn] at h'
    · exact .inl h'
    · exact .inr h'
  · intro p o ho e he hb
    have hp : p < all.length := by
      rcases Nat.lt_or_ge p all.length with hc | hc
      · exact hc
      · rw [List.getElem?_eq_none (by rw [hpl, hlen]; exact hc)] at ho; cases ho
    have h := rangeAll_spec h6 p hp
    simp only [ho] at h
    have h' := List.all_eq_true.1 h e he
    simp only [hb, Bool.not_true, Bool.false_or, List.contains_eq_mem, decide_eq_true_eq] at h'
    exact h'
  · intro i o j b ho hg
    have hi : i < all.length := by
      rcases Nat.lt_or_ge i all.length with hc | hc
      · exact hc
      · rw [List.getElem?_eq_none hc] at ho; cases ho
    have h := rangeAll_spec h7 i hi
    simpa only [ho, hg] using h
  · intro p q hpq hq he1 he2
    have h := rangeAll_spec h8 q hq
    simp only [he1, Bool.not_true, Bool.false_or] at h
    have h' := rangeAll_spec h p hpq
    simpa only [he2, Bool.not_true, Bool.false_or] using h'
  · intro p q hpq hq he1 he2
    have h := rangeAll_spec h9 q hq
    simp only [he1, Bool.not_true, Bool.false_or] at h
    have h' := rangeAll_spec h p hpq
    simpa only [he2, Bool.not_true, Bool.false_or] using h'

end Go.Proofs.YtfempmlelmdhbaaGreat.VM
