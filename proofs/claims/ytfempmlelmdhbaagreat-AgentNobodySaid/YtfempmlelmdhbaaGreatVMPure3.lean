/- VMPure3: a part of a verified evaluator of the model's code (or of its run), used for this seat's laws; it has no conditions. -/
import Derived.Test.YtfempmlelmdhbaaGreatVMPure2
import Derived.Laws.Tables
set_option linter.all false
namespace Go.Proofs.YtfempmlelmdhbaaGreat.VM
open Go

theorem add_plain (g o n : Nat) : (⟨g, o, none⟩ : Addr).add n = ⟨g, o + n, none⟩ := by
  unfold Addr.add
  split
  · rename_i h; rw [h]; rfl
  · rfl

section
variable {P : Program} {T : Tb} {β : Bt} (w : World)

theorem vbound_run {x : VV} {x' : Value} {y n : Nat} (h : vbound x y = some n) (hx : VRel β x x') (code : BoundsCode) (z : Nat) (hz : y ≤ z) :
    (Instr.sliceBound x' z code).run P w = .ok n w ∧ n ≤ y := by
  unfold vbound at h
  split at h
  · rename_i k i
    simp only [VRel] at hx; subst hx
    split at h
    · rename_i m
      split at h
      · rename_i hm
        cases h
        have hm' : n ≤ y := Nat.le_of_ble_eq_true hm
        refine ⟨?_, hm'⟩
        have hc : (0 : Int) ≤ Int.ofNat n ∧ Int.ofNat n ≤ (z : Int) := ⟨by simp, by simp; omega⟩
        simp only [Instr.sliceBound, asIntOf, Sem.run_bind, Sem.run_pure, Result.andThen_ok, if_pos hc]
        rfl
      · cases h
    · cases h
  · cases h

def OptRel (β : Bt) : Option VV → Option Value → Prop
  | none, x => x = none
  | some v, x => ∃ x', x = some x' ∧ VRel β v x'

theorem vbounds_run {len cap' : Nat} {cap : Option Nat} {lo hi mx : Option VV} {lo' hi' mx' : Option Value} {l h : Nat} {m : Option Nat}
    (hb : vbounds len cap lo hi mx = some (l, h, m)) (hlo : OptRel β lo lo') (hhi : OptRel β hi hi') (hmx : OptRel β mx mx') (isS : Bool)
    (hlen : len ≤ cap') (hcap : ∀ c, cap = some c → cap' = c) :
    ∃ mr, (Instr.sliceBounds isS len cap' lo' hi' mx').run P w = .ok (l, h, mr) w ∧ l ≤ h ∧ h ≤ mr ∧ mr ≤ cap' ∧ (∀ c, m = some c → mr = c) ∧ (m = none → h ≤ len) ∧
      (cap = none → h ≤ len ∧ (∀ c, m = some c → c ≤ len)) := by
  unfold vbounds at hb
  split at hb
  · cases hb
  rename_i mv hme
  split at hb
  · cases hb
  rename_i hv hhe
  split at hb
  · cases hb
  rename_i lv hle
  cases hb
  have htop : capOr cap len ≤ cap' := by
    cases cap with
    | none => exact hlen
    | some c => exact Nat.le_of_eq (hcap c rfl).symm
  have hm : ∃ mr, (∀ k, (match mx' with
        | some v => Instr.sliceBound v cap' (if isS = true then .slice3Acap else .slice3Alen)
        | none => pure cap' : Sem Nat).run P k = .ok mr k) ∧ mr ≤ cap' ∧ (∀ c, m = some c → mr = c) ∧ (m = none → mr = cap' ∧ cap = none) ∧ (cap = none → ∀ c, m = some c → c ≤ len) ∧ (mx = none → mr = cap') := by
    cases mx with
    | none =>
      simp only [OptRel] at hmx; subst hmx
      simp only [maxB, Option.some.injEq] at hme
      subst hme
      exact ⟨cap', (fun k => rfl), Nat.le_refl _, hcap, (fun h => ⟨rfl, h⟩), (fun h c hc => by rw [h] at hc; cases hc), (fun _ => rfl)⟩
    | some v =>
      obtain ⟨v', rfl, hv'⟩ := hmx
      simp only [maxB] at hme
      split at hme
      · rename_i mm hq
        cases hme
        have hle' := (vbound_run (P := P) w hq hv' .slice3Acap cap' htop).2
        refine ⟨mm, (fun k => (vbound_run k hq hv' _ cap' htop).1), Nat.le_trans hle' htop, (fun c hc => by cases hc; rfl), (fun h => by cases h), (fun hc c hcc => ?_), (fun h => by cases h)⟩
        subst hc; cases hcc; exact hle'
      · cases hme
  obtain ⟨mr, hmr, hmc, hmv, hmn, hml, hmx0⟩ := hm
  have hh : h ≤ mr ∧ (m = none → h ≤ len) ∧ (cap = none → h ≤ len) ∧
      (∀ k, (match hi', mx' with
        | some v, some _ => Instr.sliceBound v mr .slice3B
        | some v, none => Instr.sliceBound v mr (if isS = true then .sliceAcap else .sliceAlen)
        | none, none => pure len
        | none, some _ => stuck "Slice: max without high" : Sem Nat).run P k = .ok h k) := by
    cases hi with
    | none =>
      simp only [OptRel] at hhi; subst hhi
      cases mx with
      | none =>
        simp only [OptRel] at hmx; subst hmx
        simp only [highB, Option.some.injEq] at hhe
        subst hhe
        exact ⟨by have := hmx0 rfl; omega, fun _ => Nat.le_refl _, fun _ => Nat.le_refl _, fun k => rfl⟩
      | some v => simp [highB] at hhe
    | some v =>
      obtain ⟨v', rfl, hv'⟩ := hhi
      simp only [highB] at hhe
      have htop' : capOr m len ≤ mr := by
        cases hm : m with
        | some c => exact Nat.le_of_eq (hmv c hm).symm
        | none => have := (hmn hm).1; simp only [capOr]; omega
      have hle' := (vbound_run (P := P) w hhe hv' .slice3B mr htop').2
      refine ⟨Nat.le_trans hle' htop', ?_, ?_, ?_⟩
      · intro e; subst e; exact hle'
      · intro e
        cases hm : m with
        | none => rw [hm] at hle'; exact hle'
        | some c => rw [hm] at hle'; exact Nat.le_trans hle' (hml e c hm)
      · intro k
        cases mx with
        | none => simp only [OptRel] at hmx; subst hmx; exact (vbound_run k hhe hv' _ mr htop').1
        | some u => obtain ⟨u', rfl, _⟩ := hmx; exact (vbound_run k hhe hv' _ mr htop').1
  obtain ⟨hhm, hhl, hhc, hhr⟩ := hh
  have hl : l ≤ h ∧
      (∀ k, (match lo' with
        | some v => Instr.sliceBound v h (if mx'.isSome = true then .slice3C else .sliceB)
        | none => pure 0 : Sem Nat).run P k = .ok l k) := by
    cases lo with
    | none => simp only [OptRel] at hlo; subst hlo; simp only [lowB, Option.some.injEq] at hle; subst hle; exact ⟨Nat.zero_le _, fun k => rfl⟩
    | some v =>
      obtain ⟨v', rfl, hv'⟩ := hlo
      simp only [lowB] at hle
      exact ⟨(vbound_run (P := P) w hle hv' .sliceB h (Nat.le_refl _)).2, fun k => (vbound_run k hle hv' _ h (Nat.le_refl _)).1⟩
  obtain ⟨hll, hlr⟩ := hl
  refine ⟨mr, ?_, hll, hhm, hmc, hmv, hhl, fun e => ⟨hhc e, hml e⟩⟩
  have hmr1 := hmr w
  have hhr1 := hhr w
  have hlr1 := hlr w
  clear hmr hhr hlr hlo hhi hmx
  cases mx' <;> cases hi' <;> cases lo' <;> simp only [Option.isSome_none, Option.isSome_some, Bool.false_eq_true, if_false, if_true, Sem.run_pure, run_stuck, reduceCtorEq, Result.ok.injEq, and_true] at hmr1 hhr1 hlr1 <;>
    simp only [Instr.sliceBounds, Sem.run_bind, hmr1, hhr1, hlr1, Result.andThen_ok, Sem.run_pure, Option.isSome_none, Option.isSome_some, Bool.false_eq_true, if_false, if_true]

variable (ok : T.Ok P)
include ok

theorem vslice_run {t : TypeId} {x : VV} {lo hi mx : Option VV} {v : VV} {x' : Value} {lo' hi' mx' : Option Value} (h : vslice T.ty t x lo hi mx = some v)
    (hx : VRel β x x') (hlo : OptRel β lo lo') (hhi : OptRel β hi hi') (hmx : OptRel β mx mx') :
    ∃ r, (Instr.sliceAt t x' lo' hi' mx').run P w = .ok r w ∧ VRel β v r := by
  unfold vslice at h
  split at h
  · cases h
  rename_i i hi0
  obtain ⟨d, inf, z, hd, hinf, hz, hzv, hzs, hs, hb, hde, hw, he⟩ := (ok.info hi0).ex
  rw [hde] at h
  cases d <;> cases x <;> simp only [mkVD, reduceCtorEq] at h
  case string.str s =>
    simp only [VRel] at hx; subst hx
    cases mx with
    | some _ => cases h
    | none =>
      simp only [OptRel] at hmx; subst hmx
      simp only at h
      cases hq : vbounds s.size (some s.size) lo hi none with
      | none => rw [hq] at h; cases h
      | some r =>
        obtain ⟨l, hh, m⟩ := r
        rw [hq] at h
        cases h
        obtain ⟨mr, hr, _⟩ := vbounds_run (P := P) w hq hlo hhi (mx' := none) rfl false (cap' := s.size) (Nat.le_refl _) (fun c hc => by cases hc; rfl)
        exact ⟨_, by simp only [Instr.sliceAt, Instr.slice, Sem.run_bind, run_underlying hd, Result.andThen_ok, Option.isSome_none, Bool.false_eq_true, if_false, hr, Sem.run_pure], rfl⟩
  case slice.nilslice e =>
    simp only [VRel] at hx; subst hx
    split at h
    · rename_i j r hj hq
      cases h
      obtain ⟨d2, inf2, z2, hd2, hinf2, _⟩ := (ok.info hj).ex
      obtain ⟨l, hh, m⟩ := r
      obtain ⟨mr, hr, h1, h2, h3, _⟩ := vbounds_run (P := P) w hq hlo hhi hmx true (cap' := 0) (Nat.le_refl _) (fun c hc => by cases hc; rfl)
      have e1 : mr = 0 := by omega
      have e2 : hh = 0 := by omega
      have e3 : l = 0 := by omega
      subst e1; subst e2; subst e3
      exact ⟨.slice none 0 0, by simp [Instr.sliceAt, Instr.slice, run_underlying hd, hr, sizeOf, typeInfo, hinf2], rfl⟩
    · cases h
  case slice.slice e b o len cap s =>
    obtain ⟨bi, hbi, off', cap', rfl, hoff, hlc, hsz, hcc⟩ := hx
    split at h
    · rename_i j hj
      obtain ⟨d2, inf2, z2, hd2, hinf2, hz2, hzv2, hzs2, hs2, hb2, hde2, hw2, he2⟩ := (ok.info hj).ex
      split at h
      · rename_i hsj
        have hsj' : s = j.size := Nat.eq_of_beq_eq_true hsj
        cases hq : vbounds len cap lo hi mx with
        | none => rw [hq] at h; cases h
        | some r =>
          obtain ⟨l, hh, m⟩ := r
          rw [hq] at h
          cases h
          obtain ⟨mr, hr, h1, h2, h3, h4, h5, h6⟩ := vbounds_run (P := P) w hq hlo hhi hmx true hlc hcc
          have hsize : inf2.size = s := by rw [hsj', hs2]
          refine ⟨.slice (if mr = l then some ⟨bi.rb, off', none⟩ else some ((⟨bi.rb, off', none⟩ : Addr).add (l * s))) (hh - l) (mr - l), ?_, ?_⟩
          · simp only [Instr.sliceAt, Instr.slice, Sem.run_bind, run_underlying hd, Result.andThen_ok, hr, run_sizeOf w hinf2, Sem.run_pure, Option.map_some, hsize]
          · have hadd := add_plain bi.rb off' (l * s)
            refine ⟨bi, hbi, if mr = l then off' else off' + l * s, mr - l, ?_, ?_, by omega, ?_, ?_⟩
            · rw [hadd]; split <;> rfl
            · intro hcond
              have hne : mr ≠ l := by
                rcases hcond with hc | ⟨c, hc, hc0⟩
                · omega
                · cases m with
                  | none => cases hc
                  | some mc =>
                    have := h4 mc rfl
                    simp at hc; omega
              rw [if_neg hne]
              have hoff' : off' = bi.off + o := by
                apply hoff
                cases cap with
                | some c => exact .inr ⟨c, rfl, by have := hcc c rfl; omega⟩
                | none =>
                  obtain ⟨g1, g2⟩ := h6 rfl
                  rcases hcond with hc | ⟨c, hc, hc0⟩
                  · exact .inl (by omega)
                  · cases m with
                    | none => cases hc
                    | some mc =>
                      have := g2 mc rfl
                      simp at hc; exact .inl (by omega)
              omega
            · split
              · rename_i e
                rw [e, Nat.sub_self, Nat.zero_mul, Nat.add_zero]
                exact Nat.le_trans (Nat.le_add_right _ _) hsz
              · have hle : l ≤ mr := by omega
                have : off' + l * s + (mr - l) * s = off' + mr * s := by
                  rw [Nat.add_assoc, ← Nat.add_mul, Nat.add_sub_cancel' hle]
                rw [this]
                exact Nat.le_trans (Nat.add_le_add_left (Nat.mul_le_mul_right s h3) _) hsz
            · intro c hc
              cases m with
              | none => cases hc
              | some mc => have := h4 mc rfl; simp at hc; omega
      · cases h
    · cases h

end
end Go.Proofs.YtfempmlelmdhbaaGreat.VM
