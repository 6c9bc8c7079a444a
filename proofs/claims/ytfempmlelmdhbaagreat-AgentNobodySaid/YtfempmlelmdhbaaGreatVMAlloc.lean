/- VMAlloc: a part of a verified evaluator of the model's code (or of its run), used for this seat's laws; it has no conditions. -/
import Derived.Test.YtfempmlelmdhbaaGreatVMRead
set_option linter.all false
namespace Go.Proofs.YtfempmlelmdhbaaGreat.VM
open Go

def ObjRel (β : Bt) : VObj → Obj → Nat → Prop
  | .dead, _, _ => False
  | .cells ro cs, ob, sz => ∃ arr ty fz, ob = .cells arr ty fz ∧ arr.size = sz ∧ (∀ (i : Nat) (v : VV), cs[i]? = some v → ∃ x, arr[i]? = some x ∧ VRel β v x) ∧ (ro = false → fz = (0, 0)) ∧ allLeaf cs = true
  | .map kvs bs cl, ob, _ => ∃ es clock, ob = .map es clock ∧ MapR β kvs bs cl es clock
  | .iter m since seen last, ob, _ => ∃ m', ob = .mapIter m' since seen.toArray last ∧ ItR β m m'

theorem rep_length {α : Type} (l : List α) : ∀ n, (rep n l).length = n * l.length
  | 0 => by simp [rep]
  | n + 1 => by simp [rep, rep_length l n, Nat.add_mul, Nat.add_comm]
theorem rep_get {α : Type} (l : List α) : ∀ (n i : Nat), i < n * l.length → (rep n l)[i]? = l[i % l.length]?
  | 0, i, h => by simp at h
  | n + 1, i, h => by
    simp only [rep]
    by_cases hi : i < l.length
    · rw [List.getElem?_append_left hi, Nat.mod_eq_of_lt hi]
    · have hi' : l.length ≤ i := by omega
      rw [List.getElem?_append_right hi', rep_get l n (i - l.length) (by rw [Nat.add_mul] at h; omega)]
      rw [Nat.mod_eq_sub_mod hi']

section
variable {P : Program} {T : Tb} {β : Bt} (w : World)

theorem i64_small {n : Int} (h0 : -9223372036854775808 ≤ n) (h1 : n < 9223372036854775808) : IntKind.i64.wrap n = n := by
  simp [IntKind.wrap, IntKind.bits, IntKind.signed]
  omega
theorem rep_leaf {l : List VV} (h : allLeaf l = true) : ∀ n, allLeaf (rep n l) = true
  | 0 => rfl
  | n + 1 => by
    simp only [rep]
    exact allLeaf_of fun v hv => by
      rcases List.mem_append.1 hv with h1 | h1
      · exact allLeaf_mem h v h1
      · exact allLeaf_mem (rep_leaf h n) v h1
theorem rep_rel {zc : List VV} {z : Array Value} (h : VRelL β zc z.toList) (n : Nat) : VRelL β (rep n zc) ((Array.range (n * z.size)).map fun i => z[i % z.size]!).toList := by
  have hl := h.length
  simp only [Array.length_toList] at hl
  refine VRelL.mk (by simp [rep_length, hl]) fun i v hv => ?_
  have hi : i < n * zc.length := by
    rw [← rep_length]
    rcases Nat.lt_or_ge i (rep n zc).length with hc | hc
    · exact hc
    · rw [List.getElem?_eq_none hc] at hv; cases hv
  rw [rep_get zc n i hi] at hv
  obtain ⟨x, hx, hr⟩ := h.get hv
  refine ⟨x, ?_, hr⟩
  rw [hl] at hi hx
  have hpos : 0 < z.size := by
    rcases Nat.eq_zero_or_pos z.size with h0 | h0
    · rw [h0, Nat.mul_zero] at hi; omega
    · exact h0
  have hm : i % z.size < z.size := Nat.mod_lt _ hpos
  rw [Array.getElem?_toList] at hx
  rw [Array.getElem?_toList, Array.getElem?_map, Array.getElem?_range, if_pos hi]
  simp only [Option.map_some, Option.some.injEq]
  rw [getElem!_pos z (i % z.size) hm]
  rw [Array.getElem?_eq_getElem hm] at hx
  exact Option.some.inj hx

theorem bytesVV_rel : ∀ (l : List UInt8), VRelL β (bytesVV l) (l.map fun b => .int .u8 b.toNat)
  | [] => rfl
  | b :: bs => VRelL.cons rfl (bytesVV_rel bs)
theorem bytesVV_leaf : ∀ (l : List UInt8), allLeaf (bytesVV l) = true
  | [] => rfl
  | b :: bs => by simp only [bytesVV, allLeaf, VV.leaf]; exact bytesVV_leaf bs
theorem bytesVV_length : ∀ (l : List UInt8), (bytesVV l).length = l.length
  | [] => rfl
  | b :: bs => by simp [bytesVV, bytesVV_length bs]

theorem relL_arr {cs : List VV} {arr : Array Value} (h : VRelL β cs arr.toList) : ∀ (i : Nat) (v : VV), cs[i]? = some v → ∃ x, arr[i]? = some x ∧ VRel β v x := by
  intro i v hv
  obtain ⟨x, hx, hr⟩ := h.get hv
  exact ⟨x, by rw [← Array.getElem?_toList]; exact hx, hr⟩

structure World.Like (w w1 : World) : Prop where
  tape : w1.tape = w.tape
  os : w1.os = w.os
  output : w1.output = w.output

theorem heap_freeze_push (hp : Array Obj) (o : Obj) (f : Obj → Obj) : (hp.push o).modify hp.size f = hp.push (f o) := by
  apply Array.ext_getElem?
  intro i
  rw [Array.getElem?_modify, Array.getElem?_push, Array.getElem?_push]
  by_cases h : i = hp.size
  · subst h; simp
  · simp [h]; intro e; exact (h e.symm).elim

theorem run_markStringish_new (arr : Array Value) (e : TypeId) (k : World) (hk : k.heap = w.heap.push (.cells arr e)) :
    (markStringish ⟨w.heap.size, 0, none⟩).run P k = .ok () { k with heap := w.heap.push (.cells arr e (arr.size, arr.size + 1)) } := by
  have hsh : k.shape? w.heap.size = some (e, arr.size) := by simp [World.shape?, hk]
  simp only [markStringish, Sem.run_bind, run_shape, hsh, Result.andThen_ok, run_freeze, World.freeze, Nat.one_ne_zero, if_false, hk, heap_freeze_push]
  simp

variable (ok : T.Ok P)
include ok

theorem valloc_run {n : Nat} {tm : Tm} {a : Act} (r : TmRel β n tm a.tmps) (o : Oper) {ob : VObj} {mk : Nat → VV} (h : valloc T tm o.op = some (ob, mk)) :
    ∃ (w1 : World) (rob : Obj) (x : Value) (sz : Nat), (execOp a.eval o).run P w = .ok (.value x) w1 ∧ w1.heap = w.heap.push rob ∧ World.Like w w1 ∧ ObjRel β ob rob sz ∧
      ∀ (β' : Bt) (b : Nat), β' b = some ⟨w.heap.size, 0, sz⟩ → VRel β' (mk b) x := by
  obtain ⟨dst, op, type, pos, after, guard⟩ := o
  simp only at h
  cases op <;> simp only [valloc, reduceCtorEq] at h
  case alloc e =>
    split at h
    · rename_i i hi
      obtain ⟨d, inf, z, hd, hinf, hz, hzv, hzs, hs, hb, hde, hw, he⟩ := (ok.info hi).ex
      split at h
      · rename_i hl
        cases h
        refine ⟨w.alloc (.cells z.cells e), _, .pointer (some ⟨w.heap.size, 0, none⟩), z.cells.size, ?_, rfl, ⟨rfl, rfl, rfl⟩, ⟨_, _, _, rfl, rfl, ?_, fun _ => rfl, hl⟩, fun β' b hb => ⟨_, hb, rfl⟩⟩
        · simp [execOp, Instr.alloc, zeroValue, typeInfo, hinf, hz, newVar, newRow]
        · exact relL_arr (toVV_rel β z i.zero hzv).cells
      · cases h
    · cases h
  case box e x =>
    split at h
    · rename_i v hv
      split at h
      · rename_i hl
        cases h
        have hr := veval_rel r hv
        refine ⟨w.alloc (.cells (a.eval x).cells e), _, .pointer (some ⟨w.heap.size, 0, none⟩), (a.eval x).cells.size, ?_, rfl, ⟨rfl, rfl, rfl⟩, ⟨_, _, _, rfl, rfl, ?_, fun _ => rfl, hl⟩, fun β' b hb => ⟨_, hb, rfl⟩⟩
        · simp [execOp, Instr.box, newVar, newRow]
        · exact relL_arr hr.cells
      · cases h
    · cases h
  case buildSlice t len parts =>
    split at h
    · rename_i i hi
      obtain ⟨d, inf, z, hd, hinf, hz, hzv, hzs, hs, hb, hde, hw, he⟩ := (ok.info hi).ex
      split at h
      · rename_i e hdd
        rw [hde] at hdd
        cases d <;> simp only [mkVD, reduceCtorEq, VD.slice.injEq] at hdd
        rename_i e'
        subst hdd
        split at h
        · rename_i j ps hj hps
          obtain ⟨d2, inf2, z2, hd2, hinf2, hz2, hzv2, hzs2, hs2, hb2, hde2, hw2, he2⟩ := (ok.info hj).ex
          split at h
          · rename_i cs hle hf
            split at h
            · rename_i hl
              cases h
              obtain ⟨e1, e2⟩ := vparts_rel r hps
              have hzr : VRelL β j.zero.cells z2.cells.toList := (toVV_rel β z2 j.zero hzv2).cells
              have hrep := rep_rel hzr len
              obtain ⟨xs', hx', hr'⟩ := vfill_run (fun i => some (i * j.size, j.size)) (ps' := parts.toList.map fun x => (x.1, a.eval x.2)) hf e1 e2 hrep
              have hle' : len * j.size ≤ 65536 := Nat.le_of_ble_eq_true hle
              have hsz : inf2.size = j.size := hs2.symm
              have h24 : ¬ (len * inf2.size > 2 ^ 24) := by rw [hsz]; omega
              have hlen := hr'.length
              have hcl : cs.length = len * j.size := by
                have : ∀ (ps : List (Nat × VV)) (c c' : List VV), vfill (fun i => some (i * j.size, j.size)) ps c = some c' → c'.length = c.length := by
                  intro ps
                  induction ps with
                  | nil => intro c c' hq; simp only [vfill, Option.some.injEq] at hq; rw [hq]
                  | cons p ps ih =>
                    intro c c' hq
                    obtain ⟨i0, v0⟩ := p
                    simp only [vfill] at hq
                    split at hq
                    · split at hq
                      · rename_i c1 ho
                        obtain ⟨e3, hle3⟩ := over_eq _ _ _ _ ho
                        rw [ih _ _ hq, e3]; simp; omega
                      · cases hq
                    · cases hq
                rw [this _ _ _ hf, rep_length, hzr.length]; simp only [Array.length_toList, hzs2, hsz]
              simp only [Array.length_toList] at hlen
              refine ⟨w.alloc (.cells xs' e'), _, .slice (some ⟨w.heap.size, 0, none⟩) len len, xs'.size, ?_, rfl, ⟨rfl, rfl, rfl⟩, ⟨_, _, _, rfl, rfl, relL_arr hr', fun _ => rfl, hl⟩, fun β' b hb => ⟨_, hb, 0, len, rfl, fun _ => rfl, Nat.le_refl _, ?_, fun c hc => by cases hc; rfl⟩⟩
              · have hx2 : Instr.fill (fun i => some (i * inf2.size, inf2.size)) ((Array.range (len * inf2.size)).map fun i => (if len * inf2.size = 0 then #[] else z2.cells)[i % (if len * inf2.size = 0 then #[] else z2.cells).size]!) (parts.map fun (i, x) => (i, a.eval x)).toList = some xs' := by
                  rw [hsz]
                  have : ((Array.range (len * j.size)).map fun i => (if len * j.size = 0 then #[] else z2.cells)[i % (if len * j.size = 0 then #[] else z2.cells).size]!) = ((Array.range (len * z2.cells.size)).map fun i => z2.cells[i % z2.cells.size]!) := by
                    by_cases h0 : len * j.size = 0
                    · rw [hzs2, hsz]; simp [h0]
                    · simp only [if_neg h0, hzs2, hsz]
                  rw [this]
                  simpa using hx'
                by_cases h0 : len * inf2.size = 0
                · simp only [h0, if_true] at hx2
                  simp only [execOp, Instr.buildSlice, Sem.run_bind, run_underlying hd, Result.andThen_ok, run_sizeOf w hinf2, h0, if_neg (show ¬ ((0 : Nat) > 2 ^ 24) by omega), if_true, Sem.run_pure, hx2, newRow, run_newObj]
                  rfl
                · simp only [h0, if_false] at hx2
                  simp only [execOp, Instr.buildSlice, Sem.run_bind, run_underlying hd, Result.andThen_ok, run_sizeOf w hinf2, if_neg h24, h0, if_false, Sem.run_pure, zeroValue, typeInfo, run_program, hinf2, hz2, hx2, newRow, run_newObj]
                  rfl
              · simp; omega
            · cases h
          · cases h
        · cases h
      · cases h
    · cases h
  case makeSlice t l c =>
    split at h
    · rename_i i k1 n k2 m hi hn hm
      obtain ⟨d, inf, z, hd, hinf, hz, hzv, hzs, hs, hb, hde, hw, he⟩ := (ok.info hi).ex
      split at h
      · rename_i e hdd
        rw [hde] at hdd
        cases d <;> simp only [mkVD, reduceCtorEq, VD.slice.injEq] at hdd
        rename_i e'
        subst hdd
        split at h
        · rename_i j hj
          obtain ⟨d2, inf2, z2, hd2, hinf2, hz2, hzv2, hzs2, hs2, hb2, hde2, hw2, he2⟩ := (ok.info hj).ex
          split at h
          · rename_i hr1 hr2 hl
            cases h
            obtain ⟨h0n, hnm, h1m, hm6⟩ := of_decide_eq_true hr1
            simp only [smallB, Bool.and_eq_true, Nat.ble_eq, Nat.blt_eq] at hr2
            obtain ⟨⟨hz1, hz2', hz3⟩, hz4⟩ := hr2
            have hnv := veval_rel r hn
            have hmv := veval_rel r hm
            simp only [VRel] at hnv hmv
            have hzr : VRelL β j.zero.cells z2.cells.toList := (toVV_rel β z2 j.zero hzv2).cells
            have hrep := rep_rel hzr m.toNat
            have hsz : inf2.size = j.size := hs2.symm
            have hbz : inf2.bytes = j.bytes := hb2.symm
            have hnz : m.toNat * inf2.size ≠ 0 := by
              rw [hsz]; exact Nat.mul_ne_zero (by omega) (by omega)
            have hwn : IntKind.i64.wrap n = n := i64_small (by omega) (by omega)
            have hwm : IntKind.i64.wrap m = m := i64_small (by omega) (by omega)
            have hc1 : ¬ (m < 0 ∨ (inf2.bytes : Int) * m > 2 ^ 48) := by
              rw [hbz]
              have : (j.bytes : Int) * m ≤ 65536 * 65536 := Int.mul_le_mul (by omega) hm6 (by omega) (by omega)
              omega
            have hcnd : (decide (m < 0) || decide ((inf2.bytes : Int) * m > 2 ^ 48) || decide (n < 0) || decide (n > m)) = false := by
              simp only [Bool.or_eq_false_iff, decide_eq_false_iff_not]
              refine ⟨⟨⟨by omega, fun hq => hc1 (.inr hq)⟩, by omega⟩, by omega⟩
            have hin : (asInt (Value.int k1 n)).run P w = .ok n w := by simp [asInt, asIntOf]
            have him : (asInt (Value.int k2 m)).run P w = .ok m w := by simp [asInt, asIntOf]
            have hzs3 : z2.cells.size = j.size := by rw [hzs2, hsz]
            have hlen := hrep.length
            simp only [Array.length_toList, rep_length, hzr.length, Array.size_map, Array.size_range] at hlen
            refine ⟨w.alloc (.cells ((Array.range (m.toNat * z2.cells.size)).map fun i => z2.cells[i % z2.cells.size]!) e'), _, .slice (some ⟨w.heap.size, 0, none⟩) n.toNat m.toNat, _, ?_, rfl, ⟨rfl, rfl, rfl⟩, ⟨_, _, _, rfl, rfl, relL_arr hrep, fun _ => rfl, ?_⟩, fun β' b hb => ⟨_, hb, 0, m.toNat, rfl, fun _ => rfl, by omega, ?_, fun c hc => by cases hc; rfl⟩⟩
            · have hnz' : ¬ (m.toNat * z2.cells.size = 0) := by rw [hzs2]; exact hnz
              have hsame : m.toNat * inf2.size = m.toNat * z2.cells.size := by rw [hzs2]
              simp only [execOp, Instr.makeSlice, Sem.run_bind, run_underlying hd, Result.andThen_ok, hnv, hmv, hin, him, Sem.run_pure, typeInfo, run_program, hinf2, hwn, hwm, hcnd, Bool.false_eq_true, if_false, run_askRoom, run_sizeOf w hinf2, hnz', zeroValue, hz2, newRow, run_newObj, hsame]
              rfl
            · exact rep_leaf hl _
            · simp [hzs3]
          · cases h
        · cases h
      · cases h
    · cases h
  case makeMap t rs =>
    cases rs with
    | some _ => cases h
    | none =>
      cases h
      exact ⟨w.alloc (.map #[] 0), _, .map (some w.heap.size), 0, by simp [execOp, Instr.makeMap], rfl, ⟨rfl, rfl, rfl⟩, ⟨_, _, rfl, rfl, rfl, rfl⟩, fun β' b hb => ⟨_, hb, rfl⟩⟩
  case convert s d x =>
    split at h
    · rename_i is id u str his hid hu
      obtain ⟨ds, infs, zs, hds, _⟩ := (ok.info his).ex
      obtain ⟨dd, infd, zd, hdd, q1, q2, q3, q4, q5, q6, hde, q7, q8⟩ := (ok.info hid).ex
      have hx := veval_rel r hu
      simp only [VRel] at hx
      split at h
      · rename_i e hq
        rw [hde] at hq
        cases dd <;> simp only [mkVD, reduceCtorEq, VD.slice.injEq] at hq
        rename_i e'
        subst hq
        split at h
        · rename_i ei hei
          obtain ⟨d2, inf2, z2, hd2, hinf2, hz2, hzv2, hzs2, hs2, hb2, hde2, hw2, he2⟩ := (ok.info hei).ex
          split at h
          · rename_i hek _ hpos
            rw [hde2] at hek
            cases d2 <;> simp only [mkVD, reduceCtorEq, VD.int.injEq] at hek
            subst hek
            cases h
            have hpos' : 0 < str.size := by simpa [Nat.blt_eq] using hpos
            have hcap := grownCap_ge w str.size 0 e'
            let arr : Array Value := (str.data.map fun b => Value.int .u8 b.toNat) ++ Array.replicate (grownCap w str.size 0 e' - str.size) (.int .u8 0)
            have hasz : arr.size = grownCap w str.size 0 e' := by
              have : str.data.size = str.size := rfl
              simp only [arr, Array.size_append, Array.size_map, Array.size_replicate, this]; omega
            refine ⟨{ w.drew with heap := w.heap.push (.cells arr e' (arr.size, arr.size + 1)) }, _, .slice (some ⟨w.heap.size, 0, none⟩) str.size (grownCap w str.size 0 e'), arr.size, ?_, rfl, ⟨rfl, rfl, rfl⟩, ⟨_, _, _, rfl, rfl, ?_, (fun h => by cases h), bytesVV_leaf _⟩, fun β' b hb => ⟨_, hb, 0, _, rfl, fun _ => rfl, hcap, (by simp only [Nat.zero_add, Nat.mul_one]; omega), (fun c hc => by cases hc)⟩⟩
            · have hg : ((Question.appendCap str.size 0 e').cut (w.tape w.drawn (.appendCap str.size 0 e'))) = grownCap w str.size 0 e' := rfl
              have hms := run_markStringish_new (P := P) w arr e' { w with drawn := w.drawn + 1, heap := w.heap.push (.cells arr e') } rfl
              simp only [execOp, convert, Sem.run_bind, run_underlying hds, run_underlying hdd, run_underlying hd2, Result.andThen_ok, hx, Conv.stringToBytes, run_choose, Question.forced, Bool.false_eq_true, if_false, newRow, run_newObj, Sem.run_pure, hg]
              erw [hms]
              rfl
            · intro i v hv
              have hrel := relL_arr (arr := str.data.map fun b => Value.int .u8 b.toNat) (by simpa using bytesVV_rel (β := β) str.data.toList) i v hv
              obtain ⟨y, hy, hr⟩ := hrel
              refine ⟨y, ?_, hr⟩
              have hlt : i < (str.data.map fun b => Value.int .u8 b.toNat).size := by
                rcases Nat.lt_or_ge i (str.data.map fun b => Value.int .u8 (b.toNat : Int)).size with hc | hc
                · exact hc
                · rw [Array.getElem?_eq_none hc] at hy; cases hy
              rw [Array.getElem?_append_left hlt]; exact hy
          · cases h
        · cases h
      · cases h
    · cases h

end
end Go.Proofs.YtfempmlelmdhbaaGreat.VM
