/- VMAppend: a part of a verified evaluator of the model's code (or of its run), used for this seat's laws; it has no conditions. -/
import Derived.Test.YtfempmlelmdhbaaGreatVMMaps
set_option linter.all false
namespace Go.Proofs.YtfempmlelmdhbaaGreat.VM
open Go Go.RowKit

def isSrcDesc : TypeDesc → Bool
  | .slice _ | .string => true
  | _ => false

theorem smallB_le {n size bytes : Nat} (h : smallB n size bytes = true) : n ≤ 1000000000 ∧ size ≤ 65536 ∧ bytes ≤ 65536 := by
  simp only [smallB, Bool.and_eq_true, Nat.ble_eq] at h
  exact ⟨h.1, h.2.1, h.2.2⟩

section
variable {P : Program} {T : Tb} {B : Nat} {β : Bt} {h : VH} (w : World)

/-- What is appended, as the machine reads it. -/
structure SrcOk (P : Program) (w : World) (size : Nat) (y : Value) (n : Nat) (news : List Value) : Prop where
  len : ∀ k : World, (Builtin.lenOf y).run P k = .ok n k
  cells : ∀ k : World, k.heap = w.heap → (Builtin.firstCells size n y).run P k = .ok news.toArray k
  size : news.length = n * size

theorem cell_sameHeap {w k : World} (h : k.heap = w.heap) (a : Addr) : k.cell? a = w.cell? a := by simp [World.cell?, h]

theorem srcOf_run (S : Sim B β h w) {size : Nat} {y : VV} {y' : Value} {n : Nat} {news : List VV} (hs : srcOf h size y = some (n, news)) (hy : VRel β y y') :
    ∃ xs, SrcOk P w size y' n xs ∧ VRelL β news xs := by
  unfold srcOf at hs
  split at hs
  · cases hs
    simp only [VRel] at hy; subst hy
    exact ⟨[], ⟨fun k => rfl, fun k _ => by simp [Builtin.firstCells], by simp⟩, rfl⟩
  · rename_i b o len cap s
    obtain ⟨bi, hbi, off', cap', rfl, hoff, hlc, hsz, hcc⟩ := hy
    split at hs
    · rename_i hss
      have e1 := Nat.eq_of_beq_eq_true hss
      subst e1
      split at hs
      · rename_i cs hl
        cases hs
        obtain ⟨xs, hr, hlen, hc⟩ := loadN_rel w S hbi hl
        refine ⟨xs, ⟨fun k => rfl, fun k hk => ?_, by rw [← hr.length, hlen]⟩, hr⟩
        refine run_firstCells_some (P := P) k s n ⟨bi.rb, off', none⟩ n cap' xs (by rw [← hr.length, hlen]) fun j v hv => ?_
        rw [cell_sameHeap hk]
        rcases Nat.eq_zero_or_pos n with h0 | h0
        · have : xs.length = 0 := by rw [← hr.length, hlen, h0, Nat.zero_mul]
          rw [List.getElem?_eq_none (by omega)] at hv; cases hv
        · rw [hoff (.inl (by omega))]; exact hc j v hv
      · cases hs
    · cases hs
  · rename_i str
    simp only [VRel] at hy; subst hy
    split at hs
    · rename_i hss
      have e1 := Nat.eq_of_beq_eq_true hss
      subst e1
      cases hs
      refine ⟨str.data.toList.map fun b => .int .u8 b.toNat, ⟨fun k => rfl, fun k _ => ?_, by simp⟩, bytesVV_rel _⟩
      have : str.extract 0 str.size = str := by
        obtain ⟨d⟩ := str
        apply ByteArray.ext
        simp only [ByteArray.data_extract]
        show d.extract 0 d.size = d
        exact Array.extract_size
      simp only [Builtin.firstCells, this, Sem.run_pure]
      congr 1
      apply Array.ext'; simp
    · cases hs
  · cases hs

theorem growBound {need cap : Nat} (h : cap < need) : Builtin.nextslicecap need cap ≤ 2 * need := nextslicecap_le h

/-- append, where there is no room. -/
theorem append_grow {t u ty e : TypeId} {i : TypeInfo} {z : Value} {du : TypeDesc} (ht : P.underlying t = some (.slice e)) (hu : P.underlying u = some du) (hdu : isSrcDesc du = true)
    (hi : P.info? e = some i) (hz : i.zero = some z) (base : Option Addr) (sLen sCap : Nat) (olds : List Value)
    (holds : ∀ k : World, k.heap = w.heap → (Builtin.firstCells i.size sLen (.slice base sLen sCap)).run P k = .ok olds.toArray k)
    {y : Value} {n : Nat} {news : List Value} (hy : SrcOk P w i.size y n news) (hg : sCap < sLen + n) (hsm : sLen + n ≤ 1000000000) (hb : i.bytes ≤ 65536) :
    (Builtin.append_ #[t, u] ty #[.slice base sLen sCap, y]).run P w =
      .ok (.slice (some ⟨w.heap.size, 0, none⟩) (sLen + n) (grownCap w (sLen + n) sCap e))
        (w.drew.alloc (.cells (olds.toArray ++ news.toArray ++ Builtin.zeroCells z.cells (grownCap w (sLen + n) sCap e - (sLen + n))) e)) := by
  have hn : ¬ (sLen + n ≤ sCap) := by omega
  have h63' : ¬ (9223372036854775807 < ((sLen : Int) + (n : Int))) := by omega
  have h48 : Builtin.nextslicecap (sLen + n) sCap * i.bytes ≤ 2 * 1000000000 * 65536 := Nat.mul_le_mul (Nat.le_trans (growBound hg) (by omega)) hb
  have h48' : ¬ (281474976710656 < Builtin.nextslicecap (sLen + n) sCap * i.bytes) := by omega
  have hf := hy.cells w.drew rfl
  have hfo := holds w.drew rfl
  have hlen := hy.len w
  cases du <;> simp only [isSrcDesc, Bool.false_eq_true] at hdu
  all_goals
    simp [Builtin.append_, run_underlying ht, run_underlying hu, sizeOf, typeInfo, zeroValue, hi, hz, hlen, hn, h63', h48', Question.forced, hf, hfo, newRow, grownCap]
    congr 2
    apply Array.ext'
    simp [List.append_assoc]

/-- append, where there is room: the cells behind are written. -/
theorem append_room {t u ty e : TypeId} {i : TypeInfo} {du : TypeDesc} (ht : P.underlying t = some (.slice e)) (hu : P.underlying u = some du) (hdu : isSrcDesc du = true)
    (hi : P.info? e = some i) (g off sLen sCap : Nat) (cur : Array Value) (ct : TypeId) (hg : w.heap[g]? = some (.cells cur ct (0, 0)))
    {y : Value} {n : Nat} {news : List Value} (hy : SrcOk P w i.size y n news) (h1 : ∀ u ∈ news, u.oneCell' = true)
    (hroom : sLen + n ≤ sCap) (hfit : off + sLen * i.size + news.length ≤ cur.size) :
    (Builtin.append_ #[t, u] ty #[.slice (some ⟨g, off, none⟩) sLen sCap, y]).run P w =
      .ok (.slice (some ⟨g, off, none⟩) (sLen + n) sCap) (w.setRow g (cur.toList.take (off + sLen * i.size) ++ news ++ cur.toList.drop (off + sLen * i.size + news.length)).toArray) := by
  have hf := hy.cells w rfl
  have hlen := hy.len w
  have hst := run_storeCells_at P g (off + sLen * i.size) ct news 0 cur w hg (by simpa using hfit) h1
  simp only [Nat.add_zero] at hst
  cases du <;> simp only [isSrcDesc, Bool.false_eq_true] at hdu
  all_goals
    simp [Builtin.append_, run_underlying ht, run_underlying hu, sizeOf, typeInfo, hi, hlen, hroom, hf, add_plain, hst]

/-- append of nothing: the slice itself. -/
theorem append_none {t u ty e : TypeId} {i : TypeInfo} {du : TypeDesc} (ht : P.underlying t = some (.slice e)) (hu : P.underlying u = some du) (hdu : isSrcDesc du = true)
    (hi : P.info? e = some i) (base : Option Addr) (sLen sCap : Nat) (hlc : sLen ≤ sCap)
    {y : Value} (hy : SrcOk P w i.size y 0 []) :
    (Builtin.append_ #[t, u] ty #[.slice base sLen sCap, y]).run P w = .ok (.slice base sLen sCap) w := by
  have hf := hy.cells w rfl
  have hlen := hy.len w
  cases du <;> simp only [isSrcDesc, Bool.false_eq_true] at hdu
  all_goals
    cases base <;> simp [Builtin.append_, run_underlying ht, run_underlying hu, sizeOf, typeInfo, hi, hlen, hlc, hf, storeCells]

theorem append_congr {ats : Array TypeId} {ty t u : TypeId} {args : Array Value} {x y : Value} (h0 : ats[0]? = some t) (h1 : ats[1]? = some u) (h2 : args[0]? = some x) (h3 : args[1]? = some y) :
    Builtin.append_ ats ty args = Builtin.append_ #[t, u] ty #[x, y] := by
  simp [Builtin.append_, h0, h1, h2, h3]

theorem loadN_leaf (S : Sim B β h w) {b o n : Nat} {l : List VV} (hl : loadN h b o n = some l) : allLeaf l = true := by
  unfold loadN at hl
  split at hl
  · rename_i ro cs hcs
    obtain ⟨e, _⟩ := takeN_eq _ _ _ hl
    rw [dropN_eq] at e
    rw [e]
    exact allLeaf_take _ (allLeaf_drop _ (S.leaf b ro cs hcs))
  · cases hl

theorem srcOf_leaf (S : Sim B β h w) {size : Nat} {y : VV} {n : Nat} {news : List VV} (hs : srcOf h size y = some (n, news)) : allLeaf news = true := by
  unfold srcOf at hs
  split at hs
  · cases hs; rfl
  · split at hs
    · split at hs
      · rename_i cs hl; cases hs; exact loadN_leaf w S hl
      · cases hs
    · cases hs
  · split at hs
    · cases hs; exact bytesVV_leaf _
    · cases hs
  · cases hs

/-- What a step that has an effect leaves. -/
structure After (B : Nat) (β : Bt) (h : VH) (w : World) (β' : Bt) (h' : VH) (w' : World) : Prop where
  le : β.le β'
  old : ∀ b, b < h.next → β' b = β b
  sim : Sim B β' h' w'
  below : Below B w w'
  next : h.next ≤ h'.next

theorem noneAbove (S : Sim B β h w) : β h.next = none := by
  cases hq : β h.next with
  | none => rfl
  | some bi => have := (S.low _ _ hq).1; omega

/-- A new row at the end of memory. -/
theorem newRow_after (S : Sim B β h w) (hr : h.room = true) {cs : List VV} {xs : List Value} {arr : Array Value} {e : TypeId} {w1 : World} (hrel : VRelL β cs xs) (hl : allLeaf cs = true)
    (harr : ∀ (i : Nat) (x : Value), xs[i]? = some x → arr[i]? = some x) (hw : w1.heap = w.heap.push (.cells arr e)) (hlk : World.Like w w1) :
    After B β h w (β.add h.next ⟨w.heap.size, 0, arr.size⟩) (h.new (.cells false cs)) w1 := by
  have hroom := room_le hr
  have hn := noneAbove w S
  have S1 := S.newWeak hroom (o := .cells false cs) hl
  have S2 := S1.push hw
  have hg : (h.new (.cells false cs)).get h.next = .cells false cs := by rw [VH.get_new h _ _ (by omega), if_pos rfl]
  have S3 := S2.addAt (nb := h.next) (bi := ⟨w.heap.size, 0, arr.size⟩) hn (Nat.lt_succ_self _) (by
      rw [hg]
      refine ⟨arr, e, (0, 0), ?_, rfl, ?_, fun _ => rfl⟩
      · rw [hw, Array.getElem?_push, if_pos rfl]
      · intro i v hv
        obtain ⟨x, hx, hr⟩ := hrel.get hv
        exact ⟨x, by rw [Nat.zero_add]; exact harr i x hx, hr⟩)
    (fun _ => S.base) (by rw [hw, Array.size_push]; exact Nat.lt_succ_self _) (fun x bx hx _ => Nat.ne_of_lt (S.low x bx hx).2)
  refine ⟨Bt.le_add hn _, fun b hb => Bt.add_ne _ _ (by omega), S3, ⟨hlk.os, hlk.tape, hlk.output, by rw [hw, Array.size_push]; omega, fun k hk => ?_⟩, Nat.le_succ _⟩
  rw [hw, Array.getElem?_push, if_neg (by have := S.base; omega)]

theorem get_append3 {a b : List Value} {c : Array Value} : ∀ (i : Nat) (x : Value), (a ++ b)[i]? = some x → (a.toArray ++ b.toArray ++ c)[i]? = some x := by
  intro i x hx
  have hlt : i < (a ++ b).length := by
    rcases Nat.lt_or_ge i (a ++ b).length with h | h
    · exact h
    · rw [List.getElem?_eq_none h] at hx; cases hx
  rw [Array.getElem?_append_left (by simpa using hlt)]
  simpa using hx

variable (ok : T.Ok P)
include ok

theorem vappend_run (S : Sim B β h w) {t u ty : TypeId} {x y v : VV} {x' y' : Value} {h' : VH} (hv : vappend T.ty h t u x y = some (.val v h')) (hx : VRel β x x') (hy : VRel β y y') :
    ∃ w1 r β', (Builtin.append_ #[t, u] ty #[x', y']).run P w = .ok r w1 ∧ VRel β' v r ∧ After B β h w β' h' w1 := by
  unfold vappend at hv
  split at hv
  · rename_i i iu hi hiu
    obtain ⟨d, inf, z, hd, hinf, hz, hzv, hzs, hs, hb, hde, hw, he⟩ := (ok.info hi).ex
    obtain ⟨du, infu, zu, hdu, hinfu, hzu, hzvu, hzsu, hsu, hbu, hdeu, hwu, heu⟩ := (ok.info hiu).ex
    split at hv
    · rename_i e hdd hdu2
      rw [hde] at hdd
      cases d <;> simp only [mkVD, reduceCtorEq, VD.slice.injEq] at hdd
      rename_i e'
      subst hdd
      have hdu3 : isSrcDesc du = true := by
        rw [hdeu] at hdu2
        cases du <;> simp only [mkVD, reduceCtorEq, Bool.false_eq_true] at hdu2 <;> rfl
      split at hv
      · rename_i j hj
        obtain ⟨d2, inf2, z2, hd2, hinf2, hz2, hzv2, hzs2, hs2, hb2, hde2, hw2, he2⟩ := (ok.info hj).ex
        have esz : inf2.size = j.size := hs2.symm
        have eby : inf2.bytes = j.bytes := hb2.symm
        split at hv
        · rename_i n news hsrc
          obtain ⟨xs, hsok, hrel⟩ := srcOf_run (P := P) w S hsrc hy
          have hnl := srcOf_leaf w S hsrc
          have hsok' : SrcOk P w inf2.size y' n xs := by rw [esz]; exact hsok
          have hxl : xs.length = n * j.size := hsok.size
          split at hv
          · -- onto nil
            simp only [VRel] at hx; subst hx
            split at hv
            · cases hv
              have hx0 : xs = [] := List.length_eq_zero_iff.1 (by rw [hxl, Nat.zero_mul])
              subst hx0
              exact ⟨w, _, β, append_none w hd hdu hdu3 hinf2 none 0 0 (Nat.le_refl _) hsok', rfl, ⟨Bt.le_refl β, fun _ _ => rfl, S, Below.refl B w, Nat.le_refl _⟩⟩
            · rename_i n
              split at hv
              · rename_i hsm hroom
                cases hv
                obtain ⟨q1, q2, q3⟩ := smallB_le hsm
                have hrun := append_grow (ty := ty) w hd hdu hdu3 hinf2 hz2 none 0 0 [] (fun k _ => by simp [Builtin.firstCells]) hsok' (by omega) (by omega) (by rw [eby]; exact q3)
                refine ⟨_, _, _, hrun, ?_, newRow_after w S hroom (xs := xs) hrel hnl (fun i x hx => get_append3 i x (by simpa using hx)) rfl ⟨rfl, rfl, rfl⟩⟩
                refine ⟨_, Bt.add_self _ _ _, 0, grownCap w (0 + (n + 1)) 0 e', by simp only [Nat.zero_add], fun _ => rfl, ?_, ?_, fun c hc => by cases hc⟩
                · have := grownCap_ge w (0 + (n + 1)) 0 e'; omega
                · have := grownCap_ge w (0 + (n + 1)) 0 e'
                  generalize grownCap w (0 + (n + 1)) 0 e' = G at this ⊢
                  simp only [Array.size_append, size_zeroCells, List.size_toArray, hxl, hzs2, esz, List.length_nil, Nat.zero_add]
                  rw [← Nat.add_mul]
                  exact Nat.mul_le_mul_right _ (by omega)
              · cases hv
          · rename_i b o len cap s
            obtain ⟨bi, hbi, off', cap', rfl, hoff, hlc, hsz, hcc⟩ := hx
            split at hv
            · rename_i hss
              have ess := Nat.eq_of_beq_eq_true hss
              subst ess
              split at hv
              · cases hv
                have hx0 : xs = [] := List.length_eq_zero_iff.1 (by rw [hxl, Nat.zero_mul])
                subst hx0
                exact ⟨w, _, β, append_none w hd hdu hdu3 hinf2 _ len cap' hlc hsok', ⟨bi, hbi, off', cap', rfl, hoff, hlc, hsz, hcc⟩, ⟨Bt.le_refl β, fun _ _ => rfl, S, Below.refl B w, Nat.le_refl _⟩⟩
              · rename_i n
                split at hv
                · rename_i olds hlo hsm hroom
                  obtain ⟨q1, q2, q3⟩ := smallB_le hsm
                  have hol := loadN_leaf w S hlo
                  obtain ⟨os, hor, hon, hoc⟩ := loadN_rel w S hbi hlo
                  have holen : os.length = len * j.size := by rw [← hor.length, hon]
                  have hoc' : ∀ (k : World), k.heap = w.heap → (Builtin.firstCells inf2.size len (.slice (some ⟨bi.rb, off', none⟩) len cap')).run P k = .ok os.toArray k := by
                    intro k hk
                    rw [esz]
                    refine run_firstCells_some (P := P) k j.size len ⟨bi.rb, off', none⟩ len cap' os holen fun q v hq => ?_
                    rw [cell_sameHeap hk]
                    rcases Nat.eq_zero_or_pos len with h0 | h0
                    · have : os.length = 0 := by rw [holen, h0, Nat.zero_mul]
                      rw [List.getElem?_eq_none (by omega)] at hq; cases hq
                    · rw [hoff (.inl (by omega))]; exact hoc q v hq
                  have hboth := hor.append hrel
                  have hleaf := allLeaf_append hol hnl
                  have hroom' := room_le hroom
                  -- a new row
                  have grow : cap' < len + (n + 1) → ∃ w1 r, (Builtin.append_ #[t, u] ty #[.slice (some ⟨bi.rb, off', none⟩) len cap', y']).run P w = .ok r w1 ∧
                      ∃ sz, After B β h w (β.add h.next ⟨w.heap.size, 0, sz⟩) (h.new (.cells false (olds ++ news))) w1 ∧ VRel (β.add h.next ⟨w.heap.size, 0, sz⟩) (.slice h.next 0 (len + (n + 1)) none j.size) r := by
                    intro hc
                    have hrun := append_grow (ty := ty) w hd hdu hdu3 hinf2 hz2 (some ⟨bi.rb, off', none⟩) len cap' os hoc' hsok' hc q1 (by rw [eby]; exact q3)
                    refine ⟨_, _, hrun, _, newRow_after w S hroom (xs := os ++ xs) hboth hleaf (fun i x hx => get_append3 i x hx) rfl ⟨rfl, rfl, rfl⟩, ?_⟩
                    refine ⟨_, Bt.add_self _ _ _, 0, _, rfl, fun _ => rfl, ?_, ?_, fun c hc => by cases hc⟩
                    · exact grownCap_ge w (len + (n + 1)) cap' e'
                    · have := grownCap_ge w (len + (n + 1)) cap' e'
                      simp only [Array.size_append, size_zeroCells, List.size_toArray, holen, hxl, hzs2, esz, Nat.zero_add]
                      rw [← Nat.add_mul, ← Nat.add_mul]
                      exact Nat.mul_le_mul_right _ (by omega)
                  -- in place
                  have room : len + (n + 1) ≤ cap' → ∀ c0 cs0, (∀ c, c0 = some c → cap' = c) → h.get b = .cells false cs0 → ∃ w1 r β', (Builtin.append_ #[t, u] ty #[.slice (some ⟨bi.rb, off', none⟩) len cap', y']).run P w = .ok r w1 ∧
                      VRel β' (.slice h.next 0 (len + (n + 1)) c0 j.size) r ∧ After B β h w β' ((h.new (.cells false (olds ++ news))).put b .dead) w1 := by
                    intro hc c0 cs0 hc0 hbc
                    obtain ⟨arr, ct, fz, e1, e2, e3, e4⟩ := S.cells b bi false cs0 hbi hbc
                    obtain ⟨hfz0, hBb⟩ := e4
                    have hfz := hfz0 rfl
                    subst hfz
                    have hfit : off' + len * j.size + xs.length ≤ arr.size := by
                      rw [hxl, Nat.add_assoc, ← Nat.add_mul, e2]
                      exact Nat.le_trans (Nat.add_le_add_left (Nat.mul_le_mul_right _ hc) _) hsz
                    have hrun := append_room (ty := ty) w hd hdu hdu3 hinf2 bi.rb off' len cap' arr ct e1 hsok' (hrel.oneCells hnl) hc (by rw [esz]; exact hfit)
                    have hblt : b < h.next := (S.low b bi hbi).1
                    have hn := noneAbove w S
                    have S1 := S.newWeak hroom' (o := .cells false (olds ++ news)) hleaf
                    have hgn := fun x => VH.get_new h x (.cells false (olds ++ news)) (by omega)
                    have hbg : (h.new (.cells false (olds ++ news))).get b = .cells false cs0 := by rw [hgn, if_neg (by omega)]; exact hbc
                    have S2 := S1.update (o' := .dead) hbi (by rw [hbg]; rfl) trivial (w' := w.setRow bi.rb (arr.toList.take (off' + len * inf2.size) ++ xs ++ arr.toList.drop (off' + len * inf2.size + xs.length)).toArray) trivial
                      (fun r hr => setRow_other w bi.rb r _ hr) (setRow_size w bi.rb _)
                    have hgp := fun x => VH.get_put (h.new (.cells false (olds ++ news))) b x .dead (by omega)
                    have hgnb : ((h.new (.cells false (olds ++ news))).put b .dead).get h.next = .cells false (olds ++ news) := by rw [hgp, if_neg (by omega), hgn, if_pos rfl]
                    have S3 := S2.addAt (nb := h.next) (bi := ⟨bi.rb, off', bi.sz⟩) hn (Nat.lt_succ_self _) (by
                        rw [hgnb]
                        refine ⟨_, ct, (0, 0), setRow_heap w bi.rb arr _ ct (0, 0) e1, ?_, ?_, fun _ => rfl⟩
                        · simp; rw [esz]; omega
                        · intro q v hq
                          obtain ⟨x, hx, hr⟩ := hboth.get hq
                          refine ⟨x, ?_, hr⟩
                          simp only [List.getElem?_toArray, esz]
                          have ht : (arr.toList.take (off' + len * j.size)).length = off' + len * j.size := by simp; omega
                          by_cases h5 : q < len * j.size
                          · rw [List.getElem?_append_left (by omega)] at hx
                            have hl0 : len ≠ 0 := by intro e; rw [e, Nat.zero_mul] at h5; omega
                            have hcell := hoc q x hx
                            rw [add_plain, ← hoff (.inl hl0)] at hcell
                            simp only [World.cell?, e1, Option.isSome_none, Bool.false_eq_true, if_false] at hcell
                            rw [List.append_assoc, List.getElem?_append_left (by omega), List.getElem?_take, if_pos (by omega), Array.getElem?_toList]
                            exact hcell
                          · rw [List.getElem?_append_right (by omega), holen] at hx
                            have hlt : q - len * j.size < xs.length := by
                              rcases Nat.lt_or_ge (q - len * j.size) xs.length with hh | hh
                              · exact hh
                              · rw [List.getElem?_eq_none hh] at hx; cases hx
                            rw [List.append_assoc, List.getElem?_append_right (by omega), ht, List.getElem?_append_left (by omega)]
                            rw [show off' + q - (off' + len * j.size) = q - len * j.size from by omega]
                            exact hx)
                      (fun _ => hBb) (by rw [setRow_size]; exact (S.low b bi hbi).2) (fun x bx hx hl => by
                        rw [hgp] at hl
                        split at hl
                        · cases hl
                        · rename_i hne
                          have hxlt := (S.low x bx hx).1
                          rw [hgn, if_neg (by omega)] at hl
                          exact fun e => S.disj b x bi bx hne hbi hx (by rw [hbc]; rfl) hl e.symm)
                    refine ⟨_, _, β.add h.next ⟨bi.rb, off', bi.sz⟩, hrun, ⟨_, Bt.add_self _ _ _, off', cap', rfl, fun _ => by simp, hc, hsz, hc0⟩, Bt.le_add hn _, fun b hb => Bt.add_ne _ _ (by omega), S3, Below.setRow' (Below.refl B w) hBb _, Nat.le_succ _⟩
                  have kill : ∀ {β' : Bt} {h1 : VH} {w1 : World}, After B β h w β' h1 w1 → After B β h w β' (h1.put b .dead) w1 := by
                    intro β' h1 w1 A
                    have hblt : b < h.next := (S.low b bi hbi).1
                    exact ⟨A.le, A.old, A.sim.kill (Nat.lt_of_lt_of_le hblt A.next), A.below, A.next⟩
                  split at hv
                  · rename_i c
                    have hcc' := hcc c rfl
                    split at hv
                    · rename_i hlt
                      have hlt' : c < len + (n + 1) := by simpa [Nat.blt_eq] using hlt
                      cases hv
                      obtain ⟨w1, r, hr, sz, ha, hvr⟩ := grow (by omega)
                      exact ⟨w1, r, _, hr, hvr, ha⟩
                    · rename_i hlt
                      have hlt' : ¬ (c < len + (n + 1)) := by intro h; rw [show Nat.blt c (len + (n + 1)) = true from by simpa [Nat.blt_eq] using h] at hlt; cases hlt
                      split at hv
                      · rename_i cs0 hbc
                        cases hv
                        exact room (by omega) (some c) cs0 (fun c' hc' => by cases hc'; exact hcc') hbc
                      · cases hv
                  · split at hv
                    · rename_i cs0 hbc
                      cases hv
                      by_cases hc : len + (n + 1) ≤ cap'
                      · exact room hc none cs0 (fun c' hc' => by cases hc') hbc
                      · obtain ⟨w1, r, hr, sz, ha, hvr⟩ := grow (by omega)
                        exact ⟨w1, r, _, hr, hvr, kill ha⟩
                    · cases hv
                · cases hv
            · cases hv
          · cases hv
        · cases hv
      · cases hv
    · cases hv
  · cases hv

end
end Go.Proofs.YtfempmlelmdhbaaGreat.VM
