/- VMPure4: a part of a verified evaluator of the model's code (or of its run), used for this seat's laws; it has no conditions. -/
import Derived.Test.YtfempmlelmdhbaaGreatVMPure3
set_option linter.all false
namespace Go.Proofs.YtfempmlelmdhbaaGreat.VM
open Go

section
variable {P : Program} {T : Tb} {β : Bt} (w : World)

/-! ### literals -/
def setsFrom (off : Nat) : Nat → List Value → Array Value → Array Value
  | _, [], cs => cs
  | j, c :: l, cs => setsFrom off (j + 1) l (cs.setIfInBounds (off + j) c)

theorem setsFrom_foldl (off : Nat) : ∀ (l : List Value) (j : Nat) (cs : Array Value), (l.zipIdx j).foldl (fun cs (x : Value × Nat) => cs.setIfInBounds (off + x.2) x.1) cs = setsFrom off j l cs
  | [], j, cs => rfl
  | c :: l, j, cs => by simp only [List.zipIdx_cons, List.foldl_cons, setsFrom]; exact setsFrom_foldl off l (j + 1) _

theorem setsFrom_toList (off : Nat) : ∀ (l : List Value) (j : Nat) (cs : Array Value), off + j + l.length ≤ cs.size →
    (setsFrom off j l cs).toList = cs.toList.take (off + j) ++ l ++ cs.toList.drop (off + j + l.length)
  | [], j, cs, _ => by simp [setsFrom]
  | c :: l, j, cs, h => by
    simp only [List.length_cons] at h
    simp only [setsFrom]
    rw [setsFrom_toList off l (j + 1) _ (by simp; omega)]
    have e := list_seg_step cs.toList (off + j) c l (by simp; omega)
    simpa [Array.toList_setIfInBounds, Nat.add_assoc] using e

theorem vfill_run (place : Nat → Option (Nat × Nat)) : ∀ {ps : List (Nat × VV)} {ps' : List (Nat × Value)} {cs cs' : List VV} {xs : Array Value},
    vfill place ps cs = some cs' → ps.map (·.1) = ps'.map (·.1) → VRelL β (ps.map (·.2)) (ps'.map (·.2)) → VRelL β cs xs.toList →
    ∃ xs', Instr.fill place xs ps' = some xs' ∧ VRelL β cs' xs'.toList
  | [], ps', cs, cs', xs, h, h1, h2, h3 => by
    cases ps' with
    | nil => simp only [vfill, Option.some.injEq] at h; subst h; exact ⟨xs, rfl, h3⟩
    | cons a b => simp at h1
  | (i, v) :: ps, ps', cs, cs', xs, h, h1, h2, h3 => by
    cases ps' with
    | nil => simp at h1
    | cons a b =>
      obtain ⟨i', v'⟩ := a
      simp only [List.map_cons, List.cons.injEq] at h1 h2
      obtain ⟨e1, h1⟩ := h1
      subst e1
      obtain ⟨x, xs0, e2, hv, hvs⟩ := h2
      cases e2
      simp only [vfill] at h
      split at h
      · rename_i off size hp
        split at h
        · rename_i hsz
          have hsz' := Nat.eq_of_beq_eq_true hsz
          split at h
          · rename_i cs1 ho
            obtain ⟨e, hle⟩ := over_eq _ _ _ _ ho
            have hlen := hv.cells.length
            have hl3 := h3.length
            simp only [Array.length_toList] at hlen hl3
            have hc : ¬ (v'.cells.size ≠ size ∨ off + v'.cells.size > xs.size) := by omega
            have hrel : VRelL β cs1 (setsFrom off 0 v'.cells.toList xs).toList := by
              rw [setsFrom_toList off _ 0 xs (by simp; omega), e]
              simp only [Nat.add_zero, Array.length_toList]
              rw [hlen]
              exact ((h3.take off).append hv.cells).append (h3.drop (off + v'.cells.size))
            obtain ⟨xs', hx', hr'⟩ := vfill_run place h h1 hvs hrel
            refine ⟨xs', ?_, hr'⟩
            simp only [Instr.fill, hp, Bool.or_eq_true, ne_eq, decide_eq_true_eq]
            rw [if_neg hc, ← Array.foldl_toList, Array.toList_zipIdx, setsFrom_foldl]
            exact hx'
          · cases h
        · cases h
      · cases h

theorem vparts_rel {n : Nat} {tm : Tm} {a : Act} (r : TmRel β n tm a.tmps) : ∀ {l : List (Nat × Operand)} {ps : List (Nat × VV)}, vparts tm l = some ps →
    ps.map (·.1) = (l.map fun x => (x.1, a.eval x.2)).map (·.1) ∧ VRelL β (ps.map (·.2)) ((l.map fun x => (x.1, a.eval x.2)).map (·.2))
  | [], ps, h => by simp only [vparts, Option.some.injEq] at h; subst h; exact ⟨rfl, rfl⟩
  | (i, o) :: l, ps, h => by
    simp only [vparts] at h
    split at h
    · rename_i v vs hv hvs
      cases h
      obtain ⟨e1, e2⟩ := vparts_rel r hvs
      refine ⟨?_, ?_⟩
      · simpa using e1
      · exact VRelL.cons (veval_rel r hv) e2
    · cases h

variable (ok : T.Ok P)
include ok

theorem fieldPlaces_ok : ∀ {fs : List Field} {pl : List (Nat × Nat)}, fieldPlaces T.ty (fs.map fun f => (f.offset, f.type)) = some pl →
    fs.mapM (fun f => (P.info? f.type).map fun i => (f.offset, i.size)) = some pl
  | [], pl, h => by simp only [List.map_nil, fieldPlaces, Option.some.injEq] at h; subst h; rfl
  | f :: fs, pl, h => by
    simp only [List.map_cons, fieldPlaces] at h
    split at h
    · rename_i i r hi hr
      cases h
      obtain ⟨d, inf, z, hd, hinf, hz, hzv, hzs, hs, _⟩ := (ok.info hi).ex
      have := fieldPlaces_ok hr
      simp [List.mapM_cons, hinf, this, hs]
    · cases h

theorem build_run {n : Nat} {tm : Tm} {a : Act} (r : TmRel β n tm a.tmps) {t : TypeId} {parts : Array (Nat × Operand)} {i : TI} {fs : List (Nat × TypeId)} {pl : List (Nat × Nat)} {ps : List (Nat × VV)} {cs : List VV}
    (hi : T.ty.get t = some i) (hd : i.desc = .struct fs) (hp : fieldPlaces T.ty fs = some pl) (hps : vparts tm parts.toList = some ps) (hf : vfill (fun i => pl[i]?) ps i.zero.cells = some cs) :
    ∃ x, (Instr.build t (parts.map fun (i, x) => (i, a.eval x))).run P w = .ok x w ∧ VRel β (.agg cs) x := by
  obtain ⟨d, inf, z, hdd, hinf, hz, hzv, hzs, hs, hb, hde, hw, he⟩ := (ok.info hi).ex
  rw [hde] at hd
  cases d <;> simp only [mkVD, reduceCtorEq, VD.struct.injEq] at hd
  rename_i fields
  subst hd
  obtain ⟨e1, e2⟩ := vparts_rel r hps
  have hz' : VRelL β i.zero.cells z.cells.toList := (toVV_rel β z i.zero hzv).cells
  obtain ⟨xs', hx', hr'⟩ := vfill_run (fun i => pl[i]?) (ps' := parts.toList.map fun x => (x.1, a.eval x.2)) hf e1 e2 hz'
  refine ⟨.agg xs', ?_, ⟨xs', rfl, hr'⟩⟩
  apply run_build
  have hpl := fieldPlaces_ok ok hp
  unfold Program.built
  simp only [hinf, hdd, hz, hpl]
  have hfun : (fun i : Nat => pl[i]?) = (fun i : Nat => pl.toArray[i]?) := by funext i; simp
  rw [← hfun]
  simpa using hx'

theorem vindexAddr_run {t : TypeId} {x ix v : VV} {x' ix' : Value} (h : vindexAddr T.ty t x ix = some v) (hx : VRel β x x') (hix : VRel β ix ix') :
    ∃ r, (Instr.indexAt t x' ix').run P w = .ok r w ∧ VRel β v r := by
  unfold vindexAddr at h
  split at h
  · cases h
  rename_i i hi
  obtain ⟨d, inf, z, hd, hinf, hz, hzv, hzs, hs, hb, hde, hw, he⟩ := (ok.info hi).ex
  rw [hde] at h
  split at h
  · rename_i e b o len cap s k n hdd
    cases d <;> simp only [mkVD, reduceCtorEq, VD.slice.injEq] at hdd
    subst hdd
    obtain ⟨bi, hbi, off', cap', rfl, hoff, hlc, hsz, hcc⟩ := hx
    simp only [VRel] at hix; subst hix
    split at h
    · rename_i j hj
      obtain ⟨d2, inf2, z2, hd2, hinf2, hz2, hzv2, hzs2, hs2, _⟩ := (ok.info hj).ex
      split at h
      · rename_i h1 h2 h3
        have e1 := Nat.eq_of_beq_eq_true h1
        have e2 : n < len := by simpa [Nat.blt_eq] using h2
        cases h
        have hsize : inf2.size = s := by rw [e1, hs2]
        have hc : (0 : Int) ≤ Int.ofNat n ∧ Int.ofNat n < (len : Int) := ⟨by simp, by simp; omega⟩
        have hn : (Int.ofNat n).toNat = n := rfl
        refine ⟨.pointer (some ⟨bi.rb, off' + n * s, none⟩), ?_, ⟨bi, hbi, ?_⟩⟩
        · simp only [Instr.indexAt, asIntOf, Sem.run_bind, Sem.run_pure, run_underlying hd, Result.andThen_ok, if_pos hc, run_sizeOf w hinf2, hsize, hn, add_plain]
        · rw [hoff (.inl (by omega)), Nat.add_assoc]
      · cases h
    · cases h
  · cases h

theorem vindex_run {t : TypeId} {x ix v : VV} {x' ix' : Value} (h : vindex T.ty t x ix = some v) (hx : VRel β x x') (hix : VRel β ix ix') :
    ∃ r, (Instr.index t x' ix').run P w = .ok r w ∧ VRel β v r := by
  unfold vindex at h
  split at h
  · cases h
  rename_i i hi
  obtain ⟨d, inf, z, hd, hinf, hz, hzv, hzs, hs, hb, hde, hw, he⟩ := (ok.info hi).ex
  rw [hde] at h
  split at h
  · rename_i s k n hdd
    cases d <;> simp only [mkVD, reduceCtorEq] at hdd
    simp only [VRel] at hx hix; subst hx; subst hix
    split at h
    · rename_i b hb
      cases h
      have hb' : s[n]? = some b := by
        obtain ⟨data⟩ := s
        simp only [getElem?_def] at hb ⊢
        split at hb
        · rename_i hlt
          simp only [Array.length_toList] at hlt
          have : n < (ByteArray.mk data).size := hlt
          rw [dif_pos this]
          have hb2 : some (data[n]) = some b := by simpa using hb
          exact hb2
        · cases hb
      have h0 : (0 : Int) ≤ Int.ofNat n := by simp
      have hn : (Int.ofNat n).toNat = n := rfl
      exact ⟨_, by simp only [Instr.index, asIntOf, Sem.run_bind, Sem.run_pure, run_underlying hd, Result.andThen_ok, if_pos h0, hn, hb'], rfl⟩
    · cases h
  · cases h

theorem fieldAddr_run {t : TypeId} {i : TI} {fs : List (Nat × TypeId)} {b o off f : Nat} {ft : TypeId} {x' : Value} (hi : T.ty.get t = some i) (hd : i.desc = .struct fs) (hf : fs[f]? = some (off, ft)) (hx : VRel β (.ptr b o) x') :
    ∃ r, (Instr.fieldAt t x' f).run P w = .ok r w ∧ VRel β (.ptr b (o + off)) r := by
  obtain ⟨d, inf, z, hdd, hinf, hz, hzv, hzs, hs, hb, hde, hw, he⟩ := (ok.info hi).ex
  rw [hde] at hd
  cases d <;> simp only [mkVD, reduceCtorEq, VD.struct.injEq] at hd
  rename_i fields
  subst hd
  obtain ⟨bi, hbi, rfl⟩ := hx
  simp only [List.getElem?_map, Option.map_eq_some_iff, Prod.mk.injEq] at hf
  obtain ⟨fd, hfd, rfl, rfl⟩ := hf
  have hfa : fields[f]? = some fd := by rw [← Array.getElem?_toList]; exact hfd
  have hmem : fd ∈ fields.toList := List.mem_of_getElem? hfd
  have hwide := List.all_eq_true.1 hw fd hmem
  have hsz : 0 < P.cellsOf fd.type := by simpa [Nat.blt_eq] using hwide
  refine ⟨.pointer (some ⟨bi.rb, bi.off + o + fd.offset, none⟩), ?_, ⟨bi, hbi, by rw [Nat.add_assoc]⟩⟩
  cases hq : P.info? fd.type with
  | none => simp [Program.cellsOf, hq] at hsz
  | some inf2 =>
    have h0 : ¬ (inf2.size = 0) := by simp [Program.cellsOf, hq] at hsz; omega
    simp only [Instr.fieldAt, Sem.run_bind, run_underlying hdd, Result.andThen_ok, hfa, Instr.sureAddr, Sem.run_pure, fieldPlace, run_sizeOf w hq, if_neg h0, add_plain]

theorem field_run {t : TypeId} {i : TI} {fs : List (Nat × TypeId)} {off f : Nat} {ft : TypeId} {cs : List VV} {v : VV} {x' : Value} (hi : T.ty.get t = some i) (hd : i.desc = .struct fs) (hf : fs[f]? = some (off, ft)) (hv : vpart T.ty ft cs off = some v) (hx : VRel β (.agg cs) x') :
    ∃ r, (Instr.field t x' f).run P w = .ok r w ∧ VRel β v r := by
  obtain ⟨d, inf, z, hdd, hinf, hz, hzv, hzs, hs, hb, hde, hw, he⟩ := (ok.info hi).ex
  rw [hde] at hd
  cases d <;> simp only [mkVD, reduceCtorEq, VD.struct.injEq] at hd
  rename_i fields
  subst hd
  obtain ⟨xa, rfl, hxa⟩ := hx
  simp only [List.getElem?_map, Option.map_eq_some_iff, Prod.mk.injEq] at hf
  obtain ⟨fd, hfd, rfl, rfl⟩ := hf
  have hfa : fields[f]? = some fd := by rw [← Array.getElem?_toList]; exact hfd
  obtain ⟨x, hp, hr⟩ := vpart_run ok w hv hxa
  exact ⟨x, by simp only [Instr.field, Sem.run_bind, run_underlying hdd, Result.andThen_ok, hfa, asAgg, Sem.run_pure, hp], hr⟩

omit ok in
theorem vmin_run : ∀ {l : List VV} {x v : VV} {x' : Value} {l' : List Value}, vmin x l = some v → VRel β x x' → VRelL β l l' →
    ∃ r, (l'.foldlM Builtin.min2 x').run P w = .ok r w ∧ VRel β v r
  | [], x, v, x', l', h, hx, hl => by
    have := hl.nil_inv; subst this
    simp only [vmin, Option.some.injEq] at h; subst h
    exact ⟨x', rfl, hx⟩
  | y :: l, x, v, x', l', h, hx, hl => by
    obtain ⟨y', l'', rfl, hy, hl'⟩ := hl
    cases x <;> cases y <;> simp only [vmin, reduceCtorEq] at h
    simp only [VRel] at hx hy; subst hx; subst hy
    obtain ⟨r, hr, hv⟩ := vmin_run (x' := .int _ _) h rfl hl'
    exact ⟨r, by simp only [List.foldlM_cons, Builtin.min2, Sem.run_bind, Sem.run_pure, Result.andThen_ok]; exact hr, hv⟩
omit ok in
theorem vmax_run : ∀ {l : List VV} {x v : VV} {x' : Value} {l' : List Value}, vmax x l = some v → VRel β x x' → VRelL β l l' →
    ∃ r, (l'.foldlM Builtin.max2 x').run P w = .ok r w ∧ VRel β v r
  | [], x, v, x', l', h, hx, hl => by
    have := hl.nil_inv; subst this
    simp only [vmax, Option.some.injEq] at h; subst h
    exact ⟨x', rfl, hx⟩
  | y :: l, x, v, x', l', h, hx, hl => by
    obtain ⟨y', l'', rfl, hy, hl'⟩ := hl
    cases x <;> cases y <;> simp only [vmax, reduceCtorEq] at h
    simp only [VRel] at hx hy; subst hx; subst hy
    obtain ⟨r, hr, hv⟩ := vmax_run (x' := .int _ _) h rfl hl'
    exact ⟨r, by simp only [List.foldlM_cons, Builtin.max2, Sem.run_bind, Sem.run_pure, Result.andThen_ok]; exact hr, hv⟩

end
end Go.Proofs.YtfempmlelmdhbaaGreat.VM
