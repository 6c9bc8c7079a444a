/- VMMaps: a part of a verified evaluator of the model's code (or of its run), used for this seat's laws; it has no conditions. -/
import Derived.Test.YtfempmlelmdhbaaGreatVMEff
set_option linter.all false
namespace Go.Proofs.YtfempmlelmdhbaaGreat.VM
open Go Go.RowKit

theorem KvRel.get {β : Bt} : ∀ {kvs : List (VV × VV)} {es : List MapEntry}, KvRel β kvs es → ∀ {i : Nat} {kv : VV × VV}, kvs[i]? = some kv → ∃ e, es[i]? = some e ∧ VRel β kv.1 e.key ∧ VRel β kv.2 e.val
  | [], es, _, i, v, h => by simp at h
  | v :: vs, es, r, i, u, h => by
    obtain ⟨e, es', rfl, h1, h2, h3⟩ := r
    cases i with
    | zero => simp at h; subst h; exact ⟨e, by simp, h1, h2⟩
    | succ i => simp at h; obtain ⟨y, hy, hr⟩ := KvRel.get h3 h; exact ⟨y, by simpa using hy, hr⟩

theorem KvRel.mk {β : Bt} : ∀ {kvs : List (VV × VV)} {es : List MapEntry}, kvs.length = es.length →
    (∀ (i : Nat) (kv : VV × VV), kvs[i]? = some kv → ∃ e, es[i]? = some e ∧ VRel β kv.1 e.key ∧ VRel β kv.2 e.val) → KvRel β kvs es
  | [], es, hl, _ => by cases es <;> simp at hl; rfl
  | v :: vs, es, hl, h => by
    cases es with
    | nil => simp at hl
    | cons x xs =>
      obtain ⟨y, hy, h1, h2⟩ := h 0 v (by simp)
      simp at hy; subst hy
      refine ⟨x, xs, rfl, h1, h2, KvRel.mk (by simpa using hl) fun i u hu => ?_⟩
      obtain ⟨z, hz, hr'⟩ := h (i + 1) u (by simpa using hu)
      exact ⟨z, by simpa using hz, hr'⟩

theorem KvRel.append {β : Bt} : ∀ {kvs us : List (VV × VV)} {es ys : List MapEntry}, KvRel β kvs es → KvRel β us ys → KvRel β (kvs ++ us) (es ++ ys)
  | [], us, es, ys, r, q => by simp only [KvRel] at r; subst r; simpa using q
  | v :: vs, us, es, ys, r, q => by
    obtain ⟨x, xs', rfl, h1, h2, hvs⟩ := r
    exact ⟨x, xs' ++ ys, rfl, h1, h2, KvRel.append hvs q⟩

theorem setAt_length {α : Type} : ∀ (l : List α) (n : Nat) (v : α), (setAt l n v).length = l.length
  | [], _, _ => rfl
  | _ :: xs, 0, v => rfl
  | x :: xs, n + 1, v => by simp [setAt, setAt_length xs n v]
theorem setAt_get {α : Type} : ∀ (l : List α) (n : Nat) (v : α) (i : Nat), (setAt l n v)[i]? = if i = n ∧ i < l.length then some v else l[i]?
  | [], n, v, i => by simp [setAt]
  | x :: xs, 0, v, i => by cases i <;> simp [setAt]
  | x :: xs, n + 1, v, i => by
    cases i with
    | zero => simp [setAt]
    | succ i => simp [setAt, setAt_get xs n v i]
theorem delAt_eq {α : Type} : ∀ (l : List α) (n : Nat), delAt l n = l.eraseIdx n
  | [], n => by cases n <;> rfl
  | x :: xs, 0 => rfl
  | x :: xs, n + 1 => by simp [delAt, delAt_eq xs n]

theorem vsameBits_go {β : Bt} (n : Nat) : ∀ {a b : List VV} {a' b' : List Value}, vsameBits.go a b = true → VRelL β a a' → VRelL β b b' →
    a'.length = b'.length ∧ ((a'.zip b').all fun (x, y) => Instr.sameBits n x y) = true
  | [], [], a', b', _, h1, h2 => by have := h1.nil_inv; have := h2.nil_inv; subst a' b'; exact ⟨rfl, rfl⟩
  | [], _ :: _, _, _, h, _, _ => by simp [vsameBits.go] at h
  | x :: a, [], a', b', h, _, _ => by cases x <;> simp [vsameBits.go] at h
  | x :: a, y :: b, a', b', h, h1, h2 => by
    obtain ⟨x', a1, rfl, hx, ha⟩ := h1
    obtain ⟨y', b1, rfl, hy, hb⟩ := h2
    cases x <;> cases y <;> simp only [vsameBits.go, Bool.and_eq_true, reduceCtorEq, Bool.false_eq_true] at h
    case bool.bool p q =>
      simp only [VRel] at hx hy; subst hx; subst hy
      obtain ⟨e1, e2⟩ := vsameBits_go n h.2 ha hb
      refine ⟨by simp [e1], ?_⟩
      have : Instr.sameBits n (.bool p) (.bool q) = true := by cases n <;> simpa [Instr.sameBits] using h.1
      simp [this, e2]
    case int.int k p l q =>
      simp only [VRel] at hx hy; subst hx; subst hy
      obtain ⟨e1, e2⟩ := vsameBits_go n h.2 ha hb
      refine ⟨by simp [e1], ?_⟩
      have : Instr.sameBits n (.int k p) (.int l q) = true := by cases n <;> simpa [Instr.sameBits] using h.1
      simp [this, e2]
    case str.str p q =>
      simp only [VRel] at hx hy; subst hx; subst hy
      obtain ⟨e1, e2⟩ := vsameBits_go n h.2 ha hb
      refine ⟨by simp [e1], ?_⟩
      have : Instr.sameBits n (.string p) (.string q) = true := by
        have hpq : p = q := eq_of_bytes ((bytesEq_spec _ _).1 h.1)
        subst hpq
        cases n <;> simp only [Instr.sameBits] <;> (obtain ⟨d⟩ := p; show (d == d) = true; simp)
      simp [this, e2]

theorem vsameBits_run {β : Bt} {a b : VV} {a' b' : Value} (h : vsameBits a b = true) (h1 : VRel β a a') (h2 : VRel β b b') : Instr.sameBits 10000 a' b' = true := by
  cases a <;> cases b <;> simp only [vsameBits, Bool.and_eq_true, reduceCtorEq, Bool.false_eq_true] at h
  case bool.bool p q => simp only [VRel] at h1 h2; subst h1; subst h2; simpa [Instr.sameBits] using h
  case int.int k p l q => simp only [VRel] at h1 h2; subst h1; subst h2; simpa [Instr.sameBits] using h
  case str.str p q =>
    simp only [VRel] at h1 h2; subst h1; subst h2
    have hpq : p = q := eq_of_bytes ((bytesEq_spec _ _).1 h)
    subst hpq
    simp only [Instr.sameBits]
    obtain ⟨d⟩ := p; show (d == d) = true; simp
  case agg.agg x y =>
    obtain ⟨xa, rfl, hx⟩ := h1
    obtain ⟨ya, rfl, hy⟩ := h2
    obtain ⟨e1, e2⟩ := vsameBits_go 9999 h hx hy
    simp only [Array.length_toList] at e1
    simp only [Instr.sameBits, Bool.and_eq_true, beq_iff_eq]
    exact ⟨e1, e2⟩

section
variable {P : Program} {T : Tb} {B : Nat} {β : Bt} {h : VH} (w : World)

theorem setObj_run {r : Nat} {es : Array MapEntry} {clock : Nat} (hr : w.heap[r]? = some (.map es clock)) (o : Obj) : (setObj r o).run P w = .ok () { w with heap := w.heap.setIfInBounds r o } := by
  simp only [setObj, Sem.run, hr]

theorem born_modify (k' v' : Value) : ∀ (l : List MapEntry) (n : Nat), (l.modify n fun e => { e with key := k', val := v' }).map (·.born) = l.map (·.born)
  | [], n => by simp
  | e :: l, 0 => by simp
  | e :: l, n + 1 => by simp [born_modify k' v' l n]

theorem eraseIdx_mapB {α γ : Type} (f : α → γ) : ∀ (l : List α) (n : Nat), (l.eraseIdx n).map f = (l.map f).eraseIdx n
  | [], n => by simp
  | a :: l, 0 => by simp
  | a :: l, n + 1 => by simp [eraseIdx_mapB f l n]

/-- A map is written. -/
theorem Sim.setMap (S : Sim B β h w) {b : Nat} {bi : BI} {kvs kvs' : List (VV × VV)} {bs bs' : List Nat} {cl : Nat} {es' : Array MapEntry} {clock : Nat} (hb : β b = some bi) (hk : h.get b = .map kvs bs cl) (hr : KvRel β kvs' es'.toList) (hs : es'.toList.map (·.born) = bs') :
    Sim B β (h.put b (.map kvs' bs' clock)) { w with heap := w.heap.setIfInBounds bi.rb (.map es' clock) } ∧ Below B w { w with heap := w.heap.setIfInBounds bi.rb (.map es' clock) } := by
  obtain ⟨es, c0, h1, h2, h3⟩ := S.maps b bi kvs bs cl hb hk
  have hlt : bi.rb < w.heap.size := (S.low b bi hb).2
  refine ⟨S.update hb (by rw [hk]; rfl) trivial ⟨es', clock, ?_, hr, hs, rfl⟩ (fun r hr => ?_) (by simp), ⟨rfl, rfl, rfl, by simp, fun k hk' => ?_⟩⟩
  · simp [hlt]
  · show (w.heap.setIfInBounds bi.rb _)[r]? = _
    rw [Array.getElem?_setIfInBounds_ne (Ne.symm hr)]
  · show (w.heap.setIfInBounds bi.rb _)[k]? = _
    rw [Array.getElem?_setIfInBounds_ne (by omega)]

variable (ok : T.Ok P)
include ok

theorem vkeyOk_ty {d : Nat} {kt : TypeId} {k : VV} (hko : vkeyOk T.ty d kt k = true) : ∃ i, T.ty.get kt = some i := by
  unfold vkeyOk at hko
  split at hko
  · cases hko
  · split at hko
    · cases hko
    · rename_i j hj; exact ⟨j, hj⟩

theorem vmapUpdate_run (S : Sim B β h w) {t : TypeId} {x k v : VV} {x' k' v' : Value} {h' : VH} (hu : vmapUpdate T.ty h t x k v = some h') (hx : VRel β x x') (hk : VRel β k k') (hv : VRel β v v') :
    ∃ w1, (Instr.mapUpdate t x' k' v').run P w = .ok () w1 ∧ Sim B β h' w1 ∧ Below B w w1 ∧ h'.next = h.next := by
  unfold vmapUpdate at hu
  split at hu
  · rename_i i b hi
    obtain ⟨d, inf, z, hd, hinf, hz, hzv, hzs, hs, hb, hde, hw, he⟩ := (ok.info hi).ex
    obtain ⟨bi, hbi, rfl⟩ := hx
    split at hu
    · rename_i kt et kvs bs cl hdd hkv
      rw [hde] at hdd
      cases d <;> simp only [mkVD, reduceCtorEq, VD.map.injEq] at hdd
      rename_i dk dl
      obtain ⟨hdk, hde2⟩ := hdd
      subst hdk
      obtain ⟨es, clock, e1, ⟨e2, ebs, rfl⟩, e3⟩ := S.maps b bi kvs bs cl hbi hkv
      have hg : (getObj bi.rb).run P w = .ok (.map es clock) w := by simp only [getObj, Sem.run, e1]
      split at hu
      · rename_i hko
        have hck := checkKey_run w ok false 50 hko hk 10000 (by omega)
        have hty := vkeyOk_ty ok hko
        split at hu
        · rename_i n0 v0 hq
          obtain ⟨r', hr', hm⟩ := findKey_run w ok hk hty hq e2
          obtain ⟨v1, rfl, hv1⟩ := hm
          split at hu
          · rename_i hsb
            cases hu
            cases hkn : kvs[n0]? with
            | none => rw [hkn] at hsb; cases hsb
            | some kv =>
              rw [hkn] at hsb
              obtain ⟨e, he, hek, hev⟩ := e2.get hkn
              have he' : es[n0]? = some e := by rw [← Array.getElem?_toList]; exact he
              have hsb' := vsameBits_run hsb hek hk
              have hrel : KvRel β (setAt kvs n0 (k, v)) (es.modify n0 fun e => { e with key := k', val := v' }).toList := by
                refine KvRel.mk (by rw [setAt_length, KvRel.length e2]; simp) fun i kv' hkv' => ?_
                rw [setAt_get] at hkv'
                rw [Array.getElem?_toList, Array.getElem?_modify]
                split at hkv'
                · rename_i hc
                  cases hkv'
                  rw [if_pos hc.1.symm, hc.1, he']
                  exact ⟨_, rfl, hk, hv⟩
                · rename_i hc
                  obtain ⟨e4, he4, h5⟩ := e2.get hkv'
                  have hi : ¬ (n0 = i) := by
                    intro e5
                    apply hc
                    refine ⟨e5.symm, ?_⟩
                    rcases Nat.lt_or_ge i kvs.length with hl | hl
                    · exact hl
                    · rw [List.getElem?_eq_none hl] at hkv'; cases hkv'
                  rw [if_neg hi]
                  exact ⟨e4, by rw [← Array.getElem?_toList]; exact he4, h5⟩
              obtain ⟨s1, s2⟩ := S.setMap w (clock := clock) hbi hkv hrel (bs' := bs) (by
                rw [← ebs, Array.toList_modify]
                exact born_modify k' v' _ _)
              refine ⟨_, ?_, s1, s2, rfl⟩
              simp only [Instr.mapUpdate, Sem.run_bind, run_underlying hd, Result.andThen_ok, hg, hck, hr', he', Option.map_some, Option.getD_some, Instr.keyThatStays, hsb', if_true, Sem.run_pure]
              exact setObj_run w e1 _
          · cases hu
        · rename_i hq
          obtain ⟨r', hr', hm⟩ := findKey_run w ok hk hty hq e2
          simp only [FoundRel] at hm; subst hm
          cases hu
          have hrel : KvRel β (kvs ++ [(k, v)]) (es.push { key := k', val := v', born := clock }).toList := by
            rw [Array.toList_push]
            exact e2.append ⟨_, [], rfl, hk, hv, rfl⟩
          obtain ⟨s1, s2⟩ := S.setMap w (clock := clock + 1) hbi hkv hrel (bs' := bs ++ [clock]) (by rw [Array.toList_push, List.map_append, ebs]; rfl)
          refine ⟨_, ?_, s1, s2, rfl⟩
          simp only [Instr.mapUpdate, Sem.run_bind, run_underlying hd, Result.andThen_ok, hg, hck, hr']
          exact setObj_run w e1 _
        · cases hu
      · cases hu
    · cases hu
  · cases hu

theorem vdelete_run (S : Sim B β h w) {t : TypeId} {x k : VV} {x' k' : Value} {h' : VH} (hu : vdelete T.ty h t x k = some h') (hx : VRel β x x') (hk : VRel β k k')
    (ats : Array TypeId) (ty : TypeId) (args : Array Value) (h0 : ats[0]? = some t) (h1 : args[0]? = some x') (h2 : args[1]? = some k') :
    ∃ w1, (Builtin.delete_ ats ty args).run P w = .ok (.tuple #[]) w1 ∧ Sim B β h' w1 ∧ Below B w w1 ∧ h'.next = h.next := by
  unfold vdelete at hu
  split at hu
  · rename_i i hi
    obtain ⟨d, inf, z, hd, hinf, hz, hzv, hzs, hs, hb, hde, hw, he⟩ := (ok.info hi).ex
    split at hu
    · rename_i kt et hdd
      rw [hde] at hdd
      cases d <;> simp only [mkVD, reduceCtorEq, VD.map.injEq] at hdd
      rename_i dk dl
      obtain ⟨hdk, hde2⟩ := hdd
      subst hdk
      split at hu
      · rename_i hko
        have hty := vkeyOk_ty ok hko
        split at hu
        · simp only [VRel] at hx; subst hx
          cases hu
          have hck := checkKey_run w ok true 50 hko hk 10000 (by omega)
          exact ⟨w, by simp only [Builtin.delete_, h0, h1, h2, Sem.run_bind, run_underlying hd, Result.andThen_ok, hck, Sem.run_pure], S, Below.refl B w, rfl⟩
        · rename_i b
          obtain ⟨bi, hbi, rfl⟩ := hx
          split at hu
          · rename_i kvs bs cl hkv
            obtain ⟨es, clock, e1, ⟨e2, ebs, rfl⟩, e3⟩ := S.maps b bi kvs bs cl hbi hkv
            have hg : (getObj bi.rb).run P w = .ok (.map es clock) w := by simp only [getObj, Sem.run, e1]
            have hck := checkKey_run w ok es.isEmpty 50 hko hk 10000 (by omega)
            split at hu
            · rename_i n0 v0 hq
              obtain ⟨r', hr', hm⟩ := findKey_run w ok hk hty hq e2
              obtain ⟨v1, rfl, hv1⟩ := hm
              cases hu
              have htl : (es.eraseIdxIfInBounds n0).toList = es.toList.eraseIdx n0 := by
                simp [Array.eraseIdxIfInBounds]
                split
                · simp
                · rename_i hc
                  rw [List.eraseIdx_of_length_le (by simp; omega)]
              have hrel : KvRel β (delAt kvs n0) (es.eraseIdxIfInBounds n0).toList := by
                have hl := KvRel.length e2
                rw [delAt_eq, htl]
                refine KvRel.mk (by simp [List.length_eraseIdx, hl]) fun i kv' hkv' => ?_
                rw [List.getElem?_eraseIdx] at hkv' ⊢
                split at hkv'
                · rename_i hc; rw [if_pos hc]; exact e2.get hkv'
                · rename_i hc; rw [if_neg hc]; exact e2.get hkv'
              obtain ⟨s1, s2⟩ := S.setMap w (clock := clock) hbi hkv hrel (bs' := delAt bs n0) (by rw [delAt_eq, htl, ← ebs, eraseIdx_mapB])
              refine ⟨_, ?_, s1, s2, rfl⟩
              simp only [Builtin.delete_, h0, h1, h2, Sem.run_bind, run_underlying hd, Result.andThen_ok, hg, hck, hr', setObj_run w e1, Sem.run_pure]
            · rename_i hq
              obtain ⟨r', hr', hm⟩ := findKey_run w ok hk hty hq e2
              simp only [FoundRel] at hm; subst hm
              cases hu
              obtain ⟨s1, s2⟩ := S.setMap w (clock := clock) hbi hkv e2 ebs
              refine ⟨_, ?_, s1, s2, rfl⟩
              simp only [Builtin.delete_, h0, h1, h2, Sem.run_bind, run_underlying hd, Result.andThen_ok, hg, hck, hr', setObj_run w e1, Sem.run_pure]
            · cases hu
          · cases hu
        · cases hu
      · cases hu
    · cases hu
  · cases hu

end
end Go.Proofs.YtfempmlelmdhbaaGreat.VM
