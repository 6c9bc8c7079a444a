/- VMRead: a part of a verified evaluator of the model's code (or of its run), used for this seat's laws; it has no conditions. -/
import Derived.Test.YtfempmlelmdhbaaGreatVMPure5
import Derived.Laws.BytesString
set_option linter.all false
namespace Go.Proofs.YtfempmlelmdhbaaGreat.VM
open Go

section
variable {P : Program} {T : Tb} {B : Nat} {β : Bt} {hh : VH} (w : World)

theorem loadN_rel (S : Sim B β hh w) {b o n : Nat} {bi : BI} {l : List VV} (hb : β b = some bi) (h : loadN hh b o n = some l) :
    ∃ xs : List Value, VRelL β l xs ∧ l.length = n ∧ (∀ j v, xs[j]? = some v → w.cell? ((⟨bi.rb, bi.off + o, none⟩ : Addr).add j) = some v) := by
  unfold loadN at h
  split at h
  · rename_i ro cs hcs
    obtain ⟨e, hl⟩ := takeN_eq _ _ _ h
    rw [dropN_eq] at e hl
    obtain ⟨arr, ty, fz, ha, hsz, hrel, _⟩ := S.cells b bi ro cs hb hcs
    have hlen : l.length = n := by rw [e]; simp; simp at hl; omega
    refine ⟨(List.range n).map fun j => arr.getD (bi.off + o + j) undef, ?_, hlen, ?_⟩
    · refine VRelL.mk (by simp [hlen]) fun i v hv => ?_
      have hi : i < n := by
        rw [← hlen]
        rcases Nat.lt_or_ge i l.length with hc | hc
        · exact hc
        · rw [List.getElem?_eq_none hc] at hv; cases hv
      have hv' : cs[o + i]? = some v := by
        rw [e, List.getElem?_take, if_pos hi, List.getElem?_drop] at hv
        exact hv
      obtain ⟨x, hx, hr⟩ := hrel _ _ hv'
      refine ⟨x, ?_, hr⟩
      rw [List.getElem?_map, List.getElem?_range hi]
      simp only [Option.map_some, Array.getD_eq_getD_getElem?]
      rw [show bi.off + o + i = bi.off + (o + i) from by omega, hx]
      rfl
    · intro j v hv
      have hj : j < n := by
        rcases Nat.lt_or_ge j n with hc | hc
        · exact hc
        · rw [List.getElem?_eq_none (by simpa using hc)] at hv; cases hv
      rw [List.getElem?_map, List.getElem?_range hj] at hv
      simp only [Option.map_some, Option.some.injEq] at hv
      rw [add_plain]
      simp only [World.cell?, ha, Option.isSome_none, Bool.false_eq_true, if_false]
      obtain ⟨u, hu⟩ : ∃ u, cs[o + j]? = some u := by
        have : o + j < cs.length := by simp at hl; omega
        exact ⟨_, List.getElem?_eq_getElem this⟩
      obtain ⟨x, hx, _⟩ := hrel _ _ hu
      rw [show bi.off + o + j = bi.off + (o + j) from by omega] at hv ⊢
      rw [hx]
      simp only [Array.getD_eq_getD_getElem?, hx, Option.getD_some] at hv
      rw [hv]
  · cases h

variable (ok : T.Ok P)
include ok

theorem vload_run (S : Sim B β hh w) {t : TypeId} {x v : VV} {x' : Value} (h : vload T.ty hh t x = some v) (hx : VRel β x x') :
    ∃ a, x' = .pointer (some a) ∧ ∃ r, (loadVar t a).run P w = .ok r w ∧ VRel β v r := by
  unfold vload at h
  split at h
  · rename_i i b o hi
    obtain ⟨bi, hbi, rfl⟩ := hx
    obtain ⟨d, inf, z, hd, hinf, hz, hzv, hzs, hs, hb, hde, hw, he⟩ := (ok.info hi).ex
    refine ⟨_, rfl, ?_⟩
    have single : ∀ (hn : isAggDesc d = false) (h : (match loadN hh b o 1 with | some [v] => some v | _ => none) = some v),
        ∃ r, (loadVar t ⟨bi.rb, bi.off + o, none⟩).run P w = .ok r w ∧ VRel β v r := by
      intro hn h
      split at h
      · rename_i u hl
        cases h
        obtain ⟨xs, hr, hlen, hc⟩ := loadN_rel w S hbi hl
        obtain ⟨x, xs', rfl, hv, hn'⟩ := hr
        have hcell := hc 0 x rfl
        rw [add_plain, Nat.add_zero] at hcell
        exact ⟨x, by simp only [loadVar, Sem.run_bind, run_isAgg w hd, Result.andThen_ok, hn, Bool.false_eq_true, if_false, run_load, hcell], hv⟩
      · cases h
    rw [hde] at h
    cases d <;> simp only [mkVD] at h
    case struct fs =>
      split at h
      · rename_i l hl
        cases h
        obtain ⟨xs, hr, hlen, hc⟩ := loadN_rel w S hbi hl
        have hrun := run_loadCells_list (P := P) w ⟨bi.rb, bi.off + o, none⟩ xs hc
        have hn : xs.length = inf.size := by rw [← hr.length, hlen, hs]
        rw [hn] at hrun
        exact ⟨.agg xs.toArray, by simp only [loadVar, Sem.run_bind, run_isAgg w hd, isAggDesc, Result.andThen_ok, if_true, run_sizeOf w hinf, hrun, Sem.run_pure], ⟨_, rfl, by simpa using hr⟩⟩
      · cases h
    all_goals first
      | exact single rfl h
      | cases h
  · cases h

/-! ### maps -/
omit ok in
theorem mapOf_run (S : Sim B β hh w) {x : VV} {x' : Value} {kvs : List (VV × VV)} (h : mapOf hh x = some kvs) (hx : VRel β x x') :
    (x' = .map none ∧ kvs = []) ∨ ∃ r es clock, x' = .map (some r) ∧ w.heap[r]? = some (.map es clock) ∧ KvRel β kvs es.toList := by
  unfold mapOf at h
  split at h
  · simp only [VRel] at hx; cases h; exact .inl ⟨hx, rfl⟩
  · rename_i b
    obtain ⟨bi, hbi, rfl⟩ := hx
    split at h
    · rename_i kvs' bs cl hk
      cases h
      obtain ⟨es, clock, h1, h2, h3⟩ := S.maps b bi kvs bs cl hbi hk
      exact .inr ⟨_, es, clock, rfl, h1, h2.1⟩
    · cases h
  · cases h

def FoundRel (β : Bt) : Option (Nat × VV) → Option (Nat × Value) → Prop
  | none, q => q = none
  | some (i, v), q => ∃ v', q = some (i, v') ∧ VRel β v v'

theorem findAsking_run {kt : TypeId} {k : VV} {k' : Value} (hk : VRel β k k') : ∀ {kvs : List (VV × VV)} {es : List MapEntry} {n : Nat} {r : Option (Nat × VV)},
    vfind T.ty kt k kvs n = some r → KvRel β kvs es →
    ∃ r', (Instr.findAsking kt k' es n).run P w = .ok r' w ∧ FoundRel β r r'
  | [], es, n, r, h, hr => by
    simp only [KvRel] at hr; subst hr
    simp only [vfind, Option.some.injEq] at h; subst h
    exact ⟨none, rfl, rfl⟩
  | (k1, v1) :: kvs, es, n, r, h, hr => by
    obtain ⟨e, es', rfl, hk1, hv1, hrest⟩ := hr
    simp only [vfind] at h
    split at h
    · rename_i hq
      cases h
      refine ⟨some (n, e.val), ?_, e.val, rfl, hv1⟩
      simp only [Instr.findAsking, Sem.run_bind, veq_run ok w hq hk hk1, Result.andThen_ok, if_true, Sem.run_pure]
    · rename_i hq
      obtain ⟨r', h1, h2⟩ := findAsking_run hk h hrest
      refine ⟨r', ?_, h2⟩
      simp only [Instr.findAsking, Sem.run_bind, veq_run ok w hq hk hk1, Result.andThen_ok, Bool.false_eq_true, if_false, h1]
    · cases h

omit ok in
/-- The model's quick look agrees with '=='. -/
theorem sameNow_run {kt : TypeId} {d : TypeDesc} (hd : P.underlying kt = some d) {x y : Value} {s : Bool} (h : Instr.sameNow d x y = some s) : (Op.equal kt x y).run P w = .ok s w := by
  cases d <;> cases x <;> cases y <;> simp only [Instr.sameNow, reduceCtorEq] at h
  · cases h; exact run_equalIn_bool w 9999 kt _ _ hd
  · split at h
    · rename_i hk; subst hk; cases h
      exact run_equalIn_int w 9999 kt _ _ _ _ hd
    · cases h
  · cases h
    rw [beq_toListBytes]
    exact run_equalIn_string w 9999 kt _ _ hd

theorem findNow_run {kt : TypeId} {d : TypeDesc} (hd : P.underlying kt = some d) {k : VV} {k' : Value} (hk : VRel β k k') : ∀ {kvs : List (VV × VV)} {es : List MapEntry} {n : Nat} {r : Option (Nat × VV)},
    vfind T.ty kt k kvs n = some r → KvRel β kvs es → ∀ {q : Option (Nat × Value)}, Instr.findNow d k' es n = some q →
    FoundRel β r q
  | [], es, n, r, h, hr, q, hq => by
    simp only [KvRel] at hr; subst hr
    simp only [vfind, Option.some.injEq] at h; subst h
    simp only [Instr.findNow, Option.some.injEq] at hq; exact hq.symm
  | (k1, v1) :: kvs, es, n, r, h, hr, q, hq => by
    obtain ⟨e, es', rfl, hk1, hv1, hrest⟩ := hr
    have hsame : ∀ s, Instr.sameNow d k' e.key = some s → (Op.equal kt k' e.key).run P default = .ok s default := fun s hs => sameNow_run default hd hs
    simp only [vfind] at h
    simp only [Instr.findNow] at hq
    split at hq
    · rename_i hs
      cases hq
      have h1 := hsame _ hs
      split at h
      · rename_i hv; cases h; exact ⟨e.val, rfl, hv1⟩
      · rename_i hv
        have h2 := veq_run ok default hv hk hk1
        rw [h1] at h2; cases h2
      · cases h
    · rename_i hs
      have h1 := hsame _ hs
      split at h
      · rename_i hv
        have h2 := veq_run ok default hv hk hk1
        rw [h1] at h2; cases h2
      · exact findNow_run hd hk h hrest hq
      · cases h
    · cases hq

theorem findKey_run {kt : TypeId} {k : VV} {k' : Value} (hk : VRel β k k') {kvs : List (VV × VV)} {es : List MapEntry} {r : Option (Nat × VV)}
    (hty : ∃ i, T.ty.get kt = some i) (h : vfind T.ty kt k kvs 0 = some r) (hr : KvRel β kvs es) :
    ∃ r', (Instr.findKey kt k' es).run P w = .ok r' w ∧ FoundRel β r r' := by
  obtain ⟨i, hi⟩ := hty
  obtain ⟨d, inf, z, hd, _⟩ := (ok.info hi).ex
  cases hq : Instr.findNow d k' es 0 with
  | some q => exact ⟨q, by simp only [Instr.findKey, Sem.run_bind, run_underlying hd, Result.andThen_ok, hq, Sem.run_pure], findNow_run ok hd hk h hr hq⟩
  | none =>
    obtain ⟨r', h1, h2⟩ := findAsking_run w ok hk h hr
    exact ⟨r', by simp only [Instr.findKey, Sem.run_bind, run_underlying hd, Result.andThen_ok, hq]; exact h1, h2⟩

theorem checkKey_run (e : Bool) : ∀ (d : Nat) {t : TypeId} {x : VV} {x' : Value}, vkeyOk T.ty d t x = true → VRel β x x' → ∀ D, d ≤ D → (Instr.checkKey e D t x').run P w = .ok () w := by
  intro d
  induction d with
  | zero => intro t x x' h; simp [vkeyOk] at h
  | succ d ih =>
    intro t x x' h hx D hD
    obtain ⟨D, rfl⟩ : ∃ m, D = m + 1 := ⟨D - 1, by omega⟩
    have hD' : d ≤ D := by omega
    unfold vkeyOk at h
    split at h
    · cases h
    rename_i i hi
    obtain ⟨ds, inf, z, hd, hinf, hz, hzv, hzs, hs, hb, hde, hw, he⟩ := (ok.info hi).ex
    rw [hde] at h
    cases ds <;> cases x <;> simp only [mkVD, reduceCtorEq] at h <;> simp only [VRel] at hx
    case struct.agg fa xs =>
      obtain ⟨xa, rfl, hxa⟩ := hx
      simp only [Bool.and_eq_true] at h
      obtain ⟨hq, hg⟩ := h
      simp only [Instr.checkKey, Sem.run_bind, run_underlying hd, Result.andThen_ok]
      rw [← Array.forIn_toList]
      generalize hfs : fa.toList = fs at hg
      have hnb : ∀ f ∈ fs, (f.name != "_") = true := by
        intro f hf; rw [← hfs] at hf; exact List.all_eq_true.1 (he hq).1 f hf
      clear hfs hd hde hw he
      induction fs with
      | nil => rfl
      | cons f fs ihf =>
        simp only [List.map_cons, vkeyFs] at hg
        split at hg
        · rename_i a ha
          simp only [Bool.and_eq_true] at hg
          obtain ⟨a', hp, hra⟩ := vpart_run ok w ha hxa
          have hne : f.name ≠ "_" := by have := hnb f (by simp); simpa using this
          have hk := ih hg.1 hra D hD'
          have hrest := ihf hg.2 (fun g hg' => hnb g (by simp [hg']))
          simp only [List.forIn_cons, ne_eq, hne, not_false_eq_true, if_true, Sem.run_bind, hp, Result.andThen_ok, hk, Sem.run_pure]
          exact hrest
        · cases hg
    all_goals (subst hx; simp only [Instr.checkKey, Sem.run_bind, run_underlying hd, Result.andThen_ok, Sem.run_pure])

theorem vlookup_run (S : Sim B β hh w) {t : TypeId} {x k v : VV} {c : Bool} {x' k' : Value} (h : vlookup T.ty hh t x k c = some v) (hx : VRel β x x') (hk : VRel β k k') :
    ∃ r, (Instr.lookup t x' k' c).run P w = .ok r w ∧ VRel β v r := by
  unfold vlookup at h
  split at h
  · cases h
  rename_i i hi
  obtain ⟨d, inf, z, hd, hinf, hz, hzv, hzs, hs, hb, hde, hw, he⟩ := (ok.info hi).ex
  split at h
  · rename_i kt et hdd
    rw [hde] at hdd
    cases d <;> simp only [mkVD, reduceCtorEq, VD.map.injEq] at hdd
    rename_i dk de
    obtain ⟨hdk, hde2⟩ := hdd
    subst hdk; subst hde2
    split at h
    · rename_i kvs ei hm hei hko
      obtain ⟨d2, inf2, z2, hd2, hinf2, hz2, hzv2, _⟩ := (ok.info hei).ex
      have hzr := toVV_rel β z2 ei.zero hzv2
      have hty : ∃ i, T.ty.get dk = some i := by
        unfold vkeyOk at hko
        split at hko
        · cases hko
        · rename_i j hj; exact ⟨j, hj⟩
      have fin : ∀ (es : Array MapEntry), KvRel β kvs es.toList →
          ∃ r, ((do Instr.checkKey es.isEmpty 10000 dk k'
                    let (v, ok) ← match ← Instr.findKey dk k' es.toList with
                      | some (_, v) => pure (v, true)
                      | none => pure (← zeroValue de, false)
                    pure (if c = true then .tuple #[v, .bool ok] else v)) : Sem Value).run P w = .ok r w ∧ VRel β v r := by
        intro es hes
        have hck := checkKey_run w ok es.isEmpty 50 hko hk 10000 (by omega)
        cases hq : vfind T.ty dk k kvs 0 with
        | none => rw [hq] at h; cases h
        | some r0 =>
          obtain ⟨r', hr', hm'⟩ := findKey_run w ok hk hty hq hes
          rw [hq] at h
          cases r0 with
          | none =>
            simp only at hm' h
            subst hm'
            cases c <;> simp only [Option.some.injEq] at h <;> subst h
            · exact ⟨z2, by simp [hck, hr', zeroValue, typeInfo, hinf2, hz2], hzr⟩
            · exact ⟨.tuple #[z2, .bool false], by simp [hck, hr', zeroValue, typeInfo, hinf2, hz2], ⟨_, rfl, VRelL.cons hzr (VRelL.cons rfl VRelL.nil)⟩⟩
          | some iv =>
            obtain ⟨i0, v0⟩ := iv
            simp only at hm' h
            obtain ⟨v', rfl, hv'⟩ := hm'
            cases c <;> simp only [Option.some.injEq] at h <;> subst h
            · exact ⟨v', by simp [hck, hr'], hv'⟩
            · exact ⟨.tuple #[v', .bool true], by simp [hck, hr'], ⟨_, rfl, VRelL.cons hv' (VRelL.cons rfl VRelL.nil)⟩⟩
      rcases mapOf_run w S hm hx with ⟨rfl, rfl⟩ | ⟨rb, es, clock, rfl, hes, hrel⟩
      · obtain ⟨r, h1, h2⟩ := fin #[] rfl
        refine ⟨r, ?_, h2⟩
        simp only [Instr.lookup, Sem.run_bind, run_underlying hd, Result.andThen_ok, Sem.run_pure] at h1 ⊢
        exact h1
      · obtain ⟨r, h1, h2⟩ := fin es hrel
        refine ⟨r, ?_, h2⟩
        have hg : (getObj rb).run P w = .ok (.map es clock) w := by simp only [getObj, Sem.run, hes]
        simp only [Instr.lookup, Sem.run_bind, run_underlying hd, Result.andThen_ok, Sem.run_pure, hg] at h1 ⊢
        exact h1
    · cases h
  · cases h

omit ok in
theorem KvRel.length {kvs : List (VV × VV)} {es : List MapEntry} : KvRel β kvs es → kvs.length = es.length := by
  induction kvs generalizing es with
  | nil => intro h; simp only [KvRel] at h; subst h; rfl
  | cons kv kvs ih => intro h; obtain ⟨e, es', rfl, _, _, h⟩ := h; simp [ih h]

theorem vlen_run (S : Sim B β hh w) {t : TypeId} {x v : VV} {x' : Value} (ats : Array TypeId) (ty : TypeId) (args : Array Value) (h : vlen T.ty hh t x = some v) (hx : VRel β x x') (h0 : ats[0]? = some t) (h1 : args[0]? = some x') :
    ∃ r, (Builtin.len_ ats ty args).run P w = .ok r w ∧ VRel β v r := by
  unfold vlen at h
  split at h
  · cases h
  rename_i i hi
  obtain ⟨d, inf, z, hd, hinf, hz, hzv, hzs, hs, hb, hde, hw, he⟩ := (ok.info hi).ex
  rw [hde] at h
  cases d <;> cases x <;> simp only [mkVD, reduceCtorEq] at h
  case string.str s =>
    simp only [VRel] at hx; subst hx; cases h
    exact ⟨_, by simp only [Builtin.len_, h0, h1, Sem.run_bind, run_underlying hd, Result.andThen_ok, Sem.run_pure, goInt], rfl⟩
  case slice.nilslice =>
    simp only [VRel] at hx; subst hx; cases h
    exact ⟨.int .i64 0, by simp [Builtin.len_, h0, h1, run_underlying hd, goInt], rfl⟩
  case slice.slice =>
    obtain ⟨bi, hbi, off', cap', rfl, _⟩ := hx; cases h
    exact ⟨_, by simp only [Builtin.len_, h0, h1, Sem.run_bind, run_underlying hd, Result.andThen_ok, Sem.run_pure, goInt], rfl⟩
  case map.nilmap =>
    simp only [VRel] at hx; subst hx; cases h
    exact ⟨.int .i64 0, by simp [Builtin.len_, h0, h1, run_underlying hd, goInt], rfl⟩
  case map.map b =>
    obtain ⟨bi, hbi, rfl⟩ := hx
    split at h
    · rename_i kvs bs cl hk
      cases h
      obtain ⟨es, clock, e1, ⟨e2, _⟩, e3⟩ := S.maps b bi kvs bs cl hbi hk
      have hg : (getObj bi.rb).run P w = .ok (.map es clock) w := by simp only [getObj, Sem.run, e1]
      have hl : kvs.length = es.size := by rw [KvRel.length e2]; simp
      exact ⟨.int .i64 kvs.length, by simp only [Builtin.len_, h0, h1, Sem.run_bind, run_underlying hd, Result.andThen_ok, Sem.run_pure, hg, goInt, hl], rfl⟩
    · cases h

omit ok in
theorem bytesOf_rel : ∀ {cs : List VV} {l : List UInt8} {xs : List Value}, bytesOf cs = some l → VRelL β cs xs → ∃ ns : List Int, xs = ns.map (Value.int .u8) ∧ l = ns.map fun n => UInt8.ofNat n.toNat
  | [], l, xs, h, hr => by
    have := hr.nil_inv; subst this
    simp only [bytesOf, Option.some.injEq] at h; subst h
    exact ⟨[], rfl, rfl⟩
  | c :: cs, l, xs, h, hr => by
    obtain ⟨x, xs', rfl, hx, hxs⟩ := hr
    cases c
    case int k n =>
      cases k
      case u8 =>
        simp only [bytesOf] at h
        split at h
        · rename_i l' hl
          cases h
          obtain ⟨ns, e1, e2⟩ := bytesOf_rel hl hxs
          simp only [VRel] at hx
          exact ⟨n :: ns, by rw [hx, e1]; rfl, by rw [e2]; rfl⟩
        · cases h
      all_goals (simp [bytesOf] at h)
    all_goals (simp [bytesOf] at h)

omit ok in
theorem foldl_push (f : Int → UInt8) : ∀ (ns : List Int) (s : ByteArray), ns.foldl (fun r n => r.push (f n)) s = ⟨s.data ++ (ns.map f).toArray⟩
  | [], s => by cases s; simp
  | n :: ns, s => by
    simp only [List.foldl_cons]
    rw [foldl_push f ns (s.push (f n))]
    cases s
    simp [ByteArray.push]

theorem vtext_run (S : Sim B β hh w) {s d : TypeId} {x v : VV} {x' : Value} (h : vtext T.ty hh s d x = some v) (hx : VRel β x x') :
    ∃ r, (convert s d x').run P w = .ok r w ∧ VRel β v r := by
  unfold vtext at h
  split at h
  · rename_i i j hi hj
    obtain ⟨ds, inf, z, hd, hinf, hz, hzv, hzs, hs, hb, hde, hw, he⟩ := (ok.info hi).ex
    obtain ⟨dj, infj, zj, hdj, g1, g2, g3, g4, g5, g6, hdej, g7, g8⟩ := (ok.info hj).ex
    split at h
    · rename_i e h1 h2
      rw [hde] at h1
      rw [hdej] at h2
      cases ds <;> simp only [mkVD, reduceCtorEq, VD.slice.injEq] at h1
      cases dj <;> simp only [mkVD, reduceCtorEq] at h2
      rename_i e'
      subst h1
      split at h
      · rename_i ei hei
        obtain ⟨de, infe, ze, hdd, f1, f2, f3, f4, f5, f6, hdee, f7, f8⟩ := (ok.info hei).ex
        split at h
        · rename_i hk
          rw [hdee] at hk
          cases de <;> simp only [mkVD, reduceCtorEq, VD.int.injEq] at hk
          subst hk
          simp only [VRel] at hx; subst hx
          cases h
          exact ⟨.string .empty, by rw [run_convert_bytes_string w s d e' none 0 0 hd hdd hdj]; rfl, rfl⟩
        · rename_i b o len cap sz hk
          rw [hdee] at hk
          cases de <;> simp only [mkVD, reduceCtorEq, VD.int.injEq] at hk
          subst hk
          obtain ⟨bi, hbi, off', cap', rfl, hoff, hlc, hsz, hcc⟩ := hx
          split at h
          · rename_i cs hsz1 hl
            split at h
            · rename_i l hbo
              cases h
              obtain ⟨xs, hr, hlen, hc⟩ := loadN_rel w S hbi hl
              obtain ⟨ns, e1, e2⟩ := bytesOf_rel hbo hr
              have hxl : xs.length = len := by rw [← hr.length, hlen]
              have hc' : ∀ q u, xs[q]? = some u → w.cell? ((⟨bi.rb, off', none⟩ : Addr).add q) = some u := by
                intro q u hq
                rcases Nat.eq_zero_or_pos len with h0 | h0
                · rw [List.getElem?_eq_none (by omega)] at hq; cases hq
                · rw [hoff (.inl (by omega))]; exact hc q u hq
              have hload := run_loadCells_list (P := P) w ⟨bi.rb, off', none⟩ xs hc'
              rw [hxl, e1] at hload
              have hrun := run_bytesToString (P := P) w ⟨bi.rb, off', none⟩ len cap' ns hload
              refine ⟨.string ⟨l.toArray⟩, ?_, rfl⟩
              rw [run_convert_bytes_string w s d e' _ len cap' hd hdd hdj, hrun, foldl_push, e2]
              simp
            · cases h
          · cases h
        · cases h
      · cases h
    · cases h
  · cases h

omit ok in
theorem stampOf_rel : ∀ {kvs : List (VV × VV)} {bs : List Nat} {es : List MapEntry} {s : Nat} {kv : VV × VV}, KvRel β kvs es → es.map (·.born) = bs → stampOf kvs bs s = some kv →
    ∃ e, es.find? (fun e => e.born == s) = some e ∧ VRel β kv.1 e.key ∧ VRel β kv.2 e.val
  | [], bs, es, s, kv, h, hb, hs => by simp [stampOf] at hs
  | k0 :: kvs, bs, es, s, kv, h, hb, hs => by
    obtain ⟨e, es', rfl, h1, h2, h3⟩ := h
    simp only [List.map_cons] at hb
    subst hb
    simp only [stampOf] at hs
    split at hs
    · rename_i hq
      cases hs
      have hq := Nat.eq_of_beq_eq_true hq
      exact ⟨e, by simp [hq], h1, h2⟩
    · rename_i hq
      obtain ⟨e2, q1, q2, q3⟩ := stampOf_rel h3 rfl hs
      refine ⟨e2, ?_, q2, q3⟩
      have : (e.born == s) = false := by
        rw [Bool.eq_false_iff]; intro hc
        have hc : e.born = s := by simpa using hc
        rw [hc] at hq; simp at hq
      rw [List.find?_cons, this]; exact q1

omit ok in
theorem ventry_run (S : Sim B β hh w) {b : Nat} {v : VV} {bi : BI} (hb : β b = some bi) (hv : ventry hh b = some v) :
    ∃ x, (Instr.entry (.pointer (some ⟨bi.rb, bi.off, none⟩))).run P w = .ok x w ∧ VRel β v x := by
  unfold ventry at hv
  split at hv
  · rename_i m since seen last hg
    obtain ⟨m', e1, ⟨e2, e3⟩, e4⟩ := S.iters b bi _ _ _ _ hb hg
    cases m' with
    | none => exact e2.elim
    | some r =>
      obtain ⟨bm, hbm, rfl⟩ := e2
      have hgo : (getObj bi.rb).run P w = .ok (.mapIter (some bm.rb) since seen.toArray last) w := by simp only [getObj, Sem.run, e1]
      split at hv
      · rename_i s kvs bs cl hsn hk
        obtain ⟨es, clock, q1, ⟨q2, ebs, rfl⟩, q3⟩ := S.maps m bm kvs bs cl hbm hk
        have hgm : (getObj bm.rb).run P w = .ok (.map es clock) w := by simp only [getObj, Sem.run, q1]
        split at hv
        · rename_i kv hcl hst
          cases hv
          have hcl := Nat.eq_of_beq_eq_true hcl
          obtain ⟨e, f1, f2, f3⟩ := stampOf_rel q2 ebs hst
          have hback : seen.toArray.back? = some s := by simpa using hsn
          have hfind : es.find? (fun e => e.born == s) = some e := by rw [← Array.find?_toList]; exact f1
          refine ⟨.tuple #[e.key, e.val], ?_, ⟨_, rfl, _, _, rfl, f2, _, _, rfl, f3, rfl⟩⟩
          rw [e3]
          simp only [Instr.entry, Sem.run_bind, hgo, hgm, Result.andThen_ok, hback, hcl, bne_self_eq_false, Bool.false_eq_true, if_false, hfind, Sem.run_pure]
        · cases hv
      · cases hv
  · cases hv

theorem vread0_run (S : Sim B β hh w) {n : Nat} {tm : Tm} {a : Act} (r : TmRel β n tm a.tmps) (o : Oper) {v : VV} (h : vread0 T tm o.op hh = some v) :
    ∃ x, (execOp a.eval o).run P w = .ok (.value x) w ∧ VRel β v x := by
  obtain ⟨dst, op, type, pos, after, guard⟩ := o
  simp only at h
  have wrap : ∀ {s : Sem Value} {x : Value}, s.run P w = .ok x w → (do pure (Next.value (← s)) : Sem Next).run P w = .ok (.value x) w := by
    intro s x hs; simp [hs]
  cases op <;> simp only [vread0, reduceCtorEq] at h
  case entry it =>
    split at h
    · rename_i b hb
      obtain ⟨bi, hbi, hx⟩ := veval_rel r hb
      rw [Nat.add_zero] at hx
      obtain ⟨res, hr, hv⟩ := ventry_run (P := P) w S hbi h
      exact ⟨res, wrap (by rw [hx]; exact hr), hv⟩
    · cases h
  case load t x =>
    split at h
    · rename_i p hp
      obtain ⟨ad, hp', res, hr, hv⟩ := vload_run w ok S h (veval_rel r hp)
      exact ⟨res, wrap (by simp only [Instr.loadAt, hp', Instr.sureAddr, Sem.run_bind, Sem.run_pure, Result.andThen_ok, hr]), hv⟩
    · cases h
  case lookup t x k c =>
    split at h
    · rename_i u1 u2 h1 h2
      obtain ⟨res, hr, hv⟩ := vlookup_run w ok S h (veval_rel r h1) (veval_rel r h2)
      exact ⟨res, wrap hr, hv⟩
    · cases h
  case convert s d x =>
    split at h
    · rename_i u hu
      obtain ⟨res, hr, hv⟩ := vtext_run w ok S h (veval_rel r hu)
      exact ⟨res, wrap hr, hv⟩
    · cases h
  case call c =>
    obtain ⟨callee, args, argTypes⟩ := c
    simp only at h
    split at h
    · rename_i _ _ _ t ts u us ht hu
      have hargs := vevals_rel r hu
      obtain ⟨x', l', he, hx, hl⟩ := hargs
      have ht0 : argTypes[0]? = some t := by rw [← Array.getElem?_toList, ht]; rfl
      have ha0 : (args.map a.eval)[0]? = some x' := by rw [← Array.getElem?_toList, Array.toList_map, he]; rfl
      obtain ⟨res, hr, hv⟩ := vlen_run w ok S argTypes type (args.map a.eval) h hx ht0 ha0
      exact ⟨res, by simp only [execOp, resolve, invoke, builtin, Sem.run_bind, Sem.run_pure, Result.andThen_ok, hr], hv⟩
    · cases h

end
end Go.Proofs.YtfempmlelmdhbaaGreat.VM
