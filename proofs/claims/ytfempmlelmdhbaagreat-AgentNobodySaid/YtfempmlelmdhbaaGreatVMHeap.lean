/- VMHeap: a part of a verified evaluator of the model's code (or of its run), used for this seat's laws; it has no conditions. -/
import Derived.Test.YtfempmlelmdhbaaGreatVMAlloc
set_option linter.all false
namespace Go.Proofs.YtfempmlelmdhbaaGreat.VM
open Go

def VObj.okLeaf : VObj → Prop
  | .cells _ cs => allLeaf cs = true
  | _ => True

/-- What lies at a place is what a virtual block says. -/
def ObjAt (β : Bt) (o : VObj) (bi : BI) (w : World) : Prop :=
  match o with
  | .dead => True
  | .cells ro cs => ∃ arr ty fz, w.heap[bi.rb]? = some (.cells arr ty fz) ∧ arr.size = bi.sz ∧ (∀ (i : Nat) (v : VV), cs[i]? = some v → ∃ x, arr[bi.off + i]? = some x ∧ VRel β v x) ∧ (ro = false → fz = (0, 0))
  | .map kvs bs cl => ∃ es clock, w.heap[bi.rb]? = some (.map es clock) ∧ MapR β kvs bs cl es clock
  | .iter m since seen last => ∃ m', w.heap[bi.rb]? = some (.mapIter m' since seen.toArray last) ∧ (ItR β m m' ∧ bi.off = 0)

section
variable {B : Nat} {β : Bt} {h : VH} {w : World}

theorem Sim.at (S : Sim B β h w) {b : Nat} {bi : BI} (hb : β b = some bi) : ObjAt β (h.get b) bi w := by
  cases ho : h.get b with
  | dead => trivial
  | cells ro cs =>
    obtain ⟨arr, ty, fz, h1, h2, h3, h4⟩ := S.cells b bi ro cs hb ho
    exact ⟨arr, ty, fz, h1, h2, h3, h4.1⟩
  | map kvs bs cl =>
    obtain ⟨es, clock, h1, h2, h3⟩ := S.maps b bi kvs bs cl hb ho
    exact ⟨es, clock, h1, h2⟩
  | iter m since seen last =>
    obtain ⟨m', h1, h2, h3⟩ := S.iters b bi m since seen last hb ho
    exact ⟨m', h1, h2⟩

theorem ObjAt.mono {β' : Bt} (hβ : β.le β') {o : VObj} {bi : BI} (a : ObjAt β o bi w) : ObjAt β' o bi w := by
  cases o with
  | dead => trivial
  | cells ro cs =>
    obtain ⟨arr, ty, fz, h1, h2, h3, h4⟩ := a
    exact ⟨arr, ty, fz, h1, h2, fun i v hv => by obtain ⟨x, hx, hr⟩ := h3 i v hv; exact ⟨x, hx, VRel.mono hβ _ _ hr⟩, h4⟩
  | map kvs bs cl =>
    obtain ⟨es, clock, h1, h2⟩ := a
    exact ⟨es, clock, h1, MapR.mono hβ h2⟩
  | iter m since seen last =>
    obtain ⟨m', h1, h2, h3⟩ := a
    exact ⟨m', h1, ItR.mono hβ h2, h3⟩

theorem ObjAt.world {o : VObj} {bi : BI} {w' : World} (hw : w'.heap[bi.rb]? = w.heap[bi.rb]?) (a : ObjAt β o bi w) : ObjAt β o bi w' := by
  cases o with
  | dead => trivial
  | cells ro cs => obtain ⟨arr, ty, fz, h1, h2⟩ := a; exact ⟨arr, ty, fz, by rw [hw]; exact h1, h2⟩
  | map kvs bs cl => obtain ⟨es, clock, h1, h2⟩ := a; exact ⟨es, clock, by rw [hw]; exact h1, h2⟩
  | iter m since seen last => obtain ⟨m', h1, h2⟩ := a; exact ⟨m', by rw [hw]; exact h1, h2⟩

/-- Sim out of its parts. -/
theorem Sim.mk' (hat : ∀ b bi, β b = some bi → ObjAt β (h.get b) bi w) (hbase : ∀ b bi, β b = some bi → (h.get b).live = true → B ≤ bi.rb)
    (hleaf : ∀ b, (h.get b).okLeaf) (hdisj : ∀ b b' bi bi', b ≠ b' → β b = some bi → β b' = some bi' → (h.get b).rw = true → (h.get b').live = true → bi.rb ≠ bi'.rb)
    (hlow : ∀ b bi, β b = some bi → b < h.next ∧ bi.rb < w.heap.size) (hwf : ∀ b, h.next ≤ b → h.get b = .dead) (hsm : h.next ≤ 1000000001) (hB : B ≤ w.heap.size) : Sim B β h w := by
  refine ⟨?_, ?_, ?_, ?_, hdisj, hlow, hwf, hsm, hB⟩
  · intro b bi ro cs hb ho
    have ha := hat b bi hb
    rw [ho] at ha
    obtain ⟨arr, ty, fz, h1, h2, h3, h4⟩ := ha
    exact ⟨arr, ty, fz, h1, h2, h3, h4, hbase b bi hb (by rw [ho]; rfl)⟩
  · intro b ro cs ho
    have := hleaf b
    rw [ho] at this; exact this
  · intro b bi kvs bs cl hb ho
    have ha := hat b bi hb
    rw [ho] at ha
    obtain ⟨es, clock, h1, h2⟩ := ha
    exact ⟨es, clock, h1, h2, hbase b bi hb (by rw [ho]; rfl)⟩
  · intro b bi m since seen last hb ho
    have ha := hat b bi hb
    rw [ho] at ha
    obtain ⟨m', h1, h2⟩ := ha
    exact ⟨m', h1, h2, hbase b bi hb (by rw [ho]; rfl)⟩

theorem Sim.baseOf (S : Sim B β h w) {b : Nat} {bi : BI} (hb : β b = some bi) (hr : (h.get b).live = true) : B ≤ bi.rb := by
  cases ho : h.get b with
  | dead => rw [ho] at hr; cases hr
  | cells ro cs =>
    obtain ⟨arr, ty, fz, h1, h2, h3, h4⟩ := S.cells b bi ro cs hb ho
    exact h4.2
  | map kvs bs cl => obtain ⟨es, clock, h1, h2, h3⟩ := S.maps b bi kvs bs cl hb ho; exact h3
  | iter m since seen last => obtain ⟨m', h1, h2, h3⟩ := S.iters b bi m since seen last hb ho; exact h3

theorem Sim.okLeaf (S : Sim B β h w) (b : Nat) : (h.get b).okLeaf := by
  cases ho : h.get b with
  | dead => trivial
  | cells ro cs => exact S.leaf b ro cs ho
  | map kvs bs cl => trivial
  | iter m since seen last => trivial

theorem Sim.sameHeap (S : Sim B β h w) {w' : World} (hw : w'.heap = w.heap) : Sim B β h w' :=
  Sim.mk' (fun b bi hb => (S.at hb).world (by rw [hw])) (fun b bi hb => S.baseOf hb) S.okLeaf S.disj (fun b bi hb => by rw [hw]; exact S.low b bi hb) S.wf S.small (by rw [hw]; exact S.base)

theorem Sim.push (S : Sim B β h w) {w' : World} {rob : Obj} (hw : w'.heap = w.heap.push rob) : Sim B β h w' := by
  refine Sim.mk' (fun b bi hb => (S.at hb).world ?_) (fun b bi hb => S.baseOf hb) S.okLeaf S.disj (fun b bi hb => ⟨(S.low b bi hb).1, ?_⟩) S.wf S.small ?_
  · rw [hw, Array.getElem?_push, if_neg (by have := (S.low b bi hb).2; omega)]
  · rw [hw, Array.size_push]; have := (S.low b bi hb).2; omega
  · rw [hw, Array.size_push]; have := S.base; omega

/-- More places on the virtual side that nothing real answers to yet. -/
theorem Sim.newWeak (S : Sim B β h w) (hr : h.next ≤ 1000000000) {o : VObj} (hl : o.okLeaf) : Sim B β (h.new o) w := by
  have hn : h.next < 2 ^ 39 := by omega
  have hg : ∀ b bi, β b = some bi → (h.new o).get b = h.get b := by
    intro b bi hb
    rw [VH.get_new h b o hn, if_neg (by have := (S.low b bi hb).1; omega)]
  refine Sim.mk' (fun b bi hb => by rw [hg b bi hb]; exact S.at hb) (fun b bi hb => by rw [hg b bi hb]; exact S.baseOf hb) ?_ ?_ (fun b bi hb => ⟨?_, (S.low b bi hb).2⟩) ?_ ?_ S.base
  · intro b
    rw [VH.get_new h b o hn]
    split
    · exact hl
    · exact S.okLeaf b
  · intro b b' bi bi' hne hb hb'
    rw [hg b bi hb, hg b' bi' hb']
    exact S.disj b b' bi bi' hne hb hb'
  · show b < h.next + 1; have := (S.low b bi hb).1; omega
  · intro b hb
    have hb' : h.next + 1 ≤ b := hb
    rw [VH.get_new h b o hn, if_neg (by omega)]
    exact S.wf b (by omega)
  · show h.next + 1 ≤ _; omega

/-- A virtual block that exists gets its real place. -/
theorem Sim.addAt (S : Sim B β h w) {nb : Nat} {bi : BI} (hn : β nb = none) (hlt : nb < h.next) (ha : ObjAt β (h.get nb) bi w) (hB : (h.get nb).live = true → B ≤ bi.rb) (hrb : bi.rb < w.heap.size)
    (hd : ∀ x bx, β x = some bx → (h.get x).live = true → bx.rb ≠ bi.rb) : Sim B (β.add nb bi) h w := by
  have hle : β.le (β.add nb bi) := Bt.le_add hn bi
  refine Sim.mk' ?_ ?_ S.okLeaf ?_ ?_ S.wf S.small S.base
  · intro b bj hb
    by_cases e : b = nb
    · subst e; rw [Bt.add_self] at hb; cases hb; exact ha.mono hle
    · rw [Bt.add_ne _ _ e] at hb; exact (S.at hb).mono hle
  · intro b bj hb hr
    by_cases e : b = nb
    · subst e; rw [Bt.add_self] at hb; cases hb; exact hB hr
    · rw [Bt.add_ne _ _ e] at hb; exact S.baseOf hb hr
  · intro b b' bj bj' hne hb hb' hr hl
    have live_of : ∀ x, (h.get x).rw = true → (h.get x).live = true := by intro x hx; cases hg : h.get x <;> simp [hg, VObj.rw] at hx <;> rfl
    by_cases e : b = nb
    · subst e
      rw [Bt.add_self] at hb; cases hb
      rw [Bt.add_ne _ _ (Ne.symm hne)] at hb'
      exact fun h => hd b' bj' hb' hl h.symm
    · rw [Bt.add_ne _ _ e] at hb
      by_cases e' : b' = nb
      · subst e'
        rw [Bt.add_self] at hb'; cases hb'
        exact hd b bj hb (live_of b hr)
      · rw [Bt.add_ne _ _ e'] at hb'
        exact S.disj b b' bj bj' hne hb hb' hr hl
  · intro b bj hb
    by_cases e : b = nb
    · subst e; rw [Bt.add_self] at hb; cases hb; exact ⟨hlt, hrb⟩
    · rw [Bt.add_ne _ _ e] at hb; exact S.low b bj hb

theorem VObj.live_of_rw {o : VObj} (h : o.rw = true) : o.live = true := by cases o <;> simp [VObj.rw] at h <;> rfl

/-- A block is written. -/
theorem Sim.update (S : Sim B β h w) {b : Nat} {bi : BI} {o' : VObj} {w' : World} (hb : β b = some bi) (hr : (h.get b).rw = true) (ho : o'.okLeaf) (ha : ObjAt β o' bi w')
    (hother : ∀ r, r ≠ bi.rb → w'.heap[r]? = w.heap[r]?) (hsize : w'.heap.size = w.heap.size) : Sim B β (h.put b o') w' := by
  have hlt : b < 2 ^ 39 := by have := (S.low b bi hb).1; have := S.small; omega
  have hg := fun x => VH.get_put h b x o' hlt
  have rw_of : ∀ x, ((h.put b o').get x).rw = true → (h.get x).rw = true := by
    intro x hx
    rw [hg] at hx
    split at hx
    · rename_i e; subst e; exact hr
    · exact hx
  have live_of : ∀ x, ((h.put b o').get x).live = true → (h.get x).live = true := by
    intro x hx
    rw [hg] at hx
    split at hx
    · rename_i e; subst e; exact VObj.live_of_rw hr
    · exact hx
  refine Sim.mk' ?_ (fun x bx hx hrx => S.baseOf hx (live_of x hrx)) ?_ (fun x y bx by' hne hx hy h1 h2 => S.disj x y bx by' hne hx hy (rw_of x h1) (live_of y h2)) (fun x bx hx => by rw [hsize]; exact S.low x bx hx) ?_ S.small (by rw [hsize]; exact S.base)
  · intro x bx hx
    rw [hg]
    split
    · rename_i e; subst e; rw [hb] at hx; cases hx; exact ha
    · rename_i e
      cases hl : (h.get x).live with
      | false =>
        cases ho : h.get x with
        | dead => trivial
        | cells _ _ => rw [ho] at hl; cases hl
        | map _ _ _ => rw [ho] at hl; cases hl
        | iter _ _ _ _ => rw [ho] at hl; cases hl
      | true => exact (S.at hx).world (hother _ (fun e2 => S.disj b x bi bx e hb hx hr hl e2.symm))
  · intro x
    rw [hg]
    split
    · exact ho
    · exact S.okLeaf x
  · intro x hx
    have hx' : h.next ≤ x := hx
    rw [hg, if_neg (by have := (S.low b bi hb).1; omega)]
    exact S.wf x hx'

theorem Sim.kill (S : Sim B β h w) {b : Nat} (hlt : b < h.next) : Sim B β (h.put b .dead) w := by
  have hlt' : b < 2 ^ 39 := by have := S.small; omega
  have hg := fun x => VH.get_put h b x .dead hlt'
  have rw_of : ∀ x, ((h.put b .dead).get x).rw = true → (h.get x).rw = true := by
    intro x hx; rw [hg] at hx; split at hx
    · cases hx
    · exact hx
  have live_of : ∀ x, ((h.put b .dead).get x).live = true → (h.get x).live = true := by
    intro x hx; rw [hg] at hx; split at hx
    · cases hx
    · exact hx
  refine Sim.mk' ?_ (fun x bx hx hrx => S.baseOf hx (live_of x hrx)) ?_ (fun x y bx by' hne hx hy h1 h2 => S.disj x y bx by' hne hx hy (rw_of x h1) (live_of y h2)) S.low ?_ S.small S.base
  · intro x bx hx
    rw [hg]
    split
    · trivial
    · exact S.at hx
  · intro x
    rw [hg]
    split
    · trivial
    · exact S.okLeaf x
  · intro x hx
    rw [hg]
    split
    · rfl
    · exact S.wf x hx

end
end Go.Proofs.YtfempmlelmdhbaaGreat.VM
