/- The abstract machine, part 16: a region in a drawn order. -/
import Derived.Test.YtkfoibidnkfndaaGreatDoorAbA14
set_option linter.unusedSimpArgs false
namespace Go.Abs
open Go.RowKit

section
variable {P : Program} {w0 : World}

def PinOK (w0 : World) (ρ : Ren) (h : Heap) (cells : List Addr) (c : World → Prop) : Prop :=
  (∀ x, x ∈ cells → ∃ u, h.cell? x = some u) ∧ ∀ (ρ2 : Ren) (h2 : Heap) (w2 : World), Ren.le ρ ρ2 → HRel w0 ρ2 h2 w2 → (∀ x, x ∈ cells → ∀ u, h.cell? x = some u → h2.cell? x = some u) → c w2

inductive RpRel (w0 : World) (ρ : Ren) (h : Heap) : Pins → Held → Prop
  | nil : RpRel w0 ρ h [] []
  | cons (i : Nat) {cells : List Addr} {c : World → Prop} {rp : Pins} {T : Held} (hp : PinOK w0 ρ h cells c) (t : RpRel w0 ρ h rp T) : RpRel w0 ρ h ((i, cells) :: rp) ((i, c) :: T)
  | skip (i : Nat) {c : World → Prop} {rp : Pins} {T : Held} (hc : ∀ w, c w) (t : RpRel w0 ρ h rp T) : RpRel w0 ρ h rp ((i, c) :: T)

theorem RpRel.unpin {ops : Array Oper} {ρ : Ren} {h : Heap} {rp : Pins} {T : Held} (j : Nat) (hrp : RpRel w0 ρ h rp T) : RpRel w0 ρ h (unpin ops j rp) (unheld ops j T) := by
  unfold Abs.unpin unheld
  induction hrp with
  | nil => exact .nil
  | @cons i cells c rp T hp _ ih =>
    rw [List.filter_cons, List.filter_cons]
    simp only
    split
    · exact .cons i hp ih
    · exact ih
  | @skip i c rp T hc _ ih =>
    rw [List.filter_cons]
    split
    · exact .skip i hc ih
    · exact ih

theorem RpRel.holds {ρ : Ren} {h : Heap} {w : World} {rp : Pins} {T : Held} (hrp : RpRel w0 ρ h rp T) (hr : HRel w0 ρ h w) : holds T w := by
  induction hrp with
  | nil => intro x hx; cases hx
  | cons i hp _ ih =>
    intro x hx
    rcases List.mem_cons.1 hx with rfl | hx
    · exact hp.2 ρ h w (Ren.le_refl _) hr fun _ _ _ e => e
    · exact ih x hx
  | skip i hc _ ih =>
    intro x hx
    rcases List.mem_cons.1 hx with rfl | hx
    · exact hc w
    · exact ih x hx

theorem RpRel.from {ρ ρ2 : Ren} {h h2 : Heap} {rp : Pins} {T : Held} (hrp : RpRel w0 ρ h rp T) (hl : Ren.le ρ ρ2) (p : List Addr) : (∀ x, x ∈ pinsOf rp p → ∀ u, h.cell? x = some u → h2.cell? x = some u) → RpRel w0 ρ2 h2 rp T := by
  induction hrp with
  | nil => intro _; exact .nil
  | @cons i cells c rp T hp _ ih =>
    intro hk
    have h1 : ∀ x, x ∈ cells → ∀ u, h.cell? x = some u → h2.cell? x = some u := fun x hx => hk x (by simp only [pinsOf]; exact List.mem_append_left _ hx)
    refine .cons i ⟨fun x hx => ?_, fun ρ3 h3 w3 hl3 hr3 hk3 => ?_⟩ (ih fun x hx => hk x (by simp only [pinsOf]; exact List.mem_append_right _ hx))
    · obtain ⟨u, hu⟩ := hp.1 x hx
      exact ⟨u, h1 x hx u hu⟩
    · exact hp.2 ρ3 h3 w3 (Ren.le_trans hl hl3) hr3 fun x hx u hu => hk3 x hx u (h1 x hx u hu)
  | skip i hc _ ih => intro hk; exact .skip i hc (ih hk)

theorem pinsOf_base {rp : Pins} {p : List Addr} : ∀ {x}, x ∈ p → x ∈ pinsOf rp p := by
  induction rp with
  | nil => intro x hx; exact hx
  | cons y rp ih => intro x hx; simp only [pinsOf]; exact List.mem_append_right _ (ih hx)

theorem setT_comm (a : Array Bool) (i j : Nat) : (a.setIfInBounds i true).setIfInBounds j true = (a.setIfInBounds j true).setIfInBounds i true := by
  by_cases hij : i = j
  · subst hij; rfl
  · exact Array.setIfInBounds_comm _ _ hij

theorem listedOf_cons (n i : Nat) (l : List Nat) : listedOf n (i :: l) = (listedOf n l).setIfInBounds i true := by
  unfold listedOf
  rw [List.foldl_cons]
  generalize Array.replicate n false = b
  induction l generalizing b with
  | nil => rfl
  | cons j l ih => rw [List.foldl_cons, List.foldl_cons, setT_comm, ih]

theorem pins_rel {ρ : Ren} {h : Heap} {w : World} (hr : HRel w0 ρ h w) (p : List Addr) : HRel w0 ρ { h with pins := p } w := ⟨hr.below, hr.objs, hr.sep, hr.fresh⟩

/-- The ways out that are let in. -/
def calmQ (Q' : Exit → Act → World → Prop) (e : Exit) (a : Act) (w : World) : Prop := calm e ∧ Q' e a w

theorem moveOf_done {ops : Array Oper} {l : List Nat} (h : moveOf P ops l = .done) : Region.ready .any ops (listedOf ops.size l) = [] := by
  unfold moveOf at h
  split at h
  · assumption
  · split at h <;> cases h

theorem moveOf_all {ops : Array Oper} {l rs : List Nat} (h : moveOf P ops l = .all rs) : Region.ready .any ops (listedOf ops.size l) = rs ∧ rs ≠ [] := by
  unfold moveOf at h
  split at h
  · cases h
  · rename_i r rs' hr
    split at h
    · cases h
    · cases h
      exact ⟨hr, by simp⟩

theorem moveOf_take {ops : Array Oper} {l : List Nat} {i : Nat} (h : moveOf P ops l = .take i) : i ∈ Region.ready .any ops (listedOf ops.size l) ∧ Region.free .any ops (listedOf ops.size l) i = true := by
  unfold moveOf at h
  split at h
  · cases h
  · rename_i r rs' hr
    split at h
    · rename_i j hj
      cases h
      have h1 := List.find?_some hj
      have h2 := List.mem_of_find?_eq_some hj
      simp only [Bool.and_eq_true] at h1
      exact ⟨by rw [hr]; exact h2, h1.2⟩
    · cases h

theorem any_in {X : Exts} {L : Lvl} (hX : ExtOK P X) (hL : Sound P w0 L) {G : Nat} {rd rd' : Option Nat} {ops : Array Oper} {Q : Exit → Act → Heap → Prop} {Q' : Exit → Act → World → Prop} {p0 : List Addr} {h0 : Heap} {ρ0 : Ren}
    (hok : ∀ o, o ∈ ops.toList → okOp G o.op = true) (hQ : QRel w0 ρ0 h0 Q Q') (hp0 : h0.pins = p0) :
    ∀ (f : Nat) (l : List Nat) (rp : Pins) (T : Held) (a a' : Act) (h : Heap) (w : World) (ρ : Ren), GRel G ρ → GRel P.globals.size ρ → RdRel ρ rd rd' → HRel w0 ρ h w → ActRel ρ a a' → Ren.le ρ0 ρ →
      (∀ x, x ∈ p0 → ∀ u, h0.cell? x = some u → h.cell? x = some u) → h0.next ≤ h.next → RpRel w0 ρ h rp T → Closed ops (listedOf ops.size l) → aAny P X L rd ops p0 Q f l rp a h →
      wpT (fence rd') 0 P ops (calmQ Q') f (listedOf ops.size l) T a' w := by
  have hsel : ∀ (j : Nat) (o : Oper) cs b, ops[j]? = some o → o.op ≠ .select cs b := by
    intro j o cs b ho hs
    have := hok o (by simpa using Array.mem_of_getElem? ho)
    rw [hs] at this
    simp [okOp, noSel] at this
  have hF : ∀ f, (fence rd').fn f := fence_fn rd'
  have fin : ∀ (a a' : Act) (h : Heap) (w : World) (ρ : Ren), HRel w0 ρ h w → ActRel ρ a a' → Ren.le ρ0 ρ → (∀ x, x ∈ p0 → ∀ u, h0.cell? x = some u → h.cell? x = some u) → h0.next ≤ h.next → Q .normal a { h with pins := p0 } → calmQ Q' .normal a' w := by
    intro a a' h w ρ hr ha hl hk hn hq
    exact ⟨trivial, hQ .normal trivial ρ a a' _ w hl (pins_rel hr p0) ha ⟨hp0.symm, fun x u hx hu => hk x (by rw [← hp0]; exact hx) u hu, hn⟩ hq⟩
  intro f
  induction f with
  | zero =>
    intro l rp T a a' h w ρ hgG hg hrd hr ha hl hk hn hrp hcl hq
    unfold aAny at hq
    split at hq
    · rename_i hm
      exact ⟨moveOf_done hm, fin a a' h w ρ hr ha hl hk hn hq⟩
    · exact hq.elim
  | succ f ih =>
    intro l rp T a a' h w ρ hgG hg hrd hr ha hl hk hn hrp hcl hq
    unfold aAny at hq
    split at hq
    · rename_i hm
      refine ⟨fun _ => fin a a' h w ρ hr ha hl hk hn hq, fun j hj => ?_⟩
      rw [moveOf_done hm] at hj
      cases hj
    · rename_i i hm
      obtain ⟨hrdy, hfree⟩ := moveOf_take hm
      cases ho : ops[i]? with
      | none => rw [ho] at hq; exact hq.elim
      | some o =>
        rw [ho] at hq
        simp only at hq
        have hmem : o ∈ ops.toList := by simpa using Array.mem_of_getElem? ho
        have hcl' : Closed ops (listedOf ops.size (i :: l)) := by rw [listedOf_cons]; exact hcl.set hrdy
        have first : ∀ {c : World → Prop} {v : Value}, YieldsAt (fence rd') P ops c o v a' → c w → wpT (fence rd') 0 P ops (calmQ Q') f (listedOf ops.size (i :: l)) ((i, c) :: T) (a'.put o.dst v) w → wpT (fence rd') 0 P ops (calmQ Q') (f + 1) (listedOf ops.size l) T a' w := by
          intro c v hy hc H
          rw [listedOf_cons] at H
          exact wpT_first hF ho hsel (fun ch a w hp => hp.1.elim) f _ T a' w hcl (Region.free_spec ho hfree) hrdy hy hc (hrp.holds hr) H
        cases hw : Region.wanted o (yielded ops a.tmps) with
        | false =>
          rw [hw] at hq
          simp only [cond_false] at hq
          refine first (c := fun _ => True) (v := undef) (.inr ⟨by rw [wanted_rel ha.tmps, hw], rfl⟩) trivial ?_
          exact ih (i :: l) rp _ _ _ h w ρ hgG hg hrd hr (ha.put o.dst undef_rel) hl hk hn (.skip i (fun _ => trivial) hrp) hcl' hq
        | true =>
          rw [hw] at hq
          simp only [cond_true] at hq
          have hw' : Region.wanted o (yielded ops a'.tmps) = true := by rw [wanted_rel ha.tmps, hw]
          have hev := ha.eval hgG
          cases hc0 : Nat.beq (classOf P o.op) 0 with
          | true =>
            rw [hc0] at hq
            simp only [cond_true] at hq
            split at hq
            · rename_i v hv
              obtain ⟨v', h1, h2⟩ := pureOp_yes hev (hok o hmem) (Nat.eq_of_beq_eq_true hc0) hv
              have hnd : ∀ c, o.op ≠ .defer c := fun c hc => by
                rw [hc] at hc0; simp [classOf] at hc0
              refine first (c := fun _ => True) (v := v') (.inl ⟨hw', fun w1 _ => ?_⟩) trivial ?_
              · rw [Oper.semAt_eq _ _ _ hnd]; exact h1 w1
              · exact ih (i :: l) rp _ _ _ h w ρ hgG hg hrd hr (ha.put o.dst h2) hl hk hn (.skip i (fun _ => trivial) hrp) hcl' hq
            · exact hq.elim
          | false =>
            rw [hc0] at hq
            simp only [cond_false] at hq
            split at hq
            · rename_i t x hop
              split at hq
              · rename_i ad had
                obtain ⟨v, hq, hcells, hall⟩ := loadS_inv (w0 := w0) hq
                obtain ⟨ad', e1, e2⟩ := addrOf_inv had (hev x (okOp_mem (hok o hmem) (by rw [hop]; simp [Op.operands])))
                obtain ⟨v', h1, h2⟩ := hall ρ h w ad' hr e2 fun _ _ _ e => e
                have hsem : ∀ w1, (o.semAt (fence rd').round a'.eval).run P w1 = ((loadVar t ad') >>= fun v => Pure.pure (.value v) : Sem Next).run P w1 := by
                  intro w1
                  rw [Oper.semAt_eq _ _ _ (fun c hc => by rw [hop] at hc; cases hc)]
                  simp only [execOp, hop, e1]
                  rfl
                refine first (c := fun w1 => (loadVar t ad').run P w1 = .ok v' w1) (v := v') (.inl ⟨hw', fun w1 hw1 => ?_⟩) h2 ?_
                · rw [hsem w1, Sem.run_bind, hw1]; rfl
                · refine ih (i :: l) ((i, loadsOf P t ad) :: rp) _ _ _ h w ρ hgG hg hrd hr (ha.put o.dst h1) hl hk hn (.cons i ⟨hcells, fun ρ2 h2' w2 hl2 hr2 hk2 => ?_⟩ hrp) hcl' hq
                  obtain ⟨v2, y1, y2⟩ := hall ρ2 h2' w2 ad' hr2 (e2.mono hl2) hk2
                  have := h1.one hl2 y1
                  subst this
                  exact y2
              · exact hq.elim
            · exact hq.elim
    · rename_i rs hm
      obtain ⟨hrs, hne⟩ := moveOf_all hm
      refine ⟨fun h0 => absurd (hrs ▸ h0) hne, fun j hj => ?_⟩
      have hqj := aAll_iff hq j (by rw [← hrs]; exact hj)
      refine at_in hX hL hok hgG hg hrd (pins_rel hr _) ha ?_ hqj
      intro ρ2 a2 a2' h2 w2 hl2 hr2 ha2 hk2 hq2
      have hkeep : ∀ x, x ∈ pinsOf (unpin ops j rp) p0 → ∀ u, h.cell? x = some u → h2.cell? x = some u := fun x hx u hu => hk2.cells x u hx hu
      have hrp2 : RpRel w0 ρ2 h2 (unpin ops j rp) (unheld ops j T) := (hrp.unpin j).from hl2 p0 hkeep
      refine ⟨hrp2.holds hr2, ?_⟩
      rw [← listedOf_cons]
      refine ih (j :: l) (unpin ops j rp) (unheld ops j T) a2 a2' h2 w2 ρ2 (hgG.mono hl2) (hg.mono hl2) (hrd.mono hl2) hr2 ha2 (Ren.le_trans hl hl2) ?_ (Nat.le_trans hn hk2.next) hrp2 ?_ hq2
      · exact fun x hx u hu => hkeep x (pinsOf_base hx) u (hk x hx u hu)
      · rw [listedOf_cons]; exact hcl.set hj

end
end Go.Abs
