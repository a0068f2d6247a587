/- The abstract machine, part 20: the semantic level: rules with no fuel. -/
import Derived.Test.YtkfoibidnkfndaaGreatDoorAbA18
set_option linter.unusedSimpArgs false
set_option linter.unusedVariables false
namespace Go.Abs
open Go.RowKit

/-- What holds of the model, as a level of the machine. -/
def top (P : Program) (w0 : World) : Lvl where
  call f args h R := ∀ (args' : Array Value) (w : World) (ρ : Ren), GRel P.globals.size ρ → HRel w0 ρ h w → ARel ρ args args' →
    CallsIn Fence.wide 0 P f args' w fun e w2 => ∃ v v' ρ2 h2, e = .returned v' ∧ Ren.le ρ ρ2 ∧ HRel w0 ρ2 h2 w2 ∧ VRel ρ2 v v' ∧ Keep h h2 ∧ R v h2
  callD f args h R := ∀ (args' : Array Value) (w : World) (ρ : Ren), GRel P.globals.size ρ → HRel w0 ρ h w → ARel ρ args args' →
    CallsDIn Fence.wide 0 P f args' .returning w fun e u w2 => u = .returning ∧ ∃ v' ρ2 h2, e = .returned v' ∧ Ren.le ρ ρ2 ∧ HRel w0 ρ2 h2 w2 ∧ Keep h h2 ∧ R h2
  code rd c Q a h := ∀ (G : Nat) (rd' : Option Nat) (Q' : Exit → Act → World → Prop) (a' : Act) (w : World) (ρ : Ren), okCode G c = true → GRel G ρ → GRel P.globals.size ρ → RdRel ρ rd rd' → HRel w0 ρ h w → ActRel ρ a a' → QRel w0 ρ h Q Q' →
    c.wpIn (fence rd') 0 P Q' a' w

section
variable {P : Program} {w0 : World}

theorem top_sound : Sound P w0 (top P w0) :=
  ⟨fun G rd rd' c Q Q' a a' h w ρ x1 x2 x3 x4 x5 x6 x7 hq => hq G rd' Q' a' w ρ x1 x2 x3 x4 x5 x6 x7,
   fun f args args' h w ρ R x1 x2 x3 hq => hq args' w ρ x1 x2 x3,
   fun f args args' h w ρ R x1 x2 x3 hq => hq args' w ρ x1 x2 x3⟩

theorem Sound.top_call {L : Lvl} (hL : Sound P w0 L) {f : FuncId} {args : Array Value} {h : Heap} {R : Value → Heap → Prop} (hq : L.call f args h R) : (top P w0).call f args h R :=
  fun args' w ρ x1 x2 x3 => hL.call f args args' h w ρ R x1 x2 x3 hq

theorem Sound.top_code {L : Lvl} (hL : Sound P w0 L) {rd : Option Nat} {c : Code} {Q : Exit → Act → Heap → Prop} {a : Act} {h : Heap} (hq : L.code rd c Q a h) : (top P w0).code rd c Q a h :=
  fun G rd' Q' a' w ρ x1 x2 x3 x4 x5 x6 x7 => hL.code G rd rd' c Q Q' a a' h w ρ x1 x2 x3 x4 x5 x6 x7 hq

theorem code_step {X : Exts} (hX : ExtOK P X) {L : Lvl} (hL : Sound P w0 L) {rd : Option Nat} {c : Code} (hnl : ∀ c0, c ≠ .loop c0) {Q : Exit → Act → Heap → Prop} {a : Act} {h : Heap} (hq : aCode P X L rd c Q a h) : (top P w0).code rd c Q a h := by
  intro G rd' Q' a' w ρ hok hgG hg hrd hr ha hQ
  cases c with
  | skip => exact wpIn_skip (hQ .normal trivial ρ a a' h w (Ren.le_refl _) hr ha (Keep.refl _) hq)
  | label l => exact wpIn_label (hQ .normal trivial ρ a a' h w (Ren.le_refl _) hr ha (Keep.refl _) hq)
  | exit id => exact wpIn_exit (hQ (.exit id) trivial ρ a a' h w (Ren.le_refl _) hr ha (Keep.refl _) hq)
  | goto l => exact wpIn_goto (hQ (.goto l) trivial ρ a a' h w (Ren.le_refl _) hr ha (Keep.refl _) hq)
  | ret => exact wpIn_ret (hQ .ret trivial ρ a a' h w (Ren.le_refl _) hr ha (Keep.refl _) hq)
  | region id ops draw =>
    cases draw with
    | false => exact wpIn_region (ops_in hX hL (okCode_ops hok) _ a a' h w ρ hgG hg hrd hr ha hQ hq)
    | true =>
      have hr1 : HRel w0 ρ h { w with drawn := w.drawn + 1 } := hr.drew rfl rfl rfl rfl
      have := any_in hX hL (okCode_ops hok) hQ rfl ops.size [] [] [] a a' h _ ρ hgG hg hrd hr1 ha (Ren.le_refl _) (fun _ _ _ e => e) (Nat.le_refl _) .nil closed_none hq
      exact wpIn_mono (wpIn_region_any hX.mixed (wpT_any _ _ _ _ _ this)) fun e a w he => he.2
  | seq x y =>
    simp only [okCode, Bool.and_eq_true] at hok
    refine wpIn_seq (hL.code G rd rd' x _ _ a a' h w ρ hok.1 hgG hg hrd hr ha ?_ hq)
    intro e he ρ2 a2 a2' h2 w2 hl2 hr2 ha2 hk2 hq2
    cases e with
    | normal => exact hL.code G rd rd' y _ _ a2 a2' h2 w2 ρ2 hok.2 (hgG.mono hl2) (hg.mono hl2) (hrd.mono hl2) hr2 ha2 (hQ.from hl2 hk2) hq2
    | panic => exact he.elim
    | outgrown => exact he.elim
    | exit id => exact hQ _ he ρ2 a2 a2' h2 w2 hl2 hr2 ha2 hk2 hq2
    | goto id => exact hQ _ he ρ2 a2 a2' h2 w2 hl2 hr2 ha2 hk2 hq2
    | ret => exact hQ _ he ρ2 a2 a2' h2 w2 hl2 hr2 ha2 hk2 hq2
  | cond c x y =>
    simp only [okCode, Bool.and_eq_true] at hok
    have hc := ha.eval hgG c hok.1.1
    unfold aCode at hq
    simp only at hq
    cases hv : a.eval c <;> rw [hv] at hq <;> first | exact hq.elim | skip
    rename_i b
    rw [hv] at hc
    have hc' : a'.eval c = .bool b := by
      generalize a'.eval c = v at hc
      cases hc
      rfl
    cases b with
    | true => exact wpIn_cond_true hc' (hL.code G rd rd' x _ _ a a' h w ρ hok.1.2 hgG hg hrd hr ha hQ hq)
    | false => exact wpIn_cond_false hc' (hL.code G rd rd' y _ _ a a' h w ρ hok.2 hgG hg hrd hr ha hQ hq)
  | block id c =>
    refine wpIn_block (hL.code G rd rd' c _ _ a a' h w ρ hok hgG hg hrd hr ha ?_ hq)
    intro e he ρ2 a2 a2' h2 w2 hl2 hr2 ha2 hk2 hq2
    cases e with
    | exit id' =>
      simp only [exBlock] at hq2
      show if id' = id then _ else _
      rcases beq_cases id' id with ⟨e1, e2⟩ | ⟨e1, e2⟩
      · rw [e2] at hq2
        rw [if_pos e1]
        exact hQ .normal trivial ρ2 a2 a2' h2 w2 hl2 hr2 ha2 hk2 hq2
      · rw [e2] at hq2
        rw [if_neg e1]
        exact hQ (.exit id') trivial ρ2 a2 a2' h2 w2 hl2 hr2 ha2 hk2 hq2
    | panic => exact he.elim
    | outgrown => exact he.elim
    | normal => exact hQ _ he ρ2 a2 a2' h2 w2 hl2 hr2 ha2 hk2 hq2
    | goto id => exact hQ _ he ρ2 a2 a2' h2 w2 hl2 hr2 ha2 hk2 hq2
    | ret => exact hQ _ he ρ2 a2 a2' h2 w2 hl2 hr2 ha2 hk2 hq2
  | loop c => exact (hnl c rfl).elim
  | rangeFunc g ps assign body =>
    simp only [okCode, Bool.and_eq_true] at hok
    refine wpIn_rangeFunc fun fn _ => ?_
    have hq' : aRange P X L rd g ps assign body Q a h := hq
    unfold aRange at hq'
    obtain ⟨ρ1, x, x', h1, w1, x1, x2, ⟨x3, x3'⟩, x4, x5, x6⟩ := enter_out (fn := fn) hr hrd ha.tmps hok.1.2 hok.2 hgG hq'
    obtain ⟨l, mk⟩ := x
    obtain ⟨l', mk'⟩ := x'
    simp only at x3 x3' x6
    have hgv := (ha.mono x1).eval (hgG.mono x1) g hok.1.1
    cases hv : a.eval g <;> rw [hv] at x6 <;> first | exact x6.elim | skip
    rename_i gf first cap
    rw [hv] at hgv
    cases hv' : a'.eval g with
    | func gf' first' cap' =>
      rw [hv'] at hgv
      cases hgv with
      | func k1 k2 k3 k4 k5 =>
        simp only at x6
        have hyield : VRel ρ1 (.func (.yield l) #[] #[]) (.func (.yield l') #[] #[]) := .func (.yield x3) rfl (fun i v v' e => by simp at e) rfl (fun i v v' e => by simp at e)
        have hargs : LRel ρ1 (first.toList ++ [.func (.yield l) #[] #[]]) (first'.toList ++ [.func (.yield l') #[] #[]]) := (ARel.list ⟨k2, k3⟩).append (.cons hyield .nil)
        obtain ⟨ρ2, nx, nx', h2, w2, y1, y2, y3, y4, y5, y6⟩ := target_out hX k1 ⟨k4, k5⟩ hargs x4 x6
        have hinv : ∀ (f : FuncId) (as' : Array Value), nx' = .enter f as' → (invoke (Target.fn gf' cap') (first' ++ #[Value.func (.yield l') #[] #[]])).run P w1 = .ok (.enter f as') w2 := by
          intro f as' hnx
          rw [← hnx, ← y2]
          congr 1
          congr 1
          apply Array.toList_inj.1
          simp
        cases y3 with
        | @enter f as as' has =>
          rw [fence_round]
          refine ⟨l', mk', w1, { target := .fn gf' cap', args := first' ++ #[Value.func (.yield l') #[] #[]] }, w1, f, as', w2, x2, ?_, fun f' _ => fence_fn rd' f', hinv f as' rfl, fun hd => (by rw [fence_depth] at hd; cases hd), callsIn_fence ?_⟩
          · have hc : a'.eval (.const (.func (.yield l') #[] #[])) = .func (.yield l') #[] #[] := rfl
            simp [resolve, rangeCall, Deferred.ofValue, hv', hc]
          · have hle := Ren.le_trans x1 y1
            refine (hL.call f as as' h2 w2 ρ2 _ (hg.mono hle) y4 has y6).mono fun e w3 he => ?_
            obtain ⟨v, v', ρ3, h3, rfl, z1, z2, z3, z4, z5⟩ := he
            have hle3 := Ren.le_trans hle z1
            obtain ⟨ρ4, j, j', h4, w4, u1, u2, ⟨u3, u3'⟩, u4, u5, u6⟩ := endLoop_out z2 (x3.mono (Ren.le_trans y1 z1)) z5
            have hle4 := Ren.le_trans hle3 u1
            have hact : ActRel ρ4 { a with defers := mk ++ a.defers } { a' with defers := mk' ++ a'.defers } := ⟨ha.tmps.mono hle4, DefersRel.append (x3'.mono (Ren.le_trans y1 (Ren.le_trans z1 u1))) (ha.defers.mono hle4)⟩
            have hkeep : Keep h h4 := ((x5.trans y5).trans z4).trans u5
            subst u3
            refine ⟨j, w4, u2, ?_⟩
            cases j with
            | none => exact hQ .normal trivial ρ4 _ _ h4 w4 hle4 u4 hact hkeep u6
            | some c =>
              obtain ⟨G2, v1, v2⟩ := u3' c rfl
              exact hL.code G2 rd rd' c Q Q' _ _ h4 w4 ρ4 v1 v2 (hg.mono hle4) (hrd.mono hle4) u4 hact (hQ.from hle4 hkeep) u6
        | _ => exact y6.elim
    | _ => rw [hv'] at hgv; cases hgv
  | scope c => exact hq.elim
  | refuse s => exact hq.elim


theorem top_loop {rd : Option Nat} {c : Code} {Q : Exit → Act → Heap → Prop} (I : Nat → Act → Heap → Prop) (round : ∀ j a h, I j a h → (top P w0).code rd c (exThen (fun a' h' => ∃ j', j' < j ∧ I j' a' h') Q) a h)
    {j : Nat} {a : Act} {h : Heap} (h0 : I j a h) : (top P w0).code rd (.loop c) Q a h := by
  intro G rd' Q' a' w ρ hok hgG hg hrd hr ha hQ
  refine wpIn_loop_ix (fun j a' w => ∃ a h ρ2, Ren.le ρ ρ2 ∧ HRel w0 ρ2 h w ∧ ActRel ρ2 a a' ∧ QRel w0 ρ2 h Q Q' ∧ I j a h) ?_ (j := j) ⟨a, h, ρ, Ren.le_refl _, hr, ha, hQ, h0⟩
  rintro j b' w1 ⟨b, h1, ρ1, hl1, hr1, ha1, hQ1, hI⟩
  refine round j b h1 hI G rd' _ b' w1 ρ1 hok (hgG.mono hl1) (hg.mono hl1) (hrd.mono hl1) hr1 ha1 ?_
  intro e he ρ2 a2 a2' h2 w2 hl2 hr2 ha2 hk2 hq2
  cases e with
  | normal =>
    obtain ⟨j', hlt, hI'⟩ := hq2
    exact ⟨j', hlt, a2, h2, ρ2, Ren.le_trans hl1 hl2, hr2, ha2, hQ1.from hl2 hk2, hI'⟩
  | panic => exact he.elim
  | outgrown => exact he.elim
  | exit id => exact hQ1 _ he ρ2 a2 a2' h2 w2 hl2 hr2 ha2 hk2 hq2
  | goto id => exact hQ1 _ he ρ2 a2 a2' h2 w2 hl2 hr2 ha2 hk2 hq2
  | ret => exact hQ1 _ he ρ2 a2 a2' h2 w2 hl2 hr2 ha2 hk2 hq2

theorem call_step {X : Exts} (hX : ExtOK P X) {L : Lvl} (hL : Sound P w0 L) {f : FuncId} {args : Array Value} {h : Heap} {R : Value → Heap → Prop} (hq : aCall P X L f args h R) : (top P w0).call f args h R := by
  intro args' w ρ hg hr hargs
  unfold aCall at hq
  split at hq
  case h_2 => exact hq.elim
  rename_i fn hf
  split at hq
  case h_2 => exact hq.elim
  rename_i c hb
  refine callsIn_of_wp_marks hf hb trivial ?_
  refine hL.code P.globals.size none none c _ _ _ _ h w ρ (hX.code f fn c hf hb) hg hg .none hr (enter_rel hargs) ?_ hq
  intro e he ρ2 a2 a2' h2 w2 hl2 hr2 ha2 hk2 hq2
  cases e with
  | normal => exact leave_in hX hL _ _ h2 w2 ρ2 (hg.mono hl2) hr2 ha2.tmps ha2.defers hl2 hk2 hq2
  | ret => exact leave_in hX hL _ _ h2 w2 ρ2 (hg.mono hl2) hr2 ha2.tmps ha2.defers hl2 hk2 hq2
  | _ => exact hq2.elim

theorem callD_step {X : Exts} (hX : ExtOK P X) {L : Lvl} (hL : Sound P w0 L) {f : FuncId} {args : Array Value} {h : Heap} {R : Heap → Prop} (hq : aCallD P L f args h R) : (top P w0).callD f args h R := by
  intro args' w ρ hg hr hargs
  unfold aCallD at hq
  split at hq
  case h_2 => exact hq.elim
  rename_i fn hf
  split at hq
  case h_2 => exact hq.elim
  rename_i c hb
  have fin : ∀ (ρ2 : Ren) (a2 a2' : Act) (h2 : Heap) (w2 : World), Ren.le ρ ρ2 → HRel w0 ρ2 h2 w2 → ActRel ρ2 a2 a2' → Keep h h2 → a2.defers = [] → aResults P fn a2.tmps h2 (fun _ h'' => R h'') →
      a2'.defers = [] ∧ ∃ v, (results fn a2'.tmps).run P w2 = .ok v w2 ∧ ∃ v' ρ3 h3, Ending.returned v = .returned v' ∧ Ren.le ρ ρ3 ∧ HRel w0 ρ3 h3 w2 ∧ Keep h h3 ∧ R h3 := by
    intro ρ2 a2 a2' h2 w2 hl2 hr2 ha2 hk2 hd hq2
    obtain ⟨v, v', z1, z2, z3⟩ := results_in hr2 ha2.tmps hq2
    have hd2 := ha2.defers
    rw [hd] at hd2
    generalize a2'.defers = ds at hd2
    cases hd2
    exact ⟨rfl, v', z3, v', ρ2, h2, rfl, hl2, hr2, hk2, z1⟩
  refine callsDIn_of_wp hf hb trivial ?_
  refine hL.code P.globals.size none none c _ _ _ _ h w ρ (hX.code f fn c hf hb) hg hg .none hr (enter_rel hargs) ?_ hq
  intro e he ρ2 a2 a2' h2 w2 hl2 hr2 ha2 hk2 hq2
  cases e with
  | normal =>
    cases hd : a2.defers with
    | nil => rw [hd] at hq2; exact fin ρ2 a2 a2' h2 w2 hl2 hr2 ha2 hk2 hd hq2
    | cons _ _ => rw [hd] at hq2; exact hq2.elim
  | ret =>
    cases hd : a2.defers with
    | nil => rw [hd] at hq2; exact fin ρ2 a2 a2' h2 w2 hl2 hr2 ha2 hk2 hd hq2
    | cons _ _ => rw [hd] at hq2; exact hq2.elim
  | _ => exact hq2.elim

end
end Go.Abs
