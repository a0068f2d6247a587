/- The abstract machine, part 18: what it says of code and calls holds. -/
import Derived.Test.YtkfoibidnkfndaaGreatDoorAbA16
set_option linter.unusedSimpArgs false
namespace Go.Abs
open Go.RowKit

theorem exists_least (p : Nat → Prop) (h : ∃ n, p n) : ∃ n, p n ∧ ∀ m, m < n → ¬ p m := by
  obtain ⟨n, hn⟩ := h
  induction n using Nat.strongRecOn with
  | _ n ih =>
    by_cases hx : ∃ m, m < n ∧ p m
    · obtain ⟨m, hm, hp⟩ := hx
      exact ih m hm hp
    · exact ⟨n, hn, fun m hm hp => hx ⟨m, hm, hp⟩⟩

theorem wpIn_loop_ix {F : Fence} {n : Nat} {P : Program} {c : Code} {Q : Exit → Act → World → Prop} (I : Nat → Act → World → Prop) (round : ∀ j a w, I j a w → c.wpIn F n P (Exit.then (fun a' w' => ∃ j', j' < j ∧ I j' a' w') Q) a w) {j : Nat} {a : Act} {w : World} (h0 : I j a w) :
    (Code.loop c).wpIn F n P Q a w := by
  classical
  refine wpIn_loop (fun a w => ∃ j, I j a w) (fun a w => if h : ∃ j, I j a w then Classical.choose (exists_least _ h) else 0) ⟨j, h0⟩ ?_
  intro a w hex
  have hs := Classical.choose_spec (exists_least _ hex)
  rw [dif_pos hex]
  generalize Classical.choose (exists_least _ hex) = m at hs
  refine wpIn_mono (round _ a w hs.1) ?_
  intro e a' w' he
  cases e <;> first | exact he | skip
  obtain ⟨j', hlt, hj'⟩ := he
  have hex' : ∃ j, I j a' w' := ⟨j', hj'⟩
  refine ⟨hex', ?_⟩
  rw [dif_pos hex']
  have hs' := Classical.choose_spec (exists_least _ hex')
  generalize Classical.choose (exists_least _ hex') = m' at hs'
  rcases Nat.lt_or_ge j' m' with h | h
  · exact (hs'.2 j' h hj').elim
  · omega

section
variable {P : Program} {w0 : World}

theorem enter_out {ρ : Ren} {h : Heap} {w : World} {rd rd' : Option Nat} {tmps tmps' : Array Value} {ps : Array Tmp} {assign body : Code} {fn : FuncId} {G : Nat} (hr : HRel w0 ρ h w) (hrd : RdRel ρ rd rd') (ht : ARel ρ tmps tmps') (g1 : okCode G assign = true) (g2 : okCode G body = true) (g3 : GRel G ρ)
    {F : Nat × List Deferred → Heap → Prop} (hq : aSem P (enterS tmps ps assign body rd) h F) :
    Out P w0 (fun ρ x x' => ORel ρ x.1 x'.1 ∧ DefersRel ρ x.2 x'.2) ρ h w (Instr.enterLoop fn tmps' ps assign body rd') F := by
  cases hrd with
  | none =>
    unfold enterS at hq
    simp only at hq
    rw [aSem_bind] at hq
    obtain ⟨ρ2, d, d', h', w', x1, x2, x3, x4, x5, x6⟩ := (Sim.newObj (P := P) (.deferred .nil)).out hr hq
    rw [aSem_bind] at x6
    have hn : NewRel ρ2 (.loop { state := .ready, pending := none, fn := 0, tmps := tmps, params := ps, assign := assign, body := body, defers := d }) (.loop { state := .ready, pending := none, fn := fn, tmps := tmps', params := ps, assign := assign, body := body, defers := d' }) :=
      .loop ⟨rfl, rfl, ht.mono x1, rfl, rfl, rfl, x3, G, g1, g2, fun c hc => by simp at hc, g3.mono x1⟩
    obtain ⟨ρ3, l, l', h3, w3, y1, y2, y3, y4, y5, y6⟩ := (Sim.newObj (P := P) hn).out x4 x6
    refine ⟨ρ3, (l, _), (l', [{ target := .collected d', args := #[] }]), h3, w3, Ren.le_trans x1 y1, ?_, ⟨y3, .cons ⟨.collected (x3.mono y1), ARel.nil⟩ .nil⟩, y4, x5.trans y5, y6⟩
    simp only [Instr.enterLoop, Sem.run_bind, Sem.run_pure, x2, y2, Result.andThen_ok]
  | @some l0 l0' hl0 =>
    unfold enterS at hq
    simp only at hq
    rw [aSem_bind] at hq
    obtain ⟨r, hg, hq⟩ := getLoopS_inv hq
    obtain ⟨r', hrun, hrel⟩ := getLoop_run (P := P) hr hl0 hg
    rw [aSem_bind] at hq
    have hn : NewRel ρ (.loop { state := .ready, pending := none, fn := 0, tmps := tmps, params := ps, assign := assign, body := body, defers := r.defers }) (.loop { state := .ready, pending := none, fn := fn, tmps := tmps', params := ps, assign := assign, body := body, defers := r'.defers }) :=
      .loop ⟨rfl, rfl, ht, rfl, rfl, rfl, hrel.defers, G, g1, g2, fun c hc => by simp at hc, g3⟩
    obtain ⟨ρ3, l, l', h3, w3, y1, y2, y3, y4, y5, y6⟩ := (Sim.newObj (P := P) hn).out hr hq
    refine ⟨ρ3, (l, []), (l', []), h3, w3, y1, ?_, ⟨y3, .nil⟩, y4, y5, y6⟩
    simp only [Instr.enterLoop, Sem.run_bind, Sem.run_pure, hrun, y2, Result.andThen_ok]

theorem closed_none {ops : Array Oper} {n : Nat} : Closed ops (listedOf n []) := by
  intro k o hk
  exfalso
  simp only [listedOf, List.foldl_nil] at hk
  rcases Nat.lt_or_ge k n with h | h
  · simp [h] at hk
  · simp [Array.getElem?_eq_none, h] at hk

theorem okCode_ops {G : Nat} {id : Nat} {ops : Array Oper} {b : Bool} (h : okCode G (.region id ops b) = true) : ∀ o, o ∈ ops.toList → okOp G o.op = true := fun o ho => List.all_eq_true.1 h o ho

theorem DefersRel.append {ρ : Ren} {a a' b b' : List Deferred} (h : DefersRel ρ a a') (k : DefersRel ρ b b') : DefersRel ρ (a ++ b) (a' ++ b') := by
  induction h with
  | nil => exact k
  | cons h _ ih => exact .cons h ih

theorem code_up {X : Exts} (hX : ExtOK P X) (n : Nat) (IH : ∀ m, m ≤ n → Sound P w0 (lvl P X m)) : CodeSound P w0 (lvl P X (n + 1)) := by
  intro G rd rd' c Q Q' a a' h w ρ hok hgG hg hrd hr ha hQ hq
  have hL := IH n (Nat.le_refl _)
  change aCode P X (lvl P X n) rd c Q a h at hq
  cases c with
  | skip => exact wpIn_skip (hQ .normal trivial ρ a a' h w (Ren.le_refl _) hr ha (Keep.refl _) hq)
  | label l => exact wpIn_label (hQ .normal trivial ρ a a' h w (Ren.le_refl _) hr ha (Keep.refl _) hq)
  | exit id => exact wpIn_exit (hQ (.exit id) trivial ρ a a' h w (Ren.le_refl _) hr ha (Keep.refl _) hq)
  | goto l => exact wpIn_goto (hQ (.goto l) trivial ρ a a' h w (Ren.le_refl _) hr ha (Keep.refl _) hq)
  | ret => exact wpIn_ret (hQ .ret trivial ρ a a' h w (Ren.le_refl _) hr ha (Keep.refl _) hq)
  | region id ops draw =>
    cases draw with
    | false => exact wpIn_region (ops_in hX hL (okCode_ops hok) _ a a' h w ρ hgG hg hrd hr ha hQ hq)
    | true =>
      have hr1 : HRel w0 ρ h { w with drawn := w.drawn + 1 } := hr.drew rfl rfl rfl rfl
      have := any_in hX hL (okCode_ops hok) hQ rfl ops.size [] [] [] a a' h _ ρ hgG hg hrd hr1 ha (Ren.le_refl _) (fun _ _ _ e => e) (Nat.le_refl _) .nil closed_none hq
      exact wpIn_mono (wpIn_region_any hX.mixed (wpT_any _ _ _ _ _ this)) fun e a w he => he.2
  | seq x y =>
    simp only [okCode, Bool.and_eq_true] at hok
    refine wpIn_seq (hL.code G rd rd' x _ _ a a' h w ρ hok.1 hgG hg hrd hr ha ?_ hq)
    intro e he ρ2 a2 a2' h2 w2 hl2 hr2 ha2 hk2 hq2
    cases e with
    | normal => exact hL.code G rd rd' y _ _ a2 a2' h2 w2 ρ2 hok.2 (hgG.mono hl2) (hg.mono hl2) (hrd.mono hl2) hr2 ha2 (hQ.from hl2 hk2) hq2
    | panic => exact he.elim
    | outgrown => exact he.elim
    | exit id => exact hQ _ he ρ2 a2 a2' h2 w2 hl2 hr2 ha2 hk2 hq2
    | goto id => exact hQ _ he ρ2 a2 a2' h2 w2 hl2 hr2 ha2 hk2 hq2
    | ret => exact hQ _ he ρ2 a2 a2' h2 w2 hl2 hr2 ha2 hk2 hq2
  | cond c x y =>
    simp only [okCode, Bool.and_eq_true] at hok
    have hc := ha.eval hgG c hok.1.1
    unfold aCode at hq
    simp only at hq
    cases hv : a.eval c <;> rw [hv] at hq <;> first | exact hq.elim | skip
    rename_i b
    rw [hv] at hc
    have hc' : a'.eval c = .bool b := by
      generalize a'.eval c = v at hc
      cases hc
      rfl
    cases b with
    | true => exact wpIn_cond_true hc' (hL.code G rd rd' x _ _ a a' h w ρ hok.1.2 hgG hg hrd hr ha hQ hq)
    | false => exact wpIn_cond_false hc' (hL.code G rd rd' y _ _ a a' h w ρ hok.2 hgG hg hrd hr ha hQ hq)
  | block id c =>
    refine wpIn_block (hL.code G rd rd' c _ _ a a' h w ρ hok hgG hg hrd hr ha ?_ hq)
    intro e he ρ2 a2 a2' h2 w2 hl2 hr2 ha2 hk2 hq2
    cases e with
    | exit id' =>
      simp only [exBlock] at hq2
      show if id' = id then _ else _
      rcases beq_cases id' id with ⟨e1, e2⟩ | ⟨e1, e2⟩
      · rw [e2] at hq2
        rw [if_pos e1]
        exact hQ .normal trivial ρ2 a2 a2' h2 w2 hl2 hr2 ha2 hk2 hq2
      · rw [e2] at hq2
        rw [if_neg e1]
        exact hQ (.exit id') trivial ρ2 a2 a2' h2 w2 hl2 hr2 ha2 hk2 hq2
    | panic => exact he.elim
    | outgrown => exact he.elim
    | normal => exact hQ _ he ρ2 a2 a2' h2 w2 hl2 hr2 ha2 hk2 hq2
    | goto id => exact hQ _ he ρ2 a2 a2' h2 w2 hl2 hr2 ha2 hk2 hq2
    | ret => exact hQ _ he ρ2 a2 a2' h2 w2 hl2 hr2 ha2 hk2 hq2
  | loop c =>
    refine wpIn_loop_ix (fun j a' w => j ≤ n + 1 ∧ ∃ a h ρ2, Ren.le ρ ρ2 ∧ HRel w0 ρ2 h w ∧ ActRel ρ2 a a' ∧ QRel w0 ρ2 h Q Q' ∧ (lvl P X j).code rd (.loop c) Q a h) ?_ (j := n + 1) ⟨Nat.le_refl _, a, h, ρ, Ren.le_refl _, hr, ha, hQ, hq⟩
    rintro j b' w1 ⟨hj, b, h1, ρ1, hl1, hr1, ha1, hQ1, hq1⟩
    cases j with
    | zero => exact hq1.elim
    | succ j =>
      have hLj := IH j (by omega)
      change (lvl P X j).code rd c (exThen ((lvl P X j).code rd (.loop c) Q) Q) b h1 at hq1
      refine hLj.code G rd rd' c _ _ b b' h1 w1 ρ1 hok (hgG.mono hl1) (hg.mono hl1) (hrd.mono hl1) hr1 ha1 ?_ hq1
      intro e he ρ2 a2 a2' h2 w2 hl2 hr2 ha2 hk2 hq2
      cases e with
      | normal => exact ⟨j, Nat.lt_succ_self _, by omega, a2, h2, ρ2, Ren.le_trans hl1 hl2, hr2, ha2, hQ1.from hl2 hk2, hq2⟩
      | panic => exact he.elim
      | outgrown => exact he.elim
      | exit id => exact hQ1 _ he ρ2 a2 a2' h2 w2 hl2 hr2 ha2 hk2 hq2
      | goto id => exact hQ1 _ he ρ2 a2 a2' h2 w2 hl2 hr2 ha2 hk2 hq2
      | ret => exact hQ1 _ he ρ2 a2 a2' h2 w2 hl2 hr2 ha2 hk2 hq2
  | rangeFunc g ps assign body =>
    simp only [okCode, Bool.and_eq_true] at hok
    refine wpIn_rangeFunc fun fn _ => ?_
    have hq' : aRange P X (lvl P X n) rd g ps assign body Q a h := hq
    unfold aRange at hq'
    obtain ⟨ρ1, x, x', h1, w1, x1, x2, ⟨x3, x3'⟩, x4, x5, x6⟩ := enter_out (fn := fn) hr hrd ha.tmps hok.1.2 hok.2 hgG hq'
    obtain ⟨l, mk⟩ := x
    obtain ⟨l', mk'⟩ := x'
    simp only at x3 x3' x6
    have hgv := (ha.mono x1).eval (hgG.mono x1) g hok.1.1
    cases hv : a.eval g <;> rw [hv] at x6 <;> first | exact x6.elim | skip
    rename_i gf first cap
    rw [hv] at hgv
    cases hv' : a'.eval g with
    | func gf' first' cap' =>
      rw [hv'] at hgv
      cases hgv with
      | func k1 k2 k3 k4 k5 =>
        simp only at x6
        have hyield : VRel ρ1 (.func (.yield l) #[] #[]) (.func (.yield l') #[] #[]) := .func (.yield x3) rfl (fun i v v' e => by simp at e) rfl (fun i v v' e => by simp at e)
        have hargs : LRel ρ1 (first.toList ++ [.func (.yield l) #[] #[]]) (first'.toList ++ [.func (.yield l') #[] #[]]) := (ARel.list ⟨k2, k3⟩).append (.cons hyield .nil)
        obtain ⟨ρ2, nx, nx', h2, w2, y1, y2, y3, y4, y5, y6⟩ := target_out hX k1 ⟨k4, k5⟩ hargs x4 x6
        have hinv : ∀ (f : FuncId) (as' : Array Value), nx' = .enter f as' → (invoke (Target.fn gf' cap') (first' ++ #[Value.func (.yield l') #[] #[]])).run P w1 = .ok (.enter f as') w2 := by
          intro f as' hnx
          rw [← hnx, ← y2]
          congr 1
          congr 1
          apply Array.toList_inj.1
          simp
        cases y3 with
        | @enter f as as' has =>
          rw [fence_round]
          refine ⟨l', mk', w1, { target := .fn gf' cap', args := first' ++ #[Value.func (.yield l') #[] #[]] }, w1, f, as', w2, x2, ?_, fun f' _ => fence_fn rd' f', hinv f as' rfl, fun hd => (by rw [fence_depth] at hd; cases hd), callsIn_fence ?_⟩
          · have hc : a'.eval (.const (.func (.yield l') #[] #[])) = .func (.yield l') #[] #[] := rfl
            simp [resolve, rangeCall, Deferred.ofValue, hv', hc]
          · have hle := Ren.le_trans x1 y1
            refine (hL.call f as as' h2 w2 ρ2 _ (hg.mono hle) y4 has y6).mono fun e w3 he => ?_
            obtain ⟨v, v', ρ3, h3, rfl, z1, z2, z3, z4, z5⟩ := he
            have hle3 := Ren.le_trans hle z1
            obtain ⟨ρ4, j, j', h4, w4, u1, u2, ⟨u3, u3'⟩, u4, u5, u6⟩ := endLoop_out z2 (x3.mono (Ren.le_trans y1 z1)) z5
            have hle4 := Ren.le_trans hle3 u1
            have hact : ActRel ρ4 { a with defers := mk ++ a.defers } { a' with defers := mk' ++ a'.defers } := ⟨ha.tmps.mono hle4, DefersRel.append (x3'.mono (Ren.le_trans y1 (Ren.le_trans z1 u1))) (ha.defers.mono hle4)⟩
            have hkeep : Keep h h4 := ((x5.trans y5).trans z4).trans u5
            subst u3
            refine ⟨j, w4, u2, ?_⟩
            cases j with
            | none => exact hQ .normal trivial ρ4 _ _ h4 w4 hle4 u4 hact hkeep u6
            | some c =>
              obtain ⟨G2, v1, v2⟩ := u3' c rfl
              exact hL.code G2 rd rd' c Q Q' _ _ h4 w4 ρ4 v1 v2 (hg.mono hle4) (hrd.mono hle4) u4 hact (hQ.from hle4 hkeep) u6
        | _ => exact y6.elim
    | _ => rw [hv'] at hgv; cases hgv
  | scope c => exact hq.elim
  | refuse s => exact hq.elim

theorem enter_rel {ρ : Ren} {fn : Func} {args args' : Array Value} (h : ARel ρ args args') : ActRel ρ (enterAct fn args) { tmps := args' ++ Array.replicate (fn.ntmps - args'.size) undef, defers := [] } := by
  refine ⟨?_, .nil⟩
  refine LRel.arr ?_
  simp only [enterAct, Array.toList_append, Array.toList_replicate]
  rw [← h.1]
  refine h.list.append ?_
  generalize fn.ntmps - args.size = k
  induction k with
  | zero => exact .nil
  | succ k ih => rw [List.replicate_succ]; exact .cons undef_rel ih

theorem call_up {X : Exts} (hX : ExtOK P X) (n : Nat) (hL : Sound P w0 (lvl P X n)) : CallSound P w0 (lvl P X (n + 1)) := by
  intro f args args' h w ρ R hg hr hargs hq
  change aCall P X (lvl P X n) f args h R at hq
  unfold aCall at hq
  split at hq
  case h_2 => exact hq.elim
  rename_i fn hf
  split at hq
  case h_2 => exact hq.elim
  rename_i c hb
  refine callsIn_of_wp_marks hf hb trivial ?_
  refine hL.code P.globals.size none none c _ _ _ _ h w ρ (hX.code f fn c hf hb) hg hg .none hr (enter_rel hargs) ?_ hq
  intro e he ρ2 a2 a2' h2 w2 hl2 hr2 ha2 hk2 hq2
  cases e with
  | normal => exact leave_in hX hL _ _ h2 w2 ρ2 (hg.mono hl2) hr2 ha2.tmps ha2.defers hl2 hk2 hq2
  | ret => exact leave_in hX hL _ _ h2 w2 ρ2 (hg.mono hl2) hr2 ha2.tmps ha2.defers hl2 hk2 hq2
  | _ => exact hq2.elim

theorem callD_up {X : Exts} (hX : ExtOK P X) (n : Nat) (hL : Sound P w0 (lvl P X n)) : CallDSound P w0 (lvl P X (n + 1)) := by
  intro f args args' h w ρ R hg hr hargs hq
  change aCallD P (lvl P X n) f args h R at hq
  unfold aCallD at hq
  split at hq
  case h_2 => exact hq.elim
  rename_i fn hf
  split at hq
  case h_2 => exact hq.elim
  rename_i c hb
  have fin : ∀ (ρ2 : Ren) (a2 a2' : Act) (h2 : Heap) (w2 : World), Ren.le ρ ρ2 → HRel w0 ρ2 h2 w2 → ActRel ρ2 a2 a2' → Keep h h2 → a2.defers = [] → aResults P fn a2.tmps h2 (fun _ h'' => R h'') →
      a2'.defers = [] ∧ ∃ v, (results fn a2'.tmps).run P w2 = .ok v w2 ∧ ∃ v' ρ3 h3, Ending.returned v = .returned v' ∧ Ren.le ρ ρ3 ∧ HRel w0 ρ3 h3 w2 ∧ Keep h h3 ∧ R h3 := by
    intro ρ2 a2 a2' h2 w2 hl2 hr2 ha2 hk2 hd hq2
    obtain ⟨v, v', z1, z2, z3⟩ := results_in hr2 ha2.tmps hq2
    have hd2 := ha2.defers
    rw [hd] at hd2
    generalize a2'.defers = ds at hd2
    cases hd2
    exact ⟨rfl, v', z3, v', ρ2, h2, rfl, hl2, hr2, hk2, z1⟩
  refine callsDIn_of_wp hf hb trivial ?_
  refine hL.code P.globals.size none none c _ _ _ _ h w ρ (hX.code f fn c hf hb) hg hg .none hr (enter_rel hargs) ?_ hq
  intro e he ρ2 a2 a2' h2 w2 hl2 hr2 ha2 hk2 hq2
  cases e with
  | normal =>
    cases hd : a2.defers with
    | nil => rw [hd] at hq2; exact fin ρ2 a2 a2' h2 w2 hl2 hr2 ha2 hk2 hd hq2
    | cons _ _ => rw [hd] at hq2; exact hq2.elim
  | ret =>
    cases hd : a2.defers with
    | nil => rw [hd] at hq2; exact fin ρ2 a2 a2' h2 w2 hl2 hr2 ha2 hk2 hd hq2
    | cons _ _ => rw [hd] at hq2; exact hq2.elim
  | _ => exact hq2.elim

theorem sound {X : Exts} (hX : ExtOK P X) : ∀ n, Sound P w0 (lvl P X n) := by
  intro n
  induction n using Nat.strongRecOn with
  | _ n ih =>
    cases n with
    | zero => exact ⟨fun _ _ _ _ _ _ _ _ _ _ _ _ _ _ _ _ _ _ h => h.elim, fun _ _ _ _ _ _ _ _ _ _ h => h.elim, fun _ _ _ _ _ _ _ _ _ _ h => h.elim⟩
    | succ n => exact ⟨code_up hX n fun m hm => ih m (by omega), call_up hX n (ih n (by omega)), callD_up hX n (ih n (by omega))⟩

end
end Go.Abs
