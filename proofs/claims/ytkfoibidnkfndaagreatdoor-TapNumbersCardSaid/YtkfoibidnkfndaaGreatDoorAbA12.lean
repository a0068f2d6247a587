/- The abstract machine, part 13: regions that draw their order: what may be taken first. (Orders that hold conditions on the world, each till the operation behind which it is needed no more.) -/
import Derived.Test.YtkfoibidnkfndaaGreatDoorAbA11
import Derived.OrdersIn
set_option linter.unusedSimpArgs false
namespace Go.Abs
open Go.RowKit

section
variable {F : Fence} {n : Nat} {P : Program} {ops : Array Oper} {Q : Exit → Act → World → Prop}

/-- What is held for operations that have been taken first. -/
abbrev Held := List (Nat × (World → Prop))

def unheld (ops : Array Oper) (j : Nat) (T : Held) : Held := T.filter fun x => !waits ops x.1 ops.size j

def holds (T : Held) (w : World) : Prop := ∀ x, x ∈ T → x.2 w

def wpT (F : Fence) (n : Nat) (P : Program) (ops : Array Oper) (Q : Exit → Act → World → Prop) : Nat → Array Bool → Held → Act → World → Prop
  | 0, listed, _, a, w => Region.ready .any ops listed = [] ∧ Q .normal a w
  | fuel + 1, listed, T, a, w =>
    (Region.ready .any ops listed = [] → Q .normal a w) ∧
    ∀ j ∈ Region.ready .any ops listed, wpOpIn F n P ops Q j (fun a' w' => holds (unheld ops j T) w' ∧ wpT F n P ops Q fuel (listed.setIfInBounds j true) (unheld ops j T) a' w') a w

theorem wpT_any : ∀ (fuel : Nat) (listed : Array Bool) (T : Held) (a : Act) (w : World), wpT F n P ops Q fuel listed T a w → wpAnyIn F n P .any ops Q fuel listed a w
  | 0, _, _, _, _, h => h
  | fuel + 1, _, _, _, _, h => ⟨h.1, fun i hi => wpOpIn_mono (fun a' w' h' => wpT_any fuel _ _ a' w' h'.2) (h.2 i hi)⟩

theorem unheld_sub {T T2 : Held} (h : ∀ x, x ∈ T → x ∈ T2) (j : Nat) : ∀ x, x ∈ unheld ops j T → x ∈ unheld ops j T2 := by
  intro x hx
  unfold unheld at *
  rw [List.mem_filter] at *
  exact ⟨h x hx.1, hx.2⟩

theorem wpT_sub : ∀ (fuel : Nat) (listed : Array Bool) (T T2 : Held) (a : Act) (w : World), (∀ x, x ∈ T → x ∈ T2) → wpT F n P ops Q fuel listed T2 a w → wpT F n P ops Q fuel listed T a w
  | 0, _, _, _, _, _, _, h => h
  | fuel + 1, _, _, _, _, _, hs, h => ⟨h.1, fun i hi => wpOpIn_mono (fun a' w' h' => ⟨fun x hx => h'.1 x (unheld_sub hs i x hx), wpT_sub fuel _ _ _ a' w' (unheld_sub hs i) h'.2⟩) (h.2 i hi)⟩

/-- No condition: nothing lacks. -/
theorem wpT_true : ∀ (fuel : Nat) (listed : Array Bool) (T T2 : Held) (a : Act) (w : World), (∀ x, x ∈ T → x ∈ T2 ∨ ∀ w, x.2 w) → wpT F n P ops Q fuel listed T2 a w → wpT F n P ops Q fuel listed T a w
  | 0, _, _, _, _, _, _, h => h
  | fuel + 1, _, T, T2, _, _, hs, h => ⟨h.1, fun i hi => wpOpIn_mono (fun a' w' h' => by
      have hs' : ∀ x, x ∈ unheld ops i T → x ∈ unheld ops i T2 ∨ ∀ w, x.2 w := by
        intro x hx
        unfold unheld at *
        rw [List.mem_filter] at *
        rcases hs x hx.1 with h1 | h1
        · exact .inl ⟨h1, hx.2⟩
        · exact .inr h1
      exact ⟨fun x hx => (hs' x hx).elim (h'.1 x) (fun h1 => h1 w'), wpT_true fuel _ _ _ a' w' hs' h'.2⟩) (h.2 i hi)⟩

/-! ### Who waits for whom -/

def Closed (ops : Array Oper) (listed : Array Bool) : Prop :=
  ∀ (k : Nat) (o : Oper), listed.getD k false = true → ops[k]? = some o → ∀ e ∈ o.after, Region.binds .any e = true → listed.getD e.on false = true

theorem not_waits {listed : Array Bool} (hc : Closed ops listed) {i : Nat} (hi : listed.getD i false = false) : ∀ (f j : Nat), (∀ o, ops[j]? = some o → ∀ e ∈ o.after, Region.binds .any e = true → listed.getD e.on false = true) → waits ops i f j = false
  | 0, _, _ => rfl
  | f + 1, j, hj => by
    unfold waits
    cases ho : ops[j]? with
    | none => rfl
    | some o =>
      simp only
      rw [List.any_eq_false]
      intro e he
      have he' : e ∈ o.after := by simpa using he
      cases hb : Region.binds .any e with
      | false => simp
      | true =>
        have hl := hj o ho e he' hb
        have hne : Nat.beq e.on i = false := by
          rcases beq_cases e.on i with ⟨h1, h2⟩ | ⟨h1, h2⟩
          · rw [h1, hi] at hl; cases hl
          · exact h2
        have := not_waits hc hi f e.on (fun o' ho' e' he2 hb' => hc e.on o' hl ho' e' he2 hb')
        simp [hne, this]

theorem unlisted {listed : Array Bool} {i : Nat} (h : listed.getD i true = false) : listed.getD i false = false := by
  rcases Nat.lt_or_ge i listed.size with h' | h'
  · simp [h'] at h ⊢; exact h
  · simp [Array.getElem?_eq_none h']

theorem Closed.set {listed : Array Bool} (hc : Closed ops listed) {j : Nat} (hj : j ∈ Region.ready .any ops listed) : Closed ops (listed.setIfInBounds j true) := by
  obtain ⟨_, o, ho, hall⟩ := mem_ready.1 hj
  intro k o' hk ho' e he hb
  by_cases hjk : j = k
  · subst hjk
    rw [ho] at ho'; cases ho'
    exact getD_set_true (hall e he hb)
  · rw [getD_set_ne false hjk] at hk
    exact getD_set_true (hc k o' hk ho' e he hb)

/-! ### Taking an operation first -/

/-- In state a, in every world that meets c, operation o leaves v in its temporary and does nothing else. -/
def YieldsAt (F : Fence) (P : Program) (ops : Array Oper) (c : World → Prop) (o : Oper) (v : Value) (a : Act) : Prop :=
  (Region.wanted o (yielded ops a.tmps) = true ∧ ∀ w, c w → (o.semAt F.round a.eval).run P w = .ok (.value v) w) ∨ (Region.wanted o (yielded ops a.tmps) = false ∧ v = undef)

theorem YieldsAt.wpOp (hF : ∀ f, F.fn f) {c : World → Prop} {i : Nat} {o : Oper} {v : Value} {a : Act} (hi : ops[i]? = some o) (hy : YieldsAt F P ops c o v a) {K : Act → World → Prop} {w : World} (hc : c w) (h : K (a.put o.dst v) w) : wpOpIn F n P ops Q i K a w := by
  unfold Go.wpOpIn
  simp only [hi]
  rcases hy with ⟨hw, hv⟩ | ⟨hw, rfl⟩
  · simp only [hw, if_true, Oper.wpIn, hv w hc, Oper.uponIn]; exact ⟨fun f _ => hF f, h⟩
  · simp only [hw, Bool.false_eq_true, if_false]; exact ⟨fun f _ => hF f, h⟩

theorem YieldsAt.of_same {c : World → Prop} {o : Oper} {v : Value} {a a' : Act} (hy : YieldsAt F P ops c o v a) (he : o.semAt F.round a'.eval = o.semAt F.round a.eval)
    (hw : Region.wanted o (yielded ops a'.tmps) = Region.wanted o (yielded ops a.tmps)) : YieldsAt F P ops c o v a' := by
  unfold YieldsAt at *
  rw [he, hw]
  exact hy

theorem semAt_put (r : Option Nat) (o : Oper) (hs : ∀ cs b, o.op ≠ .select cs b) (a : Act) (dst : Option Tmp) (v : Value) (h : ∀ d, dst = some d → d ∉ o.looksAt ops) :
    o.semAt r (a.put dst v).eval = o.semAt r a.eval := by
  unfold Oper.semAt
  split
  · rename_i l c ho
    rw [resolve_congr c o.type fun x hx => Act.eval_put fun d hd hxd => h d hd (by
      subst hxd
      exact List.mem_append_left _ (List.mem_filterMap.2 ⟨.tmp d, by simpa [ho, Op.operands] using hx, rfl⟩))]
  · exact execOp_put o hs a dst v h

theorem wpOpT_put (hF : ∀ f, F.fn f) {c : World → Prop} {j : Nat} {oi oj : Oper} {v : Value} (hj : ops[j]? = some oj) (hap : oi.apart ops oj = true)
    (hsi : ∀ cs b, oi.op ≠ .select cs b) (hsj : ∀ cs b, oj.op ≠ .select cs b)
    (hQ : ∀ ch a w, Q (.panic ch) (a.put oi.dst v) w → Q (.panic ch) a w) {K : Act → World → Prop} {a : Act} {w : World}
    (hy : YieldsAt F P ops c oi v a) (h : wpOpIn F n P ops Q j K (a.put oi.dst v) w) :
    wpOpIn F n P ops Q j (fun a' w' => YieldsAt F P ops c oi v a' ∧ K (a'.put oi.dst v) w') a w := by
  obtain ⟨h1, h2, h3⟩ := Oper.apart_spec hap
  have keep : ∀ (a : Act), YieldsAt F P ops c oi v a → ∀ u, YieldsAt F P ops c oi v (a.put oj.dst u) := fun a hy u =>
    hy.of_same (semAt_put F.round oi hsi a oj.dst u h3) (wanted_put oi a oj.dst u h3)
  have keepD : ∀ d, YieldsAt F P ops c oi v { a with defers := d :: a.defers } := fun d => hy.of_same rfl rfl
  unfold wpOpIn at *
  simp only [hj] at *
  rw [wanted_put oj a oi.dst v h1] at h
  split
  · rename_i hw
    simp only [hw, if_true] at h
    unfold Oper.wpIn at *
    refine ⟨fun f _ => hF f, ?_⟩
    have h := h.2
    rw [semAt_put F.round oj hsj a oi.dst v h1] at h
    generalize (oj.semAt F.round a.eval).run P w = r at *
    cases r with
    | ok x w' =>
      cases x <;> simp only [Oper.uponIn] at h ⊢
      case value u => exact ⟨keep a hy u, by rw [← Act.put_comm a v u h2]; exact h⟩
      case skip => exact ⟨keep a hy _, by rw [← Act.put_comm a v undef h2]; exact h⟩
      case defer d =>
        refine ⟨keep _ (keepD d) _, ?_⟩
        rw [← Act.put_comm _ v undef h2, ← Act.put_defers]
        exact h
      case enter f args =>
        refine ⟨h.1, CallsIn.mono h.2 fun e w'' he => ?_⟩
        cases e with
        | returned u => exact ⟨keep a hy u, by rw [← Act.put_comm a v u h2]; exact he⟩
        | panicked ch => exact hQ _ _ _ he
        | outgrown => exact he
      case row row args => exact ⟨h.1, RowsIn.mono h.2 fun u w'' he => ⟨keep a hy u, by rw [← Act.put_comm a v u h2]; exact he⟩⟩
      case round l f tmps assign body =>
        refine ⟨h.1, RoundIn.mono h.2 fun e w'' he => ?_⟩
        cases e with
        | returned u => exact ⟨keep a hy u, by rw [← Act.put_comm a v u h2]; exact he⟩
        | panicked ch => exact hQ _ _ _ he
        | outgrown => exact he
    | halt x w' =>
      cases x <;> simp only [Oper.uponIn] at h ⊢
      case panic u => exact hQ _ _ _ h
  · rename_i hw
    simp only [hw] at h
    exact ⟨fun f _ => hF f, keep a hy _, by rw [← Act.put_comm a v undef h2]; exact h.2⟩

theorem wpT_first (hF : ∀ f, F.fn f) {c : World → Prop} {i : Nat} {oi : Oper} {v : Value} (hi : ops[i]? = some oi) (hsel : ∀ (j : Nat) (o : Oper) cs b, ops[j]? = some o → o.op ≠ .select cs b)
    (hQ : ∀ ch a w, Q (.panic ch) (a.put oi.dst v) w → Q (.panic ch) a w) :
    ∀ (fuel : Nat) (listed : Array Bool) (T : Held) (a : Act) (w : World), Closed ops listed →
      (∀ j oj, ops[j]? = some oj → j ≠ i → listed.getD j true = false → (∀ e ∈ oj.after, Region.binds .any e = true → e.on ≠ i) → oi.apart ops oj = true) →
      i ∈ Region.ready .any ops listed → YieldsAt F P ops c oi v a → c w → holds T w →
      wpT F n P ops Q fuel (listed.setIfInBounds i true) ((i, c) :: T) (a.put oi.dst v) w → wpT F n P ops Q (fuel + 1) listed T a w := by
  intro fuel
  induction fuel with
  | zero =>
    intro listed T a w _ _ hr hy hc hT H
    refine ⟨fun h => (by rw [h] at hr; cases hr), fun j hj => ?_⟩
    by_cases hji : j = i
    · subst hji
      exact hy.wpOp hF hi hc ⟨fun x hx => hT x (List.mem_filter.1 hx).1, H⟩
    · have := ready_mono hj hji
      rw [H.1] at this
      cases this
  | succ fuel ih =>
    intro listed T a w hcl hfree hr hy hc hT H
    refine ⟨fun h => (by rw [h] at hr; cases hr), fun j hj => ?_⟩
    by_cases hji : j = i
    · subst hji
      refine hy.wpOp hF hi hc ⟨fun x hx => hT x (List.mem_filter.1 hx).1, ?_⟩
      refine wpT_sub _ _ _ _ _ _ (fun x hx => ?_) H
      exact List.mem_cons_of_mem _ (List.mem_filter.1 hx).1
    · have h1 := H.2 j (ready_mono hj hji)
      obtain ⟨hjun, oj, hoj, hall⟩ := mem_ready.1 hj
      have hiun := (mem_ready.1 hr).1
      have hnot : ∀ e ∈ oj.after, Region.binds .any e = true → e.on ≠ i := fun e he hb heq => by
        have h1 := hall e he hb
        rw [heq, unlisted hiun] at h1
        cases h1
      have hnw : waits ops i ops.size j = false := not_waits hcl (unlisted hiun) _ _ fun o ho e he hb => by
        rw [hoj] at ho; cases ho
        exact hall e he hb
      have hun : unheld ops j ((i, c) :: T) = (i, c) :: unheld ops j T := by
        unfold unheld
        rw [List.filter_cons]
        simp [hnw]
      rw [hun] at h1
      have h2 := wpOpT_put hF hoj (hfree j oj hoj hji hjun hnot) (fun cs b => hsel i oi cs b hi) (fun cs b => hsel j oj cs b hoj) hQ hy h1
      have hfree' : ∀ k ok, ops[k]? = some ok → k ≠ i → (listed.setIfInBounds j true).getD k true = false →
          (∀ e ∈ ok.after, Region.binds .any e = true → e.on ≠ i) → oi.apart ops ok = true := fun k ok hk hki hun hno => by
        refine hfree k ok hk hki ?_ hno
        by_cases hjk : j = k
        · subst hjk; exact hjun
        · rw [getD_set_ne true hjk] at hun; exact hun
      refine wpOpIn_mono (fun a' w' h3 => ?_) h2
      obtain ⟨hy', hholds, h4⟩ := h3
      have hT' : holds (unheld ops j T) w' := fun x hx => hholds x (List.mem_cons_of_mem _ hx)
      have hc' : c w' := hholds (i, c) List.mem_cons_self
      refine ⟨hT', ih (listed.setIfInBounds j true) (unheld ops j T) a' w' (hcl.set hj) hfree' (ready_mono hr (Ne.symm hji)) hy' hc' hT' ?_⟩
      rw [Array.setIfInBounds_comm _ _ hji]
      exact h4

end
end Go.Abs
