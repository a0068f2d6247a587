/- The abstract machine, part 21: a call whose inputs lie in memory. -/
import Derived.Test.YtkfoibidnkfndaaGreatDoorAbA19
set_option linter.unusedVariables false
namespace Go.Abs
open Go.RowKit

section
variable {P : Program}

/-- An input block, as the machine sees it: closed to every store; its place in the world at the start. -/
structure InOK (W : World) (ρ : Ren) (c : Array Value) (e : TypeId) (p : Place) : Prop where
  row : ∃ c' fr', W.heap[p.blk]? = some (.cells c' e fr') ∧ p.off + p.cap ≤ c'.size ∧ ∀ (k : Nat) (v : Value), c[k]? = some v → ∃ v', c'[p.off + k]? = some v' ∧ VRel ρ v v'
  size : c.size ≤ p.cap

theorem start_inputs {W : World} {h : Heap} {ρ : Ren} (hobj : ∀ (i : Nat) (o : Obj), h.get i = some o → ∃ c e p, o = .cells c e shut ∧ ρ i = some p ∧ InOK W ρ c e p) (hfresh : ∀ i, h.next ≤ i → ρ i = none ∧ h.get i = none) : HRel W ρ h W := by
  refine ⟨Below.refl _ _, fun i o hi => ?_, fun i j oi oj p q hne hi hj e1 e2 e3 => ?_, hfresh⟩
  · obtain ⟨c, e, p, rfl, hp, hin⟩ := hobj i o hi
    obtain ⟨c', fr', h1, h2, h3⟩ := hin.row
    exact ⟨p, _, hp, h1, .cells h3 hin.size h2 (.inr (.inr rfl)), fun hn => by simp [notCells] at hn⟩
  · obtain ⟨c, e, p', rfl, hp, hin⟩ := hobj i oi hi
    rw [hp] at e1; cases e1
    obtain ⟨c', fr', h1, _⟩ := hin.row
    exact lt_of_heap h1

/-- WHAT HOLDS AT THE SEMANTIC LEVEL, as a contract of the call. -/
theorem calls_of_top {f : FuncId} {args args' : Array Value} {h : Heap} {ρ : Ren} {R : Value → Heap → Prop} {W : World} (hq : (top P W).call f args h R) (hg : GRel P.globals.size ρ) (hr : HRel W ρ h W) (ha : ARel ρ args args') :
    Calls P f args' W fun e W' => ∃ v v' ρ2 h2, e = .returned v' ∧ Below W.heap.size W W' ∧ VRel ρ2 v v' ∧ R v h2 := by
  refine (callsIn_wide.1 (hq args' W ρ hg hr ha)).mono fun e W' he => ?_
  obtain ⟨v, v', ρ2, h2, e1, _, e3, e4, _, e6⟩ := he
  exact ⟨v, v', ρ2, h2, e1, e3.below, e4, e6⟩

theorem true_of_top {f : FuncId} {args args' : Array Value} {h : Heap} {ρ : Ren} {W : World} (hq : (top P W).call f args h (fun v _ => isTrueV v)) (hg : GRel P.globals.size ρ) (hr : HRel W ρ h W) (ha : ARel ρ args args') :
    Calls P f args' W fun e W' => e = .returned (.bool true) ∧ Below W.heap.size W W' := by
  refine (calls_of_top hq hg hr ha).mono fun e W' he => ?_
  obtain ⟨v, v', ρ2, h2, rfl, h1, h3, h4⟩ := he
  refine ⟨?_, h1⟩
  unfold isTrueV at h4
  split at h4
  · subst h4
    cases h3
    rfl
  · exact h4.elim

end
end Go.Abs
