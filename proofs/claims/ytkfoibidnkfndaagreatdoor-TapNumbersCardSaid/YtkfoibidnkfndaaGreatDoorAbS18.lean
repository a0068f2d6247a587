/- Symbolic execution, part 18: a loop's object; slices.Sorted over slices.Values. -/
import Derived.Test.YtkfoibidnkfndaaGreatDoorAbS17
set_option linter.unusedVariables false
set_option linter.unusedSimpArgs false
namespace Go.Abs
open Go.RowKit

def loopO (P : Program) (st : LoopState) (pend : Option Code) (f : FuncId) (p : List Nat) (tmps : Array Value) (d : Nat) : Obj :=
  .loop { state := st, pending := pend, fn := 0, tmps := tmps, params := paramsAt P f p, assign := codeAt P f (0 :: p), body := codeAt P f (1 :: p), defers := d }

theorem hup_hit {h : Heap} {k b : Nat} {o : Option Obj} {l : List (Nat × Option Obj)} {p : List Addr} : (hup h k ((b, o) :: l) p).get b = o := by rw [hup_cons, if_pos rfl]
theorem hup_miss {h : Heap} {k b c : Nat} {o : Option Obj} {l : List (Nat × Option Obj)} {p : List Addr} (hc : c ≠ b) : (hup h k ((b, o) :: l) p).get c = (hup h k l p).get c := by rw [hup_cons, if_neg hc]
theorem hup_get_ne {h : Heap} {k b : Nat} {p : List Addr} : ∀ {l : List (Nat × Option Obj)}, (∀ x ∈ l, x.1 ≠ b) → (hup h k l p).get b = h.get b
  | [], _ => rfl
  | (c, o) :: l, hl => by
    have := hl (c, o) (List.mem_cons_self ..)
    simp only at this
    rw [hup_miss (fun e => this e.symm)]
    exact hup_get_ne fun x hx => hl x (List.mem_cons_of_mem _ hx)
theorem hup_wf {h : Heap} {k : Nat} {p : List Addr} {l : List (Nat × Option Obj)} (w : WF h) (hl : ∀ x ∈ l, x.1 < h.next + k) : WF (hup h k l p) := by
  intro i hi
  have hi' : h.next + k ≤ i := hi
  rw [hup_get_ne fun x hx e => by have := hl x hx; omega]
  exact w i (by omega)
/-- New blocks, new since an older heap. -/
theorem hup_since {h0 h : Heap} {k : Nat} {p : List Addr} {l : List (Nat × Option Obj)} (ol : Old h0 h) (w : WF h) (hp : p = h.pins) (hl : ∀ x ∈ l, h0.next ≤ x.1 ∧ x.1 < h.next + k) : Old h0 (hup h k l p) := by
  refine ⟨fun b hb => ?_, ?_, hp.trans ol.pins, fun _ => hup_wf w fun x hx => (hl x hx).2⟩
  · rw [hup_get_ne fun x hx e => by have := (hl x hx).1; omega]
    exact ol.get b hb
  · have := ol.next
    rw [hup_next]; omega

end Go.Abs
