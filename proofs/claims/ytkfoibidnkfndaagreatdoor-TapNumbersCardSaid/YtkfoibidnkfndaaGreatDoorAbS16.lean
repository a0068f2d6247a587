/- Symbolic execution, part 16: arguments of a law, opened. -/
import Derived.Test.YtkfoibidnkfndaaGreatDoorAbS15
import Derived.ChangeSlices
import Derived.Deep.Grids
import Derived.SizedLaws
import Derived.RowKit
import Derived.Carry
set_option linter.unusedVariables false
set_option linter.unusedSimpArgs false
namespace Go.Abs
open Go.RowKit Go.ChangeShapes

/-- A slice that lies in the world. -/
def SliceIn (W : World) (x : Option Addr × List Value) : Prop :=
  (x.1 = none → x.2 = []) ∧ (∀ a, x.1 = some a → a.spot = none ∧ ∀ i v, x.2[i]? = some v → W.cell? (a.add i) = some v) ∧ ∀ v ∈ x.2, scalar v = true

/-- THE SLICES THAT A LAW IS HANDED. -/
theorem start_slices (W : World) (G : Nat) (ins : List (Option Addr × List Value)) (hin : ∀ x ∈ ins, SliceIn W x) :
    ∃ (h : Heap) (ρ : Ren) (os : Nat → Option Addr), HRel W ρ h W ∧ GRel G ρ ∧ h.pins = [] ∧ WF h ∧
      ∀ i x, ins[i]? = some x → (∀ n c, VRel ρ (.slice (os i) n c) (.slice x.1 n c)) ∧ Elts h (os i) x.2 := by
  obtain ⟨h, ρ, nm, h1, h2, h3, h4, h5⟩ := start_rows W G (ins.map fun x => (x.1.getD ⟨0, 0, none⟩, x.2)) (by
    intro r hr
    obtain ⟨x, hx, rfl⟩ := List.mem_map.1 hr
    cases ho : x.1 with
    | none => rfl
    | some a => exact ((hin x hx).2.1 a ho).1) (by
    intro r hr i v hv
    obtain ⟨x, hx, rfl⟩ := List.mem_map.1 hr
    cases ho : x.1 with
    | none => simp [(hin x hx).1 ho] at hv
    | some a =>
      simp only [Option.getD_some]
      exact ((hin x hx).2.1 a ho).2 i v hv) (by
    intro r hr v hv
    obtain ⟨x, hx, rfl⟩ := List.mem_map.1 hr
    exact (hin x hx).2.2 v hv)
  refine ⟨h, ρ, fun i => match ins[i]? with | some (some _, _) => some ⟨nm i, 0, none⟩ | _ => none, h1, h2, h3, h4, fun i x hi => ?_⟩
  have h6 := h5 i _ (by rw [List.getElem?_map, hi]; rfl)
  obtain ⟨o, vs⟩ := x
  cases o with
  | none =>
    simp only [hi]
    refine ⟨fun n c => .nilSlice n c, ?_⟩
    have := (hin _ (List.mem_of_getElem? hi)).1 rfl
    simp only at this
    rw [this]; exact Elts.nil
  | some a =>
    simp only [hi]
    exact ⟨h6.1, h6.2⟩

section
variable {H : Type} {enc : TypeId × Value → H} {P : Program} {W : World}

theorem okWide_slice {t e : TypeId} {base : Nat} {a : Addr} {n c : Nat} (ht : P.underlying t = some (.slice e)) (hval : Value.okWide P W .any base t (.slice (some a) n c)) : a.spot = none := by
  unfold Value.okWide at hval
  rw [ht] at hval
  simp only at hval
  unfold Cell.okWide at hval
  rw [ht] at hval
  simp only at hval
  unfold Cell.ok at hval
  rw [ht] at hval
  simp only at hval
  exact hval.2.2.2.1

theorem slice_of_cells {t e : TypeId} {base : Nat} {v : Value} {o : Option Addr} {n c : Nat} (ht : P.underlying t = some (.slice e)) (hval : Value.okWide P W .any base t v) (hu : v.cells.toList = [.slice o n c]) : v = .slice o n c := by
  cases v with
  | agg cs =>
    exfalso
    unfold Value.okWide at hval
    rw [ht] at hval
    simp only at hval
    unfold Cell.okWide at hval
    rw [ht] at hval
    simp only at hval
    unfold Cell.ok at hval
    rw [ht] at hval
    exact hval
  | slice a n' c' =>
    simp [Value.cells] at hu
    simp [hu]
  | _ => simp [Value.cells] at hu

theorem in_ints {t e : TypeId} {k : IntKind} {base : Nat} {v : Value} {d : DataW H} {ps : List MemPlace} (ht : P.underlying t = some (.slice e)) (he : P.underlying e = some (.int k)) (hc : P.cellsOf e = 1)
    (hval : Value.okWide P W .any base t v) (h : DataW.Trod enc P W 0 (fun _ => true) true t v d ps) :
    ∃ (o : Option Addr) (c : Nat) (l : List Int), v = .slice o l.length c ∧ SliceIn W (o, l.map (Value.int k)) ∧ (∀ z ∈ l, (Lit.int k z).wf = true) ∧ (l.length = 0 ∨ ∃ elems spare, d = .slice elems spare ∧ l.length ≤ elems.length + spare.length) := by
  obtain ⟨fuel, h⟩ := h
  have hv := fun o n c hu => slice_of_cells (o := o) (n := n) (c := c) ht hval hu
  rcases open_ints ht he hc h with ⟨h1, h2⟩ | ⟨a, len, cap, zs, h1, _, h3, h4, h5, h6, h7, h8⟩
  · exact ⟨none, 0, [], hv none 0 0 h1, ⟨fun _ => rfl, fun a ha => (by cases ha), fun v hv => (by simp at hv)⟩, fun z hz => (by cases hz), .inl rfl⟩
  · obtain rfl := hv (some a) len cap h1
    simp only [if_true] at h5
    have hsp := okWide_slice ht hval
    have hl : (zs.take len).length = len := by simp; omega
    refine ⟨some a, cap, zs.take len, by rw [hl], ⟨fun h => (by cases h), fun b hb => ?_, fun v hv => ?_⟩, fun z hz => h8 z (List.mem_of_mem_take hz), .inr ⟨_, _, (Prod.mk.inj h6).1, ?_⟩⟩
    · cases hb
      refine ⟨hsp, fun i v hv => ?_⟩
      have hi : i < len := by have := (List.getElem?_eq_some_iff.1 hv).1; simp at this; omega
      rw [h7 i (by omega)]
      rw [List.getElem?_map, List.getElem?_take_of_lt hi] at hv
      simp only [List.getD_eq_getElem?_getD]
      cases hz : zs[i]? with
      | none => rw [hz] at hv; cases hv
      | some z => rw [hz] at hv; exact hv
    · obtain ⟨z, _, rfl⟩ := List.mem_map.1 hv; rfl
    · simp [ChangeShapes.lits] <;> omega

theorem in_bools {t e : TypeId} {base : Nat} {v : Value} {d : DataW H} {ps : List MemPlace} (ht : P.underlying t = some (.slice e)) (he : P.underlying e = some .bool) (hc : P.cellsOf e = 1)
    (hval : Value.okWide P W .any base t v) (h : DataW.Trod enc P W 0 (fun _ => true) true t v d ps) :
    ∃ (o : Option Addr) (c : Nat) (l : List Bool), v = .slice o l.length c ∧ SliceIn W (o, l.map Value.bool) ∧ (l.length = 0 ∨ ∃ elems spare, d = .slice elems spare ∧ l.length ≤ elems.length + spare.length) := by
  obtain ⟨fuel, h⟩ := h
  have hv := fun o n c hu => slice_of_cells (o := o) (n := n) (c := c) ht hval hu
  rcases Go.Deep.open_bools ht he hc h with ⟨h1, h2⟩ | ⟨a, len, cap, B, h1, _, h3, h4, h6, h7⟩
  · exact ⟨none, 0, [], hv none 0 0 h1, ⟨fun _ => rfl, fun a ha => (by cases ha), fun v hv => (by simp at hv)⟩, .inl rfl⟩
  · obtain rfl := hv (some a) len cap h1
    have hsp := okWide_slice ht hval
    have hl : ((List.range len).map B).length = len := by simp
    refine ⟨some a, cap, (List.range len).map B, by rw [hl], ⟨fun h => (by cases h), fun b hb => ?_, fun v hv => ?_⟩, ?_⟩
    · cases hb
      refine ⟨hsp, fun i v hv => ?_⟩
      have hi : i < len := by have := (List.getElem?_eq_some_iff.1 hv).1; simpa using this
      rw [h7 i (by omega)]
      simpa [hi] using hv
    · obtain ⟨z, _, rfl⟩ := List.mem_map.1 hv; rfl
    · refine .inr ⟨_, _, (Prod.mk.inj h6).1, ?_⟩
      simp

/-- An argument reads behind the call as it did. -/
theorem carry {t : TypeId} (hl : laidOutB P = true) (hr : P.readableRec t = true) (hrow : t < P.types.size) {W' : World} {v : Value} {d : DataW H} {ps : List MemPlace} (h : DataW.Trod enc P W 0 (fun _ => true) true t v d ps)
    (hb : Below W.heap.size W W') (hlt : ∀ x ∈ ps, x.block < W.heap.size) {sp : Nat → Bool} (hsp : ∀ x ∈ ps, sp x.block = true) : DataW.Trod enc P W' 0 sp true t v d ps :=
  WideElems.Trod_stays hl hr hrow h (fun x hx => hb.same (hlt x hx)) hsp

end
end Go.Abs
