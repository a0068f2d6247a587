/- Symbolic execution, part 19: slices of inputs, told with their room; a row cut out of a row. -/
import Derived.Test.YtkfoibidnkfndaaGreatDoorAbS18
set_option linter.unusedVariables false
set_option linter.unusedSimpArgs false
namespace Go.Abs
open Go.RowKit Go.WideShapes Go.ChangeShapes

/-- THE SLICES THAT A LAW IS HANDED. -/
theorem start_slices_at (W : World) (G : Nat) (ins : List (Option Addr × List Value)) (hin : ∀ x ∈ ins, SliceIn W x) :
    ∃ (h : Heap) (ρ : Ren) (os : Nat → Option Addr), HRel W ρ h W ∧ GRel G ρ ∧ h.pins = [] ∧ WF h ∧
      ∀ i x, ins[i]? = some x → (∀ n c, VRel ρ (.slice (os i) n c) (.slice x.1 n c)) ∧ Elts h (os i) x.2 ∧ ∀ a, os i = some a → a.spot = none := by
  obtain ⟨h, ρ, nm, h1, h2, h3, h4, h5⟩ := start_rows W G (ins.map fun x => (x.1.getD ⟨0, 0, none⟩, x.2)) (by
    intro r hr
    obtain ⟨x, hx, rfl⟩ := List.mem_map.1 hr
    cases ho : x.1 with
    | none => rfl
    | some a => exact ((hin x hx).2.1 a ho).1) (by
    intro r hr i v hv
    obtain ⟨x, hx, rfl⟩ := List.mem_map.1 hr
    cases ho : x.1 with
    | none => simp [(hin x hx).1 ho] at hv
    | some a =>
      simp only [Option.getD_some]
      exact ((hin x hx).2.1 a ho).2 i v hv) (by
    intro r hr v hv
    obtain ⟨x, hx, rfl⟩ := List.mem_map.1 hr
    exact (hin x hx).2.2 v hv)
  refine ⟨h, ρ, fun i => match ins[i]? with | some (some _, _) => some ⟨nm i, 0, none⟩ | _ => none, h1, h2, h3, h4, fun i x hi => ?_⟩
  have h6 := h5 i _ (by rw [List.getElem?_map, hi]; rfl)
  obtain ⟨o, vs⟩ := x
  cases o with
  | none =>
    simp only [hi]
    refine ⟨fun n c => .nilSlice n c, ?_, fun a ha => by cases ha⟩
    have := (hin _ (List.mem_of_getElem? hi)).1 rfl
    simp only at this
    rw [this]; exact Elts.nil
  | some a =>
    simp only [hi]
    exact ⟨h6.1, h6.2, fun a ha => by cases ha; rfl⟩

section
variable {H : Type} {enc : TypeId × Value → H} {P : Program} {W : World}

theorem in_ints_le {t e : TypeId} {k : IntKind} {base : Nat} {v : Value} {d : DataW H} {ps : List MemPlace} (ht : P.underlying t = some (.slice e)) (he : P.underlying e = some (.int k)) (hc : P.cellsOf e = 1)
    (hval : Value.okWide P W .any base t v) (h : DataW.Trod enc P W 0 (fun _ => true) true t v d ps) :
    ∃ (o : Option Addr) (c : Nat) (l : List Int), v = .slice o l.length c ∧ SliceIn W (o, l.map (Value.int k)) ∧ (∀ z ∈ l, (Lit.int k z).wf = true) ∧ (l.length = 0 ∨ ∃ elems spare, d = .slice elems spare ∧ l.length ≤ elems.length + spare.length) ∧ l.length ≤ c := by
  obtain ⟨fuel, h⟩ := h
  have hv := fun o n c hu => slice_of_cells (o := o) (n := n) (c := c) ht hval hu
  rcases open_ints ht he hc h with ⟨h1, h2⟩ | ⟨a, len, cap, zs, h1, _, h3, h4, h5, h6, h7, h8⟩
  · exact ⟨none, 0, [], hv none 0 0 h1, ⟨fun _ => rfl, fun a ha => (by cases ha), fun v hv => (by simp at hv)⟩, fun z hz => (by cases hz), .inl rfl, Nat.le_refl _⟩
  · obtain rfl := hv (some a) len cap h1
    simp only [if_true] at h5
    have hsp := okWide_slice ht hval
    have hl : (zs.take len).length = len := by simp; omega
    refine ⟨some a, cap, zs.take len, by rw [hl], ⟨fun h => (by cases h), fun b hb => ?_, fun v hv => ?_⟩, fun z hz => h8 z (List.mem_of_mem_take hz), .inr ⟨_, _, (Prod.mk.inj h6).1, ?_⟩, by omega⟩
    · cases hb
      refine ⟨hsp, fun i v hv => ?_⟩
      have hi : i < len := by have := (List.getElem?_eq_some_iff.1 hv).1; simp at this; omega
      rw [h7 i (by omega)]
      rw [List.getElem?_map, List.getElem?_take_of_lt hi] at hv
      simp only [List.getD_eq_getElem?_getD]
      cases hz : zs[i]? with
      | none => rw [hz] at hv; cases hv
      | some z => rw [hz] at hv; exact hv
    · obtain ⟨z, _, rfl⟩ := List.mem_map.1 hv; rfl
    · simp [ChangeShapes.lits] <;> omega

end

theorem elt_add {a : Addr} (h : a.spot = none) (k i : Nat) : elt (some (a.add k)) i = elt (some a) (k + i) := by
  obtain ⟨b, o, s⟩ := a
  simp only at h
  subst h
  have e : (⟨b, o, none⟩ : Addr).add k = ⟨b, o + k, none⟩ := by
    have := addTo_mk b o k
    unfold addTo at this
    exact this
  rw [e]
  simp only [elt, Option.map_some, plainA, addTo_mk, Nat.add_assoc]

/-- A row cut out of a row. -/
theorem cut_row {P : Program} {t e : TypeId} (hu : P.underlying t = some (.slice e)) (hs : sizeV P e = some 1) {h : Heap} {o : Option Addr} {n c lo hi : Nat} {vs : List Value} (ho : ∀ a, o = some a → a.spot = none) (el : Elts h o vs)
    (hn : vs.length = n) (hc : n ≤ c) (h1 : lo < hi) (h2 : hi ≤ n) :
    ∃ o', sliceW P t (.slice o n c) (some (.int .i64 lo)) (some (.int .i64 hi)) none = some (.slice o' (hi - lo) (c - lo)) ∧ Elts h o' ((vs.drop lo).take (hi - lo)) := by
  obtain ⟨a, rfl⟩ := el.has (i := lo) (by omega)
  have hsp := ho a rfl
  refine ⟨some (a.add lo), ?_, fun i v hv => ?_⟩
  · have l1 : leI 0 (hi : Int) = true := by simp [leI] <;> omega
    have l2 : leI (hi : Int) c = true := by simp [leI] <;> omega
    have l3 : leI 0 (lo : Int) = true := by simp [leI] <;> omega
    have l4 : leI (lo : Int) hi = true := by simp [leI] <;> omega
    have l5 : Nat.beq c lo = false := by
      cases hb : Nat.beq c lo with
      | false => rfl
      | true => have := Nat.eq_of_beq_eq_true hb; omega
    have eb : boundsV n c (some (.int .i64 lo)) (some (.int .i64 hi)) none = some (lo, hi, c) := by
      simp only [boundsV, Option.bind_some, boundV, l1, l2, Bool.and_self, cond_true, Int.toNat_natCast, l3, l4, Option.map_some]
    unfold sliceW sliceV
    rw [hu]
    simp only [hs, eb, Option.bind_some, hsp, l5, cond_false, Nat.mul_one]
    obtain ⟨b, o, s⟩ := a
    simp only at hsp
    subst hsp
    rfl
  · rw [elt_add hsp]
    refine el (lo + i) v ?_
    have hi' : i < hi - lo := by have := (List.getElem?_eq_some_iff.1 hv).1; simp at this; omega
    rw [List.getElem?_take_of_lt hi', List.getElem?_drop] at hv
    exact hv


theorem cell_int {P : Program} {w : World} {r : Reach} {base : Nat} {t : TypeId} {k : IntKind} {v : Value} (ht : P.underlying t = some (.int k)) (h : Cell.okWide P w r base t v) : ∃ n, v = .int k n := by
  unfold Cell.okWide at h
  rw [ht] at h
  unfold Cell.ok at h
  rw [ht] at h
  cases v <;> simp at h
  rename_i k' n
  exact ⟨n, by simp [h]⟩

theorem open_arr3 {P : Program} {w : World} {base : Nat} {t e : TypeId} {k : IntKind} {v : Value} (ht : P.underlying t = some (.array 3 e)) (he : P.underlying e = some (.int k)) (hc : P.cellsOf t = 3) (hct : P.cellTypes P.depth t = some [e, e, e])
    (hval : Value.okWide P w .any base t v) : ∃ a b c, v = .agg #[.int k a, .int k b, .int k c] := by
  unfold Value.okWide at hval
  rw [ht] at hval
  obtain ⟨cs, rfl, hs, ts, h1, _, h3⟩ := hval
  rw [hct] at h1
  cases h1
  rw [hc] at hs
  have get : ∀ i, i < 3 → ∃ n, cs[i]? = some (.int k n) := by
    intro i hi
    obtain ⟨u, hu, hx⟩ := h3 i cs[i] (Array.getElem?_eq_getElem (by omega))
    have : u = e := by
      have hi' : i = 0 ∨ i = 1 ∨ i = 2 := by omega
      rcases hi' with rfl | rfl | rfl <;> simpa using hu.symm
    subst this
    obtain ⟨n, hn⟩ := cell_int he hx
    exact ⟨n, by rw [Array.getElem?_eq_getElem (by omega), hn]⟩
  obtain ⟨a, ha⟩ := get 0 (by omega)
  obtain ⟨b, hb⟩ := get 1 (by omega)
  obtain ⟨c, hc'⟩ := get 2 (by omega)
  refine ⟨a, b, c, ?_⟩
  congr 1
  apply Array.ext_getElem?
  intro i
  by_cases hi : i < 3
  · have hi' : i = 0 ∨ i = 1 ∨ i = 2 := by omega
    rcases hi' with rfl | rfl | rfl
    · rw [ha]; rfl
    · rw [hb]; rfl
    · rw [hc']; rfl
  · rw [Array.getElem?_eq_none (by omega), Array.getElem?_eq_none (by simp; omega)]

theorem vrel_arr3 {ρ : Ren} {k : IntKind} {a b c : Int} : VRel ρ (.agg #[.int k a, .int k b, .int k c]) (.agg #[.int k a, .int k b, .int k c]) :=
  .agg rfl fun i v v' h h' => by
    rw [h] at h'
    cases h'
    have hi : i < 3 := (Array.getElem?_eq_some_iff.1 h).1
    have hi' : i = 0 ∨ i = 1 ∨ i = 2 := by omega
    rcases hi' with rfl | rfl | rfl <;> (cases h; exact .int _ _)

end Go.Abs
