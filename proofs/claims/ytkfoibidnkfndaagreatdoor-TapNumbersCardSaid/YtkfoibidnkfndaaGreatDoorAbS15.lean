/- Symbolic execution, part 15: rows that lie in the world at the start. -/
import Derived.Test.YtkfoibidnkfndaaGreatDoorAbS14
set_option linter.unusedVariables false
set_option linter.unusedSimpArgs false
namespace Go.Abs
open Go.RowKit

def rowsTri (G : Nat) : List (Option Obj) → Tri
  | [] => .leaf
  | o :: l => Tri.put (G + l.length + 1) (rowsTri G l) (G + l.length) o

theorem rowsTri_get (G j : Nat) : ∀ l : List (Option Obj), (rowsTri G l).get j = if G ≤ j ∧ j < G + l.length then (l.reverse[j - G]?).join else none
  | [] => by
    have : ¬ (G ≤ j ∧ j < G + ([] : List (Option Obj)).length) := by simp only [List.length_nil]; omega
    rw [if_neg this]; rfl
  | o :: l => by
    rw [rowsTri, Tri.get_put _ _ _ _ _ (by omega), rowsTri_get G j l]
    by_cases h1 : j = G + l.length
    · subst h1
      rw [if_pos rfl, if_pos (by simp)]
      simp
    · rw [if_neg h1]
      by_cases h2 : G ≤ j ∧ j < G + l.length
      · rw [if_pos h2, if_pos (by simp; omega)]
        rw [List.reverse_cons, List.getElem?_append_left (by simp; omega)]
      · rw [if_neg h2, if_neg (by simp; omega)]

abbrev RowIn := Addr × List Value

def elemAt (W : World) (b : Nat) : TypeId :=
  match W.heap[b]? with
  | some (.cells _ e _) => e
  | _ => 0

def rowObj (W : World) (r : RowIn) : Option Obj := if r.2.length = 0 then none else some (.cells r.2.toArray (elemAt W r.1.block) shut)

def rowsRen (G : Nat) (rows : List RowIn) : Ren := fun i => if i < G then some ⟨i, 0, 0⟩ else (rows.reverse[i - G]?).map fun r => ⟨r.1.block, r.1.off, r.2.length⟩

theorem wcell {W : World} {a : Addr} {v : Value} (h : W.cell? a = some v) : ∃ c e fr, W.heap[a.block]? = some (.cells c e fr) ∧ c[a.off]? = some v := by
  unfold World.cell? at h
  split at h
  · rename_i c e fr hh
    split at h
    · cases h
    · exact ⟨c, e, fr, hh, h⟩
  · cases h

/-- THE ROWS THAT A LAW IS HANDED, as the abstract machine sees them. -/
theorem start_rows (W : World) (G : Nat) (rows : List RowIn) (hspot : ∀ r ∈ rows, r.1.spot = none) (hcell : ∀ r ∈ rows, ∀ i v, r.2[i]? = some v → W.cell? (r.1.add i) = some v) (hsc : ∀ r ∈ rows, ∀ v ∈ r.2, scalar v = true) :
    ∃ (h : Heap) (ρ : Ren) (nm : Nat → Nat), HRel W ρ h W ∧ GRel G ρ ∧ h.pins = [] ∧ WF h ∧
      ∀ i r, rows[i]? = some r → (∀ n c, VRel ρ (.slice (some ⟨nm i, 0, none⟩) n c) (.slice (some r.1) n c)) ∧ Elts h (some ⟨nm i, 0, none⟩) r.2 := by
  let h : Heap := ⟨G + rows.length, rowsTri G (rows.map (rowObj W)), []⟩
  let ρ : Ren := rowsRen G rows
  have hget : ∀ j, h.get j = if G ≤ j ∧ j < G + rows.length then ((rows.reverse[j - G]?).bind (rowObj W)) else none := by
    intro j
    show (rowsTri G (rows.map (rowObj W))).get j = _
    rw [rowsTri_get]
    simp only [List.length_map]
    by_cases hj : G ≤ j ∧ j < G + rows.length
    · rw [if_pos hj, if_pos hj, ← List.map_reverse, List.getElem?_map]
      cases rows.reverse[j - G]? <;> rfl
    · rw [if_neg hj, if_neg hj]
  have wf : WF h := by
    intro i hi
    have hi' : G + rows.length ≤ i := hi
    rw [hget, if_neg (by omega)]
  have hrel : HRel W ρ h W := by
    refine start_inputs (fun i o hi => ?_) (fun i hi => ?_)
    · rw [hget] at hi
      split at hi
      · rename_i hj
        cases hr : rows.reverse[i - G]? with
        | none => rw [hr] at hi; cases hi
        | some r =>
          rw [hr] at hi
          simp only [Option.bind_some, rowObj] at hi
          split at hi
          · cases hi
          · rename_i hne
            cases hi
            have hmem : r ∈ rows := by simpa using List.mem_of_getElem? hr
            have h0 : 0 < r.2.length := by omega
            have hc0 := hcell r hmem (r.2.length - 1) _ (List.getElem?_eq_getElem (by omega))
            obtain ⟨c', e', fr', q1, q2⟩ := wcell hc0
            rw [Addr.add_block] at q1
            rw [Addr.add_off] at q2
            have hlt : r.1.off + (r.2.length - 1) < c'.size := (Array.getElem?_eq_some_iff.1 q2).1
            refine ⟨_, _, ⟨r.1.block, r.1.off, r.2.length⟩, rfl, ?_, ⟨⟨c', fr', ?_, ?_, ?_⟩, ?_⟩⟩
            · show rowsRen G rows i = _
              unfold rowsRen
              rw [if_neg (by omega), hr]; rfl
            · rw [q1]
              simp only [elemAt, q1]
            · simp only; omega
            · intro k v hv
              have hv' : r.2[k]? = some v := by simpa using hv
              have hc := hcell r hmem k v hv'
              obtain ⟨c2, e2, fr2, s1, s2⟩ := wcell hc
              rw [Addr.add_block, q1] at s1
              cases s1
              rw [Addr.add_off] at s2
              exact ⟨v, s2, scalar_refl (hsc r hmem v (List.mem_of_getElem? hv'))⟩
            · simp
      · cases hi
    · refine ⟨?_, wf i hi⟩
      have hi' : G + rows.length ≤ i := hi
      show rowsRen G rows i = none
      unfold rowsRen
      rw [if_neg (by omega), List.getElem?_eq_none (by simp; omega)]; rfl
  refine ⟨h, ρ, fun i => G + (rows.length - 1 - i), hrel, fun g hg => ⟨0, by show rowsRen G rows g = _; unfold rowsRen; rw [if_pos hg]⟩, rfl, wf, fun i r hi => ?_⟩
  have hlt : i < rows.length := (List.getElem?_eq_some_iff.1 hi).1
  have hrev : rows.reverse[G + (rows.length - 1 - i) - G]? = some r := by
    rw [Nat.add_sub_cancel_left, List.getElem?_reverse (by omega)]
    rw [show rows.length - 1 - (rows.length - 1 - i) = i by omega]; exact hi
  have hmem : r ∈ rows := List.mem_of_getElem? hi
  refine ⟨fun n c => .slice ⟨hspot r hmem, ⟨r.1.block, r.1.off, r.2.length⟩, ?_, rfl, rfl, rfl⟩, fun k v hv => ?_⟩
  · show rowsRen G rows (G + (rows.length - 1 - i)) = _
    unfold rowsRen
    rw [if_neg (by omega), hrev]; rfl
  · have hk : k < r.2.length := (List.getElem?_eq_some_iff.1 hv).1
    have hg : h.get (G + (rows.length - 1 - i)) = some (.cells r.2.toArray (elemAt W r.1.block) shut) := by
      rw [hget, if_pos (by omega), hrev]
      simp only [Option.bind_some, rowObj]
      rw [if_neg (by omega)]
    simp only [elt, Option.map_some, plainA, addTo_mk, Option.bind_some]
    unfold Heap.cell?
    rw [hg]
    simpa using hv

end Go.Abs
