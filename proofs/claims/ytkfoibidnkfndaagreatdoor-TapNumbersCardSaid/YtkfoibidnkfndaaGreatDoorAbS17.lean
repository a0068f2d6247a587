/- Symbolic execution, part 17: the shelf's contract of slices.Sort at numbers, told of the abstract machine. -/
import Derived.Test.YtkfoibidnkfndaaGreatDoorAbS16
import Derived.Shelf.Sort.Plain
set_option linter.unusedVariables false
set_option linter.unusedSimpArgs false
namespace Go.Abs
open Go.RowKit Go.Sort

/-- What a contract of sorting says. -/
def SortsInts (P : Program) (f : FuncId) : Prop := ∀ (blk off cap : Nat) (zs : List Int) (w : World), Holds (Value.int .i64) w blk off zs.toArray → blk < w.heap.size → zs.length < 4611686018427387904 →
  Calls P f #[.slice (some ⟨blk, off, none⟩) zs.length cap] w fun e w' => e = .returned (.tuple #[]) ∧ ∃ n os, w' = grow (putRow (Value.int .i64) (Sort.ahead w n) blk off (zs.mergeSort fun x y => decide (x ≤ y)).toArray) os

theorem putCells_at {off : Nat} {d : Array Int} {c : Array Value} {k : Nat} {v : Value} (h : c[k]? = some v) : (putCells (Value.int .i64) off d c)[k]? = some (if off ≤ k ∧ k < off + d.size then .int .i64 d[k - off]! else v) := by
  unfold putCells
  rw [Array.getElem?_mapIdx, h]; rfl

theorem putCells_size {off : Nat} {d : Array Int} {c : Array Value} : (putCells (Value.int .i64) off d c).size = c.size := by simp [putCells]

/-- SORTING IN PLACE. -/
theorem sort_call {P : Program} {w0 : World} {f : FuncId} (hs : SortsInts P f) {h : Heap} {b : Nat} {sp : Option Nat} {t : TypeId} {c : Nat} {zs : List Int} {R : Value → Heap → Prop}
    (hg : h.get b = some (.cells (zs.map (Value.int .i64)).toArray t (0, 0))) (hp : h.pins = []) (hl : zs.length < 4611686018427387904)
    (hR : R (.tuple #[]) (h.put b (some (.cells ((zs.mergeSort fun x y => decide (x ≤ y)).map (Value.int .i64)).toArray t (0, 0))))) :
    (top P w0).call f #[.slice (some ⟨b, 0, sp⟩) zs.length c] h R := by
  intro args' w ρ hgl hr ha
  obtain ⟨v', rfl, hv⟩ : ∃ v', args' = #[v'] ∧ VRel ρ (.slice (some ⟨b, 0, sp⟩) zs.length c) v' := by
    have h1 : args'.size = 1 := ha.1.symm
    have h2 : args'[0]? = some args'[0] := Array.getElem?_eq_getElem (by omega)
    refine ⟨args'[0], ?_, ha.2 0 _ _ rfl h2⟩
    apply Array.ext
    · simp [h1]
    · intro i h3 h4
      have : i = 0 := by omega
      subst this; rfl
  cases hv with
  | @slice _ a' _ _ c' hsr =>
    obtain ⟨s1, p, s2, s3, s4, _⟩ := hsr
    obtain ⟨p', o', q1, q2, q3, _⟩ := hr.objs b _ hg
    have : p' = p := by rw [s2] at q1; cases q1; rfl
    subst this
    cases q3 with
    | @cells _ cc _ _ fr' k1 k2 k3 k4 =>
      have ea : a' = ⟨p'.blk, p'.off, none⟩ := by
        obtain ⟨ab, ao, asp⟩ := a'
        simp only at s1 s3 s4
        simp [s1, s3, s4]
      subst ea
      have hfr : fr' = (0, 0) ∧ w0.heap.size ≤ p'.blk := by
        rcases k4 with ⟨_, h2, h3⟩ | ⟨h1, _⟩ | h1
        · exact ⟨h2, h3⟩
        · cases h1
        · cases h1
      obtain ⟨rfl, hge⟩ := hfr
      have hcell : ∀ k, k < zs.length → cc[p'.off + k]? = some (.int .i64 zs[k]!) := by
        intro k hk
        obtain ⟨v', e1, e2⟩ := k1 k (.int .i64 zs[k]!) (by simp [hk])
        cases e2
        exact e1
      have hlt : p'.blk < w.heap.size := lt_of_heap q2
      have hholds : Holds (Value.int .i64) w p'.blk p'.off zs.toArray := by
        intro j hj
        have hj' : j < zs.length := by simpa using hj
        refine ⟨?_, ?_⟩
        · unfold World.cell?
          simp only [q2]
          rw [if_neg (by simp), hcell j hj']
          simp
        · unfold World.frozen?
          simp only [q2]
          simp
      have hcc : CallsIn Fence.wide 0 P f _ w _ := callsIn_wide.2 (hs p'.blk p'.off c' zs w hholds hlt hl)
      refine hcc.mono fun e w' he => ?_
      obtain ⟨rfl, n, os, rfl⟩ := he
      generalize hss : (zs.mergeSort fun x y => decide (x ≤ y)) = ss at hR
      have hlen : ss.length = zs.length := by rw [← hss]; simp
      have hheap : ∀ k, k < w.heap.size → (grow (putRow (Value.int .i64) (Sort.ahead w n) p'.blk p'.off ss.toArray) os).heap[k]? = if k = p'.blk then some (.cells (putCells (Value.int .i64) p'.off ss.toArray cc) t (0, 0)) else w.heap[k]? := by
        intro k hk
        have hsz : (w.heap.modify p'.blk (onCells (putCells (Value.int .i64) p'.off ss.toArray))).size = w.heap.size := by simp
        show ((w.heap.modify p'.blk (onCells (putCells (Value.int .i64) p'.off ss.toArray))) ++ os)[k]? = _
        rw [Array.getElem?_append_left (by rw [hsz]; exact hk), Array.getElem?_modify]
        by_cases hkb : k = p'.blk
        · subst hkb
          rw [if_pos rfl, if_pos rfl, q2]; rfl
        · rw [if_neg (fun e => hkb e.symm), if_neg hkb]
      refine ⟨.tuple #[], .tuple #[], ρ, h.put b (some (.cells (ss.map (Value.int .i64)).toArray t (0, 0))), rfl, Ren.le_refl _, ?_, .tuple rfl (fun i v v' e => by simp at e), ⟨rfl, fun a v hm => (by rw [hp] at hm; cases hm), Nat.le_refl _⟩, hR⟩
      refine ⟨?_, ?_, ?_, ?_⟩
      · have hb := hr.below
        refine ⟨hb.os, hb.tape, hb.output, ?_, fun k hk => ?_⟩
        · show w0.heap.size ≤ ((w.heap.modify p'.blk _) ++ os).size
          have := hb.size
          simp; omega
        · rw [hheap k (Nat.lt_of_lt_of_le hk hb.size), if_neg (by omega)]
          exact hb.block k hk
      · intro i o hi
        rw [Heap.get_put] at hi
        split at hi
        · rename_i hib
          cases hi
          subst hib
          refine ⟨p', _, s2, by rw [hheap _ hlt, if_pos rfl], .cells (fun k v hv => ?_) (by simpa [hlen] using k2) (by rw [putCells_size]; exact k3) (.inl ⟨rfl, rfl, hge⟩), fun hn => by simp [notCells] at hn⟩
          have hk : k < ss.length := by have := (Array.getElem?_eq_some_iff.1 hv).1; simpa using this
          rw [putCells_at (hcell k (by omega)), if_pos ⟨by omega, by simp; omega⟩]
          refine ⟨_, rfl, ?_⟩
          have hv' : v = .int .i64 ss[k]! := by
            have := hv
            simp [hk] at this
            rw [← this]; simp [hk]
          rw [hv', Nat.add_sub_cancel_left]
          simp only [List.getElem!_toArray]
          exact .int _ _
        · rename_i hib
          obtain ⟨q, o2, r1, r2, r3, r4⟩ := hr.objs i o hi
          refine ⟨q, o2, r1, ?_, r3, r4⟩
          have hlt2 : q.blk < w.heap.size := lt_of_heap r2
          rw [hheap _ hlt2]
          by_cases hqb : q.blk = p'.blk
          · exfalso
            have := hr.sep i b o _ q p' hib hi hg r1 s2 hqb
            omega
          · rw [if_neg hqb]; exact r2
      · intro i j oi oj pi pj hne h1 h2 h3 h4 h5
        rw [Heap.get_put] at h1 h2
        have g1 : ∃ o, h.get i = some o := by
          split at h1
          · rename_i hib; rw [hib]; exact ⟨_, hg⟩
          · exact ⟨_, h1⟩
        have g2 : ∃ o, h.get j = some o := by
          split at h2
          · rename_i hib; rw [hib]; exact ⟨_, hg⟩
          · exact ⟨_, h2⟩
        obtain ⟨o1, g1⟩ := g1
        obtain ⟨o2, g2⟩ := g2
        exact hr.sep i j o1 o2 pi pj hne g1 g2 h3 h4 h5
      · intro i hi
        have h1 := hr.fresh i hi
        refine ⟨h1.1, ?_⟩
        rw [Heap.get_put]
        split
        · rename_i hib
          rw [hib, hg] at h1
          cases h1.2
        · exact h1.2

end Go.Abs
