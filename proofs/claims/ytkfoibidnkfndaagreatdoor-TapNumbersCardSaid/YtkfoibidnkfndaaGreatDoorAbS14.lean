/- Symbolic execution, part 14: '==' of arrays of numbers. -/
import Derived.Test.YtkfoibidnkfndaaGreatDoorAbS13
set_option linter.unusedVariables false
set_option linter.unusedSimpArgs false
namespace Go.Abs

section
variable {P : Program}

theorem pureRun_all {f : Nat → Sem Bool} {g : Nat → Bool} : ∀ (n s : Nat), (∀ i, s ≤ i → i < s + n → pureRun P (f i) = some (g i)) →
    pureRun P (forIn (List.range' s n) ((none, ()) : Option Bool × Unit) fun i _ => do
      let r ← f i
      if (!r) = true then pure (ForInStep.done (some false, ())) else pure (ForInStep.yield (none, ()))) = some (if (List.range' s n).all g then (none, ()) else (some false, ()))
  | 0, s, _ => by simp; rfl
  | n + 1, s, h => by
    have h0 := h s (Nat.le_refl _) (by omega)
    rw [List.range'_succ]
    simp only [List.forIn_cons, List.all_cons]
    rw [pureRun_bind, pureRun_bind, h0]
    simp only [Option.bind_some]
    have hgg : g s = false ∨ g s = true := by cases g s <;> simp
    rcases hgg with hg | hg
    · simp only [hg, Bool.not_false, if_true, Bool.false_and]; rfl
    · simp only [hg, Bool.not_true, Bool.true_and]
      have := pureRun_all (f := f) (g := g) n (s + 1) fun i h1 h2 => h i (by omega) (by omega)
      exact this

theorem pure_size {t : TypeId} {n : Nat} (h : sizeV P t = some n) : pureRun P (sizeOf t) = some n := by
  obtain ⟨i, hi, rfl⟩ := sizeV_info h
  have h1 : pureRun P (typeInfo t) = some i := by
    unfold typeInfo
    show pureRun P (Sem.bind _ _) = _
    simp only [program, Sem.bind, pureRun, hi]
    rfl
  unfold sizeOf
  rw [pureRun_bind, h1]; rfl

theorem part_int {e : TypeId} {k : IntKind} (he : P.underlying e = some (.int k)) {cs : Array Value} {i : Nat} {v : Value} (hv : cs[i]? = some v) : pureRun P (part e cs i) = some v := by
  unfold part isAgg
  rw [pureRun_bind, pureRun_bind, pure_und he]
  simp only [Option.bind_some]
  show pureRun P (if false = true then _ else _) = _
  rw [if_neg (by simp), hv]; rfl

/-- '==' of two arrays of numbers. -/
theorem arrEq {t e : TypeId} {n : Nat} {k : IntKind} (ht : P.underlying t = some (.array n e)) (he : P.underlying e = some (.int k)) (hs : sizeV P e = some 1) {xs ys : List Int} (hx : xs.length = n) (hy : ys.length = n) :
    pureRun P (Op.equal t (.agg (xs.map (Value.int k)).toArray) (.agg (ys.map (Value.int k)).toArray)) = some (decide (xs = ys)) := by
  rw [equal_unf]
  unfold Op.equalIn
  rw [pureRun_bind, pure_und ht]
  simp only [Option.bind_some]
  rw [pureRun_bind, pure_size hs]
  simp only [Option.bind_some, Std.Legacy.Range.forIn_eq_forIn_range', Std.Legacy.Range.size, Nat.sub_zero, Nat.add_sub_cancel, Nat.div_one, Nat.mul_one]
  have key := pureRun_all (P := P) (f := fun i => do
      let a ← part e (xs.map (Value.int k)).toArray i
      let b ← part e (ys.map (Value.int k)).toArray i
      Op.equalIn 9999 e a b) (g := fun i => decide (xs.getD i 0 = ys.getD i 0)) n 0 (by
    intro i _ hi
    have hi : i < n := by omega
    have h1 : (xs.map (Value.int k)).toArray[i]? = some (.int k (xs.getD i 0)) := by simp [List.getD_eq_getElem?_getD, hx ▸ hi, hx, hi]
    have h2 : (ys.map (Value.int k)).toArray[i]? = some (.int k (ys.getD i 0)) := by simp [List.getD_eq_getElem?_getD, hy, hi]
    rw [pureRun_bind, part_int he h1]
    simp only [Option.bind_some]
    rw [pureRun_bind, part_int he h2]
    simp only [Option.bind_some]
    show pureRun P (Op.equalIn (9998 + 1) e _ _) = _
    unfold Op.equalIn
    rw [pureRun_bind, pure_und he]
    simp only [Option.bind_some, if_true]
    show some _ = some _
    congr 1)
  rw [pureRun_bind]
  simp only [bind_assoc] at key
  rw [key]
  have hall : (List.range' 0 n).all (fun i => decide (xs.getD i 0 = ys.getD i 0)) = decide (xs = ys) := by
    rw [Bool.eq_iff_iff]
    simp only [List.all_eq_true, decide_eq_true_eq]
    constructor
    · intro h
      apply List.ext_getElem (by omega)
      intro i h1 h2
      have := h i (by simp; omega)
      simpa [List.getD_eq_getElem?_getD, h1, h2] using this
    · rintro rfl i _; rfl
  rw [hall]
  cases decide (xs = ys) <;> rfl

theorem eqGuard_arr {op : BinOp} {t e : TypeId} {n : Nat} {k : IntKind} {x y : Operand} {a b : Array Value} (ht : P.underlying t = some (.array n e)) (he : P.underlying e = some (.int k)) (hd : P.depth = P.depth) :
    (∃ d, P.depth = d + 2) → pureRun P (eqGuard op t x y (.agg a) (.agg b)) = some () := by
  rintro ⟨d, hd⟩
  have h1 : P.eqGuardType P.depth t = false := by
    rw [hd]
    simp only [Program.eqGuardType, ht, he]
  unfold eqGuard
  cases op <;> first
    | rfl
    | (show pureRun P (program >>= fun p => program >>= fun q => if (!p.eqGuardType q.depth t) = true then pure () else _) = _
       rw [pureRun_bind]
       show pureRun P (if (!P.eqGuardType P.depth t) = true then _ else _) = _
       rw [h1]; rfl)

theorem binW_arr {t e : TypeId} {n : Nat} {k : IntKind} {x y : Operand} (ht : P.underlying t = some (.array n e)) (he : P.underlying e = some (.int k)) (hs : sizeV P e = some 1) {xs ys : List Int} (hx : xs.length = n) (hy : ys.length = n) :
    binW P .eql t x y (.agg (xs.map (Value.int k)).toArray) (.agg (ys.map (Value.int k)).toArray) = some (.bool (decide (xs = ys))) ∧
    binW P .neq t x y (.agg (xs.map (Value.int k)).toArray) (.agg (ys.map (Value.int k)).toArray) = some (.bool !(decide (xs = ys))) := by
  have hc : ∀ l : List Int, closed (.agg (l.map (Value.int k)).toArray) = true := by
    intro l
    show (List.map (Value.int k) l).all (closedV 99) = true
    simp [closedV]
  obtain ⟨h1, h2⟩ := pureRun_eqs (P := P) (t := t) (x := .agg (xs.map (Value.int k)).toArray) (y := .agg (ys.map (Value.int k)).toArray) rfl (arrEq ht he hs hx hy)
  have hd : ∃ d, P.depth = d + 2 := ⟨2 * (P.types.size + Made.depth), rfl⟩
  exact ⟨binW_pure (hc _) (hc _) (eqGuard_arr ht he rfl hd) h1 rfl, binW_pure (hc _) (hc _) (eqGuard_arr ht he rfl hd) h2 rfl⟩

end

/-- A row of a slice that appends have made. -/
theorem OutS.row {B : Nat} {t : TypeId} {s : Nat} {h : Heap} {o : Option Addr} {n c : Nat} {vs : List Value} (x : OutS B t s h o n c vs) {i : Nat} (hi : i < n) : ldCells h (elt o (i * s)) s = some (.agg ((vs.drop (i * s)).take s).toArray) := by
  obtain ⟨h1, h2, h3⟩ := x
  rcases h3 with ⟨_, rfl⟩ | ⟨b, rfl, e2, e3, e4⟩
  · omega
  · simp only [elt, Option.map_some, plainA, addTo_mk, ldCells, Option.bind_some]
    have hle : i * s + s ≤ n * s := by
      have : (i + 1) * s ≤ n * s := Nat.mul_le_mul_right s hi
      rw [Nat.add_mul] at this; omega
    rw [cellsV_known (x := ⟨b, 0 + i * s, none⟩) e4 rfl s 0 (by simp [h1]; omega)]
    simp

theorem OutS.some {B : Nat} {t : TypeId} {s : Nat} {h : Heap} {o : Option Addr} {n c : Nat} {vs : List Value} (x : OutS B t s h o n c vs) {i : Nat} (hi : i < n) : o.isSome = true := by
  obtain ⟨h1, h2, h3⟩ := x
  rcases h3 with ⟨_, rfl⟩ | ⟨b, rfl, e2, e3, e4⟩
  · omega
  · rfl

theorem OutS.old {B : Nat} {t : TypeId} {s : Nat} {h h' : Heap} {o : Option Addr} {n c : Nat} {vs : List Value} (x : OutS B t s h o n c vs) (w : WF h) (ol : Old h h') : OutS B t s h' o n c vs :=
  x.congr (fun b _ hb => ol.get b hb) w

end Go.Abs
