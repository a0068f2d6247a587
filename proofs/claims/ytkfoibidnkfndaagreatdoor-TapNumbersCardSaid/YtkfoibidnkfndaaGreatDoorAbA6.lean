/- The abstract machine, part 7: append. -/
import Derived.Test.YtkfoibidnkfndaaGreatDoorAbA5
import Derived.Laws.Append
import Derived.Laws.AppendOwn
import Derived.Laws.IdiomCopy
set_option linter.unusedSimpArgs false
namespace Go.Abs
open Go.RowKit

section
variable {P : Program} {w0 : World} {ρ : Ren}

theorem loadList_inv {a : Addr} {h : Heap} : ∀ {n i : Nat} {F : List Value → Heap → Prop}, aSem P (loadList a n i) h F →
    ∃ l, F l h ∧ l.length = n ∧ ∀ (j : Nat) (v : Value), l[j]? = some v → h.cell? (a.add (i + j)) = some v
  | 0, i, F, hq => ⟨[], hq, rfl, by simp⟩
  | n + 1, i, F, hq => by
    simp only [loadList] at hq
    rw [aSem_bind] at hq
    simp only [Go.load, aSem] at hq
    split at hq
    · rename_i v hv
      rw [aSem_bind] at hq
      obtain ⟨l, h1, h2, h3⟩ := loadList_inv hq
      refine ⟨v :: l, h1, by simp [h2], fun j u hj => ?_⟩
      cases j with
      | zero => simp at hj; subst hj; simpa using hv
      | succ j =>
        have := h3 j u (by simpa using hj)
        rwa [show i + (j + 1) = i + 1 + j by omega]
    · exact hq.elim

theorem cells_images {h : Heap} {w : World} (hr : HRel w0 ρ h w) {a a' : Addr} (ha : PRel ρ a a') : ∀ (l : List Value) (i : Nat), (∀ (j : Nat) (v : Value), l[j]? = some v → h.cell? (a.add (i + j)) = some v) →
    ∃ l', LRel ρ l l' ∧ ∀ (j : Nat) (v' : Value), l'[j]? = some v' → w.cell? (a'.add (i + j)) = some v'
  | [], i, _ => ⟨[], .nil, by simp⟩
  | v :: l, i, hc => by
    obtain ⟨v', h1, h2⟩ := hr.cell (ha.add i) (by simpa using hc 0 v rfl)
    obtain ⟨l', h3, h4⟩ := cells_images hr ha l (i + 1) (fun j u hj => by
      have := hc (j + 1) u (by simpa using hj)
      rwa [show i + (j + 1) = i + 1 + j by omega] at this)
    refine ⟨v' :: l', .cons h2 h3, fun j u hj => ?_⟩
    cases j with
    | zero => simp at hj; subst hj; simpa using h1
    | succ j =>
      have := h4 j u (by simpa using hj)
      rwa [show i + (j + 1) = i + 1 + j by omega]

theorem cell_heap {w w1 : World} (h : w1.heap = w.heap) (a : Addr) : w1.cell? a = w.cell? a := by
  simp [World.cell?, h]

theorem loadList_run {h : Heap} {w : World} (hr : HRel w0 ρ h w) {a a' : Addr} (ha : PRel ρ a a') {n : Nat} {F : List Value → Heap → Prop} (hq : aSem P (loadList a n 0) h F) :
    ∃ l l', F l h ∧ LRel ρ l l' ∧ l.length = n ∧ ∀ w1 : World, w1.heap = w.heap → (loadCells a' n).run P w1 = .ok l'.toArray w1 := by
  obtain ⟨l, h1, h2, h3⟩ := loadList_inv hq
  obtain ⟨l', h4, h5⟩ := cells_images hr ha l 0 h3
  refine ⟨l, l', h1, h4, h2, fun w1 hw => ?_⟩
  have : n = l'.length := by rw [← h4.length, h2]
  rw [this]
  exact run_loadCells_list w1 a' l' fun j v hj => by rw [cell_heap hw]; simpa using h5 j v hj

/-- Where appended cells come from, in the model. -/
def Src (P : Program) (w : World) (size : Nat) (e : TypeId) (x' : Value) (zs : Bool) (n : Nat) (l' : List Value) : Prop :=
  (zs = false ∧ (∀ w1, (Builtin.lenOf x').run P w1 = .ok n w1) ∧ ∀ w1 : World, w1.heap = w.heap → (Builtin.firstCells size n x').run P w1 = .ok l'.toArray w1) ∨
  (zs = true ∧ ∃ k z, x' = .int k n ∧ n ≤ 140737488355328 ∧ (∀ w1, (zeroValue e).run P w1 = .ok z w1) ∧ l' = copies z.cells.toList n)

theorem copies_zeroCells (z : Array Value) (n : Nat) : Builtin.zeroCells z n = (copies z.toList n).toArray := range_copies rfl

theorem newCells_run {h : Heap} {w : World} (hr : HRel w0 ρ h w) {x x' : Value} (hx : VRel ρ x x') {e size : Nat} {zs : Bool} {F : Nat × List Value → Heap → Prop} (hq : aSem P (newCells P e size zs x) h F) :
    ∃ n l l', F (n, l) h ∧ LRel ρ l l' ∧ (n = 0 → l = []) ∧ Src P w size e x' zs n l' := by
  unfold newCells at hq
  split at hq
  · rename_i k m
    cases hb : (leI 0 m && leI m 140737488355328) with
    | false => rw [hb] at hq; exact hq.elim
    | true =>
      rw [hb] at hq
      simp only [cond_true] at hq
      simp only [Bool.and_eq_true, leI_iff] at hb
      rcases zeroC_ok (P := P) (t := e) with ⟨z, e1, e2, e3⟩ | e1
      · rw [e1, aSem_bind] at hq
        cases hx
        refine ⟨m.toNat, _, _, hq, (closed_refl e2).cells.copies _, fun h0 => by rw [h0]; rfl, .inr ⟨rfl, k, z, ?_, by omega, e3, rfl⟩⟩
        congr 1
        omega
      · rw [e1] at hq; exact hq.elim
  · rename_i zs x
    split at hq
    · rename_i n hn
      rw [aSem_bind] at hq
      unfold cellsOfS at hq
      split at hq
      · rename_i a len cap
        simp only [lenN, Option.some.injEq] at hn
        subst hn
        cases hx with
        | slice hs =>
          obtain ⟨l, l', h1, h2, h3, h4⟩ := loadList_run hr hs.base hq
          exact ⟨_, l, l', h1, h2, fun h0 => List.eq_nil_of_length_eq_zero (by rw [h3, h0, Nat.zero_mul]), .inl ⟨rfl, fun w1 => rfl, h4⟩⟩
      · cases hx
        simp only [lenN, Option.some.injEq] at hn
        subst hn
        exact ⟨_, _, _, hq, .nil, fun _ => rfl, .inl ⟨rfl, fun w1 => rfl, fun w1 _ => rfl⟩⟩
      · rename_i s
        cases hx
        simp only [lenN, Option.some.injEq] at hn
        subst hn
        refine ⟨_, _, (s.data.toList.take s.size).map fun b => .int .u8 b.toNat, hq, ?_, fun h0 => by rw [h0]; simp, .inl ⟨rfl, fun w1 => rfl, fun w1 _ => ?_⟩⟩
        · generalize s.data.toList.take s.size = l
          induction l with
          | nil => exact .nil
          | cons b l ih => exact .cons (.int _ _) ih
        · simp only [Builtin.firstCells]
          show Result.ok _ _ = _
          congr 1
          apply Array.toList_inj.1
          rw [ByteArray.data_extract]
          simp [Array.toList_extract]
      · exact hq.elim
    · exact hq.elim
  · exact hq.elim

theorem zerosV_cases {t : Option TypeId} {zs : Bool} (h : zerosV P t = some zs) :
    (t = none ∧ zs = false) ∨ (∃ x d, t = some x ∧ P.underlying x = some d ∧ ((∃ e, d = .slice e) ∨ d = .string) ∧ zs = false) ∨ (∃ x k, t = some x ∧ P.underlying x = some (.int k) ∧ zs = true) := by
  cases t with
  | none => cases h; exact .inl ⟨rfl, rfl⟩
  | some x =>
    simp only [zerosV] at h
    split at h
    · rename_i k hu; cases h; exact .inr (.inr ⟨x, k, rfl, hu, rfl⟩)
    · rename_i e hu
      cases h
      exact .inr (.inl ⟨x, _, rfl, hu, .inl ⟨e, rfl⟩, rfl⟩)
    · rename_i hu
      cases h
      exact .inr (.inl ⟨x, _, rfl, hu, .inr rfl, rfl⟩)
    · cases h

theorem append_room {ts : Array TypeId} {ty st e : TypeId} {i : TypeInfo} {zs : Bool} {w : World} {x' : Value} {n : Nat} {l' : List Value} {base : Option Addr} {len cap : Nat}
    (h0 : ts[0]? = some st) (hu : P.underlying st = some (.slice e)) (hi : P.info? e = some i) (hz : zerosV P ts[1]? = some zs) (hs : Src P w i.size e x' zs n l') (hb : n * i.bytes ≤ 140737488355328) (hsz : n = 0 ∨ 0 < i.size) (hroom : len + n ≤ cap) :
    (Builtin.append_ ts ty #[.slice base len cap, x']).run P w = (match base with
      | some a => storeCells (a.add (len * i.size)) l' >>= fun _ => Pure.pure (.slice base (len + n) cap)
      | none => Pure.pure (.slice base (len + n) cap) : Sem Value).run P w := by
  rcases zerosV_cases hz with ⟨h1, rfl⟩ | ⟨t1, d, h1, hd, hdn, rfl⟩ | ⟨t1, k1, h1, hd, rfl⟩
  · rcases hs with ⟨_, hl, hf⟩ | ⟨hc, _⟩
    · have hf1 := hf w rfl
      cases base <;> simp [Builtin.append_, h0, h1, run_und hu, sizeOf, typeInfo, hi, hl, hroom, hf1]
    · cases hc
  · rcases hs with ⟨_, hl, hf⟩ | ⟨hc, _⟩
    · have hf1 := hf w rfl
      rcases hdn with ⟨e1, rfl⟩ | rfl <;> cases base <;> simp [Builtin.append_, h0, h1, run_und hu, run_und hd, sizeOf, typeInfo, hi, hl, hroom, hf1]
    · cases hc
  · rcases hs with ⟨hc, _⟩ | ⟨_, k, z, rfl, hn, hzv, rfl⟩
    · cases hc
    · have hw : IntKind.i64.wrap (n : Int) = n := wrap_small (by omega) (by omega)
      have hb' : ¬ (281474976710656 < (n : Int) * (i.bytes : Int)) := by
        have : (n : Int) * (i.bytes : Int) = ((n * i.bytes : Nat) : Int) := by simp
        omega
      have hzv1 := hzv w
      have hn0 : ¬ ((n : Int) < 0) := by omega
      have ha : ∀ w1, (asInt (.int k (n : Int))).run P w1 = .ok (n : Int) w1 := fun _ => rfl
      rcases Nat.eq_zero_or_pos n with rfl | hp
      · have hr0 : len ≤ cap := by omega
        simp only [Int.ofNat_zero, Int.cast_ofNat_Int] at ha hw
        cases base <;> simp [Builtin.append_, h0, h1, run_und hu, run_und hd, sizeOf, typeInfo, hi, hw, ha, hb', hr0, copies]
      · have hs0 : ¬ n * i.size = 0 := by
          intro h
          rcases Nat.mul_eq_zero.1 h with h | h <;> omega
        cases base <;> simp [Builtin.append_, h0, h1, run_und hu, run_und hd, sizeOf, typeInfo, hi, hw, ha, hb', hroom, hs0, hzv1, copies_zeroCells]
        all_goals exact fun h => absurd h hn0

theorem append_grow {ts : Array TypeId} {ty st e : TypeId} {i : TypeInfo} {zs : Bool} {w : World} {x' z : Value} {n : Nat} {l' old' : List Value} {base : Option Addr} {len cap : Nat}
    (h0 : ts[0]? = some st) (hu : P.underlying st = some (.slice e)) (hi : P.info? e = some i) (hz : zerosV P ts[1]? = some zs) (hs : Src P w i.size e x' zs n l') (hb : (len + n) * i.bytes ≤ 140737488355328) (hm : len + n ≤ 140737488355328) (hsz : 0 < i.size)
    (hold : ∀ w1 : World, w1.heap = w.heap → (Builtin.firstCells i.size len (.slice base len cap)).run P w1 = .ok old'.toArray w1) (hz0 : ∀ w1, (zeroValue e).run P w1 = .ok z w1) (hn : 0 < n) (hg : cap < len + n) :
    (Builtin.append_ ts ty #[.slice base len cap, x']).run P w =
      .ok (.slice (some ⟨w.heap.size, 0, none⟩) (len + n) (grownCap w (len + n) cap e)) (w.drew.alloc (.cells (old' ++ l' ++ copies z.cells.toList (grownCap w (len + n) cap e - (len + n))).toArray e)) := by
  have hng : ¬ (len + n ≤ cap) := by omega
  have h63 : ¬ (9223372036854775807 < ((len : Int) + (n : Int))) := by omega
  have h48 : ¬ (281474976710656 < Builtin.nextslicecap (len + n) cap * i.bytes) := by
    have := growslice_fits (need := len + n) (old := cap) (bytes := i.bytes) hg hb
    omega
  have hnb : n * i.bytes ≤ 140737488355328 := Nat.le_trans (Nat.mul_le_mul_right _ (Nat.le_add_left _ _)) hb
  have ho := hold w.drew rfl
  have hz1 := hz0 w.drew
  rcases zerosV_cases hz with ⟨h1, rfl⟩ | ⟨t1, d, h1, hd, hdn, rfl⟩ | ⟨t1, k1, h1, hd, rfl⟩
  · rcases hs with ⟨_, hl, hf⟩ | ⟨hc, _⟩
    · have hf1 := hf w.drew rfl
      simp [Builtin.append_, h0, h1, run_und hu, sizeOf, typeInfo, hi, hl, hng, h63, h48, Question.forced, ho, hf1, hz1, newRow, copies_zeroCells, grownCap]
    · cases hc
  · rcases hs with ⟨_, hl, hf⟩ | ⟨hc, _⟩
    · have hf1 := hf w.drew rfl
      rcases hdn with ⟨e1, rfl⟩ | rfl <;> simp [Builtin.append_, h0, h1, run_und hu, run_und hd, sizeOf, typeInfo, hi, hl, hng, h63, h48, Question.forced, ho, hf1, hz1, newRow, copies_zeroCells, grownCap]
    · cases hc
  · rcases hs with ⟨hc, _⟩ | ⟨_, k, z', rfl, hn', hzv, rfl⟩
    · cases hc
    · have hw : IntKind.i64.wrap (n : Int) = n := wrap_small (by omega) (by omega)
      have hb' : ¬ (281474976710656 < (n : Int) * (i.bytes : Int)) := by
        have : (n : Int) * (i.bytes : Int) = ((n * i.bytes : Nat) : Int) := by simp
        omega
      have hzz : z' = z := by
        have := hzv w
        rw [hz0 w] at this
        cases this; rfl
      subst hzz
      have ha : ∀ w1, (asInt (.int k (n : Int))).run P w1 = .ok (n : Int) w1 := fun _ => rfl
      have hn0 : ¬ ((n : Int) < 0) := by omega
      have hs0 : ¬ n * i.size = 0 := by
        intro h
        rcases Nat.mul_eq_zero.1 h with h | h <;> omega
      have hmx : max (n : Int) 0 = n := by omega
      simp [Builtin.append_, h0, h1, run_und hu, run_und hd, sizeOf, typeInfo, hi, hw, ha, hb', hng, hmx, h63, h48, Question.forced, ho, hs0, hz1, newRow, copies_zeroCells, grownCap]
      all_goals exact fun h => absurd h hn0

theorem HRel.drop {h : Heap} {w : World} (hr : HRel w0 ρ h w) (i : Nat) : HRel w0 ρ (h.put i none) w := by
  refine ⟨hr.below, ?_, ?_, ?_⟩
  · intro j o hj
    rw [Heap.get_put] at hj
    split at hj
    · cases hj
    · exact hr.objs j o hj
  · intro j k oj ok q r hne hj hk
    rw [Heap.get_put] at hj hk
    split at hj
    · cases hj
    · split at hk
      · cases hk
      · exact hr.sep j k oj ok q r hne hj hk
  · intro j hj
    refine ⟨(hr.fresh j hj).1, ?_⟩
    rw [Heap.get_put]
    split
    · rfl
    · exact (hr.fresh j hj).2

theorem Keep.drop {h : Heap} {i : Nat} (hp : pinnedBlock i h.pins = false) : Keep h (h.put i none) :=
  Keep.put fun b u hb eb _ => by
    have := pinned_block eb hb
    rw [this] at hp; cases hp

/-- The row is a new one. -/
theorem grown_out {h : Heap} {w w' : World} (hr : HRel w0 ρ h w) {e size need cap' : Nat} {fr : Nat × Nat} {cs cs' rest : List Value} (hc : LRel ρ cs cs') (hl : cs.length = need * size) (hrest : rest.length = (cap' - need) * size)
    (hcap : need ≤ cap') (hsz : 0 < size) (hfr : free fr = true ∧ (fr = (0, 0) ∨ fr = (1, 1))) {Q : Value → Heap → Prop} (hq : aGrown e size need fr cs h Q) {s' : Sem Value}
    (hw' : w' = w.drew.alloc (.cells (cs' ++ rest).toArray e)) (hrun : s'.run P w = .ok (.slice (some ⟨w.heap.size, 0, none⟩) need cap') w') : Out P w0 VRel ρ h w s' Q := by
  have hr1 : HRel w0 ρ h w.drew := hr.drew rfl rfl rfl rfl
  subst hw'
  have hmul : need * size ≤ cap' * size := Nat.mul_le_mul_right _ hcap
  have hadd : need * size + (cap' - need) * size = cap' * size := by rw [← Nat.add_mul]; congr 1; omega
  obtain ⟨ρ2, hl2, hnew, hr2⟩ := hr1.born (o := .cells cs.toArray e fr) (o' := .cells (cs' ++ rest).toArray e (0, 0)) (n := cap' * size) (w' := w.drew.alloc (.cells (cs' ++ rest).toArray e)) (fun ρ' hl' => by
    refine .cells (fun k v hk => ?_) (by simp [hl, hmul]) (by simp [← hc.length, hl, hrest, hadd]) ?_
    · obtain ⟨v', e1, e2⟩ := hc.get_some (by simpa using hk)
      refine ⟨v', ?_, e2.mono hl'⟩
      have hlt : k < cs'.length := (List.getElem?_eq_some_iff.1 e1).1
      simp [List.getElem?_append_left hlt, e1]
    · rcases hfr.2 with hf | hf
      · exact .inl ⟨hf, rfl, hr1.below.size⟩
      · exact .inr (.inl ⟨hf, .inr rfl, hr1.below.size⟩)) rfl ⟨rfl, rfl, rfl⟩
  have hsr : SRel ρ2 ⟨h.next, 0, some size⟩ need ⟨w.heap.size, 0, none⟩ cap' := ⟨rfl, _, hnew, rfl, rfl, hsz, hcap, by simp⟩
  exact ⟨ρ2, _, _, _, _, hl2, hrun, .slice hsr, hr2, Keep.alloc (hr.fresh _ (Nat.le_refl _)).2, hq⟩

theorem setCells_heap (b : Nat) : ∀ (vs : List Value) (o : Nat) (w : World) (c : Array Value) (e : TypeId) (fr : Nat × Nat), w.heap[b]? = some (.cells c e fr) → o + vs.length ≤ c.size →
    ∃ c2 : Array Value, (w.setCells b o vs).heap[b]? = some (.cells c2 e fr) ∧ c2.size = c.size ∧ (∀ k, k < o → c2[k]? = c[k]?) ∧ (∀ j, j < vs.length → c2[o + j]? = vs[j]?)
  | [], o, w, c, e, fr, h, _ => ⟨c, h, rfl, fun _ _ => rfl, fun j hj => by simp at hj⟩
  | v :: vs, o, w, c, e, fr, h, hl => by
    have h1 := setCell_heap_same (w := w) (a := ⟨b, o, none⟩) (v := v) h rfl
    simp only [List.length_cons] at hl
    obtain ⟨c2, x1, x2, x3, x4⟩ := setCells_heap b vs (o + 1) (w.setCell ⟨b, o, none⟩ v) _ e fr h1 (by simp; omega)
    refine ⟨c2, x1, by simpa using x2, fun k hk => ?_, fun j hj => ?_⟩
    · rw [x3 k (by omega), Array.getElem?_setIfInBounds, if_neg (by simp; omega)]
    · cases j with
      | zero =>
        rw [Nat.add_zero, x3 o (by omega), Array.getElem?_setIfInBounds, if_pos rfl, if_pos (by simp; omega)]
        rfl
      | succ j =>
        have := x4 j (by simpa using hj)
        rw [show o + (j + 1) = o + 1 + j by omega, this]
        rfl

theorem setCells_other (b : Nat) : ∀ (vs : List Value) (o : Nat) (w : World), (∀ k, k ≠ b → (w.setCells b o vs).heap[k]? = w.heap[k]?) ∧ (w.setCells b o vs).heap.size = w.heap.size ∧ (w.setCells b o vs).os = w.os ∧ (w.setCells b o vs).tape = w.tape ∧ (w.setCells b o vs).output = w.output
  | [], _, w => ⟨fun _ _ => rfl, rfl, rfl, rfl, rfl⟩
  | v :: vs, o, w => by
    obtain ⟨x1, x2, x3, x4, x5⟩ := setCells_other b vs (o + 1) (w.setCell ⟨b, o, none⟩ v)
    refine ⟨fun k hk => ?_, by rw [World.setCells, x2]; simp [World.setCell], x3, x4, x5⟩
    rw [World.setCells, x1 k hk]
    exact Below.heap_setCell _ _ _ _ hk

/-- The row had room, which the abstract side did not know of: it gets a new name. -/
theorem inplace_out {h : Heap} {w : World} (hr : HRel w0 ρ h w) {a a' : Addr} {len cap cap' s n : Nat} (hs : SRel ρ a cap a' cap') (hsp : a.spot = some s) {c : Array Value} {e : TypeId} {fr : Nat × Nat} (hg : h.get a.block = some (.cells c e fr))
    (hfree : free fr = true) (hpin : pinnedBlock a.block h.pins = false) {old cs cs' : List Value} (hold : ∀ (j : Nat) (v : Value), old[j]? = some v → h.cell? (({ a with spot := none } : Addr).add (0 + j)) = some v) (hol : old.length = len * s)
    (hc : LRel ρ cs cs') (hcl : cs.length = n * s) (hone : cs.all oneCell = true) (hroom : len + n ≤ cap') {Q : Value → Heap → Prop} (hq : aGrown e s (len + n) fr (old ++ cs) (h.put a.block none) Q) :
    Out P w0 VRel ρ h w (storeCells (a'.add (len * s)) cs' >>= fun _ => Pure.pure (.slice (some a') (len + n) cap')) Q := by
  have hbase := hs.base
  obtain ⟨hs', p, hp, hblk, hoff, hm⟩ := hs
  rw [hsp] at hm
  obtain ⟨hpos, hcc, hend⟩ := hm
  obtain ⟨p', o', e1, e2, e3, _⟩ := hr.objs _ _ hg
  rw [hp] at e1; cases e1
  cases e3 with
  | @cells _ c' _ _ fr' hcv h1 h2 hf =>
    have hB : w0.heap.size ≤ p.blk := by
      rcases hf with ⟨_, _, hB⟩ | ⟨_, _, hB⟩ | hf
      · exact hB
      · exact hB
      · subst hf; simp [Go.Abs.free, shut] at hfree
    have hmul : (len + n) * s ≤ cap' * s := Nat.mul_le_mul_right _ hroom
    rw [Nat.add_mul] at hmul
    have hcl' : cs'.length = n * s := by rw [← hc.length, hcl]
    obtain ⟨b', off', sp'⟩ := a'
    simp only at hs' hblk hoff
    subst hs'; subst hblk; subst hoff
    have hadd : (⟨p.blk, p.off + a.off, none⟩ : Addr).add (len * s) = ⟨p.blk, p.off + a.off + len * s, none⟩ := by unfold Addr.add; split <;> simp_all
    have hfit : p.off + a.off + len * s + cs'.length ≤ c'.size := by omega
    have hcells : ∀ j, j < cs'.length → (w.cell? ⟨p.blk, p.off + a.off + len * s + 0 + j, none⟩).isSome = true := by
      intro j hj
      simp only [World.cell?, e2]
      rw [Array.getElem?_eq_getElem (by omega)]
      rfl
    have hfroz : ∀ j, j < cs'.length → w.frozen? ⟨p.blk, p.off + a.off + len * s + 0 + j, none⟩ = false := by
      intro j hj
      rcases hf with ⟨_, hf, _⟩ | ⟨_, hf, _⟩ | hf
      · simp [World.frozen?, e2, hf]
      · rcases hf with hf | hf
        · simp [World.frozen?, e2, hf]; omega
        · simp [World.frozen?, e2, hf]
      · subst hf; simp [Go.Abs.free, shut] at hfree
    have h1c : ∀ v ∈ cs', v.oneCell' = true := by
      intro v hv
      obtain ⟨j, hj⟩ := List.getElem?_of_mem hv
      have hlt : j < cs.length := by rw [hc.length]; exact (List.getElem?_eq_some_iff.1 hj).1
      have := hc.get j _ _ (List.getElem?_eq_getElem hlt) hj
      rw [oneCell_eq, this.one_cell]
      exact List.all_eq_true.1 hone _ (List.getElem_mem hlt)
    have hst := run_storeCells_cells (P := P) p.blk (p.off + a.off + len * s) cs' 0 w hcells hfroz h1c
    obtain ⟨c2, x1, x2, x3, x4⟩ := setCells_heap p.blk cs' (p.off + a.off + len * s) w c' e fr' e2 hfit
    obtain ⟨y1, y2, y3, y4, y5⟩ := setCells_other p.blk cs' (p.off + a.off + len * s) w
    rw [Nat.add_zero] at hst
    generalize w.setCells p.blk (p.off + a.off + len * s) cs' = w' at *
    let ρ' : Ren := fun i => if i = h.next then some ⟨p.blk, p.off + a.off, cap' * s⟩ else ρ i
    have hle : Ren.le ρ ρ' := fun i q ei => by
      show (if i = h.next then _ else _) = _
      rw [if_neg]; exact ei
      intro eq
      have := (hr.fresh i (by omega)).1
      rw [ei] at this; cases this
    have hnew : ρ' h.next = some ⟨p.blk, p.off + a.off, cap' * s⟩ := if_pos rfl
    have hkeep : ∀ i, i ≠ h.next → ρ' i = ρ i := fun i hi => if_neg hi
    have hr2 : HRel w0 ρ' ((h.put a.block none).alloc (.cells (old ++ cs).toArray e fr)) w' := by
      refine ⟨?_, ?_, ?_, ?_⟩
      · exact hr.below.trans ⟨y3, y4, y5, by omega, fun k hk => y1 k (by omega)⟩
      · intro i oi hi
        rw [Heap.get_alloc] at hi
        split at hi
        · rename_i ei
          cases hi
          have ei' : i = h.next := ei
          subst ei'
          refine ⟨_, _, hnew, x1, ?_, fun hn => by simp [notCells] at hn⟩
          refine .cells (fun k v hk => ?_) (by simp [hol, hcl]; omega) (by show p.off + a.off + cap' * s ≤ c2.size; omega) ?_
          · simp only [List.getElem?_toArray] at hk
            rcases Nat.lt_or_ge k old.length with hlt | hge
            · rw [List.getElem?_append_left hlt] at hk
              obtain ⟨v', z1, z2⟩ := hr.cell (hbase.add (0 + k)) (hold k v hk)
              refine ⟨v', ?_, z2.mono hle⟩
              have hadd2 : (⟨p.blk, p.off + a.off, none⟩ : Addr).add (0 + k) = ⟨p.blk, p.off + a.off + k, none⟩ := by unfold Addr.add; split <;> simp_all
              rw [hadd2] at z1
              simp only [World.cell?, e2] at z1
              show c2[p.off + a.off + k]? = some v'
              rw [x3 _ (by omega)]; exact z1
            · rw [List.getElem?_append_right hge] at hk
              obtain ⟨v', z1, z2⟩ := hc.get_some hk
              refine ⟨v', ?_, z2.mono hle⟩
              have hlt : k - old.length < cs'.length := (List.getElem?_eq_some_iff.1 z1).1
              have := x4 _ hlt
              show c2[p.off + a.off + k]? = some v'
              rw [show p.off + a.off + k = p.off + a.off + len * s + (k - old.length) by omega, this]; exact z1
          · rcases hf with hf | hf | hf
            · exact .inl hf
            · exact .inr (.inl (by rw [x2]; exact hf))
            · exact .inr (.inr hf)
        · rename_i ei
          have ei' : i ≠ h.next := ei
          rw [Heap.get_put] at hi
          split at hi
          · cases hi
          · rename_i ea
            obtain ⟨q, o'', z1, z2, z3, z4⟩ := hr.objs i oi hi
            refine ⟨q, o'', by rw [hkeep i ei']; exact z1, ?_, z3.mono hle, z4⟩
            rw [y1 _ (fun eq => ?_)]; exact z2
            have := hr.sep i a.block oi _ q p ea hi hg z1 hp eq
            omega
      · intro i j oi oj q r hne hi hj z1 z2 z3
        rw [Heap.get_alloc, Heap.get_put] at hi hj
        have old_ne : ∀ k ok t, k ≠ a.block → h.get k = some ok → ρ k = some t → t.blk ≠ p.blk := by
          intro k ok t hk hk1 hk2 eq
          have := hr.sep k a.block ok _ t p hk hk1 hg hk2 hp eq
          omega
        split at hi
        · rename_i ei
          have ei' : i = h.next := ei
          subst ei'
          rw [hnew] at z1; cases z1
          split at hj
          · rename_i ej; exact (hne (by rw [ej]; rfl)).elim
          · rename_i ej
            split at hj
            · cases hj
            · rename_i ea
              rw [hkeep j ej] at z2
              exact (old_ne j oj r ea hj z2 z3.symm).elim
        · rename_i ei
          split at hi
          · cases hi
          · rename_i ea
            rw [hkeep i ei] at z1
            split at hj
            · rename_i ej
              have ej' : j = h.next := ej
              subst ej'
              rw [hnew] at z2; cases z2
              exact (old_ne i oi q ea hi z1 z3).elim
            · rename_i ej
              split at hj
              · cases hj
              · rename_i eb
                rw [hkeep j ej] at z2
                exact hr.sep i j oi oj q r hne hi hj z1 z2 z3
      · intro i hi
        have hi' : h.next + 1 ≤ i := hi
        obtain ⟨z1, z2⟩ := hr.fresh i (by omega)
        refine ⟨by rw [hkeep i (by omega)]; exact z1, ?_⟩
        rw [Heap.get_alloc, if_neg (by show i ≠ h.next; omega), Heap.get_put]
        split
        · rfl
        · exact z2
    refine ⟨ρ', _, .slice (some ⟨p.blk, p.off + a.off, none⟩) (len + n) cap', _, w', hle, ?_, ?_, hr2, ?_, hq⟩
    · rw [hadd]
      simp only [Sem.run_bind, hst, Result.andThen_ok]
      rfl
    · exact .slice ⟨rfl, _, hnew, rfl, rfl, hpos, hroom, by simp⟩
    · exact (Keep.drop hpin).trans (Keep.alloc (by
        rw [Heap.get_put]
        split
        · rfl
        · exact (hr.fresh _ (Nat.le_refl _)).2))

theorem zeroFits_run {e : TypeId} {size : Nat} (h : zeroFits P e size = true) : ∃ z, (∀ w, (zeroValue e).run P w = .ok z w) ∧ z.cells.size = size := by
  unfold zeroFits at h
  split at h
  · rename_i z hz
    cases hi : P.info? e with
    | none => rw [hi] at hz; cases hz
    | some i =>
      rw [hi] at hz
      simp only [Option.bind_some] at hz
      exact ⟨z, fun w => by simp [zeroValue, typeInfo, hi, hz], Nat.eq_of_beq_eq_true h⟩
  · cases h

theorem append_out {ts : Array TypeId} {ty : TypeId} {args args' : List Value} (ha : LRel ρ args args') {h : Heap} {w : World} {Q : Value → Heap → Prop} (hr : HRel w0 ρ h w) (hq : aAppend P ts args h Q) :
    Out P w0 VRel ρ h w (Builtin.append_ ts ty args'.toArray) Q := by
  unfold aAppend at hq
  split at hq
  case h_2 => exact hq.elim
  rename_i st base len cap x h0
  split at hq
  case h_2 => exact hq.elim
  rename_i e hu
  split at hq
  case h_2 => exact hq.elim
  rename_i ei zs hi hz
  cases ha with
  | @cons _ s' _ _ hsv hrest =>
    cases hrest with
    | @cons _ x' _ _ hx hnil =>
      cases hnil
      obtain ⟨n, l, l', hq1, hll, hl0, hsrc⟩ := newCells_run hr hx hq
      clear hq
      have hq := hq1
      clear hq1
      unfold aAppendTo at hq
      simp only at hq
      rcases beq_cases n 0 with ⟨hn, hnb⟩ | ⟨hn, hnb⟩
      · subst hn
        rw [hnb] at hq
        simp only [cond_true] at hq
        cases hle : Nat.ble len cap with
        | false => rw [hle] at hq; exact hq.elim
        | true =>
          rw [hle] at hq
          have hle' := Nat.le_of_ble_eq_true hle
          have := hl0 rfl
          subst this
          cases hll
          cases hsv with
          | nilSlice =>
            have hrun := append_room (ty := ty) (base := none) (len := len) (cap := cap) h0 hu hi hz hsrc (by simp) (.inl rfl) (by omega)
            exact ⟨ρ, _, .slice none len cap, h, w, Ren.le_refl _, by rw [hrun]; rfl, .nilSlice _ _, hr, Keep.refl _, hq⟩
          | @slice _ a' _ _ c' hs =>
            have hc' : cap ≤ c' := by
              obtain ⟨_, p, _, _, _, hm⟩ := hs
              split at hm <;> omega
            have hrun := append_room (ty := ty) (base := some a') (len := len) (cap := c') h0 hu hi hz hsrc (by simp) (.inl rfl) (by omega)
            exact ⟨ρ, _, .slice (some a') len c', h, w, Ren.le_refl _, by rw [hrun]; rfl, .slice hs, hr, Keep.refl _, hq⟩
      · rw [hnb] at hq
        simp only [cond_false] at hq
        cases hguard : (!Nat.ble ((len + n) * ei.bytes) 140737488355328 || !Nat.ble (len + n) 140737488355328 || Nat.beq ei.size 0 || Nat.beq ei.bytes 0 || !Nat.beq l.length (n * ei.size) || !zeroFits P e ei.size) with
        | true => rw [hguard] at hq; exact hq.elim
        | false =>
          rw [hguard] at hq
          simp only [cond_false] at hq
          simp only [Bool.or_eq_false_iff, Bool.not_eq_false'] at hguard
          obtain ⟨⟨⟨⟨⟨g1, g2⟩, g3⟩, g4⟩, g5⟩, g6⟩ := hguard
          have g1 := Nat.le_of_ble_eq_true g1
          have g2 := Nat.le_of_ble_eq_true g2
          have g3 : 0 < ei.size := Nat.pos_of_ne_zero (Nat.ne_of_beq_eq_false g3)
          have g5 := Nat.eq_of_beq_eq_true g5
          obtain ⟨z, hz0, hzs⟩ := zeroFits_run g6
          have hnp : 0 < n := Nat.pos_of_ne_zero hn
          have hnb2 : n * ei.bytes ≤ 140737488355328 := Nat.le_trans (Nat.mul_le_mul_right _ (Nat.le_add_left _ _)) g1
          have zlen : ∀ k, (copies z.cells.toList k).length = k * ei.size := fun k => by rw [copies_length]; simp [hzs]
          cases base with
          | none =>
            simp only at hq
            cases hb : (Nat.beq len 0 && Nat.beq cap 0) with
            | false => rw [hb] at hq; exact hq.elim
            | true =>
              rw [hb] at hq
              simp only [Bool.and_eq_true] at hb
              have e1 := Nat.eq_of_beq_eq_true hb.1
              have e2 := Nat.eq_of_beq_eq_true hb.2
              subst e1; subst e2
              cases hsv
              have hrun := append_grow (ty := ty) (base := none) (len := 0) (cap := 0) (old' := []) h0 hu hi hz hsrc g1 g2 g3 (fun w1 _ => rfl) hz0 hnp (by omega)
              simp only [Nat.zero_add, List.nil_append] at hrun
              exact grown_out hr hll g5 (zlen _) (grownCap_ge _ _ _ _) g3 ⟨rfl, .inl rfl⟩ hq rfl hrun
          | some a =>
            cases hsv with
            | @slice _ a' _ _ c' hs =>
              have hcc : cap ≤ c' := by
                obtain ⟨_, p, _, _, _, hm⟩ := hs
                split at hm <;> omega
              simp only at hq
              cases hrm : Nat.ble (len + n) cap with
              | true =>
                rw [hrm] at hq
                simp only [cond_true] at hq
                have hrm' := Nat.le_of_ble_eq_true hrm
                have hrun := append_room (ty := ty) (base := some a') (len := len) (cap := c') h0 hu hi hz hsrc hnb2 (.inr g3) (by omega)
                obtain ⟨ρ2, u, u', h', w', x1, x2, _, x4, x5, x6⟩ := (sim_storeCells (P := P) (w0 := w0) (i := 0) hll (hs.base.add (len * ei.size))).out hr hq
                exact ⟨ρ2, _, .slice (some a') (len + n) c', h', w', x1, by rw [hrun]; simp [x2], .slice (hs.mono x1), x4, x5, x6⟩
              | false =>
                rw [hrm] at hq
                simp only [cond_false] at hq
                have hrm' : cap < len + n := by
                  rcases Nat.lt_or_ge cap (len + n) with hh | hh
                  · exact hh
                  · rw [Nat.ble_eq_true_of_le hh] at hrm; cases hrm
                have hinv := loadList_inv hq
                obtain ⟨old, hqo, hol, hoc⟩ := hinv
                obtain ⟨old', ho1, ho2⟩ := cells_images hr hs.base old 0 hoc
                have hold : ∀ w1 : World, w1.heap = w.heap → (Builtin.firstCells ei.size len (.slice (some a') len c')).run P w1 = .ok old'.toArray w1 := by
                  intro w1 hw1
                  simp only [Builtin.firstCells]
                  have : len * ei.size = old'.length := by rw [← ho1.length, hol]
                  rw [this]
                  exact run_loadCells_list w1 a' old' fun j v hj => by rw [cell_heap hw1]; simpa using ho2 j v hj
                have hsum : (old ++ l).length = (len + n) * ei.size := by rw [List.length_append, hol, g5, Nat.add_mul]
                have grow : ∀ {fr : Nat × Nat} {h' : Heap}, HRel w0 ρ h' w → c' < len + n → free fr = true ∧ (fr = (0, 0) ∨ fr = (1, 1)) → aGrown e ei.size (len + n) fr (old ++ l) h' Q → Out P w0 VRel ρ h' w (Builtin.append_ ts ty [.slice (some a') len c', x'].toArray) Q := by
                  intro fr h' hr' hlt hfr hq'
                  have hrun := append_grow (ty := ty) (base := some a') (len := len) (cap := c') h0 hu hi hz hsrc g1 g2 g3 hold hz0 hnp hlt
                  exact grown_out hr' (ho1.append hll) hsum (zlen _) (grownCap_ge _ _ _ _) g3 hfr hq' rfl hrun
                cases hsp : a.spot with
                | none =>
                  rw [hsp] at hqo
                  have hce : c' = cap := by
                    obtain ⟨_, p, _, _, _, hm⟩ := hs
                    rw [hsp] at hm; exact hm
                  exact grow hr (by omega) ⟨rfl, .inl rfl⟩ hqo
                | some s =>
                  rw [hsp] at hqo
                  simp only at hqo
                  cases hb : (Nat.beq s ei.size && l.all oneCell && !pinnedBlock a.block h.pins) with
                  | false => rw [hb] at hqo; exact hqo.elim
                  | true =>
                    rw [hb] at hqo
                    simp only [cond_true] at hqo
                    simp only [Bool.and_eq_true, Bool.not_eq_true'] at hb
                    obtain ⟨⟨b1, b2⟩, b3⟩ := hb
                    have b1 := Nat.eq_of_beq_eq_true b1
                    subst b1
                    split at hqo
                    case h_2 => exact hqo.elim
                    rename_i c0 e0 fr hg
                    cases hfe : (free fr && Nat.beq e0 e) with
                    | false => rw [hfe] at hqo; exact hqo.elim
                    | true =>
                      rw [hfe] at hqo
                      simp only [cond_true] at hqo
                      simp only [Bool.and_eq_true] at hfe
                      have he := Nat.eq_of_beq_eq_true hfe.2
                      subst he
                      rcases Nat.lt_or_ge c' (len + n) with hlt | hge
                      · have hfr : fr = (0, 0) ∨ fr = (1, 1) := by
                          obtain ⟨p', o', e1, e2, e3, _⟩ := hr.objs _ _ hg
                          cases e3 with
                          | cells _ _ _ hf =>
                            rcases hf with ⟨hf, _⟩ | ⟨hf, _⟩ | hf
                            · exact .inl hf
                            · exact .inr hf
                            · rw [hf] at hfe; simp [Go.Abs.free, shut] at hfe
                        obtain ⟨ρ2, u, u', h', w', x1, x2, x3, x4, x5, x6⟩ := grow (hr.drop a.block) hlt ⟨hfe.1, hfr⟩ hqo
                        exact ⟨ρ2, u, u', h', w', x1, x2, x3, x4, (Keep.drop b3).trans x5, x6⟩
                      · have hrun := append_room (ty := ty) (base := some a') (len := len) (cap := c') h0 hu hi hz hsrc hnb2 (.inr g3) hge
                        obtain ⟨ρ2, u, u', h', w', x1, x2, x3, x4, x5, x6⟩ := inplace_out (P := P) hr hs hsp hg hfe.1 b3 hoc hol hll g5 b2 hge hqo
                        exact ⟨ρ2, u, u', h', w', x1, by rw [← x2]; exact hrun, x3, x4, x5, x6⟩

end
end Go.Abs
