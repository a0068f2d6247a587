/- Symbolic execution, part 13: words for contracts: what lies in memory, what grows, what stays. -/
import Derived.Test.YtkfoibidnkfndaaGreatDoorAbS12
set_option linter.unusedVariables false
set_option linter.unusedSimpArgs false
namespace Go.Abs

/-- No name is out of range. -/
def WF (h : Heap) : Prop := ∀ i, h.next ≤ i → h.get i = none

/-- What was there is as it was. -/
structure Old (h h' : Heap) : Prop where
  get : ∀ b, b < h.next → h'.get b = h.get b
  next : h.next ≤ h'.next
  pins : h'.pins = h.pins
  wf : WF h → WF h'

theorem Old.refl (h : Heap) : Old h h := ⟨fun _ _ => rfl, Nat.le_refl _, rfl, id⟩
theorem Old.trans {a b c : Heap} (x : Old a b) (y : Old b c) : Old a c :=
  ⟨fun i hi => (y.get i (Nat.lt_of_lt_of_le hi x.next)).trans (x.get i hi), Nat.le_trans x.next y.next, y.pins.trans x.pins, fun h => y.wf (x.wf h)⟩

/-- The cells of a row: from a base on, these values. -/
def Elts (h : Heap) (o : Option Addr) (vs : List Value) : Prop := ∀ (i : Nat) (v : Value), vs[i]? = some v → Option.bind (elt o i) h.cell? = some v

theorem Elts.nil {h : Heap} {o : Option Addr} : Elts h o [] := fun i v e => by simp at e

theorem elt_block {o : Option Addr} {i : Nat} {x a : Addr} (ho : o = some a) (h : elt o i = some x) : x.block = a.block := by
  subst ho
  simp only [elt, Option.map_some, Option.some.injEq] at h
  rw [← h]
  simp [addTo, Addr.add_block, plainA]

theorem Elts.has {h : Heap} {o : Option Addr} {vs : List Value} (e : Elts h o vs) {i : Nat} (hi : i < vs.length) : ∃ a, o = some a := by
  have := e i _ (List.getElem?_eq_getElem hi)
  cases o with
  | none => simp [elt] at this
  | some a => exact ⟨a, rfl⟩

theorem Elts.isSome {h : Heap} {o : Option Addr} {vs : List Value} (e : Elts h o vs) {i : Nat} (hi : i < vs.length) : o.isSome = true := by
  obtain ⟨a, rfl⟩ := e.has hi; rfl

theorem Elts.at {h : Heap} {o : Option Addr} {vs : List Value} (e : Elts h o vs) {i : Nat} (hi : i < vs.length) : Option.bind (elt o i) h.cell? = some vs[i] := e i _ (List.getElem?_eq_getElem hi)

theorem cell?_get {h : Heap} {a : Addr} {v : Value} (e : h.cell? a = some v) : ∃ o, h.get a.block = some o := by
  unfold Heap.cell? at e
  cases hg : h.get a.block with
  | none => rw [hg] at e; cases e
  | some o => exact ⟨o, rfl⟩

theorem WF.lt {h : Heap} (w : WF h) {b : Nat} {o : Obj} (e : h.get b = some o) : b < h.next := by
  rcases Nat.lt_or_ge b h.next with h1 | h1
  · exact h1
  · rw [w b h1] at e; cases e

/-- The block of a row that has a cell is there. -/
theorem Elts.lt {h : Heap} (w : WF h) {o : Option Addr} {vs : List Value} (e : Elts h o vs) {i : Nat} (hi : i < vs.length) {a : Addr} (ho : o = some a) : a.block < h.next := by
  have := e.at hi
  subst ho
  simp only [elt, Option.map_some, Option.bind_some] at this
  obtain ⟨ob, hg⟩ := cell?_get this
  have hb : (addTo i (plainA a)).block = a.block := by simp [addTo, Addr.add_block, plainA]
  rw [hb] at hg
  exact w.lt hg

theorem Elts.old {h h' : Heap} (w : WF h) (ol : Old h h') {o : Option Addr} {vs : List Value} (e : Elts h o vs) : Elts h' o vs := by
  intro i v hv
  have hi : i < vs.length := (List.getElem?_eq_some_iff.1 hv).1
  obtain ⟨a, ha⟩ := e.has hi
  have hlt := e.lt w hi ha
  have h1 := e i v hv
  subst ha
  simp only [elt, Option.map_some, Option.bind_some] at h1 ⊢
  rw [← h1]
  refine cell?_congr ?_
  have hb : (addTo i (plainA a)).block = a.block := by simp [addTo, Addr.add_block, plainA]
  rw [hb]
  exact ol.get _ hlt

/-- An element's block is none that is new. -/
theorem Elts.ne {h h' : Heap} (w : WF h) (hn : h.next ≤ h'.next) {o : Option Addr} {vs : List Value} (e : Elts h o vs) {i : Nat} (hi : i < vs.length) {k : Nat} {j : Nat} : ∀ x, elt o j = some x → x.block ≠ h'.next + k := by
  intro x hx
  obtain ⟨a, ha⟩ := e.has hi
  have hlt := e.lt w hi ha
  rw [elt_block ha hx]
  omega

theorem unp_nil {a : Option Addr} {p : List Addr} {k : Nat} (h : p = []) : unpAll a p k := by
  subst h; intro x _ i _; rfl

theorem hup_next (h : Heap) (k : Nat) (l : List (Nat × Option Obj)) (p : List Addr) : (hup h k l p).next = h.next + k := rfl
theorem hup_pins (h : Heap) (k : Nat) (l : List (Nat × Option Obj)) (p : List Addr) : (hup h k l p).pins = p := rfl

/-- New blocks alone have been laid. -/
theorem hup_old {h : Heap} {k : Nat} {p : List Addr} (hp : p = h.pins) : ∀ {l : List (Nat × Option Obj)}, (∀ x ∈ l, h.next ≤ x.1 ∧ x.1 < h.next + k) → Old h (hup h k l p)
  | [], _ => ⟨fun b hb => rfl, Nat.le_add_right _ _, hp, fun w i hi => w i (by have : h.next + k ≤ i := hi; omega)⟩
  | (b, o) :: l, hl => by
    have ih := hup_old hp (k := k) (l := l) fun x hx => hl x (List.mem_cons_of_mem _ hx)
    have h1 := hl (b, o) (List.mem_cons_self ..)
    refine ⟨fun c hc => ?_, Nat.le_add_right _ _, hp, fun w i hi => ?_⟩
    · rw [hup_cons]
      have : ¬ c = b := by have := h1.1; simp only at this; omega
      rw [if_neg this]; exact ih.get c hc
    · rw [hup_cons]
      have hi' : h.next + k ≤ i := hi
      have : ¬ i = b := by have := h1.2; simp only at this; omega
      rw [if_neg this]; exact ih.wf w i hi

/-! ### What is appended to -/

/-- A slice that appends have made, of n elements of s cells each, its cells vs; its block is not below B. -/
def OutS (B : Nat) (t : TypeId) (s : Nat) (h : Heap) (o : Option Addr) (n c : Nat) (vs : List Value) : Prop :=
  vs.length = n * s ∧ c = n ∧ ((o = none ∧ n = 0) ∨ ∃ b, o = some ⟨b, 0, some s⟩ ∧ B ≤ b ∧ 0 < n ∧ h.get b = some (.cells vs.toArray t (0, 0)))

theorem OutS.start (B : Nat) (t : TypeId) (s : Nat) (h : Heap) : OutS B t s h none 0 0 [] := ⟨by simp, rfl, .inl ⟨rfl, rfl⟩⟩

theorem OutS.congr {B : Nat} {t : TypeId} {s : Nat} {h h' : Heap} {o : Option Addr} {n c : Nat} {vs : List Value} (x : OutS B t s h o n c vs) (hg : ∀ b, B ≤ b → b < h.next → h'.get b = h.get b) (w : WF h) : OutS B t s h' o n c vs := by
  obtain ⟨h1, h2, h3⟩ := x
  refine ⟨h1, h2, h3.imp id ?_⟩
  rintro ⟨b, e1, e2, e3, e4⟩
  exact ⟨b, e1, e2, e3, by rw [hg b e2 (w.lt e4)]; exact e4⟩

theorem OutS.elts {B : Nat} {t : TypeId} {s : Nat} {h : Heap} {o : Option Addr} {n c : Nat} {vs : List Value} (x : OutS B t s h o n c vs) : Elts h o vs := by
  obtain ⟨h1, h2, h3⟩ := x
  intro i v hv
  have hi : i < vs.length := (List.getElem?_eq_some_iff.1 hv).1
  rcases h3 with ⟨_, rfl⟩ | ⟨b, rfl, e2, e3, e4⟩
  · simp at h1; rw [h1] at hi; simp at hi
  · simp only [elt, Option.map_some, Option.bind_some, plainA, addTo_mk]
    unfold Heap.cell?
    rw [e4]
    simpa using hv

theorem loadList_row {P : Program} {h : Heap} {b : Nat} {vs : List Value} {t : TypeId} {fr : Nat × Nat} (hg : h.get b = some (.cells vs.toArray t fr)) {Q : List Value → Heap → Prop} {n : Nat} (hn : n = vs.length) (hq : Q vs h) : aSem P (loadList ⟨b, 0, none⟩ n 0) h Q := by
  refine loadList_of (l := vs) ?_ hq
  rw [cellsV_known hg rfl n 0 (by simp [hn])]
  simp [hn]

/-- ONE ELEMENT MORE. -/
theorem appendTo_one {P : Program} {B : Nat} {t : TypeId} {s bytes : Nat} {h0 h : Heap} {o : Option Addr} {n c : Nat} {vs cs : List Value} {Q : Value → Heap → Prop}
    (x : OutS B t s h o n c vs) (ol : Old h0 h) (hB : h0.next ≤ B) (w : WF h) (hs : 0 < s) (hb : 0 < bytes) (hz : zeroFits P t s = true) (hc : cs.length = s) (h1 : vs.all oneCell = true) (h2 : cs.all oneCell = true)
    (hsz : (n + 1) * bytes ≤ 140737488355328) (hsz' : n + 1 ≤ 140737488355328) (hp : h.pins = [])
    (hq : ∀ o' h', Old h0 h' → WF h' → h.next ≤ h'.next → (∀ b, b < B → h'.get b = h.get b) → OutS B t s h' o' (n + 1) (n + 1) (vs ++ cs) → (vs ++ cs).all oneCell = true → Q (.slice o' (n + 1) (n + 1)) h')
    (hBn : B ≤ h.next) : Prim.den P (.appendTo s bytes t 1) (.slice o n c :: cs) h Q := by
  obtain ⟨x1, x2, x3⟩ := x
  show aAppendTo P o n c s bytes t 1 cs h Q
  unfold aAppendTo
  have e0 : Nat.beq 1 0 = false := rfl
  have ea : Nat.ble ((n + 1) * bytes) 140737488355328 = true := Nat.ble_eq_true_of_le hsz
  have eb : Nat.ble (n + 1) 140737488355328 = true := Nat.ble_eq_true_of_le hsz'
  have ec : Nat.beq s 0 = false := by cases hbq : Nat.beq s 0 with
    | false => rfl
    | true => have := Nat.eq_of_beq_eq_true hbq; omega
  have ed : Nat.beq bytes 0 = false := by cases hbq : Nat.beq bytes 0 with
    | false => rfl
    | true => have := Nat.eq_of_beq_eq_true hbq; omega
  have ee : Nat.beq cs.length (1 * s) = true := by rw [hc]; simp
  rw [e0, ea, eb, ec, ed, ee, hz]
  simp only [cond_false, Bool.not_true, Bool.or_false]
  have hall : (vs ++ cs).all oneCell = true := by rw [List.all_append, h1, h2]; rfl
  have fin : ∀ h2 : Heap, h2.next = h.next → h2.pins = h.pins → (∀ b, b < B → h2.get b = h.get b) → (∀ i, h.next ≤ i → h2.get i = none) →
      Q (.slice (some ⟨h2.next, 0, some s⟩) (n + 1) (n + 1)) (h2.alloc (.cells (vs ++ cs).toArray t (0, 0))) := by
    intro h2 g1 g2 g3 g4
    have hold : ∀ b, b < B → (h2.alloc (.cells (vs ++ cs).toArray t (0, 0))).get b = h.get b := by
      intro b hb'
      rw [Heap.get_alloc, if_neg (by omega)]
      exact g3 b hb'
    have hwf : WF (h2.alloc (.cells (vs ++ cs).toArray t (0, 0))) := by
      intro i hi
      have hi' : h2.next + 1 ≤ i := hi
      rw [Heap.get_alloc, if_neg (by omega)]
      exact g4 i (by omega)
    refine hq _ _ ⟨fun b hb' => (hold b (by omega)).trans (ol.get b hb'), ?_, ?_, fun _ => hwf⟩ hwf ?_ hold ⟨?_, rfl, .inr ⟨h2.next, rfl, by omega, by omega, ?_⟩⟩ hall
    · show h0.next ≤ h2.next + 1
      have := ol.next; omega
    · show h2.pins = h0.pins
      rw [g2, ol.pins]
    · show h.next ≤ h2.next + 1
      omega
    · rw [List.length_append, x1, hc, Nat.add_mul]; omega
    · rw [Heap.get_alloc, if_pos rfl]
  rcases x3 with ⟨rfl, rfl⟩ | ⟨b, rfl, y1, y2, y3⟩
  · have : vs = [] := by cases vs with
      | nil => rfl
      | cons a l => simp at x1
    subst this
    subst x2
    have := fin h rfl rfl (fun _ _ => rfl) w
    simpa [aGrown] using this
  · rw [x2]
    have : Nat.ble (n + 1) n = false := by
      cases hbq : Nat.ble (n + 1) n with
      | false => rfl
      | true => have := ble_le hbq; omega
    simp only [this, cond_false]
    refine loadList_row y3 x1.symm ?_
    show (bif Nat.beq s s && cs.all oneCell && !pinnedBlock b h.pins then _ else _)
    have hpb : pinnedBlock b h.pins = false := by rw [hp]; rfl
    have ef : (Nat.beq s s && cs.all oneCell && !pinnedBlock b h.pins) = true := by rw [h2, hpb]; simp
    rw [ef, y3]
    simp only [cond_true]
    have eg : (free (0, 0) && Nat.beq t t) = true := by simp [free]
    rw [eg]
    simp only [cond_true]
    have hlt := w.lt y3
    exact fin (h.put b none) rfl rfl (fun c hc' => by rw [Heap.get_put, if_neg (by omega)]) (fun i hi => by rw [Heap.get_put, if_neg (by omega)]; exact w i hi)

/-- A row of numbers; of truth values. -/
theorem Elts.int {h : Heap} {o : Option Addr} {k : IntKind} {l : List Int} (e : Elts h o (l.map (Value.int k))) {i : Nat} (hi : i < l.length) : Option.bind (elt o i) h.cell? = some (.int k (l.getD i 0)) := by
  refine e i _ ?_
  simp [List.getD_eq_getElem?_getD, hi]
theorem Elts.bool {h : Heap} {o : Option Addr} {l : List Bool} (e : Elts h o (l.map Value.bool)) {i : Nat} (hi : i < l.length) : Option.bind (elt o i) h.cell? = some (.bool (l.getD i false)) := by
  refine e i _ ?_
  simp [List.getD_eq_getElem?_getD, hi]
theorem Elts.sm {h : Heap} {o : Option Addr} {α : Type} {f : α → Value} {l : List α} (e : Elts h o (l.map f)) {i : Nat} (hi : i < l.length) : o.isSome = true := e.isSome (by simpa using hi)

theorem InK_i64 (x : Int) : InK .i64 x ↔ -9223372036854775808 ≤ x ∧ x ≤ 9223372036854775807 := by
  simp [InK, IntKind.min, IntKind.max, IntKind.signed, IntKind.bits]

end Go.Abs
