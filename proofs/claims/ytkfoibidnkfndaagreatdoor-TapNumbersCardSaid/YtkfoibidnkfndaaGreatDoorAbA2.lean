/- The abstract machine, part 2: what an abstract heap says of a world; the simulation of Sem terms. -/
import Derived.Test.YtkfoibidnkfndaaGreatDoorAbA1
namespace Go.Abs
open Go.RowKit

def EntryRel (ρ : Ren) (e e' : MapEntry) : Prop := VRel ρ e.key e'.key ∧ VRel ρ e.val e'.val ∧ e.born = e'.born

def EntriesRel (ρ : Ren) (a a' : Array MapEntry) : Prop := a.size = a'.size ∧ ∀ (i : Nat) (e e' : MapEntry), a[i]? = some e → a'[i]? = some e' → EntryRel ρ e e'

inductive TargetRel (ρ : Ren) : Target → Target → Prop
  | fn {f f' : Fn} {c c' : Array Value} (h : FnRel ρ f f') (hc : ARel ρ c c') : TargetRel ρ (.fn f c) (.fn f' c')
  | nil : TargetRel ρ .nil .nil
  | builtin (b : Builtin) (ts : Array TypeId) (t : TypeId) (cs : Array Bool) : TargetRel ρ (.builtin b ts t cs) (.builtin b ts t cs)
  | collected {r r' : Nat} (h : ORel ρ r r') : TargetRel ρ (.collected r) (.collected r')

structure DeferRel (ρ : Ren) (d d' : Deferred) : Prop where
  target : TargetRel ρ d.target d'.target
  args : ARel ρ d.args d'.args

inductive DefersRel (ρ : Ren) : List Deferred → List Deferred → Prop
  | nil : DefersRel ρ [] []
  | cons {d d' : Deferred} {l l' : List Deferred} (h : DeferRel ρ d d') (t : DefersRel ρ l l') : DefersRel ρ (d :: l) (d' :: l')

structure LoopRel (ρ : Ren) (l l' : Loop) : Prop where
  state : l.state = l'.state
  pending : l.pending = l'.pending
  tmps : ARel ρ l.tmps l'.tmps
  params : l.params = l'.params
  assign : l.assign = l'.assign
  body : l.body = l'.body
  defers : ORel ρ l.defers l'.defers
  ok : ∃ G, okCode G l.assign = true ∧ okCode G l.body = true ∧ (∀ c, l.pending = some c → okCode G c = true) ∧ GRel G ρ

def FrRel (B : Nat) (p : Place) (n : Nat) (fr fr' : Nat × Nat) : Prop :=
  (fr = (0, 0) ∧ fr' = (0, 0) ∧ B ≤ p.blk) ∨ (fr = (1, 1) ∧ (fr' = (n, n + 1) ∨ fr' = (0, 0)) ∧ B ≤ p.blk) ∨ fr = shut

inductive ObjRel (B : Nat) (ρ : Ren) (p : Place) : Obj → Obj → Prop
  | cells {c c' : Array Value} {e : TypeId} {fr fr' : Nat × Nat} (hv : ∀ (k : Nat) (v : Value), c[k]? = some v → ∃ v', c'[p.off + k]? = some v' ∧ VRel ρ v v')
      (h1 : c.size ≤ p.cap) (h2 : p.off + p.cap ≤ c'.size) (hf : FrRel B p c'.size fr fr') : ObjRel B ρ p (.cells c e fr) (.cells c' e fr')
  | map {es es' : Array MapEntry} {clk : Nat} (he : EntriesRel ρ es es') : ObjRel B ρ p (.map es clk) (.map es' clk)
  | nilIter (since : Nat) (seen : Array Nat) (stepped : Nat) : ObjRel B ρ p (.mapIter none since seen stepped) (.mapIter none since seen stepped)
  | mapIter {m m' : Nat} (hm : ORel ρ m m') (since : Nat) (seen : Array Nat) (stepped : Nat) : ObjRel B ρ p (.mapIter (some m) since seen stepped) (.mapIter (some m') since seen stepped)
  | stringIter (s : ByteArray) (pos : Nat) : ObjRel B ρ p (.stringIter s pos) (.stringIter s pos)
  | loop {l l' : Loop} (h : LoopRel ρ l l') : ObjRel B ρ p (.loop l) (.loop l')
  | gone : ObjRel B ρ p (.deferred none) (.deferred none)
  | deferred {l l' : List Deferred} (h : DefersRel ρ l l') : ObjRel B ρ p (.deferred (some l)) (.deferred (some l'))
  | chan (cap : Nat) {buf buf' : Array Value} (h : ARel ρ buf buf') (closed : Bool) (sent received : Nat) (timer : Bool) : ObjRel B ρ p (.chan cap buf closed sent received timer) (.chan cap buf' closed sent received timer)

theorem EntryRel.mono {ρ ρ' : Ren} (hl : Ren.le ρ ρ') {e e' : MapEntry} (h : EntryRel ρ e e') : EntryRel ρ' e e' := ⟨h.1.mono hl, h.2.1.mono hl, h.2.2⟩
theorem EntriesRel.mono {ρ ρ' : Ren} (hl : Ren.le ρ ρ') {a a' : Array MapEntry} (h : EntriesRel ρ a a') : EntriesRel ρ' a a' := ⟨h.1, fun i e e' x y => (h.2 i e e' x y).mono hl⟩
theorem TargetRel.mono {ρ ρ' : Ren} (hl : Ren.le ρ ρ') {t t' : Target} (h : TargetRel ρ t t') : TargetRel ρ' t t' := by
  cases h with
  | fn h hc => exact .fn (h.mono hl) (hc.mono hl)
  | nil => exact .nil
  | builtin b ts t cs => exact .builtin b ts t cs
  | collected h => exact .collected (h.mono hl)
theorem DeferRel.mono {ρ ρ' : Ren} (hl : Ren.le ρ ρ') {t t' : Deferred} (h : DeferRel ρ t t') : DeferRel ρ' t t' := ⟨h.target.mono hl, h.args.mono hl⟩
theorem DefersRel.mono {ρ ρ' : Ren} (hl : Ren.le ρ ρ') {t t' : List Deferred} (h : DefersRel ρ t t') : DefersRel ρ' t t' := by
  induction h with
  | nil => exact .nil
  | cons h _ ih => exact .cons (h.mono hl) ih
theorem LoopRel.mono {ρ ρ' : Ren} (hl : Ren.le ρ ρ') {t t' : Loop} (h : LoopRel ρ t t') : LoopRel ρ' t t' :=
  ⟨h.state, h.pending, h.tmps.mono hl, h.params, h.assign, h.body, h.defers.mono hl, let ⟨G, x1, x2, x3, x4⟩ := h.ok; ⟨G, x1, x2, x3, x4.mono hl⟩⟩
theorem ObjRel.mono {B : Nat} {ρ ρ' : Ren} {p : Place} (hl : Ren.le ρ ρ') {o o' : Obj} (h : ObjRel B ρ p o o') : ObjRel B ρ' p o o' := by
  cases h with
  | cells hv h1 h2 hf => exact .cells (fun k v e => let ⟨v', a, b⟩ := hv k v e; ⟨v', a, b.mono hl⟩) h1 h2 hf
  | map he => exact .map (he.mono hl)
  | nilIter a b c => exact .nilIter a b c
  | mapIter h a b c => exact .mapIter (h.mono hl) a b c
  | stringIter s n => exact .stringIter s n
  | loop h => exact .loop (h.mono hl)
  | gone => exact .gone
  | deferred h => exact .deferred (h.mono hl)
  | chan a h b c d e => exact .chan a (h.mono hl) b c d e

/-- What an abstract heap says of a world, w0 being the world at the start. -/
structure HRel (w0 : World) (ρ : Ren) (h : Heap) (w : World) : Prop where
  below : Below w0.heap.size w0 w
  objs : ∀ (i : Nat) (o : Obj), h.get i = some o → ∃ p o', ρ i = some p ∧ w.heap[p.blk]? = some o' ∧ ObjRel w0.heap.size ρ p o o' ∧ (notCells o = true → p.off = 0 ∧ w0.heap.size ≤ p.blk)
  sep : ∀ (i j : Nat) (oi oj : Obj) (p q : Place), i ≠ j → h.get i = some oi → h.get j = some oj → ρ i = some p → ρ j = some q → p.blk = q.blk → p.blk < w0.heap.size
  fresh : ∀ i, h.next ≤ i → ρ i = none ∧ h.get i = none

/-- What a step leaves: no pin has gone, pinned cells hold what they held. -/
structure Keep (h h' : Heap) : Prop where
  pins : h'.pins = h.pins
  cells : ∀ a v, a ∈ h.pins → h.cell? a = some v → h'.cell? a = some v
  next : h.next ≤ h'.next

theorem Keep.refl (h : Heap) : Keep h h := ⟨rfl, fun _ _ _ e => e, Nat.le_refl _⟩
theorem Keep.trans {a b c : Heap} (x : Keep a b) (y : Keep b c) : Keep a c :=
  ⟨y.pins.trans x.pins, fun d v hd e => y.cells d v (by rw [x.pins]; exact hd) (x.cells d v hd e), Nat.le_trans x.next y.next⟩

/-- Every step of s over the abstract heap is met by s' over the world. -/
def Sim (P : Program) (w0 : World) {α β : Type} (R : Ren → α → β → Prop) (ρ : Ren) (s : Sem α) (s' : Sem β) : Prop :=
  ∀ ρ1, Ren.le ρ ρ1 → ∀ (h : Heap) (w : World) (Q : α → Heap → Prop), HRel w0 ρ1 h w → aSem P s h Q →
    ∃ ρ2 a b h' w', Ren.le ρ1 ρ2 ∧ s'.run P w = .ok b w' ∧ R ρ2 a b ∧ HRel w0 ρ2 h' w' ∧ Keep h h' ∧ Q a h'

section
variable {P : Program} {w0 : World} {α β γ δ : Type}

theorem Sim.pure {R : Ren → α → β → Prop} {ρ : Ren} {a : α} {b : β} (h : ∀ ρ', Ren.le ρ ρ' → R ρ' a b) : Sim P w0 R ρ (Pure.pure a) (Pure.pure b) :=
  fun ρ1 hl hp w _ hr hq => ⟨ρ1, a, b, hp, w, Ren.le_refl _, rfl, h _ hl, hr, Keep.refl _, hq⟩

theorem Sim.bind {R : Ren → α → β → Prop} {R' : Ren → γ → δ → Prop} {ρ : Ren} {s : Sem α} {s' : Sem β} {f : α → Sem γ} {f' : β → Sem δ} (h : Sim P w0 R ρ s s')
    (hf : ∀ ρ', Ren.le ρ ρ' → ∀ a b, R ρ' a b → Sim P w0 R' ρ' (f a) (f' b)) : Sim P w0 R' ρ (s >>= f) (s' >>= f') := by
  intro ρ1 hl hp w Q hr hq
  rw [aSem_bind] at hq
  obtain ⟨ρ2, a, b, h', w', hl2, hrun, hR, hr2, hk, hq2⟩ := h ρ1 hl hp w _ hr hq
  obtain ⟨ρ3, c, d, h'', w'', hl3, hrun', hR', hr3, hk', hq3⟩ := hf ρ2 (Ren.le_trans hl hl2) a b hR ρ2 (Ren.le_refl _) h' w' _ hr2 hq2
  exact ⟨ρ3, c, d, h'', w'', Ren.le_trans hl2 hl3, by simp [hrun, hrun'], hR', hr3, hk.trans hk', hq3⟩

theorem Sim.mono {R R' : Ren → α → β → Prop} {ρ : Ren} {s : Sem α} {s' : Sem β} (h : Sim P w0 R ρ s s') (hR : ∀ ρ' a b, R ρ' a b → R' ρ' a b) : Sim P w0 R' ρ s s' :=
  fun ρ1 hl hp w Q hr hq => let ⟨ρ2, a, b, h', w', x1, x2, x3, x4⟩ := h ρ1 hl hp w Q hr hq; ⟨ρ2, a, b, h', w', x1, x2, hR _ _ _ x3, x4⟩

theorem Sim.at {R : Ren → α → β → Prop} {ρ ρ' : Ren} {s : Sem α} {s' : Sem β} (h : Sim P w0 R ρ s s') (hl : Ren.le ρ ρ') : Sim P w0 R ρ' s s' :=
  fun ρ1 hl1 => h ρ1 (Ren.le_trans hl hl1)

/-- Where the abstract side is stuck nothing is owed. -/
theorem Sim.no {R : Ren → α → β → Prop} {ρ : Ren} {s : Sem α} {s' : Sem β} (h : ∀ hp Q, ¬ aSem P s hp Q) : Sim P w0 R ρ s s' :=
  fun _ _ hp _ Q _ hq => (h hp Q hq).elim

theorem Sim.halt {R : Ren → α → β → Prop} {ρ : Ren} {x : Halt} {s' : Sem β} : Sim P w0 R ρ (Sem.halt x) s' := Sim.no fun _ _ h => h
theorem Sim.stuck {R : Ren → α → β → Prop} {ρ : Ren} {x : String} {s' : Sem β} : Sim P w0 R ρ (Go.stuck x) s' := Sim.no fun _ _ h => h
theorem Sim.unsup {R : Ren → α → β → Prop} {ρ : Ren} {x : Unsupported} {s' : Sem β} : Sim P w0 R ρ (Go.unsupported x) s' := Sim.no fun _ _ h => h
theorem Sim.goPanic {R : Ren → α → β → Prop} {ρ : Ren} {x : Value} {s' : Sem β} : Sim P w0 R ρ (Go.goPanic x) s' := Sim.no fun _ _ h => h

theorem Sim.program {ρ : Ren} : Sim P w0 (fun _ a b => a = P ∧ b = P) ρ Go.program Go.program :=
  fun ρ1 _ hp w _ hr hq => ⟨ρ1, P, P, hp, w, Ren.le_refl _, rfl, ⟨rfl, rfl⟩, hr, Keep.refl _, hq⟩

theorem Sim.mark {ρ : Ren} {m m' : Mark} : Sim P w0 (fun _ _ _ => True) ρ (Go.mark m) (Go.mark m') :=
  fun ρ1 _ hp w _ hr hq => ⟨ρ1, (), (), hp, w, Ren.le_refl _, rfl, trivial, hr, Keep.refl _, hq⟩

theorem Sim.askRoom {ρ : Ren} {n m : Nat} : Sim P w0 (fun _ _ _ => True) ρ (Go.askRoom n) (Go.askRoom m) :=
  fun ρ1 _ hp w Q hr hq => ⟨ρ1, (), (), hp, w, Ren.le_refl _, by simp, trivial, hr, Keep.refl _, by
    unfold Go.askRoom at hq; split at hq <;> exact hq⟩

/-! ### Cells -/

theorem HRel.cell {ρ : Ren} {h : Heap} {w : World} (hr : HRel w0 ρ h w) {a a' : Addr} {v : Value} (ha : PRel ρ a a') (hv : h.cell? a = some v) :
    ∃ v', w.cell? a' = some v' ∧ VRel ρ v v' := by
  obtain ⟨h1, h2, p, h3, h4, h5⟩ := ha
  unfold Heap.cell? at hv
  split at hv
  · rename_i c e fr ho
    simp only [h1] at hv
    obtain ⟨p', o', e1, e2, e3, _⟩ := hr.objs _ _ ho
    rw [h3] at e1; cases e1
    cases e3 with
    | cells hc _ _ _ =>
      obtain ⟨v', x, y⟩ := hc _ _ hv
      refine ⟨v', ?_, y⟩
      simp [World.cell?, h4, e2, h2, h5, x]
  · cases hv

theorem Sim.load {ρ : Ren} {a a' : Addr} {m m' : Mode} (ha : PRel ρ a a') : Sim P w0 VRel ρ (Go.load a m) (Go.load a' m') := by
  intro ρ1 hl h w Q hr hq
  simp only [Go.load, aSem] at hq
  split at hq
  · rename_i v hv
    obtain ⟨v', x, y⟩ := hr.cell (ha.mono hl) hv
    exact ⟨ρ1, v, v', h, w, Ren.le_refl _, by simp [x], y, hr, Keep.refl _, hq⟩
  · exact hq.elim

theorem VRel.one_cell {ρ : Ren} {v v' : Value} (h : VRel ρ v v') : oneCell v' = oneCell v := by cases h <;> rfl
theorem oneCell_eq (v : Value) : Go.Value.oneCell' v = oneCell v := by cases v <;> rfl

theorem pinned_mem {a : Addr} : ∀ {l : List Addr}, a ∈ l → pinned a l = true := by
  intro l h
  induction l with
  | nil => cases h
  | cons b l ih =>
    simp only [pinned]
    rcases List.mem_cons.1 h with e | h'
    · subst e; simp [Nat.beq_refl]
    · rw [ih h']; simp

theorem pinned_block {a : Addr} {i : Nat} (ha : a.block = i) : ∀ {l : List Addr}, a ∈ l → pinnedBlock i l = true := by
  intro l h
  induction l with
  | nil => cases h
  | cons b l ih =>
    simp only [pinnedBlock]
    rcases List.mem_cons.1 h with e | h'
    · subst e; simp [ha, Nat.beq_refl]
    · rw [ih h']; simp

theorem Heap.cell_put_ne {h : Heap} {i : Nat} {o : Option Obj} {a : Addr} (hne : a.block ≠ i) : (h.put i o).cell? a = h.cell? a := by
  simp [Heap.cell?, Heap.get_put, hne]

theorem cell_spot {h : Heap} {a : Addr} {v : Value} (e : h.cell? a = some v) : a.spot = none := by
  unfold Heap.cell? at e
  split at e
  · split at e
    · assumption
    · cases e
  · cases e

/-- A step that turns one block in which no pinned cell is turned. -/
theorem Keep.put {h : Heap} {i : Nat} {o : Option Obj} (hp : ∀ a v, a ∈ h.pins → a.block = i → h.cell? a = some v → (h.put i o).cell? a = some v) : Keep h (h.put i o) :=
  ⟨rfl, fun a v ha e => (by
    by_cases e' : a.block = i
    · exact hp a v ha e' e
    · rw [Heap.cell_put_ne e']; exact e), Nat.le_refl _⟩

theorem Heap.cell_alloc {h : Heap} {o : Obj} {a : Addr} (hne : a.block ≠ h.next) : (h.alloc o).cell? a = h.cell? a := by
  simp [Heap.cell?, Heap.get_alloc, hne]

theorem Heap.get_of_cell {h : Heap} {a : Addr} {v : Value} (e : h.cell? a = some v) : ∃ c e fr, h.get a.block = some (.cells c e fr) ∧ c[a.off]? = some v := by
  unfold Heap.cell? at e
  split at e
  · rename_i c t fr hg
    split at e
    · exact ⟨c, t, fr, hg, e⟩
    · cases e
  · cases e

theorem Keep.alloc {h : Heap} {o : Obj} (hf : h.get h.next = none) : Keep h (h.alloc o) :=
  ⟨rfl, fun a v _ e => (by
    rw [Heap.cell_alloc]
    · exact e
    · intro e'
      obtain ⟨c, t, fr, hg, _⟩ := Heap.get_of_cell e
      rw [e', hf] at hg
      cases hg), Nat.le_succ _⟩

theorem lt_of_heap {w : World} {b : Nat} {o : Obj} (h : w.heap[b]? = some o) : b < w.heap.size := (Array.getElem?_eq_some_iff.1 h).1

theorem setCell_heap_same {w : World} {a : Addr} {v : Value} {c : Array Value} {e : TypeId} {fr : Nat × Nat} (h : w.heap[a.block]? = some (.cells c e fr)) (hs : a.spot = none) :
    (w.setCell a v).heap[a.block]? = some (.cells (c.setIfInBounds a.off v) e fr) := by
  simp [World.setCell, Array.getElem?_modify, h, hs]

/-- One own block turned on both sides. -/
theorem HRel.turn {ρ : Ren} {h : Heap} {w w' : World} (hr : HRel w0 ρ h w) {i : Nat} {o o2 : Obj} {o2' : Obj} {p : Place} (hi : h.get i = some o) (hp : ρ i = some p) (hB : w0.heap.size ≤ p.blk)
    (hw : w'.heap[p.blk]? = some o2') (hrel : ObjRel w0.heap.size ρ p o2 o2') (hn : notCells o2 = true → p.off = 0)
    (hoth : ∀ k, k ≠ p.blk → w'.heap[k]? = w.heap[k]?) (hsz : w'.heap.size = w.heap.size) (hos : w'.os = w.os ∧ w'.tape = w.tape ∧ w'.output = w.output) : HRel w0 ρ (h.put i (some o2)) w' := by
  refine ⟨?_, ?_, ?_, ?_⟩
  · refine hr.below.trans ⟨hos.1, hos.2.1, hos.2.2, by omega, fun k hk => hoth k (by omega)⟩
  · intro j oj hj
    rw [Heap.get_put] at hj
    split at hj
    · rename_i e; subst e; cases hj
      exact ⟨p, o2', hp, hw, hrel, fun hn' => ⟨hn hn', hB⟩⟩
    · rename_i e
      obtain ⟨q, o', e1, e2, e3, e4⟩ := hr.objs j oj hj
      refine ⟨q, o', e1, ?_, e3, e4⟩
      rw [hoth _ (fun ec => ?_)]; exact e2
      have := hr.sep j i oj o q p e hj hi e1 hp ec
      omega
  · intro j k oj ok q r hne hj hk e1 e2 e3
    rw [Heap.get_put] at hj hk
    split at hj
    · split at hk
      · omega
      · rename_i ej ek; subst ej; exact hr.sep _ k o ok q r hne hi hk e1 e2 e3
    · split at hk
      · rename_i ej ek; subst ek; exact hr.sep j _ oj o q r hne hj hi e1 e2 e3
      · exact hr.sep j k oj ok q r hne hj hk e1 e2 e3
  · intro j hj
    obtain ⟨e1, e2⟩ := hr.fresh j hj
    refine ⟨e1, ?_⟩
    rw [Heap.get_put]
    split
    · rename_i e; subst e; rw [hp] at e1; cases e1
    · exact e2

theorem Sim.store {ρ : Ren} {a a' : Addr} {v v' : Value} {m m' : Mode} (ha : PRel ρ a a') (hv : VRel ρ v v') : Sim P w0 (fun _ _ _ => True) ρ (Go.store a v m) (Go.store a' v' m') := by
  intro ρ1 hl h w Q hr hq
  simp only [Go.store, aSem] at hq
  split at hq
  case h_2 => exact hq.elim
  rename_i h' hs
  unfold Heap.setCell? at hs
  split at hs
  case h_2 => cases hs
  rename_i c e fr hg
  split at hs
  case h_2 => cases hs
  rename_i hspot
  cases hb : (oneCell v && Go.Abs.free fr && Nat.blt a.off c.size && !pinned a h.pins) with
  | false => rw [hb] at hs; cases hs
  | true =>
    rw [hb] at hs
    simp only [cond_true, Option.some.injEq] at hs
    subst hs
    simp only [Bool.and_eq_true, Bool.not_eq_true', Nat.blt_eq] at hb
    obtain ⟨⟨⟨hone, hfree⟩, hlt⟩, hpin⟩ := hb
    obtain ⟨_, hs', p, hp, hblk, hoff⟩ := ha.mono hl
    obtain ⟨p', o', e1, e2, e3, _⟩ := hr.objs _ _ hg
    rw [hp] at e1; cases e1
    cases e3 with
    | @cells _ c' _ _ fr' hc h1 h2 hf =>
      have hB : w0.heap.size ≤ p.blk ∧ w.frozen? a' = false := by
        rcases hf with ⟨_, hf, hB⟩ | ⟨_, hf, hB⟩ | hf
        · exact ⟨hB, by simp [World.frozen?, hblk, e2, hf]⟩
        · refine ⟨hB, ?_⟩
          have : p.off + a.off < c'.size := by omega
          rcases hf with hf | hf
          · simp [World.frozen?, hblk, e2, hf, hoff]; omega
          · simp [World.frozen?, hblk, e2, hf]
        · subst hf; simp [Go.Abs.free, shut] at hfree
      have hcell : w.cell? a' = some (c'[a'.off]'(by rw [hoff]; omega)) := by
        simp [World.cell?, hblk, e2, hs']
      refine ⟨ρ1, (), (), h.put a.block (some (.cells (c.setIfInBounds a.off v) e fr)), w.setCell a' v', Ren.le_refl _, ?_, trivial, ?_, ?_, hq⟩
      · rw [run_store _ _ _ _ _ (by rw [oneCell_eq, (hv).one_cell]; exact hone)]
        simp [hcell, hB.2]
      · have hw : (w.setCell a' v').heap[p.blk]? = some (.cells (c'.setIfInBounds a'.off v') e fr') := by
          rw [← hblk]; exact setCell_heap_same (by rw [hblk]; exact e2) hs'
        refine hr.turn hg hp hB.1 hw ?_ (fun hn => by simp [notCells] at hn) ?_ ?_ ⟨rfl, rfl, rfl⟩
        · refine .cells (fun k u hu => ?_) (by simpa using h1) (by simpa using h2) (by simpa using hf)
          rw [Array.getElem?_setIfInBounds] at hu ⊢
          by_cases ek : a.off = k
          · subst ek
            rw [if_pos rfl, if_pos hlt] at hu; cases hu
            rw [if_pos (by omega), if_pos (by omega)]
            exact ⟨v', rfl, hv.mono hl⟩
          · rw [if_neg ek] at hu
            rw [if_neg (by omega)]
            exact hc k u hu
        · intro k hk
          exact Below.heap_setCell _ _ _ _ (by rw [hblk]; exact hk)
        · simp [World.setCell]
      · refine Keep.put fun b u hb eb hbu => ?_
        obtain ⟨c2, t2, fr2, hg2, hcu⟩ := Heap.get_of_cell hbu
        rw [eb, hg] at hg2; cases hg2
        have hsp := cell_spot hbu
        have : a.off ≠ b.off := by
          intro eo
          have := pinned_mem hb
          have hab : a = b := by
            obtain ⟨x1, x2, x3⟩ := a
            obtain ⟨y1, y2, y3⟩ := b
            simp_all
          rw [hab] at hpin
          rw [this] at hpin; cases hpin
        simp [Heap.cell?, Heap.get_put, eb, hsp, this, hcu]

/-- A new block on both sides. -/
theorem HRel.born {ρ : Ren} {h : Heap} {w : World} (hr : HRel w0 ρ h w) {o o' : Obj} {n : Nat} {w' : World}
    (hrel : ∀ ρ', Ren.le ρ ρ' → ObjRel w0.heap.size ρ' ⟨w.heap.size, 0, n⟩ o o') (hw' : w'.heap = w.heap.push o') (hos : w'.os = w.os ∧ w'.tape = w.tape ∧ w'.output = w.output) :
    ∃ ρ', Ren.le ρ ρ' ∧ ρ' h.next = some ⟨w.heap.size, 0, n⟩ ∧ HRel w0 ρ' (h.alloc o) w' := by
  let ρ' : Ren := fun i => if i = h.next then some ⟨w.heap.size, 0, n⟩ else ρ i
  have hle : Ren.le ρ ρ' := fun i p e => by
    show (if i = h.next then _ else _) = _
    rw [if_neg]; exact e
    intro ei
    have := (hr.fresh i (by omega)).1
    rw [e] at this; cases this
  have hnew : ρ' h.next = some ⟨w.heap.size, 0, n⟩ := if_pos rfl
  have hold : ∀ i, i ≠ h.next → ρ' i = ρ i := fun i hi => if_neg hi
  refine ⟨ρ', hle, hnew, ⟨?_, ?_, ?_, ?_⟩⟩
  · refine hr.below.trans ⟨hos.1, hos.2.1, hos.2.2, by rw [hw']; simp, fun k hk => ?_⟩
    have := hr.below.size
    rw [hw', Array.getElem?_push, if_neg (by omega)]
  · intro j oj hj
    rw [Heap.get_alloc] at hj
    split at hj
    · rename_i e; subst e; cases hj
      exact ⟨_, o', hnew, by rw [hw']; simp, hrel _ hle, fun _ => ⟨rfl, hr.below.size⟩⟩
    · rename_i e
      obtain ⟨q, o'', e1, e2, e3, e4⟩ := hr.objs j oj hj
      have := lt_of_heap e2
      exact ⟨q, o'', by rw [hold j e]; exact e1, by rw [hw', Array.getElem?_push, if_neg (by omega)]; exact e2, e3.mono hle, e4⟩
  · intro j k oj ok q r hne hj hk e1 e2 e3
    rw [Heap.get_alloc] at hj hk
    split at hj
    · split at hk
      · omega
      · rename_i ej ek
        subst ej; rw [hnew] at e1; cases e1
        rw [hold k ek] at e2
        obtain ⟨r', o'', f1, f2, _⟩ := hr.objs k ok hk
        rw [e2] at f1; cases f1
        have := lt_of_heap f2
        simp only at e3; omega
    · rename_i ej
      rw [hold j ej] at e1
      split at hk
      · rename_i ek; subst ek; rw [hnew] at e2; cases e2
        obtain ⟨r', o'', f1, f2, _⟩ := hr.objs j oj hj
        rw [e1] at f1; cases f1
        have := lt_of_heap f2
        simp only at e3; omega
      · rename_i ek
        rw [hold k ek] at e2
        exact hr.sep j k oj ok q r hne hj hk e1 e2 e3
  · intro j hj
    have hj' : h.next + 1 ≤ j := hj
    obtain ⟨e1, e2⟩ := hr.fresh j (by omega)
    refine ⟨by rw [hold j (by omega)]; exact e1, ?_⟩
    rw [Heap.get_alloc, if_neg (by omega)]; exact e2

/-- Objects that may be made. -/
inductive NewRel (ρ : Ren) : Obj → Obj → Prop
  | cells {c c' : Array Value} (e : TypeId) (h : ARel ρ c c') : NewRel ρ (.cells c e (0, 0)) (.cells c' e (0, 0))
  | map {es es' : Array MapEntry} (clk : Nat) (he : EntriesRel ρ es es') : NewRel ρ (.map es clk) (.map es' clk)
  | nilIter (since : Nat) (seen : Array Nat) (stepped : Nat) : NewRel ρ (.mapIter none since seen stepped) (.mapIter none since seen stepped)
  | mapIter {m m' : Nat} (hm : ORel ρ m m') (since : Nat) (seen : Array Nat) (stepped : Nat) : NewRel ρ (.mapIter (some m) since seen stepped) (.mapIter (some m') since seen stepped)
  | stringIter (s : ByteArray) (pos : Nat) : NewRel ρ (.stringIter s pos) (.stringIter s pos)
  | loop {l l' : Loop} (h : LoopRel ρ l l') : NewRel ρ (.loop l) (.loop l')
  | gone : NewRel ρ (.deferred none) (.deferred none)
  | deferred {l l' : List Deferred} (h : DefersRel ρ l l') : NewRel ρ (.deferred (some l)) (.deferred (some l'))
  | chan (cap : Nat) {buf buf' : Array Value} (h : ARel ρ buf buf') (closed : Bool) (sent received : Nat) (timer : Bool) : NewRel ρ (.chan cap buf closed sent received timer) (.chan cap buf' closed sent received timer)

theorem NewRel.obj {B : Nat} {ρ : Ren} {o o' : Obj} (h : NewRel ρ o o') {b : Nat} (hB : B ≤ b) : ∃ n, ∀ ρ', Ren.le ρ ρ' → ObjRel B ρ' ⟨b, 0, n⟩ o o' := by
  cases h with
  | @cells c c' e h =>
    refine ⟨c.size, fun ρ' hl => .cells (fun k v hk => ?_) (Nat.le_refl _) (by simp [h.1]) (.inl ⟨rfl, rfl, hB⟩)⟩
    have hlt : k < c.size := (Array.getElem?_eq_some_iff.1 hk).1
    have hk' : c'[k]? = some (c'[k]'(by rw [← h.1]; exact hlt)) := Array.getElem?_eq_getElem _
    exact ⟨_, by simp, (h.2 k v _ hk hk').mono hl⟩
  | map clk he => exact ⟨0, fun ρ' hl => .map (he.mono hl)⟩
  | nilIter a b c => exact ⟨0, fun ρ' hl => .nilIter a b c⟩
  | mapIter hm a b c => exact ⟨0, fun ρ' hl => .mapIter (hm.mono hl) a b c⟩
  | stringIter s n => exact ⟨0, fun ρ' hl => .stringIter s n⟩
  | loop h => exact ⟨0, fun ρ' hl => .loop (h.mono hl)⟩
  | gone => exact ⟨0, fun ρ' hl => .gone⟩
  | deferred h => exact ⟨0, fun ρ' hl => .deferred (h.mono hl)⟩
  | chan a h b c d e => exact ⟨0, fun ρ' hl => .chan a (h.mono hl) b c d e⟩

/-- The capacity of a block that has been made is its size. -/
theorem NewRel.obj_cells {B : Nat} {ρ : Ren} {c c' : Array Value} {e : TypeId} (h : ARel ρ c c') {b : Nat} (hB : B ≤ b) : ∀ ρ', Ren.le ρ ρ' → ObjRel B ρ' ⟨b, 0, c.size⟩ (.cells c e (0, 0)) (.cells c' e (0, 0)) := by
  refine fun ρ' hl => .cells (fun k v hk => ?_) (Nat.le_refl _) (by simp [h.1]) (.inl ⟨rfl, rfl, hB⟩)
  have hlt : k < c.size := (Array.getElem?_eq_some_iff.1 hk).1
  have hk' : c'[k]? = some (c'[k]'(by rw [← h.1]; exact hlt)) := Array.getElem?_eq_getElem _
  exact ⟨_, by simp, (h.2 k v _ hk hk').mono hl⟩

theorem Sim.newObj {ρ : Ren} {o o' : Obj} (ho : NewRel ρ o o') : Sim P w0 ORel ρ (Go.newObj o) (Go.newObj o') := by
  intro ρ1 hl h w Q hr hq
  have hq' : Q h.next (h.alloc o) := by
    simp only [Go.newObj, aSem] at hq
    split at hq <;> first | exact hq | exact hq.elim
  obtain ⟨n, hn⟩ := ho.obj hr.below.size
  obtain ⟨ρ2, hl2, hnew, hr2⟩ := hr.born (w' := { w with heap := w.heap.push o' }) (fun ρ' hl' => hn ρ' (Ren.le_trans hl hl')) rfl ⟨rfl, rfl, rfl⟩
  exact ⟨ρ2, _, w.heap.size, _, _, hl2, rfl, ⟨_, hnew, rfl, rfl⟩, hr2, Keep.alloc (hr.fresh _ (Nat.le_refl _)).2, hq'⟩

/-- What a getObj may hand over. -/
theorem ObjRel.not_cells {B : Nat} {ρ : Ren} {p : Place} {o o' : Obj} (h : ObjRel B ρ p o o') : notCells o = true → NewRel ρ o o' := by
  intro hn
  cases h with
  | cells => simp [notCells] at hn
  | map he => exact .map _ he
  | nilIter a b c => exact .nilIter a b c
  | mapIter h a b c => exact .mapIter h a b c
  | stringIter s n => exact .stringIter s n
  | loop h => exact .loop h
  | gone => exact .gone
  | deferred h => exact .deferred h
  | chan a h b c d e => exact .chan a h b c d e

theorem Sim.getObj {ρ : Ren} {r r' : Nat} (hr' : ORel ρ r r') : Sim P w0 (fun ρ' o o' => NewRel ρ' o o' ∧ notCells o = true) ρ (Go.getObj r) (Go.getObj r') := by
  intro ρ1 hl h w Q hr hq
  simp only [Go.getObj, aSem] at hq
  split at hq
  case h_2 => exact hq.elim
  rename_i o ho
  cases hn : notCells o with
  | false => rw [hn] at hq; exact hq.elim
  | true =>
    rw [hn] at hq
    obtain ⟨p, hp, hb, _⟩ := hr'.mono hl
    obtain ⟨p', o', e1, e2, e3, _⟩ := hr.objs _ _ ho
    rw [hp] at e1; cases e1
    have hnew := e3.not_cells hn
    refine ⟨ρ1, o, o', h, w, Ren.le_refl _, ?_, ⟨hnew, hn⟩, hr, Keep.refl _, hq⟩
    rw [hb] at e2
    simp only [Go.getObj, Sem.run, e2]
    cases hnew <;> first | rfl | (simp [notCells] at hn)

theorem Sim.setObj {ρ : Ren} {r r' : Nat} {o o' : Obj} (hr' : ORel ρ r r') (ho : NewRel ρ o o') : Sim P w0 (fun _ _ _ => True) ρ (Go.setObj r o) (Go.setObj r' o') := by
  intro ρ1 hl h w Q hr hq
  simp only [Go.setObj, aSem] at hq
  split at hq
  case h_2 => exact hq.elim
  rename_i o1 ho1
  cases hb : (notCells o1 && notCells o && !pinnedBlock r h.pins) with
  | false => rw [hb] at hq; exact hq.elim
  | true =>
    rw [hb] at hq
    simp only [Bool.and_eq_true, Bool.not_eq_true'] at hb
    obtain ⟨⟨hn1, hn⟩, hpin⟩ := hb
    obtain ⟨p, hp, hb, hoff⟩ := hr'.mono hl
    obtain ⟨p', o1', e1, e2, e3, e4⟩ := hr.objs _ _ ho1
    rw [hp] at e1; cases e1
    have hnew := e3.not_cells hn1
    have hB := (e4 hn1).2
    refine ⟨ρ1, (), (), h.put r (some o), { w with heap := w.heap.setIfInBounds r' o' }, Ren.le_refl _, ?_, trivial, ?_, ?_, hq⟩
    · rw [hb] at e2
      simp only [Go.setObj, Sem.run, e2]
      cases hnew <;> first | rfl | (simp [notCells] at hn1)
    · have hlt := lt_of_heap e2
      refine hr.turn ho1 hp hB (o2' := o') ?_ ?_ (fun _ => hoff) ?_ (by simp) ⟨rfl, rfl, rfl⟩
      · simp [← hb, hlt]
      · cases ho with
        | cells => simp [notCells] at hn
        | map clk he => exact .map (he.mono hl)
        | nilIter a b c => exact .nilIter a b c
        | mapIter hm a b c => exact .mapIter (hm.mono hl) a b c
        | stringIter s n => exact .stringIter s n
        | loop h => exact .loop (h.mono hl)
        | gone => exact .gone
        | deferred h => exact .deferred (h.mono hl)
        | chan a h b c d e => exact .chan a (h.mono hl) b c d e
      · intro k hk
        show (w.heap.setIfInBounds r' o')[k]? = _
        rw [Array.getElem?_setIfInBounds, if_neg (by omega)]
    · refine Keep.put fun b u hb' eb _ => ?_
      have := pinned_block eb hb'
      rw [this] at hpin; cases hpin

end
end Go.Abs
