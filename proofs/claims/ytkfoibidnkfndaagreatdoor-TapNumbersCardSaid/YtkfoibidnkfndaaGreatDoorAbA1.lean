/- The abstract machine, part 1: names, values under a renaming, the abstract heap, what it says of a world, and the simulation of Sem terms. -/
import Derived.Below
import Derived.Laws.Sem
namespace Go.Abs
open Go.RowKit

/-! ### Tries: finite maps from numbers -/

inductive Tri where
  | leaf
  | node (v : Option Obj) (l r : Tri)

def Tri.get : Tri → Nat → Option Obj
  | .leaf, _ => none
  | .node v l r, n => bif Nat.beq n 0 then v else bif Nat.beq (n % 2) 1 then l.get (n / 2) else r.get (n / 2 - 1)

def Tri.put : Nat → Tri → Nat → Option Obj → Tri
  | 0, t, _, _ => t
  | f + 1, .leaf, n, o => bif Nat.beq n 0 then .node o .leaf .leaf else bif Nat.beq (n % 2) 1 then .node none (Tri.put f .leaf (n / 2) o) .leaf else .node none .leaf (Tri.put f .leaf (n / 2 - 1) o)
  | f + 1, .node v l r, n, o => bif Nat.beq n 0 then .node o l r else bif Nat.beq (n % 2) 1 then .node v (Tri.put f l (n / 2) o) r else .node v l (Tri.put f r (n / 2 - 1) o)

theorem beq_cases (a b : Nat) : (a = b ∧ Nat.beq a b = true) ∨ (a ≠ b ∧ Nat.beq a b = false) := by
  cases h : Nat.beq a b with
  | true => exact .inl ⟨Nat.eq_of_beq_eq_true h, rfl⟩
  | false => exact .inr ⟨Nat.ne_of_beq_eq_false h, rfl⟩

theorem Tri.get_leaf (n : Nat) : Tri.get .leaf n = none := rfl

theorem Tri.get_put : ∀ (f : Nat) (t : Tri) (n m : Nat) (o : Option Obj), n < f → (Tri.put f t n o).get m = if m = n then o else t.get m := by
  intro f
  induction f with
  | zero => intro t n m o h; omega
  | succ f ih =>
    intro t n m o h
    have key : ∀ (v : Option Obj) (l r : Tri), (Tri.put (f + 1) (.node v l r) n o).get m = if m = n then o else (Tri.node v l r).get m := by
      intro v l r
      simp only [Tri.put]
      rcases beq_cases n 0 with ⟨h0, e0⟩ | ⟨h0, e0⟩
      · simp only [e0, cond_true, Tri.get]
        subst h0
        rcases beq_cases m 0 with ⟨h1, e1⟩ | ⟨h1, e1⟩
        · simp [h1]
        · simp [e1, h1]
      · simp only [e0, cond_false]
        rcases beq_cases (n % 2) 1 with ⟨h2, e2⟩ | ⟨h2, e2⟩
        · simp only [e2, cond_true, Tri.get]
          rcases beq_cases m 0 with ⟨h1, e1⟩ | ⟨h1, e1⟩
          · have : ¬ m = n := by omega
            simp [e1, this]
          · simp only [e1, cond_false]
            rcases beq_cases (m % 2) 1 with ⟨h3, e3⟩ | ⟨h3, e3⟩
            · simp only [e3, cond_true]
              rw [ih _ _ _ _ (by omega)]
              by_cases hm : m = n
              · simp [hm]
              · have : ¬ m / 2 = n / 2 := by omega
                simp [hm, this]
            · have : ¬ m = n := by omega
              simp [e3, this]
        · simp only [e2, cond_false, Tri.get]
          rcases beq_cases m 0 with ⟨h1, e1⟩ | ⟨h1, e1⟩
          · have : ¬ m = n := by omega
            simp [e1, this]
          · simp only [e1, cond_false]
            rcases beq_cases (m % 2) 1 with ⟨h3, e3⟩ | ⟨h3, e3⟩
            · have : ¬ m = n := by omega
              simp [e3, this]
            · simp only [e3, cond_false]
              rw [ih _ _ _ _ (by omega)]
              by_cases hm : m = n
              · simp [hm]
              · have : ¬ m / 2 - 1 = n / 2 - 1 := by omega
                simp [hm, this]
    cases t with
    | node v l r => exact key v l r
    | leaf =>
      have e : Tri.put (f + 1) .leaf n o = Tri.put (f + 1) (.node none .leaf .leaf) n o := rfl
      rw [e, key]
      have : (Tri.node none .leaf .leaf).get m = none := by
        simp only [Tri.get]; cases Nat.beq m 0 <;> cases Nat.beq (m % 2) 1 <;> rfl
      rw [this]; rfl

/-! ### The abstract heap -/

structure Heap where
  next : Nat
  objs : Tri
  pins : List Addr

/-- The mark of a block that nobody writes. -/
def shut : Nat × Nat := (0, 1152921504606846976)

def Heap.get (h : Heap) (i : Nat) : Option Obj := h.objs.get i
def Heap.put (h : Heap) (i : Nat) (o : Option Obj) : Heap := { h with objs := Tri.put (i + 1) h.objs i o }
def Heap.alloc (h : Heap) (o : Obj) : Heap := { h with next := h.next + 1, objs := Tri.put (h.next + 1) h.objs h.next (some o) }

theorem Heap.get_put (h : Heap) (i j : Nat) (o : Option Obj) : (h.put i o).get j = if j = i then o else h.get j :=
  Tri.get_put _ _ _ _ _ (by omega)
theorem Heap.get_alloc (h : Heap) (j : Nat) (o : Obj) : (h.alloc o).get j = if j = h.next then some o else h.get j :=
  Tri.get_put _ _ _ _ _ (by omega)

def Heap.cell? (h : Heap) (a : Addr) : Option Value :=
  match h.get a.block with
  | some (.cells c _ _) => match a.spot with
    | none => c[a.off]?
    | some _ => none
  | _ => none

def oneCell : Value → Bool
  | .agg _ | .tuple _ => false
  | _ => true

/-- Are the cells of a block with this mark free to be written? -/
def free (fr : Nat × Nat) : Bool := Nat.beq fr.1 fr.2

def pinned (a : Addr) : List Addr → Bool
  | [] => false
  | b :: l => (Nat.beq a.block b.block && Nat.beq a.off b.off) || pinned a l
def pinnedBlock (i : Nat) : List Addr → Bool
  | [] => false
  | b :: l => Nat.beq i b.block || pinnedBlock i l

def Heap.setCell? (h : Heap) (a : Addr) (v : Value) : Option Heap :=
  match h.get a.block with
  | some (.cells c e fr) => match a.spot with
    | none => bif oneCell v && free fr && Nat.blt a.off c.size && !pinned a h.pins then some (h.put a.block (some (.cells (c.setIfInBounds a.off v) e fr))) else none
    | some _ => none
  | _ => none

def notCells : Obj → Bool
  | .cells .. | .pending .. | .view .. | .number .. | .coro .. | .finalizers .. => false
  | _ => true

/-- A Sem term over the abstract heap: what must hold for it to come to Q. -/
def aSem (P : Program) {α : Type} : Sem α → Heap → (α → Heap → Prop) → Prop
  | .pure a, h, Q => Q a h
  | .load _ a k, h, Q => match h.cell? a with
    | some v => aSem P (k v) h Q
    | none => False
  | .store _ a v k, h, Q => match h.setCell? a v with
    | some h' => aSem P k h' Q
    | none => False
  | .new o k, h, Q => match o with
    | .cells _ _ (0, 0) | .map .. | .mapIter .. | .stringIter .. | .loop _ | .deferred _ | .chan .. => aSem P (k h.next) (h.alloc o) Q
    | _ => False
  | .getObj r k, h, Q => match h.get r with
    | some o => bif notCells o then aSem P (k o) h Q else False
    | none => False
  | .setObj r o k, h, Q => match h.get r with
    | some o' => bif notCells o' && notCells o && !pinnedBlock r h.pins then aSem P k (h.put r (some o)) Q else False
    | none => False
  | .program k, h, Q => aSem P (k P) h Q
  | .mark _ k, h, Q => aSem P k h Q
  | _, _, _ => False

theorem aSem_bind {P : Program} {α β : Type} (s : Sem α) (f : α → Sem β) (h : Heap) (Q : β → Heap → Prop) :
    aSem P (s >>= f) h Q = aSem P s h (fun a h' => aSem P (f a) h' Q) := by
  show aSem P (s.bind f) h Q = _
  induction s generalizing h with
  | pure a => rfl
  | load m a k ih => simp only [Sem.bind, aSem]; split <;> simp [ih]
  | store m a v k ih => simp only [Sem.bind, aSem]; split <;> simp [ih]
  | new o k ih => simp only [Sem.bind, aSem]; split <;> simp [ih]
  | shape r k ih => rfl
  | freeze a n k ih => rfl
  | frozen a k ih => rfl
  | getObj r k ih =>
    simp only [Sem.bind, aSem]
    split
    · rename_i o _; cases notCells o <;> simp [ih]
    · rfl
  | setObj r o k ih =>
    simp only [Sem.bind, aSem]
    split
    · rename_i o' _; cases (notCells o' && notCells o && !pinnedBlock r h.pins) <;> simp [ih]
    · rfl
  | choose q k ih => rfl
  | sys c k ih => rfl
  | program k ih => simp only [Sem.bind, aSem, ih]
  | mark m k ih => simp only [Sem.bind, aSem, ih]
  | halt x => rfl

/-! ### Renamings, and values under them -/

structure Place where
  blk : Nat
  off : Nat
  cap : Nat

abbrev Ren := Nat → Option Place

def Ren.le (ρ ρ' : Ren) : Prop := ∀ i p, ρ i = some p → ρ' i = some p

theorem Ren.le_refl (ρ : Ren) : Ren.le ρ ρ := fun _ _ h => h
theorem Ren.le_trans {a b c : Ren} (h : Ren.le a b) (k : Ren.le b c) : Ren.le a c := fun i p e => k i p (h i p e)

/-- A plain address. -/
def PRel (ρ : Ren) (a a' : Addr) : Prop :=
  a.spot = none ∧ a'.spot = none ∧ ∃ p, ρ a.block = some p ∧ a'.block = p.blk ∧ a'.off = p.off + a.off

/-- A slice's base and capacity. A base with 'spot = some s' is that of a slice that an append has made: of its capacity it is known that it runs to the end of the room (cells of s to an element). -/
def SRel (ρ : Ren) (a : Addr) (c : Nat) (a' : Addr) (c' : Nat) : Prop :=
  a'.spot = none ∧ ∃ p, ρ a.block = some p ∧ a'.block = p.blk ∧ a'.off = p.off + a.off ∧
    match a.spot with
    | none => c' = c
    | some s => 0 < s ∧ c ≤ c' ∧ a.off + c' * s = p.cap

def ORel (ρ : Ren) (r r' : Nat) : Prop := ∃ p, ρ r = some p ∧ p.blk = r' ∧ p.off = 0

inductive FnRel (ρ : Ren) : Fn → Fn → Prop
  | func (f : FuncId) : FnRel ρ (.func f) (.func f)
  | method (n : String) : FnRel ρ (.method n) (.method n)
  | methodOf (t : TypeId) (n : String) : FnRel ρ (.methodOf t n) (.methodOf t n)
  | via (t : TypeId) (path : Array FieldStep) (f : FuncId) (b : Bool) : FnRel ρ (.via t path f b) (.via t path f b)
  | yield {l l' : Nat} (h : ORel ρ l l') : FnRel ρ (.yield l) (.yield l')

inductive VRel (ρ : Ren) : Value → Value → Prop
  | bool (b : Bool) : VRel ρ (.bool b) (.bool b)
  | int (k : IntKind) (n : Int) : VRel ρ (.int k n) (.int k n)
  | float (k : FloatKind) (b : Nat) : VRel ρ (.float k b) (.float k b)
  | complex (k : FloatKind) (a b : Nat) : VRel ρ (.complex k a b) (.complex k a b)
  | string (s : ByteArray) : VRel ρ (.string s) (.string s)
  | nilPtr : VRel ρ (.pointer none) (.pointer none)
  | ptr {a a' : Addr} (h : PRel ρ a a') : VRel ρ (.pointer (some a)) (.pointer (some a'))
  | nilSlice (n c : Nat) : VRel ρ (.slice none n c) (.slice none n c)
  | slice {a a' : Addr} {n c c' : Nat} (h : SRel ρ a c a' c') : VRel ρ (.slice (some a) n c) (.slice (some a') n c')
  | nilMap : VRel ρ (.map none) (.map none)
  | map {r r' : Nat} (h : ORel ρ r r') : VRel ρ (.map (some r)) (.map (some r'))
  | nilChan : VRel ρ (.chan none) (.chan none)
  | chan {r r' : Nat} (h : ORel ρ r r') : VRel ρ (.chan (some r)) (.chan (some r'))
  | func {f f' : Fn} {a a' c c' : Array Value} (h : FnRel ρ f f') (ha : a.size = a'.size) (ha' : ∀ (i : Nat) (v v' : Value), a[i]? = some v → a'[i]? = some v' → VRel ρ v v')
      (hc : c.size = c'.size) (hc' : ∀ (i : Nat) (v v' : Value), c[i]? = some v → c'[i]? = some v' → VRel ρ v v') : VRel ρ (.func f a c) (.func f' a' c')
  | nilFunc : VRel ρ .nilFunc .nilFunc
  | iface {t : TypeId} {v v' : Value} (h : VRel ρ v v') : VRel ρ (.iface t v) (.iface t v')
  | nilIface : VRel ρ .nilIface .nilIface
  | agg {a a' : Array Value} (ha : a.size = a'.size) (ha' : ∀ (i : Nat) (v v' : Value), a[i]? = some v → a'[i]? = some v' → VRel ρ v v') : VRel ρ (.agg a) (.agg a')
  | tuple {a a' : Array Value} (ha : a.size = a'.size) (ha' : ∀ (i : Nat) (v v' : Value), a[i]? = some v → a'[i]? = some v' → VRel ρ v v') : VRel ρ (.tuple a) (.tuple a')

/-- Arrays, place by place. -/
def ARel (ρ : Ren) (a a' : Array Value) : Prop := a.size = a'.size ∧ ∀ (i : Nat) (v v' : Value), a[i]? = some v → a'[i]? = some v' → VRel ρ v v'

theorem PRel.mono {ρ ρ' : Ren} (hl : Ren.le ρ ρ') {a a' : Addr} (h : PRel ρ a a') : PRel ρ' a a' :=
  let ⟨h1, h2, p, h3, h4⟩ := h; ⟨h1, h2, p, hl _ _ h3, h4⟩
theorem SRel.mono {ρ ρ' : Ren} (hl : Ren.le ρ ρ') {a a' : Addr} {c c' : Nat} (h : SRel ρ a c a' c') : SRel ρ' a c a' c' :=
  let ⟨h1, p, h3, h4⟩ := h; ⟨h1, p, hl _ _ h3, h4⟩
theorem ORel.mono {ρ ρ' : Ren} (hl : Ren.le ρ ρ') {r r' : Nat} (h : ORel ρ r r') : ORel ρ' r r' :=
  let ⟨p, h3, h4⟩ := h; ⟨p, hl _ _ h3, h4⟩
theorem FnRel.mono {ρ ρ' : Ren} (hl : Ren.le ρ ρ') {f f' : Fn} (h : FnRel ρ f f') : FnRel ρ' f f' := by
  cases h <;> first | exact .func _ | exact .method _ | exact .methodOf _ _ | exact .via _ _ _ _ | exact .yield (ORel.mono hl ‹_›)
theorem VRel.mono {ρ ρ' : Ren} (hl : Ren.le ρ ρ') {v v' : Value} (h : VRel ρ v v') : VRel ρ' v v' := by
  induction h with
  | bool => exact .bool _
  | int => exact .int _ _
  | float => exact .float _ _
  | complex => exact .complex _ _ _
  | string => exact .string _
  | nilPtr => exact .nilPtr
  | ptr h => exact .ptr (h.mono hl)
  | nilSlice => exact .nilSlice _ _
  | slice h => exact .slice (h.mono hl)
  | nilMap => exact .nilMap
  | map h => exact .map (h.mono hl)
  | nilChan => exact .nilChan
  | chan h => exact .chan (h.mono hl)
  | func h ha _ hc _ ih1 ih2 => exact .func (h.mono hl) ha ih1 hc ih2
  | nilFunc => exact .nilFunc
  | iface _ ih => exact .iface ih
  | nilIface => exact .nilIface
  | agg ha _ ih => exact .agg ha ih
  | tuple ha _ ih => exact .tuple ha ih
theorem ARel.mono {ρ ρ' : Ren} (hl : Ren.le ρ ρ') {a a' : Array Value} (h : ARel ρ a a') : ARel ρ' a a' :=
  ⟨h.1, fun i v v' e e' => (h.2 i v v' e e').mono hl⟩

/-- The same name stands for the same thing: a value has one image. -/
theorem VRel.one {ρ : Ren} {v c : Value} (h : VRel ρ v c) : ∀ {ρ' : Ren} {c' : Value}, Ren.le ρ ρ' → VRel ρ' v c' → c' = c := by
  have arr : ∀ {ρ' : Ren} {a b b' : Array Value}, a.size = b.size → a.size = b'.size →
      (∀ (i : Nat) (v c : Value), a[i]? = some v → b[i]? = some c → ∀ c', b'[i]? = some c' → c' = c) → b' = b := by
    intro ρ' a b b' h1 h2 h3
    apply Array.ext
    · omega
    · intro i hi hi'
      have hia : i < a.size := by omega
      exact h3 i a[i] b[i] (Array.getElem?_eq_getElem hia) (Array.getElem?_eq_getElem hi') b'[i] (Array.getElem?_eq_getElem hi)
  have orel : ∀ {ρ ρ' : Ren} {r s s' : Nat}, Ren.le ρ ρ' → ORel ρ r s → ORel ρ' r s' → s' = s := by
    rintro ρ ρ' r s s' hl ⟨p, h1, h2, _⟩ ⟨p', h1', h2', _⟩
    have := hl _ _ h1
    rw [h1'] at this; cases this; omega
  induction h with
  | @ptr a0 a1 h =>
    intro ρ' c' hl h'
    cases h' with
    | @ptr _ a2 h' =>
      obtain ⟨_, h2, p, h3, h4, h5⟩ := h
      obtain ⟨_, h2', p', h3', h4', h5'⟩ := h'
      have := hl _ _ h3
      rw [h3'] at this; cases this
      obtain ⟨b1, o1, s1⟩ := a1
      obtain ⟨b2, o2, s2⟩ := a2
      simp_all
  | @slice a0 a1 n c c1 h =>
    intro ρ' c' hl h'
    cases h' with
    | @slice _ a2 _ _ c2 h' =>
      obtain ⟨h2, p, h3, h4, h5, h6⟩ := h
      obtain ⟨h2', p', h3', h4', h5', h6'⟩ := h'
      have := hl _ _ h3
      rw [h3'] at this; cases this
      have hc : c2 = c1 := by
        cases hs : a0.spot with
        | none => rw [hs] at h6 h6'; simp only at h6 h6'; omega
        | some s =>
          rw [hs] at h6 h6'; simp only at h6 h6'
          obtain ⟨hp, _, e1⟩ := h6
          obtain ⟨_, _, e2⟩ := h6'
          have : c2 * s = c1 * s := by omega
          exact Nat.eq_of_mul_eq_mul_right hp this
      obtain ⟨b1, o1, s1⟩ := a1
      obtain ⟨b2, o2, s2⟩ := a2
      simp_all
  | map h =>
    intro ρ' c' hl h'
    cases h' with
    | map h' => rw [orel hl h h']
  | chan h =>
    intro ρ' c' hl h'
    cases h' with
    | chan h' => rw [orel hl h h']
  | func h ha _ hc _ ih1 ih2 =>
    intro ρ' c' hl h'
    cases h' with
    | func h' ha' hb' hc' hd' =>
      have e1 := arr (ρ' := ρ') ha ha' (fun i v c e e' c' e'' => ih1 i v c e e' hl (hb' i v c' e e''))
      have e2 := arr (ρ' := ρ') hc hc' (fun i v c e e' c' e'' => ih2 i v c e e' hl (hd' i v c' e e''))
      rw [e1, e2]
      congr 1
      cases h <;> cases h' <;> first | rfl | (rename_i h1 _ h2; rw [orel hl h1 h2])
  | iface _ ih =>
    intro ρ' c' hl h'
    cases h' with
    | iface h' => rw [ih hl h']
  | agg ha _ ih =>
    intro ρ' c' hl h'
    cases h' with
    | agg ha' hb' => rw [arr (ρ' := ρ') ha ha' (fun i v c e e' c' e'' => ih i v c e e' hl (hb' i v c' e e''))]
  | tuple ha _ ih =>
    intro ρ' c' hl h'
    cases h' with
    | tuple ha' hb' => rw [arr (ρ' := ρ') ha ha' (fun i v c e e' c' e'' => ih i v c e e' hl (hb' i v c' e e''))]
  | _ => intro ρ' c' _ h'; cases h'; rfl

/-- No address is in a value (looked at to some depth). -/
def closedV : Nat → Value → Bool
  | 0, _ => false
  | _ + 1, .bool _ | _ + 1, .int _ _ | _ + 1, .float _ _ | _ + 1, .complex _ _ _ | _ + 1, .string _ | _ + 1, .pointer none | _ + 1, .slice none _ _ | _ + 1, .map none | _ + 1, .chan none | _ + 1, .nilFunc | _ + 1, .nilIface => true
  | n + 1, .agg cs => cs.toList.all (closedV n)
  | n + 1, .tuple cs => cs.toList.all (closedV n)
  | n + 1, .iface _ v => closedV n v
  | _ + 1, .func (.func _) a c => a.toList.isEmpty && c.toList.isEmpty
  | _, _ => false

def closed (v : Value) : Bool := closedV 100 v

/-! ### Code whose constants bear no address -/

def okOpd (G : Nat) : Operand → Bool
  | .tmp _ => true
  | .const v => closed v
  | .global g => Nat.blt g G
  | .func _ => true

def noSel : Op → Bool
  | .select .. => false
  | _ => true

def okOp (G : Nat) (o : Op) : Bool := noSel o && o.operands.toList.all (okOpd G)

def okCode (G : Nat) : Code → Bool
  | .region _ ops _ => ops.toList.all fun o => okOp G o.op
  | .seq a b => okCode G a && okCode G b
  | .cond c a b => okOpd G c && okCode G a && okCode G b
  | .block _ c | .loop c | .scope c => okCode G c
  | .rangeFunc f _ a b => okOpd G f && okCode G a && okCode G b
  | _ => true

/-- The names of the package-level variables. -/
def GRel (G : Nat) (ρ : Ren) : Prop := ∀ g, g < G → ∃ c, ρ g = some ⟨g, 0, c⟩

theorem GRel.mono {G : Nat} {ρ ρ' : Ren} (hl : Ren.le ρ ρ') (h : GRel G ρ) : GRel G ρ' := fun g hg => let ⟨c, e⟩ := h g hg; ⟨c, hl _ _ e⟩

def EvRel (G : Nat) (ρ : Ren) (ev ev' : Operand → Value) : Prop := ∀ x, okOpd G x = true → VRel ρ (ev x) (ev' x)

end Go.Abs
