/- Symbolic execution, part 1: symbolic numbers, strings, addresses, values, heaps, and what they denote. -/
import Derived.Test.YtkfoibidnkfndaaGreatDoorAbA20
import Derived.Laws.Strings
set_option linter.unusedSimpArgs false
set_option linter.unusedVariables false
namespace Go.Abs

/-! ### Environments -/

inductive U where
  | i (x : Int)
  | b (x : Bool)
  | s (x : ByteArray)
  | v (x : Value)
  | o (x : Option Addr)
  | n (x : Nat)
  | h (x : Heap)
  | d (x : Nat → Value)

abbrev Env := List U

def getU : Env → Nat → Option U
  | [], _ => none
  | u :: _, 0 => some u
  | _ :: l, n + 1 => getU l n

def Env.i (ρ : Env) (n : Nat) : Int := match getU ρ n with | some (.i x) => x | _ => 0
def Env.b (ρ : Env) (n : Nat) : Bool := match getU ρ n with | some (.b x) => x | _ => false
def Env.s (ρ : Env) (n : Nat) : ByteArray := match getU ρ n with | some (.s x) => x | _ => ⟨#[]⟩
def Env.v (ρ : Env) (n : Nat) : Value := match getU ρ n with | some (.v x) => x | _ => undef
def Env.o (ρ : Env) (n : Nat) : Option Addr := match getU ρ n with | some (.o x) => x | _ => none
def Env.n (ρ : Env) (n : Nat) : Nat := match getU ρ n with | some (.n x) => x | _ => 0
def Env.h (ρ : Env) (n : Nat) : Heap := match getU ρ n with | some (.h x) => x | _ => ⟨0, .leaf, []⟩
def Env.d (ρ : Env) (n : Nat) : Nat → Value := match getU ρ n with | some (.d x) => x | _ => fun _ => undef

theorem getU_append : ∀ (ρ : Env) (xs : Env) (n : Nat), n < ρ.length → getU (ρ ++ xs) n = getU ρ n
  | [], _, n, h => by simp at h
  | u :: l, xs, 0, _ => rfl
  | u :: l, xs, n + 1, h => getU_append l xs n (by simpa using h)

section
variable {ρ xs : Env} {n : Nat}
theorem Env.i_app (h : n < ρ.length) : Env.i (ρ ++ xs) n = Env.i ρ n := by simp only [Env.i, getU_append _ _ _ h]
theorem Env.b_app (h : n < ρ.length) : Env.b (ρ ++ xs) n = Env.b ρ n := by simp only [Env.b, getU_append _ _ _ h]
theorem Env.s_app (h : n < ρ.length) : Env.s (ρ ++ xs) n = Env.s ρ n := by simp only [Env.s, getU_append _ _ _ h]
theorem Env.v_app (h : n < ρ.length) : Env.v (ρ ++ xs) n = Env.v ρ n := by simp only [Env.v, getU_append _ _ _ h]
theorem Env.o_app (h : n < ρ.length) : Env.o (ρ ++ xs) n = Env.o ρ n := by simp only [Env.o, getU_append _ _ _ h]
theorem Env.n_app (h : n < ρ.length) : Env.n (ρ ++ xs) n = Env.n ρ n := by simp only [Env.n, getU_append _ _ _ h]
theorem Env.h_app (h : n < ρ.length) : Env.h (ρ ++ xs) n = Env.h ρ n := by simp only [Env.h, getU_append _ _ _ h]
theorem Env.d_app (h : n < ρ.length) : Env.d (ρ ++ xs) n = Env.d ρ n := by simp only [Env.d, getU_append _ _ _ h]
end

/-! ### Numbers, truth values, strings -/

/-- What the model's operation on two numbers of a kind comes to. -/
def binI (op : BinOp) (k : IntKind) (x y : Int) : Int :=
  match op with
  | .add => k.wrap (x + y)
  | .sub => k.wrap (x - y)
  | .mul => k.wrap (x * y)
  | .quo => k.wrap (x.tdiv y)
  | .rem => x.tmod y
  | .and => k.wrap ((BitVec.ofInt k.bits x &&& BitVec.ofInt k.bits y).toNat : Nat)
  | .or => k.wrap ((BitVec.ofInt k.bits x ||| BitVec.ofInt k.bits y).toNat : Nat)
  | .xor => k.wrap ((BitVec.ofInt k.bits x ^^^ BitVec.ofInt k.bits y).toNat : Nat)
  | .andNot => k.wrap ((BitVec.ofInt k.bits x &&& ~~~ BitVec.ofInt k.bits y).toNat : Nat)
  | .shl => k.wrap (x * 2 ^ (min y.toNat k.bits))
  | .shr => x.fdiv (2 ^ (min y.toNat k.bits))
  | _ => 0

def cmpB (op : BinOp) (x y : Int) : Bool :=
  match op with
  | .eql => decide (x = y)
  | .neq => !decide (x = y)
  | .lss => decide (x < y)
  | .leq => decide (x ≤ y)
  | .gtr => decide (x > y)
  | .geq => decide (x ≥ y)
  | _ => false

def cmpP (op : BinOp) (x y : Int) : Prop :=
  match op with
  | .eql => x = y
  | .neq => ¬ x = y
  | .lss => x < y
  | .leq => x ≤ y
  | .gtr => x > y
  | .geq => x ≥ y
  | _ => False

theorem cmpB_iff (op : BinOp) (x y : Int) : cmpB op x y = true ↔ cmpP op x y := by
  cases op <;> simp [cmpB, cmpP]

/-- Is a number of this kind? -/
def InK (k : IntKind) (x : Int) : Prop := k.min ≤ x ∧ x ≤ k.max
def inKB (k : IntKind) (x : Int) : Bool := decide (k.min ≤ x) && decide (x ≤ k.max)
theorem inKB_iff (k : IntKind) (x : Int) : inKB k x = true ↔ InK k x := by simp [inKB, InK]

theorem wrap_in {k : IntKind} {x : Int} (h : InK k x) : k.wrap x = x := by
  obtain ⟨h1, h2⟩ := h
  cases k <;> simp only [IntKind.min, IntKind.max, IntKind.wrap, IntKind.signed, IntKind.bits] at * <;> simp at * <;> omega

def seqB (x y : ByteArray) : Bool := x.toList == y.toList
def sltB (x y : ByteArray) : Bool := Op.bytesLess x.toList y.toList

def scmpB (op : BinOp) (x y : ByteArray) : Bool :=
  match op with
  | .eql => seqB x y
  | .neq => !seqB x y
  | .lss => sltB x y
  | .leq => sltB x y || seqB x y
  | .gtr => !(sltB x y || seqB x y)
  | .geq => !sltB x y
  | _ => false

theorem seqB_iff (x y : ByteArray) : seqB x y = true ↔ x = y := by
  simp only [seqB, ByteArray.toList_eq, beq_iff_eq]
  constructor
  · intro h
    cases x; cases y
    simp_all
  · rintro rfl; rfl

def scmpP (op : BinOp) (x y : ByteArray) : Prop :=
  match op with
  | .eql => x = y
  | .neq => ¬ x = y
  | _ => scmpB op x y = true

theorem scmpB_iff (op : BinOp) (x y : ByteArray) : scmpB op x y = true ↔ scmpP op x y := by
  cases op <;> simp [scmpP] <;> simp [scmpB, seqB_iff, ← seqB_iff]

inductive E where
  | lit (z : Int)
  | iv (n : Nat)
  | nv (n : Nat)
  | add (a b : E)
  | sub (a b : E)
  | mul (a b : E)
  | quo (a b : E)
  | bin (op : BinOp) (k : IntKind) (a b : E)
  | wrap (k : IntKind) (a : E)
  | min (a b : E)
  | max (a b : E)
  | slen (s : E)
  | sat (s i : E)
  | str (s : ByteArray)
  | sv (n : Nat)
  | cat (a b : E)
  | ext (s lo hi : E)
  | tt (b : Bool)
  | bv (n : Nat)
  | cmp (op : BinOp) (a b : E)
  | scmp (op : BinOp) (a b : E)
  | not (a : E)
  | and (a b : E)
  | or (a b : E)
  | beq (a b : E)
  | inK (k : IntKind) (a : E)
  | nat (a : E)
  | onil (n : Nat)

def byteAt (s : ByteArray) (i : Int) : Int := ((s.data.toList.getD i.toNat 0).toNat : Nat)

/-- A number and a string. -/
def E.den (ρ : Env) : E → Int × ByteArray
  | .lit z => (z, ⟨#[]⟩)
  | .iv n => (Env.i ρ n, ⟨#[]⟩)
  | .nv n => ((Env.n ρ n : Nat), ⟨#[]⟩)
  | .add a b => ((a.den ρ).1 + (b.den ρ).1, ⟨#[]⟩)
  | .sub a b => ((a.den ρ).1 - (b.den ρ).1, ⟨#[]⟩)
  | .mul a b => ((a.den ρ).1 * (b.den ρ).1, ⟨#[]⟩)
  | .quo a b => ((a.den ρ).1.tdiv (b.den ρ).1, ⟨#[]⟩)
  | .bin op k a b => (binI op k (a.den ρ).1 (b.den ρ).1, ⟨#[]⟩)
  | .wrap k a => (k.wrap (a.den ρ).1, ⟨#[]⟩)
  | .min a b => (Min.min (a.den ρ).1 (b.den ρ).1, ⟨#[]⟩)
  | .max a b => (Max.max (a.den ρ).1 (b.den ρ).1, ⟨#[]⟩)
  | .slen s => (((s.den ρ).2.size : Nat), ⟨#[]⟩)
  | .nat a => (((a.den ρ).1.toNat : Nat), ⟨#[]⟩)
  | .sat s i => (byteAt (s.den ρ).2 (i.den ρ).1, ⟨#[]⟩)
  | .str s => (0, s)
  | .sv n => (0, Env.s ρ n)
  | .cat a b => (0, (a.den ρ).2 ++ (b.den ρ).2)
  | .ext s lo hi => (0, (s.den ρ).2.extract (lo.den ρ).1.toNat (hi.den ρ).1.toNat)
  | _ => (0, ⟨#[]⟩)

def E.i (ρ : Env) (e : E) : Int := (e.den ρ).1
def E.s (ρ : Env) (e : E) : ByteArray := (e.den ρ).2
def E.t (ρ : Env) (e : E) : Nat := (e.i ρ).toNat

def E.b (ρ : Env) : E → Bool
  | .tt b => b
  | .bv n => Env.b ρ n
  | .cmp op a b => cmpB op (a.i ρ) (b.i ρ)
  | .scmp op a b => scmpB op (a.s ρ) (b.s ρ)
  | .not a => !(a.b ρ)
  | .and a b => a.b ρ && b.b ρ
  | .or a b => a.b ρ || b.b ρ
  | .beq a b => a.b ρ == b.b ρ
  | .inK k a => inKB k (a.i ρ)
  | .onil n => (Env.o ρ n).isNone
  | _ => false

def E.p (ρ : Env) : E → Prop
  | .tt b => b = true
  | .bv n => Env.b ρ n = true
  | .cmp op a b => cmpP op (a.i ρ) (b.i ρ)
  | .scmp op a b => scmpP op (a.s ρ) (b.s ρ)
  | .not a => ¬ a.p ρ
  | .and a b => a.p ρ ∧ b.p ρ
  | .or a b => a.p ρ ∨ b.p ρ
  | .beq a b => (a.p ρ ↔ b.p ρ)
  | .inK k a => InK k (a.i ρ)
  | .onil n => Env.o ρ n = none
  | _ => False

theorem E.p_iff (ρ : Env) (e : E) : e.b ρ = true ↔ e.p ρ := by
  induction e with
  | cmp op a b => exact cmpB_iff op _ _
  | scmp op a b => exact scmpB_iff op _ _
  | not a ih => simp only [E.b, E.p, ← ih]; cases a.b ρ <;> simp
  | and a b ih1 ih2 => simp only [E.b, E.p, ← ih1, ← ih2, Bool.and_eq_true]
  | or a b ih1 ih2 => simp only [E.b, E.p, ← ih1, ← ih2, Bool.or_eq_true]
  | beq a b ih1 ih2 => simp only [E.b, E.p, ← ih1, ← ih2]; cases a.b ρ <;> cases b.b ρ <;> simp
  | inK k a => exact inKB_iff k _
  | onil n => simp [E.b, E.p]
  | _ => simp [E.b, E.p]

theorem E.not_p (ρ : Env) (e : E) : e.b ρ = false ↔ ¬ e.p ρ := by rw [← E.p_iff]; cases e.b ρ <;> simp

/-- Do the variables lie below n? -/
def E.ok (n : Nat) : E → Bool
  | .iv m | .nv m | .sv m | .bv m | .onil m => Nat.blt m n
  | .add a b | .sub a b | .mul a b | .quo a b | .bin _ _ a b | .min a b | .max a b | .sat a b | .cat a b | .cmp _ a b | .scmp _ a b | .and a b | .or a b | .beq a b => a.ok n && b.ok n
  | .wrap _ a | .slen a | .not a | .inK _ a | .nat a => a.ok n
  | .ext a b c => a.ok n && (b.ok n && c.ok n)
  | .lit _ | .str _ | .tt _ => true

theorem blt_lt {a b : Nat} (h : Nat.blt a b = true) : a < b := by simpa [Nat.blt, Nat.lt_iff_add_one_le] using h

theorem E.den_app {ρ xs : Env} {e : E} (h : e.ok ρ.length = true) : e.den (ρ ++ xs) = e.den ρ := by
  induction e <;> simp only [E.ok, Bool.and_eq_true] at h <;> first
    | rfl
    | (simp only [E.den, Env.i_app (blt_lt h), Env.n_app (blt_lt h), Env.s_app (blt_lt h)]; done)
    | (simp_all only [E.den, and_self, forall_const]; done)
    | (simp_all [E.den]; done)

theorem E.i_app {ρ xs : Env} {e : E} (h : e.ok ρ.length = true) : e.i (ρ ++ xs) = e.i ρ := by unfold E.i; rw [E.den_app h]
theorem E.s_app {ρ xs : Env} {e : E} (h : e.ok ρ.length = true) : e.s (ρ ++ xs) = e.s ρ := by unfold E.s; rw [E.den_app h]
theorem E.t_app {ρ xs : Env} {e : E} (h : e.ok ρ.length = true) : e.t (ρ ++ xs) = e.t ρ := by unfold E.t; rw [E.i_app h]

theorem E.b_app {ρ xs : Env} {e : E} (h : e.ok ρ.length = true) : e.b (ρ ++ xs) = e.b ρ := by
  induction e <;> simp only [E.ok, Bool.and_eq_true] at h <;> first
    | rfl
    | (simp only [E.b, Env.b_app (blt_lt h)]; done)
    | (simp only [E.b, Env.o_app (blt_lt h)]; done)
    | (simp_all only [E.b, and_self, forall_const]; done)
    | (simp only [E.b, E.i_app h.1, E.i_app h.2]; done)
    | (simp only [E.b, E.s_app h.1, E.s_app h.2]; done)
    | (simp only [E.b, E.i_app h]; done)

/-- Are they the same? -/
def listSame : List UInt8 → List UInt8 → Bool
  | [], [] => true
  | a :: x, b :: y => Nat.beq a.toNat b.toNat && listSame x y
  | _, _ => false

theorem listSame_eq : ∀ {x y : List UInt8}, listSame x y = true → x = y
  | [], [], _ => rfl
  | a :: x, b :: y, h => by
    simp only [listSame, Bool.and_eq_true] at h
    rw [listSame_eq h.2, UInt8.toNat_inj.1 (Nat.eq_of_beq_eq_true h.1)]
  | [], _ :: _, h => by simp [listSame] at h
  | _ :: _, [], h => by simp [listSame] at h

def byteSame (x y : ByteArray) : Bool := listSame x.data.toList y.data.toList
theorem byteSame_eq {x y : ByteArray} (h : byteSame x y = true) : x = y := by
  have := listSame_eq h
  cases x; cases y; simp_all

def intSame (x y : Int) : Bool := decide (x = y)
theorem intSame_eq {x y : Int} (h : intSame x y = true) : x = y := of_decide_eq_true h

def opSame (x y : BinOp) : Bool := decide (x = y)
theorem opSame_eq {x y : BinOp} (h : opSame x y = true) : x = y := of_decide_eq_true h
def kindSame (x y : IntKind) : Bool := decide (x = y)
theorem kindSame_eq {x y : IntKind} (h : kindSame x y = true) : x = y := of_decide_eq_true h
def boolSame : Bool → Bool → Bool
  | true, true | false, false => true
  | _, _ => false
theorem boolSame_eq {x y : Bool} (h : boolSame x y = true) : x = y := by cases x <;> cases y <;> simp [boolSame] at h <;> rfl

def E.same : E → E → Bool
  | .lit z, .lit z' => intSame z z'
  | .iv n, .iv m | .nv n, .nv m | .sv n, .sv m | .bv n, .bv m | .onil n, .onil m => Nat.beq n m
  | .add a b, .add c d | .sub a b, .sub c d | .mul a b, .mul c d | .quo a b, .quo c d | .min a b, .min c d | .max a b, .max c d | .sat a b, .sat c d | .cat a b, .cat c d | .and a b, .and c d | .or a b, .or c d | .beq a b, .beq c d => a.same c && b.same d
  | .bin op k a b, .bin op' k' c d => opSame op op' && (kindSame k k' && (a.same c && b.same d))
  | .cmp op a b, .cmp op' c d | .scmp op a b, .scmp op' c d => opSame op op' && (a.same c && b.same d)
  | .wrap k a, .wrap k' c | .inK k a, .inK k' c => kindSame k k' && a.same c
  | .slen a, .slen b | .not a, .not b | .nat a, .nat b => a.same b
  | .ext a b c, .ext a' b' c' => a.same a' && (b.same b' && c.same c')
  | .str s, .str s' => byteSame s s'
  | .tt b, .tt b' => boolSame b b'
  | _, _ => false

theorem E.same_eq : ∀ {a b : E}, a.same b = true → a = b := by
  intro a
  induction a <;> intro b h <;> cases b <;> simp only [E.same, Bool.and_eq_true, reduceCtorEq] at h <;> first
    | (rw [intSame_eq h])
    | (rw [Nat.eq_of_beq_eq_true h])
    | (rw [byteSame_eq h])
    | (rw [boolSame_eq h])
    | (rename_i ih1 ih2 _ _; rw [ih1 h.1, ih2 h.2])
    | (rename_i ih1 ih2 _ _ _ _; rw [opSame_eq h.1, kindSame_eq h.2.1, ih1 h.2.2.1, ih2 h.2.2.2])
    | (rename_i ih1 ih2 _ _ _; rw [opSame_eq h.1, ih1 h.2.1, ih2 h.2.2])
    | (rename_i ih1 _ _; rw [kindSame_eq h.1, ih1 h.2])
    | (rename_i ih1 _; rw [ih1 h])
    | (rename_i ih1 ih2 ih3 _ _ _; rw [ih1 h.1, ih2 h.2.1, ih3 h.2.2])

/-! ### Names of blocks, addresses -/

inductive BN where
  | nv (n : Nat)
  | nx (hb k : Nat)

def BN.den (ρ : Env) : BN → Nat
  | .nv n => Env.n ρ n
  | .nx hb k => (Env.h ρ hb).next + k

def BN.ok (n : Nat) : BN → Bool
  | .nv m => Nat.blt m n
  | .nx m _ => Nat.blt m n

def BN.same : BN → BN → Bool
  | .nv a, .nv b => Nat.beq a b
  | .nx a k, .nx b j => Nat.beq a b && Nat.beq k j
  | _, _ => false

theorem BN.same_eq {a b : BN} (h : a.same b = true) : a = b := by
  cases a <;> cases b <;> simp only [BN.same, Bool.and_eq_true, reduceCtorEq] at h
  · rw [Nat.eq_of_beq_eq_true h]
  · rw [Nat.eq_of_beq_eq_true h.1, Nat.eq_of_beq_eq_true h.2]

/-- Surely two names. -/
def BN.apart : BN → BN → Bool
  | .nx a k, .nx b j => Nat.beq a b && !Nat.beq k j
  | _, _ => false

theorem BN.apart_ne {a b : BN} (h : a.apart b = true) (ρ : Env) : a.den ρ ≠ b.den ρ := by
  cases a <;> cases b <;> simp only [BN.apart, Bool.and_eq_true, Bool.not_eq_true', reduceCtorEq] at h
  rename_i a k b j
  have h1 := Nat.eq_of_beq_eq_true h.1
  have h2 := Nat.ne_of_beq_eq_false h.2
  subst h1
  simp only [BN.den]
  omega

theorem BN.den_app {ρ xs : Env} {b : BN} (h : b.ok ρ.length = true) : b.den (ρ ++ xs) = b.den ρ := by
  cases b <;> simp only [BN.ok] at h
  · simp only [BN.den, Env.n_app (blt_lt h)]
  · simp only [BN.den, Env.h_app (blt_lt h)]

/-- The place of cells of an element: the base's own spot is gone. -/
def plainA (a : Addr) : Addr := { a with spot := none }
/-- A slice's base behind low. -/
def cutA (lo cp size : Nat) (a : Addr) : Addr := bif Nat.beq cp lo then plainA a else (plainA a).add (lo * size)

/-- Some cells on. -/
def addTo (k : Nat) (a : Addr) : Addr := a.add k
def spotA (s : Nat) (a : Addr) : Addr := { a with spot := some s }
/-- The place of an element. -/
def elt (a : Option Addr) (k : Nat) : Option Addr := (a.map plainA).map (addTo k)

inductive AE where
  | nil
  | ov (n : Nat)
  | blk (b : BN) (off : E)
  | glob (g : Nat)
  | add (a : AE) (k : E)
  | plain (a : AE)
  | spot (a : AE) (s : Nat)
  | cut (a : AE) (lo cp : E) (size : Nat)

def AE.den (ρ : Env) : AE → Option Addr
  | .nil => none
  | .ov n => Env.o ρ n
  | .blk b off => some ⟨b.den ρ, off.t ρ, none⟩
  | .glob g => some ⟨g, 0, none⟩
  | .add a k => (a.den ρ).map (addTo (k.t ρ))
  | .plain a => (a.den ρ).map plainA
  | .spot a s => (a.den ρ).map (spotA s)
  | .cut a lo cp size => (a.den ρ).map (cutA (lo.t ρ) (cp.t ρ) size)

def AE.ok (n : Nat) : AE → Bool
  | .nil | .glob _ => true
  | .ov m => Nat.blt m n
  | .blk b off => b.ok n && off.ok n
  | .add a k => a.ok n && k.ok n
  | .plain a => a.ok n
  | .spot a _ => a.ok n
  | .cut a lo cp _ => a.ok n && (lo.ok n && cp.ok n)

theorem AE.den_app {ρ xs : Env} {a : AE} (h : a.ok ρ.length = true) : a.den (ρ ++ xs) = a.den ρ := by
  induction a <;> simp only [AE.ok, Bool.and_eq_true] at h <;> first
    | rfl
    | (simp only [AE.den, Env.o_app (blt_lt h)]; done)
    | (simp only [AE.den, BN.den_app h.1, E.t_app h.2]; done)
    | (rename_i ih; simp only [AE.den, ih h.1, E.t_app h.2]; done)
    | (rename_i ih; simp only [AE.den, ih h]; done)
    | (rename_i ih; simp only [AE.den, ih h.1, E.t_app h.2.1, E.t_app h.2.2]; done)

def AE.same : AE → AE → Bool
  | .nil, .nil => true
  | .ov n, .ov m => Nat.beq n m
  | .glob n, .glob m => Nat.beq n m
  | .blk b o, .blk b' o' => b.same b' && o.same o'
  | .add a k, .add b j => a.same b && k.same j
  | .plain a, .plain b => a.same b
  | .spot a s, .spot b t => a.same b && Nat.beq s t
  | .cut a l c s, .cut a' l' c' s' => a.same a' && (l.same l' && (c.same c' && Nat.beq s s'))
  | _, _ => false

theorem AE.same_eq : ∀ {a b : AE}, a.same b = true → a = b := by
  intro a
  induction a <;> intro b h <;> cases b <;> simp only [AE.same, Bool.and_eq_true, reduceCtorEq] at h <;> first
    | rfl
    | (rw [Nat.eq_of_beq_eq_true h]; done)
    | (rw [BN.same_eq h.1, E.same_eq h.2]; done)
    | (rename_i ih _ _; rw [ih h.1, E.same_eq h.2]; done)
    | (rename_i ih _; rw [ih h]; done)
    | (rename_i ih _ _; rw [ih h.1, Nat.eq_of_beq_eq_true h.2]; done)
    | (rename_i ih _ _ _ _; rw [ih h.1, E.same_eq h.2.1, E.same_eq h.2.2.1, Nat.eq_of_beq_eq_true h.2.2.2]; done)

/-! ### Values -/

inductive SV where
  | bool (e : E)
  | int (k : IntKind) (e : E)
  | str (e : E)
  | ptr (a : AE)
  | slice (a : AE) (n c : E)
  | agg (l : SV)
  | tuple (l : SV)
  | func (f : FuncId) (first caught : SV)
  | yield (b : BN)
  | iface (t : TypeId) (v : SV)
  | map (b : BN)
  | nilMap
  | nilFunc
  | nilIface
  | con (v : Value)
  | vv (n : Nat)
  | dd (n k : Nat)
  | nil
  | cons (v l : SV)

def SV.dn (ρ : Env) : SV → Value × List Value
  | .bool e => (.bool (e.b ρ), [])
  | .int k e => (.int k (e.i ρ), [])
  | .str e => (.string (e.s ρ), [])
  | .ptr a => (.pointer (a.den ρ), [])
  | .slice a n c => (.slice (a.den ρ) (n.t ρ) (c.t ρ), [])
  | .agg l => (.agg (l.dn ρ).2.toArray, [])
  | .tuple l => (.tuple (l.dn ρ).2.toArray, [])
  | .func f a c => (.func (.func f) (a.dn ρ).2.toArray (c.dn ρ).2.toArray, [])
  | .yield b => (.func (.yield (b.den ρ)) #[] #[], [])
  | .iface t v => (.iface t (v.dn ρ).1, [])
  | .map b => (.map (some (b.den ρ)), [])
  | .nilMap => (.map none, [])
  | .nilFunc => (.nilFunc, [])
  | .nilIface => (.nilIface, [])
  | .con v => (v, [])
  | .vv n => (Env.v ρ n, [])
  | .dd n k => (Env.d ρ n k, [])
  | .nil => (undef, [])
  | .cons v l => (undef, (v.dn ρ).1 :: (l.dn ρ).2)

def SV.den (ρ : Env) (v : SV) : Value := (v.dn ρ).1
def SV.denL (ρ : Env) (v : SV) : List Value := (v.dn ρ).2

def SV.undef : SV := .tuple .nil
theorem SV.undef_den (ρ : Env) : SV.undef.den ρ = Go.undef := rfl

def SV.ofL : List SV → SV
  | [] => .nil
  | v :: l => .cons v (SV.ofL l)
def SV.toL : SV → List SV
  | .cons v l => v :: l.toL
  | _ => []

theorem SV.ofL_den (ρ : Env) : ∀ l : List SV, (SV.ofL l).denL ρ = l.map (SV.den ρ)
  | [] => rfl
  | v :: l => by simp only [SV.ofL, List.map_cons, ← SV.ofL_den ρ l]; rfl
theorem SV.toL_den (ρ : Env) (v : SV) : v.denL ρ = v.toL.map (SV.den ρ) := by
  induction v with
  | cons v l _ ih => simp only [SV.toL, List.map_cons, ← ih]; rfl
  | _ => rfl

def SV.ok (n : Nat) : SV → Bool
  | .bool e | .int _ e | .str e => e.ok n
  | .ptr a => a.ok n
  | .slice a m c => a.ok n && (m.ok n && c.ok n)
  | .agg l | .tuple l => l.ok n
  | .func _ a c => a.ok n && c.ok n
  | .yield b | .map b => b.ok n
  | .iface _ v => v.ok n
  | .vv m | .dd m _ => Nat.blt m n
  | .cons v l => v.ok n && l.ok n
  | _ => true

theorem SV.dn_app {ρ xs : Env} {v : SV} (h : v.ok ρ.length = true) : v.dn (ρ ++ xs) = v.dn ρ := by
  induction v <;> simp only [SV.ok, Bool.and_eq_true] at h <;> first
    | rfl
    | (simp only [SV.dn, E.b_app h]; done)
    | (simp only [SV.dn, E.i_app h]; done)
    | (simp only [SV.dn, E.s_app h]; done)
    | (simp only [SV.dn, AE.den_app h]; done)
    | (simp only [SV.dn, AE.den_app h.1, E.t_app h.2.1, E.t_app h.2.2]; done)
    | (simp only [SV.dn, BN.den_app h]; done)
    | (simp only [SV.dn, Env.v_app (blt_lt h)]; done)
    | (simp only [SV.dn, Env.d_app (blt_lt h)]; done)
    | (rename_i ih; simp only [SV.dn, ih h]; done)
    | (rename_i ih1 ih2; simp only [SV.dn, ih1 h.1, ih2 h.2]; done)

theorem SV.den_app {ρ xs : Env} {v : SV} (h : v.ok ρ.length = true) : v.den (ρ ++ xs) = v.den ρ := by unfold SV.den; rw [SV.dn_app h]
theorem SV.denL_app {ρ xs : Env} {v : SV} (h : v.ok ρ.length = true) : v.denL (ρ ++ xs) = v.denL ρ := by unfold SV.denL; rw [SV.dn_app h]

def conSame : Value → Value → Bool
  | .float k b, .float k' b' => decide (k = k') && Nat.beq b b'
  | .chan none, .chan none => true
  | _, _ => false
theorem conSame_eq {v w : Value} (h : conSame v w = true) : v = w := by
  unfold conSame at h
  split at h
  · simp only [Bool.and_eq_true, decide_eq_true_eq] at h
    rw [h.1, Nat.eq_of_beq_eq_true h.2]
  · rfl
  · cases h

def SV.same : SV → SV → Bool
  | .bool a, .bool b | .str a, .str b => a.same b
  | .int k a, .int j b => kindSame k j && a.same b
  | .ptr a, .ptr b => a.same b
  | .slice a n c, .slice a' n' c' => a.same a' && (n.same n' && c.same c')
  | .agg l, .agg m | .tuple l, .tuple m => l.same m
  | .func f a c, .func g b d => Nat.beq f g && (a.same b && c.same d)
  | .yield a, .yield b | .map a, .map b => a.same b
  | .iface t v, .iface u w => Nat.beq t u && v.same w
  | .nilMap, .nilMap | .nilFunc, .nilFunc | .nilIface, .nilIface | .nil, .nil => true
  | .con v, .con w => conSame v w
  | .vv n, .vv m => Nat.beq n m
  | .dd n k, .dd m j => Nat.beq n m && Nat.beq k j
  | .cons a b, .cons c d => a.same c && b.same d
  | _, _ => false

theorem SV.same_eq : ∀ {a b : SV}, a.same b = true → a = b := by
  intro a
  induction a <;> intro b h <;> cases b <;> simp only [SV.same, Bool.and_eq_true, reduceCtorEq] at h <;> first
    | rfl
    | (rw [E.same_eq h]; done)
    | (rw [kindSame_eq h.1, E.same_eq h.2]; done)
    | (rw [AE.same_eq h]; done)
    | (rw [AE.same_eq h.1, E.same_eq h.2.1, E.same_eq h.2.2]; done)
    | (rw [BN.same_eq h]; done)
    | (rw [conSame_eq h]; done)
    | (rw [Nat.eq_of_beq_eq_true h]; done)
    | (rw [Nat.eq_of_beq_eq_true h.1, Nat.eq_of_beq_eq_true h.2]; done)
    | (rename_i ih _; rw [ih h]; done)
    | (rename_i ih _ _; rw [Nat.eq_of_beq_eq_true h.1, ih h.2]; done)
    | (rename_i ih1 ih2 _ _; rw [ih1 h.1, ih2 h.2]; done)
    | (rename_i ih1 ih2 _ _ _; rw [Nat.eq_of_beq_eq_true h.1, ih1 h.2.1, ih2 h.2.2]; done)

end Go.Abs
