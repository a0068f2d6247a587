/- Symbolic execution, part 3: the tree of what remains to be shown; the executor. -/
import Derived.Test.YtkfoibidnkfndaaGreatDoorAbS2
set_option linter.unusedSimpArgs false
set_option linter.unusedVariables false
namespace Go.Abs

/-! ### Steps that are left to the reader -/

inductive Prim where
  | appendTo (size bytes : Nat) (e : TypeId) (n : Nat)
  | append (t : TypeId) (u : Option TypeId)
  | lookup (t : TypeId) (ok : Bool)
  | mapUpdate (t : TypeId)
  | mapEntry (t : TypeId)
  | entryStore
  | delete (t : TypeId)
  | range (t : TypeId)
  | next (s : Bool)
  | entry
  | makeSlice (t : TypeId)
  | makeMap
  | copy (t : TypeId)
  | clear (t : TypeId)
  | len (t : TypeId)
  | cap (t : TypeId)
  | convert (s d : TypeId)
  | load (t : TypeId)
  | store (t : TypeId)
  | typeAssert (t : TypeId) (ok : Bool)
  | ext (x : Ext)

def Prim.den (P : Program) (p : Prim) (args : List Value) (h : Heap) (Q : Value → Heap → Prop) : Prop :=
  match p, args with
  | .appendTo size bytes e n, .slice base l c :: cs => aAppendTo P base l c size bytes e n cs h Q
  | .append t u, args => aAppend P (match u with | some u => #[t, u] | none => #[t]) args h Q
  | .lookup t ok, [m, k] => aSem P (lookupS P t m k ok) h Q
  | .mapUpdate t, [m, k, v] => aSem P (mapUpdateS P t m k v) h fun _ h' => Q undef h'
  | .mapEntry t, [m, k] => aSem P (mapEntryS P t m k) h Q
  | .entryStore, [m, s, v] => aSem P (entryStoreS m s v) h fun _ h' => Q undef h'
  | .delete t, [m, k] => aSem P (deleteS P (some t) (some m) (some k)) h Q
  | .range t, [x] => aSem P (rangeS P t x) h Q
  | .next s, [it] => aNext P it s h Q
  | .entry, [it] => aSem P (entryS it) h Q
  | .makeSlice t, [l, c] => aSem P (makeSliceS P t l c) h Q
  | .makeMap, [] => Q (.map (some h.next)) (h.alloc (.map #[] 0))
  | .copy t, [d, s] => aSem P (copyS P (some t) (some d) (some s)) h Q
  | .clear t, [x] => aSem P (clearS P (some t) (some x)) h Q
  | .len t, [x] => aSem P (lenS P (some t) (some x)) h Q
  | .cap t, [x] => aVal (capV P (some t) (some x)) h Q
  | .convert s d, [x] => aConvert P s d x h Q
  | .load t, [x] => (match addrOf x with | some a => aSem P (loadS P t a) h Q | none => False)
  | .store t, [x, v] => (match addrOf x with | some a => aSem P (storeS P t a v) h fun _ h' => Q undef h' | none => False)
  | .typeAssert t ok, [x] => aSem P (typeAssertS P x t ok) h Q
  | .ext x, args => aSem P (x.sem args) h Q
  | _, _ => False

/-! ### Questions that have one answer -/

/-- n cells, as a list. -/
def cellsV (h : Heap) (a : Addr) : Nat → Nat → Option (List Value)
  | 0, _ => some []
  | n + 1, i => (h.cell? (a.add i)).bind fun v => (cellsV h a n (i + 1)).map fun l => v :: l

def ldCells (h : Heap) (a : Option Addr) (n : Nat) : Option Value := a.bind fun x => (cellsV h x n 0).map fun l => .agg l.toArray

def binW (P : Program) (op : BinOp) (t : TypeId) (x y : Operand) (a b : Value) : Option Value :=
  bif closed a && closed b then
    ifScalar (pureRun P (do eqGuard op t x y a b; Go.binOp op t a b))
  else match op with
    | .eql => (eqV P t a b).map fun b => .bool b
    | .neq => (eqV P t a b).map fun b => .bool !b
    | _ => none

def extV (v : Value) (i : Nat) : Option Value :=
  match v with
  | .tuple vs => vs[i]?
  | _ => none

def sliceW (P : Program) (t : TypeId) (x : Value) (lo hi mx : Option Value) : Option Value :=
  match sliceV P t x lo hi mx with
  | some (v, none) => some v
  | _ => none

inductive Qy where
  | cell (hb : Nat) (a : AE)
  | cells (hb : Nat) (a : AE) (n : Nat)
  | bin (op : BinOp) (t : TypeId) (x y : Operand) (a b : SV)
  | ext (v : SV) (i : Nat)
  | nilc (v : SV)
  | slice (t : TypeId) (x : SV) (lo hi mx : Option SV)
  | field (t : TypeId) (x : SV) (f : Nat)
  | index (t : TypeId) (x i : SV)
  | indexAddr (t : TypeId) (x i : SV)
  | fieldAddr (t : TypeId) (x : SV) (f : Nat)

def Qy.den (P : Program) (ρ : Env) : Qy → Option Value
  | .cell hb a => (a.den ρ).bind (Env.h ρ hb).cell?
  | .cells hb a n => ldCells (Env.h ρ hb) (a.den ρ) n
  | .bin op t x y a b => binW P op t x y (a.den ρ) (b.den ρ)
  | .ext v i => extV (v.den ρ) i
  | .nilc v => nilCheckV (v.den ρ)
  | .slice t x lo hi mx => sliceW P t (x.den ρ) (lo.map (SV.den ρ)) (hi.map (SV.den ρ)) (mx.map (SV.den ρ))
  | .field t x f => fieldV P t (x.den ρ) f
  | .index t x i => indexV P t (x.den ρ) (i.den ρ)
  | .indexAddr t x i => indexAddrV P t (x.den ρ) (i.den ρ)
  | .fieldAddr t x f => fieldAddrV P t (x.den ρ) f

/-! ### The tree -/

inductive Tree where
  | ret (v : SV) (h : SH)
  | back (n0 : Nat) (xs : List SU)
  | fail (m : String)
  | grd (e : E) (t : Tree)
  | br (e : E) (t f : Tree)
  | both (t f : Tree)
  | isS (a : AE) (t : Tree)
  | nes (b : BN) (l : List BN) (t : Tree)
  | nea (a : AE) (l : List BN) (t : Tree)
  | unp (a : AE) (k : Nat) (p : PE) (t : Tree)
  | unpB (b : BN) (p : PE) (t : Tree)
  | one (v : SV) (t : Tree)
  | ex (q : Qy) (ss : List Srt) (pat : SV) (t : Tree)
  | prim (p : Prim) (args : SV) (h : SH) (ss : List Srt) (pat : SV) (keep : List (BN × SObj)) (t : Tree)
  | call (f : FuncId) (args : SV) (h : SH) (ss : List Srt) (pat : SV) (keep : List (BN × SObj)) (t : Tree)
  | loop (f : FuncId) (p : List Nat) (n0 : Nat) (ss : List Srt) (xs : List SU) (t : Tree)

def neAll (b : Nat) : List Nat → Prop → Prop
  | [], Q => Q
  | c :: l, Q => b ≠ c ∧ neAll b l Q

def neaAll (a : Option Addr) : List Nat → Prop → Prop
  | [], Q => Q
  | c :: l, Q => (∀ x, a = some x → x.block ≠ c) ∧ neaAll a l Q

def unpAll (a : Option Addr) (p : List Addr) (k : Nat) : Prop :=
  ∀ x, a = some x → ∀ i, i < k → pinned (x.add i) p = false

def keepAll (P : Program) (ρ : Env) (hb : Nat) : List (BN × SObj) → Prop → Prop
  | [], Q => Q
  | x :: l, Q => (Env.h ρ hb).get (x.1.den ρ) = some (x.2.den P ρ) ∧ keepAll P ρ hb l Q

def upd (tc : TC) (n0 : Nat) (p : List U → Prop) : TC := fun k => bif Nat.beq k n0 then p else tc k

section
variable (P : Program) (X : Exts) (T : Lvl) (R : Value → Heap → Prop)

def Tree.den (tc : TC) (ρ : Env) : Tree → Prop
  | .ret v h => R (v.den ρ) (h.den P ρ)
  | .back n0 xs => tc n0 (xs.map (SU.den P ρ))
  | .fail _ => False
  | .grd e t => e.p ρ ∧ t.den tc ρ
  | .br e t f => (e.p ρ → t.den tc ρ) ∧ (¬ e.p ρ → f.den tc ρ)
  | .both t f => t.den tc ρ ∧ f.den tc ρ
  | .isS a t => (a.den ρ).isSome = true ∧ t.den tc ρ
  | .nes b l t => neAll (b.den ρ) (l.map (BN.den ρ)) (t.den tc ρ)
  | .nea a l t => neaAll (a.den ρ) (l.map (BN.den ρ)) (t.den tc ρ)
  | .unp a k p t => unpAll (a.den ρ) (p.den ρ) k ∧ t.den tc ρ
  | .unpB b p t => pinnedBlock (b.den ρ) (p.den ρ) = false ∧ t.den tc ρ
  | .one v t => oneCell (v.den ρ) = true ∧ t.den tc ρ
  | .ex q ss pat t => exT ss fun xs => q.den P ρ = some (pat.den (ρ ++ xs)) ∧ t.den tc (ρ ++ xs)
  | .prim p args h ss pat keep t => p.den P (args.denL ρ) (h.den P ρ) fun v h' => exT ss fun xs => v = pat.den (ρ ++ xs ++ [.h h']) ∧ keepAll P (ρ ++ xs ++ [.h h']) (ρ.length + xs.length) keep (t.den tc (ρ ++ xs ++ [.h h']))
  | .call f args h ss pat keep t => T.call f (args.denL ρ).toArray (h.den P ρ) fun v h' => exT ss fun xs => v = pat.den (ρ ++ xs ++ [.h h']) ∧ keepAll P (ρ ++ xs ++ [.h h']) (ρ.length + xs.length) keep (t.den tc (ρ ++ xs ++ [.h h']))
  | .loop _ _ n0 ss xs t => ∃ I : Nat → predT ss, (∃ j, appT ss (I j) (xs.map (SU.den P ρ))) ∧ ∀ j, allT ss fun ys => appT ss (I j) ys → ∀ d : Nat → Value, t.den (upd tc n0 fun zs => ∃ j', j' < j ∧ appT ss (I j') zs) (ρ ++ ys ++ [.d d])

end

/-! ### Smart expressions -/

def addL (a b : E) : E :=
  match a, b with
  | .lit x, .lit y => .lit (x + y)
  | .lit 0, b => b
  | a, .lit 0 => a
  | a, b => .add a b
def subL (a b : E) : E :=
  match a, b with
  | .lit x, .lit y => .lit (x - y)
  | a, .lit 0 => a
  | a, b => .sub a b
def mulL (a b : E) : E :=
  match a, b with
  | .lit x, .lit y => .lit (x * y)
  | .lit 1, b => b
  | a, .lit 1 => a
  | a, b => .mul a b
def minL (a b : E) : E :=
  match a, b with
  | .lit x, .lit y => .lit (Min.min x y)
  | a, b => .min a b
def maxL (a b : E) : E :=
  match a, b with
  | .lit x, .lit y => .lit (Max.max x y)
  | a, b => .max a b
def natL (a : E) : E :=
  match a with
  | .lit z => bif leI 0 z then .lit z else .nat (.lit z)
  | .nv n => .nv n
  | .slen s => .slen s
  | .nat a => .nat a
  | a => .nat a
def notL (a : E) : E :=
  match a with
  | .tt b => .tt (!b)
  | .not a => a
  | a => .not a
def andL (a b : E) : E :=
  match a, b with
  | .tt true, b => b
  | .tt false, _ => .tt false
  | a, .tt true => a
  | a, b => .and a b
def orL (a b : E) : E :=
  match a, b with
  | .tt false, b => b
  | .tt true, _ => .tt true
  | a, .tt false => a
  | a, b => .or a b

def isCmp : BinOp → Bool
  | .eql | .neq | .lss | .leq | .gtr | .geq => true
  | _ => false
def isShift : BinOp → Bool
  | .shl | .shr => true
  | _ => false

def cmpL (op : BinOp) (a b : E) : E :=
  match a, b with
  | .lit x, .lit y => .tt (cmpB op x y)
  | a, b => bif a.same b then .tt (cmpB op 0 0) else .cmp op a b
def scmpL (op : BinOp) (a b : E) : E :=
  match a, b with
  | .str x, .str y => .tt (scmpB op x y)
  | a, b => .scmp op a b
def slenL (a : E) : E :=
  match a with
  | .str s => .lit (s.size : Nat)
  | a => .slen a
def catL (a b : E) : E :=
  match a, b with
  | .str x, .str y => .str (x ++ y)
  | a, b => .cat a b

def grdL (e : E) (t : Tree) : Tree :=
  match e with
  | .tt true => t
  | .cmp op (.lit x) (.lit y) => bif cmpB op x y then t else .fail "false guard"
  | .inK k (.lit x) => bif inKB k x then t else .fail "out of range"
  | e => .grd e t

/-- What is known of a test, put into a test. -/
def knowE (e : E) (b : Bool) : E → E
  | .not x => notL (knowE e b x)
  | .and x y => andL (knowE e b x) (knowE e b y)
  | .or x y => orL (knowE e b x) (knowE e b y)
  | x => bif x.same e then .tt b else x

def knowV (e : E) (b : Bool) : SV → SV
  | .bool x => .bool (knowE e b x)
  | .cons v l => .cons (knowV e b v) (knowV e b l)
  | v => v

def addA (a : AE) (k : E) : AE :=
  match a, k with
  | a, .lit 0 => a
  | .blk b (.lit x), .lit y => bif leI 0 x && leI 0 y then .blk b (.lit (x + y)) else .add (.blk b (.lit x)) (.lit y)
  | .add a (.lit x), .lit y => bif leI 0 x && leI 0 y then .add a (.lit (x + y)) else .add (.add a (.lit x)) (.lit y)
  | a, k => .add a k
def elA (a : AE) (k : E) : AE :=
  match a, k with
  | .blk b (.lit x), .lit y => bif leI 0 x && leI 0 y then .blk b (.lit (x + y)) else .add (.plain (.blk b (.lit x))) (.lit y)
  | .spot a _, k => .add (.plain a) k
  | a, k => .add (.plain a) k

/-- Surely some address. -/
def AE.sm : AE → Bool
  | .blk _ _ | .glob _ => true
  | .add a _ | .plain a | .spot a _ | .cut a _ _ _ => a.sm
  | _ => false

/-- Where an address comes from. -/
def AE.root : AE → AE
  | .add a _ | .plain a | .spot a _ | .cut a _ _ _ => a.root
  | a => a

def isSL (a : AE) (t : Tree) : Tree := bif a.sm then t else .isS a.root t

/-- nil? -/
def AE.nilE : AE → E
  | .nil => .tt true
  | .ov n => .onil n
  | .blk _ _ | .glob _ => .tt false
  | .add a _ | .plain a | .spot a _ | .cut a _ _ _ => a.nilE

def nesL (b : BN) (l : List BN) (t : Tree) : Tree := match l with | [] => t | l => .nes b l t
def neaL (a : AE) (l : List BN) (t : Tree) : Tree := match l with | [] => t | l => .nea a l t

/-! ### Patterns -/

/-- The types of the cells of a type. -/
def cellTys (P : Program) : Nat → TypeId → List TypeId
  | 0, t => [t]
  | f + 1, t => match P.underlying t with
    | some (.struct fs) => fs.toList.flatMap fun fd => cellTys P f fd.type
    | some (.array n e) => (List.replicate n (cellTys P f e)).flatten
    | _ => [t]

def pat1 (P : Program) (t : TypeId) (n : Nat) : SV × List Srt :=
  match P.underlying t with
  | some .bool => (.bool (.bv n), [.b])
  | some (.int k) => (.int k (.iv n), [.i])
  | some .string => (.str (.sv n), [.s])
  | some (.slice _) => (.slice (.ov n) (.nv (n + 1)) (.nv (n + 2)), [.o, .n, .n])
  | some (.pointer _) => (.ptr (.ov n), [.o])
  | _ => (.vv n, [.v])

def patL1 (P : Program) : List TypeId → Nat → SV × List Srt
  | [], _ => (.nil, [])
  | t :: l, n => match pat1 P t n with
    | (v, ss) => match patL1 P l (n + ss.length) with
      | (w, rs) => (.cons v w, ss ++ rs)

def patT (P : Program) (t : TypeId) (n : Nat) : SV × List Srt :=
  match P.underlying t with
  | some (.struct _) | some (.array _ _) => match patL1 P (cellTys P 20 t) n with
    | (v, ss) => (.agg v, ss)
  | _ => pat1 P t n

def patLT (P : Program) : List TypeId → Nat → SV × List Srt
  | [], _ => (.nil, [])
  | t :: l, n => match patT P t n with
    | (v, ss) => match patLT P l (n + ss.length) with
      | (w, rs) => (.cons v w, ss ++ rs)

def patR (P : Program) (ts : List TypeId) (n : Nat) : SV × List Srt :=
  match ts with
  | [t] => patT P t n
  | ts => match patLT P ts n with
    | (v, ss) => (.tuple v, ss)

def exQ (q : Qy) (p : SV × List Srt) (nv : Nat) (go : SV → Nat → Tree) : Tree := .ex q p.2 p.1 (go p.1 (nv + p.2.length))

/-! ### Operations that read no memory -/

def sArith (op : BinOp) (k : IntKind) (a b : E) (go : SV → Tree) : Tree :=
  match op with
  | .add => (match a, b with
    | .lit x, .lit y => go (.int k (.lit (k.wrap (x + y))))
    | a, b => bif kindSame k .i64 then .grd (.inK k (addL a b)) (go (.int k (addL a b))) else go (.int k (.bin .add k a b)))
  | .sub => (match a, b with
    | .lit x, .lit y => go (.int k (.lit (k.wrap (x - y))))
    | a, b => bif kindSame k .i64 then .grd (.inK k (subL a b)) (go (.int k (subL a b))) else go (.int k (.bin .sub k a b)))
  | .mul => (match a, b with
    | .lit x, .lit y => go (.int k (.lit (k.wrap (x * y))))
    | a, b => bif kindSame k .i64 then .grd (.inK k (mulL a b)) (go (.int k (mulL a b))) else go (.int k (.bin .mul k a b)))
  | .quo => (match a, b with
    | .lit x, .lit y => bif intSame y 0 then .fail "quo 0" else go (.int k (.lit (k.wrap (x.tdiv y))))
    | a, b => grdL (cmpL .neq b (.lit 0)) (bif kindSame k .i64 then .grd (.inK k (.quo a b)) (go (.int k (.quo a b))) else go (.int k (.bin .quo k a b))))
  | .rem => (match a, b with
    | .lit x, .lit y => bif intSame y 0 then .fail "rem 0" else go (.int k (.lit (x.tmod y)))
    | a, b => grdL (cmpL .neq b (.lit 0)) (go (.int k (.bin .rem k a b))))
  | .and | .or | .xor | .andNot => (match a, b with
    | .lit x, .lit y => go (.int k (.lit (binI op k x y)))
    | a, b => go (.int k (.bin op k a b)))
  | .shl | .shr => (match a, b with
    | .lit x, .lit y => bif ltI y 0 then .fail "shift" else go (.int k (.lit (binI op k x y)))
    | a, b => grdL (cmpL .geq b (.lit 0)) (go (.int k (.bin op k a b))))
  | _ => .fail "arith"

def undIs (P : Program) (t : TypeId) (f : TypeDesc → Bool) : Bool :=
  match P.underlying t with
  | some d => f d
  | none => false
def isPtrD : TypeDesc → Bool | .pointer _ => true | _ => false
def isSliceD : TypeDesc → Bool | .slice _ => true | _ => false
def isFuncD : TypeDesc → Bool | .func _ _ _ => true | _ => false
def isIfaceD : TypeDesc → Bool | .interface _ => true | _ => false
def isMapD : TypeDesc → Bool | .map _ _ => true | _ => false
def isBoolD : TypeDesc → Bool | .bool => true | _ => false

/-- A test against nil: true if the side of the address is nil. -/
def nilTest (P : Program) (t : TypeId) (a b : SV) : Option E :=
  match a, b with
  | .ptr a, .ptr .nil => bif undIs P t isPtrD then some a.nilE else none
  | .ptr .nil, .ptr b => bif undIs P t isPtrD then some b.nilE else none
  | .slice a _ _, .slice .nil _ _ => bif undIs P t isSliceD then some a.nilE else none
  | .slice .nil _ _, .slice b _ _ => bif undIs P t isSliceD then some b.nilE else none
  | .func _ _ _, .nilFunc | .nilFunc, .func _ _ _ => bif undIs P t isFuncD then some (.tt false) else none
  | .iface _ _, .nilIface | .nilIface, .iface _ _ => bif undIs P t isIfaceD then some (.tt false) else none
  | _, _ => none

def sBin (P : Program) (op : BinOp) (t : TypeId) (x y : Operand) (a b : SV) (nv : Nat) (go : SV → Nat → Tree) : Tree :=
  match a, b with
  | .int k a, .int k' b =>
    bif isShift op then sArith op k a b fun v => go v nv
    else bif !kindSame k k' then .fail "kinds"
    else bif isCmp op then go (.bool (cmpL op a b)) nv
    else sArith op k a b fun v => go v nv
  | .str a, .str b =>
    bif isCmp op then go (.bool (scmpL op a b)) nv
    else (match op with
      | .add => grdL (cmpL .leq (addL (slenL a) (slenL b)) (.lit 9223372036854775807)) (go (.str (catL a b)) nv)
      | _ => .fail "string op")
  | .bool a, .bool b =>
    bif undIs P t isBoolD then (match op with
      | .eql => go (.bool (.beq a b)) nv
      | .neq => go (.bool (.not (.beq a b))) nv
      | _ => .fail "bool op") else .fail "bool type"
  | a, b => match op, nilTest P t a b with
    | .eql, some e => go (.bool e) nv
    | .neq, some e => go (.bool (notL e)) nv
    | _, _ => exQ (.bin op t x y a b) (.bool (.bv nv), [.b]) nv go

def isOne : SV → Bool
  | .vv _ | .dd _ _ | .con _ | .nil | .cons _ _ | .agg _ | .tuple _ => false
  | _ => true

/-- The cells of a value. -/
def sCells (v : SV) (go : List SV → Tree) : Tree :=
  match v with
  | .agg l => go l.toL
  | v => bif isOne v then go [v] else .one v (go [v])

/-- Each of them is of one cell. -/
def sOnes : List SV → Tree → Tree
  | [], t => t
  | v :: l, t => bif isOne v then sOnes l t else .one v (sOnes l t)

def spliceL {α : Type} (off : Nat) (vs l : List α) : List α := l.take off ++ (vs ++ l.drop (off + vs.length))

/-- What Instr.fill does, over symbolic cells. -/
def sFill (place : Nat → Option (Nat × Nat)) (cells : List SV) : List (Nat × SV) → (List SV → Tree) → Tree
  | [], go => go cells
  | (i, v) :: rest, go => match place i with
    | none => .fail "fill"
    | some (off, size) => sCells v fun vs => bif Nat.beq vs.length size && Nat.ble (off + vs.length) cells.length then sFill place (spliceL off vs cells) rest go else .fail "fill"

def placesOf (P : Program) (t : TypeId) : Option (Nat → Option (Nat × Nat)) :=
  match P.underlying t with
  | some (.array _ e) => (P.info? e).map fun ie i => some (i * ie.size, ie.size)
  | some (.struct fields) => (fields.toList.mapM (fun f => (P.info? f.type).map fun i => (f.offset, i.size))).map fun places i => places.toArray[i]?
  | _ => none

def zeroOf (P : Program) (t : TypeId) : Option Value :=
  match (P.info? t).bind (·.zero) with
  | some z => bif closed z then some z else none
  | none => none

def sIndexStr (s i : E) (go : SV → Tree) : Tree :=
  match s, i with
  | .str s, .lit z => bif leI 0 z && ltI z s.size then go (.int .u8 (.lit (byteAt s z))) else .fail "string index"
  | s, i => grdL (cmpL .geq i (.lit 0)) (grdL (cmpL .lss i (slenL s)) (go (.int .u8 (.sat s i))))

def isMM : Callee → Bool
  | .builtin .min | .builtin .max => true
  | _ => false

/-- A symbolic operation of class 0. -/
def sPure (P : Program) (a : SAct) (o : Oper) (nv : Nat) (go : SV → Nat → Tree) : Tree :=
  match o.op with
  | .move x | .assign x => go (a.ev x) nv
  | .pick c x y => (match a.ev c with
    | .bool (.tt b) => go (bif b then a.ev x else a.ev y) nv
    | _ => .fail "pick")
  | .binOp op t x y _ => sBin P op t x y (a.ev x) (a.ev y) nv go
  | .unOp op t x => (match op, a.ev x with
    | .not, .bool e => go (.bool (notL e)) nv
    | .neg, .int k e => sArith .sub k (.lit 0) e fun v => go v nv
    | .xor, .int k e => go (.int k (.bin .xor k (.lit (bif k.signed then -1 else k.max)) e)) nv
    | _, _ => .fail "unOp")
  | .fieldAddr s x f => (match P.underlying s, a.ev x with
    | some (.struct fields), .ptr b => (match fields[f]? with
      | some fd => (match sizeV P fd.type with
        | some n => bif Nat.beq n 0 then .fail "fieldAddr" else isSL b (go (.ptr (addA b (.lit (fd.offset : Nat)))) nv)
        | none => .fail "fieldAddr")
      | none => .fail "fieldAddr")
    | _, v => exQ (.fieldAddr s v f) (.ptr (.ov nv), [.o]) nv go)
  | .field t x f => (match P.underlying t, a.ev x with
    | some (.struct fields), .agg l => (match fields[f]? with
      | some fd => (match P.underlying fd.type with
        | some (.struct _) | some (.array _ _) => (match sizeV P fd.type with
          | some n => go (.agg (SV.ofL ((l.toL.drop fd.offset).take n))) nv
          | none => .fail "field")
        | some _ => bif Nat.blt fd.offset l.toL.length then go (l.toL.getD fd.offset .undef) nv else .fail "field"
        | none => .fail "field")
      | none => .fail "field")
    | some (.struct fields), v => (match fields[f]? with
      | some fd => exQ (.field t v f) (patT P fd.type nv) nv go
      | none => .fail "field")
    | _, _ => .fail "field")
  | .index t x i => (match P.underlying t, a.ev x, a.ev i with
    | some .string, .str s, .int _ i => sIndexStr s i fun v => go v nv
    | some (.array n e), .agg l, .int _ (.lit k) => (match P.underlying e with
      | some (.struct _) | some (.array _ _) => (match sizeV P e with
        | some m => bif leI 0 k && ltI k n then go (.agg (SV.ofL ((l.toL.drop (k.toNat * m)).take m))) nv else .fail "index"
        | none => .fail "index")
      | some _ => (match sizeV P e with
        | some m => bif leI 0 k && (ltI k n && Nat.blt (k.toNat * m) l.toL.length) then go (l.toL.getD (k.toNat * m) .undef) nv else .fail "index"
        | none => .fail "index")
      | none => .fail "index")
    | some (.array n e), v, w => exQ (.index t v w) (patT P e nv) nv go
    | _, _, _ => .fail "index")
  | .indexAddr t x i => (match P.underlying t, a.ev x, a.ev i with
    | some (.array n e), .ptr b, .int _ i => (match sizeV P e with
      | some s => isSL b (grdL (cmpL .geq i (.lit 0)) (grdL (cmpL .lss i (.lit (n : Nat))) (go (.ptr (addA b (mulL i (.lit (s : Nat))))) nv)))
      | none => .fail "indexAddr")
    | some (.slice e), .slice b n _, .int _ i => (match sizeV P e with
      | some s => isSL b (grdL (cmpL .geq i (.lit 0)) (grdL (cmpL .lss i (natL n)) (go (.ptr (elA b (mulL i (.lit (s : Nat))))) nv)))
      | none => .fail "indexAddr")
    | _, v, w => exQ (.indexAddr t v w) (.ptr (.ov nv), [.o]) nv go)
  | .makeInterface t x => (match P.underlying t with
    | some (.interface _) | none => .fail "makeInterface"
    | some _ => go (.iface t (a.ev x)) nv)
  | .makeFunc (.func f) first captured => go (.func f (SV.ofL (first.toList.map a.ev)) (SV.ofL (captured.toList.map a.ev))) nv
  | .extract t i => (match a.ev t with
    | .tuple l => bif Nat.blt i l.toL.length then go (l.toL.getD i .undef) nv else .fail "extract"
    | v => exQ (.ext v i) (patT P o.type nv) nv go)
  | .nilCheck x => (match a.ev x with
    | .ptr b => isSL b (go (.ptr b) nv)
    | .func f u v => go (.func f u v) nv
    | .iface t v => go (.iface t v) nv
    | v => exQ (.nilc v) (.vv nv, [.v]) nv go)
  | .build t parts => (match zeroOf P t, placesOf P t with
    | some z, some pl => sFill pl (z.cells.toList.map (ofV 8)) (parts.toList.map fun p => (p.1, a.ev p.2)) fun cs => go (.agg (SV.ofL cs)) nv
    | _, _ => .fail "build")
  | .slice t x lo hi mx => (match P.underlying t, a.ev x, lo.map a.ev, hi.map a.ev, mx with
    | some .string, .str s, lo, hi, none => (match (match lo with | some (.int _ e) => some e | none => some (.lit 0) | _ => none), (match hi with | some (.int _ e) => some e | none => some (slenL s) | _ => none) with
      | some l, some h => grdL (cmpL .geq l (.lit 0)) (grdL (cmpL .leq l h) (grdL (cmpL .leq h (slenL s)) (go (.str (.ext s l h)) nv)))
      | _, _ => .fail "slice")
    | _, v, lo, hi, mx => exQ (.slice t v lo hi (mx.map a.ev)) (patT P o.type nv) nv go)
  | .convert s d x => (match a.ev x, P.underlying d with
    | .int k e, some (.int k') => bif !undIs P s (fun _ => true) then .fail "convert" else (match e with
      | .lit z => go (.int k' (.lit (k'.wrap z))) nv
      | e => bif kindSame k' .i64 then .grd (.inK k' e) (go (.int k' e) nv) else go (.int k' (.wrap k' e)) nv)
    | _, _ => .fail "convert")
  | .call c => bif isMM c.callee then (match c.callee, c.args.toList.map a.ev with
      | .builtin .min, [.int k x, .int k' y] => go (.int k (minL x y)) nv
      | .builtin .max, [.int k x, .int k' y] => go (.int k (maxL x y)) nv
      | _, _ => .fail "min, max")
    else (match (c.argTypes[0]?).bind P.underlying, (c.args.toList.head?).map a.ev with
      | some .string, some (.str s) => go (.int .i64 (slenL s)) nv
      | some (.slice _), some (.slice _ n _) => go (.int .i64 (natL n)) nv
      | _, _ => .fail "len")
  | _ => .fail "op of class 0"

/-! ### Memory -/

/-- Where a block is found among the updates; the names that had to be passed. -/
def findUp (b : BN) : List (BN × SObj) → List BN → List BN × Option SObj
  | [], acc => (acc, none)
  | (c, o) :: l, acc => bif c.same b then (acc, some o) else bif c.apart b then findUp b l acc else findUp b l (c :: acc)

def namesOf : List (BN × SObj) → List BN → List BN
  | [], acc => acc
  | (b, _) :: l, acc => bif acc.any (·.same b) then namesOf l acc else namesOf l (b :: acc)

def litNat : E → Option Nat
  | .lit z => bif leI 0 z then some z.toNat else none
  | _ => none

/-- The address's block among the updates. -/
def findA (a : AE) (ups : List (BN × SObj)) : List BN × Option (Nat × SObj) :=
  match a with
  | .blk b off => (match findUp b ups [], litNat off with
    | (acc, some o), some k => (acc, some (k, o))
    | (acc, some o), none => (acc, some (0, .dgone))
    | (acc, none), _ => (acc, none))
  | _ => (namesOf ups [], none)

/-- A load: one cell, or n of them as a row. -/
def sLoad (P : Program) (t : TypeId) (a : AE) (h : SH) (nv : Nat) (go : SV → Nat → Tree) : Tree :=
  match P.underlying t with
  | some (.struct _) | some (.array _ _) => (match sizeV P t with
    | some n => (match findA a h.ups with
      | (acc, some (k, .cells _ l _ _ _)) => bif Nat.ble (k + n) l.toL.length then neaL a acc (go (.agg (SV.ofL ((l.toL.drop k).take n))) nv) else .fail "load"
      | (acc, none) => neaL a acc (exQ (.cells h.base a n) (patT P t nv) nv go)
      | _ => .fail "load of what?")
    | none => .fail "load")
  | some _ => (match findA a h.ups with
    | (acc, some (k, .cells _ l _ _ _)) => bif Nat.blt k l.toL.length then neaL a acc (go (l.toL.getD k .undef) nv) else .fail "load"
    | (acc, none) => neaL a acc (exQ (.cell h.base a) (pat1 P t nv) nv go)
    | _ => .fail "load of what?")
  | none => .fail "load"

def keepsOf : List (BN × SObj) → List BN → List (BN × SObj)
  | [], _ => []
  | (b, o) :: l, seen => bif seen.any (·.same b) then keepsOf l seen else
    (match o with
     | .cells true _ _ _ _ | .loop _ _ _ _ _ _ | .dnil | .iter _ _ => (b, o) :: keepsOf l (b :: seen)
     | _ => keepsOf l (b :: seen))

def sPrim (p : Prim) (args : List SV) (h : SH) (pat : SV × List Srt) (nv : Nat) (go : SV → SH → Nat → Tree) : Tree :=
  .prim p (SV.ofL args) h pat.2 pat.1 (keepsOf h.ups []) (go pat.1 { base := nv + pat.2.length, nxt := 0, ups := keepsOf h.ups [], pins := .of (nv + pat.2.length) } (nv + pat.2.length + 1))

def consUp (b : BN) (o : SObj) (l : List (BN × SObj)) : List (BN × SObj) :=
  match l with
  | (c, p) :: r => bif c.same b then (b, o) :: r else (b, o) :: (c, p) :: r
  | [] => [(b, o)]

def noPat : SV × List Srt := (.undef, [])

def SH.alloc (h : SH) (o : SObj) : SH := { h with nxt := h.nxt + 1, ups := (.nx h.base h.nxt, o) :: h.ups }
def SH.name (h : SH) : BN := .nx h.base h.nxt

def sStore (P : Program) (t : TypeId) (a : AE) (v : SV) (h : SH) (nv : Nat) (go : SV → SH → Nat → Tree) : Tree :=
  match findA a h.ups, a with
  | (acc, some (k, .cells kp l ty lo hi)), .blk b _ =>
    bif Nat.beq lo hi then
      sCells v fun cs => match sizeV P t with
        | some n => bif Nat.beq cs.length n && Nat.ble (k + n) l.toL.length then
            neaL a acc (.unp a n h.pins (sOnes cs (go .undef { h with ups := consUp b (.cells kp (SV.ofL (spliceL k cs l.toL)) ty lo hi) h.ups } nv)))
          else .fail "store"
        | none => .fail "store"
    else .fail "store: frozen"
  | (_, some _), _ => .fail "store to what?"
  | (_, none), _ => sPrim (.store t) [.ptr a, v] h noPat nv go

/-- Rows of cells, one behind the other. -/
def sCellsAll : List SV → (List SV → Tree) → Tree
  | [], go => go []
  | v :: l, go => sCells v fun cs => sCellsAll l fun r => go (cs ++ r)

def consec : List Nat → Nat → Bool
  | [], _ => true
  | i :: l, k => Nat.beq i k && consec l (k + 1)

/-- The cells that a slice has, where they are known. -/
def knownCells (s : SV) (size : Nat) (ups : List (BN × SObj)) : Option (Nat × List SV) :=
  match s with
  | .slice .nil (.lit 0) _ => some (0, [])
  | .slice (.blk b off) (.lit n) _ => (match findUp b ups [], litNat off with
    | ([], some (.cells _ l _ _ _)), some k => bif leI 0 n && Nat.ble (k + n.toNat * size) l.toL.length then some (n.toNat, (l.toL.drop k).take (n.toNat * size)) else none
    | _, _ => none)
  | _ => none

/-- A symbolic operation of class 2 that yields a value. -/
def sEff (P : Program) (kp : Bool) (a : SAct) (o : Oper) (h : SH) (nv : Nat) (go : SV → SH → Nat → Tree) : Tree :=
  match o.op with
  | .load t x => (match a.ev x with
    | .ptr b => isSL b (sLoad P t b h nv fun v n => bif Nat.beq n nv || h.ok nv then go v h n else .fail "scope: heap")
    | v => sPrim (.load t) [v] h (patT P t nv) nv go)
  | .store t x v => (match a.ev x with
    | .ptr b => isSL b (sStore P t b (a.ev v) h nv go)
    | w => sPrim (.store t) [w, a.ev v] h noPat nv go)
  | .alloc t => (match zeroOf P t with
    | some z => go (.ptr (.blk h.name (.lit 0))) (h.alloc (.cells kp (SV.ofL (z.cells.toList.map (ofV 8))) t 0 0)) nv
    | none => .fail "alloc")
  | .box t x => sCells (a.ev x) fun cs => go (.ptr (.blk h.name (.lit 0))) (h.alloc (.cells kp (SV.ofL cs) t 0 0)) nv
  | .buildSlice t n parts => (match P.underlying t with
    | some (.slice e) => (match sizeV P e, zeroOf P e with
      | some size, some z => bif Nat.ble (n * size) 16777216 && Nat.beq z.cells.size size then
          sFill (fun i => some (i * size, size)) ((copies z.cells.toList n).map (ofV 8)) (parts.toList.map fun p => (p.1, a.ev p.2)) fun cs =>
            go (.slice (.blk h.name (.lit 0)) (.lit (n : Nat)) (.lit (n : Nat))) (h.alloc (.cells false (SV.ofL cs) e 0 0)) nv
        else .fail "buildSlice"
      | _, _ => .fail "buildSlice")
    | _ => .fail "buildSlice")
  | .makeMap _ r => (match r with
    | none => sPrim .makeMap [] h (.vv nv, [.v]) nv go
    | some _ => .fail "makeMap")
  | .makeSlice t l c => sPrim (.makeSlice t) [a.ev l, a.ev c] h (patT P t nv) nv go
  | .lookup t m k ok => (match P.underlying t with
    | some (.map _ e) => sPrim (.lookup t ok) [a.ev m, a.ev k] h (bif ok then (match patT P e nv with | (v, ss) => (.tuple (.cons v (.cons (.bool (.bv (nv + ss.length))) .nil)), ss ++ [.b])) else patT P e nv) nv go
    | _ => .fail "lookup")
  | .mapUpdate t m k v | .insert t m k v => sPrim (.mapUpdate t) [a.ev m, a.ev k, a.ev v] h noPat nv go
  | .mapEntry t m k => (match P.underlying t with
    | some (.map _ e) => sPrim (.mapEntry t) [a.ev m, a.ev k] h (match patT P e nv with | (v, ss) => (.tuple (.cons v (.cons (.int .i64 (.iv (nv + ss.length))) .nil)), ss ++ [.i])) nv go
    | _ => .fail "mapEntry")
  | .entryStore _ m s v => sPrim .entryStore [a.ev m, a.ev s, a.ev v] h noPat nv go
  | .range t x => sPrim (.range t) [a.ev x] h (.vv nv, [.v]) nv go
  | .next it s => sPrim (.next s) [a.ev it] h (.vv nv, [.v]) nv go
  | .entry it => sPrim .entry [a.ev it] h (.vv nv, [.v]) nv go
  | .typeAssert x _ t ok => sPrim (.typeAssert t ok) [a.ev x] h (bif ok then (match patT P t nv with | (v, ss) => (.tuple (.cons v (.cons (.bool (.bv (nv + ss.length))) .nil)), ss ++ [.b])) else patT P t nv) nv go
  | .convert s d x => (match a.ev x, P.underlying d with
    | .str e, some .string => bif !undIs P s (fun _ => true) then .fail "convert" else go (.str e) h nv
    | v, _ => sPrim (.convert s d) [v] h (patT P d nv) nv go)
  | .call c => (match c.callee, c.args.toList.map a.ev with
    | .builtin .append, [s, x] => (match c.argTypes[0]?, c.argTypes[1]? with
      | some t, u => (match P.underlying t with
        | some (.slice e) => (match P.info? e, zerosV P u with
          | some ei, some false => (match s, knownCells x ei.size h.ups with
            | .slice b n cp, some (m, cs) => sPrim (.appendTo ei.size ei.bytes e m) (.slice b n cp :: cs) h (patT P t nv) nv go
            | _, _ => sPrim (.append t u) [s, x] h (patT P t nv) nv go)
          | _, _ => .fail "append")
        | _ => .fail "append")
      | _, _ => .fail "append")
    | .builtin .len, [x] => (match c.argTypes[0]? with
      | some t => sPrim (.len t) [x] h (.int .i64 (.iv nv), [.i]) nv go
      | none => .fail "len")
    | .builtin .cap, [x] => (match c.argTypes[0]? with
      | some t => sPrim (.cap t) [x] h (.int .i64 (.iv nv), [.i]) nv go
      | none => .fail "cap")
    | .builtin .copy, [d, s] => (match c.argTypes[0]? with
      | some t => sPrim (.copy t) [d, s] h (.int .i64 (.iv nv), [.i]) nv go
      | none => .fail "copy")
    | .builtin .clear, [x] => (match c.argTypes[0]? with
      | some t => sPrim (.clear t) [x] h noPat nv go
      | none => .fail "clear")
    | .builtin .delete, [m, k] => (match c.argTypes[0]? with
      | some t => sPrim (.delete t) [m, k] h noPat nv go
      | none => .fail "delete")
    | _, _ => .fail "call")
  | _ => .fail "op of class 2"

/-! ### Configurations -/

inductive Md where
  | code (f : FuncId) (p : List Nat)
  | pos (q : Pos)
  | ex (e : Exit)
  | leave (f : FuncId) (tmps : SV) (ds : List SDef)
  | val (v : SV)
  | dend

structure Cfg where
  md : Md
  k : List Fr
  a : SAct
  h : SH
  rd : Option BN
  nv : Nat

/-- How a loop is met. -/
structure LH where
  f : FuncId
  p : List Nat
  unroll : Nat
  keepH : Bool
  live : List Nat
  cells : List (BN × Nat)
  deriving Inhabited

structure Hints where
  loops : List LH
  calls : List FuncId
  boxes : List (Nat × String) := []

def keptBox (d : Option Tmp) (pos : String) : List (Nat × String) → Bool
  | [] => false
  | (t, s) :: l => (match d with | some d => Nat.beq d t && decide (s = pos) | none => false) || keptBox d pos l

def findLH (f : FuncId) (p : List Nat) : List LH → Option LH
  | [] => none
  | l :: r => bif Nat.beq l.f f && natsSame l.p p then some l else findLH f p r

def natMem (n : Nat) : List Nat → Bool
  | [] => false
  | m :: l => Nat.beq m n || natMem n l

def dsts : List Oper → List Nat
  | [] => []
  | o :: l => match o.dst with
    | some d => d :: dsts l
    | none => dsts l

/-- The temporaries that code writes. -/
def writes : Code → List Nat
  | .region _ ops _ => dsts ops.toList
  | .seq a b | .cond _ a b => writes a ++ writes b
  | .rangeFunc _ _ a b => writes a ++ writes b
  | .block _ c | .loop c | .scope c => writes c
  | _ => []

/-- A fresh value of the shape of this one; what this one is, member by member. -/
def freshV (nv : Nat) : SV → SV × List SU
  | .bool e => (.bool (.bv nv), [.b e])
  | .int k e => (.int k (.iv nv), [.i e])
  | .str e => (.str (.sv nv), [.s e])
  | .ptr a => (.ptr (.ov nv), [.o a])
  | .slice a n c => (.slice (.ov nv) (.nv (nv + 1)) (.nv (nv + 2)), [.o a, .n n, .n c])
  | .agg l => match freshV nv l with
    | (v, us) => (.agg v, us)
  | .nil => (.nil, [])
  | .cons v l => match freshV nv v with
    | (v, us) => match freshV (nv + us.length) l with
      | (w, ws) => (.cons v w, us ++ ws)
  | v => (.vv nv, [.v v])

def SU.srt : SU → Srt
  | .i _ => .i | .b _ => .b | .s _ => .s | .v _ => .v | .o _ => .o | .n _ => .n | .h _ => .h

/-- The temporaries at a loop's head. dv: the number of the variable for what is not kept. -/
def headTmps (live ws : List Nat) (dv : Nat) : SV → Nat → Nat → SV × List SU
  | .cons v l, i, nv =>
    bif natMem i live then (match freshV nv v with
      | (v, us) => match headTmps live ws dv l (i + 1) (nv + us.length) with
        | (w, rs) => (.cons v w, us ++ rs))
    else (match headTmps live ws dv l (i + 1) nv with
      | (w, rs) => (.cons (bif natMem i ws then .dd dv i else v) w, rs))
  | l, _, _ => (l, [])

def headCells (live : List Nat) : SV → Nat → Nat → SV × List SU
  | .cons v l, i, nv =>
    bif natMem i live then (match freshV nv v with
      | (v, us) => match headCells live l (i + 1) (nv + us.length) with
        | (w, rs) => (.cons v w, us ++ rs))
    else (match headCells live l (i + 1) nv with
      | (w, rs) => (.cons v w, rs))
  | l, _, _ => (l, [])

def cellsIn (b : BN) : List (BN × Nat) → List Nat
  | [] => []
  | (c, i) :: l => bif c.same b then i :: cellsIn b l else cellsIn b l

def headUps (live : List (BN × Nat)) : List (BN × SObj) → Nat → List (BN × SObj) × List SU
  | [], _ => ([], [])
  | (b, .cells kp l t lo hi) :: r, nv => match headCells (cellsIn b live) l 0 nv with
    | (l', us) => match headUps live r (nv + us.length) with
      | (r', rs) => ((b, .cells kp l' t lo hi) :: r', us ++ rs)
  | x :: r, nv => match headUps live r nv with
    | (r', rs) => (x :: r', rs)

/-- What a pattern is where its variables from n0 on stand for these. -/
def getSU : List SU → Nat → Option SU
  | [], _ => none
  | u :: _, 0 => some u
  | _ :: l, n + 1 => getSU l n
def inst (n0 : Nat) (xs : List SU) : SV → Option SV
  | .bool (.bv n) => bif Nat.ble n0 n then (match getSU xs (n - n0) with | some (.b e) => some (.bool e) | _ => none) else some (.bool (.bv n))
  | .int k (.iv n) => bif Nat.ble n0 n then (match getSU xs (n - n0) with | some (.i e) => some (.int k e) | _ => none) else some (.int k (.iv n))
  | .str (.sv n) => bif Nat.ble n0 n then (match getSU xs (n - n0) with | some (.s e) => some (.str e) | _ => none) else some (.str (.sv n))
  | .ptr (.ov n) => bif Nat.ble n0 n then (match getSU xs (n - n0) with | some (.o a) => some (.ptr a) | _ => none) else some (.ptr (.ov n))
  | .slice (.ov n) (.nv m) (.nv j) => bif Nat.ble n0 n && (Nat.ble n0 m && Nat.ble n0 j) then (match getSU xs (n - n0), getSU xs (m - n0), getSU xs (j - n0) with
      | some (.o a), some (.n x), some (.n y) => some (.slice a x y)
      | _, _, _ => none) else bif Nat.blt n n0 && (Nat.blt m n0 && Nat.blt j n0) then some (.slice (.ov n) (.nv m) (.nv j)) else none
  | .vv n => bif Nat.ble n0 n then (match getSU xs (n - n0) with | some (.v (.cons _ _)) => none | some (.v v) => some v | _ => none) else some (.vv n)
  | .agg l => match inst n0 xs l with | some l => some (.agg l) | none => none
  | .cons v l => match inst n0 xs v, inst n0 xs l with | some v, some l => some (.cons v l) | _, _ => none
  | v => bif v.ok n0 then some v else none

def instIs (n0 : Nat) (xs : List SU) (v w : SV) : Bool :=
  match inst n0 xs v with
  | some v => v.same w
  | none => false

/-- Members of the actual values, where the pattern's are fresh. -/
def grabV (nv0 : Nat) : SV → SV → List SU
  | .bool (.bv n), .bool e => bif Nat.ble nv0 n then [.b e] else []
  | .int _ (.iv n), .int _ e => bif Nat.ble nv0 n then [.i e] else []
  | .str (.sv n), .str e => bif Nat.ble nv0 n then [.s e] else []
  | .ptr (.ov n), .ptr a => bif Nat.ble nv0 n then [.o a] else []
  | .slice (.ov n) _ _, .slice a x y => bif Nat.ble nv0 n then [.o a, .n x, .n y] else []
  | .vv n, v => bif Nat.ble nv0 n then [.v v] else []
  | .agg l, .agg m => grabV nv0 l m
  | .cons v l, .cons w m => grabV nv0 v w ++ grabV nv0 l m
  | _, _ => []

def grabUps (nv0 : Nat) (ups : List (BN × SObj)) : List (BN × SObj) → List SU
  | [] => []
  | (b, .cells _ l _ _ _) :: r => match findUp b ups [] with
    | (_, some (.cells _ m _ _ _)) => grabV nv0 l m ++ grabUps nv0 ups r
    | _ => grabUps nv0 ups r
  | _ :: r => grabUps nv0 ups r

/-- Temporaries, one by one: the same, or not kept. -/
def sameTmps (n0 : Nat) (xs : List SU) (dv : Nat) : SV → SV → Nat → Option Nat
  | .cons (.dd n k) l, .cons w m, i => bif Nat.beq n dv then (bif Nat.beq k i then sameTmps n0 xs dv l m (i + 1) else some i) else (bif (SV.dd n k).same w && Nat.blt n n0 then sameTmps n0 xs dv l m (i + 1) else some i)
  | .cons v l, .cons w m, i => bif instIs n0 xs v w then sameTmps n0 xs dv l m (i + 1) else some i
  | .nil, .nil, _ => none
  | _, _, i => some i

def instObjIs (n0 : Nat) (xs : List SU) (o o' : SObj) : Bool :=
  match o with
  | .cells kp l t lo hi => (match inst n0 xs l with | some l => (SObj.cells kp l t lo hi).same o' | none => false)
  | o => o.ok n0 && o.same o'

/-- Kept blocks, one by one. -/
def sameUps (n0 : Nat) (xs : List SU) (ups : List (BN × SObj)) : List (BN × SObj) → Option BN
  | [] => none
  | (b, o) :: r => match findUp b ups [] with
    | ([], some o') => bif instObjIs n0 xs o o' && b.ok n0 then sameUps n0 xs ups r else some b
    | _ => some b

def upsSame : List (BN × SObj) → List (BN × SObj) → Bool
  | [], [] => true
  | (b, o) :: l, (c, p) :: m => b.same c && (o.same p && upsSame l m)
  | _, _ => false
def PE.same : PE → PE → Bool
  | .of n, .of m => Nat.beq n m
  | .cons a p, .cons b q => a.same b && p.same q
  | _, _ => false
def SH.same (a b : SH) : Bool := Nat.beq a.base b.base && (Nat.beq a.nxt b.nxt && (upsSame a.ups b.ups && a.pins.same b.pins))

def defsSame : List SDef → List SDef → Bool
  | [], [] => true
  | .call f c a :: l, .call g d b :: m => Nat.beq f g && (c.same d && (a.same b && defsSame l m))
  | .coll a :: l, .coll b :: m => a.same b && defsSame l m
  | _, _ => false

def showNat (n : Nat) : String := Nat.repr n
def showBN : BN → String
  | .nv n => "nv " ++ showNat n
  | .nx a k => "nx " ++ showNat a ++ " " ++ showNat k

/-- Does a head fit a configuration? -/
def fits (n0 : Nat) (xs : List SU) (pa : SAct) (ph : SH) (a : SAct) (h : SH) : Option String :=
  bif !defsSame pa.defers a.defers || !defsOk n0 pa.defers then some "loop: defers"
  else match sameTmps n0 xs (n0 + xs.length) pa.tmps a.tmps 0 with
    | some i => some ("loop: tmp " ++ showNat i)
    | none => bif Nat.blt ph.base n0 then (bif ph.same h && ph.ok n0 then none else some "loop: heap")
      else match sameUps n0 xs h.ups ph.ups with
        | some b => some ("loop: block " ++ showBN b)
        | none => bif Nat.beq (ph.base + 1) (n0 + xs.length) && (Nat.beq ph.nxt 0 && ((match ph.pins with | .of m => Nat.beq m ph.base | _ => false) && (match getSU xs (ph.base - n0) with | some (.h h') => h'.same h | _ => false))) then none else some "loop: base"

/-- Back at a loop's head. -/
def sBack (n0 : Nat) (ss : List Srt) (pa : SAct) (ph : SH) (a : SAct) (h : SH) (nv : Nat) : Tree :=
  let xs := grabV n0 pa.tmps a.tmps ++ (bif Nat.blt ph.base n0 then [] else grabUps n0 h.ups ph.ups ++ [.h h])
  bif decide (xs.map SU.srt = ss) && Nat.ble n0 nv then (match fits n0 xs pa ph a h with | none => .back n0 xs | some m => .fail (m ++ " @" ++ showNat n0)) else .fail ("loop: shapes @" ++ showNat n0)

def sLoop (P : Program) (rec : Cfg → Tree) (lh : LH) (f : FuncId) (p : List Nat) (c : Cfg) : Tree :=
  let ws := writes (codeAt P f p)
  let m1 := (headTmps lh.live ws 0 c.a.tmps 0 c.nv).2.length
  let kps := keepsOf c.h.ups []
  let m2 := bif lh.keepH then 0 else (headUps lh.cells kps (c.nv + m1)).2.length + 1
  let dv := c.nv + m1 + m2
  let ht := headTmps lh.live ws dv c.a.tmps 0 c.nv
  let hu := headUps lh.cells kps (c.nv + m1)
  let xs := ht.2 ++ (bif lh.keepH then [] else hu.2 ++ [.h c.h])
  let pa : SAct := { tmps := ht.1, defers := c.a.defers }
  let ph : SH := bif lh.keepH then c.h else { base := dv - 1, nxt := 0, ups := hu.1, pins := .of (dv - 1) }
  let ss := xs.map SU.srt
  bif Nat.beq (c.nv + xs.length) dv && (frsOk c.nv c.k && rdOk c.nv c.rd) then
    (match fits c.nv xs pa ph c.a c.h with
     | none => .loop f p c.nv ss xs (rec { md := .code f (0 :: p), k := .back c.nv ss pa ph :: c.k, a := pa, h := ph, rd := c.rd, nv := dv + 1 })
     | some m => .fail m)
  else .fail "loop: scope"

end Go.Abs
