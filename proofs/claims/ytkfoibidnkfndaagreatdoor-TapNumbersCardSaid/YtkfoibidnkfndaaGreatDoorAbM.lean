/- The abstract machine, part 3: operations, code, calls. Every definition is one that the kernel can run. -/
import Derived.Test.YtkfoibidnkfndaaGreatDoorAbA2
import Derived.OrdersIn
import Derived.Laws.Tables
namespace Go.Abs

/-! ### What operations yield that read no memory -/

/-- A term that reads nothing but the program. -/
def pureRun (P : Program) {α : Type} : Sem α → Option α
  | .pure a => some a
  | .program k => pureRun P (k P)
  | _ => none

def scalar : Value → Bool
  | .bool _ | .int _ _ | .float _ _ | .complex _ _ _ | .string _ => true
  | _ => false

def strip : Value → Value
  | .slice (some a) n c => .slice (some { a with spot := none }) n c
  | v => v

def mapA (f : Operand → Value) (a : Array Operand) : Array Value := (a.toList.map f).toArray

def ifScalar : Option Value → Option Value
  | some v => bif scalar v then some v else none
  | none => none

def sizeV (P : Program) (t : TypeId) : Option Nat := (P.info? t).map (·.size)

def isNil : Value → Bool
  | .pointer none | .slice none _ _ | .map none | .chan none | .nilFunc | .nilIface => true
  | _ => false

/-- '==' where one side bears an address: of one block, or against nil. -/
def eqV (P : Program) (t : TypeId) (x y : Value) : Option Bool :=
  match P.underlying t, x, y with
  | some (.pointer _), .pointer none, .pointer b => some b.isNone
  | some (.pointer _), .pointer a, .pointer none => some a.isNone
  | some (.pointer e), .pointer (some a), .pointer (some b) => match sizeV P e with
    | some s => bif Nat.beq a.block b.block && !Nat.beq s 0 then some (Nat.beq a.off b.off) else none
    | none => none
  | some (.slice _), .slice none _ _, .slice b _ _ => some b.isNone
  | some (.slice _), .slice _ _ _, .slice none _ _ => some false
  | some (.map _ _), .map none, .map b => some b.isNone
  | some (.map _ _), .map _, .map none => some false
  | some (.func _ _ _), .nilFunc, .func _ _ _ => some false
  | some (.func _ _ _), .func _ _ _, .nilFunc => some false
  | some (.interface _), .nilIface, .iface _ _ => some false
  | some (.interface _), .iface _ _, .nilIface => some false
  | _, _, _ => none

def binV (P : Program) (ev : Operand → Value) (op : BinOp) (t : TypeId) (x y : Operand) : Option Value :=
  bif closed (ev x) && closed (ev y) then
    ifScalar (pureRun P (do eqGuard op t x y (ev x) (ev y); binOp op t (ev x) (ev y)))
  else match op with
    | .eql => (eqV P t (ev x) (ev y)).map fun b => .bool b
    | .neq => (eqV P t (ev x) (ev y)).map fun b => .bool !b
    | _ => none

def fieldAddrV (P : Program) (s : TypeId) (x : Value) (f : Nat) : Option Value :=
  match P.underlying s, x with
  | some (.struct fields), .pointer (some a) => match fields[f]? with
    | some fd => match sizeV P fd.type with
      | some n => bif Nat.beq n 0 then none else some (.pointer (some (a.add fd.offset)))
      | none => none
    | none => none
  | _, _ => none

def partV (P : Program) (t : TypeId) (cs : Array Value) (off : Nat) : Option Value :=
  match P.underlying t with
  | some (.struct _) | some (.array _ _) => (sizeV P t).map fun n => .agg (cs.extract off (off + n))
  | some _ => cs[off]?
  | none => none

def fieldV (P : Program) (t : TypeId) (x : Value) (f : Nat) : Option Value :=
  match P.underlying t, x with
  | some (.struct fields), .agg cs => match fields[f]? with
    | some fd => partV P fd.type cs fd.offset
    | none => none
  | _, _ => none

def leI (a b : Int) : Bool := decide (a ≤ b)
def ltI (a b : Int) : Bool := decide (a < b)

def indexV (P : Program) (t : TypeId) (x i : Value) : Option Value :=
  match P.underlying t, x, i with
  | some (.array n e), .agg cs, .int _ k => bif leI 0 k && ltI k n then (sizeV P e).bind fun s => partV P e cs (k.toNat * s) else none
  | some .string, .string s, .int _ k => bif leI 0 k then (s[k.toNat]?).map fun b => .int .u8 b.toNat else none
  | _, _, _ => none

def indexAddrV (P : Program) (t : TypeId) (x i : Value) : Option Value :=
  match P.underlying t, x, i with
  | some (.array n e), .pointer (some a), .int _ k => bif leI 0 k && ltI k n then (sizeV P e).map fun s => .pointer (some (a.add (k.toNat * s))) else none
  | some (.slice e), .slice (some a) n _, .int _ k => bif leI 0 k && ltI k n then (sizeV P e).map fun s => .pointer (some (({ a with spot := none } : Addr).add (k.toNat * s))) else none
  | _, _, _ => none

def boundV (x : Value) (y : Nat) : Option Nat :=
  match x with
  | .int _ i => bif leI 0 i && leI i y then some i.toNat else none
  | _ => none

/-- low, high, max: as they come out. -/
def boundsV (len cap : Nat) (low high max : Option Value) : Option (Nat × Nat × Nat) :=
  (match max with | some v => boundV v cap | none => some cap).bind fun m =>
  (match high, max with | some v, _ => boundV v m | none, none => some len | none, some _ => none).bind fun h =>
  (match low with | some v => boundV v h | none => some 0).map fun l => (l, h, m)

/-- A slice expression; two values where Go's own answer hangs on a room that is not known. -/
def sliceV (P : Program) (t : TypeId) (x : Value) (lo hi mx : Option Value) : Option (Value × Option Value) :=
  match P.underlying t, x with
  | some .string, .string s => match mx with
    | none => (boundsV s.size s.size lo hi none).map fun b => (.string (s.extract b.1 b.2.1), none)
    | some _ => none
  | some (.slice e), .slice none len cap => (sizeV P e).bind fun _ => (boundsV len cap lo hi mx).map fun b => (.slice none (b.2.1 - b.1) (b.2.2 - b.1), none)
  | some (.slice e), .slice (some a) len cap =>
    (sizeV P e).bind fun size => (boundsV len cap lo hi mx).bind fun b =>
      match a.spot, mx with
      | some s, none => bif Nat.beq s size then
          (bif Nat.blt b.1 cap then some (.slice (some { (a.add (b.1 * size)) with spot := some s }) (b.2.1 - b.1) (cap - b.1), none)
           else bif Nat.beq b.1 cap && Nat.beq b.2.1 b.1 then some (.slice (some { a with spot := none }) 0 0, some (.slice (some { (a.add (b.1 * size)) with spot := some s }) 0 0)) else none)
          else none
      | _, _ => some (.slice (some (bif Nat.beq b.2.2 b.1 then { a with spot := none } else ({ a with spot := none } : Addr).add (b.1 * size))) (b.2.1 - b.1) (b.2.2 - b.1), none)
  | some (.array n e), .pointer (some a) =>
    (sizeV P e).bind fun size => (boundsV n n lo hi mx).map fun b => (.slice (some (bif Nat.beq b.2.2 b.1 then a else a.add (b.1 * size))) (b.2.1 - b.1) (b.2.2 - b.1), none)
  | some (.pointer arr), .pointer (some a) => match P.underlying arr with
    | some (.array n e) =>
      (sizeV P e).bind fun size => (boundsV n n lo hi mx).map fun b => (.slice (some (bif Nat.beq b.2.2 b.1 then a else a.add (b.1 * size))) (b.2.1 - b.1) (b.2.2 - b.1), none)
    | _ => none
  | _, _ => none

def lenV (P : Program) (t : Option TypeId) (x : Option Value) : Option Value :=
  match t.bind P.underlying, x with
  | some .string, some (.string s) => some (.int .i64 s.size)
  | some (.slice _), some (.slice _ n _) => some (.int .i64 n)
  | _, _ => none

def plainFn : Fn → Bool
  | .yield _ => false
  | _ => true

def nilCheckV : Value → Option Value
  | .pointer (some a) => some (.pointer (some a))
  | .func (.func f) a c => some (.func (.func f) a c)
  | .iface t v => some (.iface t v)
  | _ => none

def builtV (P : Program) (t : TypeId) (parts : List (Nat × Value)) : Option Value :=
  match (P.info? t).bind (·.zero) with
  | some z => bif closed z then (P.built t parts).map .agg else none
  | none => none

def ifaceV (P : Program) (t : TypeId) (x : Value) : Option Value :=
  match P.underlying t with
  | some (.interface _) | none => none
  | some _ => some (.iface t x)

def minMaxV (P : Program) (s : Sem Value) (args : List Value) : Option Value :=
  bif args.all scalar then ifScalar (pureRun P s) else none

/-- The value of an operation that hangs on its operands alone. -/
def pureOp (P : Program) (ev : Operand → Value) (o : Oper) : Option Value :=
  match o.op with
  | .move x | .assign x => some (ev x)
  | .pick c a b => match ev c with
    | .bool t => some (bif t then ev a else ev b)
    | _ => none
  | .binOp op t x y _ => binV P ev op t x y
  | .unOp op _ x => bif scalar (ev x) then ifScalar (pureRun P (Op.unary op (ev x))) else none
  | .fieldAddr s x f => fieldAddrV P s (ev x) f
  | .field t x f => fieldV P t (ev x) f
  | .index t x i => indexV P t (ev x) (ev i)
  | .indexAddr t x i => indexAddrV P t (ev x) (ev i)
  | .makeInterface t x => ifaceV P t (ev x)
  | .makeFunc fn first captured => bif plainFn fn then some (.func fn (mapA ev first) (mapA ev captured)) else none
  | .extract t i => match ev t with
    | .tuple vs => vs[i]?
    | _ => none
  | .nilCheck x => nilCheckV (ev x)
  | .build t parts => builtV P t (parts.toList.map fun p => (p.1, ev p.2))
  | .slice t x lo hi mx => match sliceV P t (ev x) (lo.map ev) (hi.map ev) (mx.map ev) with
    | some (v, none) => some v
    | _ => none
  | .convert s d x => bif scalar (ev x) then ifScalar (pureRun P (convert s d (ev x))) else none
  | .call c => match c.callee with
    | .builtin .min => minMaxV P (Builtin.min_ c.argTypes o.type (c.args.toList.map ev).toArray) (c.args.toList.map ev)
    | .builtin .max => minMaxV P (Builtin.max_ c.argTypes o.type (c.args.toList.map ev).toArray) (c.args.toList.map ev)
    | _ => lenV P (c.argTypes[0]?) ((c.args.toList.head?).map ev)
  | _ => none

/-! ### Operations that read or write memory -/

def zeroC (P : Program) (t : TypeId) : Sem Value :=
  match (P.info? t).bind (·.zero) with
  | some z => bif closed z then pure z else stuck ""
  | none => stuck ""

def sizeS (P : Program) (t : TypeId) : Sem Nat :=
  match sizeV P t with
  | some n => pure n
  | none => stuck ""

def loadList (a : Addr) : Nat → Nat → Sem (List Value)
  | 0, _ => pure []
  | n + 1, i => do
    let v ← load (a.add i)
    let r ← loadList a n (i + 1)
    pure (v :: r)

def loadS (P : Program) (t : TypeId) (a : Addr) : Sem Value :=
  match P.underlying t with
  | some (.struct _) | some (.array _ _) => do
    let n ← sizeS P t
    pure (.agg (← loadList a n 0).toArray)
  | some _ => load a
  | none => stuck ""

def storeS (P : Program) (t : TypeId) (a : Addr) (v : Value) : Sem Unit :=
  match sizeV P t with
  | some n => bif Nat.beq v.cells.size n then storeCells a v.cells.toList else stuck ""
  | none => stuck ""

def newVarS (t : TypeId) (v : Value) : Sem Value := do
  let r ← newObj (.cells v.cells t)
  pure (.pointer (some ⟨r, 0, none⟩))

/-- n copies of a row of cells. -/
def copies (z : List Value) : Nat → List Value
  | 0 => []
  | n + 1 => z ++ copies z n

def buildSliceS (P : Program) (t : TypeId) (len : Nat) (parts : List (Nat × Value)) : Sem Value :=
  match P.underlying t with
  | some (.slice e) => match sizeV P e with
    | some size => bif Nat.ble (len * size) 16777216 then do
        let z ← zeroC P e
        bif !Nat.beq z.cells.size size then stuck "" else
        match Instr.fill (fun i => some (i * size, size)) (copies z.cells.toList len).toArray parts with
        | some cs => do
          let r ← newObj (.cells cs e)
          pure (.slice (some ⟨r, 0, none⟩) len len)
        | none => stuck ""
      else stuck ""
    | none => stuck ""
  | _ => stuck ""

def makeSliceS (P : Program) (t : TypeId) (len cap : Value) : Sem Value :=
  match P.underlying t, len, cap with
  | some (.slice e), .int _ l, .int _ c => match P.info? e with
    | some i => bif leI 0 l && leI l c && leI (c * i.bytes) 140737488355328 && leI c 140737488355328 then do
        let z ← zeroC P e
        bif !Nat.beq z.cells.size i.size then stuck "" else do
        let r ← newObj (.cells (copies z.cells.toList c.toNat).toArray e)
        pure (.slice (some ⟨r, 0, none⟩) l.toNat c.toNat)
      else stuck ""
    | none => stuck ""
  | _, _, _ => stuck ""

/-- Where a key stands among entries. -/
def findV (P : Program) (kt : TypeId) (k : Value) (es : List MapEntry) : Option (Option (Nat × Value)) :=
  bif closed k && es.all (fun e => closed e.key) then
    (pureRun P (Instr.checkKey true 10000 kt k)).bind fun _ => (pureRun P (Instr.checkKey false 10000 kt k)).bind fun _ => pureRun P (Instr.findKey kt k es)
  else none

def findS (P : Program) (kt : TypeId) (k : Value) (es : List MapEntry) : Sem (Option (Nat × Value)) :=
  match findV P kt k es with
  | some r => pure r
  | none => stuck ""

def entriesS (m : Value) : Sem (Array MapEntry) :=
  match m with
  | .map none => pure #[]
  | .map (some r) => do
    match ← getObj r with
    | .map es _ => pure es
    | _ => stuck ""
  | _ => stuck ""

def lookupS (P : Program) (t : TypeId) (m k : Value) (ok : Bool) : Sem Value :=
  match P.underlying t with
  | some (.map kt et) => do
    let es ← entriesS m
    match ← findS P kt k es.toList with
    | some (_, v) => pure (bif ok then .tuple #[v, .bool true] else v)
    | none => do
      let z ← zeroC P et
      pure (bif ok then .tuple #[z, .bool false] else z)
  | _ => stuck ""

def setKV (es : Array MapEntry) (i : Nat) (k v : Value) : Array MapEntry :=
  match es[i]? with
  | some e => es.setIfInBounds i { key := k, val := v, born := e.born }
  | none => es

def setVal (es : Array MapEntry) (i : Nat) (v : Value) : Array MapEntry :=
  match es[i]? with
  | some e => es.setIfInBounds i { key := e.key, val := v, born := e.born }
  | none => es

def mapUpdateS (P : Program) (t : TypeId) (m k v : Value) : Sem Unit :=
  match P.underlying t, m with
  | some (.map kt _), .map (some r) => do
    match ← getObj r with
    | .map es clock => do
      match ← findS P kt k es.toList with
      | some (i, _) => bif (match es[i]? with | some e => Instr.sameBits 10000 e.key k | none => false) then setObj r (.map (setKV es i k v) clock) else stuck ""
      | none => setObj r (.map (es.push { key := k, val := v, born := clock }) (clock + 1))
    | _ => stuck ""
  | _, _ => stuck ""

def mapEntryS (P : Program) (t : TypeId) (m k : Value) : Sem Value :=
  match P.underlying t, m with
  | some (.map kt et), .map (some r) => do
    match ← getObj r with
    | .map es clock => do
      match ← findS P kt k es.toList with
      | some (i, v) => match es[i]? with
        | some e => bif Instr.sameBits 10000 e.key k then do
            setObj r (.map (setKV es i k e.val) clock)
            pure (.tuple #[v, .int .i64 e.born])
          else stuck ""
        | none => stuck ""
      | none => do
        let z ← zeroC P et
        setObj r (.map (es.push { key := k, val := z, born := clock }) (clock + 1))
        pure (.tuple #[z, .int .i64 clock])
    | _ => stuck ""
  | _, _ => stuck ""

def bornAt : List MapEntry → Int → Nat → Option Nat
  | [], _, _ => none
  | e :: l, b, i => bif leI e.born b && leI b e.born then some i else bornAt l b (i + 1)

def entryStoreS (m stamp v : Value) : Sem Unit :=
  match m, stamp with
  | .map (some r), .int _ b => do
    match ← getObj r with
    | .map es clock => match bornAt es.toList b 0 with
      | some i => setObj r (.map (setVal es i v) clock)
      | none => stuck ""
    | _ => stuck ""
  | _, _ => stuck ""

def deleteS (P : Program) (t : Option TypeId) (m k : Option Value) : Sem Value :=
  match t.bind P.underlying, m, k with
  | some (.map kt _), some (.map (some r)), some k => do
    match ← getObj r with
    | .map es clock => do
      match ← findS P kt k es.toList with
      | some (i, _) => do
        setObj r (.map (es.toList.eraseIdx i).toArray clock)
        pure (.tuple #[])
      | none => do
        setObj r (.map es clock)
        pure (.tuple #[])
    | _ => stuck ""
  | _, _, _ => stuck ""

def rangeS (P : Program) (t : TypeId) (x : Value) : Sem Value :=
  match P.underlying t, x with
  | some .string, .string s => do
    let r ← newObj (.stringIter s 0)
    pure (.pointer (some ⟨r, 0, none⟩))
  | some (.map _ _), .map none => do
    let r ← newObj (.mapIter none 0 #[] 0)
    pure (.pointer (some ⟨r, 0, none⟩))
  | some (.map _ _), .map (some m) => do
    match ← getObj m with
    | .map _ clock => do
      let r ← newObj (.mapIter (some m) clock #[] clock)
      pure (.pointer (some ⟨r, 0, none⟩))
    | _ => stuck ""
  | _, _ => stuck ""

/-- What may come next in a range over a map. -/
def leftOf (es : Array MapEntry) (since : Nat) (seen : Array Nat) : List (Option MapEntry) :=
  let left := es.toList.filter fun e => !seen.toList.contains e.born
  let old := left.filter fun e => Nat.blt e.born since
  (match old with | [] => [none] | _ => []) ++ (old ++ left.filter fun e => !Nat.blt e.born since).map some

def aAll : List Nat → (Nat → Prop) → Prop
  | [], _ => True
  | [i], F => F i
  | i :: j :: l, F => F i ∧ aAll (j :: l) F

def aNext (P : Program) (it : Value) (isString : Bool) (h : Heap) (Q : Value → Heap → Prop) : Prop :=
  match it with
  | .pointer (some ⟨r, 0, _⟩) => match h.get r, isString with
    | some (.stringIter s pos), true =>
      bif Nat.blt pos s.size then
        (match Utf8.decode s pos with
         | (c, w) => aSem P (setObj r (.stringIter s (pos + w))) h fun _ h' => Q (.tuple #[.bool true, .int .i64 pos, .int .i32 c]) h')
      else Q (.tuple #[.bool false]) h
    | some (.mapIter none _ _ _), false => Q (.tuple #[.bool false]) h
    | some (.mapIter (some m) since seen last), false => match h.get m with
      | some (.map es clock) =>
        bif (!seen.toList.isEmpty && !es.toList.isEmpty && es.toList.all fun e => Nat.ble last e.born) then False else
        let cs := leftOf es since seen
        aAll (List.range cs.length) fun k => match cs[k]? with
          | some (some e) => aSem P (setObj r (.mapIter (some m) since (seen.push e.born) clock)) h fun _ h' => Q (.tuple #[.bool true, e.key, e.val]) h'
          | some none => Q (.tuple #[.bool false]) h
          | none => False
      | _ => False
    | _, _ => False
  | _ => False

def lastSeen (es : List MapEntry) (b : Nat) : Option MapEntry :=
  match es with
  | [] => none
  | e :: l => bif Nat.beq e.born b then some e else lastSeen l b

def entryIn (es : List MapEntry) (b : Nat) (ok : Bool) : Sem Value :=
  match lastSeen es b, ok with
  | some e, true => pure (.tuple #[e.key, e.val])
  | _, _ => stuck ""

def entryS (it : Value) : Sem Value :=
  match it with
  | .pointer (some ⟨r, 0, _⟩) => do
    let o ← getObj r
    match o with
    | .mapIter (some m) _ seen stepped => match seen.back? with
      | some b => do
        let o' ← getObj m
        match o' with
        | .map es clock => entryIn es.toList b (Nat.beq clock stepped)
        | _ => stuck ""
      | none => stuck ""
    | _ => stuck ""
  | _ => stuck ""

def typeAssertS (P : Program) (x : Value) (t : TypeId) (ok : Bool) : Sem Value :=
  match P.underlying t, x with
  | some (.interface _), _ | none, _ => stuck ""
  | some _, .nilIface => bif ok then do
      let z ← zeroC P t
      pure (.tuple #[z, .bool false]) else stuck ""
  | some _, .iface u v => bif Nat.beq u t then pure (bif ok then .tuple #[v, .bool true] else v)
      else bif ok then do
        let z ← zeroC P t
        pure (.tuple #[z, .bool false]) else stuck ""
  | some _, _ => stuck ""

def lenS (P : Program) (t : Option TypeId) (x : Option Value) : Sem Value :=
  match t.bind P.underlying, x with
  | some (.map _ _), some (.map none) => pure (.int .i64 0)
  | some (.map _ _), some (.map (some r)) => do
    match ← getObj r with
    | .map es _ => pure (.int .i64 es.size)
    | _ => stuck ""
  | some (.array n _), some _ => pure (.int .i64 n)
  | _, _ => match lenV P t x with
    | some v => pure v
    | none => stuck ""

def cellsOfS (x : Value) (size n : Nat) : Sem (List Value) :=
  match x with
  | .slice (some a) _ _ => loadList { a with spot := none } (n * size) 0
  | .slice none _ _ => pure []
  | .string s => pure ((s.data.toList.take n).map fun b => .int .u8 b.toNat)
  | _ => stuck ""

def lenN : Value → Option Nat
  | .slice _ n _ => some n
  | .string s => some s.size
  | _ => none

def copyS (P : Program) (t : Option TypeId) (dst src : Option Value) : Sem Value :=
  match t.bind P.underlying, dst, src.bind lenN, src with
  | some (.slice e), some (.slice base n _), some m, some src => do
    let size ← sizeS P e
    let k := Nat.min m n
    let cs ← cellsOfS src size k
    match base with
    | some a => do
      storeCells { a with spot := none } cs
      pure (.int .i64 k)
    | none => pure (.int .i64 k)
  | _, _, _, _ => stuck ""

def clearS (P : Program) (t : Option TypeId) (x : Option Value) : Sem Value :=
  match t.bind P.underlying, x with
  | some (.slice e), some (.slice (some a) n _) => bif Nat.beq n 0 then pure (.tuple #[]) else do
    let z ← zeroC P e
    storeCells { a with spot := none } (copies z.cells.toList n)
    pure (.tuple #[])
  | some (.slice _), some (.slice none _ _) => pure (.tuple #[])
  | some (.map _ _), some (.map none) => pure (.tuple #[])
  | some (.map _ _), some (.map (some r)) => do
    match ← getObj r with
    | .map _ clock => do
      setObj r (.map #[] clock)
      pure (.tuple #[])
    | _ => stuck ""
  | _, _ => stuck ""

/-! ### append -/

/-- What is appended: its number and its cells. -/
def newCells (P : Program) (e : TypeId) (size : Nat) (zeros : Bool) (x : Value) : Sem (Nat × List Value) :=
  match zeros, x with
  | true, .int _ l => bif leI 0 l && leI l 140737488355328 then do
      let z ← zeroC P e
      pure (l.toNat, copies z.cells.toList l.toNat)
      else stuck ""
  | false, x => match lenN x with
    | some n => do
      let cs ← cellsOfS x size n
      pure (n, cs)
    | none => stuck ""
  | _, _ => stuck ""

/-- A new row that has been grown. -/
def aGrown (e : TypeId) (size need : Nat) (fr : Nat × Nat) (cs : List Value) (h : Heap) (Q : Value → Heap → Prop) : Prop :=
  Q (.slice (some ⟨h.next, 0, some size⟩) need need) (h.alloc (.cells cs.toArray e fr))

/-- Has a type a zero value of so many cells? -/
def zeroFits (P : Program) (e : TypeId) (size : Nat) : Bool :=
  match (P.info? e).bind (·.zero) with
  | some z => Nat.beq z.cells.size size
  | none => false

def aAppendTo (P : Program) (base : Option Addr) (len cap size bytes : Nat) (e : TypeId) (n : Nat) (cs : List Value) (h : Heap) (Q : Value → Heap → Prop) : Prop :=
  bif Nat.beq n 0 then (bif Nat.ble len cap then Q (.slice base len cap) h else False) else
  bif !Nat.ble ((len + n) * bytes) 140737488355328 || !Nat.ble (len + n) 140737488355328 || Nat.beq size 0 || Nat.beq bytes 0 || !Nat.beq cs.length (n * size) || !zeroFits P e size then False else
  match base with
  | none => bif Nat.beq len 0 && Nat.beq cap 0 then aGrown e size n (0, 0) cs h Q else False
  | some a => bif Nat.ble (len + n) cap
      then aSem P (storeCells (({ a with spot := none } : Addr).add (len * size)) cs) h fun _ h' => Q (.slice base (len + n) cap) h'
      else aSem P (loadList { a with spot := none } (len * size) 0) h fun old h' =>
        match a.spot with
        | none => aGrown e size (len + n) (0, 0) (old ++ cs) h' Q
        | some s => bif Nat.beq s size && cs.all oneCell && !pinnedBlock a.block h'.pins then
            (match h'.get a.block with
             | some (.cells _ e0 fr) => bif free fr && Nat.beq e0 e then aGrown e size (len + n) fr (old ++ cs) (h'.put a.block none) Q else False
             | _ => False) else False

/-- Are zeros appended, by their number? -/
def zerosV (P : Program) : Option TypeId → Option Bool
  | none => some false
  | some t => match P.underlying t with
    | some (.int _) => some true
    | some (.slice _) | some .string => some false
    | _ => none

def aAppend (P : Program) (argTypes : Array TypeId) (args : List Value) (h : Heap) (Q : Value → Heap → Prop) : Prop :=
  match argTypes[0]?, args with
  | some st, [.slice base len cap, x] =>
    match P.underlying st with
    | some (.slice e) =>
      match P.info? e, zerosV P argTypes[1]? with
      | some ei, some zs => aSem P (newCells P e ei.size zs x) h fun nc h' => aAppendTo P base len cap ei.size ei.bytes e nc.1 nc.2 h' Q
      | _, _ => False
    | _ => False
  | _, _ => False

def flagged : Value → Bool
  | .slice (some a) _ _ => a.spot.isSome
  | _ => false

def capV (P : Program) (t : Option TypeId) (x : Option Value) : Option Value :=
  match t.bind P.underlying, x with
  | some (.slice _), some (.slice none _ n) => some (.int .i64 n)
  | some (.slice _), some (.slice (some a) _ n) => bif a.spot.isNone then some (.int .i64 n) else none
  | _, _ => none

def aVal (o : Option Value) (h : Heap) (Q : Value → Heap → Prop) : Prop :=
  match o with
  | some v => Q v h
  | none => False

def aBuiltin (P : Program) (b : Builtin) (argTypes : Array TypeId) (type : TypeId) (args : List Value) (h : Heap) (Q : Value → Heap → Prop) : Prop :=
  match b with
  | .append => aAppend P argTypes args h Q
  | .len => aSem P (lenS P argTypes[0]? args[0]?) h Q
  | .min => aVal (minMaxV P (Builtin.min_ argTypes type args.toArray) args) h Q
  | .max => aVal (minMaxV P (Builtin.max_ argTypes type args.toArray) args) h Q
  | .delete => aSem P (deleteS P argTypes[0]? args[0]? args[1]?) h Q
  | .copy => aSem P (copyS P argTypes[0]? args[0]? args[1]?) h Q
  | .clear => aSem P (clearS P argTypes[0]? args[0]?) h Q
  | .cap => aVal (capV P argTypes[0]? args[0]?) h Q
  | _ => False

/-! ### Calls of what has no body -/

/-- The body-less functions that are known: what each does. -/
inductive Ext where
  | mark0
  | mark1
  | cas (k : IntKind)
  | add (k : IntKind)
  | loadInt (k : IntKind)
  | mapClone
  deriving DecidableEq, Inhabited

abbrev Exts := List (FuncId × Ext)

def Exts.find : Exts → FuncId → Option Ext
  | [], _ => none
  | (g, e) :: l, f => bif Nat.beq g f then some e else Exts.find l f

def readInt (k : IntKind) (a : Addr) : Sem Int := do
  match ← load a .atomic with
  | .int k' n => if k = k' then pure n else stuck ""
  | _ => stuck ""

def Ext.sem (x : Ext) (args : List Value) : Sem Value :=
  match x, args with
  | .mark0, [] => pure (.tuple #[])
  | .mark1, [.pointer (some _)] => pure (.tuple #[])
  | .cas k, [.pointer (some a), .int _ old, .int k' new] => do
    let x ← readInt k a
    if x = old then
      store a (.int k' new) .atomic
      pure (.bool true)
    else stuck ""
  | .add k, [.pointer (some a), .int _ y] => do
    let x ← readInt k a
    store a (.int k (k.wrap (x + y))) .atomic
    pure (.int k (k.wrap (x + y)))
  | .loadInt k, [.pointer (some a)] => do pure (.int k (← readInt k a))
  | .mapClone, [.iface t (.map (some r))] => do
    match ← getObj r with
    | .map es clock => do
      let n ← newObj (.map es clock)
      pure (.iface t (.map (some n)))
    | _ => stuck ""
  | _, _ => stuck ""

def aExtern (P : Program) (X : Exts) (f : FuncId) (args : List Value) (h : Heap) (Q : Next → Heap → Prop) : Prop :=
  match X.find f with
  | some e => aSem P (e.sem args) h fun v h' => Q (.value v) h'
  | none => False

def aFunc (P : Program) (X : Exts) (f : FuncId) (args : List Value) (h : Heap) (Q : Next → Heap → Prop) : Prop :=
  match P.funcs[f]? with
  | some fn => match fn.body with
    | some _ => Q (.enter f args.toArray) h
    | none => aExtern P X f args h Q
  | none => False

def methodIn : List Method → String → Option Method
  | [], _ => none
  | m :: l, n => bif m.name == n then some m else methodIn l n

/-- A method of a value in an interface, its receiver the value itself. -/
def methodV (P : Program) (t : TypeId) (name : String) : Option FuncId :=
  (P.info? t).bind fun i => (methodIn i.methods.toList name).bind fun m =>
    bif m.path.toList.isEmpty then
      (match m.func, P.underlying t with
       | some (f, true), some (.pointer _) => some f
       | some (_, _), some (.pointer _) => none
       | some (f, false), some _ => some f
       | _, _ => none)
    else none

def setAll : List Tmp → List Value → Array Value → Array Value
  | t :: ts, v :: vs, a => setAll ts vs (a.setIfInBounds t v)
  | _, _, a => a

def yieldS (l : Nat) (args : List Value) : Sem Next := do
  match ← getObj l with
  | .loop r => bif Nat.beq args.length r.params.size then pure (.round l r.fn (setAll r.params.toList args r.tmps) r.assign r.body) else stuck ""
  | _ => stuck ""

def aTarget (P : Program) (X : Exts) (fn : Fn) (cap args : List Value) (h : Heap) (Q : Next → Heap → Prop) : Prop :=
  match fn with
  | .func f => aFunc P X f (args ++ cap) h Q
  | .method name => match args with
    | .iface t v :: r => match methodV P t name with
      | some f => aFunc P X f (v :: r) h Q
      | none => False
    | _ => False
  | .yield l => aSem P (yieldS l args) h Q
  | _ => False

def aInvoke (P : Program) (X : Exts) (d : Deferred) (h : Heap) (Q : Next → Heap → Prop) : Prop :=
  match d.target with
  | .fn fn cap => aTarget P X fn cap.toList d.args.toList h Q
  | _ => False

/-- What a call's callee and operands come to. -/
def deferV (ev : Operand → Value) (c : Call) : Option Deferred :=
  match c.callee with
  | .builtin _ => none
  | .invoke recv name => some { target := .fn (.method name) #[], args := (ev recv :: c.args.toList.map ev).toArray }
  | .value f => match ev f with
    | .func fn first captured => some { target := .fn fn captured, args := (first.toList ++ c.args.toList.map ev).toArray }
    | _ => none

/-! ### Conversions -/

def isStringToBytes (P : Program) (src dst : TypeId) (x : Value) : Option (TypeId × ByteArray) :=
  match P.underlying src, P.underlying dst, x with
  | some .string, some (.slice e), .string s => match P.underlying e with
    | some (.int .u8) => some (e, s)
    | _ => none
  | _, _, _ => none

/-- Bytes out of cells. -/
def bytesOf : List Value → Option (List UInt8)
  | [] => some []
  | .int .u8 n :: l => (bytesOf l).map fun r => UInt8.ofNat n.toNat :: r
  | _ => none

def bytesS (x : Value) : Sem Value :=
  match x with
  | .slice none _ _ => pure (.string ⟨#[]⟩)
  | .slice (some a) n _ => do
    match bytesOf (← loadList { a with spot := none } n 0) with
    | some l => pure (.string ⟨l.toArray⟩)
    | none => stuck ""
  | _ => stuck ""

def aConvert (P : Program) (src dst : TypeId) (x : Value) (h : Heap) (Q : Value → Heap → Prop) : Prop :=
  bif scalar x then
    (match isStringToBytes P src dst x with
     | some (e, s) => Q (.slice (some ⟨h.next, 0, some 1⟩) s.size s.size) (h.alloc (.cells (s.data.toList.map fun b => Value.int .u8 b.toNat).toArray e (1, 1)))
     | none => aVal (ifScalar (pureRun P (convert src dst x))) h Q)
  else match P.underlying src, P.underlying dst, x with
  | some (.slice _), some (.slice e), .slice (some a) _ _ =>
    bif Nat.beq src dst then
      (match P.underlying e, h.get a.block with
       | some (.int .u8), some (.cells c t fr) => bif free fr then Q x (h.put a.block (some (.cells c t (1, 1)))) else False
       | _, _ => False)
    else False
  | some (.pointer t), some .unsafePointer, .pointer (some a) =>
    (match h.get a.block, sizeV P t with
     | some (.cells c _ _), some n => bif Nat.blt a.off c.size && !Nat.beq n 0 then Q x h else False
     | _, _ => False)
  | some (.slice e), some .string, .slice _ _ _ => match P.underlying e with
    | some (.int .u8) => aSem P (bytesS x) h Q
    | _ => False
  | _, _, _ => False

/-! ### Operations -/

/-- 0: yields its value whatever the world · 1: reads memory · 2: all else. -/
def classOf (P : Program) : Op → Nat
  | .move _ | .assign _ | .pick .. | .binOp .. | .unOp .. | .fieldAddr .. | .field .. | .index .. | .indexAddr .. | .makeInterface .. | .makeFunc .. | .extract .. | .nilCheck _ | .build .. => 0
  | .slice .. => 0
  | .load .. => 1
  | .convert s d _ => match P.underlying s, P.underlying d with
    | some (.int _), some (.int _) => 0
    | _, _ => 2
  | .call c => match c.callee with
    | .builtin .min | .builtin .max => 0
    | .builtin .len => match (c.argTypes[0]?).bind P.underlying with
      | some (.slice _) | some .string => 0
      | _ => 2
    | _ => 2
  | _ => 2

def aV (P : Program) (s : Sem Value) (h : Heap) (Q : Next → Heap → Prop) : Prop := aSem P s h fun v h' => Q (.value v) h'
def aU (P : Program) (s : Sem Unit) (h : Heap) (Q : Next → Heap → Prop) : Prop := aSem P s h fun _ h' => Q .skip h'

def addrOf : Value → Option Addr
  | .pointer (some a) => some a
  | _ => none

def aOp2 (P : Program) (X : Exts) (ev : Operand → Value) (o : Oper) (h : Heap) (Q : Next → Heap → Prop) : Prop :=
  match o.op with
  | .call c => match c.callee with
    | .builtin b => aBuiltin P b c.argTypes o.type (c.args.toList.map ev) h fun v h' => Q (.value v) h'
    | _ => match deferV ev c with
      | some d => aInvoke P X d h Q
      | none => False
  | .defer c => match deferV ev c with
    | some d => Q (.defer d) h
    | none => False
  | .convert src dst x => aConvert P src dst (ev x) h fun v h' => Q (.value v) h'
  | .alloc t => aV P (do newVarS t (← zeroC P t)) h Q
  | .box t x => aV P (newVarS t (ev x)) h Q
  | .buildSlice t n parts => aV P (buildSliceS P t n (parts.toList.map fun p => (p.1, ev p.2))) h Q
  | .load t x => match addrOf (ev x) with
    | some a => aV P (loadS P t a) h Q
    | none => False
  | .store t x v => match addrOf (ev x) with
    | some a => aU P (storeS P t a (ev v)) h Q
    | none => False
  | .makeMap _ r => match r with
    | none => aV P (do pure (.map (some (← newObj (.map #[] 0))))) h Q
    | some _ => False
  | .makeSlice t l c => aV P (makeSliceS P t (ev l) (ev c)) h Q
  | .lookup t m k ok => match P.underlying t with
    | some (.map _ _) => aV P (lookupS P t (ev m) (ev k) ok) h Q
    | _ => False
  | .mapUpdate t m k v | .insert t m k v => aU P (mapUpdateS P t (ev m) (ev k) (ev v)) h Q
  | .mapEntry t m k => aV P (mapEntryS P t (ev m) (ev k)) h Q
  | .entryStore _ m s v => aU P (entryStoreS (ev m) (ev s) (ev v)) h Q
  | .range t x => aV P (rangeS P t (ev x)) h Q
  | .next it isString => aNext P (ev it) isString h fun v h' => Q (.value v) h'
  | .entry it => aV P (entryS (ev it)) h Q
  | .typeAssert x _ t ok => aV P (typeAssertS P (ev x) t ok) h Q
  | _ => False

/-- Two pointers to two blocks. -/
def twoBlocks (P : Program) (t : TypeId) (x y : Value) (h : Heap) : Bool :=
  match P.underlying t, x, y with
  | some (.pointer e), .pointer (some a), .pointer (some b) =>
    !Nat.beq a.block b.block && (match sizeV P e with | some n => !Nat.beq n 0 | none => false) &&
    (match h.get a.block, h.get b.block with
     | some (.cells c _ (0, 0)), some (.cells d _ (0, 0)) => Nat.blt a.off c.size && Nat.blt b.off d.size
     | _, _ => false)
  | _, _, _ => false

def aOp (P : Program) (X : Exts) (ev : Operand → Value) (o : Oper) (h : Heap) (Q : Next → Heap → Prop) : Prop :=
  bif Nat.beq (classOf P o.op) 0 then
    (match pureOp P ev o with
     | some v => Q (.value v) h
     | none => match o.op with
       | .slice t x lo hi mx => match sliceV P t (ev x) (lo.map ev) (hi.map ev) (mx.map ev) with
         | some (v, some w) => Q (.value v) h ∧ Q (.value w) h
         | _ => False
       | .binOp .eql t x y _ => bif twoBlocks P t (ev x) (ev y) h then Q (.value (.bool false)) h else False
       | .binOp .neq t x y _ => bif twoBlocks P t (ev x) (ev y) h then Q (.value (.bool true)) h else False
       | _ => False)
  else aOp2 P X ev o h Q

/-! ### Regions -/

def listedOf (n : Nat) (l : List Nat) : Array Bool := l.foldl (fun a i => a.setIfInBounds i true) (Array.replicate n false)

inductive Move where
  | done
  | take (i : Nat)
  | all (l : List Nat)

/-- How a region goes on: what can be taken first is taken first; else every one that is ready. -/
def moveOf (P : Program) (ops : Array Oper) (l : List Nat) : Move :=
  match Region.ready .any ops (listedOf ops.size l) with
  | [] => .done
  | r :: rs => match (r :: rs).find? (fun i => (match ops[i]? with | some o => Nat.ble (classOf P o.op) 1 | none => false) && Region.free .any ops (listedOf ops.size l) i) with
    | some i => .take i
    | none => .all (r :: rs)

/-- Must i have come before j? -/
def waits (ops : Array Oper) (i : Nat) : Nat → Nat → Bool
  | 0, _ => false
  | f + 1, j => match ops[j]? with
    | some o => o.after.toList.any fun e => Region.binds .any e && (Nat.beq e.on i || waits ops i f e.on)
    | none => false

/-- How many ways there are (for looking only). -/
def wide (P : Program) (ops : Array Oper) : Nat → List Nat → Nat
  | 0, _ => 1
  | f + 1, l => match moveOf P ops l with
    | .done => 1
    | .take i => wide P ops f (i :: l)
    | .all rs => (rs.map fun i => wide P ops f (i :: l)).foldl (· + ·) 0

/-! ### Code and calls -/

structure Lvl where
  call : FuncId → Array Value → Heap → (Value → Heap → Prop) → Prop
  callD : FuncId → Array Value → Heap → (Heap → Prop) → Prop
  code : Option Nat → Code → (Exit → Act → Heap → Prop) → Act → Heap → Prop

def Lvl.bot : Lvl := ⟨fun _ _ _ _ => False, fun _ _ _ _ => False, fun _ _ _ _ _ => False⟩

def exThen (next : Act → Heap → Prop) (Q : Exit → Act → Heap → Prop) : Exit → Act → Heap → Prop
  | .normal, a, h => next a h
  | e, a, h => Q e a h

def exBlock (id : Nat) (Q : Exit → Act → Heap → Prop) : Exit → Act → Heap → Prop
  | .exit id', a, h => bif Nat.beq id' id then Q .normal a h else Q (.exit id') a h
  | e, a, h => Q e a h

def getLoopS (l : Nat) : Sem Loop := do
  match ← getObj l with
  | .loop r => pure r
  | _ => stuck ""

def beginS (l : Nat) : Sem Unit := do
  let r ← getLoopS l
  match r.state with
  | .ready => setObj l (.loop { r with state := .busy })
  | _ => stuck ""

def endS (l : Nat) (jump : Option Code) : Sem Value := do
  let r ← getLoopS l
  match jump with
  | none => do
    setObj l (.loop { r with state := .ready, pending := none })
    pure (.bool true)
  | some c => do
    setObj l (.loop { r with state := .done, pending := some c })
    pure (.bool false)

def endLoopS (l : Nat) : Sem (Option Code) := do
  let r ← getLoopS l
  match r.state with
  | .busy => stuck ""
  | _ => do
    setObj l (.loop { r with state := .exhausted })
    pure r.pending

def enterS (tmps : Array Value) (ps : Array Tmp) (assign body : Code) (rd : Option Nat) : Sem (Nat × List Deferred) :=
  match rd with
  | some l => do
    let r ← getLoopS l
    let n ← newObj (.loop { state := .ready, pending := none, fn := 0, tmps := tmps, params := ps, assign := assign, body := body, defers := r.defers })
    pure (n, [])
  | none => do
    let d ← newObj (.deferred (some []))
    let n ← newObj (.loop { state := .ready, pending := none, fn := 0, tmps := tmps, params := ps, assign := assign, body := body, defers := d })
    pure (n, [{ target := .collected d, args := #[] }])

def takeS (r : Nat) : Sem (List Deferred) := do
  match ← getObj r with
  | .deferred (some ds) => do
    setObj r (.deferred none)
    pure ds
  | _ => stuck ""

/-- A round of a range over a function. -/
def aRound (P : Program) (L : Lvl) (l : Nat) (tmps : Array Value) (assign body : Code) (h : Heap) (R : Value → Heap → Prop) : Prop :=
  L.code (some l) assign (exThen (fun a1 h1 => aSem P (beginS l) h1 fun _ h2 =>
    L.code (some l) body (fun e _ h3 => match e with
      | .normal => aSem P (endS l none) h3 R
      | .ret => aSem P (endS l (some .ret)) h3 R
      | .exit id => aSem P (endS l (some (.exit id))) h3 R
      | .goto t => aSem P (endS l (some (.goto t))) h3 R
      | _ => False) a1 h2) (fun _ _ _ => False)) { tmps := tmps, defers := [] } h

/-- One operation that is wanted, then K. -/
def aOp1 (P : Program) (X : Exts) (L : Lvl) (rd : Option Nat) (o : Oper) (a : Act) (h : Heap) (K : Act → Heap → Prop) : Prop :=
  aOp P X a.eval o h fun nx h' => match nx with
    | .value v => K (a.put o.dst v) h'
    | .skip => K (a.put o.dst undef) h'
    | .defer d => match rd with
      | none => K ({ a with defers := d :: a.defers }.put o.dst undef) h'
      | some _ => False
    | .enter f args => L.call f args h' fun v h'' => K (a.put o.dst v) h''
    | .round l _ tmps assign body => aRound P L l tmps assign body h' fun v h'' => K (a.put o.dst v) h''
    | _ => False

def aAt (P : Program) (X : Exts) (L : Lvl) (rd : Option Nat) (ops : Array Oper) (i : Nat) (K : Act → Heap → Prop) (a : Act) (h : Heap) : Prop :=
  match ops[i]? with
  | none => K a h
  | some o => bif Region.wanted o (yielded ops a.tmps) then aOp1 P X L rd o a h K else K (a.put o.dst undef) h

def aOps (P : Program) (X : Exts) (L : Lvl) (rd : Option Nat) (ops : Array Oper) (Q : Exit → Act → Heap → Prop) : List Nat → Act → Heap → Prop
  | [], a, h => Q .normal a h
  | i :: rest, a, h => aAt P X L rd ops i (aOps P X L rd ops Q rest) a h

/-- The cells that a load reads. -/
def loadsOf (P : Program) (t : TypeId) (a : Addr) : List Addr :=
  match P.underlying t with
  | some (.struct _) | some (.array _ _) => (List.range ((sizeV P t).getD 0)).map fun k => a.add k
  | _ => [a]

abbrev Pins := List (Nat × List Addr)

def pinsOf : Pins → List Addr → List Addr
  | [], p => p
  | x :: l, p => x.2 ++ pinsOf l p

/-- Behind operation j: what had to come before it need be held no more. -/
def unpin (ops : Array Oper) (j : Nat) (l : Pins) : Pins := l.filter fun x => !waits ops x.1 ops.size j

/-- A region that draws its order, from where the operations l have come up; rp: what is held for those that were taken first. -/
def aAny (P : Program) (X : Exts) (L : Lvl) (rd : Option Nat) (ops : Array Oper) (p0 : List Addr) (Q : Exit → Act → Heap → Prop) : Nat → List Nat → Pins → Act → Heap → Prop
  | 0, l, _, a, h => match moveOf P ops l with
    | .done => Q .normal a { h with pins := p0 }
    | _ => False
  | f + 1, l, rp, a, h => match moveOf P ops l with
    | .done => Q .normal a { h with pins := p0 }
    | .take i => (match ops[i]? with
      | none => False
      | some o => bif Region.wanted o (yielded ops a.tmps) then
          (bif Nat.beq (classOf P o.op) 0 then
            (match pureOp P a.eval o with
             | some v => aAny P X L rd ops p0 Q f (i :: l) rp (a.put o.dst v) h
             | none => False)
           else match o.op with
             | .load t x => (match addrOf (a.eval x) with
               | some ad => aSem P (loadS P t ad) h fun v h' => aAny P X L rd ops p0 Q f (i :: l) ((i, loadsOf P t ad) :: rp) (a.put o.dst v) h'
               | none => False)
             | _ => False)
        else aAny P X L rd ops p0 Q f (i :: l) rp (a.put o.dst undef) h)
    | .all rs => aAll rs fun i =>
        aAt P X L rd ops i (fun a' h' => aAny P X L rd ops p0 Q f (i :: l) (unpin ops i rp) a' h') a { h with pins := pinsOf (unpin ops i rp) p0 }

def resList (P : Program) (tmps : Array Value) : List ResultVar → Sem (List Value)
  | [] => pure []
  | .tmp t :: r => do
    let l ← resList P tmps r
    pure (tmps.getD t undef :: l)
  | .cell a t :: r => match addrOf (tmps.getD a undef) with
    | some ad => do
      let v ← loadS P t ad
      let l ← resList P tmps r
      pure (v :: l)
    | none => stuck ""

def resVal : List Value → Value
  | [v] => v
  | l => .tuple l.toArray

def aResults (P : Program) (fn : Func) (tmps : Array Value) (h : Heap) (R : Value → Heap → Prop) : Prop :=
  aSem P (resList P tmps fn.results.toList) h fun l h' => R (resVal l) h'

def aLeave (P : Program) (X : Exts) (L : Lvl) (fn : Func) (tmps : Array Value) (R : Value → Heap → Prop) : List Deferred → Heap → Prop
  | [], h => aResults P fn tmps h R
  | d :: ds, h => match d.target with
    | .collected r => aSem P (takeS r) h fun calls h' => match calls with
      | [] => aLeave P X L fn tmps R ds h'
      | _ => False
    | _ => aInvoke P X d h fun nx h' => match nx with
      | .enter f args => L.callD f args h' fun h'' => aLeave P X L fn tmps R ds h''
      | _ => False

def aRange (P : Program) (X : Exts) (L : Lvl) (rd : Option Nat) (g : Operand) (ps : Array Tmp) (assign body : Code) (Q : Exit → Act → Heap → Prop) (a : Act) (h : Heap) : Prop :=
  aSem P (enterS a.tmps ps assign body rd) h fun x h1 =>
    match a.eval g with
    | .func fn first captured => aTarget P X fn captured.toList (first.toList ++ [.func (.yield x.1) #[] #[]]) h1 fun nx h3 => match nx with
        | .enter f args => L.call f args h3 fun _ h4 => aSem P (endLoopS x.1) h4 fun jump h5 => match jump with
          | none => Q .normal { a with defers := x.2 ++ a.defers } h5
          | some c => L.code rd c Q { a with defers := x.2 ++ a.defers } h5
        | _ => False
    | _ => False

def aCode (P : Program) (X : Exts) (L : Lvl) (rd : Option Nat) (c : Code) (Q : Exit → Act → Heap → Prop) (a : Act) (h : Heap) : Prop :=
  match c with
  | .skip | .label _ => Q .normal a h
  | .region _ ops draw => bif draw
      then aAny P X L rd ops h.pins Q ops.size [] [] a h
      else aOps P X L rd ops Q (List.range ops.size) a h
  | .seq x y => L.code rd x (exThen (L.code rd y Q) Q) a h
  | .cond c x y => match a.eval c with
    | .bool b => L.code rd (bif b then x else y) Q a h
    | _ => False
  | .block id c => L.code rd c (exBlock id Q) a h
  | .loop c => L.code rd c (exThen (L.code rd (.loop c) Q) Q) a h
  | .exit id => Q (.exit id) a h
  | .goto l => Q (.goto l) a h
  | .ret => Q .ret a h
  | .rangeFunc g ps assign body => aRange P X L rd g ps assign body Q a h
  | .scope _ | .refuse _ => False

def enterAct (fn : Func) (args : Array Value) : Act := { tmps := args ++ Array.replicate (fn.ntmps - args.size) undef, defers := [] }

def aCall (P : Program) (X : Exts) (L : Lvl) (f : FuncId) (args : Array Value) (h : Heap) (R : Value → Heap → Prop) : Prop :=
  match P.funcs[f]? with
  | some fn => match fn.body with
    | some c => L.code none c (fun e a h' => match e with
      | .normal | .ret => aLeave P X L fn a.tmps R a.defers h'
      | _ => False) (enterAct fn args) h
    | none => False
  | none => False

def aCallD (P : Program) (L : Lvl) (f : FuncId) (args : Array Value) (h : Heap) (R : Heap → Prop) : Prop :=
  match P.funcs[f]? with
  | some fn => match fn.body with
    | some c => L.code none c (fun e a h' => match e, a.defers with
      | .normal, [] | .ret, [] => aResults P fn a.tmps h' fun _ h'' => R h''
      | _, _ => False) (enterAct fn args) h
    | none => False
  | none => False

def Lvl.up (P : Program) (X : Exts) (L : Lvl) : Lvl := ⟨aCall P X L, aCallD P L, aCode P X L⟩

noncomputable def lvl (P : Program) (X : Exts) (n : Nat) : Lvl := Nat.rec Lvl.bot (fun _ L => L.up P X) n

end Go.Abs
