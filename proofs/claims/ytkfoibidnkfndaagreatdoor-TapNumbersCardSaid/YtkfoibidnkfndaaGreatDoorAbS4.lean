/- Symbolic execution, part 4: the step of the executor. -/
import Derived.Test.YtkfoibidnkfndaaGreatDoorAbS3
set_option linter.unusedSimpArgs false
set_option linter.unusedVariables false
namespace Go.Abs

def showNats : List Nat → String
  | [] => ""
  | n :: l => showNat n ++ "," ++ showNats l

/-- What must be known of what stays when the environment has grown. -/
def grown (nv n : Nat) (k : List Fr) (a : SAct) (pos : Pos) (rd : Option BN) (t : Tree) : Tree :=
  bif Nat.beq n nv || (frsOk nv k && (a.ok nv && (pos.ok nv && rdOk nv rd))) then t else .fail "scope"
def grownH (nv n : Nat) (h : SH) (t : Tree) : Tree :=
  bif Nat.beq n nv || h.ok nv then t else .fail "scope: heap"

inductive W where
  | yes
  | no
  | ask (e : E)
  | bad

def askE (e : E) (y n : W) : W :=
  match e with
  | .tt b => bif b then y else n
  | .not e => .ask e
  | e => .ask e

def pickW (a : SAct) (o : Oper) : W :=
  match o.op with
  | .pick c _ _ => (match a.ev c with
    | .bool e => askE e .yes .yes
    | _ => .bad)
  | _ => .yes

/-- Is an operation wanted, and can it be done? -/
def sReady (ops : Array Oper) (a : SAct) (o : Oper) : W :=
  match o.guard with
  | none => pickW a o
  | some (g, b) => match (ops[g]?).bind (·.dst) with
    | none => .no
    | some d => match nth a.tmps d with
      | .bool (.tt x) => bif boolSame x b then pickW a o else .no
      | .bool e => askE e .bad .bad
      | .tuple _ | .int _ _ | .str _ | .ptr _ | .slice _ _ _ | .func _ _ _ => .no
      | _ => .bad

def split (rec : Cfg → Tree) (e : E) (c : Cfg) : Tree :=
  .br e (rec { c with a := { c.a with tmps := knowV e true c.a.tmps } }) (rec { c with a := { c.a with tmps := knowV e false c.a.tmps } })

def repl : Nat → SV
  | 0 => .nil
  | n + 1 => .cons .undef (repl n)
def appL : SV → SV → SV
  | .cons v l, w => .cons v (appL l w)
  | _, w => w

def enterSAct (fn : Func) (args : List SV) : SAct := { tmps := appL (SV.ofL args) (repl (fn.ntmps - args.length)), defers := [] }

def setAllS : List Tmp → List SV → SV → SV
  | t :: ts, v :: vs, a => setAllS ts vs (setNth a t v)
  | _, _, a => a

/-- A call of a function. -/
def sCall (P : Program) (X : Exts) (H : Hints) (rec : Cfg → Tree) (f : FuncId) (args : List SV) (dst : Option Tmp) (pos : Pos) (c : Cfg) : Tree :=
  match P.funcs[f]? with
  | none => .fail "no such function"
  | some fn => match fn.body with
    | none => (match X.find f with
      | some e => sPrim (.ext e) args c.h (patR P fn.resultTypes.toList c.nv) c.nv fun v h n => grown c.nv n c.k c.a pos c.rd (rec { c with md := .pos pos, a := c.a.put dst v, h := h, nv := n })
      | none => .fail ("extern " ++ fn.name))
    | some _ => bif natMem f H.calls then
        (match patR P fn.resultTypes.toList c.nv with
         | (v, ss) => .call f (SV.ofL args) c.h ss v (keepsOf c.h.ups []) (grown c.nv (c.nv + ss.length + 1) c.k c.a pos c.rd (rec { c with md := .pos pos, a := c.a.put dst v, h := { base := c.nv + ss.length, nxt := 0, ups := keepsOf c.h.ups [], pins := .of (c.nv + ss.length) }, nv := c.nv + ss.length + 1 })))
      else rec { c with md := .code f [], k := .fn f :: .reg c.a dst pos c.rd :: c.k, a := enterSAct fn args, rd := none }

def sYield (P : Program) (rec : Cfg → Tree) (l : BN) (args : List SV) (dst : Option Tmp) (pos : Pos) (c : Cfg) : Tree :=
  match findUp l c.h.ups [] with
  | ([], some (.loop st pe tmps f p d)) =>
    bif Nat.beq args.length (paramsAt P f p).size then
      rec { c with md := .code f (0 :: p), k := .asg l f p :: .reg c.a dst pos c.rd :: c.k, a := { tmps := setAllS (paramsAt P f p).toList args tmps, defers := [] }, rd := some l }
    else .fail "yield"
  | _ => .fail "yield of what?"

/-- An operation that is wanted. -/
def sOper (P : Program) (X : Exts) (H : Hints) (rec : Cfg → Tree) (o : Oper) (pos : Pos) (c : Cfg) : Tree :=
  bif Nat.beq (classOf P o.op) 0 then
    sPure P c.a o c.nv fun v n => grown c.nv n c.k c.a pos c.rd (grownH c.nv n c.h (rec { c with md := .pos pos, a := c.a.put o.dst v, nv := n }))
  else match o.op with
    | .call cl => (match cl.callee with
      | .builtin _ => sEff P (keptBox o.dst o.pos H.boxes) c.a o c.h c.nv fun v h n => grown c.nv n c.k c.a pos c.rd (rec { c with md := .pos pos, a := c.a.put o.dst v, h := h, nv := n })
      | .value g => (match c.a.ev g with
        | .func f first caught => sCall P X H rec f (first.toL ++ (cl.args.toList.map c.a.ev) ++ caught.toL) o.dst pos c
        | .yield l => sYield P rec l (cl.args.toList.map c.a.ev) o.dst pos c
        | _ => .fail "call of what?")
      | .invoke recv name => (match c.a.ev recv with
        | .iface t v => (match methodV P t name with
          | some f => sCall P X H rec f (v :: cl.args.toList.map c.a.ev) o.dst pos c
          | none => .fail "method")
        | _ => .fail "method of what?"))
    | .defer cl => (match c.rd, cl.callee with
      | none, .value g => (match c.a.ev g with
        | .func f first caught => rec { c with md := .pos pos, a := ({ c.a with defers := .call f caught (SV.ofL (first.toL ++ cl.args.toList.map c.a.ev)) :: c.a.defers } : SAct).put o.dst .undef }
        | _ => .fail "defer")
      | _, _ => .fail "defer")
    | _ => sEff P (keptBox o.dst o.pos H.boxes) c.a o c.h c.nv fun v h n => grown c.nv n c.k c.a pos c.rd (rec { c with md := .pos pos, a := c.a.put o.dst v, h := h, nv := n })

def sAt (P : Program) (X : Exts) (H : Hints) (rec : Cfg → Tree) (ops : Array Oper) (i : Nat) (pos : Pos) (h : SH) (c : Cfg) : Tree :=
  match ops[i]? with
  | none => rec { c with md := .pos pos, h := h }
  | some o => (match sReady ops c.a o with
    | .yes => sOper P X H rec o pos { c with h := h }
    | .no => rec { c with md := .pos pos, a := c.a.put o.dst .undef, h := h }
    | .ask e => split rec e c
    | .bad => .fail "guard")

def loadsAE (P : Program) (t : TypeId) (a : AE) : List AE :=
  match P.underlying t with
  | some (.struct _) | some (.array _ _) => (List.range ((sizeV P t).getD 0)).map fun (k : Nat) => addA a (.lit (k : Nat))
  | _ => [a]

def pinsPE : List (Nat × List AE) → PE → PE
  | [], p => p
  | x :: l, p => x.2.foldr PE.cons (pinsPE l p)

def unpinS (ops : Array Oper) (j : Nat) (l : List (Nat × List AE)) : List (Nat × List AE) := l.filter fun x => !waits ops x.1 ops.size j

def sAll : List Nat → (Nat → Tree) → Tree
  | [], _ => .fail "all"
  | [i], F => F i
  | i :: j :: l, F => .both (F i) (sAll (j :: l) F)

def sSet (b : BN) (o : SObj) (h : SH) (go : SH → Tree) : Tree := .unpB b h.pins (go { h with ups := consUp b o h.ups })

def sResList (P : Program) (tmps : SV) (h : SH) (nv : Nat) : List ResultVar → (List SV → Tree) → Tree
  | [], go => go []
  | .tmp t :: r, go => sResList P tmps h nv r fun l => go (nth tmps t :: l)
  | .cell a t :: r, go => match nth tmps a with
    | .ptr b => isSL b (sLoad P t b h nv fun v n => bif Nat.beq n nv then sResList P tmps h nv r fun l => go (v :: l) else .fail "results")
    | _ => .fail "results"

def resS : List SV → SV
  | [v] => v
  | l => .tuple (SV.ofL l)

def sStep (P : Program) (X : Exts) (H : Hints) (rec : Cfg → Tree) (c : Cfg) : Tree :=
  match c.md with
  | .code f p => (match codeAt P f p with
    | .skip | .label _ => rec { c with md := .ex .normal }
    | .exit id => rec { c with md := .ex (.exit id) }
    | .goto l => rec { c with md := .ex (.goto l) }
    | .ret => rec { c with md := .ex .ret }
    | .seq _ _ => rec { c with md := .code f (0 :: p), k := .seq f (1 :: p) :: c.k }
    | .cond x _ _ => (match c.a.ev x with
      | .bool (.tt b) => rec { c with md := .code f ((bif b then 0 else 1) :: p) }
      | .bool (.not e) => split rec e c
      | .bool e => split rec e c
      | _ => .fail "cond")
    | .block id _ => rec { c with md := .code f (0 :: p), k := .block id :: c.k }
    | .loop _ => (match findLH f p H.loops with
      | some lh => (match lh.unroll with
        | m + 1 => rec { c with md := .code f (0 :: p), k := .unr m f p :: c.k }
        | 0 => sLoop P rec lh f p c)
      | none => .fail ("loop? " ++ showNat f ++ " " ++ showNats p))
    | .region _ ops draw => rec { c with md := .pos (bif draw then .any ops c.h.pins ops.size [] [] else .list ops (List.range ops.size)) }
    | .rangeFunc g _ _ _ => (match c.a.ev g with
      | .func f' first caught => (match P.funcs[f']? with
        | some fn => (match fn.body with
          | some _ => (match c.rd with
            | none =>
              let h1 := c.h.alloc .dnil
              let h2 := h1.alloc (.loop .ready .none c.a.tmps f p c.h.name)
              rec { c with md := .code f' [], k := .fn f' :: .rng h1.name { c.a with defers := .coll c.h.name :: c.a.defers } c.rd :: c.k, a := enterSAct fn ((first.toL ++ [.yield h1.name]) ++ caught.toL), h := h2, rd := none }
            | some l => (match findUp l c.h.ups [] with
              | ([], some (.loop _ _ _ _ _ d)) =>
                let h2 := c.h.alloc (.loop .ready .none c.a.tmps f p d)
                rec { c with md := .code f' [], k := .fn f' :: .rng c.h.name c.a c.rd :: c.k, a := enterSAct fn ((first.toL ++ [.yield c.h.name]) ++ caught.toL), h := h2, rd := none }
              | _ => .fail "rangeFunc in what?"))
          | none => .fail "rangeFunc")
        | none => .fail "rangeFunc")
      | _ => .fail "rangeFunc over what?")
    | .scope _ | .refuse _ => .fail "scope or refuse")
  | .pos (.list ops []) => rec { c with md := .ex .normal }
  | .pos (.list ops (i :: rest)) => sAt P X H rec ops i (.list ops rest) c.h c
  | .pos (.any ops p0 f l rp) => (match moveOf P ops l, f with
    | .done, _ => rec { c with md := .ex .normal, h := { c.h with pins := p0 } }
    | _, 0 => .fail "any"
    | .take i, f + 1 => (match ops[i]? with
      | none => .fail "any"
      | some o => (match sReady ops c.a o with
        | .yes => (bif Nat.beq (classOf P o.op) 0 then
            sPure P c.a o c.nv fun v n => grown c.nv n c.k c.a (.any ops p0 f (i :: l) rp) c.rd (grownH c.nv n c.h (rec { c with md := .pos (.any ops p0 f (i :: l) rp), a := c.a.put o.dst v, nv := n }))
          else match o.op with
            | .load t x => (match c.a.ev x with
              | .ptr b => isSL b (sLoad P t b c.h c.nv fun v n => bif b.ok c.nv then grown c.nv n c.k c.a (.any ops p0 f (i :: l) ((i, loadsAE P t b) :: rp)) c.rd (grownH c.nv n c.h (rec { c with md := .pos (.any ops p0 f (i :: l) ((i, loadsAE P t b) :: rp)), a := c.a.put o.dst v, nv := n })) else .fail "scope: load")
              | _ => .fail "load of what?")
            | _ => .fail "any")
        | .no => rec { c with md := .pos (.any ops p0 f (i :: l) rp), a := c.a.put o.dst .undef }
        | .ask e => split rec e c
        | .bad => .fail "guard"))
    | .all rs, f + 1 => sAll rs fun i => sAt P X H rec ops i (.any ops p0 f (i :: l) (unpinS ops i rp)) { c.h with pins := pinsPE (unpinS ops i rp) p0 } c)
  | .ex e => (match c.k with
    | .seq f p :: k => (match e with
      | .normal => rec { c with md := .code f p, k := k }
      | e => rec { c with md := .ex e, k := k })
    | .block id :: k => (match e with
      | .exit id' => bif Nat.beq id' id then rec { c with md := .ex .normal, k := k } else rec { c with md := .ex (.exit id'), k := k }
      | e => rec { c with md := .ex e, k := k })
    | .unr m f p :: k => (match e with
      | .normal => (match m with
        | m + 1 => rec { c with md := .code f (0 :: p), k := .unr m f p :: k }
        | 0 => .fail "more rounds")
      | e => rec { c with md := .ex e, k := k })
    | .back n0 ss pa ph :: k => (match e with
      | .normal => sBack n0 ss pa ph c.a c.h c.nv
      | e => rec { c with md := .ex e, k := k })
    | .fn f :: k => (match e with
      | .normal | .ret => rec { c with md := .leave f c.a.tmps c.a.defers, k := k }
      | _ => .fail "a function left in a strange way")
    | .dfn f :: k => (match e, c.a.defers, P.funcs[f]? with
      | .normal, [], some fn | .ret, [], some fn => sResList P c.a.tmps c.h c.nv fn.results.toList fun _ => rec { c with md := .dend, k := k }
      | _, _, _ => .fail "a deferred call left in a strange way")
    | .asg l f p :: k => (match e, findUp l c.h.ups [] with
      | .normal, ([], some (.loop .ready pe tmps f' p' d)) => sSet l (.loop .busy pe tmps f' p' d) c.h fun h => rec { c with md := .code f (1 :: p), k := .bod l :: k, h := h, rd := some l }
      | _, _ => .fail "a round that does not begin")
    | .bod l :: k => (match findUp l c.h.ups [] with
      | ([], some (.loop st pe tmps f' p' d)) => (match e with
        | .normal => sSet l (.loop .ready .none tmps f' p' d) c.h fun h => rec { c with md := .val (.bool (.tt true)), k := k, h := h }
        | .ret => sSet l (.loop .done .ret tmps f' p' d) c.h fun h => rec { c with md := .val (.bool (.tt false)), k := k, h := h }
        | .exit id => sSet l (.loop .done (.exit id) tmps f' p' d) c.h fun h => rec { c with md := .val (.bool (.tt false)), k := k, h := h }
        | .goto t => sSet l (.loop .done (.goto t) tmps f' p' d) c.h fun h => rec { c with md := .val (.bool (.tt false)), k := k, h := h }
        | _ => .fail "round")
      | _ => .fail "a round of what?")
    | _ => .fail "exit to what?")
  | .leave f tmps ds => (match P.funcs[f]? with
    | none => .fail "leave"
    | some fn => (match ds with
      | [] => sResList P tmps c.h c.nv fn.results.toList fun l => rec { c with md := .val (resS l) }
      | .coll r :: ds => (match findUp r c.h.ups [] with
        | ([], some .dnil) => sSet r .dgone c.h fun h => rec { c with md := .leave f tmps ds, h := h }
        | _ => .fail "collected")
      | .call g caught args :: ds => (match P.funcs[g]? with
        | some gn => (match gn.body with
          | some _ => rec { c with md := .code g [], k := .dfn g :: .lv f tmps ds :: c.k, a := enterSAct gn (args.toL ++ caught.toL), rd := none }
          | none => .fail "deferred")
        | none => .fail "deferred")))
  | .val v => (match c.k with
    | .out :: _ => .ret v c.h
    | .reg a dst pos rd :: k => rec { c with md := .pos pos, k := k, a := a.put dst v, rd := rd }
    | .rng l a rd :: k => (match findUp l c.h.ups [] with
      | ([], some (.loop st pe tmps f' p' d)) => (match st with
        | .busy => .fail "busy"
        | _ => sSet l (.loop .exhausted pe tmps f' p' d) c.h fun h => rec { c with md := .ex (match pe with | .none => .normal | .ret => .ret | .exit id => .exit id | .goto t => .goto t), k := k, a := a, h := h, rd := rd })
      | _ => .fail "a range of what?")
    | _ => .fail "a value to whom?")
  | .dend => (match c.k with
    | .lv f tmps ds :: k => rec { c with md := .leave f tmps ds, k := k }
    | _ => .fail "an end of what?")

/-- The executor. -/
noncomputable def sx (P : Program) (X : Exts) (H : Hints) (n : Nat) : Cfg → Tree := Nat.rec (fun _ => .fail "fuel") (fun _ rec c => sStep P X H rec c) n

/-- The tree of a call whose arguments are these. -/
noncomputable def vcT (P : Program) (X : Exts) (H : Hints) (n : Nat) (f : FuncId) (args : List SV) (hb nv : Nat) : Tree :=
  match P.funcs[f]? with
  | some fn => match fn.body with
    | some _ => sx P X H n { md := .code f [], k := [.fn f, .out], a := enterSAct fn args, h := SH.at hb, rd := none, nv := nv }
    | none => .fail "no body"
  | none => .fail "no function"

end Go.Abs
