/- Symbolic execution, part 2: symbolic heaps, activations, frames; the tree of what remains to be shown. -/
import Derived.Test.YtkfoibidnkfndaaGreatDoorAbS1
set_option linter.unusedSimpArgs false
set_option linter.unusedVariables false
namespace Go.Abs

/-! ### Places in code -/

def subCode : Nat → Code → Code
  | 0, .seq a _ => a
  | _, .seq _ b => b
  | 0, .cond _ a _ => a
  | _, .cond _ _ b => b
  | _, .block _ c => c
  | _, .loop c => c
  | _, .scope c => c
  | 0, .rangeFunc _ _ a _ => a
  | _, .rangeFunc _ _ _ b => b
  | _, _ => .skip

def bodyOf (P : Program) (f : FuncId) : Code :=
  match P.funcs[f]? with
  | some fn => match fn.body with
    | some c => c
    | none => .skip
  | none => .skip

/-- A path is written the last step first. -/
def codeAt (P : Program) (f : FuncId) : List Nat → Code
  | [] => bodyOf P f
  | d :: p => subCode d (codeAt P f p)

def paramsAt (P : Program) (f : FuncId) (p : List Nat) : Array Tmp :=
  match codeAt P f p with
  | .rangeFunc _ ps _ _ => ps
  | _ => #[]

/-! ### Heaps -/

inductive SPend where
  | none
  | ret
  | exit (id : Nat)
  | goto (l : Nat)

def SPend.den : SPend → Option Code
  | .none => Option.none
  | .ret => some .ret
  | .exit id => some (.exit id)
  | .goto l => some (.goto l)

inductive SObj where
  | cells (keep : Bool) (l : SV) (t : TypeId) (lo hi : Nat)
  | loop (st : LoopState) (pend : SPend) (tmps : SV) (f : FuncId) (p : List Nat) (defers : BN)
  | dnil
  | dgone
  | iter (s pos : E)

def SObj.den (P : Program) (ρ : Env) : SObj → Obj
  | .cells _ l t lo hi => .cells (l.denL ρ).toArray t (lo, hi)
  | .loop st pend tmps f p d => .loop { state := st, pending := pend.den, fn := 0, tmps := (tmps.denL ρ).toArray, params := paramsAt P f p, assign := codeAt P f (0 :: p), body := codeAt P f (1 :: p), defers := d.den ρ }
  | .dnil => .deferred (some [])
  | .dgone => .deferred none
  | .iter s pos => .stringIter (s.s ρ) (pos.t ρ)

def SObj.ok (n : Nat) : SObj → Bool
  | .cells _ l _ _ _ => l.ok n
  | .loop _ _ tmps _ _ d => tmps.ok n && d.ok n
  | .iter s p => s.ok n && p.ok n
  | _ => true

theorem SObj.den_app {P : Program} {ρ xs : Env} {o : SObj} (h : o.ok ρ.length = true) : o.den P (ρ ++ xs) = o.den P ρ := by
  cases o <;> simp only [SObj.ok, Bool.and_eq_true] at h <;> simp only [SObj.den]
  · rw [SV.denL_app h]
  · rw [SV.denL_app h.1, BN.den_app h.2]
  · rw [E.s_app h.1, E.t_app h.2]

def pendSame : SPend → SPend → Bool
  | .none, .none | .ret, .ret => true
  | .exit a, .exit b | .goto a, .goto b => Nat.beq a b
  | _, _ => false
theorem pendSame_eq {a b : SPend} (h : pendSame a b = true) : a = b := by
  cases a <;> cases b <;> simp only [pendSame, reduceCtorEq] at h <;> first | rfl | rw [Nat.eq_of_beq_eq_true h]

def natsSame : List Nat → List Nat → Bool
  | [], [] => true
  | a :: x, b :: y => Nat.beq a b && natsSame x y
  | _, _ => false
theorem natsSame_eq : ∀ {x y : List Nat}, natsSame x y = true → x = y
  | [], [], _ => rfl
  | a :: x, b :: y, h => by
    simp only [natsSame, Bool.and_eq_true] at h
    rw [natsSame_eq h.2, Nat.eq_of_beq_eq_true h.1]
  | [], _ :: _, h => by simp [natsSame] at h
  | _ :: _, [], h => by simp [natsSame] at h

/-- Do they denote the same? -/
def SObj.same : SObj → SObj → Bool
  | .cells _ l t a b, .cells _ m u c d => l.same m && (Nat.beq t u && (Nat.beq a c && Nat.beq b d))
  | .loop st pe tm f p d, .loop st' pe' tm' f' p' d' => decide (st = st') && (pendSame pe pe' && (tm.same tm' && (Nat.beq f f' && (natsSame p p' && d.same d'))))
  | .dnil, .dnil | .dgone, .dgone => true
  | .iter s p, .iter s' p' => s.same s' && p.same p'
  | _, _ => false

theorem SObj.same_den {P : Program} {ρ : Env} {a b : SObj} (h : a.same b = true) : a.den P ρ = b.den P ρ := by
  cases a <;> cases b <;> simp only [SObj.same, Bool.and_eq_true, decide_eq_true_eq, reduceCtorEq] at h <;> first | rfl | skip
  · obtain ⟨h1, h2, h3, h4⟩ := h
    rw [SV.same_eq h1, Nat.eq_of_beq_eq_true h2, Nat.eq_of_beq_eq_true h3, Nat.eq_of_beq_eq_true h4]; rfl
  · obtain ⟨h1, h2, h3, h4, h5, h6⟩ := h
    rw [h1, pendSame_eq h2, SV.same_eq h3, Nat.eq_of_beq_eq_true h4, natsSame_eq h5, BN.same_eq h6]
  · rw [E.same_eq h.1, E.same_eq h.2]

inductive PE where
  | of (n : Nat)
  | cons (a : AE) (p : PE)

def PE.den (ρ : Env) : PE → List Addr
  | .of n => (Env.h ρ n).pins
  | .cons a p => (match a.den ρ with | some x => x :: p.den ρ | none => p.den ρ)

def PE.ok (n : Nat) : PE → Bool
  | .of m => Nat.blt m n
  | .cons a p => a.ok n && p.ok n

theorem PE.den_app {ρ xs : Env} {p : PE} (h : p.ok ρ.length = true) : p.den (ρ ++ xs) = p.den ρ := by
  induction p with
  | of m => simp only [PE.ok] at h; simp only [PE.den, Env.h_app (blt_lt h)]
  | cons a p ih => simp only [PE.ok, Bool.and_eq_true] at h; simp only [PE.den, AE.den_app h.1, ih h.2]

/-- Updates over a heap, the last one first. -/
def putAll : List (Nat × Option Obj) → Tri → Tri
  | [], t => t
  | (b, o) :: l, t => Tri.put (b + 1) (putAll l t) b o

def hup (h : Heap) (k : Nat) (l : List (Nat × Option Obj)) (p : List Addr) : Heap := { next := h.next + k, objs := putAll l h.objs, pins := p }

structure SH where
  base : Nat
  nxt : Nat
  ups : List (BN × SObj)
  pins : PE

def SH.den (P : Program) (ρ : Env) (s : SH) : Heap := hup (Env.h ρ s.base) s.nxt (s.ups.map fun x => (x.1.den ρ, some (x.2.den P ρ))) (s.pins.den ρ)

def upsOk (n : Nat) : List (BN × SObj) → Bool
  | [] => true
  | x :: l => x.1.ok n && (x.2.ok n && upsOk n l)

def SH.ok (n : Nat) (s : SH) : Bool := Nat.blt s.base n && (upsOk n s.ups && s.pins.ok n)

theorem ups_app {P : Program} {ρ xs : Env} : ∀ {l : List (BN × SObj)}, upsOk ρ.length l = true → (l.map fun x => (x.1.den (ρ ++ xs), some (x.2.den P (ρ ++ xs)))) = l.map fun x => (x.1.den ρ, some (x.2.den P ρ))
  | [], _ => rfl
  | x :: l, h => by
    simp only [upsOk, Bool.and_eq_true] at h
    simp only [List.map_cons, BN.den_app h.1, SObj.den_app h.2.1, ups_app h.2.2]

theorem SH.den_app {P : Program} {ρ xs : Env} {s : SH} (h : s.ok ρ.length = true) : s.den P (ρ ++ xs) = s.den P ρ := by
  simp only [SH.ok, Bool.and_eq_true] at h
  simp only [SH.den, Env.h_app (blt_lt h.1), ups_app h.2.1, PE.den_app h.2.2]

/-- A heap that came in. -/
def SH.at (n : Nat) : SH := ⟨n, 0, [], .of n⟩

/-! ### Activations -/

inductive SDef where
  | call (f : FuncId) (caught args : SV)
  | coll (b : BN)

def SDef.den (ρ : Env) : SDef → Deferred
  | .call f c a => { target := .fn (.func f) (c.denL ρ).toArray, args := (a.denL ρ).toArray }
  | .coll b => { target := .collected (b.den ρ), args := #[] }

def SDef.ok (n : Nat) : SDef → Bool
  | .call _ c a => c.ok n && a.ok n
  | .coll b => b.ok n

theorem SDef.den_app {ρ xs : Env} {d : SDef} (h : d.ok ρ.length = true) : d.den (ρ ++ xs) = d.den ρ := by
  cases d <;> simp only [SDef.ok, Bool.and_eq_true] at h <;> simp only [SDef.den]
  · rw [SV.denL_app h.1, SV.denL_app h.2]
  · rw [BN.den_app h]

structure SAct where
  tmps : SV
  defers : List SDef

def SAct.den (ρ : Env) (a : SAct) : Act := { tmps := (a.tmps.denL ρ).toArray, defers := a.defers.map (SDef.den ρ) }

def defsOk (n : Nat) : List SDef → Bool
  | [] => true
  | d :: l => d.ok n && defsOk n l

theorem defs_app {ρ xs : Env} : ∀ {l : List SDef}, defsOk ρ.length l = true → l.map (SDef.den (ρ ++ xs)) = l.map (SDef.den ρ)
  | [], _ => rfl
  | d :: l, h => by
    simp only [defsOk, Bool.and_eq_true] at h
    simp only [List.map_cons, SDef.den_app h.1, defs_app h.2]

def SAct.ok (n : Nat) (a : SAct) : Bool := a.tmps.ok n && defsOk n a.defers

theorem SAct.den_app {ρ xs : Env} {a : SAct} (h : a.ok ρ.length = true) : a.den (ρ ++ xs) = a.den ρ := by
  simp only [SAct.ok, Bool.and_eq_true] at h
  simp only [SAct.den, SV.denL_app h.1, defs_app h.2]

def nth : SV → Nat → SV
  | .cons v _, 0 => v
  | .cons _ l, n + 1 => nth l n
  | _, _ => SV.undef

def setNth : SV → Nat → SV → SV
  | .cons _ l, 0, w => .cons w l
  | .cons v l, n + 1, w => .cons v (setNth l n w)
  | l, _, _ => l

theorem nth_den (ρ : Env) : ∀ (l : SV) (n : Nat), (nth l n).den ρ = (l.denL ρ).toArray.getD n undef := by
  intro l
  induction l with
  | cons v l _ ih =>
    intro n
    cases n with
    | zero => simp [nth, SV.denL, SV.dn, SV.den, Array.getD]
    | succ n =>
      have := ih n
      simp only [nth, this]
      show _ = ((v.dn ρ).1 :: l.denL ρ).toArray.getD (n + 1) undef
      simp [Array.getD]
  | _ => intro n; simp [nth, SV.denL, SV.dn, Array.getD, SV.undef_den]

theorem setNth_den (ρ : Env) : ∀ (l : SV) (n : Nat) (w : SV), ((setNth l n w).denL ρ).toArray = (l.denL ρ).toArray.setIfInBounds n (w.den ρ) := by
  intro l
  induction l with
  | cons v l _ ih =>
    intro n w
    cases n with
    | zero => simp [setNth, SV.denL, SV.dn, SV.den]
    | succ n =>
      have := ih n w
      have e : (setNth l n w).denL ρ = (l.denL ρ).set n (w.den ρ) := by
        have := congrArg Array.toList this
        simpa using this
      show ((v.dn ρ).1 :: (setNth l n w).denL ρ).toArray = ((v.dn ρ).1 :: l.denL ρ).toArray.setIfInBounds (n + 1) (w.den ρ)
      rw [e]; simp
  | _ => intro n w; simp [setNth, SV.denL, SV.dn]

def SAct.put (a : SAct) (d : Option Tmp) (v : SV) : SAct :=
  match d with
  | some d => { a with tmps := setNth a.tmps d v }
  | none => a

theorem SAct.put_den (ρ : Env) (a : SAct) (d : Option Tmp) (v : SV) : (a.put d v).den ρ = (a.den ρ).put d (v.den ρ) := by
  cases d with
  | none => rfl
  | some d => simp only [SAct.put, SAct.den, Act.put, setNth_den]

/-- A closed constant. -/
def ofV : Nat → Value → SV
  | 0, v => .con v
  | _ + 1, .bool b => .bool (.tt b)
  | _ + 1, .int k z => .int k (.lit z)
  | _ + 1, .string s => .str (.str s)
  | _ + 1, .pointer none => .ptr .nil
  | _ + 1, .slice none n c => .slice .nil (.lit n) (.lit c)
  | _ + 1, .map none => .nilMap
  | _ + 1, .nilFunc => .nilFunc
  | _ + 1, .nilIface => .nilIface
  | n + 1, .iface t v => .iface t (ofV n v)
  | n + 1, .agg cs => .agg (SV.ofL (cs.toList.map (ofV n)))
  | n + 1, .tuple cs => .tuple (SV.ofL (cs.toList.map (ofV n)))
  | _ + 1, .func (.func f) a c => bif a.toList.isEmpty && c.toList.isEmpty then .func f .nil .nil else .con (.func (.func f) a c)
  | _ + 1, v => .con v

theorem ofV_den (ρ : Env) : ∀ (n : Nat) (v : Value), (ofV n v).den ρ = v := by
  intro n
  induction n with
  | zero => intro v; rfl
  | succ n ih =>
    have l : ∀ cs : Array Value, ((SV.ofL (cs.toList.map (ofV n))).denL ρ).toArray = cs := by
      intro cs
      rw [SV.ofL_den, List.map_map]
      have : (SV.den ρ ∘ ofV n) = id := by funext v; exact ih v
      rw [this]; simp
    intro v
    cases v with
    | pointer a => cases a <;> rfl
    | slice a m c => cases a <;> simp [ofV, SV.den, SV.dn, AE.den, E.t, E.i, E.den]
    | map r => cases r <;> rfl
    | iface t v => have := ih v; simp only [ofV, SV.den, SV.dn] at *; rw [this]
    | agg cs => have := l cs; simp only [ofV, SV.den, SV.dn, SV.denL] at *; rw [this]
    | tuple cs => have := l cs; simp only [ofV, SV.den, SV.dn, SV.denL] at *; rw [this]
    | func f a c =>
      cases f with
      | func f =>
        simp only [ofV]
        cases he : (a.toList.isEmpty && c.toList.isEmpty) with
        | false => rfl
        | true =>
          simp only [Bool.and_eq_true, List.isEmpty_iff, Array.toList_eq_nil_iff] at he
          obtain ⟨rfl, rfl⟩ := he
          rfl
      | _ => rfl
    | _ => rfl

def SAct.ev (a : SAct) : Operand → SV
  | .tmp t => nth a.tmps t
  | .const v => ofV 8 v
  | .global g => .ptr (.glob g)
  | .func f => .func f .nil .nil

theorem SAct.ev_den (ρ : Env) (a : SAct) (x : Operand) : (a.ev x).den ρ = (a.den ρ).eval x := by
  cases x with
  | tmp t => simp only [SAct.ev, nth_den, SAct.den, Act.eval]
  | const v => exact ofV_den ρ 8 v
  | global g => rfl
  | func f => rfl

/-! ### Binders -/

inductive Srt where
  | i | b | s | v | o | n | h
  deriving DecidableEq, Inhabited

def exT : List Srt → (List U → Prop) → Prop
  | [], F => F []
  | .i :: l, F => ∃ x : Int, exT l fun r => F (.i x :: r)
  | .b :: l, F => ∃ x : Bool, exT l fun r => F (.b x :: r)
  | .s :: l, F => ∃ x : ByteArray, exT l fun r => F (.s x :: r)
  | .v :: l, F => ∃ x : Value, exT l fun r => F (.v x :: r)
  | .o :: l, F => ∃ x : Option Addr, exT l fun r => F (.o x :: r)
  | .n :: l, F => ∃ x : Nat, exT l fun r => F (.n x :: r)
  | .h :: l, F => ∃ x : Heap, exT l fun r => F (.h x :: r)

def allT : List Srt → (List U → Prop) → Prop
  | [], F => F []
  | .i :: l, F => ∀ x : Int, allT l fun r => F (.i x :: r)
  | .b :: l, F => ∀ x : Bool, allT l fun r => F (.b x :: r)
  | .s :: l, F => ∀ x : ByteArray, allT l fun r => F (.s x :: r)
  | .v :: l, F => ∀ x : Value, allT l fun r => F (.v x :: r)
  | .o :: l, F => ∀ x : Option Addr, allT l fun r => F (.o x :: r)
  | .n :: l, F => ∀ x : Nat, allT l fun r => F (.n x :: r)
  | .h :: l, F => ∀ x : Heap, allT l fun r => F (.h x :: r)

def predT : List Srt → Type
  | [] => Prop
  | .i :: l => Int → predT l
  | .b :: l => Bool → predT l
  | .s :: l => ByteArray → predT l
  | .v :: l => Value → predT l
  | .o :: l => Option Addr → predT l
  | .n :: l => Nat → predT l
  | .h :: l => Heap → predT l

def appT : (ss : List Srt) → predT ss → List U → Prop
  | [], p, _ => p
  | .i :: l, p, xs => match xs with
    | .i x :: r => appT l (p x) r
    | _ => False
  | .b :: l, p, xs => match xs with
    | .b x :: r => appT l (p x) r
    | _ => False
  | .s :: l, p, xs => match xs with
    | .s x :: r => appT l (p x) r
    | _ => False
  | .v :: l, p, xs => match xs with
    | .v x :: r => appT l (p x) r
    | _ => False
  | .o :: l, p, xs => match xs with
    | .o x :: r => appT l (p x) r
    | _ => False
  | .n :: l, p, xs => match xs with
    | .n x :: r => appT l (p x) r
    | _ => False
  | .h :: l, p, xs => match xs with
    | .h x :: r => appT l (p x) r
    | _ => False

inductive Typed : List Srt → List U → Prop
  | nil : Typed [] []
  | i {l r} (x) (t : Typed l r) : Typed (.i :: l) (.i x :: r)
  | b {l r} (x) (t : Typed l r) : Typed (.b :: l) (.b x :: r)
  | s {l r} (x) (t : Typed l r) : Typed (.s :: l) (.s x :: r)
  | v {l r} (x) (t : Typed l r) : Typed (.v :: l) (.v x :: r)
  | o {l r} (x) (t : Typed l r) : Typed (.o :: l) (.o x :: r)
  | n {l r} (x) (t : Typed l r) : Typed (.n :: l) (.n x :: r)
  | h {l r} (x) (t : Typed l r) : Typed (.h :: l) (.h x :: r)

theorem Typed.length {ss : List Srt} {xs : List U} (h : Typed ss xs) : xs.length = ss.length := by
  induction h <;> simp_all

theorem exT_typed : ∀ {ss : List Srt} {F : List U → Prop}, exT ss F → ∃ xs, Typed ss xs ∧ F xs
  | [], F, h => ⟨[], .nil, h⟩
  | .i :: l, F, ⟨x, h⟩ => let ⟨xs, t, hf⟩ := exT_typed h; ⟨_, .i x t, hf⟩
  | .b :: l, F, ⟨x, h⟩ => let ⟨xs, t, hf⟩ := exT_typed h; ⟨_, .b x t, hf⟩
  | .s :: l, F, ⟨x, h⟩ => let ⟨xs, t, hf⟩ := exT_typed h; ⟨_, .s x t, hf⟩
  | .v :: l, F, ⟨x, h⟩ => let ⟨xs, t, hf⟩ := exT_typed h; ⟨_, .v x t, hf⟩
  | .o :: l, F, ⟨x, h⟩ => let ⟨xs, t, hf⟩ := exT_typed h; ⟨_, .o x t, hf⟩
  | .n :: l, F, ⟨x, h⟩ => let ⟨xs, t, hf⟩ := exT_typed h; ⟨_, .n x t, hf⟩
  | .h :: l, F, ⟨x, h⟩ => let ⟨xs, t, hf⟩ := exT_typed h; ⟨_, .h x t, hf⟩

theorem allT_typed {ss : List Srt} {xs : List U} (t : Typed ss xs) : ∀ {F : List U → Prop}, allT ss F → F xs := by
  induction t with
  | nil => intro F h; exact h
  | i x t ih => intro F h; exact ih (F := fun r => F (_ :: r)) (h x)
  | b x t ih => intro F h; exact ih (F := fun r => F (_ :: r)) (h x)
  | s x t ih => intro F h; exact ih (F := fun r => F (_ :: r)) (h x)
  | v x t ih => intro F h; exact ih (F := fun r => F (_ :: r)) (h x)
  | o x t ih => intro F h; exact ih (F := fun r => F (_ :: r)) (h x)
  | n x t ih => intro F h; exact ih (F := fun r => F (_ :: r)) (h x)
  | h x t ih => intro F h; exact ih (F := fun r => F (_ :: r)) (h x)

/-- What appT is true of is typed. -/
theorem appT_typed : ∀ {ss : List Srt} {p : predT ss} {xs : List U}, xs.length = ss.length → appT ss p xs → Typed ss xs := by
  intro ss
  induction ss with
  | nil => intro p xs hl _; cases xs with
    | nil => exact .nil
    | cons _ _ => simp at hl
  | cons st l ih =>
    intro p xs hl h
    cases xs with
    | nil => simp at hl
    | cons u r =>
      have hl' : r.length = l.length := by simpa using hl
      cases st <;> cases u <;> simp only [appT] at h <;> first
        | exact h.elim
        | exact .i _ (ih hl' h)
        | exact .b _ (ih hl' h)
        | exact .s _ (ih hl' h)
        | exact .v _ (ih hl' h)
        | exact .o _ (ih hl' h)
        | exact .n _ (ih hl' h)
        | exact .h _ (ih hl' h)

/-- A symbolic member of an environment. -/
inductive SU where
  | i (e : E)
  | b (e : E)
  | s (e : E)
  | v (v : SV)
  | o (a : AE)
  | n (e : E)
  | h (h : SH)

def SU.den (P : Program) (ρ : Env) : SU → U
  | .i e => .i (e.i ρ)
  | .b e => .b (e.b ρ)
  | .s e => .s (e.s ρ)
  | .v x => .v (x.den ρ)
  | .o a => .o (a.den ρ)
  | .n e => .n (e.t ρ)
  | .h x => .h (x.den P ρ)

/-! ### Frames -/

inductive Pos where
  | list (ops : Array Oper) (rest : List Nat)
  | any (ops : Array Oper) (p0 : PE) (f : Nat) (l : List Nat) (rp : List (Nat × List AE))

inductive Fr where
  | seq (f : FuncId) (p : List Nat)
  | block (id : Nat)
  | unr (m : Nat) (f : FuncId) (p : List Nat)
  | back (n0 : Nat) (ss : List Srt) (pa : SAct) (ph : SH)
  | fn (f : FuncId)
  | dfn (f : FuncId)
  | out
  | reg (a : SAct) (dst : Option Tmp) (pos : Pos) (rd : Option BN)
  | rng (l : BN) (a : SAct) (rd : Option BN)
  | asg (l : BN) (f : FuncId) (p : List Nat)
  | bod (l : BN)
  | lv (f : FuncId) (tmps : SV) (ds : List SDef)

def AE.list (ρ : Env) (l : List AE) : List Addr := l.filterMap (AE.den ρ)

def aesOk (n : Nat) : List AE → Bool
  | [] => true
  | a :: l => a.ok n && aesOk n l
theorem aes_app {ρ xs : Env} : ∀ {l : List AE}, aesOk ρ.length l = true → AE.list (ρ ++ xs) l = AE.list ρ l
  | [], _ => rfl
  | a :: l, h => by
    simp only [aesOk, Bool.and_eq_true] at h
    have := aes_app (xs := xs) h.2
    simp only [AE.list, List.filterMap_cons, AE.den_app h.1] at *
    cases a.den ρ <;> simp [this]

def rpDen (ρ : Env) (rp : List (Nat × List AE)) : Pins := rp.map fun x => (x.1, AE.list ρ x.2)
def rpOk (n : Nat) : List (Nat × List AE) → Bool
  | [] => true
  | x :: l => aesOk n x.2 && rpOk n l
theorem rp_app {ρ xs : Env} : ∀ {l : List (Nat × List AE)}, rpOk ρ.length l = true → rpDen (ρ ++ xs) l = rpDen ρ l
  | [], _ => rfl
  | x :: l, h => by
    simp only [rpOk, Bool.and_eq_true] at h
    have := rp_app (xs := xs) h.2
    simp only [rpDen, List.map_cons, aes_app h.1] at *
    rw [this]

def Pos.ok (n : Nat) : Pos → Bool
  | .list _ _ => true
  | .any _ p _ _ rp => p.ok n && rpOk n rp

def rdOk (n : Nat) : Option BN → Bool
  | none => true
  | some b => b.ok n
def rdDen (ρ : Env) (b : Option BN) : Option Nat := b.map (BN.den ρ)
theorem rd_app {ρ xs : Env} {b : Option BN} (h : rdOk ρ.length b = true) : rdDen (ρ ++ xs) b = rdDen ρ b := by
  cases b with
  | none => rfl
  | some b => simp only [rdDen, Option.map_some, BN.den_app h]

def Fr.ok (n : Nat) : Fr → Bool
  | .back n0 _ _ _ => Nat.blt n0 n
  | .reg a _ pos rd => a.ok n && (pos.ok n && rdOk n rd)
  | .rng l a rd => l.ok n && (a.ok n && rdOk n rd)
  | .asg l _ _ => l.ok n
  | .bod l => l.ok n
  | .lv _ t ds => t.ok n && defsOk n ds
  | _ => true

def frsOk (n : Nat) : List Fr → Bool
  | [] => true
  | f :: k => f.ok n && frsOk n k

/-! ### What frames mean -/

abbrev KQ := Exit → Act → Heap → Prop
abbrev TC := Nat → List U → Prop

section
variable (P : Program) (X : Exts) (T : Lvl) (R : Value → Heap → Prop)

def posDen (ρ : Env) (rd : Option Nat) (q : Pos) (Q : KQ) (a : Act) (h : Heap) : Prop :=
  match q with
  | .list ops rest => aOps P X T rd ops Q rest a h
  | .any ops p0 f l rp => aAny P X T rd ops (p0.den ρ) Q f l (rpDen ρ rp) a h

def bodyQ (l : Nat) (r : Value → Heap → Prop) : KQ := fun e _ h3 => match e with
  | .normal => aSem P (endS l none) h3 r
  | .ret => aSem P (endS l (some .ret)) h3 r
  | .exit id => aSem P (endS l (some (.exit id))) h3 r
  | .goto t => aSem P (endS l (some (.goto t))) h3 r
  | _ => False

def noQ : Option Nat → KQ := fun _ _ _ _ => False
def noR : Value → Heap → Prop := fun _ _ => False
def noD : Heap → Prop := fun _ => False

structure D3 where
  q : Option Nat → KQ
  r : Value → Heap → Prop
  d : Heap → Prop

/-- At most so many rounds. -/
def rounds (rd : Option Nat) (c : Code) (Q : KQ) : Nat → Act → Heap → Prop
  | 0 => fun _ _ => False
  | m + 1 => fun a h => T.code rd c (exThen (rounds rd c Q m) Q) a h

def denF (tc : TC) (ρ : Env) : List Fr → D3
  | [] => ⟨noQ, noR, noD⟩
  | .seq f p :: K => ⟨fun rd => exThen (T.code rd (codeAt P f p) ((denF tc ρ K).q rd)) ((denF tc ρ K).q rd), noR, noD⟩
  | .block id :: K => ⟨fun rd => exBlock id ((denF tc ρ K).q rd), noR, noD⟩
  | .unr m f p :: K => ⟨fun rd => exThen (rounds T rd (codeAt P f (0 :: p)) ((denF tc ρ K).q rd) m) ((denF tc ρ K).q rd), noR, noD⟩
  | .back n0 ss pa ph :: K => ⟨fun rd => exThen (fun a h => ∃ xs d, Typed ss xs ∧ tc n0 xs ∧ a = pa.den (ρ.take n0 ++ xs ++ [.d d]) ∧ h = ph.den P (ρ.take n0 ++ xs ++ [.d d])) ((denF tc ρ K).q rd), noR, noD⟩
  | .fn f :: K => ⟨fun _ e a h => match e, P.funcs[f]? with
      | .normal, some fn => aLeave P X T fn a.tmps (denF tc ρ K).r a.defers h
      | .ret, some fn => aLeave P X T fn a.tmps (denF tc ρ K).r a.defers h
      | _, _ => False, noR, noD⟩
  | .dfn f :: K => ⟨fun _ e a h => match e, a.defers, P.funcs[f]? with
      | .normal, [], some fn => aResults P fn a.tmps h fun _ h' => (denF tc ρ K).d h'
      | .ret, [], some fn => aResults P fn a.tmps h fun _ h' => (denF tc ρ K).d h'
      | _, _, _ => False, noR, noD⟩
  | .out :: _ => ⟨noQ, R, noD⟩
  | .reg a dst pos rd :: K => ⟨noQ, fun v h => posDen P X T ρ (rdDen ρ rd) pos ((denF tc ρ K).q (rdDen ρ rd)) ((a.den ρ).put dst v) h, noD⟩
  | .rng l a rd :: K => ⟨noQ, fun _ h4 => aSem P (endLoopS (l.den ρ)) h4 fun jump h5 => match jump with
      | none => (denF tc ρ K).q (rdDen ρ rd) .normal (a.den ρ) h5
      | some c => T.code (rdDen ρ rd) c ((denF tc ρ K).q (rdDen ρ rd)) (a.den ρ) h5, noD⟩
  | .asg l f p :: K => ⟨fun _ => exThen (fun a1 h1 => aSem P (beginS (l.den ρ)) h1 fun _ h2 => T.code (some (l.den ρ)) (codeAt P f (1 :: p)) (bodyQ P (l.den ρ) (denF tc ρ K).r) a1 h2) (fun _ _ _ => False), noR, noD⟩
  | .bod l :: K => ⟨fun _ => bodyQ P (l.den ρ) (denF tc ρ K).r, noR, noD⟩
  | .lv f tmps ds :: K => ⟨noQ, noR, fun h => match P.funcs[f]? with
      | some fn => aLeave P X T fn (tmps.denL ρ).toArray (denF tc ρ K).r (ds.map (SDef.den ρ)) h
      | none => False⟩

theorem denF_app {tc : TC} {ρ xs : Env} : ∀ {K : List Fr}, frsOk ρ.length K = true → denF P X T R tc (ρ ++ xs) K = denF P X T R tc ρ K
  | [], _ => rfl
  | f :: K, h => by
    simp only [frsOk, Bool.and_eq_true] at h
    have ih := denF_app (tc := tc) (xs := xs) h.2
    have h1 := h.1
    cases f <;> simp only [Fr.ok, Bool.and_eq_true] at h1 <;> simp only [denF, ih]
    case back n0 ss pa ph =>
      rw [List.take_append_of_le_length (Nat.le_of_lt (blt_lt h1))]
    case reg a dst pos rd =>
      simp only [rd_app h1.2.2, SAct.den_app h1.1]
      cases pos with
      | list ops rest => rfl
      | any ops p0 f l rp =>
        simp only [Pos.ok, Bool.and_eq_true] at h1
        simp only [posDen, PE.den_app h1.2.1.1, rp_app h1.2.1.2]
    case rng l a rd => simp only [BN.den_app h1.1, SAct.den_app h1.2.1, rd_app h1.2.2]
    case asg l f p => simp only [BN.den_app h1]
    case bod l => simp only [BN.den_app h1]
    case lv f t ds => simp only [SV.denL_app h1.1, defs_app h1.2]

end

end Go.Abs
