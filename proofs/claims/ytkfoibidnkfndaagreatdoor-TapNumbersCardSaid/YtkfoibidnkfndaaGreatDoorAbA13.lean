/- The abstract machine, part 14: operations and regions against the calculus. -/
import Derived.Test.YtkfoibidnkfndaaGreatDoorAbA12
import Derived.RangeFuncLeaves
set_option linter.unusedSimpArgs false
namespace Go.Abs
open Go.RowKit

/-- The fence of a walk: that of a function, or of a round of loop l. -/
def fence : Option Nat → Fence
  | none => Fence.wide
  | some l => Fence.wide.inRound l

theorem fence_fn (rd : Option Nat) (f : FuncId) : (fence rd).fn f := by cases rd <;> trivial
theorem fence_depth (rd : Option Nat) : (fence rd).depth = none := by cases rd <;> rfl
theorem fence_round (rd : Option Nat) : (fence rd).round = rd := by cases rd <;> rfl

inductive RdRel (ρ : Ren) : Option Nat → Option Nat → Prop
  | none : RdRel ρ none none
  | some {l l' : Nat} (h : ORel ρ l l') : RdRel ρ (some l) (some l')

theorem RdRel.mono {ρ ρ' : Ren} (hl : Ren.le ρ ρ') {a b : Option Nat} (h : RdRel ρ a b) : RdRel ρ' a b := by
  cases h with
  | none => exact .none
  | some h => exact .some (h.mono hl)

section
variable {P : Program} {w0 : World}

/-- What follows, on both sides. -/
def KRel (w0 : World) (ρ : Ren) (h : Heap) (K : Act → Heap → Prop) (K' : Act → World → Prop) : Prop :=
  ∀ ρ2 a a' h2 w2, Ren.le ρ ρ2 → HRel w0 ρ2 h2 w2 → ActRel ρ2 a a' → Keep h h2 → K a h2 → K' a' w2

/-- A way out that the machine knows. -/
def calm : Exit → Prop
  | .panic _ | .outgrown => False
  | _ => True

def QRel (w0 : World) (ρ : Ren) (h : Heap) (Q : Exit → Act → Heap → Prop) (Q' : Exit → Act → World → Prop) : Prop := ∀ e, calm e → KRel w0 ρ h (Q e) (Q' e)

theorem KRel.from {ρ ρ2 : Ren} {h h2 : Heap} {K : Act → Heap → Prop} {K' : Act → World → Prop} (hk : KRel w0 ρ h K K') (hl : Ren.le ρ ρ2) (hh : Keep h h2) : KRel w0 ρ2 h2 K K' :=
  fun ρ3 a a' h3 w3 hl3 hr ha hk3 hq => hk ρ3 a a' h3 w3 (Ren.le_trans hl hl3) hr ha (hh.trans hk3) hq

theorem QRel.from {ρ ρ2 : Ren} {h h2 : Heap} {Q : Exit → Act → Heap → Prop} {Q' : Exit → Act → World → Prop} (hk : QRel w0 ρ h Q Q') (hl : Ren.le ρ ρ2) (hh : Keep h h2) : QRel w0 ρ2 h2 Q Q' :=
  fun e he => (hk e he).from hl hh

def CodeSound (P : Program) (w0 : World) (L : Lvl) : Prop :=
  ∀ (G : Nat) (rd rd' : Option Nat) (c : Code) (Q : Exit → Act → Heap → Prop) (Q' : Exit → Act → World → Prop) (a a' : Act) (h : Heap) (w : World) (ρ : Ren),
    okCode G c = true → GRel G ρ → GRel P.globals.size ρ → RdRel ρ rd rd' → HRel w0 ρ h w → ActRel ρ a a' → QRel w0 ρ h Q Q' → L.code rd c Q a h → c.wpIn (fence rd') 0 P Q' a' w

def CallSound (P : Program) (w0 : World) (L : Lvl) : Prop :=
  ∀ (f : FuncId) (args args' : Array Value) (h : Heap) (w : World) (ρ : Ren) (R : Value → Heap → Prop), GRel P.globals.size ρ → HRel w0 ρ h w → ARel ρ args args' → L.call f args h R →
    CallsIn Fence.wide 0 P f args' w fun e w2 => ∃ v v' ρ2 h2, e = .returned v' ∧ Ren.le ρ ρ2 ∧ HRel w0 ρ2 h2 w2 ∧ VRel ρ2 v v' ∧ Keep h h2 ∧ R v h2

def CallDSound (P : Program) (w0 : World) (L : Lvl) : Prop :=
  ∀ (f : FuncId) (args args' : Array Value) (h : Heap) (w : World) (ρ : Ren) (R : Heap → Prop), GRel P.globals.size ρ → HRel w0 ρ h w → ARel ρ args args' → L.callD f args h R →
    CallsDIn Fence.wide 0 P f args' .returning w fun e u w2 => u = .returning ∧ ∃ v' ρ2 h2, e = .returned v' ∧ Ren.le ρ ρ2 ∧ HRel w0 ρ2 h2 w2 ∧ Keep h h2 ∧ R h2

structure Sound (P : Program) (w0 : World) (L : Lvl) : Prop where
  code : CodeSound P w0 L
  call : CallSound P w0 L
  callD : CallDSound P w0 L

theorem callsIn_fence {rd : Option Nat} {n : Nat} {f : FuncId} {args : Array Value} {w : World} {R : Ending → World → Prop} (h : CallsIn Fence.wide n P f args w R) : CallsIn (fence rd) n P f args w R := by
  cases rd with
  | none => exact h
  | some l => exact h

theorem roundIn_fence {rd : Option Nat} {n : Nat} {l f : Nat} {t : Array Value} {x y : Code} {w : World} {R : Ending → World → Prop} (h : RoundIn Fence.wide n P l f t x y w R) : RoundIn (fence rd) n P l f t x y w R := by
  cases rd with
  | none => exact h
  | some l => exact h

theorem yielded_rel {ρ : Ren} {ops : Array Oper} {t t' : Array Value} (h : ARel ρ t t') (j : Nat) : yielded ops t' j = yielded ops t j := by
  unfold yielded
  cases hd : (ops[j]?).bind (·.dst) with
  | none => rfl
  | some d =>
    simp only [Option.bind_some]
    by_cases hlt : d < t.size
    · have hlt' : d < t'.size := by rw [← h.1]; exact hlt
      have := h.2 d t[d] t'[d] (Array.getElem?_eq_getElem hlt) (Array.getElem?_eq_getElem hlt')
      rw [Array.getElem?_eq_getElem hlt, Array.getElem?_eq_getElem hlt']
      generalize t[d] = x at this
      generalize t'[d] = y at this
      cases this <;> rfl
    · have hlt' : ¬ d < t'.size := by rw [← h.1]; exact hlt
      rw [Array.getElem?_eq_none (Nat.le_of_not_lt hlt), Array.getElem?_eq_none (Nat.le_of_not_lt hlt')]

theorem wanted_rel {ρ : Ren} {ops : Array Oper} {t t' : Array Value} (h : ARel ρ t t') (o : Oper) : Region.wanted o (yielded ops t') = Region.wanted o (yielded ops t) := by
  have : yielded ops t' = yielded ops t := funext fun j => yielded_rel h j
  rw [this]

/-! ### A round -/

theorem getLoop_run {ρ : Ren} {h : Heap} {w : World} {l l' : Nat} (hr : HRel w0 ρ h w) (hl : ORel ρ l l') {r : Loop} (hg : h.get l = some (.loop r)) : ∃ r', (Instr.getLoop l').run P w = .ok r' w ∧ LoopRel ρ r r' := by
  obtain ⟨o', h1, h2⟩ := hr.getAt (P := P) hg rfl hl
  obtain ⟨r', rfl, h3⟩ := newRel_loop h2
  exact ⟨r', by simp [Instr.getLoop, h1], h3⟩

theorem getLoopS_inv {l : Nat} {h : Heap} {F : Loop → Heap → Prop} (hq : aSem P (getLoopS l) h F) : ∃ r, h.get l = some (.loop r) ∧ F r h := by
  unfold getLoopS at hq
  rw [aSem_bind] at hq
  simp only [Go.getObj, aSem] at hq
  split at hq
  · rename_i o ho
    cases hn : notCells o with
    | false => rw [hn] at hq; exact hq.elim
    | true =>
      rw [hn] at hq
      simp only [cond_true] at hq
      cases o <;> first | exact ⟨_, ho, hq⟩ | exact hq.elim
  · exact hq.elim

theorem begin_out {ρ : Ren} {h : Heap} {w : World} {l l' : Nat} (hr : HRel w0 ρ h w) (hl : ORel ρ l l') {F : Unit → Heap → Prop} (hq : aSem P (beginS l) h F) :
    Out P w0 (fun _ _ _ => True) ρ h w (Instr.beginRound l') F := by
  unfold beginS at hq
  rw [aSem_bind] at hq
  obtain ⟨r, hg, hq⟩ := getLoopS_inv hq
  obtain ⟨r', hrun, hrel⟩ := getLoop_run (P := P) hr hl hg
  cases hs : r.state with
  | ready =>
    rw [hs] at hq
    simp only at hq
    have hn : NewRel ρ (.loop { r with state := .busy }) (.loop { r' with state := .busy }) := .loop ⟨rfl, hrel.pending, hrel.tmps, hrel.params, hrel.assign, hrel.body, hrel.defers, hrel.ok⟩
    obtain ⟨ρ2, u, u', h', w', x1, x2, x3, x4, x5, x6⟩ := (Sim.setObj (P := P) hl hn).out hr hq
    refine ⟨ρ2, u, (), h', w', x1, ?_, trivial, x4, x5, x6⟩
    have hs' : r'.state = .ready := by rw [← hrel.state, hs]
    simp [Instr.beginRound, hrun, x2, hs']
  | _ => rw [hs] at hq; exact hq.elim

theorem end_out {ρ : Ren} {h : Heap} {w : World} {l l' : Nat} (hr : HRel w0 ρ h w) (hl : ORel ρ l l') {jump : Option Code} (hj : ∀ c G, jump = some c → okCode G c = true) {F : Value → Heap → Prop} (hq : aSem P (endS l jump) h F) :
    Out P w0 VRel ρ h w (Instr.endRound l' jump) F := by
  unfold endS at hq
  rw [aSem_bind] at hq
  obtain ⟨r, hg, hq⟩ := getLoopS_inv hq
  obtain ⟨r', hrun, hrel⟩ := getLoop_run (P := P) hr hl hg
  cases jump with
  | none =>
    simp only at hq
    rw [aSem_bind] at hq
    obtain ⟨G, g1, g2, g3, g4⟩ := hrel.ok
    have hn : NewRel ρ (.loop { r with state := .ready, pending := none }) (.loop { r' with state := .ready, pending := none }) := .loop ⟨rfl, rfl, hrel.tmps, hrel.params, hrel.assign, hrel.body, hrel.defers, G, g1, g2, fun c hc => by simp at hc, g4⟩
    obtain ⟨ρ2, u, u', h', w', x1, x2, x3, x4, x5, x6⟩ := (Sim.setObj (P := P) hl hn).out hr hq
    refine ⟨ρ2, .bool true, .bool true, h', w', x1, ?_, .bool _, x4, x5, x6⟩
    simp [Instr.endRound, hrun, x2]
  | some c =>
    simp only at hq
    rw [aSem_bind] at hq
    obtain ⟨G, g1, g2, g3, g4⟩ := hrel.ok
    have hn : NewRel ρ (.loop { r with state := .done, pending := some c }) (.loop { r' with state := .done, pending := some c }) := .loop ⟨rfl, rfl, hrel.tmps, hrel.params, hrel.assign, hrel.body, hrel.defers, G, g1, g2, fun c' hc => hj c' G (by simpa using hc), g4⟩
    obtain ⟨ρ2, u, u', h', w', x1, x2, x3, x4, x5, x6⟩ := (Sim.setObj (P := P) hl hn).out hr hq
    refine ⟨ρ2, .bool false, .bool false, h', w', x1, ?_, .bool _, x4, x5, x6⟩
    simp [Instr.endRound, hrun, x2]

theorem endLoop_out {ρ : Ren} {h : Heap} {w : World} {l l' : Nat} (hr : HRel w0 ρ h w) (hl : ORel ρ l l') {F : Option Code → Heap → Prop} (hq : aSem P (endLoopS l) h F) :
    Out P w0 (fun ρ a b => a = b ∧ ∀ c, a = some c → ∃ G, okCode G c = true ∧ GRel G ρ) ρ h w (Instr.endLoop l') F := by
  unfold endLoopS at hq
  rw [aSem_bind] at hq
  obtain ⟨r, hg, hq⟩ := getLoopS_inv hq
  obtain ⟨r', hrun, hrel⟩ := getLoop_run (P := P) hr hl hg
  have hne : r.state ≠ .busy := fun e => by rw [e] at hq; exact hq.elim
  have hq' : aSem P (setObj l (.loop { r with state := .exhausted }) >>= fun _ => pure r.pending) h F := by
    cases hs : r.state <;> rw [hs] at hq <;> first | exact hq | exact (hne hs).elim
  rw [aSem_bind] at hq'
  have hn : NewRel ρ (.loop { r with state := .exhausted }) (.loop { r' with state := .exhausted }) := .loop ⟨rfl, hrel.pending, hrel.tmps, hrel.params, hrel.assign, hrel.body, hrel.defers, hrel.ok⟩
  obtain ⟨ρ2, u, u', h', w', x1, x2, x3, x4, x5, x6⟩ := (Sim.setObj (P := P) hl hn).out hr hq'
  obtain ⟨G, g1, g2, g3, g4⟩ := hrel.ok
  refine ⟨ρ2, r.pending, r'.pending, h', w', x1, ?_, ⟨hrel.pending, fun c hc => ⟨G, g3 c hc, g4.mono x1⟩⟩, x4, x5, x6⟩
  have hs' : ¬ r'.state = .busy := by rw [← hrel.state]; exact hne
  have hs2 : (r'.state == .busy) = false := by
    cases hx : r'.state <;> first | rfl | (exact (hs' hx).elim)
  simp [Instr.endLoop, hrun, x2, hs2]
  exact fun hb => (hs' hb).elim

/-- A round, as the calculus has it. -/
theorem round_in {L : Lvl} (hL : Sound P w0 L) {ρ : Ren} {h : Heap} {w : World} {l l' f' : Nat} {t t' : Array Value} {assign body : Code} (hr : HRel w0 ρ h w) (hg : GRel P.globals.size ρ) (hl : ORel ρ l l') (ht : ARel ρ t t')
    (hok : ∃ G, okCode G assign = true ∧ okCode G body = true ∧ GRel G ρ) {R : Value → Heap → Prop} (hq : aRound P L l t assign body h R) :
    RoundIn Fence.wide 0 P l' f' t' assign body w fun e w2 => ∃ v v' ρ2 h2, e = .returned v' ∧ Ren.le ρ ρ2 ∧ HRel w0 ρ2 h2 w2 ∧ VRel ρ2 v v' ∧ Keep h h2 ∧ R v h2 := by
  obtain ⟨G, g1, g2, g3⟩ := hok
  refine roundIn_of_wpIn trivial ?_
  refine hL.code G (some l) (some l') assign _ _ { tmps := t, defers := [] } { tmps := t', defers := [] } h w ρ g1 g3 hg (.some hl) hr ⟨ht, .nil⟩ ?_ hq
  intro e he ρ2 a a' h2 w2 hl2 hr2 ha2 hk2 hq2
  cases e <;> first | exact hq2.elim | skip
  simp only [exThen] at hq2
  obtain ⟨ρ3, u, u', h3, w3, x1, x2, x3, x4, x5, x6⟩ := begin_out hr2 (hl.mono hl2) hq2
  refine ⟨w3, x2, ?_⟩
  refine hL.code G (some l) (some l') body _ _ a a' h3 w3 ρ3 g2 (g3.mono (Ren.le_trans hl2 x1)) (hg.mono (Ren.le_trans hl2 x1)) (.some (hl.mono (Ren.le_trans hl2 x1))) x4 (ha2.mono x1) ?_ x6
  intro e he ρ4 a4 a4' h4 w4 hl4 hr4 ha4 hk4 hq4
  have fin : ∀ (jump : Option Code), (∀ c G, jump = some c → okCode G c = true) → aSem P (endS l jump) h4 R →
      ∃ v w5, (Instr.endRound l' jump).run P w4 = .ok v w5 ∧ ∃ v2 v' ρ2 h2, Ending.returned v = .returned v' ∧ Ren.le ρ ρ2 ∧ HRel w0 ρ2 h2 w5 ∧ VRel ρ2 v2 v' ∧ Keep h h2 ∧ R v2 h2 := by
    intro jump hj hqj
    have hle := Ren.le_trans hl2 (Ren.le_trans x1 hl4)
    obtain ⟨ρ5, v, v', h5, w5, y1, y2, y3, y4, y5, y6⟩ := end_out hr4 (hl.mono hle) hj hqj
    exact ⟨v', w5, y2, v, v', ρ5, h5, rfl, Ren.le_trans hle y1, y4, y3, ((hk2.trans x5).trans hk4).trans y5, y6⟩
  cases e with
  | normal => exact fin none (fun c G hc => by cases hc) hq4
  | ret => exact fin (some .ret) (fun c G hc => by cases hc; rfl) hq4
  | exit id => exact fin (some (.exit id)) (fun c G hc => by cases hc; rfl) hq4
  | goto t => exact fin (some (.goto t)) (fun c G hc => by cases hc; rfl) hq4
  | panic => exact he.elim
  | outgrown => exact he.elim

end
end Go.Abs
