/- The abstract machine, part 19: a call that takes no address; the closed facts of a program. -/
import Derived.Test.YtkfoibidnkfndaaGreatDoorAbA17
import Derived.RowKit3
import Derived.ChangeSame
import Derived.Carry
set_option linter.unusedSimpArgs false
namespace Go.Abs
open Go.RowKit

/-- The facts of all functions with a body, as one Bool. -/
def goodBodies (G : Nat) : List Func → Bool
  | [] => true
  | fn :: l => (match fn.body with
    | some c => !(fn.name == "runtime.NumGoroutine") && okCode G c
    | none => true) && goodBodies G l

theorem goodBodies_mem {G : Nat} : ∀ {l : List Func}, goodBodies G l = true → ∀ fn, fn ∈ l → ∀ c, fn.body = some c → (fn.name == "runtime.NumGoroutine") = false ∧ okCode G c = true
  | [], _, fn, hm, _, _ => by cases hm
  | g :: l, h, fn, hm, c, hc => by
    simp only [goodBodies, Bool.and_eq_true] at h
    rcases List.mem_cons.1 hm with rfl | hm
    · have h1 := h.1
      rw [hc] at h1
      simp only [Bool.and_eq_true, Bool.not_eq_true'] at h1
      exact h1
    · exact goodBodies_mem h.2 fn hm c hc

def RowOK (P : Program) (f : FuncId) (x : Ext) : Prop := ∃ (fn : Func) (e : Array Value → Sem Value), P.funcs[f]? = some fn ∧ fn.body = none ∧ (fn.name == "runtime.NumGoroutine") = false ∧ Extern.findNext fn = none ∧ Extern.find fn = some e ∧ ExtLaw x e

inductive RowsOK (P : Program) : Exts → Prop
  | nil : RowsOK P []
  | cons {f : FuncId} {x : Ext} {X : Exts} (h : RowOK P f x) (t : RowsOK P X) : RowsOK P ((f, x) :: X)

theorem RowsOK.find {P : Program} {X : Exts} (h : RowsOK P X) : ∀ (f : FuncId) (x : Ext), X.find f = some x → RowOK P f x := by
  induction h with
  | nil => intro f x hx; cases hx
  | @cons g y X hr _ ih =>
    intro f x hx
    simp only [Exts.find] at hx
    rcases beq_cases g f with ⟨e1, e2⟩ | ⟨e1, e2⟩
    · rw [e2] at hx
      cases hx
      rw [← e1]; exact hr
    · rw [e2] at hx
      exact ih f x hx

theorem extOK_of {P : Program} {X : Exts} (hm : P.follows .mixedOrders = true) (hrows : RowsOK P X) (hg : goodBodies P.globals.size P.funcs.toList = true) : ExtOK P X where
  mixed := hm
  row := hrows.find
  name := fun f fn c hf hc => (goodBodies_mem hg fn (by simpa using Array.mem_of_getElem? hf) c hc).1
  code := fun f fn c hf hc => (goodBodies_mem hg fn (by simpa using Array.mem_of_getElem? hf) c hc).2

def isTrueV : Value → Prop
  | .bool b => b = true
  | _ => False

section
variable {P : Program}

/-- The names at the start: the package-level variables' own. -/
def startRen (G : Nat) : Ren := fun i => if i < G then some ⟨i, 0, 0⟩ else none

theorem start_rel (W : World) {N : Nat} (hN : P.globals.size ≤ N) : HRel W (startRen P.globals.size) ⟨N, .leaf, []⟩ W := by
  refine ⟨Below.refl _ _, fun i o hi => ?_, fun i j oi oj p q _ hi => ?_, fun i hi => ?_⟩
  · cases hi
  · cases hi
  · have : ¬ i < P.globals.size := by
      have : N ≤ i := hi
      omega
    exact ⟨by simp [startRen, this], rfl⟩

theorem start_glob : GRel P.globals.size (startRen P.globals.size) := fun g hg => ⟨0, by simp [startRen, hg]⟩

theorem closed_args {ρ : Ren} : ∀ {l : List Value}, l.all closed = true → LRel ρ l l
  | [], _ => .nil
  | v :: l, h => by
    simp only [List.all_cons, Bool.and_eq_true] at h
    exact .cons (closed_refl h.1) (closed_args h.2)

/-- WHAT THE MACHINE SAYS OF A CALL WITHOUT ADDRESSES HOLDS, in every world. -/
theorem calls_closed {X : Exts} (hX : ExtOK P X) {f : FuncId} {args : Array Value} {n N : Nat} (hN : P.globals.size ≤ N) (hargs : args.toList.all closed = true) {R : Value → Heap → Prop} (hq : (lvl P X n).call f args ⟨N, .leaf, []⟩ R) (W : World) :
    Calls P f args W fun e W' => ∃ v v' ρ h, e = .returned v' ∧ Below W.heap.size W W' ∧ VRel ρ v v' ∧ R v h := by
  have h := (sound (w0 := W) hX n).call f args args ⟨N, .leaf, []⟩ W (startRen P.globals.size) R start_glob (start_rel W hN) (closed_args hargs).arr hq
  have h2 := callsIn_wide.1 h
  refine h2.mono fun e W' he => ?_
  obtain ⟨v, v', ρ2, h2, e1, _, e3, e4, _, e6⟩ := he
  exact ⟨v, v', ρ2, h2, e1, e3.below, e4, e6⟩

/-- .. and where it says true, the call returns true. -/
theorem calls_true {X : Exts} (hX : ExtOK P X) {f : FuncId} {args : Array Value} {n N : Nat} (hN : P.globals.size ≤ N) (hargs : args.toList.all closed = true) (hq : (lvl P X n).call f args ⟨N, .leaf, []⟩ (fun v _ => isTrueV v) = (true = true)) (W : World) :
    Calls P f args W fun e W' => e = .returned (.bool true) ∧ Below W.heap.size W W' := by
  refine (calls_closed hX hN hargs (Eq.mpr hq rfl) W).mono fun e W' he => ?_
  obtain ⟨v, v', ρ, h, rfl, h1, h2, h3⟩ := he
  refine ⟨?_, h1⟩
  unfold isTrueV at h3
  split at h3
  · subst h3
    cases h2
    rfl
  · exact h3.elim

/-- The row's post where of what was there nothing has turned (new blocks may bear marks). -/
theorem post_below {H : Type} {enc : TypeId × Value → H} {f : Func} {s : ChangeSpec} {apart fresh handsOn again : Bool} {W W' : World} {args : Array Value} {v : Value} {ds gs : List (DataW H)} {before pa pv : List MemPlace}
    (hW : DataW.Whole enc P f.params.toList s.vars apart W args.toList ds gs before) (hb : Below W.heap.size W W')
    (hres : ∀ (b : Nat) (sp : Nat → Bool) (hd : Bool), DataW.TrodAll enc P W' b sp hd f.resultTypes.toList (v.resultList f.resultTypes.size) (s.fn H (ds ++ gs)).results [])
    (hargs : ∀ sp : Nat → Bool, (∀ p ∈ before, sp p.block = true) → DataW.TrodAll enc P W' 0 sp true f.params.toList args.toList (s.fn H (ds ++ gs)).args pa)
    (hvars : ∀ sp : Nat → Bool, (∀ p ∈ before, sp p.block = true) → DataW.TrodVars enc P W' sp s.vars (s.fn H (ds ++ gs)).vars pv)
    (hps : before = pa ++ pv)
    (hok : ∀ (j : Nat) (t : TypeId) (r : Value), f.resultTypes[j]? = some t → (v.resultList f.resultTypes.size)[j]? = some r → Value.okWide P W' .any 0 t r) :
    s.post enc P f apart fresh handsOn again W args v W' := by
  have hold : ∀ p ∈ before, (fun b => decide (b < W.heap.size)) p.block = true := fun p hp => by simpa using hW.lt p hp
  have hlt := hW.lt
  refine ⟨ds, gs, before, [], pa, pv, hW, hres _ _ _, hargs _ hold, hvars _ hold, World.keptBut_mono (fun p hp => ⟨hp, ?_⟩) (hb.frame (· ∈ before)), fun _ => ?_⟩
  · rw [hps, List.mem_append] at hp
    exact Or.inr hp
  · obtain ⟨_, _, _, _, _, hz, hn⟩ := hW
    refine ⟨hok, _, _, ([] ++ pa) ++ pv, ⟨[] ++ pa, pv, Go.ChangeShapes.trodAll_append (hargs _ (fun _ _ => rfl)) (hres _ _ _), hvars _ (fun _ _ => rfl), rfl, ?_, ?_⟩, ?_⟩
    · intro b off hp
      have hp' : MemPlace.cell b off ∈ before := by rw [hps]; simpa using hp
      rw [hb.frozen (hlt _ hp')]
      exact hz b off hp'
    · intro ha
      have := hn ha
      rw [hps] at this
      simpa using this
    · intro p hp _
      rw [hps]
      simpa using hp

end
end Go.Abs
