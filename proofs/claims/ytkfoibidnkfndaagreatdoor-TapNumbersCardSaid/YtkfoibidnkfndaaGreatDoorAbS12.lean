/- Symbolic execution, part 12: the semantic level meets the rules; contracts of calls out of trees; a call with fresh memory. -/
import Derived.Test.YtkfoibidnkfndaaGreatDoorAbS11
set_option linter.unusedVariables false
set_option linter.unusedSimpArgs false
namespace Go.Abs
open Go.RowKit

section
variable {P : Program} {X : Exts} {w0 : World}

theorem top_codeMono {rd : Option Nat} {c : Code} {Q Q' : KQ} {a : Act} {h : Heap} (hm : ∀ e a h, Q e a h → Q' e a h) (hq : (top P w0).code rd c Q a h) : (top P w0).code rd c Q' a h := by
  intro G rd' Q2 a' w ρ hok hgG hg hrd hr ha hQ
  refine hq G rd' Q2 a' w ρ hok hgG hg hrd hr ha ?_
  intro e he ρ2 a2 a2' h2 w2 hl2 hr2 ha2 hk2 hq2
  exact hQ e he ρ2 a2 a2' h2 w2 hl2 hr2 ha2 hk2 (hm _ _ _ hq2)

theorem top_callMono {f : FuncId} {args : Array Value} {h : Heap} {R R' : Value → Heap → Prop} (hm : ∀ v h', R v h' → R' v h') (hq : (top P w0).call f args h R) : (top P w0).call f args h R' := by
  intro args' w ρ hg hr ha
  refine (hq args' w ρ hg hr ha).mono fun e w2 he => ?_
  obtain ⟨v, v', ρ2, h2, e1, e2, e3, e4, e5, e6⟩ := he
  exact ⟨v, v', ρ2, h2, e1, e2, e3, e4, e5, hm _ _ e6⟩

/-- What a call leaves: pins as they were, no name lost. -/
theorem top_callKeep {f : FuncId} {args : Array Value} {h : Heap} {R : Value → Heap → Prop} (hq : (top P w0).call f args h fun v h' => Keep h h' → R v h') : (top P w0).call f args h R := by
  intro args' w ρ hg hr ha
  refine (hq args' w ρ hg hr ha).mono fun e w2 he => ?_
  obtain ⟨v, v', ρ2, h2, e1, e2, e3, e4, e5, e6⟩ := he
  exact ⟨v, v', ρ2, h2, e1, e2, e3, e4, e5, e6 e5⟩

theorem topLike (hX : ExtOK P X) : TopLike P X (top P w0) where
  step := fun hnl hq => code_step hX top_sound hnl hq
  loop := fun I hr _ _ _ h0 => top_loop I hr h0
  call := fun hq => call_step hX top_sound hq
  callD := fun hq => callD_step hX top_sound hq
  callMono := fun hm hq => top_callMono hm hq
  codeMono := fun hm hq => top_codeMono hm hq

def tc0 : TC := fun _ _ => False

/-- A CONTRACT OF A CALL, OUT OF ITS TREE. -/
theorem vc_sound (hX : ExtOK P X) {H : Hints} {n : Nat} {f : FuncId} {args : List SV} {hb : Nat} {ρ : Env} {R : Value → Heap → Prop}
    (h : (vcT P X H n f args hb ρ.length).den P (top P w0) R tc0 ρ) : (top P w0).call f (args.map (SV.den ρ)).toArray (Env.h ρ hb) R := by
  unfold vcT at h
  split at h <;> try exact h.elim
  rename_i fn hf
  split at h <;> try exact h.elim
  rename_i c hbd
  have := sx_sound (topLike hX) (H := H) n _ tc0 ρ rfl h
  refine (topLike (w0 := w0) hX).call ?_
  unfold aCall
  rw [hf]
  simp only
  rw [hbd]
  simp only
  simp only [Cfg.den, codeAt_nil hf hbd, enterSAct_den] at this
  refine top_codeMono (fun e a h' hq => ?_) this
  simp only [denF] at hq
  cases e <;> simp only [hf] at hq ⊢ <;> first | exact hq | exact hq.elim

/-- .. with what the kernel has shown. -/
theorem vc_eq (hX : ExtOK P X) {H : Hints} {n : Nat} {f : FuncId} {args : List SV} {hb : Nat} {ρ : Env} {R : Value → Heap → Prop} {Q G : Prop}
    (he : (vcT P X H n f args hb ρ.length).den P (top P w0) R tc0 ρ = Q) (hq : Q) (ha : (top P w0).call f (args.map (SV.den ρ)).toArray (Env.h ρ hb) R = G) : G :=
  Eq.mp ha (vc_sound hX (Eq.mpr he hq))

/-- What a run says. -/
theorem top_of_lvl {n : Nat} (hX : ExtOK P X) {f : FuncId} {args : Array Value} {h : Heap} (hq : (lvl P X n).call f args h (fun v _ => isTrueV v) = (true = true)) : (top P w0).call f args h (fun v _ => isTrueV v) :=
  (sound hX n).top_call (Eq.mpr hq rfl)

/-- A CALL THAT TAKES NO ADDRESS, told of a fresh memory, is told of every memory; and what was there stays. -/
theorem call_fresh {f : FuncId} {args : Array Value} {N : Nat} (hN : P.globals.size ≤ N) (hargs : args.toList.all closed = true) {h : Heap} {R : Value → Heap → Prop} {V : Value → Prop}
    (hV : ∀ v, V v → closed v = true) (hq : ∀ w0, (top P w0).call f args ⟨N, .leaf, []⟩ fun v _ => V v) (hR : ∀ v, V v → R v h) : (top P w0).call f args h R := by
  intro args' w ρ hg hr ha
  have hargs' : LRel (startRen P.globals.size) args.toList args.toList := closed_args hargs
  have e : args' = args := by
    have h1 := ha.list
    have : ∀ {l l' : List Value}, l.all closed = true → LRel ρ l l' → l' = l := by
      intro l l' hc hl
      induction hl with
      | nil => rfl
      | cons hv _ ih =>
        simp only [List.all_cons, Bool.and_eq_true] at hc
        rw [closed_eq hc.1 hv, ih hc.2]
    exact Array.toList_inj.1 (this hargs h1)
  subst e
  have hh := hq w args' w (startRen P.globals.size) start_glob (start_rel w hN) hargs'.arr
  refine hh.mono fun ee w2 he => ?_
  obtain ⟨v, v', ρ2, h2, e1, e2, e3, e4, e5, e6⟩ := he
  refine ⟨v, v, ρ, h, ?_, Ren.le_refl _, ?_, closed_refl (hV v e6), Keep.refl _, hR v e6⟩
  · rw [e1, closed_eq (hV v e6) e4]
  · have hb : Below w.heap.size w w2 := e3.below
    refine ⟨hr.below.trans (hb.mono ?_), ?_, hr.sep, hr.fresh⟩
    · exact hr.below.size
    · intro i o hi
      obtain ⟨p, o', h1, h3, h4, h5⟩ := hr.objs i o hi
      refine ⟨p, o', h1, ?_, h4, h5⟩
      exact (hb.block _ (lt_of_heap h3)).trans h3

end
end Go.Abs
