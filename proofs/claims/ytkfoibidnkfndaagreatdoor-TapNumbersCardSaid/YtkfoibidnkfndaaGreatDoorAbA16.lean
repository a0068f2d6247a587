/- The abstract machine, part 17: how a function ends. -/
import Derived.Test.YtkfoibidnkfndaaGreatDoorAbA15
set_option linter.unusedSimpArgs false
namespace Go.Abs
open Go.RowKit

section
variable {P : Program} {w0 : World}

def resOne (tmps : Array Value) : ResultVar → Sem Value
  | .tmp t => Pure.pure (tmps.getD t undef)
  | .cell a t => do loadVar t (← asAddr (tmps.getD a undef))

theorem results_run (fn : Func) (tmps : Array Value) (w : World) : (results fn tmps).run P w = ((fn.results.toList.mapM (resOne tmps)) >>= fun vs => Pure.pure (if h : vs.toArray.size = 1 then vs.toArray[0] else .tuple vs.toArray) : Sem Value).run P w := by
  have key : results fn tmps = (fn.results.mapM (resOne tmps) >>= fun vs => Pure.pure (if h : vs.size = 1 then vs[0] else .tuple vs)) := by
    unfold results
    congr 1
  rw [key, Array.mapM_eq_mapM_toList]
  simp

theorem resList_run {ρ : Ren} {h : Heap} {w : World} {tmps tmps' : Array Value} (hr : HRel w0 ρ h w) (ht : ARel ρ tmps tmps') : ∀ (l : List ResultVar) {F : List Value → Heap → Prop}, aSem P (resList P tmps l) h F →
    ∃ vs vs', F vs h ∧ LRel ρ vs vs' ∧ (l.mapM (resOne tmps')).run P w = .ok vs' w
  | [], F, hq => ⟨[], [], hq, .nil, by rw [List.mapM_nil]; rfl⟩
  | .tmp t :: l, F, hq => by
    unfold resList at hq
    rw [aSem_bind] at hq
    obtain ⟨vs, vs', h1, h2, h3⟩ := resList_run hr ht l hq
    refine ⟨_, tmps'.getD t undef :: vs', h1, .cons (ht.getD t) h2, ?_⟩
    rw [List.mapM_cons]
    simp only [resOne, Sem.run_bind, Sem.run_pure, Result.andThen_ok, h3]
  | .cell a t :: l, F, hq => by
    unfold resList at hq
    split at hq
    · rename_i ad had
      rw [aSem_bind] at hq
      obtain ⟨v, hq1, hcells, hall⟩ := loadS_inv (w0 := w0) hq
      rw [aSem_bind] at hq1
      obtain ⟨vs, vs', h1, h2, h3⟩ := resList_run hr ht l hq1
      obtain ⟨ad', e1, e2⟩ := addrOf_inv had (ht.getD a)
      obtain ⟨v', h4, h5⟩ := hall ρ h w ad' hr e2 fun _ _ _ e => e
      refine ⟨_, v' :: vs', h1, .cons h4 h2, ?_⟩
      rw [List.mapM_cons]
      simp only [resOne, e1, asAddr, Sem.run_bind, Sem.run_pure, Result.andThen_ok, h5, h3]
    · exact hq.elim

theorem resVal_rel {ρ : Ren} {vs vs' : List Value} (h : LRel ρ vs vs') : VRel ρ (resVal vs) (if h : vs'.toArray.size = 1 then vs'.toArray[0] else .tuple vs'.toArray) := by
  cases h with
  | nil => exact .tuple' .nil
  | cons h1 h2 =>
    cases h2 with
    | nil => simpa [resVal] using h1
    | cons h3 h4 =>
      rw [dif_neg (by simp)]
      exact .tuple' (by simpa using LRel.cons h1 (.cons h3 h4))

theorem results_in {ρ : Ren} {h : Heap} {w : World} {fn : Func} {tmps tmps' : Array Value} (hr : HRel w0 ρ h w) (ht : ARel ρ tmps tmps') {R : Value → Heap → Prop} (hq : aResults P fn tmps h R) :
    ∃ v v', R v h ∧ VRel ρ v v' ∧ (results fn tmps').run P w = .ok v' w := by
  unfold aResults at hq
  obtain ⟨vs, vs', h1, h2, h3⟩ := resList_run hr ht _ hq
  refine ⟨_, _, h1, resVal_rel h2, ?_⟩
  rw [results_run, Sem.run_bind, h3]
  rfl

/-- What is entered at once: the world stays. -/
theorem func_enter {X : Exts} (hX : ExtOK P X) {ρ : Ren} {f : FuncId} {args args' : List Value} (ha : LRel ρ args args') {h : Heap} {w : World} {Q : Next → Heap → Prop} (hQ : ∀ v h', ¬ Q (.value v) h') (hr : HRel w0 ρ h w) (hq : aFunc P X f args h Q) :
    (callFunc f args'.toArray).run P w = .ok (.enter f args'.toArray) w ∧ Q (.enter f args.toArray) h := by
  unfold aFunc at hq
  split at hq
  case h_2 => exact hq.elim
  rename_i fn hf
  split at hq
  · rename_i c hb
    have hn := hX.name f fn c hf hb
    exact ⟨by simp only [callFunc, Sem.run_bind, run_program, Result.andThen_ok, hf, hn, hb]; rfl, hq⟩
  · exfalso
    unfold aExtern at hq
    split at hq
    case h_2 => exact hq.elim
    rename_i x hx
    obtain ⟨fn', e, h1, h2, h3, h4, h5, h6⟩ := hX.row f x hx
    obtain ⟨ρ2, v, v', h', w', x1, x2, x3, x4, x5, x6⟩ := (h6 P w0 ρ args args' ha).out hr hq
    exact hQ v h' x6

theorem target_enter {X : Exts} (hX : ExtOK P X) {ρ : Ren} {fn fn' : Fn} {cap cap' : Array Value} {args args' : List Value} (hf : FnRel ρ fn fn') (hc : ARel ρ cap cap') (ha : LRel ρ args args') {h : Heap} {w : World} {Q : Next → Heap → Prop}
    (hQ : ∀ v h', ¬ Q (.value v) h') (hQ2 : ∀ l f t x y h', ¬ Q (.round l f t x y) h') (hr : HRel w0 ρ h w) (hq : aTarget P X fn cap.toList args h Q) :
    ∃ f as as', (invoke (.fn fn' cap') args'.toArray).run P w = .ok (.enter f as') w ∧ ARel ρ as as' ∧ Q (.enter f as) h := by
  unfold aTarget at hq
  split at hq
  · rename_i f
    cases hf
    obtain ⟨h1, h2⟩ := func_enter hX (ha.append hc.list) hQ hr hq
    refine ⟨f, _, _, ?_, (ha.append hc.list).arr', h2⟩
    have e : args'.toArray ++ cap' = (args' ++ cap'.toList).toArray := by apply Array.toList_inj.1; simp
    show (callFunc f (args'.toArray ++ cap')).run P w = _
    rw [e]; exact h1
  · rename_i name
    cases hf
    split at hq
    case h_2 => exact hq.elim
    rename_i t v r
    split at hq
    case h_2 => exact hq.elim
    rename_i f hm
    cases ha with
    | @cons _ x' _ r' hx hrest =>
      cases hx with
      | @iface _ _ v' hv =>
        obtain ⟨h1, h2⟩ := func_enter hX (.cons hv hrest) hQ hr hq
        refine ⟨f, _, _, ?_, (LRel.cons hv hrest).arr', h2⟩
        rw [← h1]
        have hme := fun d w => method_run (P := P) hm v' d w
        have hd : P.types.size + Made.depth = (P.types.size + 99) + 1 := rfl
        have e1 : (Value.iface t v' :: r').toArray[0]? = some (.iface t v') := by simp
        have e2 : #[v'] ++ ((Value.iface t v' :: r').toArray.extract 1 (Value.iface t v' :: r').toArray.size) = (v' :: r').toArray := by
          apply Array.toList_inj.1; simp
        simp only [invoke, e1, callMethod, Sem.run_bind, run_program, Result.andThen_ok, hd, hme, e2]
  · exfalso
    rename_i l
    cases hf with
    | yield hl =>
      obtain ⟨ρ2, nx, nx', h', w', x1, x2, x3, x4, x5, x6⟩ := (sim_yield hl ha).out hr hq
      unfold yieldS at hq
      rw [aSem_bind] at hq
      simp only [Go.getObj, aSem] at hq
      split at hq
      · rename_i o ho
        cases hn : notCells o with
        | false => rw [hn] at hq; exact hq.elim
        | true =>
          rw [hn] at hq
          simp only [cond_true] at hq
          cases o <;> first | exact hq.elim | skip
          rename_i r
          simp only at hq
          cases hb : Nat.beq args.length r.params.size with
          | false => rw [hb] at hq; exact hq.elim
          | true => rw [hb] at hq; exact hQ2 _ _ _ _ _ _ hq
      · exact hq.elim
  · exact hq.elim

theorem takeS_out {ρ : Ren} {h : Heap} {w : World} {r r' : Nat} (hr : HRel w0 ρ h w) (hrr : ORel ρ r r') {F : List Deferred → Heap → Prop} (hq : aSem P (takeS r) h F) :
    Out P w0 (fun ρ a b => DefersRel ρ a b) ρ h w (Instr.takeDeferred r') F := by
  unfold takeS at hq
  rw [aSem_bind] at hq
  have hg : ∃ ds, h.get r = some (.deferred (some ds)) ∧ aSem P (setObj r (.deferred none) >>= fun _ => pure ds) h F := by
    simp only [Go.getObj, aSem] at hq
    split at hq
    · rename_i o ho
      cases hn : notCells o with
      | false => rw [hn] at hq; exact hq.elim
      | true =>
        rw [hn] at hq
        simp only [cond_true] at hq
        cases o <;> first | exact hq.elim | skip
        rename_i d
        cases d with
        | none => exact hq.elim
        | some ds => exact ⟨ds, ho, hq⟩
    · exact hq.elim
  obtain ⟨ds, hgo, hq⟩ := hg
  obtain ⟨o', hrun, hnew⟩ := hr.getAt (P := P) hgo rfl hrr
  cases hnew with
  | @deferred _ ds' hd =>
    rw [aSem_bind] at hq
    obtain ⟨ρ2, u, u', h', w', x1, x2, x3, x4, x5, x6⟩ := (Sim.setObj (P := P) hrr .gone).out hr hq
    refine ⟨ρ2, ds, ds', h', w', x1, ?_, hd.mono x1, x4, x5, x6⟩
    simp [Instr.takeDeferred, hrun, x2]

theorem leave_in {X : Exts} {L : Lvl} (hX : ExtOK P X) (hL : Sound P w0 L) {fn : Func} {tmps tmps' : Array Value} {R : Value → Heap → Prop} {ρ0 : Ren} {h0 : Heap} : ∀ (ds ds' : List Deferred) (h : Heap) (w : World) (ρ : Ren),
    GRel P.globals.size ρ → HRel w0 ρ h w → ARel ρ tmps tmps' → DefersRel ρ ds ds' → Ren.le ρ0 ρ → Keep h0 h → aLeave P X L fn tmps R ds h →
    LeavesInM Fence.wide 0 P fn tmps' (fun e w2 => ∃ v v' ρ2 h2, e = .returned v' ∧ Ren.le ρ0 ρ2 ∧ HRel w0 ρ2 h2 w2 ∧ VRel ρ2 v v' ∧ Keep h0 h2 ∧ R v h2) ds' .returning w := by
  intro ds
  induction ds with
  | nil =>
    intro ds' h w ρ hg hr ht hd hl hk hq
    cases hd
    obtain ⟨v, v', h1, h2, h3⟩ := results_in hr ht hq
    exact ⟨v', h3, v, v', ρ, h, rfl, hl, hr, h2, hk, h1⟩
  | cons d ds ih =>
    intro ds' h w ρ hg hr ht hd hl hk hq
    cases hd with
    | @cons _ d' _ ds' hd hds =>
      refine ⟨by simp, ?_⟩
      obtain ⟨t, as⟩ := d
      obtain ⟨t', as'⟩ := d'
      obtain ⟨htar, hargs⟩ := hd
      simp only at htar hargs
      unfold aLeave at hq
      cases htar with
      | collected hrr =>
        simp only at hq
        obtain ⟨ρ2, calls, calls', h', w', x1, x2, x3, x4, x5, x6⟩ := takeS_out hr hrr hq
        refine .inl ⟨_, w', rfl, ?_, ?_⟩
        · cases calls with
          | nil => cases x3; exact x2
          | cons _ _ => exact x6.elim
        · cases calls with
          | nil => exact ih ds' h' w' ρ2 (hg.mono x1) x4 (ht.mono x1) (hds.mono x1) (Ren.le_trans hl x1) (hk.trans x5) x6
          | cons _ _ => exact x6.elim
      | @fn f0 f0' cap cap' hf hc =>
        simp only at hq
        unfold aInvoke at hq
        simp only at hq
        obtain ⟨f, bs, bs', y1, y2, y3⟩ := target_enter hX hf hc hargs.list (fun _ _ h => h) (fun _ _ _ _ _ _ h => h) hr hq
        refine .inr ⟨fun hd => (by cases hd), f0', cap', f, bs', rfl, by simpa using y1, fun _ _ => trivial, ?_⟩
        refine (hL.callD f bs bs' h w ρ _ hg hr y2 y3).mono fun e u w2 he => ?_
        obtain ⟨rfl, v', ρ2, h2, rfl, z1, z2, z3, z4⟩ := he
        exact ih ds' h2 w2 ρ2 (hg.mono z1) z2 (ht.mono z1) (hds.mono z1) (Ren.le_trans hl z1) (hk.trans z3) z4
      | nil => exact hq.elim
      | builtin => exact hq.elim

end
end Go.Abs
