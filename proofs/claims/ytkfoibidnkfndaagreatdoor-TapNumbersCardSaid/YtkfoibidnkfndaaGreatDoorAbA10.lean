/- The abstract machine, part 11: calls; what an operation yields. -/
import Derived.Test.YtkfoibidnkfndaaGreatDoorAbA9
set_option linter.unusedSimpArgs false
namespace Go.Abs
open Go.RowKit

section
variable {P : Program} {w0 : World} {ρ : Ren}

theorem callFunc_out {X : Exts} (hX : ExtOK P X) {f : FuncId} {args args' : List Value} (ha : LRel ρ args args') {h : Heap} {w : World} {Q : Next → Heap → Prop} (hr : HRel w0 ρ h w) (hq : aFunc P X f args h Q) :
    Out P w0 NextRel ρ h w (callFunc f args'.toArray) Q := by
  unfold aFunc at hq
  split at hq
  case h_2 => exact hq.elim
  rename_i fn hf
  split at hq
  · rename_i c hb
    have hn := hX.name f fn c hf hb
    exact Out.same (b := .enter f args'.toArray) hr (by simp only [callFunc, Sem.run_bind, run_program, Result.andThen_ok, hf, hn, hb]; rfl) (.enter f ha.arr') hq
  · rename_i hb
    unfold aExtern at hq
    split at hq
    case h_2 => exact hq.elim
    rename_i x hx
    obtain ⟨fn', e, h1, h2, h3, h4, h5, h6⟩ := hX.row f x hx
    rw [hf] at h1
    cases h1
    obtain ⟨ρ2, v, v', h', w', x1, x2, x3, x4, x5, x6⟩ := (h6 P w0 ρ args args' ha).out hr hq
    refine ⟨ρ2, _, .value v', h', w', x1, ?_, .value x3, x4, x5, x6⟩
    have h3' : ¬ fn.name = "runtime.NumGoroutine" := by simpa using h3
    simp [callFunc, hf, h3', hb, h4, h5, x2]

theorem methodIn_find : ∀ (l : List Method) (n : String), l.find? (·.name == n) = methodIn l n
  | [], n => rfl
  | m :: l, n => by
    rw [List.find?_cons, methodIn]
    cases m.name == n with
    | true => rfl
    | false => exact methodIn_find l n

theorem method_run {t : TypeId} {name : String} {f : FuncId} (hm : methodV P t name = some f) (v : Value) (d : Nat) (w : World) : (Go.method (d + 1) t v name).run P w = .ok (f, v) w := by
  unfold methodV at hm
  cases hi : P.info? t with
  | none => rw [hi] at hm; cases hm
  | some i =>
    rw [hi] at hm
    simp only [Option.bind_some] at hm
    cases hmi : methodIn i.methods.toList name with
    | none => rw [hmi] at hm; cases hm
    | some m =>
      rw [hmi] at hm
      simp only [Option.bind_some] at hm
      have hfind : i.methods.find? (·.name == name) = some m := by
        rw [← methodIn_find] at hmi
        rw [← Array.find?_toList]
        exact hmi
      cases hp : m.path.toList.isEmpty with
      | false => rw [hp] at hm; cases hm
      | true =>
        rw [hp] at hm
        simp only [cond_true] at hm
        have hpl : m.path.toList = [] := List.isEmpty_iff.1 hp
        split at hm
        · rename_i f0 e hmf hu
          cases hm
          simp [Go.method, typeInfo, hi, hfind, hpl, follow, hmf, receiverAt, run_und hu, Place.get]
        · cases hm
        · rename_i f0 d0 hnp hmf hu
          cases hm
          cases d0 <;> first | (rename_i e; exact (hnp _ rfl).elim) | simp [Go.method, typeInfo, hi, hfind, hpl, follow, hmf, receiverAt, run_und hu, Place.get]
        · cases hm

theorem setAll_rel : ∀ (ts : List Tmp) {l l' : List Value} (_ : LRel ρ l l') {a a' : Array Value} (_ : ARel ρ a a'), ARel ρ (setAll ts l a) (setAll ts l' a')
  | [], _, _, h, _, _, ha => by cases h <;> exact ha
  | t :: ts, _, _, h, _, _, ha => by
    cases h with
    | nil => exact ha
    | cons hv ht => exact setAll_rel ts ht (ha.set t hv)

theorem setAll_zip : ∀ (ps : List Tmp) (args : List Value) (a : Array Value), (ps.zip args).foldl (fun tmps (x : Tmp × Value) => tmps.setIfInBounds x.1 x.2) a = setAll ps args a
  | [], _, _ => rfl
  | _ :: _, [], _ => rfl
  | p :: ps, v :: vs, a => by
    simp only [List.zip_cons_cons, List.foldl_cons, setAll]
    exact setAll_zip ps vs _

theorem newRel_loop {l : Loop} {o' : Obj} (h : NewRel ρ (.loop l) o') : ∃ l', o' = .loop l' ∧ LoopRel ρ l l' := by
  cases h with
  | loop h => exact ⟨_, rfl, h⟩

theorem sim_yield {l l' : Nat} (hl : ORel ρ l l') {args args' : List Value} (ha : LRel ρ args args') : Sim P w0 NextRel ρ (yieldS l args) (Instr.yield l' args'.toArray) := by
  refine Sim.run_eq (s1 := getObj l' >>= fun o => match o with
    | .loop r => if args'.toArray.size ≠ r.params.size then stuck "yield: the wrong number of arguments" else Pure.pure (.round l' r.fn (setAll r.params.toList args' r.tmps) r.assign r.body)
    | _ => stuck "range over a function: no such loop") (fun w => ?_) ?_
  · simp only [Instr.yield, Instr.getLoop, Sem.run_bind]
    cases (getObj l').run P w with
    | halt => rfl
    | ok o w' =>
      cases o <;> first | rfl | skip
      rename_i r
      simp only [Result.andThen_ok, Sem.run_pure]
      by_cases hs : args'.toArray.size ≠ r.params.size
      · have hs' : ¬ args'.length = r.params.size := by simpa using hs
        simp [hs']
      · have hs' : args'.toArray.size = r.params.size := Classical.not_not.1 hs
        have e : Array.foldl (fun tmps (x : Tmp × Value) => tmps.setIfInBounds x.1 x.2) r.tmps (r.params.zip args'.toArray) = setAll r.params.toList args' r.tmps := by
          rw [← setAll_zip, ← Array.foldl_toList]
          simp
        simp only [ne_eq, hs', not_true_eq_false, if_false]
        rw [e]
  · unfold yieldS
    refine Sim.bind (Sim.getObj hl) fun ρ1 hl1 o o' ho => ?_
    cases o with
    | loop r =>
      obtain ⟨r', rfl, hr⟩ := newRel_loop ho.1
      simp only
      rcases beq_cases args.length r.params.size with ⟨e1, e2⟩ | ⟨e1, e2⟩
      · rw [e2]
        simp only [cond_true]
        have e3 : ¬ (args'.toArray.size ≠ r'.params.size) := by
          rw [← hr.params, ← e1, ha.length]; simp
        rw [if_neg e3]
        refine Sim.pure fun ρ2 hl2 => ?_
        rw [← hr.params, ← hr.assign, ← hr.body]
        obtain ⟨G, g1, g2, _, g4⟩ := hr.ok
        exact .round (hl.mono (Ren.le_trans hl1 hl2)) (setAll_rel _ (ha.mono (Ren.le_trans hl1 hl2)) (hr.tmps.mono hl2)) ⟨G, g1, g2, g4.mono hl2⟩
      · rw [e2]; exact Sim.stuck
    | _ => exact Sim.no fun _ _ h => h

theorem target_out {X : Exts} (hX : ExtOK P X) {fn fn' : Fn} {cap cap' : Array Value} {args args' : List Value} (hf : FnRel ρ fn fn') (hc : ARel ρ cap cap') (ha : LRel ρ args args') {h : Heap} {w : World} {Q : Next → Heap → Prop} (hr : HRel w0 ρ h w)
    (hq : aTarget P X fn cap.toList args h Q) : Out P w0 NextRel ρ h w (invoke (.fn fn' cap') args'.toArray) Q := by
  unfold aTarget at hq
  split at hq
  · rename_i f
    cases hf
    have := callFunc_out hX (ha.append hc.list) hr hq
    refine Out.run_eq ?_ this
    have e : args'.toArray ++ cap' = (args' ++ cap'.toList).toArray := by apply Array.toList_inj.1; simp
    show (callFunc f (args'.toArray ++ cap')).run P w = _
    rw [e]
  · rename_i name
    cases hf
    split at hq
    case h_2 => exact hq.elim
    rename_i t v r
    split at hq
    case h_2 => exact hq.elim
    rename_i f hm
    cases ha with
    | @cons _ x' _ r' hx hrest =>
      cases hx with
      | @iface _ _ v' hv =>
        have := callFunc_out hX (.cons hv hrest) hr hq
        refine Out.run_eq ?_ this
        have hme := fun d w => method_run (P := P) hm v' d w
        have hd : P.types.size + Made.depth = (P.types.size + 99) + 1 := rfl
        have e1 : (Value.iface t v' :: r').toArray[0]? = some (.iface t v') := by simp
        have e2 : #[v'] ++ ((Value.iface t v' :: r').toArray.extract 1 (Value.iface t v' :: r').toArray.size) = (v' :: r').toArray := by
          apply Array.toList_inj.1; simp
        simp only [invoke, e1, callMethod, Sem.run_bind, run_program, Result.andThen_ok, hd, hme, e2]
  · rename_i l
    cases hf with
    | yield hl => exact (sim_yield hl ha).out hr hq
  · exact hq.elim

theorem invoke_out {X : Exts} (hX : ExtOK P X) {d d' : Deferred} (hd : DeferRel ρ d d') {h : Heap} {w : World} {Q : Next → Heap → Prop} (hr : HRel w0 ρ h w) (hq : aInvoke P X d h Q) : Out P w0 NextRel ρ h w (invoke d'.target d'.args) Q := by
  unfold aInvoke at hq
  obtain ⟨t, a⟩ := d
  obtain ⟨t', a'⟩ := d'
  obtain ⟨ht, ha⟩ := hd
  simp only at ht ha hq ⊢
  cases ht with
  | fn hf hc =>
    have := target_out hX hf hc ha.list hr hq
    simpa using this
  | _ => exact hq.elim

theorem ARel.nil : ARel ρ #[] #[] := ⟨rfl, fun i v v' e => by simp at e⟩

theorem defer_yes {G : Nat} {ev ev' : Operand → Value} (hev : EvRel G ρ ev ev') {c : Call} (hok : ∀ x, x ∈ c.operands.toList → okOpd G x = true) {d : Deferred} (hd : deferV ev c = some d) (ty : TypeId) :
    ∃ d', (∀ w, (resolve ev' c ty).run P w = .ok d' w) ∧ DeferRel ρ d d' := by
  have hargs : LRel ρ (c.args.toList.map ev) (c.args.toList.map ev') := mapA_rel fun x hx => hev x (hok x (by
    unfold Call.operands
    rw [Array.toList_append]
    exact List.mem_append_right _ hx))
  unfold deferV at hd
  split at hd
  · cases hd
  · rename_i recv name hcal
    cases hd
    have hrecv : VRel ρ (ev recv) (ev' recv) := hev recv (hok recv (by unfold Call.operands; rw [hcal]; simp))
    refine ⟨_, fun w => by simp only [resolve, hcal]; rfl, ⟨.fn (.method name) (ARel.nil (ρ := ρ)), ?_⟩⟩
    have := (LRel.cons hrecv hargs).arr'
    refine LRel.arr ?_
    simpa using this.list
  · rename_i f hcal
    have hf : VRel ρ (ev f) (ev' f) := hev f (hok f (by unfold Call.operands; rw [hcal]; simp))
    split at hd
    case h_2 => cases hd
    rename_i fn first cap hef
    cases hd
    rw [hef] at hf
    cases hef' : ev' f with
    | func fn' first' cap' =>
      rw [hef'] at hf
      cases hf with
      | func h1 h2 h3 h4 h5 =>
        refine ⟨_, fun w => by simp only [resolve, hcal, Deferred.ofValue, hef']; rfl, ⟨.fn h1 ⟨h4, h5⟩, ?_⟩⟩
        refine LRel.arr ?_
        have hl : LRel ρ first.toList first'.toList := ARel.list ⟨h2, h3⟩
        simpa using hl.append hargs
    | _ => rw [hef'] at hf; cases hf

end
end Go.Abs
