/- The abstract machine, part 9: builtins, body-less functions, calls. -/
import Derived.Test.YtkfoibidnkfndaaGreatDoorAbA7
set_option linter.unusedSimpArgs false
namespace Go.Abs
open Go.RowKit

inductive NextRel (ρ : Ren) : Next → Next → Prop
  | value {v v' : Value} (h : VRel ρ v v') : NextRel ρ (.value v) (.value v')
  | skip : NextRel ρ .skip .skip
  | defer {d d' : Deferred} (h : DeferRel ρ d d') : NextRel ρ (.defer d) (.defer d')
  | enter (f : FuncId) {a a' : Array Value} (h : ARel ρ a a') : NextRel ρ (.enter f a) (.enter f a')
  | round {l l' f f' : Nat} {t t' : Array Value} {assign body : Code} (h : ORel ρ l l') (ht : ARel ρ t t') (ok : ∃ G, okCode G assign = true ∧ okCode G body = true ∧ GRel G ρ) : NextRel ρ (.round l f t assign body) (.round l' f' t' assign body)

section
variable {P : Program} {w0 : World} {ρ : Ren}

theorem Out.value {h : Heap} {w : World} {s' : Sem Value} {Q : Next → Heap → Prop} (ho : Out P w0 VRel ρ h w s' fun v h' => Q (.value v) h') : Out P w0 NextRel ρ h w (s' >>= fun v => Pure.pure (.value v)) Q := by
  obtain ⟨ρ2, v, v', h', w', x1, x2, x3, x4, x5, x6⟩ := ho
  exact ⟨ρ2, _, .value v', h', w', x1, by simp [x2], .value x3, x4, x5, x6⟩

theorem Out.unit {h : Heap} {w : World} {s' : Sem Unit} {Q : Next → Heap → Prop} (ho : Out P w0 (fun _ _ _ => True) ρ h w s' fun (_ : Unit) h' => Q .skip h') : Out P w0 NextRel ρ h w (s' >>= fun _ => Pure.pure .skip) Q := by
  obtain ⟨ρ2, v, v', h', w', x1, x2, x3, x4, x5, x6⟩ := ho
  exact ⟨ρ2, _, .skip, h', w', x1, by simp [x2], .skip, x4, x5, x6⟩

theorem Out.run_eq {α β : Type} {R : Ren → α → β → Prop} {h : Heap} {w : World} {s1 s2 : Sem β} {Q : α → Heap → Prop} (e : s2.run P w = s1.run P w) (ho : Out P w0 R ρ h w s1 Q) : Out P w0 R ρ h w s2 Q := by
  obtain ⟨ρ2, v, v', h', w', x1, x2, x3⟩ := ho
  exact ⟨ρ2, v, v', h', w', x1, by rw [e]; exact x2, x3⟩

theorem cap_run {ts : Array TypeId} {ty : TypeId} {x x' v : Value} {args' : Array Value} (h0 : args'[0]? = some x') (hx : VRel ρ x x') (h : capV P ts[0]? (some x) = some v) (w : World) : (Builtin.cap_ ts ty args').run P w = .ok v w ∧ VRel ρ v v := by
  cases ht : ts[0]? with
  | none => rw [ht] at h; simp [capV] at h
  | some t =>
    rw [ht] at h
    unfold capV at h
    simp only [Option.bind_some] at h
    split at h
    · rename_i e n m hu hx0
      cases hx0; cases h
      cases hx
      exact ⟨by simp [Builtin.cap_, ht, h0, run_und hu, goInt], .int _ _⟩
    · rename_i e a n m hu hx0
      cases hx0
      cases hs : a.spot with
      | some s => rw [hs] at h; cases h
      | none =>
        rw [hs] at h
        cases h
        cases hx with
        | slice hsr =>
          obtain ⟨_, p, _, _, _, hm⟩ := hsr
          rw [hs] at hm
          simp only at hm
          subst hm
          exact ⟨by simp [Builtin.cap_, ht, h0, run_und hu, goInt], .int _ _⟩
    · cases h

theorem scalars_eq {l l' : List Value} (h : LRel ρ l l') (hs : l.all scalar = true) : l' = l := by
  induction h with
  | nil => rfl
  | cons h _ ih =>
    simp only [List.all_cons, Bool.and_eq_true] at hs
    rw [ih hs.2, scalar_eq hs.1 h]

theorem minMax_out {s s' : Sem Value} {args args' : List Value} (ha : LRel ρ args args') (hss : args' = args → s' = s) {h : Heap} {w : World} {Q : Value → Heap → Prop} (hr : HRel w0 ρ h w) (hq : aVal (minMaxV P s args) h Q) : Out P w0 VRel ρ h w s' Q := by
  unfold minMaxV at hq
  cases hs : args.all scalar with
  | false => rw [hs] at hq; exact hq.elim
  | true =>
    rw [hs] at hq
    simp only [cond_true] at hq
    rw [hss (scalars_eq ha hs)]
    cases hv : ifScalar (pureRun P s) with
    | none => rw [hv] at hq; exact hq.elim
    | some v =>
      rw [hv] at hq
      obtain ⟨h1, h2⟩ := ifScalar_some hv
      exact Out.same hr (pureRun_run h1 w) (scalar_refl h2) hq

theorem LRel.at {l l' : List Value} (h : LRel ρ l l') (i : Nat) : (l[i]? = none ∧ l'[i]? = none) ∨ ∃ v v', l[i]? = some v ∧ l'[i]? = some v' ∧ VRel ρ v v' := by
  cases e : l[i]? with
  | none =>
    refine .inl ⟨rfl, ?_⟩
    rw [List.getElem?_eq_none_iff] at e ⊢
    rw [← h.length]; exact e
  | some v =>
    obtain ⟨v', e1, e2⟩ := h.get_some e
    exact .inr ⟨v, v', rfl, e1, e2⟩

theorem builtin_out {b : Builtin} {ts : Array TypeId} {ty : TypeId} {cs : Array Bool} {args args' : List Value} (ha : LRel ρ args args') {h : Heap} {w : World} {Q : Next → Heap → Prop} (hr : HRel w0 ρ h w)
    (hq : aBuiltin P b ts ty args h fun v h' => Q (.value v) h') : Out P w0 NextRel ρ h w (builtin b ts ty cs args'.toArray) Q := by
  unfold aBuiltin at hq
  cases b
  case append => exact Out.value (append_out ha hr hq)
  case len =>
    simp only at hq
    rcases ha.at 0 with ⟨e1, e2⟩ | ⟨v, v', e1, e2, e3⟩
    · rw [e1] at hq
      exfalso
      cases hb : ts[0]?.bind P.underlying with
      | none => simp [lenS, hb, lenV] at hq; exact hq
      | some d => cases d <;> (simp [lenS, hb, lenV] at hq; exact hq)
    · rw [e1] at hq
      exact Out.value ((sim_len (P := P) (w0 := w0) (ty := ty) (by simpa using e2) e3).out hr hq)
  case cap =>
    simp only at hq
    rcases ha.at 0 with ⟨e1, e2⟩ | ⟨v, v', e1, e2, e3⟩
    · rw [e1] at hq
      exfalso
      cases hb : ts[0]?.bind P.underlying with
      | none => simp [aVal, capV, hb] at hq
      | some d => cases d <;> simp [aVal, capV, hb] at hq
    · rw [e1] at hq
      cases hv : capV P ts[0]? (some v) with
      | none => rw [hv] at hq; exact hq.elim
      | some r =>
        rw [hv] at hq
        obtain ⟨h1, h2⟩ := cap_run (ty := ty) (args' := args'.toArray) (by simpa using e2) e3 hv w
        exact Out.value (Out.same hr h1 h2 hq)
  case min => exact Out.value (minMax_out (s := Builtin.min_ ts ty args.toArray) ha (fun e => by rw [e]) hr hq)
  case max => exact Out.value (minMax_out (s := Builtin.max_ ts ty args.toArray) ha (fun e => by rw [e]) hr hq)
  case delete =>
    simp only at hq
    rcases ha.at 0 with ⟨e1, e2⟩ | ⟨v, v', e1, e2, e3⟩
    · rw [e1] at hq
      exfalso
      cases hb : ts[0]?.bind P.underlying with
      | none => simp [deleteS, hb] at hq; exact hq
      | some d => cases d <;> (simp [deleteS, hb] at hq; exact hq)
    · rcases ha.at 1 with ⟨f1, f2⟩ | ⟨u, u', f1, f2, f3⟩
      · rw [e1, f1] at hq
        exfalso
        cases hb : ts[0]?.bind P.underlying with
        | none => simp [deleteS, hb] at hq; exact hq
        | some d => cases d <;> (simp [deleteS, hb] at hq; exact hq)
      · rw [e1, f1] at hq
        exact Out.value ((sim_delete (P := P) (w0 := w0) (ty := ty) (by simpa using e2) (by simpa using f2) e3 f3).out hr hq)
  case copy =>
    simp only at hq
    rcases ha.at 0 with ⟨e1, e2⟩ | ⟨v, v', e1, e2, e3⟩
    · rw [e1] at hq
      exfalso
      cases hb : ts[0]?.bind P.underlying with
      | none => simp [copyS, hb] at hq; exact hq
      | some d => cases d <;> (simp [copyS, hb] at hq; exact hq)
    · rcases ha.at 1 with ⟨f1, f2⟩ | ⟨u, u', f1, f2, f3⟩
      · rw [e1, f1] at hq
        exfalso
        cases hb : ts[0]?.bind P.underlying with
        | none => simp [copyS, hb] at hq; exact hq
        | some d => cases d <;> (simp [copyS, hb] at hq; exact hq)
      · rw [e1, f1] at hq
        exact Out.value ((sim_copy (P := P) (w0 := w0) (ty := ty) (by simpa using e2) (by simpa using f2) e3 f3).out hr hq)
  case clear =>
    simp only at hq
    rcases ha.at 0 with ⟨e1, e2⟩ | ⟨v, v', e1, e2, e3⟩
    · rw [e1] at hq
      exfalso
      cases hb : ts[0]?.bind P.underlying with
      | none => simp [clearS, hb] at hq; exact hq
      | some d => cases d <;> (simp [clearS, hb] at hq; exact hq)
    · rw [e1] at hq
      exact Out.value ((sim_clear (P := P) (w0 := w0) (ty := ty) (by simpa using e2) e3).out hr hq)
  all_goals exact hq.elim

end
end Go.Abs
