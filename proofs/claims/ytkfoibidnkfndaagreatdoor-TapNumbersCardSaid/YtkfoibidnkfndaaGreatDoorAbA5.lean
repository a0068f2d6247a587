/- The abstract machine, part 6: ranges, lengths, copies, appends, conversions, body-less functions. -/
import Derived.Test.YtkfoibidnkfndaaGreatDoorAbA4
namespace Go.Abs
open Go.RowKit

/-- What is owed of a step whose abstract side is not a Sem term. -/
def Out (P : Program) (w0 : World) {α β : Type} (R : Ren → α → β → Prop) (ρ : Ren) (h : Heap) (w : World) (s' : Sem β) (Q : α → Heap → Prop) : Prop :=
  ∃ ρ2 a b h' w', Ren.le ρ ρ2 ∧ s'.run P w = .ok b w' ∧ R ρ2 a b ∧ HRel w0 ρ2 h' w' ∧ Keep h h' ∧ Q a h'

section
variable {P : Program} {w0 : World} {ρ : Ren} {α β γ δ : Type}

theorem Sim.out {R : Ren → α → β → Prop} {s : Sem α} {s' : Sem β} (hs : Sim P w0 R ρ s s') {h : Heap} {w : World} {Q : α → Heap → Prop} (hr : HRel w0 ρ h w) (hq : aSem P s h Q) : Out P w0 R ρ h w s' Q :=
  hs ρ (Ren.le_refl _) h w Q hr hq

theorem ref_ptr {r r' : Nat} (h : ORel ρ r r') : VRel ρ (.pointer (some ⟨r, 0, none⟩)) (.pointer (some ⟨r', 0, none⟩)) := by
  obtain ⟨p, h1, h2, h3⟩ := h
  exact .ptr ⟨rfl, rfl, p, h1, h2.symm, by simp [h3]⟩

theorem sim_newRef {o o' : Obj} (h : NewRel ρ o o') : Sim P w0 VRel ρ (newObj o >>= fun r => Pure.pure (.pointer (some ⟨r, 0, none⟩))) (newObj o' >>= fun r => Pure.pure (.pointer (some ⟨r, 0, none⟩))) :=
  Sim.bind (Sim.newObj h) fun _ _ _ _ hr => Sim.pure fun _ hl2 => ref_ptr (hr.mono hl2)

theorem sim_range {t : TypeId} {x x' : Value} (hx : VRel ρ x x') : Sim P w0 VRel ρ (rangeS P t x) (Instr.range t x') := by
  unfold rangeS
  split
  · rename_i s hu
    cases hx
    exact Sim.run_eq (fun w => by simp [Instr.range, run_und hu]) (sim_newRef (.stringIter s 0))
  · rename_i k e hu
    cases hx
    exact Sim.run_eq (fun w => by simp [Instr.range, run_und hu]) (sim_newRef (.nilIter 0 #[] 0))
  · rename_i k e m hu
    cases hx with
    | map hm =>
      rename_i m'
      refine Sim.run_eq (s1 := getObj m' >>= fun o => match o with
        | .map _ clock => newObj (.mapIter (some m') clock #[] clock) >>= fun r => Pure.pure (.pointer (some ⟨r, 0, none⟩))
        | _ => stuck "Range: map expected") (fun w => ?_) ?_
      · simp only [Instr.range, Sem.run_bind, run_und hu, Result.andThen_ok]
        cases (getObj m').run P w with
        | halt => rfl
        | ok o w' => cases o <;> first | rfl | (simp; done) | (simp; rfl)
      · refine Sim.bind (Sim.getObj hm) fun ρ1 hl o o' ho => ?_
        cases o with
        | map es clk =>
          obtain ⟨es', rfl, he⟩ := newRel_map ho.1
          exact sim_newRef (.mapIter (hm.mono hl) clk #[] clk)
        | _ => exact Sim.no fun _ _ h => h
  · exact Sim.stuck

theorem ERel.filter {l l' : List MapEntry} (h : ERel ρ l l') (p : Nat → Bool) : ERel ρ (l.filter fun e => p e.born) (l'.filter fun e => p e.born) := by
  induction h with
  | nil => exact .nil
  | @cons e e' l l' h _ ih =>
    simp only [List.filter_cons, h.2.2]
    split
    · exact .cons h ih
    · exact ih

theorem ERel.append {l l' m m' : List MapEntry} (h : ERel ρ l l') (k : ERel ρ m m') : ERel ρ (l ++ m) (l' ++ m') := by
  induction h with
  | nil => exact k
  | cons h _ ih => exact .cons h ih

inductive CRel (ρ : Ren) : List (Option MapEntry) → List (Option MapEntry) → Prop
  | nil : CRel ρ [] []
  | none {l l' : List (Option MapEntry)} (t : CRel ρ l l') : CRel ρ (none :: l) (none :: l')
  | some {e e' : MapEntry} {l l' : List (Option MapEntry)} (h : EntryRel ρ e e') (t : CRel ρ l l') : CRel ρ (some e :: l) (some e' :: l')

theorem ERel.some {l l' : List MapEntry} (h : ERel ρ l l') : CRel ρ (l.map some) (l'.map some) := by
  induction h with
  | nil => exact .nil
  | cons h _ ih => exact .some h ih

theorem CRel.length {l l' : List (Option MapEntry)} (h : CRel ρ l l') : l.length = l'.length := by
  induction h <;> simp_all

theorem CRel.get {l l' : List (Option MapEntry)} (h : CRel ρ l l') : ∀ (i : Nat), i < l.length → (l[i]? = Option.some Option.none ∧ l'[i]? = Option.some Option.none) ∨ ∃ e e', l[i]? = Option.some (Option.some e) ∧ l'[i]? = Option.some (Option.some e') ∧ EntryRel ρ e e' := by
  induction h with
  | nil => intro i hi; simp at hi
  | none _ ih =>
    intro i hi
    cases i with
    | zero => exact .inl ⟨rfl, rfl⟩
    | succ i => simpa using ih i (by simpa using hi)
  | some h _ ih =>
    intro i hi
    cases i with
    | zero => exact .inr ⟨_, _, rfl, rfl, h⟩
    | succ i => simpa using ih i (by simpa using hi)

theorem leftOf_rel {es es' : Array MapEntry} (h : EntriesRel ρ es es') (since : Nat) (seen : Array Nat) : CRel ρ (leftOf es since seen) (leftOf es' since seen) := by
  unfold leftOf
  have h1 := h.list.filter (fun b => !seen.toList.contains b)
  have h2 := h1.filter (fun b => Nat.blt b since)
  have h3 := h1.filter (fun b => !Nat.blt b since)
  have h4 := (h2.append h3).some
  simp only at h2 h4 ⊢
  generalize (es.toList.filter fun e => !seen.toList.contains e.born).filter (fun e => Nat.blt e.born since) = o at *
  generalize (es'.toList.filter fun e => !seen.toList.contains e.born).filter (fun e => Nat.blt e.born since) = o' at *
  cases h2 with
  | nil => exact .none h4
  | cons _ _ => exact h4

theorem leftOf_pos (es : Array MapEntry) (since : Nat) (seen : Array Nat) : 0 < (leftOf es since seen).length := by
  unfold leftOf
  simp only
  generalize (es.toList.filter fun e => !seen.toList.contains e.born).filter (fun e => Nat.blt e.born since) = o
  cases o with
  | nil => simp only [List.length_append, List.length_cons]; omega
  | cons e l => simp only [List.nil_append, List.map_append, List.map_cons, List.length_append, List.length_cons]; omega

theorem aAll_iff : ∀ {l : List Nat} {F : Nat → Prop}, aAll l F → ∀ i, i ∈ l → F i
  | [], _, _, i, hi => by cases hi
  | [j], F, h, i, hi => by
    rcases List.mem_cons.1 hi with e | hi
    · subst e; exact h
    · cases hi
  | j :: k :: l, F, h, i, hi => by
    rcases List.mem_cons.1 hi with e | hi
    · subst e; exact h.1
    · exact aAll_iff h.2 i hi

/-- The model's own candidates, as a list. -/
theorem cands_eq (es : Array MapEntry) (since : Nat) (seen : Array Nat) :
    ((if ((es.filter fun e => !seen.contains e.born).filter (·.born < since)).isEmpty then #[none] else #[]) ++
      (((es.filter fun e => !seen.contains e.born).filter (·.born < since)) ++ ((es.filter fun e => !seen.contains e.born).filter (·.born ≥ since))).map some) = (leftOf es since seen).toArray := by
  have hp : ∀ b : Nat, decide (b < since) = Nat.blt b since := fun b => by
    by_cases hb : b < since
    · rw [decide_eq_true hb]; exact (Nat.blt_eq.mpr hb).symm
    · rw [decide_eq_false hb]
      cases h : Nat.blt b since with
      | false => rfl
      | true => exact (hb (Nat.blt_eq.mp h)).elim
  have hq : ∀ b : Nat, decide (b ≥ since) = !Nat.blt b since := fun b => by
    rw [← hp]
    by_cases hb : b < since
    · rw [decide_eq_true hb, decide_eq_false (by omega)]; rfl
    · rw [decide_eq_false hb, decide_eq_true (by omega)]; rfl
  apply Array.toList_inj.1
  unfold leftOf
  simp only [hp, hq, Array.toList_append, Array.toList_map, Array.toList_filter, Array.contains_toList]
  congr 1
  rw [← Array.isEmpty_toList]
  simp only [Array.toList_filter]
  cases List.filter (fun e => Nat.blt e.born since) (List.filter (fun e => !seen.contains e.born) es.toList) <;> rfl

theorem HRel.getAt {h : Heap} {w : World} (hr : HRel w0 ρ h w) {r : Nat} {o : Obj} (ho : h.get r = some o) (hn : notCells o = true) {r' : Nat} (hrr : ORel ρ r r') :
    ∃ o', (getObj r').run P w = .ok o' w ∧ NewRel ρ o o' := by
  obtain ⟨p, hp, hb, _⟩ := hrr
  obtain ⟨p', o', e1, e2, e3, _⟩ := hr.objs _ _ ho
  rw [hp] at e1; cases e1
  have hnew := e3.not_cells hn
  refine ⟨o', ?_, hnew⟩
  rw [hb] at e2
  simp only [Go.getObj, Sem.run, e2]
  cases hnew <;> first | rfl | (simp [notCells] at hn)

theorem HRel.oref {h : Heap} {w : World} (hr : HRel w0 ρ h w) {r : Nat} {o : Obj} (ho : h.get r = some o) (hn : notCells o = true) : ∃ r', ORel ρ r r' := by
  obtain ⟨p', o', e1, e2, e3, e4⟩ := hr.objs _ _ ho
  exact ⟨p'.blk, p', e1, rfl, (e4 hn).1⟩

theorem ref_inv {h : Heap} {w : World} (hr : HRel w0 ρ h w) {r : Nat} {sp : Option Nat} {o : Obj} (ho : h.get r = some o) (hn : notCells o = true) {it' : Value} (hv : VRel ρ (.pointer (some ⟨r, 0, sp⟩)) it') :
    ∃ r', it' = .pointer (some ⟨r', 0, none⟩) ∧ ORel ρ r r' := by
  cases hv with
  | @ptr _ a' ha =>
    obtain ⟨_, hs, p, hp, hb, hoff⟩ := ha
    obtain ⟨r', q, hq, hqb, hq0⟩ := hr.oref ho hn
    rw [hp] at hq; cases hq
    obtain ⟨b, off, s⟩ := a'
    simp only at hs hb hoff
    subst hs; subst hb; subst hoff
    exact ⟨p.blk, by simp [hq0], p, hp, rfl, hq0⟩

theorem ERel.all_born {l l' : List MapEntry} (h : ERel ρ l l') (p : Nat → Bool) : (l'.all fun e => p e.born) = l.all fun e => p e.born := by
  induction h with
  | nil => rfl
  | cons h _ ih => simp only [List.all_cons, h.2.2, ih]

/-- The model's own step of a range over a map, behind the look at what is left. -/
def nextC (r' m' : Nat) (since : Nat) (seen : Array Nat) (last : Nat) (es : Array MapEntry) (clock : Nat) : Sem Value :=
  if !seen.isEmpty && !es.isEmpty && es.all (·.born ≥ last) then
    unsupported (.noEntry "instr/Next: every entry that the ranged map held at the last iteration is gone, and it holds new ones")
  else choose (.mapNext (leftOf es since seen).length) >>= fun k =>
    match (leftOf es since seen)[k]? with
    | some (some e) => setObj r' (.mapIter (some m') since (seen.push e.born) clock) >>= fun _ => Pure.pure (.tuple #[.bool true, e.key, e.val])
    | some none => Pure.pure (.tuple #[.bool false])
    | none => stuck "Next: no such candidate"

theorem next_run_map {r' m' since last clock : Nat} {seen : Array Nat} {es : Array MapEntry} {ty : TypeId} {w : World} (h1 : (getObj r').run P w = .ok (.mapIter (some m') since seen last) w) (h2 : (getObj m').run P w = .ok (.map es clock) w) :
    (Instr.next (.pointer (some ⟨r', 0, none⟩)) false ty).run P w = (nextC r' m' since seen last es clock).run P w := by
  have hc := cands_eq es since seen
  simp only [Instr.next, Sem.run_bind, h1, h2, Result.andThen_ok]
  unfold nextC
  split
  · rfl
  · simp only [hc, Sem.run_bind, List.size_toArray]
    cases (choose (.mapNext (leftOf es since seen).length)).run P w with
    | halt => rfl
    | ok k w' =>
      simp only [Result.andThen_ok, List.getElem?_toArray]
      rcases (leftOf es since seen)[k]? with _ | _ | e <;> simp

theorem choose_next (n : Nat) (hn : 0 < n) (w : World) : ∃ k w', (choose (.mapNext n)).run P w = .ok k w' ∧ k < n ∧ w'.heap = w.heap ∧ w'.os = w.os ∧ w'.tape = w.tape ∧ w'.output = w.output := by
  rw [run_choose]
  split
  · exact ⟨0, w, rfl, hn, rfl, rfl, rfl, rfl⟩
  · exact ⟨_, _, rfl, Nat.mod_lt _ hn, rfl, rfl, rfl, rfl⟩

theorem HRel.drew {h : Heap} {w w' : World} (hr : HRel w0 ρ h w) (h1 : w'.heap = w.heap) (h2 : w'.os = w.os) (h3 : w'.tape = w.tape) (h4 : w'.output = w.output) : HRel w0 ρ h w' := by
  refine ⟨hr.below.trans ⟨h2, h3, h4, by rw [h1]; exact Nat.le_refl _, fun k _ => by rw [h1]⟩, ?_, hr.sep, hr.fresh⟩
  intro i o ho
  obtain ⟨p, o', e1, e2, e3⟩ := hr.objs i o ho
  exact ⟨p, o', e1, by rw [h1]; exact e2, e3⟩

theorem next_out {it it' : Value} {isString : Bool} {ty : TypeId} {h : Heap} {w : World} {Q : Value → Heap → Prop} (hr : HRel w0 ρ h w) (hv : VRel ρ it it') (hq : aNext P it isString h Q) :
    Out P w0 VRel ρ h w (Instr.next it' isString ty) Q := by
  unfold aNext at hq
  split at hq
  case h_2 => exact hq.elim
  rename_i r sp
  split at hq
  case h_4 => exact hq.elim
  case h_1 s pos hg =>
    obtain ⟨r', rfl, hrr⟩ := ref_inv hr hg rfl hv
    obtain ⟨o', hrun, hnew⟩ := hr.getAt (P := P) hg rfl hrr
    cases hnew
    cases hlt : Nat.blt pos s.size with
    | true =>
      rw [hlt] at hq
      simp only [cond_true] at hq
      have hlt' : pos < s.size := Nat.blt_eq.mp hlt
      obtain ⟨ρ2, u, u', h', w', x1, x2, _, x4, x5, x6⟩ := (Sim.setObj (P := P) hrr (.stringIter s (pos + (Utf8.decode s pos).2))).out hr hq
      refine ⟨ρ2, _, .tuple #[.bool true, goInt pos, .int .i32 (Utf8.decode s pos).1], h', w', x1, ?_, ?_, x4, x5, x6⟩
      · simp [Instr.next, hrun, hlt', x2]
      · exact .tuple' (.cons (.bool _) (.cons (.int _ _) (.cons (.int _ _) .nil)))
    | false =>
      rw [hlt] at hq
      have hlt' : ¬ pos < s.size := fun hc => by rw [Nat.blt_eq.mpr hc] at hlt; cases hlt
      exact ⟨ρ, _, .tuple #[.bool false], h, w, Ren.le_refl _, by simp [Instr.next, hrun, hlt'], .tuple' (.cons (.bool _) .nil), hr, Keep.refl _, hq⟩
  case h_2 since seen last hg =>
    obtain ⟨r', rfl, hrr⟩ := ref_inv hr hg rfl hv
    obtain ⟨o', hrun, hnew⟩ := hr.getAt (P := P) hg rfl hrr
    cases hnew
    exact ⟨ρ, _, .tuple #[.bool false], h, w, Ren.le_refl _, by simp [Instr.next, hrun], .tuple' (.cons (.bool _) .nil), hr, Keep.refl _, hq⟩
  case h_3 m since seen last hg =>
    obtain ⟨r', rfl, hrr⟩ := ref_inv hr hg rfl hv
    obtain ⟨o', hrun, hnew⟩ := hr.getAt (P := P) hg rfl hrr
    cases hnew with
    | mapIter hm =>
      rename_i m'
      split at hq
      case h_2 => exact hq.elim
      rename_i es clock hgm
      obtain ⟨om, hrunm, hnewm⟩ := hr.getAt (P := P) hgm rfl hm
      obtain ⟨es', rfl, he⟩ := newRel_map hnewm
      cases hb : (!seen.toList.isEmpty && !es.toList.isEmpty && es.toList.all fun e => Nat.ble last e.born) with
      | true => rw [hb] at hq; exact hq.elim
      | false =>
        rw [hb] at hq
        simp only [cond_false] at hq
        have hcond : (!seen.isEmpty && !es'.isEmpty && es'.all (·.born ≥ last)) = false := by
          rw [← hb]
          have h1 := he.list.all_born fun b => Nat.ble last b
          have h2 : es'.toList.isEmpty = es.toList.isEmpty := by
            have := he.list
            generalize es.toList = x1 at this
            generalize es'.toList = x2 at this
            cases this <;> rfl
          have h3 : (es'.all fun e => decide (e.born ≥ last)) = es'.toList.all fun e => Nat.ble last e.born := by
            rw [← Array.all_toList]
            congr 1
            funext e
            cases hx : Nat.ble last e.born with
            | true => simpa using Nat.le_of_ble_eq_true hx
            | false =>
              have : ¬ last ≤ e.born := fun hc => by rw [Nat.ble_eq_true_of_le hc] at hx; cases hx
              simp; omega
          rw [h3, h1, ← Array.isEmpty_toList, ← Array.isEmpty_toList, h2]
        have hL := leftOf_rel he since seen
        obtain ⟨k, w1, hch, hk, y1, y2, y3, y4⟩ := choose_next (P := P) _ (leftOf_pos es' since seen) w
        rw [← hL.length] at hk
        have hqk := aAll_iff hq k (List.mem_range.2 hk)
        have hr1 := hr.drew y1 y2 y3 y4
        have hrunN := next_run_map (ty := ty) hrun hrunm
        have hfin : (nextC r' m' since seen last es' clock).run P w = (match (leftOf es' since seen)[k]? with
            | some (some e) => setObj r' (.mapIter (some m') since (seen.push e.born) clock) >>= fun _ => Pure.pure (.tuple #[.bool true, e.key, e.val])
            | some none => Pure.pure (.tuple #[.bool false])
            | none => stuck "Next: no such candidate" : Sem Value).run P w1 := by
          unfold nextC
          rw [if_neg (by rw [hcond]; simp)]
          simp only [Sem.run_bind, hch, Result.andThen_ok]
        rcases hL.get k hk with ⟨e1, e2⟩ | ⟨e, e', e1, e2, e3⟩
        · rw [e1] at hqk
          rw [e2] at hfin
          exact ⟨ρ, _, .tuple #[.bool false], h, w1, Ren.le_refl _, by rw [hrunN, hfin]; rfl, .tuple' (.cons (.bool _) .nil), hr1, Keep.refl _, hqk⟩
        · rw [e1] at hqk
          rw [e2] at hfin
          simp only at hqk hfin
          rw [← e3.2.2] at hfin
          obtain ⟨ρ2, u, u', h', w', x1, x2, _, x4, x5, x6⟩ := (Sim.setObj (P := P) hrr (.mapIter hm since (seen.push e.born) clock)).out hr1 hqk
          refine ⟨ρ2, _, .tuple #[.bool true, e'.key, e'.val], h', w', x1, ?_, ?_, x4, x5, x6⟩
          · rw [hrunN, hfin]; simp [x2]
          · exact .tuple' (.cons (.bool _) (.cons (e3.1.mono x1) (.cons (e3.2.1.mono x1) .nil)))

theorem lastSeen_find : ∀ {l l' : List MapEntry} (b : Nat) {e : MapEntry}, ERel ρ l l' → lastSeen l b = some e → ∃ e', l'.find? (·.born == b) = some e' ∧ EntryRel ρ e e' := by
  intro l l' b e h
  induction h with
  | nil => intro he; simp [lastSeen] at he
  | @cons x x' l l' hx _ ih =>
    intro he
    simp only [lastSeen] at he
    rw [List.find?_cons]
    rcases beq_cases x.born b with ⟨e1, e2⟩ | ⟨e1, e2⟩
    · rw [e2] at he
      cases he
      have : (x'.born == b) = true := by rw [← hx.2.2]; simpa using e1
      rw [this]
      exact ⟨x', rfl, hx⟩
    · rw [e2] at he
      have : (x'.born == b) = false := by rw [← hx.2.2]; simpa using e1
      rw [this]
      exact ih he

theorem sim_entry {it it' : Value} (hv : VRel ρ it it') : Sim P w0 VRel ρ (entryS it) (Instr.entry it') := by
  unfold entryS
  split
  case h_2 => exact Sim.stuck
  rename_i r sp
  intro ρ1 hl h w Q hr hq
  rw [aSem_bind] at hq
  have hg : ∃ o, h.get r = some o ∧ notCells o = true := by
    simp only [Go.getObj, aSem] at hq
    split at hq
    · rename_i o ho; cases hn : notCells o with
      | true => exact ⟨o, ho, hn⟩
      | false => rw [hn] at hq; exact hq.elim
    · exact hq.elim
  obtain ⟨o, hgo, hn⟩ := hg
  simp only [Go.getObj, aSem, hgo, hn, cond_true] at hq
  obtain ⟨r', rfl, hrr⟩ := ref_inv hr hgo hn (hv.mono hl)
  obtain ⟨o', hrun, hnew⟩ := hr.getAt (P := P) hgo hn hrr
  cases o with
  | mapIter m since seen stepped =>
    cases m with
    | none => exact hq.elim
    | some m =>
      cases hnew with
      | mapIter hm =>
        rename_i m'
        simp only at hq
        cases hbk : seen.back? with
        | none => rw [hbk] at hq; exact hq.elim
        | some b =>
          rw [hbk] at hq
          simp only at hq
          rw [aSem_bind] at hq
          have hg2 : ∃ es clock, h.get m = some (.map es clock) := by
            simp only [aSem] at hq
            split at hq
            · rename_i o2 ho2
              cases o2 <;> first | exact ⟨_, _, ho2⟩ | (simp [notCells] at hq; done) | (simp [notCells] at hq; exact hq.elim)
            · exact hq.elim
          obtain ⟨es, clock, hgm⟩ := hg2
          simp only [aSem, hgm, notCells, cond_true] at hq
          obtain ⟨om, hrunm, hnewm⟩ := hr.getAt (P := P) hgm rfl hm
          obtain ⟨es', rfl, he⟩ := newRel_map hnewm
          unfold entryIn at hq
          split at hq
          · rename_i e hls hbq
            have hck := Nat.eq_of_beq_eq_true hbq
            obtain ⟨e', hf, hee⟩ := lastSeen_find b he.list hls
            have hf' : es'.find? (·.born == b) = some e' := by
              obtain ⟨l⟩ := es'
              simpa using hf
            refine ⟨ρ1, _, .tuple #[e'.key, e'.val], h, w, Ren.le_refl _, ?_, .tuple' (.cons hee.1 (.cons hee.2.1 .nil)), hr, Keep.refl _, hq⟩
            simp [Instr.entry, hrun, hrunm, hbk, hck, hf']
          · exact hq.elim
  | _ => exact hq.elim

theorem sim_typeAssert {x x' : Value} {xt t : TypeId} {ok : Bool} (hx : VRel ρ x x') : Sim P w0 VRel ρ (typeAssertS P x t ok) (Instr.typeAssert x' xt t ok) := by
  unfold typeAssertS
  have zero : ∀ {s' : Sem Value}, (∀ w, s'.run P w = (zeroValue t >>= fun z => Pure.pure (.tuple #[z, .bool false]) : Sem Value).run P w) → Sim P w0 VRel ρ (do let z ← zeroC P t; pure (.tuple #[z, .bool false])) s' := by
    intro s' h
    refine Sim.run_eq h ?_
    refine Sim.bind sim_zero fun ρ1 hl z z' hz => ?_
    obtain ⟨rfl, hc⟩ := hz
    exact Sim.pure fun _ _ => .tuple' (.cons (closed_refl hc) (.cons (.bool _) .nil))
  have conc : ∀ {d : TypeDesc}, P.underlying t = some d → (∀ m, d ≠ .interface m) → (∀ w, (Instr.typeAssert .nilIface xt t true).run P w = (zeroValue t >>= fun z => Pure.pure (.tuple #[z, .bool false]) : Sem Value).run P w) ∧
      ∀ u v w, (Instr.typeAssert (.iface u v) xt t ok).run P w = (if u = t then Pure.pure (if ok then .tuple #[v, .bool true] else v) else (if ok then zeroValue t >>= fun z => Pure.pure (.tuple #[z, .bool false]) else runtimePanic (.typeAssertion (some xt) (some u) t "")) : Sem Value).run P w := by
    intro d hu hn
    constructor
    · intro w
      cases d <;> first | exact (hn _ rfl).elim | simp [Instr.typeAssert, run_und hu]
    · intro u v w
      cases d <;> first | exact (hn _ rfl).elim | (by_cases hh : u = t <;> cases ok <;> simp [Instr.typeAssert, run_und hu, hh])
  split
  case h_1 => exact Sim.stuck
  case h_2 => exact Sim.stuck
  case h_3 _ d hn hu =>
    cases hx
    cases ok with
    | false => exact Sim.stuck
    | true => exact zero (conc hu (fun m e => by subst e; exact hn m rfl)).1
  case h_4 _ d u v hn hu =>
    cases hx with
    | @iface _ _ v' hv =>
      have hc := (conc hu (fun m e => by subst e; exact hn m rfl)).2 u v'
      rcases beq_cases u t with ⟨e1, e2⟩ | ⟨e1, e2⟩
      · rw [e2]
        simp only [cond_true]
        refine Sim.ret (b := if ok then .tuple #[v', .bool true] else v') (fun w => by rw [hc, if_pos e1]; rfl) fun ρ2 hl2 => ?_
        cases ok
        · exact hv.mono hl2
        · exact .tuple' (.cons (hv.mono hl2) (.cons (.bool _) .nil))
      · rw [e2]
        simp only [cond_false]
        cases ok with
        | false => exact Sim.stuck
        | true => exact zero (fun w => by rw [hc, if_neg e1]; rfl)
  case h_5 => exact Sim.stuck

/-! ### len, copy, clear -/

theorem sim_len {ts : Array TypeId} {ty : TypeId} {x x' : Value} {args' : Array Value} (h0 : args'[0]? = some x') (hx : VRel ρ x x') : Sim P w0 VRel ρ (lenS P ts[0]? (some x)) (Builtin.len_ ts ty args') := by
  cases ht : ts[0]? with
  | none => exact Sim.no fun _ _ h => h
  | some t =>
    unfold lenS
    simp only [Option.bind_some]
    split
    · rename_i hu hx0
      cases hx0
      cases hx
      exact Sim.ret (b := .int .i64 0) (fun w => by simp [Builtin.len_, ht, h0, run_und hu, goInt]) fun _ _ => .int _ _
    · rename_i k e r hu hx0
      cases hx0
      cases hx with
      | map hr =>
        rename_i r'
        refine Sim.run_eq (s1 := getObj r' >>= fun o => match o with
          | .map es _ => Pure.pure (.int .i64 es.size)
          | _ => stuck "len: map expected") (fun w => ?_) ?_
        · simp only [Builtin.len_, ht, h0, Sem.run_bind, run_und hu, Result.andThen_ok]
          cases (getObj r').run P w with
          | halt => rfl
          | ok o w' => cases o <;> first | rfl | (simp; done) | (simp; rfl)
        · refine Sim.bind (Sim.getObj hr) fun ρ1 hl o o' ho => ?_
          cases o with
          | map es clk =>
            obtain ⟨es', rfl, he⟩ := newRel_map ho.1
            refine Sim.pure fun _ _ => ?_
            rw [he.1]; exact .int _ _
          | _ => exact Sim.no fun _ _ h => h
    · rename_i n e x0 hu hx0
      cases hx0
      exact Sim.ret (b := .int .i64 n) (fun w => by simp [Builtin.len_, ht, h0, run_und hu, goInt]) fun _ _ => .int _ _
    · split
      · rename_i v hv
        refine Sim.ret (b := v) (len_run ht h0 hx hv) fun _ _ => scalar_refl (lenV_scalar hv).1
      · exact Sim.stuck

theorem lenN_run {x x' : Value} {n : Nat} (hx : VRel ρ x x') (h : lenN x = some n) (w : World) : (Builtin.lenOf x').run P w = .ok n w := by
  unfold lenN at h
  split at h
  · cases h; cases hx <;> rfl
  · cases h; cases hx; rfl
  · cases h

theorem sim_cells {x x' : Value} {size n : Nat} (hx : VRel ρ x x') : Sim P w0 (fun ρ' l b => LRel ρ' l b.toList) ρ (cellsOfS x size n) (Builtin.firstCells size n x') := by
  unfold cellsOfS
  split
  · cases hx with
    | slice h => exact sim_loadCells h.base (n * size)
  · cases hx
    exact Sim.ret (b := #[]) (fun w => rfl) fun _ _ => .nil
  · rename_i s
    cases hx
    refine Sim.ret (b := (s.extract 0 n).data.map fun b => .int .u8 b.toNat) (fun w => rfl) fun ρ' _ => ?_
    have e : ((s.extract 0 n).data.map fun b => Value.int .u8 b.toNat).toList = (s.data.toList.take n).map fun b => Value.int .u8 b.toNat := by
      rw [ByteArray.data_extract]
      simp [Array.toList_extract]
    rw [e]
    generalize s.data.toList.take n = l
    induction l with
    | nil => exact .nil
    | cons b l ih => exact .cons (.int _ _) ih
  · exact Sim.stuck

theorem sim_copy {ts : Array TypeId} {ty : TypeId} {x x' y y' : Value} {args' : Array Value} (h0 : args'[0]? = some x') (h1 : args'[1]? = some y') (hx : VRel ρ x x') (hy : VRel ρ y y') : Sim P w0 VRel ρ (copyS P ts[0]? (some x) (some y)) (Builtin.copy_ ts ty args') := by
  unfold copyS
  split
  case h_2 => exact Sim.stuck
  rename_i e base n c m src hu hx0 hn hy0
  cases hx0; cases hy0
  simp only [Option.bind_some] at hn
  cases ht : ts[0]? with
  | none => rw [ht] at hu; simp at hu
  | some t =>
    rw [ht] at hu
    simp only [Option.bind_some] at hu
    have fin : ∀ {base' : Option Addr} {c' : Nat}, x' = .slice base' n c' → ((∃ a a', base = some a ∧ base' = some a' ∧ PRel ρ { a with spot := none } a') ∨ (base = none ∧ base' = none)) → Sim P w0 VRel ρ
        (do let size ← sizeS P e
            let k := Nat.min m n
            let cs ← cellsOfS y size k
            match base with
            | some a => do
              storeCells { a with spot := none } cs
              pure (.int .i64 k)
            | none => pure (.int .i64 k)) (Builtin.copy_ ts ty args') := by
      intro base' c' hx' hb
      subst hx'
      refine Sim.run_eq (s1 := sizeOf e >>= fun size => Builtin.firstCells size (Nat.min m n) y' >>= fun cells => match base' with
        | some a => storeCells a cells.toList >>= fun _ => Pure.pure (goInt (Nat.min m n))
        | none => Pure.pure (goInt (Nat.min m n))) (fun w => ?_) ?_
      · simp only [Builtin.copy_, ht, h0, h1, Sem.run_bind, run_und hu, Result.andThen_ok, lenN_run hy hn]
        cases (sizeOf e).run P w with
        | halt => rfl
        | ok s w1 =>
          simp only [Result.andThen_ok]
          cases (Builtin.firstCells s (Nat.min m n) y').run P w1 with
          | halt => rfl
          | ok cells w2 => cases base' <;> simp
      · refine Sim.bind sim_sizeS fun ρ1 hl s s' hs => ?_
        obtain ⟨rfl, _⟩ := hs
        refine Sim.bind (sim_cells (hy.mono hl)) fun ρ2 hl2 l b hlb => ?_
        rcases hb with ⟨a, a', rfl, rfl, ha⟩ | ⟨rfl, rfl⟩
        · refine Sim.bind (sim_storeCells hlb (ha.mono (Ren.le_trans hl hl2))) fun ρ3 hl3 _ _ _ => ?_
          exact Sim.pure fun _ _ => .int _ _
        · exact Sim.pure fun _ _ => .int _ _
    cases hx with
    | nilSlice => exact fin rfl (.inr ⟨rfl, rfl⟩)
    | slice h => exact fin rfl (.inl ⟨_, _, rfl, rfl, h.base⟩)

theorem sim_clear {ts : Array TypeId} {ty : TypeId} {x x' : Value} {args' : Array Value} (h0 : args'[0]? = some x') (hx : VRel ρ x x') : Sim P w0 VRel ρ (clearS P ts[0]? (some x)) (Builtin.clear_ ts ty args') := by
  cases ht : ts[0]? with
  | none => exact Sim.no fun _ _ h => h
  | some t =>
    unfold clearS
    simp only [Option.bind_some]
    split
    · rename_i e a n c hu hx0
      cases hx0
      cases hx with
      | @slice _ a' _ _ c' h =>
        rcases beq_cases n 0 with ⟨e1, e2⟩ | ⟨e1, e2⟩
        · rw [e2]
          subst e1
          exact Sim.ret (b := .tuple #[]) (fun w => by simp [Builtin.clear_, ht, h0, run_und hu]) fun _ _ => .tuple' .nil
        · rw [e2]
          simp only [cond_false]
          obtain ⟨n, rfl⟩ : ∃ m, n = m + 1 := ⟨n - 1, by omega⟩
          refine Sim.run_eq (s1 := zeroValue e >>= fun z => storeCells a' (Builtin.zeroCells z.cells (n + 1)).toList >>= fun _ => Pure.pure (.tuple #[])) (fun w => ?_) ?_
          · simp [Builtin.clear_, ht, h0, run_und hu]
          · refine Sim.bind sim_zero fun ρ1 hl z z' hz => ?_
            obtain ⟨rfl, hc⟩ := hz
            have hcp : Builtin.zeroCells z'.cells (n + 1) = (copies z'.cells.toList (n + 1)).toArray := range_copies rfl
            rw [hcp]
            refine Sim.bind (sim_storeCells ((closed_refl hc).cells.copies (n + 1)) (h.base.mono hl)) fun ρ3 hl3 _ _ _ => ?_
            exact Sim.pure fun _ _ => .tuple' .nil
    · rename_i e n c hu hx0
      cases hx0
      cases hx
      exact Sim.ret (b := .tuple #[]) (fun w => by simp [Builtin.clear_, ht, h0, run_und hu]) fun _ _ => .tuple' .nil
    · rename_i k e hu hx0
      cases hx0
      cases hx
      exact Sim.ret (b := .tuple #[]) (fun w => by simp [Builtin.clear_, ht, h0, run_und hu]) fun _ _ => .tuple' .nil
    · rename_i k e r hu hx0
      cases hx0
      cases hx with
      | map hr =>
        rename_i r'
        refine Sim.run_eq (s1 := getObj r' >>= fun o => match o with
          | .map _ clock => setObj r' (.map #[] clock) >>= fun _ => Pure.pure (.tuple #[])
          | _ => stuck "clear: map expected") (fun w => ?_) ?_
        · simp only [Builtin.clear_, ht, h0, Sem.run_bind, run_und hu, Result.andThen_ok]
          cases (getObj r').run P w with
          | halt => rfl
          | ok o w' => cases o <;> first | rfl | (simp; done) | (simp; rfl)
        · refine Sim.bind (Sim.getObj hr) fun ρ1 hl o o' ho => ?_
          cases o with
          | map es clk =>
            obtain ⟨es', rfl, he⟩ := newRel_map ho.1
            refine Sim.bind (Sim.setObj (hr.mono hl) (.map _ ⟨rfl, fun i e e' x => by simp at x⟩)) fun ρ3 hl3 _ _ _ => ?_
            exact Sim.pure fun _ _ => .tuple' .nil
          | _ => exact Sim.no fun _ _ h => h
    · exact Sim.stuck

end
end Go.Abs
