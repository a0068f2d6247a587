/- The abstract machine, part 12: an operation. -/
import Derived.Test.YtkfoibidnkfndaaGreatDoorAbA10
set_option linter.unusedSimpArgs false
namespace Go.Abs
open Go.RowKit

section
variable {P : Program} {w0 : World} {ρ : Ren}

theorem blocks_real {h : Heap} {w : World} (hr : HRel w0 ρ h w) {a a' : Addr} (ha : PRel ρ a a') {c : Array Value} {t : TypeId} (hg : h.get a.block = some (.cells c t (0, 0))) :
    ∃ p c', ρ a.block = some p ∧ a'.block = p.blk ∧ w0.heap.size ≤ p.blk ∧ w.heap[p.blk]? = some (.cells c' t (0, 0)) := by
  obtain ⟨_, _, p, hp, hb, _⟩ := ha
  obtain ⟨p', o', e1, e2, e3, _⟩ := hr.objs _ _ hg
  rw [hp] at e1; cases e1
  cases e3 with
  | cells _ _ _ hf =>
    rcases hf with ⟨_, hf, hB⟩ | ⟨hf, _⟩ | hf
    · subst hf; exact ⟨p, _, hp, hb, hB, e2⟩
    · simp at hf
    · simp [shut] at hf

theorem twoBlocks_run {h : Heap} {w : World} (hr : HRel w0 ρ h w) {t : TypeId} {x y x' y' : Value} (hx : VRel ρ x x') (hy : VRel ρ y y') (hb : twoBlocks P t x y h = true) :
    (Op.equal t x' y').run P w = .ok false w ∧ scalar x' = false ∧ ¬ (x' = .nilIface ∧ y' = .nilIface) ∧ ∀ a b, ¬ (x' = .agg a ∧ y' = .agg b) := by
  unfold twoBlocks at hb
  split at hb
  case h_2 => cases hb
  rename_i e a b hu
  simp only [Bool.and_eq_true, Bool.not_eq_true'] at hb
  obtain ⟨⟨h1, h2⟩, h3⟩ := hb
  have hne : a.block ≠ b.block := Nat.ne_of_beq_eq_false h1
  split at h2
  case h_2 => cases h2
  rename_i n hn
  simp only [Bool.not_eq_true'] at h2
  have hn0 : n ≠ 0 := Nat.ne_of_beq_eq_false h2
  split at h3
  case h_2 => cases h3
  rename_i c tc d td hga hgb
  cases hx with
  | @ptr _ a' ha =>
    cases hy with
    | @ptr _ b' hb' =>
      obtain ⟨p, c', hp, hpb, hpB, hpw⟩ := blocks_real hr ha hga
      obtain ⟨q, d', hq, hqb, hqB, hqw⟩ := blocks_real hr hb' hgb
      have hblk : p.blk ≠ q.blk := fun e => by
        have := hr.sep a.block b.block _ _ p q hne hga hgb hp hq e
        omega
      have hbb : (a'.block == b'.block) = false := by rw [hpb, hqb]; simpa using hblk
      have fa : ∀ k, w.frozen? { block := a'.block, off := k } = false := fun k => by simp [World.frozen?, hpb, hpw]
      have fb : ∀ k, w.frozen? { block := b'.block, off := k } = false := fun k => by simp [World.frozen?, hqb, hqw]
      have fa' : w.frozen? a' = false := by simp [World.frozen?, hpb, hpw]
      have fb' : w.frozen? b' = false := by simp [World.frozen?, hqb, hqw]
      have sa : w.shape? a'.block = some (tc, c'.size) := by simp [World.shape?, hpb, hpw]
      have sb : w.shape? b'.block = some (td, d'.size) := by simp [World.shape?, hqb, hqw]
      have hmay : (mayBeOne a' b').run P w = .ok false w := by
        have s1 : (stringish a').run P w = .ok false w := by simp [stringish, fa', sa, fa]
        have s2 : (stringish b').run P w = .ok false w := by simp [stringish, fb', sb, fb]
        simp [mayBeOne, s1, s2]
      have hsame : (sameAddr a' b').run P w = .ok false w := by
        have v1 : (noView a').run P w = .ok () w := by simp [noView, viewAt, sa]
        have v2 : (noView b').run P w = .ok () w := by simp [noView, viewAt, sb]
        have hbb' : ¬ a'.block = b'.block := by simpa using hbb
        simp [sameAddr, hbb', fa', v1, v2, hmay]
      refine ⟨?_, rfl, by simp, by simp⟩
      have hsz := fun w1 => run_size (P := P) hn w1
      rw [equal_unf]
      generalize 9999 = dd
      simp [Op.equalIn, run_und hu, hsz, hn0, hsame]

theorem twoBlocks_yes {h : Heap} {w : World} (hr : HRel w0 ρ h w) {t : TypeId} {ev ev' : Operand → Value} {x y : Operand} (hx : VRel ρ (ev x) (ev' x)) (hy : VRel ρ (ev y) (ev' y)) (hb : twoBlocks P t (ev x) (ev y) h = true) :
    (do eqGuard .eql t x y (ev' x) (ev' y); binOp .eql t (ev' x) (ev' y)).run P w = .ok (.bool false) w ∧ (do eqGuard .neq t x y (ev' x) (ev' y); binOp .neq t (ev' x) (ev' y)).run P w = .ok (.bool true) w := by
  obtain ⟨h1, h2, h3, h4⟩ := twoBlocks_run (P := P) hr hx hy hb
  have := run_eqs (P := P) (ox := x) (oy := y) (b := false) h2 (fun op => eqGuard_plain h3 h4) h1
  exact this

theorem addrOf_inv {v v' : Value} {a : Addr} (h : addrOf v = some a) (hv : VRel ρ v v') : ∃ a', v' = .pointer (some a') ∧ PRel ρ a a' := by
  unfold addrOf at h
  split at h
  · cases h
    exact hv.ptr_inv
  · cases h

theorem parts_rel {ev ev' : Operand → Value} : ∀ {l : List (Nat × Operand)}, (∀ x, x ∈ l.map (·.2) → VRel ρ (ev x) (ev' x)) → PartsRel ρ (l.map fun p => (p.1, ev p.2)) (l.map fun p => (p.1, ev' p.2))
  | [], _ => .nil
  | p :: l, h => .cons _ (h _ (by simp)) (parts_rel fun x hx => h x (by simp at hx ⊢; exact .inr hx))

theorem op_out {X : Exts} (hX : ExtOK P X) {G : Nat} {ev ev' : Operand → Value} (hev : EvRel G ρ ev ev') {o : Oper} (hok : okOp G o.op = true) {h : Heap} {w : World} {Q : Next → Heap → Prop} (hr : HRel w0 ρ h w) (hq : aOp P X ev o h Q) :
    Out P w0 NextRel ρ h w (execOp ev' o) Q := by
  have e : ∀ {x}, x ∈ o.op.operands.toList → VRel ρ (ev x) (ev' x) := fun hx => hev _ (okOp_mem hok hx)
  unfold aOp at hq
  cases hc : Nat.beq (classOf P o.op) 0 with
  | true =>
    rw [hc] at hq
    simp only [cond_true] at hq
    have hc0 := Nat.eq_of_beq_eq_true hc
    split at hq
    · rename_i v hv
      obtain ⟨v', h1, h2⟩ := pureOp_yes hev hok hc0 hv
      exact Out.same hr (h1 w) (.value h2) hq
    · split at hq
      · rename_i t x lo hi mx ho
        split at hq
        case h_2 => exact hq.elim
        rename_i v u hs
        have hx : VRel ρ (ev x) (ev' x) := e (by simp [ho, Op.operands])
        obtain ⟨v', h1, h2⟩ := slice_yes hx (optRel (ev' := ev') fun y hy => e (by simp [ho, Op.operands, hy])) (optRel (ev' := ev') fun y hy => e (by simp [ho, Op.operands, hy])) (optRel (ev' := ev') fun y hy => e (by simp [ho, Op.operands, hy])) hs
        have hrun : (execOp ev' o).run P w = .ok (.value v') w := by simp [execOp, ho, h1]
        rcases h2 with h2 | ⟨u', h3, h4⟩
        · exact Out.same hr hrun (.value h2) hq.1
        · simp only [Option.some.injEq] at h3
          subst h3
          exact Out.same hr hrun (.value h4) hq.2
      · rename_i t x y z ho
        cases hb : twoBlocks P t (ev x) (ev y) h with
        | false => rw [hb] at hq; exact hq.elim
        | true =>
          rw [hb] at hq
          have := (twoBlocks_yes (P := P) hr (x := x) (y := y) (e (by simp [ho, Op.operands])) (e (by simp [ho, Op.operands])) hb).1
          exact Out.same hr (b := .value (.bool false)) (by simp only [execOp, ho]; rw [Sem.run_bind, this]; rfl) (.value (.bool _)) hq
      · rename_i t x y z ho
        cases hb : twoBlocks P t (ev x) (ev y) h with
        | false => rw [hb] at hq; exact hq.elim
        | true =>
          rw [hb] at hq
          have := (twoBlocks_yes (P := P) hr (x := x) (y := y) (e (by simp [ho, Op.operands])) (e (by simp [ho, Op.operands])) hb).2
          exact Out.same hr (b := .value (.bool true)) (by simp only [execOp, ho]; rw [Sem.run_bind, this]; rfl) (.value (.bool _)) hq
      · exact hq.elim
  | false =>
    rw [hc] at hq
    simp only [cond_false] at hq
    clear hc
    unfold aOp2 at hq
    split at hq
    -- call
    · rename_i c ho
      have hops : ∀ x, x ∈ c.operands.toList → okOpd G x = true := fun x hx => okOp_mem hok (by rw [ho]; exact hx)
      split at hq
      · rename_i b hcal
        have hargs : LRel ρ (c.args.toList.map ev) (c.args.toList.map ev') := mapA_rel fun x hx => hev x (hops x (by
          unfold Call.operands
          rw [Array.toList_append]
          exact List.mem_append_right _ hx))
        have := builtin_out (ty := o.type) (cs := c.args.map fun | .const _ => true | _ => false) hargs hr hq
        refine Out.run_eq ?_ this
        have ea : c.args.map ev' = (c.args.toList.map ev').toArray := by apply Array.toList_inj.1; simp
        simp only [execOp, ho, resolve, hcal]
        rw [Sem.run_bind, ← ea]
        rfl
      · split at hq
        case h_2 => exact hq.elim
        rename_i d hd
        obtain ⟨d', h1, h2⟩ := defer_yes hev hops hd o.type
        refine Out.run_eq ?_ (invoke_out hX h2 hr hq)
        simp only [execOp, ho]
        rw [Sem.run_bind, h1]
        rfl
    -- defer
    · rename_i c ho
      have hops : ∀ x, x ∈ c.operands.toList → okOpd G x = true := fun x hx => okOp_mem hok (by rw [ho]; exact hx)
      split at hq
      case h_2 => exact hq.elim
      rename_i d hd
      obtain ⟨d', h1, h2⟩ := defer_yes hev hops hd o.type
      exact Out.same hr (b := .defer d') (by simp only [execOp, ho]; rw [Sem.run_bind, h1]; rfl) (.defer h2) hq
    · rename_i src dst x ho
      refine Out.run_eq (by simp only [execOp, ho]) (Out.value (convert_out hr (e (by simp [ho, Op.operands])) hq))
    · rename_i t ho
      refine Out.run_eq (by simp only [execOp, ho]) (Out.value ((sim_alloc (P := P) (w0 := w0)).out hr hq))
    · rename_i t x ho
      refine Out.run_eq (by simp only [execOp, ho]) (Out.value ((sim_box (P := P) (w0 := w0) (e (by simp [ho, Op.operands]))).out hr hq))
    · rename_i t n parts ho
      have hp := parts_rel (ρ := ρ) (ev := ev) (ev' := ev') (l := parts.toList) fun x hx => e (by simp only [ho, Op.operands]; simpa using hx)
      refine Out.run_eq ?_ (Out.value ((sim_buildSlice (P := P) (w0 := w0) (t := t) (len := n) hp).out hr hq))
      have ea : (parts.map fun (i, x) => (i, ev' x)) = (parts.toList.map fun p => (p.1, ev' p.2)).toArray := by apply Array.toList_inj.1; simp
      simp only [execOp, ho, ea]
    · rename_i t x ho
      split at hq
      case h_2 => exact hq.elim
      rename_i a ha
      obtain ⟨a', h1, h2⟩ := addrOf_inv ha (e (x := x) (by simp [ho, Op.operands]))
      refine Out.run_eq (by simp only [execOp, ho, h1]; rfl) (Out.value ((sim_loadS (P := P) (w0 := w0) h2).out hr hq))
    · rename_i t x v ho
      split at hq
      case h_2 => exact hq.elim
      rename_i a ha
      obtain ⟨a', h1, h2⟩ := addrOf_inv ha (e (x := x) (by simp [ho, Op.operands]))
      refine Out.run_eq (by simp only [execOp, ho, h1]; rfl) (Out.unit ((sim_storeS (P := P) (w0 := w0) h2 (e (x := v) (by simp [ho, Op.operands]))).out hr hq))
    · rename_i t r ho
      split at hq
      case h_2 => exact hq.elim
      refine Out.run_eq (by simp only [execOp, ho]; rfl) (Out.value (s' := Instr.makeMap t none) ?_)
      refine Out.run_eq (s1 := newObj (.map #[] 0) >>= fun r => Pure.pure (.map (some r))) (by simp [Instr.makeMap]) ?_
      refine (Sim.bind (Sim.newObj (.map 0 ⟨rfl, fun i a b x => by simp at x⟩)) fun ρ1 hl r r' hr => ?_ : Sim P w0 VRel ρ _ _).out hr hq
      exact Sim.pure fun _ hl2 => .map (hr.mono hl2)
    · rename_i t l c ho
      refine Out.run_eq (by simp only [execOp, ho]) (Out.value ((sim_makeSlice (P := P) (w0 := w0) (e (x := l) (by simp [ho, Op.operands])) (e (x := c) (by simp [ho, Op.operands]))).out hr hq))
    · rename_i t m k ok ho
      split at hq
      case h_2 => exact hq.elim
      refine Out.run_eq (by simp only [execOp, ho]) (Out.value ((sim_lookup (P := P) (w0 := w0) (e (x := m) (by simp [ho, Op.operands])) (e (x := k) (by simp [ho, Op.operands]))).out hr hq))
    · rename_i t m k v ho
      refine Out.run_eq (by simp only [execOp, ho]) (Out.unit ((sim_mapUpdate (P := P) (w0 := w0) (e (x := m) (by simp [ho, Op.operands])) (e (x := k) (by simp [ho, Op.operands])) (e (x := v) (by simp [ho, Op.operands]))).out hr hq))
    · rename_i t m k v ho
      refine Out.run_eq (by simp only [execOp, ho]) (Out.unit ((sim_mapUpdate (P := P) (w0 := w0) (e (x := m) (by simp [ho, Op.operands])) (e (x := k) (by simp [ho, Op.operands])) (e (x := v) (by simp [ho, Op.operands]))).out hr hq))
    · rename_i t m k ho
      refine Out.run_eq (by simp only [execOp, ho]) (Out.value ((sim_mapEntry (P := P) (w0 := w0) (e (x := m) (by simp [ho, Op.operands])) (e (x := k) (by simp [ho, Op.operands]))).out hr hq))
    · rename_i t m s v ho
      refine Out.run_eq (by simp only [execOp, ho]) (Out.unit ((sim_entryStore (P := P) (w0 := w0) (t := t) (e (x := m) (by simp [ho, Op.operands])) (e (x := s) (by simp [ho, Op.operands])) (e (x := v) (by simp [ho, Op.operands]))).out hr hq))
    · rename_i t x ho
      refine Out.run_eq (by simp only [execOp, ho]) (Out.value ((sim_range (P := P) (w0 := w0) (e (x := x) (by simp [ho, Op.operands]))).out hr hq))
    · rename_i it b ho
      refine Out.run_eq (by simp only [execOp, ho]) (Out.value (next_out (ty := o.type) hr (e (x := it) (by simp [ho, Op.operands])) hq))
    · rename_i it ho
      refine Out.run_eq (by simp only [execOp, ho]) (Out.value ((sim_entry (P := P) (w0 := w0) (e (x := it) (by simp [ho, Op.operands]))).out hr hq))
    · rename_i x xt t ok ho
      refine Out.run_eq (by simp only [execOp, ho]) (Out.value ((sim_typeAssert (P := P) (w0 := w0) (xt := xt) (e (x := x) (by simp [ho, Op.operands]))).out hr hq))
    · exact hq.elim

end
end Go.Abs
