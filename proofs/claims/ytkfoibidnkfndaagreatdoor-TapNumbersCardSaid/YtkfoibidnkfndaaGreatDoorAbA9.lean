/- The abstract machine, part 10: body-less functions, calls. -/
import Derived.Test.YtkfoibidnkfndaaGreatDoorAbA8
set_option linter.unusedSimpArgs false
namespace Go.Abs
open Go.RowKit

/-- What a row of the library does, as the machine sees it. -/
def ExtLaw (x : Ext) (e : Array Value → Sem Value) : Prop := ∀ (P : Program) (w0 : World) (ρ : Ren) (args args' : List Value), LRel ρ args args' → Sim P w0 VRel ρ (x.sem args) (e args'.toArray)

structure ExtOK (P : Program) (X : Exts) : Prop where
  mixed : P.follows .mixedOrders = true
  row : ∀ (f : FuncId) (x : Ext), X.find f = some x → ∃ (fn : Func) (e : Array Value → Sem Value), P.funcs[f]? = some fn ∧ fn.body = none ∧ (fn.name == "runtime.NumGoroutine") = false ∧ Extern.findNext fn = none ∧ Extern.find fn = some e ∧ ExtLaw x e
  name : ∀ (f : FuncId) (fn : Func) (c : Code), P.funcs[f]? = some fn → fn.body = some c → (fn.name == "runtime.NumGoroutine") = false
  code : ∀ (f : FuncId) (fn : Func) (c : Code), P.funcs[f]? = some fn → fn.body = some c → okCode P.globals.size c = true

section
variable {P : Program} {w0 : World} {ρ : Ren}

/-! ### Rows -/

theorem ext_mark0 : ExtLaw .mark0 (fun _ => pure (.tuple #[])) := by
  intro P w0 ρ args args' ha
  cases ha with
  | nil => exact Sim.ret (b := .tuple #[]) (fun _ => rfl) fun _ _ => .tuple' .nil
  | cons _ _ => exact Sim.no fun _ _ h => h

theorem ext_mark0' (m : Mark) : ExtLaw .mark0 (fun _ => do mark m; pure Extern.Race.none_) := by
  intro P w0 ρ args args' ha
  cases ha with
  | nil => exact Sim.ret (b := .tuple #[]) (fun _ => rfl) fun _ _ => .tuple' .nil
  | cons _ _ => exact Sim.no fun _ _ h => h

/-- A cell that may be written. -/
theorem setCell_real {h h' : Heap} {w : World} (hr : HRel w0 ρ h w) {a a' : Addr} (ha : PRel ρ a a') {v : Value} (hs : h.setCell? a v = some h') : w.frozen? a' = false ∧ ∃ t n, w.shape? a'.block = some (t, n) := by
  unfold Heap.setCell? at hs
  split at hs
  case h_2 => cases hs
  rename_i c e fr hg
  split at hs
  case h_2 => cases hs
  cases hb : (oneCell v && Go.Abs.free fr && Nat.blt a.off c.size && !pinned a h.pins) with
  | false => rw [hb] at hs; cases hs
  | true =>
    simp only [Bool.and_eq_true, Bool.not_eq_true', Nat.blt_eq] at hb
    obtain ⟨⟨⟨hone, hfree⟩, hlt⟩, hpin⟩ := hb
    obtain ⟨_, hs', p, hp, hblk, hoff⟩ := ha
    obtain ⟨p', o', e1, e2, e3, _⟩ := hr.objs _ _ hg
    rw [hp] at e1; cases e1
    cases e3 with
    | @cells _ c' _ _ fr' hc h1 h2 hf =>
      refine ⟨?_, e, c'.size, by simp [World.shape?, hblk, e2]⟩
      rcases hf with ⟨_, hf, hB⟩ | ⟨_, hf, hB⟩ | hf
      · simp [World.frozen?, hblk, e2, hf]
      · have : p.off + a.off < c'.size := by omega
        rcases hf with hf | hf
        · simp [World.frozen?, hblk, e2, hf, hoff]; omega
        · simp [World.frozen?, hblk, e2, hf]
      · subst hf; simp [Go.Abs.free, shut] at hfree

theorem readInt_run {k : IntKind} {a a' : Addr} {h : Heap} {w : World} {F : Int → Heap → Prop} (hr : HRel w0 ρ h w) (ha : PRel ρ a a') (hq : aSem P (readInt k a) h F) :
    ∃ n, F n h ∧ h.cell? a = some (.int k n) ∧ w.cell? a' = some (.int k n) := by
  unfold readInt at hq
  rw [aSem_bind] at hq
  simp only [Go.load, aSem] at hq
  split at hq
  · rename_i v hv
    obtain ⟨v', h1, h2⟩ := hr.cell ha hv
    cases h2 <;> first | exact hq.elim | skip
    rename_i k' n
    simp only at hq
    split at hq
    · rename_i hk
      subst hk
      exact ⟨n, hq, hv, h1⟩
    · exact hq.elim
  · exact hq.elim

theorem ext_cas (k : IntKind) : ExtLaw (.cas k) (Extern.Atomic.casT (.int k)) := by
  intro P w0 ρ args args' ha
  unfold Ext.sem
  split
  all_goals first | (rename_i hx; cases hx; done) | skip
  case h_3 k0 a k1 old k' new hx =>
    cases hx
    cases ha with
    | @cons _ x1 _ _ h1 ht =>
      cases ht with
      | @cons _ x2 _ _ h2 ht =>
        cases ht with
        | @cons _ x3 _ _ h3 ht =>
          cases ht
          cases h2; cases h3
          cases h1 with
          | @ptr _ a' hp =>
            intro ρ1 hl h w Q hr hq
            rw [aSem_bind] at hq
            obtain ⟨n, hq2, hc, hc'⟩ := readInt_run hr (hp.mono hl) hq
            clear hq
            have hq := hq2
            clear hq2
            split at hq
            case isFalse => exact hq.elim
            rename_i hn
            subst hn
            rw [aSem_bind] at hq
            have hset : ∃ h', h.setCell? a (.int k' new) = some h' := by
              simp only [Go.store, aSem] at hq
              split at hq
              · rename_i h' hs; exact ⟨h', hs⟩
              · exact hq.elim
            obtain ⟨h', hs⟩ := hset
            obtain ⟨hf, t, m, hsh⟩ := setCell_real hr (hp.mono hl) hs
            obtain ⟨ρ2, u, u', h2, w2, x1, x2, _, x4, x5, x6⟩ := (Sim.store (P := P) (w0 := w0) (m := .atomic) (m' := .atomic) (hp.mono hl) (VRel.int k' new)).out hr hq
            refine ⟨ρ2, _, .bool true, h2, w2, x1, ?_, .bool _, x4, x5, x6⟩
            show (Extern.Atomic.casT (.int k) #[.pointer (some a'), .int k1 n, .int k' new]).run P w = _
            have htf : (Extern.Atomic.touchesFrozen a').run P w = .ok false w := by simp [Extern.Atomic.touchesFrozen, viewAt, hsh, hf]
            have hrd : (Extern.Atomic.read (.int k) a').run P w = .ok (.int k n) w := by simp [Extern.Atomic.read, hc']
            refine Eq.trans (b := Sem.run P (Extern.Atomic.touchesFrozen a' >>= fun b => if b = true then _ else Extern.Atomic.read (.int k) a' >>= fun r => _) w) rfl ?_
            rw [Sem.run_bind, htf]
            simp only [Result.andThen_ok, Bool.false_eq_true, if_false]
            rw [Sem.run_bind, hrd]
            refine Eq.trans (b := Sem.run P (Pure.pure (n == n) >>= fun eq => if eq = true then store a' (.int k' new) .atomic >>= fun _ => Pure.pure (.bool eq) else Pure.pure (.bool eq)) w) rfl ?_
            simp [x2]
  all_goals exact Sim.stuck

theorem ext_add (k : IntKind) : ExtLaw (.add k) (Extern.Atomic.update (Op.intArith .add) k true) := by
  intro P w0 ρ args args' ha
  unfold Ext.sem
  split
  all_goals first | (rename_i hx; cases hx; done) | skip
  case h_4 k0 a k1 y hx =>
    cases hx
    cases ha with
    | @cons _ x1 _ _ h1 ht =>
      cases ht with
      | @cons _ x2 _ _ h2 ht =>
        cases ht
        cases h2
        cases h1 with
        | @ptr _ a' hp =>
          intro ρ1 hl h w Q hr hq
          rw [aSem_bind] at hq
          obtain ⟨n, hq2, hc, hc'⟩ := readInt_run hr (hp.mono hl) hq
          clear hq
          have hq := hq2
          clear hq2
          rw [aSem_bind] at hq
          obtain ⟨ρ2, u, u', h2, w2, x1, x2, _, x4, x5, x6⟩ := (Sim.store (P := P) (w0 := w0) (m := .atomic) (m' := .atomic) (hp.mono hl) (VRel.int k (k.wrap (n + y)))).out hr hq
          refine ⟨ρ2, _, .int k (k.wrap (n + y)), h2, w2, x1, ?_, .int _ _, x4, x5, x6⟩
          have e : Extern.Atomic.update (Op.intArith .add) k true [Value.pointer (some a'), .int k1 y].toArray = (asAddr (.pointer (some a')) >>= fun a => Extern.Atomic.read (.int k) a >>= fun old => asInt old >>= fun x => asInt (.int k1 y) >>= fun z => Op.intArith .add k x z >>= fun new => store a new .atomic >>= fun _ => Pure.pure (if true then new else old)) := rfl
          rw [e]
          simp [asAddr, Extern.Atomic.read, hc', Op.intArith, asInt, asIntOf, x2]
  all_goals exact Sim.stuck

theorem ext_mapClone : ExtLaw .mapClone Extern.MapsClone.clone := by
  intro P w0 ρ args args' ha
  unfold Ext.sem
  split
  all_goals first | (rename_i hx; cases hx; done) | skip
  case h_6 t r hx =>
    cases hx
    cases ha with
    | @cons _ x1 _ _ h1 ht =>
      cases ht
      cases h1 with
      | iface h1 =>
        cases h1 with
        | @map _ r' hr' =>
          refine Sim.run_eq (s1 := getObj r' >>= fun o => match o with
            | .map es clock => newObj (.map es clock) >>= fun n => Pure.pure (.iface t (.map (some n)))
            | _ => stuck "maps.clone: a map expected") (fun w => ?_) ?_
          · have e : Extern.MapsClone.clone [Value.iface t (.map (some r'))].toArray = (getObj r' >>= fun o => match o with
              | .map es clock => newObj (.map es clock) >>= fun n => Pure.pure (.iface t (.map (some n)))
              | _ => stuck "maps.clone: a map expected") := rfl
            rw [e]
          · refine Sim.bind (Sim.getObj hr') fun ρ1 hl o o' ho => ?_
            cases o with
            | map es clk =>
              obtain ⟨es', rfl, he⟩ := newRel_map ho.1
              refine Sim.bind (Sim.newObj (.map clk he)) fun ρ2 hl2 n n' hn => ?_
              exact Sim.pure fun _ hl3 => .iface (.map (hn.mono hl3))
            | _ => exact Sim.no fun _ _ h => h
  all_goals exact Sim.stuck

theorem ext_mark1 (m : Addr → Mark) : ExtLaw .mark1 (Extern.Race.marked m) := by
  intro P w0 ρ args args' ha
  unfold Ext.sem
  split
  all_goals first | (rename_i hx; cases hx; done) | skip
  case h_2 a hx =>
    cases ha with
    | @cons _ x1 _ _ h1 ht =>
      cases ht
      cases h1 with
      | @ptr _ a' hp => exact Sim.ret (b := .tuple #[]) (fun _ => rfl) fun _ _ => .tuple' .nil
  all_goals exact Sim.stuck

end
end Go.Abs
