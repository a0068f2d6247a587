/- The abstract machine, part 8: conversions and the lesser builtins. -/
import Derived.Test.YtkfoibidnkfndaaGreatDoorAbA6
import Derived.Laws.BytesString
set_option linter.unusedSimpArgs false
namespace Go.Abs
open Go.RowKit

section
variable {P : Program} {w0 : World} {ρ : Ren}

/-- Out for a step that changes nothing. -/
theorem Out.same {α β : Type} {R : Ren → α → β → Prop} {h : Heap} {w : World} {s' : Sem β} {Q : α → Heap → Prop} {a : α} {b : β} (hr : HRel w0 ρ h w) (hrun : s'.run P w = .ok b w) (hR : R ρ a b) (hq : Q a h) : Out P w0 R ρ h w s' Q :=
  ⟨ρ, a, b, h, w, Ren.le_refl _, hrun, hR, hr, Keep.refl _, hq⟩

theorem bytesOf_run {l l' : List Value} (h : LRel ρ l l') : ∀ {bs : List UInt8}, bytesOf l = some bs → ∃ ns : List Int, l' = ns.map (fun n => .int .u8 n) ∧ ∀ r : ByteArray, ns.foldl (fun r n => r.push (UInt8.ofNat n.toNat)) r = ⟨r.data ++ bs.toArray⟩ := by
  induction h with
  | nil => intro bs hb; cases hb; exact ⟨[], rfl, fun r => by simp⟩
  | @cons v v' l l' hv _ ih =>
    intro bs hb
    unfold bytesOf at hb
    split at hb
    · rename_i hx; cases hx
    · rename_i n l0 hx
      cases hx
      cases hv
      cases hb0 : bytesOf l with
      | none => rw [hb0] at hb; cases hb
      | some r0 =>
        rw [hb0] at hb
        cases hb
        obtain ⟨ns, e1, e2⟩ := ih hb0
        refine ⟨n :: ns, by rw [e1]; rfl, fun r => ?_⟩
        rw [List.foldl_cons, e2]
        congr 1
        apply Array.toList_inj.1
        show (r.data.push _ ++ _).toList = _
        simp
    · cases hb

theorem sim_bytes {x x' : Value} (hx : VRel ρ x x') : Sim P w0 VRel ρ (bytesS x) (Conv.bytesToString x') := by
  unfold bytesS
  split
  · cases hx
    exact Sim.ret (b := .string .empty) (fun w => rfl) fun _ _ => .string _
  · rename_i a n c
    cases hx with
    | slice hs =>
      intro ρ1 hl h w Q hr hq
      rw [aSem_bind] at hq
      obtain ⟨l, l', hq1, hll, hlen, hrun⟩ := loadList_run hr (hs.base.mono hl) hq
      cases hb : bytesOf l with
      | none => rw [hb] at hq1; exact hq1.elim
      | some bs =>
        rw [hb] at hq1
        obtain ⟨ns, e1, e2⟩ := bytesOf_run hll hb
        have hrun' := hrun w rfl
        subst e1
        refine Out.same (b := .string _) hr (run_bytesToString w _ n _ ns (by simpa using hrun')) ?_ hq1
        have e4 : ByteArray.empty.data ++ bs.toArray = bs.toArray := by
          apply Array.toList_inj.1
          rw [Array.toList_append]
          rfl
        rw [e2, e4]
        exact .string _
  · exact Sim.stuck

/-- Bytes behind a row's end are marked: what the machine marks (1, 1). -/
theorem HRel.marked {h : Heap} {w : World} (hr : HRel w0 ρ h w) {i : Nat} {c : Array Value} {t : TypeId} (hg : h.get i = some (.cells c t (1, 1))) {p : Place} (hp : ρ i = some p) {b : Nat} (hb : b = p.blk) :
    ∃ n, w.shape? b = some (t, n) ∧ HRel w0 ρ h (w.freeze { block := b, off := n } 1) := by
  subst hb
  obtain ⟨p', o', e1, e2, e3, e4⟩ := hr.objs _ _ hg
  rw [hp] at e1; cases e1
  cases e3 with
  | @cells _ c' _ _ fr' hv h1 h2 hf =>
    refine ⟨c'.size, by simp [World.shape?, e2], ?_⟩
    have hB : w0.heap.size ≤ p.blk := by
      rcases hf with ⟨_, _, hB⟩ | ⟨_, _, hB⟩ | hf
      · exact hB
      · exact hB
      · simp [shut] at hf
    have hfr : fr' = (c'.size, c'.size + 1) ∨ fr' = (0, 0) := by
      rcases hf with ⟨hf, _⟩ | ⟨_, hf, _⟩ | hf
      · simp at hf
      · exact hf
      · simp [shut] at hf
    have hh : (w.freeze { block := p.blk, off := c'.size } 1).heap[p.blk]? = some (.cells c' t (c'.size, c'.size + 1)) := by
      rcases hfr with hfr | hfr <;> subst hfr <;> simp [World.freeze, Array.getElem?_modify, e2]
    have ho : ∀ k, k ≠ p.blk → (w.freeze { block := p.blk, off := c'.size } 1).heap[k]? = w.heap[k]? := by
      intro k hk
      simp [World.freeze, Array.getElem?_modify, Ne.symm hk]
    have hos : (w.freeze { block := p.blk, off := c'.size } 1).os = w.os ∧ (w.freeze { block := p.blk, off := c'.size } 1).tape = w.tape ∧ (w.freeze { block := p.blk, off := c'.size } 1).output = w.output ∧ (w.freeze { block := p.blk, off := c'.size } 1).heap.size = w.heap.size := by
      simp [World.freeze]
    generalize w.freeze { block := p.blk, off := c'.size } 1 = w' at *
    refine ⟨?_, ?_, hr.sep, hr.fresh⟩
    · exact hr.below.trans ⟨hos.1, hos.2.1, hos.2.2.1, by omega, fun k hk => ho k (by omega)⟩
    · intro j oj hj
      by_cases ej : j = i
      · subst ej
        rw [hg] at hj; cases hj
        exact ⟨p, _, hp, hh, .cells hv h1 h2 (.inr (.inl ⟨rfl, .inl rfl, hB⟩)), e4⟩
      · obtain ⟨q, o', f1, f2, f3, f4⟩ := hr.objs j oj hj
        refine ⟨q, o', f1, ?_, f3, f4⟩
        rw [ho _ (fun ec => ?_)]; exact f2
        have := hr.sep j i oj _ q p ej hj hg f1 hp ec
        omega

theorem convert_scalar_yes {src dst : TypeId} {x x' v : Value} (hx : VRel ρ x x') (hs : scalar x = true) (h : ifScalar (pureRun P (convert src dst x)) = some v) (w : World) : (convert src dst x').run P w = .ok v w ∧ VRel ρ v v := by
  obtain ⟨h1, h2⟩ := ifScalar_some h
  rw [scalar_eq hs hx]
  exact ⟨pureRun_run h1 w, scalar_refl h2⟩

theorem stringToBytes_out {h : Heap} {w : World} (hr : HRel w0 ρ h w) {e : TypeId} {s : ByteArray} {Q : Value → Heap → Prop}
    (hq : Q (.slice (some ⟨h.next, 0, some 1⟩) s.size s.size) (h.alloc (.cells (s.data.toList.map fun b => Value.int .u8 b.toNat).toArray e (1, 1)))) : Out P w0 VRel ρ h w (Conv.stringToBytes e s) Q := by
  have hr1 : HRel w0 ρ h w.drew := hr.drew rfl rfl rfl rfl
  have hge : s.size ≤ grownCap w s.size 0 e := grownCap_ge _ _ _ _
  have hsz : s.size = s.data.toList.length := by simp
  have hcells : (s.data.map (fun b => Value.int .u8 b.toNat) ++ Array.replicate (grownCap w s.size 0 e - s.size) (Value.int .u8 0)).size = grownCap w s.size 0 e := by
    simp
    have : s.data.size = s.size := rfl
    omega
  have hrun : (Conv.stringToBytes e s).run P w = .ok (.slice (some ⟨w.heap.size, 0, none⟩) s.size (grownCap w s.size 0 e))
      ((w.drew.alloc (.cells (s.data.map (fun b => Value.int .u8 b.toNat) ++ Array.replicate (grownCap w s.size 0 e - s.size) (Value.int .u8 0)) e)).freeze { block := w.heap.size, off := grownCap w s.size 0 e } 1) := by
    have hshape : (w.drew.alloc (.cells (s.data.map (fun b => Value.int .u8 b.toNat) ++ Array.replicate (grownCap w s.size 0 e - s.size) (Value.int .u8 0)) e)).shape? w.heap.size = some (e, grownCap w s.size 0 e) := by
      have hh := heap_alloc_new w.drew (.cells (s.data.map (fun b => Value.int .u8 b.toNat) ++ Array.replicate (grownCap w s.size 0 e - s.size) (Value.int .u8 0)) e)
      have hh' : (w.drew.alloc (.cells (s.data.map (fun b => Value.int .u8 b.toNat) ++ Array.replicate (grownCap w s.size 0 e - s.size) (Value.int .u8 0)) e)).heap[w.heap.size]? = _ := hh
      simp only [World.shape?, hh', hcells]
    have hdef : (Question.appendCap s.size 0 e).cut (w.tape w.drawn (Question.appendCap s.size 0 e)) = grownCap w s.size 0 e := rfl
    simp [Conv.stringToBytes, Question.forced, newRow, hdef, markStringish, hshape]
  obtain ⟨ρ2, hl2, hnew, hr2⟩ := hr1.born (o := .cells (s.data.toList.map fun b => Value.int .u8 b.toNat).toArray e (1, 1)) (o' := .cells (s.data.map (fun b => Value.int .u8 b.toNat) ++ Array.replicate (grownCap w s.size 0 e - s.size) (Value.int .u8 0)) e (0, 0)) (n := grownCap w s.size 0 e)
    (w' := w.drew.alloc (.cells (s.data.map (fun b => Value.int .u8 b.toNat) ++ Array.replicate (grownCap w s.size 0 e - s.size) (Value.int .u8 0)) e)) (fun ρ' hl' => by
    refine .cells (fun k v hk => ?_) (by simpa using hge) (by rw [hcells]; simp) (.inr (.inl ⟨rfl, .inr rfl, hr1.below.size⟩))
    simp only [List.getElem?_toArray, List.getElem?_map] at hk
    cases hb : s.data.toList[k]? with
    | none => rw [hb] at hk; cases hk
    | some b =>
      rw [hb] at hk
      cases hk
      refine ⟨.int .u8 b.toNat, ?_, .int _ _⟩
      have hlt : k < s.data.size := by
        have := (List.getElem?_eq_some_iff.1 hb).1
        simpa using this
      simp only [Nat.zero_add]
      rw [Array.getElem?_append_left (by simpa using hlt)]
      simp only [Array.getElem?_map]
      rw [Array.getElem?_toList] at hb
      rw [hb]; rfl) rfl ⟨rfl, rfl, rfl⟩
  obtain ⟨n, hsh, hr3⟩ := hr2.marked (i := h.next) (c := (s.data.toList.map fun b => Value.int .u8 b.toNat).toArray) (t := e) (by rw [Heap.get_alloc, if_pos rfl]) hnew rfl
  have hn : n = grownCap w s.size 0 e := by
    have hh := heap_alloc_new w.drew (.cells (s.data.map (fun b => Value.int .u8 b.toNat) ++ Array.replicate (grownCap w s.size 0 e - s.size) (Value.int .u8 0)) e)
    have hh' : (w.drew.alloc (.cells (s.data.map (fun b => Value.int .u8 b.toNat) ++ Array.replicate (grownCap w s.size 0 e - s.size) (Value.int .u8 0)) e)).heap[w.drew.heap.size]? = _ := hh
    simp only [World.shape?, hh', hcells] at hsh
    simp at hsh
    exact hsh.symm
  subst hn
  have hsr : SRel ρ2 ⟨h.next, 0, some 1⟩ s.size ⟨w.heap.size, 0, none⟩ (grownCap w s.size 0 e) := ⟨rfl, _, hnew, rfl, rfl, Nat.one_pos, hge, by simp⟩
  exact ⟨ρ2, _, _, _, _, hl2, hrun, .slice hsr, hr3, Keep.alloc (hr.fresh _ (Nat.le_refl _)).2, hq⟩

theorem convert_out {src dst : TypeId} {x x' : Value} {h : Heap} {w : World} {Q : Value → Heap → Prop} (hr : HRel w0 ρ h w) (hx : VRel ρ x x') (hq : aConvert P src dst x h Q) : Out P w0 VRel ρ h w (convert src dst x') Q := by
  unfold aConvert at hq
  cases hs : scalar x with
  | true =>
    rw [hs] at hq
    simp only [cond_true] at hq
    split at hq
    · rename_i e s hb
      unfold isStringToBytes at hb
      split at hb
      · rename_i e' s' hu1 hu2
        split at hb
        · rename_i hu3
          cases hb
          cases hx
          obtain ⟨ρ2, u, u', h', w', x1, x2, x3, x4, x5, x6⟩ := stringToBytes_out (P := P) hr hq
          refine ⟨ρ2, u, u', h', w', x1, ?_, x3, x4, x5, x6⟩
          rw [← x2]
          simp [convert, run_und hu1, run_und hu2, run_und hu3]
        · cases hb
      · cases hb
    · cases hv : ifScalar (pureRun P (convert src dst x)) with
      | none => rw [hv] at hq; exact hq.elim
      | some v =>
        rw [hv] at hq
        obtain ⟨h1, h2⟩ := convert_scalar_yes hx hs hv w
        exact Out.same hr h1 h2 hq
  | false =>
    rw [hs] at hq
    simp only [cond_false] at hq
    split at hq
    · rename_i e0 e a n c hu1 hu2
      rcases beq_cases src dst with ⟨hsd, hsdb⟩ | ⟨hsd, hsdb⟩
      · rw [hsdb] at hq
        simp only [cond_true] at hq
        split at hq
        · rename_i cs t fr hu3 hg
          cases hfe : free fr with
          | false => rw [hfe] at hq; exact hq.elim
          | true =>
            rw [hfe] at hq
            simp only [cond_true] at hq
            cases hx with
            | @slice _ a' _ _ c' hsr =>
              obtain ⟨hsp, p, hp, hblk, hoff, hm⟩ := id hsr
              obtain ⟨p', o', e1, e2, e3, _⟩ := hr.objs _ _ hg
              rw [hp] at e1; cases e1
              cases e3 with
              | @cells _ cr _ _ fr' hv h1 h2 hf =>
                have hB : w0.heap.size ≤ p.blk := by
                  rcases hf with ⟨_, _, hB⟩ | ⟨_, _, hB⟩ | hf
                  · exact hB
                  · exact hB
                  · subst hf; simp [Go.Abs.free, shut] at hfe
                have hf2 : FrRel w0.heap.size p cr.size (1, 1) fr' := by
                  rcases hf with ⟨_, hf, _⟩ | ⟨_, hf, _⟩ | hf
                  · exact .inr (.inl ⟨rfl, .inr hf, hB⟩)
                  · exact .inr (.inl ⟨rfl, hf, hB⟩)
                  · subst hf; simp [Go.Abs.free, shut] at hfe
                have hr1 : HRel w0 ρ (h.put a.block (some (.cells cs t (1, 1)))) w :=
                  hr.turn hg hp hB e2 (.cells hv h1 h2 hf2) (fun hn => by simp [notCells] at hn) (fun _ _ => rfl) rfl ⟨rfl, rfl, rfl⟩
                obtain ⟨k, hk1, hk2⟩ := hr1.marked (i := a.block) (c := cs) (t := t) (by rw [Heap.get_put, if_pos rfl]) hp hblk
                refine ⟨ρ, _, .slice (some a') n c', _, _, Ren.le_refl _, ?_, .slice hsr, hk2, ?_, hq⟩
                · simp [convert, run_und hu1, run_und hu2, run_und hu3, hsd, markStringish, hk1]
                · refine Keep.put fun b u hb eb hbu => ?_
                  rw [← hbu]
                  simp [Heap.cell?, Heap.get_put, eb, hg]
        · exact hq.elim
      · rw [hsdb] at hq
        exact hq.elim
    · rename_i t a hu1 hu2
      split at hq
      · rename_i cs t0 fr n hg hsz
        cases hb : (Nat.blt a.off cs.size && !Nat.beq n 0) with
        | false => rw [hb] at hq; exact hq.elim
        | true =>
          rw [hb] at hq
          simp only [cond_true] at hq
          simp only [Bool.and_eq_true, Bool.not_eq_true'] at hb
          have hlt : a.off < cs.size := Nat.blt_eq.mp hb.1
          have hn0 : n ≠ 0 := Nat.ne_of_beq_eq_false hb.2
          cases hx with
          | @ptr _ a' hp0 =>
            obtain ⟨_, hsp, p, hp, hblk, hoff⟩ := id hp0
            obtain ⟨p', o', e1, e2, e3, _⟩ := hr.objs _ _ hg
            rw [hp] at e1; cases e1
            cases e3 with
            | @cells _ cr _ _ fr' hv h1 h2 hf =>
              have hsh : w.shape? a'.block = some (t0, cr.size) := by simp [World.shape?, hblk, e2]
              have hng : ¬ (cr.size ≤ a'.off) := by omega
              refine Out.same (b := .pointer (some a')) hr ?_ (.ptr hp0) hq
              have hsz' : ∀ w1, (sizeOf t).run P w1 = .ok n w1 := fun w1 => run_size hsz w1
              simp [convert, run_und hu1, run_und hu2, Conv.unsafePointer, Conv.seenAt, viewAt, cellsIn, hsh, hsz', hn0, hng]
      · exact hq.elim
    · rename_i e n m c hu1 hu2
      split at hq
      · rename_i hu3
        obtain ⟨ρ2, u, u', h', w', x1, x2, x3, x4, x5, x6⟩ := (sim_bytes (P := P) (w0 := w0) hx).out hr hq
        refine ⟨ρ2, u, u', h', w', x1, ?_, x3, x4, x5, x6⟩
        rw [← x2]
        cases hx <;> simp [convert, run_und hu1, run_und hu2, run_und hu3]
      · exact hq.elim
    · exact hq.elim

end
end Go.Abs
