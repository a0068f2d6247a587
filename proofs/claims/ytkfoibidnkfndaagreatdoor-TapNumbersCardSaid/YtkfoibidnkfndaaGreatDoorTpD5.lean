/- Bursts: what both functions come to; a sorted copy of a row. -/
import Derived.Test.YtkfoibidnkfndaaGreatDoorTpV5
import Derived.Test.YtkfoibidnkfndaaGreatDoorTpD1
set_option linter.unusedVariables false
set_option linter.unusedSimpArgs false
namespace Go.Proofs.YtkfoibidnkfndaaGreatDoor
open Go.Abs

theorem take_one {l : List Int} {k : Nat} (hk : k < l.length) : l.take (k + 1) = l.take k ++ [l.getD k 0] := by
  rw [List.take_add_one]
  simp [List.getD_eq_getElem?_getD, hk]

theorem zf3 : zeroFits P 3 1 = true := by kernel_rfl

/-- SORTED OVER THE VALUES OF A ROW. -/
theorem c61 (w0 : World) (h0 : Heap) (b0 : Nat) (o : Option Addr) (c : Nat) (zs : List Int) (wf : WF h0) (hp : h0.pins = []) (hbox : h0.get b0 = some (.cells #[.slice o zs.length c] 27 (0, 0))) (e : Elts h0 o (zs.map I))
    (hl0 : 0 < zs.length) (hl : zs.length < 1000000000000) (R : Value → Heap → Prop)
    (hR : ∀ o' h', Old h0 h' → WF h' → Elts h' o' ((zs.mergeSort fun x y => decide (x ≤ y)).map I) → R (.slice o' zs.length zs.length) h') :
    (top P w0).call 61 #[.func (.func 113) #[] #[.pointer (some ⟨b0, 0, none⟩)]] h0 R := by
  have hb0 : b0 < h0.next := wf.lt hbox
  have ne0 : ∀ k x, (some (⟨b0, 0, none⟩ : Addr)) = some x → x.block ≠ (h0.next + k) := by
    intro k x hx; cases hx; show b0 ≠ _; omega
  refine vc61 w0 R h0 b0 ⟨ne0 0, ne0 1, ne0 2, o, zs.length, c, ?_, ?_⟩
  · show Heap.cell? h0 ⟨b0, 0, none⟩ = _
    unfold Heap.cell?
    simp only [hbox]
    rfl
  refine ⟨fun j x o6 n7 n8 h => 0 ≤ x ∧ (j : Int) + x = zs.length ∧ n7 = x.toNat ∧ Old h0 h ∧ WF h ∧ h0.next + 3 ≤ h.next ∧ OutS (h0.next + 3) 3 1 h o6 n7 n8 ((zs.take x.toNat).map I),
    ⟨zs.length, by omega, by omega, rfl, hup_since (Old.refl _) wf rfl (by simp), hup_wf wf (by simp), Nat.le_refl _, OutS.start _ _ _ _⟩, ?_⟩
  rintro j x o6 n7 n8 h ⟨hx, hj, rfl, old, wfh, hnx, out⟩ -
  have E := e.old wf old
  have hpn : h.pins = [] := old.pins.trans hp
  have pin : ∀ b, pinnedBlock b h.pins = false := fun b => by rw [hpn]; rfl
  have ones : ∀ l : List Int, (l.map I).all oneCell = true := fun l => by simp [I, oneCell]
  have ne1 : ∀ k y, (elt o x.toNat) = some y → y.block ≠ (h0.next + k) := fun k => e.ne wf (Nat.le_refl _) (by simpa using hl0)
  refine ⟨fun hlt => ?_, fun hge => ?_⟩
  · have hi : x.toNat < zs.length := by omega
    have hs : (x + 1).toNat = x.toNat + 1 := by omega
    refine ⟨E.sm hi, hx, hlt, E.sm hi, ne1 0, ne1 1, ne1 2, _, E.int hi, pin _, ?_⟩
    refine appendTo_one (B := h0.next + 3) (h0 := h0) (vs := (zs.take x.toNat).map I) (cs := [I (zs.getD x.toNat 0)]) (out.congr (fun b hb hb' => ?_) wfh) (hup_since old wfh rfl ?_) (by omega) (hup_wf wfh ?_) (by omega) (by omega) zf3 rfl (ones _) rfl (by omega) (by omega) hpn ?_ (by rw [hup_next]; omega)
    · exact hup_get_ne (by simp; omega)
    · simp; have := old.next; omega
    · simp; omega
    intro o' h'' g1 g2 g3 g4 g5 g6
    rw [hup_next] at g3
    have hp'' : h''.pins = [] := g1.pins.trans hp
    have ol'' := g1.next
    refine ⟨o', _, _, rfl, ?_, ?_, ?_, unp_nil hp'', by rw [hp'']; rfl, (InK_i64 _).2 (by omega), j - 1, by omega, by omega, by omega, by omega, hup_since g1 g2 rfl ?_, hup_wf g2 ?_, ?_, ?_⟩
    · exact (g4 _ (by omega)).trans ((hup_miss (by omega)).trans hup_hit)
    · exact (g4 _ (by omega)).trans ((hup_miss (by omega)).trans ((hup_miss (by omega)).trans hup_hit))
    · exact (g4 _ (by omega)).trans ((hup_miss (by omega)).trans ((hup_miss (by omega)).trans ((hup_miss (by omega)).trans hup_hit)))
    · simp; omega
    · simp; omega
    · rw [hup_next]; omega
    · rw [hs, take_one hi, List.map_append]
      exact g5.congr (fun b hb hb' => hup_get_ne (by simp; omega)) g2
  · have hxn : x.toNat = zs.length := by omega
    rw [hxn, List.take_length] at out
    rw [hxn]
    obtain ⟨_, hc, hout⟩ := out
    subst hc
    rcases hout with ⟨_, hz⟩ | ⟨b, rfl, hb, _, hg⟩
    · omega
    have hbn := wfh.lt hg
    refine ⟨pin _, ?_, ?_⟩
    · exact pin _
    refine sort_call sortsInts (t := 3) (zs := zs) ?_ hpn (by omega) ?_
    · rw [hup_get_ne (by simp; omega)]; exact hg
    refine ⟨rfl, ?_, ?_, ?_⟩
    · rw [Heap.get_put, if_neg (by omega)]
      exact (hup_miss (by omega)).trans hup_hit
    · rw [Heap.get_put, if_neg (by omega)]
      exact (hup_miss (by omega)).trans ((hup_miss (by omega)).trans ((hup_miss (by omega)).trans hup_hit))
    have oldp : ∀ l : List (Nat × Option Obj), (∀ y ∈ l, h0.next ≤ y.1 ∧ y.1 < h.next + 0) → ∀ v, Old h0 ((hup h 0 l h.pins).put b (some v)) ∧ WF ((hup h 0 l h.pins).put b (some v)) := by
      intro l hl' v
      have o1 := hup_since old wfh (p := h.pins) rfl hl'
      have w1 := hup_wf wfh (p := h.pins) fun y hy => (hl' y hy).2
      have wfp : WF ((hup h 0 l h.pins).put b (some v)) := by
        intro i hi
        have hi' : h.next + 0 ≤ i := hi
        rw [Heap.get_put, if_neg (by omega)]
        exact w1 i hi
      refine ⟨⟨fun d hd => ?_, o1.next, o1.pins, fun _ => wfp⟩, wfp⟩
      rw [Heap.get_put, if_neg (by omega)]
      exact o1.get d hd
    refine hR _ _ (hup_since (oldp _ ?_ _).1 (oldp _ ?_ _).2 rfl ?_) (hup_wf (oldp _ ?_ _).2 ?_) ?_
    · simp; have := old.next; omega
    · simp; have := old.next; omega
    · have : h0.next + 3 ≤ h.next := hnx
      intro y hy
      have hn : ∀ v, ((hup h 0 [] h.pins).put b v).next = h.next := fun _ => rfl
      simp only [List.mem_cons, List.not_mem_nil, or_false] at hy
      rcases hy with rfl | rfl <;> refine ⟨by simp, ?_⟩ <;> show h0.next + _ < h.next + 0 + 0 <;> omega
    · simp; have := old.next; omega
    · intro y hy
      simp only [List.mem_cons, List.not_mem_nil, or_false] at hy
      rcases hy with rfl | rfl <;> show h0.next + _ < h.next + 0 + 0 <;> omega
    refine OutS.elts (B := h0.next + 3) (t := 3) (s := 1) (n := zs.length) (c := zs.length) ⟨by simp, rfl, .inr ⟨b, rfl, hb, hl0, (hup_get_ne ?_).trans ?_⟩⟩
    · simp; omega
    · rw [Heap.get_put, if_pos rfl]; rfl

end Go.Proofs.YtkfoibidnkfndaaGreatDoor
