/- Deltas: the reference; the law. -/
import Derived.Test.YtkfoibidnkfndaaGreatDoorTpD1
import Derived.Test.YtkfoibidnkfndaaGreatDoorAbS14
set_option linter.unusedSimpArgs false
set_option linter.unusedVariables false
namespace Go.Proofs.YtkfoibidnkfndaaGreatDoor
open Go.Abs

theorem c18 (w0 : World) (h0 : Heap) (o1 o4 : Option Addr) (c1 c4 : Nat) (times : List Int) (shown : List Bool) (wf : WF h0) (hp : h0.pins = []) (e1 : Elts h0 o1 (times.map I)) (e4 : Elts h0 o4 (shown.map Value.bool)) (hl : times.length < 1000000000000)
    (R : Value → Heap → Prop) (hR : ∀ o n c h', Old h0 h' → WF h' → OutS h0.next 32 3 h' o n c (deltasS times shown).2 → R (.tuple #[.slice o n c, .int .i64 (deltasS times shown).1]) h') :
    (top P w0).call 18 #[.slice o1 times.length c1, .slice o4 shown.length c4] h0 R := by
  refine vc18 w0 R h0 o1 times.length c1 o4 shown.length c4 ?_
  have err : ∀ z, (deltasS times shown) = (z, []) → R (.tuple #[.slice none 0 0, .int .i64 z]) h0 := by
    intro z hz
    have := hR none 0 0 h0 (Old.refl _) wf (by rw [hz]; exact OutS.start _ _ _ _)
    rw [hz] at this; exact this
  unfold deltasS at hR err
  refine ⟨fun h1 => err 10 (by rw [if_pos (by omega)]), fun h1 => ⟨fun h2 => err 3 (by rw [if_neg (by omega), if_pos (by omega)]), fun h2 => ?_⟩⟩
  have h1 : times.length = shown.length := by omega
  have h2 : times.length ≤ 200 := by omega
  rw [if_neg (by omega), if_neg (by omega)] at hR err
  refine ⟨fun j x => 0 ≤ x ∧ (j : Int) + x = times.length ∧ ∀ k, k < x.toNat → 0 ≤ times.getD k 0 ∧ times.getD k 0 ≤ 1000000000000000, ⟨times.length, by omega, by omega, fun k hk => by omega⟩, ?_⟩
  rintro j x ⟨hx, hj, hk⟩ -
  refine ⟨fun hlt => ?_, fun hge => ?_⟩
  · have hi : x.toNat < times.length := by omega
    have hany : ∀ (hn : ¬ (0 ≤ times.getD x.toNat 0 ∧ times.getD x.toNat 0 ≤ 1000000000000000)), R (.tuple #[.slice none 0 0, .int .i64 1]) h0 := by
      intro hn
      exact err 1 (by rw [if_pos (any_of hi hn)])
    refine ⟨e1.sm hi, hx, hlt, e1.sm hi, times.getD x.toNat 0, e1.int hi, fun h1 => ⟨fun h2 => ⟨(InK_i64 _).2 (by omega), j - 1, by omega, by omega, by omega, fun k hk' => ?_⟩, fun h2 => hany (by omega)⟩, fun h1 => hany (by omega)⟩
    by_cases h3 : k = x.toNat
    · subst h3; exact ⟨h1, h2⟩
    · exact hk k (by omega)
  have hT : ∀ {i : Nat}, i < times.length → 0 ≤ times.getD i 0 ∧ times.getD i 0 ≤ 1000000000000000 := fun {i} hi => hk i (by omega)
  rw [if_neg (by simp [not_any (l := times) fun k hk' => hT hk'])] at hR
  refine ⟨fun j o n c i h => 0 ≤ i ∧ (j : Int) + i = times.length ∧ n = i.toNat ∧ Old h0 h ∧ WF h ∧ OutS h0.next 32 3 h o n c (dRows times shown i.toNat) ∧ (dRows times shown i.toNat).all oneCell = true,
    ⟨times.length, by omega, by omega, rfl, Old.refl _, wf, OutS.start _ _ _ _, rfl⟩, ?_⟩
  rintro j o n c i h ⟨hi0, hj, rfl, old, wfh, out, ones⟩ -
  have E1 := e1.old wf old
  have E4 := e4.old wf old
  have hpn : h.pins = [] := old.pins.trans hp
  refine ⟨fun hlt => ?_, fun hge => ?_⟩
  · have hi : i.toNat < times.length := by omega
    have hi4 : i.toNat < shown.length := by omega
    have h00 : 0 < times.length := by omega
    have hT0 := hT h00
    have hTi := hT hi
    have app : ∀ (h' : Heap) (cs : List Value), h' = hup h 2 [((h.next + 1), some (.cells cs.toArray 32 (0, 0))), ((h.next + 0), some (.cells cs.toArray 32 (0, 0)))] h.pins → cs = dRow times shown i.toNat →
        Prim.den P (.appendTo 3 24 32 1) (.slice o i.toNat c :: cs) h' fun v25 h24 => ∃ (o21 : Option Addr) (n22 : Nat) (n23 : Nat), v25 = (.slice o21 n22 n23) ∧ InK .i64 (i + 1) ∧
          ∃ j', j' < j ∧ (0 ≤ i + 1 ∧ (j' : Int) + (i + 1) = times.length ∧ n22 = (i + 1).toNat ∧ Old h0 h24 ∧ WF h24 ∧ OutS h0.next 32 3 h24 o21 n22 n23 (dRows times shown (i + 1).toNat) ∧ (dRows times shown (i + 1).toNat).all oneCell = true) := by
      intro h' cs hh hcs
      subst hh
      have ol2 : Old h (hup h 2 [((h.next + 1), some (.cells cs.toArray 32 (0, 0))), ((h.next + 0), some (.cells cs.toArray 32 (0, 0)))] h.pins) := hup_old rfl (by simp)
      have hs : (i + 1).toNat = i.toNat + 1 := by omega
      refine appendTo_one (h0 := h0) (out.congr (fun b _ hb => ol2.get b hb) wfh) (old.trans ol2) (Nat.le_refl _) (ol2.wf wfh) (by omega) (by omega) zf32 (by rw [hcs]; rfl) ones (by rw [hcs]; rfl) (by omega) (by omega) hpn ?_ (Nat.le_trans old.next ol2.next)
      intro o' h'' g1 g2 g3 g4 g5 g6
      refine ⟨o', _, _, rfl, (InK_i64 _).2 (by omega), j - 1, by omega, by omega, by omega, by omega, g1, g2, ?_, ?_⟩
      · rw [hs, dRows_succ, ← hcs]; exact g5
      · rw [hs, dRows_succ, ← hcs]; exact g6
    refine ⟨E1.sm hi, hi0, hlt, E1.sm hi, _, E1.int hi, E1.sm hi, by omega, E1.sm hi, _, E1.int h00, (InK_i64 _).2 (by omega), unp_nil hpn, fun h5 => ?_, fun h5 => ?_⟩
    · have hm : (i - 1).toNat = i.toNat - 1 := by omega
      have hTm := hT (i := i.toNat - 1) (by omega)
      refine ⟨E1.sm hi, hi0, hlt, E1.sm hi, E1.ne wfh (Nat.le_refl _) (by simpa using hi), _, E1.int hi, (InK_i64 _).2 (by omega), E1.sm hi, by omega, by omega, E1.sm hi, E1.ne wfh (Nat.le_refl _) (by simpa using hi), times.getD (i.toNat - 1) 0, by rw [hm]; exact E1.int (by omega), (InK_i64 _).2 (by omega), unp_nil hpn, (InK_i64 _).2 (by omega), ?_⟩
      refine ⟨fun j x => -1 ≤ x ∧ x < i ∧ (j : Int) = x + 1 ∧ lastS shown i.toNat = lastS shown (x + 1).toNat, ⟨i.toNat, by omega, by omega, by omega, by congr 1; omega⟩, ?_⟩
      rintro j2 x ⟨hx0, hx1, hj2, hls⟩ -
      refine ⟨fun h6 => ?_, fun h6 => ?_⟩
      · have hxs : x.toNat < shown.length := by omega
        have hxt : x.toNat < times.length := by omega
        have hTx := hT hxt
        have hsx : (x + 1).toNat = x.toNat + 1 := by omega
        refine ⟨E4.sm hi4, h6, by omega, E4.sm hi4, E4.ne wfh (Nat.le_refl _) (by simpa using hi4), _, E4.bool hxs, fun h7 => ?_, fun h7 => ⟨(InK_i64 _).2 (by omega), j2 - 1, by omega, by omega, by omega, by omega, ?_⟩⟩
        · have hl2 : lastS shown i.toNat = some x.toNat := by rw [hls, hsx]; simp only [lastS]; rw [if_pos h7]
          refine ⟨E1.sm hi, hi0, hlt, E1.sm hi, E1.ne wfh (Nat.le_refl _) (by simpa using hi), _, E1.int hi, E1.sm hi, h6, by omega, E1.sm hi, E1.ne wfh (Nat.le_refl _) (by simpa using hi), _, E1.int hxt, (InK_i64 _).2 (by omega), unp_nil hpn, app _ _ rfl ?_⟩
          simp only [dRow, hl2]; rfl
        · rw [hls, hsx]
          simp only [lastS]
          rw [if_neg h7]
          congr 1; omega
      · have hl2 : lastS shown i.toNat = none := by
          rw [hls]
          have : (x + 1).toNat = 0 := by omega
          rw [this]; rfl
        exact app _ _ rfl (by simp only [dRow, hl2]; rfl)
    · have hi00 : i.toNat = 0 := by omega
      refine ⟨(InK_i64 _).2 (by omega), fun j x => x < 0, ⟨0, by omega⟩, ?_⟩
      rintro j2 x hx -
      refine ⟨fun h6 => by omega, fun h6 => app _ _ rfl ?_⟩
      simp only [dRow, hi00, lastS, Nat.zero_sub, Int.sub_self]; rfl
  · have : i.toNat = times.length := by omega
    rw [this] at out ⊢
    exact hR o _ c h old wfh out

theorem u32 : Tryz.prog.underlying 32 = some (.array 3 3) := by kernel_rfl
theorem u3 : Tryz.prog.underlying 3 = some (.int .i64) := by kernel_rfl
theorem s3 : sizeV Tryz.prog 3 = some 1 := by kernel_rfl

theorem dRows_length (times : List Int) (shown : List Bool) : ∀ i, (dRows times shown i).length = i * 3
  | 0 => rfl
  | i + 1 => by rw [dRows_succ, List.length_append, dRows_length times shown i]; simp [dRow]; omega

theorem dRows_at (times : List Int) (shown : List Bool) {n i : Nat} (h : i < n) : ((dRows times shown n).drop (i * 3)).take 3 = dRow times shown i := by
  induction n with
  | zero => omega
  | succ n ih =>
    rw [dRows_succ]
    by_cases hi : i = n
    · subst hi
      have : (dRows times shown i).length = i * 3 := dRows_length times shown i
      rw [List.drop_left' this]; rfl
    · have hl := dRows_length times shown n
      rw [List.drop_append_of_le_length (by omega), List.take_append_of_le_length (by simp; omega)]
      exact ih (by omega)

/-- THE LAW. -/
theorem tapDeltas (w0 : World) (h0 : Heap) (o1 o4 : Option Addr) (c1 c4 : Nat) (times : List Int) (shown : List Bool) (wf : WF h0) (hp : h0.pins = []) (e1 : Elts h0 o1 (times.map I)) (e4 : Elts h0 o4 (shown.map Value.bool)) (hl1 : times.length < 1000000000000000) (hl2 : shown.length < 1000000000000000)
    (R : Value → Heap → Prop) (hR : ∀ h', R (.bool true) h') :
    (top P w0).call 4 #[.slice o1 times.length c1, .slice o4 shown.length c4] h0 R := by
  refine vc4 w0 R h0 o1 times.length c1 o4 shown.length c4 ?_
  refine ⟨(InK_i64 _).2 (by omega), fun h1 => known w0 _ _ ⟨true, rfl, hR _⟩, fun h1 => ?_⟩
  refine c17 w0 h0 o1 o4 c1 c4 times shown wf hp e1 e4 _ fun oa na ca ha olda wfa outa => ⟨oa, na, ca, _, rfl, ?_⟩
  have E1 := e1.old wf olda
  have E4 := e4.old wf olda
  refine c18 w0 ha o1 o4 c1 c4 times shown wfa (olda.pins.trans hp) E1 E4 (by omega) _ fun ob nb cb hb oldb wfb outb => ⟨ob, nb, cb, _, rfl, ?_⟩
  have outa := outa.old wfa oldb
  have hn : na = nb := by have := outa.1; have := outb.1; omega
  refine ⟨fun h2 => absurd (by rw [hn]) h2, fun _ => ⟨fun h2 => absurd rfl h2, fun _ => ?_⟩⟩
  subst hn
  -- only a list of rows has members
  have hrow : ∀ i, i < na → na = times.length ∧ ∃ zs : List Int, zs.length = 3 ∧ (((deltasS times shown).2.drop (i * 3)).take 3) = zs.map (Value.int .i64) := by
    intro i hi
    have hl := outa.1
    unfold deltasS at hl ⊢
    split at hl
    · simp at hl; omega
    · rename_i g1
      split at hl
      · simp at hl; omega
      · rename_i g2
        split at hl
        · simp at hl; omega
        · rename_i g3
          rw [if_neg g1, if_neg g2, if_neg g3]
          simp only at hl ⊢
          rw [dRows_length] at hl
          rw [dRows_at times shown (by omega)]
          exact ⟨by omega, [_, _, _], rfl, rfl⟩
  refine ⟨fun j x => 0 ≤ x ∧ (j : Int) + x = na, ⟨na, by omega, by omega⟩, ?_⟩
  rintro j x ⟨hx, hj⟩ -
  refine ⟨fun h2 => ?_, fun h2 => known w0 _ _ ⟨true, rfl, hR _⟩⟩
  have hi : x.toNat < na := by omega
  obtain ⟨hna, zs, hz1, hz2⟩ := hrow _ hi
  have hmul : (x * 3).toNat = x.toNat * 3 := by omega
  match zs, hz1 with
  | [a, b, c], _ =>
    have r1 := outa.row hi
    have r2 := outb.row hi
    rw [hz2] at r1 r2
    refine ⟨outa.some hi, hx, h2, outa.some hi, a, b, c, by rw [hmul]; exact r1, outb.some hi, hx, h2, outb.some hi, a, b, c, by rw [hmul]; exact r2, false, ?_, fun h3 => absurd h3 (by simp), fun _ => ⟨(InK_i64 _).2 (by omega), j - 1, by omega, by omega, by omega⟩⟩
    have := (binW_arr (P := Tryz.prog) (x := .tmp 48) (y := .tmp 52) u32 u3 s3 (xs := [a, b, c]) (ys := [a, b, c]) rfl rfl).2
    simpa using this

end Go.Proofs.YtkfoibidnkfndaaGreatDoor
