/- Deltas: what both functions come to. -/
import Derived.Test.YtkfoibidnkfndaaGreatDoorTpV1
set_option linter.unusedSimpArgs false
set_option linter.unusedVariables false
namespace Go.Proofs.YtkfoibidnkfndaaGreatDoor
open Go.Abs

def isT (t : Int) : Bool := decide (0 ≤ t) && decide (t ≤ 1000000000000000)
def I (x : Int) : Value := .int .i64 x

/-- Where one has last been shown, ahead of a place. -/
def lastS (shown : List Bool) : Nat → Option Nat
  | 0 => none
  | i + 1 => if shown.getD i false then some i else lastS shown i

def dRow (times : List Int) (shown : List Bool) (i : Nat) : List Value :=
  [I (times.getD i 0 - times.getD 0 0), I (times.getD i 0 - times.getD (i - 1) 0), I (match lastS shown i with | some k => times.getD i 0 - times.getD k 0 | none => 0)]
def dRows (times : List Int) (shown : List Bool) (i : Nat) : List Value := (List.range i).flatMap (dRow times shown)
theorem dRows_succ (times : List Int) (shown : List Bool) (i : Nat) : dRows times shown (i + 1) = dRows times shown i ++ dRow times shown i := by
  simp [dRows, List.range_succ]

/-- The answer. -/
def deltasS (times : List Int) (shown : List Bool) : Int × List Value :=
  if ¬ times.length = shown.length then (10, []) else if times.length > 200 then (3, []) else if times.any (fun t => !isT t) then (1, []) else (0, dRows times shown times.length)

theorem isT_of {l : List Int} (h : l.any (fun t => !isT t) = false) {i : Nat} (hi : i < l.length) : 0 ≤ l.getD i 0 ∧ l.getD i 0 ≤ 1000000000000000 := by
  have h1 := List.any_eq_false.1 h (l.getD i 0) (by simp [List.getD_eq_getElem?_getD, hi])
  generalize l.getD i 0 = z at h1 ⊢
  simp [isT] at h1
  omega

theorem any_of {l : List Int} {i : Nat} (hi : i < l.length) (h : ¬ (0 ≤ l.getD i 0 ∧ l.getD i 0 ≤ 1000000000000000)) : l.any (fun t => !isT t) = true := by
  refine List.any_eq_true.2 ⟨l.getD i 0, by simp [List.getD_eq_getElem?_getD, hi], ?_⟩
  generalize l.getD i 0 = z at h ⊢
  simp [isT]
  omega

theorem not_any {l : List Int} (h : ∀ k, k < l.length → 0 ≤ l.getD k 0 ∧ l.getD k 0 ≤ 1000000000000000) : l.any (fun t => !isT t) = false := by
  refine List.any_eq_false.2 fun x hx => ?_
  obtain ⟨i, hi, rfl⟩ := List.getElem_of_mem hx
  have := h i hi
  simp [List.getD_eq_getElem?_getD, hi] at this
  simp [isT]
  omega

theorem c55_56 (w0 : World) (h0 : Heap) (o : Option Addr) (c : Nat) (l : List Int) (e : Elts h0 o (l.map I)) (hl : l.length < 1000000000000) (R : Value → Heap → Prop) (hR : R (.bool (l.any fun t => !isT t)) h0) :
    (top P w0).call 55 #[.slice o l.length c, .func (.func 56) #[] #[]] h0 R := by
  refine vc55_56 w0 R h0 o l.length c ?_
  refine ⟨fun j x => 0 ≤ x ∧ (j : Int) + x = l.length ∧ ∀ k, k < x.toNat → 0 ≤ l.getD k 0 ∧ l.getD k 0 ≤ 1000000000000000, ⟨l.length, by simp⟩, ?_⟩
  rintro j x ⟨hx, hj, hk⟩ -
  refine ⟨fun hlt => ?_, fun hge => ?_⟩
  · have hi : x.toNat < l.length := by omega
    have hany : ∀ (hn : ¬ (0 ≤ l.getD x.toNat 0 ∧ l.getD x.toNat 0 ≤ 1000000000000000)), R (.bool (cmpB .geq x 0)) h0 := by
      intro hn
      have : cmpB .geq x 0 = true := by simp [cmpB, hx]
      rw [this, ← any_of hi hn]; exact hR
    refine ⟨e.sm hi, hx, hlt, e.sm hi, l.getD x.toNat 0, e.int hi, fun h1 => ⟨fun h2 => ⟨(InK_i64 _).2 (by omega), j - 1, by omega, by omega, by omega, fun k hk' => ?_⟩, fun h2 => hany (by omega)⟩, fun h1 => hany (by omega)⟩
    by_cases h3 : k = x.toNat
    · subst h3; exact ⟨h1, h2⟩
    · exact hk k (by omega)
  · rw [← not_any (l := l) fun k hk' => hk k (by omega)]; exact hR

theorem zf32 : zeroFits P 32 3 = true := by kernel_rfl

def last (shown : List Bool) (i : Nat) : Int := match lastS shown i with | some k => (k : Int) | none => -1

theorem lastS_lt {shown : List Bool} : ∀ {i k : Nat}, lastS shown i = some k → k < i
  | 0, k, h => by simp [lastS] at h
  | i + 1, k, h => by
    simp only [lastS] at h
    split at h
    · cases h; omega
    · have := lastS_lt h; omega

theorem last_succ (shown : List Bool) (i : Nat) : last shown (i + 1) = if shown.getD i false then (i : Int) else last shown i := by
  unfold last
  simp only [lastS]
  by_cases h : shown.getD i false = true
  · rw [if_pos h, if_pos h]
  · rw [if_neg h, if_neg h]

theorem dRow_one (times : List Int) (shown : List Bool) (i : Nat) : (dRow times shown i).all oneCell = true := rfl

theorem c17 (w0 : World) (h0 : Heap) (o1 o4 : Option Addr) (c1 c4 : Nat) (times : List Int) (shown : List Bool) (wf : WF h0) (hp : h0.pins = []) (e1 : Elts h0 o1 (times.map I)) (e4 : Elts h0 o4 (shown.map Value.bool))
    (R : Value → Heap → Prop) (hR : ∀ o n c h', Old h0 h' → WF h' → OutS h0.next 32 3 h' o n c (deltasS times shown).2 → R (.tuple #[.slice o n c, .int .i64 (deltasS times shown).1]) h') :
    (top P w0).call 17 #[.slice o1 times.length c1, .slice o4 shown.length c4] h0 R := by
  refine vc17 w0 R h0 o1 times.length c1 o4 shown.length c4 ?_
  have err : ∀ z, (deltasS times shown) = (z, []) → R (.tuple #[.slice none 0 0, .int .i64 z]) h0 := by
    intro z hz
    have := hR none 0 0 h0 (Old.refl _) wf (by rw [hz]; exact OutS.start _ _ _ _)
    rw [hz] at this; exact this
  unfold deltasS at hR err
  refine ⟨fun h1 => err 10 (by rw [if_pos (by omega)]), fun h1 => ⟨fun h2 => err 3 (by rw [if_neg (by omega), if_pos (by omega)]), fun h2 => ?_⟩⟩
  have h1 : times.length = shown.length := by omega
  have h2 : times.length ≤ 200 := by omega
  refine c55_56 w0 h0 o1 c1 times e1 (by omega) _ ⟨_, rfl, fun h3 => err 1 (by rw [if_neg (by omega), if_neg (by omega), if_pos h3]), fun h3 => ?_⟩
  simp only [Bool.not_eq_true] at h3
  rw [if_neg (by omega), if_neg (by omega), if_neg (by simp [h3])] at hR
  have hT := fun {i : Nat} (hi : i < times.length) => isT_of h3 hi
  refine ⟨fun j o n c x i h => 0 ≤ i ∧ (j : Int) + i = times.length ∧ x = last shown i.toNat ∧ n = i.toNat ∧ Old h0 h ∧ WF h ∧ OutS h0.next 32 3 h o n c (dRows times shown i.toNat) ∧ (dRows times shown i.toNat).all oneCell = true,
    ⟨times.length, by omega, by omega, rfl, rfl, Old.refl _, wf, OutS.start _ _ _ _, rfl⟩, ?_⟩
  rintro j o n c x i h ⟨hi0, hj, rfl, rfl, old, wfh, out, ones⟩ -
  have E1 := e1.old wf old
  have E4 := e4.old wf old
  have hpn : h.pins = [] := old.pins.trans hp
  refine ⟨fun hlt => ?_, fun hge => ?_⟩
  · have hi : i.toNat < times.length := by omega
    have hi4 : i.toNat < shown.length := by omega
    have h00 : 0 < times.length := by omega
    have hT0 := hT h00
    have hTi := hT hi
    have hm : (max 0 (i - 1)).toNat = i.toNat - 1 := by omega
    have hTm := hT (i := i.toNat - 1) (by omega)
    -- what is appended, and how it goes on
    have app : ∀ (h' : Heap) (cs : List Value) (x' : Int), h' = hup h 2 [((h.next + 1), some (.cells cs.toArray 32 (0, 0))), ((h.next + 0), some (.cells cs.toArray 32 (0, 0)))] h.pins → cs = dRow times shown i.toNat → x' = last shown (i.toNat + 1) →
        Prim.den P (.appendTo 3 24 32 1) (.slice o i.toNat c :: cs) h' fun v25 h24 => ∃ (o21 : Option Addr) (n22 : Nat) (n23 : Nat), v25 = (.slice o21 n22 n23) ∧ InK .i64 (i + 1) ∧
          ∃ j', j' < j ∧ (0 ≤ i + 1 ∧ (j' : Int) + (i + 1) = times.length ∧ x' = last shown (i + 1).toNat ∧ n22 = (i + 1).toNat ∧ Old h0 h24 ∧ WF h24 ∧ OutS h0.next 32 3 h24 o21 n22 n23 (dRows times shown (i + 1).toNat) ∧ (dRows times shown (i + 1).toNat).all oneCell = true) := by
      intro h' cs x' hh hcs hx
      subst hh
      have ol2 : Old h (hup h 2 [((h.next + 1), some (.cells cs.toArray 32 (0, 0))), ((h.next + 0), some (.cells cs.toArray 32 (0, 0)))] h.pins) := hup_old rfl (by simp)
      have hs : (i + 1).toNat = i.toNat + 1 := by omega
      refine appendTo_one (h0 := h0) (out.congr (fun b _ hb => ol2.get b hb) wfh) (old.trans ol2) (Nat.le_refl _) (ol2.wf wfh) (by omega) (by omega) zf32 (by rw [hcs]; rfl) ones (by rw [hcs]; rfl) (by omega) (by omega) hpn ?_ (Nat.le_trans old.next ol2.next)
      intro o' h'' g1 g2 g3 g4 g5 g6
      refine ⟨o', _, _, rfl, (InK_i64 _).2 (by omega), j - 1, by omega, by omega, by omega, ?_, by omega, g1, g2, ?_, ?_⟩
      · rw [hx, hs]
      · rw [hs, dRows_succ, ← hcs]; exact g5
      · rw [hs, dRows_succ, ← hcs]; exact g6
    refine ⟨E1.sm hi, hi0, hlt, E1.sm hi, _, E1.int hi, E1.sm hi, by omega, E1.sm hi, _, E1.int h00, (InK_i64 _).2 (by omega), (InK_i64 _).2 (by omega), E1.sm hi, by omega, by omega, E1.sm hi, times.getD (i.toNat - 1) 0, by rw [hm]; exact E1.int (by omega), (InK_i64 _).2 (by omega), unp_nil hpn, fun h5 => ?_, fun h5 => ?_⟩
    · cases hls : lastS shown i.toNat with
      | none => simp [last, hls] at h5
      | some k =>
        have hlast : last shown i.toNat = k := by simp [last, hls]
        have hk := lastS_lt hls
        have hTk := hT (i := k) (by omega)
        have hrow : dRow times shown i.toNat = [I (times.getD i.toNat 0 - times.getD 0 0), I (times.getD i.toNat 0 - times.getD (i.toNat - 1) 0), I (times.getD i.toNat 0 - times.getD k 0)] := by simp [dRow, hls]
        rw [hlast]
        refine ⟨E1.sm hi, by omega, by omega, E1.sm hi, E1.ne wfh (Nat.le_refl _) (by simpa using hi), times.getD k 0, ?_, (InK_i64 _).2 (by omega), unp_nil hpn, E4.sm hi4, hi0, by omega, E4.sm hi4, E4.ne wfh (Nat.le_refl _) (by simpa using hi4), _, E4.bool hi4, fun h6 => ?_, fun h6 => ?_⟩
        · have : (k : Int).toNat = k := by omega
          rw [this]; exact E1.int (by omega)
        · exact app _ _ _ rfl hrow.symm (by rw [last_succ, if_pos h6]; omega)
        · exact app _ _ _ rfl hrow.symm (by rw [last_succ, if_neg h6, hlast])
    · cases hls : lastS shown i.toNat with
      | some k => simp [last, hls] at h5
      | none =>
        have hlast : last shown i.toNat = -1 := by simp [last, hls]
        have hrow : dRow times shown i.toNat = [I (times.getD i.toNat 0 - times.getD 0 0), I (times.getD i.toNat 0 - times.getD (i.toNat - 1) 0), I 0] := by simp [dRow, hls]
        refine ⟨E4.sm hi4, hi0, by omega, E4.sm hi4, E4.ne wfh (Nat.le_refl _) (by simpa using hi4), _, E4.bool hi4, fun h6 => ?_, fun h6 => ?_⟩
        · exact app _ _ _ rfl hrow.symm (by rw [last_succ, if_pos h6]; omega)
        · exact app _ _ _ rfl hrow.symm (by rw [last_succ, if_neg h6])
  · have : i.toNat = times.length := by omega
    rw [this] at out ⊢
    exact hR o _ c h old wfh out

end Go.Proofs.YtkfoibidnkfndaaGreatDoor
