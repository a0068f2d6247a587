/- Smooth: what both functions come to; equal lists. -/
import Derived.Test.YtkfoibidnkfndaaGreatDoorTpD7
import Derived.Test.YtkfoibidnkfndaaGreatDoorAbS19
set_option linter.unusedVariables false
set_option linter.unusedSimpArgs false
namespace Go.Proofs.YtkfoibidnkfndaaGreatDoor
open Go.Abs

/-- Quotients, the fraction cut off, and rounded down. -/
theorem floor_facts (a b : Int) (hb : 0 < b) : (Int.tdiv a b) * b + Int.tmod a b = a ∧ (Int.tmod a b < 0 → a / b = Int.tdiv a b - 1) ∧ (0 ≤ Int.tmod a b → a / b = Int.tdiv a b) ∧
    Int.tmod a b < b ∧ - b < Int.tmod a b ∧ (0 ≤ a → 0 ≤ Int.tdiv a b ∧ Int.tdiv a b ≤ a) ∧ (a < 0 → a ≤ Int.tdiv a b ∧ Int.tdiv a b ≤ 0) ∧ (0 < Int.tmod a b → 0 ≤ a) := by
  have h1 : (Int.tdiv a b) * b + Int.tmod a b = a := by rw [Int.mul_comm]; exact Int.mul_tdiv_add_tmod a b
  have pos : ∀ z : Int, 0 ≤ z → 0 ≤ Int.tdiv z b ∧ Int.tdiv z b ≤ z := by
    intro z hz
    rw [Int.tdiv_eq_ediv_of_nonneg hz]
    exact ⟨Int.ediv_nonneg hz (by omega), Int.ediv_le_self b hz⟩
  have h6 := pos a
  have h7 : a < 0 → a ≤ Int.tdiv a b ∧ Int.tdiv a b ≤ 0 := by
    intro ha
    have := pos (-a) (by omega)
    rw [Int.neg_tdiv] at this
    omega
  have hm : (0 ≤ a → 0 ≤ Int.tmod a b ∧ Int.tmod a b < b) ∧ (a < 0 → Int.tmod a b ≤ 0 ∧ - b < Int.tmod a b) := by
    refine ⟨fun ha => ⟨Int.tmod_nonneg b ha, Int.tmod_lt_of_pos a hb⟩, fun ha => ?_⟩
    have e : Int.tmod a b = - Int.tmod (-a) b := by rw [Int.neg_tmod]; omega
    have := Int.tmod_nonneg b (a := -a) (by omega)
    have := Int.tmod_lt_of_pos (-a) hb
    omega
  generalize Int.tdiv a b = q at *
  generalize Int.tmod a b = r at *
  refine ⟨h1, fun hr => ?_, fun hr => ?_, by omega, by omega, h6, h7, by omega⟩
  · refine (Int.ediv_emod_unique hb (r := r + b)).2 ⟨?_, by omega, by omega⟩ |>.1
    rw [Int.mul_sub, Int.mul_comm b q]; omega
  · refine (Int.ediv_emod_unique hb (r := r)).2 ⟨?_, by omega, by omega⟩ |>.1
    rw [Int.mul_comm b q]; omega

theorem rem_eq (a b : Int) : binI .rem .i64 a b = Int.tmod a b := rfl

/-- The sum of so many from a place on; of so many from a place back. -/
def psum (l : List Int) (lo : Nat) : Nat → Int
  | 0 => 0
  | k + 1 => psum l lo k + l.getD (lo + k) 0
def bsum (l : List Int) (i : Nat) : Nat → Int
  | 0 => 0
  | k + 1 => bsum l i k + l.getD (i - k) 0

theorem psum_first (l : List Int) (lo : Nat) : ∀ k, psum l lo (k + 1) = l.getD lo 0 + psum l (lo + 1) k
  | 0 => by simp [psum]
  | k + 1 => by
    have ih := psum_first l lo k
    have e1 : psum l lo (k + 1 + 1) = psum l lo (k + 1) + l.getD (lo + (k + 1)) 0 := rfl
    have e2 : psum l (lo + 1) (k + 1) = psum l (lo + 1) k + l.getD (lo + 1 + k) 0 := rfl
    rw [e1, e2, ih, show lo + (k + 1) = lo + 1 + k by omega]
    omega

theorem psum_bsum (l : List Int) : ∀ (k lo : Nat), psum l lo k = bsum l (lo + k - 1) k
  | 0, lo => rfl
  | k + 1, lo => by
    rw [psum_first, psum_bsum l k (lo + 1)]
    show _ = bsum l (lo + (k + 1) - 1) k + l.getD (lo + (k + 1) - 1 - k) 0
    rw [show lo + (k + 1) - 1 = lo + 1 + k - 1 by omega, show lo + 1 + k - 1 - k = lo by omega]
    omega

theorem psum_row {l : List Int} {lo m : Nat} : ∀ {k : Nat}, k ≤ m → psum ((l.drop lo).take m) 0 k = psum l lo k
  | 0, _ => rfl
  | k + 1, hk => by
    simp only [psum]
    rw [psum_row (k := k) (by omega)]
    congr 1
    simp only [List.getD_eq_getElem?_getD, Nat.zero_add]
    rw [List.getElem?_take_of_lt (by omega), List.getElem?_drop]

theorem psum_bd {l : List Int} {M : Int} (hM : 0 ≤ M) (h : ∀ i, i < l.length → - M ≤ l.getD i 0 ∧ l.getD i 0 ≤ M) (lo : Nat) : ∀ k, lo + k ≤ l.length → - (M * k) ≤ psum l lo k ∧ psum l lo k ≤ M * k
  | 0, _ => by simp [psum]
  | k + 1, hk => by
    have ih := psum_bd hM h lo k (by omega)
    have h1 := h (lo + k) (by omega)
    simp only [psum]
    have e : M * ((k + 1 : Nat) : Int) = M * k + M := by rw [Int.natCast_add, Int.mul_add]; simp
    rw [e]; omega

theorem bsum_bd {l : List Int} {M : Int} (hM : 0 ≤ M) (h : ∀ i, i < l.length → - M ≤ l.getD i 0 ∧ l.getD i 0 ≤ M) {i : Nat} (hi : i < l.length) : ∀ k, - (M * k) ≤ bsum l i k ∧ bsum l i k ≤ M * k
  | 0 => by simp [bsum]
  | k + 1 => by
    have ih := bsum_bd hM h hi k
    have h1 := h (i - k) (by omega)
    simp only [bsum]
    have e : M * ((k + 1 : Nat) : Int) = M * k + M := by rw [Int.natCast_add, Int.mul_add]; simp
    rw [e]; omega

def badNum (n : Int) : Bool := decide (n > 4503599627370496) || decide (n < -4503599627370496)

theorem num_of {l : List Int} (h : l.any badNum = false) {i : Nat} (hi : i < l.length) : -4503599627370496 ≤ l.getD i 0 ∧ l.getD i 0 ≤ 4503599627370496 := by
  have h1 := List.any_eq_false.1 h (l.getD i 0) (getD_mem hi)
  generalize l.getD i 0 = z at h1 ⊢
  simp [badNum] at h1
  omega
theorem badNum_of {l : List Int} {i : Nat} (hi : i < l.length) (h : ¬ (-4503599627370496 ≤ l.getD i 0 ∧ l.getD i 0 ≤ 4503599627370496)) : l.any badNum = true := by
  refine List.any_eq_true.2 ⟨l.getD i 0, getD_mem hi, ?_⟩
  generalize l.getD i 0 = z at h ⊢
  simp [badNum]
  omega
theorem not_badNum {l : List Int} (h : ∀ k, k < l.length → -4503599627370496 ≤ l.getD k 0 ∧ l.getD k 0 ≤ 4503599627370496) : l.any badNum = false := by
  refine List.any_eq_false.2 fun x hx => ?_
  obtain ⟨i, hi, rfl⟩ := mem_getD hx
  have := h i hi
  generalize l.getD i 0 = z at this ⊢
  simp [badNum]
  omega

/-- How many are averaged at a place. -/
def win (n : Int) (i : Nat) : Nat := min n.toNat (i + 1)
def smoothE (l : List Int) (n : Int) (i : Nat) : Int := bsum l i (win n i) / (win n i : Int)
def smoothL (l : List Int) (n : Int) (k : Nat) : List Int := (List.range k).map (smoothE l n)
theorem smoothL_succ (l : List Int) (n : Int) (k : Nat) : smoothL l n (k + 1) = smoothL l n k ++ [smoothE l n k] := by simp [smoothL, List.range_succ]

/-- The answer. -/
def smoothS (l : List Int) (n : Int) : Int × List Int :=
  if l.length > 200 then (3, []) else if n < 1 ∨ l.any badNum = true then (1, []) else (0, smoothL l n l.length)

theorem c55_73 (w0 : World) (h0 : Heap) (o : Option Addr) (c : Nat) (l : List Int) (e : Elts h0 o (l.map I)) (hl : l.length < 1000000000000) (R : Value → Heap → Prop) (hR : R (.bool (l.any badNum)) h0) :
    (top P w0).call 55 #[.slice o l.length c, .func (.func 73) #[] #[]] h0 R := by
  refine vc55_73 w0 R h0 o l.length c ?_
  refine ⟨fun j x => 0 ≤ x ∧ (j : Int) + x = l.length ∧ ∀ k, k < x.toNat → -4503599627370496 ≤ l.getD k 0 ∧ l.getD k 0 ≤ 4503599627370496, ⟨l.length, by simp⟩, ?_⟩
  rintro j x ⟨hx, hj, hk⟩ -
  refine ⟨fun hlt => ?_, fun hge => ?_⟩
  · have hi : x.toNat < l.length := by omega
    have hany : ∀ (hn : ¬ (-4503599627370496 ≤ l.getD x.toNat 0 ∧ l.getD x.toNat 0 ≤ 4503599627370496)), R (.bool (cmpB .geq x 0)) h0 := by
      intro hn
      have : cmpB .geq x 0 = true := by simp [cmpB, hx]
      rw [this, ← badNum_of hi hn]; exact hR
    refine ⟨e.sm hi, hx, hlt, e.sm hi, l.getD x.toNat 0, e.int hi, fun h1 => hany (by omega), fun h1 => ⟨fun h2 => hany (by omega), fun h2 => ⟨(InK_i64 _).2 (by omega), j - 1, by omega, by omega, by omega, fun k hk' => ?_⟩⟩⟩
    by_cases h3 : k = x.toNat
    · subst h3; omega
    · exact hk k (by omega)
  · rw [← not_badNum (l := l) fun k hk' => hk k (by omega)]; exact hR

/-- The sum of a row. -/
theorem c71_1 (w0 : World) (h0 : Heap) (o : Option Addr) (n c : Nat) (l : List Int) (e : Elts h0 o (l.map I)) (hn : n = l.length) (hl : l.length ≤ 200) (hM : ∀ i, i < l.length → -4503599627370496 ≤ l.getD i 0 ∧ l.getD i 0 ≤ 4503599627370496)
    (R : Value → Heap → Prop) (hR : R (.int .i64 (psum l 0 l.length)) h0) :
    (top P w0).call 71 #[.slice o n c, .int .i64 1] h0 R := by
  subst hn
  refine vc71_1 w0 R h0 o l.length c ⟨fun h1 => ?_, fun h1 => ?_⟩
  · have : l.length = 0 := by omega
    rw [this] at hR; exact hR
  refine ⟨fun j s k => 0 ≤ k ∧ (j : Int) + k = l.length ∧ s = psum l 0 k.toNat, ⟨l.length, by omega, by omega, rfl⟩, ?_⟩
  rintro j s k ⟨hk0, hj, rfl⟩ -
  refine ⟨fun hlt => ?_, fun hge => ?_⟩
  · have hk : k.toNat < l.length := by omega
    have hks : (k + 1).toNat = k.toNat + 1 := by omega
    have h2 := psum_bd (by omega) hM 0 k.toNat (by omega)
    have h3 := hM _ hk
    refine ⟨e.sm hk, hk0, hlt, e.sm hk, _, e.int hk, (InK_i64 _).2 (by omega), (InK_i64 _).2 (by omega), j - 1, by omega, by omega, by omega, ?_⟩
    rw [hks]; simp [psum]
  · have : k.toNat = l.length := by omega
    rw [this]; exact hR

theorem c74 (w0 : World) (h0 : Heap) (a b : Int) (hb : 0 < b) (hb' : b ≤ 200) (ha : -1000000000000000000 ≤ a) (ha' : a ≤ 1000000000000000000) (R : Value → Heap → Prop) (hR : R (.int .i64 (a / b)) h0) :
    (top P w0).call 74 #[.int .i64 a, .int .i64 b] h0 R := by
  obtain ⟨f1, f2, f3, f4, f5, f6, f7, f8⟩ := floor_facts a b hb
  refine vc74 w0 R h0 a b ?_
  unfold vc74P
  generalize Int.tdiv a b = q at *
  generalize Int.tmod a b = r at *
  generalize q * b = p at *
  refine ⟨by omega, (InK_i64 _).2 (by omega), (InK_i64 _).2 (by omega), fun g => ⟨(InK_i64 _).2 (by omega), ?_⟩, fun g => ?_⟩
  · rw [f2 (by omega)] at hR; exact hR
  · rw [f3 (by omega)] at hR; exact hR

theorem sz3 : sizeV P 3 = some 1 := by kernel_rfl
theorem onesI (l : List Int) : (l.map I).all oneCell = true := by simp [I, oneCell]

theorem c26 (w0 : World) (h0 : Heap) (o1 : Option Addr) (c1 : Nat) (l : List Int) (n : Int) (wf : WF h0) (hp : h0.pins = []) (e1 : Elts h0 o1 (l.map I)) (hsp : ∀ a, o1 = some a → a.spot = none) (hc : l.length ≤ c1)
    (R : Value → Heap → Prop) (hR : ∀ o k c h', Old h0 h' → WF h' → OutS h0.next 3 1 h' o k c ((smoothS l n).2.map I) → R (.tuple #[.slice o k c, .int .i64 (smoothS l n).1]) h') :
    (top P w0).call 26 #[.slice o1 l.length c1, .int .i64 n] h0 R := by
  refine vc26 w0 R h0 o1 l.length c1 n ?_
  have err : ∀ z, (smoothS l n) = (z, []) → R (.tuple #[.slice none 0 0, .int .i64 z]) h0 := by
    intro z hz
    have := hR none 0 0 h0 (Old.refl _) wf (by rw [hz]; exact OutS.start _ _ _ _)
    rw [hz] at this; exact this
  unfold smoothS at hR err
  refine ⟨fun h1 => err 3 (by rw [if_pos (by omega)]), fun h1 => ⟨fun h2 => err 1 (by rw [if_neg (by omega), if_pos (.inl h2)]), fun h2 => ?_⟩⟩
  refine c55_73 w0 h0 o1 c1 l e1 (by omega) _ ⟨_, rfl, fun h3 => err 1 (by rw [if_neg (by omega), if_pos (.inr h3)]), fun h3 => ?_⟩
  rw [if_neg (by omega), if_neg (by simp [h2, h3])] at hR
  simp only [Bool.not_eq_true] at h3
  have hM := fun i (hi : i < l.length) => num_of h3 hi
  refine ⟨fun j o k c i h => 0 ≤ i ∧ (j : Int) + i = l.length ∧ k = i.toNat ∧ Old h0 h ∧ WF h ∧ OutS h0.next 3 1 h o k c ((smoothL l n i.toNat).map I), ⟨l.length, by omega, by omega, rfl, Old.refl _, wf, OutS.start _ _ _ _⟩, ?_⟩
  rintro j o k c i h ⟨hi0, hj, rfl, old, wfh, out⟩ -
  have E1 := e1.old wf old
  have hpn : h.pins = [] := old.pins.trans hp
  refine ⟨fun hlt => ?_, fun hge => ?_⟩
  · have hi : i.toNat < l.length := by omega
    have hs : (i + 1).toNat = i.toNat + 1 := by omega
    -- the window
    have hw1 : 0 < win n i.toNat := by unfold win; omega
    have hw2 : win n i.toNat ≤ i.toNat + 1 := by unfold win; omega
    have hlo : max 0 ((i + 1) - (min n (l.length : Int))) = ((i.toNat + 1 - win n i.toNat : Nat) : Int) := by unfold win; omega
    have hhi : i + 1 = ((i.toNat + 1 : Nat) : Int) := by omega
    obtain ⟨o', hcut, E'⟩ := cut_row (P := P) (t := 27) (e := 3) Tryz.underlying27 sz3 hsp E1 (n := l.length) (c := c1) (lo := i.toNat + 1 - win n i.toNat) (hi := i.toNat + 1) (by simp) hc (by omega) (by omega)
    rw [← List.map_drop, ← List.map_take] at E'
    generalize hw : win n i.toNat = w at *
    have hww : i.toNat + 1 - (i.toNat + 1 - w) = w := by omega
    rw [hww] at hcut E'
    have hrl : ((l.drop (i.toNat + 1 - w)).take w).length = w := by simp; omega
    have hrow : ∀ q, q < ((l.drop (i.toNat + 1 - w)).take w).length → -4503599627370496 ≤ ((l.drop (i.toNat + 1 - w)).take w).getD q 0 ∧ ((l.drop (i.toNat + 1 - w)).take w).getD q 0 ≤ 4503599627370496 := by
      intro q hq
      have h5 := hM (i.toNat + 1 - w + q) (by omega)
      have e : ((l.drop (i.toNat + 1 - w)).take w).getD q 0 = l.getD (i.toNat + 1 - w + q) 0 := by
        simp only [List.getD_eq_getElem?_getD]
        rw [List.getElem?_take_of_lt (by omega), List.getElem?_drop]
      rw [e]; exact h5
    have hsum : psum ((l.drop (i.toNat + 1 - w)).take w) 0 ((l.drop (i.toNat + 1 - w)).take w).length = bsum l i.toNat w := by
      rw [hrl, psum_row (Nat.le_refl _), psum_bsum, show i.toNat + 1 - w + w - 1 = i.toNat by omega]
    refine ⟨(InK_i64 _).2 (by omega), (InK_i64 _).2 (by omega), (InK_i64 _).2 (by omega), o', w, c1 - (i.toNat + 1 - w), ?_, ?_⟩
    · rw [hlo]
      rw [show i + 1 = ((i.toNat + 1 : Nat) : Int) from hhi]
      exact hcut
    refine c71_1 w0 h o' w _ _ E' hrl.symm (by omega) hrow _ ⟨_, rfl, ?_⟩
    rw [hsum]
    have hb := bsum_bd (by omega) hM hi w
    obtain ⟨f1, f2, f3, f4, f5, f6, f7, f8⟩ := floor_facts (bsum l i.toNat w) (w : Int) (by omega)
    have hE : smoothE l n i.toNat = bsum l i.toNat w / (w : Int) := by unfold smoothE; rw [hw]
    rw [rem_eq]
    generalize bsum l i.toNat w = a at *
    have inq : InK .i64 (Int.tdiv a w) := (InK_i64 _).2 (by omega)
    have app : ∀ v, v = smoothE l n i.toNat → Prim.den P (.appendTo 1 8 3 1) [(.slice o i.toNat c), (.int .i64 v)] (hup h 1 [((h.next + 0), some (.cells #[(.int .i64 v)] 3 (0, 0)))] h.pins) fun v22 h21 =>
        ∃ (o18 : Option Addr) (n19 : Nat) (n20 : Nat), v22 = (.slice o18 n19 n20) ∧ InK .i64 (i + 1) ∧
          ∃ j', j' < j ∧ (0 ≤ i + 1 ∧ (j' : Int) + (i + 1) = l.length ∧ n19 = (i + 1).toNat ∧ Old h0 h21 ∧ WF h21 ∧ OutS h0.next 3 1 h21 o18 n19 n20 ((smoothL l n (i + 1).toNat).map I)) := by
      intro v hv
      have ol2 : Old h (hup h 1 [((h.next + 0), some (.cells #[(.int .i64 v)] 3 (0, 0)))] h.pins) := hup_old rfl (by simp)
      refine appendTo_one (h0 := h0) (cs := [I v]) (out.congr (fun b _ hb => ol2.get b hb) wfh) (old.trans ol2) (Nat.le_refl _) (ol2.wf wfh) (by omega) (by omega) zf3 rfl (onesI _) rfl (by omega) (by omega) hpn ?_ (Nat.le_trans old.next ol2.next)
      intro o' h'' g1 g2 g3 g4 g5 g6
      refine ⟨o', _, _, rfl, (InK_i64 _).2 (by omega), j - 1, by omega, by omega, by omega, by omega, g1, g2, ?_⟩
      rw [hs, smoothL_succ, List.map_append, ← hv]; exact g5
    refine ⟨by omega, inq, by omega, fun g => ⟨(InK_i64 _).2 (by omega), app _ (by rw [hE, f2 g])⟩, fun g => app _ (by rw [hE, f3 (by omega)])⟩
  · have : i.toNat = l.length := by omega
    rw [this] at out ⊢
    exact hR o _ c h old wfh out

theorem c27 (w0 : World) (h0 : Heap) (o1 : Option Addr) (c1 : Nat) (l : List Int) (n : Int) (wf : WF h0) (hp : h0.pins = []) (e1 : Elts h0 o1 (l.map I))
    (R : Value → Heap → Prop) (hR : ∀ o k c h', Old h0 h' → WF h' → OutS h0.next 3 1 h' o k c ((smoothS l n).2.map I) → R (.tuple #[.slice o k c, .int .i64 (smoothS l n).1]) h') :
    (top P w0).call 27 #[.slice o1 l.length c1, .int .i64 n] h0 R := by
  refine vc27 w0 R h0 o1 l.length c1 n ?_
  have err : ∀ z, (smoothS l n) = (z, []) → R (.tuple #[.slice none 0 0, .int .i64 z]) h0 := by
    intro z hz
    have := hR none 0 0 h0 (Old.refl _) wf (by rw [hz]; exact OutS.start _ _ _ _)
    rw [hz] at this; exact this
  unfold smoothS at hR err
  refine ⟨fun h1 => err 3 (by rw [if_pos (by omega)]), fun h1 => ⟨fun h2 => err 1 (by rw [if_neg (by omega), if_pos (.inl h2)]), fun h2 => ?_⟩⟩
  refine ⟨fun j x => 0 ≤ x ∧ (j : Int) + x = l.length ∧ ∀ k, k < x.toNat → -4503599627370496 ≤ l.getD k 0 ∧ l.getD k 0 ≤ 4503599627370496, ⟨l.length, by simp⟩, ?_⟩
  rintro j x ⟨hx, hj, hk⟩ -
  refine ⟨fun hlt => ?_, fun hge => ?_⟩
  · have hi : x.toNat < l.length := by omega
    have hany : ¬ (-4503599627370496 ≤ l.getD x.toNat 0 ∧ l.getD x.toNat 0 ≤ 4503599627370496) → R (.tuple #[.slice none 0 0, .int .i64 1]) h0 := fun hn => err 1 (by rw [if_neg (by omega), if_pos (.inr (badNum_of hi hn))])
    refine ⟨e1.sm hi, hx, hlt, e1.sm hi, _, e1.int hi, fun g1 => hany (by omega), fun g1 => ⟨e1.sm hi, hx, hlt, e1.sm hi, _, e1.int hi, fun g2 => hany (by omega), fun g2 => ⟨(InK_i64 _).2 (by omega), j - 1, by omega, by omega, by omega, fun k hk' => ?_⟩⟩⟩
    by_cases h3 : k = x.toNat
    · subst h3; omega
    · exact hk k (by omega)
  have hM : ∀ k, k < l.length → -4503599627370496 ≤ l.getD k 0 ∧ l.getD k 0 ≤ 4503599627370496 := fun k h => hk k (by omega)
  rw [if_neg (by omega), if_neg (by rw [not_badNum hM]; simp; omega)] at hR
  refine ⟨fun j o k c i h => 0 ≤ i ∧ (j : Int) + i = l.length ∧ k = i.toNat ∧ Old h0 h ∧ WF h ∧ OutS h0.next 3 1 h o k c ((smoothL l n i.toNat).map I), ⟨l.length, by omega, by omega, rfl, Old.refl _, wf, OutS.start _ _ _ _⟩, ?_⟩
  rintro j o k c i h ⟨hi0, hj, rfl, old, wfh, out⟩ -
  have E1 := e1.old wf old
  have hpn : h.pins = [] := old.pins.trans hp
  refine ⟨fun hlt => ?_, fun hge => ?_⟩
  · have hi : i.toNat < l.length := by omega
    have hs : (i + 1).toNat = i.toNat + 1 := by omega
    refine ⟨fun j2 s k => 0 ≤ k ∧ (j2 : Int) + k = i + 1 ∧ k ≤ n ∧ s = bsum l i.toNat k.toNat, ⟨i.toNat + 1, by omega, by omega, by omega, rfl⟩, ?_⟩
    rintro j2 s k ⟨hk0, hj2, hkn, rfl⟩ -
    have hb := bsum_bd (by omega) hM hi k.toNat
    have fin : k.toNat = win n i.toNat → (top P w0).call 74 #[(.int .i64 (bsum l i.toNat k.toNat)), (.int .i64 k)] h fun v18 h17 =>
        ∃ (x16 : Int), v18 = (.int .i64 x16) ∧ Prim.den P (.appendTo 1 8 3 1) [(.slice o i.toNat c), (.int .i64 x16)] (hup h17 1 [((h17.next + 0), some (.cells #[(.int .i64 x16)] 3 (0, 0)))] h17.pins) fun v22 h21 =>
          ∃ (o18 : Option Addr) (n19 : Nat) (n20 : Nat), v22 = (.slice o18 n19 n20) ∧ InK .i64 (i + 1) ∧
            ∃ j', j' < j ∧ (0 ≤ i + 1 ∧ (j' : Int) + (i + 1) = l.length ∧ n19 = (i + 1).toNat ∧ Old h0 h21 ∧ WF h21 ∧ OutS h0.next 3 1 h21 o18 n19 n20 ((smoothL l n (i + 1).toNat).map I)) := by
      intro hw
      have hw1 : 0 < win n i.toNat := by unfold win; omega
      have hv : bsum l i.toNat k.toNat / k = smoothE l n i.toNat := by
        unfold smoothE
        rw [← hw, show ((k.toNat : Nat) : Int) = k by omega]
      refine c74 w0 h _ k (by omega) (by omega) (by omega) (by omega) _ ⟨_, rfl, ?_⟩
      generalize bsum l i.toNat k.toNat / k = v at hv ⊢
      have ol2 : Old h (hup h 1 [((h.next + 0), some (.cells #[(.int .i64 v)] 3 (0, 0)))] h.pins) := hup_old rfl (by simp)
      refine appendTo_one (h0 := h0) (cs := [I v]) (out.congr (fun b _ hb => ol2.get b hb) wfh) (old.trans ol2) (Nat.le_refl _) (ol2.wf wfh) (by omega) (by omega) zf3 rfl (onesI _) rfl (by omega) (by omega) hpn ?_ (Nat.le_trans old.next ol2.next)
      intro o' h'' g1 g2 g3 g4 g5 g6
      refine ⟨o', _, _, rfl, (InK_i64 _).2 (by omega), j - 1, by omega, by omega, by omega, by omega, g1, g2, ?_⟩
      rw [hs, smoothL_succ, List.map_append, ← hv]; exact g5
    refine ⟨fun g1 => ⟨fun g2 => ?_, fun g2 => fin (by unfold win; omega)⟩, fun g1 => fin (by unfold win; omega)⟩
    have hk' : (i - k).toNat < l.length := by omega
    have hks : (k + 1).toNat = k.toNat + 1 := by omega
    have h5 := hM _ hk'
    refine ⟨(InK_i64 _).2 (by omega), E1.sm hk', by omega, by omega, E1.sm hk', _, E1.int hk', (InK_i64 _).2 (by omega), (InK_i64 _).2 (by omega), j2 - 1, by omega, by omega, by omega, by omega, ?_⟩
    rw [hks]
    simp only [bsum]
    rw [show i.toNat - k.toNat = (i - k).toNat by omega]
  · have : i.toNat = l.length := by omega
    rw [this] at out ⊢
    exact hR o _ c h old wfh out

/-- Equal lists. -/
theorem c25 (w0 : World) (h0 : Heap) (o1 o4 : Option Addr) (n1 n4 c1 c4 : Nat) (l : List Int) (e1 : Elts h0 o1 (l.map I)) (e4 : Elts h0 o4 (l.map I)) (h1 : n1 = l.length) (h4 : n4 = l.length) (hl : l.length < 1000000000000) (R : Value → Heap → Prop) (hR : R (.bool true) h0) :
    (top P w0).call 25 #[.slice o1 n1 c1, .slice o4 n4 c4] h0 R := by
  subst h1; subst h4
  refine vc25 w0 R h0 o1 l.length c1 o4 l.length c4 ⟨fun g => absurd rfl g, fun _ => ?_⟩
  refine ⟨fun j x => 0 ≤ x ∧ (j : Int) + x = l.length, ⟨l.length, by omega, by omega⟩, ?_⟩
  rintro j x ⟨hx, hj⟩ -
  refine ⟨fun hlt => ?_, fun _ => hR⟩
  have hi : x.toNat < l.length := by omega
  exact ⟨e1.sm hi, hx, hlt, e1.sm hi, _, e1.int hi, e4.sm hi, hx, hlt, e4.sm hi, _, e4.int hi, fun g => absurd rfl g, fun _ => ⟨(InK_i64 _).2 (by omega), j - 1, by omega, by omega, by omega⟩⟩

end Go.Proofs.YtkfoibidnkfndaaGreatDoor
