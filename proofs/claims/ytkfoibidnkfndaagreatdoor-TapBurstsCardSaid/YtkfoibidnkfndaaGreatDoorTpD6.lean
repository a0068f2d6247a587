/- Bursts: the law over the machine. -/
import Derived.Test.YtkfoibidnkfndaaGreatDoorTpD5
set_option linter.unusedVariables false
set_option linter.unusedSimpArgs false
namespace Go.Proofs.YtkfoibidnkfndaaGreatDoor
open Go.Abs

/-- The sum of the sizes within a width, of the first so many. -/
def wsum (ts ss : List Int) (w t : Int) : Nat → Int
  | 0 => 0
  | k + 1 => wsum ts ss w t k + (if t ≤ ts.getD k 0 ∧ ts.getD k 0 - t < w then ss.getD k 0 else 0)

theorem wsum_in {ts ss : List Int} {w t : Int} {k : Nat} (h : t ≤ ts.getD k 0 ∧ ts.getD k 0 - t < w) : wsum ts ss w t (k + 1) = wsum ts ss w t k + ss.getD k 0 := by
  simp only [wsum]; rw [if_pos h]
theorem wsum_out {ts ss : List Int} {w t : Int} {k : Nat} (h : ¬ (t ≤ ts.getD k 0 ∧ ts.getD k 0 - t < w)) : wsum ts ss w t (k + 1) = wsum ts ss w t k := by
  simp only [wsum]; rw [if_neg h]; omega

theorem wsum_bd {ts ss : List Int} {w t : Int} (hs : ∀ i, i < ss.length → 0 ≤ ss.getD i 0 ∧ ss.getD i 0 ≤ 1000000) : ∀ k, k ≤ ss.length → 0 ≤ wsum ts ss w t k ∧ wsum ts ss w t k ≤ 1000000 * k
  | 0, _ => by simp [wsum]
  | k + 1, hk => by
    have ih := wsum_bd (ts := ts) (w := w) (t := t) hs k (by omega)
    have h1 := hs k (by omega)
    simp only [wsum]
    split <;> omega

def fsum (ts ss : List Int) (w t : Int) : Int := wsum ts ss w t ts.length

/-- The best of some, and the least one of those that are as good. -/
def Best (f : Int → Int) (l : List Int) (b a : Int) : Prop := (l = [] ∧ b = -1 ∧ a = 0) ∨ (a ∈ l ∧ f a = b ∧ ∀ t ∈ l, f t < b ∨ (f t = b ∧ a ≤ t))

theorem Best.uniq {f : Int → Int} {l : List Int} {b a b' a' : Int} (x : Best f l b a) (y : Best f l b' a') : b = b' ∧ a = a' := by
  rcases x with ⟨rfl, rfl, rfl⟩ | ⟨x1, x2, x3⟩
  · rcases y with ⟨_, rfl, rfl⟩ | ⟨y1, _, _⟩
    · exact ⟨rfl, rfl⟩
    · cases y1
  · rcases y with ⟨rfl, rfl, rfl⟩ | ⟨y1, y2, y3⟩
    · cases x1
    · have h1 := x3 _ y1
      have h2 := y3 _ x1
      omega

theorem Best.of_mem {f : Int → Int} {l l' : List Int} {b a : Int} (h : ∀ t, t ∈ l ↔ t ∈ l') (x : Best f l b a) (hl : l ≠ []) : Best f l' b a := by
  rcases x with ⟨rfl, _, _⟩ | ⟨x1, x2, x3⟩
  · exact absurd rfl hl
  · exact .inr ⟨(h a).1 x1, x2, fun t ht => x3 t ((h t).2 ht)⟩

theorem Best.new {f : Int → Int} {l : List Int} {b a t : Int} (x : Best f l b a) (h : f t > b ∨ (f t = b ∧ t < a)) : Best f (l ++ [t]) (f t) t := by
  refine .inr ⟨by simp, rfl, fun u hu => ?_⟩
  rcases x with ⟨rfl, rfl, rfl⟩ | ⟨x1, x2, x3⟩
  · simp at hu; subst hu; omega
  · rcases List.mem_append.1 hu with hu | hu
    · have := x3 u hu; omega
    · simp at hu; subst hu; omega

theorem Best.keep {f : Int → Int} {l : List Int} {b a t : Int} (x : Best f l b a) (hf : 0 ≤ f t) (h : f t < b ∨ (f t = b ∧ (a ∈ l → a ≤ t))) : Best f (l ++ [t]) b a := by
  rcases x with ⟨rfl, rfl, rfl⟩ | ⟨x1, x2, x3⟩
  · omega
  · refine .inr ⟨by simp [x1], x2, fun u hu => ?_⟩
    rcases List.mem_append.1 hu with hu | hu
    · exact x3 u hu
    · simp at hu; subst hu
      rcases h with h | ⟨h, h'⟩
      · exact .inl h
      · exact .inr ⟨h, h' x1⟩

def badSize (n : Int) : Bool := decide (n < 0) || decide (n > 1000000)

/-- The answer. -/
def BurstR (ts ss : List Int) (w x y e : Int) : Prop :=
  if ¬ ts.length = ss.length then x = 0 ∧ y = 0 ∧ e = 10 else if ts.length > 200 then x = 0 ∧ y = 0 ∧ e = 3 else if ts.length = 0 then x = 0 ∧ y = 0 ∧ e = 4
  else if w < 1 ∨ ts.any (fun t => !isT t) = true ∨ ss.any badSize = true then x = 0 ∧ y = 0 ∧ e = 1 else e = 0 ∧ Best (fsum ts ss w) ts x y

theorem BurstR.uniq {ts ss : List Int} {w x y e x' y' e' : Int} (h : BurstR ts ss w x y e) (h' : BurstR ts ss w x' y' e') : x = x' ∧ y = y' ∧ e = e' := by
  unfold BurstR at h h'
  split at h
  · rename_i g; rw [if_pos g] at h'; omega
  rename_i g; rw [if_neg g] at h'
  split at h
  · rename_i g; rw [if_pos g] at h'; omega
  rename_i g; rw [if_neg g] at h'
  split at h
  · rename_i g; rw [if_pos g] at h'; omega
  rename_i g; rw [if_neg g] at h'
  split at h
  · rename_i g; rw [if_pos g] at h'; omega
  rename_i g; rw [if_neg g] at h'
  have := h.2.uniq h'.2
  omega

theorem size_of {l : List Int} (h : l.any badSize = false) {i : Nat} (hi : i < l.length) : 0 ≤ l.getD i 0 ∧ l.getD i 0 ≤ 1000000 := by
  have h1 := List.any_eq_false.1 h (l.getD i 0) (by simp [List.getD_eq_getElem?_getD, hi])
  generalize l.getD i 0 = z at h1 ⊢
  simp [badSize] at h1
  omega

theorem bad_of {l : List Int} {i : Nat} (hi : i < l.length) (h : ¬ (0 ≤ l.getD i 0 ∧ l.getD i 0 ≤ 1000000)) : l.any badSize = true := by
  refine List.any_eq_true.2 ⟨l.getD i 0, by simp [List.getD_eq_getElem?_getD, hi], ?_⟩
  generalize l.getD i 0 = z at h ⊢
  simp [badSize]
  omega

theorem not_bad {l : List Int} (h : ∀ k, k < l.length → 0 ≤ l.getD k 0 ∧ l.getD k 0 ≤ 1000000) : l.any badSize = false := by
  refine List.any_eq_false.2 fun x hx => ?_
  obtain ⟨i, hi, rfl⟩ := List.getElem_of_mem hx
  have := h i hi
  simp [List.getD_eq_getElem?_getD, hi] at this
  simp [badSize]
  omega

theorem c55_59 (w0 : World) (h0 : Heap) (o : Option Addr) (c : Nat) (l : List Int) (e : Elts h0 o (l.map I)) (hl : l.length < 1000000000000) (R : Value → Heap → Prop) (hR : R (.bool (l.any fun t => !isT t)) h0) :
    (top P w0).call 55 #[.slice o l.length c, .func (.func 59) #[] #[]] h0 R := by
  refine vc55_59 w0 R h0 o l.length c ?_
  refine ⟨fun j x => 0 ≤ x ∧ (j : Int) + x = l.length ∧ ∀ k, k < x.toNat → 0 ≤ l.getD k 0 ∧ l.getD k 0 ≤ 1000000000000000, ⟨l.length, by simp⟩, ?_⟩
  rintro j x ⟨hx, hj, hk⟩ -
  refine ⟨fun hlt => ?_, fun hge => ?_⟩
  · have hi : x.toNat < l.length := by omega
    have hany : ∀ (hn : ¬ (0 ≤ l.getD x.toNat 0 ∧ l.getD x.toNat 0 ≤ 1000000000000000)), R (.bool (cmpB .geq x 0)) h0 := by
      intro hn
      have : cmpB .geq x 0 = true := by simp [cmpB, hx]
      rw [this, ← any_of hi hn]; exact hR
    refine ⟨e.sm hi, hx, hlt, e.sm hi, l.getD x.toNat 0, e.int hi, fun h1 => ⟨fun h2 => ⟨(InK_i64 _).2 (by omega), j - 1, by omega, by omega, by omega, fun k hk' => ?_⟩, fun h2 => hany (by omega)⟩, fun h1 => hany (by omega)⟩
    by_cases h3 : k = x.toNat
    · subst h3; exact ⟨h1, h2⟩
    · exact hk k (by omega)
  · rw [← not_any (l := l) fun k hk' => hk k (by omega)]; exact hR

theorem c55_60 (w0 : World) (h0 : Heap) (o : Option Addr) (c : Nat) (l : List Int) (e : Elts h0 o (l.map I)) (hl : l.length < 1000000000000) (R : Value → Heap → Prop) (hR : R (.bool (l.any badSize)) h0) :
    (top P w0).call 55 #[.slice o l.length c, .func (.func 60) #[] #[]] h0 R := by
  refine vc55_60 w0 R h0 o l.length c ?_
  refine ⟨fun j x => 0 ≤ x ∧ (j : Int) + x = l.length ∧ ∀ k, k < x.toNat → 0 ≤ l.getD k 0 ∧ l.getD k 0 ≤ 1000000, ⟨l.length, by simp⟩, ?_⟩
  rintro j x ⟨hx, hj, hk⟩ -
  refine ⟨fun hlt => ?_, fun hge => ?_⟩
  · have hi : x.toNat < l.length := by omega
    have hany : ∀ (hn : ¬ (0 ≤ l.getD x.toNat 0 ∧ l.getD x.toNat 0 ≤ 1000000)), R (.bool (cmpB .geq x 0)) h0 := by
      intro hn
      have : cmpB .geq x 0 = true := by simp [cmpB, hx]
      rw [this, ← bad_of hi hn]; exact hR
    refine ⟨e.sm hi, hx, hlt, e.sm hi, l.getD x.toNat 0, e.int hi, fun h1 => hany (by omega), fun h1 => ⟨fun h2 => hany (by omega), fun h2 => ⟨(InK_i64 _).2 (by omega), j - 1, by omega, by omega, by omega, fun k hk' => ?_⟩⟩⟩
    by_cases h3 : k = x.toNat
    · subst h3; omega
    · exact hk k (by omega)
  · rw [← not_bad (l := l) fun k hk' => hk k (by omega)]; exact hR

theorem c19 (w0 : World) (h0 : Heap) (o1 o4 : Option Addr) (c1 c4 : Nat) (ts ss : List Int) (w : Int) (wf : WF h0) (hp : h0.pins = []) (e1 : Elts h0 o1 (ts.map I)) (e4 : Elts h0 o4 (ss.map I))
    (R : Value → Heap → Prop) (hR : ∀ x y e h', Old h0 h' → WF h' → BurstR ts ss w x y e → R (.tuple #[.int .i64 x, .int .i64 y, .int .i64 e]) h') :
    (top P w0).call 19 #[.slice o1 ts.length c1, .slice o4 ss.length c4, .int .i64 w] h0 R := by
  refine vc19 w0 R h0 o1 ts.length c1 o4 ss.length c4 w ?_
  unfold BurstR at hR
  refine ⟨fun h1 => hR _ _ _ h0 (Old.refl _) wf (by rw [if_pos (by omega)]; simp), fun h1 => ⟨fun h2 => hR _ _ _ h0 (Old.refl _) wf (by rw [if_neg (by omega), if_pos (by omega)]; simp), fun h2 => ⟨fun h3 => hR _ _ _ h0 (Old.refl _) wf (by rw [if_neg (by omega), if_neg (by omega), if_pos (by omega)]; simp), fun h3 => ⟨fun h4 => hR _ _ _ h0 (Old.refl _) wf (by rw [if_neg (by omega), if_neg (by omega), if_neg (by omega), if_pos (.inl h4)]; simp), fun h4 => ?_⟩⟩⟩⟩
  have hlen : ts.length = ss.length := by omega
  have hn : ts.length ≤ 200 := by omega
  have hn0 : 0 < ts.length := by omega
  refine c55_59 w0 h0 o1 c1 ts e1 (by omega) _ ⟨_, rfl, fun h5 => hR _ _ _ h0 (Old.refl _) wf (by rw [if_neg (by omega), if_neg (by omega), if_neg (by omega), if_pos (.inr (.inl h5))]; simp), fun h5 => ?_⟩
  refine c55_60 w0 h0 o4 c4 ss e4 (by omega) _ ⟨_, rfl, fun h6 => hR _ _ _ h0 (Old.refl _) wf (by rw [if_neg (by omega), if_neg (by omega), if_neg (by omega), if_pos (.inr (.inr h6))]; simp), fun h6 => ?_⟩
  replace hR : ∀ x y h', Old h0 h' → WF h' → Best (fsum ts ss w) ts x y → R (.tuple #[.int .i64 x, .int .i64 y, .int .i64 0]) h' := fun x y h' a b c => hR x y 0 h' a b (by rw [if_neg (by omega), if_neg (by omega), if_neg (by omega), if_neg (by simp [h4, h5, h6])]; exact ⟨rfl, c⟩)
  simp only [Bool.not_eq_true] at h5 h6
  have hT := fun {i : Nat} (hi : i < ts.length) => isT_of h5 hi
  have hS := fun (i : Nat) (hi : i < ss.length) => size_of h6 hi
  generalize hf : fsum ts ss w = f at hR
  have hf' : ∀ t, f t = wsum ts ss w t ts.length := fun t => by rw [← hf]; rfl
  have hf0 : ∀ t, 0 ≤ f t := fun t => by rw [hf' t]; exact (wsum_bd hS _ (by omega)).1
  have olb : Old h0 (hup h0 1 [((h0.next + 0), some (.cells #[(.slice o1 ts.length c1)] 27 (0, 0)))] h0.pins) := hup_old rfl (by simp)
  refine c61 w0 _ _ o1 c1 ts (olb.wf wf) hp hup_hit (e1.old wf olb) hn0 (by omega) _ fun o' h' old' wf' E' => ⟨o', _, _, rfl, ?_⟩
  have old := olb.trans old'
  have E1 := e1.old wf old
  have E4 := e4.old wf old
  generalize hzs : (ts.mergeSort fun x y => decide (x ≤ y)) = zs at E'
  have hzl : zs.length = ts.length := by rw [← hzs]; simp
  have hmem : ∀ t, t ∈ zs ↔ t ∈ ts := fun t => by rw [← hzs]; exact List.mem_mergeSort
  have hsorted : zs.Pairwise fun x y => x ≤ y := by
    rw [← hzs]
    refine (List.pairwise_mergeSort (le := fun x y : Int => decide (x ≤ y)) (fun a b c h1 h2 => ?_) (fun a b => ?_) ts).imp fun h => by simpa using h
    · simp at h1 h2 ⊢; omega
    · simp; omega
  have hZ : ∀ {i : Nat}, i < zs.length → 0 ≤ zs.getD i 0 ∧ zs.getD i 0 ≤ 1000000000000000 := by
    intro i hi
    have hm : zs.getD i 0 ∈ ts := (hmem _).1 (by simp [List.getD_eq_getElem?_getD, hi])
    obtain ⟨k, hk, he⟩ := List.getElem_of_mem hm
    have := hT hk
    simp only [List.getD_eq_getElem?_getD, List.getElem?_eq_getElem hk, Option.getD_some] at this
    rw [he] at this
    simpa [List.getD_eq_getElem?_getD] using this
  refine ⟨fun j b a i => 0 ≤ i ∧ (j : Int) + i = zs.length ∧ Best f (zs.take i.toNat) b a, ⟨zs.length, by omega, by omega, .inl ⟨rfl, rfl, rfl⟩⟩, ?_⟩
  rintro j b a i ⟨hi0, hj, hb⟩ -
  refine ⟨fun hlt => ?_, fun hge => ?_⟩
  · have hi : i.toNat < zs.length := by omega
    have hs : (i + 1).toNat = i.toNat + 1 := by omega
    have hz := hZ hi
    have hzt : zs.getD i.toNat 0 ∈ zs := by simp [List.getD_eq_getElem?_getD, hi]
    refine ⟨E'.sm hi, hi0, hlt, E'.sm hi, _, E'.int hi, ?_⟩
    generalize hgt : zs.getD i.toNat 0 = t at hz hzt
    refine ⟨fun j2 s k => 0 ≤ k ∧ (j2 : Int) + k = ts.length ∧ s = wsum ts ss w t k.toNat, ⟨ts.length, by omega, by omega, rfl⟩, ?_⟩
    rintro j2 s k ⟨hk0, hj2, rfl⟩ -
    refine ⟨fun hk1 => ?_, fun hk1 => ?_⟩
    · have hk : k.toNat < ts.length := by omega
      have hk4 : k.toNat < ss.length := by omega
      have hks : (k + 1).toNat = k.toNat + 1 := by omega
      have h7 := hT hk
      have h8 := hS _ hk4
      have h9 := wsum_bd (ts := ts) (w := w) (t := t) hS k.toNat (by omega)
      refine ⟨E1.sm hk, hk0, hk1, E1.sm hk, _, E1.int hk, fun g1 => ⟨(InK_i64 _).2 (by omega), fun g2 => ⟨E4.sm hk4, hk0, by omega, E4.sm hk4, _, E4.int hk4, (InK_i64 _).2 (by omega), (InK_i64 _).2 (by omega), j2 - 1, by omega, by omega, by omega, ?_⟩,
        fun g2 => ⟨(InK_i64 _).2 (by omega), j2 - 1, by omega, by omega, by omega, ?_⟩⟩, fun g1 => ⟨(InK_i64 _).2 (by omega), j2 - 1, by omega, by omega, by omega, ?_⟩⟩
      · rw [hks, wsum_in ⟨g1, g2⟩]
      · rw [hks, wsum_out (by omega)]
      · rw [hks, wsum_out (by omega)]
    · have hkn : k.toNat = ts.length := by omega
      rw [hkn, ← hf' t]
      refine ⟨fun g => ⟨(InK_i64 _).2 (by omega), j - 1, by omega, by omega, by omega, ?_⟩, fun g => ⟨(InK_i64 _).2 (by omega), j - 1, by omega, by omega, by omega, ?_⟩⟩
      · rw [hs, take_one hi, hgt]
        exact hb.new (.inl g)
      · rw [hs, take_one hi, hgt]
        refine hb.keep (hf0 t) ?_
        rcases Int.lt_or_eq_of_le (Int.not_lt.1 g) with g' | g'
        · exact .inl g'
        · refine .inr ⟨g', fun hm => ?_⟩
          obtain ⟨q, hq, he⟩ := List.getElem_of_mem hm
          simp only [List.length_take] at hq
          rw [List.getElem_take] at he
          have := List.pairwise_iff_getElem.1 hsorted q i.toNat (by omega) hi (by omega)
          rw [he] at this
          rw [← hgt]
          simpa [List.getD_eq_getElem?_getD, hi] using this
  · have : i.toNat = zs.length := by omega
    rw [this, List.take_length] at hb
    refine hR _ _ _ old wf' (hb.of_mem hmem ?_)
    intro e
    rw [e] at hzl
    simp at hzl; omega

theorem c20 (w0 : World) (h0 : Heap) (o1 o4 : Option Addr) (c1 c4 : Nat) (ts ss : List Int) (w : Int) (e1 : Elts h0 o1 (ts.map I)) (e4 : Elts h0 o4 (ss.map I))
    (R : Value → Heap → Prop) (hR : ∀ x y e, BurstR ts ss w x y e → R (.tuple #[.int .i64 x, .int .i64 y, .int .i64 e]) h0) :
    (top P w0).call 20 #[.slice o1 ts.length c1, .slice o4 ss.length c4, .int .i64 w] h0 R := by
  refine vc20 w0 R h0 o1 ts.length c1 o4 ss.length c4 w ?_
  unfold BurstR at hR
  refine ⟨fun h1 => hR _ _ _ (by rw [if_pos (by omega)]; simp), fun h1 => ⟨fun h2 => hR _ _ _ (by rw [if_neg (by omega), if_pos (by omega)]; simp), fun h2 => ⟨fun h3 => hR _ _ _ (by rw [if_neg (by omega), if_neg (by omega), if_pos (by omega)]; simp), fun h3 => ⟨fun h4 => hR _ _ _ (by rw [if_neg (by omega), if_neg (by omega), if_neg (by omega), if_pos (.inl h4)]; simp), fun h4 => ?_⟩⟩⟩⟩
  have hlen : ts.length = ss.length := by omega
  have hn : ts.length ≤ 200 := by omega
  have hn0 : 0 < ts.length := by omega
  refine ⟨fun j x => 0 ≤ x ∧ (j : Int) + x = ts.length ∧ (∀ k, k < x.toNat → 0 ≤ ts.getD k 0 ∧ ts.getD k 0 ≤ 1000000000000000) ∧ (∀ k, k < x.toNat → 0 ≤ ss.getD k 0 ∧ ss.getD k 0 ≤ 1000000), ⟨ts.length, by omega, by omega, fun k hk => absurd hk (by omega), fun k hk => absurd hk (by omega)⟩, ?_⟩
  rintro j x ⟨hx, hj, hk, hk4⟩ -
  refine ⟨fun hlt => ?_, fun hge => ?_⟩
  · have hi : x.toNat < ts.length := by omega
    have hi4 : x.toNat < ss.length := by omega
    have b1 : ¬ (0 ≤ ts.getD x.toNat 0 ∧ ts.getD x.toNat 0 ≤ 1000000000000000) → R (.tuple #[.int .i64 0, .int .i64 0, .int .i64 1]) h0 := fun hn => hR _ _ _ (by rw [if_neg (by omega), if_neg (by omega), if_neg (by omega), if_pos (.inr (.inl (any_of hi hn)))]; simp)
    have b2 : ¬ (0 ≤ ss.getD x.toNat 0 ∧ ss.getD x.toNat 0 ≤ 1000000) → R (.tuple #[.int .i64 0, .int .i64 0, .int .i64 1]) h0 := fun hn => hR _ _ _ (by rw [if_neg (by omega), if_neg (by omega), if_neg (by omega), if_pos (.inr (.inr (bad_of hi4 hn)))]; simp)
    refine ⟨e1.sm hi, hx, hlt, e1.sm hi, _, e1.int hi, fun g1 => ⟨fun g2 => ⟨e4.sm hi4, hx, by omega, e4.sm hi4, _, e4.int hi4, fun g3 => b2 (by omega), fun g3 => ⟨e4.sm hi4, hx, by omega, e4.sm hi4, _, e4.int hi4, fun g4 => b2 (by omega), fun g4 => ⟨(InK_i64 _).2 (by omega), j - 1, by omega, by omega, by omega, fun k hk' => ?_, fun k hk' => ?_⟩⟩⟩, fun g2 => b1 (by omega)⟩, fun g1 => b1 (by omega)⟩
    · by_cases h3 : k = x.toNat
      · subst h3; omega
      · exact hk k (by omega)
    · by_cases h3 : k = x.toNat
      · subst h3; omega
      · exact hk4 k (by omega)
  have hT : ∀ k, k < ts.length → 0 ≤ ts.getD k 0 ∧ ts.getD k 0 ≤ 1000000000000000 := fun k h => hk k (by omega)
  have hS : ∀ k, k < ss.length → 0 ≤ ss.getD k 0 ∧ ss.getD k 0 ≤ 1000000 := fun k h => hk4 k (by omega)
  replace hR : ∀ x y, Best (fsum ts ss w) ts x y → R (.tuple #[.int .i64 x, .int .i64 y, .int .i64 0]) h0 := fun x y c => hR x y 0 (by rw [if_neg (by omega), if_neg (by omega), if_neg (by omega), if_neg (by rw [not_any hT, not_bad hS]; simp; omega)]; exact ⟨rfl, c⟩)
  generalize hf : fsum ts ss w = f at hR
  have hf' : ∀ t, f t = wsum ts ss w t ts.length := fun t => by rw [← hf]; rfl
  have hf0 : ∀ t, 0 ≤ f t := fun t => by rw [hf' t]; exact (wsum_bd hS _ (by omega)).1
  refine ⟨fun j b a i => 0 ≤ i ∧ (j : Int) + i = ts.length ∧ Best f (ts.take i.toNat) b a, ⟨ts.length, by omega, by omega, .inl ⟨rfl, rfl, rfl⟩⟩, ?_⟩
  rintro j b a i ⟨hi0, hj, hb⟩ -
  refine ⟨fun hlt => ?_, fun hge => ?_⟩
  · have hi : i.toNat < ts.length := by omega
    have hs : (i + 1).toNat = i.toNat + 1 := by omega
    have hz := hT _ hi
    refine ⟨fun j2 s k => 0 ≤ k ∧ (j2 : Int) + k = ts.length ∧ s = wsum ts ss w (ts.getD i.toNat 0) k.toNat, ⟨ts.length, by omega, by omega, rfl⟩, ?_⟩
    rintro j2 s k ⟨hk0, hj2, rfl⟩ -
    refine ⟨fun hk1 => ?_, fun hk1 => ?_⟩
    · have hk : k.toNat < ts.length := by omega
      have hk4 : k.toNat < ss.length := by omega
      have hks : (k + 1).toNat = k.toNat + 1 := by omega
      have h7 := hT _ hk
      have h8 := hS _ hk4
      have h9 := wsum_bd (ts := ts) (w := w) (t := ts.getD i.toNat 0) hS k.toNat (by omega)
      refine ⟨e1.sm hk, hk0, hk1, e1.sm hk, _, e1.int hk, e1.sm hi, hi0, hlt, e1.sm hi, _, e1.int hi, (InK_i64 _).2 (by omega), fun g1 => ⟨fun g2 => ⟨e4.sm hk4, hk0, by omega, e4.sm hk4, _, e4.int hk4, (InK_i64 _).2 (by omega), (InK_i64 _).2 (by omega), j2 - 1, by omega, by omega, by omega, ?_⟩,
        fun g2 => ⟨(InK_i64 _).2 (by omega), j2 - 1, by omega, by omega, by omega, ?_⟩⟩, fun g1 => ⟨(InK_i64 _).2 (by omega), j2 - 1, by omega, by omega, by omega, ?_⟩⟩
      · rw [hks, wsum_in ⟨by omega, g2⟩]
      · rw [hks, wsum_out (by omega)]
      · rw [hks, wsum_out (by omega)]
    · have hkn : k.toNat = ts.length := by omega
      rw [hkn, ← hf']
      have next : ∀ b' a', Best f (ts.take i.toNat ++ [ts.getD i.toNat 0]) b' a' → 0 ≤ i + 1 ∧ ((j - 1 : Nat) : Int) + (i + 1) = ts.length ∧ Best f (ts.take (i + 1).toNat) b' a' := by
        intro b' a' hb'
        refine ⟨by omega, by omega, ?_⟩
        rw [hs, take_one hi]; exact hb'
      have inn : InK .i64 (i + 1) := (InK_i64 _).2 (by omega)
      have hj1 : j - 1 < j := by omega
      refine ⟨fun g => ⟨e1.sm hi, hi0, hlt, e1.sm hi, _, e1.int hi, inn, j - 1, hj1, next _ _ (hb.new (.inl g))⟩, fun g => ⟨fun g2 => ⟨e1.sm hi, hi0, hlt, e1.sm hi, _, e1.int hi, fun g3 => ⟨e1.sm hi, hi0, hlt, e1.sm hi, _, e1.int hi, inn, j - 1, hj1, next _ _ (hb.new (.inr ⟨g2, g3⟩))⟩, fun g3 => ⟨inn, j - 1, hj1, next _ _ (hb.keep (hf0 _) (.inr ⟨g2, fun _ => by omega⟩))⟩⟩,
        fun g2 => ⟨inn, j - 1, hj1, next _ _ (hb.keep (hf0 _) (.inl (by omega)))⟩⟩⟩
  · have : i.toNat = ts.length := by omega
    rw [this, List.take_length] at hb
    exact hR _ _ hb

/-- THE LAW. -/
theorem tapBursts (w0 : World) (h0 : Heap) (o1 o4 : Option Addr) (c1 c4 : Nat) (ts ss : List Int) (w : Int) (wf : WF h0) (hp : h0.pins = []) (e1 : Elts h0 o1 (ts.map I)) (e4 : Elts h0 o4 (ss.map I)) (hl1 : ts.length < 1000000000000000) (hl2 : ss.length < 1000000000000000)
    (R : Value → Heap → Prop) (hR : ∀ h', R (.bool true) h') :
    (top P w0).call 5 #[.slice o1 ts.length c1, .slice o4 ss.length c4, .int .i64 w] h0 R := by
  refine vc5 w0 R h0 o1 ts.length c1 o4 ss.length c4 w ?_
  refine ⟨(InK_i64 _).2 (by omega), fun h1 => known w0 _ _ ⟨true, rfl, hR _⟩, fun h1 => ?_⟩
  refine c19 w0 h0 o1 o4 c1 c4 ts ss w wf hp e1 e4 _ fun x y e ha olda wfa ra => ⟨_, _, _, rfl, ?_⟩
  refine c20 w0 ha o1 o4 c1 c4 ts ss w (e1.old wf olda) (e4.old wf olda) _ fun x' y' e' rb => ⟨_, _, _, rfl, ?_⟩
  obtain ⟨rfl, rfl, rfl⟩ := ra.uniq rb
  exact ⟨fun _ => ⟨fun _ => ⟨fun _ => known w0 _ _ ⟨true, rfl, hR _⟩, fun g => absurd rfl g⟩, fun g => absurd rfl g⟩, fun g => absurd rfl g⟩

end Go.Proofs.YtkfoibidnkfndaaGreatDoor
