/- Quantile: what both functions come to. -/
import Derived.Test.YtkfoibidnkfndaaGreatDoorTpV6
import Derived.Test.YtkfoibidnkfndaaGreatDoorTpD5
set_option linter.unusedVariables false
set_option linter.unusedSimpArgs false
namespace Go.Proofs.YtkfoibidnkfndaaGreatDoor
open Go.Abs

def cnt (l : List Int) (v : Int) : Nat := l.countP fun x => decide (x ≤ v)

theorem cnt_step {l : List Int} {k : Nat} (hk : k < l.length) (v : Int) : cnt (l.take (k + 1)) v = cnt (l.take k) v + (if l.getD k 0 ≤ v then 1 else 0) := by
  rw [take_one hk]
  unfold cnt
  rw [List.countP_append]
  simp only [List.countP_cons, List.countP_nil, decide_eq_true_eq]
  omega

theorem cnt_le (l : List Int) (v : Int) : cnt l v ≤ l.length := List.countP_le_length

/-- The least one that is good; 0 if none is. -/
def Least (good : Int → Prop) (l : List Int) (x : Int) : Prop := (x ∈ l ∧ good x ∧ ∀ u ∈ l, good u → x ≤ u) ∨ (x = 0 ∧ ∀ u ∈ l, ¬ good u)

theorem Least.uniq {good : Int → Prop} {l : List Int} {x y : Int} (a : Least good l x) (b : Least good l y) : x = y := by
  rcases a with ⟨a1, a2, a3⟩ | ⟨rfl, a2⟩
  · rcases b with ⟨b1, b2, b3⟩ | ⟨rfl, b2⟩
    · have := a3 _ b1 b2
      have := b3 _ a1 a2
      omega
    · exact absurd a2 (b2 _ a1)
  · rcases b with ⟨b1, b2, b3⟩ | ⟨rfl, b2⟩
    · exact absurd b2 (a2 _ b1)
    · rfl

/-- The answer. -/
def QuantR (l : List Int) (num den x e : Int) : Prop :=
  if l.length = 0 then x = 0 ∧ e = 4 else if num < 1 ∨ num > den ∨ den > 1000000 then x = 0 ∧ e = 1 else if l.length > 200 then x = 0 ∧ e = 3
  else e = 0 ∧ Least (fun u => num * l.length ≤ cnt l u * den) l x

theorem QuantR.uniq {l : List Int} {num den x e x' e' : Int} (h : QuantR l num den x e) (h' : QuantR l num den x' e') : x = x' ∧ e = e' := by
  unfold QuantR at h h'
  split at h
  · rename_i g; rw [if_pos g] at h'; omega
  rename_i g; rw [if_neg g] at h'
  split at h
  · rename_i g; rw [if_pos g] at h'; omega
  rename_i g; rw [if_neg g] at h'
  split at h
  · rename_i g; rw [if_pos g] at h'; omega
  rename_i g; rw [if_neg g] at h'
  have := h.2.uniq h'.2
  omega

theorem sort_facts (ts : List Int) : ∃ zs : List Int, (ts.mergeSort fun x y => decide (x ≤ y)) = zs ∧ zs.Perm ts ∧ zs.Pairwise fun x y => x ≤ y := by
  refine ⟨_, rfl, List.mergeSort_perm _ _, ?_⟩
  refine (List.pairwise_mergeSort (le := fun x y : Int => decide (x ≤ y)) (fun a b c h1 h2 => ?_) (fun a b => ?_) ts).imp fun h => by simpa using h
  · simp at h1 h2 ⊢; omega
  · simp; omega

theorem sorted_le {zs : List Int} (h : zs.Pairwise fun x y => x ≤ y) {i j : Nat} (hij : i ≤ j) (hj : j < zs.length) : zs.getD i 0 ≤ zs.getD j 0 := by
  rcases Nat.lt_or_eq_of_le hij with hlt | rfl
  · have := List.pairwise_iff_getElem.1 h i j (by omega) hj hlt
    simpa [List.getD_eq_getElem?_getD, hj, show i < zs.length by omega] using this
  · omega

theorem mem_getD {l : List Int} {x : Int} (h : x ∈ l) : ∃ i, i < l.length ∧ l.getD i 0 = x := by
  obtain ⟨i, hi, he⟩ := List.getElem_of_mem h
  exact ⟨i, hi, by simp [List.getD_eq_getElem?_getD, hi, he]⟩
theorem getD_mem {l : List Int} {i : Nat} (h : i < l.length) : l.getD i 0 ∈ l := by simp [List.getD_eq_getElem?_getD, h]

/-- In a sorted row at least the first q + 1 are not above the one at q. -/
theorem cnt_at {zs : List Int} (h : zs.Pairwise fun x y => x ≤ y) {q : Nat} (hq : q < zs.length) : q + 1 ≤ cnt zs (zs.getD q 0) := by
  have h1 : cnt (zs.take (q + 1)) (zs.getD q 0) = q + 1 := by
    have : (zs.take (q + 1)).length = q + 1 := by simp; omega
    conv => rhs; rw [← this]
    refine List.countP_eq_length.2 fun x hx => ?_
    obtain ⟨i, hi, rfl⟩ := mem_getD hx
    rw [this] at hi
    have := sorted_le h (i := i) (j := q) (by omega) hq
    simp only [decide_eq_true_eq]
    have e : (zs.take (q + 1)).getD i 0 = zs.getD i 0 := by simp [List.getD_eq_getElem?_getD, List.getElem?_take, hi]
    rw [e]; exact this
  have h2 : cnt zs (zs.getD q 0) = cnt (zs.take (q + 1)) (zs.getD q 0) + cnt (zs.drop (q + 1)) (zs.getD q 0) := by
    unfold cnt
    rw [← List.countP_append, List.take_append_drop]
  omega

/-- Below the one at q there are at most q. -/
theorem cnt_below {zs : List Int} (h : zs.Pairwise fun x y => x ≤ y) {q : Nat} {u : Int} (hq : q < zs.length) (hu : u < zs.getD q 0) : cnt zs u ≤ q := by
  have h2 : cnt zs u = cnt (zs.take q) u + cnt (zs.drop q) u := by
    unfold cnt
    rw [← List.countP_append, List.take_append_drop]
  have h3 : cnt (zs.drop q) u = 0 := by
    refine List.countP_eq_zero.2 fun x hx => ?_
    obtain ⟨i, hi, rfl⟩ := mem_getD hx
    simp only [List.length_drop] at hi
    have := sorted_le h (i := q) (j := q + i) (by omega) (by omega)
    have e : (zs.drop q).getD i 0 = zs.getD (q + i) 0 := by simp [List.getD_eq_getElem?_getD]
    simp only [decide_eq_true_eq]
    omega
  have h4 := cnt_le (zs.take q) u
  simp only [List.length_take] at h4
  omega

theorem c30 (w0 : World) (h0 : Heap) (o1 : Option Addr) (c1 : Nat) (l : List Int) (num den : Int) (wf : WF h0) (hp : h0.pins = []) (e1 : Elts h0 o1 (l.map I))
    (R : Value → Heap → Prop) (hR : ∀ x e h', Old h0 h' → WF h' → QuantR l num den x e → R (.tuple #[.int .i64 x, .int .i64 e]) h') :
    (top P w0).call 30 #[.slice o1 l.length c1, .int .i64 num, .int .i64 den] h0 R := by
  refine vc30 w0 R h0 o1 l.length c1 num den ?_
  unfold QuantR at hR
  refine ⟨fun h1 => hR _ _ h0 (Old.refl _) wf (by rw [if_pos (by omega)]; simp), fun h1 => ⟨fun h2 => hR _ _ h0 (Old.refl _) wf (by rw [if_neg (by omega), if_pos (by omega)]; simp), fun h2 => ⟨fun h3 => hR _ _ h0 (Old.refl _) wf (by rw [if_neg (by omega), if_pos (by omega)]; simp), fun h3 => ⟨fun h4 => hR _ _ h0 (Old.refl _) wf (by rw [if_neg (by omega), if_pos (by omega)]; simp), fun h4 => ⟨fun h5 => hR _ _ h0 (Old.refl _) wf (by rw [if_neg (by omega), if_neg (by omega), if_pos (by omega)]; simp), fun h5 => ?_⟩⟩⟩⟩⟩
  have hn0 : 0 < l.length := by omega
  replace hR : ∀ x h', Old h0 h' → WF h' → Least (fun u => num * l.length ≤ cnt l u * den) l x → R (.tuple #[.int .i64 x, .int .i64 0]) h' := fun x h' a b c => hR x 0 h' a b (by rw [if_neg (by omega), if_neg (by omega), if_neg (by omega)]; exact ⟨rfl, c⟩)
  have olb : Old h0 (hup h0 1 [((h0.next + 0), some (.cells #[(.slice o1 l.length c1)] 27 (0, 0)))] h0.pins) := hup_old rfl (by simp)
  refine c61 w0 _ _ o1 c1 l (olb.wf wf) hp hup_hit (e1.old wf olb) hn0 (by omega) _ fun o' h' old' wf' E' => ⟨o', _, _, rfl, ?_⟩
  have old := olb.trans old'
  obtain ⟨zs, hzs, hperm, hsorted⟩ := sort_facts l
  rw [hzs] at E'
  have hzl : zs.length = l.length := hperm.length_eq
  have m1 : 1 ≤ num * (l.length : Int) := by
    have h6 := Int.mul_le_mul_of_nonneg_right (a := 1) (b := num) (c := (l.length : Int)) (by omega) (by omega)
    rw [Int.one_mul] at h6
    omega
  have m2 : num * (l.length : Int) ≤ den * (l.length : Int) := Int.mul_le_mul_of_nonneg_right (by omega) (by omega)
  have m3 : den * (l.length : Int) ≤ 1000000 * 200 := Int.mul_le_mul (by omega) (by omega) (by omega) (by omega)
  generalize hX : num * (l.length : Int) = X at *
  have hq : Int.tdiv (X + den - 1) den = (X + den - 1) / den := Int.tdiv_eq_ediv_of_nonneg (by omega)
  have q1 := Int.emod_add_mul_ediv (X + den - 1) den
  have q2 := Int.emod_nonneg (X + den - 1) (show den ≠ 0 by omega)
  have q3 := Int.emod_lt_of_pos (X + den - 1) (show 0 < den by omega)
  rw [hq]
  generalize (X + den - 1) / den = q at *
  generalize (X + den - 1) % den = r at *
  have q4 : 1 ≤ q := by
    rcases Int.lt_or_le q 1 with h | h
    · have : den * q ≤ den * 0 := Int.mul_le_mul_of_nonneg_left (by omega) (by omega)
      omega
    · exact h
  have q5 : q ≤ l.length := by
    rcases Int.lt_or_le (l.length : Int) q with h | h
    · have : den * ((l.length : Int) + 1) ≤ den * q := Int.mul_le_mul_of_nonneg_left (by omega) (by omega)
      rw [Int.mul_add] at this
      omega
    · exact h
  have hi : (q - 1).toNat < zs.length := by omega
  refine ⟨(InK_i64 _).2 (by omega), (InK_i64 _).2 (by omega), (InK_i64 _).2 (by omega), by omega, (InK_i64 _).2 (by omega), (InK_i64 _).2 (by omega), E'.sm hi, by omega, by omega, E'.sm hi, _, E'.int hi, hR _ _ old wf' (.inl ⟨hperm.mem_iff.1 (getD_mem hi), ?_, fun u hu hg => ?_⟩)⟩
  · have h6 := cnt_at hsorted hi
    show X ≤ (cnt l (zs.getD (q - 1).toNat 0) : Int) * den
    rw [show cnt l (zs.getD (q - 1).toNat 0) = cnt zs (zs.getD (q - 1).toNat 0) from (hperm.countP_eq _).symm]
    generalize cnt zs (zs.getD (q - 1).toNat 0) = n at h6 ⊢
    have h7 : den * q ≤ den * (n : Int) := Int.mul_le_mul_of_nonneg_left (by omega) (by omega)
    rw [Int.mul_comm (n : Int) den]
    omega
  · refine Int.not_lt.1 fun hlt => ?_
    have h6 := cnt_below hsorted hi hlt
    rw [show cnt zs u = cnt l u from hperm.countP_eq _] at h6
    simp only at hg
    generalize cnt l u = n at h6 hg
    have h7 : den * (n : Int) ≤ den * (q - 1) := Int.mul_le_mul_of_nonneg_left (by omega) (by omega)
    rw [Int.mul_sub, Int.mul_one] at h7
    rw [Int.mul_comm (n : Int) den] at hg
    omega

theorem c31 (w0 : World) (h0 : Heap) (o1 : Option Addr) (c1 : Nat) (l : List Int) (num den : Int) (e1 : Elts h0 o1 (l.map I))
    (R : Value → Heap → Prop) (hR : ∀ x e, QuantR l num den x e → R (.tuple #[.int .i64 x, .int .i64 e]) h0) :
    (top P w0).call 31 #[.slice o1 l.length c1, .int .i64 num, .int .i64 den] h0 R := by
  refine vc31 w0 R h0 o1 l.length c1 num den ?_
  unfold QuantR at hR
  refine ⟨fun h1 => hR _ _ (by rw [if_pos (by omega)]; simp), fun h1 => ⟨fun h2 => hR _ _ (by rw [if_neg (by omega), if_pos (by omega)]; simp), fun h2 => ⟨fun h3 => hR _ _ (by rw [if_neg (by omega), if_pos (by omega)]; simp), fun h3 => ⟨fun h4 => hR _ _ (by rw [if_neg (by omega), if_pos (by omega)]; simp), fun h4 => ⟨fun h5 => hR _ _ (by rw [if_neg (by omega), if_neg (by omega), if_pos (by omega)]; simp), fun h5 => ?_⟩⟩⟩⟩⟩
  replace hR : ∀ x, Least (fun u => num * l.length ≤ cnt l u * den) l x → R (.tuple #[.int .i64 x, .int .i64 0]) h0 := fun x c => hR x 0 (by rw [if_neg (by omega), if_neg (by omega), if_neg (by omega)]; exact ⟨rfl, c⟩)
  have m2 : num * (l.length : Int) ≤ 1000000 * 200 := Int.mul_le_mul (by omega) (by omega) (by omega) (by omega)
  have m1 : 0 ≤ num * (l.length : Int) := Int.mul_nonneg (by omega) (by omega)
  generalize hgood : (fun u => num * (l.length : Int) ≤ cnt l u * den) = good at hR
  have hg' : ∀ u, good u ↔ num * (l.length : Int) ≤ cnt l u * den := fun u => by rw [← hgood]
  refine ⟨fun j x b i => 0 ≤ i ∧ (j : Int) + i = l.length ∧ Least good (l.take i.toNat) x ∧ (b = true ↔ ∃ u ∈ l.take i.toNat, good u), ⟨l.length, by omega, by omega, .inr ⟨rfl, by simp⟩, by simp⟩, ?_⟩
  rintro j x b i ⟨hi0, hj, hx, hb⟩ -
  refine ⟨fun hlt => ?_, fun hge => ?_⟩
  · have hi : i.toNat < l.length := by omega
    have hs : (i + 1).toNat = i.toNat + 1 := by omega
    refine ⟨fun j2 n k => 0 ≤ k ∧ (j2 : Int) + k = l.length ∧ n = cnt (l.take k.toNat) (l.getD i.toNat 0), ⟨l.length, by omega, by omega, rfl⟩, ?_⟩
    rintro j2 n k ⟨hk0, hj2, rfl⟩ -
    refine ⟨fun hk1 => ?_, fun hk1 => ?_⟩
    · have hk : k.toNat < l.length := by omega
      have hks : (k + 1).toNat = k.toNat + 1 := by omega
      have hc := cnt_le (l.take k.toNat) (l.getD i.toNat 0)
      simp only [List.length_take] at hc
      refine ⟨e1.sm hk, hk0, hk1, e1.sm hk, _, e1.int hk, e1.sm hi, hi0, hlt, e1.sm hi, _, e1.int hi, fun g => ⟨(InK_i64 _).2 (by omega), (InK_i64 _).2 (by omega), j2 - 1, by omega, by omega, by omega, ?_⟩, fun g => ⟨(InK_i64 _).2 (by omega), j2 - 1, by omega, by omega, by omega, ?_⟩⟩
      · rw [hks, cnt_step hk, if_pos g]; omega
      · rw [hks, cnt_step hk, if_neg g]; omega
    · have hkn : k.toNat = l.length := by omega
      rw [hkn, List.take_length]
      have hc := cnt_le l (l.getD i.toNat 0)
      have m4 : (cnt l (l.getD i.toNat 0) : Int) * den ≤ 200 * 1000000 := Int.mul_le_mul (by omega) (by omega) (by omega) (by omega)
      have m5 : 0 ≤ (cnt l (l.getD i.toNat 0) : Int) * den := Int.mul_nonneg (by omega) (by omega)
      have next : ∀ x' b', Least good (l.take i.toNat ++ [l.getD i.toNat 0]) x' → (b' = true ↔ ∃ u ∈ l.take i.toNat ++ [l.getD i.toNat 0], good u) → 0 ≤ i + 1 ∧ ((j - 1 : Nat) : Int) + (i + 1) = l.length ∧ Least good (l.take (i + 1).toNat) x' ∧ (b' = true ↔ ∃ u ∈ l.take (i + 1).toNat, good u) := by
        intro x' b' h1 h2
        refine ⟨by omega, by omega, ?_⟩
        rw [hs, take_one hi]; exact ⟨h1, h2⟩
      have inn : InK .i64 (i + 1) := (InK_i64 _).2 (by omega)
      have hj1 : j - 1 < j := by omega
      refine ⟨(InK_i64 _).2 (by omega), (InK_i64 _).2 (by omega), fun g => ?_, fun g => ?_⟩
      · have hgd : good (l.getD i.toNat 0) := (hg' _).2 (by omega)
        have hex : ∃ u ∈ l.take i.toNat ++ [l.getD i.toNat 0], good u := ⟨_, by simp, hgd⟩
        refine ⟨fun hbt => ?_, fun hbf => ?_⟩
        · obtain ⟨u0, hu0, hg0⟩ := hb.1 hbt
          have hx' : x ∈ l.take i.toNat ∧ good x ∧ ∀ u ∈ l.take i.toNat, good u → x ≤ u := by
            rcases hx with hx | ⟨_, hx⟩
            · exact hx
            · exact absurd hg0 (hx _ hu0)
          refine ⟨e1.sm hi, hi0, hlt, e1.sm hi, _, e1.int hi, fun g3 => ⟨e1.sm hi, hi0, hlt, e1.sm hi, _, e1.int hi, inn, j - 1, hj1, next _ _ (.inl ⟨by simp, hgd, fun u hu hu' => ?_⟩) ⟨fun _ => hex, fun _ => rfl⟩⟩, fun g3 => ⟨inn, j - 1, hj1, next _ _ (.inl ⟨by simp [hx'.1], hx'.2.1, fun u hu hu' => ?_⟩) ⟨fun _ => hex, fun _ => rfl⟩⟩⟩
          · rcases List.mem_append.1 hu with hu | hu
            · have := hx'.2.2 u hu hu'; omega
            · simp only [List.mem_singleton] at hu; subst hu; omega
          · rcases List.mem_append.1 hu with hu | hu
            · exact hx'.2.2 u hu hu'
            · simp only [List.mem_singleton] at hu; subst hu; omega
        · have hno : ∀ u ∈ l.take i.toNat, ¬ good u := fun u hu hgu => hbf (hb.2 ⟨u, hu, hgu⟩)
          refine ⟨e1.sm hi, hi0, hlt, e1.sm hi, _, e1.int hi, inn, j - 1, hj1, next _ _ (.inl ⟨by simp, hgd, fun u hu hu' => ?_⟩) ⟨fun _ => hex, fun _ => rfl⟩⟩
          rcases List.mem_append.1 hu with hu | hu
          · exact absurd hu' (hno u hu)
          · simp only [List.mem_singleton] at hu; subst hu; omega
      · have hgd : ¬ good (l.getD i.toNat 0) := fun h => g ((hg' _).1 h)
        refine ⟨inn, j - 1, hj1, next _ _ ?_ ?_⟩
        · rcases hx with ⟨a1, a2, a3⟩ | ⟨rfl, a2⟩
          · refine .inl ⟨by simp [a1], a2, fun u hu hu' => ?_⟩
            rcases List.mem_append.1 hu with hu | hu
            · exact a3 u hu hu'
            · simp only [List.mem_singleton] at hu; subst hu; exact absurd hu' hgd
          · refine .inr ⟨rfl, fun u hu hu' => ?_⟩
            rcases List.mem_append.1 hu with hu | hu
            · exact a2 u hu hu'
            · simp only [List.mem_singleton] at hu; subst hu; exact absurd hu' hgd
        · rw [hb]
          constructor
          · rintro ⟨u, hu, hu'⟩; exact ⟨u, by simp [hu], hu'⟩
          · rintro ⟨u, hu, hu'⟩
            rcases List.mem_append.1 hu with hu | hu
            · exact ⟨u, hu, hu'⟩
            · simp only [List.mem_singleton] at hu; subst hu; exact absurd hu' hgd
  · have : i.toNat = l.length := by omega
    rw [this, List.take_length] at hx
    exact hR _ hx

end Go.Proofs.YtkfoibidnkfndaaGreatDoor
