/- Symbolic execution, part 10: the executor is sound: loops, every step. -/
import Derived.Test.YtkfoibidnkfndaaGreatDoorAbS9
set_option linter.unusedVariables false
set_option linter.unusedSimpArgs false
namespace Go.Abs

section
variable {P : Program} {X : Exts} {T : Lvl} {R : Value → Heap → Prop} {tc : TC} {ρ : Env}

/-- The environment at a loop's head. -/
def headEnv (P : Program) (ρ : Env) (n0 : Nat) (xs : List SU) (d : Nat → Value) : Env := ρ.take n0 ++ xs.map (SU.den P ρ) ++ [.d d]

theorem getU_lt {n0 : Nat} (h0 : n0 ≤ ρ.length) {xs : List SU} {d : Nat → Value} {n : Nat} (h : n < n0) : getU (headEnv P ρ n0 xs d) n = getU ρ n := by
  have hl : (ρ.take n0).length = n0 := by simp; omega
  unfold headEnv
  rw [List.append_assoc, getU_append _ _ _ (by rw [hl]; exact h)]
  have := getU_append (ρ.take n0) (ρ.drop n0) n (by rw [hl]; exact h)
  rw [List.take_append_drop] at this
  exact this.symm

theorem getU_skip : ∀ (l r : Env) (k : Nat), getU (l ++ r) (l.length + k) = getU r k
  | [], r, k => by simp
  | a :: l, r, k => by
    have : (a :: l).length + k = (l.length + k) + 1 := by simp; omega
    rw [this]
    exact getU_skip l r k

theorem getU_map : ∀ {xs : List SU} {k : Nat} {u : SU} {r : Env}, getSU xs k = some u → getU (xs.map (SU.den P ρ) ++ r) k = some (u.den P ρ)
  | [], k, u, r, h => by simp [getSU] at h
  | a :: l, 0, u, r, h => by simp only [getSU, Option.some.injEq] at h; subst h; rfl
  | a :: l, k + 1, u, r, h => getU_map (xs := l) h

theorem getU_ge {n0 : Nat} (h0 : n0 ≤ ρ.length) {xs : List SU} {d : Nat → Value} {n : Nat} (h : n0 ≤ n) {u : SU} (hu : getSU xs (n - n0) = some u) : getU (headEnv P ρ n0 xs d) n = some (u.den P ρ) := by
  have hl : (ρ.take n0).length = n0 := by simp; omega
  unfold headEnv
  rw [List.append_assoc]
  have e : n = (ρ.take n0).length + (n - n0) := by omega
  rw [e, getU_skip]
  exact getU_map hu

theorem getU_d {n0 : Nat} (h0 : n0 ≤ ρ.length) {xs : List SU} {d : Nat → Value} : getU (headEnv P ρ n0 xs d) (n0 + xs.length) = some (.d d) := by
  have hl : (ρ.take n0).length = n0 := by simp; omega
  unfold headEnv
  rw [List.append_assoc]
  have e : n0 + xs.length = (ρ.take n0).length + xs.length := by omega
  rw [e, getU_skip]
  have : xs.length = (xs.map (SU.den P ρ)).length + 0 := by simp
  rw [this, getU_skip]
  rfl

theorem head_app {n0 : Nat} (h0 : n0 ≤ ρ.length) {xs : List SU} {d : Nat → Value} : ∃ r r', headEnv P ρ n0 xs d = ρ.take n0 ++ r ∧ ρ = ρ.take n0 ++ r' ∧ (ρ.take n0).length = n0 :=
  ⟨_, _, by unfold headEnv; rw [List.append_assoc], (List.take_append_drop n0 ρ).symm, by simp; omega⟩

theorem dn_head {n0 : Nat} (h0 : n0 ≤ ρ.length) {xs : List SU} {d : Nat → Value} {v : SV} (h : v.ok n0 = true) : v.dn ρ = v.dn (headEnv P ρ n0 xs d) := by
  obtain ⟨r, r', e1, e2, e3⟩ := head_app (P := P) h0 (xs := xs) (d := d)
  rw [e1, SV.dn_app (by rw [e3]; exact h)]
  conv => lhs; rw [e2]
  rw [SV.dn_app (by rw [e3]; exact h)]

theorem obj_head {n0 : Nat} (h0 : n0 ≤ ρ.length) {xs : List SU} {d : Nat → Value} {o : SObj} (h : o.ok n0 = true) : o.den P ρ = o.den P (headEnv P ρ n0 xs d) := by
  obtain ⟨r, r', e1, e2, e3⟩ := head_app (P := P) h0 (xs := xs) (d := d)
  rw [e1, SObj.den_app (by rw [e3]; exact h)]
  conv => lhs; rw [e2]
  rw [SObj.den_app (by rw [e3]; exact h)]

theorem bn_head {n0 : Nat} (h0 : n0 ≤ ρ.length) {xs : List SU} {d : Nat → Value} {o : BN} (h : o.ok n0 = true) : o.den ρ = o.den (headEnv P ρ n0 xs d) := by
  obtain ⟨r, r', e1, e2, e3⟩ := head_app (P := P) h0 (xs := xs) (d := d)
  rw [e1, BN.den_app (by rw [e3]; exact h)]
  conv => lhs; rw [e2]
  rw [BN.den_app (by rw [e3]; exact h)]

theorem defs_head {n0 : Nat} (h0 : n0 ≤ ρ.length) {xs : List SU} {d : Nat → Value} {l : List SDef} (h : defsOk n0 l = true) : l.map (SDef.den ρ) = l.map (SDef.den (headEnv P ρ n0 xs d)) := by
  obtain ⟨r, r', e1, e2, e3⟩ := head_app (P := P) h0 (xs := xs) (d := d)
  rw [e1, defs_app (by rw [e3]; exact h)]
  conv => lhs; rw [e2]
  rw [defs_app (by rw [e3]; exact h)]

theorem sh_head {n0 : Nat} (h0 : n0 ≤ ρ.length) {xs : List SU} {d : Nat → Value} {s : SH} (h : s.ok n0 = true) : s.den P ρ = s.den P (headEnv P ρ n0 xs d) := by
  obtain ⟨r, r', e1, e2, e3⟩ := head_app (P := P) h0 (xs := xs) (d := d)
  rw [e1, SH.den_app (by rw [e3]; exact h)]
  conv => lhs; rw [e2]
  rw [SH.den_app (by rw [e3]; exact h)]

theorem ble_le {a b : Nat} (h : Nat.ble a b = true) : a ≤ b := Nat.le_of_ble_eq_true h
theorem ble_gt {a b : Nat} (h : Nat.ble a b = false) : b < a := by
  rcases Nat.lt_or_ge b a with h1 | h1
  · exact h1
  · have := Nat.ble_eq_true_of_le h1; rw [this] at h; cases h

theorem dn_snd {v : SV} (h : ∀ a b, v ≠ .cons a b) : (v.dn ρ).2 = [] := by
  cases v <;> first | rfl | exact (h _ _ rfl).elim

theorem inst_dn {n0 : Nat} (h0 : n0 ≤ ρ.length) {xs : List SU} {d : Nat → Value} : ∀ {v w : SV}, inst n0 xs v = some w → w.dn ρ = v.dn (headEnv P ρ n0 xs d) := by
  intro v
  induction v with
  | agg l ih =>
    intro w h
    simp only [inst] at h
    split at h
    · rename_i l' hl
      cases h
      simp only [SV.dn, ih hl]
    · cases h
  | cons v l ih1 ih2 =>
    intro w h
    simp only [inst] at h
    split at h
    · rename_i v' l' hv hl
      cases h
      simp only [SV.dn, ih1 hv, ih2 hl]
    · cases h
  | vv n =>
    intro w h
    simp only [inst] at h
    cases hb : Nat.ble n0 n with
    | true =>
      rw [hb] at h
      simp only [cond_true] at h
      split at h
      · cases h
      · rename_i v hv hs
        cases h
        have := getU_ge (P := P) h0 (d := d) (ble_le hb) hs
        simp only [SV.dn, Env.v, this, SU.den]
        have e : (w.dn ρ).2 = [] := dn_snd fun a b hw => hv a b (by rw [hw])
        exact Prod.ext rfl e
      · cases h
    | false =>
      rw [hb] at h
      cases h
      simp only [SV.dn, Env.v, getU_lt (P := P) h0 (ble_gt hb)]
  | bool e =>
    intro w h
    cases e with
    | bv n =>
      simp only [inst] at h
      cases hb : Nat.ble n0 n with
      | true =>
        rw [hb] at h
        simp only [cond_true] at h
        split at h
        · rename_i v hs
          cases h
          have := getU_ge (P := P) h0 (d := d) (ble_le hb) hs
          simp only [SV.dn, E.b, Env.b, this, SU.den]
        · cases h
      | false =>
        rw [hb] at h
        cases h
        simp only [SV.dn, E.b, Env.b, getU_lt (P := P) h0 (ble_gt hb)]
    | _ =>
      simp only [inst] at h
      rw [Bool.cond_eq_ite] at h
      split at h
      · cases h; exact dn_head h0 ‹_›
      · cases h
  | int k e =>
    intro w h
    cases e with
    | iv n =>
      simp only [inst] at h
      cases hb : Nat.ble n0 n with
      | true =>
        rw [hb] at h
        simp only [cond_true] at h
        split at h
        · rename_i v hs
          cases h
          have := getU_ge (P := P) h0 (d := d) (ble_le hb) hs
          simp only [SV.dn, E.i, E.den, Env.i, this, SU.den]
        · cases h
      | false =>
        rw [hb] at h
        cases h
        simp only [SV.dn, E.i, E.den, Env.i, getU_lt (P := P) h0 (ble_gt hb)]
    | _ =>
      simp only [inst] at h
      rw [Bool.cond_eq_ite] at h
      split at h
      · cases h; exact dn_head h0 ‹_›
      · cases h
  | str e =>
    intro w h
    cases e with
    | sv n =>
      simp only [inst] at h
      cases hb : Nat.ble n0 n with
      | true =>
        rw [hb] at h
        simp only [cond_true] at h
        split at h
        · rename_i v hs
          cases h
          have := getU_ge (P := P) h0 (d := d) (ble_le hb) hs
          simp only [SV.dn, E.s, E.den, Env.s, this, SU.den]
        · cases h
      | false =>
        rw [hb] at h
        cases h
        simp only [SV.dn, E.s, E.den, Env.s, getU_lt (P := P) h0 (ble_gt hb)]
    | _ =>
      simp only [inst] at h
      rw [Bool.cond_eq_ite] at h
      split at h
      · cases h; exact dn_head h0 ‹_›
      · cases h
  | ptr a =>
    intro w h
    cases a with
    | ov n =>
      simp only [inst] at h
      cases hb : Nat.ble n0 n with
      | true =>
        rw [hb] at h
        simp only [cond_true] at h
        split at h
        · rename_i v hs
          cases h
          have := getU_ge (P := P) h0 (d := d) (ble_le hb) hs
          simp only [SV.dn, AE.den, Env.o, this, SU.den]
        · cases h
      | false =>
        rw [hb] at h
        cases h
        simp only [SV.dn, AE.den, Env.o, getU_lt (P := P) h0 (ble_gt hb)]
    | _ =>
      simp only [inst] at h
      rw [Bool.cond_eq_ite] at h
      split at h
      · cases h; exact dn_head h0 ‹_›
      · cases h
  | slice a n c =>
    intro w h
    have dflt : (bif (SV.slice a n c).ok n0 then some (SV.slice a n c) else none) = some w → w.dn ρ = (SV.slice a n c).dn (headEnv P ρ n0 xs d) := by
      intro h
      rw [Bool.cond_eq_ite] at h
      split at h
      · cases h; exact dn_head h0 ‹_›
      · cases h
    cases a with
    | ov n' =>
      cases n with
      | nv m =>
        cases c with
        | nv j =>
          simp only [inst] at h
          cases hb : (Nat.ble n0 n' && (Nat.ble n0 m && Nat.ble n0 j)) with
          | true =>
            rw [hb] at h
            simp only [cond_true] at h
            simp only [Bool.and_eq_true] at hb
            split at h
            · rename_i a x y hs1 hs2 hs3
              cases h
              have g1 := getU_ge (P := P) h0 (d := d) (ble_le hb.1) hs1
              have g2 := getU_ge (P := P) h0 (d := d) (ble_le hb.2.1) hs2
              have g3 := getU_ge (P := P) h0 (d := d) (ble_le hb.2.2) hs3
              simp only [SV.dn, AE.den, Env.o, g1, SU.den, E.t, E.i, E.den, Env.n, g2, g3, Int.toNat_natCast]
            · cases h
          | false =>
            rw [hb] at h
            simp only [cond_false] at h
            cases hc : (Nat.blt n' n0 && (Nat.blt m n0 && Nat.blt j n0)) with
            | true =>
              rw [hc] at h
              cases h
              simp only [Bool.and_eq_true] at hc
              have g1 := getU_lt (P := P) h0 (xs := xs) (d := d) (blt_lt hc.1)
              have g2 := getU_lt (P := P) h0 (xs := xs) (d := d) (blt_lt hc.2.1)
              have g3 := getU_lt (P := P) h0 (xs := xs) (d := d) (blt_lt hc.2.2)
              simp only [SV.dn, AE.den, Env.o, g1, E.t, E.i, E.den, Env.n, g2, g3]
            | false => rw [hc] at h; cases h
        | _ => simp only [inst] at h; exact dflt h
      | _ => simp only [inst] at h; exact dflt h
    | _ => simp only [inst] at h; exact dflt h
  | _ =>
    intro w h
    simp only [inst] at h
    rw [Bool.cond_eq_ite] at h
    split at h
    · cases h; exact dn_head h0 ‹_›
    · cases h

theorem instIs_dn {n0 : Nat} (h0 : n0 ≤ ρ.length) {xs : List SU} {d : Nat → Value} {v w : SV} (h : instIs n0 xs v w = true) : w.dn ρ = v.dn (headEnv P ρ n0 xs d) := by
  unfold instIs at h
  split at h
  · rename_i v' hv
    rw [← SV.same_eq h]
    exact inst_dn h0 hv
  · cases h

theorem sameTmps_den {n0 : Nat} (h0 : n0 ≤ ρ.length) {xs : List SU} {d : Nat → Value} : ∀ {pat act : SV} {i : Nat}, sameTmps n0 xs (n0 + xs.length) pat act i = none → (∀ j, d (i + j) = (nth act j).den ρ) → pat.denL (headEnv P ρ n0 xs d) = act.denL ρ := by
  intro pat
  induction pat with
  | nil =>
    intro act i h hd
    cases act <;> simp only [sameTmps, reduceCtorEq] at h
    rfl
  | cons v l ih1 ih2 =>
    intro act i h hd
    cases act with
    | cons w m =>
      have hd' : ∀ j, d (i + 1 + j) = (nth m j).den ρ := fun j => by
        have := hd (j + 1)
        rw [show i + 1 + j = i + (j + 1) by omega]
        exact this
      have fin : v.den (headEnv P ρ n0 xs d) = w.den ρ → sameTmps n0 xs (n0 + xs.length) l m (i + 1) = none → (SV.cons v l).denL (headEnv P ρ n0 xs d) = (SV.cons w m).denL ρ := by
        intro e1 e2
        have := ih2 e2 hd'
        show v.den _ :: l.denL _ = w.den ρ :: m.denL ρ
        rw [e1, this]
      have gen : sameTmps n0 xs (n0 + xs.length) (.cons v l) (.cons w m) i = (bif instIs n0 xs v w then sameTmps n0 xs (n0 + xs.length) l m (i + 1) else some i) → (SV.cons v l).denL (headEnv P ρ n0 xs d) = (SV.cons w m).denL ρ := by
        intro e
        rw [e] at h
        cases hb : instIs n0 xs v w with
        | false => rw [hb] at h; cases h
        | true =>
          rw [hb] at h
          refine fin ?_ h
          unfold SV.den
          rw [instIs_dn (P := P) h0 hb]
      cases v with
      | dd n k =>
        simp only [sameTmps] at h
        cases hn : Nat.beq n (n0 + xs.length) with
        | true =>
          rw [hn] at h
          simp only [cond_true] at h
          cases hk : Nat.beq k i with
          | false => rw [hk] at h; cases h
          | true =>
            rw [hk] at h
            refine fin ?_ h
            rw [Nat.eq_of_beq_eq_true hn, Nat.eq_of_beq_eq_true hk]
            have := hd 0
            simp only [SV.den, SV.dn, Env.d, getU_d (P := P) h0]
            exact this
        | false =>
          rw [hn] at h
          simp only [cond_false] at h
          cases hb : ((SV.dd n k).same w && Nat.blt n n0) with
          | false => rw [hb] at h; cases h
          | true =>
            rw [hb] at h
            simp only [Bool.and_eq_true] at hb
            refine fin ?_ h
            rw [← SV.same_eq hb.1]
            simp only [SV.den, SV.dn, Env.d, getU_lt (P := P) h0 (xs := xs) (d := d) (blt_lt hb.2)]
      | _ => exact gen rfl
    | _ => simp only [sameTmps, reduceCtorEq] at h
  | _ =>
    intro act i h hd
    cases act <;> simp [sameTmps] at h

theorem instObjIs_den {n0 : Nat} (h0 : n0 ≤ ρ.length) {xs : List SU} {d : Nat → Value} {o o' : SObj} (h : instObjIs n0 xs o o' = true) : o'.den P ρ = o.den P (headEnv P ρ n0 xs d) := by
  have dflt : (o.ok n0 && o.same o') = true → o'.den P ρ = o.den P (headEnv P ρ n0 xs d) := by
    intro h
    simp only [Bool.and_eq_true] at h
    rw [← SObj.same_den h.2, obj_head h0 h.1]
  cases o with
  | cells kp l t lo hi =>
    simp only [instObjIs] at h
    split at h
    · rename_i l' hl
      rw [← SObj.same_den h]
      simp only [SObj.den, SV.denL, inst_dn (P := P) h0 (d := d) hl]
    · cases h
  | _ => exact dflt h

theorem sameUps_den {n0 : Nat} (h0 : n0 ≤ ρ.length) {xs : List SU} {d : Nat → Value} {s : SH} : ∀ {l : List (BN × SObj)}, sameUps n0 xs s.ups l = none →
    ∀ x ∈ l, (s.den P ρ).get (x.1.den (headEnv P ρ n0 xs d)) = some (x.2.den P (headEnv P ρ n0 xs d))
  | [], _, x, hx => by cases hx
  | (b, o) :: r, h, x, hx => by
    simp only [sameUps] at h
    split at h
    · rename_i o' hf
      cases hb : (instObjIs n0 xs o o' && b.ok n0) with
      | false => rw [hb] at h; cases h
      | true =>
        rw [hb] at h
        simp only [Bool.and_eq_true] at hb
        rcases List.mem_cons.1 hx with rfl | hx
        · rw [← bn_head (P := P) h0 hb.2, get_up hf, instObjIs_den h0 hb.1]
        · exact sameUps_den h0 h x hx
    · cases h

theorem upsSame_den : ∀ {l m : List (BN × SObj)}, upsSame l m = true → upsDen P ρ l = upsDen P ρ m
  | [], [], _ => rfl
  | (b, o) :: l, (c, p) :: m, h => by
    simp only [upsSame, Bool.and_eq_true] at h
    have := upsSame_den h.2.2
    simp only [upsDen, List.map_cons, BN.same_eq h.1, SObj.same_den h.2.1] at *
    rw [this]
  | [], _ :: _, h => by simp [upsSame] at h
  | _ :: _, [], h => by simp [upsSame] at h

theorem PE.same_eq : ∀ {a b : PE}, a.same b = true → a = b := by
  intro a
  induction a with
  | of n => intro b h; cases b <;> simp only [PE.same, reduceCtorEq] at h; rw [Nat.eq_of_beq_eq_true h]
  | cons a p ih =>
    intro b h
    cases b <;> simp only [PE.same, Bool.and_eq_true, reduceCtorEq] at h
    rw [AE.same_eq h.1, ih h.2]

theorem SH.same_den {a b : SH} (h : a.same b = true) : a.den P ρ = b.den P ρ := by
  simp only [SH.same, Bool.and_eq_true] at h
  rw [SH.den_eq, SH.den_eq, Nat.eq_of_beq_eq_true h.1, Nat.eq_of_beq_eq_true h.2.1, upsSame_den h.2.2.1, PE.same_eq h.2.2.2]

theorem defsSame_den : ∀ {l m : List SDef}, defsSame l m = true → l.map (SDef.den ρ) = m.map (SDef.den ρ)
  | [], [], _ => rfl
  | .call f c a :: l, .call g d b :: m, h => by
    simp only [defsSame, Bool.and_eq_true] at h
    rw [Nat.eq_of_beq_eq_true h.1, SV.same_eq h.2.1, SV.same_eq h.2.2.1, List.map_cons, List.map_cons, defsSame_den h.2.2.2]
  | .coll a :: l, .coll b :: m, h => by
    simp only [defsSame, Bool.and_eq_true] at h
    rw [BN.same_eq h.1, List.map_cons, List.map_cons, defsSame_den h.2]
  | [], .call _ _ _ :: _, h => by simp [defsSame] at h
  | [], .coll _ :: _, h => by simp [defsSame] at h
  | .call _ _ _ :: _, [], h => by simp [defsSame] at h
  | .coll _ :: _, [], h => by simp [defsSame] at h
  | .call _ _ _ :: _, .coll _ :: _, h => by simp [defsSame] at h
  | .coll _ :: _, .call _ _ _ :: _, h => by simp [defsSame] at h

theorem cond_none {b : Bool} {α : Type} {x : α} (h : (bif b then none else some x) = none) : b = true := by cases b <;> simp at h ⊢

/-- WHAT FITS DENOTES THE SAME. -/
theorem fits_den {n0 : Nat} (h0 : n0 ≤ ρ.length) {xs : List SU} {pa : SAct} {ph : SH} {a : SAct} {s : SH} (h : fits n0 xs pa ph a s = none) :
    ∃ d, pa.den (headEnv P ρ n0 xs d) = a.den ρ ∧ ph.den P (headEnv P ρ n0 xs d) = s.den P ρ := by
  unfold fits at h
  rw [Bool.cond_eq_ite] at h
  split at h
  · cases h
  · rename_i hd
    simp only [Bool.or_eq_true, Bool.not_eq_true', not_or, Bool.not_eq_false] at hd
    split at h
    · cases h
    · rename_i ht
      refine ⟨fun i => (nth a.tmps i).den ρ, ?_, ?_⟩
      · simp only [SAct.den]
        rw [sameTmps_den h0 ht (fun j => by simp), ← defs_head h0 hd.2, defsSame_den hd.1]
      · cases hlt : Nat.blt ph.base n0 with
        | true =>
          rw [hlt] at h
          simp only [cond_true] at h
          cases hk : (ph.same s && ph.ok n0) with
          | true =>
            simp only [Bool.and_eq_true] at hk
            rw [← sh_head h0 hk.2, SH.same_den hk.1]
          | false => rw [hk] at h; cases h
        | false =>
          rw [hlt] at h
          simp only [cond_false] at h
          split at h
          · cases h
          · rename_i hu
            have hk := cond_none h
            simp only [Bool.and_eq_true] at hk
            obtain ⟨k1, k2, k3, k4⟩ := hk
            have k1 := Nat.eq_of_beq_eq_true k1
            split at k4
            · rename_i s' hs
              have hb : n0 ≤ ph.base := by
                rcases Nat.lt_or_ge ph.base n0 with h1 | h1
                · have : Nat.blt ph.base n0 = true := Nat.ble_eq_true_of_le h1
                  rw [this] at hlt; cases hlt
                · exact h1
              generalize hdd : (fun i => (nth a.tmps i).den ρ) = d
              have g := getU_ge (P := P) h0 (d := d) hb hs
              have eh : Env.h (headEnv P ρ n0 xs d) ph.base = s.den P ρ := by
                simp only [Env.h, g, SU.den]
                exact SH.same_den k4
              rw [SH.den_eq, eh, Nat.eq_of_beq_eq_true k2]
              split at k3
              · rename_i m hm
                rw [hm, Nat.eq_of_beq_eq_true k3]
                simp only [PE.den, eh]
                exact hup_same (sameUps_den h0 hu)
              · cases k3
            · cases k4

theorem typed_su : ∀ (xs : List SU), Typed (xs.map SU.srt) (xs.map (SU.den P ρ))
  | [] => .nil
  | .i e :: l => .i _ (typed_su l)
  | .b e :: l => .b _ (typed_su l)
  | .s e :: l => .s _ (typed_su l)
  | .v e :: l => .v _ (typed_su l)
  | .o e :: l => .o _ (typed_su l)
  | .n e :: l => .n _ (typed_su l)
  | .h e :: l => .h _ (typed_su l)

theorem denF_upd {n0 : Nat} {p : List U → Prop} : ∀ {k : List Fr}, frsOk n0 k = true → denF P X T R (upd tc n0 p) ρ k = denF P X T R tc ρ k
  | [], _ => rfl
  | f :: k, h => by
    simp only [frsOk, Bool.and_eq_true] at h
    have ih := denF_upd (p := p) h.2
    cases f <;> simp only [denF, ih]
    rename_i n1 ss pa ph
    have h1 := h.1
    simp only [Fr.ok] at h1
    have : Nat.beq n1 n0 = false := by
      have := blt_lt h1
      cases hb : Nat.beq n1 n0 with
      | false => rfl
      | true => have := Nat.eq_of_beq_eq_true hb; omega
    simp only [upd, this, cond_false]

theorem sBack_sound {n0 : Nat} {ss : List Srt} {pa : SAct} {ph : SH} {a : SAct} {s : SH} {nv : Nat} (hnv : ρ.length = nv) (h : (sBack n0 ss pa ph a s nv).den P T R tc ρ) :
    ∃ xs d, Typed ss xs ∧ tc n0 xs ∧ a.den ρ = pa.den (ρ.take n0 ++ xs ++ [.d d]) ∧ s.den P ρ = ph.den P (ρ.take n0 ++ xs ++ [.d d]) := by
  unfold sBack at h
  simp only at h
  rw [Bool.cond_eq_ite] at h
  split at h
  · rename_i hk
    simp only [Bool.and_eq_true, decide_eq_true_eq] at hk
    split at h
    · rename_i hf
      obtain ⟨d, h1, h2⟩ := fits_den (P := P) (ρ := ρ) (by rw [hnv]; exact ble_le hk.2) hf
      refine ⟨_, d, ?_, h, h1.symm, h2.symm⟩
      rw [← hk.1]
      exact typed_su _
    · exact h.elim
  · exact h.elim

theorem sLoop_sound (hT : TopLike P X T) {rec : Cfg → Tree} (hrec : RecOK P X T R rec) {lh : LH} {f : FuncId} {p : List Nat} {c : Cfg} {c0 : Code} (hc : codeAt P f p = .loop c0) (hnv : ρ.length = c.nv)
    (h : (sLoop P rec lh f p c).den P T R tc ρ) : T.code (rdDen ρ c.rd) (.loop c0) ((denF P X T R tc ρ c.k).q (rdDen ρ c.rd)) (c.a.den ρ) (c.h.den P ρ) := by
  unfold sLoop at h
  simp only at h
  rw [Bool.cond_eq_ite] at h
  split at h
  case isFalse => exact h.elim
  rename_i hk
  simp only [Bool.and_eq_true] at hk
  obtain ⟨k1, k2, k3⟩ := hk
  have k1 := Nat.eq_of_beq_eq_true k1
  generalize hpa : (SAct.mk _ c.a.defers : SAct) = pa at h
  generalize hph : (bif lh.keepH then c.h else _ : SH) = ph at h
  generalize hxs : (_ ++ _ : List SU) = xs at h k1
  generalize hdv : (c.nv + _ + _ : Nat) = dv at h k1
  split at h
  case h_2 => exact h.elim
  rename_i hf
  obtain ⟨I, ⟨j0, hj0⟩, hround⟩ := h
  have htake : ρ.take c.nv = ρ := by rw [← hnv]; simp
  obtain ⟨d0, e1, e2⟩ := fits_den (P := P) (ρ := ρ) (by omega) hf
  simp only [headEnv, htake] at e1 e2
  have hlen : xs.length = (xs.map SU.srt).length := by simp
  refine hT.loop (fun j a h => ∃ ys d, Typed (xs.map SU.srt) ys ∧ appT (xs.map SU.srt) (I j) ys ∧ a = pa.den (ρ ++ ys ++ [.d d]) ∧ h = ph.den P (ρ ++ ys ++ [.d d])) ?_ (j := j0) ⟨_, d0, typed_su xs, hj0, e1.symm, e2.symm⟩
  rintro j a hh ⟨ys, d, ty, hI, rfl, rfl⟩
  have h1 := allT_typed ty (hround j) hI d
  have hl : (ρ ++ ys ++ [U.d d]).length = dv + 1 := by simp [ty.length]; omega
  have h2 := hrec.use h1 hl
  simp only [Cfg.den, denF] at h2
  have hsub : codeAt P f (0 :: p) = c0 := by simp only [codeAt, hc, subCode]
  rw [hsub] at h2
  have hrd : rdDen (ρ ++ ys ++ [.d d]) c.rd = rdDen ρ c.rd := by
    rw [List.append_assoc]; exact rd_app (by rw [hnv]; exact k3)
  have hK : denF P X T R (upd tc c.nv fun zs => ∃ j', j' < j ∧ appT (xs.map SU.srt) (I j') zs) (ρ ++ ys ++ [.d d]) c.k = denF P X T R tc ρ c.k := by
    rw [List.append_assoc, denF_app P X T R (by rw [hnv]; exact k2), denF_upd k2]
  rw [hrd, hK] at h2
  refine hT.codeMono (fun e a2 h3 hq => ?_) h2
  cases e with
  | normal =>
    obtain ⟨zs, d2, tz, ht, q1, q2⟩ := hq
    have hb : Nat.beq c.nv c.nv = true := by simp
    simp only [upd, hb, cond_true] at ht
    obtain ⟨j', hlt, hI'⟩ := ht
    have ht2 : (ρ ++ ys ++ [U.d d]).take c.nv = ρ := by
      rw [List.append_assoc, List.take_append_of_le_length (by omega), htake]
    rw [ht2] at q1 q2
    exact ⟨j', hlt, zs, d2, tz, hI', q1, q2⟩
  | _ => exact hq

end
end Go.Abs
