/- Symbolic execution, part 5: the executor is sound: operations that read no memory. -/
import Derived.Test.YtkfoibidnkfndaaGreatDoorAbS4
set_option linter.unusedVariables false
set_option linter.unusedSimpArgs false
namespace Go.Abs

/-! ### Smart expressions -/

section
variable {ρ : Env}

theorem leI_le {a b : Int} (h : leI a b = true) : a ≤ b := of_decide_eq_true h
theorem ltI_lt {a b : Int} (h : ltI a b = true) : a < b := of_decide_eq_true h

theorem addL_i (a b : E) : (addL a b).i ρ = a.i ρ + b.i ρ := by
  unfold addL
  split <;> simp [E.i, E.den]
theorem subL_i (a b : E) : (subL a b).i ρ = a.i ρ - b.i ρ := by
  unfold subL
  split <;> simp [E.i, E.den]
theorem mulL_i (a b : E) : (mulL a b).i ρ = a.i ρ * b.i ρ := by
  unfold mulL
  split <;> simp [E.i, E.den]
theorem natL_i (a : E) : (natL a).i ρ = (a.t ρ : Nat) := by
  unfold natL
  split <;> try simp [E.i, E.den, E.t]
  rename_i z
  cases h : leI 0 z with
  | false => simp [E.den]
  | true => have := leI_le h; simp [E.den]; omega
theorem natL_t (a : E) : (natL a).t ρ = a.t ρ := by
  have := natL_i (ρ := ρ) a
  show ((natL a).i ρ).toNat = a.t ρ
  rw [this]; exact Int.toNat_natCast _
theorem notL_b (a : E) : (notL a).b ρ = !(a.b ρ) := by
  unfold notL
  split <;> simp [E.b]
theorem andL_b (a b : E) : (andL a b).b ρ = (a.b ρ && b.b ρ) := by
  unfold andL
  split <;> simp [E.b]
theorem orL_b (a b : E) : (orL a b).b ρ = (a.b ρ || b.b ρ) := by
  unfold orL
  split <;> simp [E.b]
theorem cmpL_b (op : BinOp) (a b : E) : (cmpL op a b).b ρ = cmpB op (a.i ρ) (b.i ρ) := by
  unfold cmpL
  split
  · simp [E.b, E.i, E.den]
  · cases h : a.same b with
    | false => rfl
    | true =>
      rw [E.same_eq h]
      simp only [cond_true, E.b]
      cases op <;> simp [cmpB]
theorem scmpL_b (op : BinOp) (a b : E) : (scmpL op a b).b ρ = scmpB op (a.s ρ) (b.s ρ) := by
  unfold scmpL
  split <;> simp [E.b, E.s, E.den]
theorem slenL_i (a : E) : (slenL a).i ρ = ((a.s ρ).size : Nat) := by
  unfold slenL
  split <;> simp [E.i, E.s, E.den]
theorem catL_s (a b : E) : (catL a b).s ρ = a.s ρ ++ b.s ρ := by
  unfold catL
  split <;> simp [E.s, E.den]

theorem knowE_b {e : E} {b : Bool} (h : e.b ρ = b) (x : E) : (knowE e b x).b ρ = x.b ρ := by
  induction x with
  | not x ih => simp only [knowE, notL_b, ih]; rfl
  | and x y ih1 ih2 => simp only [knowE, andL_b, ih1, ih2]; rfl
  | or x y ih1 ih2 => simp only [knowE, orL_b, ih1, ih2]; rfl
  | _ =>
    simp only [knowE]
    first
    | (cases hs : E.same _ e with
       | false => rfl
       | true => rw [E.same_eq hs]; simp only [cond_true, E.b] at *; exact h.symm)

theorem knowV_dn {e : E} {b : Bool} (h : e.b ρ = b) (v : SV) : (knowV e b v).dn ρ = v.dn ρ := by
  induction v with
  | bool x => simp only [knowV, SV.dn, knowE_b h]
  | cons v l ih1 ih2 => simp only [knowV, SV.dn, ih1, ih2]
  | _ => rfl

theorem sm_some {a : AE} (h : a.sm = true) : (a.den ρ).isSome = true := by
  induction a with
  | blk b off => rfl
  | glob g => rfl
  | add a k ih => simp only [AE.sm] at h; simp only [AE.den, Option.isSome_map, ih h]
  | plain a ih => simp only [AE.sm] at h; simp only [AE.den, Option.isSome_map, ih h]
  | spot a s ih => simp only [AE.sm] at h; simp only [AE.den, Option.isSome_map, ih h]
  | cut a l c s ih => simp only [AE.sm] at h; simp only [AE.den, Option.isSome_map, ih h]
  | _ => simp [AE.sm] at h

theorem nilE_b (a : AE) : a.nilE.b ρ = (a.den ρ).isNone := by
  induction a with
  | add a k ih => simp only [AE.nilE, AE.den, Option.isNone_map, ih]
  | plain a ih => simp only [AE.nilE, AE.den, Option.isNone_map, ih]
  | spot a s ih => simp only [AE.nilE, AE.den, Option.isNone_map, ih]
  | cut a l c s ih => simp only [AE.nilE, AE.den, Option.isNone_map, ih]
  | _ => simp [AE.nilE, AE.den, E.b]

theorem addTo_zero (x : Addr) : addTo 0 x = x := by simp [addTo, Addr.add]
theorem addTo_addTo (j k : Nat) (x : Addr) : addTo k (addTo j x) = addTo (j + k) x := by
  unfold addTo Addr.add
  by_cases hj : j = 0
  · subst hj; simp
  · by_cases hk : k = 0
    · subst hk; simp [hj]
    · have : ¬ j + k = 0 := by omega
      rw [if_neg hj, if_neg hk, if_neg this]
      simp; omega
theorem addTo_mk (b o k : Nat) : addTo k ⟨b, o, none⟩ = ⟨b, o + k, none⟩ := by
  unfold addTo Addr.add
  by_cases hk : k = 0
  · subst hk; simp
  · simp [hk]

theorem toNat_add {x y : Int} (h : (leI 0 x && leI 0 y) = true) : (x + y).toNat = x.toNat + y.toNat := by
  simp only [Bool.and_eq_true] at h
  have h1 := leI_le h.1
  have h2 := leI_le h.2
  omega

theorem addA_den (a : AE) (k : E) : (addA a k).den ρ = (a.den ρ).map (addTo (k.t ρ)) := by
  unfold addA
  split
  · have : (addTo 0 : Addr → Addr) = id := funext addTo_zero
    simp [E.t, E.i, E.den, this]
  · rename_i b x y hy
    cases h : leI 0 x && leI 0 y with
    | false => rfl
    | true => simp [AE.den, E.t, E.i, E.den, addTo_mk, toNat_add h]
  · rename_i a x y hy
    cases h : leI 0 x && leI 0 y with
    | false => rfl
    | true =>
      simp only [cond_true, AE.den, Option.map_map]
      congr 1
      funext z
      simp only [Function.comp, addTo_addTo, E.t, E.i, E.den, toNat_add h]
  · rfl

theorem plainA_spotA (s : Nat) (a : Addr) : plainA (spotA s a) = plainA a := rfl

theorem elA_den (a : AE) (k : E) : (elA a k).den ρ = elt (a.den ρ) (k.t ρ) := by
  unfold elA
  split
  · rename_i b x y
    cases h : leI 0 x && leI 0 y with
    | false => rfl
    | true => simp [AE.den, elt, plainA, E.t, E.i, E.den, addTo_mk, toNat_add h]
  · simp only [AE.den, elt, Option.map_map]
    congr 1
  · rfl

theorem unpackL {l : SV} : l.denL ρ = l.toL.map (SV.den ρ) := SV.toL_den ρ l

end

section
variable {P : Program} {X : Exts} {T : Lvl} {R : Value → Heap → Prop} {tc : TC} {ρ : Env}

theorem grdL_inv {e : E} {t : Tree} (h : (grdL e t).den P T R tc ρ) : e.b ρ = true ∧ t.den P T R tc ρ := by
  unfold grdL at h
  split at h
  · exact ⟨rfl, h⟩
  · rename_i op x y
    cases hc : cmpB op x y with
    | false => rw [hc] at h; exact h.elim
    | true => rw [hc] at h; exact ⟨by simpa [E.b, E.i, E.den] using hc, h⟩
  · rename_i k x
    cases hc : inKB k x with
    | false => rw [hc] at h; exact h.elim
    | true => rw [hc] at h; exact ⟨by simpa [E.b, E.i, E.den] using hc, h⟩
  · exact ⟨(E.p_iff ρ _).2 h.1, h.2⟩

theorem root_some {a : AE} (h : (a.root.den ρ).isSome = true) : (a.den ρ).isSome = true := by
  induction a with
  | add a k ih => simp only [AE.root] at h; simp only [AE.den, Option.isSome_map, ih h]
  | plain a ih => simp only [AE.root] at h; simp only [AE.den, Option.isSome_map, ih h]
  | spot a s ih => simp only [AE.root] at h; simp only [AE.den, Option.isSome_map, ih h]
  | cut a l c s ih => simp only [AE.root] at h; simp only [AE.den, Option.isSome_map, ih h]
  | _ => exact h

theorem isSL_inv {a : AE} {t : Tree} (h : (isSL a t).den P T R tc ρ) : (∃ x, a.den ρ = some x) ∧ t.den P T R tc ρ := by
  unfold isSL at h
  cases hs : a.sm with
  | true => rw [hs] at h; exact ⟨Option.isSome_iff_exists.1 (sm_some hs), h⟩
  | false => rw [hs] at h; exact ⟨Option.isSome_iff_exists.1 (root_some h.1), h.2⟩

theorem exQ_inv {q : Qy} {p : SV × List Srt} {nv : Nat} {go : SV → Nat → Tree} (h : (exQ q p nv go).den P T R tc ρ) :
    ∃ xs : Env, (go p.1 (nv + xs.length)).den P T R tc (ρ ++ xs) ∧ q.den P ρ = some (p.1.den (ρ ++ xs)) := by
  obtain ⟨xs, ht, h1, h2⟩ := exT_typed (show exT p.2 _ from h)
  exact ⟨xs, by rw [ht.length]; exact h2, h1⟩

theorem kindSame_self {k k' : IntKind} (h : (!kindSame k k') = false) : k = k' := kindSame_eq (by simpa using h)

/-- Arithmetic. -/
theorem sArith_inv {op : BinOp} {k : IntKind} {a b : E} {go : SV → Tree} (h : (sArith op k a b go).den P T R tc ρ) :
    ∃ e : E, (go (.int k e)).den P T R tc ρ ∧ e.i ρ = binI op k (a.i ρ) (b.i ρ) ∧ isCmp op = false ∧ ((op = .quo ∨ op = .rem) → b.i ρ ≠ 0) ∧ (isShift op = true → 0 ≤ b.i ρ) := by
  have two : ∀ (e : E) (z : Int), (bif kindSame k .i64 then Tree.grd (.inK k e) (go (.int k e)) else go (.int k (.bin op k a b))).den P T R tc ρ → e.i ρ = z → binI op k (a.i ρ) (b.i ρ) = k.wrap z →
      ∃ e : E, (go (.int k e)).den P T R tc ρ ∧ e.i ρ = binI op k (a.i ρ) (b.i ρ) := by
    intro e z h1 h2 h3
    cases hk : kindSame k .i64 with
    | true =>
      rw [hk] at h1
      have h4 : InK k (e.i ρ) := h1.1
      exact ⟨e, h1.2, by rw [h3, h2, wrap_in (h2 ▸ h4)]⟩
    | false => rw [hk] at h1; exact ⟨_, h1, rfl⟩
  have z1 : ∀ {x y : Int}, (E.lit x).i ρ = x := fun {_ _} => rfl
  unfold sArith at h
  split at h
  · split at h
    · exact ⟨_, h, rfl, rfl, by simp, by simp [isShift]⟩
    · obtain ⟨e, h1, h2⟩ := two _ _ h (addL_i _ _) rfl; exact ⟨e, h1, h2, rfl, by simp, by simp [isShift]⟩
  · split at h
    · exact ⟨_, h, rfl, rfl, by simp, by simp [isShift]⟩
    · obtain ⟨e, h1, h2⟩ := two _ _ h (subL_i _ _) rfl; exact ⟨e, h1, h2, rfl, by simp, by simp [isShift]⟩
  · split at h
    · exact ⟨_, h, rfl, rfl, by simp, by simp [isShift]⟩
    · obtain ⟨e, h1, h2⟩ := two _ _ h (mulL_i _ _) rfl; exact ⟨e, h1, h2, rfl, by simp, by simp [isShift]⟩
  · split at h
    · rename_i x y
      cases hy : intSame y 0 with
      | true => rw [hy] at h; exact h.elim
      | false =>
        rw [hy] at h
        refine ⟨_, h, rfl, rfl, fun _ => ?_, by simp [isShift]⟩
        have : ¬ y = 0 := of_decide_eq_false hy
        simpa [E.i, E.den] using this
    · obtain ⟨hg, h⟩ := grdL_inv h
      rw [cmpL_b] at hg
      obtain ⟨e, h1, h2⟩ := two (.quo _ _) _ h rfl rfl
      refine ⟨e, h1, h2, rfl, fun _ => ?_, by simp [isShift]⟩
      have := (cmpB_iff _ _ _).1 hg
      simpa [cmpP, E.i, E.den] using this
  · split at h
    · rename_i x y
      cases hy : intSame y 0 with
      | true => rw [hy] at h; exact h.elim
      | false =>
        rw [hy] at h
        refine ⟨_, h, rfl, rfl, fun _ => ?_, by simp [isShift]⟩
        have : ¬ y = 0 := of_decide_eq_false hy
        simpa [E.i, E.den] using this
    · obtain ⟨hg, h⟩ := grdL_inv h
      rw [cmpL_b] at hg
      refine ⟨_, h, rfl, rfl, fun _ => ?_, by simp [isShift]⟩
      have := (cmpB_iff _ _ _).1 hg
      simpa [cmpP, E.i, E.den] using this
  all_goals first
    | exact h.elim
    | (split at h
       · exact ⟨_, h, rfl, rfl, by simp, by simp [isShift]⟩
       · exact ⟨_, h, rfl, rfl, by simp, by simp [isShift]⟩)
    | (split at h
       · rename_i x y
         cases hy : ltI y 0 with
         | true => rw [hy] at h; exact h.elim
         | false =>
           rw [hy] at h
           refine ⟨_, h, rfl, rfl, by simp, fun _ => ?_⟩
           have : ¬ y < 0 := of_decide_eq_false hy
           simp only [E.i, E.den]; omega
       · obtain ⟨hg, h⟩ := grdL_inv h
         rw [cmpL_b] at hg
         refine ⟨_, h, rfl, rfl, by simp, fun _ => ?_⟩
         have := (cmpB_iff _ _ _).1 hg
         simpa [cmpP, E.i, E.den] using this)

theorem eqGuard_int (op : BinOp) (t : TypeId) (x y : Operand) (k k' : IntKind) (a b : Int) : pureRun P (eqGuard op t x y (.int k a) (.int k' b)) = some () := by cases op <;> rfl
theorem eqGuard_str (op : BinOp) (t : TypeId) (x y : Operand) (a b : ByteArray) : pureRun P (eqGuard op t x y (.string a) (.string b)) = some () := by cases op <;> rfl
theorem eqGuard_bool (op : BinOp) (t : TypeId) (x y : Operand) (a b : Bool) : pureRun P (eqGuard op t x y (.bool a) (.bool b)) = some () := by cases op <;> rfl

theorem binW_pure {op : BinOp} {t : TypeId} {x y : Operand} {a b v : Value} (ha : closed a = true) (hb : closed b = true) (hg : pureRun P (eqGuard op t x y a b) = some ()) (hv : pureRun P (Go.binOp op t a b) = some v) (hs : scalar v = true) : binW P op t x y a b = some v := by
  unfold binW
  rw [ha, hb]
  simp only [Bool.and_self, cond_true]
  rw [pureRun_bind, hg]
  simp only [Option.bind_some, hv, ifScalar, hs, cond_true]

theorem binOp_int {op : BinOp} {t : TypeId} {k : IntKind} {a b : Int} (h1 : isShift op = false) (h2 : isCmp op = false) (h3 : (op = .quo ∨ op = .rem) → b ≠ 0) : pureRun P (Go.binOp op t (.int k a) (.int k b)) = some (.int k (binI op k a b)) := by
  cases op <;> simp [isShift, isCmp] at h1 h2 <;> simp only [Go.binOp, ne_eq, not_true_eq_false, if_false] <;> first
    | rfl
    | (simp only [Op.intDiv]
       have : ¬ b = 0 := h3 (by simp)
       rw [if_neg this]; rfl)

theorem binOp_cmp {op : BinOp} {t : TypeId} {k : IntKind} {a b : Int} (h2 : isCmp op = true) : pureRun P (Go.binOp op t (.int k a) (.int k b)) = some (.bool (cmpB op a b)) := by
  cases op <;> simp [isCmp] at h2 <;> simp only [Go.binOp, ne_eq, not_true_eq_false, if_false, Op.intCmp, cmpB] <;> (show some _ = some _) <;> congr 2

theorem binOp_shift {op : BinOp} {t : TypeId} {k k' : IntKind} {a b : Int} (h1 : isShift op = true) (h : 0 ≤ b) : pureRun P (Go.binOp op t (.int k a) (.int k' b)) = some (.int k (binI op k a b)) := by
  have : ¬ b < 0 := by omega
  cases op <;> simp [isShift] at h1 <;> simp only [Go.binOp, Op.shift, this, if_false] <;> rfl

theorem binOp_scmp {op : BinOp} {t : TypeId} {a b : ByteArray} (h2 : isCmp op = true) : pureRun P (Go.binOp op t (.string a) (.string b)) = some (.bool (scmpB op a b)) := by
  cases op <;> simp [isCmp] at h2 <;> simp only [Go.binOp, Op.stringOp, scmpB, seqB, sltB] <;> rfl

theorem binOp_cat {t : TypeId} {a b : ByteArray} (h : ((a.size : Int) + b.size) ≤ 9223372036854775807) : pureRun P (Go.binOp .add t (.string a) (.string b)) = some (.string (a ++ b)) := by
  have hm : IntKind.i64.max = 9223372036854775807 := rfl
  have : ¬ (((a.size + b.size : Nat) : Int) > IntKind.i64.max) := by rw [hm]; push_cast; omega
  simp only [Go.binOp, Op.stringOp]
  rw [if_neg this]; rfl

theorem pure_und {t : TypeId} {d : TypeDesc} (h : P.underlying t = some d) : pureRun P (underlying t) = some d := by
  unfold underlying
  show pureRun P (Sem.bind _ _) = _
  simp only [program, Sem.bind, pureRun, h]
  rfl

theorem undIs_some {t : TypeId} {f : TypeDesc → Bool} (h : undIs P t f = true) : ∃ d, P.underlying t = some d ∧ f d = true := by
  unfold undIs at h
  split at h
  · exact ⟨_, ‹_›, h⟩
  · cases h

theorem equalIn_of {d : Nat} {t : TypeId} {x y : Value} {td : TypeDesc} (h : P.underlying t = some td) {s : Sem Bool} (hs : Op.equalIn (d + 1) t x y = underlying t >>= fun u => s) : True := trivial

theorem pureRun_eqs {t : TypeId} {x y : Value} {b : Bool} (hx : scalar x = false) (he : pureRun P (Op.equal t x y) = some b) :
    pureRun P (Go.binOp .eql t x y) = some (.bool b) ∧ pureRun P (Go.binOp .neq t x y) = some (.bool !b) := by
  rw [binOp_eql t x y hx, binOp_neq t x y hx]
  constructor <;> (rw [pureRun_bind, he]; rfl)

theorem binOp_boolEq {t : TypeId} {a b : Bool} (h : undIs P t isBoolD = true) :
    pureRun P (Go.binOp .eql t (.bool a) (.bool b)) = some (.bool (a == b)) ∧ pureRun P (Go.binOp .neq t (.bool a) (.bool b)) = some (.bool !(a == b)) := by
  obtain ⟨d, hd, hb⟩ := undIs_some h
  have he : pureRun P (Op.equal t (.bool a) (.bool b)) = some (a == b) := by
    rw [equal_unf]
    unfold Op.equalIn
    rw [pureRun_bind, pure_und hd]
    cases d <;> simp [isBoolD] at hb
    rfl
  have e1 : Go.binOp .eql t (.bool a) (.bool b) = (do pure (.bool (← Op.equal t (.bool a) (.bool b)))) := rfl
  have e2 : Go.binOp .neq t (.bool a) (.bool b) = (do pure (.bool (!(← Op.equal t (.bool a) (.bool b))))) := rfl
  rw [e1, e2]
  constructor <;> (rw [pureRun_bind, he]; rfl)

/-- What a test against nil is worth. -/
theorem binW_nil {t : TypeId} {x y : Operand} {a b : Value} {r : Bool} (hsa : scalar a = false) (hg : ∀ op, pureRun P (eqGuard op t x y a b) = some ())
    (h1 : closed a = true → closed b = true → pureRun P (Op.equal t a b) = some r) (h2 : (closed a && closed b) = false → eqV P t a b = some r) :
    binW P .eql t x y a b = some (.bool r) ∧ binW P .neq t x y a b = some (.bool !r) := by
  cases hc : closed a && closed b with
  | true =>
    simp only [Bool.and_eq_true] at hc
    obtain ⟨e1, e2⟩ := pureRun_eqs hsa (h1 hc.1 hc.2)
    exact ⟨binW_pure hc.1 hc.2 (hg _) e1 rfl, binW_pure hc.1 hc.2 (hg _) e2 rfl⟩
  | false =>
    unfold binW
    rw [hc]
    simp only [cond_false, h2 hc, Option.map_some]
    exact ⟨trivial, trivial⟩

theorem pure_equal {t : TypeId} {x y : Value} {d : TypeDesc} (hd : P.underlying t = some d) : pureRun P (Op.equal t x y) = (pureRun P (Op.equalIn (9999 + 1) t x y)) := by rw [equal_unf]

theorem nilTest_sound {t : TypeId} {x y : Operand} {a b : SV} {e : E} (h : nilTest P t a b = some e) :
    binW P .eql t x y (a.den ρ) (b.den ρ) = some (.bool (e.b ρ)) ∧ binW P .neq t x y (a.den ρ) (b.den ρ) = some (.bool !(e.b ρ)) := by
  unfold nilTest at h
  split at h <;> try (cases h; done)
  · rename_i a
    cases hu : undIs P t isPtrD <;> rw [hu] at h <;> cases h
    obtain ⟨d, hd, hb⟩ := undIs_some hu
    cases d <;> simp [isPtrD] at hb
    rw [nilE_b]
    simp only [SV.den, SV.dn, AE.den]
    refine binW_nil rfl (fun op => by cases op <;> rfl) (fun h1 h2 => ?_) (fun hc => ?_)
    · rw [pure_equal hd]; unfold Op.equalIn; rw [pureRun_bind, pure_und hd]
      cases ha : a.den ρ <;> rfl
    · unfold eqV; rw [hd]
      cases ha : a.den ρ <;> rfl
  · rename_i b _
    cases hu : undIs P t isPtrD <;> rw [hu] at h <;> cases h
    obtain ⟨d, hd, hb⟩ := undIs_some hu
    cases d <;> simp [isPtrD] at hb
    rw [nilE_b]
    simp only [SV.den, SV.dn, AE.den]
    refine binW_nil rfl (fun op => by cases op <;> rfl) (fun h1 h2 => ?_) (fun hc => ?_)
    · rw [pure_equal hd]; unfold Op.equalIn; rw [pureRun_bind, pure_und hd]
      cases ha : b.den ρ <;> rfl
    · unfold eqV; rw [hd]
  · rename_i a n c n' c'
    cases hu : undIs P t isSliceD <;> rw [hu] at h <;> cases h
    obtain ⟨d, hd, hb⟩ := undIs_some hu
    cases d <;> simp [isSliceD] at hb
    rw [nilE_b]
    simp only [SV.den, SV.dn, AE.den]
    refine binW_nil rfl (fun op => by cases op <;> rfl) (fun h1 h2 => ?_) (fun hc => ?_)
    · rw [pure_equal hd]; unfold Op.equalIn; rw [pureRun_bind, pure_und hd]
      cases ha : a.den ρ <;> rfl
    · unfold eqV; rw [hd]
      cases ha : a.den ρ <;> rfl
  · rename_i n' c' b n c _
    cases hu : undIs P t isSliceD <;> rw [hu] at h <;> cases h
    obtain ⟨d, hd, hb⟩ := undIs_some hu
    cases d <;> simp [isSliceD] at hb
    rw [nilE_b]
    simp only [SV.den, SV.dn, AE.den]
    refine binW_nil rfl (fun op => by cases op <;> rfl) (fun h1 h2 => ?_) (fun hc => ?_)
    · rw [pure_equal hd]; unfold Op.equalIn; rw [pureRun_bind, pure_und hd]
      cases ha : b.den ρ <;> rfl
    · unfold eqV; rw [hd]
  · cases hu : undIs P t isFuncD <;> rw [hu] at h <;> cases h
    obtain ⟨d, hd, hb⟩ := undIs_some hu
    cases d <;> simp [isFuncD] at hb
    simp only [SV.den, SV.dn, E.b]
    refine binW_nil rfl (fun op => by cases op <;> rfl) (fun h1 h2 => ?_) (fun hc => ?_)
    · rw [pure_equal hd]; unfold Op.equalIn; rw [pureRun_bind, pure_und hd]; rfl
    · unfold eqV; rw [hd]
  · cases hu : undIs P t isFuncD <;> rw [hu] at h <;> cases h
    obtain ⟨d, hd, hb⟩ := undIs_some hu
    cases d <;> simp [isFuncD] at hb
    simp only [SV.den, SV.dn, E.b]
    refine binW_nil rfl (fun op => by cases op <;> rfl) (fun h1 h2 => ?_) (fun hc => ?_)
    · rw [pure_equal hd]; unfold Op.equalIn; rw [pureRun_bind, pure_und hd]; rfl
    · unfold eqV; rw [hd]
  · cases hu : undIs P t isIfaceD <;> rw [hu] at h <;> cases h
    obtain ⟨d, hd, hb⟩ := undIs_some hu
    cases d <;> simp [isIfaceD] at hb
    simp only [SV.den, SV.dn, E.b]
    refine binW_nil rfl (fun op => by cases op <;> rfl) (fun h1 h2 => ?_) (fun hc => ?_)
    · rw [pure_equal hd]; unfold Op.equalIn; rw [pureRun_bind, pure_und hd]; rfl
    · unfold eqV; rw [hd]
  · cases hu : undIs P t isIfaceD <;> rw [hu] at h <;> cases h
    obtain ⟨d, hd, hb⟩ := undIs_some hu
    cases d <;> simp [isIfaceD] at hb
    simp only [SV.den, SV.dn, E.b]
    refine binW_nil rfl (fun op => by cases op <;> rfl) (fun h1 h2 => ?_) (fun hc => ?_)
    · rw [pure_equal hd]; unfold Op.equalIn; rw [pureRun_bind, pure_und hd]; rfl
    · unfold eqV; rw [hd]

/-- What comes of a symbolic operation that reads no memory. -/
def Comes (P : Program) (T : Lvl) (R : Value → Heap → Prop) (tc : TC) (ρ : Env) (nv : Nat) (go : SV → Nat → Tree) (o : Option Value) : Prop :=
  ∃ (v : SV) (xs : Env), (go v (nv + xs.length)).den P T R tc (ρ ++ xs) ∧ o = some (v.den (ρ ++ xs))

theorem Comes.now {nv : Nat} {go : SV → Nat → Tree} {o : Option Value} {v : SV} (h : (go v nv).den P T R tc ρ) (ho : o = some (v.den ρ)) : Comes P T R tc ρ nv go o :=
  ⟨v, [], by simpa using h, by simpa using ho⟩

theorem Comes.ex {nv : Nat} {go : SV → Nat → Tree} {o : Option Value} {q : Qy} {p : SV × List Srt} (h : (exQ q p nv go).den P T R tc ρ) (ho : o = q.den P ρ) : Comes P T R tc ρ nv go o := by
  obtain ⟨xs, h1, h2⟩ := exQ_inv h
  exact ⟨p.1, xs, h1, ho.trans h2⟩

theorem int_closed (k : IntKind) (n : Int) : closed (.int k n) = true := rfl
theorem str_closed (s : ByteArray) : closed (.string s) = true := rfl
theorem bool_closed (b : Bool) : closed (.bool b) = true := rfl

theorem sBin_sound {op : BinOp} {t : TypeId} {x y : Operand} {a b : SV} {nv : Nat} {go : SV → Nat → Tree} (h : (sBin P op t x y a b nv go).den P T R tc ρ) :
    Comes P T R tc ρ nv go (binW P op t x y (a.den ρ) (b.den ρ)) := by
  unfold sBin at h
  split at h
  · rename_i k a k' b
    cases hs : isShift op with
    | true =>
      rw [hs] at h
      simp only [cond_true] at h
      obtain ⟨e, h1, h2, h3, h4, h5⟩ := sArith_inv h
      refine .now h1 (binW_pure (int_closed _ _) (int_closed _ _) (eqGuard_int _ _ _ _ _ _ _ _) ?_ rfl)
      rw [show SV.den ρ (.int k e) = .int k (e.i ρ) from rfl, h2]
      exact binOp_shift hs (h5 hs)
    | false =>
      rw [hs] at h
      simp only [cond_false] at h
      cases hk : !kindSame k k' with
      | true => rw [hk] at h; exact h.elim
      | false =>
        rw [hk] at h
        have := kindSame_self hk; subst this
        simp only [cond_false] at h
        cases hc : isCmp op with
        | true =>
          rw [hc] at h
          refine .now h (binW_pure (int_closed _ _) (int_closed _ _) (eqGuard_int _ _ _ _ _ _ _ _) ?_ rfl)
          rw [show SV.den ρ (.bool (cmpL op a b)) = .bool ((cmpL op a b).b ρ) from rfl, cmpL_b]
          exact binOp_cmp hc
        | false =>
          rw [hc] at h
          simp only [cond_false] at h
          obtain ⟨e, h1, h2, h3, h4, h5⟩ := sArith_inv h
          refine .now h1 (binW_pure (int_closed _ _) (int_closed _ _) (eqGuard_int _ _ _ _ _ _ _ _) ?_ rfl)
          rw [show SV.den ρ (.int k e) = .int k (e.i ρ) from rfl, h2]
          exact binOp_int hs hc h4
  · rename_i a b
    cases hc : isCmp op with
    | true =>
      rw [hc] at h
      refine .now h (binW_pure (str_closed _) (str_closed _) (eqGuard_str _ _ _ _ _ _) ?_ rfl)
      rw [show SV.den ρ (.bool (scmpL op a b)) = .bool ((scmpL op a b).b ρ) from rfl, scmpL_b]
      exact binOp_scmp hc
    | false =>
      rw [hc] at h
      simp only [cond_false] at h
      split at h
      · obtain ⟨h1, h⟩ := grdL_inv h
        rw [cmpL_b] at h1
        refine .now h (binW_pure (str_closed _) (str_closed _) (eqGuard_str _ _ _ _ _ _) ?_ rfl)
        rw [show SV.den ρ (.str (catL a b)) = .string ((catL a b).s ρ) from rfl, catL_s]
        refine binOp_cat ?_
        have := (cmpB_iff _ _ _).1 h1
        simp only [cmpP, addL_i, slenL_i] at this
        exact this
      · exact h.elim
  · rename_i a b
    cases hu : undIs P t isBoolD with
    | false => rw [hu] at h; exact h.elim
    | true =>
      rw [hu] at h
      simp only [cond_true] at h
      split at h
      · exact .now h (binW_pure (bool_closed _) (bool_closed _) (eqGuard_bool _ _ _ _ _ _) (binOp_boolEq hu).1 rfl)
      · exact .now h (binW_pure (bool_closed _) (bool_closed _) (eqGuard_bool _ _ _ _ _ _) (binOp_boolEq hu).2 rfl)
      · exact h.elim
  · split at h
    · exact .now h (nilTest_sound ‹_›).1
    · refine .now h ?_
      rw [show ∀ e, SV.den ρ (.bool e) = .bool (e.b ρ) from fun _ => rfl, notL_b]
      exact (nilTest_sound ‹_›).2
    · exact .ex h rfl

end
end Go.Abs
