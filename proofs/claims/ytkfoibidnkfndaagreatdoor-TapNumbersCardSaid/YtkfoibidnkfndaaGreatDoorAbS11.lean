/- Symbolic execution, part 11: the executor is sound. -/
import Derived.Test.YtkfoibidnkfndaaGreatDoorAbS10
set_option linter.unusedVariables false
set_option linter.unusedSimpArgs false
namespace Go.Abs

section
variable {P : Program} {X : Exts} {T : Lvl} {R : Value → Heap → Prop} {tc : TC} {ρ : Env}

theorem nth_some {l : SV} {d : Nat} {b : Bool} (h : (nth l d).den ρ = .bool b) : (l.denL ρ).toArray[d]? = some (.bool b) := by
  rw [nth_den] at h
  unfold Array.getD at h
  split at h
  · rename_i hd
    rw [Array.getElem?_eq_getElem hd]
    exact congrArg some h
  · cases h

theorem yielded_of {ops : Array Oper} {g d : Nat} {tmps : Array Value} (hd : (ops[g]?).bind (·.dst) = some d) : yielded ops tmps g = match tmps[d]? with | some (.bool b) => some b | _ => none := by
  unfold yielded
  rw [hd]; rfl

theorem sReady_yes {ops : Array Oper} {a : SAct} {o : Oper} (h : sReady ops a o = .yes) : Region.wanted o (yielded ops (a.den ρ).tmps) = true := by
  unfold sReady at h
  unfold Region.wanted
  split at h
  · rename_i hg; rw [hg]
  · rename_i g b hg
    rw [hg]
    split at h
    · cases h
    · rename_i d hd
      split at h
      · rename_i x hx
        cases hb : boolSame x b with
        | false => rw [hb] at h; cases h
        | true =>
          have : (nth a.tmps d).den ρ = .bool x := by rw [hx]; rfl
          have hs := nth_some this
          simp only [yielded_of hd]
          show ((match (a.tmps.denL ρ).toArray[d]? with | some (.bool b) => some b | _ => none) == some b) = true
          rw [hs, boolSame_eq hb]
          simp
      · rename_i e _ _
        unfold askE at h
        split at h
        · rename_i b2 hne _; exact (hne b2 rfl).elim
        · cases h
        · cases h
      all_goals cases h

theorem sReady_no {ops : Array Oper} {a : SAct} {o : Oper} (h : sReady ops a o = .no) : Region.wanted o (yielded ops (a.den ρ).tmps) = false := by
  have goNo : pickW a o ≠ .no := by
    intro h
    unfold pickW at h
    split at h
    · split at h
      · unfold askE at h
        split at h
        · rename_i b' _; cases b' <;> cases h
        · cases h
        · cases h
      · cases h
    · cases h
  unfold sReady at h
  unfold Region.wanted
  split at h
  · exact absurd h goNo
  · rename_i g b hg
    rw [hg]
    split at h
    · rename_i hd
      simp only [yielded, hd, Option.bind_none]
      rfl
    · rename_i d hd
      have non : (∀ b, (nth a.tmps d).den ρ ≠ .bool b) → (yielded ops (a.den ρ).tmps g == some b) = false := by
        intro hne
        rw [yielded_of hd]
        have e : ∀ b', (a.den ρ).tmps[d]? ≠ some (.bool b') := by
          intro b' he
          refine hne b' ?_
          rw [nth_den]
          show (a.den ρ).tmps.getD d undef = _
          rw [Array.getD_eq_getD_getElem?, he]; rfl
        cases hs : (a.den ρ).tmps[d]? with
        | none => rfl
        | some v => cases v <;> first | rfl | exact (e _ hs).elim
      split at h
      · rename_i x hx
        cases hb : boolSame x b with
        | true => rw [hb] at h; exact absurd h goNo
        | false =>
          have : (nth a.tmps d).den ρ = .bool x := by rw [hx]; rfl
          have hs := nth_some this
          simp only [yielded_of hd]
          show ((match (a.tmps.denL ρ).toArray[d]? with | some (.bool b) => some b | _ => none) == some b) = false
          rw [hs]
          cases x <;> cases b <;> simp [boolSame] at hb <;> rfl
      · rename_i e _ _
        unfold askE at h
        split at h
        · rename_i b2 hne _; exact (hne b2 rfl).elim
        · cases h
        · cases h
      all_goals first
        | (cases h; done)
        | (rename_i hx; exact non fun b' hb' => by rw [hx] at hb'; cases hb')

/-- The position's meaning, opened. -/
theorem aAt_of {rd : Option Nat} {ops : Array Oper} {i : Nat} {K : Act → Heap → Prop} {a : Act} {h : Heap} {o : Oper} (ho : ops[i]? = some o) :
    aAt P X T rd ops i K a h = (bif Region.wanted o (yielded ops a.tmps) then aOp1 P X T rd o a h K else K (a.put o.dst undef) h) := by
  unfold aAt; rw [ho]

theorem sAt_sound (hT : TopLike P X T) {H : Hints} {rec : Cfg → Tree} (hrec : RecOK P X T R rec) {ops : Array Oper} {i : Nat} {pos : Pos} {s : SH} {c : Cfg} (hnv : ρ.length = c.nv)
    (h : (sAt P X H rec ops i pos s c).den P T R tc ρ) : aAt P X T (rdDen ρ c.rd) ops i (AfterOp P X T R tc ρ c pos) (c.a.den ρ) (s.den P ρ) ∨ c.den P X T R tc ρ := by
  unfold sAt at h
  split at h
  · rename_i ho
    refine .inl ?_
    unfold aAt
    rw [ho]
    exact hrec.use h hnv
  · rename_i o ho
    split at h
    · rename_i hr
      refine .inl ?_
      rw [aAt_of ho, sReady_yes hr, cond_true]
      exact sOper_sound (c := { c with h := s }) hT hrec hnv h
    · rename_i hr
      refine .inl ?_
      rw [aAt_of ho, sReady_no hr, cond_false]
      have := hrec.use h hnv
      simp only [Cfg.den, SAct.put_den, SV.undef_den] at this
      exact this
    · exact .inr (split_sound hrec hnv h)
    · exact h.elim

theorem loadsAE_den {t : TypeId} {a : AE} {x : Addr} (hx : a.den ρ = some x) : AE.list ρ (loadsAE P t a) = loadsOf P t x := by
  have agg : AE.list ρ ((List.range ((sizeV P t).getD 0)).map fun (k : Nat) => addA a (.lit (k : Nat))) = (List.range ((sizeV P t).getD 0)).map fun k => x.add k := by
    unfold AE.list
    rw [List.filterMap_map]
    induction List.range ((sizeV P t).getD 0) with
    | nil => rfl
    | cons k l ih =>
      have : (AE.den ρ ∘ fun (k : Nat) => addA a (.lit (k : Nat))) k = some (x.add k) := by
        simp only [Function.comp, addA_den, hx, Option.map_some]
        rfl
      rw [List.filterMap_cons, this]
      simp only [List.map_cons, ih]
  have one : AE.list ρ [a] = [x] := by simp only [AE.list, List.filterMap_cons, hx, List.filterMap_nil]
  unfold loadsAE loadsOf
  cases P.underlying t with
  | none => exact one
  | some d => cases d <;> first | exact agg | exact one

theorem pinsPE_den : ∀ (rp : List (Nat × List AE)) (p : PE), (pinsPE rp p).den ρ = pinsOf (rpDen ρ rp) (p.den ρ)
  | [], p => rfl
  | x :: l, p => by
    have key : ∀ (as : List AE) (q : PE), (as.foldr PE.cons q).den ρ = AE.list ρ as ++ q.den ρ := by
      intro as q
      induction as with
      | nil => rfl
      | cons a as ih =>
        simp only [List.foldr_cons, PE.den, AE.list, List.filterMap_cons] at *
        cases a.den ρ <;> simp [ih]
    simp only [pinsPE, key, pinsPE_den l p]
    rfl

theorem unpinS_den {ops : Array Oper} {j : Nat} : ∀ (rp : List (Nat × List AE)), rpDen ρ (unpinS ops j rp) = unpin ops j (rpDen ρ rp)
  | [] => rfl
  | x :: l => by
    have ih := unpinS_den (ops := ops) (j := j) l
    simp only [unpinS, unpin, rpDen, List.filter_cons, List.map_cons] at *
    cases waits ops x.1 ops.size j <;> simp [ih]

theorem sAll_sound {G : Nat → Prop} {F : Nat → Tree} {C : Prop} (hF : ∀ i, (F i).den P T R tc ρ → G i ∨ C) : ∀ {rs : List Nat}, (sAll rs F).den P T R tc ρ → aAll rs G ∨ C
  | [], h => h.elim
  | [i], h => hF i h
  | i :: j :: l, h => by
    rcases hF i h.1 with h1 | h1
    · rcases sAll_sound hF h.2 with h2 | h2
      · exact .inl ⟨h1, h2⟩
      · exact .inr h2
    · exact .inr h1

theorem sSet_inv {b : BN} {o : SObj} {s : SH} {go : SH → Tree} (h : (sSet b o s go).den P T R tc ρ) : pinnedBlock (b.den ρ) (s.den P ρ).pins = false ∧ (go { s with ups := consUp b o s.ups }).den P T R tc ρ := h

theorem set_den {b : BN} {o : SObj} {s : SH} : SH.den P ρ { s with ups := consUp b o s.ups } = (s.den P ρ).put (b.den ρ) (some (o.den P ρ)) := consUp_den

theorem sResList_sound {tmps : SV} {s : SH} {nv : Nat} (hnv : ρ.length = nv) {Q : List Value → Heap → Prop} : ∀ {rs : List ResultVar} {go : List SV → Tree}, (sResList P tmps s nv rs go).den P T R tc ρ → (∀ l, (go l).den P T R tc ρ → Q (l.map (SV.den ρ)) (s.den P ρ)) → aSem P (resList P (tmps.denL ρ).toArray rs) (s.den P ρ) Q
  | [], go, h, hg => hg [] h
  | .tmp t :: r, go, h, hg => by
    simp only [sResList] at h
    show aSem P (resList P _ r >>= _) _ _
    rw [aSem_bind]
    refine sResList_sound hnv h fun l hl => ?_
    have := hg _ hl
    simp only [List.map_cons, nth_den] at this
    exact this
  | .cell a t :: r, go, h, hg => by
    simp only [sResList] at h
    split at h <;> try exact h.elim
    rename_i b hb
    obtain ⟨⟨y, hy⟩, h⟩ := isSL_inv h
    have e : addrOf ((tmps.denL ρ).toArray.getD a undef) = some y := by
      rw [← nth_den, hb]
      simp only [SV.den, SV.dn, hy, addrOf]
    simp only [resList, e]
    obtain ⟨v, xs, h1, h2⟩ := sLoad_inv hy h
    rw [Bool.cond_eq_ite] at h1
    split at h1 <;> try exact h1.elim
    rename_i hn
    have hn := Nat.eq_of_beq_eq_true hn
    have hx : xs = [] := List.eq_nil_of_length_eq_zero (by omega)
    subst hx
    simp only [List.append_nil] at h1 h2
    rw [aSem_bind]
    refine h2 _ ?_
    rw [aSem_bind]
    refine sResList_sound hnv h1 fun l hl => ?_
    exact hg _ hl

theorem resS_den (l : List SV) : (resS l).den ρ = resVal (l.map (SV.den ρ)) := by
  have tup : ∀ l : List SV, SV.den ρ (.tuple (SV.ofL l)) = .tuple (l.map (SV.den ρ)).toArray := by
    intro l
    show Value.tuple ((SV.ofL l).denL ρ).toArray = _
    rw [SV.ofL_den]
  match l with
  | [] => exact tup []
  | [v] => rfl
  | a :: b :: l => exact tup (a :: b :: l)

theorem any_done {rd : Option Nat} {ops : Array Oper} {p0 : List Addr} {Q : KQ} {f : Nat} {l : List Nat} {rp : Pins} {a : Act} {h : Heap} (hm : moveOf P ops l = .done) (hq : Q .normal a { h with pins := p0 }) : aAny P X T rd ops p0 Q f l rp a h := by
  cases f <;> (unfold aAny; rw [hm]; exact hq)

/-- EVERY STEP IS SOUND. -/
theorem sStep_sound (hT : TopLike P X T) {H : Hints} {rec : Cfg → Tree} (hrec : RecOK P X T R rec) : RecOK P X T R (sStep P X H rec) := by
  intro c tc ρ hnv h
  unfold sStep at h
  split at h
  · -- code
    rename_i f p hmd
    simp only [Cfg.den, hmd]
    have hs0 : ∀ {a b}, codeAt P f p = .seq a b → codeAt P f (0 :: p) = a ∧ codeAt P f (1 :: p) = b := fun e => by simp [codeAt, e, subCode]
    split at h
    · rename_i hc; rw [hc]; exact hT.step (by simp) (hrec.use h hnv)
    · rename_i hc; rw [hc]; exact hT.step (by simp) (hrec.use h hnv)
    · rename_i hc; rw [hc]; exact hT.step (by simp) (hrec.use h hnv)
    · rename_i hc; rw [hc]; exact hT.step (by simp) (hrec.use h hnv)
    · rename_i hc; rw [hc]; exact hT.step (by simp) (hrec.use h hnv)
    · rename_i x y hc
      rw [hc]
      have := hrec.use h hnv
      simp only [Cfg.den, denF, (hs0 hc).1, (hs0 hc).2] at this
      exact hT.step (by simp) this
    · rename_i x y z hc
      rw [hc]
      have hsub : codeAt P f (0 :: p) = y ∧ codeAt P f (1 :: p) = z := by simp [codeAt, hc, subCode]
      have sp : ∀ e, (split rec e c).den P T R tc ρ → T.code (rdDen ρ c.rd) (.cond x y z) ((denF P X T R tc ρ c.k).q (rdDen ρ c.rd)) (c.a.den ρ) (c.h.den P ρ) := by
        intro e h
        have := split_sound hrec hnv h
        simp only [Cfg.den, hmd, hc] at this
        exact this
      split at h
      · rename_i b hx
        have hev : (c.a.den ρ).eval x = .bool b := by rw [← SAct.ev_den, hx]; rfl
        refine hT.step (by simp) ?_
        unfold aCode
        simp only [hev]
        have := hrec.use h hnv
        simp only [Cfg.den] at this
        cases b with
        | true => simp only [cond_true] at this ⊢; rw [hsub.1] at this; exact this
        | false => simp only [cond_false] at this ⊢; rw [hsub.2] at this; exact this
      · exact sp _ h
      · exact sp _ h
      · exact h.elim
    · rename_i id x hc
      rw [hc]
      have hsub : codeAt P f (0 :: p) = x := by simp [codeAt, hc, subCode]
      have := hrec.use h hnv
      simp only [Cfg.den, denF, hsub] at this
      exact hT.step (by simp) this
    · rename_i x hc
      rw [hc]
      have hsub : codeAt P f (0 :: p) = x := by simp [codeAt, hc, subCode]
      split at h <;> try exact h.elim
      rename_i lh _
      split at h
      · rename_i m _
        have := hrec.use h hnv
        simp only [Cfg.den, denF, hsub] at this
        have h1 : rounds T (rdDen ρ c.rd) x ((denF P X T R tc ρ c.k).q (rdDen ρ c.rd)) (m + 1) (c.a.den ρ) (c.h.den P ρ) := this
        refine hT.loop (fun j a h => rounds T (rdDen ρ c.rd) x ((denF P X T R tc ρ c.k).q (rdDen ρ c.rd)) j a h) (fun j a h hr => ?_) h1
        cases j with
        | zero => exact hr.elim
        | succ j =>
          refine hT.codeMono (fun e a h hq => ?_) hr
          cases e with
          | normal => exact ⟨j, by omega, hq⟩
          | _ => exact hq
      · exact sLoop_sound hT hrec hc hnv h
    · rename_i id ops draw hc
      rw [hc]
      have := hrec.use h hnv
      refine hT.step (by simp) ?_
      unfold aCode
      simp only
      simp only [Cfg.den] at this
      cases draw with
      | true => exact this
      | false => exact this
    · rename_i g ps asg body hc
      rw [hc]
      have hsub : codeAt P f (0 :: p) = asg ∧ codeAt P f (1 :: p) = body := by simp [codeAt, hc, subCode]
      have hps : paramsAt P f p = ps := by simp [paramsAt, hc]
      refine hT.step (by simp) ?_
      unfold aCode
      simp only
      unfold aRange
      split at h <;> try exact h.elim
      rename_i f' first caught hg
      have hev : (c.a.den ρ).eval g = .func (.func f') (first.denL ρ).toArray (caught.denL ρ).toArray := by rw [← SAct.ev_den, hg]; rfl
      split at h <;> try exact h.elim
      rename_i fn hf
      split at h <;> try exact h.elim
      rename_i fb hb
      rw [hev]
      have hcall : ∀ {s : SH} {l : BN} {a : SAct}, Cfg.den P X T R tc ρ { md := .code f' [], k := .fn f' :: .rng l a c.rd :: c.k, a := enterSAct fn ((first.toL ++ [.yield l]) ++ caught.toL), h := s, rd := none, nv := c.nv } →
          aTarget P X (.func f') (caught.denL ρ).toArray.toList ((first.denL ρ).toArray.toList ++ [.func (.yield (l.den ρ)) #[] #[]]) (s.den P ρ) fun nx h3 => match nx with
            | .enter f args => T.call f args h3 fun _ h4 => aSem P (endLoopS (l.den ρ)) h4 fun jump h5 => match jump with
              | none => (denF P X T R tc ρ c.k).q (rdDen ρ c.rd) .normal (a.den ρ) h5
              | some cd => T.code (rdDen ρ c.rd) cd ((denF P X T R tc ρ c.k).q (rdDen ρ c.rd)) (a.den ρ) h5
            | _ => False := by
        intro s l a hd
        unfold aTarget aFunc
        simp only [hf, hb]
        refine hT.call ?_
        unfold aCall
        rw [hf]
        simp only
        rw [hb]
        simp only
        simp only [Cfg.den, codeAt_nil hf hb, enterSAct_den] at hd
        have e : ((first.denL ρ).toArray.toList ++ [Value.func (.yield (l.den ρ)) #[] #[]] ++ (caught.denL ρ).toArray.toList).toArray = (((first.toL ++ [SV.yield l]) ++ caught.toL).map (SV.den ρ)).toArray := by
          simp only [List.map_append, ← unpackL, List.map_cons, List.map_nil]
          rfl
        rw [e]
        refine hT.codeMono (fun e a h' hq => ?_) hd
        simp only [denF] at hq
        cases e <;> simp only [hf] at hq ⊢ <;> first | exact hq | exact hq.elim
      split at h
      · rename_i hrd
        have hd := hrec.use h hnv
        have := hcall hd
        rw [hrd]
        show aSem P (enterS _ _ _ _ none) _ _
        unfold enterS
        simp only [SAct.den, List.map_cons, SDef.den] at this
        rw [hrd] at this
        simp only [SH.alloc_den, SH.name_den, SObj.den, hsub.1, hsub.2, hps] at this
        exact this
      · rename_i l hrd
        split at h <;> try exact h.elim
        rename_i st pe tm f2 p2 d hu
        have hd := hrec.use h hnv
        have := hcall hd
        rw [hrd]
        show aSem P (enterS _ _ _ _ (some (l.den ρ))) _ _
        unfold enterS
        show aSem P (getLoopS (l.den ρ) >>= _) _ _
        rw [aSem_bind]
        unfold getLoopS
        refine getObj_of (get_up hu) rfl ?_
        simp only [SAct.den] at this
        rw [hrd] at this
        simp only [SH.alloc_den, SH.name_den, SObj.den, hsub.1, hsub.2, hps] at this
        exact this
    · exact h.elim
    · exact h.elim
  · -- the end of a region
    rename_i ops hmd
    simp only [Cfg.den, hmd]
    exact hrec.use h hnv
  · rename_i ops i rest hmd
    rcases sAt_sound hT hrec hnv h with h1 | h1
    · simp only [Cfg.den, hmd]
      exact h1
    · exact h1
  · rename_i ops p0 f l rp hmd
    split at h
    · rename_i hm
      have := hrec.use h hnv
      simp only [Cfg.den, hmd]
      simp only [Cfg.den] at this
      exact any_done hm this
    · exact h.elim
    · rename_i i f hm
      split at h
      · exact h.elim
      · rename_i o ho
        split at h
        · rename_i hr
          simp only [Cfg.den, hmd]
          show aAny P X T (rdDen ρ c.rd) ops (p0.den ρ) _ (f + 1) l (rpDen ρ rp) _ _
          unfold aAny
          rw [hm]
          simp only [ho]
          rw [sReady_yes hr, cond_true]
          cases hcl : Nat.beq (classOf P o.op) 0 with
          | true =>
            rw [hcl] at h
            simp only [cond_true] at h ⊢
            obtain ⟨v, xs, h1, h2⟩ := sPure_sound h
            rw [h2]
            obtain ⟨g1, g2, g3, g4, g5⟩ := grown_inv (X := X) hnv h1
            obtain ⟨g6, g7⟩ := grownH_inv hnv g1
            have := hrec.use g6 (by simp [hnv])
            simp only [Cfg.den, g2, g5, g4, g3, SAct.put_den, g7] at this
            exact this
          | false =>
            rw [hcl] at h
            simp only [cond_false] at h ⊢
            split at h <;> try exact h.elim
            rename_i t x hop
            split at h <;> try exact h.elim
            rename_i b hx
            obtain ⟨⟨y, hy⟩, h⟩ := isSL_inv h
            have hev : addrOf ((c.a.den ρ).eval x) = some y := by
              rw [← SAct.ev_den, hx]
              simp only [SV.den, SV.dn, hy, addrOf]
            simp only [hop, hev]
            obtain ⟨v, xs, h1, h2⟩ := sLoad_inv hy h
            refine h2 _ ?_
            cases hbk : b.ok c.nv with
            | false => rw [hbk] at h1; exact h1.elim
            | true =>
              rw [hbk] at h1
              simp only [cond_true] at h1
              obtain ⟨g1, g2, g3, g4, g5⟩ := grown_inv (X := X) hnv h1
              obtain ⟨g6, g7⟩ := grownH_inv hnv g1
              have := hrec.use g6 (by simp [hnv])
              simp only [Cfg.den, g2, g5, g4, g3, SAct.put_den, g7] at this
              simp only [posDen, rpDen, List.map_cons, loadsAE_den hy] at this
              exact this
        · rename_i hr
          simp only [Cfg.den, hmd]
          show aAny P X T (rdDen ρ c.rd) ops (p0.den ρ) _ (f + 1) l (rpDen ρ rp) _ _
          unfold aAny
          rw [hm]
          simp only [ho]
          rw [sReady_no hr, cond_false]
          have := hrec.use h hnv
          simp only [Cfg.den, SAct.put_den, SV.undef_den] at this
          exact this
        · exact split_sound hrec hnv h
        · exact h.elim
    · rename_i rs f hm
      have := sAll_sound (P := P) (T := T) (R := R) (tc := tc) (ρ := ρ) (C := c.den P X T R tc ρ) (G := fun i => aAt P X T (rdDen ρ c.rd) ops i (AfterOp P X T R tc ρ c (.any ops p0 f (i :: l) (unpinS ops i rp))) (c.a.den ρ) (SH.den P ρ { c.h with pins := pinsPE (unpinS ops i rp) p0 })) (fun i hi => sAt_sound hT hrec hnv hi) h
      rcases this with h1 | h1
      · simp only [Cfg.den, hmd]
        show aAny P X T (rdDen ρ c.rd) ops (p0.den ρ) _ (f + 1) l (rpDen ρ rp) _ _
        unfold aAny
        rw [hm]
        simp only
        refine aAll_mono (fun i hi => ?_) h1
        have e1 : SH.den P ρ { c.h with pins := pinsPE (unpinS ops i rp) p0 } = { (c.h.den P ρ) with pins := pinsOf (unpin ops i (rpDen ρ rp)) (p0.den ρ) } := by
          rw [← unpinS_den, ← pinsPE_den]; rfl
        rw [e1] at hi
        have e2 : AfterOp P X T R tc ρ c (.any ops p0 f (i :: l) (unpinS ops i rp)) = fun a' h' => aAny P X T (rdDen ρ c.rd) ops (p0.den ρ) ((denF P X T R tc ρ c.k).q (rdDen ρ c.rd)) f (i :: l) (unpin ops i (rpDen ρ rp)) a' h' := by
          funext a' h'
          simp only [AfterOp, posDen, unpinS_den]
        rw [e2] at hi
        exact hi
      · exact h1
  · -- exits
    rename_i e hmd
    simp only [Cfg.den, hmd]
    split at h
    · rename_i f p k hk
      rw [hk]
      simp only [denF]
      cases e with
      | normal => exact hrec.use h hnv
      | _ => exact hrec.use h hnv
    · rename_i id k hk
      rw [hk]
      simp only [denF]
      cases e with
      | exit id' =>
        simp only at h
        show exBlock id _ (.exit id') _ _
        unfold exBlock
        simp only
        rw [Bool.cond_eq_ite] at h
        split at h
        · rename_i hid; rw [hid]; exact hrec.use h hnv
        · rename_i hid
          have : Nat.beq id' id = false := Bool.eq_false_iff.2 hid
          rw [this]; exact hrec.use h hnv
      | _ => exact hrec.use h hnv
    · rename_i m f p k hk
      rw [hk]
      simp only [denF]
      cases e with
      | normal =>
        simp only at h
        split at h
        · rename_i m
          have := hrec.use h hnv
          simp only [Cfg.den, denF] at this
          exact this
        · exact h.elim
      | _ => exact hrec.use h hnv
    · rename_i n0 ss pa ph k hk
      rw [hk]
      simp only [denF]
      cases e with
      | normal => exact sBack_sound hnv h
      | _ => exact hrec.use h hnv
    · rename_i f k hk
      rw [hk]
      simp only [denF]
      cases e with
      | normal =>
        have := hrec.use h hnv
        simp only [Cfg.den] at this
        split at this
        · rename_i fn hf
          simp only [hf]; exact this
        · exact this.elim
      | ret =>
        have := hrec.use h hnv
        simp only [Cfg.den] at this
        split at this
        · rename_i fn hf
          simp only [hf]; exact this
        · exact this.elim
      | _ => exact h.elim
    · rename_i f k hk
      rw [hk]
      simp only [denF]
      split at h
      · rename_i fn hd hf
        have hd' : (c.a.den ρ).defers = [] := by simp only [SAct.den, hd, List.map_nil]
        simp only [hd', hf]
        refine sResList_sound hnv h fun l hl => ?_
        exact hrec.use hl hnv
      · rename_i fn hd hf
        have hd' : (c.a.den ρ).defers = [] := by simp only [SAct.den, hd, List.map_nil]
        simp only [hd', hf]
        refine sResList_sound hnv h fun l hl => ?_
        exact hrec.use hl hnv
      · exact h.elim
    · rename_i l f p k hk
      rw [hk]
      simp only [denF]
      split at h
      · rename_i pe tm f' p' d hu
        obtain ⟨h1, h2⟩ := sSet_inv h
        have := hrec.use h2 hnv
        simp only [Cfg.den, denF] at this
        rw [set_den] at this
        show aSem P (beginS (l.den ρ)) _ _
        unfold beginS
        rw [aSem_bind]
        unfold getLoopS
        refine getObj_of (get_up hu) rfl ?_
        show aSem P (setObj _ _) _ _
        have hb : (setObj (l.den ρ) (.loop { (show Loop from { state := .ready, pending := pe.den, fn := 0, tmps := (tm.denL ρ).toArray, params := paramsAt P f' p', assign := codeAt P f' (0 :: p'), body := codeAt P f' (1 :: p'), defers := d.den ρ }) with state := .busy }) : Sem Unit) = (setObj (l.den ρ) (.loop { (show Loop from { state := .ready, pending := pe.den, fn := 0, tmps := (tm.denL ρ).toArray, params := paramsAt P f' p', assign := codeAt P f' (0 :: p'), body := codeAt P f' (1 :: p'), defers := d.den ρ }) with state := .busy }) >>= fun u => pure u) := rfl
        refine (show aSem P (setObj (l.den ρ) (.loop { (show Loop from { state := .ready, pending := pe.den, fn := 0, tmps := (tm.denL ρ).toArray, params := paramsAt P f' p', assign := codeAt P f' (0 :: p'), body := codeAt P f' (1 :: p'), defers := d.den ρ }) with state := .busy })) _ _ from ?_)
        rw [hb]
        exact setObj_of (get_up hu) rfl rfl h1 this
      · exact h.elim
    · rename_i l k hk
      rw [hk]
      simp only [denF]
      split at h <;> try exact h.elim
      rename_i st pe tm f' p' d hu
      have fin : ∀ (jump : Option Code) (st' : LoopState) (pe' : SPend) (b : Bool), (sSet l (.loop st' pe' tm f' p' d) c.h fun h => rec { c with md := .val (.bool (.tt b)), k := k, h := h }).den P T R tc ρ →
          (∀ (Q : Value → Heap → Prop), Q (.bool b) ((c.h.den P ρ).put (l.den ρ) (some ((SObj.loop st' pe' tm f' p' d).den P ρ))) → pinnedBlock (l.den ρ) (c.h.den P ρ).pins = false → aSem P (endS (l.den ρ) jump) (c.h.den P ρ) Q) →
          aSem P (endS (l.den ρ) jump) (c.h.den P ρ) (denF P X T R tc ρ k).r := by
        intro jump st' pe' b h hq
        obtain ⟨h1, h2⟩ := sSet_inv h
        have := hrec.use h2 hnv
        simp only [Cfg.den] at this
        rw [set_den] at this
        exact hq _ this h1
      have run : ∀ (Q : Value → Heap → Prop) (jump : Option Code) (o : Obj) (b : Bool), (∀ r : Loop, some (Obj.loop r) = some ((SObj.loop st pe tm f' p' d).den P ρ) → (match jump with | none => Obj.loop { r with state := .ready, pending := none } | some cd => Obj.loop { r with state := .done, pending := some cd }) = o) →
          (match jump with | none => b = true | some _ => b = false) → Q (.bool b) ((c.h.den P ρ).put (l.den ρ) (some o)) → pinnedBlock (l.den ρ) (c.h.den P ρ).pins = false → aSem P (endS (l.den ρ) jump) (c.h.den P ρ) Q := by
        intro Q jump o b ho hb hq hp
        unfold endS
        rw [aSem_bind]
        unfold getLoopS
        refine getObj_of (get_up hu) rfl ?_
        have ho := ho _ rfl
        cases jump with
        | none =>
          simp only at ho hb
          subst ho; subst hb
          exact setObj_of (get_up hu) rfl rfl hp hq
        | some cd =>
          simp only at ho hb
          subst ho; subst hb
          exact setObj_of (get_up hu) rfl rfl hp hq
      have run' : ∀ (Q : Value → Heap → Prop) (jump : Option Code) (st' : LoopState) (pe' : SPend) (b : Bool), (match jump with | none => st' = .ready ∧ pe'.den = none ∧ b = true | some cd => st' = .done ∧ pe'.den = some cd ∧ b = false) →
          Q (.bool b) ((c.h.den P ρ).put (l.den ρ) (some ((SObj.loop st' pe' tm f' p' d).den P ρ))) → pinnedBlock (l.den ρ) (c.h.den P ρ).pins = false → aSem P (endS (l.den ρ) jump) (c.h.den P ρ) Q := by
        intro Q jump st' pe' b hj hq hp
        refine run Q jump _ b (fun r hr => ?_) ?_ hq hp
        · simp only [SObj.den, Option.some.injEq, Obj.loop.injEq] at hr
          subst hr
          cases jump with
          | none => obtain ⟨rfl, e, _⟩ := hj; simp only [SObj.den, e]
          | some cd => obtain ⟨rfl, e, _⟩ := hj; simp only [SObj.den, e]
        · cases jump with
          | none => exact hj.2.2
          | some cd => exact hj.2.2
      split at h
      · exact fin none _ _ _ h fun Q hq hp => run' Q none _ _ _ ⟨rfl, rfl, rfl⟩ hq hp
      · exact fin (some .ret) _ _ _ h fun Q hq hp => run' Q (some .ret) _ _ _ ⟨rfl, rfl, rfl⟩ hq hp
      · rename_i id; exact fin (some (.exit id)) _ _ _ h fun Q hq hp => run' Q (some (.exit id)) _ _ _ ⟨rfl, rfl, rfl⟩ hq hp
      · rename_i t; exact fin (some (.goto t)) _ _ _ h fun Q hq hp => run' Q (some (.goto t)) _ _ _ ⟨rfl, rfl, rfl⟩ hq hp
      · exact h.elim
    · exact h.elim
  · -- leaving
    rename_i f tmps ds hmd
    simp only [Cfg.den, hmd]
    split at h
    · exact h.elim
    · rename_i fn hf
      rw [hf]
      simp only
      split at h
      · simp only [List.map_nil]
        unfold aLeave aResults
        refine sResList_sound hnv h fun l hl => ?_
        have := hrec.use hl hnv
        simp only [Cfg.den, resS_den] at this
        exact this
      · rename_i r ds
        split at h <;> try exact h.elim
        rename_i hu
        obtain ⟨h1, h2⟩ := sSet_inv h
        have := hrec.use h2 hnv
        simp only [Cfg.den, hf] at this
        rw [set_den] at this
        simp only [List.map_cons, SDef.den]
        unfold aLeave
        simp only
        unfold takeS
        refine getObj_of (get_up hu) rfl ?_
        exact setObj_of (get_up hu) rfl rfl h1 this
      · rename_i g caught args ds
        split at h <;> try exact h.elim
        rename_i gn hg
        split at h <;> try exact h.elim
        rename_i gb hgb
        have := hrec.use h hnv
        simp only [Cfg.den, codeAt_nil hg hgb, enterSAct_den] at this
        simp only [List.map_cons, SDef.den]
        unfold aLeave
        simp only
        unfold aInvoke aTarget aFunc
        simp only [hg, hgb]
        refine hT.callD ?_
        unfold aCallD
        rw [hg]
        simp only
        rw [hgb]
        simp only
        have e : ((args.denL ρ).toArray.toList ++ (caught.denL ρ).toArray.toList).toArray = ((args.toL ++ caught.toL).map (SV.den ρ)).toArray := by
          simp only [List.map_append, ← unpackL]
        rw [e]
        refine hT.codeMono (fun e a h' hq => ?_) this
        simp only [denF, hf, hg] at hq
        cases e <;> first
          | exact hq.elim
          | (cases hd : a.defers with
             | nil => rw [hd] at hq; exact hq
             | cons _ _ => rw [hd] at hq; exact hq.elim)
  · -- values
    rename_i v hmd
    simp only [Cfg.den, hmd]
    split at h
    · rename_i k hk
      rw [hk]
      exact h
    · rename_i a dst pos rd k hk
      rw [hk]
      have := hrec.use h hnv
      simp only [Cfg.den, SAct.put_den] at this
      exact this
    · rename_i l a rd k hk
      rw [hk]
      simp only [denF]
      split at h <;> try exact h.elim
      rename_i st pe tm f' p' d hu
      split at h
      · exact h.elim
      · rename_i hst
        obtain ⟨h1, h2⟩ := sSet_inv h
        have := hrec.use h2 hnv
        simp only [Cfg.den] at this
        rw [set_den] at this
        unfold endLoopS
        rw [aSem_bind]
        unfold getLoopS
        refine getObj_of (get_up hu) rfl ?_
        have run : ∀ {α : Type} (x : Sem α) (y : Sem α) (hs : (match st with | .busy => x | _ => y) = y), True := fun _ _ _ => trivial
        have key : aSem P (setObj (l.den ρ) ((SObj.loop .exhausted pe tm f' p' d).den P ρ) >>= fun _ => pure pe.den) (c.h.den P ρ) fun jump h5 => match jump with
            | none => (denF P X T R tc ρ k).q (rdDen ρ rd) .normal (a.den ρ) h5
            | some cd => T.code (rdDen ρ rd) cd ((denF P X T R tc ρ k).q (rdDen ρ rd)) (a.den ρ) h5 := by
          refine setObj_of (get_up hu) rfl rfl h1 ?_
          show (match pe.den with | none => _ | some cd => _)
          cases pe with
          | none => exact this
          | ret => exact hT.step (by simp) this
          | exit id => exact hT.step (by simp) this
          | goto t => exact hT.step (by simp) this
        cases st with
        | busy => exact (hst rfl).elim
        | _ => exact key
    · exact h.elim
  · rename_i hmd
    simp only [Cfg.den, hmd]
    split at h
    · rename_i f tmps ds k hk
      rw [hk]
      have := hrec.use h hnv
      simp only [Cfg.den] at this
      exact this
    · exact h.elim

/-- THE EXECUTOR IS SOUND. -/
theorem sx_sound (hT : TopLike P X T) {H : Hints} : ∀ n, RecOK P X T R (sx P X H n)
  | 0 => fun c tc ρ _ h => h.elim
  | n + 1 => sStep_sound hT (sx_sound hT n)

end
end Go.Abs
