/- Symbolic execution, part 9: the executor is sound: calls, rounds, regions, code. -/
import Derived.Test.YtkfoibidnkfndaaGreatDoorAbS8
set_option linter.unusedVariables false
set_option linter.unusedSimpArgs false
namespace Go.Abs

/-- What the rules want of a level. -/
structure TopLike (P : Program) (X : Exts) (T : Lvl) : Prop where
  step : ∀ {rd : Option Nat} {c : Code} {Q : KQ} {a : Act} {h : Heap}, (∀ c0, c ≠ .loop c0) → aCode P X T rd c Q a h → T.code rd c Q a h
  loop : ∀ {rd : Option Nat} {c : Code} {Q : KQ} (I : Nat → Act → Heap → Prop), (∀ j a h, I j a h → T.code rd c (exThen (fun a' h' => ∃ j', j' < j ∧ I j' a' h') Q) a h) → ∀ {j : Nat} {a : Act} {h : Heap}, I j a h → T.code rd (.loop c) Q a h
  call : ∀ {f : FuncId} {args : Array Value} {h : Heap} {R : Value → Heap → Prop}, aCall P X T f args h R → T.call f args h R
  callD : ∀ {f : FuncId} {args : Array Value} {h : Heap} {R : Heap → Prop}, aCallD P T f args h R → T.callD f args h R
  callMono : ∀ {f : FuncId} {args : Array Value} {h : Heap} {R R' : Value → Heap → Prop}, (∀ v h', R v h' → R' v h') → T.call f args h R → T.call f args h R'
  codeMono : ∀ {rd : Option Nat} {c : Code} {Q Q' : KQ} {a : Act} {h : Heap}, (∀ e a h, Q e a h → Q' e a h) → T.code rd c Q a h → T.code rd c Q' a h

section
variable {P : Program} {X : Exts} {T : Lvl} {R : Value → Heap → Prop} {tc : TC} {ρ : Env}

/-- What a configuration means. -/
def Cfg.den (P : Program) (X : Exts) (T : Lvl) (R : Value → Heap → Prop) (tc : TC) (ρ : Env) (c : Cfg) : Prop :=
  match c.md with
  | .code f p => T.code (rdDen ρ c.rd) (codeAt P f p) ((denF P X T R tc ρ c.k).q (rdDen ρ c.rd)) (c.a.den ρ) (c.h.den P ρ)
  | .pos q => posDen P X T ρ (rdDen ρ c.rd) q ((denF P X T R tc ρ c.k).q (rdDen ρ c.rd)) (c.a.den ρ) (c.h.den P ρ)
  | .ex e => (denF P X T R tc ρ c.k).q (rdDen ρ c.rd) e (c.a.den ρ) (c.h.den P ρ)
  | .leave f tmps ds => (match P.funcs[f]? with
    | some fn => aLeave P X T fn (tmps.denL ρ).toArray (denF P X T R tc ρ c.k).r (ds.map (SDef.den ρ)) (c.h.den P ρ)
    | none => False)
  | .val v => (denF P X T R tc ρ c.k).r (v.den ρ) (c.h.den P ρ)
  | .dend => (denF P X T R tc ρ c.k).d (c.h.den P ρ)

/-- A function from configurations to trees that is sound. -/
def RecOK (P : Program) (X : Exts) (T : Lvl) (R : Value → Heap → Prop) (rec : Cfg → Tree) : Prop :=
  ∀ (c : Cfg) (tc : TC) (ρ : Env), ρ.length = c.nv → (rec c).den P T R tc ρ → c.den P X T R tc ρ

theorem RecOK.use {rec : Cfg → Tree} (hrec : RecOK P X T R rec) {c : Cfg} (h : (rec c).den P T R tc ρ) (hnv : ρ.length = c.nv) : c.den P X T R tc ρ := hrec c tc ρ hnv h

theorem aFunc_mono {f : FuncId} {args : List Value} {h : Heap} {Q Q' : Next → Heap → Prop} (hm : ∀ a h', Q a h' → Q' a h') (hq : aFunc P X f args h Q) : aFunc P X f args h Q' := by
  unfold aFunc at *
  split at hq
  · split at hq
    · exact hm _ _ hq
    · unfold aExtern at *
      split at hq
      · exact aSem_mono _ (fun _ h' hq => hm _ _ hq) hq
      · exact hq.elim
  · exact hq.elim

theorem aInvoke_mono {d : Deferred} {h : Heap} {Q Q' : Next → Heap → Prop} (hm : ∀ a h', Q a h' → Q' a h') (hq : aInvoke P X d h Q) : aInvoke P X d h Q' := by
  unfold aInvoke at *
  split at hq <;> try exact hq.elim
  unfold aTarget at *
  split at hq <;> try exact hq.elim
  · exact aFunc_mono hm hq
  · split at hq <;> try exact hq.elim
    split at hq
    · exact aFunc_mono hm hq
    · exact hq.elim
  · exact aSem_mono _ hm hq

theorem aBuiltin_mono {b : Builtin} {ts : Array TypeId} {t : TypeId} {args : List Value} {h : Heap} {Q Q' : Value → Heap → Prop} (hm : ∀ a h', Q a h' → Q' a h') (hq : aBuiltin P b ts t args h Q) : aBuiltin P b ts t args h Q' := by
  unfold aBuiltin at *
  split at hq <;> first
    | exact hq.elim
    | exact aAppend_mono hm hq
    | exact aVal_mono hm hq
    | exact aSem_mono _ hm hq

theorem aOp2_mono {ev : Operand → Value} {o : Oper} {h : Heap} {Q Q' : Next → Heap → Prop} (hm : ∀ a h', Q a h' → Q' a h') (hq : aOp2 P X ev o h Q) : aOp2 P X ev o h Q' := by
  unfold aOp2 at *
  split at hq <;> first
    | exact hq.elim
    | exact aSem_mono _ (fun _ h' hq => hm _ _ hq) hq
    | exact aNext_mono (fun _ h' hq => hm _ _ hq) hq
    | exact aConvert_mono (fun _ h' hq => hm _ _ hq) hq
    | (split at hq
       · exact aBuiltin_mono (fun _ h' hq => hm _ _ hq) hq
       · split at hq
         · exact aInvoke_mono hm hq
         · exact hq.elim)
    | (split at hq
       · first | exact hm _ _ hq | exact aSem_mono _ (fun _ h' hq => hm _ _ hq) hq
       · exact hq.elim)

/-- What an operation of class 0 does is what pureOp says. -/
theorem aOp_pure {ev : Operand → Value} {o : Oper} {h : Heap} {Q : Next → Heap → Prop} {v : Value} (hc : Nat.beq (classOf P o.op) 0 = true) (hv : pureOp P ev o = some v) (hq : Q (.value v) h) : aOp P X ev o h Q := by
  unfold aOp
  rw [hc, hv]
  exact hq

theorem aOp_two {ev : Operand → Value} {o : Oper} {h : Heap} {Q : Next → Heap → Prop} (hc : Nat.beq (classOf P o.op) 0 = false) (hq : aOp2 P X ev o h Q) : aOp P X ev o h Q := by
  unfold aOp
  rw [hc]
  exact hq

/-- The same when the environment has grown. -/
theorem grown_inv {nv : Nat} {k : List Fr} {a : SAct} {pos : Pos} {rd : Option BN} {t : Tree} {xs : Env} (hnv : ρ.length = nv) (h : (grown nv (nv + xs.length) k a pos rd t).den P T R tc (ρ ++ xs)) :
    t.den P T R tc (ρ ++ xs) ∧ denF P X T R tc (ρ ++ xs) k = denF P X T R tc ρ k ∧ a.den (ρ ++ xs) = a.den ρ ∧ (∀ rd' Q a' h', posDen P X T (ρ ++ xs) rd' pos Q a' h' = posDen P X T ρ rd' pos Q a' h') ∧ rdDen (ρ ++ xs) rd = rdDen ρ rd := by
  unfold grown at h
  cases hb : (Nat.beq (nv + xs.length) nv || (frsOk nv k && (a.ok nv && (pos.ok nv && rdOk nv rd)))) with
  | false => rw [hb] at h; exact h.elim
  | true =>
    rw [hb] at h
    simp only [Bool.or_eq_true] at hb
    rcases hb with hb | hb
    · have := Nat.eq_of_beq_eq_true hb
      have hx : xs = [] := List.eq_nil_of_length_eq_zero (by omega)
      subst hx
      simp only [List.append_nil] at h ⊢
      refine ⟨h, ?_, ?_, ?_, ?_⟩ <;> simp
    · simp only [Bool.and_eq_true] at hb
      subst hnv
      refine ⟨h, denF_app P X T R hb.1, SAct.den_app hb.2.1, fun rd' Q a' h' => ?_, rd_app hb.2.2.2⟩
      cases pos with
      | list ops rest => rfl
      | any ops p0 f l rp =>
        have hp := hb.2.2.1
        simp only [Pos.ok, Bool.and_eq_true] at hp
        simp only [posDen, PE.den_app hp.1, rp_app hp.2]

theorem grownH_inv {nv : Nat} {s : SH} {t : Tree} {xs : Env} (hnv : ρ.length = nv) (h : (grownH nv (nv + xs.length) s t).den P T R tc (ρ ++ xs)) : t.den P T R tc (ρ ++ xs) ∧ s.den P (ρ ++ xs) = s.den P ρ := by
  unfold grownH at h
  cases hb : (Nat.beq (nv + xs.length) nv || s.ok nv) with
  | false => rw [hb] at h; exact h.elim
  | true =>
    rw [hb] at h
    simp only [Bool.or_eq_true] at hb
    rcases hb with hb | hb
    · have := Nat.eq_of_beq_eq_true hb
      have hx : xs = [] := List.eq_nil_of_length_eq_zero (by omega)
      subst hx
      simp only [List.append_nil] at h ⊢
      refine ⟨h, ?_⟩; simp
    · subst hnv
      exact ⟨h, SH.den_app hb⟩

/-- What comes behind an operation. -/
def AfterOp (P : Program) (X : Exts) (T : Lvl) (R : Value → Heap → Prop) (tc : TC) (ρ : Env) (c : Cfg) (pos : Pos) : Act → Heap → Prop :=
  posDen P X T ρ (rdDen ρ c.rd) pos ((denF P X T R tc ρ c.k).q (rdDen ρ c.rd))

/-- What an operation's outcome must do. -/
def NextOK (P : Program) (X : Exts) (T : Lvl) (rd : Option Nat) (a : Act) (dst : Option Tmp) (K : Act → Heap → Prop) : Next → Heap → Prop := fun nx h' => match nx with
  | .value v => K (a.put dst v) h'
  | .skip => K (a.put dst undef) h'
  | .defer d => match rd with
    | none => K ({ a with defers := d :: a.defers }.put dst undef) h'
    | some _ => False
  | .enter f args => T.call f args h' fun v h'' => K (a.put dst v) h''
  | .round l _ tmps assign body => aRound P T l tmps assign body h' fun v h'' => K (a.put dst v) h''
  | _ => False

theorem aOp1_of {rd : Option Nat} {o : Oper} {a : Act} {h : Heap} {K : Act → Heap → Prop} (hq : aOp P X a.eval o h (NextOK P X T rd a o.dst K)) : aOp1 P X T rd o a h K := hq

theorem goes_pos {rec : Cfg → Tree} (hrec : RecOK P X T R rec) {c : Cfg} {dst : Option Tmp} {pos : Pos} (hnv : ρ.length = c.nv) :
    Goes P T R tc ρ c.nv (fun v h n => grown c.nv n c.k c.a pos c.rd (rec { c with md := .pos pos, a := c.a.put dst v, h := h, nv := n })) (fun v h' => AfterOp P X T R tc ρ c pos ((c.a.den ρ).put dst v) h') := by
  intro v h' xs h
  obtain ⟨h1, h2, h3, h4, h5⟩ := grown_inv (X := X) hnv h
  have := hrec.use h1 (by simp [hnv])
  simp only [Cfg.den, h2, h5, h4, SAct.put_den, h3] at this
  exact this

theorem enterSAct_den (fn : Func) (args : List SV) : (enterSAct fn args).den ρ = enterAct fn (args.map (SV.den ρ)).toArray := by
  have happ : ∀ (l : List SV) (w : SV), (appL (SV.ofL l) w).denL ρ = l.map (SV.den ρ) ++ w.denL ρ := by
    intro l w
    induction l with
    | nil => rfl
    | cons v l ih => simp only [List.map_cons, List.cons_append, ← ih]; rfl
  have hrep : ∀ n, (repl n).denL ρ = List.replicate n undef := by
    intro n
    induction n with
    | zero => rfl
    | succ n ih => simp only [List.replicate_succ, ← ih]; rfl
  simp only [enterSAct, SAct.den, happ, hrep, enterAct, List.map_nil]
  congr 1
  apply Array.toList_inj.1
  simp

theorem codeAt_nil {f : FuncId} {fn : Func} {c : Code} (hf : P.funcs[f]? = some fn) (hb : fn.body = some c) : codeAt P f [] = c := by
  simp only [codeAt, bodyOf, hf, hb]

theorem sCall_sound (hT : TopLike P X T) {H : Hints} {rec : Cfg → Tree} (hrec : RecOK P X T R rec) {f : FuncId} {args : List SV} {dst : Option Tmp} {pos : Pos} {c : Cfg} (hnv : ρ.length = c.nv)
    (h : (sCall P X H rec f args dst pos c).den P T R tc ρ) : aFunc P X f (args.map (SV.den ρ)) (c.h.den P ρ) (NextOK P X T (rdDen ρ c.rd) (c.a.den ρ) dst (AfterOp P X T R tc ρ c pos)) := by
  unfold sCall at h
  unfold aFunc
  split at h
  · exact h.elim
  · rename_i fn hf
    rw [hf]
    simp only
    split at h
    · rename_i hb
      rw [hb]
      simp only
      unfold aExtern
      split at h <;> try exact h.elim
      rename_i e he
      rw [he]
      have := sPrim_sound hnv (goes_pos hrec (dst := dst) hnv) h
      exact this
    · rename_i body hb
      rw [hb]
      simp only
      show T.call f _ _ _
      cases hm : natMem f H.calls with
      | true =>
        rw [hm] at h
        simp only [cond_true] at h
        generalize (patR P fn.resultTypes.toList c.nv).1 = v at h
        generalize (patR P fn.resultTypes.toList c.nv).2 = ss at h
        have h' : T.call f ((SV.ofL args).denL ρ).toArray (c.h.den P ρ) _ := h
        rw [SV.ofL_den] at h'
        refine hT.callMono (fun w h2 hq => ?_) h'
        obtain ⟨xs, ht, h3, h4⟩ := exT_typed hq
        obtain ⟨h5, h6⟩ := keepAll_inv h4
        rw [envh_last] at h5
        have hl : ss.length = xs.length := ht.length.symm
        have e1 : c.nv + ss.length + 1 = c.nv + (xs ++ [U.h h2]).length := by simp [hl]; omega
        rw [e1, List.append_assoc] at h6
        have g := goes_pos hrec (dst := dst) (pos := pos) (tc := tc) hnv v { base := c.nv + ss.length, nxt := 0, ups := keepsOf c.h.ups [], pins := .of (c.nv + ss.length) } (xs ++ [.h h2]) h6
        have e2 : SH.den P (ρ ++ (xs ++ [.h h2])) { base := c.nv + ss.length, nxt := 0, ups := keepsOf c.h.ups [], pins := .of (c.nv + ss.length) } = h2 := by
          rw [← List.append_assoc, SH.den_eq]
          simp only [PE.den]
          rw [hl, ← hnv, envh_last]
          exact hup_same h5
        rw [e2] at g
        rw [← List.append_assoc, ← h3] at g
        exact g
      | false =>
        rw [hm] at h
        simp only [cond_false] at h
        have := hrec.use h hnv
        refine hT.call ?_
        unfold aCall
        rw [hf]
        simp only
        rw [hb]
        simp only
        simp only [Cfg.den, codeAt_nil hf hb, enterSAct_den] at this
        refine hT.codeMono (fun e a h' hq => ?_) this
        simp only [denF] at hq
        cases e <;> simp only [hf] at hq ⊢ <;> first | exact hq | exact hq.elim

theorem setAllS_den : ∀ (ts : List Tmp) (vs : List SV) (a : SV), ((setAllS ts vs a).denL ρ).toArray = setAll ts (vs.map (SV.den ρ)) (a.denL ρ).toArray
  | t :: ts, v :: vs, a => by
    simp only [setAllS, List.map_cons, setAll]
    rw [setAllS_den ts vs, setNth_den]
  | [], _, _ => rfl
  | _ :: _, [], _ => rfl

theorem get_up {s : SH} {b : BN} {o : SObj} (hf : findUp b s.ups [] = ([], some o)) : (s.den P ρ).get (b.den ρ) = some (o.den P ρ) := by
  rw [SH.den_eq]
  exact findUp_get _ _ _ hf (fun c hc => by cases hc)

theorem getObj_of {h : Heap} {i : Nat} {o : Obj} (hg : h.get i = some o) (hn : notCells o = true) {α : Type} {k : Obj → Sem α} {Q : α → Heap → Prop} (hq : aSem P (k o) h Q) : aSem P (getObj i >>= k) h Q := by
  show aSem P (Sem.getObj i _) h Q
  simp only [aSem, hg, hn, cond_true]
  exact hq

theorem setObj_of {h : Heap} {i : Nat} {o o' : Obj} (hg : h.get i = some o') (hn : notCells o' = true) (hn' : notCells o = true) (hp : pinnedBlock i h.pins = false) {α : Type} {k : Unit → Sem α} {Q : α → Heap → Prop} (hq : aSem P (k ()) (h.put i (some o)) Q) : aSem P (setObj i o >>= k) h Q := by
  show aSem P (Sem.setObj i o _) h Q
  simp only [aSem, hg, hn, hn', hp, Bool.not_false, Bool.and_self, cond_true]
  exact hq

theorem bodyQ_eq (l : Nat) (r : Value → Heap → Prop) : bodyQ P l r = (fun e _ h3 => match e with
      | .normal => aSem P (endS l none) h3 r
      | .ret => aSem P (endS l (some .ret)) h3 r
      | .exit id => aSem P (endS l (some (.exit id))) h3 r
      | .goto t => aSem P (endS l (some (.goto t))) h3 r
      | _ => False) := by
  funext e a h; cases e <;> rfl

theorem sYield_sound {rec : Cfg → Tree} (hrec : RecOK P X T R rec) {l : BN} {args : List SV} {dst : Option Tmp} {pos : Pos} {c : Cfg} (hnv : ρ.length = c.nv)
    (h : (sYield P rec l args dst pos c).den P T R tc ρ) : aSem P (yieldS (l.den ρ) (args.map (SV.den ρ))) (c.h.den P ρ) (NextOK P X T (rdDen ρ c.rd) (c.a.den ρ) dst (AfterOp P X T R tc ρ c pos)) := by
  unfold sYield at h
  split at h <;> try exact h.elim
  rename_i st pe tmps f p d hf
  cases hb : Nat.beq args.length (paramsAt P f p).size with
  | false => rw [hb] at h; exact h.elim
  | true =>
    rw [hb] at h
    have := hrec.use h hnv
    unfold yieldS
    refine getObj_of (get_up hf) rfl ?_
    simp only [SObj.den, List.length_map, hb, cond_true]
    show aRound P T (l.den ρ) _ _ _ _ _
    unfold aRound
    simp only [Cfg.den, denF, rdDen, Option.map_some, SAct.den, setAllS_den, bodyQ_eq, List.map_nil] at this
    exact this

theorem sOper_sound (hT : TopLike P X T) {H : Hints} {rec : Cfg → Tree} (hrec : RecOK P X T R rec) {o : Oper} {pos : Pos} {c : Cfg} (hnv : ρ.length = c.nv)
    (h : (sOper P X H rec o pos c).den P T R tc ρ) : aOp1 P X T (rdDen ρ c.rd) o (c.a.den ρ) (c.h.den P ρ) (AfterOp P X T R tc ρ c pos) := by
  have ev : ∀ x, (c.a.den ρ).eval x = (c.a.ev x).den ρ := fun x => (c.a.ev_den ρ x).symm
  have eargs : ∀ l : List Operand, l.map (c.a.den ρ).eval = (l.map c.a.ev).map (SV.den ρ) := by
    intro l
    rw [List.map_map]
    apply List.map_congr_left
    intro x _
    simp only [Function.comp, ev]
  refine aOp1_of ?_
  unfold sOper at h
  cases hc : Nat.beq (classOf P o.op) 0 with
  | true =>
    rw [hc] at h
    simp only [cond_true] at h
    obtain ⟨v, xs, h1, h2⟩ := sPure_sound h
    refine aOp_pure hc h2 ?_
    obtain ⟨g1, g2, g3, g4, g5⟩ := grown_inv (X := X) hnv h1
    obtain ⟨g6, g7⟩ := grownH_inv hnv g1
    have := hrec.use g6 (by simp [hnv])
    simp only [Cfg.den, g2, g5, g4, g3, SAct.put_den, g7] at this
    exact this
  | false =>
    rw [hc] at h
    simp only [cond_false] at h
    refine aOp_two hc ?_
    have effs : (sEff P (keptBox o.dst o.pos H.boxes) c.a o c.h c.nv fun v h n => grown c.nv n c.k c.a pos c.rd (rec { c with md := .pos pos, a := c.a.put o.dst v, h := h, nv := n })).den P T R tc ρ →
        aOp2 P X (c.a.den ρ).eval o (c.h.den P ρ) (NextOK P X T (rdDen ρ c.rd) (c.a.den ρ) o.dst (AfterOp P X T R tc ρ c pos)) := by
      intro h
      refine aOp2_mono (fun nx h' hq => ?_) (sEff_sound hnv (goes_pos hrec (dst := o.dst) hnv) h)
      cases nx <;> first | exact hq | exact hq.elim
    split at h
    · rename_i cl ho
      split at h
      · exact effs h
      · rename_i g hcal
        unfold aOp2
        simp only [ho, hcal, deferV, ev]
        split at h
        · rename_i f first caught hg
          rw [hg]
          have := sCall_sound hT hrec hnv h
          simp only [SV.den, SV.dn]
          unfold aInvoke aTarget
          simp only
          have e : (((first.dn ρ).2.toArray.toList ++ cl.args.toList.map (c.a.den ρ).eval).toArray.toList ++ (caught.dn ρ).2.toArray.toList) = (first.toL ++ cl.args.toList.map c.a.ev ++ caught.toL).map (SV.den ρ) := by
            simp only [List.map_append, ← unpackL, eargs, SV.denL]
          rw [e]
          exact this
        · rename_i l hg
          rw [hg]
          have := sYield_sound hrec hnv h
          simp only [SV.den, SV.dn]
          unfold aInvoke aTarget
          simp only
          have e : ((([] : List Value).toArray.toList ++ cl.args.toList.map (c.a.den ρ).eval).toArray.toList) = (cl.args.toList.map c.a.ev).map (SV.den ρ) := by
            simp [eargs]
          show aSem P (yieldS (l.den ρ) ((([] : List Value).toArray.toList ++ cl.args.toList.map (c.a.den ρ).eval).toArray.toList)) _ _
          rw [e]
          exact this
        · exact h.elim
      · rename_i recv name hcal
        unfold aOp2
        simp only [ho, hcal, deferV, ev]
        split at h <;> try exact h.elim
        rename_i t v hg
        split at h <;> try exact h.elim
        rename_i f hm
        rw [hg]
        have := sCall_sound hT hrec hnv h
        unfold aInvoke aTarget
        simp only [SV.den, SV.dn, hm]
        have e : (cl.args.toList.map (c.a.den ρ).eval) = (cl.args.toList.map c.a.ev).map (SV.den ρ) := eargs _
        rw [e]
        exact this
    · rename_i cl ho
      unfold aOp2
      simp only [ho]
      split at h <;> try exact h.elim
      rename_i g hrd hcal
      split at h <;> try exact h.elim
      rename_i f first caught hg
      have := hrec.use h hnv
      simp only [deferV, hcal, ev, hg, SV.den, SV.dn]
      show NextOK P X T (rdDen ρ c.rd) _ _ _ (.defer _) _
      rw [hrd]
      simp only [NextOK, rdDen, Option.map_none]
      simp only [Cfg.den] at this
      rw [SAct.put_den, hrd] at this
      simp only [SAct.den, List.map_cons, SDef.den, SV.ofL_den, List.map_append] at this
      have e : ((first.dn ρ).2.toArray.toList ++ cl.args.toList.map (c.a.den ρ).eval).toArray = (first.toL.map (SV.den ρ) ++ (cl.args.toList.map c.a.ev).map (SV.den ρ)).toArray := by
        rw [← unpackL, eargs]; rfl
      rw [e]
      show AfterOp P X T R tc ρ c pos _ _
      unfold AfterOp
      rw [hrd]
      exact this
    · exact effs h

theorem split_sound {rec : Cfg → Tree} (hrec : RecOK P X T R rec) {e : E} {c : Cfg} (hnv : ρ.length = c.nv) (h : (split rec e c).den P T R tc ρ) : c.den P X T R tc ρ := by
  have key : ∀ b, e.b ρ = b → (rec { c with a := { c.a with tmps := knowV e b c.a.tmps } }).den P T R tc ρ → c.den P X T R tc ρ := by
    intro b hb h
    have := hrec.use h hnv
    have e2 : SAct.den ρ { c.a with tmps := knowV e b c.a.tmps } = c.a.den ρ := by
      simp only [SAct.den, SV.denL, knowV_dn hb]
    simp only [Cfg.den, e2] at this ⊢
    exact this
  cases hb : e.b ρ with
  | true => exact key true hb (h.1 ((E.p_iff ρ e).1 hb))
  | false => exact key false hb (h.2 ((E.not_p ρ e).1 hb))

end
end Go.Abs
