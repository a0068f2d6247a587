/- Symbolic execution, part 7: the executor is sound: operations that read or write memory. -/
import Derived.Test.YtkfoibidnkfndaaGreatDoorAbS6
set_option linter.unusedVariables false
set_option linter.unusedSimpArgs false
namespace Go.Abs

/-! ### What follows from more -/

theorem aSem_mono {P : Program} {α : Type} (s : Sem α) : ∀ {h : Heap} {Q Q' : α → Heap → Prop}, (∀ a h', Q a h' → Q' a h') → aSem P s h Q → aSem P s h Q' := by
  induction s with
  | pure a => intro h Q Q' hm hq; exact hm _ _ hq
  | load m a k ih => intro h Q Q' hm hq; simp only [aSem] at hq ⊢; split at hq <;> first | exact ih _ hm hq | exact hq.elim
  | store m a v k ih => intro h Q Q' hm hq; simp only [aSem] at hq ⊢; split at hq <;> first | exact ih hm hq | exact hq.elim
  | new o k ih => intro h Q Q' hm hq; simp only [aSem] at hq ⊢; split at hq <;> first | exact ih _ hm hq | exact hq.elim
  | shape r k ih => intro h Q Q' hm hq; exact hq.elim
  | freeze a n k ih => intro h Q Q' hm hq; exact hq.elim
  | frozen a k ih => intro h Q Q' hm hq; exact hq.elim
  | getObj r k ih =>
    intro h Q Q' hm hq
    simp only [aSem] at hq ⊢
    split at hq
    · rename_i o _; cases hn : notCells o <;> rw [hn] at hq
      · exact hq.elim
      · exact ih _ hm hq
    · exact hq.elim
  | setObj r o k ih =>
    intro h Q Q' hm hq
    simp only [aSem] at hq ⊢
    split at hq
    · rename_i o' _; cases hn : (notCells o' && notCells o && !pinnedBlock r h.pins) <;> rw [hn] at hq
      · exact hq.elim
      · exact ih hm hq
    · exact hq.elim
  | choose q k ih => intro h Q Q' hm hq; exact hq.elim
  | sys c k ih => intro h Q Q' hm hq; exact hq.elim
  | program k ih => intro h Q Q' hm hq; exact ih _ hm hq
  | mark m k ih => intro h Q Q' hm hq; exact ih hm hq
  | halt x => intro h Q Q' hm hq; exact hq.elim

section
variable {P : Program} {Q Q' : Value → Heap → Prop} {h : Heap}

theorem aVal_mono {o : Option Value} (hm : ∀ a h', Q a h' → Q' a h') (hq : aVal o h Q) : aVal o h Q' := by
  unfold aVal at *
  split at hq
  · exact hm _ _ hq
  · exact hq.elim

theorem aAppendTo_mono {base : Option Addr} {len cap size bytes : Nat} {e : TypeId} {n : Nat} {cs : List Value} (hm : ∀ a h', Q a h' → Q' a h') (hq : aAppendTo P base len cap size bytes e n cs h Q) : aAppendTo P base len cap size bytes e n cs h Q' := by
  unfold aAppendTo at *
  cases h0 : Nat.beq n 0 <;> rw [h0] at hq
  · simp only [cond_false] at hq ⊢
    cases h1 : (!Nat.ble ((len + n) * bytes) 140737488355328 || !Nat.ble (len + n) 140737488355328 || Nat.beq size 0 || Nat.beq bytes 0 || !Nat.beq cs.length (n * size) || !zeroFits P e size) <;> rw [h1] at hq
    · simp only [cond_false] at hq ⊢
      cases base with
      | none =>
        simp only at hq ⊢
        cases h2 : (Nat.beq len 0 && Nat.beq cap 0) <;> rw [h2] at hq
        · exact hq.elim
        · exact hm _ _ hq
      | some a =>
        simp only at hq ⊢
        cases h2 : Nat.ble (len + n) cap <;> rw [h2] at hq
        · simp only [cond_false] at hq ⊢
          refine aSem_mono _ (fun old h' hq => ?_) hq
          cases hs : a.spot with
          | none => rw [hs] at hq; exact hm _ _ hq
          | some s =>
            rw [hs] at hq
            simp only at hq ⊢
            cases h3 : (Nat.beq s size && cs.all oneCell && !pinnedBlock a.block h'.pins) <;> rw [h3] at hq
            · exact hq.elim
            · simp only [cond_true] at hq ⊢
              split at hq
              · rename_i c e0 fr hg
                cases h4 : (free fr && Nat.beq e0 e) <;> rw [h4] at hq
                · exact hq.elim
                · exact hm _ _ hq
              · exact hq.elim
        · simp only [cond_true] at hq ⊢
          exact aSem_mono _ (fun _ h' hq => hm _ _ hq) hq
    · exact hq.elim
  · simp only [cond_true] at hq ⊢
    cases h2 : Nat.ble len cap <;> rw [h2] at hq
    · exact hq.elim
    · exact hm _ _ hq

theorem aAppend_mono {ts : Array TypeId} {args : List Value} (hm : ∀ a h', Q a h' → Q' a h') (hq : aAppend P ts args h Q) : aAppend P ts args h Q' := by
  unfold aAppend at *
  split at hq <;> try exact hq.elim
  split at hq <;> try exact hq.elim
  split at hq <;> try exact hq.elim
  exact aSem_mono _ (fun nc h' hq => aAppendTo_mono hm hq) hq

theorem aAll_mono {F G : Nat → Prop} (hm : ∀ i, F i → G i) : ∀ {l : List Nat}, aAll l F → aAll l G
  | [], _ => trivial
  | [i], h => hm i h
  | i :: j :: l, h => ⟨hm i h.1, aAll_mono hm h.2⟩

theorem aNext_mono {it : Value} {s : Bool} (hm : ∀ a h', Q a h' → Q' a h') (hq : aNext P it s h Q) : aNext P it s h Q' := by
  unfold aNext at *
  split at hq <;> try exact hq.elim
  split at hq <;> try exact hq.elim
  · rename_i s pos _
    cases hb : Nat.blt pos s.size <;> rw [hb] at hq
    · exact hm _ _ hq
    · exact aSem_mono _ (fun _ h' hq => hm _ _ hq) hq
  · exact hm _ _ hq
  · rename_i m since seen last _
    split at hq <;> try exact hq.elim
    rename_i es clock _
    cases hb : (!seen.toList.isEmpty && !es.toList.isEmpty && es.toList.all fun e => Nat.ble last e.born) <;> rw [hb] at hq
    · simp only [cond_false] at hq ⊢
      refine aAll_mono (fun k hk => ?_) hq
      split at hk
      · exact aSem_mono _ (fun _ h' hq => hm _ _ hq) hk
      · exact hm _ _ hk
      · exact hk.elim
    · exact hq.elim

theorem aConvert_mono {s d : TypeId} {x : Value} (hm : ∀ a h', Q a h' → Q' a h') (hq : aConvert P s d x h Q) : aConvert P s d x h Q' := by
  unfold aConvert at *
  cases hs : scalar x <;> rw [hs] at hq
  · simp only [cond_false] at hq ⊢
    split at hq <;> try exact hq.elim
    · rename_i e a _ _ _ _
      cases hb : Nat.beq s d <;> rw [hb] at hq
      · exact hq.elim
      · simp only [cond_true] at hq ⊢
        split at hq <;> try exact hq.elim
        rename_i c t fr _ _
        cases hf : free fr <;> rw [hf] at hq
        · exact hq.elim
        · exact hm _ _ hq
    · split at hq <;> try exact hq.elim
      rw [Bool.cond_eq_ite] at hq ⊢
      split at hq
      · rename_i hb
        rw [if_pos hb]
        exact hm _ _ hq
      · exact hq.elim
    · split at hq <;> try exact hq.elim
      exact aSem_mono _ hm hq
  · simp only [cond_true] at hq ⊢
    split at hq
    · exact hm _ _ hq
    · exact aVal_mono hm hq

theorem Prim.den_mono {p : Prim} {args : List Value} (hm : ∀ a h', Q a h' → Q' a h') (hq : p.den P args h Q) : p.den P args h Q' := by
  unfold Prim.den at *
  split at hq <;> first
    | exact hq.elim
    | exact aAppendTo_mono hm hq
    | exact aAppend_mono hm hq
    | exact aNext_mono hm hq
    | exact aVal_mono hm hq
    | exact aConvert_mono hm hq
    | exact hm _ _ hq
    | exact aSem_mono _ hm hq
    | exact aSem_mono _ (fun _ h' hq => hm _ _ hq) hq
    | (split at hq
       · exact aSem_mono _ hm hq
       · exact hq.elim)
    | (split at hq
       · exact aSem_mono _ (fun _ h' hq => hm _ _ hq) hq
       · exact hq.elim)

end

/-! ### Heaps with updates -/

theorem Tri.put_same : ∀ (f : Nat) (t : Tri) (n : Nat) (o : Obj), n < f → t.get n = some o → Tri.put f t n (some o) = t
  | 0, _, _, _, h, _ => by omega
  | f + 1, .leaf, n, o, _, h => by simp [Tri.get] at h
  | f + 1, .node v l r, n, o, hf, h => by
    simp only [Tri.get] at h
    simp only [Tri.put]
    cases h0 : Nat.beq n 0 with
    | true => rw [h0] at h; simp only [cond_true] at h ⊢; rw [h]
    | false =>
      rw [h0] at h
      have hn : n ≠ 0 := Nat.ne_of_beq_eq_false h0
      simp only [cond_false] at h ⊢
      cases h1 : Nat.beq (n % 2) 1 with
      | true => rw [h1] at h; simp only [cond_true] at h ⊢; rw [Tri.put_same f l _ o (by omega) h]
      | false => rw [h1] at h; simp only [cond_false] at h ⊢; rw [Tri.put_same f r _ o (by omega) h]

theorem Tri.put_put : ∀ (f : Nat) (t : Tri) (n : Nat) (a b : Option Obj), Tri.put f (Tri.put f t n a) n b = Tri.put f t n b
  | 0, _, _, _, _ => rfl
  | f + 1, .leaf, n, a, b => by
    simp only [Tri.put]
    cases h0 : Nat.beq n 0 with
    | true => simp [Tri.put, h0]
    | false =>
      cases h1 : Nat.beq (n % 2) 1 with
      | true => simp only [cond_false, cond_true, Tri.put, h0, h1]; rw [Tri.put_put f]
      | false => simp only [cond_false, cond_true, Tri.put, h0, h1]; rw [Tri.put_put f]
  | f + 1, .node v l r, n, a, b => by
    simp only [Tri.put]
    cases h0 : Nat.beq n 0 with
    | true => simp [Tri.put, h0]
    | false =>
      cases h1 : Nat.beq (n % 2) 1 with
      | true => simp only [cond_false, cond_true, Tri.put, h0, h1]; rw [Tri.put_put f]
      | false => simp only [cond_false, cond_true, Tri.put, h0, h1]; rw [Tri.put_put f]

theorem Heap.put_same {h : Heap} {i : Nat} {o : Obj} (hg : h.get i = some o) : h.put i (some o) = h := by
  cases h with
  | mk next objs pins =>
    simp only [Heap.put, Heap.get] at *
    rw [Tri.put_same _ _ _ _ (by omega) hg]

theorem Heap.put_put (h : Heap) (i : Nat) (a b : Option Obj) : (h.put i a).put i b = h.put i b := by
  cases h with
  | mk next objs pins => simp only [Heap.put, Tri.put_put]

theorem hup_nil (H : Heap) (k : Nat) (p : List Addr) (j : Nat) : (hup H k [] p).get j = H.get j := rfl
theorem hup_cons (H : Heap) (k : Nat) (b : Nat) (o : Option Obj) (l : List (Nat × Option Obj)) (p : List Addr) (j : Nat) : (hup H k ((b, o) :: l) p).get j = if j = b then o else (hup H k l p).get j :=
  Tri.get_put _ _ _ _ _ (by omega)
theorem hup_put (H : Heap) (k : Nat) (b : Nat) (o : Option Obj) (l : List (Nat × Option Obj)) (p : List Addr) : (hup H k l p).put b o = hup H k ((b, o) :: l) p := rfl
theorem hup_alloc (H : Heap) (k : Nat) (o : Obj) (l : List (Nat × Option Obj)) (p : List Addr) : (hup H k l p).alloc o = hup H (k + 1) ((H.next + k, some o) :: l) p := rfl

section
variable {P : Program} {ρ : Env}

theorem consUp_den' : True := trivial

def upsDen (P : Program) (ρ : Env) (l : List (BN × SObj)) : List (Nat × Option Obj) := l.map fun x => (x.1.den ρ, some (x.2.den P ρ))

theorem SH.den_eq (s : SH) : s.den P ρ = hup (Env.h ρ s.base) s.nxt (upsDen P ρ s.ups) (s.pins.den ρ) := rfl

theorem findUp_acc {b : BN} : ∀ {ups : List (BN × SObj)} {acc acc' : List BN} {r : Option SObj}, findUp b ups acc = (acc', r) → ∀ c ∈ acc, c ∈ acc'
  | [], acc, acc', r, h, c, hc => by simp [findUp] at h; rw [← h.1]; exact hc
  | (d, o) :: l, acc, acc', r, h, c, hc => by
    simp only [findUp] at h
    cases h1 : d.same b with
    | true => rw [h1] at h; simp only [cond_true, Prod.mk.injEq] at h; rw [← h.1]; exact hc
    | false =>
      rw [h1] at h
      simp only [cond_false] at h
      cases h2 : d.apart b with
      | true => rw [h2] at h; exact findUp_acc h c hc
      | false => rw [h2] at h; exact findUp_acc h c (List.mem_cons_of_mem _ hc)

theorem findUp_get {b : BN} (H : Heap) (k : Nat) (p : List Addr) : ∀ {ups : List (BN × SObj)} {acc acc' : List BN} {r : Option SObj}, findUp b ups acc = (acc', r) → (∀ c ∈ acc', b.den ρ ≠ c.den ρ) →
    (hup H k (upsDen P ρ ups) p).get (b.den ρ) = match r with | some o => some (o.den P ρ) | none => H.get (b.den ρ)
  | [], acc, acc', r, h, _ => by simp only [findUp, Prod.mk.injEq] at h; rw [← h.2]; rfl
  | (d, o) :: l, acc, acc', r, h, hne => by
    have hc : upsDen P ρ ((d, o) :: l) = (d.den ρ, some (o.den P ρ)) :: upsDen P ρ l := rfl
    rw [hc, hup_cons]
    simp only [findUp] at h
    cases h1 : d.same b with
    | true =>
      rw [h1] at h
      simp only [cond_true, Prod.mk.injEq] at h
      rw [BN.same_eq h1, if_pos rfl, ← h.2]
    | false =>
      rw [h1] at h
      simp only [cond_false] at h
      cases h2 : d.apart b with
      | true =>
        rw [h2] at h
        rw [if_neg fun e => BN.apart_ne h2 ρ e.symm]
        exact findUp_get H k p h hne
      | false =>
        rw [h2] at h
        have : d ∈ acc' := findUp_acc h d (List.mem_cons_self ..)
        rw [if_neg (hne d this)]
        exact findUp_get H k p h hne

theorem allNames_get (H : Heap) (k : Nat) (p : List Addr) {j : Nat} : ∀ {ups : List (BN × SObj)}, (∀ c ∈ ups.map (·.1), j ≠ c.den ρ) → (hup H k (upsDen P ρ ups) p).get j = H.get j
  | [], _ => rfl
  | (d, o) :: l, hne => by
    have hc : upsDen P ρ ((d, o) :: l) = (d.den ρ, some (o.den P ρ)) :: upsDen P ρ l := rfl
    rw [hc, hup_cons, if_neg (hne d (by simp)), allNames_get H k p fun c hc => hne c (by simp at hc ⊢; exact .inr hc)]

theorem namesOf_mem : ∀ {ups : List (BN × SObj)} {acc : List BN}, (∀ c ∈ acc, c ∈ namesOf ups acc) ∧ ∀ x ∈ ups, x.1 ∈ namesOf ups acc
  | [], acc => ⟨fun c hc => hc, fun x hx => (by cases hx)⟩
  | (b, o) :: l, acc => by
    simp only [namesOf]
    cases hb : acc.any (·.same b) with
    | true =>
      simp only [cond_true]
      obtain ⟨h1, h2⟩ := namesOf_mem (ups := l) (acc := acc)
      refine ⟨h1, fun x hx => (List.mem_cons.1 hx).elim (fun e => ?_) (h2 x)⟩
      obtain ⟨c, hc, hs⟩ := List.any_eq_true.1 hb
      rw [e, ← BN.same_eq hs]
      exact h1 c hc
    | false =>
      simp only [cond_false]
      obtain ⟨h1, h2⟩ := namesOf_mem (ups := l) (acc := b :: acc)
      refine ⟨fun c hc => h1 c (List.mem_cons_of_mem _ hc), fun x hx => (List.mem_cons.1 hx).elim (fun e => ?_) (h2 x)⟩
      rw [e]; exact h1 b (List.mem_cons_self ..)

theorem litNat_some {e : E} {k : Nat} (h : litNat e = some k) : e.t ρ = k := by
  unfold litNat at h
  split at h
  · rename_i z
    cases hz : leI 0 z with
    | false => rw [hz] at h; cases h
    | true => rw [hz] at h; cases h; rfl
  · cases h

/-- What is found of an address. -/
theorem findA_get {a : AE} {s : SH} {acc : List BN} {r : Option (Nat × SObj)} {x : Addr} (h : findA a s.ups = (acc, r)) (hx : a.den ρ = some x) (hne : ∀ c ∈ acc, ∀ x, a.den ρ = some x → x.block ≠ c.den ρ) :
    (∀ k kp l t lo hi, r = some (k, .cells kp l t lo hi) → (s.den P ρ).get x.block = some (.cells (l.denL ρ).toArray t (lo, hi)) ∧ x.off = k ∧ x.spot = none ∧ ∃ b off, a = .blk b off ∧ x.block = b.den ρ) ∧
    (r = none → (s.den P ρ).get x.block = (Env.h ρ s.base).get x.block) := by
  rw [SH.den_eq]
  have all : (ups : List (BN × SObj)) → (acc, r) = (namesOf ups [], none) → ups = s.ups → (∀ k kp l t lo hi, r = some (k, .cells kp l t lo hi) → (hup (Env.h ρ s.base) s.nxt (upsDen P ρ s.ups) (s.pins.den ρ)).get x.block = some (.cells (l.denL ρ).toArray t (lo, hi)) ∧ x.off = k ∧ x.spot = none ∧ ∃ b off, a = .blk b off ∧ x.block = b.den ρ) ∧
      (r = none → (hup (Env.h ρ s.base) s.nxt (upsDen P ρ s.ups) (s.pins.den ρ)).get x.block = (Env.h ρ s.base).get x.block) := by
    intro ups h1 h2
    subst h2
    simp only [Prod.mk.injEq] at h1
    refine ⟨fun k kp l t lo hi e => (by rw [h1.2] at e; cases e), fun _ => allNames_get _ _ _ fun c hc => ?_⟩
    obtain ⟨y, hy, rfl⟩ := List.mem_map.1 hc
    exact hne y.1 (by rw [h1.1]; exact namesOf_mem.2 y hy) x hx
  cases a with
  | blk b off =>
    simp only [AE.den, Option.some.injEq] at hx
    subst hx
    have hne' : ∀ c ∈ acc, b.den ρ ≠ c.den ρ := fun c hc => hne c hc _ rfl
    unfold findA at h
    cases hf : findUp b s.ups [] with
    | mk acc' ro =>
      simp only [hf] at h
      cases ro with
      | none =>
        simp only [Prod.mk.injEq] at h
        obtain ⟨rfl, rfl⟩ := h
        exact ⟨fun k kp l t lo hi e => (by cases e), fun _ => findUp_get _ _ _ hf hne'⟩
      | some o =>
        cases ho : litNat off with
        | none =>
          simp only [ho, Prod.mk.injEq] at h
          obtain ⟨rfl, rfl⟩ := h
          exact ⟨fun k kp l t lo hi e => (by simp at e), fun e => (by cases e)⟩
        | some k0 =>
          simp only [ho, Prod.mk.injEq] at h
          obtain ⟨rfl, rfl⟩ := h
          refine ⟨fun k kp l t lo hi e => ?_, fun e => by cases e⟩
          simp only [Option.some.injEq, Prod.mk.injEq] at e
          obtain ⟨rfl, rfl⟩ := e
          exact ⟨findUp_get _ _ _ hf hne', litNat_some ho, rfl, b, off, rfl, rfl⟩
  | _ => exact all s.ups (by rw [← h]; rfl) rfl

theorem consUp_den {H : Heap} {k : Nat} {p : List Addr} {b : BN} {o : SObj} {l : List (BN × SObj)} : hup H k (upsDen P ρ (consUp b o l)) p = (hup H k (upsDen P ρ l) p).put (b.den ρ) (some (o.den P ρ)) := by
  unfold consUp
  split
  · rename_i c q r
    cases hc : c.same b with
    | false => rfl
    | true =>
      rw [BN.same_eq hc]
      simp only [cond_true]
      have e1 : upsDen P ρ ((b, q) :: r) = (b.den ρ, some (q.den P ρ)) :: upsDen P ρ r := rfl
      have e2 : upsDen P ρ ((b, o) :: r) = (b.den ρ, some (o.den P ρ)) :: upsDen P ρ r := rfl
      rw [e1, e2, ← hup_put, ← hup_put, Heap.put_put]
  · rfl

theorem SH.alloc_den (s : SH) (o : SObj) : (s.alloc o).den P ρ = (s.den P ρ).alloc (o.den P ρ) := rfl
theorem SH.name_den (s : SH) : s.name.den ρ = (s.den P ρ).next := rfl

end

/-! ### Loads and stores -/

theorem cell?_congr {h h' : Heap} {x : Addr} (hg : h.get x.block = h'.get x.block) : h.cell? x = h'.cell? x := by unfold Heap.cell?; rw [hg]

theorem Addr.add_block (x : Addr) (i : Nat) : (x.add i).block = x.block := by unfold Addr.add; split <;> rfl
theorem Addr.add_off (x : Addr) (i : Nat) : (x.add i).off = x.off + i := by unfold Addr.add; split <;> simp_all
theorem Addr.add_spot {x : Addr} (h : x.spot = none) (i : Nat) : (x.add i).spot = none := by unfold Addr.add; split <;> simp_all

theorem cellsV_congr {h h' : Heap} {x : Addr} (hg : h.get x.block = h'.get x.block) : ∀ n i, cellsV h x n i = cellsV h' x n i
  | 0, _ => rfl
  | n + 1, i => by
    simp only [cellsV]
    have e : h.cell? (x.add i) = h'.cell? (x.add i) := cell?_congr (by rw [Addr.add_block]; exact hg)
    rw [e, cellsV_congr hg n (i + 1)]

theorem cellsV_known {h : Heap} {x : Addr} {c : Array Value} {t : TypeId} {fr : Nat × Nat} (hg : h.get x.block = some (.cells c t fr)) (hs : x.spot = none) : ∀ n i, x.off + i + n ≤ c.size → cellsV h x n i = some ((c.toList.drop (x.off + i)).take n)
  | 0, _, _ => by simp [cellsV]
  | n + 1, i, hle => by
    have hlt : x.off + i < c.size := by omega
    have e : h.cell? (x.add i) = some c[x.off + i] := by
      unfold Heap.cell?
      rw [Addr.add_block, hg]
      simp only [Addr.add_spot hs, Addr.add_off]
      exact Array.getElem?_eq_getElem hlt
    simp only [cellsV, e, Option.bind_some, cellsV_known hg hs n (i + 1) (by omega), Option.map_some]
    congr 1
    have hl : x.off + i < c.toList.length := by simpa using hlt
    rw [List.drop_eq_getElem_cons hl]
    simp [Nat.add_assoc]

theorem loadList_of {P : Program} {h : Heap} {x : Addr} {Q : List Value → Heap → Prop} : ∀ {n i : Nat} {l : List Value}, cellsV h x n i = some l → Q l h → aSem P (loadList x n i) h Q
  | 0, i, l, e, hq => by simp [cellsV] at e; subst e; exact hq
  | n + 1, i, l, e, hq => by
    simp only [cellsV] at e
    cases hc : h.cell? (x.add i) with
    | none => rw [hc] at e; cases e
    | some v =>
      rw [hc] at e
      simp only [Option.bind_some] at e
      cases hr : cellsV h x n (i + 1) with
      | none => rw [hr] at e; cases e
      | some r =>
        rw [hr] at e
        cases e
        show aSem P (load (x.add i) >>= _) h Q
        rw [aSem_bind]
        show aSem P (Sem.load .plain (x.add i) .pure) h _
        simp only [aSem, hc]
        rw [aSem_bind]
        exact loadList_of hr hq

theorem load_of {P : Program} {h : Heap} {x : Addr} {v : Value} {Q : Value → Heap → Prop} (hc : h.cell? x = some v) (hq : Q v h) : aSem P (load x) h Q := by
  show aSem P (Sem.load .plain x .pure) h _
  simp only [aSem, hc]; exact hq

section
variable {P : Program} {X : Exts} {T : Lvl} {R : Value → Heap → Prop} {tc : TC} {ρ : Env}

theorem neaAll_inv {a : Option Addr} {Q : Prop} : ∀ {l : List Nat}, neaAll a l Q → (∀ c ∈ l, ∀ x, a = some x → x.block ≠ c) ∧ Q
  | [], h => ⟨fun c hc => (by cases hc), h⟩
  | c :: l, h => by
    obtain ⟨h1, h2⟩ := neaAll_inv h.2
    exact ⟨fun d hd => (List.mem_cons.1 hd).elim (fun e => e ▸ h.1) (h1 d), h2⟩

theorem neaL_inv {a : AE} {l : List BN} {t : Tree} (h : (neaL a l t).den P T R tc ρ) : (∀ c ∈ l, ∀ x, a.den ρ = some x → x.block ≠ c.den ρ) ∧ t.den P T R tc ρ := by
  unfold neaL at h
  split at h
  · exact ⟨fun c hc => (by cases hc), h⟩
  · obtain ⟨h1, h2⟩ := neaAll_inv h
    exact ⟨fun c hc => h1 _ (List.mem_map_of_mem hc), h2⟩

theorem sLoad_inv {t : TypeId} {a : AE} {s : SH} {nv : Nat} {go : SV → Nat → Tree} {x : Addr} (hx : a.den ρ = some x) (h : (sLoad P t a s nv go).den P T R tc ρ) :
    ∃ (v : SV) (xs : Env), (go v (nv + xs.length)).den P T R tc (ρ ++ xs) ∧ ∀ Q : Value → Heap → Prop, Q (v.den (ρ ++ xs)) (s.den P ρ) → aSem P (loadS P t x) (s.den P ρ) Q := by
  have agg : ∀ d, P.underlying t = some d → (match d with | .struct _ | .array _ _ => true | _ => false) = true →
      (match sizeV P t with
        | some n => (match findA a s.ups with
          | (acc, some (k, .cells _ l _ _ _)) => bif Nat.ble (k + n) l.toL.length then neaL a acc (go (.agg (SV.ofL ((l.toL.drop k).take n))) nv) else .fail "load"
          | (acc, none) => neaL a acc (exQ (.cells s.base a n) (patT P t nv) nv go)
          | _ => .fail "load of what?")
        | none => .fail "load" : Tree).den P T R tc ρ →
      ∃ (v : SV) (xs : Env), (go v (nv + xs.length)).den P T R tc (ρ ++ xs) ∧ ∀ Q : Value → Heap → Prop, Q (v.den (ρ ++ xs)) (s.den P ρ) → aSem P (loadS P t x) (s.den P ρ) Q := by
    intro d hd hd' h
    split at h <;> try exact h.elim
    rename_i n hn
    have fin : ∀ {l : List Value} {Q : Value → Heap → Prop}, cellsV (s.den P ρ) x n 0 = some l → Q (.agg l.toArray) (s.den P ρ) → aSem P (loadS P t x) (s.den P ρ) Q := by
      intro l Q e hq
      have : loadS P t x = (do let n ← sizeS P t; pure (.agg (← loadList x n 0).toArray)) := by
        unfold loadS
        rw [hd]
        cases d <;> first | rfl | simp at hd'
      rw [this, aSem_bind]
      unfold sizeS
      rw [hn]
      show aSem P (loadList x n 0 >>= _) _ _
      rw [aSem_bind]
      exact loadList_of e hq
    split at h
    · rename_i acc k kp l ty lo hi hf
      cases hb : Nat.ble (k + n) l.toL.length with
      | false => rw [hb] at h; exact h.elim
      | true =>
        rw [hb] at h
        obtain ⟨hne, h⟩ := neaL_inv h
        obtain ⟨h1, _⟩ := findA_get (P := P) hf hx hne
        obtain ⟨h2, h3, h4, _⟩ := h1 _ _ _ _ _ _ rfl
        refine ⟨_, [], by simpa using h, fun Q hq => fin (cellsV_known h2 h4 n 0 ?_) ?_⟩
        · have := Nat.le_of_ble_eq_true hb
          rw [SV.toL_den]
          simp; omega
        · simp only [List.append_nil] at hq
          rw [ofL_agg] at hq
          rw [SV.toL_den]
          simpa [h3, List.map_take, List.map_drop] using hq
    · rename_i acc hf
      obtain ⟨hne, h⟩ := neaL_inv h
      obtain ⟨_, h1⟩ := findA_get (P := P) hf hx hne
      obtain ⟨xs, h2, h3⟩ := exQ_inv h
      refine ⟨_, xs, h2, fun Q hq => ?_⟩
      simp only [Qy.den, ldCells, hx, Option.bind_some] at h3
      cases hc : cellsV (Env.h ρ s.base) x n 0 with
      | none => rw [hc] at h3; cases h3
      | some l =>
        rw [hc] at h3
        simp only [Option.map_some, Option.some.injEq] at h3
        rw [← h3] at hq
        exact fin (by rw [cellsV_congr (h1 rfl)]; exact hc) hq
    · exact h.elim
  unfold sLoad at h
  split at h
  · rename_i d hd; exact agg _ hd rfl h
  · rename_i n e hd; exact agg _ hd rfl h
  · rename_i d hd1 hd2 hd
    have fin : ∀ {v : Value} {Q : Value → Heap → Prop}, (s.den P ρ).cell? x = some v → Q v (s.den P ρ) → aSem P (loadS P t x) (s.den P ρ) Q := by
      intro v Q e hq
      have : loadS P t x = load x := by
        unfold loadS
        rw [hd]
        cases d <;> first | rfl | exact (hd1 _ rfl).elim | exact (hd2 _ _ rfl).elim
      rw [this]
      exact load_of e hq
    split at h
    · rename_i acc k kp l ty lo hi hf
      cases hb : Nat.blt k l.toL.length with
      | false => rw [hb] at h; exact h.elim
      | true =>
        rw [hb] at h
        obtain ⟨hne, h⟩ := neaL_inv h
        obtain ⟨h1, _⟩ := findA_get (P := P) hf hx hne
        obtain ⟨h2, h3, h4, _⟩ := h1 _ _ _ _ _ _ rfl
        refine ⟨_, [], by simpa using h, fun Q hq => fin (v := (l.toL.getD k .undef).den ρ) ?_ (by simpa using hq)⟩
        unfold Heap.cell?
        rw [h2]
        simp only [h4, h3]
        rw [SV.toL_den]
        exact getD_toL hb
    · rename_i acc hf
      obtain ⟨hne, h⟩ := neaL_inv h
      obtain ⟨_, h1⟩ := findA_get (P := P) hf hx hne
      obtain ⟨xs, h2, h3⟩ := exQ_inv h
      refine ⟨_, xs, h2, fun Q hq => ?_⟩
      simp only [Qy.den, hx, Option.bind_some] at h3
      exact fin (by rw [cell?_congr (h1 rfl)]; exact h3) hq
    · exact h.elim
  · exact h.elim

/-- Stores into a row that is there. -/
theorem storeCells_of {P : Program} {x : Addr} (hs : x.spot = none) {t : TypeId} {fr : Nat × Nat} (hf : free fr = true) : ∀ {vs : List Value} {i : Nat} {h : Heap} {c : Array Value} {Q : Unit → Heap → Prop},
    h.get x.block = some (.cells c t fr) → x.off + i + vs.length ≤ c.size → (∀ v ∈ vs, oneCell v = true) → (∀ j, j < i + vs.length → pinned (x.add j) h.pins = false) →
    Q () (h.put x.block (some (.cells (spliceL (x.off + i) vs c.toList).toArray t fr))) → aSem P (storeCells x vs i) h Q
  | [], i, h, c, Q, hg, _, _, _, hq => by
    have : spliceL (x.off + i) [] c.toList = c.toList := by simp [spliceL]
    rw [this] at hq
    have e : c.toList.toArray = c := by simp
    rw [e, Heap.put_same hg] at hq
    exact hq
  | v :: vs, i, h, c, Q, hg, hl, h1, hp, hq => by
    simp only [List.length_cons] at hl hp
    show aSem P (store (x.add i) v >>= _) h Q
    rw [aSem_bind]
    show aSem P (Sem.store .plain (x.add i) v (.pure ())) h _
    have hset : h.setCell? (x.add i) v = some (h.put x.block (some (.cells (c.setIfInBounds (x.off + i) v) t fr))) := by
      unfold Heap.setCell?
      rw [Addr.add_block, hg]
      simp only [Addr.add_spot hs, Addr.add_off]
      have hb : Nat.blt (x.off + i) c.size = true := by simp [Nat.blt]; omega
      have : (oneCell v && free fr && Nat.blt (x.off + i) c.size && !pinned (x.add i) h.pins) = true := by
        rw [h1 v (by simp), hf, hb, hp i (by omega)]; rfl
      rw [this]; rfl
    simp only [aSem, hset]
    refine storeCells_of hs hf (c := c.setIfInBounds (x.off + i) v) (by rw [Heap.get_put, if_pos rfl]) (by simp; omega) (fun w hw => h1 w (by simp [hw])) (fun j hj => hp j (by omega)) ?_
    rw [Heap.put_put]
    have e : spliceL (x.off + (i + 1)) vs (c.setIfInBounds (x.off + i) v).toList = spliceL (x.off + i) (v :: vs) c.toList := by
      rw [Array.toList_setIfInBounds]
      apply List.ext_getElem?
      intro k
      rw [splice_get (by simp; omega), splice_get (by simp; omega)]
      simp only [List.getElem?_set, List.length_cons, Array.length_toList]
      by_cases h1 : k < x.off + i
      · have : ¬ x.off + i = k := by omega
        simp only [if_pos h1, if_pos (show k < x.off + (i + 1) by omega), if_neg this]
      · by_cases h2 : k = x.off + i
        · have e1 : x.off + i = k := h2.symm
          simp only [if_neg h1, if_pos (show k < x.off + (i + 1) by omega), if_pos (show k < x.off + i + (vs.length + 1) by omega), if_pos e1, if_pos (show x.off + i < c.size by omega), show k - (x.off + i) = 0 by omega, List.getElem?_cons_zero]
        · have hs : k - (x.off + i) = (k - (x.off + (i + 1))) + 1 := by omega
          have hne : ¬ x.off + i = k := by omega
          by_cases h3 : k < x.off + (i + 1) + vs.length
          · simp only [if_neg h1, if_neg (show ¬ k < x.off + (i + 1) by omega), if_pos h3, if_pos (show k < x.off + i + (vs.length + 1) by omega), hs, List.getElem?_cons_succ]
          · simp only [if_neg h1, if_neg (show ¬ k < x.off + (i + 1) by omega), if_neg h3, if_neg (show ¬ k < x.off + i + (vs.length + 1) by omega), if_neg hne]
    rw [e]
    exact hq

end
end Go.Abs
