/- Symbolic execution, part 8: the executor is sound: every operation that reads or writes memory. -/
import Derived.Test.YtkfoibidnkfndaaGreatDoorAbS7
set_option linter.unusedVariables false
set_option linter.unusedSimpArgs false
namespace Go.Abs

section
variable {P : Program} {X : Exts} {T : Lvl} {R : Value → Heap → Prop} {tc : TC} {ρ : Env}

/-- What the continuation of an operation yields. -/
def VQ (Q : Value → Heap → Prop) : Next → Heap → Prop := fun nx h' => match nx with
  | .value v => Q v h'
  | .skip => Q undef h'
  | _ => False

/-- What goes on from a symbolic result. -/
def Goes (P : Program) (T : Lvl) (R : Value → Heap → Prop) (tc : TC) (ρ : Env) (nv : Nat) (go : SV → SH → Nat → Tree) (Q : Value → Heap → Prop) : Prop :=
  ∀ (v : SV) (h' : SH) (xs : Env), (go v h' (nv + xs.length)).den P T R tc (ρ ++ xs) → Q (v.den (ρ ++ xs)) (h'.den P (ρ ++ xs))

theorem Goes.now {nv : Nat} {go : SV → SH → Nat → Tree} {Q : Value → Heap → Prop} (hg : Goes P T R tc ρ nv go Q) {v : SV} {s : SH} (h : (go v s nv).den P T R tc ρ) : Q (v.den ρ) (s.den P ρ) := by
  have := hg v s [] (by simpa using h)
  simpa using this

theorem keepAll_inv {hb : Nat} {Q : Prop} : ∀ {l : List (BN × SObj)}, keepAll P ρ hb l Q → (∀ x ∈ l, (Env.h ρ hb).get (x.1.den ρ) = some (x.2.den P ρ)) ∧ Q
  | [], h => ⟨fun x hx => (by cases hx), h⟩
  | x :: l, h => by
    obtain ⟨h1, h2⟩ := keepAll_inv h.2
    exact ⟨fun y hy => (List.mem_cons.1 hy).elim (fun e => e ▸ h.1) (h1 y), h2⟩

theorem hup_same {H : Heap} : ∀ {l : List (BN × SObj)}, (∀ x ∈ l, H.get (x.1.den ρ) = some (x.2.den P ρ)) → hup H 0 (upsDen P ρ l) H.pins = H
  | [], _ => rfl
  | x :: l, h => by
    have ih := hup_same (l := l) fun y hy => h y (List.mem_cons_of_mem _ hy)
    have hc : upsDen P ρ (x :: l) = (x.1.den ρ, some (x.2.den P ρ)) :: upsDen P ρ l := rfl
    rw [hc, ← hup_put, ih]
    exact Heap.put_same (h x (List.mem_cons_self ..))

theorem envh_last (xs : Env) (h : Heap) : Env.h (ρ ++ xs ++ [.h h]) (ρ.length + xs.length) = h := by
  have : getU (ρ ++ xs ++ [U.h h]) (ρ.length + xs.length) = some (.h h) := by
    have key : ∀ (l : Env) (u : U), getU (l ++ [u]) l.length = some u := by
      intro l u
      induction l with
      | nil => rfl
      | cons a l ih => exact ih
    have := key (ρ ++ xs) (.h h)
    simpa using this
  simp only [Env.h, this]

theorem sPrim_sound {p : Prim} {args : List SV} {s : SH} {pat : SV × List Srt} {nv : Nat} (hnv : ρ.length = nv) {go : SV → SH → Nat → Tree} {Q : Value → Heap → Prop} (hg : Goes P T R tc ρ nv go Q)
    (h : (sPrim p args s pat nv go).den P T R tc ρ) : p.den P (args.map (SV.den ρ)) (s.den P ρ) Q := by
  have h' : p.den P ((SV.ofL args).denL ρ) (s.den P ρ) _ := h
  rw [SV.ofL_den] at h'
  refine Prim.den_mono (fun v h2 hq => ?_) h'
  obtain ⟨xs, ht, h3, h4⟩ := exT_typed hq
  obtain ⟨h5, h6⟩ := keepAll_inv h4
  rw [envh_last] at h5
  have hl : pat.2.length = xs.length := ht.length.symm
  have := hg pat.1 { base := nv + pat.2.length, nxt := 0, ups := keepsOf s.ups [], pins := .of (nv + pat.2.length) } (xs ++ [.h h2]) (by
    have e : nv + (xs ++ [U.h h2]).length = nv + pat.2.length + 1 := by simp [hl]; omega
    rw [e, ← List.append_assoc]
    exact h6)
  rw [← List.append_assoc] at this
  rw [← h3] at this
  have e : SH.den P (ρ ++ xs ++ [.h h2]) { base := nv + pat.2.length, nxt := 0, ups := keepsOf s.ups [], pins := .of (nv + pat.2.length) } = h2 := by
    rw [SH.den_eq]
    simp only [PE.den]
    rw [hl, ← hnv, envh_last]
    exact hup_same h5
  rw [e] at this
  exact this

theorem sStore_sound {t : TypeId} {a : AE} {v : SV} {s : SH} {nv : Nat} (hnv : ρ.length = nv) {go : SV → SH → Nat → Tree} {Q : Value → Heap → Prop} (hg : Goes P T R tc ρ nv go Q) {x : Addr} (hx : a.den ρ = some x)
    (h : (sStore P t a v s nv go).den P T R tc ρ) : aSem P (storeS P t x (v.den ρ)) (s.den P ρ) fun _ h' => Q undef h' := by
  unfold sStore at h
  split at h
  · rename_i acc k kp l ty lo hi b off hf
    cases hfr : Nat.beq lo hi with
    | false => rw [hfr] at h; exact h.elim
    | true =>
      rw [hfr] at h
      simp only [cond_true] at h
      obtain ⟨cs, h, hcs⟩ := sCells_inv h
      split at h <;> try exact h.elim
      rename_i n hn
      cases hb : (Nat.beq cs.length n && Nat.ble (k + n) l.toL.length) with
      | false => rw [hb] at h; exact h.elim
      | true =>
        rw [hb] at h
        simp only [Bool.and_eq_true] at hb
        have e1 := Nat.eq_of_beq_eq_true hb.1
        have e2 := Nat.le_of_ble_eq_true hb.2
        obtain ⟨hne, h⟩ := neaL_inv h
        obtain ⟨hup, h⟩ := h
        obtain ⟨h1, h⟩ := sOnes_inv h
        obtain ⟨hga, _⟩ := findA_get (P := P) hf hx hne
        obtain ⟨g1, g2, g3, b', off', g4, g5⟩ := hga _ _ _ _ _ _ rfl
        cases g4
        have hsz : (v.den ρ).cells.size = n := by rw [← Array.length_toList, hcs]; simp [e1]
        unfold storeS
        rw [hn]
        simp only
        have : Nat.beq (v.den ρ).cells.size n = true := by rw [hsz]; simp
        rw [this]
        simp only [cond_true]
        refine storeCells_of g3 (fr := (lo, hi)) hfr g1 ?_ ?_ (fun j hj => ?_) ?_
        · rw [hcs, SV.toL_den]; simp; omega
        · intro w hw
          rw [hcs, List.mem_map] at hw
          obtain ⟨u, hu, rfl⟩ := hw
          exact h1 u hu
        · refine hup x hx j ?_
          rw [hcs] at hj; simp at hj; omega
        · have := hg.now h
          rw [SV.undef_den] at this
          have e : SH.den P ρ { s with ups := consUp b (.cells kp (SV.ofL (spliceL k cs l.toL)) ty lo hi) s.ups } = (s.den P ρ).put x.block (some (.cells (spliceL (x.off + 0) (v.den ρ).cells.toList (l.denL ρ).toArray.toList).toArray ty (lo, hi))) := by
            rw [SH.den_eq, SH.den_eq, g5]
            show Go.Abs.hup _ _ (upsDen P ρ (consUp b _ s.ups)) _ = _
            rw [consUp_den]
            congr 2
            simp only [SObj.den, SV.ofL_den, splice_map, hcs, g2, Nat.add_zero]
            rw [SV.toL_den]
          rw [e] at this
          exact this
  · exact h.elim
  · have := sPrim_sound hnv hg h
    simp only [Prim.den, List.map_cons, List.map_nil] at this
    simp only [SV.den, SV.dn, hx, addrOf] at this
    exact this

theorem sCellsAll_inv : ∀ {l : List SV} {go : List SV → Tree}, (sCellsAll l go).den P T R tc ρ → True := fun _ => trivial

theorem knownCells_get {s : SV} {size : Nat} {u : SH} {m : Nat} {cs : List SV} (h : knownCells s size u.ups = some (m, cs)) :
    ∀ Q : Nat × List Value → Heap → Prop, Q (m, cs.map (SV.den ρ)) (u.den P ρ) → ∀ e, aSem P (newCells P e size false (s.den ρ)) (u.den P ρ) Q := by
  intro Q hq e
  unfold knownCells at h
  split at h
  · cases h
    exact hq
  · rename_i b off n c
    split at h
    · rename_i kp l t lo hi k hf hk
      cases hb : (leI 0 n && Nat.ble (k + n.toNat * size) l.toL.length) with
      | false => rw [hb] at h; cases h
      | true =>
        rw [hb] at h
        simp only [cond_true, Option.some.injEq, Prod.mk.injEq] at h
        obtain ⟨rfl, rfl⟩ := h
        simp only [Bool.and_eq_true] at hb
        have e2 := Nat.le_of_ble_eq_true hb.2
        have hg := findUp_get (P := P) (ρ := ρ) (Env.h ρ u.base) u.nxt (u.pins.den ρ) hf (fun c hc => by cases hc)
        rw [← SH.den_eq] at hg
        simp only at hg
        have hs : SV.den ρ (.slice (.blk b off) (.lit n) c) = .slice (some ⟨b.den ρ, off.t ρ, none⟩) n.toNat (c.t ρ) := rfl
        rw [hs]
        show aSem P (loadList ⟨b.den ρ, off.t ρ, none⟩ (n.toNat * size) 0 >>= _) _ _
        rw [aSem_bind]
        refine loadList_of (cellsV_known hg rfl _ 0 ?_) ?_
        · simp only [litNat_some hk, SV.toL_den]; simp; omega
        · have e3 : (((l.denL ρ).toArray.toList.drop (off.t ρ + 0)).take (n.toNat * size)) = ((l.toL.drop k).take (n.toNat * size)).map (SV.den ρ) := by
            rw [SV.toL_den, litNat_some hk]; simp [List.map_take, List.map_drop]
          simp only [Addr.off] at e3 ⊢
          rw [e3]
          exact hq
    · cases h
  · cases h

theorem aAppend_congr {ts ts' : Array TypeId} {args : List Value} {h : Heap} {Q : Value → Heap → Prop} (h0 : ts[0]? = ts'[0]?) (h1 : ts[1]? = ts'[1]?) (hq : aAppend P ts args h Q) : aAppend P ts' args h Q := by
  unfold aAppend at *
  rw [← h0, ← h1]; exact hq

/-- EVERY SYMBOLIC OPERATION OF CLASS 2 THAT YIELDS A VALUE IS SOUND. -/
theorem sEff_sound {a : SAct} {o : Oper} {s : SH} {nv : Nat} (hnv : ρ.length = nv) {go : SV → SH → Nat → Tree} {Q : Value → Heap → Prop} (hg : Goes P T R tc ρ nv go Q)
    {kp : Bool} (h : (sEff P kp a o s nv go).den P T R tc ρ) : aOp2 P X (a.den ρ).eval o (s.den P ρ) (VQ Q) := by
  have ev : ∀ x, (a.den ρ).eval x = (a.ev x).den ρ := fun x => (a.ev_den ρ x).symm
  have prim : ∀ {p : Prim} {args : List SV} {pat : SV × List Srt}, (sPrim p args s pat nv go).den P T R tc ρ → p.den P (args.map (SV.den ρ)) (s.den P ρ) Q := fun h => sPrim_sound hnv hg h
  unfold sEff at h
  unfold aOp2
  split at h
  · -- load
    rename_i t x ho
    simp only [ho]
    split at h
    · rename_i b hx
      obtain ⟨⟨y, hy⟩, h⟩ := isSL_inv h
      rw [ev, hx]
      simp only [SV.den, SV.dn, hy, addrOf]
      obtain ⟨v, xs, h1, h2⟩ := sLoad_inv hy h
      refine h2 _ ?_
      show Q _ _
      cases hb : (Nat.beq (nv + xs.length) nv || s.ok nv) with
      | false => rw [hb] at h1; exact h1.elim
      | true =>
        rw [hb] at h1
        have := hg v s xs h1
        have e : s.den P (ρ ++ xs) = s.den P ρ := by
          simp only [Bool.or_eq_true] at hb
          rcases hb with hb | hb
          · have hb := Nat.eq_of_beq_eq_true hb
            have : xs = [] := List.eq_nil_of_length_eq_zero (by omega)
            rw [this]; simp
          · exact SH.den_app (by rw [hnv]; exact hb)
        rw [e] at this
        exact this
    · have := prim h
      rw [ev]
      simp only [Prim.den, List.map_cons, List.map_nil] at this
      split at this
      · rename_i y hy; rw [hy]; exact this
      · exact this.elim
  · -- store
    rename_i t x v ho
    simp only [ho]
    split at h
    · rename_i b hx
      obtain ⟨⟨y, hy⟩, h⟩ := isSL_inv h
      rw [ev, ev, hx]
      have hb : addrOf (SV.den ρ (.ptr b)) = some y := by simp only [SV.den, SV.dn, hy, addrOf]
      rw [hb]
      exact sStore_sound hnv hg hy h
    · have := prim h
      rw [ev, ev]
      simp only [Prim.den, List.map_cons, List.map_nil] at this
      split at this
      · rename_i y hy; rw [hy]; exact this
      · exact this.elim
  · -- alloc
    rename_i t ho
    simp only [ho]
    split at h <;> try exact h.elim
    rename_i z hz
    obtain ⟨h1, h2⟩ := zeroOf_some hz
    have := hg.now h
    rw [SH.alloc_den] at this
    unfold aV zeroC
    rw [h1]
    simp only [h2, cond_true]
    show Q _ _
    have e : (SV.ofL (z.cells.toList.map (ofV 8))).denL ρ = z.cells.toList := by rw [SV.ofL_den, map_ofV]
    simp only [SObj.den, e] at this
    exact this
  · -- box
    rename_i t x ho
    simp only [ho]
    obtain ⟨cs, h, hcs⟩ := sCells_inv h
    have := hg.now h
    rw [SH.alloc_den] at this
    simp only [SObj.den, SV.ofL_den, ← hcs] at this
    show Q _ _
    rw [ev]
    exact this
  · -- buildSlice
    rename_i t n parts ho
    simp only [ho]
    split at h <;> try exact h.elim
    rename_i e hu
    split at h <;> try exact h.elim
    rename_i size z hs hz
    cases hb : (Nat.ble (n * size) 16777216 && Nat.beq z.cells.size size) with
    | false => rw [hb] at h; exact h.elim
    | true =>
      rw [hb] at h
      simp only [Bool.and_eq_true] at hb
      obtain ⟨cs, h1, h2⟩ := sFill_inv h
      rw [map_ofV] at h2
      obtain ⟨z1, z2⟩ := zeroOf_some hz
      have := hg.now h1
      rw [SH.alloc_den] at this
      simp only [SObj.den, SV.ofL_den] at this
      unfold aV buildSliceS
      rw [hu]
      simp only [hs, hb.1, cond_true]
      unfold zeroC
      rw [z1]
      simp only [z2, cond_true]
      have e1 : (parts.toList.map fun p => (p.1, (a.den ρ).eval p.2)) = (parts.toList.map fun p => (p.1, a.ev p.2)).map fun p => (p.1, p.2.den ρ) := by
        rw [List.map_map]
        apply List.map_congr_left
        intro x _
        simp only [Function.comp, ev]
      rw [e1]
      show aSem P (bif !Nat.beq z.cells.size size then _ else _) _ _
      rw [hb.2]
      simp only [Bool.not_true, cond_false]
      rw [h2]
      show Q _ _
      exact this
  · -- makeMap
    rename_i t r ho
    simp only [ho]
    split at h
    · have := prim h
      simp only [Prim.den, List.map_nil] at this
      exact this
    · exact h.elim
  · rename_i t l c ho; simp only [ho]; have := prim h; simp only [Prim.den, List.map_cons, List.map_nil] at this; rw [ev, ev]; exact this
  · -- lookup
    rename_i t m k ok ho
    simp only [ho]
    split at h <;> try exact h.elim
    rename_i kt et hu
    rw [hu]
    have := prim h
    simp only [Prim.den, List.map_cons, List.map_nil] at this
    rw [ev, ev]; exact this
  · rename_i t m k v ho; simp only [ho]; have := prim h; simp only [Prim.den, List.map_cons, List.map_nil] at this; rw [ev, ev, ev]; exact this
  · rename_i t m k v ho; simp only [ho]; have := prim h; simp only [Prim.den, List.map_cons, List.map_nil] at this; rw [ev, ev, ev]; exact this
  · rename_i t m k ho
    simp only [ho]
    split at h <;> try exact h.elim
    have := prim h; simp only [Prim.den, List.map_cons, List.map_nil] at this; rw [ev, ev]; exact this
  · rename_i t m st v ho; simp only [ho]; have := prim h; simp only [Prim.den, List.map_cons, List.map_nil] at this; rw [ev, ev, ev]; exact this
  · rename_i t x ho; simp only [ho]; have := prim h; simp only [Prim.den, List.map_cons, List.map_nil] at this; rw [ev]; exact this
  · rename_i it b ho; simp only [ho]; have := prim h; simp only [Prim.den, List.map_cons, List.map_nil] at this; rw [ev]; exact this
  · rename_i it ho; simp only [ho]; have := prim h; simp only [Prim.den, List.map_cons, List.map_nil] at this; rw [ev]; exact this
  · rename_i x _ t ok ho; simp only [ho]; have := prim h; simp only [Prim.den, List.map_cons, List.map_nil] at this; rw [ev]; exact this
  · -- convert
    rename_i src dst x ho
    simp only [ho]
    rw [ev]
    split at h
    · rename_i e hx hd
      cases hs : undIs P src (fun _ => true) with
      | false => rw [hs] at h; exact h.elim
      | true =>
        rw [hs] at h
        simp only [Bool.not_true, cond_false] at h
        obtain ⟨d, hd', _⟩ := undIs_some hs
        rw [hx]
        have hc : pureRun P (convert src dst (.string (e.s ρ))) = some (.string (e.s ρ)) := by
          unfold convert
          rw [pureRun_bind, pure_und hd']
          simp only [Option.bind_some]
          rw [pureRun_bind, pure_und hd]
          simp only [Option.bind_some]
          rfl
        unfold aConvert
        have h1 : isStringToBytes P src dst (SV.den ρ (.str e)) = none := by
          unfold isStringToBytes
          rw [hd', hd]
          cases d <;> rfl
        simp only [SV.den, SV.dn, scalar, cond_true] at h1 ⊢
        rw [h1]
        simp only
        rw [hc]
        exact hg.now h
    · have := prim h
      simp only [Prim.den, List.map_cons, List.map_nil] at this
      exact this
  · -- calls of builtins
    rename_i c ho
    simp only [ho]
    have eargs : c.args.toList.map (a.den ρ).eval = (c.args.toList.map a.ev).map (SV.den ρ) := by
      rw [List.map_map]
      apply List.map_congr_left
      intro x _
      simp only [Function.comp, ev]
    split at h
    · -- append
      rename_i x1 x2 hcal hargs
      simp only [hcal, aBuiltin]
      rw [eargs, hargs]
      split at h <;> try exact h.elim
      rename_i t ht
      split at h <;> try exact h.elim
      rename_i e hu
      split at h <;> try exact h.elim
      rename_i ei he hz
      have gen : ∀ {pat : SV × List Srt}, (sPrim (.append t c.argTypes[1]?) [x1, x2] s pat nv go).den P T R tc ρ → aAppend P c.argTypes ([x1, x2].map (SV.den ρ)) (s.den P ρ) fun v h' => VQ Q (.value v) h' := by
        intro pat h
        have := prim h
        unfold Prim.den at this
        simp only at this
        cases hu1 : c.argTypes[1]? with
        | none => rw [hu1] at this; exact aAppend_congr (by rw [ht]; rfl) (by rw [hu1]; rfl) this
        | some u => rw [hu1] at this; exact aAppend_congr (by rw [ht]; rfl) (by rw [hu1]; rfl) this
      split at h
      · rename_i bs n cp m cs hk
        have := prim h
        simp only [Prim.den, List.map_cons] at this
        unfold aAppend
        rw [ht]
        simp only [List.map_cons, List.map_nil, SV.den, SV.dn, hu, he, hz]
        refine knownCells_get hk _ ?_ e
        exact this
      · exact gen h
    · rename_i x hcal hargs
      simp only [hcal, aBuiltin]
      rw [eargs, hargs]
      split at h <;> try exact h.elim
      rename_i t ht
      have := prim h
      simp only [Prim.den, List.map_cons, List.map_nil] at this
      rw [ht]; exact this
    · rename_i x hcal hargs
      simp only [hcal, aBuiltin]
      rw [eargs, hargs]
      split at h <;> try exact h.elim
      rename_i t ht
      have := prim h
      simp only [Prim.den, List.map_cons, List.map_nil] at this
      rw [ht]; exact this
    · rename_i d x hcal hargs
      simp only [hcal, aBuiltin]
      rw [eargs, hargs]
      split at h <;> try exact h.elim
      rename_i t ht
      have := prim h
      simp only [Prim.den, List.map_cons, List.map_nil] at this
      rw [ht]; exact this
    · rename_i x hcal hargs
      simp only [hcal, aBuiltin]
      rw [eargs, hargs]
      split at h <;> try exact h.elim
      rename_i t ht
      have := prim h
      simp only [Prim.den, List.map_cons, List.map_nil] at this
      rw [ht]; exact this
    · rename_i m k hcal hargs
      simp only [hcal, aBuiltin]
      rw [eargs, hargs]
      split at h <;> try exact h.elim
      rename_i t ht
      have := prim h
      simp only [Prim.den, List.map_cons, List.map_nil] at this
      rw [ht]; exact this
    · exact h.elim
  · exact h.elim

end
end Go.Abs
