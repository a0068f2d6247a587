/- Symbolic execution, part 6: the executor is sound: every operation that reads no memory. -/
import Derived.Test.YtkfoibidnkfndaaGreatDoorAbS5
set_option linter.unusedVariables false
set_option linter.unusedSimpArgs false
namespace Go.Abs

theorem splice_get {α : Type} {o : Nat} {vs l : List α} (h : o + vs.length ≤ l.length) (i : Nat) :
    (spliceL o vs l)[i]? = if i < o then l[i]? else if i < o + vs.length then vs[i - o]? else l[i]? := by
  unfold spliceL
  have h1 : (l.take o).length = o := by simp; omega
  rw [List.getElem?_append, h1]
  by_cases hi : i < o
  · rw [if_pos hi, if_pos hi, List.getElem?_take_of_lt hi]
  · rw [if_neg hi, if_neg hi, List.getElem?_append]
    by_cases hj : i < o + vs.length
    · rw [if_pos (by omega), if_pos hj]
    · rw [if_neg (by omega), if_neg hj, List.getElem?_drop]
      congr 1; omega

theorem splice_length {α : Type} {o : Nat} {vs l : List α} (h : o + vs.length ≤ l.length) : (spliceL o vs l).length = l.length := by
  unfold spliceL; simp; omega

theorem splice_map {α β : Type} (f : α → β) (o : Nat) (vs l : List α) : (spliceL o vs l).map f = spliceL o (vs.map f) (l.map f) := by
  unfold spliceL; simp [List.map_take, List.map_drop]

theorem fold_splice (off : Nat) : ∀ (vs : List Value) (k : Nat) (l : List Value), off + k + vs.length ≤ l.length →
    (vs.zipIdx k).foldl (fun cs (x : Value × Nat) => cs.set (off + x.2) x.1) l = spliceL (off + k) vs l
  | [], k, l, _ => by simp [spliceL]
  | v :: vs, k, l, h => by
    simp only [List.zipIdx_cons, List.foldl_cons]
    simp only [List.length_cons] at h
    rw [fold_splice off vs (k + 1) _ (by simp; omega)]
    apply List.ext_getElem?
    intro i
    rw [splice_get (by simp; omega), splice_get (by simp only [List.length_cons]; omega)]
    simp only [List.getElem?_set, List.length_cons]
    by_cases h1 : i < off + k
    · have : ¬ off + k = i := by omega
      rw [if_pos (by omega), if_pos h1, if_neg this]
    · by_cases h2 : i = off + k
      · have e1 : off + k = i := h2.symm
        have hl : i < l.length := by omega
        simp only [if_neg h1, if_pos (show i < off + (k + 1) by omega), if_pos (show i < off + k + (vs.length + 1) by omega), if_pos e1, if_pos (show off + k < l.length by omega), show i - (off + k) = 0 by omega, List.getElem?_cons_zero]
      · have hs : i - (off + k) = (i - (off + (k + 1))) + 1 := by omega
        have hne : ¬ off + k = i := by omega
        by_cases h3 : i < off + (k + 1) + vs.length
        · simp only [if_neg h1, if_neg (show ¬ i < off + (k + 1) by omega), if_pos h3, if_pos (show i < off + k + (vs.length + 1) by omega), hs, List.getElem?_cons_succ]
        · simp only [if_neg h1, if_neg (show ¬ i < off + (k + 1) by omega), if_neg h3, if_neg (show ¬ i < off + k + (vs.length + 1) by omega), if_neg hne]

theorem array_fold (off : Nat) (vs cells : Array Value) :
    (vs.zipIdx.foldl (fun cs (x : Value × Nat) => cs.setIfInBounds (off + x.2) x.1) cells).toList = (vs.toList.zipIdx 0).foldl (fun cs (x : Value × Nat) => cs.set (off + x.2) x.1) cells.toList := by
  rw [← Array.foldl_toList]
  have key : ∀ (l : List (Value × Nat)) (c : Array Value), (l.foldl (fun cs (x : Value × Nat) => cs.setIfInBounds (off + x.2) x.1) c).toList = l.foldl (fun cs (x : Value × Nat) => cs.set (off + x.2) x.1) c.toList := by
    intro l
    induction l with
    | nil => intro c; rfl
    | cons x l ih => intro c; simp only [List.foldl_cons, ih]; simp
  rw [key]; simp

theorem fill_cons {place : Nat → Option (Nat × Nat)} {cells : Array Value} {i : Nat} {v : Value} {rest : List (Nat × Value)} {off size : Nat} (hp : place i = some (off, size)) (h1 : v.cells.size = size) (h2 : off + v.cells.size ≤ cells.size) :
    Instr.fill place cells ((i, v) :: rest) = Instr.fill place (spliceL off v.cells.toList cells.toList).toArray rest := by
  rw [Instr.fill]
  rw [hp]
  have : ¬ (decide (v.cells.size ≠ size) || decide (off + v.cells.size > cells.size)) = true := by simp [h1]; omega
  simp only
  rw [if_neg this]
  congr 1
  apply Array.toList_inj.1
  rw [array_fold, fold_splice off _ 0 _ (by simp; omega)]
  simp

section
variable {P : Program} {X : Exts} {T : Lvl} {R : Value → Heap → Prop} {tc : TC} {ρ : Env}

theorem cells_one {v : Value} (h : oneCell v = true) : v.cells = #[v] := by
  cases v <;> first | rfl | (simp [oneCell] at h)

theorem isOne_one {v : SV} (h : isOne v = true) : oneCell (v.den ρ) = true := by
  cases v <;> first | rfl | (simp [isOne] at h)

theorem sCells_inv {v : SV} {go : List SV → Tree} (h : (sCells v go).den P T R tc ρ) : ∃ cs : List SV, (go cs).den P T R tc ρ ∧ (v.den ρ).cells.toList = cs.map (SV.den ρ) := by
  unfold sCells at h
  split at h
  · rename_i l
    refine ⟨_, h, ?_⟩
    show (Value.agg (l.denL ρ).toArray).cells.toList = _
    rw [← unpackL]; rfl
  · cases ho : isOne v with
    | true =>
      rw [ho] at h
      exact ⟨_, h, by rw [cells_one (isOne_one ho)]; rfl⟩
    | false =>
      rw [ho] at h
      exact ⟨_, h.2, by rw [cells_one h.1]; rfl⟩

theorem sOnes_inv : ∀ {l : List SV} {t : Tree}, (sOnes l t).den P T R tc ρ → (∀ v ∈ l, oneCell (v.den ρ) = true) ∧ t.den P T R tc ρ
  | [], t, h => ⟨fun v hv => (by cases hv), h⟩
  | v :: l, t, h => by
    unfold sOnes at h
    cases ho : isOne v with
    | true =>
      rw [ho] at h
      obtain ⟨h1, h2⟩ := sOnes_inv (l := l) h
      exact ⟨fun w hw => (List.mem_cons.1 hw).elim (fun e => e ▸ isOne_one ho) (h1 w), h2⟩
    | false =>
      rw [ho] at h
      obtain ⟨h1, h2⟩ := sOnes_inv (l := l) h.2
      exact ⟨fun w hw => (List.mem_cons.1 hw).elim (fun e => e ▸ h.1) (h1 w), h2⟩

theorem sFill_inv {place : Nat → Option (Nat × Nat)} : ∀ {parts : List (Nat × SV)} {cells : List SV} {go : List SV → Tree}, (sFill place cells parts go).den P T R tc ρ →
    ∃ cs : List SV, (go cs).den P T R tc ρ ∧ Instr.fill place (cells.map (SV.den ρ)).toArray (parts.map fun p => (p.1, p.2.den ρ)) = some (cs.map (SV.den ρ)).toArray
  | [], cells, go, h => ⟨cells, h, rfl⟩
  | (i, v) :: rest, cells, go, h => by
    unfold sFill at h
    split at h
    · exact h.elim
    · rename_i off size hp
      obtain ⟨vs, h1, h2⟩ := sCells_inv h
      cases hc : (Nat.beq vs.length size && Nat.ble (off + vs.length) cells.length) with
      | false => rw [hc] at h1; exact h1.elim
      | true =>
        rw [hc] at h1
        simp only [Bool.and_eq_true] at hc
        have e1 := Nat.eq_of_beq_eq_true hc.1
        have e2 := Nat.le_of_ble_eq_true hc.2
        obtain ⟨cs, h3, h4⟩ := sFill_inv (parts := rest) h1
        refine ⟨cs, h3, ?_⟩
        have hsz : (v.den ρ).cells.size = vs.length := by rw [← Array.length_toList, h2]; simp
        simp only [List.map_cons]
        rw [fill_cons hp (by rw [hsz, e1]) (by rw [hsz]; simpa using e2)]
        rw [← h4, h2, splice_map]

theorem zeroOf_some {t : TypeId} {z : Value} (h : zeroOf P t = some z) : (P.info? t).bind (·.zero) = some z ∧ closed z = true := by
  unfold zeroOf at h
  split at h
  · rename_i z' hz
    cases hc : closed z' with
    | true => rw [hc] at h; cases h; exact ⟨hz, hc⟩
    | false => rw [hc] at h; cases h
  · cases h

theorem map_ofV (l : List Value) : (l.map (ofV 8)).map (SV.den ρ) = l := by
  rw [List.map_map]
  have : (SV.den ρ ∘ ofV 8) = id := by funext v; exact ofV_den ρ 8 v
  rw [this]; simp

theorem built_of {t : TypeId} {z : Value} {pl : Nat → Option (Nat × Nat)} {parts : List (Nat × Value)} {cs : Array Value} (hz : zeroOf P t = some z) (hp : placesOf P t = some pl) (hf : Instr.fill pl z.cells parts = some cs) : builtV P t parts = some (.agg cs) := by
  obtain ⟨h1, h2⟩ := zeroOf_some hz
  unfold builtV
  rw [h1]
  simp only [h2, cond_true]
  have : P.built t parts = some cs := by
    cases hi : P.info? t with
    | none => rw [hi] at h1; cases h1
    | some it =>
      rw [hi] at h1
      simp only [Option.bind_some] at h1
      unfold placesOf at hp
      unfold Program.built
      cases hu : P.underlying t with
      | none => rw [hu] at hp; cases hp
      | some d =>
        rw [hu] at hp
        cases d <;> simp only [reduceCtorEq] at hp
        · rename_i n e
          cases he : P.info? e with
          | none => rw [he] at hp; cases hp
          | some ie =>
            rw [he] at hp
            cases hp
            simp only [hi, h1, he]
            exact hf
        · rename_i fields
          cases hm : fields.toList.mapM (fun f => (P.info? f.type).map fun i => (f.offset, i.size)) with
          | none => rw [hm] at hp; cases hp
          | some places =>
            rw [hm] at hp
            cases hp
            simp only [hi, h1, hm]
            exact hf
  rw [this]; rfl

theorem ofL_agg (l : List SV) : SV.den ρ (.agg (SV.ofL l)) = .agg (l.map (SV.den ρ)).toArray := by
  show Value.agg ((SV.ofL l).denL ρ).toArray = _
  rw [SV.ofL_den]

theorem toL_agg (l : SV) : SV.den ρ (.agg l) = .agg (l.toL.map (SV.den ρ)).toArray := by
  show Value.agg (l.denL ρ).toArray = _
  rw [SV.toL_den]

theorem getD_toL {l : List SV} {i : Nat} (h : Nat.blt i l.length = true) : (l.map (SV.den ρ)).toArray[i]? = some ((l.getD i .undef).den ρ) := by
  have := blt_lt h
  simp [List.getElem?_eq_getElem this, List.getD_eq_getElem?_getD]

theorem ext_agg {l : List SV} {o n : Nat} : Value.agg ((l.map (SV.den ρ)).toArray.extract o (o + n)) = SV.den ρ (.agg (SV.ofL ((l.drop o).take n))) := by
  rw [ofL_agg]
  congr 1
  apply Array.toList_inj.1
  simp [List.map_take, List.map_drop]

theorem sIndexStr_inv {s i : E} {k : IntKind} {go : SV → Tree} (h : (sIndexStr s i go).den P T R tc ρ) : ∃ v : SV, (go v).den P T R tc ρ ∧ leI 0 (i.i ρ) = true ∧ (((s.s ρ)[(i.i ρ).toNat]?).map fun b => Value.int .u8 b.toNat) = some (v.den ρ) := by
  have key : ∀ (b : ByteArray) (z : Int), 0 ≤ z → z < b.size → ((b[z.toNat]?).map fun b => Value.int .u8 b.toNat) = some (.int .u8 (byteAt b z)) := by
    intro b z h1 h2
    have hl : z.toNat < b.size := by omega
    have hl' : z.toNat < b.data.toList.length := by simpa using hl
    simp only [byteAt]
    rw [getElem?_pos b z.toNat hl]
    simp only [Option.map_some, Option.some.injEq, Value.int.injEq, true_and]
    rw [List.getD_eq_getElem?_getD, List.getElem?_eq_getElem hl']
    simp [ByteArray.getElem_eq_getElem_data]
  unfold sIndexStr at h
  split at h
  · rename_i s z
    cases hc : (leI 0 z && ltI z s.size) with
    | false => rw [hc] at h; exact h.elim
    | true =>
      rw [hc] at h
      simp only [Bool.and_eq_true] at hc
      exact ⟨_, h, hc.1, key s z (leI_le hc.1) (ltI_lt hc.2)⟩
  · obtain ⟨h1, h⟩ := grdL_inv h
    obtain ⟨h2, h⟩ := grdL_inv h
    rw [cmpL_b] at h1 h2
    have h1 := (cmpB_iff _ _ _).1 h1
    have h2 := (cmpB_iff _ _ _).1 h2
    simp only [cmpP, slenL_i] at h1 h2
    have h1' : 0 ≤ E.i ρ i := h1
    exact ⟨_, h, decide_eq_true h1', key _ _ h1' h2⟩

theorem boundV_of {k : IntKind} {z : Int} {n : Nat} (h1 : 0 ≤ z) (h2 : z ≤ n) : boundV (.int k z) n = some z.toNat := by
  have : (leI 0 z && leI z n) = true := by simp [leI, h1, h2]
  show (bif leI 0 z && leI z n then some z.toNat else none) = _
  rw [this]; rfl

theorem eltA {x : Addr} {k : Nat} : (({ x with spot := none } : Addr).add k) = addTo k (plainA x) := rfl

/-- EVERY SYMBOLIC OPERATION OF CLASS 0 IS SOUND. -/
theorem sPure_sound {a : SAct} {o : Oper} {nv : Nat} {go : SV → Nat → Tree} (h : (sPure P a o nv go).den P T R tc ρ) :
    Comes P T R tc ρ nv go (pureOp P (a.den ρ).eval o) := by
  have ev : ∀ x, (a.den ρ).eval x = (a.ev x).den ρ := fun x => (a.ev_den ρ x).symm
  unfold sPure at h
  unfold pureOp
  split at h
  · rename_i x ho; simp only [ho]; exact .now h (by rw [ev])
  · rename_i x ho; simp only [ho]; exact .now h (by rw [ev])
  · rename_i c x y ho
    simp only [ho]
    split at h
    · rename_i b hc
      rw [ev c, hc]
      refine .now h ?_
      show some (bif b then _ else _) = _
      cases b <;> simp [ev]
    · exact h.elim
  · rename_i op t x y yt ho
    simp only [ho]
    have := sBin_sound h
    rw [← ev, ← ev] at this
    exact this
  · rename_i op t x ho
    simp only [ho]
    split at h
    · rename_i e hx
      rw [ev, hx]
      refine .now h ?_
      show some (Value.bool (!(e.b ρ))) = some (Value.bool ((notL e).b ρ))
      rw [notL_b]
    · rename_i k e hx
      rw [ev, hx]
      obtain ⟨e', h1, h2, _⟩ := sArith_inv h
      refine .now h1 ?_
      show some (Value.int k (k.wrap (0 - e.i ρ))) = some (Value.int k (e'.i ρ))
      rw [h2]; rfl
    · rename_i k e hx
      rw [ev, hx]
      refine .now h ?_
      cases hk : k.signed <;> (show ifScalar (some (Value.int k (binI .xor k (if k.signed then -1 else k.max) (e.i ρ)))) = _) <;> rw [hk] <;> rfl
    · exact h.elim
  · rename_i s x f ho
    simp only [ho]
    split at h
    · rename_i fields b hu hx
      rw [ev, hx]
      split at h <;> try exact h.elim
      rename_i fd hf
      split at h <;> try exact h.elim
      rename_i n hn
      cases h0 : Nat.beq n 0 with
      | true => rw [h0] at h; exact h.elim
      | false =>
        rw [h0] at h
        obtain ⟨⟨y, hy⟩, h⟩ := isSL_inv h
        refine .now h ?_
        simp only [fieldAddrV, hu, SV.den, SV.dn, hy, hf, hn, h0, cond_false, addA_den, Option.map_some]
        rfl
    · exact .ex h (by rw [Qy.den, ev])
  · rename_i t x f ho
    simp only [ho]
    split at h
    · rename_i fields l hu hx
      rw [ev, hx, toL_agg]
      split at h <;> try exact h.elim
      rename_i fd hf
      simp only [fieldV, hu, hf, partV]
      split at h
      · rename_i d hd
        split at h <;> try exact h.elim
        rename_i n hn
        simp only [hd, hn, Option.map_some]
        exact .now h (by rw [ext_agg])
      · rename_i d hd
        split at h <;> try exact h.elim
        rename_i n hn
        simp only [hd, hn, Option.map_some]
        exact .now h (by rw [ext_agg])
      · rename_i d hd1 hd2 hd
        cases hb : Nat.blt fd.offset l.toL.length with
        | false => rw [hb] at h; exact h.elim
        | true =>
          rw [hb] at h
          simp only [hd]
          refine .now h ?_
          cases d <;> first | exact getD_toL hb | (exact (hd1 _ hd).elim) | (exact (hd2 _ _ hd).elim)
      · exact h.elim
    · rename_i fields v hu hx _
      split at h <;> try exact h.elim
      exact .ex h (by rw [Qy.den, ev])
    · exact h.elim
  · rename_i t x i ho
    simp only [ho]
    split at h
    · rename_i s k i hu hx hi
      rw [ev, hx, ev, hi]
      obtain ⟨v, h1, h2, h3⟩ := sIndexStr_inv (k := k) h
      refine .now h1 ?_
      simp only [indexV, hu, SV.den, SV.dn] at h2 h3 ⊢
      rw [h2]; exact h3
    · rename_i n e l k0 k hu hx hi
      rw [ev, hx, ev, hi, toL_agg]
      simp only [indexV, hu]
      show Comes P T R tc ρ nv go (bif leI 0 k && ltI k n then _ else _)
      split at h
      · rename_i d hd
        split at h <;> try exact h.elim
        rename_i m hm
        cases hb : (leI 0 k && ltI k n) with
        | false => rw [hb] at h; exact h.elim
        | true =>
          rw [hb] at h
          simp only [cond_true, hm, Option.bind_some, partV, hd, Option.map_some]
          exact .now h (by rw [ext_agg]; rfl)
      · rename_i d hd
        split at h <;> try exact h.elim
        rename_i m hm
        cases hb : (leI 0 k && ltI k n) with
        | false => rw [hb] at h; exact h.elim
        | true =>
          rw [hb] at h
          simp only [cond_true, hm, Option.bind_some, partV, hd, Option.map_some]
          exact .now h (by rw [ext_agg]; rfl)
      · rename_i d hd1 hd2 hd
        split at h <;> try exact h.elim
        rename_i m hm
        cases hb : (leI 0 k && (ltI k n && Nat.blt (k.toNat * m) l.toL.length)) with
        | false => rw [hb] at h; exact h.elim
        | true =>
          rw [hb] at h
          simp only [Bool.and_eq_true] at hb
          have : (leI 0 k && ltI k n) = true := by simp [hb.1, hb.2.1]
          rw [this]
          simp only [cond_true, hm, Option.bind_some, partV, hd]
          refine .now h ?_
          cases d <;> first | exact getD_toL hb.2.2 | (exact (hd1 _ hd).elim) | (exact (hd2 _ _ hd).elim)
      · exact h.elim
    · exact .ex h (by rw [Qy.den, ev, ev])
    · exact h.elim
  · rename_i t x i ho
    simp only [ho]
    split at h
    · rename_i n e b k i hu hx hi
      rw [ev, hx, ev, hi]
      split at h <;> try exact h.elim
      rename_i s hs
      obtain ⟨⟨y, hy⟩, h⟩ := isSL_inv h
      obtain ⟨h1, h⟩ := grdL_inv h
      obtain ⟨h2, h⟩ := grdL_inv h
      rw [cmpL_b] at h1 h2
      have h1 : 0 ≤ i.i ρ := (cmpB_iff _ _ _).1 h1
      have h2 : i.i ρ < n := (cmpB_iff _ _ _).1 h2
      refine .now h ?_
      have hb : (leI 0 (i.i ρ) && ltI (i.i ρ) n) = true := by simp [leI, ltI, h1, h2]
      have e1 : (mulL i (.lit (s : Nat))).t ρ = (i.i ρ).toNat * s := by
        unfold E.t; rw [mulL_i]
        show (i.i ρ * (s : Int)).toNat = _
        obtain ⟨m, hm⟩ := Int.eq_ofNat_of_zero_le h1
        rw [hm]; simp [← Int.natCast_mul]
      simp only [indexAddrV, hu, SV.den, SV.dn, hy, hb, cond_true, hs, Option.map_some, addA_den, e1]
      rfl
    · rename_i e b n c k i hu hx hi
      rw [ev, hx, ev, hi]
      split at h <;> try exact h.elim
      rename_i s hs
      obtain ⟨⟨y, hy⟩, h⟩ := isSL_inv h
      obtain ⟨h1, h⟩ := grdL_inv h
      obtain ⟨h2, h⟩ := grdL_inv h
      rw [cmpL_b] at h1 h2
      have h1 : 0 ≤ i.i ρ := (cmpB_iff _ _ _).1 h1
      have h2 : i.i ρ < (natL n).i ρ := (cmpB_iff _ _ _).1 h2
      rw [natL_i] at h2
      refine .now h ?_
      have hb : (leI 0 (i.i ρ) && ltI (i.i ρ) (n.t ρ)) = true := by simp [leI, ltI, h1, h2]
      have e1 : (mulL i (.lit (s : Nat))).t ρ = (i.i ρ).toNat * s := by
        unfold E.t; rw [mulL_i]
        show (i.i ρ * (s : Int)).toNat = _
        obtain ⟨m, hm⟩ := Int.eq_ofNat_of_zero_le h1
        rw [hm]; simp [← Int.natCast_mul]
      simp only [indexAddrV, hu, SV.den, SV.dn, hy, hb, cond_true, hs, Option.map_some, elA_den, e1, elt]
      rfl
    · exact .ex h (by rw [Qy.den, ev, ev])
  · rename_i t x ho
    simp only [ho]
    split at h
    · exact h.elim
    · exact h.elim
    · rename_i d hd1 hd
      rw [ev]
      refine .now h ?_
      unfold ifaceV
      rw [hd]
      cases d <;> first | rfl | exact (hd1 _ rfl).elim
  · rename_i f first captured ho
    simp only [ho]
    refine .now h ?_
    show some (Value.func (.func f) _ _) = some (Value.func (.func f) ((SV.ofL _).denL ρ).toArray ((SV.ofL _).denL ρ).toArray)
    rw [SV.ofL_den, SV.ofL_den]
    have : (fun x => (a.den ρ).eval x) = fun x => (a.ev x).den ρ := funext ev
    have e : ∀ l : Array Operand, mapA (a.den ρ).eval l = ((l.toList.map a.ev).map (SV.den ρ)).toArray := by
      intro l
      unfold mapA
      rw [List.map_map]
      congr 1
      apply List.map_congr_left
      intro x _; exact ev x
    rw [e, e]
  · rename_i t i ho
    simp only [ho]
    split at h
    · rename_i l hx
      rw [ev, hx]
      cases hb : Nat.blt i l.toL.length with
      | false => rw [hb] at h; exact h.elim
      | true =>
        rw [hb] at h
        refine .now h ?_
        show (l.denL ρ).toArray[i]? = _
        rw [SV.toL_den]
        exact getD_toL hb
    · exact .ex h (by rw [Qy.den, ev]; rfl)
  · rename_i x ho
    simp only [ho]
    split at h
    · rename_i b hx
      rw [ev, hx]
      obtain ⟨⟨y, hy⟩, h⟩ := isSL_inv h
      refine .now h ?_
      simp only [SV.den, SV.dn, hy, nilCheckV]
    · rename_i f u v hx
      rw [ev, hx]
      exact .now h rfl
    · rename_i t v hx
      rw [ev, hx]
      exact .now h rfl
    · exact .ex h (by rw [Qy.den, ev])
  · rename_i t parts ho
    simp only [ho]
    split at h <;> try exact h.elim
    rename_i z pl hz hp
    obtain ⟨cs, h1, h2⟩ := sFill_inv h
    refine .now h1 ?_
    rw [map_ofV] at h2
    rw [ofL_agg]
    refine built_of hz hp ?_
    have e : (parts.toList.map fun p => (p.1, (a.den ρ).eval p.2)) = (parts.toList.map fun p => (p.1, a.ev p.2)).map fun p => (p.1, p.2.den ρ) := by
      rw [List.map_map]
      apply List.map_congr_left
      intro x _
      simp only [Function.comp, ev]
    rw [e]
    simpa using h2
  · rename_i t x lo hi mx ho
    simp only [ho]
    split at h
    · rename_i s hu hx
      rw [ev, hx]
      split at h <;> try exact h.elim
      rename_i l hh hl hhi
      obtain ⟨h1, h⟩ := grdL_inv h
      obtain ⟨h2, h⟩ := grdL_inv h
      obtain ⟨h3, h⟩ := grdL_inv h
      rw [cmpL_b] at h1 h2 h3
      have h1 : 0 ≤ l.i ρ := (cmpB_iff _ _ _).1 h1
      have h2 : l.i ρ ≤ hh.i ρ := (cmpB_iff _ _ _).1 h2
      have h3 : hh.i ρ ≤ (slenL s).i ρ := (cmpB_iff _ _ _).1 h3
      rw [slenL_i] at h3
      refine .now h ?_
      have hb : boundsV (s.s ρ).size (s.s ρ).size (lo.map (a.den ρ).eval) (hi.map (a.den ρ).eval) none = some ((l.i ρ).toNat, (hh.i ρ).toNat, (s.s ρ).size) := by
        have ehi : (match hi.map (a.den ρ).eval, (none : Option Value) with | some v, _ => boundV v (s.s ρ).size | none, none => some (s.s ρ).size | none, some _ => none) = some (hh.i ρ).toNat := by
          cases hi with
          | none =>
            simp only [Option.map_none] at hhi
            cases hhi
            simp only [Option.map_none]
            rw [slenL_i]; simp
          | some v =>
            simp only [Option.map_some] at hhi
            cases hv : a.ev v <;> rw [hv] at hhi <;> cases hhi
            simp only [Option.map_some]
            rw [ev, hv]
            exact boundV_of (by omega) h3
        have elo : (match lo.map (a.den ρ).eval with | some v => boundV v (hh.i ρ).toNat | none => some 0) = some (l.i ρ).toNat := by
          cases lo with
          | none =>
            simp only [Option.map_none] at hl
            cases hl
            rfl
          | some v =>
            simp only [Option.map_some] at hl
            cases hv : a.ev v <;> rw [hv] at hl <;> cases hl
            simp only [Option.map_some]
            rw [ev, hv]
            exact boundV_of h1 (by omega)
        show (((match hi.map (a.den ρ).eval, (none : Option Value) with | some v, _ => boundV v (s.s ρ).size | none, none => some (s.s ρ).size | none, some _ => none) : Option Nat).bind fun h => ((match lo.map (a.den ρ).eval with | some v => boundV v h | none => some 0) : Option Nat).map fun l => (l, h, (s.s ρ).size)) = _
        rw [ehi]
        show ((match lo.map (a.den ρ).eval with | some v => boundV v (hh.i ρ).toNat | none => some 0) : Option Nat).map (fun l => (l, (hh.i ρ).toNat, (s.s ρ).size)) = _
        rw [elo]; rfl
      simp only [SV.den, SV.dn, sliceV, hu, Option.map_none, hb, Option.map_some]
      rfl
    · refine .ex h ?_
      rw [Qy.den, ev]
      have e : ∀ m : Option Operand, m.map (a.den ρ).eval = (m.map a.ev).map (SV.den ρ) := by
        intro m; cases m <;> simp [ev]
      rw [e, e, e]; rfl
  · rename_i src dst x ho
    simp only [ho]
    split at h <;> try exact h.elim
    rename_i k e k' hx hd
    cases hs : undIs P src (fun _ => true) with
    | false => rw [hs] at h; exact h.elim
    | true =>
      rw [hs] at h
      simp only [Bool.not_true, cond_false] at h
      obtain ⟨d, hd', _⟩ := undIs_some hs
      have hc : pureRun P (convert src dst (.int k (e.i ρ))) = some (.int k' (k'.wrap (e.i ρ))) := by
        unfold convert
        rw [pureRun_bind, pure_und hd']
        simp only [Option.bind_some]
        rw [pureRun_bind, pure_und hd]
        simp only [Option.bind_some]
        rfl
      have he : (bif scalar ((a.den ρ).eval x) then ifScalar (pureRun P (convert src dst ((a.den ρ).eval x))) else none) = some (.int k' (k'.wrap (e.i ρ))) := by
        rw [ev, hx]
        show ifScalar (pureRun P (convert src dst (.int k (e.i ρ)))) = _
        rw [hc]; rfl
      split at h
      · exact .now h he
      · cases hk : kindSame k' .i64 with
        | true =>
          rw [hk] at h
          have h2 : InK k' (E.i ρ _) := h.1
          refine .now h.2 ?_
          rw [he, wrap_in h2]; rfl
        | false =>
          rw [hk] at h
          exact .now h he
  · rename_i c ho
    simp only [ho]
    have eargs : c.args.toList.map (a.den ρ).eval = (c.args.toList.map a.ev).map (SV.den ρ) := by
      rw [List.map_map]
      apply List.map_congr_left
      intro x _
      simp only [Function.comp, ev]
    cases hmm : isMM c.callee with
    | true =>
      rw [hmm] at h
      simp only [cond_true] at h
      split at h
      · rename_i k x k' y hcal hargs
        simp only [hcal]
        rw [eargs, hargs]
        refine .now h ?_
        have e : (minL x y).i ρ = Min.min (x.i ρ) (y.i ρ) := by unfold minL; split <;> simp [E.i, E.den]
        have e2 : pureRun P (Builtin.min_ c.argTypes o.type #[.int k (x.i ρ), .int k' (y.i ρ)]) = some (.int k (if y.i ρ < x.i ρ then y.i ρ else x.i ρ)) := rfl
        have e3 : (if y.i ρ < x.i ρ then y.i ρ else x.i ρ) = Min.min (x.i ρ) (y.i ρ) := by split <;> omega
        show ifScalar (pureRun P (Builtin.min_ c.argTypes o.type #[.int k (x.i ρ), .int k' (y.i ρ)])) = some (.int k ((minL x y).i ρ))
        rw [e2, e3, ← e]; rfl
      · rename_i k x k' y hcal hargs
        simp only [hcal]
        rw [eargs, hargs]
        refine .now h ?_
        have e : (maxL x y).i ρ = Max.max (x.i ρ) (y.i ρ) := by unfold maxL; split <;> simp [E.i, E.den]
        have e2 : pureRun P (Builtin.max_ c.argTypes o.type #[.int k (x.i ρ), .int k' (y.i ρ)]) = some (.int k (if y.i ρ > x.i ρ then y.i ρ else x.i ρ)) := rfl
        have e3 : (if y.i ρ > x.i ρ then y.i ρ else x.i ρ) = Max.max (x.i ρ) (y.i ρ) := by split <;> omega
        show ifScalar (pureRun P (Builtin.max_ c.argTypes o.type #[.int k (x.i ρ), .int k' (y.i ρ)])) = some (.int k ((maxL x y).i ρ))
        rw [e2, e3, ← e]; rfl
      · exact h.elim
    | false =>
      rw [hmm] at h
      simp only [cond_false] at h
      suffices hl : Comes P T R tc ρ nv go (lenV P c.argTypes[0]? ((c.args.toList.head?).map (a.den ρ).eval)) by
        cases hcal : c.callee with
        | builtin b => cases b <;> first | exact hl | (rw [hcal] at hmm; cases hmm)
        | _ => exact hl
      split at h
      · rename_i s hu hx
        refine .now h ?_
        cases hl : c.args.toList.head? with
        | none => rw [hl] at hx; cases hx
        | some y =>
          rw [hl] at hx
          simp only [Option.map_some, Option.some.injEq] at hx
          simp only [Option.map_some, ev, hx, lenV, hu]
          show some (Value.int .i64 ((s.s ρ).size : Nat)) = some (Value.int .i64 ((slenL s).i ρ))
          rw [slenL_i]
      · rename_i e b n c' hu hx
        refine .now h ?_
        cases hl : c.args.toList.head? with
        | none => rw [hl] at hx; cases hx
        | some y =>
          rw [hl] at hx
          simp only [Option.map_some, Option.some.injEq] at hx
          simp only [Option.map_some, ev, hx, lenV, hu]
          show some (Value.int .i64 (n.t ρ : Nat)) = some (Value.int .i64 ((natL n).i ρ))
          rw [natL_i]
      · exact h.elim
  · exact h.elim

end
end Go.Abs
