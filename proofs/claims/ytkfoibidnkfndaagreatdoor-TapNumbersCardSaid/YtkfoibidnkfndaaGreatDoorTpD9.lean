/- Histogram: what both functions come to. -/
import Derived.Test.YtkfoibidnkfndaaGreatDoorTpD8
set_option linter.unusedVariables false
set_option linter.unusedSimpArgs false
namespace Go.Proofs.YtkfoibidnkfndaaGreatDoor
open Go.Abs

theorem getD_set (cs : List Int) (k : Nat) (v : Int) (q : Nat) : (cs.set k v).getD q 0 = if k = q ∧ k < cs.length then v else cs.getD q 0 := by
  simp only [List.getD_eq_getElem?_getD, List.getElem?_set]
  by_cases h : k = q
  · subst h
    by_cases h2 : k < cs.length
    · simp [h2]
    · simp [h2]
  · simp [h]

/-- A number is stored into a row. -/
/- (The elaborator must not look into what is done to memory: these laws speak of a D that is it.) -/
theorem store_int {D : Prim → List Value → Heap → (Value → Heap → Prop) → Prop} (hD : Prim.den P = D) {h : Heap} {b k : Nat} {cs : List Int} {v : Int} {Q : Value → Heap → Prop} (hg : h.get b = some (.cells (cs.map I).toArray 3 (0, 0))) (hk : k < cs.length) (hp : h.pins = [])
    (hq : Q (.tuple #[]) (h.put b (some (.cells ((cs.set k v).map I).toArray 3 (0, 0))))) : D (.store 3) [.pointer (elt (some ⟨b, 0, none⟩) k), .int .i64 v] h Q := by
  subst hD
  have he : elt (some ⟨b, 0, none⟩) k = some ⟨b, k, none⟩ := by simp only [elt, Option.map_some, plainA, addTo_mk, Nat.zero_add]
  rw [he]
  show aSem P (storeS P 3 ⟨b, k, none⟩ (.int .i64 v)) h fun _ h' => Q undef h'
  unfold storeS
  rw [sz3]
  show aSem P (storeCells ⟨b, k, none⟩ [.int .i64 v]) h _
  refine storeCells_of rfl rfl hg (by simp; omega) (by simp [oneCell]) (fun j _ => by rw [hp]; rfl) ?_
  have e : spliceL (k + 0) [Value.int .i64 v] (cs.map I).toArray.toList = (cs.set k v).map I := by
    simp only [spliceL, Nat.add_zero, List.length_cons, List.length_nil, Nat.zero_add, List.singleton_append]
    rw [List.map_set, List.set_eq_take_append_cons_drop, if_pos (by simpa using hk)]
    rfl
  rw [e]; exact hq

theorem zero3 : (P.info? 3).map (fun i => (i.bytes, i.size)) = some (8, 1) := by kernel_rfl
theorem zeroC3 : zeroC P 3 = pure (.int .i64 0) := by kernel_rfl
theorem copies_int : ∀ n : Nat, copies [Value.int .i64 0] n = (List.replicate n (0 : Int)).map I
  | 0 => rfl
  | n + 1 => by simp only [copies, copies_int n, List.replicate_succ, List.map_cons]; rfl

/-- A row of noughts is made. -/
theorem make_ints {D : Prim → List Value → Heap → (Value → Heap → Prop) → Prop} (hD : Prim.den P = D) {h : Heap} {z : Int} {n : Nat} {Q : Value → Heap → Prop} (hz : z = n) (hn : n ≤ 1000) (hq : Q (.slice (some ⟨h.next, 0, none⟩) n n) (h.alloc (.cells ((List.replicate n (0 : Int)).map I).toArray 3 (0, 0)))) :
    D (.makeSlice 27) [.int .i64 z, .int .i64 z] h Q := by
  subst hD
  subst hz
  show aSem P (makeSliceS P 27 (.int .i64 n) (.int .i64 n)) h Q
  unfold makeSliceS
  rw [show P.underlying 27 = some (.slice 3) from Tryz.underlying27]
  simp only
  have hi := zero3
  cases hinf : P.info? 3 with
  | none => rw [hinf] at hi; cases hi
  | some i =>
    rw [hinf] at hi
    simp only [Option.map_some, Option.some.injEq, Prod.mk.injEq] at hi
    simp only [hi.1, hi.2, zeroC3]
    have l1 : leI 0 (n : Int) = true := by simp [leI] <;> omega
    have l2 : leI (n : Int) n = true := by simp [leI] <;> omega
    have l3 : leI ((n : Int) * (8 : Nat)) 140737488355328 = true := by simp [leI] <;> omega
    have l4 : leI (n : Int) 140737488355328 = true := by simp [leI] <;> omega
    rw [l1, l2, l3, l4]
    show aSem P (newObj (.cells (copies [Value.int .i64 0] (n : Int).toNat).toArray 3) >>= fun r => pure (.slice (some ⟨r, 0, none⟩) (n : Int).toNat (n : Int).toNat)) h Q
    rw [Int.toNat_natCast, copies_int]
    exact hq

/-- Where a number goes: how many bounds are not above it. -/
def kof (bs : List Int) (v : Int) : Nat := (bs.takeWhile fun b => decide (b ≤ v)).length
def KOf (bs : List Int) (v : Int) (k : Nat) : Prop := k ≤ bs.length ∧ (∀ q, q < k → bs.getD q 0 ≤ v) ∧ (k < bs.length → v < bs.getD k 0)
theorem KOf.eq : ∀ {bs : List Int} {v : Int} {k : Nat}, KOf bs v k → kof bs v = k
  | [], v, k, ⟨h, _, _⟩ => by simp at h; simp [kof, h]
  | b :: bs, v, k, ⟨h1, h2, h3⟩ => by
    by_cases hb : b ≤ v
    · cases k with
      | zero => have := h3 (by simp); simp at this; omega
      | succ k =>
        have ih := KOf.eq (bs := bs) (v := v) (k := k) ⟨by simp at h1; omega, fun q hq => by simpa using h2 (q + 1) (by omega), fun hk => by simpa using h3 (by simp; omega)⟩
        unfold kof at ih ⊢
        rw [List.takeWhile_cons_of_pos (by simpa using hb)]
        simp [ih]
    · cases k with
      | zero => unfold kof; rw [List.takeWhile_cons_of_neg (by simpa using hb)]; rfl
      | succ k => have := h2 0 (by omega); simp at this; omega

def bump (cs : List Int) (k : Nat) : List Int := cs.set k (cs.getD k 0 + 1)
def histL (bs l : List Int) : Nat → List Int
  | 0 => List.replicate (bs.length + 1) 0
  | i + 1 => bump (histL bs l i) (kof bs (l.getD i 0))
theorem histL_length (bs l : List Int) : ∀ i, (histL bs l i).length = bs.length + 1
  | 0 => by simp [histL]
  | i + 1 => by simp [histL, bump, histL_length bs l i]
theorem histL_bd (bs l : List Int) : ∀ i q, 0 ≤ (histL bs l i).getD q 0 ∧ (histL bs l i).getD q 0 ≤ i
  | 0, q => by
    simp only [histL, List.getD_eq_getElem?_getD, List.getElem?_replicate]
    split <;> simp
  | i + 1, q => by
    simp only [histL, bump, getD_set]
    have h1 := histL_bd bs l i q
    have h2 := histL_bd bs l i (kof bs (l.getD i 0))
    split <;> omega

def Incr (bs : List Int) : Prop := ∀ k, 0 < k → k < bs.length → bs.getD (k - 1) 0 < bs.getD k 0
theorem Incr.lt {bs : List Int} (h : Incr bs) {i : Nat} : ∀ {j : Nat}, i < j → j < bs.length → bs.getD i 0 < bs.getD j 0
  | 0, hj, _ => absurd hj (by omega)
  | j + 1, hj, hl => by
    have h1 := h (j + 1) (by omega) hl
    rw [Nat.add_sub_cancel] at h1
    rcases Nat.lt_or_eq_of_le (Nat.lt_succ_iff.1 hj) with h2 | rfl
    · have := h.lt h2 (by omega); omega
    · exact h1

/-- The answer. -/
def HistR (l bs : List Int) (cs : List Int) (e : Int) : Prop :=
  if l.length > 200 ∨ bs.length > 200 then cs = [] ∧ e = 3 else (¬ Incr bs → cs = [] ∧ e = 1) ∧ (Incr bs → cs = histL bs l l.length ∧ e = 0)
theorem HistR.uniq {l bs cs cs' : List Int} {e e' : Int} (h : HistR l bs cs e) (h' : HistR l bs cs' e') : cs = cs' ∧ e = e' := by
  unfold HistR at h h'
  split at h
  · rename_i g; rw [if_pos g] at h'; exact ⟨h.1.trans h'.1.symm, by omega⟩
  rename_i g; rw [if_neg g] at h'
  by_cases hi : Incr bs
  · have a := h.2 hi; have b := h'.2 hi; exact ⟨a.1.trans b.1.symm, by omega⟩
  · have a := h.1 hi; have b := h'.1 hi; exact ⟨a.1.trans b.1.symm, by omega⟩

theorem half_all : ∀ n : Fin 401, binI .shr .u64 (IntKind.wrap .u64 ((n.val : Nat) : Int)) 1 = ((n.val / 2 : Nat) : Int) := of_decide_eq_true (by kernel_rfl)
theorem half {x : Int} (h0 : 0 ≤ x) (h1 : x ≤ 400) : binI .shr .u64 (IntKind.wrap .u64 x) 1 = x / 2 := by
  have := half_all ⟨x.toNat, by omega⟩
  simp only at this
  rw [show ((x.toNat : Nat) : Int) = x by omega] at this
  rw [this]; omega

theorem c75 (w0 : World) (h0 : Heap) (o : Option Addr) (c : Nat) (bs : List Int) (v : Int) (e : Elts h0 o (bs.map I)) (hinc : Incr bs) (hl : bs.length ≤ 200)
    (R : Value → Heap → Prop) (hT : ∀ k : Nat, k < bs.length → KOf bs v (k + 1) → R (.tuple #[.int .i64 k, .bool true]) h0) (hF : ∀ k : Nat, KOf bs v k → R (.tuple #[.int .i64 k, .bool false]) h0) :
    (top P w0).call 75 #[.slice o bs.length c, .int .i64 v] h0 R := by
  refine vc75 w0 R h0 o bs.length c v ?_
  refine ⟨fun j lo hi => 0 ≤ lo ∧ lo ≤ hi ∧ hi ≤ bs.length ∧ (j : Int) = hi - lo ∧ (∀ q, q < lo.toNat → bs.getD q 0 < v) ∧ (∀ q, hi.toNat ≤ q → q < bs.length → v ≤ bs.getD q 0), ⟨bs.length, by omega, by omega, by omega, by omega, fun q hq => absurd hq (by omega), fun q h1 h2 => absurd h2 (by omega)⟩, ?_⟩
  rintro j lo hi ⟨h1, h2, h3, hj, h4, h5⟩ -
  refine ⟨fun hlt => ?_, fun hge => ?_⟩
  · rw [half (by omega) (by omega)]
    have hm : ((lo + hi) / 2).toNat < bs.length := by omega
    refine ⟨(InK_i64 _).2 (by omega), (InK_i64 _).2 (by omega), e.sm hm, by omega, by omega, e.sm hm, _, e.int hm, fun g => ⟨(InK_i64 _).2 (by omega), (hi - ((lo + hi) / 2 + 1)).toNat, by omega, by omega, by omega, by omega, by omega, fun q hq => ?_, h5⟩, fun g => ⟨((lo + hi) / 2 - lo).toNat, by omega, by omega, by omega, by omega, by omega, h4, fun q hq hq' => ?_⟩⟩
    · rcases Nat.lt_or_ge q ((lo + hi) / 2).toNat with hq2 | hq2
      · have := hinc.lt hq2 hm; omega
      · rw [show q = ((lo + hi) / 2).toNat by omega]; exact g
    · rcases Nat.lt_or_eq_of_le hq with hq2 | hq2
      · have := hinc.lt hq2 hq'; omega
      · rw [← hq2]; omega
  · have hlh : lo = hi := by omega
    subst hlh
    have hlo : lo = ((lo.toNat : Nat) : Int) := by omega
    refine ⟨fun g => ?_, fun g => ?_⟩
    · have hm : lo.toNat < bs.length := by omega
      refine ⟨e.sm hm, h1, g, e.sm hm, _, e.int hm, fun g2 => ?_, fun g2 => ⟨e.sm hm, h1, g, e.sm hm, _, e.int hm, ?_⟩⟩
      · rw [hlo]
        refine hT _ hm ⟨by omega, fun q hq => ?_, fun hk => ?_⟩
        · rcases Nat.lt_or_ge q lo.toNat with hq2 | hq2
          · have := h4 q hq2; omega
          · rw [show q = lo.toNat by omega]; omega
        · have := hinc.lt (i := lo.toNat) (j := lo.toNat + 1) (by omega) hk; omega
      · rw [hlo]
        refine hF _ ⟨by omega, fun q hq => by have := h4 q hq; omega, fun hk => ?_⟩
        have := h5 lo.toNat (Nat.le_refl _) hm
        omega
    · rw [hlo]
      exact hF _ ⟨by omega, fun q hq => by have := h4 q hq; omega, fun hk => absurd hk (by omega)⟩

/-- What a row of counts is, while it is made. -/
structure HI (h0 h : Heap) (bs l : List Int) (i : Nat) : Prop where
  old : Old h0 h
  wf : WF h
  lt : h0.next < h.next
  get : h.get h0.next = some (.cells ((histL bs l i).map I).toArray 3 (0, 0))

theorem HI.start {h0 : Heap} (wf : WF h0) (bs l : List Int) : HI h0 (h0.alloc (.cells ((List.replicate (bs.length + 1) (0 : Int)).map I).toArray 3 (0, 0))) bs l 0 := by
  have w : WF (h0.alloc (.cells ((List.replicate (bs.length + 1) (0 : Int)).map I).toArray 3 (0, 0))) := by
    intro i hi
    have hi' : h0.next + 1 ≤ i := hi
    rw [Heap.get_alloc, if_neg (by omega)]
    exact wf i (by omega)
  refine ⟨⟨fun b hb => by rw [Heap.get_alloc, if_neg (by omega)], Nat.le_succ _, rfl, fun _ => w⟩, w, Nat.lt_succ_self _, by rw [Heap.get_alloc, if_pos rfl]; rfl⟩

theorem HI.elts {h0 h : Heap} {bs l : List Int} {i : Nat} (x : HI h0 h bs l i) : Elts h (some ⟨h0.next, 0, none⟩) ((histL bs l i).map I) := by
  intro q v hv
  simp only [elt, Option.map_some, Option.bind_some, plainA, addTo_mk, Nat.zero_add]
  unfold Heap.cell?
  rw [x.get]
  simpa using hv

/-- One more is counted. -/
theorem HI.step {D : Prim → List Value → Heap → (Value → Heap → Prop) → Prop} (hD : Prim.den P = D) {h0 h : Heap} {bs l : List Int} {i k : Nat} (x : HI h0 h bs l i) (hp : h0.pins = []) (hk : KOf bs (l.getD i 0) k) {z : Int} (hz : z = (histL bs l i).getD k 0 + 1) {Q : Value → Heap → Prop}
    (hq : ∀ h', HI h0 h' bs l (i + 1) → Q (.tuple #[]) h') : D (.store 3) [.pointer (elt (some ⟨h0.next, 0, none⟩) k), .int .i64 z] h Q := by
  have hkl : k < (histL bs l i).length := by rw [histL_length]; have := hk.1; omega
  refine store_int hD x.get hkl (x.old.pins.trans hp) (hq _ ?_)
  have w : WF (h.put h0.next (some (.cells (((histL bs l i).set k z).map I).toArray 3 (0, 0)))) := by
    intro q hq'
    have hq2 : h.next ≤ q := hq'
    have := x.lt
    rw [Heap.get_put, if_neg (by omega)]
    exact x.wf q hq2
  refine ⟨⟨fun b hb => ?_, x.old.next, x.old.pins, fun _ => w⟩, w, x.lt, ?_⟩
  · rw [Heap.get_put, if_neg (by omega)]; exact x.old.get b hb
  · rw [Heap.get_put, if_pos rfl]
    simp only [histL, bump, hk.eq, hz]

theorem c28 (w0 : World) (h0 : Heap) (o1 o4 : Option Addr) (c1 c4 : Nat) (l bs : List Int) (wf : WF h0) (hp : h0.pins = []) (e1 : Elts h0 o1 (l.map I)) (e4 : Elts h0 o4 (bs.map I))
    (R : Value → Heap → Prop) (hR : ∀ o n c cs e h', Old h0 h' → WF h' → Elts h' o (cs.map I) → n = cs.length → HistR l bs cs e → R (.tuple #[.slice o n c, .int .i64 e]) h') :
    (top P w0).call 28 #[.slice o1 l.length c1, .slice o4 bs.length c4] h0 R := by
  refine vc28 w0 R h0 o1 l.length c1 o4 bs.length c4 ?_
  have err : ∀ z, HistR l bs [] z → R (.tuple #[.slice none 0 0, .int .i64 z]) h0 := fun z hz => hR none 0 0 [] z h0 (Old.refl _) wf Elts.nil rfl hz
  unfold HistR at hR err
  refine ⟨fun h1 => err 3 (by rw [if_pos (.inl (by omega))]; simp), fun h1 => ⟨fun h2 => err 3 (by rw [if_pos (.inr (by omega))]; simp), fun h2 => ?_⟩⟩
  have hno : ¬ (l.length > 200 ∨ bs.length > 200) := by omega
  refine ⟨fun j x => 0 ≤ x ∧ (j : Int) + x = bs.length ∧ ∀ k, 0 < k → k < x.toNat → bs.getD (k - 1) 0 < bs.getD k 0, ⟨bs.length, by omega, by omega, fun k _ hk => absurd hk (by omega)⟩, ?_⟩
  rintro j x ⟨hx, hj, hk⟩ -
  refine ⟨fun hlt => ?_, fun hge => ?_⟩
  · have hi : x.toNat < bs.length := by omega
    refine ⟨fun g => ?_, fun g => ⟨(InK_i64 _).2 (by omega), j - 1, by omega, by omega, by omega, fun k hk0 hk' => absurd hk0 (by omega)⟩⟩
    have hi1 : (x - 1).toNat < bs.length := by omega
    have e : (x - 1).toNat = x.toNat - 1 := by omega
    refine ⟨(InK_i64 _).2 (by omega), e4.sm hi1, by omega, by omega, e4.sm hi1, _, e4.int hi1, e4.sm hi, hx, hlt, e4.sm hi, _, e4.int hi, fun g2 => err 1 ?_, fun g2 => ⟨(InK_i64 _).2 (by omega), j - 1, by omega, by omega, by omega, fun k hk0 hk' => ?_⟩⟩
    · rw [if_neg hno]
      rw [e] at g2
      exact ⟨fun _ => ⟨rfl, rfl⟩, fun hin => by have := hin x.toNat (by omega) hi; omega⟩
    · by_cases h3 : k = x.toNat
      · subst h3; rw [e] at g2; omega
      · exact hk k hk0 (by omega)
  have hinc : Incr bs := fun k hk0 hk' => hk k hk0 (by omega)
  refine ⟨(InK_i64 _).2 (by omega), ?_⟩
  generalize hD : Prim.den P = D
  refine make_ints hD (n := bs.length + 1) (by omega) (by omega) ⟨_, _, _, rfl, ?_⟩
  refine ⟨fun j x h => 0 ≤ x ∧ (j : Int) + x = l.length ∧ HI h0 h bs l x.toNat, ⟨l.length, by omega, by omega, HI.start wf bs l⟩, ?_⟩
  rintro j x h ⟨hx, hj, hh⟩ -
  have E1 := e1.old wf hh.old
  have E4 := e4.old wf hh.old
  have EH := hh.elts
  refine ⟨fun hlt => ?_, fun hge => ?_⟩
  · have hi : x.toNat < l.length := by omega
    have hs : (x + 1).toNat = x.toNat + 1 := by omega
    refine ⟨E1.sm hi, hx, hlt, E1.sm hi, _, E1.int hi, ?_⟩
    have go : ∀ k : Nat, KOf bs (l.getD x.toNat 0) k → ∀ z : Int, z = k → ∃ (x20 : Int), Option.bind (elt (some ⟨h0.next, 0, none⟩) (Int.toNat z)) h.cell? = some (.int .i64 x20) ∧ InK .i64 (x20 + 1) ∧ (Option.isSome (some (⟨h0.next, 0, none⟩ : Addr)) = true ∧ z ≥ 0 ∧ z < ((bs.length + 1 : Nat) : Int) ∧ Option.isSome (some (⟨h0.next, 0, none⟩ : Addr)) = true ∧
        D (.store 3) [(.pointer (elt (some ⟨h0.next, 0, none⟩) (Int.toNat z))), (.int .i64 (x20 + 1))] h fun v22 h21 => v22 = (.tuple #[]) ∧ InK .i64 (x + 1) ∧ ∃ j', j' < j ∧ (0 ≤ x + 1 ∧ (j' : Int) + (x + 1) = l.length ∧ HI h0 h21 bs l (x + 1).toNat)) := by
      intro k hk z hz
      subst hz
      have hkl : k < (histL bs l x.toNat).length := by rw [histL_length]; have := hk.1; omega
      have hb := histL_bd bs l x.toNat k
      have := hk.1
      rw [Int.toNat_natCast]
      refine ⟨_, EH.int hkl, (InK_i64 _).2 (by omega), rfl, by omega, by omega, rfl, ?_⟩
      refine hh.step hD hp hk rfl fun h' hh' => ⟨rfl, (InK_i64 _).2 (by omega), j - 1, by omega, by omega, by omega, ?_⟩
      rw [hs]; exact hh'
    refine c75 w0 h o4 c4 bs _ E4 hinc (by omega) _ (fun k hk hK => ⟨_, _, rfl, fun _ => ?_, fun g => absurd rfl g⟩) (fun k hK => ⟨_, _, rfl, fun g => absurd g Bool.false_ne_true, fun _ => ?_⟩)
    · obtain ⟨x20, a1, a2, a3⟩ := go (k + 1) hK ((k : Int) + 1) (by omega)
      exact ⟨(InK_i64 _).2 (by omega), rfl, by omega, by omega, rfl, x20, a1, a2, a3⟩
    · obtain ⟨x20, a1, a2, a3⟩ := go k hK (k : Int) rfl
      have := hK.1
      exact ⟨rfl, by omega, by omega, rfl, x20, a1, a2, a3⟩
  · have : x.toNat = l.length := by omega
    rw [this] at hh EH
    exact hR _ _ _ _ _ h hh.old hh.wf EH (histL_length _ _ _).symm (by rw [if_neg hno]; exact ⟨fun g => absurd hinc g, fun _ => ⟨rfl, rfl⟩⟩)

theorem c29 (w0 : World) (h0 : Heap) (o1 o4 : Option Addr) (c1 c4 : Nat) (l bs : List Int) (wf : WF h0) (hp : h0.pins = []) (e1 : Elts h0 o1 (l.map I)) (e4 : Elts h0 o4 (bs.map I))
    (R : Value → Heap → Prop) (hR : ∀ o n c cs e h', Old h0 h' → WF h' → Elts h' o (cs.map I) → n = cs.length → HistR l bs cs e → R (.tuple #[.slice o n c, .int .i64 e]) h') :
    (top P w0).call 29 #[.slice o1 l.length c1, .slice o4 bs.length c4] h0 R := by
  refine vc29 w0 R h0 o1 l.length c1 o4 bs.length c4 ?_
  have err : ∀ z, HistR l bs [] z → R (.tuple #[.slice none 0 0, .int .i64 z]) h0 := fun z hz => hR none 0 0 [] z h0 (Old.refl _) wf Elts.nil rfl hz
  unfold HistR at hR err
  refine ⟨fun h1 => err 3 (by rw [if_pos (.inl (by omega))]; simp), fun h1 => ⟨fun h2 => err 3 (by rw [if_pos (.inr (by omega))]; simp), fun h2 => ?_⟩⟩
  have hno : ¬ (l.length > 200 ∨ bs.length > 200) := by omega
  refine ⟨fun j x => 1 ≤ x ∧ (j : Int) + x = bs.length + 1 ∧ ∀ k, 0 < k → k < x.toNat → bs.getD (k - 1) 0 < bs.getD k 0, ⟨bs.length, by omega, by omega, fun k _ hk => absurd hk (by omega)⟩, ?_⟩
  rintro j x ⟨hx, hj, hk⟩ -
  refine ⟨fun hlt => ?_, fun hge => ?_⟩
  · have hi : x.toNat < bs.length := by omega
    have hi1 : (x - 1).toNat < bs.length := by omega
    have e : (x - 1).toNat = x.toNat - 1 := by omega
    refine ⟨e4.sm hi, by omega, hlt, e4.sm hi, _, e4.int hi, (InK_i64 _).2 (by omega), e4.sm hi1, by omega, by omega, e4.sm hi1, _, e4.int hi1, fun g2 => err 1 ?_, fun g2 => ⟨(InK_i64 _).2 (by omega), j - 1, by omega, by omega, by omega, fun k hk0 hk' => ?_⟩⟩
    · rw [if_neg hno]
      rw [e] at g2
      exact ⟨fun _ => ⟨rfl, rfl⟩, fun hin => by have := hin x.toNat (by omega) hi; omega⟩
    · by_cases h3 : k = x.toNat
      · subst h3; rw [e] at g2; omega
      · exact hk k hk0 (by omega)
  have hinc : Incr bs := fun k hk0 hk' => hk k hk0 (by omega)
  refine ⟨(InK_i64 _).2 (by omega), ?_⟩
  generalize hD : Prim.den P = D
  refine make_ints hD (n := bs.length + 1) (by omega) (by omega) ⟨_, _, _, rfl, ?_⟩
  refine ⟨fun j x h => 0 ≤ x ∧ (j : Int) + x = l.length ∧ HI h0 h bs l x.toNat, ⟨l.length, by omega, by omega, HI.start wf bs l⟩, ?_⟩
  rintro j x h ⟨hx, hj, hh⟩ -
  have E1 := e1.old wf hh.old
  have E4 := e4.old wf hh.old
  have EH := hh.elts
  refine ⟨fun hlt => ?_, fun hge => ?_⟩
  · have hi : x.toNat < l.length := by omega
    have hs : (x + 1).toNat = x.toNat + 1 := by omega
    have go : ∀ z : Int, 0 ≤ z → KOf bs (l.getD x.toNat 0) z.toNat → Option.isSome (some (⟨h0.next, 0, none⟩ : Addr)) = true ∧ z ≥ 0 ∧ z < ((bs.length + 1 : Nat) : Int) ∧ Option.isSome (some (⟨h0.next, 0, none⟩ : Addr)) = true ∧ ∃ (x20 : Int), Option.bind (elt (some ⟨h0.next, 0, none⟩) (Int.toNat z)) h.cell? = some (.int .i64 x20) ∧ InK .i64 (x20 + 1) ∧ (Option.isSome (some (⟨h0.next, 0, none⟩ : Addr)) = true ∧ z ≥ 0 ∧ z < ((bs.length + 1 : Nat) : Int) ∧ Option.isSome (some (⟨h0.next, 0, none⟩ : Addr)) = true ∧
        D (.store 3) [(.pointer (elt (some ⟨h0.next, 0, none⟩) (Int.toNat z))), (.int .i64 (x20 + 1))] h fun v22 h21 => v22 = (.tuple #[]) ∧ InK .i64 (x + 1) ∧ ∃ j', j' < j ∧ (0 ≤ x + 1 ∧ (j' : Int) + (x + 1) = l.length ∧ HI h0 h21 bs l (x + 1).toNat)) := by
      intro z hz hk
      have hkl : z.toNat < (histL bs l x.toNat).length := by rw [histL_length]; have := hk.1; omega
      have hb := histL_bd bs l x.toNat z.toNat
      have := hk.1
      refine ⟨rfl, hz, by omega, rfl, _, EH.int hkl, (InK_i64 _).2 (by omega), rfl, by omega, by omega, rfl, ?_⟩
      refine hh.step hD hp hk rfl fun h' hh' => ⟨rfl, (InK_i64 _).2 (by omega), j - 1, by omega, by omega, by omega, ?_⟩
      rw [hs]; exact hh'
    refine ⟨fun j2 k => 0 ≤ k ∧ (j2 : Int) + k = bs.length ∧ ∀ q, q < k.toNat → bs.getD q 0 ≤ l.getD x.toNat 0, ⟨bs.length, by omega, by omega, fun q hq => absurd hq (by omega)⟩, ?_⟩
    rintro j2 k ⟨hk0, hj2, hkq⟩ -
    refine ⟨fun g => ?_, fun g => go k hk0 ⟨by omega, hkq, fun h => absurd h (by omega)⟩⟩
    have hkb : k.toNat < bs.length := by omega
    refine ⟨E1.sm hi, hx, hlt, E1.sm hi, _, E1.int hi, E4.sm hkb, hk0, g, E4.sm hkb, _, E4.int hkb, fun g2 => ⟨(InK_i64 _).2 (by omega), j2 - 1, by omega, by omega, by omega, fun q hq => ?_⟩, fun g2 => go k hk0 ⟨by omega, hkq, fun _ => by omega⟩⟩
    by_cases h3 : q = k.toNat
    · subst h3; omega
    · exact hkq q (by omega)
  · have : x.toNat = l.length := by omega
    rw [this] at hh EH
    exact hR _ _ _ _ _ h hh.old hh.wf EH (histL_length _ _ _).symm (by rw [if_neg hno]; exact ⟨fun g => absurd hinc g, fun _ => ⟨rfl, rfl⟩⟩)


theorem smooth_len (l : List Int) (n : Int) : (smoothS l n).2.length ≤ l.length := by
  unfold smoothS
  split
  · simp
  · split
    · simp
    · simp [smoothL]

/-- THE LAW. -/
theorem tapNumbers (w0 : World) (h0 : Heap) (o1 o4 : Option Addr) (c1 c4 : Nat) (l bs : List Int) (x y z : Int) (wf : WF h0) (hp : h0.pins = []) (e1 : Elts h0 o1 (l.map I)) (e4 : Elts h0 o4 (bs.map I)) (hsp : ∀ a, o1 = some a → a.spot = none) (hc : l.length ≤ c1)
    (hl1 : l.length < 1000000000000000) (hl2 : bs.length < 1000000000000000) (R : Value → Heap → Prop) (hR : ∀ h', R (.bool true) h') :
    (top P w0).call 9 #[.slice o1 l.length c1, .slice o4 bs.length c4, .agg #[.int .i64 x, .int .i64 y, .int .i64 z]] h0 R := by
  refine vc9 w0 R h0 o1 l.length c1 o4 bs.length c4 x y z ?_
  refine ⟨(InK_i64 _).2 (by omega), fun h1 => known w0 _ _ ⟨true, rfl, hR _⟩, fun h1 => ?_⟩
  have hn1 : l.length ≤ 20000 := by omega
  have hn2 : bs.length ≤ 20000 := by omega
  have olb : Old h0 (hup h0 1 [((h0.next + 0), some (.cells #[(.int .i64 x), (.int .i64 y), (.int .i64 z)] 32 (0, 0)))] h0.pins) := hup_old rfl (by simp)
  have hbg : (hup h0 1 [((h0.next + 0), some (.cells #[(.int .i64 x), (.int .i64 y), (.int .i64 z)] 32 (0, 0)))] h0.pins).get h0.next = some (.cells #[(.int .i64 x), (.int .i64 y), (.int .i64 z)] 32 (0, 0)) := hup_hit
  have hbn : h0.next < (hup h0 1 [((h0.next + 0), some (.cells #[(.int .i64 x), (.int .i64 y), (.int .i64 z)] 32 (0, 0)))] h0.pins).next := by rw [hup_next]; omega
  generalize hup h0 1 [((h0.next + 0), some (.cells #[(.int .i64 x), (.int .i64 y), (.int .i64 z)] 32 (0, 0)))] h0.pins = hb at *
  have box : ∀ h, Old hb h → ∀ (k : Nat) v, (#[Value.int .i64 x, .int .i64 y, .int .i64 z])[k]? = some v → Option.bind (some ⟨(h0.next + 0), k, none⟩) h.cell? = some v := by
    intro h ol k v hv
    show h.cell? ⟨h0.next + 0, k, none⟩ = some v
    unfold Heap.cell?
    rw [Nat.add_zero, ol.get _ hbn, hbg]
    exact hv
  have wfb := olb.wf wf
  have hpb : hb.pins = [] := olb.pins.trans hp
  have E1 := e1.old wf olb
  have E4 := e4.old wf olb
  refine c26 w0 hb o1 c1 l x wfb hpb E1 hsp hc _ fun oa ka ca ha olda wfa outa => ⟨oa, ka, ca, _, rfl, x, box ha olda 0 _ rfl, ?_⟩
  have E1a := E1.old wfb olda
  have E4a := E4.old wfb olda
  refine c27 w0 ha o1 c1 l x wfa (olda.pins.trans hpb) E1a _ fun ob kb cb hb2 oldb wfb2 outb => ⟨ob, kb, cb, _, rfl, ?_⟩
  have oab := olda.trans oldb
  refine c28 w0 hb2 o1 o4 c1 c4 l bs wfb2 (oab.pins.trans hpb) (E1.old wfb oab) (E4.old wfb oab) _ fun od kd cd cs e hd oldd wfd Ed hkd hrd => ⟨od, kd, cd, _, rfl, ?_⟩
  have oad := oab.trans oldd
  refine c29 w0 hd o1 o4 c1 c4 l bs wfd (oad.pins.trans hpb) (E1.old wfb oad) (E4.old wfb oad) _ fun oe ke ce cs' e' he olde wfe Ee hke hre => ⟨oe, ke, ce, _, rfl, ?_⟩
  have oae := oad.trans olde
  refine ⟨y, box he oae 1 _ rfl, z, box he oae 2 _ rfl, ?_⟩
  refine c30 w0 he o1 c1 l y z wfe (oae.pins.trans hpb) (E1.old wfb oae) _ fun q r hf oldf wff hq => ⟨_, _, rfl, ?_⟩
  have oaf := oae.trans oldf
  refine ⟨y, box hf oaf 1 _ rfl, z, box hf oaf 2 _ rfl, ?_⟩
  refine c31 w0 hf o1 c1 l y z (E1.old wfb oaf) _ fun q' r' hq' => ⟨_, _, rfl, ?_⟩
  obtain ⟨rfl, rfl⟩ := hq.uniq hq'
  obtain ⟨rfl, rfl⟩ := hrd.uniq hre
  have la := outa.1
  have lb := outb.1
  have sl := smooth_len l x
  simp only [List.length_map] at la lb
  have EA : Elts hf oa ((smoothS l x).2.map I) := (outa.elts).old wfa (oldb.trans (oldd.trans (olde.trans oldf)))
  have EB : Elts hf ob ((smoothS l x).2.map I) := (outb.elts).old wfb2 (oldd.trans (olde.trans oldf))
  have hcl : cs.length ≤ 20001 := by
    unfold HistR at hrd
    split at hrd
    · rw [hrd.1]; simp
    · by_cases hi : Incr bs
      · rw [(hrd.2 hi).1, histL_length]; omega
      · rw [(hrd.1 hi).1]; simp
  refine c25 w0 hf oa ob ka kb ca cb (smoothS l x).2 EA EB (by omega) (by omega) (by omega) _ ⟨true, rfl, fun _ => ⟨fun _ => ?_, fun g => absurd rfl g⟩, fun g => absurd rfl g⟩
  refine c25 w0 hf od oe kd ke cd ce cs (Ed.old wfd (olde.trans oldf)) (Ee.old wfe oldf) hkd hke (by omega) _ ⟨true, rfl, fun _ => ⟨fun _ => ⟨fun _ => ⟨fun _ => known w0 _ _ ⟨true, rfl, hR _⟩, fun g => absurd rfl g⟩, fun g => absurd rfl g⟩, fun g => absurd rfl g⟩, fun g => absurd rfl g⟩

end Go.Proofs.YtkfoibidnkfndaaGreatDoor
