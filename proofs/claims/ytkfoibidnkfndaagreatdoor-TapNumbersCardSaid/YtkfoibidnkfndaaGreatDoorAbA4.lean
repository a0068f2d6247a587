/- The abstract machine, part 5: operations that read and write memory. -/
import Derived.Test.YtkfoibidnkfndaaGreatDoorAbA3
namespace Go.Abs
open Go.RowKit

section
variable {P : Program} {w0 : World} {ρ : Ren} {α β γ δ : Type}

/-- A step of the concrete side alone, that reads nothing but the program. -/
theorem Sim.right {R : Ren → α → γ → Prop} {s : Sem α} {s1 : Sem β} {x : β} {f : β → Sem γ} (h1 : ∀ w, s1.run P w = .ok x w) (h : Sim P w0 R ρ s (f x)) : Sim P w0 R ρ s (s1 >>= f) := by
  intro ρ1 hl hp w Q hr hq
  obtain ⟨ρ2, a, b, h', w', x1, x2, x3⟩ := h ρ1 hl hp w Q hr hq
  exact ⟨ρ2, a, b, h', w', x1, by simp [h1, x2], x3⟩

/-- The concrete side is another term that runs alike. -/
theorem Sim.run_eq {R : Ren → α → β → Prop} {s : Sem α} {s1 s2 : Sem β} (h1 : ∀ w, s2.run P w = s1.run P w) (h : Sim P w0 R ρ s s1) : Sim P w0 R ρ s s2 := by
  intro ρ1 hl hp w Q hr hq
  obtain ⟨ρ2, a, b, h', w', x1, x2, x3⟩ := h ρ1 hl hp w Q hr hq
  exact ⟨ρ2, a, b, h', w', x1, by rw [h1]; exact x2, x3⟩

theorem Sim.ret {R : Ren → α → β → Prop} {a : α} {s' : Sem β} {b : β} (h1 : ∀ w, s'.run P w = .ok b w) (h : ∀ ρ', Ren.le ρ ρ' → R ρ' a b) : Sim P w0 R ρ (Pure.pure a) s' :=
  fun ρ1 hl hp w _ hr hq => ⟨ρ1, a, b, hp, w, Ren.le_refl _, h1 w, h _ hl, hr, Keep.refl _, hq⟩

theorem Sim.weaken {R R' : Ren → α → β → Prop} {s : Sem α} {s' : Sem β} (h : Sim P w0 R ρ s s') (hR : ∀ ρ', Ren.le ρ ρ' → ∀ a b, R ρ' a b → R' ρ' a b) : Sim P w0 R' ρ s s' := by
  intro ρ1 hl hp w Q hr hq
  obtain ⟨ρ2, a, b, h', w', x1, x2, x3, x4⟩ := h ρ1 hl hp w Q hr hq
  exact ⟨ρ2, a, b, h', w', x1, x2, hR _ (Ren.le_trans hl x1) _ _ x3, x4⟩

theorem sim_loadFrom {a a' : Addr} (ha : PRel ρ a a') : ∀ (n i : Nat) (acc : Array Value),
    Sim P w0 (fun ρ' l b => ∃ l', b = acc ++ (l' : List Value).toArray ∧ LRel ρ' l l') ρ (loadList a n i) (loadCellsFrom a' i n acc) := by
  intro n
  induction n generalizing ρ with
  | zero => intro i acc; exact Sim.pure fun _ _ => ⟨[], by simp, .nil⟩
  | succ n ih =>
    intro i acc
    refine Sim.bind (Sim.load (ha.add i)) fun ρ' hl v v' hv => ?_
    refine Sim.run_eq (s1 := loadCellsFrom a' (i + 1) n (acc.push v') >>= Pure.pure) (fun w => by rw [bind_pure]) ?_
    refine Sim.bind (ih (ha.mono hl) (i + 1) (acc.push v')) fun ρ2 hl2 l b hb => ?_
    obtain ⟨l', rfl, hb⟩ := hb
    exact Sim.pure fun ρ3 hl3 => ⟨v' :: l', by simp, .cons (hv.mono (Ren.le_trans hl2 hl3)) (hb.mono hl3)⟩

theorem sim_loadCells {a a' : Addr} (ha : PRel ρ a a') (n : Nat) : Sim P w0 (fun ρ' l b => LRel ρ' l b.toList) ρ (loadList a n 0) (loadCells a' n) :=
  (sim_loadFrom ha n 0 #[]).mono fun ρ' l b ⟨l', e, h⟩ => by subst e; simpa using h

theorem sim_sizeS {t : TypeId} : Sim P w0 (fun _ a b => a = b ∧ sizeV P t = some a) ρ (sizeS P t) (sizeOf t) := by
  unfold sizeS
  cases h : sizeV P t with
  | none => exact Sim.stuck
  | some n => exact Sim.ret (b := n) (fun w => run_size h w) fun _ _ => ⟨rfl, rfl⟩

theorem sim_loadS {t : TypeId} {a a' : Addr} (ha : PRel ρ a a') : Sim P w0 VRel ρ (loadS P t a) (loadVar t a') := by
  have agg : ∀ {d}, P.underlying t = some d → aggT d = true → Sim P w0 VRel ρ (do let n ← sizeS P t; pure (.agg (← loadList a n 0).toArray)) (loadVar t a') := by
    intro d hu hd
    refine Sim.run_eq (s1 := do let n ← sizeOf t; pure (.agg (← loadCells a' n))) (fun w => by simp [loadVar, run_isAgg hu, hd]) ?_
    refine Sim.bind sim_sizeS fun ρ1 hl n n' hn => ?_
    obtain ⟨rfl, _⟩ := hn
    refine Sim.bind (sim_loadCells (ha.mono hl) n) fun ρ2 hl2 l b hb => ?_
    exact Sim.pure fun ρ3 hl3 => .agg' (by simpa using hb.mono hl3)
  unfold loadS
  split
  · rename_i hu; exact agg hu rfl
  · rename_i hu; exact agg hu rfl
  · rename_i d h1 h2 hu
    have hd : aggT d = false := by
      cases d <;> first | rfl | exact (h1 _ rfl).elim | exact (h2 _ _ rfl).elim
    exact Sim.run_eq (s1 := load a') (fun w => by simp [loadVar, run_isAgg hu, hd]) (Sim.load ha)
  · exact Sim.stuck

theorem sim_storeCells : ∀ {l l' : List Value} {a a' : Addr} {i : Nat}, LRel ρ l l' → PRel ρ a a' → Sim P w0 (fun _ _ _ => True) ρ (storeCells a l i) (storeCells a' l' i) := by
  intro l l' a a' i h
  induction h generalizing i with
  | nil => intro _; exact Sim.pure fun _ _ => trivial
  | @cons v v' l l' hv ht ih =>
    intro ha
    simp only [storeCells]
    refine Sim.bind (Sim.store (ha.add i) hv) fun ρ1 hl _ _ _ => ?_
    exact (ih ha).at hl

theorem sim_storeS {t : TypeId} {a a' : Addr} {v v' : Value} (ha : PRel ρ a a') (hv : VRel ρ v v') : Sim P w0 (fun _ _ _ => True) ρ (storeS P t a v) (storeVar t a' v') := by
  unfold storeS
  cases h : sizeV P t with
  | none => exact Sim.stuck
  | some n =>
    simp only
    rcases beq_cases v.cells.size n with ⟨e1, e2⟩ | ⟨e1, e2⟩
    · rw [e2, cond_true]
      have hs : v'.cells.size = n := by have := hv.cells.length; simp at this; omega
      refine Sim.run_eq (s1 := storeCells a' v'.cells.toList) (fun w => by simp [storeVar, run_size h, hs]) ?_
      exact sim_storeCells hv.cells ha
    · rw [e2, cond_false]; exact Sim.stuck

theorem sim_newVarS {t : TypeId} {v v' : Value} (hv : VRel ρ v v') : Sim P w0 VRel ρ (newVarS t v) (do pure (.pointer (some (← newVar t v')))) := by
  unfold newVarS
  refine Sim.run_eq (s1 := do let r ← newObj (.cells v'.cells t); pure (.pointer (some ⟨r, 0, none⟩))) (fun w => by simp [newVar, newRow]) ?_
  refine Sim.bind (Sim.newObj (.cells t (LRel.arr hv.cells))) fun ρ1 hl r r' hr => ?_
  refine Sim.pure fun ρ2 hl2 => .ptr ?_
  obtain ⟨p, h1, h2, h3⟩ := hr.mono hl2
  exact ⟨rfl, rfl, p, h1, h2.symm, by simp [h3]⟩

theorem zeroC_ok {t : TypeId} : (∃ z, zeroC P t = pure z ∧ closed z = true ∧ ∀ w, (zeroValue t).run P w = .ok z w) ∨ zeroC P t = stuck "" := by
  unfold zeroC
  cases h : (P.info? t).bind (·.zero) with
  | none => exact .inr rfl
  | some z =>
    simp only
    cases hc : closed z with
    | false => exact .inr rfl
    | true =>
      refine .inl ⟨z, rfl, hc, fun w => ?_⟩
      cases hi : P.info? t with
      | none => simp [hi] at h
      | some i => simp [hi] at h; simp [zeroValue, typeInfo, hi, h]

theorem sim_zero {t : TypeId} : Sim P w0 (fun _ z z' => z' = z ∧ closed z = true) ρ (zeroC P t) (zeroValue t) := by
  rcases zeroC_ok (P := P) (t := t) with ⟨z, e, hc, hr⟩ | e
  · rw [e]; exact Sim.ret (b := z) hr fun _ _ => ⟨rfl, hc⟩
  · rw [e]; exact Sim.stuck

theorem sim_alloc {t : TypeId} : Sim P w0 VRel ρ (do newVarS t (← zeroC P t)) (Instr.alloc t true (.tuple #[])) := by
  unfold Instr.alloc
  refine Sim.bind sim_zero fun ρ1 hl z z' hz => ?_
  obtain ⟨rfl, hc⟩ := hz
  exact sim_newVarS (closed_refl hc)

theorem sim_box {t : TypeId} {v v' : Value} (hv : VRel ρ v v') : Sim P w0 VRel ρ (newVarS t v) (Instr.box t v') := sim_newVarS hv

/-- A row of copies, as the model writes it. -/
theorem copies_get (z : List Value) (_hz : 0 < z.length) : ∀ (n k : Nat), k < n * z.length → (copies z n)[k]? = z[k % z.length]? := by
  intro n
  induction n with
  | zero => intro k h; omega
  | succ n ih =>
    intro k h
    simp only [copies]
    by_cases hk : k < z.length
    · rw [List.getElem?_append_left hk, Nat.mod_eq_of_lt hk]
    · have h1 : (n + 1) * z.length = n * z.length + z.length := Nat.succ_mul n z.length
      have h2 : k % z.length = (k - z.length) % z.length := Nat.mod_eq_sub_mod (by omega)
      rw [List.getElem?_append_right (by omega), ih _ (by omega), h2]

theorem copies_length (z : List Value) : ∀ n, (copies z n).length = n * z.length
  | 0 => by simp [copies]
  | n + 1 => by simp [copies, copies_length z n, Nat.succ_mul]; omega

theorem range_copies {z : Array Value} {n m : Nat} (hm : m = n * z.size) : (Array.range m).map (fun k => z[k % z.size]!) = (copies z.toList n).toArray := by
  apply Array.ext
  · simp [copies_length, hm]
  · intro k h1 h2
    simp only [Array.size_map, Array.size_range] at h1
    have hz : 0 < z.toList.length := by
      rcases Nat.eq_zero_or_pos z.size with h | h
      · rw [h] at hm; omega
      · simpa using h
    have := copies_get z.toList hz n k (by simp; omega)
    simp only [Array.length_toList, Array.getElem?_toList] at this
    have hlt : k % z.size < z.size := Nat.mod_lt _ (by simpa using hz)
    have e : (copies z.toList n)[k]'(by simpa using h2) = z[k % z.size] := by
      rw [Array.getElem?_eq_getElem hlt, List.getElem?_eq_getElem (by simpa using h2)] at this
      exact Option.some.inj this
    simp [e, getElem!_pos, hlt]

theorem sim_row {e : TypeId} {c c' : Array Value} (hc : ARel ρ c c') (n k : Nat) : Sim P w0 VRel ρ (do let r ← newObj (.cells c e); pure (.slice (some ⟨r, 0, none⟩) n k)) (do let a ← newRow e c'; pure (.slice (some a) n k)) := by
  refine Sim.run_eq (s1 := do let r ← newObj (.cells c' e); pure (.slice (some ⟨r, 0, none⟩) n k)) (fun w => by simp [newRow]) ?_
  refine Sim.bind (Sim.newObj (.cells e hc)) fun ρ1 hl r r' hr => ?_
  refine Sim.pure fun ρ2 hl2 => .slice (SRel.exact ?_)
  obtain ⟨p, h1, h2, h3⟩ := hr.mono hl2
  exact ⟨rfl, rfl, p, h1, h2.symm, by simp [h3]⟩

theorem closed_cells {z : Value} (h : closed z = true) : ARel ρ z.cells z.cells := LRel.arr (closed_refl h).cells

theorem sim_buildSlice {t : TypeId} {len : Nat} {parts parts' : List (Nat × Value)} (h : PartsRel ρ parts parts') : Sim P w0 VRel ρ (buildSliceS P t len parts) (Instr.buildSlice t len parts'.toArray) := by
  unfold buildSliceS
  split
  case h_2 => exact Sim.stuck
  rename_i e hu
  split
  case h_2 => exact Sim.stuck
  rename_i size hs
  cases hle : Nat.ble (len * size) 16777216 with
  | false => exact Sim.stuck
  | true =>
    have hle' : ¬ len * size > 16777216 := by have := Nat.le_of_ble_eq_true hle; omega
    simp only [cond_true]
    rcases zeroC_ok (P := P) (t := e) with ⟨z, ez, hc, hr⟩ | ez
    case inr => rw [ez]; exact Sim.no fun _ _ h => h
    rw [ez, pure_bind]
    rcases beq_cases z.cells.size size with ⟨e1, e2⟩ | ⟨e1, e2⟩
    case inr => rw [e2]; exact Sim.stuck
    rw [e2]
    simp only [Bool.not_true, cond_false]
    split
    case h_2 => exact Sim.stuck
    rename_i cs hf
    have base : ARel ρ (copies z.cells.toList len).toArray (copies z.cells.toList len).toArray := ((closed_refl hc).cells.copies len).arr'
    obtain ⟨cs', hf', hcs⟩ := fill_rel h base hf
    refine Sim.run_eq (s1 := do let a ← newRow e cs'; pure (.slice (some a) len len)) (fun w => ?_) (sim_row hcs len len)
    by_cases h0 : len * size = 0
    · have h9 : (copies z.cells.toList len).toArray = #[] := by
        have : (copies z.cells.toList len).length = 0 := by rw [copies_length, Array.length_toList, e1, h0]
        rw [List.length_eq_zero_iff] at this
        rw [this]
      rw [h9] at hf'
      have hr0 : Array.range 0 = #[] := rfl
      simp [Instr.buildSlice, run_und hu, run_size hs, h0, hr0, hf', newRow]
    · have hz : (Array.range (len * size)).map (fun k => z.cells[k % z.cells.size]!) = (copies z.cells.toList len).toArray := range_copies (by rw [e1])
      simp [Instr.buildSlice, run_und hu, run_size hs, h0, hle', hr, hz, hf', newRow]

theorem wrap_small {n : Int} (h0 : 0 ≤ n) (h1 : n ≤ 140737488355328) : IntKind.i64.wrap n = n := by
  have e : (2 : Int) ^ 64 = 18446744073709551616 := rfl
  have e' : (2 : Int) ^ 63 = 9223372036854775808 := rfl
  simp only [IntKind.wrap, IntKind.bits, IntKind.signed, e, e', Bool.true_and, decide_eq_true_eq]
  rw [Int.emod_eq_of_lt h0 (by omega), if_neg (by omega)]

theorem sim_makeSlice {t : TypeId} {l c l' c' : Value} (hl : VRel ρ l l') (hc : VRel ρ c c') : Sim P w0 VRel ρ (makeSliceS P t l c) (Instr.makeSlice t l' c') := by
  unfold makeSliceS
  split
  case h_2 => exact Sim.stuck
  rename_i e k1 l k2 c hu
  cases hl; cases hc
  split
  case h_2 => exact Sim.stuck
  rename_i i hi
  cases hb : (leI 0 l && leI l c && leI (c * i.bytes) 140737488355328 && leI c 140737488355328) with
  | false => exact Sim.stuck
  | true =>
    simp only [Bool.and_eq_true, leI_iff] at hb
    obtain ⟨⟨⟨h1, h2⟩, h3⟩, h4⟩ := hb
    simp only [cond_true]
    rcases zeroC_ok (P := P) (t := e) with ⟨z, ez, hcz, hr⟩ | ez
    case inr => rw [ez]; exact Sim.no fun _ _ h => h
    rw [ez, pure_bind]
    rcases beq_cases z.cells.size i.size with ⟨e1, e2⟩ | ⟨e1, e2⟩
    case inr => rw [e2]; exact Sim.stuck
    rw [e2]
    simp only [Bool.not_true, cond_false]
    refine Sim.run_eq (s1 := do let a ← newRow e (copies z.cells.toList c.toNat).toArray; pure (.slice (some a) l.toNat c.toNat)) (fun w => ?_) (sim_row (((closed_refl hcz).cells.copies c.toNat).arr') _ _)
    have wl : IntKind.i64.wrap l = l := wrap_small h1 (by omega)
    have wc : IntKind.i64.wrap c = c := wrap_small (by omega) h4
    have t1 : ¬ c < 0 := by omega
    have t2 : ¬ (i.bytes : Int) * c > 281474976710656 := by rw [Int.mul_comm]; omega
    have t3 : ¬ l < 0 := by omega
    have t4 : ¬ l > c := by omega
    have hs : (sizeOf e).run P w = .ok i.size w := by simp [sizeOf, typeInfo, hi]
    by_cases h0 : c.toNat * i.size = 0
    · have h9 : (copies z.cells.toList c.toNat).toArray = #[] := by
        have : (copies z.cells.toList c.toNat).length = 0 := by rw [copies_length, Array.length_toList, e1, h0]
        rw [List.length_eq_zero_iff] at this
        rw [this]
      have hr0 : Array.range 0 = #[] := rfl
      simp [Instr.makeSlice, run_und hu, asInt, asIntOf, typeInfo, hi, wl, wc, t1, t2, t3, t4, hs, h0, hr0, h9, newRow]
    · have hz : (Array.range (c.toNat * i.size)).map (fun k => z.cells[k % z.cells.size]!) = (copies z.cells.toList c.toNat).toArray := range_copies (by rw [e1])
      simp [Instr.makeSlice, run_und hu, asInt, asIntOf, typeInfo, hi, wl, wc, t1, t2, t3, t4, hs, h0, hr, hz, newRow]

/-! ### Maps -/

inductive ERel (ρ : Ren) : List MapEntry → List MapEntry → Prop
  | nil : ERel ρ [] []
  | cons {e e' : MapEntry} {l l' : List MapEntry} (h : EntryRel ρ e e') (t : ERel ρ l l') : ERel ρ (e :: l) (e' :: l')

theorem ERel.length {l l' : List MapEntry} (h : ERel ρ l l') : l.length = l'.length := by
  induction h with
  | nil => rfl
  | cons _ _ ih => simp [ih]

theorem ERel.of_get : ∀ {l l' : List MapEntry}, l.length = l'.length → (∀ (i : Nat) (v v' : MapEntry), l[i]? = some v → l'[i]? = some v' → EntryRel ρ v v') → ERel ρ l l'
  | [], [], _, _ => .nil
  | v :: l, v' :: l', hl, h => .cons (h 0 v v' rfl rfl) (ERel.of_get (by simpa using hl) fun i u u' e e' => h (i + 1) u u' (by simpa using e) (by simpa using e'))
  | [], _ :: _, hl, _ => by simp at hl
  | _ :: _, [], hl, _ => by simp at hl

theorem ERel.get {l l' : List MapEntry} (h : ERel ρ l l') : ∀ (i : Nat) (v v' : MapEntry), l[i]? = some v → l'[i]? = some v' → EntryRel ρ v v' := by
  induction h with
  | nil => intro i v v' e; simp at e
  | cons h _ ih =>
    intro i v v' e e'
    cases i with
    | zero => simp at e e'; subst e; subst e'; exact h
    | succ i => simp at e e'; exact ih i v v' e e'

theorem ERel.get_some {l l' : List MapEntry} (h : ERel ρ l l') {i : Nat} {v : MapEntry} (e : l[i]? = some v) : ∃ v', l'[i]? = some v' ∧ EntryRel ρ v v' := by
  have hi : i < l'.length := by rw [← h.length]; exact (List.getElem?_eq_some_iff.1 e).1
  exact ⟨_, List.getElem?_eq_getElem hi, h.get i v _ e (List.getElem?_eq_getElem hi)⟩

theorem EntriesRel.list {a a' : Array MapEntry} (h : EntriesRel ρ a a') : ERel ρ a.toList a'.toList :=
  ERel.of_get (by simpa using h.1) fun i v v' e e' => h.2 i v v' (by simpa using e) (by simpa using e')
theorem ERel.arr {a a' : Array MapEntry} (h : ERel ρ a.toList a'.toList) : EntriesRel ρ a a' :=
  ⟨by simpa using h.length, fun i v v' e e' => h.get i v v' (by simpa using e) (by simpa using e')⟩

theorem ERel.mono {ρ' : Ren} (hl : Ren.le ρ ρ') {l l' : List MapEntry} (h : ERel ρ l l') : ERel ρ' l l' := by
  induction h with
  | nil => exact .nil
  | cons h _ ih => exact .cons (h.mono hl) ih

theorem EntriesRel.push {a a' : Array MapEntry} (h : EntriesRel ρ a a') {e e' : MapEntry} (he : EntryRel ρ e e') : EntriesRel ρ (a.push e) (a'.push e') := by
  refine ⟨by simp [h.1], fun i v v' x x' => ?_⟩
  rw [Array.getElem?_push] at x x'
  rw [← h.1] at x'
  split at x
  · rename_i hi; rw [if_pos hi] at x'; cases x; cases x'; exact he
  · rename_i hi; rw [if_neg hi] at x'; exact h.2 i v v' x x'

/-- What a look-up by key gives. -/
inductive FoundRel (ρ : Ren) : Option (Nat × Value) → Option (Nat × Value) → Prop
  | none : FoundRel ρ none none
  | some (i : Nat) {v v' : Value} (h : VRel ρ v v') : FoundRel ρ (some (i, v)) (some (i, v'))

theorem findNow_rel {kind : TypeDesc} {k : Value} : ∀ {l l' : List MapEntry} (i : Nat), ERel ρ l l' → (∀ e, e ∈ l → closed e.key = true) →
    (Instr.findNow kind k l i = none ∧ Instr.findNow kind k l' i = none) ∨ ∃ r r', Instr.findNow kind k l i = some r ∧ Instr.findNow kind k l' i = some r' ∧ FoundRel ρ r r' := by
  intro l l' i h
  induction h generalizing i with
  | nil => intro _; exact .inr ⟨none, none, rfl, rfl, .none⟩
  | @cons e e' l l' he _ ih =>
    intro hc
    have hk : e'.key = e.key := closed_eq (hc e List.mem_cons_self) he.1
    simp only [Instr.findNow, hk]
    cases hs : Instr.sameNow kind k e.key with
    | none => exact .inl ⟨rfl, rfl⟩
    | some b =>
      cases b with
      | true => exact .inr ⟨_, _, rfl, rfl, .some i he.2.1⟩
      | false => exact ih (i + 1) fun x hx => hc x (List.mem_cons_of_mem _ hx)

theorem findAsking_rel {kt : TypeId} {k : Value} : ∀ {l l' : List MapEntry} (i : Nat) {r : Option (Nat × Value)}, ERel ρ l l' → (∀ e, e ∈ l → closed e.key = true) → pureRun P (Instr.findAsking kt k l i) = some r →
    ∃ r', pureRun P (Instr.findAsking kt k l' i) = some r' ∧ FoundRel ρ r r' := by
  intro l l' i r h
  induction h generalizing i with
  | nil => intro _ hp; simp only [Instr.findAsking] at hp ⊢; cases hp; exact ⟨none, rfl, .none⟩
  | @cons e e' l l' he _ ih =>
    intro hc hp
    have hk : e'.key = e.key := closed_eq (hc e List.mem_cons_self) he.1
    simp only [Instr.findAsking, hk, pureRun_bind, Option.bind_eq_some_iff] at hp ⊢
    obtain ⟨b, hb, hp⟩ := hp
    cases b with
    | true =>
      simp only [if_true] at hp
      cases hp
      exact ⟨some (i, e'.val), ⟨true, hb, rfl⟩, .some i he.2.1⟩
    | false =>
      simp only [Bool.false_eq_true, if_false] at hp
      obtain ⟨r', h1, h2⟩ := ih (i + 1) (fun x hx => hc x (List.mem_cons_of_mem _ hx)) hp
      exact ⟨r', ⟨false, hb, h1⟩, h2⟩

theorem pureRun_underlying {t : TypeId} : pureRun P (underlying t) = P.underlying t := by
  show pureRun P (program >>= _) = _
  rw [pureRun_bind]
  show (some P).bind _ = _
  simp only [Option.bind_some]
  cases P.underlying t <;> rfl

theorem findV_ok {kt : TypeId} {k k' : Value} {l l' : List MapEntry} {r : Option (Nat × Value)} (hk : VRel ρ k k') (h : ERel ρ l l') (hf : findV P kt k l = some r) :
    (k' = k ∧ ∀ e, e ∈ l → closed e.key = true) ∧ (∀ b w, (Instr.checkKey b 10000 kt k').run P w = .ok () w) ∧ ∃ r', (∀ w, (Instr.findKey kt k' l').run P w = .ok r' w) ∧ FoundRel ρ r r' := by
  unfold findV at hf
  cases hc : (closed k && l.all fun e => closed e.key) with
  | false => rw [hc] at hf; cases hf
  | true =>
    rw [hc] at hf
    simp only [Bool.and_eq_true, List.all_eq_true] at hc
    simp only [cond_true, Option.bind_eq_some_iff] at hf
    obtain ⟨u, h1, u2, h1', h2⟩ := hf
    have e := closed_eq hc.1 hk
    subst e
    refine ⟨⟨rfl, hc.2⟩, fun b w => ?_, ?_⟩
    · cases b
      · exact pureRun_run h1' w
      · exact pureRun_run h1 w
    · unfold Instr.findKey at h2 ⊢
      rw [pureRun_bind, pureRun_underlying] at h2
      cases hu : P.underlying kt with
      | none => rw [hu] at h2; cases h2
      | some d =>
        rw [hu] at h2
        simp only [Option.bind_some] at h2
        rcases findNow_rel (kind := d) (k := k') 0 h hc.2 with ⟨n1, n2⟩ | ⟨r1, r2, n1, n2, n3⟩
        · rw [n1] at h2
          obtain ⟨r', h3, h4⟩ := findAsking_rel 0 h hc.2 h2
          exact ⟨r', fun w => by simp [run_und hu, n2, pureRun_run h3 w], h4⟩
        · rw [n1] at h2
          cases h2
          exact ⟨r2, fun w => by simp [run_und hu, n2], n3⟩

theorem sim_findS {kt : TypeId} {k k' : Value} {es es' : Array MapEntry} {α' : Type} {R : Ren → α → α' → Prop} {f : Option (Nat × Value) → Sem α} {f' : Option (Nat × Value) → Sem α'} {b : Bool} (hk : VRel ρ k k') (h : EntriesRel ρ es es')
    (hf : (k' = k ∧ ∀ e, e ∈ es.toList → closed e.key = true) → ∀ r r', FoundRel ρ r r' → Sim P w0 R ρ (f r) (f' r')) :
    Sim P w0 R ρ (do let r ← findS P kt k es.toList; f r) (do Instr.checkKey b 10000 kt k'; let r ← Instr.findKey kt k' es'.toList; f' r) := by
  unfold findS
  cases hv : findV P kt k es.toList with
  | none => exact Sim.no fun _ _ h => h
  | some r =>
    obtain ⟨e, h1, r', h2, h3⟩ := findV_ok hk h.list hv
    exact Sim.right (h1 b) (Sim.right h2 (hf e r r' h3))

theorem newRel_map {ρ : Ren} {es : Array MapEntry} {clk : Nat} {o' : Obj} (h : NewRel ρ (.map es clk) o') : ∃ es', o' = .map es' clk ∧ EntriesRel ρ es es' := by
  cases h with
  | map _ he => exact ⟨_, rfl, he⟩

theorem EntriesRel.setKV {es es' : Array MapEntry} (h : EntriesRel ρ es es') (i : Nat) {k k' v v' : Value} (hk : VRel ρ k k') (hv : VRel ρ v v') : EntriesRel ρ (setKV es i k v) (es'.modify i fun e => { key := k', val := v', born := e.born }) := by
  unfold Go.Abs.setKV
  have hs := h.1
  split
  · rename_i e he
    refine ⟨by simp [hs], fun j u u' x x' => ?_⟩
    rw [Array.getElem?_setIfInBounds] at x
    rw [Array.getElem?_modify] at x'
    have hi : i < es.size := (Array.getElem?_eq_some_iff.1 he).1
    by_cases hij : i = j
    · rw [if_pos hij, if_pos hi] at x
      rw [if_pos hij] at x'
      cases x
      simp only [Option.map_eq_some_iff] at x'
      obtain ⟨e', he', rfl⟩ := x'
      subst hij
      exact ⟨hk, hv, (h.2 i e e' he he').2.2⟩
    · rw [if_neg hij] at x x'
      exact h.2 j u u' x x'
  · rename_i hn
    refine ⟨by simp [hs], fun j u u' x x' => ?_⟩
    rw [Array.getElem?_modify] at x'
    split at x'
    · rename_i hij; subst hij; rw [x] at hn; cases hn
    · exact h.2 j u u' x x'

theorem EntriesRel.setVal {es es' : Array MapEntry} (h : EntriesRel ρ es es') (i : Nat) {v v' : Value} (hv : VRel ρ v v') : EntriesRel ρ (setVal es i v) (es'.modify i fun e => { key := e.key, val := v', born := e.born }) := by
  unfold Go.Abs.setVal
  have hs := h.1
  split
  · rename_i e he
    refine ⟨by simp [hs], fun j u u' x x' => ?_⟩
    rw [Array.getElem?_setIfInBounds] at x
    rw [Array.getElem?_modify] at x'
    have hi : i < es.size := (Array.getElem?_eq_some_iff.1 he).1
    by_cases hij : i = j
    · rw [if_pos hij, if_pos hi] at x
      rw [if_pos hij] at x'
      cases x
      simp only [Option.map_eq_some_iff] at x'
      obtain ⟨e', he', rfl⟩ := x'
      subst hij
      have := h.2 i e e' he he'
      exact ⟨this.1, hv, this.2.2⟩
    · rw [if_neg hij] at x x'
      exact h.2 j u u' x x'
  · rename_i hn
    refine ⟨by simp [hs], fun j u u' x x' => ?_⟩
    rw [Array.getElem?_modify] at x'
    split at x'
    · rename_i hij; subst hij; rw [x] at hn; cases hn
    · exact h.2 j u u' x x'

/-- The rest of a look-up, the entries at hand. -/
def lookC (kt et : TypeId) (es : Array MapEntry) (k : Value) (ok : Bool) : Sem Value :=
  Instr.checkKey es.isEmpty 10000 kt k >>= fun _ => Instr.findKey kt k es.toList >>= fun r =>
    match r with
    | some (_, v) => Pure.pure (if ok then .tuple #[v, .bool true] else v)
    | none => zeroValue et >>= fun z => Pure.pure (if ok then .tuple #[z, .bool false] else z)

theorem lookC_run {t kt et : TypeId} (hu : P.underlying t = some (.map kt et)) (r : Nat) (k : Value) (ok : Bool) (w : World) :
    (Instr.lookup t (.map (some r)) k ok).run P w = (getObj r >>= fun o => match o with | .map es _ => lookC kt et es k ok | _ => stuck "Lookup: map expected").run P w := by
  simp only [Instr.lookup, Sem.run_bind, run_und hu, Result.andThen_ok]
  cases (getObj r).run P w with
  | halt => rfl
  | ok o w' =>
    cases o <;> simp [lookC]
    cases (Instr.checkKey _ 10000 kt k).run P w' with
    | halt => rfl
    | ok u w2 =>
      simp only [Result.andThen_ok]
      cases (Instr.findKey kt k _).run P w2 with
      | halt => rfl
      | ok r w3 => cases r <;> simp

theorem lookC_none {t kt et : TypeId} (hu : P.underlying t = some (.map kt et)) (k : Value) (ok : Bool) (w : World) :
    (Instr.lookup t (.map none) k ok).run P w = (lookC kt et #[] k ok).run P w := by
  simp only [Instr.lookup, Sem.run_bind, run_und hu, Result.andThen_ok, Sem.run_pure, lookC]
  cases (Instr.checkKey _ 10000 kt k).run P w with
  | halt => rfl
  | ok u w2 =>
    simp only [Result.andThen_ok]
    cases (Instr.findKey kt k _).run P w2 with
    | halt => rfl
    | ok r w3 => cases r <;> simp

theorem sim_lookC {kt et : TypeId} {es es' : Array MapEntry} {k k' : Value} {ok : Bool} (hk : VRel ρ k k') (he : EntriesRel ρ es es') : Sim P w0 VRel ρ
    (findS P kt k es.toList >>= fun r => match r with
          | some (_, v) => Pure.pure (bif ok then .tuple #[v, .bool true] else v)
          | none => zeroC P et >>= fun z => Pure.pure (bif ok then .tuple #[z, .bool false] else z))
    (lookC kt et es' k' ok) := by
  refine sim_findS hk he fun _ r r' hr => ?_
  cases hr with
  | none =>
    refine Sim.bind sim_zero fun ρ1 hl z z' hz => ?_
    obtain ⟨rfl, hc⟩ := hz
    refine Sim.pure fun ρ2 hl2 => ?_
    cases ok
    · exact closed_refl hc
    · exact .tuple' (.cons (closed_refl hc) (.cons (.bool _) .nil))
  | some i hv =>
    refine Sim.pure fun ρ2 hl2 => ?_
    cases ok
    · exact hv.mono hl2
    · exact .tuple' (.cons (hv.mono hl2) (.cons (.bool _) .nil))

theorem sim_lookup {t : TypeId} {m m' k k' : Value} {ok : Bool} (hm : VRel ρ m m') (hk : VRel ρ k k') : Sim P w0 VRel ρ (lookupS P t m k ok) (Instr.lookup t m' k' ok) := by
  unfold lookupS
  split
  case h_2 => exact Sim.stuck
  rename_i kt et hu
  unfold entriesS
  split
  · cases hm
    exact Sim.run_eq (lookC_none hu k' ok) (sim_lookC hk ⟨rfl, fun i e e' x => by simp at x⟩)
  · cases hm with
    | map hr =>
      refine Sim.run_eq (lookC_run hu _ k' ok) ?_
      rw [bind_assoc]
      refine Sim.bind (Sim.getObj hr) fun ρ1 hl o o' ho => ?_
      cases o with
      | map es clk =>
        obtain ⟨es', rfl, he⟩ := newRel_map ho.1
        exact sim_lookC (hk.mono hl) he
      | _ => exact Sim.no fun _ _ h => h
  · exact Sim.no fun _ _ h => h

theorem sameBits_pure (old new : Value) (w : World) (h : Instr.sameBits 10000 old new = true) : (Instr.keyThatStays old new).run P w = .ok new w := by
  unfold Instr.keyThatStays
  rw [if_pos h]; rfl

theorem sim_mapUpdate {t : TypeId} {m m' k k' v v' : Value} (hm : VRel ρ m m') (hk : VRel ρ k k') (hv : VRel ρ v v') : Sim P w0 (fun _ _ _ => True) ρ (mapUpdateS P t m k v) (Instr.mapUpdate t m' k' v') := by
  unfold mapUpdateS
  split
  case h_2 => exact Sim.stuck
  rename_i kt et r hu
  cases hm with
  | map hr =>
    rename_i r'
    refine Sim.run_eq (s1 := getObj r' >>= fun o => match o with
      | .map es clock => Instr.checkKey false 10000 kt k' >>= fun _ => Instr.findKey kt k' es.toList >>= fun f => (match f with
        | some (i, _) => Instr.keyThatStays (((es[i]?).map (·.key)).getD k') k' >>= fun key => setObj r' (.map (es.modify i fun e => { e with key, val := v' }) clock)
        | none => setObj r' (.map (es.push { key := k', val := v', born := clock }) (clock + 1)))
      | _ => stuck "MapUpdate: map expected") (fun w => ?_) ?_
    · simp only [Instr.mapUpdate, Sem.run_bind, run_und hu, Result.andThen_ok]
      cases (getObj r').run P w with
      | halt => rfl
      | ok o w' => cases o <;> first | rfl | (simp; done) | (simp; rfl)
    · refine Sim.bind (Sim.getObj hr) fun ρ1 hl o o' ho => ?_
      cases o with
      | map es clk =>
        obtain ⟨es', rfl, he⟩ := newRel_map ho.1
        have hk1 := hk.mono hl
        have hv1 := hv.mono hl
        have hr1 := hr.mono hl
        refine sim_findS hk1 he fun ⟨ek, hcl⟩ f f' hf => ?_
        subst ek
        cases hf with
        | none => exact Sim.setObj hr1 (.map _ (he.push ⟨hk1, hv1, rfl⟩))
        | some i hv2 =>
          cases hi : es[i]? with
          | none => exact Sim.no fun _ _ h => by simp [hi] at h; exact h
          | some e =>
            have hlt : i < es'.size := by rw [← he.1]; exact (Array.getElem?_eq_some_iff.1 hi).1
            have hi' : es'[i]? = some es'[i] := Array.getElem?_eq_getElem hlt
            have hee := he.2 i e _ hi hi'
            cases hb : Instr.sameBits 10000 e.key k' with
            | false => exact Sim.no fun _ _ h => by simp [hi, hb] at h; exact h
            | true =>
              simp only [hi, hb, cond_true, hi', Option.map_some, Option.getD_some]
              have hkey : es'[i].key = e.key := closed_eq (hcl e (List.mem_of_getElem? (by simpa using hi))) hee.1
              rw [hkey]
              refine Sim.right (fun w => sameBits_pure _ _ w hb) ?_
              exact Sim.setObj hr1 (.map _ (he.setKV i hk1 hv1))
      | _ => exact Sim.no fun _ _ h => h

theorem sim_mapEntry {t : TypeId} {m m' k k' : Value} (hm : VRel ρ m m') (hk : VRel ρ k k') : Sim P w0 VRel ρ (mapEntryS P t m k) (Instr.mapEntry t m' k') := by
  unfold mapEntryS
  split
  case h_2 => exact Sim.stuck
  rename_i kt et r hu
  cases hm with
  | map hr =>
    rename_i r'
    refine Sim.run_eq (s1 := getObj r' >>= fun o => match o with
      | .map es clock => Instr.checkKey false 10000 kt k' >>= fun _ => Instr.findKey kt k' es.toList >>= fun f => (match f with
        | some (i, v) => Instr.keyThatStays (((es[i]?).map (·.key)).getD k') k' >>= fun key => setObj r' (.map (es.modify i fun e => { e with key }) clock) >>= fun _ => Pure.pure (.tuple #[v, goInt (((es[i]?).map (·.born)).getD 0)])
        | none => zeroValue et >>= fun zero => setObj r' (.map (es.push { key := k', val := zero, born := clock }) (clock + 1)) >>= fun _ => Pure.pure (.tuple #[zero, goInt clock]))
      | _ => stuck "MapEntry: map expected") (fun w => ?_) ?_
    · simp only [Instr.mapEntry, Sem.run_bind, run_und hu, Result.andThen_ok]
      cases (getObj r').run P w with
      | halt => rfl
      | ok o w' => cases o <;> first | rfl | (simp; done) | (simp; rfl)
    · refine Sim.bind (Sim.getObj hr) fun ρ1 hl o o' ho => ?_
      cases o with
      | map es clk =>
        obtain ⟨es', rfl, he⟩ := newRel_map ho.1
        have hk1 := hk.mono hl
        have hr1 := hr.mono hl
        refine sim_findS hk1 he fun ⟨ek, hcl⟩ f f' hf => ?_
        subst ek
        cases hf with
        | none =>
          refine Sim.bind sim_zero fun ρ2 hl2 z z' hz => ?_
          obtain ⟨rfl, hc⟩ := hz
          refine Sim.bind (Sim.setObj (hr1.mono hl2) (.map _ ((he.mono hl2).push ⟨hk1.mono hl2, closed_refl hc, rfl⟩))) fun ρ3 hl3 _ _ _ => ?_
          exact Sim.pure fun ρ4 _ => .tuple' (.cons (closed_refl hc) (.cons (.int _ _) .nil))
        | some i hv2 =>
          simp only
          cases hi : es[i]? with
          | none => exact Sim.no fun _ _ h => by simp at h; exact h
          | some e =>
            have hlt : i < es'.size := by rw [← he.1]; exact (Array.getElem?_eq_some_iff.1 hi).1
            have hi' : es'[i]? = some es'[i] := Array.getElem?_eq_getElem hlt
            have hee := he.2 i e _ hi hi'
            cases hb : Instr.sameBits 10000 e.key k' with
            | false => exact Sim.no fun _ _ h => by simp [hb] at h; exact h
            | true =>
              simp only [hb, cond_true, hi', Option.map_some, Option.getD_some]
              have hkey : es'[i].key = e.key := closed_eq (hcl e (List.mem_of_getElem? (by simpa using hi))) hee.1
              rw [hkey]
              refine Sim.right (fun w => sameBits_pure _ _ w hb) ?_
              have hee' : EntriesRel ρ1 (setKV es i k' e.val) (es'.modify i fun x => { key := k', val := x.val, born := x.born }) := by
                have h1 := he.setKV i hk1 hee.2.1
                refine ⟨by have := h1.1; simpa using this, fun j u u' x x' => ?_⟩
                refine h1.2 j u u' x ?_
                rw [Array.getElem?_modify] at x' ⊢
                by_cases hij : i = j
                · subst hij
                  rw [if_pos rfl] at x' ⊢
                  rw [hi'] at x' ⊢
                  exact x'
                · rw [if_neg hij] at x' ⊢; exact x'
              refine Sim.bind (Sim.setObj hr1 (.map _ hee')) fun ρ3 hl3 _ _ _ => ?_
              refine Sim.pure fun ρ4 hl4 => .tuple' (.cons (hv2.mono (Ren.le_trans hl3 hl4)) (.cons ?_ .nil))
              rw [← hee.2.2]
              exact .int _ _
      | _ => exact Sim.no fun _ _ h => h

theorem bornAt_find : ∀ (l : List MapEntry) (b : Int) (i j : Nat), bornAt l b i = some j → i ≤ j ∧ l.findIdx? (fun e => (e.born : Int) == b) = some (j - i)
  | [], _, _, _, h => by simp [bornAt] at h
  | e :: l, b, i, j, h => by
    simp only [bornAt] at h
    rw [List.findIdx?_cons]
    by_cases hb : (e.born : Int) = b
    · have : (leI e.born b && leI b e.born) = true := by simp [leI, hb]
      rw [this] at h
      simp only [cond_true, Option.some.injEq] at h
      subst h
      simp [hb]
    · have : (leI e.born b && leI b e.born) = false := by
        cases hx : (leI e.born b && leI b e.born) with
        | false => rfl
        | true => simp only [Bool.and_eq_true, leI_iff] at hx; omega
      rw [this] at h
      obtain ⟨h1, h2⟩ := bornAt_find l b (i + 1) j h
      have hne : ((e.born : Int) == b) = false := by simp [hb]
      rw [hne, h2]
      simp only [Bool.false_eq_true, if_false, Option.map_some]
      exact ⟨by omega, by congr 1; omega⟩

theorem ERel.findIdx {l l' : List MapEntry} (h : ERel ρ l l') (b : Int) : l'.findIdx? (fun e => (e.born : Int) == b) = l.findIdx? (fun e => (e.born : Int) == b) := by
  induction h with
  | nil => rfl
  | cons h _ ih => simp only [List.findIdx?_cons, h.2.2, ih]

theorem sim_entryStore {t : TypeId} {m m' s s' v v' : Value} (hm : VRel ρ m m') (hs : VRel ρ s s') (hv : VRel ρ v v') : Sim P w0 (fun _ _ _ => True) ρ (entryStoreS m s v) (Instr.entryStore t m' s' v') := by
  unfold entryStoreS
  split
  case h_2 => exact Sim.stuck
  rename_i r k b
  cases hs
  cases hm with
  | map hr =>
    rename_i r'
    refine Sim.run_eq (s1 := getObj r' >>= fun o => match o with
      | .map es clock => (match es.findIdx? (fun e => (e.born : Int) == b) with
        | some i => setObj r' (.map (es.modify i fun e => { e with val := v' }) clock)
        | none => unsupported (.noEntry "instr/MapEntry.the entry is gone"))
      | _ => stuck "entryStore: map expected") (fun w => ?_) ?_
    · simp only [Instr.entryStore, Sem.run_bind]
      cases (getObj r').run P w with
      | halt => rfl
      | ok o w' => cases o <;> first | rfl | (simp [asInt, asIntOf]; done) | (simp [asInt, asIntOf]; rfl)
    · refine Sim.bind (Sim.getObj hr) fun ρ1 hl o o' ho => ?_
      cases o with
      | map es clk =>
        obtain ⟨es', rfl, he⟩ := newRel_map ho.1
        simp only
        cases hb : bornAt es.toList b 0 with
        | none => exact Sim.stuck
        | some i =>
          have h2 := (bornAt_find _ _ _ _ hb).2
          rw [← he.list.findIdx b, Nat.sub_zero] at h2
          have h3 : es'.findIdx? (fun e => (e.born : Int) == b) = some i := by
            obtain ⟨l⟩ := es'
            simpa using h2
          rw [h3]
          exact Sim.setObj (hr.mono hl) (.map _ (he.setVal i (hv.mono hl)))
      | _ => exact Sim.no fun _ _ h => h

theorem ERel.eraseIdx {l l' : List MapEntry} (h : ERel ρ l l') : ∀ i, ERel ρ (l.eraseIdx i) (l'.eraseIdx i) := by
  induction h with
  | nil => intro i; exact .nil
  | cons h t ih => intro i; cases i with
    | zero => exact t
    | succ i => exact .cons h (ih i)

theorem sim_delete {ts : Array TypeId} {ty : TypeId} {m m' k k' : Value} {args' : Array Value} (h0 : args'[0]? = some m') (h1 : args'[1]? = some k') (hm : VRel ρ m m') (hk : VRel ρ k k') :
    Sim P w0 VRel ρ (deleteS P ts[0]? (some m) (some k)) (Builtin.delete_ ts ty args') := by
  unfold deleteS
  split
  case h_2 => exact Sim.stuck
  rename_i kt et r k0 hu hm0 hk0
  cases hm0; cases hk0
  cases ht : ts[0]? with
  | none => rw [ht] at hu; simp at hu
  | some t =>
    rw [ht] at hu
    simp only [Option.bind_some] at hu
    cases hm with
    | map hr =>
      rename_i r'
      refine Sim.run_eq (s1 := getObj r' >>= fun o => match o with
        | .map es clock => Instr.checkKey es.isEmpty 10000 kt k' >>= fun _ => Instr.findKey kt k' es.toList >>= fun f => (match f with
          | some (i, _) => setObj r' (.map (es.eraseIdxIfInBounds i) clock) >>= fun _ => Pure.pure (.tuple #[])
          | none => setObj r' (.map es clock) >>= fun _ => Pure.pure (.tuple #[]))
        | _ => stuck "delete: map expected") (fun w => ?_) ?_
      · simp only [Builtin.delete_, ht, h0, h1, Sem.run_bind, run_und hu, Result.andThen_ok]
        cases (getObj r').run P w with
        | halt => rfl
        | ok o w' =>
          cases o <;> first | rfl | (simp; done) | skip
          all_goals
            simp
            cases (Instr.checkKey _ 10000 kt k').run P w' with
            | halt => rfl
            | ok u w2 =>
              simp only [Result.andThen_ok]
              cases (Instr.findKey kt k' _).run P w2 with
              | halt => rfl
              | ok r w3 => cases r <;> simp
      · refine Sim.bind (Sim.getObj hr) fun ρ1 hl o o' ho => ?_
        cases o with
        | map es clk =>
          obtain ⟨es', rfl, he⟩ := newRel_map ho.1
          refine sim_findS (hk.mono hl) he fun _ f f' hf => ?_
          cases hf with
          | none => exact Sim.bind (Sim.setObj (hr.mono hl) (.map _ he)) fun ρ3 hl3 _ _ _ => Sim.pure fun _ _ => .tuple' .nil
          | some i hv2 =>
            have : EntriesRel ρ1 (es.toList.eraseIdx i).toArray (es'.eraseIdxIfInBounds i) := ERel.arr (by
              have := he.list.eraseIdx i
              simpa using this)
            exact Sim.bind (Sim.setObj (hr.mono hl) (.map _ this)) fun ρ3 hl3 _ _ _ => Sim.pure fun _ _ => .tuple' .nil
        | _ => exact Sim.no fun _ _ h => h

end
end Go.Abs
