/- The abstract machine, part 15: operations and regions against the calculus. -/
import Derived.Test.YtkfoibidnkfndaaGreatDoorAbA13
set_option linter.unusedSimpArgs false
namespace Go.Abs
open Go.RowKit

section
variable {P : Program} {w0 : World}

theorem defer_next {ev : Operand → Value} {o : Oper} {c : Call} (ho : o.op = .defer c) {w w' : World} {nx : Next} (h : (execOp ev o).run P w = .ok nx w') : ∃ d, nx = .defer d := by
  simp only [execOp, ho, Sem.run_bind] at h
  cases hd : (resolve ev c o.type).run P w with
  | ok d w1 => rw [hd] at h; simp at h; exact ⟨d, h.1.symm⟩
  | halt x w1 => rw [hd] at h; simp [Result.andThen] at h

theorem op1_in {X : Exts} {L : Lvl} (hX : ExtOK P X) (hL : Sound P w0 L) {G : Nat} {rd rd' : Option Nat} {o : Oper} {a a' : Act} {h : Heap} {w : World} {ρ : Ren} {K : Act → Heap → Prop} {K' : Act → World → Prop} {Q' : Exit → Act → World → Prop}
    (hok : okOp G o.op = true) (hgG : GRel G ρ) (hg : GRel P.globals.size ρ) (hrd : RdRel ρ rd rd') (hr : HRel w0 ρ h w) (ha : ActRel ρ a a') (hk : KRel w0 ρ h K K') (hq : aOp1 P X L rd o a h K) : o.wpIn (fence rd') 0 P a' w K' Q' := by
  refine ⟨fun f _ => fence_fn rd' f, ?_⟩
  unfold aOp1 at hq
  obtain ⟨ρ2, nx, nx', h', w', x1, x2, x3, x4, x5, x6⟩ := op_out hX (ha.eval hgG) hok hr hq
  rw [fence_round]
  have plain : (∀ d, nx' ≠ .defer d) → (o.semAt rd' a'.eval).run P w = .ok nx' w' := fun hnd => by
    rw [Oper.semAt_eq rd' a'.eval o fun c hc => by
      obtain ⟨d, hd⟩ := defer_next hc x2
      exact hnd d hd]
    exact x2
  cases x3 with
  | value hv =>
    rw [plain (by simp)]
    exact hk ρ2 _ _ h' w' x1 x4 ((ha.mono x1).put o.dst hv) x5 x6
  | skip =>
    rw [plain (by simp)]
    exact hk ρ2 _ _ h' w' x1 x4 ((ha.mono x1).put o.dst undef_rel) x5 x6
  | defer hd =>
    cases hrd with
    | some _ => exact x6.elim
    | none =>
      rw [Oper.semAt_none, x2]
      exact hk ρ2 _ _ h' w' x1 x4 (((ha.mono x1).defer hd).put o.dst undef_rel) x5 x6
  | enter f hargs =>
    rw [plain (by simp)]
    refine ⟨fun hd => (by rw [fence_depth] at hd; cases hd), callsIn_fence ?_⟩
    refine (hL.call f _ _ h' w' ρ2 _ (hg.mono x1) x4 hargs x6).mono fun e w2 he => ?_
    obtain ⟨v, v', ρ3, h3, rfl, y1, y2, y3, y4, y5⟩ := he
    exact hk ρ3 _ _ h3 w2 (Ren.le_trans x1 y1) y2 ((ha.mono (Ren.le_trans x1 y1)).put o.dst y3) (x5.trans y4) y5
  | round hl ht hok' =>
    rw [plain (by simp)]
    refine ⟨fun hd => (by rw [fence_depth] at hd; cases hd), roundIn_fence ?_⟩
    refine (round_in hL x4 (hg.mono x1) hl ht hok' x6).mono fun e w2 he => ?_
    obtain ⟨v, v', ρ3, h3, rfl, y1, y2, y3, y4, y5⟩ := he
    exact hk ρ3 _ _ h3 w2 (Ren.le_trans x1 y1) y2 ((ha.mono (Ren.le_trans x1 y1)).put o.dst y3) (x5.trans y4) y5

theorem at_in {X : Exts} {L : Lvl} (hX : ExtOK P X) (hL : Sound P w0 L) {G : Nat} {rd rd' : Option Nat} {ops : Array Oper} {i : Nat} {a a' : Act} {h : Heap} {w : World} {ρ : Ren} {K : Act → Heap → Prop} {K' : Act → World → Prop} {Q' : Exit → Act → World → Prop}
    (hok : ∀ o, o ∈ ops.toList → okOp G o.op = true) (hgG : GRel G ρ) (hg : GRel P.globals.size ρ) (hrd : RdRel ρ rd rd') (hr : HRel w0 ρ h w) (ha : ActRel ρ a a') (hk : KRel w0 ρ h K K') (hq : aAt P X L rd ops i K a h) : wpOpIn (fence rd') 0 P ops Q' i K' a' w := by
  unfold aAt at hq
  unfold wpOpIn
  cases ho : ops[i]? with
  | none =>
    rw [ho] at hq
    exact hk ρ _ _ h w (Ren.le_refl _) hr ha (Keep.refl _) hq
  | some o =>
    rw [ho] at hq
    simp only at hq ⊢
    have hmem : o ∈ ops.toList := by simpa using Array.mem_of_getElem? ho
    rw [wanted_rel ha.tmps]
    cases hw : Region.wanted o (yielded ops a.tmps) with
    | true =>
      rw [hw] at hq
      rw [if_pos rfl]
      exact op1_in hX hL (hok o hmem) hgG hg hrd hr ha hk hq
    | false =>
      rw [hw] at hq
      rw [if_neg (by simp)]
      exact ⟨fun f _ => fence_fn rd' f, hk ρ _ _ h w (Ren.le_refl _) hr (ha.put o.dst undef_rel) (Keep.refl _) hq⟩

theorem ops_in {X : Exts} {L : Lvl} (hX : ExtOK P X) (hL : Sound P w0 L) {G : Nat} {rd rd' : Option Nat} {ops : Array Oper} {Q : Exit → Act → Heap → Prop} {Q' : Exit → Act → World → Prop} (hok : ∀ o, o ∈ ops.toList → okOp G o.op = true) :
    ∀ (l : List Nat) (a a' : Act) (h : Heap) (w : World) (ρ : Ren), GRel G ρ → GRel P.globals.size ρ → RdRel ρ rd rd' → HRel w0 ρ h w → ActRel ρ a a' → QRel w0 ρ h Q Q' → aOps P X L rd ops Q l a h → wpOpsIn (fence rd') 0 P ops Q' l a' w
  | [], a, a', h, w, ρ, hgG, hg, hrd, hr, ha, hk, hq => hk .normal trivial ρ a a' h w (Ren.le_refl _) hr ha (Keep.refl _) hq
  | i :: l, a, a', h, w, ρ, hgG, hg, hrd, hr, ha, hk, hq => by
    rw [wpOpsIn_cons]
    refine at_in hX hL hok hgG hg hrd hr ha ?_ hq
    intro ρ2 a2 a2' h2 w2 hl2 hr2 ha2 hk2 hq2
    exact ops_in hX hL hok l a2 a2' h2 w2 ρ2 (hgG.mono hl2) (hg.mono hl2) (hrd.mono hl2) hr2 ha2 (hk.from hl2 hk2) hq2

/-! ### Regions in a drawn order -/

/-- What a load reads, and what it comes to wherever those cells are the same. -/
def Loaded (P : Program) (w0 : World) (t : TypeId) (ad : Addr) (h : Heap) (F : Value → Heap → Prop) : Prop :=
    ∃ v, F v h ∧ (∀ x, x ∈ loadsOf P t ad → ∃ u, h.cell? x = some u) ∧ ∀ (ρ : Ren) (h2 : Heap) (w2 : World) (ad' : Addr), HRel w0 ρ h2 w2 → PRel ρ ad ad' → (∀ x, x ∈ loadsOf P t ad → ∀ u, h.cell? x = some u → h2.cell? x = some u) →
      ∃ v', VRel ρ v v' ∧ (loadVar t ad').run P w2 = .ok v' w2

theorem loadS_inv {t : TypeId} {ad : Addr} {h : Heap} {F : Value → Heap → Prop} (hq : aSem P (loadS P t ad) h F) : Loaded P w0 t ad h F := by
  have agg : ∀ {n : Nat} {d : TypeDesc}, P.underlying t = some d → aggT d = true → sizeV P t = some n → aSem P (loadList ad n 0) h (fun l h' => F (.agg l.toArray) h') →
      (∀ x, x ∈ (List.range n).map (fun k => ad.add k) ↔ x ∈ loadsOf P t ad) → Loaded P w0 t ad h F := by
    intro n d hu hd hn hq hmem
    obtain ⟨l, h1, h2, h3⟩ := loadList_inv hq
    refine ⟨.agg l.toArray, h1, fun x hx => ?_, fun ρ h4 w4 ad' hr4 ha4 hc4 => ?_⟩
    · rw [← hmem, List.mem_map] at hx
      obtain ⟨k, hk, rfl⟩ := hx
      have hk' : k < l.length := by rw [h2]; exact List.mem_range.1 hk
      have := h3 k l[k] (List.getElem?_eq_getElem hk')
      rw [Nat.zero_add] at this
      exact ⟨_, this⟩
    · have h5 : ∀ (j : Nat) (v : Value), l[j]? = some v → h4.cell? (ad.add (0 + j)) = some v := by
        intro j v hj
        have hlt : j < n := by rw [← h2]; exact (List.getElem?_eq_some_iff.1 hj).1
        refine hc4 _ ?_ _ (h3 j v hj)
        rw [← hmem, List.mem_map]
        exact ⟨j, List.mem_range.2 hlt, by rw [Nat.zero_add]⟩
      obtain ⟨l', h6, h7⟩ := cells_images hr4 ha4 l 0 h5
      refine ⟨.agg l'.toArray, .agg' (by simpa using h6), ?_⟩
      have hrun : (loadCells ad' n).run P w4 = .ok l'.toArray w4 := by
        have : n = l'.length := by rw [← h6.length, h2]
        rw [this]
        exact run_loadCells_list w4 ad' l' fun j v hj => by simpa using h7 j v hj
      simp only [loadVar, Sem.run_bind, run_isAgg hu, hd, Result.andThen_ok, if_true, run_size hn, hrun]
      rfl
  unfold loadS at hq
  split at hq
  · rename_i fs hu
    rw [aSem_bind] at hq
    unfold sizeS at hq
    split at hq
    · rename_i n hn
      change aSem P (loadList ad n 0 >>= fun l => Pure.pure (.agg l.toArray)) h F at hq
      rw [aSem_bind] at hq
      exact agg hu rfl hn hq (fun x => by simp only [loadsOf, hu, hn, Option.getD_some])
    · exact hq.elim
  · rename_i m e hu
    rw [aSem_bind] at hq
    unfold sizeS at hq
    split at hq
    · rename_i n hn
      change aSem P (loadList ad n 0 >>= fun l => Pure.pure (.agg l.toArray)) h F at hq
      rw [aSem_bind] at hq
      exact agg hu rfl hn hq (fun x => by simp only [loadsOf, hu, hn, Option.getD_some])
    · exact hq.elim
  · rename_i d h1 h2 hu
    have hl : loadsOf P t ad = [ad] := by
      unfold loadsOf
      rw [hu]
      cases d <;> first | rfl | (exact (h1 _ rfl).elim) | (exact (h2 _ _ rfl).elim)
    have hd : aggT d = false := by
      cases d <;> first | rfl | (exact (h1 _ rfl).elim) | (exact (h2 _ _ rfl).elim)
    simp only [Go.load, aSem] at hq
    split at hq
    · rename_i v hv
      refine ⟨v, hq, fun x hx => ?_, fun ρ h4 w4 ad' hr4 ha4 hc4 => ?_⟩
      · rw [hl, List.mem_singleton] at hx
        subst hx
        exact ⟨v, hv⟩
      · have h5 := hc4 ad (by rw [hl]; exact List.mem_singleton.2 rfl) v hv
        obtain ⟨v', h6, h7⟩ := hr4.cell ha4 h5
        refine ⟨v', h7, ?_⟩
        simp only [loadVar, Sem.run_bind, run_isAgg hu, hd, Result.andThen_ok]
        simp [h6]
    · exact hq.elim
  · exact hq.elim

end
end Go.Abs
