/-
  TapNumbers: for every input the law returns true, and each argument reads behind the call as it read before. CONDITIONS: the row's own (its cells). The walk is by a verified symbolic executor (the texts ..Ab..).
-/
import Derived.Test.YtkfoibidnkfndaaGreatDoorTpD9
import Derived.Test.YtkfoibidnkfndaaGreatDoorAbS19
import Derived.Test.YtkfoibidnkfndaaGreatDoorRows
import Derived.Test.YtkfoibidnkfndaaGreatDoorCards
import Derived.Test.YtkfoibidnkfndaaGreatDoorTie
import Derived.WalkKit
import Derived.ProofKit
import Derived.OpenShut
import Derived.Deep.DeepHandedRow
import Derived.Lib.LaidTab
set_option linter.unusedSimpArgs false
set_option linter.unusedVariables false
namespace Go.Proofs.YtkfoibidnkfndaaGreatDoor.tapNumbers
open Go.ChangeShapes Go.WideShapes Go.ChangeAt Go.RowKit Go.Abs
theorem cellsOf3 : Tryz.prog.cellsOf 3 = 1 := by kernel_rfl
theorem bytesOf3 : 0 < Tryz.prog.bytesOf 3 := of_decide_eq_true (by kernel_rfl)
theorem cellsOf27 : Tryz.prog.cellsOf 27 = 1 := by kernel_rfl
theorem bytesOf27 : 0 < Tryz.prog.bytesOf 27 := of_decide_eq_true (by kernel_rfl)
theorem laidOut : laidOutB Tryz.prog = true := by kernel_rfl

set_option maxRecDepth 100000 in
theorem contract (H : Type) (enc : TypeId × Value → H) (W : World) (base : Nat) (args : Array Value) (ds gs : List (DataW H)) (before : List MemPlace)
    (hval : ∀ (j : Nat) t v, Tryz.f9.params[j]? = some t → args[j]? = some v → Value.okWide Tryz.prog W .any base t v)
    (hW : DataW.Whole enc Tryz.prog Tryz.f9.params.toList Rows.tapNumbersSpec.vars false W args.toList ds gs before)
    (hsz : (DataW.weightsEach Tryz.prog (Tryz.f9.params.toList ++ (OpenSpec.ofChange Rows.tapNumbersSpec).bare.plain.varTypes Tryz.prog) (ds ++ gs)).all (· ≤ reachBytes) = true) :
    Calls Tryz.prog 9 args W fun e W' => ∃ v, e = .returned v ∧ Rows.tapNumbersSpec.post enc Tryz.prog Tryz.f9 false true false false W args v W' := by
  have hW' := hW
  obtain ⟨p, q, hA0, hV, rfl, hfz, hnd⟩ := hW
  have hA : DataW.TrodAll enc Tryz.prog W 0 (fun _ => true) true Tryz.f9.params.toList args.toList ds p := hA0
  have hnds : ds.length = 3 := by
    rw [Tryz.params9] at hA
    have : ∀ {ts vs} {ds : List (DataW H)} {p}, DataW.TrodAll enc Tryz.prog W 0 (fun _ => true) true ts vs ds p → ds.length = ts.length := by
      intro ts
      induction ts with
      | nil => intro vs ds p h; cases vs <;> cases ds <;> first | rfl | exact h.elim
      | cons t ts ih => intro vs ds p h; cases vs with
        | nil => cases ds <;> exact h.elim
        | cons v vs => cases ds with
          | nil => exact h.elim
          | cons d ds => obtain ⟨_, _, _, h2, _⟩ := h; simp [ih h2]
    exact this hA
  rw [Tryz.params9] at hA hval hsz
  obtain ⟨v0, vs0, d0, ds0, p0, q0, hargs, rfl, rfl, h0, r0⟩ := trodAll_cons hA
  obtain ⟨v1, vs1, d1, ds1, p1, q1, rfl, rfl, rfl, h1, r1⟩ := trodAll_cons r0
  obtain ⟨v2, vs2, d2, ds2, p2, q2, rfl, rfl, rfl, h2, r2⟩ := trodAll_cons r1
  obtain ⟨rfl, rfl, rfl⟩ := trodAll_nil r2
  obtain rfl : args = #[v0, v1, v2] := by cases args; simp_all
  obtain ⟨rfl, rfl⟩ := trodVars_none hV
  obtain ⟨o0, c0, l0, rfl, s0, w0, z0, g0⟩ := in_ints_le Tryz.underlying27 Tryz.underlying3 cellsOf3 (hval 0 27 v0 rfl rfl) h0
  obtain ⟨o1, c1, l1, rfl, s1, w1, z1, g1⟩ := in_ints_le Tryz.underlying27 Tryz.underlying3 cellsOf3 (hval 1 27 v1 rfl rfl) h1
  obtain ⟨xa2, xb2, xc2, rfl⟩ := open_arr3 Tryz.underlying32 Tryz.underlying3 (by kernel_rfl) (by kernel_rfl) (hval 2 32 v2 rfl rfl)
  have b0 : l0.length ≤ reachBytes := by
    rcases z0 with h | ⟨el, sp, hd, hle⟩
    · omega
    · have h1 := sized_slice hsz (j := 0) (t := 27) (e := 3) (elems := el) (spare := sp) (by rfl) (by simp [hd]) Tryz.underlying27
      have h2 := bytesOf3
      have h3 : el.length + sp.length ≤ (el.length + sp.length) * Tryz.prog.bytesOf 3 := Nat.le_mul_of_pos_right _ h2
      omega
  have b1 : l1.length ≤ reachBytes := by
    rcases z1 with h | ⟨el, sp, hd, hle⟩
    · omega
    · have h1 := sized_slice hsz (j := 1) (t := 27) (e := 3) (elems := el) (spare := sp) (by rfl) (by simp [hd]) Tryz.underlying27
      have h2 := bytesOf3
      have h3 : el.length + sp.length ≤ (el.length + sp.length) * Tryz.prog.bytesOf 3 := Nat.le_mul_of_pos_right _ h2
      omega
  obtain ⟨h, ρ, os, hr, hg, hpn, wf, hrow⟩ := start_slices_at W Tryz.prog.globals.size [(o0, l0.map (Value.int .i64)), (o1, l1.map (Value.int .i64))] (fun x hx => by
    simp only [List.mem_cons, List.not_mem_nil, or_false] at hx
    rcases hx with rfl | rfl
    · exact s0
    · exact s1)
  obtain ⟨hv0, he0, hsp0⟩ := hrow 0 _ rfl
  obtain ⟨hv1, he1, hsp1⟩ := hrow 1 _ rfl
  have hlaw := Go.Proofs.YtkfoibidnkfndaaGreatDoor.tapNumbers W h (os 0) (os 1) c0 c1 l0 l1 xa2 xb2 xc2 wf hpn he0 he1 hsp0 g0 (by simp only [reachBytes] at b0; omega) (by simp only [reachBytes] at b1; omega) (fun v _ => isTrueV v) (fun _ => rfl)
  have hcalls := true_of_top (W := W) hlaw hg hr (args' := #[.slice o0 l0.length c0, .slice o1 l1.length c1, .agg #[.int .i64 xa2, .int .i64 xb2, .int .i64 xc2]]) (LRel.arr (show LRel ρ [.slice (os 0) l0.length c0, .slice (os 1) l1.length c1, .agg #[.int .i64 xa2, .int .i64 xb2, .int .i64 xc2]] [.slice o0 l0.length c0, .slice o1 l1.length c1, .agg #[.int .i64 xa2, .int .i64 xb2, .int .i64 xc2]] from (.cons (hv0 _ _) (.cons (hv1 _ _) (.cons vrel_arr3 .nil)))))
  refine hcalls.mono fun e W' ⟨he, hb⟩ => ?_
  subst he
  exact ⟨_, rfl, post_below (pv := []) hW' hb (fun _ _ _ => trodAll_cons_mk (shut_bool Tryz.underlying4 _) trodAll_mk0)
    (fun sp hsp => (trodAll_cons_mk (carry laidOut (by kernel_rfl) (of_decide_eq_true (by kernel_rfl)) h0 hb (fun x hx => hW'.lt x (by simp [hx])) fun x hx => hsp x (by simp [hx])) (trodAll_cons_mk (carry laidOut (by kernel_rfl) (of_decide_eq_true (by kernel_rfl)) h1 hb (fun x hx => hW'.lt x (by simp [hx])) fun x hx => hsp x (by simp [hx])) (trodAll_cons_mk (carry laidOut (by kernel_rfl) (of_decide_eq_true (by kernel_rfl)) h2 hb (fun x hx => hW'.lt x (by simp [hx])) fun x hx => hsp x (by simp [hx])) trodAll_mk0))))
    (fun _ _ => rfl) rfl (ok_one (by kernel_rfl) rfl (okWide_bool_mk Tryz.underlying4 _))⟩
end Go.Proofs.YtkfoibidnkfndaaGreatDoor.tapNumbers
