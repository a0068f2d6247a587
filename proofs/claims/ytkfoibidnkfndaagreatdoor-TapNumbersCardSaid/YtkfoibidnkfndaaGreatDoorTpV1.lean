import Derived.Test.YtkfoibidnkfndaaGreatDoorTpBase
set_option linter.unusedSimpArgs false
set_option linter.unusedVariables false
set_option maxRecDepth 100000
namespace Go.Proofs.YtkfoibidnkfndaaGreatDoor
open Go.Abs
noncomputable def vc4H : Hints := { loops := [{ f := 4, p := [0, 1, 0, 1, 1, 1, 1, 1], unroll := 0, keepH := true, live := [9], cells := [] }], calls := [17, 18, 16] }
def vc4P (w0 : World) (R : Value → Heap → Prop) (h0 : Heap) (o1 : Option Addr) (n2 : Nat) (n3 : Nat) (o4 : Option Addr) (n5 : Nat) (n6 : Nat) : Prop :=
 InK .i64 ((↑n2 : Int) + (↑n5 : Int)) ∧
 ((((↑n2 : Int) + (↑n5 : Int)) > 20000) →
   (top P w0).call 16 #[] h0 fun v9 h8 =>
    ∃ (b7 : Bool), v9 = (.bool b7) ∧
    R (.bool b7) h8) ∧
 (¬ (((↑n2 : Int) + (↑n5 : Int)) > 20000) →
   (top P w0).call 17 #[(.slice o1 n2 n3), (.slice o4 n5 n6)] h0 fun v12 h11 =>
    ∃ (o7 : Option Addr) (n8 : Nat) (n9 : Nat) (x10 : Int), v12 = (.tuple #[(.slice o7 n8 n9), (.int .i64 x10)]) ∧
    (top P w0).call 18 #[(.slice o1 n2 n3), (.slice o4 n5 n6)] h11 fun v17 h16 =>
     ∃ (o12 : Option Addr) (n13 : Nat) (n14 : Nat) (x15 : Int), v17 = (.tuple #[(.slice o12 n13 n14), (.int .i64 x15)]) ∧
     ((¬ (↑n8 : Int) = (↑n13 : Int)) →
       R (.bool false) h16) ∧
     (¬ (¬ (↑n8 : Int) = (↑n13 : Int)) →
       ((¬ x10 = x15) →
         R (.bool false) h16) ∧
       (¬ (¬ x10 = x15) →
         ∃ I17 : Nat → Int → Prop, (∃ j, I17 j 0) ∧ ∀ j17, ∀ (x17 : Int), I17 j17 x17 → ∀ d18 : Nat → Value,
          ((x17 < (↑n8 : Int)) →
            Option.isSome o7 = true ∧
            x17 ≥ 0 ∧
            x17 < (↑n8 : Int) ∧
            Option.isSome o7 = true ∧
            ∃ (x19 : Int) (x20 : Int) (x21 : Int), ldCells h16 (elt o7 (Int.toNat (x17 * 3))) 3 = some (.agg #[(.int .i64 x19), (.int .i64 x20), (.int .i64 x21)]) ∧
            Option.isSome o12 = true ∧
            x17 ≥ 0 ∧
            x17 < (↑n13 : Int) ∧
            Option.isSome o12 = true ∧
            ∃ (x22 : Int) (x23 : Int) (x24 : Int), ldCells h16 (elt o12 (Int.toNat (x17 * 3))) 3 = some (.agg #[(.int .i64 x22), (.int .i64 x23), (.int .i64 x24)]) ∧
            ∃ (b25 : Bool), binW P .neq 32 (.tmp 48) (.tmp 52) (.agg #[(.int .i64 x19), (.int .i64 x20), (.int .i64 x21)]) (.agg #[(.int .i64 x22), (.int .i64 x23), (.int .i64 x24)]) = some (.bool b25) ∧
            ((b25 = true) →
              R (.bool false) h16) ∧
            (¬ (b25 = true) →
              InK .i64 (x17 + 1) ∧
              ∃ j', j' < j17 ∧ I17 j' (x17 + 1))) ∧
          (¬ (x17 < (↑n8 : Int)) →
            (top P w0).call 16 #[] h16 fun v21 h20 =>
             ∃ (b19 : Bool), v21 = (.bool b19) ∧
             R (.bool b19) h20))))
theorem vc4a (w0 : World) (R : Value → Heap → Prop) (h0 : Heap) (o1 : Option Addr) (n2 : Nat) (n3 : Nat) (o4 : Option Addr) (n5 : Nat) (n6 : Nat) : ((top P w0).call 4 (([(.slice (.ov 1) (.nv 2) (.nv 3)), (.slice (.ov 4) (.nv 5) (.nv 6))] : List SV).map (SV.den [.h h0, .o o1, .n n2, .n n3, .o o4, .n n5, .n n6])).toArray (Env.h [.h h0, .o o1, .n n2, .n n3, .o o4, .n n5, .n n6] 0) R) = ((top P w0).call 4 #[(.slice o1 n2 n3), (.slice o4 n5 n6)] h0 R) := by kernel_rfl
theorem vc4b (w0 : World) (R : Value → Heap → Prop) (h0 : Heap) (o1 : Option Addr) (n2 : Nat) (n3 : Nat) (o4 : Option Addr) (n5 : Nat) (n6 : Nat) : (Tree.den P (top P w0) R tc0 [.h h0, .o o1, .n n2, .n n3, .o o4, .n n5, .n n6] (vcT P exts vc4H 100000 4 [(.slice (.ov 1) (.nv 2) (.nv 3)), (.slice (.ov 4) (.nv 5) (.nv 6))] 0 (List.length ([.h h0, .o o1, .n n2, .n n3, .o o4, .n n5, .n n6] : Env)))) = (vc4P w0 R h0 o1 n2 n3 o4 n5 n6) := by kernel_rfl
theorem vc4 (w0 : World) (R : Value → Heap → Prop) (h0 : Heap) (o1 : Option Addr) (n2 : Nat) (n3 : Nat) (o4 : Option Addr) (n5 : Nat) (n6 : Nat) (hyp : vc4P w0 R h0 o1 n2 n3 o4 n5 n6) : (top P w0).call 4 #[(.slice o1 n2 n3), (.slice o4 n5 n6)] h0 R :=
  vc_eq extOK (vc4b w0 R h0 o1 n2 n3 o4 n5 n6) hyp (vc4a w0 R h0 o1 n2 n3 o4 n5 n6)
noncomputable def vc55_56H : Hints := { loops := [{ f := 110, p := [0, 1, 0, 1], unroll := 0, keepH := true, live := [8], cells := [] }], calls := [] }
def vc55_56P (w0 : World) (R : Value → Heap → Prop) (h0 : Heap) (o1 : Option Addr) (n2 : Nat) (n3 : Nat) : Prop :=
 ∃ I4 : Nat → Int → Prop, (∃ j, I4 j 0) ∧ ∀ j4, ∀ (x4 : Int), I4 j4 x4 → ∀ d5 : Nat → Value,
  ((x4 < (↑n2 : Int)) →
    Option.isSome o1 = true ∧
    x4 ≥ 0 ∧
    x4 < (↑n2 : Int) ∧
    Option.isSome o1 = true ∧
    ∃ (x6 : Int), Option.bind (elt o1 (Int.toNat x4)) h0.cell? = some (.int .i64 x6) ∧
    ((x6 ≥ 0) →
      ((x6 ≤ 1000000000000000) →
        InK .i64 (x4 + 1) ∧
        ∃ j', j' < j4 ∧ I4 j' (x4 + 1)) ∧
      (¬ (x6 ≤ 1000000000000000) →
        R (.bool (cmpB .geq x4 0)) h0)) ∧
    (¬ (x6 ≥ 0) →
      R (.bool (cmpB .geq x4 0)) h0)) ∧
  (¬ (x4 < (↑n2 : Int)) →
    R (.bool false) h0)
theorem vc55_56a (w0 : World) (R : Value → Heap → Prop) (h0 : Heap) (o1 : Option Addr) (n2 : Nat) (n3 : Nat) : ((top P w0).call 55 (([(.slice (.ov 1) (.nv 2) (.nv 3)), (.func 56 .nil .nil)] : List SV).map (SV.den [.h h0, .o o1, .n n2, .n n3])).toArray (Env.h [.h h0, .o o1, .n n2, .n n3] 0) R) = ((top P w0).call 55 #[(.slice o1 n2 n3), (.func (.func 56) #[] #[])] h0 R) := by kernel_rfl
theorem vc55_56b (w0 : World) (R : Value → Heap → Prop) (h0 : Heap) (o1 : Option Addr) (n2 : Nat) (n3 : Nat) : (Tree.den P (top P w0) R tc0 [.h h0, .o o1, .n n2, .n n3] (vcT P exts vc55_56H 100000 55 [(.slice (.ov 1) (.nv 2) (.nv 3)), (.func 56 .nil .nil)] 0 (List.length ([.h h0, .o o1, .n n2, .n n3] : Env)))) = (vc55_56P w0 R h0 o1 n2 n3) := by kernel_rfl
theorem vc55_56 (w0 : World) (R : Value → Heap → Prop) (h0 : Heap) (o1 : Option Addr) (n2 : Nat) (n3 : Nat) (hyp : vc55_56P w0 R h0 o1 n2 n3) : (top P w0).call 55 #[(.slice o1 n2 n3), (.func (.func 56) #[] #[])] h0 R :=
  vc_eq extOK (vc55_56b w0 R h0 o1 n2 n3) hyp (vc55_56a w0 R h0 o1 n2 n3)
noncomputable def vc17H : Hints := { loops := [{ f := 17, p := [0, 1, 0, 1, 1, 1, 1], unroll := 0, keepH := false, live := [6, 7, 25], cells := [] }], calls := [55] }
def vc17P (w0 : World) (R : Value → Heap → Prop) (h0 : Heap) (o1 : Option Addr) (n2 : Nat) (n3 : Nat) (o4 : Option Addr) (n5 : Nat) (n6 : Nat) : Prop :=
 ((¬ (↑n2 : Int) = (↑n5 : Int)) →
   R (.tuple #[(.slice none 0 0), (.int .i64 10)]) h0) ∧
 (¬ (¬ (↑n2 : Int) = (↑n5 : Int)) →
   (((↑n2 : Int) > 200) →
     R (.tuple #[(.slice none 0 0), (.int .i64 3)]) h0) ∧
   (¬ ((↑n2 : Int) > 200) →
     (top P w0).call 55 #[(.slice o1 n2 n3), (.func (.func 56) #[] #[])] h0 fun v9 h8 =>
      ∃ (b7 : Bool), v9 = (.bool b7) ∧
      ((b7 = true) →
        R (.tuple #[(.slice none 0 0), (.int .i64 1)]) h8) ∧
      (¬ (b7 = true) →
        ∃ I9 : Nat → Option Addr → Nat → Nat → Int → Int → Heap → Prop, (∃ j, I9 j none 0 0 (-1) 0 h8) ∧ ∀ j9, ∀ (o9 : Option Addr) (n10 : Nat) (n11 : Nat) (x12 : Int) (x13 : Int) (h14 : Heap), I9 j9 o9 n10 n11 x12 x13 h14 → ∀ d15 : Nat → Value,
         ((x13 < (↑n2 : Int)) →
           Option.isSome o1 = true ∧
           x13 ≥ 0 ∧
           x13 < (↑n2 : Int) ∧
           Option.isSome o1 = true ∧
           ∃ (x16 : Int), Option.bind (elt o1 (Int.toNat x13)) h14.cell? = some (.int .i64 x16) ∧
           Option.isSome o1 = true ∧
           0 < (↑n2 : Int) ∧
           Option.isSome o1 = true ∧
           ∃ (x17 : Int), Option.bind (elt o1 0) h14.cell? = some (.int .i64 x17) ∧
           InK .i64 (x16 - x17) ∧
           InK .i64 (x13 - 1) ∧
           Option.isSome o1 = true ∧
           (max 0 (x13 - 1)) ≥ 0 ∧
           (max 0 (x13 - 1)) < (↑n2 : Int) ∧
           Option.isSome o1 = true ∧
           ∃ (x18 : Int), Option.bind (elt o1 (Int.toNat (max 0 (x13 - 1)))) h14.cell? = some (.int .i64 x18) ∧
           InK .i64 (x16 - x18) ∧
           unpAll (some ⟨(h14.next + 0), 0, none⟩) h14.pins 3 ∧
           ((x12 ≥ 0) →
             Option.isSome o1 = true ∧
             x12 ≥ 0 ∧
             x12 < (↑n2 : Int) ∧
             Option.isSome o1 = true ∧
             (∀ x, (elt o1 (Int.toNat x12)) = some x → x.block ≠ (h14.next + 0)) ∧ 
             ∃ (x19 : Int), Option.bind (elt o1 (Int.toNat x12)) h14.cell? = some (.int .i64 x19) ∧
             InK .i64 (x16 - x19) ∧
             unpAll (some ⟨(h14.next + 0), 2, none⟩) h14.pins 1 ∧
             Option.isSome o4 = true ∧
             x13 ≥ 0 ∧
             x13 < (↑n5 : Int) ∧
             Option.isSome o4 = true ∧
             (∀ x, (elt o4 (Int.toNat x13)) = some x → x.block ≠ (h14.next + 0)) ∧ 
             ∃ (b20 : Bool), Option.bind (elt o4 (Int.toNat x13)) h14.cell? = some (.bool b20) ∧
             ((b20 = true) →
               Prim.den P (.appendTo 3 24 32 1) [(.slice o9 n10 n11), (.int .i64 (x16 - x17)), (.int .i64 (x16 - x18)), (.int .i64 (x16 - x19))] (hup h14 2 [((h14.next + 1), some (.cells #[(.int .i64 (x16 - x17)), (.int .i64 (x16 - x18)), (.int .i64 (x16 - x19))] 32 (0, 0))), ((h14.next + 0), some (.cells #[(.int .i64 (x16 - x17)), (.int .i64 (x16 - x18)), (.int .i64 (x16 - x19))] 32 (0, 0)))] h14.pins) fun v25 h24 =>
                ∃ (o21 : Option Addr) (n22 : Nat) (n23 : Nat), v25 = (.slice o21 n22 n23) ∧
                InK .i64 (x13 + 1) ∧
                ∃ j', j' < j9 ∧ I9 j' o21 n22 n23 x13 (x13 + 1) h24) ∧
             (¬ (b20 = true) →
               Prim.den P (.appendTo 3 24 32 1) [(.slice o9 n10 n11), (.int .i64 (x16 - x17)), (.int .i64 (x16 - x18)), (.int .i64 (x16 - x19))] (hup h14 2 [((h14.next + 1), some (.cells #[(.int .i64 (x16 - x17)), (.int .i64 (x16 - x18)), (.int .i64 (x16 - x19))] 32 (0, 0))), ((h14.next + 0), some (.cells #[(.int .i64 (x16 - x17)), (.int .i64 (x16 - x18)), (.int .i64 (x16 - x19))] 32 (0, 0)))] h14.pins) fun v25 h24 =>
                ∃ (o21 : Option Addr) (n22 : Nat) (n23 : Nat), v25 = (.slice o21 n22 n23) ∧
                InK .i64 (x13 + 1) ∧
                ∃ j', j' < j9 ∧ I9 j' o21 n22 n23 x12 (x13 + 1) h24)) ∧
           (¬ (x12 ≥ 0) →
             Option.isSome o4 = true ∧
             x13 ≥ 0 ∧
             x13 < (↑n5 : Int) ∧
             Option.isSome o4 = true ∧
             (∀ x, (elt o4 (Int.toNat x13)) = some x → x.block ≠ (h14.next + 0)) ∧ 
             ∃ (b19 : Bool), Option.bind (elt o4 (Int.toNat x13)) h14.cell? = some (.bool b19) ∧
             ((b19 = true) →
               Prim.den P (.appendTo 3 24 32 1) [(.slice o9 n10 n11), (.int .i64 (x16 - x17)), (.int .i64 (x16 - x18)), (.int .i64 0)] (hup h14 2 [((h14.next + 1), some (.cells #[(.int .i64 (x16 - x17)), (.int .i64 (x16 - x18)), (.int .i64 0)] 32 (0, 0))), ((h14.next + 0), some (.cells #[(.int .i64 (x16 - x17)), (.int .i64 (x16 - x18)), (.int .i64 0)] 32 (0, 0)))] h14.pins) fun v24 h23 =>
                ∃ (o20 : Option Addr) (n21 : Nat) (n22 : Nat), v24 = (.slice o20 n21 n22) ∧
                InK .i64 (x13 + 1) ∧
                ∃ j', j' < j9 ∧ I9 j' o20 n21 n22 x13 (x13 + 1) h23) ∧
             (¬ (b19 = true) →
               Prim.den P (.appendTo 3 24 32 1) [(.slice o9 n10 n11), (.int .i64 (x16 - x17)), (.int .i64 (x16 - x18)), (.int .i64 0)] (hup h14 2 [((h14.next + 1), some (.cells #[(.int .i64 (x16 - x17)), (.int .i64 (x16 - x18)), (.int .i64 0)] 32 (0, 0))), ((h14.next + 0), some (.cells #[(.int .i64 (x16 - x17)), (.int .i64 (x16 - x18)), (.int .i64 0)] 32 (0, 0)))] h14.pins) fun v24 h23 =>
                ∃ (o20 : Option Addr) (n21 : Nat) (n22 : Nat), v24 = (.slice o20 n21 n22) ∧
                InK .i64 (x13 + 1) ∧
                ∃ j', j' < j9 ∧ I9 j' o20 n21 n22 x12 (x13 + 1) h23))) ∧
         (¬ (x13 < (↑n2 : Int)) →
           R (.tuple #[(.slice o9 n10 n11), (.int .i64 0)]) h14))))
theorem vc17a (w0 : World) (R : Value → Heap → Prop) (h0 : Heap) (o1 : Option Addr) (n2 : Nat) (n3 : Nat) (o4 : Option Addr) (n5 : Nat) (n6 : Nat) : ((top P w0).call 17 (([(.slice (.ov 1) (.nv 2) (.nv 3)), (.slice (.ov 4) (.nv 5) (.nv 6))] : List SV).map (SV.den [.h h0, .o o1, .n n2, .n n3, .o o4, .n n5, .n n6])).toArray (Env.h [.h h0, .o o1, .n n2, .n n3, .o o4, .n n5, .n n6] 0) R) = ((top P w0).call 17 #[(.slice o1 n2 n3), (.slice o4 n5 n6)] h0 R) := by kernel_rfl
theorem vc17b (w0 : World) (R : Value → Heap → Prop) (h0 : Heap) (o1 : Option Addr) (n2 : Nat) (n3 : Nat) (o4 : Option Addr) (n5 : Nat) (n6 : Nat) : (Tree.den P (top P w0) R tc0 [.h h0, .o o1, .n n2, .n n3, .o o4, .n n5, .n n6] (vcT P exts vc17H 100000 17 [(.slice (.ov 1) (.nv 2) (.nv 3)), (.slice (.ov 4) (.nv 5) (.nv 6))] 0 (List.length ([.h h0, .o o1, .n n2, .n n3, .o o4, .n n5, .n n6] : Env)))) = (vc17P w0 R h0 o1 n2 n3 o4 n5 n6) := by kernel_rfl
theorem vc17 (w0 : World) (R : Value → Heap → Prop) (h0 : Heap) (o1 : Option Addr) (n2 : Nat) (n3 : Nat) (o4 : Option Addr) (n5 : Nat) (n6 : Nat) (hyp : vc17P w0 R h0 o1 n2 n3 o4 n5 n6) : (top P w0).call 17 #[(.slice o1 n2 n3), (.slice o4 n5 n6)] h0 R :=
  vc_eq extOK (vc17b w0 R h0 o1 n2 n3 o4 n5 n6) hyp (vc17a w0 R h0 o1 n2 n3 o4 n5 n6)
noncomputable def vc18H : Hints := { loops := [{ f := 18, p := [0, 1, 0, 1, 1, 1], unroll := 0, keepH := true, live := [6], cells := [] }, { f := 18, p := [0, 1, 0, 1, 1, 1, 1, 1], unroll := 0, keepH := false, live := [7, 8], cells := [] }, { f := 18, p := [0, 1, 0, 1, 1, 0, 0, 1, 0, 0, 1, 0, 1, 1, 1, 1, 1], unroll := 0, keepH := true, live := [10], cells := [] }], calls := [] }
def vc18P (w0 : World) (R : Value → Heap → Prop) (h0 : Heap) (o1 : Option Addr) (n2 : Nat) (n3 : Nat) (o4 : Option Addr) (n5 : Nat) (n6 : Nat) : Prop :=
 ((¬ (↑n2 : Int) = (↑n5 : Int)) →
   R (.tuple #[(.slice none 0 0), (.int .i64 10)]) h0) ∧
 (¬ (¬ (↑n2 : Int) = (↑n5 : Int)) →
   (((↑n2 : Int) > 200) →
     R (.tuple #[(.slice none 0 0), (.int .i64 3)]) h0) ∧
   (¬ ((↑n2 : Int) > 200) →
     ∃ I7 : Nat → Int → Prop, (∃ j, I7 j 0) ∧ ∀ j7, ∀ (x7 : Int), I7 j7 x7 → ∀ d8 : Nat → Value,
      ((x7 < (↑n2 : Int)) →
        Option.isSome o1 = true ∧
        x7 ≥ 0 ∧
        x7 < (↑n2 : Int) ∧
        Option.isSome o1 = true ∧
        ∃ (x9 : Int), Option.bind (elt o1 (Int.toNat x7)) h0.cell? = some (.int .i64 x9) ∧
        ((x9 ≥ 0) →
          ((x9 ≤ 1000000000000000) →
            InK .i64 (x7 + 1) ∧
            ∃ j', j' < j7 ∧ I7 j' (x7 + 1)) ∧
          (¬ (x9 ≤ 1000000000000000) →
            R (.tuple #[(.slice none 0 0), (.int .i64 1)]) h0)) ∧
        (¬ (x9 ≥ 0) →
          R (.tuple #[(.slice none 0 0), (.int .i64 1)]) h0)) ∧
      (¬ (x7 < (↑n2 : Int)) →
        ∃ I9 : Nat → Option Addr → Nat → Nat → Int → Heap → Prop, (∃ j, I9 j none 0 0 0 h0) ∧ ∀ j9, ∀ (o9 : Option Addr) (n10 : Nat) (n11 : Nat) (x12 : Int) (h13 : Heap), I9 j9 o9 n10 n11 x12 h13 → ∀ d14 : Nat → Value,
         ((x12 < (↑n2 : Int)) →
           Option.isSome o1 = true ∧
           x12 ≥ 0 ∧
           x12 < (↑n2 : Int) ∧
           Option.isSome o1 = true ∧
           ∃ (x15 : Int), Option.bind (elt o1 (Int.toNat x12)) h13.cell? = some (.int .i64 x15) ∧
           Option.isSome o1 = true ∧
           0 < (↑n2 : Int) ∧
           Option.isSome o1 = true ∧
           ∃ (x16 : Int), Option.bind (elt o1 0) h13.cell? = some (.int .i64 x16) ∧
           InK .i64 (x15 - x16) ∧
           unpAll (some ⟨(h13.next + 0), 0, none⟩) h13.pins 3 ∧
           ((x12 > 0) →
             Option.isSome o1 = true ∧
             x12 ≥ 0 ∧
             x12 < (↑n2 : Int) ∧
             Option.isSome o1 = true ∧
             (∀ x, (elt o1 (Int.toNat x12)) = some x → x.block ≠ (h13.next + 0)) ∧ 
             ∃ (x17 : Int), Option.bind (elt o1 (Int.toNat x12)) h13.cell? = some (.int .i64 x17) ∧
             InK .i64 (x12 - 1) ∧
             Option.isSome o1 = true ∧
             (x12 - 1) ≥ 0 ∧
             (x12 - 1) < (↑n2 : Int) ∧
             Option.isSome o1 = true ∧
             (∀ x, (elt o1 (Int.toNat (x12 - 1))) = some x → x.block ≠ (h13.next + 0)) ∧ 
             ∃ (x18 : Int), Option.bind (elt o1 (Int.toNat (x12 - 1))) h13.cell? = some (.int .i64 x18) ∧
             InK .i64 (x17 - x18) ∧
             unpAll (some ⟨(h13.next + 0), 1, none⟩) h13.pins 1 ∧
             InK .i64 (x12 - 1) ∧
             ∃ I19 : Nat → Int → Prop, (∃ j, I19 j (x12 - 1)) ∧ ∀ j19, ∀ (x19 : Int), I19 j19 x19 → ∀ d20 : Nat → Value,
              ((x19 ≥ 0) →
                Option.isSome o4 = true ∧
                x19 ≥ 0 ∧
                x19 < (↑n5 : Int) ∧
                Option.isSome o4 = true ∧
                (∀ x, (elt o4 (Int.toNat x19)) = some x → x.block ≠ (h13.next + 0)) ∧ 
                ∃ (b21 : Bool), Option.bind (elt o4 (Int.toNat x19)) h13.cell? = some (.bool b21) ∧
                ((b21 = true) →
                  Option.isSome o1 = true ∧
                  x12 ≥ 0 ∧
                  x12 < (↑n2 : Int) ∧
                  Option.isSome o1 = true ∧
                  (∀ x, (elt o1 (Int.toNat x12)) = some x → x.block ≠ (h13.next + 0)) ∧ 
                  ∃ (x22 : Int), Option.bind (elt o1 (Int.toNat x12)) h13.cell? = some (.int .i64 x22) ∧
                  Option.isSome o1 = true ∧
                  x19 ≥ 0 ∧
                  x19 < (↑n2 : Int) ∧
                  Option.isSome o1 = true ∧
                  (∀ x, (elt o1 (Int.toNat x19)) = some x → x.block ≠ (h13.next + 0)) ∧ 
                  ∃ (x23 : Int), Option.bind (elt o1 (Int.toNat x19)) h13.cell? = some (.int .i64 x23) ∧
                  InK .i64 (x22 - x23) ∧
                  unpAll (some ⟨(h13.next + 0), 2, none⟩) h13.pins 1 ∧
                  Prim.den P (.appendTo 3 24 32 1) [(.slice o9 n10 n11), (.int .i64 (x15 - x16)), (.int .i64 (x17 - x18)), (.int .i64 (x22 - x23))] (hup h13 2 [((h13.next + 1), some (.cells #[(.int .i64 (x15 - x16)), (.int .i64 (x17 - x18)), (.int .i64 (x22 - x23))] 32 (0, 0))), ((h13.next + 0), some (.cells #[(.int .i64 (x15 - x16)), (.int .i64 (x17 - x18)), (.int .i64 (x22 - x23))] 32 (0, 0)))] h13.pins) fun v28 h27 =>
                   ∃ (o24 : Option Addr) (n25 : Nat) (n26 : Nat), v28 = (.slice o24 n25 n26) ∧
                   InK .i64 (x12 + 1) ∧
                   ∃ j', j' < j9 ∧ I9 j' o24 n25 n26 (x12 + 1) h27) ∧
                (¬ (b21 = true) →
                  InK .i64 (x19 - 1) ∧
                  ∃ j', j' < j19 ∧ I19 j' (x19 - 1))) ∧
              (¬ (x19 ≥ 0) →
                Prim.den P (.appendTo 3 24 32 1) [(.slice o9 n10 n11), (.int .i64 (x15 - x16)), (.int .i64 (x17 - x18)), (.int .i64 0)] (hup h13 2 [((h13.next + 1), some (.cells #[(.int .i64 (x15 - x16)), (.int .i64 (x17 - x18)), (.int .i64 0)] 32 (0, 0))), ((h13.next + 0), some (.cells #[(.int .i64 (x15 - x16)), (.int .i64 (x17 - x18)), (.int .i64 0)] 32 (0, 0)))] h13.pins) fun v25 h24 =>
                 ∃ (o21 : Option Addr) (n22 : Nat) (n23 : Nat), v25 = (.slice o21 n22 n23) ∧
                 InK .i64 (x12 + 1) ∧
                 ∃ j', j' < j9 ∧ I9 j' o21 n22 n23 (x12 + 1) h24)) ∧
           (¬ (x12 > 0) →
             InK .i64 (x12 - 1) ∧
             ∃ I17 : Nat → Int → Prop, (∃ j, I17 j (x12 - 1)) ∧ ∀ j17, ∀ (x17 : Int), I17 j17 x17 → ∀ d18 : Nat → Value,
              ((x17 ≥ 0) →
                Option.isSome o4 = true ∧
                x17 ≥ 0 ∧
                x17 < (↑n5 : Int) ∧
                Option.isSome o4 = true ∧
                (∀ x, (elt o4 (Int.toNat x17)) = some x → x.block ≠ (h13.next + 0)) ∧ 
                ∃ (b19 : Bool), Option.bind (elt o4 (Int.toNat x17)) h13.cell? = some (.bool b19) ∧
                ((b19 = true) →
                  Option.isSome o1 = true ∧
                  x12 ≥ 0 ∧
                  x12 < (↑n2 : Int) ∧
                  Option.isSome o1 = true ∧
                  (∀ x, (elt o1 (Int.toNat x12)) = some x → x.block ≠ (h13.next + 0)) ∧ 
                  ∃ (x20 : Int), Option.bind (elt o1 (Int.toNat x12)) h13.cell? = some (.int .i64 x20) ∧
                  Option.isSome o1 = true ∧
                  x17 ≥ 0 ∧
                  x17 < (↑n2 : Int) ∧
                  Option.isSome o1 = true ∧
                  (∀ x, (elt o1 (Int.toNat x17)) = some x → x.block ≠ (h13.next + 0)) ∧ 
                  ∃ (x21 : Int), Option.bind (elt o1 (Int.toNat x17)) h13.cell? = some (.int .i64 x21) ∧
                  InK .i64 (x20 - x21) ∧
                  unpAll (some ⟨(h13.next + 0), 2, none⟩) h13.pins 1 ∧
                  Prim.den P (.appendTo 3 24 32 1) [(.slice o9 n10 n11), (.int .i64 (x15 - x16)), (.int .i64 0), (.int .i64 (x20 - x21))] (hup h13 2 [((h13.next + 1), some (.cells #[(.int .i64 (x15 - x16)), (.int .i64 0), (.int .i64 (x20 - x21))] 32 (0, 0))), ((h13.next + 0), some (.cells #[(.int .i64 (x15 - x16)), (.int .i64 0), (.int .i64 (x20 - x21))] 32 (0, 0)))] h13.pins) fun v26 h25 =>
                   ∃ (o22 : Option Addr) (n23 : Nat) (n24 : Nat), v26 = (.slice o22 n23 n24) ∧
                   InK .i64 (x12 + 1) ∧
                   ∃ j', j' < j9 ∧ I9 j' o22 n23 n24 (x12 + 1) h25) ∧
                (¬ (b19 = true) →
                  InK .i64 (x17 - 1) ∧
                  ∃ j', j' < j17 ∧ I17 j' (x17 - 1))) ∧
              (¬ (x17 ≥ 0) →
                Prim.den P (.appendTo 3 24 32 1) [(.slice o9 n10 n11), (.int .i64 (x15 - x16)), (.int .i64 0), (.int .i64 0)] (hup h13 2 [((h13.next + 1), some (.cells #[(.int .i64 (x15 - x16)), (.int .i64 0), (.int .i64 0)] 32 (0, 0))), ((h13.next + 0), some (.cells #[(.int .i64 (x15 - x16)), (.int .i64 0), (.int .i64 0)] 32 (0, 0)))] h13.pins) fun v23 h22 =>
                 ∃ (o19 : Option Addr) (n20 : Nat) (n21 : Nat), v23 = (.slice o19 n20 n21) ∧
                 InK .i64 (x12 + 1) ∧
                 ∃ j', j' < j9 ∧ I9 j' o19 n20 n21 (x12 + 1) h22))) ∧
         (¬ (x12 < (↑n2 : Int)) →
           R (.tuple #[(.slice o9 n10 n11), (.int .i64 0)]) h13))))
theorem vc18a (w0 : World) (R : Value → Heap → Prop) (h0 : Heap) (o1 : Option Addr) (n2 : Nat) (n3 : Nat) (o4 : Option Addr) (n5 : Nat) (n6 : Nat) : ((top P w0).call 18 (([(.slice (.ov 1) (.nv 2) (.nv 3)), (.slice (.ov 4) (.nv 5) (.nv 6))] : List SV).map (SV.den [.h h0, .o o1, .n n2, .n n3, .o o4, .n n5, .n n6])).toArray (Env.h [.h h0, .o o1, .n n2, .n n3, .o o4, .n n5, .n n6] 0) R) = ((top P w0).call 18 #[(.slice o1 n2 n3), (.slice o4 n5 n6)] h0 R) := by kernel_rfl
theorem vc18b (w0 : World) (R : Value → Heap → Prop) (h0 : Heap) (o1 : Option Addr) (n2 : Nat) (n3 : Nat) (o4 : Option Addr) (n5 : Nat) (n6 : Nat) : (Tree.den P (top P w0) R tc0 [.h h0, .o o1, .n n2, .n n3, .o o4, .n n5, .n n6] (vcT P exts vc18H 100000 18 [(.slice (.ov 1) (.nv 2) (.nv 3)), (.slice (.ov 4) (.nv 5) (.nv 6))] 0 (List.length ([.h h0, .o o1, .n n2, .n n3, .o o4, .n n5, .n n6] : Env)))) = (vc18P w0 R h0 o1 n2 n3 o4 n5 n6) := by kernel_rfl
theorem vc18 (w0 : World) (R : Value → Heap → Prop) (h0 : Heap) (o1 : Option Addr) (n2 : Nat) (n3 : Nat) (o4 : Option Addr) (n5 : Nat) (n6 : Nat) (hyp : vc18P w0 R h0 o1 n2 n3 o4 n5 n6) : (top P w0).call 18 #[(.slice o1 n2 n3), (.slice o4 n5 n6)] h0 R :=
  vc_eq extOK (vc18b w0 R h0 o1 n2 n3 o4 n5 n6) hyp (vc18a w0 R h0 o1 n2 n3 o4 n5 n6)
end Go.Proofs.YtkfoibidnkfndaaGreatDoor
