import Derived.Test.YtkfoibidnkfndaaGreatDoorTpSo
import Derived.Test.YtkfoibidnkfndaaGreatDoorAbS19
set_option linter.unusedSimpArgs false
set_option linter.unusedVariables false
set_option maxRecDepth 100000
namespace Go.Proofs.YtkfoibidnkfndaaGreatDoor
open Go.Abs
noncomputable def vc9H : Hints := { loops := [], calls := [16, 25, 26, 27, 28, 29, 30, 31] }
def vc9P (w0 : World) (R : Value → Heap → Prop) (h0 : Heap) (o1 : Option Addr) (n2 : Nat) (n3 : Nat) (o4 : Option Addr) (n5 : Nat) (n6 : Nat) (x7 : Int) (x8 : Int) (x9 : Int) : Prop :=
 InK .i64 ((↑n2 : Int) + (↑n5 : Int)) ∧
 ((((↑n2 : Int) + (↑n5 : Int)) > 20000) →
   (top P w0).call 16 #[] (hup h0 1 [((h0.next + 0), some (.cells #[(.int .i64 x7), (.int .i64 x8), (.int .i64 x9)] 32 (0, 0)))] h0.pins) fun v12 h11 =>
    ∃ (b10 : Bool), v12 = (.bool b10) ∧
    R (.bool b10) h11) ∧
 (¬ (((↑n2 : Int) + (↑n5 : Int)) > 20000) →
   (top P w0).call 26 #[(.slice o1 n2 n3), (.int .i64 x7)] (hup h0 1 [((h0.next + 0), some (.cells #[(.int .i64 x7), (.int .i64 x8), (.int .i64 x9)] 32 (0, 0)))] h0.pins) fun v15 h14 =>
    ∃ (o10 : Option Addr) (n11 : Nat) (n12 : Nat) (x13 : Int), v15 = (.tuple #[(.slice o10 n11 n12), (.int .i64 x13)]) ∧
    ∃ (x15 : Int), Option.bind (some ⟨(h0.next + 0), 0, none⟩) h14.cell? = some (.int .i64 x15) ∧
    (top P w0).call 27 #[(.slice o1 n2 n3), (.int .i64 x15)] h14 fun v21 h20 =>
     ∃ (o16 : Option Addr) (n17 : Nat) (n18 : Nat) (x19 : Int), v21 = (.tuple #[(.slice o16 n17 n18), (.int .i64 x19)]) ∧
     (top P w0).call 28 #[(.slice o1 n2 n3), (.slice o4 n5 n6)] h20 fun v26 h25 =>
      ∃ (o21 : Option Addr) (n22 : Nat) (n23 : Nat) (x24 : Int), v26 = (.tuple #[(.slice o21 n22 n23), (.int .i64 x24)]) ∧
      (top P w0).call 29 #[(.slice o1 n2 n3), (.slice o4 n5 n6)] h25 fun v31 h30 =>
       ∃ (o26 : Option Addr) (n27 : Nat) (n28 : Nat) (x29 : Int), v31 = (.tuple #[(.slice o26 n27 n28), (.int .i64 x29)]) ∧
       ∃ (x31 : Int), Option.bind (some ⟨(h0.next + 0), 1, none⟩) h30.cell? = some (.int .i64 x31) ∧
       ∃ (x32 : Int), Option.bind (some ⟨(h0.next + 0), 2, none⟩) h30.cell? = some (.int .i64 x32) ∧
       (top P w0).call 30 #[(.slice o1 n2 n3), (.int .i64 x31), (.int .i64 x32)] h30 fun v36 h35 =>
        ∃ (x33 : Int) (x34 : Int), v36 = (.tuple #[(.int .i64 x33), (.int .i64 x34)]) ∧
        ∃ (x36 : Int), Option.bind (some ⟨(h0.next + 0), 1, none⟩) h35.cell? = some (.int .i64 x36) ∧
        ∃ (x37 : Int), Option.bind (some ⟨(h0.next + 0), 2, none⟩) h35.cell? = some (.int .i64 x37) ∧
        (top P w0).call 31 #[(.slice o1 n2 n3), (.int .i64 x36), (.int .i64 x37)] h35 fun v41 h40 =>
         ∃ (x38 : Int) (x39 : Int), v41 = (.tuple #[(.int .i64 x38), (.int .i64 x39)]) ∧
         (top P w0).call 25 #[(.slice o10 n11 n12), (.slice o16 n17 n18)] h40 fun v43 h42 =>
          ∃ (b41 : Bool), v43 = (.bool b41) ∧
          ((b41 = true) →
            ((x13 = x19) →
              (top P w0).call 25 #[(.slice o21 n22 n23), (.slice o26 n27 n28)] h42 fun v45 h44 =>
               ∃ (b43 : Bool), v45 = (.bool b43) ∧
               ((b43 = true) →
                 ((x24 = x29) →
                   ((x33 = x38) →
                     ((x34 = x39) →
                       (top P w0).call 16 #[] h44 fun v47 h46 =>
                        ∃ (b45 : Bool), v47 = (.bool b45) ∧
                        R (.bool b45) h46) ∧
                     (¬ (x34 = x39) →
                       R (.bool false) h44)) ∧
                   (¬ (x33 = x38) →
                     R (.bool false) h44)) ∧
                 (¬ (x24 = x29) →
                   R (.bool false) h44)) ∧
               (¬ (b43 = true) →
                 R (.bool false) h44)) ∧
            (¬ (x13 = x19) →
              R (.bool false) h42)) ∧
          (¬ (b41 = true) →
            R (.bool false) h42))
theorem vc9a (w0 : World) (R : Value → Heap → Prop) (h0 : Heap) (o1 : Option Addr) (n2 : Nat) (n3 : Nat) (o4 : Option Addr) (n5 : Nat) (n6 : Nat) (x7 : Int) (x8 : Int) (x9 : Int) : ((top P w0).call 9 (([(.slice (.ov 1) (.nv 2) (.nv 3)), (.slice (.ov 4) (.nv 5) (.nv 6)), (.agg (.cons (.int .i64 (.iv 7)) (.cons (.int .i64 (.iv 8)) (.cons (.int .i64 (.iv 9)) .nil))))] : List SV).map (SV.den [.h h0, .o o1, .n n2, .n n3, .o o4, .n n5, .n n6, .i x7, .i x8, .i x9])).toArray (Env.h [.h h0, .o o1, .n n2, .n n3, .o o4, .n n5, .n n6, .i x7, .i x8, .i x9] 0) R) = ((top P w0).call 9 #[(.slice o1 n2 n3), (.slice o4 n5 n6), (.agg #[(.int .i64 x7), (.int .i64 x8), (.int .i64 x9)])] h0 R) := by kernel_rfl
theorem vc9b (w0 : World) (R : Value → Heap → Prop) (h0 : Heap) (o1 : Option Addr) (n2 : Nat) (n3 : Nat) (o4 : Option Addr) (n5 : Nat) (n6 : Nat) (x7 : Int) (x8 : Int) (x9 : Int) : (Tree.den P (top P w0) R tc0 [.h h0, .o o1, .n n2, .n n3, .o o4, .n n5, .n n6, .i x7, .i x8, .i x9] (vcT P exts vc9H 100000 9 [(.slice (.ov 1) (.nv 2) (.nv 3)), (.slice (.ov 4) (.nv 5) (.nv 6)), (.agg (.cons (.int .i64 (.iv 7)) (.cons (.int .i64 (.iv 8)) (.cons (.int .i64 (.iv 9)) .nil))))] 0 (List.length ([.h h0, .o o1, .n n2, .n n3, .o o4, .n n5, .n n6, .i x7, .i x8, .i x9] : Env)))) = (vc9P w0 R h0 o1 n2 n3 o4 n5 n6 x7 x8 x9) := by kernel_rfl
theorem vc9 (w0 : World) (R : Value → Heap → Prop) (h0 : Heap) (o1 : Option Addr) (n2 : Nat) (n3 : Nat) (o4 : Option Addr) (n5 : Nat) (n6 : Nat) (x7 : Int) (x8 : Int) (x9 : Int) (hyp : vc9P w0 R h0 o1 n2 n3 o4 n5 n6 x7 x8 x9) : (top P w0).call 9 #[(.slice o1 n2 n3), (.slice o4 n5 n6), (.agg #[(.int .i64 x7), (.int .i64 x8), (.int .i64 x9)])] h0 R :=
  vc_eq extOK (vc9b w0 R h0 o1 n2 n3 o4 n5 n6 x7 x8 x9) hyp (vc9a w0 R h0 o1 n2 n3 o4 n5 n6 x7 x8 x9)
noncomputable def vc25H : Hints := { loops := [{ f := 25, p := [0, 1, 0, 1, 1], unroll := 0, keepH := true, live := [5], cells := [] }], calls := [] }
def vc25P (w0 : World) (R : Value → Heap → Prop) (h0 : Heap) (o1 : Option Addr) (n2 : Nat) (n3 : Nat) (o4 : Option Addr) (n5 : Nat) (n6 : Nat) : Prop :=
 ((¬ (↑n2 : Int) = (↑n5 : Int)) →
   R (.bool false) h0) ∧
 (¬ (¬ (↑n2 : Int) = (↑n5 : Int)) →
   ∃ I7 : Nat → Int → Prop, (∃ j, I7 j 0) ∧ ∀ j7, ∀ (x7 : Int), I7 j7 x7 → ∀ d8 : Nat → Value,
    ((x7 < (↑n2 : Int)) →
      Option.isSome o1 = true ∧
      x7 ≥ 0 ∧
      x7 < (↑n2 : Int) ∧
      Option.isSome o1 = true ∧
      ∃ (x9 : Int), Option.bind (elt o1 (Int.toNat x7)) h0.cell? = some (.int .i64 x9) ∧
      Option.isSome o4 = true ∧
      x7 ≥ 0 ∧
      x7 < (↑n5 : Int) ∧
      Option.isSome o4 = true ∧
      ∃ (x10 : Int), Option.bind (elt o4 (Int.toNat x7)) h0.cell? = some (.int .i64 x10) ∧
      ((¬ x9 = x10) →
        R (.bool false) h0) ∧
      (¬ (¬ x9 = x10) →
        InK .i64 (x7 + 1) ∧
        ∃ j', j' < j7 ∧ I7 j' (x7 + 1))) ∧
    (¬ (x7 < (↑n2 : Int)) →
      R (.bool true) h0))
theorem vc25a (w0 : World) (R : Value → Heap → Prop) (h0 : Heap) (o1 : Option Addr) (n2 : Nat) (n3 : Nat) (o4 : Option Addr) (n5 : Nat) (n6 : Nat) : ((top P w0).call 25 (([(.slice (.ov 1) (.nv 2) (.nv 3)), (.slice (.ov 4) (.nv 5) (.nv 6))] : List SV).map (SV.den [.h h0, .o o1, .n n2, .n n3, .o o4, .n n5, .n n6])).toArray (Env.h [.h h0, .o o1, .n n2, .n n3, .o o4, .n n5, .n n6] 0) R) = ((top P w0).call 25 #[(.slice o1 n2 n3), (.slice o4 n5 n6)] h0 R) := by kernel_rfl
theorem vc25b (w0 : World) (R : Value → Heap → Prop) (h0 : Heap) (o1 : Option Addr) (n2 : Nat) (n3 : Nat) (o4 : Option Addr) (n5 : Nat) (n6 : Nat) : (Tree.den P (top P w0) R tc0 [.h h0, .o o1, .n n2, .n n3, .o o4, .n n5, .n n6] (vcT P exts vc25H 100000 25 [(.slice (.ov 1) (.nv 2) (.nv 3)), (.slice (.ov 4) (.nv 5) (.nv 6))] 0 (List.length ([.h h0, .o o1, .n n2, .n n3, .o o4, .n n5, .n n6] : Env)))) = (vc25P w0 R h0 o1 n2 n3 o4 n5 n6) := by kernel_rfl
theorem vc25 (w0 : World) (R : Value → Heap → Prop) (h0 : Heap) (o1 : Option Addr) (n2 : Nat) (n3 : Nat) (o4 : Option Addr) (n5 : Nat) (n6 : Nat) (hyp : vc25P w0 R h0 o1 n2 n3 o4 n5 n6) : (top P w0).call 25 #[(.slice o1 n2 n3), (.slice o4 n5 n6)] h0 R :=
  vc_eq extOK (vc25b w0 R h0 o1 n2 n3 o4 n5 n6) hyp (vc25a w0 R h0 o1 n2 n3 o4 n5 n6)
noncomputable def vc26H : Hints := { loops := [{ f := 26, p := [0, 1, 0, 1, 1, 1, 1], unroll := 0, keepH := false, live := [6, 21], cells := [] }], calls := [55, 71] }
def vc26P (w0 : World) (R : Value → Heap → Prop) (h0 : Heap) (o1 : Option Addr) (n2 : Nat) (n3 : Nat) (x4 : Int) : Prop :=
 (((↑n2 : Int) > 200) →
   R (.tuple #[(.slice none 0 0), (.int .i64 3)]) h0) ∧
 (¬ ((↑n2 : Int) > 200) →
   ((x4 < 1) →
     R (.tuple #[(.slice none 0 0), (.int .i64 1)]) h0) ∧
   (¬ (x4 < 1) →
     (top P w0).call 55 #[(.slice o1 n2 n3), (.func (.func 73) #[] #[])] h0 fun v7 h6 =>
      ∃ (b5 : Bool), v7 = (.bool b5) ∧
      ((b5 = true) →
        R (.tuple #[(.slice none 0 0), (.int .i64 1)]) h6) ∧
      (¬ (b5 = true) →
        ∃ I7 : Nat → Option Addr → Nat → Nat → Int → Heap → Prop, (∃ j, I7 j none 0 0 0 h6) ∧ ∀ j7, ∀ (o7 : Option Addr) (n8 : Nat) (n9 : Nat) (x10 : Int) (h11 : Heap), I7 j7 o7 n8 n9 x10 h11 → ∀ d12 : Nat → Value,
         ((x10 < (↑n2 : Int)) →
           InK .i64 (x10 + 1) ∧
           InK .i64 ((x10 + 1) - (min x4 (↑n2 : Int))) ∧
           InK .i64 (x10 + 1) ∧
           ∃ (o13 : Option Addr) (n14 : Nat) (n15 : Nat), sliceW P 27 (.slice o1 n2 n3) (some (.int .i64 (max 0 ((x10 + 1) - (min x4 (↑n2 : Int)))))) (some (.int .i64 (x10 + 1))) none = some (.slice o13 n14 n15) ∧
           (top P w0).call 71 #[(.slice o13 n14 n15), (.int .i64 1)] h11 fun v18 h17 =>
            ∃ (x16 : Int), v18 = (.int .i64 x16) ∧
            ¬ (↑n14 : Int) = 0 ∧
            InK .i64 (Int.tdiv x16 (↑n14 : Int)) ∧
            ¬ (↑n14 : Int) = 0 ∧
            (((binI .rem .i64 x16 (↑n14 : Int)) < 0) →
              InK .i64 ((Int.tdiv x16 (↑n14 : Int)) - 1) ∧
              Prim.den P (.appendTo 1 8 3 1) [(.slice o7 n8 n9), (.int .i64 ((Int.tdiv x16 (↑n14 : Int)) - 1))] (hup h17 1 [((h17.next + 0), some (.cells #[(.int .i64 ((Int.tdiv x16 (↑n14 : Int)) - 1))] 3 (0, 0)))] h17.pins) fun v22 h21 =>
               ∃ (o18 : Option Addr) (n19 : Nat) (n20 : Nat), v22 = (.slice o18 n19 n20) ∧
               InK .i64 (x10 + 1) ∧
               ∃ j', j' < j7 ∧ I7 j' o18 n19 n20 (x10 + 1) h21) ∧
            (¬ ((binI .rem .i64 x16 (↑n14 : Int)) < 0) →
              Prim.den P (.appendTo 1 8 3 1) [(.slice o7 n8 n9), (.int .i64 (Int.tdiv x16 (↑n14 : Int)))] (hup h17 1 [((h17.next + 0), some (.cells #[(.int .i64 (Int.tdiv x16 (↑n14 : Int)))] 3 (0, 0)))] h17.pins) fun v22 h21 =>
               ∃ (o18 : Option Addr) (n19 : Nat) (n20 : Nat), v22 = (.slice o18 n19 n20) ∧
               InK .i64 (x10 + 1) ∧
               ∃ j', j' < j7 ∧ I7 j' o18 n19 n20 (x10 + 1) h21)) ∧
         (¬ (x10 < (↑n2 : Int)) →
           R (.tuple #[(.slice o7 n8 n9), (.int .i64 0)]) h11))))
theorem vc26a (w0 : World) (R : Value → Heap → Prop) (h0 : Heap) (o1 : Option Addr) (n2 : Nat) (n3 : Nat) (x4 : Int) : ((top P w0).call 26 (([(.slice (.ov 1) (.nv 2) (.nv 3)), (.int .i64 (.iv 4))] : List SV).map (SV.den [.h h0, .o o1, .n n2, .n n3, .i x4])).toArray (Env.h [.h h0, .o o1, .n n2, .n n3, .i x4] 0) R) = ((top P w0).call 26 #[(.slice o1 n2 n3), (.int .i64 x4)] h0 R) := by kernel_rfl
theorem vc26b (w0 : World) (R : Value → Heap → Prop) (h0 : Heap) (o1 : Option Addr) (n2 : Nat) (n3 : Nat) (x4 : Int) : (Tree.den P (top P w0) R tc0 [.h h0, .o o1, .n n2, .n n3, .i x4] (vcT P exts vc26H 100000 26 [(.slice (.ov 1) (.nv 2) (.nv 3)), (.int .i64 (.iv 4))] 0 (List.length ([.h h0, .o o1, .n n2, .n n3, .i x4] : Env)))) = (vc26P w0 R h0 o1 n2 n3 x4) := by kernel_rfl
theorem vc26 (w0 : World) (R : Value → Heap → Prop) (h0 : Heap) (o1 : Option Addr) (n2 : Nat) (n3 : Nat) (x4 : Int) (hyp : vc26P w0 R h0 o1 n2 n3 x4) : (top P w0).call 26 #[(.slice o1 n2 n3), (.int .i64 x4)] h0 R :=
  vc_eq extOK (vc26b w0 R h0 o1 n2 n3 x4) hyp (vc26a w0 R h0 o1 n2 n3 x4)
noncomputable def vc27H : Hints := { loops := [{ f := 27, p := [0, 1, 0, 1, 1, 1], unroll := 0, keepH := true, live := [6], cells := [] }, { f := 27, p := [0, 1, 0, 1, 1, 1, 1, 1], unroll := 0, keepH := false, live := [7, 8], cells := [] }, { f := 27, p := [0, 0, 1, 0, 0, 1, 0, 0, 1, 0, 1, 1, 1, 1, 1], unroll := 0, keepH := true, live := [9, 10], cells := [] }], calls := [74] }
def vc27P (w0 : World) (R : Value → Heap → Prop) (h0 : Heap) (o1 : Option Addr) (n2 : Nat) (n3 : Nat) (x4 : Int) : Prop :=
 (((↑n2 : Int) > 200) →
   R (.tuple #[(.slice none 0 0), (.int .i64 3)]) h0) ∧
 (¬ ((↑n2 : Int) > 200) →
   ((x4 < 1) →
     R (.tuple #[(.slice none 0 0), (.int .i64 1)]) h0) ∧
   (¬ (x4 < 1) →
     ∃ I5 : Nat → Int → Prop, (∃ j, I5 j 0) ∧ ∀ j5, ∀ (x5 : Int), I5 j5 x5 → ∀ d6 : Nat → Value,
      ((x5 < (↑n2 : Int)) →
        Option.isSome o1 = true ∧
        x5 ≥ 0 ∧
        x5 < (↑n2 : Int) ∧
        Option.isSome o1 = true ∧
        ∃ (x7 : Int), Option.bind (elt o1 (Int.toNat x5)) h0.cell? = some (.int .i64 x7) ∧
        ((x7 > 4503599627370496) →
          R (.tuple #[(.slice none 0 0), (.int .i64 1)]) h0) ∧
        (¬ (x7 > 4503599627370496) →
          Option.isSome o1 = true ∧
          x5 ≥ 0 ∧
          x5 < (↑n2 : Int) ∧
          Option.isSome o1 = true ∧
          ∃ (x8 : Int), Option.bind (elt o1 (Int.toNat x5)) h0.cell? = some (.int .i64 x8) ∧
          ((x8 < (-4503599627370496)) →
            R (.tuple #[(.slice none 0 0), (.int .i64 1)]) h0) ∧
          (¬ (x8 < (-4503599627370496)) →
            InK .i64 (x5 + 1) ∧
            ∃ j', j' < j5 ∧ I5 j' (x5 + 1)))) ∧
      (¬ (x5 < (↑n2 : Int)) →
        ∃ I7 : Nat → Option Addr → Nat → Nat → Int → Heap → Prop, (∃ j, I7 j none 0 0 0 h0) ∧ ∀ j7, ∀ (o7 : Option Addr) (n8 : Nat) (n9 : Nat) (x10 : Int) (h11 : Heap), I7 j7 o7 n8 n9 x10 h11 → ∀ d12 : Nat → Value,
         ((x10 < (↑n2 : Int)) →
           ∃ I13 : Nat → Int → Int → Prop, (∃ j, I13 j 0 0) ∧ ∀ j13, ∀ (x13 : Int) (x14 : Int), I13 j13 x13 x14 → ∀ d15 : Nat → Value,
            ((x14 < x4) →
              ((x14 ≤ x10) →
                InK .i64 (x10 - x14) ∧
                Option.isSome o1 = true ∧
                (x10 - x14) ≥ 0 ∧
                (x10 - x14) < (↑n2 : Int) ∧
                Option.isSome o1 = true ∧
                ∃ (x16 : Int), Option.bind (elt o1 (Int.toNat (x10 - x14))) h11.cell? = some (.int .i64 x16) ∧
                InK .i64 (x13 + x16) ∧
                InK .i64 (x14 + 1) ∧
                ∃ j', j' < j13 ∧ I13 j' (x13 + x16) (x14 + 1)) ∧
              (¬ (x14 ≤ x10) →
                (top P w0).call 74 #[(.int .i64 x13), (.int .i64 x14)] h11 fun v18 h17 =>
                 ∃ (x16 : Int), v18 = (.int .i64 x16) ∧
                 Prim.den P (.appendTo 1 8 3 1) [(.slice o7 n8 n9), (.int .i64 x16)] (hup h17 1 [((h17.next + 0), some (.cells #[(.int .i64 x16)] 3 (0, 0)))] h17.pins) fun v22 h21 =>
                  ∃ (o18 : Option Addr) (n19 : Nat) (n20 : Nat), v22 = (.slice o18 n19 n20) ∧
                  InK .i64 (x10 + 1) ∧
                  ∃ j', j' < j7 ∧ I7 j' o18 n19 n20 (x10 + 1) h21)) ∧
            (¬ (x14 < x4) →
              (top P w0).call 74 #[(.int .i64 x13), (.int .i64 x14)] h11 fun v18 h17 =>
               ∃ (x16 : Int), v18 = (.int .i64 x16) ∧
               Prim.den P (.appendTo 1 8 3 1) [(.slice o7 n8 n9), (.int .i64 x16)] (hup h17 1 [((h17.next + 0), some (.cells #[(.int .i64 x16)] 3 (0, 0)))] h17.pins) fun v22 h21 =>
                ∃ (o18 : Option Addr) (n19 : Nat) (n20 : Nat), v22 = (.slice o18 n19 n20) ∧
                InK .i64 (x10 + 1) ∧
                ∃ j', j' < j7 ∧ I7 j' o18 n19 n20 (x10 + 1) h21)) ∧
         (¬ (x10 < (↑n2 : Int)) →
           R (.tuple #[(.slice o7 n8 n9), (.int .i64 0)]) h11))))
theorem vc27a (w0 : World) (R : Value → Heap → Prop) (h0 : Heap) (o1 : Option Addr) (n2 : Nat) (n3 : Nat) (x4 : Int) : ((top P w0).call 27 (([(.slice (.ov 1) (.nv 2) (.nv 3)), (.int .i64 (.iv 4))] : List SV).map (SV.den [.h h0, .o o1, .n n2, .n n3, .i x4])).toArray (Env.h [.h h0, .o o1, .n n2, .n n3, .i x4] 0) R) = ((top P w0).call 27 #[(.slice o1 n2 n3), (.int .i64 x4)] h0 R) := by kernel_rfl
theorem vc27b (w0 : World) (R : Value → Heap → Prop) (h0 : Heap) (o1 : Option Addr) (n2 : Nat) (n3 : Nat) (x4 : Int) : (Tree.den P (top P w0) R tc0 [.h h0, .o o1, .n n2, .n n3, .i x4] (vcT P exts vc27H 100000 27 [(.slice (.ov 1) (.nv 2) (.nv 3)), (.int .i64 (.iv 4))] 0 (List.length ([.h h0, .o o1, .n n2, .n n3, .i x4] : Env)))) = (vc27P w0 R h0 o1 n2 n3 x4) := by kernel_rfl
theorem vc27 (w0 : World) (R : Value → Heap → Prop) (h0 : Heap) (o1 : Option Addr) (n2 : Nat) (n3 : Nat) (x4 : Int) (hyp : vc27P w0 R h0 o1 n2 n3 x4) : (top P w0).call 27 #[(.slice o1 n2 n3), (.int .i64 x4)] h0 R :=
  vc_eq extOK (vc27b w0 R h0 o1 n2 n3 x4) hyp (vc27a w0 R h0 o1 n2 n3 x4)
noncomputable def vc28H : Hints := { loops := [{ f := 28, p := [0, 1, 0, 1, 1], unroll := 0, keepH := true, live := [20], cells := [] }, { f := 28, p := [0, 1, 0, 1, 1, 1, 1], unroll := 0, keepH := false, live := [44], cells := [] }], calls := [75] }
def vc28P (w0 : World) (R : Value → Heap → Prop) (h0 : Heap) (o1 : Option Addr) (n2 : Nat) (n3 : Nat) (o4 : Option Addr) (n5 : Nat) (n6 : Nat) : Prop :=
 (((↑n2 : Int) > 200) →
   R (.tuple #[(.slice none 0 0), (.int .i64 3)]) h0) ∧
 (¬ ((↑n2 : Int) > 200) →
   (((↑n5 : Int) > 200) →
     R (.tuple #[(.slice none 0 0), (.int .i64 3)]) h0) ∧
   (¬ ((↑n5 : Int) > 200) →
     ∃ I7 : Nat → Int → Prop, (∃ j, I7 j 0) ∧ ∀ j7, ∀ (x7 : Int), I7 j7 x7 → ∀ d8 : Nat → Value,
      ((x7 < (↑n5 : Int)) →
        ((x7 > 0) →
          InK .i64 (x7 - 1) ∧
          Option.isSome o4 = true ∧
          (x7 - 1) ≥ 0 ∧
          (x7 - 1) < (↑n5 : Int) ∧
          Option.isSome o4 = true ∧
          ∃ (x9 : Int), Option.bind (elt o4 (Int.toNat (x7 - 1))) h0.cell? = some (.int .i64 x9) ∧
          Option.isSome o4 = true ∧
          x7 ≥ 0 ∧
          x7 < (↑n5 : Int) ∧
          Option.isSome o4 = true ∧
          ∃ (x10 : Int), Option.bind (elt o4 (Int.toNat x7)) h0.cell? = some (.int .i64 x10) ∧
          ((x9 ≥ x10) →
            R (.tuple #[(.slice none 0 0), (.int .i64 1)]) h0) ∧
          (¬ (x9 ≥ x10) →
            InK .i64 (x7 + 1) ∧
            ∃ j', j' < j7 ∧ I7 j' (x7 + 1))) ∧
        (¬ (x7 > 0) →
          InK .i64 (x7 + 1) ∧
          ∃ j', j' < j7 ∧ I7 j' (x7 + 1))) ∧
      (¬ (x7 < (↑n5 : Int)) →
        InK .i64 ((↑n5 : Int) + 1) ∧
        Prim.den P (.makeSlice 27) [(.int .i64 ((↑n5 : Int) + 1)), (.int .i64 ((↑n5 : Int) + 1))] h0 fun v13 h12 =>
         ∃ (o9 : Option Addr) (n10 : Nat) (n11 : Nat), v13 = (.slice o9 n10 n11) ∧
         ∃ I13 : Nat → Int → Heap → Prop, (∃ j, I13 j 0 h12) ∧ ∀ j13, ∀ (x13 : Int) (h14 : Heap), I13 j13 x13 h14 → ∀ d15 : Nat → Value,
          ((x13 < (↑n2 : Int)) →
            Option.isSome o1 = true ∧
            x13 ≥ 0 ∧
            x13 < (↑n2 : Int) ∧
            Option.isSome o1 = true ∧
            ∃ (x16 : Int), Option.bind (elt o1 (Int.toNat x13)) h14.cell? = some (.int .i64 x16) ∧
            (top P w0).call 75 #[(.slice o4 n5 n6), (.int .i64 x16)] h14 fun v20 h19 =>
             ∃ (x17 : Int) (b18 : Bool), v20 = (.tuple #[(.int .i64 x17), (.bool b18)]) ∧
             ((b18 = true) →
               InK .i64 (x17 + 1) ∧
               Option.isSome o9 = true ∧
               (x17 + 1) ≥ 0 ∧
               (x17 + 1) < (↑n10 : Int) ∧
               Option.isSome o9 = true ∧
               ∃ (x20 : Int), Option.bind (elt o9 (Int.toNat (x17 + 1))) h19.cell? = some (.int .i64 x20) ∧
               InK .i64 (x20 + 1) ∧
               Option.isSome o9 = true ∧
               (x17 + 1) ≥ 0 ∧
               (x17 + 1) < (↑n10 : Int) ∧
               Option.isSome o9 = true ∧
               Prim.den P (.store 3) [(.pointer (elt o9 (Int.toNat (x17 + 1)))), (.int .i64 (x20 + 1))] h19 fun v22 h21 =>
                v22 = (.tuple #[]) ∧
                InK .i64 (x13 + 1) ∧
                ∃ j', j' < j13 ∧ I13 j' (x13 + 1) h21) ∧
             (¬ (b18 = true) →
               Option.isSome o9 = true ∧
               x17 ≥ 0 ∧
               x17 < (↑n10 : Int) ∧
               Option.isSome o9 = true ∧
               ∃ (x20 : Int), Option.bind (elt o9 (Int.toNat x17)) h19.cell? = some (.int .i64 x20) ∧
               InK .i64 (x20 + 1) ∧
               Option.isSome o9 = true ∧
               x17 ≥ 0 ∧
               x17 < (↑n10 : Int) ∧
               Option.isSome o9 = true ∧
               Prim.den P (.store 3) [(.pointer (elt o9 (Int.toNat x17))), (.int .i64 (x20 + 1))] h19 fun v22 h21 =>
                v22 = (.tuple #[]) ∧
                InK .i64 (x13 + 1) ∧
                ∃ j', j' < j13 ∧ I13 j' (x13 + 1) h21)) ∧
          (¬ (x13 < (↑n2 : Int)) →
            R (.tuple #[(.slice o9 n10 n11), (.int .i64 0)]) h14))))
theorem vc28a (w0 : World) (R : Value → Heap → Prop) (h0 : Heap) (o1 : Option Addr) (n2 : Nat) (n3 : Nat) (o4 : Option Addr) (n5 : Nat) (n6 : Nat) : ((top P w0).call 28 (([(.slice (.ov 1) (.nv 2) (.nv 3)), (.slice (.ov 4) (.nv 5) (.nv 6))] : List SV).map (SV.den [.h h0, .o o1, .n n2, .n n3, .o o4, .n n5, .n n6])).toArray (Env.h [.h h0, .o o1, .n n2, .n n3, .o o4, .n n5, .n n6] 0) R) = ((top P w0).call 28 #[(.slice o1 n2 n3), (.slice o4 n5 n6)] h0 R) := by kernel_rfl
theorem vc28b (w0 : World) (R : Value → Heap → Prop) (h0 : Heap) (o1 : Option Addr) (n2 : Nat) (n3 : Nat) (o4 : Option Addr) (n5 : Nat) (n6 : Nat) : (Tree.den P (top P w0) R tc0 [.h h0, .o o1, .n n2, .n n3, .o o4, .n n5, .n n6] (vcT P exts vc28H 100000 28 [(.slice (.ov 1) (.nv 2) (.nv 3)), (.slice (.ov 4) (.nv 5) (.nv 6))] 0 (List.length ([.h h0, .o o1, .n n2, .n n3, .o o4, .n n5, .n n6] : Env)))) = (vc28P w0 R h0 o1 n2 n3 o4 n5 n6) := by kernel_rfl
theorem vc28 (w0 : World) (R : Value → Heap → Prop) (h0 : Heap) (o1 : Option Addr) (n2 : Nat) (n3 : Nat) (o4 : Option Addr) (n5 : Nat) (n6 : Nat) (hyp : vc28P w0 R h0 o1 n2 n3 o4 n5 n6) : (top P w0).call 28 #[(.slice o1 n2 n3), (.slice o4 n5 n6)] h0 R :=
  vc_eq extOK (vc28b w0 R h0 o1 n2 n3 o4 n5 n6) hyp (vc28a w0 R h0 o1 n2 n3 o4 n5 n6)
noncomputable def vc29H : Hints := { loops := [{ f := 29, p := [0, 1, 0, 1, 1], unroll := 0, keepH := true, live := [6], cells := [] }, { f := 29, p := [0, 1, 0, 1, 1, 1, 1], unroll := 0, keepH := false, live := [8], cells := [] }, { f := 29, p := [0, 0, 1, 0, 0, 1, 0, 0, 1, 0, 1, 1, 1, 1], unroll := 0, keepH := true, live := [9], cells := [] }], calls := [] }
def vc29P (w0 : World) (R : Value → Heap → Prop) (h0 : Heap) (o1 : Option Addr) (n2 : Nat) (n3 : Nat) (o4 : Option Addr) (n5 : Nat) (n6 : Nat) : Prop :=
 (((↑n2 : Int) > 200) →
   R (.tuple #[(.slice none 0 0), (.int .i64 3)]) h0) ∧
 (¬ ((↑n2 : Int) > 200) →
   (((↑n5 : Int) > 200) →
     R (.tuple #[(.slice none 0 0), (.int .i64 3)]) h0) ∧
   (¬ ((↑n5 : Int) > 200) →
     ∃ I7 : Nat → Int → Prop, (∃ j, I7 j 1) ∧ ∀ j7, ∀ (x7 : Int), I7 j7 x7 → ∀ d8 : Nat → Value,
      ((x7 < (↑n5 : Int)) →
        Option.isSome o4 = true ∧
        x7 ≥ 0 ∧
        x7 < (↑n5 : Int) ∧
        Option.isSome o4 = true ∧
        ∃ (x9 : Int), Option.bind (elt o4 (Int.toNat x7)) h0.cell? = some (.int .i64 x9) ∧
        InK .i64 (x7 - 1) ∧
        Option.isSome o4 = true ∧
        (x7 - 1) ≥ 0 ∧
        (x7 - 1) < (↑n5 : Int) ∧
        Option.isSome o4 = true ∧
        ∃ (x10 : Int), Option.bind (elt o4 (Int.toNat (x7 - 1))) h0.cell? = some (.int .i64 x10) ∧
        ((x9 ≤ x10) →
          R (.tuple #[(.slice none 0 0), (.int .i64 1)]) h0) ∧
        (¬ (x9 ≤ x10) →
          InK .i64 (x7 + 1) ∧
          ∃ j', j' < j7 ∧ I7 j' (x7 + 1))) ∧
      (¬ (x7 < (↑n5 : Int)) →
        InK .i64 ((↑n5 : Int) + 1) ∧
        Prim.den P (.makeSlice 27) [(.int .i64 ((↑n5 : Int) + 1)), (.int .i64 ((↑n5 : Int) + 1))] h0 fun v13 h12 =>
         ∃ (o9 : Option Addr) (n10 : Nat) (n11 : Nat), v13 = (.slice o9 n10 n11) ∧
         ∃ I13 : Nat → Int → Heap → Prop, (∃ j, I13 j 0 h12) ∧ ∀ j13, ∀ (x13 : Int) (h14 : Heap), I13 j13 x13 h14 → ∀ d15 : Nat → Value,
          ((x13 < (↑n2 : Int)) →
            ∃ I16 : Nat → Int → Prop, (∃ j, I16 j 0) ∧ ∀ j16, ∀ (x16 : Int), I16 j16 x16 → ∀ d17 : Nat → Value,
             ((x16 < (↑n5 : Int)) →
               Option.isSome o1 = true ∧
               x13 ≥ 0 ∧
               x13 < (↑n2 : Int) ∧
               Option.isSome o1 = true ∧
               ∃ (x18 : Int), Option.bind (elt o1 (Int.toNat x13)) h14.cell? = some (.int .i64 x18) ∧
               Option.isSome o4 = true ∧
               x16 ≥ 0 ∧
               x16 < (↑n5 : Int) ∧
               Option.isSome o4 = true ∧
               ∃ (x19 : Int), Option.bind (elt o4 (Int.toNat x16)) h14.cell? = some (.int .i64 x19) ∧
               ((x18 ≥ x19) →
                 InK .i64 (x16 + 1) ∧
                 ∃ j', j' < j16 ∧ I16 j' (x16 + 1)) ∧
               (¬ (x18 ≥ x19) →
                 Option.isSome o9 = true ∧
                 x16 ≥ 0 ∧
                 x16 < (↑n10 : Int) ∧
                 Option.isSome o9 = true ∧
                 ∃ (x20 : Int), Option.bind (elt o9 (Int.toNat x16)) h14.cell? = some (.int .i64 x20) ∧
                 InK .i64 (x20 + 1) ∧
                 Option.isSome o9 = true ∧
                 x16 ≥ 0 ∧
                 x16 < (↑n10 : Int) ∧
                 Option.isSome o9 = true ∧
                 Prim.den P (.store 3) [(.pointer (elt o9 (Int.toNat x16))), (.int .i64 (x20 + 1))] h14 fun v22 h21 =>
                  v22 = (.tuple #[]) ∧
                  InK .i64 (x13 + 1) ∧
                  ∃ j', j' < j13 ∧ I13 j' (x13 + 1) h21)) ∧
             (¬ (x16 < (↑n5 : Int)) →
               Option.isSome o9 = true ∧
               x16 ≥ 0 ∧
               x16 < (↑n10 : Int) ∧
               Option.isSome o9 = true ∧
               ∃ (x18 : Int), Option.bind (elt o9 (Int.toNat x16)) h14.cell? = some (.int .i64 x18) ∧
               InK .i64 (x18 + 1) ∧
               Option.isSome o9 = true ∧
               x16 ≥ 0 ∧
               x16 < (↑n10 : Int) ∧
               Option.isSome o9 = true ∧
               Prim.den P (.store 3) [(.pointer (elt o9 (Int.toNat x16))), (.int .i64 (x18 + 1))] h14 fun v20 h19 =>
                v20 = (.tuple #[]) ∧
                InK .i64 (x13 + 1) ∧
                ∃ j', j' < j13 ∧ I13 j' (x13 + 1) h19)) ∧
          (¬ (x13 < (↑n2 : Int)) →
            R (.tuple #[(.slice o9 n10 n11), (.int .i64 0)]) h14))))
theorem vc29a (w0 : World) (R : Value → Heap → Prop) (h0 : Heap) (o1 : Option Addr) (n2 : Nat) (n3 : Nat) (o4 : Option Addr) (n5 : Nat) (n6 : Nat) : ((top P w0).call 29 (([(.slice (.ov 1) (.nv 2) (.nv 3)), (.slice (.ov 4) (.nv 5) (.nv 6))] : List SV).map (SV.den [.h h0, .o o1, .n n2, .n n3, .o o4, .n n5, .n n6])).toArray (Env.h [.h h0, .o o1, .n n2, .n n3, .o o4, .n n5, .n n6] 0) R) = ((top P w0).call 29 #[(.slice o1 n2 n3), (.slice o4 n5 n6)] h0 R) := by kernel_rfl
theorem vc29b (w0 : World) (R : Value → Heap → Prop) (h0 : Heap) (o1 : Option Addr) (n2 : Nat) (n3 : Nat) (o4 : Option Addr) (n5 : Nat) (n6 : Nat) : (Tree.den P (top P w0) R tc0 [.h h0, .o o1, .n n2, .n n3, .o o4, .n n5, .n n6] (vcT P exts vc29H 100000 29 [(.slice (.ov 1) (.nv 2) (.nv 3)), (.slice (.ov 4) (.nv 5) (.nv 6))] 0 (List.length ([.h h0, .o o1, .n n2, .n n3, .o o4, .n n5, .n n6] : Env)))) = (vc29P w0 R h0 o1 n2 n3 o4 n5 n6) := by kernel_rfl
theorem vc29 (w0 : World) (R : Value → Heap → Prop) (h0 : Heap) (o1 : Option Addr) (n2 : Nat) (n3 : Nat) (o4 : Option Addr) (n5 : Nat) (n6 : Nat) (hyp : vc29P w0 R h0 o1 n2 n3 o4 n5 n6) : (top P w0).call 29 #[(.slice o1 n2 n3), (.slice o4 n5 n6)] h0 R :=
  vc_eq extOK (vc29b w0 R h0 o1 n2 n3 o4 n5 n6) hyp (vc29a w0 R h0 o1 n2 n3 o4 n5 n6)
noncomputable def vc30H : Hints := { loops := [], calls := [61] }
def vc30P (w0 : World) (R : Value → Heap → Prop) (h0 : Heap) (o1 : Option Addr) (n2 : Nat) (n3 : Nat) (x4 : Int) (x5 : Int) : Prop :=
 (((↑n2 : Int) = 0) →
   R (.tuple #[(.int .i64 0), (.int .i64 4)]) h0) ∧
 (¬ ((↑n2 : Int) = 0) →
   ((x4 < 1) →
     R (.tuple #[(.int .i64 0), (.int .i64 1)]) h0) ∧
   (¬ (x4 < 1) →
     ((x4 > x5) →
       R (.tuple #[(.int .i64 0), (.int .i64 1)]) h0) ∧
     (¬ (x4 > x5) →
       ((x5 > 1000000) →
         R (.tuple #[(.int .i64 0), (.int .i64 1)]) h0) ∧
       (¬ (x5 > 1000000) →
         (((↑n2 : Int) > 200) →
           R (.tuple #[(.int .i64 0), (.int .i64 3)]) h0) ∧
         (¬ ((↑n2 : Int) > 200) →
           (top P w0).call 61 #[(.func (.func 113) #[] #[(.pointer (some ⟨(h0.next + 0), 0, none⟩))])] (hup h0 1 [((h0.next + 0), some (.cells #[(.slice o1 n2 n3)] 27 (0, 0)))] h0.pins) fun v10 h9 =>
            ∃ (o6 : Option Addr) (n7 : Nat) (n8 : Nat), v10 = (.slice o6 n7 n8) ∧
            InK .i64 (x4 * (↑n7 : Int)) ∧
            InK .i64 ((x4 * (↑n7 : Int)) + x5) ∧
            InK .i64 (((x4 * (↑n7 : Int)) + x5) - 1) ∧
            ¬ x5 = 0 ∧
            InK .i64 (Int.tdiv (((x4 * (↑n7 : Int)) + x5) - 1) x5) ∧
            InK .i64 ((Int.tdiv (((x4 * (↑n7 : Int)) + x5) - 1) x5) - 1) ∧
            Option.isSome o6 = true ∧
            ((Int.tdiv (((x4 * (↑n7 : Int)) + x5) - 1) x5) - 1) ≥ 0 ∧
            ((Int.tdiv (((x4 * (↑n7 : Int)) + x5) - 1) x5) - 1) < (↑n7 : Int) ∧
            Option.isSome o6 = true ∧
            ∃ (x10 : Int), Option.bind (elt o6 (Int.toNat ((Int.tdiv (((x4 * (↑n7 : Int)) + x5) - 1) x5) - 1))) h9.cell? = some (.int .i64 x10) ∧
            R (.tuple #[(.int .i64 x10), (.int .i64 0)]) h9)))))
theorem vc30a (w0 : World) (R : Value → Heap → Prop) (h0 : Heap) (o1 : Option Addr) (n2 : Nat) (n3 : Nat) (x4 : Int) (x5 : Int) : ((top P w0).call 30 (([(.slice (.ov 1) (.nv 2) (.nv 3)), (.int .i64 (.iv 4)), (.int .i64 (.iv 5))] : List SV).map (SV.den [.h h0, .o o1, .n n2, .n n3, .i x4, .i x5])).toArray (Env.h [.h h0, .o o1, .n n2, .n n3, .i x4, .i x5] 0) R) = ((top P w0).call 30 #[(.slice o1 n2 n3), (.int .i64 x4), (.int .i64 x5)] h0 R) := by kernel_rfl
theorem vc30b (w0 : World) (R : Value → Heap → Prop) (h0 : Heap) (o1 : Option Addr) (n2 : Nat) (n3 : Nat) (x4 : Int) (x5 : Int) : (Tree.den P (top P w0) R tc0 [.h h0, .o o1, .n n2, .n n3, .i x4, .i x5] (vcT P exts vc30H 100000 30 [(.slice (.ov 1) (.nv 2) (.nv 3)), (.int .i64 (.iv 4)), (.int .i64 (.iv 5))] 0 (List.length ([.h h0, .o o1, .n n2, .n n3, .i x4, .i x5] : Env)))) = (vc30P w0 R h0 o1 n2 n3 x4 x5) := by kernel_rfl
theorem vc30 (w0 : World) (R : Value → Heap → Prop) (h0 : Heap) (o1 : Option Addr) (n2 : Nat) (n3 : Nat) (x4 : Int) (x5 : Int) (hyp : vc30P w0 R h0 o1 n2 n3 x4 x5) : (top P w0).call 30 #[(.slice o1 n2 n3), (.int .i64 x4), (.int .i64 x5)] h0 R :=
  vc_eq extOK (vc30b w0 R h0 o1 n2 n3 x4 x5) hyp (vc30a w0 R h0 o1 n2 n3 x4 x5)
noncomputable def vc31H : Hints := { loops := [{ f := 31, p := [0, 1, 0, 1, 1, 1, 1, 1], unroll := 0, keepH := true, live := [8, 9, 10], cells := [] }, { f := 31, p := [0, 1, 0, 1, 0, 0, 1, 0, 0, 1, 0, 1, 1, 1, 1, 1], unroll := 0, keepH := true, live := [11, 12], cells := [] }], calls := [] }
def vc31P (w0 : World) (R : Value → Heap → Prop) (h0 : Heap) (o1 : Option Addr) (n2 : Nat) (n3 : Nat) (x4 : Int) (x5 : Int) : Prop :=
 (((↑n2 : Int) = 0) →
   R (.tuple #[(.int .i64 0), (.int .i64 4)]) h0) ∧
 (¬ ((↑n2 : Int) = 0) →
   ((x4 < 1) →
     R (.tuple #[(.int .i64 0), (.int .i64 1)]) h0) ∧
   (¬ (x4 < 1) →
     ((x4 > x5) →
       R (.tuple #[(.int .i64 0), (.int .i64 1)]) h0) ∧
     (¬ (x4 > x5) →
       ((x5 > 1000000) →
         R (.tuple #[(.int .i64 0), (.int .i64 1)]) h0) ∧
       (¬ (x5 > 1000000) →
         (((↑n2 : Int) > 200) →
           R (.tuple #[(.int .i64 0), (.int .i64 3)]) h0) ∧
         (¬ ((↑n2 : Int) > 200) →
           ∃ I6 : Nat → Int → Bool → Int → Prop, (∃ j, I6 j 0 false 0) ∧ ∀ j6, ∀ (x6 : Int) (b7 : Bool) (x8 : Int), I6 j6 x6 b7 x8 → ∀ d9 : Nat → Value,
            ((x8 < (↑n2 : Int)) →
              ∃ I10 : Nat → Int → Int → Prop, (∃ j, I10 j 0 0) ∧ ∀ j10, ∀ (x10 : Int) (x11 : Int), I10 j10 x10 x11 → ∀ d12 : Nat → Value,
               ((x11 < (↑n2 : Int)) →
                 Option.isSome o1 = true ∧
                 x11 ≥ 0 ∧
                 x11 < (↑n2 : Int) ∧
                 Option.isSome o1 = true ∧
                 ∃ (x13 : Int), Option.bind (elt o1 (Int.toNat x11)) h0.cell? = some (.int .i64 x13) ∧
                 Option.isSome o1 = true ∧
                 x8 ≥ 0 ∧
                 x8 < (↑n2 : Int) ∧
                 Option.isSome o1 = true ∧
                 ∃ (x14 : Int), Option.bind (elt o1 (Int.toNat x8)) h0.cell? = some (.int .i64 x14) ∧
                 ((x13 ≤ x14) →
                   InK .i64 (x10 + 1) ∧
                   InK .i64 (x11 + 1) ∧
                   ∃ j', j' < j10 ∧ I10 j' (x10 + 1) (x11 + 1)) ∧
                 (¬ (x13 ≤ x14) →
                   InK .i64 (x11 + 1) ∧
                   ∃ j', j' < j10 ∧ I10 j' x10 (x11 + 1))) ∧
               (¬ (x11 < (↑n2 : Int)) →
                 InK .i64 (x10 * x5) ∧
                 InK .i64 (x4 * (↑n2 : Int)) ∧
                 (((x10 * x5) ≥ (x4 * (↑n2 : Int))) →
                   ((b7 = true) →
                     Option.isSome o1 = true ∧
                     x8 ≥ 0 ∧
                     x8 < (↑n2 : Int) ∧
                     Option.isSome o1 = true ∧
                     ∃ (x13 : Int), Option.bind (elt o1 (Int.toNat x8)) h0.cell? = some (.int .i64 x13) ∧
                     ((x13 < x6) →
                       Option.isSome o1 = true ∧
                       x8 ≥ 0 ∧
                       x8 < (↑n2 : Int) ∧
                       Option.isSome o1 = true ∧
                       ∃ (x14 : Int), Option.bind (elt o1 (Int.toNat x8)) h0.cell? = some (.int .i64 x14) ∧
                       InK .i64 (x8 + 1) ∧
                       ∃ j', j' < j6 ∧ I6 j' x14 true (x8 + 1)) ∧
                     (¬ (x13 < x6) →
                       InK .i64 (x8 + 1) ∧
                       ∃ j', j' < j6 ∧ I6 j' x6 true (x8 + 1))) ∧
                   (¬ (b7 = true) →
                     Option.isSome o1 = true ∧
                     x8 ≥ 0 ∧
                     x8 < (↑n2 : Int) ∧
                     Option.isSome o1 = true ∧
                     ∃ (x13 : Int), Option.bind (elt o1 (Int.toNat x8)) h0.cell? = some (.int .i64 x13) ∧
                     InK .i64 (x8 + 1) ∧
                     ∃ j', j' < j6 ∧ I6 j' x13 true (x8 + 1))) ∧
                 (¬ ((x10 * x5) ≥ (x4 * (↑n2 : Int))) →
                   InK .i64 (x8 + 1) ∧
                   ∃ j', j' < j6 ∧ I6 j' x6 b7 (x8 + 1)))) ∧
            (¬ (x8 < (↑n2 : Int)) →
              R (.tuple #[(.int .i64 x6), (.int .i64 0)]) h0))))))
theorem vc31a (w0 : World) (R : Value → Heap → Prop) (h0 : Heap) (o1 : Option Addr) (n2 : Nat) (n3 : Nat) (x4 : Int) (x5 : Int) : ((top P w0).call 31 (([(.slice (.ov 1) (.nv 2) (.nv 3)), (.int .i64 (.iv 4)), (.int .i64 (.iv 5))] : List SV).map (SV.den [.h h0, .o o1, .n n2, .n n3, .i x4, .i x5])).toArray (Env.h [.h h0, .o o1, .n n2, .n n3, .i x4, .i x5] 0) R) = ((top P w0).call 31 #[(.slice o1 n2 n3), (.int .i64 x4), (.int .i64 x5)] h0 R) := by kernel_rfl
theorem vc31b (w0 : World) (R : Value → Heap → Prop) (h0 : Heap) (o1 : Option Addr) (n2 : Nat) (n3 : Nat) (x4 : Int) (x5 : Int) : (Tree.den P (top P w0) R tc0 [.h h0, .o o1, .n n2, .n n3, .i x4, .i x5] (vcT P exts vc31H 100000 31 [(.slice (.ov 1) (.nv 2) (.nv 3)), (.int .i64 (.iv 4)), (.int .i64 (.iv 5))] 0 (List.length ([.h h0, .o o1, .n n2, .n n3, .i x4, .i x5] : Env)))) = (vc31P w0 R h0 o1 n2 n3 x4 x5) := by kernel_rfl
theorem vc31 (w0 : World) (R : Value → Heap → Prop) (h0 : Heap) (o1 : Option Addr) (n2 : Nat) (n3 : Nat) (x4 : Int) (x5 : Int) (hyp : vc31P w0 R h0 o1 n2 n3 x4 x5) : (top P w0).call 31 #[(.slice o1 n2 n3), (.int .i64 x4), (.int .i64 x5)] h0 R :=
  vc_eq extOK (vc31b w0 R h0 o1 n2 n3 x4 x5) hyp (vc31a w0 R h0 o1 n2 n3 x4 x5)
noncomputable def vc71_1H : Hints := { loops := [{ f := 71, p := [0, 1, 0, 1, 1, 1], unroll := 0, keepH := true, live := [5, 13], cells := [] }], calls := [] }
def vc71_1P (w0 : World) (R : Value → Heap → Prop) (h0 : Heap) (o1 : Option Addr) (n2 : Nat) (n3 : Nat) : Prop :=
 (((↑n2 : Int) = 0) →
   R (.int .i64 0) h0) ∧
 (¬ ((↑n2 : Int) = 0) →
   ∃ I4 : Nat → Int → Int → Prop, (∃ j, I4 j 0 0) ∧ ∀ j4, ∀ (x4 : Int) (x5 : Int), I4 j4 x4 x5 → ∀ d6 : Nat → Value,
    ((x5 < (↑n2 : Int)) →
      Option.isSome o1 = true ∧
      x5 ≥ 0 ∧
      x5 < (↑n2 : Int) ∧
      Option.isSome o1 = true ∧
      ∃ (x7 : Int), Option.bind (elt o1 (Int.toNat x5)) h0.cell? = some (.int .i64 x7) ∧
      InK .i64 (x4 + x7) ∧
      InK .i64 (x5 + 1) ∧
      ∃ j', j' < j4 ∧ I4 j' (x4 + x7) (x5 + 1)) ∧
    (¬ (x5 < (↑n2 : Int)) →
      R (.int .i64 x4) h0))
theorem vc71_1a (w0 : World) (R : Value → Heap → Prop) (h0 : Heap) (o1 : Option Addr) (n2 : Nat) (n3 : Nat) : ((top P w0).call 71 (([(.slice (.ov 1) (.nv 2) (.nv 3)), (.int .i64 (.lit (1)))] : List SV).map (SV.den [.h h0, .o o1, .n n2, .n n3])).toArray (Env.h [.h h0, .o o1, .n n2, .n n3] 0) R) = ((top P w0).call 71 #[(.slice o1 n2 n3), (.int .i64 1)] h0 R) := by kernel_rfl
theorem vc71_1b (w0 : World) (R : Value → Heap → Prop) (h0 : Heap) (o1 : Option Addr) (n2 : Nat) (n3 : Nat) : (Tree.den P (top P w0) R tc0 [.h h0, .o o1, .n n2, .n n3] (vcT P exts vc71_1H 100000 71 [(.slice (.ov 1) (.nv 2) (.nv 3)), (.int .i64 (.lit (1)))] 0 (List.length ([.h h0, .o o1, .n n2, .n n3] : Env)))) = (vc71_1P w0 R h0 o1 n2 n3) := by kernel_rfl
theorem vc71_1 (w0 : World) (R : Value → Heap → Prop) (h0 : Heap) (o1 : Option Addr) (n2 : Nat) (n3 : Nat) (hyp : vc71_1P w0 R h0 o1 n2 n3) : (top P w0).call 71 #[(.slice o1 n2 n3), (.int .i64 1)] h0 R :=
  vc_eq extOK (vc71_1b w0 R h0 o1 n2 n3) hyp (vc71_1a w0 R h0 o1 n2 n3)
noncomputable def vc74H : Hints := { loops := [], calls := [] }
def vc74P (w0 : World) (R : Value → Heap → Prop) (h0 : Heap) (x1 : Int) (x2 : Int) : Prop :=
 ¬ x2 = 0 ∧
 InK .i64 (Int.tdiv x1 x2) ∧
 InK .i64 ((Int.tdiv x1 x2) * x2) ∧
 ((((Int.tdiv x1 x2) * x2) > x1) →
   InK .i64 ((Int.tdiv x1 x2) - 1) ∧
   R (.int .i64 ((Int.tdiv x1 x2) - 1)) h0) ∧
 (¬ (((Int.tdiv x1 x2) * x2) > x1) →
   R (.int .i64 (Int.tdiv x1 x2)) h0)
theorem vc74a (w0 : World) (R : Value → Heap → Prop) (h0 : Heap) (x1 : Int) (x2 : Int) : ((top P w0).call 74 (([(.int .i64 (.iv 1)), (.int .i64 (.iv 2))] : List SV).map (SV.den [.h h0, .i x1, .i x2])).toArray (Env.h [.h h0, .i x1, .i x2] 0) R) = ((top P w0).call 74 #[(.int .i64 x1), (.int .i64 x2)] h0 R) := by kernel_rfl
theorem vc74b (w0 : World) (R : Value → Heap → Prop) (h0 : Heap) (x1 : Int) (x2 : Int) : (Tree.den P (top P w0) R tc0 [.h h0, .i x1, .i x2] (vcT P exts vc74H 100000 74 [(.int .i64 (.iv 1)), (.int .i64 (.iv 2))] 0 (List.length ([.h h0, .i x1, .i x2] : Env)))) = (vc74P w0 R h0 x1 x2) := by kernel_rfl
theorem vc74 (w0 : World) (R : Value → Heap → Prop) (h0 : Heap) (x1 : Int) (x2 : Int) (hyp : vc74P w0 R h0 x1 x2) : (top P w0).call 74 #[(.int .i64 x1), (.int .i64 x2)] h0 R :=
  vc_eq extOK (vc74b w0 R h0 x1 x2) hyp (vc74a w0 R h0 x1 x2)
noncomputable def vc75H : Hints := { loops := [{ f := 75, p := [0, 0, 1, 1, 1], unroll := 0, keepH := true, live := [7, 8], cells := [] }], calls := [] }
def vc75P (w0 : World) (R : Value → Heap → Prop) (h0 : Heap) (o1 : Option Addr) (n2 : Nat) (n3 : Nat) (x4 : Int) : Prop :=
 ∃ I5 : Nat → Int → Int → Prop, (∃ j, I5 j 0 (↑n2 : Int)) ∧ ∀ j5, ∀ (x5 : Int) (x6 : Int), I5 j5 x5 x6 → ∀ d7 : Nat → Value,
  ((x5 < x6) →
    InK .i64 (x5 + x6) ∧
    InK .i64 (binI .shr .u64 (IntKind.wrap .u64 (x5 + x6)) 1) ∧
    Option.isSome o1 = true ∧
    (binI .shr .u64 (IntKind.wrap .u64 (x5 + x6)) 1) ≥ 0 ∧
    (binI .shr .u64 (IntKind.wrap .u64 (x5 + x6)) 1) < (↑n2 : Int) ∧
    Option.isSome o1 = true ∧
    ∃ (x8 : Int), Option.bind (elt o1 (Int.toNat (binI .shr .u64 (IntKind.wrap .u64 (x5 + x6)) 1))) h0.cell? = some (.int .i64 x8) ∧
    ((x8 < x4) →
      InK .i64 ((binI .shr .u64 (IntKind.wrap .u64 (x5 + x6)) 1) + 1) ∧
      ∃ j', j' < j5 ∧ I5 j' ((binI .shr .u64 (IntKind.wrap .u64 (x5 + x6)) 1) + 1) x6) ∧
    (¬ (x8 < x4) →
      ∃ j', j' < j5 ∧ I5 j' x5 (binI .shr .u64 (IntKind.wrap .u64 (x5 + x6)) 1))) ∧
  (¬ (x5 < x6) →
    ((x5 < (↑n2 : Int)) →
      Option.isSome o1 = true ∧
      x5 ≥ 0 ∧
      x5 < (↑n2 : Int) ∧
      Option.isSome o1 = true ∧
      ∃ (x8 : Int), Option.bind (elt o1 (Int.toNat x5)) h0.cell? = some (.int .i64 x8) ∧
      ((x8 = x4) →
        R (.tuple #[(.int .i64 x5), (.bool true)]) h0) ∧
      (¬ (x8 = x4) →
        Option.isSome o1 = true ∧
        x5 ≥ 0 ∧
        x5 < (↑n2 : Int) ∧
        Option.isSome o1 = true ∧
        ∃ (x9 : Int), Option.bind (elt o1 (Int.toNat x5)) h0.cell? = some (.int .i64 x9) ∧
        R (.tuple #[(.int .i64 x5), (.bool false)]) h0)) ∧
    (¬ (x5 < (↑n2 : Int)) →
      R (.tuple #[(.int .i64 x5), (.bool false)]) h0))
theorem vc75a (w0 : World) (R : Value → Heap → Prop) (h0 : Heap) (o1 : Option Addr) (n2 : Nat) (n3 : Nat) (x4 : Int) : ((top P w0).call 75 (([(.slice (.ov 1) (.nv 2) (.nv 3)), (.int .i64 (.iv 4))] : List SV).map (SV.den [.h h0, .o o1, .n n2, .n n3, .i x4])).toArray (Env.h [.h h0, .o o1, .n n2, .n n3, .i x4] 0) R) = ((top P w0).call 75 #[(.slice o1 n2 n3), (.int .i64 x4)] h0 R) := by kernel_rfl
theorem vc75b (w0 : World) (R : Value → Heap → Prop) (h0 : Heap) (o1 : Option Addr) (n2 : Nat) (n3 : Nat) (x4 : Int) : (Tree.den P (top P w0) R tc0 [.h h0, .o o1, .n n2, .n n3, .i x4] (vcT P exts vc75H 100000 75 [(.slice (.ov 1) (.nv 2) (.nv 3)), (.int .i64 (.iv 4))] 0 (List.length ([.h h0, .o o1, .n n2, .n n3, .i x4] : Env)))) = (vc75P w0 R h0 o1 n2 n3 x4) := by kernel_rfl
theorem vc75 (w0 : World) (R : Value → Heap → Prop) (h0 : Heap) (o1 : Option Addr) (n2 : Nat) (n3 : Nat) (x4 : Int) (hyp : vc75P w0 R h0 o1 n2 n3 x4) : (top P w0).call 75 #[(.slice o1 n2 n3), (.int .i64 x4)] h0 R :=
  vc_eq extOK (vc75b w0 R h0 o1 n2 n3 x4) hyp (vc75a w0 R h0 o1 n2 n3 x4)
noncomputable def vc55_73H : Hints := { loops := [{ f := 110, p := [0, 1, 0, 1], unroll := 0, keepH := true, live := [8], cells := [] }], calls := [] }
def vc55_73P (w0 : World) (R : Value → Heap → Prop) (h0 : Heap) (o1 : Option Addr) (n2 : Nat) (n3 : Nat) : Prop :=
 ∃ I4 : Nat → Int → Prop, (∃ j, I4 j 0) ∧ ∀ j4, ∀ (x4 : Int), I4 j4 x4 → ∀ d5 : Nat → Value,
  ((x4 < (↑n2 : Int)) →
    Option.isSome o1 = true ∧
    x4 ≥ 0 ∧
    x4 < (↑n2 : Int) ∧
    Option.isSome o1 = true ∧
    ∃ (x6 : Int), Option.bind (elt o1 (Int.toNat x4)) h0.cell? = some (.int .i64 x6) ∧
    ((x6 > 4503599627370496) →
      R (.bool (cmpB .geq x4 0)) h0) ∧
    (¬ (x6 > 4503599627370496) →
      ((x6 < (-4503599627370496)) →
        R (.bool (cmpB .geq x4 0)) h0) ∧
      (¬ (x6 < (-4503599627370496)) →
        InK .i64 (x4 + 1) ∧
        ∃ j', j' < j4 ∧ I4 j' (x4 + 1)))) ∧
  (¬ (x4 < (↑n2 : Int)) →
    R (.bool false) h0)
theorem vc55_73a (w0 : World) (R : Value → Heap → Prop) (h0 : Heap) (o1 : Option Addr) (n2 : Nat) (n3 : Nat) : ((top P w0).call 55 (([(.slice (.ov 1) (.nv 2) (.nv 3)), (.func 73 .nil .nil)] : List SV).map (SV.den [.h h0, .o o1, .n n2, .n n3])).toArray (Env.h [.h h0, .o o1, .n n2, .n n3] 0) R) = ((top P w0).call 55 #[(.slice o1 n2 n3), (.func (.func 73) #[] #[])] h0 R) := by kernel_rfl
theorem vc55_73b (w0 : World) (R : Value → Heap → Prop) (h0 : Heap) (o1 : Option Addr) (n2 : Nat) (n3 : Nat) : (Tree.den P (top P w0) R tc0 [.h h0, .o o1, .n n2, .n n3] (vcT P exts vc55_73H 100000 55 [(.slice (.ov 1) (.nv 2) (.nv 3)), (.func 73 .nil .nil)] 0 (List.length ([.h h0, .o o1, .n n2, .n n3] : Env)))) = (vc55_73P w0 R h0 o1 n2 n3) := by kernel_rfl
theorem vc55_73 (w0 : World) (R : Value → Heap → Prop) (h0 : Heap) (o1 : Option Addr) (n2 : Nat) (n3 : Nat) (hyp : vc55_73P w0 R h0 o1 n2 n3) : (top P w0).call 55 #[(.slice o1 n2 n3), (.func (.func 73) #[] #[])] h0 R :=
  vc_eq extOK (vc55_73b w0 R h0 o1 n2 n3) hyp (vc55_73a w0 R h0 o1 n2 n3)
end Go.Proofs.YtkfoibidnkfndaaGreatDoor
