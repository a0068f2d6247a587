import Derived.Test.YtkfoibidnkfndaaGreatDoorTpSo
import Derived.Test.YtkfoibidnkfndaaGreatDoorTpV1
set_option linter.unusedSimpArgs false
set_option linter.unusedVariables false
set_option maxRecDepth 100000
namespace Go.Proofs.YtkfoibidnkfndaaGreatDoor
open Go.Abs
noncomputable def vc5H : Hints := { loops := [], calls := [16, 19, 20] }
def vc5P (w0 : World) (R : Value → Heap → Prop) (h0 : Heap) (o1 : Option Addr) (n2 : Nat) (n3 : Nat) (o4 : Option Addr) (n5 : Nat) (n6 : Nat) (x7 : Int) : Prop :=
 InK .i64 ((↑n2 : Int) + (↑n5 : Int)) ∧
 ((((↑n2 : Int) + (↑n5 : Int)) > 20000) →
   (top P w0).call 16 #[] h0 fun v10 h9 =>
    ∃ (b8 : Bool), v10 = (.bool b8) ∧
    R (.bool b8) h9) ∧
 (¬ (((↑n2 : Int) + (↑n5 : Int)) > 20000) →
   (top P w0).call 19 #[(.slice o1 n2 n3), (.slice o4 n5 n6), (.int .i64 x7)] h0 fun v12 h11 =>
    ∃ (x8 : Int) (x9 : Int) (x10 : Int), v12 = (.tuple #[(.int .i64 x8), (.int .i64 x9), (.int .i64 x10)]) ∧
    (top P w0).call 20 #[(.slice o1 n2 n3), (.slice o4 n5 n6), (.int .i64 x7)] h11 fun v16 h15 =>
     ∃ (x12 : Int) (x13 : Int) (x14 : Int), v16 = (.tuple #[(.int .i64 x12), (.int .i64 x13), (.int .i64 x14)]) ∧
     ((x8 = x12) →
       ((x9 = x13) →
         ((x10 = x14) →
           (top P w0).call 16 #[] h15 fun v18 h17 =>
            ∃ (b16 : Bool), v18 = (.bool b16) ∧
            R (.bool b16) h17) ∧
         (¬ (x10 = x14) →
           R (.bool false) h15)) ∧
       (¬ (x9 = x13) →
         R (.bool false) h15)) ∧
     (¬ (x8 = x12) →
       R (.bool false) h15))
theorem vc5a (w0 : World) (R : Value → Heap → Prop) (h0 : Heap) (o1 : Option Addr) (n2 : Nat) (n3 : Nat) (o4 : Option Addr) (n5 : Nat) (n6 : Nat) (x7 : Int) : ((top P w0).call 5 (([(.slice (.ov 1) (.nv 2) (.nv 3)), (.slice (.ov 4) (.nv 5) (.nv 6)), (.int .i64 (.iv 7))] : List SV).map (SV.den [.h h0, .o o1, .n n2, .n n3, .o o4, .n n5, .n n6, .i x7])).toArray (Env.h [.h h0, .o o1, .n n2, .n n3, .o o4, .n n5, .n n6, .i x7] 0) R) = ((top P w0).call 5 #[(.slice o1 n2 n3), (.slice o4 n5 n6), (.int .i64 x7)] h0 R) := by kernel_rfl
theorem vc5b (w0 : World) (R : Value → Heap → Prop) (h0 : Heap) (o1 : Option Addr) (n2 : Nat) (n3 : Nat) (o4 : Option Addr) (n5 : Nat) (n6 : Nat) (x7 : Int) : (Tree.den P (top P w0) R tc0 [.h h0, .o o1, .n n2, .n n3, .o o4, .n n5, .n n6, .i x7] (vcT P exts vc5H 100000 5 [(.slice (.ov 1) (.nv 2) (.nv 3)), (.slice (.ov 4) (.nv 5) (.nv 6)), (.int .i64 (.iv 7))] 0 (List.length ([.h h0, .o o1, .n n2, .n n3, .o o4, .n n5, .n n6, .i x7] : Env)))) = (vc5P w0 R h0 o1 n2 n3 o4 n5 n6 x7) := by kernel_rfl
theorem vc5 (w0 : World) (R : Value → Heap → Prop) (h0 : Heap) (o1 : Option Addr) (n2 : Nat) (n3 : Nat) (o4 : Option Addr) (n5 : Nat) (n6 : Nat) (x7 : Int) (hyp : vc5P w0 R h0 o1 n2 n3 o4 n5 n6 x7) : (top P w0).call 5 #[(.slice o1 n2 n3), (.slice o4 n5 n6), (.int .i64 x7)] h0 R :=
  vc_eq extOK (vc5b w0 R h0 o1 n2 n3 o4 n5 n6 x7) hyp (vc5a w0 R h0 o1 n2 n3 o4 n5 n6 x7)
noncomputable def vc19H : Hints := { loops := [{ f := 19, p := [0, 1, 0, 1, 1, 1], unroll := 0, keepH := true, live := [9, 10, 44], cells := [] }, { f := 19, p := [0, 1, 0, 1, 1, 0, 0, 1, 1, 0, 0, 1, 0, 1, 1, 1], unroll := 0, keepH := true, live := [13, 50], cells := [] }], calls := [55, 61] }
def vc19P (w0 : World) (R : Value → Heap → Prop) (h0 : Heap) (o1 : Option Addr) (n2 : Nat) (n3 : Nat) (o4 : Option Addr) (n5 : Nat) (n6 : Nat) (x7 : Int) : Prop :=
 ((¬ (↑n2 : Int) = (↑n5 : Int)) →
   R (.tuple #[(.int .i64 0), (.int .i64 0), (.int .i64 10)]) h0) ∧
 (¬ (¬ (↑n2 : Int) = (↑n5 : Int)) →
   (((↑n2 : Int) > 200) →
     R (.tuple #[(.int .i64 0), (.int .i64 0), (.int .i64 3)]) h0) ∧
   (¬ ((↑n2 : Int) > 200) →
     (((↑n2 : Int) = 0) →
       R (.tuple #[(.int .i64 0), (.int .i64 0), (.int .i64 4)]) h0) ∧
     (¬ ((↑n2 : Int) = 0) →
       ((x7 < 1) →
         R (.tuple #[(.int .i64 0), (.int .i64 0), (.int .i64 1)]) h0) ∧
       (¬ (x7 < 1) →
         (top P w0).call 55 #[(.slice o1 n2 n3), (.func (.func 59) #[] #[])] h0 fun v10 h9 =>
          ∃ (b8 : Bool), v10 = (.bool b8) ∧
          ((b8 = true) →
            R (.tuple #[(.int .i64 0), (.int .i64 0), (.int .i64 1)]) h9) ∧
          (¬ (b8 = true) →
            (top P w0).call 55 #[(.slice o4 n5 n6), (.func (.func 60) #[] #[])] h9 fun v12 h11 =>
             ∃ (b10 : Bool), v12 = (.bool b10) ∧
             ((b10 = true) →
               R (.tuple #[(.int .i64 0), (.int .i64 0), (.int .i64 1)]) h11) ∧
             (¬ (b10 = true) →
               (top P w0).call 61 #[(.func (.func 113) #[] #[(.pointer (some ⟨(h11.next + 0), 0, none⟩))])] (hup h11 1 [((h11.next + 0), some (.cells #[(.slice o1 n2 n3)] 27 (0, 0)))] h11.pins) fun v16 h15 =>
                ∃ (o12 : Option Addr) (n13 : Nat) (n14 : Nat), v16 = (.slice o12 n13 n14) ∧
                ∃ I16 : Nat → Int → Int → Int → Prop, (∃ j, I16 j (-1) 0 0) ∧ ∀ j16, ∀ (x16 : Int) (x17 : Int) (x18 : Int), I16 j16 x16 x17 x18 → ∀ d19 : Nat → Value,
                 ((x18 < (↑n13 : Int)) →
                   Option.isSome o12 = true ∧
                   x18 ≥ 0 ∧
                   x18 < (↑n13 : Int) ∧
                   Option.isSome o12 = true ∧
                   ∃ (x20 : Int), Option.bind (elt o12 (Int.toNat x18)) h15.cell? = some (.int .i64 x20) ∧
                   ∃ I21 : Nat → Int → Int → Prop, (∃ j, I21 j 0 0) ∧ ∀ j21, ∀ (x21 : Int) (x22 : Int), I21 j21 x21 x22 → ∀ d23 : Nat → Value,
                    ((x22 < (↑n2 : Int)) →
                      Option.isSome o1 = true ∧
                      x22 ≥ 0 ∧
                      x22 < (↑n2 : Int) ∧
                      Option.isSome o1 = true ∧
                      ∃ (x24 : Int), Option.bind (elt o1 (Int.toNat x22)) h15.cell? = some (.int .i64 x24) ∧
                      ((x24 ≥ x20) →
                        InK .i64 (x24 - x20) ∧
                        (((x24 - x20) < x7) →
                          Option.isSome o4 = true ∧
                          x22 ≥ 0 ∧
                          x22 < (↑n5 : Int) ∧
                          Option.isSome o4 = true ∧
                          ∃ (x25 : Int), Option.bind (elt o4 (Int.toNat x22)) h15.cell? = some (.int .i64 x25) ∧
                          InK .i64 (x21 + x25) ∧
                          InK .i64 (x22 + 1) ∧
                          ∃ j', j' < j21 ∧ I21 j' (x21 + x25) (x22 + 1)) ∧
                        (¬ ((x24 - x20) < x7) →
                          InK .i64 (x22 + 1) ∧
                          ∃ j', j' < j21 ∧ I21 j' x21 (x22 + 1))) ∧
                      (¬ (x24 ≥ x20) →
                        InK .i64 (x22 + 1) ∧
                        ∃ j', j' < j21 ∧ I21 j' x21 (x22 + 1))) ∧
                    (¬ (x22 < (↑n2 : Int)) →
                      ((x21 > x16) →
                        InK .i64 (x18 + 1) ∧
                        ∃ j', j' < j16 ∧ I16 j' x21 x20 (x18 + 1)) ∧
                      (¬ (x21 > x16) →
                        InK .i64 (x18 + 1) ∧
                        ∃ j', j' < j16 ∧ I16 j' x16 x17 (x18 + 1)))) ∧
                 (¬ (x18 < (↑n13 : Int)) →
                   R (.tuple #[(.int .i64 x16), (.int .i64 x17), (.int .i64 0)]) h15)))))))
theorem vc19a (w0 : World) (R : Value → Heap → Prop) (h0 : Heap) (o1 : Option Addr) (n2 : Nat) (n3 : Nat) (o4 : Option Addr) (n5 : Nat) (n6 : Nat) (x7 : Int) : ((top P w0).call 19 (([(.slice (.ov 1) (.nv 2) (.nv 3)), (.slice (.ov 4) (.nv 5) (.nv 6)), (.int .i64 (.iv 7))] : List SV).map (SV.den [.h h0, .o o1, .n n2, .n n3, .o o4, .n n5, .n n6, .i x7])).toArray (Env.h [.h h0, .o o1, .n n2, .n n3, .o o4, .n n5, .n n6, .i x7] 0) R) = ((top P w0).call 19 #[(.slice o1 n2 n3), (.slice o4 n5 n6), (.int .i64 x7)] h0 R) := by kernel_rfl
theorem vc19b (w0 : World) (R : Value → Heap → Prop) (h0 : Heap) (o1 : Option Addr) (n2 : Nat) (n3 : Nat) (o4 : Option Addr) (n5 : Nat) (n6 : Nat) (x7 : Int) : (Tree.den P (top P w0) R tc0 [.h h0, .o o1, .n n2, .n n3, .o o4, .n n5, .n n6, .i x7] (vcT P exts vc19H 100000 19 [(.slice (.ov 1) (.nv 2) (.nv 3)), (.slice (.ov 4) (.nv 5) (.nv 6)), (.int .i64 (.iv 7))] 0 (List.length ([.h h0, .o o1, .n n2, .n n3, .o o4, .n n5, .n n6, .i x7] : Env)))) = (vc19P w0 R h0 o1 n2 n3 o4 n5 n6 x7) := by kernel_rfl
theorem vc19 (w0 : World) (R : Value → Heap → Prop) (h0 : Heap) (o1 : Option Addr) (n2 : Nat) (n3 : Nat) (o4 : Option Addr) (n5 : Nat) (n6 : Nat) (x7 : Int) (hyp : vc19P w0 R h0 o1 n2 n3 o4 n5 n6 x7) : (top P w0).call 19 #[(.slice o1 n2 n3), (.slice o4 n5 n6), (.int .i64 x7)] h0 R :=
  vc_eq extOK (vc19b w0 R h0 o1 n2 n3 o4 n5 n6 x7) hyp (vc19a w0 R h0 o1 n2 n3 o4 n5 n6 x7)
noncomputable def vc20H : Hints := { loops := [{ f := 20, p := [0, 1, 0, 1, 1, 1, 1, 1], unroll := 0, keepH := true, live := [9], cells := [] }, { f := 20, p := [0, 1, 0, 1, 1, 1, 1, 1, 1, 1], unroll := 0, keepH := true, live := [10, 11, 12], cells := [] }, { f := 20, p := [0, 1, 0, 1, 0, 0, 1, 0, 0, 1, 0, 1, 1, 1, 1, 1, 1, 1], unroll := 0, keepH := true, live := [13, 14], cells := [] }], calls := [] }
def vc20P (w0 : World) (R : Value → Heap → Prop) (h0 : Heap) (o1 : Option Addr) (n2 : Nat) (n3 : Nat) (o4 : Option Addr) (n5 : Nat) (n6 : Nat) (x7 : Int) : Prop :=
 ((¬ (↑n2 : Int) = (↑n5 : Int)) →
   R (.tuple #[(.int .i64 0), (.int .i64 0), (.int .i64 10)]) h0) ∧
 (¬ (¬ (↑n2 : Int) = (↑n5 : Int)) →
   (((↑n2 : Int) > 200) →
     R (.tuple #[(.int .i64 0), (.int .i64 0), (.int .i64 3)]) h0) ∧
   (¬ ((↑n2 : Int) > 200) →
     (((↑n2 : Int) = 0) →
       R (.tuple #[(.int .i64 0), (.int .i64 0), (.int .i64 4)]) h0) ∧
     (¬ ((↑n2 : Int) = 0) →
       ((x7 < 1) →
         R (.tuple #[(.int .i64 0), (.int .i64 0), (.int .i64 1)]) h0) ∧
       (¬ (x7 < 1) →
         ∃ I8 : Nat → Int → Prop, (∃ j, I8 j 0) ∧ ∀ j8, ∀ (x8 : Int), I8 j8 x8 → ∀ d9 : Nat → Value,
          ((x8 < (↑n2 : Int)) →
            Option.isSome o1 = true ∧
            x8 ≥ 0 ∧
            x8 < (↑n2 : Int) ∧
            Option.isSome o1 = true ∧
            ∃ (x10 : Int), Option.bind (elt o1 (Int.toNat x8)) h0.cell? = some (.int .i64 x10) ∧
            ((x10 ≥ 0) →
              ((x10 ≤ 1000000000000000) →
                Option.isSome o4 = true ∧
                x8 ≥ 0 ∧
                x8 < (↑n5 : Int) ∧
                Option.isSome o4 = true ∧
                ∃ (x11 : Int), Option.bind (elt o4 (Int.toNat x8)) h0.cell? = some (.int .i64 x11) ∧
                ((x11 < 0) →
                  R (.tuple #[(.int .i64 0), (.int .i64 0), (.int .i64 1)]) h0) ∧
                (¬ (x11 < 0) →
                  Option.isSome o4 = true ∧
                  x8 ≥ 0 ∧
                  x8 < (↑n5 : Int) ∧
                  Option.isSome o4 = true ∧
                  ∃ (x12 : Int), Option.bind (elt o4 (Int.toNat x8)) h0.cell? = some (.int .i64 x12) ∧
                  ((x12 > 1000000) →
                    R (.tuple #[(.int .i64 0), (.int .i64 0), (.int .i64 1)]) h0) ∧
                  (¬ (x12 > 1000000) →
                    InK .i64 (x8 + 1) ∧
                    ∃ j', j' < j8 ∧ I8 j' (x8 + 1)))) ∧
              (¬ (x10 ≤ 1000000000000000) →
                R (.tuple #[(.int .i64 0), (.int .i64 0), (.int .i64 1)]) h0)) ∧
            (¬ (x10 ≥ 0) →
              R (.tuple #[(.int .i64 0), (.int .i64 0), (.int .i64 1)]) h0)) ∧
          (¬ (x8 < (↑n2 : Int)) →
            ∃ I10 : Nat → Int → Int → Int → Prop, (∃ j, I10 j (-1) 0 0) ∧ ∀ j10, ∀ (x10 : Int) (x11 : Int) (x12 : Int), I10 j10 x10 x11 x12 → ∀ d13 : Nat → Value,
             ((x12 < (↑n2 : Int)) →
               ∃ I14 : Nat → Int → Int → Prop, (∃ j, I14 j 0 0) ∧ ∀ j14, ∀ (x14 : Int) (x15 : Int), I14 j14 x14 x15 → ∀ d16 : Nat → Value,
                ((x15 < (↑n2 : Int)) →
                  Option.isSome o1 = true ∧
                  x15 ≥ 0 ∧
                  x15 < (↑n2 : Int) ∧
                  Option.isSome o1 = true ∧
                  ∃ (x17 : Int), Option.bind (elt o1 (Int.toNat x15)) h0.cell? = some (.int .i64 x17) ∧
                  Option.isSome o1 = true ∧
                  x12 ≥ 0 ∧
                  x12 < (↑n2 : Int) ∧
                  Option.isSome o1 = true ∧
                  ∃ (x18 : Int), Option.bind (elt o1 (Int.toNat x12)) h0.cell? = some (.int .i64 x18) ∧
                  InK .i64 (x17 - x18) ∧
                  (((x17 - x18) ≥ 0) →
                    (((x17 - x18) < x7) →
                      Option.isSome o4 = true ∧
                      x15 ≥ 0 ∧
                      x15 < (↑n5 : Int) ∧
                      Option.isSome o4 = true ∧
                      ∃ (x19 : Int), Option.bind (elt o4 (Int.toNat x15)) h0.cell? = some (.int .i64 x19) ∧
                      InK .i64 (x14 + x19) ∧
                      InK .i64 (x15 + 1) ∧
                      ∃ j', j' < j14 ∧ I14 j' (x14 + x19) (x15 + 1)) ∧
                    (¬ ((x17 - x18) < x7) →
                      InK .i64 (x15 + 1) ∧
                      ∃ j', j' < j14 ∧ I14 j' x14 (x15 + 1))) ∧
                  (¬ ((x17 - x18) ≥ 0) →
                    InK .i64 (x15 + 1) ∧
                    ∃ j', j' < j14 ∧ I14 j' x14 (x15 + 1))) ∧
                (¬ (x15 < (↑n2 : Int)) →
                  ((x14 > x10) →
                    Option.isSome o1 = true ∧
                    x12 ≥ 0 ∧
                    x12 < (↑n2 : Int) ∧
                    Option.isSome o1 = true ∧
                    ∃ (x17 : Int), Option.bind (elt o1 (Int.toNat x12)) h0.cell? = some (.int .i64 x17) ∧
                    InK .i64 (x12 + 1) ∧
                    ∃ j', j' < j10 ∧ I10 j' x14 x17 (x12 + 1)) ∧
                  (¬ (x14 > x10) →
                    ((x14 = x10) →
                      Option.isSome o1 = true ∧
                      x12 ≥ 0 ∧
                      x12 < (↑n2 : Int) ∧
                      Option.isSome o1 = true ∧
                      ∃ (x17 : Int), Option.bind (elt o1 (Int.toNat x12)) h0.cell? = some (.int .i64 x17) ∧
                      ((x17 < x11) →
                        Option.isSome o1 = true ∧
                        x12 ≥ 0 ∧
                        x12 < (↑n2 : Int) ∧
                        Option.isSome o1 = true ∧
                        ∃ (x18 : Int), Option.bind (elt o1 (Int.toNat x12)) h0.cell? = some (.int .i64 x18) ∧
                        InK .i64 (x12 + 1) ∧
                        ∃ j', j' < j10 ∧ I10 j' x14 x18 (x12 + 1)) ∧
                      (¬ (x17 < x11) →
                        InK .i64 (x12 + 1) ∧
                        ∃ j', j' < j10 ∧ I10 j' x10 x11 (x12 + 1))) ∧
                    (¬ (x14 = x10) →
                      InK .i64 (x12 + 1) ∧
                      ∃ j', j' < j10 ∧ I10 j' x10 x11 (x12 + 1))))) ∧
             (¬ (x12 < (↑n2 : Int)) →
               R (.tuple #[(.int .i64 x10), (.int .i64 x11), (.int .i64 0)]) h0))))))
theorem vc20a (w0 : World) (R : Value → Heap → Prop) (h0 : Heap) (o1 : Option Addr) (n2 : Nat) (n3 : Nat) (o4 : Option Addr) (n5 : Nat) (n6 : Nat) (x7 : Int) : ((top P w0).call 20 (([(.slice (.ov 1) (.nv 2) (.nv 3)), (.slice (.ov 4) (.nv 5) (.nv 6)), (.int .i64 (.iv 7))] : List SV).map (SV.den [.h h0, .o o1, .n n2, .n n3, .o o4, .n n5, .n n6, .i x7])).toArray (Env.h [.h h0, .o o1, .n n2, .n n3, .o o4, .n n5, .n n6, .i x7] 0) R) = ((top P w0).call 20 #[(.slice o1 n2 n3), (.slice o4 n5 n6), (.int .i64 x7)] h0 R) := by kernel_rfl
theorem vc20b (w0 : World) (R : Value → Heap → Prop) (h0 : Heap) (o1 : Option Addr) (n2 : Nat) (n3 : Nat) (o4 : Option Addr) (n5 : Nat) (n6 : Nat) (x7 : Int) : (Tree.den P (top P w0) R tc0 [.h h0, .o o1, .n n2, .n n3, .o o4, .n n5, .n n6, .i x7] (vcT P exts vc20H 100000 20 [(.slice (.ov 1) (.nv 2) (.nv 3)), (.slice (.ov 4) (.nv 5) (.nv 6)), (.int .i64 (.iv 7))] 0 (List.length ([.h h0, .o o1, .n n2, .n n3, .o o4, .n n5, .n n6, .i x7] : Env)))) = (vc20P w0 R h0 o1 n2 n3 o4 n5 n6 x7) := by kernel_rfl
theorem vc20 (w0 : World) (R : Value → Heap → Prop) (h0 : Heap) (o1 : Option Addr) (n2 : Nat) (n3 : Nat) (o4 : Option Addr) (n5 : Nat) (n6 : Nat) (x7 : Int) (hyp : vc20P w0 R h0 o1 n2 n3 o4 n5 n6 x7) : (top P w0).call 20 #[(.slice o1 n2 n3), (.slice o4 n5 n6), (.int .i64 x7)] h0 R :=
  vc_eq extOK (vc20b w0 R h0 o1 n2 n3 o4 n5 n6 x7) hyp (vc20a w0 R h0 o1 n2 n3 o4 n5 n6 x7)
noncomputable def vc61H : Hints := { loops := [{ f := 113, p := [0, 1], unroll := 0, keepH := false, live := [7], cells := [(.nx 0 0, 0), (.nx 0 0, 1), (.nx 0 0, 2), (.nx 0 0, 3), (.nx 0 0, 4), (.nx 0 0, 5), (.nx 0 0, 6), (.nx 0 0, 7), (.nx 0 0, 8), (.nx 0 0, 9), (.nx 0 0, 10), (.nx 0 0, 11), (.nx 0 0, 12), (.nx 0 0, 13), (.nx 0 0, 14), (.nx 0 0, 15), (.nx 0 0, 16), (.nx 0 0, 17), (.nx 0 0, 18), (.nx 0 0, 19), (.nx 0 0, 20), (.nx 0 0, 21), (.nx 0 0, 22), (.nx 0 0, 23), (.nx 0 0, 24), (.nx 0 0, 25), (.nx 0 0, 26), (.nx 0 0, 27), (.nx 0 0, 28), (.nx 0 0, 29), (.nx 0 0, 30), (.nx 0 0, 31), (.nx 0 0, 32), (.nx 0 0, 33), (.nx 0 0, 34), (.nx 0 0, 35), (.nx 0 0, 36), (.nx 0 0, 37), (.nx 0 0, 38), (.nx 0 0, 39)] }], calls := [112], boxes := [(2, "iter.go:50")] }
def vc61P (w0 : World) (R : Value → Heap → Prop) (h0 : Heap) (n1 : Nat) : Prop :=
 (∀ x : Addr, (some ⟨n1, 0, none⟩) = some x → x.block ≠ (h0.next + 0)) ∧ (∀ x : Addr, (some ⟨n1, 0, none⟩) = some x → x.block ≠ (h0.next + 1)) ∧ (∀ x : Addr, (some ⟨n1, 0, none⟩) = some x → x.block ≠ (h0.next + 2)) ∧ 
 ∃ (o2 : Option Addr) (n3 : Nat) (n4 : Nat), Option.bind (some ⟨n1, 0, none⟩) h0.cell? = some (.slice o2 n3 n4) ∧
 ∃ I5 : Nat → Int → Option Addr → Nat → Nat → Heap → Prop, (∃ j, I5 j 0 none 0 0 (hup h0 3 [((h0.next + 2), some (loopO P .ready none 160 [0, 1, 0, 1] #[(.slice none 0 0), (.func (.func 113) #[] #[(.pointer (some ⟨n1, 0, none⟩))]), (.pointer (some ⟨(h0.next + 0), 0, none⟩)), (.tuple #[]), (.slice none 0 0), (.tuple #[]), (.func (.func 113) #[] #[(.pointer (some ⟨n1, 0, none⟩))]), (.tuple #[]), (.tuple #[]), (.tuple #[]), (.tuple #[]), (.tuple #[]), (.tuple #[])] (h0.next + 1))), ((h0.next + 1), some (.deferred (some []))), ((h0.next + 0), some (.cells #[(.slice none 0 0)] 27 (0, 0)))] h0.pins)) ∧ ∀ j5, ∀ (x5 : Int) (o6 : Option Addr) (n7 : Nat) (n8 : Nat) (h9 : Heap), I5 j5 x5 o6 n7 n8 h9 → ∀ d10 : Nat → Value,
  ((x5 < (↑n3 : Int)) →
    Option.isSome o2 = true ∧
    x5 ≥ 0 ∧
    x5 < (↑n3 : Int) ∧
    Option.isSome o2 = true ∧
    (∀ x : Addr, (elt o2 (Int.toNat x5)) = some x → x.block ≠ (h0.next + 0)) ∧ (∀ x : Addr, (elt o2 (Int.toNat x5)) = some x → x.block ≠ (h0.next + 1)) ∧ (∀ x : Addr, (elt o2 (Int.toNat x5)) = some x → x.block ≠ (h0.next + 2)) ∧ 
    ∃ (x11 : Int), Option.bind (elt o2 (Int.toNat x5)) h9.cell? = some (.int .i64 x11) ∧
    pinnedBlock (h0.next + 2) h9.pins = false ∧
    Prim.den P (.appendTo 1 8 3 1) [(.slice o6 n7 n8), (.int .i64 x11)] (hup h9 1 [((h9.next + 0), some (.cells #[(.int .i64 x11)] 3 (0, 0))), ((h0.next + 2), some (loopO P .busy none 160 [0, 1, 0, 1] #[(.slice none 0 0), (.func (.func 113) #[] #[(.pointer (some ⟨n1, 0, none⟩))]), (.pointer (some ⟨(h0.next + 0), 0, none⟩)), (.tuple #[]), (.slice none 0 0), (.tuple #[]), (.func (.func 113) #[] #[(.pointer (some ⟨n1, 0, none⟩))]), (.tuple #[]), (.tuple #[]), (.tuple #[]), (.tuple #[]), (.tuple #[]), (.tuple #[])] (h0.next + 1))), ((h0.next + 1), some (.deferred (some []))), ((h0.next + 0), some (.cells #[(.slice o6 n7 n8)] 27 (0, 0)))] h9.pins) fun v16 h15 =>
     ∃ (o12 : Option Addr) (n13 : Nat) (n14 : Nat), v16 = (.slice o12 n13 n14) ∧
     h15.get (h0.next + 2) = some (loopO P .busy none 160 [0, 1, 0, 1] #[(.slice none 0 0), (.func (.func 113) #[] #[(.pointer (some ⟨n1, 0, none⟩))]), (.pointer (some ⟨(h0.next + 0), 0, none⟩)), (.tuple #[]), (.slice none 0 0), (.tuple #[]), (.func (.func 113) #[] #[(.pointer (some ⟨n1, 0, none⟩))]), (.tuple #[]), (.tuple #[]), (.tuple #[]), (.tuple #[]), (.tuple #[]), (.tuple #[])] (h0.next + 1)) ∧
     h15.get (h0.next + 1) = some (.deferred (some [])) ∧
     h15.get (h0.next + 0) = some (.cells #[(.slice o6 n7 n8)] 27 (0, 0)) ∧
     unpAll (some ⟨(h0.next + 0), 0, none⟩) h15.pins 1 ∧
     pinnedBlock (h0.next + 2) h15.pins = false ∧
     InK .i64 (x5 + 1) ∧
     ∃ j', j' < j5 ∧ I5 j' (x5 + 1) o12 n13 n14 (hup h15 0 [((h0.next + 2), some (loopO P .ready none 160 [0, 1, 0, 1] #[(.slice none 0 0), (.func (.func 113) #[] #[(.pointer (some ⟨n1, 0, none⟩))]), (.pointer (some ⟨(h0.next + 0), 0, none⟩)), (.tuple #[]), (.slice none 0 0), (.tuple #[]), (.func (.func 113) #[] #[(.pointer (some ⟨n1, 0, none⟩))]), (.tuple #[]), (.tuple #[]), (.tuple #[]), (.tuple #[]), (.tuple #[]), (.tuple #[])] (h0.next + 1))), ((h0.next + 0), some (.cells #[(.slice o12 n13 n14)] 27 (0, 0))), ((h0.next + 2), some (loopO P .busy none 160 [0, 1, 0, 1] #[(.slice none 0 0), (.func (.func 113) #[] #[(.pointer (some ⟨n1, 0, none⟩))]), (.pointer (some ⟨(h0.next + 0), 0, none⟩)), (.tuple #[]), (.slice none 0 0), (.tuple #[]), (.func (.func 113) #[] #[(.pointer (some ⟨n1, 0, none⟩))]), (.tuple #[]), (.tuple #[]), (.tuple #[]), (.tuple #[]), (.tuple #[]), (.tuple #[])] (h0.next + 1))), ((h0.next + 1), some (.deferred (some []))), ((h0.next + 0), some (.cells #[(.slice o6 n7 n8)] 27 (0, 0)))] h15.pins)) ∧
  (¬ (x5 < (↑n3 : Int)) →
    pinnedBlock (h0.next + 2) h9.pins = false ∧
    pinnedBlock (h0.next + 1) h9.pins = false ∧
    (top P w0).call 112 #[(.slice o6 n7 n8)] (hup h9 0 [((h0.next + 1), some (.deferred none)), ((h0.next + 2), some (loopO P .exhausted none 160 [0, 1, 0, 1] #[(.slice none 0 0), (.func (.func 113) #[] #[(.pointer (some ⟨n1, 0, none⟩))]), (.pointer (some ⟨(h0.next + 0), 0, none⟩)), (.tuple #[]), (.slice none 0 0), (.tuple #[]), (.func (.func 113) #[] #[(.pointer (some ⟨n1, 0, none⟩))]), (.tuple #[]), (.tuple #[]), (.tuple #[]), (.tuple #[]), (.tuple #[]), (.tuple #[])] (h0.next + 1))), ((h0.next + 1), some (.deferred (some []))), ((h0.next + 0), some (.cells #[(.slice o6 n7 n8)] 27 (0, 0)))] h9.pins) fun v12 h11 =>
     v12 = (.tuple #[]) ∧
     h11.get (h0.next + 2) = some (loopO P .exhausted none 160 [0, 1, 0, 1] #[(.slice none 0 0), (.func (.func 113) #[] #[(.pointer (some ⟨n1, 0, none⟩))]), (.pointer (some ⟨(h0.next + 0), 0, none⟩)), (.tuple #[]), (.slice none 0 0), (.tuple #[]), (.func (.func 113) #[] #[(.pointer (some ⟨n1, 0, none⟩))]), (.tuple #[]), (.tuple #[]), (.tuple #[]), (.tuple #[]), (.tuple #[]), (.tuple #[])] (h0.next + 1)) ∧
     h11.get (h0.next + 0) = some (.cells #[(.slice o6 n7 n8)] 27 (0, 0)) ∧
     R (.slice o6 n7 n8) (hup h11 0 [((h0.next + 2), some (loopO P .exhausted none 160 [0, 1, 0, 1] #[(.slice none 0 0), (.func (.func 113) #[] #[(.pointer (some ⟨n1, 0, none⟩))]), (.pointer (some ⟨(h0.next + 0), 0, none⟩)), (.tuple #[]), (.slice none 0 0), (.tuple #[]), (.func (.func 113) #[] #[(.pointer (some ⟨n1, 0, none⟩))]), (.tuple #[]), (.tuple #[]), (.tuple #[]), (.tuple #[]), (.tuple #[]), (.tuple #[])] (h0.next + 1))), ((h0.next + 0), some (.cells #[(.slice o6 n7 n8)] 27 (0, 0)))] h11.pins))
theorem vc61a (w0 : World) (R : Value → Heap → Prop) (h0 : Heap) (n1 : Nat) : ((top P w0).call 61 (([(.func 113 .nil (.cons (.ptr (.blk (.nv 1) (.lit (0)))) .nil))] : List SV).map (SV.den [.h h0, .n n1])).toArray (Env.h [.h h0, .n n1] 0) R) = ((top P w0).call 61 #[(.func (.func 113) #[] #[(.pointer (some ⟨n1, 0, none⟩))])] h0 R) := by kernel_rfl
theorem vc61b (w0 : World) (R : Value → Heap → Prop) (h0 : Heap) (n1 : Nat) : (Tree.den P (top P w0) R tc0 [.h h0, .n n1] (vcT P exts vc61H 100000 61 [(.func 113 .nil (.cons (.ptr (.blk (.nv 1) (.lit (0)))) .nil))] 0 (List.length ([.h h0, .n n1] : Env)))) = (vc61P w0 R h0 n1) := by kernel_rfl
theorem vc61 (w0 : World) (R : Value → Heap → Prop) (h0 : Heap) (n1 : Nat) (hyp : vc61P w0 R h0 n1) : (top P w0).call 61 #[(.func (.func 113) #[] #[(.pointer (some ⟨n1, 0, none⟩))])] h0 R :=
  vc_eq extOK (vc61b w0 R h0 n1) hyp (vc61a w0 R h0 n1)
noncomputable def vc55_59H : Hints := { loops := [{ f := 110, p := [0, 1, 0, 1], unroll := 0, keepH := true, live := [8], cells := [] }], calls := [] }
def vc55_59P (w0 : World) (R : Value → Heap → Prop) (h0 : Heap) (o1 : Option Addr) (n2 : Nat) (n3 : Nat) : Prop :=
 ∃ I4 : Nat → Int → Prop, (∃ j, I4 j 0) ∧ ∀ j4, ∀ (x4 : Int), I4 j4 x4 → ∀ d5 : Nat → Value,
  ((x4 < (↑n2 : Int)) →
    Option.isSome o1 = true ∧
    x4 ≥ 0 ∧
    x4 < (↑n2 : Int) ∧
    Option.isSome o1 = true ∧
    ∃ (x6 : Int), Option.bind (elt o1 (Int.toNat x4)) h0.cell? = some (.int .i64 x6) ∧
    ((x6 ≥ 0) →
      ((x6 ≤ 1000000000000000) →
        InK .i64 (x4 + 1) ∧
        ∃ j', j' < j4 ∧ I4 j' (x4 + 1)) ∧
      (¬ (x6 ≤ 1000000000000000) →
        R (.bool (cmpB .geq x4 0)) h0)) ∧
    (¬ (x6 ≥ 0) →
      R (.bool (cmpB .geq x4 0)) h0)) ∧
  (¬ (x4 < (↑n2 : Int)) →
    R (.bool false) h0)
theorem vc55_59a (w0 : World) (R : Value → Heap → Prop) (h0 : Heap) (o1 : Option Addr) (n2 : Nat) (n3 : Nat) : ((top P w0).call 55 (([(.slice (.ov 1) (.nv 2) (.nv 3)), (.func 59 .nil .nil)] : List SV).map (SV.den [.h h0, .o o1, .n n2, .n n3])).toArray (Env.h [.h h0, .o o1, .n n2, .n n3] 0) R) = ((top P w0).call 55 #[(.slice o1 n2 n3), (.func (.func 59) #[] #[])] h0 R) := by kernel_rfl
theorem vc55_59b (w0 : World) (R : Value → Heap → Prop) (h0 : Heap) (o1 : Option Addr) (n2 : Nat) (n3 : Nat) : (Tree.den P (top P w0) R tc0 [.h h0, .o o1, .n n2, .n n3] (vcT P exts vc55_59H 100000 55 [(.slice (.ov 1) (.nv 2) (.nv 3)), (.func 59 .nil .nil)] 0 (List.length ([.h h0, .o o1, .n n2, .n n3] : Env)))) = (vc55_59P w0 R h0 o1 n2 n3) := by kernel_rfl
theorem vc55_59 (w0 : World) (R : Value → Heap → Prop) (h0 : Heap) (o1 : Option Addr) (n2 : Nat) (n3 : Nat) (hyp : vc55_59P w0 R h0 o1 n2 n3) : (top P w0).call 55 #[(.slice o1 n2 n3), (.func (.func 59) #[] #[])] h0 R :=
  vc_eq extOK (vc55_59b w0 R h0 o1 n2 n3) hyp (vc55_59a w0 R h0 o1 n2 n3)
noncomputable def vc55_60H : Hints := { loops := [{ f := 110, p := [0, 1, 0, 1], unroll := 0, keepH := true, live := [8], cells := [] }], calls := [] }
def vc55_60P (w0 : World) (R : Value → Heap → Prop) (h0 : Heap) (o1 : Option Addr) (n2 : Nat) (n3 : Nat) : Prop :=
 ∃ I4 : Nat → Int → Prop, (∃ j, I4 j 0) ∧ ∀ j4, ∀ (x4 : Int), I4 j4 x4 → ∀ d5 : Nat → Value,
  ((x4 < (↑n2 : Int)) →
    Option.isSome o1 = true ∧
    x4 ≥ 0 ∧
    x4 < (↑n2 : Int) ∧
    Option.isSome o1 = true ∧
    ∃ (x6 : Int), Option.bind (elt o1 (Int.toNat x4)) h0.cell? = some (.int .i64 x6) ∧
    ((x6 < 0) →
      R (.bool (cmpB .geq x4 0)) h0) ∧
    (¬ (x6 < 0) →
      ((x6 > 1000000) →
        R (.bool (cmpB .geq x4 0)) h0) ∧
      (¬ (x6 > 1000000) →
        InK .i64 (x4 + 1) ∧
        ∃ j', j' < j4 ∧ I4 j' (x4 + 1)))) ∧
  (¬ (x4 < (↑n2 : Int)) →
    R (.bool false) h0)
theorem vc55_60a (w0 : World) (R : Value → Heap → Prop) (h0 : Heap) (o1 : Option Addr) (n2 : Nat) (n3 : Nat) : ((top P w0).call 55 (([(.slice (.ov 1) (.nv 2) (.nv 3)), (.func 60 .nil .nil)] : List SV).map (SV.den [.h h0, .o o1, .n n2, .n n3])).toArray (Env.h [.h h0, .o o1, .n n2, .n n3] 0) R) = ((top P w0).call 55 #[(.slice o1 n2 n3), (.func (.func 60) #[] #[])] h0 R) := by kernel_rfl
theorem vc55_60b (w0 : World) (R : Value → Heap → Prop) (h0 : Heap) (o1 : Option Addr) (n2 : Nat) (n3 : Nat) : (Tree.den P (top P w0) R tc0 [.h h0, .o o1, .n n2, .n n3] (vcT P exts vc55_60H 100000 55 [(.slice (.ov 1) (.nv 2) (.nv 3)), (.func 60 .nil .nil)] 0 (List.length ([.h h0, .o o1, .n n2, .n n3] : Env)))) = (vc55_60P w0 R h0 o1 n2 n3) := by kernel_rfl
theorem vc55_60 (w0 : World) (R : Value → Heap → Prop) (h0 : Heap) (o1 : Option Addr) (n2 : Nat) (n3 : Nat) (hyp : vc55_60P w0 R h0 o1 n2 n3) : (top P w0).call 55 #[(.slice o1 n2 n3), (.func (.func 60) #[] #[])] h0 R :=
  vc_eq extOK (vc55_60b w0 R h0 o1 n2 n3) hyp (vc55_60a w0 R h0 o1 n2 n3)
end Go.Proofs.YtkfoibidnkfndaaGreatDoor
