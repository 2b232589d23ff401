/- The reference's drawn deed (NOT YET BUILT: region 28 draws its order around calls that write the box). -/
import Derived.Test.YtbjapgekagljeaaDoorE17
import Derived.Test.YtbjapgekagljeaaDoorProg
import Derived.Test.YtbjapgekagljeaaDoorS3
namespace Go.Proofs.YtbjapgekagljeaaDoor
open Go Go.RowKit
namespace E

set_option maxRecDepth 100000 in
theorem l71Deed_vc (ds : List Dat) (p : Int) (hp : 0 ≤ p ∧ p ≤ 10000000) :
    ((0 : Int) ≤ p ∧ p ≤ (1000000000 : Int)) ∧
      ∀ (x : Int),
        ((20 : Int) < (1 : Int) → x = (0 : Int)) ∧ ((1 : Int) ≤ (20 : Int) → (0 : Int) ≤ x ∧ x < (20 : Int)) →
          (decide (x = (0 : Int)) = true →
              ((0 : Int) ≤ p + (1 : Int) ∧ p + (1 : Int) ≤ (1000000000 : Int)) ∧
                ∀ (x : Int),
                  ((5 : Int) < (1 : Int) → x = (0 : Int)) ∧ ((1 : Int) ≤ (5 : Int) → (0 : Int) ≤ x ∧ x < (5 : Int)) →
                    ((0 : Int) ≤ p + (1 : Int) + (1 : Int) ∧ p + (1 : Int) + (1 : Int) ≤ (1000000000 : Int)) ∧
                      ∀ (x_1 : Int),
                        ((64 : Int) < (1 : Int) → x_1 = (0 : Int)) ∧
                            ((1 : Int) ≤ (64 : Int) → (0 : Int) ≤ x_1 ∧ x_1 < (64 : Int)) →
                          ((0 : Int) ≤ p + (1 : Int) + (1 : Int) + (1 : Int) ∧
                              p + (1 : Int) + (1 : Int) + (1 : Int) ≤ (1000000000 : Int)) ∧
                            ∀ (x_2 : Int),
                              ((5 : Int) < (1 : Int) → x_2 = (0 : Int)) ∧
                                  ((1 : Int) ≤ (5 : Int) → (0 : Int) ≤ x_2 ∧ x_2 < (5 : Int)) →
                                ((0 : Int) ≤ x_2 ∧
                                    x_2 <
                                      (↑[Dat.int (3 : Int), Dat.int (5 : Int), Dat.int (9 : Int), Dat.int (17 : Int),
                                              Dat.int x_1].length :
                                        Int)) ∧
                                  x_2.toNat <
                                      [Dat.int (3 : Int), Dat.int (5 : Int), Dat.int (9 : Int), Dat.int (17 : Int),
                                          Dat.int x_1].length ∧
                                    ((-9223372036854775808 : Int) ≤
                                          ([Dat.int (3 : Int), Dat.int (5 : Int), Dat.int (9 : Int), Dat.int (17 : Int),
                                                  Dat.int x_1].getD
                                              x_2.toNat default).toInt ∧
                                        ([Dat.int (3 : Int), Dat.int (5 : Int), Dat.int (9 : Int), Dat.int (17 : Int),
                                                  Dat.int x_1].getD
                                              x_2.toNat default).toInt ≤
                                          (9223372036854775807 : Int) →
                                      ∃ (x_3 : Int × Int × Int × Int),
                                        ((0 : Int) ≤ x_3.snd.snd.snd ∧ x_3.snd.snd.snd ≤ p + (5 : Int)) ∧
                                          (1 : Int) = x_3.fst ∧
                                            x = x_3.snd.fst ∧
                                              ([Dat.int (3 : Int), Dat.int (5 : Int), Dat.int (9 : Int), Dat.int (17 : Int),
                                                          Dat.int x_1].getD
                                                      x_2.toNat default).toInt =
                                                  x_3.snd.snd.fst ∧
                                                ds = ds ∧
                                                  p + (1 : Int) + (1 : Int) + (1 : Int) + (1 : Int) = x_3.snd.snd.snd)) ∧
            (decide (x = (0 : Int)) = false →
              (decide (x = (1 : Int)) = true →
                  ((0 : Int) ≤ p + (1 : Int) ∧ p + (1 : Int) ≤ (1000000000 : Int)) ∧
                    ∀ (x : Int),
                      ((5 : Int) < (1 : Int) → x = (0 : Int)) ∧ ((1 : Int) ≤ (5 : Int) → (0 : Int) ≤ x ∧ x < (5 : Int)) →
                        ((0 : Int) ≤ p + (1 : Int) + (1 : Int) ∧ p + (1 : Int) + (1 : Int) ≤ (1000000000 : Int)) ∧
                          ∀ (x_1 : Int),
                            ((64 : Int) < (1 : Int) → x_1 = (0 : Int)) ∧
                                ((1 : Int) ≤ (64 : Int) → (0 : Int) ≤ x_1 ∧ x_1 < (64 : Int)) →
                              ((0 : Int) ≤ p + (1 : Int) + (1 : Int) + (1 : Int) ∧
                                  p + (1 : Int) + (1 : Int) + (1 : Int) ≤ (1000000000 : Int)) ∧
                                ∀ (x_2 : Int),
                                  ((5 : Int) < (1 : Int) → x_2 = (0 : Int)) ∧
                                      ((1 : Int) ≤ (5 : Int) → (0 : Int) ≤ x_2 ∧ x_2 < (5 : Int)) →
                                    ((0 : Int) ≤ x_2 ∧
                                        x_2 <
                                          (↑[Dat.int (3 : Int), Dat.int (5 : Int), Dat.int (9 : Int), Dat.int (17 : Int),
                                                  Dat.int x_1].length :
                                            Int)) ∧
                                      x_2.toNat <
                                          [Dat.int (3 : Int), Dat.int (5 : Int), Dat.int (9 : Int), Dat.int (17 : Int),
                                              Dat.int x_1].length ∧
                                        ((-9223372036854775808 : Int) ≤
                                              ([Dat.int (3 : Int), Dat.int (5 : Int), Dat.int (9 : Int), Dat.int (17 : Int),
                                                      Dat.int x_1].getD
                                                  x_2.toNat default).toInt ∧
                                            ([Dat.int (3 : Int), Dat.int (5 : Int), Dat.int (9 : Int), Dat.int (17 : Int),
                                                      Dat.int x_1].getD
                                                  x_2.toNat default).toInt ≤
                                              (9223372036854775807 : Int) →
                                          ∃ (x_3 : Int × Int × Int × Int),
                                            ((0 : Int) ≤ x_3.snd.snd.snd ∧ x_3.snd.snd.snd ≤ p + (5 : Int)) ∧
                                              (1 : Int) = x_3.fst ∧
                                                x = x_3.snd.fst ∧
                                                  ([Dat.int (3 : Int), Dat.int (5 : Int), Dat.int (9 : Int),
                                                              Dat.int (17 : Int), Dat.int x_1].getD
                                                          x_2.toNat default).toInt =
                                                      x_3.snd.snd.fst ∧
                                                    ds = ds ∧
                                                      p + (1 : Int) + (1 : Int) + (1 : Int) + (1 : Int) =
                                                        x_3.snd.snd.snd)) ∧
                (decide (x = (1 : Int)) = false →
                  (decide (x = (2 : Int)) = true →
                      ((0 : Int) ≤ p + (1 : Int) ∧ p + (1 : Int) ≤ (1000000000 : Int)) ∧
                        ∀ (x : Int),
                          ((5 : Int) < (1 : Int) → x = (0 : Int)) ∧
                              ((1 : Int) ≤ (5 : Int) → (0 : Int) ≤ x ∧ x < (5 : Int)) →
                            ((0 : Int) ≤ p + (1 : Int) + (1 : Int) ∧ p + (1 : Int) + (1 : Int) ≤ (1000000000 : Int)) ∧
                              ∀ (x_1 : Int),
                                ((64 : Int) < (1 : Int) → x_1 = (0 : Int)) ∧
                                    ((1 : Int) ≤ (64 : Int) → (0 : Int) ≤ x_1 ∧ x_1 < (64 : Int)) →
                                  ((0 : Int) ≤ p + (1 : Int) + (1 : Int) + (1 : Int) ∧
                                      p + (1 : Int) + (1 : Int) + (1 : Int) ≤ (1000000000 : Int)) ∧
                                    ∀ (x_2 : Int),
                                      ((5 : Int) < (1 : Int) → x_2 = (0 : Int)) ∧
                                          ((1 : Int) ≤ (5 : Int) → (0 : Int) ≤ x_2 ∧ x_2 < (5 : Int)) →
                                        ((0 : Int) ≤ x_2 ∧
                                            x_2 <
                                              (↑[Dat.int (3 : Int), Dat.int (5 : Int), Dat.int (9 : Int),
                                                      Dat.int (17 : Int), Dat.int x_1].length :
                                                Int)) ∧
                                          x_2.toNat <
                                              [Dat.int (3 : Int), Dat.int (5 : Int), Dat.int (9 : Int), Dat.int (17 : Int),
                                                  Dat.int x_1].length ∧
                                            ((-9223372036854775808 : Int) ≤
                                                  ([Dat.int (3 : Int), Dat.int (5 : Int), Dat.int (9 : Int),
                                                          Dat.int (17 : Int), Dat.int x_1].getD
                                                      x_2.toNat default).toInt ∧
                                                ([Dat.int (3 : Int), Dat.int (5 : Int), Dat.int (9 : Int),
                                                          Dat.int (17 : Int), Dat.int x_1].getD
                                                      x_2.toNat default).toInt ≤
                                                  (9223372036854775807 : Int) →
                                              ∃ (x_3 : Int × Int × Int × Int),
                                                ((0 : Int) ≤ x_3.snd.snd.snd ∧ x_3.snd.snd.snd ≤ p + (5 : Int)) ∧
                                                  (1 : Int) = x_3.fst ∧
                                                    x = x_3.snd.fst ∧
                                                      ([Dat.int (3 : Int), Dat.int (5 : Int), Dat.int (9 : Int),
                                                                  Dat.int (17 : Int), Dat.int x_1].getD
                                                              x_2.toNat default).toInt =
                                                          x_3.snd.snd.fst ∧
                                                        ds = ds ∧
                                                          p + (1 : Int) + (1 : Int) + (1 : Int) + (1 : Int) =
                                                            x_3.snd.snd.snd)) ∧
                    (decide (x = (2 : Int)) = false →
                      (decide (x = (3 : Int)) = true →
                          ((0 : Int) ≤ p + (1 : Int) ∧ p + (1 : Int) ≤ (1000000000 : Int)) ∧
                            ∀ (x : Int),
                              ((5 : Int) < (1 : Int) → x = (0 : Int)) ∧
                                  ((1 : Int) ≤ (5 : Int) → (0 : Int) ≤ x ∧ x < (5 : Int)) →
                                ((0 : Int) ≤ p + (1 : Int) + (1 : Int) ∧ p + (1 : Int) + (1 : Int) ≤ (1000000000 : Int)) ∧
                                  ∀ (x_1 : Int),
                                    ((64 : Int) < (1 : Int) → x_1 = (0 : Int)) ∧
                                        ((1 : Int) ≤ (64 : Int) → (0 : Int) ≤ x_1 ∧ x_1 < (64 : Int)) →
                                      ((0 : Int) ≤ p + (1 : Int) + (1 : Int) + (1 : Int) ∧
                                          p + (1 : Int) + (1 : Int) + (1 : Int) ≤ (1000000000 : Int)) ∧
                                        ∀ (x_2 : Int),
                                          ((5 : Int) < (1 : Int) → x_2 = (0 : Int)) ∧
                                              ((1 : Int) ≤ (5 : Int) → (0 : Int) ≤ x_2 ∧ x_2 < (5 : Int)) →
                                            ((0 : Int) ≤ x_2 ∧
                                                x_2 <
                                                  (↑[Dat.int (3 : Int), Dat.int (5 : Int), Dat.int (9 : Int),
                                                          Dat.int (17 : Int), Dat.int x_1].length :
                                                    Int)) ∧
                                              x_2.toNat <
                                                  [Dat.int (3 : Int), Dat.int (5 : Int), Dat.int (9 : Int),
                                                      Dat.int (17 : Int), Dat.int x_1].length ∧
                                                ((-9223372036854775808 : Int) ≤
                                                      ([Dat.int (3 : Int), Dat.int (5 : Int), Dat.int (9 : Int),
                                                              Dat.int (17 : Int), Dat.int x_1].getD
                                                          x_2.toNat default).toInt ∧
                                                    ([Dat.int (3 : Int), Dat.int (5 : Int), Dat.int (9 : Int),
                                                              Dat.int (17 : Int), Dat.int x_1].getD
                                                          x_2.toNat default).toInt ≤
                                                      (9223372036854775807 : Int) →
                                                  ∃ (x_3 : Int × Int × Int × Int),
                                                    ((0 : Int) ≤ x_3.snd.snd.snd ∧ x_3.snd.snd.snd ≤ p + (5 : Int)) ∧
                                                      (1 : Int) = x_3.fst ∧
                                                        x = x_3.snd.fst ∧
                                                          ([Dat.int (3 : Int), Dat.int (5 : Int), Dat.int (9 : Int),
                                                                      Dat.int (17 : Int), Dat.int x_1].getD
                                                                  x_2.toNat default).toInt =
                                                              x_3.snd.snd.fst ∧
                                                            ds = ds ∧
                                                              p + (1 : Int) + (1 : Int) + (1 : Int) + (1 : Int) =
                                                                x_3.snd.snd.snd)) ∧
                        (decide (x = (3 : Int)) = false →
                          (decide (x = (4 : Int)) = true →
                              ((0 : Int) ≤ p + (1 : Int) ∧ p + (1 : Int) ≤ (1000000000 : Int)) ∧
                                ∀ (x : Int),
                                  ((5 : Int) < (1 : Int) → x = (0 : Int)) ∧
                                      ((1 : Int) ≤ (5 : Int) → (0 : Int) ≤ x ∧ x < (5 : Int)) →
                                    ∃ (x_1 : Int × Int × Int × Int),
                                      ((0 : Int) ≤ x_1.snd.snd.snd ∧ x_1.snd.snd.snd ≤ p + (5 : Int)) ∧
                                        (2 : Int) = x_1.fst ∧
                                          x = x_1.snd.fst ∧
                                            (0 : Int) = x_1.snd.snd.fst ∧
                                              ds = ds ∧ p + (1 : Int) + (1 : Int) = x_1.snd.snd.snd) ∧
                            (decide (x = (4 : Int)) = false →
                              (decide (x = (5 : Int)) = true →
                                  ((0 : Int) ≤ p + (1 : Int) ∧ p + (1 : Int) ≤ (1000000000 : Int)) ∧
                                    ∀ (x : Int),
                                      ((5 : Int) < (1 : Int) → x = (0 : Int)) ∧
                                          ((1 : Int) ≤ (5 : Int) → (0 : Int) ≤ x ∧ x < (5 : Int)) →
                                        ∃ (x_1 : Int × Int × Int × Int),
                                          ((0 : Int) ≤ x_1.snd.snd.snd ∧ x_1.snd.snd.snd ≤ p + (5 : Int)) ∧
                                            (2 : Int) = x_1.fst ∧
                                              x = x_1.snd.fst ∧
                                                (0 : Int) = x_1.snd.snd.fst ∧
                                                  ds = ds ∧ p + (1 : Int) + (1 : Int) = x_1.snd.snd.snd) ∧
                                (decide (x = (5 : Int)) = false →
                                  (decide (x = (6 : Int)) = true →
                                      ((0 : Int) ≤ p + (1 : Int) ∧ p + (1 : Int) ≤ (1000000000 : Int)) ∧
                                        ∀ (x : Int),
                                          ((5 : Int) < (1 : Int) → x = (0 : Int)) ∧
                                              ((1 : Int) ≤ (5 : Int) → (0 : Int) ≤ x ∧ x < (5 : Int)) →
                                            ∃ (x_1 : Int × Int × Int × Int),
                                              ((0 : Int) ≤ x_1.snd.snd.snd ∧ x_1.snd.snd.snd ≤ p + (5 : Int)) ∧
                                                (2 : Int) = x_1.fst ∧
                                                  x = x_1.snd.fst ∧
                                                    (0 : Int) = x_1.snd.snd.fst ∧
                                                      ds = ds ∧ p + (1 : Int) + (1 : Int) = x_1.snd.snd.snd) ∧
                                    (decide (x = (6 : Int)) = false →
                                      (decide (x = (7 : Int)) = true →
                                          ((0 : Int) ≤ p + (1 : Int) ∧ p + (1 : Int) ≤ (1000000000 : Int)) ∧
                                            ∀ (x : Int),
                                              ((5 : Int) < (1 : Int) → x = (0 : Int)) ∧
                                                  ((1 : Int) ≤ (5 : Int) → (0 : Int) ≤ x ∧ x < (5 : Int)) →
                                                ∃ (x_1 : Int × Int × Int × Int),
                                                  ((0 : Int) ≤ x_1.snd.snd.snd ∧ x_1.snd.snd.snd ≤ p + (5 : Int)) ∧
                                                    (3 : Int) = x_1.fst ∧
                                                      x = x_1.snd.fst ∧
                                                        (0 : Int) = x_1.snd.snd.fst ∧
                                                          ds = ds ∧ p + (1 : Int) + (1 : Int) = x_1.snd.snd.snd) ∧
                                        (decide (x = (7 : Int)) = false →
                                          (decide (x = (8 : Int)) = true →
                                              ((0 : Int) ≤ p + (1 : Int) ∧ p + (1 : Int) ≤ (1000000000 : Int)) ∧
                                                ∀ (x : Int),
                                                  ((5 : Int) < (1 : Int) → x = (0 : Int)) ∧
                                                      ((1 : Int) ≤ (5 : Int) → (0 : Int) ≤ x ∧ x < (5 : Int)) →
                                                    ∃ (x_1 : Int × Int × Int × Int),
                                                      ((0 : Int) ≤ x_1.snd.snd.snd ∧ x_1.snd.snd.snd ≤ p + (5 : Int)) ∧
                                                        (3 : Int) = x_1.fst ∧
                                                          x = x_1.snd.fst ∧
                                                            (0 : Int) = x_1.snd.snd.fst ∧
                                                              ds = ds ∧ p + (1 : Int) + (1 : Int) = x_1.snd.snd.snd) ∧
                                            (decide (x = (8 : Int)) = false →
                                              (decide (x = (9 : Int)) = true →
                                                  ((0 : Int) ≤ p + (1 : Int) ∧ p + (1 : Int) ≤ (1000000000 : Int)) ∧
                                                    ∀ (x : Int),
                                                      ((5 : Int) < (1 : Int) → x = (0 : Int)) ∧
                                                          ((1 : Int) ≤ (5 : Int) → (0 : Int) ≤ x ∧ x < (5 : Int)) →
                                                        ∃ (x_1 : Int × Int × Int × Int),
                                                          ((0 : Int) ≤ x_1.snd.snd.snd ∧ x_1.snd.snd.snd ≤ p + (5 : Int)) ∧
                                                            (3 : Int) = x_1.fst ∧
                                                              x = x_1.snd.fst ∧
                                                                (0 : Int) = x_1.snd.snd.fst ∧
                                                                  ds = ds ∧ p + (1 : Int) + (1 : Int) = x_1.snd.snd.snd) ∧
                                                (decide (x = (9 : Int)) = false →
                                                  (decide (x = (10 : Int)) = true →
                                                      ((0 : Int) ≤ p + (1 : Int) ∧ p + (1 : Int) ≤ (1000000000 : Int)) ∧
                                                        ∀ (x : Int),
                                                          ((4 : Int) < (1 : Int) → x = (0 : Int)) ∧
                                                              ((1 : Int) ≤ (4 : Int) → (0 : Int) ≤ x ∧ x < (4 : Int)) →
                                                            ∃ (x_1 : Int × Int × Int × Int),
                                                              ((0 : Int) ≤ x_1.snd.snd.snd ∧
                                                                  x_1.snd.snd.snd ≤ p + (5 : Int)) ∧
                                                                (4 : Int) = x_1.fst ∧
                                                                  x = x_1.snd.fst ∧
                                                                    (0 : Int) = x_1.snd.snd.fst ∧
                                                                      ds = ds ∧
                                                                        p + (1 : Int) + (1 : Int) = x_1.snd.snd.snd) ∧
                                                    (decide (x = (10 : Int)) = false →
                                                      (decide (x = (11 : Int)) = true →
                                                          ((0 : Int) ≤ p + (1 : Int) ∧ p + (1 : Int) ≤ (1000000000 : Int)) ∧
                                                            ∀ (x : Int),
                                                              ((4 : Int) < (1 : Int) → x = (0 : Int)) ∧
                                                                  ((1 : Int) ≤ (4 : Int) → (0 : Int) ≤ x ∧ x < (4 : Int)) →
                                                                ∃ (x_1 : Int × Int × Int × Int),
                                                                  ((0 : Int) ≤ x_1.snd.snd.snd ∧
                                                                      x_1.snd.snd.snd ≤ p + (5 : Int)) ∧
                                                                    (4 : Int) = x_1.fst ∧
                                                                      x = x_1.snd.fst ∧
                                                                        (0 : Int) = x_1.snd.snd.fst ∧
                                                                          ds = ds ∧
                                                                            p + (1 : Int) + (1 : Int) = x_1.snd.snd.snd) ∧
                                                        (decide (x = (11 : Int)) = false →
                                                          (decide (x = (12 : Int)) = true →
                                                              ((0 : Int) ≤ p + (1 : Int) ∧
                                                                  p + (1 : Int) ≤ (1000000000 : Int)) ∧
                                                                ∀ (x : Int),
                                                                  ((4 : Int) < (1 : Int) → x = (0 : Int)) ∧
                                                                      ((1 : Int) ≤ (4 : Int) →
                                                                        (0 : Int) ≤ x ∧ x < (4 : Int)) →
                                                                    ∃ (x_1 : Int × Int × Int × Int),
                                                                      ((0 : Int) ≤ x_1.snd.snd.snd ∧
                                                                          x_1.snd.snd.snd ≤ p + (5 : Int)) ∧
                                                                        (4 : Int) = x_1.fst ∧
                                                                          x = x_1.snd.fst ∧
                                                                            (0 : Int) = x_1.snd.snd.fst ∧
                                                                              ds = ds ∧
                                                                                p + (1 : Int) + (1 : Int) =
                                                                                  x_1.snd.snd.snd) ∧
                                                            (decide (x = (12 : Int)) = false →
                                                              (decide (x = (13 : Int)) = true →
                                                                  ((0 : Int) ≤ p + (1 : Int) ∧
                                                                      p + (1 : Int) ≤ (1000000000 : Int)) ∧
                                                                    ∀ (x : Int),
                                                                      ((4 : Int) < (1 : Int) → x = (0 : Int)) ∧
                                                                          ((1 : Int) ≤ (4 : Int) →
                                                                            (0 : Int) ≤ x ∧ x < (4 : Int)) →
                                                                        ∃ (x_1 : Int × Int × Int × Int),
                                                                          ((0 : Int) ≤ x_1.snd.snd.snd ∧
                                                                              x_1.snd.snd.snd ≤ p + (5 : Int)) ∧
                                                                            (4 : Int) = x_1.fst ∧
                                                                              x = x_1.snd.fst ∧
                                                                                (0 : Int) = x_1.snd.snd.fst ∧
                                                                                  ds = ds ∧
                                                                                    p + (1 : Int) + (1 : Int) =
                                                                                      x_1.snd.snd.snd) ∧
                                                                (decide (x = (13 : Int)) = false →
                                                                  (decide (x = (14 : Int)) = true →
                                                                      ((0 : Int) ≤ p + (1 : Int) ∧
                                                                          p + (1 : Int) ≤ (1000000000 : Int)) ∧
                                                                        ∀ (x : Int),
                                                                          ((4 : Int) < (1 : Int) → x = (0 : Int)) ∧
                                                                              ((1 : Int) ≤ (4 : Int) →
                                                                                (0 : Int) ≤ x ∧ x < (4 : Int)) →
                                                                            ∃ (x_1 : Int × Int × Int × Int),
                                                                              ((0 : Int) ≤ x_1.snd.snd.snd ∧
                                                                                  x_1.snd.snd.snd ≤ p + (5 : Int)) ∧
                                                                                (4 : Int) = x_1.fst ∧
                                                                                  x = x_1.snd.fst ∧
                                                                                    (0 : Int) = x_1.snd.snd.fst ∧
                                                                                      ds = ds ∧
                                                                                        p + (1 : Int) + (1 : Int) =
                                                                                          x_1.snd.snd.snd) ∧
                                                                    (decide (x = (14 : Int)) = false →
                                                                      (decide (x = (15 : Int)) = true →
                                                                          ((0 : Int) ≤ p + (1 : Int) ∧
                                                                              p + (1 : Int) ≤ (1000000000 : Int)) ∧
                                                                            ∀ (x : Int),
                                                                              ((5 : Int) < (1 : Int) → x = (0 : Int)) ∧
                                                                                  ((1 : Int) ≤ (5 : Int) →
                                                                                    (0 : Int) ≤ x ∧ x < (5 : Int)) →
                                                                                ∃ (x_1 : Int × Int × Int × Int),
                                                                                  ((0 : Int) ≤ x_1.snd.snd.snd ∧
                                                                                      x_1.snd.snd.snd ≤ p + (5 : Int)) ∧
                                                                                    (5 : Int) = x_1.fst ∧
                                                                                      x = x_1.snd.fst ∧
                                                                                        (0 : Int) = x_1.snd.snd.fst ∧
                                                                                          ds = ds ∧
                                                                                            p + (1 : Int) + (1 : Int) =
                                                                                              x_1.snd.snd.snd) ∧
                                                                        (decide (x = (15 : Int)) = false →
                                                                          (decide (x = (16 : Int)) = true →
                                                                              ((0 : Int) ≤ p + (1 : Int) ∧
                                                                                  p + (1 : Int) ≤ (1000000000 : Int)) ∧
                                                                                ∀ (x : Int),
                                                                                  ((6 : Int) < (1 : Int) → x = (0 : Int)) ∧
                                                                                      ((1 : Int) ≤ (6 : Int) →
                                                                                        (0 : Int) ≤ x ∧ x < (6 : Int)) →
                                                                                    ∃ (x_1 : Int × Int × Int × Int),
                                                                                      ((0 : Int) ≤ x_1.snd.snd.snd ∧
                                                                                          x_1.snd.snd.snd ≤ p + (5 : Int)) ∧
                                                                                        (6 : Int) = x_1.fst ∧
                                                                                          x = x_1.snd.fst ∧
                                                                                            (0 : Int) = x_1.snd.snd.fst ∧
                                                                                              ds = ds ∧
                                                                                                p + (1 : Int) + (1 : Int) =
                                                                                                  x_1.snd.snd.snd) ∧
                                                                            (decide (x = (16 : Int)) = false →
                                                                              (decide (x = (17 : Int)) = true →
                                                                                  ∃ (x : Int × Int × Int × Int),
                                                                                    ((0 : Int) ≤ x.snd.snd.snd ∧
                                                                                        x.snd.snd.snd ≤ p + (5 : Int)) ∧
                                                                                      (8 : Int) = x.fst ∧
                                                                                        (0 : Int) = x.snd.fst ∧
                                                                                          (0 : Int) = x.snd.snd.fst ∧
                                                                                            ds = ds ∧
                                                                                              p + (1 : Int) =
                                                                                                x.snd.snd.snd) ∧
                                                                                (decide (x = (17 : Int)) = false →
                                                                                  (decide (x = (18 : Int)) = true →
                                                                                      ((0 : Int) ≤ p + (1 : Int) ∧
                                                                                          p + (1 : Int) ≤
                                                                                            (1000000000 : Int)) ∧
                                                                                        ∀ (x : Int),
                                                                                          ((3 : Int) < (1 : Int) →
                                                                                                x = (0 : Int)) ∧
                                                                                              ((1 : Int) ≤ (3 : Int) →
                                                                                                (0 : Int) ≤ x ∧
                                                                                                  x < (3 : Int)) →
                                                                                            ((0 : Int) ≤ x ∧
                                                                                                x <
                                                                                                  (↑[Dat.int (9 : Int),
                                                                                                          Dat.int
                                                                                                            (10 : Int),
                                                                                                          Dat.int
                                                                                                            (10 :
                                                                                                              Int)].length :
                                                                                                    Int)) ∧
                                                                                              ((0 : Int) ≤
                                                                                                    p + (1 : Int) +
                                                                                                      (1 : Int) ∧
                                                                                                  p + (1 : Int) +
                                                                                                      (1 : Int) ≤
                                                                                                    (1000000000 : Int)) ∧
                                                                                                ∀ (x_1 : Int),
                                                                                                  ((5 : Int) < (1 : Int) →
                                                                                                        x_1 = (0 : Int)) ∧
                                                                                                      ((1 : Int) ≤
                                                                                                          (5 : Int) →
                                                                                                        (0 : Int) ≤ x_1 ∧
                                                                                                          x_1 < (5 : Int)) →
                                                                                                    ((0 : Int) ≤
                                                                                                          p + (1 : Int) +
                                                                                                              (1 : Int) +
                                                                                                            (1 : Int) ∧
                                                                                                        p + (1 : Int) +
                                                                                                              (1 : Int) +
                                                                                                            (1 : Int) ≤
                                                                                                          (1000000000 :
                                                                                                            Int)) ∧
                                                                                                      ∀ (x_2 : Int),
                                                                                                        ((5 : Int) <
                                                                                                                (1 : Int) →
                                                                                                              x_2 =
                                                                                                                (0 : Int)) ∧
                                                                                                            ((1 : Int) ≤
                                                                                                                (5 : Int) →
                                                                                                              (0 : Int) ≤
                                                                                                                  x_2 ∧
                                                                                                                x_2 <
                                                                                                                  (5 :
                                                                                                                    Int)) →
                                                                                                          ∃ (x_3 :
                                                                                                            Int ×
                                                                                                              Int ×
                                                                                                                Int × Int),
                                                                                                            ((0 : Int) ≤
                                                                                                                  x_3.snd.snd.snd ∧
                                                                                                                x_3.snd.snd.snd ≤
                                                                                                                  p +
                                                                                                                    (5 :
                                                                                                                      Int)) ∧
                                                                                                              ([Dat.int
                                                                                                                            (9 :
                                                                                                                              Int),
                                                                                                                          Dat.int
                                                                                                                            (10 :
                                                                                                                              Int),
                                                                                                                          Dat.int
                                                                                                                            (10 :
                                                                                                                              Int)].getD
                                                                                                                      x.toNat
                                                                                                                      default).toInt =
                                                                                                                  x_3.fst ∧
                                                                                                                x_1 =
                                                                                                                    x_3.snd.fst ∧
                                                                                                                  x_2 =
                                                                                                                      x_3.snd.snd.fst ∧
                                                                                                                    ds =
                                                                                                                        ds ∧
                                                                                                                      p +
                                                                                                                                (1 :
                                                                                                                                  Int) +
                                                                                                                              (1 :
                                                                                                                                Int) +
                                                                                                                            (1 :
                                                                                                                              Int) +
                                                                                                                          (1 :
                                                                                                                            Int) =
                                                                                                                        x_3.snd.snd.snd) ∧
                                                                                    (decide (x = (18 : Int)) = false →
                                                                                      ((0 : Int) ≤ p + (1 : Int) ∧
                                                                                          p + (1 : Int) ≤
                                                                                            (1000000000 : Int)) ∧
                                                                                        ∀ (x : Int),
                                                                                          ((5 : Int) < (1 : Int) →
                                                                                                x = (0 : Int)) ∧
                                                                                              ((1 : Int) ≤ (5 : Int) →
                                                                                                (0 : Int) ≤ x ∧
                                                                                                  x < (5 : Int)) →
                                                                                            ∃ (x_1 : Int × Int × Int × Int),
                                                                                              ((0 : Int) ≤ x_1.snd.snd.snd ∧
                                                                                                  x_1.snd.snd.snd ≤
                                                                                                    p + (5 : Int)) ∧
                                                                                                (7 : Int) = x_1.fst ∧
                                                                                                  x = x_1.snd.fst ∧
                                                                                                    (0 : Int) =
                                                                                                        x_1.snd.snd.fst ∧
                                                                                                      ds = ds ∧
                                                                                                        p + (1 : Int) +
                                                                                                            (1 : Int) =
                                                                                                          x_1.snd.snd.snd))))))))))))))))))) := by
  repeat' first
    | refine ⟨(_, _, _, _), ?_, rfl, rfl, rfl, rfl, rfl⟩
    | refine ⟨?_, ?_⟩
    | intro _
  all_goals first
    | omega
    | (simp only [List.length_cons, List.length_nil]; omega)
set_option maxRecDepth 100000 in
theorem l71Deed_fn (ds : List Dat) (p : Int) (hp : 0 ≤ p ∧ p ≤ 10000000) : Fn Tryd.prog 21 [.bp 0 0] (some ((57, [.sl (.int .u8) ds, .int .i64 p]))) (Int × Int × Int × Int) (fun g => ((fun g => (0 ≤ g.2.2.2 ∧ g.2.2.2 ≤ p + 5, .agg [.int .i64 g.1, .int .i64 g.2.1, .int .i64 g.2.2.1], (some ((57, [.sl (.int .u8) ds, .int .i64 g.2.2.2])))) : Int × Int × Int × Int → Prop × SV × Option (TypeId × List SV)) g).1) (fun g => ((fun g => (0 ≤ g.2.2.2 ∧ g.2.2.2 ≤ p + 5, .agg [.int .i64 g.1, .int .i64 g.2.1, .int .i64 g.2.2.1], (some ((57, [.sl (.int .u8) ds, .int .i64 g.2.2.2])))) : Int × Int × Int × Int → Prop × SV × Option (TypeId × List SV)) g).2.1) (fun g => ((fun g => (0 ≤ g.2.2.2 ∧ g.2.2.2 ≤ p + 5, .agg [.int .i64 g.1, .int .i64 g.2.1, .int .i64 g.2.2.1], (some ((57, [.sl (.int .u8) ds, .int .i64 g.2.2.2])))) : Int × Int × Int × Int → Prop × SV × Option (TypeId × List SV)) g).2.2) := by
  refine fn_ok (ct := [pick_con]) (L := fun _ => none) (q := (fun g => (0 ≤ g.2.2.2 ∧ g.2.2.2 ≤ p + 5, .agg [.int .i64 g.1, .int .i64 g.2.1, .int .i64 g.2.2.1], (some ((57, [.sl (.int .u8) ds, .int .i64 g.2.2.2])))) : Int × Int × Int × Int → Prop × SV × Option (TypeId × List SV))) (by kernel_rfl) Tryd.func21 (fun _ => rfl) ?_
  have h := l71Deed_vc ds p hp
  apply VC.thru h
  kernel_rfl
noncomputable def l71Deed_get (ins : List SV) (bs : Option (TypeId × List SV)) : Option (Prop × (Int × Int × Int × Int → Prop × SV × Option (TypeId × List SV))) :=
  match ins, bs with
  | [.bp 0 0], (some ((57, [.sl (.int .u8) ds, .int .i64 p]))) => some (0 ≤ p ∧ p ≤ 10000000, (fun g => (0 ≤ g.2.2.2 ∧ g.2.2.2 ≤ p + 5, .agg [.int .i64 g.1, .int .i64 g.2.1, .int .i64 g.2.2.1], (some ((57, [.sl (.int .u8) ds, .int .i64 g.2.2.2])))) : Int × Int × Int × Int → Prop × SV × Option (TypeId × List SV)))
  | _, _ => none
theorem l71Deed_ok : ∀ ins bs p q, l71Deed_get ins bs = some (p, q) → p → Fn Tryd.prog 21 ins bs (Int × Int × Int × Int) (fun g => (q g).1) (fun g => (q g).2.1) (fun g => (q g).2.2) := by
  intro ins bs p q h hp
  unfold l71Deed_get at h
  split at h
  · cases h; exact l71Deed_fn _ _ hp
  · cases h
noncomputable def l71Deed_con : Con Tryd.prog := .fg 21 (Int × Int × Int × Int) l71Deed_get (enters Tryd.func21 (by kernel_rfl) rfl) l71Deed_ok
end E
end Go.Proofs.YtbjapgekagljeaaDoor
