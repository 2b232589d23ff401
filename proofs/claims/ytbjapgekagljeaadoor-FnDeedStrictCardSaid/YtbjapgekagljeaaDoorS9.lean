/- The program's reading of a deed: the whole text. -/
import Derived.Test.YtbjapgekagljeaaDoorE17
import Derived.Test.YtbjapgekagljeaaDoorProg
import Derived.Test.YtbjapgekagljeaaDoorS8
namespace Go.Proofs.YtbjapgekagljeaaDoor
open Go Go.RowKit
namespace E

def kOf (t : ByteArray) : Int := kindTo (nameB t) 10
def qOf (t : ByteArray) : Nat := (nameB t).size
def okP (t : ByteArray) (k : Int) : Bool :=
  if sizeK k = 0 then decide (t.size ≤ qOf t) else if sizeK k = 1 then numOk t (qOf t) && decide (t.size ≤ numE t (qOf t)) else numOk t (qOf t) && (numOk t (numE t (qOf t)) && decide (t.size ≤ numE t (numE t (qOf t))))
def aP (t : ByteArray) (k : Int) : Int := if sizeK k = 0 then 0 else numV t (qOf t)
def bP (t : ByteArray) (k : Int) : Int := if sizeK k = 2 then numV t (numE t (qOf t)) else 0
def eP (t : ByteArray) (k : Int) : Nat := if sizeK k = 0 then qOf t else if sizeK k = 1 then numE t (qOf t) else numE t (numE t (qOf t))
theorem kindTo_le (w : ByteArray) : ∀ n, kindTo w n = 0 ∨ ∃ j, 1 ≤ j ∧ j ≤ n ∧ word j = w ∧ kindTo w n = (j : Nat)
  | 0 => .inl rfl
  | n + 1 => by
    unfold kindTo
    split
    · exact .inr ⟨n + 1, by omega, Nat.le_refl _, by assumption, rfl⟩
    · rcases kindTo_le w n with h | ⟨j, h1, h2, h3, h4⟩
      · exact .inl h
      · exact .inr ⟨j, h1, by omega, h3, h4⟩
theorem kindTo_none (w : ByteArray) : ∀ n, (∀ j, 1 ≤ j → j ≤ n → word j ≠ w) → kindTo w n = 0
  | 0, _ => rfl
  | n + 1, h => by
    unfold kindTo
    rw [if_neg (h (n + 1) (by omega) (Nat.le_refl _))]
    exact kindTo_none w n (fun j h1 h2 => h j h1 (by omega))
theorem wordInj : ∀ k, k < 11 → ∀ l, l < 11 → 1 ≤ k → 1 ≤ l → word k = word l → k = l := by decide +kernel
theorem kOf_key {t : ByteArray} {j : Nat} (h1 : 1 ≤ j) (h2 : j ≤ 10) (e : word j = nameB t) : kOf t = j := by
  rcases kindTo_le (nameB t) 10 with h | ⟨i, h3, h4, h5, h6⟩
  · exfalso
    have : ∀ n, j ≤ n → kindTo (nameB t) n ≠ 0 := by
      intro n
      induction n with
      | zero => intro h; omega
      | succ n ih =>
        intro h
        unfold kindTo
        split
        · omega
        · rename_i hn
          by_cases hj : j = n + 1
          · subst hj; exact absurd e hn
          · exact ih (by omega)
    exact this 10 h2 h
  · have := wordInj i (by omega) j (by omega) h3 h1 (h5.trans e.symm)
    subst this
    exact h6
theorem kOf_none {t : ByteArray} (h : ∀ j, 1 ≤ j → j < 11 → word j ≠ nameB t) : kOf t = 0 := kindTo_none _ 10 (fun j h1 h2 => h j h1 (by omega))
theorem fin0 {t : ByteArray} (i : Nat) (hs : sizeK i = 0) : okP t i = decide (t.size ≤ (nameB t).size) ∧ aP t i = 0 ∧ bP t i = 0 ∧ eP t i = (nameB t).size := by
  unfold okP aP bP eP qOf; rw [hs]; simp
theorem fin1 {t : ByteArray} (i : Nat) (hs : sizeK i = 1) : okP t i = (numOk t (nameB t).size && decide (t.size ≤ numE t (nameB t).size)) ∧ aP t i = numV t (nameB t).size ∧ bP t i = 0 ∧ eP t i = numE t (nameB t).size := by
  unfold okP aP bP eP qOf; rw [hs]; simp
theorem fin2 {t : ByteArray} (i : Nat) (hs : sizeK i = 2) : okP t i = (numOk t (nameB t).size && (numOk t (numE t (nameB t).size) && decide (t.size ≤ numE t (numE t (nameB t).size)))) ∧ aP t i = numV t (nameB t).size ∧ bP t i = numV t (numE t (nameB t).size) ∧ eP t i = numE t (numE t (nameB t).size) := by
  unfold okP aP bP eP qOf; rw [hs]; simp
theorem fin0' {t : ByteArray} {i : Nat} (e : kOf t = i) (hs : sizeK i = 0) : okP t (kOf t) = decide (t.size ≤ (nameB t).size) ∧ aP t (kOf t) = 0 ∧ bP t (kOf t) = 0 ∧ eP t (kOf t) = (nameB t).size := by
  rw [e]; exact fin0 i hs
theorem fin1' {t : ByteArray} {i : Nat} (e : kOf t = i) (hs : sizeK i = 1) : okP t (kOf t) = (numOk t (nameB t).size && decide (t.size ≤ numE t (nameB t).size)) ∧ aP t (kOf t) = numV t (nameB t).size ∧ bP t (kOf t) = 0 ∧ eP t (kOf t) = numE t (nameB t).size := by
  rw [e]; exact fin1 i hs
theorem fin2' {t : ByteArray} {i : Nat} (e : kOf t = i) (hs : sizeK i = 2) : okP t (kOf t) = (numOk t (nameB t).size && (numOk t (numE t (nameB t).size) && decide (t.size ≤ numE t (numE t (nameB t).size)))) ∧ aP t (kOf t) = numV t (nameB t).size ∧ bP t (kOf t) = numV t (numE t (nameB t).size) ∧ eP t (kOf t) = numE t (numE t (nameB t).size) := by
  rw [e]; exact fin2 i hs
theorem nameB_le (t : ByteArray) : (nameB t).size ≤ t.size := by
  unfold nameB
  split
  · rw [ByteArray.size_extract]; omega
  · exact Nat.le_refl _
theorem next_inv {t : ByteArray} {i : Nat} (h0 : ∀ j, 1 ≤ j → j < i → word j ≠ nameB t) (h : word i ≠ nameB t) : ∀ j, 1 ≤ j → j < i + 1 → word j ≠ nameB t := fun j h1 h2 => by
  rcases Nat.lt_or_ge j i with h3 | h3
  · exact h0 j h1 h3
  · obtain rfl : j = i := by omega
    exact h
set_option maxRecDepth 100000 in
theorem deed_vc (t : ByteArray) (hp : t.size ≤ 30 ∧ kOf t ≠ 0 ∧ okP t (kOf t) = true) :
    ByteArray.mk #[(32 : UInt8)] = blank ∧
      True ∧
        (∃ (_ : Unit),
            (∀ (j : Nat), (1 : Nat) ≤ j → j < (0 : Nat) → word j ≠ nameB t) ∧
              nameB t = nameB t ∧
                ByteArray.mk #[] = ByteArray.mk #[] ∧
                  (0 : Int) = (0 : Int) ∧
                    Value.nilFunc = Value.nilFunc ∧
                      word (1 : Nat) = word (1 : Nat) ∧
                        (2 : Int) = (2 : Int) ∧
                          word (2 : Nat) = word (2 : Nat) ∧
                            (1 : Int) = (1 : Int) ∧
                              word (3 : Nat) = word (3 : Nat) ∧
                                (1 : Int) = (1 : Int) ∧
                                  word (4 : Nat) = word (4 : Nat) ∧
                                    (1 : Int) = (1 : Int) ∧
                                      word (5 : Nat) = word (5 : Nat) ∧
                                        (1 : Int) = (1 : Int) ∧
                                          word (6 : Nat) = word (6 : Nat) ∧
                                            (1 : Int) = (1 : Int) ∧
                                              word (7 : Nat) = word (7 : Nat) ∧
                                                (1 : Int) = (1 : Int) ∧
                                                  word (8 : Nat) = word (8 : Nat) ∧
                                                    (0 : Int) = (0 : Int) ∧
                                                      word (9 : Nat) = word (9 : Nat) ∧
                                                        (2 : Int) = (2 : Int) ∧
                                                          word (10 : Nat) = word (10 : Nat) ∧
                                                            (2 : Int) = (2 : Int) ∧
                                                              (0 : Int) = (↑(0 : Nat) : Int) ∧
                                                                t = t ∧
                                                                  (0 : Int) = (0 : Int) ∧
                                                                    (0 : Int) = (0 : Int) ∧
                                                                      (0 : Int) = (0 : Int) ∧ (0 : Int) = (0 : Int)) ∧
          (((((((((((∀ (_ : Unit),
                                  (∀ (j : Nat), (1 : Nat) ≤ j → j < (0 : Nat) → word j ≠ nameB t) →
                                    (decide ((↑(0 : Nat) : Int) < (11 : Int)) = true →
                                        ((0 : Int) ≤ (↑(0 : Nat) : Int) ∧ (↑(0 : Nat) : Int) < (↑(11 : Nat) : Int)) ∧
                                          ((decide ((↑(0 : Nat) : Int) < (1 : Int)) ||
                                                  decide (ByteArray.mk #[] ≠ nameB t)) =
                                                true →
                                              ∃ (_ : Unit),
                                                (∀ (j : Nat), (1 : Nat) ≤ j → j < (1 : Nat) → word j ≠ nameB t) ∧
                                                  nameB t = nameB t ∧
                                                    ByteArray.mk #[] = ByteArray.mk #[] ∧
                                                      (0 : Int) = (0 : Int) ∧
                                                        Value.nilFunc = Value.nilFunc ∧
                                                          word (1 : Nat) = word (1 : Nat) ∧
                                                            (2 : Int) = (2 : Int) ∧
                                                              word (2 : Nat) = word (2 : Nat) ∧
                                                                (1 : Int) = (1 : Int) ∧
                                                                  word (3 : Nat) = word (3 : Nat) ∧
                                                                    (1 : Int) = (1 : Int) ∧
                                                                      word (4 : Nat) = word (4 : Nat) ∧
                                                                        (1 : Int) = (1 : Int) ∧
                                                                          word (5 : Nat) = word (5 : Nat) ∧
                                                                            (1 : Int) = (1 : Int) ∧
                                                                              word (6 : Nat) = word (6 : Nat) ∧
                                                                                (1 : Int) = (1 : Int) ∧
                                                                                  word (7 : Nat) = word (7 : Nat) ∧
                                                                                    (1 : Int) = (1 : Int) ∧
                                                                                      word (8 : Nat) = word (8 : Nat) ∧
                                                                                        (0 : Int) = (0 : Int) ∧
                                                                                          word (9 : Nat) = word (9 : Nat) ∧
                                                                                            (2 : Int) = (2 : Int) ∧
                                                                                              word (10 : Nat) =
                                                                                                  word (10 : Nat) ∧
                                                                                                (2 : Int) = (2 : Int) ∧
                                                                                                  IntKind.i64.wrap
                                                                                                        ((↑(0 : Nat) :
                                                                                                            Int) +
                                                                                                          (1 : Int)) =
                                                                                                      (↑(1 : Nat) : Int) ∧
                                                                                                    t = t ∧
                                                                                                      (0 : Int) =
                                                                                                          (0 : Int) ∧
                                                                                                        (0 : Int) =
                                                                                                            (0 : Int) ∧
                                                                                                          (0 : Int) =
                                                                                                              (0 : Int) ∧
                                                                                                            (0 : Int) =
                                                                                                              (0 : Int)) ∧
                                            ((decide ((↑(0 : Nat) : Int) < (1 : Int)) ||
                                                  decide (ByteArray.mk #[] ≠ nameB t)) =
                                                false →
                                              (-9223372036854775808 : Int) ≤ (↑(nameB t).size : Int) ∧
                                                  (↑(nameB t).size : Int) ≤ (9223372036854775807 : Int) →
                                                False)) ∧
                                      (decide ((↑(0 : Nat) : Int) < (11 : Int)) = false → False)) ∧
                                ∀ (_ : Unit),
                                  (∀ (j : Nat), (1 : Nat) ≤ j → j < (1 : Nat) → word j ≠ nameB t) →
                                    (decide ((↑(1 : Nat) : Int) < (11 : Int)) = true →
                                        ((0 : Int) ≤ (↑(1 : Nat) : Int) ∧ (↑(1 : Nat) : Int) < (↑(11 : Nat) : Int)) ∧
                                          ((decide ((↑(1 : Nat) : Int) < (1 : Int)) || decide (word (1 : Nat) ≠ nameB t)) =
                                                true →
                                              ∃ (_ : Unit),
                                                (∀ (j : Nat), (1 : Nat) ≤ j → j < (2 : Nat) → word j ≠ nameB t) ∧
                                                  nameB t = nameB t ∧
                                                    ByteArray.mk #[] = ByteArray.mk #[] ∧
                                                      (0 : Int) = (0 : Int) ∧
                                                        Value.nilFunc = Value.nilFunc ∧
                                                          word (1 : Nat) = word (1 : Nat) ∧
                                                            (2 : Int) = (2 : Int) ∧
                                                              word (2 : Nat) = word (2 : Nat) ∧
                                                                (1 : Int) = (1 : Int) ∧
                                                                  word (3 : Nat) = word (3 : Nat) ∧
                                                                    (1 : Int) = (1 : Int) ∧
                                                                      word (4 : Nat) = word (4 : Nat) ∧
                                                                        (1 : Int) = (1 : Int) ∧
                                                                          word (5 : Nat) = word (5 : Nat) ∧
                                                                            (1 : Int) = (1 : Int) ∧
                                                                              word (6 : Nat) = word (6 : Nat) ∧
                                                                                (1 : Int) = (1 : Int) ∧
                                                                                  word (7 : Nat) = word (7 : Nat) ∧
                                                                                    (1 : Int) = (1 : Int) ∧
                                                                                      word (8 : Nat) = word (8 : Nat) ∧
                                                                                        (0 : Int) = (0 : Int) ∧
                                                                                          word (9 : Nat) = word (9 : Nat) ∧
                                                                                            (2 : Int) = (2 : Int) ∧
                                                                                              word (10 : Nat) =
                                                                                                  word (10 : Nat) ∧
                                                                                                (2 : Int) = (2 : Int) ∧
                                                                                                  IntKind.i64.wrap
                                                                                                        ((↑(1 : Nat) :
                                                                                                            Int) +
                                                                                                          (1 : Int)) =
                                                                                                      (↑(2 : Nat) : Int) ∧
                                                                                                    t = t ∧
                                                                                                      (0 : Int) =
                                                                                                          (0 : Int) ∧
                                                                                                        (0 : Int) =
                                                                                                            (0 : Int) ∧
                                                                                                          (0 : Int) =
                                                                                                              (0 : Int) ∧
                                                                                                            (0 : Int) =
                                                                                                              (0 : Int)) ∧
                                            ((decide ((↑(1 : Nat) : Int) < (1 : Int)) ||
                                                  decide (word (1 : Nat) ≠ nameB t)) =
                                                false →
                                              (-9223372036854775808 : Int) ≤ (↑(nameB t).size : Int) ∧
                                                  (↑(nameB t).size : Int) ≤ (9223372036854775807 : Int) →
                                                ((0 : Int) ≤ (↑(nameB t).size : Int) ∧
                                                    numOk t (↑(nameB t).size : Int).toNat = true ∧
                                                      numOk t (numE t (↑(nameB t).size : Int).toNat) = true ∧
                                                        t.size ≤ (30 : Nat)) ∧
                                                  ((-9223372036854775808 : Int) ≤
                                                        (↑(numE t (numE t (↑(nameB t).size : Int).toNat)) : Int) ∧
                                                      (↑(numE t (numE t (↑(nameB t).size : Int).toNat)) : Int) ≤
                                                        (9223372036854775807 : Int) →
                                                    (-9223372036854775808 : Int) ≤ (↑t.size : Int) ∧
                                                        (↑t.size : Int) ≤ (9223372036854775807 : Int) →
                                                      (decide
                                                              ((↑(numE t (numE t (↑(nameB t).size : Int).toNat)) : Int) <
                                                                (↑t.size : Int)) =
                                                            true →
                                                          (-9223372036854775808 : Int) ≤
                                                                (↑(numE t (numE t (↑(nameB t).size : Int).toNat)) : Int) ∧
                                                              (↑(numE t (numE t (↑(nameB t).size : Int).toNat)) : Int) ≤
                                                                (9223372036854775807 : Int) →
                                                            False) ∧
                                                        (decide
                                                              ((↑(numE t (numE t (↑(nameB t).size : Int).toNat)) : Int) <
                                                                (↑t.size : Int)) =
                                                            false →
                                                          (↑(1 : Nat) : Int) = kOf t ∧
                                                            numV t (↑(nameB t).size : Int).toNat = aP t (kOf t) ∧
                                                              numV t (numE t (↑(nameB t).size : Int).toNat) = bP t (kOf t) ∧
                                                                t = t ∧
                                                                  (↑(numE t (numE t (↑(nameB t).size : Int).toNat)) : Int) =
                                                                    (↑(eP t (kOf t)) : Int))))) ∧
                                      (decide ((↑(1 : Nat) : Int) < (11 : Int)) = false → False)) ∧
                              ∀ (_ : Unit),
                                (∀ (j : Nat), (1 : Nat) ≤ j → j < (2 : Nat) → word j ≠ nameB t) →
                                  (decide ((↑(2 : Nat) : Int) < (11 : Int)) = true →
                                      ((0 : Int) ≤ (↑(2 : Nat) : Int) ∧ (↑(2 : Nat) : Int) < (↑(11 : Nat) : Int)) ∧
                                        ((decide ((↑(2 : Nat) : Int) < (1 : Int)) || decide (word (2 : Nat) ≠ nameB t)) =
                                              true →
                                            ∃ (_ : Unit),
                                              (∀ (j : Nat), (1 : Nat) ≤ j → j < (3 : Nat) → word j ≠ nameB t) ∧
                                                nameB t = nameB t ∧
                                                  ByteArray.mk #[] = ByteArray.mk #[] ∧
                                                    (0 : Int) = (0 : Int) ∧
                                                      Value.nilFunc = Value.nilFunc ∧
                                                        word (1 : Nat) = word (1 : Nat) ∧
                                                          (2 : Int) = (2 : Int) ∧
                                                            word (2 : Nat) = word (2 : Nat) ∧
                                                              (1 : Int) = (1 : Int) ∧
                                                                word (3 : Nat) = word (3 : Nat) ∧
                                                                  (1 : Int) = (1 : Int) ∧
                                                                    word (4 : Nat) = word (4 : Nat) ∧
                                                                      (1 : Int) = (1 : Int) ∧
                                                                        word (5 : Nat) = word (5 : Nat) ∧
                                                                          (1 : Int) = (1 : Int) ∧
                                                                            word (6 : Nat) = word (6 : Nat) ∧
                                                                              (1 : Int) = (1 : Int) ∧
                                                                                word (7 : Nat) = word (7 : Nat) ∧
                                                                                  (1 : Int) = (1 : Int) ∧
                                                                                    word (8 : Nat) = word (8 : Nat) ∧
                                                                                      (0 : Int) = (0 : Int) ∧
                                                                                        word (9 : Nat) = word (9 : Nat) ∧
                                                                                          (2 : Int) = (2 : Int) ∧
                                                                                            word (10 : Nat) =
                                                                                                word (10 : Nat) ∧
                                                                                              (2 : Int) = (2 : Int) ∧
                                                                                                IntKind.i64.wrap
                                                                                                      ((↑(2 : Nat) : Int) +
                                                                                                        (1 : Int)) =
                                                                                                    (↑(3 : Nat) : Int) ∧
                                                                                                  t = t ∧
                                                                                                    (0 : Int) = (0 : Int) ∧
                                                                                                      (0 : Int) =
                                                                                                          (0 : Int) ∧
                                                                                                        (0 : Int) =
                                                                                                            (0 : Int) ∧
                                                                                                          (0 : Int) =
                                                                                                            (0 : Int)) ∧
                                          ((decide ((↑(2 : Nat) : Int) < (1 : Int)) || decide (word (2 : Nat) ≠ nameB t)) =
                                              false →
                                            (-9223372036854775808 : Int) ≤ (↑(nameB t).size : Int) ∧
                                                (↑(nameB t).size : Int) ≤ (9223372036854775807 : Int) →
                                              ((0 : Int) ≤ (↑(nameB t).size : Int) ∧
                                                  numOk t (↑(nameB t).size : Int).toNat = true ∧ t.size ≤ (30 : Nat)) ∧
                                                ((-9223372036854775808 : Int) ≤
                                                      (↑(numE t (↑(nameB t).size : Int).toNat) : Int) ∧
                                                    (↑(numE t (↑(nameB t).size : Int).toNat) : Int) ≤
                                                      (9223372036854775807 : Int) →
                                                  (-9223372036854775808 : Int) ≤ (↑t.size : Int) ∧
                                                      (↑t.size : Int) ≤ (9223372036854775807 : Int) →
                                                    (decide
                                                            ((↑(numE t (↑(nameB t).size : Int).toNat) : Int) <
                                                              (↑t.size : Int)) =
                                                          true →
                                                        (-9223372036854775808 : Int) ≤
                                                              (↑(numE t (↑(nameB t).size : Int).toNat) : Int) ∧
                                                            (↑(numE t (↑(nameB t).size : Int).toNat) : Int) ≤
                                                              (9223372036854775807 : Int) →
                                                          False) ∧
                                                      (decide
                                                            ((↑(numE t (↑(nameB t).size : Int).toNat) : Int) <
                                                              (↑t.size : Int)) =
                                                          false →
                                                        (↑(2 : Nat) : Int) = kOf t ∧
                                                          numV t (↑(nameB t).size : Int).toNat = aP t (kOf t) ∧
                                                            (0 : Int) = bP t (kOf t) ∧
                                                              t = t ∧
                                                                (↑(numE t (↑(nameB t).size : Int).toNat) : Int) =
                                                                  (↑(eP t (kOf t)) : Int))))) ∧
                                    (decide ((↑(2 : Nat) : Int) < (11 : Int)) = false → False)) ∧
                            ∀ (_ : Unit),
                              (∀ (j : Nat), (1 : Nat) ≤ j → j < (3 : Nat) → word j ≠ nameB t) →
                                (decide ((↑(3 : Nat) : Int) < (11 : Int)) = true →
                                    ((0 : Int) ≤ (↑(3 : Nat) : Int) ∧ (↑(3 : Nat) : Int) < (↑(11 : Nat) : Int)) ∧
                                      ((decide ((↑(3 : Nat) : Int) < (1 : Int)) || decide (word (3 : Nat) ≠ nameB t)) =
                                            true →
                                          ∃ (_ : Unit),
                                            (∀ (j : Nat), (1 : Nat) ≤ j → j < (4 : Nat) → word j ≠ nameB t) ∧
                                              nameB t = nameB t ∧
                                                ByteArray.mk #[] = ByteArray.mk #[] ∧
                                                  (0 : Int) = (0 : Int) ∧
                                                    Value.nilFunc = Value.nilFunc ∧
                                                      word (1 : Nat) = word (1 : Nat) ∧
                                                        (2 : Int) = (2 : Int) ∧
                                                          word (2 : Nat) = word (2 : Nat) ∧
                                                            (1 : Int) = (1 : Int) ∧
                                                              word (3 : Nat) = word (3 : Nat) ∧
                                                                (1 : Int) = (1 : Int) ∧
                                                                  word (4 : Nat) = word (4 : Nat) ∧
                                                                    (1 : Int) = (1 : Int) ∧
                                                                      word (5 : Nat) = word (5 : Nat) ∧
                                                                        (1 : Int) = (1 : Int) ∧
                                                                          word (6 : Nat) = word (6 : Nat) ∧
                                                                            (1 : Int) = (1 : Int) ∧
                                                                              word (7 : Nat) = word (7 : Nat) ∧
                                                                                (1 : Int) = (1 : Int) ∧
                                                                                  word (8 : Nat) = word (8 : Nat) ∧
                                                                                    (0 : Int) = (0 : Int) ∧
                                                                                      word (9 : Nat) = word (9 : Nat) ∧
                                                                                        (2 : Int) = (2 : Int) ∧
                                                                                          word (10 : Nat) =
                                                                                              word (10 : Nat) ∧
                                                                                            (2 : Int) = (2 : Int) ∧
                                                                                              IntKind.i64.wrap
                                                                                                    ((↑(3 : Nat) : Int) +
                                                                                                      (1 : Int)) =
                                                                                                  (↑(4 : Nat) : Int) ∧
                                                                                                t = t ∧
                                                                                                  (0 : Int) = (0 : Int) ∧
                                                                                                    (0 : Int) = (0 : Int) ∧
                                                                                                      (0 : Int) =
                                                                                                          (0 : Int) ∧
                                                                                                        (0 : Int) =
                                                                                                          (0 : Int)) ∧
                                        ((decide ((↑(3 : Nat) : Int) < (1 : Int)) || decide (word (3 : Nat) ≠ nameB t)) =
                                            false →
                                          (-9223372036854775808 : Int) ≤ (↑(nameB t).size : Int) ∧
                                              (↑(nameB t).size : Int) ≤ (9223372036854775807 : Int) →
                                            ((0 : Int) ≤ (↑(nameB t).size : Int) ∧
                                                numOk t (↑(nameB t).size : Int).toNat = true ∧ t.size ≤ (30 : Nat)) ∧
                                              ((-9223372036854775808 : Int) ≤
                                                    (↑(numE t (↑(nameB t).size : Int).toNat) : Int) ∧
                                                  (↑(numE t (↑(nameB t).size : Int).toNat) : Int) ≤
                                                    (9223372036854775807 : Int) →
                                                (-9223372036854775808 : Int) ≤ (↑t.size : Int) ∧
                                                    (↑t.size : Int) ≤ (9223372036854775807 : Int) →
                                                  (decide
                                                          ((↑(numE t (↑(nameB t).size : Int).toNat) : Int) <
                                                            (↑t.size : Int)) =
                                                        true →
                                                      (-9223372036854775808 : Int) ≤
                                                            (↑(numE t (↑(nameB t).size : Int).toNat) : Int) ∧
                                                          (↑(numE t (↑(nameB t).size : Int).toNat) : Int) ≤
                                                            (9223372036854775807 : Int) →
                                                        False) ∧
                                                    (decide
                                                          ((↑(numE t (↑(nameB t).size : Int).toNat) : Int) <
                                                            (↑t.size : Int)) =
                                                        false →
                                                      (↑(3 : Nat) : Int) = kOf t ∧
                                                        numV t (↑(nameB t).size : Int).toNat = aP t (kOf t) ∧
                                                          (0 : Int) = bP t (kOf t) ∧
                                                            t = t ∧
                                                              (↑(numE t (↑(nameB t).size : Int).toNat) : Int) =
                                                                (↑(eP t (kOf t)) : Int))))) ∧
                                  (decide ((↑(3 : Nat) : Int) < (11 : Int)) = false → False)) ∧
                          ∀ (_ : Unit),
                            (∀ (j : Nat), (1 : Nat) ≤ j → j < (4 : Nat) → word j ≠ nameB t) →
                              (decide ((↑(4 : Nat) : Int) < (11 : Int)) = true →
                                  ((0 : Int) ≤ (↑(4 : Nat) : Int) ∧ (↑(4 : Nat) : Int) < (↑(11 : Nat) : Int)) ∧
                                    ((decide ((↑(4 : Nat) : Int) < (1 : Int)) || decide (word (4 : Nat) ≠ nameB t)) = true →
                                        ∃ (_ : Unit),
                                          (∀ (j : Nat), (1 : Nat) ≤ j → j < (5 : Nat) → word j ≠ nameB t) ∧
                                            nameB t = nameB t ∧
                                              ByteArray.mk #[] = ByteArray.mk #[] ∧
                                                (0 : Int) = (0 : Int) ∧
                                                  Value.nilFunc = Value.nilFunc ∧
                                                    word (1 : Nat) = word (1 : Nat) ∧
                                                      (2 : Int) = (2 : Int) ∧
                                                        word (2 : Nat) = word (2 : Nat) ∧
                                                          (1 : Int) = (1 : Int) ∧
                                                            word (3 : Nat) = word (3 : Nat) ∧
                                                              (1 : Int) = (1 : Int) ∧
                                                                word (4 : Nat) = word (4 : Nat) ∧
                                                                  (1 : Int) = (1 : Int) ∧
                                                                    word (5 : Nat) = word (5 : Nat) ∧
                                                                      (1 : Int) = (1 : Int) ∧
                                                                        word (6 : Nat) = word (6 : Nat) ∧
                                                                          (1 : Int) = (1 : Int) ∧
                                                                            word (7 : Nat) = word (7 : Nat) ∧
                                                                              (1 : Int) = (1 : Int) ∧
                                                                                word (8 : Nat) = word (8 : Nat) ∧
                                                                                  (0 : Int) = (0 : Int) ∧
                                                                                    word (9 : Nat) = word (9 : Nat) ∧
                                                                                      (2 : Int) = (2 : Int) ∧
                                                                                        word (10 : Nat) = word (10 : Nat) ∧
                                                                                          (2 : Int) = (2 : Int) ∧
                                                                                            IntKind.i64.wrap
                                                                                                  ((↑(4 : Nat) : Int) +
                                                                                                    (1 : Int)) =
                                                                                                (↑(5 : Nat) : Int) ∧
                                                                                              t = t ∧
                                                                                                (0 : Int) = (0 : Int) ∧
                                                                                                  (0 : Int) = (0 : Int) ∧
                                                                                                    (0 : Int) = (0 : Int) ∧
                                                                                                      (0 : Int) =
                                                                                                        (0 : Int)) ∧
                                      ((decide ((↑(4 : Nat) : Int) < (1 : Int)) || decide (word (4 : Nat) ≠ nameB t)) =
                                          false →
                                        (-9223372036854775808 : Int) ≤ (↑(nameB t).size : Int) ∧
                                            (↑(nameB t).size : Int) ≤ (9223372036854775807 : Int) →
                                          ((0 : Int) ≤ (↑(nameB t).size : Int) ∧
                                              numOk t (↑(nameB t).size : Int).toNat = true ∧ t.size ≤ (30 : Nat)) ∧
                                            ((-9223372036854775808 : Int) ≤
                                                  (↑(numE t (↑(nameB t).size : Int).toNat) : Int) ∧
                                                (↑(numE t (↑(nameB t).size : Int).toNat) : Int) ≤
                                                  (9223372036854775807 : Int) →
                                              (-9223372036854775808 : Int) ≤ (↑t.size : Int) ∧
                                                  (↑t.size : Int) ≤ (9223372036854775807 : Int) →
                                                (decide
                                                        ((↑(numE t (↑(nameB t).size : Int).toNat) : Int) <
                                                          (↑t.size : Int)) =
                                                      true →
                                                    (-9223372036854775808 : Int) ≤
                                                          (↑(numE t (↑(nameB t).size : Int).toNat) : Int) ∧
                                                        (↑(numE t (↑(nameB t).size : Int).toNat) : Int) ≤
                                                          (9223372036854775807 : Int) →
                                                      False) ∧
                                                  (decide
                                                        ((↑(numE t (↑(nameB t).size : Int).toNat) : Int) <
                                                          (↑t.size : Int)) =
                                                      false →
                                                    (↑(4 : Nat) : Int) = kOf t ∧
                                                      numV t (↑(nameB t).size : Int).toNat = aP t (kOf t) ∧
                                                        (0 : Int) = bP t (kOf t) ∧
                                                          t = t ∧
                                                            (↑(numE t (↑(nameB t).size : Int).toNat) : Int) =
                                                              (↑(eP t (kOf t)) : Int))))) ∧
                                (decide ((↑(4 : Nat) : Int) < (11 : Int)) = false → False)) ∧
                        ∀ (_ : Unit),
                          (∀ (j : Nat), (1 : Nat) ≤ j → j < (5 : Nat) → word j ≠ nameB t) →
                            (decide ((↑(5 : Nat) : Int) < (11 : Int)) = true →
                                ((0 : Int) ≤ (↑(5 : Nat) : Int) ∧ (↑(5 : Nat) : Int) < (↑(11 : Nat) : Int)) ∧
                                  ((decide ((↑(5 : Nat) : Int) < (1 : Int)) || decide (word (5 : Nat) ≠ nameB t)) = true →
                                      ∃ (_ : Unit),
                                        (∀ (j : Nat), (1 : Nat) ≤ j → j < (6 : Nat) → word j ≠ nameB t) ∧
                                          nameB t = nameB t ∧
                                            ByteArray.mk #[] = ByteArray.mk #[] ∧
                                              (0 : Int) = (0 : Int) ∧
                                                Value.nilFunc = Value.nilFunc ∧
                                                  word (1 : Nat) = word (1 : Nat) ∧
                                                    (2 : Int) = (2 : Int) ∧
                                                      word (2 : Nat) = word (2 : Nat) ∧
                                                        (1 : Int) = (1 : Int) ∧
                                                          word (3 : Nat) = word (3 : Nat) ∧
                                                            (1 : Int) = (1 : Int) ∧
                                                              word (4 : Nat) = word (4 : Nat) ∧
                                                                (1 : Int) = (1 : Int) ∧
                                                                  word (5 : Nat) = word (5 : Nat) ∧
                                                                    (1 : Int) = (1 : Int) ∧
                                                                      word (6 : Nat) = word (6 : Nat) ∧
                                                                        (1 : Int) = (1 : Int) ∧
                                                                          word (7 : Nat) = word (7 : Nat) ∧
                                                                            (1 : Int) = (1 : Int) ∧
                                                                              word (8 : Nat) = word (8 : Nat) ∧
                                                                                (0 : Int) = (0 : Int) ∧
                                                                                  word (9 : Nat) = word (9 : Nat) ∧
                                                                                    (2 : Int) = (2 : Int) ∧
                                                                                      word (10 : Nat) = word (10 : Nat) ∧
                                                                                        (2 : Int) = (2 : Int) ∧
                                                                                          IntKind.i64.wrap
                                                                                                ((↑(5 : Nat) : Int) +
                                                                                                  (1 : Int)) =
                                                                                              (↑(6 : Nat) : Int) ∧
                                                                                            t = t ∧
                                                                                              (0 : Int) = (0 : Int) ∧
                                                                                                (0 : Int) = (0 : Int) ∧
                                                                                                  (0 : Int) = (0 : Int) ∧
                                                                                                    (0 : Int) = (0 : Int)) ∧
                                    ((decide ((↑(5 : Nat) : Int) < (1 : Int)) || decide (word (5 : Nat) ≠ nameB t)) =
                                        false →
                                      (-9223372036854775808 : Int) ≤ (↑(nameB t).size : Int) ∧
                                          (↑(nameB t).size : Int) ≤ (9223372036854775807 : Int) →
                                        ((0 : Int) ≤ (↑(nameB t).size : Int) ∧
                                            numOk t (↑(nameB t).size : Int).toNat = true ∧ t.size ≤ (30 : Nat)) ∧
                                          ((-9223372036854775808 : Int) ≤ (↑(numE t (↑(nameB t).size : Int).toNat) : Int) ∧
                                              (↑(numE t (↑(nameB t).size : Int).toNat) : Int) ≤
                                                (9223372036854775807 : Int) →
                                            (-9223372036854775808 : Int) ≤ (↑t.size : Int) ∧
                                                (↑t.size : Int) ≤ (9223372036854775807 : Int) →
                                              (decide ((↑(numE t (↑(nameB t).size : Int).toNat) : Int) < (↑t.size : Int)) =
                                                    true →
                                                  (-9223372036854775808 : Int) ≤
                                                        (↑(numE t (↑(nameB t).size : Int).toNat) : Int) ∧
                                                      (↑(numE t (↑(nameB t).size : Int).toNat) : Int) ≤
                                                        (9223372036854775807 : Int) →
                                                    False) ∧
                                                (decide
                                                      ((↑(numE t (↑(nameB t).size : Int).toNat) : Int) < (↑t.size : Int)) =
                                                    false →
                                                  (↑(5 : Nat) : Int) = kOf t ∧
                                                    numV t (↑(nameB t).size : Int).toNat = aP t (kOf t) ∧
                                                      (0 : Int) = bP t (kOf t) ∧
                                                        t = t ∧
                                                          (↑(numE t (↑(nameB t).size : Int).toNat) : Int) =
                                                            (↑(eP t (kOf t)) : Int))))) ∧
                              (decide ((↑(5 : Nat) : Int) < (11 : Int)) = false → False)) ∧
                      ∀ (_ : Unit),
                        (∀ (j : Nat), (1 : Nat) ≤ j → j < (6 : Nat) → word j ≠ nameB t) →
                          (decide ((↑(6 : Nat) : Int) < (11 : Int)) = true →
                              ((0 : Int) ≤ (↑(6 : Nat) : Int) ∧ (↑(6 : Nat) : Int) < (↑(11 : Nat) : Int)) ∧
                                ((decide ((↑(6 : Nat) : Int) < (1 : Int)) || decide (word (6 : Nat) ≠ nameB t)) = true →
                                    ∃ (_ : Unit),
                                      (∀ (j : Nat), (1 : Nat) ≤ j → j < (7 : Nat) → word j ≠ nameB t) ∧
                                        nameB t = nameB t ∧
                                          ByteArray.mk #[] = ByteArray.mk #[] ∧
                                            (0 : Int) = (0 : Int) ∧
                                              Value.nilFunc = Value.nilFunc ∧
                                                word (1 : Nat) = word (1 : Nat) ∧
                                                  (2 : Int) = (2 : Int) ∧
                                                    word (2 : Nat) = word (2 : Nat) ∧
                                                      (1 : Int) = (1 : Int) ∧
                                                        word (3 : Nat) = word (3 : Nat) ∧
                                                          (1 : Int) = (1 : Int) ∧
                                                            word (4 : Nat) = word (4 : Nat) ∧
                                                              (1 : Int) = (1 : Int) ∧
                                                                word (5 : Nat) = word (5 : Nat) ∧
                                                                  (1 : Int) = (1 : Int) ∧
                                                                    word (6 : Nat) = word (6 : Nat) ∧
                                                                      (1 : Int) = (1 : Int) ∧
                                                                        word (7 : Nat) = word (7 : Nat) ∧
                                                                          (1 : Int) = (1 : Int) ∧
                                                                            word (8 : Nat) = word (8 : Nat) ∧
                                                                              (0 : Int) = (0 : Int) ∧
                                                                                word (9 : Nat) = word (9 : Nat) ∧
                                                                                  (2 : Int) = (2 : Int) ∧
                                                                                    word (10 : Nat) = word (10 : Nat) ∧
                                                                                      (2 : Int) = (2 : Int) ∧
                                                                                        IntKind.i64.wrap
                                                                                              ((↑(6 : Nat) : Int) +
                                                                                                (1 : Int)) =
                                                                                            (↑(7 : Nat) : Int) ∧
                                                                                          t = t ∧
                                                                                            (0 : Int) = (0 : Int) ∧
                                                                                              (0 : Int) = (0 : Int) ∧
                                                                                                (0 : Int) = (0 : Int) ∧
                                                                                                  (0 : Int) = (0 : Int)) ∧
                                  ((decide ((↑(6 : Nat) : Int) < (1 : Int)) || decide (word (6 : Nat) ≠ nameB t)) = false →
                                    (-9223372036854775808 : Int) ≤ (↑(nameB t).size : Int) ∧
                                        (↑(nameB t).size : Int) ≤ (9223372036854775807 : Int) →
                                      ((0 : Int) ≤ (↑(nameB t).size : Int) ∧
                                          numOk t (↑(nameB t).size : Int).toNat = true ∧ t.size ≤ (30 : Nat)) ∧
                                        ((-9223372036854775808 : Int) ≤ (↑(numE t (↑(nameB t).size : Int).toNat) : Int) ∧
                                            (↑(numE t (↑(nameB t).size : Int).toNat) : Int) ≤ (9223372036854775807 : Int) →
                                          (-9223372036854775808 : Int) ≤ (↑t.size : Int) ∧
                                              (↑t.size : Int) ≤ (9223372036854775807 : Int) →
                                            (decide ((↑(numE t (↑(nameB t).size : Int).toNat) : Int) < (↑t.size : Int)) =
                                                  true →
                                                (-9223372036854775808 : Int) ≤
                                                      (↑(numE t (↑(nameB t).size : Int).toNat) : Int) ∧
                                                    (↑(numE t (↑(nameB t).size : Int).toNat) : Int) ≤
                                                      (9223372036854775807 : Int) →
                                                  False) ∧
                                              (decide ((↑(numE t (↑(nameB t).size : Int).toNat) : Int) < (↑t.size : Int)) =
                                                  false →
                                                (↑(6 : Nat) : Int) = kOf t ∧
                                                  numV t (↑(nameB t).size : Int).toNat = aP t (kOf t) ∧
                                                    (0 : Int) = bP t (kOf t) ∧
                                                      t = t ∧
                                                        (↑(numE t (↑(nameB t).size : Int).toNat) : Int) =
                                                          (↑(eP t (kOf t)) : Int))))) ∧
                            (decide ((↑(6 : Nat) : Int) < (11 : Int)) = false → False)) ∧
                    ∀ (_ : Unit),
                      (∀ (j : Nat), (1 : Nat) ≤ j → j < (7 : Nat) → word j ≠ nameB t) →
                        (decide ((↑(7 : Nat) : Int) < (11 : Int)) = true →
                            ((0 : Int) ≤ (↑(7 : Nat) : Int) ∧ (↑(7 : Nat) : Int) < (↑(11 : Nat) : Int)) ∧
                              ((decide ((↑(7 : Nat) : Int) < (1 : Int)) || decide (word (7 : Nat) ≠ nameB t)) = true →
                                  ∃ (_ : Unit),
                                    (∀ (j : Nat), (1 : Nat) ≤ j → j < (8 : Nat) → word j ≠ nameB t) ∧
                                      nameB t = nameB t ∧
                                        ByteArray.mk #[] = ByteArray.mk #[] ∧
                                          (0 : Int) = (0 : Int) ∧
                                            Value.nilFunc = Value.nilFunc ∧
                                              word (1 : Nat) = word (1 : Nat) ∧
                                                (2 : Int) = (2 : Int) ∧
                                                  word (2 : Nat) = word (2 : Nat) ∧
                                                    (1 : Int) = (1 : Int) ∧
                                                      word (3 : Nat) = word (3 : Nat) ∧
                                                        (1 : Int) = (1 : Int) ∧
                                                          word (4 : Nat) = word (4 : Nat) ∧
                                                            (1 : Int) = (1 : Int) ∧
                                                              word (5 : Nat) = word (5 : Nat) ∧
                                                                (1 : Int) = (1 : Int) ∧
                                                                  word (6 : Nat) = word (6 : Nat) ∧
                                                                    (1 : Int) = (1 : Int) ∧
                                                                      word (7 : Nat) = word (7 : Nat) ∧
                                                                        (1 : Int) = (1 : Int) ∧
                                                                          word (8 : Nat) = word (8 : Nat) ∧
                                                                            (0 : Int) = (0 : Int) ∧
                                                                              word (9 : Nat) = word (9 : Nat) ∧
                                                                                (2 : Int) = (2 : Int) ∧
                                                                                  word (10 : Nat) = word (10 : Nat) ∧
                                                                                    (2 : Int) = (2 : Int) ∧
                                                                                      IntKind.i64.wrap
                                                                                            ((↑(7 : Nat) : Int) +
                                                                                              (1 : Int)) =
                                                                                          (↑(8 : Nat) : Int) ∧
                                                                                        t = t ∧
                                                                                          (0 : Int) = (0 : Int) ∧
                                                                                            (0 : Int) = (0 : Int) ∧
                                                                                              (0 : Int) = (0 : Int) ∧
                                                                                                (0 : Int) = (0 : Int)) ∧
                                ((decide ((↑(7 : Nat) : Int) < (1 : Int)) || decide (word (7 : Nat) ≠ nameB t)) = false →
                                  (-9223372036854775808 : Int) ≤ (↑(nameB t).size : Int) ∧
                                      (↑(nameB t).size : Int) ≤ (9223372036854775807 : Int) →
                                    ((0 : Int) ≤ (↑(nameB t).size : Int) ∧
                                        numOk t (↑(nameB t).size : Int).toNat = true ∧ t.size ≤ (30 : Nat)) ∧
                                      ((-9223372036854775808 : Int) ≤ (↑(numE t (↑(nameB t).size : Int).toNat) : Int) ∧
                                          (↑(numE t (↑(nameB t).size : Int).toNat) : Int) ≤ (9223372036854775807 : Int) →
                                        (-9223372036854775808 : Int) ≤ (↑t.size : Int) ∧
                                            (↑t.size : Int) ≤ (9223372036854775807 : Int) →
                                          (decide ((↑(numE t (↑(nameB t).size : Int).toNat) : Int) < (↑t.size : Int)) =
                                                true →
                                              (-9223372036854775808 : Int) ≤
                                                    (↑(numE t (↑(nameB t).size : Int).toNat) : Int) ∧
                                                  (↑(numE t (↑(nameB t).size : Int).toNat) : Int) ≤
                                                    (9223372036854775807 : Int) →
                                                False) ∧
                                            (decide ((↑(numE t (↑(nameB t).size : Int).toNat) : Int) < (↑t.size : Int)) =
                                                false →
                                              (↑(7 : Nat) : Int) = kOf t ∧
                                                numV t (↑(nameB t).size : Int).toNat = aP t (kOf t) ∧
                                                  (0 : Int) = bP t (kOf t) ∧
                                                    t = t ∧
                                                      (↑(numE t (↑(nameB t).size : Int).toNat) : Int) =
                                                        (↑(eP t (kOf t)) : Int))))) ∧
                          (decide ((↑(7 : Nat) : Int) < (11 : Int)) = false → False)) ∧
                  ∀ (_ : Unit),
                    (∀ (j : Nat), (1 : Nat) ≤ j → j < (8 : Nat) → word j ≠ nameB t) →
                      (decide ((↑(8 : Nat) : Int) < (11 : Int)) = true →
                          ((0 : Int) ≤ (↑(8 : Nat) : Int) ∧ (↑(8 : Nat) : Int) < (↑(11 : Nat) : Int)) ∧
                            ((decide ((↑(8 : Nat) : Int) < (1 : Int)) || decide (word (8 : Nat) ≠ nameB t)) = true →
                                ∃ (_ : Unit),
                                  (∀ (j : Nat), (1 : Nat) ≤ j → j < (9 : Nat) → word j ≠ nameB t) ∧
                                    nameB t = nameB t ∧
                                      ByteArray.mk #[] = ByteArray.mk #[] ∧
                                        (0 : Int) = (0 : Int) ∧
                                          Value.nilFunc = Value.nilFunc ∧
                                            word (1 : Nat) = word (1 : Nat) ∧
                                              (2 : Int) = (2 : Int) ∧
                                                word (2 : Nat) = word (2 : Nat) ∧
                                                  (1 : Int) = (1 : Int) ∧
                                                    word (3 : Nat) = word (3 : Nat) ∧
                                                      (1 : Int) = (1 : Int) ∧
                                                        word (4 : Nat) = word (4 : Nat) ∧
                                                          (1 : Int) = (1 : Int) ∧
                                                            word (5 : Nat) = word (5 : Nat) ∧
                                                              (1 : Int) = (1 : Int) ∧
                                                                word (6 : Nat) = word (6 : Nat) ∧
                                                                  (1 : Int) = (1 : Int) ∧
                                                                    word (7 : Nat) = word (7 : Nat) ∧
                                                                      (1 : Int) = (1 : Int) ∧
                                                                        word (8 : Nat) = word (8 : Nat) ∧
                                                                          (0 : Int) = (0 : Int) ∧
                                                                            word (9 : Nat) = word (9 : Nat) ∧
                                                                              (2 : Int) = (2 : Int) ∧
                                                                                word (10 : Nat) = word (10 : Nat) ∧
                                                                                  (2 : Int) = (2 : Int) ∧
                                                                                    IntKind.i64.wrap
                                                                                          ((↑(8 : Nat) : Int) + (1 : Int)) =
                                                                                        (↑(9 : Nat) : Int) ∧
                                                                                      t = t ∧
                                                                                        (0 : Int) = (0 : Int) ∧
                                                                                          (0 : Int) = (0 : Int) ∧
                                                                                            (0 : Int) = (0 : Int) ∧
                                                                                              (0 : Int) = (0 : Int)) ∧
                              ((decide ((↑(8 : Nat) : Int) < (1 : Int)) || decide (word (8 : Nat) ≠ nameB t)) = false →
                                (-9223372036854775808 : Int) ≤ (↑(nameB t).size : Int) ∧
                                    (↑(nameB t).size : Int) ≤ (9223372036854775807 : Int) →
                                  True ∧
                                    ((-9223372036854775808 : Int) ≤ (↑(nameB t).size : Int) ∧
                                        (↑(nameB t).size : Int) ≤ (9223372036854775807 : Int) →
                                      (-9223372036854775808 : Int) ≤ (↑t.size : Int) ∧
                                          (↑t.size : Int) ≤ (9223372036854775807 : Int) →
                                        (decide ((↑(nameB t).size : Int) < (↑t.size : Int)) = true →
                                            (-9223372036854775808 : Int) ≤ (↑(nameB t).size : Int) ∧
                                                (↑(nameB t).size : Int) ≤ (9223372036854775807 : Int) →
                                              False) ∧
                                          (decide ((↑(nameB t).size : Int) < (↑t.size : Int)) = false →
                                            (↑(8 : Nat) : Int) = kOf t ∧
                                              (0 : Int) = aP t (kOf t) ∧
                                                (0 : Int) = bP t (kOf t) ∧
                                                  t = t ∧ (↑(nameB t).size : Int) = (↑(eP t (kOf t)) : Int))))) ∧
                        (decide ((↑(8 : Nat) : Int) < (11 : Int)) = false → False)) ∧
                ∀ (_ : Unit),
                  (∀ (j : Nat), (1 : Nat) ≤ j → j < (9 : Nat) → word j ≠ nameB t) →
                    (decide ((↑(9 : Nat) : Int) < (11 : Int)) = true →
                        ((0 : Int) ≤ (↑(9 : Nat) : Int) ∧ (↑(9 : Nat) : Int) < (↑(11 : Nat) : Int)) ∧
                          ((decide ((↑(9 : Nat) : Int) < (1 : Int)) || decide (word (9 : Nat) ≠ nameB t)) = true →
                              ∃ (_ : Unit),
                                (∀ (j : Nat), (1 : Nat) ≤ j → j < (10 : Nat) → word j ≠ nameB t) ∧
                                  nameB t = nameB t ∧
                                    ByteArray.mk #[] = ByteArray.mk #[] ∧
                                      (0 : Int) = (0 : Int) ∧
                                        Value.nilFunc = Value.nilFunc ∧
                                          word (1 : Nat) = word (1 : Nat) ∧
                                            (2 : Int) = (2 : Int) ∧
                                              word (2 : Nat) = word (2 : Nat) ∧
                                                (1 : Int) = (1 : Int) ∧
                                                  word (3 : Nat) = word (3 : Nat) ∧
                                                    (1 : Int) = (1 : Int) ∧
                                                      word (4 : Nat) = word (4 : Nat) ∧
                                                        (1 : Int) = (1 : Int) ∧
                                                          word (5 : Nat) = word (5 : Nat) ∧
                                                            (1 : Int) = (1 : Int) ∧
                                                              word (6 : Nat) = word (6 : Nat) ∧
                                                                (1 : Int) = (1 : Int) ∧
                                                                  word (7 : Nat) = word (7 : Nat) ∧
                                                                    (1 : Int) = (1 : Int) ∧
                                                                      word (8 : Nat) = word (8 : Nat) ∧
                                                                        (0 : Int) = (0 : Int) ∧
                                                                          word (9 : Nat) = word (9 : Nat) ∧
                                                                            (2 : Int) = (2 : Int) ∧
                                                                              word (10 : Nat) = word (10 : Nat) ∧
                                                                                (2 : Int) = (2 : Int) ∧
                                                                                  IntKind.i64.wrap
                                                                                        ((↑(9 : Nat) : Int) + (1 : Int)) =
                                                                                      (↑(10 : Nat) : Int) ∧
                                                                                    t = t ∧
                                                                                      (0 : Int) = (0 : Int) ∧
                                                                                        (0 : Int) = (0 : Int) ∧
                                                                                          (0 : Int) = (0 : Int) ∧
                                                                                            (0 : Int) = (0 : Int)) ∧
                            ((decide ((↑(9 : Nat) : Int) < (1 : Int)) || decide (word (9 : Nat) ≠ nameB t)) = false →
                              (-9223372036854775808 : Int) ≤ (↑(nameB t).size : Int) ∧
                                  (↑(nameB t).size : Int) ≤ (9223372036854775807 : Int) →
                                ((0 : Int) ≤ (↑(nameB t).size : Int) ∧
                                    numOk t (↑(nameB t).size : Int).toNat = true ∧
                                      numOk t (numE t (↑(nameB t).size : Int).toNat) = true ∧ t.size ≤ (30 : Nat)) ∧
                                  ((-9223372036854775808 : Int) ≤ (↑(numE t (numE t (↑(nameB t).size : Int).toNat)) : Int) ∧
                                      (↑(numE t (numE t (↑(nameB t).size : Int).toNat)) : Int) ≤
                                        (9223372036854775807 : Int) →
                                    (-9223372036854775808 : Int) ≤ (↑t.size : Int) ∧
                                        (↑t.size : Int) ≤ (9223372036854775807 : Int) →
                                      (decide ((↑(numE t (numE t (↑(nameB t).size : Int).toNat)) : Int) < (↑t.size : Int)) =
                                            true →
                                          (-9223372036854775808 : Int) ≤
                                                (↑(numE t (numE t (↑(nameB t).size : Int).toNat)) : Int) ∧
                                              (↑(numE t (numE t (↑(nameB t).size : Int).toNat)) : Int) ≤
                                                (9223372036854775807 : Int) →
                                            False) ∧
                                        (decide
                                              ((↑(numE t (numE t (↑(nameB t).size : Int).toNat)) : Int) < (↑t.size : Int)) =
                                            false →
                                          (↑(9 : Nat) : Int) = kOf t ∧
                                            numV t (↑(nameB t).size : Int).toNat = aP t (kOf t) ∧
                                              numV t (numE t (↑(nameB t).size : Int).toNat) = bP t (kOf t) ∧
                                                t = t ∧
                                                  (↑(numE t (numE t (↑(nameB t).size : Int).toNat)) : Int) =
                                                    (↑(eP t (kOf t)) : Int))))) ∧
                      (decide ((↑(9 : Nat) : Int) < (11 : Int)) = false → False)) ∧
              ∀ (_ : Unit),
                (∀ (j : Nat), (1 : Nat) ≤ j → j < (10 : Nat) → word j ≠ nameB t) →
                  (decide ((↑(10 : Nat) : Int) < (11 : Int)) = true →
                      ((0 : Int) ≤ (↑(10 : Nat) : Int) ∧ (↑(10 : Nat) : Int) < (↑(11 : Nat) : Int)) ∧
                        ((decide ((↑(10 : Nat) : Int) < (1 : Int)) || decide (word (10 : Nat) ≠ nameB t)) = true →
                            ∃ (_ : Unit),
                              (∀ (j : Nat), (1 : Nat) ≤ j → j < (11 : Nat) → word j ≠ nameB t) ∧
                                nameB t = nameB t ∧
                                  ByteArray.mk #[] = ByteArray.mk #[] ∧
                                    (0 : Int) = (0 : Int) ∧
                                      Value.nilFunc = Value.nilFunc ∧
                                        word (1 : Nat) = word (1 : Nat) ∧
                                          (2 : Int) = (2 : Int) ∧
                                            word (2 : Nat) = word (2 : Nat) ∧
                                              (1 : Int) = (1 : Int) ∧
                                                word (3 : Nat) = word (3 : Nat) ∧
                                                  (1 : Int) = (1 : Int) ∧
                                                    word (4 : Nat) = word (4 : Nat) ∧
                                                      (1 : Int) = (1 : Int) ∧
                                                        word (5 : Nat) = word (5 : Nat) ∧
                                                          (1 : Int) = (1 : Int) ∧
                                                            word (6 : Nat) = word (6 : Nat) ∧
                                                              (1 : Int) = (1 : Int) ∧
                                                                word (7 : Nat) = word (7 : Nat) ∧
                                                                  (1 : Int) = (1 : Int) ∧
                                                                    word (8 : Nat) = word (8 : Nat) ∧
                                                                      (0 : Int) = (0 : Int) ∧
                                                                        word (9 : Nat) = word (9 : Nat) ∧
                                                                          (2 : Int) = (2 : Int) ∧
                                                                            word (10 : Nat) = word (10 : Nat) ∧
                                                                              (2 : Int) = (2 : Int) ∧
                                                                                IntKind.i64.wrap
                                                                                      ((↑(10 : Nat) : Int) + (1 : Int)) =
                                                                                    (↑(11 : Nat) : Int) ∧
                                                                                  t = t ∧
                                                                                    (0 : Int) = (0 : Int) ∧
                                                                                      (0 : Int) = (0 : Int) ∧
                                                                                        (0 : Int) = (0 : Int) ∧
                                                                                          (0 : Int) = (0 : Int)) ∧
                          ((decide ((↑(10 : Nat) : Int) < (1 : Int)) || decide (word (10 : Nat) ≠ nameB t)) = false →
                            (-9223372036854775808 : Int) ≤ (↑(nameB t).size : Int) ∧
                                (↑(nameB t).size : Int) ≤ (9223372036854775807 : Int) →
                              ((0 : Int) ≤ (↑(nameB t).size : Int) ∧
                                  numOk t (↑(nameB t).size : Int).toNat = true ∧
                                    numOk t (numE t (↑(nameB t).size : Int).toNat) = true ∧ t.size ≤ (30 : Nat)) ∧
                                ((-9223372036854775808 : Int) ≤ (↑(numE t (numE t (↑(nameB t).size : Int).toNat)) : Int) ∧
                                    (↑(numE t (numE t (↑(nameB t).size : Int).toNat)) : Int) ≤ (9223372036854775807 : Int) →
                                  (-9223372036854775808 : Int) ≤ (↑t.size : Int) ∧
                                      (↑t.size : Int) ≤ (9223372036854775807 : Int) →
                                    (decide ((↑(numE t (numE t (↑(nameB t).size : Int).toNat)) : Int) < (↑t.size : Int)) =
                                          true →
                                        (-9223372036854775808 : Int) ≤
                                              (↑(numE t (numE t (↑(nameB t).size : Int).toNat)) : Int) ∧
                                            (↑(numE t (numE t (↑(nameB t).size : Int).toNat)) : Int) ≤
                                              (9223372036854775807 : Int) →
                                          False) ∧
                                      (decide ((↑(numE t (numE t (↑(nameB t).size : Int).toNat)) : Int) < (↑t.size : Int)) =
                                          false →
                                        (↑(10 : Nat) : Int) = kOf t ∧
                                          numV t (↑(nameB t).size : Int).toNat = aP t (kOf t) ∧
                                            numV t (numE t (↑(nameB t).size : Int).toNat) = bP t (kOf t) ∧
                                              t = t ∧
                                                (↑(numE t (numE t (↑(nameB t).size : Int).toNat)) : Int) =
                                                  (↑(eP t (kOf t)) : Int))))) ∧
                    (decide ((↑(10 : Nat) : Int) < (11 : Int)) = false → False)) ∧
            ∀ (_ : Unit),
              (∀ (j : Nat), (1 : Nat) ≤ j → j < (11 : Nat) → word j ≠ nameB t) →
                (decide ((↑(11 : Nat) : Int) < (11 : Int)) = true → False) ∧
                  (decide ((↑(11 : Nat) : Int) < (11 : Int)) = false → False) := by
  obtain ⟨ht, hk, ho⟩ := hp
  simp only [Int.toNat_natCast]
  refine ⟨rfl, trivial, ⟨(), by omega, by simp⟩, ⟨⟨⟨⟨⟨⟨⟨⟨⟨⟨⟨?a0, ?a1⟩, ?a2⟩, ?a3⟩, ?a4⟩, ?a5⟩, ?a6⟩, ?a7⟩, ?a8⟩, ?a9⟩, ?a10⟩, ?a11⟩⟩
  case a0 =>
    intro _ hinv
    exact ⟨fun _ => ⟨by omega, fun _ => ⟨(), by omega, by simp; decide⟩, fun h => by simp at h⟩, fun h => absurd h (by decide)⟩
  case a11 =>
    intro _ hinv
    exact ⟨fun h => absurd h (by decide), fun _ => hk (kOf_none hinv)⟩
  all_goals
    intro _ hinv
    refine ⟨fun _ => ⟨by omega, fun h => ⟨(), next_inv hinv (by simpa using h), by simp; decide⟩, fun h _ => ?_⟩, fun h => absurd h (by decide)⟩
    simp only [Bool.or_eq_false_iff, decide_eq_false_iff_not, ne_eq, Classical.not_not] at h
    have e := kOf_key (by omega) (by omega) h.2
    first
    | obtain ⟨f1, f2, f3, f4⟩ := fin2' e rfl
      rw [f1] at ho
      simp only [Bool.and_eq_true, decide_eq_true_eq] at ho
      have h1 := numE_le ho.1
      have h2 := numE_le ho.2.1
      exact ⟨⟨by omega, ho.1, ho.2.1, ht⟩, fun _ _ => ⟨fun hlt => by simp at hlt; omega, fun _ => ⟨e.symm, f2.symm, f3.symm, by trivial, by rw [f4]⟩⟩⟩
    | obtain ⟨f1, f2, f3, f4⟩ := fin1' e rfl
      rw [f1] at ho
      simp only [Bool.and_eq_true, decide_eq_true_eq] at ho
      have h1 := numE_le ho.1
      exact ⟨⟨by omega, ho.1, ht⟩, fun _ _ => ⟨fun hlt => by simp at hlt; omega, fun _ => ⟨e.symm, f2.symm, f3.symm, by trivial, by rw [f4]⟩⟩⟩
    | obtain ⟨f1, f2, f3, f4⟩ := fin0' e rfl
      rw [f1] at ho
      simp only [decide_eq_true_eq] at ho
      exact ⟨trivial, fun _ _ => ⟨fun hlt => by simp at hlt; omega, fun _ => ⟨e.symm, f2.symm, f3.symm, by trivial, by rw [f4]⟩⟩⟩
set_option maxRecDepth 100000 in
theorem deed_fn (t : ByteArray) (hp : t.size ≤ 30 ∧ kOf t ≠ 0 ∧ okP t (kOf t) = true) : Fn Tryd.prog 32 [.bp 0 0] (some ((46, [.str t, .int .i64 0]))) Unit (fun _ => True) (fun _ => .agg [.int .i64 (kOf t), .int .i64 (aP t (kOf t)), .int .i64 (bP t (kOf t))]) (fun _ => (some ((46, [.str t, .int .i64 (eP t (kOf t))])))) := by
  refine fn_ok0 (ct := [cutB_con, words_con, none_con, one_con, two_con]) (L := fun k => bif Nat.beq k 3 then some (.u (⟨11, Unit, fun i s _ => hd s [0, 2, 3, 20] [(21, .int .i64 i)] [], fun i _ => ∀ j, 1 ≤ j → j < i → word j ≠ nameB t⟩)) else none) (by kernel_rfl) Tryd.func32 rfl ?_
  have h := deed_vc t hp
  apply VC.thru h
  kernel_rfl
noncomputable def deed_get (ins : List SV) (bs : Option (TypeId × List SV)) : Option Got :=
  match ins, bs with
  | [.bp 0 0], (some ((46, [.str t, .int .i64 0]))) => some (t.size ≤ 30 ∧ kOf t ≠ 0 ∧ okP t (kOf t) = true, .agg [.int .i64 (kOf t), .int .i64 (aP t (kOf t)), .int .i64 (bP t (kOf t))], (some ((46, [.str t, .int .i64 (eP t (kOf t))]))))
  | _, _ => none
theorem deed_ok : ∀ ins bs p out bs', deed_get ins bs = some (p, out, bs') → p → Fn Tryd.prog 32 ins bs Unit (fun _ => True) (fun _ => out) (fun _ => bs') := by
  intro ins bs p out bs' h hp
  unfold deed_get at h
  split at h
  · cases h; exact deed_fn _ hp
  · cases h
noncomputable def deed_con : Con Tryd.prog := .f0 32 deed_get (enters Tryd.func32 (by kernel_rfl) rfl) deed_ok
set_option maxRecDepth 100000 in
theorem deedX_vc (t : ByteArray) (hp : t.size ≤ 30 ∧ (kOf t = 0 ∨ okP t (kOf t) = false)) :
    ByteArray.mk #[(32 : UInt8)] = blank ∧
      True ∧
        (∃ (_ : Unit),
            (∀ (j : Nat), (1 : Nat) ≤ j → j < (0 : Nat) → word j ≠ nameB t) ∧
              nameB t = nameB t ∧
                ByteArray.mk #[] = ByteArray.mk #[] ∧
                  (0 : Int) = (0 : Int) ∧
                    Value.nilFunc = Value.nilFunc ∧
                      word (1 : Nat) = word (1 : Nat) ∧
                        (2 : Int) = (2 : Int) ∧
                          word (2 : Nat) = word (2 : Nat) ∧
                            (1 : Int) = (1 : Int) ∧
                              word (3 : Nat) = word (3 : Nat) ∧
                                (1 : Int) = (1 : Int) ∧
                                  word (4 : Nat) = word (4 : Nat) ∧
                                    (1 : Int) = (1 : Int) ∧
                                      word (5 : Nat) = word (5 : Nat) ∧
                                        (1 : Int) = (1 : Int) ∧
                                          word (6 : Nat) = word (6 : Nat) ∧
                                            (1 : Int) = (1 : Int) ∧
                                              word (7 : Nat) = word (7 : Nat) ∧
                                                (1 : Int) = (1 : Int) ∧
                                                  word (8 : Nat) = word (8 : Nat) ∧
                                                    (0 : Int) = (0 : Int) ∧
                                                      word (9 : Nat) = word (9 : Nat) ∧
                                                        (2 : Int) = (2 : Int) ∧
                                                          word (10 : Nat) = word (10 : Nat) ∧
                                                            (2 : Int) = (2 : Int) ∧
                                                              (0 : Int) = (↑(0 : Nat) : Int) ∧
                                                                t = t ∧
                                                                  (0 : Int) = (0 : Int) ∧
                                                                    (0 : Int) = (0 : Int) ∧
                                                                      (0 : Int) = (0 : Int) ∧ (0 : Int) = (0 : Int)) ∧
          (((((((((((∀ (_ : Unit),
                                  (∀ (j : Nat), (1 : Nat) ≤ j → j < (0 : Nat) → word j ≠ nameB t) →
                                    (decide ((↑(0 : Nat) : Int) < (11 : Int)) = true →
                                        ((0 : Int) ≤ (↑(0 : Nat) : Int) ∧ (↑(0 : Nat) : Int) < (↑(11 : Nat) : Int)) ∧
                                          ((decide ((↑(0 : Nat) : Int) < (1 : Int)) ||
                                                  decide (ByteArray.mk #[] ≠ nameB t)) =
                                                true →
                                              ∃ (_ : Unit),
                                                (∀ (j : Nat), (1 : Nat) ≤ j → j < (1 : Nat) → word j ≠ nameB t) ∧
                                                  nameB t = nameB t ∧
                                                    ByteArray.mk #[] = ByteArray.mk #[] ∧
                                                      (0 : Int) = (0 : Int) ∧
                                                        Value.nilFunc = Value.nilFunc ∧
                                                          word (1 : Nat) = word (1 : Nat) ∧
                                                            (2 : Int) = (2 : Int) ∧
                                                              word (2 : Nat) = word (2 : Nat) ∧
                                                                (1 : Int) = (1 : Int) ∧
                                                                  word (3 : Nat) = word (3 : Nat) ∧
                                                                    (1 : Int) = (1 : Int) ∧
                                                                      word (4 : Nat) = word (4 : Nat) ∧
                                                                        (1 : Int) = (1 : Int) ∧
                                                                          word (5 : Nat) = word (5 : Nat) ∧
                                                                            (1 : Int) = (1 : Int) ∧
                                                                              word (6 : Nat) = word (6 : Nat) ∧
                                                                                (1 : Int) = (1 : Int) ∧
                                                                                  word (7 : Nat) = word (7 : Nat) ∧
                                                                                    (1 : Int) = (1 : Int) ∧
                                                                                      word (8 : Nat) = word (8 : Nat) ∧
                                                                                        (0 : Int) = (0 : Int) ∧
                                                                                          word (9 : Nat) = word (9 : Nat) ∧
                                                                                            (2 : Int) = (2 : Int) ∧
                                                                                              word (10 : Nat) =
                                                                                                  word (10 : Nat) ∧
                                                                                                (2 : Int) = (2 : Int) ∧
                                                                                                  IntKind.i64.wrap
                                                                                                        ((↑(0 : Nat) :
                                                                                                            Int) +
                                                                                                          (1 : Int)) =
                                                                                                      (↑(1 : Nat) : Int) ∧
                                                                                                    t = t ∧
                                                                                                      (0 : Int) =
                                                                                                          (0 : Int) ∧
                                                                                                        (0 : Int) =
                                                                                                            (0 : Int) ∧
                                                                                                          (0 : Int) =
                                                                                                              (0 : Int) ∧
                                                                                                            (0 : Int) =
                                                                                                              (0 : Int)) ∧
                                            ((decide ((↑(0 : Nat) : Int) < (1 : Int)) ||
                                                  decide (ByteArray.mk #[] ≠ nameB t)) =
                                                false →
                                              (-9223372036854775808 : Int) ≤ (↑(nameB t).size : Int) ∧
                                                  (↑(nameB t).size : Int) ≤ (9223372036854775807 : Int) →
                                                False)) ∧
                                      (decide ((↑(0 : Nat) : Int) < (11 : Int)) = false → True)) ∧
                                ∀ (_ : Unit),
                                  (∀ (j : Nat), (1 : Nat) ≤ j → j < (1 : Nat) → word j ≠ nameB t) →
                                    (decide ((↑(1 : Nat) : Int) < (11 : Int)) = true →
                                        ((0 : Int) ≤ (↑(1 : Nat) : Int) ∧ (↑(1 : Nat) : Int) < (↑(11 : Nat) : Int)) ∧
                                          ((decide ((↑(1 : Nat) : Int) < (1 : Int)) || decide (word (1 : Nat) ≠ nameB t)) =
                                                true →
                                              ∃ (_ : Unit),
                                                (∀ (j : Nat), (1 : Nat) ≤ j → j < (2 : Nat) → word j ≠ nameB t) ∧
                                                  nameB t = nameB t ∧
                                                    ByteArray.mk #[] = ByteArray.mk #[] ∧
                                                      (0 : Int) = (0 : Int) ∧
                                                        Value.nilFunc = Value.nilFunc ∧
                                                          word (1 : Nat) = word (1 : Nat) ∧
                                                            (2 : Int) = (2 : Int) ∧
                                                              word (2 : Nat) = word (2 : Nat) ∧
                                                                (1 : Int) = (1 : Int) ∧
                                                                  word (3 : Nat) = word (3 : Nat) ∧
                                                                    (1 : Int) = (1 : Int) ∧
                                                                      word (4 : Nat) = word (4 : Nat) ∧
                                                                        (1 : Int) = (1 : Int) ∧
                                                                          word (5 : Nat) = word (5 : Nat) ∧
                                                                            (1 : Int) = (1 : Int) ∧
                                                                              word (6 : Nat) = word (6 : Nat) ∧
                                                                                (1 : Int) = (1 : Int) ∧
                                                                                  word (7 : Nat) = word (7 : Nat) ∧
                                                                                    (1 : Int) = (1 : Int) ∧
                                                                                      word (8 : Nat) = word (8 : Nat) ∧
                                                                                        (0 : Int) = (0 : Int) ∧
                                                                                          word (9 : Nat) = word (9 : Nat) ∧
                                                                                            (2 : Int) = (2 : Int) ∧
                                                                                              word (10 : Nat) =
                                                                                                  word (10 : Nat) ∧
                                                                                                (2 : Int) = (2 : Int) ∧
                                                                                                  IntKind.i64.wrap
                                                                                                        ((↑(1 : Nat) :
                                                                                                            Int) +
                                                                                                          (1 : Int)) =
                                                                                                      (↑(2 : Nat) : Int) ∧
                                                                                                    t = t ∧
                                                                                                      (0 : Int) =
                                                                                                          (0 : Int) ∧
                                                                                                        (0 : Int) =
                                                                                                            (0 : Int) ∧
                                                                                                          (0 : Int) =
                                                                                                              (0 : Int) ∧
                                                                                                            (0 : Int) =
                                                                                                              (0 : Int)) ∧
                                            ((decide ((↑(1 : Nat) : Int) < (1 : Int)) ||
                                                  decide (word (1 : Nat) ≠ nameB t)) =
                                                false →
                                              (-9223372036854775808 : Int) ≤ (↑(nameB t).size : Int) ∧
                                                  (↑(nameB t).size : Int) ≤ (9223372036854775807 : Int) →
                                                ((((0 : Int) ≤ (↑(nameB t).size : Int) ∧
                                                          (↑(nameB t).size : Int) ≤ (100 : Int)) ∧
                                                        t.size ≤ (30 : Nat)) ∧
                                                      (numOk t (↑(nameB t).size : Int).toNat = false ∨
                                                        numOk t (numE t (↑(nameB t).size : Int).toNat) = false)) ∧
                                                    True ∨
                                                  ((0 : Int) ≤ (↑(nameB t).size : Int) ∧
                                                      numOk t (↑(nameB t).size : Int).toNat = true ∧
                                                        numOk t (numE t (↑(nameB t).size : Int).toNat) = true ∧
                                                          t.size ≤ (30 : Nat)) ∧
                                                    ((-9223372036854775808 : Int) ≤
                                                          (↑(numE t (numE t (↑(nameB t).size : Int).toNat)) : Int) ∧
                                                        (↑(numE t (numE t (↑(nameB t).size : Int).toNat)) : Int) ≤
                                                          (9223372036854775807 : Int) →
                                                      (-9223372036854775808 : Int) ≤ (↑t.size : Int) ∧
                                                          (↑t.size : Int) ≤ (9223372036854775807 : Int) →
                                                        (decide
                                                                ((↑(numE t (numE t (↑(nameB t).size : Int).toNat)) : Int) <
                                                                  (↑t.size : Int)) =
                                                              true →
                                                            (-9223372036854775808 : Int) ≤
                                                                  (↑(numE t (numE t (↑(nameB t).size : Int).toNat)) : Int) ∧
                                                                (↑(numE t (numE t (↑(nameB t).size : Int).toNat)) : Int) ≤
                                                                  (9223372036854775807 : Int) →
                                                              True) ∧
                                                          (decide
                                                                ((↑(numE t (numE t (↑(nameB t).size : Int).toNat)) : Int) <
                                                                  (↑t.size : Int)) =
                                                              false →
                                                            False)))) ∧
                                      (decide ((↑(1 : Nat) : Int) < (11 : Int)) = false → True)) ∧
                              ∀ (_ : Unit),
                                (∀ (j : Nat), (1 : Nat) ≤ j → j < (2 : Nat) → word j ≠ nameB t) →
                                  (decide ((↑(2 : Nat) : Int) < (11 : Int)) = true →
                                      ((0 : Int) ≤ (↑(2 : Nat) : Int) ∧ (↑(2 : Nat) : Int) < (↑(11 : Nat) : Int)) ∧
                                        ((decide ((↑(2 : Nat) : Int) < (1 : Int)) || decide (word (2 : Nat) ≠ nameB t)) =
                                              true →
                                            ∃ (_ : Unit),
                                              (∀ (j : Nat), (1 : Nat) ≤ j → j < (3 : Nat) → word j ≠ nameB t) ∧
                                                nameB t = nameB t ∧
                                                  ByteArray.mk #[] = ByteArray.mk #[] ∧
                                                    (0 : Int) = (0 : Int) ∧
                                                      Value.nilFunc = Value.nilFunc ∧
                                                        word (1 : Nat) = word (1 : Nat) ∧
                                                          (2 : Int) = (2 : Int) ∧
                                                            word (2 : Nat) = word (2 : Nat) ∧
                                                              (1 : Int) = (1 : Int) ∧
                                                                word (3 : Nat) = word (3 : Nat) ∧
                                                                  (1 : Int) = (1 : Int) ∧
                                                                    word (4 : Nat) = word (4 : Nat) ∧
                                                                      (1 : Int) = (1 : Int) ∧
                                                                        word (5 : Nat) = word (5 : Nat) ∧
                                                                          (1 : Int) = (1 : Int) ∧
                                                                            word (6 : Nat) = word (6 : Nat) ∧
                                                                              (1 : Int) = (1 : Int) ∧
                                                                                word (7 : Nat) = word (7 : Nat) ∧
                                                                                  (1 : Int) = (1 : Int) ∧
                                                                                    word (8 : Nat) = word (8 : Nat) ∧
                                                                                      (0 : Int) = (0 : Int) ∧
                                                                                        word (9 : Nat) = word (9 : Nat) ∧
                                                                                          (2 : Int) = (2 : Int) ∧
                                                                                            word (10 : Nat) =
                                                                                                word (10 : Nat) ∧
                                                                                              (2 : Int) = (2 : Int) ∧
                                                                                                IntKind.i64.wrap
                                                                                                      ((↑(2 : Nat) : Int) +
                                                                                                        (1 : Int)) =
                                                                                                    (↑(3 : Nat) : Int) ∧
                                                                                                  t = t ∧
                                                                                                    (0 : Int) = (0 : Int) ∧
                                                                                                      (0 : Int) =
                                                                                                          (0 : Int) ∧
                                                                                                        (0 : Int) =
                                                                                                            (0 : Int) ∧
                                                                                                          (0 : Int) =
                                                                                                            (0 : Int)) ∧
                                          ((decide ((↑(2 : Nat) : Int) < (1 : Int)) || decide (word (2 : Nat) ≠ nameB t)) =
                                              false →
                                            (-9223372036854775808 : Int) ≤ (↑(nameB t).size : Int) ∧
                                                (↑(nameB t).size : Int) ≤ (9223372036854775807 : Int) →
                                              (((0 : Int) ≤ (↑(nameB t).size : Int) ∧
                                                      (↑(nameB t).size : Int) ≤ (100 : Int)) ∧
                                                    numOk t (↑(nameB t).size : Int).toNat = false) ∧
                                                  True ∨
                                                ((0 : Int) ≤ (↑(nameB t).size : Int) ∧
                                                    numOk t (↑(nameB t).size : Int).toNat = true ∧ t.size ≤ (30 : Nat)) ∧
                                                  ((-9223372036854775808 : Int) ≤
                                                        (↑(numE t (↑(nameB t).size : Int).toNat) : Int) ∧
                                                      (↑(numE t (↑(nameB t).size : Int).toNat) : Int) ≤
                                                        (9223372036854775807 : Int) →
                                                    (-9223372036854775808 : Int) ≤ (↑t.size : Int) ∧
                                                        (↑t.size : Int) ≤ (9223372036854775807 : Int) →
                                                      (decide
                                                              ((↑(numE t (↑(nameB t).size : Int).toNat) : Int) <
                                                                (↑t.size : Int)) =
                                                            true →
                                                          (-9223372036854775808 : Int) ≤
                                                                (↑(numE t (↑(nameB t).size : Int).toNat) : Int) ∧
                                                              (↑(numE t (↑(nameB t).size : Int).toNat) : Int) ≤
                                                                (9223372036854775807 : Int) →
                                                            True) ∧
                                                        (decide
                                                              ((↑(numE t (↑(nameB t).size : Int).toNat) : Int) <
                                                                (↑t.size : Int)) =
                                                            false →
                                                          False)))) ∧
                                    (decide ((↑(2 : Nat) : Int) < (11 : Int)) = false → True)) ∧
                            ∀ (_ : Unit),
                              (∀ (j : Nat), (1 : Nat) ≤ j → j < (3 : Nat) → word j ≠ nameB t) →
                                (decide ((↑(3 : Nat) : Int) < (11 : Int)) = true →
                                    ((0 : Int) ≤ (↑(3 : Nat) : Int) ∧ (↑(3 : Nat) : Int) < (↑(11 : Nat) : Int)) ∧
                                      ((decide ((↑(3 : Nat) : Int) < (1 : Int)) || decide (word (3 : Nat) ≠ nameB t)) =
                                            true →
                                          ∃ (_ : Unit),
                                            (∀ (j : Nat), (1 : Nat) ≤ j → j < (4 : Nat) → word j ≠ nameB t) ∧
                                              nameB t = nameB t ∧
                                                ByteArray.mk #[] = ByteArray.mk #[] ∧
                                                  (0 : Int) = (0 : Int) ∧
                                                    Value.nilFunc = Value.nilFunc ∧
                                                      word (1 : Nat) = word (1 : Nat) ∧
                                                        (2 : Int) = (2 : Int) ∧
                                                          word (2 : Nat) = word (2 : Nat) ∧
                                                            (1 : Int) = (1 : Int) ∧
                                                              word (3 : Nat) = word (3 : Nat) ∧
                                                                (1 : Int) = (1 : Int) ∧
                                                                  word (4 : Nat) = word (4 : Nat) ∧
                                                                    (1 : Int) = (1 : Int) ∧
                                                                      word (5 : Nat) = word (5 : Nat) ∧
                                                                        (1 : Int) = (1 : Int) ∧
                                                                          word (6 : Nat) = word (6 : Nat) ∧
                                                                            (1 : Int) = (1 : Int) ∧
                                                                              word (7 : Nat) = word (7 : Nat) ∧
                                                                                (1 : Int) = (1 : Int) ∧
                                                                                  word (8 : Nat) = word (8 : Nat) ∧
                                                                                    (0 : Int) = (0 : Int) ∧
                                                                                      word (9 : Nat) = word (9 : Nat) ∧
                                                                                        (2 : Int) = (2 : Int) ∧
                                                                                          word (10 : Nat) =
                                                                                              word (10 : Nat) ∧
                                                                                            (2 : Int) = (2 : Int) ∧
                                                                                              IntKind.i64.wrap
                                                                                                    ((↑(3 : Nat) : Int) +
                                                                                                      (1 : Int)) =
                                                                                                  (↑(4 : Nat) : Int) ∧
                                                                                                t = t ∧
                                                                                                  (0 : Int) = (0 : Int) ∧
                                                                                                    (0 : Int) = (0 : Int) ∧
                                                                                                      (0 : Int) =
                                                                                                          (0 : Int) ∧
                                                                                                        (0 : Int) =
                                                                                                          (0 : Int)) ∧
                                        ((decide ((↑(3 : Nat) : Int) < (1 : Int)) || decide (word (3 : Nat) ≠ nameB t)) =
                                            false →
                                          (-9223372036854775808 : Int) ≤ (↑(nameB t).size : Int) ∧
                                              (↑(nameB t).size : Int) ≤ (9223372036854775807 : Int) →
                                            (((0 : Int) ≤ (↑(nameB t).size : Int) ∧ (↑(nameB t).size : Int) ≤ (100 : Int)) ∧
                                                  numOk t (↑(nameB t).size : Int).toNat = false) ∧
                                                True ∨
                                              ((0 : Int) ≤ (↑(nameB t).size : Int) ∧
                                                  numOk t (↑(nameB t).size : Int).toNat = true ∧ t.size ≤ (30 : Nat)) ∧
                                                ((-9223372036854775808 : Int) ≤
                                                      (↑(numE t (↑(nameB t).size : Int).toNat) : Int) ∧
                                                    (↑(numE t (↑(nameB t).size : Int).toNat) : Int) ≤
                                                      (9223372036854775807 : Int) →
                                                  (-9223372036854775808 : Int) ≤ (↑t.size : Int) ∧
                                                      (↑t.size : Int) ≤ (9223372036854775807 : Int) →
                                                    (decide
                                                            ((↑(numE t (↑(nameB t).size : Int).toNat) : Int) <
                                                              (↑t.size : Int)) =
                                                          true →
                                                        (-9223372036854775808 : Int) ≤
                                                              (↑(numE t (↑(nameB t).size : Int).toNat) : Int) ∧
                                                            (↑(numE t (↑(nameB t).size : Int).toNat) : Int) ≤
                                                              (9223372036854775807 : Int) →
                                                          True) ∧
                                                      (decide
                                                            ((↑(numE t (↑(nameB t).size : Int).toNat) : Int) <
                                                              (↑t.size : Int)) =
                                                          false →
                                                        False)))) ∧
                                  (decide ((↑(3 : Nat) : Int) < (11 : Int)) = false → True)) ∧
                          ∀ (_ : Unit),
                            (∀ (j : Nat), (1 : Nat) ≤ j → j < (4 : Nat) → word j ≠ nameB t) →
                              (decide ((↑(4 : Nat) : Int) < (11 : Int)) = true →
                                  ((0 : Int) ≤ (↑(4 : Nat) : Int) ∧ (↑(4 : Nat) : Int) < (↑(11 : Nat) : Int)) ∧
                                    ((decide ((↑(4 : Nat) : Int) < (1 : Int)) || decide (word (4 : Nat) ≠ nameB t)) = true →
                                        ∃ (_ : Unit),
                                          (∀ (j : Nat), (1 : Nat) ≤ j → j < (5 : Nat) → word j ≠ nameB t) ∧
                                            nameB t = nameB t ∧
                                              ByteArray.mk #[] = ByteArray.mk #[] ∧
                                                (0 : Int) = (0 : Int) ∧
                                                  Value.nilFunc = Value.nilFunc ∧
                                                    word (1 : Nat) = word (1 : Nat) ∧
                                                      (2 : Int) = (2 : Int) ∧
                                                        word (2 : Nat) = word (2 : Nat) ∧
                                                          (1 : Int) = (1 : Int) ∧
                                                            word (3 : Nat) = word (3 : Nat) ∧
                                                              (1 : Int) = (1 : Int) ∧
                                                                word (4 : Nat) = word (4 : Nat) ∧
                                                                  (1 : Int) = (1 : Int) ∧
                                                                    word (5 : Nat) = word (5 : Nat) ∧
                                                                      (1 : Int) = (1 : Int) ∧
                                                                        word (6 : Nat) = word (6 : Nat) ∧
                                                                          (1 : Int) = (1 : Int) ∧
                                                                            word (7 : Nat) = word (7 : Nat) ∧
                                                                              (1 : Int) = (1 : Int) ∧
                                                                                word (8 : Nat) = word (8 : Nat) ∧
                                                                                  (0 : Int) = (0 : Int) ∧
                                                                                    word (9 : Nat) = word (9 : Nat) ∧
                                                                                      (2 : Int) = (2 : Int) ∧
                                                                                        word (10 : Nat) = word (10 : Nat) ∧
                                                                                          (2 : Int) = (2 : Int) ∧
                                                                                            IntKind.i64.wrap
                                                                                                  ((↑(4 : Nat) : Int) +
                                                                                                    (1 : Int)) =
                                                                                                (↑(5 : Nat) : Int) ∧
                                                                                              t = t ∧
                                                                                                (0 : Int) = (0 : Int) ∧
                                                                                                  (0 : Int) = (0 : Int) ∧
                                                                                                    (0 : Int) = (0 : Int) ∧
                                                                                                      (0 : Int) =
                                                                                                        (0 : Int)) ∧
                                      ((decide ((↑(4 : Nat) : Int) < (1 : Int)) || decide (word (4 : Nat) ≠ nameB t)) =
                                          false →
                                        (-9223372036854775808 : Int) ≤ (↑(nameB t).size : Int) ∧
                                            (↑(nameB t).size : Int) ≤ (9223372036854775807 : Int) →
                                          (((0 : Int) ≤ (↑(nameB t).size : Int) ∧ (↑(nameB t).size : Int) ≤ (100 : Int)) ∧
                                                numOk t (↑(nameB t).size : Int).toNat = false) ∧
                                              True ∨
                                            ((0 : Int) ≤ (↑(nameB t).size : Int) ∧
                                                numOk t (↑(nameB t).size : Int).toNat = true ∧ t.size ≤ (30 : Nat)) ∧
                                              ((-9223372036854775808 : Int) ≤
                                                    (↑(numE t (↑(nameB t).size : Int).toNat) : Int) ∧
                                                  (↑(numE t (↑(nameB t).size : Int).toNat) : Int) ≤
                                                    (9223372036854775807 : Int) →
                                                (-9223372036854775808 : Int) ≤ (↑t.size : Int) ∧
                                                    (↑t.size : Int) ≤ (9223372036854775807 : Int) →
                                                  (decide
                                                          ((↑(numE t (↑(nameB t).size : Int).toNat) : Int) <
                                                            (↑t.size : Int)) =
                                                        true →
                                                      (-9223372036854775808 : Int) ≤
                                                            (↑(numE t (↑(nameB t).size : Int).toNat) : Int) ∧
                                                          (↑(numE t (↑(nameB t).size : Int).toNat) : Int) ≤
                                                            (9223372036854775807 : Int) →
                                                        True) ∧
                                                    (decide
                                                          ((↑(numE t (↑(nameB t).size : Int).toNat) : Int) <
                                                            (↑t.size : Int)) =
                                                        false →
                                                      False)))) ∧
                                (decide ((↑(4 : Nat) : Int) < (11 : Int)) = false → True)) ∧
                        ∀ (_ : Unit),
                          (∀ (j : Nat), (1 : Nat) ≤ j → j < (5 : Nat) → word j ≠ nameB t) →
                            (decide ((↑(5 : Nat) : Int) < (11 : Int)) = true →
                                ((0 : Int) ≤ (↑(5 : Nat) : Int) ∧ (↑(5 : Nat) : Int) < (↑(11 : Nat) : Int)) ∧
                                  ((decide ((↑(5 : Nat) : Int) < (1 : Int)) || decide (word (5 : Nat) ≠ nameB t)) = true →
                                      ∃ (_ : Unit),
                                        (∀ (j : Nat), (1 : Nat) ≤ j → j < (6 : Nat) → word j ≠ nameB t) ∧
                                          nameB t = nameB t ∧
                                            ByteArray.mk #[] = ByteArray.mk #[] ∧
                                              (0 : Int) = (0 : Int) ∧
                                                Value.nilFunc = Value.nilFunc ∧
                                                  word (1 : Nat) = word (1 : Nat) ∧
                                                    (2 : Int) = (2 : Int) ∧
                                                      word (2 : Nat) = word (2 : Nat) ∧
                                                        (1 : Int) = (1 : Int) ∧
                                                          word (3 : Nat) = word (3 : Nat) ∧
                                                            (1 : Int) = (1 : Int) ∧
                                                              word (4 : Nat) = word (4 : Nat) ∧
                                                                (1 : Int) = (1 : Int) ∧
                                                                  word (5 : Nat) = word (5 : Nat) ∧
                                                                    (1 : Int) = (1 : Int) ∧
                                                                      word (6 : Nat) = word (6 : Nat) ∧
                                                                        (1 : Int) = (1 : Int) ∧
                                                                          word (7 : Nat) = word (7 : Nat) ∧
                                                                            (1 : Int) = (1 : Int) ∧
                                                                              word (8 : Nat) = word (8 : Nat) ∧
                                                                                (0 : Int) = (0 : Int) ∧
                                                                                  word (9 : Nat) = word (9 : Nat) ∧
                                                                                    (2 : Int) = (2 : Int) ∧
                                                                                      word (10 : Nat) = word (10 : Nat) ∧
                                                                                        (2 : Int) = (2 : Int) ∧
                                                                                          IntKind.i64.wrap
                                                                                                ((↑(5 : Nat) : Int) +
                                                                                                  (1 : Int)) =
                                                                                              (↑(6 : Nat) : Int) ∧
                                                                                            t = t ∧
                                                                                              (0 : Int) = (0 : Int) ∧
                                                                                                (0 : Int) = (0 : Int) ∧
                                                                                                  (0 : Int) = (0 : Int) ∧
                                                                                                    (0 : Int) = (0 : Int)) ∧
                                    ((decide ((↑(5 : Nat) : Int) < (1 : Int)) || decide (word (5 : Nat) ≠ nameB t)) =
                                        false →
                                      (-9223372036854775808 : Int) ≤ (↑(nameB t).size : Int) ∧
                                          (↑(nameB t).size : Int) ≤ (9223372036854775807 : Int) →
                                        (((0 : Int) ≤ (↑(nameB t).size : Int) ∧ (↑(nameB t).size : Int) ≤ (100 : Int)) ∧
                                              numOk t (↑(nameB t).size : Int).toNat = false) ∧
                                            True ∨
                                          ((0 : Int) ≤ (↑(nameB t).size : Int) ∧
                                              numOk t (↑(nameB t).size : Int).toNat = true ∧ t.size ≤ (30 : Nat)) ∧
                                            ((-9223372036854775808 : Int) ≤
                                                  (↑(numE t (↑(nameB t).size : Int).toNat) : Int) ∧
                                                (↑(numE t (↑(nameB t).size : Int).toNat) : Int) ≤
                                                  (9223372036854775807 : Int) →
                                              (-9223372036854775808 : Int) ≤ (↑t.size : Int) ∧
                                                  (↑t.size : Int) ≤ (9223372036854775807 : Int) →
                                                (decide
                                                        ((↑(numE t (↑(nameB t).size : Int).toNat) : Int) <
                                                          (↑t.size : Int)) =
                                                      true →
                                                    (-9223372036854775808 : Int) ≤
                                                          (↑(numE t (↑(nameB t).size : Int).toNat) : Int) ∧
                                                        (↑(numE t (↑(nameB t).size : Int).toNat) : Int) ≤
                                                          (9223372036854775807 : Int) →
                                                      True) ∧
                                                  (decide
                                                        ((↑(numE t (↑(nameB t).size : Int).toNat) : Int) <
                                                          (↑t.size : Int)) =
                                                      false →
                                                    False)))) ∧
                              (decide ((↑(5 : Nat) : Int) < (11 : Int)) = false → True)) ∧
                      ∀ (_ : Unit),
                        (∀ (j : Nat), (1 : Nat) ≤ j → j < (6 : Nat) → word j ≠ nameB t) →
                          (decide ((↑(6 : Nat) : Int) < (11 : Int)) = true →
                              ((0 : Int) ≤ (↑(6 : Nat) : Int) ∧ (↑(6 : Nat) : Int) < (↑(11 : Nat) : Int)) ∧
                                ((decide ((↑(6 : Nat) : Int) < (1 : Int)) || decide (word (6 : Nat) ≠ nameB t)) = true →
                                    ∃ (_ : Unit),
                                      (∀ (j : Nat), (1 : Nat) ≤ j → j < (7 : Nat) → word j ≠ nameB t) ∧
                                        nameB t = nameB t ∧
                                          ByteArray.mk #[] = ByteArray.mk #[] ∧
                                            (0 : Int) = (0 : Int) ∧
                                              Value.nilFunc = Value.nilFunc ∧
                                                word (1 : Nat) = word (1 : Nat) ∧
                                                  (2 : Int) = (2 : Int) ∧
                                                    word (2 : Nat) = word (2 : Nat) ∧
                                                      (1 : Int) = (1 : Int) ∧
                                                        word (3 : Nat) = word (3 : Nat) ∧
                                                          (1 : Int) = (1 : Int) ∧
                                                            word (4 : Nat) = word (4 : Nat) ∧
                                                              (1 : Int) = (1 : Int) ∧
                                                                word (5 : Nat) = word (5 : Nat) ∧
                                                                  (1 : Int) = (1 : Int) ∧
                                                                    word (6 : Nat) = word (6 : Nat) ∧
                                                                      (1 : Int) = (1 : Int) ∧
                                                                        word (7 : Nat) = word (7 : Nat) ∧
                                                                          (1 : Int) = (1 : Int) ∧
                                                                            word (8 : Nat) = word (8 : Nat) ∧
                                                                              (0 : Int) = (0 : Int) ∧
                                                                                word (9 : Nat) = word (9 : Nat) ∧
                                                                                  (2 : Int) = (2 : Int) ∧
                                                                                    word (10 : Nat) = word (10 : Nat) ∧
                                                                                      (2 : Int) = (2 : Int) ∧
                                                                                        IntKind.i64.wrap
                                                                                              ((↑(6 : Nat) : Int) +
                                                                                                (1 : Int)) =
                                                                                            (↑(7 : Nat) : Int) ∧
                                                                                          t = t ∧
                                                                                            (0 : Int) = (0 : Int) ∧
                                                                                              (0 : Int) = (0 : Int) ∧
                                                                                                (0 : Int) = (0 : Int) ∧
                                                                                                  (0 : Int) = (0 : Int)) ∧
                                  ((decide ((↑(6 : Nat) : Int) < (1 : Int)) || decide (word (6 : Nat) ≠ nameB t)) = false →
                                    (-9223372036854775808 : Int) ≤ (↑(nameB t).size : Int) ∧
                                        (↑(nameB t).size : Int) ≤ (9223372036854775807 : Int) →
                                      (((0 : Int) ≤ (↑(nameB t).size : Int) ∧ (↑(nameB t).size : Int) ≤ (100 : Int)) ∧
                                            numOk t (↑(nameB t).size : Int).toNat = false) ∧
                                          True ∨
                                        ((0 : Int) ≤ (↑(nameB t).size : Int) ∧
                                            numOk t (↑(nameB t).size : Int).toNat = true ∧ t.size ≤ (30 : Nat)) ∧
                                          ((-9223372036854775808 : Int) ≤ (↑(numE t (↑(nameB t).size : Int).toNat) : Int) ∧
                                              (↑(numE t (↑(nameB t).size : Int).toNat) : Int) ≤
                                                (9223372036854775807 : Int) →
                                            (-9223372036854775808 : Int) ≤ (↑t.size : Int) ∧
                                                (↑t.size : Int) ≤ (9223372036854775807 : Int) →
                                              (decide ((↑(numE t (↑(nameB t).size : Int).toNat) : Int) < (↑t.size : Int)) =
                                                    true →
                                                  (-9223372036854775808 : Int) ≤
                                                        (↑(numE t (↑(nameB t).size : Int).toNat) : Int) ∧
                                                      (↑(numE t (↑(nameB t).size : Int).toNat) : Int) ≤
                                                        (9223372036854775807 : Int) →
                                                    True) ∧
                                                (decide
                                                      ((↑(numE t (↑(nameB t).size : Int).toNat) : Int) < (↑t.size : Int)) =
                                                    false →
                                                  False)))) ∧
                            (decide ((↑(6 : Nat) : Int) < (11 : Int)) = false → True)) ∧
                    ∀ (_ : Unit),
                      (∀ (j : Nat), (1 : Nat) ≤ j → j < (7 : Nat) → word j ≠ nameB t) →
                        (decide ((↑(7 : Nat) : Int) < (11 : Int)) = true →
                            ((0 : Int) ≤ (↑(7 : Nat) : Int) ∧ (↑(7 : Nat) : Int) < (↑(11 : Nat) : Int)) ∧
                              ((decide ((↑(7 : Nat) : Int) < (1 : Int)) || decide (word (7 : Nat) ≠ nameB t)) = true →
                                  ∃ (_ : Unit),
                                    (∀ (j : Nat), (1 : Nat) ≤ j → j < (8 : Nat) → word j ≠ nameB t) ∧
                                      nameB t = nameB t ∧
                                        ByteArray.mk #[] = ByteArray.mk #[] ∧
                                          (0 : Int) = (0 : Int) ∧
                                            Value.nilFunc = Value.nilFunc ∧
                                              word (1 : Nat) = word (1 : Nat) ∧
                                                (2 : Int) = (2 : Int) ∧
                                                  word (2 : Nat) = word (2 : Nat) ∧
                                                    (1 : Int) = (1 : Int) ∧
                                                      word (3 : Nat) = word (3 : Nat) ∧
                                                        (1 : Int) = (1 : Int) ∧
                                                          word (4 : Nat) = word (4 : Nat) ∧
                                                            (1 : Int) = (1 : Int) ∧
                                                              word (5 : Nat) = word (5 : Nat) ∧
                                                                (1 : Int) = (1 : Int) ∧
                                                                  word (6 : Nat) = word (6 : Nat) ∧
                                                                    (1 : Int) = (1 : Int) ∧
                                                                      word (7 : Nat) = word (7 : Nat) ∧
                                                                        (1 : Int) = (1 : Int) ∧
                                                                          word (8 : Nat) = word (8 : Nat) ∧
                                                                            (0 : Int) = (0 : Int) ∧
                                                                              word (9 : Nat) = word (9 : Nat) ∧
                                                                                (2 : Int) = (2 : Int) ∧
                                                                                  word (10 : Nat) = word (10 : Nat) ∧
                                                                                    (2 : Int) = (2 : Int) ∧
                                                                                      IntKind.i64.wrap
                                                                                            ((↑(7 : Nat) : Int) +
                                                                                              (1 : Int)) =
                                                                                          (↑(8 : Nat) : Int) ∧
                                                                                        t = t ∧
                                                                                          (0 : Int) = (0 : Int) ∧
                                                                                            (0 : Int) = (0 : Int) ∧
                                                                                              (0 : Int) = (0 : Int) ∧
                                                                                                (0 : Int) = (0 : Int)) ∧
                                ((decide ((↑(7 : Nat) : Int) < (1 : Int)) || decide (word (7 : Nat) ≠ nameB t)) = false →
                                  (-9223372036854775808 : Int) ≤ (↑(nameB t).size : Int) ∧
                                      (↑(nameB t).size : Int) ≤ (9223372036854775807 : Int) →
                                    (((0 : Int) ≤ (↑(nameB t).size : Int) ∧ (↑(nameB t).size : Int) ≤ (100 : Int)) ∧
                                          numOk t (↑(nameB t).size : Int).toNat = false) ∧
                                        True ∨
                                      ((0 : Int) ≤ (↑(nameB t).size : Int) ∧
                                          numOk t (↑(nameB t).size : Int).toNat = true ∧ t.size ≤ (30 : Nat)) ∧
                                        ((-9223372036854775808 : Int) ≤ (↑(numE t (↑(nameB t).size : Int).toNat) : Int) ∧
                                            (↑(numE t (↑(nameB t).size : Int).toNat) : Int) ≤ (9223372036854775807 : Int) →
                                          (-9223372036854775808 : Int) ≤ (↑t.size : Int) ∧
                                              (↑t.size : Int) ≤ (9223372036854775807 : Int) →
                                            (decide ((↑(numE t (↑(nameB t).size : Int).toNat) : Int) < (↑t.size : Int)) =
                                                  true →
                                                (-9223372036854775808 : Int) ≤
                                                      (↑(numE t (↑(nameB t).size : Int).toNat) : Int) ∧
                                                    (↑(numE t (↑(nameB t).size : Int).toNat) : Int) ≤
                                                      (9223372036854775807 : Int) →
                                                  True) ∧
                                              (decide ((↑(numE t (↑(nameB t).size : Int).toNat) : Int) < (↑t.size : Int)) =
                                                  false →
                                                False)))) ∧
                          (decide ((↑(7 : Nat) : Int) < (11 : Int)) = false → True)) ∧
                  ∀ (_ : Unit),
                    (∀ (j : Nat), (1 : Nat) ≤ j → j < (8 : Nat) → word j ≠ nameB t) →
                      (decide ((↑(8 : Nat) : Int) < (11 : Int)) = true →
                          ((0 : Int) ≤ (↑(8 : Nat) : Int) ∧ (↑(8 : Nat) : Int) < (↑(11 : Nat) : Int)) ∧
                            ((decide ((↑(8 : Nat) : Int) < (1 : Int)) || decide (word (8 : Nat) ≠ nameB t)) = true →
                                ∃ (_ : Unit),
                                  (∀ (j : Nat), (1 : Nat) ≤ j → j < (9 : Nat) → word j ≠ nameB t) ∧
                                    nameB t = nameB t ∧
                                      ByteArray.mk #[] = ByteArray.mk #[] ∧
                                        (0 : Int) = (0 : Int) ∧
                                          Value.nilFunc = Value.nilFunc ∧
                                            word (1 : Nat) = word (1 : Nat) ∧
                                              (2 : Int) = (2 : Int) ∧
                                                word (2 : Nat) = word (2 : Nat) ∧
                                                  (1 : Int) = (1 : Int) ∧
                                                    word (3 : Nat) = word (3 : Nat) ∧
                                                      (1 : Int) = (1 : Int) ∧
                                                        word (4 : Nat) = word (4 : Nat) ∧
                                                          (1 : Int) = (1 : Int) ∧
                                                            word (5 : Nat) = word (5 : Nat) ∧
                                                              (1 : Int) = (1 : Int) ∧
                                                                word (6 : Nat) = word (6 : Nat) ∧
                                                                  (1 : Int) = (1 : Int) ∧
                                                                    word (7 : Nat) = word (7 : Nat) ∧
                                                                      (1 : Int) = (1 : Int) ∧
                                                                        word (8 : Nat) = word (8 : Nat) ∧
                                                                          (0 : Int) = (0 : Int) ∧
                                                                            word (9 : Nat) = word (9 : Nat) ∧
                                                                              (2 : Int) = (2 : Int) ∧
                                                                                word (10 : Nat) = word (10 : Nat) ∧
                                                                                  (2 : Int) = (2 : Int) ∧
                                                                                    IntKind.i64.wrap
                                                                                          ((↑(8 : Nat) : Int) + (1 : Int)) =
                                                                                        (↑(9 : Nat) : Int) ∧
                                                                                      t = t ∧
                                                                                        (0 : Int) = (0 : Int) ∧
                                                                                          (0 : Int) = (0 : Int) ∧
                                                                                            (0 : Int) = (0 : Int) ∧
                                                                                              (0 : Int) = (0 : Int)) ∧
                              ((decide ((↑(8 : Nat) : Int) < (1 : Int)) || decide (word (8 : Nat) ≠ nameB t)) = false →
                                (-9223372036854775808 : Int) ≤ (↑(nameB t).size : Int) ∧
                                    (↑(nameB t).size : Int) ≤ (9223372036854775807 : Int) →
                                  True ∧
                                    ((-9223372036854775808 : Int) ≤ (↑(nameB t).size : Int) ∧
                                        (↑(nameB t).size : Int) ≤ (9223372036854775807 : Int) →
                                      (-9223372036854775808 : Int) ≤ (↑t.size : Int) ∧
                                          (↑t.size : Int) ≤ (9223372036854775807 : Int) →
                                        (decide ((↑(nameB t).size : Int) < (↑t.size : Int)) = true →
                                            (-9223372036854775808 : Int) ≤ (↑(nameB t).size : Int) ∧
                                                (↑(nameB t).size : Int) ≤ (9223372036854775807 : Int) →
                                              True) ∧
                                          (decide ((↑(nameB t).size : Int) < (↑t.size : Int)) = false → False)))) ∧
                        (decide ((↑(8 : Nat) : Int) < (11 : Int)) = false → True)) ∧
                ∀ (_ : Unit),
                  (∀ (j : Nat), (1 : Nat) ≤ j → j < (9 : Nat) → word j ≠ nameB t) →
                    (decide ((↑(9 : Nat) : Int) < (11 : Int)) = true →
                        ((0 : Int) ≤ (↑(9 : Nat) : Int) ∧ (↑(9 : Nat) : Int) < (↑(11 : Nat) : Int)) ∧
                          ((decide ((↑(9 : Nat) : Int) < (1 : Int)) || decide (word (9 : Nat) ≠ nameB t)) = true →
                              ∃ (_ : Unit),
                                (∀ (j : Nat), (1 : Nat) ≤ j → j < (10 : Nat) → word j ≠ nameB t) ∧
                                  nameB t = nameB t ∧
                                    ByteArray.mk #[] = ByteArray.mk #[] ∧
                                      (0 : Int) = (0 : Int) ∧
                                        Value.nilFunc = Value.nilFunc ∧
                                          word (1 : Nat) = word (1 : Nat) ∧
                                            (2 : Int) = (2 : Int) ∧
                                              word (2 : Nat) = word (2 : Nat) ∧
                                                (1 : Int) = (1 : Int) ∧
                                                  word (3 : Nat) = word (3 : Nat) ∧
                                                    (1 : Int) = (1 : Int) ∧
                                                      word (4 : Nat) = word (4 : Nat) ∧
                                                        (1 : Int) = (1 : Int) ∧
                                                          word (5 : Nat) = word (5 : Nat) ∧
                                                            (1 : Int) = (1 : Int) ∧
                                                              word (6 : Nat) = word (6 : Nat) ∧
                                                                (1 : Int) = (1 : Int) ∧
                                                                  word (7 : Nat) = word (7 : Nat) ∧
                                                                    (1 : Int) = (1 : Int) ∧
                                                                      word (8 : Nat) = word (8 : Nat) ∧
                                                                        (0 : Int) = (0 : Int) ∧
                                                                          word (9 : Nat) = word (9 : Nat) ∧
                                                                            (2 : Int) = (2 : Int) ∧
                                                                              word (10 : Nat) = word (10 : Nat) ∧
                                                                                (2 : Int) = (2 : Int) ∧
                                                                                  IntKind.i64.wrap
                                                                                        ((↑(9 : Nat) : Int) + (1 : Int)) =
                                                                                      (↑(10 : Nat) : Int) ∧
                                                                                    t = t ∧
                                                                                      (0 : Int) = (0 : Int) ∧
                                                                                        (0 : Int) = (0 : Int) ∧
                                                                                          (0 : Int) = (0 : Int) ∧
                                                                                            (0 : Int) = (0 : Int)) ∧
                            ((decide ((↑(9 : Nat) : Int) < (1 : Int)) || decide (word (9 : Nat) ≠ nameB t)) = false →
                              (-9223372036854775808 : Int) ≤ (↑(nameB t).size : Int) ∧
                                  (↑(nameB t).size : Int) ≤ (9223372036854775807 : Int) →
                                ((((0 : Int) ≤ (↑(nameB t).size : Int) ∧ (↑(nameB t).size : Int) ≤ (100 : Int)) ∧
                                        t.size ≤ (30 : Nat)) ∧
                                      (numOk t (↑(nameB t).size : Int).toNat = false ∨
                                        numOk t (numE t (↑(nameB t).size : Int).toNat) = false)) ∧
                                    True ∨
                                  ((0 : Int) ≤ (↑(nameB t).size : Int) ∧
                                      numOk t (↑(nameB t).size : Int).toNat = true ∧
                                        numOk t (numE t (↑(nameB t).size : Int).toNat) = true ∧ t.size ≤ (30 : Nat)) ∧
                                    ((-9223372036854775808 : Int) ≤
                                          (↑(numE t (numE t (↑(nameB t).size : Int).toNat)) : Int) ∧
                                        (↑(numE t (numE t (↑(nameB t).size : Int).toNat)) : Int) ≤
                                          (9223372036854775807 : Int) →
                                      (-9223372036854775808 : Int) ≤ (↑t.size : Int) ∧
                                          (↑t.size : Int) ≤ (9223372036854775807 : Int) →
                                        (decide
                                                ((↑(numE t (numE t (↑(nameB t).size : Int).toNat)) : Int) <
                                                  (↑t.size : Int)) =
                                              true →
                                            (-9223372036854775808 : Int) ≤
                                                  (↑(numE t (numE t (↑(nameB t).size : Int).toNat)) : Int) ∧
                                                (↑(numE t (numE t (↑(nameB t).size : Int).toNat)) : Int) ≤
                                                  (9223372036854775807 : Int) →
                                              True) ∧
                                          (decide
                                                ((↑(numE t (numE t (↑(nameB t).size : Int).toNat)) : Int) <
                                                  (↑t.size : Int)) =
                                              false →
                                            False)))) ∧
                      (decide ((↑(9 : Nat) : Int) < (11 : Int)) = false → True)) ∧
              ∀ (_ : Unit),
                (∀ (j : Nat), (1 : Nat) ≤ j → j < (10 : Nat) → word j ≠ nameB t) →
                  (decide ((↑(10 : Nat) : Int) < (11 : Int)) = true →
                      ((0 : Int) ≤ (↑(10 : Nat) : Int) ∧ (↑(10 : Nat) : Int) < (↑(11 : Nat) : Int)) ∧
                        ((decide ((↑(10 : Nat) : Int) < (1 : Int)) || decide (word (10 : Nat) ≠ nameB t)) = true →
                            ∃ (_ : Unit),
                              (∀ (j : Nat), (1 : Nat) ≤ j → j < (11 : Nat) → word j ≠ nameB t) ∧
                                nameB t = nameB t ∧
                                  ByteArray.mk #[] = ByteArray.mk #[] ∧
                                    (0 : Int) = (0 : Int) ∧
                                      Value.nilFunc = Value.nilFunc ∧
                                        word (1 : Nat) = word (1 : Nat) ∧
                                          (2 : Int) = (2 : Int) ∧
                                            word (2 : Nat) = word (2 : Nat) ∧
                                              (1 : Int) = (1 : Int) ∧
                                                word (3 : Nat) = word (3 : Nat) ∧
                                                  (1 : Int) = (1 : Int) ∧
                                                    word (4 : Nat) = word (4 : Nat) ∧
                                                      (1 : Int) = (1 : Int) ∧
                                                        word (5 : Nat) = word (5 : Nat) ∧
                                                          (1 : Int) = (1 : Int) ∧
                                                            word (6 : Nat) = word (6 : Nat) ∧
                                                              (1 : Int) = (1 : Int) ∧
                                                                word (7 : Nat) = word (7 : Nat) ∧
                                                                  (1 : Int) = (1 : Int) ∧
                                                                    word (8 : Nat) = word (8 : Nat) ∧
                                                                      (0 : Int) = (0 : Int) ∧
                                                                        word (9 : Nat) = word (9 : Nat) ∧
                                                                          (2 : Int) = (2 : Int) ∧
                                                                            word (10 : Nat) = word (10 : Nat) ∧
                                                                              (2 : Int) = (2 : Int) ∧
                                                                                IntKind.i64.wrap
                                                                                      ((↑(10 : Nat) : Int) + (1 : Int)) =
                                                                                    (↑(11 : Nat) : Int) ∧
                                                                                  t = t ∧
                                                                                    (0 : Int) = (0 : Int) ∧
                                                                                      (0 : Int) = (0 : Int) ∧
                                                                                        (0 : Int) = (0 : Int) ∧
                                                                                          (0 : Int) = (0 : Int)) ∧
                          ((decide ((↑(10 : Nat) : Int) < (1 : Int)) || decide (word (10 : Nat) ≠ nameB t)) = false →
                            (-9223372036854775808 : Int) ≤ (↑(nameB t).size : Int) ∧
                                (↑(nameB t).size : Int) ≤ (9223372036854775807 : Int) →
                              ((((0 : Int) ≤ (↑(nameB t).size : Int) ∧ (↑(nameB t).size : Int) ≤ (100 : Int)) ∧
                                      t.size ≤ (30 : Nat)) ∧
                                    (numOk t (↑(nameB t).size : Int).toNat = false ∨
                                      numOk t (numE t (↑(nameB t).size : Int).toNat) = false)) ∧
                                  True ∨
                                ((0 : Int) ≤ (↑(nameB t).size : Int) ∧
                                    numOk t (↑(nameB t).size : Int).toNat = true ∧
                                      numOk t (numE t (↑(nameB t).size : Int).toNat) = true ∧ t.size ≤ (30 : Nat)) ∧
                                  ((-9223372036854775808 : Int) ≤ (↑(numE t (numE t (↑(nameB t).size : Int).toNat)) : Int) ∧
                                      (↑(numE t (numE t (↑(nameB t).size : Int).toNat)) : Int) ≤
                                        (9223372036854775807 : Int) →
                                    (-9223372036854775808 : Int) ≤ (↑t.size : Int) ∧
                                        (↑t.size : Int) ≤ (9223372036854775807 : Int) →
                                      (decide ((↑(numE t (numE t (↑(nameB t).size : Int).toNat)) : Int) < (↑t.size : Int)) =
                                            true →
                                          (-9223372036854775808 : Int) ≤
                                                (↑(numE t (numE t (↑(nameB t).size : Int).toNat)) : Int) ∧
                                              (↑(numE t (numE t (↑(nameB t).size : Int).toNat)) : Int) ≤
                                                (9223372036854775807 : Int) →
                                            True) ∧
                                        (decide
                                              ((↑(numE t (numE t (↑(nameB t).size : Int).toNat)) : Int) < (↑t.size : Int)) =
                                            false →
                                          False)))) ∧
                    (decide ((↑(10 : Nat) : Int) < (11 : Int)) = false → True)) ∧
            ∀ (_ : Unit),
              (∀ (j : Nat), (1 : Nat) ≤ j → j < (11 : Nat) → word j ≠ nameB t) →
                (decide ((↑(11 : Nat) : Int) < (11 : Int)) = true → False) ∧
                  (decide ((↑(11 : Nat) : Int) < (11 : Int)) = false → True) := by
  obtain ⟨ht, ho⟩ := hp
  have hq := nameB_le t
  simp only [Int.toNat_natCast]
  refine ⟨rfl, trivial, ⟨(), by omega, by simp⟩, ⟨⟨⟨⟨⟨⟨⟨⟨⟨⟨⟨?a0, ?a1⟩, ?a2⟩, ?a3⟩, ?a4⟩, ?a5⟩, ?a6⟩, ?a7⟩, ?a8⟩, ?a9⟩, ?a10⟩, ?a11⟩⟩
  case a0 =>
    intro _ hinv
    exact ⟨fun _ => ⟨by omega, fun _ => ⟨(), by omega, by simp; decide⟩, fun h => by simp at h⟩, fun h => absurd h (by decide)⟩
  case a11 =>
    intro _ hinv
    exact ⟨fun h => absurd h (by decide), fun _ => trivial⟩
  all_goals
    intro _ hinv
    refine ⟨fun _ => ⟨by omega, fun h => ⟨(), next_inv hinv (by simpa using h), by simp; decide⟩, fun h _ => ?_⟩, fun h => absurd h (by decide)⟩
    simp only [Bool.or_eq_false_iff, decide_eq_false_iff_not, ne_eq, Classical.not_not] at h
    have e := kOf_key (by omega) (by omega) h.2
    have ho := ho.resolve_left (by omega)
    first
    | obtain ⟨f1, f2, f3, f4⟩ := fin2' e rfl
      rw [f1] at ho
      cases h1 : numOk t (nameB t).size with
      | false => exact .inl ⟨⟨⟨by omega, ht⟩, .inl rfl⟩, trivial⟩
      | true =>
        cases h2 : numOk t (numE t (nameB t).size) with
        | false => exact .inl ⟨⟨⟨by omega, ht⟩, .inr rfl⟩, trivial⟩
        | true =>
          rw [h1, h2] at ho
          simp only [Bool.true_and, decide_eq_false_iff_not] at ho
          exact .inr ⟨⟨by omega, rfl, rfl, ht⟩, fun _ _ => ⟨fun _ _ => trivial, fun hlt => by simp at hlt; omega⟩⟩
    | obtain ⟨f1, f2, f3, f4⟩ := fin1' e rfl
      rw [f1] at ho
      cases h1 : numOk t (nameB t).size with
      | false => exact .inl ⟨⟨by omega, rfl⟩, trivial⟩
      | true =>
        rw [h1] at ho
        simp only [Bool.true_and, decide_eq_false_iff_not] at ho
        exact .inr ⟨⟨by omega, rfl, ht⟩, fun _ _ => ⟨fun _ _ => trivial, fun hlt => by simp at hlt; omega⟩⟩
    | obtain ⟨f1, f2, f3, f4⟩ := fin0' e rfl
      rw [f1] at ho
      simp only [decide_eq_false_iff_not] at ho
      exact ⟨trivial, fun _ _ => ⟨fun _ _ => trivial, fun hlt => by simp at hlt; omega⟩⟩
set_option maxRecDepth 100000 in
theorem deedX_fnx (t : ByteArray) (hp : t.size ≤ 30 ∧ (kOf t = 0 ∨ okP t (kOf t) = false)) : FnX Tryd.prog 32 [.bp 0 0] (some ((46, [.str t, .int .i64 0]))) ((59, 1)) := by
  refine fnX_ok (ct := [cutB_con, words_con, none_con, one_con, two_con]) (xt := [oneX_xcon, twoX_xcon]) (L := fun k => bif Nat.beq k 3 then some (.u (⟨11, Unit, fun i s _ => hd s [0, 2, 3, 20] [(21, .int .i64 i)] [], fun i _ => ∀ j, 1 ≤ j → j < i → word j ≠ nameB t⟩)) else none) (by kernel_rfl) Tryd.func32 ?_
  have h := deedX_vc t hp
  apply VC.thru h
  kernel_rfl
noncomputable def deedX_xget (ins : List SV) (bs : Option (TypeId × List SV)) : Option Prop :=
  match ins, bs with
  | [.bp 0 0], (some ((46, [.str t, .int .i64 0]))) => some (t.size ≤ 30 ∧ (kOf t = 0 ∨ okP t (kOf t) = false))
  | _, _ => none
theorem deedX_xok : ∀ ins bs p, deedX_xget ins bs = some p → p → FnX Tryd.prog 32 ins bs ((59, 1)) := by
  intro ins bs p h hp
  unfold deedX_xget at h
  split at h
  · cases h; exact deedX_fnx _ hp
  · cases h
noncomputable def deedX_xcon : XCon Tryd.prog := ⟨32, (59, 1), deedX_xget, (enters Tryd.func32 (by kernel_rfl) rfl), deedX_xok⟩
end E
end Go.Proofs.YtbjapgekagljeaaDoor
