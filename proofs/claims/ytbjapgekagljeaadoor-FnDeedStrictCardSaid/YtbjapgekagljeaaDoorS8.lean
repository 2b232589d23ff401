/- The program's reading of a deed, part by part: where a text is none, it panics. -/
import Derived.Test.YtbjapgekagljeaaDoorE17
import Derived.Test.YtbjapgekagljeaaDoorProg
import Derived.Test.YtbjapgekagljeaaDoorS5
import Derived.Test.YtbjapgekagljeaaDoorShelf
import Derived.Lib.IndexLaws
namespace Go.Proofs.YtbjapgekagljeaaDoor
open Go Go.RowKit
namespace E

/-- Where a text's first blank is; -1: nowhere. -/
def ixB (t : ByteArray) : Int := Lib.indexByte t.data.toList 32
def nameB (t : ByteArray) : ByteArray := if 0 ≤ ixB t then t.extract 0 (ixB t).toNat else t
def isD (t : ByteArray) (p : Nat) : Bool := decide (p < t.size) && (decide (48 ≤ byteAt t p) && decide (byteAt t p ≤ 57))
def numOk (t : ByteArray) (p : Nat) : Bool := decide (p < t.size) && (decide (byteAt t p = 32) && isD t (p + 1))
def twoB (t : ByteArray) (p : Nat) : Bool := isD t (p + 2) && decide (48 < byteAt t (p + 1))
def numV (t : ByteArray) (p : Nat) : Int := if twoB t p then 10 * (byteAt t (p + 1) - 48) + (byteAt t (p + 2) - 48) else byteAt t (p + 1) - 48
def numE (t : ByteArray) (p : Nat) : Nat := if twoB t p then p + 3 else p + 2
theorem numE_le {t : ByteArray} {p : Nat} (h : numOk t p = true) : p + 2 ≤ numE t p ∧ numE t p ≤ t.size := by
  simp only [numOk, isD, Bool.and_eq_true, decide_eq_true_eq] at h
  unfold numE twoB
  split
  · rename_i h2
    simp only [isD, Bool.and_eq_true, decide_eq_true_eq] at h2
    omega
  · omega
theorem byteAt_of (t : ByteArray) (p : Nat) : 0 ≤ byteAt t p ∧ byteAt t p ≤ 255 := byteAt_ge t p
theorem numV_in {t : ByteArray} {p : Nat} (h : numOk t p = true) : 0 ≤ numV t p ∧ numV t p ≤ 99 := by
  simp only [numOk, isD, Bool.and_eq_true, decide_eq_true_eq] at h
  unfold numV twoB
  split
  · rename_i h2
    simp only [isD, Bool.and_eq_true, decide_eq_true_eq] at h2
    omega
  · omega
theorem ixB_in (t : ByteArray) : ixB t = -1 ∨ (0 ≤ ixB t ∧ ixB t < t.size) := by
  have h1 : -1 ≤ ixB t := Lib.indexByte_ge t.data.toList 32
  have h0 : t.data.toList.length = t.size := by simp
  rcases Int.lt_or_le (ixB t) 0 with h | h
  · omega
  · obtain ⟨o, ho⟩ := Int.eq_ofNat_of_zero_le h
    have h2 := (Lib.indexByte_some (l := t.data.toList) (c := 32) (o := o) ho).1
    have := (List.getElem?_eq_some_iff.1 h2).1
    omega
theorem index_fn (t : ByteArray) : Fn Tryd.prog 47 [.str t, .str blank] none Unit (fun _ => True) (fun _ => .int .i64 (ixB t)) (fun _ => none) := by
  rintro S B w vs hS hB hlen hbox ⟨v, _, rfl, ⟨rfl, ht⟩, v2, _, rfl, ⟨rfl, _⟩, rfl⟩
  have hB0 : B = [] := by cases B <;> simp at hlen ⊢
  subst hB0
  refine (Tryd.stringslite_Index_one t 32 w).mono ?_
  rintro e w' ⟨rfl, rfl⟩
  refine ⟨(), _, rfl, trivial, KeepBut.refl _ _, ⟨rfl, ?_⟩, rfl, fun p hp => by cases hp⟩
  have h1 := ixB_in t
  simp only [Has, lo, hi]
  omega
noncomputable def index_get (ins : List SV) (bs : Option (TypeId × List SV)) : Option Got :=
  match ins, bs with
  | [.str t, .str c], none => some (c = blank, .int .i64 (ixB t), none)
  | _, _ => none
theorem index_ok : ∀ ins bs p out bs', index_get ins bs = some (p, out, bs') → p → Fn Tryd.prog 47 ins bs Unit (fun _ => True) (fun _ => out) (fun _ => bs') := by
  intro ins bs p out bs' h hp
  unfold index_get at h
  split at h
  · cases h; subst hp; exact index_fn _
  · cases h
noncomputable def index_con : Con Tryd.prog := .f0 47 index_get (enters Tryd.func47 (by kernel_rfl) rfl) index_ok
def restB (t : ByteArray) : ByteArray := if 0 ≤ ixB t then t.extract ((ixB t).toNat + 1) t.size else ByteArray.mk #[]
set_option maxRecDepth 100000 in
theorem cutA_vc (t c : ByteArray) (hp : c = blank) :
    t.size ≤ (140737488351232 : Nat) →
      c.size ≤ (140737488351232 : Nat) →
        c = blank ∧
          (decide (ixB t ≥ (0 : Int)) = true →
              ((0 : Int) ≤ (0 : Int) ∧ (0 : Int) ≤ ixB t ∧ ixB t ≤ (↑t.size : Int)) ∧
                ((-9223372036854775808 : Int) ≤ (↑c.size : Int) ∧ (↑c.size : Int) ≤ (9223372036854775807 : Int) →
                  ((0 : Int) ≤ IntKind.i64.wrap (ixB t + (↑c.size : Int)) ∧
                      IntKind.i64.wrap (ixB t + (↑c.size : Int)) ≤ (↑t.size : Int) ∧ (↑t.size : Int) ≤ (↑t.size : Int)) ∧
                    t.extract (Int.toNat (0 : Int)) (ixB t).toNat = nameB t ∧
                      t.extract (IntKind.i64.wrap (ixB t + (↑c.size : Int))).toNat (↑t.size : Int).toNat = restB t ∧
                        decide ((0 : Int) ≤ ixB t) = true)) ∧
            (decide (ixB t ≥ (0 : Int)) = false →
              t = nameB t ∧ ByteArray.mk #[] = restB t ∧ decide ((0 : Int) ≤ ixB t) = false) := by
  subst hp
  intro ht _
  have hb : blank.size = 1 := rfl
  rcases ixB_in t with h1 | h1
  · refine ⟨rfl, fun h => ?_, fun h => ?_⟩
    · rw [decide_eq_true_eq] at h; omega
    · refine ⟨?_, ?_, by simp; omega⟩
      · unfold nameB; rw [if_neg (by omega)]
      · unfold restB; rw [if_neg (by omega)]
  · have hw : IntKind.i64.wrap (ixB t + (blank.size : Int)) = ixB t + 1 := by rw [hb, wrap_ok (by omega) (by omega)]; omega
    refine ⟨rfl, fun h => ⟨by omega, fun _ => ⟨by rw [hw]; omega, ?_, ?_, by simp; omega⟩⟩, fun h => ?_⟩
    · unfold nameB; rw [if_pos (by omega)]; rfl
    · unfold restB; rw [if_pos (by omega), hw, show (ixB t + 1).toNat = (ixB t).toNat + 1 from by omega]; rfl
    · rw [decide_eq_false_iff_not] at h; omega
set_option maxRecDepth 100000 in
theorem cutA_fn (t c : ByteArray) (hp : c = blank) : Fn Tryd.prog 41 [.str t, .str c] none Unit (fun _ => True) (fun _ => .tup [.str (nameB t), .str (restB t), .bool (decide (0 ≤ ixB t))]) (fun _ => none) := by
  refine fn_ok0 (ct := [index_con]) (L := fun _ => none) (by kernel_rfl) Tryd.func41 rfl ?_
  have h := cutA_vc t c hp
  apply VC.thru h
  kernel_rfl
noncomputable def cutA_get (ins : List SV) (bs : Option (TypeId × List SV)) : Option Got :=
  match ins, bs with
  | [.str t, .str c], none => some (c = blank, .tup [.str (nameB t), .str (restB t), .bool (decide (0 ≤ ixB t))], none)
  | _, _ => none
theorem cutA_ok : ∀ ins bs p out bs', cutA_get ins bs = some (p, out, bs') → p → Fn Tryd.prog 41 ins bs Unit (fun _ => True) (fun _ => out) (fun _ => bs') := by
  intro ins bs p out bs' h hp
  unfold cutA_get at h
  split at h
  · cases h; exact cutA_fn _ _ hp
  · cases h
noncomputable def cutA_con : Con Tryd.prog := .f0 41 cutA_get (enters Tryd.func41 (by kernel_rfl) rfl) cutA_ok
set_option maxRecDepth 100000 in
theorem digit_vc (t : ByteArray) (p : Int) (hp : 0 ≤ p) :
    ((-9223372036854775808 : Int) ≤ p ∧ p ≤ (9223372036854775807 : Int) →
        (-9223372036854775808 : Int) ≤ (↑t.size : Int) ∧ (↑t.size : Int) ≤ (9223372036854775807 : Int) →
          (decide (p ≥ (↑t.size : Int)) = false →
              (-9223372036854775808 : Int) ≤ p ∧ p ≤ (9223372036854775807 : Int) →
                ((0 : Int) ≤ p ∧ p < (↑t.size : Int)) ∧
                  ((0 : Int) ≤ byteAt t p.toNat ∧ byteAt t p.toNat ≤ (255 : Int) →
                    (decide (byteAt t p.toNat < (48 : Int)) = false →
                        (-9223372036854775808 : Int) ≤ p ∧ p ≤ (9223372036854775807 : Int) →
                          (0 : Int) ≤ p ∧ p < (↑t.size : Int)) ∧
                      True)) ∧
            True) ∧
      ((decide (p ≥ (↑t.size : Int)) ||
              (decide (byteAt t p.toNat < (48 : Int)) || decide (byteAt t p.toNat > (57 : Int)))) =
            true →
          ((0 : Int) = if isD t p.toNat = true then byteAt t p.toNat - (48 : Int) else (0 : Int)) ∧
            isD t p.toNat = false ∧ t = t ∧ p = p) ∧
        ((decide (p ≥ (↑t.size : Int)) ||
              (decide (byteAt t p.toNat < (48 : Int)) || decide (byteAt t p.toNat > (57 : Int)))) =
            false →
          (-9223372036854775808 : Int) ≤ p ∧ p ≤ (9223372036854775807 : Int) →
            ((0 : Int) ≤ p ∧ p < (↑t.size : Int)) ∧
              ((0 : Int) ≤ byteAt t p.toNat ∧ byteAt t p.toNat ≤ (255 : Int) →
                (IntKind.i64.wrap (IntKind.u8.wrap (byteAt t p.toNat - (48 : Int))) =
                    if isD t p.toNat = true then byteAt t p.toNat - (48 : Int) else (0 : Int)) ∧
                  isD t p.toNat = true ∧ t = t ∧ p = p)) := by
  have hb := byteAt_of t p.toNat
  refine ⟨fun h1 h2 => ⟨fun h3 _ => ⟨by simp at h3; omega, fun _ => ⟨fun h4 _ => by simp at h3; omega, trivial⟩⟩, trivial⟩, fun h => ?_, fun h _ => ?_⟩
  · have e : isD t p.toNat = false := by
      rw [Bool.eq_false_iff]
      simp only [ne_eq, isD, Bool.and_eq_true, Bool.or_eq_true, decide_eq_true_eq] at h ⊢
      omega
    rw [e]; exact ⟨rfl, rfl, by trivial, by trivial⟩
  · have e : isD t p.toNat = true := by
      simp only [isD, Bool.and_eq_true, Bool.or_eq_false_iff, decide_eq_false_iff_not, decide_eq_true_eq] at h ⊢
      omega
    have e2 := e
    simp only [isD, Bool.and_eq_true, decide_eq_true_eq] at e2
    rw [e]
    refine ⟨by omega, fun _ => ⟨?_, rfl, rfl, rfl⟩⟩
    rw [wrap_u8 (by omega) (by omega), wrap_ok (by omega) (by omega)]; rfl
set_option maxRecDepth 100000 in
theorem digit_fn (t : ByteArray) (p : Int) (hp : 0 ≤ p) : Fn Tryd.prog 36 [.bp 0 0] (some ((46, [.str t, .int .i64 p]))) Unit (fun _ => True) (fun _ => .tup [.int .i64 (if isD t p.toNat then byteAt t p.toNat - 48 else 0), .bool (isD t p.toNat)]) (fun _ => (some ((46, [.str t, .int .i64 p])))) := by
  refine fn_ok0 (ct := []) (L := fun _ => none) (by kernel_rfl) Tryd.func36 rfl ?_
  have h := digit_vc t p hp
  apply VC.thru h
  kernel_rfl
noncomputable def digit_get (ins : List SV) (bs : Option (TypeId × List SV)) : Option Got :=
  match ins, bs with
  | [.bp 0 0], (some ((46, [.str t, .int .i64 p]))) => some (0 ≤ p, .tup [.int .i64 (if isD t p.toNat then byteAt t p.toNat - 48 else 0), .bool (isD t p.toNat)], (some ((46, [.str t, .int .i64 p]))))
  | _, _ => none
theorem digit_ok : ∀ ins bs p out bs', digit_get ins bs = some (p, out, bs') → p → Fn Tryd.prog 36 ins bs Unit (fun _ => True) (fun _ => out) (fun _ => bs') := by
  intro ins bs p out bs' h hp
  unfold digit_get at h
  split at h
  · cases h; exact digit_fn _ _ hp
  · cases h
noncomputable def digit_con : Con Tryd.prog := .f0 36 digit_get (enters Tryd.func36 (by kernel_rfl) rfl) digit_ok
set_option maxRecDepth 100000 in
theorem number_vc (t : ByteArray) (p : Int) (hp : 0 ≤ p ∧ numOk t p.toNat = true ∧ t.size ≤ 30) :
    ((-9223372036854775808 : Int) ≤ p ∧ p ≤ (9223372036854775807 : Int) →
        (-9223372036854775808 : Int) ≤ (↑t.size : Int) ∧ (↑t.size : Int) ≤ (9223372036854775807 : Int) →
          (decide (p ≥ (↑t.size : Int)) = false →
              (-9223372036854775808 : Int) ≤ p ∧ p ≤ (9223372036854775807 : Int) → (0 : Int) ≤ p ∧ p < (↑t.size : Int)) ∧
            True) ∧
      ((decide (p ≥ (↑t.size : Int)) || decide (byteAt t p.toNat ≠ (32 : Int))) = true →
          (-9223372036854775808 : Int) ≤ p ∧ p ≤ (9223372036854775807 : Int) → False) ∧
        ((decide (p ≥ (↑t.size : Int)) || decide (byteAt t p.toNat ≠ (32 : Int))) = false →
          (-9223372036854775808 : Int) ≤ p ∧ p ≤ (9223372036854775807 : Int) →
            (0 : Int) ≤ IntKind.i64.wrap (p + (1 : Int)) ∧
              ((!isD t (IntKind.i64.wrap (p + (1 : Int))).toNat) = true →
                  (-9223372036854775808 : Int) ≤ IntKind.i64.wrap (p + (1 : Int)) ∧
                      IntKind.i64.wrap (p + (1 : Int)) ≤ (9223372036854775807 : Int) →
                    False) ∧
                ((!isD t (IntKind.i64.wrap (p + (1 : Int))).toNat) = false →
                  (-9223372036854775808 : Int) ≤ IntKind.i64.wrap (p + (1 : Int)) ∧
                      IntKind.i64.wrap (p + (1 : Int)) ≤ (9223372036854775807 : Int) →
                    (0 : Int) ≤ IntKind.i64.wrap (IntKind.i64.wrap (p + (1 : Int)) + (1 : Int)) ∧
                      ((isD t (IntKind.i64.wrap (IntKind.i64.wrap (p + (1 : Int)) + (1 : Int))).toNat &&
                              decide
                                ((if isD t (IntKind.i64.wrap (p + (1 : Int))).toNat = true then
                                    byteAt t (IntKind.i64.wrap (p + (1 : Int))).toNat - (48 : Int)
                                  else (0 : Int)) >
                                  (0 : Int))) =
                            true →
                          (-9223372036854775808 : Int) ≤ IntKind.i64.wrap (IntKind.i64.wrap (p + (1 : Int)) + (1 : Int)) ∧
                              IntKind.i64.wrap (IntKind.i64.wrap (p + (1 : Int)) + (1 : Int)) ≤
                                (9223372036854775807 : Int) →
                            IntKind.i64.wrap
                                  (IntKind.i64.wrap
                                      ((10 : Int) *
                                        if isD t (IntKind.i64.wrap (p + (1 : Int))).toNat = true then
                                          byteAt t (IntKind.i64.wrap (p + (1 : Int))).toNat - (48 : Int)
                                        else (0 : Int)) +
                                    if
                                        isD t (IntKind.i64.wrap (IntKind.i64.wrap (p + (1 : Int)) + (1 : Int))).toNat =
                                          true then
                                      byteAt t (IntKind.i64.wrap (IntKind.i64.wrap (p + (1 : Int)) + (1 : Int))).toNat -
                                        (48 : Int)
                                    else (0 : Int)) =
                                numV t p.toNat ∧
                              t = t ∧
                                IntKind.i64.wrap
                                    (IntKind.i64.wrap (IntKind.i64.wrap (p + (1 : Int)) + (1 : Int)) + (1 : Int)) =
                                  (↑(numE t p.toNat) : Int)) ∧
                        ((isD t (IntKind.i64.wrap (IntKind.i64.wrap (p + (1 : Int)) + (1 : Int))).toNat &&
                              decide
                                ((if isD t (IntKind.i64.wrap (p + (1 : Int))).toNat = true then
                                    byteAt t (IntKind.i64.wrap (p + (1 : Int))).toNat - (48 : Int)
                                  else (0 : Int)) >
                                  (0 : Int))) =
                            false →
                          (if isD t (IntKind.i64.wrap (p + (1 : Int))).toNat = true then
                                byteAt t (IntKind.i64.wrap (p + (1 : Int))).toNat - (48 : Int)
                              else (0 : Int)) =
                              numV t p.toNat ∧
                            t = t ∧
                              IntKind.i64.wrap (IntKind.i64.wrap (p + (1 : Int)) + (1 : Int)) = (↑(numE t p.toNat) : Int)))) := by
  obtain ⟨h0, hn, ht⟩ := hp
  have hn2 := hn
  simp only [numOk, isD, Bool.and_eq_true, decide_eq_true_eq] at hn2
  have e1 : IntKind.i64.wrap (p + 1) = p + 1 := wrap_ok (by omega) (by omega)
  have e2 : IntKind.i64.wrap (p + 1 + 1) = p + 1 + 1 := wrap_ok (by omega) (by omega)
  have n1 : (p + 1).toNat = p.toNat + 1 := by omega
  have n2 : (p + 1 + 1).toNat = p.toNat + 2 := by omega
  have d1 : isD t (p.toNat + 1) = true := by
    simp only [isD, Bool.and_eq_true, decide_eq_true_eq]; exact hn2.2.2
  simp only [e1, e2, n1, n2, d1, if_true]
  have b2 := byteAt_of t (p.toNat + 2)
  refine ⟨fun _ _ => ⟨fun h _ => by simp at h; omega, trivial⟩, fun h _ => ?_, fun h _ => ⟨by omega, fun h2 => by simp at h2, fun _ _ => ⟨by omega, fun h2 _ => ?_, fun h2 => ?_⟩⟩⟩
  · simp only [Bool.or_eq_true, decide_eq_true_eq] at h; omega
  · rw [Bool.and_eq_true, decide_eq_true_eq] at h2
    have ht2 : twoB t p.toNat = true := by unfold twoB; rw [h2.1]; simp; omega
    have h3 := h2.1
    simp only [isD, Bool.and_eq_true, decide_eq_true_eq] at h3
    unfold numV numE
    rw [ht2, h2.1, if_pos rfl, if_pos rfl, if_pos rfl]
    refine ⟨?_, by trivial, ?_⟩
    · rw [wrap_ok (n := 10 * _) (by omega) (by omega), wrap_ok (by omega) (by omega)]
    · rw [wrap_ok (by omega) (by omega)]; omega
  · have ht2 : ¬ twoB t p.toNat = true := by
      unfold twoB
      intro h3
      rw [Bool.and_eq_true, decide_eq_true_eq] at h3
      rw [h3.1, Bool.true_and, decide_eq_false_iff_not] at h2
      omega
    unfold numV numE
    rw [if_neg ht2, if_neg ht2]
    exact ⟨rfl, by trivial, by omega⟩
set_option maxRecDepth 100000 in
theorem number_fn (t : ByteArray) (p : Int) (hp : 0 ≤ p ∧ numOk t p.toNat = true ∧ t.size ≤ 30) : Fn Tryd.prog 33 [.bp 0 0] (some ((46, [.str t, .int .i64 p]))) Unit (fun _ => True) (fun _ => .int .i64 (numV t p.toNat)) (fun _ => (some ((46, [.str t, .int .i64 (numE t p.toNat)])))) := by
  refine fn_ok0 (ct := [digit_con]) (L := fun _ => none) (by kernel_rfl) Tryd.func33 rfl ?_
  have h := number_vc t p hp
  apply VC.thru h
  kernel_rfl
noncomputable def number_get (ins : List SV) (bs : Option (TypeId × List SV)) : Option Got :=
  match ins, bs with
  | [.bp 0 0], (some ((46, [.str t, .int .i64 p]))) => some (0 ≤ p ∧ numOk t p.toNat = true ∧ t.size ≤ 30, .int .i64 (numV t p.toNat), (some ((46, [.str t, .int .i64 (numE t p.toNat)]))))
  | _, _ => none
theorem number_ok : ∀ ins bs p out bs', number_get ins bs = some (p, out, bs') → p → Fn Tryd.prog 33 ins bs Unit (fun _ => True) (fun _ => out) (fun _ => bs') := by
  intro ins bs p out bs' h hp
  unfold number_get at h
  split at h
  · cases h; exact number_fn _ _ hp
  · cases h
noncomputable def number_con : Con Tryd.prog := .f0 33 number_get (enters Tryd.func33 (by kernel_rfl) rfl) number_ok
set_option maxRecDepth 100000 in
theorem numberX_vc (t : ByteArray) (p : Int) (hp : (0 ≤ p ∧ p ≤ 100) ∧ numOk t p.toNat = false) :
    ((-9223372036854775808 : Int) ≤ p ∧ p ≤ (9223372036854775807 : Int) →
        (-9223372036854775808 : Int) ≤ (↑t.size : Int) ∧ (↑t.size : Int) ≤ (9223372036854775807 : Int) →
          (decide (p ≥ (↑t.size : Int)) = false →
              (-9223372036854775808 : Int) ≤ p ∧ p ≤ (9223372036854775807 : Int) → (0 : Int) ≤ p ∧ p < (↑t.size : Int)) ∧
            True) ∧
      ((decide (p ≥ (↑t.size : Int)) || decide (byteAt t p.toNat ≠ (32 : Int))) = true →
          (-9223372036854775808 : Int) ≤ p ∧ p ≤ (9223372036854775807 : Int) → True) ∧
        ((decide (p ≥ (↑t.size : Int)) || decide (byteAt t p.toNat ≠ (32 : Int))) = false →
          (-9223372036854775808 : Int) ≤ p ∧ p ≤ (9223372036854775807 : Int) →
            (0 : Int) ≤ IntKind.i64.wrap (p + (1 : Int)) ∧
              ((!isD t (IntKind.i64.wrap (p + (1 : Int))).toNat) = true →
                  (-9223372036854775808 : Int) ≤ IntKind.i64.wrap (p + (1 : Int)) ∧
                      IntKind.i64.wrap (p + (1 : Int)) ≤ (9223372036854775807 : Int) →
                    True) ∧
                ((!isD t (IntKind.i64.wrap (p + (1 : Int))).toNat) = false →
                  (-9223372036854775808 : Int) ≤ IntKind.i64.wrap (p + (1 : Int)) ∧
                      IntKind.i64.wrap (p + (1 : Int)) ≤ (9223372036854775807 : Int) →
                    (0 : Int) ≤ IntKind.i64.wrap (IntKind.i64.wrap (p + (1 : Int)) + (1 : Int)) ∧
                      ((isD t (IntKind.i64.wrap (IntKind.i64.wrap (p + (1 : Int)) + (1 : Int))).toNat &&
                              decide
                                ((if isD t (IntKind.i64.wrap (p + (1 : Int))).toNat = true then
                                    byteAt t (IntKind.i64.wrap (p + (1 : Int))).toNat - (48 : Int)
                                  else (0 : Int)) >
                                  (0 : Int))) =
                            true →
                          (-9223372036854775808 : Int) ≤ IntKind.i64.wrap (IntKind.i64.wrap (p + (1 : Int)) + (1 : Int)) ∧
                              IntKind.i64.wrap (IntKind.i64.wrap (p + (1 : Int)) + (1 : Int)) ≤
                                (9223372036854775807 : Int) →
                            False) ∧
                        ((isD t (IntKind.i64.wrap (IntKind.i64.wrap (p + (1 : Int)) + (1 : Int))).toNat &&
                              decide
                                ((if isD t (IntKind.i64.wrap (p + (1 : Int))).toNat = true then
                                    byteAt t (IntKind.i64.wrap (p + (1 : Int))).toNat - (48 : Int)
                                  else (0 : Int)) >
                                  (0 : Int))) =
                            false →
                          False))) := by
  obtain ⟨⟨h0, h100⟩, hn⟩ := hp
  have e1 : IntKind.i64.wrap (p + 1) = p + 1 := wrap_ok (by omega) (by omega)
  have n1 : (p + 1).toNat = p.toNat + 1 := by omega
  simp only [e1, n1]
  refine ⟨fun _ _ => ⟨fun h _ => by simp at h; omega, trivial⟩, fun _ _ => trivial, fun h _ => ⟨by omega, fun _ _ => trivial, fun h2 _ => ?_⟩⟩
  exfalso
  have : numOk t p.toNat = true := by
    simp only [Bool.or_eq_false_iff, decide_eq_false_iff_not, Bool.not_eq_false'] at h h2
    unfold numOk
    rw [h2]
    simp
    omega
  rw [this] at hn; cases hn
set_option maxRecDepth 100000 in
theorem numberX_fnx (t : ByteArray) (p : Int) (hp : (0 ≤ p ∧ p ≤ 100) ∧ numOk t p.toNat = false) : FnX Tryd.prog 33 [.bp 0 0] (some ((46, [.str t, .int .i64 p]))) ((59, 1)) := by
  refine fnX_ok (ct := [digit_con]) (xt := []) (L := fun _ => none) (by kernel_rfl) Tryd.func33 ?_
  have h := numberX_vc t p hp
  apply VC.thru h
  kernel_rfl
noncomputable def numberX_xget (ins : List SV) (bs : Option (TypeId × List SV)) : Option Prop :=
  match ins, bs with
  | [.bp 0 0], (some ((46, [.str t, .int .i64 p]))) => some ((0 ≤ p ∧ p ≤ 100) ∧ numOk t p.toNat = false)
  | _, _ => none
theorem numberX_xok : ∀ ins bs p, numberX_xget ins bs = some p → p → FnX Tryd.prog 33 ins bs ((59, 1)) := by
  intro ins bs p h hp
  unfold numberX_xget at h
  split at h
  · cases h; exact numberX_fnx _ _ hp
  · cases h
noncomputable def numberX_xcon : XCon Tryd.prog := ⟨33, (59, 1), numberX_xget, (enters Tryd.func33 (by kernel_rfl) rfl), numberX_xok⟩
set_option maxRecDepth 100000 in
theorem cutB_vc (t c : ByteArray) (hp : c = blank) :
    t.size ≤ (140737488351232 : Nat) →
      c.size ≤ (140737488351232 : Nat) →
        c = blank ∧ nameB t = nameB t ∧ restB t = restB t ∧ decide ((0 : Int) ≤ ixB t) = decide ((0 : Int) ≤ ixB t) := by
  exact fun _ _ => ⟨hp, rfl, rfl, rfl⟩
set_option maxRecDepth 100000 in
theorem cutB_fn (t c : ByteArray) (hp : c = blank) : Fn Tryd.prog 35 [.str t, .str c] none Unit (fun _ => True) (fun _ => .tup [.str (nameB t), .str (restB t), .bool (decide (0 ≤ ixB t))]) (fun _ => none) := by
  refine fn_ok0 (ct := [cutA_con]) (L := fun _ => none) (by kernel_rfl) Tryd.func35 rfl ?_
  have h := cutB_vc t c hp
  apply VC.thru h
  kernel_rfl
noncomputable def cutB_get (ins : List SV) (bs : Option (TypeId × List SV)) : Option Got :=
  match ins, bs with
  | [.str t, .str c], none => some (c = blank, .tup [.str (nameB t), .str (restB t), .bool (decide (0 ≤ ixB t))], none)
  | _, _ => none
theorem cutB_ok : ∀ ins bs p out bs', cutB_get ins bs = some (p, out, bs') → p → Fn Tryd.prog 35 ins bs Unit (fun _ => True) (fun _ => out) (fun _ => bs') := by
  intro ins bs p out bs' h hp
  unfold cutB_get at h
  split at h
  · cases h; exact cutB_fn _ _ hp
  · cases h
noncomputable def cutB_con : Con Tryd.prog := .f0 35 cutB_get (enters Tryd.func35 (by kernel_rfl) rfl) cutB_ok
set_option maxRecDepth 100000 in
theorem none_vc (t : ByteArray) (p : Int) :
    (0 : Int) = (0 : Int) ∧ (0 : Int) = (0 : Int) ∧ t = t ∧ p = p := by
  exact ⟨rfl, rfl, rfl, rfl⟩
set_option maxRecDepth 100000 in
theorem none_fn (t : ByteArray) (p : Int) : Fn Tryd.prog 29 [.bp 0 0] (some ((46, [.str t, .int .i64 p]))) Unit (fun _ => True) (fun _ => .tup [.int .i64 0, .int .i64 0]) (fun _ => (some ((46, [.str t, .int .i64 p])))) := by
  refine fn_ok0 (ct := []) (L := fun _ => none) (by kernel_rfl) Tryd.func29 rfl ?_
  have h := none_vc t p
  apply VC.thru h
  kernel_rfl
noncomputable def none_get (ins : List SV) (bs : Option (TypeId × List SV)) : Option Got :=
  match ins, bs with
  | [.bp 0 0], (some ((46, [.str t, .int .i64 p]))) => some (True, .tup [.int .i64 0, .int .i64 0], (some ((46, [.str t, .int .i64 p]))))
  | _, _ => none
theorem none_ok : ∀ ins bs p out bs', none_get ins bs = some (p, out, bs') → p → Fn Tryd.prog 29 ins bs Unit (fun _ => True) (fun _ => out) (fun _ => bs') := by
  intro ins bs p out bs' h hp
  unfold none_get at h
  split at h
  · cases h; exact none_fn _ _
  · cases h
noncomputable def none_con : Con Tryd.prog := .f0 29 none_get (enters Tryd.func29 (by kernel_rfl) rfl) none_ok
set_option maxRecDepth 100000 in
theorem one_vc (t : ByteArray) (p : Int) (hp : 0 ≤ p ∧ numOk t p.toNat = true ∧ t.size ≤ 30) :
    ((0 : Int) ≤ p ∧ numOk t p.toNat = true ∧ t.size ≤ (30 : Nat)) ∧
      numV t p.toNat = numV t p.toNat ∧
        (0 : Int) = (0 : Int) ∧ t = t ∧ (↑(numE t p.toNat) : Int) = (↑(numE t p.toNat) : Int) := by
  exact ⟨hp, rfl, rfl, rfl, rfl⟩
set_option maxRecDepth 100000 in
theorem one_fn (t : ByteArray) (p : Int) (hp : 0 ≤ p ∧ numOk t p.toNat = true ∧ t.size ≤ 30) : Fn Tryd.prog 28 [.bp 0 0] (some ((46, [.str t, .int .i64 p]))) Unit (fun _ => True) (fun _ => .tup [.int .i64 (numV t p.toNat), .int .i64 0]) (fun _ => (some ((46, [.str t, .int .i64 (numE t p.toNat)])))) := by
  refine fn_ok0 (ct := [number_con]) (L := fun _ => none) (by kernel_rfl) Tryd.func28 rfl ?_
  have h := one_vc t p hp
  apply VC.thru h
  kernel_rfl
noncomputable def one_get (ins : List SV) (bs : Option (TypeId × List SV)) : Option Got :=
  match ins, bs with
  | [.bp 0 0], (some ((46, [.str t, .int .i64 p]))) => some (0 ≤ p ∧ numOk t p.toNat = true ∧ t.size ≤ 30, .tup [.int .i64 (numV t p.toNat), .int .i64 0], (some ((46, [.str t, .int .i64 (numE t p.toNat)]))))
  | _, _ => none
theorem one_ok : ∀ ins bs p out bs', one_get ins bs = some (p, out, bs') → p → Fn Tryd.prog 28 ins bs Unit (fun _ => True) (fun _ => out) (fun _ => bs') := by
  intro ins bs p out bs' h hp
  unfold one_get at h
  split at h
  · cases h; exact one_fn _ _ hp
  · cases h
noncomputable def one_con : Con Tryd.prog := .f0 28 one_get (enters Tryd.func28 (by kernel_rfl) rfl) one_ok
set_option maxRecDepth 100000 in
theorem oneX_vc (t : ByteArray) (p : Int) (hp : (0 ≤ p ∧ p ≤ 100) ∧ numOk t p.toNat = false) :
    (((0 : Int) ≤ p ∧ p ≤ (100 : Int)) ∧ numOk t p.toNat = false) ∧ True ∨
      ((0 : Int) ≤ p ∧ numOk t p.toNat = true ∧ t.size ≤ (30 : Nat)) ∧ False := by
  exact .inl ⟨hp, trivial⟩
set_option maxRecDepth 100000 in
theorem oneX_fnx (t : ByteArray) (p : Int) (hp : (0 ≤ p ∧ p ≤ 100) ∧ numOk t p.toNat = false) : FnX Tryd.prog 28 [.bp 0 0] (some ((46, [.str t, .int .i64 p]))) ((59, 1)) := by
  refine fnX_ok (ct := [number_con]) (xt := [numberX_xcon]) (L := fun _ => none) (by kernel_rfl) Tryd.func28 ?_
  have h := oneX_vc t p hp
  apply VC.thru h
  kernel_rfl
noncomputable def oneX_xget (ins : List SV) (bs : Option (TypeId × List SV)) : Option Prop :=
  match ins, bs with
  | [.bp 0 0], (some ((46, [.str t, .int .i64 p]))) => some ((0 ≤ p ∧ p ≤ 100) ∧ numOk t p.toNat = false)
  | _, _ => none
theorem oneX_xok : ∀ ins bs p, oneX_xget ins bs = some p → p → FnX Tryd.prog 28 ins bs ((59, 1)) := by
  intro ins bs p h hp
  unfold oneX_xget at h
  split at h
  · cases h; exact oneX_fnx _ _ hp
  · cases h
noncomputable def oneX_xcon : XCon Tryd.prog := ⟨28, (59, 1), oneX_xget, (enters Tryd.func28 (by kernel_rfl) rfl), oneX_xok⟩
set_option maxRecDepth 100000 in
theorem two_vc (t : ByteArray) (p : Int) (hp : 0 ≤ p ∧ numOk t p.toNat = true ∧ numOk t (numE t p.toNat) = true ∧ t.size ≤ 30) :
    ((0 : Int) ≤ p ∧ numOk t p.toNat = true ∧ t.size ≤ (30 : Nat)) ∧
      ((0 : Int) ≤ (↑(numE t p.toNat) : Int) ∧ numOk t (↑(numE t p.toNat) : Int).toNat = true ∧ t.size ≤ (30 : Nat)) ∧
        numV t p.toNat = numV t p.toNat ∧
          numV t (↑(numE t p.toNat) : Int).toNat = numV t (numE t p.toNat) ∧
            t = t ∧ (↑(numE t (↑(numE t p.toNat) : Int).toNat) : Int) = (↑(numE t (numE t p.toNat)) : Int) := by
  have h1 := numE_le hp.2.1
  exact ⟨⟨hp.1, hp.2.1, hp.2.2.2⟩, ⟨by omega, hp.2.2.1, hp.2.2.2⟩, rfl, rfl, rfl, rfl⟩
set_option maxRecDepth 100000 in
theorem two_fn (t : ByteArray) (p : Int) (hp : 0 ≤ p ∧ numOk t p.toNat = true ∧ numOk t (numE t p.toNat) = true ∧ t.size ≤ 30) : Fn Tryd.prog 27 [.bp 0 0] (some ((46, [.str t, .int .i64 p]))) Unit (fun _ => True) (fun _ => .tup [.int .i64 (numV t p.toNat), .int .i64 (numV t (numE t p.toNat))]) (fun _ => (some ((46, [.str t, .int .i64 (numE t (numE t p.toNat))])))) := by
  refine fn_ok0 (ct := [number_con]) (L := fun _ => none) (by kernel_rfl) Tryd.func27 rfl ?_
  have h := two_vc t p hp
  apply VC.thru h
  kernel_rfl
noncomputable def two_get (ins : List SV) (bs : Option (TypeId × List SV)) : Option Got :=
  match ins, bs with
  | [.bp 0 0], (some ((46, [.str t, .int .i64 p]))) => some (0 ≤ p ∧ numOk t p.toNat = true ∧ numOk t (numE t p.toNat) = true ∧ t.size ≤ 30, .tup [.int .i64 (numV t p.toNat), .int .i64 (numV t (numE t p.toNat))], (some ((46, [.str t, .int .i64 (numE t (numE t p.toNat))]))))
  | _, _ => none
theorem two_ok : ∀ ins bs p out bs', two_get ins bs = some (p, out, bs') → p → Fn Tryd.prog 27 ins bs Unit (fun _ => True) (fun _ => out) (fun _ => bs') := by
  intro ins bs p out bs' h hp
  unfold two_get at h
  split at h
  · cases h; exact two_fn _ _ hp
  · cases h
noncomputable def two_con : Con Tryd.prog := .f0 27 two_get (enters Tryd.func27 (by kernel_rfl) rfl) two_ok
set_option maxRecDepth 100000 in
theorem twoX_vc (t : ByteArray) (p : Int) (hp : ((0 ≤ p ∧ p ≤ 100) ∧ t.size ≤ 30) ∧ (numOk t p.toNat = false ∨ numOk t (numE t p.toNat) = false)) :
    (((0 : Int) ≤ p ∧ p ≤ (100 : Int)) ∧ numOk t p.toNat = false) ∧ True ∨
      ((0 : Int) ≤ p ∧ numOk t p.toNat = true ∧ t.size ≤ (30 : Nat)) ∧
        ((((0 : Int) ≤ (↑(numE t p.toNat) : Int) ∧ (↑(numE t p.toNat) : Int) ≤ (100 : Int)) ∧
              numOk t (↑(numE t p.toNat) : Int).toNat = false) ∧
            True ∨
          ((0 : Int) ≤ (↑(numE t p.toNat) : Int) ∧ numOk t (↑(numE t p.toNat) : Int).toNat = true ∧ t.size ≤ (30 : Nat)) ∧
            False) := by
  obtain ⟨⟨h1, h2⟩, h3⟩ := hp
  cases h4 : numOk t p.toNat with
  | false => exact .inl ⟨⟨h1, rfl⟩, trivial⟩
  | true =>
    have h5 := numE_le h4
    rcases h3 with h3 | h3
    · rw [h4] at h3; cases h3
    · exact .inr ⟨⟨h1.1, rfl, h2⟩, .inl ⟨⟨by omega, h3⟩, trivial⟩⟩
set_option maxRecDepth 100000 in
theorem twoX_fnx (t : ByteArray) (p : Int) (hp : ((0 ≤ p ∧ p ≤ 100) ∧ t.size ≤ 30) ∧ (numOk t p.toNat = false ∨ numOk t (numE t p.toNat) = false)) : FnX Tryd.prog 27 [.bp 0 0] (some ((46, [.str t, .int .i64 p]))) ((59, 1)) := by
  refine fnX_ok (ct := [number_con]) (xt := [numberX_xcon]) (L := fun _ => none) (by kernel_rfl) Tryd.func27 ?_
  have h := twoX_vc t p hp
  apply VC.thru h
  kernel_rfl
noncomputable def twoX_xget (ins : List SV) (bs : Option (TypeId × List SV)) : Option Prop :=
  match ins, bs with
  | [.bp 0 0], (some ((46, [.str t, .int .i64 p]))) => some (((0 ≤ p ∧ p ≤ 100) ∧ t.size ≤ 30) ∧ (numOk t p.toNat = false ∨ numOk t (numE t p.toNat) = false))
  | _, _ => none
theorem twoX_xok : ∀ ins bs p, twoX_xget ins bs = some p → p → FnX Tryd.prog 27 ins bs ((59, 1)) := by
  intro ins bs p h hp
  unfold twoX_xget at h
  split at h
  · cases h; exact twoX_fnx _ _ hp
  · cases h
noncomputable def twoX_xcon : XCon Tryd.prog := ⟨27, (59, 1), twoX_xget, (enters Tryd.func27 (by kernel_rfl) rfl), twoX_xok⟩
noncomputable def fidK (k : Nat) : Nat := if sizeK k = 2 then 27 else if sizeK k = 1 then 28 else 29
set_option maxRecDepth 100000 in
theorem words_vc (t : ByteArray) (p : Int) :
    ByteArray.mk #[] = ByteArray.mk #[] ∧
      (0 : Int) = (0 : Int) ∧
        Value.nilFunc = Value.nilFunc ∧
          ByteArray.mk #[(99 : UInt8), (111 : UInt8), (117 : UInt8), (110 : UInt8), (116 : UInt8)] = word (1 : Nat) ∧
            (2 : Int) = (2 : Int) ∧
              ByteArray.mk #[(104 : UInt8), (101 : UInt8), (108 : UInt8), (108 : UInt8), (111 : UInt8)] = word (2 : Nat) ∧
                (1 : Int) = (1 : Int) ∧
                  ByteArray.mk #[(116 : UInt8), (101 : UInt8), (108 : UInt8), (108 : UInt8)] = word (3 : Nat) ∧
                    (1 : Int) = (1 : Int) ∧
                      ByteArray.mk #[(116 : UInt8), (97 : UInt8), (107 : UInt8), (101 : UInt8)] = word (4 : Nat) ∧
                        (1 : Int) = (1 : Int) ∧
                          ByteArray.mk #[(116 : UInt8), (119 : UInt8), (105 : UInt8), (99 : UInt8), (101 : UInt8)] =
                              word (5 : Nat) ∧
                            (1 : Int) = (1 : Int) ∧
                              ByteArray.mk #[(108 : UInt8), (111 : UInt8), (115 : UInt8), (101 : UInt8)] = word (6 : Nat) ∧
                                (1 : Int) = (1 : Int) ∧
                                  ByteArray.mk #[(99 : UInt8), (114 : UInt8), (97 : UInt8), (115 : UInt8), (104 : UInt8)] =
                                      word (7 : Nat) ∧
                                    (1 : Int) = (1 : Int) ∧
                                      ByteArray.mk
                                            #[(98 : UInt8), (101 : UInt8), (97 : UInt8), (99 : UInt8), (111 : UInt8),
                                              (110 : UInt8)] =
                                          word (8 : Nat) ∧
                                        (0 : Int) = (0 : Int) ∧
                                          ByteArray.mk #[(99 : UInt8), (117 : UInt8), (116 : UInt8)] = word (9 : Nat) ∧
                                            (2 : Int) = (2 : Int) ∧
                                              ByteArray.mk #[(109 : UInt8), (101 : UInt8), (110 : UInt8), (100 : UInt8)] =
                                                  word (10 : Nat) ∧
                                                (2 : Int) = (2 : Int) ∧ t = t ∧ p = p := by
  exact ⟨rfl, rfl, rfl, rfl, rfl, rfl, rfl, rfl, rfl, rfl, rfl, rfl, rfl, rfl, rfl, rfl, rfl, rfl, rfl, rfl, rfl, rfl, rfl, rfl, rfl⟩
set_option maxRecDepth 100000 in
theorem words_fn (t : ByteArray) (p : Int) : Fn Tryd.prog 18 [.bp 0 0] (some ((46, [.str t, .int .i64 p]))) Unit (fun _ => True) (fun _ => .agg [.str (ByteArray.mk #[]), .int .i64 0, .raw .nilFunc, .str (word 1), .int .i64 2, .bf 27 [.bp 0 0], .str (word 2), .int .i64 1, .bf 28 [.bp 0 0], .str (word 3), .int .i64 1, .bf 28 [.bp 0 0], .str (word 4), .int .i64 1, .bf 28 [.bp 0 0], .str (word 5), .int .i64 1, .bf 28 [.bp 0 0], .str (word 6), .int .i64 1, .bf 28 [.bp 0 0], .str (word 7), .int .i64 1, .bf 28 [.bp 0 0], .str (word 8), .int .i64 0, .bf 29 [.bp 0 0], .str (word 9), .int .i64 2, .bf 27 [.bp 0 0], .str (word 10), .int .i64 2, .bf 27 [.bp 0 0]]) (fun _ => (some ((46, [.str t, .int .i64 p])))) := by
  refine fn_ok0 (ct := []) (L := fun _ => none) (by kernel_rfl) Tryd.func18 rfl ?_
  have h := words_vc t p
  apply VC.thru h
  kernel_rfl
noncomputable def words_get (ins : List SV) (bs : Option (TypeId × List SV)) : Option Got :=
  match ins, bs with
  | [.bp 0 0], (some ((46, [.str t, .int .i64 p]))) => some (True, .agg [.str (ByteArray.mk #[]), .int .i64 0, .raw .nilFunc, .str (word 1), .int .i64 2, .bf 27 [.bp 0 0], .str (word 2), .int .i64 1, .bf 28 [.bp 0 0], .str (word 3), .int .i64 1, .bf 28 [.bp 0 0], .str (word 4), .int .i64 1, .bf 28 [.bp 0 0], .str (word 5), .int .i64 1, .bf 28 [.bp 0 0], .str (word 6), .int .i64 1, .bf 28 [.bp 0 0], .str (word 7), .int .i64 1, .bf 28 [.bp 0 0], .str (word 8), .int .i64 0, .bf 29 [.bp 0 0], .str (word 9), .int .i64 2, .bf 27 [.bp 0 0], .str (word 10), .int .i64 2, .bf 27 [.bp 0 0]], (some ((46, [.str t, .int .i64 p]))))
  | _, _ => none
theorem words_ok : ∀ ins bs p out bs', words_get ins bs = some (p, out, bs') → p → Fn Tryd.prog 18 ins bs Unit (fun _ => True) (fun _ => out) (fun _ => bs') := by
  intro ins bs p out bs' h hp
  unfold words_get at h
  split at h
  · cases h; exact words_fn _ _
  · cases h
noncomputable def words_con : Con Tryd.prog := .f0 18 words_get (enters Tryd.func18 (by kernel_rfl) rfl) words_ok
end E
end Go.Proofs.YtbjapgekagljeaaDoor
