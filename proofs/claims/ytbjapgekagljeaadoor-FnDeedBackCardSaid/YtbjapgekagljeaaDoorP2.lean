/- A deed's text, cut at its blanks; the reference's reading and the program's are one. Plain theory. -/
import Derived.Test.YtbjapgekagljeaaDoorP1
namespace Go.Proofs.YtbjapgekagljeaaDoor
open Go Go.RowKit
namespace E
theorem extract_lst {t u : ByteArray} {a b c d : Nat} (h : ((lst t).take b).drop a = ((lst u).take d).drop c) : t.extract a b = u.extract c d := lst_inj (by rw [lst_extract, lst_extract, h])
theorem byteAt_eq {t u : ByteArray} {i j : Nat} (h : (lst t)[i]? = (lst u)[j]?) : byteAt t i = byteAt u j := by
  rw [byteAt_lst, byteAt_lst, List.getD_eq_getElem?_getD, List.getD_eq_getElem?_getD, h]
theorem splitTo_no {t : ByteArray} : ∀ i, (∀ j, j < i → byteAt t j ≠ 32) → splitTo t 32 i = ([], 0)
  | 0, _ => rfl
  | i + 1, h => by rw [splitTo, if_neg (h i (by omega))]; exact splitTo_no i (fun j hj => h j (by omega))
theorem no_byte {t : ByteArray} (h : (32 : UInt8) ∉ lst t) (j : Nat) : byteAt t j ≠ 32 := by
  rw [byteAt_lst]
  intro e
  rcases Nat.lt_or_ge j (lst t).length with hj | hj
  · rw [List.getD_eq_getElem?_getD, List.getElem?_eq_getElem hj] at e
    have : (lst t)[j] = 32 := u8_eq (n := 32) e (by omega)
    exact h (this ▸ List.getElem_mem hj)
  · rw [List.getD_eq_getElem?_getD, List.getElem?_eq_none hj] at e
    simp at e
theorem split_one {t : ByteArray} (h : (32 : UInt8) ∉ lst t) : split t 32 = [.str t] := by
  unfold split
  rw [splitTo_no t.size (fun j _ => no_byte h j)]
  have : t.extract 0 t.size = t := lst_inj (by rw [lst_extract, List.drop_zero, List.take_of_length_le (by rw [lst_len]; exact Nat.le_refl _)])
  rw [this]; rfl
theorem split_app {t p q : ByteArray} (ht : lst t = lst p ++ 32 :: lst q) (h : (32 : UInt8) ∉ lst p) : split t 32 = .str p :: split q 32 := by
  have hs : t.size = p.size + 1 + q.size := by rw [← lst_len, ht, List.length_append, List.length_cons, lst_len, lst_len]; omega
  have hp := lst_len p
  have get1 : ∀ j, j < p.size → (lst t)[j]? = (lst p)[j]? := fun j hj => by rw [ht, List.getElem?_append_left (by omega)]
  have get2 : ∀ j, (lst t)[p.size + 1 + j]? = (lst q)[j]? := fun j => by
    rw [ht, List.getElem?_append_right (by omega), hp, show p.size + 1 + j - p.size = j + 1 from by omega, List.getElem?_cons_succ]
  have hd : (lst t).drop (p.size + 1) = lst q := by
    rw [ht, ← hp, List.drop_append, List.drop_eq_nil_of_le (by omega), List.nil_append, show (lst p).length + 1 - (lst p).length = 1 from by omega]; rfl
  have h1 : splitTo t 32 p.size = ([], 0) := splitTo_no _ (fun j hj => by rw [byteAt_eq (get1 j hj)]; exact no_byte h j)
  have h2 : splitTo t 32 (p.size + 1) = ([.str p], p.size + 1) := by
    have hb : byteAt t p.size = 32 := by
      rw [byteAt_lst, ht, List.getD_eq_getElem?_getD, List.getElem?_append_right (by omega), hp, Nat.sub_self]; rfl
    have he : t.extract 0 p.size = p := lst_inj (by rw [lst_extract, List.drop_zero, ht, List.take_append_of_le_length (by omega), List.take_of_length_le (by omega)])
    rw [splitTo, if_pos hb, h1, he]; rfl
  have ex : ∀ a b, t.extract (p.size + 1 + a) (p.size + 1 + b) = q.extract a b := fun a b => extract_lst (by
    rw [← hd, List.drop_take, List.drop_take, List.drop_drop]
    congr 1
    omega)
  have h3 : ∀ i, splitTo t 32 (p.size + 1 + i) = (.str p :: (splitTo q 32 i).1, p.size + 1 + (splitTo q 32 i).2) := by
    intro i
    induction i with
    | zero => exact h2
    | succ i ih =>
      rw [← Nat.add_assoc, splitTo, ih, splitTo, byteAt_eq (get2 i)]
      split
      · rw [ex]; rfl
      · rfl
  unfold split
  rw [hs, h3 q.size, ex]
  rfl
theorem num_dec : ∀ n, n < 100 → ∀ t : ByteArray, lst t = lst (decB n) → numFrom t 0 0 = n := by
  intro n hn t ht
  have hd := dec_lst n hn
  have hs := lst_len t
  have b0 := byteAt_lst t 0
  have b1 := byteAt_lst t 1
  by_cases h : n < 10
  · rw [if_pos h] at hd
    rw [ht, hd] at hs b0
    simp only [List.length_cons, List.length_nil, List.getD_cons_zero] at hs b0
    rw [ofNat_small (by omega)] at b0
    rw [numFrom_step t 0 0 (by omega), numFrom_stop t (0 + 1) _ (by omega), if_pos (by omega), b0]
    omega
  · rw [if_neg h] at hd
    rw [ht, hd] at hs b0 b1
    simp only [List.length_cons, List.length_nil, List.getD_cons_zero, List.getD_cons_succ] at hs b0 b1
    rw [ofNat_small (by omega)] at b0 b1
    rw [numFrom_step t 0 0 (by omega), if_pos (by omega), numFrom_step t (0 + 1) _ (by omega), if_pos (by simp only [Nat.zero_add]; omega), numFrom_stop t (0 + 1 + 1) _ (by omega)]
    simp only [Nat.zero_add]
    omega
theorem rawD_of {k a b : Int} (h : Sound k a b) : rawD (txtD k a b) = (k, a, b) := by
  have hl := txt_lst h
  generalize txtD k a b = t at *
  obtain ⟨⟨h1, h2, h3, h4, h5, h6⟩, h7⟩ := h
  have hw := word_no k.toNat (by omega)
  have hk : kindTo (word k.toNat) 10 = k := by
    have := kindTo_key (w := word k.toNat) (j := k.toNat) (by omega) (by omega) rfl
    omega
  have na := num_dec a.toNat (by omega) (decB a.toNat) rfl
  have nb := num_dec b.toNat (by omega) (decB b.toNat) rfl
  have da := dec_no a.toNat (by omega)
  have db := dec_no b.toNat (by omega)
  have s0 : ∀ (l : List Dat), split t 32 = l → rawD t = (kindTo (l.getD 0 default).toStr 10, if 1 < l.length then numFrom (l.getD 1 default).toStr 0 0 else 0, if 2 < l.length then numFrom (l.getD 2 default).toStr 0 0 else 0) := fun l hl => by
    subst hl; rfl
  rcases sizeK_is k with hs | hs | hs
  · have hr : restL k a b = [] := by unfold restL; rw [if_pos hs]
    rw [hr, List.append_nil] at hl
    have ht : t = word k.toNat := lst_inj hl
    rw [s0 _ (split_one (by rw [ht]; exact hw)), ht]
    simp [Dat.toStr, hk]
    omega
  · have hr : restL k a b = 32 :: lst (decB a.toNat) := by unfold restL; rw [if_neg (by omega), if_pos hs]
    rw [hr] at hl
    rw [s0 _ ((split_app hl hw).trans (by rw [split_one da]))]
    simp [Dat.toStr, hk, na]
    omega
  · have hr : restL k a b = 32 :: lst (decB a.toNat ++ blank ++ decB b.toNat) := by unfold restL; rw [if_neg (by omega), if_neg (by omega), lst_app, lst_app, lst_blank]; simp
    rw [hr] at hl
    have h2' : lst (decB a.toNat ++ blank ++ decB b.toNat) = lst (decB a.toNat) ++ 32 :: lst (decB b.toNat) := by rw [lst_app, lst_app, lst_blank]; simp
    rw [s0 _ ((split_app hl hw).trans (by rw [split_app h2' da, split_one db]))]
    simp [Dat.toStr, hk, na, nb]
    omega
/-- What the program reads. -/
def okI (t : ByteArray) : Bool := decide (kOf t ≠ 0) && okP t (kOf t)
theorem okI_yes {t : ByteArray} (h : okI t = true) : rawD t = (kOf t, aP t (kOf t), bP t (kOf t)) ∧ Sound (kOf t) (aP t (kOf t)) (bP t (kOf t)) ∧ txtD (kOf t) (aP t (kOf t)) (bP t (kOf t)) = t := by
  rw [okI, Bool.and_eq_true, decide_eq_true_eq] at h
  obtain ⟨hs, ht⟩ := read_stands h.1 h.2
  refine ⟨?_, hs, ht⟩
  have := rawD_of hs
  rwa [ht] at this
theorem sound_ne {k a b : Int} (h : Sound k a b) : txtD k a b ≠ ByteArray.mk #[] := by
  intro e
  have hl := txt_lst h
  rw [e] at hl
  have : lst (word k.toNat) = [] := (List.append_eq_nil_iff.1 hl.symm).1
  exact word_ne k.toNat (by have := h.1; omega) (by have := h.1; omega) this
theorem ok_same {t : ByteArray} (ht : t.size ≤ 30) : okD t = okI t := by
  rw [Bool.eq_iff_iff]
  constructor
  · intro h
    have h2 : ¬ badD t (rawD t).1 (rawD t).2.1 (rawD t).2.2 = true := by unfold okD at h; simpa using h
    simp only [badD, Bool.or_eq_true, decide_eq_true_eq, not_or, Classical.not_not] at h2
    obtain ⟨h3, _, h5⟩ := h2
    have hs := sound_of (k := (rawD t).1) (a := (rawD t).2.1) (b := (rawD t).2.2) (by rw [h5]; exact h3)
    obtain ⟨g1, g2, _, _⟩ := stands_read hs
    rw [h5] at g1 g2
    unfold okI
    rw [g1, g2]
    have := hs.1
    simp
    omega
  · intro h
    obtain ⟨h1, h2, h3⟩ := okI_yes h
    unfold okD badD
    rw [h1]
    simp only [h3]
    have := sound_ne h2
    rw [h3] at this
    simp [this]
    omega
theorem readD_yes {t : ByteArray} (ht : t.size ≤ 30) (h : okI t = true) : readD t = (kOf t, aP t (kOf t), bP t (kOf t)) := by
  unfold readD
  rw [ok_same ht, if_pos h, (okI_yes h).1]
theorem readD_no {t : ByteArray} (h : okD t = false) : readD t = (0, 0, 0) := by
  unfold readD
  rw [h]; rfl
theorem okD_long {t : ByteArray} (ht : 30 < t.size) : okD t = false := by
  unfold okD badD
  have : decide ((t.size : Int) > 30) = true := by simp; omega
  rw [this]; simp
end E
end Go.Proofs.YtbjapgekagljeaaDoor
