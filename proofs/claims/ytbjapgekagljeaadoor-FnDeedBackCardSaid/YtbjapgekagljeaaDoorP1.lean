/- A text that is read as a deed is that deed's text, and the other way round. Plain theory. -/
import Derived.Test.YtbjapgekagljeaaDoorP0
import Derived.Test.YtbjapgekagljeaaDoorS9
namespace Go.Proofs.YtbjapgekagljeaaDoor
open Go Go.RowKit
namespace E
theorem lst_len (t : ByteArray) : (lst t).length = t.size := by simp [lst]
theorem byteAt_lst (t : ByteArray) (i : Nat) : byteAt t i = (((lst t).getD i 0).toNat : Int) := by
  unfold byteAt
  split
  · rename_i h
    have : (lst t)[i]? = some t[i] := by
      simp only [lst, Array.getElem?_toList]
      rw [Array.getElem?_eq_getElem (by simpa using h)]; rfl
    rw [List.getD_eq_getElem?_getD, this]; rfl
  · rename_i h
    rw [List.getD_eq_getElem?_getD, List.getElem?_eq_none (by rw [lst_len]; omega)]; rfl
theorem lst_extract (t : ByteArray) (a b : Nat) : lst (t.extract a b) = ((lst t).take b).drop a := by
  simp only [lst, ByteArray.data_extract, Array.toList_extract]
  rw [List.extract_eq_take_drop, List.drop_take]
theorem index_none : ∀ {l : List UInt8}, (32 : UInt8) ∉ l → Lib.indexByte l 32 = -1
  | [], _ => rfl
  | b :: l, h => by
    simp only [List.mem_cons, not_or] at h
    unfold Lib.indexByte
    rw [if_neg (by simp; exact fun e => h.1 e.symm), index_none h.2]; rfl
theorem index_at : ∀ {l r : List UInt8}, (32 : UInt8) ∉ l → Lib.indexByte (l ++ 32 :: r) 32 = l.length
  | [], _, _ => by simp [Lib.indexByte]
  | b :: l, r, h => by
    simp only [List.mem_cons, not_or] at h
    rw [List.cons_append]
    unfold Lib.indexByte
    rw [if_neg (by simp; exact fun e => h.1 e.symm), index_at h.2]
    simp
theorem nameB_of {t w : ByteArray} {r : List UInt8} (h : lst t = lst w ++ r) (hw : (32 : UInt8) ∉ lst w) (hr : r = [] ∨ ∃ r', r = 32 :: r') : nameB t = w := by
  apply lst_inj
  have e : ixB t = Lib.indexByte (lst t) 32 := rfl
  rcases hr with rfl | ⟨r', rfl⟩
  · rw [List.append_nil] at h
    unfold nameB
    rw [e, h, index_none hw, if_neg (by omega), h]
  · unfold nameB
    rw [e, h, index_at hw, if_pos (by omega), lst_extract, h]
    simp
theorem nameB_lst (t : ByteArray) : lst (nameB t) = (lst t).take (nameB t).size := by
  unfold nameB
  rcases ixB_in t with h | h
  · rw [if_neg (by omega), List.take_of_length_le (by rw [lst_len]; exact Nat.le_refl _)]
  · rw [if_pos h.1, lst_extract, List.drop_zero]
    congr 1
    rw [ByteArray.size_extract]; omega
theorem dec_lst : ∀ n, n < 100 → lst (decB n) = if n < 10 then [UInt8.ofNat (48 + n)] else [UInt8.ofNat (48 + n / 10), UInt8.ofNat (48 + n % 10)] := by decide +kernel
theorem ofNat_small {n : Nat} (h : n < 256) : (UInt8.ofNat n).toNat = n := by simp; omega
/-- A number that stands in a text is read. -/
theorem num_read {t : ByteArray} {P R : List UInt8} {a : Int} (h0 : 0 ≤ a) (h1 : a ≤ 99) (h : lst t = P ++ 32 :: (lst (decB a.toNat) ++ R)) (hR : R = [] ∨ ∃ r, R = 32 :: r) :
    numOk t P.length = true ∧ numV t P.length = a ∧ numE t P.length = P.length + 1 + (lst (decB a.toNat)).length := by
  have hs : t.size = (P ++ 32 :: (lst (decB a.toNat) ++ R)).length := by rw [← h, lst_len]
  have at_ : ∀ i, byteAt t (P.length + i) = (((32 :: (lst (decB a.toNat) ++ R)).getD i 0).toNat : Int) := fun i => by
    rw [byteAt_lst, h, List.getD_eq_getElem?_getD, List.getElem?_append_right (by omega), List.getD_eq_getElem?_getD, Nat.add_sub_cancel_left]
  have b0 := at_ 0
  have b1 := at_ 1
  have b2 := at_ 2
  have hd := dec_lst a.toNat (by omega)
  by_cases hlt : a.toNat < 10
  · rw [if_pos hlt] at hd
    rw [hd] at b0 b1 b2 hs ⊢
    simp only [List.cons_append, List.nil_append, List.getD_cons_zero, List.getD_cons_succ, List.length_append, List.length_cons, Nat.add_zero] at b0 b1 b2 hs ⊢
    rw [ofNat_small (by omega)] at b1
    have e2 : isD t (P.length + 2) = false := by
      rcases hR with rfl | ⟨r, rfl⟩
      · unfold isD; simp at hs; rw [decide_eq_false (by omega)]; rfl
      · simp at b2
        unfold isD; rw [b2]; simp
    have e3 : twoB t P.length = false := by unfold twoB; rw [e2]; rfl
    have e1 : isD t (P.length + 1) = true := by unfold isD; rw [b1]; simp; omega
    refine ⟨?_, ?_, ?_⟩
    · unfold numOk; rw [e1, b0]; simp; omega
    · unfold numV; rw [e3, b1]; simp; omega
    · unfold numE; rw [e3]; simp
  · rw [if_neg hlt] at hd
    rw [hd] at b0 b1 b2 hs ⊢
    simp only [List.cons_append, List.nil_append, List.getD_cons_zero, List.getD_cons_succ, List.length_append, List.length_cons, Nat.add_zero] at b0 b1 b2 hs ⊢
    rw [ofNat_small (by omega)] at b1 b2
    have e2 : isD t (P.length + 2) = true := by unfold isD; rw [b2]; simp; omega
    have e1 : isD t (P.length + 1) = true := by unfold isD; rw [b1]; simp; omega
    have e3 : twoB t P.length = true := by unfold twoB; rw [e2, b1]; simp; omega
    refine ⟨?_, ?_, ?_⟩
    · unfold numOk; rw [e1, b0]; simp; omega
    · unfold numV; rw [e3, b1, b2]; simp; omega
    · unfold numE; rw [e3]; simp
theorem getD_drop {l : List UInt8} {p : Nat} (h : p < l.length) : l.drop p = l.getD p 0 :: l.drop (p + 1) := by
  rw [List.getD_eq_getElem?_getD, List.getElem?_eq_getElem h, List.drop_eq_getElem_cons h]; rfl
theorem u8_eq {c : UInt8} {n : Nat} (h : (c.toNat : Int) = n) (hn : n < 256) : c = UInt8.ofNat n := by
  apply UInt8.toNat_inj.1; rw [ofNat_small hn]; omega
/-- A number that is read stands there. -/
theorem num_stands {t : ByteArray} {p : Nat} (h : numOk t p = true) : (lst t).drop p = 32 :: (lst (decB (numV t p).toNat) ++ (lst t).drop (numE t p)) := by
  have hin := numV_in h
  have h2 := h
  simp only [numOk, isD, Bool.and_eq_true, decide_eq_true_eq] at h2
  have hl := lst_len t
  have d1 := dec_lst (numV t p).toNat (by omega)
  rw [d1]
  have c0 := h2.2.1
  have c1l := h2.2.2.2.1
  have c1h := h2.2.2.2.2
  rw [byteAt_lst] at c0 c1l c1h
  rw [getD_drop (show p < (lst t).length by omega), getD_drop (show p + 1 < (lst t).length by omega)]
  rw [u8_eq (n := 32) c0 (by omega)]
  congr 1
  have b1 := byteAt_lst t (p + 1)
  have b2 : byteAt t (p + 2) = (((lst t).getD (p + 1 + 1) 0).toNat : Int) := byteAt_lst t (p + 2)
  cases h3 : twoB t p with
  | false =>
    have ev : numV t p = ((lst t).getD (p + 1) 0).toNat - 48 := by unfold numV; rw [h3, b1]; rfl
    have ee : numE t p = p + 1 + 1 := by unfold numE; rw [h3]; rfl
    rw [ee]
    generalize hn : (numV t p).toNat = n
    rw [if_pos (by omega), u8_eq (n := 48 + n) (c := (lst t).getD (p + 1) 0) (by omega) (by omega)]
    rfl
  | true =>
    have h4 := h3
    simp only [twoB, isD, Bool.and_eq_true, decide_eq_true_eq] at h4
    rw [b1, b2] at h4
    have ev : numV t p = 10 * (((lst t).getD (p + 1) 0).toNat - 48) + (((lst t).getD (p + 1 + 1) 0).toNat - 48) := by unfold numV; rw [h3, b1, b2]; rfl
    have ee : numE t p = p + 1 + 1 + 1 := by unfold numE; rw [h3]; rfl
    rw [ee, getD_drop (show p + 1 + 1 < (lst t).length by omega)]
    generalize hn : (numV t p).toNat = n
    rw [if_neg (by omega), u8_eq (n := 48 + n / 10) (c := (lst t).getD (p + 1) 0) (by omega) (by omega), u8_eq (n := 48 + n % 10) (c := (lst t).getD (p + 1 + 1) 0) (by omega) (by omega)]
    rfl
/-! ### the reading of the whole text -/
theorem take_all {t : ByteArray} {n : Nat} (h : t.size ≤ n) : (lst t).drop n = [] := List.drop_eq_nil_of_le (by rw [lst_len]; exact h)
theorem kOf_in {t : ByteArray} (h : kOf t ≠ 0) : ∃ j, 1 ≤ j ∧ j ≤ 10 ∧ word j = nameB t ∧ kOf t = (j : Nat) := (kindTo_le (nameB t) 10).resolve_left h
/-- What is read is a deed whose text stands there. -/
theorem read_stands {t : ByteArray} (hk : kOf t ≠ 0) (ho : okP t (kOf t) = true) : Sound (kOf t) (aP t (kOf t)) (bP t (kOf t)) ∧ txtD (kOf t) (aP t (kOf t)) (bP t (kOf t)) = t := by
  obtain ⟨j, h1, h2, hw, e⟩ := kOf_in hk
  have hn := nameB_lst t
  have hl : lst t = lst (nameB t) ++ (lst t).drop (nameB t).size := by rw [hn, List.take_append_drop]
  have hsk := sizeK_is (kOf t)
  have key : ∀ a b : Int, 0 ≤ a → a ≤ 99 → 0 ≤ b → b ≤ 99 → (sizeK (kOf t) < 2 → b = 0) → (sizeK (kOf t) < 1 → a = 0) → (lst t).drop (nameB t).size = restL (kOf t) a b → Sound (kOf t) a b ∧ txtD (kOf t) a b = t := by
    intro a b ha1 ha2 hb1 hb2 h3 h4 h5
    have hs : Sound (kOf t) a b := ⟨⟨by omega, by omega, ha1, ha2, hb1, hb2⟩, fun h => by
      rcases h with ⟨h6, h7⟩ | ⟨h6, h7⟩
      · exact h7 (h3 h6)
      · exact h7 (h4 h6)⟩
    refine ⟨hs, lst_inj ?_⟩
    rw [txt_lst hs, hl, h5, e, Int.toNat_natCast, hw]
  rcases hsk with hs | hs | hs
  · have f : okP t (kOf t) = decide (t.size ≤ (nameB t).size) := by unfold okP qOf; rw [hs]; rfl
    have fa : aP t (kOf t) = 0 := by unfold aP; rw [hs]; rfl
    have fb : bP t (kOf t) = 0 := by unfold bP; rw [hs]; rfl
    rw [f, decide_eq_true_eq] at ho
    rw [fa, fb]
    refine key 0 0 (by omega) (by omega) (by omega) (by omega) (fun _ => rfl) (fun _ => rfl) ?_
    unfold restL; rw [if_pos hs]; exact take_all ho
  · have f : okP t (kOf t) = (numOk t (nameB t).size && decide (t.size ≤ numE t (nameB t).size)) := by unfold okP qOf; rw [hs]; rfl
    have fa : aP t (kOf t) = numV t (nameB t).size := by unfold aP qOf; rw [hs]; rfl
    have fb : bP t (kOf t) = 0 := by unfold bP; rw [hs]; rfl
    rw [f, Bool.and_eq_true, decide_eq_true_eq] at ho
    rw [fa, fb]
    have hv := numV_in ho.1
    refine key _ 0 hv.1 hv.2 (by omega) (by omega) (fun _ => rfl) (fun h => by omega) ?_
    rw [num_stands ho.1, take_all ho.2]
    unfold restL; rw [if_neg (by omega), if_pos hs, List.append_nil]
  · have f : okP t (kOf t) = (numOk t (nameB t).size && (numOk t (numE t (nameB t).size) && decide (t.size ≤ numE t (numE t (nameB t).size)))) := by unfold okP qOf; rw [hs]; rfl
    have fa : aP t (kOf t) = numV t (nameB t).size := by unfold aP qOf; rw [hs]; rfl
    have fb : bP t (kOf t) = numV t (numE t (nameB t).size) := by unfold bP qOf; rw [hs]; rfl
    rw [f, Bool.and_eq_true, Bool.and_eq_true, decide_eq_true_eq] at ho
    rw [fa, fb]
    have hv := numV_in ho.1
    have hv2 := numV_in ho.2.1
    refine key _ _ hv.1 hv.2 hv2.1 hv2.2 (fun h => by omega) (fun h => by omega) ?_
    rw [num_stands ho.1, num_stands ho.2.1, take_all ho.2.2]
    unfold restL; rw [if_neg (by omega), if_neg (by omega), List.append_nil]
theorem restL_head (k a b : Int) : restL k a b = [] ∨ ∃ r, restL k a b = 32 :: r := by
  unfold restL
  split
  · exact .inl rfl
  · split
    · exact .inr ⟨_, rfl⟩
    · exact .inr ⟨_, rfl⟩
theorem kindTo_key {w : ByteArray} {j : Nat} (h1 : 1 ≤ j) (h2 : j ≤ 10) (e : word j = w) : kindTo w 10 = j := by
  have h0 : nameB w = w := nameB_of (r := []) (by simp) (by rw [← e]; exact word_no j (by omega)) (.inl rfl)
  have := kOf_key (t := w) h1 h2 (by rw [h0]; exact e)
  unfold kOf at this
  rwa [h0] at this
/-- A deed's text is read as that deed. -/
theorem stands_read {k a b : Int} (h : Sound k a b) : kOf (txtD k a b) = k ∧ okP (txtD k a b) k = true ∧ aP (txtD k a b) k = a ∧ bP (txtD k a b) k = b := by
  have hl := txt_lst h
  generalize txtD k a b = t at *
  obtain ⟨⟨h1, h2, h3, h4, h5, h6⟩, h7⟩ := h
  have hw := word_no k.toNat (by omega)
  have hn : nameB t = word k.toNat := nameB_of hl hw (restL_head k a b)
  have hk : kOf t = k := by
    have := kOf_key (t := t) (j := k.toNat) (by omega) (by omega) hn.symm
    omega
  have hq : (nameB t).size = (lst (word k.toNat)).length := by rw [hn, lst_len]
  have hsz : t.size = (lst (word k.toNat)).length + (restL k a b).length := by rw [← lst_len, hl, List.length_append]
  refine ⟨hk, ?_⟩
  rcases sizeK_is k with hs | hs | hs
  · have f : okP t k = decide (t.size ≤ (nameB t).size) := by unfold okP qOf; rw [hs]; rfl
    have fa : aP t k = 0 := by unfold aP; rw [hs]; rfl
    have fb : bP t k = 0 := by unfold bP; rw [hs]; rfl
    have hr : restL k a b = [] := by unfold restL; rw [if_pos hs]
    rw [f, fa, fb, hsz, hr, hq]
    simp
    omega
  · have f : okP t k = (numOk t (nameB t).size && decide (t.size ≤ numE t (nameB t).size)) := by unfold okP qOf; rw [hs]; rfl
    have fa : aP t k = numV t (nameB t).size := by unfold aP qOf; rw [hs]; rfl
    have fb : bP t k = 0 := by unfold bP; rw [hs]; rfl
    have hr : restL k a b = 32 :: (lst (decB a.toNat) ++ []) := by unfold restL; rw [if_neg (by omega), if_pos hs, List.append_nil]
    rw [hr] at hl hsz
    obtain ⟨g1, g2, g3⟩ := num_read h3 h4 hl (.inl rfl)
    rw [f, fa, fb, hq, g1, g2, g3, hsz]
    simp
    omega
  · have f : okP t k = (numOk t (nameB t).size && (numOk t (numE t (nameB t).size) && decide (t.size ≤ numE t (numE t (nameB t).size)))) := by unfold okP qOf; rw [hs]; rfl
    have fa : aP t k = numV t (nameB t).size := by unfold aP qOf; rw [hs]; rfl
    have fb : bP t k = numV t (numE t (nameB t).size) := by unfold bP qOf; rw [hs]; rfl
    have hr : restL k a b = 32 :: (lst (decB a.toNat) ++ 32 :: (lst (decB b.toNat) ++ [])) := by unfold restL; rw [if_neg (by omega), if_neg (by omega), List.append_nil]
    rw [hr] at hl hsz
    obtain ⟨g1, g2, g3⟩ := num_read h3 h4 hl (.inr ⟨_, rfl⟩)
    have hl2 : lst t = (lst (word k.toNat) ++ 32 :: lst (decB a.toNat)) ++ 32 :: (lst (decB b.toNat) ++ []) := by rw [hl]; simp
    obtain ⟨k1, k2, k3⟩ := num_read h5 h6 hl2 (.inl rfl)
    have hlen : (lst (word k.toNat) ++ 32 :: lst (decB a.toNat)).length = (lst (word k.toNat)).length + 1 + (lst (decB a.toNat)).length := by simp; omega
    rw [hlen] at k1 k2 k3
    rw [f, fa, fb, hq, g1, g2, g3, k1, k2, k3, hsz]
    simp
    omega
end E
end Go.Proofs.YtbjapgekagljeaaDoor
