/- Texts of deeds as lists of letters; two deeds are the same just if their texts are. Plain theory. -/
import Derived.Test.YtbjapgekagljeaaDoorS1
namespace Go.Proofs.YtbjapgekagljeaaDoor
namespace E
def lst (b : ByteArray) : List UInt8 := b.data.toList
theorem lst_app (a b : ByteArray) : lst (a ++ b) = lst a ++ lst b := by simp [lst]
theorem lst_blank : lst blank = [32] := rfl
theorem lst_inj {a b : ByteArray} (h : lst a = lst b) : a = b := ByteArray.ext (Array.toList_inj.1 h)
theorem word_no : ∀ k, k < 11 → (32 : UInt8) ∉ lst (word k) := by decide +kernel
theorem word_inj : ∀ k, k < 11 → ∀ l, l < 11 → 1 ≤ k → 1 ≤ l → word k = word l → k = l := by decide +kernel
theorem word_ne : ∀ k, k < 11 → 1 ≤ k → lst (word k) ≠ [] := by decide +kernel
theorem dec_no : ∀ n, n < 100 → (32 : UInt8) ∉ lst (decB n) := by decide +kernel
theorem dec_inj : ∀ n, n < 100 → ∀ m, m < 100 → decB n = decB m → n = m := by decide +kernel
theorem cut_at {l r : List UInt8} (h : (32 : UInt8) ∉ l) : (l ++ 32 :: r).takeWhile (· != 32) = l := by
  rw [List.takeWhile_append_of_pos (fun x hx => by simp; rintro rfl; exact h hx)]
  simp
theorem cut_all {l : List UInt8} (h : (32 : UInt8) ∉ l) : l.takeWhile (· != 32) = l := by
  have := List.takeWhile_append_of_pos (p := fun x : UInt8 => x != 32) (l₁ := l) (l₂ := []) (fun x hx => by simp; rintro rfl; exact h hx)
  simpa using this
/-- A deed that has a text. -/
def Sound (k a b : Int) : Prop := (1 ≤ k ∧ k ≤ 10 ∧ 0 ≤ a ∧ a ≤ 99 ∧ 0 ≤ b ∧ b ≤ 99) ∧ ¬ ((sizeK k < 2 ∧ b ≠ 0) ∨ (sizeK k < 1 ∧ a ≠ 0))
def restL (k a b : Int) : List UInt8 := if sizeK k = 0 then [] else if sizeK k = 1 then 32 :: lst (decB a.toNat) else 32 :: (lst (decB a.toNat) ++ 32 :: lst (decB b.toNat))
theorem sound_of {k a b : Int} (h : txtD k a b ≠ ByteArray.mk #[]) : Sound k a b := by
  unfold txtD at h
  split at h
  · exact absurd rfl h
  · rename_i h1
    split at h
    · exact absurd rfl h
    · rename_i h2
      exact ⟨Classical.not_not.1 h1, h2⟩
theorem txt_lst {k a b : Int} (h : Sound k a b) : lst (txtD k a b) = lst (word k.toNat) ++ restL k a b := by
  unfold txtD restL
  rw [if_neg (fun h1 => h1 h.1), if_neg h.2]
  split
  · simp
  · split
    · rw [lst_app, lst_app, lst_blank]; simp
    · rw [lst_app, lst_app, lst_app, lst_app, lst_blank]; simp
theorem txt_cut {k a b : Int} (h : Sound k a b) : (lst (txtD k a b)).takeWhile (· != 32) = lst (word k.toNat) := by
  rw [txt_lst h]
  have hw := word_no k.toNat (by have := h.1; omega)
  unfold restL
  split
  · rw [List.append_nil]; exact cut_all hw
  · split
    · exact cut_at hw
    · exact cut_at hw
theorem txt_inj {k a b k' a' b' : Int} (h : Sound k a b) (h' : Sound k' a' b') (e : txtD k a b = txtD k' a' b') : k = k' ∧ a = a' ∧ b = b' := by
  have hk : k = k' := by
    have h1 := txt_cut h
    rw [e, txt_cut h'] at h1
    have h2 := word_inj k.toNat (by have := h.1; omega) k'.toNat (by have := h'.1; omega) (by have := h.1; omega) (by have := h'.1; omega) (lst_inj h1.symm)
    have := h.1; have := h'.1; omega
  subst hk
  have h1 := txt_lst h
  rw [e, txt_lst h'] at h1
  have h1 := List.append_cancel_left h1
  have hs := h.1
  have hs' := h'.1
  have hn := h.2
  have hn' := h'.2
  have key : ∀ x y : Int, 0 ≤ x → x ≤ 99 → 0 ≤ y → y ≤ 99 → lst (decB x.toNat) = lst (decB y.toNat) → x = y := fun x y h1 h2 h3 h4 h5 => by
    have := dec_inj x.toNat (by omega) y.toNat (by omega) (lst_inj h5)
    omega
  unfold restL at h1
  rcases sizeK_is k with e | e | e
  · omega
  · rw [e] at h1
    simp at h1
    have := key a a' (by omega) (by omega) (by omega) (by omega) h1.symm
    omega
  · rw [e] at h1
    simp at h1
    have h2 := congrArg (List.takeWhile (· != 32)) h1
    rw [cut_at (dec_no _ (by omega)), cut_at (dec_no _ (by omega))] at h2
    rw [h2] at h1
    have h3 := List.append_cancel_left h1
    simp at h3
    exact ⟨rfl, key a a' (by omega) (by omega) (by omega) (by omega) h2.symm, key b b' (by omega) (by omega) (by omega) (by omega) h3.symm⟩
end E
end Go.Proofs.YtbjapgekagljeaaDoor
