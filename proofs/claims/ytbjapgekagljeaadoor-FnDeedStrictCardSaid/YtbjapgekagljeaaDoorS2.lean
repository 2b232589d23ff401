/- The deed's text: the program's, the reference's, and the law on both. -/
import Derived.Test.YtbjapgekagljeaaDoorE17
import Derived.Test.YtbjapgekagljeaaDoorProg
import Derived.Test.YtbjapgekagljeaaDoorS1
import Derived.Test.YtbjapgekagljeaaDoorD2
namespace Go.Proofs.YtbjapgekagljeaaDoor
open Go Go.RowKit
namespace E

set_option maxRecDepth 100000 in
theorem toDeed_vc (k a b : Int) :
    (-9223372036854775808 : Int) ≤ k ∧ k ≤ (9223372036854775807 : Int) →
      (-9223372036854775808 : Int) ≤ a ∧ a ≤ (9223372036854775807 : Int) →
        (-9223372036854775808 : Int) ≤ b ∧ b ≤ (9223372036854775807 : Int) → k = k ∧ a = a ∧ b = b := by
  exact fun _ _ _ => ⟨rfl, rfl, rfl⟩
set_option maxRecDepth 100000 in
theorem toDeed_fn (k a b : Int) : Fn Tryd.prog 8 [.agg [.int .i64 k, .int .i64 a, .int .i64 b]] none Unit (fun _ => True) (fun _ => .agg [.int .i64 k, .int .i64 a, .int .i64 b]) (fun _ => none) := by
  refine fn_ok0 (ct := []) (L := fun _ => none) (by kernel_rfl) Tryd.func8 rfl ?_
  have h := toDeed_vc k a b
  apply VC.thru h
  kernel_rfl
noncomputable def toDeed_get (ins : List SV) (bs : Option (TypeId × List SV)) : Option Got :=
  match ins, bs with
  | [.agg [.int .i64 k, .int .i64 a, .int .i64 b]], none => some (True, .agg [.int .i64 k, .int .i64 a, .int .i64 b], none)
  | _, _ => none
theorem toDeed_ok : ∀ ins bs p out bs', toDeed_get ins bs = some (p, out, bs') → p → Fn Tryd.prog 8 ins bs Unit (fun _ => True) (fun _ => out) (fun _ => bs') := by
  intro ins bs p out bs' h hp
  unfold toDeed_get at h
  split at h
  · cases h; exact toDeed_fn _ _ _
  · cases h
noncomputable def toDeed_con : Con Tryd.prog := .f0 8 toDeed_get (enters Tryd.func8 (by kernel_rfl) rfl) toDeed_ok
theorem word_name (k : Int) (h1 : 1 ≤ k) (h2 : k ≤ 10) : word k.toNat = ⟨(D0.name k).toArray⟩ := by
  have h : k = 1 ∨ k = 2 ∨ k = 3 ∨ k = 4 ∨ k = 5 ∨ k = 6 ∨ k = 7 ∨ k = 8 ∨ k = 9 ∨ k = 10 := by omega
  rcases h with rfl | rfl | rfl | rfl | rfl | rfl | rfl | rfl | rfl | rfl <;> rfl
theorem sizeK_size (k : Int) (h1 : 1 ≤ k) (h2 : k ≤ 10) : sizeK k = D0.size k := by
  have h : k = 1 ∨ k = 2 ∨ k = 3 ∨ k = 4 ∨ k = 5 ∨ k = 6 ∨ k = 7 ∨ k = 8 ∨ k = 9 ∨ k = 10 := by omega
  rcases h with rfl | rfl | rfl | rfl | rfl | rfl | rfl | rfl | rfl | rfl <;> rfl
theorem part_dec (x : Int) : (⟨(D2.part x).toArray⟩ : ByteArray) = blank ++ decB x.toNat := by
  apply ByteArray.ext; simp [D2.part, blank, decB]
theorem mk_app (l m : List UInt8) : (⟨(l ++ m).toArray⟩ : ByteArray) = ⟨l.toArray⟩ ++ ⟨m.toArray⟩ := by apply ByteArray.ext; simp
theorem txt_txtD (k a b : Int) : (⟨(D2.txt k a b).toArray⟩ : ByteArray) = txtD k a b := by
  unfold D2.txt txtD
  by_cases hk : k < 1 ∨ 10 < k
  · rw [if_pos hk, if_pos (by omega)]
  · rw [if_neg hk]
    have h1 : 1 ≤ k := by omega
    have h2 : k ≤ 10 := by omega
    have hs := sizeK_size k h1 h2
    have hw := word_name k h1 h2
    rw [← hs]
    have h3 := sizeK_is k
    by_cases h0 : D2.bad 0 (sizeK k) a = true
    · rw [if_pos h0]
      simp only [D2.bad, Bool.or_eq_true, Bool.and_eq_true, decide_eq_true_eq, bne_iff_ne, ne_eq] at h0
      split
      · rfl
      · rw [if_pos (by omega)]
    · rw [if_neg h0]
      by_cases h4 : D2.bad 1 (sizeK k) b = true
      · rw [if_pos h4]
        simp only [D2.bad, Bool.or_eq_true, Bool.and_eq_true, decide_eq_true_eq, bne_iff_ne, ne_eq] at h4
        split
        · rfl
        · rw [if_pos (by omega)]
      · rw [if_neg h4]
        simp only [D2.bad, Bool.or_eq_true, Bool.and_eq_true, decide_eq_true_eq, bne_iff_ne, ne_eq] at h0 h4
        refine Eq.trans ?_ (if_neg (by omega)).symm
        refine Eq.trans ?_ (if_neg (by omega)).symm
        rw [hw]
        rcases h3 with e | e | e <;> simp [e, mk_app, part_dec, ByteArray.append_assoc]
theorem iDeedText_fn (k a b : Int) : Fn Tryd.prog 9 [.agg [.int .i64 k, .int .i64 a, .int .i64 b]] none Unit (fun _ => True) (fun _ => .str (txtD k a b)) (fun _ => none) := by
  rintro S B w vs hS hB hlen hbox ⟨v, vs', rfl, ⟨us, rfl, hu⟩, hvs'⟩
  have hvs' : vs' = [] := hvs'
  subst hvs'
  obtain ⟨u1, _, rfl, ⟨rfl, hk⟩, u2, _, rfl, ⟨rfl, ha⟩, u3, _, rfl, ⟨rfl, hb⟩, rfl⟩ := hu
  have hB0 : B = [] := by cases B <;> simp at hlen ⊢
  subst hB0
  have key : Calls Tryd.prog 9 #[.agg #[.int .i64 k, .int .i64 a, .int .i64 b]] w (D0.Gives (.string (txtD k a b)) w) := by
    rw [← txt_txtD]
    by_cases h : k < 1 ∨ 10 < k
    · have := D2.text_no k a b w h
      have e : D2.txt k a b = [] := by unfold D2.txt; rw [if_pos h]
      rw [e]; exact this
    · exact D2.text_yes k a b w (by omega) (by omega)
  refine key.mono ?_
  rintro e w' ⟨rfl, h⟩
  refine ⟨(), _, rfl, trivial, ⟨h.os, h.tape, h.output, h.size, fun b hb _ => h.block b hb⟩, ⟨rfl, ?_⟩, rfl, fun p hp => by cases hp⟩
  have := txtD_size k a b
  omega
noncomputable def iDeedText_get (ins : List SV) (bs : Option (TypeId × List SV)) : Option Got :=
  match ins, bs with
  | [.agg [.int .i64 k, .int .i64 a, .int .i64 b]], none => some (True, .str (txtD k a b), none)
  | _, _ => none
theorem iDeedText_ok : ∀ ins bs p out bs', iDeedText_get ins bs = some (p, out, bs') → p → Fn Tryd.prog 9 ins bs Unit (fun _ => True) (fun _ => out) (fun _ => bs') := by
  intro ins bs p out bs' h hp
  unfold iDeedText_get at h
  split at h
  · cases h; exact iDeedText_fn _ _ _
  · cases h
noncomputable def iDeedText_con : Con Tryd.prog := .f0 9 iDeedText_get (enters Tryd.func9 (by kernel_rfl) rfl) iDeedText_ok
set_option maxRecDepth 100000 in
theorem lDeedText_vc (k a b : Int) :
    True ∧
      True ∧
        True ∧ True ∧ (decide (txtD k a b ≠ txtD k a b) = true → False) ∧ (decide (txtD k a b ≠ txtD k a b) = false → True) := by
  simp
set_option maxRecDepth 100000 in
theorem lDeedText_fn (k a b : Int) : Fn Tryd.prog 3 [.agg [.int .i64 k, .int .i64 a, .int .i64 b]] none Unit (fun _ => True) (fun _ => .tt) (fun _ => none) := by
  refine fn_ok0 (ct := [toDeed_con, sDeedText_con, iDeedText_con]) (L := fun _ => none) (by kernel_rfl) Tryd.func3 rfl ?_
  have h := lDeedText_vc k a b
  apply VC.thru h
  kernel_rfl
noncomputable def lDeedText_get (ins : List SV) (bs : Option (TypeId × List SV)) : Option Got :=
  match ins, bs with
  | [.agg [.int .i64 _, .int .i64 _, .int .i64 _]], none => some (True, .tt, none)
  | _, _ => none
theorem lDeedText_ok : ∀ ins bs p out bs', lDeedText_get ins bs = some (p, out, bs') → p → Fn Tryd.prog 3 ins bs Unit (fun _ => True) (fun _ => out) (fun _ => bs') := by
  intro ins bs p out bs' h hp
  unfold lDeedText_get at h
  split at h
  · cases h; exact lDeedText_fn _ _ _
  · cases h
noncomputable def lDeedText_con : Con Tryd.prog := .f0 3 lDeedText_get (enters Tryd.func3 (by kernel_rfl) rfl) lDeedText_ok
end E
end Go.Proofs.YtbjapgekagljeaaDoor
