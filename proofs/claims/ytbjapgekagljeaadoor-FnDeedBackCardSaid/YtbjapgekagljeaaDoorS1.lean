/- The reference's DeedText: what it returns, whatever the deed. -/
import Derived.Test.YtbjapgekagljeaaDoorE17
import Derived.Test.YtbjapgekagljeaaDoorProg
import Derived.Test.YtbjapgekagljeaaDoorS0
namespace Go.Proofs.YtbjapgekagljeaaDoor
open Go Go.RowKit
namespace E

/-- A deed's text. -/
def blank : ByteArray := ByteArray.mk #[32]
def txtD (k a b : Int) : ByteArray :=
  if ¬ (1 ≤ k ∧ k ≤ 10 ∧ 0 ≤ a ∧ a ≤ 99 ∧ 0 ≤ b ∧ b ≤ 99) then ByteArray.mk #[]
  else if (sizeK k < 2 ∧ b ≠ 0) ∨ (sizeK k < 1 ∧ a ≠ 0) then ByteArray.mk #[]
  else if sizeK k = 0 then word k.toNat
  else if sizeK k = 1 then word k.toNat ++ blank ++ decB a.toNat
  else word k.toNat ++ blank ++ decB a.toNat ++ blank ++ decB b.toNat
theorem sizeK_is (k : Int) : sizeK k = 0 ∨ sizeK k = 1 ∨ sizeK k = 2 := by
  unfold sizeK
  split
  · simp
  · split <;> simp
theorem word_size (k : Nat) : (word k).size ≤ 6 := by
  unfold word; split <;> decide
theorem txtD_size (k a b : Int) : (txtD k a b).size ≤ 12 := by
  have hw := word_size k.toNat
  unfold txtD
  split
  · exact Nat.zero_le _
  · rename_i h
    have h1 := decB_small a.toNat (by omega)
    have h3 := decB_small b.toNat (by omega)
    have hb : blank.size = 1 := rfl
    repeat' split
    all_goals first
      | exact Nat.zero_le _
      | omega
      | (simp only [ByteArray.size_append, hb]; omega)
set_option maxRecDepth 100000 in
theorem sDeedText_vc (k a b : Int) :
    ((-9223372036854775808 : Int) ≤ k ∧ k ≤ (9223372036854775807 : Int) →
        True ∧
          ((!(decide ((1 : Int) ≤ k) && decide (k ≤ (10 : Int)))) = false →
              (-9223372036854775808 : Int) ≤ a ∧ a ≤ (9223372036854775807 : Int) →
                True ∧
                  ((!(decide ((0 : Int) ≤ a) && decide (a ≤ (99 : Int)))) = false →
                      (-9223372036854775808 : Int) ≤ b ∧ b ≤ (9223372036854775807 : Int) → True) ∧
                    True) ∧
            True) ∧
      ((!(decide ((1 : Int) ≤ k) && decide (k ≤ (10 : Int))) ||
              (!(decide ((0 : Int) ≤ a) && decide (a ≤ (99 : Int))) ||
                !(decide ((0 : Int) ≤ b) && decide (b ≤ (99 : Int))))) =
            true →
          ByteArray.mk #[] = txtD k a b) ∧
        ((!(decide ((1 : Int) ≤ k) && decide (k ≤ (10 : Int))) ||
              (!(decide ((0 : Int) ≤ a) && decide (a ≤ (99 : Int))) ||
                !(decide ((0 : Int) ≤ b) && decide (b ≤ (99 : Int))))) =
            false →
          (-9223372036854775808 : Int) ≤ k ∧ k ≤ (9223372036854775807 : Int) →
            True ∧
              ((bif decide (sizeK k < (2 : Int)) then
                      decide (b ≠ (0 : Int)) || decide (sizeK k < (1 : Int)) && decide (a ≠ (0 : Int))
                    else decide (sizeK k < (1 : Int)) && decide (a ≠ (0 : Int))) =
                    true →
                  ByteArray.mk #[] = txtD k a b) ∧
                ((bif decide (sizeK k < (2 : Int)) then
                      decide (b ≠ (0 : Int)) || decide (sizeK k < (1 : Int)) && decide (a ≠ (0 : Int))
                    else decide (sizeK k < (1 : Int)) && decide (a ≠ (0 : Int))) =
                    false →
                  True ∧
                    ((-9223372036854775808 : Int) ≤ k ∧ k ≤ (9223372036854775807 : Int) →
                      ((0 : Int) ≤ k ∧ k < (↑namesD.length : Int)) ∧
                        (decide (sizeK k > (0 : Int)) = true →
                            (namesD.getD k.toNat default).toStr.size + (ByteArray.mk #[(32 : UInt8)]).size ≤
                                (140737488351232 : Nat) ∧
                              ((-9223372036854775808 : Int) ≤ a ∧ a ≤ (9223372036854775807 : Int) →
                                (0 : Int) ≤ a ∧
                                  ((namesD.getD k.toNat default).toStr ++ ByteArray.mk #[(32 : UInt8)]).size +
                                        (decB a.toNat).size ≤
                                      (140737488351232 : Nat) ∧
                                    (decide (sizeK k > (1 : Int)) = true →
                                        ((namesD.getD k.toNat default).toStr ++ ByteArray.mk #[(32 : UInt8)] ++
                                                  decB a.toNat).size +
                                              (ByteArray.mk #[(32 : UInt8)]).size ≤
                                            (140737488351232 : Nat) ∧
                                          ((-9223372036854775808 : Int) ≤ b ∧ b ≤ (9223372036854775807 : Int) →
                                            (0 : Int) ≤ b ∧
                                              ((namesD.getD k.toNat default).toStr ++ ByteArray.mk #[(32 : UInt8)] ++
                                                          decB a.toNat ++
                                                        ByteArray.mk #[(32 : UInt8)]).size +
                                                    (decB b.toNat).size ≤
                                                  (140737488351232 : Nat) ∧
                                                (namesD.getD k.toNat default).toStr ++ ByteArray.mk #[(32 : UInt8)] ++
                                                        decB a.toNat ++
                                                      ByteArray.mk #[(32 : UInt8)] ++
                                                    decB b.toNat =
                                                  txtD k a b)) ∧
                                      (decide (sizeK k > (1 : Int)) = false →
                                        (namesD.getD k.toNat default).toStr ++ ByteArray.mk #[(32 : UInt8)] ++
                                            decB a.toNat =
                                          txtD k a b))) ∧
                          (decide (sizeK k > (0 : Int)) = false →
                            (decide (sizeK k > (1 : Int)) = true →
                                (namesD.getD k.toNat default).toStr.size + (ByteArray.mk #[(32 : UInt8)]).size ≤
                                    (140737488351232 : Nat) ∧
                                  ((-9223372036854775808 : Int) ≤ b ∧ b ≤ (9223372036854775807 : Int) →
                                    (0 : Int) ≤ b ∧
                                      ((namesD.getD k.toNat default).toStr ++ ByteArray.mk #[(32 : UInt8)]).size +
                                            (decB b.toNat).size ≤
                                          (140737488351232 : Nat) ∧
                                        (namesD.getD k.toNat default).toStr ++ ByteArray.mk #[(32 : UInt8)] ++
                                            decB b.toNat =
                                          txtD k a b)) ∧
                              (decide (sizeK k > (1 : Int)) = false → (namesD.getD k.toNat default).toStr = txtD k a b))))) := by
  refine ⟨fun _ => ⟨trivial, fun _ _ => ⟨trivial, fun _ _ => trivial, trivial⟩, trivial⟩, fun h => ?_, fun h _ => ⟨trivial, fun h2 => ?_, fun h2 => ⟨trivial, fun _ => ?_⟩⟩⟩
  · unfold txtD
    rw [if_pos (by simp at h; omega)]
  · unfold txtD
    rw [if_neg (by simp at h; omega), if_pos]
    have := sizeK_is k
    rcases this with e | e | e <;> simp [e] at h2 ⊢ <;> omega
  · simp only [namesD_at]
    have hin : 1 ≤ k ∧ k ≤ 10 ∧ 0 ≤ a ∧ a ≤ 99 ∧ 0 ≤ b ∧ b ≤ 99 := by simp at h; omega
    have e : ¬ ((sizeK k < 2 ∧ b ≠ 0) ∨ (sizeK k < 1 ∧ a ≠ 0)) := by
      have := sizeK_is k
      rcases this with e | e | e <;> simp [e] at h2 ⊢ <;> omega
    have ht : txtD k a b = if sizeK k = 0 then word k.toNat else if sizeK k = 1 then word k.toNat ++ blank ++ decB a.toNat else word k.toNat ++ blank ++ decB a.toNat ++ blank ++ decB b.toNat := by
      unfold txtD; rw [if_neg (by omega), if_neg e]
    rw [ht]
    have hw := word_size k.toNat
    have h1 := decB_small a.toNat (by omega)
    have h3 := decB_small b.toNat (by omega)
    have hl : namesD.length = 11 := rfl
    have hb : (ByteArray.mk #[32]).size = 1 := rfl
    simp only [ByteArray.size_append, hb, hl]
    have := sizeK_is k
    rcases this with e | e | e <;> simp [e, blank] <;> omega
set_option maxRecDepth 100000 in
theorem sDeedText_fn (k a b : Int) : Fn Tryd.prog 7 [.agg [.int .i64 k, .int .i64 a, .int .i64 b]] none Unit (fun _ => True) (fun _ => .str (txtD k a b)) (fun _ => none) := by
  refine fn_ok0 (ct := [l6In_con, l31Size_con, l31Names_con, l6Dec_con]) (L := fun _ => none) (by kernel_rfl) Tryd.func7 rfl ?_
  have h := sDeedText_vc k a b
  apply VC.thru h
  kernel_rfl
noncomputable def sDeedText_get (ins : List SV) (bs : Option (TypeId × List SV)) : Option Got :=
  match ins, bs with
  | [.agg [.int .i64 k, .int .i64 a, .int .i64 b]], none => some (True, .str (txtD k a b), none)
  | _, _ => none
theorem sDeedText_ok : ∀ ins bs p out bs', sDeedText_get ins bs = some (p, out, bs') → p → Fn Tryd.prog 7 ins bs Unit (fun _ => True) (fun _ => out) (fun _ => bs') := by
  intro ins bs p out bs' h hp
  unfold sDeedText_get at h
  split at h
  · cases h; exact sDeedText_fn _ _ _
  · cases h
noncomputable def sDeedText_con : Con Tryd.prog := .f0 7 sDeedText_get (enters Tryd.func7 (by kernel_rfl) rfl) sDeedText_ok
end E
end Go.Proofs.YtbjapgekagljeaaDoor
