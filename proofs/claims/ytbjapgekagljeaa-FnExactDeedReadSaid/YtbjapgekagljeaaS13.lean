/- The law that both readings of a deed are one. -/
import Derived.Test.YtbjapgekagljeaaE17
import Derived.Test.YtbjapgekagljeaaProg
import Derived.Test.YtbjapgekagljeaaS10
namespace Go.Proofs.Ytbjapgekagljeaa
open Go Go.RowKit
namespace E

set_option maxRecDepth 100000 in
theorem eqDeed_vc (a b c d e f : Int) :
    (-9223372036854775808 : Int) ≤ a ∧ a ≤ (9223372036854775807 : Int) →
      (-9223372036854775808 : Int) ≤ d ∧ d ≤ (9223372036854775807 : Int) →
        (decide (a ≠ d) = true → (decide (a = d) && (decide (b = e) && decide (c = f))) = false) ∧
          (decide (a ≠ d) = false →
            (-9223372036854775808 : Int) ≤ b ∧ b ≤ (9223372036854775807 : Int) →
              (-9223372036854775808 : Int) ≤ e ∧ e ≤ (9223372036854775807 : Int) →
                (decide (b ≠ e) = true → (decide (a = d) && (decide (b = e) && decide (c = f))) = false) ∧
                  (decide (b ≠ e) = false →
                    (-9223372036854775808 : Int) ≤ c ∧ c ≤ (9223372036854775807 : Int) →
                      (-9223372036854775808 : Int) ≤ f ∧ f ≤ (9223372036854775807 : Int) →
                        (decide (c ≠ f) = true → (decide (a = d) && (decide (b = e) && decide (c = f))) = false) ∧
                          (decide (c ≠ f) = false → (decide (a = d) && (decide (b = e) && decide (c = f))) = true))) := by
  grind
set_option maxRecDepth 100000 in
theorem eqDeed_fn (a b c d e f : Int) : Fn Try.prog 6 [.agg [.int .i64 a, .int .i64 b, .int .i64 c], .agg [.int .i64 d, .int .i64 e, .int .i64 f]] none Unit (fun _ => True) (fun _ => .bool (decide (a = d) && (decide (b = e) && decide (c = f)))) (fun _ => none) := by
  refine fn_ok0 (ct := []) (L := fun _ => none) (by kernel_rfl) Try.func6 rfl ?_
  have h := eqDeed_vc a b c d e f
  apply VC.thru h
  kernel_rfl
noncomputable def eqDeed_get (ins : List SV) (bs : Option (TypeId × List SV)) : Option Got :=
  match ins, bs with
  | [.agg [.int .i64 a, .int .i64 b, .int .i64 c], .agg [.int .i64 d, .int .i64 e, .int .i64 f]], none => some (True, .bool (decide (a = d) && (decide (b = e) && decide (c = f))), none)
  | _, _ => none
theorem eqDeed_ok : ∀ ins bs p out bs', eqDeed_get ins bs = some (p, out, bs') → p → Fn Try.prog 6 ins bs Unit (fun _ => True) (fun _ => out) (fun _ => bs') := by
  intro ins bs p out bs' h hp
  unfold eqDeed_get at h
  split at h
  · cases h; exact eqDeed_fn _ _ _ _ _ _
  · cases h
noncomputable def eqDeed_con : Con Try.prog := .f0 6 eqDeed_get (enters Try.func6 (by kernel_rfl) rfl) eqDeed_ok
set_option maxRecDepth 100000 in
theorem lDeedRead_vc (t : ByteArray) :
    t.size ≤ (140737488351232 : Nat) →
      (-9223372036854775808 : Int) ≤ (↑t.size : Int) ∧ (↑t.size : Int) ≤ (9223372036854775807 : Int) →
        (decide ((↑t.size : Int) > (1048576 : Int)) = true → True) ∧
          (decide ((↑t.size : Int) > (1048576 : Int)) = false →
            t.size ≤ (2000000 : Nat) ∧
              True ∧
                True ∧
                  ((!(decide ((readD t).fst = (readD t).fst) &&
                              (decide ((readD t).snd.fst = (readD t).snd.fst) &&
                                decide ((readD t).snd.snd = (readD t).snd.snd))) ||
                          decide (okD t ≠ okD t)) =
                        true →
                      False) ∧
                    ((!(decide ((readD t).fst = (readD t).fst) &&
                              (decide ((readD t).snd.fst = (readD t).snd.fst) &&
                                decide ((readD t).snd.snd = (readD t).snd.snd))) ||
                          decide (okD t ≠ okD t)) =
                        false →
                      True)) := by
  exact fun _ _ => ⟨fun _ => trivial, fun h => ⟨by simp at h; omega, trivial, trivial, by simp, fun _ => trivial⟩⟩
set_option maxRecDepth 100000 in
theorem lDeedRead_fn (t : ByteArray) : Fn Try.prog 3 [.str t] none Unit (fun _ => True) (fun _ => .tt) (fun _ => none) := by
  refine fn_ok0 (ct := [sDeedRead_con, iDeedRead_con, eqDeed_con]) (L := fun _ => none) (by kernel_rfl) Try.func3 rfl ?_
  have h := lDeedRead_vc t
  apply VC.thru h
  kernel_rfl
noncomputable def lDeedRead_get (ins : List SV) (bs : Option (TypeId × List SV)) : Option Got :=
  match ins, bs with
  | [.str _], none => some (True, .tt, none)
  | _, _ => none
theorem lDeedRead_ok : ∀ ins bs p out bs', lDeedRead_get ins bs = some (p, out, bs') → p → Fn Try.prog 3 ins bs Unit (fun _ => True) (fun _ => out) (fun _ => bs') := by
  intro ins bs p out bs' h hp
  unfold lDeedRead_get at h
  split at h
  · cases h; exact lDeedRead_fn _
  · cases h
noncomputable def lDeedRead_con : Con Try.prog := .f0 3 lDeedRead_get (enters Try.func3 (by kernel_rfl) rfl) lDeedRead_ok
end E
end Go.Proofs.Ytbjapgekagljeaa
