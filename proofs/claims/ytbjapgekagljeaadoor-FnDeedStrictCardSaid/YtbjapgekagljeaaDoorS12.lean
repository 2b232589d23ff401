/- The law that a deed has just one text. -/
import Derived.Test.YtbjapgekagljeaaDoorE17
import Derived.Test.YtbjapgekagljeaaDoorProg
import Derived.Test.YtbjapgekagljeaaDoorS7
import Derived.Test.YtbjapgekagljeaaDoorS2
import Derived.Test.YtbjapgekagljeaaDoorS10
namespace Go.Proofs.YtbjapgekagljeaaDoor
open Go Go.RowKit
namespace E

set_option maxRecDepth 100000 in
theorem lDeedStrict_vc (ds : List Dat) :
    ds.length ≤ (140737488355328 : Nat) →
      (-9223372036854775808 : Int) ≤ (↑ds.length : Int) ∧ (↑ds.length : Int) ≤ (9223372036854775807 : Int) →
        (decide ((↑ds.length : Int) > (1048576 : Int)) = true → True) ∧
          (decide ((↑ds.length : Int) > (1048576 : Int)) = false →
            True ∧
              ∀ (x : ByteArray),
                x.size ≤ (40 : Nat) →
                  x.size ≤ (2000000 : Nat) ∧
                    True ∧
                      ((decide (okD x = okD x) = true →
                            ((decide ((readD x).fst = (readD x).fst) &&
                                    (decide ((readD x).snd.fst = (readD x).snd.fst) &&
                                      (decide ((readD x).snd.snd = (readD x).snd.snd) && true))) =
                                  true →
                                ((!okD x) = true →
                                    ((decide ((readD x).fst = (0 : Int)) &&
                                            (decide ((readD x).snd.fst = (0 : Int)) &&
                                              (decide ((readD x).snd.snd = (0 : Int)) && true))) =
                                          false →
                                        (okD x = true → True) ∧ True) ∧
                                      True) ∧
                                  ((!okD x) = !true → (okD x = true → True) ∧ True)) ∧
                              True) ∧
                          True) ∧
                        (decide (okD x = okD x) &&
                            (decide ((readD x).fst = (readD x).fst) &&
                                (decide ((readD x).snd.fst = (readD x).snd.fst) &&
                                  (decide ((readD x).snd.snd = (readD x).snd.snd) && true)) &&
                              bif !okD x then
                                decide ((readD x).fst = (0 : Int)) &&
                                    (decide ((readD x).snd.fst = (0 : Int)) &&
                                      (decide ((readD x).snd.snd = (0 : Int)) && true)) ||
                                  okD x && decide (txtD (readD x).fst (readD x).snd.fst (readD x).snd.snd = x)
                              else okD x && decide (txtD (readD x).fst (readD x).snd.fst (readD x).snd.snd = x))) =
                          true) := by
  intro _ _
  refine ⟨fun _ => trivial, fun _ => ⟨trivial, fun x hx => ⟨by omega, trivial, ?_, ?_⟩⟩⟩
  · simp
  · cases h : okD x with
    | true =>
      have ht : txtD (readD x).1 (readD x).2.1 (readD x).2.2 = x := by
        unfold readD
        rw [if_pos h]
        have h2 : ¬ badD x (rawD x).1 (rawD x).2.1 (rawD x).2.2 = true := by unfold okD at h; simpa using h
        simp only [badD, Bool.or_eq_true, decide_eq_true_eq, not_or, Classical.not_not] at h2
        exact h2.2.2
      rw [ht]
      simp
    | false =>
      rw [readD_no h]
      simp
set_option maxRecDepth 100000 in
theorem lDeedStrict_fn (ds : List Dat) : Fn Tryd.prog 6 [.sl (.int .u8) ds] none Unit (fun _ => True) (fun _ => .tt) (fun _ => none) := by
  refine fn_ok0 (ct := [drawRead_con, sDeedRead_con, iDeedRead_con, iDeedText_con]) (L := fun _ => none) (by kernel_rfl) Tryd.func6 rfl ?_
  have h := lDeedStrict_vc ds
  apply VC.thru h
  kernel_rfl
noncomputable def lDeedStrict_get (ins : List SV) (bs : Option (TypeId × List SV)) : Option Got :=
  match ins, bs with
  | [.sl (.int .u8) _], none => some (True, .tt, none)
  | _, _ => none
theorem lDeedStrict_ok : ∀ ins bs p out bs', lDeedStrict_get ins bs = some (p, out, bs') → p → Fn Tryd.prog 6 ins bs Unit (fun _ => True) (fun _ => out) (fun _ => bs') := by
  intro ins bs p out bs' h hp
  unfold lDeedStrict_get at h
  split at h
  · cases h; exact lDeedStrict_fn _
  · cases h
noncomputable def lDeedStrict_con : Con Tryd.prog := .f0 6 lDeedStrict_get (enters Tryd.func6 (by kernel_rfl) rfl) lDeedStrict_ok
end E
end Go.Proofs.YtbjapgekagljeaaDoor
