/- The law that a deed is read back from its text. -/
import Derived.Test.YtbjapgekagljeaaDoorE17
import Derived.Test.YtbjapgekagljeaaDoorProg
import Derived.Test.YtbjapgekagljeaaDoorS6
import Derived.Test.YtbjapgekagljeaaDoorS10
namespace Go.Proofs.YtbjapgekagljeaaDoor
open Go Go.RowKit
namespace E

theorem sound_read {k a b : Int} (h : Sound k a b) : okD (txtD k a b) = true ∧ readD (txtD k a b) = (k, a, b) := by
  obtain ⟨h1, h2, h3, h4⟩ := stands_read h
  have hs : (txtD k a b).size ≤ 30 := by have := txtD_size k a b; omega
  have ho : okI (txtD k a b) = true := by
    unfold okI
    rw [h1, h2]
    have := h.1
    simp
    omega
  refine ⟨by rw [ok_same hs, ho], ?_⟩
  rw [readD_yes hs ho, h1, h3, h4]
set_option maxRecDepth 100000 in
theorem lDeedBack_vc (ds : List Dat) :
    ds.length ≤ (140737488355328 : Nat) →
      (-9223372036854775808 : Int) ≤ (↑ds.length : Int) ∧ (↑ds.length : Int) ≤ (9223372036854775807 : Int) →
        (decide ((↑ds.length : Int) > (1048576 : Int)) = true → True) ∧
          (decide ((↑ds.length : Int) > (1048576 : Int)) = false →
            True ∧
              ∀ (x : Int × Int × Int),
                True →
                  True ∧
                    True ∧
                      ((decide (txtD x.fst x.snd.fst x.snd.snd ≠ txtD x.fst x.snd.fst x.snd.snd) ||
                              decide (txtD x.fst x.snd.fst x.snd.snd = ByteArray.mk #[])) =
                            true →
                          True ∧ decide (txtD x.fst x.snd.fst x.snd.snd = txtD x.fst x.snd.fst x.snd.snd) = true) ∧
                        ((decide (txtD x.fst x.snd.fst x.snd.snd ≠ txtD x.fst x.snd.fst x.snd.snd) ||
                              decide (txtD x.fst x.snd.fst x.snd.snd = ByteArray.mk #[])) =
                            false →
                          True ∧
                            (okD (txtD x.fst x.snd.fst x.snd.snd) &&
                                (decide ((readD (txtD x.fst x.snd.fst x.snd.snd)).fst = x.fst) &&
                                  (decide ((readD (txtD x.fst x.snd.fst x.snd.snd)).snd.fst = x.snd.fst) &&
                                    (decide ((readD (txtD x.fst x.snd.fst x.snd.snd)).snd.snd = x.snd.snd) && true)))) =
                              true)) := by
  intro _ _
  refine ⟨fun _ => trivial, fun _ => ⟨trivial, fun x _ => ⟨trivial, trivial, fun _ => ⟨trivial, by simp⟩, fun h => ⟨trivial, ?_⟩⟩⟩⟩
  simp only [ne_eq, not_true, decide_false, Bool.false_or, decide_eq_false_iff_not] at h
  obtain ⟨h1, h2⟩ := sound_read (sound_of h)
  rw [h1, h2]
  simp
set_option maxRecDepth 100000 in
theorem lDeedBack_fn (ds : List Dat) : Fn Tryd.prog 5 [.sl (.int .u8) ds] none Unit (fun _ => True) (fun _ => .tt) (fun _ => none) := by
  refine fn_ok0 (ct := [drawText_con, iDeedText_con, sDeedText_con, iDeedRead_con]) (L := fun _ => none) (by kernel_rfl) Tryd.func5 rfl ?_
  have h := lDeedBack_vc ds
  apply VC.thru h
  kernel_rfl
noncomputable def lDeedBack_get (ins : List SV) (bs : Option (TypeId × List SV)) : Option Got :=
  match ins, bs with
  | [.sl (.int .u8) _], none => some (True, .tt, none)
  | _, _ => none
theorem lDeedBack_ok : ∀ ins bs p out bs', lDeedBack_get ins bs = some (p, out, bs') → p → Fn Tryd.prog 5 ins bs Unit (fun _ => True) (fun _ => out) (fun _ => bs') := by
  intro ins bs p out bs' h hp
  unfold lDeedBack_get at h
  split at h
  · cases h; exact lDeedBack_fn _
  · cases h
noncomputable def lDeedBack_con : Con Tryd.prog := .f0 5 lDeedBack_get (enters Tryd.func5 (by kernel_rfl) rfl) lDeedBack_ok
end E
end Go.Proofs.YtbjapgekagljeaaDoor
