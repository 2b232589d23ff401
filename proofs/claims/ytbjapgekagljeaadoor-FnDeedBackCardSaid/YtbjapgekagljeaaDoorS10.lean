/- The program's DeedRead: what it returns, whatever the text. -/
import Derived.Test.YtbjapgekagljeaaDoorE17
import Derived.Test.YtbjapgekagljeaaDoorProg
import Derived.Test.YtbjapgekagljeaaDoorD5
import Derived.Test.YtbjapgekagljeaaDoorP2
namespace Go.Proofs.YtbjapgekagljeaaDoor
open Go Go.RowKit
namespace E

theorem readDeed_fn (t : ByteArray) (ht : t.size ≤ 30) : Fn Tryd.prog 23 [.str t] none Unit (fun _ => True) (fun _ => .tup [.agg [.int .i64 (readD t).1, .int .i64 (readD t).2.1, .int .i64 (readD t).2.2], .bool (okD t)]) (fun _ => none) := by
  rintro S B w vs hS hB hlen hbox ⟨v, _, rfl, ⟨rfl, _⟩, rfl⟩
  have hB0 : B = [] := by cases B <;> simp at hlen ⊢
  subst hB0
  have key : Calls Tryd.prog 23 #[.string t] w fun e w' => e = .returned (.tuple #[.agg #[.int .i64 (readD t).1, .int .i64 (readD t).2.1, .int .i64 (readD t).2.2], .bool (okD t)]) ∧ Below w.heap.size w w' := by
    cases h : okI t with
    | true =>
      rw [readD_yes ht h, ok_same ht, h]
      rw [okI, Bool.and_eq_true, decide_eq_true_eq] at h
      exact D5.read_good t ⟨ht, h.1, h.2⟩ w
    | false =>
      have h0 : okD t = false := by rw [ok_same ht, h]
      rw [readD_no h0, h0]
      rw [okI, Bool.and_eq_false_iff, decide_eq_false_iff_not, Classical.not_not] at h
      exact D5.read_bad t ⟨ht, h⟩ w
  have hin : Has .i64 (readD t).1 ∧ Has .i64 (readD t).2.1 ∧ Has .i64 (readD t).2.2 := by
    simp only [Has, lo, hi]
    cases h : okI t with
    | true =>
      rw [readD_yes ht h]
      have hs := (okI_yes h).2.1.1
      simp only
      omega
    | false =>
      rw [readD_no (by rw [ok_same ht, h])]
      simp
  refine key.mono ?_
  rintro e w' ⟨rfl, h⟩
  exact ⟨(), _, rfl, trivial, ⟨h.os, h.tape, h.output, h.size, fun b hb _ => h.block b hb⟩, ⟨_, rfl, _, _, rfl, ⟨_, rfl, _, _, rfl, ⟨rfl, hin.1⟩, _, _, rfl, ⟨rfl, hin.2.1⟩, _, _, rfl, ⟨rfl, hin.2.2⟩, rfl⟩, _, _, rfl, rfl, rfl⟩, rfl, fun p hp => by cases hp⟩
noncomputable def readDeed_get (ins : List SV) (bs : Option (TypeId × List SV)) : Option Got :=
  match ins, bs with
  | [.str t], none => some (t.size ≤ 30, .tup [.agg [.int .i64 (readD t).1, .int .i64 (readD t).2.1, .int .i64 (readD t).2.2], .bool (okD t)], none)
  | _, _ => none
theorem readDeed_ok : ∀ ins bs p out bs', readDeed_get ins bs = some (p, out, bs') → p → Fn Tryd.prog 23 ins bs Unit (fun _ => True) (fun _ => out) (fun _ => bs') := by
  intro ins bs p out bs' h hp
  unfold readDeed_get at h
  split at h
  · cases h; exact readDeed_fn _ hp
  · cases h
noncomputable def readDeed_con : Con Tryd.prog := .f0 23 readDeed_get (enters Tryd.func23 (by kernel_rfl) rfl) readDeed_ok
set_option maxRecDepth 100000 in
theorem iDeedRead_vc (t : ByteArray) :
    t.size ≤ (140737488351232 : Nat) →
      (-9223372036854775808 : Int) ≤ (↑t.size : Int) ∧ (↑t.size : Int) ≤ (9223372036854775807 : Int) →
        (decide ((↑t.size : Int) > (30 : Int)) = true →
            (0 : Int) = (readD t).fst ∧ (0 : Int) = (readD t).snd.fst ∧ (0 : Int) = (readD t).snd.snd ∧ okD t = false) ∧
          (decide ((↑t.size : Int) > (30 : Int)) = false →
            t.size ≤ (30 : Nat) ∧
              (readD t).fst = (readD t).fst ∧
                (readD t).snd.fst = (readD t).snd.fst ∧ (readD t).snd.snd = (readD t).snd.snd ∧ okD t = okD t) := by
  intro _ _
  refine ⟨fun h => ?_, fun h => ?_⟩
  · have h0 := okD_long (t := t) (by simp at h; omega)
    rw [readD_no h0, h0]
    exact ⟨rfl, rfl, rfl, rfl⟩
  · exact ⟨by simp at h; omega, rfl, rfl, rfl, rfl⟩
set_option maxRecDepth 100000 in
theorem iDeedRead_fn (t : ByteArray) : Fn Tryd.prog 11 [.str t] none Unit (fun _ => True) (fun _ => .tup [.agg [.int .i64 (readD t).1, .int .i64 (readD t).2.1, .int .i64 (readD t).2.2], .bool (okD t)]) (fun _ => none) := by
  refine fn_ok0 (ct := [readDeed_con]) (L := fun _ => none) (by kernel_rfl) Tryd.func11 rfl ?_
  have h := iDeedRead_vc t
  apply VC.thru h
  kernel_rfl
noncomputable def iDeedRead_get (ins : List SV) (bs : Option (TypeId × List SV)) : Option Got :=
  match ins, bs with
  | [.str t], none => some (True, .tup [.agg [.int .i64 (readD t).1, .int .i64 (readD t).2.1, .int .i64 (readD t).2.2], .bool (okD t)], none)
  | _, _ => none
theorem iDeedRead_ok : ∀ ins bs p out bs', iDeedRead_get ins bs = some (p, out, bs') → p → Fn Tryd.prog 11 ins bs Unit (fun _ => True) (fun _ => out) (fun _ => bs') := by
  intro ins bs p out bs' h hp
  unfold iDeedRead_get at h
  split at h
  · cases h; exact iDeedRead_fn _
  · cases h
noncomputable def iDeedRead_con : Con Tryd.prog := .f0 11 iDeedRead_get (enters Tryd.func11 (by kernel_rfl) rfl) iDeedRead_ok
end E
end Go.Proofs.YtbjapgekagljeaaDoor
