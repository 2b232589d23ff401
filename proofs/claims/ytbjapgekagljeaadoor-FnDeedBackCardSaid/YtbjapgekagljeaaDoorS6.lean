/- The drawn deeds and texts, and the law that a deed has its own text. -/
import Derived.Test.YtbjapgekagljeaaDoorE17
import Derived.Test.YtbjapgekagljeaaDoorProg
import Derived.Test.YtbjapgekagljeaaDoorS4
import Derived.Test.YtbjapgekagljeaaDoorS2
import Derived.Test.YtbjapgekagljeaaDoorP0
namespace Go.Proofs.YtbjapgekagljeaaDoor
open Go Go.RowKit
namespace E

set_option maxRecDepth 100000 in
theorem drawText_vc (ds : List Dat) :
    ds.length ≤ (140737488355328 : Nat) →
      True ∧
        ∀ (_ : Unit),
          True →
            ((0 : Int) ≤ (0 : Int) ∧ (0 : Int) ≤ (10000000 : Int)) ∧
              ∀ (x : Int × Int × Int × Int),
                (0 : Int) ≤ x.snd.snd.snd ∧ x.snd.snd.snd ≤ (0 : Int) + (5 : Int) →
                  ((0 : Int) ≤ x.snd.snd.snd ∧ x.snd.snd.snd ≤ (1000000000 : Int)) ∧
                    ∀ (x_1 : Int),
                      ((8 : Int) < (1 : Int) → x_1 = (0 : Int)) ∧
                          ((1 : Int) ≤ (8 : Int) → (0 : Int) ≤ x_1 ∧ x_1 < (8 : Int)) →
                        (decide (x_1 = (0 : Int)) = true →
                            ((0 : Int) ≤ x.snd.snd.snd + (1 : Int) ∧ x.snd.snd.snd + (1 : Int) ≤ (1000000000 : Int)) ∧
                              ∀ (x_2 : Int),
                                ((3 : Int) < (1 : Int) → x_2 = (0 : Int)) ∧
                                    ((1 : Int) ≤ (3 : Int) → (0 : Int) ≤ x_2 ∧ x_2 < (3 : Int)) →
                                  ((0 : Int) ≤ x_2 ∧
                                      x_2 < (↑[Dat.int (-1 : Int), Dat.int (100 : Int), Dat.int (99 : Int)].length : Int)) ∧
                                    x_2.toNat < [Dat.int (-1 : Int), Dat.int (100 : Int), Dat.int (99 : Int)].length ∧
                                      ((-9223372036854775808 : Int) ≤
                                            ([Dat.int (-1 : Int), Dat.int (100 : Int), Dat.int (99 : Int)].getD x_2.toNat
                                                default).toInt ∧
                                          ([Dat.int (-1 : Int), Dat.int (100 : Int), Dat.int (99 : Int)].getD x_2.toNat
                                                default).toInt ≤
                                            (9223372036854775807 : Int) →
                                        ∃ (x_3 : Int × Int × Int),
                                          True ∧
                                            x.fst = x_3.fst ∧
                                              ([Dat.int (-1 : Int), Dat.int (100 : Int), Dat.int (99 : Int)].getD x_2.toNat
                                                      default).toInt =
                                                  x_3.snd.fst ∧
                                                x.snd.snd.fst = x_3.snd.snd)) ∧
                          (decide (x_1 = (0 : Int)) = false →
                            (decide (x_1 = (1 : Int)) = true →
                                ((0 : Int) ≤ x.snd.snd.snd + (1 : Int) ∧ x.snd.snd.snd + (1 : Int) ≤ (1000000000 : Int)) ∧
                                  ∀ (x_2 : Int),
                                    ((3 : Int) < (1 : Int) → x_2 = (0 : Int)) ∧
                                        ((1 : Int) ≤ (3 : Int) → (0 : Int) ≤ x_2 ∧ x_2 < (3 : Int)) →
                                      ((0 : Int) ≤ x_2 ∧
                                          x_2 <
                                            (↑[Dat.int (-1 : Int), Dat.int (100 : Int), Dat.int (1 : Int)].length : Int)) ∧
                                        x_2.toNat < [Dat.int (-1 : Int), Dat.int (100 : Int), Dat.int (1 : Int)].length ∧
                                          ((-9223372036854775808 : Int) ≤
                                                ([Dat.int (-1 : Int), Dat.int (100 : Int), Dat.int (1 : Int)].getD x_2.toNat
                                                    default).toInt ∧
                                              ([Dat.int (-1 : Int), Dat.int (100 : Int), Dat.int (1 : Int)].getD x_2.toNat
                                                    default).toInt ≤
                                                (9223372036854775807 : Int) →
                                            ∃ (x_3 : Int × Int × Int),
                                              True ∧
                                                x.fst = x_3.fst ∧
                                                  x.snd.fst = x_3.snd.fst ∧
                                                    ([Dat.int (-1 : Int), Dat.int (100 : Int), Dat.int (1 : Int)].getD
                                                          x_2.toNat default).toInt =
                                                      x_3.snd.snd)) ∧
                              (decide (x_1 = (1 : Int)) = false →
                                (decide (x_1 = (2 : Int)) = true →
                                    ((0 : Int) ≤ x.snd.snd.snd + (1 : Int) ∧
                                        x.snd.snd.snd + (1 : Int) ≤ (1000000000 : Int)) ∧
                                      ∀ (x_2 : Int),
                                        ((13 : Int) < (1 : Int) → x_2 = (0 : Int)) ∧
                                            ((1 : Int) ≤ (13 : Int) → (0 : Int) ≤ x_2 ∧ x_2 < (13 : Int)) →
                                          ∃ (x_3 : Int × Int × Int),
                                            True ∧
                                              IntKind.i64.wrap (x_2 - (1 : Int)) = x_3.fst ∧
                                                x.snd.fst = x_3.snd.fst ∧ x.snd.snd.fst = x_3.snd.snd) ∧
                                  (decide (x_1 = (2 : Int)) = false →
                                    ∃ (x_2 : Int × Int × Int),
                                      True ∧ x.fst = x_2.fst ∧ x.snd.fst = x_2.snd.fst ∧ x.snd.snd.fst = x_2.snd.snd))) := by
  repeat' first
    | refine ⟨(_, _, _), trivial, rfl, rfl, rfl⟩
    | refine ⟨?_, ?_⟩
    | intro _
  all_goals first
    | omega
    | trivial
    | (simp only [List.length_cons, List.length_nil]; omega)
set_option maxRecDepth 100000 in
theorem drawText_fn (ds : List Dat) : Fn Tryd.prog 10 [.sl (.int .u8) ds] none (Int × Int × Int) (fun g => ((fun g => (True, .agg [.int .i64 g.1, .int .i64 g.2.1, .int .i64 g.2.2], none) : Int × Int × Int → Prop × SV × Option (TypeId × List SV)) g).1) (fun g => ((fun g => (True, .agg [.int .i64 g.1, .int .i64 g.2.1, .int .i64 g.2.2], none) : Int × Int × Int → Prop × SV × Option (TypeId × List SV)) g).2.1) (fun g => ((fun g => (True, .agg [.int .i64 g.1, .int .i64 g.2.1, .int .i64 g.2.2], none) : Int × Int × Int → Prop × SV × Option (TypeId × List SV)) g).2.2) := by
  refine fn_ok (ct := [l6Open_con, l71Deed_con, pick_con]) (L := fun _ => none) (q := (fun g => (True, .agg [.int .i64 g.1, .int .i64 g.2.1, .int .i64 g.2.2], none) : Int × Int × Int → Prop × SV × Option (TypeId × List SV))) (by kernel_rfl) Tryd.func10 (fun _ => rfl) ?_
  have h := drawText_vc ds
  apply VC.thru h
  kernel_rfl
noncomputable def drawText_get (ins : List SV) (bs : Option (TypeId × List SV)) : Option (Prop × (Int × Int × Int → Prop × SV × Option (TypeId × List SV))) :=
  match ins, bs with
  | [.sl (.int .u8) _], none => some (True, (fun g => (True, .agg [.int .i64 g.1, .int .i64 g.2.1, .int .i64 g.2.2], none) : Int × Int × Int → Prop × SV × Option (TypeId × List SV)))
  | _, _ => none
theorem drawText_ok : ∀ ins bs p q, drawText_get ins bs = some (p, q) → p → Fn Tryd.prog 10 ins bs (Int × Int × Int) (fun g => (q g).1) (fun g => (q g).2.1) (fun g => (q g).2.2) := by
  intro ins bs p q h hp
  unfold drawText_get at h
  split at h
  · cases h; exact drawText_fn _
  · cases h
noncomputable def drawText_con : Con Tryd.prog := .fg 10 (Int × Int × Int) drawText_get (enters Tryd.func10 (by kernel_rfl) rfl) drawText_ok
set_option maxRecDepth 100000 in
theorem lDeedOne_vc (ds es : List Dat) :
    ds.length ≤ (140737488355328 : Nat) →
      es.length ≤ (140737488355328 : Nat) →
        ((decide ((↑ds.length : Int) > (1048576 : Int)) || decide ((↑es.length : Int) > (1048576 : Int))) = true → True) ∧
          ((decide ((↑ds.length : Int) > (1048576 : Int)) || decide ((↑es.length : Int) > (1048576 : Int))) = false →
            True ∧
              ∀ (x : Int × Int × Int),
                True →
                  True ∧
                    ∀ (x_1 : Int × Int × Int),
                      True →
                        True ∧
                          True ∧
                            (True ∧
                                (decide (txtD x.fst x.snd.fst x.snd.snd ≠ txtD x.fst x.snd.fst x.snd.snd) = false → True) ∧
                                  True) ∧
                              ((decide (txtD x.fst x.snd.fst x.snd.snd ≠ txtD x.fst x.snd.fst x.snd.snd) ||
                                      (decide
                                          (txtD x_1.fst x_1.snd.fst x_1.snd.snd ≠ txtD x_1.fst x_1.snd.fst x_1.snd.snd) ||
                                        (decide (txtD x.fst x.snd.fst x.snd.snd = ByteArray.mk #[]) ||
                                          decide (txtD x_1.fst x_1.snd.fst x_1.snd.snd = ByteArray.mk #[])))) =
                                    true →
                                  (True ∧
                                      (decide (txtD x.fst x.snd.fst x.snd.snd = txtD x.fst x.snd.fst x.snd.snd) = true →
                                          True) ∧
                                        True) ∧
                                    (decide (txtD x.fst x.snd.fst x.snd.snd = txtD x.fst x.snd.fst x.snd.snd) &&
                                        decide
                                          (txtD x_1.fst x_1.snd.fst x_1.snd.snd = txtD x_1.fst x_1.snd.fst x_1.snd.snd)) =
                                      true) ∧
                                ((decide (txtD x.fst x.snd.fst x.snd.snd ≠ txtD x.fst x.snd.fst x.snd.snd) ||
                                      (decide
                                          (txtD x_1.fst x_1.snd.fst x_1.snd.snd ≠ txtD x_1.fst x_1.snd.fst x_1.snd.snd) ||
                                        (decide (txtD x.fst x.snd.fst x.snd.snd = ByteArray.mk #[]) ||
                                          decide (txtD x_1.fst x_1.snd.fst x_1.snd.snd = ByteArray.mk #[])))) =
                                    false →
                                  decide
                                      (decide (txtD x.fst x.snd.fst x.snd.snd = txtD x_1.fst x_1.snd.fst x_1.snd.snd) =
                                        (decide (x.fst = x_1.fst) &&
                                          (decide (x.snd.fst = x_1.snd.fst) &&
                                            (decide (x.snd.snd = x_1.snd.snd) && true)))) =
                                    true)) := by
  intro _ _
  refine ⟨fun _ => trivial, fun _ => ⟨trivial, ?_⟩⟩
  rintro ⟨k, a, b⟩ _
  refine ⟨trivial, ?_⟩
  rintro ⟨k', a', b'⟩ _
  refine ⟨trivial, trivial, ⟨trivial, fun _ => trivial, trivial⟩, fun _ => ⟨⟨trivial, fun _ => trivial, trivial⟩, by simp⟩, fun h => ?_⟩
  simp only [ne_eq, not_true, decide_false, Bool.false_or, Bool.or_eq_false_iff, decide_eq_false_iff_not] at h
  have h1 := sound_of h.1
  have h2 := sound_of h.2
  rw [decide_eq_true_eq, Bool.eq_iff_iff]
  simp only [decide_eq_true_eq, Bool.and_eq_true, and_true]
  exact ⟨fun e => txt_inj h1 h2 e, fun ⟨e1, e2, e3⟩ => by rw [e1, e2, e3]⟩
set_option maxRecDepth 100000 in
theorem lDeedOne_fn (ds es : List Dat) : Fn Tryd.prog 4 [.sl (.int .u8) ds, .sl (.int .u8) es] none Unit (fun _ => True) (fun _ => .tt) (fun _ => none) := by
  refine fn_ok0 (ct := [drawText_con, iDeedText_con, sDeedText_con]) (L := fun _ => none) (by kernel_rfl) Tryd.func4 rfl ?_
  have h := lDeedOne_vc ds es
  apply VC.thru h
  kernel_rfl
noncomputable def lDeedOne_get (ins : List SV) (bs : Option (TypeId × List SV)) : Option Got :=
  match ins, bs with
  | [.sl (.int .u8) _, .sl (.int .u8) _], none => some (True, .tt, none)
  | _, _ => none
theorem lDeedOne_ok : ∀ ins bs p out bs', lDeedOne_get ins bs = some (p, out, bs') → p → Fn Tryd.prog 4 ins bs Unit (fun _ => True) (fun _ => out) (fun _ => bs') := by
  intro ins bs p out bs' h hp
  unfold lDeedOne_get at h
  split at h
  · cases h; exact lDeedOne_fn _ _
  · cases h
noncomputable def lDeedOne_con : Con Tryd.prog := .f0 4 lDeedOne_get (enters Tryd.func4 (by kernel_rfl) rfl) lDeedOne_ok
end E
end Go.Proofs.YtbjapgekagljeaaDoor
