/- The drawn text of a deed: some text, and a short one. -/
import Derived.Test.YtbjapgekagljeaaDoorE17
import Derived.Test.YtbjapgekagljeaaDoorProg
import Derived.Test.YtbjapgekagljeaaDoorS4
namespace Go.Proofs.YtbjapgekagljeaaDoor
open Go Go.RowKit
namespace E

set_option maxRecDepth 100000 in
theorem drawRead_vc (ds : List Dat) :
    ds.length ≤ (140737488355328 : Nat) →
      True ∧
        ∀ (_ : Unit),
          True →
            ((0 : Int) ≤ (0 : Int) ∧ (0 : Int) ≤ (10000000 : Int)) ∧
              ∀ (x : Int × Int × Int × Int),
                (0 : Int) ≤ x.snd.snd.snd ∧ x.snd.snd.snd ≤ (0 : Int) + (5 : Int) →
                  True ∧
                    ((0 : Int) ≤ x.snd.snd.snd ∧ x.snd.snd.snd ≤ (1000000000 : Int)) ∧
                      ∀ (x_1 : Int),
                        ((2 : Int) < (1 : Int) → x_1 = (0 : Int)) ∧
                            ((1 : Int) ≤ (2 : Int) → (0 : Int) ≤ x_1 ∧ x_1 < (2 : Int)) →
                          (decide (x_1 = (0 : Int)) = false →
                              (decide (txtD x.fst x.snd.fst x.snd.snd.fst = ByteArray.mk #[]) = true →
                                  ∃ (x_2 : ByteArray), x_2.size ≤ (40 : Nat) ∧ txtD x.fst x.snd.fst x.snd.snd.fst = x_2) ∧
                                (decide (txtD x.fst x.snd.fst x.snd.snd.fst = ByteArray.mk #[]) = false →
                                  (-9223372036854775808 : Int) ≤ (↑(txtD x.fst x.snd.fst x.snd.snd.fst).size : Int) ∧
                                      (↑(txtD x.fst x.snd.fst x.snd.snd.fst).size : Int) ≤ (9223372036854775807 : Int) →
                                    ((0 : Int) ≤ x.snd.snd.snd + (1 : Int) ∧
                                        x.snd.snd.snd + (1 : Int) ≤ (1000000000 : Int)) ∧
                                      ∀ (x_2 : Int),
                                        ((↑(txtD x.fst x.snd.fst x.snd.snd.fst).size : Int) < (1 : Int) → x_2 = (0 : Int)) ∧
                                            ((1 : Int) ≤ (↑(txtD x.fst x.snd.fst x.snd.snd.fst).size : Int) →
                                              (0 : Int) ≤ x_2 ∧ x_2 < (↑(txtD x.fst x.snd.fst x.snd.snd.fst).size : Int)) →
                                          ((0 : Int) ≤ x.snd.snd.snd + (1 : Int) + (1 : Int) ∧
                                              x.snd.snd.snd + (1 : Int) + (1 : Int) ≤ (1000000000 : Int)) ∧
                                            ∀ (x_3 : Int),
                                              ((4 : Int) < (1 : Int) → x_3 = (0 : Int)) ∧
                                                  ((1 : Int) ≤ (4 : Int) → (0 : Int) ≤ x_3 ∧ x_3 < (4 : Int)) →
                                                (decide (x_3 = (0 : Int)) = true →
                                                    ((0 : Int) ≤ (0 : Int) ∧
                                                        (0 : Int) ≤ x_2 ∧
                                                          x_2 ≤ (↑(txtD x.fst x.snd.fst x.snd.snd.fst).size : Int)) ∧
                                                      ((0 : Int) ≤ IntKind.i64.wrap (x_2 + (1 : Int)) ∧
                                                          IntKind.i64.wrap (x_2 + (1 : Int)) ≤
                                                              (↑(txtD x.fst x.snd.fst x.snd.snd.fst).size : Int) ∧
                                                            (↑(txtD x.fst x.snd.fst x.snd.snd.fst).size : Int) ≤
                                                              (↑(txtD x.fst x.snd.fst x.snd.snd.fst).size : Int)) ∧
                                                        ((txtD x.fst x.snd.fst x.snd.snd.fst).extract (Int.toNat (0 : Int))
                                                                  x_2.toNat).size +
                                                              ((txtD x.fst x.snd.fst x.snd.snd.fst).extract
                                                                  (IntKind.i64.wrap (x_2 + (1 : Int))).toNat
                                                                  (↑(txtD x.fst x.snd.fst x.snd.snd.fst).size :
                                                                      Int).toNat).size ≤
                                                            (140737488351232 : Nat) ∧
                                                          ∃ (x_4 : ByteArray),
                                                            x_4.size ≤ (40 : Nat) ∧
                                                              (txtD x.fst x.snd.fst x.snd.snd.fst).extract
                                                                    (Int.toNat (0 : Int)) x_2.toNat ++
                                                                  (txtD x.fst x.snd.fst x.snd.snd.fst).extract
                                                                    (IntKind.i64.wrap (x_2 + (1 : Int))).toNat
                                                                    (↑(txtD x.fst x.snd.fst x.snd.snd.fst).size :
                                                                        Int).toNat =
                                                                x_4) ∧
                                                  (decide (x_3 = (0 : Int)) = false →
                                                    (decide (x_3 = (1 : Int)) = true →
                                                        ((0 : Int) ≤ (0 : Int) ∧
                                                            (0 : Int) ≤ x_2 ∧
                                                              x_2 ≤ (↑(txtD x.fst x.snd.fst x.snd.snd.fst).size : Int)) ∧
                                                          ((0 : Int) ≤ x_2 ∧
                                                              x_2 ≤ (↑(txtD x.fst x.snd.fst x.snd.snd.fst).size : Int) ∧
                                                                (↑(txtD x.fst x.snd.fst x.snd.snd.fst).size : Int) ≤
                                                                  (↑(txtD x.fst x.snd.fst x.snd.snd.fst).size : Int)) ∧
                                                            (((0 : Int) ≤
                                                                    x.snd.snd.snd + (1 : Int) + (1 : Int) + (1 : Int) ∧
                                                                  x.snd.snd.snd + (1 : Int) + (1 : Int) + (1 : Int) ≤
                                                                    (1000000000 : Int)) ∧
                                                                (1 : Nat) ≤
                                                                  [Dat.str (ByteArray.mk #[(32 : UInt8)]),
                                                                      Dat.str (ByteArray.mk #[(48 : UInt8)]),
                                                                      Dat.str (ByteArray.mk #[(57 : UInt8)]),
                                                                      Dat.str (ByteArray.mk #[(120 : UInt8)])].length) ∧
                                                              ∀ (x_4 : ByteArray),
                                                                (∃ (i : Nat),
                                                                    i <
                                                                        [Dat.str (ByteArray.mk #[(32 : UInt8)]),
                                                                            Dat.str (ByteArray.mk #[(48 : UInt8)]),
                                                                            Dat.str (ByteArray.mk #[(57 : UInt8)]),
                                                                            Dat.str
                                                                              (ByteArray.mk #[(120 : UInt8)])].length ∧
                                                                      ([Dat.str (ByteArray.mk #[(32 : UInt8)]),
                                                                                Dat.str (ByteArray.mk #[(48 : UInt8)]),
                                                                                Dat.str (ByteArray.mk #[(57 : UInt8)]),
                                                                                Dat.str
                                                                                  (ByteArray.mk #[(120 : UInt8)])].getD
                                                                            i default).toStr =
                                                                        x_4) →
                                                                  ((txtD x.fst x.snd.fst x.snd.snd.fst).extract
                                                                            (Int.toNat (0 : Int)) x_2.toNat).size +
                                                                        x_4.size ≤
                                                                      (140737488351232 : Nat) ∧
                                                                    ((txtD x.fst x.snd.fst x.snd.snd.fst).extract
                                                                                (Int.toNat (0 : Int)) x_2.toNat ++
                                                                              x_4).size +
                                                                          ((txtD x.fst x.snd.fst x.snd.snd.fst).extract
                                                                              x_2.toNat
                                                                              (↑(txtD x.fst x.snd.fst x.snd.snd.fst).size :
                                                                                  Int).toNat).size ≤
                                                                        (140737488351232 : Nat) ∧
                                                                      ∃ (x_5 : ByteArray),
                                                                        x_5.size ≤ (40 : Nat) ∧
                                                                          (txtD x.fst x.snd.fst x.snd.snd.fst).extract
                                                                                  (Int.toNat (0 : Int)) x_2.toNat ++
                                                                                x_4 ++
                                                                              (txtD x.fst x.snd.fst x.snd.snd.fst).extract
                                                                                x_2.toNat
                                                                                (↑(txtD x.fst x.snd.fst
                                                                                          x.snd.snd.fst).size :
                                                                                    Int).toNat =
                                                                            x_5) ∧
                                                      (decide (x_3 = (1 : Int)) = false →
                                                        (decide (x_3 = (2 : Int)) = true →
                                                            (((0 : Int) ≤
                                                                    x.snd.snd.snd + (1 : Int) + (1 : Int) + (1 : Int) ∧
                                                                  x.snd.snd.snd + (1 : Int) + (1 : Int) + (1 : Int) ≤
                                                                    (1000000000 : Int)) ∧
                                                                (1 : Nat) ≤
                                                                  [Dat.str (ByteArray.mk #[]),
                                                                      Dat.str
                                                                        (ByteArray.mk
                                                                          #[(99 : UInt8), (111 : UInt8), (117 : UInt8),
                                                                            (110 : UInt8), (116 : UInt8)]),
                                                                      Dat.str
                                                                        (ByteArray.mk
                                                                          #[(99 : UInt8), (111 : UInt8), (117 : UInt8),
                                                                            (110 : UInt8), (116 : UInt8), (32 : UInt8),
                                                                            (49 : UInt8)]),
                                                                      Dat.str
                                                                        (ByteArray.mk
                                                                          #[(99 : UInt8), (111 : UInt8), (117 : UInt8),
                                                                            (110 : UInt8), (116 : UInt8), (32 : UInt8),
                                                                            (49 : UInt8), (32 : UInt8), (49 : UInt8),
                                                                            (48 : UInt8), (48 : UInt8)]),
                                                                      Dat.str
                                                                        (ByteArray.mk
                                                                          #[(98 : UInt8), (101 : UInt8), (97 : UInt8),
                                                                            (99 : UInt8), (111 : UInt8), (110 : UInt8),
                                                                            (32 : UInt8), (48 : UInt8)]),
                                                                      Dat.str
                                                                        (ByteArray.mk
                                                                          #[(116 : UInt8), (97 : UInt8), (107 : UInt8),
                                                                            (101 : UInt8)]),
                                                                      Dat.str
                                                                        (ByteArray.mk
                                                                          #[(99 : UInt8), (117 : UInt8), (116 : UInt8),
                                                                            (32 : UInt8), (49 : UInt8)]),
                                                                      Dat.str
                                                                        (ByteArray.mk
                                                                          #[(104 : UInt8), (101 : UInt8), (108 : UInt8),
                                                                            (108 : UInt8), (111 : UInt8), (32 : UInt8),
                                                                            (48 : UInt8), (49 : UInt8)])].length) ∧
                                                              ∀ (x : ByteArray),
                                                                (∃ (i : Nat),
                                                                    i <
                                                                        [Dat.str (ByteArray.mk #[]),
                                                                            Dat.str
                                                                              (ByteArray.mk
                                                                                #[(99 : UInt8), (111 : UInt8),
                                                                                  (117 : UInt8), (110 : UInt8),
                                                                                  (116 : UInt8)]),
                                                                            Dat.str
                                                                              (ByteArray.mk
                                                                                #[(99 : UInt8), (111 : UInt8),
                                                                                  (117 : UInt8), (110 : UInt8),
                                                                                  (116 : UInt8), (32 : UInt8),
                                                                                  (49 : UInt8)]),
                                                                            Dat.str
                                                                              (ByteArray.mk
                                                                                #[(99 : UInt8), (111 : UInt8),
                                                                                  (117 : UInt8), (110 : UInt8),
                                                                                  (116 : UInt8), (32 : UInt8), (49 : UInt8),
                                                                                  (32 : UInt8), (49 : UInt8), (48 : UInt8),
                                                                                  (48 : UInt8)]),
                                                                            Dat.str
                                                                              (ByteArray.mk
                                                                                #[(98 : UInt8), (101 : UInt8), (97 : UInt8),
                                                                                  (99 : UInt8), (111 : UInt8),
                                                                                  (110 : UInt8), (32 : UInt8),
                                                                                  (48 : UInt8)]),
                                                                            Dat.str
                                                                              (ByteArray.mk
                                                                                #[(116 : UInt8), (97 : UInt8),
                                                                                  (107 : UInt8), (101 : UInt8)]),
                                                                            Dat.str
                                                                              (ByteArray.mk
                                                                                #[(99 : UInt8), (117 : UInt8),
                                                                                  (116 : UInt8), (32 : UInt8),
                                                                                  (49 : UInt8)]),
                                                                            Dat.str
                                                                              (ByteArray.mk
                                                                                #[(104 : UInt8), (101 : UInt8),
                                                                                  (108 : UInt8), (108 : UInt8),
                                                                                  (111 : UInt8), (32 : UInt8), (48 : UInt8),
                                                                                  (49 : UInt8)])].length ∧
                                                                      ([Dat.str (ByteArray.mk #[]),
                                                                                Dat.str
                                                                                  (ByteArray.mk
                                                                                    #[(99 : UInt8), (111 : UInt8),
                                                                                      (117 : UInt8), (110 : UInt8),
                                                                                      (116 : UInt8)]),
                                                                                Dat.str
                                                                                  (ByteArray.mk
                                                                                    #[(99 : UInt8), (111 : UInt8),
                                                                                      (117 : UInt8), (110 : UInt8),
                                                                                      (116 : UInt8), (32 : UInt8),
                                                                                      (49 : UInt8)]),
                                                                                Dat.str
                                                                                  (ByteArray.mk
                                                                                    #[(99 : UInt8), (111 : UInt8),
                                                                                      (117 : UInt8), (110 : UInt8),
                                                                                      (116 : UInt8), (32 : UInt8),
                                                                                      (49 : UInt8), (32 : UInt8),
                                                                                      (49 : UInt8), (48 : UInt8),
                                                                                      (48 : UInt8)]),
                                                                                Dat.str
                                                                                  (ByteArray.mk
                                                                                    #[(98 : UInt8), (101 : UInt8),
                                                                                      (97 : UInt8), (99 : UInt8),
                                                                                      (111 : UInt8), (110 : UInt8),
                                                                                      (32 : UInt8), (48 : UInt8)]),
                                                                                Dat.str
                                                                                  (ByteArray.mk
                                                                                    #[(116 : UInt8), (97 : UInt8),
                                                                                      (107 : UInt8), (101 : UInt8)]),
                                                                                Dat.str
                                                                                  (ByteArray.mk
                                                                                    #[(99 : UInt8), (117 : UInt8),
                                                                                      (116 : UInt8), (32 : UInt8),
                                                                                      (49 : UInt8)]),
                                                                                Dat.str
                                                                                  (ByteArray.mk
                                                                                    #[(104 : UInt8), (101 : UInt8),
                                                                                      (108 : UInt8), (108 : UInt8),
                                                                                      (111 : UInt8), (32 : UInt8),
                                                                                      (48 : UInt8), (49 : UInt8)])].getD
                                                                            i default).toStr =
                                                                        x) →
                                                                  ∃ (x_4 : ByteArray), x_4.size ≤ (40 : Nat) ∧ x = x_4) ∧
                                                          (decide (x_3 = (2 : Int)) = false →
                                                            ((0 : Int) ≤ (0 : Int) ∧
                                                                (0 : Int) ≤ x_2 ∧
                                                                  x_2 ≤
                                                                    (↑(txtD x.fst x.snd.fst x.snd.snd.fst).size : Int)) ∧
                                                              ∃ (x_4 : ByteArray),
                                                                x_4.size ≤ (40 : Nat) ∧
                                                                  (txtD x.fst x.snd.fst x.snd.snd.fst).extract
                                                                      (Int.toNat (0 : Int)) x_2.toNat =
                                                                    x_4))))) ∧
                            (decide (x_1 = (0 : Int)) = !false →
                              ∃ (x_2 : ByteArray), x_2.size ≤ (40 : Nat) ∧ txtD x.fst x.snd.fst x.snd.snd.fst = x_2) := by
  intro _
  refine ⟨trivial, fun _ _ => ⟨by omega, fun g hg => ⟨trivial, by omega, fun c _ => ?_⟩⟩⟩
  have ht := txtD_size g.1 g.2.1 g.2.2.1
  generalize txtD g.1 g.2.1 g.2.2.1 = t at *
  have hs : ∀ a b, (t.extract a b).size ≤ 12 := fun a b => by rw [ByteArray.size_extract]; omega
  have ho : ∀ (l : List Dat) (x : ByteArray), l.all (fun d => decide (d.toStr.size ≤ 11)) = true → (∃ i, i < l.length ∧ (l.getD i default).toStr = x) → x.size ≤ 11 := by
    rintro l x hl ⟨i, hi, rfl⟩
    rw [List.getD_eq_getElem?_getD, List.getElem?_eq_getElem hi]
    simpa using List.all_eq_true.1 hl _ (List.getElem_mem hi)
  have hz : t = ByteArray.mk #[] ∨ 1 ≤ t.size := by
    rcases Nat.eq_zero_or_pos t.size with h | h
    · left
      exact ByteArray.ext (Array.eq_empty_of_size_eq_zero h)
    · exact .inr h
  have hn : Bool → decide (t = ByteArray.mk #[]) = false → 1 ≤ t.size := by
    intro _ h
    rw [decide_eq_false_iff_not] at h
    rcases hz with h1 | h1
    · exact absurd h1 h
    · exact h1
  refine ⟨fun _ => ⟨fun _ => ⟨_, by omega, rfl⟩, fun h _ => ⟨by omega, fun i hi => ⟨by omega, fun d _ => ?_⟩⟩⟩, fun _ => ⟨_, by omega, rfl⟩⟩
  have h1 := hn true h
  have hi' := hi.2 (by omega)
  have hw : IntKind.i64.wrap (i + 1) = i + 1 := wrap_ok (by omega) (by omega)
  refine ⟨fun _ => ?_, fun _ => ⟨fun _ => ?_, fun _ => ⟨fun _ => ?_, fun _ => ?_⟩⟩⟩
  · rw [hw]
    have h2 := hs (Int.toNat 0) i.toNat
    have h3 := hs (i + 1).toNat (t.size : Int).toNat
    exact ⟨by omega, by omega, by omega, _, by rw [ByteArray.size_append]; omega, rfl⟩
  · refine ⟨by omega, by omega, ⟨by omega, by simp⟩, fun x hx => ?_⟩
    have h4 := ho _ x rfl hx
    have h2 := hs (Int.toNat 0) i.toNat
    have h3 := hs i.toNat (t.size : Int).toNat
    exact ⟨by omega, by rw [ByteArray.size_append]; omega, _, by rw [ByteArray.size_append, ByteArray.size_append]; omega, rfl⟩
  · refine ⟨⟨by omega, by simp⟩, fun x hx => ?_⟩
    have h4 := ho _ x rfl hx
    exact ⟨_, by omega, rfl⟩
  · have h2 := hs (Int.toNat 0) i.toNat
    exact ⟨by omega, _, by omega, rfl⟩
set_option maxRecDepth 100000 in
theorem drawRead_fn (ds : List Dat) : Fn Tryd.prog 12 [.sl (.int .u8) ds] none (ByteArray) (fun g => ((fun g => (g.size ≤ 40, .str g, none) : ByteArray → Prop × SV × Option (TypeId × List SV)) g).1) (fun g => ((fun g => (g.size ≤ 40, .str g, none) : ByteArray → Prop × SV × Option (TypeId × List SV)) g).2.1) (fun g => ((fun g => (g.size ≤ 40, .str g, none) : ByteArray → Prop × SV × Option (TypeId × List SV)) g).2.2) := by
  refine fn_ok (ct := [l6Open_con, l71Deed_con, sDeedText_con, pick_con, of_con]) (L := fun _ => none) (q := (fun g => (g.size ≤ 40, .str g, none) : ByteArray → Prop × SV × Option (TypeId × List SV))) (by kernel_rfl) Tryd.func12 (fun _ => rfl) ?_
  have h := drawRead_vc ds
  apply VC.thru h
  kernel_rfl
noncomputable def drawRead_get (ins : List SV) (bs : Option (TypeId × List SV)) : Option (Prop × (ByteArray → Prop × SV × Option (TypeId × List SV))) :=
  match ins, bs with
  | [.sl (.int .u8) _], none => some (True, (fun g => (g.size ≤ 40, .str g, none) : ByteArray → Prop × SV × Option (TypeId × List SV)))
  | _, _ => none
theorem drawRead_ok : ∀ ins bs p q, drawRead_get ins bs = some (p, q) → p → Fn Tryd.prog 12 ins bs (ByteArray) (fun g => (q g).1) (fun g => (q g).2.1) (fun g => (q g).2.2) := by
  intro ins bs p q h hp
  unfold drawRead_get at h
  split at h
  · cases h; exact drawRead_fn _
  · cases h
noncomputable def drawRead_con : Con Tryd.prog := .fg 12 (ByteArray) drawRead_get (enters Tryd.func12 (by kernel_rfl) rfl) drawRead_ok
end E
end Go.Proofs.YtbjapgekagljeaaDoor
