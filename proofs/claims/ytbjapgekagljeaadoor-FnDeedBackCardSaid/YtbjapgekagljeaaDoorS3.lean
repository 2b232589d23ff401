/- The reference's drawing of deeds: whatever the code, a deed comes back. -/
import Derived.Test.YtbjapgekagljeaaDoorE17
import Derived.Test.YtbjapgekagljeaaDoorProg
import Derived.Test.YtbjapgekagljeaaDoorS1
namespace Go.Proofs.YtbjapgekagljeaaDoor
open Go Go.RowKit
namespace E

theorem bit_xor {a b : Int} (ha : 0 ≤ a) (ha' : a ≤ 9223372036854775807) (hb : 0 ≤ b) (hb' : b ≤ 9223372036854775807) : 0 ≤ bitI .xor .i64 a b ∧ bitI .xor .i64 a b ≤ 9223372036854775807 := by
  have h : (BitVec.ofInt 64 a ^^^ BitVec.ofInt 64 b).toNat < 2 ^ 63 := by
    rw [BitVec.toNat_xor]
    refine Nat.xor_lt_two_pow ?_ ?_
    · rw [BitVec.toNat_ofInt]; omega
    · rw [BitVec.toNat_ofInt]; omega
  have e : bitI .xor .i64 a b = IntKind.i64.wrap ((BitVec.ofInt 64 a ^^^ BitVec.ofInt 64 b).toNat : Int) := rfl
  rw [e, wrap_ok (by omega) (by omega)]
  omega
theorem mod_in {x n : Int} (hx : 0 ≤ x) (hn : 1 ≤ n) : 0 ≤ x.tmod n ∧ x.tmod n < n := by
  rw [tmod_pos hx]
  exact ⟨Int.emod_nonneg _ (by omega), Int.emod_lt_of_pos _ (by omega)⟩
theorem pick_x (b c p q : Int) (hb : 0 ≤ b ∧ b ≤ 255) (hc : 0 ≤ c ∧ c ≤ 255) (hp : 0 ≤ p ∧ p ≤ 1000000000) (hq : 0 ≤ q ∧ q ≤ p) :
    0 ≤ bitI .xor .i64 (IntKind.i64.wrap (IntKind.i64.wrap (IntKind.i64.wrap (IntKind.i64.wrap (b * 131) + IntKind.i64.wrap (c * 1117)) + p * 29) + IntKind.i64.wrap (q * 53)))
      (IntKind.i64.wrap ((IntKind.i64.wrap (IntKind.i64.wrap (IntKind.i64.wrap (IntKind.i64.wrap (b * 131) + IntKind.i64.wrap (c * 1117)) + p * 29) + IntKind.i64.wrap (q * 53))).tdiv 64)) := by
  rw [wrap_ok (n := b * 131) (by omega) (by omega), wrap_ok (n := c * 1117) (by omega) (by omega), wrap_ok (n := b * 131 + c * 1117) (by omega) (by omega), wrap_ok (n := q * 53) (by omega) (by omega), wrap_ok (n := b * 131 + c * 1117 + p * 29) (by omega) (by omega),
    wrap_ok (n := b * 131 + c * 1117 + p * 29 + q * 53) (by omega) (by omega)]
  have h : 0 ≤ b * 131 + c * 1117 + p * 29 + q * 53 := by omega
  have h2 := Int.ediv_le_self 64 h
  have h3 := Int.ediv_nonneg h (show (0 : Int) ≤ 64 by omega)
  rw [tdiv_pos h, wrap_ok (by omega) (by omega)]
  exact (bit_xor h (by omega) h3 (by omega)).1
set_option maxRecDepth 100000 in
theorem l6Open_vc (ds : List Dat) :
    ds.length ≤ (140737488355328 : Nat) →
      (-9223372036854775808 : Int) ≤ (↑ds.length : Int) ∧ (↑ds.length : Int) ≤ (9223372036854775807 : Int) →
        (decide ((↑ds.length : Int) > (2000 : Int)) = true →
            ((0 : Int) ≤ (0 : Int) ∧ (0 : Int) ≤ (2000 : Int) ∧ (2000 : Int) ≤ (↑ds.length : Int)) ∧
              ∃ (_ : Unit),
                True ∧
                  List.drop (Int.toNat (0 : Int)) (List.take (Int.toNat (2000 : Int)) ds) = List.take (2000 : Nat) ds ∧
                    (0 : Int) = (0 : Int)) ∧
          (decide ((↑ds.length : Int) > (2000 : Int)) = false →
            ∃ (_ : Unit), True ∧ ds = List.take (2000 : Nat) ds ∧ (0 : Int) = (0 : Int)) := by
  refine fun _ _ => ⟨fun h => ⟨by simp at h; omega, (), trivial, rfl, rfl⟩, fun h => ⟨(), trivial, ?_, rfl⟩⟩
  rw [List.take_of_length_le]
  simp at h; omega
set_option maxRecDepth 100000 in
theorem l6Open_fn (ds : List Dat) : FnB Tryd.prog 20 [.sl (.int .u8) ds] (Unit) (fun g => ((fun _ => (True, (57, [.sl (.int .u8) (ds.take 2000), .int .i64 0])) : Unit → Prop × (TypeId × List SV)) g).1) (fun g => ((fun _ => (True, (57, [.sl (.int .u8) (ds.take 2000), .int .i64 0])) : Unit → Prop × (TypeId × List SV)) g).2) := by
  refine fnB_ok (ct := []) (L := fun _ => none) (q := (fun _ => (True, (57, [.sl (.int .u8) (ds.take 2000), .int .i64 0])) : Unit → Prop × (TypeId × List SV))) (by kernel_rfl) Tryd.func20 ?_
  have h := l6Open_vc ds
  apply VC.thru h
  kernel_rfl
noncomputable def l6Open_get (ins : List SV) : Option (Prop × (Unit → Prop × (TypeId × List SV))) :=
  match ins with
  | [.sl (.int .u8) ds] => some (True, (fun _ => (True, (57, [.sl (.int .u8) (ds.take 2000), .int .i64 0])) : Unit → Prop × (TypeId × List SV)))
  | _ => none
theorem l6Open_ok : ∀ ins p q, l6Open_get ins = some (p, q) → p → FnB Tryd.prog 20 ins (Unit) (fun g => (q g).1) (fun g => (q g).2) := by
  intro ins p q h hp
  unfold l6Open_get at h
  split at h
  · cases h; exact l6Open_fn _
  · cases h
noncomputable def l6Open_con : Con Tryd.prog := .fb 20 (Unit) l6Open_get (enters Tryd.func20 (by kernel_rfl) rfl) l6Open_ok
set_option maxRecDepth 100000 in
theorem pick_vc (ds : List Dat) (p n : Int) (hp : 0 ≤ p ∧ p ≤ 1000000000) :
    (-9223372036854775808 : Int) ≤ n ∧ n ≤ (9223372036854775807 : Int) →
      (-9223372036854775808 : Int) ≤ p ∧ p ≤ (9223372036854775807 : Int) →
        ((decide (n < (1 : Int)) || decide ((↑ds.length : Int) = (0 : Int))) = true →
            ∃ (x : Int),
              ((n < (1 : Int) → x = (0 : Int)) ∧ ((1 : Int) ≤ n → (0 : Int) ≤ x ∧ x < n)) ∧
                (0 : Int) = x ∧ ds = ds ∧ IntKind.i64.wrap (p + (1 : Int)) = p + (1 : Int)) ∧
          ((decide (n < (1 : Int)) || decide ((↑ds.length : Int) = (0 : Int))) = false →
            (-9223372036854775808 : Int) ≤ IntKind.i64.wrap (p + (1 : Int)) ∧
                IntKind.i64.wrap (p + (1 : Int)) ≤ (9223372036854775807 : Int) →
              (-9223372036854775808 : Int) ≤ (↑ds.length : Int) ∧ (↑ds.length : Int) ≤ (9223372036854775807 : Int) →
                (decide (IntKind.i64.wrap (IntKind.i64.wrap (p + (1 : Int)) - (1 : Int)) < (↑ds.length : Int)) = true →
                    ((0 : Int) ≤ IntKind.i64.wrap (IntKind.i64.wrap (p + (1 : Int)) - (1 : Int)) ∧
                        IntKind.i64.wrap (IntKind.i64.wrap (p + (1 : Int)) - (1 : Int)) < (↑ds.length : Int)) ∧
                      ((0 : Int) ≤
                            (ds.getD (IntKind.i64.wrap (IntKind.i64.wrap (p + (1 : Int)) - (1 : Int))).toNat
                                default).toInt ∧
                          (ds.getD (IntKind.i64.wrap (IntKind.i64.wrap (p + (1 : Int)) - (1 : Int))).toNat default).toInt ≤
                            (255 : Int) →
                        n ≠ (0 : Int) ∧
                          ∃ (x : Int),
                            ((n < (1 : Int) → x = (0 : Int)) ∧ ((1 : Int) ≤ n → (0 : Int) ≤ x ∧ x < n)) ∧
                              (IntKind.i64.wrap
                                        (ds.getD (IntKind.i64.wrap (IntKind.i64.wrap (p + (1 : Int)) - (1 : Int))).toNat
                                            default).toInt).tmod
                                    n =
                                  x ∧
                                ds = ds ∧ IntKind.i64.wrap (p + (1 : Int)) = p + (1 : Int))) ∧
                  (decide (IntKind.i64.wrap (IntKind.i64.wrap (p + (1 : Int)) - (1 : Int)) < (↑ds.length : Int)) = false →
                    (-9223372036854775808 : Int) ≤ (↑ds.length : Int) ∧ (↑ds.length : Int) ≤ (9223372036854775807 : Int) →
                      (↑ds.length : Int) ≠ (0 : Int) ∧
                        ((0 : Int) ≤
                              (IntKind.i64.wrap (IntKind.i64.wrap (p + (1 : Int)) - (1 : Int))).tmod (↑ds.length : Int) ∧
                            (IntKind.i64.wrap (IntKind.i64.wrap (p + (1 : Int)) - (1 : Int))).tmod (↑ds.length : Int) <
                              (↑ds.length : Int)) ∧
                          ((0 : Int) ≤
                                (ds.getD
                                    ((IntKind.i64.wrap (IntKind.i64.wrap (p + (1 : Int)) - (1 : Int))).tmod
                                        (↑ds.length : Int)).toNat
                                    default).toInt ∧
                              (ds.getD
                                    ((IntKind.i64.wrap (IntKind.i64.wrap (p + (1 : Int)) - (1 : Int))).tmod
                                        (↑ds.length : Int)).toNat
                                    default).toInt ≤
                                (255 : Int) →
                            (-9223372036854775808 : Int) ≤ (↑ds.length : Int) ∧
                                (↑ds.length : Int) ≤ (9223372036854775807 : Int) →
                              (↑ds.length : Int) ≠ (0 : Int) ∧
                                ((0 : Int) ≤
                                      (IntKind.i64.wrap
                                            (IntKind.i64.wrap
                                                (IntKind.i64.wrap (IntKind.i64.wrap (p + (1 : Int)) - (1 : Int)) *
                                                  (7 : Int)) +
                                              (3 : Int))).tmod
                                        (↑ds.length : Int) ∧
                                    (IntKind.i64.wrap
                                            (IntKind.i64.wrap
                                                (IntKind.i64.wrap (IntKind.i64.wrap (p + (1 : Int)) - (1 : Int)) *
                                                  (7 : Int)) +
                                              (3 : Int))).tmod
                                        (↑ds.length : Int) <
                                      (↑ds.length : Int)) ∧
                                  ((0 : Int) ≤
                                        (ds.getD
                                            ((IntKind.i64.wrap
                                                    (IntKind.i64.wrap
                                                        (IntKind.i64.wrap (IntKind.i64.wrap (p + (1 : Int)) - (1 : Int)) *
                                                          (7 : Int)) +
                                                      (3 : Int))).tmod
                                                (↑ds.length : Int)).toNat
                                            default).toInt ∧
                                      (ds.getD
                                            ((IntKind.i64.wrap
                                                    (IntKind.i64.wrap
                                                        (IntKind.i64.wrap (IntKind.i64.wrap (p + (1 : Int)) - (1 : Int)) *
                                                          (7 : Int)) +
                                                      (3 : Int))).tmod
                                                (↑ds.length : Int)).toNat
                                            default).toInt ≤
                                        (255 : Int) →
                                    (-9223372036854775808 : Int) ≤ (↑ds.length : Int) ∧
                                        (↑ds.length : Int) ≤ (9223372036854775807 : Int) →
                                      (↑ds.length : Int) ≠ (0 : Int) ∧
                                        (64 : Int) ≠ (0 : Int) ∧
                                          n ≠ (0 : Int) ∧
                                            ∃ (x : Int),
                                              ((n < (1 : Int) → x = (0 : Int)) ∧ ((1 : Int) ≤ n → (0 : Int) ≤ x ∧ x < n)) ∧
                                                (bitI BinOp.xor IntKind.i64
                                                          (IntKind.i64.wrap
                                                            (IntKind.i64.wrap
                                                                (IntKind.i64.wrap
                                                                    (IntKind.i64.wrap
                                                                        (IntKind.i64.wrap
                                                                            (ds.getD
                                                                                ((IntKind.i64.wrap
                                                                                        (IntKind.i64.wrap (p + (1 : Int)) -
                                                                                          (1 : Int))).tmod
                                                                                    (↑ds.length : Int)).toNat
                                                                                default).toInt *
                                                                          (131 : Int)) +
                                                                      IntKind.i64.wrap
                                                                        (IntKind.i64.wrap
                                                                            (ds.getD
                                                                                ((IntKind.i64.wrap
                                                                                        (IntKind.i64.wrap
                                                                                            (IntKind.i64.wrap
                                                                                                (IntKind.i64.wrap
                                                                                                    (p + (1 : Int)) -
                                                                                                  (1 : Int)) *
                                                                                              (7 : Int)) +
                                                                                          (3 : Int))).tmod
                                                                                    (↑ds.length : Int)).toNat
                                                                                default).toInt *
                                                                          (1117 : Int))) +
                                                                  IntKind.i64.wrap
                                                                    (IntKind.i64.wrap
                                                                        (IntKind.i64.wrap (p + (1 : Int)) - (1 : Int)) *
                                                                      (29 : Int))) +
                                                              IntKind.i64.wrap
                                                                (IntKind.i64.wrap
                                                                    ((IntKind.i64.wrap
                                                                          (IntKind.i64.wrap (p + (1 : Int)) -
                                                                            (1 : Int))).tdiv
                                                                      (↑ds.length : Int)) *
                                                                  (53 : Int))))
                                                          (IntKind.i64.wrap
                                                            ((IntKind.i64.wrap
                                                                  (IntKind.i64.wrap
                                                                      (IntKind.i64.wrap
                                                                          (IntKind.i64.wrap
                                                                              (IntKind.i64.wrap
                                                                                  (ds.getD
                                                                                      ((IntKind.i64.wrap
                                                                                              (IntKind.i64.wrap
                                                                                                  (p + (1 : Int)) -
                                                                                                (1 : Int))).tmod
                                                                                          (↑ds.length : Int)).toNat
                                                                                      default).toInt *
                                                                                (131 : Int)) +
                                                                            IntKind.i64.wrap
                                                                              (IntKind.i64.wrap
                                                                                  (ds.getD
                                                                                      ((IntKind.i64.wrap
                                                                                              (IntKind.i64.wrap
                                                                                                  (IntKind.i64.wrap
                                                                                                      (IntKind.i64.wrap
                                                                                                          (p + (1 : Int)) -
                                                                                                        (1 : Int)) *
                                                                                                    (7 : Int)) +
                                                                                                (3 : Int))).tmod
                                                                                          (↑ds.length : Int)).toNat
                                                                                      default).toInt *
                                                                                (1117 : Int))) +
                                                                        IntKind.i64.wrap
                                                                          (IntKind.i64.wrap
                                                                              (IntKind.i64.wrap (p + (1 : Int)) -
                                                                                (1 : Int)) *
                                                                            (29 : Int))) +
                                                                    IntKind.i64.wrap
                                                                      (IntKind.i64.wrap
                                                                          ((IntKind.i64.wrap
                                                                                (IntKind.i64.wrap (p + (1 : Int)) -
                                                                                  (1 : Int))).tdiv
                                                                            (↑ds.length : Int)) *
                                                                        (53 : Int)))).tdiv
                                                              (64 : Int)))).tmod
                                                      n =
                                                    x ∧
                                                  ds = ds ∧ IntKind.i64.wrap (p + (1 : Int)) = p + (1 : Int))))) := by
  intro hn hp'
  have e1 : IntKind.i64.wrap (p + 1) = p + 1 := wrap_ok (by omega) (by omega)
  have e2 : IntKind.i64.wrap (p + 1 - 1) = p := by rw [wrap_ok (by omega) (by omega)]; omega
  have e3 : IntKind.i64.wrap (p * 7) = p * 7 := wrap_ok (by omega) (by omega)
  have e4 : IntKind.i64.wrap (p * 7 + 3) = p * 7 + 3 := wrap_ok (by omega) (by omega)
  have e5 : IntKind.i64.wrap (p * 29) = p * 29 := wrap_ok (by omega) (by omega)
  simp only [e1, e2, e3, e4, e5]
  refine ⟨fun h => ⟨0, ⟨fun _ => rfl, fun h' => ?_⟩, rfl, by simp⟩, fun h _ hl => ?_⟩
  · omega
  · rw [Bool.or_eq_false_iff, decide_eq_false_iff_not, decide_eq_false_iff_not] at h
    have hn1 : 1 ≤ n := by omega
    have hl1 : 1 ≤ (ds.length : Int) := by omega
    refine ⟨fun h2 => ⟨⟨hp.1, of_decide_eq_true h2⟩, fun hb => ⟨by omega, _, ⟨fun _ => by omega, fun _ => ?_⟩, rfl, by simp⟩⟩, fun _ _ => ⟨by omega, mod_in (by omega) hl1, fun hb _ => ⟨by omega, mod_in (by omega) hl1, fun hc _ => ⟨by omega, by omega, by omega, _, ⟨fun _ => by omega, fun _ => ?_⟩, rfl, by simp⟩⟩⟩⟩
    · rw [wrap_ok (by omega) (by omega)]
      exact mod_in hb.1 hn1
    · refine mod_in ?_ hn1
      have hq : 0 ≤ p.tdiv (ds.length : Int) ∧ p.tdiv (ds.length : Int) ≤ p := by
        rw [tdiv_pos hp.1]
        exact ⟨Int.ediv_nonneg hp.1 (by omega), Int.ediv_le_self _ hp.1⟩
      have e6 := wrap_ok (Int.le_trans (by decide) hb.1) (Int.le_trans hb.2 (by decide))
      have e7 := wrap_ok (Int.le_trans (by decide) hc.1) (Int.le_trans hc.2 (by decide))
      have e8 : IntKind.i64.wrap (p.tdiv (ds.length : Int)) = p.tdiv (ds.length : Int) := wrap_ok (by omega) (by omega)
      rw [e6, e7, e8]
      exact pick_x _ _ p _ hb hc hp hq
set_option maxRecDepth 100000 in
theorem pick_fn (ds : List Dat) (p n : Int) (hp : 0 ≤ p ∧ p ≤ 1000000000) : Fn Tryd.prog 22 [.bp 0 0, .int .i64 n] (some ((57, [.sl (.int .u8) ds, .int .i64 p]))) (Int) (fun g => ((fun g => ((n < 1 → g = 0) ∧ (1 ≤ n → 0 ≤ g ∧ g < n), .int .i64 g, (some ((57, [.sl (.int .u8) ds, .int .i64 (p + 1)])))) : Int → Prop × SV × Option (TypeId × List SV)) g).1) (fun g => ((fun g => ((n < 1 → g = 0) ∧ (1 ≤ n → 0 ≤ g ∧ g < n), .int .i64 g, (some ((57, [.sl (.int .u8) ds, .int .i64 (p + 1)])))) : Int → Prop × SV × Option (TypeId × List SV)) g).2.1) (fun g => ((fun g => ((n < 1 → g = 0) ∧ (1 ≤ n → 0 ≤ g ∧ g < n), .int .i64 g, (some ((57, [.sl (.int .u8) ds, .int .i64 (p + 1)])))) : Int → Prop × SV × Option (TypeId × List SV)) g).2.2) := by
  refine fn_ok (ct := []) (L := fun _ => none) (q := (fun g => ((n < 1 → g = 0) ∧ (1 ≤ n → 0 ≤ g ∧ g < n), .int .i64 g, (some ((57, [.sl (.int .u8) ds, .int .i64 (p + 1)])))) : Int → Prop × SV × Option (TypeId × List SV))) (by kernel_rfl) Tryd.func22 (fun _ => rfl) ?_
  have h := pick_vc ds p n hp
  apply VC.thru h
  kernel_rfl
noncomputable def pick_get (ins : List SV) (bs : Option (TypeId × List SV)) : Option (Prop × (Int → Prop × SV × Option (TypeId × List SV))) :=
  match ins, bs with
  | [.bp 0 0, .int .i64 n], (some ((57, [.sl (.int .u8) ds, .int .i64 p]))) => some (0 ≤ p ∧ p ≤ 1000000000, (fun g => ((n < 1 → g = 0) ∧ (1 ≤ n → 0 ≤ g ∧ g < n), .int .i64 g, (some ((57, [.sl (.int .u8) ds, .int .i64 (p + 1)])))) : Int → Prop × SV × Option (TypeId × List SV)))
  | _, _ => none
theorem pick_ok : ∀ ins bs p q, pick_get ins bs = some (p, q) → p → Fn Tryd.prog 22 ins bs (Int) (fun g => (q g).1) (fun g => (q g).2.1) (fun g => (q g).2.2) := by
  intro ins bs p q h hp
  unfold pick_get at h
  split at h
  · cases h; exact pick_fn _ _ _ hp
  · cases h
noncomputable def pick_con : Con Tryd.prog := .fg 22 (Int) pick_get (enters Tryd.func22 (by kernel_rfl) rfl) pick_ok
set_option maxRecDepth 100000 in
theorem of_vc (ds ls : List Dat) (p : Int) (hp : (0 ≤ p ∧ p ≤ 1000000000) ∧ 1 ≤ ls.length) :
    ls.length ≤ (140737488355328 : Nat) →
      (-9223372036854775808 : Int) ≤ (↑ls.length : Int) ∧ (↑ls.length : Int) ≤ (9223372036854775807 : Int) →
        ((0 : Int) ≤ p ∧ p ≤ (1000000000 : Int)) ∧
          ∀ (x : Int),
            ((↑ls.length : Int) < (1 : Int) → x = (0 : Int)) ∧
                ((1 : Int) ≤ (↑ls.length : Int) → (0 : Int) ≤ x ∧ x < (↑ls.length : Int)) →
              ((0 : Int) ≤ x ∧ x < (↑ls.length : Int)) ∧
                ∃ (x_1 : ByteArray),
                  (∃ (i : Nat), i < ls.length ∧ (ls.getD i default).toStr = x_1) ∧
                    (ls.getD x.toNat default).toStr = x_1 ∧ ds = ds ∧ p + (1 : Int) = p + (1 : Int) := by
  exact fun _ _ => ⟨hp.1, fun x hx => ⟨hx.2 (by omega), _, ⟨x.toNat, by have := hx.2 (by omega); omega, rfl⟩, rfl, rfl, rfl⟩⟩
set_option maxRecDepth 100000 in
theorem of_fn (ds ls : List Dat) (p : Int) (hp : (0 ≤ p ∧ p ≤ 1000000000) ∧ 1 ≤ ls.length) : Fn Tryd.prog 24 [.bp 0 0, .sl .str ls] (some ((57, [.sl (.int .u8) ds, .int .i64 p]))) (ByteArray) (fun g => ((fun g => (∃ i, i < ls.length ∧ (ls.getD i default).toStr = g, .str g, (some ((57, [.sl (.int .u8) ds, .int .i64 (p + 1)])))) : ByteArray → Prop × SV × Option (TypeId × List SV)) g).1) (fun g => ((fun g => (∃ i, i < ls.length ∧ (ls.getD i default).toStr = g, .str g, (some ((57, [.sl (.int .u8) ds, .int .i64 (p + 1)])))) : ByteArray → Prop × SV × Option (TypeId × List SV)) g).2.1) (fun g => ((fun g => (∃ i, i < ls.length ∧ (ls.getD i default).toStr = g, .str g, (some ((57, [.sl (.int .u8) ds, .int .i64 (p + 1)])))) : ByteArray → Prop × SV × Option (TypeId × List SV)) g).2.2) := by
  refine fn_ok (ct := [pick_con]) (L := fun _ => none) (q := (fun g => (∃ i, i < ls.length ∧ (ls.getD i default).toStr = g, .str g, (some ((57, [.sl (.int .u8) ds, .int .i64 (p + 1)])))) : ByteArray → Prop × SV × Option (TypeId × List SV))) (by kernel_rfl) Tryd.func24 (fun _ => rfl) ?_
  have h := of_vc ds ls p hp
  apply VC.thru h
  kernel_rfl
noncomputable def of_get (ins : List SV) (bs : Option (TypeId × List SV)) : Option (Prop × (ByteArray → Prop × SV × Option (TypeId × List SV))) :=
  match ins, bs with
  | [.bp 0 0, .sl .str ls], (some ((57, [.sl (.int .u8) ds, .int .i64 p]))) => some ((0 ≤ p ∧ p ≤ 1000000000) ∧ 1 ≤ ls.length, (fun g => (∃ i, i < ls.length ∧ (ls.getD i default).toStr = g, .str g, (some ((57, [.sl (.int .u8) ds, .int .i64 (p + 1)])))) : ByteArray → Prop × SV × Option (TypeId × List SV)))
  | _, _ => none
theorem of_ok : ∀ ins bs p q, of_get ins bs = some (p, q) → p → Fn Tryd.prog 24 ins bs (ByteArray) (fun g => (q g).1) (fun g => (q g).2.1) (fun g => (q g).2.2) := by
  intro ins bs p q h hp
  unfold of_get at h
  split at h
  · cases h; exact of_fn _ _ _ hp
  · cases h
noncomputable def of_con : Con Tryd.prog := .fg 24 (ByteArray) of_get (enters Tryd.func24 (by kernel_rfl) rfl) of_ok
end E
end Go.Proofs.YtbjapgekagljeaaDoor
