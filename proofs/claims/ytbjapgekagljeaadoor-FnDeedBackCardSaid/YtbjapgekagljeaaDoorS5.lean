/- The reference's reading of a deed. -/
import Derived.Test.YtbjapgekagljeaaDoorE17
import Derived.Test.YtbjapgekagljeaaDoorProg
import Derived.Test.YtbjapgekagljeaaDoorS1
namespace Go.Proofs.YtbjapgekagljeaaDoor
open Go Go.RowKit
namespace E

/-- A number's digits, read from a place on, as far as it stays small. -/
def numFrom (t : ByteArray) (i : Nat) (n : Int) : Int :=
  if _h : i < t.size ∧ n < 1000 then numFrom t (i + 1) (if 48 ≤ byteAt t i ∧ byteAt t i ≤ 57 then n * 10 + (byteAt t i - 48) else n) else n
  termination_by t.size - i
theorem numFrom_step (t : ByteArray) (i : Nat) (n : Int) (h : i < t.size ∧ n < 1000) : numFrom t i n = numFrom t (i + 1) (if 48 ≤ byteAt t i ∧ byteAt t i ≤ 57 then n * 10 + (byteAt t i - 48) else n) := by
  rw [numFrom, dif_pos h]
theorem numFrom_stop (t : ByteArray) (i : Nat) (n : Int) (h : ¬ (i < t.size ∧ n < 1000)) : numFrom t i n = n := by
  rw [numFrom, dif_neg h]
set_option maxRecDepth 100000 in
theorem sNum_vc (t : ByteArray) :
    t.size ≤ (140737488351232 : Nat) →
      (∃ (x : Int × Int),
          ((0 : Int) ≤ x.fst ∧
              x.fst ≤ (↑t.size : Int) ∧
                (0 : Int) ≤ x.snd ∧ x.snd ≤ (10009 : Int) ∧ numFrom t x.fst.toNat x.snd = numFrom t (0 : Nat) (0 : Int)) ∧
            t = t ∧ (0 : Int) = x.snd ∧ (0 : Int) = x.fst) ∧
        ∀ (x : Int × Int),
          (0 : Int) ≤ x.fst ∧
              x.fst ≤ (↑t.size : Int) ∧
                (0 : Int) ≤ x.snd ∧ x.snd ≤ (10009 : Int) ∧ numFrom t x.fst.toNat x.snd = numFrom t (0 : Nat) (0 : Int) →
            ((decide (x.fst < (↑t.size : Int)) && decide (x.snd < (1000 : Int))) = true →
                (((0 : Int) ≤ x.fst ∧ x.fst < (↑t.size : Int)) ∧
                    ((0 : Int) ≤ byteAt t x.fst.toNat ∧ byteAt t x.fst.toNat ≤ (255 : Int) →
                      (decide (byteAt t x.fst.toNat ≥ (48 : Int)) = true → (0 : Int) ≤ x.fst ∧ x.fst < (↑t.size : Int)) ∧
                        True)) ∧
                  ((decide (byteAt t x.fst.toNat ≥ (48 : Int)) && decide (byteAt t x.fst.toNat ≤ (57 : Int))) = true →
                      ((0 : Int) ≤ x.fst ∧ x.fst < (↑t.size : Int)) ∧
                        ((0 : Int) ≤ byteAt t x.fst.toNat ∧ byteAt t x.fst.toNat ≤ (255 : Int) →
                          ∃ (x_1 : Int × Int),
                            (((0 : Int) ≤ x_1.fst ∧
                                  x_1.fst ≤ (↑t.size : Int) ∧
                                    (0 : Int) ≤ x_1.snd ∧
                                      x_1.snd ≤ (10009 : Int) ∧
                                        numFrom t x_1.fst.toNat x_1.snd = numFrom t (0 : Nat) (0 : Int)) ∧
                                t.size - x_1.fst.toNat < t.size - x.fst.toNat) ∧
                              t = t ∧
                                IntKind.i64.wrap
                                      (IntKind.i64.wrap (x.snd * (10 : Int)) +
                                        IntKind.i64.wrap (IntKind.u8.wrap (byteAt t x.fst.toNat - (48 : Int)))) =
                                    x_1.snd ∧
                                  IntKind.i64.wrap (x.fst + (1 : Int)) = x_1.fst)) ∧
                    ((decide (byteAt t x.fst.toNat ≥ (48 : Int)) && decide (byteAt t x.fst.toNat ≤ (57 : Int))) = false →
                      ∃ (x_1 : Int × Int),
                        (((0 : Int) ≤ x_1.fst ∧
                              x_1.fst ≤ (↑t.size : Int) ∧
                                (0 : Int) ≤ x_1.snd ∧
                                  x_1.snd ≤ (10009 : Int) ∧
                                    numFrom t x_1.fst.toNat x_1.snd = numFrom t (0 : Nat) (0 : Int)) ∧
                            t.size - x_1.fst.toNat < t.size - x.fst.toNat) ∧
                          t = t ∧ x.snd = x_1.snd ∧ IntKind.i64.wrap (x.fst + (1 : Int)) = x_1.fst)) ∧
              ((decide (x.fst < (↑t.size : Int)) && decide (x.snd < (1000 : Int))) = false →
                x.snd = numFrom t (0 : Nat) (0 : Int)) := by
  intro ht
  refine ⟨⟨(0, 0), ⟨by simp, by simp, by simp, by simp, rfl⟩, rfl, rfl, rfl⟩, ?_⟩
  rintro ⟨i, n⟩ ⟨h1, h2, h3, h4, h5⟩
  dsimp only at h1 h2 h3 h4 h5 ⊢
  have hw : IntKind.i64.wrap (i + 1) = i + 1 := wrap_ok (by omega) (by omega)
  have hi : (i + 1).toNat = i.toNat + 1 := by omega
  refine ⟨fun h => ?_, fun h => ?_⟩
  · rw [Bool.and_eq_true, decide_eq_true_eq, decide_eq_true_eq] at h
    have e := numFrom_step t i.toNat n (by omega)
    rw [h5] at e
    refine ⟨⟨⟨h1, h.1⟩, fun _ => ⟨fun _ => ⟨h1, h.1⟩, trivial⟩⟩, fun hd => ⟨⟨h1, h.1⟩, fun hb => ⟨(i + 1, n * 10 + (byteAt t i.toNat - 48)), ⟨⟨?_, ?_, ?_, ?_, ?_⟩, ?_⟩, rfl, ?_, hw⟩⟩, fun hd => ⟨(i + 1, n), ⟨⟨?_, ?_, ?_, ?_, ?_⟩, ?_⟩, rfl, rfl, hw⟩⟩
    all_goals simp only [Bool.and_eq_true, decide_eq_true_eq, Bool.and_eq_false_iff, decide_eq_false_iff_not, ge_iff_le] at hd ⊢
    all_goals try omega
    · rw [hi, e, if_pos hd]
    · rw [wrap_ok (n := n * 10) (by omega) (by omega), wrap_u8 (by omega) (by omega), wrap_ok (n := byteAt t i.toNat - 48) (by omega) (by omega), wrap_ok (by omega) (by omega)]
    · rw [hi, e, if_neg (by omega)]
  · rw [Bool.and_eq_false_iff, decide_eq_false_iff_not, decide_eq_false_iff_not] at h
    rw [← h5, numFrom_stop t i.toNat n (by omega)]
set_option maxRecDepth 100000 in
theorem sNum_fn (t : ByteArray) : Fn Tryd.prog 26 [.str t] none Unit (fun _ => True) (fun _ => .int .i64 (numFrom t 0 0)) (fun _ => none) := by
  refine fn_ok0 (ct := []) (L := fun k => bif Nat.beq k 3 then some (.g (⟨Int × Int, fun s g => hd s [0] [(3, .int .i64 g.2), (4, .int .i64 g.1)] [], fun g => 0 ≤ g.1 ∧ g.1 ≤ t.size ∧ 0 ≤ g.2 ∧ g.2 ≤ 10009 ∧ numFrom t g.1.toNat g.2 = numFrom t 0 0, fun g => t.size - g.1.toNat⟩)) else none) (by kernel_rfl) Tryd.func26 rfl ?_
  have h := sNum_vc t
  apply VC.thru h
  kernel_rfl
noncomputable def sNum_get (ins : List SV) (bs : Option (TypeId × List SV)) : Option Got :=
  match ins, bs with
  | [.str t], none => some (True, .int .i64 (numFrom t 0 0), none)
  | _, _ => none
theorem sNum_ok : ∀ ins bs p out bs', sNum_get ins bs = some (p, out, bs') → p → Fn Tryd.prog 26 ins bs Unit (fun _ => True) (fun _ => out) (fun _ => bs') := by
  intro ins bs p out bs' h hp
  unfold sNum_get at h
  split at h
  · cases h; exact sNum_fn _
  · cases h
noncomputable def sNum_con : Con Tryd.prog := .f0 26 sNum_get (enters Tryd.func26 (by kernel_rfl) rfl) sNum_ok
/-- A text, cut at a letter: the pieces before a place, and where the next one starts. -/
def splitTo (t : ByteArray) (c : Int) : Nat → List Dat × Nat
  | 0 => ([], 0)
  | i + 1 => if byteAt t i = c then ((splitTo t c i).1 ++ [.str (t.extract (splitTo t c i).2 i)], i + 1) else splitTo t c i
def split (t : ByteArray) (c : Int) : List Dat := (splitTo t c t.size).1 ++ [.str (t.extract (splitTo t c t.size).2 t.size)]
theorem bytes_str : Tryd.prog.types[(9 : Nat)].bytes = 16 := by kernel_rfl
theorem splitTo_le (t : ByteArray) (c : Int) : ∀ i, (splitTo t c i).2 ≤ i ∧ (splitTo t c i).1.length ≤ i
  | 0 => ⟨Nat.le_refl _, Nat.le_refl _⟩
  | i + 1 => by
    have h := splitTo_le t c i
    unfold splitTo
    split
    · simp; omega
    · omega
set_option maxRecDepth 100000 in
theorem sSplit_vc (t : ByteArray) (c : Int) (hp : t.size ≤ 2000000) :
    t.size ≤ (140737488351232 : Nat) →
      (0 : Int) ≤ c ∧ c ≤ (255 : Int) →
        (∃ (x : Nat),
            x ≤ t.size ∧
              t = t ∧
                c = c ∧ (0 : Int) = (↑(splitTo t c x).snd : Int) ∧ (0 : Int) = (↑x : Int) ∧ [] = (splitTo t c x).fst) ∧
          ∀ (x : Nat),
            x ≤ t.size →
              (-9223372036854775808 : Int) ≤ (↑t.size : Int) ∧ (↑t.size : Int) ≤ (9223372036854775807 : Int) →
                (decide ((↑x : Int) < (↑t.size : Int)) = true →
                    ((0 : Int) ≤ (↑x : Int) ∧ (↑x : Int) < (↑t.size : Int)) ∧
                      ((0 : Int) ≤ byteAt t (↑x : Int).toNat ∧ byteAt t (↑x : Int).toNat ≤ (255 : Int) →
                        (decide (byteAt t (↑x : Int).toNat = c) = true →
                            ((0 : Int) ≤ (↑(splitTo t c x).snd : Int) ∧
                                (↑(splitTo t c x).snd : Int) ≤ (↑x : Int) ∧ (↑x : Int) ≤ (↑t.size : Int)) ∧
                              ((splitTo t c x).fst.length +
                                      [Dat.str (t.extract (↑(splitTo t c x).snd : Int).toNat (↑x : Int).toNat)].length) *
                                    Tryd.prog.types[(9 : Nat)].bytes ≤
                                  (140737488355328 : Nat) ∧
                                ∃ (x_1 : Nat),
                                  (x_1 ≤ t.size ∧ t.size - x_1 < t.size - x) ∧
                                    t = t ∧
                                      c = c ∧
                                        IntKind.i64.wrap ((↑x : Int) + (1 : Int)) = (↑(splitTo t c x_1).snd : Int) ∧
                                          IntKind.i64.wrap ((↑x : Int) + (1 : Int)) = (↑x_1 : Int) ∧
                                            (splitTo t c x).fst ++
                                                [Dat.str (t.extract (↑(splitTo t c x).snd : Int).toNat (↑x : Int).toNat)] =
                                              (splitTo t c x_1).fst) ∧
                          (decide (byteAt t (↑x : Int).toNat = c) = false →
                            ∃ (x_1 : Nat),
                              (x_1 ≤ t.size ∧ t.size - x_1 < t.size - x) ∧
                                t = t ∧
                                  c = c ∧
                                    (↑(splitTo t c x).snd : Int) = (↑(splitTo t c x_1).snd : Int) ∧
                                      IntKind.i64.wrap ((↑x : Int) + (1 : Int)) = (↑x_1 : Int) ∧
                                        (splitTo t c x).fst = (splitTo t c x_1).fst))) ∧
                  (decide ((↑x : Int) < (↑t.size : Int)) = false →
                    ((0 : Int) ≤ (↑(splitTo t c x).snd : Int) ∧
                        (↑(splitTo t c x).snd : Int) ≤ (↑t.size : Int) ∧ (↑t.size : Int) ≤ (↑t.size : Int)) ∧
                      ((splitTo t c x).fst.length +
                              [Dat.str (t.extract (↑(splitTo t c x).snd : Int).toNat (↑t.size : Int).toNat)].length) *
                            Tryd.prog.types[(9 : Nat)].bytes ≤
                          (140737488355328 : Nat) ∧
                        (splitTo t c x).fst ++
                            [Dat.str (t.extract (↑(splitTo t c x).snd : Int).toNat (↑t.size : Int).toNat)] =
                          split t c) := by
  intro ht hc
  refine ⟨⟨0, Nat.zero_le _, rfl, rfl, rfl, rfl, rfl⟩, fun i hi hl => ?_⟩
  have hle := splitTo_le t c i
  have hw : IntKind.i64.wrap ((i : Int) + 1) = ((i + 1 : Nat) : Int) := by rw [wrap_ok (by omega) (by omega)]; omega
  have hb := bytes_str
  refine ⟨fun h => ?_, fun h => ?_⟩
  · rw [decide_eq_true_eq] at h
    refine ⟨⟨by omega, h⟩, fun hx => ⟨fun he => ⟨⟨by omega, by omega, by omega⟩, ?_, i + 1, ⟨by omega, by omega⟩, rfl, rfl, ?_, hw, ?_⟩, fun he => ⟨i + 1, ⟨by omega, by omega⟩, rfl, rfl, ?_, hw, ?_⟩⟩⟩
    · rw [hb]; simp only [List.length_cons, List.length_nil]; omega
    all_goals simp only [decide_eq_true_eq, decide_eq_false_iff_not, Int.toNat_natCast] at he ⊢
    · rw [hw, splitTo, if_pos he]
    · rw [splitTo, if_pos he]
    · rw [splitTo, if_neg he]
    · rw [splitTo, if_neg he]
  · rw [decide_eq_false_iff_not] at h
    obtain rfl : i = t.size := by omega
    refine ⟨⟨by omega, by omega, by omega⟩, ?_, rfl⟩
    rw [hb]; simp only [List.length_cons, List.length_nil]; omega
set_option maxRecDepth 100000 in
theorem sSplit_fn (t : ByteArray) (c : Int) (hp : t.size ≤ 2000000) : Fn Tryd.prog 25 [.str t, .int .u8 c] none Unit (fun _ => True) (fun _ => .sl .str (split t c)) (fun _ => none) := by
  refine fn_ok0 (ct := []) (L := fun k => bif Nat.beq k 4 then some (.g (⟨Nat, fun s g => hd s [0, 1] [(5, .own 0), (6, .int .i64 (splitTo t c g).2), (7, .int .i64 g)] [⟨9, .str, (splitTo t c g).1, 0⟩], fun g => g ≤ t.size, fun g => t.size - g⟩)) else none) (by kernel_rfl) Tryd.func25 rfl ?_
  have h := sSplit_vc t c hp
  apply VC.thru h
  kernel_rfl
noncomputable def sSplit_get (ins : List SV) (bs : Option (TypeId × List SV)) : Option Got :=
  match ins, bs with
  | [.str t, .int .u8 c], none => some (t.size ≤ 2000000, .sl .str (split t c), none)
  | _, _ => none
theorem sSplit_ok : ∀ ins bs p out bs', sSplit_get ins bs = some (p, out, bs') → p → Fn Tryd.prog 25 ins bs Unit (fun _ => True) (fun _ => out) (fun _ => bs') := by
  intro ins bs p out bs' h hp
  unfold sSplit_get at h
  split at h
  · cases h; exact sSplit_fn _ _ hp
  · cases h
noncomputable def sSplit_con : Con Tryd.prog := .f0 25 sSplit_get (enters Tryd.func25 (by kernel_rfl) rfl) sSplit_ok
/-- A word's kind, among the first so many. -/
def kindTo (w : ByteArray) : Nat → Int
  | 0 => 0
  | k + 1 => if word (k + 1) = w then (k + 1 : Nat) else kindTo w k
def wordAt (t : ByteArray) (i : Nat) : ByteArray := ((split t 32).getD i default).toStr
def rawD (t : ByteArray) : Int × Int × Int :=
  (kindTo (wordAt t 0) 10, if 1 < (split t 32).length then numFrom (wordAt t 1) 0 0 else 0, if 2 < (split t 32).length then numFrom (wordAt t 2) 0 0 else 0)
def badD (t : ByteArray) (k a b : Int) : Bool := decide (t = ByteArray.mk #[]) || (decide ((t.size : Int) > 30) || decide (txtD k a b ≠ t))
def okD (t : ByteArray) : Bool := !badD t (rawD t).1 (rawD t).2.1 (rawD t).2.2
def readD (t : ByteArray) : Int × Int × Int := if okD t then rawD t else (0, 0, 0)
theorem read_no {t : ByteArray} {k a b : Int} (h : rawD t = (k, a, b)) (hb : (decide (t = ByteArray.mk #[]) || (decide ((t.size : Int) > 30) || decide (txtD k a b ≠ t))) = true) : 0 = (readD t).1 ∧ 0 = (readD t).2.1 ∧ 0 = (readD t).2.2 ∧ okD t = false := by
  have e : okD t = false := by unfold okD badD; rw [h]; simp only [hb]; rfl
  have e2 : readD t = (0, 0, 0) := by unfold readD; rw [if_neg (by simp [e])]
  rw [e2]
  exact ⟨rfl, rfl, rfl, e⟩
theorem read_yes {t : ByteArray} {k a b : Int} (h : rawD t = (k, a, b)) (hb : (decide (t = ByteArray.mk #[]) || (decide ((t.size : Int) > 30) || decide (txtD k a b ≠ t))) = false) : k = (readD t).1 ∧ a = (readD t).2.1 ∧ b = (readD t).2.2 ∧ okD t = true := by
  have e : okD t = true := by unfold okD badD; rw [h]; simp only [hb]; rfl
  have e2 : readD t = (k, a, b) := by unfold readD; rw [if_pos e, h]
  rw [e2]
  exact ⟨rfl, rfl, rfl, e⟩
theorem split_pos (t : ByteArray) (c : Int) : 1 ≤ (split t c).length := by unfold split; simp
set_option maxRecDepth 100000 in
theorem sDeedRead_vc (t : ByteArray) (hp : t.size ≤ 2000000) :
    t.size ≤ (140737488351232 : Nat) →
      t.size ≤ (2000000 : Nat) ∧
        (∃ (x : Nat),
            x ≤ (10 : Nat) ∧
              t = t ∧
                split t (32 : Int) = split t (32 : Int) ∧
                  (1 : Int) = (↑x : Int) + (1 : Int) ∧
                    (0 : Int) = (0 : Int) ∧
                      (0 : Int) = (0 : Int) ∧
                        (0 : Int) = (0 : Int) ∧
                          (0 : Int) = kindTo (wordAt t (0 : Nat)) x ∧ (0 : Int) = (0 : Int) ∧ (0 : Int) = (0 : Int)) ∧
          ∀ (x : Nat),
            x ≤ (10 : Nat) →
              (decide ((↑x : Int) + (1 : Int) ≤ (10 : Int)) = true →
                  True ∧
                    ((0 : Int) ≤ (↑x : Int) + (1 : Int) ∧ (↑x : Int) + (1 : Int) < (↑namesD.length : Int)) ∧
                      ((0 : Int) ≤ (0 : Int) ∧ (0 : Int) < (↑(split t (32 : Int)).length : Int)) ∧
                        (decide
                                ((namesD.getD ((↑x : Int) + (1 : Int)).toNat default).toStr =
                                  ((split t (32 : Int)).getD (Int.toNat (0 : Int)) default).toStr) =
                              true →
                            ∃ (x_1 : Nat),
                              (x_1 ≤ (10 : Nat) ∧ (10 : Nat) - x_1 < (10 : Nat) - x) ∧
                                t = t ∧
                                  split t (32 : Int) = split t (32 : Int) ∧
                                    IntKind.i64.wrap ((↑x : Int) + (1 : Int) + (1 : Int)) = (↑x_1 : Int) + (1 : Int) ∧
                                      (0 : Int) = (0 : Int) ∧
                                        (0 : Int) = (0 : Int) ∧
                                          (0 : Int) = (0 : Int) ∧
                                            (↑x : Int) + (1 : Int) = kindTo (wordAt t (0 : Nat)) x_1 ∧
                                              (0 : Int) = (0 : Int) ∧ (0 : Int) = (0 : Int)) ∧
                          (decide
                                ((namesD.getD ((↑x : Int) + (1 : Int)).toNat default).toStr =
                                  ((split t (32 : Int)).getD (Int.toNat (0 : Int)) default).toStr) =
                              false →
                            ∃ (x_1 : Nat),
                              (x_1 ≤ (10 : Nat) ∧ (10 : Nat) - x_1 < (10 : Nat) - x) ∧
                                t = t ∧
                                  split t (32 : Int) = split t (32 : Int) ∧
                                    IntKind.i64.wrap ((↑x : Int) + (1 : Int) + (1 : Int)) = (↑x_1 : Int) + (1 : Int) ∧
                                      (0 : Int) = (0 : Int) ∧
                                        (0 : Int) = (0 : Int) ∧
                                          (0 : Int) = (0 : Int) ∧
                                            kindTo (wordAt t (0 : Nat)) x = kindTo (wordAt t (0 : Nat)) x_1 ∧
                                              (0 : Int) = (0 : Int) ∧ (0 : Int) = (0 : Int))) ∧
                (decide ((↑x : Int) + (1 : Int) ≤ (10 : Int)) = false →
                  (-9223372036854775808 : Int) ≤ (↑(split t (32 : Int)).length : Int) ∧
                      (↑(split t (32 : Int)).length : Int) ≤ (9223372036854775807 : Int) →
                    (decide ((↑(split t (32 : Int)).length : Int) > (1 : Int)) = true →
                        ((0 : Int) ≤ (1 : Int) ∧ (1 : Int) < (↑(split t (32 : Int)).length : Int)) ∧
                          True ∧
                            ((-9223372036854775808 : Int) ≤ (↑(split t (32 : Int)).length : Int) ∧
                                (↑(split t (32 : Int)).length : Int) ≤ (9223372036854775807 : Int) →
                              (decide ((↑(split t (32 : Int)).length : Int) > (2 : Int)) = true →
                                  ((0 : Int) ≤ (2 : Int) ∧ (2 : Int) < (↑(split t (32 : Int)).length : Int)) ∧
                                    True ∧
                                      ((decide (t = ByteArray.mk #[]) = false →
                                            (-9223372036854775808 : Int) ≤ (↑t.size : Int) ∧
                                                (↑t.size : Int) ≤ (9223372036854775807 : Int) →
                                              (decide ((↑t.size : Int) > (30 : Int)) = false → True) ∧ True) ∧
                                          True) ∧
                                        ((decide (t = ByteArray.mk #[]) ||
                                                (decide ((↑t.size : Int) > (30 : Int)) ||
                                                  decide
                                                    (txtD (kindTo (wordAt t (0 : Nat)) x)
                                                        (numFrom
                                                          ((split t (32 : Int)).getD (Int.toNat (1 : Int)) default).toStr
                                                          (0 : Nat) (0 : Int))
                                                        (numFrom
                                                          ((split t (32 : Int)).getD (Int.toNat (2 : Int)) default).toStr
                                                          (0 : Nat) (0 : Int)) ≠
                                                      t))) =
                                              true →
                                            (0 : Int) = (readD t).fst ∧
                                              (0 : Int) = (readD t).snd.fst ∧
                                                (0 : Int) = (readD t).snd.snd ∧ okD t = false) ∧
                                          ((decide (t = ByteArray.mk #[]) ||
                                                (decide ((↑t.size : Int) > (30 : Int)) ||
                                                  decide
                                                    (txtD (kindTo (wordAt t (0 : Nat)) x)
                                                        (numFrom
                                                          ((split t (32 : Int)).getD (Int.toNat (1 : Int)) default).toStr
                                                          (0 : Nat) (0 : Int))
                                                        (numFrom
                                                          ((split t (32 : Int)).getD (Int.toNat (2 : Int)) default).toStr
                                                          (0 : Nat) (0 : Int)) ≠
                                                      t))) =
                                              false →
                                            kindTo (wordAt t (0 : Nat)) x = (readD t).fst ∧
                                              numFrom ((split t (32 : Int)).getD (Int.toNat (1 : Int)) default).toStr
                                                    (0 : Nat) (0 : Int) =
                                                  (readD t).snd.fst ∧
                                                numFrom ((split t (32 : Int)).getD (Int.toNat (2 : Int)) default).toStr
                                                      (0 : Nat) (0 : Int) =
                                                    (readD t).snd.snd ∧
                                                  okD t = true)) ∧
                                (decide ((↑(split t (32 : Int)).length : Int) > (2 : Int)) = false →
                                  ((decide (t = ByteArray.mk #[]) = false →
                                        (-9223372036854775808 : Int) ≤ (↑t.size : Int) ∧
                                            (↑t.size : Int) ≤ (9223372036854775807 : Int) →
                                          (decide ((↑t.size : Int) > (30 : Int)) = false → True) ∧ True) ∧
                                      True) ∧
                                    ((decide (t = ByteArray.mk #[]) ||
                                            (decide ((↑t.size : Int) > (30 : Int)) ||
                                              decide
                                                (txtD (kindTo (wordAt t (0 : Nat)) x)
                                                    (numFrom ((split t (32 : Int)).getD (Int.toNat (1 : Int)) default).toStr
                                                      (0 : Nat) (0 : Int))
                                                    (0 : Int) ≠
                                                  t))) =
                                          true →
                                        (0 : Int) = (readD t).fst ∧
                                          (0 : Int) = (readD t).snd.fst ∧ (0 : Int) = (readD t).snd.snd ∧ okD t = false) ∧
                                      ((decide (t = ByteArray.mk #[]) ||
                                            (decide ((↑t.size : Int) > (30 : Int)) ||
                                              decide
                                                (txtD (kindTo (wordAt t (0 : Nat)) x)
                                                    (numFrom ((split t (32 : Int)).getD (Int.toNat (1 : Int)) default).toStr
                                                      (0 : Nat) (0 : Int))
                                                    (0 : Int) ≠
                                                  t))) =
                                          false →
                                        kindTo (wordAt t (0 : Nat)) x = (readD t).fst ∧
                                          numFrom ((split t (32 : Int)).getD (Int.toNat (1 : Int)) default).toStr (0 : Nat)
                                                (0 : Int) =
                                              (readD t).snd.fst ∧
                                            (0 : Int) = (readD t).snd.snd ∧ okD t = true)))) ∧
                      (decide ((↑(split t (32 : Int)).length : Int) > (1 : Int)) = false →
                        (-9223372036854775808 : Int) ≤ (↑(split t (32 : Int)).length : Int) ∧
                            (↑(split t (32 : Int)).length : Int) ≤ (9223372036854775807 : Int) →
                          (decide ((↑(split t (32 : Int)).length : Int) > (2 : Int)) = true →
                              ((0 : Int) ≤ (2 : Int) ∧ (2 : Int) < (↑(split t (32 : Int)).length : Int)) ∧
                                True ∧
                                  ((decide (t = ByteArray.mk #[]) = false →
                                        (-9223372036854775808 : Int) ≤ (↑t.size : Int) ∧
                                            (↑t.size : Int) ≤ (9223372036854775807 : Int) →
                                          (decide ((↑t.size : Int) > (30 : Int)) = false → True) ∧ True) ∧
                                      True) ∧
                                    ((decide (t = ByteArray.mk #[]) ||
                                            (decide ((↑t.size : Int) > (30 : Int)) ||
                                              decide
                                                (txtD (kindTo (wordAt t (0 : Nat)) x) (0 : Int)
                                                    (numFrom ((split t (32 : Int)).getD (Int.toNat (2 : Int)) default).toStr
                                                      (0 : Nat) (0 : Int)) ≠
                                                  t))) =
                                          true →
                                        (0 : Int) = (readD t).fst ∧
                                          (0 : Int) = (readD t).snd.fst ∧ (0 : Int) = (readD t).snd.snd ∧ okD t = false) ∧
                                      ((decide (t = ByteArray.mk #[]) ||
                                            (decide ((↑t.size : Int) > (30 : Int)) ||
                                              decide
                                                (txtD (kindTo (wordAt t (0 : Nat)) x) (0 : Int)
                                                    (numFrom ((split t (32 : Int)).getD (Int.toNat (2 : Int)) default).toStr
                                                      (0 : Nat) (0 : Int)) ≠
                                                  t))) =
                                          false →
                                        kindTo (wordAt t (0 : Nat)) x = (readD t).fst ∧
                                          (0 : Int) = (readD t).snd.fst ∧
                                            numFrom ((split t (32 : Int)).getD (Int.toNat (2 : Int)) default).toStr
                                                  (0 : Nat) (0 : Int) =
                                                (readD t).snd.snd ∧
                                              okD t = true)) ∧
                            (decide ((↑(split t (32 : Int)).length : Int) > (2 : Int)) = false →
                              ((decide (t = ByteArray.mk #[]) = false →
                                    (-9223372036854775808 : Int) ≤ (↑t.size : Int) ∧
                                        (↑t.size : Int) ≤ (9223372036854775807 : Int) →
                                      (decide ((↑t.size : Int) > (30 : Int)) = false → True) ∧ True) ∧
                                  True) ∧
                                ((decide (t = ByteArray.mk #[]) ||
                                        (decide ((↑t.size : Int) > (30 : Int)) ||
                                          decide (txtD (kindTo (wordAt t (0 : Nat)) x) (0 : Int) (0 : Int) ≠ t))) =
                                      true →
                                    (0 : Int) = (readD t).fst ∧
                                      (0 : Int) = (readD t).snd.fst ∧ (0 : Int) = (readD t).snd.snd ∧ okD t = false) ∧
                                  ((decide (t = ByteArray.mk #[]) ||
                                        (decide ((↑t.size : Int) > (30 : Int)) ||
                                          decide (txtD (kindTo (wordAt t (0 : Nat)) x) (0 : Int) (0 : Int) ≠ t))) =
                                      false →
                                    kindTo (wordAt t (0 : Nat)) x = (readD t).fst ∧
                                      (0 : Int) = (readD t).snd.fst ∧ (0 : Int) = (readD t).snd.snd ∧ okD t = true)))) := by
  intro ht
  refine ⟨hp, ⟨0, by omega, rfl, rfl, rfl, rfl, rfl, rfl, rfl, rfl, rfl⟩, fun x hx => ?_⟩
  have hs := split_pos t 32
  have hw : (x : Int) ≤ 9 → IntKind.i64.wrap ((x : Int) + 1 + 1) = ((x + 1 : Nat) : Int) + 1 := fun h => by rw [wrap_ok (by omega) (by omega)]; omega
  have hn : ((x : Int) + 1).toNat = x + 1 := by omega
  have hl : namesD.length = 11 := rfl
  refine ⟨fun h => ?_, fun h hl1 => ?_⟩
  · rw [decide_eq_true_eq] at h
    refine ⟨trivial, ⟨by omega, by omega⟩, ⟨by omega, by omega⟩, fun he => ⟨x + 1, ⟨by omega, by omega⟩, rfl, rfl, hw (by omega), rfl, rfl, rfl, ?_, rfl, rfl⟩, fun he => ⟨x + 1, ⟨by omega, by omega⟩, rfl, rfl, hw (by omega), rfl, rfl, rfl, ?_, rfl, rfl⟩⟩
    · rw [decide_eq_true_eq, hn, namesD_at] at he
      have he : word (x + 1) = wordAt t 0 := he
      rw [kindTo, if_pos he]; rfl
    · rw [decide_eq_false_iff_not, hn, namesD_at] at he
      have he : ¬ word (x + 1) = wordAt t 0 := he
      rw [kindTo, if_neg he]
  · rw [decide_eq_false_iff_not] at h
    obtain rfl : x = 10 := by omega
    have hr : ∀ a b, (if 1 < (split t 32).length then numFrom (wordAt t 1) 0 0 else 0) = a → (if 2 < (split t 32).length then numFrom (wordAt t 2) 0 0 else 0) = b → rawD t = (kindTo (wordAt t 0) 10, a, b) := by
      rintro a b rfl rfl; rfl
    have fin : ∀ a b, rawD t = (kindTo (wordAt t 0) 10, a, b) → _ ∧ _ := fun a b h => And.intro (fun hb => read_no h hb) (fun hb => read_yes h hb)
    refine ⟨fun h1 => ⟨⟨by omega, of_decide_eq_true h1⟩, trivial, fun _ => ⟨fun h2 => ⟨⟨by omega, of_decide_eq_true h2⟩, trivial, ⟨fun _ _ => ⟨fun _ => trivial, trivial⟩, trivial⟩, ?_⟩, fun h2 => ⟨⟨fun _ _ => ⟨fun _ => trivial, trivial⟩, trivial⟩, ?_⟩⟩⟩,
      fun h1 _ => ⟨fun h2 => ⟨⟨by omega, of_decide_eq_true h2⟩, trivial, ⟨fun _ _ => ⟨fun _ => trivial, trivial⟩, trivial⟩, ?_⟩, fun h2 => ⟨⟨fun _ _ => ⟨fun _ => trivial, trivial⟩, trivial⟩, ?_⟩⟩⟩
    all_goals simp only [decide_eq_true_eq, decide_eq_false_iff_not] at h1 h2
    · exact fin _ _ (hr _ _ (if_pos (by omega)) (if_pos (by omega)))
    · exact fin _ _ (hr _ _ (if_pos (by omega)) (if_neg (by omega)))
    · exact fin _ _ (hr _ _ (if_neg (by omega)) (if_pos (by omega)))
    · exact fin _ _ (hr _ _ (if_neg (by omega)) (if_neg (by omega)))
set_option maxRecDepth 100000 in
theorem sDeedRead_fn (t : ByteArray) (hp : t.size ≤ 2000000) : Fn Tryd.prog 13 [.str t] none Unit (fun _ => True) (fun _ => .tup [.agg [.int .i64 (readD t).1, .int .i64 (readD t).2.1, .int .i64 (readD t).2.2], .bool (okD t)]) (fun _ => none) := by
  refine fn_ok0 (ct := [sSplit_con, l31Names_con, sNum_con, sDeedText_con]) (L := fun k => bif Nat.beq k 4 then some (.g (⟨Nat, fun s g => { hd s [0, 2, 3, 4, 5] [(6, .int .i64 (g + 1))] [] with bx := [(25, [.int .i64 0, .int .i64 0, .int .i64 0]), (25, [.int .i64 (kindTo (wordAt t 0) g), .int .i64 0, .int .i64 0])] }, fun g => g ≤ 10, fun g => 10 - g⟩)) else none) (by kernel_rfl) Tryd.func13 rfl ?_
  have h := sDeedRead_vc t hp
  apply VC.thru h
  kernel_rfl
noncomputable def sDeedRead_get (ins : List SV) (bs : Option (TypeId × List SV)) : Option Got :=
  match ins, bs with
  | [.str t], none => some (t.size ≤ 2000000, .tup [.agg [.int .i64 (readD t).1, .int .i64 (readD t).2.1, .int .i64 (readD t).2.2], .bool (okD t)], none)
  | _, _ => none
theorem sDeedRead_ok : ∀ ins bs p out bs', sDeedRead_get ins bs = some (p, out, bs') → p → Fn Tryd.prog 13 ins bs Unit (fun _ => True) (fun _ => out) (fun _ => bs') := by
  intro ins bs p out bs' h hp
  unfold sDeedRead_get at h
  split at h
  · cases h; exact sDeedRead_fn _ hp
  · cases h
noncomputable def sDeedRead_con : Con Tryd.prog := .f0 13 sDeedRead_get (enters Tryd.func13 (by kernel_rfl) rfl) sDeedRead_ok
end E
end Go.Proofs.YtbjapgekagljeaaDoor
