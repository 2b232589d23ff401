/- The reference's small functions of deeds: what each returns, whatever its arguments. -/
import Derived.Test.YtbjapgekagljeaaDoorE17
import Derived.Test.YtbjapgekagljeaaDoorProg
import Derived.Lib.ItoaNum
namespace Go.Proofs.YtbjapgekagljeaaDoor
open Go Go.RowKit
namespace E

set_option maxRecDepth 100000 in
theorem l6In_vc (n a b : Int) :
    (-9223372036854775808 : Int) ≤ n ∧ n ≤ (9223372036854775807 : Int) →
      (-9223372036854775808 : Int) ≤ a ∧ a ≤ (9223372036854775807 : Int) →
        (-9223372036854775808 : Int) ≤ b ∧ b ≤ (9223372036854775807 : Int) →
          (decide (n ≥ a) && decide (n ≤ b)) = (decide (a ≤ n) && decide (n ≤ b)) := by
  simp [ge_iff_le]
set_option maxRecDepth 100000 in
theorem l6In_fn (n a b : Int) : Fn Tryd.prog 14 [.int .i64 n, .int .i64 a, .int .i64 b] none Unit (fun _ => True) (fun _ => .bool (decide (a ≤ n) && decide (n ≤ b))) (fun _ => none) := by
  refine fn_ok0 (ct := []) (L := fun _ => none) (by kernel_rfl) Tryd.func14 rfl ?_
  have h := l6In_vc n a b
  apply VC.thru h
  kernel_rfl
noncomputable def l6In_get (ins : List SV) (bs : Option (TypeId × List SV)) : Option Got :=
  match ins, bs with
  | [.int .i64 n, .int .i64 a, .int .i64 b], none => some (True, .bool (decide (a ≤ n) && decide (n ≤ b)), none)
  | _, _ => none
theorem l6In_ok : ∀ ins bs p out bs', l6In_get ins bs = some (p, out, bs') → p → Fn Tryd.prog 14 ins bs Unit (fun _ => True) (fun _ => out) (fun _ => bs') := by
  intro ins bs p out bs' h hp
  unfold l6In_get at h
  split at h
  · cases h; exact l6In_fn _ _ _
  · cases h
noncomputable def l6In_con : Con Tryd.prog := .f0 14 l6In_get (enters Tryd.func14 (by kernel_rfl) rfl) l6In_ok
/-- How many numbers a deed of a kind has. -/
def sizeK (k : Int) : Int := if k = 1 ∨ k = 9 ∨ k = 10 then 2 else if k = 8 then 0 else 1
set_option maxRecDepth 100000 in
theorem l31Size_vc (k : Int) :
    (-9223372036854775808 : Int) ≤ k ∧ k ≤ (9223372036854775807 : Int) →
      (decide (k = (1 : Int)) = true → (2 : Int) = sizeK k) ∧
        (decide (k = (1 : Int)) = false →
          (decide (k = (9 : Int)) = true → (2 : Int) = sizeK k) ∧
            (decide (k = (9 : Int)) = false →
              (decide (k = (10 : Int)) = true → (2 : Int) = sizeK k) ∧
                (decide (k = (10 : Int)) = false →
                  (decide (k = (8 : Int)) = true → (0 : Int) = sizeK k) ∧
                    (decide (k = (8 : Int)) = false → (1 : Int) = sizeK k)))) := by
  simp [sizeK]; omega
set_option maxRecDepth 100000 in
theorem l31Size_fn (k : Int) : Fn Tryd.prog 15 [.int .i64 k] none Unit (fun _ => True) (fun _ => .int .i64 (sizeK k)) (fun _ => none) := by
  refine fn_ok0 (ct := []) (L := fun _ => none) (by kernel_rfl) Tryd.func15 rfl ?_
  have h := l31Size_vc k
  apply VC.thru h
  kernel_rfl
noncomputable def l31Size_get (ins : List SV) (bs : Option (TypeId × List SV)) : Option Got :=
  match ins, bs with
  | [.int .i64 k], none => some (True, .int .i64 (sizeK k), none)
  | _, _ => none
theorem l31Size_ok : ∀ ins bs p out bs', l31Size_get ins bs = some (p, out, bs') → p → Fn Tryd.prog 15 ins bs Unit (fun _ => True) (fun _ => out) (fun _ => bs') := by
  intro ins bs p out bs' h hp
  unfold l31Size_get at h
  split at h
  · cases h; exact l31Size_fn _
  · cases h
noncomputable def l31Size_con : Con Tryd.prog := .f0 15 l31Size_get (enters Tryd.func15 (by kernel_rfl) rfl) l31Size_ok
/-- A deed's word. -/
def word (k : Nat) : ByteArray := match k with
  | 1 => ⟨#[99, 111, 117, 110, 116]⟩ | 2 => ⟨#[104, 101, 108, 108, 111]⟩ | 3 => ⟨#[116, 101, 108, 108]⟩ | 4 => ⟨#[116, 97, 107, 101]⟩ | 5 => ⟨#[116, 119, 105, 99, 101]⟩
  | 6 => ⟨#[108, 111, 115, 101]⟩ | 7 => ⟨#[99, 114, 97, 115, 104]⟩ | 8 => ⟨#[98, 101, 97, 99, 111, 110]⟩ | 9 => ⟨#[99, 117, 116]⟩ | 10 => ⟨#[109, 101, 110, 100]⟩ | _ => ⟨#[]⟩
def namesD : List Dat := [.str (ByteArray.mk #[]), .str (ByteArray.mk #[99, 111, 117, 110, 116]), .str (ByteArray.mk #[104, 101, 108, 108, 111]), .str (ByteArray.mk #[116, 101, 108, 108]), .str (ByteArray.mk #[116, 97, 107, 101]), .str (ByteArray.mk #[116, 119, 105, 99, 101]),
  .str (ByteArray.mk #[108, 111, 115, 101]), .str (ByteArray.mk #[99, 114, 97, 115, 104]), .str (ByteArray.mk #[98, 101, 97, 99, 111, 110]), .str (ByteArray.mk #[99, 117, 116]), .str (ByteArray.mk #[109, 101, 110, 100])]
theorem namesD_at (k : Nat) : (namesD.getD k default).toStr = word k := by
  match k with
  | 0 | 1 | 2 | 3 | 4 | 5 | 6 | 7 | 8 | 9 | 10 => rfl
  | k + 11 => rfl
set_option maxRecDepth 100000 in
theorem l31Names_vc  :
    [Dat.str (ByteArray.mk #[]),
        Dat.str (ByteArray.mk #[(99 : UInt8), (111 : UInt8), (117 : UInt8), (110 : UInt8), (116 : UInt8)]),
        Dat.str (ByteArray.mk #[(104 : UInt8), (101 : UInt8), (108 : UInt8), (108 : UInt8), (111 : UInt8)]),
        Dat.str (ByteArray.mk #[(116 : UInt8), (101 : UInt8), (108 : UInt8), (108 : UInt8)]),
        Dat.str (ByteArray.mk #[(116 : UInt8), (97 : UInt8), (107 : UInt8), (101 : UInt8)]),
        Dat.str (ByteArray.mk #[(116 : UInt8), (119 : UInt8), (105 : UInt8), (99 : UInt8), (101 : UInt8)]),
        Dat.str (ByteArray.mk #[(108 : UInt8), (111 : UInt8), (115 : UInt8), (101 : UInt8)]),
        Dat.str (ByteArray.mk #[(99 : UInt8), (114 : UInt8), (97 : UInt8), (115 : UInt8), (104 : UInt8)]),
        Dat.str (ByteArray.mk #[(98 : UInt8), (101 : UInt8), (97 : UInt8), (99 : UInt8), (111 : UInt8), (110 : UInt8)]),
        Dat.str (ByteArray.mk #[(99 : UInt8), (117 : UInt8), (116 : UInt8)]),
        Dat.str (ByteArray.mk #[(109 : UInt8), (101 : UInt8), (110 : UInt8), (100 : UInt8)])] =
      namesD := by
  unfold namesD; rfl
set_option maxRecDepth 100000 in
theorem l31Names_fn  : Fn Tryd.prog 16 [] none Unit (fun _ => True) (fun _ => .sl .str namesD) (fun _ => none) := by
  refine fn_ok0 (ct := []) (L := fun _ => none) (by kernel_rfl) Tryd.func16 rfl ?_
  have h := l31Names_vc 
  apply VC.thru h
  kernel_rfl
noncomputable def l31Names_get (ins : List SV) (bs : Option (TypeId × List SV)) : Option Got :=
  match ins, bs with
  | [], none => some (True, .sl .str namesD, none)
  | _, _ => none
theorem l31Names_ok : ∀ ins bs p out bs', l31Names_get ins bs = some (p, out, bs') → p → Fn Tryd.prog 16 ins bs Unit (fun _ => True) (fun _ => out) (fun _ => bs') := by
  intro ins bs p out bs' h hp
  unfold l31Names_get at h
  split at h
  · cases h; exact l31Names_fn 
  · cases h
noncomputable def l31Names_con : Con Tryd.prog := .f0 16 l31Names_get (enters Tryd.func16 (by kernel_rfl) rfl) l31Names_ok
/-- A number in decimals. -/
def decB (n : Nat) : ByteArray := ⟨(Lib.decDigits n).toArray⟩
theorem decB_lt {n : Nat} (h : n < 10) : decB n = ⟨#[UInt8.ofNat (48 + n)]⟩ := by unfold decB Lib.decDigits; rw [dif_pos h]
theorem decB_ge {n : Nat} (h : ¬ n < 10) : decB n = decB (n / 10) ++ ⟨#[UInt8.ofNat (48 + n % 10)]⟩ := by
  have e : Lib.decDigits n = Lib.decDigits (n / 10) ++ [UInt8.ofNat (48 + n % 10)] := by rw [Lib.decDigits, dif_neg h]
  unfold decB
  rw [e]
  generalize Lib.decDigits (n / 10) = l
  apply ByteArray.ext
  simp
theorem decB_size (m : Nat) : ∀ n, n ≤ m → (decB n).size ≤ n + 1 := by
  induction m with
  | zero => intro n hn; rw [decB_lt (by omega)]; show 1 ≤ _; omega
  | succ m ih =>
    intro n hn
    by_cases h : n < 10
    · rw [decB_lt h]; show 1 ≤ _; omega
    · rw [decB_ge h, ByteArray.size_append]
      have := ih (n / 10) (by omega)
      have h1 : (⟨#[UInt8.ofNat (48 + n % 10)]⟩ : ByteArray).size = 1 := rfl
      omega
theorem decB_log (k : Nat) : ∀ n, n < 10 ^ (k + 1) → (decB n).size ≤ k + 1 := by
  induction k with
  | zero => intro n hn; rw [decB_lt (by omega)]; exact Nat.le_refl 1
  | succ k ih =>
    intro n hn
    by_cases h : n < 10
    · rw [decB_lt h]; show 1 ≤ _; omega
    · rw [decB_ge h, ByteArray.size_append]
      have h2 : (⟨#[UInt8.ofNat (48 + n % 10)]⟩ : ByteArray).size = 1 := rfl
      have h3 : n / 10 < 10 ^ (k + 1) := by rw [Nat.div_lt_iff_lt_mul (by omega), ← Nat.pow_succ]; exact hn
      have := ih (n / 10) h3
      omega
theorem decB_len (n : Nat) (h : n ≤ 9223372036854775807) : (decB n).size ≤ 20 := by
  have e : (10 : Nat) ^ (19 + 1) = 100000000000000000000 := by decide
  exact decB_log 19 n (by rw [e]; omega)
theorem decB_small : ∀ n, n < 100 → (decB n).size ≤ 2 := by decide +kernel
set_option maxRecDepth 100000 in
theorem l6Dec_vc (m : Nat) (n : Int) (hp : 0 ≤ n ∧ n < (m + 1)) :
    (-9223372036854775808 : Int) ≤ n ∧ n ≤ (9223372036854775807 : Int) →
      (decide (n < (-9223372036854775807 : Int)) = true →
          ByteArray.mk
              #[(45 : UInt8), (57 : UInt8), (50 : UInt8), (50 : UInt8), (51 : UInt8), (51 : UInt8), (55 : UInt8),
                (50 : UInt8), (48 : UInt8), (51 : UInt8), (54 : UInt8), (56 : UInt8), (53 : UInt8), (52 : UInt8),
                (55 : UInt8), (55 : UInt8), (53 : UInt8), (56 : UInt8), (48 : UInt8), (56 : UInt8)] =
            decB n.toNat) ∧
        (decide (n < (-9223372036854775807 : Int)) = false →
          (decide (n < (0 : Int)) = true →
              ((0 : Int) ≤ IntKind.i64.wrap ((0 : Int) - n) ∧ IntKind.i64.wrap ((0 : Int) - n) < (↑m : Int)) ∧
                (ByteArray.mk #[(45 : UInt8)]).size + (decB (IntKind.i64.wrap ((0 : Int) - n)).toNat).size ≤
                    (140737488351232 : Nat) ∧
                  ByteArray.mk #[(45 : UInt8)] ++ decB (IntKind.i64.wrap ((0 : Int) - n)).toNat = decB n.toNat) ∧
            (decide (n < (0 : Int)) = false →
              (decide (n < (10 : Int)) = true →
                  [Dat.int (IntKind.u8.wrap (IntKind.i64.wrap ((48 : Int) + n)))].length ≤ (140737488351232 : Nat) ∧
                    textOf [Dat.int (IntKind.u8.wrap (IntKind.i64.wrap ((48 : Int) + n)))] = decB n.toNat) ∧
                (decide (n < (10 : Int)) = false →
                  (10 : Int) ≠ (0 : Int) ∧
                    ((0 : Int) ≤ IntKind.i64.wrap (n.tdiv (10 : Int)) ∧ IntKind.i64.wrap (n.tdiv (10 : Int)) < (↑m : Int)) ∧
                      (10 : Int) ≠ (0 : Int) ∧
                        [Dat.int (IntKind.u8.wrap (IntKind.i64.wrap ((48 : Int) + n.tmod (10 : Int))))].length ≤
                            (140737488351232 : Nat) ∧
                          (decB (IntKind.i64.wrap (n.tdiv (10 : Int))).toNat).size +
                                (textOf
                                    [Dat.int (IntKind.u8.wrap (IntKind.i64.wrap ((48 : Int) + n.tmod (10 : Int))))]).size ≤
                              (140737488351232 : Nat) ∧
                            decB (IntKind.i64.wrap (n.tdiv (10 : Int))).toNat ++
                                textOf [Dat.int (IntKind.u8.wrap (IntKind.i64.wrap ((48 : Int) + n.tmod (10 : Int))))] =
                              decB n.toNat))) := by
  intro hr
  refine ⟨fun h => ?_, fun _ => ⟨fun h => ?_, fun _ => ⟨fun h => ?_, fun h => ?_⟩⟩⟩
  · simp at h; omega
  · simp at h; omega
  · simp at h
    refine ⟨by simp, ?_⟩
    rw [wrap_ok (by omega) (by omega), wrap_u8 (by omega) (by omega), decB_lt (by omega)]
    show (⟨#[UInt8.ofNat (48 + n).toNat]⟩ : ByteArray) = _
    rw [show (48 + n).toNat = 48 + n.toNat from by omega]
  · simp at h
    rw [tdiv_pos hp.1, tmod_pos hp.1, wrap_ok (by omega) (by omega), wrap_ok (by omega) (by omega), wrap_u8 (by omega) (by omega)]
    have e : textOf [Dat.int (48 + n % 10)] = ⟨#[UInt8.ofNat (48 + n.toNat % 10)]⟩ := by
      show (⟨#[UInt8.ofNat (48 + n % 10).toNat]⟩ : ByteArray) = _
      rw [show (48 + n % 10).toNat = 48 + n.toNat % 10 from by omega]
    rw [e, show (n / 10).toNat = n.toNat / 10 from by omega, decB_ge (n := n.toNat) (by omega)]
    have hs := decB_len (n.toNat / 10) (by omega)
    have h1 : (⟨#[UInt8.ofNat (48 + n.toNat % 10)]⟩ : ByteArray).size = 1 := rfl
    exact ⟨by omega, by omega, by omega, by simp, by omega, rfl⟩
noncomputable def l6Dec_rget (m : Nat) (ins : List SV) (bs : Option (TypeId × List SV)) : Option Got :=
  match ins, bs with
  | [.int .i64 n], none => some (0 ≤ n ∧ n < m, .str (decB n.toNat), none)
  | _, _ => none
noncomputable def l6Dec_recc (m : Nat) (ih : ∀ ins bs p out bs', l6Dec_rget m ins bs = some (p, out, bs') → p → Fn Tryd.prog 17 ins bs Unit (fun _ => True) (fun _ => out) (fun _ => bs')) : Con Tryd.prog := .f0 17 (l6Dec_rget m) (enters Tryd.func17 (by kernel_rfl) rfl) ih
theorem l6Dec_all : ∀ m ins bs p out bs', l6Dec_rget m ins bs = some (p, out, bs') → p → Fn Tryd.prog 17 ins bs Unit (fun _ => True) (fun _ => out) (fun _ => bs') := by
  intro m
  induction m with
  | zero =>
    intro ins bs p out bs' h hp
    unfold l6Dec_rget at h
    split at h
    · cases h; exact absurd hp (by omega)
    · cases h
  | succ m ih =>
    intro ins bs p out bs' h hp
    unfold l6Dec_rget at h
    split at h
    · cases h; exact fn_ok0 (ct := [l6Dec_recc m ih]) (L := fun _ => none) (by kernel_rfl) Tryd.func17 rfl (Eq.mp (by kernel_rfl) (l6Dec_vc m _ hp))
    · cases h
set_option maxRecDepth 100000 in
theorem l6Dec_fn (n : Int) (hp : 0 ≤ n) : Fn Tryd.prog 17 [.int .i64 n] none Unit (fun _ => True) (fun _ => .str (decB n.toNat)) (fun _ => none) :=
  l6Dec_all (n.toNat + 1) _ _ _ _ _ rfl ⟨hp, by omega⟩
noncomputable def l6Dec_get (ins : List SV) (bs : Option (TypeId × List SV)) : Option Got :=
  match ins, bs with
  | [.int .i64 n], none => some (0 ≤ n, .str (decB n.toNat), none)
  | _, _ => none
theorem l6Dec_ok : ∀ ins bs p out bs', l6Dec_get ins bs = some (p, out, bs') → p → Fn Tryd.prog 17 ins bs Unit (fun _ => True) (fun _ => out) (fun _ => bs') := by
  intro ins bs p out bs' h hp
  unfold l6Dec_get at h
  split at h
  · cases h; exact l6Dec_fn _ hp
  · cases h
noncomputable def l6Dec_con : Con Tryd.prog := .f0 17 l6Dec_get (enters Tryd.func17 (by kernel_rfl) rfl) l6Dec_ok
end E
end Go.Proofs.YtbjapgekagljeaaDoor
