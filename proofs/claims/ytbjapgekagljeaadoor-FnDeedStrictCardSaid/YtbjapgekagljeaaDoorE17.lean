/- Words for what holds at a loop's head, and small laws on the engine's own words. No program in sight. -/
import Derived.Test.YtbjapgekagljeaaDoorE16
namespace Go.Proofs.YtbjapgekagljeaaDoor
open Go Go.RowKit
namespace E
theorem VC.thru {p q : Prop} (h : p) (e : p = q) : q := e ▸ h
def lookU (k : Nat) : List (Nat × SV) → Option SV
  | [] => none
  | (j, x) :: r => bif Nat.beq j k then some x else lookU k r
def hdF (keep : List Nat) (upd : List (Nat × SV)) : List SV → Nat → List SV
  | [], _ => []
  | x :: l, k => (match lookU k upd with
    | some y => y
    | none => bif has keep k then x else .un) :: hdF keep upd l (k + 1)
/-- The state at a loop's head: some slots as they were, some as told, the rows as told. -/
def hd (s : St) (keep : List Nat) (upd : List (Nat × SV)) (rows : List Row) : St := ⟨hdF keep upd s.fr 0, s.bx, rows⟩
theorem wrap_ok {n : Int} (h1 : -9223372036854775808 ≤ n) (h2 : n ≤ 9223372036854775807) : IntKind.i64.wrap n = n := by rw [IntKind.wrap_i64]; omega
theorem wrap_u8 {n : Int} (h1 : 0 ≤ n) (h2 : n ≤ 255) : IntKind.u8.wrap n = n := by
  simp only [IntKind.wrap, IntKind.signed, IntKind.bits]
  simp
  omega
theorem byteAt_ge (b : ByteArray) (i : Nat) : 0 ≤ byteAt b i ∧ byteAt b i ≤ 255 := has_byte b i
theorem tdiv_pos {a b : Int} (h : 0 ≤ a) : a.tdiv b = a / b := Int.tdiv_eq_ediv_of_nonneg h
theorem tmod_pos {a b : Int} (h : 0 ≤ a) : a.tmod b = a % b := Int.tmod_eq_emod_of_nonneg h
end E
end Go.Proofs.YtbjapgekagljeaaDoor
