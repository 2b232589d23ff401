/- The contracts of the small functions of the Deed statements: each returns what the plain functions of this text say, whatever the arguments. -/
import Derived.Test.YtbjapgekagljeaaDoorProg
import Derived.WalkKit
import Derived.OwnWalk
import Derived.WalkSpells
import Derived.WalkLawsBesides
import Derived.Deep.QuietTactic
import Derived.BigQuiet
import Derived.Lib.Hide
import Derived.Below
import Derived.Deep.RegionWith
import Derived.Lib.ItoaNum
import Derived.KernelRfl
namespace Go.Proofs.YtbjapgekagljeaaDoor
open Go Go.RowKit
namespace D0
/-- How many numbers a deed of a kind has. -/
def size (k : Int) : Int := if k == 1 then 2 else if k == 9 then 2 else if k == 10 then 2 else if k == 8 then 0 else 1
/-- A deed's word. -/
def name (k : Int) : List UInt8 :=
  if k == 1 then [99, 111, 117, 110, 116] else if k == 2 then [104, 101, 108, 108, 111] else if k == 3 then [116, 101, 108, 108] else if k == 4 then [116, 97, 107, 101]
  else if k == 5 then [116, 119, 105, 99, 101] else if k == 6 then [108, 111, 115, 101] else if k == 7 then [99, 114, 97, 115, 104] else if k == 8 then [98, 101, 97, 99, 111, 110]
  else if k == 9 then [99, 117, 116] else if k == 10 then [109, 101, 110, 100] else []
def Is (v : Value) (w : World) (e : Ending) (w' : World) : Prop := e = .returned v ∧ w = w'
theorem l6In_yes (n a b : Int) (w : World) (h1 : a ≤ n) (h2 : n ≤ b) : Calls Tryd.prog 14 #[.int .i64 n, .int .i64 a, .int .i64 b] w (Is (.bool true) w) := by
  have h3 : decide (n ≤ b) = true := decide_eq_true h2
  go_enter Tryd.func14, Tryd.ntmps14
  go_wp2
  go_ret
  exact ⟨rfl, rfl⟩
theorem l6In_no (n a b : Int) (w : World) (h : ¬ (a ≤ n ∧ n ≤ b)) : Calls Tryd.prog 14 #[.int .i64 n, .int .i64 a, .int .i64 b] w (Is (.bool false) w) := by
  by_cases h1 : a ≤ n
  · have h3 : decide (n ≤ b) = false := decide_eq_false (by omega)
    go_enter Tryd.func14, Tryd.ntmps14
    go_wp2
    go_ret
    exact ⟨rfl, rfl⟩
  · go_enter Tryd.func14, Tryd.ntmps14
    go_wp2
    go_ret
    exact ⟨rfl, rfl⟩
theorem l31Size (n : Int) (w : World) : Calls Tryd.prog 15 #[.int .i64 n] w (Is (.int .i64 (size n)) w) := by
  generalize hs : size n = s
  unfold size at hs
  go_enter Tryd.func15, Tryd.ntmps15
  go_wp2
  all_goals (go_ret; exact ⟨by simp_all, rfl⟩)
theorem b_alloc {w W : World} (h : Below w.heap.size w W) (o : Obj) : Below w.heap.size w (W.alloc o) := h.alloc h.size o
theorem b_set {w W : World} (h : Below w.heap.size w W) (b o : Nat) (v : Value) (hb : w.heap.size ≤ b) : Below w.heap.size w (W.setCell ⟨b, o, none⟩ v) := h.setCell hb v
theorem b_drew {w W : World} (h : Below w.heap.size w W) : Below w.heap.size w W.drew := h.drew
theorem b_drewN {w W : World} (h : Below w.heap.size w W) (n : Nat) : Below w.heap.size w (W.drewN n) := ⟨h.os, h.tape, h.output, h.size, h.block⟩
theorem b_then {w W W1 : World} (h : Below w.heap.size w W) (k : Below W.heap.size W W1) : Below w.heap.size w W1 := h.trans (k.mono h.size)
theorem bcell {W w1 : World} (hb : Below W.heap.size W w1) : (∀ b o, b < W.heap.size → w1.cell? ⟨b, o, none⟩ = W.cell? ⟨b, o, none⟩) ∧ (∀ b o, b < W.heap.size → w1.frozen? ⟨b, o, none⟩ = W.frozen? ⟨b, o, none⟩) :=
  ⟨fun b o h => hb.cell (p := ⟨b, o, none⟩) h, fun b o h => hb.frozen (p := ⟨b, o, none⟩) h⟩
/-- What comes back, nothing old having turned. -/
def Gives (v : Value) (w : World) (e : Ending) (w' : World) : Prop := e = .returned v ∧ Below w.heap.size w w'
def deed (k a b : Int) : Value := .agg #[.int .i64 k, .int .i64 a, .int .i64 b]
theorem toDeed (k a b : Int) (w : World) : Calls Tryd.prog 8 #[.agg #[.int .i64 k, .int .i64 a, .int .i64 b]] w (Gives (deed k a b) w) := by
  go_enter Tryd.func8, Tryd.ntmps8
  go_wp2
  exact bodyPost_ret (v := .agg #[.int .i64 k, .int .i64 a, .int .i64 b]) (by simp [results, Tryd.results8, go_sem]) rfl ⟨rfl, (((Below.refl _ _).alloc (by simp) _).alloc (by simp) _).alloc (by simp; omega) _⟩
end D0
end Go.Proofs.YtbjapgekagljeaaDoor
