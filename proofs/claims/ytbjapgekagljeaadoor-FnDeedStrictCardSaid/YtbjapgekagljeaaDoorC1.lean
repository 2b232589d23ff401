/- A law's contract, at the start of a row. No program in sight. -/
import Derived.Test.YtbjapgekagljeaaDoorE17
import Derived.Test.YtbjapgekagljeaaDoorC0
namespace Go.Proofs.YtbjapgekagljeaaDoor
open Go Go.ChangeShapes Go.WideShapes Go.ChangeAt Go.RowKit
namespace E
variable {P : Program}
theorem close_law {f : FuncId} {ins : List SV} (hf : Fn P f ins none Unit (fun _ => True) (fun _ => .tt) (fun _ => none)) {W : World} {args : Array Value} (hin : RelVs (· < W.heap.size) ⟨[], []⟩ W ins args.toList) :
    Calls P f args W fun e w' => e = .returned (.bool true) ∧ Below W.heap.size W w' := by
  have := hf (· < W.heap.size) [] W args.toList (fun _ h => h) (fun _ h => by cases h) rfl (fun _ h => by cases h) hin
  refine this.mono ?_
  rintro e w' ⟨_, v, rfl, _, hk, hv, _⟩
  have hv : v = .bool true := hv
  subst hv
  exact ⟨rfl, hk.os, hk.tape, hk.output, hk.size, fun b hb => hk.block b hb (by simp)⟩
/-- A field that is an integer. -/
theorem field_int {H : Type} {enc : TypeId × Value → H} {w : World} {base : Nat} {sp : Nat → Bool} {held : Bool} {n : Nat} {t : TypeId} {k : IntKind} {v : Value} {x : DataW H × List MemPlace} (ht : P.underlying t = some (.int k)) (h : DataW.trod enc P w base sp held n t [v] = some x) :
    ∃ m, v = .int k m ∧ Has k m := by
  obtain ⟨m, h1, _, hw⟩ := DataW.trod_int ht h
  simp at h1
  refine ⟨m, h1, ?_⟩
  simp only [Lit.wf, Bool.and_eq_true, decide_eq_true_eq] at hw
  cases k <;> simpa [Has, lo, hi, IntKind.min, IntKind.max, IntKind.signed, IntKind.bits] using hw
end E
end Go.Proofs.YtbjapgekagljeaaDoor
