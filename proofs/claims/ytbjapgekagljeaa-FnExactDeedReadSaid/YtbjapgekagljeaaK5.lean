/- FnExactDeedRead: for every text the law returns true, and the text reads afterwards as it read before. -/
import Derived.Test.YtbjapgekagljeaaRows
import Derived.Test.YtbjapgekagljeaaS13
import Derived.Test.YtbjapgekagljeaaC2
import Derived.Lib.SmallJoins
namespace Go.Proofs.Ytbjapgekagljeaa.fnExactDeedRead
open Go Go.ChangeShapes Go.WideShapes Go.ChangeAt Go.RowKit
open E Go.Joins
theorem own : ownKnob Try.prog.godebug = none := by kernel_rfl
theorem laidOut : laidOutB Try.prog = true := by kernel_rfl
theorem rows : ∀ t ∈ Try.f3.params.toList, Try.prog.readableRec t = true ∧ t < Try.prog.types.size := by
  rw [Try.params3]
  intro t ht
  obtain rfl : t = 9 := by simpa using ht
  exact ⟨by kernel_rfl, of_decide_eq_true (by kernel_rfl)⟩
theorem contract (H : Type) (enc : TypeId × Value → H) (W : World) (base : Nat) (args : Array Value) (ds gs : List (DataW H)) (before : List MemPlace)
    (hval : ∀ (j : Nat) t v, Try.f3.params[j]? = some t → args[j]? = some v → Value.okWide Try.prog W .any base t v)
    (hW : DataW.Whole enc Try.prog Try.f3.params.toList Rows.fnExactDeedReadSpec.vars false W args.toList ds gs before)
    (hwt : (DataW.weightsEach Try.prog (Try.f3.params.toList ++ Rows.fnExactDeedReadSpec.plain.varTypes Try.prog) (ds ++ gs)).all (· ≤ reachBytes) = true) :
    Calls Try.prog 3 args W fun e W' => ∃ v, e = .returned v ∧ Rows.fnExactDeedReadSpec.post enc Try.prog Try.f3 false true false false W args v W' := by
  have hfn : Rows.fnExactDeedReadSpec.fn H ds = { results := [.lit (.bool true)], args := ds } := by
    obtain ⟨p, q, hA, _⟩ := hW
    rw [Try.params3] at hA
    match ds, args.toList, hA with
    | [_], _, _ => rfl
    | [], _ :: _, hA => exact hA.elim
    | [], [], hA => exact hA.elim
    | _ :: _ :: _, [], hA => exact hA.elim
    | _ :: _ :: _, [_], hA => obtain ⟨_, _, _, h2, _⟩ := hA; exact h2.elim
    | _ :: _ :: _, _ :: _ :: _, hA => obtain ⟨_, _, _, h2, _⟩ := hA; exact h2.elim
  refine row_contract (tys := [.str]) (tb := 4) (fun xs hx => ?_) (by kernel_rfl) laidOut rows (by kernel_rfl) Try.underlying4 rfl hfn hval hW hwt
  match xs, hx with
  | [x], _ => exact lDeedRead_fn x.toStr
noncomputable def laidWorld (os : Os) : World := World.holding Try.prog os ⟨#[], #[], []⟩
def arg0 : Value := .string ⟨#[]⟩
set_option maxRecDepth 100000 in
theorem laid_met (os : Os) : laidMet Try.prog Rows.fnExactDeedReadRow.laid ((laidWorld os).forCall (fun _ _ => 0) ⟨#[], #[arg0], []⟩).memory :=
  laidMet_of_run' 8 (by kernel_rfl) (by kernel_rfl)
theorem reads (os : Os) {H : Type} (enc : TypeId × Value → H) : ∃ places, DataW.whole enc Try.prog ((laidWorld os).forCall (fun _ _ => 0) ⟨#[], #[arg0], []⟩).memory Try.f3.params.toList Rows.fnExactDeedReadSpec.vars false #[arg0].toList 8 = some ([.lit (.string [])], [], places) :=
  ⟨[], by kernel_rfl⟩
set_option maxRecDepth 100000 in
theorem lifted (os : Os) (started : os.Started) (H : Type) (enc : TypeId × Value → H) (F : Stop.Interp) :
    ReturnsInHanded {} Try.checked os 3 .any ((OpenSpec.ofChange Rows.fnExactDeedReadSpec).preRow enc Try.prog Try.f3 Rows.fnExactDeedReadRow.domain false Rows.fnExactDeedReadRow.laid) (((OpenSpec.ofChange Rows.fnExactDeedReadSpec).at F).post enc Try.prog Try.f3 false true false false) := by
  obtain ⟨places, hx⟩ := reads os enc
  refine returnsInHanded_of_row (C := Try.checked) (s := OpenSpec.ofChange Rows.fnExactDeedReadSpec) own started (by kernel_rfl) Try.func3
    (witness_row_at (enc := enc) (C := Try.checked) false (laidWorld os) #[arg0] rfl (by kernel_rfl) (by kernel_rfl) (by kernel_rfl)
      (OpenSpec.preRow_of_cond 8 hx (by kernel_rfl) (fun k hk => by cases hk) (by kernel_rfl) (laid_met os))) ?_
  intro W base args ds gs before hval hW _ _ hwt _ _ _
  exact contract H enc W base args ds gs before hval hW hwt
theorem said : Rows.FnExactDeedReadSaid :=
  OpenClaim.holds_of_cond 3 Try.f3 rfl rfl rfl rfl rfl rfl rfl ⟨rfl, rfl, rfl, rfl, rfl⟩ rfl rfl rfl rfl rfl (by kernel_rfl) Try.func3 (by kernel_rfl)
    (of_decide_eq_true (by kernel_rfl)) (by unfold Func.isWrapper; first | (rw [if_pos (by decide +kernel)]; kernel_rfl) | (rw [if_neg (by decide +kernel)]; exact ⟨rfl, rfl⟩))
    (fun os started H enc _ F => by rw [OpenClaim.pre_eq_preRow]; exact lifted os started H enc F)
#print axioms said
end Go.Proofs.Ytbjapgekagljeaa.fnExactDeedRead
