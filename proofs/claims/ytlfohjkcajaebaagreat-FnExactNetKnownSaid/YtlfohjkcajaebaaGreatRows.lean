/-
  No cell of these rows narrows 'for every input' (looked for: loops, veiled, ifaces, maps, wideKeys, modest, calm, conditions, laid).
  DERIVED. THE GIVEN ROWS OF THIS SEAT. 4 by the template 'for every input the law returns true; each argument reads behind the call as it read before'; 0 by the template 'total and deterministic' (their statements: YtlfohjkcajaebaaGreatTotals.lean).
  GIVEN WITH THE SEED: the statements are not yours to turn. If you find one false, say at which input.
  Laid BY PROGRAM, IN A SANDBOX (cutbox-rows.mjs): the forced cells as the released guide's own fill.sh prints them over the translation 31df37136c23d200… (all of the seat's roots in one cut). By AI agents, Wed Nov 11 2026. No macro, syntax, notation, axiom, sorry.
-/
import Derived.Test.YtlfohjkcajaebaaGreatChecked
import GoSem.Claim
import GoSem.ClaimJoined
import GoSem.ClaimMapViews
import Derived.JoinedTies
import Derived.KernelRfl
namespace Go.Proofs.YtlfohjkcajaebaaGreat
/- THE CELL 'sum', in the pinned program and in every row, IS THE sha256 OF THE DUMP (.gsa) THAT YtlfohjkcajaebaaGreatProg.lean LOADS. Nothing in Lean hashes anything: it is a label: what it is worth is what the hold of that sum in a sandbox is worth. -/
noncomputable def Tryz.pinned : Pinned := { name := "ytlfohjkcajaebaagreat", sum := "31df37136c23d2003724616d33ffae21237313a7a8800d088b313ed8aed52ddf", checked := Tryz.checked }
namespace Rows
def none {H : Type} : Left H := { results := [], args := [] }

/-- 'laws.FnNetSumGet': WHATEVER THE INPUT: true; the input reads as it did. -/
def fnNetSumGetSpec : ChangeSpec := { name := "fnNetSumGet", fn := fun _ => fun
  | [d] => { results := [.lit (.bool true)], args := [d] }
  | _ => none }
def fnNetSumGetRow : OpenClaim := { program := "ytlfohjkcajaebaagreat", sum := "31df37136c23d2003724616d33ffae21237313a7a8800d088b313ed8aed52ddf", func := "loop.example/inkling/laws.FnNetSumGet", spec := "fnNetSumGet", unfollowed := true, recurses := true, plainKeys := false, apart := false }
def FnNetSumGetSaid : Prop := fnNetSumGetRow.holds Tryz.pinned (OpenSpec.ofChange fnNetSumGetSpec)

/-- ITS FALSE NEIGHBOUR: 'it returns false'. Refute it at one input. -/
def fnNetSumGetWrong : ChangeSpec := { name := "fnNetSumGet", fn := fun _ => fun
  | [d] => { results := [.lit (.bool false)], args := [d] }
  | _ => none }
def FnNetSumGetWrongFalsely : Prop := fnNetSumGetRow.holds Tryz.pinned (OpenSpec.ofChange fnNetSumGetWrong)

/-- 'laws.FnExactNetList': WHATEVER THE INPUT: true; the input reads as it did. -/
def fnExactNetListSpec : ChangeSpec := { name := "fnExactNetList", fn := fun _ => fun
  | [d1, d2] => { results := [.lit (.bool true)], args := [d1, d2] }
  | _ => none }
def fnExactNetListRow : OpenClaim := { program := "ytlfohjkcajaebaagreat", sum := "31df37136c23d2003724616d33ffae21237313a7a8800d088b313ed8aed52ddf", func := "loop.example/inkling/laws.FnExactNetList", spec := "fnExactNetList", unfollowed := true, recurses := true, plainKeys := false, apart := false }
def FnExactNetListSaid : Prop := fnExactNetListRow.holds Tryz.pinned (OpenSpec.ofChange fnExactNetListSpec)

/-- ITS FALSE NEIGHBOUR: 'it returns false'. Refute it at one input. -/
def fnExactNetListWrong : ChangeSpec := { name := "fnExactNetList", fn := fun _ => fun
  | [d1, d2] => { results := [.lit (.bool false)], args := [d1, d2] }
  | _ => none }
def FnExactNetListWrongFalsely : Prop := fnExactNetListRow.holds Tryz.pinned (OpenSpec.ofChange fnExactNetListWrong)

/-- 'laws.FnExactNetKnown': WHATEVER THE INPUT: true; the input reads as it did. -/
def fnExactNetKnownSpec : ChangeSpec := { name := "fnExactNetKnown", fn := fun _ => fun
  | [d1, d2] => { results := [.lit (.bool true)], args := [d1, d2] }
  | _ => none }
def fnExactNetKnownRow : OpenClaim := { program := "ytlfohjkcajaebaagreat", sum := "31df37136c23d2003724616d33ffae21237313a7a8800d088b313ed8aed52ddf", func := "loop.example/inkling/laws.FnExactNetKnown", spec := "fnExactNetKnown", unfollowed := true, recurses := true, plainKeys := false, apart := false }
def FnExactNetKnownSaid : Prop := fnExactNetKnownRow.holds Tryz.pinned (OpenSpec.ofChange fnExactNetKnownSpec)

/-- ITS FALSE NEIGHBOUR: 'it returns false'. Refute it at one input. -/
def fnExactNetKnownWrong : ChangeSpec := { name := "fnExactNetKnown", fn := fun _ => fun
  | [d1, d2] => { results := [.lit (.bool false)], args := [d1, d2] }
  | _ => none }
def FnExactNetKnownWrongFalsely : Prop := fnExactNetKnownRow.holds Tryz.pinned (OpenSpec.ofChange fnExactNetKnownWrong)

/-- 'laws.FnExactNetSum': WHATEVER THE INPUT: true; the input reads as it did. -/
def fnExactNetSumSpec : ChangeSpec := { name := "fnExactNetSum", fn := fun _ => fun
  | [d1, d2] => { results := [.lit (.bool true)], args := [d1, d2] }
  | _ => none }
def fnExactNetSumRow : OpenClaim := { program := "ytlfohjkcajaebaagreat", sum := "31df37136c23d2003724616d33ffae21237313a7a8800d088b313ed8aed52ddf", func := "loop.example/inkling/laws.FnExactNetSum", spec := "fnExactNetSum", unfollowed := true, recurses := true, plainKeys := false, apart := false }
def FnExactNetSumSaid : Prop := fnExactNetSumRow.holds Tryz.pinned (OpenSpec.ofChange fnExactNetSumSpec)

/-- ITS FALSE NEIGHBOUR: 'it returns false'. Refute it at one input. -/
def fnExactNetSumWrong : ChangeSpec := { name := "fnExactNetSum", fn := fun _ => fun
  | [d1, d2] => { results := [.lit (.bool false)], args := [d1, d2] }
  | _ => none }
def FnExactNetSumWrongFalsely : Prop := fnExactNetSumRow.holds Tryz.pinned (OpenSpec.ofChange fnExactNetSumWrong)

/- THE SECOND FORM. 'bulk': how many values and letters a reading holds, each counted each time it is reached (what is shared counts as often as it is met; a slice's spare places count too). A statement '..UptoSaid' is the law's where the arguments, and the package variables that the reading takes, are together of bulk at most 1048576: NARROWER than '..Said'. Prove '..Said' where nothing that the law and all that it calls make is longer than what came in: it says more and counts as full. Else prove '..UptoSaid'. A law counts once. -/
mutual
def uptoBulk {H : Type} : DataW H → Nat
  | .lit (.string bytes) => bytes.length + 1
  | .lit _ => 1
  | .nil => 1
  | .ptr d => uptoBulk d + 1
  | .slice elems spare => uptoBulkAll elems + uptoBulkAll spare + 1
  | .agg parts => uptoBulkAll parts + 1
  | .iface _ d => uptoBulk d + 1
  | .map entries => uptoBulkEntries entries + 1
  | .held _ => 1
def uptoBulkAll {H : Type} : List (DataW H) → Nat
  | [] => 0
  | d :: r => uptoBulk d + uptoBulkAll r
def uptoBulkEntries {H : Type} : List (Lit × DataW H) → Nat
  | [] => 0
  | x :: r => uptoBulkEntry x + uptoBulkEntries r
def uptoBulkEntry {H : Type} : Lit × DataW H → Nat
  | (.string bytes, d) => bytes.length + uptoBulk d + 1
  | (_, d) => uptoBulk d + 1
 end
def uptoSmall : (H : Type) → List (DataW H) → Bool := fun _ ds => decide (uptoBulkAll ds ≤ 1048576)
def OpenSpec.upto (s : _root_.Go.ChangeSpec) : _root_.Go.OpenSpec := { _root_.Go.OpenSpec.ofChange s with cond := some uptoSmall }

/-- 'laws.FnNetSumGet', WHERE WHAT IT READS IS OF BULK AT MOST 1048576: true; the input reads as it did. -/
def fnNetSumGetUptoRow : OpenClaim := { program := "ytlfohjkcajaebaagreat", sum := "31df37136c23d2003724616d33ffae21237313a7a8800d088b313ed8aed52ddf", func := "loop.example/inkling/laws.FnNetSumGet", spec := "fnNetSumGet", unfollowed := true, recurses := true, plainKeys := false, apart := false, narrowed := true }
def FnNetSumGetUptoSaid : Prop := fnNetSumGetUptoRow.holds Tryz.pinned (OpenSpec.upto fnNetSumGetSpec)

/-- 'laws.FnExactNetList', WHERE WHAT IT READS IS OF BULK AT MOST 1048576: true; the input reads as it did. -/
def fnExactNetListUptoRow : OpenClaim := { program := "ytlfohjkcajaebaagreat", sum := "31df37136c23d2003724616d33ffae21237313a7a8800d088b313ed8aed52ddf", func := "loop.example/inkling/laws.FnExactNetList", spec := "fnExactNetList", unfollowed := true, recurses := true, plainKeys := false, apart := false, narrowed := true }
def FnExactNetListUptoSaid : Prop := fnExactNetListUptoRow.holds Tryz.pinned (OpenSpec.upto fnExactNetListSpec)

/-- 'laws.FnExactNetKnown', WHERE WHAT IT READS IS OF BULK AT MOST 1048576: true; the input reads as it did. -/
def fnExactNetKnownUptoRow : OpenClaim := { program := "ytlfohjkcajaebaagreat", sum := "31df37136c23d2003724616d33ffae21237313a7a8800d088b313ed8aed52ddf", func := "loop.example/inkling/laws.FnExactNetKnown", spec := "fnExactNetKnown", unfollowed := true, recurses := true, plainKeys := false, apart := false, narrowed := true }
def FnExactNetKnownUptoSaid : Prop := fnExactNetKnownUptoRow.holds Tryz.pinned (OpenSpec.upto fnExactNetKnownSpec)

/-- 'laws.FnExactNetSum', WHERE WHAT IT READS IS OF BULK AT MOST 1048576: true; the input reads as it did. -/
def fnExactNetSumUptoRow : OpenClaim := { program := "ytlfohjkcajaebaagreat", sum := "31df37136c23d2003724616d33ffae21237313a7a8800d088b313ed8aed52ddf", func := "loop.example/inkling/laws.FnExactNetSum", spec := "fnExactNetSum", unfollowed := true, recurses := true, plainKeys := false, apart := false, narrowed := true }
def FnExactNetSumUptoSaid : Prop := fnExactNetSumUptoRow.holds Tryz.pinned (OpenSpec.upto fnExactNetSumSpec)

end Rows
end Go.Proofs.YtlfohjkcajaebaaGreat
