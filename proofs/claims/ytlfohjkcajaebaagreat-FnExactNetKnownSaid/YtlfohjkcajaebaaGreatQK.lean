/- FnExactNetKnown: for every net and every number the law returns true, and both read afterwards as they read before. -/
import Derived.Test.YtlfohjkcajaebaaGreatQK7
import Derived.Test.YtlfohjkcajaebaaGreatRows
import Derived.Lib.SmallJoins
set_option linter.all false
namespace Go.Proofs.YtlfohjkcajaebaaGreat.fnExactNetKnown
open Go Go.ChangeShapes Go.WideShapes Go.ChangeAt Go.RowKit
open E Go.Joins
theorem own:ownKnob Tryz.prog.godebug=none:=by kernel_rfl
theorem laidOut:laidOutB Tryz.prog=true:=by kernel_rfl
theorem rows:∀t∈Tryz.f5.params.toList,Tryz.prog.readableRec t=true/\t<Tryz.prog.types.size:=by
 rw[Tryz.params5];intro t ht;have ht:t=59\/t=3:=by simpa using ht
 rcases ht with rfl | rfl
 · exact⟨by kernel_rfl,of_decide_eq_true (by kernel_rfl)⟩
 · exact⟨by kernel_rfl,of_decide_eq_true (by kernel_rfl)⟩
set_option maxRecDepth 100000 in
theorem contract (H:Type) (enc:TypeId×Value->H) (W:World) (base:Nat) (args:Array Value) (ds gs:List (DataW H)) (before:List MemPlace)
   (hval:∀(j:Nat) t v,Tryz.f5.params[j]?=some t->args[j]?=some v->Value.okWide Tryz.prog W .any base t v)
   (hW:DataW.Whole enc Tryz.prog Tryz.f5.params.toList Rows.fnExactNetKnownSpec.vars false W args.toList ds gs before)
   (hwt:(DataW.weightsEach Tryz.prog (Tryz.f5.params.toList++Rows.fnExactNetKnownSpec.plain.varTypes Tryz.prog) (ds++gs)).all (·<=reachBytes)=true) :
   Calls Tryz.prog 5 args W fun e W'=>∃v,e=.returned v/\Rows.fnExactNetKnownSpec.post enc Tryz.prog Tryz.f5 false true false false W args v W':=by
 have hfn:Rows.fnExactNetKnownSpec.fn H ds={ results:=[.lit (.bool true)],args:=ds}:=by
   obtain⟨p,q,hA,_⟩:=hW;rw[Tryz.params5] at hA
   match ds,args.toList,hA with
   | [_,_],_,_=>rfl
   | [],_::_,hA=>exact hA.elim
   | [],[],hA=>exact hA.elim
   | [_],[],hA=>exact hA.elim
   | [_],[_],hA=>obtain⟨_,_,_,h2,_⟩:=hA;exact h2.elim
   | [_],_::_::_,hA=>obtain⟨_,_,_,h2,_⟩:=hA;exact h2.elim
   | _::_::_::_,[],hA=>exact hA.elim
   | _::_::_::_,[_],hA=>obtain⟨_,_,_,h2,_⟩:=hA;exact h2.elim
   | _::_::_::_,[_,_],hA=>obtain⟨_,_,_,h2,_⟩:=hA;obtain⟨_,_,_,h3,_⟩:=h2;exact h3.elim
   | _::_::_::_,_::_::_::_,hA=>obtain⟨_,_,_,h2,_⟩:=hA;obtain⟨_,_,_,h3,_⟩:=h2;exact h3.elim
 refine row_contract (tys:=[.st [.sl TNode,.sl .bool,.sl TWord,.sl (.sl (.sl (.int .i64)))],.int .i64]) (tb:=4) (fun xs hx=>?_) (by kernel_rfl) laidOut rows (by kernel_rfl) Tryz.underlying4 rfl hfn hval hW hwt
 match xs,hx with
 | [x,y],_=>exact lawNetKnown_fn (x.f 0).kids (x.f 1).kids (x.f 2).kids (x.f 3).kids y.toInt
noncomputable def laidWorld (os:Os):World:=World.holding Tryz.prog os ⟨#[],#[],[]⟩
def arg0:Value:=.agg #[.slice none 0 0,.slice none 0 0,.slice none 0 0,.slice none 0 0]
def arg1:Value:=.int .i64 0
set_option maxRecDepth 100000 in
theorem laid_met (os:Os):laidMet Tryz.prog Rows.fnExactNetKnownRow.laid ((laidWorld os).forCall (fun _ _=>0) ⟨#[],#[arg0,arg1],[]⟩).memory:=
 laidMet_of_run' 8 (by kernel_rfl) (by kernel_rfl)
theorem reads (os:Os) {H:Type} (enc:TypeId×Value->H):∃places,DataW.whole enc Tryz.prog ((laidWorld os).forCall (fun _ _=>0) ⟨#[],#[arg0,arg1],[]⟩).memory Tryz.f5.params.toList Rows.fnExactNetKnownSpec.vars false #[arg0,arg1].toList 8=some ([.agg [.nil,.nil,.nil,.nil],.lit (.int .i64 0)],[],places):=
 ⟨[],by kernel_rfl⟩
set_option maxRecDepth 100000 in
theorem lifted (os:Os) (started:os.Started) (H:Type) (enc:TypeId×Value->H) (F:Stop.Interp) :
   ReturnsInHanded {} Tryz.checked os 5 .any ((OpenSpec.ofChange Rows.fnExactNetKnownSpec).preRow enc Tryz.prog Tryz.f5 Rows.fnExactNetKnownRow.domain false Rows.fnExactNetKnownRow.laid) (((OpenSpec.ofChange Rows.fnExactNetKnownSpec).at F).post enc Tryz.prog Tryz.f5 false true false false):=by
 obtain⟨places,hx⟩:=reads os enc;refine returnsInHanded_of_row (C:=Tryz.checked) (s:=OpenSpec.ofChange Rows.fnExactNetKnownSpec) own started (by kernel_rfl) Tryz.func5
   (witness_row_at (enc:=enc) (C:=Tryz.checked) false (laidWorld os) #[arg0,arg1] rfl (by kernel_rfl) (by kernel_rfl) (by kernel_rfl)
     (OpenSpec.preRow_of_cond 8 hx (by kernel_rfl) (fun k hk=>by cases hk) (by kernel_rfl) (laid_met os))) ?_
 intro W base args ds gs before hval hW _ _ hwt _ _ _;exact contract H enc W base args ds gs before hval hW hwt
theorem said:Rows.FnExactNetKnownSaid:=
 OpenClaim.holds_of_cond 5 Tryz.f5 rfl rfl rfl rfl rfl rfl rfl ⟨rfl,rfl,rfl,rfl,rfl⟩ rfl rfl rfl rfl rfl (by kernel_rfl) Tryz.func5 (by kernel_rfl)
   (of_decide_eq_true (by kernel_rfl)) (by unfold Func.isWrapper;first | (rw[if_pos (by decide +kernel)];kernel_rfl) | (rw[if_neg (by decide +kernel)];exact⟨rfl,rfl⟩))
   (fun os started H enc _ F=>by rw[OpenClaim.pre_eq_preRow];exact lifted os started H enc F)
#print axioms said
end Go.Proofs.YtlfohjkcajaebaaGreat.fnExactNetKnown
