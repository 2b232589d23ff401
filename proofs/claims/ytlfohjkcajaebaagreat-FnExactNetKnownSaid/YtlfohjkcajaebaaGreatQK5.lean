/- Texts that the claim stands on, part 5. -/
import Derived.Test.YtlfohjkcajaebaaGreatQK4
import Derived.Test.YtlfohjkcajaebaaGreatProg
import Derived.RangeFuncNested
import Derived.RangeFuncBound
import Derived.RangeFuncCalls
import Derived.RangeFuncLeaves
import Derived.RangeFuncBox
import Derived.Shelf.Abstract
import Derived.Shelf.RegionOpen
import Derived.WalkKit
import Derived.OwnWalkIn
import Derived.TacticsInMore
import Derived.LoopNIn
import Derived.LoopIn
import Derived.Maps.AppendAt
import Derived.Sort.BigQuietIn
set_option linter.all false
namespace Go.Proofs.YtlfohjkcajaebaaGreat
open Go Go.RowKit
open Go.IntKind (i64)
open Tryz
namespace E
noncomputable section
set_option maxRecDepth 100000
abbrev OEnt:OT:=(.st [.im (.int .i64),.im (.int .i64),.im (.int .i64),(.st [.st [.sl 34 (.sl 3 (.im (.int .i64)))],.st [.sl 3 (.im (.int .i64))],.st [.sl 163 (.im (.st [.int .i64,.int .i64])),.im (.int .i64),.im (.int .i64)],.st [.sl 165 (.im (.st [.int .i64,.int .i64])),.im (.int .i64)]])])
abbrev ONode:OT:=.st [.im (.int .i64),.sl 80 OEnt,.im (.int .i64),.im (.int .i64),.im (.int .i64)]
abbrev OWord:OT:=.st [.im (.int .i64),.im (.int .i64),.im (.int .i64),.im (.int .i64),.im (.int .i64),.sl 80 OEnt]
def fillD (l:List Dat) (z:Dat) (g:Nat):List Dat:=l.take g++List.replicate (l.length-g) z
theorem fillD_all {l:List Dat} {z:Dat} {i:Nat} (h:l.length<=i):fillD l z i=l:=by
 rw[fillD,List.take_of_length_le h,show l.length-i=0 by omega];exact List.append_nil _
theorem fillD_length {l:List Dat} {z:Dat} {i:Nat} (h:i<=l.length):(fillD l z i).length=l.length:=by
 rw[fillD,List.length_append,List.length_take,List.length_replicate];omega
theorem fillD_next {l:List Dat} {z d:Dat} {i:Nat} (h:i<l.length) (hd:d=l.getD i default):(fillD l z i).set i d=fillD l z (i+1):=by
 subst hd;have hl:(l.take i).length=i:=by rw[List.length_take];omega
 rw[fillD,List.set_append_right _ _ (by omega),hl,Nat.sub_self,show l.length-i=(l.length-(i+1))+1 by omega,List.replicate_succ,List.set_cons_zero,fillD,takeD_next h,List.append_assoc];rfl
theorem ent_eta {d:Dat} (h:WF TEnt d):Dat.node [.int (d.f 0).toInt,.int (d.f 1).toInt,.int (d.f 2).toInt,.node [.node [.node (((d.f 3).f 0).f 0).kids],.node [.node (((d.f 3).f 1).f 0).kids],.node [.node (((d.f 3).f 2).f 0).kids,.int (((d.f 3).f 2).f 1).toInt,.int (((d.f 3).f 2).f 2).toInt],.node [.node (((d.f 3).f 3).f 0).kids,.int (((d.f 3).f 3).f 1).toInt]]]=d:=by
 obtain⟨_,rfl,_,_,rfl,⟨_,rfl,_⟩,_,_,rfl,⟨_,rfl,_⟩,_,_,rfl,⟨_,rfl,_⟩,_,_,rfl,⟨_,rfl,_,_,rfl,⟨_,rfl,_,_,rfl,⟨_,rfl,_⟩,rfl⟩,_,_,rfl,⟨_,rfl,_,_,rfl,⟨_,rfl,_⟩,rfl⟩,_,_,rfl,⟨_,rfl,_,_,rfl,⟨_,rfl,_⟩,_,_,rfl,⟨_,rfl,_⟩,_,_,rfl,⟨_,rfl,_⟩,rfl⟩,_,_,rfl,⟨_,rfl,_,_,rfl,⟨_,rfl,_⟩,_,_,rfl,⟨_,rfl,_⟩,rfl⟩,rfl⟩,rfl⟩:=h;rfl
theorem nd_eta {d:Dat} (h:WF TNode d):Dat.node [.int (d.f 0).toInt,.node (d.f 1).kids,.int (d.f 2).toInt,.int (d.f 3).toInt,.int (d.f 4).toInt]=d:=by
 obtain⟨_,rfl,_,_,rfl,⟨_,rfl,_⟩,_,_,rfl,⟨_,rfl,_⟩,_,_,rfl,⟨_,rfl,_⟩,_,_,rfl,⟨_,rfl,_⟩,_,_,rfl,⟨_,rfl,_⟩,rfl⟩:=h;rfl
theorem wd_eta {d:Dat} (h:WF TWord d):Dat.node [.int (d.f 0).toInt,.int (d.f 1).toInt,.int (d.f 2).toInt,.int (d.f 3).toInt,.int (d.f 4).toInt,.node (d.f 5).kids]=d:=by
 obtain⟨_,rfl,_,_,rfl,⟨_,rfl,_⟩,_,_,rfl,⟨_,rfl,_⟩,_,_,rfl,⟨_,rfl,_⟩,_,_,rfl,⟨_,rfl,_⟩,_,_,rfl,⟨_,rfl,_⟩,_,_,rfl,⟨_,rfl,_⟩,rfl⟩:=h;rfl
def zEnt:Dat:=.node [.int 0,.int 0,.int 0,.node [.node [.node []],.node [.node []],.node [.node [],.int 0,.int 0],.node [.node [],.int 0]]]
theorem toIntS_vc (l:List Dat) (hp:totL (.int .i64) l<=1048576) :
 WFl (Ty.int i64) l->I64 (l.length:Int)->((l.length:Int)=(l.length:Int)/\0<=(l.length:Int)/\(l.length:Int)*(↑(8:Nat):Int)<=281474976710656/\(l.length:Int)<=140737488355328)/\(∃x:Nat,x<=l.length/\l=l/\0=(x:Int)/\List.replicate l.length (Dat.int (0:Int))=fillD l (Dat.int (0:Int)) x)/\∀x:Nat,x<=l.length->I64 (l.length:Int)->(decide ((x:Int)<(l.length:Int))->(0<=(x:Int)/\(x:Int)<(l.length:Int))/\(I64
 (l.getD x default).toInt->(0<=(x:Int)/\(x:Int)<(↑(fillD l (Dat.int (0:Int)) x).length:Int))/\x<(fillD l (Dat.int (0:Int)) x).length/\∃x_1:Nat,(x_1<=l.length/\l.length-x_1<l.length-x)/\l=l/\i64.wrap ((x:Int)+1)=(x_1:Int)/\(fillD l (Dat.int (0:Int)) x).set x (Dat.int (l.getD x default).toInt)=fillD l (Dat.int (0:Int)) x_1))/\(decide ((x:Int)<(l.length:Int))=false->fillD l (Dat.int (0:Int)) x=l):=by
 intro hw;simp only[iv,kv,fv,nm];have h1:=hw.1;have h2:=totL_length (.int .i64) l;refine fun _=>⟨⟨by omega,by omega,by omega⟩,⟨0,by omega,rfl,rfl⟩,fun x hx _=>⟨fun hlt=>?_,fun hlt=>fillD_all (by omega)⟩⟩
 have h3:=tot_elem (e:=(.int .i64)) (ds:=l) (g:=x) (by omega);have hwx:=wfl_get hw (i:=x) (by omega);have h4:=fillD_length (l:=l) (z:=.int 0) (i:=x) (by omega);exact⟨⟨by omega,by omega⟩,fun _=>⟨⟨by omega,by omega⟩,by omega,x+1,⟨by omega,by omega⟩,up_ok (n:=l.length) (by omega) (by omega),fillD_next (by omega) ((wf_int hwx).1.symm)⟩⟩
def toIntS_get:List SV->St->Option Got
 | [.sl (.int .i64) l],⟨[],[],[]⟩=>some (totL (.int .i64) l<=1048576,.own 0,St.mk [] [] [⟨3,(.im (.int .i64)),l,0,false⟩])
 | _,_=>none
theorem toIntS_ok:Ok0 prog 168 toIntS_get:=by
 intro _ _ _ _ _ h hp;unfold toIntS_get at h;split at h
 · rename_i l;cases h;refine fl [] (fun k=>bif Nat.beq k 3 then some (.g (⟨Nat,fun s g=>hd s [0] [(3,.own 0),(4,.int .i64 g)] [⟨3,(.im (.int .i64)),fillD l (.int 0) g,0,false⟩],fun _ g=>g<=l.length,fun g=>l.length-g⟩)) else none) func168 ?_;apply VC.thru (toIntS_vc l hp);kernel_rfl
 · cases h
def toIntS_con:Con prog:=.f0 168 [.d,.lend] true toIntS_get (en func168 rfl) toIntS_ok
theorem toIntSS_vc (l:List Dat) (hp:totL (.sl (.int .i64)) l<=1048576) :
 WFl (Ty.int i64).sl l->I64 (l.length:Int)->((l.length:Int)=(l.length:Int)/\0<=(l.length:Int)/\(l.length:Int)*(↑(24:Nat):Int)<=281474976710656/\(l.length:Int)<=140737488355328)/\(∃x:Nat,x<=l.length/\l=l/\0=(x:Int)/\List.replicate l.length (Dat.node [])=fillD l (Dat.node []) x)/\∀x:Nat,x<=l.length->I64 (l.length:Int)->(decide ((x:Int)<(l.length:Int))->(0<=(x:Int)/\(x:Int)<(l.length:Int))/\totL
 (Ty.int i64) (l.getD x default).kids<=1048576/\(0<=(x:Int)/\(x:Int)<(↑(fillD l (Dat.node []) x).length:Int))/\x<(fillD l (Dat.node []) x).length/\∃x_1:Nat,(x_1<=l.length/\l.length-x_1<l.length-x)/\l=l/\i64.wrap ((x:Int)+1)=(x_1:Int)/\(fillD l (Dat.node []) x).set x (Dat.node (l.getD x default).kids)=fillD l (Dat.node []) x_1)/\(decide ((x:Int)<(l.length:Int))=false->fillD l (Dat.node []) x=l):=by
 intro hw;simp only[iv,kv,fv,nm];have h1:=hw.1;have h2:=totL_length (.sl (.int .i64)) l;refine fun _=>⟨⟨by omega,by omega,by omega⟩,⟨0,by omega,rfl,rfl⟩,fun x hx _=>⟨fun hlt=>?_,fun hlt=>fillD_all (by omega)⟩⟩
 have h3:=tot_elem (e:=(.sl (.int .i64))) (ds:=l) (g:=x) (by omega);rw[show tot (.sl (.int .i64)) (l.getD x default)=_ from by rw[tot_is]] at h3;have hwx:=wfl_get hw (i:=x) (by omega);have h4:=fillD_length (l:=l) (z:=.node []) (i:=x) (by omega);exact⟨⟨by omega,by omega⟩,by omega,⟨by omega,by omega⟩,by omega,x+1,⟨by omega,by omega⟩,up_ok (n:=l.length) (by omega) (by omega),fillD_next (by omega) ((wf_sl hwx).2.symm)⟩
def toIntSS_get:List SV->St->Option Got
 | [.sl (.sl (.int .i64)) l],⟨[],[],[]⟩=>some (totL (.sl (.int .i64)) l<=1048576,.own 0,St.mk [] [] [⟨34,(.sl 3 (.im (.int .i64))),l,0,false⟩])
 | _,_=>none
theorem toIntSS_ok:Ok0 prog 133 toIntSS_get:=by
 intro _ _ _ _ _ h hp;unfold toIntSS_get at h;split at h
 · rename_i l;cases h;refine fl [toIntS_con] (fun k=>bif Nat.beq k 3 then some (.g (⟨Nat,fun s g=>hd s [0] [(3,.own 0),(4,.int .i64 g)] [⟨34,(.sl 3 (.im (.int .i64))),fillD l (.node []) g,0,false⟩],fun _ g=>g<=l.length,fun g=>l.length-g⟩)) else none) func133 ?_;apply VC.thru (toIntSS_vc l hp);kernel_rfl
 · cases h
def toIntSS_con:Con prog:=.f0 133 [.d,.lend] true toIntSS_get (en func133 rfl) toIntSS_ok
theorem toRough_vc (rows:List Dat) (hp:totL (.sl (.int .i64)) rows<=1048576) :
 WFl (Ty.int i64).sl rows->totL (Ty.int i64).sl rows<=1048576/\rows=rows:=by
 intros
 simp only[iv,kv,fv,nm]
 (repeat' (first | omega | refine And.intro ?_ ?_))
def toRough_get:List SV->St->Option Got
 | [.agg [.sl (.sl (.int .i64)) rows]],⟨[],[],[]⟩=>some (totL (.sl (.int .i64)) rows<=1048576,.agg [.own 0],St.mk [] [] [⟨34,(.sl 3 (.im (.int .i64))),rows,0,false⟩])
 | _,_=>none
theorem toRough_ok:Ok0 prog 169 toRough_get:=by
 intro _ _ _ _ _ h hp;unfold toRough_get at h;split at h
 · rename_i rows;cases h;refine fz [toIntSS_con] func169 ?_;apply VC.thru (toRough_vc rows hp);kernel_rfl
 · cases h
def toRough_con:Con prog:=.f0 169 [.d,.lend] true toRough_get (en func169 rfl) toRough_ok
theorem toFew_vc (kept:List Dat) (hp:totL (.int .i64) kept<=1048576) :
 WFl (Ty.int i64) kept->totL (Ty.int i64) kept<=1048576/\kept=kept:=by
 intros
 simp only[iv,kv,fv,nm]
 (repeat' (first | omega | refine And.intro ?_ ?_))
def toFew_get:List SV->St->Option Got
 | [.agg [.sl (.int .i64) kept]],⟨[],[],[]⟩=>some (totL (.int .i64) kept<=1048576,.agg [.own 0],St.mk [] [] [⟨3,(.im (.int .i64)),kept,0,false⟩])
 | _,_=>none
theorem toFew_ok:Ok0 prog 170 toFew_get:=by
 intro _ _ _ _ _ h hp;unfold toFew_get at h;split at h
 · rename_i kept;cases h;refine fz [toIntS_con] func170 ?_;apply VC.thru (toFew_vc kept hp);kernel_rfl
 · cases h
def toFew_con:Con prog:=.f0 170 [.d,.lend] true toFew_get (en func170 rfl) toFew_ok
theorem toPair_vc (a b:Int) :
 I64 a->I64 b->I64 a->I64 b->a=a/\b=b:=by
 intros
 exact⟨rfl,rfl⟩
def toPair_get:List SV->St->Option Got
 | [.agg [.int .i64 a,.int .i64 b]],⟨[],[],[]⟩=>some (True,.agg [.int .i64 a,.int .i64 b],St.mk [] [] [])
 | _,_=>none
theorem toPair_ok:Ok0 prog 217 toPair_get:=by
 intro _ _ _ _ _ h hp;unfold toPair_get at h;split at h
 · rename_i a b;cases h;refine fz [] func217 ?_;apply VC.thru (toPair_vc a b);kernel_rfl
 · cases h
def toPair_con:Con prog:=.f0 217 [] true toPair_get (en func217 rfl) toPair_ok
theorem toPairS_vc (l:List Dat) (hp:totL TPr l<=1048576) :
 WFl TPr l->I64 (l.length:Int)->((l.length:Int)=(l.length:Int)/\0<=(l.length:Int)/\(l.length:Int)*(↑(16:Nat):Int)<=281474976710656/\(l.length:Int)<=140737488355328)/\(∃x:Nat,x<=l.length/\l=l/\0=(x:Int)/\List.replicate l.length (Dat.node [.int (0:Int),.int (0:Int)])=fillD l (Dat.node [.int (0:Int),.int (0:Int)]) x)/\∀x:Nat,x<=l.length->I64 (l.length:Int)->(decide
 ((x:Int)<(l.length:Int))->(0<=(x:Int)/\(x:Int)<(l.length:Int))/\True/\(0<=(x:Int)/\(x:Int)<(↑(fillD l (Dat.node [.int (0:Int),.int (0:Int)]) x).length:Int))/\x<(fillD l (Dat.node [.int (0:Int),.int (0:Int)]) x).length/\∃x_1:Nat,(x_1<=l.length/\l.length-x_1<l.length-x)/\l=l/\i64.wrap ((x:Int)+1)=(x_1:Int)/\(fillD l (Dat.node [.int (0:Int),.int (0:Int)]) x).set x (Dat.node [.int ((l.getD x
 default).f 0).toInt,.int ((l.getD x default).f 1).toInt])=fillD l (Dat.node [.int (0:Int),.int (0:Int)]) x_1)/\(decide ((x:Int)<(l.length:Int))=false->fillD l (Dat.node [.int (0:Int),.int (0:Int)]) x=l):=by
 intro hw;simp only[iv,kv,fv,nm];have h1:=hw.1;have h2:=totL_length TPr l;refine fun _=>⟨⟨by omega,by omega,by omega⟩,⟨0,by omega,rfl,rfl⟩,fun x hx _=>⟨fun hlt=>?_,fun hlt=>fillD_all (by omega)⟩⟩
 have h3:=tot_elem (e:=TPr) (ds:=l) (g:=x) (by omega);have hwx:=wfl_get hw (i:=x) (by omega);have h4:=fillD_length (l:=l) (z:=.node [.int 0,.int 0]) (i:=x) (by omega);exact⟨⟨by omega,by omega⟩,⟨by omega,by omega⟩,by omega,x+1,⟨by omega,by omega⟩,up_ok (n:=l.length) (by omega) (by omega),fillD_next (by omega) ((wf_pr hwx).1.symm)⟩
def toPairS_get:List SV->St->Option Got
 | [.sl ty0 l],⟨[],[],[]⟩=>guardTy ty0 TPr (some (totL TPr l<=1048576,.own 0,St.mk [] [] [⟨163,(.im TPr),l,0,false⟩]))
 | _,_=>none
theorem toPairS_ok:Ok0 prog 192 toPairS_get:=by
 intro _ _ _ _ _ h hp;unfold toPairS_get at h;split at h
 · rename_i l;replace h:=gT h;obtain⟨rfl,h⟩:=h;cases h;refine fl [toPair_con] (fun k=>bif Nat.beq k 3 then some (.g (⟨Nat,fun s g=>hd s [0] [(3,.own 0),(4,.int .i64 g)] [⟨163,(.im TPr),fillD l (.node [.int 0,.int 0]) g,0,false⟩],fun _ g=>g<=l.length,fun g=>l.length-g⟩)) else none) func192 ?_;apply VC.thru (toPairS_vc l hp);kernel_rfl
 · cases h
def toPairS_con:Con prog:=.f0 192 [.d,.lend] true toPairS_get (en func192 rfl) toPairS_ok
theorem toTop_vc (prs:List Dat) (lost all:Int) (hp:totL TPr prs<=1048576) :
 WFl TPr prs->I64 lost->I64 all->totL TPr prs<=1048576/\(I64 lost->I64 all->lost=lost/\all=all/\prs=prs):=by
 intros
 simp only[iv,kv,fv,nm]
 (repeat' (first | omega | refine And.intro ?_ ?_))
def toTop_get:List SV->St->Option Got
 | [.agg [.sl ty0 prs,.int .i64 lost,.int .i64 all]],⟨[],[],[]⟩=>guardTy ty0 TPr (some (totL TPr prs<=1048576,.agg [.own 0,.int .i64 lost,.int .i64 all],St.mk [] [] [⟨163,(.im TPr),prs,0,false⟩]))
 | _,_=>none
theorem toTop_ok:Ok0 prog 171 toTop_get:=by
 intro _ _ _ _ _ h hp;unfold toTop_get at h;split at h
 · rename_i prs lost all;replace h:=gT h;obtain⟨rfl,h⟩:=h;cases h;refine fz [toPairS_con] func171 ?_;apply VC.thru (toTop_vc prs lost all hp);kernel_rfl
 · cases h
def toTop_con:Con prog:=.f0 171 [.d,.lend] true toTop_get (en func171 rfl) toTop_ok
theorem toKnot_vc (a b:Int) :
 I64 a->I64 b->I64 a->I64 b->a=a/\b=b:=by
 intros
 exact⟨rfl,rfl⟩
def toKnot_get:List SV->St->Option Got
 | [.agg [.int .i64 a,.int .i64 b]],⟨[],[],[]⟩=>some (True,.agg [.int .i64 a,.int .i64 b],St.mk [] [] [])
 | _,_=>none
theorem toKnot_ok:Ok0 prog 218 toKnot_get:=by
 intro _ _ _ _ _ h hp;unfold toKnot_get at h;split at h
 · rename_i a b;cases h;refine fz [] func218 ?_;apply VC.thru (toKnot_vc a b);kernel_rfl
 · cases h
def toKnot_con:Con prog:=.f0 218 [] true toKnot_get (en func218 rfl) toKnot_ok
theorem toKnotS_vc (l:List Dat) (hp:totL TPr l<=1048576) :
 WFl TPr l->I64 (l.length:Int)->((l.length:Int)=(l.length:Int)/\0<=(l.length:Int)/\(l.length:Int)*(↑(16:Nat):Int)<=281474976710656/\(l.length:Int)<=140737488355328)/\(∃x:Nat,x<=l.length/\l=l/\0=(x:Int)/\List.replicate l.length (Dat.node [.int (0:Int),.int (0:Int)])=fillD l (Dat.node [.int (0:Int),.int (0:Int)]) x)/\∀x:Nat,x<=l.length->I64 (l.length:Int)->(decide
 ((x:Int)<(l.length:Int))->(0<=(x:Int)/\(x:Int)<(l.length:Int))/\True/\(0<=(x:Int)/\(x:Int)<(↑(fillD l (Dat.node [.int (0:Int),.int (0:Int)]) x).length:Int))/\x<(fillD l (Dat.node [.int (0:Int),.int (0:Int)]) x).length/\∃x_1:Nat,(x_1<=l.length/\l.length-x_1<l.length-x)/\l=l/\i64.wrap ((x:Int)+1)=(x_1:Int)/\(fillD l (Dat.node [.int (0:Int),.int (0:Int)]) x).set x (Dat.node [.int ((l.getD x
 default).f 0).toInt,.int ((l.getD x default).f 1).toInt])=fillD l (Dat.node [.int (0:Int),.int (0:Int)]) x_1)/\(decide ((x:Int)<(l.length:Int))=false->fillD l (Dat.node [.int (0:Int),.int (0:Int)]) x=l):=by
 intro hw;simp only[iv,kv,fv,nm];have h1:=hw.1;have h2:=totL_length TPr l;refine fun _=>⟨⟨by omega,by omega,by omega⟩,⟨0,by omega,rfl,rfl⟩,fun x hx _=>⟨fun hlt=>?_,fun hlt=>fillD_all (by omega)⟩⟩
 have h3:=tot_elem (e:=TPr) (ds:=l) (g:=x) (by omega);have hwx:=wfl_get hw (i:=x) (by omega);have h4:=fillD_length (l:=l) (z:=.node [.int 0,.int 0]) (i:=x) (by omega);exact⟨⟨by omega,by omega⟩,⟨by omega,by omega⟩,by omega,x+1,⟨by omega,by omega⟩,up_ok (n:=l.length) (by omega) (by omega),fillD_next (by omega) ((wf_pr hwx).1.symm)⟩
def toKnotS_get:List SV->St->Option Got
 | [.sl ty0 l],⟨[],[],[]⟩=>guardTy ty0 TPr (some (totL TPr l<=1048576,.own 0,St.mk [] [] [⟨165,(.im TPr),l,0,false⟩]))
 | _,_=>none
theorem toKnotS_ok:Ok0 prog 193 toKnotS_get:=by
 intro _ _ _ _ _ h hp;unfold toKnotS_get at h;split at h
 · rename_i l;replace h:=gT h;obtain⟨rfl,h⟩:=h;cases h;refine fl [toKnot_con] (fun k=>bif Nat.beq k 3 then some (.g (⟨Nat,fun s g=>hd s [0] [(3,.own 0),(4,.int .i64 g)] [⟨165,(.im TPr),fillD l (.node [.int 0,.int 0]) g,0,false⟩],fun _ g=>g<=l.length,fun g=>l.length-g⟩)) else none) func193 ?_;apply VC.thru (toKnotS_vc l hp);kernel_rfl
 · cases h
def toKnotS_con:Con prog:=.f0 193 [.d,.lend] true toKnotS_get (en func193 rfl) toKnotS_ok
theorem toRank_vc (kn:List Dat) (rall:Int) (hp:totL TPr kn<=1048576) :
 WFl TPr kn->I64 rall->totL TPr kn<=1048576/\(I64 rall->rall=rall/\kn=kn):=by
 intros
 simp only[iv,kv,fv,nm]
 (repeat' (first | omega | refine And.intro ?_ ?_))
def toRank_get:List SV->St->Option Got
 | [.agg [.sl ty0 kn,.int .i64 rall]],⟨[],[],[]⟩=>guardTy ty0 TPr (some (totL TPr kn<=1048576,.agg [.own 0,.int .i64 rall],St.mk [] [] [⟨165,(.im TPr),kn,0,false⟩]))
 | _,_=>none
theorem toRank_ok:Ok0 prog 172 toRank_get:=by
 intro _ _ _ _ _ h hp;unfold toRank_get at h;split at h
 · rename_i kn rall;replace h:=gT h;obtain⟨rfl,h⟩:=h;cases h;refine fz [toKnotS_con] func172 ?_;apply VC.thru (toRank_vc kn rall hp);kernel_rfl
 · cases h
def toRank_con:Con prog:=.f0 172 [.d,.lend] true toRank_get (en func172 rfl) toRank_ok
theorem toSum_vc (rows kept prs kn:List Dat) (lost all rall:Int) (hp:totL (.sl (.int .i64)) rows+totL (.int .i64) kept+totL TPr prs+totL TPr kn<=1048576) :
 WFl (Ty.int i64).sl rows->WFl (Ty.int i64) kept->WFl TPr prs->I64 lost->I64 all->WFl TPr kn->I64 rall->totL (Ty.int i64).sl rows<=1048576/\totL (Ty.int i64) kept<=1048576/\totL TPr prs<=1048576/\totL TPr kn<=1048576/\lost=lost/\all=all/\rall=rall/\rows=rows/\kept=kept/\prs=prs/\kn=kn:=by
 intros
 simp only[iv,kv,fv,nm]
 (repeat' (first | omega | refine And.intro ?_ ?_))
def toSum_get:List SV->St->Option Got
 | [.agg [.sl (.sl (.int .i64)) rows,.sl (.int .i64) kept,.sl ty0 prs,.int .i64 lost,.int .i64 all,.sl ty1 kn,.int .i64 rall]],⟨[],[],[]⟩=>guardTy ty0 TPr (guardTy ty1 TPr (some (totL (.sl (.int .i64)) rows+totL (.int .i64) kept+totL TPr prs+totL TPr kn<=1048576,.agg [.own 0,.own 1,.own 2,.int .i64 lost,.int .i64 all,.own 3,.int .i64 rall],St.mk [] [] [⟨34,(.sl 3 (.im (.int .i64))),rows,0,false⟩,⟨3,(.im (.int .i64)),kept,0,false⟩,⟨163,(.im TPr),prs,0,false⟩,⟨165,(.im TPr),kn,0,false⟩])))
 | _,_=>none
theorem toSum_ok:Ok0 prog 134 toSum_get:=by
 intro _ _ _ _ _ h hp;unfold toSum_get at h;split at h
 · rename_i rows kept _ prs lost all _ kn rall;replace h:=gT2 h;obtain⟨rfl,rfl,h⟩:=h;cases h;refine fz [toRough_con,toFew_con,toTop_con,toRank_con] func134 ?_;apply VC.thru (toSum_vc rows kept prs kn lost all rall hp);kernel_rfl
 · cases h
def toSum_con:Con prog:=.f0 134 [.d,.lend] true toSum_get (en func134 rfl) toSum_ok
theorem toEntry_vc (node born num:Int) (rows kept prs kn:List Dat) (lost all rall:Int) (hp:totL (.sl (.int .i64)) rows+totL (.int .i64) kept+totL TPr prs+totL TPr kn<=1048576) :
 I64 node->I64 born->I64 num->WFl (Ty.int i64).sl rows->WFl (Ty.int i64) kept->WFl TPr prs->I64 lost->I64 all->WFl TPr kn->I64 rall->I64 node->I64 born->I64 num->totL (Ty.int i64).sl rows+totL (Ty.int i64) kept+totL TPr prs+totL TPr kn<=1048576/\node=node/\born=born/\num=num/\lost=lost/\all=all/\rall=rall/\rows=rows/\kept=kept/\prs=prs/\kn=kn:=by
 intros
 simp only[iv,kv,fv,nm]
 (repeat' (first | omega | refine And.intro ?_ ?_))
def toEntry_get:List SV->St->Option Got
 | [.agg [.int .i64 node,.int .i64 born,.int .i64 num,.sl (.sl (.int .i64)) rows,.sl (.int .i64) kept,.sl ty0 prs,.int .i64 lost,.int .i64 all,.sl ty1 kn,.int .i64 rall]],⟨[],[],[]⟩=>guardTy ty0 TPr (guardTy ty1 TPr (some (totL (.sl (.int .i64)) rows+totL (.int .i64) kept+totL TPr prs+totL TPr kn<=1048576,.agg [.int .i64 node,.int .i64 born,.int .i64 num,.own 0,.own 1,.own 2,.int .i64 lost,.int .i64 all,.own 3,.int .i64 rall],St.mk [] [] [⟨34,(.sl 3 (.im (.int .i64))),rows,0,false⟩,⟨3,(.im (.int .i64)),kept,0,false⟩,⟨163,(.im TPr),prs,0,false⟩,⟨165,(.im TPr),kn,0,false⟩])))
 | _,_=>none
theorem toEntry_ok:Ok0 prog 65 toEntry_get:=by
 intro _ _ _ _ _ h hp;unfold toEntry_get at h;split at h
 · rename_i node born num rows kept _ prs lost all _ kn rall;replace h:=gT2 h;obtain⟨rfl,rfl,h⟩:=h;cases h;refine fz [toSum_con] func65 ?_;apply VC.thru (toEntry_vc node born num rows kept prs kn lost all rall hp);kernel_rfl
 · cases h
def toEntry_con:Con prog:=.f0 65 [.d,.lend] true toEntry_get (en func65 rfl) toEntry_ok
theorem toEntryS_vc (l:List Dat) (hp:totL TEnt l<=1048576) :
 WFl TEnt l->I64 (l.length:Int)->((l.length:Int)=(l.length:Int)/\0<=(l.length:Int)/\(l.length:Int)*(↑(144:Nat):Int)<=281474976710656/\(l.length:Int)<=140737488355328)/\(∃x:Nat,x<=l.length/\l=l/\0=(x:Int)/\List.replicate l.length (Dat.node [.int (0:Int),.int (0:Int),.int (0:Int),.node [.node [.node []],.node [.node []],.node [.node [],.int (0:Int),.int (0:Int)],.node [.node [],.int (0:Int)]]])=fillD
 l zEnt x)/\∀x:Nat,x<=l.length->I64 (l.length:Int)->(decide ((x:Int)<(l.length:Int))->(0<=(x:Int)/\(x:Int)<(l.length:Int))/\totL (Ty.int i64).sl ((((l.getD x default).f 3).f 0).f 0).kids+totL (Ty.int i64) ((((l.getD x default).f 3).f 1).f 0).kids+totL TPr ((((l.getD x default).f 3).f 2).f 0).kids+totL TPr ((((l.getD x default).f 3).f 3).f 0).kids<=1048576/\(0<=(x:Int)/\(x:Int)<(↑(fillD l zEnt
 x).length:Int))/\x<(fillD l zEnt x).length/\∃x_1:Nat,(x_1<=l.length/\l.length-x_1<l.length-x)/\l=l/\i64.wrap ((x:Int)+1)=(x_1:Int)/\(fillD l zEnt x).set x (Dat.node [.int ((l.getD x default).f 0).toInt,.int ((l.getD x default).f 1).toInt,.int ((l.getD x default).f 2).toInt,.node [.node [.node ((((l.getD x default).f 3).f 0).f 0).kids],.node [.node ((((l.getD x default).f 3).f 1).f 0).kids],.node
 [.node ((((l.getD x default).f 3).f 2).f 0).kids,.int ((((l.getD x default).f 3).f 2).f 1).toInt,.int ((((l.getD x default).f 3).f 2).f 2).toInt],.node [.node ((((l.getD x default).f 3).f 3).f 0).kids,.int ((((l.getD x default).f 3).f 3).f 1).toInt]]])=fillD l zEnt x_1)/\(decide ((x:Int)<(l.length:Int))=false->fillD l zEnt x=l):=by
 intro hw;simp only[iv,kv,fv,nm];have h1:=hw.1;have h2:=totL_length TEnt l;refine fun _=>⟨⟨by omega,by omega,by omega⟩,⟨0,by omega,rfl,rfl⟩,fun x hx _=>⟨fun hlt=>?_,fun hlt=>fillD_all (by omega)⟩⟩
 have h3:=tot_elem (e:=TEnt) (ds:=l) (g:=x) (by omega);rw[show tot TEnt (l.getD x default)=_ from tot_ent _] at h3;have hwx:=wfl_get hw (i:=x) (by omega);have h4:=fillD_length (l:=l) (z:=zEnt) (i:=x) (by omega);exact⟨⟨by omega,by omega⟩,by omega,⟨by omega,by omega⟩,by omega,x+1,⟨by omega,by omega⟩,up_ok (n:=l.length) (by omega) (by omega),fillD_next (by omega) (ent_eta hwx)⟩
def toEntryS_get:List SV->St->Option Got
 | [.sl ty0 l],⟨[],[],[]⟩=>guardTy ty0 TEnt (some (totL TEnt l<=1048576,.own 0,St.mk [] [] [⟨80,OEnt,l,0,false⟩]))
 | _,_=>none
theorem toEntryS_ok:Ok0 prog 21 toEntryS_get:=by
 intro _ _ _ _ _ h hp;unfold toEntryS_get at h;split at h
 · rename_i l;replace h:=gT h;obtain⟨rfl,h⟩:=h;cases h;refine fl [toEntry_con] (fun k=>bif Nat.beq k 3 then some (.g (⟨Nat,fun s g=>hd s [0] [(3,.own 0),(4,.int .i64 g)] [⟨80,OEnt,fillD l (zEnt) g,0,false⟩],fun _ g=>g<=l.length,fun g=>l.length-g⟩)) else none) func21 ?_;apply VC.thru (toEntryS_vc l hp);kernel_rfl
 · cases h
def toEntryS_con:Con prog:=.f0 21 [.d,.lend] true toEntryS_get (en func21 rfl) toEntryS_ok
theorem toNode_vc (born beacon level up:Int) (known:List Dat) (hp:totL TEnt known<=1048576) :
 I64 born->WFl TEnt known->I64 beacon->I64 level->I64 up->I64 born->totL TEnt known<=1048576/\(I64 beacon->I64 level->I64 up->born=born/\beacon=beacon/\level=level/\up=up/\known=known):=by
 intros
 simp only[iv,kv,fv,nm]
 (repeat' (first | omega | refine And.intro ?_ ?_))
def toNode_get:List SV->St->Option Got
 | [.agg [.int .i64 born,.sl ty0 known,.int .i64 beacon,.int .i64 level,.int .i64 up]],⟨[],[],[]⟩=>guardTy ty0 TEnt (some (totL TEnt known<=1048576,.agg [.int .i64 born,.own 0,.int .i64 beacon,.int .i64 level,.int .i64 up],St.mk [] [] [⟨80,OEnt,known,0,false⟩]))
 | _,_=>none
theorem toNode_ok:Ok0 prog 131 toNode_get:=by
 intro _ _ _ _ _ h hp;unfold toNode_get at h;split at h
 · rename_i born _ known beacon level up;replace h:=gT h;obtain⟨rfl,h⟩:=h;cases h;refine fz [toEntryS_con] func131 ?_;apply VC.thru (toNode_vc born beacon level up known hp);kernel_rfl
 · cases h
def toNode_con:Con prog:=.f0 131 [.d,.lend] true toNode_get (en func131 rfl) toNode_ok
theorem toNodeS_vc (l:List Dat) (hp:totL TNode l<=1048576) :
 WFl TNode l->I64 (l.length:Int)->((l.length:Int)=(l.length:Int)/\0<=(l.length:Int)/\(l.length:Int)*(↑(56:Nat):Int)<=281474976710656/\(l.length:Int)<=140737488355328)/\(∃x:Nat,x<=l.length/\l=l/\0=(x:Int)/\List.replicate l.length (Dat.node [.int (0:Int),.node [],.int (0:Int),.int (0:Int),.int (0:Int)])=fillD l (Dat.node [.int (0:Int),.node [],.int (0:Int),.int (0:Int),.int (0:Int)])
 x)/\∀x:Nat,x<=l.length->I64 (l.length:Int)->(decide ((x:Int)<(l.length:Int))->(0<=(x:Int)/\(x:Int)<(l.length:Int))/\totL TEnt ((l.getD x default).f 1).kids<=1048576/\(0<=(x:Int)/\(x:Int)<(↑(fillD l (Dat.node [.int (0:Int),.node [],.int (0:Int),.int (0:Int),.int (0:Int)]) x).length:Int))/\x<(fillD l (Dat.node [.int (0:Int),.node [],.int (0:Int),.int (0:Int),.int (0:Int)])
 x).length/\∃x_1:Nat,(x_1<=l.length/\l.length-x_1<l.length-x)/\l=l/\i64.wrap ((x:Int)+1)=(x_1:Int)/\(fillD l (Dat.node [.int (0:Int),.node [],.int (0:Int),.int (0:Int),.int (0:Int)]) x).set x (Dat.node [.int ((l.getD x default).f 0).toInt,.node ((l.getD x default).f 1).kids,.int ((l.getD x default).f 2).toInt,.int ((l.getD x default).f 3).toInt,.int ((l.getD x default).f 4).toInt])=fillD l
 (Dat.node [.int (0:Int),.node [],.int (0:Int),.int (0:Int),.int (0:Int)]) x_1)/\(decide ((x:Int)<(l.length:Int))=false->fillD l (Dat.node [.int (0:Int),.node [],.int (0:Int),.int (0:Int),.int (0:Int)]) x=l):=by
 intro hw;simp only[iv,kv,fv,nm];have h1:=hw.1;have h2:=totL_length TNode l;refine fun _=>⟨⟨by omega,by omega,by omega⟩,⟨0,by omega,rfl,rfl⟩,fun x hx _=>⟨fun hlt=>?_,fun hlt=>fillD_all (by omega)⟩⟩
 have h3:=tot_elem (e:=TNode) (ds:=l) (g:=x) (by omega);rw[show tot TNode (l.getD x default)=_ from tot_nd _] at h3;have hwx:=wfl_get hw (i:=x) (by omega);have h4:=fillD_length (l:=l) (z:=.node [.int 0,.node [],.int 0,.int 0,.int 0]) (i:=x) (by omega);exact⟨⟨by omega,by omega⟩,by omega,⟨by omega,by omega⟩,by omega,x+1,⟨by omega,by omega⟩,up_ok (n:=l.length) (by omega) (by omega),fillD_next (by omega) (nd_eta hwx)⟩
def toNodeS_get:List SV->St->Option Got
 | [.sl ty0 l],⟨[],[],[]⟩=>guardTy ty0 TNode (some (totL TNode l<=1048576,.own 0,St.mk [] [] [⟨77,ONode,l,0,false⟩]))
 | _,_=>none
theorem toNodeS_ok:Ok0 prog 61 toNodeS_get:=by
 intro _ _ _ _ _ h hp;unfold toNodeS_get at h;split at h
 · rename_i l;replace h:=gT h;obtain⟨rfl,h⟩:=h;cases h;refine fl [toNode_con] (fun k=>bif Nat.beq k 3 then some (.g (⟨Nat,fun s g=>hd s [0] [(3,.own 0),(4,.int .i64 g)] [⟨77,ONode,fillD l (.node [.int 0,.node [],.int 0,.int 0,.int 0]) g,0,false⟩],fun _ g=>g<=l.length,fun g=>l.length-g⟩)) else none) func61 ?_;apply VC.thru (toNodeS_vc l hp);kernel_rfl
 · cases h
def toNodeS_con:Con prog:=.f0 61 [.d,.lend] true toNodeS_get (en func61 rfl) toNodeS_ok
theorem toBoolS_vc (l:List Dat) (hp:totL .bool l<=1048576) :
 WFl Ty.bool l->I64 (l.length:Int)->((l.length:Int)=(l.length:Int)/\0<=(l.length:Int)/\(l.length:Int)*(↑(1:Nat):Int)<=281474976710656/\(l.length:Int)<=140737488355328)/\(∃x:Nat,x<=l.length/\l=l/\0=(x:Int)/\List.replicate l.length (Dat.bool false)=fillD l (Dat.bool false) x)/\∀x:Nat,x<=l.length->I64 (l.length:Int)->(decide
 ((x:Int)<(l.length:Int))->(0<=(x:Int)/\(x:Int)<(l.length:Int))/\(0<=(x:Int)/\(x:Int)<(↑(fillD l (Dat.bool false) x).length:Int))/\x<(fillD l (Dat.bool false) x).length/\∃x_1:Nat,(x_1<=l.length/\l.length-x_1<l.length-x)/\l=l/\i64.wrap ((x:Int)+1)=(x_1:Int)/\(fillD l (Dat.bool false) x).set x (Dat.bool (l.getD x default).toBool)=fillD l (Dat.bool false) x_1)/\(decide
 ((x:Int)<(l.length:Int))=false->fillD l (Dat.bool false) x=l):=by
 intro hw;simp only[iv,kv,fv,nm];have h1:=hw.1;have h2:=totL_length .bool l;refine fun _=>⟨⟨by omega,by omega,by omega⟩,⟨0,by omega,rfl,rfl⟩,fun x hx _=>⟨fun hlt=>?_,fun hlt=>fillD_all (by omega)⟩⟩
 have h3:=tot_elem (e:=.bool) (ds:=l) (g:=x) (by omega);have hwx:=wfl_get hw (i:=x) (by omega);have h4:=fillD_length (l:=l) (z:=.bool false) (i:=x) (by omega);exact⟨⟨by omega,by omega⟩,⟨by omega,by omega⟩,by omega,x+1,⟨by omega,by omega⟩,up_ok (n:=l.length) (by omega) (by omega),fillD_next (by omega) ((wf_bool hwx).symm)⟩
def toBoolS_get:List SV->St->Option Got
 | [.sl .bool l],⟨[],[],[]⟩=>some (totL .bool l<=1048576,.own 0,St.mk [] [] [⟨4,(.im .bool),l,0,false⟩])
 | _,_=>none
theorem toBoolS_ok:Ok0 prog 62 toBoolS_get:=by
 intro _ _ _ _ _ h hp;unfold toBoolS_get at h;split at h
 · rename_i l;cases h;refine fl [] (fun k=>bif Nat.beq k 3 then some (.g (⟨Nat,fun s g=>hd s [0] [(3,.own 0),(4,.int .i64 g)] [⟨4,(.im .bool),fillD l (.bool false) g,0,false⟩],fun _ g=>g<=l.length,fun g=>l.length-g⟩)) else none) func62 ?_;apply VC.thru (toBoolS_vc l hp);kernel_rfl
 · cases h
def toBoolS_con:Con prog:=.f0 62 [.d,.lend] true toBoolS_get (en func62 rfl) toBoolS_ok
theorem toWord_vc (kind fr to beacon level:Int) (known:List Dat) (hp:totL TEnt known<=1048576) :
 I64 kind->I64 fr->I64 to->I64 beacon->I64 level->WFl TEnt known->I64 kind->I64 fr->I64 to->I64 beacon->I64 level->totL TEnt known<=1048576/\kind=kind/\fr=fr/\to=to/\beacon=beacon/\level=level/\known=known:=by
 intros
 simp only[iv,kv,fv,nm]
 (repeat' (first | omega | refine And.intro ?_ ?_))
def toWord_get:List SV->St->Option Got
 | [.agg [.int .i64 kind,.int .i64 fr,.int .i64 to,.int .i64 beacon,.int .i64 level,.sl ty0 known]],⟨[],[],[]⟩=>guardTy ty0 TEnt (some (totL TEnt known<=1048576,.agg [.int .i64 kind,.int .i64 fr,.int .i64 to,.int .i64 beacon,.int .i64 level,.own 0],St.mk [] [] [⟨80,OEnt,known,0,false⟩]))
 | _,_=>none
theorem toWord_ok:Ok0 prog 132 toWord_get:=by
 intro _ _ _ _ _ h hp;unfold toWord_get at h;split at h
 · rename_i kind fr to beacon level _ known;replace h:=gT h;obtain⟨rfl,h⟩:=h;cases h;refine fz [toEntryS_con] func132 ?_;apply VC.thru (toWord_vc kind fr to beacon level known hp);kernel_rfl
 · cases h
def toWord_con:Con prog:=.f0 132 [.d,.lend] true toWord_get (en func132 rfl) toWord_ok
theorem toWordS_vc (l:List Dat) (hp:totL TWord l<=1048576) :
 WFl TWord l->I64 (l.length:Int)->((l.length:Int)=(l.length:Int)/\0<=(l.length:Int)/\(l.length:Int)*(↑(64:Nat):Int)<=281474976710656/\(l.length:Int)<=140737488355328)/\(∃x:Nat,x<=l.length/\l=l/\0=(x:Int)/\List.replicate l.length (Dat.node [.int (0:Int),.int (0:Int),.int (0:Int),.int (0:Int),.int (0:Int),.node []])=fillD l (Dat.node [.int (0:Int),.int (0:Int),.int (0:Int),.int (0:Int),.int
 (0:Int),.node []]) x)/\∀x:Nat,x<=l.length->I64 (l.length:Int)->(decide ((x:Int)<(l.length:Int))->(0<=(x:Int)/\(x:Int)<(l.length:Int))/\totL TEnt ((l.getD x default).f 5).kids<=1048576/\(0<=(x:Int)/\(x:Int)<(↑(fillD l (Dat.node [.int (0:Int),.int (0:Int),.int (0:Int),.int (0:Int),.int (0:Int),.node []]) x).length:Int))/\x<(fillD l (Dat.node [.int (0:Int),.int (0:Int),.int (0:Int),.int (0:Int),.int
 (0:Int),.node []]) x).length/\∃x_1:Nat,(x_1<=l.length/\l.length-x_1<l.length-x)/\l=l/\i64.wrap ((x:Int)+1)=(x_1:Int)/\(fillD l (Dat.node [.int (0:Int),.int (0:Int),.int (0:Int),.int (0:Int),.int (0:Int),.node []]) x).set x (Dat.node [.int ((l.getD x default).f 0).toInt,.int ((l.getD x default).f 1).toInt,.int ((l.getD x default).f 2).toInt,.int ((l.getD x default).f 3).toInt,.int ((l.getD x
 default).f 4).toInt,.node ((l.getD x default).f 5).kids])=fillD l (Dat.node [.int (0:Int),.int (0:Int),.int (0:Int),.int (0:Int),.int (0:Int),.node []]) x_1)/\(decide ((x:Int)<(l.length:Int))=false->fillD l (Dat.node [.int (0:Int),.int (0:Int),.int (0:Int),.int (0:Int),.int (0:Int),.node []]) x=l):=by
 intro hw;simp only[iv,kv,fv,nm];have h1:=hw.1;have h2:=totL_length TWord l;refine fun _=>⟨⟨by omega,by omega,by omega⟩,⟨0,by omega,rfl,rfl⟩,fun x hx _=>⟨fun hlt=>?_,fun hlt=>fillD_all (by omega)⟩⟩
 have h3:=tot_elem (e:=TWord) (ds:=l) (g:=x) (by omega);rw[show tot TWord (l.getD x default)=_ from tot_wd _] at h3;have hwx:=wfl_get hw (i:=x) (by omega);have h4:=fillD_length (l:=l) (z:=.node [.int 0,.int 0,.int 0,.int 0,.int 0,.node []]) (i:=x) (by omega);exact⟨⟨by omega,by omega⟩,by omega,⟨by omega,by omega⟩,by omega,x+1,⟨by omega,by omega⟩,up_ok (n:=l.length) (by omega) (by omega),fillD_next (by omega) (wd_eta hwx)⟩
def toWordS_get:List SV->St->Option Got
 | [.sl ty0 l],⟨[],[],[]⟩=>guardTy ty0 TWord (some (totL TWord l<=1048576,.own 0,St.mk [] [] [⟨138,OWord,l,0,false⟩]))
 | _,_=>none
theorem toWordS_ok:Ok0 prog 63 toWordS_get:=by
 intro _ _ _ _ _ h hp;unfold toWordS_get at h;split at h
 · rename_i l;replace h:=gT h;obtain⟨rfl,h⟩:=h;cases h;refine fl [toWord_con] (fun k=>bif Nat.beq k 3 then some (.g (⟨Nat,fun s g=>hd s [0] [(3,.own 0),(4,.int .i64 g)] [⟨138,OWord,fillD l (.node [.int 0,.int 0,.int 0,.int 0,.int 0,.node []]) g,0,false⟩],fun _ g=>g<=l.length,fun g=>l.length-g⟩)) else none) func63 ?_;apply VC.thru (toWordS_vc l hp);kernel_rfl
 · cases h
def toWordS_con:Con prog:=.f0 63 [.d,.lend] true toWordS_get (en func63 rfl) toWordS_ok
theorem toIntSSS_vc (l:List Dat) (hp:totL (.sl (.sl (.int .i64))) l<=1048576) :
 WFl (Ty.int i64).sl.sl l->I64 (l.length:Int)->((l.length:Int)=(l.length:Int)/\0<=(l.length:Int)/\(l.length:Int)*(↑(24:Nat):Int)<=281474976710656/\(l.length:Int)<=140737488355328)/\(∃x:Nat,x<=l.length/\l=l/\0=(x:Int)/\List.replicate l.length (Dat.node [])=fillD l (Dat.node []) x)/\∀x:Nat,x<=l.length->I64 (l.length:Int)->(decide ((x:Int)<(l.length:Int))->(0<=(x:Int)/\(x:Int)<(l.length:Int))/\totL
 (Ty.int i64).sl (l.getD x default).kids<=1048576/\(0<=(x:Int)/\(x:Int)<(↑(fillD l (Dat.node []) x).length:Int))/\x<(fillD l (Dat.node []) x).length/\∃x_1:Nat,(x_1<=l.length/\l.length-x_1<l.length-x)/\l=l/\i64.wrap ((x:Int)+1)=(x_1:Int)/\(fillD l (Dat.node []) x).set x (Dat.node (l.getD x default).kids)=fillD l (Dat.node []) x_1)/\(decide ((x:Int)<(l.length:Int))=false->fillD l (Dat.node [])
 x=l):=by
 intro hw;simp only[iv,kv,fv,nm];have h1:=hw.1;have h2:=totL_length (.sl (.sl (.int .i64))) l;refine fun _=>⟨⟨by omega,by omega,by omega⟩,⟨0,by omega,rfl,rfl⟩,fun x hx _=>⟨fun hlt=>?_,fun hlt=>fillD_all (by omega)⟩⟩
 have h3:=tot_elem (e:=(.sl (.sl (.int .i64)))) (ds:=l) (g:=x) (by omega);rw[show tot (.sl (.sl (.int .i64))) (l.getD x default)=_ from by rw[tot_is]] at h3;have hwx:=wfl_get hw (i:=x) (by omega);have h4:=fillD_length (l:=l) (z:=.node []) (i:=x) (by omega);exact⟨⟨by omega,by omega⟩,by omega,⟨by omega,by omega⟩,by omega,x+1,⟨by omega,by omega⟩,up_ok (n:=l.length) (by omega) (by omega),fillD_next (by omega) ((wf_sl hwx).2.symm)⟩
def toIntSSS_get:List SV->St->Option Got
 | [.sl (.sl (.sl (.int .i64))) l],⟨[],[],[]⟩=>some (totL (.sl (.sl (.int .i64))) l<=1048576,.own 0,St.mk [] [] [⟨31,(.sl 34 (.sl 3 (.im (.int .i64)))),l,0,false⟩])
 | _,_=>none
theorem toIntSSS_ok:Ok0 prog 64 toIntSSS_get:=by
 intro _ _ _ _ _ h hp;unfold toIntSSS_get at h;split at h
 · rename_i l;cases h;refine fl [toIntSS_con] (fun k=>bif Nat.beq k 3 then some (.g (⟨Nat,fun s g=>hd s [0] [(3,.own 0),(4,.int .i64 g)] [⟨31,(.sl 34 (.sl 3 (.im (.int .i64)))),fillD l (.node []) g,0,false⟩],fun _ g=>g<=l.length,fun g=>l.length-g⟩)) else none) func64 ?_;apply VC.thru (toIntSSS_vc l hp);kernel_rfl
 · cases h
def toIntSSS_con:Con prog:=.f0 64 [.d,.lend] true toIntSSS_get (en func64 rfl) toIntSSS_ok
theorem toNet_vc (nodes links words past:List Dat) (hp:totL TNode nodes+totL .bool links+totL TWord words+totL (.sl (.sl (.int .i64))) past<=1048576) :
 WFl TNode nodes->WFl Ty.bool links->WFl TWord words->WFl (Ty.int i64).sl.sl past->totL TNode nodes<=1048576/\totL Ty.bool links<=1048576/\totL TWord words<=1048576/\totL (Ty.int i64).sl.sl past<=1048576/\nodes=nodes/\links=links/\words=words/\past=past:=by
 intros
 simp only[iv,kv,fv,nm]
 (repeat' (first | omega | refine And.intro ?_ ?_))
def toNet_get:List SV->St->Option Got
 | [.agg [.sl ty0 nodes,.sl .bool links,.sl ty1 words,.sl (.sl (.sl (.int .i64))) past]],⟨[],[],[]⟩=>guardTy ty0 TNode (guardTy ty1 TWord (some (totL TNode nodes+totL .bool links+totL TWord words+totL (.sl (.sl (.int .i64))) past<=1048576,.agg [.own 0,.own 1,.own 2,.own 3],St.mk [] [] [⟨77,ONode,nodes,0,false⟩,⟨4,(.im .bool),links,0,false⟩,⟨138,OWord,words,0,false⟩,⟨31,(.sl 34 (.sl 3 (.im (.int .i64)))),past,0,false⟩])))
 | _,_=>none
theorem toNet_ok:Ok0 prog 20 toNet_get:=by
 intro _ _ _ _ _ h hp;unfold toNet_get at h;split at h
 · rename_i nodes links _ words past;replace h:=gT2 h;obtain⟨rfl,rfl,h⟩:=h;cases h;refine fz [toNodeS_con,toBoolS_con,toWordS_con,toIntSSS_con] func20 ?_;apply VC.thru (toNet_vc nodes links words past hp);kernel_rfl
 · cases h
def toNet_con:Con prog:=.f0 20 [.d,.lend] true toNet_get (en func20 rfl) toNet_ok
theorem eqL_all {a b:List Dat} {x:Nat} (hl:a.length=b.length) (hx:∀j,j<x->a.getD j default=b.getD j default) (h:a.length<=x):a=b:=list_ext_getD hl (fun i hi=>hx i (by omega))
theorem eqL_next {a b:List Dat} {x:Nat} (hx:∀j,j<x->a.getD j default=b.getD j default) (h:a.getD x default=b.getD x default):∀j,j<x+1->a.getD j default=b.getD j default:=fun j hj=>by
 rcases Nat.lt_or_ge j x with h2 | h2
 · exact hx j h2
 · rw[show j=x by omega];exact h
theorem int_same {d d2:Dat} (h:WF (.int .i64) d) (h2:WF (.int .i64) d2):d.toInt=d2.toInt ↔ d=d2:=⟨fun e=>by rw[(wf_int h).1,(wf_int h2).1,e],fun e=>by rw[e]⟩
theorem bool_same {d d2:Dat} (h:WF .bool d) (h2:WF .bool d2):d.toBool=d2.toBool ↔ d=d2:=⟨fun e=>by rw[wf_bool h,wf_bool h2,e],fun e=>by rw[e]⟩
theorem sl_same {e:Ty} {d d2:Dat} (h:WF (.sl e) d) (h2:WF (.sl e) d2):d.kids=d2.kids ↔ d=d2:=⟨fun e=>by rw[(wf_sl h).2,(wf_sl h2).2,e],fun e=>by rw[e]⟩
theorem pr_same {d d2:Dat} (h:WF TPr d) (h2:WF TPr d2):((d.f 0).toInt=(d2.f 0).toInt/\(d.f 1).toInt=(d2.f 1).toInt) ↔ d=d2:=⟨fun e=>by rw[(wf_pr h).1,(wf_pr h2).1,e.1,e.2],fun e=>by subst e;exact⟨rfl,rfl⟩⟩
theorem ent_same {d d2:Dat} (h:WF TEnt d) (h2:WF TEnt d2):((d.f 0).toInt=(d2.f 0).toInt/\(d.f 1).toInt=(d2.f 1).toInt/\(d.f 2).toInt=(d2.f 2).toInt/\(((d.f 3).f 0).f 0).kids=(((d2.f 3).f 0).f 0).kids/\(((d.f 3).f 1).f 0).kids=(((d2.f 3).f 1).f 0).kids/\(((d.f 3).f 2).f 0).kids=(((d2.f 3).f 2).f 0).kids/\(((d.f 3).f 2).f 1).toInt=(((d2.f 3).f 2).f 1).toInt/\(((d.f 3).f 2).f 2).toInt=(((d2.f 3).f 2).f 2).toInt/\(((d.f 3).f 3).f 0).kids=(((d2.f 3).f 3).f 0).kids/\(((d.f 3).f 3).f 1).toInt=(((d2.f 3).f 3).f 1).toInt) ↔ d=d2:=⟨fun e=>by obtain⟨e0,e1,e2,e3,e4,e5,e6,e7,e8,e9⟩:=e;rw[<- ent_eta h,<- ent_eta h2,e0,e1,e2,e3,e4,e5,e6,e7,e8,e9],fun e=>by subst e;exact⟨rfl,rfl,rfl,rfl,rfl,rfl,rfl,rfl,rfl,rfl⟩⟩
theorem nd_same {d d2:Dat} (h:WF TNode d) (h2:WF TNode d2):((d.f 0).toInt=(d2.f 0).toInt/\(d.f 1).kids=(d2.f 1).kids/\(d.f 2).toInt=(d2.f 2).toInt/\(d.f 3).toInt=(d2.f 3).toInt/\(d.f 4).toInt=(d2.f 4).toInt) ↔ d=d2:=⟨fun e=>by obtain⟨e0,e1,e2,e3,e4⟩:=e;rw[<- nd_eta h,<- nd_eta h2,e0,e1,e2,e3,e4],fun e=>by subst e;exact⟨rfl,rfl,rfl,rfl,rfl⟩⟩
theorem wd_same {d d2:Dat} (h:WF TWord d) (h2:WF TWord d2):((d.f 0).toInt=(d2.f 0).toInt/\(d.f 1).toInt=(d2.f 1).toInt/\(d.f 2).toInt=(d2.f 2).toInt/\(d.f 3).toInt=(d2.f 3).toInt/\(d.f 4).toInt=(d2.f 4).toInt/\(d.f 5).kids=(d2.f 5).kids) ↔ d=d2:=⟨fun e=>by obtain⟨e0,e1,e2,e3,e4,e5⟩:=e;rw[<- wd_eta h,<- wd_eta h2,e0,e1,e2,e3,e4,e5],fun e=>by subst e;exact⟨rfl,rfl,rfl,rfl,rfl,rfl⟩⟩
theorem eqIntS_vc (a b:List Dat) :
 WFl (Ty.int i64) a->WFl (Ty.int i64) b->I64 (a.length:Int)->I64 (b.length:Int)->(decide ((a.length:Int)≠(b.length:Int))->dec (a=b)=false)/\(decide ((a.length:Int)≠(b.length:Int))=false->(∃x:Nat,(x<=a.length/\∀j:Nat,j<x->a.getD j default=b.getD j default)/\a=a/\b=b/\0=(x:Int))/\∀x:Nat,(x<=a.length/\∀j:Nat,j<x->a.getD j default=b.getD j default)->I64 (a.length:Int)->(decide
 ((x:Int)<(a.length:Int))->(0<=(x:Int)/\(x:Int)<(a.length:Int))/\(I64 (a.getD x default).toInt->(0<=(x:Int)/\(x:Int)<(b.length:Int))/\(I64 (b.getD x default).toInt->(decide ((a.getD x default).toInt≠(b.getD x default).toInt)->dec (a=b)=false)/\(decide ((a.getD x default).toInt≠(b.getD x default).toInt)=false->∃x_1:Nat,((x_1<=a.length/\∀j:Nat,j<x_1->a.getD j default=b.getD j
 default)/\a.length-x_1<a.length-x)/\a=a/\b=b/\i64.wrap ((x:Int)+1)=(x_1:Int)))))/\(decide ((x:Int)<(a.length:Int))=false->dec (a=b)=true)):=by
 intro hwa hwb;simp only[iv,kv,fv,nm];have h1:=hwa.1;refine fun _ _=>⟨fun h e=>h (by rw[e]),fun hl=>⟨⟨0,⟨by omega,fun j hj=>by omega⟩,rfl⟩,fun x hx _=>⟨fun hlt=>?_,fun hlt=>eqL_all (by omega) hx.2 (by omega)⟩⟩⟩
 have hwx:=wfl_get hwa (i:=x) (by omega);have hwy:=wfl_get hwb (i:=x) (by omega);exact⟨⟨by omega,by omega⟩,fun _=>⟨⟨by omega,by omega⟩,fun _=>⟨fun h e=>h ((int_same hwx hwy).2 (by rw[e])),fun h=>⟨x+1,⟨⟨by omega,eqL_next hx.2 ((int_same hwx hwy).1 h)⟩,by omega⟩,up_ok (n:=a.length) (by omega) (by omega)⟩⟩⟩⟩
def eqIntS_get:List SV->St->Option Got
 | [.sl (.int .i64) a,.sl (.int .i64) b],⟨[],[],[]⟩=>some (True,.bool (dec (a=b)),St.mk [] [] [])
 | _,_=>none
theorem eqIntS_ok:Ok0 prog 22 eqIntS_get:=by
 intro _ _ _ _ _ h hp;unfold eqIntS_get at h;split at h
 · rename_i a b;cases h;refine fl [] (fun k=>bif Nat.beq k 4 then some (.g (⟨Nat,fun s g=>hd s [0,1] [(5,.int .i64 g)] s.rw,fun _ g=>g<=a.length/\∀j,j<g->a.getD j default=b.getD j default,fun g=>a.length-g⟩)) else none) func22 ?_;apply VC.thru (eqIntS_vc a b);kernel_rfl
 · cases h
def eqIntS_con:Con prog:=.f0 22 [] true eqIntS_get (en func22 rfl) eqIntS_ok
theorem eqIntSS_vc (a b:List Dat) :
 WFl (Ty.int i64).sl a->WFl (Ty.int i64).sl b->I64 (a.length:Int)->I64 (b.length:Int)->(decide ((a.length:Int)≠(b.length:Int))->dec (a=b)=false)/\(decide ((a.length:Int)≠(b.length:Int))=false->(∃x:Nat,(x<=a.length/\∀j:Nat,j<x->a.getD j default=b.getD j default)/\a=a/\b=b/\0=(x:Int))/\∀x:Nat,(x<=a.length/\∀j:Nat,j<x->a.getD j default=b.getD j default)->I64 (a.length:Int)->(decide
 ((x:Int)<(a.length:Int))->(0<=(x:Int)/\(x:Int)<(a.length:Int))/\(0<=(x:Int)/\(x:Int)<(b.length:Int))/\True/\((!dec ((a.getD x default).kids=(b.getD x default).kids))=true->dec (a=b)=false)/\((!dec ((a.getD x default).kids=(b.getD x default).kids))=false->∃x_1:Nat,((x_1<=a.length/\∀j:Nat,j<x_1->a.getD j default=b.getD j default)/\a.length-x_1<a.length-x)/\a=a/\b=b/\i64.wrap
 ((x:Int)+1)=(x_1:Int)))/\(decide ((x:Int)<(a.length:Int))=false->dec (a=b)=true)):=by
 intro hwa hwb;simp only[iv,kv,fv,nm];have h1:=hwa.1;refine fun _ _=>⟨fun h e=>h (by rw[e]),fun hl=>⟨⟨0,⟨by omega,fun j hj=>by omega⟩,rfl⟩,fun x hx _=>⟨fun hlt=>?_,fun hlt=>eqL_all (by omega) hx.2 (by omega)⟩⟩⟩
 have hwx:=wfl_get hwa (i:=x) (by omega);have hwy:=wfl_get hwb (i:=x) (by omega);exact⟨⟨by omega,by omega⟩,⟨by omega,by omega⟩,fun h e=>h ((sl_same hwx hwy).2 (by rw[e])),fun h=>⟨x+1,⟨⟨by omega,eqL_next hx.2 ((sl_same hwx hwy).1 h)⟩,by omega⟩,up_ok (n:=a.length) (by omega) (by omega)⟩⟩
def eqIntSS_get:List SV->St->Option Got
 | [.sl (.sl (.int .i64)) a,.sl (.sl (.int .i64)) b],⟨[],[],[]⟩=>some (True,.bool (dec (a=b)),St.mk [] [] [])
 | _,_=>none
theorem eqIntSS_ok:Ok0 prog 137 eqIntSS_get:=by
 intro _ _ _ _ _ h hp;unfold eqIntSS_get at h;split at h
 · rename_i a b;cases h;refine fl [eqIntS_con] (fun k=>bif Nat.beq k 4 then some (.g (⟨Nat,fun s g=>hd s [0,1] [(5,.int .i64 g)] s.rw,fun _ g=>g<=a.length/\∀j,j<g->a.getD j default=b.getD j default,fun g=>a.length-g⟩)) else none) func137 ?_;apply VC.thru (eqIntSS_vc a b);kernel_rfl
 · cases h
def eqIntSS_con:Con prog:=.f0 137 [] true eqIntSS_get (en func137 rfl) eqIntSS_ok
theorem eqRough_vc (rows rows2:List Dat) :
 WFl (Ty.int i64).sl rows->WFl (Ty.int i64).sl rows2->True/\((!dec (rows=rows2))=true->dec (rows=rows2)=false)/\((!dec (rows=rows2))=false->dec (rows=rows2)=true):=by
 intros
 simp only[iv,kv,fv,nm]
def eqRough_get:List SV->St->Option Got
 | [.agg [.sl (.sl (.int .i64)) rows],.agg [.sl (.sl (.int .i64)) rows2]],⟨[],[],[]⟩=>some (True,.bool (dec (rows=rows2)),St.mk [] [] [])
 | _,_=>none
theorem eqRough_ok:Ok0 prog 82 eqRough_get:=by
 intro _ _ _ _ _ h hp;unfold eqRough_get at h;split at h
 · rename_i rows rows2;cases h;refine fz [eqIntSS_con] func82 ?_;apply VC.thru (eqRough_vc rows rows2);kernel_rfl
 · cases h
def eqRough_con:Con prog:=.f0 82 [] true eqRough_get (en func82 rfl) eqRough_ok
theorem eqFew_vc (kept kept2:List Dat) :
 WFl (Ty.int i64) kept->WFl (Ty.int i64) kept2->True/\((!dec (kept=kept2))=true->dec (kept=kept2)=false)/\((!dec (kept=kept2))=false->dec (kept=kept2)=true):=by
 intros
 simp only[iv,kv,fv,nm]
def eqFew_get:List SV->St->Option Got
 | [.agg [.sl (.int .i64) kept],.agg [.sl (.int .i64) kept2]],⟨[],[],[]⟩=>some (True,.bool (dec (kept=kept2)),St.mk [] [] [])
 | _,_=>none
theorem eqFew_ok:Ok0 prog 83 eqFew_get:=by
 intro _ _ _ _ _ h hp;unfold eqFew_get at h;split at h
 · rename_i kept kept2;cases h;refine fz [eqIntS_con] func83 ?_;apply VC.thru (eqFew_vc kept kept2);kernel_rfl
 · cases h
def eqFew_con:Con prog:=.f0 83 [] true eqFew_get (en func83 rfl) eqFew_ok
theorem eqPair_vc (pa pa2 pb pb2:Int) :
 I64 pa->I64 pb->I64 pa2->I64 pb2->I64 pa->I64 pa2->(decide (pa≠pa2)->dec (pa=pa2/\pb=pb2)=false)/\(decide (pa≠pa2)=false->I64 pb->I64 pb2->(decide (pb≠pb2)->dec (pa=pa2/\pb=pb2)=false)/\(decide (pb≠pb2)=false->dec (pa=pa2/\pb=pb2)=true)):=by
 intros
 simp only[iv,kv,fv,nm]
 (repeat' (first | assumption | intro _ | refine And.intro ?_ ?_))
 all_goals simp_all
def eqPair_get:List SV->St->Option Got
 | [.agg [.int .i64 pa,.int .i64 pb],.agg [.int .i64 pa2,.int .i64 pb2]],⟨[],[],[]⟩=>some (True,.bool (dec (pa=pa2/\pb=pb2)),St.mk [] [] [])
 | _,_=>none
theorem eqPair_ok:Ok0 prog 173 eqPair_get:=by
 intro _ _ _ _ _ h hp;unfold eqPair_get at h;split at h
 · rename_i pa pb pa2 pb2;cases h;refine fz [] func173 ?_;apply VC.thru (eqPair_vc pa pa2 pb pb2);kernel_rfl
 · cases h
def eqPair_con:Con prog:=.f0 173 [] true eqPair_get (en func173 rfl) eqPair_ok
theorem eqPairS_vc (a b:List Dat) :
 WFl TPr a->WFl TPr b->I64 (a.length:Int)->I64 (b.length:Int)->(decide ((a.length:Int)≠(b.length:Int))->dec (a=b)=false)/\(decide ((a.length:Int)≠(b.length:Int))=false->(∃x:Nat,(x<=a.length/\∀j:Nat,j<x->a.getD j default=b.getD j default)/\a=a/\b=b/\0=(x:Int))/\∀x:Nat,(x<=a.length/\∀j:Nat,j<x->a.getD j default=b.getD j default)->I64 (a.length:Int)->(decide
 ((x:Int)<(a.length:Int))->(0<=(x:Int)/\(x:Int)<(a.length:Int))/\(0<=(x:Int)/\(x:Int)<(b.length:Int))/\True/\((!dec (((a.getD x default).f 0).toInt=((b.getD x default).f 0).toInt/\((a.getD x default).f 1).toInt=((b.getD x default).f 1).toInt))=true->dec (a=b)=false)/\((!dec (((a.getD x default).f 0).toInt=((b.getD x default).f 0).toInt/\((a.getD x default).f 1).toInt=((b.getD x default).f
 1).toInt))=false->∃x_1:Nat,((x_1<=a.length/\∀j:Nat,j<x_1->a.getD j default=b.getD j default)/\a.length-x_1<a.length-x)/\a=a/\b=b/\i64.wrap ((x:Int)+1)=(x_1:Int)))/\(decide ((x:Int)<(a.length:Int))=false->dec (a=b)=true)):=by
 intro hwa hwb;simp only[iv,kv,fv,nm];have h1:=hwa.1;refine fun _ _=>⟨fun h e=>h (by rw[e]),fun hl=>⟨⟨0,⟨by omega,fun j hj=>by omega⟩,rfl⟩,fun x hx _=>⟨fun hlt=>?_,fun hlt=>eqL_all (by omega) hx.2 (by omega)⟩⟩⟩
 have hwx:=wfl_get hwa (i:=x) (by omega);have hwy:=wfl_get hwb (i:=x) (by omega);exact⟨⟨by omega,by omega⟩,⟨by omega,by omega⟩,fun h e=>h ((pr_same hwx hwy).2 (by rw[e])),fun h=>⟨x+1,⟨⟨by omega,eqL_next hx.2 ((pr_same hwx hwy).1 h)⟩,by omega⟩,up_ok (n:=a.length) (by omega) (by omega)⟩⟩
def eqPairS_get:List SV->St->Option Got
 | [.sl ty0 a,.sl ty1 b],⟨[],[],[]⟩=>guardTy ty0 TPr (guardTy ty1 TPr (some (True,.bool (dec (a=b)),St.mk [] [] [])))
 | _,_=>none
theorem eqPairS_ok:Ok0 prog 139 eqPairS_get:=by
 intro _ _ _ _ _ h hp;unfold eqPairS_get at h;split at h
 · rename_i a _ b;replace h:=gT2 h;obtain⟨rfl,rfl,h⟩:=h;cases h;refine fl [eqPair_con] (fun k=>bif Nat.beq k 4 then some (.g (⟨Nat,fun s g=>hd s [0,1] [(5,.int .i64 g)] s.rw,fun _ g=>g<=a.length/\∀j,j<g->a.getD j default=b.getD j default,fun g=>a.length-g⟩)) else none) func139 ?_;apply VC.thru (eqPairS_vc a b);kernel_rfl
 · cases h
def eqPairS_con:Con prog:=.f0 139 [] true eqPairS_get (en func139 rfl) eqPairS_ok
theorem eqTop_vc (prs prs2:List Dat) (lost lost2 all all2:Int) :
 WFl TPr prs->I64 lost->I64 all->WFl TPr prs2->I64 lost2->I64 all2->True/\((!dec (prs=prs2))=true->dec (prs=prs2/\lost=lost2/\all=all2)=false)/\((!dec (prs=prs2))=false->I64 lost->I64 lost2->(decide (lost≠lost2)->dec (prs=prs2/\lost=lost2/\all=all2)=false)/\(decide (lost≠lost2)=false->I64 all->I64 all2->(decide (all≠all2)->dec (prs=prs2/\lost=lost2/\all=all2)=false)/\(decide (all≠all2)=false->dec
 (prs=prs2/\lost=lost2/\all=all2)=true))):=by
 intros
 simp only[iv,kv,fv,nm]
 (repeat' (first | assumption | intro _ | refine And.intro ?_ ?_))
 all_goals simp_all
def eqTop_get:List SV->St->Option Got
 | [.agg [.sl ty0 prs,.int .i64 lost,.int .i64 all],.agg [.sl ty1 prs2,.int .i64 lost2,.int .i64 all2]],⟨[],[],[]⟩=>guardTy ty0 TPr (guardTy ty1 TPr (some (True,.bool (dec (prs=prs2/\lost=lost2/\all=all2)),St.mk [] [] [])))
 | _,_=>none
theorem eqTop_ok:Ok0 prog 84 eqTop_get:=by
 intro _ _ _ _ _ h hp;unfold eqTop_get at h;split at h
 · rename_i prs lost all _ prs2 lost2 all2;replace h:=gT2 h;obtain⟨rfl,rfl,h⟩:=h;cases h;refine fz [eqPairS_con] func84 ?_;apply VC.thru (eqTop_vc prs prs2 lost lost2 all all2);kernel_rfl
 · cases h
def eqTop_con:Con prog:=.f0 84 [] true eqTop_get (en func84 rfl) eqTop_ok
theorem eqKnot_vc (pa pa2 pb pb2:Int) :
 I64 pa->I64 pb->I64 pa2->I64 pb2->I64 pa->I64 pa2->(decide (pa≠pa2)->dec (pa=pa2/\pb=pb2)=false)/\(decide (pa≠pa2)=false->I64 pb->I64 pb2->(decide (pb≠pb2)->dec (pa=pa2/\pb=pb2)=false)/\(decide (pb≠pb2)=false->dec (pa=pa2/\pb=pb2)=true)):=by
 intros
 simp only[iv,kv,fv,nm]
 (repeat' (first | assumption | intro _ | refine And.intro ?_ ?_))
 all_goals simp_all
def eqKnot_get:List SV->St->Option Got
 | [.agg [.int .i64 pa,.int .i64 pb],.agg [.int .i64 pa2,.int .i64 pb2]],⟨[],[],[]⟩=>some (True,.bool (dec (pa=pa2/\pb=pb2)),St.mk [] [] [])
 | _,_=>none
theorem eqKnot_ok:Ok0 prog 174 eqKnot_get:=by
 intro _ _ _ _ _ h hp;unfold eqKnot_get at h;split at h
 · rename_i pa pb pa2 pb2;cases h;refine fz [] func174 ?_;apply VC.thru (eqKnot_vc pa pa2 pb pb2);kernel_rfl
 · cases h
def eqKnot_con:Con prog:=.f0 174 [] true eqKnot_get (en func174 rfl) eqKnot_ok
theorem eqKnotS_vc (a b:List Dat) :
 WFl TPr a->WFl TPr b->I64 (a.length:Int)->I64 (b.length:Int)->(decide ((a.length:Int)≠(b.length:Int))->dec (a=b)=false)/\(decide ((a.length:Int)≠(b.length:Int))=false->(∃x:Nat,(x<=a.length/\∀j:Nat,j<x->a.getD j default=b.getD j default)/\a=a/\b=b/\0=(x:Int))/\∀x:Nat,(x<=a.length/\∀j:Nat,j<x->a.getD j default=b.getD j default)->I64 (a.length:Int)->(decide
 ((x:Int)<(a.length:Int))->(0<=(x:Int)/\(x:Int)<(a.length:Int))/\(0<=(x:Int)/\(x:Int)<(b.length:Int))/\True/\((!dec (((a.getD x default).f 0).toInt=((b.getD x default).f 0).toInt/\((a.getD x default).f 1).toInt=((b.getD x default).f 1).toInt))=true->dec (a=b)=false)/\((!dec (((a.getD x default).f 0).toInt=((b.getD x default).f 0).toInt/\((a.getD x default).f 1).toInt=((b.getD x default).f
 1).toInt))=false->∃x_1:Nat,((x_1<=a.length/\∀j:Nat,j<x_1->a.getD j default=b.getD j default)/\a.length-x_1<a.length-x)/\a=a/\b=b/\i64.wrap ((x:Int)+1)=(x_1:Int)))/\(decide ((x:Int)<(a.length:Int))=false->dec (a=b)=true)):=by
 intro hwa hwb;simp only[iv,kv,fv,nm];have h1:=hwa.1;refine fun _ _=>⟨fun h e=>h (by rw[e]),fun hl=>⟨⟨0,⟨by omega,fun j hj=>by omega⟩,rfl⟩,fun x hx _=>⟨fun hlt=>?_,fun hlt=>eqL_all (by omega) hx.2 (by omega)⟩⟩⟩
 have hwx:=wfl_get hwa (i:=x) (by omega);have hwy:=wfl_get hwb (i:=x) (by omega);exact⟨⟨by omega,by omega⟩,⟨by omega,by omega⟩,fun h e=>h ((pr_same hwx hwy).2 (by rw[e])),fun h=>⟨x+1,⟨⟨by omega,eqL_next hx.2 ((pr_same hwx hwy).1 h)⟩,by omega⟩,up_ok (n:=a.length) (by omega) (by omega)⟩⟩
def eqKnotS_get:List SV->St->Option Got
 | [.sl ty0 a,.sl ty1 b],⟨[],[],[]⟩=>guardTy ty0 TPr (guardTy ty1 TPr (some (True,.bool (dec (a=b)),St.mk [] [] [])))
 | _,_=>none
theorem eqKnotS_ok:Ok0 prog 140 eqKnotS_get:=by
 intro _ _ _ _ _ h hp;unfold eqKnotS_get at h;split at h
 · rename_i a _ b;replace h:=gT2 h;obtain⟨rfl,rfl,h⟩:=h;cases h;refine fl [eqKnot_con] (fun k=>bif Nat.beq k 4 then some (.g (⟨Nat,fun s g=>hd s [0,1] [(5,.int .i64 g)] s.rw,fun _ g=>g<=a.length/\∀j,j<g->a.getD j default=b.getD j default,fun g=>a.length-g⟩)) else none) func140 ?_;apply VC.thru (eqKnotS_vc a b);kernel_rfl
 · cases h
def eqKnotS_con:Con prog:=.f0 140 [] true eqKnotS_get (en func140 rfl) eqKnotS_ok
theorem eqRank_vc (kn kn2:List Dat) (rall rall2:Int) :
 WFl TPr kn->I64 rall->WFl TPr kn2->I64 rall2->True/\((!dec (kn=kn2))=true->dec (kn=kn2/\rall=rall2)=false)/\((!dec (kn=kn2))=false->I64 rall->I64 rall2->(decide (rall≠rall2)->dec (kn=kn2/\rall=rall2)=false)/\(decide (rall≠rall2)=false->dec (kn=kn2/\rall=rall2)=true)):=by
 intros
 simp only[iv,kv,fv,nm]
 (repeat' (first | assumption | intro _ | refine And.intro ?_ ?_))
 all_goals simp_all
def eqRank_get:List SV->St->Option Got
 | [.agg [.sl ty0 kn,.int .i64 rall],.agg [.sl ty1 kn2,.int .i64 rall2]],⟨[],[],[]⟩=>guardTy ty0 TPr (guardTy ty1 TPr (some (True,.bool (dec (kn=kn2/\rall=rall2)),St.mk [] [] [])))
 | _,_=>none
theorem eqRank_ok:Ok0 prog 85 eqRank_get:=by
 intro _ _ _ _ _ h hp;unfold eqRank_get at h;split at h
 · rename_i kn rall _ kn2 rall2;replace h:=gT2 h;obtain⟨rfl,rfl,h⟩:=h;cases h;refine fz [eqKnotS_con] func85 ?_;apply VC.thru (eqRank_vc kn kn2 rall rall2);kernel_rfl
 · cases h
def eqRank_con:Con prog:=.f0 85 [] true eqRank_get (en func85 rfl) eqRank_ok
theorem eqSum_vc (rows rows2 kept kept2 prs prs2 kn kn2:List Dat) (lost lost2 all all2 rall rall2:Int) :
 WFl (Ty.int i64).sl rows->WFl (Ty.int i64) kept->WFl TPr prs->I64 lost->I64 all->WFl TPr kn->I64 rall->WFl (Ty.int i64).sl rows2->WFl (Ty.int i64) kept2->WFl TPr prs2->I64 lost2->I64 all2->WFl TPr kn2->I64 rall2->True/\((!dec (rows=rows2))=true->dec (rows=rows2/\kept=kept2/\prs=prs2/\lost=lost2/\all=all2/\kn=kn2/\rall=rall2)=false)/\((!dec (rows=rows2))=false->True/\((!dec (kept=kept2))=true->dec
 (rows=rows2/\kept=kept2/\prs=prs2/\lost=lost2/\all=all2/\kn=kn2/\rall=rall2)=false)/\((!dec (kept=kept2))=false->True/\((!dec (prs=prs2/\lost=lost2/\all=all2))=true->dec (rows=rows2/\kept=kept2/\prs=prs2/\lost=lost2/\all=all2/\kn=kn2/\rall=rall2)=false)/\((!dec (prs=prs2/\lost=lost2/\all=all2))=false->True/\((!dec (kn=kn2/\rall=rall2))=true->dec
 (rows=rows2/\kept=kept2/\prs=prs2/\lost=lost2/\all=all2/\kn=kn2/\rall=rall2)=false)/\((!dec (kn=kn2/\rall=rall2))=false->dec (rows=rows2/\kept=kept2/\prs=prs2/\lost=lost2/\all=all2/\kn=kn2/\rall=rall2)=true)))):=by
 intros
 simp only[iv,kv,fv,nm]
 (repeat' (first | assumption | intro _ | refine And.intro ?_ ?_))
 all_goals simp_all
def eqSum_get:List SV->St->Option Got
 | [.agg [.sl (.sl (.int .i64)) rows,.sl (.int .i64) kept,.sl ty0 prs,.int .i64 lost,.int .i64 all,.sl ty1 kn,.int .i64 rall],.agg [.sl (.sl (.int .i64)) rows2,.sl (.int .i64) kept2,.sl ty2 prs2,.int .i64 lost2,.int .i64 all2,.sl ty3 kn2,.int .i64 rall2]],⟨[],[],[]⟩=>guardTy ty0 TPr (guardTy ty1 TPr (guardTy ty2 TPr (guardTy ty3 TPr (some (True,.bool (dec (rows=rows2/\kept=kept2/\prs=prs2/\lost=lost2/\all=all2/\kn=kn2/\rall=rall2)),St.mk [] [] [])))))
 | _,_=>none
theorem eqSum_ok:Ok0 prog 31 eqSum_get:=by
 intro _ _ _ _ _ h hp;unfold eqSum_get at h;split at h
 · rename_i rows kept _ prs lost all _ kn rall rows2 kept2 _ prs2 lost2 all2 _ kn2 rall2;replace h:=gT4 h;obtain⟨rfl,rfl,rfl,rfl,h⟩:=h;cases h;refine fz [eqRough_con,eqFew_con,eqTop_con,eqRank_con] func31 ?_;apply VC.thru (eqSum_vc rows rows2 kept kept2 prs prs2 kn kn2 lost lost2 all all2 rall rall2);kernel_rfl
 · cases h
def eqSum_con:Con prog:=.f0 31 [] true eqSum_get (en func31 rfl) eqSum_ok
theorem eqEntry_vc (rows rows2 kept kept2 prs prs2 kn kn2:List Dat) (node node2 born born2 num num2 lost lost2 all all2 rall rall2:Int) :
 I64 node->I64 born->I64 num->WFl (Ty.int i64).sl rows->WFl (Ty.int i64) kept->WFl TPr prs->I64 lost->I64 all->WFl TPr kn->I64 rall->I64 node2->I64 born2->I64 num2->WFl (Ty.int i64).sl rows2->WFl (Ty.int i64) kept2->WFl TPr prs2->I64 lost2->I64 all2->WFl TPr kn2->I64 rall2->I64 node->I64 node2->(decide (node≠node2)->dec
 (node=node2/\born=born2/\num=num2/\rows=rows2/\kept=kept2/\prs=prs2/\lost=lost2/\all=all2/\kn=kn2/\rall=rall2)=false)/\(decide (node≠node2)=false->I64 born->I64 born2->(decide (born≠born2)->dec (node=node2/\born=born2/\num=num2/\rows=rows2/\kept=kept2/\prs=prs2/\lost=lost2/\all=all2/\kn=kn2/\rall=rall2)=false)/\(decide (born≠born2)=false->I64 num->I64 num2->(decide (num≠num2)->dec
 (node=node2/\born=born2/\num=num2/\rows=rows2/\kept=kept2/\prs=prs2/\lost=lost2/\all=all2/\kn=kn2/\rall=rall2)=false)/\(decide (num≠num2)=false->True/\((!dec (rows=rows2/\kept=kept2/\prs=prs2/\lost=lost2/\all=all2/\kn=kn2/\rall=rall2))=true->dec (node=node2/\born=born2/\num=num2/\rows=rows2/\kept=kept2/\prs=prs2/\lost=lost2/\all=all2/\kn=kn2/\rall=rall2)=false)/\((!dec
 (rows=rows2/\kept=kept2/\prs=prs2/\lost=lost2/\all=all2/\kn=kn2/\rall=rall2))=false->dec (node=node2/\born=born2/\num=num2/\rows=rows2/\kept=kept2/\prs=prs2/\lost=lost2/\all=all2/\kn=kn2/\rall=rall2)=true)))):=by
 intros
 simp only[iv,kv,fv,nm]
 (repeat' (first | assumption | intro _ | refine And.intro ?_ ?_))
 all_goals simp_all
def eqEntry_get:List SV->St->Option Got
 | [.agg [.int .i64 node,.int .i64 born,.int .i64 num,.sl (.sl (.int .i64)) rows,.sl (.int .i64) kept,.sl ty0 prs,.int .i64 lost,.int .i64 all,.sl ty1 kn,.int .i64 rall],.agg [.int .i64 node2,.int .i64 born2,.int .i64 num2,.sl (.sl (.int .i64)) rows2,.sl (.int .i64) kept2,.sl ty2 prs2,.int .i64 lost2,.int .i64 all2,.sl ty3 kn2,.int .i64 rall2]],⟨[],[],[]⟩=>guardTy ty0 TPr (guardTy ty1 TPr (guardTy ty2 TPr (guardTy ty3 TPr (some (True,.bool (dec (node=node2/\born=born2/\num=num2/\rows=rows2/\kept=kept2/\prs=prs2/\lost=lost2/\all=all2/\kn=kn2/\rall=rall2)),St.mk [] [] [])))))
 | _,_=>none
theorem eqEntry_ok:Ok0 prog 70 eqEntry_get:=by
 intro _ _ _ _ _ h hp;unfold eqEntry_get at h;split at h
 · rename_i node born num rows kept _ prs lost all _ kn rall node2 born2 num2 rows2 kept2 _ prs2 lost2 all2 _ kn2 rall2;replace h:=gT4 h;obtain⟨rfl,rfl,rfl,rfl,h⟩:=h;cases h;refine fz [eqSum_con] func70 ?_;apply VC.thru (eqEntry_vc rows rows2 kept kept2 prs prs2 kn kn2 node node2 born born2 num num2 lost lost2 all all2 rall rall2);kernel_rfl
 · cases h
def eqEntry_con:Con prog:=.f0 70 [] true eqEntry_get (en func70 rfl) eqEntry_ok
theorem eqEntryS_vc (a b:List Dat) :
 WFl TEnt a->WFl TEnt b->I64 (a.length:Int)->I64 (b.length:Int)->(decide ((a.length:Int)≠(b.length:Int))->dec (a=b)=false)/\(decide ((a.length:Int)≠(b.length:Int))=false->(∃x:Nat,(x<=a.length/\∀j:Nat,j<x->a.getD j default=b.getD j default)/\a=a/\b=b/\0=(x:Int))/\∀x:Nat,(x<=a.length/\∀j:Nat,j<x->a.getD j default=b.getD j default)->I64 (a.length:Int)->(decide
 ((x:Int)<(a.length:Int))->(0<=(x:Int)/\(x:Int)<(a.length:Int))/\(0<=(x:Int)/\(x:Int)<(b.length:Int))/\True/\((!dec (((a.getD x default).f 0).toInt=((b.getD x default).f 0).toInt/\((a.getD x default).f 1).toInt=((b.getD x default).f 1).toInt/\((a.getD x default).f 2).toInt=((b.getD x default).f 2).toInt/\((((a.getD x default).f 3).f 0).f 0).kids=((((b.getD x default).f 3).f 0).f 0).kids/\((((a.getD
 x default).f 3).f 1).f 0).kids=((((b.getD x default).f 3).f 1).f 0).kids/\((((a.getD x default).f 3).f 2).f 0).kids=((((b.getD x default).f 3).f 2).f 0).kids/\((((a.getD x default).f 3).f 2).f 1).toInt=((((b.getD x default).f 3).f 2).f 1).toInt/\((((a.getD x default).f 3).f 2).f 2).toInt=((((b.getD x default).f 3).f 2).f 2).toInt/\((((a.getD x default).f 3).f 3).f 0).kids=((((b.getD x default).f
 3).f 3).f 0).kids/\((((a.getD x default).f 3).f 3).f 1).toInt=((((b.getD x default).f 3).f 3).f 1).toInt))=true->dec (a=b)=false)/\((!dec (((a.getD x default).f 0).toInt=((b.getD x default).f 0).toInt/\((a.getD x default).f 1).toInt=((b.getD x default).f 1).toInt/\((a.getD x default).f 2).toInt=((b.getD x default).f 2).toInt/\((((a.getD x default).f 3).f 0).f 0).kids=((((b.getD x default).f 3).f
 0).f 0).kids/\((((a.getD x default).f 3).f 1).f 0).kids=((((b.getD x default).f 3).f 1).f 0).kids/\((((a.getD x default).f 3).f 2).f 0).kids=((((b.getD x default).f 3).f 2).f 0).kids/\((((a.getD x default).f 3).f 2).f 1).toInt=((((b.getD x default).f 3).f 2).f 1).toInt/\((((a.getD x default).f 3).f 2).f 2).toInt=((((b.getD x default).f 3).f 2).f 2).toInt/\((((a.getD x default).f 3).f 3).f
 0).kids=((((b.getD x default).f 3).f 3).f 0).kids/\((((a.getD x default).f 3).f 3).f 1).toInt=((((b.getD x default).f 3).f 3).f 1).toInt))=false->∃x_1:Nat,((x_1<=a.length/\∀j:Nat,j<x_1->a.getD j default=b.getD j default)/\a.length-x_1<a.length-x)/\a=a/\b=b/\i64.wrap ((x:Int)+1)=(x_1:Int)))/\(decide ((x:Int)<(a.length:Int))=false->dec (a=b)=true)):=by
 intro hwa hwb;simp only[iv,kv,fv,nm];have h1:=hwa.1;refine fun _ _=>⟨fun h e=>h (by rw[e]),fun hl=>⟨⟨0,⟨by omega,fun j hj=>by omega⟩,rfl⟩,fun x hx _=>⟨fun hlt=>?_,fun hlt=>eqL_all (by omega) hx.2 (by omega)⟩⟩⟩
 have hwx:=wfl_get hwa (i:=x) (by omega);have hwy:=wfl_get hwb (i:=x) (by omega);exact⟨⟨by omega,by omega⟩,⟨by omega,by omega⟩,fun h e=>h ((ent_same hwx hwy).2 (by rw[e])),fun h=>⟨x+1,⟨⟨by omega,eqL_next hx.2 ((ent_same hwx hwy).1 h)⟩,by omega⟩,up_ok (n:=a.length) (by omega) (by omega)⟩⟩
def eqEntryS_get:List SV->St->Option Got
 | [.sl ty0 a,.sl ty1 b],⟨[],[],[]⟩=>guardTy ty0 TEnt (guardTy ty1 TEnt (some (True,.bool (dec (a=b)),St.mk [] [] [])))
 | _,_=>none
theorem eqEntryS_ok:Ok0 prog 24 eqEntryS_get:=by
 intro _ _ _ _ _ h hp;unfold eqEntryS_get at h;split at h
 · rename_i a _ b;replace h:=gT2 h;obtain⟨rfl,rfl,h⟩:=h;cases h;refine fl [eqEntry_con] (fun k=>bif Nat.beq k 4 then some (.g (⟨Nat,fun s g=>hd s [0,1] [(5,.int .i64 g)] s.rw,fun _ g=>g<=a.length/\∀j,j<g->a.getD j default=b.getD j default,fun g=>a.length-g⟩)) else none) func24 ?_;apply VC.thru (eqEntryS_vc a b);kernel_rfl
 · cases h
def eqEntryS_con:Con prog:=.f0 24 [] true eqEntryS_get (en func24 rfl) eqEntryS_ok
theorem eqNode_vc (known known2:List Dat) (born born2 beacon beacon2 level level2 up up2:Int) :
 I64 born->WFl TEnt known->I64 beacon->I64 level->I64 up->I64 born2->WFl TEnt known2->I64 beacon2->I64 level2->I64 up2->I64 born->I64 born2->(decide (born≠born2)->dec (born=born2/\known=known2/\beacon=beacon2/\level=level2/\up=up2)=false)/\(decide (born≠born2)=false->True/\((!dec (known=known2))=true->dec (born=born2/\known=known2/\beacon=beacon2/\level=level2/\up=up2)=false)/\((!dec
 (known=known2))=false->I64 beacon->I64 beacon2->(decide (beacon≠beacon2)->dec (born=born2/\known=known2/\beacon=beacon2/\level=level2/\up=up2)=false)/\(decide (beacon≠beacon2)=false->I64 level->I64 level2->(decide (level≠level2)->dec (born=born2/\known=known2/\beacon=beacon2/\level=level2/\up=up2)=false)/\(decide (level≠level2)=false->I64 up->I64 up2->(decide (up≠up2)->dec
 (born=born2/\known=known2/\beacon=beacon2/\level=level2/\up=up2)=false)/\(decide (up≠up2)=false->dec (born=born2/\known=known2/\beacon=beacon2/\level=level2/\up=up2)=true))))):=by
 intros
 simp only[iv,kv,fv,nm]
 (repeat' (first | assumption | intro _ | refine And.intro ?_ ?_))
 all_goals simp_all
def eqNode_get:List SV->St->Option Got
 | [.agg [.int .i64 born,.sl ty0 known,.int .i64 beacon,.int .i64 level,.int .i64 up],.agg [.int .i64 born2,.sl ty1 known2,.int .i64 beacon2,.int .i64 level2,.int .i64 up2]],⟨[],[],[]⟩=>guardTy ty0 TEnt (guardTy ty1 TEnt (some (True,.bool (dec (born=born2/\known=known2/\beacon=beacon2/\level=level2/\up=up2)),St.mk [] [] [])))
 | _,_=>none
theorem eqNode_ok:Ok0 prog 135 eqNode_get:=by
 intro _ _ _ _ _ h hp;unfold eqNode_get at h;split at h
 · rename_i born _ known beacon level up born2 _ known2 beacon2 level2 up2;replace h:=gT2 h;obtain⟨rfl,rfl,h⟩:=h;cases h;refine fz [eqEntryS_con] func135 ?_;apply VC.thru (eqNode_vc known known2 born born2 beacon beacon2 level level2 up up2);kernel_rfl
 · cases h
def eqNode_con:Con prog:=.f0 135 [] true eqNode_get (en func135 rfl) eqNode_ok
theorem eqNodeS_vc (a b:List Dat) :
 WFl TNode a->WFl TNode b->I64 (a.length:Int)->I64 (b.length:Int)->(decide ((a.length:Int)≠(b.length:Int))->dec (a=b)=false)/\(decide ((a.length:Int)≠(b.length:Int))=false->(∃x:Nat,(x<=a.length/\∀j:Nat,j<x->a.getD j default=b.getD j default)/\a=a/\b=b/\0=(x:Int))/\∀x:Nat,(x<=a.length/\∀j:Nat,j<x->a.getD j default=b.getD j default)->I64 (a.length:Int)->(decide
 ((x:Int)<(a.length:Int))->(0<=(x:Int)/\(x:Int)<(a.length:Int))/\(0<=(x:Int)/\(x:Int)<(b.length:Int))/\True/\((!dec (((a.getD x default).f 0).toInt=((b.getD x default).f 0).toInt/\((a.getD x default).f 1).kids=((b.getD x default).f 1).kids/\((a.getD x default).f 2).toInt=((b.getD x default).f 2).toInt/\((a.getD x default).f 3).toInt=((b.getD x default).f 3).toInt/\((a.getD x default).f
 4).toInt=((b.getD x default).f 4).toInt))=true->dec (a=b)=false)/\((!dec (((a.getD x default).f 0).toInt=((b.getD x default).f 0).toInt/\((a.getD x default).f 1).kids=((b.getD x default).f 1).kids/\((a.getD x default).f 2).toInt=((b.getD x default).f 2).toInt/\((a.getD x default).f 3).toInt=((b.getD x default).f 3).toInt/\((a.getD x default).f 4).toInt=((b.getD x default).f
 4).toInt))=false->∃x_1:Nat,((x_1<=a.length/\∀j:Nat,j<x_1->a.getD j default=b.getD j default)/\a.length-x_1<a.length-x)/\a=a/\b=b/\i64.wrap ((x:Int)+1)=(x_1:Int)))/\(decide ((x:Int)<(a.length:Int))=false->dec (a=b)=true)):=by
 intro hwa hwb;simp only[iv,kv,fv,nm];have h1:=hwa.1;refine fun _ _=>⟨fun h e=>h (by rw[e]),fun hl=>⟨⟨0,⟨by omega,fun j hj=>by omega⟩,rfl⟩,fun x hx _=>⟨fun hlt=>?_,fun hlt=>eqL_all (by omega) hx.2 (by omega)⟩⟩⟩
 have hwx:=wfl_get hwa (i:=x) (by omega);have hwy:=wfl_get hwb (i:=x) (by omega);exact⟨⟨by omega,by omega⟩,⟨by omega,by omega⟩,fun h e=>h ((nd_same hwx hwy).2 (by rw[e])),fun h=>⟨x+1,⟨⟨by omega,eqL_next hx.2 ((nd_same hwx hwy).1 h)⟩,by omega⟩,up_ok (n:=a.length) (by omega) (by omega)⟩⟩
def eqNodeS_get:List SV->St->Option Got
 | [.sl ty0 a,.sl ty1 b],⟨[],[],[]⟩=>guardTy ty0 TNode (guardTy ty1 TNode (some (True,.bool (dec (a=b)),St.mk [] [] [])))
 | _,_=>none
theorem eqNodeS_ok:Ok0 prog 66 eqNodeS_get:=by
 intro _ _ _ _ _ h hp;unfold eqNodeS_get at h;split at h
 · rename_i a _ b;replace h:=gT2 h;obtain⟨rfl,rfl,h⟩:=h;cases h;refine fl [eqNode_con] (fun k=>bif Nat.beq k 4 then some (.g (⟨Nat,fun s g=>hd s [0,1] [(5,.int .i64 g)] s.rw,fun _ g=>g<=a.length/\∀j,j<g->a.getD j default=b.getD j default,fun g=>a.length-g⟩)) else none) func66 ?_;apply VC.thru (eqNodeS_vc a b);kernel_rfl
 · cases h
def eqNodeS_con:Con prog:=.f0 66 [] true eqNodeS_get (en func66 rfl) eqNodeS_ok
theorem eqBoolS_vc (a b:List Dat) :
 WFl Ty.bool a->WFl Ty.bool b->I64 (a.length:Int)->I64 (b.length:Int)->(decide ((a.length:Int)≠(b.length:Int))->dec (a=b)=false)/\(decide ((a.length:Int)≠(b.length:Int))=false->(∃x:Nat,(x<=a.length/\∀j:Nat,j<x->a.getD j default=b.getD j default)/\a=a/\b=b/\0=(x:Int))/\∀x:Nat,(x<=a.length/\∀j:Nat,j<x->a.getD j default=b.getD j default)->I64 (a.length:Int)->(decide
 ((x:Int)<(a.length:Int))->(0<=(x:Int)/\(x:Int)<(a.length:Int))/\(0<=(x:Int)/\(x:Int)<(b.length:Int))/\(decide ((a.getD x default).toBool≠(b.getD x default).toBool)->dec (a=b)=false)/\(decide ((a.getD x default).toBool≠(b.getD x default).toBool)=false->∃x_1:Nat,((x_1<=a.length/\∀j:Nat,j<x_1->a.getD j default=b.getD j default)/\a.length-x_1<a.length-x)/\a=a/\b=b/\i64.wrap
 ((x:Int)+1)=(x_1:Int)))/\(decide ((x:Int)<(a.length:Int))=false->dec (a=b)=true)):=by
 intro hwa hwb;simp only[iv,kv,fv,nm];have h1:=hwa.1;refine fun _ _=>⟨fun h e=>h (by rw[e]),fun hl=>⟨⟨0,⟨by omega,fun j hj=>by omega⟩,rfl⟩,fun x hx _=>⟨fun hlt=>?_,fun hlt=>eqL_all (by omega) hx.2 (by omega)⟩⟩⟩
 have hwx:=wfl_get hwa (i:=x) (by omega);have hwy:=wfl_get hwb (i:=x) (by omega);exact⟨⟨by omega,by omega⟩,⟨by omega,by omega⟩,fun h e=>h ((bool_same hwx hwy).2 (by rw[e])),fun h=>⟨x+1,⟨⟨by omega,eqL_next hx.2 ((bool_same hwx hwy).1 h)⟩,by omega⟩,up_ok (n:=a.length) (by omega) (by omega)⟩⟩
def eqBoolS_get:List SV->St->Option Got
 | [.sl .bool a,.sl .bool b],⟨[],[],[]⟩=>some (True,.bool (dec (a=b)),St.mk [] [] [])
 | _,_=>none
theorem eqBoolS_ok:Ok0 prog 67 eqBoolS_get:=by
 intro _ _ _ _ _ h hp;unfold eqBoolS_get at h;split at h
 · rename_i a b;cases h;refine fl [] (fun k=>bif Nat.beq k 4 then some (.g (⟨Nat,fun s g=>hd s [0,1] [(5,.int .i64 g)] s.rw,fun _ g=>g<=a.length/\∀j,j<g->a.getD j default=b.getD j default,fun g=>a.length-g⟩)) else none) func67 ?_;apply VC.thru (eqBoolS_vc a b);kernel_rfl
 · cases h
def eqBoolS_con:Con prog:=.f0 67 [] true eqBoolS_get (en func67 rfl) eqBoolS_ok
theorem eqWord_vc (known known2:List Dat) (kind kind2 fr fr2 to to2 beacon beacon2 level level2:Int) :
 I64 kind->I64 fr->I64 to->I64 beacon->I64 level->WFl TEnt known->I64 kind2->I64 fr2->I64 to2->I64 beacon2->I64 level2->WFl TEnt known2->I64 kind->I64 kind2->(decide (kind≠kind2)->dec (kind=kind2/\fr=fr2/\to=to2/\beacon=beacon2/\level=level2/\known=known2)=false)/\(decide (kind≠kind2)=false->I64 fr->I64 fr2->(decide (fr≠fr2)->dec
 (kind=kind2/\fr=fr2/\to=to2/\beacon=beacon2/\level=level2/\known=known2)=false)/\(decide (fr≠fr2)=false->I64 to->I64 to2->(decide (to≠to2)->dec (kind=kind2/\fr=fr2/\to=to2/\beacon=beacon2/\level=level2/\known=known2)=false)/\(decide (to≠to2)=false->I64 beacon->I64 beacon2->(decide (beacon≠beacon2)->dec (kind=kind2/\fr=fr2/\to=to2/\beacon=beacon2/\level=level2/\known=known2)=false)/\(decide
 (beacon≠beacon2)=false->I64 level->I64 level2->(decide (level≠level2)->dec (kind=kind2/\fr=fr2/\to=to2/\beacon=beacon2/\level=level2/\known=known2)=false)/\(decide (level≠level2)=false->True/\((!dec (known=known2))=true->dec (kind=kind2/\fr=fr2/\to=to2/\beacon=beacon2/\level=level2/\known=known2)=false)/\((!dec (known=known2))=false->dec
 (kind=kind2/\fr=fr2/\to=to2/\beacon=beacon2/\level=level2/\known=known2)=true)))))):=by
 intros
 simp only[iv,kv,fv,nm]
 (repeat' (first | assumption | intro _ | refine And.intro ?_ ?_))
 all_goals simp_all
def eqWord_get:List SV->St->Option Got
 | [.agg [.int .i64 kind,.int .i64 fr,.int .i64 to,.int .i64 beacon,.int .i64 level,.sl ty0 known],.agg [.int .i64 kind2,.int .i64 fr2,.int .i64 to2,.int .i64 beacon2,.int .i64 level2,.sl ty1 known2]],⟨[],[],[]⟩=>guardTy ty0 TEnt (guardTy ty1 TEnt (some (True,.bool (dec (kind=kind2/\fr=fr2/\to=to2/\beacon=beacon2/\level=level2/\known=known2)),St.mk [] [] [])))
 | _,_=>none
theorem eqWord_ok:Ok0 prog 136 eqWord_get:=by
 intro _ _ _ _ _ h hp;unfold eqWord_get at h;split at h
 · rename_i kind fr to beacon level _ known kind2 fr2 to2 beacon2 level2 _ known2;replace h:=gT2 h;obtain⟨rfl,rfl,h⟩:=h;cases h;refine fz [eqEntryS_con] func136 ?_;apply VC.thru (eqWord_vc known known2 kind kind2 fr fr2 to to2 beacon beacon2 level level2);kernel_rfl
 · cases h
def eqWord_con:Con prog:=.f0 136 [] true eqWord_get (en func136 rfl) eqWord_ok
theorem eqWordS_vc (a b:List Dat) :
 WFl TWord a->WFl TWord b->I64 (a.length:Int)->I64 (b.length:Int)->(decide ((a.length:Int)≠(b.length:Int))->dec (a=b)=false)/\(decide ((a.length:Int)≠(b.length:Int))=false->(∃x:Nat,(x<=a.length/\∀j:Nat,j<x->a.getD j default=b.getD j default)/\a=a/\b=b/\0=(x:Int))/\∀x:Nat,(x<=a.length/\∀j:Nat,j<x->a.getD j default=b.getD j default)->I64 (a.length:Int)->(decide
 ((x:Int)<(a.length:Int))->(0<=(x:Int)/\(x:Int)<(a.length:Int))/\(0<=(x:Int)/\(x:Int)<(b.length:Int))/\True/\((!dec (((a.getD x default).f 0).toInt=((b.getD x default).f 0).toInt/\((a.getD x default).f 1).toInt=((b.getD x default).f 1).toInt/\((a.getD x default).f 2).toInt=((b.getD x default).f 2).toInt/\((a.getD x default).f 3).toInt=((b.getD x default).f 3).toInt/\((a.getD x default).f
 4).toInt=((b.getD x default).f 4).toInt/\((a.getD x default).f 5).kids=((b.getD x default).f 5).kids))=true->dec (a=b)=false)/\((!dec (((a.getD x default).f 0).toInt=((b.getD x default).f 0).toInt/\((a.getD x default).f 1).toInt=((b.getD x default).f 1).toInt/\((a.getD x default).f 2).toInt=((b.getD x default).f 2).toInt/\((a.getD x default).f 3).toInt=((b.getD x default).f 3).toInt/\((a.getD x
 default).f 4).toInt=((b.getD x default).f 4).toInt/\((a.getD x default).f 5).kids=((b.getD x default).f 5).kids))=false->∃x_1:Nat,((x_1<=a.length/\∀j:Nat,j<x_1->a.getD j default=b.getD j default)/\a.length-x_1<a.length-x)/\a=a/\b=b/\i64.wrap ((x:Int)+1)=(x_1:Int)))/\(decide ((x:Int)<(a.length:Int))=false->dec (a=b)=true)):=by
 intro hwa hwb;simp only[iv,kv,fv,nm];have h1:=hwa.1;refine fun _ _=>⟨fun h e=>h (by rw[e]),fun hl=>⟨⟨0,⟨by omega,fun j hj=>by omega⟩,rfl⟩,fun x hx _=>⟨fun hlt=>?_,fun hlt=>eqL_all (by omega) hx.2 (by omega)⟩⟩⟩
 have hwx:=wfl_get hwa (i:=x) (by omega);have hwy:=wfl_get hwb (i:=x) (by omega);exact⟨⟨by omega,by omega⟩,⟨by omega,by omega⟩,fun h e=>h ((wd_same hwx hwy).2 (by rw[e])),fun h=>⟨x+1,⟨⟨by omega,eqL_next hx.2 ((wd_same hwx hwy).1 h)⟩,by omega⟩,up_ok (n:=a.length) (by omega) (by omega)⟩⟩
def eqWordS_get:List SV->St->Option Got
 | [.sl ty0 a,.sl ty1 b],⟨[],[],[]⟩=>guardTy ty0 TWord (guardTy ty1 TWord (some (True,.bool (dec (a=b)),St.mk [] [] [])))
 | _,_=>none
theorem eqWordS_ok:Ok0 prog 68 eqWordS_get:=by
 intro _ _ _ _ _ h hp;unfold eqWordS_get at h;split at h
 · rename_i a _ b;replace h:=gT2 h;obtain⟨rfl,rfl,h⟩:=h;cases h;refine fl [eqWord_con] (fun k=>bif Nat.beq k 4 then some (.g (⟨Nat,fun s g=>hd s [0,1] [(5,.int .i64 g)] s.rw,fun _ g=>g<=a.length/\∀j,j<g->a.getD j default=b.getD j default,fun g=>a.length-g⟩)) else none) func68 ?_;apply VC.thru (eqWordS_vc a b);kernel_rfl
 · cases h
def eqWordS_con:Con prog:=.f0 68 [] true eqWordS_get (en func68 rfl) eqWordS_ok
theorem eqIntSSS_vc (a b:List Dat) :
 WFl (Ty.int i64).sl.sl a->WFl (Ty.int i64).sl.sl b->I64 (a.length:Int)->I64 (b.length:Int)->(decide ((a.length:Int)≠(b.length:Int))->dec (a=b)=false)/\(decide ((a.length:Int)≠(b.length:Int))=false->(∃x:Nat,(x<=a.length/\∀j:Nat,j<x->a.getD j default=b.getD j default)/\a=a/\b=b/\0=(x:Int))/\∀x:Nat,(x<=a.length/\∀j:Nat,j<x->a.getD j default=b.getD j default)->I64 (a.length:Int)->(decide
 ((x:Int)<(a.length:Int))->(0<=(x:Int)/\(x:Int)<(a.length:Int))/\(0<=(x:Int)/\(x:Int)<(b.length:Int))/\True/\((!dec ((a.getD x default).kids=(b.getD x default).kids))=true->dec (a=b)=false)/\((!dec ((a.getD x default).kids=(b.getD x default).kids))=false->∃x_1:Nat,((x_1<=a.length/\∀j:Nat,j<x_1->a.getD j default=b.getD j default)/\a.length-x_1<a.length-x)/\a=a/\b=b/\i64.wrap
 ((x:Int)+1)=(x_1:Int)))/\(decide ((x:Int)<(a.length:Int))=false->dec (a=b)=true)):=by
 intro hwa hwb;simp only[iv,kv,fv,nm];have h1:=hwa.1;refine fun _ _=>⟨fun h e=>h (by rw[e]),fun hl=>⟨⟨0,⟨by omega,fun j hj=>by omega⟩,rfl⟩,fun x hx _=>⟨fun hlt=>?_,fun hlt=>eqL_all (by omega) hx.2 (by omega)⟩⟩⟩
 have hwx:=wfl_get hwa (i:=x) (by omega);have hwy:=wfl_get hwb (i:=x) (by omega);exact⟨⟨by omega,by omega⟩,⟨by omega,by omega⟩,fun h e=>h ((sl_same hwx hwy).2 (by rw[e])),fun h=>⟨x+1,⟨⟨by omega,eqL_next hx.2 ((sl_same hwx hwy).1 h)⟩,by omega⟩,up_ok (n:=a.length) (by omega) (by omega)⟩⟩
def eqIntSSS_get:List SV->St->Option Got
 | [.sl (.sl (.sl (.int .i64))) a,.sl (.sl (.sl (.int .i64))) b],⟨[],[],[]⟩=>some (True,.bool (dec (a=b)),St.mk [] [] [])
 | _,_=>none
theorem eqIntSSS_ok:Ok0 prog 69 eqIntSSS_get:=by
 intro _ _ _ _ _ h hp;unfold eqIntSSS_get at h;split at h
 · rename_i a b;cases h;refine fl [eqIntSS_con] (fun k=>bif Nat.beq k 4 then some (.g (⟨Nat,fun s g=>hd s [0,1] [(5,.int .i64 g)] s.rw,fun _ g=>g<=a.length/\∀j,j<g->a.getD j default=b.getD j default,fun g=>a.length-g⟩)) else none) func69 ?_;apply VC.thru (eqIntSSS_vc a b);kernel_rfl
 · cases h
def eqIntSSS_con:Con prog:=.f0 69 [] true eqIntSSS_get (en func69 rfl) eqIntSSS_ok
theorem eqNet_vc (nodes nodes2 links links2 words words2 past past2:List Dat) :
 WFl TNode nodes->WFl Ty.bool links->WFl TWord words->WFl (Ty.int i64).sl.sl past->WFl TNode nodes2->WFl Ty.bool links2->WFl TWord words2->WFl (Ty.int i64).sl.sl past2->True/\((!dec (nodes=nodes2))=true->dec (nodes=nodes2/\links=links2/\words=words2/\past=past2)=false)/\((!dec (nodes=nodes2))=false->True/\((!dec (links=links2))=true->dec
 (nodes=nodes2/\links=links2/\words=words2/\past=past2)=false)/\((!dec (links=links2))=false->True/\((!dec (words=words2))=true->dec (nodes=nodes2/\links=links2/\words=words2/\past=past2)=false)/\((!dec (words=words2))=false->True/\((!dec (past=past2))=true->dec (nodes=nodes2/\links=links2/\words=words2/\past=past2)=false)/\((!dec (past=past2))=false->dec
 (nodes=nodes2/\links=links2/\words=words2/\past=past2)=true)))):=by
 intros
 simp only[iv,kv,fv,nm]
 (repeat' (first | assumption | intro _ | refine And.intro ?_ ?_))
 all_goals simp_all
def eqNet_get:List SV->St->Option Got
 | [.agg [.sl ty0 nodes,.sl .bool links,.sl ty1 words,.sl (.sl (.sl (.int .i64))) past],.agg [.sl ty2 nodes2,.sl .bool links2,.sl ty3 words2,.sl (.sl (.sl (.int .i64))) past2]],⟨[],[],[]⟩=>guardTy ty0 TNode (guardTy ty1 TWord (guardTy ty2 TNode (guardTy ty3 TWord (some (True,.bool (dec (nodes=nodes2/\links=links2/\words=words2/\past=past2)),St.mk [] [] [])))))
 | _,_=>none
theorem eqNet_ok:Ok0 prog 23 eqNet_get:=by
 intro _ _ _ _ _ h hp;unfold eqNet_get at h;split at h
 · rename_i nodes links _ words past _ nodes2 links2 _ words2 past2;replace h:=gT4 h;obtain⟨rfl,rfl,rfl,rfl,h⟩:=h;cases h;refine fz [eqNodeS_con,eqBoolS_con,eqWordS_con,eqIntSSS_con] func23 ?_;apply VC.thru (eqNet_vc nodes nodes2 links links2 words words2 past past2);kernel_rfl
 · cases h
def eqNet_con:Con prog:=.f0 23 [] true eqNet_get (en func23 rfl) eqNet_ok
abbrev p3 (l:List Dat) (i j:Nat):List Dat:=((((l.getD i default).f 3).f j).f 0).kids
def mPr:MK:=.st [.int,.int]
def mEnt:MK:=.st [.int,.int,.int,.st [.st [.sl (.sl .int)],.st [.sl .int],.st [.sl mPr,.int,.int],.st [.sl mPr,.int]]]
def mNd:MK:=.st [.int,.sl mEnt,.int,.int,.int]
def mWd:MK:=.st [.int,.int,.int,.int,.int,.sl mEnt]
abbrev hA (l:List Dat) (k0:Int) (x:Nat):Int:=IntKind.i64.wrap (IntKind.i64.wrap (IntKind.i64.wrap (uptoD (markD mEnt) l k0 x+1)+1)+1)
abbrev nB (l:List Dat) (k0:Int) (x:Nat) (a:List Dat):Int:=(walkD (markD (.sl .int)) (p3 a x 0) (hA l k0 x)).2
abbrev nC (l:List Dat) (k0:Int) (x:Nat) (a b:List Dat):Int:=(walkD (markD .int) (p3 b x 1) (nB l k0 x a)).2
abbrev nD (l:List Dat) (k0:Int) (x:Nat) (a b c:List Dat):Int:=(walkD (markD mPr) (p3 c x 2) (nC l k0 x a b)).2
def Mb (m:MK) (e:Ty):Prop:=∀d k,k<=(markD m d k).2/\(markD m d k).2<=k+6*((1+tot e d:Nat):Int)
theorem mb_int:Mb .int (.int .i64):=fun d k=>by rw[tot_int];simp only[markD];omega
theorem mb_bool:Mb .bool .bool:=fun d k=>by rw[tot_bool];simp only[markD];omega
theorem mb_sum {m:MK} {e:Ty} (h:Mb m e) (l:List Dat) (k:Int):k<=(walkD (markD m) l k).2/\(walkD (markD m) l k).2<=k+6*((l.length+(l.map (tot e)).sum:Nat):Int):=by
 have h2:=walkD_bound (f:=markD m) (t:=fun d=>1+tot e d) 6 l k (fun d _ k=>h d k);have h3:∀l:List Dat,(l.map fun d=>1+tot e d).sum=l.length+(l.map (tot e)).sum:=by
   intro l
   induction l with
   | nil=>rfl
   | cons a l ih=>simp only[List.map_cons,List.sum_cons,List.length_cons,ih];omega
 rwa [h3] at h2
theorem mb_list {m:MK} {e:Ty} (h:Mb m e) {l:List Dat} {k:Int}:k<=(walkD (markD m) l k).2/\(walkD (markD m) l k).2<=k+6*((totL e l:Nat):Int):=mb_sum h l k
theorem mb_upto {m:MK} {e:Ty} (h:Mb m e) {l:List Dat} {k:Int} {i:Nat} (hi:i<=l.length):k<=uptoD (markD m) l k i/\uptoD (markD m) l k i<=k+6*((i+totP e l i:Nat):Int):=by
 have h2:=mb_sum h (l.take i) k;rw[List.length_take,Nat.min_eq_left hi] at h2;exact h2
theorem mb_sl {m:MK} {e:Ty} (h:Mb m e):Mb (.sl m) (.sl e):=fun d k=>by
 have h2:=mb_list h (l:=d.kids) (k:=k);rw[tot_is];simp only[markD];omega
theorem mb_pr:Mb mPr TPr:=fun d k=>by
 rw[show tot TPr d=0 by simp [tot,tots]];simp only[mPr,markD,markF];omega
theorem mb_ent:Mb mEnt TEnt:=fun d k=>by
 rw[tot_ent,show (markD mEnt d k).2=(walkD (markD mPr) (((d.f 3).f 3).f 0).kids ((walkD (markD mPr) (((d.f 3).f 2).f 0).kids ((walkD (markD .int) (((d.f 3).f 1).f 0).kids ((walkD (markD (.sl .int)) (((d.f 3).f 0).f 0).kids (k+1+1+1)).2)).2)).2+1+1)).2+1 from rfl]
 have:=mb_list (mb_sl mb_int) (l:=(((d.f 3).f 0).f 0).kids) (k:=k+1+1+1)
 have:=mb_list (mb_int) (l:=(((d.f 3).f 1).f 0).kids) (k:=(walkD (markD (.sl .int)) (((d.f 3).f 0).f 0).kids (k+1+1+1)).2)
 have:=mb_list (mb_pr) (l:=(((d.f 3).f 2).f 0).kids) (k:=(walkD (markD .int) (((d.f 3).f 1).f 0).kids ((walkD (markD (.sl .int)) (((d.f 3).f 0).f 0).kids (k+1+1+1)).2)).2)
 have:=mb_list (mb_pr) (l:=(((d.f 3).f 3).f 0).kids) (k:=(walkD (markD mPr) (((d.f 3).f 2).f 0).kids ((walkD (markD .int) (((d.f 3).f 1).f 0).kids ((walkD (markD (.sl .int)) (((d.f 3).f 0).f 0).kids (k+1+1+1)).2)).2)).2+1+1)
 omega
theorem mb_nd:Mb mNd TNode:=fun d k=>by
 rw[tot_nd,show (markD mNd d k).2=(walkD (markD mEnt) (d.f 1).kids (k+1)).2+1+1+1 from rfl]
 have:=mb_list (mb_ent) (l:=(d.f 1).kids) (k:=k+1)
 omega
theorem mb_wd:Mb mWd TWord:=fun d k=>by
 rw[tot_wd,show (markD mWd d k).2=(walkD (markD mEnt) (d.f 5).kids (k+1+1+1+1+1)).2 from rfl]
 have:=mb_list (mb_ent) (l:=(d.f 5).kids) (k:=k+1+1+1+1+1)
 omega
theorem mk_self {H:List Dat} {x:Nat} {d:Dat} (hx:x<H.length) (h:H.getD x default=d):H=H.set x d:=by
 rw[<- h,List.getD_eq_getElem?_getD,List.getElem?_eq_getElem hx];exact (List.set_getElem_self hx).symm
theorem mk_two {H D D2:List Dat} {x:Nat} {a b:Dat} (h:D=H.set x a) (h2:D2=D.set x b):D2=H.set x b:=by
 rw[h2,h,List.set_set]
theorem mk_all {H D D2:List Dat} {x:Nat} {a b:Dat} (hx:x<H.length) (h:D=H.set x a) (h2:D2=D.set x b):D2=H.set x b/\D2.length=H.length/\D2.getD x default=b:=by
 have h3:=mk_two h h2;refine⟨h3,by rw[h3,List.length_set],?_⟩;rw[h3,List.getD_eq_getElem?_getD,List.getElem?_set_self hx];rfl
theorem pr_lit {d:Dat} (h:WF TPr d):∃a b,d=.node [.int a,.int b]:=⟨_,_,(wf_pr h).1⟩
theorem ent_lit {d:Dat} (h:WF TEnt d):∃a b c r t p lo al q ra,d=.node [.int a,.int b,.int c,.node [.node [.node r],.node [.node t],.node [.node p,.int lo,.int al],.node [.node q,.int ra]]]:=⟨_,_,_,_,_,_,_,_,_,_,(ent_eta h).symm⟩
theorem ent_tot (a:Int) (b:Int) (c:Int) (r:List Dat) (t:List Dat) (p:List Dat) (lo:Int) (al:Int) (q:List Dat) (ra:Int):tot TEnt (.node [.int a,.int b,.int c,.node [.node [.node r],.node [.node t],.node [.node p,.int lo,.int al],.node [.node q,.int ra]]])=totL (.sl (.int .i64)) r+totL (.int .i64) t+totL TPr p+totL TPr q:=by rw[tot_ent];rfl
theorem nd_lit {d:Dat} (h:WF TNode d):∃a r b c e,d=.node [.int a,.node r,.int b,.int c,.int e]:=⟨_,_,_,_,_,(nd_eta h).symm⟩
theorem nd_tot (a:Int) (r:List Dat) (b:Int) (c:Int) (e:Int):tot TNode (.node [.int a,.node r,.int b,.int c,.int e])=totL TEnt r:=by rw[tot_nd];rfl
theorem wd_lit {d:Dat} (h:WF TWord d):∃a b c e y r,d=.node [.int a,.int b,.int c,.int e,.int y,.node r]:=⟨_,_,_,_,_,_,(wd_eta h).symm⟩
theorem wd_tot (a:Int) (b:Int) (c:Int) (e:Int) (y:Int) (r:List Dat):tot TWord (.node [.int a,.int b,.int c,.int e,.int y,.node r])=totL TEnt r:=by rw[tot_wd];rfl
theorem markIntS_vc (l:List Dat) (k0:Int) (hp:0<=k0/\k0+6*((totL (.int .i64) l:Nat):Int)<=1099511627776) :
 I64 k0->WFl (OT.im (Ty.int i64)).ty l->(∃x:Nat,x<=l.length/\k0=uptoD (markD MK.int) l k0 x/\0=(x:Int)/\l=halfD (markD MK.int) l k0 x)/\∀x:Nat,x<=l.length->I64 (↑(halfD (markD MK.int) l k0 x).length:Int)->(decide ((x:Int)<(↑(halfD (markD MK.int) l k0 x).length:Int))->(0<=(x:Int)/\(x:Int)<(↑(halfD (markD MK.int) l k0 x).length:Int))/\x<(halfD (markD MK.int) l k0
 x).length/\∃x_1:Nat,(x_1<=l.length/\l.length-x_1<l.length-x)/\i64.wrap (uptoD (markD MK.int) l k0 x+1)=uptoD (markD MK.int) l k0 x_1/\i64.wrap ((x:Int)+1)=(x_1:Int)/\(halfD (markD MK.int) l k0 x).set x (Dat.int (uptoD (markD MK.int) l k0 x))=halfD (markD MK.int) l k0 x_1)/\(decide ((x:Int)<(↑(halfD (markD MK.int) l k0 x).length:Int))=false->uptoD (markD MK.int) l k0 x=(walkD (markD MK.int) l
 k0).snd/\halfD (markD MK.int) l k0 x=(walkD (markD MK.int) l k0).fst):=by
 intro _ hw0;have hw:WFl (.int .i64) l:=hw0;simp only[iv,kv,fv,nm];have hl1:=hw.1;have hl2:=totL_length (.int .i64) l;refine⟨⟨0,by omega,rfl,rfl,rfl⟩,fun x hx _=>⟨fun hlt=>?_,fun hlt=>?_⟩⟩
 rotate_left
 · rw[halfD_length] at hlt;exact⟨uptoD_all _ _ (by omega),halfD_all _ _ (by omega)⟩
 have hL:(halfD (markD .int) l k0 x).length=l.length:=halfD_length _ _ _;rw[hL] at hlt;have hxl:x<l.length:=by omega
 have a0:=halfD_at (markD .int) k0 hxl;have hwx:=wfl_get hw hxl;have hB:=mb_upto mb_int (l:=l) (k:=k0) hx;have hT:=totP_next (e:=(.int .i64)) hxl;have hT2:=totP_le (e:=(.int .i64)) l (x+1);have hN1:=halfD_next (markD .int) k0 hxl;have hN2:=uptoD_next (markD .int) k0 hxl;generalize l.getD x default=d at a0 hwx hT hN1 hN2;generalize halfD (markD .int) l k0 x=H at hL a0 hN1 ⊢;generalize uptoD (markD .int) l k0 x=u at hB hN1 hN2 ⊢;rw[tot_int] at hT;rw[wrap_ok (n:=u+1) (by omega) (by omega)];exact⟨⟨by omega,by omega⟩,by omega,x+1,⟨by omega,by omega⟩,hN2.symm,up_ok (n:=l.length) hxl (by omega),hN1.symm⟩
def markIntS_get:List SV->St->Option Got
 | [.own 0,.int .i64 k0],⟨[],[],[⟨3,(.im (.int .i64)),l,0,true⟩]⟩=>some (0<=k0/\k0+6*((totL (.int .i64) l:Nat):Int)<=1099511627776,.int .i64 (walkD (markD .int) l k0).2,St.mk [] [] [⟨3,(.im (.int .i64)),(walkD (markD .int) l k0).1,0,true⟩])
 | _,_=>none
theorem markIntS_ok:Ok0 prog 27 markIntS_get:=by
 intro _ _ _ _ _ h hp;unfold markIntS_get at h;split at h
 · rename_i k0 l;cases h;refine fl [] (fun k=>bif Nat.beq k 2 then some (.g (⟨Nat,fun s g=>hd s [0] [(1,.int .i64 (uptoD (markD .int) l k0 g)),(5,.int .i64 g)] [⟨3,(.im (.int .i64)),halfD (markD .int) l k0 g,0,true⟩],fun _ g=>g<=l.length,fun g=>l.length-g⟩)) else none) func27 ?_;apply VC.thru (markIntS_vc l k0 hp);kernel_rfl
 · cases h
def markIntS_con:Con prog:=.f0 27 [.lend,.d] true markIntS_get (en func27 rfl) markIntS_ok
theorem markIntSS_vc (l:List Dat) (k0:Int) (hp:0<=k0/\k0+6*((totL (.sl (.int .i64)) l:Nat):Int)<=1099511627776) :
 I64 k0->WFl (OT.sl 3 (OT.im (Ty.int i64))).ty l->(∃x:Nat,x<=l.length/\k0=uptoD (markD MK.int.sl) l k0 x/\0=(x:Int)/\l=halfD (markD MK.int.sl) l k0 x)/\∀x:Nat,x<=l.length->I64 (↑(halfD (markD MK.int.sl) l k0 x).length:Int)->(decide ((x:Int)<(↑(halfD (markD MK.int.sl) l k0 x).length:Int))->(0<=(x:Int)/\(x:Int)<(↑(halfD (markD MK.int.sl) l k0 x).length:Int))/\x<(halfD (markD MK.int.sl) l k0
 x).length/\((0<=uptoD (markD MK.int.sl) l k0 x/\uptoD (markD MK.int.sl) l k0 x+6*(↑(totL (Ty.int i64) ((halfD (markD MK.int.sl) l k0 x).getD x default).kids):Int)<=1099511627776)/\x<(halfD (markD MK.int.sl) l k0 x).length/\True)/\∀x_1:List Dat,x_1=(halfD (markD MK.int.sl) l k0 x).set x (Dat.node (walkD (markD MK.int) ((halfD (markD MK.int.sl) l k0 x).getD x default).kids (uptoD (markD MK.int.sl) l
 k0 x)).fst)->∃x_2:Nat,(x_2<=l.length/\l.length-x_2<l.length-x)/\(walkD (markD MK.int) ((halfD (markD MK.int.sl) l k0 x).getD x default).kids (uptoD (markD MK.int.sl) l k0 x)).snd=uptoD (markD MK.int.sl) l k0 x_2/\i64.wrap ((x:Int)+1)=(x_2:Int)/\x_1=halfD (markD MK.int.sl) l k0 x_2)/\(decide ((x:Int)<(↑(halfD (markD MK.int.sl) l k0 x).length:Int))=false->uptoD (markD MK.int.sl) l k0 x=(walkD (markD
 MK.int.sl) l k0).snd/\halfD (markD MK.int.sl) l k0 x=(walkD (markD MK.int.sl) l k0).fst):=by
 intro _ hw0;have hw:WFl (.sl (.int .i64)) l:=hw0;simp only[iv,kv,fv,nm];have hl1:=hw.1;have hl2:=totL_length (.sl (.int .i64)) l;refine⟨⟨0,by omega,rfl,rfl,rfl⟩,fun x hx _=>⟨fun hlt=>?_,fun hlt=>?_⟩⟩
 rotate_left
 · rw[halfD_length] at hlt;exact⟨uptoD_all _ _ (by omega),halfD_all _ _ (by omega)⟩
 have hL:(halfD (markD (.sl .int)) l k0 x).length=l.length:=halfD_length _ _ _;rw[hL] at hlt;have hxl:x<l.length:=by omega
 have a0:=halfD_at (markD (.sl .int)) k0 hxl;have hwx:=wfl_get hw hxl;have hB:=mb_upto (mb_sl mb_int) (l:=l) (k:=k0) hx;have hT:=totP_next (e:=(.sl (.int .i64))) hxl;have hT2:=totP_le (e:=(.sl (.int .i64))) l (x+1);have hN1:=halfD_next (markD (.sl .int)) k0 hxl;have hN2:=uptoD_next (markD (.sl .int)) k0 hxl;generalize l.getD x default=d at a0 hwx hT hN1 hN2;rw[show tot (.sl (.int .i64)) d=_ by rw[tot_is]] at hT;generalize halfD (markD (.sl .int)) l k0 x=H at hL a0 hN1 ⊢;generalize uptoD (markD (.sl .int)) l k0 x=u at hB hN1 hN2 ⊢;have E0:=mk_self (by omega) a0;simp only[a0];have b0:=mb_list (mb_int) (l:=d.kids) (k:=u)
 refine⟨⟨by omega,by omega⟩,by omega,⟨⟨by omega,by omega⟩,by omega⟩,fun D1 e1=>?_⟩;obtain⟨E1,l1,a1⟩:=mk_all (b:=.node (walkD (markD .int) d.kids (u)).1) (by omega) E0 e1;refine⟨x+1,⟨by omega,by omega⟩,?_,up_ok (n:=l.length) hxl (by omega),?_⟩
 · rw[hN2];rfl
 · rw[hN1];exact E1
def markIntSS_get:List SV->St->Option Got
 | [.own 0,.int .i64 k0],⟨[],[],[⟨34,(.sl 3 (.im (.int .i64))),l,0,true⟩]⟩=>some (0<=k0/\k0+6*((totL (.sl (.int .i64)) l:Nat):Int)<=1099511627776,.int .i64 (walkD (markD (.sl .int)) l k0).2,St.mk [] [] [⟨34,(.sl 3 (.im (.int .i64))),(walkD (markD (.sl .int)) l k0).1,0,true⟩])
 | _,_=>none
theorem markIntSS_ok:Ok0 prog 75 markIntSS_get:=by
 intro _ _ _ _ _ h hp;unfold markIntSS_get at h;split at h
 · rename_i k0 l;cases h;refine fl [markIntS_con] (fun k=>bif Nat.beq k 2 then some (.g (⟨Nat,fun s g=>hd s [0] [(1,.int .i64 (uptoD (markD (.sl .int)) l k0 g)),(5,.int .i64 g)] [⟨34,(.sl 3 (.im (.int .i64))),halfD (markD (.sl .int)) l k0 g,0,true⟩],fun _ g=>g<=l.length,fun g=>l.length-g⟩)) else none) func75 ?_;apply VC.thru (markIntSS_vc l k0 hp);kernel_rfl
 · cases h
def markIntSS_con:Con prog:=.f0 75 [.lend,.d] true markIntSS_get (en func75 rfl) markIntSS_ok
def markRough_get:List SV->St->Option Got
 | [.agg [.own 0],.int .i64 k0],⟨[],[],[⟨34,(.sl 3 (.im (.int .i64))),rows,0,true⟩]⟩=>some (0<=k0/\k0+6*((totL (.sl (.int .i64)) rows:Nat):Int)<=1099511627776,.int .i64 (walkD (markD (.sl .int)) rows k0).2,St.mk [] [] [⟨34,(.sl 3 (.im (.int .i64))),(walkD (markD (.sl .int)) rows k0).1,0,true⟩])
 | _,_=>none
theorem markPairS_vc (l:List Dat) (k0:Int) (hp:0<=k0/\k0+6*((totL TPr l:Nat):Int)<=1099511627776) :
 I64 k0->WFl (OT.im TPr).ty l->(∃x:Nat,x<=l.length/\k0=uptoD (markD mPr) l k0 x/\0=(x:Int)/\l=halfD (markD mPr) l k0 x)/\∀x:Nat,x<=l.length->I64 (↑(halfD (markD mPr) l k0 x).length:Int)->(decide ((x:Int)<(↑(halfD (markD mPr) l k0 x).length:Int))->(0<=(x:Int)/\(x:Int)<(↑(halfD (markD mPr) l k0 x).length:Int))/\x<(halfD (markD mPr) l k0 x).length/\∀x_1:List Dat,x_1=(halfD (markD mPr) l k0 x).set x
 (((halfD (markD mPr) l k0 x).getD x default).set 0 (Dat.int (uptoD (markD mPr) l k0 x)))->(0<=(x:Int)/\(x:Int)<(x_1.length:Int))/\x<x_1.length/\∀x_2:List Dat,x_2=x_1.set x ((x_1.getD x default).set 1 (Dat.int (i64.wrap (uptoD (markD mPr) l k0 x+1))))->∃x_3:Nat,(x_3<=l.length/\l.length-x_3<l.length-x)/\i64.wrap (i64.wrap (uptoD (markD mPr) l k0 x+1)+1)=uptoD (markD mPr) l k0 x_3/\i64.wrap
 ((x:Int)+1)=(x_3:Int)/\x_2=halfD (markD mPr) l k0 x_3)/\(decide ((x:Int)<(↑(halfD (markD mPr) l k0 x).length:Int))=false->uptoD (markD mPr) l k0 x=(walkD (markD mPr) l k0).snd/\halfD (markD mPr) l k0 x=(walkD (markD mPr) l k0).fst):=by
 intro _ hw0;have hw:WFl TPr l:=hw0;simp only[iv,kv,fv,nm];have hl1:=hw.1;have hl2:=totL_length TPr l;refine⟨⟨0,by omega,rfl,rfl,rfl⟩,fun x hx _=>⟨fun hlt=>?_,fun hlt=>?_⟩⟩
 rotate_left
 · rw[halfD_length] at hlt;exact⟨uptoD_all _ _ (by omega),halfD_all _ _ (by omega)⟩
 have hL:(halfD (markD mPr) l k0 x).length=l.length:=halfD_length _ _ _;rw[hL] at hlt;have hxl:x<l.length:=by omega
 have a0:=halfD_at (markD mPr) k0 hxl;have hwx:=wfl_get hw hxl;have hB:=mb_upto mb_pr (l:=l) (k:=k0) hx;have hT:=totP_next (e:=TPr) hxl;have hT2:=totP_le (e:=TPr) l (x+1);have hN1:=halfD_next (markD mPr) k0 hxl;have hN2:=uptoD_next (markD mPr) k0 hxl;generalize l.getD x default=d at a0 hwx hT hN1 hN2;generalize halfD (markD mPr) l k0 x=H at hL a0 hN1 ⊢;generalize uptoD (markD mPr) l k0 x=u at hB hN1 hN2 ⊢;obtain⟨a,b,rfl⟩:=pr_lit hwx;rw[show tot TPr _=0 by simp [tot,tots]] at hT;have E0:=mk_self (by omega) a0;have w0:i64.wrap (u+1)=u+1:=wrap_ok (by omega) (by omega);simp only[w0];refine⟨⟨by omega,by omega⟩,by omega,fun D1 e1=>?_⟩
 rw[a0] at e1;obtain⟨E1,l1,a1⟩:=mk_all (b:=.node [.int u,.int b]) (by omega) E0 e1;have w1:i64.wrap (u+1+1)=u+1+1:=wrap_ok (by omega) (by omega);simp only[w1];refine⟨⟨by omega,by omega⟩,by omega,fun D2 e2=>?_⟩;rw[a1] at e2;obtain⟨E2,l2,a2⟩:=mk_all (b:=.node [.int u,.int (u+1)]) (by omega) E1 e2;refine⟨x+1,⟨by omega,by omega⟩,?_,up_ok (n:=l.length) hxl (by omega),?_⟩
 · rw[hN2];rfl
 · rw[hN1];exact E2
def markPairS_get:List SV->St->Option Got
 | [.own 0,.int .i64 k0],⟨[],[],[⟨163,(.im ty0),l,0,true⟩]⟩=>guardTy ty0 TPr (some (0<=k0/\k0+6*((totL TPr l:Nat):Int)<=1099511627776,.int .i64 (walkD (markD mPr) l k0).2,St.mk [] [] [⟨163,(.im TPr),(walkD (markD mPr) l k0).1,0,true⟩]))
 | _,_=>none
theorem markPairS_ok:Ok0 prog 76 markPairS_get:=by
 intro _ _ _ _ _ h hp;unfold markPairS_get at h;split at h
 · rename_i k0 _ l;replace h:=gT h;obtain⟨rfl,h⟩:=h;cases h;refine fl [] (fun k=>bif Nat.beq k 2 then some (.g (⟨Nat,fun s g=>hd s [0] [(1,.int .i64 (uptoD (markD mPr) l k0 g)),(5,.int .i64 g)] [⟨163,(.im TPr),halfD (markD mPr) l k0 g,0,true⟩],fun _ g=>g<=l.length,fun g=>l.length-g⟩)) else none) func76 ?_;apply VC.thru (markPairS_vc l k0 hp);kernel_rfl
 · cases h
def markPairS_con:Con prog:=.f0 76 [.lend,.d] true markPairS_get (en func76 rfl) markPairS_ok
theorem markKnotS_vc (l:List Dat) (k0:Int) (hp:0<=k0/\k0+6*((totL TPr l:Nat):Int)<=1099511627776) :
 I64 k0->WFl (OT.im TPr).ty l->(∃x:Nat,x<=l.length/\k0=uptoD (markD mPr) l k0 x/\0=(x:Int)/\l=halfD (markD mPr) l k0 x)/\∀x:Nat,x<=l.length->I64 (↑(halfD (markD mPr) l k0 x).length:Int)->(decide ((x:Int)<(↑(halfD (markD mPr) l k0 x).length:Int))->(0<=(x:Int)/\(x:Int)<(↑(halfD (markD mPr) l k0 x).length:Int))/\x<(halfD (markD mPr) l k0 x).length/\∀x_1:List Dat,x_1=(halfD (markD mPr) l k0 x).set x
 (((halfD (markD mPr) l k0 x).getD x default).set 0 (Dat.int (uptoD (markD mPr) l k0 x)))->(0<=(x:Int)/\(x:Int)<(x_1.length:Int))/\x<x_1.length/\∀x_2:List Dat,x_2=x_1.set x ((x_1.getD x default).set 1 (Dat.int (i64.wrap (uptoD (markD mPr) l k0 x+1))))->∃x_3:Nat,(x_3<=l.length/\l.length-x_3<l.length-x)/\i64.wrap (i64.wrap (uptoD (markD mPr) l k0 x+1)+1)=uptoD (markD mPr) l k0 x_3/\i64.wrap
 ((x:Int)+1)=(x_3:Int)/\x_2=halfD (markD mPr) l k0 x_3)/\(decide ((x:Int)<(↑(halfD (markD mPr) l k0 x).length:Int))=false->uptoD (markD mPr) l k0 x=(walkD (markD mPr) l k0).snd/\halfD (markD mPr) l k0 x=(walkD (markD mPr) l k0).fst):=by
 intro _ hw0;have hw:WFl TPr l:=hw0;simp only[iv,kv,fv,nm];have hl1:=hw.1;have hl2:=totL_length TPr l;refine⟨⟨0,by omega,rfl,rfl,rfl⟩,fun x hx _=>⟨fun hlt=>?_,fun hlt=>?_⟩⟩
 rotate_left
 · rw[halfD_length] at hlt;exact⟨uptoD_all _ _ (by omega),halfD_all _ _ (by omega)⟩
 have hL:(halfD (markD mPr) l k0 x).length=l.length:=halfD_length _ _ _;rw[hL] at hlt;have hxl:x<l.length:=by omega
 have a0:=halfD_at (markD mPr) k0 hxl;have hwx:=wfl_get hw hxl;have hB:=mb_upto mb_pr (l:=l) (k:=k0) hx;have hT:=totP_next (e:=TPr) hxl;have hT2:=totP_le (e:=TPr) l (x+1);have hN1:=halfD_next (markD mPr) k0 hxl;have hN2:=uptoD_next (markD mPr) k0 hxl;generalize l.getD x default=d at a0 hwx hT hN1 hN2;generalize halfD (markD mPr) l k0 x=H at hL a0 hN1 ⊢;generalize uptoD (markD mPr) l k0 x=u at hB hN1 hN2 ⊢;obtain⟨a,b,rfl⟩:=pr_lit hwx;rw[show tot TPr _=0 by simp [tot,tots]] at hT;have E0:=mk_self (by omega) a0;have w0:i64.wrap (u+1)=u+1:=wrap_ok (by omega) (by omega);simp only[w0];refine⟨⟨by omega,by omega⟩,by omega,fun D1 e1=>?_⟩
 rw[a0] at e1;obtain⟨E1,l1,a1⟩:=mk_all (b:=.node [.int u,.int b]) (by omega) E0 e1;have w1:i64.wrap (u+1+1)=u+1+1:=wrap_ok (by omega) (by omega);simp only[w1];refine⟨⟨by omega,by omega⟩,by omega,fun D2 e2=>?_⟩;rw[a1] at e2;obtain⟨E2,l2,a2⟩:=mk_all (b:=.node [.int u,.int (u+1)]) (by omega) E1 e2;refine⟨x+1,⟨by omega,by omega⟩,?_,up_ok (n:=l.length) hxl (by omega),?_⟩
 · rw[hN2];rfl
 · rw[hN1];exact E2
def markKnotS_get:List SV->St->Option Got
 | [.own 0,.int .i64 k0],⟨[],[],[⟨165,(.im ty0),l,0,true⟩]⟩=>guardTy ty0 TPr (some (0<=k0/\k0+6*((totL TPr l:Nat):Int)<=1099511627776,.int .i64 (walkD (markD mPr) l k0).2,St.mk [] [] [⟨165,(.im TPr),(walkD (markD mPr) l k0).1,0,true⟩]))
 | _,_=>none
theorem markKnotS_ok:Ok0 prog 77 markKnotS_get:=by
 intro _ _ _ _ _ h hp;unfold markKnotS_get at h;split at h
 · rename_i k0 _ l;replace h:=gT h;obtain⟨rfl,h⟩:=h;cases h;refine fl [] (fun k=>bif Nat.beq k 2 then some (.g (⟨Nat,fun s g=>hd s [0] [(1,.int .i64 (uptoD (markD mPr) l k0 g)),(5,.int .i64 g)] [⟨165,(.im TPr),halfD (markD mPr) l k0 g,0,true⟩],fun _ g=>g<=l.length,fun g=>l.length-g⟩)) else none) func77 ?_;apply VC.thru (markKnotS_vc l k0 hp);kernel_rfl
 · cases h
def markKnotS_con:Con prog:=.f0 77 [.lend,.d] true markKnotS_get (en func77 rfl) markKnotS_ok
theorem markEntryS_vc (l:List Dat) (k0:Int) (hp:0<=k0/\k0+6*((totL TEnt l:Nat):Int)<=1099511627776) :
 I64 k0->WFl OEnt.ty l->(∃x:Nat,x<=l.length/\k0=uptoD (markD mEnt) l k0 x/\0=(x:Int)/\l=halfD (markD mEnt) l k0 x)/\∀x:Nat,x<=l.length->I64 (↑(halfD (markD mEnt) l k0 x).length:Int)->(decide ((x:Int)<(↑(halfD (markD mEnt) l k0 x).length:Int))->(0<=(x:Int)/\(x:Int)<(↑(halfD (markD mEnt) l k0 x).length:Int))/\x<(halfD (markD mEnt) l k0 x).length/\∀x_1:List Dat,x_1=(halfD (markD mEnt) l k0 x).set x
 (((halfD (markD mEnt) l k0 x).getD x default).set 0 (Dat.int (uptoD (markD mEnt) l k0 x)))->(0<=(x:Int)/\(x:Int)<(x_1.length:Int))/\x<x_1.length/\∀x_2:List Dat,x_2=x_1.set x ((x_1.getD x default).set 1 (Dat.int (i64.wrap (uptoD (markD mEnt) l k0 x+1))))->(0<=(x:Int)/\(x:Int)<(x_2.length:Int))/\x<x_2.length/\∀x_3:List Dat,x_3=x_2.set x ((x_2.getD x default).set 2 (Dat.int (i64.wrap (i64.wrap (uptoD
 (markD mEnt) l k0 x+1)+1))))->(0<=(x:Int)/\(x:Int)<(x_3.length:Int))/\x<x_3.length/\((0<=hA l k0 x/\hA l k0 x+6*(↑(totL (Ty.int i64).sl (p3 x_3 x 0)):Int)<=1099511627776)/\x<x_3.length/\True)/\∀x_4:List Dat,x_4=x_3.set x ((x_3.getD x default).set 3 (((x_3.getD x default).f 3).set 0 ((((x_3.getD x default).f 3).f 0).set 0 (Dat.node (walkD (markD MK.int.sl) (p3 x_3 x 0) (hA l k0
 x)).fst))))->(0<=(x:Int)/\(x:Int)<(x_4.length:Int))/\x<x_4.length/\((0<=(nB l k0 x x_3)/\(nB l k0 x x_3)+(6:Int)*(↑(totL (Ty.int i64) (p3 x_4 x 1)):Int)<=1099511627776)/\x<x_4.length/\True)/\∀x_5:List Dat,x_5=x_4.set x ((x_4.getD x default).set 3 (((x_4.getD x default).f 3).set 1 ((((x_4.getD x default).f 3).f 1).set 0 (Dat.node (walkD (markD MK.int) (p3 x_4 x 1) (nB l k0 x
 x_3)).fst))))->(0<=(x:Int)/\(x:Int)<(x_5.length:Int))/\x<x_5.length/\((0<=(nC l k0 x x_3 x_4)/\(nC l k0 x x_3 x_4)+(6:Int)*(↑(totL TPr (p3 x_5 x 2)):Int)<=1099511627776)/\x<x_5.length/\True)/\∀x_6:List Dat,x_6=x_5.set x ((x_5.getD x default).set 3 (((x_5.getD x default).f 3).set 2 ((((x_5.getD x default).f 3).f 2).set 0 (Dat.node (walkD (markD mPr) (p3 x_5 x 2) (nC l k0 x x_3
 x_4)).fst))))->(0<=(x:Int)/\(x:Int)<(x_6.length:Int))/\x<x_6.length/\∀x_7:List Dat,x_7=x_6.set x ((x_6.getD x default).set 3 (((x_6.getD x default).f 3).set 2 ((((x_6.getD x default).f 3).f 2).set 1 (Dat.int (nD l k0 x x_3 x_4 x_5)))))->(0<=(x:Int)/\(x:Int)<(x_7.length:Int))/\x<x_7.length/\∀x_8:List Dat,x_8=x_7.set x ((x_7.getD x default).set 3 (((x_7.getD x default).f 3).set 2 ((((x_7.getD x
 default).f 3).f 2).set 2 (Dat.int (i64.wrap ((nD l k0 x x_3 x_4 x_5)+(1:Int)))))))->(0<=(x:Int)/\(x:Int)<(x_8.length:Int))/\x<x_8.length/\((0<=i64.wrap (i64.wrap ((nD l k0 x x_3 x_4 x_5)+(1:Int))+1)/\i64.wrap (i64.wrap ((nD l k0 x x_3 x_4 x_5)+(1:Int))+1)+6*(↑(totL TPr (p3 x_8 x 3)):Int)<=1099511627776)/\x<x_8.length/\True)/\∀x_9:List Dat,x_9=x_8.set x ((x_8.getD x default).set 3 (((x_8.getD x
 default).f 3).set 3 ((((x_8.getD x default).f 3).f 3).set 0 (Dat.node (walkD (markD mPr) (p3 x_8 x 3) (i64.wrap (i64.wrap ((nD l k0 x x_3 x_4 x_5)+(1:Int))+1))).fst))))->(0<=(x:Int)/\(x:Int)<(x_9.length:Int))/\x<x_9.length/\∀x_10:List Dat,x_10=x_9.set x ((x_9.getD x default).set 3 (((x_9.getD x default).f 3).set 3 ((((x_9.getD x default).f 3).f 3).set 1 (Dat.int (walkD (markD mPr) (p3 x_8 x 3)
 (i64.wrap (i64.wrap ((nD l k0 x x_3 x_4 x_5)+(1:Int))+1))).snd))))->∃x_11:Nat,(x_11<=l.length/\l.length-x_11<l.length-x)/\i64.wrap ((walkD (markD mPr) (p3 x_8 x 3) (i64.wrap (i64.wrap ((nD l k0 x x_3 x_4 x_5)+(1:Int))+1))).snd+(1:Int))=uptoD (markD mEnt) l k0 x_11/\i64.wrap ((x:Int)+1)=(x_11:Int)/\x_10=halfD (markD mEnt) l k0 x_11)/\(decide ((x:Int)<(↑(halfD (markD mEnt) l k0
 x).length:Int))=false->uptoD (markD mEnt) l k0 x=(walkD (markD mEnt) l k0).snd/\halfD (markD mEnt) l k0 x=(walkD (markD mEnt) l k0).fst):=by
 intro _ hw0;have hw:WFl TEnt l:=hw0;simp only[nD,nC,nB,hA,p3];simp only[iv,kv,fv,nm];have hl1:=hw.1;have hl2:=totL_length TEnt l;refine⟨⟨0,by omega,rfl,rfl,rfl⟩,fun x hx _=>⟨fun hlt=>?_,fun hlt=>?_⟩⟩
 rotate_left
 · rw[halfD_length] at hlt;exact⟨uptoD_all _ _ (by omega),halfD_all _ _ (by omega)⟩
 have hL:(halfD (markD mEnt) l k0 x).length=l.length:=halfD_length _ _ _;rw[hL] at hlt;have hxl:x<l.length:=by omega
 have a0:=halfD_at (markD mEnt) k0 hxl;have hwx:=wfl_get hw hxl;have hB:=mb_upto mb_ent (l:=l) (k:=k0) hx;have hT:=totP_next (e:=TEnt) hxl;have hT2:=totP_le (e:=TEnt) l (x+1);have hN1:=halfD_next (markD mEnt) k0 hxl;have hN2:=uptoD_next (markD mEnt) k0 hxl;generalize l.getD x default=d at a0 hwx hT hN1 hN2;generalize halfD (markD mEnt) l k0 x=H at hL a0 hN1 ⊢;generalize uptoD (markD mEnt) l k0 x=u at hB hN1 hN2 ⊢;obtain⟨a,b,c,r,t,p,lo,al,q,ra,rfl⟩:=ent_lit hwx;rw[ent_tot] at hT;have E0:=mk_self (by omega) a0;have w0:i64.wrap (u+1)=u+1:=wrap_ok (by omega) (by omega);simp only[w0];refine⟨⟨by omega,by omega⟩,by omega,fun D1 e1=>?_⟩
 rw[a0] at e1;obtain⟨E1,l1,a1⟩:=mk_all (b:=.node [.int u,.int b,.int c,.node [.node [.node r],.node [.node t],.node [.node p,.int lo,.int al],.node [.node q,.int ra]]]) (by omega) E0 e1;have w1:i64.wrap (u+1+1)=u+1+1:=wrap_ok (by omega) (by omega);simp only[w1];refine⟨⟨by omega,by omega⟩,by omega,fun D2 e2=>?_⟩;rw[a1] at e2;obtain⟨E2,l2,a2⟩:=mk_all (b:=.node [.int u,.int (u+1),.int c,.node [.node [.node r],.node [.node t],.node [.node p,.int lo,.int al],.node [.node q,.int ra]]]) (by omega) E1 e2;have w2:i64.wrap (u+1+1+1)=u+1+1+1:=wrap_ok (by omega) (by omega);simp only[w2];refine⟨⟨by omega,by omega⟩,by omega,fun D3 e3=>?_⟩
 rw[a2] at e3;obtain⟨E3,l3,a3⟩:=mk_all (b:=.node [.int u,.int (u+1),.int (u+1+1),.node [.node [.node r],.node [.node t],.node [.node p,.int lo,.int al],.node [.node q,.int ra]]]) (by omega) E2 e3;have r3:(((((D3.getD x default).f 3).f 0).f 0)).kids=r:=by rw[a3];rfl
 simp only[r3];have b3:=mb_list (mb_sl mb_int) (l:=r) (k:=u+1+1+1);refine⟨⟨by omega,by omega⟩,by omega,⟨⟨by omega,by omega⟩,by omega⟩,fun D4 e4=>?_⟩;rw[a3] at e4;obtain⟨E4,l4,a4⟩:=mk_all (b:=.node [.int u,.int (u+1),.int (u+1+1),.node [.node [.node (walkD (markD (.sl .int)) r (u+1+1+1)).1],.node [.node t],.node [.node p,.int lo,.int al],.node [.node q,.int ra]]]) (by omega) E3 e4;have r4:(((((D4.getD x default).f 3).f 1).f 0)).kids=t:=by rw[a4];rfl
 simp only[r4];have b4:=mb_list (mb_int) (l:=t) (k:=(walkD (markD (.sl .int)) r (u+1+1+1)).2);refine⟨⟨by omega,by omega⟩,by omega,⟨⟨by omega,by omega⟩,by omega⟩,fun D5 e5=>?_⟩;rw[a4] at e5;obtain⟨E5,l5,a5⟩:=mk_all (b:=.node [.int u,.int (u+1),.int (u+1+1),.node [.node [.node (walkD (markD (.sl .int)) r (u+1+1+1)).1],.node [.node (walkD (markD .int) t ((walkD (markD (.sl .int)) r (u+1+1+1)).2)).1],.node [.node p,.int lo,.int al],.node [.node q,.int ra]]]) (by omega) E4 e5;have r5:(((((D5.getD x default).f 3).f 2).f 0)).kids=p:=by rw[a5];rfl
 simp only[r5];have b5:=mb_list (mb_pr) (l:=p) (k:=(walkD (markD .int) t ((walkD (markD (.sl .int)) r (u+1+1+1)).2)).2);refine⟨⟨by omega,by omega⟩,by omega,⟨⟨by omega,by omega⟩,by omega⟩,fun D6 e6=>?_⟩;rw[a5] at e6;obtain⟨E6,l6,a6⟩:=mk_all (b:=.node [.int u,.int (u+1),.int (u+1+1),.node [.node [.node (walkD (markD (.sl .int)) r (u+1+1+1)).1],.node [.node (walkD (markD .int) t ((walkD (markD (.sl .int)) r (u+1+1+1)).2)).1],.node [.node (walkD (markD mPr) p ((walkD (markD .int) t ((walkD (markD (.sl .int)) r (u+1+1+1)).2)).2)).1,.int lo,.int al],.node [.node q,.int ra]]]) (by omega) E5 e6;have w6:i64.wrap ((walkD (markD mPr) p ((walkD (markD .int) t ((walkD (markD (.sl .int)) r (u+1+1+1)).2)).2)).2+1)=(walkD (markD mPr) p ((walkD (markD .int) t ((walkD (markD (.sl .int)) r (u+1+1+1)).2)).2)).2+1:=wrap_ok (by omega) (by omega)
 simp only[w6];refine⟨⟨by omega,by omega⟩,by omega,fun D7 e7=>?_⟩;rw[a6] at e7;obtain⟨E7,l7,a7⟩:=mk_all (b:=.node [.int u,.int (u+1),.int (u+1+1),.node [.node [.node (walkD (markD (.sl .int)) r (u+1+1+1)).1],.node [.node (walkD (markD .int) t ((walkD (markD (.sl .int)) r (u+1+1+1)).2)).1],.node [.node (walkD (markD mPr) p ((walkD (markD .int) t ((walkD (markD (.sl .int)) r (u+1+1+1)).2)).2)).1,.int ((walkD (markD mPr) p ((walkD (markD .int) t ((walkD (markD (.sl .int)) r (u+1+1+1)).2)).2)).2),.int al],.node [.node q,.int ra]]]) (by omega) E6 e7;have w7:i64.wrap ((walkD (markD mPr) p ((walkD (markD .int) t ((walkD (markD (.sl .int)) r (u+1+1+1)).2)).2)).2+1+1)=(walkD (markD mPr) p ((walkD (markD .int) t ((walkD (markD (.sl .int)) r (u+1+1+1)).2)).2)).2+1+1:=wrap_ok (by omega) (by omega)
 simp only[w7];refine⟨⟨by omega,by omega⟩,by omega,fun D8 e8=>?_⟩;rw[a7] at e8;obtain⟨E8,l8,a8⟩:=mk_all (b:=.node [.int u,.int (u+1),.int (u+1+1),.node [.node [.node (walkD (markD (.sl .int)) r (u+1+1+1)).1],.node [.node (walkD (markD .int) t ((walkD (markD (.sl .int)) r (u+1+1+1)).2)).1],.node [.node (walkD (markD mPr) p ((walkD (markD .int) t ((walkD (markD (.sl .int)) r (u+1+1+1)).2)).2)).1,.int ((walkD (markD mPr) p ((walkD (markD .int) t ((walkD (markD (.sl .int)) r (u+1+1+1)).2)).2)).2),.int ((walkD (markD mPr) p ((walkD (markD .int) t ((walkD (markD (.sl .int)) r (u+1+1+1)).2)).2)).2+1)],.node [.node q,.int ra]]]) (by omega) E7 e8
 have r8:(((((D8.getD x default).f 3).f 3).f 0)).kids=q:=by rw[a8];rfl
 simp only[r8];have b8:=mb_list (mb_pr) (l:=q) (k:=(walkD (markD mPr) p ((walkD (markD .int) t ((walkD (markD (.sl .int)) r (u+1+1+1)).2)).2)).2+1+1);refine⟨⟨by omega,by omega⟩,by omega,⟨⟨by omega,by omega⟩,by omega⟩,fun D9 e9=>?_⟩;rw[a8] at e9;obtain⟨E9,l9,a9⟩:=mk_all (b:=.node [.int u,.int (u+1),.int (u+1+1),.node [.node [.node (walkD (markD (.sl .int)) r (u+1+1+1)).1],.node [.node (walkD (markD .int) t ((walkD (markD (.sl .int)) r (u+1+1+1)).2)).1],.node [.node (walkD (markD mPr) p ((walkD (markD .int) t ((walkD (markD (.sl .int)) r (u+1+1+1)).2)).2)).1,.int ((walkD (markD mPr) p ((walkD (markD .int) t ((walkD (markD (.sl .int)) r (u+1+1+1)).2)).2)).2),.int ((walkD (markD mPr) p ((walkD (markD .int) t ((walkD (markD (.sl .int)) r (u+1+1+1)).2)).2)).2+1)],.node [.node (walkD (markD mPr) q ((walkD (markD mPr) p ((walkD (markD .int) t ((walkD (markD (.sl .int)) r (u+1+1+1)).2)).2)).2+1+1)).1,.int ra]]]) (by omega) E8 e9
 have w9:i64.wrap ((walkD (markD mPr) q ((walkD (markD mPr) p ((walkD (markD .int) t ((walkD (markD (.sl .int)) r (u+1+1+1)).2)).2)).2+1+1)).2+1)=(walkD (markD mPr) q ((walkD (markD mPr) p ((walkD (markD .int) t ((walkD (markD (.sl .int)) r (u+1+1+1)).2)).2)).2+1+1)).2+1:=wrap_ok (by omega) (by omega);simp only[w9];refine⟨⟨by omega,by omega⟩,by omega,fun D10 e10=>?_⟩;rw[a9] at e10;obtain⟨E10,l10,a10⟩:=mk_all (b:=.node [.int u,.int (u+1),.int (u+1+1),.node [.node [.node (walkD (markD (.sl .int)) r (u+1+1+1)).1],.node [.node (walkD (markD .int) t ((walkD (markD (.sl .int)) r (u+1+1+1)).2)).1],.node [.node (walkD (markD mPr) p ((walkD (markD .int) t ((walkD (markD (.sl .int)) r (u+1+1+1)).2)).2)).1,.int ((walkD (markD mPr) p ((walkD (markD .int) t ((walkD (markD (.sl .int)) r (u+1+1+1)).2)).2)).2),.int ((walkD (markD mPr) p ((walkD (markD .int) t ((walkD (markD (.sl .int)) r (u+1+1+1)).2)).2)).2+1)],.node [.node (walkD (markD mPr) q ((walkD (markD mPr) p ((walkD (markD .int) t ((walkD (markD (.sl .int)) r (u+1+1+1)).2)).2)).2+1+1)).1,.int ((walkD (markD mPr) q ((walkD (markD mPr) p ((walkD (markD .int) t ((walkD (markD (.sl .int)) r (u+1+1+1)).2)).2)).2+1+1)).2)]]]) (by omega) E9 e10
 refine⟨x+1,⟨by omega,by omega⟩,?_,up_ok (n:=l.length) hxl (by omega),?_⟩
 · rw[hN2];rfl
 · rw[hN1];exact E10
def markEntryS_get:List SV->St->Option Got
 | [.own 0,.int .i64 k0],⟨[],[],[⟨80,(.st [.im (.int .i64),.im (.int .i64),.im (.int .i64),(.st [.st [.sl 34 (.sl 3 (.im (.int .i64)))],.st [.sl 3 (.im (.int .i64))],.st [.sl 163 (.im ty0),.im (.int .i64),.im (.int .i64)],.st [.sl 165 (.im ty1),.im (.int .i64)]])]),l,0,true⟩]⟩=>guardTy ty0 TPr (guardTy ty1 TPr (some (0<=k0/\k0+6*((totL TEnt l:Nat):Int)<=1099511627776,.int .i64 (walkD (markD mEnt) l k0).2,St.mk [] [] [⟨80,OEnt,(walkD (markD mEnt) l k0).1,0,true⟩])))
 | _,_=>none
theorem markEntryS_ok:Ok0 prog 26 markEntryS_get:=by
 intro _ _ _ _ _ h hp;unfold markEntryS_get at h;split at h
 · rename_i k0 _ _ l;replace h:=gT2 h;obtain⟨rfl,rfl,h⟩:=h;cases h;refine fl [markIntSS_con,markIntS_con,markPairS_con,markKnotS_con] (fun k=>bif Nat.beq k 2 then some (.g (⟨Nat,fun s g=>hd s [0] [(1,.int .i64 (uptoD (markD mEnt) l k0 g)),(5,.int .i64 g)] [⟨80,OEnt,halfD (markD mEnt) l k0 g,0,true⟩],fun _ g=>g<=l.length,fun g=>l.length-g⟩)) else none) func26 ?_;apply VC.thru (markEntryS_vc l k0 hp);kernel_rfl
 · cases h
def markEntryS_con:Con prog:=.f0 26 [.lend,.d] true markEntryS_get (en func26 rfl) markEntryS_ok
theorem markNodeS_vc (l:List Dat) (k0:Int) (hp:0<=k0/\k0+6*((totL TNode l:Nat):Int)<=1099511627776) :
 I64 k0->WFl ONode.ty l->(∃x:Nat,x<=l.length/\k0=uptoD (markD mNd) l k0 x/\0=(x:Int)/\l=halfD (markD mNd) l k0 x)/\∀x:Nat,x<=l.length->I64 (↑(halfD (markD mNd) l k0 x).length:Int)->(decide ((x:Int)<(↑(halfD (markD mNd) l k0 x).length:Int))->(0<=(x:Int)/\(x:Int)<(↑(halfD (markD mNd) l k0 x).length:Int))/\x<(halfD (markD mNd) l k0 x).length/\∀x_1:List Dat,x_1=(halfD (markD mNd) l k0 x).set x (((halfD
 (markD mNd) l k0 x).getD x default).set 0 (Dat.int (uptoD (markD mNd) l k0 x)))->(0<=(x:Int)/\(x:Int)<(x_1.length:Int))/\x<x_1.length/\((0<=i64.wrap (uptoD (markD mNd) l k0 x+1)/\i64.wrap (uptoD (markD mNd) l k0 x+1)+6*(↑(totL TEnt ((x_1.getD x default).f 1).kids):Int)<=1099511627776)/\x<x_1.length/\True)/\∀x_2:List Dat,x_2=x_1.set x ((x_1.getD x default).set 1 (Dat.node (walkD (markD mEnt)
 ((x_1.getD x default).f 1).kids (i64.wrap (uptoD (markD mNd) l k0 x+1))).fst))->(0<=(x:Int)/\(x:Int)<(x_2.length:Int))/\x<x_2.length/\∀x_3:List Dat,x_3=x_2.set x ((x_2.getD x default).set 2 (Dat.int (walkD (markD mEnt) ((x_1.getD x default).f 1).kids (i64.wrap (uptoD (markD mNd) l k0 x+1))).snd))->(0<=(x:Int)/\(x:Int)<(x_3.length:Int))/\x<x_3.length/\∀x_4:List Dat,x_4=x_3.set x ((x_3.getD x
 default).set 3 (Dat.int (i64.wrap ((walkD (markD mEnt) ((x_1.getD x default).f 1).kids (i64.wrap (uptoD (markD mNd) l k0 x+1))).snd+(1:Int)))))->(0<=(x:Int)/\(x:Int)<(x_4.length:Int))/\x<x_4.length/\∀x_5:List Dat,x_5=x_4.set x ((x_4.getD x default).set 4 (Dat.int (i64.wrap (i64.wrap ((walkD (markD mEnt) ((x_1.getD x default).f 1).kids (i64.wrap (uptoD (markD mNd) l k0
 x+1))).snd+(1:Int))+1))))->∃x_6:Nat,(x_6<=l.length/\l.length-x_6<l.length-x)/\i64.wrap (i64.wrap (i64.wrap ((walkD (markD mEnt) ((x_1.getD x default).f 1).kids (i64.wrap (uptoD (markD mNd) l k0 x+1))).snd+(1:Int))+1)+1)=uptoD (markD mNd) l k0 x_6/\i64.wrap ((x:Int)+1)=(x_6:Int)/\x_5=halfD (markD mNd) l k0 x_6)/\(decide ((x:Int)<(↑(halfD (markD mNd) l k0 x).length:Int))=false->uptoD (markD mNd) l
 k0 x=(walkD (markD mNd) l k0).snd/\halfD (markD mNd) l k0 x=(walkD (markD mNd) l k0).fst):=by
 intro _ hw0;have hw:WFl TNode l:=hw0;simp only[iv,kv,fv,nm];have hl1:=hw.1;have hl2:=totL_length TNode l;refine⟨⟨0,by omega,rfl,rfl,rfl⟩,fun x hx _=>⟨fun hlt=>?_,fun hlt=>?_⟩⟩
 rotate_left
 · rw[halfD_length] at hlt;exact⟨uptoD_all _ _ (by omega),halfD_all _ _ (by omega)⟩
 have hL:(halfD (markD mNd) l k0 x).length=l.length:=halfD_length _ _ _;rw[hL] at hlt;have hxl:x<l.length:=by omega
 have a0:=halfD_at (markD mNd) k0 hxl;have hwx:=wfl_get hw hxl;have hB:=mb_upto mb_nd (l:=l) (k:=k0) hx;have hT:=totP_next (e:=TNode) hxl;have hT2:=totP_le (e:=TNode) l (x+1);have hN1:=halfD_next (markD mNd) k0 hxl;have hN2:=uptoD_next (markD mNd) k0 hxl;generalize l.getD x default=d at a0 hwx hT hN1 hN2;generalize halfD (markD mNd) l k0 x=H at hL a0 hN1 ⊢;generalize uptoD (markD mNd) l k0 x=u at hB hN1 hN2 ⊢;obtain⟨a,r,b,c,e,rfl⟩:=nd_lit hwx;rw[nd_tot] at hT;have E0:=mk_self (by omega) a0;have w0:i64.wrap (u+1)=u+1:=wrap_ok (by omega) (by omega);simp only[w0];refine⟨⟨by omega,by omega⟩,by omega,fun D1 e1=>?_⟩
 rw[a0] at e1;obtain⟨E1,l1,a1⟩:=mk_all (b:=.node [.int u,.node r,.int b,.int c,.int e]) (by omega) E0 e1;have r1:(((D1.getD x default).f 1)).kids=r:=by rw[a1];rfl
 simp only[r1];have b1:=mb_list (mb_ent) (l:=r) (k:=u+1);refine⟨⟨by omega,by omega⟩,by omega,⟨⟨by omega,by omega⟩,by omega⟩,fun D2 e2=>?_⟩;rw[a1] at e2;obtain⟨E2,l2,a2⟩:=mk_all (b:=.node [.int u,.node (walkD (markD mEnt) r (u+1)).1,.int b,.int c,.int e]) (by omega) E1 e2;have w2:i64.wrap ((walkD (markD mEnt) r (u+1)).2+1)=(walkD (markD mEnt) r (u+1)).2+1:=wrap_ok (by omega) (by omega);simp only[w2];refine⟨⟨by omega,by omega⟩,by omega,fun D3 e3=>?_⟩;rw[a2] at e3;obtain⟨E3,l3,a3⟩:=mk_all (b:=.node [.int u,.node (walkD (markD mEnt) r (u+1)).1,.int ((walkD (markD mEnt) r (u+1)).2),.int c,.int e]) (by omega) E2 e3
 have w3:i64.wrap ((walkD (markD mEnt) r (u+1)).2+1+1)=(walkD (markD mEnt) r (u+1)).2+1+1:=wrap_ok (by omega) (by omega);simp only[w3];refine⟨⟨by omega,by omega⟩,by omega,fun D4 e4=>?_⟩;rw[a3] at e4;obtain⟨E4,l4,a4⟩:=mk_all (b:=.node [.int u,.node (walkD (markD mEnt) r (u+1)).1,.int ((walkD (markD mEnt) r (u+1)).2),.int ((walkD (markD mEnt) r (u+1)).2+1),.int e]) (by omega) E3 e4;have w4:i64.wrap ((walkD (markD mEnt) r (u+1)).2+1+1+1)=(walkD (markD mEnt) r (u+1)).2+1+1+1:=wrap_ok (by omega) (by omega);simp only[w4];refine⟨⟨by omega,by omega⟩,by omega,fun D5 e5=>?_⟩;rw[a4] at e5;obtain⟨E5,l5,a5⟩:=mk_all (b:=.node [.int u,.node (walkD (markD mEnt) r (u+1)).1,.int ((walkD (markD mEnt) r (u+1)).2),.int ((walkD (markD mEnt) r (u+1)).2+1),.int ((walkD (markD mEnt) r (u+1)).2+1+1)]) (by omega) E4 e5
 refine⟨x+1,⟨by omega,by omega⟩,?_,up_ok (n:=l.length) hxl (by omega),?_⟩
 · rw[hN2];rfl
 · rw[hN1];exact E5
def markNodeS_get:List SV->St->Option Got
 | [.own 0,.int .i64 k0],⟨[],[],[⟨77,(.st [.im (.int .i64),.sl 80 (.st [.im (.int .i64),.im (.int .i64),.im (.int .i64),(.st [.st [.sl 34 (.sl 3 (.im (.int .i64)))],.st [.sl 3 (.im (.int .i64))],.st [.sl 163 (.im ty0),.im (.int .i64),.im (.int .i64)],.st [.sl 165 (.im ty1),.im (.int .i64)]])]),.im (.int .i64),.im (.int .i64),.im (.int .i64)]),l,0,true⟩]⟩=>guardTy ty0 TPr (guardTy ty1 TPr (some (0<=k0/\k0+6*((totL TNode l:Nat):Int)<=1099511627776,.int .i64 (walkD (markD mNd) l k0).2,St.mk [] [] [⟨77,ONode,(walkD (markD mNd) l k0).1,0,true⟩])))
 | _,_=>none
theorem markNodeS_ok:Ok0 prog 71 markNodeS_get:=by
 intro _ _ _ _ _ h hp;unfold markNodeS_get at h;split at h
 · rename_i k0 _ _ l;replace h:=gT2 h;obtain⟨rfl,rfl,h⟩:=h;cases h;refine fl [markEntryS_con] (fun k=>bif Nat.beq k 2 then some (.g (⟨Nat,fun s g=>hd s [0] [(1,.int .i64 (uptoD (markD mNd) l k0 g)),(5,.int .i64 g)] [⟨77,ONode,halfD (markD mNd) l k0 g,0,true⟩],fun _ g=>g<=l.length,fun g=>l.length-g⟩)) else none) func71 ?_;apply VC.thru (markNodeS_vc l k0 hp);kernel_rfl
 · cases h
def markNodeS_con:Con prog:=.f0 71 [.lend,.d] true markNodeS_get (en func71 rfl) markNodeS_ok
theorem markBoolS_vc (l:List Dat) (k0:Int) (hp:0<=k0/\k0+6*((totL .bool l:Nat):Int)<=1099511627776) :
 I64 k0->WFl (OT.im Ty.bool).ty l->(∃x:Nat,x<=l.length/\k0=uptoD (markD MK.bool) l k0 x/\0=(x:Int)/\l=halfD (markD MK.bool) l k0 x)/\∀x:Nat,x<=l.length->I64 (↑(halfD (markD MK.bool) l k0 x).length:Int)->(decide ((x:Int)<(↑(halfD (markD MK.bool) l k0 x).length:Int))->(3:Int)≠0/\(0<=(x:Int)/\(x:Int)<(↑(halfD (markD MK.bool) l k0 x).length:Int))/\x<(halfD (markD MK.bool) l k0
 x).length/\∃x_1:Nat,(x_1<=l.length/\l.length-x_1<l.length-x)/\i64.wrap (uptoD (markD MK.bool) l k0 x+1)=uptoD (markD MK.bool) l k0 x_1/\i64.wrap ((x:Int)+1)=(x_1:Int)/\(halfD (markD MK.bool) l k0 x).set x (Dat.bool (decide ((uptoD (markD MK.bool) l k0 x).tmod (3:Int)=0)))=halfD (markD MK.bool) l k0 x_1)/\(decide ((x:Int)<(↑(halfD (markD MK.bool) l k0 x).length:Int))=false->uptoD (markD MK.bool) l
 k0 x=(walkD (markD MK.bool) l k0).snd/\halfD (markD MK.bool) l k0 x=(walkD (markD MK.bool) l k0).fst):=by
 intro _ hw0;have hw:WFl .bool l:=hw0;simp only[iv,kv,fv,nm];have hl1:=hw.1;have hl2:=totL_length .bool l;refine⟨⟨0,by omega,rfl,rfl,rfl⟩,fun x hx _=>⟨fun hlt=>?_,fun hlt=>?_⟩⟩
 rotate_left
 · rw[halfD_length] at hlt;exact⟨uptoD_all _ _ (by omega),halfD_all _ _ (by omega)⟩
 have hL:(halfD (markD .bool) l k0 x).length=l.length:=halfD_length _ _ _;rw[hL] at hlt;have hxl:x<l.length:=by omega
 have a0:=halfD_at (markD .bool) k0 hxl;have hwx:=wfl_get hw hxl;have hB:=mb_upto mb_bool (l:=l) (k:=k0) hx;have hT:=totP_next (e:=.bool) hxl;have hT2:=totP_le (e:=.bool) l (x+1);have hN1:=halfD_next (markD .bool) k0 hxl;have hN2:=uptoD_next (markD .bool) k0 hxl;generalize l.getD x default=d at a0 hwx hT hN1 hN2;generalize halfD (markD .bool) l k0 x=H at hL a0 hN1 ⊢;generalize uptoD (markD .bool) l k0 x=u at hB hN1 hN2 ⊢;rw[tot_bool] at hT;rw[wrap_ok (n:=u+1) (by omega) (by omega)];exact⟨by decide,⟨by omega,by omega⟩,by omega,x+1,⟨by omega,by omega⟩,hN2.symm,up_ok (n:=l.length) hxl (by omega),hN1.symm⟩
def markBoolS_get:List SV->St->Option Got
 | [.own 0,.int .i64 k0],⟨[],[],[⟨4,(.im .bool),l,0,true⟩]⟩=>some (0<=k0/\k0+6*((totL .bool l:Nat):Int)<=1099511627776,.int .i64 (walkD (markD .bool) l k0).2,St.mk [] [] [⟨4,(.im .bool),(walkD (markD .bool) l k0).1,0,true⟩])
 | _,_=>none
theorem markBoolS_ok:Ok0 prog 72 markBoolS_get:=by
 intro _ _ _ _ _ h hp;unfold markBoolS_get at h;split at h
 · rename_i k0 l;cases h;refine fl [] (fun k=>bif Nat.beq k 2 then some (.g (⟨Nat,fun s g=>hd s [0] [(1,.int .i64 (uptoD (markD .bool) l k0 g)),(5,.int .i64 g)] [⟨4,(.im .bool),halfD (markD .bool) l k0 g,0,true⟩],fun _ g=>g<=l.length,fun g=>l.length-g⟩)) else none) func72 ?_;apply VC.thru (markBoolS_vc l k0 hp);kernel_rfl
 · cases h
def markBoolS_con:Con prog:=.f0 72 [.lend,.d] true markBoolS_get (en func72 rfl) markBoolS_ok
theorem markWordS_vc (l:List Dat) (k0:Int) (hp:0<=k0/\k0+6*((totL TWord l:Nat):Int)<=1099511627776) :
 I64 k0->WFl OWord.ty l->(∃x:Nat,x<=l.length/\k0=uptoD (markD mWd) l k0 x/\0=(x:Int)/\l=halfD (markD mWd) l k0 x)/\∀x:Nat,x<=l.length->I64 (↑(halfD (markD mWd) l k0 x).length:Int)->(decide ((x:Int)<(↑(halfD (markD mWd) l k0 x).length:Int))->(0<=(x:Int)/\(x:Int)<(↑(halfD (markD mWd) l k0 x).length:Int))/\x<(halfD (markD mWd) l k0 x).length/\∀x_1:List Dat,x_1=(halfD (markD mWd) l k0 x).set x (((halfD
 (markD mWd) l k0 x).getD x default).set 0 (Dat.int (uptoD (markD mWd) l k0 x)))->(0<=(x:Int)/\(x:Int)<(x_1.length:Int))/\x<x_1.length/\∀x_2:List Dat,x_2=x_1.set x ((x_1.getD x default).set 1 (Dat.int (i64.wrap (uptoD (markD mWd) l k0 x+1))))->(0<=(x:Int)/\(x:Int)<(x_2.length:Int))/\x<x_2.length/\∀x_3:List Dat,x_3=x_2.set x ((x_2.getD x default).set 2 (Dat.int (i64.wrap (i64.wrap (uptoD (markD mWd)
 l k0 x+1)+1))))->(0<=(x:Int)/\(x:Int)<(x_3.length:Int))/\x<x_3.length/\∀x_4:List Dat,x_4=x_3.set x ((x_3.getD x default).set 3 (Dat.int (i64.wrap (i64.wrap (i64.wrap (uptoD (markD mWd) l k0 x+1)+1)+1))))->(0<=(x:Int)/\(x:Int)<(x_4.length:Int))/\x<x_4.length/\∀x_5:List Dat,x_5=x_4.set x ((x_4.getD x default).set 4 (Dat.int (i64.wrap (i64.wrap (i64.wrap (i64.wrap (uptoD (markD mWd) l k0
 x+1)+1)+1)+1))))->(0<=(x:Int)/\(x:Int)<(x_5.length:Int))/\x<x_5.length/\((0<=i64.wrap (i64.wrap (i64.wrap (i64.wrap (i64.wrap (uptoD (markD mWd) l k0 x+1)+1)+1)+1)+1)/\i64.wrap (i64.wrap (i64.wrap (i64.wrap (i64.wrap (uptoD (markD mWd) l k0 x+1)+1)+1)+1)+1)+6*(↑(totL TEnt ((x_5.getD x default).f 5).kids):Int)<=1099511627776)/\x<x_5.length/\True)/\∀x_6:List Dat,x_6=x_5.set x ((x_5.getD x
 default).set 5 (Dat.node (walkD (markD mEnt) ((x_5.getD x default).f 5).kids (i64.wrap (i64.wrap (i64.wrap (i64.wrap (i64.wrap (uptoD (markD mWd) l k0 x+1)+1)+1)+1)+1))).fst))->∃x_7:Nat,(x_7<=l.length/\l.length-x_7<l.length-x)/\(walkD (markD mEnt) ((x_5.getD x default).f 5).kids (i64.wrap (i64.wrap (i64.wrap (i64.wrap (i64.wrap (uptoD (markD mWd) l k0 x+1)+1)+1)+1)+1))).snd=uptoD (markD mWd) l k0
 x_7/\i64.wrap ((x:Int)+1)=(x_7:Int)/\x_6=halfD (markD mWd) l k0 x_7)/\(decide ((x:Int)<(↑(halfD (markD mWd) l k0 x).length:Int))=false->uptoD (markD mWd) l k0 x=(walkD (markD mWd) l k0).snd/\halfD (markD mWd) l k0 x=(walkD (markD mWd) l k0).fst):=by
 intro _ hw0;have hw:WFl TWord l:=hw0;simp only[iv,kv,fv,nm];have hl1:=hw.1;have hl2:=totL_length TWord l;refine⟨⟨0,by omega,rfl,rfl,rfl⟩,fun x hx _=>⟨fun hlt=>?_,fun hlt=>?_⟩⟩
 rotate_left
 · rw[halfD_length] at hlt;exact⟨uptoD_all _ _ (by omega),halfD_all _ _ (by omega)⟩
 have hL:(halfD (markD mWd) l k0 x).length=l.length:=halfD_length _ _ _;rw[hL] at hlt;have hxl:x<l.length:=by omega
 have a0:=halfD_at (markD mWd) k0 hxl;have hwx:=wfl_get hw hxl;have hB:=mb_upto mb_wd (l:=l) (k:=k0) hx;have hT:=totP_next (e:=TWord) hxl;have hT2:=totP_le (e:=TWord) l (x+1);have hN1:=halfD_next (markD mWd) k0 hxl;have hN2:=uptoD_next (markD mWd) k0 hxl;generalize l.getD x default=d at a0 hwx hT hN1 hN2;generalize halfD (markD mWd) l k0 x=H at hL a0 hN1 ⊢;generalize uptoD (markD mWd) l k0 x=u at hB hN1 hN2 ⊢;obtain⟨a,b,c,e,y,r,rfl⟩:=wd_lit hwx;rw[wd_tot] at hT;have E0:=mk_self (by omega) a0;have w0:i64.wrap (u+1)=u+1:=wrap_ok (by omega) (by omega);simp only[w0];refine⟨⟨by omega,by omega⟩,by omega,fun D1 e1=>?_⟩
 rw[a0] at e1;obtain⟨E1,l1,a1⟩:=mk_all (b:=.node [.int u,.int b,.int c,.int e,.int y,.node r]) (by omega) E0 e1;have w1:i64.wrap (u+1+1)=u+1+1:=wrap_ok (by omega) (by omega);simp only[w1];refine⟨⟨by omega,by omega⟩,by omega,fun D2 e2=>?_⟩;rw[a1] at e2;obtain⟨E2,l2,a2⟩:=mk_all (b:=.node [.int u,.int (u+1),.int c,.int e,.int y,.node r]) (by omega) E1 e2;have w2:i64.wrap (u+1+1+1)=u+1+1+1:=wrap_ok (by omega) (by omega);simp only[w2];refine⟨⟨by omega,by omega⟩,by omega,fun D3 e3=>?_⟩;rw[a2] at e3;obtain⟨E3,l3,a3⟩:=mk_all (b:=.node [.int u,.int (u+1),.int (u+1+1),.int e,.int y,.node r]) (by omega) E2 e3
 have w3:i64.wrap (u+1+1+1+1)=u+1+1+1+1:=wrap_ok (by omega) (by omega);simp only[w3];refine⟨⟨by omega,by omega⟩,by omega,fun D4 e4=>?_⟩;rw[a3] at e4;obtain⟨E4,l4,a4⟩:=mk_all (b:=.node [.int u,.int (u+1),.int (u+1+1),.int (u+1+1+1),.int y,.node r]) (by omega) E3 e4;have w4:i64.wrap (u+1+1+1+1+1)=u+1+1+1+1+1:=wrap_ok (by omega) (by omega);simp only[w4];refine⟨⟨by omega,by omega⟩,by omega,fun D5 e5=>?_⟩;rw[a4] at e5;obtain⟨E5,l5,a5⟩:=mk_all (b:=.node [.int u,.int (u+1),.int (u+1+1),.int (u+1+1+1),.int (u+1+1+1+1),.node r]) (by omega) E4 e5;have r5:(((D5.getD x default).f 5)).kids=r:=by rw[a5];rfl
 simp only[r5];have b5:=mb_list (mb_ent) (l:=r) (k:=u+1+1+1+1+1);refine⟨⟨by omega,by omega⟩,by omega,⟨⟨by omega,by omega⟩,by omega⟩,fun D6 e6=>?_⟩;rw[a5] at e6;obtain⟨E6,l6,a6⟩:=mk_all (b:=.node [.int u,.int (u+1),.int (u+1+1),.int (u+1+1+1),.int (u+1+1+1+1),.node (walkD (markD mEnt) r (u+1+1+1+1+1)).1]) (by omega) E5 e6;refine⟨x+1,⟨by omega,by omega⟩,?_,up_ok (n:=l.length) hxl (by omega),?_⟩
 · rw[hN2];rfl
 · rw[hN1];exact E6
def markWordS_get:List SV->St->Option Got
 | [.own 0,.int .i64 k0],⟨[],[],[⟨138,(.st [.im (.int .i64),.im (.int .i64),.im (.int .i64),.im (.int .i64),.im (.int .i64),.sl 80 (.st [.im (.int .i64),.im (.int .i64),.im (.int .i64),(.st [.st [.sl 34 (.sl 3 (.im (.int .i64)))],.st [.sl 3 (.im (.int .i64))],.st [.sl 163 (.im ty0),.im (.int .i64),.im (.int .i64)],.st [.sl 165 (.im ty1),.im (.int .i64)]])])]),l,0,true⟩]⟩=>guardTy ty0 TPr (guardTy ty1 TPr (some (0<=k0/\k0+6*((totL TWord l:Nat):Int)<=1099511627776,.int .i64 (walkD (markD mWd) l k0).2,St.mk [] [] [⟨138,OWord,(walkD (markD mWd) l k0).1,0,true⟩])))
 | _,_=>none
theorem markWordS_ok:Ok0 prog 73 markWordS_get:=by
 intro _ _ _ _ _ h hp;unfold markWordS_get at h;split at h
 · rename_i k0 _ _ l;replace h:=gT2 h;obtain⟨rfl,rfl,h⟩:=h;cases h;refine fl [markEntryS_con] (fun k=>bif Nat.beq k 2 then some (.g (⟨Nat,fun s g=>hd s [0] [(1,.int .i64 (uptoD (markD mWd) l k0 g)),(5,.int .i64 g)] [⟨138,OWord,halfD (markD mWd) l k0 g,0,true⟩],fun _ g=>g<=l.length,fun g=>l.length-g⟩)) else none) func73 ?_;apply VC.thru (markWordS_vc l k0 hp);kernel_rfl
 · cases h
def markWordS_con:Con prog:=.f0 73 [.lend,.d] true markWordS_get (en func73 rfl) markWordS_ok
theorem markIntSSS_vc (l:List Dat) (k0:Int) (hp:0<=k0/\k0+6*((totL (.sl (.sl (.int .i64))) l:Nat):Int)<=1099511627776) :
 I64 k0->WFl (OT.sl 34 (OT.sl 3 (OT.im (Ty.int i64)))).ty l->(∃x:Nat,x<=l.length/\k0=uptoD (markD MK.int.sl.sl) l k0 x/\0=(x:Int)/\l=halfD (markD MK.int.sl.sl) l k0 x)/\∀x:Nat,x<=l.length->I64 (↑(halfD (markD MK.int.sl.sl) l k0 x).length:Int)->(decide ((x:Int)<(↑(halfD (markD MK.int.sl.sl) l k0 x).length:Int))->(0<=(x:Int)/\(x:Int)<(↑(halfD (markD MK.int.sl.sl) l k0 x).length:Int))/\x<(halfD (markD
 MK.int.sl.sl) l k0 x).length/\((0<=uptoD (markD MK.int.sl.sl) l k0 x/\uptoD (markD MK.int.sl.sl) l k0 x+6*(↑(totL (Ty.int i64).sl ((halfD (markD MK.int.sl.sl) l k0 x).getD x default).kids):Int)<=1099511627776)/\x<(halfD (markD MK.int.sl.sl) l k0 x).length/\True)/\∀x_1:List Dat,x_1=(halfD (markD MK.int.sl.sl) l k0 x).set x (Dat.node (walkD (markD MK.int.sl) ((halfD (markD MK.int.sl.sl) l k0 x).getD
 x default).kids (uptoD (markD MK.int.sl.sl) l k0 x)).fst)->∃x_2:Nat,(x_2<=l.length/\l.length-x_2<l.length-x)/\(walkD (markD MK.int.sl) ((halfD (markD MK.int.sl.sl) l k0 x).getD x default).kids (uptoD (markD MK.int.sl.sl) l k0 x)).snd=uptoD (markD MK.int.sl.sl) l k0 x_2/\i64.wrap ((x:Int)+1)=(x_2:Int)/\x_1=halfD (markD MK.int.sl.sl) l k0 x_2)/\(decide ((x:Int)<(↑(halfD (markD MK.int.sl.sl) l k0
 x).length:Int))=false->uptoD (markD MK.int.sl.sl) l k0 x=(walkD (markD MK.int.sl.sl) l k0).snd/\halfD (markD MK.int.sl.sl) l k0 x=(walkD (markD MK.int.sl.sl) l k0).fst):=by
 intro _ hw0;have hw:WFl (.sl (.sl (.int .i64))) l:=hw0;simp only[iv,kv,fv,nm];have hl1:=hw.1;have hl2:=totL_length (.sl (.sl (.int .i64))) l;refine⟨⟨0,by omega,rfl,rfl,rfl⟩,fun x hx _=>⟨fun hlt=>?_,fun hlt=>?_⟩⟩
 rotate_left
 · rw[halfD_length] at hlt;exact⟨uptoD_all _ _ (by omega),halfD_all _ _ (by omega)⟩
 have hL:(halfD (markD (.sl (.sl .int))) l k0 x).length=l.length:=halfD_length _ _ _;rw[hL] at hlt;have hxl:x<l.length:=by omega
 have a0:=halfD_at (markD (.sl (.sl .int))) k0 hxl;have hwx:=wfl_get hw hxl;have hB:=mb_upto (mb_sl (mb_sl mb_int)) (l:=l) (k:=k0) hx;have hT:=totP_next (e:=(.sl (.sl (.int .i64)))) hxl;have hT2:=totP_le (e:=(.sl (.sl (.int .i64)))) l (x+1);have hN1:=halfD_next (markD (.sl (.sl .int))) k0 hxl;have hN2:=uptoD_next (markD (.sl (.sl .int))) k0 hxl;generalize l.getD x default=d at a0 hwx hT hN1 hN2;rw[show tot (.sl (.sl (.int .i64))) d=_ by rw[tot_is]] at hT;generalize halfD (markD (.sl (.sl .int))) l k0 x=H at hL a0 hN1 ⊢;generalize uptoD (markD (.sl (.sl .int))) l k0 x=u at hB hN1 hN2 ⊢;have E0:=mk_self (by omega) a0
 simp only[a0];have b0:=mb_list (mb_sl mb_int) (l:=d.kids) (k:=u);refine⟨⟨by omega,by omega⟩,by omega,⟨⟨by omega,by omega⟩,by omega⟩,fun D1 e1=>?_⟩;obtain⟨E1,l1,a1⟩:=mk_all (b:=.node (walkD (markD (.sl .int)) d.kids (u)).1) (by omega) E0 e1;refine⟨x+1,⟨by omega,by omega⟩,?_,up_ok (n:=l.length) hxl (by omega),?_⟩
 · rw[hN2];rfl
 · rw[hN1];exact E1
def markIntSSS_get:List SV->St->Option Got
 | [.own 0,.int .i64 k0],⟨[],[],[⟨31,(.sl 34 (.sl 3 (.im (.int .i64)))),l,0,true⟩]⟩=>some (0<=k0/\k0+6*((totL (.sl (.sl (.int .i64))) l:Nat):Int)<=1099511627776,.int .i64 (walkD (markD (.sl (.sl .int))) l k0).2,St.mk [] [] [⟨31,(.sl 34 (.sl 3 (.im (.int .i64)))),(walkD (markD (.sl (.sl .int))) l k0).1,0,true⟩])
 | _,_=>none
theorem markIntSSS_ok:Ok0 prog 74 markIntSSS_get:=by
 intro _ _ _ _ _ h hp;unfold markIntSSS_get at h;split at h
 · rename_i k0 l;cases h;refine fl [markIntSS_con] (fun k=>bif Nat.beq k 2 then some (.g (⟨Nat,fun s g=>hd s [0] [(1,.int .i64 (uptoD (markD (.sl (.sl .int))) l k0 g)),(5,.int .i64 g)] [⟨31,(.sl 34 (.sl 3 (.im (.int .i64)))),halfD (markD (.sl (.sl .int))) l k0 g,0,true⟩],fun _ g=>g<=l.length,fun g=>l.length-g⟩)) else none) func74 ?_;apply VC.thru (markIntSSS_vc l k0 hp);kernel_rfl
 · cases h
def markIntSSS_con:Con prog:=.f0 74 [.lend,.d] true markIntSSS_get (en func74 rfl) markIntSSS_ok
theorem markNet_vc (nodes links words past:List Dat) (k0:Int) (hp:0<=k0/\k0+6*((totL TNode nodes+totL .bool links+totL TWord words+totL (.sl (.sl (.int .i64))) past:Nat):Int)<=1099511627776) :
 I64 k0->WFl ONode.ty nodes->WFl (OT.im Ty.bool).ty links->WFl OWord.ty words->WFl (OT.sl 34 (OT.sl 3 (OT.im (Ty.int i64)))).ty past->(0<=k0/\k0+6*(↑(totL TNode nodes):Int)<=1099511627776)/\(0<=(walkD (markD mNd) nodes k0).snd/\(walkD (markD mNd) nodes k0).snd+(6:Int)*(↑(totL Ty.bool links):Int)<=1099511627776)/\(0<=(walkD (markD MK.bool) links (walkD (markD mNd) nodes k0).snd).snd/\(walkD (markD
 MK.bool) links (walkD (markD mNd) nodes k0).snd).snd+(6:Int)*(↑(totL TWord words):Int)<=1099511627776)/\(0<=(walkD (markD mWd) words (walkD (markD MK.bool) links (walkD (markD mNd) nodes k0).snd).snd).snd/\(walkD (markD mWd) words (walkD (markD MK.bool) links (walkD (markD mNd) nodes k0).snd).snd).snd+(6:Int)*(↑(totL (Ty.int i64).sl.sl past):Int)<=1099511627776)/\(walkD (markD MK.int.sl.sl) past
 (walkD (markD mWd) words (walkD (markD MK.bool) links (walkD (markD mNd) nodes k0).snd).snd).snd).snd=(walkD (markD MK.int.sl.sl) past (walkD (markD mWd) words (walkD (markD MK.bool) links (walkD (markD mNd) nodes k0).snd).snd).snd).snd/\(walkD (markD mNd) nodes k0).fst=(walkD (markD mNd) nodes k0).fst/\(walkD (markD MK.bool) links (walkD (markD mNd) nodes k0).snd).fst=(walkD (markD MK.bool) links
 (walkD (markD mNd) nodes k0).snd).fst/\(walkD (markD mWd) words (walkD (markD MK.bool) links (walkD (markD mNd) nodes k0).snd).snd).fst=(walkD (markD mWd) words (walkD (markD MK.bool) links (walkD (markD mNd) nodes k0).snd).snd).fst/\(walkD (markD MK.int.sl.sl) past (walkD (markD mWd) words (walkD (markD MK.bool) links (walkD (markD mNd) nodes k0).snd).snd).snd).fst=(walkD (markD MK.int.sl.sl)
 past (walkD (markD mWd) words (walkD (markD MK.bool) links (walkD (markD mNd) nodes k0).snd).snd).snd).fst:=by
 intros
 simp only[iv,kv,fv,nm];have b0:=mb_list mb_nd (l:=nodes) (k:=k0);have b1:=mb_list mb_bool (l:=links) (k:=(walkD (markD mNd) nodes k0).2);have b2:=mb_list mb_wd (l:=words) (k:=(walkD (markD .bool) links (walkD (markD mNd) nodes k0).2).2);have b3:=mb_list (mb_sl (mb_sl mb_int)) (l:=past) (k:=(walkD (markD mWd) words (walkD (markD .bool) links (walkD (markD mNd) nodes k0).2).2).2)
 (repeat' (first | omega | refine And.intro ?_ ?_))
def markNet_get:List SV->St->Option Got
 | [.agg [.own 0,.own 1,.own 2,.own 3],.int .i64 k0],⟨[],[],[⟨77,(.st [.im (.int .i64),.sl 80 (.st [.im (.int .i64),.im (.int .i64),.im (.int .i64),(.st [.st [.sl 34 (.sl 3 (.im (.int .i64)))],.st [.sl 3 (.im (.int .i64))],.st [.sl 163 (.im ty0),.im (.int .i64),.im (.int .i64)],.st [.sl 165 (.im ty1),.im (.int .i64)]])]),.im (.int .i64),.im (.int .i64),.im (.int .i64)]),nodes,0,true⟩,⟨4,(.im .bool),links,0,true⟩,⟨138,(.st [.im (.int .i64),.im (.int .i64),.im (.int .i64),.im (.int .i64),.im (.int .i64),.sl 80 (.st [.im (.int .i64),.im (.int .i64),.im (.int .i64),(.st [.st [.sl 34 (.sl 3 (.im (.int .i64)))],.st [.sl 3 (.im (.int .i64))],.st [.sl 163 (.im ty2),.im (.int .i64),.im (.int .i64)],.st [.sl 165 (.im ty3),.im (.int .i64)]])])]),words,0,true⟩,⟨31,(.sl 34 (.sl 3 (.im (.int .i64)))),past,0,true⟩]⟩=>guardTy ty0 TPr (guardTy ty1 TPr (guardTy ty2 TPr (guardTy ty3 TPr (some (0<=k0/\k0+6*((totL TNode nodes+totL .bool links+totL TWord words+totL (.sl (.sl (.int .i64))) past:Nat):Int)<=1099511627776,.int .i64 (walkD (markD (.sl (.sl .int))) past (walkD (markD mWd) words (walkD (markD .bool) links (walkD (markD mNd) nodes k0).2).2).2).2,St.mk [] [] [⟨77,ONode,(walkD (markD mNd) nodes k0).1,0,true⟩,⟨4,(.im .bool),(walkD (markD .bool) links (walkD (markD mNd) nodes k0).2).1,0,true⟩,⟨138,OWord,(walkD (markD mWd) words (walkD (markD .bool) links (walkD (markD mNd) nodes k0).2).2).1,0,true⟩,⟨31,(.sl 34 (.sl 3 (.im (.int .i64)))),(walkD (markD (.sl (.sl .int))) past (walkD (markD mWd) words (walkD (markD .bool) links (walkD (markD mNd) nodes k0).2).2).2).1,0,true⟩])))))
 | _,_=>none
theorem markNet_ok:Ok0 prog 25 markNet_get:=by
 intro _ _ _ _ _ h hp;unfold markNet_get at h;split at h
 · rename_i k0 _ _ nodes links _ _ words past;replace h:=gT4 h;obtain⟨rfl,rfl,rfl,rfl,h⟩:=h;cases h;refine fz [markNodeS_con,markBoolS_con,markWordS_con,markIntSSS_con] func25 ?_;apply VC.thru (markNet_vc nodes links words past k0 hp);kernel_rfl
 · cases h
def markNet_con:Con prog:=.f0 25 [.lend,.d] true markNet_get (en func25 rfl) markNet_ok
abbrev hB (l:List Dat) (k0:Int) (x:Nat):Int:=(walkD (markD (.sl .int)) (p3 l x 0) (hA l k0 x)).2
abbrev hC (l:List Dat) (k0:Int) (x:Nat):Int:=(walkD (markD .int) (p3 l x 1) (hB l k0 x)).2
abbrev hD (l:List Dat) (k0:Int) (x:Nat):Int:=(walkD (markD mPr) (p3 l x 2) (hC l k0 x)).2
abbrev hE (l:List Dat) (k0:Int) (x:Nat):Int:=IntKind.i64.wrap (IntKind.i64.wrap (hD l k0 x+1)+1)
abbrev hF (l:List Dat) (k0:Int) (x:Nat):Int:=(walkD (markD mPr) (p3 l x 3) (hE l k0 x)).2
theorem mb_le {m:MK} {e:Ty} (h:Mb m e) (l:List Dat) (k:Int) (i:Nat):uptoD (markD m) l k i<=(walkD (markD m) l k).2:=by
 have h2:=walkD_append (markD m) (l.take i) (l.drop i) k;rw[List.take_append_drop] at h2;rw[h2];exact (mb_sum h (l.drop i) _).1
def Mi (m:MK):Prop:=∀d k,markD m (markD m d k).1 k=markD m d k
theorem mi_list {m:MK} (h:Mi m):∀(l:List Dat) (k:Int),walkD (markD m) (walkD (markD m) l k).1 k=walkD (markD m) l k
 | [],_=>rfl
 | d::l,k=>by simp only[walkD,h d k,mi_list h l]
theorem mi_int:Mi .int:=fun _ _=>rfl
theorem mi_sl {m:MK} (h:Mi m):Mi (.sl m):=fun d k=>by
 have h2:=mi_list h d.kids k;have h3:markD (.sl m) (markD (.sl m) d k).1 k=(.node (walkD (markD m) (walkD (markD m) d.kids k).1 k).1,(walkD (markD m) (walkD (markD m) d.kids k).1 k).2):=rfl;rw[h3,h2];rfl
theorem mi_pr:Mi mPr:=fun _ _=>rfl
theorem mi_ent:Mi mEnt:=fun d k=>by
 have h3:=mi_list (mi_sl mi_int) (((d.f 3).f 0).f 0).kids (k+1+1+1);have h4:=mi_list mi_int (((d.f 3).f 1).f 0).kids ((walkD (markD (.sl .int)) (((d.f 3).f 0).f 0).kids (k+1+1+1)).2);have h5:=mi_list mi_pr (((d.f 3).f 2).f 0).kids ((walkD (markD .int) (((d.f 3).f 1).f 0).kids ((walkD (markD (.sl .int)) (((d.f 3).f 0).f 0).kids (k+1+1+1)).2)).2);have h8:=mi_list mi_pr (((d.f 3).f 3).f 0).kids ((walkD (markD mPr) (((d.f 3).f 2).f 0).kids ((walkD (markD .int) (((d.f 3).f 1).f 0).kids ((walkD (markD (.sl .int)) (((d.f 3).f 0).f 0).kids (k+1+1+1)).2)).2)).2+1+1);have e:markD mEnt (markD mEnt d k).1 k=(.node [.int (k),.int (k+1),.int (k+1+1),.node [.node [.node (walkD (markD (.sl .int)) (walkD (markD (.sl .int)) (((d.f 3).f 0).f 0).kids (k+1+1+1)).1 (k+1+1+1)).1],.node [.node (walkD (markD .int) (walkD (markD .int) (((d.f 3).f 1).f 0).kids ((walkD (markD (.sl .int)) (((d.f 3).f 0).f 0).kids (k+1+1+1)).2)).1 ((walkD (markD (.sl .int)) (walkD (markD (.sl .int)) (((d.f 3).f 0).f 0).kids (k+1+1+1)).1 (k+1+1+1)).2)).1],.node [.node (walkD (markD mPr) (walkD (markD mPr) (((d.f 3).f 2).f 0).kids ((walkD (markD .int) (((d.f 3).f 1).f 0).kids ((walkD (markD (.sl .int)) (((d.f 3).f 0).f 0).kids (k+1+1+1)).2)).2)).1 ((walkD (markD .int) (walkD (markD .int) (((d.f 3).f 1).f 0).kids ((walkD (markD (.sl .int)) (((d.f 3).f 0).f 0).kids (k+1+1+1)).2)).1 ((walkD (markD (.sl .int)) (walkD (markD (.sl .int)) (((d.f 3).f 0).f 0).kids (k+1+1+1)).1 (k+1+1+1)).2)).2)).1,.int ((walkD (markD mPr) (walkD (markD mPr) (((d.f 3).f 2).f 0).kids ((walkD (markD .int) (((d.f 3).f 1).f 0).kids ((walkD (markD (.sl .int)) (((d.f 3).f 0).f 0).kids (k+1+1+1)).2)).2)).1 ((walkD (markD .int) (walkD (markD .int) (((d.f 3).f 1).f 0).kids ((walkD (markD (.sl .int)) (((d.f 3).f 0).f 0).kids (k+1+1+1)).2)).1 ((walkD (markD (.sl .int)) (walkD (markD (.sl .int)) (((d.f 3).f 0).f 0).kids (k+1+1+1)).1 (k+1+1+1)).2)).2)).2),.int ((walkD (markD mPr) (walkD (markD mPr) (((d.f 3).f 2).f 0).kids ((walkD (markD .int) (((d.f 3).f 1).f 0).kids ((walkD (markD (.sl .int)) (((d.f 3).f 0).f 0).kids (k+1+1+1)).2)).2)).1 ((walkD (markD .int) (walkD (markD .int) (((d.f 3).f 1).f 0).kids ((walkD (markD (.sl .int)) (((d.f 3).f 0).f 0).kids (k+1+1+1)).2)).1 ((walkD (markD (.sl .int)) (walkD (markD (.sl .int)) (((d.f 3).f 0).f 0).kids (k+1+1+1)).1 (k+1+1+1)).2)).2)).2+1)],.node [.node (walkD (markD mPr) (walkD (markD mPr) (((d.f 3).f 3).f 0).kids ((walkD (markD mPr) (((d.f 3).f 2).f 0).kids ((walkD (markD .int) (((d.f 3).f 1).f 0).kids ((walkD (markD (.sl .int)) (((d.f 3).f 0).f 0).kids (k+1+1+1)).2)).2)).2+1+1)).1 ((walkD (markD mPr) (walkD (markD mPr) (((d.f 3).f 2).f 0).kids ((walkD (markD .int) (((d.f 3).f 1).f 0).kids ((walkD (markD (.sl .int)) (((d.f 3).f 0).f 0).kids (k+1+1+1)).2)).2)).1 ((walkD (markD .int) (walkD (markD .int) (((d.f 3).f 1).f 0).kids ((walkD (markD (.sl .int)) (((d.f 3).f 0).f 0).kids (k+1+1+1)).2)).1 ((walkD (markD (.sl .int)) (walkD (markD (.sl .int)) (((d.f 3).f 0).f 0).kids (k+1+1+1)).1 (k+1+1+1)).2)).2)).2+1+1)).1,.int ((walkD (markD mPr) (walkD (markD mPr) (((d.f 3).f 3).f 0).kids ((walkD (markD mPr) (((d.f 3).f 2).f 0).kids ((walkD (markD .int) (((d.f 3).f 1).f 0).kids ((walkD (markD (.sl .int)) (((d.f 3).f 0).f 0).kids (k+1+1+1)).2)).2)).2+1+1)).1 ((walkD (markD mPr) (walkD (markD mPr) (((d.f 3).f 2).f 0).kids ((walkD (markD .int) (((d.f 3).f 1).f 0).kids ((walkD (markD (.sl .int)) (((d.f 3).f 0).f 0).kids (k+1+1+1)).2)).2)).1 ((walkD (markD .int) (walkD (markD .int) (((d.f 3).f 1).f 0).kids ((walkD (markD (.sl .int)) (((d.f 3).f 0).f 0).kids (k+1+1+1)).2)).1 ((walkD (markD (.sl .int)) (walkD (markD (.sl .int)) (((d.f 3).f 0).f 0).kids (k+1+1+1)).1 (k+1+1+1)).2)).2)).2+1+1)).2)]]],(walkD (markD mPr) (walkD (markD mPr) (((d.f 3).f 3).f 0).kids ((walkD (markD mPr) (((d.f 3).f 2).f 0).kids ((walkD (markD .int) (((d.f 3).f 1).f 0).kids ((walkD (markD (.sl .int)) (((d.f 3).f 0).f 0).kids (k+1+1+1)).2)).2)).2+1+1)).1 ((walkD (markD mPr) (walkD (markD mPr) (((d.f 3).f 2).f 0).kids ((walkD (markD .int) (((d.f 3).f 1).f 0).kids ((walkD (markD (.sl .int)) (((d.f 3).f 0).f 0).kids (k+1+1+1)).2)).2)).1 ((walkD (markD .int) (walkD (markD .int) (((d.f 3).f 1).f 0).kids ((walkD (markD (.sl .int)) (((d.f 3).f 0).f 0).kids (k+1+1+1)).2)).1 ((walkD (markD (.sl .int)) (walkD (markD (.sl .int)) (((d.f 3).f 0).f 0).kids (k+1+1+1)).1 (k+1+1+1)).2)).2)).2+1+1)).2+1):=rfl
 rw[e];simp only[h3,h4,h5,h8];rfl
theorem heldIntS_vc (l:List Dat) (k0:Int) (hp:0<=k0/\(walkD (markD .int) l k0).1=l/\(walkD (markD .int) l k0).2<=1099511627776) :
 WFl (Ty.int i64) l->I64 k0->(∃x:Nat,x<=l.length/\l=l/\k0=uptoD (markD MK.int) l k0 x/\0=(x:Int))/\∀x:Nat,x<=l.length->I64 (l.length:Int)->(decide ((x:Int)<(l.length:Int))->(0<=(x:Int)/\(x:Int)<(l.length:Int))/\(I64 (l.getD x default).toInt->(decide ((l.getD x default).toInt≠uptoD (markD MK.int) l k0 x)->(-1:Int)=(walkD (markD MK.int) l k0).snd)/\(decide ((l.getD x default).toInt≠uptoD (markD
 MK.int) l k0 x)=false->∃x_1:Nat,(x_1<=l.length/\l.length-x_1<l.length-x)/\l=l/\i64.wrap (uptoD (markD MK.int) l k0 x+1)=uptoD (markD MK.int) l k0 x_1/\i64.wrap ((x:Int)+1)=(x_1:Int))))/\(decide ((x:Int)<(l.length:Int))=false->uptoD (markD MK.int) l k0 x=(walkD (markD MK.int) l k0).snd):=by
 intro hw _;simp only[iv,kv,fv,nm];have hl1:=hw.1;refine⟨⟨0,by omega,rfl,rfl⟩,fun x hx _=>⟨fun hlt=>?_,fun hlt=>uptoD_all _ _ (by omega)⟩⟩;have hxl:x<l.length:=by omega
 have hM:=walkD_at (markD .int) hp.2.1 hxl;have hN2:=uptoD_next (markD .int) k0 hxl;have hB:=mb_upto mb_int (l:=l) (k:=k0) hx;have hC:=mb_le mb_int l k0 (x+1);have hP:=hp.2.2;generalize l.getD x default=d at hM hN2 ⊢;generalize uptoD (markD .int) l k0 x=u at hB hM hN2 ⊢;have hN2:uptoD (markD .int) l k0 (x+1)=u+1:=hN2;have g0:d.toInt=u:=(congrArg (fun z=>z.toInt) hM).symm;have w0:IntKind.i64.wrap (u+1)=u+1:=wrap_ok (by omega) (by omega);simp only[w0];refine⟨⟨by omega,by omega⟩,fun _=>⟨fun h=>absurd g0 h,fun _=>?_⟩⟩;exact⟨x+1,⟨by omega,by omega⟩,hN2.symm,up_ok (n:=l.length) hxl (by omega)⟩
def heldIntS_get:List SV->St->Option Got
 | [.sl (.int .i64) l,.int .i64 k0],⟨[],[],[]⟩=>some (0<=k0/\(walkD (markD .int) l k0).1=l/\(walkD (markD .int) l k0).2<=1099511627776,.int .i64 (walkD (markD .int) l k0).2,St.mk [] [] [])
 | _,_=>none
theorem heldIntS_ok:Ok0 prog 28 heldIntS_get:=by
 intro _ _ _ _ _ h hp;unfold heldIntS_get at h;split at h
 · rename_i l k0;cases h;refine fl [] (fun k=>bif Nat.beq k 2 then some (.g (⟨Nat,fun s g=>hd s [0] [(1,.int .i64 (uptoD (markD .int) l k0 g)),(5,.int .i64 g)] s.rw,fun _ g=>g<=l.length,fun g=>l.length-g⟩)) else none) func28 ?_;apply VC.thru (heldIntS_vc l k0 hp);kernel_rfl
 · cases h
def heldIntS_con:Con prog:=.f0 28 [] true heldIntS_get (en func28 rfl) heldIntS_ok
theorem heldIntSS_vc (l:List Dat) (k0:Int) (hp:0<=k0/\(walkD (markD (.sl .int)) l k0).1=l/\(walkD (markD (.sl .int)) l k0).2<=1099511627776) :
 WFl (Ty.int i64).sl l->I64 k0->(∃x:Nat,x<=l.length/\l=l/\k0=uptoD (markD MK.int.sl) l k0 x/\0=(x:Int))/\∀x:Nat,x<=l.length->I64 (l.length:Int)->(decide ((x:Int)<(l.length:Int))->(0<=(x:Int)/\(x:Int)<(l.length:Int))/\(0<=uptoD (markD MK.int.sl) l k0 x/\(walkD (markD MK.int) (l.getD x default).kids (uptoD (markD MK.int.sl) l k0 x)).fst=(l.getD x default).kids/\(walkD (markD MK.int) (l.getD x
 default).kids (uptoD (markD MK.int.sl) l k0 x)).snd<=(1099511627776:Int))/\(decide ((walkD (markD MK.int) (l.getD x default).kids (uptoD (markD MK.int.sl) l k0 x)).snd<(0:Int))->(-1:Int)=(walkD (markD MK.int.sl) l k0).snd)/\(decide ((walkD (markD MK.int) (l.getD x default).kids (uptoD (markD MK.int.sl) l k0 x)).snd<(0:Int))=false->∃x_1:Nat,(x_1<=l.length/\l.length-x_1<l.length-x)/\l=l/\(walkD
 (markD MK.int) (l.getD x default).kids (uptoD (markD MK.int.sl) l k0 x)).snd=uptoD (markD MK.int.sl) l k0 x_1/\i64.wrap ((x:Int)+1)=(x_1:Int)))/\(decide ((x:Int)<(l.length:Int))=false->uptoD (markD MK.int.sl) l k0 x=(walkD (markD MK.int.sl) l k0).snd):=by
 intro hw _;simp only[iv,kv,fv,nm];have hl1:=hw.1;refine⟨⟨0,by omega,rfl,rfl⟩,fun x hx _=>⟨fun hlt=>?_,fun hlt=>uptoD_all _ _ (by omega)⟩⟩;have hxl:x<l.length:=by omega
 have hM:=walkD_at (markD (.sl .int)) hp.2.1 hxl;have hN2:=uptoD_next (markD (.sl .int)) k0 hxl;have hB:=mb_upto (mb_sl mb_int) (l:=l) (k:=k0) hx;have hC:=mb_le (mb_sl mb_int) l k0 (x+1);have hP:=hp.2.2;generalize l.getD x default=d at hM hN2 ⊢;generalize uptoD (markD (.sl .int)) l k0 x=u at hB hM hN2 ⊢;have hN2:uptoD (markD (.sl .int)) l k0 (x+1)=(walkD (markD .int) d.kids (u)).2:=hN2;have b0:=mb_list (mb_int) (l:=d.kids) (k:=u);have g0:(walkD (markD .int) d.kids (u)).1=d.kids:=congrArg (fun z=>z.kids) hM;refine⟨⟨by omega,by omega⟩,⟨by omega,g0,by omega⟩,fun h=>by omega,fun _=>?_⟩;exact⟨x+1,⟨by omega,by omega⟩,hN2.symm,up_ok (n:=l.length) hxl (by omega)⟩
def heldIntSS_get:List SV->St->Option Got
 | [.sl (.sl (.int .i64)) l,.int .i64 k0],⟨[],[],[]⟩=>some (0<=k0/\(walkD (markD (.sl .int)) l k0).1=l/\(walkD (markD (.sl .int)) l k0).2<=1099511627776,.int .i64 (walkD (markD (.sl .int)) l k0).2,St.mk [] [] [])
 | _,_=>none
theorem heldIntSS_ok:Ok0 prog 79 heldIntSS_get:=by
 intro _ _ _ _ _ h hp;unfold heldIntSS_get at h;split at h
 · rename_i l k0;cases h;refine fl [heldIntS_con] (fun k=>bif Nat.beq k 2 then some (.g (⟨Nat,fun s g=>hd s [0] [(1,.int .i64 (uptoD (markD (.sl .int)) l k0 g)),(5,.int .i64 g)] s.rw,fun _ g=>g<=l.length,fun g=>l.length-g⟩)) else none) func79 ?_;apply VC.thru (heldIntSS_vc l k0 hp);kernel_rfl
 · cases h
def heldIntSS_con:Con prog:=.f0 79 [] false heldIntSS_get (en func79 rfl) heldIntSS_ok
theorem heldPairS_vc (l:List Dat) (k0:Int) (hp:0<=k0/\(walkD (markD mPr) l k0).1=l/\(walkD (markD mPr) l k0).2<=1099511627776) :
 WFl TPr l->I64 k0->(∃x:Nat,x<=l.length/\l=l/\k0=uptoD (markD mPr) l k0 x/\0=(x:Int))/\∀x:Nat,x<=l.length->I64 (l.length:Int)->(decide ((x:Int)<(l.length:Int))->(0<=(x:Int)/\(x:Int)<(l.length:Int))/\(I64 ((l.getD x default).f 0).toInt->(decide (((l.getD x default).f 0).toInt≠uptoD (markD mPr) l k0 x)->(-1:Int)=(walkD (markD mPr) l k0).snd)/\(decide (((l.getD x default).f 0).toInt≠uptoD (markD mPr)
 l k0 x)=false->(0<=(x:Int)/\(x:Int)<(l.length:Int))/\(I64 ((l.getD x default).f 1).toInt->(decide (((l.getD x default).f 1).toInt≠i64.wrap (uptoD (markD mPr) l k0 x+1))->(-1:Int)=(walkD (markD mPr) l k0).snd)/\(decide (((l.getD x default).f 1).toInt≠i64.wrap (uptoD (markD mPr) l k0 x+1))=false->∃x_1:Nat,(x_1<=l.length/\l.length-x_1<l.length-x)/\l=l/\i64.wrap (i64.wrap (uptoD (markD mPr) l k0
 x+1)+1)=uptoD (markD mPr) l k0 x_1/\i64.wrap ((x:Int)+1)=(x_1:Int))))))/\(decide ((x:Int)<(l.length:Int))=false->uptoD (markD mPr) l k0 x=(walkD (markD mPr) l k0).snd):=by
 intro hw _;simp only[iv,kv,fv,nm];have hl1:=hw.1;refine⟨⟨0,by omega,rfl,rfl⟩,fun x hx _=>⟨fun hlt=>?_,fun hlt=>uptoD_all _ _ (by omega)⟩⟩;have hxl:x<l.length:=by omega
 have hM:=walkD_at (markD mPr) hp.2.1 hxl;have hN2:=uptoD_next (markD mPr) k0 hxl;have hB:=mb_upto mb_pr (l:=l) (k:=k0) hx;have hC:=mb_le mb_pr l k0 (x+1);have hP:=hp.2.2;generalize l.getD x default=d at hM hN2 ⊢;generalize uptoD (markD mPr) l k0 x=u at hB hM hN2 ⊢;have hN2:uptoD (markD mPr) l k0 (x+1)=u+1+1:=hN2;have g0:(d.f 0).toInt=u:=(congrArg (fun z=>(z.f 0).toInt) hM).symm;have w0:IntKind.i64.wrap (u+1)=u+1:=wrap_ok (by omega) (by omega);simp only[w0];refine⟨⟨by omega,by omega⟩,fun _=>⟨fun h=>absurd g0 h,fun _=>?_⟩⟩;have g1:(d.f 1).toInt=u+1:=(congrArg (fun z=>(z.f 1).toInt) hM).symm;have w1:IntKind.i64.wrap (u+1+1)=u+1+1:=wrap_ok (by omega) (by omega)
 simp only[w1];refine⟨⟨by omega,by omega⟩,fun _=>⟨fun h=>absurd g1 h,fun _=>?_⟩⟩;exact⟨x+1,⟨by omega,by omega⟩,hN2.symm,up_ok (n:=l.length) hxl (by omega)⟩
def heldPairS_get:List SV->St->Option Got
 | [.sl ty0 l,.int .i64 k0],⟨[],[],[]⟩=>guardTy ty0 TPr (some (0<=k0/\(walkD (markD mPr) l k0).1=l/\(walkD (markD mPr) l k0).2<=1099511627776,.int .i64 (walkD (markD mPr) l k0).2,St.mk [] [] []))
 | _,_=>none
theorem heldPairS_ok:Ok0 prog 80 heldPairS_get:=by
 intro _ _ _ _ _ h hp;unfold heldPairS_get at h;split at h
 · rename_i l k0;replace h:=gT h;obtain⟨rfl,h⟩:=h;cases h;refine fl [] (fun k=>bif Nat.beq k 2 then some (.g (⟨Nat,fun s g=>hd s [0] [(1,.int .i64 (uptoD (markD mPr) l k0 g)),(5,.int .i64 g)] s.rw,fun _ g=>g<=l.length,fun g=>l.length-g⟩)) else none) func80 ?_;apply VC.thru (heldPairS_vc l k0 hp);kernel_rfl
 · cases h
def heldPairS_con:Con prog:=.f0 80 [] true heldPairS_get (en func80 rfl) heldPairS_ok
theorem heldKnotS_vc (l:List Dat) (k0:Int) (hp:0<=k0/\(walkD (markD mPr) l k0).1=l/\(walkD (markD mPr) l k0).2<=1099511627776) :
 WFl TPr l->I64 k0->(∃x:Nat,x<=l.length/\l=l/\k0=uptoD (markD mPr) l k0 x/\0=(x:Int))/\∀x:Nat,x<=l.length->I64 (l.length:Int)->(decide ((x:Int)<(l.length:Int))->(0<=(x:Int)/\(x:Int)<(l.length:Int))/\(I64 ((l.getD x default).f 0).toInt->(decide (((l.getD x default).f 0).toInt≠uptoD (markD mPr) l k0 x)->(-1:Int)=(walkD (markD mPr) l k0).snd)/\(decide (((l.getD x default).f 0).toInt≠uptoD (markD mPr)
 l k0 x)=false->(0<=(x:Int)/\(x:Int)<(l.length:Int))/\(I64 ((l.getD x default).f 1).toInt->(decide (((l.getD x default).f 1).toInt≠i64.wrap (uptoD (markD mPr) l k0 x+1))->(-1:Int)=(walkD (markD mPr) l k0).snd)/\(decide (((l.getD x default).f 1).toInt≠i64.wrap (uptoD (markD mPr) l k0 x+1))=false->∃x_1:Nat,(x_1<=l.length/\l.length-x_1<l.length-x)/\l=l/\i64.wrap (i64.wrap (uptoD (markD mPr) l k0
 x+1)+1)=uptoD (markD mPr) l k0 x_1/\i64.wrap ((x:Int)+1)=(x_1:Int))))))/\(decide ((x:Int)<(l.length:Int))=false->uptoD (markD mPr) l k0 x=(walkD (markD mPr) l k0).snd):=by
 intro hw _;simp only[iv,kv,fv,nm];have hl1:=hw.1;refine⟨⟨0,by omega,rfl,rfl⟩,fun x hx _=>⟨fun hlt=>?_,fun hlt=>uptoD_all _ _ (by omega)⟩⟩;have hxl:x<l.length:=by omega
 have hM:=walkD_at (markD mPr) hp.2.1 hxl;have hN2:=uptoD_next (markD mPr) k0 hxl;have hB:=mb_upto mb_pr (l:=l) (k:=k0) hx;have hC:=mb_le mb_pr l k0 (x+1);have hP:=hp.2.2;generalize l.getD x default=d at hM hN2 ⊢;generalize uptoD (markD mPr) l k0 x=u at hB hM hN2 ⊢;have hN2:uptoD (markD mPr) l k0 (x+1)=u+1+1:=hN2;have g0:(d.f 0).toInt=u:=(congrArg (fun z=>(z.f 0).toInt) hM).symm;have w0:IntKind.i64.wrap (u+1)=u+1:=wrap_ok (by omega) (by omega);simp only[w0];refine⟨⟨by omega,by omega⟩,fun _=>⟨fun h=>absurd g0 h,fun _=>?_⟩⟩;have g1:(d.f 1).toInt=u+1:=(congrArg (fun z=>(z.f 1).toInt) hM).symm;have w1:IntKind.i64.wrap (u+1+1)=u+1+1:=wrap_ok (by omega) (by omega)
 simp only[w1];refine⟨⟨by omega,by omega⟩,fun _=>⟨fun h=>absurd g1 h,fun _=>?_⟩⟩;exact⟨x+1,⟨by omega,by omega⟩,hN2.symm,up_ok (n:=l.length) hxl (by omega)⟩
def heldKnotS_get:List SV->St->Option Got
 | [.sl ty0 l,.int .i64 k0],⟨[],[],[]⟩=>guardTy ty0 TPr (some (0<=k0/\(walkD (markD mPr) l k0).1=l/\(walkD (markD mPr) l k0).2<=1099511627776,.int .i64 (walkD (markD mPr) l k0).2,St.mk [] [] []))
 | _,_=>none
theorem heldKnotS_ok:Ok0 prog 81 heldKnotS_get:=by
 intro _ _ _ _ _ h hp;unfold heldKnotS_get at h;split at h
 · rename_i l k0;replace h:=gT h;obtain⟨rfl,h⟩:=h;cases h;refine fl [] (fun k=>bif Nat.beq k 2 then some (.g (⟨Nat,fun s g=>hd s [0] [(1,.int .i64 (uptoD (markD mPr) l k0 g)),(5,.int .i64 g)] s.rw,fun _ g=>g<=l.length,fun g=>l.length-g⟩)) else none) func81 ?_;apply VC.thru (heldKnotS_vc l k0 hp);kernel_rfl
 · cases h
def heldKnotS_con:Con prog:=.f0 81 [] true heldKnotS_get (en func81 rfl) heldKnotS_ok
theorem heldEntryS_vc (l:List Dat) (k0:Int) (hp:0<=k0/\(walkD (markD mEnt) l k0).1=l/\(walkD (markD mEnt) l k0).2<=1099511627776) :
 WFl TEnt l->I64 k0->(∃x:Nat,x<=l.length/\l=l/\k0=uptoD (markD mEnt) l k0 x/\0=(x:Int))/\∀x:Nat,x<=l.length->I64 (l.length:Int)->(decide ((x:Int)<(l.length:Int))->(0<=(x:Int)/\(x:Int)<(l.length:Int))/\(I64 ((l.getD x default).f 0).toInt->(decide (((l.getD x default).f 0).toInt≠uptoD (markD mEnt) l k0 x)->(-1:Int)=(walkD (markD mEnt) l k0).snd)/\(decide (((l.getD x default).f 0).toInt≠uptoD (markD
 mEnt) l k0 x)=false->(0<=(x:Int)/\(x:Int)<(l.length:Int))/\(I64 ((l.getD x default).f 1).toInt->(decide (((l.getD x default).f 1).toInt≠i64.wrap (uptoD (markD mEnt) l k0 x+1))->(-1:Int)=(walkD (markD mEnt) l k0).snd)/\(decide (((l.getD x default).f 1).toInt≠i64.wrap (uptoD (markD mEnt) l k0 x+1))=false->(0<=(x:Int)/\(x:Int)<(l.length:Int))/\(I64 ((l.getD x default).f 2).toInt->(decide (((l.getD x
 default).f 2).toInt≠i64.wrap (i64.wrap (uptoD (markD mEnt) l k0 x+1)+1))->(-1:Int)=(walkD (markD mEnt) l k0).snd)/\(decide (((l.getD x default).f 2).toInt≠i64.wrap (i64.wrap (uptoD (markD mEnt) l k0 x+1)+1))=false->(0<=(x:Int)/\(x:Int)<(l.length:Int))/\(0<=hA l k0 x/\(walkD (markD MK.int.sl) (p3 l x 0) (hA l k0 x)).fst=(p3 l x 0)/\(hB l k0 x)<=(1099511627776:Int))/\(decide ((hB l k0
 x)<(0:Int))->(-1:Int)=(walkD (markD mEnt) l k0).snd)/\(decide ((hB l k0 x)<(0:Int))=false->(0<=(x:Int)/\(x:Int)<(l.length:Int))/\(0<=(hB l k0 x)/\(walkD (markD MK.int) (p3 l x 1) (hB l k0 x)).fst=(p3 l x 1)/\(hC l k0 x)<=(1099511627776:Int))/\(decide ((hC l k0 x)<(0:Int))->(-1:Int)=(walkD (markD mEnt) l k0).snd)/\(decide ((hC l k0 x)<(0:Int))=false->(0<=(x:Int)/\(x:Int)<(l.length:Int))/\(0<=(hC l
 k0 x)/\(walkD (markD mPr) (p3 l x 2) (hC l k0 x)).fst=(p3 l x 2)/\(hD l k0 x)<=(1099511627776:Int))/\(decide ((hD l k0 x)<(0:Int))->(-1:Int)=(walkD (markD mEnt) l k0).snd)/\(decide ((hD l k0 x)<(0:Int))=false->(0<=(x:Int)/\(x:Int)<(l.length:Int))/\(I64 ((((l.getD x default).f 3).f 2).f 1).toInt->(decide (((((l.getD x default).f 3).f 2).f 1).toInt≠(hD l k0 x))->(-1:Int)=(walkD (markD mEnt) l
 k0).snd)/\(decide (((((l.getD x default).f 3).f 2).f 1).toInt≠(hD l k0 x))=false->(0<=(x:Int)/\(x:Int)<(l.length:Int))/\(I64 ((((l.getD x default).f 3).f 2).f 2).toInt->(decide (((((l.getD x default).f 3).f 2).f 2).toInt≠i64.wrap ((hD l k0 x)+(1:Int)))->(-1:Int)=(walkD (markD mEnt) l k0).snd)/\(decide (((((l.getD x default).f 3).f 2).f 2).toInt≠i64.wrap ((hD l k0
 x)+(1:Int)))=false->(0<=(x:Int)/\(x:Int)<(l.length:Int))/\(0<=hE l k0 x/\(walkD (markD mPr) (p3 l x 3) (hE l k0 x)).fst=(p3 l x 3)/\(hF l k0 x)<=(1099511627776:Int))/\(decide ((hF l k0 x)<(0:Int))->(-1:Int)=(walkD (markD mEnt) l k0).snd)/\(decide ((hF l k0 x)<(0:Int))=false->(0<=(x:Int)/\(x:Int)<(l.length:Int))/\(I64 ((((l.getD x default).f 3).f 3).f 1).toInt->(decide (((((l.getD x default).f 3).f
 3).f 1).toInt≠(hF l k0 x))->(-1:Int)=(walkD (markD mEnt) l k0).snd)/\(decide (((((l.getD x default).f 3).f 3).f 1).toInt≠(hF l k0 x))=false->∃x_1:Nat,(x_1<=l.length/\l.length-x_1<l.length-x)/\l=l/\i64.wrap ((hF l k0 x)+(1:Int))=uptoD (markD mEnt) l k0 x_1/\i64.wrap ((x:Int)+1)=(x_1:Int))))))))))))))))))/\(decide ((x:Int)<(l.length:Int))=false->uptoD (markD mEnt) l k0 x=(walkD (markD mEnt) l
 k0).snd):=by
 intro hw _;simp only[hF,hE,hD,hC,hB,hA,p3];simp only[iv,kv,fv,nm];have hl1:=hw.1;refine⟨⟨0,by omega,rfl,rfl⟩,fun x hx _=>⟨fun hlt=>?_,fun hlt=>uptoD_all _ _ (by omega)⟩⟩;have hxl:x<l.length:=by omega
 have hM:=walkD_at (markD mEnt) hp.2.1 hxl;have hN2:=uptoD_next (markD mEnt) k0 hxl;have hB:=mb_upto mb_ent (l:=l) (k:=k0) hx;have hC:=mb_le mb_ent l k0 (x+1);have hP:=hp.2.2;generalize l.getD x default=d at hM hN2 ⊢;generalize uptoD (markD mEnt) l k0 x=u at hB hM hN2 ⊢;have hN2:uptoD (markD mEnt) l k0 (x+1)=(walkD (markD mPr) (((d.f 3).f 3).f 0).kids ((walkD (markD mPr) (((d.f 3).f 2).f 0).kids ((walkD (markD .int) (((d.f 3).f 1).f 0).kids ((walkD (markD (.sl .int)) (((d.f 3).f 0).f 0).kids (u+1+1+1)).2)).2)).2+1+1)).2+1:=hN2;have b3:=mb_list (mb_sl mb_int) (l:=(((d.f 3).f 0).f 0).kids) (k:=u+1+1+1)
 have b4:=mb_list (mb_int) (l:=(((d.f 3).f 1).f 0).kids) (k:=(walkD (markD (.sl .int)) (((d.f 3).f 0).f 0).kids (u+1+1+1)).2);have b5:=mb_list (mb_pr) (l:=(((d.f 3).f 2).f 0).kids) (k:=(walkD (markD .int) (((d.f 3).f 1).f 0).kids ((walkD (markD (.sl .int)) (((d.f 3).f 0).f 0).kids (u+1+1+1)).2)).2);have b8:=mb_list (mb_pr) (l:=(((d.f 3).f 3).f 0).kids) (k:=(walkD (markD mPr) (((d.f 3).f 2).f 0).kids ((walkD (markD .int) (((d.f 3).f 1).f 0).kids ((walkD (markD (.sl .int)) (((d.f 3).f 0).f 0).kids (u+1+1+1)).2)).2)).2+1+1);have g0:(d.f 0).toInt=u:=(congrArg (fun z=>(z.f 0).toInt) hM).symm;have w0:IntKind.i64.wrap (u+1)=u+1:=wrap_ok (by omega) (by omega)
 simp only[w0];refine⟨⟨by omega,by omega⟩,fun _=>⟨fun h=>absurd g0 h,fun _=>?_⟩⟩;have g1:(d.f 1).toInt=u+1:=(congrArg (fun z=>(z.f 1).toInt) hM).symm;have w1:IntKind.i64.wrap (u+1+1)=u+1+1:=wrap_ok (by omega) (by omega);simp only[w1];refine⟨⟨by omega,by omega⟩,fun _=>⟨fun h=>absurd g1 h,fun _=>?_⟩⟩;have g2:(d.f 2).toInt=u+1+1:=(congrArg (fun z=>(z.f 2).toInt) hM).symm;have w2:IntKind.i64.wrap (u+1+1+1)=u+1+1+1:=wrap_ok (by omega) (by omega);simp only[w2];refine⟨⟨by omega,by omega⟩,fun _=>⟨fun h=>absurd g2 h,fun _=>?_⟩⟩;have g3:(walkD (markD (.sl .int)) (((d.f 3).f 0).f 0).kids (u+1+1+1)).1=(((d.f 3).f 0).f 0).kids:=congrArg (fun z=>(((z.f 3).f 0).f 0).kids) hM
 refine⟨⟨by omega,by omega⟩,⟨by omega,g3,by omega⟩,fun h=>by omega,fun _=>?_⟩;have g4:(walkD (markD .int) (((d.f 3).f 1).f 0).kids ((walkD (markD (.sl .int)) (((d.f 3).f 0).f 0).kids (u+1+1+1)).2)).1=(((d.f 3).f 1).f 0).kids:=congrArg (fun z=>(((z.f 3).f 1).f 0).kids) hM;refine⟨⟨by omega,by omega⟩,⟨by omega,g4,by omega⟩,fun h=>by omega,fun _=>?_⟩;have g5:(walkD (markD mPr) (((d.f 3).f 2).f 0).kids ((walkD (markD .int) (((d.f 3).f 1).f 0).kids ((walkD (markD (.sl .int)) (((d.f 3).f 0).f 0).kids (u+1+1+1)).2)).2)).1=(((d.f 3).f 2).f 0).kids:=congrArg (fun z=>(((z.f 3).f 2).f 0).kids) hM;refine⟨⟨by omega,by omega⟩,⟨by omega,g5,by omega⟩,fun h=>by omega,fun _=>?_⟩
 have g6:(((d.f 3).f 2).f 1).toInt=(walkD (markD mPr) (((d.f 3).f 2).f 0).kids ((walkD (markD .int) (((d.f 3).f 1).f 0).kids ((walkD (markD (.sl .int)) (((d.f 3).f 0).f 0).kids (u+1+1+1)).2)).2)).2:=(congrArg (fun z=>(((z.f 3).f 2).f 1).toInt) hM).symm;have w6:IntKind.i64.wrap ((walkD (markD mPr) (((d.f 3).f 2).f 0).kids ((walkD (markD .int) (((d.f 3).f 1).f 0).kids ((walkD (markD (.sl .int)) (((d.f 3).f 0).f 0).kids (u+1+1+1)).2)).2)).2+1)=(walkD (markD mPr) (((d.f 3).f 2).f 0).kids ((walkD (markD .int) (((d.f 3).f 1).f 0).kids ((walkD (markD (.sl .int)) (((d.f 3).f 0).f 0).kids (u+1+1+1)).2)).2)).2+1:=wrap_ok (by omega) (by omega)
 simp only[w6];refine⟨⟨by omega,by omega⟩,fun _=>⟨fun h=>absurd g6 h,fun _=>?_⟩⟩;have g7:(((d.f 3).f 2).f 2).toInt=(walkD (markD mPr) (((d.f 3).f 2).f 0).kids ((walkD (markD .int) (((d.f 3).f 1).f 0).kids ((walkD (markD (.sl .int)) (((d.f 3).f 0).f 0).kids (u+1+1+1)).2)).2)).2+1:=(congrArg (fun z=>(((z.f 3).f 2).f 2).toInt) hM).symm;have w7:IntKind.i64.wrap ((walkD (markD mPr) (((d.f 3).f 2).f 0).kids ((walkD (markD .int) (((d.f 3).f 1).f 0).kids ((walkD (markD (.sl .int)) (((d.f 3).f 0).f 0).kids (u+1+1+1)).2)).2)).2+1+1)=(walkD (markD mPr) (((d.f 3).f 2).f 0).kids ((walkD (markD .int) (((d.f 3).f 1).f 0).kids ((walkD (markD (.sl .int)) (((d.f 3).f 0).f 0).kids (u+1+1+1)).2)).2)).2+1+1:=wrap_ok (by omega) (by omega)
 simp only[w7];refine⟨⟨by omega,by omega⟩,fun _=>⟨fun h=>absurd g7 h,fun _=>?_⟩⟩;have g8:(walkD (markD mPr) (((d.f 3).f 3).f 0).kids ((walkD (markD mPr) (((d.f 3).f 2).f 0).kids ((walkD (markD .int) (((d.f 3).f 1).f 0).kids ((walkD (markD (.sl .int)) (((d.f 3).f 0).f 0).kids (u+1+1+1)).2)).2)).2+1+1)).1=(((d.f 3).f 3).f 0).kids:=congrArg (fun z=>(((z.f 3).f 3).f 0).kids) hM;refine⟨⟨by omega,by omega⟩,⟨by omega,g8,by omega⟩,fun h=>by omega,fun _=>?_⟩;have g9:(((d.f 3).f 3).f 1).toInt=(walkD (markD mPr) (((d.f 3).f 3).f 0).kids ((walkD (markD mPr) (((d.f 3).f 2).f 0).kids ((walkD (markD .int) (((d.f 3).f 1).f 0).kids ((walkD (markD (.sl .int)) (((d.f 3).f 0).f 0).kids (u+1+1+1)).2)).2)).2+1+1)).2:=(congrArg (fun z=>(((z.f 3).f 3).f 1).toInt) hM).symm
 have w9:IntKind.i64.wrap ((walkD (markD mPr) (((d.f 3).f 3).f 0).kids ((walkD (markD mPr) (((d.f 3).f 2).f 0).kids ((walkD (markD .int) (((d.f 3).f 1).f 0).kids ((walkD (markD (.sl .int)) (((d.f 3).f 0).f 0).kids (u+1+1+1)).2)).2)).2+1+1)).2+1)=(walkD (markD mPr) (((d.f 3).f 3).f 0).kids ((walkD (markD mPr) (((d.f 3).f 2).f 0).kids ((walkD (markD .int) (((d.f 3).f 1).f 0).kids ((walkD (markD (.sl .int)) (((d.f 3).f 0).f 0).kids (u+1+1+1)).2)).2)).2+1+1)).2+1:=wrap_ok (by omega) (by omega);simp only[w9];refine⟨⟨by omega,by omega⟩,fun _=>⟨fun h=>absurd g9 h,fun _=>?_⟩⟩;exact⟨x+1,⟨by omega,by omega⟩,hN2.symm,up_ok (n:=l.length) hxl (by omega)⟩
def heldEntryS_get:List SV->St->Option Got
 | [.sl ty0 l,.int .i64 k0],⟨[],[],[]⟩=>guardTy ty0 TEnt (some (0<=k0/\(walkD (markD mEnt) l k0).1=l/\(walkD (markD mEnt) l k0).2<=1099511627776,.int .i64 (walkD (markD mEnt) l k0).2,St.mk [] [] []))
 | _,_=>none
theorem heldEntryS_ok:Ok0 prog 30 heldEntryS_get:=by
 intro _ _ _ _ _ h hp;unfold heldEntryS_get at h;split at h
 · rename_i l k0;replace h:=gT h;obtain⟨rfl,h⟩:=h;cases h;refine fl [heldIntSS_con,heldIntS_con,heldPairS_con,heldKnotS_con] (fun k=>bif Nat.beq k 2 then some (.g (⟨Nat,fun s g=>hd s [0] [(1,.int .i64 (uptoD (markD mEnt) l k0 g)),(5,.int .i64 g)] s.rw,fun _ g=>g<=l.length,fun g=>l.length-g⟩)) else none) func30 ?_;apply VC.thru (heldEntryS_vc l k0 hp);kernel_rfl
 · cases h
def heldEntryS_con:Con prog:=.f0 30 [] true heldEntryS_get (en func30 rfl) heldEntryS_ok
section
open Go.Shelf
attribute [local go_sem] Oper.semAt_some
def IsInts (n₀:Nat) (W:World) (v:Value) (xs:List Int):Prop:=
 ∃g c,v=.slice g xs.length c/\xs.length<=c/\(xs≠[]->∃b o,g=some ⟨b,o,none⟩/\b<n₀/\∀i x,xs[i]?=some x->W.cell? ⟨b,o+i,none⟩=some (.int .i64 x))
theorem IsInts.below {n₀:Nat} {A B:World} (h:Below n₀ A B) {v:Value} {xs:List Int}:IsInts n₀ A v xs->IsInts n₀ B v xs
 | ⟨g,c,h1,h2,h3⟩=>⟨g,c,h1,h2,fun hne=>by
   obtain⟨b,o,k1,k2,k3⟩:=h3 hne;exact⟨b,o,k1,k2,fun i x hx=>(h.cell (p:=⟨b,o+i,none⟩) k2).trans (k3 i x hx)⟩⟩
theorem IsInts.tail {n₀:Nat} {W:World} {x:Int} {xs:List Int} {b o c':Nat} (hc:xs.length<=c') (hb:b<n₀) (h:∀i y,(x::xs)[i]?=some y->W.cell? ⟨b,o+i,none⟩=some (.int .i64 y)) :
   IsInts n₀ W (.slice (some ⟨b,o+1,none⟩) xs.length c') xs:=by
 refine⟨_,_,rfl,hc,fun hne=>⟨b,o+1,rfl,hb,fun i y hy=>?_⟩⟩
 have:=h (i+1) y (by simpa using hy)
 rw[show o+1+i=o+(i+1) by omega];exact this
theorem IsInts.none {n₀:Nat} {W:World} {g:Option Addr} {xs:List Int} {c:Nat} (h:xs.length=0) (hc:xs.length<=c):IsInts n₀ W (.slice g xs.length c) xs:=
 ⟨_,_,rfl,hc,fun hne=>absurd (List.eq_nil_of_length_eq_zero h) hne⟩
theorem IsInts.empty {n₀:Nat} {W:World} {g:Option Addr} {c:Nat}:IsInts n₀ W (.slice g 0 c) []:=⟨_,_,rfl,Nat.zero_le _,fun h=>absurd rfl h⟩
theorem mem_tail {x:Int} {xs:List Int} (h:∀y∈x::xs,y<64):∀y∈xs,y<64:=fun y hy=>h y (List.mem_cons_of_mem _ hy)
def lenV:Value->Nat
 | .slice _ n _=>n
 | _=>0
def mergeU:List Int->List Int->List Int
 | [],b=>b
 | a,[]=>a
 | x::a,y::b=>if x<y then x::mergeU a (y::b) else if y<x then y::mergeU (x::a) b else x::mergeU a b
theorem mergeU_nil (a:List Int):mergeU a []=a:=by cases a<;>simp [mergeU]
set_option maxHeartbeats 4000000 in
theorem marks1_in (n:Nat) (hn:1<=n) (l A B n₀:Nat) (va vb:Value) (xs ys:List Int) (hxs:∀x∈xs,x<64) (hys:∀y∈ys,y<64) (J Jx:List Int->World->Prop) (hd:∀s W n,J s W->J s (W.drewN n))
   (hY:∀pre x W,J pre W->pre.length<(mergeU xs ys).length->YieldAt Fence.wide (n-1) prog l #[.int .i64 x] W fun e W'=>
     (e=.returned (.bool true)/\J (pre++[x]) W'/\Below n₀ W W')\/(e=.returned (.bool false)/\Jx (pre++[x]) W'))
   (W:World) (hA:W.cell? ⟨A,0,none⟩=some va) (hB:W.cell? ⟨B,0,none⟩=some vb) (ha:IsInts n₀ W va xs) (hb:IsInts n₀ W vb ys) (h0:J [] W) :
   CallsIn Fence.wide n prog 224 #[.func (.yield l) #[] #[],.pointer (some ⟨A,0,none⟩),.pointer (some ⟨B,0,none⟩)] W fun e W'=>(∃v,e=.returned v)/\
     ((∃zs,zs=mergeU xs ys/\J zs W')\/(∃pre,pre <+: mergeU xs ys/\Jx pre W')):=by
 refine callsIn_of_wp func224 rfl trivial ?_ rfl;simp only[Tryz.ntmps224,List.size_toArray,List.length_cons,List.length_nil,Nat.reduceAdd,Nat.reduceSub,Array.replicate_succ,Array.replicate_zero,List.push_toArray,List.append_toArray,List.nil_append,List.cons_append]
 gi_wp2
 gi_quiet (fail)
 gi_wp2
 gi_loopw [4,5] (fun p q wr=>∃(pre r s:List Int),mergeU xs ys=pre++mergeU r s/\IsInts n₀ wr p r/\IsInts n₀ wr q s/\(∀x∈r,x<64)/\(∀y∈s,y<64)/\J pre wr) (fun p q wr=>lenV p+lenV q)
 case atStart=>
   exact⟨[],xs,ys,rfl,ha,hb,hxs,hys,hd _ _ _ h0⟩
 case round=>
   obtain⟨pre,r,s,he,hp,hq,hr64,hs64,hJs⟩:=hrel;obtain⟨g1,c1,rfl,hc1,hp⟩:=hp;obtain⟨g2,c2,rfl,hc2,hq⟩:=hq;cases r with
   | nil=>
     cases s with
     | nil=>
       gi_wp2
       go_end0
       exact⟨⟨_,rfl⟩,.inl ⟨pre,by simp [he,mergeU],hJs⟩⟩
     | cons y s=>
       obtain⟨b2,o2,rfl,hb2,hcell2⟩:=hq (by simp);have hcy:wr.cell? ⟨b2,o2,none⟩=some (.int .i64 y):=hcell2 0 y rfl;have hy64:=hs64 y (List.mem_cons_self ..);have hm:mergeU [] (y::s)=y::mergeU [] s:=by simp [mergeU]
       have hmin:min 64 y=y:=by omega
       obtain⟨fn,tmps,assign,body,hy,hR⟩:=hY pre y wr hJs (by rw[he,hm];simp);simp only[List.length_cons] at hc1 hc2
       gi_wp2
       all_goals clear hY
       all_goals refine hR.mono ?_
       all_goals rintro e W3 (⟨rfl,hJ3,hk3⟩ | ⟨rfl,hJx3⟩)
       all_goals gi_wp2
       all_goals first
         | (refine bodyPost_ret (results_none rfl _ _ _) rfl ?_
            exact⟨⟨_,rfl⟩,.inr ⟨pre++[y],⟨mergeU [] s,by rw[he,hm];simp⟩,hJx3⟩⟩)
         | (go_roundw
            case rel=>exact⟨pre++[y],[],s,by rw[he,hm];simp,IsInts.empty,(by first | exact (IsInts.none (by omega) (by omega)).below hk3 | exact (IsInts.tail (by omega) hb2 hcell2).below hk3),hr64,mem_tail hs64,hJ3⟩
            case measure=>first | (simp [lenV];done) | (simp [lenV];omega))
   | cons x r=>
     cases s with
     | nil=>
       obtain⟨b1,o1,rfl,hb1,hcell1⟩:=hp (by simp);have hcx:wr.cell? ⟨b1,o1,none⟩=some (.int .i64 x):=hcell1 0 x rfl;have hx64:=hr64 x (List.mem_cons_self ..);have hm:mergeU (x::r) []=x::mergeU r []:=by rw[mergeU_nil,mergeU_nil]
       obtain⟨fn,tmps,assign,body,hy,hR⟩:=hY pre x wr hJs (by rw[he,hm];simp);simp only[List.length_cons] at hc1 hc2
       gi_wp2
       all_goals clear hY
       all_goals refine hR.mono ?_
       all_goals rintro e W3 (⟨rfl,hJ3,hk3⟩ | ⟨rfl,hJx3⟩)
       all_goals gi_wp2
       all_goals first
         | (refine bodyPost_ret (results_none rfl _ _ _) rfl ?_
            exact⟨⟨_,rfl⟩,.inr ⟨pre++[x],⟨mergeU r [],by rw[he,hm];simp⟩,hJx3⟩⟩)
         | (go_roundw
            case rel=>exact⟨pre++[x],r,[],by rw[he,hm];simp,(by first | exact (IsInts.none (by omega) (by omega)).below hk3 | exact (IsInts.tail (by omega) hb1 hcell1).below hk3),IsInts.empty,mem_tail hr64,hs64,hJ3⟩
            case measure=>first | (simp [lenV];done) | (simp [lenV];omega))
     | cons y s=>
       obtain⟨b1,o1,rfl,hb1,hcell1⟩:=hp (by simp);have hcx:wr.cell? ⟨b1,o1,none⟩=some (.int .i64 x):=hcell1 0 x rfl;have hx64:=hr64 x (List.mem_cons_self ..);obtain⟨b2,o2,rfl,hb2,hcell2⟩:=hq (by simp);have hcy:wr.cell? ⟨b2,o2,none⟩=some (.int .i64 y):=hcell2 0 y rfl;have hy64:=hs64 y (List.mem_cons_self ..);rcases Int.lt_trichotomy x y with hxy | hxy | hxy
       · have hm:mergeU (x::r) (y::s)=x::mergeU r (y::s):=by rw[mergeU,if_pos hxy]
         have hmin:min x y=x:=by omega
         have hne:¬y=x:=by omega
         obtain⟨fn,tmps,assign,body,hy,hR⟩:=hY pre x wr hJs (by rw[he,hm];simp);simp only[List.length_cons] at hc1 hc2
         gi_wp2
         all_goals clear hY
         all_goals refine hR.mono ?_
         all_goals rintro e W3 (⟨rfl,hJ3,hk3⟩ | ⟨rfl,hJx3⟩)
         all_goals gi_wp2
         all_goals first
           | (refine bodyPost_ret (results_none rfl _ _ _) rfl ?_
              exact⟨⟨_,rfl⟩,.inr ⟨pre++[x],⟨mergeU r (y::s),by rw[he,hm];simp⟩,hJx3⟩⟩)
           | (go_roundw
              case rel=>exact⟨pre++[x],r,y::s,by rw[he,hm];simp,(by first | exact (IsInts.none (by omega) (by omega)).below hk3 | exact (IsInts.tail (by omega) hb1 hcell1).below hk3),IsInts.below hk3 ⟨_,_,rfl,by simpa using hc2,fun _=>⟨b2,o2,rfl,hb2,hcell2⟩⟩,mem_tail hr64,hs64,hJ3⟩
              case measure=>first | (simp [lenV];done) | (simp [lenV];omega))
       · subst hxy;have hm:mergeU (x::r) (x::s)=x::mergeU r s:=by rw[mergeU,if_neg (by omega),if_neg (by omega)]
         have hmin:min x x=x:=by omega
         obtain⟨fn,tmps,assign,body,hy,hR⟩:=hY pre x wr hJs (by rw[he,hm];simp);simp only[List.length_cons] at hc1 hc2
         gi_wp2
         all_goals clear hY
         all_goals refine hR.mono ?_
         all_goals rintro e W3 (⟨rfl,hJ3,hk3⟩ | ⟨rfl,hJx3⟩)
         all_goals gi_wp2
         all_goals first
           | (refine bodyPost_ret (results_none rfl _ _ _) rfl ?_
              exact⟨⟨_,rfl⟩,.inr ⟨pre++[x],⟨mergeU r s,by rw[he,hm];simp⟩,hJx3⟩⟩)
           | (go_roundw
              case rel=>exact⟨pre++[x],r,s,by rw[he,hm];simp,(by first | exact (IsInts.none (by omega) (by omega)).below hk3 | exact (IsInts.tail (by omega) hb1 hcell1).below hk3),(by first | exact (IsInts.none (by omega) (by omega)).below hk3 | exact (IsInts.tail (by omega) hb2 hcell2).below hk3),mem_tail hr64,mem_tail hs64,hJ3⟩
              case measure=>first | (simp [lenV];done) | (simp [lenV];omega))
       · have hm:mergeU (x::r) (y::s)=y::mergeU (x::r) s:=by rw[mergeU,if_neg (by omega),if_pos hxy]
         have hmin:min x y=y:=by omega
         have hne:¬x=y:=by omega
         obtain⟨fn,tmps,assign,body,hy,hR⟩:=hY pre y wr hJs (by rw[he,hm];simp);simp only[List.length_cons] at hc1 hc2
         gi_wp2
         all_goals clear hY
         all_goals refine hR.mono ?_
         all_goals rintro e W3 (⟨rfl,hJ3,hk3⟩ | ⟨rfl,hJx3⟩)
         all_goals gi_wp2
         all_goals first
           | (refine bodyPost_ret (results_none rfl _ _ _) rfl ?_
              exact⟨⟨_,rfl⟩,.inr ⟨pre++[y],⟨mergeU (x::r) s,by rw[he,hm];simp⟩,hJx3⟩⟩)
           | (go_roundw
              case rel=>exact⟨pre++[y],x::r,s,by rw[he,hm];simp,IsInts.below hk3 ⟨_,_,rfl,by simpa using hc1,fun _=>⟨b1,o1,rfl,hb1,hcell1⟩⟩,(by first | exact (IsInts.none (by omega) (by omega)).below hk3 | exact (IsInts.tail (by omega) hb2 hcell2).below hk3),hr64,mem_tail hs64,hJ3⟩
              case measure=>first | (simp [lenV];done) | (simp [lenV];omega))
end
theorem own_null {E:Env} (h:E.bx.length=0) (x:Slot):own E ⟨[],[],[]⟩ x=none:=by
 cases x<;>simp [own,h]
theorem fn_kit {P:Program} {f:FuncId} {ins:List SV} {G:Type} {post:G->Prop} {out:G->SV}
   (h:∀(S:Nat->Prop) (E:Env) (w:World) (vs:List Value),RelVs S E w ins vs->Calls P f vs.toArray w fun e w'=>∃g v,e=.returned v/\post g/\KeepBut (fun _=>False) w w'/\RelV (Grow S w w') E w' (out g) v) :
   Fn P f ins ⟨[],[],[]⟩ G post out (fun _=>⟨[],[],[]⟩):=by
 intro S E w vs _ _ _ hm hv;refine (h S E w vs hv).mono ?_;rintro e w' ⟨g,v,he,hp,hk,hr⟩;have hA:∀b,Grow S w w' b->After S w w' E ⟨[],[],[]⟩ b:=fun b hb=>⟨hb,fun x=>by rw[own_null hm.nbx];exact fun h=>by cases h⟩
 refine⟨g,v,E,he,hp,⟨⟨hk.os,hk.tape,hk.output,hk.size,fun b hb _=>hk.block b hb id⟩,fun _ _ h=>h,fun _ _ h=>h,fun x b hx=>?_,fun j k b r hr=>?_,⟨hm.nbx,hm.nrw,hm.nfp,fun j p b hp=>?_,fun j r v hr=>?_,fun x y b hx=>?_,fun x b hx=>?_⟩⟩,hr.mono (fun _ _=>rfl) hA E.le_refl⟩
 · rw[own_null hm.nbx] at hx;cases hx
 · simp at hr
 · simp at hp
 · simp at hr
 · rw[own_null hm.nbx] at hx;cases hx
 · rw[own_null hm.nbx] at hx;cases hx
theorem fn_kit_own {P:Program} {f:FuncId} {ins:List SV} {tid:TypeId} {e:OT} {ds:List Dat} {out:SV} {wrap:Value->Value} (he:e.isMp=false)
   (hout:∀(S:Nat->Prop) (E:Env) (w:World) (v:Value),RelV S E w (.own 0) v->RelV S E w out (wrap v)) (hlen:ds.length<=140737488355328)
   (h:∀(S:Nat->Prop) (E:Env) (w:World) (vs:List Value),(∀b,S b->b<w.heap.size)->RelVs S E w ins vs->Calls P f vs.toArray w fun x w'=>∃v xs,x=.returned (wrap v)/\KeepBut (fun _=>False) w w'/\ownsAt w' tid e.size v ds.length xs/\(∀(S:Nat->Prop) (H:Nat->Hd),Elems (fun i=>Own S w' e (H i) 0) 0 xs ds [])/\∀b,v.ownBlock=some b->w.heap.size<=b) :
   Fn P f ins ⟨[],[],[]⟩ Unit (fun _=>True) (fun _=>out) (fun _=>⟨[],[],[⟨tid,e,ds,0,false⟩]⟩):=by
 intro S E w vs hS _ _ hm hv;refine (h S E w vs hS hv).mono ?_;rintro x w' ⟨v,xs,he',hk,ho,hel,hb⟩;obtain⟨g,cp,hvs,_⟩:=slice_of_owns ho;have hhead:isHead v:=.inl ⟨_,_,_,hvs⟩;have hown:∀x b,own (Env.mk [] [v] [v.ownBlock.toList] (fun _ _=>v) E.bo E.w0) ⟨[],[],[⟨tid,e,ds,0,false⟩]⟩ x=some b->v.ownBlock=some b/\x=.r 0 0:=by
   intro x b hx;cases x with
   | b j=>simp [own] at hx
   | r j k=>
     cases j with
     | zero=>
       simp only[own,List.getElem?_cons_zero,if_true,Option.bind_some] at hx;cases ho':v.ownBlock with
       | none=>rw[ho'] at hx;simp at hx
       | some b'=>
         rw[ho'] at hx;cases k with
         | zero=>simp at hx;subst hx;exact⟨rfl,rfl⟩
         | succ k=>simp at hx
     | succ j=>simp [own] at hx
 refine⟨(),wrap v,⟨[],[v],[v.ownBlock.toList],fun _ _=>v,E.bo,E.w0⟩,he',trivial,⟨⟨hk.os,hk.tape,hk.output,hk.size,fun b hb _=>hk.block b hb id⟩,fun j b hj=>?_,fun j u hj=>?_,fun x b hx=>.inr (hb b (hown x b hx).1),fun j k b r hr _ hx=>hb b (hown _ b hx).1,⟨rfl,rfl,rfl,fun j p b hp=>?_,fun j r u hr hu=>?_,fun x y b hx hy=>(hown x b hx).2.trans (hown y b hy).2.symm,fun x b hx=>⟨fun hA=>hA.2 x hx,?_⟩⟩⟩,hout _ _ _ _ ⟨rfl,hhead⟩⟩
 · have:=hm.nbx
   rw[List.eq_nil_of_length_eq_zero this] at hj;simp at hj
 · have:=hm.nrw
   rw[List.eq_nil_of_length_eq_zero this] at hj;simp at hj
 · simp at hp
 · cases j with
   | succ j=>simp at hr
   | zero=>
     simp at hr hu;subst hr;subst hu;refine⟨hhead,fun _=>⟨v.ownBlock.toList,rfl,?_⟩,fun h=>by cases h⟩;rw[headT_sl he];exact⟨ds,xs,[],rfl,rfl,ho,hlen,hel _ _,by simp⟩
 · exact ownsAt_lt ho b (hown x b hx).1
theorem fn_kit_row {P:Program} {f:FuncId} {ins:List SV} {tid:TypeId} {e:OT} (he:e.isMp=false)
   (h:∀(S:Nat->Prop) (E:Env) (w:World) (vs:List Value),RelVs S E w ins vs->Calls P f vs.toArray w fun x w'=>∃v,x=.returned v/\KeepBut (fun _=>False) w w'/\ownsAt w' tid e.size v 0 []/\∀b,v.ownBlock=some b->w.heap.size<=b) :
   Fn P f ins ⟨[],[],[]⟩ Unit (fun _=>True) (fun _=>.own 0) (fun _=>⟨[],[],[⟨tid,e,[],0,false⟩]⟩):=
 fn_kit_own (ds:=[]) (wrap:=fun v=>v) he (fun _ _ _ _ h=>h) (by simp) (fun S E w vs _ hv=>(h S E w vs hv).mono (by
   rintro x w' ⟨v,h1,h2,h3,h4⟩;exact⟨v,[],h1,h2,h3,fun _ _=>⟨rfl,rfl⟩,h4⟩))
mutual
def alOk:OT->Bool
 | .im _=>true
 | .ho _ _=>true
 | .st fs=>alOks fs
 | _=>false
def alOks:List OT->Bool
 | []=>true
 | f::fs=>alOk f&&alOks fs
end
mutual
def alD:OT->Dat->Dat
 | .ho _ _,d=>.node [hole,d]
 | .st fs,d=>.node (alDs fs d.kids)
 | _,d=>d
def alDs:List OT->List Dat->List Dat
 | f::fs,d::ds=>alD f d::alDs fs ds
 | _,_=>[]
end
mutual
theorem al_own {S:Nat->Prop} {w:World} {H:Hd}:∀{e:OT} {b:Nat} {cs:List Value} {d:Dat},alOk e=true->Rep S w e.ty cs d->(∀k v,cs[k]?=some v->H (b+k) []=v)->Own S w e H b cs (alD e d) []
 | .im t,b,cs,d,_,h,_=>⟨h,rfl⟩
 | .ho t e,b,cs,d,_,h,hH=>by
   have h2:=h;rw[OT.ty] at h2;obtain⟨a,n,c,ds,h3,h4,_⟩:=h2;subst h3;have h5:H b []=.slice a n c:=hH 0 _ rfl;refine⟨by rw[h5],.inl ⟨.inr ⟨d,rfl,by rw[h5];exact h⟩,⟨_,_,_,h5⟩,rfl⟩⟩
 | .st fs,b,cs,d,ha,h,hH=>by
   rw[OT.ty] at h;obtain⟨ds,rfl,h2⟩:=h;exact⟨alDs fs ds,rfl,als_own ha h2 hH⟩
 | .sl _ _,_,_,_,ha,_,_=>by cases ha
 | .mp _ _,_,_,_,ha,_,_=>by cases ha
theorem als_own {S:Nat->Prop} {w:World} {H:Hd}:∀{fs:List OT} {b:Nat} {cs:List Value} {ds:List Dat},alOks fs=true->Reps S w (OT.tys fs) cs ds->(∀k v,cs[k]?=some v->H (b+k) []=v)->Owns S w fs H b cs (alDs fs ds) []
 | [],b,cs,ds,_,⟨h1,h2⟩,_=>by subst h1;subst h2;exact⟨rfl,rfl,rfl⟩
 | f::fs,b,cs,ds,ha,⟨c1,c2,d1,d2,h1,h2,h3,h4⟩,hH=>by
   subst h1;subst h2;simp only[alOks,Bool.and_eq_true] at ha;have hl:c1.length=f.size:=by rw[h3.length,OT.ty_size]
   refine⟨c1,c2,alD f d1,alDs fs d2,[],[],rfl,rfl,rfl,al_own ha.1 h3 (fun k v hk=>hH k v ?_),als_own ha.2 h4 (fun k v hk=>?_)⟩
   · rw[List.getElem?_append_left (List.getElem?_eq_some_iff.1 hk).1];exact hk
   · rw[<- hl,Nat.add_assoc];refine hH _ v ?_;rw[List.getElem?_append_right (by omega),Nat.add_sub_cancel_left];exact hk
end
theorem elems_al {S:Nat->Prop} {w:World} {e:OT} {Hx H:Nat->Hd} (ha:alOk e=true):∀{ds:List Dat} {k:Nat} {xs:List Value} {F:List Nat},Elems (fun i=>Own S w (.im e.ty) (Hx i) 0) k xs ds F->
   (∀i o v,o<e.size->xs[i*e.size+o]?=some v->H (k+i) o []=v)->F=[]/\Elems (fun i=>Own S w e (H i) 0) k xs (ds.map (alD e)) []
 | [],k,xs,F,⟨h1,h2⟩,_=>⟨h2,h1,rfl⟩
 | d::ds,k,xs,F,⟨x1,x2,F1,F2,h1,h2,⟨h3,h3'⟩,h4⟩,hH=>by
   subst h1;subst h3';have hl:x1.length=e.size:=by rw[h3.length,OT.ty_size]
   obtain⟨h5,h6⟩:=elems_al ha h4 (fun i o v ho hv=>by
     rw[show k+1+i=k+(i+1) from by omega];refine hH (i+1) o v ho ?_;rw[List.getElem?_append_right (by rw[hl,Nat.succ_mul];omega),hl,show (i+1)*e.size+o-e.size=i*e.size+o from by rw[Nat.succ_mul];omega];exact hv)
   refine⟨by rw[h2,h5];rfl,x1,x2,[],[],rfl,rfl,al_own ha h3 (fun o v ho=>?_),h6⟩;have ho':=(List.getElem?_eq_some_iff.1 ho).1;have h7:=hH 0 o v (by omega) (by rw[Nat.zero_mul,Nat.zero_add,List.getElem?_append_left ho'];exact ho);rw[Nat.zero_add];exact h7
theorem fn_alias {P:Program} {f:FuncId} {ins:List SV} {tid:TypeId} {e:OT} {ds:List Dat} (he:e.isMp=false) (ha:alOk e=true)
   (hf:Fn P f ins ⟨[],[],[]⟩ Unit (fun _=>True) (fun _=>.own 0) (fun _=>⟨[],[],[⟨tid,.im e.ty,ds,0,false⟩]⟩)) :
   Fn P f ins ⟨[],[],[]⟩ Unit (fun _=>True) (fun _=>.own 0) (fun _=>⟨[],[],[⟨tid,e,ds.map (alD e),0,false⟩]⟩):=by
 intro S E w vs h1 h2 h3 hm hv;refine (hf S E w vs h1 h2 h3 hm hv).mono ?_;rintro x w' ⟨_,v,E',hx,_,hret,hrel⟩;obtain⟨hrw,hhead⟩:=hrel;obtain⟨_,hrow,_⟩:=hret.mem.rw 0 _ v rfl hrw;obtain⟨F,hF,hown⟩:=hrow rfl;obtain⟨ds',xs,F',k0,k1,k2,k3,k4,k5⟩:=hown;simp at k0 k1;subst k1;have k2':ownsAt w' tid e.size (E'.nh 0 []) ds.length xs:=by
   have:=k2;rw[show (OT.im e.ty).size=e.size from OT.ty_size e] at this;exact this
 let nhA:Nat->Path->Value:=fun j ρ=>match j,ρ with
   | 0,[(i,o)]=>xs.getD (i*e.size+o) undef
   | j,ρ=>E'.nh j ρ
 let E2:Env:=⟨E'.bx,E'.rw,E'.fp,nhA,E'.bo,E'.w0⟩
 have hsame:∀y,own E2 ⟨[],[],[⟨tid,e,ds.map (alD e),0,false⟩]⟩ y=own E' ⟨[],[],[⟨tid,.im e.ty,ds,0,false⟩]⟩ y:=by
   intro y;cases y with
   | b j=>rfl
   | r j k=>
     cases j with
     | zero=>rfl
     | succ j=>rfl
 have hA:After S w w' E2 ⟨[],[],[⟨tid,e,ds.map (alD e),0,false⟩]⟩=After S w w' E' ⟨[],[],[⟨tid,.im e.ty,ds,0,false⟩]⟩:=by
   funext b
   simp only[After,hsame]
 obtain⟨k6,k7⟩:=elems_al (H:=fun i=>Hd.at (fun _=>nhA 0) 0 i) ha k4 (fun i o v ho hv=>by
   show nhA 0 [(0+i,o)]=v;rw[Nat.zero_add];show xs.getD (i*e.size+o) undef=v;rw[List.getD_eq_getElem?_getD,hv];rfl)
 refine⟨(),v,E2,hx,trivial,⟨hret.kept,hret.bx,hret.rw,fun y b hy=>hret.got y b (by rw[<- hsame];exact hy),fun j k b r hr hlt hy=>?_,⟨hret.mem.nbx,hret.mem.nrw,hret.mem.nfp,fun j p b hp=>by simp at hp,fun j r u hr hu=>?_,fun y z b hy hz=>hret.mem.inj y z b (by rw[<- hsame];exact hy) (by rw[<- hsame];exact hz),fun y b hy=>?_⟩⟩,hrw,hhead⟩
 · cases j with
   | succ j=>simp at hr
   | zero=>exact hret.fresh 0 k b ⟨tid,.im e.ty,ds,0,false⟩ rfl rfl (by rw[<- hsame];exact hy)
 · cases j with
   | succ j=>simp at hr
   | zero=>
     simp at hr;subst hr;have hu:E'.rw[0]?=some u:=hu;rw[hrw] at hu;simp at hu;subst hu;refine⟨hhead,fun _=>⟨F,hF,?_⟩,fun h=>by cases h⟩;rw[headT_sl he,hA];refine⟨ds.map (alD e),xs,[],by rw[k0];rfl,rfl,?_,by rw[List.length_map];exact k3,k7,?_⟩
     · rw[List.length_map];exact k2'
     · rw[k5,k6];rfl
 · rw[hA];exact hret.mem.out y b (by rw[<- hsame];exact hy)
theorem elems_nums {S:Nat->Prop} {w:World} {H:Nat->Hd}:∀(zs:List Int) (m:Nat),(∀z∈zs,Has .i64 z)->Elems (fun i=>Own S w (.im (.int .i64)) (H i) 0) m (zs.map (Value.int .i64)) (zs.map Dat.int) []
 | [],_,_=>⟨rfl,rfl⟩
 | z::zs,m,h=>⟨[.int .i64 z],zs.map (Value.int .i64),[],[],rfl,rfl,⟨⟨z,rfl,rfl,h z (List.mem_cons_self ..)⟩,rfl⟩,elems_nums zs (m+1) (fun y hy=>h y (List.mem_cons_of_mem _ hy))⟩
section
open Go.Shelf
attribute [local go_sem] Oper.semAt_some
set_option maxHeartbeats 1000000 in
theorem marksOf_in (n:Nat) (g1 g2:Option Addr) (n1 n2 c1 c2:Nat) (w:World):CallsIn Fence.wide n prog 212 #[.slice g1 n1 c1,.slice g2 n2 c2] w fun e w'=>
   e=.returned (.func (.func 224) #[] #[.pointer (some ⟨w.heap.size,0,none⟩),.pointer (some ⟨w.heap.size+1,0,none⟩)])/\w'=(w.alloc (.cells #[.slice g1 n1 c1] 34)).alloc (.cells #[.slice g2 n2 c2] 34):=by
 refine callsIn_of_wp func212 rfl trivial ?_ rfl;simp only[Tryz.ntmps212,List.size_toArray,List.length_cons,List.length_nil,Nat.reduceAdd,Nat.reduceSub,Array.replicate_succ,Array.replicate_zero,List.push_toArray,List.append_toArray,List.nil_append,List.cons_append]
 gi_wp2
 go_ret
 exact⟨rfl,rfl⟩
theorem marks_stops (n:Nat) (hn:1<=n) (A B n₀:Nat) (va vb:Value) (xs ys:List Int) (hxs:∀x∈xs,x<64) (hys:∀y∈ys,y<64) (w:World) (hAl:A<w.heap.size) (hBl:B<w.heap.size) (hn₀:n₀<=w.heap.size)
   (hA:w.cell? ⟨A,0,none⟩=some va) (hB:w.cell? ⟨B,0,none⟩=some vb) (ha:IsInts n₀ w va xs) (hb:IsInts n₀ w vb ys) :
   SeqStopsK Fence.wide n prog 224 #[.pointer (some ⟨A,0,none⟩),.pointer (some ⟨B,0,none⟩)] (fun x:Int=>#[Value.int .i64 x]) (Below n₀) (fun zs=>zs=mergeU xs ys) (fun pre=>pre <+: mergeU xs ys) (mergeU xs ys).length w:=fun l J Jx W hW hJ _ hY h0=>
 marks1_in n hn l A B n₀ va vb xs ys hxs hys J Jx (fun s W k hs=>hJ s W _ none hs ⟨rfl,rfl,rfl,Nat.le_refl _,fun _ _ _=>rfl⟩ (fun r hr=>by cases hr)) hY W ((hW.cell (p:=⟨A,0,none⟩) hAl).trans hA) ((hW.cell (p:=⟨B,0,none⟩) hBl).trans hB) (ha.below (hW.mono hn₀)) (hb.below (hW.mono hn₀)) h0
theorem info_int:(prog.info? 3).map (fun i=>(i.zero,i.size,i.bytes))=some (some (.int .i64 0),1,8):=by kernel_rfl
set_option maxHeartbeats 4000000 in
theorem least_in (n:Nat) (hn:3<=n) (va vb:Value) (xs ys:List Int) (hxs:∀x∈xs,x<64) (hys:∀y∈ys,y<64) (w:World) (ha:IsInts w.heap.size w va xs) (hb:IsInts w.heap.size w vb ys) :
   CallsIn Fence.wide n prog 187 #[va,vb] w fun e W'=>∃v,e=.returned (.agg #[v])/\W'.ownsRow w.heap.size 3 1 v ((mergeU xs ys).take 6).length (((mergeU xs ys).take 6).map (Value.int .i64))/\Below w.heap.size w W':=by
 obtain⟨g1,c1,rfl,hc1,hp1⟩:=ha;obtain⟨g2,c2,rfl,hc2,hp2⟩:=hb;have h1:1<=n:=by omega
 obtain⟨i0,hi,hz0,hz1,hz2⟩:=info_parts info_int;have hmk:∀W:World,(Instr.makeSlice 34 (.int .i64 0) (.int .i64 6)).run prog W=.ok (.slice (some ⟨W.heap.size,0,none⟩) 0 6) (W.alloc (.cells (madeCells (Value.int .i64 0).cells 6) 3)):=fun W=>by
   have h:=run_makeSlice (P:=prog) W 34 3 i0 (.int .i64 0) Tryz.underlying34 hi hz0 .i64 .i64 0 6 (by omega) (by omega) (by rw[hz1];decide) (by rw[hz2];decide) (by decide);rw[hz1] at h;simpa using h
 refine callsIn_of_wp_marks func187 rfl trivial ?_ rfl;simp only[Tryz.ntmps187,List.size_toArray,List.length_cons,List.length_nil,Nat.reduceAdd,Nat.reduceSub,Array.replicate_succ,Array.replicate_zero,List.push_toArray,List.append_toArray,List.nil_append,List.cons_append]
 gi_wp2_with (refine⟨trivial,?_⟩;gi_at_call 212;refine (marksOf_in (n-1) _ _ _ _ _ _ _).mono ?_;rintro e w' ⟨rfl,rfl⟩)
 obtain⟨O1,hO1⟩:∃O1,Obj.cells (madeCells #[Value.int IntKind.i64 0] 6) 3=O1:=⟨_,rfl⟩;have bR:=(((Boxed.new w 36 (.slice none 0 0)).alloc O1).alloc (.cells #[.slice (some ⟨w.heap.size+1,0,none⟩) 0 6] 34)).alloc (.cells #[.slice g1 xs.length c1] 34);have bR:=bR.alloc (.cells #[.slice g2 ys.length c2] 34);have bK:=((Boxed.new ((w.alloc (.cells #[.slice none 0 0] 36)).alloc O1) 34 (.slice (some ⟨w.heap.size+1,0,none⟩) 0 6)).alloc (.cells #[.slice g1 xs.length c1] 34)).alloc (.cells #[.slice g2 ys.length c2] 34);have bA:=(Boxed.new (((w.alloc (.cells #[.slice none 0 0] 36)).alloc O1).alloc (.cells #[.slice (some ⟨w.heap.size+1,0,none⟩) 0 6] 34)) 34 (.slice g1 xs.length c1)).alloc (.cells #[.slice g2 ys.length c2] 34)
 have bB:=Boxed.new ((((w.alloc (.cells #[.slice none 0 0] 36)).alloc O1).alloc (.cells #[.slice (some ⟨w.heap.size+1,0,none⟩) 0 6] 34)).alloc (.cells #[.slice g1 xs.length c1] 34)) 34 (.slice g2 ys.length c2);have hB0:Below w.heap.size w (((((w.alloc (.cells #[.slice none 0 0] 36)).alloc O1).alloc (.cells #[.slice (some ⟨w.heap.size+1,0,none⟩) 0 6] 34)).alloc (.cells #[.slice g1 xs.length c1] 34)).alloc (.cells #[.slice g2 ys.length c2] 34)):=
   (((((Below.refl _ w).alloc (Nat.le_refl _) _).alloc (by simp) _).alloc (by simp;omega) _).alloc (by simp;omega) _).alloc (by simp;omega) _
 have hrow0:(((((w.alloc (.cells #[.slice none 0 0] 36)).alloc O1).alloc (.cells #[.slice (some ⟨w.heap.size+1,0,none⟩) 0 6] 34)).alloc (.cells #[.slice g1 xs.length c1] 34)).alloc (.cells #[.slice g2 ys.length c2] 34)).ownsRow w.heap.size 3 1 (.slice (some ⟨w.heap.size+1,0,none⟩) 0 6) 0 []:=by
   have hr:((w.alloc (.cells #[.slice none 0 0] 36)).alloc O1).ownsRow w.heap.size 3 1 (.slice (some ⟨w.heap.size+1,0,none⟩) 0 6) 0 []:=
     ⟨rfl,.inr ⟨w.heap.size+1,6,_,rfl,by omega,by rw[<- hO1];simpa using World.alloc_heap_new (w.alloc (.cells #[.slice none 0 0] 36)) (Obj.cells (madeCells #[Value.int IntKind.i64 0] 6) 3),by omega,by decide,by simp [madeCells],rfl⟩⟩
   exact ((hr.alloc _).alloc _).alloc _
 simp only[World.size_alloc] at bK bA bB;rw[hO1];generalize hW0:(((((w.alloc (.cells #[.slice none 0 0] 36)).alloc O1).alloc (.cells #[.slice (some ⟨w.heap.size+1,0,none⟩) 0 6] 34)).alloc (.cells #[.slice g1 xs.length c1] 34)).alloc (.cells #[.slice g2 ys.length c2] 34))=W0 at *
 have hsz:W0.heap.size=w.heap.size+5:=by rw[<- hW0];simp
 clear hW0;have hia:IsInts w.heap.size W0 (.slice g1 xs.length c1) xs:=IsInts.below hB0 ⟨g1,c1,rfl,hc1,hp1⟩;have hib:IsInts w.heap.size W0 (.slice g2 ys.length c2) ys:=IsInts.below hB0 ⟨g2,c2,rfl,hc2,hp2⟩;refine wpIn_rangeFunc_ownG (w0:=W0) rfl h1 (gf:=224) (lb:=#[.pointer (some ⟨w.heap.size+1+1+1,0,none⟩),.pointer (some ⟨w.heap.size+1+1+1+1,0,none⟩)]) rfl trivial (enters_of func224 (by kernel_rfl) rfl)
   (marks_stops (n-1) (by omega) (w.heap.size+1+1+1) (w.heap.size+1+1+1+1) w.heap.size _ _ xs ys hxs hys W0 (by omega) (by omega) (by omega) bA.cell bB.cell hia hib) belowK_t (belowK_b (by omega)) (Below.refl _ _) (fun _=>rfl)
   (fun pre W=>((∃v,Boxed W (w.heap.size+1+1) 34 v/\W.ownsRow w.heap.size 3 1 v pre.length (pre.map (Value.int .i64))/\pre.length<=6)/\Boxed W w.heap.size 36 (.slice none 0 0))/\Below w.heap.size w W)
   (fun c pre W=>(c=.exit 0)/\((∃v,Boxed W (w.heap.size+1+1) 34 v/\W.ownsRow w.heap.size 3 1 v 6 ((pre.take 6).map (Value.int .i64))/\pre.length=7)/\Boxed W w.heap.size 36 (.slice none 0 0))/\Below w.heap.size w W)
   (OwnFrom.and (OwnFrom.and (Own.from (holdsRow_own w.heap.size (w.heap.size+1+1) 34 3 1 (fun (pre:List Int)=>pre.length) (fun (pre:List Int)=>pre.map (Value.int .i64)) (fun (pre:List Int) _=>pre.length<=6)) _) (Own.from (boxed_own w.heap.size 36 (fun (_:List Int)=>.slice none 0 0)) _)) (ownFrom_below (Nat.le_refl _) (by omega)))
   (fun c=>OwnFrom.and (ownFrom_pure _ (fun (_:List Int)=>c=.exit 0)) (OwnFrom.and (OwnFrom.and (Own.from (holdsRow_own w.heap.size (w.heap.size+1+1) 34 3 1 (fun (_:List Int)=>6) (fun (pre:List Int)=>(pre.take 6).map (Value.int .i64)) (fun (pre:List Int) _=>pre.length=7)) _) (Own.from (boxed_own w.heap.size 36 (fun (_:List Int)=>.slice none 0 0)) _)) (ownFrom_below (Nat.le_refl _) (by omega))))
   ⟨⟨⟨_,bK,hrow0,Nat.zero_le _⟩,bR⟩,hB0⟩
   (fun x=>{ tmps:=#[.slice g1 xs.length c1,.slice g2 ys.length c2,undef,undef,.pointer (some ⟨w.heap.size,0,none⟩),.pointer (some ⟨w.heap.size+1+1,0,none⟩),.int .i64 x,.slice (some ⟨w.heap.size+1,0,none⟩) 0 6,.slice g1 xs.length c1,.slice g2 ys.length c2,.func (.func 224) #[] #[.pointer (some ⟨w.heap.size+1+1+1,0,none⟩),.pointer (some ⟨w.heap.size+1+1+1+1,0,none⟩)],.int .i64 x,undef,undef,undef,undef,undef,undef,undef,undef,undef],defers:=[]}) ?assign ?body ?done ?stop
 case assign=>
   intro l x W K hK
   gi_wp2
   exact hK
 case body=>
   rintro l pre x W ⟨⟨⟨v,hv,hrow,h6⟩,hR⟩,hB⟩ hlt;have hc:=hv.cell;obtain⟨gv,cv,rfl⟩:∃gv cv,v=.slice gv pre.length cv:=by
     rcases hrow.2 with ⟨rfl,h0⟩ | ⟨g,cap,_,rfl,_⟩
     · exact⟨none,0,by rw[h0]⟩
     · exact⟨_,cap,rfl⟩
   by_cases he:pre.length=6
   · gi_wp2
     have e:(pre++[x]).take 6=pre:=by rw[<- he];simp
     exact⟨KeepsFrom.refl _ _,rfl,⟨⟨_,hv,by rw[e,<- he];exact hrow,by simp [he]⟩,hR⟩,hB⟩
   · have he2:¬(pre.length:Int)=6:=by omega
     gi_wp2_with (gi_at_builtin;refine wpListIn_append_own _ rfl _ _ 34 rfl w.heap.size 3 i0 (.int .i64 0) 1 8 Tryz.underlying34 hi hz0 hz1 hz2 rfl (by decide) _ _ _ rfl (hrow.alloc _) ⟨W.heap.size,0,none⟩ 1 1 [.int .i64 x] rfl rfl (cell_one_new _ _ _) (by simp [Value.oneCell']) (by simp only[maxLen];omega) (by omega) (by have:=hB.size;simp;omega) ?_;intro v' w1 hown' hgrow _;obtain⟨g',cap',rfl⟩:=ownsRow_succ hown';obtain⟨hv1,hv2,hr2,hk2,hb2⟩:=hv.appended (by decide) hrow hB.size (by omega) hown' hgrow;have hc1:=hv1.cell;have hf1:=hv1.frozen)
     have hR':=((hR.alloc _).kept hgrow (hR.not_row (by decide) hrow)).other (B':=w.heap.size+1+1) (by omega) (.slice (some ⟨g',0,none⟩) (pre.length+1) cap');exact⟨hk2.from _,hb2,⟨⟨⟨_,hv2,by simpa using hr2,by simp;omega⟩,hR'⟩,hB.trans hb2⟩⟩
 case done=>
   rintro D zs W hD rfl ⟨⟨⟨v,hv,hrow,h6⟩,hR⟩,hB⟩ hK;have hc:=hv.cell;clear hO1 bK bA bB hrow0 hB0 hia hib hp1 hp2 hmk bR;obtain⟨gv,nv,cv,rfl⟩:∃gv nv cv,v=.slice gv nv cv:=by
     rcases hrow.2 with ⟨rfl,h0⟩ | ⟨g,cap,_,rfl,_⟩
     · exact⟨none,0,0,rfl⟩
     · exact⟨_,_,cap,rfl⟩
   have hcR:=hR.cell;have hfR:=hR.frozen
   gi_wp2
   have hK2:=(KeepsOthers.setCell W ⟨w.heap.size,0,none⟩ (.slice gv nv cv)).same D _ hK rfl;have hrow2:=hrow.kept (grownBy_setCell' W w.heap.size (.slice gv nv cv)) (.inr (hR.not_row (by decide) hrow).symm);have hR2:=hR.set (.slice gv nv cv);refine⟨by simp,.inl ⟨_,_,rfl,run_takeDeferred hK2,?_⟩⟩;have hB2:Below w.heap.size w ((W.setCell ⟨w.heap.size,0,none⟩ (.slice gv nv cv)).putObj D (.deferred none)):=(hB.setCell (p:=⟨w.heap.size,0,none⟩) (Nat.le_refl _) _).trans (belowK_b (w:=w) (Nat.le_refl _) _ D _ _ (by omega) hK2 rfl rfl);have hrow3:=ownsRow_putObj hrow2 (.deferred none) hK2 rfl;have hR3:((W.setCell ⟨w.heap.size,0,none⟩ (.slice gv nv cv)).putObj D (.deferred none)).heap[w.heap.size]?=some (.cells #[.slice gv nv cv] 36 (0,0)):=(grownBy_putObj' _ D (.deferred none)).block _ (by have:=hR2.lt;exact this) (by simp;omega) |>.trans hR2
   rw[List.take_of_length_le h6];exact⟨_,results_cell_row rfl _ _ w.heap.size 36 _ _ _ rfl hR3 Tryz.underlying36 rfl (by kernel_rfl),_,rfl,hrow3,hB2⟩
 case stop=>
   rintro D c pre W hD hpre ⟨rfl,⟨⟨v,hv,hrow,h6⟩,hR⟩,hB⟩ hK;have hc:=hv.cell;clear hO1 bK bA bB hrow0 hB0 hia hib hp1 hp2 hmk bR;obtain⟨gv,nv,cv,rfl⟩:∃gv nv cv,v=.slice gv nv cv:=by
     rcases hrow.2 with ⟨rfl,h0⟩ | ⟨g,cap,_,rfl,_⟩
     · exact⟨none,0,0,rfl⟩
     · exact⟨_,_,cap,rfl⟩
   have hcR:=hR.cell;have hfR:=hR.frozen
   gi_wp2
   have hK2:=(KeepsOthers.setCell W ⟨w.heap.size,0,none⟩ (.slice gv nv cv)).same D _ hK rfl;have hrow2:=hrow.kept (grownBy_setCell' W w.heap.size (.slice gv nv cv)) (.inr (hR.not_row (by decide) hrow).symm);have hR2:=hR.set (.slice gv nv cv);refine⟨by simp,.inl ⟨_,_,rfl,run_takeDeferred hK2,?_⟩⟩;have hB2:Below w.heap.size w ((W.setCell ⟨w.heap.size,0,none⟩ (.slice gv nv cv)).putObj D (.deferred none)):=(hB.setCell (p:=⟨w.heap.size,0,none⟩) (Nat.le_refl _) _).trans (belowK_b (w:=w) (Nat.le_refl _) _ D _ _ (by omega) hK2 rfl rfl);have hrow3:=ownsRow_putObj hrow2 (.deferred none) hK2 rfl;have hR3:((W.setCell ⟨w.heap.size,0,none⟩ (.slice gv nv cv)).putObj D (.deferred none)).heap[w.heap.size]?=some (.cells #[.slice gv nv cv] 36 (0,0)):=(grownBy_putObj' _ D (.deferred none)).block _ (by have:=hR2.lt;exact this) (by simp;omega) |>.trans hR2
   have e:(mergeU xs ys).take 6=pre.take 6:=by
     obtain⟨r,hr⟩:=hpre;rw[<- hr,List.take_append_of_le_length (by omega)]
   have e6:(pre.take 6).length=6:=by rw[List.length_take];omega
   rw[e,e6];exact⟨_,results_cell_row rfl _ _ w.heap.size 36 _ _ _ rfl hR3 Tryz.underlying36 rfl (by kernel_rfl),_,rfl,hrow3,hB2⟩
theorem isInts_of {S:Nat->Prop} {E:Env} {w:World} {v:Value} {a:List Dat} (hS:∀b,S b->b<w.heap.size) (h:RelV S E w (.sl (.int .i64) a) v):IsInts w.heap.size w v (ints a)/\∀x∈ints a,Has .i64 x:=by
 obtain⟨g,n,c,ds,h1,h2,h3,h4,h5,h6⟩:=h;simp at h1 h2;subst h2;have hl:(ints a).length=n:=by simp [ints,h3]
 refine⟨⟨g,c,by rw[hl];exact h1,by omega,fun hne=>?_⟩,fun x hx=>?_⟩
 · obtain⟨b,o,hb,hSb,hcell⟩:=h6 (fun h0=>hne (List.eq_nil_of_length_eq_zero (by omega)));refine⟨b,o,hb,hS b hSb,fun i x hx=>?_⟩;simp only[ints,List.getElem?_map] at hx;obtain⟨d,hd,rfl⟩:=Option.map_eq_some_iff.1 hx;obtain⟨es,hr,k,h7,h8,_⟩:=hcell i d hd;subst h7;subst h8
   have:=hr 0 _ rfl
   simpa [Ty.size,Dat.toInt] using this
 · obtain⟨i,hi,rfl⟩:=List.getElem_of_mem hx;have hia:i<a.length:=by simpa [ints] using hi
   obtain⟨b,o,hb,hSb,hcell⟩:=h6 (by omega);obtain⟨es,hr,k,h7,h8,h9⟩:=hcell i a[i] (List.getElem?_eq_getElem hia)
   have:(ints a)[i]=k:=by simp [ints,h8,Dat.toInt]
   rw[this];exact h9
theorem mem_mergeU:∀{a b:List Int} {x:Int},x∈mergeU a b->x∈a\/x∈b
 | [],b,x,h=>.inr (by simpa [mergeU] using h)
 | y::a,[],x,h=>.inl (by simpa [mergeU] using h)
 | y::a,z::b,x,h=>by
   unfold mergeU at h;split at h
   · rcases List.mem_cons.1 h with rfl | h
     · exact .inl (List.mem_cons_self ..)
     · rcases mem_mergeU h with h | h
       · exact .inl (List.mem_cons_of_mem _ h)
       · exact .inr h
   · split at h
     · rcases List.mem_cons.1 h with rfl | h
       · exact .inr (List.mem_cons_self ..)
       · rcases mem_mergeU h with h | h
         · exact .inl h
         · exact .inr (List.mem_cons_of_mem _ h)
     · rcases List.mem_cons.1 h with rfl | h
       · exact .inl (List.mem_cons_self ..)
       · rcases mem_mergeU h with h | h
         · exact .inl (List.mem_cons_of_mem _ h)
         · exact .inr (List.mem_cons_of_mem _ h)
 termination_by a b=>a.length+b.length
theorem iLeast_fn (a b:List Dat) (ha:∀x∈ints a,x<64) (hb:∀x∈ints b,x<64):Fn prog 187 [.sl (.int .i64) a,.sl (.int .i64) b] ⟨[],[],[]⟩ Unit (fun _=>True) (fun _=>.agg [.own 0]) (fun _=>⟨[],[],[⟨3,.im (.int .i64),dInts ((mergeU (ints a) (ints b)).take 6),0,false⟩]⟩):=by
 have hl:(dInts ((mergeU (ints a) (ints b)).take 6)).length=((mergeU (ints a) (ints b)).take 6).length:=by simp [dInts]
 refine fn_kit_own (wrap:=fun v=>.agg #[v]) rfl (fun S E w v h=>⟨[v],rfl,v,[],rfl,h,rfl⟩) (by rw[hl,List.length_take];omega) fun S E w vs hS hv=>?_
 obtain⟨va,_,rfl,ha',vb,_,rfl,hb',rfl⟩:=hv;obtain⟨ia,na⟩:=isInts_of hS ha';obtain⟨ib,nb⟩:=isInts_of hS hb';refine (callsIn_wide.1 (least_in 3 (Nat.le_refl _) va vb (ints a) (ints b) ha hb w ia ib)).mono ?_;rintro x w' ⟨v,rfl,hrow,hB⟩;refine⟨v,_,rfl,⟨hB.os,hB.tape,hB.output,hB.size,fun b hb _=>hB.block b hb⟩,by rw[hl];exact ownsAt_of hrow,fun S H=>elems_nums _ 0 (fun z hz=>?_),fun b hb=>?_⟩
 · rcases mem_mergeU (List.mem_of_mem_take hz) with h | h
   · exact na z h
   · exact nb z h
 · rcases hrow.2 with ⟨rfl,_⟩ | ⟨g,cap,cur,rfl,hg,_⟩
   · simp [Value.ownBlock] at hb
   · simp [Value.ownBlock] at hb;omega
def iLeast_get (ins:List SV) (m:St):Option Got:=
 match ins,m with
 | [.sl (.int .i64) a,.sl (.int .i64) b],⟨[],[],[]⟩=>some ((∀x∈ints a,x<64)/\∀x∈ints b,x<64,.agg [.own 0],⟨[],[],[⟨3,.im (.int .i64),dInts ((mergeU (ints a) (ints b)).take 6),0,false⟩]⟩)
 | _,_=>none
theorem iLeast_ok:∀ins m p out m',iLeast_get ins m=some (p,out,m')->p->Fn prog 187 ins m Unit (fun _=>True) (fun _=>out) (fun _=>m'):=by
 intro ins m p out m' h hp;unfold iLeast_get at h;split at h
 · cases h;exact iLeast_fn _ _ hp.1 hp.2
 · cases h
def iLeast_con:Con prog:=.f0 187 [] true iLeast_get (enters func187 (by kernel_rfl) rfl) iLeast_ok
end
theorem mergeU_one {m:Int}:∀{l:List Int},l.Pairwise (· < ·)->mergeU l [m]=fewPre l m true
 | [],_=>by simp [mergeU,fewPre]
 | x::a,h=>by
   obtain⟨h1,h2⟩:=List.pairwise_cons.1 h;have ih:=mergeU_one (m:=m) h2;rw[mergeU];by_cases h3:x<m
   · have h4:¬m<x:=by omega
     rw[if_pos h3,ih];simp [fewPre,h3,h4]
   · rw[if_neg h3,mergeU_nil,mergeU_nil];have e1:a.filter (fun y=>decide (y<m))=[]:=List.filter_eq_nil_iff.2 (fun y hy=>by have:=h1 y hy;simp;omega);have e2:a.filter (fun y=>decide (m<y))=a:=List.filter_eq_self.2 (fun y hy=>by have:=h1 y hy;simp;omega);by_cases h4:m<x
     · rw[if_pos h4];simp [fewPre,h3,h4,e1,e2]
     · have:x=m:=by omega
       subst this;rw[if_neg h4];simp [fewPre,e1,e2]
theorem few_pw {kept:List Dat} (h:FewTo kept kept.length):(ints kept).Pairwise (· < ·):=by
 refine List.pairwise_iff_getElem.2 fun i j hi hj hij=>?_
 have hi':i<kept.length:=by simpa [ints] using hi
 have hj':j<kept.length:=by simpa [ints] using hj
 have:=few_asc h j i hij hj'
 simp only[iv,List.getD_eq_getElem?_getD,List.getElem?_eq_getElem hi',List.getElem?_eq_getElem hj'] at this;simpa [ints] using this
theorem few_lt {kept:List Dat} (h:FewTo kept kept.length):∀x∈ints kept,0<=x/\x<64:=fun x hx=>by
 rw[<- List.take_length (l:=kept)] at hx;obtain⟨k,hk,rfl⟩:=mem_take (Nat.le_refl _) hx
 have:=h k hk;omega
theorem mark_rng (t:Int):0<=mark t/\mark t<64:=by unfold mark;omega
theorem iFewAdd_vc (kept:List Dat) (thing:Int) (hp:FewIn kept/\0<=thing/\thing<64) :
 WFl (Ty.int i64) kept->I64 thing->(True/\((!dec (FewIn kept))=false->True)/\True)/\((!dec (FewIn kept)||!dec (0<=thing/\thing<64))=true->False)/\((!dec (FewIn kept)||!dec (0<=thing/\thing<64))=false->(0<=thing/\thing<64)/\((∀(x:Int),x∈ints kept->x<64)/\∀(x:Int),x∈ints [Dat.int (mark thing)]->x<64)/\dInts (List.take 6 (mergeU (ints kept) (ints [Dat.int (mark thing)])))=dInts (fewPut (ints kept)
 (mark thing))):=by
 intro _ _;simp only[iv,kv,fv,nm];obtain⟨hk,h1,h2⟩:=hp;have hm:=mark_rng thing;have e:ints [Dat.int (mark thing)]=[mark thing]:=rfl;refine⟨fun h=>?_,fun _=>⟨⟨h1,h2⟩,⟨fun x hx=>(few_lt hk.2 x hx).2,fun x hx=>?_⟩,?_⟩⟩
 · rcases h with h | h
   · exact h hk
   · exact h ⟨h1,h2⟩
 · rw[e] at hx;simp at hx;omega
 · rw[e,mergeU_one (few_pw hk.2),fewPut]
def iFewAdd_get:List SV->St->Option Got
 | [.agg [.sl (.int .i64) kept],.int .i64 thing],⟨[],[],[]⟩=>some (FewIn kept/\0<=thing/\thing<64,.tup [.agg [.own 0],.tt],St.mk [] [] [⟨3,.im (.int .i64),dInts (fewPut (ints kept) (mark thing)),0,false⟩])
 | _,_=>none
theorem iFewAdd_ok:Ok0 prog 283 iFewAdd_get:=by
 intro _ _ _ _ _ h hp;unfold iFewAdd_get at h;split at h
 · rename_i kept thing;cases h;refine fz [iFewOk_con,iIsThing_con,iFewMark_con,iLeast_con] func283 ?_;apply VC.thru (iFewAdd_vc kept thing hp);kernel_rfl
 · cases h
def iFewAdd_con:Con prog:=.f0 283 [] true iFewAdd_get (en func283 rfl) iFewAdd_ok
def addAll (a:List Int) (l:List (Int×Int)):List Int:=l.foldl (fun a p=>addAt a p.1.toNat p.2) a
theorem addAll_next (a:List Int) (l:List (Int×Int)) (p:Int×Int):addAll a (l++[p])=addAt (addAll a l) p.1.toNat p.2:=by
 unfold addAll;rw[List.foldl_append];rfl
theorem addAll_ns {a:List Int} {b:Int} (ha:NS a b) {l:List Dat} (h:KnotsTo l l.length):∀g,g<=l.length->NS (addAll a (prs (l.take g))) (b+4000*g)
 | 0,_=>by simpa [addAll,prs] using ha
 | g+1,hg=>by
   have ih:=addAll_ns ha h g (by omega);have hk:=h g (by omega);rw[prs_take_succ (by omega),addAll_next];refine NS.mono (ih.add (i:=(pI l g).1.toNat) (n:=(pI l g).2) (by simp only[pI];omega) (by simp only[pI];omega)) (by simp only[pI];omega)
def qTo (g:Nat):List Int:=(List.range g).map fun i:Nat=>63-(i:Int)
def qOf (j:Nat):List Int:=(List.range (64-j-(65-j) / 2)).map fun i:Nat=>63-(j:Int)-(i:Int)
theorem qOf_zero:qTo 32=qOf 0:=by decide
theorem qOf_next:∀j,j<63->(qOf j).drop 1++(if (63-(j:Int)) % 2=0 then [(63-(j:Int)) / 2] else [])=qOf (j+1)/\0<(qOf j).length/\(qOf j).getD 0 0=63-(j:Int):=by decide
theorem or_one:∀k:Nat,k<64->bitI .or .i64 (2*(k:Int)) 1=2*k+1:=by decide
theorem and_one:∀k:Nat,k<64->bitI .and .i64 (k:Int) 1=(k:Int) % 2:=by decide
theorem qOf_len:∀j,j<64->(qOf j).length<=64/\((qOf j).length=0->j=63):=by decide
theorem addKnots_vc (l a:List Dat) (hp:KnotsTo l l.length/\l.length<=1000/\NS (ints a) 10000000) :
 WFl TPr l->WFl (OT.im (Ty.int i64)).ty a->I64 (l.length:Int)->(∃x:Nat,x<=l.length/\0=0/\l=l/\(l.length:Int)=(l.length:Int)/\0=(x:Int)/\a=dInts (addAll (ints a) (prs (List.take x l))))/\∀x:Nat,x<=l.length->(decide ((x:Int)<(l.length:Int))->(0<=(x:Int)/\(x:Int)<(l.length:Int))/\(0<=((l.getD x default).f 0).toInt/\((l.getD x default).f 0).toInt<(↑(128:Nat):Int))/\((l.getD x default).f
 0).toInt.toNat<(dInts (addAll (ints a) (prs (List.take x l)))).length/\(0<=((l.getD x default).f 0).toInt/\((l.getD x default).f 0).toInt<(↑(128:Nat):Int))/\((l.getD x default).f 0).toInt.toNat<(dInts (addAll (ints a) (prs (List.take x l)))).length/\∃x_1:Nat,(x_1<=l.length/\l.length-x_1<l.length-x)/\0=0/\l=l/\(l.length:Int)=(l.length:Int)/\i64.wrap ((x:Int)+1)=(x_1:Int)/\(dInts (addAll (ints a)
 (prs (List.take x l)))).set ((l.getD x default).f 0).toInt.toNat (Dat.int (i64.wrap (((dInts (addAll (ints a) (prs (List.take x l)))).getD ((l.getD x default).f 0).toInt.toNat default).toInt+((l.getD x default).f 1).toInt)))=dInts (addAll (ints a) (prs (List.take x_1 l))))/\(decide ((x:Int)<(l.length:Int))=false->dInts (addAll (ints a) (prs (List.take x l)))=dInts (addAll (ints a) (prs l))):=by
 intro hw hwa;simp only[iv,kv,fv,nm];obtain⟨hk,hl,hns⟩:=hp;intro _;refine⟨⟨0,by omega,rfl,by simp [addAll,prs,dInts_ints hwa]⟩,fun x hx=>⟨fun hlt=>?_,fun hge=>by rw[List.take_of_length_le (by omega)]⟩⟩;have hx':x<l.length:=by omega
 have h1:=addAll_ns hns hk x (by omega);have h2:=hk x hx';simp only[fv] at h2;have hl1:(dInts (addAll (ints a) (prs (l.take x)))).length=128:=by simp [dInts,h1.1]
 have h3:=h1.get ((l.getD x default).f 0).toInt.toNat (by omega);have h4:=iv_dInts' (addAll (ints a) (prs (l.take x))) ((l.getD x default).f 0).toInt.toNat (by rw[h1.1];omega);simp only[iv] at h4;refine⟨by omega,by omega,by omega,by omega,by omega,x+1,by omega,up_ok (n:=l.length) hx' (by omega),?_⟩;rw[h4,wrap_ok (by omega) (by omega),dInts_set,prs_take_succ hx',addAll_next];rfl
def addKnots_get:List SV->St->Option Got
 | [.rp 0 [] 0 1 0,.sl ty0 l],⟨[],[],[⟨259,.im (.int .i64),a,0,true⟩]⟩=>guardTy ty0 TPr (some (KnotsTo l l.length/\l.length<=1000/\NS (ints a) 10000000,.tup [],St.mk [] [] [⟨259,.im (.int .i64),dInts (addAll (ints a) (prs l)),0,true⟩]))
 | _,_=>none
theorem addKnots_ok:Ok0 prog 215 addKnots_get:=by
 intro _ _ _ _ _ h hp;unfold addKnots_get at h;split at h
 · rename_i l a;replace h:=gT h;obtain⟨rfl,h⟩:=h;cases h;refine fl [] (fun k=>bif Nat.beq k 1 then some (.g (⟨Nat,fun s g=>hdb s [0,6,7] [(8,.int .i64 g)] s.bx [⟨259,.im (.int .i64),dInts (addAll (ints a) (prs (l.take g))),0,true⟩],fun _ g=>g<=l.length,fun g=>l.length-g⟩)) else none) func215 ?_;apply VC.thru (addKnots_vc l a hp);kernel_rfl
 · cases h
def addKnots_con:Con prog:=.f0 215 [.lend,.d] false addKnots_get (en func215 rfl) addKnots_ok
theorem squeezeI_vc (ds:List Dat) (all:Int) (hp:NS (ints ds) 10000000/\0<=all/\all<=10000) :
 I64 all->WFl (OT.im (Ty.int i64)).ty ds->(0<=(64:Int)/\(64:Int)*(↑(8:Nat):Int)<=281474976710656/\64<=(140737488355328:Int))/\(∃x:Nat,x<=32/\0=0/\all=all/\(63:Int)=63-(x:Int)/\ds=ds/\([]:List Dat)=dInts (qTo x))/\∀x:Nat,x<=32->(decide ((63:Int)-(x:Int)>=(32:Int))->((dInts (qTo x)).length+1)*8<=140737488355328/\∃x_1:Nat,(x_1<=32/\32-x_1<32-x)/\0=0/\all=all/\i64.wrap
 ((63:Int)-(x:Int)-1)=(63:Int)-(x_1:Int)/\ds=ds/\dInts (qTo x)++[Dat.int ((63:Int)-(x:Int))]=dInts (qTo x_1))/\(decide ((63:Int)-(x:Int)>=(32:Int))=false->(∃x_1:Nat,x_1<=63/\0=0/\all=all/\ds=dInts (sqUpto (ints ds) all x_1)/\dInts (qTo x)=dInts (qOf x_1))/\∀x:Nat,x<=63->I64 (↑(dInts (qOf x)).length:Int)->(decide ((↑(dInts (qOf x)).length:Int) > (0:Int))->(0<=(0:Int)/\0<(↑(dInts (qOf
 x)).length:Int))/\0<(dInts (qOf x)).length/\(I64 ((dInts (qOf x)).getD 0 default).toInt->1<=(dInts (qOf x)).length/\0<=(1:Int)/\0<=(1:Int)/\(0<=i64.wrap (((dInts (qOf x)).getD 0 default).toInt*(2:Int) ^ min 1 i64.bits)/\i64.wrap (((dInts (qOf x)).getD 0 default).toInt*(2:Int) ^ min 1 i64.bits)<(↑(128:Nat):Int))/\(i64.wrap (((dInts (qOf x)).getD 0 default).toInt*(2:Int) ^ min 1
 i64.bits)).toNat<(dInts (sqUpto (ints ds) all x)).length/\(I64 ((dInts (sqUpto (ints ds) all x)).getD (i64.wrap (((dInts (qOf x)).getD 0 default).toInt*(2:Int) ^ min 1 i64.bits)).toNat default).toInt->(0<=bitI BinOp.or i64 (i64.wrap (((dInts (qOf x)).getD 0 default).toInt*(2:Int) ^ min 1 i64.bits)) (1:Int)/\bitI BinOp.or i64 (i64.wrap (((dInts (qOf x)).getD 0 default).toInt*(2:Int) ^ min 1
 i64.bits)) 1<(↑(128:Nat):Int))/\(bitI BinOp.or i64 (i64.wrap (((dInts (qOf x)).getD 0 default).toInt*(2:Int) ^ min 1 i64.bits)) (1:Int)).toNat<(dInts (sqUpto (ints ds) all x)).length/\(I64 ((dInts (sqUpto (ints ds) all x)).getD (bitI BinOp.or i64 (i64.wrap (((dInts (qOf x)).getD 0 default).toInt*(2:Int) ^ min 1 i64.bits)) (1:Int)).toNat default).toInt->((decide (i64.wrap (((dInts (sqUpto (ints ds)
 all x)).getD (i64.wrap (((dInts (qOf x)).getD 0 default).toInt*(2:Int) ^ min 1 i64.bits)).toNat default).toInt+((dInts (sqUpto (ints ds) all x)).getD (bitI BinOp.or i64 (i64.wrap (((dInts (qOf x)).getD 0 default).toInt*(2:Int) ^ min 1 i64.bits)) (1:Int)).toNat default).toInt) > (0:Int))=true->(0<=((dInts (qOf x)).getD 0 default).toInt/\((dInts (qOf x)).getD 0
 default).toInt<(↑(128:Nat):Int))/\((dInts (qOf x)).getD 0 default).toInt.toNat<(dInts (sqUpto (ints ds) all x)).length/\(I64 ((dInts (sqUpto (ints ds) all x)).getD ((dInts (qOf x)).getD 0 default).toInt.toNat default).toInt->(8:Int)≠0))/\True)/\((decide (i64.wrap (((dInts (sqUpto (ints ds) all x)).getD (i64.wrap (((dInts (qOf x)).getD 0 default).toInt*(2:Int) ^ min 1 i64.bits)).toNat
 default).toInt+((dInts (sqUpto (ints ds) all x)).getD (bitI BinOp.or i64 (i64.wrap (((dInts (qOf x)).getD 0 default).toInt*(2:Int) ^ min 1 i64.bits)) (1:Int)).toNat default).toInt) > (0:Int))&&decide (i64.wrap (i64.wrap (((dInts (sqUpto (ints ds) all x)).getD (i64.wrap (((dInts (qOf x)).getD 0 default).toInt*(2:Int) ^ min 1 i64.bits)).toNat default).toInt+((dInts (sqUpto (ints ds) all x)).getD
 (bitI BinOp.or i64 (i64.wrap (((dInts (qOf x)).getD 0 default).toInt*(2:Int) ^ min 1 i64.bits)) (1:Int)).toNat default).toInt)+((dInts (sqUpto (ints ds) all x)).getD ((dInts (qOf x)).getD 0 default).toInt.toNat default).toInt)<=i64.wrap (all.tdiv (8:Int))))=true->(0<=((dInts (qOf x)).getD 0 default).toInt/\((dInts (qOf x)).getD 0 default).toInt<(↑(128:Nat):Int))/\((dInts (qOf x)).getD 0
 default).toInt.toNat<(dInts (sqUpto (ints ds) all x)).length/\(0<=((dInts (qOf x)).getD 0 default).toInt/\((dInts (qOf x)).getD 0 default).toInt<(↑(128:Nat):Int))/\((dInts (qOf x)).getD 0 default).toInt.toNat<(dInts (sqUpto (ints ds) all x)).length/\(0<=i64.wrap (((dInts (qOf x)).getD 0 default).toInt*(2:Int) ^ min 1 i64.bits)/\i64.wrap (((dInts (qOf x)).getD 0 default).toInt*(2:Int) ^ min 1
 i64.bits)<(↑(128:Nat):Int))/\(i64.wrap (((dInts (qOf x)).getD 0 default).toInt*(2:Int) ^ min 1 i64.bits)).toNat<((dInts (sqUpto (ints ds) all x)).set ((dInts (qOf x)).getD 0 default).toInt.toNat (Dat.int (i64.wrap (((dInts (sqUpto (ints ds) all x)).getD ((dInts (qOf x)).getD 0 default).toInt.toNat default).toInt+i64.wrap (((dInts (sqUpto (ints ds) all x)).getD (i64.wrap (((dInts (qOf x)).getD 0
 default).toInt*(2:Int) ^ min 1 i64.bits)).toNat default).toInt+((dInts (sqUpto (ints ds) all x)).getD (bitI BinOp.or i64 (i64.wrap (((dInts (qOf x)).getD 0 default).toInt*(2:Int) ^ min 1 i64.bits)) (1:Int)).toNat default).toInt))))).length/\(0<=bitI BinOp.or i64 (i64.wrap (((dInts (qOf x)).getD 0 default).toInt*(2:Int) ^ min 1 i64.bits)) (1:Int)/\bitI BinOp.or i64 (i64.wrap (((dInts (qOf x)).getD
 0 default).toInt*(2:Int) ^ min 1 i64.bits)) 1<(↑(128:Nat):Int))/\(bitI BinOp.or i64 (i64.wrap (((dInts (qOf x)).getD 0 default).toInt*(2:Int) ^ min 1 i64.bits)) (1:Int)).toNat<(((dInts (sqUpto (ints ds) all x)).set ((dInts (qOf x)).getD 0 default).toInt.toNat (Dat.int (i64.wrap (((dInts (sqUpto (ints ds) all x)).getD ((dInts (qOf x)).getD 0 default).toInt.toNat default).toInt+i64.wrap (((dInts
 (sqUpto (ints ds) all x)).getD (i64.wrap (((dInts (qOf x)).getD 0 default).toInt*(2:Int) ^ min 1 i64.bits)).toNat default).toInt+((dInts (sqUpto (ints ds) all x)).getD (bitI BinOp.or i64 (i64.wrap (((dInts (qOf x)).getD 0 default).toInt*(2:Int) ^ min 1 i64.bits)) (1:Int)).toNat default).toInt))))).set (i64.wrap (((dInts (qOf x)).getD 0 default).toInt*(2:Int) ^ min 1 i64.bits)).toNat (Dat.int
 (0:Int))).length/\(decide (bitI BinOp.and i64 ((dInts (qOf x)).getD 0 default).toInt (1:Int)=0)->0<=(1:Int)/\((List.drop 1 (dInts (qOf x))).length+1)*8<=140737488355328/\∃x_1:Nat,(x_1<=63/\63-x_1<63-x)/\0=0/\all=all/\(((dInts (sqUpto (ints ds) all x)).set ((dInts (qOf x)).getD 0 default).toInt.toNat (Dat.int (i64.wrap (((dInts (sqUpto (ints ds) all x)).getD ((dInts (qOf x)).getD 0
 default).toInt.toNat default).toInt+i64.wrap (((dInts (sqUpto (ints ds) all x)).getD (i64.wrap (((dInts (qOf x)).getD 0 default).toInt*(2:Int) ^ min 1 i64.bits)).toNat default).toInt+((dInts (sqUpto (ints ds) all x)).getD (bitI BinOp.or i64 (i64.wrap (((dInts (qOf x)).getD 0 default).toInt*(2:Int) ^ min 1 i64.bits)) (1:Int)).toNat default).toInt))))).set (i64.wrap (((dInts (qOf x)).getD 0
 default).toInt*(2:Int) ^ min 1 i64.bits)).toNat (Dat.int (0:Int))).set (bitI BinOp.or i64 (i64.wrap (((dInts (qOf x)).getD 0 default).toInt*(2:Int) ^ min 1 i64.bits)) (1:Int)).toNat (Dat.int (0:Int))=dInts (sqUpto (ints ds) all x_1)/\List.drop 1 (dInts (qOf x))++[Dat.int (((dInts (qOf x)).getD 0 default).toInt.fdiv ((2:Int) ^ min 1 i64.bits))]=dInts (qOf x_1))/\(decide (bitI BinOp.and i64 ((dInts
 (qOf x)).getD 0 default).toInt (1:Int)=0)=false->∃x_1:Nat,(x_1<=63/\63-x_1<63-x)/\0=0/\all=all/\(((dInts (sqUpto (ints ds) all x)).set ((dInts (qOf x)).getD 0 default).toInt.toNat (Dat.int (i64.wrap (((dInts (sqUpto (ints ds) all x)).getD ((dInts (qOf x)).getD 0 default).toInt.toNat default).toInt+i64.wrap (((dInts (sqUpto (ints ds) all x)).getD (i64.wrap (((dInts (qOf x)).getD 0
 default).toInt*(2:Int) ^ min 1 i64.bits)).toNat default).toInt+((dInts (sqUpto (ints ds) all x)).getD (bitI BinOp.or i64 (i64.wrap (((dInts (qOf x)).getD 0 default).toInt*(2:Int) ^ min 1 i64.bits)) (1:Int)).toNat default).toInt))))).set (i64.wrap (((dInts (qOf x)).getD 0 default).toInt*(2:Int) ^ min 1 i64.bits)).toNat (Dat.int (0:Int))).set (bitI BinOp.or i64 (i64.wrap (((dInts (qOf x)).getD 0
 default).toInt*(2:Int) ^ min 1 i64.bits)) (1:Int)).toNat (Dat.int (0:Int))=dInts (sqUpto (ints ds) all x_1)/\List.drop 1 (dInts (qOf x))=dInts (qOf x_1)))/\((decide (i64.wrap (((dInts (sqUpto (ints ds) all x)).getD (i64.wrap (((dInts (qOf x)).getD 0 default).toInt*(2:Int) ^ min 1 i64.bits)).toNat default).toInt+((dInts (sqUpto (ints ds) all x)).getD (bitI BinOp.or i64 (i64.wrap (((dInts (qOf
 x)).getD 0 default).toInt*(2:Int) ^ min 1 i64.bits)) (1:Int)).toNat default).toInt) > (0:Int))&&decide (i64.wrap (i64.wrap (((dInts (sqUpto (ints ds) all x)).getD (i64.wrap (((dInts (qOf x)).getD 0 default).toInt*(2:Int) ^ min 1 i64.bits)).toNat default).toInt+((dInts (sqUpto (ints ds) all x)).getD (bitI BinOp.or i64 (i64.wrap (((dInts (qOf x)).getD 0 default).toInt*(2:Int) ^ min 1 i64.bits))
 (1:Int)).toNat default).toInt)+((dInts (sqUpto (ints ds) all x)).getD ((dInts (qOf x)).getD 0 default).toInt.toNat default).toInt)<=i64.wrap (all.tdiv (8:Int))))=false->(decide (bitI BinOp.and i64 ((dInts (qOf x)).getD 0 default).toInt (1:Int)=0)->0<=(1:Int)/\((List.drop 1 (dInts (qOf x))).length+1)*8<=140737488355328/\∃x_1:Nat,(x_1<=63/\63-x_1<63-x)/\0=0/\all=all/\dInts (sqUpto (ints ds) all
 x)=dInts (sqUpto (ints ds) all x_1)/\List.drop 1 (dInts (qOf x))++[Dat.int (((dInts (qOf x)).getD 0 default).toInt.fdiv ((2:Int) ^ min 1 i64.bits))]=dInts (qOf x_1))/\(decide (bitI BinOp.and i64 ((dInts (qOf x)).getD 0 default).toInt (1:Int)=0)=false->∃x_1:Nat,(x_1<=63/\63-x_1<63-x)/\0=0/\all=all/\dInts (sqUpto (ints ds) all x)=dInts (sqUpto (ints ds) all x_1)/\List.drop 1 (dInts (qOf x))=dInts
 (qOf x_1)))))))/\(decide ((↑(dInts (qOf x)).length:Int) > (0:Int))=false->dInts (sqUpto (ints ds) all x)=dInts (squeeze (ints ds) all))):=by
 intro _ hw;simp only[iv,kv,fv,nm];obtain⟨hns,h0,h1⟩:=hp;refine⟨by omega,⟨0,by omega,by simp,by simp [qTo,dInts]⟩,fun x hx=>⟨fun hge=>?_,fun hlt=>⟨?_,fun j hj _=>⟨fun hpos=>?_,fun hz=>?_⟩⟩⟩⟩
 · have hl:(dInts (qTo x)).length=x:=by simp [qTo,dInts]
   refine⟨by omega,x+1,by omega,by rw[wrap_ok (by omega) (by omega)];omega,?_⟩;simp [qTo,dInts,List.range_succ]
 · have:x=32:=by omega
   subst this;exact⟨0,by omega,by simp [sqUpto,dInts_ints hw],by rw[qOf_zero]⟩
 · have hj':j<63:=by
     rcases Nat.lt_or_ge j 63 with h | h
     · exact h
     · have:j=63:=by omega
       subst this;exact absurd hpos (by decide)
   obtain⟨q1,q2,q3⟩:=qOf_next j hj';have hq:((dInts (qOf j)).getD 0 default).toInt=((63-j:Nat):Int):=by
     have:=iv_dInts' (qOf j) 0 q2
     simp only[iv] at this;rw[this,gt,q3];omega
   have hk0:0<63-j:=by omega
   have hk1:63-j<64:=by omega
   have hnx:=sq_next (ints ds) all j;have hN:=NS.upto hns (all:=all) j (by omega);generalize sqUpto (ints ds) all j=a at hN hnx ⊢;have hjk:(63-(j:Int))=((63-j:Nat):Int):=by omega
   rw[hjk] at q1;clear hjk q3;generalize hkj:63-j=k at hq hk0 hk1 hnx q1 ⊢;have hpow:(2:Int) ^ min (1:Nat) IntKind.i64.bits=2:=by decide
   have hlow:IntKind.i64.wrap ((k:Int)*2)=2*(k:Int):=by rw[wrap_ok (by omega) (by omega)];omega
   have g1:=iv_dInts' a (2*k) (by rw[hN.1];omega);have g2:=iv_dInts' a (2*k+1) (by rw[hN.1];omega);have g3:=iv_dInts' a k (by rw[hN.1];omega);simp only[iv] at g1 g2 g3;have n1:(2*(k:Int)).toNat=2*k:=by omega
   have n2:(2*(k:Int)+1).toNat=2*k+1:=by omega
   have n3:((k:Int)).toNat=k:=by omega
   simp only[hq,hpow,hlow,or_one k hk1,and_one k hk1,n1,n2,n3,g1,g2,g3];have b1:=hN.get (2*k) (by omega);have b2:=hN.get (2*k+1) (by omega);have b3:=hN.get k (by omega);have hda:(dInts a).length=128:=by simp [dInts,hN.1]
   have hqlen:(dInts (qOf j)).length=(qOf j).length:=by simp [dInts]
   have hq64:=(qOf_len j (by omega)).1;have hdr:(dInts (qOf j)).drop 1=dInts ((qOf j).drop 1):=by simp [dInts,List.map_drop]
   have hall:IntKind.i64.wrap (all.tdiv 8)=all / 8:=by rw[tdiv_pos h0,wrap_ok (by omega) (by omega)]
   have hfd:(k:Int).fdiv 2=(k:Int) / 2:=Int.fdiv_eq_ediv_of_nonneg _ (by omega);rw[wrap_ok (n:=gt a (2*k)+gt a (2*k+1)) (by omega) (by omega),wrap_ok (n:=gt a (2*k)+gt a (2*k+1)+gt a k) (by omega) (by omega),wrap_ok (n:=gt a k+(gt a (2*k)+gt a (2*k+1))) (by omega) (by omega),hall,hdr,hfd];simp only[List.length_set,hda,hqlen,dInts_set];have hend:∀b,sqStep all a k=b->((k:Int) % 2=0->∃y,(y<=63/\63-y<k)/\dInts b=dInts (sqUpto (ints ds) all y)/\dInts ((qOf j).drop 1)++[Dat.int ((k:Int) / 2)]=dInts (qOf y))/\(¬(k:Int) % 2=0->∃y,(y<=63/\63-y<k)/\dInts b=dInts (sqUpto (ints ds) all y)/\dInts ((qOf j).drop 1)=dInts (qOf y)):=fun b hb=>by
     rw[hb] at hnx;refine⟨fun he=>⟨j+1,by omega,by rw[hnx],?_⟩,fun he=>⟨j+1,by omega,by rw[hnx],?_⟩⟩
     · rw[if_pos he] at q1;rw[<- q1,dInts_append];rfl
     · rw[if_neg he,List.append_nil] at q1;rw[q1]
   have hdl:(dInts ((qOf j).drop 1)).length<=64:=by simp [dInts];omega
   refine⟨by omega,by omega,fun _=>⟨by omega,by omega,by omega,by omega,by omega,fun _=>⟨by omega,by omega,fun _=>⟨fun _=>⟨by omega,by omega,fun _=>by omega⟩,fun hc=>?_,fun hc=>?_⟩⟩⟩⟩
   · have hs:sqStep all a k=((a.set k (gt a k+(gt a (2*k)+gt a (2*k+1)))).set (2*k) 0).set (2*k+1) 0:=by
       unfold sqStep;rw[if_pos ⟨by omega,by omega⟩]
     obtain⟨e1,e2⟩:=hend _ hs;have l1:∀(v w:Int) (m:Nat),(dInts ((a.set k v).set m w)).length=128:=fun v w m=>by simp [dInts,hN.1]
     have l2:∀(v:Int),(dInts (a.set k v)).length=128:=fun v=>by simp [dInts,hN.1]
     rw[l1,l2];exact⟨by omega,by omega,by omega,by omega,by omega,by omega,by omega,by omega,fun he=>⟨by omega,by omega,e1 he⟩,fun he=>e2 he⟩
   · have hs:sqStep all a k=a:=by
       unfold sqStep;rw[if_neg (fun h=>by omega)]
     obtain⟨e1,e2⟩:=hend _ hs;exact⟨fun he=>⟨by omega,by omega,e1 he⟩,fun he=>e2 he⟩
 · have:j=63:=(qOf_len j (by omega)).2 (by simp [dInts] at hz;simpa using hz)
   subst this;rfl
def squeezeI_get:List SV->St->Option Got
 | [.rp 0 [] 0 1 0,.int .i64 all],⟨[],[],[⟨259,.im (.int .i64),ds,0,true⟩]⟩=>some (NS (ints ds) 10000000/\0<=all/\all<=10000,.tup [],St.mk [] [] [⟨259,.im (.int .i64),dInts (squeeze (ints ds) all),0,true⟩])
 | _,_=>none
theorem squeezeI_ok:Ok0 prog 216 squeezeI_get:=by
 intro _ _ _ _ _ h hp;unfold squeezeI_get at h;split at h
 · rename_i all ds;cases h;refine fl [] (fun k=>bif Nat.beq k 2 then some (.g (⟨Nat,fun s g=>hd s [0,1] [(4,.own 1),(5,.int .i64 (63-g))] [rwE s 0,⟨3,.im (.int .i64),dInts (qTo g),0,false⟩],fun _ g=>g<=32,fun g=>32-g⟩)) else bif Nat.beq k 5 then some (.g (⟨Nat,fun s g=>hd s [0,1] [(4,.own 1)] [⟨259,.im (.int .i64),dInts (sqUpto (ints ds) all g),0,true⟩,⟨3,.im (.int .i64),dInts (qOf g),0,false⟩],fun _ g=>g<=63,fun g=>63-g⟩)) else none) func216 ?_;apply VC.thru (squeezeI_vc ds all hp);kernel_rfl
 · cases h
def squeezeI_con:Con prog:=.f0 216 [.lend] false squeezeI_get (en func216 rfl) squeezeI_ok
def bothNums (a b:List (Int×Int)) (all:Int):List Int:=squeeze (addAll (addAll (List.replicate 128 0) a) b) all
theorem addAll_zero {l:List Dat} {all:Int} (h:KnTo l all l.length) (a:List Int):∀g,g<=l.length->gt (addAll a (prs (l.take g))) 0=gt a 0
 | 0,_=>by simp [addAll,prs]
 | g+1,hg=>by
   have ih:=addAll_zero h a g (by omega);have hk:=h g (by omega);rw[prs_take_succ (by omega),addAll_next,addAt,gt_set,if_neg,ih];intro h2
   have:=h2.1
   simp only[pI] at this;omega
theorem sq_zero {a:List Int} {all:Int}:∀g,g<=63->gt (sqUpto a all g) 0=gt a 0
 | 0,_=>by simp [sqUpto]
 | g+1,hg=>by
   rw[sq_next];have ih:=sq_zero (a:=a) (all:=all) g (by omega);unfold sqStep;split
   · rw[gt_set,if_neg (by omega),gt_set,if_neg (by omega),gt_set,if_neg (by omega),ih]
   · exact ih
structure BothOk (a b:List Dat) (all:Int):Prop where
 n1:NS (addAll (List.replicate 128 0) (prs a)) 1000000
 n2:NS (addAll (addAll (List.replicate 128 0) (prs a)) (prs b)) 10000000
 n3:NS (bothNums (prs a) (prs b) all) 10000000
 z:gt (bothNums (prs a) (prs b) all) 0=0
theorem both_ok {a b:List Dat} {aa ab:Int} (ha:KnTo a aa a.length) (hb:KnTo b ab b.length) (all:Int):BothOk a b all:=by
 have la:=kn_le ha;have lb:=kn_le hb;have n1:=addAll_ns NS.zero ha.knots a.length (Nat.le_refl _);have z1:=addAll_zero ha (List.replicate 128 0) a.length (Nat.le_refl _);rw[List.take_length] at n1 z1;have n1:NS (addAll (List.replicate 128 0) (prs a)) 1000000:=n1.mono (by omega);have n2:=addAll_ns n1 hb.knots b.length (Nat.le_refl _);have z2:=addAll_zero hb (addAll (List.replicate 128 0) (prs a)) b.length (Nat.le_refl _);rw[List.take_length] at n2 z2;have n2:NS (addAll (addAll (List.replicate 128 0) (prs a)) (prs b)) 10000000:=n2.mono (by omega);have n3:NS (sqUpto (addAll (addAll (List.replicate 128 0) (prs a)) (prs b)) all 63) 10000000:=NS.upto n2 63 (Nat.le_refl _)
 have z3:gt (sqUpto (addAll (addAll (List.replicate 128 0) (prs a)) (prs b)) all 63) 0=0:=by
   rw[sq_zero 63 (Nat.le_refl _),z2,z1];simp [gt]
 exact⟨n1,n2,n3,z3⟩
theorem knots_first {a:List Int} (h:gt a 0=0) (n:Nat):knotsTo a (n+1)=knotsTo a n++(if 0<gt a n then [((n:Int),gt a n)] else []):=by
 rcases Nat.eq_zero_or_pos n with rfl | hn
 · rw[h,if_neg (by omega)];rfl
 · exact knots_next a n hn
theorem rankSum_vc (a b:List Dat) (aa ab:Int) (hp:RankIn a aa/\RankIn b ab) :
 WFl TPr a->I64 aa->WFl TPr b->I64 ab->(KnotsTo a a.length/\a.length<=1000/\NS (ints (List.replicate 128 (Dat.int (0:Int)))) (10000000:Int))/\(KnotsTo b b.length/\b.length<=1000/\NS (ints (dInts (addAll (ints (List.replicate 128 (Dat.int (0:Int)))) (prs a)))) (10000000:Int))/\(I64 aa->I64 ab->(NS (ints (dInts (addAll (ints (dInts (addAll (ints (List.replicate 128 (Dat.int (0:Int)))) (prs a)))) (prs
 b)))) (10000000:Int)/\0<=i64.wrap (aa+ab)/\i64.wrap (aa+ab)<=(10000:Int))/\(dInts (squeeze (ints (dInts (addAll (ints (dInts (addAll (ints (List.replicate 128 (Dat.int (0:Int)))) (prs a)))) (prs b)))) (i64.wrap (aa+ab)))).length=128/\(∃x:Nat,x<=128/\i64.wrap (aa+ab)=i64.wrap (aa+ab)/\dInts (squeeze (ints (dInts (addAll (ints (dInts (addAll (ints (List.replicate 128 (Dat.int (0:Int)))) (prs a))))
 (prs b)))) (i64.wrap (aa+ab)))=dInts (squeeze (ints (dInts (addAll (ints (dInts (addAll (ints (List.replicate 128 (Dat.int (0:Int)))) (prs a)))) (prs b)))) (i64.wrap (aa+ab)))/\0=(x:Int)/\a=a/\aa=aa/\b=b/\ab=ab/\(0:Int)=0/\dInts (squeeze (ints (dInts (addAll (ints (dInts (addAll (ints (List.replicate 128 (Dat.int (0:Int)))) (prs a)))) (prs b)))) (i64.wrap (aa+ab)))=dInts (squeeze (ints (dInts
 (addAll (ints (dInts (addAll (ints (List.replicate 128 (Dat.int (0:Int)))) (prs a)))) (prs b)))) (i64.wrap (aa+ab)))/\([]:List Dat)=dPrs (knotsTo (bothNums (prs a) (prs b) (aa+ab)) x))/\∀x:Nat,x<=128->(decide ((x:Int)<128)->((0<=(x:Int)/\(x:Int)<(↑(128:Nat):Int))/\(x:Int)<(↑(dInts (squeeze (ints (dInts (addAll (ints (dInts (addAll (ints (List.replicate 128 (Dat.int (0:Int)))) (prs a)))) (prs b))))
 (i64.wrap (aa+ab)))).length:Int))/\(I64 ((dInts (squeeze (ints (dInts (addAll (ints (dInts (addAll (ints (List.replicate 128 (Dat.int (0:Int)))) (prs a)))) (prs b)))) (i64.wrap (aa+ab)))).getD x default).toInt->(decide (((dInts (squeeze (ints (dInts (addAll (ints (dInts (addAll (ints (List.replicate 128 (Dat.int (0:Int)))) (prs a)))) (prs b)))) (i64.wrap (aa+ab)))).getD x default).toInt >
 (0:Int))=true->((dPrs (knotsTo (bothNums (prs a) (prs b) (aa+ab)) x)).length+1)*16<=140737488355328/\∃x_1:Nat,(x_1<=128/\128-x_1<128-x)/\i64.wrap (aa+ab)=i64.wrap (aa+ab)/\dInts (squeeze (ints (dInts (addAll (ints (dInts (addAll (ints (List.replicate 128 (Dat.int (0:Int)))) (prs a)))) (prs b)))) (i64.wrap (aa+ab)))=dInts (squeeze (ints (dInts (addAll (ints (dInts (addAll (ints (List.replicate 128
 (Dat.int (0:Int)))) (prs a)))) (prs b)))) (i64.wrap (aa+ab)))/\i64.wrap ((x:Int)+1)=(x_1:Int)/\a=a/\aa=aa/\b=b/\ab=ab/\(0:Int)=0/\dInts (squeeze (ints (dInts (addAll (ints (dInts (addAll (ints (List.replicate 128 (Dat.int (0:Int)))) (prs a)))) (prs b)))) (i64.wrap (aa+ab)))=dInts (squeeze (ints (dInts (addAll (ints (dInts (addAll (ints (List.replicate 128 (Dat.int (0:Int)))) (prs a)))) (prs b))))
 (i64.wrap (aa+ab)))/\dPrs (knotsTo (bothNums (prs a) (prs b) (aa+ab)) x)++[Dat.node [.int (x:Int),.int ((dInts (squeeze (ints (dInts (addAll (ints (dInts (addAll (ints (List.replicate 128 (Dat.int (0:Int)))) (prs a)))) (prs b)))) (i64.wrap (aa+ab)))).getD x default).toInt]]=dPrs (knotsTo (bothNums (prs a) (prs b) (aa+ab)) x_1))/\(decide (((dInts (squeeze (ints (dInts (addAll (ints (dInts (addAll
 (ints (List.replicate 128 (Dat.int (0:Int)))) (prs a)))) (prs b)))) (i64.wrap (aa+ab)))).getD x default).toInt > (0:Int))=false->∃x_1:Nat,(x_1<=128/\128-x_1<128-x)/\i64.wrap (aa+ab)=i64.wrap (aa+ab)/\dInts (squeeze (ints (dInts (addAll (ints (dInts (addAll (ints (List.replicate 128 (Dat.int (0:Int)))) (prs a)))) (prs b)))) (i64.wrap (aa+ab)))=dInts (squeeze (ints (dInts (addAll (ints (dInts
 (addAll (ints (List.replicate 128 (Dat.int (0:Int)))) (prs a)))) (prs b)))) (i64.wrap (aa+ab)))/\i64.wrap ((x:Int)+1)=(x_1:Int)/\a=a/\aa=aa/\b=b/\ab=ab/\(0:Int)=0/\dInts (squeeze (ints (dInts (addAll (ints (dInts (addAll (ints (List.replicate 128 (Dat.int (0:Int)))) (prs a)))) (prs b)))) (i64.wrap (aa+ab)))=dInts (squeeze (ints (dInts (addAll (ints (dInts (addAll (ints (List.replicate 128 (Dat.int
 (0:Int)))) (prs a)))) (prs b)))) (i64.wrap (aa+ab)))/\dPrs (knotsTo (bothNums (prs a) (prs b) (aa+ab)) x)=dPrs (knotsTo (bothNums (prs a) (prs b) (aa+ab)) x_1))))/\(decide ((x:Int)<128)=false->i64.wrap (aa+ab)=aa+ab/\dPrs (knotsTo (bothNums (prs a) (prs b) (aa+ab)) x)=dPrs (knots (bothNums (prs a) (prs b) (aa+ab))))):=by
 intro _ _ _ _;simp only[iv,kv,fv,nm];obtain⟨⟨a1,a2,ka,_⟩,b1,b2,kb,_⟩:=hp;have la:=kn_le ka;have lb:=kn_le kb;have hz:ints (List.replicate 128 (Dat.int 0))=List.replicate 128 0:=by simp [ints,Dat.toInt]
 obtain⟨n1,n2,n3,z⟩:=both_ok ka kb (aa+ab);rw[wrap_ok (n:=aa+ab) (by omega) (by omega)];simp only[hz,ints_dInts];have hfold:squeeze (addAll (addAll (List.replicate 128 0) (prs a)) (prs b)) (aa+ab)=bothNums (prs a) (prs b) (aa+ab):=rfl;simp only[hfold];have hl:(dInts (bothNums (prs a) (prs b) (aa+ab))).length=128:=by simp [dInts,n3.1]
 refine⟨⟨ka.knots,by omega,NS.zero.mono (by omega)⟩,⟨kb.knots,by omega,n1.mono (by omega)⟩,fun _ _=>⟨⟨n2,by omega,by omega⟩,hl,⟨0,by omega,rfl,rfl⟩,fun x hx=>?_⟩⟩;have hkl:=knotsTo_length (bothNums (prs a) (prs b) (aa+ab)) x;refine⟨fun hlt=>?_,fun hge=>⟨trivial,?_⟩⟩
 · have hv:=iv_dInts' (bothNums (prs a) (prs b) (aa+ab)) x (by rw[n3.1];omega);simp only[iv] at hv;rw[hv,hl];have hk:=knots_first z x;refine⟨⟨by omega,by omega⟩,fun _=>⟨fun h=>⟨by rw[dPrs_length];omega,x+1,by omega,up_ok (n:=128) (by omega) (by omega),?_⟩,fun h=>⟨x+1,by omega,up_ok (n:=128) (by omega) (by omega),?_⟩⟩⟩
   · rw[hk,if_pos (by omega),dPrs_one]
   · rw[hk,if_neg (by omega),List.append_nil]
 · unfold knots;rw[n3.1,show x=128 by omega]
def rankSum_get:List SV->St->Option Got
 | [.agg [.sl ty0 a,.int .i64 aa],.agg [.sl ty1 b,.int .i64 ab]],⟨[],[],[]⟩=>guardTy ty0 TPr (guardTy ty1 TPr (some (RankIn a aa/\RankIn b ab,.agg [.own 0,.int .i64 (aa+ab)],St.mk [] [] [⟨165,.im TPr,dPrs (knots (bothNums (prs a) (prs b) (aa+ab))),0,false⟩])))
 | _,_=>none
theorem rankSum_ok:Ok0 prog 189 rankSum_get:=by
 intro _ _ _ _ _ h hp;unfold rankSum_get at h;split at h
 · rename_i a aa _ b ab;replace h:=gT2 h;obtain⟨rfl,rfl,h⟩:=h;cases h;refine fl [addKnots_con,squeezeI_con] (fun k=>bif Nat.beq k 8 then some (.g (⟨Nat,fun s g=>hdb s [2,3,4,6,23] [(7,.own 1),(24,.int .i64 g)] s.bx [rwE s 0,⟨165,.im TPr,dPrs (knotsTo (bothNums (prs a) (prs b) (aa+ab)) g),0,false⟩],fun _ g=>g<=128,fun g=>128-g⟩)) else none) func189 ?_;apply VC.thru (rankSum_vc a b aa ab hp);kernel_rfl
 · cases h
def rankSum_con:Con prog:=.f0 189 [] true rankSum_get (en func189 rfl) rankSum_ok
theorem iRankAdd_vc (l:List Dat) (all thing:Int) (hp:RankIn l all/\0<=thing/\thing<64/\all<2000) :
 WFl TPr l->I64 all->I64 thing->(True/\((!dec (RankIn l all))=false->True)/\True)/\((!dec (RankIn l all)||(!dec (0<=thing/\thing<64)||decide (all=2000)))=true->False)/\((!dec (RankIn l all)||(!dec (0<=thing/\thing<64)||decide (all=2000)))=false->(RankIn l all/\RankIn [Dat.node [.int (i64.wrap ((64:Int)+thing)),.int (1:Int)]] (1:Int))/\all+1=all+1/\dPrs (knots (bothNums (prs l) (prs [Dat.node [.int
 (i64.wrap ((64:Int)+thing)),.int (1:Int)]]) (all+1)))=dPrs (rankAdd (prs l) all thing)):=by
 intro _ _ _;simp only[iv,kv,fv,nm];obtain⟨hr,h1,h2,h3⟩:=hp;have hr0:=hr;obtain⟨a1,a2,ka,_⟩:=hr;rw[wrap_ok (n:=64+thing) (by omega) (by omega)];have e:prs [Dat.node [.int (64+thing),.int 1]]=[(64+thing,1)]:=rfl;refine⟨fun h=>?_,fun _=>⟨⟨hr0,by omega,by omega,fun i hi=>?_,?_⟩,?_⟩⟩
 · rcases h with h | h | h
   · exact h hr0
   · exact h ⟨h1,h2⟩
   · omega
 · have:i=0:=by simpa using hi
   subst this;have e0:fv [Dat.node [.int (64+thing),.int 1]] 0 0=64+thing:=rfl;have e1:fv [Dat.node [.int (64+thing),.int 1]] 0 1=1:=rfl;rw[e0,e1];omega
 · show IntKind.i64.wrap (0+1)=1
   decide
 · rw[e];rfl
def iRankAdd_get:List SV->St->Option Got
 | [.agg [.sl ty0 l,.int .i64 all],.int .i64 thing],⟨[],[],[]⟩=>guardTy ty0 TPr (some (RankIn l all/\0<=thing/\thing<64/\all<2000,.tup [.agg [.own 0,.int .i64 (all+1)],.tt],St.mk [] [] [⟨165,.im TPr,dPrs (rankAdd (prs l) all thing),0,false⟩]))
 | _,_=>none
theorem iRankAdd_ok:Ok0 prog 289 iRankAdd_get:=by
 intro _ _ _ _ _ h hp;unfold iRankAdd_get at h;split at h
 · rename_i l all thing;replace h:=gT h;obtain⟨rfl,h⟩:=h;cases h;refine fz [iRankOk_con,iIsThing_con,rankSum_con] func289 ?_;apply VC.thru (iRankAdd_vc l all thing hp);kernel_rfl
 · cases h
def iRankAdd_con:Con prog:=.f0 289 [] true iRankAdd_get (en func289 rfl) iRankAdd_ok
def cmpI (a b:Int):Int:=if a<b then -1 else if b<a then 1 else 0
theorem iIsNaN_vc (a:Int) :
 I64 a->decide (a≠a)=false:=by
 intro _;simp only[iv,kv,fv,nm]
def iIsNaN_get:List SV->St->Option Got
 | [.int .i64 _],⟨[],[],[]⟩=>some (True,.ff,St.mk [] [] [])
 | _,_=>none
theorem iIsNaN_ok:Ok0 prog 246 iIsNaN_get:=by
 intro _ _ _ _ _ h hp;unfold iIsNaN_get at h;split at h
 · rename_i a;cases h;refine fz [] func246 ?_;apply VC.thru (iIsNaN_vc a);kernel_rfl
 · cases h
def iIsNaN_con:Con prog:=.f0 246 [] true iIsNaN_get (en func246 rfl) iIsNaN_ok
theorem iCompare_vc (a b:Int) :
 I64 a->I64 b->True/\True/\(decide (a<b)->-1=cmpI a b)/\(decide (a<b)=false->(decide (a > b)->1=cmpI a b)/\(decide (a > b)=false->0=cmpI a b)):=by
 intro _ _;simp only[iv,kv,fv,nm];exact⟨fun h=>by rw[cmpI,if_pos h],fun h=>⟨fun h2=>by rw[cmpI,if_neg h,if_pos h2],fun h2=>by rw[cmpI,if_neg h,if_neg h2]⟩⟩
def iCompare_get:List SV->St->Option Got
 | [.int .i64 a,.int .i64 b],⟨[],[],[]⟩=>some (True,.int .i64 (cmpI a b),St.mk [] [] [])
 | _,_=>none
theorem iCompare_ok:Ok0 prog 242 iCompare_get:=by
 intro _ _ _ _ _ h hp;unfold iCompare_get at h;split at h
 · rename_i a b;cases h;refine fz [iIsNaN_con] func242 ?_;apply VC.thru (iCompare_vc a b);kernel_rfl
 · cases h
def iCompare_con:Con prog:=.f0 242 [] true iCompare_get (en func242 rfl) iCompare_ok
theorem iByThing_vc (a b c d:Int) :
 I64 a->I64 b->I64 c->I64 d->I64 a->I64 c->True/\cmpI a c=cmpI a c:=by
 intro _ _ _ _;exact fun _ _=>⟨trivial,rfl⟩
def iByThing_get:List SV->St->Option Got
 | [.agg [.int .i64 a,.int .i64 _],.agg [.int .i64 c,.int .i64 _]],⟨[],[],[]⟩=>some (True,.int .i64 (cmpI a c),St.mk [] [] [])
 | _,_=>none
theorem iByThing_ok:Ok0 prog 235 iByThing_get:=by
 intro _ _ _ _ _ h hp;unfold iByThing_get at h;split at h
 · rename_i a b c d;cases h;refine fz [iCompare_con] func235 ?_;apply VC.thru (iByThing_vc a b c d);kernel_rfl
 · cases h
def iByThing_con:Con prog:=.f0 235 [] true iByThing_get (en func235 rfl) iByThing_ok
theorem iByNum_vc (a b c d:Int) :
 I64 a->I64 b->I64 c->I64 d->I64 d->I64 b->True/\cmpI d b=cmpI d b:=by
 intro _ _ _ _;exact fun _ _=>⟨trivial,rfl⟩
def iByNum_get:List SV->St->Option Got
 | [.agg [.int .i64 _,.int .i64 b],.agg [.int .i64 _,.int .i64 d]],⟨[],[],[]⟩=>some (True,.int .i64 (cmpI d b),St.mk [] [] [])
 | _,_=>none
theorem iByNum_ok:Ok0 prog 236 iByNum_get:=by
 intro _ _ _ _ _ h hp;unfold iByNum_get at h;split at h
 · rename_i a b c d;cases h;refine fz [iCompare_con] func236 ?_;apply VC.thru (iByNum_vc a b c d);kernel_rfl
 · cases h
def iByNum_con:Con prog:=.f0 236 [] true iByNum_get (en func236 rfl) iByNum_ok
end
end E
end Go.Proofs.YtlfohjkcajaebaaGreat
