/- Texts that the claim stands on, part 6. -/
import Derived.Test.YtlfohjkcajaebaaGreatQK5
import Derived.Test.YtlfohjkcajaebaaGreatProg
import Derived.Test.YtlfohjkcajaebaaGreatQK0
import Derived.Lib.AppendZeros
import Derived.WalkKit
import Derived.OwnWalk
import Derived.Below
import Derived.KernelRfl
import Derived.Tactics2
import Derived.Lib.Walk
import Derived.Lib.Strings
import Derived.Lib.Slices
import Derived.Laws.MakeOwn
set_option linter.all false
namespace Go.Proofs.YtlfohjkcajaebaaGreat
open Go Go.RowKit
open Go.IntKind (i64)
open Tryz
namespace E
noncomputable section
set_option maxRecDepth 100000
abbrev kOf (K:Dat->Int) (l:List Dat) (i:Nat):Int:=K (l.getD i default)
def byT (d:Dat):Int:=(d.f 0).toInt
def byN (d:Dat):Int:=-(d.f 1).toInt
def SortedTo (l:List Dat) (K:Dat->Int) (n:Nat):Prop:=∀p q,p<q->q<n->kOf K l p<=kOf K l q
def SortedBut (l:List Dat) (K:Dat->Int) (n j:Nat):Prop:=∀p q,p<q->q<=n->q≠j->kOf K l p<=kOf K l q
def swapP (l:List Dat) (j:Nat):List Dat:=(l.set j (l.getD (j-1) default)).set (j-1) (l.getD j default)
theorem swapP_fv {l:List Dat} {j:Nat} (hj:j<l.length) (h0:0<j) (k:Nat) (K:Dat->Int):kOf K (swapP l j) k=if k=j-1 then kOf K l j else if k=j then kOf K l (j-1) else kOf K l k:=by
 unfold swapP kOf;rw[getD_set,List.length_set,getD_set];by_cases h1:k=j-1
 · rw[if_pos h1,if_pos ⟨h1.symm,by omega⟩]
 · rw[if_neg h1,if_neg (fun h=>h1 h.1.symm)];by_cases h2:k=j
   · rw[if_pos h2,if_pos ⟨h2.symm,by omega⟩]
   · rw[if_neg h2,if_neg (fun h=>h2 h.1.symm)]
theorem swapP_perm {l:List Dat} {j:Nat} (hj:j<l.length) (h0:0<j):(swapP l j).Perm l:=by
 have h1:=List.set_set_perm (i:=j) (j:=j-1) hj (by omega);unfold swapP;rw[List.getD_eq_getElem?_getD,List.getElem?_eq_getElem (by omega),List.getD_eq_getElem?_getD,List.getElem?_eq_getElem hj];exact h1
theorem swapP_but {l:List Dat} {j n:Nat} {K:Dat->Int} (h:SortedBut l K n j) (hjn:j<=n) (hn:n<l.length) (h0:0<j) (hlt:kOf K l j<kOf K l (j-1)):SortedBut (swapP l j) K n (j-1):=by
 intro p q hpq hq hne;rw[swapP_fv (by omega) h0,swapP_fv (by omega) h0,if_neg hne];by_cases e:q=j
 · rw[if_pos e];by_cases e1:p=j-1
   · rw[if_pos e1];omega
   · rw[if_neg e1,if_neg (by omega)];exact h p (j-1) (by omega) (by omega) (by omega)
 · rw[if_neg e];by_cases e1:p=j-1
   · rw[if_pos e1];exact h j q (by omega) hq e
   · rw[if_neg e1];by_cases e2:p=j
     · rw[if_pos e2];exact h (j-1) q (by omega) hq e
     · rw[if_neg e2];exact h p q hpq hq e
theorem but_end {l:List Dat} {j n:Nat} {K:Dat->Int} (h:SortedBut l K n j) (hjn:j<=n) (hj:0<j->kOf K l (j-1)<=kOf K l j):SortedTo l K (n+1):=by
 intro p q hpq hq;by_cases e:q=j
 · subst e;have h1:=hj (by omega);rcases Nat.lt_or_ge p (q-1) with h2 | h2
   · have:=h p (q-1) h2 (by omega) (by omega);omega
   · rw[show p=q-1 from by omega];exact h1
 · exact h p q hpq (by omega) e
theorem to_but {l:List Dat} {n:Nat} {K:Dat->Int} (h:SortedTo l K n):SortedBut l K n n:=fun p q hpq hq hne=>h p q hpq (by omega)
theorem cmpI_lt {a b:Int}:cmpI a b<0 ↔ a<b:=by
 unfold cmpI;split
 · simp_all
 · split<;>simp_all
theorem pr_eta {l g:List Dat} (hw:WFl (.st [.int .i64,.int .i64]) l) (hp:g.Perm l) {i:Nat} (hi:i<g.length):Dat.node [.int ((g.getD i default).f 0).toInt,.int ((g.getD i default).f 1).toInt]=g.getD i default:=by
 have hm:g.getD i default∈l:=by
   rw[List.getD_eq_getElem?_getD,List.getElem?_eq_getElem hi];exact hp.subset (List.getElem_mem hi)
 exact (wf_pr (hw.2 _ hm)).1.symm
theorem iInsThing_vc (l:List Dat) (n:Int) (hp:n=l.length/\l.length<=1000) :
 I64 (0:Int)->I64 n->WFl (OT.im TPr).ty l->(∃(x:Nat×List Dat),(x.fst<=l.length+1/\1<=x.fst/\x.snd.Perm l/\SortedTo x.snd byT x.fst)/\(0:Int)=0/\n=n/\i64.wrap ((0:Int)+1)=(x.fst:Int)/\l=x.snd)/\∀(x:Nat×List Dat),x.fst<=l.length+1/\1<=x.fst/\x.snd.Perm l/\SortedTo x.snd byT x.fst->(decide ((x.fst:Int)<n)->(∃(x_1:Nat×List Dat),(x_1.fst<=x.fst/\x_1.snd.Perm l/\SortedBut x_1.snd byT x.fst
 x_1.fst)/\(0:Int)=0/\n=n/\(x.fst:Int)=(x.fst:Int)/\(x.fst:Int)=(x_1.fst:Int)/\x.snd=x_1.snd)/\∀(x_1:Nat×List Dat),x_1.fst<=x.fst/\x_1.snd.Perm l/\SortedBut x_1.snd byT x.fst x_1.fst->((decide ((x_1.fst:Int) > (0:Int))->(0<=(x_1.fst:Int)/\(x_1.fst:Int)<(x_1.snd.length:Int))/\x_1.fst<x_1.snd.length/\(0<=i64.wrap ((x_1.fst:Int)-1)/\i64.wrap ((x_1.fst:Int)-1)<(x_1.snd.length:Int))/\(i64.wrap
 ((x_1.fst:Int)-1)).toNat<x_1.snd.length/\True)/\True)/\((decide ((x_1.fst:Int) > (0:Int))&&decide (cmpI ((x_1.snd.getD x_1.fst default).f 0).toInt ((x_1.snd.getD (i64.wrap ((x_1.fst:Int)-1)).toNat default).f 0).toInt<(0:Int)))=true->(0<=i64.wrap ((x_1.fst:Int)-1)/\i64.wrap ((x_1.fst:Int)-1)<(x_1.snd.length:Int))/\(i64.wrap
 ((x_1.fst:Int)-1)).toNat<x_1.snd.length/\(0<=(x_1.fst:Int)/\(x_1.fst:Int)<(x_1.snd.length:Int))/\x_1.fst<x_1.snd.length/\(0<=(x_1.fst:Int)/\(x_1.fst:Int)<(x_1.snd.length:Int))/\x_1.fst<x_1.snd.length/\(0<=i64.wrap ((x_1.fst:Int)-1)/\i64.wrap ((x_1.fst:Int)-1)<(↑(x_1.snd.set x_1.fst (Dat.node [.int ((x_1.snd.getD (i64.wrap ((x_1.fst:Int)-1)).toNat default).f 0).toInt,.int ((x_1.snd.getD (i64.wrap
 ((x_1.fst:Int)-1)).toNat default).f 1).toInt])).length:Int))/\(i64.wrap ((x_1.fst:Int)-1)).toNat<(x_1.snd.set x_1.fst (Dat.node [.int ((x_1.snd.getD (i64.wrap ((x_1.fst:Int)-1)).toNat default).f 0).toInt,.int ((x_1.snd.getD (i64.wrap ((x_1.fst:Int)-1)).toNat default).f 1).toInt])).length/\∃(x_2:Nat×List Dat),((x_2.fst<=x.fst/\x_2.snd.Perm l/\SortedBut x_2.snd byT x.fst
 x_2.fst)/\x_2.fst<x_1.fst)/\(0:Int)=0/\n=n/\(x.fst:Int)=(x.fst:Int)/\i64.wrap ((x_1.fst:Int)-1)=(x_2.fst:Int)/\(x_1.snd.set x_1.fst (Dat.node [.int ((x_1.snd.getD (i64.wrap ((x_1.fst:Int)-1)).toNat default).f 0).toInt,.int ((x_1.snd.getD (i64.wrap ((x_1.fst:Int)-1)).toNat default).f 1).toInt])).set (i64.wrap ((x_1.fst:Int)-1)).toNat (Dat.node [.int ((x_1.snd.getD x_1.fst default).f 0).toInt,.int
 ((x_1.snd.getD x_1.fst default).f 1).toInt])=x_2.snd)/\((decide ((x_1.fst:Int) > (0:Int))&&decide (cmpI ((x_1.snd.getD x_1.fst default).f 0).toInt ((x_1.snd.getD (i64.wrap ((x_1.fst:Int)-1)).toNat default).f 0).toInt<(0:Int)))=false->∃(x_2:Nat×List Dat),((x_2.fst<=l.length+1/\1<=x_2.fst/\x_2.snd.Perm l/\SortedTo x_2.snd byT x_2.fst)/\l.length+1-x_2.fst<l.length+1-x.fst)/\(0:Int)=0/\n=n/\i64.wrap
 ((x.fst:Int)+1)=(x_2.fst:Int)/\x_1.snd=x_2.snd))/\(decide ((x.fst:Int)<n)=false->∃x_1:List Dat,(x_1.Perm l/\SortedTo x_1 byT x_1.length)/\x.snd=x_1):=by
 intro hw;simp only[iv,kv,fv,nm];obtain⟨hn,hl⟩:=hp;intro _ hwl;refine⟨⟨(1,l),⟨by simp only;omega,by simp only;omega,List.Perm.refl _,fun p q h1 h2=>by simp only at h2;omega⟩,rfl,rfl⟩,fun x hx=>⟨fun hlt=>⟨⟨(x.1,x.2),⟨Nat.le_refl _,hx.2.2.1,to_but hx.2.2.2⟩,rfl,rfl⟩,fun y hy=>?_⟩,fun hlt=>⟨x.2,⟨hx.2.2.1,?_⟩,rfl⟩⟩⟩
 · have hlen:=hy.2.1.length_eq;have hxl:x.1<l.length:=by omega
   have hw1:0<y.1->IntKind.i64.wrap ((y.1:Int)-1)=((y.1-1:Nat):Int):=fun h=>down_ok h (by omega)
   refine⟨fun h=>?_,fun hc=>?_,fun hc=>?_⟩
   · rw[hw1 (by omega),Int.toNat_natCast];omega
   · have h0:0<y.1:=by omega
     rw[hw1 h0,Int.toNat_natCast] at hc ⊢;rw[cmpI_lt] at hc;rw[pr_eta (l:=l) hwl hy.2.1 (i:=y.1) (by omega),pr_eta (l:=l) hwl hy.2.1 (i:=y.1-1) (by omega)];simp only[List.length_set];exact⟨by omega,by omega,by omega,by omega,by omega,by omega,by omega,by omega,(y.1-1,swapP y.2 y.1),⟨⟨by simp only;omega,(swapP_perm (by omega) h0).trans hy.2.1,swapP_but hy.2.2 hy.1 (by omega) h0 hc.2⟩,by simp only;omega⟩,rfl,rfl⟩
   · refine⟨(x.1+1,y.2),⟨⟨by simp only;omega,by simp only;omega,hy.2.1,but_end hy.2.2 hy.1 (fun h0=>?_)⟩,by simp only;omega⟩,up_ok (n:=l.length) hxl (by omega),rfl⟩;rcases hc with hc | hc
     · omega
     · rw[hw1 h0,Int.toNat_natCast,cmpI_lt] at hc;simp only[kOf,byT];omega
 · have hlen:=hx.2.2.1.length_eq;exact fun p q h1 h2=>hx.2.2.2 p q h1 (by omega)
def iInsThing_get:List SV->St->Option (Prop×(List Dat->Prop×SV×St))
 | [.own 0,.int .i64 0,.int .i64 n,.fn 235 []],⟨[],[],[⟨163,.im ty0,l,0,true⟩]⟩=>guardTy ty0 TPr (some (n=l.length/\l.length<=1000,(fun g=>(g.Perm l/\SortedTo g byT g.length,.tup [],St.mk [] [] [⟨163,.im TPr,g,0,true⟩]):List Dat->Prop×SV×St)))
 | _,_=>none
theorem iInsThing_ok:OkG prog 247 (List Dat) iInsThing_get:=by
 intro _ _ _ _ h hp;unfold iInsThing_get at h;split at h
 · rename_i n _ l;replace h:=gT h;obtain⟨rfl,h⟩:=h;cases h;refine gl [iByThing_con] (fun k=>bif Nat.beq k 1 then some (.g (⟨Nat×List Dat,fun s g=>hd s [0,1,2,3] [(8,.int .i64 g.1)] [⟨163,.im TPr,g.2,0,true⟩],fun _ g=>g.1<=l.length+1/\1<=g.1/\g.2.Perm l/\SortedTo g.2 byT g.1,fun g=>l.length+1-g.1⟩)) else bif Nat.beq k 4 then some (.g (⟨Nat×List Dat,fun s g=>hd s [0,1,2,3,8] [(9,.int .i64 g.1)] [⟨163,.im TPr,g.2,0,true⟩],fun s g=>g.1<=svN s 8/\g.2.Perm l/\SortedBut g.2 byT (svN s 8) g.1,fun g=>g.1⟩)) else none) func247 ?_;apply VC.thru (iInsThing_vc l n hp);kernel_rfl
 · cases h
def iInsThing_con:Con prog:=.fg 247 [.lend] false (List Dat) iInsThing_get (en func247 rfl) iInsThing_ok
theorem iInsNum_vc (l:List Dat) (n:Int) (hp:n=l.length/\l.length<=1000) :
 I64 (0:Int)->I64 n->WFl (OT.im TPr).ty l->(∃(x:Nat×List Dat),(x.fst<=l.length+1/\1<=x.fst/\x.snd.Perm l/\SortedTo x.snd byN x.fst)/\(0:Int)=0/\n=n/\i64.wrap ((0:Int)+1)=(x.fst:Int)/\l=x.snd)/\∀(x:Nat×List Dat),x.fst<=l.length+1/\1<=x.fst/\x.snd.Perm l/\SortedTo x.snd byN x.fst->(decide ((x.fst:Int)<n)->(∃(x_1:Nat×List Dat),(x_1.fst<=x.fst/\x_1.snd.Perm l/\SortedBut x_1.snd byN x.fst
 x_1.fst)/\(0:Int)=0/\n=n/\(x.fst:Int)=(x.fst:Int)/\(x.fst:Int)=(x_1.fst:Int)/\x.snd=x_1.snd)/\∀(x_1:Nat×List Dat),x_1.fst<=x.fst/\x_1.snd.Perm l/\SortedBut x_1.snd byN x.fst x_1.fst->((decide ((x_1.fst:Int) > (0:Int))->(0<=(x_1.fst:Int)/\(x_1.fst:Int)<(x_1.snd.length:Int))/\x_1.fst<x_1.snd.length/\(0<=i64.wrap ((x_1.fst:Int)-1)/\i64.wrap ((x_1.fst:Int)-1)<(x_1.snd.length:Int))/\(i64.wrap
 ((x_1.fst:Int)-1)).toNat<x_1.snd.length/\True)/\True)/\((decide ((x_1.fst:Int) > (0:Int))&&decide (cmpI ((x_1.snd.getD (i64.wrap ((x_1.fst:Int)-1)).toNat default).f 1).toInt ((x_1.snd.getD x_1.fst default).f 1).toInt<(0:Int)))=true->(0<=i64.wrap ((x_1.fst:Int)-1)/\i64.wrap ((x_1.fst:Int)-1)<(x_1.snd.length:Int))/\(i64.wrap
 ((x_1.fst:Int)-1)).toNat<x_1.snd.length/\(0<=(x_1.fst:Int)/\(x_1.fst:Int)<(x_1.snd.length:Int))/\x_1.fst<x_1.snd.length/\(0<=(x_1.fst:Int)/\(x_1.fst:Int)<(x_1.snd.length:Int))/\x_1.fst<x_1.snd.length/\(0<=i64.wrap ((x_1.fst:Int)-1)/\i64.wrap ((x_1.fst:Int)-1)<(↑(x_1.snd.set x_1.fst (Dat.node [.int ((x_1.snd.getD (i64.wrap ((x_1.fst:Int)-1)).toNat default).f 0).toInt,.int ((x_1.snd.getD (i64.wrap
 ((x_1.fst:Int)-1)).toNat default).f 1).toInt])).length:Int))/\(i64.wrap ((x_1.fst:Int)-1)).toNat<(x_1.snd.set x_1.fst (Dat.node [.int ((x_1.snd.getD (i64.wrap ((x_1.fst:Int)-1)).toNat default).f 0).toInt,.int ((x_1.snd.getD (i64.wrap ((x_1.fst:Int)-1)).toNat default).f 1).toInt])).length/\∃(x_2:Nat×List Dat),((x_2.fst<=x.fst/\x_2.snd.Perm l/\SortedBut x_2.snd byN x.fst
 x_2.fst)/\x_2.fst<x_1.fst)/\(0:Int)=0/\n=n/\(x.fst:Int)=(x.fst:Int)/\i64.wrap ((x_1.fst:Int)-1)=(x_2.fst:Int)/\(x_1.snd.set x_1.fst (Dat.node [.int ((x_1.snd.getD (i64.wrap ((x_1.fst:Int)-1)).toNat default).f 0).toInt,.int ((x_1.snd.getD (i64.wrap ((x_1.fst:Int)-1)).toNat default).f 1).toInt])).set (i64.wrap ((x_1.fst:Int)-1)).toNat (Dat.node [.int ((x_1.snd.getD x_1.fst default).f 0).toInt,.int
 ((x_1.snd.getD x_1.fst default).f 1).toInt])=x_2.snd)/\((decide ((x_1.fst:Int) > (0:Int))&&decide (cmpI ((x_1.snd.getD (i64.wrap ((x_1.fst:Int)-1)).toNat default).f 1).toInt ((x_1.snd.getD x_1.fst default).f 1).toInt<(0:Int)))=false->∃(x_2:Nat×List Dat),((x_2.fst<=l.length+1/\1<=x_2.fst/\x_2.snd.Perm l/\SortedTo x_2.snd byN x_2.fst)/\l.length+1-x_2.fst<l.length+1-x.fst)/\(0:Int)=0/\n=n/\i64.wrap
 ((x.fst:Int)+1)=(x_2.fst:Int)/\x_1.snd=x_2.snd))/\(decide ((x.fst:Int)<n)=false->∃x_1:List Dat,(x_1.Perm l/\SortedTo x_1 byN x_1.length)/\x.snd=x_1):=by
 intro hw;simp only[iv,kv,fv,nm];obtain⟨hn,hl⟩:=hp;intro _ hwl;refine⟨⟨(1,l),⟨by simp only;omega,by simp only;omega,List.Perm.refl _,fun p q h1 h2=>by simp only at h2;omega⟩,rfl,rfl⟩,fun x hx=>⟨fun hlt=>⟨⟨(x.1,x.2),⟨Nat.le_refl _,hx.2.2.1,to_but hx.2.2.2⟩,rfl,rfl⟩,fun y hy=>?_⟩,fun hlt=>⟨x.2,⟨hx.2.2.1,?_⟩,rfl⟩⟩⟩
 · have hlen:=hy.2.1.length_eq;have hxl:x.1<l.length:=by omega
   have hw1:0<y.1->IntKind.i64.wrap ((y.1:Int)-1)=((y.1-1:Nat):Int):=fun h=>down_ok h (by omega)
   refine⟨fun h=>?_,fun hc=>?_,fun hc=>?_⟩
   · rw[hw1 (by omega),Int.toNat_natCast];omega
   · have h0:0<y.1:=by omega
     rw[hw1 h0,Int.toNat_natCast] at hc ⊢;rw[cmpI_lt] at hc;rw[pr_eta (l:=l) hwl hy.2.1 (i:=y.1) (by omega),pr_eta (l:=l) hwl hy.2.1 (i:=y.1-1) (by omega)];simp only[List.length_set];exact⟨by omega,by omega,by omega,by omega,by omega,by omega,by omega,by omega,(y.1-1,swapP y.2 y.1),⟨⟨by simp only;omega,(swapP_perm (by omega) h0).trans hy.2.1,swapP_but hy.2.2 hy.1 (by omega) h0 (by simp only[kOf,byN];omega)⟩,by simp only;omega⟩,rfl,rfl⟩
   · refine⟨(x.1+1,y.2),⟨⟨by simp only;omega,by simp only;omega,hy.2.1,but_end hy.2.2 hy.1 (fun h0=>?_)⟩,by simp only;omega⟩,up_ok (n:=l.length) hxl (by omega),rfl⟩;rcases hc with hc | hc
     · omega
     · rw[hw1 h0,Int.toNat_natCast,cmpI_lt] at hc;simp only[kOf,byN];omega
 · have hlen:=hx.2.2.1.length_eq;exact fun p q h1 h2=>hx.2.2.2 p q h1 (by omega)
def iInsNum_get:List SV->St->Option (Prop×(List Dat->Prop×SV×St))
 | [.own 0,.int .i64 0,.int .i64 n,.fn 236 []],⟨[],[],[⟨163,.im ty0,l,0,true⟩]⟩=>guardTy ty0 TPr (some (n=l.length/\l.length<=1000,(fun g=>(g.Perm l/\SortedTo g byN g.length,.tup [],St.mk [] [] [⟨163,.im TPr,g,0,true⟩]):List Dat->Prop×SV×St)))
 | _,_=>none
theorem iInsNum_ok:OkG prog 247 (List Dat) iInsNum_get:=by
 intro _ _ _ _ h hp;unfold iInsNum_get at h;split at h
 · rename_i n _ l;replace h:=gT h;obtain⟨rfl,h⟩:=h;cases h;refine gl [iByNum_con] (fun k=>bif Nat.beq k 1 then some (.g (⟨Nat×List Dat,fun s g=>hd s [0,1,2,3] [(8,.int .i64 g.1)] [⟨163,.im TPr,g.2,0,true⟩],fun _ g=>g.1<=l.length+1/\1<=g.1/\g.2.Perm l/\SortedTo g.2 byN g.1,fun g=>l.length+1-g.1⟩)) else bif Nat.beq k 4 then some (.g (⟨Nat×List Dat,fun s g=>hd s [0,1,2,3,8] [(9,.int .i64 g.1)] [⟨163,.im TPr,g.2,0,true⟩],fun s g=>g.1<=svN s 8/\g.2.Perm l/\SortedBut g.2 byN (svN s 8) g.1,fun g=>g.1⟩)) else none) func247 ?_;apply VC.thru (iInsNum_vc l n hp);kernel_rfl
 · cases h
def iInsNum_con:Con prog:=.fg 247 [.lend] false (List Dat) iInsNum_get (en func247 rfl) iInsNum_ok
theorem iPdqThing_vc (l:List Dat) (n lim:Int) (hp:n=l.length/\l.length<=12) :
 I64 (0:Int)->I64 n->I64 lim->WFl (OT.im TPr).ty l->(∃_:Unit,True/\(0:Int)=0/\n=n/\lim=lim/\l=l)/\∀_:Unit,True->(decide (i64.wrap (n-0)<=12)->(n=(l.length:Int)/\l.length<=1000)/\∀x:List Dat,x.Perm l/\SortedTo x byT x.length->∃x_1:List Dat,(x_1.Perm l/\SortedTo x_1 byT x_1.length)/\x=x_1)/\(decide (i64.wrap (n-0)<=12)=false->(decide (lim=0)->False)/\(decide (lim=0)=false->False)):=by
 intro hw;simp only[iv,kv,fv,nm];obtain⟨hn,hl⟩:=hp;intro _ _ _;refine⟨⟨(),trivial⟩,fun _ _=>⟨fun _=>⟨⟨hn,by omega⟩,fun g hg=>⟨g,hg,rfl⟩⟩,fun h=>?_⟩⟩;rw[wrap_ok (by omega) (by omega)] at h;omega
def iPdqThing_get:List SV->St->Option (Prop×(List Dat->Prop×SV×St))
 | [.own 0,.int .i64 0,.int .i64 n,.int .i64 _,.fn 235 []],⟨[],[],[⟨163,.im ty0,l,0,true⟩]⟩=>guardTy ty0 TPr (some (n=l.length/\l.length<=12,(fun g=>(g.Perm l/\SortedTo g byT g.length,.tup [],St.mk [] [] [⟨163,.im TPr,g,0,true⟩]):List Dat->Prop×SV×St)))
 | _,_=>none
theorem iPdqThing_ok:OkG prog 243 (List Dat) iPdqThing_get:=by
 intro _ _ _ _ h hp;unfold iPdqThing_get at h;split at h
 · rename_i n lim _ l;replace h:=gT h;obtain⟨rfl,h⟩:=h;cases h;refine gl [iInsThing_con] (fun k=>bif Nat.beq k 2 then some (.g (⟨Unit,fun s _=>hd s [0,1,2,3,4,10,11] [] s.rw,fun _ _=>True,fun _=>0⟩)) else none) func243 ?_;apply VC.thru (iPdqThing_vc l n lim hp);kernel_rfl
 · cases h
def iPdqThing_con:Con prog:=.fg 243 [.lend] false (List Dat) iPdqThing_get (en func243 rfl) iPdqThing_ok
theorem iPdqNum_vc (l:List Dat) (n lim:Int) (hp:n=l.length/\l.length<=12) :
 I64 (0:Int)->I64 n->I64 lim->WFl (OT.im TPr).ty l->(∃_:Unit,True/\(0:Int)=0/\n=n/\lim=lim/\l=l)/\∀_:Unit,True->(decide (i64.wrap (n-0)<=12)->(n=(l.length:Int)/\l.length<=1000)/\∀x:List Dat,x.Perm l/\SortedTo x byN x.length->∃x_1:List Dat,(x_1.Perm l/\SortedTo x_1 byN x_1.length)/\x=x_1)/\(decide (i64.wrap (n-0)<=12)=false->(decide (lim=0)->False)/\(decide (lim=0)=false->False)):=by
 intro hw;simp only[iv,kv,fv,nm];obtain⟨hn,hl⟩:=hp;intro _ _ _;refine⟨⟨(),trivial⟩,fun _ _=>⟨fun _=>⟨⟨hn,by omega⟩,fun g hg=>⟨g,hg,rfl⟩⟩,fun h=>?_⟩⟩;rw[wrap_ok (by omega) (by omega)] at h;omega
def iPdqNum_get:List SV->St->Option (Prop×(List Dat->Prop×SV×St))
 | [.own 0,.int .i64 0,.int .i64 n,.int .i64 _,.fn 236 []],⟨[],[],[⟨163,.im ty0,l,0,true⟩]⟩=>guardTy ty0 TPr (some (n=l.length/\l.length<=12,(fun g=>(g.Perm l/\SortedTo g byN g.length,.tup [],St.mk [] [] [⟨163,.im TPr,g,0,true⟩]):List Dat->Prop×SV×St)))
 | _,_=>none
theorem iPdqNum_ok:OkG prog 243 (List Dat) iPdqNum_get:=by
 intro _ _ _ _ h hp;unfold iPdqNum_get at h;split at h
 · rename_i n lim _ l;replace h:=gT h;obtain⟨rfl,h⟩:=h;cases h;refine gl [iInsNum_con] (fun k=>bif Nat.beq k 2 then some (.g (⟨Unit,fun s _=>hd s [0,1,2,3,4,10,11] [] s.rw,fun _ _=>True,fun _=>0⟩)) else none) func243 ?_;apply VC.thru (iPdqNum_vc l n lim hp);kernel_rfl
 · cases h
def iPdqNum_con:Con prog:=.fg 243 [.lend] false (List Dat) iPdqNum_get (en func243 rfl) iPdqNum_ok
theorem bitsLen_fn (n:Int) (h0:0<=n) (h1:n<=12):Fn prog 244 [.int .u64 n] ⟨[],[],[]⟩ Unit (fun _=>True) (fun _=>.int .i64 (Lib.bitLen n.toNat)) (fun _=>⟨[],[],[]⟩):=by
 refine fn_kit fun S E w vs hv=>?_
 obtain⟨v,_,rfl,⟨rfl,_⟩,rfl⟩:=hv;refine (Tryz.bits_Len n w h0 (by omega)).mono ?_;rintro e w' ⟨rfl,rfl⟩;refine⟨(),_,rfl,trivial,⟨rfl,rfl,rfl,Nat.le_refl _,fun _ _ _=>rfl⟩,rfl,?_⟩
 have:n=0\/n=1\/n=2\/n=3\/n=4\/n=5\/n=6\/n=7\/n=8\/n=9\/n=10\/n=11\/n=12:=by omega
 rcases this with rfl | rfl | rfl | rfl | rfl | rfl | rfl | rfl | rfl | rfl | rfl | rfl | rfl<;>(simp only[Has,lo,hi];decide)
def bitsLen_get (ins:List SV) (m:St):Option Got:=
 match ins,m with
 | [.int .u64 n],⟨[],[],[]⟩=>some (0<=n/\n<=12,.int .i64 (Lib.bitLen n.toNat),⟨[],[],[]⟩)
 | _,_=>none
theorem bitsLen_ok:∀ins m p out m',bitsLen_get ins m=some (p,out,m')->p->Fn prog 244 ins m Unit (fun _=>True) (fun _=>out) (fun _=>m'):=by
 intro ins m p out m' h hp;unfold bitsLen_get at h;split at h
 · cases h;exact bitsLen_fn _ hp.1 hp.2
 · cases h
def bitsLen_con:Con prog:=.f0 244 [] true bitsLen_get (enters func244 (by kernel_rfl) rfl) bitsLen_ok
theorem iSortThing_vc (l:List Dat) (hp:l.length<=12) :
 WFl (OT.im TPr).ty l->I64 (l.length:Int)->(0<=IntKind.u64.wrap (l.length:Int)/\IntKind.u64.wrap (l.length:Int)<=12)/\((l.length:Int)=(l.length:Int)/\l.length<=12)/\∀x:List Dat,x.Perm l/\SortedTo x byT x.length->∃x_1:List Dat,(x_1.Perm l/\SortedTo x_1 byT x_1.length)/\x=x_1:=by
 simp only[iv,kv,fv,nm];intro _ _;have hn:IntKind.u64.wrap (↑l.length:Int)=↑l.length:=by
   unfold IntKind.wrap;simp only[IntKind.bits];simp;omega
 rw[hn];exact⟨⟨by omega,by omega⟩,hp,fun g hg=>⟨g,hg,rfl⟩⟩
def iSortThing_get:List SV->St->Option (Prop×(List Dat->Prop×SV×St))
 | [.own 0,.fn 235 []],⟨[],[],[⟨163,.im ty0,l,0,true⟩]⟩=>guardTy ty0 TPr (some (l.length<=12,(fun g=>(g.Perm l/\SortedTo g byT g.length,.tup [],St.mk [] [] [⟨163,.im TPr,g,0,true⟩]):List Dat->Prop×SV×St)))
 | _,_=>none
theorem iSortThing_ok:OkG prog 237 (List Dat) iSortThing_get:=by
 intro _ _ _ _ h hp;unfold iSortThing_get at h;split at h
 · rename_i l;replace h:=gT h;obtain⟨rfl,h⟩:=h;cases h;refine gz [iPdqThing_con,bitsLen_con] func237 ?_;apply VC.thru (iSortThing_vc l hp);kernel_rfl
 · cases h
def iSortThing_con:Con prog:=.fg 237 [.lend] false (List Dat) iSortThing_get (en func237 rfl) iSortThing_ok
theorem iSortNum_vc (l:List Dat) (hp:l.length<=12) :
 WFl (OT.im TPr).ty l->I64 (l.length:Int)->(0<=IntKind.u64.wrap (l.length:Int)/\IntKind.u64.wrap (l.length:Int)<=12)/\((l.length:Int)=(l.length:Int)/\l.length<=12)/\∀x:List Dat,x.Perm l/\SortedTo x byN x.length->∃x_1:List Dat,(x_1.Perm l/\SortedTo x_1 byN x_1.length)/\x=x_1:=by
 simp only[iv,kv,fv,nm];intro _ _;have hn:IntKind.u64.wrap (↑l.length:Int)=↑l.length:=by
   unfold IntKind.wrap;simp only[IntKind.bits];simp;omega
 rw[hn];exact⟨⟨by omega,by omega⟩,hp,fun g hg=>⟨g,hg,rfl⟩⟩
def iSortNum_get:List SV->St->Option (Prop×(List Dat->Prop×SV×St))
 | [.own 0,.fn 236 []],⟨[],[],[⟨163,.im ty0,l,0,true⟩]⟩=>guardTy ty0 TPr (some (l.length<=12,(fun g=>(g.Perm l/\SortedTo g byN g.length,.tup [],St.mk [] [] [⟨163,.im TPr,g,0,true⟩]):List Dat->Prop×SV×St)))
 | _,_=>none
theorem iSortNum_ok:OkG prog 237 (List Dat) iSortNum_get:=by
 intro _ _ _ _ h hp;unfold iSortNum_get at h;split at h
 · rename_i l;replace h:=gT h;obtain⟨rfl,h⟩:=h;cases h;refine gz [iPdqNum_con,bitsLen_con] func237 ?_;apply VC.thru (iSortNum_vc l hp);kernel_rfl
 · cases h
def iSortNum_con:Con prog:=.fg 237 [.lend] false (List Dat) iSortNum_get (en func237 rfl) iSortNum_ok
theorem sortThing_vc (l:List Dat) (hp:l.length<=12) :
 I64 (0:Int)->WFl (OT.im TPr).ty l->(0<=(0:Int)/\0<(↑(2:Nat):Int))/\l.length<=12/\∀x:List Dat,x.Perm l/\SortedTo x byT x.length->∃x_1:List Dat,(x_1.Perm l/\SortedTo x_1 byT x_1.length)/\x=x_1:=by
 intro _ _;exact⟨⟨by omega,by omega⟩,hp,fun g hg=>⟨g,hg,rfl⟩⟩
def sortThing_get:List SV->St->Option (Prop×(List Dat->Prop×SV×St))
 | [.own 0,.int .i64 0],⟨[],[],[⟨163,.im ty0,l,0,true⟩]⟩=>guardTy ty0 TPr (some (l.length<=12,(fun g=>(g.Perm l/\SortedTo g byT g.length,.tup [],St.mk [] [] [⟨163,.im TPr,g,0,true⟩]):List Dat->Prop×SV×St)))
 | _,_=>none
theorem sortThing_ok:OkG prog 225 (List Dat) sortThing_get:=by
 intro _ _ _ _ h hp;unfold sortThing_get at h;split at h
 · rename_i l;replace h:=gT h;obtain⟨rfl,h⟩:=h;cases h;refine gz [iSortThing_con,iSortNum_con] func225 ?_;apply VC.thru (sortThing_vc l hp);kernel_rfl
 · cases h
def sortThing_con:Con prog:=.fg 225 [.lend] false (List Dat) sortThing_get (en func225 rfl) sortThing_ok
theorem sortNum_vc (l:List Dat) (hp:l.length<=12) :
 I64 (1:Int)->WFl (OT.im TPr).ty l->(0<=(1:Int)/\1<(↑(2:Nat):Int))/\l.length<=12/\∀x:List Dat,x.Perm l/\SortedTo x byN x.length->∃x_1:List Dat,(x_1.Perm l/\SortedTo x_1 byN x_1.length)/\x=x_1:=by
 intro _ _;exact⟨⟨by omega,by omega⟩,hp,fun g hg=>⟨g,hg,rfl⟩⟩
def sortNum_get:List SV->St->Option (Prop×(List Dat->Prop×SV×St))
 | [.own 0,.int .i64 1],⟨[],[],[⟨163,.im ty0,l,0,true⟩]⟩=>guardTy ty0 TPr (some (l.length<=12,(fun g=>(g.Perm l/\SortedTo g byN g.length,.tup [],St.mk [] [] [⟨163,.im TPr,g,0,true⟩]):List Dat->Prop×SV×St)))
 | _,_=>none
theorem sortNum_ok:OkG prog 225 (List Dat) sortNum_get:=by
 intro _ _ _ _ h hp;unfold sortNum_get at h;split at h
 · rename_i l;replace h:=gT h;obtain⟨rfl,h⟩:=h;cases h;refine gz [iSortThing_con,iSortNum_con] func225 ?_;apply VC.thru (sortNum_vc l hp);kernel_rfl
 · cases h
def sortNum_con:Con prog:=.fg 225 [.lend] false (List Dat) sortNum_get (en func225 rfl) sortNum_ok
section
set_option maxHeartbeats 1000000 in
theorem grow_pairs (n:Nat) (hn:n<=1000) (w:World):Calls prog 238 #[.slice none 0 0,.int .i64 n] w fun x w'=>∃v,x=.returned v/\KeepBut (fun _=>False) w w'/\ownsAt w' 163 2 v 0 []/\∀b,v.ownBlock=some b->w.heap.size<=b:=by
 rcases Nat.eq_zero_or_pos n with rfl | h0
 · go_enter func238,Tryz.ntmps238
   go_wp2
   go_ret
   exact⟨_,rfl,⟨rfl,rfl,rfl,Nat.le_refl _,fun _ _ _=>rfl⟩,⟨rfl,.inl ⟨rfl,rfl⟩⟩,fun b h=>by simp [Value.ownBlock] at h⟩
 · obtain⟨i0,hi,hz0,hz1,hz2⟩:=info_parts (show (prog.info? 163).map (fun i=>(i.zero,i.size,i.bytes))=some (some (.agg #[.int .i64 0,.int .i64 0]),2,16) by kernel_rfl);have happ:=fun w=>Lib.run_append_nil_zeros (P:=prog) w 37 3 37 163 i0 (.agg #[.int .i64 0,.int .i64 0]) .i64 .i64 Tryz.underlying37 Tryz.underlying3 hi hz0 n (by omega) (by omega) (by omega) (by rw[hz2];omega)
   go_enter func238,Tryz.ntmps238
   go_wp2_with (at_builtin;refine Lib.wpList_append_run _ rfl _ _ _ _ rfl _ _ rfl rfl _ _ (happ _) ?_)
   go_ret
   have hcapge:n<=grownCap w n 0 163:=grownCap_ge w _ 0 _;have hcaple:grownCap w n 0 163<=maxLen:=grownCap_le_maxLen w _ 0 _ (by unfold maxLen;omega);refine⟨_,rfl,⟨rfl,rfl,rfl,by simp,fun k hk _=>Below.heap_alloc w.drew _ k hk⟩,⟨rfl,.inr ⟨w.heap.size,0,grownCap w n 0 163,_,rfl,heap_alloc_new w.drew _,Nat.zero_le _,hcaple,?_,rfl⟩⟩,fun b h=>?_⟩
   · simp [size_zeroCells,Value.cells];omega
   · simp [Value.ownBlock] at h;omega
theorem iGrow_fn (n:Int) (h0:0<=n) (h1:n<=1000):Fn prog 238 [.nil,.int .i64 n] ⟨[],[],[]⟩ Unit (fun _=>True) (fun _=>.own 0) (fun _=>⟨[],[],[⟨163,.im (.st [.int .i64,.int .i64]),[],0,false⟩]⟩):=by
 refine fn_kit_row rfl fun S E w vs hv=>?_
 obtain⟨v,_,rfl,hv,u,_,rfl,⟨rfl,_⟩,rfl⟩:=hv;have hv:v=.slice none 0 0:=hv;subst hv
 have:=grow_pairs n.toNat (by omega) w
 rw[Int.toNat_of_nonneg h0] at this;exact this
def iGrow_get (ins:List SV) (m:St):Option Got:=
 match ins,m with
 | [.nil,.int .i64 n],⟨[],[],[]⟩=>some (0<=n/\n<=1000,.own 0,⟨[],[],[⟨163,.im (.st [.int .i64,.int .i64]),[],0,false⟩]⟩)
 | _,_=>none
theorem iGrow_ok:∀ins m p out m',iGrow_get ins m=some (p,out,m')->p->Fn prog 238 ins m Unit (fun _=>True) (fun _=>out) (fun _=>m'):=by
 intro ins m p out m' h hp;unfold iGrow_get at h;split at h
 · cases h;exact iGrow_fn _ hp.1 hp.2
 · cases h
def iGrow_con:Con prog:=.f0 238 [] true iGrow_get (enters func238 (by kernel_rfl) rfl) iGrow_ok
end
def kidsAll (l:List Dat):List Dat:=l.flatMap Dat.kids
theorem iCloneP_vc (l:List Dat) (hp:l.length<=1000) :
 WFl TPr l->∀(x:Bool),(l≠[]->x=false)->(x=true->([]:List Dat)=l)/\(x=false->(0+l.length)*16<=140737488355328/\[]++l=l):=by
 intro hw;simp only[iv,kv,fv,nm];intro x hx;refine⟨fun h=>?_,fun h=>⟨by omega,by simp⟩⟩;by_cases e:l=[]
 · exact e.symm
 · rw[hx e] at h;cases h
def iCloneP_get:List SV->St->Option Got
 | [.sl ty0 l],⟨[],[],[]⟩=>guardTy ty0 TPr (some (l.length<=1000,.own 0,St.mk [] [] [⟨163,.im TPr,l,0,false⟩]))
 | _,_=>none
theorem iCloneP_ok:Ok0 prog 118 iCloneP_get:=by
 intro _ _ _ _ _ h hp;unfold iCloneP_get at h;split at h
 · rename_i l;replace h:=gT h;obtain⟨rfl,h⟩:=h;cases h;refine fz [] func118 ?_;apply VC.thru (iCloneP_vc l hp);kernel_rfl
 · cases h
def iCloneP_con:Con prog:=.f0 118 [] true iCloneP_get (en func118 rfl) iCloneP_ok
theorem iConcat_vc (l:List Dat) (hp:(kidsAll l).length<=1000) :
 WFl TPr.sl l->I64 (l.length:Int)->(∃x:Nat,x<=l.length/\l=l/\0=(↑(kidsAll (List.take x l)).length:Int)/\l=l/\(l.length:Int)=(l.length:Int)/\0=(x:Int))/\∀x:Nat,x<=l.length->(decide ((x:Int)<(l.length:Int))->(0<=(x:Int)/\(x:Int)<(l.length:Int))/\(I64 (↑(l.getD x default).kids.length:Int)->(decide (i64.wrap ((↑(kidsAll (List.take x l)).length:Int)+(↑(l.getD x
 default).kids.length:Int))<0)->False)/\(decide (i64.wrap ((↑(kidsAll (List.take x l)).length:Int)+(↑(l.getD x default).kids.length:Int))<0)=false->∃x_1:Nat,(x_1<=l.length/\l.length-x_1<l.length-x)/\l=l/\i64.wrap ((↑(kidsAll (List.take x l)).length:Int)+(↑(l.getD x default).kids.length:Int))=(↑(kidsAll (List.take x_1 l)).length:Int)/\l=l/\(l.length:Int)=(l.length:Int)/\i64.wrap
 ((x:Int)+1)=(x_1:Int))))/\(decide ((x:Int)<(l.length:Int))=false->(0<=(↑(kidsAll (List.take x l)).length:Int)/\(↑(kidsAll (List.take x l)).length:Int)<=1000)/\(I64 (l.length:Int)->(∃x:Nat,x<=l.length/\l=l/\(l.length:Int)=(l.length:Int)/\0=(x:Int)/\([]:List Dat)=kidsAll (List.take x l))/\∀x:Nat,x<=l.length->(decide ((x:Int)<(l.length:Int))->(0<=(x:Int)/\(x:Int)<(l.length:Int))/\((kidsAll (List.take
 x l)).length+(l.getD x default).kids.length)*16<=140737488355328/\∃x_1:Nat,(x_1<=l.length/\l.length-x_1<l.length-x)/\l=l/\(l.length:Int)=(l.length:Int)/\i64.wrap ((x:Int)+1)=(x_1:Int)/\kidsAll (List.take x l)++(l.getD x default).kids=kidsAll (List.take x_1 l))/\(decide ((x:Int)<(l.length:Int))=false->kidsAll (List.take x l)=kidsAll l))):=by
 intro hw;simp only[iv,kv,fv,nm];intro _;have hnext:∀x,x<l.length->kidsAll (l.take (x+1))=kidsAll (l.take x)++(l.getD x default).kids:=fun x hx=>by
   rw[kidsAll,kidsAll,List.take_succ,List.flatMap_append,List.getElem?_eq_getElem hx,List.getD_eq_getElem?_getD,List.getElem?_eq_getElem hx];simp
 have hmono:∀x,(kidsAll (l.take x)).length<=(kidsAll l).length:=fun x=>by
   have:kidsAll l=kidsAll (l.take x)++kidsAll (l.drop x):=by rw[kidsAll,kidsAll,kidsAll,<- List.flatMap_append,List.take_append_drop]
   rw[this,List.length_append];omega
 have hlen:=hw.1;refine⟨⟨0,by omega,rfl,rfl⟩,fun x hx=>⟨fun hlt=>⟨by omega,fun _=>?_⟩,fun hlt=>⟨⟨by omega,by have:=hmono x;omega⟩,fun _=>⟨⟨0,by omega,rfl,rfl⟩,fun x hx=>⟨fun hlt=>⟨by omega,?_⟩,fun hlt=>by rw[List.take_of_length_le (by omega)]⟩⟩⟩⟩⟩
 · have h1:=hmono (x+1);have h2:=congrArg List.length (hnext x (by omega));rw[List.length_append] at h2;rw[wrap_ok (by omega) (by omega)];refine⟨fun h=>by omega,fun h=>⟨x+1,by omega,by omega,up_ok (n:=l.length) (by omega) (by omega)⟩⟩
 · have h1:=hmono (x+1);have h2:=hnext x (by omega);have h3:=congrArg List.length h2;rw[List.length_append] at h3;exact⟨by omega,x+1,by omega,up_ok (n:=l.length) (by omega) (by omega),h2.symm⟩
def iConcat_get:List SV->St->Option Got
 | [.sl (.sl ty0) l],⟨[],[],[]⟩=>guardTy ty0 TPr (some ((kidsAll l).length<=1000,.own 0,St.mk [] [] [⟨163,.im TPr,kidsAll l,0,false⟩]))
 | _,_=>none
theorem iConcat_ok:Ok0 prog 226 iConcat_get:=by
 intro _ _ _ _ _ h hp;unfold iConcat_get at h;split at h
 · rename_i l;replace h:=gT h;obtain⟨rfl,h⟩:=h;cases h;refine fl [iGrow_con] (fun k=>bif Nat.beq k 3 then some (.g (⟨Nat,fun s g=>hd s [0,9,10] [(3,.int .i64 (kidsAll (l.take g)).length),(11,.int .i64 g)] s.rw,fun _ g=>g<=l.length,fun g=>l.length-g⟩)) else bif Nat.beq k 11 then some (.g (⟨Nat,fun s g=>hd s [25,26] [(6,.own 0),(27,.int .i64 g)] [⟨163,.im TPr,kidsAll (l.take g),0,false⟩],fun _ g=>g<=l.length,fun g=>l.length-g⟩)) else none) func226 ?_;apply VC.thru (iConcat_vc l hp);kernel_rfl
 · cases h
def iConcat_con:Con prog:=.f0 226 [] true iConcat_get (en func226 rfl) iConcat_ok
def mergeStep (r:List (Int×Int)) (p:Int×Int):List (Int×Int):=match r.getLast? with
 | some q=>if q.1=p.1 then r.dropLast++[(q.1,q.2+p.2)] else r++[p]
 | none=>[p]
def mergeT (l:List (Int×Int)):List (Int×Int):=l.foldl mergeStep []
def bothP (a b:List (Int×Int)):List (Int×Int):=b.foldl topPut a
def AscP (l:List (Int×Int)):Prop:=l.Pairwise (fun p q=>p.1<q.1)
def PosP (l:List (Int×Int)):Prop:=∀p∈l,1<=p.2
theorem numOf_cons (p:Int×Int) (l:List (Int×Int)) (t:Int):numOf (p::l) t=(if p.1=t then p.2 else 0)+numOf l t:=by
 unfold numOf;by_cases h:p.1=t<;>simp [h]
theorem numOf_nil (t:Int):numOf [] t=0:=rfl
theorem numOf_append (l m:List (Int×Int)) (t:Int):numOf (l++m) t=numOf l t+numOf m t:=by
 unfold numOf;simp [List.filter_append]
theorem numOf_perm {l m:List (Int×Int)} (h:l.Perm m) (t:Int):numOf l t=numOf m t:=by
 induction h with
 | nil=>rfl
 | cons x _ ih=>rw[numOf_cons,numOf_cons,ih]
 | swap x y l=>rw[numOf_cons,numOf_cons,numOf_cons,numOf_cons];omega
 | trans _ _ ih1 ih2=>exact ih1.trans ih2
theorem numOf_mem {l:List (Int×Int)} (h:AscP l) {p:Int×Int} (hp:p∈l):numOf l p.1=p.2:=by
 induction l with
 | nil=>cases hp
 | cons q l ih=>
   obtain⟨h1,h2⟩:=List.pairwise_cons.1 h;rw[numOf_cons];rcases List.mem_cons.1 hp with rfl | hp
   · rw[if_pos rfl,numOf_zero (fun r hr=>by have:=h1 r hr;omega)];omega
   · have:=h1 p hp
     rw[if_neg (by omega),ih h2 hp];omega
theorem asc_unique:∀{l m:List (Int×Int)},AscP l->AscP m->PosP l->PosP m->(∀t,numOf l t=numOf m t)->l=m
 | [],[],_,_,_,_,_=>rfl
 | [],q::m,_,h,_,hp,he=>by
   have h1:=he q.1;rw[numOf_mem h (List.mem_cons_self ..),numOf_nil] at h1
   have:=hp q (List.mem_cons_self ..)
   omega
 | p::l,[],h,_,hp,_,he=>by
   have h1:=he p.1;rw[numOf_mem h (List.mem_cons_self ..),numOf_nil] at h1
   have:=hp p (List.mem_cons_self ..)
   omega
 | p::l,q::m,h1,h2,h3,h4,he=>by
   obtain⟨a1,a2⟩:=List.pairwise_cons.1 h1;obtain⟨b1,b2⟩:=List.pairwise_cons.1 h2;have hp:=h3 p (List.mem_cons_self ..);have hq:=h4 q (List.mem_cons_self ..);have e1:=he p.1;have e2:=he q.1;have n1:=numOf_mem h1 (List.mem_cons_self ..);have n2:=numOf_mem h2 (List.mem_cons_self ..);have hkey:p.1=q.1:=by
     rcases Int.lt_trichotomy p.1 q.1 with h | h | h
     · rw[n1,numOf_zero (l:=q::m) (t:=p.1) (fun r hr=>by
         rcases List.mem_cons.1 hr with rfl | hr
         · omega
         · have:=b1 r hr;omega)] at e1
       omega
     · exact h
     · rw[n2,numOf_zero (l:=p::l) (t:=q.1) (fun r hr=>by
         rcases List.mem_cons.1 hr with rfl | hr
         · omega
         · have:=a1 r hr;omega)] at e2
       omega
   have hpq:p=q:=by
     rw[n1,hkey,n2] at e1;exact Prod.ext hkey e1
   subst hpq;rw[asc_unique a2 b2 (fun r hr=>h3 r (List.mem_cons_of_mem _ hr)) (fun r hr=>h4 r (List.mem_cons_of_mem _ hr)) (fun t=>by have:=he t;rw[numOf_cons,numOf_cons] at this;omega)]
theorem mergeT_next (l:List (Int×Int)) (p:Int×Int):mergeT (l++[p])=mergeStep (mergeT l) p:=by
 unfold mergeT;rw[List.foldl_append];rfl
theorem mergeStep_last (r:List (Int×Int)) (q p:Int×Int):mergeStep (r++[q]) p=if q.1=p.1 then r++[(q.1,q.2+p.2)] else r++[q]++[p]:=by
 unfold mergeStep;simp
theorem list_snoc {α:Type} (l:List α):l=[]\/∃m x,l=m++[x]:=by
 rcases List.eq_nil_or_concat l with h | ⟨m,x,h⟩
 · exact .inl h
 · exact .inr ⟨m,x,by simpa using h⟩
structure Merged (l r:List (Int×Int)):Prop where
 asc:AscP r
 pos:PosP r
 key:∀p∈r,∃q∈l,q.1=p.1
 num:∀t,numOf r t=numOf l t
 len:r.length<=l.length
theorem merged:∀(l:List (Int×Int)),l.Pairwise (fun p q=>p.1<=q.1)->PosP l->Merged l (mergeT l):=by
 intro l;generalize hn:l.length=n
 induction n generalizing l with
 | zero=>
   intro _ _;rw[List.eq_nil_of_length_eq_zero hn];exact⟨List.Pairwise.nil,fun p hp=>(by cases hp),fun p hp=>(by cases hp),fun _=>rfl,Nat.le_refl _⟩
 | succ n ih=>
   rcases list_snoc l with rfl | ⟨l,p,rfl⟩
   · cases hn
   · intro h hp;obtain⟨h1,_,h2⟩:=List.pairwise_append.1 h;obtain⟨i1,i2,i3,i4,i5⟩:=ih l (by simpa using hn) h1 (fun q hq=>hp q (List.mem_append_left _ hq));have hpp:=hp p (List.mem_append_right _ (List.mem_cons_self ..));have hle:∀q∈mergeT l,q.1<=p.1:=fun q hq=>by
       obtain⟨r,hr,e⟩:=i3 q hq
       have:=h2 r hr p (List.mem_cons_self ..)
       omega
     rw[mergeT_next];rcases list_snoc (mergeT l) with he | ⟨r,q,he⟩
     · rw[he] at i4 ⊢;refine⟨by simp [mergeStep,AscP],fun s hs=>?_,fun s hs=>?_,fun t=>?_,by simp [mergeStep]⟩
       · simp [mergeStep] at hs;subst hs;exact hpp
       · simp [mergeStep] at hs;subst hs;exact⟨_,List.mem_append_right _ (List.mem_cons_self ..),rfl⟩
       · rw[numOf_append,<- i4];simp [mergeStep,numOf_nil]
     · rw[he] at i1 i2 i3 i4 i5 hle ⊢;rw[mergeStep_last];obtain⟨j1,_,j2⟩:=List.pairwise_append.1 i1;by_cases e:q.1=p.1
       · rw[if_pos e];refine⟨List.pairwise_append.2 ⟨j1,List.pairwise_singleton ..,fun s hs u hu=>?_⟩,fun s hs=>?_,fun s hs=>?_,fun t=>?_,by simp at i5 ⊢;omega⟩
         · simp at hu;subst hu;exact j2 s hs q (List.mem_cons_self ..)
         · rcases List.mem_append.1 hs with hs | hs
           · exact i2 s (List.mem_append_left _ hs)
           · simp at hs;subst hs
             have:=i2 q (List.mem_append_right _ (List.mem_cons_self ..))
             show 1<=q.2+p.2;omega
         · rcases List.mem_append.1 hs with hs | hs
           · obtain⟨u,hu,e'⟩:=i3 s (List.mem_append_left _ hs);exact⟨u,List.mem_append_left _ hu,e'⟩
           · simp at hs;subst hs;exact⟨p,List.mem_append_right _ (List.mem_cons_self ..),e.symm⟩
         · rw[numOf_append,numOf_append,numOf_cons,numOf_cons,numOf_nil,<- i4,numOf_append,numOf_cons,numOf_nil,e];by_cases h3:p.1=t<;>simp [h3]<;>omega
       · rw[if_neg e];refine⟨List.pairwise_append.2 ⟨i1,List.pairwise_singleton ..,fun s hs u hu=>?_⟩,fun s hs=>?_,fun s hs=>?_,fun t=>?_,by simp at i5 ⊢;omega⟩
         · simp at hu;subst hu;have h4:=hle q (List.mem_append_right _ (List.mem_cons_self ..));rcases List.mem_append.1 hs with hs | hs
           · have:=j2 s hs q (List.mem_cons_self ..);omega
           · simp at hs;subst hs;omega
         · rcases List.mem_append.1 hs with hs | hs
           · exact i2 s hs
           · simp at hs;subst hs;exact hpp
         · rcases List.mem_append.1 hs with hs | hs
           · obtain⟨u,hu,e'⟩:=i3 s hs;exact⟨u,List.mem_append_left _ hu,e'⟩
           · simp at hs;subst hs;exact⟨_,List.mem_append_right _ (List.mem_cons_self ..),rfl⟩
         · rw[numOf_append,numOf_append (l:=l),i4]
theorem numOf_lt (l:List (Int×Int)) (c t:Int):numOf (l.filter (fun p=>decide (p.1<c))) t=if t<c then numOf l t else 0:=by
 induction l with
 | nil=>simp [numOf_nil]
 | cons p l ih=>
   by_cases h:p.1<c
   · rw[List.filter_cons_of_pos (by simpa using h),numOf_cons,numOf_cons,ih];by_cases h2:p.1=t
     · subst h2;simp [h]
     · simp [h2]
   · rw[List.filter_cons_of_neg (by simpa using h),numOf_cons,ih];by_cases h2:p.1=t
     · subst h2;simp [h]
     · simp [h2]
theorem numOf_gt (l:List (Int×Int)) (c t:Int):numOf (l.filter (fun p=>decide (c<p.1))) t=if c<t then numOf l t else 0:=by
 induction l with
 | nil=>simp [numOf_nil]
 | cons p l ih=>
   by_cases h:c<p.1
   · rw[List.filter_cons_of_pos (by simpa using h),numOf_cons,numOf_cons,ih];by_cases h2:p.1=t
     · subst h2;simp [h]
     · simp [h2]
   · rw[List.filter_cons_of_neg (by simpa using h),numOf_cons,ih];by_cases h2:p.1=t
     · subst h2;simp [h]
     · simp [h2]
theorem numOf_nonneg {l:List (Int×Int)} (h:PosP l) (t:Int):0<=numOf l t:=by
 induction l with
 | nil=>exact Int.le_refl _
 | cons p l ih=>
   have h1:=ih (fun q hq=>h q (List.mem_cons_of_mem _ hq));have h2:=h p (List.mem_cons_self ..);rw[numOf_cons];split<;>omega
theorem topPut_asc {l:List (Int×Int)} (h:AscP l) (x:Int×Int):AscP (topPut l x):=by
 refine List.pairwise_append.2 ⟨List.Pairwise.filter _ h,List.pairwise_cons.2 ⟨fun q hq=>?_,List.Pairwise.filter _ h⟩,fun p hp q hq=>?_⟩
 · have:=(List.mem_filter.1 hq).2
   simp at this;exact this
 · have h1:=(List.mem_filter.1 hp).2;simp at h1;rcases List.mem_cons.1 hq with rfl | hq
   · exact h1
   · have h2:=(List.mem_filter.1 hq).2;simp at h2;omega
theorem topPut_pos {l:List (Int×Int)} (h:PosP l) {x:Int×Int} (hx:1<=x.2):PosP (topPut l x):=by
 intro p hp;rcases List.mem_append.1 hp with hp | hp
 · exact h p (List.mem_filter.1 hp).1
 · rcases List.mem_cons.1 hp with rfl | hp
   · have:=numOf_nonneg h x.1
     show 1<=x.2+numOf l x.1;omega
   · exact h p (List.mem_filter.1 hp).1
theorem topPut_num (l:List (Int×Int)) (x:Int×Int) (t:Int):numOf (topPut l x) t=numOf l t+if x.1=t then x.2 else 0:=by
 show numOf (l.filter (fun p=>decide (p.1<x.1))++(x.1,x.2+numOf l x.1)::l.filter (fun p=>decide (x.1<p.1))) t=_;rw[numOf_append,numOf_cons,numOf_lt,numOf_gt];rcases Int.lt_trichotomy t x.1 with h | h | h
 · rw[if_pos h,if_neg (by simp only;omega),if_neg (by omega),if_neg (by omega)];omega
 · subst h;simp;omega
 · rw[if_neg (by omega),if_neg (by simp only;omega),if_pos h,if_neg (by omega)];omega
theorem bothP_ok:∀(b a:List (Int×Int)),AscP a->PosP a->PosP b->AscP (bothP a b)/\PosP (bothP a b)/\∀t,numOf (bothP a b) t=numOf a t+numOf b t
 | [],a,h1,h2,_=>⟨h1,h2,fun t=>by rw[numOf_nil];show numOf a t=_;omega⟩
 | x::b,a,h1,h2,h3=>by
   obtain⟨h4,h5,h6⟩:=bothP_ok b (topPut a x) (topPut_asc h1 x) (topPut_pos h2 (h3 x (List.mem_cons_self ..))) (fun p hp=>h3 p (List.mem_cons_of_mem _ hp));refine⟨h4,h5,fun t=>?_⟩;show numOf (bothP (topPut a x) b) t=_;rw[h6,topPut_num,numOf_cons];omega
theorem merge_both {a b g:List (Int×Int)} (ha:AscP a) (hpa:PosP a) (hpb:PosP b) (hg:g.Perm (a++b)) (hs:g.Pairwise (fun p q=>p.1<=q.1)):mergeT g=bothP a b:=by
 have hpg:PosP g:=fun p hp=>by
   rcases List.mem_append.1 (hg.subset hp) with h | h
   · exact hpa p h
   · exact hpb p h
 obtain⟨h1,h2,_,h4,_⟩:=merged g hs hpg;obtain⟨h5,h6,h7⟩:=bothP_ok b a ha hpa hpb;exact asc_unique h1 h5 h2 h6 (fun t=>by rw[h4,h7,numOf_perm hg,numOf_append])
theorem asc_prs {l:List Dat} (h:PairsTo l l.length):AscP (prs l):=by
 refine List.pairwise_iff_getElem.2 fun i j hi hj hij=>?_
 rw[prs_length] at hi hj
 have:=pairs_asc h j i hij hj
 simp only[fv,List.getD_eq_getElem?_getD,List.getElem?_eq_getElem hi,List.getElem?_eq_getElem hj] at this;simpa [prs] using this
theorem pos_prs {l:List Dat} (h:PairsTo l l.length):PosP (prs l):=fun _ hp=>(pairs_mem h hp).2.2.1
theorem sorted_prs {g:List Dat} (h:SortedTo g byT g.length):(prs g).Pairwise (fun p q=>p.1<=q.1):=by
 refine List.pairwise_iff_getElem.2 fun i j hi hj hij=>?_
 rw[prs_length] at hi hj
 have:=h i j hij hj
 simp only[kOf,byT,List.getD_eq_getElem?_getD,List.getElem?_eq_getElem hi,List.getElem?_eq_getElem hj] at this;simpa [prs] using this
theorem prs_perm {a b:List Dat} (h:a.Perm b):(prs a).Perm (prs b):=h.map _
theorem prs_append (a b:List Dat):prs (a++b)=prs a++prs b:=by simp [prs]
theorem dPrs_last (m:List (Int×Int)) (q:Int×Int) (v:Int):(dPrs (m++[q])).set m.length (((dPrs (m++[q])).getD m.length default).set 1 (.int v))=dPrs (m++[(q.1,v)]):=by
 have e:∀y,dPrs (m++[y])=dPrs m++[.node [.int y.1,.int y.2]]:=fun y=>by simp [dPrs]
 have hl:(dPrs m).length=m.length:=dPrs_length m;rw[e,e,List.getD_eq_getElem?_getD,<- hl,List.getElem?_append_right (Nat.le_refl _),List.set_append_right _ _ (Nat.le_refl _)];simp [Dat.set,Dat.kids]
theorem dPrs_getD_last (m:List (Int×Int)) (q:Int×Int):(dPrs (m++[q])).getD m.length default=.node [.int q.1,.int q.2]:=by
 have hl:(dPrs m).length=m.length:=dPrs_length m;rw[dPrs_append,List.getD_eq_getElem?_getD,<- hl,List.getElem?_append_right (Nat.le_refl _)];simp [dPrs]
theorem bothPairs_vc (a b:List Dat) (hp:PairsTo a a.length/\PairsTo b b.length/\a.length<=6/\b.length<=6) :
 WFl TPr a->WFl TPr b->(kidsAll [Dat.node a,Dat.node b]).length<=1000/\(kidsAll [Dat.node a,Dat.node b]).length<=12/\∀x:List Dat,x.Perm (kidsAll [Dat.node a,Dat.node b])/\SortedTo x byT x.length->I64 (x.length:Int)->(0<=(x.length:Int)/\(x.length:Int)*(↑(16:Nat):Int)<=281474976710656/\(x.length:Int)<=140737488355328)/\(I64
 (x.length:Int)->(∃x_1:Nat,x_1<=x.length/\(x.length:Int)=(x.length:Int)/\0=(x_1:Int)/\[Dat.node a,Dat.node b]=[Dat.node a,Dat.node b]/\x=x/\([]:List Dat)=dPrs (mergeT (prs (List.take x_1 x))))/\∀x_1:Nat,x_1<=x.length->(decide ((x_1:Int)<(x.length:Int))->(0<=(x_1:Int)/\(x_1:Int)<(x.length:Int))/\x_1<x.length/\(I64 (↑(dPrs (mergeT (prs (List.take x_1 x)))).length:Int)->((decide (i64.wrap ((↑(dPrs
 (mergeT (prs (List.take x_1 x)))).length:Int)-1)>=(0:Int))=true->(0<=i64.wrap ((↑(dPrs (mergeT (prs (List.take x_1 x)))).length:Int)-1)/\i64.wrap ((↑(dPrs (mergeT (prs (List.take x_1 x)))).length:Int)-1)<(↑(dPrs (mergeT (prs (List.take x_1 x)))).length:Int))/\(i64.wrap ((↑(dPrs (mergeT (prs (List.take x_1 x)))).length:Int)-1)).toNat<(dPrs (mergeT (prs (List.take x_1 x)))).length)/\True)/\((decide
 (i64.wrap ((↑(dPrs (mergeT (prs (List.take x_1 x)))).length:Int)-1)>=(0:Int))&&decide ((((dPrs (mergeT (prs (List.take x_1 x)))).getD (i64.wrap ((↑(dPrs (mergeT (prs (List.take x_1 x)))).length:Int)-1)).toNat default).f 0).toInt=((x.getD x_1 default).f 0).toInt))=true->(0<=i64.wrap ((↑(dPrs (mergeT (prs (List.take x_1 x)))).length:Int)-1)/\i64.wrap ((↑(dPrs (mergeT (prs (List.take x_1
 x)))).length:Int)-1)<(↑(dPrs (mergeT (prs (List.take x_1 x)))).length:Int))/\(i64.wrap ((↑(dPrs (mergeT (prs (List.take x_1 x)))).length:Int)-1)).toNat<(dPrs (mergeT (prs (List.take x_1 x)))).length/\(0<=i64.wrap ((↑(dPrs (mergeT (prs (List.take x_1 x)))).length:Int)-1)/\i64.wrap ((↑(dPrs (mergeT (prs (List.take x_1 x)))).length:Int)-1)<(↑(dPrs (mergeT (prs (List.take x_1
 x)))).length:Int))/\(i64.wrap ((↑(dPrs (mergeT (prs (List.take x_1 x)))).length:Int)-1)).toNat<(dPrs (mergeT (prs (List.take x_1 x)))).length/\∀x_2:List Dat,x_2=(dPrs (mergeT (prs (List.take x_1 x)))).set (i64.wrap ((↑(dPrs (mergeT (prs (List.take x_1 x)))).length:Int)-1)).toNat (((dPrs (mergeT (prs (List.take x_1 x)))).getD (i64.wrap ((↑(dPrs (mergeT (prs (List.take x_1
 x)))).length:Int)-1)).toNat default).set 1 (Dat.int (i64.wrap ((((dPrs (mergeT (prs (List.take x_1 x)))).getD (i64.wrap ((↑(dPrs (mergeT (prs (List.take x_1 x)))).length:Int)-1)).toNat default).f 1).toInt+((x.getD x_1 default).f 1).toInt))))->∃x_3:Nat,(x_3<=x.length/\100-x_3<100-x_1)/\(x.length:Int)=(x.length:Int)/\i64.wrap ((x_1:Int)+1)=(x_3:Int)/\[Dat.node a,Dat.node b]=[Dat.node a,Dat.node
 b]/\x=x/\x_2=dPrs (mergeT (prs (List.take x_3 x))))/\((decide (i64.wrap ((↑(dPrs (mergeT (prs (List.take x_1 x)))).length:Int)-1)>=(0:Int))&&decide ((((dPrs (mergeT (prs (List.take x_1 x)))).getD (i64.wrap ((↑(dPrs (mergeT (prs (List.take x_1 x)))).length:Int)-1)).toNat default).f 0).toInt=((x.getD x_1 default).f 0).toInt))=false->((dPrs (mergeT (prs (List.take x_1
 x)))).length+1)*16<=140737488355328/\∃x_2:Nat,(x_2<=x.length/\100-x_2<100-x_1)/\(x.length:Int)=(x.length:Int)/\i64.wrap ((x_1:Int)+1)=(x_2:Int)/\[Dat.node a,Dat.node b]=[Dat.node a,Dat.node b]/\x=x/\dPrs (mergeT (prs (List.take x_1 x)))++[Dat.node [.int ((x.getD x_1 default).f 0).toInt,.int ((x.getD x_1 default).f 1).toInt]]=dPrs (mergeT (prs (List.take x_2 x))))))/\(decide
 ((x_1:Int)<(x.length:Int))=false->dPrs (mergeT (prs (List.take x_1 x)))=dPrs (bothP (prs a) (prs b)))):=by
 intro hwa hwb;simp only[iv,kv,fv,nm];obtain⟨ha,hb,hla,hlb⟩:=hp;have hk:kidsAll [.node a,.node b]=a++b:=by simp [kidsAll,Dat.kids]
 rw[hk];have hlab:(a++b).length<=12:=by rw[List.length_append];omega
 refine⟨by omega,by omega,fun x hxs _=>?_⟩;obtain⟨hx,hs⟩:=hxs;have hxl:=hx.length_eq;have hperm:(prs x).Perm (prs a++prs b):=by rw[<- prs_append];exact prs_perm hx
 have hsort:=sorted_prs hs;have hpos:PosP (prs x):=fun p hp=>by
   rcases List.mem_append.1 (hperm.subset hp) with h | h
   · exact pos_prs ha p h
   · exact pos_prs hb p h
 have hbig:∀p∈prs x,0<=p.2/\p.2<=2000:=fun p hp=>by
   rcases List.mem_append.1 (hperm.subset hp) with h | h
   · have:=pairs_mem ha h;omega
   · have:=pairs_mem hb h;omega
 have hall:=merge_both (asc_prs ha) (pos_prs ha) (pos_prs hb) hperm hsort;refine⟨by omega,fun _=>⟨⟨0,by omega,rfl,rfl⟩,fun i hi=>?_⟩⟩;have hi0:i<=x.length:=hi;have htk:prs (x.take i)=(prs x).take i:=by simp [prs,List.map_take]
 have hm:Merged (prs (x.take i)) (mergeT (prs (x.take i))):=by
   rw[htk];exact merged _ (hsort.sublist (List.take_sublist _ _)) (fun p hp=>hpos p (List.mem_of_mem_take hp))
 have hmn:∀t,0<=numOf (prs (x.take i)) t/\numOf (prs (x.take i)) t<=24000:=fun t=>by
   have h1:=numOf_range (l:=(prs x).take i) (fun p hp=>hbig p (List.mem_of_mem_take hp)) t;rw[<- htk] at h1;have h2:(prs (x.take i)).length<=12:=by rw[prs_length,List.length_take];omega
   omega
 have hnext:i<x.length->mergeT (prs (x.take (i+1)))=mergeStep (mergeT (prs (x.take i))) (pI x i):=fun h=>by rw[prs_take_succ h,mergeT_next]
 have hml:(mergeT (prs (x.take i))).length<=12:=by
   have:=hm.len
   rw[prs_length,List.length_take] at this;omega
 have hend:i=x.length->mergeT (prs (x.take i))=bothP (prs a) (prs b):=fun e=>by rw[e,List.take_length];exact hall
 generalize mergeT (prs (x.take i))=m at hm hnext hml hend ⊢;refine⟨fun hlt=>?_,fun hge=>?_⟩
 · have hlt':i<x.length:=by omega
   refine⟨by omega,hlt',fun _=>?_⟩;rw[dPrs_length,wrap_ok (by omega) (by omega)];have hnext:=hnext hlt';have hpi:pI x i=(((x.getD i default).f 0).toInt,((x.getD i default).f 1).toInt):=rfl;rcases list_snoc m with rfl | ⟨m',q,rfl⟩
   · refine⟨fun h=>absurd h (by simp),fun h=>absurd h.1 (by simp),fun _=>⟨by simp,i+1,by omega,up_ok (n:=x.length) hlt' (by omega),?_⟩⟩;rw[hnext];simp [mergeStep,dPrs,hpi]
   · have hl:(↑(m'++[q]).length:Int)-1=m'.length:=by rw[List.length_append];simp
     rw[hl,Int.toNat_natCast];have hq:(dPrs (m'++[q])).getD m'.length default=.node [.int q.1,.int q.2]:=dPrs_getD_last m' q;have hl2:(m'++[q]).length=m'.length+1:=by simp
     rw[mergeStep_last] at hnext;have hqn:=hmn q.1;rw[<- hm.num,numOf_mem hm.asc (List.mem_append_right _ (List.mem_cons_self ..))] at hqn;have hpb:=hbig (pI x i) (show pI x i∈prs x from List.mem_map.2 ⟨x.getD i default,by rw[List.getD_eq_getElem?_getD,List.getElem?_eq_getElem hlt'];exact List.getElem_mem hlt',rfl⟩);rw[hpi] at hpb hnext;simp only at hpb;rw[hq];refine⟨fun _=>by omega,fun h=>?_,fun h=>?_⟩
     · have h2:q.1=((x.getD i default).f 0).toInt:=h.2;rw[if_pos h2] at hnext;refine⟨by omega,by omega,by omega,by omega,fun D eD=>⟨i+1,by omega,up_ok (n:=x.length) hlt' (by omega),?_⟩⟩;rw[eD,hnext];have h3:((Dat.node [.int q.1,.int q.2]).f 1).toInt=q.2:=rfl;rw[h3,wrap_ok (by omega) (by omega),<- hq,dPrs_last]
     · have h2:¬q.1=((x.getD i default).f 0).toInt:=fun e=>by
         rcases h with h | h
         · omega
         · exact h e
       rw[if_neg h2] at hnext;refine⟨by omega,i+1,by omega,up_ok (n:=x.length) hlt' (by omega),?_⟩;rw[hnext];exact dPrs_one _ _ _
 · rw[hend (by omega)]
def bothPairs_get:List SV->St->Option Got
 | [.sl ty0 a,.sl ty1 b],⟨[],[],[]⟩=>guardTy ty0 TPr (guardTy ty1 TPr (some (PairsTo a a.length/\PairsTo b b.length/\a.length<=6/\b.length<=6,.own 0,St.mk [] [] [⟨163,.im TPr,dPrs (bothP (prs a) (prs b)),0,false⟩])))
 | _,_=>none
theorem bothPairs_ok:Ok0 prog 214 bothPairs_get:=by
 intro _ _ _ _ _ h hp;unfold bothPairs_get at h;split at h
 · rename_i a _ b;replace h:=gT2 h;obtain⟨rfl,rfl,h⟩:=h;cases h;refine fl [iConcat_con,sortThing_con] (fun k=>bif Nat.beq k 5 then some (.g (⟨Nat,fun s g=>hd s [5,19,20] [(6,.own 2),(21,.int .i64 g)] [rwE s 0,rwE s 1,⟨163,.im TPr,dPrs (mergeT (prs ((rwD s 1).take g))),0,false⟩],fun s g=>g<=(rwD s 1).length,fun g=>100-g⟩)) else none) func214 ?_;apply VC.thru (bothPairs_vc a b hp);kernel_rfl
 · cases h
def bothPairs_con:Con prog:=.f0 214 [] true bothPairs_get (en func214 rfl) bothPairs_ok
theorem more_perm {l q:List (Int×Int)} (h:q.Perm l) (n:Int):more q n=more l n:=(h.filter _).length_eq
theorem more_le (l:List (Int×Int)) (n:Int):more l n<=l.length:=List.length_filter_le _ _
theorem more_split (q:List (Int×Int)) (k:Nat) (n:Int):more q n=more (q.take k) n+more (q.drop k) n:=by
 unfold more;rw[<- List.length_append,<- List.filter_append,List.take_append_drop]
theorem over_le {l:List (Int×Int)} {v:Int}:∀(m:List (Int×Int)) (b:Int),b<=v->(∀p∈m,4<more l p.2->p.2<=v)->m.foldl (fun b p=>if 4<more l p.2 then max b p.2 else b) b<=v
 | [],_,hb,_=>hb
 | p::m,b,hb,h=>by
   simp only[List.foldl_cons];refine over_le m _ ?_ (fun q hq=>h q (List.mem_cons_of_mem _ hq));split
   · have:=h p (List.mem_cons_self ..) (by assumption);omega
   · exact hb
theorem over_geB {l:List (Int×Int)} {v:Int}:∀(m:List (Int×Int)) (b:Int),(v<=b\/∃p∈m,4<more l p.2/\v<=p.2)->v<=m.foldl (fun b p=>if 4<more l p.2 then max b p.2 else b) b
 | [],_,h=>by
   rcases h with h | ⟨_,h,_⟩
   · exact h
   · cases h
 | p::m,b,h=>by
   simp only[List.foldl_cons];refine over_geB m _ ?_;rcases h with h | ⟨q,hq,h1,h2⟩
   · left;split<;>omega
   · rcases List.mem_cons.1 hq with rfl | hq
     · left;rw[if_pos h1];omega
     · exact .inr ⟨q,hq,h1,h2⟩
theorem over_small {l:List (Int×Int)} (h:l.length<=4):over l=0:=by
 have h1:over l<=0:=over_le l 0 (Int.le_refl _) (fun p _ hp=>by have:=more_le l p.2;omega);have h2:0<=over l:=over_geB l 0 (.inl (Int.le_refl _));omega
theorem topLess_zero {l:List (Int×Int)} (h:PosP l):topLess l 0=l:=by
 unfold topLess;rw[List.filter_eq_self.2 (fun p hp=>by have:=h p hp;simp;omega)];simp
theorem over_fifth {l q:List (Int×Int)} (hp:q.Perm l) (hs:q.Pairwise (fun p r=>r.2<=p.2)) (h4:4<q.length) (h0:0<=q[4].2):over l=q[4].2:=by
 have hi:=List.pairwise_iff_getElem.1 hs;have h1:4<more q q[4].2:=by
   have e2:(q.take 5).filter (fun p=>decide (q[4].2<=p.2))=q.take 5:=List.filter_eq_self.2 (fun p hp=>by
     obtain⟨i,hlt,rfl⟩:=List.getElem_of_mem hp;rw[List.length_take] at hlt;rw[List.getElem_take];simp only[decide_eq_true_eq];rcases Nat.lt_or_ge i 4 with h | h
     · exact hi i 4 (by omega) h4 h
     · have:i=4:=by omega
       subst this;exact Int.le_refl _)
   have:(q.take 5).length<=more q q[4].2:=by
     rw[more_split q 5]
     have:more (q.take 5) q[4].2=(q.take 5).length:=by unfold more;rw[e2]
     omega
   rw[List.length_take] at this;omega
 have h2:∀p∈l,4<more l p.2->p.2<=q[4].2:=fun p hpl hm=>by
   rcases Int.lt_or_le q[4].2 p.2 with h | h
   · exfalso;rw[<- more_perm hp] at hm;have e2:(q.drop 4).filter (fun r=>decide (p.2<=r.2))=[]:=List.filter_eq_nil_iff.2 (fun r hr=>by
       obtain⟨i,hlt,rfl⟩:=List.getElem_of_mem hr;rw[List.length_drop] at hlt;rw[List.getElem_drop];simp only[decide_eq_true_eq];rcases Nat.eq_zero_or_pos i with h0 | h0
       · subst h0;simp only[Nat.add_zero];omega
       · have:=hi 4 (4+i) h4 (by omega) (by omega);omega)
     have:more q p.2<=4:=by
       rw[more_split q 4];have h5:more (q.drop 4) p.2=0:=by unfold more;rw[e2];rfl
       have h6:=more_le (q.take 4) p.2;rw[List.length_take] at h6;omega
     omega
   · exact h
 have h3:over l<=q[4].2:=over_le l 0 h0 h2;have h4':q[4].2<=over l:=over_geB l 0 (.inr ⟨q[4],hp.subset (List.getElem_mem _),by rw[<- more_perm hp];exact h1,Int.le_refl _⟩);omega
theorem sorted_nums {g:List Dat} (h:SortedTo g byN g.length):(prs g).Pairwise (fun p q=>q.2<=p.2):=by
 refine List.pairwise_iff_getElem.2 fun i j hi hj hij=>?_
 rw[prs_length] at hi hj
 have:=h i j hij hj
 simp only[kOf,byN,List.getD_eq_getElem?_getD,List.getElem?_eq_getElem hi,List.getElem?_eq_getElem hj] at this;have h2:(g[j].f 1).toInt<=(g[i].f 1).toInt:=by simpa using this
 simpa [prs] using h2
theorem cut_taken {l x:List Dat} (hx:x.Perm l) (hs:SortedTo x byN x.length) (h4:4<x.length) (h0:NumsIn l):over (prs l)=fv x 4 1:=by
 have h4':4<(prs x).length:=by rw[prs_length];exact h4
 have e:(prs x)[4].2=fv x 4 1:=by
   simp [prs,fv,List.getD_eq_getElem?_getD,List.getElem?_eq_getElem h4]
 rw[<- e];exact over_fifth (prs_perm hx) (sorted_nums hs) h4' (by
   have:(prs x)[4]∈prs l:=(prs_perm hx).subset (List.getElem_mem _)
   exact (h0.mem _ this).1)
theorem cutTop_vc (l:List Dat) (lost all:Int) (hp:NumsIn l/\PosP (prs l)/\l.length<=12/\0<=lost/\lost<=100000) :
 I64 lost->I64 all->WFl (OT.im TPr).ty l->I64 (l.length:Int)->(decide ((l.length:Int)<=4)->lost=lost+over (prs l)/\all=all/\l=dPrs (topLess (prs l) (over (prs l))))/\(decide ((l.length:Int)<=4)=false->l.length<=1000/\l.length<=12/\∀x:List Dat,x.Perm l/\SortedTo x byN x.length->(0<=(4:Int)/\4<(x.length:Int))/\4<x.length/\(I64 ((x.getD 4 default).f
 1).toInt->(0<=(4:Int)/\(4:Int)*(↑(16:Nat):Int)<=281474976710656/\4<=(140737488355328:Int))/\(I64 (l.length:Int)->(∃x_1:Nat,x_1<=l.length/\((x.getD 4 default).f 1).toInt=((x.getD 4 default).f 1).toInt/\(l.length:Int)=(l.length:Int)/\0=(x_1:Int)/\lost=lost/\all=all/\(0:Int)=0/\(0:Int)=0/\l=l/\x=x/\[]=dPrs (topLess (prs (List.take x_1 l)) (fv x 4 1)))/\∀x_1:Nat,x_1<=l.length->(decide
 ((x_1:Int)<(l.length:Int))->(0<=(x_1:Int)/\(x_1:Int)<(l.length:Int))/\x_1<l.length/\(I64 ((l.getD x_1 default).f 1).toInt->(decide (((l.getD x_1 default).f 1).toInt > ((x.getD 4 default).f 1).toInt)->I64 ((l.getD x_1 default).f 0).toInt->I64 ((l.getD x_1 default).f 1).toInt->((dPrs (topLess (prs (List.take x_1 l)) (fv x 4
 1))).length+1)*16<=140737488355328/\∃x_2:Nat,(x_2<=l.length/\l.length-x_2<l.length-x_1)/\((x.getD 4 default).f 1).toInt=((x.getD 4 default).f 1).toInt/\(l.length:Int)=(l.length:Int)/\i64.wrap ((x_1:Int)+1)=(x_2:Int)/\lost=lost/\all=all/\(0:Int)=0/\(0:Int)=0/\l=l/\x=x/\dPrs (topLess (prs (List.take x_1 l)) (fv x 4 1))++[Dat.node [.int ((l.getD x_1 default).f 0).toInt,.int (i64.wrap (((l.getD x_1
 default).f 1).toInt-((x.getD 4 default).f 1).toInt))]]=dPrs (topLess (prs (List.take x_2 l)) (fv x 4 1)))/\(decide (((l.getD x_1 default).f 1).toInt > ((x.getD 4 default).f 1).toInt)=false->∃x_2:Nat,(x_2<=l.length/\l.length-x_2<l.length-x_1)/\((x.getD 4 default).f 1).toInt=((x.getD 4 default).f 1).toInt/\(l.length:Int)=(l.length:Int)/\i64.wrap
 ((x_1:Int)+1)=(x_2:Int)/\lost=lost/\all=all/\(0:Int)=0/\(0:Int)=0/\l=l/\x=x/\dPrs (topLess (prs (List.take x_1 l)) (fv x 4 1))=dPrs (topLess (prs (List.take x_2 l)) (fv x 4 1)))))/\(decide ((x_1:Int)<(l.length:Int))=false->I64 lost->I64 all->i64.wrap (lost+((x.getD 4 default).f 1).toInt)=lost+over (prs l)/\all=all/\dPrs (topLess (prs (List.take x_1 l)) (fv x 4 1))=dPrs (topLess (prs l) (over (prs
 l))))))):=by
 intro _ _ hw;simp only[iv,kv,fv,nm];obtain⟨hn,hpos,hl,h0,h1⟩:=hp;intro _;refine⟨fun h=>?_,fun h=>⟨by omega,hl,fun x hxs=>?_⟩⟩
 · rw[over_small (by rw[prs_length];omega),topLess_zero hpos,dPrs_prs hw];exact⟨by omega,rfl⟩
 · obtain⟨hx,hs⟩:=hxs;have hxl:=hx.length_eq;have hov:=hn.over;have ht:=cut_taken hx hs (by omega) hn;rw[ht] at hov ⊢;refine⟨by omega,by omega,fun _=>⟨by omega,fun _=>⟨⟨0,by omega,rfl,rfl⟩,fun i hi=>⟨fun hlt=>⟨by omega,by omega,fun _=>⟨fun hgt=>fun _ _=>?_,fun hgt=>?_⟩⟩,fun hge=>?_⟩⟩⟩⟩
   · have h3:=topLess_length (prs (l.take i)) (fv x 4 1);rw[prs_length,List.length_take] at h3;refine⟨by rw[dPrs_length];simp only[fv] at h3 ⊢;omega,i+1,by omega,up_ok (n:=l.length) (by omega) (by omega),?_⟩;have h2:=hn.2 i (by omega);simp only[fv] at h2 hov;rw[prs_take_succ (by omega),less_next,if_pos (by simp only[pI,fv];omega),wrap_ok (by omega) (by omega),dPrs_one]
   · refine⟨i+1,by omega,up_ok (n:=l.length) (by omega) (by omega),?_⟩;rw[prs_take_succ (by omega),less_next,if_neg (by simp only[pI,fv];omega),List.append_nil]
   · rw[List.take_of_length_le (by omega)];simp only[fv] at hov ⊢;rw[wrap_ok (by omega) (by omega)];simp
def cutTop_get:List SV->St->Option Got
 | [.agg [.own 0,.int .i64 lost,.int .i64 all]],⟨[],[],[⟨163,.im ty0,l,0,true⟩]⟩=>guardTy ty0 TPr (some (NumsIn l/\PosP (prs l)/\l.length<=12/\0<=lost/\lost<=100000,.agg [.own 1,.int .i64 (lost+over (prs l)),.int .i64 all],St.mk [] [] [⟨163,.im TPr,l,2,true⟩,⟨163,.im TPr,dPrs (topLess (prs l) (over (prs l))),0,true⟩]))
 | _,_=>none
theorem cutTop_ok:Ok0 prog 213 cutTop_get:=by
 intro _ _ _ _ _ h hp;unfold cutTop_get at h;split at h
 · rename_i lost all _ l;replace h:=gT h;obtain⟨rfl,h⟩:=h;cases h;refine fl [iCloneP_con,sortNum_con] (fun k=>bif Nat.beq k 8 then some (.g (⟨Nat,fun s g=>hdb s [1,2,4,24,25] [(5,.own 2),(26,.int .i64 g)] s.bx [rwE s 0,rwE s 1,⟨163,.im TPr,dPrs (topLess (prs (l.take g)) (fv (rwD s 1) 4 1)),0,false⟩],fun _ g=>g<=l.length,fun g=>l.length-g⟩)) else none) func213 ?_;apply VC.thru (cutTop_vc l lost all hp);kernel_rfl
 · cases h
def cutTop_con:Con prog:=.f0 213 [.lend] true cutTop_get (en func213 rfl) cutTop_ok
theorem filt_len (l:List (Int×Int)) (c:Int):(l.filter (fun p=>decide (p.1<c))).length+(l.filter (fun p=>decide (c<p.1))).length<=l.length:=by
 induction l with
 | nil=>simp
 | cons p l ih=>
   by_cases h:p.1<c
   · rw[List.filter_cons_of_pos (by simpa using h),List.filter_cons_of_neg (by simp;omega)];simp only[List.length_cons];omega
   · rw[List.filter_cons_of_neg (by simpa using h)];by_cases h2:c<p.1
     · rw[List.filter_cons_of_pos (by simpa using h2)];simp only[List.length_cons];omega
     · rw[List.filter_cons_of_neg (by simpa using h2)];simp only[List.length_cons];omega
theorem topPut_len (l:List (Int×Int)) (x:Int×Int):(topPut l x).length<=l.length+1:=by
 have:=filt_len l x.1
 show (l.filter (fun p=>decide (p.1<x.1))++(x.1,x.2+numOf l x.1)::l.filter (fun p=>decide (x.1<p.1))).length<=_;rw[List.length_append,List.length_cons];omega
theorem bothP_len:∀(b a:List (Int×Int)),(bothP a b).length<=a.length+b.length
 | [],a=>Nat.le_refl _
 | x::b,a=>by
   have h1:=bothP_len b (topPut a x);have h2:=topPut_len a x;show (bothP (topPut a x) b).length<=_;rw[List.length_cons];omega
theorem both_nums {a b:List Dat} (ha:PairsTo a a.length) (hb:PairsTo b b.length) (hla:a.length<=6) (hlb:b.length<=6):NumsIn (dPrs (bothP (prs a) (prs b)))/\PosP (bothP (prs a) (prs b))/\(dPrs (bothP (prs a) (prs b))).length<=12:=by
 obtain⟨h1,h2,h3⟩:=bothP_ok (prs b) (prs a) (asc_prs ha) (pos_prs ha) (pos_prs hb);have h4:=bothP_len (prs b) (prs a);rw[prs_length,prs_length] at h4;refine⟨⟨by rw[dPrs_length];omega,fun i hi=>?_⟩,h2,by rw[dPrs_length];omega⟩;rw[dPrs_length] at hi;rw[(fv_dPrs _ i hi).2];have h5:(bothP (prs a) (prs b))[i]∈bothP (prs a) (prs b):=List.getElem_mem hi;have h6:=numOf_mem h1 h5;rw[h3] at h6;have h7:=numOf_range (l:=prs a) (fun p hp=>by have:=pairs_mem ha hp;omega) (bothP (prs a) (prs b))[i].1;have h8:=numOf_range (l:=prs b) (fun p hp=>by have:=pairs_mem hb hp;omega) (bothP (prs a) (prs b))[i].1;rw[prs_length] at h7 h8
 omega
theorem topSum_vc (a b:List Dat) (la aa lb ab:Int) (hp:PairsTo a a.length/\PairsTo b b.length/\a.length<=4/\b.length<=4/\0<=la/\la<=2000/\0<=lb/\lb<=2000/\0<=aa/\aa<=2000/\0<=ab/\ab<=2000) :
 WFl TPr a->I64 la->I64 aa->WFl TPr b->I64 lb->I64 ab->(PairsTo a a.length/\PairsTo b b.length/\a.length<=6/\b.length<=6)/\ab=ab/\aa=aa/\lb=lb/\la=la/\(NumsIn (dPrs (bothP (prs a) (prs b)))/\PosP (prs (dPrs (bothP (prs a) (prs b))))/\(dPrs (bothP (prs a) (prs b))).length<=12/\0<=i64.wrap (la+lb)/\i64.wrap (la+lb)<=(100000:Int))/\i64.wrap (la+lb)+over (prs (dPrs (bothP (prs a) (prs b))))=la+lb+over
 (bothP (prs a) (prs b))/\i64.wrap (aa+ab)=aa+ab/\dPrs (topLess (prs (dPrs (bothP (prs a) (prs b)))) (over (prs (dPrs (bothP (prs a) (prs b))))))=dPrs (topLess (bothP (prs a) (prs b)) (over (bothP (prs a) (prs b)))):=by
 intro _ _ _ _ _ _;simp only[iv,kv,fv,nm];obtain⟨ha,hb,hla,hlb,h1,h2,h3,h4,h5,h6,h7,h8⟩:=hp;obtain⟨n1,n2,n3⟩:=both_nums ha hb (by omega) (by omega);rw[prs_dPrs,wrap_ok (by omega) (by omega),wrap_ok (by omega) (by omega)];exact⟨⟨ha,hb,by omega,by omega⟩,⟨n1,n2,n3,by omega,by omega⟩,rfl,rfl,rfl⟩
def topSum_get:List SV->St->Option Got
 | [.agg [.sl ty0 a,.int .i64 la,.int .i64 aa],.agg [.sl ty1 b,.int .i64 lb,.int .i64 ab]],⟨[],[],[]⟩=>guardTy ty0 TPr (guardTy ty1 TPr (some (PairsTo a a.length/\PairsTo b b.length/\a.length<=4/\b.length<=4/\0<=la/\la<=2000/\0<=lb/\lb<=2000/\0<=aa/\aa<=2000/\0<=ab/\ab<=2000,.agg [.own 0,.int .i64 (la+lb+over (bothP (prs a) (prs b))),.int .i64 (aa+ab)],St.mk [] [] [⟨163,.im TPr,dPrs (topLess (bothP (prs a) (prs b)) (over (bothP (prs a) (prs b)))),0,false⟩])))
 | _,_=>none
theorem topSum_ok:Ok0 prog 188 topSum_get:=by
 intro _ _ _ _ _ h hp;unfold topSum_get at h;split at h
 · rename_i a la aa _ b lb ab;replace h:=gT2 h;obtain⟨rfl,rfl,h⟩:=h;cases h;refine fz [bothPairs_con,cutTop_con] func188 ?_;apply VC.thru (topSum_vc a b la aa lb ab hp);kernel_rfl
 · cases h
def topSum_con:Con prog:=.f0 188 [] true topSum_get (en func188 rfl) topSum_ok
theorem iTopAdd_vc (l:List Dat) (lost all thing:Int) (hp:TopIn l lost all/\0<=thing/\thing<64/\all<2000) :
 WFl TPr l->I64 lost->I64 all->I64 thing->(True/\((!dec (TopIn l lost all))=false->True)/\True)/\((!dec (TopIn l lost all)||(!dec (0<=thing/\thing<64)||decide (all=2000)))=true->False)/\((!dec (TopIn l lost all)||(!dec (0<=thing/\thing<64)||decide (all=2000)))=false->(PairsTo l l.length/\PairsTo [Dat.node [.int thing,.int (1:Int)]]
 1/\l.length<=4/\1<=4/\0<=lost/\lost<=2000/\0<=(0:Int)/\0<=(2000:Int)/\0<=all/\all<=2000/\0<=(1:Int)/\1<=(2000:Int))/\lost+0+over (bothP (prs l) (prs [Dat.node [.int thing,.int (1:Int)]]))=lost+over (topPut (prs l) (thing,(1:Int)))/\all+1=all+1/\dPrs (topLess (bothP (prs l) (prs [Dat.node [.int thing,.int (1:Int)]])) (over (bothP (prs l) (prs [Dat.node [.int thing,.int (1:Int)]]))))=dPrs (topLess
 (topPut (prs l) (thing,(1:Int))) (over (topPut (prs l) (thing,(1:Int)))))):=by
 intro _ _ _ _;simp only[iv,kv,fv,nm];obtain⟨ht,h1,h2,h3⟩:=hp;obtain⟨t1,t2,t3,t4,t5,t6,t7⟩:=ht;have e:prs [Dat.node [.int thing,.int 1]]=[(thing,1)]:=rfl;rw[e];have hb:PairsTo [Dat.node [.int thing,.int 1]] 1:=fun i hi=>by
   have:i=0:=by omega
   subst this;exact⟨h1,by show thing<=63;omega,by show (1:Int)<=1;omega,by show (1:Int)<=2000;omega,fun h=>by omega⟩
 refine⟨fun h=>?_,fun _=>⟨⟨t1,hb,by omega,by omega,by omega,by omega,by omega,by omega,by omega,by omega,by omega,by omega⟩,?_,rfl⟩⟩
 · rcases h with h | h | h
   · exact h ⟨t1,t2,t3,t4,t5,t6,t7⟩
   · exact h ⟨h1,h2⟩
   · omega
 rw[Int.add_zero];rfl
def iTopAdd_get:List SV->St->Option Got
 | [.agg [.sl ty0 l,.int .i64 lost,.int .i64 all],.int .i64 thing],⟨[],[],[]⟩=>guardTy ty0 TPr (some (TopIn l lost all/\0<=thing/\thing<64/\all<2000,.tup [.agg [.own 0,.int .i64 (lost+over (topPut (prs l) (thing,1))),.int .i64 (all+1)],.tt],St.mk [] [] [⟨163,.im TPr,dPrs (topLess (topPut (prs l) (thing,1)) (over (topPut (prs l) (thing,1)))),0,false⟩]))
 | _,_=>none
theorem iTopAdd_ok:Ok0 prog 286 iTopAdd_get:=by
 intro _ _ _ _ _ h hp;unfold iTopAdd_get at h;split at h
 · rename_i l lost all thing;replace h:=gT h;obtain⟨rfl,h⟩:=h;cases h;refine fz [iTopOk_con,iIsThing_con,topSum_con] func286 ?_;apply VC.thru (iTopAdd_vc l lost all thing hp);kernel_rfl
 · cases h
def iTopAdd_con:Con prog:=.f0 286 [] true iTopAdd_get (en func286 rfl) iTopAdd_ok
def addTo (a b:List Dat) (g:Nat):List Dat:=tab a.length fun k=>.int (if k<g then iv a k+iv b k else 0)
def addL (a b:List Dat):List Dat:=tab a.length fun k=>.int (iv a k+iv b k)
def addRTo (a b:List Dat) (g:Nat):List Dat:=tab a.length fun k=>.node (if k<g then addL (kv a k) (kv b k) else [])
def addR (a b:List Dat):List Dat:=tab a.length fun k=>.node (addL (kv a k) (kv b k))
def Adds (a b:List Dat):Prop:=a.length<=1000/\a.length<=b.length/\∀k,k<a.length->0<=iv a k/\iv a k<=1000000/\0<=iv b k/\iv b k<=1000000
theorem tab_set {n i:Nat} {f g:Nat->Dat} {d:Dat} (hd:g i=d) (h:∀k,k<n->k≠i->g k=f k):(tab n f).set i d=tab n g:=tab_of (by simp) (fun k hk=>by
 rw[getD_set,tab_getD hk];split
 · rename_i h1;rw[<- h1.1,hd]
 · rename_i h1;refine (h k hk (fun e=>h1 ?_)).symm;rw[tab_length];exact⟨e.symm,by omega⟩)
theorem rep_tab (n:Nat) (d:Dat):List.replicate n d=tab n fun _=>d:=tab_of (by simp) (fun k hk=>by simp [List.getD_eq_getElem?_getD,hk])
theorem iPlus_vc (a b:Int) (hp:0<=a/\a<=1000000/\0<=b/\b<=1000000) :
 I64 a->I64 b->i64.wrap (a+b)=a+b:=by
 intro _ _;exact wrap_ok (by omega) (by omega)
def iPlus_get:List SV->St->Option Got
 | [.int .i64 a,.int .i64 b],⟨[],[],[]⟩=>some (0<=a/\a<=1000000/\0<=b/\b<=1000000,.int .i64 (a+b),St.mk [] [] [])
 | _,_=>none
theorem iPlus_ok:Ok0 prog 211 iPlus_get:=by
 intro _ _ _ _ _ h hp;unfold iPlus_get at h;split at h
 · rename_i a b;cases h;refine fz [] func211 ?_;apply VC.thru (iPlus_vc a b hp);kernel_rfl
 · cases h
def iPlus_con:Con prog:=.f0 211 [] true iPlus_get (en func211 rfl) iPlus_ok
theorem iJoinInts_vc (a b:List Dat) (hp:Adds a b) :
 WFl (Ty.int i64) a->WFl (Ty.int i64) b->I64 (a.length:Int)->((a.length:Int)=(a.length:Int)/\0<=(a.length:Int)/\(a.length:Int)*(↑(8:Nat):Int)<=281474976710656/\(a.length:Int)<=140737488355328)/\(I64 (↑(List.replicate a.length (Dat.int (0:Int))).length:Int)->(∃x:Nat,x<=a.length/\a=a/\b=b/\(↑(List.replicate a.length (Dat.int (0:Int))).length:Int)=(↑(List.replicate a.length (Dat.int
 (0:Int))).length:Int)/\0=(x:Int)/\List.replicate a.length (Dat.int (0:Int))=addTo a b x)/\∀x:Nat,x<=a.length->(decide ((x:Int)<(↑(List.replicate a.length (Dat.int (0:Int))).length:Int))->(0<=(x:Int)/\(x:Int)<(a.length:Int))/\(0<=(x:Int)/\(x:Int)<(b.length:Int))/\(0<=(a.getD x default).toInt/\(a.getD x default).toInt<=(1000000:Int)/\0<=(b.getD x default).toInt/\(b.getD x
 default).toInt<=(1000000:Int))/\(0<=(x:Int)/\(x:Int)<(↑(addTo a b x).length:Int))/\x<(addTo a b x).length/\∃x_1:Nat,(x_1<=a.length/\a.length-x_1<a.length-x)/\a=a/\b=b/\(↑(List.replicate a.length (Dat.int (0:Int))).length:Int)=(↑(List.replicate a.length (Dat.int (0:Int))).length:Int)/\i64.wrap ((x:Int)+1)=(x_1:Int)/\(addTo a b x).set x (Dat.int ((a.getD x default).toInt+(b.getD x
 default).toInt))=addTo a b x_1)/\(decide ((x:Int)<(↑(List.replicate a.length (Dat.int (0:Int))).length:Int))=false->addTo a b x=addL a b)):=by
 intro hwa hwb;simp only[iv,kv,fv,nm];simp only[List.length_replicate];have hl:∀g,(addTo a b g).length=a.length:=fun g=>by simp [addTo]
 have h1:=hp.1;have h2:=hp.2.1;refine fun _=>⟨by omega,fun _=>⟨⟨0,by omega,rfl,?_⟩,fun x hx=>⟨fun hlt=>⟨by omega,by omega,hp.2.2 x (by omega),by rw[hl];omega,by rw[hl];omega,x+1,by omega,up_ok (n:=a.length) (by omega) (by omega),?_⟩,fun hlt=>?_⟩⟩⟩
 · rw[rep_tab];exact tab_congr (fun i _=>by rw[if_neg (by omega)])
 · exact tab_set (by rw[if_pos (by omega)]) (fun k hk hne=>by by_cases h:k<x;rw[if_pos h,if_pos (by omega)];rw[if_neg h,if_neg (by omega)])
 · exact tab_congr (fun i hi=>by rw[if_pos (by omega)])
def iJoinInts_get:List SV->St->Option Got
 | [.sl (.int .i64) a,.sl (.int .i64) b,.fn 211 []],⟨[],[],[]⟩=>some (Adds a b,.own 0,St.mk [] [] [⟨3,.im (.int .i64),addL a b,0,false⟩])
 | _,_=>none
theorem iJoinInts_ok:Ok0 prog 210 iJoinInts_get:=by
 intro _ _ _ _ _ h hp;unfold iJoinInts_get at h;split at h
 · rename_i a b;cases h;refine fl [iPlus_con] (fun k=>bif Nat.beq k 3 then some (.g (⟨Nat,fun s g=>hdb s [0,1,2,6,13] [(7,.own 0),(14,.int .i64 g)] s.bx [⟨3,.im (.int .i64),addTo a b g,0,false⟩],fun _ g=>g<=a.length,fun g=>a.length-g⟩)) else none) func210 ?_;apply VC.thru (iJoinInts_vc a b hp);kernel_rfl
 · cases h
def iJoinInts_con:Con prog:=.f0 210 [] false iJoinInts_get (en func210 rfl) iJoinInts_ok
theorem iSumRows_vc (a b:List Dat) (hp:Adds a b) :
 WFl (Ty.int i64) a->WFl (Ty.int i64) b->Adds a b/\addL a b=addL a b:=by
 intro hwa hwb;simp only[iv,kv,fv,nm];exact hp
def iSumRows_get:List SV->St->Option Got
 | [.sl (.int .i64) a,.sl (.int .i64) b],⟨[],[],[]⟩=>some (Adds a b,.own 0,St.mk [] [] [⟨3,.im (.int .i64),addL a b,0,false⟩])
 | _,_=>none
theorem iSumRows_ok:Ok0 prog 209 iSumRows_get:=by
 intro _ _ _ _ _ h hp;unfold iSumRows_get at h;split at h
 · rename_i a b;cases h;refine fz [iJoinInts_con] func209 ?_;apply VC.thru (iSumRows_vc a b hp);kernel_rfl
 · cases h
def iSumRows_con:Con prog:=.f0 209 [] false iSumRows_get (en func209 rfl) iSumRows_ok
theorem iJoinRows_vc (a b:List Dat) (hp:a.length<=1000/\a.length<=b.length/\∀k,k<a.length->Adds (kv a k) (kv b k)) :
 WFl (Ty.int i64).sl a->WFl (Ty.int i64).sl b->I64 (a.length:Int)->((a.length:Int)=(a.length:Int)/\0<=(a.length:Int)/\(a.length:Int)*(↑(24:Nat):Int)<=281474976710656/\(a.length:Int)<=140737488355328)/\(I64 (↑(List.replicate a.length (Dat.node [])).length:Int)->(∃x:Nat,x<=a.length/\a=a/\b=b/\(↑(List.replicate a.length (Dat.node [])).length:Int)=(↑(List.replicate a.length (Dat.node
 [])).length:Int)/\0=(x:Int)/\List.replicate a.length (Dat.node [])=addRTo a b x)/\∀x:Nat,x<=a.length->(decide ((x:Int)<(↑(List.replicate a.length (Dat.node [])).length:Int))->(0<=(x:Int)/\(x:Int)<(a.length:Int))/\(0<=(x:Int)/\(x:Int)<(b.length:Int))/\Adds (a.getD x default).kids (b.getD x default).kids/\(0<=(x:Int)/\(x:Int)<(↑(addRTo a b x).length:Int))/\x<(addRTo a b
 x).length/\∃x_1:Nat,(x_1<=a.length/\a.length-x_1<a.length-x)/\a=a/\b=b/\(↑(List.replicate a.length (Dat.node [])).length:Int)=(↑(List.replicate a.length (Dat.node [])).length:Int)/\i64.wrap ((x:Int)+1)=(x_1:Int)/\(addRTo a b x).set x (Dat.node (addL (a.getD x default).kids (b.getD x default).kids))=addRTo a b x_1)/\(decide ((x:Int)<(↑(List.replicate a.length (Dat.node
 [])).length:Int))=false->addRTo a b x=addR a b)):=by
 intro hwa hwb;simp only[iv,kv,fv,nm];simp only[List.length_replicate];have hl:∀g,(addRTo a b g).length=a.length:=fun g=>by simp [addRTo]
 have h1:=hp.1;have h2:=hp.2.1;refine fun _=>⟨by omega,fun _=>⟨⟨0,by omega,rfl,?_⟩,fun x hx=>⟨fun hlt=>⟨by omega,by omega,hp.2.2 x (by omega),by rw[hl];omega,by rw[hl];omega,x+1,by omega,up_ok (n:=a.length) (by omega) (by omega),?_⟩,fun hlt=>?_⟩⟩⟩
 · rw[rep_tab];exact tab_congr (fun i _=>by rw[if_neg (by omega)])
 · exact tab_set (by rw[if_pos (by omega)]) (fun k hk hne=>by by_cases h:k<x;rw[if_pos h,if_pos (by omega)];rw[if_neg h,if_neg (by omega)])
 · exact tab_congr (fun i hi=>by rw[if_pos (by omega)])
def iJoinRows_get:List SV->St->Option Got
 | [.sl (.sl (.int .i64)) a,.sl (.sl (.int .i64)) b,.fn 209 []],⟨[],[],[]⟩=>some (a.length<=1000/\a.length<=b.length/\∀k,k<a.length->Adds (kv a k) (kv b k),.own 0,St.mk [] [] [⟨34,.sl 3 (.im (.int .i64)),addR a b,0,false⟩])
 | _,_=>none
theorem iJoinRows_ok:Ok0 prog 208 iJoinRows_get:=by
 intro _ _ _ _ _ h hp;unfold iJoinRows_get at h;split at h
 · rename_i a b;cases h;refine fl [iSumRows_con] (fun k=>bif Nat.beq k 3 then some (.g (⟨Nat,fun s g=>hdb s [0,1,2,6,13] [(7,.own 0),(14,.int .i64 g)] s.bx [⟨34,.sl 3 (.im (.int .i64)),addRTo a b g,0,false⟩],fun _ g=>g<=a.length,fun g=>a.length-g⟩)) else none) func208 ?_;apply VC.thru (iJoinRows_vc a b hp);kernel_rfl
 · cases h
def iJoinRows_con:Con prog:=.f0 208 [] false iJoinRows_get (en func208 rfl) iJoinRows_ok
theorem iRoughSum_vc (a b:List Dat) (hp:a.length<=1000/\a.length<=b.length/\∀k,k<a.length->Adds (kv a k) (kv b k)) :
 WFl (Ty.int i64).sl a->WFl (Ty.int i64).sl b->(a.length<=1000/\a.length<=b.length/\∀k:Nat,k<a.length->Adds (kv a k) (kv b k))/\addR a b=addR a b:=by
 intro hwa hwb;simp only[iv,kv,fv,nm];exact hp
def iRoughSum_get:List SV->St->Option Got
 | [.agg [.sl (.sl (.int .i64)) a],.agg [.sl (.sl (.int .i64)) b]],⟨[],[],[]⟩=>some (a.length<=1000/\a.length<=b.length/\∀k,k<a.length->Adds (kv a k) (kv b k),.agg [.own 0],St.mk [] [] [⟨34,.sl 3 (.im (.int .i64)),addR a b,0,false⟩])
 | _,_=>none
theorem iRoughSum_ok:Ok0 prog 186 iRoughSum_get:=by
 intro _ _ _ _ _ h hp;unfold iRoughSum_get at h;split at h
 · rename_i a b;cases h;refine fz [iJoinRows_con] func186 ?_;apply VC.thru (iRoughSum_vc a b hp);kernel_rfl
 · cases h
def iRoughSum_con:Con prog:=.f0 186 [] false iRoughSum_get (en func186 rfl) iRoughSum_ok
theorem iRoughAdd_vc (rows:List Dat) (t n:Int) (hp:RoughIn rows/\0<=t/\t<64/\0<=n/\n<=2000-sumW (kv rows 0)) :
 WFl (Ty.int i64).sl rows->I64 t->I64 n->(True/\((!dec (RoughIn rows))=false->True/\((!dec (0<=t/\t<64))=false->(decide (n<0)=false->RoughIn rows)/\True)/\True)/\True)/\((!dec (RoughIn rows)||(!dec (0<=t/\t<64)||(decide (n<0)||decide (n > i64.wrap ((2000:Int)-sumW (kv rows 0))))))=true->False)/\((!dec (RoughIn rows)||(!dec (0<=t/\t<64)||(decide (n<0)||decide (n > i64.wrap ((2000:Int)-sumW (kv rows
 0))))))=false->(rows=rows/\True/\rows=rows/\(rows.length<=1000/\rows.length<=roughZero.length/\∀k:Nat,k<rows.length->Adds (kv rows k) (kv roughZero k))/\(I64 (↑(addR rows roughZero).length:Int)->(∃x:Nat,x<=3/\rows=rows/\t=t/\n=n/\(↑(addR rows roughZero).length:Int)=(↑(addR rows roughZero).length:Int)/\0=(x:Int)/\rows=rows/\addR rows roughZero=roughUpto rows t n x)/\∀x:Nat,x<=3->(decide
 ((x:Int)<(↑(addR rows roughZero).length:Int))->(0<=(x:Int)/\(x:Int)<(↑(roughUpto rows t n x).length:Int))/\x<(roughUpto rows t n x).length/\(0<=(x:Int)/\(x:Int)<3/\0<=t/\t<64)/\((x<(roughUpto rows t n x).length/\True)/\0<=place x t/\place x t<(↑((roughUpto rows t n x).getD x default).kids.length:Int))/\((x<(roughUpto rows t n x).length/\True)/\(place x t).toNat<((roughUpto rows t n x).getD x
 default).kids.length)/\((x<(roughUpto rows t n x).length/\True)/\0<=place x t/\place x t<(↑((roughUpto rows t n x).getD x default).kids.length:Int))/\((x<(roughUpto rows t n x).length/\True)/\(place x t).toNat<((roughUpto rows t n x).getD x default).kids.length)/\∃x_1:Nat,(x_1<=3/\3-x_1<3-x)/\rows=rows/\t=t/\n=n/\(↑(addR rows roughZero).length:Int)=(↑(addR rows roughZero).length:Int)/\i64.wrap
 ((x:Int)+1)=(x_1:Int)/\rows=rows/\(roughUpto rows t n x).set x (Dat.node (((roughUpto rows t n x).getD x default).kids.set (place x t).toNat (Dat.int (i64.wrap ((((roughUpto rows t n x).getD x default).kids.getD (place x t).toNat default).toInt+n)))))=roughUpto rows t n x_1)/\(decide ((x:Int)<(↑(addR rows roughZero).length:Int))=false->roughUpto rows t n x=roughAdd rows t
 n)))/\True/\rows=rows/\(rows=rows/\(rows.length<=1000/\rows.length<=roughZero.length/\∀k:Nat,k<rows.length->Adds (kv rows k) (kv roughZero k))/\(I64 (↑(addR rows roughZero).length:Int)->(∃x:Nat,x<=3/\rows=rows/\t=t/\n=n/\(↑(addR rows roughZero).length:Int)=(↑(addR rows roughZero).length:Int)/\0=(x:Int)/\rows=rows/\addR rows roughZero=roughUpto rows t n x)/\∀x:Nat,x<=3->(decide ((x:Int)<(↑(addR
 rows roughZero).length:Int))->(0<=(x:Int)/\(x:Int)<(↑(roughUpto rows t n x).length:Int))/\x<(roughUpto rows t n x).length/\(0<=(x:Int)/\(x:Int)<3/\0<=t/\t<64)/\((x<(roughUpto rows t n x).length/\True)/\0<=place x t/\place x t<(↑((roughUpto rows t n x).getD x default).kids.length:Int))/\((x<(roughUpto rows t n x).length/\True)/\(place x t).toNat<((roughUpto rows t n x).getD x
 default).kids.length)/\((x<(roughUpto rows t n x).length/\True)/\0<=place x t/\place x t<(↑((roughUpto rows t n x).getD x default).kids.length:Int))/\((x<(roughUpto rows t n x).length/\True)/\(place x t).toNat<((roughUpto rows t n x).getD x default).kids.length)/\∃x_1:Nat,(x_1<=3/\3-x_1<3-x)/\rows=rows/\t=t/\n=n/\(↑(addR rows roughZero).length:Int)=(↑(addR rows roughZero).length:Int)/\i64.wrap
 ((x:Int)+1)=(x_1:Int)/\rows=rows/\(roughUpto rows t n x).set x (Dat.node (((roughUpto rows t n x).getD x default).kids.set (place x t).toNat (Dat.int (i64.wrap ((((roughUpto rows t n x).getD x default).kids.getD (place x t).toNat default).toInt+n)))))=roughUpto rows t n x_1)/\(decide ((x:Int)<(↑(addR rows roughZero).length:Int))=false->roughUpto rows t n x=roughAdd rows t
 n)))/\(rows.length<=1000/\rows.length<=roughZero.length/\∀k:Nat,k<rows.length->Adds (kv rows k) (kv roughZero k))/\(I64 (↑(addR rows roughZero).length:Int)->(∃x:Nat,x<=3/\rows=rows/\t=t/\n=n/\(↑(addR rows roughZero).length:Int)=(↑(addR rows roughZero).length:Int)/\0=(x:Int)/\rows=rows/\addR rows roughZero=roughUpto rows t n x)/\∀x:Nat,x<=3->(decide ((x:Int)<(↑(addR rows
 roughZero).length:Int))->(0<=(x:Int)/\(x:Int)<(↑(roughUpto rows t n x).length:Int))/\x<(roughUpto rows t n x).length/\(0<=(x:Int)/\(x:Int)<3/\0<=t/\t<64)/\((x<(roughUpto rows t n x).length/\True)/\0<=place x t/\place x t<(↑((roughUpto rows t n x).getD x default).kids.length:Int))/\((x<(roughUpto rows t n x).length/\True)/\(place x t).toNat<((roughUpto rows t n x).getD x
 default).kids.length)/\((x<(roughUpto rows t n x).length/\True)/\0<=place x t/\place x t<(↑((roughUpto rows t n x).getD x default).kids.length:Int))/\((x<(roughUpto rows t n x).length/\True)/\(place x t).toNat<((roughUpto rows t n x).getD x default).kids.length)/\∃x_1:Nat,(x_1<=3/\3-x_1<3-x)/\rows=rows/\t=t/\n=n/\(↑(addR rows roughZero).length:Int)=(↑(addR rows roughZero).length:Int)/\i64.wrap
 ((x:Int)+1)=(x_1:Int)/\rows=rows/\(roughUpto rows t n x).set x (Dat.node (((roughUpto rows t n x).getD x default).kids.set (place x t).toNat (Dat.int (i64.wrap ((((roughUpto rows t n x).getD x default).kids.getD (place x t).toNat default).toInt+n)))))=roughUpto rows t n x_1)/\(decide ((x:Int)<(↑(addR rows roughZero).length:Int))=false->roughUpto rows t n x=roughAdd rows t n))):=by
 intro hw ht hn;simp only[iv,kv,fv,nm];obtain⟨hr,h0,h1,h2,h3⟩:=hp;have hs:=(hr.2 0 (by omega)).1.sum;simp only[kv] at hs h3;rw[wrap_ok (n:=2000-sumW (rows.getD 0 default).kids) (by omega) (by omega)];have hz:∀k,k<3->(roughZero.getD k default).kids=tab 8 fun _=>.int 0:=fun k hk=>by rw[roughZero,tab_getD hk];rfl
 have hA:rows.length<=1000/\rows.length<=roughZero.length/\∀k,k<rows.length->Adds (rows.getD k default).kids (roughZero.getD k default).kids:=by
   refine⟨by rw[hr.1];omega,by rw[hr.1];exact Nat.le_refl _,fun k hk=>?_⟩;rw[hr.1] at hk;rw[hz k hk];have h4:=(hr.2 k hk).1;refine⟨by have:=h4.1;simp only[kv] at this;omega,by rw[tab_length];exact Nat.le_of_eq h4.1,fun i hi=>?_⟩;have h5:i<8:=by have:=h4.1;simp only[kv] at this;omega
   have h6:=h4.2 i h5;have h7:iv (tab 8 fun _=>Dat.int 0) i=0:=by rw[iv,tab_getD h5];rfl
   rw[h7];simp only[kv] at h6;omega
 have hlen:∀g,(roughUpto rows t n g).length=3:=fun g=>by simp [roughUpto]
 have hal:(addR rows roughZero).length=3:=by simp [addR,hr.1]
 have hstart:addR rows roughZero=roughUpto rows t n 0:=by
   refine tab_of hal (fun k hk=>?_);have h4:=(hr.2 k hk).1;have h5:=wf_sl (wfl_get hw (i:=k) (by rw[hr.1];exact hk));rw[addR,tab_getD (by rw[hr.1];exact hk),if_neg (by omega),h5.2]
   congr 1
   refine (tab_of rfl (fun i hi=>?_)).symm;have h6:i<8:=by have:=h4.1;omega
   rw[(wf_int (wfl_get h5.1 (i:=i) (by have:=h4.1;simp only[kv] at this;omega))).1];have h7:iv (kv roughZero k) i=0:=by rw[kv,hz k hk,iv,tab_getD h6];rfl
   rw[h7,Int.add_zero]
 refine⟨fun h _ _=>h,fun h=>?_,fun _=>?_⟩
 · rcases h with h | h | h | h
   · exact h hr
   · exact h ⟨h0,h1⟩
   · omega
   · omega
 · repeat' (first
     | (refine⟨hA,fun _=>⟨⟨0,by omega,rfl,hstart⟩,fun x hx=>⟨fun hlt=>?_,fun hlt=>?_⟩⟩⟩
        · rw[hal] at hlt;have hx3:x<3:=by omega
          have hk:(rows.getD x default).kids.length=8:=(hr.2 x hx3).1.1;have hpl:=place_lt x t;rw[upto_row hx3 (Nat.le_refl x),hlen,hk];exact⟨by omega,hx3,by omega,⟨hx3,by omega⟩,⟨hx3,by omega⟩,⟨hx3,by omega⟩,⟨hx3,by omega⟩,x+1,by omega,up_ok (n:=3) (by omega) (by omega),upto_step hw hr hx3 h2 (by omega)⟩
        · rw[hal] at hlt;have hx3:x=3:=by omega
          rw[hx3];exact tab_congr (fun i hi=>by rw[if_pos hi]))
     | refine And.intro ?_ ?_)
def iRoughAdd_get:List SV->St->Option Got
 | [.agg [.sl (.sl (.int .i64)) rows],.int .i64 t,.int .i64 n],⟨[],[],[]⟩=>some (RoughIn rows/\0<=t/\t<64/\0<=n/\n<=2000-sumW (kv rows 0),.tup [.agg [.own 0],.tt],St.mk [] [] [⟨34,.sl 3 (.im (.int .i64)),roughAdd rows t n,0,false⟩])
 | _,_=>none
theorem iRoughAdd_ok:Ok0 prog 280 iRoughAdd_get:=by
 intro _ _ _ _ _ h hp;unfold iRoughAdd_get at h;split at h
 · rename_i rows t n;cases h;refine fl [iRoughOk_con,iIsThing_con,iRoughAll_con,iRoughNew_con,iRoughSum_con,iRoughPlace_con] (fun k=>bif Nat.beq k 5 then some (.g (⟨Nat,fun s g=>hdb s [0,1,2,6,7,8,35] [(36,.int .i64 g)] (s.bx.set 2 (33,[.own 0])) [⟨34,.sl 3 (.im (.int .i64)),roughUpto rows t n g,0,false⟩],fun _ g=>g<=3,fun g=>3-g⟩)) else none) func280 ?_;apply VC.thru (iRoughAdd_vc rows t n hp);kernel_rfl
 · cases h
def iRoughAdd_con:Con prog:=.f0 280 [] false iRoughAdd_get (en func280 rfl) iRoughAdd_ok
def iRoughIn_get:List SV->St->Option Got
 | [.agg [.sl (.sl (.int .i64)) rows]],⟨[],[],[]⟩=>some (True,.bool (dec (RoughIn rows)),St.mk [] [] [])
 | _,_=>none
def iTopIn_get:List SV->St->Option Got
 | [.agg [.sl ty0 l,.int .i64 lost,.int .i64 all]],⟨[],[],[]⟩=>guardTy ty0 TPr (some (True,.bool (dec (TopIn l lost all)),St.mk [] [] []))
 | _,_=>none
theorem iWays_vc (rows kept prs kn:List Dat) (lost all rall:Int) :
 WFl (Ty.int i64).sl rows->WFl (Ty.int i64) kept->WFl TPr prs->I64 lost->I64 all->WFl TPr kn->I64 rall->rows=rows/\kept=kept/\prs=prs/\lost=lost/\all=all/\kn=kn/\rall=rall:=by
 exact fun _ _ _ _ _ _ _=>⟨rfl,rfl,rfl,rfl,rfl,rfl,rfl⟩
def iWays_get:List SV->St->Option Got
 | [.agg [.sl (.sl (.int .i64)) rows,.sl (.int .i64) kept,.sl ty0 prs,.int .i64 lost,.int .i64 all,.sl ty1 kn,.int .i64 rall]],⟨[],[],[]⟩=>guardTy ty0 TPr (guardTy ty1 TPr (some (True,.agg [.ifc 33 [.sl (.sl (.int .i64)) rows],.ifc 36 [.sl (.int .i64) kept],.ifc 39 [.sl TPr prs,.int .i64 lost,.int .i64 all],.ifc 42 [.sl TPr kn,.int .i64 rall]],St.mk [] [] [])))
 | _,_=>none
theorem iWays_ok:Ok0 prog 113 iWays_get:=by
 intro _ _ _ _ _ h hp;unfold iWays_get at h;split at h
 · rename_i rows kept _ prs lost all _ kn rall;replace h:=gT2 h;obtain⟨rfl,rfl,h⟩:=h;cases h;refine fz [] func113 ?_;apply VC.thru (iWays_vc rows kept prs kn lost all rall);kernel_rfl
 · cases h
def iWays_con:Con prog:=.f0 113 [] false iWays_get (en func113 rfl) iWays_ok
theorem iSumFrom_vc (rows kept prs kn:List Dat) (lost all rall:Int) :
 (∃_:Unit,True/\rows=rows/\kept=kept/\prs=prs/\lost=lost/\all=all/\kn=kn/\rall=rall/\rows=rows/\kept=kept/\prs=prs/\lost=lost/\all=all/\kn=kn/\rall=rall/\0=(↑(0:Nat):Int)/\rows=rows/\kept=kept/\prs=prs/\lost=lost/\all=all/\kn=kn/\rall=rall/\(0:Int)=0/\(0:Int)=0/\(0:Int)=0/\(0=bif Nat.blt 2 0 then lost else (0:Int))/\(0=bif Nat.blt 2 0 then all else (0:Int))/\0=bif Nat.blt 3 0 then rall else
 (0:Int))/\((((∀_:Unit,True->(decide ((↑(0:Nat):Int)<4)->(0<=(↑(0:Nat):Int)/\(↑(0:Nat):Int)<(↑(4:Nat):Int))/\∃_:Unit,True/\rows=rows/\kept=kept/\prs=prs/\lost=lost/\all=all/\kn=kn/\rall=rall/\rows=rows/\kept=kept/\prs=prs/\lost=lost/\all=all/\kn=kn/\rall=rall/\i64.wrap
 ((↑(0:Nat):Int)+1)=(↑(1:Nat):Int)/\rows=rows/\kept=kept/\prs=prs/\lost=lost/\all=all/\kn=kn/\rall=rall/\(0:Int)=0/\(0:Int)=0/\(0:Int)=0/\rows=rows/\((bif Nat.blt 2 0 then lost else (0:Int))=bif Nat.blt 2 1 then lost else (0:Int))/\((bif Nat.blt 2 0 then all else (0:Int))=bif Nat.blt 2 1 then all else (0:Int))/\(bif Nat.blt 3 0 then rall else (0:Int))=bif Nat.blt 3 1 then rall else
 (0:Int))/\(decide ((↑(0:Nat):Int)<4)=false->rows=[]/\kept=[]/\prs=[]/\(bif Nat.blt 2 0 then lost else (0:Int))=lost/\(bif Nat.blt 2 0 then all else (0:Int))=all/\kn=[]/\(bif Nat.blt 3 0 then rall else (0:Int))=rall))/\∀_:Unit,True->(decide
 ((↑(1:Nat):Int)<4)->(0<=(↑(1:Nat):Int)/\(↑(1:Nat):Int)<(↑(4:Nat):Int))/\∃_:Unit,True/\rows=rows/\kept=kept/\prs=prs/\lost=lost/\all=all/\kn=kn/\rall=rall/\rows=rows/\kept=kept/\prs=prs/\lost=lost/\all=all/\kn=kn/\rall=rall/\i64.wrap ((↑(1:Nat):Int)+1)=(↑(2:Nat):Int)/\rows=rows/\kept=kept/\prs=prs/\lost=lost/\all=all/\kn=kn/\rall=rall/\(0:Int)=0/\(0:Int)=0/\(0:Int)=0/\rows=rows/\kept=kept/\((bif
 Nat.blt 2 1 then lost else (0:Int))=bif Nat.blt 2 2 then lost else (0:Int))/\((bif Nat.blt 2 1 then all else (0:Int))=bif Nat.blt 2 2 then all else (0:Int))/\(bif Nat.blt 3 1 then rall else (0:Int))=bif Nat.blt 3 2 then rall else (0:Int))/\(decide ((↑(1:Nat):Int)<4)=false->rows=rows/\kept=[]/\prs=[]/\(bif Nat.blt 2 1 then lost else (0:Int))=lost/\(bif Nat.blt 2 1 then all else
 (0:Int))=all/\kn=[]/\(bif Nat.blt 3 1 then rall else (0:Int))=rall))/\∀_:Unit,True->(decide ((↑(2:Nat):Int)<4)->(0<=(↑(2:Nat):Int)/\(↑(2:Nat):Int)<(↑(4:Nat):Int))/\∃_:Unit,True/\rows=rows/\kept=kept/\prs=prs/\lost=lost/\all=all/\kn=kn/\rall=rall/\rows=rows/\kept=kept/\prs=prs/\lost=lost/\all=all/\kn=kn/\rall=rall/\i64.wrap
 ((↑(2:Nat):Int)+1)=(↑(3:Nat):Int)/\rows=rows/\kept=kept/\prs=prs/\lost=lost/\all=all/\kn=kn/\rall=rall/\(0:Int)=0/\(0:Int)=0/\(0:Int)=0/\rows=rows/\kept=kept/\prs=prs/\(lost=bif Nat.blt 2 3 then lost else (0:Int))/\(all=bif Nat.blt 2 3 then all else (0:Int))/\(bif Nat.blt 3 2 then rall else (0:Int))=bif Nat.blt 3 3 then rall else (0:Int))/\(decide
 ((↑(2:Nat):Int)<4)=false->rows=rows/\kept=kept/\prs=[]/\(bif Nat.blt 2 2 then lost else (0:Int))=lost/\(bif Nat.blt 2 2 then all else (0:Int))=all/\kn=[]/\(bif Nat.blt 3 2 then rall else (0:Int))=rall))/\∀_:Unit,True->(decide
 ((↑(3:Nat):Int)<4)->(0<=(↑(3:Nat):Int)/\(↑(3:Nat):Int)<(↑(4:Nat):Int))/\∃_:Unit,True/\rows=rows/\kept=kept/\prs=prs/\lost=lost/\all=all/\kn=kn/\rall=rall/\rows=rows/\kept=kept/\prs=prs/\lost=lost/\all=all/\kn=kn/\rall=rall/\i64.wrap
 ((↑(3:Nat):Int)+1)=(↑(4:Nat):Int)/\rows=rows/\kept=kept/\prs=prs/\lost=lost/\all=all/\kn=kn/\rall=rall/\(0:Int)=0/\(0:Int)=0/\(0:Int)=0/\rows=rows/\kept=kept/\prs=prs/\((bif Nat.blt 2 3 then lost else (0:Int))=bif Nat.blt 2 4 then lost else (0:Int))/\((bif Nat.blt 2 3 then all else (0:Int))=bif Nat.blt 2 4 then all else (0:Int))/\kn=kn/\rall=bif Nat.blt 3 4 then rall else (0:Int))/\(decide
 ((↑(3:Nat):Int)<4)=false->rows=rows/\kept=kept/\prs=prs/\(bif Nat.blt 2 3 then lost else (0:Int))=lost/\(bif Nat.blt 2 3 then all else (0:Int))=all/\kn=[]/\(bif Nat.blt 3 3 then rall else (0:Int))=rall))/\∀_:Unit,True->(decide ((↑(4:Nat):Int)<4)->False)/\(decide ((↑(4:Nat):Int)<4)=false->rows=rows/\kept=kept/\prs=prs/\(bif Nat.blt 2 4 then lost else (0:Int))=lost/\(bif Nat.blt 2 4 then all else
 (0:Int))=all/\kn=kn/\(bif Nat.blt 3 4 then rall else (0:Int))=rall):=by
 simp
 repeat' (first | rfl | refine And.intro ?_ ?_)
def iSumFrom_get:List SV->St->Option Got
 | [.agg [.ifc 33 [.sl (.sl (.int .i64)) rows],.ifc 36 [.sl (.int .i64) kept],.ifc 39 [.sl ty0 prs,.int .i64 lost,.int .i64 all],.ifc 42 [.sl ty1 kn,.int .i64 rall]]],⟨[],[],[]⟩=>guardTy ty0 TPr (guardTy ty1 TPr (some (True,.agg [.sl (.sl (.int .i64)) rows,.sl (.int .i64) kept,.sl TPr prs,.int .i64 lost,.int .i64 all,.sl TPr kn,.int .i64 rall],St.mk [] [] [])))
 | _,_=>none
theorem iSumFrom_ok:Ok0 prog 115 iSumFrom_get:=by
 intro _ _ _ _ _ h hp;unfold iSumFrom_get at h;split at h
 · rename_i rows kept _ prs lost all _ kn rall;replace h:=gT2 h;obtain⟨rfl,rfl,h⟩:=h;cases h;refine fl [] (fun k=>bif Nat.beq k 3 then some (.u (⟨4,Unit,fun i s _=>hdb s [0,1,2,3,10] [(11,.int .i64 i)] (s.bx.set 2 (44,[bif Nat.blt 0 i then .sl (.sl (.int .i64)) rows else .nil,bif Nat.blt 1 i then .sl (.int .i64) kept else .nil,bif Nat.blt 2 i then .sl TPr prs else .nil,.int .i64 (bif Nat.blt 2 i then lost else 0),.int .i64 (bif Nat.blt 2 i then all else 0),bif Nat.blt 3 i then .sl TPr kn else .nil,.int .i64 (bif Nat.blt 3 i then rall else 0)])) s.rw,fun _ _ _=>True⟩)) else none) func115 ?_;apply VC.thru (iSumFrom_vc rows kept prs kn lost all rall);kernel_rfl
 · cases h
def iSumFrom_con:Con prog:=.f0 115 [] false iSumFrom_get (en func115 rfl) iSumFrom_ok
theorem wRough_vc (rows:List Dat) (t:Int) (hp:RoughIn rows/\0<=t/\t<64/\sumW (kv rows 0)<2000) :
 WFl (Ty.int i64).sl rows->I64 t->(RoughIn rows/\0<=t/\t<64/\0<=(1:Int)/\1<=(2000:Int)-sumW (kv rows 0))/\roughAdd rows t 1=roughAdd rows t (1:Int):=by
 intro _ _;exact⟨⟨hp.1,hp.2.1,hp.2.2.1,by omega,by have:=hp.2.2.2;omega⟩,rfl⟩
def wRough_get:List SV->St->Option Got
 | [.agg [.sl (.sl (.int .i64)) rows],.int .i64 t],⟨[],[],[]⟩=>some (RoughIn rows/\0<=t/\t<64/\sumW (kv rows 0)<2000,.tup [.ifc 33 [.sl (.sl (.int .i64)) (roughAdd rows t 1)],.tt],St.mk [] [] [])
 | _,_=>none
theorem wRough_ok:Ok0 prog 279 wRough_get:=by
 intro _ _ _ _ _ h hp;unfold wRough_get at h;split at h
 · rename_i rows t;cases h;refine fz [iRoughAdd_con] func279 ?_;apply VC.thru (wRough_vc rows t hp);kernel_rfl
 · cases h
def wRough_con:Con prog:=.f0 279 [] false wRough_get (en func279 rfl) wRough_ok
def wRough_mcon:Con prog:=.mt 279 33 "loop.example/inkling/impl.with" (enters func279 (by kernel_rfl) rfl) (fun _ _=>by kernel_rfl)
theorem wFew_vc (kept:List Dat) (t:Int) (hp:FewIn kept/\0<=t/\t<64) :
 WFl (Ty.int i64) kept->I64 t->(FewIn kept/\0<=t/\t<64)/\dInts (fewPut (ints kept) (mark t))=dInts (fewPut (ints kept) (mark t)):=by
 exact fun _ _=>⟨hp,rfl⟩
def wFew_get:List SV->St->Option Got
 | [.agg [.sl (.int .i64) kept],.int .i64 t],⟨[],[],[]⟩=>some (FewIn kept/\0<=t/\t<64,.tup [.ifc 36 [.sl (.int .i64) (dInts (fewPut (ints kept) (mark t)))],.tt],St.mk [] [] [])
 | _,_=>none
theorem wFew_ok:Ok0 prog 282 wFew_get:=by
 intro _ _ _ _ _ h hp;unfold wFew_get at h;split at h
 · rename_i kept t;cases h;refine fz [iFewAdd_con] func282 ?_;apply VC.thru (wFew_vc kept t hp);kernel_rfl
 · cases h
def wFew_con:Con prog:=.f0 282 [] false wFew_get (en func282 rfl) wFew_ok
def wFew_mcon:Con prog:=.mt 282 36 "loop.example/inkling/impl.with" (enters func282 (by kernel_rfl) rfl) (fun _ _=>by kernel_rfl)
theorem wTop_vc (l:List Dat) (lost all t:Int) (hp:TopIn l lost all/\0<=t/\t<64/\all<2000) :
 WFl TPr l->I64 lost->I64 all->I64 t->(TopIn l lost all/\0<=t/\t<64/\all<2000)/\dPrs (topLess (topPut (prs l) (t,(1:Int))) (over (topPut (prs l) (t,(1:Int)))))=dPrs (topLess (topPut (prs l) (t,(1:Int))) (over (topPut (prs l) (t,(1:Int)))))/\lost+over (topPut (prs l) (t,(1:Int)))=lost+over (topPut (prs l) (t,(1:Int)))/\all+1=all+1:=by
 exact fun _ _ _ _=>⟨hp,rfl,rfl,rfl⟩
def wTop_get:List SV->St->Option Got
 | [.agg [.sl ty0 l,.int .i64 lost,.int .i64 all],.int .i64 t],⟨[],[],[]⟩=>guardTy ty0 TPr (some (TopIn l lost all/\0<=t/\t<64/\all<2000,.tup [.ifc 39 [.sl TPr (dPrs (topLess (topPut (prs l) (t,1)) (over (topPut (prs l) (t,1))))),.int .i64 (lost+over (topPut (prs l) (t,1))),.int .i64 (all+1)],.tt],St.mk [] [] []))
 | _,_=>none
theorem wTop_ok:Ok0 prog 285 wTop_get:=by
 intro _ _ _ _ _ h hp;unfold wTop_get at h;split at h
 · rename_i l lost all t;replace h:=gT h;obtain⟨rfl,h⟩:=h;cases h;refine fz [iTopAdd_con] func285 ?_;apply VC.thru (wTop_vc l lost all t hp);kernel_rfl
 · cases h
def wTop_con:Con prog:=.f0 285 [] false wTop_get (en func285 rfl) wTop_ok
def wTop_mcon:Con prog:=.mt 285 39 "loop.example/inkling/impl.with" (enters func285 (by kernel_rfl) rfl) (fun _ _=>by kernel_rfl)
theorem wRank_vc (l:List Dat) (all t:Int) (hp:RankIn l all/\0<=t/\t<64/\all<2000) :
 WFl TPr l->I64 all->I64 t->(RankIn l all/\0<=t/\t<64/\all<2000)/\dPrs (rankAdd (prs l) all t)=dPrs (rankAdd (prs l) all t)/\all+1=all+1:=by
 exact fun _ _ _=>⟨hp,rfl,rfl⟩
def wRank_get:List SV->St->Option Got
 | [.agg [.sl ty0 l,.int .i64 all],.int .i64 t],⟨[],[],[]⟩=>guardTy ty0 TPr (some (RankIn l all/\0<=t/\t<64/\all<2000,.tup [.ifc 42 [.sl TPr (dPrs (rankAdd (prs l) all t)),.int .i64 (all+1)],.tt],St.mk [] [] []))
 | _,_=>none
theorem wRank_ok:Ok0 prog 288 wRank_get:=by
 intro _ _ _ _ _ h hp;unfold wRank_get at h;split at h
 · rename_i l all t;replace h:=gT h;obtain⟨rfl,h⟩:=h;cases h;refine fz [iRankAdd_con] func288 ?_;apply VC.thru (wRank_vc l all t hp);kernel_rfl
 · cases h
def wRank_con:Con prog:=.f0 288 [] false wRank_get (en func288 rfl) wRank_ok
def wRank_mcon:Con prog:=.mt 288 42 "loop.example/inkling/impl.with" (enters func288 (by kernel_rfl) rfl) (fun _ _=>by kernel_rfl)
theorem iSumNew_vc :
 True/\roughZero=sumZero.rows/\sumZero.kept=[]/\sumZero.prs=[]/\0=sumZero.lost/\0=sumZero.all/\sumZero.kn=[]/\0=sumZero.rall:=by
 exact⟨trivial,rfl,rfl,rfl,rfl,rfl,rfl,rfl⟩
def iSumNew_get:List SV->St->Option Got
 | [],⟨[],[],[]⟩=>some (True,.agg [.sl (.sl (.int .i64)) (sumZero).rows,.sl (.int .i64) (sumZero).kept,.sl TPr (sumZero).prs,.int .i64 (sumZero).lost,.int .i64 (sumZero).all,.sl TPr (sumZero).kn,.int .i64 (sumZero).rall],St.mk [] [] [])
 | _,_=>none
theorem iSumNew_ok:Ok0 prog 41 iSumNew_get:=by
 intro _ _ _ _ _ h hp;unfold iSumNew_get at h;split at h
 · cases h;refine fz [iRoughNew_con] func41 ?_;apply VC.thru (iSumNew_vc);kernel_rfl
 · cases h
def iSumNew_con:Con prog:=.f0 41 [] false iSumNew_get (en func41 rfl) iSumNew_ok
theorem iSumCounted_vc (rows kept prs kn:List Dat) (lost all rall t:Int) (hp:SumIn ⟨rows,kept,prs,lost,all,kn,rall⟩/\0<=t/\t<64/\all<2000) :
 WFl (Ty.int i64).sl rows->WFl (Ty.int i64) kept->WFl TPr prs->I64 lost->I64 all->WFl TPr kn->I64 rall->I64
 t->True/\(∃_:Unit,True/\rows=rows/\kept=kept/\prs=prs/\lost=lost/\all=all/\kn=kn/\rall=rall/\t=t/\rows=rows/\kept=kept/\prs=prs/\lost=lost/\all=all/\kn=kn/\rall=rall/\0=(↑(0:Nat):Int)/\rows=rows/\kept=kept/\prs=prs/\lost=lost/\all=all/\kn=kn/\rall=rall/\(0:Int)=0/\(0:Int)=0/\(0:Int)=0/\(rows=bif Nat.blt 0 0 then roughAdd rows t (1:Int) else rows)/\(kept=bif Nat.blt 1 0 then dInts (fewPut (ints
 kept) (mark t)) else kept)/\(prs=bif Nat.blt 2 0 then dPrs (topLess (topPut (E.prs prs) (t,(1:Int))) (over (topPut (E.prs prs) (t,(1:Int))))) else prs)/\(lost=bif Nat.blt 2 0 then lost+over (topPut (E.prs prs) (t,(1:Int))) else lost)/\(all=bif Nat.blt 2 0 then all+1 else all)/\(kn=bif Nat.blt 3 0 then dPrs (rankAdd (E.prs kn) rall t) else kn)/\rall=bif Nat.blt 3 0 then rall+1 else
 rall)/\((((∀_:Unit,True->(decide ((↑(0:Nat):Int)<4)->(0<=(↑(0:Nat):Int)/\(↑(0:Nat):Int)<(↑(4:Nat):Int))/\(RoughIn rows/\0<=t/\t<64/\sumW (kv rows 0)<(2000:Int))/\(0<=(↑(0:Nat):Int)/\(↑(0:Nat):Int)<(↑(4:Nat):Int))/\∃_:Unit,True/\rows=rows/\kept=kept/\prs=prs/\lost=lost/\all=all/\kn=kn/\rall=rall/\t=t/\rows=rows/\kept=kept/\prs=prs/\lost=lost/\all=all/\kn=kn/\rall=rall/\i64.wrap
 ((↑(0:Nat):Int)+1)=(↑(1:Nat):Int)/\rows=rows/\kept=kept/\prs=prs/\lost=lost/\all=all/\kn=kn/\rall=rall/\(0:Int)=0/\(0:Int)=0/\(0:Int)=0/\(roughAdd rows t 1=bif Nat.blt 0 1 then roughAdd rows t (1:Int) else rows)/\((bif Nat.blt 1 0 then dInts (fewPut (ints kept) (mark t)) else kept)=bif Nat.blt 1 1 then dInts (fewPut (ints kept) (mark t)) else kept)/\((bif Nat.blt 2 0 then dPrs (topLess (topPut
 (E.prs prs) (t,(1:Int))) (over (topPut (E.prs prs) (t,(1:Int))))) else prs)=bif Nat.blt 2 1 then dPrs (topLess (topPut (E.prs prs) (t,(1:Int))) (over (topPut (E.prs prs) (t,(1:Int))))) else prs)/\((bif Nat.blt 2 0 then lost+over (topPut (E.prs prs) (t,(1:Int))) else lost)=bif Nat.blt 2 1 then lost+over (topPut (E.prs prs) (t,(1:Int))) else lost)/\((bif Nat.blt 2 0 then all+1 else all)=bif Nat.blt
 2 1 then all+1 else all)/\((bif Nat.blt 3 0 then dPrs (rankAdd (E.prs kn) rall t) else kn)=bif Nat.blt 3 1 then dPrs (rankAdd (E.prs kn) rall t) else kn)/\(bif Nat.blt 3 0 then rall+1 else rall)=bif Nat.blt 3 1 then rall+1 else rall)/\(decide ((↑(0:Nat):Int)<4)=false->True/\∃x:SumD,x=sumAdd (SumD.mk rows kept prs lost all kn rall) t/\(bif Nat.blt 0 0 then roughAdd rows t (1:Int) else
 rows)=x.rows/\(bif Nat.blt 1 0 then dInts (fewPut (ints kept) (mark t)) else kept)=x.kept/\(bif Nat.blt 2 0 then dPrs (topLess (topPut (E.prs prs) (t,(1:Int))) (over (topPut (E.prs prs) (t,(1:Int))))) else prs)=x.prs/\(bif Nat.blt 2 0 then lost+over (topPut (E.prs prs) (t,(1:Int))) else lost)=x.lost/\(bif Nat.blt 2 0 then all+1 else all)=x.all/\(bif Nat.blt 3 0 then dPrs (rankAdd (E.prs kn) rall
 t) else kn)=x.kn/\(bif Nat.blt 3 0 then rall+1 else rall)=x.rall))/\∀_:Unit,True->(decide ((↑(1:Nat):Int)<4)->(0<=(↑(1:Nat):Int)/\(↑(1:Nat):Int)<(↑(4:Nat):Int))/\(FewIn
 kept/\0<=t/\t<64)/\(0<=(↑(1:Nat):Int)/\(↑(1:Nat):Int)<(↑(4:Nat):Int))/\∃_:Unit,True/\rows=rows/\kept=kept/\prs=prs/\lost=lost/\all=all/\kn=kn/\rall=rall/\t=t/\rows=rows/\kept=kept/\prs=prs/\lost=lost/\all=all/\kn=kn/\rall=rall/\i64.wrap ((↑(1:Nat):Int)+1)=(↑(2:Nat):Int)/\rows=rows/\kept=kept/\prs=prs/\lost=lost/\all=all/\kn=kn/\rall=rall/\(0:Int)=0/\(0:Int)=0/\(0:Int)=0/\((bif Nat.blt 0 1 then
 roughAdd rows t (1:Int) else rows)=bif Nat.blt 0 2 then roughAdd rows t (1:Int) else rows)/\(dInts (fewPut (ints kept) (mark t))=bif Nat.blt 1 2 then dInts (fewPut (ints kept) (mark t)) else kept)/\((bif Nat.blt 2 1 then dPrs (topLess (topPut (E.prs prs) (t,(1:Int))) (over (topPut (E.prs prs) (t,(1:Int))))) else prs)=bif Nat.blt 2 2 then dPrs (topLess (topPut (E.prs prs) (t,(1:Int))) (over (topPut
 (E.prs prs) (t,(1:Int))))) else prs)/\((bif Nat.blt 2 1 then lost+over (topPut (E.prs prs) (t,(1:Int))) else lost)=bif Nat.blt 2 2 then lost+over (topPut (E.prs prs) (t,(1:Int))) else lost)/\((bif Nat.blt 2 1 then all+1 else all)=bif Nat.blt 2 2 then all+1 else all)/\((bif Nat.blt 3 1 then dPrs (rankAdd (E.prs kn) rall t) else kn)=bif Nat.blt 3 2 then dPrs (rankAdd (E.prs kn) rall t) else
 kn)/\(bif Nat.blt 3 1 then rall+1 else rall)=bif Nat.blt 3 2 then rall+1 else rall)/\(decide ((↑(1:Nat):Int)<4)=false->True/\∃x:SumD,x=sumAdd (SumD.mk rows kept prs lost all kn rall) t/\(bif Nat.blt 0 1 then roughAdd rows t (1:Int) else rows)=x.rows/\(bif Nat.blt 1 1 then dInts (fewPut (ints kept) (mark t)) else kept)=x.kept/\(bif Nat.blt 2 1 then dPrs (topLess (topPut (E.prs prs) (t,(1:Int)))
 (over (topPut (E.prs prs) (t,(1:Int))))) else prs)=x.prs/\(bif Nat.blt 2 1 then lost+over (topPut (E.prs prs) (t,(1:Int))) else lost)=x.lost/\(bif Nat.blt 2 1 then all+1 else all)=x.all/\(bif Nat.blt 3 1 then dPrs (rankAdd (E.prs kn) rall t) else kn)=x.kn/\(bif Nat.blt 3 1 then rall+1 else rall)=x.rall))/\∀_:Unit,True->(decide
 ((↑(2:Nat):Int)<4)->(0<=(↑(2:Nat):Int)/\(↑(2:Nat):Int)<(↑(4:Nat):Int))/\(TopIn prs lost all/\0<=t/\t<64/\all<2000)/\(0<=(↑(2:Nat):Int)/\(↑(2:Nat):Int)<(↑(4:Nat):Int))/\∃_:Unit,True/\rows=rows/\kept=kept/\prs=prs/\lost=lost/\all=all/\kn=kn/\rall=rall/\t=t/\rows=rows/\kept=kept/\prs=prs/\lost=lost/\all=all/\kn=kn/\rall=rall/\i64.wrap
 ((↑(2:Nat):Int)+1)=(↑(3:Nat):Int)/\rows=rows/\kept=kept/\prs=prs/\lost=lost/\all=all/\kn=kn/\rall=rall/\(0:Int)=0/\(0:Int)=0/\(0:Int)=0/\((bif Nat.blt 0 2 then roughAdd rows t (1:Int) else rows)=bif Nat.blt 0 3 then roughAdd rows t (1:Int) else rows)/\((bif Nat.blt 1 2 then dInts (fewPut (ints kept) (mark t)) else kept)=bif Nat.blt 1 3 then dInts (fewPut (ints kept) (mark t)) else kept)/\(dPrs
 (topLess (topPut (E.prs prs) (t,(1:Int))) (over (topPut (E.prs prs) (t,(1:Int)))))=bif Nat.blt 2 3 then dPrs (topLess (topPut (E.prs prs) (t,(1:Int))) (over (topPut (E.prs prs) (t,(1:Int))))) else prs)/\(lost+over (topPut (E.prs prs) (t,(1:Int)))=bif Nat.blt 2 3 then lost+over (topPut (E.prs prs) (t,(1:Int))) else lost)/\(all+1=bif Nat.blt 2 3 then all+1 else all)/\((bif Nat.blt 3 2 then dPrs
 (rankAdd (E.prs kn) rall t) else kn)=bif Nat.blt 3 3 then dPrs (rankAdd (E.prs kn) rall t) else kn)/\(bif Nat.blt 3 2 then rall+1 else rall)=bif Nat.blt 3 3 then rall+1 else rall)/\(decide ((↑(2:Nat):Int)<4)=false->True/\∃x:SumD,x=sumAdd (SumD.mk rows kept prs lost all kn rall) t/\(bif Nat.blt 0 2 then roughAdd rows t (1:Int) else rows)=x.rows/\(bif Nat.blt 1 2 then dInts (fewPut (ints kept) (mark
 t)) else kept)=x.kept/\(bif Nat.blt 2 2 then dPrs (topLess (topPut (E.prs prs) (t,(1:Int))) (over (topPut (E.prs prs) (t,(1:Int))))) else prs)=x.prs/\(bif Nat.blt 2 2 then lost+over (topPut (E.prs prs) (t,(1:Int))) else lost)=x.lost/\(bif Nat.blt 2 2 then all+1 else all)=x.all/\(bif Nat.blt 3 2 then dPrs (rankAdd (E.prs kn) rall t) else kn)=x.kn/\(bif Nat.blt 3 2 then rall+1 else
 rall)=x.rall))/\∀_:Unit,True->(decide ((↑(3:Nat):Int)<4)->(0<=(↑(3:Nat):Int)/\(↑(3:Nat):Int)<(↑(4:Nat):Int))/\(RankIn kn rall/\0<=t/\t<64/\rall<2000)/\(0<=(↑(3:Nat):Int)/\(↑(3:Nat):Int)<(↑(4:Nat):Int))/\∃_:Unit,True/\rows=rows/\kept=kept/\prs=prs/\lost=lost/\all=all/\kn=kn/\rall=rall/\t=t/\rows=rows/\kept=kept/\prs=prs/\lost=lost/\all=all/\kn=kn/\rall=rall/\i64.wrap
 ((↑(3:Nat):Int)+1)=(↑(4:Nat):Int)/\rows=rows/\kept=kept/\prs=prs/\lost=lost/\all=all/\kn=kn/\rall=rall/\(0:Int)=0/\(0:Int)=0/\(0:Int)=0/\((bif Nat.blt 0 3 then roughAdd rows t (1:Int) else rows)=bif Nat.blt 0 4 then roughAdd rows t (1:Int) else rows)/\((bif Nat.blt 1 3 then dInts (fewPut (ints kept) (mark t)) else kept)=bif Nat.blt 1 4 then dInts (fewPut (ints kept) (mark t)) else kept)/\((bif
 Nat.blt 2 3 then dPrs (topLess (topPut (E.prs prs) (t,(1:Int))) (over (topPut (E.prs prs) (t,(1:Int))))) else prs)=bif Nat.blt 2 4 then dPrs (topLess (topPut (E.prs prs) (t,(1:Int))) (over (topPut (E.prs prs) (t,(1:Int))))) else prs)/\((bif Nat.blt 2 3 then lost+over (topPut (E.prs prs) (t,(1:Int))) else lost)=bif Nat.blt 2 4 then lost+over (topPut (E.prs prs) (t,(1:Int))) else lost)/\((bif
 Nat.blt 2 3 then all+1 else all)=bif Nat.blt 2 4 then all+1 else all)/\(dPrs (rankAdd (E.prs kn) rall t)=bif Nat.blt 3 4 then dPrs (rankAdd (E.prs kn) rall t) else kn)/\rall+1=bif Nat.blt 3 4 then rall+1 else rall)/\(decide ((↑(3:Nat):Int)<4)=false->True/\∃x:SumD,x=sumAdd (SumD.mk rows kept prs lost all kn rall) t/\(bif Nat.blt 0 3 then roughAdd rows t (1:Int) else rows)=x.rows/\(bif Nat.blt 1 3
 then dInts (fewPut (ints kept) (mark t)) else kept)=x.kept/\(bif Nat.blt 2 3 then dPrs (topLess (topPut (E.prs prs) (t,(1:Int))) (over (topPut (E.prs prs) (t,(1:Int))))) else prs)=x.prs/\(bif Nat.blt 2 3 then lost+over (topPut (E.prs prs) (t,(1:Int))) else lost)=x.lost/\(bif Nat.blt 2 3 then all+1 else all)=x.all/\(bif Nat.blt 3 3 then dPrs (rankAdd (E.prs kn) rall t) else kn)=x.kn/\(bif Nat.blt 3
 3 then rall+1 else rall)=x.rall))/\∀_:Unit,True->(decide ((↑(4:Nat):Int)<4)->False)/\(decide ((↑(4:Nat):Int)<4)=false->True/\∃x:SumD,x=sumAdd (SumD.mk rows kept prs lost all kn rall) t/\(bif Nat.blt 0 4 then roughAdd rows t (1:Int) else rows)=x.rows/\(bif Nat.blt 1 4 then dInts (fewPut (ints kept) (mark t)) else kept)=x.kept/\(bif Nat.blt 2 4 then dPrs (topLess (topPut (E.prs prs) (t,(1:Int)))
 (over (topPut (E.prs prs) (t,(1:Int))))) else prs)=x.prs/\(bif Nat.blt 2 4 then lost+over (topPut (E.prs prs) (t,(1:Int))) else lost)=x.lost/\(bif Nat.blt 2 4 then all+1 else all)=x.all/\(bif Nat.blt 3 4 then dPrs (rankAdd (E.prs kn) rall t) else kn)=x.kn/\(bif Nat.blt 3 4 then rall+1 else rall)=x.rall):=by
 intro _ _ _ _ _ _ _ _;obtain⟨⟨s1,s2,s3,s4,s5,s6,s7⟩,h1,h2,h3⟩:=hp;simp only at s1 s2 s3 s4 s5 s6 s7;have s8:sumW (kv rows 0)<2000:=by omega
 have s9:rall<2000:=by omega
 simp [s1,s2,s3,s4,h1,h2,h3,s8,s9,Nat.blt,E.sumAdd];generalize roughAdd rows t 1=A;generalize dInts (fewPut (ints kept) (mark t))=B;generalize dPrs (topLess (topPut (E.prs prs) (t,1)) (over (topPut (E.prs prs) (t,1))))=C;generalize over (topPut (E.prs prs) (t,1))=o;generalize dPrs (rankAdd (E.prs kn) rall t)=D
 repeat' (first | refine And.intro ?_ ?_ | (exact wrap_ok (by decide) (by decide)) | rfl)
def iSumCounted_get:List SV->St->Option (Prop×(SumD->Prop×SV×St))
 | [.agg [.sl (.sl (.int .i64)) rows,.sl (.int .i64) kept,.sl ty0 prs,.int .i64 lost,.int .i64 all,.sl ty1 kn,.int .i64 rall],.int .i64 t],⟨[],[],[]⟩=>guardTy ty0 TPr (guardTy ty1 TPr (some (SumIn ⟨rows,kept,prs,lost,all,kn,rall⟩/\0<=t/\t<64/\all<2000,(fun g=>(g=E.sumAdd ⟨rows,kept,prs,lost,all,kn,rall⟩ t,.tup [.agg [.sl (.sl (.int .i64)) (g).rows,.sl (.int .i64) (g).kept,.sl TPr (g).prs,.int .i64 (g).lost,.int .i64 (g).all,.sl TPr (g).kn,.int .i64 (g).rall],.tt],St.mk [] [] []):SumD->Prop×SV×St))))
 | _,_=>none
theorem iSumCounted_ok:OkG prog 207 (SumD) iSumCounted_get:=by
 intro _ _ _ _ h hp;unfold iSumCounted_get at h;split at h
 · rename_i rows kept _ prs lost all _ kn rall t;replace h:=gT2 h;obtain⟨rfl,rfl,h⟩:=h;cases h;refine gl [iWays_con,wRough_mcon,wFew_mcon,wTop_mcon,wRank_mcon,wRough_con,wFew_con,wTop_con,wRank_con,iSumFrom_con] (fun k=>bif Nat.beq k 3 then some (.u (⟨4,Unit,fun i s _=>hdb s [0,1,2,4,5,6,13] [(14,.int .i64 i)] (s.bx.set 2 (157,[.ifc 33 [.sl (.sl (.int .i64)) (bif Nat.blt 0 i then roughAdd rows t 1 else rows)],.ifc 36 [.sl (.int .i64) (bif Nat.blt 1 i then dInts (fewPut (ints kept) (mark t)) else kept)],.ifc 39 [.sl TPr (bif Nat.blt 2 i then dPrs (topLess (topPut (E.prs prs) (t,1)) (over (topPut (E.prs prs) (t,1)))) else prs),.int .i64 (bif Nat.blt 2 i then lost+over (topPut (E.prs prs) (t,1)) else lost),.int .i64 (bif Nat.blt 2 i then all+1 else all)],.ifc 42 [.sl TPr (bif Nat.blt 3 i then dPrs (rankAdd (E.prs kn) rall t) else kn),.int .i64 (bif Nat.blt 3 i then rall+1 else rall)]])) s.rw,fun _ _ _=>True⟩)) else none) func207 ?_;apply VC.thru (iSumCounted_vc rows kept prs kn lost all rall t hp);kernel_rfl
 · cases h
def iSumCounted_con:Con prog:=.fg 207 [] false (SumD) iSumCounted_get (en func207 rfl) iSumCounted_ok
theorem l21Entry_vc (nodes links words past rows kept prs kn:List Dat) (node born num lost all rall:Int) (hp:NetPast nodes past) :
 WFl TNode nodes->WFl Ty.bool links->WFl TWord words->WFl (Ty.int i64).sl.sl past->I64 node->I64 born->I64 num->WFl (Ty.int i64).sl rows->WFl (Ty.int i64) kept->WFl TPr prs->I64 lost->I64 all->WFl TPr kn->I64 rall->(I64 node->I64 (nodes.length:Int)->True/\((!(decide (0<=node)&&decide (node<=i64.wrap ((nodes.length:Int)-1))))=false->I64 born->I64 node->(0<=node/\node<(nodes.length:Int))/\(I64
 ((nodes.getD node.toNat default).f 0).toInt->True/\((!(decide (1<=born)&&decide (born<=((nodes.getD node.toNat default).f 0).toInt)))=false->I64 num->I64 node->(0<=node/\node<(past.length:Int))/\(I64 born->(0<=born/\born<(↑(past.getD node.toNat default).kids.length:Int))/\(I64 (↑((past.getD node.toNat default).kids.getD born.toNat default).kids.length:Int)->True)))/\True))/\True)/\((!(decide
 (0<=node)&&decide (node<=i64.wrap ((nodes.length:Int)-1)))||(!(decide (1<=born)&&decide (born<=((nodes.getD node.toNat default).f 0).toInt))||!(decide (0<=num)&&decide (num<=(↑((past.getD node.toNat default).kids.getD born.toNat default).kids.length:Int)))))=true->dec (EntIn nodes past node born num (SumD.mk rows kept prs lost all kn rall))=false)/\((!(decide (0<=node)&&decide (node<=i64.wrap
 ((nodes.length:Int)-1)))||(!(decide (1<=born)&&decide (born<=((nodes.getD node.toNat default).f 0).toInt))||!(decide (0<=num)&&decide (num<=(↑((past.getD node.toNat default).kids.getD born.toNat default).kids.length:Int)))))=false->(0<=node/\node<(past.length:Int))/\(0<=born/\born<(↑(past.getD node.toNat default).kids.length:Int))/\(0<=(0:Int)/\0<=num/\num<=(↑((past.getD node.toNat
 default).kids.getD born.toNat default).kids.length:Int))/\((∀(t:Int),t∈ints (List.drop 0 (List.take num.toNat ((past.getD node.toNat default).kids.getD born.toNat default).kids))->0<=t/\t<64)/\(List.drop 0 (List.take num.toNat ((past.getD node.toNat default).kids.getD born.toNat default).kids)).length<=2000)/\((∀(t:Int),t∈ints (List.drop 0 (List.take num.toNat ((past.getD node.toNat
 default).kids.getD born.toNat default).kids))->0<=t/\t<64)/\(List.drop 0 (List.take num.toNat ((past.getD node.toNat default).kids.getD born.toNat default).kids)).length<=2000)/\((sumOf (ints (List.drop 0 (List.take num.toNat ((past.getD node.toNat default).kids.getD born.toNat default).kids)))).rows=(sumOf (ints (List.drop 0 (List.take num.toNat ((past.getD node.toNat default).kids.getD
 born.toNat default).kids)))).rows/\(sumOf (ints (List.drop 0 (List.take num.toNat ((past.getD node.toNat default).kids.getD born.toNat default).kids)))).kept=(sumOf (ints (List.drop 0 (List.take num.toNat ((past.getD node.toNat default).kids.getD born.toNat default).kids)))).kept/\(sumOf (ints (List.drop 0 (List.take num.toNat ((past.getD node.toNat default).kids.getD born.toNat
 default).kids)))).prs=(sumOf (ints (List.drop 0 (List.take num.toNat ((past.getD node.toNat default).kids.getD born.toNat default).kids)))).prs/\(sumOf (ints (List.drop 0 (List.take num.toNat ((past.getD node.toNat default).kids.getD born.toNat default).kids)))).lost=(sumOf (ints (List.drop 0 (List.take num.toNat ((past.getD node.toNat default).kids.getD born.toNat default).kids)))).lost/\(sumOf
 (ints (List.drop 0 (List.take num.toNat ((past.getD node.toNat default).kids.getD born.toNat default).kids)))).all=(sumOf (ints (List.drop 0 (List.take num.toNat ((past.getD node.toNat default).kids.getD born.toNat default).kids)))).all/\(sumOf (ints (List.drop 0 (List.take num.toNat ((past.getD node.toNat default).kids.getD born.toNat default).kids)))).kn=(sumOf (ints (List.drop 0 (List.take
 num.toNat ((past.getD node.toNat default).kids.getD born.toNat default).kids)))).kn/\(sumOf (ints (List.drop 0 (List.take num.toNat ((past.getD node.toNat default).kids.getD born.toNat default).kids)))).rall=(sumOf (ints (List.drop 0 (List.take num.toNat ((past.getD node.toNat default).kids.getD born.toNat default).kids)))).rall)/\num=num/\born=born/\node=node/\past=past/\True/\dec (SameS (sumOf
 (ints (List.drop 0 (List.take num.toNat ((past.getD node.toNat default).kids.getD born.toNat default).kids)))) (SumD.mk rows kept prs lost all kn rall))=dec (EntIn nodes past node born num (SumD.mk rows kept prs lost all kn rall))):=by
 intro hw1 hw2 hw3 hw4 _ _ _ _ _ _ _ _ _ _;simp only[iv,kv,fv,nm];have hn:=hp.1;have hpl:=hp.2.1;have e5:IntKind.i64.wrap ((nodes.length:Int)-1)=4:=by rw[hn];rfl
 rw[e5,hn,hpl];have hth:0<=node->node<=4->1<=born->born<=((nodes.getD node.toNat default).f 0).toInt->born.toNat<(past.getD node.toNat default).kids.length/\ThingsIn ((past.getD node.toNat default).kids.getD born.toNat default).kids:=fun h1 h2 h3 h4=>hp.things (a:=node.toNat) (b:=born.toNat) (by omega) (by simp only[bornOf,fv];omega)
 refine⟨fun _ _ h1 _ _=>⟨by omega,fun _ h2 _ _=>⟨by omega,fun _=>?_⟩⟩,fun h h2=>?_,fun h=>?_⟩
 · have:=hth h1.1 h1.2 h2.1 h2.2;omega
 · obtain⟨a1,a2,a3,a4,a5,a6,_⟩:=h2;rcases h with (h | h) | (h | h) | h | h
   · exact h a1
   · exact h a2
   · exact h a3
   · exact h a4
   · exact h a5
   · exact h a6
 · have ht:=hth h.1.1 h.1.2 h.2.1.1 h.2.1.2;have hl:(List.drop 0 (List.take num.toNat ((past.getD node.toNat default).kids.getD born.toNat default).kids))=List.take num.toNat ((past.getD node.toNat default).kids.getD born.toNat default).kids:=List.drop_zero;rw[hl];have hc:(∀t∈ints (List.take num.toNat ((past.getD node.toNat default).kids.getD born.toNat default).kids),0<=t/\t<64)/\(List.take num.toNat ((past.getD node.toNat default).kids.getD born.toNat default).kids).length<=2000:=by
     refine⟨fun t hm=>?_,?_⟩
     · rw[ints_take] at hm;exact ht.2.ints t (List.mem_of_mem_take hm)
     · rw[List.length_take];have:=ht.2.2;omega
   refine⟨by omega,by omega,by omega,hc,hc,dec_iff ⟨fun hs=>⟨h.1.1,h.1.2,h.2.1.1,h.2.1.2,h.2.2.1,h.2.2.2,hs⟩,fun he=>he.2.2.2.2.2.2⟩⟩
def l21Entry_get:List SV->St->Option Got
 | [.agg [.sl ty0 nodes,.sl .bool _,.sl ty1 _,.sl (.sl (.sl (.int .i64))) past],.agg [.int .i64 node,.int .i64 born,.int .i64 num,.sl (.sl (.int .i64)) rows,.sl (.int .i64) kept,.sl ty2 prs,.int .i64 lost,.int .i64 all,.sl ty3 kn,.int .i64 rall]],⟨[],[],[]⟩=>guardTy ty0 TNode (guardTy ty1 TWord (guardTy ty2 TPr (guardTy ty3 TPr (some (NetPast nodes past,.bool (dec (EntIn nodes past node born num ⟨rows,kept,prs,lost,all,kn,rall⟩)),St.mk [] [] [])))))
 | _,_=>none
theorem l21Entry_ok:Ok0 prog 180 l21Entry_get:=by
 intro _ _ _ _ _ h hp;unfold l21Entry_get at h;split at h
 · rename_i nodes links _ words past node born num rows kept _ prs lost all _ kn rall;replace h:=gT4 h;obtain⟨rfl,rfl,rfl,rfl,h⟩:=h;cases h;refine fz [l6In_con,sumOf_con,l21Sums_con] func180 ?_;apply VC.thru (l21Entry_vc nodes links words past rows kept prs kn node born num lost all rall hp);kernel_rfl
 · cases h
def l21Entry_con:Con prog:=.f0 180 [] true l21Entry_get (en func180 rfl) l21Entry_ok
def zeroEnt:Dat:=.node [.int 0,.int 0,.int 0,.node [.node [.node []],.node [.node []],.node [.node [],.int 0,.int 0],.node [.node [],.int 0]]]
def ownAt:List Dat->Int->Option Dat
 | [],_=>none
 | d::l,i=>if (d.f 0).toInt=i then some d else ownAt l i
theorem ownAt_next (l:List Dat) (d:Dat) (i:Int):ownAt (l++[d]) i=match ownAt l i with | some e=>some e | none=>if (d.f 0).toInt=i then some d else none:=by
 induction l with
 | nil=>simp only[List.nil_append,ownAt]
 | cons x l ih=>
   simp only[List.cons_append,ownAt];split
   · rfl
   · exact ih
theorem ownAt_some {l:List Dat} {i:Int} {n:Nat} (hn:n<l.length) (h0:ownAt (l.take n) i=none) (h:fv l n 0=i):ownAt l i=some (l.getD n default):=by
 have h1:ownAt (l.take (n+1)) i=some (l.getD n default):=by
   rw[take_getD hn,ownAt_next,h0];simp only[fv] at h;simp only[if_pos h]
 have:∀(a b:List Dat) (d:Dat),ownAt a i=some d->ownAt (a++b) i=some d:=by
   intro a
   induction a with
   | nil=>intro b d h;cases h
   | cons x a ih=>
     intro b d h;simp only[List.cons_append,ownAt] at h ⊢;by_cases hx:(x.f 0).toInt=i
     · rw[if_pos hx] at h ⊢;exact h
     · rw[if_neg hx] at h ⊢;exact ih b d h
 have h2:=this _ (l.drop (n+1)) _ h1;rw[List.take_append_drop] at h2;exact h2
theorem l21Known_vc (nodes links words past l:List Dat) (hp:NetPast nodes past) :
 WFl TNode nodes->WFl Ty.bool links->WFl TWord words->WFl (Ty.int i64).sl.sl past->WFl TEnt l->(∃x:Nat,(x<=l.length/\KnownTo nodes past l x)/\l=l/\0=(x:Int)/\nodes=nodes/\links=links/\words=words/\past=past)/\∀x:Nat,x<=l.length/\KnownTo nodes past l x->I64 (l.length:Int)->(decide ((x:Int)<(l.length:Int))->((0<=(x:Int)/\(x:Int)<(l.length:Int))/\NetPast nodes past/\((!dec (EntIn nodes past ((l.getD x
 default).f 0).toInt ((l.getD x default).f 1).toInt ((l.getD x default).f 2).toInt (SumD.mk ((((l.getD x default).f 3).f 0).f 0).kids ((((l.getD x default).f 3).f 1).f 0).kids ((((l.getD x default).f 3).f 2).f 0).kids ((((l.getD x default).f 3).f 2).f 1).toInt ((((l.getD x default).f 3).f 2).f 2).toInt ((((l.getD x default).f 3).f 3).f 0).kids ((((l.getD x default).f 3).f 3).f
 1).toInt)))=false->(decide ((x:Int) > (0:Int))->(0<=i64.wrap ((x:Int)-1)/\i64.wrap ((x:Int)-1)<(l.length:Int))/\(I64 ((l.getD (i64.wrap ((x:Int)-1)).toNat default).f 0).toInt->0<=(x:Int)/\(x:Int)<(l.length:Int)))/\True)/\True)/\((!dec (EntIn nodes past ((l.getD x default).f 0).toInt ((l.getD x default).f 1).toInt ((l.getD x default).f 2).toInt (SumD.mk ((((l.getD x default).f 3).f 0).f 0).kids
 ((((l.getD x default).f 3).f 1).f 0).kids ((((l.getD x default).f 3).f 2).f 0).kids ((((l.getD x default).f 3).f 2).f 1).toInt ((((l.getD x default).f 3).f 2).f 2).toInt ((((l.getD x default).f 3).f 3).f 0).kids ((((l.getD x default).f 3).f 3).f 1).toInt))||decide ((x:Int) > (0:Int))&&decide (((l.getD (i64.wrap ((x:Int)-1)).toNat default).f 0).toInt>=((l.getD x default).f 0).toInt))=true->dec
 (KnownTo nodes past l l.length)=false)/\((!dec (EntIn nodes past ((l.getD x default).f 0).toInt ((l.getD x default).f 1).toInt ((l.getD x default).f 2).toInt (SumD.mk ((((l.getD x default).f 3).f 0).f 0).kids ((((l.getD x default).f 3).f 1).f 0).kids ((((l.getD x default).f 3).f 2).f 0).kids ((((l.getD x default).f 3).f 2).f 1).toInt ((((l.getD x default).f 3).f 2).f 2).toInt ((((l.getD x
 default).f 3).f 3).f 0).kids ((((l.getD x default).f 3).f 3).f 1).toInt))||decide ((x:Int) > (0:Int))&&decide (((l.getD (i64.wrap ((x:Int)-1)).toNat default).f 0).toInt>=((l.getD x default).f 0).toInt))=false->∃x_1:Nat,((x_1<=l.length/\KnownTo nodes past l x_1)/\l.length-x_1<l.length-x)/\l=l/\i64.wrap ((x:Int)+1)=(x_1:Int)/\nodes=nodes/\links=links/\words=words/\past=past))/\(decide
 ((x:Int)<(l.length:Int))=false->dec (KnownTo nodes past l l.length)=true):=by
 intro hw1 hw2 hw3 hw4 hw5;simp only[iv,kv,fv,nm];have hl:=hw5.1;have hE:∀k,EntIn nodes past ((l.getD k default).f 0).toInt ((l.getD k default).f 1).toInt ((l.getD k default).f 2).toInt ⟨((((l.getD k default).f 3).f 0).f 0).kids,((((l.getD k default).f 3).f 1).f 0).kids,((((l.getD k default).f 3).f 2).f 0).kids,((((l.getD k default).f 3).f 2).f 1).toInt,((((l.getD k default).f 3).f 2).f 2).toInt,((((l.getD k default).f 3).f 3).f 0).kids,((((l.getD k default).f 3).f 3).f 1).toInt⟩ ↔ EntInD nodes past (l.getD k default):=fun _=>Iff.rfl
 simp only[hE];refine⟨⟨0,⟨by omega,fun i hi=>by omega⟩,rfl⟩,fun x hx _=>⟨fun hlt=>?_,fun hlt=>?_⟩⟩
 · have hx1:x<l.length:=by omega
   have hdn:∀h:(x:Int) > 0,(IntKind.i64.wrap ((x:Int)-1))=((x-1:Nat):Int):=fun h=>down_ok (by omega) (by omega)
   refine⟨⟨by omega,hp,fun _ h=>⟨by rw[hdn h];omega,fun _=>by omega⟩⟩,fun h hk=>?_,fun h=>⟨x+1,⟨⟨by omega,fun i hi=>?_⟩,by omega⟩,up_ok hx1 (by omega)⟩⟩
   · have h1:=hk x hx1;rcases h with h | ⟨h,h2⟩
     · exact h h1.1
     · have:=h1.2 (by omega)
       simp only[fv] at this;rw[hdn h,Int.toNat_natCast] at h2;omega
   · rcases Nat.lt_or_ge i x with h1 | h1
     · exact hx.2 i h1
     · rw[show i=x from by omega];refine⟨h.1,fun h0=>?_⟩;have h2:(x:Int) > 0:=by omega
       rcases h.2 with h3 | h3
       · exact absurd h2 h3
       · rw[hdn h2,Int.toNat_natCast] at h3;simp only[fv];omega
 · rw[show l.length=x from by omega];exact hx.2
def l21Known_get:List SV->St->Option Got
 | [.agg [.sl ty0 nodes,.sl .bool _,.sl ty1 _,.sl (.sl (.sl (.int .i64))) past],.sl ty2 l],⟨[],[],[]⟩=>guardTy ty0 TNode (guardTy ty1 TWord (guardTy ty2 TEnt (some (NetPast nodes past,.bool (dec (KnownTo nodes past l l.length)),St.mk [] [] []))))
 | _,_=>none
theorem l21Known_ok:Ok0 prog 143 l21Known_get:=by
 intro _ _ _ _ _ h hp;unfold l21Known_get at h;split at h
 · rename_i nodes links _ words past _ l;replace h:=gT3 h;obtain⟨rfl,rfl,rfl,h⟩:=h;cases h;refine fl [l21Entry_con] (fun k=>bif Nat.beq k 2 then some (.g (⟨Nat,fun s g=>hdb s [1,2,4] [(5,.int .i64 g)] s.bx s.rw,fun _ g=>g<=l.length/\KnownTo nodes past l g,fun g=>l.length-g⟩)) else none) func143 ?_;apply VC.thru (l21Known_vc nodes links words past l hp);kernel_rfl
 · cases h
def l21Known_con:Con prog:=.f0 143 [] true l21Known_get (en func143 rfl) l21Known_ok
theorem l21Own_vc (known:List Dat) (born beacon level up i:Int) :
 I64 born->WFl TEnt known->I64 beacon->I64 level->I64 up->I64 i->(∃x:Nat,(x<=known.length/\ownAt (List.take x known) i=none)/\i=i/\0=(x:Int)/\born=born/\known=known/\beacon=beacon/\level=level/\up=up/\(0:Int)=0/\(0:Int)=0/\(0:Int)=0/\(0:Int)=0/\(0:Int)=0/\(0:Int)=0)/\∀x:Nat,x<=known.length/\ownAt (List.take x known) i=none->I64 (known.length:Int)->(decide
 ((x:Int)<(known.length:Int))->(0<=(x:Int)/\(x:Int)<(known.length:Int))/\(I64 ((known.getD x default).f 0).toInt->(decide (((known.getD x default).f 0).toInt=i)->(0<=(x:Int)/\(x:Int)<(known.length:Int))/\((known.getD x default).f 0).toInt=(((ownAt known i).getD zeroEnt).f 0).toInt/\((known.getD x default).f 1).toInt=(((ownAt known i).getD zeroEnt).f 1).toInt/\((known.getD x default).f
 2).toInt=(((ownAt known i).getD zeroEnt).f 2).toInt/\((((known.getD x default).f 3).f 0).f 0).kids=(sumD (((ownAt known i).getD zeroEnt).f 3)).rows/\((((known.getD x default).f 3).f 1).f 0).kids=(sumD (((ownAt known i).getD zeroEnt).f 3)).kept/\((((known.getD x default).f 3).f 2).f 0).kids=(sumD (((ownAt known i).getD zeroEnt).f 3)).prs/\((((known.getD x default).f 3).f 2).f 1).toInt=(sumD
 (((ownAt known i).getD zeroEnt).f 3)).lost/\((((known.getD x default).f 3).f 2).f 2).toInt=(sumD (((ownAt known i).getD zeroEnt).f 3)).all/\((((known.getD x default).f 3).f 3).f 0).kids=(sumD (((ownAt known i).getD zeroEnt).f 3)).kn/\((((known.getD x default).f 3).f 3).f 1).toInt=(sumD (((ownAt known i).getD zeroEnt).f 3)).rall/\(ownAt known i).isSome=true)/\(decide (((known.getD x default).f
 0).toInt=i)=false->∃x_1:Nat,((x_1<=known.length/\ownAt (List.take x_1 known) i=none)/\known.length-x_1<known.length-x)/\i=i/\i64.wrap ((x:Int)+1)=(x_1:Int)/\born=born/\known=known/\beacon=beacon/\level=level/\up=up/\(0:Int)=0/\(0:Int)=0/\(0:Int)=0/\(0:Int)=0/\(0:Int)=0/\(0:Int)=0)))/\(decide ((x:Int)<(known.length:Int))=false->0=(((ownAt known i).getD zeroEnt).f 0).toInt/\0=(((ownAt known i).getD
 zeroEnt).f 1).toInt/\0=(((ownAt known i).getD zeroEnt).f 2).toInt/\(sumD (((ownAt known i).getD zeroEnt).f 3)).rows=[]/\(sumD (((ownAt known i).getD zeroEnt).f 3)).kept=[]/\(sumD (((ownAt known i).getD zeroEnt).f 3)).prs=[]/\0=(sumD (((ownAt known i).getD zeroEnt).f 3)).lost/\0=(sumD (((ownAt known i).getD zeroEnt).f 3)).all/\(sumD (((ownAt known i).getD zeroEnt).f 3)).kn=[]/\0=(sumD (((ownAt
 known i).getD zeroEnt).f 3)).rall/\(ownAt known i).isSome=false):=by
 intro _ hw _ _ _ _;simp only[iv,kv,fv,nm];have hl:=hw.1;refine⟨⟨0,⟨by omega,rfl⟩,rfl⟩,fun x hx _=>⟨fun hlt=>⟨by omega,fun _=>⟨fun h=>?_,fun h=>⟨x+1,⟨⟨by omega,?_⟩,by omega⟩,up_ok (n:=known.length) (by omega) (by omega)⟩⟩⟩,fun hlt=>?_⟩⟩
 · rw[ownAt_some (by omega:x<known.length) hx.2 h];exact⟨by omega,rfl,rfl,rfl,rfl,rfl,rfl,rfl,rfl,rfl,rfl,rfl⟩
 · rw[take_getD (by omega),ownAt_next,hx.2];simp only[if_neg h]
 · have h2:ownAt known i=none:=by
     have:=hx.2
     rw[List.take_of_length_le (by omega)] at this;exact this
   rw[h2];exact⟨rfl,rfl,rfl,rfl,rfl,rfl,rfl,rfl,rfl,rfl,rfl⟩
def l21Own_get:List SV->St->Option Got
 | [.agg [.int .i64 _,.sl ty0 known,.int .i64 _,.int .i64 _,.int .i64 _],.int .i64 i],⟨[],[],[]⟩=>guardTy ty0 TEnt (some (True,.tup [.agg [.int .i64 (Dat.f ((ownAt known i).getD zeroEnt) 0).toInt,.int .i64 (Dat.f ((ownAt known i).getD zeroEnt) 1).toInt,.int .i64 (Dat.f ((ownAt known i).getD zeroEnt) 2).toInt,.sl (.sl (.int .i64)) (sumD (Dat.f ((ownAt known i).getD zeroEnt) 3)).rows,.sl (.int .i64) (sumD (Dat.f ((ownAt known i).getD zeroEnt) 3)).kept,.sl TPr (sumD (Dat.f ((ownAt known i).getD zeroEnt) 3)).prs,.int .i64 (sumD (Dat.f ((ownAt known i).getD zeroEnt) 3)).lost,.int .i64 (sumD (Dat.f ((ownAt known i).getD zeroEnt) 3)).all,.sl TPr (sumD (Dat.f ((ownAt known i).getD zeroEnt) 3)).kn,.int .i64 (sumD (Dat.f ((ownAt known i).getD zeroEnt) 3)).rall],.bool (ownAt known i).isSome],St.mk [] [] []))
 | _,_=>none
theorem l21Own_ok:Ok0 prog 142 l21Own_get:=by
 intro _ _ _ _ _ h hp;unfold l21Own_get at h;split at h
 · rename_i born _ known beacon level up i;replace h:=gT h;obtain⟨rfl,h⟩:=h;cases h;refine fl [] (fun k=>bif Nat.beq k 2 then some (.g (⟨Nat,fun s g=>hdb s [1,2,4,5] [(6,.int .i64 g)] s.bx s.rw,fun _ g=>g<=known.length/\ownAt (known.take g) i=none,fun g=>known.length-g⟩)) else none) func142 ?_;apply VC.thru (l21Own_vc known born beacon level up i);kernel_rfl
 · cases h
def l21Own_con:Con prog:=.f0 142 [] false l21Own_get (en func142 rfl) l21Own_ok
abbrev knownOf (nodes:List Dat) (a:Nat):List Dat:=((nodes.getD a default).f 1).kids
abbrev ownOf (nodes:List Dat) (a:Nat):Dat:=(ownAt (knownOf nodes a) a).getD zeroEnt
def NodeIn (nodes past:List Dat) (a:Nat):Prop:=(ownAt (knownOf nodes a) a).isSome=true/\KnownTo nodes past (knownOf nodes a) (knownOf nodes a).length/\((ownOf nodes a).f 1).toInt=bornOf nodes a/\((ownOf nodes a).f 2).toInt=((pastOf past a (bornOf nodes a).toNat).length:Int)/\
 (if a=0 then fv nodes a 3=0/\fv nodes a 4=-1/\0<=fv nodes a 2 else 0<=fv nodes a 2/\fv nodes a 2<=fv nodes 0 2/\1<=fv nodes a 3/\fv nodes a 3<=5/\(fv nodes a 4=-1 ↔ fv nodes a 3=5)/\-1<=fv nodes a 4/\fv nodes a 4<=4/\fv nodes a 4≠a)
def WordIn (nodes past:List Dat) (kind from_ to beacon level:Int) (known:List Dat):Prop:=0<=from_/\from_<=4/\0<=to/\to<=4/\from_≠to/\((kind=1/\0<=beacon/\beacon<=fv nodes 0 2/\0<=level/\level<=4/\known.length=0)\/(kind=2/\beacon=0/\level=0/\KnownTo nodes past known known.length))
def WordInD (nodes past:List Dat) (d:Dat):Prop:=WordIn nodes past (d.f 0).toInt (d.f 1).toInt (d.f 2).toInt (d.f 3).toInt (d.f 4).toInt (d.f 5).kids
theorem l21NodeOk_vc (nodes links words past:List Dat) (i:Int) (hp:NetPast nodes past/\0<=i/\i<5) :
 WFl TNode nodes->WFl Ty.bool links->WFl TWord words->WFl (Ty.int i64).sl.sl past->I64 i->(0<=i/\i<(nodes.length:Int))/\True/\(((!(ownAt ((nodes.getD i.toNat default).f 1).kids i).isSome)=false->NetPast nodes past/\((!dec (KnownTo nodes past ((nodes.getD i.toNat default).f 1).kids ((nodes.getD i.toNat default).f 1).kids.length))=false->I64 (((ownAt ((nodes.getD i.toNat default).f 1).kids i).getD
 zeroEnt).f 1).toInt->I64 ((nodes.getD i.toNat default).f 0).toInt->(decide ((((ownAt ((nodes.getD i.toNat default).f 1).kids i).getD zeroEnt).f 1).toInt≠((nodes.getD i.toNat default).f 0).toInt)=false->I64 (((ownAt ((nodes.getD i.toNat default).f 1).kids i).getD zeroEnt).f 2).toInt->(0<=i/\i<(past.length:Int))/\(I64 ((nodes.getD i.toNat default).f 0).toInt->0<=((nodes.getD i.toNat default).f
 0).toInt/\((nodes.getD i.toNat default).f 0).toInt<(↑(past.getD i.toNat default).kids.length:Int)))/\True)/\True)/\True)/\((!(ownAt ((nodes.getD i.toNat default).f 1).kids i).isSome||(!dec (KnownTo nodes past ((nodes.getD i.toNat default).f 1).kids ((nodes.getD i.toNat default).f 1).kids.length)||(decide ((((ownAt ((nodes.getD i.toNat default).f 1).kids i).getD zeroEnt).f 1).toInt≠((nodes.getD
 i.toNat default).f 0).toInt)||decide ((((ownAt ((nodes.getD i.toNat default).f 1).kids i).getD zeroEnt).f 2).toInt≠(↑((past.getD i.toNat default).kids.getD ((nodes.getD i.toNat default).f 0).toInt.toNat default).kids.length:Int)))))=true->dec (NodeIn nodes past i.toNat)=false)/\((!(ownAt ((nodes.getD i.toNat default).f 1).kids i).isSome||(!dec (KnownTo nodes past ((nodes.getD i.toNat default).f
 1).kids ((nodes.getD i.toNat default).f 1).kids.length)||(decide ((((ownAt ((nodes.getD i.toNat default).f 1).kids i).getD zeroEnt).f 1).toInt≠((nodes.getD i.toNat default).f 0).toInt)||decide ((((ownAt ((nodes.getD i.toNat default).f 1).kids i).getD zeroEnt).f 2).toInt≠(↑((past.getD i.toNat default).kids.getD ((nodes.getD i.toNat default).f 0).toInt.toNat
 default).kids.length:Int)))))=false->(decide (i=0)->(decide (((nodes.getD i.toNat default).f 3).toInt=(0:Int))&&(decide (((nodes.getD i.toNat default).f 4).toInt=(-1:Int))&&decide (((nodes.getD i.toNat default).f 2).toInt>=(0:Int))))=dec (NodeIn nodes past i.toNat))/\(decide (i=0)=false->(I64 ((nodes.getD i.toNat default).f 2).toInt->(0<=(0:Int)/\0<(nodes.length:Int))/\(I64 ((nodes.getD 0
 default).f 2).toInt->True/\((decide (0<=((nodes.getD i.toNat default).f 2).toInt)&&decide (((nodes.getD i.toNat default).f 2).toInt<=((nodes.getD 0 default).f 2).toInt))=true->I64 ((nodes.getD i.toNat default).f 3).toInt->True/\((decide (1<=((nodes.getD i.toNat default).f 3).toInt)&&decide (((nodes.getD i.toNat default).f 3).toInt<=(5:Int)))=true->I64 ((nodes.getD i.toNat default).f 4).toInt->I64
 ((nodes.getD i.toNat default).f 3).toInt->(decide (decide (((nodes.getD i.toNat default).f 4).toInt=(-1:Int))=decide (((nodes.getD i.toNat default).f 3).toInt=(5:Int)))->I64 ((nodes.getD i.toNat default).f 4).toInt->I64 (nodes.length:Int)->True)/\True)/\True)/\True))/\(decide (0<=((nodes.getD i.toNat default).f 2).toInt)&&decide (((nodes.getD i.toNat default).f 2).toInt<=((nodes.getD 0 default).f
 2).toInt)&&(decide (1<=((nodes.getD i.toNat default).f 3).toInt)&&decide (((nodes.getD i.toNat default).f 3).toInt<=(5:Int))&&(decide (decide (((nodes.getD i.toNat default).f 4).toInt=(-1:Int))=decide (((nodes.getD i.toNat default).f 3).toInt=(5:Int)))&&(decide ((-1:Int)<=((nodes.getD i.toNat default).f 4).toInt)&&decide (((nodes.getD i.toNat default).f 4).toInt<=i64.wrap
 ((nodes.length:Int)-1))&&decide (((nodes.getD i.toNat default).f 4).toInt≠i)))))=dec (NodeIn nodes past i.toNat))):=by
 intro hw1 hw2 hw3 hw4 _;simp only[iv,kv,fv,nm];obtain⟨hnp,h0,h5⟩:=hp;obtain⟨n,rfl⟩:=Int.eq_ofNat_of_zero_le h0;have hb:=hnp.2.2 n (by omega);have hn:=hnp.1;have hpl:=hnp.2.1;have hpast:=hb.2.2.1;simp only[bornOf,fv,kv] at hb hpast;rw[hn,hpl];have e4:IntKind.i64.wrap (((5:Nat):Int)-1)=4:=rfl;rw[e4];simp only[Int.toNat_natCast,NodeIn,knownOf,ownOf,pastOf,bornOf,fv,kv];generalize hk:((nodes.getD n default).f 1).kids=known;generalize hkt:KnownTo nodes past known known.length=KT;have hbi:∀p q:Prop,∀_:Decidable p,∀_:Decidable q,(decide p=decide q) ↔ (p ↔ q):=fun p q _ _=>decide_eq_decide
 refine⟨by omega,fun _=>⟨hnp,fun _ _ _ _ _=>⟨by omega,fun _=>by omega⟩⟩,fun h h2=>?_,fun h=>⟨fun hz=>?_,fun hz=>⟨fun _=>by omega,?_⟩⟩⟩
 · obtain⟨a1,a2,a3,a4,_⟩:=h2;rcases h with h | h | h | h
   · rw[a1] at h;cases h
   · exact h a2
   · exact h a3
   · exact h a4
 · have hz:n=0:=by omega
   subst hz;refine dec_bool ?_;simp only[Bool.and_eq_true,decide_eq_true_eq,if_true];exact⟨fun h2=>⟨h.1,h.2.1,h.2.2.1,h.2.2.2,h2.1,h2.2.1,h2.2.2⟩,fun h2=>⟨h2.2.2.2.2.1,h2.2.2.2.2.2.1,h2.2.2.2.2.2.2⟩⟩
 · have hz:¬n=0:=by omega
   refine dec_bool ?_;simp only[Bool.and_eq_true,decide_eq_true_eq,if_neg hz,hbi];exact⟨fun h2=>⟨h.1,h.2.1,h.2.2.1,h.2.2.2,h2.1.1,h2.1.2,h2.2.1.1,h2.2.1.2,h2.2.2.1,h2.2.2.2.1.1,h2.2.2.2.1.2,h2.2.2.2.2⟩,fun h2=>by
     obtain⟨_,_,_,_,b1,b2,b3,b4,b5,b6,b7,b8⟩:=h2;exact⟨⟨b1,b2⟩,⟨b3,b4⟩,b5,⟨b6,b7⟩,b8⟩⟩
def l21NodeOk_get:List SV->St->Option Got
 | [.agg [.sl ty0 nodes,.sl .bool _,.sl ty1 _,.sl (.sl (.sl (.int .i64))) past],.int .i64 i],⟨[],[],[]⟩=>guardTy ty0 TNode (guardTy ty1 TWord (some (NetPast nodes past/\0<=i/\i<5,.bool (dec (NodeIn nodes past i.toNat)),St.mk [] [] [])))
 | _,_=>none
theorem l21NodeOk_ok:Ok0 prog 99 l21NodeOk_get:=by
 intro _ _ _ _ _ h hp;unfold l21NodeOk_get at h;split at h
 · rename_i nodes links _ words past i;replace h:=gT2 h;obtain⟨rfl,rfl,h⟩:=h;cases h;refine fz [l21Own_con,l21Known_con,l6In_con] func99 ?_;apply VC.thru (l21NodeOk_vc nodes links words past i hp);kernel_rfl
 · cases h
def l21NodeOk_con:Con prog:=.f0 99 [] true l21NodeOk_get (en func99 rfl) l21NodeOk_ok
theorem l21WordOk_vc (nodes links words past known:List Dat) (kind from_ to beacon level:Int) (hp:NetPast nodes past) :
 WFl TNode nodes->WFl Ty.bool links->WFl TWord words->WFl (Ty.int i64).sl.sl past->I64 kind->I64 from_->I64 to->I64 beacon->I64 level->WFl TEnt known->(I64 from_->I64 (nodes.length:Int)->True/\((decide (0<=from_)&&decide (from_<=i64.wrap ((nodes.length:Int)-1)))=true->I64 to->I64 (nodes.length:Int)->True)/\True)/\(I64 kind->(decide (kind=1)->(((decide (0<=from_)&&decide (from_<=i64.wrap
 ((nodes.length:Int)-1))&&(decide (0<=to)&&decide (to<=i64.wrap ((nodes.length:Int)-1))&&decide (from_≠to)))=true->I64 beacon->(0<=(0:Int)/\0<(nodes.length:Int))/\(I64 ((nodes.getD 0 default).f 2).toInt->True/\((decide (0<=beacon)&&decide (beacon<=((nodes.getD 0 default).f 2).toInt))=true->I64 level->True)/\True))/\True)/\(decide (0<=from_)&&decide (from_<=i64.wrap ((nodes.length:Int)-1))&&(decide
 (0<=to)&&decide (to<=i64.wrap ((nodes.length:Int)-1))&&decide (from_≠to))&&(decide (0<=beacon)&&decide (beacon<=((nodes.getD 0 default).f 2).toInt)&&(decide (0<=level)&&decide (level<=4)&&decide ((known.length:Int)=0))))=dec (WordIn nodes past kind from_ to beacon level known))/\(decide (kind=1)=false->(decide (kind=2)->(((decide (0<=from_)&&decide (from_<=i64.wrap ((nodes.length:Int)-1))&&(decide
 (0<=to)&&decide (to<=i64.wrap ((nodes.length:Int)-1))&&decide (from_≠to)))=true->I64 beacon->(decide (beacon=0)->I64 level->(decide (level=0)->NetPast nodes past)/\True)/\True)/\True)/\(decide (0<=from_)&&decide (from_<=i64.wrap ((nodes.length:Int)-1))&&(decide (0<=to)&&decide (to<=i64.wrap ((nodes.length:Int)-1))&&decide (from_≠to))&&(decide (beacon=0)&&(decide (level=0)&&dec (KnownTo nodes past
 known known.length))))=dec (WordIn nodes past kind from_ to beacon level known))/\(decide (kind=2)=false->dec (WordIn nodes past kind from_ to beacon level known)=false))):=by
 intro hw1 hw2 hw3 hw4 _ _ _ _ _ _;simp only[iv,kv,fv,nm];have hn:=hp.1;have e4:IntKind.i64.wrap ((nodes.length:Int)-1)=4:=by rw[hn];rfl
 rw[e4,hn];simp only[WordIn,fv];generalize hkt:KnownTo nodes past known known.length=KT;refine fun _=>⟨fun h1=>⟨fun _ _=>by omega,?_⟩,fun h1=>⟨fun h2=>⟨fun _ _ _ _ _=>hp,?_⟩,fun h2 h3=>?_⟩⟩
 · refine dec_bool ?_;simp only[Bool.and_eq_true,decide_eq_true_eq];constructor
   · rintro⟨⟨⟨a1,a2⟩,⟨a3,a4⟩,a5⟩,⟨a6,a7⟩,⟨a8,a9⟩,a10⟩;exact⟨a1,a2,a3,a4,a5,.inl ⟨h1,a6,a7,a8,a9,by omega⟩⟩
   · rintro⟨a1,a2,a3,a4,a5,h⟩;rcases h with ⟨_,a6,a7,a8,a9,a10⟩ | ⟨h,_⟩
     · exact⟨⟨⟨a1,a2⟩,⟨a3,a4⟩,a5⟩,⟨a6,a7⟩,⟨a8,a9⟩,by omega⟩
     · omega
 · refine dec_bool ?_;simp only[Bool.and_eq_true,decide_eq_true_eq,dec_eq_true];constructor
   · rintro⟨⟨⟨a1,a2⟩,⟨a3,a4⟩,a5⟩,a6,a7,a8⟩;exact⟨a1,a2,a3,a4,a5,.inr ⟨h2,a6,a7,a8⟩⟩
   · rintro⟨a1,a2,a3,a4,a5,h⟩;rcases h with ⟨h,_⟩ | ⟨_,a6,a7,a8⟩
     · omega
     · exact⟨⟨⟨a1,a2⟩,⟨a3,a4⟩,a5⟩,a6,a7,a8⟩
 · rcases h3.2.2.2.2.2 with ⟨h,_⟩ | ⟨h,_⟩
   · exact h1 h
   · exact h2 h
def l21WordOk_get:List SV->St->Option Got
 | [.agg [.sl ty0 nodes,.sl .bool _,.sl ty1 _,.sl (.sl (.sl (.int .i64))) past],.agg [.int .i64 kind,.int .i64 from_,.int .i64 to,.int .i64 beacon,.int .i64 level,.sl ty2 known]],⟨[],[],[]⟩=>guardTy ty0 TNode (guardTy ty1 TWord (guardTy ty2 TEnt (some (NetPast nodes past,.bool (dec (WordIn nodes past kind from_ to beacon level known)),St.mk [] [] []))))
 | _,_=>none
theorem l21WordOk_ok:Ok0 prog 100 l21WordOk_get:=by
 intro _ _ _ _ _ h hp;unfold l21WordOk_get at h;split at h
 · rename_i nodes links _ words past kind from_ to beacon level _ known;replace h:=gT3 h;obtain⟨rfl,rfl,rfl,h⟩:=h;cases h;refine fz [l21Known_con,l6In_con] func100 ?_;apply VC.thru (l21WordOk_vc nodes links words past known kind from_ to beacon level hp);kernel_rfl
 · cases h
def l21WordOk_con:Con prog:=.f0 100 [] true l21WordOk_get (en func100 rfl) l21WordOk_ok
abbrev lk (links:List Dat) (i:Nat):Bool:=(links.getD i default).toBool
def LinkTo (links:List Dat) (a n:Nat):Prop:=∀b,b<n->lk links (a*5+b)=lk links (b*5+a)
def LookTo (nodes links past:List Dat) (n:Nat):Prop:=∀a,a<n->1<=bornOf nodes a/\bornOf nodes a<=20/\PastIn nodes past a/\lk links (a*5+a)=false/\LinkTo links a a
def NetIn (nodes links words past:List Dat):Prop:=nodes.length=5/\past.length=5/\links.length=25/\words.length<=24/\LookTo nodes links past 5/\(∀i,i<5->NodeIn nodes past i)/\(∀i,i<words.length->WordInD nodes past (words.getD i default))/\0<=fv nodes 0 2/\fv nodes 0 2<=1000
theorem LookTo.past {nodes links past:List Dat} (h:LookTo nodes links past 5) (h1:nodes.length=5) (h2:past.length=5):NetPast nodes past:=⟨h1,h2,fun a ha=>⟨(h a ha).1,(h a ha).2.1,(h a ha).2.2.1⟩⟩
theorem netOk_vc (nodes links words past:List Dat) :
 WFl TNode nodes->WFl Ty.bool links->WFl TWord words->WFl (Ty.int i64).sl.sl past->((decide ((nodes.length:Int)≠5)||(decide ((past.length:Int)≠5)||(decide ((links.length:Int)≠25)||decide ((words.length:Int) > (24:Int)))))=true->dec (NetIn nodes links words past)=false)/\((decide ((nodes.length:Int)≠5)||(decide ((past.length:Int)≠5)||(decide ((links.length:Int)≠25)||decide ((words.length:Int) >
 (24:Int)))))=false->(∃x:Nat,(x<=5/\LookTo nodes links past x)/\0=(x:Int)/\nodes=nodes/\links=links/\words=words/\past=past)/\∀x:Nat,x<=5/\LookTo nodes links past x->(decide ((x:Int)<5)->((0<=(x:Int)/\(x:Int)<(nodes.length:Int))/\(I64 ((nodes.getD x default).f 0).toInt->True/\((!(decide (1<=((nodes.getD x default).f 0).toInt)&&decide (((nodes.getD x default).f
 0).toInt<=(20:Int))))=false->(nodes.length=5/\past.length=5/\0<=(x:Int)/\(x:Int)<5/\1<=bornOf nodes x/\bornOf nodes x<=20)/\((!dec (PastIn nodes past x))=false->(0<=(x:Int)/\(x:Int)<1000/\0<=(x:Int)/\(x:Int)<1000)/\(I64 ((x:Int)*5+(x:Int))->0<=(x:Int)*5+(x:Int)/\(x:Int)*5+(x:Int)<(links.length:Int)))/\True)/\True))/\((!(decide (1<=((nodes.getD x default).f 0).toInt)&&decide (((nodes.getD x
 default).f 0).toInt<=(20:Int)))||(!dec (PastIn nodes past x)||(links.getD ((x:Int)*5+(x:Int)).toNat default).toBool))=true->dec (NetIn nodes links words past)=false)/\((!(decide (1<=((nodes.getD x default).f 0).toInt)&&decide (((nodes.getD x default).f 0).toInt<=(20:Int)))||(!dec (PastIn nodes past x)||(links.getD ((x:Int)*5+(x:Int)).toNat default).toBool))=false->(∃x_1:Nat,(x_1<=x/\LinkTo links x
 x_1)/\(x:Int)=(x:Int)/\0=(x_1:Int)/\nodes=nodes/\links=links/\words=words/\past=past)/\∀x_1:Nat,x_1<=x/\LinkTo links x x_1->(decide ((x_1:Int)<(x:Int))->(0<=(x:Int)/\(x:Int)<1000/\0<=(x_1:Int)/\(x_1:Int)<1000)/\(I64 ((x:Int)*5+(x_1:Int))->(0<=(x:Int)*5+(x_1:Int)/\(x:Int)*5+(x_1:Int)<(links.length:Int))/\(0<=(x_1:Int)/\(x_1:Int)<1000/\0<=(x:Int)/\(x:Int)<1000)/\(I64
 ((x_1:Int)*5+(x:Int))->(0<=(x_1:Int)*5+(x:Int)/\(x_1:Int)*5+(x:Int)<(links.length:Int))/\(decide ((links.getD ((x:Int)*5+(x_1:Int)).toNat default).toBool≠(links.getD ((x_1:Int)*5+(x:Int)).toNat default).toBool)->dec (NetIn nodes links words past)=false)/\(decide ((links.getD ((x:Int)*5+(x_1:Int)).toNat default).toBool≠(links.getD ((x_1:Int)*5+(x:Int)).toNat
 default).toBool)=false->∃x_2:Nat,((x_2<=x/\LinkTo links x x_2)/\5-x_2<5-x_1)/\(x:Int)=(x:Int)/\i64.wrap ((x_1:Int)+1)=(x_2:Int)/\nodes=nodes/\links=links/\words=words/\past=past))))/\(decide ((x_1:Int)<(x:Int))=false->∃x_2:Nat,((x_2<=5/\LookTo nodes links past x_2)/\5-x_2<5-x)/\i64.wrap ((x:Int)+1)=(x_2:Int)/\nodes=nodes/\links=links/\words=words/\past=past)))/\(decide
 ((x:Int)<5)=false->(∃x:Nat,(x<=5/\∀i:Nat,i<x->NodeIn nodes past i)/\0=(x:Int)/\nodes=nodes/\links=links/\words=words/\past=past)/\∀x:Nat,(x<=5/\∀i:Nat,i<x->NodeIn nodes past i)->(decide ((x:Int)<5)->(NetPast nodes past/\0<=(x:Int)/\(x:Int)<5)/\((!dec (NodeIn nodes past x))=true->dec (NetIn nodes links words past)=false)/\((!dec (NodeIn nodes past x))=false->∃x_1:Nat,((x_1<=5/\∀i:Nat,i<x_1->NodeIn
 nodes past i)/\5-x_1<5-x)/\i64.wrap ((x:Int)+1)=(x_1:Int)/\nodes=nodes/\links=links/\words=words/\past=past))/\(decide ((x:Int)<5)=false->(∃x:Nat,(x<=words.length/\∀i:Nat,i<x->WordInD nodes past (words.getD i default))/\0=(x:Int)/\nodes=nodes/\links=links/\words=words/\past=past)/\∀x:Nat,(x<=words.length/\∀i:Nat,i<x->WordInD nodes past (words.getD i default))->I64 (words.length:Int)->(decide
 ((x:Int)<(words.length:Int))->(0<=(x:Int)/\(x:Int)<(words.length:Int))/\NetPast nodes past/\((!dec (WordIn nodes past ((words.getD x default).f 0).toInt ((words.getD x default).f 1).toInt ((words.getD x default).f 2).toInt ((words.getD x default).f 3).toInt ((words.getD x default).f 4).toInt ((words.getD x default).f 5).kids))=true->dec (NetIn nodes links words past)=false)/\((!dec (WordIn nodes
 past ((words.getD x default).f 0).toInt ((words.getD x default).f 1).toInt ((words.getD x default).f 2).toInt ((words.getD x default).f 3).toInt ((words.getD x default).f 4).toInt ((words.getD x default).f 5).kids))=false->∃x_1:Nat,((x_1<=words.length/\∀i:Nat,i<x_1->WordInD nodes past (words.getD i default))/\words.length-x_1<words.length-x)/\i64.wrap
 ((x:Int)+1)=(x_1:Int)/\nodes=nodes/\links=links/\words=words/\past=past))/\(decide ((x:Int)<(words.length:Int))=false->(0<=(0:Int)/\0<(nodes.length:Int))/\(I64 ((nodes.getD 0 default).f 2).toInt->True/\(decide (0<=((nodes.getD 0 default).f 2).toInt)&&decide (((nodes.getD 0 default).f 2).toInt<=(1000:Int)))=dec (NetIn nodes links words past)))))):=by
 intro hw1 hw2 hw3 hw4;simp only[iv,kv,fv,nm];refine⟨fun h h2=>?_,fun⟨hn,hpl,hl,hw⟩=>⟨⟨0,⟨by omega,fun a ha=>by omega⟩,rfl⟩,fun x hx=>⟨fun hlt=>⟨⟨by omega,fun _ hb=>⟨⟨by omega,by omega,by omega,by omega,hb.1,hb.2⟩,fun _=>⟨by omega,fun _=>by omega⟩⟩⟩,fun h h2=>?_,fun⟨hb,hp,hf⟩=>⟨⟨0,⟨by omega,fun b hb=>by omega⟩,rfl⟩,fun y hy=>⟨fun hlt2=>⟨by omega,fun _=>⟨by omega,by omega,fun _=>⟨by omega,fun h h2=>?_,fun h=>⟨y+1,⟨⟨by omega,fun b hb=>?_⟩,by omega⟩,up_ok (n:=5) (by omega) (by omega)⟩⟩⟩⟩,fun hlt2=>⟨x+1,⟨⟨by omega,fun a ha=>?_⟩,by omega⟩,up_ok (n:=5) (by omega) (by omega)⟩⟩⟩⟩,fun hlt=>?_⟩⟩⟩
 · obtain⟨a1,a2,a3,a4,_⟩:=h2;omega
 · have hh:=h2.2.2.2.2.1 x (by omega);rcases h with h | h | h
   · rcases h with h | h
     · exact h hh.1
     · exact h hh.2.1
   · exact h hh.2.2.1
   · rw[show ((x:Int)*5+x).toNat=x*5+x from by omega] at h;exact absurd (h.symm.trans hh.2.2.2.1) (by decide)
 · have hh:=(h2.2.2.2.2.1 x (by omega)).2.2.2.2 y (by omega);rw[show ((x:Int)*5+y).toNat=x*5+y from by omega,show ((y:Int)*5+x).toNat=y*5+x from by omega] at h;exact h hh
 · rcases Nat.lt_or_ge b y with h1 | h1
   · exact hy.2 b h1
   · rw[show b=y from by omega];rw[show ((x:Int)*5+y).toNat=x*5+y from by omega,show ((y:Int)*5+x).toNat=y*5+x from by omega] at h;exact h
 · rcases Nat.lt_or_ge a x with h1 | h1
   · exact hx.2 a h1
   · rw[show a=x from by omega];rw[show ((x:Int)*5+x).toNat=x*5+x from by omega] at hf;exact⟨hb.1,hb.2,hp,hf,fun b hb=>hy.2 b (by omega)⟩
 · have hL:LookTo nodes links past 5:=fun a ha=>hx.2 a (by omega)
   have hNP:=hL.past (by omega) (by omega);refine⟨⟨0,⟨by omega,fun a ha=>by omega⟩,rfl⟩,fun z hz=>⟨fun hlt=>⟨⟨hNP,by omega,by omega⟩,fun h h2=>h (h2.2.2.2.2.2.1 z (by omega)),fun h=>⟨z+1,⟨⟨by omega,fun b hb=>?_⟩,by omega⟩,up_ok (n:=5) (by omega) (by omega)⟩⟩,fun hlt=>⟨⟨0,⟨by omega,fun a ha=>by omega⟩,rfl⟩,fun u hu=>fun _=>⟨fun hlt=>⟨⟨by omega,by omega⟩,hNP,fun h h2=>h (h2.2.2.2.2.2.2.1 u (by omega)),fun h=>⟨u+1,⟨⟨by omega,fun b hb=>?_⟩,by omega⟩,up_ok (n:=24) (by omega) (by omega)⟩⟩,fun hlt=>⟨⟨by omega,by omega⟩,fun _=>?_⟩⟩⟩⟩⟩
   · rcases Nat.lt_or_ge b z with h1 | h1
     · exact hz.2 b h1
     · rw[show b=z from by omega];exact h
   · rcases Nat.lt_or_ge b u with h1 | h1
     · exact hu.2 b h1
     · rw[show b=u from by omega];exact h
   · refine dec_bool ?_;simp only[Bool.and_eq_true,decide_eq_true_eq];constructor
     · rintro⟨a1,a2⟩;exact⟨by omega,by omega,by omega,by omega,hL,fun i hi=>hz.2 i (by omega),fun i hi=>hu.2 i (by omega),a1,a2⟩
     · rintro⟨_,_,_,_,_,_,_,a1,a2⟩;exact⟨a1,a2⟩
def netOk_get:List SV->St->Option Got
 | [.agg [.sl ty0 nodes,.sl .bool links,.sl ty1 words,.sl (.sl (.sl (.int .i64))) past]],⟨[],[],[]⟩=>guardTy ty0 TNode (guardTy ty1 TWord (some (True,.bool (dec (NetIn nodes links words past)),St.mk [] [] [])))
 | _,_=>none
theorem netOk_ok:Ok0 prog 35 netOk_get:=by
 intro _ _ _ _ _ h hp;unfold netOk_get at h;split at h
 · rename_i nodes links _ words past;replace h:=gT2 h;obtain⟨rfl,rfl,h⟩:=h;cases h;refine fl [l6In_con,l21PastOk_con,l21Link_con,l21NodeOk_con,l21WordOk_con] (fun k=>bif Nat.beq k 4 then some (.g (⟨Nat,fun s g=>hdb s [1,2] [(3,.int .i64 g)] s.bx s.rw,fun _ g=>g<=5/\LookTo nodes links past g,fun g=>5-g⟩)) else bif Nat.beq k 9 then some (.g (⟨Nat,fun s g=>hdb s [1,2,3] [(4,.int .i64 g)] s.bx s.rw,fun s g=>g<=svN s 3/\LinkTo links (svN s 3) g,fun g=>5-g⟩)) else bif Nat.beq k 14 then some (.g (⟨Nat,fun s g=>hdb s [1,2] [(5,.int .i64 g)] s.bx s.rw,fun _ g=>g<=5/\∀i,i<g->NodeIn nodes past i,fun g=>5-g⟩)) else bif Nat.beq k 19 then some (.g (⟨Nat,fun s g=>hdb s [1,2] [(6,.int .i64 g)] s.bx s.rw,fun _ g=>g<=words.length/\∀i,i<g->WordInD nodes past (words.getD i default),fun g=>words.length-g⟩)) else none) func35 ?_;apply VC.thru (netOk_vc nodes links words past);kernel_rfl
 · cases h
def netOk_con:Con prog:=.f0 35 [] true netOk_get (en func35 rfl) netOk_ok
theorem iSameSum_vc (rows kept prs kn rows2 kept2 prs2 kn2:List Dat) (lost all rall lost2 all2 rall2:Int) :
 WFl (Ty.int i64).sl rows->WFl (Ty.int i64) kept->WFl TPr prs->I64 lost->I64 all->WFl TPr kn->I64 rall->WFl (Ty.int i64).sl rows2->WFl (Ty.int i64) kept2->WFl TPr prs2->I64 lost2->I64 all2->WFl TPr kn2->I64 rall2->(True/\(dec (rows=rows2)=true->True/\(dec (kept=kept2)=true->True/\(dec (prs=prs2)=true->I64 lost->I64 lost2->(decide (lost=lost2)->I64 all->I64 all2->(decide
 (all=all2)->True)/\True)/\True)/\True)/\True)/\True)/\(dec (rows=rows2)&&(dec (kept=kept2)&&(dec (prs=prs2)&&(decide (lost=lost2)&&(decide (all=all2)&&(dec (kn=kn2)&&decide (rall=rall2)))))))=dec (rows=rows2/\kept=kept2/\prs=prs2/\lost=lost2/\all=all2/\kn=kn2/\rall=rall2):=by
 intro _ _ _ _ _ _ _ _ _ _ _ _ _ _;simp only[iv,kv,fv,nm];exact dec_bool (by simp only[Bool.and_eq_true,dec_eq_true,decide_eq_true_eq])
def iSameSum_get:List SV->St->Option Got
 | [.agg [.sl (.sl (.int .i64)) rows,.sl (.int .i64) kept,.sl ty0 prs,.int .i64 lost,.int .i64 all,.sl ty1 kn,.int .i64 rall],.agg [.sl (.sl (.int .i64)) rows2,.sl (.int .i64) kept2,.sl ty2 prs2,.int .i64 lost2,.int .i64 all2,.sl ty3 kn2,.int .i64 rall2]],⟨[],[],[]⟩=>guardTy ty0 TPr (guardTy ty1 TPr (guardTy ty2 TPr (guardTy ty3 TPr (some (True,.bool (dec (rows=rows2/\kept=kept2/\prs=prs2/\lost=lost2/\all=all2/\kn=kn2/\rall=rall2)),St.mk [] [] [])))))
 | _,_=>none
theorem iSameSum_ok:Ok0 prog 184 iSameSum_get:=by
 intro _ _ _ _ _ h hp;unfold iSameSum_get at h;split at h
 · rename_i rows kept _ prs lost all _ kn rall rows2 kept2 _ prs2 lost2 all2 _ kn2 rall2;replace h:=gT4 h;obtain⟨rfl,rfl,rfl,rfl,h⟩:=h;cases h;refine fz [iEqRows_con,iEqInts_con,iEqPairs_con,iEqKnots_con] func184 ?_;apply VC.thru (iSameSum_vc rows kept prs kn rows2 kept2 prs2 kn2 lost all rall lost2 all2 rall2);kernel_rfl
 · cases h
def iSameSum_con:Con prog:=.f0 184 [] true iSameSum_get (en func184 rfl) iSameSum_ok
def LkOk (links:List Dat) (a b:Nat):Prop:=lk links (a*5+b)=lk links (b*5+a)/\¬(lk links (a*5+b)=true/\a=b)
def LinksIn (links:List Dat):Prop:=links.length=25/\∀a,a<5->∀b,b<5->LkOk links a b
theorem iLinksOk_vc (links:List Dat) :
 WFl Ty.bool links->I64 (links.length:Int)->(decide ((links.length:Int)≠25)->dec (LinksIn links)=false)/\(decide ((links.length:Int)≠25)=false->(∃x:Nat,(x<=5/\∀a:Nat,a<x->∀b:Nat,b<5->LkOk links a b)/\links=links/\0=(x:Int))/\∀x:Nat,(x<=5/\∀a:Nat,a<x->∀b:Nat,b<5->LkOk links a b)->(decide ((x:Int)<5)->(∃x_1:Nat,(x_1<=5/\∀b:Nat,b<x_1->LkOk links x
 b)/\links=links/\(x:Int)=(x:Int)/\(x:Int)=(x:Int)/\0=(x_1:Int))/\∀x_1:Nat,(x_1<=5/\∀b:Nat,b<x_1->LkOk links x b)->(decide ((x_1:Int)<5)->(0<=i64.wrap (i64.wrap ((x:Int)*5)+(x_1:Int))/\i64.wrap (i64.wrap ((x:Int)*5)+(x_1:Int))<(links.length:Int))/\(0<=i64.wrap (i64.wrap ((x_1:Int)*5)+(x:Int))/\i64.wrap (i64.wrap ((x_1:Int)*5)+(x:Int))<(links.length:Int))/\((decide ((links.getD (i64.wrap (i64.wrap
 ((x:Int)*5)+(x_1:Int))).toNat default).toBool≠(links.getD (i64.wrap (i64.wrap ((x_1:Int)*5)+(x:Int))).toNat default).toBool)||(links.getD (i64.wrap (i64.wrap ((x:Int)*5)+(x_1:Int))).toNat default).toBool&&decide ((x:Int)=(x_1:Int)))=true->dec (LinksIn links)=false)/\((decide ((links.getD (i64.wrap (i64.wrap ((x:Int)*5)+(x_1:Int))).toNat default).toBool≠(links.getD (i64.wrap (i64.wrap
 ((x_1:Int)*5)+(x:Int))).toNat default).toBool)||(links.getD (i64.wrap (i64.wrap ((x:Int)*5)+(x_1:Int))).toNat default).toBool&&decide ((x:Int)=(x_1:Int)))=false->∃x_2:Nat,((x_2<=5/\∀b:Nat,b<x_2->LkOk links x b)/\5-x_2<5-x_1)/\links=links/\(x:Int)=(x:Int)/\(x:Int)=(x:Int)/\i64.wrap ((x_1:Int)+1)=(x_2:Int)))/\(decide ((x_1:Int)<5)=false->∃x_2:Nat,((x_2<=5/\∀a:Nat,a<x_2->∀b:Nat,b<5->LkOk links a
 b)/\5-x_2<5-x)/\links=links/\i64.wrap ((x:Int)+1)=(x_2:Int)))/\(decide ((x:Int)<5)=false->dec (LinksIn links)=true)):=by
 intro hw;simp only[iv,kv,fv,nm];refine fun _=>⟨fun h h2=>h (by have:=h2.1;omega),fun h25=>⟨⟨0,⟨by omega,fun a ha=>by omega⟩,rfl⟩,fun x hx=>⟨fun hlt=>⟨⟨0,⟨by omega,fun b hb=>by omega⟩,rfl⟩,fun y hy=>⟨fun hlt2=>?_,fun hlt2=>⟨x+1,⟨⟨by omega,fun a ha=>?_⟩,by omega⟩,up_ok (n:=5) (by omega) (by omega)⟩⟩⟩,fun hlt=>⟨by omega,fun a ha=>hx.2 a (by omega)⟩⟩⟩⟩
 · have e:∀a b:Nat,a<5->b<5->IntKind.i64.wrap (IntKind.i64.wrap ((a:Int)*5)+b)=((a*5+b:Nat):Int):=fun a b h1 h2=>by
     rw[wrap_ok (n:=(a:Int)*5) (by omega) (by omega),wrap_ok (by omega) (by omega)];omega
   rw[e x y (by omega) (by omega),e y x (by omega) (by omega),Int.toNat_natCast,Int.toNat_natCast];refine⟨by omega,by omega,fun hc h2=>?_,fun hc=>⟨y+1,⟨⟨by omega,fun b hb=>?_⟩,by omega⟩,up_ok (n:=5) (by omega) (by omega)⟩⟩
   · have h3:=h2.2 x (by omega) y (by omega);rcases hc with hc | hc
     · exact hc h3.1
     · exact h3.2 ⟨hc.1,by omega⟩
   · rcases Nat.lt_or_ge b y with h1 | h1
     · exact hy.2 b h1
     · rw[show b=y from by omega];refine⟨hc.1,fun h2=>?_⟩;rcases hc.2 with h3 | h3
       · exact absurd (h3.symm.trans h2.1) (by decide)
       · exact h3 (by omega)
 · rcases Nat.lt_or_ge a x with h1 | h1
   · exact hx.2 a h1
   · rw[show a=x from by omega];exact fun b hb=>hy.2 b (by omega)
def iLinksOk_get:List SV->St->Option Got
 | [.sl .bool links],⟨[],[],[]⟩=>some (True,.bool (dec (LinksIn links)),St.mk [] [] [])
 | _,_=>none
theorem iLinksOk_ok:Ok0 prog 107 iLinksOk_get:=by
 intro _ _ _ _ _ h hp;unfold iLinksOk_get at h;split at h
 · rename_i links;cases h;refine fl [] (fun k=>bif Nat.beq k 4 then some (.g (⟨Nat,fun s g=>hdb s [0,2] [(9,.int .i64 g)] s.bx s.rw,fun _ g=>g<=5/\∀a,a<g->∀b,b<5->LkOk links a b,fun g=>5-g⟩)) else bif Nat.beq k 7 then some (.g (⟨Nat,fun s g=>hdb s [0,2,3,9] [(12,.int .i64 g)] s.bx s.rw,fun s g=>g<=5/\∀b,b<g->LkOk links (svN s 9) b,fun g=>5-g⟩)) else none) func107 ?_;apply VC.thru (iLinksOk_vc links);kernel_rfl
 · cases h
def iLinksOk_con:Con prog:=.f0 107 [] true iLinksOk_get (en func107 rfl) iLinksOk_ok
def PastP (row:List Dat) (born:Int):Prop:=(1<=born/\born<=20)/\(row.length:Int)=born+1/\(kv row 0).length=0/\∀b,b<row.length->ThingsIn (kv row b)
theorem iPastOk_vc (row:List Dat) (born:Int) :
 WFl (Ty.int i64).sl row->I64 born->((decide (born<1)=false->(decide (born > (20:Int))=false->I64 (row.length:Int)->(decide ((row.length:Int)≠i64.wrap (born+1))=false->0<=(0:Int)/\0<(row.length:Int))/\True)/\True)/\True)/\((decide (born<1)||(decide (born > (20:Int))||(decide ((row.length:Int)≠i64.wrap (born+1))||decide ((↑(row.getD 0 default).kids.length:Int)≠0))))=true->dec (PastP row
 born)=false)/\((decide (born<1)||(decide (born > (20:Int))||(decide ((row.length:Int)≠i64.wrap (born+1))||decide ((↑(row.getD 0 default).kids.length:Int)≠0))))=false->I64 (row.length:Int)->(∃x:Nat,(x<=row.length/\∀b:Nat,b<x->ThingsIn (kv row b))/\row=row/\born=born/\row=row/\(row.length:Int)=(row.length:Int)/\0=(x:Int))/\∀x:Nat,(x<=row.length/\∀b:Nat,b<x->ThingsIn (kv row b))->(decide
 ((x:Int)<(row.length:Int))->(0<=(x:Int)/\(x:Int)<(row.length:Int))/\(I64 (↑(row.getD x default).kids.length:Int)->(decide ((↑(row.getD x default).kids.length:Int) > (100:Int))->dec (PastP row born)=false)/\(decide ((↑(row.getD x default).kids.length:Int) > (100:Int))=false->I64 (↑(row.getD x default).kids.length:Int)->(∃x_1:Nat,(x_1<=(kv row x).length/\∀k:Nat,k<x_1->0<=iv (kv row x) k/\iv (kv row
 x) k<=63)/\row=row/\born=born/\row=row/\(row.length:Int)=(row.length:Int)/\(x:Int)=(x:Int)/\(row.getD x default).kids=(row.getD x default).kids/\(↑(row.getD x default).kids.length:Int)=(↑(row.getD x default).kids.length:Int)/\0=(x_1:Int))/\∀x_1:Nat,(x_1<=(kv row x).length/\∀k:Nat,k<x_1->0<=iv (kv row x) k/\iv (kv row x) k<=63)->(decide ((x_1:Int)<(↑(row.getD x
 default).kids.length:Int))->(0<=(x_1:Int)/\(x_1:Int)<(↑(row.getD x default).kids.length:Int))/\(I64 ((row.getD x default).kids.getD x_1 default).toInt->True/\((!dec (0<=((row.getD x default).kids.getD x_1 default).toInt/\((row.getD x default).kids.getD x_1 default).toInt<(64:Int)))=true->dec (PastP row born)=false)/\((!dec (0<=((row.getD x default).kids.getD x_1 default).toInt/\((row.getD x
 default).kids.getD x_1 default).toInt<(64:Int)))=false->∃x_2:Nat,((x_2<=(kv row x).length/\∀k:Nat,k<x_2->0<=iv (kv row x) k/\iv (kv row x) k<=63)/\1000000000000000-x_2<1000000000000000-x_1)/\row=row/\born=born/\row=row/\(row.length:Int)=(row.length:Int)/\(x:Int)=(x:Int)/\(row.getD x default).kids=(row.getD x default).kids/\(↑(row.getD x default).kids.length:Int)=(↑(row.getD x
 default).kids.length:Int)/\i64.wrap ((x_1:Int)+1)=(x_2:Int))))/\(decide ((x_1:Int)<(↑(row.getD x default).kids.length:Int))=false->∃x_2:Nat,((x_2<=row.length/\∀b:Nat,b<x_2->ThingsIn (kv row b))/\row.length-x_2<row.length-x)/\row=row/\born=born/\row=row/\(row.length:Int)=(row.length:Int)/\i64.wrap ((x:Int)+1)=(x_2:Int)))))/\(decide ((x:Int)<(row.length:Int))=false->dec (PastP row born)=true)):=by
 intro hw hbo;simp only[iv,kv,fv,nm];have hr:=hw.1;have e1:¬born > 20->¬born<1->IntKind.i64.wrap (born+1)=born+1:=fun h1 h2=>wrap_ok (by omega) (by omega)
 refine⟨fun h1 h2 _ h3=>by rw[e1 h2 h1] at h3;omega,fun hc h2=>?_,fun⟨h1,h2,h3,h4⟩ _=>?_⟩
 · obtain⟨k1,k2,k3,_⟩:=h2;rw[e1 (by omega) (by omega)] at hc;simp only[kv] at k3;omega
 · rw[e1 h2 h1] at h3;have hrl:row.length<=21:=by omega
   refine⟨⟨0,⟨by omega,fun b hb=>by omega⟩,rfl⟩,fun x hx=>⟨fun hlt=>⟨by omega,fun _=>⟨fun h h5=>?_,fun h _=>⟨⟨0,⟨by omega,fun k hk=>by omega⟩,rfl⟩,fun y hy=>⟨fun hlt2=>⟨by omega,fun _=>⟨fun hn h5=>?_,fun hn=>⟨y+1,⟨⟨by omega,fun k hk=>?_⟩,by omega⟩,up_ok (n:=100) (by omega) (by omega)⟩⟩⟩,fun hlt2=>⟨x+1,⟨⟨by omega,fun b hb=>?_⟩,by omega⟩,up_ok (n:=21) (by omega) (by omega)⟩⟩⟩⟩⟩,fun hlt=>⟨by omega,h3,by simp only[kv];omega,fun b hb=>hx.2 b (by omega)⟩⟩⟩
   · have h6:=(h5.2.2.2 x (by omega)).2;simp only[kv] at h6;omega
   · have h6:=(h5.2.2.2 x (by omega)).1 y (by simp only[kv];omega);simp only[kv,iv] at h6;exact hn ⟨h6.1,by omega⟩
   · rcases Nat.lt_or_ge k y with h6 | h6
     · exact hy.2 k h6
     · rw[show k=y from by omega];omega
   · rcases Nat.lt_or_ge b x with h6 | h6
     · exact hx.2 b h6
     · rw[show b=x from by omega];exact⟨fun k hk=>hy.2 k (by omega),by omega⟩
def iPastOk_get:List SV->St->Option Got
 | [.sl (.sl (.int .i64)) row,.int .i64 born],⟨[],[],[]⟩=>some (True,.bool (dec (PastP row born)),St.mk [] [] [])
 | _,_=>none
theorem iPastOk_ok:Ok0 prog 108 iPastOk_get:=by
 intro _ _ _ _ _ h hp;unfold iPastOk_get at h;split at h
 · rename_i row born;cases h;refine fl [iIsThing_con] (fun k=>bif Nat.beq k 4 then some (.g (⟨Nat,fun s g=>hdb s [0,1,4,29,30] [(31,.int .i64 g)] s.bx s.rw,fun _ g=>g<=row.length/\∀b,b<g->ThingsIn (kv row b),fun g=>row.length-g⟩)) else bif Nat.beq k 9 then some (.g (⟨Nat,fun s g=>hdb s [0,1,4,29,30,31,38,39] [(40,.int .i64 g)] s.bx s.rw,fun s g=>g<=(kv row (svN s 31)).length/\∀k,k<g->0<=iv (kv row (svN s 31)) k/\iv (kv row (svN s 31)) k<=63,fun g=>1000000000000000-g⟩)) else none) func108 ?_;apply VC.thru (iPastOk_vc row born);kernel_rfl
 · cases h
def iPastOk_con:Con prog:=.f0 108 [] true iPastOk_get (en func108 rfl) iPastOk_ok
theorem iCounted_vc (nodes links words past rows kept prs kn:List Dat) (node born num lost all rall:Int) (hp:NetPast nodes past) :
 WFl TNode nodes->WFl Ty.bool links->WFl TWord words->WFl (Ty.int i64).sl.sl past->I64 node->I64 born->I64 num->WFl (Ty.int i64).sl rows->WFl (Ty.int i64) kept->WFl TPr prs->I64 lost->I64 all->WFl TPr kn->I64 rall->(I64 node->True/\(dec (0<=node/\node<5)=true->I64 born->(decide (born>=(1:Int))->I64 born->I64 node->(0<=node/\node<(nodes.length:Int))/\(I64 ((nodes.getD node.toNat default).f
 0).toInt->(decide (born<=((nodes.getD node.toNat default).f 0).toInt)->I64 num->(decide (num>=(0:Int))->I64 num->I64 node->(0<=node/\node<(past.length:Int))/\(I64 born->0<=born/\born<(↑(past.getD node.toNat default).kids.length:Int)))/\True)/\True))/\True)/\True)/\(dec (0<=node/\node<5)&&(decide (born>=(1:Int))&&(decide (born<=((nodes.getD node.toNat default).f 0).toInt)&&(decide
 (num>=(0:Int))&&decide (num<=(↑((past.getD node.toNat default).kids.getD born.toNat default).kids.length:Int))))))=dec (0<=node/\node<=4/\1<=born/\born<=bornOf nodes node.toNat/\0<=num/\num<=(↑(pastOf past node.toNat born.toNat).length:Int)):=by
 intro hw1 hw2 hw3 hw4 _ _ _ _ _ _ _ _ _ _;simp only[iv,kv,fv,nm];have hn:=hp.1;have hpl:=hp.2.1;refine⟨fun _ h1 _ h2 _ _=>⟨by omega,fun _ h3 _ _ _ _=>⟨by omega,fun _=>?_⟩⟩,dec_bool ?_⟩
 · have:=(hp.things (a:=node.toNat) (b:=born.toNat) (by omega) (by simp only[bornOf,fv];omega)).1
   simp only[kv] at this;omega
 · simp only[Bool.and_eq_true,dec_eq_true,decide_eq_true_eq,bornOf,pastOf,fv,kv];omega
def iCounted_get:List SV->St->Option Got
 | [.agg [.sl ty0 nodes,.sl .bool _,.sl ty1 _,.sl (.sl (.sl (.int .i64))) past],.agg [.int .i64 node,.int .i64 born,.int .i64 num,.sl (.sl (.int .i64)) _,.sl (.int .i64) _,.sl ty2 _,.int .i64 _,.int .i64 _,.sl ty3 _,.int .i64 _]],⟨[],[],[]⟩=>guardTy ty0 TNode (guardTy ty1 TWord (guardTy ty2 TPr (guardTy ty3 TPr (some (NetPast nodes past,.bool (dec (0<=node/\node<=4/\1<=born/\born<=bornOf nodes node.toNat/\0<=num/\num<=((pastOf past node.toNat born.toNat).length:Int))),St.mk [] [] [])))))
 | _,_=>none
theorem iCounted_ok:Ok0 prog 47 iCounted_get:=by
 intro _ _ _ _ _ h hp;unfold iCounted_get at h;split at h
 · rename_i nodes links _ words past node born num rows kept _ prs lost all _ kn rall;replace h:=gT4 h;obtain⟨rfl,rfl,rfl,rfl,h⟩:=h;cases h;refine fz [iIsNode_con] func47 ?_;apply VC.thru (iCounted_vc nodes links words past rows kept prs kn node born num lost all rall hp);kernel_rfl
 · cases h
def iCounted_con:Con prog:=.f0 47 [] true iCounted_get (en func47 rfl) iCounted_ok
def dSum (x:SumD):Dat:=.node [.node [.node x.rows],.node [.node x.kept],.node [.node x.prs,.int x.lost,.int x.all],.node [.node x.kn,.int x.rall]]
def sumsTo (past:List Dat) (n b:Int) (k:Nat):List Dat:=(List.range k).map fun j:Nat=>dSum (entSum past n b j)
theorem sumsTo_length (past:List Dat) (n b:Int) (k:Nat):(sumsTo past n b k).length=k:=by simp [sumsTo]
theorem sumsTo_there (past:List Dat) (n b:Int) (k:Nat):isN (.node (sumsTo past n b k)):=by
 refine isN_of rfl ?_;cases k with
 | zero=>intro h;cases h
 | succ k=>
   unfold sumsTo;rw[List.range_succ_eq_map];intro h;injection h with h
   cases h
theorem sumsTo_next (past:List Dat) (n b:Int) (k:Nat):sumsTo past n b (k+1)=sumsTo past n b k++[dSum (entSum past n b k)]:=by simp [sumsTo,List.range_succ]
theorem sumsTo_get {past:List Dat} {n b:Int} {k i:Nat} (h:i<k):(sumsTo past n b k).getD i default=dSum (entSum past n b i):=by simp [sumsTo,List.getD_eq_getElem?_getD,h]
theorem ent_next {past:List Dat} {n b:Int} {k:Nat} (h:k<(pastOf past n.toNat b.toNat).length):entSum past n b ((k+1:Nat):Int)=sumAdd (entSum past n b k) (iv (pastOf past n.toNat b.toNat) k):=by
 unfold entSum;rw[Int.toNat_natCast,Int.toNat_natCast,ints_take_succ h,sumOf_next]
theorem ent_in {past:List Dat} {n b:Int} (h:ThingsIn (pastOf past n.toNat b.toNat)) {k:Nat} (hk:k<=(pastOf past n.toNat b.toNat).length):SumIn (entSum past n b k)/\(entSum past n b k).all=k:=by
 unfold entSum;rw[Int.toNat_natCast,ints_take];exact sumOf_take h.ints (by rw[ints_length];have:=h.2;omega) k (by rw[ints_length];exact hk)
theorem mfind_set:∀{ds:List Dat} {k d:Dat} {i:Nat},mfind ds k=some i->d.f 0=k->mfind (ds.set i d) k=some i
 | [],_,_,_,h,_=>by cases h
 | e::ds,k,d,i,h,hd=>by
   unfold mfind at h;by_cases he:e.f 0=k
   · rw[if_pos he] at h;simp at h;subst h;simp [mfind,hd]
   · rw[if_neg he] at h;obtain⟨i',hi',rfl⟩:=Option.map_eq_some_iff.1 h
     have:=mfind_set hi' hd
     simp [mfind,he,this]
def MapIn (past m:List Dat):Prop:=∀i,i<m.length->∃(n b:Int) (k:Nat),m.getD i default=.node [.node [.int n,.int b],.node (sumsTo past n b k)]/\1<=k/\k<=(pastOf past n.toNat b.toNat).length+1
abbrev sI (past:List Dat) (n b:Int) (i:Nat):Int:=IntKind.i64.wrap (((sumsTo past n b i).length:Int)-1)
abbrev sE (past:List Dat) (n b:Int) (i:Nat):Dat:=(sumsTo past n b i).getD (IntKind.i64.wrap (((sumsTo past n b i).length:Int)-1)).toNat default
theorem iSumOf_vc (nodes links words past m:List Dat) (node born num:Int) (rows kept prs kn:List Dat) (lost all rall:Int) (hp:NetPast nodes past/\MapIn past m/\0<=node/\node<=4/\1<=born/\born<=bornOf nodes node.toNat/\0<=num/\num<=((pastOf past node.toNat born.toNat).length:Int)) :
 I64 node->I64 born->I64 num->WFl (Ty.int i64).sl rows->WFl (Ty.int i64) kept->WFl TPr prs->I64 lost->I64 all->WFl TPr kn->I64 rall->WFl TNode nodes->WFl Ty.bool links->WFl TWord words->WFl (Ty.int i64).sl.sl past->I64 node->I64 born->(∀x:Nat,mfind m (Dat.node [.int node,.int born])=some x->isN ((m.getD x default).f 1)/\(I64 (↑((m.getD x default).f 1).kids.length:Int)->(decide ((↑((m.getD x
 default).f 1).kids.length:Int)=0)->True/\(I64 node->(0<=node/\node<(past.length:Int))/\(I64 born->(0<=born/\born<(↑(past.getD node.toNat default).kids.length:Int))/\(∃x_1:Nat,(1<=x_1/\x_1<=(pastOf past node.toNat born.toNat).length+1)/\(pastOf past node.toNat born.toNat)=(pastOf past node.toNat
 born.toNat)/\nodes=nodes/\links=links/\words=words/\past=past/\node=node/\born=born/\num=num/\rows=rows/\kept=kept/\prs=prs/\lost=lost/\all=all/\kn=kn/\rall=rall/\(0:Int)=0/\(0:Int)=0/\(0:Int)=0/\node=node/\born=born/\m.set x (Dat.node [(m.getD x default).f 0,hole])=m.set x (Dat.node [(m.getD x default).f 0,hole])/\[Dat.node [.node [.node sumZero.rows],.node [.node sumZero.kept],.node [.node
 sumZero.prs,.int sumZero.lost,.int sumZero.all],.node [.node sumZero.kn,.int sumZero.rall]]]=sumsTo past node born x_1)/\∀x_1:Nat,1<=x_1/\x_1<=(pastOf past node.toNat born.toNat).length+1->I64 (↑(sumsTo past node born x_1).length:Int)->I64 num->(decide ((↑(sumsTo past node born x_1).length:Int)<=num)->I64 (↑(sumsTo past node born x_1).length:Int)->(0<=sI past node born x_1/\sI past node born
 x_1<(↑(sumsTo past node born x_1).length:Int))/\(sI past node born x_1).toNat<(sumsTo past node born x_1).length/\(0<=sI past node born x_1/\sI past node born x_1<(↑(pastOf past node.toNat born.toNat).length:Int))/\((sI past node born x_1).toNat<(sumsTo past node born x_1).length/\((((sE past node born x_1).f 0).f 0).kids=(((sE past node born x_1).f 0).f 0).kids/\(((sE past node born x_1).f 1).f
 0).kids=(((sE past node born x_1).f 1).f 0).kids/\(((sE past node born x_1).f 2).f 0).kids=(((sE past node born x_1).f 2).f 0).kids/\(((sE past node born x_1).f 2).f 1).toInt=(((sE past node born x_1).f 2).f 1).toInt/\(((sE past node born x_1).f 2).f 2).toInt=(((sE past node born x_1).f 2).f 2).toInt/\(((sE past node born x_1).f 3).f 0).kids=(((sE past node born x_1).f 3).f 0).kids/\(((sE past
 node born x_1).f 3).f 1).toInt=(((sE past node born x_1).f 3).f 1).toInt)/\(0<=sI past node born x_1/\sI past node born x_1<(↑(sumsTo past node born x_1).length:Int))/\(sI past node born x_1).toNat=(sI past node born x_1).toNat/\(SumIn (sumD (sE past node born x_1))/\0<=((pastOf past node.toNat born.toNat).getD (sI past node born x_1).toNat default).toInt/\((pastOf past node.toNat born.toNat).getD
 (sI past node born x_1).toNat default).toInt<(64:Int)/\(((sE past node born x_1).f 2).f 2).toInt<(2000:Int))/\∀x_2:SumD,x_2=sumAdd (sumD (sE past node born x_1)) ((pastOf past node.toNat born.toNat).getD (sI past node born x_1).toNat default).toInt->((sumsTo past node born x_1).length+1)*120<=140737488355328/\∃x_3:Nat,((1<=x_3/\x_3<=(pastOf past node.toNat born.toNat).length+1)/\(pastOf past
 node.toNat born.toNat).length+1-x_3<(pastOf past node.toNat born.toNat).length+1-x_1)/\(pastOf past node.toNat born.toNat)=(pastOf past node.toNat born.toNat)/\nodes=nodes/\links=links/\words=words/\past=past/\node=node/\born=born/\num=num/\rows=rows/\kept=kept/\prs=prs/\lost=lost/\all=all/\kn=kn/\rall=rall/\(0:Int)=0/\(0:Int)=0/\(0:Int)=0/\node=node/\born=born/\m.set x (Dat.node [(m.getD x
 default).f 0,hole])=m.set x (Dat.node [(m.getD x default).f 0,hole])/\sumsTo past node born x_1++[Dat.node [.node [.node x_2.rows],.node [.node x_2.kept],.node [.node x_2.prs,.int x_2.lost,.int x_2.all],.node [.node x_2.kn,.int x_2.rall]]]=sumsTo past node born x_3)/\(SumIn (sumD (sE past node born x_1))/\0<=((pastOf past node.toNat born.toNat).getD (sI past node born x_1).toNat
 default).toInt/\((pastOf past node.toNat born.toNat).getD (sI past node born x_1).toNat default).toInt<(64:Int)/\(((sE past node born x_1).f 2).f 2).toInt<(2000:Int))/\∀x_2:SumD,x_2=sumAdd (sumD (sE past node born x_1)) ((pastOf past node.toNat born.toNat).getD (sI past node born x_1).toNat default).toInt->((sumsTo past node born x_1).length+1)*120<=140737488355328/\∃x_3:Nat,((1<=x_3/\x_3<=(pastOf
 past node.toNat born.toNat).length+1)/\(pastOf past node.toNat born.toNat).length+1-x_3<(pastOf past node.toNat born.toNat).length+1-x_1)/\(pastOf past node.toNat born.toNat)=(pastOf past node.toNat
 born.toNat)/\nodes=nodes/\links=links/\words=words/\past=past/\node=node/\born=born/\num=num/\rows=rows/\kept=kept/\prs=prs/\lost=lost/\all=all/\kn=kn/\rall=rall/\(0:Int)=0/\(0:Int)=0/\(0:Int)=0/\node=node/\born=born/\m.set x (Dat.node [(m.getD x default).f 0,hole])=m.set x (Dat.node [(m.getD x default).f 0,hole])/\sumsTo past node born x_1++[Dat.node [.node [.node x_2.rows],.node [.node
 x_2.kept],.node [.node x_2.prs,.int x_2.lost,.int x_2.all],.node [.node x_2.kn,.int x_2.rall]]]=sumsTo past node born x_3)/\(decide ((↑(sumsTo past node born x_1).length:Int)<=num)=false->(∀x_2:Nat,mfind (m.set x (Dat.node [(m.getD x default).f 0,hole])) (Dat.node [.int node,.int born])=some x_2->I64 num->((x_2<((m.set x (Dat.node [(m.getD x default).f 0,hole])).set x_2 (Dat.node [.node [.int
 node,.int born],.node (sumsTo past node born x_1)])).length/\isN ((((m.set x (Dat.node [(m.getD x default).f 0,hole])).set x_2 (Dat.node [.node [.int node,.int born],.node (sumsTo past node born x_1)])).getD x_2 default).f 1)/\True)/\0<=num/\num<(↑((((m.set x (Dat.node [(m.getD x default).f 0,hole])).set x_2 (Dat.node [.node [.int node,.int born],.node (sumsTo past node born x_1)])).getD x_2
 default).f 1).kids.length:Int))/\((x_2<((m.set x (Dat.node [(m.getD x default).f 0,hole])).set x_2 (Dat.node [.node [.int node,.int born],.node (sumsTo past node born x_1)])).length/\isN ((((m.set x (Dat.node [(m.getD x default).f 0,hole])).set x_2 (Dat.node [.node [.int node,.int born],.node (sumsTo past node born x_1)])).getD x_2 default).f 1)/\True)/\num.toNat<((((m.set x (Dat.node [(m.getD x
 default).f 0,hole])).set x_2 (Dat.node [.node [.int node,.int born],.node (sumsTo past node born x_1)])).getD x_2 default).f 1).kids.length)/\∃x_3:List Dat,MapIn past x_3/\(((((((m.set x (Dat.node [(m.getD x default).f 0,hole])).set x_2 (Dat.node [.node [.int node,.int born],.node (sumsTo past node born x_1)])).getD x_2 default).f 1).kids.getD num.toNat default).f 0).f 0).kids=(entSum past node
 born num).rows/\(((((((m.set x (Dat.node [(m.getD x default).f 0,hole])).set x_2 (Dat.node [.node [.int node,.int born],.node (sumsTo past node born x_1)])).getD x_2 default).f 1).kids.getD num.toNat default).f 1).f 0).kids=(entSum past node born num).kept/\(((((((m.set x (Dat.node [(m.getD x default).f 0,hole])).set x_2 (Dat.node [.node [.int node,.int born],.node (sumsTo past node born
 x_1)])).getD x_2 default).f 1).kids.getD num.toNat default).f 2).f 0).kids=(entSum past node born num).prs/\(((((((m.set x (Dat.node [(m.getD x default).f 0,hole])).set x_2 (Dat.node [.node [.int node,.int born],.node (sumsTo past node born x_1)])).getD x_2 default).f 1).kids.getD num.toNat default).f 2).f 1).toInt=(entSum past node born num).lost/\(((((((m.set x (Dat.node [(m.getD x default).f
 0,hole])).set x_2 (Dat.node [.node [.int node,.int born],.node (sumsTo past node born x_1)])).getD x_2 default).f 1).kids.getD num.toNat default).f 2).f 2).toInt=(entSum past node born num).all/\(((((((m.set x (Dat.node [(m.getD x default).f 0,hole])).set x_2 (Dat.node [.node [.int node,.int born],.node (sumsTo past node born x_1)])).getD x_2 default).f 1).kids.getD num.toNat default).f 3).f
 0).kids=(entSum past node born num).kn/\(((((((m.set x (Dat.node [(m.getD x default).f 0,hole])).set x_2 (Dat.node [.node [.int node,.int born],.node (sumsTo past node born x_1)])).getD x_2 default).f 1).kids.getD num.toNat default).f 3).f 1).toInt=(entSum past node born num).rall/\nodes=nodes/\links=links/\words=words/\past=past/\(m.set x (Dat.node [(m.getD x default).f 0,hole])).set x_2
 (Dat.node [.node [.int node,.int born],.node (sumsTo past node born x_1)])=x_3)/\(mfind (m.set x (Dat.node [(m.getD x default).f 0,hole])) (Dat.node [.int node,.int born])=none->I64 num->(((m.set x (Dat.node [(m.getD x default).f 0,hole])).length<(m.set x (Dat.node [(m.getD x default).f 0,hole])++[Dat.node [.node [.int node,.int born],.node (sumsTo past node born x_1)]]).length/\isN (((m.set x
 (Dat.node [(m.getD x default).f 0,hole])++[Dat.node [.node [.int node,.int born],.node (sumsTo past node born x_1)]]).getD (m.set x (Dat.node [(m.getD x default).f 0,hole])).length default).f 1)/\True)/\0<=num/\num<(↑(((m.set x (Dat.node [(m.getD x default).f 0,hole])++[Dat.node [.node [.int node,.int born],.node (sumsTo past node born x_1)]]).getD (m.set x (Dat.node [(m.getD x default).f
 0,hole])).length default).f 1).kids.length:Int))/\(((m.set x (Dat.node [(m.getD x default).f 0,hole])).length<(m.set x (Dat.node [(m.getD x default).f 0,hole])++[Dat.node [.node [.int node,.int born],.node (sumsTo past node born x_1)]]).length/\isN (((m.set x (Dat.node [(m.getD x default).f 0,hole])++[Dat.node [.node [.int node,.int born],.node (sumsTo past node born x_1)]]).getD (m.set x
 (Dat.node [(m.getD x default).f 0,hole])).length default).f 1)/\True)/\num.toNat<(((m.set x (Dat.node [(m.getD x default).f 0,hole])++[Dat.node [.node [.int node,.int born],.node (sumsTo past node born x_1)]]).getD (m.set x (Dat.node [(m.getD x default).f 0,hole])).length default).f 1).kids.length)/\∃x_2:List Dat,MapIn past x_2/\((((((m.set x (Dat.node [(m.getD x default).f 0,hole])++[Dat.node
 [.node [.int node,.int born],.node (sumsTo past node born x_1)]]).getD (m.set x (Dat.node [(m.getD x default).f 0,hole])).length default).f 1).kids.getD num.toNat default).f 0).f 0).kids=(entSum past node born num).rows/\((((((m.set x (Dat.node [(m.getD x default).f 0,hole])++[Dat.node [.node [.int node,.int born],.node (sumsTo past node born x_1)]]).getD (m.set x (Dat.node [(m.getD x default).f
 0,hole])).length default).f 1).kids.getD num.toNat default).f 1).f 0).kids=(entSum past node born num).kept/\((((((m.set x (Dat.node [(m.getD x default).f 0,hole])++[Dat.node [.node [.int node,.int born],.node (sumsTo past node born x_1)]]).getD (m.set x (Dat.node [(m.getD x default).f 0,hole])).length default).f 1).kids.getD num.toNat default).f 2).f 0).kids=(entSum past node born
 num).prs/\((((((m.set x (Dat.node [(m.getD x default).f 0,hole])++[Dat.node [.node [.int node,.int born],.node (sumsTo past node born x_1)]]).getD (m.set x (Dat.node [(m.getD x default).f 0,hole])).length default).f 1).kids.getD num.toNat default).f 2).f 1).toInt=(entSum past node born num).lost/\((((((m.set x (Dat.node [(m.getD x default).f 0,hole])++[Dat.node [.node [.int node,.int born],.node
 (sumsTo past node born x_1)]]).getD (m.set x (Dat.node [(m.getD x default).f 0,hole])).length default).f 1).kids.getD num.toNat default).f 2).f 2).toInt=(entSum past node born num).all/\((((((m.set x (Dat.node [(m.getD x default).f 0,hole])++[Dat.node [.node [.int node,.int born],.node (sumsTo past node born x_1)]]).getD (m.set x (Dat.node [(m.getD x default).f 0,hole])).length default).f
 1).kids.getD num.toNat default).f 3).f 0).kids=(entSum past node born num).kn/\((((((m.set x (Dat.node [(m.getD x default).f 0,hole])++[Dat.node [.node [.int node,.int born],.node (sumsTo past node born x_1)]]).getD (m.set x (Dat.node [(m.getD x default).f 0,hole])).length default).f 1).kids.getD num.toNat default).f 3).f 1).toInt=(entSum past node born
 num).rall/\nodes=nodes/\links=links/\words=words/\past=past/\m.set x (Dat.node [(m.getD x default).f 0,hole])++[Dat.node [.node [.int node,.int born],.node (sumsTo past node born x_1)]]=x_2)))))/\(decide ((↑((m.getD x default).f 1).kids.length:Int)=0)=false->I64 node->(0<=node/\node<(past.length:Int))/\(I64 born->(0<=born/\born<(↑(past.getD node.toNat
 default).kids.length:Int))/\(∃x_1:Nat,(1<=x_1/\x_1<=(pastOf past node.toNat born.toNat).length+1)/\(pastOf past node.toNat born.toNat)=(pastOf past node.toNat born.toNat)/\nodes=nodes/\links=links/\words=words/\past=past/\node=node/\born=born/\num=num/\rows=rows/\kept=kept/\prs=prs/\lost=lost/\all=all/\kn=kn/\rall=rall/\(0:Int)=0/\(0:Int)=0/\(0:Int)=0/\node=node/\born=born/\m.set x (Dat.node
 [(m.getD x default).f 0,hole])=m.set x (Dat.node [(m.getD x default).f 0,hole])/\((m.getD x default).f 1).kids=sumsTo past node born x_1)/\∀x_1:Nat,1<=x_1/\x_1<=(pastOf past node.toNat born.toNat).length+1->I64 (↑(sumsTo past node born x_1).length:Int)->I64 num->(decide ((↑(sumsTo past node born x_1).length:Int)<=num)->I64 (↑(sumsTo past node born x_1).length:Int)->(0<=sI past node born x_1/\sI
 past node born x_1<(↑(sumsTo past node born x_1).length:Int))/\(sI past node born x_1).toNat<(sumsTo past node born x_1).length/\(0<=sI past node born x_1/\sI past node born x_1<(↑(pastOf past node.toNat born.toNat).length:Int))/\((sI past node born x_1).toNat<(sumsTo past node born x_1).length/\((((sE past node born x_1).f 0).f 0).kids=(((sE past node born x_1).f 0).f 0).kids/\(((sE past node
 born x_1).f 1).f 0).kids=(((sE past node born x_1).f 1).f 0).kids/\(((sE past node born x_1).f 2).f 0).kids=(((sE past node born x_1).f 2).f 0).kids/\(((sE past node born x_1).f 2).f 1).toInt=(((sE past node born x_1).f 2).f 1).toInt/\(((sE past node born x_1).f 2).f 2).toInt=(((sE past node born x_1).f 2).f 2).toInt/\(((sE past node born x_1).f 3).f 0).kids=(((sE past node born x_1).f 3).f
 0).kids/\(((sE past node born x_1).f 3).f 1).toInt=(((sE past node born x_1).f 3).f 1).toInt)/\(0<=sI past node born x_1/\sI past node born x_1<(↑(sumsTo past node born x_1).length:Int))/\(sI past node born x_1).toNat=(sI past node born x_1).toNat/\(SumIn (sumD (sE past node born x_1))/\0<=((pastOf past node.toNat born.toNat).getD (sI past node born x_1).toNat default).toInt/\((pastOf past
 node.toNat born.toNat).getD (sI past node born x_1).toNat default).toInt<(64:Int)/\(((sE past node born x_1).f 2).f 2).toInt<(2000:Int))/\∀x_2:SumD,x_2=sumAdd (sumD (sE past node born x_1)) ((pastOf past node.toNat born.toNat).getD (sI past node born x_1).toNat default).toInt->((sumsTo past node born x_1).length+1)*120<=140737488355328/\∃x_3:Nat,((1<=x_3/\x_3<=(pastOf past node.toNat
 born.toNat).length+1)/\(pastOf past node.toNat born.toNat).length+1-x_3<(pastOf past node.toNat born.toNat).length+1-x_1)/\(pastOf past node.toNat born.toNat)=(pastOf past node.toNat
 born.toNat)/\nodes=nodes/\links=links/\words=words/\past=past/\node=node/\born=born/\num=num/\rows=rows/\kept=kept/\prs=prs/\lost=lost/\all=all/\kn=kn/\rall=rall/\(0:Int)=0/\(0:Int)=0/\(0:Int)=0/\node=node/\born=born/\m.set x (Dat.node [(m.getD x default).f 0,hole])=m.set x (Dat.node [(m.getD x default).f 0,hole])/\sumsTo past node born x_1++[Dat.node [.node [.node x_2.rows],.node [.node
 x_2.kept],.node [.node x_2.prs,.int x_2.lost,.int x_2.all],.node [.node x_2.kn,.int x_2.rall]]]=sumsTo past node born x_3)/\(SumIn (sumD (sE past node born x_1))/\0<=((pastOf past node.toNat born.toNat).getD (sI past node born x_1).toNat default).toInt/\((pastOf past node.toNat born.toNat).getD (sI past node born x_1).toNat default).toInt<(64:Int)/\(((sE past node born x_1).f 2).f
 2).toInt<(2000:Int))/\∀x_2:SumD,x_2=sumAdd (sumD (sE past node born x_1)) ((pastOf past node.toNat born.toNat).getD (sI past node born x_1).toNat default).toInt->((sumsTo past node born x_1).length+1)*120<=140737488355328/\∃x_3:Nat,((1<=x_3/\x_3<=(pastOf past node.toNat born.toNat).length+1)/\(pastOf past node.toNat born.toNat).length+1-x_3<(pastOf past node.toNat
 born.toNat).length+1-x_1)/\(pastOf past node.toNat born.toNat)=(pastOf past node.toNat born.toNat)/\nodes=nodes/\links=links/\words=words/\past=past/\node=node/\born=born/\num=num/\rows=rows/\kept=kept/\prs=prs/\lost=lost/\all=all/\kn=kn/\rall=rall/\(0:Int)=0/\(0:Int)=0/\(0:Int)=0/\node=node/\born=born/\m.set x (Dat.node [(m.getD x default).f 0,hole])=m.set x (Dat.node [(m.getD x default).f
 0,hole])/\sumsTo past node born x_1++[Dat.node [.node [.node x_2.rows],.node [.node x_2.kept],.node [.node x_2.prs,.int x_2.lost,.int x_2.all],.node [.node x_2.kn,.int x_2.rall]]]=sumsTo past node born x_3)/\(decide ((↑(sumsTo past node born x_1).length:Int)<=num)=false->(∀x_2:Nat,mfind (m.set x (Dat.node [(m.getD x default).f 0,hole])) (Dat.node [.int node,.int born])=some x_2->I64
 num->((x_2<((m.set x (Dat.node [(m.getD x default).f 0,hole])).set x_2 (Dat.node [.node [.int node,.int born],.node (sumsTo past node born x_1)])).length/\isN ((((m.set x (Dat.node [(m.getD x default).f 0,hole])).set x_2 (Dat.node [.node [.int node,.int born],.node (sumsTo past node born x_1)])).getD x_2 default).f 1)/\True)/\0<=num/\num<(↑((((m.set x (Dat.node [(m.getD x default).f 0,hole])).set
 x_2 (Dat.node [.node [.int node,.int born],.node (sumsTo past node born x_1)])).getD x_2 default).f 1).kids.length:Int))/\((x_2<((m.set x (Dat.node [(m.getD x default).f 0,hole])).set x_2 (Dat.node [.node [.int node,.int born],.node (sumsTo past node born x_1)])).length/\isN ((((m.set x (Dat.node [(m.getD x default).f 0,hole])).set x_2 (Dat.node [.node [.int node,.int born],.node (sumsTo past node
 born x_1)])).getD x_2 default).f 1)/\True)/\num.toNat<((((m.set x (Dat.node [(m.getD x default).f 0,hole])).set x_2 (Dat.node [.node [.int node,.int born],.node (sumsTo past node born x_1)])).getD x_2 default).f 1).kids.length)/\∃x_3:List Dat,MapIn past x_3/\(((((((m.set x (Dat.node [(m.getD x default).f 0,hole])).set x_2 (Dat.node [.node [.int node,.int born],.node (sumsTo past node born
 x_1)])).getD x_2 default).f 1).kids.getD num.toNat default).f 0).f 0).kids=(entSum past node born num).rows/\(((((((m.set x (Dat.node [(m.getD x default).f 0,hole])).set x_2 (Dat.node [.node [.int node,.int born],.node (sumsTo past node born x_1)])).getD x_2 default).f 1).kids.getD num.toNat default).f 1).f 0).kids=(entSum past node born num).kept/\(((((((m.set x (Dat.node [(m.getD x default).f
 0,hole])).set x_2 (Dat.node [.node [.int node,.int born],.node (sumsTo past node born x_1)])).getD x_2 default).f 1).kids.getD num.toNat default).f 2).f 0).kids=(entSum past node born num).prs/\(((((((m.set x (Dat.node [(m.getD x default).f 0,hole])).set x_2 (Dat.node [.node [.int node,.int born],.node (sumsTo past node born x_1)])).getD x_2 default).f 1).kids.getD num.toNat default).f 2).f
 1).toInt=(entSum past node born num).lost/\(((((((m.set x (Dat.node [(m.getD x default).f 0,hole])).set x_2 (Dat.node [.node [.int node,.int born],.node (sumsTo past node born x_1)])).getD x_2 default).f 1).kids.getD num.toNat default).f 2).f 2).toInt=(entSum past node born num).all/\(((((((m.set x (Dat.node [(m.getD x default).f 0,hole])).set x_2 (Dat.node [.node [.int node,.int born],.node
 (sumsTo past node born x_1)])).getD x_2 default).f 1).kids.getD num.toNat default).f 3).f 0).kids=(entSum past node born num).kn/\(((((((m.set x (Dat.node [(m.getD x default).f 0,hole])).set x_2 (Dat.node [.node [.int node,.int born],.node (sumsTo past node born x_1)])).getD x_2 default).f 1).kids.getD num.toNat default).f 3).f 1).toInt=(entSum past node born
 num).rall/\nodes=nodes/\links=links/\words=words/\past=past/\(m.set x (Dat.node [(m.getD x default).f 0,hole])).set x_2 (Dat.node [.node [.int node,.int born],.node (sumsTo past node born x_1)])=x_3)/\(mfind (m.set x (Dat.node [(m.getD x default).f 0,hole])) (Dat.node [.int node,.int born])=none->I64 num->(((m.set x (Dat.node [(m.getD x default).f 0,hole])).length<(m.set x (Dat.node [(m.getD x
 default).f 0,hole])++[Dat.node [.node [.int node,.int born],.node (sumsTo past node born x_1)]]).length/\isN (((m.set x (Dat.node [(m.getD x default).f 0,hole])++[Dat.node [.node [.int node,.int born],.node (sumsTo past node born x_1)]]).getD (m.set x (Dat.node [(m.getD x default).f 0,hole])).length default).f 1)/\True)/\0<=num/\num<(↑(((m.set x (Dat.node [(m.getD x default).f 0,hole])++[Dat.node
 [.node [.int node,.int born],.node (sumsTo past node born x_1)]]).getD (m.set x (Dat.node [(m.getD x default).f 0,hole])).length default).f 1).kids.length:Int))/\(((m.set x (Dat.node [(m.getD x default).f 0,hole])).length<(m.set x (Dat.node [(m.getD x default).f 0,hole])++[Dat.node [.node [.int node,.int born],.node (sumsTo past node born x_1)]]).length/\isN (((m.set x (Dat.node [(m.getD x
 default).f 0,hole])++[Dat.node [.node [.int node,.int born],.node (sumsTo past node born x_1)]]).getD (m.set x (Dat.node [(m.getD x default).f 0,hole])).length default).f 1)/\True)/\num.toNat<(((m.set x (Dat.node [(m.getD x default).f 0,hole])++[Dat.node [.node [.int node,.int born],.node (sumsTo past node born x_1)]]).getD (m.set x (Dat.node [(m.getD x default).f 0,hole])).length default).f
 1).kids.length)/\∃x_2:List Dat,MapIn past x_2/\((((((m.set x (Dat.node [(m.getD x default).f 0,hole])++[Dat.node [.node [.int node,.int born],.node (sumsTo past node born x_1)]]).getD (m.set x (Dat.node [(m.getD x default).f 0,hole])).length default).f 1).kids.getD num.toNat default).f 0).f 0).kids=(entSum past node born num).rows/\((((((m.set x (Dat.node [(m.getD x default).f 0,hole])++[Dat.node
 [.node [.int node,.int born],.node (sumsTo past node born x_1)]]).getD (m.set x (Dat.node [(m.getD x default).f 0,hole])).length default).f 1).kids.getD num.toNat default).f 1).f 0).kids=(entSum past node born num).kept/\((((((m.set x (Dat.node [(m.getD x default).f 0,hole])++[Dat.node [.node [.int node,.int born],.node (sumsTo past node born x_1)]]).getD (m.set x (Dat.node [(m.getD x default).f
 0,hole])).length default).f 1).kids.getD num.toNat default).f 2).f 0).kids=(entSum past node born num).prs/\((((((m.set x (Dat.node [(m.getD x default).f 0,hole])++[Dat.node [.node [.int node,.int born],.node (sumsTo past node born x_1)]]).getD (m.set x (Dat.node [(m.getD x default).f 0,hole])).length default).f 1).kids.getD num.toNat default).f 2).f 1).toInt=(entSum past node born
 num).lost/\((((((m.set x (Dat.node [(m.getD x default).f 0,hole])++[Dat.node [.node [.int node,.int born],.node (sumsTo past node born x_1)]]).getD (m.set x (Dat.node [(m.getD x default).f 0,hole])).length default).f 1).kids.getD num.toNat default).f 2).f 2).toInt=(entSum past node born num).all/\((((((m.set x (Dat.node [(m.getD x default).f 0,hole])++[Dat.node [.node [.int node,.int born],.node
 (sumsTo past node born x_1)]]).getD (m.set x (Dat.node [(m.getD x default).f 0,hole])).length default).f 1).kids.getD num.toNat default).f 3).f 0).kids=(entSum past node born num).kn/\((((((m.set x (Dat.node [(m.getD x default).f 0,hole])++[Dat.node [.node [.int node,.int born],.node (sumsTo past node born x_1)]]).getD (m.set x (Dat.node [(m.getD x default).f 0,hole])).length default).f
 1).kids.getD num.toNat default).f 3).f 1).toInt=(entSum past node born num).rall/\nodes=nodes/\links=links/\words=words/\past=past/\m.set x (Dat.node [(m.getD x default).f 0,hole])++[Dat.node [.node [.int node,.int born],.node (sumsTo past node born x_1)]]=x_2))))))/\(mfind m (Dat.node [.int node,.int born])=none->I64 (↑(0:Nat):Int)->(decide ((↑(0:Nat):Int)=0)->True/\(I64
 node->(0<=node/\node<(past.length:Int))/\(I64 born->(0<=born/\born<(↑(past.getD node.toNat default).kids.length:Int))/\(∃x:Nat,(1<=x/\x<=(pastOf past node.toNat born.toNat).length+1)/\(pastOf past node.toNat born.toNat)=(pastOf past node.toNat
 born.toNat)/\nodes=nodes/\links=links/\words=words/\past=past/\node=node/\born=born/\num=num/\rows=rows/\kept=kept/\prs=prs/\lost=lost/\all=all/\kn=kn/\rall=rall/\(0:Int)=0/\(0:Int)=0/\(0:Int)=0/\node=node/\born=born/\m=m/\[Dat.node [.node [.node sumZero.rows],.node [.node sumZero.kept],.node [.node sumZero.prs,.int sumZero.lost,.int sumZero.all],.node [.node sumZero.kn,.int sumZero.rall]]]=sumsTo
 past node born x)/\∀x:Nat,1<=x/\x<=(pastOf past node.toNat born.toNat).length+1->I64 (↑(sumsTo past node born x).length:Int)->I64 num->(decide ((↑(sumsTo past node born x).length:Int)<=num)->I64 (↑(sumsTo past node born x).length:Int)->(0<=sI past node born x/\sI past node born x<(↑(sumsTo past node born x).length:Int))/\(sI past node born x).toNat<(sumsTo past node born x).length/\(0<=sI past
 node born x/\sI past node born x<(↑(pastOf past node.toNat born.toNat).length:Int))/\((sI past node born x).toNat<(sumsTo past node born x).length/\((((sE past node born x).f 0).f 0).kids=(((sE past node born x).f 0).f 0).kids/\(((sE past node born x).f 1).f 0).kids=(((sE past node born x).f 1).f 0).kids/\(((sE past node born x).f 2).f 0).kids=(((sE past node born x).f 2).f 0).kids/\(((sE past
 node born x).f 2).f 1).toInt=(((sE past node born x).f 2).f 1).toInt/\(((sE past node born x).f 2).f 2).toInt=(((sE past node born x).f 2).f 2).toInt/\(((sE past node born x).f 3).f 0).kids=(((sE past node born x).f 3).f 0).kids/\(((sE past node born x).f 3).f 1).toInt=(((sE past node born x).f 3).f 1).toInt)/\(0<=sI past node born x/\sI past node born x<(↑(sumsTo past node born
 x).length:Int))/\(sI past node born x).toNat=(sI past node born x).toNat/\(SumIn (sumD (sE past node born x))/\0<=((pastOf past node.toNat born.toNat).getD (sI past node born x).toNat default).toInt/\((pastOf past node.toNat born.toNat).getD (sI past node born x).toNat default).toInt<(64:Int)/\(((sE past node born x).f 2).f 2).toInt<(2000:Int))/\∀x_1:SumD,x_1=sumAdd (sumD (sE past node born x))
 ((pastOf past node.toNat born.toNat).getD (sI past node born x).toNat default).toInt->((sumsTo past node born x).length+1)*120<=140737488355328/\∃x_2:Nat,((1<=x_2/\x_2<=(pastOf past node.toNat born.toNat).length+1)/\(pastOf past node.toNat born.toNat).length+1-x_2<(pastOf past node.toNat born.toNat).length+1-x)/\(pastOf past node.toNat born.toNat)=(pastOf past node.toNat
 born.toNat)/\nodes=nodes/\links=links/\words=words/\past=past/\node=node/\born=born/\num=num/\rows=rows/\kept=kept/\prs=prs/\lost=lost/\all=all/\kn=kn/\rall=rall/\(0:Int)=0/\(0:Int)=0/\(0:Int)=0/\node=node/\born=born/\m=m/\sumsTo past node born x++[Dat.node [.node [.node x_1.rows],.node [.node x_1.kept],.node [.node x_1.prs,.int x_1.lost,.int x_1.all],.node [.node x_1.kn,.int x_1.rall]]]=sumsTo
 past node born x_2)/\(SumIn (sumD (sE past node born x))/\0<=((pastOf past node.toNat born.toNat).getD (sI past node born x).toNat default).toInt/\((pastOf past node.toNat born.toNat).getD (sI past node born x).toNat default).toInt<(64:Int)/\(((sE past node born x).f 2).f 2).toInt<(2000:Int))/\∀x_1:SumD,x_1=sumAdd (sumD (sE past node born x)) ((pastOf past node.toNat born.toNat).getD (sI past node
 born x).toNat default).toInt->((sumsTo past node born x).length+1)*120<=140737488355328/\∃x_2:Nat,((1<=x_2/\x_2<=(pastOf past node.toNat born.toNat).length+1)/\(pastOf past node.toNat born.toNat).length+1-x_2<(pastOf past node.toNat born.toNat).length+1-x)/\(pastOf past node.toNat born.toNat)=(pastOf past node.toNat
 born.toNat)/\nodes=nodes/\links=links/\words=words/\past=past/\node=node/\born=born/\num=num/\rows=rows/\kept=kept/\prs=prs/\lost=lost/\all=all/\kn=kn/\rall=rall/\(0:Int)=0/\(0:Int)=0/\(0:Int)=0/\node=node/\born=born/\m=m/\sumsTo past node born x++[Dat.node [.node [.node x_1.rows],.node [.node x_1.kept],.node [.node x_1.prs,.int x_1.lost,.int x_1.all],.node [.node x_1.kn,.int x_1.rall]]]=sumsTo
 past node born x_2)/\(decide ((↑(sumsTo past node born x).length:Int)<=num)=false->(∀x_1:Nat,mfind m (Dat.node [.int node,.int born])=some x_1->I64 num->((x_1<(m.set x_1 (Dat.node [.node [.int node,.int born],.node (sumsTo past node born x)])).length/\isN (((m.set x_1 (Dat.node [.node [.int node,.int born],.node (sumsTo past node born x)])).getD x_1 default).f 1)/\True)/\0<=num/\num<(↑(((m.set x_1
 (Dat.node [.node [.int node,.int born],.node (sumsTo past node born x)])).getD x_1 default).f 1).kids.length:Int))/\((x_1<(m.set x_1 (Dat.node [.node [.int node,.int born],.node (sumsTo past node born x)])).length/\isN (((m.set x_1 (Dat.node [.node [.int node,.int born],.node (sumsTo past node born x)])).getD x_1 default).f 1)/\True)/\num.toNat<(((m.set x_1 (Dat.node [.node [.int node,.int
 born],.node (sumsTo past node born x)])).getD x_1 default).f 1).kids.length)/\∃x_2:List Dat,MapIn past x_2/\((((((m.set x_1 (Dat.node [.node [.int node,.int born],.node (sumsTo past node born x)])).getD x_1 default).f 1).kids.getD num.toNat default).f 0).f 0).kids=(entSum past node born num).rows/\((((((m.set x_1 (Dat.node [.node [.int node,.int born],.node (sumsTo past node born x)])).getD x_1
 default).f 1).kids.getD num.toNat default).f 1).f 0).kids=(entSum past node born num).kept/\((((((m.set x_1 (Dat.node [.node [.int node,.int born],.node (sumsTo past node born x)])).getD x_1 default).f 1).kids.getD num.toNat default).f 2).f 0).kids=(entSum past node born num).prs/\((((((m.set x_1 (Dat.node [.node [.int node,.int born],.node (sumsTo past node born x)])).getD x_1 default).f
 1).kids.getD num.toNat default).f 2).f 1).toInt=(entSum past node born num).lost/\((((((m.set x_1 (Dat.node [.node [.int node,.int born],.node (sumsTo past node born x)])).getD x_1 default).f 1).kids.getD num.toNat default).f 2).f 2).toInt=(entSum past node born num).all/\((((((m.set x_1 (Dat.node [.node [.int node,.int born],.node (sumsTo past node born x)])).getD x_1 default).f 1).kids.getD
 num.toNat default).f 3).f 0).kids=(entSum past node born num).kn/\((((((m.set x_1 (Dat.node [.node [.int node,.int born],.node (sumsTo past node born x)])).getD x_1 default).f 1).kids.getD num.toNat default).f 3).f 1).toInt=(entSum past node born num).rall/\nodes=nodes/\links=links/\words=words/\past=past/\m.set x_1 (Dat.node [.node [.int node,.int born],.node (sumsTo past node born
 x)])=x_2)/\(mfind m (Dat.node [.int node,.int born])=none->I64 num->((m.length<(m++[Dat.node [.node [.int node,.int born],.node (sumsTo past node born x)]]).length/\isN (((m++[Dat.node [.node [.int node,.int born],.node (sumsTo past node born x)]]).getD m.length default).f 1)/\True)/\0<=num/\num<(↑(((m++[Dat.node [.node [.int node,.int born],.node (sumsTo past node born x)]]).getD m.length
 default).f 1).kids.length:Int))/\((m.length<(m++[Dat.node [.node [.int node,.int born],.node (sumsTo past node born x)]]).length/\isN (((m++[Dat.node [.node [.int node,.int born],.node (sumsTo past node born x)]]).getD m.length default).f 1)/\True)/\num.toNat<(((m++[Dat.node [.node [.int node,.int born],.node (sumsTo past node born x)]]).getD m.length default).f 1).kids.length)/\∃x_1:List
 Dat,MapIn past x_1/\((((((m++[Dat.node [.node [.int node,.int born],.node (sumsTo past node born x)]]).getD m.length default).f 1).kids.getD num.toNat default).f 0).f 0).kids=(entSum past node born num).rows/\((((((m++[Dat.node [.node [.int node,.int born],.node (sumsTo past node born x)]]).getD m.length default).f 1).kids.getD num.toNat default).f 1).f 0).kids=(entSum past node born
 num).kept/\((((((m++[Dat.node [.node [.int node,.int born],.node (sumsTo past node born x)]]).getD m.length default).f 1).kids.getD num.toNat default).f 2).f 0).kids=(entSum past node born num).prs/\((((((m++[Dat.node [.node [.int node,.int born],.node (sumsTo past node born x)]]).getD m.length default).f 1).kids.getD num.toNat default).f 2).f 1).toInt=(entSum past node born
 num).lost/\((((((m++[Dat.node [.node [.int node,.int born],.node (sumsTo past node born x)]]).getD m.length default).f 1).kids.getD num.toNat default).f 2).f 2).toInt=(entSum past node born num).all/\((((((m++[Dat.node [.node [.int node,.int born],.node (sumsTo past node born x)]]).getD m.length default).f 1).kids.getD num.toNat default).f 3).f 0).kids=(entSum past node born
 num).kn/\((((((m++[Dat.node [.node [.int node,.int born],.node (sumsTo past node born x)]]).getD m.length default).f 1).kids.getD num.toNat default).f 3).f 1).toInt=(entSum past node born num).rall/\nodes=nodes/\links=links/\words=words/\past=past/\m++[Dat.node [.node [.int node,.int born],.node (sumsTo past node born x)]]=x_1)))))/\(decide ((↑(0:Nat):Int)=0)=false->I64
 node->(0<=node/\node<(past.length:Int))/\(I64 born->(0<=born/\born<(↑(past.getD node.toNat default).kids.length:Int))/\(∃x:Nat,(1<=x/\x<=(pastOf past node.toNat born.toNat).length+1)/\(pastOf past node.toNat born.toNat)=(pastOf past node.toNat
 born.toNat)/\nodes=nodes/\links=links/\words=words/\past=past/\node=node/\born=born/\num=num/\rows=rows/\kept=kept/\prs=prs/\lost=lost/\all=all/\kn=kn/\rall=rall/\(0:Int)=0/\(0:Int)=0/\(0:Int)=0/\node=node/\born=born/\m=m/\[]=sumsTo past node born x)/\∀x:Nat,1<=x/\x<=(pastOf past node.toNat born.toNat).length+1->I64 (↑(sumsTo past node born x).length:Int)->I64 num->(decide ((↑(sumsTo past node
 born x).length:Int)<=num)->I64 (↑(sumsTo past node born x).length:Int)->(0<=sI past node born x/\sI past node born x<(↑(sumsTo past node born x).length:Int))/\(sI past node born x).toNat<(sumsTo past node born x).length/\(0<=sI past node born x/\sI past node born x<(↑(pastOf past node.toNat born.toNat).length:Int))/\((sI past node born x).toNat<(sumsTo past node born x).length/\((((sE past node
 born x).f 0).f 0).kids=(((sE past node born x).f 0).f 0).kids/\(((sE past node born x).f 1).f 0).kids=(((sE past node born x).f 1).f 0).kids/\(((sE past node born x).f 2).f 0).kids=(((sE past node born x).f 2).f 0).kids/\(((sE past node born x).f 2).f 1).toInt=(((sE past node born x).f 2).f 1).toInt/\(((sE past node born x).f 2).f 2).toInt=(((sE past node born x).f 2).f 2).toInt/\(((sE past node
 born x).f 3).f 0).kids=(((sE past node born x).f 3).f 0).kids/\(((sE past node born x).f 3).f 1).toInt=(((sE past node born x).f 3).f 1).toInt)/\(0<=sI past node born x/\sI past node born x<(↑(sumsTo past node born x).length:Int))/\(sI past node born x).toNat=(sI past node born x).toNat/\(SumIn (sumD (sE past node born x))/\0<=((pastOf past node.toNat born.toNat).getD (sI past node born x).toNat
 default).toInt/\((pastOf past node.toNat born.toNat).getD (sI past node born x).toNat default).toInt<(64:Int)/\(((sE past node born x).f 2).f 2).toInt<(2000:Int))/\∀x_1:SumD,x_1=sumAdd (sumD (sE past node born x)) ((pastOf past node.toNat born.toNat).getD (sI past node born x).toNat default).toInt->((sumsTo past node born x).length+1)*120<=140737488355328/\∃x_2:Nat,((1<=x_2/\x_2<=(pastOf past
 node.toNat born.toNat).length+1)/\(pastOf past node.toNat born.toNat).length+1-x_2<(pastOf past node.toNat born.toNat).length+1-x)/\(pastOf past node.toNat born.toNat)=(pastOf past node.toNat
 born.toNat)/\nodes=nodes/\links=links/\words=words/\past=past/\node=node/\born=born/\num=num/\rows=rows/\kept=kept/\prs=prs/\lost=lost/\all=all/\kn=kn/\rall=rall/\(0:Int)=0/\(0:Int)=0/\(0:Int)=0/\node=node/\born=born/\m=m/\sumsTo past node born x++[Dat.node [.node [.node x_1.rows],.node [.node x_1.kept],.node [.node x_1.prs,.int x_1.lost,.int x_1.all],.node [.node x_1.kn,.int x_1.rall]]]=sumsTo
 past node born x_2)/\(SumIn (sumD (sE past node born x))/\0<=((pastOf past node.toNat born.toNat).getD (sI past node born x).toNat default).toInt/\((pastOf past node.toNat born.toNat).getD (sI past node born x).toNat default).toInt<(64:Int)/\(((sE past node born x).f 2).f 2).toInt<(2000:Int))/\∀x_1:SumD,x_1=sumAdd (sumD (sE past node born x)) ((pastOf past node.toNat born.toNat).getD (sI past node
 born x).toNat default).toInt->((sumsTo past node born x).length+1)*120<=140737488355328/\∃x_2:Nat,((1<=x_2/\x_2<=(pastOf past node.toNat born.toNat).length+1)/\(pastOf past node.toNat born.toNat).length+1-x_2<(pastOf past node.toNat born.toNat).length+1-x)/\(pastOf past node.toNat born.toNat)=(pastOf past node.toNat
 born.toNat)/\nodes=nodes/\links=links/\words=words/\past=past/\node=node/\born=born/\num=num/\rows=rows/\kept=kept/\prs=prs/\lost=lost/\all=all/\kn=kn/\rall=rall/\(0:Int)=0/\(0:Int)=0/\(0:Int)=0/\node=node/\born=born/\m=m/\sumsTo past node born x++[Dat.node [.node [.node x_1.rows],.node [.node x_1.kept],.node [.node x_1.prs,.int x_1.lost,.int x_1.all],.node [.node x_1.kn,.int x_1.rall]]]=sumsTo
 past node born x_2)/\(decide ((↑(sumsTo past node born x).length:Int)<=num)=false->(∀x_1:Nat,mfind m (Dat.node [.int node,.int born])=some x_1->I64 num->((x_1<(m.set x_1 (Dat.node [.node [.int node,.int born],.node (sumsTo past node born x)])).length/\isN (((m.set x_1 (Dat.node [.node [.int node,.int born],.node (sumsTo past node born x)])).getD x_1 default).f 1)/\True)/\0<=num/\num<(↑(((m.set x_1
 (Dat.node [.node [.int node,.int born],.node (sumsTo past node born x)])).getD x_1 default).f 1).kids.length:Int))/\((x_1<(m.set x_1 (Dat.node [.node [.int node,.int born],.node (sumsTo past node born x)])).length/\isN (((m.set x_1 (Dat.node [.node [.int node,.int born],.node (sumsTo past node born x)])).getD x_1 default).f 1)/\True)/\num.toNat<(((m.set x_1 (Dat.node [.node [.int node,.int
 born],.node (sumsTo past node born x)])).getD x_1 default).f 1).kids.length)/\∃x_2:List Dat,MapIn past x_2/\((((((m.set x_1 (Dat.node [.node [.int node,.int born],.node (sumsTo past node born x)])).getD x_1 default).f 1).kids.getD num.toNat default).f 0).f 0).kids=(entSum past node born num).rows/\((((((m.set x_1 (Dat.node [.node [.int node,.int born],.node (sumsTo past node born x)])).getD x_1
 default).f 1).kids.getD num.toNat default).f 1).f 0).kids=(entSum past node born num).kept/\((((((m.set x_1 (Dat.node [.node [.int node,.int born],.node (sumsTo past node born x)])).getD x_1 default).f 1).kids.getD num.toNat default).f 2).f 0).kids=(entSum past node born num).prs/\((((((m.set x_1 (Dat.node [.node [.int node,.int born],.node (sumsTo past node born x)])).getD x_1 default).f
 1).kids.getD num.toNat default).f 2).f 1).toInt=(entSum past node born num).lost/\((((((m.set x_1 (Dat.node [.node [.int node,.int born],.node (sumsTo past node born x)])).getD x_1 default).f 1).kids.getD num.toNat default).f 2).f 2).toInt=(entSum past node born num).all/\((((((m.set x_1 (Dat.node [.node [.int node,.int born],.node (sumsTo past node born x)])).getD x_1 default).f 1).kids.getD
 num.toNat default).f 3).f 0).kids=(entSum past node born num).kn/\((((((m.set x_1 (Dat.node [.node [.int node,.int born],.node (sumsTo past node born x)])).getD x_1 default).f 1).kids.getD num.toNat default).f 3).f 1).toInt=(entSum past node born num).rall/\nodes=nodes/\links=links/\words=words/\past=past/\m.set x_1 (Dat.node [.node [.int node,.int born],.node (sumsTo past node born
 x)])=x_2)/\(mfind m (Dat.node [.int node,.int born])=none->I64 num->((m.length<(m++[Dat.node [.node [.int node,.int born],.node (sumsTo past node born x)]]).length/\isN (((m++[Dat.node [.node [.int node,.int born],.node (sumsTo past node born x)]]).getD m.length default).f 1)/\True)/\0<=num/\num<(↑(((m++[Dat.node [.node [.int node,.int born],.node (sumsTo past node born x)]]).getD m.length
 default).f 1).kids.length:Int))/\((m.length<(m++[Dat.node [.node [.int node,.int born],.node (sumsTo past node born x)]]).length/\isN (((m++[Dat.node [.node [.int node,.int born],.node (sumsTo past node born x)]]).getD m.length default).f 1)/\True)/\num.toNat<(((m++[Dat.node [.node [.int node,.int born],.node (sumsTo past node born x)]]).getD m.length default).f 1).kids.length)/\∃x_1:List
 Dat,MapIn past x_1/\((((((m++[Dat.node [.node [.int node,.int born],.node (sumsTo past node born x)]]).getD m.length default).f 1).kids.getD num.toNat default).f 0).f 0).kids=(entSum past node born num).rows/\((((((m++[Dat.node [.node [.int node,.int born],.node (sumsTo past node born x)]]).getD m.length default).f 1).kids.getD num.toNat default).f 1).f 0).kids=(entSum past node born
 num).kept/\((((((m++[Dat.node [.node [.int node,.int born],.node (sumsTo past node born x)]]).getD m.length default).f 1).kids.getD num.toNat default).f 2).f 0).kids=(entSum past node born num).prs/\((((((m++[Dat.node [.node [.int node,.int born],.node (sumsTo past node born x)]]).getD m.length default).f 1).kids.getD num.toNat default).f 2).f 1).toInt=(entSum past node born
 num).lost/\((((((m++[Dat.node [.node [.int node,.int born],.node (sumsTo past node born x)]]).getD m.length default).f 1).kids.getD num.toNat default).f 2).f 2).toInt=(entSum past node born num).all/\((((((m++[Dat.node [.node [.int node,.int born],.node (sumsTo past node born x)]]).getD m.length default).f 1).kids.getD num.toNat default).f 3).f 0).kids=(entSum past node born
 num).kn/\((((((m++[Dat.node [.node [.int node,.int born],.node (sumsTo past node born x)]]).getD m.length default).f 1).kids.getD num.toNat default).f 3).f 1).toInt=(entSum past node born num).rall/\nodes=nodes/\links=links/\words=words/\past=past/\m++[Dat.node [.node [.int node,.int born],.node (sumsTo past node born x)]]=x_1))))):=by
 intro _ _ _ _ _ _ _ _ _ _ _ _ _ hwp _ _;obtain⟨hnp,hm,n0,n4,b1,b2,k0,k1⟩:=hp;have hP:((past.getD node.toNat default).kids.getD born.toNat default).kids=pastOf past node.toNat born.toNat:=rfl;simp only[hP,sE,sI,sumD,sumsTo_length,decide_eq_true_eq,decide_eq_false_iff_not,true_and,and_true,eq_self];have hpl:past.length=5:=hnp.2.1;obtain⟨hkl,hth⟩:=hnp.things (a:=node.toNat) (b:=born.toNat) (by omega) (by omega);have hkl:born.toNat<(past.getD node.toNat default).kids.length:=hkl;have hnum:((num.toNat:Nat):Int)=num:=by omega
 have hlen:=hth.2;refine⟨fun i hi=>?_,fun hnone=>?_⟩
 · obtain⟨hil,hkey⟩:=mfind_lt hi;obtain⟨n,b,k,hik,hk1,hk2⟩:=hm i hil;rw[hik] at hkey ⊢;have hk:Dat.node [.int n,.int b]=Dat.node [.int node,.int born]:=hkey;simp at hk;obtain⟨rfl,rfl⟩:=hk;have ef1:(Dat.node [Dat.node [Dat.int n,Dat.int b],Dat.node (sumsTo past n b k)]).f 1=.node (sumsTo past n b k):=rfl;have ef0:(Dat.node [Dat.node [Dat.int n,Dat.int b],Dat.node (sumsTo past n b k)]).f 0=.node [.int n,.int b]:=rfl;have ek:(Dat.node (sumsTo past n b k)).kids=sumsTo past n b k:=rfl;simp only[ef1,ef0,ek,sumsTo_length];refine⟨sumsTo_there past n b k,fun _=>⟨fun h0=>by omega,fun _=>fun _=>⟨by omega,fun _=>⟨by omega,⟨k,⟨hk1,hk2⟩,rfl⟩,fun x hx _ _=>⟨fun hle=>?_,fun hgt=>?_⟩⟩⟩⟩⟩
   · (
 intro _;rw[wrap_ok (n:=(x:Int)-1) (by omega) (by omega)];have hx1:((x:Int)-1).toNat=x-1:=by omega
 rw[hx1];rw[sumsTo_get (show x-1<x by omega)];obtain⟨s1,s2⟩:=ent_in (n:=n) (b:=b) hth (k:=x-1) (by omega);have hv:=hth.1 (x-1) (by omega);have hn:=ent_next (past:=past) (n:=n) (b:=b) (k:=x-1) (by omega);rw[show x-1+1=x by omega] at hn;simp only[iv] at hv hn;refine⟨by omega,by omega,by omega,⟨by omega,by omega,⟨s1,hv.1,by omega,?_⟩,fun y hy=>?_⟩,⟨s1,hv.1,by omega,?_⟩,fun y hy=>?_⟩
 all_goals first | exact Int.lt_of_le_of_lt (Int.le_of_eq s2) (by omega) | (subst hy;refine⟨by omega,x+1,by omega,?_⟩;rw[sumsTo_next,hn];rfl))
   · have hset:=mfind_set (d:=.node [.node [.int n,.int b],hole]) hi rfl;rw[hset];refine⟨fun j hj _=>?_,fun hj=>(by cases hj)⟩;cases hj;have hget:((m.set i (Dat.node [.node [.int n,.int b],hole])).set i (Dat.node [.node [.int n,.int b],.node (sumsTo past n b x)])).getD i default=.node [.node [.int n,.int b],.node (sumsTo past n b x)]:=by
       rw[List.getD_eq_getElem?_getD,List.getElem?_set];simp [hil]
     have hlen2:((m.set i (Dat.node [.node [.int n,.int b],hole])).set i (Dat.node [.node [.int n,.int b],.node (sumsTo past n b x)])).length=m.length:=by simp
     rw[hget,hlen2]
     (
 refine⟨⟨⟨by omega,sumsTo_there _ _ _ _⟩,by omega,?_⟩,⟨⟨by omega,sumsTo_there _ _ _ _⟩,?_⟩,?_⟩
 · show num<((sumsTo past _ _ x).length:Int);rw[sumsTo_length];omega
 · show num.toNat<(sumsTo past _ _ x).length;rw[sumsTo_length];omega
 have hg:=sumsTo_get (past:=past) (n:=n) (b:=b) (show num.toNat<x by omega);rw[hnum] at hg;have ek2:((Dat.node [Dat.node [Dat.int n,Dat.int b],Dat.node (sumsTo past n b x)]).f 1).kids=sumsTo past n b x:=rfl;simp only[ek2,hg])
     refine⟨_,fun j hj=>?_,rfl,rfl,rfl,rfl,rfl,rfl,rfl,rfl⟩;rw[hlen2] at hj;by_cases e:j=i
     · subst e;exact⟨n,b,x,hget,hx.1,hx.2⟩
     · obtain⟨n',b',k',h1,h2⟩:=hm j hj;refine⟨n',b',k',?_,h2⟩;rw[<- h1];simp only[List.getD_eq_getElem?_getD,List.getElem?_set,if_neg (Ne.symm e)]
 · refine fun _=>⟨fun _ _=>⟨by omega,fun _=>⟨by omega,⟨1,⟨Nat.le_refl _,by omega⟩,rfl⟩,fun x hx _ _=>⟨fun hle=>?_,fun hgt=>?_⟩⟩⟩,fun h=>absurd rfl h⟩
   · (
 intro _;rw[wrap_ok (n:=(x:Int)-1) (by omega) (by omega)];have hx1:((x:Int)-1).toNat=x-1:=by omega
 rw[hx1];rw[sumsTo_get (show x-1<x by omega)];obtain⟨s1,s2⟩:=ent_in (n:=node) (b:=born) hth (k:=x-1) (by omega);have hv:=hth.1 (x-1) (by omega);have hn:=ent_next (past:=past) (n:=node) (b:=born) (k:=x-1) (by omega);rw[show x-1+1=x by omega] at hn;simp only[iv] at hv hn;refine⟨by omega,by omega,by omega,⟨by omega,by omega,⟨s1,hv.1,by omega,?_⟩,fun y hy=>?_⟩,⟨s1,hv.1,by omega,?_⟩,fun y hy=>?_⟩
 all_goals first | exact Int.lt_of_le_of_lt (Int.le_of_eq s2) (by omega) | (subst hy;refine⟨by omega,x+1,by omega,?_⟩;rw[sumsTo_next,hn];rfl))
   · rw[hnone];refine⟨fun j hj=>(by cases hj),fun _ _=>?_⟩;have hget:(m++[Dat.node [.node [.int node,.int born],.node (sumsTo past node born x)]]).getD m.length default=.node [.node [.int node,.int born],.node (sumsTo past node born x)]:=by
       rw[List.getD_eq_getElem?_getD,List.getElem?_append_right (Nat.le_refl _)];simp
     have hlen2:(m++[Dat.node [.node [.int node,.int born],.node (sumsTo past node born x)]]).length=m.length+1:=by simp
     rw[hget,hlen2]
     (
 refine⟨⟨⟨by omega,sumsTo_there _ _ _ _⟩,by omega,?_⟩,⟨⟨by omega,sumsTo_there _ _ _ _⟩,?_⟩,?_⟩
 · show num<((sumsTo past _ _ x).length:Int);rw[sumsTo_length];omega
 · show num.toNat<(sumsTo past _ _ x).length;rw[sumsTo_length];omega
 have hg:=sumsTo_get (past:=past) (n:=node) (b:=born) (show num.toNat<x by omega);rw[hnum] at hg;have ek2:((Dat.node [Dat.node [Dat.int node,Dat.int born],Dat.node (sumsTo past node born x)]).f 1).kids=sumsTo past node born x:=rfl;simp only[ek2,hg])
     refine⟨_,fun j hj=>?_,rfl,rfl,rfl,rfl,rfl,rfl,rfl,rfl⟩;rw[hlen2] at hj;by_cases e:j=m.length
     · subst e;exact⟨node,born,x,hget,hx.1,hx.2⟩
     · obtain⟨n',b',k',h1,h2⟩:=hm j (by omega);refine⟨n',b',k',?_,h2⟩;rw[<- h1];simp only[List.getD_eq_getElem?_getD];rw[List.getElem?_append_left (by omega)]
def iSumOf_get:List SV->St->Option (Prop×(List Dat->Prop×SV×St))
 | [.bp 0 0,.agg [.int .i64 node,.int .i64 born,.int .i64 num,.sl (.sl (.int .i64)) _,.sl (.int .i64) _,.sl ty0 _,.int .i64 _,.int .i64 _,.sl ty1 _,.int .i64 _]],⟨[],[(153,[.sl ty2 nodes,.sl .bool links,.sl ty3 words,.sl (.sl (.sl (.int .i64))) past,.own 0])],[⟨151,.mp ty4 (.ho 44 (.im ty5)),m,0,true⟩]⟩=>guardTy ty0 TPr (guardTy ty1 TPr (guardTy ty2 TNode (guardTy ty3 TWord (guardTy ty4 TPr (guardTy ty5 TSum (some (NetPast nodes past/\MapIn past m/\0<=node/\node<=4/\1<=born/\born<=bornOf nodes node.toNat/\0<=num/\num<=((pastOf past node.toNat born.toNat).length:Int),(fun g=>(MapIn past g,.agg [.sl (.sl (.int .i64)) (entSum past node born num).rows,.sl (.int .i64) (entSum past node born num).kept,.sl TPr (entSum past node born num).prs,.int .i64 (entSum past node born num).lost,.int .i64 (entSum past node born num).all,.sl TPr (entSum past node born num).kn,.int .i64 (entSum past node born num).rall],St.mk [] [(153,[.sl TNode nodes,.sl .bool links,.sl TWord words,.sl (.sl (.sl (.int .i64))) past,.own 0])] [⟨151,.mp TPr (.ho 44 (.im TSum)),g,0,true⟩]):List Dat->Prop×SV×St))))))))
 | _,_=>none
theorem iSumOf_ok:OkG prog 185 (List Dat) iSumOf_get:=by
 intro _ _ _ _ h hp;unfold iSumOf_get at h;split at h
 · rename_i node born num rows kept _ prs lost all _ kn rall _ nodes links _ words past _ _ m;replace h:=gT4 h;obtain⟨rfl,rfl,rfl,rfl,h⟩:=h;replace h:=gT2 h;obtain⟨rfl,rfl,h⟩:=h;cases h;refine gl [iSumNew_con,iSumCounted_con] (fun k=>bif Nat.beq k 6 then some (.g (⟨Nat,fun s g=>hdb s [0,3,4,5,7] [(6,.own 1)] s.bx [rwE s 0,⟨44,.im TSum,sumsTo past node born g,0,true⟩],fun _ g=>1<=g/\g<=(pastOf past node.toNat born.toNat).length+1,fun g=>(pastOf past node.toNat born.toNat).length+1-g⟩)) else none) func185 ?_;apply VC.thru (iSumOf_vc nodes links words past m node born num rows kept prs kn lost all rall hp);kernel_rfl
 · cases h
def iSumOf_con:Con prog:=.fg 185 [.lend,.d] false (List Dat) iSumOf_get (en func185 rfl) iSumOf_ok
def CanS (x:SumD):Prop:=x.rows=(rws x.rows).map (fun r=>.node (dInts r))/\x.kept=dInts (ints x.kept)/\x.prs=dPrs (E.prs x.prs)/\x.kn=dPrs (E.prs x.kn)
theorem can_rows {l:List Dat} (h:∀d∈l,d=.node (dInts (ints d.kids))):l=(rws l).map (fun r=>.node (dInts r)):=by
 unfold rws;rw[List.map_map]
 induction l with
 | nil=>rfl
 | cons d l ih=>
   rw[List.map_cons,<- ih (fun e he=>h e (List.mem_cons_of_mem _ he))]
   congr 1
   exact h d (List.mem_cons_self ..)
theorem can_tab (f:Nat->Nat->Int):tab 3 (fun i=>.node (tab 8 fun k=>.int (f i k)))=(rws (tab 3 fun i=>.node (tab 8 fun k=>.int (f i k)))).map (fun r=>.node (dInts r)):=by
 refine can_rows fun d hd=>?_
 obtain⟨i,_,rfl⟩:=List.mem_map.1 hd;simp [Dat.kids,tab,ints,dInts,Dat.toInt]
theorem can_add (x:SumD) (t:Int):CanS (sumAdd x t):=⟨can_tab (fun i k=>iv (kv x.rows i) k+if (k:Int)=place i t then 1 else 0),by simp only[sumAdd];rw[ints_dInts],by simp only[sumAdd];rw[prs_dPrs],by simp only[sumAdd];rw[prs_dPrs]⟩
theorem can_zero:CanS sumZero:=⟨can_tab (fun _ _=>0),rfl,rfl,rfl⟩
theorem can_sum (l:List Int):CanS (sumOf l):=by
 have:∀(l:List Int) (x:SumD),CanS x->CanS (l.foldl sumAdd x):=by
   intro l
   induction l with
   | nil=>intro x h;exact h
   | cons t l ih=>intro x _;exact ih _ (can_add x t)
 exact this l _ can_zero
theorem same_can {x y:SumD} (hx:CanS x) (hy:CanS y):SameS x y ↔ y.rows=x.rows/\y.kept=x.kept/\y.prs=x.prs/\y.lost=x.lost/\y.all=x.all/\y.kn=x.kn/\y.rall=x.rall:=by
 constructor
 · rintro⟨h1,h2,h3,h4,h5,h6,h7⟩;exact⟨by rw[hx.1,hy.1,h1],by rw[hx.2.1,hy.2.1,h2],by rw[hx.2.2.1,hy.2.2.1,h3],h4.symm,h5.symm,by rw[hx.2.2.2,hy.2.2.2,h6],h7.symm⟩
 · rintro⟨h1,h2,h3,h4,h5,h6,h7⟩;exact⟨by rw[h1],by rw[h2],by rw[h3],h4.symm,h5.symm,by rw[h6],h7.symm⟩
theorem can_wf {d:Dat} (h:WF (.st [.int .i64,.int .i64,.int .i64,(.st [.st [.sl (.sl (.int .i64))],.st [.sl (.int .i64)],.st [.sl (.st [.int .i64,.int .i64]),.int .i64,.int .i64],.st [.sl (.st [.int .i64,.int .i64]),.int .i64]])]) d):CanS (sumD (d.f 3)):=by
 obtain⟨_,rfl,_,_,rfl,⟨_,rfl,_⟩,_,_,rfl,⟨_,rfl,_⟩,_,_,rfl,⟨_,rfl,_⟩,_,_,rfl,⟨_,rfl,_,_,rfl,⟨_,rfl,_,_,rfl,hr,rfl⟩,_,_,rfl,⟨_,rfl,_,_,rfl,hk,rfl⟩,_,_,rfl,⟨_,rfl,_,_,rfl,hp,_,_,rfl,⟨_,rfl,_⟩,_,_,rfl,⟨_,rfl,_⟩,rfl⟩,_,_,rfl,⟨_,rfl,_,_,rfl,hn,_,_,rfl,⟨_,rfl,_⟩,rfl⟩,rfl⟩,rfl⟩:=h;obtain⟨rows,rfl,_,hr⟩:=hr;obtain⟨kept,rfl,hk⟩:=hk;obtain⟨prs,rfl,hp⟩:=hp;obtain⟨kn,rfl,hn⟩:=hn;refine⟨can_rows fun e he=>?_,wfl_dInts hk,(dPrs_prs hp).symm,(dPrs_prs hn).symm⟩;obtain⟨ds,rfl,hds⟩:=hr e he;exact congrArg Dat.node (wfl_dInts hds)
theorem iEntriesOk_vc (nodes links words past m l:List Dat) (hp:NetPast nodes past/\MapIn past m) :
 WFl TEnt l->WFl TNode nodes->WFl Ty.bool links->WFl TWord words->WFl (Ty.int i64).sl.sl past->I64 (l.length:Int)->(∃(x:Nat×List Dat),(x.fst<=l.length/\KnownTo nodes past l x.fst/\MapIn past x.snd)/\((-1:Int)=if x.fst=0 then (-1:Int) else fv l (x.fst-1) 0)/\l=l/\(l.length:Int)=(l.length:Int)/\0=(x.fst:Int)/\nodes=nodes/\links=links/\words=words/\past=past/\m=x.snd)/\∀(x:Nat×List
 Dat),x.fst<=l.length/\KnownTo nodes past l x.fst/\MapIn past x.snd->(decide ((x.fst:Int)<(l.length:Int))->(0<=(x.fst:Int)/\(x.fst:Int)<(l.length:Int))/\(decide (((l.getD x.fst default).f 0).toInt<=if x.fst=0 then (-1:Int) else fv l (x.fst-1) 0)->∃x_1:List Dat,MapIn past x_1/\dec (KnownTo nodes past l l.length)=false/\nodes=nodes/\links=links/\words=words/\past=past/\x.snd=x_1)/\(decide (((l.getD
 x.fst default).f 0).toInt<=if x.fst=0 then (-1:Int) else fv l (x.fst-1) 0)=false->NetPast nodes past/\((!dec (0<=((l.getD x.fst default).f 0).toInt/\((l.getD x.fst default).f 0).toInt<=(4:Int)/\1<=((l.getD x.fst default).f 1).toInt/\((l.getD x.fst default).f 1).toInt<=bornOf nodes ((l.getD x.fst default).f 0).toInt.toNat/\0<=((l.getD x.fst default).f 2).toInt/\((l.getD x.fst default).f
 2).toInt<=(↑(pastOf past ((l.getD x.fst default).f 0).toInt.toNat ((l.getD x.fst default).f 1).toInt.toNat).length:Int)))=true->∃x_1:List Dat,MapIn past x_1/\dec (KnownTo nodes past l l.length)=false/\nodes=nodes/\links=links/\words=words/\past=past/\x.snd=x_1)/\((!dec (0<=((l.getD x.fst default).f 0).toInt/\((l.getD x.fst default).f 0).toInt<=(4:Int)/\1<=((l.getD x.fst default).f
 1).toInt/\((l.getD x.fst default).f 1).toInt<=bornOf nodes ((l.getD x.fst default).f 0).toInt.toNat/\0<=((l.getD x.fst default).f 2).toInt/\((l.getD x.fst default).f 2).toInt<=(↑(pastOf past ((l.getD x.fst default).f 0).toInt.toNat ((l.getD x.fst default).f 1).toInt.toNat).length:Int)))=false->(NetPast nodes past/\MapIn past x.snd/\0<=((l.getD x.fst default).f 0).toInt/\((l.getD x.fst default).f
 0).toInt<=(4:Int)/\1<=((l.getD x.fst default).f 1).toInt/\((l.getD x.fst default).f 1).toInt<=bornOf nodes ((l.getD x.fst default).f 0).toInt.toNat/\0<=((l.getD x.fst default).f 2).toInt/\((l.getD x.fst default).f 2).toInt<=(↑(pastOf past ((l.getD x.fst default).f 0).toInt.toNat ((l.getD x.fst default).f 1).toInt.toNat).length:Int))/\∀x_1:List Dat,MapIn past x_1->(((((l.getD x.fst default).f 3).f
 0).f 0).kids=((((l.getD x.fst default).f 3).f 0).f 0).kids/\((((l.getD x.fst default).f 3).f 1).f 0).kids=((((l.getD x.fst default).f 3).f 1).f 0).kids/\((((l.getD x.fst default).f 3).f 2).f 0).kids=((((l.getD x.fst default).f 3).f 2).f 0).kids/\((((l.getD x.fst default).f 3).f 2).f 1).toInt=((((l.getD x.fst default).f 3).f 2).f 1).toInt/\((((l.getD x.fst default).f 3).f 2).f 2).toInt=((((l.getD
 x.fst default).f 3).f 2).f 2).toInt/\((((l.getD x.fst default).f 3).f 3).f 0).kids=((((l.getD x.fst default).f 3).f 3).f 0).kids/\((((l.getD x.fst default).f 3).f 3).f 1).toInt=((((l.getD x.fst default).f 3).f 3).f 1).toInt)/\True/\((!dec (((((l.getD x.fst default).f 3).f 0).f 0).kids=(entSum past ((l.getD x.fst default).f 0).toInt ((l.getD x.fst default).f 1).toInt ((l.getD x.fst default).f
 2).toInt).rows/\((((l.getD x.fst default).f 3).f 1).f 0).kids=(entSum past ((l.getD x.fst default).f 0).toInt ((l.getD x.fst default).f 1).toInt ((l.getD x.fst default).f 2).toInt).kept/\((((l.getD x.fst default).f 3).f 2).f 0).kids=(entSum past ((l.getD x.fst default).f 0).toInt ((l.getD x.fst default).f 1).toInt ((l.getD x.fst default).f 2).toInt).prs/\((((l.getD x.fst default).f 3).f 2).f
 1).toInt=(entSum past ((l.getD x.fst default).f 0).toInt ((l.getD x.fst default).f 1).toInt ((l.getD x.fst default).f 2).toInt).lost/\((((l.getD x.fst default).f 3).f 2).f 2).toInt=(entSum past ((l.getD x.fst default).f 0).toInt ((l.getD x.fst default).f 1).toInt ((l.getD x.fst default).f 2).toInt).all/\((((l.getD x.fst default).f 3).f 3).f 0).kids=(entSum past ((l.getD x.fst default).f 0).toInt
 ((l.getD x.fst default).f 1).toInt ((l.getD x.fst default).f 2).toInt).kn/\((((l.getD x.fst default).f 3).f 3).f 1).toInt=(entSum past ((l.getD x.fst default).f 0).toInt ((l.getD x.fst default).f 1).toInt ((l.getD x.fst default).f 2).toInt).rall))=true->∃x:List Dat,MapIn past x/\dec (KnownTo nodes past l l.length)=false/\nodes=nodes/\links=links/\words=words/\past=past/\x_1=x)/\((!dec (((((l.getD
 x.fst default).f 3).f 0).f 0).kids=(entSum past ((l.getD x.fst default).f 0).toInt ((l.getD x.fst default).f 1).toInt ((l.getD x.fst default).f 2).toInt).rows/\((((l.getD x.fst default).f 3).f 1).f 0).kids=(entSum past ((l.getD x.fst default).f 0).toInt ((l.getD x.fst default).f 1).toInt ((l.getD x.fst default).f 2).toInt).kept/\((((l.getD x.fst default).f 3).f 2).f 0).kids=(entSum past ((l.getD
 x.fst default).f 0).toInt ((l.getD x.fst default).f 1).toInt ((l.getD x.fst default).f 2).toInt).prs/\((((l.getD x.fst default).f 3).f 2).f 1).toInt=(entSum past ((l.getD x.fst default).f 0).toInt ((l.getD x.fst default).f 1).toInt ((l.getD x.fst default).f 2).toInt).lost/\((((l.getD x.fst default).f 3).f 2).f 2).toInt=(entSum past ((l.getD x.fst default).f 0).toInt ((l.getD x.fst default).f
 1).toInt ((l.getD x.fst default).f 2).toInt).all/\((((l.getD x.fst default).f 3).f 3).f 0).kids=(entSum past ((l.getD x.fst default).f 0).toInt ((l.getD x.fst default).f 1).toInt ((l.getD x.fst default).f 2).toInt).kn/\((((l.getD x.fst default).f 3).f 3).f 1).toInt=(entSum past ((l.getD x.fst default).f 0).toInt ((l.getD x.fst default).f 1).toInt ((l.getD x.fst default).f
 2).toInt).rall))=false->I64 ((l.getD x.fst default).f 0).toInt->∃(x_2:Nat×List Dat),((x_2.fst<=l.length/\KnownTo nodes past l x_2.fst/\MapIn past x_2.snd)/\l.length-x_2.fst<l.length-x.fst)/\(((l.getD x.fst default).f 0).toInt=if x_2.fst=0 then (-1:Int) else fv l (x_2.fst-1) 0)/\l=l/\(l.length:Int)=(l.length:Int)/\i64.wrap
 ((x.fst:Int)+1)=(x_2.fst:Int)/\nodes=nodes/\links=links/\words=words/\past=past/\x_1=x_2.snd))))/\(decide ((x.fst:Int)<(l.length:Int))=false->∃x_1:List Dat,MapIn past x_1/\dec (KnownTo nodes past l l.length)=true/\nodes=nodes/\links=links/\words=words/\past=past/\x.snd=x_1):=by
 intro hwl _ _ _ _ _;simp only[iv,kv,fv,nm];obtain⟨hnp,hm⟩:=hp;have hl:=hwl.1;refine⟨⟨(0,m),⟨by simp only;omega,fun i hi=>by simp only at hi;omega,hm⟩,rfl,rfl,rfl⟩,fun x hx=>⟨fun hlt=>?_,fun hge=>⟨x.2,hx.2.2,?_,rfl⟩⟩⟩
 · obtain⟨i,m1⟩:=x;simp only at hx hlt ⊢;have hi:i<l.length:=by omega
   have hcan:=same_can (can_sum (ints ((pastOf past (fv l i 0).toNat (fv l i 1).toNat).take (fv l i 2).toNat))) (can_wf (wfl_get hwl hi));have hbef:(if i=0 then -1 else fv l (i-1) 0)<fv l i 0 ↔ (0<=fv l i 0->0<i->fv l (i-1) 0<fv l i 0)/\(i=0->0<=fv l i 0)/\(0<i->fv l (i-1) 0<fv l i 0):=by
     by_cases h0:i=0
     · rw[if_pos h0];omega
     · rw[if_neg h0];omega
   have hno:¬(EntInD nodes past (l.getD i default)/\(0<i->fv l (i-1) 0<fv l i 0))->¬KnownTo nodes past l l.length:=fun h hk=>h (hk i hi)
   refine⟨by omega,fun h1=>⟨m1,hx.2.2,hno ?_,rfl⟩,fun h1=>⟨hnp,fun h2=>⟨m1,hx.2.2,hno ?_,rfl⟩,fun h2=>⟨⟨hnp,hx.2.2,h2⟩,fun m2 hm2=>⟨fun h3=>⟨m2,hm2,hno ?_,rfl⟩,fun h3 _=>⟨(i+1,m2),⟨⟨by simp only;omega,?_,hm2⟩,by simp only;omega⟩,?_,up_ok (n:=l.length) hi (by omega),rfl⟩⟩⟩⟩⟩
   · rintro⟨he,hb⟩;have h0:0<=fv l i 0:=he.1;simp only[fv] at h0 hb h1;by_cases e:i=0
     · rw[if_pos e] at h1;omega
     · rw[if_neg e] at h1
       have:=hb (by omega);omega
   · rintro⟨he,_⟩;exact h2 ⟨he.1,he.2.1,he.2.2.1,he.2.2.2.1,he.2.2.2.2.1,he.2.2.2.2.2.1⟩
   · rintro⟨he,_⟩;exact h3 (hcan.1 he.2.2.2.2.2.2)
   · intro j hj;simp only at hj;rcases Nat.lt_or_ge j i with h4 | h4
     · exact hx.2.1 j h4
     · rw[show j=i by omega];refine⟨⟨h2.1,h2.2.1,h2.2.2.1,h2.2.2.2.1,h2.2.2.2.2.1,h2.2.2.2.2.2,hcan.2 h3⟩,fun h0=>?_⟩;rw[if_neg (by omega)] at h1;simp only[fv] at h1 ⊢;omega
   · simp only;rw[if_neg (by omega)];rfl
 · have:x.1=l.length:=by omega
   rw[<- this];exact hx.2.1
def iEntriesOk_get:List SV->St->Option (Prop×(List Dat->Prop×SV×St))
 | [.bp 0 0,.sl ty0 l],⟨[],[(153,[.sl ty1 nodes,.sl .bool links,.sl ty2 words,.sl (.sl (.sl (.int .i64))) past,.own 0])],[⟨151,.mp ty3 (.ho 44 (.im ty4)),m,0,true⟩]⟩=>guardTy ty0 TEnt (guardTy ty1 TNode (guardTy ty2 TWord (guardTy ty3 TPr (guardTy ty4 TSum (some (NetPast nodes past/\MapIn past m,(fun g=>(MapIn past g,.bool (dec (KnownTo nodes past l l.length)),St.mk [] [(153,[.sl TNode nodes,.sl .bool links,.sl TWord words,.sl (.sl (.sl (.int .i64))) past,.own 0])] [⟨151,.mp TPr (.ho 44 (.im TSum)),g,0,true⟩]):List Dat->Prop×SV×St)))))))
 | _,_=>none
theorem iEntriesOk_ok:OkG prog 157 (List Dat) iEntriesOk_get:=by
 intro _ _ _ _ h hp;unfold iEntriesOk_get at h;split at h
 · rename_i l _ nodes links _ words past _ _ m;replace h:=gT4 h;obtain⟨rfl,rfl,rfl,rfl,h⟩:=h;replace h:=gT h;obtain⟨rfl,h⟩:=h;cases h;refine gl [iCounted_con,iSameSum_con,iSumOf_con] (fun k=>bif Nat.beq k 3 then some (.g (⟨Nat×List Dat,fun s g=>hdb s [0,8,9] [(5,.int .i64 (if g.1=0 then -1 else fv l (g.1-1) 0)),(10,.int .i64 g.1)] s.bx [⟨151,.mp TPr (.ho 44 (.im TSum)),g.2,0,true⟩],fun _ g=>g.1<=l.length/\KnownTo nodes past l g.1/\MapIn past g.2,fun g=>l.length-g.1⟩)) else none) func157 ?_;apply VC.thru (iEntriesOk_vc nodes links words past m l hp);kernel_rfl
 · cases h
def iEntriesOk_con:Con prog:=.fg 157 [.lend,.d] false (List Dat) iEntriesOk_get (en func157 rfl) iEntriesOk_ok
def TreeIn (nodes:List Dat) (a:Nat):Prop:=if a=0 then fv nodes a 3=0/\fv nodes a 4=-1/\0<=fv nodes a 2/\fv nodes a 2<=1000 else 0<=fv nodes a 2/\fv nodes a 2<=fv nodes 0 2/\1<=fv nodes a 3/\fv nodes a 3<=5/\(fv nodes a 4=-1 ↔ fv nodes a 3=5)/\-1<=fv nodes a 4/\fv nodes a 4<=4/\fv nodes a 4≠a
def OwnIn (nodes past:List Dat) (a:Nat):Prop:=KnownTo nodes past (knownOf nodes a) (knownOf nodes a).length/\(ownAt (knownOf nodes a) a).isSome=true/\((ownOf nodes a).f 1).toInt=bornOf nodes a/\((ownOf nodes a).f 2).toInt=((pastOf past a (bornOf nodes a).toNat).length:Int)
theorem iTreeOk_vc (nodes links words past m:List Dat) (i:Int) (hp:NetPast nodes past/\0<=i/\i<5) :
 I64 i->WFl TNode nodes->WFl Ty.bool links->WFl TWord words->WFl (Ty.int i64).sl.sl past->(0<=(0:Int)/\0<(nodes.length:Int))/\(0<=i/\i<(nodes.length:Int))/\(nodes=nodes/\nodes=nodes/\nodes=nodes/\nodes=nodes/\nodes=nodes/\(decide (i=0)->(decide (((nodes.getD i.toNat default).f 3).toInt=(0:Int))&&(decide (((nodes.getD i.toNat default).f 4).toInt=(-1:Int))&&(decide (((nodes.getD i.toNat default).f
 2).toInt>=(0:Int))&&decide (((nodes.getD i.toNat default).f 2).toInt<=(1000:Int)))))=dec (TreeIn nodes i.toNat)/\nodes=nodes/\links=links/\words=words/\past=past/\m=m)/\(decide (i=0)=false->((decide (((nodes.getD i.toNat default).f 2).toInt<(0:Int))||(decide (((nodes.getD i.toNat default).f 2).toInt > ((nodes.getD 0 default).f 2).toInt)||(decide (((nodes.getD i.toNat default).f
 3).toInt<(1:Int))||decide (((nodes.getD i.toNat default).f 3).toInt > (5:Int)))))=true->dec (TreeIn nodes i.toNat)=false/\nodes=nodes/\links=links/\words=words/\past=past/\m=m)/\((decide (((nodes.getD i.toNat default).f 2).toInt<(0:Int))||(decide (((nodes.getD i.toNat default).f 2).toInt > ((nodes.getD 0 default).f 2).toInt)||(decide (((nodes.getD i.toNat default).f 3).toInt<(1:Int))||decide
 (((nodes.getD i.toNat default).f 3).toInt > (5:Int)))))=false->I64 ((nodes.getD i.toNat default).f 3).toInt->(decide (((nodes.getD i.toNat default).f 3).toInt=(5:Int))->I64 ((nodes.getD i.toNat default).f 4).toInt->decide (((nodes.getD i.toNat default).f 4).toInt=(-1:Int))=dec (TreeIn nodes i.toNat)/\nodes=nodes/\links=links/\words=words/\past=past/\m=m)/\(decide (((nodes.getD i.toNat default).f
 3).toInt=(5:Int))=false->(I64 ((nodes.getD i.toNat default).f 4).toInt->True)/\(dec (0<=((nodes.getD i.toNat default).f 4).toInt/\((nodes.getD i.toNat default).f 4).toInt<(5:Int))&&decide (((nodes.getD i.toNat default).f 4).toInt≠i))=dec (TreeIn nodes i.toNat)/\nodes=nodes/\links=links/\words=words/\past=past/\m=m))))/\nodes=nodes/\nodes=nodes/\nodes=nodes/\nodes=nodes/\nodes=nodes/\(decide
 (i=0)->(decide (((nodes.getD i.toNat default).f 3).toInt=(0:Int))&&(decide (((nodes.getD i.toNat default).f 4).toInt=(-1:Int))&&(decide (((nodes.getD i.toNat default).f 2).toInt>=(0:Int))&&decide (((nodes.getD i.toNat default).f 2).toInt<=(1000:Int)))))=dec (TreeIn nodes i.toNat)/\nodes=nodes/\links=links/\words=words/\past=past/\m=m)/\(decide (i=0)=false->((decide (((nodes.getD i.toNat default).f
 2).toInt<(0:Int))||(decide (((nodes.getD i.toNat default).f 2).toInt > ((nodes.getD 0 default).f 2).toInt)||(decide (((nodes.getD i.toNat default).f 3).toInt<(1:Int))||decide (((nodes.getD i.toNat default).f 3).toInt > (5:Int)))))=true->dec (TreeIn nodes i.toNat)=false/\nodes=nodes/\links=links/\words=words/\past=past/\m=m)/\((decide (((nodes.getD i.toNat default).f 2).toInt<(0:Int))||(decide
 (((nodes.getD i.toNat default).f 2).toInt > ((nodes.getD 0 default).f 2).toInt)||(decide (((nodes.getD i.toNat default).f 3).toInt<(1:Int))||decide (((nodes.getD i.toNat default).f 3).toInt > (5:Int)))))=false->I64 ((nodes.getD i.toNat default).f 3).toInt->(decide (((nodes.getD i.toNat default).f 3).toInt=(5:Int))->I64 ((nodes.getD i.toNat default).f 4).toInt->decide (((nodes.getD i.toNat
 default).f 4).toInt=(-1:Int))=dec (TreeIn nodes i.toNat)/\nodes=nodes/\links=links/\words=words/\past=past/\m=m)/\(decide (((nodes.getD i.toNat default).f 3).toInt=(5:Int))=false->(I64 ((nodes.getD i.toNat default).f 4).toInt->True)/\(dec (0<=((nodes.getD i.toNat default).f 4).toInt/\((nodes.getD i.toNat default).f 4).toInt<(5:Int))&&decide (((nodes.getD i.toNat default).f 4).toInt≠i))=dec (TreeIn
 nodes i.toNat)/\nodes=nodes/\links=links/\words=words/\past=past/\m=m))):=by
 intro _ _ _ _ _;simp only[iv,kv,fv,nm];obtain⟨hnp,h0,h5⟩:=hp;obtain⟨n,rfl⟩:=Int.eq_ofNat_of_zero_le h0;have hnl:=hnp.1;simp only[Int.toNat_natCast];refine⟨by omega,by omega,?_⟩;have key:∀p q:Prop,p->(p->q)->p/\q:=fun p q hp h=>⟨hp,h hp⟩
 refine key _ _ ?_ (fun h=>h);refine⟨fun hz=>dec_bool ?_,fun hz=>⟨fun h ht=>?_,fun h _=>⟨fun h3 _=>dec_bool ?_,fun h3=>dec_bool ?_⟩⟩⟩
 · have e:n=0:=by omega
   subst e;unfold TreeIn;rw[if_pos rfl];simp only[Bool.and_eq_true,decide_eq_true_eq,fv]
   first | done | omega
 · unfold TreeIn at ht;rw[if_neg (by omega)] at ht;simp only[fv] at ht
   first | done | omega
 · unfold TreeIn;rw[if_neg (by omega)];simp only[decide_eq_true_eq,fv]
   first | done | omega
 · unfold TreeIn;rw[if_neg (by omega)];simp only[Bool.and_eq_true,decide_eq_true_eq,dec_eq_true,fv]
   first | done | omega
def iTreeOk_get:List SV->St->Option Got
 | [.bp 0 0,.int .i64 i],⟨[],[(153,[.sl ty0 nodes,.sl .bool links,.sl ty1 words,.sl (.sl (.sl (.int .i64))) past,.own 0])],[⟨151,.mp ty2 (.ho 44 (.im ty3)),m,0,true⟩]⟩=>guardTy ty0 TNode (guardTy ty1 TWord (guardTy ty2 TPr (guardTy ty3 TSum (some (NetPast nodes past/\0<=i/\i<5,.bool (dec (TreeIn nodes i.toNat)),St.mk [] [(153,[.sl TNode nodes,.sl .bool links,.sl TWord words,.sl (.sl (.sl (.int .i64))) past,.own 0])] [⟨151,.mp TPr (.ho 44 (.im TSum)),m,0,true⟩])))))
 | _,_=>none
theorem iTreeOk_ok:Ok0 prog 109 iTreeOk_get:=by
 intro _ _ _ _ _ h hp;unfold iTreeOk_get at h;split at h
 · rename_i i _ nodes links _ words past _ _ m;replace h:=gT4 h;obtain⟨rfl,rfl,rfl,rfl,h⟩:=h;cases h;refine fz [iIsNode_con] func109 ?_;apply VC.thru (iTreeOk_vc nodes links words past m i hp);kernel_rfl
 · cases h
def iTreeOk_con:Con prog:=.f0 109 [.lend] false iTreeOk_get (en func109 rfl) iTreeOk_ok
theorem iKnownOk_vc (nodes links words past m:List Dat) (i:Int) (hp:NetPast nodes past/\MapIn past m/\0<=i/\i<5) :
 I64 i->WFl TNode nodes->WFl Ty.bool links->WFl TWord words->WFl (Ty.int i64).sl.sl past->(0<=i/\i<(nodes.length:Int))/\(NetPast nodes past/\MapIn past m)/\∀x:List Dat,MapIn past x->((!dec (KnownTo nodes past ((nodes.getD i.toNat default).f 1).kids ((nodes.getD i.toNat default).f 1).kids.length))=true->∃x_1:List Dat,MapIn past x_1/\dec (OwnIn nodes past
 i.toNat)=false/\nodes=nodes/\links=links/\words=words/\past=past/\x=x_1)/\((!dec (KnownTo nodes past ((nodes.getD i.toNat default).f 1).kids ((nodes.getD i.toNat default).f 1).kids.length))=false->I64 (↑((nodes.getD i.toNat default).f 1).kids.length:Int)->(∃x_1:Nat,(x_1<=(knownOf nodes i.toNat).length/\ownAt (List.take x_1 (knownOf nodes i.toNat)) i=none)/\i=i/\((nodes.getD i.toNat default).f
 1).kids=((nodes.getD i.toNat default).f 1).kids/\(↑((nodes.getD i.toNat default).f 1).kids.length:Int)=(↑((nodes.getD i.toNat default).f 1).kids.length:Int)/\0=(x_1:Int)/\nodes=nodes/\links=links/\words=words/\past=past/\((nodes.getD i.toNat default).f 0).toInt=((nodes.getD i.toNat default).f 0).toInt/\((nodes.getD i.toNat default).f 1).kids=((nodes.getD i.toNat default).f 1).kids/\((nodes.getD
 i.toNat default).f 2).toInt=((nodes.getD i.toNat default).f 2).toInt/\((nodes.getD i.toNat default).f 3).toInt=((nodes.getD i.toNat default).f 3).toInt/\((nodes.getD i.toNat default).f 4).toInt=((nodes.getD i.toNat default).f 4).toInt/\x=x)/\∀x_1:Nat,x_1<=(knownOf nodes i.toNat).length/\ownAt (List.take x_1 (knownOf nodes i.toNat)) i=none->(decide ((x_1:Int)<(↑((nodes.getD i.toNat default).f
 1).kids.length:Int))->(0<=(x_1:Int)/\(x_1:Int)<(↑((nodes.getD i.toNat default).f 1).kids.length:Int))/\(I64 ((((nodes.getD i.toNat default).f 1).kids.getD x_1 default).f 0).toInt->(decide (((((nodes.getD i.toNat default).f 1).kids.getD x_1 default).f 0).toInt=i)->(I64 ((((nodes.getD i.toNat default).f 1).kids.getD x_1 default).f 1).toInt->I64 ((nodes.getD i.toNat default).f 0).toInt->(decide
 (((((nodes.getD i.toNat default).f 1).kids.getD x_1 default).f 1).toInt=((nodes.getD i.toNat default).f 0).toInt)->I64 ((((nodes.getD i.toNat default).f 1).kids.getD x_1 default).f 2).toInt->(0<=i/\i<(past.length:Int))/\(I64 ((nodes.getD i.toNat default).f 0).toInt->0<=((nodes.getD i.toNat default).f 0).toInt/\((nodes.getD i.toNat default).f 0).toInt<(↑(past.getD i.toNat
 default).kids.length:Int)))/\True)/\∃x_2:List Dat,MapIn past x_2/\(decide (((((nodes.getD i.toNat default).f 1).kids.getD x_1 default).f 1).toInt=((nodes.getD i.toNat default).f 0).toInt)&&decide (((((nodes.getD i.toNat default).f 1).kids.getD x_1 default).f 2).toInt=(↑((past.getD i.toNat default).kids.getD ((nodes.getD i.toNat default).f 0).toInt.toNat default).kids.length:Int)))=dec (OwnIn nodes
 past i.toNat)/\nodes=nodes/\links=links/\words=words/\past=past/\x=x_2)/\(decide (((((nodes.getD i.toNat default).f 1).kids.getD x_1 default).f 0).toInt=i)=false->∃x_2:Nat,((x_2<=(knownOf nodes i.toNat).length/\ownAt (List.take x_2 (knownOf nodes i.toNat)) i=none)/\(knownOf nodes i.toNat).length-x_2<(knownOf nodes i.toNat).length-x_1)/\i=i/\((nodes.getD i.toNat default).f 1).kids=((nodes.getD
 i.toNat default).f 1).kids/\(↑((nodes.getD i.toNat default).f 1).kids.length:Int)=(↑((nodes.getD i.toNat default).f 1).kids.length:Int)/\i64.wrap ((x_1:Int)+1)=(x_2:Int)/\nodes=nodes/\links=links/\words=words/\past=past/\((nodes.getD i.toNat default).f 0).toInt=((nodes.getD i.toNat default).f 0).toInt/\((nodes.getD i.toNat default).f 1).kids=((nodes.getD i.toNat default).f 1).kids/\((nodes.getD
 i.toNat default).f 2).toInt=((nodes.getD i.toNat default).f 2).toInt/\((nodes.getD i.toNat default).f 3).toInt=((nodes.getD i.toNat default).f 3).toInt/\((nodes.getD i.toNat default).f 4).toInt=((nodes.getD i.toNat default).f 4).toInt/\x=x)))/\(decide ((x_1:Int)<(↑((nodes.getD i.toNat default).f 1).kids.length:Int))=false->∃x_2:List Dat,MapIn past x_2/\dec (OwnIn nodes past
 i.toNat)=false/\nodes=nodes/\links=links/\words=words/\past=past/\x=x_2)):=by
 intro _ _ _ _ _;simp only[iv,kv,fv,nm];obtain⟨hnp,hm,h0,h5⟩:=hp;obtain⟨n,rfl⟩:=Int.eq_ofNat_of_zero_le h0;have hnl:=hnp.1;have hpl:=hnp.2.1;have hb:=hnp.2.2 n (by omega);have hpast:=hb.2.2.1;simp only[bornOf,fv,kv] at hb hpast;simp only[Int.toNat_natCast];simp only[knownOf];have hown:∀p,OwnIn nodes past n ↔ (KnownTo nodes past (((nodes.getD n default).f 1).kids) (((nodes.getD n default).f 1).kids).length/\(ownAt (((nodes.getD n default).f 1).kids) n).isSome=true/\(((ownAt (((nodes.getD n default).f 1).kids) n).getD zeroEnt).f 1).toInt=bornOf nodes n/\(((ownAt (((nodes.getD n default).f 1).kids) n).getD zeroEnt).f 2).toInt=((pastOf past n (bornOf nodes n).toNat).length:Int))\/p/\False:=fun p=>by
   simp only[and_false,or_false];exact Iff.rfl
 have hown:=hown True;simp only[and_false,or_false] at hown;refine⟨by omega,⟨hnp,hm⟩,fun m1 hm1=>⟨fun hno=>⟨m1,hm1,fun ho=>hno (hown.1 ho).1,rfl⟩,fun hkt hI=>⟨⟨0,⟨by omega,rfl⟩,rfl⟩,fun x hx=>⟨fun hlt=>⟨by omega,fun _=>⟨fun he=>⟨?_,m1,hm1,?_,rfl⟩,fun he=>⟨x+1,⟨⟨by omega,?_⟩,by omega⟩,?_⟩⟩⟩,fun hge=>⟨m1,hm1,fun ho=>?_,rfl⟩⟩⟩⟩⟩
 · intro _ _ _ _;exact⟨by omega,fun _=>by omega⟩
 · have hs:=ownAt_some (show x<(((nodes.getD n default).f 1).kids).length by omega) hx.2 he;refine dec_bool ?_;simp only[Bool.and_eq_true,decide_eq_true_eq];rw[hown,hs];constructor
   · rintro⟨e1,e2⟩;exact⟨hkt,rfl,e1,e2⟩
   · rintro⟨_,_,e1,e2⟩;exact⟨e1,e2⟩
 · rw[take_getD (by omega),ownAt_next,hx.2];simp only[if_neg he]
 · exact up_ok (n:=(((nodes.getD n default).f 1).kids).length) (by omega) (by omega)
 · have h2:ownAt (((nodes.getD n default).f 1).kids) n=none:=by
     have h3:=hx.2;rw[List.take_of_length_le (by omega)] at h3;exact h3
   have h4:=(hown.1 ho).2.1;rw[h2] at h4;cases h4
def iKnownOk_get:List SV->St->Option (Prop×(List Dat->Prop×SV×St))
 | [.bp 0 0,.int .i64 i],⟨[],[(153,[.sl ty0 nodes,.sl .bool links,.sl ty1 words,.sl (.sl (.sl (.int .i64))) past,.own 0])],[⟨151,.mp ty2 (.ho 44 (.im ty3)),m,0,true⟩]⟩=>guardTy ty0 TNode (guardTy ty1 TWord (guardTy ty2 TPr (guardTy ty3 TSum (some (NetPast nodes past/\MapIn past m/\0<=i/\i<5,(fun g=>(MapIn past g,.bool (dec (OwnIn nodes past i.toNat)),St.mk [] [(153,[.sl TNode nodes,.sl .bool links,.sl TWord words,.sl (.sl (.sl (.int .i64))) past,.own 0])] [⟨151,.mp TPr (.ho 44 (.im TSum)),g,0,true⟩]):List Dat->Prop×SV×St))))))
 | _,_=>none
theorem iKnownOk_ok:OkG prog 110 (List Dat) iKnownOk_get:=by
 intro _ _ _ _ h hp;unfold iKnownOk_get at h;split at h
 · rename_i i _ nodes links _ words past _ _ m;replace h:=gT4 h;obtain⟨rfl,rfl,rfl,rfl,h⟩:=h;cases h;refine gl [iEntriesOk_con] (fun k=>bif Nat.beq k 5 then some (.g (⟨Nat,fun s g=>hdb s [0,1,5,22,23] [(24,.int .i64 g)] s.bx s.rw,fun _ g=>g<=(knownOf nodes i.toNat).length/\ownAt ((knownOf nodes i.toNat).take g) i=none,fun g=>(knownOf nodes i.toNat).length-g⟩)) else none) func110 ?_;apply VC.thru (iKnownOk_vc nodes links words past m i hp);kernel_rfl
 · cases h
def iKnownOk_con:Con prog:=.fg 110 [.lend] false (List Dat) iKnownOk_get (en func110 rfl) iKnownOk_ok
theorem iWordOk_vc (nodes links words past m known:List Dat) (kind from_ to beacon level:Int) (hp:NetPast nodes past/\MapIn past m) :
 I64 kind->I64 from_->I64 to->I64 beacon->I64 level->WFl TEnt known->WFl TNode nodes->WFl Ty.bool links->WFl TWord words->WFl (Ty.int i64).sl.sl past->(I64 from_->True/\((!dec (0<=from_/\from_<5))=false->I64 to->True)/\True)/\((!dec (0<=from_/\from_<5)||(!dec (0<=to/\to<5)||decide (from_=to)))=true->∃x:List Dat,MapIn past x/\dec (WordIn nodes past kind from_ to beacon level
 known)=false/\nodes=nodes/\links=links/\words=words/\past=past/\m=x)/\((!dec (0<=from_/\from_<5)||(!dec (0<=to/\to<5)||decide (from_=to)))=false->I64 kind->(decide (kind=1)->(I64 beacon->(decide (beacon>=(0:Int))->I64 beacon->0<=(0:Int)/\0<(nodes.length:Int))/\True)/\∃x:List Dat,MapIn past x/\(decide (beacon>=(0:Int))&&(decide (beacon<=((nodes.getD 0 default).f 2).toInt)&&(decide
 (level>=(0:Int))&&(decide (level<5)&&decide ((known.length:Int)=0)))))=dec (WordIn nodes past kind from_ to beacon level known)/\nodes=nodes/\links=links/\words=words/\past=past/\m=x)/\(decide (kind=1)=false->(decide (kind=2)->I64 beacon->(decide (beacon=0)->I64 level->(decide (level=0)->(NetPast nodes past/\MapIn past m)/\∀x:List Dat,MapIn past x->∃x_1:List Dat,MapIn past x_1/\dec (KnownTo nodes
 past known known.length)=dec (WordIn nodes past kind from_ to beacon level known)/\nodes=nodes/\links=links/\words=words/\past=past/\x=x_1)/\(decide (level=0)=!true->∃x:List Dat,MapIn past x/\dec (WordIn nodes past kind from_ to beacon level known)=false/\nodes=nodes/\links=links/\words=words/\past=past/\m=x))/\(decide (beacon=0)=!true->∃x:List Dat,MapIn past x/\dec (WordIn nodes past kind from_
 to beacon level known)=false/\nodes=nodes/\links=links/\words=words/\past=past/\m=x))/\(decide (kind=2)=false->∃x:List Dat,MapIn past x/\dec (WordIn nodes past kind from_ to beacon level known)=false/\nodes=nodes/\links=links/\words=words/\past=past/\m=x))):=by
 intro _ _ _ _ _ _ _ _ _ _;simp only[iv,kv,fv,nm];obtain⟨hnp,hm⟩:=hp;have hnl:=hnp.1;have hno:¬WordIn nodes past kind from_ to beacon level known->∃x,MapIn past x/\¬WordIn nodes past kind from_ to beacon level known/\m=x:=fun h=>⟨m,hm,h,rfl⟩
 refine⟨fun h=>hno (fun hw=>?_),fun hin _=>⟨fun hk=>⟨fun _ _ _=>by omega,m,hm,dec_bool ?_,rfl⟩,fun hk=>⟨fun hk2 _=>⟨fun hb _=>⟨fun hl=>⟨⟨hnp,hm⟩,fun x hx=>⟨x,hx,?_,rfl⟩⟩,fun hl=>hno (fun hw=>?_)⟩,fun hb=>hno (fun hw=>?_)⟩,fun hk2=>hno (fun hw=>?_)⟩⟩⟩
 · unfold WordIn at hw;omega
 · simp only[Bool.and_eq_true,decide_eq_true_eq,WordIn,fv];constructor
   · intro h;exact⟨by omega,by omega,by omega,by omega,by omega,.inl ⟨hk,by omega,by omega,by omega,by omega,by omega⟩⟩
   · rintro⟨_,_,_,_,_,h | h⟩
     · omega
     · omega
 · refine dec_iff ⟨fun h=>⟨by omega,by omega,by omega,by omega,by omega,.inr ⟨hk2,hb,hl,h⟩⟩,?_⟩;rintro⟨_,_,_,_,_,h | h⟩
   · omega
   · exact h.2.2.2
 · have hl:¬level=0:=by simpa using hl
   obtain⟨_,_,_,_,_,h | h⟩:=hw<;>omega
 · have hb:¬beacon=0:=by simpa using hb
   obtain⟨_,_,_,_,_,h | h⟩:=hw<;>omega
 · obtain⟨_,_,_,_,_,h | h⟩:=hw<;>omega
def iWordOk_get:List SV->St->Option (Prop×(List Dat->Prop×SV×St))
 | [.bp 0 0,.agg [.int .i64 kind,.int .i64 from_,.int .i64 to,.int .i64 beacon,.int .i64 level,.sl ty0 known]],⟨[],[(153,[.sl ty1 nodes,.sl .bool links,.sl ty2 words,.sl (.sl (.sl (.int .i64))) past,.own 0])],[⟨151,.mp ty3 (.ho 44 (.im ty4)),m,0,true⟩]⟩=>guardTy ty0 TEnt (guardTy ty1 TNode (guardTy ty2 TWord (guardTy ty3 TPr (guardTy ty4 TSum (some (NetPast nodes past/\MapIn past m,(fun g=>(MapIn past g,.bool (dec (WordIn nodes past kind from_ to beacon level known)),St.mk [] [(153,[.sl TNode nodes,.sl .bool links,.sl TWord words,.sl (.sl (.sl (.int .i64))) past,.own 0])] [⟨151,.mp TPr (.ho 44 (.im TSum)),g,0,true⟩]):List Dat->Prop×SV×St)))))))
 | _,_=>none
theorem iWordOk_ok:OkG prog 111 (List Dat) iWordOk_get:=by
 intro _ _ _ _ h hp;unfold iWordOk_get at h;split at h
 · rename_i kind from_ to beacon level _ known _ nodes links _ words past _ _ m;replace h:=gT4 h;obtain⟨rfl,rfl,rfl,rfl,h⟩:=h;replace h:=gT h;obtain⟨rfl,h⟩:=h;cases h;refine gz [iIsNode_con,iEntriesOk_con] func111 ?_;apply VC.thru (iWordOk_vc nodes links words past m known kind from_ to beacon level hp);kernel_rfl
 · cases h
def iWordOk_con:Con prog:=.fg 111 [.lend,.d] false (List Dat) iWordOk_get (en func111 rfl) iWordOk_ok
end
end E
end Go.Proofs.YtlfohjkcajaebaaGreat
