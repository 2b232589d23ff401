/- Texts that the claim stands on, part 7. -/
import Derived.Test.YtlfohjkcajaebaaGreatQL6
import Derived.Test.YtlfohjkcajaebaaGreatProg
import Derived.WalkKit
import Derived.ProofKit
import Derived.OpenShut
import Derived.Deep.DeepHandedRow
set_option linter.all false
namespace Go.Proofs.YtlfohjkcajaebaaGreat
open Go Go.RowKit
open Go.IntKind (i64)
namespace E
noncomputable section
set_option maxRecDepth 100000
def CanS (x:SumD):Prop:=x.rows=(rws x.rows).map (fun r=>.node (dInts r))/\x.kept=dInts (ints x.kept)/\x.prs=dPrs (E.prs x.prs)/\x.kn=dPrs (E.prs x.kn)
theorem can_rows {l:List Dat} (h:∀d∈l,d=.node (dInts (ints d.kids))):l=(rws l).map (fun r=>.node (dInts r)):=by
  unfold rws;rw[List.map_map]
  induction l with
  | nil=>rfl
  | cons d l ih=>
    rw[List.map_cons,<- ih (fun e he=>h e (List.mem_cons_of_mem _ he))]
    congr 1
    exact h d (List.mem_cons_self ..)
theorem can_tab (f:Nat->Nat->Int):tab 3 (fun i=>.node (tab 8 fun k=>.int (f i k)))=(rws (tab 3 fun i=>.node (tab 8 fun k=>.int (f i k)))).map (fun r=>.node (dInts r)):=by
  refine can_rows fun d hd=>?_
  obtain⟨i,_,rfl⟩:=List.mem_map.1 hd;simp [Dat.kids,tab,ints,dInts,Dat.toInt]
theorem can_add (x:SumD) (t:Int):CanS (sumAdd x t):=⟨can_tab (fun i k=>iv (kv x.rows i) k+if (k:Int)=place i t then 1 else 0),by simp only[sumAdd];rw[ints_dInts],by simp only[sumAdd];rw[prs_dPrs],by simp only[sumAdd];rw[prs_dPrs]⟩
theorem can_zero:CanS sumZero:=⟨can_tab (fun _ _=>0),rfl,rfl,rfl⟩
theorem can_sum (l:List Int):CanS (sumOf l):=by
  have:∀(l:List Int) (x:SumD),CanS x->CanS (l.foldl sumAdd x):=by
    intro l
    induction l with
    | nil=>intro x h;exact h
    | cons t l ih=>intro x _;exact ih _ (can_add x t)
  exact this l _ can_zero
theorem same_can {x y:SumD} (hx:CanS x) (hy:CanS y):SameS x y ↔ y.rows=x.rows/\y.kept=x.kept/\y.prs=x.prs/\y.lost=x.lost/\y.all=x.all/\y.kn=x.kn/\y.rall=x.rall:=by
  constructor
  · rintro⟨h1,h2,h3,h4,h5,h6,h7⟩;exact⟨by rw[hx.1,hy.1,h1],by rw[hx.2.1,hy.2.1,h2],by rw[hx.2.2.1,hy.2.2.1,h3],h4.symm,h5.symm,by rw[hx.2.2.2,hy.2.2.2,h6],h7.symm⟩
  · rintro⟨h1,h2,h3,h4,h5,h6,h7⟩;exact⟨by rw[h1],by rw[h2],by rw[h3],h4.symm,h5.symm,by rw[h6],h7.symm⟩
theorem can_wf {d:Dat} (h:WF (.st [.int .i64,.int .i64,.int .i64,(.st [.st [.sl (.sl (.int .i64))],.st [.sl (.int .i64)],.st [.sl (.st [.int .i64,.int .i64]),.int .i64,.int .i64],.st [.sl (.st [.int .i64,.int .i64]),.int .i64]])]) d):CanS (sumD (d.f 3)):=by
  obtain⟨_,rfl,_,_,rfl,⟨_,rfl,_⟩,_,_,rfl,⟨_,rfl,_⟩,_,_,rfl,⟨_,rfl,_⟩,_,_,rfl,⟨_,rfl,_,_,rfl,⟨_,rfl,_,_,rfl,hr,rfl⟩,_,_,rfl,⟨_,rfl,_,_,rfl,hk,rfl⟩,_,_,rfl,⟨_,rfl,_,_,rfl,hp,_,_,rfl,⟨_,rfl,_⟩,_,_,rfl,⟨_,rfl,_⟩,rfl⟩,_,_,rfl,⟨_,rfl,_,_,rfl,hn,_,_,rfl,⟨_,rfl,_⟩,rfl⟩,rfl⟩,rfl⟩:=h;obtain⟨rows,rfl,_,hr⟩:=hr;obtain⟨kept,rfl,hk⟩:=hk;obtain⟨prs,rfl,hp⟩:=hp;obtain⟨kn,rfl,hn⟩:=hn;refine⟨can_rows fun e he=>?_,wfl_dInts hk,(dPrs_prs hp).symm,(dPrs_prs hn).symm⟩;obtain⟨ds,rfl,hds⟩:=hr e he;exact congrArg Dat.node (wfl_dInts hds)
theorem iEntriesOk_vc (nodes links words past m l:List Dat) (hp:NetPast nodes past/\MapIn past m) :
 WFl TEnt l->WFl TNode nodes->WFl Ty.bool links->WFl TWord words->WFl (Ty.int i64).sl.sl past->I64 (l.length:Int)->(∃(x:Nat×List Dat),(x.fst<=l.length/\KnownTo nodes past l
 x.fst/\MapIn past x.snd)/\((-1:Int)=if x.fst=0 then (-1:Int) else fv l (x.fst-1) 0)/\l=l/\(l.length:Int)=(l.length:Int)/\0=(x.fst:Int)/\nodes=nodes/\links =
 links/\words=words/\past=past/\m=x.snd)/\∀(x:Nat×List Dat),x.fst<=l.length/\KnownTo nodes past l x.fst/\MapIn past x.snd->(decide ((x.fst:Int)<(l.length:Int)) =
 true->(0<=(x.fst:Int)/\(x.fst:Int)<(l.length:Int))/\(decide (((l.getD x.fst default).f 0).toInt<=if x.fst=0 then (-1:Int) else fv l (x.fst-1) 0)->∃x_1:List Dat,MapIn
 past x_1/\dec (KnownTo nodes past l l.length)=false/\nodes=nodes/\links=links/\words=words/\past=past/\x.snd=x_1)/\(decide (((l.getD x.fst default).f 0).toInt<=if x.fst=0
 then (-1:Int) else fv l (x.fst-1) 0)=false->NetPast nodes past/\((!dec (0<=((l.getD x.fst default).f 0).toInt/\((l.getD x.fst default).f 0).toInt<=(4:Int)/\1<=((l.getD
 x.fst default).f 1).toInt/\((l.getD x.fst default).f 1).toInt<=bornOf nodes ((l.getD x.fst default).f 0).toInt.toNat/\0<=((l.getD x.fst default).f 2).toInt/\((l.getD x.fst
 default).f 2).toInt<=(↑(pastOf past ((l.getD x.fst default).f 0).toInt.toNat ((l.getD x.fst default).f 1).toInt.toNat).length:Int)))=true->∃x_1:List Dat,MapIn past x_1/\dec
 (KnownTo nodes past l l.length)=false/\nodes=nodes/\links=links/\words=words/\past=past/\x.snd=x_1)/\((!dec (0<=((l.getD x.fst default).f 0).toInt/\((l.getD x.fst
 default).f 0).toInt<=(4:Int)/\1<=((l.getD x.fst default).f 1).toInt/\((l.getD x.fst default).f 1).toInt<=bornOf nodes ((l.getD x.fst default).f 0).toInt.toNat/\0<=((l.getD
 x.fst default).f 2).toInt/\((l.getD x.fst default).f 2).toInt<=(↑(pastOf past ((l.getD x.fst default).f 0).toInt.toNat ((l.getD x.fst default).f 1).toInt.toNat).length:Int))) =
 false->(NetPast nodes past/\MapIn past x.snd/\0<=((l.getD x.fst default).f 0).toInt/\((l.getD x.fst default).f 0).toInt<=(4:Int)/\1<=((l.getD x.fst default).f 1).toInt/\((l.getD
 x.fst default).f 1).toInt<=bornOf nodes ((l.getD x.fst default).f 0).toInt.toNat/\0<=((l.getD x.fst default).f 2).toInt/\((l.getD x.fst default).f 2).toInt<=(↑(pastOf past
 ((l.getD x.fst default).f 0).toInt.toNat ((l.getD x.fst default).f 1).toInt.toNat).length:Int))/\∀x_1:List Dat,MapIn past x_1->(((((l.getD x.fst default).f 3).f 0).f 0).kids =
 ((((l.getD x.fst default).f 3).f 0).f 0).kids/\((((l.getD x.fst default).f 3).f 1).f 0).kids=((((l.getD x.fst default).f 3).f 1).f 0).kids/\((((l.getD x.fst default).f 3).f 2).f
 0).kids=((((l.getD x.fst default).f 3).f 2).f 0).kids/\((((l.getD x.fst default).f 3).f 2).f 1).toInt=((((l.getD x.fst default).f 3).f 2).f 1).toInt/\((((l.getD x.fst default).f
 3).f 2).f 2).toInt=((((l.getD x.fst default).f 3).f 2).f 2).toInt/\((((l.getD x.fst default).f 3).f 3).f 0).kids=((((l.getD x.fst default).f 3).f 3).f 0).kids/\((((l.getD x.fst
 default).f 3).f 3).f 1).toInt=((((l.getD x.fst default).f 3).f 3).f 1).toInt)/\True/\((!dec (((((l.getD x.fst default).f 3).f 0).f 0).kids=(entSum past ((l.getD x.fst default).f
 0).toInt ((l.getD x.fst default).f 1).toInt ((l.getD x.fst default).f 2).toInt).rows/\((((l.getD x.fst default).f 3).f 1).f 0).kids=(entSum past ((l.getD x.fst default).f 0).toInt
 ((l.getD x.fst default).f 1).toInt ((l.getD x.fst default).f 2).toInt).kept/\((((l.getD x.fst default).f 3).f 2).f 0).kids=(entSum past ((l.getD x.fst default).f 0).toInt ((l.getD
 x.fst default).f 1).toInt ((l.getD x.fst default).f 2).toInt).prs/\((((l.getD x.fst default).f 3).f 2).f 1).toInt=(entSum past ((l.getD x.fst default).f 0).toInt ((l.getD x.fst
 default).f 1).toInt ((l.getD x.fst default).f 2).toInt).lost/\((((l.getD x.fst default).f 3).f 2).f 2).toInt=(entSum past ((l.getD x.fst default).f 0).toInt ((l.getD x.fst
 default).f 1).toInt ((l.getD x.fst default).f 2).toInt).all/\((((l.getD x.fst default).f 3).f 3).f 0).kids=(entSum past ((l.getD x.fst default).f 0).toInt ((l.getD x.fst
 default).f 1).toInt ((l.getD x.fst default).f 2).toInt).kn/\((((l.getD x.fst default).f 3).f 3).f 1).toInt=(entSum past ((l.getD x.fst default).f 0).toInt ((l.getD x.fst
 default).f 1).toInt ((l.getD x.fst default).f 2).toInt).rall))=true->∃x:List Dat,MapIn past x/\dec (KnownTo nodes past l l.length)=false/\nodes=nodes/\links=links/\words =
 words/\past=past/\x_1=x)/\((!dec (((((l.getD x.fst default).f 3).f 0).f 0).kids=(entSum past ((l.getD x.fst default).f 0).toInt ((l.getD x.fst default).f 1).toInt ((l.getD x.fst
 default).f 2).toInt).rows/\((((l.getD x.fst default).f 3).f 1).f 0).kids=(entSum past ((l.getD x.fst default).f 0).toInt ((l.getD x.fst default).f 1).toInt ((l.getD x.fst
 default).f 2).toInt).kept/\((((l.getD x.fst default).f 3).f 2).f 0).kids=(entSum past ((l.getD x.fst default).f 0).toInt ((l.getD x.fst default).f 1).toInt ((l.getD x.fst
 default).f 2).toInt).prs/\((((l.getD x.fst default).f 3).f 2).f 1).toInt=(entSum past ((l.getD x.fst default).f 0).toInt ((l.getD x.fst default).f 1).toInt ((l.getD x.fst
 default).f 2).toInt).lost/\((((l.getD x.fst default).f 3).f 2).f 2).toInt=(entSum past ((l.getD x.fst default).f 0).toInt ((l.getD x.fst default).f 1).toInt ((l.getD x.fst
 default).f 2).toInt).all/\((((l.getD x.fst default).f 3).f 3).f 0).kids=(entSum past ((l.getD x.fst default).f 0).toInt ((l.getD x.fst default).f 1).toInt ((l.getD x.fst
 default).f 2).toInt).kn/\((((l.getD x.fst default).f 3).f 3).f 1).toInt=(entSum past ((l.getD x.fst default).f 0).toInt ((l.getD x.fst default).f 1).toInt ((l.getD x.fst
 default).f 2).toInt).rall))=false->I64 ((l.getD x.fst default).f 0).toInt->∃(x_2:Nat×List Dat),((x_2.fst<=l.length/\KnownTo nodes past l x_2.fst/\MapIn past x_2.snd)/\l.length -
 x_2.fst<l.length-x.fst)/\(((l.getD x.fst default).f 0).toInt=if x_2.fst=0 then (-1:Int) else fv l (x_2.fst-1) 0)/\l=l/\(l.length:Int)=(l.length:Int)/\i64.wrap
 ((x.fst:Int)+1)=(x_2.fst:Int)/\nodes=nodes/\links=links/\words=words/\past=past/\x_1=x_2.snd))))/\(decide ((x.fst:Int)<(l.length:Int))=false->∃x_1:List Dat,MapIn
 past x_1/\dec (KnownTo nodes past l l.length)=true/\nodes=nodes/\links=links/\words=words/\past=past/\x.snd=x_1):=by
  intro hwl _ _ _ _ _;simp only[iv,kv,fv,nm,ne_eq,implies_true,eq_self];obtain⟨hnp,hm⟩:=hp;have hl:=hwl.1;refine⟨⟨(0,m),⟨by simp only;omega,fun i hi=>by simp only at hi;omega,hm⟩,rfl,rfl,rfl⟩,fun x hx=>⟨fun hlt=>?_,fun hge=>⟨x.2,hx.2.2,?_,rfl⟩⟩⟩
  · obtain⟨i,m1⟩:=x;simp only at hx hlt ⊢;have hi:i<l.length:=by omega
    have hcan:=same_can (can_sum (ints ((pastOf past (fv l i 0).toNat (fv l i 1).toNat).take (fv l i 2).toNat))) (can_wf (wfl_get hwl hi));have hbef:(if i=0 then -1 else fv l (i-1) 0)<fv l i 0 ↔ (0<=fv l i 0->0<i->fv l (i-1) 0<fv l i 0)/\(i=0->0<=fv l i 0)/\(0<i->fv l (i-1) 0<fv l i 0):=by
      by_cases h0:i=0
      · rw[if_pos h0];omega
      · rw[if_neg h0];omega
    have hno:¬(EntInD nodes past (l.getD i default)/\(0<i->fv l (i-1) 0<fv l i 0))->¬KnownTo nodes past l l.length:=fun h hk=>h (hk i hi)
    refine⟨by omega,fun h1=>⟨m1,hx.2.2,hno ?_,rfl⟩,fun h1=>⟨hnp,fun h2=>⟨m1,hx.2.2,hno ?_,rfl⟩,fun h2=>⟨⟨hnp,hx.2.2,h2⟩,fun m2 hm2=>⟨fun h3=>⟨m2,hm2,hno ?_,rfl⟩,fun h3 _=>⟨(i+1,m2),⟨⟨by simp only;omega,?_,hm2⟩,by simp only;omega⟩,?_,up_ok (n:=l.length) hi (by omega),rfl⟩⟩⟩⟩⟩
    · rintro⟨he,hb⟩;have h0:0<=fv l i 0:=he.1;simp only[fv] at h0 hb h1;by_cases e:i=0
      · rw[if_pos e] at h1;omega
      · rw[if_neg e] at h1
        have:=hb (by omega);omega
    · rintro⟨he,_⟩;exact h2 ⟨he.1,he.2.1,he.2.2.1,he.2.2.2.1,he.2.2.2.2.1,he.2.2.2.2.2.1⟩
    · rintro⟨he,_⟩;exact h3 (hcan.1 he.2.2.2.2.2.2)
    · intro j hj;simp only at hj;rcases Nat.lt_or_ge j i with h4 | h4
      · exact hx.2.1 j h4
      · rw[show j=i by omega];refine⟨⟨h2.1,h2.2.1,h2.2.2.1,h2.2.2.2.1,h2.2.2.2.2.1,h2.2.2.2.2.2,hcan.2 h3⟩,fun h0=>?_⟩;rw[if_neg (by omega)] at h1;simp only[fv] at h1 ⊢;omega
    · simp only;rw[if_neg (by omega)];rfl
  · have:x.1=l.length:=by omega
    rw[<- this];exact hx.2.1
def iEntriesOk_get (ins:List SV) (m:St):Option (Prop×(List Dat->Prop×SV×St)):=
  match ins,m with
  | [.bp 0 0,.sl ty0 l],⟨[],[(153,[.sl ty1 nodes,.sl .bool links,.sl ty2 words,.sl (.sl (.sl (.int .i64))) past,.own 0])],[⟨151,.mp ty3 (.ho 44 (.im ty4)),m,0,true⟩]⟩=>guardTy ty0 TEnt (guardTy ty1 TNode (guardTy ty2 TWord (guardTy ty3 TPr (guardTy ty4 TSum (some (NetPast nodes past/\MapIn past m,(fun g=>(MapIn past g,.bool (dec (KnownTo nodes past l l.length)),St.mk [] [(153,[.sl TNode nodes,.sl .bool links,.sl TWord words,.sl (.sl (.sl (.int .i64))) past,.own 0])] [⟨151,.mp TPr (.ho 44 (.im TSum)),g,0,true⟩]):List Dat->Prop×SV×St)))))))
  | _,_=>none
theorem iEntriesOk_ok:OkG Tryz.prog 157 (List Dat) iEntriesOk_get:=by
  intro _ _ _ _ h hp;unfold iEntriesOk_get at h;split at h
  · replace h:=gT h;obtain⟨rfl,h⟩:=h;replace h:=gT h;obtain⟨rfl,h⟩:=h;replace h:=gT h;obtain⟨rfl,h⟩:=h;replace h:=gT h;obtain⟨rfl,h⟩:=h;replace h:=gT h;obtain⟨rfl,h⟩:=h;rename_i l nodes links words past m;cases h;refine fn_ok (ct:=[iCounted_con,iSameSum_con,iSumOf_con]) (L:=fun k=>bif Nat.beq k 3 then some (.g (⟨Nat×List Dat,fun s g=>hdb s [0,8,9] [(5,.int .i64 (if g.1=0 then -1 else fv l (g.1-1) 0)),(10,.int .i64 g.1)] s.bx [⟨151,.mp TPr (.ho 44 (.im TSum)),g.2,0,true⟩],fun _ g=>g.1<=l.length/\KnownTo nodes past l g.1/\MapIn past g.2,fun g=>l.length-g.1⟩)) else none) (q:=_) Tryz_follows Tryz.func157 ?_;apply VC.thru (iEntriesOk_vc nodes links words past m l hp);kernel_rfl
  · cases h
def iEntriesOk_con:Con Tryz.prog:=.fg 157 [.lend,.d] false (List Dat) iEntriesOk_get (enters Tryz.func157 (by kernel_rfl) rfl) iEntriesOk_ok
def TreeIn (nodes:List Dat) (a:Nat):Prop:=if a=0 then fv nodes a 3=0/\fv nodes a 4=-1/\0<=fv nodes a 2/\fv nodes a 2<=1000 else 0<=fv nodes a 2/\fv nodes a 2<=fv nodes 0 2/\1<=fv nodes a 3/\fv nodes a 3<=5/\(fv nodes a 4=-1 ↔ fv nodes a 3=5)/\-1<=fv nodes a 4/\fv nodes a 4<=4/\fv nodes a 4≠a
def OwnIn (nodes past:List Dat) (a:Nat):Prop:=KnownTo nodes past (knownOf nodes a) (knownOf nodes a).length/\(ownAt (knownOf nodes a) a).isSome=true/\((ownOf nodes a).f 1).toInt=bornOf nodes a/\((ownOf nodes a).f 2).toInt=((pastOf past a (bornOf nodes a).toNat).length:Int)
theorem iTreeOk_vc (nodes links words past m:List Dat) (i:Int) (hp:NetPast nodes past/\0<=i/\i<5) :
 I64 i->WFl TNode nodes->WFl Ty.bool links->WFl TWord words->WFl (Ty.int i64).sl.sl past->(0<=(0:Int)/\0<(nodes.length:Int))/\(0<=i/\i<(nodes.length:Int))/\(nodes=nodes/\nodes
 = nodes/\nodes=nodes/\nodes=nodes/\nodes=nodes/\(decide (i=(0:Int))->(decide (((nodes.getD i.toNat default).f 3).toInt=(0:Int))&&(decide (((nodes.getD i.toNat
 default).f 4).toInt=(-1:Int))&&(decide (((nodes.getD i.toNat default).f 2).toInt>=(0:Int))&&decide (((nodes.getD i.toNat default).f 2).toInt<=(1000:Int)))))=dec (TreeIn
 nodes i.toNat)/\nodes=nodes/\links=links/\words=words/\past=past/\m=m)/\(decide (i=(0:Int))=false->((decide (((nodes.getD i.toNat default).f 2).toInt<(0:Int))||(decide
 (((nodes.getD i.toNat default).f 2).toInt > ((nodes.getD 0 default).f 2).toInt)||(decide (((nodes.getD i.toNat default).f 3).toInt<(1:Int))||decide (((nodes.getD i.toNat
 default).f 3).toInt > (5:Int)))))=true->dec (TreeIn nodes i.toNat)=false/\nodes=nodes/\links=links/\words=words/\past=past/\m=m)/\((decide (((nodes.getD i.toNat default).f
 2).toInt<(0:Int))||(decide (((nodes.getD i.toNat default).f 2).toInt > ((nodes.getD 0 default).f 2).toInt)||(decide (((nodes.getD i.toNat default).f 3).toInt<(1:Int)) ||
 decide (((nodes.getD i.toNat default).f 3).toInt > (5:Int)))))=false->I64 ((nodes.getD i.toNat default).f 3).toInt->(decide (((nodes.getD i.toNat default).f 3).toInt=(5:Int)) =
 true->I64 ((nodes.getD i.toNat default).f 4).toInt->decide (((nodes.getD i.toNat default).f 4).toInt=(-1:Int))=dec (TreeIn nodes i.toNat)/\nodes=nodes/\links=links/\words =
 words/\past=past/\m=m)/\(decide (((nodes.getD i.toNat default).f 3).toInt=(5:Int))=false->(I64 ((nodes.getD i.toNat default).f 4).toInt->True)/\(dec (0<=((nodes.getD i.toNat
 default).f 4).toInt/\((nodes.getD i.toNat default).f 4).toInt<(5:Int))&&decide (((nodes.getD i.toNat default).f 4).toInt≠i))=dec (TreeIn nodes i.toNat)/\nodes=nodes/\links =
 links/\words=words/\past=past/\m=m))))/\nodes=nodes/\nodes=nodes/\nodes=nodes/\nodes=nodes/\nodes=nodes/\(decide (i=(0:Int))->(decide (((nodes.getD i.toNat
 default).f 3).toInt=(0:Int))&&(decide (((nodes.getD i.toNat default).f 4).toInt=(-1:Int))&&(decide (((nodes.getD i.toNat default).f 2).toInt>=(0:Int))&&decide
 (((nodes.getD i.toNat default).f 2).toInt<=(1000:Int)))))=dec (TreeIn nodes i.toNat)/\nodes=nodes/\links=links/\words=words/\past=past/\m=m)/\(decide (i=(0:Int)) =
 false->((decide (((nodes.getD i.toNat default).f 2).toInt<(0:Int))||(decide (((nodes.getD i.toNat default).f 2).toInt > ((nodes.getD 0 default).f 2).toInt)||(decide
 (((nodes.getD i.toNat default).f 3).toInt<(1:Int))||decide (((nodes.getD i.toNat default).f 3).toInt > (5:Int)))))=true->dec (TreeIn nodes i.toNat)=false/\nodes=nodes/\links
 = links/\words=words/\past=past/\m=m)/\((decide (((nodes.getD i.toNat default).f 2).toInt<(0:Int))||(decide (((nodes.getD i.toNat default).f 2).toInt > ((nodes.getD 0
 default).f 2).toInt)||(decide (((nodes.getD i.toNat default).f 3).toInt<(1:Int))||decide (((nodes.getD i.toNat default).f 3).toInt > (5:Int)))))=false->I64 ((nodes.getD
 i.toNat default).f 3).toInt->(decide (((nodes.getD i.toNat default).f 3).toInt=(5:Int))->I64 ((nodes.getD i.toNat default).f 4).toInt->decide (((nodes.getD i.toNat default).f
 4).toInt=(-1:Int))=dec (TreeIn nodes i.toNat)/\nodes=nodes/\links=links/\words=words/\past=past/\m=m)/\(decide (((nodes.getD i.toNat default).f 3).toInt=(5:Int)) =
 false->(I64 ((nodes.getD i.toNat default).f 4).toInt->True)/\(dec (0<=((nodes.getD i.toNat default).f 4).toInt/\((nodes.getD i.toNat default).f 4).toInt<(5:Int))&&decide
 (((nodes.getD i.toNat default).f 4).toInt≠i))=dec (TreeIn nodes i.toNat)/\nodes=nodes/\links=links/\words=words/\past=past/\m=m))):=by
  intro _ _ _ _ _;simp only[iv,kv,fv,nm,ne_eq,implies_true,eq_self];obtain⟨hnp,h0,h5⟩:=hp;obtain⟨n,rfl⟩:=Int.eq_ofNat_of_zero_le h0;have hnl:=hnp.1;simp only[Int.toNat_natCast];refine⟨by omega,by omega,?_⟩;have key:∀p q:Prop,p->(p->q)->p/\q:=fun p q hp h=>⟨hp,h hp⟩
  refine key _ _ ?_ (fun h=>h);refine⟨fun hz=>dec_bool ?_,fun hz=>⟨fun h ht=>?_,fun h _=>⟨fun h3 _=>dec_bool ?_,fun h3=>dec_bool ?_⟩⟩⟩
  · have e:n=0:=by omega
    subst e;unfold TreeIn;rw[if_pos rfl];simp only[Bool.and_eq_true,decide_eq_true_eq,fv]
    first | done | omega
  · unfold TreeIn at ht;rw[if_neg (by omega)] at ht;simp only[fv] at ht
    first | done | omega
  · unfold TreeIn;rw[if_neg (by omega)];simp only[decide_eq_true_eq,fv]
    first | done | omega
  · unfold TreeIn;rw[if_neg (by omega)];simp only[Bool.and_eq_true,decide_eq_true_eq,dec_eq_true,fv]
    first | done | omega
def iTreeOk_get (ins:List SV) (m:St):Option Got:=
  match ins,m with
  | [.bp 0 0,.int .i64 i],⟨[],[(153,[.sl ty0 nodes,.sl .bool links,.sl ty1 words,.sl (.sl (.sl (.int .i64))) past,.own 0])],[⟨151,.mp ty2 (.ho 44 (.im ty3)),m,0,true⟩]⟩=>guardTy ty0 TNode (guardTy ty1 TWord (guardTy ty2 TPr (guardTy ty3 TSum (some (NetPast nodes past/\0<=i/\i<5,.bool (dec (TreeIn nodes i.toNat)),St.mk [] [(153,[.sl TNode nodes,.sl .bool links,.sl TWord words,.sl (.sl (.sl (.int .i64))) past,.own 0])] [⟨151,.mp TPr (.ho 44 (.im TSum)),m,0,true⟩])))))
  | _,_=>none
theorem iTreeOk_ok:Ok0 Tryz.prog 109 iTreeOk_get:=by
  intro _ _ _ _ _ h hp;unfold iTreeOk_get at h;split at h
  · replace h:=gT h;obtain⟨rfl,h⟩:=h;replace h:=gT h;obtain⟨rfl,h⟩:=h;replace h:=gT h;obtain⟨rfl,h⟩:=h;replace h:=gT h;obtain⟨rfl,h⟩:=h;rename_i i nodes links words past m;cases h;refine fn_ok0 (ct:=[iIsNode_con]) (L:=fun _=>none) Tryz_follows Tryz.func109 ?_;apply VC.thru (iTreeOk_vc nodes links words past m i hp);kernel_rfl
  · cases h
def iTreeOk_con:Con Tryz.prog:=.f0 109 [.lend] false iTreeOk_get (enters Tryz.func109 (by kernel_rfl) rfl) iTreeOk_ok
theorem iKnownOk_vc (nodes links words past m:List Dat) (i:Int) (hp:NetPast nodes past/\MapIn past m/\0<=i/\i<5) :
 I64 i->WFl TNode nodes->WFl Ty.bool links->WFl TWord words->WFl (Ty.int i64).sl.sl past->(0<=i/\i<(nodes.length:Int))/\(NetPast nodes past/\MapIn past m)/\∀x:List Dat,MapIn past
 x->((!dec (KnownTo nodes past ((nodes.getD i.toNat default).f 1).kids ((nodes.getD i.toNat default).f 1).kids.length))=true->∃x_1:List Dat,MapIn past x_1/\dec (OwnIn nodes past
 i.toNat)=false/\nodes=nodes/\links=links/\words=words/\past=past/\x=x_1)/\((!dec (KnownTo nodes past ((nodes.getD i.toNat default).f 1).kids ((nodes.getD i.toNat default).f
 1).kids.length))=false->I64 (↑((nodes.getD i.toNat default).f 1).kids.length:Int)->(∃x_1:Nat,(x_1<=(knownOf nodes i.toNat).length/\ownAt (List.take x_1 (knownOf nodes i.toNat)) i
 = none)/\i=i/\((nodes.getD i.toNat default).f 1).kids=((nodes.getD i.toNat default).f 1).kids/\(↑((nodes.getD i.toNat default).f 1).kids.length:Int)=(↑((nodes.getD i.toNat
 default).f 1).kids.length:Int)/\0=(x_1:Int)/\nodes=nodes/\links=links/\words=words/\past=past/\((nodes.getD i.toNat default).f 0).toInt=((nodes.getD i.toNat default).f
 0).toInt/\((nodes.getD i.toNat default).f 1).kids=((nodes.getD i.toNat default).f 1).kids/\((nodes.getD i.toNat default).f 2).toInt=((nodes.getD i.toNat default).f
 2).toInt/\((nodes.getD i.toNat default).f 3).toInt=((nodes.getD i.toNat default).f 3).toInt/\((nodes.getD i.toNat default).f 4).toInt=((nodes.getD i.toNat default).f 4).toInt/\x =
 x)/\∀x_1:Nat,x_1<=(knownOf nodes i.toNat).length/\ownAt (List.take x_1 (knownOf nodes i.toNat)) i=none->(decide ((x_1:Int)<(↑((nodes.getD i.toNat default).f
 1).kids.length:Int))=true->(0<=(x_1:Int)/\(x_1:Int)<(↑((nodes.getD i.toNat default).f 1).kids.length:Int))/\(I64 ((((nodes.getD i.toNat default).f 1).kids.getD x_1 default).f
 0).toInt->(decide (((((nodes.getD i.toNat default).f 1).kids.getD x_1 default).f 0).toInt=i)->(I64 ((((nodes.getD i.toNat default).f 1).kids.getD x_1 default).f 1).toInt->I64
 ((nodes.getD i.toNat default).f 0).toInt->(decide (((((nodes.getD i.toNat default).f 1).kids.getD x_1 default).f 1).toInt=((nodes.getD i.toNat default).f 0).toInt)->I64
 ((((nodes.getD i.toNat default).f 1).kids.getD x_1 default).f 2).toInt->(0<=i/\i<(past.length:Int))/\(I64 ((nodes.getD i.toNat default).f 0).toInt->0<=((nodes.getD i.toNat
 default).f 0).toInt/\((nodes.getD i.toNat default).f 0).toInt<(↑(past.getD i.toNat default).kids.length:Int)))/\True)/\∃x_2:List Dat,MapIn past x_2/\(decide (((((nodes.getD
 i.toNat default).f 1).kids.getD x_1 default).f 1).toInt=((nodes.getD i.toNat default).f 0).toInt)&&decide (((((nodes.getD i.toNat default).f 1).kids.getD x_1 default).f
 2).toInt=(↑((past.getD i.toNat default).kids.getD ((nodes.getD i.toNat default).f 0).toInt.toNat default).kids.length:Int)))=dec (OwnIn nodes past i.toNat)/\nodes=nodes/\links
 = links/\words=words/\past=past/\x=x_2)/\(decide (((((nodes.getD i.toNat default).f 1).kids.getD x_1 default).f 0).toInt=i)=false->∃x_2:Nat,((x_2<=(knownOf nodes
 i.toNat).length/\ownAt (List.take x_2 (knownOf nodes i.toNat)) i=none)/\(knownOf nodes i.toNat).length-x_2<(knownOf nodes i.toNat).length-x_1)/\i=i/\((nodes.getD i.toNat
 default).f 1).kids=((nodes.getD i.toNat default).f 1).kids/\(↑((nodes.getD i.toNat default).f 1).kids.length:Int)=(↑((nodes.getD i.toNat default).f 1).kids.length:Int)/\i64.wrap
 ((x_1:Int)+1)=(x_2:Int)/\nodes=nodes/\links=links/\words=words/\past=past/\((nodes.getD i.toNat default).f 0).toInt=((nodes.getD i.toNat default).f 0).toInt/\((nodes.getD
 i.toNat default).f 1).kids=((nodes.getD i.toNat default).f 1).kids/\((nodes.getD i.toNat default).f 2).toInt=((nodes.getD i.toNat default).f 2).toInt/\((nodes.getD i.toNat
 default).f 3).toInt=((nodes.getD i.toNat default).f 3).toInt/\((nodes.getD i.toNat default).f 4).toInt=((nodes.getD i.toNat default).f 4).toInt/\x=x)))/\(decide ((x_1:Int) <
 (↑((nodes.getD i.toNat default).f 1).kids.length:Int))=false->∃x_2:List Dat,MapIn past x_2/\dec (OwnIn nodes past i.toNat)=false/\nodes=nodes/\links=links/\words =
 words/\past=past/\x=x_2)):=by
  intro _ _ _ _ _;simp only[iv,kv,fv,nm,ne_eq,implies_true,eq_self];obtain⟨hnp,hm,h0,h5⟩:=hp;obtain⟨n,rfl⟩:=Int.eq_ofNat_of_zero_le h0;have hnl:=hnp.1;have hpl:=hnp.2.1;have hb:=hnp.2.2 n (by omega);have hpast:=hb.2.2.1;simp only[bornOf,fv,kv] at hb hpast;simp only[Int.toNat_natCast];simp only[knownOf];have hown:∀p,OwnIn nodes past n ↔ (KnownTo nodes past (((nodes.getD n default).f 1).kids) (((nodes.getD n default).f 1).kids).length/\(ownAt (((nodes.getD n default).f 1).kids) n).isSome=true/\(((ownAt (((nodes.getD n default).f 1).kids) n).getD zeroEnt).f 1).toInt=bornOf nodes n/\(((ownAt (((nodes.getD n default).f 1).kids) n).getD zeroEnt).f 2).toInt=((pastOf past n (bornOf nodes n).toNat).length:Int))\/p/\False:=fun p=>by
    simp only[and_false,or_false];exact Iff.rfl
  have hown:=hown True;simp only[and_false,or_false] at hown;refine⟨by omega,⟨hnp,hm⟩,fun m1 hm1=>⟨fun hno=>⟨m1,hm1,fun ho=>hno (hown.1 ho).1,rfl⟩,fun hkt hI=>⟨⟨0,⟨by omega,rfl⟩,rfl⟩,fun x hx=>⟨fun hlt=>⟨by omega,fun _=>⟨fun he=>⟨?_,m1,hm1,?_,rfl⟩,fun he=>⟨x+1,⟨⟨by omega,?_⟩,by omega⟩,?_⟩⟩⟩,fun hge=>⟨m1,hm1,fun ho=>?_,rfl⟩⟩⟩⟩⟩
  · intro _ _ _ _;exact⟨by omega,fun _=>by omega⟩
  · have hs:=ownAt_some (show x<(((nodes.getD n default).f 1).kids).length by omega) hx.2 he;refine dec_bool ?_;simp only[Bool.and_eq_true,decide_eq_true_eq];rw[hown,hs];constructor
    · rintro⟨e1,e2⟩;exact⟨hkt,rfl,e1,e2⟩
    · rintro⟨_,_,e1,e2⟩;exact⟨e1,e2⟩
  · rw[take_getD (by omega),ownAt_next,hx.2];simp only[if_neg he]
  · exact up_ok (n:=(((nodes.getD n default).f 1).kids).length) (by omega) (by omega)
  · have h2:ownAt (((nodes.getD n default).f 1).kids) n=none:=by
      have h3:=hx.2;rw[List.take_of_length_le (by omega)] at h3;exact h3
    have h4:=(hown.1 ho).2.1;rw[h2] at h4;cases h4
def iKnownOk_get (ins:List SV) (m:St):Option (Prop×(List Dat->Prop×SV×St)):=
  match ins,m with
  | [.bp 0 0,.int .i64 i],⟨[],[(153,[.sl ty0 nodes,.sl .bool links,.sl ty1 words,.sl (.sl (.sl (.int .i64))) past,.own 0])],[⟨151,.mp ty2 (.ho 44 (.im ty3)),m,0,true⟩]⟩=>guardTy ty0 TNode (guardTy ty1 TWord (guardTy ty2 TPr (guardTy ty3 TSum (some (NetPast nodes past/\MapIn past m/\0<=i/\i<5,(fun g=>(MapIn past g,.bool (dec (OwnIn nodes past i.toNat)),St.mk [] [(153,[.sl TNode nodes,.sl .bool links,.sl TWord words,.sl (.sl (.sl (.int .i64))) past,.own 0])] [⟨151,.mp TPr (.ho 44 (.im TSum)),g,0,true⟩]):List Dat->Prop×SV×St))))))
  | _,_=>none
theorem iKnownOk_ok:OkG Tryz.prog 110 (List Dat) iKnownOk_get:=by
  intro _ _ _ _ h hp;unfold iKnownOk_get at h;split at h
  · replace h:=gT h;obtain⟨rfl,h⟩:=h;replace h:=gT h;obtain⟨rfl,h⟩:=h;replace h:=gT h;obtain⟨rfl,h⟩:=h;replace h:=gT h;obtain⟨rfl,h⟩:=h;rename_i i nodes links words past m;cases h;refine fn_ok (ct:=[iEntriesOk_con]) (L:=fun k=>bif Nat.beq k 5 then some (.g (⟨Nat,fun s g=>hdb s [0,1,5,22,23] [(24,.int .i64 g)] s.bx s.rw,fun _ g=>g<=(knownOf nodes i.toNat).length/\ownAt ((knownOf nodes i.toNat).take g) i=none,fun g=>(knownOf nodes i.toNat).length-g⟩)) else none) (q:=_) Tryz_follows Tryz.func110 ?_;apply VC.thru (iKnownOk_vc nodes links words past m i hp);kernel_rfl
  · cases h
def iKnownOk_con:Con Tryz.prog:=.fg 110 [.lend] false (List Dat) iKnownOk_get (enters Tryz.func110 (by kernel_rfl) rfl) iKnownOk_ok
theorem iWordOk_vc (nodes links words past m known:List Dat) (kind from_ to beacon level:Int) (hp:NetPast nodes past/\MapIn past m) :
 I64 kind->I64 from_->I64 to->I64 beacon->I64 level->WFl TEnt known->WFl TNode nodes->WFl Ty.bool links->WFl TWord words->WFl (Ty.int i64).sl.sl past->(I64 from_->True/\((!dec
 (0<=from_/\from_<(5:Int)))=false->I64 to->True)/\True)/\((!dec (0<=from_/\from_<(5:Int))||(!dec (0<=to/\to<(5:Int))||decide (from_=to)))=true->∃(x:List
 Dat),MapIn past x/\dec (WordIn nodes past kind from_ to beacon level known)=false/\nodes=nodes/\links=links/\words=words/\past=past/\m=x)/\((!dec (0<=from_/\from_ <
 (5:Int))||(!dec (0<=to/\to<(5:Int))||decide (from_=to)))=false->I64 kind->(decide (kind=(1:Int))->(I64 beacon->(decide (beacon>=(0:Int))->I64
 beacon->0<=(0:Int)/\0<(nodes.length:Int))/\True)/\∃x:List Dat,MapIn past x/\(decide (beacon>=(0:Int))&&(decide (beacon<=((nodes.getD 0 default).f 2).toInt)&&(decide
 (level>=(0:Int))&&(decide (level<(5:Int))&&decide ((known.length:Int)=0)))))=dec (WordIn nodes past kind from_ to beacon level known)/\nodes=nodes/\links=links/\words =
 words/\past=past/\m=x)/\(decide (kind=(1:Int))=false->(decide (kind=(2:Int))->I64 beacon->(decide (beacon=(0:Int))->I64 level->(decide (level=(0:Int)) =
 true->(NetPast nodes past/\MapIn past m)/\∀x:List Dat,MapIn past x->∃x_1:List Dat,MapIn past x_1/\dec (KnownTo nodes past known known.length)=dec (WordIn nodes past kind from_
 to beacon level known)/\nodes=nodes/\links=links/\words=words/\past=past/\x=x_1)/\(decide (level=(0:Int))=!true->∃x:List Dat,MapIn past x/\dec (WordIn nodes past kind
 from_ to beacon level known)=false/\nodes=nodes/\links=links/\words=words/\past=past/\m=x))/\(decide (beacon=(0:Int))=!true->∃x:List Dat,MapIn past x/\dec (WordIn nodes
 past kind from_ to beacon level known)=false/\nodes=nodes/\links=links/\words=words/\past=past/\m=x))/\(decide (kind=(2:Int))=false->∃x:List Dat,MapIn past x/\dec
 (WordIn nodes past kind from_ to beacon level known)=false/\nodes=nodes/\links=links/\words=words/\past=past/\m=x))):=by
  intro _ _ _ _ _ _ _ _ _ _;simp only[iv,kv,fv,nm,ne_eq,implies_true,eq_self];obtain⟨hnp,hm⟩:=hp;have hnl:=hnp.1;have hno:¬WordIn nodes past kind from_ to beacon level known->∃x,MapIn past x/\¬WordIn nodes past kind from_ to beacon level known/\m=x:=fun h=>⟨m,hm,h,rfl⟩
  refine⟨fun h=>hno (fun hw=>?_),fun hin _=>⟨fun hk=>⟨fun _ _ _=>by omega,m,hm,dec_bool ?_,rfl⟩,fun hk=>⟨fun hk2 _=>⟨fun hb _=>⟨fun hl=>⟨⟨hnp,hm⟩,fun x hx=>⟨x,hx,?_,rfl⟩⟩,fun hl=>hno (fun hw=>?_)⟩,fun hb=>hno (fun hw=>?_)⟩,fun hk2=>hno (fun hw=>?_)⟩⟩⟩
  · unfold WordIn at hw;omega
  · simp only[Bool.and_eq_true,decide_eq_true_eq,WordIn,fv];constructor
    · intro h;exact⟨by omega,by omega,by omega,by omega,by omega,.inl ⟨hk,by omega,by omega,by omega,by omega,by omega⟩⟩
    · rintro⟨_,_,_,_,_,h | h⟩
      · omega
      · omega
  · refine dec_iff ⟨fun h=>⟨by omega,by omega,by omega,by omega,by omega,.inr ⟨hk2,hb,hl,h⟩⟩,?_⟩;rintro⟨_,_,_,_,_,h | h⟩
    · omega
    · exact h.2.2.2
  · have hl:¬level=0:=by simpa using hl
    obtain⟨_,_,_,_,_,h | h⟩:=hw<;>omega
  · have hb:¬beacon=0:=by simpa using hb
    obtain⟨_,_,_,_,_,h | h⟩:=hw<;>omega
  · obtain⟨_,_,_,_,_,h | h⟩:=hw<;>omega
def iWordOk_get (ins:List SV) (m:St):Option (Prop×(List Dat->Prop×SV×St)):=
  match ins,m with
  | [.bp 0 0,.agg [.int .i64 kind,.int .i64 from_,.int .i64 to,.int .i64 beacon,.int .i64 level,.sl ty0 known]],⟨[],[(153,[.sl ty1 nodes,.sl .bool links,.sl ty2 words,.sl (.sl (.sl (.int .i64))) past,.own 0])],[⟨151,.mp ty3 (.ho 44 (.im ty4)),m,0,true⟩]⟩=>guardTy ty0 TEnt (guardTy ty1 TNode (guardTy ty2 TWord (guardTy ty3 TPr (guardTy ty4 TSum (some (NetPast nodes past/\MapIn past m,(fun g=>(MapIn past g,.bool (dec (WordIn nodes past kind from_ to beacon level known)),St.mk [] [(153,[.sl TNode nodes,.sl .bool links,.sl TWord words,.sl (.sl (.sl (.int .i64))) past,.own 0])] [⟨151,.mp TPr (.ho 44 (.im TSum)),g,0,true⟩]):List Dat->Prop×SV×St)))))))
  | _,_=>none
theorem iWordOk_ok:OkG Tryz.prog 111 (List Dat) iWordOk_get:=by
  intro _ _ _ _ h hp;unfold iWordOk_get at h;split at h
  · replace h:=gT h;obtain⟨rfl,h⟩:=h;replace h:=gT h;obtain⟨rfl,h⟩:=h;replace h:=gT h;obtain⟨rfl,h⟩:=h;replace h:=gT h;obtain⟨rfl,h⟩:=h;replace h:=gT h;obtain⟨rfl,h⟩:=h;rename_i kind from_ to beacon level known nodes links words past m;cases h;refine fn_ok (ct:=[iIsNode_con,iEntriesOk_con]) (L:=fun _=>none) (q:=_) Tryz_follows Tryz.func111 ?_;apply VC.thru (iWordOk_vc nodes links words past m known kind from_ to beacon level hp);kernel_rfl
  · cases h
def iWordOk_con:Con Tryz.prog:=.fg 111 [.lend,.d] false (List Dat) iWordOk_get (enters Tryz.func111 (by kernel_rfl) rfl) iWordOk_ok
theorem past_p {nodes past:List Dat} {a:Nat}:PastP (kv past a) (bornOf nodes a) ↔ 1<=bornOf nodes a/\bornOf nodes a<=20/\PastIn nodes past a:=by
  constructor
  · rintro⟨⟨h1,h2⟩,h3,h4,h5⟩;exact⟨h1,h2,h3,h4,h5⟩
  · rintro⟨h1,h2,h3,h4,h5⟩;exact⟨⟨h1,h2⟩,h3,h4,h5⟩
theorem links_look {nodes links past:List Dat} (h:LookTo nodes links past 5) (hl:links.length=25):LinksIn links:=by
  refine⟨hl,fun a ha b hb=>⟨?_,fun h2=>?_⟩⟩
  · rcases Nat.lt_trichotomy a b with h1 | h1 | h1
    · exact ((h b hb).2.2.2.2 a h1).symm
    · rw[h1]
    · exact (h a ha).2.2.2.2 b h1
  · obtain⟨h2,rfl⟩:=h2;rw[(h a ha).2.2.2.1] at h2;cases h2
theorem node_in {nodes past:List Dat} {a:Nat} (h1:TreeIn nodes a) (h2:OwnIn nodes past a):NodeIn nodes past a:=by
  refine⟨h2.2.1,h2.1,h2.2.2.1,h2.2.2.2,?_⟩;unfold TreeIn at h1;split at h1
  · rw[if_pos (by assumption)];exact⟨h1.1,h1.2.1,h1.2.2.1⟩
  · rw[if_neg (by assumption)];exact h1
theorem tree_in {nodes past:List Dat} {a:Nat} (h:NodeIn nodes past a) (h0:fv nodes 0 2<=1000):TreeIn nodes a/\OwnIn nodes past a:=by
  obtain⟨h1,h2,h3,h4,h5⟩:=h;refine⟨?_,h2,h1,h3,h4⟩;unfold TreeIn;split at h5
  · rename_i e;subst e;rw[if_pos rfl];exact⟨h5.1,h5.2.1,h5.2.2,h0⟩
  · rw[if_neg (by assumption)];exact h5
theorem iNetOk_vc (nodes links words past:List Dat) :
 WFl TNode nodes->WFl Ty.bool links->WFl TWord words->WFl (Ty.int i64).sl.sl past->(I64 (nodes.length:Int)->(decide ((nodes.length:Int)≠5)=false->I64 (past.length:Int)->(decide
 ((past.length:Int)≠5)=false->True)/\True)/\True)/\((decide ((nodes.length:Int)≠5)||(decide ((past.length:Int)≠5)||(!dec (LinksIn links)||decide ((words.length:Int) >
 (24:Int)))))=true->dec (NetIn nodes links words past)=false)/\((decide ((nodes.length:Int)≠5)||(decide ((past.length:Int)≠5)||(!dec (LinksIn links)||decide
 ((words.length:Int) > (24:Int)))))=false->I64 (nodes.length:Int)->(∃x:Nat,(x<=5/\∀a:Nat,a<x->PastP (kv past a) (bornOf nodes a))/\(nodes.length:Int) =
 (nodes.length:Int)/\0=(x:Int)/\nodes=nodes/\links=links/\words=words/\past=past)/\∀x:Nat,(x<=5/\∀a:Nat,a<x->PastP (kv past a) (bornOf nodes a))->(decide ((x:Int) <
 (nodes.length:Int))=true->(0<=(x:Int)/\(x:Int)<(past.length:Int))/\(0<=(x:Int)/\(x:Int)<(nodes.length:Int))/\(I64 ((nodes.getD x default).f 0).toInt->True/\((!dec (PastP (past.getD x
 default).kids ((nodes.getD x default).f 0).toInt))=true->dec (NetIn nodes links words past)=false)/\((!dec (PastP (past.getD x default).kids ((nodes.getD x default).f 0).toInt))
 = false->∃x_1:Nat,((x_1<=5/\∀a:Nat,a<x_1->PastP (kv past a) (bornOf nodes a))/\5-x_1<5-x)/\(nodes.length:Int)=(nodes.length:Int)/\i64.wrap ((x:Int)+1) =
 (x_1:Int)/\nodes=nodes/\links=links/\words=words/\past=past)))/\(decide ((x:Int)<(nodes.length:Int))=false->I64 (nodes.length:Int)->(∃(x:Nat×List Dat),(x.fst<=5/\(∀
 (a:Nat),a<x.fst->TreeIn nodes a/\OwnIn nodes past a)/\MapIn past x.snd)/\(nodes.length:Int)=(nodes.length:Int)/\0=(x.fst:Int)/\nodes=nodes/\links=links/\words=words/\past
 = past/\nodes=nodes/\links=links/\words=words/\past=past/\([]:List Dat)=x.snd)/\∀(x:Nat×List Dat),x.fst<=5/\(∀a:Nat,a<x.fst->TreeIn nodes a/\OwnIn nodes past a)/\MapIn
 past x.snd->(decide ((x.fst:Int)<(nodes.length:Int))->(NetPast nodes past/\0<=(x.fst:Int)/\(x.fst:Int)<5)/\((!dec (TreeIn nodes x.fst))=false->(NetPast nodes past/\MapIn past
 x.snd/\0<=(x.fst:Int)/\(x.fst:Int)<5)/\∀x_1:List Dat,MapIn past x_1->((!dec (OwnIn nodes past x.fst))=true->dec (NetIn nodes links words past)=false)/\((!dec (OwnIn nodes past
 x.fst))=false->∃(x_2:Nat×List Dat),((x_2.fst<=5/\(∀a:Nat,a<x_2.fst->TreeIn nodes a/\OwnIn nodes past a)/\MapIn past x_2.snd)/\5-x_2.fst<5-x.fst)/\(nodes.length:Int) =
 (nodes.length:Int)/\i64.wrap ((x.fst:Int)+1)=(x_2.fst:Int)/\nodes=nodes/\links=links/\words=words/\past=past/\nodes=nodes/\links=links/\words=words/\past=past/\x_1 =
 x_2.snd))/\((!dec (TreeIn nodes x.fst))=!false->dec (NetIn nodes links words past)=false))/\(decide ((x.fst:Int)<(nodes.length:Int))=false->I64 (words.length:Int)->(∃(x_1:Nat
 ×List Dat),(x_1.fst<=words.length/\(∀i:Nat,i<x_1.fst->WordInD nodes past (words.getD i default))/\MapIn past x_1.snd)/\words=words/\(words.length:Int) =
 (words.length:Int)/\0=(x_1.fst:Int)/\nodes=nodes/\links=links/\words=words/\past=past/\nodes=nodes/\links=links/\words=words/\past=past/\x.snd=x_1.snd)/\∀(x:Nat×
 List Dat),x.fst<=words.length/\(∀i:Nat,i<x.fst->WordInD nodes past (words.getD i default))/\MapIn past x.snd->(decide ((x.fst:Int)<(words.length:Int)) =
 true->(0<=(x.fst:Int)/\(x.fst:Int)<(words.length:Int))/\(NetPast nodes past/\MapIn past x.snd)/\∀x_1:List Dat,MapIn past x_1->((!dec (WordIn nodes past ((words.getD x.fst default).f
 0).toInt ((words.getD x.fst default).f 1).toInt ((words.getD x.fst default).f 2).toInt ((words.getD x.fst default).f 3).toInt ((words.getD x.fst default).f 4).toInt ((words.getD
 x.fst default).f 5).kids))=true->dec (NetIn nodes links words past)=false)/\((!dec (WordIn nodes past ((words.getD x.fst default).f 0).toInt ((words.getD x.fst default).f
 1).toInt ((words.getD x.fst default).f 2).toInt ((words.getD x.fst default).f 3).toInt ((words.getD x.fst default).f 4).toInt ((words.getD x.fst default).f 5).kids))=false->∃(x_2
 : Nat×List Dat),((x_2.fst<=words.length/\(∀i:Nat,i<x_2.fst->WordInD nodes past (words.getD i default))/\MapIn past x_2.snd)/\words.length-x_2.fst<words.length -
 x.fst)/\words=words/\(words.length:Int)=(words.length:Int)/\i64.wrap ((x.fst:Int)+1)=(x_2.fst:Int)/\nodes=nodes/\links=links/\words=words/\past=past/\nodes=nodes/\links =
 links/\words=words/\past=past/\x_1=x_2.snd))/\(decide ((x.fst:Int)<(words.length:Int))=false->dec (NetIn nodes links words past)=true)))):=by
  intro _ _ _ _;simp only[iv,kv,fv,nm,ne_eq,implies_true,eq_self];refine⟨fun h hn=>?_,fun hin _=>⟨⟨0,⟨by omega,fun a ha=>by omega⟩,by omega⟩,fun x hx=>⟨fun hlt=>⟨by omega,by omega,fun _=>⟨fun h hn=>?_,fun h=>⟨x+1,⟨⟨by omega,fun a ha=>?_⟩,by omega⟩,up_ok (n:=5) (by omega) (by omega)⟩⟩⟩,fun hge _=>?_⟩⟩⟩
  · rcases h with h | h | h | h
    · have:=hn.1;omega
    · have:=hn.2.1;omega
    · exact h (links_look hn.2.2.2.2.1 hn.2.2.1)
    · have:=hn.2.2.2.1;omega
  · exact h (past_p.2 ⟨(hn.2.2.2.2.1 x (by omega)).1,(hn.2.2.2.2.1 x (by omega)).2.1,(hn.2.2.2.2.1 x (by omega)).2.2.1⟩)
  · rcases Nat.lt_or_ge a x with h1 | h1
    · exact hx.2 a h1
    · rw[show a=x by omega];exact h
  · obtain⟨h5,hp5,hli,hw⟩:=hin;have h5:nodes.length=5:=by omega
    have hp5:past.length=5:=by omega
    have hnp:NetPast nodes past:=⟨h5,hp5,fun a ha=>past_p.1 (hx.2 a (by omega))⟩;have hL:LookTo nodes links past 5:=fun a ha=>by
      obtain⟨k1,k2,k3⟩:=hnp.2.2 a ha;refine⟨k1,k2,k3,?_,fun b hb=>(hli.2 a ha b (by omega)).1⟩
      have:=(hli.2 a ha a ha).2
      cases hv:lk links (a*5+a) with
      | false=>rfl
      | true=>exact absurd ⟨hv,rfl⟩ this
    refine⟨⟨(0,[]),⟨by simp only;omega,fun a ha=>by simp only at ha;omega,fun i hi=>by simp at hi⟩,rfl,rfl⟩,fun y hy=>⟨fun hlt=>⟨⟨hnp,by omega,by omega⟩,fun ht=>⟨⟨hnp,hy.2.2,by omega,by omega⟩,fun m1 hm1=>⟨fun ho hn=>ho (tree_in (hn.2.2.2.2.2.1 y.1 (by omega)) hn.2.2.2.2.2.2.2.2).2,fun ho=>⟨(y.1+1,m1),⟨⟨by simp only;omega,fun a ha=>?_,hm1⟩,by simp only;omega⟩,up_ok (n:=5) (by omega) (by omega),rfl⟩⟩⟩,fun ht hn=>?_⟩,fun hge _=>⟨⟨(0,y.2),⟨by simp only;omega,fun a ha=>by simp only at ha;omega,hy.2.2⟩,rfl,rfl⟩,fun z hz=>⟨fun hlt=>⟨by omega,⟨hnp,hz.2.2⟩,fun m1 hm1=>⟨fun ho hn=>ho (hn.2.2.2.2.2.2.1 z.1 (by omega)),fun ho=>⟨(z.1+1,m1),⟨⟨by simp only;omega,fun a ha=>?_,hm1⟩,by simp only;omega⟩,up_ok (n:=24) (by omega) (by omega),rfl⟩⟩⟩,fun hge2=>?_⟩⟩⟩⟩
    · simp only at ha;rcases Nat.lt_or_ge a y.1 with h1 | h1
      · exact hy.2.1 a h1
      · rw[show a=y.1 by omega];exact⟨ht,ho⟩
    · have ht:¬TreeIn nodes y.1:=by simpa using ht
      exact ht (tree_in (hn.2.2.2.2.2.1 y.1 (by omega)) hn.2.2.2.2.2.2.2.2).1
    · simp only at ha;rcases Nat.lt_or_ge a z.1 with h1 | h1
      · exact hz.2.1 a h1
      · rw[show a=z.1 by omega];exact ho
    · have ht0:=(hy.2.1 0 (by omega)).1;unfold TreeIn at ht0;rw[if_pos rfl] at ht0;exact⟨h5,hp5,hli.1,by omega,hL,fun i hi=>node_in (hy.2.1 i (by omega)).1 (hy.2.1 i (by omega)).2,fun i hi=>hz.2.1 i (by omega),ht0.2.2.1,ht0.2.2.2⟩
def iNetOk_get (ins:List SV) (m:St):Option Got:=
  match ins,m with
  | [.agg [.sl ty0 nodes,.sl .bool links,.sl ty1 words,.sl (.sl (.sl (.int .i64))) past]],⟨[],[],[]⟩=>guardTy ty0 TNode (guardTy ty1 TWord (some (True,.bool (dec (NetIn nodes links words past)),St.mk [] [] [])))
  | _,_=>none
theorem iNetOk_ok:Ok0 Tryz.prog 39 iNetOk_get:=by
  intro _ _ _ _ _ h hp;unfold iNetOk_get at h;split at h
  · replace h:=gT h;obtain⟨rfl,h⟩:=h;replace h:=gT h;obtain⟨rfl,h⟩:=h;rename_i nodes links words past;cases h;refine fn_ok0 (ct:=[iLinksOk_con,iPastOk_con,iTreeOk_con,iKnownOk_con,iWordOk_con]) (L:=fun k=>bif Nat.beq k 4 then some (.g (⟨Nat,fun s g=>hdb s [1,32] [(33,.int .i64 g)] s.bx s.rw,fun _ g=>g<=5/\∀a,a<g->PastP (kv past a) (bornOf nodes a),fun g=>5-g⟩)) else bif Nat.beq k 11 then some (.g (⟨Nat×List Dat,fun s g=>hdb s [1,4,56] [(57,.int .i64 g.1)] s.bx [⟨151,.mp TPr (.ho 44 (.im TSum)),g.2,0,false⟩],fun _ g=>g.1<=5/\(∀a,a<g.1->TreeIn nodes a/\OwnIn nodes past a)/\MapIn past g.2,fun g=>5-g.1⟩)) else bif Nat.beq k 17 then some (.g (⟨Nat×List Dat,fun s g=>hdb s [1,4,72,73] [(74,.int .i64 g.1)] s.bx [⟨151,.mp TPr (.ho 44 (.im TSum)),g.2,0,false⟩],fun _ g=>g.1<=words.length/\(∀i,i<g.1->WordInD nodes past (words.getD i default))/\MapIn past g.2,fun g=>words.length-g.1⟩)) else none) Tryz_follows Tryz.func39 ?_;apply VC.thru (iNetOk_vc nodes links words past);kernel_rfl
  · cases h
def iNetOk_con:Con Tryz.prog:=.f0 39 [] true iNetOk_get (enters Tryz.func39 (by kernel_rfl) rfl) iNetOk_ok
def SumSmall (x:SumD):Prop:=(x.rows.length<=1000/\∀i,(kv x.rows i).length<=1000)/\x.kept.length<=1000/\x.prs.length<=1000/\x.kn.length<=1000
def toldIn (nodes past:List Dat) (d:Dat):Prop:=0<=(d.f 0).toInt/\(d.f 0).toInt<=4/\1<=(d.f 1).toInt/\(d.f 1).toInt<=bornOf nodes (d.f 0).toInt.toNat/\0<=(d.f 2).toInt/\(d.f 2).toInt<=((pastOf past (d.f 0).toInt.toNat (d.f 1).toInt.toNat).length:Int)
def listOne (nodes past:List Dat) (d:Dat):List Dat:=bif dec (toldIn nodes past d) then (pastOf past (d.f 0).toInt.toNat (d.f 1).toInt.toNat).take (d.f 2).toInt.toNat else []
def listTo (nodes past known:List Dat) (n:Nat):List Dat:=(known.take n).flatMap (listOne nodes past)
theorem known_len {nodes past l:List Dat} (h:KnownTo nodes past l l.length):l.length<=5:=by
  have h1:∀i,i<l.length->(i:Int)<=fv l i 0:=by
    intro i
    induction i with
    | zero=>intro hi;have:=(h 0 hi).1.1;exact this
    | succ i ih=>
      intro hi;have h2:=ih (by omega);have h3:=(h (i+1) hi).2 (by omega);rw[Nat.add_sub_cancel] at h3;omega
  rcases Nat.lt_or_ge 5 l.length with h5 | h5
  · have h2:=h1 5 h5;have h3:fv l 5 0<=4:=(h 5 h5).1.2.1;omega
  · exact h5
theorem SumIn.small {y:SumD} (h:SumIn y):SumSmall y:=
  ⟨⟨by have:=h.1.1;omega,fun i=>by have:=h.1.rows i;omega⟩,by have:=h.2.1.1;omega,by have:=h.2.2.1.2.1;omega,by have:=kn_le h.2.2.2.1.2.2.1;omega⟩
theorem rws_row (l:List Dat) (i:Nat):(kv l i).length=((rws l).getD i []).length:=by
  rcases Nat.lt_or_ge i l.length with h | h
  · simp [rws,kv,List.getD_eq_getElem?_getD,List.getElem?_eq_getElem h,ints]
  · simp [rws,kv,List.getD_eq_getElem?_getD,List.getElem?_eq_none h];rfl
theorem SameS.small {y z:SumD} (h:SameS y z) (hs:SumSmall y):SumSmall z:=by
  obtain⟨h1,h2,h3,_,_,h4,_⟩:=h;obtain⟨⟨s1,s2⟩,s3,s4,s5⟩:=hs;refine⟨⟨?_,fun i=>?_⟩,?_,?_,?_⟩
  · rw[<- rws_length,<- h1,rws_length];exact s1
  · rw[rws_row,<- h1,<- rws_row];exact s2 i
  · rw[<- ints_length,<- h2,ints_length];exact s3
  · rw[<- prs_length,<- h3,prs_length];exact s4
  · rw[<- prs_length,<- h4,prs_length];exact s5
theorem NetPast.entSum {nodes past:List Dat} (h:NetPast nodes past) {node born num:Int} (h0:0<=node) (h1:node<=4) (h2:1<=born) (h3:born<=bornOf nodes node.toNat):SumIn (entSum past node born num):=by
  have ht:=(h.things (a:=node.toNat) (b:=born.toNat) (by omega) (by omega)).2;refine (sumOf_in (fun t hm=>ht.ints t ?_) ?_).1
  · rw[ints_take] at hm;exact List.mem_of_mem_take hm
  · rw[ints_length,List.length_take];have:=ht.2;omega
theorem known_small {nodes past l:List Dat} (hn:NetPast nodes past) (h:KnownTo nodes past l l.length):l.length<=1000/\∀i,i<l.length->SumSmall (sumD ((l.getD i default).f 3)):=by
  have:=known_len h
  refine⟨by omega,fun i hi=>?_⟩;obtain⟨a1,a2,a3,a4,_,_,a5⟩:=(h i hi).1;exact a5.small (hn.entSum a1 a2 a3 a4).small
theorem NetIn.past {nodes links words past:List Dat} (h:NetIn nodes links words past):NetPast nodes past:=h.2.2.2.2.1.past h.1 h.2.1
theorem NetIn.known {nodes links words past:List Dat} (h:NetIn nodes links words past) {a:Nat} (ha:a<5):KnownTo nodes past (knownOf nodes a) (knownOf nodes a).length:=(h.2.2.2.2.2.1 a ha).2.1
theorem listTo_next {nodes past known:List Dat} {i:Nat} (h:i<known.length):listTo nodes past known (i+1)=listTo nodes past known i++listOne nodes past (known.getD i default):=by
  unfold listTo;rw[take_getD h,List.flatMap_append];simp
theorem listOne_length {nodes past:List Dat} (hn:NetPast nodes past) (d:Dat):(listOne nodes past d).length<=100:=by
  unfold listOne;cases hd:dec (toldIn nodes past d) with
  | false=>exact Nat.zero_le _
  | true=>
    obtain⟨h1,h2,h3,h4,_⟩:=dec_eq_true.1 hd
    have:=(hn.things (a:=(d.f 0).toInt.toNat) (b:=(d.f 1).toInt.toNat) (by omega) (by omega)).2.2
    simp only[cond_true,List.length_take];omega
theorem listTo_length {nodes past known:List Dat} (hn:NetPast nodes past):∀i,i<=known.length->(listTo nodes past known i).length<=100*i
  | 0,_=>by simp [listTo]
  | i+1,h=>by
    rw[listTo_next (known:=known) (i:=i) (by omega),List.length_append]
    have:=listTo_length (known:=known) hn i (by omega)
    have:=listOne_length hn (known.getD i default)
    omega
theorem netKnown_vc (nodes links words past:List Dat) (a:Int) :
 WFl TNode nodes->WFl Ty.bool links->WFl TWord words->WFl (Ty.int i64).sl.sl past->I64 a->(True/\((!dec (NetIn nodes links words past))=false->True)/\True)/\((!dec (NetIn nodes links words
 past)||!(decide (0<=a)&&decide (a<=(4:Int))))=true->[]=bif dec (NetIn nodes links words past/\0<=a/\a<=(4:Int)) then knownOf nodes a.toNat else [])/\((!dec (NetIn nodes
 links words past)||!(decide (0<=a)&&decide (a<=(4:Int))))=false->(0<=a/\a<(nodes.length:Int))/\(((nodes.getD a.toNat default).f 1).kids.length<=1000/\∀i:Nat,i <
 ((nodes.getD a.toNat default).f 1).kids.length->SumSmall (sumD ((((nodes.getD a.toNat default).f 1).kids.getD i default).f 3)))/\((nodes.getD a.toNat default).f 1).kids=bif dec
 (NetIn nodes links words past/\0<=a/\a<=(4:Int)) then knownOf nodes a.toNat else []):=by
  intro hw1 hw2 hw3 hw4 _;simp only[iv,kv,fv,nm,ne_eq,implies_true,eq_self];refine⟨fun h=>?_,fun h=>⟨⟨by omega,by have:=h.1.1;omega⟩,known_small h.1.past (h.1.known (a:=a.toNat) (by omega)),?_⟩⟩
  · rw[dec_no (by rintro⟨h1,h2,h3⟩;rcases h with h | h | h<;>contradiction)];rfl
  · rw[dec_yes h];rfl
def netKnown_get (ins:List SV) (m:St):Option Got:=
  match ins,m with
  | [.agg [.sl ty0 nodes,.sl .bool links,.sl ty1 words,.sl (.sl (.sl (.int .i64))) past],.int .i64 a],⟨[],[],[]⟩=>guardTy ty0 TNode (guardTy ty1 TWord (some (True,.sl TEnt (bif dec (NetIn nodes links words past/\0<=a/\a<=4) then knownOf nodes a.toNat else []),St.mk [] [] [])))
  | _,_=>none
theorem netList_vc (nodes links words past known:List Dat) (hp:known.length<=10000000) :
 WFl TNode nodes->WFl Ty.bool links->WFl TWord words->WFl (Ty.int i64).sl.sl past->WFl TEnt known->True/\((!dec (NetIn nodes links words past))=true->([]:List Dat)=bif dec (NetIn nodes
 links words past) then listTo nodes past known known.length else [])/\((!dec (NetIn nodes links words past))=false->(∃x:Nat,x<=known.length/\nodes=nodes/\links=links/\words =
 words/\past=past/\known=known/\0=(x:Int)/\nodes=nodes/\links=links/\words=words/\past=past/\([]:List Dat)=listTo nodes past known x)/\∀x:Nat,x<=known.length->I64
 (known.length:Int)->(decide ((x:Int)<(known.length:Int))->(0<=(x:Int)/\(x:Int)<(known.length:Int))/\(I64 ((known.getD x default).f 0).toInt->True/\((decide
 (0<=((known.getD x default).f 0).toInt)&&decide (((known.getD x default).f 0).toInt<=(4:Int)))=true->I64 ((known.getD x default).f 1).toInt->I64 ((known.getD x default).f
 0).toInt->(0<=((known.getD x default).f 0).toInt/\((known.getD x default).f 0).toInt<(nodes.length:Int))/\(I64 ((nodes.getD ((known.getD x default).f 0).toInt.toNat default).f
 0).toInt->True/\((decide (1<=((known.getD x default).f 1).toInt)&&decide (((known.getD x default).f 1).toInt<=((nodes.getD ((known.getD x default).f 0).toInt.toNat default).f
 0).toInt))=true->I64 ((known.getD x default).f 2).toInt->I64 ((known.getD x default).f 0).toInt->(0<=((known.getD x default).f 0).toInt/\((known.getD x default).f 0).toInt <
 (past.length:Int))/\(I64 ((known.getD x default).f 1).toInt->(0<=((known.getD x default).f 1).toInt/\((known.getD x default).f 1).toInt<(↑(past.getD ((known.getD x default).f
 0).toInt.toNat default).kids.length:Int))/\(I64 (↑((past.getD ((known.getD x default).f 0).toInt.toNat default).kids.getD ((known.getD x default).f 1).toInt.toNat
 default).kids.length:Int)->True)))/\True))/\True)/\((decide (0<=((known.getD x default).f 0).toInt)&&decide (((known.getD x default).f 0).toInt<=(4:Int))&&(decide
 (1<=((known.getD x default).f 1).toInt)&&decide (((known.getD x default).f 1).toInt<=((nodes.getD ((known.getD x default).f 0).toInt.toNat default).f 0).toInt)&&(decide
 (0<=((known.getD x default).f 2).toInt)&&decide (((known.getD x default).f 2).toInt<=(↑((past.getD ((known.getD x default).f 0).toInt.toNat default).kids.getD ((known.getD x
 default).f 1).toInt.toNat default).kids.length:Int)))))=true->(0<=((known.getD x default).f 0).toInt/\((known.getD x default).f 0).toInt <
 (past.length:Int))/\(0<=((known.getD x default).f 1).toInt/\((known.getD x default).f 1).toInt<(↑(past.getD ((known.getD x default).f 0).toInt.toNat
 default).kids.length:Int))/\(0<=(0:Int)/\0<=((known.getD x default).f 2).toInt/\((known.getD x default).f 2).toInt<=(↑((past.getD ((known.getD x default).f 0).toInt.toNat
 default).kids.getD ((known.getD x default).f 1).toInt.toNat default).kids.length:Int))/\((listTo nodes past known x).length+(List.drop 0 (List.take ((known.getD x default).f
 2).toInt.toNat ((past.getD ((known.getD x default).f 0).toInt.toNat default).kids.getD ((known.getD x default).f 1).toInt.toNat default).kids)).length)*8<=140737488355328/\∃
 (x_1:Nat),(x_1<=known.length/\known.length-x_1<known.length-x)/\nodes=nodes/\links=links/\words=words/\past=past/\known=known/\i64.wrap ((x:Int)+1)=(x_1:Int)/\nodes =
 nodes/\links=links/\words=words/\past=past/\listTo nodes past known x++List.drop 0 (List.take ((known.getD x default).f 2).toInt.toNat ((past.getD ((known.getD x default).f
 0).toInt.toNat default).kids.getD ((known.getD x default).f 1).toInt.toNat default).kids)=listTo nodes past known x_1)/\((decide (0<=((known.getD x default).f 0).toInt) &&
 decide (((known.getD x default).f 0).toInt<=(4:Int))&&(decide (1<=((known.getD x default).f 1).toInt)&&decide (((known.getD x default).f 1).toInt<=((nodes.getD ((known.getD
 x default).f 0).toInt.toNat default).f 0).toInt)&&(decide (0<=((known.getD x default).f 2).toInt)&&decide (((known.getD x default).f 2).toInt<=(↑((past.getD ((known.getD x
 default).f 0).toInt.toNat default).kids.getD ((known.getD x default).f 1).toInt.toNat default).kids.length:Int)))))=false->∃x_1:Nat,(x_1<=known.length/\known.length-x_1 <
 known.length-x)/\nodes=nodes/\links=links/\words=words/\past=past/\known=known/\i64.wrap ((x:Int)+1)=(x_1:Int)/\nodes=nodes/\links=links/\words=words/\past =
 past/\listTo nodes past known x=listTo nodes past known x_1))/\(decide ((x:Int)<(known.length:Int))=false->listTo nodes past known x=bif dec (NetIn nodes links words past)
 then listTo nodes past known known.length else [])):=by
  intro hw1 hw2 hw3 hw4 hw5;simp only[iv,kv,fv,nm,ne_eq,implies_true,eq_self];refine⟨fun h=>by rw[dec_no h];rfl,fun h=>⟨⟨0,by omega,rfl,rfl⟩,fun x hx _=>?_⟩⟩;have hn:=h.past;have hpl:=hn.2.1;have hnl:=hn.1;have hlen:=listTo_length (known:=known) hn x hx;refine⟨fun hlt=>?_,fun hlt=>by rw[dec_yes h,show x=known.length from by omega];rfl⟩;have hup:=up_ok (n:=10000000) (i:=x) (by omega) (by omega);have hnx:=listTo_next (nodes:=nodes) (past:=past) (known:=known) (i:=x) (by omega);have hone:=listOne_length hn (known.getD x default);rw[hnl,hpl];have hth:0<=((known.getD x default).f 0).toInt->((known.getD x default).f 0).toInt<=4->1<=((known.getD x default).f 1).toInt->((known.getD x default).f 1).toInt<=((nodes.getD ((known.getD x default).f 0).toInt.toNat default).f 0).toInt->((known.getD x default).f 1).toInt.toNat<(past.getD ((known.getD x default).f 0).toInt.toNat default).kids.length:=fun h1 h2 h3 h4=>(hn.things (a:=((known.getD x default).f 0).toInt.toNat) (b:=((known.getD x default).f 1).toInt.toNat) (by omega) (by simp only[bornOf,fv];omega)).1
  have hdef:listOne nodes past (known.getD x default)=bif dec (toldIn nodes past (known.getD x default)) then ((past.getD ((known.getD x default).f 0).toInt.toNat default).kids.getD ((known.getD x default).f 1).toInt.toNat default).kids.take ((known.getD x default).f 2).toInt.toNat else []:=rfl
  have htold:toldIn nodes past (known.getD x default) ↔ 0<=((known.getD x default).f 0).toInt/\((known.getD x default).f 0).toInt<=4/\1<=((known.getD x default).f 1).toInt/\((known.getD x default).f 1).toInt<=((nodes.getD ((known.getD x default).f 0).toInt.toNat default).f 0).toInt/\0<=((known.getD x default).f 2).toInt/\((known.getD x default).f 2).toInt<=(((past.getD ((known.getD x default).f 0).toInt.toNat default).kids.getD ((known.getD x default).f 1).toInt.toNat default).kids.length:Int):=Iff.rfl;simp only[List.drop_zero];generalize (known.getD x default)=d at *
  refine⟨by omega,fun _ h1 _ _=>⟨by omega,fun _ h2 _ _=>⟨by omega,fun _=>?_⟩⟩,fun hc=>?_,fun hc=>?_⟩
  · have:=hth h1.1 h1.2 h2.1 h2.2;omega
  · obtain⟨⟨a1,a2⟩,⟨a3,a4⟩,a5,a6⟩:=hc;have hb:=hth a1 a2 a3 a4;rw[hdef,dec_yes (htold.2 ⟨a1,a2,a3,a4,a5,a6⟩),cond_true] at hone hnx;exact⟨by omega,by omega,by omega,by omega,x+1,by omega,hup,hnx.symm⟩
  · rw[hdef,dec_no (fun ht=>by have:=htold.1 ht;omega),cond_false,List.append_nil] at hnx;exact⟨x+1,by omega,hup,hnx.symm⟩
def netList_get (ins:List SV) (m:St):Option Got:=
  match ins,m with
  | [.agg [.sl ty0 nodes,.sl .bool links,.sl ty1 words,.sl (.sl (.sl (.int .i64))) past],.sl ty2 known],⟨[],[],[]⟩=>guardTy ty0 TNode (guardTy ty1 TWord (guardTy ty2 TEnt (some (known.length<=10000000,.sl (.int .i64) (bif dec (NetIn nodes links words past) then listTo nodes past known known.length else []),St.mk [] [] []))))
  | _,_=>none
theorem netList_ok:Ok0 Tryz.prog 19 netList_get:=by
  intro _ _ _ _ _ h hp;unfold netList_get at h;split at h
  · replace h:=gT h;obtain⟨rfl,h⟩:=h;replace h:=gT h;obtain⟨rfl,h⟩:=h;replace h:=gT h;obtain⟨rfl,h⟩:=h;rename_i nodes links words past known;cases h;refine fn_ok0 (ct:=[netOk_con,l6In_con]) (L:=fun k=>bif Nat.beq k 5 then some (.g (⟨Nat,fun s g=>hdb s [0,1,2,4] [(5,.own 0),(6,.int .i64 g)] s.bx [⟨3,.im (.int .i64),listTo nodes past known g,0,false⟩],fun _ g=>g<=known.length,fun g=>known.length-g⟩)) else none) Tryz_follows Tryz.func19 ?_;apply VC.thru (netList_vc nodes links words past known hp);kernel_rfl
  · cases h
def netList_con:Con Tryz.prog:=.f0 19 [] false netList_get (enters Tryz.func19 (by kernel_rfl) rfl) netList_ok
theorem iNetList_vc (nodes links words past known:List Dat) (hp:known.length<=10000000) :
 WFl TNode nodes->WFl Ty.bool links->WFl TWord words->WFl (Ty.int i64).sl.sl past->WFl TEnt known->True/\((!dec (NetIn nodes links words past))=true->([]:List Dat)=bif dec (NetIn nodes
 links words past) then listTo nodes past known known.length else [])/\((!dec (NetIn nodes links words past))=false->I64 (known.length:Int)->(∃x:Nat,x<=known.length/\known =
 known/\(known.length:Int)=(known.length:Int)/\0=(x:Int)/\nodes=nodes/\links=links/\words=words/\past=past/\([]:List Dat)=listTo nodes past known x)/\∀x:Nat,
 x<=known.length->(decide ((x:Int)<(known.length:Int))->(0<=(x:Int)/\(x:Int)<(known.length:Int))/\NetPast nodes past/\(dec (0<=((known.getD x default).f
 0).toInt/\((known.getD x default).f 0).toInt<=(4:Int)/\1<=((known.getD x default).f 1).toInt/\((known.getD x default).f 1).toInt<=bornOf nodes ((known.getD x default).f
 0).toInt.toNat/\0<=((known.getD x default).f 2).toInt/\((known.getD x default).f 2).toInt<=(↑(pastOf past ((known.getD x default).f 0).toInt.toNat ((known.getD x default).f
 1).toInt.toNat).length:Int))=true->(0<=((known.getD x default).f 0).toInt/\((known.getD x default).f 0).toInt<(past.length:Int))/\(0<=((known.getD x default).f
 1).toInt/\((known.getD x default).f 1).toInt<(↑(past.getD ((known.getD x default).f 0).toInt.toNat default).kids.length:Int))/\(0<=(0:Int)/\0<=((known.getD x default).f
 2).toInt/\((known.getD x default).f 2).toInt<=(↑((past.getD ((known.getD x default).f 0).toInt.toNat default).kids.getD ((known.getD x default).f 1).toInt.toNat
 default).kids.length:Int))/\((listTo nodes past known x).length+(List.drop 0 (List.take ((known.getD x default).f 2).toInt.toNat ((past.getD ((known.getD x default).f
 0).toInt.toNat default).kids.getD ((known.getD x default).f 1).toInt.toNat default).kids)).length)*8<=140737488355328/\∃x_1:Nat,(x_1<=known.length/\known.length-x_1 <
 known.length-x)/\known=known/\(known.length:Int)=(known.length:Int)/\i64.wrap ((x:Int)+1)=(x_1:Int)/\nodes=nodes/\links=links/\words=words/\past=past/\listTo nodes past
 known x++List.drop 0 (List.take ((known.getD x default).f 2).toInt.toNat ((past.getD ((known.getD x default).f 0).toInt.toNat default).kids.getD ((known.getD x default).f
 1).toInt.toNat default).kids)=listTo nodes past known x_1)/\(dec (0<=((known.getD x default).f 0).toInt/\((known.getD x default).f 0).toInt<=(4:Int)/\1<=((known.getD x
 default).f 1).toInt/\((known.getD x default).f 1).toInt<=bornOf nodes ((known.getD x default).f 0).toInt.toNat/\0<=((known.getD x default).f 2).toInt/\((known.getD x default).f
 2).toInt<=(↑(pastOf past ((known.getD x default).f 0).toInt.toNat ((known.getD x default).f 1).toInt.toNat).length:Int))=false->∃x_1:Nat,(x_1<=known.length/\known.length-x_1 <
 known.length-x)/\known=known/\(known.length:Int)=(known.length:Int)/\i64.wrap ((x:Int)+1)=(x_1:Int)/\nodes=nodes/\links=links/\words=words/\past=past/\listTo nodes past
 known x=listTo nodes past known x_1))/\(decide ((x:Int)<(known.length:Int))=false->listTo nodes past known x=bif dec (NetIn nodes links words past) then listTo nodes past
 known known.length else [])):=by
  intro _ _ _ _ _;simp only[iv,kv,fv,nm,ne_eq,implies_true,eq_self];refine⟨fun h=>by rw[dec_no h];rfl,fun h _=>⟨⟨0,by omega,rfl,rfl⟩,fun x hx=>⟨fun hlt=>?_,fun hge=>by rw[dec_yes h,show x=known.length by omega];rfl⟩⟩⟩;have hn:=h.past;have hpl:=hn.2.1;have hlen:=listTo_length (known:=known) hn x hx;have hx1:x<known.length:=by omega
  have hup:=up_ok (n:=10000000) (i:=x) (by omega) (by omega);have hnx:=listTo_next (nodes:=nodes) (past:=past) (known:=known) hx1;have hone:=listOne_length hn (known.getD x default);have hdef:listOne nodes past (known.getD x default)=bif dec (toldIn nodes past (known.getD x default)) then ((past.getD ((known.getD x default).f 0).toInt.toNat default).kids.getD ((known.getD x default).f 1).toInt.toNat default).kids.take ((known.getD x default).f 2).toInt.toNat else []:=rfl
  have htold:toldIn nodes past (known.getD x default) ↔ (0<=((known.getD x default).f 0).toInt/\((known.getD x default).f 0).toInt<=4/\1<=((known.getD x default).f 1).toInt/\((known.getD x default).f 1).toInt<=bornOf nodes ((known.getD x default).f 0).toInt.toNat/\0<=((known.getD x default).f 2).toInt/\((known.getD x default).f 2).toInt<=((pastOf past ((known.getD x default).f 0).toInt.toNat ((known.getD x default).f 1).toInt.toNat).length:Int)):=Iff.rfl;simp only[List.drop_zero];refine⟨by omega,hn,fun ht=>?_,fun ht=>?_⟩
  · have ht2:=ht;obtain⟨a1,a2,a3,a4,a5,a6⟩:=ht2;have hb:=(hn.things (a:=((known.getD x default).f 0).toInt.toNat) (b:=((known.getD x default).f 1).toInt.toNat) (by omega) (by omega)).1;simp only[kv] at hb;rw[hdef,dec_yes (htold.2 ht),cond_true] at hone hnx;exact⟨by omega,by omega,⟨by omega,a5,a6⟩,by omega,x+1,by omega,hup,hnx.symm⟩
  · rw[hdef,dec_no (fun h2=>ht (htold.1 h2)),cond_false,List.append_nil] at hnx;exact⟨x+1,by omega,hup,hnx.symm⟩
def iNetList_get (ins:List SV) (m:St):Option Got:=
  match ins,m with
  | [.agg [.sl ty0 nodes,.sl .bool links,.sl ty1 words,.sl (.sl (.sl (.int .i64))) past],.sl ty2 known],⟨[],[],[]⟩=>guardTy ty0 TNode (guardTy ty1 TWord (guardTy ty2 TEnt (some (known.length<=10000000,.own 0,St.mk [] [] [⟨3,.im (.int .i64),bif dec (NetIn nodes links words past) then listTo nodes past known known.length else [],0,false⟩]))))
  | _,_=>none
theorem iNetList_ok:Ok0 Tryz.prog 11 iNetList_get:=by
  intro _ _ _ _ _ h hp;unfold iNetList_get at h;split at h
  · replace h:=gT h;obtain⟨rfl,h⟩:=h;replace h:=gT h;obtain⟨rfl,h⟩:=h;replace h:=gT h;obtain⟨rfl,h⟩:=h;rename_i nodes links words past known;cases h;refine fn_ok0 (ct:=[iNetOk_con,iCounted_con]) (L:=fun k=>bif Nat.beq k 5 then some (.g (⟨Nat,fun s g=>hdb s [2,11,12] [(5,.own 0),(13,.int .i64 g)] s.bx [⟨3,.im (.int .i64),listTo nodes past known g,0,false⟩],fun _ g=>g<=known.length,fun g=>known.length-g⟩)) else none) Tryz_follows Tryz.func11 ?_;apply VC.thru (iNetList_vc nodes links words past known hp);kernel_rfl
  · cases h
def iNetList_con:Con Tryz.prog:=.f0 11 [.d,.d,.lend] true iNetList_get (enters Tryz.func11 (by kernel_rfl) rfl) iNetList_ok
theorem lawNetList_vc (nodes links words past known:List Dat) :
 WFl TNode nodes->WFl Ty.bool links->WFl TWord words->WFl (Ty.int i64).sl.sl past->WFl TEnt known->(0<=(1048576:Int)/\1048576<=(1048576:Int))/\(decide (szR (totL TNode nodes +
 totL Ty.bool links+totL TWord words+totL (Ty.int i64).sl.sl past) (1048576:Int)<0)=true->true=true)/\(decide (szR (totL TNode nodes+totL Ty.bool links+totL TWord
 words+totL (Ty.int i64).sl.sl past) (1048576:Int)<0)=false->(0<=szR (totL TNode nodes+totL Ty.bool links+totL TWord words+totL (Ty.int i64).sl.sl past)
 (1048576:Int)/\szR (totL TNode nodes+totL Ty.bool links+totL TWord words+totL (Ty.int i64).sl.sl past) 1048576<=(1048576:Int))/\(decide (szR (totL TEnt known) (szR (totL
 TNode nodes+totL Ty.bool links+totL TWord words+totL (Ty.int i64).sl.sl past) (1048576:Int))<(0:Int))=true->true=true)/\(decide (szR (totL TEnt known) (szR (totL TNode
 nodes+totL Ty.bool links+totL TWord words+totL (Ty.int i64).sl.sl past) (1048576:Int))<(0:Int))=false->totL TNode nodes+totL Ty.bool links+totL TWord words+totL
 (Ty.int i64).sl.sl past<=1048576/\totL TEnt known<=1048576/\known.length<=10000000/\totL TNode nodes+totL Ty.bool links+totL TWord words+totL (Ty.int i64).sl.sl past<=1048576/\totL
 TEnt known<=1048576/\known.length<=10000000/\True/\((!dec ((bif dec (NetIn nodes links words past) then listTo nodes past known known.length else [])=bif dec (NetIn nodes links words
 past) then listTo nodes past known known.length else []))=true->true=false)/\((!dec ((bif dec (NetIn nodes links words past) then listTo nodes past known known.length else []) =
 bif dec (NetIn nodes links words past) then listTo nodes past known known.length else []))=false->totL TNode nodes+totL Ty.bool links+totL TWord words+totL (Ty.int
 i64).sl.sl past<=1048576/\True/\((!dec (nodes=nodes/\links=links/\words=words/\past=past))=true->true=false)/\((!dec (nodes=nodes/\links=links/\words=words/\past=past)) =
 false->totL TEnt known<=1048576/\True/\((!dec (known=known))=true->true=false)/\((!dec (known=known))=false->(0<=(1:Int)/\(1:Int)+6*(↑(totL TNode nodes+totL
 Ty.bool links+totL TWord words+totL (Ty.int i64).sl.sl past):Int)<=1099511627776)/\(0<=(walkD (markD MK.int.sl.sl) past (walkD (markD mWd) words (walkD (markD MK.bool)
 links (walkD (markD mNd) nodes (1:Int)).snd).snd).snd).snd/\(walkD (markD MK.int.sl.sl) past (walkD (markD mWd) words (walkD (markD MK.bool) links (walkD (markD mNd) nodes
 (1:Int)).snd).snd).snd).snd+(6:Int)*(↑(totL TEnt known):Int)<=1099511627776)/\(decide ((walkD (markD mEnt) known (walkD (markD MK.int.sl.sl) past (walkD (markD mWd) words
 (walkD (markD MK.bool) links (walkD (markD mNd) nodes (1:Int)).snd).snd).snd).snd).snd<(0:Int))=false->True/\((!dec ((bif dec (NetIn nodes links words past) then listTo nodes
 past known known.length else [])=bif dec (NetIn nodes links words past) then listTo nodes past known known.length else []))=true->true=false)/\((!dec ((bif dec (NetIn nodes
 links words past) then listTo nodes past known known.length else [])=bif dec (NetIn nodes links words past) then listTo nodes past known known.length else [])) =
 false->(0<=(1:Int)/\(1:Int)+6*(↑(totL (Ty.int i64) (bif dec (NetIn nodes links words past) then listTo nodes past known known.length else
 [])):Int)<=1099511627776)/\(0<=(1:Int)/\(walkD (markD MK.int) (walkD (markD MK.int) (bif dec (NetIn nodes links words past) then listTo nodes past known known.length else
 []) (1:Int)).fst (1:Int)).fst=(walkD (markD MK.int) (bif dec (NetIn nodes links words past) then listTo nodes past known known.length else []) (1:Int)).fst/\(walkD (markD MK.int)
 (walkD (markD MK.int) (bif dec (NetIn nodes links words past) then listTo nodes past known known.length else []) (1:Int)).fst (1:Int)).snd<=(1099511627776:Int))/\(decide ((walkD
 (markD MK.int) (walkD (markD MK.int) (bif dec (NetIn nodes links words past) then listTo nodes past known known.length else []) (1:Int)).fst (1:Int)).snd<(0:Int))=true->true =
 false)/\(decide ((walkD (markD MK.int) (walkD (markD MK.int) (bif dec (NetIn nodes links words past) then listTo nodes past known known.length else []) (1:Int)).fst (1:Int)).snd <
 (0:Int))=false->(decide ((walkD (markD MK.int) (walkD (markD MK.int) (bif dec (NetIn nodes links words past) then listTo nodes past known known.length else []) (1:Int)).fst
 (1:Int)).snd≠(walkD (markD MK.int) (bif dec (NetIn nodes links words past) then listTo nodes past known known.length else []) (1:Int)).snd)=true->true=false)/\(decide ((walkD
 (markD MK.int) (walkD (markD MK.int) (bif dec (NetIn nodes links words past) then listTo nodes past known known.length else []) (1:Int)).fst (1:Int)).snd≠(walkD (markD MK.int) (bif
 dec (NetIn nodes links words past) then listTo nodes past known known.length else []) (1:Int)).snd)=false->totL TNode nodes+totL Ty.bool links+totL TWord words+totL (Ty.int
 i64).sl.sl past<=1048576/\totL TEnt known<=1048576/\known.length<=10000000/\True/\((!dec ((bif dec (NetIn nodes links words past) then listTo nodes past known known.length else [])=bif
 dec (NetIn nodes links words past) then listTo nodes past known known.length else []))=true->true=false)/\((!dec ((bif dec (NetIn nodes links words past) then listTo nodes past
 known known.length else [])=bif dec (NetIn nodes links words past) then listTo nodes past known known.length else []))=false->(0<=(1:Int)/\(walkD (markD MK.int) (walkD
 (markD MK.int) (bif dec (NetIn nodes links words past) then listTo nodes past known known.length else []) (1:Int)).fst (1:Int)).fst=(walkD (markD MK.int) (bif dec (NetIn nodes
 links words past) then listTo nodes past known known.length else []) (1:Int)).fst/\(walkD (markD MK.int) (walkD (markD MK.int) (bif dec (NetIn nodes links words past) then listTo
 nodes past known known.length else []) (1:Int)).fst (1:Int)).snd<=(1099511627776:Int))/\(decide ((walkD (markD MK.int) (walkD (markD MK.int) (bif dec (NetIn nodes links words past)
 then listTo nodes past known known.length else []) (1:Int)).fst (1:Int)).snd<(0:Int))=true->true=false)/\(decide ((walkD (markD MK.int) (walkD (markD MK.int) (bif dec (NetIn
 nodes links words past) then listTo nodes past known known.length else []) (1:Int)).fst (1:Int)).snd<(0:Int))=false->(decide ((walkD (markD MK.int) (walkD (markD MK.int) (bif
 dec (NetIn nodes links words past) then listTo nodes past known known.length else []) (1:Int)).fst (1:Int)).snd≠(walkD (markD MK.int) (bif dec (NetIn nodes links words past) then
 listTo nodes past known known.length else []) (1:Int)).snd)=true->true=false)/\(decide ((walkD (markD MK.int) (walkD (markD MK.int) (bif dec (NetIn nodes links words past) then
 listTo nodes past known known.length else []) (1:Int)).fst (1:Int)).snd≠(walkD (markD MK.int) (bif dec (NetIn nodes links words past) then listTo nodes past known known.length else
 []) (1:Int)).snd)=false->true=true)))))))/\(decide ((walkD (markD mEnt) known (walkD (markD MK.int.sl.sl) past (walkD (markD mWd) words (walkD (markD MK.bool) links (walkD (markD
 mNd) nodes (1:Int)).snd).snd).snd).snd).snd<(0:Int))=!false->true=false)))))):=by
  intro _ _ _ _ _;have h1:=szR_neg (n:=totL TNode nodes+totL .bool links+totL TWord words+totL (.sl (.sl (.int .i64))) past) (left:=1048576);have h2:=szR_pos (n:=totL TNode nodes+totL .bool links+totL TWord words+totL (.sl (.sl (.int .i64))) past) (left:=1048576);have h0:=@szR_ge (totL TNode nodes+totL .bool links+totL TWord words+totL (.sl (.sl (.int .i64))) past) 1048576;have h3:=@szR_neg (totL TEnt known);have h4:=@szR_pos (totL TEnt known);have hk:=totL_length TEnt known;have hR:((bif dec (NetIn nodes links words past) then listTo nodes past known known.length else []:List Dat).length)<=100*known.length:=by
    cases hd:dec (NetIn nodes links words past) with
    | true=>exact listTo_length (dec_eq_true.1 hd).past known.length (Nat.le_refl _)
    | false=>exact Nat.zero_le _
  have hR2:=totL_flat (tot_int .i64) (bif dec (NetIn nodes links words past) then listTo nodes past known known.length else []);generalize (bif dec (NetIn nodes links words past) then listTo nodes past known known.length else []:List Dat)=r at hR hR2 ⊢;have hi:=mi_list mi_int r 1;have hb:=mb_list mb_int (l:=r) (k:=1);have b1:=mb_list mb_nd (l:=nodes) (k:=1);have b2:=mb_list mb_bool (l:=links) (k:=(walkD (markD mNd) nodes 1).2);have b3:=mb_list mb_wd (l:=words) (k:=(walkD (markD .bool) links (walkD (markD mNd) nodes 1).2).2);have b4:=mb_list (mb_sl (mb_sl mb_int)) (l:=past) (k:=(walkD (markD mWd) words (walkD (markD .bool) links (walkD (markD mNd) nodes 1).2).2).2)
  have b5:=mb_list mb_ent (l:=known) (k:=(walkD (markD (.sl (.sl .int))) past (walkD (markD mWd) words (walkD (markD .bool) links (walkD (markD mNd) nodes 1).2).2).2).2);have dn:dec (nodes=nodes/\links=links/\words=words/\past=past)=true:=dec_yes ⟨rfl,rfl,rfl,rfl⟩;simp only[hi,dn];simp only[iv,kv,fv,nm,ne_eq,implies_true,eq_self];refine⟨by omega,fun hs=>?_⟩;have h2:=h2 hs;have h0:=h0 h2;rw[h0];refine⟨by omega,fun hs2=>?_⟩;have h4:=h4 hs2
  (repeat' (first | omega | exact fun h=>absurd trivial h | (intro h;first | (exfalso;omega) | (exfalso;simp only[Bool.not_false,decide_eq_true_eq] at h;omega) | skip) | refine And.intro ?_ ?_))
theorem lawNetList_fn (nodes links words past known:List Dat):Fn Tryz.prog 4 [.agg [.sl (.st [.int .i64,.sl (.st [.int .i64,.int .i64,.int .i64,(.st [.st [.sl (.sl (.int .i64))],.st [.sl (.int .i64)],.st [.sl (.st [.int .i64,.int .i64]),.int .i64,.int .i64],.st [.sl (.st [.int .i64,.int .i64]),.int .i64]])]),.int .i64,.int .i64,.int .i64]) nodes,.sl .bool links,.sl (.st [.int .i64,.int .i64,.int .i64,.int .i64,.int .i64,.sl (.st [.int .i64,.int .i64,.int .i64,(.st [.st [.sl (.sl (.int .i64))],.st [.sl (.int .i64)],.st [.sl (.st [.int .i64,.int .i64]),.int .i64,.int .i64],.st [.sl (.st [.int .i64,.int .i64]),.int .i64]])])]) words,.sl (.sl (.sl (.int .i64))) past],.sl (.st [.int .i64,.int .i64,.int .i64,(.st [.st [.sl (.sl (.int .i64))],.st [.sl (.int .i64)],.st [.sl (.st [.int .i64,.int .i64]),.int .i64,.int .i64],.st [.sl (.st [.int .i64,.int .i64]),.int .i64]])]) known] (St.mk [] [] []) Unit (fun _=>True) (fun _=>.bool true) (fun _=>St.mk [] [] []):=by
  refine fn_ok0 (ct:=[szNet_con,szEntryS_con,toNet_con,toEntryS_con,netList_con,iNetList_con,eqIntS_con,eqNet_con,eqEntryS_con,markNet_con,markEntryS_con,markIntS_con,heldIntS_con]) (L:=fun _=>none) (by kernel_rfl) Tryz.func4 ?_;have h:=lawNetList_vc nodes links words past known;apply VC.thru h;kernel_rfl
end
end E
end Go.Proofs.YtlfohjkcajaebaaGreat
section
namespace Go.Proofs.YtlfohjkcajaebaaGreat
open Go Go.ChangeShapes Go.WideShapes Go.ChangeAt Go.RowKit
namespace E
variable {H:Type} {enc:TypeId×Value->H} {P:Program}
theorem trodAll_stays {W W':World} {sp:Nat->Bool} (hl:laidOutB P=true):∀{ts:List TypeId} {vs:List Value} {ds:List (DataW H)} {ps:List MemPlace},(∀t∈ts,P.readableRec t=true/\t<P.types.size)->
    DataW.TrodAll enc P W 0 (fun _=>true) true ts vs ds ps->(∀p∈ps,W.sameAt W' p)->(∀p∈ps,sp p.block=true)->DataW.TrodAll enc P W' 0 sp true ts vs ds ps
  | [],[],[],_,_,h,_,_=>h
  | t::ts,v::vs,d::ds,ps,hr,h,hs,hp=>by
    obtain⟨p,q,h1,h2,rfl⟩:=h;exact⟨p,q,WideElems.Trod_stays hl (hr t (List.mem_cons_self ..)).1 (hr t (List.mem_cons_self ..)).2 h1 (fun x hx=>hs x (List.mem_append_left _ hx)) (fun x hx=>hp x (List.mem_append_left _ hx)),
      trodAll_stays hl (fun u hu=>hr u (List.mem_cons_of_mem _ hu)) h2 (fun x hx=>hs x (List.mem_append_right _ hx)) (fun x hx=>hp x (List.mem_append_right _ hx)),rfl⟩
  | [],_::_,_,_,_,h,_,_=>h.elim
  | [],[],_::_,_,_,h,_,_=>h.elim
  | _::_,[],_,_,_,h,_,_=>h.elim
  | _::_,_::_,[],_,_,h,_,_=>h.elim
theorem below_keptBut {W W':World} {may:MemPlace->Prop} (hb:Below W.heap.size W W'):W.keptBut W' may:=by
  refine⟨hb.os,hb.output,fun i hi=>?_⟩
  have:=hb.block i hi
  rw[this];cases W.heap[i]? with
  | none=>rfl
  | some o=>
    cases o with
    | cells c t fr=>exact⟨rfl,rfl,rfl,fun _ _=>rfl⟩
    | map es k=>exact .inr ⟨rfl,rfl⟩
    | _=>rfl
theorem frozen_below {W W':World} (hb:Below W.heap.size W W') {a:Addr} (h:a.block<W.heap.size):W'.frozen? a=W.frozen? a:=by
  unfold World.frozen?;rw[hb.block a.block h]
theorem post_true {f:Func} {s:ChangeSpec} {apart fresh handsOn again:Bool} {W W':World} {args:Array Value} {ds gs:List (DataW H)} {before:List MemPlace} {tb:TypeId}
    (hl:laidOutB P=true) (hr:∀t∈f.params.toList,P.readableRec t=true/\t<P.types.size) (hrt:f.resultTypes=#[tb]) (hub:P.underlying tb=some .bool) (hvars:s.vars=[])
    (hW:DataW.Whole enc P f.params.toList s.vars apart W args.toList ds gs before) (hfn:s.fn H ds={ results:=[.lit (.bool true)],args:=ds}) (hb:Below W.heap.size W W') :
    s.post enc P f apart fresh handsOn again W args (.bool true) W':=by
  have hlt:=hW.lt;have hW':=hW;obtain⟨p,q,hA,hV,rfl,hz,hn⟩:=hW;rw[hvars] at hV;obtain⟨rfl,rfl⟩:=trodVars_none hV;simp only[List.append_nil] at *
  have hargs:∀sp:Nat->Bool,(∀x∈p,sp x.block=true)->DataW.TrodAll enc P W' 0 sp true f.params.toList args.toList (s.fn H (ds++[])).args p:=fun sp hs=>by
    rw[List.append_nil,hfn];exact trodAll_stays hl hr hA (fun x hx=>hb.same (hlt x hx)) hs
  have hres:∀(b:Nat) (sp:Nat->Bool) (hd:Bool),DataW.TrodAll enc P W' b sp hd f.resultTypes.toList ((Value.bool true).resultList f.resultTypes.size) (s.fn H (ds++[])).results []:=fun b sp hd=>by
    rw[List.append_nil,hfn,hrt];exact trodAll_mk1 (shut_bool hub _)
  have hv0:(s.fn H (ds++[])).vars=[]:=by rw[List.append_nil,hfn]
  have hvs:∀sp:Nat->Bool,DataW.TrodVars enc P W' sp s.vars (s.fn H (ds++[])).vars []:=fun sp=>by rw[hv0,hvars];rfl
  have hold:∀x∈p,(fun b=>decide (b<W.heap.size)) x.block=true:=fun x hx=>by simpa using hlt x hx
  refine⟨ds,[],p,[],p,[],hW',hres _ _ _,hargs _ hold,hvs _,World.keptBut_mono (fun x hx=>⟨hx,.inr (.inl hx)⟩) (below_keptBut hb),fun _=>?_⟩;refine⟨ok_one hrt rfl (okWide_bool_mk hub _),_,_,([]++p)++[],⟨[]++p,[],trodAll_append (hargs _ (fun _ _=>rfl)) (hres _ _ _),hvs _,rfl,?_,?_⟩,?_⟩
  · intro b off hp;have hp:MemPlace.cell b off∈p:=by simpa using hp
    rw[frozen_below hb (hlt _ hp)];exact hz b off hp
  · intro ha;simpa using hn ha
  · intro x hx _;simpa using hx
end E
end Go.Proofs.YtlfohjkcajaebaaGreat
end
section
namespace Go.Proofs.YtlfohjkcajaebaaGreat
open Go Go.ChangeShapes Go.WideShapes Go.ChangeAt Go.RowKit
namespace E
variable {P:Program}
theorem own_bare {E:Env} (h:E.bx.length=0) (x:Slot):own E ⟨[],[],[]⟩ x=none:=by
  cases x<;>simp [own,h]
def startE (w:World):Env:=⟨[],[],[],fun _ _=>undef,fun _=>False,w⟩
theorem close_law {f:FuncId} {ins:List SV} (hf:Fn P f ins ⟨[],[],[]⟩ Unit (fun _=>True) (fun _=>.bool true) (fun _=>⟨[],[],[]⟩)) {W:World} {args:Array Value} (hin:RelVs (· < W.heap.size) (startE W) W ins args.toList) :
    Calls P f args W fun e w'=>e=.returned (.bool true)/\Below W.heap.size W w':=by
  have hn:∀x,own (startE W) ⟨[],[],[]⟩ x=none:=own_bare rfl
  have:=hf (· < W.heap.size) (startE W) W args.toList (fun _ h=>h) rfl (fun _ h=>h.elim)
    ⟨rfl,rfl,rfl,fun j p b hp=>by simp at hp,fun j r v hr=>by simp at hr,fun x y b hx=>(by rw[hn] at hx;cases hx),fun x b hx=>(by rw[hn] at hx;cases hx)⟩ hin
  refine this.mono ?_;rintro e w' ⟨_,v,E',rfl,_,hk,hv⟩;have hv:v=.bool true:=hv;subst hv;exact⟨rfl,hk.kept.os,hk.kept.tape,hk.kept.output,hk.kept.size,fun b hb=>hk.kept.block b hb (fun⟨x,hx⟩=>by rw[hn] at hx;cases hx)⟩
end E
end Go.Proofs.YtlfohjkcajaebaaGreat
end
section
namespace Go.Proofs.YtlfohjkcajaebaaGreat
open Go Go.ChangeShapes Go.WideShapes Go.ChangeAt Go.RowKit
namespace E
mutual
def tyM (P:Program):Ty->TypeId->Bool
  | .int k,t=>match P.underlying t with | some (.int k')=>kindEq k k' | _=>false
  | .bool,t=>match P.underlying t with | some .bool=>true | _=>false
  | .str,t=>match P.underlying t with | some .string=>true | _=>false
  | .raw,_=>false
  | .sl e,t=>match P.underlying t with | some (.slice u)=>Nat.beq (P.cellsOf u) e.size&&Nat.ble 1 e.size&&Nat.ble 1 (P.bytesOf u)&&tyM P e u | _=>false
  | .st fs,t=>match P.underlying t with | some (.struct fds)=>Nat.beq (P.cellsOf t) (Ty.sizes fs)&&tysM P fs fds.toList 0 | _=>false
def tysM (P:Program):List Ty->List Field->Nat->Bool
  | [],[],_=>true
  | f::fs,d::ds,o=>Nat.beq d.offset o&&Nat.beq (P.cellsOf d.type) f.size&&tyM P f d.type&&tysM P fs ds (o+f.size)
  | _,_,_=>false
end
section
variable {H:Type} {enc:TypeId×Value->H} {P:Program} {w:World} {base:Nat} {sp:Nat->Bool} {held:Bool}
theorem cells_range {a:Addr} {n:Nat} {cs:List Value} (h:w.cells? base a n=some cs) (hn:1<=n):a.spot=none/\a.block<w.heap.size/\cs.length=n/\w.rangeAt a.block a.off cs:=by
  unfold World.cells? at h;split at h
  · have hl:=mapM_some_length h;have hg:∀i,i<n->w.cell? (a.add i)=cs[i]?:=fun i hi=>by
      have:=mapM_some_get h i i (by simp [hi])
      exact this
    have h0:=hg 0 (by omega);have hl':cs.length=n:=by simpa using hl
    have hs:a.spot=none/\a.block<w.heap.size:=by
      have h1:w.cell? a=cs[0]?:=h0;rw[List.getElem?_eq_getElem (by omega)] at h1;unfold World.cell? at h1;split at h1
      · rename_i c t fr hb;split at h1
        · cases h1
        · rename_i hs;exact⟨by simpa using hs,(Array.getElem?_eq_some_iff.1 hb).1⟩
      · cases h1
    refine⟨hs.1,hs.2,hl',fun i v hv=>?_⟩;have hi:i<n:=by rw[<- hl'];exact (List.getElem?_eq_some_iff.1 hv).1
    have e:a.add i=⟨a.block,a.off+i,none⟩:=by
      unfold Addr.add;split
      · rename_i hi0;subst hi0;cases a;simp_all
      · simp
    rw[<- e,hg i hi,hv]
  · cases h
theorem mem_all {e:TypeId} {n:Nat}:∀{l:List (DataW H)} {d:DataW H},d∈l->n∈d.weights P e->n∈DataW.weightsAll P e l
  | x::l,d,h,hn=>by
    unfold DataW.weightsAll;rcases List.mem_cons.1 h with rfl | h
    · exact List.mem_append_left _ hn
    · exact List.mem_append_right _ (mem_all h hn)
theorem mem_each {n:Nat}:∀{ts:List TypeId} {l:List (DataW H)} {i:Nat} {t:TypeId} {d:DataW H},ts[i]?=some t->l[i]?=some d->n∈d.weights P t->n∈DataW.weightsEach P ts l
  | t0::ts,d0::l,0,t,d,h1,h2,hn=>by
    simp at h1 h2;subst h1;subst h2;unfold DataW.weightsEach;exact List.mem_append_left _ hn
  | t0::ts,d0::l,i+1,t,d,h1,h2,hn=>by
    unfold DataW.weightsEach;exact List.mem_append_right _ (mem_each (i:=i) (by simpa using h1) (by simpa using h2) hn)
  | [],_,_,_,_,h1,_,_=>by simp at h1
  | _::_,[],_,_,_,_,h2,_=>by simp at h2
mutual
theorem rep_of:∀(ty:Ty) (t:TypeId) (fuel:Nat) (cs:List Value) (x:DataW H×List MemPlace),tyM P ty t=true->DataW.trod enc P w base sp held fuel t cs=some x->(∀n∈x.1.weights P t,n<=reachBytes)->∃d,Rep (· < w.heap.size) w ty cs d
  | .int k,t,fuel,cs,x,hm,h,hwt=>by
    unfold tyM at hm;split at hm
    · rename_i k' hu
      have:=kindEq_eq hm
      subst this;obtain⟨n,rfl,_,hw⟩:=DataW.trod_int hu h;refine⟨.int n,n,rfl,rfl,?_⟩;simp only[Lit.wf,Bool.and_eq_true,decide_eq_true_eq] at hw;cases k<;>simpa [Has,lo,hi,IntKind.min,IntKind.max,IntKind.signed,IntKind.bits] using hw
    · cases hm
  | .bool,t,fuel,cs,x,hm,h,hwt=>by
    unfold tyM at hm;split at hm
    · rename_i hu;obtain⟨b,rfl,_⟩:=DataW.trod_bool hu h;exact⟨.bool b,b,rfl,rfl⟩
    · cases hm
  | .str,t,fuel,cs,x,hm,h,hwt=>by
    unfold tyM at hm;split at hm
    · rename_i hu;obtain⟨s,rfl,rfl,_⟩:=DataW.trod_string hu h
      have:=hwt s.data.toList.length (by simp [DataW.weights])
      simp only[reachBytes,Array.length_toList] at this;exact⟨.str s,s,rfl,rfl,this⟩
    · cases hm
  | .raw,t,fuel,cs,x,hm,h,hwt=>by
    unfold tyM at hm;cases hm
  | .sl e,t,fuel,cs,x,hm,h,hwt=>by
    unfold tyM at hm;split at hm
    · rename_i u hu;simp only[Bool.and_eq_true] at hm;obtain⟨⟨⟨hc,h1⟩,hby⟩,hm⟩:=hm;have hby:1<=P.bytesOf u:=Nat.le_of_ble_eq_true hby;have hc:P.cellsOf u=e.size:=Nat.eq_of_beq_eq_true hc;have h1:1<=e.size:=Nat.le_of_ble_eq_true h1;rcases DataW.trod_slice hu h with ⟨rfl,_⟩ | ⟨a,len,cap,elems,rest,n,rfl,rfl,rfl,hb,hl,hmax,hlen,hel,_,_⟩
      · exact⟨.node [],none,0,0,[],rfl,rfl,rfl,Nat.le_refl _,Nat.zero_le _,fun h=>absurd rfl h⟩
      · have key:∀i,i<len->∃d,a.spot=none/\a.block<w.heap.size/\∃es,w.rangeAt a.block (a.off+i*e.size) es/\Rep (· < w.heap.size) w e es d:=by
          intro i hi;have h2:=hel i hi;rw[List.getElem?_eq_getElem (by omega),hc] at h2;obtain⟨es,h3,h4⟩:=Option.bind_eq_some_iff.1 h2;obtain⟨h5,h6,h7,h8⟩:=cells_range h3 h1;obtain⟨d,hd⟩:=rep_of e u n es _ hm h4 (fun m hm'=>hwt m (by
            simp only[DataW.weights,hu];exact List.mem_cons_of_mem _ (List.mem_append_left _ (mem_all (List.mem_map.2 ⟨_,List.getElem_mem _,rfl⟩) hm'))))
          have ha:(a.add (i*e.size)).block=a.block/\(a.add (i*e.size)).off=a.off+i*e.size:=by
            unfold Addr.add;split
            · rename_i h0;exact⟨rfl,by omega⟩
            · exact⟨rfl,rfl⟩
          rw[ha.1] at h6 h8;rw[ha.2] at h8;have hs:a.spot=none:=by
            have h2:=hel 0 (by omega);rw[List.getElem?_eq_getElem (by omega),hc] at h2;obtain⟨es0,h30,_⟩:=Option.bind_eq_some_iff.1 h2
            have:=(cells_range h30 h1).1
            simpa [Addr.add] using this
          exact⟨d,hs,h6,es,h8,hd⟩
        have hch:∃ds:List Dat,ds.length=len/\∀i x,ds[i]?=some x->∃es,w.rangeAt a.block (a.off+i*e.size) es/\Rep (· < w.heap.size) w e es x:=by
          refine⟨(List.range len).map (fun i=>if h:i<len then Classical.choose (key i h) else default),by simp,fun i x hx=>?_⟩;rw[List.getElem?_map] at hx;obtain⟨j,hj,rfl⟩:=Option.map_eq_some_iff.1 hx;have hij:i<len/\j=i:=by
            have:=List.getElem?_eq_some_iff.1 hj
            obtain⟨h3,h4⟩:=this;simp at h3 h4;exact⟨h3,h4.symm⟩
          obtain⟨hi,rfl⟩:=hij;rw[dif_pos hi];exact (Classical.choose_spec (key _ hi)).2.2
        obtain⟨ds,hds,hrep⟩:=hch;refine⟨.node ds,some a,len,cap,ds,rfl,rfl,hds,hl,?_,fun hn=>?_⟩
        · have h9:=hwt (((elems.map (·.1)).length+(rest.map (·.1)).length)*P.bytesOf u) (by simp only[DataW.weights,hu];exact List.mem_cons_self ..);simp only[List.length_map,reachBytes] at h9;have h10:=Nat.mul_le_mul_left (elems.length+rest.length) hby;omega
        obtain⟨_,hs,hb,_⟩:=key 0 (by omega);refine⟨a.block,a.off,by cases a;simp_all,hb,hrep⟩
    · cases hm
  | .st fs,t,fuel,cs,x,hm,h,hwt=>by
    unfold tyM at hm;split at hm
    · rename_i fds hu;simp only[Bool.and_eq_true] at hm;obtain⟨hc,hm⟩:=hm;obtain⟨xs,n,_,rfl,hl,hxs,hf⟩:=DataW.trod_struct hu h;have hc:P.cellsOf t=Ty.sizes fs:=Nat.eq_of_beq_eq_true hc;obtain⟨ds,hd⟩:=reps_of fs fds.toList 0 n cs hm (by omega) (fun i f hi=>by
        have hlt:i<fds.size:=by simpa using (List.getElem?_eq_some_iff.1 hi).1
        have:=hf i f (by simpa using hi)
        rw[List.getElem?_eq_getElem (by omega)] at this;exact⟨_,this,fun m hm'=>hwt m (by
          simp only[DataW.weights,hu];refine mem_each (i:=i) (t:=f.type) (d:=(xs[i]'(by omega)).1) (by simp only[List.getElem?_map,hi,Option.map_some]) (by rw[List.getElem?_map,List.getElem?_eq_getElem (by omega)];rfl) hm')⟩)
      exact⟨.node ds,ds,rfl,by simpa using hd⟩
    · cases hm
theorem reps_of:∀(fs:List Ty) (fds:List Field) (o n:Nat) (cs:List Value),tysM P fs fds o=true->cs.length=o+Ty.sizes fs->(∀(i:Nat) (f:Field),fds[i]?=some f->∃x:DataW H×List MemPlace,DataW.trod enc P w base sp held n f.type ((cs.drop f.offset).take (P.cellsOf f.type))=some x/\∀m∈x.1.weights P f.type,m<=reachBytes)->∃ds,Reps (· < w.heap.size) w fs (cs.drop o) ds
  | [],[],o,n,cs,_,hl,_=>⟨[],List.drop_eq_nil_of_le (by simp [Ty.sizes] at hl;omega),rfl⟩
  | f::fs,d::fds,o,n,cs,hm,hl,hf=>by
    unfold tysM at hm;simp only[Bool.and_eq_true] at hm;obtain⟨⟨⟨h1,h2⟩,h3⟩,h4⟩:=hm;have h1:d.offset=o:=Nat.eq_of_beq_eq_true h1;have h2:P.cellsOf d.type=f.size:=Nat.eq_of_beq_eq_true h2;obtain⟨x,hx,hxw⟩:=hf 0 d rfl;rw[h1,h2] at hx;obtain⟨d1,hd1⟩:=rep_of f d.type n _ _ h3 hx hxw;obtain⟨ds,hds⟩:=reps_of fs fds (o+f.size) n cs h4 (by simp [Ty.sizes] at hl;omega) (fun i g hi=>hf (i+1) g (by simpa using hi));refine⟨d1::ds,(cs.drop o).take f.size,cs.drop (o+f.size),d1,ds,?_,rfl,hd1,hds⟩;rw[<- List.drop_drop,List.take_append_drop]
  | [],_::_,_,_,_,hm,_,_=>by unfold tysM at hm;cases hm
  | _::_,[],_,_,_,hm,_,_=>by unfold tysM at hm;cases hm
end
def svOf (ty:Ty) (d:Dat):SV:=match ty with
  | .st fs=>.agg (flats fs d 0)
  | .int k=>.int k d.toInt
  | .bool=>.bool d.toBool
  | .str=>.str d.toStr
  | .raw=>.raw d.toRaw
  | .sl e=>.sl e d.kids
def plainTy:Ty->Bool
  | .st _=>false
  | _=>true
theorem flat_svOf {ty:Ty} (h:plainTy ty=true) (d:Dat):flat ty d=[svOf ty d]:=by
  cases ty<;>first | rfl | cases h
theorem cells_of_one {v:Value} (h:∀cs,v≠.agg cs):v.cells=#[v]:=by cases v<;>first | rfl | exact absurd rfl (h _)
theorem open_arg {r:Reach} {b0:Nat} {E:Env} {ty:Ty} {t:TypeId} {v:Value} {d:DataW H} {ps:List MemPlace} (hm:tyM P ty t=true) (hok:Value.okWide P w r b0 t v) (h:DataW.Trod enc P w base sp held t v d ps) (hw:∀n∈d.weights P t,n<=reachBytes) :
    ∃x,RelV (· < w.heap.size) E w (svOf ty x) v:=by
  obtain⟨fuel,hf⟩:=h;obtain⟨x,hx⟩:=rep_of ty t fuel _ _ hm hf hw;refine⟨x,?_⟩;have hfl:=hx.flat (E:=E);cases ty with
  | st fs=>
    unfold tyM at hm;split at hm
    · rename_i fds hu;unfold Value.okWide at hok;rw[hu] at hok;obtain⟨cs,rfl,_,_⟩:=hok;refine⟨cs.toList,by simp,?_⟩;have e:(Value.agg cs).cells.toList=cs.toList:=rfl;rw[e] at hfl;exact hfl
    · cases hm
  | raw=>unfold tyM at hm;cases hm
  | _=>
    have hone:v.cells=#[v]:=by
      refine cells_of_one (fun cs hv=>?_);subst hv;unfold tyM at hm;split at hm
      · rename_i hu;unfold Value.okWide at hok;rw[hu] at hok;simp [Cell.okWide,hu,Cell.ok] at hok
      · cases hm
    rw[hone,flat_svOf rfl] at hfl;obtain⟨u,us,he,h1,_⟩:=hfl;simp at he;rw[he.1];exact h1
def tysA (P:Program):List Ty->List TypeId->Bool
  | [],[]=>true
  | ty::tys,t::ts=>tyM P ty t&&tysA P tys ts
  | _,_=>false
def svsOf:List Ty->List Dat->List SV
  | ty::tys,d::ds=>svOf ty d::svsOf tys ds
  | _,_=>[]
theorem open_args {r:Reach} {b0:Nat} {E:Env}:∀{tys:List Ty} {ts:List TypeId} {vs:List Value} {ds:List (DataW H)} {ps:List MemPlace},tysA P tys ts=true->(∀(j:Nat) t v,ts[j]?=some t->vs[j]?=some v->Value.okWide P w r b0 t v)->DataW.TrodAll enc P w base sp held ts vs ds ps->
    (∀n∈DataW.weightsEach P ts ds,n<=reachBytes)->∃xs,xs.length=tys.length/\RelVs (· < w.heap.size) E w (svsOf tys xs) vs
  | [],[],[],[],_,_,_,_,_=>⟨[],rfl,rfl⟩
  | ty::tys,t::ts,v::vs,d::ds,ps,hm,hok,⟨p,q,h1,h2,_⟩,hw=>by
    unfold tysA at hm;simp only[Bool.and_eq_true] at hm;unfold DataW.weightsEach at hw;obtain⟨x,hx⟩:=open_arg (E:=E) hm.1 (hok 0 t v rfl rfl) h1 (fun n hn=>hw n (List.mem_append_left _ hn));obtain⟨xs,hl,hxs⟩:=open_args (E:=E) hm.2 (fun j t v h3 h4=>hok (j+1) t v (by simpa using h3) (by simpa using h4)) h2 (fun n hn=>hw n (List.mem_append_right _ hn));exact⟨x::xs,by simp [hl],v,vs,rfl,hx,hxs⟩
  | [],_::_,_,_,_,hm,_,_,_=>by unfold tysA at hm;cases hm
  | _::_,[],_,_,_,hm,_,_,_=>by unfold tysA at hm;cases hm
  | [],[],_::_,_,_,_,_,h,_=>h.elim
  | [],[],[],_::_,_,_,_,h,_=>h.elim
  | _::_,_::_,[],_,_,_,_,h,_=>h.elim
  | _::_,_::_,_::_,[],_,_,_,h,_=>h.elim
theorem row_contract {f:FuncId} {fn:Func} {s:ChangeSpec} {apart fresh handsOn again:Bool} {W:World} {args:Array Value} {ds gs:List (DataW H)} {before:List MemPlace} {tb:TypeId} {tys:List Ty} {b0:Nat}
    (hf:∀xs:List Dat,xs.length=tys.length->Fn P f (svsOf tys xs) ⟨[],[],[]⟩ Unit (fun _=>True) (fun _=>.bool true) (fun _=>⟨[],[],[]⟩)) (htys:tysA P tys fn.params.toList=true)
    (hl:laidOutB P=true) (hr:∀t∈fn.params.toList,P.readableRec t=true/\t<P.types.size) (hrt:fn.resultTypes=#[tb]) (hub:P.underlying tb=some .bool) (hvars:s.vars=[]) (hfn:s.fn H ds={ results:=[.lit (.bool true)],args:=ds})
    (hval:∀(j:Nat) t v,fn.params[j]?=some t->args[j]?=some v->Value.okWide P W .any b0 t v) (hW:DataW.Whole enc P fn.params.toList s.vars apart W args.toList ds gs before)
    (hwt:(DataW.weightsEach P (fn.params.toList++s.plain.varTypes P) (ds++gs)).all (·<=reachBytes)=true) :
    Calls P f args W fun e W'=>∃v,e=.returned v/\s.post enc P fn apart fresh handsOn again W args v W':=by
  have hW':=hW;obtain⟨p,q,hA,hV,rfl,_,_⟩:=hW;have hV0:=hV;rw[hvars] at hV0;obtain⟨rfl,rfl⟩:=trodVars_none hV0;have hvt:s.plain.varTypes P=[]:=by
    have:s.plain.vars=[]:=hvars
    simp [DataSpec.varTypes,this]
  rw[hvt,List.append_nil,List.append_nil] at hwt;obtain⟨xs,hxl,hxs⟩:=open_args (E:=startE W) htys (fun j t v h1 h2=>hval j t v (by simpa using h1) (by simpa using h2)) hA (fun n hn=>by simpa using List.all_eq_true.1 hwt n hn);refine (close_law (hf xs hxl) hxs).mono fun e W' ⟨he,hg⟩=>?_
  subst he;exact⟨_,rfl,post_true hl hr hrt hub hvars hW' hfn hg⟩
end
end E
end Go.Proofs.YtlfohjkcajaebaaGreat
end
