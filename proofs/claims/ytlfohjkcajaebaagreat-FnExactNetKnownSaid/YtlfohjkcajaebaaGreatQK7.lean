/- Texts that the claim stands on, part 7. -/
import Derived.Test.YtlfohjkcajaebaaGreatQK6
import Derived.Test.YtlfohjkcajaebaaGreatProg
import Derived.WalkKit
import Derived.ProofKit
import Derived.OpenShut
import Derived.Deep.DeepHandedRow
set_option linter.all false
namespace Go.Proofs.YtlfohjkcajaebaaGreat
open Go Go.RowKit
open Go.IntKind (i64)
open Tryz
namespace E
noncomputable section
set_option maxRecDepth 100000
theorem past_p {nodes past:List Dat} {a:Nat}:PastP (kv past a) (bornOf nodes a) ↔ 1<=bornOf nodes a/\bornOf nodes a<=20/\PastIn nodes past a:=by
 constructor
 · rintro⟨⟨h1,h2⟩,h3,h4,h5⟩;exact⟨h1,h2,h3,h4,h5⟩
 · rintro⟨h1,h2,h3,h4,h5⟩;exact⟨⟨h1,h2⟩,h3,h4,h5⟩
theorem links_look {nodes links past:List Dat} (h:LookTo nodes links past 5) (hl:links.length=25):LinksIn links:=by
 refine⟨hl,fun a ha b hb=>⟨?_,fun h2=>?_⟩⟩
 · rcases Nat.lt_trichotomy a b with h1 | h1 | h1
   · exact ((h b hb).2.2.2.2 a h1).symm
   · rw[h1]
   · exact (h a ha).2.2.2.2 b h1
 · obtain⟨h2,rfl⟩:=h2;rw[(h a ha).2.2.2.1] at h2;cases h2
theorem node_in {nodes past:List Dat} {a:Nat} (h1:TreeIn nodes a) (h2:OwnIn nodes past a):NodeIn nodes past a:=by
 refine⟨h2.2.1,h2.1,h2.2.2.1,h2.2.2.2,?_⟩;unfold TreeIn at h1;split at h1
 · rw[if_pos (by assumption)];exact⟨h1.1,h1.2.1,h1.2.2.1⟩
 · rw[if_neg (by assumption)];exact h1
theorem tree_in {nodes past:List Dat} {a:Nat} (h:NodeIn nodes past a) (h0:fv nodes 0 2<=1000):TreeIn nodes a/\OwnIn nodes past a:=by
 obtain⟨h1,h2,h3,h4,h5⟩:=h;refine⟨?_,h2,h1,h3,h4⟩;unfold TreeIn;split at h5
 · rename_i e;subst e;rw[if_pos rfl];exact⟨h5.1,h5.2.1,h5.2.2,h0⟩
 · rw[if_neg (by assumption)];exact h5
theorem iNetOk_vc (nodes links words past:List Dat) :
 WFl TNode nodes->WFl Ty.bool links->WFl TWord words->WFl (Ty.int i64).sl.sl past->(I64 (nodes.length:Int)->(decide ((nodes.length:Int)≠5)=false->I64 (past.length:Int)->(decide ((past.length:Int)≠5)=false->True)/\True)/\True)/\((decide ((nodes.length:Int)≠5)||(decide ((past.length:Int)≠5)||(!dec (LinksIn links)||decide ((words.length:Int) > (24:Int)))))=true->dec (NetIn nodes links words
 past)=false)/\((decide ((nodes.length:Int)≠5)||(decide ((past.length:Int)≠5)||(!dec (LinksIn links)||decide ((words.length:Int) > (24:Int)))))=false->I64 (nodes.length:Int)->(∃x:Nat,(x<=5/\∀a:Nat,a<x->PastP (kv past a) (bornOf nodes a))/\(nodes.length:Int)=(nodes.length:Int)/\0=(x:Int)/\nodes=nodes/\links=links/\words=words/\past=past)/\∀x:Nat,(x<=5/\∀a:Nat,a<x->PastP (kv past a) (bornOf nodes
 a))->(decide ((x:Int)<(nodes.length:Int))->(0<=(x:Int)/\(x:Int)<(past.length:Int))/\(0<=(x:Int)/\(x:Int)<(nodes.length:Int))/\(I64 ((nodes.getD x default).f 0).toInt->True/\((!dec (PastP (past.getD x default).kids ((nodes.getD x default).f 0).toInt))=true->dec (NetIn nodes links words past)=false)/\((!dec (PastP (past.getD x default).kids ((nodes.getD x default).f
 0).toInt))=false->∃x_1:Nat,((x_1<=5/\∀a:Nat,a<x_1->PastP (kv past a) (bornOf nodes a))/\5-x_1<5-x)/\(nodes.length:Int)=(nodes.length:Int)/\i64.wrap ((x:Int)+1)=(x_1:Int)/\nodes=nodes/\links=links/\words=words/\past=past)))/\(decide ((x:Int)<(nodes.length:Int))=false->I64 (nodes.length:Int)->(∃(x:Nat×List Dat),(x.fst<=5/\(∀a:Nat,a<x.fst->TreeIn nodes a/\OwnIn nodes past a)/\MapIn past
 x.snd)/\(nodes.length:Int)=(nodes.length:Int)/\0=(x.fst:Int)/\nodes=nodes/\links=links/\words=words/\past=past/\nodes=nodes/\links=links/\words=words/\past=past/\([]:List Dat)=x.snd)/\∀(x:Nat×List Dat),x.fst<=5/\(∀a:Nat,a<x.fst->TreeIn nodes a/\OwnIn nodes past a)/\MapIn past x.snd->(decide ((x.fst:Int)<(nodes.length:Int))->(NetPast nodes past/\0<=(x.fst:Int)/\(x.fst:Int)<5)/\((!dec (TreeIn nodes
 x.fst))=false->(NetPast nodes past/\MapIn past x.snd/\0<=(x.fst:Int)/\(x.fst:Int)<5)/\∀x_1:List Dat,MapIn past x_1->((!dec (OwnIn nodes past x.fst))=true->dec (NetIn nodes links words past)=false)/\((!dec (OwnIn nodes past x.fst))=false->∃(x_2:Nat×List Dat),((x_2.fst<=5/\(∀a:Nat,a<x_2.fst->TreeIn nodes a/\OwnIn nodes past a)/\MapIn past
 x_2.snd)/\5-x_2.fst<5-x.fst)/\(nodes.length:Int)=(nodes.length:Int)/\i64.wrap ((x.fst:Int)+1)=(x_2.fst:Int)/\nodes=nodes/\links=links/\words=words/\past=past/\nodes=nodes/\links=links/\words=words/\past=past/\x_1=x_2.snd))/\((!dec (TreeIn nodes x.fst))=!false->dec (NetIn nodes links words past)=false))/\(decide ((x.fst:Int)<(nodes.length:Int))=false->I64 (words.length:Int)->(∃(x_1:Nat×List
 Dat),(x_1.fst<=words.length/\(∀i:Nat,i<x_1.fst->WordInD nodes past (words.getD i default))/\MapIn past x_1.snd)/\words=words/\(words.length:Int)=(words.length:Int)/\0=(x_1.fst:Int)/\nodes=nodes/\links=links/\words=words/\past=past/\nodes=nodes/\links=links/\words=words/\past=past/\x.snd=x_1.snd)/\∀(x:Nat×List Dat),x.fst<=words.length/\(∀i:Nat,i<x.fst->WordInD nodes past (words.getD i
 default))/\MapIn past x.snd->(decide ((x.fst:Int)<(words.length:Int))->(0<=(x.fst:Int)/\(x.fst:Int)<(words.length:Int))/\(NetPast nodes past/\MapIn past x.snd)/\∀x_1:List Dat,MapIn past x_1->((!dec (WordIn nodes past ((words.getD x.fst default).f 0).toInt ((words.getD x.fst default).f 1).toInt ((words.getD x.fst default).f 2).toInt ((words.getD x.fst default).f 3).toInt ((words.getD x.fst
 default).f 4).toInt ((words.getD x.fst default).f 5).kids))=true->dec (NetIn nodes links words past)=false)/\((!dec (WordIn nodes past ((words.getD x.fst default).f 0).toInt ((words.getD x.fst default).f 1).toInt ((words.getD x.fst default).f 2).toInt ((words.getD x.fst default).f 3).toInt ((words.getD x.fst default).f 4).toInt ((words.getD x.fst default).f 5).kids))=false->∃(x_2:Nat×List
 Dat),((x_2.fst<=words.length/\(∀i:Nat,i<x_2.fst->WordInD nodes past (words.getD i default))/\MapIn past x_2.snd)/\words.length-x_2.fst<words.length-x.fst)/\words=words/\(words.length:Int)=(words.length:Int)/\i64.wrap ((x.fst:Int)+1)=(x_2.fst:Int)/\nodes=nodes/\links=links/\words=words/\past=past/\nodes=nodes/\links=links/\words=words/\past=past/\x_1=x_2.snd))/\(decide
 ((x.fst:Int)<(words.length:Int))=false->dec (NetIn nodes links words past)=true)))):=by
 intro _ _ _ _;simp only[iv,kv,fv,nm];refine⟨fun h hn=>?_,fun hin _=>⟨⟨0,⟨by omega,fun a ha=>by omega⟩,by omega⟩,fun x hx=>⟨fun hlt=>⟨by omega,by omega,fun _=>⟨fun h hn=>?_,fun h=>⟨x+1,⟨⟨by omega,fun a ha=>?_⟩,by omega⟩,up_ok (n:=5) (by omega) (by omega)⟩⟩⟩,fun hge _=>?_⟩⟩⟩
 · rcases h with h | h | h | h
   · have:=hn.1;omega
   · have:=hn.2.1;omega
   · exact h (links_look hn.2.2.2.2.1 hn.2.2.1)
   · have:=hn.2.2.2.1;omega
 · exact h (past_p.2 ⟨(hn.2.2.2.2.1 x (by omega)).1,(hn.2.2.2.2.1 x (by omega)).2.1,(hn.2.2.2.2.1 x (by omega)).2.2.1⟩)
 · rcases Nat.lt_or_ge a x with h1 | h1
   · exact hx.2 a h1
   · rw[show a=x by omega];exact h
 · obtain⟨h5,hp5,hli,hw⟩:=hin;have h5:nodes.length=5:=by omega
   have hp5:past.length=5:=by omega
   have hnp:NetPast nodes past:=⟨h5,hp5,fun a ha=>past_p.1 (hx.2 a (by omega))⟩;have hL:LookTo nodes links past 5:=fun a ha=>by
     obtain⟨k1,k2,k3⟩:=hnp.2.2 a ha;refine⟨k1,k2,k3,?_,fun b hb=>(hli.2 a ha b (by omega)).1⟩
     have:=(hli.2 a ha a ha).2
     cases hv:lk links (a*5+a) with
     | false=>rfl
     | true=>exact absurd ⟨hv,rfl⟩ this
   refine⟨⟨(0,[]),⟨by simp only;omega,fun a ha=>by simp only at ha;omega,fun i hi=>by simp at hi⟩,rfl,rfl⟩,fun y hy=>⟨fun hlt=>⟨⟨hnp,by omega,by omega⟩,fun ht=>⟨⟨hnp,hy.2.2,by omega,by omega⟩,fun m1 hm1=>⟨fun ho hn=>ho (tree_in (hn.2.2.2.2.2.1 y.1 (by omega)) hn.2.2.2.2.2.2.2.2).2,fun ho=>⟨(y.1+1,m1),⟨⟨by simp only;omega,fun a ha=>?_,hm1⟩,by simp only;omega⟩,up_ok (n:=5) (by omega) (by omega),rfl⟩⟩⟩,fun ht hn=>?_⟩,fun hge _=>⟨⟨(0,y.2),⟨by simp only;omega,fun a ha=>by simp only at ha;omega,hy.2.2⟩,rfl,rfl⟩,fun z hz=>⟨fun hlt=>⟨by omega,⟨hnp,hz.2.2⟩,fun m1 hm1=>⟨fun ho hn=>ho (hn.2.2.2.2.2.2.1 z.1 (by omega)),fun ho=>⟨(z.1+1,m1),⟨⟨by simp only;omega,fun a ha=>?_,hm1⟩,by simp only;omega⟩,up_ok (n:=24) (by omega) (by omega),rfl⟩⟩⟩,fun hge2=>?_⟩⟩⟩⟩
   · simp only at ha;rcases Nat.lt_or_ge a y.1 with h1 | h1
     · exact hy.2.1 a h1
     · rw[show a=y.1 by omega];exact⟨ht,ho⟩
   · have ht:¬TreeIn nodes y.1:=by simpa using ht
     exact ht (tree_in (hn.2.2.2.2.2.1 y.1 (by omega)) hn.2.2.2.2.2.2.2.2).1
   · simp only at ha;rcases Nat.lt_or_ge a z.1 with h1 | h1
     · exact hz.2.1 a h1
     · rw[show a=z.1 by omega];exact ho
   · have ht0:=(hy.2.1 0 (by omega)).1;unfold TreeIn at ht0;rw[if_pos rfl] at ht0;exact⟨h5,hp5,hli.1,by omega,hL,fun i hi=>node_in (hy.2.1 i (by omega)).1 (hy.2.1 i (by omega)).2,fun i hi=>hz.2.1 i (by omega),ht0.2.2.1,ht0.2.2.2⟩
def iNetOk_get:List SV->St->Option Got
 | [.agg [.sl ty0 nodes,.sl .bool links,.sl ty1 words,.sl (.sl (.sl (.int .i64))) past]],⟨[],[],[]⟩=>guardTy ty0 TNode (guardTy ty1 TWord (some (True,.bool (dec (NetIn nodes links words past)),St.mk [] [] [])))
 | _,_=>none
theorem iNetOk_ok:Ok0 prog 39 iNetOk_get:=by
 intro _ _ _ _ _ h hp;unfold iNetOk_get at h;split at h
 · rename_i nodes links _ words past;replace h:=gT2 h;obtain⟨rfl,rfl,h⟩:=h;cases h;refine fl [iLinksOk_con,iPastOk_con,iTreeOk_con,iKnownOk_con,iWordOk_con] (fun k=>bif Nat.beq k 4 then some (.g (⟨Nat,fun s g=>hdb s [1,32] [(33,.int .i64 g)] s.bx s.rw,fun _ g=>g<=5/\∀a,a<g->PastP (kv past a) (bornOf nodes a),fun g=>5-g⟩)) else bif Nat.beq k 11 then some (.g (⟨Nat×List Dat,fun s g=>hdb s [1,4,56] [(57,.int .i64 g.1)] s.bx [⟨151,.mp TPr (.ho 44 (.im TSum)),g.2,0,false⟩],fun _ g=>g.1<=5/\(∀a,a<g.1->TreeIn nodes a/\OwnIn nodes past a)/\MapIn past g.2,fun g=>5-g.1⟩)) else bif Nat.beq k 17 then some (.g (⟨Nat×List Dat,fun s g=>hdb s [1,4,72,73] [(74,.int .i64 g.1)] s.bx [⟨151,.mp TPr (.ho 44 (.im TSum)),g.2,0,false⟩],fun _ g=>g.1<=words.length/\(∀i,i<g.1->WordInD nodes past (words.getD i default))/\MapIn past g.2,fun g=>words.length-g.1⟩)) else none) func39 ?_;apply VC.thru (iNetOk_vc nodes links words past);kernel_rfl
 · cases h
def iNetOk_con:Con prog:=.f0 39 [] true iNetOk_get (en func39 rfl) iNetOk_ok
def SumSmall (x:SumD):Prop:=(x.rows.length<=1000/\∀i,(kv x.rows i).length<=1000)/\x.kept.length<=1000/\x.prs.length<=1000/\x.kn.length<=1000
theorem entry_eta {d:Dat} (h:WF (.st [.int .i64,.int .i64,.int .i64,(.st [.st [.sl (.sl (.int .i64))],.st [.sl (.int .i64)],.st [.sl (.st [.int .i64,.int .i64]),.int .i64,.int .i64],.st [.sl (.st [.int .i64,.int .i64]),.int .i64]])]) d):d=Dat.node [Dat.int (d.f 0).toInt,Dat.int (d.f 1).toInt,Dat.int (d.f 2).toInt,Dat.node [Dat.node [Dat.node (((d.f 3).f 0).f 0).kids],Dat.node [Dat.node (((d.f 3).f 1).f 0).kids],Dat.node [Dat.node (((d.f 3).f 2).f 0).kids,Dat.int (((d.f 3).f 2).f 1).toInt,Dat.int (((d.f 3).f 2).f 2).toInt],Dat.node [Dat.node (((d.f 3).f 3).f 0).kids,Dat.int (((d.f 3).f 3).f 1).toInt]]]:=by
 obtain⟨_,rfl,⟨_,_,rfl,⟨_,rfl,_⟩,⟨_,_,rfl,⟨_,rfl,_⟩,⟨_,_,rfl,⟨_,rfl,_⟩,⟨_,_,rfl,⟨_,rfl,⟨_,_,rfl,⟨_,rfl,⟨_,_,rfl,⟨_,rfl,_,_⟩,rfl⟩⟩,⟨_,_,rfl,⟨_,rfl,⟨_,_,rfl,⟨_,rfl,_,_⟩,rfl⟩⟩,⟨_,_,rfl,⟨_,rfl,⟨_,_,rfl,⟨_,rfl,_,_⟩,⟨_,_,rfl,⟨_,rfl,_⟩,⟨_,_,rfl,⟨_,rfl,_⟩,rfl⟩⟩⟩⟩,⟨_,_,rfl,⟨_,rfl,⟨_,_,rfl,⟨_,rfl,_,_⟩,⟨_,_,rfl,⟨_,rfl,_⟩,rfl⟩⟩⟩,rfl⟩⟩⟩⟩⟩,rfl⟩⟩⟩⟩⟩:=h;rfl
theorem l21SumCopy_vc (rows kept prs kn:List Dat) (lost all rall:Int) (hp:SumSmall ⟨rows,kept,prs,lost,all,kn,rall⟩) :
 WFl (Ty.int i64).sl rows->WFl (Ty.int i64) kept->WFl TPr prs->I64 lost->I64 all->WFl TPr kn->I64 rall->(rows.length<=1000/\∀i:Nat,(kv rows i).length<=1000)/\(0+kept.length)*8<=140737488355328/\(0+prs.length)*16<=140737488355328/\(0+kn.length)*16<=140737488355328/\rows=rows/\[]++kept=kept/\[]++prs=prs/\lost=lost/\all=all/\[]++kn=kn/\rall=rall:=by
 intro hw1 hw2 hw3 _ _ hw4 _;simp only[iv,kv,fv,nm];obtain⟨h1,h2,h3,h4⟩:=hp;simp only at h2 h3 h4;exact⟨h1,by omega,by omega,by omega,rfl,rfl,rfl⟩
def l21SumCopy_get:List SV->St->Option Got
 | [.agg [.sl (.sl (.int .i64)) rows,.sl (.int .i64) kept,.sl ty0 prs,.int .i64 lost,.int .i64 all,.sl ty1 kn,.int .i64 rall]],⟨[],[],[]⟩=>guardTy ty0 TPr (guardTy ty1 TPr (some (SumSmall ⟨rows,kept,prs,lost,all,kn,rall⟩,.agg [.sl (.sl (.int .i64)) rows,.sl (.int .i64) kept,.sl TPr prs,.int .i64 lost,.int .i64 all,.sl TPr kn,.int .i64 rall],St.mk [] [] [])))
 | _,_=>none
theorem l21SumCopy_ok:Ok0 prog 138 l21SumCopy_get:=by
 intro _ _ _ _ _ h hp;unfold l21SumCopy_get at h;split at h
 · rename_i rows kept _ prs lost all _ kn rall;replace h:=gT2 h;obtain⟨rfl,rfl,h⟩:=h;cases h;refine fz [l1Copy_con] func138 ?_;apply VC.thru (l21SumCopy_vc rows kept prs kn lost all rall hp);kernel_rfl
 · cases h
def l21SumCopy_con:Con prog:=.f0 138 [] false l21SumCopy_get (en func138 rfl) l21SumCopy_ok
theorem l21Entries_vc (l:List Dat) (hp:l.length<=1000/\∀i,i<l.length->SumSmall (sumD ((l.getD i default).f 3))) :
 WFl TEnt l->(∃x:Nat,x<=l.length/\l=l/\0=(x:Int)/\([]:List Dat)=[]/\List.take x l=[])/\∀x:Nat,x<=l.length->I64 (l.length:Int)->(decide ((x:Int)<(l.length:Int))->(0<=(x:Int)/\(x:Int)<(l.length:Int))/\SumSmall (SumD.mk ((((l.getD x default).f 3).f 0).f 0).kids ((((l.getD x default).f 3).f 1).f 0).kids ((((l.getD x default).f 3).f 2).f 0).kids ((((l.getD x default).f 3).f 2).f 1).toInt ((((l.getD x
 default).f 3).f 2).f 2).toInt ((((l.getD x default).f 3).f 3).f 0).kids ((((l.getD x default).f 3).f 3).f 1).toInt)/\((List.take x l).length+1)*144<=140737488355328/\∃x_1:Nat,(x_1<=l.length/\l.length-x_1<l.length-x)/\l=l/\i64.wrap ((x:Int)+1)=(x_1:Int)/\List.take x l++[Dat.node [.int ((l.getD x default).f 0).toInt,.int ((l.getD x default).f 1).toInt,.int ((l.getD x default).f 2).toInt,.node [.node
 [.node ((((l.getD x default).f 3).f 0).f 0).kids],.node [.node ((((l.getD x default).f 3).f 1).f 0).kids],.node [.node ((((l.getD x default).f 3).f 2).f 0).kids,.int ((((l.getD x default).f 3).f 2).f 1).toInt,.int ((((l.getD x default).f 3).f 2).f 2).toInt],.node [.node ((((l.getD x default).f 3).f 3).f 0).kids,.int ((((l.getD x default).f 3).f 3).f 1).toInt]]]]=List.take x_1 l)/\(decide
 ((x:Int)<(l.length:Int))=false->List.take x l=l):=by
 intro hw;simp only[iv,kv,fv,nm];refine⟨⟨0,by omega,rfl,rfl⟩,fun x hx hl=>⟨fun hlt=>⟨by omega,hp.2 x (by omega),?_,x+1,by omega,up_ok (n:=1000) (by omega) (by omega),?_⟩,fun hlt=>List.take_of_length_le (by omega)⟩⟩
 · rw[List.length_take];omega
 · rw[take_getD (by omega),<- entry_eta (wfl_get hw (i:=x) (by omega))]
def l21Entries_get:List SV->St->Option Got
 | [.sl ty0 l],⟨[],[],[]⟩=>guardTy ty0 TEnt (some (l.length<=1000/\∀i,i<l.length->SumSmall (sumD ((l.getD i default).f 3)),.sl TEnt l,St.mk [] [] []))
 | _,_=>none
theorem l21Entries_ok:Ok0 prog 78 l21Entries_get:=by
 intro _ _ _ _ _ h hp;unfold l21Entries_get at h;split at h
 · rename_i l;replace h:=gT h;obtain⟨rfl,h⟩:=h;cases h;refine fl [l21SumCopy_con] (fun k=>bif Nat.beq k 3 then some (.g (⟨Nat,fun s g=>hdb s [0,2] [(3,.own 0),(4,.int .i64 g)] s.bx [⟨80,.im TEnt,l.take g,0,false⟩],fun _ g=>g<=l.length,fun g=>l.length-g⟩)) else none) func78 ?_;apply VC.thru (l21Entries_vc l hp);kernel_rfl
 · cases h
def l21Entries_con:Con prog:=.f0 78 [] false l21Entries_get (en func78 rfl) l21Entries_ok
theorem known_len {nodes past l:List Dat} (h:KnownTo nodes past l l.length):l.length<=5:=by
 have h1:∀i,i<l.length->(i:Int)<=fv l i 0:=by
   intro i
   induction i with
   | zero=>intro hi;have:=(h 0 hi).1.1;exact this
   | succ i ih=>
     intro hi;have h2:=ih (by omega);have h3:=(h (i+1) hi).2 (by omega);rw[Nat.add_sub_cancel] at h3;omega
 rcases Nat.lt_or_ge 5 l.length with h5 | h5
 · have h2:=h1 5 h5;have h3:fv l 5 0<=4:=(h 5 h5).1.2.1;omega
 · exact h5
theorem SumIn.small {y:SumD} (h:SumIn y):SumSmall y:=
 ⟨⟨by have:=h.1.1;omega,fun i=>by have:=h.1.rows i;omega⟩,by have:=h.2.1.1;omega,by have:=h.2.2.1.2.1;omega,by have:=kn_le h.2.2.2.1.2.2.1;omega⟩
theorem rws_row (l:List Dat) (i:Nat):(kv l i).length=((rws l).getD i []).length:=by
 rcases Nat.lt_or_ge i l.length with h | h
 · simp [rws,kv,List.getD_eq_getElem?_getD,List.getElem?_eq_getElem h,ints]
 · simp [rws,kv,List.getD_eq_getElem?_getD,List.getElem?_eq_none h];rfl
theorem SameS.small {y z:SumD} (h:SameS y z) (hs:SumSmall y):SumSmall z:=by
 obtain⟨h1,h2,h3,_,_,h4,_⟩:=h;obtain⟨⟨s1,s2⟩,s3,s4,s5⟩:=hs;refine⟨⟨?_,fun i=>?_⟩,?_,?_,?_⟩
 · rw[<- rws_length,<- h1,rws_length];exact s1
 · rw[rws_row,<- h1,<- rws_row];exact s2 i
 · rw[<- ints_length,<- h2,ints_length];exact s3
 · rw[<- prs_length,<- h3,prs_length];exact s4
 · rw[<- prs_length,<- h4,prs_length];exact s5
theorem NetPast.entSum {nodes past:List Dat} (h:NetPast nodes past) {node born num:Int} (h0:0<=node) (h1:node<=4) (h2:1<=born) (h3:born<=bornOf nodes node.toNat):SumIn (entSum past node born num):=by
 have ht:=(h.things (a:=node.toNat) (b:=born.toNat) (by omega) (by omega)).2;refine (sumOf_in (fun t hm=>ht.ints t ?_) ?_).1
 · rw[ints_take] at hm;exact List.mem_of_mem_take hm
 · rw[ints_length,List.length_take];have:=ht.2;omega
theorem known_small {nodes past l:List Dat} (hn:NetPast nodes past) (h:KnownTo nodes past l l.length):l.length<=1000/\∀i,i<l.length->SumSmall (sumD ((l.getD i default).f 3)):=by
 have:=known_len h
 refine⟨by omega,fun i hi=>?_⟩;obtain⟨a1,a2,a3,a4,_,_,a5⟩:=(h i hi).1;exact a5.small (hn.entSum a1 a2 a3 a4).small
theorem NetIn.past {nodes links words past:List Dat} (h:NetIn nodes links words past):NetPast nodes past:=h.2.2.2.2.1.past h.1 h.2.1
theorem NetIn.known {nodes links words past:List Dat} (h:NetIn nodes links words past) {a:Nat} (ha:a<5):KnownTo nodes past (knownOf nodes a) (knownOf nodes a).length:=(h.2.2.2.2.2.1 a ha).2.1
theorem netKnown_vc (nodes links words past:List Dat) (a:Int) :
 WFl TNode nodes->WFl Ty.bool links->WFl TWord words->WFl (Ty.int i64).sl.sl past->I64 a->(True/\((!dec (NetIn nodes links words past))=false->True)/\True)/\((!dec (NetIn nodes links words past)||!(decide (0<=a)&&decide (a<=4)))=true->[]=bif dec (NetIn nodes links words past/\0<=a/\a<=4) then knownOf nodes a.toNat else [])/\((!dec (NetIn nodes links words past)||!(decide (0<=a)&&decide
 (a<=4)))=false->(0<=a/\a<(nodes.length:Int))/\(((nodes.getD a.toNat default).f 1).kids.length<=1000/\∀i:Nat,i<((nodes.getD a.toNat default).f 1).kids.length->SumSmall (sumD ((((nodes.getD a.toNat default).f 1).kids.getD i default).f 3)))/\((nodes.getD a.toNat default).f 1).kids=bif dec (NetIn nodes links words past/\0<=a/\a<=4) then knownOf nodes a.toNat else []):=by
 intro hw1 hw2 hw3 hw4 _;simp only[iv,kv,fv,nm];refine⟨fun h=>?_,fun h=>⟨⟨by omega,by have:=h.1.1;omega⟩,known_small h.1.past (h.1.known (a:=a.toNat) (by omega)),?_⟩⟩
 · rw[dec_no (by rintro⟨h1,h2,h3⟩;rcases h with h | h | h<;>contradiction)];rfl
 · rw[dec_yes h];rfl
def netKnown_get:List SV->St->Option Got
 | [.agg [.sl ty0 nodes,.sl .bool links,.sl ty1 words,.sl (.sl (.sl (.int .i64))) past],.int .i64 a],⟨[],[],[]⟩=>guardTy ty0 TNode (guardTy ty1 TWord (some (True,.sl TEnt (bif dec (NetIn nodes links words past/\0<=a/\a<=4) then knownOf nodes a.toNat else []),St.mk [] [] [])))
 | _,_=>none
theorem netKnown_ok:Ok0 prog 29 netKnown_get:=by
 intro _ _ _ _ _ h hp;unfold netKnown_get at h;split at h
 · rename_i nodes links _ words past a;replace h:=gT2 h;obtain⟨rfl,rfl,h⟩:=h;cases h;refine fz [netOk_con,l6In_con,l21Entries_con] func29 ?_;apply VC.thru (netKnown_vc nodes links words past a);kernel_rfl
 · cases h
def netKnown_con:Con prog:=.f0 29 [] false netKnown_get (en func29 rfl) netKnown_ok
theorem iCloneI_vc (l:List Dat) (hp:l.length<=1000) :
 WFl (Ty.int i64) l->∀(x:Bool),(l≠[]->x=false)->(x=true->([]:List Dat)=l)/\(x=false->(0+l.length)*8<=140737488355328/\[]++l=l):=by
 intro hw;simp only[iv,kv,fv,nm];intro x hx;refine⟨fun h=>?_,fun h=>⟨by omega,by simp⟩⟩;by_cases e:l=[]
 · exact e.symm
 · rw[hx e] at h;cases h
def iCloneI_get:List SV->St->Option Got
 | [.sl (.int .i64) l],⟨[],[],[]⟩=>some (l.length<=1000,.own 0,St.mk [] [] [⟨3,.im (.int .i64),l,0,false⟩])
 | _,_=>none
theorem iCloneI_ok:Ok0 prog 117 iCloneI_get:=by
 intro _ _ _ _ _ h hp;unfold iCloneI_get at h;split at h
 · rename_i l;cases h;refine fz [] func117 ?_;apply VC.thru (iCloneI_vc l hp);kernel_rfl
 · cases h
def iCloneI_con:Con prog:=.f0 117 [] true iCloneI_get (en func117 rfl) iCloneI_ok
theorem iCloneK_vc (l:List Dat) (hp:l.length<=1000) :
 WFl TPr l->∀(x:Bool),(l≠[]->x=false)->(x=true->([]:List Dat)=l)/\(x=false->(0+l.length)*16<=140737488355328/\[]++l=l):=by
 intro hw;simp only[iv,kv,fv,nm];intro x hx;refine⟨fun h=>?_,fun h=>⟨by omega,by simp⟩⟩;by_cases e:l=[]
 · exact e.symm
 · rw[hx e] at h;cases h
def iCloneK_get:List SV->St->Option Got
 | [.sl ty0 l],⟨[],[],[]⟩=>guardTy ty0 TPr (some (l.length<=1000,.own 0,St.mk [] [] [⟨165,.im TPr,l,0,false⟩]))
 | _,_=>none
theorem iCloneK_ok:Ok0 prog 119 iCloneK_get:=by
 intro _ _ _ _ _ h hp;unfold iCloneK_get at h;split at h
 · rename_i l;replace h:=gT h;obtain⟨rfl,h⟩:=h;cases h;refine fz [] func119 ?_;apply VC.thru (iCloneK_vc l hp);kernel_rfl
 · cases h
def iCloneK_con:Con prog:=.f0 119 [] true iCloneK_get (en func119 rfl) iCloneK_ok
theorem iCloneE_vc (l:List Dat) (hp:l.length<=1000) :
 WFl TEnt l->∀(x:Bool),(l≠[]->x=false)->(x=true->([]:List Dat)=l)/\(x=false->((0+l.length)*144<=140737488355328/\([]:List Dat)=[])/\[]++l=l):=by
 intro hw;simp only[iv,kv,fv,nm];intro x hx;refine⟨fun h=>?_,fun h=>⟨by omega,by simp⟩⟩;by_cases e:l=[]
 · exact e.symm
 · rw[hx e] at h;cases h
theorem iCloneE_fn (l:List Dat) (hp:l.length<=1000):Fn prog 116 [.sl (.st [.int .i64,.int .i64,.int .i64,(.st [.st [.sl (.sl (.int .i64))],.st [.sl (.int .i64)],.st [.sl (.st [.int .i64,.int .i64]),.int .i64,.int .i64],.st [.sl (.st [.int .i64,.int .i64]),.int .i64]])]) l] (St.mk [] [] []) Unit (fun _=>True) (fun _=>.own 0) (fun _=>St.mk [] [] [⟨80,.im TEnt,l,0,false⟩]):=by
 refine fn_ok0 (ct:=[]) (L:=fun _=>none) (by kernel_rfl) func116 ?_;have h:=iCloneE_vc l hp;apply VC.thru h;kernel_rfl
abbrev OHo:OT:=.st [.im (.int .i64),.im (.int .i64),.im (.int .i64),.st [.st [.ho 34 (.sl 3 (.im (.int .i64)))],.st [.ho 3 (.im (.int .i64))],.st [.ho 163 (.im TPr),.im (.int .i64),.im (.int .i64)],.st [.ho 165 (.im TPr),.im (.int .i64)]]]
def cpD (l:List Dat) (i:Nat):List Dat:=l.take i++(l.drop i).map (alD OHo)
theorem cpD_length {l:List Dat} {i:Nat} (h:i<=l.length):(cpD l i).length=l.length:=by
 rw[cpD,List.length_append,List.length_take,List.length_map,List.length_drop];omega
theorem cpD_at {l:List Dat} {i:Nat} (h:i<l.length):(cpD l i).getD i default=alD OHo (l.getD i default):=by
 rw[cpD,List.getD_eq_getElem?_getD,List.getElem?_append_right (by rw[List.length_take];omega),List.length_take,Nat.min_eq_left (by omega),Nat.sub_self,List.getElem?_map,List.getElem?_drop,Nat.add_zero,List.getElem?_eq_getElem h,List.getD_eq_getElem?_getD,List.getElem?_eq_getElem h];rfl
theorem cpD_next {l:List Dat} {i:Nat} (h:i<l.length):(cpD l i).set i (l.getD i default)=cpD l (i+1):=by
 have hl:(l.take i).length=i:=by rw[List.length_take];omega
 rw[cpD,List.set_append_right _ _ (by omega),hl,Nat.sub_self,List.drop_eq_getElem_cons h,List.map_cons,List.set_cons_zero,cpD,takeD_next h,List.append_assoc];rfl
theorem cpD_all {l:List Dat} {i:Nat} (h:l.length<=i):cpD l i=l:=by
 rw[cpD,List.take_of_length_le h,List.drop_of_length_le h];exact List.append_nil _
theorem ent_rows {d:Dat} (h:WF TEnt d):WFl (.sl (.int .i64)) (((d.f 3).f 0).f 0).kids:=by
 obtain⟨_,rfl,_,_,rfl,⟨_,rfl,_⟩,_,_,rfl,⟨_,rfl,_⟩,_,_,rfl,⟨_,rfl,_⟩,_,_,rfl,⟨_,rfl,_,_,rfl,⟨_,rfl,_,_,rfl,⟨_,rfl,h1,h2⟩,rfl⟩,_⟩,rfl⟩:=h;exact⟨h1,h2⟩
def iCloneA_get (ins:List SV) (m:St):Option Got:=
 match ins,m with
 | [.sl ty0 l],⟨[],[],[]⟩=>guardTy ty0 TEnt (some (l.length<=1000,.own 0,St.mk [] [] [⟨80,OHo,l.map (alD OHo),0,false⟩]))
 | _,_=>none
theorem iCloneA_ok:Ok0 prog 116 iCloneA_get:=by
 intro _ _ _ _ _ h hp;unfold iCloneA_get at h;split at h
 · replace h:=gT h;obtain⟨rfl,h⟩:=h;cases h;exact fn_alias (e:=OHo) rfl rfl (iCloneE_fn _ hp)
 · cases h
def iCloneA_con:Con prog:=.f0 116 [] false iCloneA_get (enters func116 (by kernel_rfl) rfl) iCloneA_ok
theorem iCopyEntries_vc (l:List Dat) (hp:l.length<=1000/\∀i,i<l.length->SumSmall (sumD ((l.getD i default).f 3))) :
 WFl TEnt l->l.length<=1000/\(I64 (↑(List.map (alD OHo) l).length:Int)->(∃x:Nat,x<=l.length/\(↑(List.map (alD OHo) l).length:Int)=(↑(List.map (alD OHo) l).length:Int)/\0=(x:Int)/\List.map (alD OHo) l=cpD l x)/\∀x:Nat,x<=l.length->(decide ((x:Int)<(↑(List.map (alD OHo) l).length:Int))->(0<=(x:Int)/\(x:Int)<(↑(cpD l x).length:Int))/\x<(cpD l x).length/\(x<(cpD l x).length/\isA (((((cpD l x).getD x
 default).f 3).f 0).f 0))/\(I64 (↑((((((cpD l x).getD x default).f 3).f 0).f 0).f 1).kids.length:Int)->((↑((((((cpD l x).getD x default).f 3).f 0).f 0).f 1).kids.length:Int)=(↑((((((cpD l x).getD x default).f 3).f 0).f 0).f 1).kids.length:Int)/\0<=(↑((((((cpD l x).getD x default).f 3).f 0).f 0).f 1).kids.length:Int)/\(↑((((((cpD l x).getD x default).f 3).f 0).f 0).f
 1).kids.length:Int)*(↑(24:Nat):Int)<=281474976710656/\(↑((((((cpD l x).getD x default).f 3).f 0).f 0).f 1).kids.length:Int)<=140737488355328)/\x<(cpD l x).length/\(x<(cpD l x).length/\isA (((((cpD l x).getD x default).f 3).f 0).f 0))/\(I64 (↑((((((cpD l x).getD x default).f 3).f 0).f 0).f 1).kids.length:Int)->(∃x_1:Nat,(x_1<=((((((cpD l x).getD x default).f 3).f 0).f 0).f 1).kids.length/\((((((cpD
 l x).getD x default).f 3).f 0).f 0).f 1).kids.length<=1000)/\x=x/\(↑(List.map (alD OHo) l).length:Int)=(↑(List.map (alD OHo) l).length:Int)/\(x:Int)=(x:Int)/\((((((cpD l x).getD x default).f 3).f 0).f 0).f 1).kids=((((((cpD l x).getD x default).f 3).f 0).f 0).f 1).kids/\(↑((((((cpD l x).getD x default).f 3).f 0).f 0).f 1).kids.length:Int)=(↑((((((cpD l x).getD x default).f 3).f 0).f 0).f
 1).kids.length:Int)/\0=(x_1:Int)/\cpD l x=cpD l x/\List.replicate ((((((cpD l x).getD x default).f 3).f 0).f 0).f 1).kids.length (Dat.node [])=fillD ((((((cpD l x).getD x default).f 3).f 0).f 0).f 1).kids (Dat.node []) x_1)/\∀x_1:Nat,x_1<=((((((cpD l x).getD x default).f 3).f 0).f 0).f 1).kids.length/\((((((cpD l x).getD x default).f 3).f 0).f 0).f 1).kids.length<=1000->(decide
 ((x_1:Int)<(↑((((((cpD l x).getD x default).f 3).f 0).f 0).f 1).kids.length:Int))=true->(0<=(x_1:Int)/\(x_1:Int)<(↑((((((cpD l x).getD x default).f 3).f 0).f 0).f 1).kids.length:Int))/\(((((((cpD l x).getD x default).f 3).f 0).f 0).f 1).kids.getD x_1 default).kids.length<=1000/\(0<=(x_1:Int)/\(x_1:Int)<(↑(fillD ((((((cpD l x).getD x default).f 3).f 0).f 0).f 1).kids (Dat.node [])
 x_1).length:Int))/\x_1<(fillD ((((((cpD l x).getD x default).f 3).f 0).f 0).f 1).kids (Dat.node []) x_1).length/\∃x_2:Nat,((x_2<=((((((cpD l x).getD x default).f 3).f 0).f 0).f 1).kids.length/\((((((cpD l x).getD x default).f 3).f 0).f 0).f 1).kids.length<=1000)/\1000-x_2<1000-x_1)/\x=x/\(↑(List.map (alD OHo) l).length:Int)=(↑(List.map (alD OHo) l).length:Int)/\(x:Int)=(x:Int)/\((((((cpD l x).getD
 x default).f 3).f 0).f 0).f 1).kids=((((((cpD l x).getD x default).f 3).f 0).f 0).f 1).kids/\(↑((((((cpD l x).getD x default).f 3).f 0).f 0).f 1).kids.length:Int)=(↑((((((cpD l x).getD x default).f 3).f 0).f 0).f 1).kids.length:Int)/\i64.wrap ((x_1:Int)+1)=(x_2:Int)/\cpD l x=cpD l x/\(fillD ((((((cpD l x).getD x default).f 3).f 0).f 0).f 1).kids (Dat.node []) x_1).set x_1 (Dat.node (((((((cpD l
 x).getD x default).f 3).f 0).f 0).f 1).kids.getD x_1 default).kids)=fillD ((((((cpD l x).getD x default).f 3).f 0).f 0).f 1).kids (Dat.node []) x_2)/\(decide ((x_1:Int)<(↑((((((cpD l x).getD x default).f 3).f 0).f 0).f 1).kids.length:Int))=false->x<(cpD l x).length/\∀x_2:List Dat,x_2=(cpD l x).set x (((cpD l x).getD x default).set 3 ((((cpD l x).getD x default).f 3).set 0 (((((cpD l x).getD x
 default).f 3).f 0).set 0 (Dat.node (fillD ((((((cpD l x).getD x default).f 3).f 0).f 0).f 1).kids (Dat.node []) x_1)))))->x<x_2.length/\(x<x_2.length/\isA ((((x_2.getD x default).f 3).f 1).f 0))/\(((((x_2.getD x default).f 3).f 1).f 0).f 1).kids.length<=1000/\x<x_2.length/\∀x_3:List Dat,x_3=x_2.set x ((x_2.getD x default).set 3 (((x_2.getD x default).f 3).set 1 ((((x_2.getD x default).f 3).f
 1).set 0 (Dat.node (((((x_2.getD x default).f 3).f 1).f 0).f 1).kids))))->x<x_3.length/\(x<x_3.length/\isA ((((x_3.getD x default).f 3).f 2).f 0))/\(((((x_3.getD x default).f 3).f 2).f 0).f 1).kids.length<=1000/\x<x_3.length/\∀x_4:List Dat,x_4=x_3.set x ((x_3.getD x default).set 3 (((x_3.getD x default).f 3).set 2 ((((x_3.getD x default).f 3).f 2).set 0 (Dat.node (((((x_3.getD x default).f 3).f
 2).f 0).f 1).kids))))->x<x_4.length/\(x<x_4.length/\isA ((((x_4.getD x default).f 3).f 3).f 0))/\(((((x_4.getD x default).f 3).f 3).f 0).f 1).kids.length<=1000/\x<x_4.length/\∀x_5:List Dat,x_5=x_4.set x ((x_4.getD x default).set 3 (((x_4.getD x default).f 3).set 3 ((((x_4.getD x default).f 3).f 3).set 0 (Dat.node (((((x_4.getD x default).f 3).f 3).f 0).f
 1).kids))))->∃x_6:Nat,(x_6<=l.length/\l.length-x_6<l.length-x)/\(↑(List.map (alD OHo) l).length:Int)=(↑(List.map (alD OHo) l).length:Int)/\i64.wrap ((x:Int)+1)=(x_6:Int)/\x_5=cpD l x_6))))/\(decide ((x:Int)<(↑(List.map (alD OHo) l).length:Int))=false->cpD l x=l/\WFl OEnt.ty l)):=by
 intro hw;simp only[iv,kv,fv,nm];obtain⟨hl,hs⟩:=hp;simp only[List.length_map];refine⟨hl,fun _=>⟨⟨0,by omega,rfl,rfl⟩,fun x hx=>⟨fun hlt=>?_,fun hlt=>⟨cpD_all (by omega),hw⟩⟩⟩⟩;have hxl:x<l.length:=by omega
 have hlen:=cpD_length (l:=l) hx;have a0:=cpD_at hxl;have hN:=cpD_next hxl;have hwx:=wfl_get hw hxl;have hsx:=hs x hxl;generalize l.getD x default=d at a0 hN hwx hsx;have hwr:=ent_rows hwx;obtain⟨a,b,c,r,t,p,lo,al,q,ra,rfl⟩:=ent_lit hwx;have hwr:WFl (.sl (.int .i64)) r:=hwr;obtain⟨⟨s1,s2⟩,s3,s4,s5⟩:=hsx;have s1:r.length<=1000:=s1;have s2:∀i,(r.getD i default).kids.length<=1000:=s2;have s3:t.length<=1000:=s3;have s4:p.length<=1000:=s4;have s5:q.length<=1000:=s5;generalize cpD l x=H at hlen a0 hN ⊢;have a0:H.getD x default=.node [.int a,.int b,.int c,.node [.node [.node [hole,.node r]],.node [.node [hole,.node t]],.node [.node [hole,.node p],.int lo,.int al],.node [.node [hole,.node q],.int ra]]]:=a0
 have E0:=mk_self (by omega) a0;have r0:(((((H.getD x default).f 3).f 0).f 0).f 1).kids=r:=by rw[a0];rfl
 have i0:isA ((((H.getD x default).f 3).f 0).f 0):=by rw[a0];rfl
 simp only[r0];refine⟨⟨by omega,by omega⟩,by omega,⟨by omega,i0⟩,fun _=>⟨⟨by omega,by omega,by omega⟩,by omega,⟨by omega,i0⟩,fun _=>⟨⟨0,⟨by omega,by omega⟩,rfl,rfl⟩,fun y hy=>⟨fun hlt2=>?_,fun hlt2=>?_⟩⟩⟩⟩
 · have h4:=fillD_length (l:=r) (z:=.node []) hy.1;exact⟨⟨by omega,by omega⟩,s2 y,⟨by omega,by omega⟩,by omega,y+1,⟨⟨by omega,by omega⟩,by omega⟩,up_ok (n:=r.length) (by omega) (by omega),fillD_next (by omega) (wf_sl (wfl_get hwr (i:=y) (by omega))).2.symm⟩
 · have hf:fillD r (.node []) y=r:=fillD_all (by omega);simp only[hf];refine⟨by omega,fun D2 e2=>?_⟩;rw[a0] at e2;obtain⟨E2,l2,a2⟩:=mk_all (b:=.node [.int a,.int b,.int c,.node [.node [.node r],.node [.node [hole,.node t]],.node [.node [hole,.node p],.int lo,.int al],.node [.node [hole,.node q],.int ra]]]) (by omega) E0 e2;have r2:(((((D2.getD x default).f 3).f 1).f 0).f 1).kids=t:=by rw[a2];rfl
   have i2:isA ((((D2.getD x default).f 3).f 1).f 0):=by rw[a2];rfl
   simp only[r2];refine⟨by omega,⟨by omega,i2⟩,s3,by omega,fun D3 e3=>?_⟩;rw[a2] at e3;obtain⟨E3,l3,a3⟩:=mk_all (b:=.node [.int a,.int b,.int c,.node [.node [.node r],.node [.node t],.node [.node [hole,.node p],.int lo,.int al],.node [.node [hole,.node q],.int ra]]]) (by omega) E2 e3;have r3:(((((D3.getD x default).f 3).f 2).f 0).f 1).kids=p:=by rw[a3];rfl
   have i3:isA ((((D3.getD x default).f 3).f 2).f 0):=by rw[a3];rfl
   simp only[r3];refine⟨by omega,⟨by omega,i3⟩,s4,by omega,fun D4 e4=>?_⟩;rw[a3] at e4;obtain⟨E4,l4,a4⟩:=mk_all (b:=.node [.int a,.int b,.int c,.node [.node [.node r],.node [.node t],.node [.node p,.int lo,.int al],.node [.node [hole,.node q],.int ra]]]) (by omega) E3 e4;have r4:(((((D4.getD x default).f 3).f 3).f 0).f 1).kids=q:=by rw[a4];rfl
   have i4:isA ((((D4.getD x default).f 3).f 3).f 0):=by rw[a4];rfl
   simp only[r4];refine⟨by omega,⟨by omega,i4⟩,s5,by omega,fun D5 e5=>?_⟩;rw[a4] at e5;obtain⟨E5,l5,a5⟩:=mk_all (b:=.node [.int a,.int b,.int c,.node [.node [.node r],.node [.node t],.node [.node p,.int lo,.int al],.node [.node q,.int ra]]]) (by omega) E4 e5;exact⟨x+1,⟨by omega,by omega⟩,up_ok (n:=l.length) hxl (by omega),by rw[<- hN];exact E5⟩
def iCopyEntries_get:List SV->St->Option Got
 | [.sl ty0 l],⟨[],[],[]⟩=>guardTy ty0 TEnt (some (l.length<=1000/\∀i,i<l.length->SumSmall (sumD ((l.getD i default).f 3)),.own 0,St.mk [] [] [⟨80,OEnt,l,0,false⟩]))
 | _,_=>none
theorem iCopyEntries_ok:Ok0 prog 48 iCopyEntries_get:=by
 intro _ _ _ _ _ h hp;unfold iCopyEntries_get at h;split at h
 · rename_i l;replace h:=gT h;obtain⟨rfl,h⟩:=h;cases h;refine fl [iCloneA_con,iCloneI_con,iCloneP_con,iCloneK_con] (fun k=>bif Nat.beq k 3 then some (.g (⟨Nat,fun s g=>hdb s [3,12] [(13,.int .i64 g)] s.bx [⟨80,OHo,cpD l g,0,false⟩],fun _ g=>g<=l.length,fun g=>l.length-g⟩)) else bif Nat.beq k 8 then some (.g (⟨Nat,fun s g=>hdb s [3,5,12,13,31,32] [(6,.own 1),(33,.int .i64 g)] s.bx [rwE s 0,⟨34,.sl 3 (.im (.int .i64)),fillD (svD s 31) (.node []) g,0,false⟩],fun s g=>g<=(svD s 31).length/\(svD s 31).length<=1000,fun g=>1000-g⟩)) else none) func48 ?_;apply VC.thru (iCopyEntries_vc l hp);kernel_rfl
 · cases h
def iCopyEntries_con:Con prog:=.f0 48 [.d,.lend] true iCopyEntries_get (en func48 rfl) iCopyEntries_ok
theorem iNetKnown_vc (nodes links words past:List Dat) (a:Int) :
 WFl TNode nodes->WFl Ty.bool links->WFl TWord words->WFl (Ty.int i64).sl.sl past->I64 a->(True/\((!dec (NetIn nodes links words past))=false->True)/\True)/\((!dec (NetIn nodes links words past)||!dec (0<=a/\a<5))=true->[]=bif dec (NetIn nodes links words past/\0<=a/\a<=4) then knownOf nodes a.toNat else [])/\((!dec (NetIn nodes links words past)||!dec
 (0<=a/\a<5))=false->(0<=a/\a<(nodes.length:Int))/\(((nodes.getD a.toNat default).f 1).kids.length<=1000/\∀i:Nat,i<((nodes.getD a.toNat default).f 1).kids.length->SumSmall (sumD ((((nodes.getD a.toNat default).f 1).kids.getD i default).f 3)))/\((nodes.getD a.toNat default).f 1).kids=bif dec (NetIn nodes links words past/\0<=a/\a<=4) then knownOf nodes a.toNat else []):=by
 intro _ _ _ _ _;simp only[iv,kv,fv,nm];refine⟨fun h=>?_,fun h=>⟨⟨by omega,by have:=h.1.1;omega⟩,known_small h.1.past (h.1.known (a:=a.toNat) (by omega)),?_⟩⟩
 · rw[dec_no (by rintro⟨h1,h2,h3⟩;exact h.elim (fun h=>h h1) (fun h=>h ⟨h2,by omega⟩))];rfl
 · rw[dec_yes ⟨h.1,h.2.1,by omega⟩];rfl
def iNetKnown_get:List SV->St->Option Got
 | [.agg [.sl ty0 nodes,.sl .bool links,.sl ty1 words,.sl (.sl (.sl (.int .i64))) past],.int .i64 a],⟨[],[],[]⟩=>guardTy ty0 TNode (guardTy ty1 TWord (some (True,.own 0,St.mk [] [] [⟨80,OEnt,bif dec (NetIn nodes links words past/\0<=a/\a<=4) then knownOf nodes a.toNat else [],0,false⟩])))
 | _,_=>none
theorem iNetKnown_ok:Ok0 prog 12 iNetKnown_get:=by
 intro _ _ _ _ _ h hp;unfold iNetKnown_get at h;split at h
 · rename_i nodes links _ words past a;replace h:=gT2 h;obtain⟨rfl,rfl,h⟩:=h;cases h;refine fz [iNetOk_con,iIsNode_con,iCopyEntries_con] func12 ?_;apply VC.thru (iNetKnown_vc nodes links words past a);kernel_rfl
 · cases h
def iNetKnown_con:Con prog:=.f0 12 [.d,.d,.lend] true iNetKnown_get (en func12 rfl) iNetKnown_ok
theorem lawNetKnown_vc (nodes links words past:List Dat) (a:Int) :
 WFl TNode nodes->WFl Ty.bool links->WFl TWord words->WFl (Ty.int i64).sl.sl past->I64 a->(0<=(1048576:Int)/\1048576<=(1048576:Int))/\(decide (szR (totL TNode nodes+totL Ty.bool links+totL TWord words+totL (Ty.int i64).sl.sl past) (1048576:Int)<0)->true=true)/\(decide (szR (totL TNode nodes+totL Ty.bool links+totL TWord words+totL (Ty.int i64).sl.sl past) (1048576:Int)<0)=false->totL TNode
 nodes+totL Ty.bool links+totL TWord words+totL (Ty.int i64).sl.sl past<=1048576/\True/\totL TNode nodes+totL Ty.bool links+totL TWord words+totL (Ty.int i64).sl.sl past<=1048576/\True/\True/\((!dec ((bif dec (NetIn nodes links words past/\0<=a/\a<=4) then knownOf nodes a.toNat else [])=bif dec (NetIn nodes links words past/\0<=a/\a<=4) then knownOf nodes a.toNat else []))=true->true=false)/\((!dec
 ((bif dec (NetIn nodes links words past/\0<=a/\a<=4) then knownOf nodes a.toNat else [])=bif dec (NetIn nodes links words past/\0<=a/\a<=4) then knownOf nodes a.toNat else []))=false->totL TNode nodes+totL Ty.bool links+totL TWord words+totL (Ty.int i64).sl.sl past<=1048576/\True/\((!dec (nodes=nodes/\links=links/\words=words/\past=past))=true->true=false)/\((!dec
 (nodes=nodes/\links=links/\words=words/\past=past))=false->(0<=(1:Int)/\(1:Int)+6*(↑(totL TNode nodes+totL Ty.bool links+totL TWord words+totL (Ty.int i64).sl.sl past):Int)<=1099511627776)/\(decide ((walkD (markD MK.int.sl.sl) past (walkD (markD mWd) words (walkD (markD MK.bool) links (walkD (markD mNd) nodes (1:Int)).snd).snd).snd).snd<(0:Int))=false->True/\((!dec ((bif dec (NetIn nodes links
 words past/\0<=a/\a<=4) then knownOf nodes a.toNat else [])=bif dec (NetIn nodes links words past/\0<=a/\a<=4) then knownOf nodes a.toNat else []))=true->true=false)/\((!dec ((bif dec (NetIn nodes links words past/\0<=a/\a<=4) then knownOf nodes a.toNat else [])=bif dec (NetIn nodes links words past/\0<=a/\a<=4) then knownOf nodes a.toNat else []))=false->(0<=(1:Int)/\(1:Int)+6*(↑(totL TEnt (bif
 dec (NetIn nodes links words past/\0<=a/\a<=4) then knownOf nodes a.toNat else [])):Int)<=1099511627776)/\(0<=(1:Int)/\(walkD (markD mEnt) (walkD (markD mEnt) (bif dec (NetIn nodes links words past/\0<=a/\a<=4) then knownOf nodes a.toNat else []) (1:Int)).fst (1:Int)).fst=(walkD (markD mEnt) (bif dec (NetIn nodes links words past/\0<=a/\a<=4) then knownOf nodes a.toNat else [])
 (1:Int)).fst/\(walkD (markD mEnt) (walkD (markD mEnt) (bif dec (NetIn nodes links words past/\0<=a/\a<=4) then knownOf nodes a.toNat else []) (1:Int)).fst (1:Int)).snd<=(1099511627776:Int))/\(decide ((walkD (markD mEnt) (walkD (markD mEnt) (bif dec (NetIn nodes links words past/\0<=a/\a<=4) then knownOf nodes a.toNat else []) (1:Int)).fst (1:Int)).snd<(0:Int))->true=false)/\(decide ((walkD (markD
 mEnt) (walkD (markD mEnt) (bif dec (NetIn nodes links words past/\0<=a/\a<=4) then knownOf nodes a.toNat else []) (1:Int)).fst (1:Int)).snd<(0:Int))=false->(decide ((walkD (markD mEnt) (walkD (markD mEnt) (bif dec (NetIn nodes links words past/\0<=a/\a<=4) then knownOf nodes a.toNat else []) (1:Int)).fst (1:Int)).snd≠(walkD (markD mEnt) (bif dec (NetIn nodes links words past/\0<=a/\a<=4) then
 knownOf nodes a.toNat else []) (1:Int)).snd)->true=false)/\(decide ((walkD (markD mEnt) (walkD (markD mEnt) (bif dec (NetIn nodes links words past/\0<=a/\a<=4) then knownOf nodes a.toNat else []) (1:Int)).fst (1:Int)).snd≠(walkD (markD mEnt) (bif dec (NetIn nodes links words past/\0<=a/\a<=4) then knownOf nodes a.toNat else []) (1:Int)).snd)=false->totL TNode nodes+totL Ty.bool links+totL TWord
 words+totL (Ty.int i64).sl.sl past<=1048576/\True/\True/\((!dec ((bif dec (NetIn nodes links words past/\0<=a/\a<=4) then knownOf nodes a.toNat else [])=bif dec (NetIn nodes links words past/\0<=a/\a<=4) then knownOf nodes a.toNat else []))=true->true=false)/\((!dec ((bif dec (NetIn nodes links words past/\0<=a/\a<=4) then knownOf nodes a.toNat else [])=bif dec (NetIn nodes links words
 past/\0<=a/\a<=4) then knownOf nodes a.toNat else []))=false->(0<=(1:Int)/\(walkD (markD mEnt) (walkD (markD mEnt) (bif dec (NetIn nodes links words past/\0<=a/\a<=4) then knownOf nodes a.toNat else []) (1:Int)).fst (1:Int)).fst=(walkD (markD mEnt) (bif dec (NetIn nodes links words past/\0<=a/\a<=4) then knownOf nodes a.toNat else []) (1:Int)).fst/\(walkD (markD mEnt) (walkD (markD mEnt) (bif dec
 (NetIn nodes links words past/\0<=a/\a<=4) then knownOf nodes a.toNat else []) (1:Int)).fst (1:Int)).snd<=(1099511627776:Int))/\(decide ((walkD (markD mEnt) (walkD (markD mEnt) (bif dec (NetIn nodes links words past/\0<=a/\a<=4) then knownOf nodes a.toNat else []) (1:Int)).fst (1:Int)).snd<(0:Int))->true=false)/\(decide ((walkD (markD mEnt) (walkD (markD mEnt) (bif dec (NetIn nodes links words
 past/\0<=a/\a<=4) then knownOf nodes a.toNat else []) (1:Int)).fst (1:Int)).snd<(0:Int))=false->(decide ((walkD (markD mEnt) (walkD (markD mEnt) (bif dec (NetIn nodes links words past/\0<=a/\a<=4) then knownOf nodes a.toNat else []) (1:Int)).fst (1:Int)).snd≠(walkD (markD mEnt) (bif dec (NetIn nodes links words past/\0<=a/\a<=4) then knownOf nodes a.toNat else [])
 (1:Int)).snd)->true=false)/\(decide ((walkD (markD mEnt) (walkD (markD mEnt) (bif dec (NetIn nodes links words past/\0<=a/\a<=4) then knownOf nodes a.toNat else []) (1:Int)).fst (1:Int)).snd≠(walkD (markD mEnt) (bif dec (NetIn nodes links words past/\0<=a/\a<=4) then knownOf nodes a.toNat else []) (1:Int)).snd)=false->true=true)))))))/\(decide ((walkD (markD MK.int.sl.sl) past (walkD (markD mWd)
 words (walkD (markD MK.bool) links (walkD (markD mNd) nodes (1:Int)).snd).snd).snd).snd<(0:Int))=!false->true=false)))):=by
 intro _ _ _ _ _;have h2:=szR_pos (n:=totL TNode nodes+totL .bool links+totL TWord words+totL (.sl (.sl (.int .i64))) past) (left:=1048576);have hR:totL TEnt (bif dec (NetIn nodes links words past/\0<=a/\a<=4) then knownOf nodes a.toNat else [])<=totL TNode nodes:=by
   cases hd:dec (NetIn nodes links words past/\0<=a/\a<=4) with
   | true=>
     rw[cond_true];rcases Nat.lt_or_ge a.toNat nodes.length with h | h
     · have:=tot_elem (e:=TNode) (ds:=nodes) h
       rw[tot_nd] at this;exact this
     · have e:knownOf nodes a.toNat=[]:=by
         unfold knownOf;rw[List.getD_eq_getElem?_getD,List.getElem?_eq_none h];rfl
       rw[e];exact Nat.zero_le _
   | false=>exact Nat.zero_le _
 generalize (bif dec (NetIn nodes links words past/\0<=a/\a<=4) then knownOf nodes a.toNat else []:List Dat)=r at hR ⊢;have hi:=mi_list mi_ent r 1;have hb:=mb_list mb_ent (l:=r) (k:=1);have b1:=mb_list mb_nd (l:=nodes) (k:=1);have b2:=mb_list mb_bool (l:=links) (k:=(walkD (markD mNd) nodes 1).2);have b3:=mb_list mb_wd (l:=words) (k:=(walkD (markD .bool) links (walkD (markD mNd) nodes 1).2).2);have b4:=mb_list (mb_sl (mb_sl mb_int)) (l:=past) (k:=(walkD (markD mWd) words (walkD (markD .bool) links (walkD (markD mNd) nodes 1).2).2).2);have dn:dec (nodes=nodes/\links=links/\words=words/\past=past)=true:=dec_yes ⟨rfl,rfl,rfl,rfl⟩
 simp only[hi,dn];simp only[iv,kv,fv,nm];refine⟨by omega,fun hs=>?_⟩;have h2:=h2 hs
 (repeat' (first | omega | exact fun h=>absurd trivial h | (intro h;first | (exfalso;omega) | (exfalso;simp only[Bool.not_false,decide_eq_true_eq] at h;omega) | skip) | refine And.intro ?_ ?_))
theorem lawNetKnown_fn (nodes links words past:List Dat) (a:Int):Fn prog 5 [.agg [.sl (.st [.int .i64,.sl (.st [.int .i64,.int .i64,.int .i64,(.st [.st [.sl (.sl (.int .i64))],.st [.sl (.int .i64)],.st [.sl (.st [.int .i64,.int .i64]),.int .i64,.int .i64],.st [.sl (.st [.int .i64,.int .i64]),.int .i64]])]),.int .i64,.int .i64,.int .i64]) nodes,.sl .bool links,.sl (.st [.int .i64,.int .i64,.int .i64,.int .i64,.int .i64,.sl (.st [.int .i64,.int .i64,.int .i64,(.st [.st [.sl (.sl (.int .i64))],.st [.sl (.int .i64)],.st [.sl (.st [.int .i64,.int .i64]),.int .i64,.int .i64],.st [.sl (.st [.int .i64,.int .i64]),.int .i64]])])]) words,.sl (.sl (.sl (.int .i64))) past],.int .i64 a] (St.mk [] [] []) Unit (fun _=>True) (fun _=>.bool true) (fun _=>St.mk [] [] []):=by
 refine fn_ok0 (ct:=[szNet_con,toNet_con,netKnown_con,iNetKnown_con,eqEntryS_con,eqNet_con,markNet_con,markEntryS_con,heldEntryS_con]) (L:=fun _=>none) (by kernel_rfl) func5 ?_;have h:=lawNetKnown_vc nodes links words past a;apply VC.thru h;kernel_rfl
end
end E
end Go.Proofs.YtlfohjkcajaebaaGreat
section
namespace Go.Proofs.YtlfohjkcajaebaaGreat
open Go Go.ChangeShapes Go.WideShapes Go.ChangeAt Go.RowKit
namespace E
variable {H:Type} {enc:TypeId×Value->H} {P:Program}
theorem trodAll_stays {W W':World} {sp:Nat->Bool} (hl:laidOutB P=true):∀{ts:List TypeId} {vs:List Value} {ds:List (DataW H)} {ps:List MemPlace},(∀t∈ts,P.readableRec t=true/\t<P.types.size)->
   DataW.TrodAll enc P W 0 (fun _=>true) true ts vs ds ps->(∀p∈ps,W.sameAt W' p)->(∀p∈ps,sp p.block=true)->DataW.TrodAll enc P W' 0 sp true ts vs ds ps
 | [],[],[],_,_,h,_,_=>h
 | t::ts,v::vs,d::ds,ps,hr,h,hs,hp=>by
   obtain⟨p,q,h1,h2,rfl⟩:=h;exact⟨p,q,WideElems.Trod_stays hl (hr t (List.mem_cons_self ..)).1 (hr t (List.mem_cons_self ..)).2 h1 (fun x hx=>hs x (List.mem_append_left _ hx)) (fun x hx=>hp x (List.mem_append_left _ hx)),
     trodAll_stays hl (fun u hu=>hr u (List.mem_cons_of_mem _ hu)) h2 (fun x hx=>hs x (List.mem_append_right _ hx)) (fun x hx=>hp x (List.mem_append_right _ hx)),rfl⟩
 | [],_::_,_,_,_,h,_,_=>h.elim
 | [],[],_::_,_,_,h,_,_=>h.elim
 | _::_,[],_,_,_,h,_,_=>h.elim
 | _::_,_::_,[],_,_,h,_,_=>h.elim
theorem below_keptBut {W W':World} {may:MemPlace->Prop} (hb:Below W.heap.size W W'):W.keptBut W' may:=by
 refine⟨hb.os,hb.output,fun i hi=>?_⟩
 have:=hb.block i hi
 rw[this];cases W.heap[i]? with
 | none=>rfl
 | some o=>
   cases o with
   | cells c t fr=>exact⟨rfl,rfl,rfl,fun _ _=>rfl⟩
   | map es k=>exact .inr ⟨rfl,rfl⟩
   | _=>rfl
theorem frozen_below {W W':World} (hb:Below W.heap.size W W') {a:Addr} (h:a.block<W.heap.size):W'.frozen? a=W.frozen? a:=by
 unfold World.frozen?;rw[hb.block a.block h]
theorem post_true {f:Func} {s:ChangeSpec} {apart fresh handsOn again:Bool} {W W':World} {args:Array Value} {ds gs:List (DataW H)} {before:List MemPlace} {tb:TypeId}
   (hl:laidOutB P=true) (hr:∀t∈f.params.toList,P.readableRec t=true/\t<P.types.size) (hrt:f.resultTypes=#[tb]) (hub:P.underlying tb=some .bool) (hvars:s.vars=[])
   (hW:DataW.Whole enc P f.params.toList s.vars apart W args.toList ds gs before) (hfn:s.fn H ds={ results:=[.lit (.bool true)],args:=ds}) (hb:Below W.heap.size W W') :
   s.post enc P f apart fresh handsOn again W args (.bool true) W':=by
 have hlt:=hW.lt;have hW':=hW;obtain⟨p,q,hA,hV,rfl,hz,hn⟩:=hW;rw[hvars] at hV;obtain⟨rfl,rfl⟩:=trodVars_none hV;simp only[List.append_nil] at *
 have hargs:∀sp:Nat->Bool,(∀x∈p,sp x.block=true)->DataW.TrodAll enc P W' 0 sp true f.params.toList args.toList (s.fn H (ds++[])).args p:=fun sp hs=>by
   rw[List.append_nil,hfn];exact trodAll_stays hl hr hA (fun x hx=>hb.same (hlt x hx)) hs
 have hres:∀(b:Nat) (sp:Nat->Bool) (hd:Bool),DataW.TrodAll enc P W' b sp hd f.resultTypes.toList ((Value.bool true).resultList f.resultTypes.size) (s.fn H (ds++[])).results []:=fun b sp hd=>by
   rw[List.append_nil,hfn,hrt];exact trodAll_mk1 (shut_bool hub _)
 have hv0:(s.fn H (ds++[])).vars=[]:=by rw[List.append_nil,hfn]
 have hvs:∀sp:Nat->Bool,DataW.TrodVars enc P W' sp s.vars (s.fn H (ds++[])).vars []:=fun sp=>by rw[hv0,hvars];rfl
 have hold:∀x∈p,(fun b=>decide (b<W.heap.size)) x.block=true:=fun x hx=>by simpa using hlt x hx
 refine⟨ds,[],p,[],p,[],hW',hres _ _ _,hargs _ hold,hvs _,World.keptBut_mono (fun x hx=>⟨hx,.inr (.inl hx)⟩) (below_keptBut hb),fun _=>?_⟩;refine⟨ok_one hrt rfl (okWide_bool_mk hub _),_,_,([]++p)++[],⟨[]++p,[],trodAll_append (hargs _ (fun _ _=>rfl)) (hres _ _ _),hvs _,rfl,?_,?_⟩,?_⟩
 · intro b off hp;have hp:MemPlace.cell b off∈p:=by simpa using hp
   rw[frozen_below hb (hlt _ hp)];exact hz b off hp
 · intro ha;simpa using hn ha
 · intro x hx _;simpa using hx
end E
end Go.Proofs.YtlfohjkcajaebaaGreat
end
section
namespace Go.Proofs.YtlfohjkcajaebaaGreat
open Go Go.ChangeShapes Go.WideShapes Go.ChangeAt Go.RowKit
namespace E
variable {P:Program}
theorem own_bare {E:Env} (h:E.bx.length=0) (x:Slot):own E ⟨[],[],[]⟩ x=none:=by
 cases x<;>simp [own,h]
def startE (w:World):Env:=⟨[],[],[],fun _ _=>undef,fun _=>False,w⟩
theorem close_law {f:FuncId} {ins:List SV} (hf:Fn P f ins ⟨[],[],[]⟩ Unit (fun _=>True) (fun _=>.bool true) (fun _=>⟨[],[],[]⟩)) {W:World} {args:Array Value} (hin:RelVs (· < W.heap.size) (startE W) W ins args.toList) :
   Calls P f args W fun e w'=>e=.returned (.bool true)/\Below W.heap.size W w':=by
 have hn:∀x,own (startE W) ⟨[],[],[]⟩ x=none:=own_bare rfl
 have:=hf (· < W.heap.size) (startE W) W args.toList (fun _ h=>h) rfl (fun _ h=>h.elim)
   ⟨rfl,rfl,rfl,fun j p b hp=>by simp at hp,fun j r v hr=>by simp at hr,fun x y b hx=>(by rw[hn] at hx;cases hx),fun x b hx=>(by rw[hn] at hx;cases hx)⟩ hin
 refine this.mono ?_;rintro e w' ⟨_,v,E',rfl,_,hk,hv⟩;have hv:v=.bool true:=hv;subst hv;exact⟨rfl,hk.kept.os,hk.kept.tape,hk.kept.output,hk.kept.size,fun b hb=>hk.kept.block b hb (fun⟨x,hx⟩=>by rw[hn] at hx;cases hx)⟩
end E
end Go.Proofs.YtlfohjkcajaebaaGreat
end
section
namespace Go.Proofs.YtlfohjkcajaebaaGreat
open Go Go.ChangeShapes Go.WideShapes Go.ChangeAt Go.RowKit
namespace E
mutual
def tyM (P:Program):Ty->TypeId->Bool
 | .int k,t=>match P.underlying t with | some (.int k')=>kindEq k k' | _=>false
 | .bool,t=>match P.underlying t with | some .bool=>true | _=>false
 | .str,t=>match P.underlying t with | some .string=>true | _=>false
 | .raw,_=>false
 | .sl e,t=>match P.underlying t with | some (.slice u)=>Nat.beq (P.cellsOf u) e.size&&Nat.ble 1 e.size&&Nat.ble 1 (P.bytesOf u)&&tyM P e u | _=>false
 | .st fs,t=>match P.underlying t with | some (.struct fds)=>Nat.beq (P.cellsOf t) (Ty.sizes fs)&&tysM P fs fds.toList 0 | _=>false
def tysM (P:Program):List Ty->List Field->Nat->Bool
 | [],[],_=>true
 | f::fs,d::ds,o=>Nat.beq d.offset o&&Nat.beq (P.cellsOf d.type) f.size&&tyM P f d.type&&tysM P fs ds (o+f.size)
 | _,_,_=>false
end
section
variable {H:Type} {enc:TypeId×Value->H} {P:Program} {w:World} {base:Nat} {sp:Nat->Bool} {held:Bool}
theorem cells_range {a:Addr} {n:Nat} {cs:List Value} (h:w.cells? base a n=some cs) (hn:1<=n):a.spot=none/\a.block<w.heap.size/\cs.length=n/\w.rangeAt a.block a.off cs:=by
 unfold World.cells? at h;split at h
 · have hl:=mapM_some_length h;have hg:∀i,i<n->w.cell? (a.add i)=cs[i]?:=fun i hi=>by
     have:=mapM_some_get h i i (by simp [hi])
     exact this
   have h0:=hg 0 (by omega);have hl':cs.length=n:=by simpa using hl
   have hs:a.spot=none/\a.block<w.heap.size:=by
     have h1:w.cell? a=cs[0]?:=h0;rw[List.getElem?_eq_getElem (by omega)] at h1;unfold World.cell? at h1;split at h1
     · rename_i c t fr hb;split at h1
       · cases h1
       · rename_i hs;exact⟨by simpa using hs,(Array.getElem?_eq_some_iff.1 hb).1⟩
     · cases h1
   refine⟨hs.1,hs.2,hl',fun i v hv=>?_⟩;have hi:i<n:=by rw[<- hl'];exact (List.getElem?_eq_some_iff.1 hv).1
   have e:a.add i=⟨a.block,a.off+i,none⟩:=by
     unfold Addr.add;split
     · rename_i hi0;subst hi0;cases a;simp_all
     · simp
   rw[<- e,hg i hi,hv]
 · cases h
theorem mem_all {e:TypeId} {n:Nat}:∀{l:List (DataW H)} {d:DataW H},d∈l->n∈d.weights P e->n∈DataW.weightsAll P e l
 | x::l,d,h,hn=>by
   unfold DataW.weightsAll;rcases List.mem_cons.1 h with rfl | h
   · exact List.mem_append_left _ hn
   · exact List.mem_append_right _ (mem_all h hn)
theorem mem_each {n:Nat}:∀{ts:List TypeId} {l:List (DataW H)} {i:Nat} {t:TypeId} {d:DataW H},ts[i]?=some t->l[i]?=some d->n∈d.weights P t->n∈DataW.weightsEach P ts l
 | t0::ts,d0::l,0,t,d,h1,h2,hn=>by
   simp at h1 h2;subst h1;subst h2;unfold DataW.weightsEach;exact List.mem_append_left _ hn
 | t0::ts,d0::l,i+1,t,d,h1,h2,hn=>by
   unfold DataW.weightsEach;exact List.mem_append_right _ (mem_each (i:=i) (by simpa using h1) (by simpa using h2) hn)
 | [],_,_,_,_,h1,_,_=>by simp at h1
 | _::_,[],_,_,_,_,h2,_=>by simp at h2
mutual
theorem rep_of:∀(ty:Ty) (t:TypeId) (fuel:Nat) (cs:List Value) (x:DataW H×List MemPlace),tyM P ty t=true->DataW.trod enc P w base sp held fuel t cs=some x->(∀n∈x.1.weights P t,n<=reachBytes)->∃d,Rep (· < w.heap.size) w ty cs d
 | .int k,t,fuel,cs,x,hm,h,hwt=>by
   unfold tyM at hm;split at hm
   · rename_i k' hu
     have:=kindEq_eq hm
     subst this;obtain⟨n,rfl,_,hw⟩:=DataW.trod_int hu h;refine⟨.int n,n,rfl,rfl,?_⟩;simp only[Lit.wf,Bool.and_eq_true,decide_eq_true_eq] at hw;cases k<;>simpa [Has,lo,hi,IntKind.min,IntKind.max,IntKind.signed,IntKind.bits] using hw
   · cases hm
 | .bool,t,fuel,cs,x,hm,h,hwt=>by
   unfold tyM at hm;split at hm
   · rename_i hu;obtain⟨b,rfl,_⟩:=DataW.trod_bool hu h;exact⟨.bool b,b,rfl,rfl⟩
   · cases hm
 | .str,t,fuel,cs,x,hm,h,hwt=>by
   unfold tyM at hm;split at hm
   · rename_i hu;obtain⟨s,rfl,rfl,_⟩:=DataW.trod_string hu h
     have:=hwt s.data.toList.length (by simp [DataW.weights])
     simp only[reachBytes,Array.length_toList] at this;exact⟨.str s,s,rfl,rfl,this⟩
   · cases hm
 | .raw,t,fuel,cs,x,hm,h,hwt=>by
   unfold tyM at hm;cases hm
 | .sl e,t,fuel,cs,x,hm,h,hwt=>by
   unfold tyM at hm;split at hm
   · rename_i u hu;simp only[Bool.and_eq_true] at hm;obtain⟨⟨⟨hc,h1⟩,hby⟩,hm⟩:=hm;have hby:1<=P.bytesOf u:=Nat.le_of_ble_eq_true hby;have hc:P.cellsOf u=e.size:=Nat.eq_of_beq_eq_true hc;have h1:1<=e.size:=Nat.le_of_ble_eq_true h1;rcases DataW.trod_slice hu h with ⟨rfl,_⟩ | ⟨a,len,cap,elems,rest,n,rfl,rfl,rfl,hb,hl,hmax,hlen,hel,_,_⟩
     · exact⟨.node [],none,0,0,[],rfl,rfl,rfl,Nat.le_refl _,Nat.zero_le _,fun h=>absurd rfl h⟩
     · have key:∀i,i<len->∃d,a.spot=none/\a.block<w.heap.size/\∃es,w.rangeAt a.block (a.off+i*e.size) es/\Rep (· < w.heap.size) w e es d:=by
         intro i hi;have h2:=hel i hi;rw[List.getElem?_eq_getElem (by omega),hc] at h2;obtain⟨es,h3,h4⟩:=Option.bind_eq_some_iff.1 h2;obtain⟨h5,h6,h7,h8⟩:=cells_range h3 h1;obtain⟨d,hd⟩:=rep_of e u n es _ hm h4 (fun m hm'=>hwt m (by
           simp only[DataW.weights,hu];exact List.mem_cons_of_mem _ (List.mem_append_left _ (mem_all (List.mem_map.2 ⟨_,List.getElem_mem _,rfl⟩) hm'))))
         have ha:(a.add (i*e.size)).block=a.block/\(a.add (i*e.size)).off=a.off+i*e.size:=by
           unfold Addr.add;split
           · rename_i h0;exact⟨rfl,by omega⟩
           · exact⟨rfl,rfl⟩
         rw[ha.1] at h6 h8;rw[ha.2] at h8;have hs:a.spot=none:=by
           have h2:=hel 0 (by omega);rw[List.getElem?_eq_getElem (by omega),hc] at h2;obtain⟨es0,h30,_⟩:=Option.bind_eq_some_iff.1 h2
           have:=(cells_range h30 h1).1
           simpa [Addr.add] using this
         exact⟨d,hs,h6,es,h8,hd⟩
       have hch:∃ds:List Dat,ds.length=len/\∀i x,ds[i]?=some x->∃es,w.rangeAt a.block (a.off+i*e.size) es/\Rep (· < w.heap.size) w e es x:=by
         refine⟨(List.range len).map (fun i=>if h:i<len then Classical.choose (key i h) else default),by simp,fun i x hx=>?_⟩;rw[List.getElem?_map] at hx;obtain⟨j,hj,rfl⟩:=Option.map_eq_some_iff.1 hx;have hij:i<len/\j=i:=by
           have:=List.getElem?_eq_some_iff.1 hj
           obtain⟨h3,h4⟩:=this;simp at h3 h4;exact⟨h3,h4.symm⟩
         obtain⟨hi,rfl⟩:=hij;rw[dif_pos hi];exact (Classical.choose_spec (key _ hi)).2.2
       obtain⟨ds,hds,hrep⟩:=hch;refine⟨.node ds,some a,len,cap,ds,rfl,rfl,hds,hl,?_,fun hn=>?_⟩
       · have h9:=hwt (((elems.map (·.1)).length+(rest.map (·.1)).length)*P.bytesOf u) (by simp only[DataW.weights,hu];exact List.mem_cons_self ..);simp only[List.length_map,reachBytes] at h9;have h10:=Nat.mul_le_mul_left (elems.length+rest.length) hby;omega
       obtain⟨_,hs,hb,_⟩:=key 0 (by omega);refine⟨a.block,a.off,by cases a;simp_all,hb,hrep⟩
   · cases hm
 | .st fs,t,fuel,cs,x,hm,h,hwt=>by
   unfold tyM at hm;split at hm
   · rename_i fds hu;simp only[Bool.and_eq_true] at hm;obtain⟨hc,hm⟩:=hm;obtain⟨xs,n,_,rfl,hl,hxs,hf⟩:=DataW.trod_struct hu h;have hc:P.cellsOf t=Ty.sizes fs:=Nat.eq_of_beq_eq_true hc;obtain⟨ds,hd⟩:=reps_of fs fds.toList 0 n cs hm (by omega) (fun i f hi=>by
       have hlt:i<fds.size:=by simpa using (List.getElem?_eq_some_iff.1 hi).1
       have:=hf i f (by simpa using hi)
       rw[List.getElem?_eq_getElem (by omega)] at this;exact⟨_,this,fun m hm'=>hwt m (by
         simp only[DataW.weights,hu];refine mem_each (i:=i) (t:=f.type) (d:=(xs[i]'(by omega)).1) (by simp only[List.getElem?_map,hi,Option.map_some]) (by rw[List.getElem?_map,List.getElem?_eq_getElem (by omega)];rfl) hm')⟩)
     exact⟨.node ds,ds,rfl,by simpa using hd⟩
   · cases hm
theorem reps_of:∀(fs:List Ty) (fds:List Field) (o n:Nat) (cs:List Value),tysM P fs fds o=true->cs.length=o+Ty.sizes fs->(∀(i:Nat) (f:Field),fds[i]?=some f->∃x:DataW H×List MemPlace,DataW.trod enc P w base sp held n f.type ((cs.drop f.offset).take (P.cellsOf f.type))=some x/\∀m∈x.1.weights P f.type,m<=reachBytes)->∃ds,Reps (· < w.heap.size) w fs (cs.drop o) ds
 | [],[],o,n,cs,_,hl,_=>⟨[],List.drop_eq_nil_of_le (by simp [Ty.sizes] at hl;omega),rfl⟩
 | f::fs,d::fds,o,n,cs,hm,hl,hf=>by
   unfold tysM at hm;simp only[Bool.and_eq_true] at hm;obtain⟨⟨⟨h1,h2⟩,h3⟩,h4⟩:=hm;have h1:d.offset=o:=Nat.eq_of_beq_eq_true h1;have h2:P.cellsOf d.type=f.size:=Nat.eq_of_beq_eq_true h2;obtain⟨x,hx,hxw⟩:=hf 0 d rfl;rw[h1,h2] at hx;obtain⟨d1,hd1⟩:=rep_of f d.type n _ _ h3 hx hxw;obtain⟨ds,hds⟩:=reps_of fs fds (o+f.size) n cs h4 (by simp [Ty.sizes] at hl;omega) (fun i g hi=>hf (i+1) g (by simpa using hi));refine⟨d1::ds,(cs.drop o).take f.size,cs.drop (o+f.size),d1,ds,?_,rfl,hd1,hds⟩;rw[<- List.drop_drop,List.take_append_drop]
 | [],_::_,_,_,_,hm,_,_=>by unfold tysM at hm;cases hm
 | _::_,[],_,_,_,hm,_,_=>by unfold tysM at hm;cases hm
end
def svOf (ty:Ty) (d:Dat):SV:=match ty with
 | .st fs=>.agg (flats fs d 0)
 | .int k=>.int k d.toInt
 | .bool=>.bool d.toBool
 | .str=>.str d.toStr
 | .raw=>.raw d.toRaw
 | .sl e=>.sl e d.kids
def plainTy:Ty->Bool
 | .st _=>false
 | _=>true
theorem flat_svOf {ty:Ty} (h:plainTy ty=true) (d:Dat):flat ty d=[svOf ty d]:=by
 cases ty<;>first | rfl | cases h
theorem cells_of_one {v:Value} (h:∀cs,v≠.agg cs):v.cells=#[v]:=by cases v<;>first | rfl | exact absurd rfl (h _)
theorem open_arg {r:Reach} {b0:Nat} {E:Env} {ty:Ty} {t:TypeId} {v:Value} {d:DataW H} {ps:List MemPlace} (hm:tyM P ty t=true) (hok:Value.okWide P w r b0 t v) (h:DataW.Trod enc P w base sp held t v d ps) (hw:∀n∈d.weights P t,n<=reachBytes) :
   ∃x,RelV (· < w.heap.size) E w (svOf ty x) v:=by
 obtain⟨fuel,hf⟩:=h;obtain⟨x,hx⟩:=rep_of ty t fuel _ _ hm hf hw;refine⟨x,?_⟩;have hfl:=hx.flat (E:=E);cases ty with
 | st fs=>
   unfold tyM at hm;split at hm
   · rename_i fds hu;unfold Value.okWide at hok;rw[hu] at hok;obtain⟨cs,rfl,_,_⟩:=hok;refine⟨cs.toList,by simp,?_⟩;have e:(Value.agg cs).cells.toList=cs.toList:=rfl;rw[e] at hfl;exact hfl
   · cases hm
 | raw=>unfold tyM at hm;cases hm
 | _=>
   have hone:v.cells=#[v]:=by
     refine cells_of_one (fun cs hv=>?_);subst hv;unfold tyM at hm;split at hm
     · rename_i hu;unfold Value.okWide at hok;rw[hu] at hok;simp [Cell.okWide,hu,Cell.ok] at hok
     · cases hm
   rw[hone,flat_svOf rfl] at hfl;obtain⟨u,us,he,h1,_⟩:=hfl;simp at he;rw[he.1];exact h1
def tysA (P:Program):List Ty->List TypeId->Bool
 | [],[]=>true
 | ty::tys,t::ts=>tyM P ty t&&tysA P tys ts
 | _,_=>false
def svsOf:List Ty->List Dat->List SV
 | ty::tys,d::ds=>svOf ty d::svsOf tys ds
 | _,_=>[]
theorem open_args {r:Reach} {b0:Nat} {E:Env}:∀{tys:List Ty} {ts:List TypeId} {vs:List Value} {ds:List (DataW H)} {ps:List MemPlace},tysA P tys ts=true->(∀(j:Nat) t v,ts[j]?=some t->vs[j]?=some v->Value.okWide P w r b0 t v)->DataW.TrodAll enc P w base sp held ts vs ds ps->
   (∀n∈DataW.weightsEach P ts ds,n<=reachBytes)->∃xs,xs.length=tys.length/\RelVs (· < w.heap.size) E w (svsOf tys xs) vs
 | [],[],[],[],_,_,_,_,_=>⟨[],rfl,rfl⟩
 | ty::tys,t::ts,v::vs,d::ds,ps,hm,hok,⟨p,q,h1,h2,_⟩,hw=>by
   unfold tysA at hm;simp only[Bool.and_eq_true] at hm;unfold DataW.weightsEach at hw;obtain⟨x,hx⟩:=open_arg (E:=E) hm.1 (hok 0 t v rfl rfl) h1 (fun n hn=>hw n (List.mem_append_left _ hn));obtain⟨xs,hl,hxs⟩:=open_args (E:=E) hm.2 (fun j t v h3 h4=>hok (j+1) t v (by simpa using h3) (by simpa using h4)) h2 (fun n hn=>hw n (List.mem_append_right _ hn));exact⟨x::xs,by simp [hl],v,vs,rfl,hx,hxs⟩
 | [],_::_,_,_,_,hm,_,_,_=>by unfold tysA at hm;cases hm
 | _::_,[],_,_,_,hm,_,_,_=>by unfold tysA at hm;cases hm
 | [],[],_::_,_,_,_,_,h,_=>h.elim
 | [],[],[],_::_,_,_,_,h,_=>h.elim
 | _::_,_::_,[],_,_,_,_,h,_=>h.elim
 | _::_,_::_,_::_,[],_,_,_,h,_=>h.elim
theorem row_contract {f:FuncId} {fn:Func} {s:ChangeSpec} {apart fresh handsOn again:Bool} {W:World} {args:Array Value} {ds gs:List (DataW H)} {before:List MemPlace} {tb:TypeId} {tys:List Ty} {b0:Nat}
   (hf:∀xs:List Dat,xs.length=tys.length->Fn P f (svsOf tys xs) ⟨[],[],[]⟩ Unit (fun _=>True) (fun _=>.bool true) (fun _=>⟨[],[],[]⟩)) (htys:tysA P tys fn.params.toList=true)
   (hl:laidOutB P=true) (hr:∀t∈fn.params.toList,P.readableRec t=true/\t<P.types.size) (hrt:fn.resultTypes=#[tb]) (hub:P.underlying tb=some .bool) (hvars:s.vars=[]) (hfn:s.fn H ds={ results:=[.lit (.bool true)],args:=ds})
   (hval:∀(j:Nat) t v,fn.params[j]?=some t->args[j]?=some v->Value.okWide P W .any b0 t v) (hW:DataW.Whole enc P fn.params.toList s.vars apart W args.toList ds gs before)
   (hwt:(DataW.weightsEach P (fn.params.toList++s.plain.varTypes P) (ds++gs)).all (·<=reachBytes)=true) :
   Calls P f args W fun e W'=>∃v,e=.returned v/\s.post enc P fn apart fresh handsOn again W args v W':=by
 have hW':=hW;obtain⟨p,q,hA,hV,rfl,_,_⟩:=hW;have hV0:=hV;rw[hvars] at hV0;obtain⟨rfl,rfl⟩:=trodVars_none hV0;have hvt:s.plain.varTypes P=[]:=by
   have:s.plain.vars=[]:=hvars
   simp [DataSpec.varTypes,this]
 rw[hvt,List.append_nil,List.append_nil] at hwt;obtain⟨xs,hxl,hxs⟩:=open_args (E:=startE W) htys (fun j t v h1 h2=>hval j t v (by simpa using h1) (by simpa using h2)) hA (fun n hn=>by simpa using List.all_eq_true.1 hwt n hn);refine (close_law (hf xs hxl) hxs).mono fun e W' ⟨he,hg⟩=>?_
 subst he;exact⟨_,rfl,post_true hl hr hrt hub hvars hW' hfn hg⟩
end
end E
end Go.Proofs.YtlfohjkcajaebaaGreat
end
