/- Texts that the claim stands on, part 4. -/
import Derived.Test.YtlfohjkcajaebaaGreatQK3
import Derived.Test.YtlfohjkcajaebaaGreatProg
set_option linter.all false
namespace Go.Proofs.YtlfohjkcajaebaaGreat
open Go Go.RowKit
open Go.IntKind (i64)
open Tryz
namespace E
noncomputable section
set_option maxRecDepth 100000
def place (i:Nat) (t:Int):Int:=match i with | 0=>(t*3+t / 8) % 8 | 1=>(t*5+t / 16+1) % 8 | _=>(t+t / 4+2) % 8
theorem place_lt (i:Nat) (t:Int):0<=place i t/\place i t<8:=by
 unfold place;split<;>exact⟨Int.emod_nonneg _ (by decide),Int.emod_lt_of_pos _ (by decide)⟩
def roughAdd (rows:List Dat) (t n:Int):List Dat:=tab 3 fun i=>.node (tab 8 fun k=>.int (iv (kv rows i) k+if (k:Int)=place i t then n else 0))
def roughZero:List Dat:=tab 3 fun _=>.node (tab 8 fun _=>.int 0)
theorem RoughIn.rows {rows:List Dat} (h:RoughIn rows) (i:Nat):(kv rows i).length<=8:=by
 rcases Nat.lt_or_ge i 3 with h1 | h1
 · exact Nat.le_of_eq (h.2 i h1).1.1
 · have:rows.getD i default=default:=by rw[List.getD_eq_getElem?_getD,List.getElem?_eq_none (by rw[h.1];omega)];rfl
   simp only[kv,this];exact Nat.zero_le _
theorem row_sums {l:List Dat} (h:RowIn l):∀g,g<=8->0<=sumW (l.take g)/\sumW (l.take g)<=2000*g:=by
 intro g
 induction g with
 | zero=>intro _;simp [sumW]
 | succ g ih=>
   intro hg;have h1:=ih (by omega);have h2:=h.2 g (by omega);rw[sumW_next l g (by rw[h.1];omega)];simp only[iv] at h2;rw[wrap_ok (by omega) (by omega)];omega
theorem RowIn.sum {l:List Dat} (h:RowIn l):0<=sumW l/\sumW l<=16000:=by
 have:=row_sums h 8 (by omega)
 rw[List.take_of_length_le (by rw[h.1];omega)] at this;omega
def roughUpto (rows:List Dat) (t n:Int) (g:Nat):List Dat:=tab 3 fun i=>if i<g then .node (tab 8 fun k=>.int (iv (kv rows i) k+if (k:Int)=place i t then n else 0)) else rows.getD i default
theorem upto_row {rows:List Dat} {t n:Int} {g x:Nat} (h:x<3) (hg:g<=x):(roughUpto rows t n g).getD x default=rows.getD x default:=by
 unfold roughUpto;rw[tab_getD h,if_neg (by omega)]
theorem upto_step {rows:List Dat} {t n:Int} {x:Nat} (hw:WFl (.sl (.int .i64)) rows) (hr:RoughIn rows) (hx:x<3) (h0:0<=n) (hn:n<=2000) :
   (roughUpto rows t n x).set x (Dat.node ((rows.getD x default).kids.set (place x t).toNat (.int (IntKind.i64.wrap (((rows.getD x default).kids.getD (place x t).toNat default).toInt+n)))))=roughUpto rows t n (x+1):=by
 have hp:=place_lt x t;have hrow:=(hr.2 x hx).1;have hwx:=(wf_sl (wfl_get hw (i:=x) (by rw[hr.1];exact hx))).1;refine tab_of (by simp [roughUpto]) (fun i hi=>?_);rw[getD_set];by_cases e:x=i
 · subst e;rw[if_pos ⟨rfl,by simp [roughUpto];omega⟩,if_pos (by omega)]
   congr 1
   refine tab_of (by rw[List.length_set];exact hrow.1) (fun k hk=>?_);rw[getD_set];have h2:=hrow.2 k hk;have h3:=(wf_int (wfl_get hwx (i:=k) (by rw[show (rows.getD x default).kids.length=8 from hrow.1];exact hk))).1;simp only[kv,iv] at h2 ⊢;by_cases e2:(place x t).toNat=k
   · subst e2;rw[if_pos ⟨rfl,by rw[show (rows.getD x default).kids.length=8 from hrow.1];exact hk⟩,if_pos (by omega),wrap_ok (by omega) (by omega)]
   · rw[if_neg (by omega),if_neg (by omega),Int.add_zero];exact h3
 · rw[if_neg (by omega)];unfold roughUpto;rw[tab_getD hi];by_cases e2:i<x
   · rw[if_pos e2,if_pos (by omega)]
   · rw[if_neg e2,if_neg (by omega)]
theorem l1Place_vc (row thing:Int) (hp:0<=row/\row<3/\0<=thing/\thing<64) :
 I64 row->I64 thing->(0<=row/\row<(↑(3:Nat):Int))/\row.toNat<3/\(I64 ([Dat.int (3:Int),Dat.int (5:Int),Dat.int (1:Int)].getD row.toNat default).toInt->(0<=row/\row<(↑(3:Nat):Int))/\row.toNat<3/\(I64 ([Dat.int (8:Int),Dat.int (16:Int),Dat.int (4:Int)].getD row.toNat default).toInt->([Dat.int (8:Int),Dat.int (16:Int),Dat.int (4:Int)].getD row.toNat default).toInt≠(0:Int)/\(8:Int)≠0/\(i64.wrap
 (i64.wrap (i64.wrap (thing*([Dat.int (3:Int),Dat.int (5:Int),Dat.int (1:Int)].getD row.toNat default).toInt)+i64.wrap (thing.tdiv ([Dat.int (8:Int),Dat.int (16:Int),Dat.int (4:Int)].getD row.toNat default).toInt))+row)).tmod 8=place row.toNat thing)):=by
 intro ha hb;obtain⟨h0,h1,h2,h3⟩:=hp;have hr:row=0\/row=1\/row=2:=by omega
 rcases hr with rfl | rfl | rfl
 all_goals
   refine⟨by omega,by decide,fun _=>⟨by omega,by decide,fun _=>⟨by decide,by decide,?_⟩⟩⟩;obtain⟨k,rfl⟩:=Int.eq_ofNat_of_zero_le h2;have hk:k<64:=by omega
   clear h0 h1 h2 h3 hb
   revert k
   decide
def l1Place_get:List SV->St->Option Got
 | [.int .i64 row,.int .i64 thing],⟨[],[],[]⟩=>some (0<=row/\row<3/\0<=thing/\thing<64,.int .i64 (place row.toNat thing),St.mk [] [] [])
 | _,_=>none
theorem l1Place_ok:Ok0 prog 240 l1Place_get:=by
 intro _ _ _ _ _ h hp;unfold l1Place_get at h;split at h
 · rename_i row thing;cases h;refine fz [] func240 ?_;apply VC.thru (l1Place_vc row thing hp);kernel_rfl
 · cases h
def l1Place_con:Con prog:=.f0 240 [] true l1Place_get (en func240 rfl) l1Place_ok
theorem l1Copy_vc (rows:List Dat) (hp:rows.length<=1000/\∀i,(kv rows i).length<=1000) :
 WFl (Ty.int i64).sl rows->(∃x:Nat,x<=rows.length/\rows=rows/\0=(x:Int)/\rows=rows/\([]:List Dat)=List.take x rows)/\∀x:Nat,x<=rows.length->I64 (rows.length:Int)->(decide ((x:Int)<(rows.length:Int))->(0<=(x:Int)/\(x:Int)<(rows.length:Int))/\rows=rows/\(0+(rows.getD x default).kids.length)*8<=140737488355328/\((List.take x
 rows).length+1)*24<=140737488355328/\∃x_1:Nat,(x_1<=rows.length/\rows.length-x_1<rows.length-x)/\rows=rows/\i64.wrap ((x:Int)+1)=(x_1:Int)/\rows=rows/\List.take x rows++[Dat.node ([]++(rows.getD x default).kids)]=List.take x_1 rows)/\(decide ((x:Int)<(rows.length:Int))=false->List.take x rows=rows):=by
 intro hw;simp only[iv,kv,fv,nm];refine⟨⟨0,by omega,rfl,rfl⟩,fun x hx hl=>⟨fun hlt=>⟨by omega,?_,?_,x+1,⟨by omega,by omega⟩,up_ok (n:=1000) (by omega) (by omega),?_⟩,fun hlt=>List.take_of_length_le (by omega)⟩⟩
 · have:=hp.2 x;simp only[kv] at this;omega
 · rw[List.length_take];omega
 · rw[take_getD (by omega),List.nil_append,<- (wf_sl (wfl_get hw (i:=x) (by omega))).2]
def l1Copy_get:List SV->St->Option Got
 | [.agg [.sl (.sl (.int .i64)) rows]],⟨[],[],[]⟩=>some (rows.length<=1000/\∀i,(kv rows i).length<=1000,.agg [.own 0],St.mk [] [] [⟨34,.sl 3 (.im (.int .i64)),rows,0,false⟩])
 | _,_=>none
theorem l1Copy_ok:Ok0 prog 150 l1Copy_get:=by
 intro _ _ _ _ _ h hp;unfold l1Copy_get at h;split at h
 · rename_i rows;cases h;refine fl [] (fun k=>bif Nat.beq k 3 then some (.g (⟨Nat,fun s g=>hdb s [0,1,2,3] [(4,.int .i64 g)] (s.bx.set 2 (33,[.own 0])) [⟨34,.sl 3 (.im (.int .i64)),rows.take g,0,false⟩],fun _ g=>g<=rows.length,fun g=>rows.length-g⟩)) else none) func150 ?_;apply VC.thru (l1Copy_vc rows hp);kernel_rfl
 · cases h
def l1Copy_con:Con prog:=.f0 150 [] false l1Copy_get (en func150 rfl) l1Copy_ok
theorem roughAll_vc (rows:List Dat) (hp:RoughIn rows) :
 WFl (Ty.int i64).sl rows->True/\((!dec (RoughIn rows))=true->-1=sumW (kv rows 0))/\((!dec (RoughIn rows))=false->(0<=(0:Int)/\0<(rows.length:Int))/\True/\sumW (rows.getD 0 default).kids=sumW (kv rows 0)):=by
 intro hw;simp only[iv,kv,fv,nm];exact⟨fun h=>absurd hp h,fun _=>by have:=hp.1;omega⟩
def roughAll_get:List SV->St->Option Got
 | [.agg [.sl (.sl (.int .i64)) rows]],⟨[],[],[]⟩=>some (RoughIn rows,.int .i64 (sumW (kv rows 0)),St.mk [] [] [])
 | _,_=>none
theorem roughAll_ok:Ok0 prog 148 roughAll_get:=by
 intro _ _ _ _ _ h hp;unfold roughAll_get at h;split at h
 · rename_i rows;cases h;refine fz [roughOk_con,l1Sum_con] func148 ?_;apply VC.thru (roughAll_vc rows hp);kernel_rfl
 · cases h
def roughAll_con:Con prog:=.f0 148 [] true roughAll_get (en func148 rfl) roughAll_ok
theorem sumNew_vc :
 True/\(tab 3 fun (x:Nat)=>Dat.node (tab 8 fun (x:Nat)=>Dat.int (0:Int)))=roughZero/\([]:List Dat)=[]/\([]:List Dat)=[]/\(0:Int)=0/\(0:Int)=0/\([]:List Dat)=[]/\(0:Int)=0:=by
 exact⟨trivial,rfl,rfl,rfl,rfl,rfl,rfl,rfl⟩
def sumNew_get:List SV->St->Option Got
 | [],⟨[],[],[]⟩=>some (True,.agg [.sl (.sl (.int .i64)) roughZero,.sl (.int .i64) [],.sl TPr [],.int .i64 0,.int .i64 0,.sl TPr [],.int .i64 0],St.mk [] [] [])
 | _,_=>none
theorem sumNew_ok:Ok0 prog 37 sumNew_get:=by
 intro _ _ _ _ _ h hp;unfold sumNew_get at h;split at h
 · cases h;refine fz [roughNew_con] func37 ?_;apply VC.thru (sumNew_vc);kernel_rfl
 · cases h
def sumNew_con:Con prog:=.f0 37 [] false sumNew_get (en func37 rfl) sumNew_ok
theorem roughAdd_vc (rows:List Dat) (thing n:Int) (hp:RoughIn rows/\0<=thing/\thing<64/\0<=n/\n+sumW (kv rows 0)<=2000) :
 WFl (Ty.int i64).sl rows->I64 thing->I64 n->(True/\((!dec (RoughIn rows))=false->True/\((!(decide (0<=thing)&&decide (thing<=63)))=false->(0<=(0:Int)/\0<(rows.length:Int))/\True/\(I64 (sumW (rows.getD 0 default).kids)->True))/\True)/\True)/\((!dec (RoughIn rows)||(!(decide (0<=thing)&&decide (thing<=63))||!(decide (0<=n)&&decide (n<=i64.wrap ((2000:Int)-sumW (rows.getD 0
 default).kids)))))=true->False)/\((!dec (RoughIn rows)||(!(decide (0<=thing)&&decide (thing<=63))||!(decide (0<=n)&&decide (n<=i64.wrap ((2000:Int)-sumW (rows.getD 0 default).kids)))))=false->(rows.length<=1000/\∀i:Nat,(kv rows i).length<=1000)/\(∃x:Nat,x<=3/\thing=thing/\n=n/\0=(x:Int)/\rows=rows/\rows=roughUpto rows thing n x)/\∀x:Nat,x<=3->(decide ((x:Int)<3)->(0<=(x:Int)/\(x:Int)<(↑(roughUpto
 rows thing n x).length:Int))/\x<(roughUpto rows thing n x).length/\(0<=(x:Int)/\(x:Int)<3/\0<=thing/\thing<64)/\(0<=(x:Int)/\(x:Int)<(↑(roughUpto rows thing n x).length:Int))/\x<(roughUpto rows thing n x).length/\(0<=(x:Int)/\(x:Int)<3/\0<=thing/\thing<64)/\((x<(roughUpto rows thing n x).length/\True)/\0<=place x thing/\place x thing<(↑((roughUpto rows thing n x).getD x
 default).kids.length:Int))/\((x<(roughUpto rows thing n x).length/\True)/\(place x thing).toNat<((roughUpto rows thing n x).getD x default).kids.length)/\((x<(roughUpto rows thing n x).length/\True)/\0<=place x thing/\place x thing<(↑((roughUpto rows thing n x).getD x default).kids.length:Int))/\((x<(roughUpto rows thing n x).length/\True)/\(place x thing).toNat<((roughUpto rows thing n x).getD x
 default).kids.length)/\∃x_1:Nat,(x_1<=3/\3-x_1<3-x)/\thing=thing/\n=n/\i64.wrap ((x:Int)+1)=(x_1:Int)/\rows=rows/\(roughUpto rows thing n x).set x (Dat.node (((roughUpto rows thing n x).getD x default).kids.set (place x thing).toNat (Dat.int (i64.wrap ((((roughUpto rows thing n x).getD x default).kids.getD (place x thing).toNat default).toInt+n)))))=roughUpto rows thing n x_1)/\(decide
 ((x:Int)<3)=false->roughUpto rows thing n x=roughAdd rows thing n)):=by
 intro hw ht hn;simp only[iv,kv,fv,nm];obtain⟨hr,h0,h1,h2,h3⟩:=hp;have hs:=(hr.2 0 (by omega)).1.sum;simp only[kv] at hs h3;have hl:=hr.1;have hwr:IntKind.i64.wrap (2000-sumW (rows.getD 0 default).kids)=2000-sumW (rows.getD 0 default).kids:=wrap_ok (by omega) (by omega);rw[hwr];refine⟨fun _ _=>by omega,fun h=>?_,fun _=>⟨⟨by omega,fun i=>by have:=hr.rows i;simp only[kv] at this;omega⟩,⟨0,by omega,rfl,?_⟩,fun x hx=>⟨fun hlt=>?_,fun hlt=>?_⟩⟩⟩
 · rcases h with h | h | h
   · exact h hr
   · omega
   · omega
 · refine tab_of hl (fun i hi=>?_);rw[if_neg (by omega)]
 · have hx:x<3:=by omega
   have hlen:(roughUpto rows thing n x).length=3:=by simp [roughUpto]
   have hp:=place_lt x thing;have h8:(rows.getD x default).kids.length=8:=(hr.2 x hx).1.1;rw[upto_row hx (Nat.le_refl _),hlen,h8];refine⟨by omega,by omega,by omega,by omega,by omega,by omega,by omega,by omega,by omega,by omega,x+1,by omega,up_ok (n:=3) hx (by omega),upto_step hw hr hx h2 (by omega)⟩
 · have:x=3:=by omega
   subst this;exact tab_congr (fun i hi=>by rw[if_pos hi])
def roughAdd_get:List SV->St->Option Got
 | [.agg [.sl (.sl (.int .i64)) rows],.int .i64 thing,.int .i64 n],⟨[],[],[]⟩=>some (RoughIn rows/\0<=thing/\thing<64/\0<=n/\n+sumW (kv rows 0)<=2000,.tup [.agg [.sl (.sl (.int .i64)) (roughAdd rows thing n)],.tt],St.mk [] [] [])
 | _,_=>none
theorem roughAdd_ok:Ok0 prog 231 roughAdd_get:=by
 intro _ _ _ _ _ h hp;unfold roughAdd_get at h;split at h
 · rename_i rows thing n;cases h;refine fl [roughOk_con,l1Sum_con,l6In_con,l1Copy_con,l1Place_con] (fun k=>bif Nat.beq k 5 then some (.g (⟨Nat,fun s g=>hdb s [1,2,3,6,7,8] [(9,.int .i64 g)] s.bx [⟨34,.sl 3 (.im (.int .i64)),roughUpto rows thing n g,0,false⟩],fun _ g=>g<=3,fun g=>3-g⟩)) else none) func231 ?_;apply VC.thru (roughAdd_vc rows thing n hp);kernel_rfl
 · cases h
def roughAdd_con:Con prog:=.f0 231 [] false roughAdd_get (en func231 rfl) roughAdd_ok
def mark (t:Int):Int:=(t*37+11) % 64
def FewTo (kept:List Dat) (n:Nat):Prop:=∀i,i<n->0<=iv kept i/\iv kept i<=63/\(0<i->iv kept (i-1)<iv kept i)
def FewIn (kept:List Dat):Prop:=kept.length<=6/\FewTo kept kept.length
def fewPre (l:List Int) (m:Int) (b:Bool):List Int:=if b=true then l.filter (fun x=>decide (x<m))++m::l.filter (fun x=>decide (m<x)) else l.filter (fun x=>decide (x<m))
def fewPut (l:List Int) (m:Int):List Int:=(fewPre l m true).take 6
theorem few_asc {kept:List Dat} {n:Nat} (h:FewTo kept n):∀j i,i<j->j<n->iv kept i<iv kept j:=by
 intro j
 induction j with
 | zero=>intro i hi;omega
 | succ j ih=>
   intro i hi hj;have h1:=(h (j+1) hj).2.2 (by omega);rw[show j+1-1=j from rfl] at h1;rcases Nat.lt_or_ge i j with h2 | h2
   · have:=ih i h2 (by omega);omega
   · rw[show i=j from by omega];exact h1
theorem ints_take (l:List Dat) (n:Nat):ints (l.take n)=(ints l).take n:=by simp [ints]
theorem ints_take_succ {l:List Dat} {i:Nat} (h:i<l.length):ints (l.take (i+1))=ints (l.take i)++[iv l i]:=by
 rw[take_getD h];simp only[ints,List.map_append,List.map_cons,List.map_nil,iv]
theorem dInts_append (a b:List Int):dInts (a++b)=dInts a++dInts b:=by simp [dInts]
theorem pre_next {l:List Int} {m x:Int} (b:Bool):fewPre (l++[x]) m b=if b=true then (if x<m then l.filter (fun x=>decide (x<m))++x::m::l.filter (fun x=>decide (m<x)) else if m<x then fewPre l m true++[x] else fewPre l m true) else (if x<m then fewPre l m false++[x] else fewPre l m false):=by
 cases b
 · simp only[fewPre,List.filter_append,List.filter_cons,List.filter_nil];by_cases h:x<m<;>simp [h]
 · simp only[fewPre,List.filter_append,List.filter_cons,List.filter_nil];by_cases h:x<m
   · have:¬m<x:=by omega
     simp [h,this]
   · by_cases h2:m<x<;>simp [h,h2]
theorem dInts_ints {l:List Dat} (h:WFl (.int .i64) l):dInts (ints l)=l:=(wfl_dInts h).symm
theorem fewPre_length (l:List Int) (m:Int) (b:Bool):(fewPre l m b).length<=2*l.length+1:=by
 have h1:=List.length_filter_le (fun x=>decide (x<m)) l;have h2:=List.length_filter_le (fun x=>decide (m<x)) l;unfold fewPre;split
 · simp;omega
 · omega
theorem mem_take {l:List Dat} {i:Nat} (hi:i<=l.length) {x:Int} (h:x∈ints (l.take i)):∃k,k<i/\iv l k=x:=by
 simp only[ints,List.mem_map] at h;obtain⟨d,hd,rfl⟩:=h;obtain⟨k,hk,rfl⟩:=List.mem_take_iff_getElem.1 hd;exact⟨k,by omega,by simp only[iv];rw[List.getD_eq_getElem?_getD,List.getElem?_eq_getElem (by omega)];rfl⟩
theorem few_true {kept:List Dat} {i:Nat} {m:Int} (hi:i<kept.length) (hl:∀k,k<i->iv kept k<m):fewPre (ints (kept.take i)) m true=fewPre (ints (kept.take i)) m false++[m]:=by
 have:(ints (kept.take i)).filter (fun x=>decide (m<x))=[]:=List.filter_eq_nil_iff.2 (fun x hx=>by
   obtain⟨k,hk,rfl⟩:=mem_take (by omega) hx
   have:=hl k hk
   simp;omega)
 simp only[fewPre,this];rfl
theorem few_end {kept:List Dat} {m:Int} (hl:∀k,k<kept.length->iv kept k<m):fewPre (ints kept) m true=fewPre (ints kept) m false++[m]:=by
 have:(ints kept).filter (fun x=>decide (m<x))=[]:=List.filter_eq_nil_iff.2 (fun x hx=>by
   rw[<- List.take_length (l:=kept)] at hx;obtain⟨k,hk,rfl⟩:=mem_take (Nat.le_refl _) hx
   have:=hl k hk
   simp;omega)
 simp only[fewPre,this];rfl
theorem dInts_one (a:List Int) (n:Int):dInts a++[.int n]=dInts (a++[n]):=by simp [dInts]
theorem few_step {kept:List Dat} {i:Nat} {m:Int} {b:Bool} (hk:FewTo kept kept.length) (hi:i<kept.length) (ht:b=true->∃k,k<i/\m<=iv kept k) (hf:b=false->∀k,k<i->iv kept k<m) :
   fewPre (ints (kept.take (i+1))) m (b||decide (m<=iv kept i))=(if b=false/\m<=iv kept i then fewPre (ints (kept.take i)) m b++[m] else fewPre (ints (kept.take i)) m b)++(if iv kept i=m then [] else [iv kept i]):=by
 rw[ints_take_succ hi,pre_next];cases b with
 | true=>
   obtain⟨k,h1,h2⟩:=ht rfl;have h3:=few_asc hk i k h1 hi;have h4:¬iv kept i<m:=by omega
   have h5:m<iv kept i:=by omega
   have h6:¬iv kept i=m:=by omega
   simp [h4,h5,h6]
 | false=>
   have h1:=hf rfl;by_cases h2:m<=iv kept i
   · have h3:¬iv kept i<m:=by omega
     simp only[Bool.false_or,decide_eq_true h2,if_true,if_neg h3,h2,and_self];rw[few_true hi h1];by_cases h4:iv kept i=m
     · simp [h4]
     · have:m<iv kept i:=by omega
       simp [h4,this]
   · have h3:iv kept i<m:=by omega
     have h4:¬iv kept i=m:=by omega
     simp [h2,h3,h4]
theorem fewMark_vc (thing:Int) (hp:0<=thing/\thing<64) :
 I64 thing->True/\((!(decide (0<=thing)&&decide (thing<=63)))=true->-1=mark thing)/\((!(decide (0<=thing)&&decide (thing<=63)))=false->(64:Int)≠0/\(i64.wrap (i64.wrap (thing*37)+11)).tmod 64=mark thing):=by
 intro _;simp only[iv,kv,fv,nm];refine⟨fun h=>by omega,fun _=>⟨by omega,?_⟩⟩;rw[wrap_ok (n:=thing*37) (by omega) (by omega),wrap_ok (by omega) (by omega),tmod_pos (by omega)];rfl
def fewMark_get:List SV->St->Option Got
 | [.int .i64 thing],⟨[],[],[]⟩=>some (0<=thing/\thing<64,.int .i64 (mark thing),St.mk [] [] [])
 | _,_=>none
theorem fewMark_ok:Ok0 prog 241 fewMark_get:=by
 intro _ _ _ _ _ h hp;unfold fewMark_get at h;split at h
 · rename_i thing;cases h;refine fz [l6In_con] func241 ?_;apply VC.thru (fewMark_vc thing hp);kernel_rfl
 · cases h
def fewMark_con:Con prog:=.f0 241 [] true fewMark_get (en func241 rfl) fewMark_ok
theorem fewOk_vc (kept:List Dat) :
 WFl (Ty.int i64) kept->(∃x:Nat,(x<=kept.length/\FewTo kept x)/\0=(x:Int)/\kept=kept)/\∀x:Nat,x<=kept.length/\FewTo kept x->I64 (kept.length:Int)->(decide ((x:Int)<(kept.length:Int))->((0<=(x:Int)/\(x:Int)<(kept.length:Int))/\(I64 (kept.getD x default).toInt->True/\((!(decide (0<=(kept.getD x default).toInt)&&decide ((kept.getD x default).toInt<=(63:Int))))=false->(decide ((x:Int) >
 (0:Int))->(0<=i64.wrap ((x:Int)-1)/\i64.wrap ((x:Int)-1)<(kept.length:Int))/\(I64 (kept.getD (i64.wrap ((x:Int)-1)).toNat default).toInt->0<=(x:Int)/\(x:Int)<(kept.length:Int)))/\True)/\True))/\((!(decide (0<=(kept.getD x default).toInt)&&decide ((kept.getD x default).toInt<=(63:Int)))||decide ((x:Int) > (0:Int))&&decide ((kept.getD (i64.wrap ((x:Int)-1)).toNat default).toInt>=(kept.getD x
 default).toInt))=true->dec (FewIn kept)=false)/\((!(decide (0<=(kept.getD x default).toInt)&&decide ((kept.getD x default).toInt<=(63:Int)))||decide ((x:Int) > (0:Int))&&decide ((kept.getD (i64.wrap ((x:Int)-1)).toNat default).toInt>=(kept.getD x default).toInt))=false->∃x_1:Nat,((x_1<=kept.length/\FewTo kept x_1)/\kept.length-x_1<kept.length-x)/\i64.wrap
 ((x:Int)+1)=(x_1:Int)/\kept=kept))/\(decide ((x:Int)<(kept.length:Int))=false->I64 (kept.length:Int)->decide ((kept.length:Int)<=6)=dec (FewIn kept)):=by
 intro hw;simp only[iv,kv,fv,nm];have hl:=hw.1;refine⟨⟨0,⟨by omega,fun i hi=>by omega⟩,rfl⟩,fun x hx hlk=>⟨fun hlt=>?_,fun hlt _=>?_⟩⟩
 · have hx1:x<kept.length:=by omega
   have hdn:∀h:(x:Int) > 0,(IntKind.i64.wrap ((x:Int)-1))=((x-1:Nat):Int):=fun h=>down_ok (by omega) (by omega)
   refine⟨⟨by omega,fun _ _ h=>⟨by rw[hdn h];omega,fun _=>by omega⟩⟩,fun h hk=>?_,fun h=>⟨x+1,⟨⟨by omega,fun i hi=>?_⟩,by omega⟩,up_ok hx1 (by omega)⟩⟩
   · have h1:=hk.2 x hx1;simp only[iv] at h1;rcases h with (h | h) | ⟨h,h2⟩
     · exact h h1.1
     · exact h h1.2.1
     · have:=h1.2.2 (by omega)
       rw[hdn h,Int.toNat_natCast] at h2;omega
   · rcases Nat.lt_or_ge i x with h1 | h1
     · exact hx.2 i h1
     · rw[show i=x from by omega];refine⟨h.1.1,h.1.2,fun h0=>?_⟩;have h2:(x:Int) > 0:=by omega
       rcases h.2 with h3 | h3
       · exact absurd h2 h3
       · rw[hdn h2,Int.toNat_natCast] at h3;simp only[iv];omega
 · refine dec_bool ⟨fun h=>?_,fun h=>?_⟩
   · have h:=of_decide_eq_true h;exact⟨by omega,fun i hi=>hx.2 i (by omega)⟩
   · exact decide_eq_true (by have:=h.1;omega)
def fewOk_get:List SV->St->Option Got
 | [.agg [.sl (.int .i64) kept]],⟨[],[],[]⟩=>some (True,.bool (dec (FewIn kept)),St.mk [] [] [])
 | _,_=>none
theorem fewOk_ok:Ok0 prog 145 fewOk_get:=by
 intro _ _ _ _ _ h hp;unfold fewOk_get at h;split at h
 · rename_i kept;cases h;refine fl [l6In_con] (fun k=>bif Nat.beq k 2 then some (.g (⟨Nat,fun s g=>hdb s [1,2] [(3,.int .i64 g)] s.bx s.rw,fun _ g=>g<=kept.length/\FewTo kept g,fun g=>kept.length-g⟩)) else none) func145 ?_;apply VC.thru (fewOk_vc kept);kernel_rfl
 · cases h
def fewOk_con:Con prog:=.f0 145 [] true fewOk_get (en func145 rfl) fewOk_ok
theorem l2Put_vc (kept:List Dat) (m:Int) (hp:FewIn kept) :
 WFl (Ty.int i64) kept->I64 m->(∃(x:Nat×Bool),(x.fst<=kept.length/\(x.snd=true->∃k:Nat,k<x.fst/\m<=iv kept k)/\(x.snd=false->∀k:Nat,k<x.fst->iv kept k<m))/\kept=kept/\m=m/\x.snd=false/\0=(x.fst:Int)/\([]:List Dat)=dInts (fewPre (ints (List.take x.fst kept)) m x.snd))/\∀(x:Nat×Bool),x.fst<=kept.length/\(x.snd=true->∃k:Nat,k<x.fst/\m<=iv kept k)/\(x.snd=false->∀k:Nat,k<x.fst->iv kept k<m)->I64
 (kept.length:Int)->(decide ((x.fst:Int)<(kept.length:Int))->(((!x.snd)=true->0<=(x.fst:Int)/\(x.fst:Int)<(kept.length:Int))/\True)/\((!x.snd&&decide ((kept.getD x.fst default).toInt>=m))=true->((dInts (fewPre (ints (List.take x.fst kept)) m x.snd)).length+1)*8<=140737488355328/\(0<=(x.fst:Int)/\(x.fst:Int)<(kept.length:Int))/\(I64 (kept.getD x.fst default).toInt->(decide ((kept.getD x.fst
 default).toInt≠m)->(0<=(x.fst:Int)/\(x.fst:Int)<(kept.length:Int))/\(I64 (kept.getD x.fst default).toInt->((dInts (fewPre (ints (List.take x.fst kept)) m x.snd)++[Dat.int m]).length+1)*8<=140737488355328/\∃(x_1:Nat×Bool),((x_1.fst<=kept.length/\(x_1.snd=true->∃k:Nat,k<x_1.fst/\m<=iv kept k)/\(x_1.snd=false->∀k:Nat,k<x_1.fst->iv kept
 k<m))/\kept.length-x_1.fst<kept.length-x.fst)/\kept=kept/\m=m/\x_1.snd=true/\i64.wrap ((x.fst:Int)+1)=(x_1.fst:Int)/\dInts (fewPre (ints (List.take x.fst kept)) m x.snd)++[Dat.int m]++[Dat.int (kept.getD x.fst default).toInt]=dInts (fewPre (ints (List.take x_1.fst kept)) m x_1.snd)))/\(decide ((kept.getD x.fst
 default).toInt≠m)=false->∃(x_1:Nat×Bool),((x_1.fst<=kept.length/\(x_1.snd=true->∃k:Nat,k<x_1.fst/\m<=iv kept k)/\(x_1.snd=false->∀k:Nat,k<x_1.fst->iv kept k<m))/\kept.length-x_1.fst<kept.length-x.fst)/\kept=kept/\m=m/\x_1.snd=true/\i64.wrap ((x.fst:Int)+1)=(x_1.fst:Int)/\dInts (fewPre (ints (List.take x.fst kept)) m x.snd)++[Dat.int m]=dInts (fewPre (ints (List.take x_1.fst kept)) m
 x_1.snd))))/\((!x.snd&&decide ((kept.getD x.fst default).toInt>=m))=false->(0<=(x.fst:Int)/\(x.fst:Int)<(kept.length:Int))/\(I64 (kept.getD x.fst default).toInt->(decide ((kept.getD x.fst default).toInt≠m)->(0<=(x.fst:Int)/\(x.fst:Int)<(kept.length:Int))/\(I64 (kept.getD x.fst default).toInt->((dInts (fewPre (ints (List.take x.fst kept)) m
 x.snd)).length+1)*8<=140737488355328/\∃(x_1:Nat×Bool),((x_1.fst<=kept.length/\(x_1.snd=true->∃k:Nat,k<x_1.fst/\m<=iv kept k)/\(x_1.snd=false->∀k:Nat,k<x_1.fst->iv kept k<m))/\kept.length-x_1.fst<kept.length-x.fst)/\kept=kept/\m=m/\x.snd=x_1.snd/\i64.wrap ((x.fst:Int)+1)=(x_1.fst:Int)/\dInts (fewPre (ints (List.take x.fst kept)) m x.snd)++[Dat.int (kept.getD x.fst default).toInt]=dInts (fewPre
 (ints (List.take x_1.fst kept)) m x_1.snd)))/\(decide ((kept.getD x.fst default).toInt≠m)=false->∃(x_1:Nat×Bool),((x_1.fst<=kept.length/\(x_1.snd=true->∃k:Nat,k<x_1.fst/\m<=iv kept k)/\(x_1.snd=false->∀k:Nat,k<x_1.fst->iv kept k<m))/\kept.length-x_1.fst<kept.length-x.fst)/\kept=kept/\m=m/\x.snd=x_1.snd/\i64.wrap ((x.fst:Int)+1)=(x_1.fst:Int)/\dInts (fewPre (ints (List.take x.fst kept)) m
 x.snd)=dInts (fewPre (ints (List.take x_1.fst kept)) m x_1.snd)))))/\(decide ((x.fst:Int)<(kept.length:Int))=false->((!x.snd)=true->((dInts (fewPre (ints (List.take x.fst kept)) m x.snd)).length+1)*8<=140737488355328/\(I64 (↑(dInts (fewPre (ints (List.take x.fst kept)) m x.snd)++[Dat.int m]).length:Int)->I64 (min (↑(dInts (fewPre (ints (List.take x.fst kept)) m x.snd)++[Dat.int m]).length:Int)
 (6:Int))->(0<=(0:Int)/\0<=min (↑(dInts (fewPre (ints (List.take x.fst kept)) m x.snd)++[Dat.int m]).length:Int) (6:Int)/\min (↑(dInts (fewPre (ints (List.take x.fst kept)) m x.snd)++[Dat.int m]).length:Int) 6<=(↑(dInts (fewPre (ints (List.take x.fst kept)) m x.snd)++[Dat.int m]).length:Int))/\List.drop 0 (List.take (min (↑(dInts (fewPre (ints (List.take x.fst kept)) m x.snd)++[Dat.int
 m]).length:Int) (6:Int)).toNat (dInts (fewPre (ints (List.take x.fst kept)) m x.snd)++[Dat.int m]))=dInts (fewPut (ints kept) m)))/\((!x.snd)=false->I64 (↑(dInts (fewPre (ints (List.take x.fst kept)) m x.snd)).length:Int)->I64 (min (↑(dInts (fewPre (ints (List.take x.fst kept)) m x.snd)).length:Int) (6:Int))->(0<=(0:Int)/\0<=min (↑(dInts (fewPre (ints (List.take x.fst kept)) m x.snd)).length:Int)
 (6:Int)/\min (↑(dInts (fewPre (ints (List.take x.fst kept)) m x.snd)).length:Int) 6<=(↑(dInts (fewPre (ints (List.take x.fst kept)) m x.snd)).length:Int))/\List.drop 0 (List.take (min (↑(dInts (fewPre (ints (List.take x.fst kept)) m x.snd)).length:Int) (6:Int)).toNat (dInts (fewPre (ints (List.take x.fst kept)) m x.snd)))=dInts (fewPut (ints kept) m))):=by
 intro hw hm;simp only[iv,kv,fv,nm];have hl:=hp.1;have hlen:∀i b,(dInts (fewPre (ints (kept.take i)) m b)).length<=13:=fun i b=>by
   have h1:=fewPre_length (ints (kept.take i)) m b;rw[ints_length,List.length_take] at h1;rw[dInts_length];omega
 have hb:∀i,I64 (min (i:Int) 6) ↔ I64 (min (i:Int) 6):=fun _=>Iff.rfl
 refine⟨⟨(0,false),⟨by simp,by simp,by simp⟩,rfl,rfl,rfl⟩,fun g hg hlk=>⟨fun hlt=>?_,fun hlt=>?_⟩⟩
 · have hi:g.1<kept.length:=by omega
   have hs:=few_step hp.2 hi hg.2.1 hg.2.2;have h13:=hlen g.1 g.2;have hup:=up_ok (n:=6) (i:=g.1) (by omega) (by omega);have hinv:∀b',b'=(g.2||decide (m<=iv kept g.1))->(b'=true->∃k,k<g.1+1/\m<=(kept.getD k default).toInt)/\(b'=false->∀k,k<g.1+1->(kept.getD k default).toInt<m):=by
     rintro b' rfl;refine⟨fun h=>?_,fun h k hk=>?_⟩
     · simp only[Bool.or_eq_true,decide_eq_true_eq] at h;rcases h with h | h
       · obtain⟨k,h1,h2⟩:=hg.2.1 h;exact⟨k,by omega,h2⟩
       · exact⟨g.1,by omega,h⟩
     · simp only[Bool.or_eq_false_iff,decide_eq_false_iff_not] at h;rcases Nat.lt_or_ge k g.1 with h1 | h1
       · exact hg.2.2 h.1 k h1
       · rw[show k=g.1 from by omega];have:=h.2;simp only[iv] at this;omega
   refine⟨fun _=>by omega,fun hc=>⟨by omega,by omega,fun _=>⟨fun hv=>⟨by omega,fun _=>⟨by rw[List.length_append];simp only[List.length_cons,List.length_nil];omega,(g.1+1,true),⟨⟨by simp only;omega,hinv true (by rw[hc.1];simp;exact hc.2)⟩,by simp only;omega⟩,rfl,hup,?_⟩⟩,fun hv=>⟨(g.1+1,true),⟨⟨by simp only;omega,hinv true (by rw[hc.1];simp;exact hc.2)⟩,by simp only;omega⟩,rfl,hup,?_⟩⟩⟩,
     fun hc=>⟨by omega,fun _=>⟨fun hv=>⟨by omega,fun _=>⟨by omega,(g.1+1,g.2),⟨⟨by simp only;omega,hinv g.2 ?_⟩,by simp only;omega⟩,rfl,hup,?_⟩⟩,fun hv=>⟨(g.1+1,g.2),⟨⟨by simp only;omega,hinv g.2 ?_⟩,by simp only;omega⟩,rfl,hup,?_⟩⟩⟩⟩
   · show _=dInts (fewPre (ints (kept.take (g.1+1))) m true);have e:(g.2||decide (m<=iv kept g.1))=true:=by rw[hc.1];simp;exact hc.2
     rw[<- e,hs,if_pos ⟨hc.1,hc.2⟩,if_neg hv,dInts_one,dInts_one]
   · show _=dInts (fewPre (ints (kept.take (g.1+1))) m true);have e:(g.2||decide (m<=iv kept g.1))=true:=by rw[hc.1];simp;exact hc.2
     rw[<- e,hs,if_pos ⟨hc.1,hc.2⟩,if_pos hv,dInts_one,List.append_nil]
   all_goals
     have e:(g.2||decide (m<=iv kept g.1))=g.2:=by
       rcases hc with hc | hc
       · rw[show g.2=true from by simpa using hc];rfl
       · rw[decide_eq_false hc,Bool.or_false]
     have hno:¬(g.2=false/\m<=iv kept g.1):=fun h=>by
       rcases hc with hc | hc
       · rw[h.1] at hc;simp at hc
       · exact hc h.2
     first
     | exact e.symm
     | (show _=dInts (fewPre (ints (kept.take (g.1+1))) m g.2)
        rw[<- e,hs,if_neg hno,if_neg hv,dInts_one,e])
     | (show _=dInts (fewPre (ints (kept.take (g.1+1))) m g.2)
        rw[<- e,hs,if_neg hno,if_pos hv,List.append_nil,e])
 · have hg1:g.1=kept.length:=by omega
   rw[hg1,List.take_length];have hd:∀l:List Int,l.length<=100->l=fewPre (ints kept) m true->List.drop 0 (List.take (min ((dInts l).length:Int) 6).toNat (dInts l))=dInts (fewPut (ints kept) m):=by
     rintro l hl rfl;rw[List.drop_zero,fewPut];simp only[dInts,List.length_map,<- List.map_take]
     congr 1
     rcases Nat.lt_or_ge (fewPre (ints kept) m true).length 6 with h | h
     · rw[List.take_of_length_le (by omega),List.take_of_length_le (by omega)]
     · rw[show (min ((fewPre (ints kept) m true).length:Int) 6).toNat=6 from by omega]
   have hl2:=fun b=>fewPre_length (ints kept) m b
   have hil:=ints_length kept;refine⟨fun hb=>?_,fun hb=>?_⟩
   · have hb:g.2=false:=hb;have hall:=hg.2.2 hb;rw[hg1] at hall;have h3:=hl2 false;rw[hb,dInts_one];refine⟨by rw[dInts_length];omega,fun _ _=>⟨by omega,hd _ (by rw[List.length_append];simp only[List.length_cons,List.length_nil];omega) (few_end hall).symm⟩⟩
   · have hb:g.2=true:=hb;have h3:=hl2 true;rw[hb];exact fun _ _=>⟨by omega,hd _ (by omega) rfl⟩
def l2Put_get:List SV->St->Option Got
 | [.sl (.int .i64) kept,.int .i64 m],⟨[],[],[]⟩=>some (FewIn kept,.sl (.int .i64) (dInts (fewPut (ints kept) m)),St.mk [] [] [])
 | _,_=>none
theorem l2Put_ok:Ok0 prog 151 l2Put_get:=by
 intro _ _ _ _ _ h hp;unfold l2Put_get at h;split at h
 · rename_i kept m;cases h;refine fl [] (fun k=>bif Nat.beq k 4 then some (.g (⟨Nat×Bool,fun s g=>hdb s [0,1,4] [(5,.own 0),(6,.bool g.2),(7,.int .i64 g.1)] s.bx [⟨3,.im (.int .i64),dInts (fewPre (ints (kept.take g.1)) m g.2),0,false⟩],fun _ g=>g.1<=kept.length/\(g.2=true->∃k,k<g.1/\m<=iv kept k)/\(g.2=false->∀k,k<g.1->iv kept k<m),fun g=>kept.length-g.1⟩)) else none) func151 ?_;apply VC.thru (l2Put_vc kept m hp);kernel_rfl
 · cases h
def l2Put_con:Con prog:=.f0 151 [] false l2Put_get (en func151 rfl) l2Put_ok
theorem fewAdd_vc (kept:List Dat) (thing:Int) (hp:FewIn kept/\0<=thing/\thing<64) :
 WFl (Ty.int i64) kept->I64 thing->(True/\((!dec (FewIn kept))=false->True)/\True)/\((!dec (FewIn kept)||!(decide (0<=thing)&&decide (thing<=63)))=true->False)/\((!dec (FewIn kept)||!(decide (0<=thing)&&decide (thing<=63)))=false->(0<=thing/\thing<64)/\FewIn kept/\dInts (fewPut (ints kept) (mark thing))=dInts (fewPut (ints kept) (mark thing))):=by
 intro hw ht;simp only[iv,kv,fv,nm];exact⟨fun h=>by rcases h with h | h;exact h hp.1;omega,fun _=>⟨hp.2,hp.1⟩⟩
def fewAdd_get:List SV->St->Option Got
 | [.agg [.sl (.int .i64) kept],.int .i64 thing],⟨[],[],[]⟩=>some (FewIn kept/\0<=thing/\thing<64,.tup [.agg [.sl (.int .i64) (dInts (fewPut (ints kept) (mark thing)))],.tt],St.mk [] [] [])
 | _,_=>none
theorem fewAdd_ok:Ok0 prog 232 fewAdd_get:=by
 intro _ _ _ _ _ h hp;unfold fewAdd_get at h;split at h
 · rename_i kept thing;cases h;refine fz [l6In_con,fewOk_con,fewMark_con,l2Put_con] func232 ?_;apply VC.thru (fewAdd_vc kept thing hp);kernel_rfl
 · cases h
def fewAdd_con:Con prog:=.f0 232 [] false fewAdd_get (en func232 rfl) fewAdd_ok
abbrev pI (l:List Dat) (i:Nat):Int×Int:=(fv l i 0,fv l i 1)
def prs (l:List Dat):List (Int×Int):=l.map fun d=>((d.f 0).toInt,(d.f 1).toInt)
def dPrs (l:List (Int×Int)):List Dat:=l.map fun p=>.node [.int p.1,.int p.2]
theorem prs_length (l:List Dat):(prs l).length=l.length:=by simp [prs]
theorem dPrs_length (l:List (Int×Int)):(dPrs l).length=l.length:=by simp [dPrs]
theorem prs_dPrs (l:List (Int×Int)):prs (dPrs l)=l:=by
 induction l with
 | nil=>rfl
 | cons p l ih=>simp only[dPrs,prs,List.map_cons,List.map_map] at ih ⊢;rw[ih];rfl
theorem dPrs_append (a b:List (Int×Int)):dPrs (a++b)=dPrs a++dPrs b:=by simp [dPrs]
theorem dPrs_one (a:List (Int×Int)) (m n:Int):dPrs a++[.node [.int m,.int n]]=dPrs (a++[(m,n)]):=by simp [dPrs]
theorem wf_pr {d:Dat} (h:WF (.st [.int .i64,.int .i64]) d):d=.node [.int (d.f 0).toInt,.int (d.f 1).toInt]/\I64 (d.f 0).toInt/\I64 (d.f 1).toInt:=by
 obtain⟨ds,rfl,a,l,rfl,⟨m,rfl,hm⟩,b,l2,rfl,⟨n,rfl,hn⟩,rfl⟩:=h;exact⟨rfl,hm,hn⟩
theorem dPrs_prs {l:List Dat} (h:WFl (.st [.int .i64,.int .i64]) l):dPrs (prs l)=l:=by
 have:∀l:List Dat,(∀x∈l,WF (.st [.int .i64,.int .i64]) x)->dPrs (prs l)=l:=by
   intro l
   induction l with
   | nil=>intro _;rfl
   | cons x l ih=>
     intro h;show Dat.node [.int (x.f 0).toInt,.int (x.f 1).toInt]::dPrs (prs l)=_;rw[ih (fun y hy=>h y (List.mem_cons_of_mem _ hy)),<- (wf_pr (h x (List.mem_cons_self ..))).1]
 exact this l h.2
theorem prs_take_succ {l:List Dat} {i:Nat} (h:i<l.length):prs (l.take (i+1))=prs (l.take i)++[pI l i]:=by
 rw[take_getD h];simp only[prs,List.map_append,List.map_cons,List.map_nil,pI,fv]
theorem mem_takeP {l:List Dat} {i:Nat} (hi:i<=l.length) {x:Int×Int} (h:x∈prs (l.take i)):∃k,k<i/\pI l k=x:=by
 simp only[prs,List.mem_map] at h;obtain⟨d,hd,rfl⟩:=h;obtain⟨k,hk,rfl⟩:=List.mem_take_iff_getElem.1 hd;exact⟨k,by omega,by simp only[pI,fv];rw[List.getD_eq_getElem?_getD,List.getElem?_eq_getElem (by omega)];rfl⟩
def sumN (l:List Dat):Int:=l.foldl (fun n d=>IntKind.i64.wrap (n+(d.f 1).toInt)) 0
theorem sumN_next (l:List Dat) (i:Nat) (h:i<l.length):sumN (l.take (i+1))=IntKind.i64.wrap (sumN (l.take i)+fv l i 1):=by
 rw[take_getD h,sumN,List.foldl_append];rfl
def PairsTo (l:List Dat) (n:Nat):Prop:=∀i,i<n->0<=fv l i 0/\fv l i 0<=63/\1<=fv l i 1/\fv l i 1<=2000/\(0<i->fv l (i-1) 0<fv l i 0)
def TopIn (l:List Dat) (lost all:Int):Prop:=PairsTo l l.length/\l.length<=4/\0<=all/\all<=2000/\0<=lost/\lost<=2000/\sumN l+5*lost<=all
theorem pairs_asc {l:List Dat} {n:Nat} (h:PairsTo l n):∀j i,i<j->j<n->fv l i 0<fv l j 0:=by
 intro j
 induction j with
 | zero=>intro i hi;omega
 | succ j ih=>
   intro i hi hj;have h1:=(h (j+1) hj).2.2.2.2 (by omega);rw[show j+1-1=j from rfl] at h1;rcases Nat.lt_or_ge i j with h2 | h2
   · have:=ih i h2 (by omega);omega
   · rw[show i=j from by omega];exact h1
theorem sumN_take {l:List Dat} {n:Nat} (h:PairsTo l n) (hn:n<=l.length) (hm:n<=100):∀g,g<=n->0<=sumN (l.take g)/\sumN (l.take g)<=2000*g:=by
 intro g
 induction g with
 | zero=>intro _;simp [sumN]
 | succ g ih=>
   intro hg;have h1:=ih (by omega);have h2:=h g (by omega);rw[sumN_next l g (by omega),wrap_ok (by omega) (by omega)];omega
theorem l3All_vc (l:List Dat) :
 WFl TPr l->(∃x:Nat,x<=l.length/\l=l/\0=sumN (List.take x l)/\0=(x:Int))/\∀x:Nat,x<=l.length->I64 (l.length:Int)->(decide ((x:Int)<(l.length:Int))->(0<=(x:Int)/\(x:Int)<(l.length:Int))/\(I64 ((l.getD x default).f 1).toInt->∃x_1:Nat,(x_1<=l.length/\l.length-x_1<l.length-x)/\l=l/\i64.wrap (sumN (List.take x l)+((l.getD x default).f 1).toInt)=sumN (List.take x_1 l)/\i64.wrap
 ((x:Int)+1)=(x_1:Int)))/\(decide ((x:Int)<(l.length:Int))=false->sumN (List.take x l)=sumN l):=by
 intro hw;have hl:=hw.1;simp only[iv,kv,fv,nm];refine⟨⟨0,by omega,rfl,rfl⟩,fun x hx _=>⟨fun hlt=>⟨by omega,fun _=>⟨x+1,⟨by omega,by omega⟩,?_,up_ok (n:=l.length) (by omega) (by omega)⟩⟩,fun hlt=>by rw[List.take_of_length_le (by omega)]⟩⟩;rw[sumN_next l x (by omega)]
def l3All_get:List SV->St->Option Got
 | [.sl ty0 l],⟨[],[],[]⟩=>guardTy ty0 TPr (some (True,.int .i64 (sumN l),St.mk [] [] []))
 | _,_=>none
theorem l3All_ok:Ok0 prog 181 l3All_get:=by
 intro _ _ _ _ _ h hp;unfold l3All_get at h;split at h
 · rename_i l;replace h:=gT h;obtain⟨rfl,h⟩:=h;cases h;refine fl [] (fun k=>bif Nat.beq k 3 then some (.g (⟨Nat,fun s g=>hd s [0] [(3,.int .i64 (sumN (l.take g))),(4,.int .i64 g)] [],fun _ g=>g<=l.length,fun g=>l.length-g⟩)) else none) func181 ?_;apply VC.thru (l3All_vc l);kernel_rfl
 · cases h
def l3All_con:Con prog:=.f0 181 [] true l3All_get (en func181 rfl) l3All_ok
theorem topOk_vc (l:List Dat) (lost all:Int) :
 WFl TPr l->I64 lost->I64 all->(∃x:Nat,(x<=l.length/\PairsTo l x)/\0=(x:Int)/\l=l/\lost=lost/\all=all)/\∀x:Nat,x<=l.length/\PairsTo l x->I64 (l.length:Int)->(decide ((x:Int)<(l.length:Int))->((0<=(x:Int)/\(x:Int)<(l.length:Int))/\(I64 ((l.getD x default).f 0).toInt->True/\((!(decide (0<=((l.getD x default).f 0).toInt)&&decide (((l.getD x default).f
 0).toInt<=(63:Int))))=false->(0<=(x:Int)/\(x:Int)<(l.length:Int))/\(I64 ((l.getD x default).f 1).toInt->True/\((!(decide (1<=((l.getD x default).f 1).toInt)&&decide (((l.getD x default).f 1).toInt<=(2000:Int))))=false->(decide ((x:Int) > (0:Int))->(0<=i64.wrap ((x:Int)-1)/\i64.wrap ((x:Int)-1)<(l.length:Int))/\(I64 ((l.getD (i64.wrap ((x:Int)-1)).toNat default).f
 0).toInt->0<=(x:Int)/\(x:Int)<(l.length:Int)))/\True)/\True))/\True))/\((!(decide (0<=((l.getD x default).f 0).toInt)&&decide (((l.getD x default).f 0).toInt<=(63:Int)))||(!(decide (1<=((l.getD x default).f 1).toInt)&&decide (((l.getD x default).f 1).toInt<=(2000:Int)))||decide ((x:Int) > (0:Int))&&decide (((l.getD (i64.wrap ((x:Int)-1)).toNat default).f 0).toInt>=((l.getD x default).f
 0).toInt)))=true->dec (TopIn l lost all)=false)/\((!(decide (0<=((l.getD x default).f 0).toInt)&&decide (((l.getD x default).f 0).toInt<=(63:Int)))||(!(decide (1<=((l.getD x default).f 1).toInt)&&decide (((l.getD x default).f 1).toInt<=(2000:Int)))||decide ((x:Int) > (0:Int))&&decide (((l.getD (i64.wrap ((x:Int)-1)).toNat default).f 0).toInt>=((l.getD x default).f
 0).toInt)))=false->∃x_1:Nat,((x_1<=l.length/\PairsTo l x_1)/\l.length-x_1<l.length-x)/\i64.wrap ((x:Int)+1)=(x_1:Int)/\l=l/\lost=lost/\all=all))/\(decide ((x:Int)<(l.length:Int))=false->(I64 (l.length:Int)->(decide ((l.length:Int)<=4)->I64 all->True/\((decide (0<=all)&&decide (all<=2000))=true->I64 lost->True/\((decide (0<=lost)&&decide (lost<=2000))=true->True)/\True)/\True)/\True)/\(decide
 ((l.length:Int)<=4)&&(decide (0<=all)&&decide (all<=2000)&&(decide (0<=lost)&&decide (lost<=2000)&&decide (i64.wrap (sumN l+i64.wrap ((5:Int)*lost))<=all))))=dec (TopIn l lost all)):=by
 intro hw hlo hal;simp only[iv,kv,fv,nm];have hl:=hw.1;refine⟨⟨0,⟨by omega,fun i hi=>by omega⟩,rfl⟩,fun x hx hlk=>⟨fun hlt=>?_,fun hlt=>?_⟩⟩
 · have hx1:x<l.length:=by omega
   have hdn:∀h:(x:Int) > 0,(IntKind.i64.wrap ((x:Int)-1))=((x-1:Nat):Int):=fun h=>down_ok (by omega) (by omega)
   refine⟨⟨by omega,fun _ _=>⟨by omega,fun _ _ h=>⟨by rw[hdn h];omega,fun _=>by omega⟩⟩⟩,fun h hk=>?_,fun h=>⟨x+1,⟨⟨by omega,fun i hi=>?_⟩,by omega⟩,up_ok hx1 (by omega)⟩⟩
   · have h1:=hk.1 x hx1;simp only[fv] at h1;rcases h with (h | h) | (h | h) | ⟨h,h2⟩
     · exact h h1.1
     · exact h h1.2.1
     · exact h h1.2.2.1
     · exact h h1.2.2.2.1
     · have:=h1.2.2.2.2 (by omega)
       rw[hdn h,Int.toNat_natCast] at h2;omega
   · rcases Nat.lt_or_ge i x with h1 | h1
     · exact hx.2 i h1
     · rw[show i=x from by omega];refine⟨h.1.1,h.1.2,h.2.1.1,h.2.1.2,fun h0=>?_⟩;have h2:(x:Int) > 0:=by omega
       rcases h.2.2 with h3 | h3
       · exact absurd h2 h3
       · rw[hdn h2,Int.toNat_natCast] at h3;simp only[fv];omega
 · have hx1:x=l.length:=by omega
   have hp:PairsTo l l.length:=by rw[<- hx1];exact hx.2
   have hsum:l.length<=4->0<=sumN l/\sumN l<=8000:=fun h=>by
     have:=sumN_take hp (Nat.le_refl _) (by omega) l.length (Nat.le_refl _)
     rw[List.take_length] at this;omega
   refine dec_bool ⟨fun h=>?_,fun h=>?_⟩
   · simp only[Bool.and_eq_true,decide_eq_true_eq] at h
     have:=hsum (by omega)
     rw[wrap_ok (n:=5*lost) (by omega) (by omega),wrap_ok (by omega) (by omega)] at h;exact⟨hp,by omega,by omega,by omega,by omega,by omega,by omega⟩
   · obtain⟨_,h1,h2,h3,h4,h5,h6⟩:=h
     have:=hsum h1
     simp only[Bool.and_eq_true,decide_eq_true_eq];rw[wrap_ok (n:=5*lost) (by omega) (by omega),wrap_ok (by omega) (by omega)];omega
def topOk_get:List SV->St->Option Got
 | [.agg [.sl ty0 l,.int .i64 lost,.int .i64 all]],⟨[],[],[]⟩=>guardTy ty0 TPr (some (True,.bool (dec (TopIn l lost all)),St.mk [] [] []))
 | _,_=>none
theorem topOk_ok:Ok0 prog 146 topOk_get:=by
 intro _ _ _ _ _ h hp;unfold topOk_get at h;split at h
 · rename_i l lost all;replace h:=gT h;obtain⟨rfl,h⟩:=h;cases h;refine fl [l6In_con,l3All_con] (fun k=>bif Nat.beq k 2 then some (.g (⟨Nat,fun s g=>hdb s [1,2] [(3,.int .i64 g)] s.bx s.rw,fun _ g=>g<=l.length/\PairsTo l g,fun g=>l.length-g⟩)) else none) func146 ?_;apply VC.thru (topOk_vc l lost all);kernel_rfl
 · cases h
def topOk_con:Con prog:=.f0 146 [] true topOk_get (en func146 rfl) topOk_ok
def numOf (l:List (Int×Int)) (t:Int):Int:=((l.filter (fun p=>decide (p.1=t))).map (·.2)).sum
def topPre (l:List (Int×Int)) (x:Int×Int) (b:Bool):List (Int×Int):=if b=true then l.filter (fun p=>decide (p.1<x.1))++(x.1,x.2+numOf l x.1)::l.filter (fun p=>decide (x.1<p.1)) else l.filter (fun p=>decide (p.1<x.1))
def topPut (l:List (Int×Int)) (x:Int×Int):List (Int×Int):=topPre l x true
def topLess (l:List (Int×Int)) (n:Int):List (Int×Int):=(l.filter (fun p=>decide (n<p.2))).map (fun p=>(p.1,p.2-n))
def more (l:List (Int×Int)) (n:Int):Nat:=(l.filter (fun p=>decide (n<=p.2))).length
def overOf (l m:List (Int×Int)):Int:=m.foldl (fun b p=>if 4<more l p.2 then max b p.2 else b) 0
def over (l:List (Int×Int)):Int:=overOf l l
theorem numOf_zero {l:List (Int×Int)} {t:Int} (h:∀p∈l,p.1≠t):numOf l t=0:=by
 have:l.filter (fun p=>decide (p.1=t))=[]:=List.filter_eq_nil_iff.2 (fun p hp=>by simpa using h p hp)
 rw[numOf,this];rfl
theorem topPre_length (l:List (Int×Int)) (x:Int×Int) (b:Bool):(topPre l x b).length<=2*l.length+1:=by
 have h1:=List.length_filter_le (fun p:Int×Int=>decide (p.1<x.1)) l;have h2:=List.length_filter_le (fun p:Int×Int=>decide (x.1<p.1)) l;unfold topPre;split
 · simp;omega
 · omega
theorem top_step {l:List Dat} {i:Nat} {x:Int×Int} {b:Bool} (hk:PairsTo l l.length) (hi:i<l.length) (ht:b=true->∃k,k<i/\x.1<=fv l k 0) (hf:b=false->∀k,k<i->fv l k 0<x.1) :
   topPre (prs (l.take (i+1))) x (b||decide (x.1<=fv l i 0))=topPre (prs (l.take i)) x b++(if b=false/\x.1<=fv l i 0 then (if fv l i 0=x.1 then [(x.1,x.2+fv l i 1)] else [x,pI l i]) else [pI l i]):=by
 rw[prs_take_succ hi];cases b with
 | true=>
   obtain⟨k,h1,h2⟩:=ht rfl;have h3:=pairs_asc hk i k h1 hi;have h4:¬fv l i 0<x.1:=by omega
   have h5:x.1<fv l i 0:=by omega
   have h6:¬fv l i 0=x.1:=by omega
   simp [topPre,numOf,List.filter_append,pI,h4,h5,h6]
 | false=>
   have h1:=hf rfl;have hz:∀p∈prs (l.take i),p.1<x.1:=fun p hp=>by
     obtain⟨k,hk,rfl⟩:=mem_takeP (by omega) hp;exact h1 k hk
   have e1:(prs (l.take i)).filter (fun p=>decide (x.1<p.1))=[]:=List.filter_eq_nil_iff.2 (fun p hp=>by have:=hz p hp;simp;omega);have e2:(prs (l.take i)).filter (fun p=>decide (p.1=x.1))=[]:=List.filter_eq_nil_iff.2 (fun p hp=>by have:=hz p hp;simp;omega);by_cases h2:x.1<=fv l i 0
   · have h3:¬fv l i 0<x.1:=by omega
     by_cases h4:fv l i 0=x.1
     · have h5:¬x.1<fv l i 0:=by omega
       simp [topPre,numOf,List.filter_append,pI,h2,h3,h4,h5,e1,e2]
     · have h5:x.1<fv l i 0:=by omega
       simp [topPre,numOf,List.filter_append,pI,h2,h3,h4,h5,e1,e2]
   · have h3:fv l i 0<x.1:=by omega
     simp [topPre,List.filter_append,pI,h2,h3]
theorem top_end {l:List Dat} {x:Int×Int} (hl:∀k,k<l.length->fv l k 0<x.1):topPre (prs l) x true=topPre (prs l) x false++[x]:=by
 have hz:∀p∈prs l,p.1<x.1:=fun p hp=>by
   rw[<- List.take_length (l:=l)] at hp;obtain⟨k,hk,rfl⟩:=mem_takeP (Nat.le_refl _) hp;exact hl k hk
 have e1:(prs l).filter (fun p=>decide (x.1<p.1))=[]:=List.filter_eq_nil_iff.2 (fun p hp=>by have:=hz p hp;simp;omega);have e2:numOf (prs l) x.1=0:=numOf_zero (fun p hp=>by have:=hz p hp;omega);simp [topPre,e1,e2]
theorem l3Put_vc (l:List Dat) (t n:Int) (hp:PairsTo l l.length/\l.length<=100/\0<=n/\n<=4000) :
 WFl TPr l->I64 t->I64 n->(∃(x:Nat×Bool),(x.fst<=l.length/\(x.snd=true->∃k:Nat,k<x.fst/\t<=fv l k 0)/\(x.snd=false->∀k:Nat,k<x.fst->fv l k 0<t))/\l=l/\x.snd=false/\0=(x.fst:Int)/\t=t/\n=n/\([]:List Dat)=dPrs (topPre (prs (List.take x.fst l)) (t,n) x.snd))/\∀(x:Nat×Bool),x.fst<=l.length/\(x.snd=true->∃k:Nat,k<x.fst/\t<=fv l k 0)/\(x.snd=false->∀k:Nat,k<x.fst->fv l k 0<t)->I64 (l.length:Int)->(decide
 ((x.fst:Int)<(l.length:Int))->(((!x.snd)=true->0<=(x.fst:Int)/\(x.fst:Int)<(l.length:Int))/\True)/\((!x.snd&&decide (((l.getD x.fst default).f 0).toInt>=t))=true->(0<=(x.fst:Int)/\(x.fst:Int)<(l.length:Int))/\(I64 ((l.getD x.fst default).f 0).toInt->I64 t->(decide (((l.getD x.fst default).f 0).toInt=t)->(0<=(x.fst:Int)/\(x.fst:Int)<(l.length:Int))/\((dPrs (topPre (prs (List.take x.fst l)) (t,n)
 x.snd)).length+1)*16<=140737488355328/\∃(x_1:Nat×Bool),((x_1.fst<=l.length/\(x_1.snd=true->∃k:Nat,k<x_1.fst/\t<=fv l k 0)/\(x_1.snd=false->∀k:Nat,k<x_1.fst->fv l k 0<t))/\l.length-x_1.fst<l.length-x.fst)/\l=l/\x_1.snd=true/\i64.wrap ((x.fst:Int)+1)=(x_1.fst:Int)/\t=t/\n=n/\dPrs (topPre (prs (List.take x.fst l)) (t,n) x.snd)++[Dat.node [.int t,.int (i64.wrap (n+((l.getD x.fst default).f
 1).toInt))]]=dPrs (topPre (prs (List.take x_1.fst l)) (t,n) x_1.snd))/\(decide (((l.getD x.fst default).f 0).toInt=t)=false->((dPrs (topPre (prs (List.take x.fst l)) (t,n) x.snd)).length+1)*16<=140737488355328/\(0<=(x.fst:Int)/\(x.fst:Int)<(l.length:Int))/\((dPrs (topPre (prs (List.take x.fst l)) (t,n) x.snd)++[Dat.node [.int t,.int
 n]]).length+1)*16<=140737488355328/\∃(x_1:Nat×Bool),((x_1.fst<=l.length/\(x_1.snd=true->∃k:Nat,k<x_1.fst/\t<=fv l k 0)/\(x_1.snd=false->∀k:Nat,k<x_1.fst->fv l k 0<t))/\l.length-x_1.fst<l.length-x.fst)/\l=l/\x_1.snd=true/\i64.wrap ((x.fst:Int)+1)=(x_1.fst:Int)/\t=t/\n=n/\dPrs (topPre (prs (List.take x.fst l)) (t,n) x.snd)++[Dat.node [.int t,.int n]]++[Dat.node [.int ((l.getD x.fst default).f
 0).toInt,.int ((l.getD x.fst default).f 1).toInt]]=dPrs (topPre (prs (List.take x_1.fst l)) (t,n) x_1.snd))))/\((!x.snd&&decide (((l.getD x.fst default).f 0).toInt>=t))=false->(0<=(x.fst:Int)/\(x.fst:Int)<(l.length:Int))/\((dPrs (topPre (prs (List.take x.fst l)) (t,n) x.snd)).length+1)*16<=140737488355328/\∃(x_1:Nat×Bool),((x_1.fst<=l.length/\(x_1.snd=true->∃k:Nat,k<x_1.fst/\t<=fv l k
 0)/\(x_1.snd=false->∀k:Nat,k<x_1.fst->fv l k 0<t))/\l.length-x_1.fst<l.length-x.fst)/\l=l/\x.snd=x_1.snd/\i64.wrap ((x.fst:Int)+1)=(x_1.fst:Int)/\t=t/\n=n/\dPrs (topPre (prs (List.take x.fst l)) (t,n) x.snd)++[Dat.node [.int ((l.getD x.fst default).f 0).toInt,.int ((l.getD x.fst default).f 1).toInt]]=dPrs (topPre (prs (List.take x_1.fst l)) (t,n) x_1.snd)))/\(decide
 ((x.fst:Int)<(l.length:Int))=false->((!x.snd)=true->((dPrs (topPre (prs (List.take x.fst l)) (t,n) x.snd)).length+1)*16<=140737488355328/\dPrs (topPre (prs (List.take x.fst l)) (t,n) x.snd)++[Dat.node [.int t,.int n]]=dPrs (topPut (prs l) (t,n)))/\((!x.snd)=false->dPrs (topPre (prs (List.take x.fst l)) (t,n) x.snd)=dPrs (topPut (prs l) (t,n)))):=by
 intro hw _ _;simp only[iv,kv,fv,nm];obtain⟨hk,hl,h0,h4⟩:=hp;have hlen:∀i b,(dPrs (topPre (prs (l.take i)) (t,n) b)).length<=201:=fun i b=>by
   have h1:=topPre_length (prs (l.take i)) (t,n) b;rw[prs_length,List.length_take] at h1;rw[dPrs_length];omega
 refine⟨⟨(0,false),⟨by simp,by simp,by simp⟩,rfl,rfl,rfl⟩,fun g hg hlk=>⟨fun hlt=>?_,fun hlt=>⟨fun hb=>?_,fun hb=>?_⟩⟩⟩
 · have hi:g.1<l.length:=by omega
   have hs:=top_step (x:=(t,n)) hk hi hg.2.1 hg.2.2;have h13:=hlen g.1 g.2;have hup:=up_ok (n:=l.length) (i:=g.1) (by omega) (by omega);have hnum:=hk g.1 hi;have hinv:∀b',b'=(g.2||decide (t<=fv l g.1 0))->(b'=true->∃k,k<g.1+1/\t<=((l.getD k default).f 0).toInt)/\(b'=false->∀k,k<g.1+1->((l.getD k default).f 0).toInt<t):=by
     rintro b' rfl;refine⟨fun h=>?_,fun h k hk=>?_⟩
     · simp only[Bool.or_eq_true,decide_eq_true_eq] at h;rcases h with h | h
       · obtain⟨k,h1,h2⟩:=hg.2.1 h;exact⟨k,by omega,h2⟩
       · exact⟨g.1,by omega,h⟩
     · simp only[Bool.or_eq_false_iff,decide_eq_false_iff_not] at h;rcases Nat.lt_or_ge k g.1 with h1 | h1
       · exact hg.2.2 h.1 k h1
       · rw[show k=g.1 from by omega];have:=h.2;simp only[fv] at this;omega
   have htrue:g.2=false/\((l.getD g.1 default).f 0).toInt>=t->(g.2||decide (t<=fv l g.1 0))=true:=fun hc=>by rw[hc.1];simp;exact hc.2
   refine⟨fun _=>by omega,fun hc=>⟨by omega,fun _ _=>⟨fun hv=>?_,fun hv=>?_⟩⟩,fun hc=>?_⟩
   · refine⟨by omega,by omega,(g.1+1,true),⟨⟨by simp only;omega,hinv true (htrue hc).symm⟩,by simp only;omega⟩,rfl,hup,?_⟩;show _=dPrs (topPre (prs (l.take (g.1+1))) (t,n) true);rw[<- htrue hc,hs,if_pos ⟨hc.1,hc.2⟩,if_pos (show fv l g.1 0=(t,n).1 from hv),dPrs_one];simp only[fv] at hnum ⊢;rw[wrap_ok (by omega) (by omega)]
   · refine⟨by omega,by omega,by rw[List.length_append];simp only[List.length_cons,List.length_nil];omega,(g.1+1,true),⟨⟨by simp only;omega,hinv true (htrue hc).symm⟩,by simp only;omega⟩,rfl,hup,?_⟩;show _=dPrs (topPre (prs (l.take (g.1+1))) (t,n) true);rw[<- htrue hc,hs,if_pos ⟨hc.1,hc.2⟩,if_neg (show ¬fv l g.1 0=(t,n).1 from hv),dPrs_one,dPrs_one,List.append_assoc];rfl
   · have e:(g.2||decide (t<=fv l g.1 0))=g.2:=by
       rcases hc with hc | hc
       · rw[hc];rfl
       · rw[decide_eq_false hc,Bool.or_false]
     have hno:¬(g.2=false/\t<=fv l g.1 0):=fun h=>by
       rcases hc with hc | hc
       · rw[h.1] at hc;cases hc
       · exact hc h.2
     refine⟨by omega,by omega,(g.1+1,g.2),⟨⟨by simp only;omega,hinv g.2 e.symm⟩,by simp only;omega⟩,rfl,hup,?_⟩;show _=dPrs (topPre (prs (l.take (g.1+1))) (t,n) g.2);rw[e] at hs;rw[hs,if_neg hno,dPrs_one]
 · have hg1:g.1=l.length:=by omega
   have h13:=hlen g.1 g.2;refine⟨by omega,?_⟩;rw[hb,hg1,List.take_length,dPrs_one,topPut,top_end];intro k hk;exact hg.2.2 hb k (by omega)
 · have hg1:g.1=l.length:=by omega
   rw[hb,hg1,List.take_length,topPut]
def l3Put_get:List SV->St->Option Got
 | [.sl ty0 l,.agg [.int .i64 t,.int .i64 n]],⟨[],[],[]⟩=>guardTy ty0 TPr (some (PairsTo l l.length/\l.length<=100/\0<=n/\n<=4000,.sl TPr (dPrs (topPut (prs l) (t,n))),St.mk [] [] []))
 | _,_=>none
theorem l3Put_ok:Ok0 prog 152 l3Put_get:=by
 intro _ _ _ _ _ h hp;unfold l3Put_get at h;split at h
 · rename_i l t n;replace h:=gT h;obtain⟨rfl,h⟩:=h;cases h;refine fl [] (fun k=>bif Nat.beq k 4 then some (.g (⟨Nat×Bool,fun s g=>hdb s [0,3,4] [(5,.own 0),(6,.bool g.2),(7,.int .i64 g.1)] s.bx [⟨163,.im TPr,dPrs (topPre (prs (l.take g.1)) (t,n) g.2),0,false⟩],fun _ g=>g.1<=l.length/\(g.2=true->∃k,k<g.1/\t<=fv l k 0)/\(g.2=false->∀k,k<g.1->fv l k 0<t),fun g=>l.length-g.1⟩)) else none) func152 ?_;apply VC.thru (l3Put_vc l t n hp);kernel_rfl
 · cases h
def l3Put_con:Con prog:=.f0 152 [] false l3Put_get (en func152 rfl) l3Put_ok
theorem less_next (l:List (Int×Int)) (p:Int×Int) (n:Int):topLess (l++[p]) n=topLess l n++(if n<p.2 then [(p.1,p.2-n)] else []):=by
 unfold topLess;by_cases h:n<p.2<;>simp [List.filter_append,h]
theorem topLess_length (l:List (Int×Int)) (n:Int):(topLess l n).length<=l.length:=by
 unfold topLess;rw[List.length_map];exact List.length_filter_le _ _
def NumsIn (l:List Dat):Prop:=l.length<=1000/\∀i,i<l.length->0<=fv l i 1/\fv l i 1<=100000
theorem more_next (l:List (Int×Int)) (p:Int×Int) (n:Int):more (l++[p]) n=more l n+if n<=p.2 then 1 else 0:=by
 unfold more;by_cases h:n<=p.2<;>simp [List.filter_append,h]
theorem over_next (l m:List (Int×Int)) (p:Int×Int):overOf l (m++[p])=if 4<more l p.2 then max (overOf l m) p.2 else overOf l m:=by
 unfold overOf;rw[List.foldl_append];rfl
theorem overOf_range (l:List (Int×Int)):∀m:List (Int×Int),(∀p∈m,0<=p.2/\p.2<=100000)->0<=overOf l m/\overOf l m<=100000:=by
 intro m
 have:∀(m:List (Int×Int)) (b:Int),0<=b->b<=100000->(∀p∈m,0<=p.2/\p.2<=100000)->0<=m.foldl (fun b p=>if 4<more l p.2 then max b p.2 else b) b/\m.foldl (fun b p=>if 4<more l p.2 then max b p.2 else b) b<=100000:=by
   intro m
   induction m with
   | nil=>intro b h1 h2 _;exact⟨h1,h2⟩
   | cons p m ih=>
     intro b h1 h2 h;have hp:=h p (List.mem_cons_self ..);simp only[List.foldl_cons];split
     · exact ih _ (by omega) (by omega) (fun q hq=>h q (List.mem_cons_of_mem _ hq))
     · exact ih _ h1 h2 (fun q hq=>h q (List.mem_cons_of_mem _ hq))
 exact this m 0 (by omega) (by omega)
theorem NumsIn.mem {l:List Dat} (h:NumsIn l):∀p∈prs l,0<=p.2/\p.2<=100000:=fun p hp=>by
 rw[<- List.take_length (l:=l)] at hp;obtain⟨k,hk,rfl⟩:=mem_takeP (Nat.le_refl _) hp;exact h.2 k hk
theorem NumsIn.over {l:List Dat} (h:NumsIn l):0<=over (prs l)/\over (prs l)<=100000:=overOf_range _ _ h.mem
theorem l3Less_vc (l:List Dat) (n:Int) (hp:NumsIn l/\0<=n/\n<=100000) :
 WFl TPr l->I64 n->(∃x:Nat,x<=l.length/\l=l/\n=n/\0=(x:Int)/\([]:List Dat)=dPrs (topLess (prs (List.take x l)) n))/\∀x:Nat,x<=l.length->I64 (l.length:Int)->(decide ((x:Int)<(l.length:Int))->(0<=(x:Int)/\(x:Int)<(l.length:Int))/\(I64 ((l.getD x default).f 1).toInt->(decide (((l.getD x default).f 1).toInt > n)->(0<=(x:Int)/\(x:Int)<(l.length:Int))/\(0<=(x:Int)/\(x:Int)<(l.length:Int))/\((dPrs
 (topLess (prs (List.take x l)) n)).length+1)*16<=140737488355328/\∃x_1:Nat,(x_1<=l.length/\l.length-x_1<l.length-x)/\l=l/\n=n/\i64.wrap ((x:Int)+1)=(x_1:Int)/\dPrs (topLess (prs (List.take x l)) n)++[Dat.node [.int ((l.getD x default).f 0).toInt,.int (i64.wrap (((l.getD x default).f 1).toInt-n))]]=dPrs (topLess (prs (List.take x_1 l)) n))/\(decide (((l.getD x default).f 1).toInt >
 n)=false->∃x_1:Nat,(x_1<=l.length/\l.length-x_1<l.length-x)/\l=l/\n=n/\i64.wrap ((x:Int)+1)=(x_1:Int)/\dPrs (topLess (prs (List.take x l)) n)=dPrs (topLess (prs (List.take x_1 l)) n))))/\(decide ((x:Int)<(l.length:Int))=false->dPrs (topLess (prs (List.take x l)) n)=dPrs (topLess (prs l) n)):=by
 intro hw _;simp only[iv,kv,fv,nm];obtain⟨⟨hl,hn⟩,h0,h1⟩:=hp;refine⟨⟨0,by omega,rfl,rfl⟩,fun x hx _=>⟨fun hlt=>⟨by omega,fun _=>⟨fun h=>⟨by omega,by omega,?_,x+1,by omega,up_ok (n:=l.length) (by omega) (by omega),?_⟩,fun h=>⟨x+1,by omega,up_ok (n:=l.length) (by omega) (by omega),?_⟩⟩⟩,fun hlt=>by rw[List.take_of_length_le (by omega)]⟩⟩
 · have:=topLess_length (prs (l.take x)) n
   rw[prs_length,List.length_take] at this;rw[dPrs_length];omega
 · have h2:=hn x (by omega);simp only[fv] at h2;rw[prs_take_succ (by omega),less_next,if_pos (by simp only[pI,fv];omega),wrap_ok (by omega) (by omega),dPrs_one]
 · rw[prs_take_succ (by omega),less_next,if_neg (by simp only[pI,fv];omega),List.append_nil]
def l3Less_get:List SV->St->Option Got
 | [.sl ty0 l,.int .i64 n],⟨[],[],[]⟩=>guardTy ty0 TPr (some (NumsIn l/\0<=n/\n<=100000,.sl TPr (dPrs (topLess (prs l) n)),St.mk [] [] []))
 | _,_=>none
theorem l3Less_ok:Ok0 prog 183 l3Less_get:=by
 intro _ _ _ _ _ h hp;unfold l3Less_get at h;split at h
 · rename_i l n;replace h:=gT h;obtain⟨rfl,h⟩:=h;cases h;refine fl [] (fun k=>bif Nat.beq k 3 then some (.g (⟨Nat,fun s g=>hdb s [0,1,4] [(5,.own 0),(6,.int .i64 g)] s.bx [⟨163,.im TPr,dPrs (topLess (prs (l.take g)) n),0,false⟩],fun _ g=>g<=l.length,fun g=>l.length-g⟩)) else none) func183 ?_;apply VC.thru (l3Less_vc l n hp);kernel_rfl
 · cases h
def l3Less_con:Con prog:=.f0 183 [] false l3Less_get (en func183 rfl) l3Less_ok
theorem l3Over_vc (l:List Dat) (hp:l.length<=1000) :
 WFl TPr l->(∃x:Nat,x<=l.length/\l=l/\(0:Int)=0/\0=overOf (prs l) (prs (List.take x l))/\0=(x:Int))/\∀x:Nat,x<=l.length->I64 (l.length:Int)->(decide ((x:Int)<(l.length:Int))->(∃x_1:Nat,x_1<=l.length/\l=l/\(0:Int)=0/\overOf (prs l) (prs (List.take x l))=overOf (prs l) (prs (List.take x l))/\(x:Int)=(x:Int)/\0=(↑(more (prs (List.take x_1 l)) (fv l x 1)):Int)/\0=(x_1:Int))/\∀x_1:Nat,x_1<=l.length->I64
 (l.length:Int)->(decide ((x_1:Int)<(l.length:Int))->(0<=(x_1:Int)/\(x_1:Int)<(l.length:Int))/\(I64 ((l.getD x_1 default).f 1).toInt->(0<=(x:Int)/\(x:Int)<(l.length:Int))/\(I64 ((l.getD x default).f 1).toInt->(decide (((l.getD x_1 default).f 1).toInt>=((l.getD x default).f 1).toInt)->∃x_2:Nat,(x_2<=l.length/\l.length-x_2<l.length-x_1)/\l=l/\(0:Int)=0/\overOf (prs l) (prs (List.take x l))=overOf
 (prs l) (prs (List.take x l))/\(x:Int)=(x:Int)/\i64.wrap ((↑(more (prs (List.take x_1 l)) (fv l x 1)):Int)+1)=(↑(more (prs (List.take x_2 l)) (fv l x 1)):Int)/\i64.wrap ((x_1:Int)+1)=(x_2:Int))/\(decide (((l.getD x_1 default).f 1).toInt>=((l.getD x default).f 1).toInt)=false->∃x_2:Nat,(x_2<=l.length/\l.length-x_2<l.length-x_1)/\l=l/\(0:Int)=0/\overOf (prs l) (prs (List.take x l))=overOf (prs l)
 (prs (List.take x l))/\(x:Int)=(x:Int)/\(↑(more (prs (List.take x_1 l)) (fv l x 1)):Int)=(↑(more (prs (List.take x_2 l)) (fv l x 1)):Int)/\i64.wrap ((x_1:Int)+1)=(x_2:Int)))))/\(decide ((x_1:Int)<(l.length:Int))=false->(decide ((↑(more (prs (List.take x_1 l)) (fv l x 1)):Int) > (4:Int))->(0<=(x:Int)/\(x:Int)<(l.length:Int))/\(I64 ((l.getD x default).f 1).toInt->I64 (max (overOf (prs l) (prs
 (List.take x l))) ((l.getD x default).f 1).toInt)->∃x_2:Nat,(x_2<=l.length/\l.length-x_2<l.length-x)/\l=l/\(0:Int)=0/\max (overOf (prs l) (prs (List.take x l))) ((l.getD x default).f 1).toInt=overOf (prs l) (prs (List.take x_2 l))/\i64.wrap ((x:Int)+1)=(x_2:Int)))/\(decide ((↑(more (prs (List.take x_1 l)) (fv l x 1)):Int) >
 (4:Int))=false->∃x_2:Nat,(x_2<=l.length/\l.length-x_2<l.length-x)/\l=l/\(0:Int)=0/\overOf (prs l) (prs (List.take x l))=overOf (prs l) (prs (List.take x_2 l))/\i64.wrap ((x:Int)+1)=(x_2:Int))))/\(decide ((x:Int)<(l.length:Int))=false->overOf (prs l) (prs (List.take x l))=over (prs l)):=by
 intro hw;simp only[iv,kv,fv,nm];refine⟨⟨0,by omega,rfl,rfl⟩,fun x hx _=>⟨fun hlt=>⟨⟨0,by omega,rfl,rfl⟩,fun k hk _=>⟨fun hkl=>⟨by omega,fun _=>⟨by omega,fun _=>⟨fun h=>⟨k+1,by omega,?_,up_ok (n:=l.length) (by omega) (by omega)⟩,fun h=>⟨k+1,by omega,?_,up_ok (n:=l.length) (by omega) (by omega)⟩⟩⟩⟩,fun hkl=>?_⟩⟩,fun hlt=>by rw[List.take_of_length_le (by omega)];rfl⟩⟩
 · rw[prs_take_succ (by omega),more_next,if_pos h]
   have:more (prs (l.take k)) ((l.getD x default).f 1).toInt<=k:=by
     unfold more;refine Nat.le_trans (List.length_filter_le _ _) ?_;rw[prs_length,List.length_take];omega
   rw[wrap_ok (by omega) (by omega)];rfl
 · rw[prs_take_succ (by omega),more_next,if_neg h];rfl
 · rw[List.take_of_length_le (by omega:l.length<=k)];refine⟨fun h=>⟨by omega,fun _ _=>⟨x+1,by omega,?_,up_ok (n:=l.length) (by omega) (by omega)⟩⟩,fun h=>⟨x+1,by omega,?_,up_ok (n:=l.length) (by omega) (by omega)⟩⟩
   · rw[prs_take_succ (by omega),over_next,if_pos (by simp only[pI,fv];omega)]
   · rw[prs_take_succ (by omega),over_next,if_neg (by simp only[pI,fv];omega)]
def l3Over_get:List SV->St->Option Got
 | [.sl ty0 l],⟨[],[],[]⟩=>guardTy ty0 TPr (some (l.length<=1000,.int .i64 (over (prs l)),St.mk [] [] []))
 | _,_=>none
theorem l3Over_ok:Ok0 prog 182 l3Over_get:=by
 intro _ _ _ _ _ h hp;unfold l3Over_get at h;split at h
 · rename_i l;replace h:=gT h;obtain⟨rfl,h⟩:=h;cases h;refine fl [] (fun k=>bif Nat.beq k 3 then some (.g (⟨Nat,fun s g=>hd s [0,2] [(3,.int .i64 (overOf (prs l) (prs (l.take g)))),(4,.int .i64 g)] s.rw,fun _ g=>g<=l.length,fun g=>l.length-g⟩)) else bif Nat.beq k 7 then some (.g (⟨Nat,fun s g=>hd s [0,2,3,4] [(5,.int .i64 (more (prs (l.take g)) (fv l (svN s 4) 1))),(6,.int .i64 g)] s.rw,fun _ g=>g<=l.length,fun g=>l.length-g⟩)) else none) func182 ?_;apply VC.thru (l3Over_vc l hp);kernel_rfl
 · cases h
def l3Over_con:Con prog:=.f0 182 [] true l3Over_get (en func182 rfl) l3Over_ok
theorem l3Cut_vc (l:List Dat) (lost all:Int) (hp:NumsIn l/\0<=lost/\lost<=100000) :
 WFl TPr l->I64 lost->I64 all->l.length<=1000/\(NumsIn l/\0<=over (prs l)/\over (prs l)<=(100000:Int))/\dPrs (topLess (prs l) (over (prs l)))=dPrs (topLess (prs l) (over (prs l)))/\i64.wrap (lost+over (prs l))=lost+over (prs l)/\all=all:=by
 intro hw _ _;simp only[iv,kv,fv,nm];have h:=hp.1.over;exact⟨hp.1.1,⟨hp.1,h⟩,wrap_ok (by omega) (by omega)⟩
def l3Cut_get:List SV->St->Option Got
 | [.agg [.sl ty0 l,.int .i64 lost,.int .i64 all]],⟨[],[],[]⟩=>guardTy ty0 TPr (some (NumsIn l/\0<=lost/\lost<=100000,.agg [.sl TPr (dPrs (topLess (prs l) (over (prs l)))),.int .i64 (lost+over (prs l)),.int .i64 all],St.mk [] [] []))
 | _,_=>none
theorem l3Cut_ok:Ok0 prog 153 l3Cut_get:=by
 intro _ _ _ _ _ h hp;unfold l3Cut_get at h;split at h
 · rename_i l lost all;replace h:=gT h;obtain⟨rfl,h⟩:=h;cases h;refine fz [l3Over_con,l3Less_con] func153 ?_;apply VC.thru (l3Cut_vc l lost all hp);kernel_rfl
 · cases h
def l3Cut_con:Con prog:=.f0 153 [] false l3Cut_get (en func153 rfl) l3Cut_ok
theorem pairs_mem {l:List Dat} (h:PairsTo l l.length) {p:Int×Int} (hp:p∈prs l):0<=p.1/\p.1<=63/\1<=p.2/\p.2<=2000:=by
 rw[<- List.take_length (l:=l)] at hp;obtain⟨k,hk,rfl⟩:=mem_takeP (Nat.le_refl _) hp
 have:=h k hk
 exact⟨this.1,this.2.1,this.2.2.1,this.2.2.2.1⟩
theorem numOf_range {l:List (Int×Int)} (h:∀p∈l,0<=p.2/\p.2<=2000) (t:Int):0<=numOf l t/\numOf l t<=2000*l.length:=by
 induction l with
 | nil=>simp [numOf]
 | cons p l ih=>
   have h1:=ih (fun q hq=>h q (List.mem_cons_of_mem _ hq));have h2:=h p (List.mem_cons_self ..);unfold numOf at h1 ⊢;by_cases e:p.1=t<;>simp [e]<;>omega
theorem fv_dPrs (l:List (Int×Int)) (i:Nat) (hi:i<l.length):fv (dPrs l) i 0=(l[i]).1/\fv (dPrs l) i 1=(l[i]).2:=by
 have:(dPrs l).getD i default=.node [.int (l[i]).1,.int (l[i]).2]:=by
   simp [dPrs,List.getD_eq_getElem?_getD,List.getElem?_eq_getElem hi]
 simp only[fv,this];exact⟨rfl,rfl⟩
theorem put_nums {l:List Dat} (h:PairsTo l l.length) (hl:l.length<=40) {t n:Int} (h0:0<=n) (h1:n<=2000):NumsIn (dPrs (topPut (prs l) (t,n))):=by
 have hlen:=topPre_length (prs l) (t,n) true;rw[prs_length] at hlen;refine⟨by rw[dPrs_length,topPut];omega,fun i hi=>?_⟩;rw[dPrs_length] at hi;rw[(fv_dPrs _ i hi).2];have hm:(topPut (prs l) (t,n))[i]∈topPut (prs l) (t,n):=List.getElem_mem hi;generalize (topPut (prs l) (t,n))[i]=p at hm;have hr:=numOf_range (l:=prs l) (fun p hp=>by have:=pairs_mem h hp;omega) t;rw[prs_length] at hr;simp only[topPut,topPre,if_true,List.mem_append,List.mem_cons,List.mem_filter] at hm;rcases hm with hm | hm | hm
 · have:=pairs_mem h hm.1;omega
 · rw[hm];simp only;omega
 · have:=pairs_mem h hm.1;omega
theorem topAdd_vc (l:List Dat) (lost all thing:Int) (hp:TopIn l lost all/\0<=thing/\thing<64/\all<2000) :
 WFl TPr l->I64 lost->I64 all->I64 thing->(True/\((!dec (TopIn l lost all))=false->True)/\True)/\((!dec (TopIn l lost all)||(!(decide (0<=thing)&&decide (thing<=63))||decide (all>=(2000:Int))))=true->False)/\((!dec (TopIn l lost all)||(!(decide (0<=thing)&&decide (thing<=63))||decide (all>=(2000:Int))))=false->(PairsTo l l.length/\l.length<=100/\0<=(1:Int)/\1<=(4000:Int))/\(NumsIn (dPrs (topPut
 (prs l) (thing,(1:Int))))/\0<=lost/\lost<=100000)/\dPrs (topLess (prs (dPrs (topPut (prs l) (thing,(1:Int))))) (over (prs (dPrs (topPut (prs l) (thing,(1:Int)))))))=dPrs (topLess (topPut (prs l) (thing,(1:Int))) (over (topPut (prs l) (thing,(1:Int)))))/\lost+over (prs (dPrs (topPut (prs l) (thing,(1:Int)))))=lost+over (topPut (prs l) (thing,(1:Int)))/\i64.wrap (all+1)=all+1):=by
 intro hw _ _ _;simp only[iv,kv,fv,nm];obtain⟨h,h0,h1,h2⟩:=hp;refine⟨fun hc=>by rcases hc with hc | hc | hc;exact hc h;omega;omega,fun _=>⟨⟨h.1,by have:=h.2.1;omega,by omega,by omega⟩,⟨put_nums h.1 (by have:=h.2.1;omega) (by omega) (by omega),by have:=h.2.2;omega⟩,?_,?_,wrap_ok (by have:=h.2.2;omega) (by omega)⟩⟩
 · rw[prs_dPrs]
 · rw[prs_dPrs]
def topAdd_get:List SV->St->Option Got
 | [.agg [.sl ty0 l,.int .i64 lost,.int .i64 all],.int .i64 thing],⟨[],[],[]⟩=>guardTy ty0 TPr (some (TopIn l lost all/\0<=thing/\thing<64/\all<2000,.tup [.agg [.sl TPr (dPrs (topLess (topPut (prs l) (thing,1)) (over (topPut (prs l) (thing,1))))),.int .i64 (lost+over (topPut (prs l) (thing,1))),.int .i64 (all+1)],.tt],St.mk [] [] []))
 | _,_=>none
theorem topAdd_ok:Ok0 prog 233 topAdd_get:=by
 intro _ _ _ _ _ h hp;unfold topAdd_get at h;split at h
 · rename_i l lost all thing;replace h:=gT h;obtain⟨rfl,h⟩:=h;cases h;refine fz [topOk_con,l6In_con,l3Put_con,l3Cut_con] func233 ?_;apply VC.thru (topAdd_vc l lost all thing hp);kernel_rfl
 · cases h
def topAdd_con:Con prog:=.f0 233 [] false topAdd_get (en func233 rfl) topAdd_ok
abbrev gt (a:List Int) (i:Nat):Int:=a.getD i 0
def addAt (a:List Int) (i:Nat) (n:Int):List Int:=a.set i (gt a i+n)
def numsOf (l:List (Int×Int)):List Int:=l.foldl (fun a p=>addAt a p.1.toNat p.2) (List.replicate 128 0)
def sqStep (all:Int) (a:List Int) (k:Nat):List Int:=
 if 0<gt a (2*k)+gt a (2*k+1)/\gt a (2*k)+gt a (2*k+1)+gt a k<=all / 8 then ((a.set k (gt a k+(gt a (2*k)+gt a (2*k+1)))).set (2*k) 0).set (2*k+1) 0 else a
def sqUpto (a:List Int) (all:Int) (g:Nat):List Int:=(List.range g).foldl (fun a j=>sqStep all a (63-j)) a
def squeeze (a:List Int) (all:Int):List Int:=sqUpto a all 63
def knotsTo (a:List Int) (n:Nat):List (Int×Int):=((List.range n).filter (fun i:Nat=>decide (0<i)&&decide (0<gt a i))).map (fun i:Nat=>((i:Int),gt a i))
def knots (a:List Int):List (Int×Int):=knotsTo a a.length
def rankAdd (l:List (Int×Int)) (all thing:Int):List (Int×Int):=knots (squeeze (addAt (numsOf l) (64+thing).toNat 1) (all+1))
def KnotsTo (l:List Dat) (n:Nat):Prop:=∀i,i<n->0<=fv l i 0/\fv l i 0<128/\0<=fv l i 1/\fv l i 1<=4000
def NS (a:List Int) (b:Int):Prop:=a.length=128/\(∀x∈a,0<=x)/\a.sum<=b
theorem sum_set {a:List Int} {i:Nat} (h:i<a.length) (v:Int):(a.set i v).sum=a.sum-gt a i+v:=by
 induction a generalizing i with
 | nil=>simp at h
 | cons x a ih=>
   cases i with
   | zero=>simp;omega
   | succ i=>
     have:=ih (i:=i) (by simpa using h)
     simp only[gt] at this;simp [this];omega
theorem gt_lt {a:List Int} {i:Nat} (h:i<a.length):gt a i=a[i]:=by simp [gt,List.getD_eq_getElem?_getD,List.getElem?_eq_getElem h]
theorem gt_mem {a:List Int} {i:Nat} (h:i<a.length):gt a i∈a:=by rw[gt_lt h];exact List.getElem_mem h
theorem gt_set {a:List Int} {i j:Nat} {v:Int}:gt (a.set i v) j=if i=j/\i<a.length then v else gt a j:=by
 simp only[gt,List.getD_eq_getElem?_getD,List.getElem?_set];by_cases h1:i=j
 · subst h1;by_cases h2:i<a.length
   · simp [h2]
   · simp [h2]
 · simp [h1]
theorem le_sum {a:List Int} (h:∀x∈a,0<=x) {x:Int} (hx:x∈a):x<=a.sum:=by
 induction a with
 | nil=>cases hx
 | cons y a ih=>
   have h0:0<=a.sum:=by
     clear ih hx
     have:∀l:List Int,(∀x∈l,0<=x)->0<=l.sum:=by
       intro l
       induction l with
       | nil=>intro _;simp
       | cons z l ih=>
         intro h
         have:=ih (fun x hx=>h x (List.mem_cons_of_mem _ hx))
         have:=h z (List.mem_cons_self ..)
         simp;omega
     exact this a (fun x hx=>h x (List.mem_cons_of_mem _ hx))
   have hy:=h y (List.mem_cons_self ..);rcases List.mem_cons.1 hx with rfl | hx
   · simp;omega
   · have:=ih (fun x hx=>h x (List.mem_cons_of_mem _ hx)) hx
     simp;omega
theorem NS.get {a:List Int} {b:Int} (h:NS a b) (i:Nat) (hi:i<128):0<=gt a i/\gt a i<=b:=by
 have hm:=gt_mem (a:=a) (i:=i) (by rw[h.1];exact hi)
 have:=h.2.1 _ hm
 have:=le_sum h.2.1 hm
 have:=h.2.2
 omega
theorem NS.set {a:List Int} {b v:Int} {i:Nat} (h:NS a b) (hi:i<128) (hv:0<=v):NS (a.set i v) (b-gt a i+v):=by
 refine⟨by rw[List.length_set];exact h.1,fun x hx=>?_,?_⟩
 · rcases List.mem_or_eq_of_mem_set hx with h1 | h1
   · exact h.2.1 x h1
   · rw[h1];exact hv
 · rw[sum_set (by rw[h.1];exact hi)]
   have:=h.2.2
   omega
theorem NS.mono {a:List Int} {b c:Int} (h:NS a b) (hb:b<=c):NS a c:=⟨h.1,h.2.1,by have:=h.2.2;omega⟩
theorem NS.add {a:List Int} {b n:Int} {i:Nat} (h:NS a b) (hi:i<128) (hn:0<=n):NS (addAt a i n) (b+n):=by
 have h1:=h.get i hi;exact (h.set hi (v:=gt a i+n) (by omega)).mono (by omega)
theorem NS.step {a:List Int} {b all:Int} {k:Nat} (h:NS a b) (h1:1<=k) (hk:k<=63):NS (sqStep all a k) b:=by
 unfold sqStep;split
 · have ha:=h.get k (by omega);have hb:=h.get (2*k) (by omega);have hc:=h.get (2*k+1) (by omega);have e1:=h.set (i:=k) (v:=gt a k+(gt a (2*k)+gt a (2*k+1))) (by omega) (by omega);have e2:=e1.set (i:=2*k) (v:=0) (by omega) (by omega);have e3:=e2.set (i:=2*k+1) (v:=0) (by omega) (by omega);rw[gt_set,if_neg (by omega)] at e2;rw[gt_set,if_neg (by omega),gt_set,if_neg (by omega)] at e3;rw[gt_set,if_neg (by omega)] at e3;exact e3.mono (by omega)
 · exact h
theorem sq_next (a:List Int) (all:Int) (g:Nat):sqUpto a all (g+1)=sqStep all (sqUpto a all g) (63-g):=by
 unfold sqUpto;rw[List.range_succ,List.foldl_append];rfl
theorem NS.upto {a:List Int} {b all:Int} (h:NS a b):∀g,g<=63->NS (sqUpto a all g) b:=by
 intro g
 induction g with
 | zero=>intro _;exact h
 | succ g ih=>
   intro hg;rw[sq_next];exact (ih (by omega)).step (by omega) (by omega)
theorem dInts_set (a:List Int) (i:Nat) (v:Int):(dInts a).set i (.int v)=dInts (a.set i v):=by simp [dInts,List.map_set]
theorem iv_dInts' (a:List Int) (i:Nat) (h:i<a.length):iv (dInts a) i=gt a i:=by rw[iv_dInts a i h,gt_lt h]
theorem NS.zero:NS (List.replicate 128 0) 0:=by
 refine⟨by simp,fun x hx=>?_,?_⟩
 · rw[(List.mem_replicate.1 hx).2];exact Int.le_refl _
 · have:∀n,(List.replicate n (0:Int)).sum=0:=by
     intro n
     induction n with
     | zero=>rfl
     | succ n ih=>rw[List.replicate_succ,List.sum_cons,ih];rfl
   rw[this];exact Int.le_refl _
theorem nums_next (l:List (Int×Int)) (p:Int×Int):numsOf (l++[p])=addAt (numsOf l) p.1.toNat p.2:=by
 unfold numsOf;rw[List.foldl_append];rfl
theorem nums_ns {l:List Dat} (h:KnotsTo l l.length):∀g,g<=l.length->NS (numsOf (prs (l.take g))) (4000*g):=by
 intro g
 induction g with
 | zero=>intro _;exact NS.zero.mono (by omega)
 | succ g ih=>
   intro hg;have h1:=h g (by omega);rw[prs_take_succ (by omega),nums_next];exact ((ih (by omega)).add (i:=(fv l g 0).toNat) (n:=fv l g 1) (by omega) (by omega)).mono (by omega)
theorem l4Nums_vc (l:List Dat) (hp:KnotsTo l l.length/\l.length<=1000) :
 WFl TPr l->((128:Int)=128/\0<=(128:Int)/\(128:Int)*(↑(8:Nat):Int)<=281474976710656/\128<=(140737488355328:Int))/\(∃x:Nat,x<=l.length/\l=l/\0=(x:Int)/\List.replicate 128 (Dat.int (0:Int))=dInts (numsOf (prs (List.take x l))))/\∀x:Nat,x<=l.length->I64 (l.length:Int)->(decide ((x:Int)<(l.length:Int))->(0<=(x:Int)/\(x:Int)<(l.length:Int))/\(0<=(x:Int)/\(x:Int)<(l.length:Int))/\(0<=((l.getD x
 default).f 0).toInt/\((l.getD x default).f 0).toInt<(↑(dInts (numsOf (prs (List.take x l)))).length:Int))/\((l.getD x default).f 0).toInt.toNat<(dInts (numsOf (prs (List.take x l)))).length/\(0<=(x:Int)/\(x:Int)<(l.length:Int))/\(0<=((l.getD x default).f 0).toInt/\((l.getD x default).f 0).toInt<(↑(dInts (numsOf (prs (List.take x l)))).length:Int))/\((l.getD x default).f 0).toInt.toNat<(dInts
 (numsOf (prs (List.take x l)))).length/\∃x_1:Nat,(x_1<=l.length/\l.length-x_1<l.length-x)/\l=l/\i64.wrap ((x:Int)+1)=(x_1:Int)/\(dInts (numsOf (prs (List.take x l)))).set ((l.getD x default).f 0).toInt.toNat (Dat.int (i64.wrap (((dInts (numsOf (prs (List.take x l)))).getD ((l.getD x default).f 0).toInt.toNat default).toInt+((l.getD x default).f 1).toInt)))=dInts (numsOf (prs (List.take x_1
 l))))/\(decide ((x:Int)<(l.length:Int))=false->dInts (numsOf (prs (List.take x l)))=dInts (numsOf (prs l))):=by
 intro hw;simp only[iv,kv,fv,nm];obtain⟨hk,hl⟩:=hp;refine⟨by omega,⟨0,by omega,rfl,rfl⟩,fun x hx _=>⟨fun hlt=>?_,fun hlt=>by rw[List.take_of_length_le (by omega)]⟩⟩;have hns:=nums_ns hk x hx;have hx1:=hk x (by omega);simp only[fv] at hx1;have hlen:(dInts (numsOf (prs (l.take x)))).length=128:=by rw[dInts_length];exact hns.1
 have hv:=iv_dInts' (numsOf (prs (l.take x))) ((l.getD x default).f 0).toInt.toNat (by rw[hns.1];omega);simp only[iv] at hv;have hg:=hns.get ((l.getD x default).f 0).toInt.toNat (by omega);rw[hlen,hv];refine⟨by omega,by omega,by omega,by omega,by omega,by omega,by omega,x+1,by omega,up_ok (n:=l.length) (by omega) (by omega),?_⟩;rw[wrap_ok (by omega) (by omega),dInts_set,prs_take_succ (by omega),nums_next];rfl
def l4Nums_get:List SV->St->Option Got
 | [.sl ty0 l],⟨[],[],[]⟩=>guardTy ty0 TPr (some (KnotsTo l l.length/\l.length<=1000,.own 0,St.mk [] [] [⟨3,.im (.int .i64),dInts (numsOf (prs l)),0,false⟩]))
 | _,_=>none
theorem l4Nums_ok:Ok0 prog 154 l4Nums_get:=by
 intro _ _ _ _ _ h hp;unfold l4Nums_get at h;split at h
 · rename_i l;replace h:=gT h;obtain⟨rfl,h⟩:=h;cases h;refine fl [] (fun k=>bif Nat.beq k 3 then some (.g (⟨Nat,fun s g=>hd s [0,2,3] [(4,.int .i64 g)] [⟨3,.im (.int .i64),dInts (numsOf (prs (l.take g))),0,false⟩],fun _ g=>g<=l.length,fun g=>l.length-g⟩)) else none) func154 ?_;apply VC.thru (l4Nums_vc l hp);kernel_rfl
 · cases h
def l4Nums_con:Con prog:=.f0 154 [] false l4Nums_get (en func154 rfl) l4Nums_ok
theorem knots_next (a:List Int) (n:Nat) (h:1<=n):knotsTo a (n+1)=knotsTo a n++(if 0<gt a n then [((n:Int),gt a n)] else []):=by
 unfold knotsTo;rw[List.range_succ,List.filter_append,List.map_append];by_cases h2:0<gt a n
 · have:(decide (0<n)&&decide (0<gt a n))=true:=by rw[decide_eq_true (by omega:0<n),decide_eq_true h2];rfl
   rw[if_pos h2,List.filter_cons_of_pos (l:=[]) (p:=fun i:Nat=>decide (0<i)&&decide (0<gt a i)) this];rfl
 · have:¬(decide (0<n)&&decide (0<gt a n))=true:=by rw[decide_eq_false h2,Bool.and_false];simp
   rw[if_neg h2,List.filter_cons_of_neg (l:=[]) (p:=fun i:Nat=>decide (0<i)&&decide (0<gt a i)) this];rfl
theorem knotsTo_length (a:List Int) (n:Nat):(knotsTo a n).length<=n:=by
 unfold knotsTo;rw[List.length_map];exact Nat.le_trans (List.length_filter_le _ _) (by simp)
theorem l4List_vc (ds:List Dat) (hp:ds.length<=1000) :
 WFl (Ty.int i64) ds->(∃x:Nat,(1<=x/\(x<=ds.length\/x=1))/\ds=ds/\1=(x:Int)/\([]:List Dat)=dPrs (knotsTo (ints ds) x))/\∀x:Nat,1<=x/\(x<=ds.length\/x=1)->I64 (ds.length:Int)->(decide ((x:Int)<(ds.length:Int))->(0<=(x:Int)/\(x:Int)<(ds.length:Int))/\(I64 (ds.getD x default).toInt->(decide ((ds.getD x default).toInt > (0:Int))->(0<=(x:Int)/\(x:Int)<(ds.length:Int))/\(I64 (ds.getD x
 default).toInt->((dPrs (knotsTo (ints ds) x)).length+1)*16<=140737488355328/\∃x_1:Nat,((1<=x_1/\(x_1<=ds.length\/x_1=1))/\ds.length-x_1<ds.length-x)/\ds=ds/\i64.wrap ((x:Int)+1)=(x_1:Int)/\dPrs (knotsTo (ints ds) x)++[Dat.node [.int (x:Int),.int (ds.getD x default).toInt]]=dPrs (knotsTo (ints ds) x_1)))/\(decide ((ds.getD x default).toInt >
 (0:Int))=false->∃x_1:Nat,((1<=x_1/\(x_1<=ds.length\/x_1=1))/\ds.length-x_1<ds.length-x)/\ds=ds/\i64.wrap ((x:Int)+1)=(x_1:Int)/\dPrs (knotsTo (ints ds) x)=dPrs (knotsTo (ints ds) x_1))))/\(decide ((x:Int)<(ds.length:Int))=false->dPrs (knotsTo (ints ds) x)=dPrs (knots (ints ds))):=by
 intro hw;simp only[iv,kv,fv,nm];refine⟨⟨1,by omega,rfl,rfl⟩,fun x hx _=>⟨fun hlt=>⟨by omega,fun _=>?_⟩,fun hlt=>?_⟩⟩
 · have hx1:x<ds.length:=by omega
   have hv:gt (ints ds) x=(ds.getD x default).toInt:=by
     rw[gt_lt (by rw[ints_length];exact hx1),<- iv_lt hx1]
   have hk:=knotsTo_length (ints ds) x;refine⟨fun h=>⟨by omega,fun _=>⟨by rw[dPrs_length];omega,x+1,by omega,up_ok hx1 (by omega),?_⟩⟩,fun h=>⟨x+1,by omega,up_ok hx1 (by omega),?_⟩⟩
   · rw[knots_next _ _ (by omega),if_pos (by omega),hv,dPrs_one]
   · rw[knots_next _ _ (by omega),if_neg (by omega),List.append_nil]
 · unfold knots;rw[ints_length];rcases hx.2 with h | h
   · rw[show x=ds.length from by omega]
   · subst h;have h2:ds.length=0\/ds.length=1:=by omega
     rcases h2 with h2 | h2<;>rw[h2]
     rfl
def l4List_get:List SV->St->Option Got
 | [.sl (.int .i64) ds],⟨[],[],[]⟩=>some (ds.length<=1000,.sl TPr (dPrs (knots (ints ds))),St.mk [] [] [])
 | _,_=>none
theorem l4List_ok:Ok0 prog 155 l4List_get:=by
 intro _ _ _ _ _ h hp;unfold l4List_get at h;split at h
 · rename_i ds;cases h;refine fl [] (fun k=>bif Nat.beq k 3 then some (.g (⟨Nat,fun s g=>hd s [0,2] [(3,.own 0),(4,.int .i64 g)] [⟨165,.im TPr,dPrs (knotsTo (ints ds) g),0,false⟩],fun _ g=>1<=g/\(g<=ds.length\/g=1),fun g=>ds.length-g⟩)) else none) func155 ?_;apply VC.thru (l4List_vc ds hp);kernel_rfl
 · cases h
def l4List_con:Con prog:=.f0 155 [] false l4List_get (en func155 rfl) l4List_ok
theorem l4Squeeze_vc (ds:List Dat) (all:Int) (hp:NS (ints ds) 10000000/\0<=all/\all<=10000) :
 I64 all->WFl (OT.im (Ty.int i64)).ty ds->I64 (ds.length:Int)->(∃x:Nat,x<=63/\all=all/\i64.wrap ((ds.length:Int)-2)=(2:Int)*(x:Int)/\ds=dInts (sqUpto (ints ds) all (63-x)))/\∀x:Nat,x<=63->(decide ((2:Int)*(x:Int)>=(2:Int))->(0<=(2:Int)*(x:Int)/\(2:Int)*(x:Int)<(↑(dInts (sqUpto (ints ds) all (63-x))).length:Int))/\((2:Int)*(x:Int)).toNat<(dInts (sqUpto (ints ds) all (63-x))).length/\(I64 ((dInts
 (sqUpto (ints ds) all (63-x))).getD ((2:Int)*(x:Int)).toNat default).toInt->(0<=i64.wrap ((2:Int)*(x:Int)+1)/\i64.wrap ((2:Int)*(x:Int)+1)<(↑(dInts (sqUpto (ints ds) all (63-x))).length:Int))/\(i64.wrap ((2:Int)*(x:Int)+1)).toNat<(dInts (sqUpto (ints ds) all (63-x))).length/\(I64 ((dInts (sqUpto (ints ds) all (63-x))).getD (i64.wrap ((2:Int)*(x:Int)+1)).toNat default).toInt->((decide (i64.wrap
 (((dInts (sqUpto (ints ds) all (63-x))).getD ((2:Int)*(x:Int)).toNat default).toInt+((dInts (sqUpto (ints ds) all (63-x))).getD (i64.wrap ((2:Int)*(x:Int)+1)).toNat default).toInt) > (0:Int))=true->(2:Int)≠0/\(0<=i64.wrap (((2:Int)*(x:Int)).tdiv (2:Int))/\i64.wrap (((2:Int)*(x:Int)).tdiv (2:Int))<(↑(dInts (sqUpto (ints ds) all (63-x))).length:Int))/\(i64.wrap (((2:Int)*(x:Int)).tdiv
 (2:Int))).toNat<(dInts (sqUpto (ints ds) all (63-x))).length/\(I64 ((dInts (sqUpto (ints ds) all (63-x))).getD (i64.wrap (((2:Int)*(x:Int)).tdiv (2:Int))).toNat default).toInt->(8:Int)≠0))/\True)/\((decide (i64.wrap (((dInts (sqUpto (ints ds) all (63-x))).getD ((2:Int)*(x:Int)).toNat default).toInt+((dInts (sqUpto (ints ds) all (63-x))).getD (i64.wrap ((2:Int)*(x:Int)+1)).toNat default).toInt) >
 (0:Int))&&decide (i64.wrap (i64.wrap (((dInts (sqUpto (ints ds) all (63-x))).getD ((2:Int)*(x:Int)).toNat default).toInt+((dInts (sqUpto (ints ds) all (63-x))).getD (i64.wrap ((2:Int)*(x:Int)+1)).toNat default).toInt)+((dInts (sqUpto (ints ds) all (63-x))).getD (i64.wrap (((2:Int)*(x:Int)).tdiv (2:Int))).toNat default).toInt)<=i64.wrap (all.tdiv (8:Int))))=true->(2:Int)≠0/\(2:Int)≠0/\(0<=i64.wrap
 (((2:Int)*(x:Int)).tdiv (2:Int))/\i64.wrap (((2:Int)*(x:Int)).tdiv (2:Int))<(↑(dInts (sqUpto (ints ds) all (63-x))).length:Int))/\(i64.wrap (((2:Int)*(x:Int)).tdiv (2:Int))).toNat<(dInts (sqUpto (ints ds) all (63-x))).length/\(I64 ((dInts (sqUpto (ints ds) all (63-x))).getD (i64.wrap (((2:Int)*(x:Int)).tdiv (2:Int))).toNat default).toInt->(0<=i64.wrap (((2:Int)*(x:Int)).tdiv (2:Int))/\i64.wrap
 (((2:Int)*(x:Int)).tdiv (2:Int))<(↑(dInts (sqUpto (ints ds) all (63-x))).length:Int))/\(i64.wrap (((2:Int)*(x:Int)).tdiv (2:Int))).toNat<(dInts (sqUpto (ints ds) all (63-x))).length/\(0<=(2:Int)*(x:Int)/\(2:Int)*(x:Int)<(↑((dInts (sqUpto (ints ds) all (63-x))).set (i64.wrap (((2:Int)*(x:Int)).tdiv (2:Int))).toNat (Dat.int (i64.wrap (((dInts (sqUpto (ints ds) all (63-x))).getD (i64.wrap
 (((2:Int)*(x:Int)).tdiv (2:Int))).toNat default).toInt+i64.wrap (((dInts (sqUpto (ints ds) all (63-x))).getD ((2:Int)*(x:Int)).toNat default).toInt+((dInts (sqUpto (ints ds) all (63-x))).getD (i64.wrap ((2:Int)*(x:Int)+1)).toNat default).toInt))))).length:Int))/\((2:Int)*(x:Int)).toNat<((dInts (sqUpto (ints ds) all (63-x))).set (i64.wrap (((2:Int)*(x:Int)).tdiv (2:Int))).toNat (Dat.int (i64.wrap
 (((dInts (sqUpto (ints ds) all (63-x))).getD (i64.wrap (((2:Int)*(x:Int)).tdiv (2:Int))).toNat default).toInt+i64.wrap (((dInts (sqUpto (ints ds) all (63-x))).getD ((2:Int)*(x:Int)).toNat default).toInt+((dInts (sqUpto (ints ds) all (63-x))).getD (i64.wrap ((2:Int)*(x:Int)+1)).toNat default).toInt))))).length/\(0<=i64.wrap ((2:Int)*(x:Int)+1)/\i64.wrap ((2:Int)*(x:Int)+1)<(↑(((dInts (sqUpto (ints
 ds) all (63-x))).set (i64.wrap (((2:Int)*(x:Int)).tdiv (2:Int))).toNat (Dat.int (i64.wrap (((dInts (sqUpto (ints ds) all (63-x))).getD (i64.wrap (((2:Int)*(x:Int)).tdiv (2:Int))).toNat default).toInt+i64.wrap (((dInts (sqUpto (ints ds) all (63-x))).getD ((2:Int)*(x:Int)).toNat default).toInt+((dInts (sqUpto (ints ds) all (63-x))).getD (i64.wrap ((2:Int)*(x:Int)+1)).toNat default).toInt))))).set
 ((2:Int)*(x:Int)).toNat (Dat.int (0:Int))).length:Int))/\(i64.wrap ((2:Int)*(x:Int)+1)).toNat<(((dInts (sqUpto (ints ds) all (63-x))).set (i64.wrap (((2:Int)*(x:Int)).tdiv (2:Int))).toNat (Dat.int (i64.wrap (((dInts (sqUpto (ints ds) all (63-x))).getD (i64.wrap (((2:Int)*(x:Int)).tdiv (2:Int))).toNat default).toInt+i64.wrap (((dInts (sqUpto (ints ds) all (63-x))).getD ((2:Int)*(x:Int)).toNat
 default).toInt+((dInts (sqUpto (ints ds) all (63-x))).getD (i64.wrap ((2:Int)*(x:Int)+1)).toNat default).toInt))))).set ((2:Int)*(x:Int)).toNat (Dat.int (0:Int))).length/\∃x_1:Nat,(x_1<=63/\x_1<x)/\all=all/\i64.wrap ((2:Int)*(x:Int)-2)=(2:Int)*(x_1:Int)/\(((dInts (sqUpto (ints ds) all (63-x))).set (i64.wrap (((2:Int)*(x:Int)).tdiv (2:Int))).toNat (Dat.int (i64.wrap (((dInts (sqUpto (ints ds) all
 (63-x))).getD (i64.wrap (((2:Int)*(x:Int)).tdiv (2:Int))).toNat default).toInt+i64.wrap (((dInts (sqUpto (ints ds) all (63-x))).getD ((2:Int)*(x:Int)).toNat default).toInt+((dInts (sqUpto (ints ds) all (63-x))).getD (i64.wrap ((2:Int)*(x:Int)+1)).toNat default).toInt))))).set ((2:Int)*(x:Int)).toNat (Dat.int (0:Int))).set (i64.wrap ((2:Int)*(x:Int)+1)).toNat (Dat.int (0:Int))=dInts (sqUpto (ints
 ds) all (63-x_1))))/\((decide (i64.wrap (((dInts (sqUpto (ints ds) all (63-x))).getD ((2:Int)*(x:Int)).toNat default).toInt+((dInts (sqUpto (ints ds) all (63-x))).getD (i64.wrap ((2:Int)*(x:Int)+1)).toNat default).toInt) > (0:Int))&&decide (i64.wrap (i64.wrap (((dInts (sqUpto (ints ds) all (63-x))).getD ((2:Int)*(x:Int)).toNat default).toInt+((dInts (sqUpto (ints ds) all (63-x))).getD (i64.wrap
 ((2:Int)*(x:Int)+1)).toNat default).toInt)+((dInts (sqUpto (ints ds) all (63-x))).getD (i64.wrap (((2:Int)*(x:Int)).tdiv (2:Int))).toNat default).toInt)<=i64.wrap (all.tdiv (8:Int))))=false->∃x_1:Nat,(x_1<=63/\x_1<x)/\all=all/\i64.wrap ((2:Int)*(x:Int)-2)=(2:Int)*(x_1:Int)/\dInts (sqUpto (ints ds) all (63-x))=dInts (sqUpto (ints ds) all (63-x_1))))))/\(decide
 ((2:Int)*(x:Int)>=(2:Int))=false->dInts (sqUpto (ints ds) all (63-x))=dInts (squeeze (ints ds) all)):=by
 intro _ hw;simp only[iv,kv,fv,nm];obtain⟨hns,h0,h1⟩:=hp;have hlen:ds.length=128:=by rw[<- ints_length];exact hns.1
 intro _;refine⟨⟨63,by omega,by rw[hlen];rfl,(dInts_ints hw).symm⟩,fun x hx=>?_⟩;have hA:=hns.upto (all:=all) (63-x) (by omega);generalize hAe:sqUpto (ints ds) all (63-x)=A at hA ⊢;have hAl:(dInts A).length=128:=by rw[dInts_length];exact hA.1
 have e0:(2*(x:Int)).toNat=2*x:=by omega
 have e1:IntKind.i64.wrap (2*(x:Int)+1)=((2*x+1:Nat):Int):=by rw[wrap_ok (by omega) (by omega)];omega
 have e2:IntKind.i64.wrap ((2*(x:Int)).tdiv 2)=(x:Int):=by rw[tdiv_pos (by omega),wrap_ok (by omega) (by omega)];omega
 have e3:IntKind.i64.wrap (all.tdiv 8)=all / 8:=by rw[tdiv_pos (by omega),wrap_ok (by omega) (by omega)]
 have hv:∀i,i<128->((dInts A).getD i default).toInt=gt A i:=fun i hi=>iv_dInts' A i (by rw[hA.1];exact hi)
 simp only[e0,e1,e2,e3,Int.toNat_natCast,List.length_set,hAl];refine⟨fun hlt=>?_,fun hlt=>?_⟩
 · have hx1:1<=x:=by omega
   have ha:=hA.get (2*x) (by omega);have hb:=hA.get (2*x+1) (by omega);have hc:=hA.get x (by omega);rw[hv (2*x) (by omega),hv (2*x+1) (by omega),hv x (by omega)];rw[wrap_ok (n:=gt A (2*x)+gt A (2*x+1)) (by omega) (by omega),wrap_ok (n:=gt A (2*x)+gt A (2*x+1)+gt A x) (by omega) (by omega),wrap_ok (n:=gt A x+(gt A (2*x)+gt A (2*x+1))) (by omega) (by omega)];have hdn:IntKind.i64.wrap (2*(x:Int)-2)=2*((x-1:Nat):Int):=by rw[wrap_ok (by omega) (by omega)];omega
   have hst:sqUpto (ints ds) all (63-(x-1))=sqStep all A x:=by
     rw[show 63-(x-1)=(63-x)+1 from by omega,sq_next,hAe,show 63-(63-x)=x from by omega]
   refine⟨by omega,by omega,fun _=>⟨by omega,by omega,fun _=>⟨fun _=>⟨by omega,by omega,by omega,fun _=>by omega⟩,fun h=>⟨by omega,by omega,by omega,by omega,fun _=>⟨by omega,by omega,by omega,by omega,by omega,by omega,x-1,by omega,hdn,?_⟩⟩,fun h=>⟨x-1,by omega,hdn,?_⟩⟩⟩⟩
   · rw[hst,sqStep,if_pos ⟨h.1,h.2⟩,dInts_set,dInts_set,dInts_set]
   · rw[hst,sqStep,if_neg (by omega)]
 · have:x=0:=by omega
   subst this;rw[<- hAe];rfl
def l4Squeeze_get:List SV->St->Option Got
 | [.own 0,.int .i64 all],⟨[],[],[⟨3,.im (.int .i64),ds,0,true⟩]⟩=>some (NS (ints ds) 10000000/\0<=all/\all<=10000,.own 0,St.mk [] [] [⟨3,.im (.int .i64),dInts (squeeze (ints ds) all),0,true⟩])
 | _,_=>none
theorem l4Squeeze_ok:Ok0 prog 156 l4Squeeze_get:=by
 intro _ _ _ _ _ h hp;unfold l4Squeeze_get at h;split at h
 · rename_i all ds;cases h;refine fl [] (fun k=>bif Nat.beq k 2 then some (.g (⟨Nat,fun s g=>hd s [0,1,4] [(5,.int .i64 (2*(g:Int)))] [⟨3,.im (.int .i64),dInts (sqUpto (ints ds) all (63-g)),0,true⟩],fun _ g=>g<=63,fun g=>g⟩)) else none) func156 ?_;apply VC.thru (l4Squeeze_vc ds all hp);kernel_rfl
 · cases h
def l4Squeeze_con:Con prog:=.f0 156 [.lend] false l4Squeeze_get (en func156 rfl) l4Squeeze_ok
def KnTo (l:List Dat) (all:Int) (n:Nat):Prop:=∀i,i<n->1<=fv l i 0/\fv l i 0<=127/\1<=fv l i 1/\fv l i 1<=2000/\(0<i->fv l (i-1) 0<fv l i 0)/\(fv l i 0<64->fv l i 1<=all / 8)
def RankIn (l:List Dat) (all:Int):Prop:=0<=all/\all<=2000/\KnTo l all l.length/\sumN l=all
theorem kn_len {l:List Dat} {all:Int} {n:Nat} (h:KnTo l all n):∀i,i<n->(i:Int)+1<=fv l i 0:=by
 intro i
 induction i with
 | zero=>intro hi;have:=h 0 hi;omega
 | succ i ih=>
   intro hi;have h1:=ih (by omega);have h2:=(h (i+1) hi).2.2.2.2.1 (by omega);rw[show i+1-1=i from rfl] at h2;omega
theorem kn_le {l:List Dat} {all:Int} {n:Nat} (h:KnTo l all n):n<=127:=by
 rcases Nat.eq_zero_or_pos n with h0 | h0
 · omega
 · have:=kn_len h (n-1) (by omega)
   have:=h (n-1) (by omega)
   omega
theorem KnTo.knots {l:List Dat} {all:Int} {n:Nat} (h:KnTo l all n):KnotsTo l n:=fun i hi=>by have:=h i hi;omega
theorem rankOk_vc (l:List Dat) (all:Int) :
 WFl TPr l->I64 all->I64 all->True/\((!(decide (0<=all)&&decide (all<=2000)))=true->dec (RankIn l all)=false)/\((!(decide (0<=all)&&decide (all<=2000)))=false->(∃x:Nat,(x<=l.length/\KnTo l all x)/\0=sumN (List.take x l)/\0=(x:Int)/\l=l/\all=all)/\∀x:Nat,x<=l.length/\KnTo l all x->I64 (l.length:Int)->(decide ((x:Int)<(l.length:Int))->(0<=(x:Int)/\(x:Int)<(l.length:Int))/\(I64 ((l.getD x default).f
 0).toInt->True/\((!(decide (1<=((l.getD x default).f 0).toInt)&&decide (((l.getD x default).f 0).toInt<=(127:Int))))=false->I64 ((l.getD x default).f 1).toInt->True/\((!(decide (1<=((l.getD x default).f 1).toInt)&&decide (((l.getD x default).f 1).toInt<=(2000:Int))))=false->(decide ((x:Int) > (0:Int))->(0<=i64.wrap ((x:Int)-1)/\i64.wrap ((x:Int)-1)<(l.length:Int))/\(I64 ((l.getD (i64.wrap
 ((x:Int)-1)).toNat default).f 0).toInt->I64 ((l.getD x default).f 0).toInt->(decide (((l.getD (i64.wrap ((x:Int)-1)).toNat default).f 0).toInt>=((l.getD x default).f 0).toInt)=false->I64 ((l.getD x default).f 0).toInt->(decide (((l.getD x default).f 0).toInt<(64:Int))->I64 ((l.getD x default).f 1).toInt->I64 all->(8:Int)≠0)/\True)/\True))/\(decide ((x:Int) > (0:Int))=!true->I64 ((l.getD x
 default).f 0).toInt->(decide (((l.getD x default).f 0).toInt<(64:Int))->I64 ((l.getD x default).f 1).toInt->I64 all->(8:Int)≠0)/\True))/\True)/\True)/\((!(decide (1<=((l.getD x default).f 0).toInt)&&decide (((l.getD x default).f 0).toInt<=(127:Int)))||(!(decide (1<=((l.getD x default).f 1).toInt)&&decide (((l.getD x default).f 1).toInt<=(2000:Int)))||bif decide ((x:Int) > (0:Int)) then decide
 (((l.getD (i64.wrap ((x:Int)-1)).toNat default).f 0).toInt>=((l.getD x default).f 0).toInt)||decide (((l.getD x default).f 0).toInt<(64:Int))&&decide (((l.getD x default).f 1).toInt > i64.wrap (all.tdiv (8:Int))) else decide (((l.getD x default).f 0).toInt<(64:Int))&&decide (((l.getD x default).f 1).toInt > i64.wrap (all.tdiv (8:Int)))))=true->dec (RankIn l all)=false)/\((!(decide (1<=((l.getD x
 default).f 0).toInt)&&decide (((l.getD x default).f 0).toInt<=(127:Int)))||(!(decide (1<=((l.getD x default).f 1).toInt)&&decide (((l.getD x default).f 1).toInt<=(2000:Int)))||bif decide ((x:Int) > (0:Int)) then decide (((l.getD (i64.wrap ((x:Int)-1)).toNat default).f 0).toInt>=((l.getD x default).f 0).toInt)||decide (((l.getD x default).f 0).toInt<(64:Int))&&decide (((l.getD x default).f 1).toInt
 > i64.wrap (all.tdiv (8:Int))) else decide (((l.getD x default).f 0).toInt<(64:Int))&&decide (((l.getD x default).f 1).toInt > i64.wrap (all.tdiv (8:Int)))))=false->I64 ((l.getD x default).f 1).toInt->∃x_1:Nat,((x_1<=l.length/\KnTo l all x_1)/\l.length-x_1<l.length-x)/\i64.wrap (sumN (List.take x l)+((l.getD x default).f 1).toInt)=sumN (List.take x_1 l)/\i64.wrap
 ((x:Int)+1)=(x_1:Int)/\l=l/\all=all))/\(decide ((x:Int)<(l.length:Int))=false->I64 all->decide (sumN (List.take x l)=all)=dec (RankIn l all))):=by
 intro hw ha;simp only[iv,kv,fv,nm];have hl:=hw.1;have e8:IntKind.i64.wrap (all.tdiv 8)=all / 8\/¬(0<=all/\all<=2000):=by
   rcases Decidable.em (0<=all/\all<=2000) with h | h
   · left;rw[tdiv_pos (by omega),wrap_ok (by omega) (by omega)]
   · exact .inr h
 refine fun _=>⟨fun h hr=>by have:=hr.1;have:=hr.2.1;omega,fun h0=>⟨⟨0,⟨by omega,fun i hi=>by omega⟩,rfl,rfl⟩,fun x hx hlk=>⟨fun hlt=>?_,fun hlt=>?_⟩⟩⟩
 · have hx1:x<l.length:=by omega
   rw[e8.resolve_right (fun h=>h h0)];have key:((bif decide ((x:Int) > 0) then decide (((l.getD (IntKind.i64.wrap ((x:Int)-1)).toNat default).f 0).toInt>=((l.getD x default).f 0).toInt)||decide (((l.getD x default).f 0).toInt<64)&&decide (((l.getD x default).f 1).toInt > all / 8)
       else decide (((l.getD x default).f 0).toInt<64)&&decide (((l.getD x default).f 1).toInt > all / 8))=true) ↔ ((0<x/\fv l (x-1) 0>=fv l x 0)\/(fv l x 0<64/\fv l x 1 > all / 8)):=by
     rcases Nat.eq_zero_or_pos x with h | h
     · subst h;simp [fv]
     · rw[decide_eq_true (by omega:(x:Int) > 0),cond_true,down_ok h (by omega),Int.toNat_natCast];simp only[Bool.or_eq_true,Bool.and_eq_true,decide_eq_true_eq,fv,h,true_and]
   have keyf:∀b:Bool,b=false ↔ ¬(b=true):=fun b=>by cases b<;>simp
   rw[keyf,key];have hn:∀P:Prop,((l.getD x default).f 0).toInt<64->I64 ((l.getD x default).f 1).toInt->I64 all->¬(8:Int)=0:=fun _ _ _ _=>by decide
   refine⟨by omega,fun _ _ _ _=>⟨fun h=>⟨by rw[down_ok (by omega) (by omega)];omega,fun _ _ _ _=>hn True⟩,fun _ _=>hn True⟩,fun h hr=>?_,fun h=>?_⟩
   · have h1:=hr.2.2.1 x hx1;simp only[fv] at h1 h;rcases h with (h | h) | (h | h) | h | h
     · exact h h1.1
     · exact h h1.2.1
     · exact h h1.2.2.1
     · exact h h1.2.2.2.1
     · have:=h1.2.2.2.2.1 h.1;omega
     · have:=h1.2.2.2.2.2 h.1;omega
   · have hk:KnTo l all (x+1):=fun i hi=>by
       rcases Nat.lt_or_ge i x with h1 | h1
       · exact hx.2 i h1
       · rw[show i=x from by omega];simp only[fv] at h ⊢;refine⟨h.1.1,h.1.2,h.2.1.1,h.2.1.2,fun h2=>?_,fun h2=>?_⟩
         · have:=h.2.2;omega
         · have:=h.2.2;omega
     refine fun _=>⟨x+1,⟨⟨by omega,hk⟩,by omega⟩,?_,up_ok hx1 (by omega)⟩
     rw[sumN_next l x hx1]
 · have hxl:x=l.length:=by omega
   subst hxl;intro _;rw[List.take_length];refine dec_bool ⟨fun h=>⟨h0.1,h0.2,hx.2,of_decide_eq_true h⟩,fun h=>decide_eq_true h.2.2.2⟩
def rankOk_get:List SV->St->Option Got
 | [.agg [.sl ty0 l,.int .i64 all]],⟨[],[],[]⟩=>guardTy ty0 TPr (some (True,.bool (dec (RankIn l all)),St.mk [] [] []))
 | _,_=>none
theorem rankOk_ok:Ok0 prog 147 rankOk_get:=by
 intro _ _ _ _ _ h hp;unfold rankOk_get at h;split at h
 · rename_i l all;replace h:=gT h;obtain⟨rfl,h⟩:=h;cases h;refine fl [l6In_con] (fun k=>bif Nat.beq k 5 then some (.g (⟨Nat,fun s g=>hdb s [1,2] [(3,.int .i64 (sumN (l.take g))),(4,.int .i64 g)] (s.bx.take 1) s.rw,fun _ g=>g<=l.length/\KnTo l all g,fun g=>l.length-g⟩)) else none) func147 ?_;apply VC.thru (rankOk_vc l all);kernel_rfl
 · cases h
def rankOk_con:Con prog:=.f0 147 [] true rankOk_get (en func147 rfl) rankOk_ok
theorem rankAdd_vc (l:List Dat) (all thing:Int) (hp:RankIn l all/\0<=thing/\thing<64/\all<2000) :
 WFl TPr l->I64 all->I64 thing->(True/\((!dec (RankIn l all))=false->True)/\True)/\((!dec (RankIn l all)||(!(decide (0<=thing)&&decide (thing<=63))||decide (all>=(2000:Int))))=true->False)/\((!dec (RankIn l all)||(!(decide (0<=thing)&&decide (thing<=63))||decide (all>=(2000:Int))))=false->(KnotsTo l l.length/\l.length<=1000)/\(0<=i64.wrap ((64:Int)+thing)/\i64.wrap ((64:Int)+thing)<(↑(dInts (numsOf
 (prs l))).length:Int))/\(i64.wrap ((64:Int)+thing)).toNat<(dInts (numsOf (prs l))).length/\(I64 ((dInts (numsOf (prs l))).getD (i64.wrap ((64:Int)+thing)).toNat default).toInt->(0<=i64.wrap ((64:Int)+thing)/\i64.wrap ((64:Int)+thing)<(↑(dInts (numsOf (prs l))).length:Int))/\(i64.wrap ((64:Int)+thing)).toNat<(dInts (numsOf (prs l))).length/\(NS (ints ((dInts (numsOf (prs l))).set (i64.wrap
 ((64:Int)+thing)).toNat (Dat.int (i64.wrap (((dInts (numsOf (prs l))).getD (i64.wrap ((64:Int)+thing)).toNat default).toInt+(1:Int)))))) (10000000:Int)/\0<=i64.wrap (all+1)/\i64.wrap (all+1)<=10000)/\all=all/\(dInts (squeeze (ints ((dInts (numsOf (prs l))).set (i64.wrap ((64:Int)+thing)).toNat (Dat.int (i64.wrap (((dInts (numsOf (prs l))).getD (i64.wrap ((64:Int)+thing)).toNat
 default).toInt+(1:Int)))))) (i64.wrap (all+1)))).length<=1000/\all=all/\dPrs (knots (ints (dInts (squeeze (ints ((dInts (numsOf (prs l))).set (i64.wrap ((64:Int)+thing)).toNat (Dat.int (i64.wrap (((dInts (numsOf (prs l))).getD (i64.wrap ((64:Int)+thing)).toNat default).toInt+(1:Int)))))) (i64.wrap (all+1))))))=dPrs (rankAdd (prs l) all thing)/\i64.wrap (all+1)=all+1)):=by
 intro hw ha ht;simp only[iv,kv,fv,nm];obtain⟨hr,h0,h1,h2⟩:=hp;have hk:=hr.2.2.1;have hkl:=kn_le hk;have hall:=hr.1;have hns:=nums_ns hk.knots l.length (Nat.le_refl _);rw[List.take_length] at hns;have e1:IntKind.i64.wrap (64+thing)=64+thing:=wrap_ok (by omega) (by omega);have e2:IntKind.i64.wrap (all+1)=all+1:=wrap_ok (by omega) (by omega);have hi:(64+thing).toNat<128:=by omega
 have hg:=hns.get _ hi;have hv:=iv_dInts' (numsOf (prs l)) (64+thing).toNat (by rw[hns.1];exact hi);simp only[iv] at hv;have hlen:(dInts (numsOf (prs l))).length=128:=by rw[dInts_length];exact hns.1
 have e3:ints ((dInts (numsOf (prs l))).set (64+thing).toNat (.int (gt (numsOf (prs l)) (64+thing).toNat+1)))=addAt (numsOf (prs l)) (64+thing).toNat 1:=by rw[dInts_set,ints_dInts];rfl
 have hA:=hns.add hi (by omega:(0:Int)<=1);rw[e1,e2,hlen,hv,wrap_ok (n:=gt (numsOf (prs l)) (64+thing).toNat+1) (by omega) (by omega),e3];have hS:=hA.upto (all:=all+1) 63 (by omega);refine⟨fun h=>by rcases h with h | h | h;exact h hr;omega;omega,fun _=>⟨⟨hk.knots,by omega⟩,by omega,by omega,fun _=>⟨by omega,by omega,⟨hA.mono (by omega),by omega,by omega⟩,?_,?_,rfl⟩⟩⟩
 · rw[dInts_length];show (sqUpto _ _ 63).length<=1000;rw[hS.1];omega
 · rw[ints_dInts];rfl
def rankAdd_get:List SV->St->Option Got
 | [.agg [.sl ty0 l,.int .i64 all],.int .i64 thing],⟨[],[],[]⟩=>guardTy ty0 TPr (some (RankIn l all/\0<=thing/\thing<64/\all<2000,.tup [.agg [.sl TPr (dPrs (rankAdd (prs l) all thing)),.int .i64 (all+1)],.tt],St.mk [] [] []))
 | _,_=>none
theorem rankAdd_ok:Ok0 prog 234 rankAdd_get:=by
 intro _ _ _ _ _ h hp;unfold rankAdd_get at h;split at h
 · rename_i l all thing;replace h:=gT h;obtain⟨rfl,h⟩:=h;cases h;refine fz [rankOk_con,l6In_con,l4Nums_con,l4Squeeze_con,l4List_con] func234 ?_;apply VC.thru (rankAdd_vc l all thing hp);kernel_rfl
 · cases h
def rankAdd_con:Con prog:=.f0 234 [] false rankAdd_get (en func234 rfl) rankAdd_ok
structure SumD where
 rows:List Dat
 kept:List Dat
 prs:List Dat
 lost:Int
 all:Int
 kn:List Dat
 rall:Int
def SumIn (x:SumD):Prop:=RoughIn x.rows/\FewIn x.kept/\TopIn x.prs x.lost x.all/\RankIn x.kn x.rall/\sumW (kv x.rows 0)=x.all/\x.all=x.rall/\(0<x.kept.length ↔ 0<x.all)
def sumAdd (x:SumD) (t:Int):SumD:=⟨roughAdd x.rows t 1,dInts (fewPut (ints x.kept) (mark t)),dPrs (topLess (topPut (E.prs x.prs) (t,1)) (over (topPut (E.prs x.prs) (t,1)))),x.lost+over (topPut (E.prs x.prs) (t,1)),x.all+1,dPrs (rankAdd (E.prs x.kn) x.rall t),x.rall+1⟩
def sumZero:SumD:=⟨roughZero,[],[],0,0,[],0⟩
theorem sumOk_vc (rows kept prs kn:List Dat) (lost all rall:Int) :
 WFl (Ty.int i64).sl rows->WFl (Ty.int i64) kept->WFl TPr prs->I64 lost->I64 all->WFl TPr kn->I64 rall->(True/\(dec (RoughIn rows)=true->True/\(dec (FewIn kept)=true->True/\(dec (TopIn prs lost all)=true->True/\(dec (RankIn kn rall)=true->RoughIn rows)/\True)/\True)/\True)/\True)/\(dec (RoughIn rows)&&(dec (FewIn kept)&&(dec (TopIn prs lost all)&&(dec (RankIn kn rall)&&(decide (sumW (kv rows
 0)=all)&&(decide (all=rall)&&decide (decide ((kept.length:Int) > (0:Int))=decide (all > (0:Int)))))))))=dec (SumIn (SumD.mk rows kept prs lost all kn rall)):=by
 intro hw1 hw2 hw3 _ _ hw4 _;simp only[iv,kv,fv,nm];refine⟨fun h _ _ _=>h,?_⟩;refine dec_bool ?_;simp only[Bool.and_eq_true,decide_eq_true_eq,dec_eq_true,SumIn,kv];have e:(decide ((kept.length:Int) > 0)=decide (all > 0)) ↔ (0<kept.length ↔ 0<all):=by
   rw[decide_eq_decide];constructor
   · intro h;constructor
     · intro h1;exact h.1 (by omega)
     · intro h1;have:=h.2 h1;omega
   · intro h;constructor
     · intro h1;exact h.1 (by omega)
     · intro h1;have:=h.2 h1;omega
 rw[e]
def sumOk_get:List SV->St->Option Got
 | [.agg [.sl (.sl (.int .i64)) rows,.sl (.int .i64) kept,.sl ty0 prs,.int .i64 lost,.int .i64 all,.sl ty1 kn,.int .i64 rall]],⟨[],[],[]⟩=>guardTy ty0 TPr (guardTy ty1 TPr (some (True,.bool (dec (SumIn ⟨rows,kept,prs,lost,all,kn,rall⟩)),St.mk [] [] [])))
 | _,_=>none
theorem sumOk_ok:Ok0 prog 102 sumOk_get:=by
 intro _ _ _ _ _ h hp;unfold sumOk_get at h;split at h
 · rename_i rows kept _ prs lost all _ kn rall;replace h:=gT2 h;obtain⟨rfl,rfl,h⟩:=h;cases h;refine fz [roughOk_con,fewOk_con,topOk_con,rankOk_con,roughAll_con] func102 ?_;apply VC.thru (sumOk_vc rows kept prs kn lost all rall);kernel_rfl
 · cases h
def sumOk_con:Con prog:=.f0 102 [] true sumOk_get (en func102 rfl) sumOk_ok
theorem sumAdd_vc (rows kept prs kn:List Dat) (lost all rall t:Int) (hp:SumIn ⟨rows,kept,prs,lost,all,kn,rall⟩/\0<=t/\t<64/\all<2000) :
 WFl (Ty.int i64).sl rows->WFl (Ty.int i64) kept->WFl TPr prs->I64 lost->I64 all->WFl TPr kn->I64 rall->I64 t->(True/\((!dec (SumIn (SumD.mk rows kept prs lost all kn rall)))=false->True)/\True)/\((!dec (SumIn (SumD.mk rows kept prs lost all kn rall))||(!(decide (0<=t)&&decide (t<=63))||decide (all>=(2000:Int))))=true->False)/\((!dec (SumIn (SumD.mk rows kept prs lost all kn rall))||(!(decide
 (0<=t)&&decide (t<=63))||decide (all>=(2000:Int))))=false->(RoughIn rows/\0<=t/\t<64/\0<=(1:Int)/\(1:Int)+sumW (kv rows 0)<=(2000:Int))/\(FewIn kept/\0<=t/\t<64)/\(TopIn prs lost all/\0<=t/\t<64/\all<2000)/\(RankIn kn rall/\0<=t/\t<64/\rall<2000)/\roughAdd rows t 1=(sumAdd (SumD.mk rows kept prs lost all kn rall) t).rows/\dInts (fewPut (ints kept) (mark t))=(sumAdd (SumD.mk rows kept prs lost all
 kn rall) t).kept/\dPrs (topLess (topPut (E.prs prs) (t,(1:Int))) (over (topPut (E.prs prs) (t,(1:Int)))))=(sumAdd (SumD.mk rows kept prs lost all kn rall) t).prs/\lost+over (topPut (E.prs prs) (t,(1:Int)))=(sumAdd (SumD.mk rows kept prs lost all kn rall) t).lost/\all+1=(sumAdd (SumD.mk rows kept prs lost all kn rall) t).all/\dPrs (rankAdd (E.prs kn) rall t)=(sumAdd (SumD.mk rows kept prs lost all
 kn rall) t).kn/\rall+1=(sumAdd (SumD.mk rows kept prs lost all kn rall) t).rall):=by
 intro hw1 hw2 hw3 _ _ hw4 _ _;simp only[iv,kv,fv,nm];obtain⟨h,h0,h1,h2⟩:=hp;obtain⟨a1,a2,a3,a4,a5,a6,a7⟩:=id h;simp only[kv] at a5 a6;simp only[E.sumAdd,and_true];refine⟨fun hc=>?_,fun _=>⟨⟨a1,by omega,by omega,by omega,by omega⟩,⟨a2,by omega,by omega⟩,⟨a3,by omega,by omega,h2⟩,a4,by omega,by omega,by omega⟩⟩;rcases hc with hc | hc | hc
 · exact hc h
 · omega
 · omega
def sumAdd_get:List SV->St->Option Got
 | [.agg [.sl (.sl (.int .i64)) rows,.sl (.int .i64) kept,.sl ty0 prs,.int .i64 lost,.int .i64 all,.sl ty1 kn,.int .i64 rall],.int .i64 t],⟨[],[],[]⟩=>guardTy ty0 TPr (guardTy ty1 TPr (some (SumIn ⟨rows,kept,prs,lost,all,kn,rall⟩/\0<=t/\t<64/\all<2000,.tup [.agg [.sl (.sl (.int .i64)) (E.sumAdd ⟨rows,kept,prs,lost,all,kn,rall⟩ t).rows,.sl (.int .i64) (E.sumAdd ⟨rows,kept,prs,lost,all,kn,rall⟩ t).kept,.sl TPr (E.sumAdd ⟨rows,kept,prs,lost,all,kn,rall⟩ t).prs,.int .i64 (E.sumAdd ⟨rows,kept,prs,lost,all,kn,rall⟩ t).lost,.int .i64 (E.sumAdd ⟨rows,kept,prs,lost,all,kn,rall⟩ t).all,.sl TPr (E.sumAdd ⟨rows,kept,prs,lost,all,kn,rall⟩ t).kn,.int .i64 (E.sumAdd ⟨rows,kept,prs,lost,all,kn,rall⟩ t).rall],.tt],St.mk [] [] [])))
 | _,_=>none
theorem sumAdd_ok:Ok0 prog 222 sumAdd_get:=by
 intro _ _ _ _ _ h hp;unfold sumAdd_get at h;split at h
 · rename_i rows kept _ prs lost all _ kn rall t;replace h:=gT2 h;obtain⟨rfl,rfl,h⟩:=h;cases h;refine fz [sumOk_con,l6In_con,roughAdd_con,fewAdd_con,topAdd_con,rankAdd_con] func222 ?_;apply VC.thru (sumAdd_vc rows kept prs kn lost all rall t hp);kernel_rfl
 · cases h
def sumAdd_con:Con prog:=.f0 222 [] false sumAdd_get (en func222 rfl) sumAdd_ok
def rowV (l:List Dat):Int:=bif dec (RowIn l) then sumW l else 0
def RowI (rows:List Dat) (i:Nat):Prop:=(RowIn (kv rows i)/\sumW (kv rows i)<=2000)/\rowV (kv rows i)=rowV (kv rows 0)
theorem rowV_in {l:List Dat} (h:RowIn l):rowV l=sumW l:=by rw[rowV,dec_yes h];rfl
def zeroTo (g:Nat):List Dat:=tab 3 fun i=>if i<g then .node (tab 8 fun _=>.int 0) else .node []
theorem iIsThing_vc (t:Int) :
 I64 t->(decide (t>=(0:Int))&&decide (t<64))=dec (0<=t/\t<64):=by
 intro _;refine dec_bool ?_;simp only[Bool.and_eq_true,decide_eq_true_eq]
def iIsThing_get:List SV->St->Option Got
 | [.int .i64 t],⟨[],[],[]⟩=>some (True,.bool (dec (0<=t/\t<64)),St.mk [] [] [])
 | _,_=>none
theorem iIsThing_ok:Ok0 prog 50 iIsThing_get:=by
 intro _ _ _ _ _ h hp;unfold iIsThing_get at h;split at h
 · rename_i t;cases h;refine fz [] func50 ?_;apply VC.thru (iIsThing_vc t);kernel_rfl
 · cases h
def iIsThing_con:Con prog:=.f0 50 [] true iIsThing_get (en func50 rfl) iIsThing_ok
theorem iIsNode_vc (t:Int) :
 I64 t->(decide (t>=(0:Int))&&decide (t<5))=dec (0<=t/\t<5):=by
 intro _;refine dec_bool ?_;simp only[Bool.and_eq_true,decide_eq_true_eq]
def iIsNode_get:List SV->St->Option Got
 | [.int .i64 t],⟨[],[],[]⟩=>some (True,.bool (dec (0<=t/\t<5)),St.mk [] [] [])
 | _,_=>none
theorem iIsNode_ok:Ok0 prog 40 iIsNode_get:=by
 intro _ _ _ _ _ h hp;unfold iIsNode_get at h;split at h
 · rename_i t;cases h;refine fz [] func40 ?_;apply VC.thru (iIsNode_vc t);kernel_rfl
 · cases h
def iIsNode_con:Con prog:=.f0 40 [] true iIsNode_get (en func40 rfl) iIsNode_ok
theorem iRowAll_vc (l:List Dat) :
 WFl (Ty.int i64) l->I64 (l.length:Int)->(decide ((l.length:Int)≠8)->0=rowV l/\dec (RowIn l/\sumW l<=2000)=false)/\(decide ((l.length:Int)≠8)=false->I64 (l.length:Int)->(∃x:Nat,(x<=8/\∀k:Nat,k<x->0<=iv l k/\iv l k<=2000)/\l=l/\(0:Int)=0/\0=sumW (List.take x l)/\l=l/\(l.length:Int)=(l.length:Int)/\0=(x:Int))/\∀x:Nat,(x<=8/\∀k:Nat,k<x->0<=iv l k/\iv l k<=2000)->(decide
 ((x:Int)<(l.length:Int))->(0<=(x:Int)/\(x:Int)<(l.length:Int))/\(I64 (l.getD x default).toInt->((decide ((l.getD x default).toInt<(0:Int))||decide ((l.getD x default).toInt > (2000:Int)))=true->0=rowV l/\dec (RowIn l/\sumW l<=2000)=false)/\((decide ((l.getD x default).toInt<(0:Int))||decide ((l.getD x default).toInt > (2000:Int)))=false->∃x_1:Nat,((x_1<=8/\∀k:Nat,k<x_1->0<=iv l k/\iv l
 k<=2000)/\8-x_1<8-x)/\l=l/\(0:Int)=0/\i64.wrap (sumW (List.take x l)+(l.getD x default).toInt)=sumW (List.take x_1 l)/\l=l/\(l.length:Int)=(l.length:Int)/\i64.wrap ((x:Int)+1)=(x_1:Int))))/\(decide ((x:Int)<(l.length:Int))=false->sumW (List.take x l)=rowV l/\decide (sumW (List.take x l)<=(2000:Int))=dec (RowIn l/\sumW l<=2000))):=by
 intro hw;simp only[iv,kv,fv,nm];refine fun _=>⟨fun h=>⟨?_,fun h2=>h (by have:=h2.1.1;omega)⟩,fun h8 _=>⟨⟨0,⟨by omega,fun k hk=>by omega⟩,rfl,rfl⟩,fun x hx=>⟨fun hlt=>⟨by omega,fun _=>⟨fun hc=>⟨?_,fun h2=>?_⟩,fun hc=>⟨x+1,⟨⟨by omega,fun k hk=>?_⟩,by omega⟩,(sumW_next l x (by omega)).symm,up_ok (n:=8) (by omega) (by omega)⟩⟩⟩,fun hlt=>?_⟩⟩⟩
 · rw[rowV,dec_no (fun h2=>h (by have:=h2.1;omega))];rfl
 · rw[rowV,dec_no (fun h2=>by have:=h2.2 x (by omega);simp only[iv] at this;omega)];rfl
 · have:=h2.1.2 x (by omega);simp only[iv] at this;omega
 · rcases Nat.lt_or_ge k x with h1 | h1
   · exact hx.2 k h1
   · rw[show k=x from by omega];omega
 · have hR:RowIn l:=⟨by omega,fun k hk=>hx.2 k (by omega)⟩;rw[List.take_of_length_le (by omega),rowV_in hR];exact⟨rfl,dec_bool (by simp only[decide_eq_true_eq];exact⟨fun h=>⟨hR,h⟩,fun h=>h.2⟩)⟩
def iRowAll_get:List SV->St->Option Got
 | [.sl (.int .i64) l],⟨[],[],[]⟩=>some (True,.tup [.int .i64 (rowV l),.bool (dec (RowIn l/\sumW l<=2000))],St.mk [] [] [])
 | _,_=>none
theorem iRowAll_ok:Ok0 prog 162 iRowAll_get:=by
 intro _ _ _ _ _ h hp;unfold iRowAll_get at h;split at h
 · rename_i l;cases h;refine fl [] (fun k=>bif Nat.beq k 5 then some (.g (⟨Nat,fun s g=>hdb s [0,2,3,10,11] [(4,.int .i64 (sumW (l.take g))),(12,.int .i64 g)] s.bx s.rw,fun _ g=>g<=8/\∀k,k<g->0<=iv l k/\iv l k<=2000,fun g=>8-g⟩)) else none) func162 ?_;apply VC.thru (iRowAll_vc l);kernel_rfl
 · cases h
def iRowAll_con:Con prog:=.f0 162 [] true iRowAll_get (en func162 rfl) iRowAll_ok
theorem iRoughOk_vc (rows:List Dat) :
 WFl (Ty.int i64).sl rows->I64 (rows.length:Int)->(decide ((rows.length:Int)≠3)->dec (RoughIn rows)=false)/\(decide ((rows.length:Int)≠3)=false->(0<=(0:Int)/\0<(rows.length:Int))/\True/\(I64 (rows.length:Int)->(∃x:Nat,(x<=3/\∀i:Nat,i<x->RowI rows i)/\rows=rows/\rowV (rows.getD 0 default).kids=rowV (rows.getD 0 default).kids/\dec (RowIn (rows.getD 0 default).kids/\sumW (rows.getD 0
 default).kids<=(2000:Int))=dec (RowIn (rows.getD 0 default).kids/\sumW (rows.getD 0 default).kids<=(2000:Int))/\rows=rows/\(rows.length:Int)=(rows.length:Int)/\0=(x:Int)/\rows=rows)/\∀x:Nat,(x<=3/\∀i:Nat,i<x->RowI rows i)->(decide ((x:Int)<(rows.length:Int))->(0<=(x:Int)/\(x:Int)<(rows.length:Int))/\True/\((!dec (RowIn (rows.getD x default).kids/\sumW (rows.getD x
 default).kids<=(2000:Int))||decide (rowV (rows.getD x default).kids≠rowV (rows.getD 0 default).kids))=true->dec (RoughIn rows)=false)/\((!dec (RowIn (rows.getD x default).kids/\sumW (rows.getD x default).kids<=(2000:Int))||decide (rowV (rows.getD x default).kids≠rowV (rows.getD 0 default).kids))=false->∃x_1:Nat,((x_1<=3/\∀i:Nat,i<x_1->RowI rows i)/\3-x_1<3-x)/\rows=rows/\rowV (rows.getD 0
 default).kids=rowV (rows.getD 0 default).kids/\dec (RowIn (rows.getD 0 default).kids/\sumW (rows.getD 0 default).kids<=(2000:Int))=dec (RowIn (rows.getD 0 default).kids/\sumW (rows.getD 0 default).kids<=(2000:Int))/\rows=rows/\(rows.length:Int)=(rows.length:Int)/\i64.wrap ((x:Int)+1)=(x_1:Int)/\rows=rows))/\(decide ((x:Int)<(rows.length:Int))=false->dec (RoughIn rows)=true))):=by
 intro hw;simp only[iv,kv,fv,nm];refine fun _=>⟨fun h h2=>h (by have:=h2.1;omega),fun h3=>⟨by omega,fun _=>⟨⟨0,⟨by omega,fun i hi=>by omega⟩,rfl⟩,fun x hx=>⟨fun hlt=>⟨by omega,fun hc h2=>?_,fun hc=>⟨x+1,⟨⟨by omega,fun i hi=>?_⟩,by omega⟩,up_ok (n:=3) (by omega) (by omega)⟩⟩,fun hlt=>⟨by omega,fun i hi=>?_⟩⟩⟩⟩⟩
 · have h4:=h2.2 x (by omega);have h5:=h2.2 0 (by omega);rcases hc with hc | hc
   · exact hc ⟨h4.1,h4.2.2⟩
   · exact hc ((rowV_in h4.1).trans (h4.2.1.trans (rowV_in h5.1).symm))
 · rcases Nat.lt_or_ge i x with h1 | h1
   · exact hx.2 i h1
   · rw[show i=x from by omega];exact hc
 · have h4:=hx.2 i (by omega);have h5:=hx.2 0 (by omega);exact⟨h4.1.1,(rowV_in h4.1.1).symm.trans (h4.2.trans (rowV_in h5.1.1)),h4.1.2⟩
def iRoughOk_get:List SV->St->Option Got
 | [.agg [.sl (.sl (.int .i64)) rows]],⟨[],[],[]⟩=>some (True,.bool (dec (RoughIn rows)),St.mk [] [] [])
 | _,_=>none
theorem iRoughOk_ok:Ok0 prog 124 iRoughOk_get:=by
 intro _ _ _ _ _ h hp;unfold iRoughOk_get at h;split at h
 · rename_i rows;cases h;refine fl [iRowAll_con] (fun k=>bif Nat.beq k 5 then some (.g (⟨Nat,fun s g=>hdb s [0,1,2,3,4,22,23] [(24,.int .i64 g)] s.bx s.rw,fun _ g=>g<=3/\∀i,i<g->RowI rows i,fun g=>3-g⟩)) else none) func124 ?_;apply VC.thru (iRoughOk_vc rows);kernel_rfl
 · cases h
def iRoughOk_con:Con prog:=.f0 124 [] true iRoughOk_get (en func124 rfl) iRoughOk_ok
theorem iRoughAll_vc (rows:List Dat) (hp:RoughIn rows) :
 WFl (Ty.int i64).sl rows->True/\((!dec (RoughIn rows))=true->-1=sumW (kv rows 0))/\((!dec (RoughIn rows))=false->(0<=(0:Int)/\0<(rows.length:Int))/\True/\rowV (rows.getD 0 default).kids=sumW (kv rows 0)):=by
 intro hw;simp only[iv,kv,fv,nm];exact⟨fun h=>absurd hp h,fun _=>⟨by have:=hp.1;omega,rowV_in (hp.2 0 (by omega)).1⟩⟩
def iRoughAll_get:List SV->St->Option Got
 | [.agg [.sl (.sl (.int .i64)) rows]],⟨[],[],[]⟩=>some (RoughIn rows,.int .i64 (sumW (kv rows 0)),St.mk [] [] [])
 | _,_=>none
theorem iRoughAll_ok:Ok0 prog 120 iRoughAll_get:=by
 intro _ _ _ _ _ h hp;unfold iRoughAll_get at h;split at h
 · rename_i rows;cases h;refine fz [iRoughOk_con,iRowAll_con] func120 ?_;apply VC.thru (iRoughAll_vc rows hp);kernel_rfl
 · cases h
def iRoughAll_con:Con prog:=.f0 120 [] true iRoughAll_get (en func120 rfl) iRoughAll_ok
theorem iRoughNew_vc :
 ((3:Int)=3/\0<=(3:Int)/\(3:Int)*(↑(24:Nat):Int)<=281474976710656/\3<=(140737488355328:Int))/\(I64 (↑(List.replicate 3 (Dat.node [])).length:Int)->(∃x:Nat,x<=3/\(↑(List.replicate 3 (Dat.node [])).length:Int)=(↑(List.replicate 3 (Dat.node [])).length:Int)/\0=(x:Int)/\List.replicate 3 (Dat.node [])=zeroTo x)/\∀x:Nat,x<=3->(decide ((x:Int)<(↑(List.replicate 3 (Dat.node
 [])).length:Int))->((8:Int)=8/\0<=(8:Int)/\(8:Int)*(↑(8:Nat):Int)<=281474976710656/\8<=(140737488355328:Int))/\(0<=(x:Int)/\(x:Int)<(↑(zeroTo x).length:Int))/\x<(zeroTo x).length/\∃x_1:Nat,(x_1<=3/\3-x_1<3-x)/\(↑(List.replicate 3 (Dat.node [])).length:Int)=(↑(List.replicate 3 (Dat.node [])).length:Int)/\i64.wrap ((x:Int)+1)=(x_1:Int)/\(zeroTo x).set x (Dat.node (List.replicate 8 (Dat.int
 (0:Int))))=zeroTo x_1)/\(decide ((x:Int)<(↑(List.replicate 3 (Dat.node [])).length:Int))=false->zeroTo x=roughZero)):=by
 simp only[iv,kv,fv,nm];have hl:∀g,(zeroTo g).length=3:=fun g=>by simp [zeroTo]
 refine⟨by omega,fun _=>⟨⟨0,by omega,rfl,rfl⟩,fun x hx=>⟨fun hlt=>⟨by omega,by rw[hl];simp at hlt;omega,by rw[hl];simp at hlt;omega,x+1,by simp at hlt;omega,up_ok (n:=3) (by simp at hlt;omega) (by omega),?_⟩,fun hlt=>?_⟩⟩⟩
 · have h3:x=0\/x=1\/x=2:=by simp at hlt;omega
   rcases h3 with rfl | rfl | rfl<;>rfl
 · have h3:x=3:=by simp at hlt;omega
   subst h3;rfl
def iRoughNew_get:List SV->St->Option Got
 | [],⟨[],[],[]⟩=>some (True,.agg [.own 0],St.mk [] [] [⟨34,.sl 3 (.im (.int .i64)),roughZero,0,false⟩])
 | _,_=>none
theorem iRoughNew_ok:Ok0 prog 112 iRoughNew_get:=by
 intro _ _ _ _ _ h hp;unfold iRoughNew_get at h;split at h
 · cases h;refine fl [] (fun k=>bif Nat.beq k 3 then some (.g (⟨Nat,fun s g=>hdb s [0,5] [(1,.own 0),(6,.int .i64 g)] s.bx [⟨34,.sl 3 (.im (.int .i64)),zeroTo g,0,false⟩],fun _ g=>g<=3,fun g=>3-g⟩)) else none) func112 ?_;apply VC.thru (iRoughNew_vc);kernel_rfl
 · cases h
def iRoughNew_con:Con prog:=.f0 112 [] false iRoughNew_get (en func112 rfl) iRoughNew_ok
theorem iRoughPlace_vc (i t:Int) (hp:0<=i/\i<3/\0<=t/\t<64) :
 I64 i->I64 t->True/\((!dec (0<=t/\t<64))=true->-1=place i.toNat t)/\((!dec (0<=t/\t<64))=false->(decide (i=0)->(8:Int)≠0/\(8:Int)≠0/\(i64.wrap (i64.wrap ((3:Int)*t)+i64.wrap (t.tdiv (8:Int)))).tmod 8=place i.toNat t)/\(decide (i=0)=false->(decide (i=1)->(16:Int)≠0/\(8:Int)≠0/\(i64.wrap (i64.wrap (i64.wrap ((5:Int)*t)+i64.wrap (t.tdiv (16:Int)))+1)).tmod 8=place i.toNat t)/\(decide
 (i=1)=false->(decide (i=2)->(4:Int)≠0/\(8:Int)≠0/\(i64.wrap (i64.wrap (t+i64.wrap (t.tdiv (4:Int)))+2)).tmod 8=place i.toNat t)/\(decide (i=2)=false->-1=place i.toNat t)))):=by
 intro hi ht;simp only[iv,kv,fv,nm];obtain⟨h0,h1,h2,h3⟩:=hp;refine⟨fun h=>absurd ⟨h2,h3⟩ h,fun hx=>⟨fun e=>⟨by decide,by decide,?_⟩,fun hz=>⟨fun e=>⟨by decide,by decide,?_⟩,fun hz=>⟨fun e=>⟨by decide,by decide,?_⟩,fun _=>by omega⟩⟩⟩⟩
 all_goals
   subst e;obtain⟨k,rfl⟩:=Int.eq_ofNat_of_zero_le h2;have hk:k<64:=by omega
   clear h0 h1 h2 h3 hi ht hx
   revert k
   decide
def iRoughPlace_get:List SV->St->Option Got
 | [.int .i64 i,.int .i64 t],⟨[],[],[]⟩=>some (0<=i/\i<3/\0<=t/\t<64,.int .i64 (place i.toNat t),St.mk [] [] [])
 | _,_=>none
theorem iRoughPlace_ok:Ok0 prog 125 iRoughPlace_get:=by
 intro _ _ _ _ _ h hp;unfold iRoughPlace_get at h;split at h
 · rename_i i t;cases h;refine fz [iIsThing_con] func125 ?_;apply VC.thru (iRoughPlace_vc i t hp);kernel_rfl
 · cases h
def iRoughPlace_con:Con prog:=.f0 125 [] true iRoughPlace_get (en func125 rfl) iRoughPlace_ok
def lastI (l:List Dat) (n:Nat):Int:=if n=0 then -1 else iv l (n-1)
def lastF (d:Int) (l:List Dat) (n:Nat):Int:=if n=0 then d else fv l (n-1) 0
theorem iFewMark_vc (t:Int) (hp:0<=t/\t<64) :
 I64 t->True/\((!dec (0<=t/\t<64))=true->-1=mark t)/\((!dec (0<=t/\t<64))=false->(64:Int)≠0/\(i64.wrap (i64.wrap ((37:Int)*t)+(11:Int))).tmod 64=mark t):=by
 intro ht;simp only[iv,kv,fv,nm];refine⟨fun h=>absurd hp h,fun _=>⟨by omega,?_⟩⟩;rw[wrap_ok (n:=37*t) (by omega) (by omega),wrap_ok (by omega) (by omega),tmod_pos (by omega),Int.mul_comm];rfl
def iFewMark_get:List SV->St->Option Got
 | [.int .i64 t],⟨[],[],[]⟩=>some (0<=t/\t<64,.int .i64 (mark t),St.mk [] [] [])
 | _,_=>none
theorem iFewMark_ok:Ok0 prog 122 iFewMark_get:=by
 intro _ _ _ _ _ h hp;unfold iFewMark_get at h;split at h
 · rename_i t;cases h;refine fz [iIsThing_con] func122 ?_;apply VC.thru (iFewMark_vc t hp);kernel_rfl
 · cases h
def iFewMark_con:Con prog:=.f0 122 [] true iFewMark_get (en func122 rfl) iFewMark_ok
theorem iFewOk_vc (kept:List Dat) :
 WFl (Ty.int i64) kept->I64 (kept.length:Int)->(decide ((kept.length:Int) > (6:Int))->dec (FewIn kept)=false)/\(decide ((kept.length:Int) > (6:Int))=false->I64 (kept.length:Int)->(∃x:Nat,(x<=kept.length/\FewTo kept x)/\kept=kept/\-1=lastI kept x/\kept=kept/\(kept.length:Int)=(kept.length:Int)/\0=(x:Int)/\kept=kept)/\∀x:Nat,x<=kept.length/\FewTo kept x->(decide
 ((x:Int)<(kept.length:Int))->(0<=(x:Int)/\(x:Int)<(kept.length:Int))/\(I64 (kept.getD x default).toInt->((decide ((kept.getD x default).toInt<=lastI kept x)||decide ((kept.getD x default).toInt>=(64:Int)))=true->dec (FewIn kept)=false)/\((decide ((kept.getD x default).toInt<=lastI kept x)||decide ((kept.getD x default).toInt>=(64:Int)))=false->∃x_1:Nat,((x_1<=kept.length/\FewTo kept
 x_1)/\kept.length-x_1<kept.length-x)/\kept=kept/\(kept.getD x default).toInt=lastI kept x_1/\kept=kept/\(kept.length:Int)=(kept.length:Int)/\i64.wrap ((x:Int)+1)=(x_1:Int)/\kept=kept)))/\(decide ((x:Int)<(kept.length:Int))=false->dec (FewIn kept)=true)):=by
 intro hw;simp only[iv,kv,fv,nm];refine fun _=>⟨fun h h2=>by have:=h2.1;omega,fun h6 _=>⟨⟨0,⟨by omega,fun i hi=>by omega⟩,rfl,rfl⟩,fun x hx=>⟨fun hlt=>⟨by omega,fun _=>⟨fun hc h2=>?_,fun hc=>⟨x+1,⟨⟨by omega,fun i hi=>?_⟩,by omega⟩,rfl,up_ok (n:=kept.length) (by omega) (by omega)⟩⟩⟩,fun hlt=>⟨by omega,fun i hi=>hx.2 i (by omega)⟩⟩⟩⟩
 · have h3:=h2.2 x (by omega);have h4:lastI kept x<iv kept x:=by
     unfold lastI;split
     · omega
     · exact h3.2.2 (by omega)
   simp only[iv] at h3 h4;omega
 · rcases Nat.lt_or_ge i x with h1 | h1
   · exact hx.2 i h1
   · rw[show i=x from by omega];unfold lastI at hc;split at hc
     · exact⟨by simp only[iv];omega,by simp only[iv];omega,fun h0=>by omega⟩
     · have h3:=(hx.2 (x-1) (by omega)).1;simp only[iv] at h3 hc ⊢;exact⟨by omega,by omega,fun h0=>by omega⟩
def iFewOk_get:List SV->St->Option Got
 | [.agg [.sl (.int .i64) kept]],⟨[],[],[]⟩=>some (True,.bool (dec (FewIn kept)),St.mk [] [] [])
 | _,_=>none
theorem iFewOk_ok:Ok0 prog 121 iFewOk_get:=by
 intro _ _ _ _ _ h hp;unfold iFewOk_get at h;split at h
 · rename_i kept;cases h;refine fl [] (fun k=>bif Nat.beq k 5 then some (.g (⟨Nat,fun s g=>hdb s [0,1,2,11,12] [(3,.int .i64 (lastI kept g)),(13,.int .i64 g)] s.bx s.rw,fun _ g=>g<=kept.length/\FewTo kept g,fun g=>kept.length-g⟩)) else none) func121 ?_;apply VC.thru (iFewOk_vc kept);kernel_rfl
 · cases h
def iFewOk_con:Con prog:=.f0 121 [] true iFewOk_get (en func121 rfl) iFewOk_ok
theorem iTopOk_vc (l:List Dat) (lost all:Int) :
 WFl TPr l->I64 lost->I64 all->((decide ((l.length:Int) > (4:Int))||(decide (lost<0)||(decide (lost > (2000:Int))||(decide (all<0)||decide (all > (2000:Int))))))=true->dec (TopIn l lost all)=false)/\((decide ((l.length:Int) > (4:Int))||(decide (lost<0)||(decide (lost > (2000:Int))||(decide (all<0)||decide (all > (2000:Int))))))=false->I64 lost->I64 (l.length:Int)->(∃x:Nat,(x<=l.length/\PairsTo l
 x)/\l=l/\lost=lost/\all=all/\i64.wrap (lost*5)=lost*5+sumN (List.take x l)/\-1=lastF (-1:Int) l x/\l=l/\(l.length:Int)=(l.length:Int)/\0=(x:Int)/\l=l/\lost=lost/\all=all)/\∀x:Nat,x<=l.length/\PairsTo l x->(decide ((x:Int)<(l.length:Int))->(0<=(x:Int)/\(x:Int)<(l.length:Int))/\((decide (((l.getD x default).f 0).toInt<=lastF (-1:Int) l x)||(decide (((l.getD x default).f 0).toInt>=(64:Int))||(decide
 (((l.getD x default).f 1).toInt<(1:Int))||decide (((l.getD x default).f 1).toInt > (2000:Int)))))=true->dec (TopIn l lost all)=false)/\((decide (((l.getD x default).f 0).toInt<=lastF (-1:Int) l x)||(decide (((l.getD x default).f 0).toInt>=(64:Int))||(decide (((l.getD x default).f 1).toInt<(1:Int))||decide (((l.getD x default).f 1).toInt > (2000:Int)))))=false->I64 ((l.getD x default).f
 0).toInt->I64 ((l.getD x default).f 1).toInt->∃x_1:Nat,((x_1<=l.length/\PairsTo l x_1)/\l.length-x_1<l.length-x)/\l=l/\lost=lost/\all=all/\i64.wrap (lost*5+sumN (List.take x l)+((l.getD x default).f 1).toInt)=lost*5+sumN (List.take x_1 l)/\((l.getD x default).f 0).toInt=lastF (-1:Int) l x_1/\l=l/\(l.length:Int)=(l.length:Int)/\i64.wrap ((x:Int)+1)=(x_1:Int)/\l=l/\lost=lost/\all=all))/\(decide
 ((x:Int)<(l.length:Int))=false->I64 all->decide (lost*5+sumN (List.take x l)<=all)=dec (TopIn l lost all))):=by
 intro hw hlo hal;simp only[iv,kv,fv,nm];refine⟨fun h h2=>by obtain⟨_,h3,h4,h5,h6,h7,_⟩:=h2;omega,fun hh _ _=>⟨⟨0,⟨by omega,fun i hi=>by omega⟩,?_,rfl,rfl⟩,fun x hx=>⟨fun hlt=>⟨by omega,fun hc h2=>?_,fun hc _ _=>⟨x+1,⟨⟨by omega,fun i hi=>?_⟩,by omega⟩,?_,rfl,up_ok (n:=l.length) (by omega) (by omega)⟩⟩,fun hlt _=>?_⟩⟩⟩
 · rw[wrap_ok (by omega) (by omega)];simp [sumN]
 · have h3:=h2.1 x (by omega);have h4:lastF (-1) l x<fv l x 0:=by
     unfold lastF;split
     · omega
     · exact h3.2.2.2.2 (by omega)
   simp only[fv] at h3 h4;omega
 · rcases Nat.lt_or_ge i x with h1 | h1
   · exact hx.2 i h1
   · rw[show i=x from by omega];unfold lastF at hc;split at hc
     · simp only[fv] at hc ⊢;exact⟨by omega,by omega,by omega,by omega,fun h0=>by omega⟩
     · have h3:=(hx.2 (x-1) (by omega)).1;simp only[fv] at h3 hc ⊢;exact⟨by omega,by omega,by omega,by omega,fun h0=>by omega⟩
 · have h3:=sumN_take hx.2 (by omega) (by omega) x (Nat.le_refl _);rw[sumN_next l x (by omega),wrap_ok (n:=lost*5+sumN (l.take x)+((l.getD x default).f 1).toInt) (by omega) (by omega)];simp only[fv];rw[wrap_ok (by omega) (by omega)];omega
 · have hxl:x=l.length:=by omega
   subst hxl;rw[List.take_length];refine dec_bool ?_;simp only[decide_eq_true_eq];constructor
   · intro h;exact⟨hx.2,by omega,by omega,by omega,by omega,by omega,by omega⟩
   · rintro⟨_,_,_,_,_,_,h⟩;omega
def iTopOk_get:List SV->St->Option Got
 | [.agg [.sl ty0 l,.int .i64 lost,.int .i64 all]],⟨[],[],[]⟩=>guardTy ty0 TPr (some (True,.bool (dec (TopIn l lost all)),St.mk [] [] []))
 | _,_=>none
theorem iTopOk_ok:Ok0 prog 123 iTopOk_get:=by
 intro _ _ _ _ _ h hp;unfold iTopOk_get at h;split at h
 · rename_i l lost all;replace h:=gT h;obtain⟨rfl,h⟩:=h;cases h;refine fl [] (fun k=>bif Nat.beq k 6 then some (.g (⟨Nat,fun s g=>hdb s [0,1,2,35,36] [(3,.int .i64 (lost*5+sumN (l.take g))),(4,.int .i64 (lastF (-1) l g)),(37,.int .i64 g)] s.bx s.rw,fun _ g=>g<=l.length/\PairsTo l g,fun g=>l.length-g⟩)) else none) func123 ?_;apply VC.thru (iTopOk_vc l lost all);kernel_rfl
 · cases h
def iTopOk_con:Con prog:=.f0 123 [] true iTopOk_get (en func123 rfl) iTopOk_ok
theorem iRankOk_vc (l:List Dat) (all:Int) :
 WFl TPr l->I64 all->((decide (all<0)||decide (all > (2000:Int)))=true->dec (RankIn l all)=false)/\((decide (all<0)||decide (all > (2000:Int)))=false->I64 (l.length:Int)->(∃x:Nat,(x<=l.length/\KnTo l all x)/\l=l/\all=all/\0=lastF (0:Int) l x/\0=sumN (List.take x l)/\l=l/\(l.length:Int)=(l.length:Int)/\0=(x:Int)/\l=l/\all=all)/\∀x:Nat,x<=l.length/\KnTo l all x->(decide
 ((x:Int)<(l.length:Int))->(0<=(x:Int)/\(x:Int)<(l.length:Int))/\((decide (((l.getD x default).f 0).toInt<=lastF (0:Int) l x)||(decide (((l.getD x default).f 0).toInt>=(128:Int))||(decide (((l.getD x default).f 1).toInt<(1:Int))||decide (((l.getD x default).f 1).toInt > (2000:Int)))))=true->dec (RankIn l all)=false)/\((decide (((l.getD x default).f 0).toInt<=lastF (0:Int) l x)||(decide (((l.getD x
 default).f 0).toInt>=(128:Int))||(decide (((l.getD x default).f 1).toInt<(1:Int))||decide (((l.getD x default).f 1).toInt > (2000:Int)))))=false->(I64 ((l.getD x default).f 0).toInt->(decide (((l.getD x default).f 0).toInt<(64:Int))->I64 ((l.getD x default).f 1).toInt->I64 all->(8:Int)≠0)/\True)/\((decide (((l.getD x default).f 0).toInt<(64:Int))&&decide (((l.getD x default).f 1).toInt > i64.wrap
 (all.tdiv (8:Int))))=true->dec (RankIn l all)=false)/\((decide (((l.getD x default).f 0).toInt<(64:Int))&&decide (((l.getD x default).f 1).toInt > i64.wrap (all.tdiv (8:Int))))=false->I64 ((l.getD x default).f 0).toInt->I64 ((l.getD x default).f 1).toInt->∃x_1:Nat,((x_1<=l.length/\KnTo l all x_1)/\l.length-x_1<l.length-x)/\l=l/\all=all/\((l.getD x default).f 0).toInt=lastF (0:Int) l x_1/\i64.wrap
 (sumN (List.take x l)+((l.getD x default).f 1).toInt)=sumN (List.take x_1 l)/\l=l/\(l.length:Int)=(l.length:Int)/\i64.wrap ((x:Int)+1)=(x_1:Int)/\l=l/\all=all)))/\(decide ((x:Int)<(l.length:Int))=false->I64 all->decide (sumN (List.take x l)=all)=dec (RankIn l all))):=by
 intro hw ha;simp only[iv,kv,fv,nm];have e8:0<=all->all<=2000->IntKind.i64.wrap (all.tdiv 8)=all / 8:=fun h1 h2=>by rw[tdiv_pos (by omega),wrap_ok (by omega) (by omega)]
 refine⟨fun h h2=>by have:=h2.1;have:=h2.2.1;omega,fun hh _=>?_⟩;rw[e8 (by omega) (by omega)];refine⟨⟨0,⟨by omega,fun i hi=>by omega⟩,rfl,rfl,rfl⟩,fun x hx=>⟨fun hlt=>⟨by omega,fun hc h2=>?_,fun hc=>⟨fun _ _ _ _=>by decide,fun hd h2=>?_,fun hd _ _=>⟨x+1,⟨⟨by omega,fun i hi=>?_⟩,by omega⟩,rfl,(sumN_next l x (by omega)).symm,up_ok (n:=l.length) (by omega) (by have:=hw.1;omega)⟩⟩⟩,fun hlt _=>?_⟩⟩
 · have h3:=h2.2.2.1 x (by omega);have h4:lastF 0 l x<fv l x 0:=by
     unfold lastF;split
     · omega
     · exact h3.2.2.2.2.1 (by omega)
   simp only[fv] at h3 h4;omega
 · have h3:=h2.2.2.1 x (by omega);simp only[fv] at h3
   have:=h3.2.2.2.2.2 hd.1
   omega
 · rcases Nat.lt_or_ge i x with h1 | h1
   · exact hx.2 i h1
   · rw[show i=x from by omega];unfold lastF at hc;split at hc
     · simp only[fv] at hc ⊢;exact⟨by omega,by omega,by omega,by omega,fun h0=>by omega,fun h0=>by omega⟩
     · have h3:=(hx.2 (x-1) (by omega)).1;simp only[fv] at h3 hc ⊢;exact⟨by omega,by omega,by omega,by omega,fun h0=>by omega,fun h0=>by omega⟩
 · have hxl:x=l.length:=by omega
   subst hxl;rw[List.take_length];refine dec_bool ?_;simp only[decide_eq_true_eq];exact⟨fun h=>⟨by omega,by omega,hx.2,h⟩,fun h=>h.2.2.2⟩
def iRankOk_get:List SV->St->Option Got
 | [.agg [.sl ty0 l,.int .i64 all]],⟨[],[],[]⟩=>guardTy ty0 TPr (some (True,.bool (dec (RankIn l all)),St.mk [] [] []))
 | _,_=>none
theorem iRankOk_ok:Ok0 prog 54 iRankOk_get:=by
 intro _ _ _ _ _ h hp;unfold iRankOk_get at h;split at h
 · rename_i l all;replace h:=gT h;obtain⟨rfl,h⟩:=h;cases h;refine fl [] (fun k=>bif Nat.beq k 5 then some (.g (⟨Nat,fun s g=>hdb s [0,1,2,16,17] [(3,.int .i64 (lastF 0 l g)),(4,.int .i64 (sumN (l.take g))),(18,.int .i64 g)] s.bx s.rw,fun _ g=>g<=l.length/\KnTo l all g,fun g=>l.length-g⟩)) else none) func54 ?_;apply VC.thru (iRankOk_vc l all);kernel_rfl
 · cases h
def iRankOk_con:Con prog:=.f0 54 [] true iRankOk_get (en func54 rfl) iRankOk_ok
theorem ints_ext {a b:List Dat} (ha:WFl (.int .i64) a) (hb:WFl (.int .i64) b) (hl:a.length=b.length) (h:∀k,k<a.length->iv a k=iv b k):a=b:=
 list_ext_getD hl (fun i hi=>by
   have h1:=(wf_int (wfl_get ha hi)).1;have h2:=(wf_int (wfl_get hb (i:=i) (by omega))).1;have h3:=h i hi;simp only[iv] at h3;rw[h1,h2,h3])
theorem prs_ext {a b:List Dat} (ha:WFl (.st [.int .i64,.int .i64]) a) (hb:WFl (.st [.int .i64,.int .i64]) b) (hl:a.length=b.length) (h:∀k,k<a.length->fv a k 0=fv b k 0/\fv a k 1=fv b k 1):a=b:=
 list_ext_getD hl (fun i hi=>by
   have h1:=(wf_pr (wfl_get ha hi)).1;have h2:=(wf_pr (wfl_get hb (i:=i) (by omega))).1;have h3:=h i hi;simp only[fv] at h3;rw[h1,h2,h3.1,h3.2])
theorem iEqInts_vc (a b:List Dat) :
 WFl (Ty.int i64) a->WFl (Ty.int i64) b->I64 (a.length:Int)->I64 (b.length:Int)->(decide ((a.length:Int)≠(b.length:Int))->dec (a=b)=false)/\(decide ((a.length:Int)≠(b.length:Int))=false->I64 (a.length:Int)->(∃x:Nat,(x<=a.length/\∀k:Nat,k<x->iv a k=iv b k)/\a=a/\b=b/\(a.length:Int)=(a.length:Int)/\0=(x:Int))/\∀x:Nat,(x<=a.length/\∀k:Nat,k<x->iv a k=iv b k)->(decide
 ((x:Int)<(a.length:Int))->(0<=(x:Int)/\(x:Int)<(a.length:Int))/\(I64 (a.getD x default).toInt->(0<=(x:Int)/\(x:Int)<(b.length:Int))/\(I64 (b.getD x default).toInt->(decide ((a.getD x default).toInt≠(b.getD x default).toInt)->dec (a=b)=false)/\(decide ((a.getD x default).toInt≠(b.getD x default).toInt)=false->∃x_1:Nat,((x_1<=a.length/\∀k:Nat,k<x_1->iv a k=iv b
 k)/\a.length-x_1<a.length-x)/\a=a/\b=b/\(a.length:Int)=(a.length:Int)/\i64.wrap ((x:Int)+1)=(x_1:Int)))))/\(decide ((x:Int)<(a.length:Int))=false->dec (a=b)=true)):=by
 intro hwa hwb;simp only[iv,kv,fv,nm];have h1:=hwa.1;refine fun _ _=>⟨fun h e=>h (by rw[e]),fun hl _=>⟨⟨0,⟨by omega,fun k hk=>by omega⟩,rfl⟩,fun x hx=>⟨fun hlt=>⟨by omega,fun _=>⟨by omega,fun _=>⟨fun h e=>h (by rw[e]),fun h=>⟨x+1,⟨⟨by omega,fun k hk=>?_⟩,by omega⟩,up_ok (n:=a.length) (by omega) (by omega)⟩⟩⟩⟩,fun hlt=>ints_ext hwa hwb (by omega) (fun k hk=>hx.2 k (by omega))⟩⟩⟩
 rcases Nat.lt_or_ge k x with h2 | h2
 · exact hx.2 k h2
 · rw[show k=x from by omega];exact h
def iEqInts_get:List SV->St->Option Got
 | [.sl (.int .i64) a,.sl (.int .i64) b],⟨[],[],[]⟩=>some (True,.bool (dec (a=b)),St.mk [] [] [])
 | _,_=>none
theorem iEqInts_ok:Ok0 prog 204 iEqInts_get:=by
 intro _ _ _ _ _ h hp;unfold iEqInts_get at h;split at h
 · rename_i a b;cases h;refine fl [] (fun k=>bif Nat.beq k 4 then some (.g (⟨Nat,fun s g=>hdb s [0,1,4,12] [(13,.int .i64 g)] s.bx s.rw,fun _ g=>g<=a.length/\∀k,k<g->iv a k=iv b k,fun g=>a.length-g⟩)) else none) func204 ?_;apply VC.thru (iEqInts_vc a b);kernel_rfl
 · cases h
def iEqInts_con:Con prog:=.f0 204 [] true iEqInts_get (en func204 rfl) iEqInts_ok
theorem iEqPairs_vc (a b:List Dat) :
 WFl TPr a->WFl TPr b->I64 (a.length:Int)->I64 (b.length:Int)->(decide ((a.length:Int)≠(b.length:Int))->dec (a=b)=false)/\(decide ((a.length:Int)≠(b.length:Int))=false->I64 (a.length:Int)->(∃x:Nat,(x<=a.length/\∀k:Nat,k<x->fv a k 0=fv b k 0/\fv a k 1=fv b k 1)/\a=a/\b=b/\(a.length:Int)=(a.length:Int)/\0=(x:Int))/\∀x:Nat,(x<=a.length/\∀k:Nat,k<x->fv a k 0=fv b k 0/\fv a k 1=fv b k 1)->(decide
 ((x:Int)<(a.length:Int))->(0<=(x:Int)/\(x:Int)<(a.length:Int))/\(0<=(x:Int)/\(x:Int)<(b.length:Int))/\((!(decide (((a.getD x default).f 0).toInt=((b.getD x default).f 0).toInt)&&(decide (((a.getD x default).f 1).toInt=((b.getD x default).f 1).toInt)&&true)))=true->dec (a=b)=false)/\((!(decide (((a.getD x default).f 0).toInt=((b.getD x default).f 0).toInt)&&(decide (((a.getD x default).f
 1).toInt=((b.getD x default).f 1).toInt)&&true)))=false->∃x_1:Nat,((x_1<=a.length/\∀k:Nat,k<x_1->fv a k 0=fv b k 0/\fv a k 1=fv b k 1)/\a.length-x_1<a.length-x)/\a=a/\b=b/\(a.length:Int)=(a.length:Int)/\i64.wrap ((x:Int)+1)=(x_1:Int)))/\(decide ((x:Int)<(a.length:Int))=false->dec (a=b)=true)):=by
 intro hwa hwb;simp only[iv,kv,fv,nm];have h1:=hwa.1;refine fun _ _=>⟨fun h e=>h (by rw[e]),fun hl _=>⟨⟨0,⟨by omega,fun k hk=>by omega⟩,rfl⟩,fun x hx=>⟨fun hlt=>⟨by omega,by omega,fun h e=>?_,fun h=>⟨x+1,⟨⟨by omega,fun k hk=>?_⟩,by omega⟩,up_ok (n:=a.length) (by omega) (by omega)⟩⟩,fun hlt=>prs_ext hwa hwb (by omega) (fun k hk=>hx.2 k (by omega))⟩⟩⟩
 · subst e;rcases h with h | h | h
   · exact h rfl
   · exact h rfl
   · cases h
 · rcases Nat.lt_or_ge k x with h2 | h2
   · exact hx.2 k h2
   · rw[show k=x from by omega];exact h
def iEqPairs_get:List SV->St->Option Got
 | [.sl ty0 a,.sl ty1 b],⟨[],[],[]⟩=>guardTy ty0 TPr (guardTy ty1 TPr (some (True,.bool (dec (a=b)),St.mk [] [] [])))
 | _,_=>none
theorem iEqPairs_ok:Ok0 prog 205 iEqPairs_get:=by
 intro _ _ _ _ _ h hp;unfold iEqPairs_get at h;split at h
 · rename_i a _ b;replace h:=gT2 h;obtain⟨rfl,rfl,h⟩:=h;cases h;refine fl [] (fun k=>bif Nat.beq k 4 then some (.g (⟨Nat,fun s g=>hdb s [0,1,4,12] [(13,.int .i64 g)] s.bx s.rw,fun _ g=>g<=a.length/\∀k,k<g->fv a k 0=fv b k 0/\fv a k 1=fv b k 1,fun g=>a.length-g⟩)) else none) func205 ?_;apply VC.thru (iEqPairs_vc a b);kernel_rfl
 · cases h
def iEqPairs_con:Con prog:=.f0 205 [] true iEqPairs_get (en func205 rfl) iEqPairs_ok
theorem iEqKnots_vc (a b:List Dat) :
 WFl TPr a->WFl TPr b->I64 (a.length:Int)->I64 (b.length:Int)->(decide ((a.length:Int)≠(b.length:Int))->dec (a=b)=false)/\(decide ((a.length:Int)≠(b.length:Int))=false->I64 (a.length:Int)->(∃x:Nat,(x<=a.length/\∀k:Nat,k<x->fv a k 0=fv b k 0/\fv a k 1=fv b k 1)/\a=a/\b=b/\(a.length:Int)=(a.length:Int)/\0=(x:Int))/\∀x:Nat,(x<=a.length/\∀k:Nat,k<x->fv a k 0=fv b k 0/\fv a k 1=fv b k 1)->(decide
 ((x:Int)<(a.length:Int))->(0<=(x:Int)/\(x:Int)<(a.length:Int))/\(0<=(x:Int)/\(x:Int)<(b.length:Int))/\((!(decide (((a.getD x default).f 0).toInt=((b.getD x default).f 0).toInt)&&(decide (((a.getD x default).f 1).toInt=((b.getD x default).f 1).toInt)&&true)))=true->dec (a=b)=false)/\((!(decide (((a.getD x default).f 0).toInt=((b.getD x default).f 0).toInt)&&(decide (((a.getD x default).f
 1).toInt=((b.getD x default).f 1).toInt)&&true)))=false->∃x_1:Nat,((x_1<=a.length/\∀k:Nat,k<x_1->fv a k 0=fv b k 0/\fv a k 1=fv b k 1)/\a.length-x_1<a.length-x)/\a=a/\b=b/\(a.length:Int)=(a.length:Int)/\i64.wrap ((x:Int)+1)=(x_1:Int)))/\(decide ((x:Int)<(a.length:Int))=false->dec (a=b)=true)):=by
 intro hwa hwb;simp only[iv,kv,fv,nm];have h1:=hwa.1;refine fun _ _=>⟨fun h e=>h (by rw[e]),fun hl _=>⟨⟨0,⟨by omega,fun k hk=>by omega⟩,rfl⟩,fun x hx=>⟨fun hlt=>⟨by omega,by omega,fun h e=>?_,fun h=>⟨x+1,⟨⟨by omega,fun k hk=>?_⟩,by omega⟩,up_ok (n:=a.length) (by omega) (by omega)⟩⟩,fun hlt=>prs_ext hwa hwb (by omega) (fun k hk=>hx.2 k (by omega))⟩⟩⟩
 · subst e;rcases h with h | h | h
   · exact h rfl
   · exact h rfl
   · cases h
 · rcases Nat.lt_or_ge k x with h2 | h2
   · exact hx.2 k h2
   · rw[show k=x from by omega];exact h
def iEqKnots_get:List SV->St->Option Got
 | [.sl ty0 a,.sl ty1 b],⟨[],[],[]⟩=>guardTy ty0 TPr (guardTy ty1 TPr (some (True,.bool (dec (a=b)),St.mk [] [] [])))
 | _,_=>none
theorem iEqKnots_ok:Ok0 prog 206 iEqKnots_get:=by
 intro _ _ _ _ _ h hp;unfold iEqKnots_get at h;split at h
 · rename_i a _ b;replace h:=gT2 h;obtain⟨rfl,rfl,h⟩:=h;cases h;refine fl [] (fun k=>bif Nat.beq k 4 then some (.g (⟨Nat,fun s g=>hdb s [0,1,4,12] [(13,.int .i64 g)] s.bx s.rw,fun _ g=>g<=a.length/\∀k,k<g->fv a k 0=fv b k 0/\fv a k 1=fv b k 1,fun g=>a.length-g⟩)) else none) func206 ?_;apply VC.thru (iEqKnots_vc a b);kernel_rfl
 · cases h
def iEqKnots_con:Con prog:=.f0 206 [] true iEqKnots_get (en func206 rfl) iEqKnots_ok
theorem rows_ext {a b:List Dat} (ha:WFl (.sl (.int .i64)) a) (hb:WFl (.sl (.int .i64)) b) (hl:a.length=b.length) (h:∀k,k<a.length->kv a k=kv b k):a=b:=
 list_ext_getD hl (fun i hi=>by
   have h1:=(wf_sl (wfl_get ha hi)).2;have h2:=(wf_sl (wfl_get hb (i:=i) (by omega))).2;have h3:=h i hi;simp only[kv] at h3;rw[h1,h2,h3])
theorem iEqRows_vc (a b:List Dat) :
 WFl (Ty.int i64).sl a->WFl (Ty.int i64).sl b->I64 (a.length:Int)->I64 (b.length:Int)->(decide ((a.length:Int)≠(b.length:Int))->dec (a=b)=false)/\(decide ((a.length:Int)≠(b.length:Int))=false->I64 (a.length:Int)->(∃x:Nat,(x<=a.length/\∀k:Nat,k<x->kv a k=kv b k)/\a=a/\b=b/\a=a/\(a.length:Int)=(a.length:Int)/\0=(x:Int))/\∀x:Nat,(x<=a.length/\∀k:Nat,k<x->kv a k=kv b k)->(decide
 ((x:Int)<(a.length:Int))->(0<=(x:Int)/\(x:Int)<(a.length:Int))/\(0<=(x:Int)/\(x:Int)<(b.length:Int))/\True/\((!dec ((a.getD x default).kids=(b.getD x default).kids))=true->dec (a=b)=false)/\((!dec ((a.getD x default).kids=(b.getD x default).kids))=false->∃x_1:Nat,((x_1<=a.length/\∀k:Nat,k<x_1->kv a k=kv b k)/\a.length-x_1<a.length-x)/\a=a/\b=b/\a=a/\(a.length:Int)=(a.length:Int)/\i64.wrap
 ((x:Int)+1)=(x_1:Int)))/\(decide ((x:Int)<(a.length:Int))=false->dec (a=b)=true)):=by
 intro hwa hwb;simp only[iv,kv,fv,nm];have h1:=hwa.1;refine fun _ _=>⟨fun h e=>h (by rw[e]),fun hl _=>⟨⟨0,⟨by omega,fun k hk=>by omega⟩,rfl⟩,fun x hx=>⟨fun hlt=>⟨by omega,by omega,fun h e=>h (by rw[e]),fun h=>⟨x+1,⟨⟨by omega,fun k hk=>?_⟩,by omega⟩,up_ok (n:=a.length) (by omega) (by omega)⟩⟩,fun hlt=>rows_ext hwa hwb (by omega) (fun k hk=>hx.2 k (by omega))⟩⟩⟩
 rcases Nat.lt_or_ge k x with h2 | h2
 · exact hx.2 k h2
 · rw[show k=x from by omega];exact h
def iEqRows_get:List SV->St->Option Got
 | [.sl (.sl (.int .i64)) a,.sl (.sl (.int .i64)) b,.fn 204 []],⟨[],[],[]⟩=>some (True,.bool (dec (a=b)),St.mk [] [] [])
 | _,_=>none
theorem iEqRows_ok:Ok0 prog 203 iEqRows_get:=by
 intro _ _ _ _ _ h hp;unfold iEqRows_get at h;split at h
 · rename_i a b;cases h;refine fl [iEqInts_con] (fun k=>bif Nat.beq k 4 then some (.g (⟨Nat,fun s g=>hdb s [0,1,2,6,15,16] [(17,.int .i64 g)] s.bx s.rw,fun _ g=>g<=a.length/\∀k,k<g->kv a k=kv b k,fun g=>a.length-g⟩)) else none) func203 ?_;apply VC.thru (iEqRows_vc a b);kernel_rfl
 · cases h
def iEqRows_con:Con prog:=.f0 203 [] true iEqRows_get (en func203 rfl) iEqRows_ok
theorem sumW_ints (l:List Dat):sumW l=(ints l).foldl (fun n x=>IntKind.i64.wrap (n+x)) 0:=by
 unfold sumW ints;rw[List.foldl_map]
theorem fold_sum {l:List Int} (h:∀x∈l,0<=x/\x<=100000):∀a:Int,0<=a->a+100000*l.length<=1000000000000->l.foldl (fun n x=>IntKind.i64.wrap (n+x)) a=a+l.sum:=by
 induction l with
 | nil=>intro a _ _;simp
 | cons x l ih=>
   intro a h0 h1;have hx:=h x (List.mem_cons_self ..);simp only[List.length_cons] at h1;rw[List.foldl_cons,wrap_ok (by omega) (by omega),ih (fun y hy=>h y (List.mem_cons_of_mem _ hy)) _ (by omega) (by omega),List.sum_cons];omega
theorem sumW_sum {l:List Dat} (hl:l.length<=1000000) (h:∀x∈ints l,0<=x/\x<=100000):sumW l=(ints l).sum:=by
 rw[sumW_ints,fold_sum h 0 (by omega) (by rw[ints_length];omega),Int.zero_add]
theorem mem_ints {l:List Dat} {x:Int} (h:x∈ints l):∃k,k<l.length/\iv l k=x:=by
 rw[<- List.take_length (l:=l)] at h;exact mem_take (Nat.le_refl _) h
theorem RowIn.sum_eq {l:List Dat} (h:RowIn l):sumW l=(ints l).sum:=sumW_sum (by have:=h.1;omega) (fun x hx=>by
 obtain⟨k,hk,rfl⟩:=mem_ints hx
 have:=h.2 k (by have:=h.1;omega)
 omega)
theorem kv_tab {n:Nat} {f:Nat->List Dat} {i:Nat} (h:i<n):kv (tab n fun i=>.node (f i)) i=f i:=by simp only[kv];rw[tab_getD h];rfl
theorem row_add {l:List Dat} (h:RowIn l) {p:Nat} (hp:p<8) {n:Int} (h0:0<=n) (hs:sumW l+n<=2000):RowIn (tab 8 fun k=>.int (iv l k+if (k:Int)=(p:Int) then n else 0))/\sumW (tab 8 fun k=>.int (iv l k+if (k:Int)=(p:Int) then n else 0))=sumW l+n:=by
 have e:ints (tab 8 fun k=>.int (iv l k+if (k:Int)=(p:Int) then n else 0))=(ints l).set p (gt (ints l) p+n):=by
   apply List.ext_getElem
   · rw[ints_length,tab_length,List.length_set,ints_length,h.1]
   · intro k h1 h2;rw[ints_length,tab_length] at h1;rw[<- iv_lt (by rw[tab_length];exact h1)];simp only[iv];rw[tab_getD h1,List.getElem_set];have hk:iv l k=(ints l)[k]'(by rw[ints_length,h.1];exact h1):=iv_lt (by rw[h.1];exact h1);simp only[iv] at hk;by_cases e:p=k
     · subst e;rw[if_pos rfl,if_pos rfl,gt_lt (by rw[ints_length,h.1];exact h1),<- hk];rfl
     · rw[if_neg (by omega),if_neg e,<- hk];exact Int.add_zero _
 have hmem:∀x∈ints l,0<=x/\x<=2000:=fun x hx=>by
   obtain⟨k,hk,rfl⟩:=mem_ints hx;exact h.2 k (by have:=h.1;omega)
 have hg:=hmem _ (gt_mem (a:=ints l) (i:=p) (by rw[ints_length,h.1];exact hp));have hsum:((ints l).set p (gt (ints l) p+n)).sum=(ints l).sum+n:=by
   rw[sum_set (by rw[ints_length,h.1];exact hp)];omega
 have hnn:∀x∈(ints l).set p (gt (ints l) p+n),0<=x:=fun x hx=>by
   rcases List.mem_or_eq_of_mem_set hx with h1 | h1
   · exact (hmem x h1).1
   · omega
 rw[h.sum_eq] at hs ⊢;have hle:∀x∈(ints l).set p (gt (ints l) p+n),x<=2000:=fun x hx=>by have:=le_sum hnn hx;omega
 refine⟨⟨by rw[tab_length],fun k hk=>?_⟩,?_⟩
 · have:iv (tab 8 fun k=>.int (iv l k+if (k:Int)=(p:Int) then n else 0)) k∈(ints l).set p (gt (ints l) p+n):=by
     rw[<- e,iv_lt (by rw[tab_length];exact hk)];exact List.getElem_mem _
   exact⟨hnn _ this,hle _ this⟩
 · rw[sumW_sum (by rw[tab_length];omega) (fun x hx=>by rw[e] at hx;exact⟨hnn x hx,by have:=hle x hx;omega⟩),e,hsum]
theorem rough_add {rows:List Dat} (h:RoughIn rows) {t n:Int} (h0:0<=n) (hs:n+sumW (kv rows 0)<=2000):RoughIn (roughAdd rows t n)/\sumW (kv (roughAdd rows t n) 0)=sumW (kv rows 0)+n:=by
 have key:∀i,i<3->RowIn (kv (roughAdd rows t n) i)/\sumW (kv (roughAdd rows t n) i)=sumW (kv rows i)+n:=by
   intro i hi;unfold roughAdd;rw[kv_tab hi];have hp:=place_lt i t;have hr:=h.2 i hi;obtain⟨p,hp2⟩:=Int.eq_ofNat_of_zero_le hp.1;rw[hp2];exact row_add hr.1 (by omega) h0 (by rw[hr.2.1];omega)
 refine⟨⟨by simp [roughAdd],fun i hi=>⟨(key i hi).1,?_,?_⟩⟩,(key 0 (by omega)).2⟩
 · rw[(key i hi).2,(key 0 (by omega)).2,(h.2 i hi).2.1]
 · rw[(key i hi).2,(h.2 i hi).2.1];omega
theorem rough_zero:RoughIn roughZero/\sumW (kv roughZero 0)=0:=by
 have key:∀i,i<3->kv roughZero i=tab 8 fun _=>.int 0:=fun i hi=>kv_tab hi
 have hrow:RowIn (tab 8 fun _=>.int 0):=⟨by simp,fun k hk=>by simp only[iv];rw[tab_getD hk];exact⟨Int.le_refl _,by decide⟩⟩;have hs:sumW (tab 8 fun _=>.int 0)=0:=by decide
 refine⟨⟨by simp [roughZero],fun i hi=>?_⟩,by rw[key 0 (by omega)];exact hs⟩;rw[key i hi,key 0 (by omega),hs];exact⟨hrow,rfl,by decide⟩
def FewT (l:List Int):Prop:=l.length<=6/\l.Pairwise (· < ·)/\∀x∈l,0<=x/\x<=63
theorem few_t {kept:List Dat}:FewIn kept ↔ FewT (ints kept):=by
 constructor
 · rintro⟨h1,h2⟩;refine⟨by rw[ints_length];exact h1,?_,fun x hx=>?_⟩
   · rw[List.pairwise_iff_getElem];intro i j hi hj hij;rw[ints_length] at hi hj;rw[<- iv_lt hi,<- iv_lt hj];exact few_asc h2 j i hij hj
   · obtain⟨k,hk,rfl⟩:=mem_ints hx
     have:=h2 k hk
     exact⟨this.1,this.2.1⟩
 · rintro⟨h1,h2,h3⟩;rw[ints_length] at h1;refine⟨h1,fun i hi=>?_⟩;have hm:iv kept i∈ints kept:=by rw[iv_lt hi];exact List.getElem_mem _
   refine⟨(h3 _ hm).1,(h3 _ hm).2,fun h0=>?_⟩;rw[List.pairwise_iff_getElem] at h2
   have:=h2 (i-1) i (by rw[ints_length];omega) (by rw[ints_length];exact hi) (by omega)
   rw[<- iv_lt (by omega),<- iv_lt hi] at this;exact this
theorem mark_range (t:Int):0<=mark t/\mark t<=63:=by unfold mark;omega
theorem few_put {l:List Int} (h:FewT l) {m:Int} (hm:0<=m/\m<=63):FewT (fewPut l m):=by
 have hs:=List.take_sublist 6 (fewPre l m true);refine⟨by unfold fewPut;rw[List.length_take];omega,List.Pairwise.sublist hs ?_,fun x hx=>?_⟩
 · simp only[fewPre,if_true];rw[List.pairwise_append,List.pairwise_cons];refine⟨h.2.1.filter _,⟨fun x hx=>?_,h.2.1.filter _⟩,fun x hx y hy=>?_⟩
   · simpa using (List.mem_filter.1 hx).2
   · have h1:x<m:=by simpa using (List.mem_filter.1 hx).2
     rcases List.mem_cons.1 hy with rfl | hy
     · exact h1
     · have h2:m<y:=by simpa using (List.mem_filter.1 hy).2
       omega
 · have hx:=hs.subset hx;simp only[fewPre,if_true,List.mem_append,List.mem_cons,List.mem_filter] at hx;rcases hx with hx | rfl | hx
   · exact h.2.2 x hx.1
   · exact hm
   · exact h.2.2 x hx.1
theorem few_pos (l:List Int) (m:Int):0<(fewPut l m).length:=by
 unfold fewPut;rw[List.length_take]
 have:0<(fewPre l m true).length:=by simp [fewPre];omega
 omega
def sumP (l:List (Int×Int)):Int:=(l.map (·.2)).sum
@[simp] theorem sumP_nil:sumP []=0:=rfl
@[simp] theorem sumP_cons (p:Int×Int) (l:List (Int×Int)):sumP (p::l)=p.2+sumP l:=by simp [sumP]
@[simp] theorem sumP_append (l m:List (Int×Int)):sumP (l++m)=sumP l+sumP m:=by simp [sumP]
theorem sumP_nonneg {l:List (Int×Int)} (h:∀p∈l,0<=p.2):0<=sumP l:=by
 induction l with
 | nil=>simp
 | cons p l ih=>
   have:=ih (fun q hq=>h q (List.mem_cons_of_mem _ hq))
   have:=h p (List.mem_cons_self ..)
   simp;omega
theorem le_sumP {l:List (Int×Int)} (h:∀p∈l,0<=p.2) {p:Int×Int} (hp:p∈l):p.2<=sumP l:=by
 induction l with
 | nil=>cases hp
 | cons q l ih=>
   have h0:=sumP_nonneg (fun r hr=>h r (List.mem_cons_of_mem _ hr));have hq:=h q (List.mem_cons_self ..);rcases List.mem_cons.1 hp with rfl | hp
   · simp;omega
   · have:=ih (fun r hr=>h r (List.mem_cons_of_mem _ hr)) hp
     simp;omega
theorem sumN_prs (l:List Dat):sumN l=(prs l).foldl (fun n p=>IntKind.i64.wrap (n+p.2)) 0:=by
 unfold sumN prs;rw[List.foldl_map]
theorem foldN_sum {l:List (Int×Int)} (h:∀p∈l,0<=p.2/\p.2<=100000):∀a:Int,0<=a->a+100000*l.length<=1000000000000->l.foldl (fun n p=>IntKind.i64.wrap (n+p.2)) a=a+sumP l:=by
 induction l with
 | nil=>intro a _ _;simp
 | cons p l ih=>
   intro a h0 h1;have hx:=h p (List.mem_cons_self ..);simp only[List.length_cons] at h1;rw[List.foldl_cons,wrap_ok (by omega) (by omega),ih (fun y hy=>h y (List.mem_cons_of_mem _ hy)) _ (by omega) (by omega),sumP_cons];omega
theorem sumN_sum {l:List Dat} (hl:l.length<=1000000) (h:∀p∈prs l,0<=p.2/\p.2<=100000):sumN l=sumP (prs l):=by
 rw[sumN_prs,foldN_sum h 0 (by omega) (by rw[prs_length];omega),Int.zero_add]
abbrev Asc (l:List (Int×Int)):Prop:=l.Pairwise (fun p q=>p.1<q.1)
theorem asc_of {l:List Dat} (h:∀i j,i<j->j<l.length->fv l i 0<fv l j 0):Asc (prs l):=by
 rw[Asc,List.pairwise_iff_getElem];intro i j hi hj hij;rw[prs_length] at hi hj;have e:∀k (hk:k<l.length),((prs l)[k]'(by rw[prs_length];exact hk)).1=fv l k 0:=fun k hk=>by
   simp [prs,fv,List.getD_eq_getElem?_getD,List.getElem?_eq_getElem hk]
 rw[e i hi,e j hj];exact h i j hij hj
theorem asc_get {l:List (Int×Int)} (h:Asc l) {i:Nat} (hi:i<l.length) (h0:0<i):fv (dPrs l) (i-1) 0<fv (dPrs l) i 0:=by
 rw[(fv_dPrs l i hi).1,(fv_dPrs l (i-1) (by omega)).1];rw[Asc,List.pairwise_iff_getElem] at h;exact h (i-1) i (by omega) hi (by omega)
def TopT (l:List (Int×Int)) (lost all:Int):Prop:=Asc l/\(∀p∈l,0<=p.1/\p.1<=63/\1<=p.2/\p.2<=2000)/\l.length<=4/\0<=all/\all<=2000/\0<=lost/\lost<=2000/\sumP l+5*lost<=all
theorem top_t {l:List Dat} {lost all:Int} (h:TopIn l lost all):TopT (prs l) lost all:=by
 obtain⟨h1,h2,h3,h4,h5,h6,h7⟩:=h;refine⟨asc_of (fun i j hij hj=>pairs_asc h1 j i hij hj),fun p hp=>pairs_mem h1 hp,by rw[prs_length];exact h2,h3,h4,h5,h6,?_⟩;rw[<- sumN_sum (by omega) (fun p hp=>by have:=pairs_mem h1 hp;omega)];exact h7
theorem top_d {l:List (Int×Int)} {lost all:Int} (h:TopT l lost all):TopIn (dPrs l) lost all:=by
 obtain⟨h1,h2,h3,h4,h5,h6,h7,h8⟩:=h;refine⟨fun i hi=>?_,by rw[dPrs_length];exact h3,h4,h5,h6,h7,?_⟩
 · rw[dPrs_length] at hi;have hm:=h2 _ (List.getElem_mem hi);have e:=fv_dPrs l i hi;rw[e.1,e.2];exact⟨hm.1,hm.2.1,hm.2.2.1,hm.2.2.2,fun h0=>by rw[<- e.1];exact asc_get h1 hi h0⟩
 · rw[sumN_sum (by rw[dPrs_length];omega) (fun p hp=>by rw[prs_dPrs] at hp;have:=h2 p hp;omega),prs_dPrs];exact h8
theorem sum_parts (l:List (Int×Int)) (t:Int):sumP l=sumP (l.filter (fun p=>decide (p.1<t)))+numOf l t+sumP (l.filter (fun p=>decide (t<p.1))):=by
 induction l with
 | nil=>rfl
 | cons p l ih=>
   rw[sumP_cons,ih];unfold numOf;rcases Int.lt_trichotomy p.1 t with h | h | h
   · have h2:¬p.1=t:=by omega
     have h3:¬t<p.1:=by omega
     simp [h,h2,h3];omega
   · have h2:¬p.1<t:=by omega
     have h3:¬t<p.1:=by omega
     simp only[List.filter_cons,h2,h3,decide_false,decide_eq_true h,if_true,Bool.false_eq_true,if_false,List.map_cons,List.sum_cons];omega
   · have h2:¬p.1<t:=by omega
     have h3:¬p.1=t:=by omega
     simp [h,h2,h3];omega
theorem len_parts (l:List (Int×Int)) (t:Int):(l.filter (fun p=>decide (p.1<t))).length+(l.filter (fun p=>decide (t<p.1))).length<=l.length:=by
 induction l with
 | nil=>simp
 | cons p l ih=>
   rcases Int.lt_trichotomy p.1 t with h | h | h
   · have h3:¬t<p.1:=by omega
     simp [h,h3];omega
   · have h2:¬p.1<t:=by omega
     have h3:¬t<p.1:=by omega
     simp only[List.filter_cons,h2,h3,decide_false,Bool.false_eq_true,if_false,List.length_cons];omega
   · have h2:¬p.1<t:=by omega
     simp [h,h2];omega
theorem top_put {l:List (Int×Int)} (ha:Asc l) (hr:∀p∈l,0<=p.1/\p.1<=63/\1<=p.2) {t n:Int} (ht:0<=t/\t<=63) (hn:1<=n) :
   Asc (topPut l (t,n))/\(∀p∈topPut l (t,n),0<=p.1/\p.1<=63/\1<=p.2)/\sumP (topPut l (t,n))=sumP l+n/\(topPut l (t,n)).length<=l.length+1:=by
 have hnum:0<=numOf l t:=by
   unfold numOf;exact sumP_nonneg (l:=l.filter _) (fun p hp=>by have:=hr p (List.mem_filter.1 hp).1;omega)
 simp only[topPut,topPre,if_true];refine⟨?_,fun p hp=>?_,?_,?_⟩
 · rw[Asc,List.pairwise_append,List.pairwise_cons];refine⟨ha.filter _,⟨fun x hx=>?_,ha.filter _⟩,fun x hx y hy=>?_⟩
   · simpa using (List.mem_filter.1 hx).2
   · have h1:x.1<t:=by simpa using (List.mem_filter.1 hx).2
     rcases List.mem_cons.1 hy with rfl | hy
     · exact h1
     · have h2:t<y.1:=by simpa using (List.mem_filter.1 hy).2
       omega
 · simp only[List.mem_append,List.mem_cons,List.mem_filter] at hp;rcases hp with hp | rfl | hp
   · exact hr p hp.1
   · exact⟨ht.1,ht.2,by simp only;omega⟩
   · exact hr p hp.1
 · rw[sumP_append,sumP_cons,sum_parts l t];simp only;omega
 · have:=len_parts l t
   simp only[List.length_append,List.length_cons];omega
theorem overOf_ge (l:List (Int×Int)):∀(m:List (Int×Int)) (b:Int),b<=m.foldl (fun b p=>if 4<more l p.2 then max b p.2 else b) b/\∀p∈m,4<more l p.2->p.2<=m.foldl (fun b p=>if 4<more l p.2 then max b p.2 else b) b:=by
 intro m
 induction m with
 | nil=>intro b;exact⟨Int.le_refl _,fun p hp=>by cases hp⟩
 | cons q m ih=>
   intro b;simp only[List.foldl_cons];obtain⟨h1,h2⟩:=ih (if 4<more l q.2 then max b q.2 else b);have h3:b<=(if 4<more l q.2 then max b q.2 else b):=by split<;>omega
   refine⟨by omega,fun p hp hm=>?_⟩;rcases List.mem_cons.1 hp with rfl | hp
   · rw[if_pos hm] at h1 ⊢;omega
   · exact h2 p hp hm
theorem over_ge {l:List (Int×Int)} {p:Int×Int} (hp:p∈l) (hm:4<more l p.2):p.2<=over l:=(overOf_ge l l 0).2 p hp hm
theorem over_nonneg (l:List (Int×Int)):0<=over l:=(overOf_ge l l 0).1
theorem overOf_at (l:List (Int×Int)):∀(m:List (Int×Int)) (b:Int),m.foldl (fun b p=>if 4<more l p.2 then max b p.2 else b) b=b\/∃p∈m,4<more l p.2/\m.foldl (fun b p=>if 4<more l p.2 then max b p.2 else b) b=p.2:=by
 intro m
 induction m with
 | nil=>intro b;exact .inl rfl
 | cons q m ih=>
   intro b;simp only[List.foldl_cons];rcases ih (if 4<more l q.2 then max b q.2 else b) with h | ⟨p,hp,hm,h⟩
   · rw[h];split
     · rename_i hq;rcases Int.le_total b q.2 with hb | hb
       · exact .inr ⟨q,List.mem_cons_self ..,hq,by omega⟩
       · exact .inl (by omega)
     · exact .inl rfl
   · exact .inr ⟨p,List.mem_cons_of_mem _ hp,hm,h⟩
theorem over_at (l:List (Int×Int)):over l=0\/∃p∈l,4<more l p.2/\over l=p.2:=overOf_at l l 0
theorem least {l:List (Int×Int)} (h:l≠[]):∃p∈l,∀q∈l,p.2<=q.2:=by
 induction l with
 | nil=>exact absurd rfl h
 | cons x l ih=>
   by_cases hl:l=[]
   · subst hl;exact⟨x,List.mem_cons_self ..,fun q hq=>by rw[List.mem_singleton.1 hq];exact Int.le_refl _⟩
   · obtain⟨p,hp,hq⟩:=ih hl;rcases Int.le_total x.2 p.2 with h1 | h1
     · exact⟨x,List.mem_cons_self ..,fun q h2=>by
         rcases List.mem_cons.1 h2 with rfl | h2
         · exact Int.le_refl _
         · have:=hq q h2;omega⟩
     · exact⟨p,List.mem_cons_of_mem _ hp,fun q h2=>by
         rcases List.mem_cons.1 h2 with rfl | h2
         · exact h1
         · exact hq q h2⟩
theorem few_over (l:List (Int×Int)):(l.filter (fun p=>decide (over l<p.2))).length<=4:=by
 rcases Nat.lt_or_ge 4 (l.filter (fun p=>decide (over l<p.2))).length with h | h
 · exfalso;obtain⟨p,hp,hq⟩:=least (l:=l.filter (fun p=>decide (over l<p.2))) (fun e=>by rw[e] at h;simp at h);have hp':=List.mem_filter.1 hp;have h1:over l<p.2:=by simpa using hp'.2
   have hm:4<more l p.2:=by
     refine Nat.lt_of_lt_of_le h ?_;unfold more
     have:(l.filter (fun p=>decide (over l<p.2)))=(l.filter (fun q=>decide (p.2<=q.2))).filter (fun p=>decide (over l<p.2)):=by
       rw[List.filter_filter];apply List.filter_congr;intro q hql;by_cases h2:over l<q.2
       · have:=hq q (List.mem_filter.2 ⟨hql,by simpa using h2⟩)
         simp [h2,this]
       · simp [h2]
     rw[this];exact List.length_filter_le _ _
   have:=over_ge hp'.1 hm
   omega
 · exact h
theorem less_sum (l:List (Int×Int)) (v:Int) (hv:0<=v) (h:∀p∈l,0<=p.2):sumP (topLess l v)+v*more l v<=sumP l:=by
 induction l with
 | nil=>simp [topLess,more]
 | cons p l ih=>
   have h1:=ih (fun q hq=>h q (List.mem_cons_of_mem _ hq));have h2:=h p (List.mem_cons_self ..);unfold topLess more at h1 ⊢;by_cases h3:v<p.2
   · have h4:v<=p.2:=by omega
     simp only[List.filter_cons,decide_eq_true h3,decide_eq_true h4,if_true,List.map_cons,sumP_cons,List.length_cons];rw[Int.natCast_add,Int.mul_add];omega
   · by_cases h4:v<=p.2
     · simp only[List.filter_cons,decide_eq_false h3,decide_eq_true h4,if_true,Bool.false_eq_true,if_false,sumP_cons,List.length_cons];rw[Int.natCast_add,Int.mul_add];omega
     · simp only[List.filter_cons,decide_eq_false h3,decide_eq_false h4,Bool.false_eq_true,if_false,sumP_cons];omega
theorem top_cut {q:List (Int×Int)} (ha:Asc q) (hr:∀p∈q,0<=p.1/\p.1<=63/\1<=p.2) {lost all:Int} (h0:0<=lost) (h1:all<=2000) (hs:sumP q+5*lost<=all):TopT (topLess q (over q)) (lost+over q) all:=by
 have hv:=over_nonneg q;have hnn:∀p∈q,0<=p.2:=fun p hp=>by have:=hr p hp;omega
 have hsum:sumP (topLess q (over q))+5*over q<=sumP q:=by
   have h2:=less_sum q (over q) hv hnn;rcases over_at q with h3 | ⟨p,_,hm,h3⟩
   · rw[h3] at h2 ⊢;omega
   · rw[<- h3] at hm
     have:over q*5<=over q*(more q (over q):Int):=Int.mul_le_mul_of_nonneg_left (by omega) hv
     omega
 have hmem:∀p∈topLess q (over q),0<=p.1/\p.1<=63/\1<=p.2:=fun p hp=>by
   unfold topLess at hp;obtain⟨r,hr1,rfl⟩:=List.mem_map.1 hp;have h2:=List.mem_filter.1 hr1;have h3:=hr r h2.1;have h4:over q<r.2:=by simpa using h2.2
   exact⟨h3.1,h3.2.1,by simp only;omega⟩
 have hnn2:∀p∈topLess q (over q),0<=p.2:=fun p hp=>by have:=hmem p hp;omega
 have hs0:=sumP_nonneg hnn2;refine⟨?_,fun p hp=>?_,?_,by omega,h1,by omega,by omega,by omega⟩
 · unfold topLess Asc;rw[List.pairwise_map];exact ha.filter _
 · have h2:=hmem p hp;have h3:=le_sumP hnn2 hp;exact⟨h2.1,h2.2.1,h2.2.2,by omega⟩
 · unfold topLess;rw[List.length_map];exact few_over q
theorem top_add {l:List Dat} {lost all t:Int} (h:TopIn l lost all) (ht:0<=t/\t<64) (ha:all<2000):TopIn (dPrs (topLess (topPut (prs l) (t,1)) (over (topPut (prs l) (t,1))))) (lost+over (topPut (prs l) (t,1))) (all+1):=by
 obtain⟨h1,h2,h3,h4,h5,h6,h7,h8⟩:=top_t h;obtain⟨g1,g2,g3,g4⟩:=top_put h1 (fun p hp=>by have:=h2 p hp;exact⟨this.1,this.2.1,this.2.2.1⟩) (t:=t) (n:=1) ⟨ht.1,by omega⟩ (by omega);exact top_d (top_cut g1 g2 h6 (by omega) (by omega))
def NB (a:List Int) (all:Int):Prop:=a.length=128/\(∀x∈a,0<=x)/\gt a 0=0/\∀k,k<64->gt a k<=all / 8
theorem NB.get {a:List Int} {all:Int} (h:NB a all) {i:Nat} (hi:i<128):0<=gt a i:=h.2.1 _ (gt_mem (by rw[h.1];exact hi))
theorem NB.set {a:List Int} {all v:Int} {i:Nat} (h:NB a all) (h0:0<i) (hv:0<=v) (h8:i<64->v<=all / 8):NB (a.set i v) all:=by
 refine⟨by rw[List.length_set];exact h.1,fun x hx=>?_,?_,fun k hk=>?_⟩
 · rcases List.mem_or_eq_of_mem_set hx with h1 | h1
   · exact h.2.1 x h1
   · rw[h1];exact hv
 · rw[gt_set,if_neg (by omega)];exact h.2.2.1
 · rw[gt_set];split
   · rename_i e;exact h8 (by omega)
   · exact h.2.2.2 k hk
theorem sq_sum {a:List Int} {all:Int} {k:Nat} (hl:a.length=128) (h1:1<=k) (hk:k<=63):(sqStep all a k).sum=a.sum:=by
 unfold sqStep;split
 · rw[sum_set (by simp only[List.length_set];omega),sum_set (by simp only[List.length_set];omega),sum_set (by omega)];rw[gt_set,if_neg (by omega),gt_set,if_neg (by omega),gt_set,if_neg (by omega)];omega
 · rfl
theorem NB.step {a:List Int} {all:Int} {k:Nat} (h:NB a all) (ha:0<=all) (h1:1<=k) (hk:k<=63):NB (sqStep all a k) all:=by
 unfold sqStep;split
 · rename_i hc;have e1:=h.get (i:=k) (by omega);have h8:0<=all / 8:=Int.ediv_nonneg ha (by decide);exact ((h.set (i:=k) (by omega) (by omega) (fun _=>by omega)).set (i:=2*k) (by omega) (Int.le_refl _) (fun _=>h8)).set (i:=2*k+1) (by omega) (Int.le_refl _) (fun _=>h8)
 · exact h
theorem NB.upto {a:List Int} {all:Int} (h:NB a all) (ha:0<=all):∀g,g<=63->NB (sqUpto a all g) all/\(sqUpto a all g).sum=a.sum:=by
 intro g
 induction g with
 | zero=>intro _;exact⟨h,rfl⟩
 | succ g ih=>
   intro hg;obtain⟨h1,h2⟩:=ih (by omega);rw[sq_next];exact⟨h1.step ha (by omega) (by omega),by rw[sq_sum h1.1 (by omega) (by omega),h2]⟩
theorem take_sum (a:List Int) (n:Nat) (h:n<a.length):(a.take (n+1)).sum=(a.take n).sum+gt a n:=by
 rw[List.take_add_one,List.getElem?_eq_getElem h,List.sum_append,gt_lt h];simp
theorem knots_sum {a:List Int} (h:∀x∈a,0<=x):∀n,1<=n->n<=a.length->sumP (knotsTo a n)=(a.take n).sum-gt a 0:=by
 intro n
 induction n with
 | zero=>intro h;omega
 | succ n ih=>
   intro _ hn;have hnn:=h _ (gt_mem (a:=a) (i:=n) (by omega));rcases Nat.eq_zero_or_pos n with h0 | h0
   · subst h0;rw[take_sum a 0 (by omega)];simp [knotsTo]
   · rw[knots_next a n h0,sumP_append,ih h0 (by omega),take_sum a n (by omega)];split
     · simp only[sumP_cons,sumP_nil];omega
     · simp only[sumP_nil];omega
theorem knots_mem {a:List Int} {p:Int×Int} (h:p∈knots a):∃i,1<=i/\i<a.length/\0<gt a i/\p=((i:Int),gt a i):=by
 unfold knots knotsTo at h;obtain⟨i,hi,rfl⟩:=List.mem_map.1 h;have h1:=List.mem_filter.1 hi;simp only[Bool.and_eq_true,decide_eq_true_eq,List.mem_range] at h1;exact⟨i,by omega,h1.1,h1.2.2,rfl⟩
theorem knots_asc (a:List Int):Asc (knots a):=by
 unfold knots knotsTo Asc;rw[List.pairwise_map];have h1:(List.range a.length).Pairwise (· < ·):=List.pairwise_lt_range;exact (h1.filter _).imp (fun h=>by simp only;omega)
theorem rank_nums {a:List Int} {all:Int} (h:NB a all) (h0:0<=all) (h1:all<=2000) (hs:a.sum=all):RankIn (dPrs (knots (squeeze a all))) all:=by
 obtain⟨g1,g2⟩:=h.upto h0 63 (Nat.le_refl _);have hsq:squeeze a all=sqUpto a all 63:=rfl;rw[<- hsq] at g1 g2;generalize squeeze a all=b at g1 g2;have hkl:(knots b).length<=128:=by
   have:=knotsTo_length b b.length
   unfold knots;rw[g1.1] at this ⊢;exact this
 have hr:∀p∈knots b,1<=p.1/\p.1<=127/\1<=p.2/\p.2<=2000/\(p.1<64->p.2<=all / 8):=fun p hp=>by
   obtain⟨i,hi0,hi1,hi2,rfl⟩:=knots_mem hp;rw[g1.1] at hi1;have hle:=le_sum g1.2.1 (gt_mem (a:=b) (i:=i) (by rw[g1.1];exact hi1));exact⟨by simp only;omega,by simp only;omega,by simp only;omega,by simp only;omega,fun h64=>g1.2.2.2 i (by simp only at h64;omega)⟩
 refine⟨h0,h1,fun i hi=>?_,?_⟩
 · rw[dPrs_length] at hi;have e:=fv_dPrs _ i hi;have h2:=hr _ (List.getElem_mem hi);rw[e.1,e.2];exact⟨h2.1,h2.2.1,h2.2.2.1,h2.2.2.2.1,fun h3=>by rw[<- e.1];exact asc_get (knots_asc b) hi h3,h2.2.2.2.2⟩
 · rw[sumN_sum (by rw[dPrs_length];omega) (fun p hp=>by rw[prs_dPrs] at hp;have:=hr p hp;omega),prs_dPrs];unfold knots;rw[knots_sum g1.2.1 b.length (by rw[g1.1];omega) (Nat.le_refl _),List.take_length,g2,hs,g1.2.2.1];omega
theorem gt_addAt {a:List Int} {i j:Nat} {n:Int} (h:i<a.length):gt (addAt a i n) j=if i=j then gt a i+n else gt a j:=by
 unfold addAt;rw[gt_set];by_cases e:i=j
 · rw[if_pos ⟨e,h⟩,if_pos e]
 · rw[if_neg (by omega),if_neg e]
theorem addAt_sum {a:List Int} {i:Nat} {n:Int} (h:i<a.length):(addAt a i n).sum=a.sum+n:=by
 unfold addAt;rw[sum_set h];omega
theorem nums_nb {l:List Dat} {all:Int} (h:KnTo l all l.length) (ha:0<=all):∀g,g<=l.length->NB (numsOf (prs (l.take g))) all/\(numsOf (prs (l.take g))).sum=sumP (prs (l.take g))/\∀k:Nat,(∀i,i<g->fv l i 0≠k)->gt (numsOf (prs (l.take g))) k=0:=by
 have h8:0<=all / 8:=Int.ediv_nonneg ha (by decide);have z:∀k,gt (List.replicate 128 (0:Int)) k=0:=fun k=>by
   simp only[gt,List.getD_eq_getElem?_getD,List.getElem?_replicate];split<;>rfl
 intro g
 induction g with
 | zero=>
   intro _;refine⟨⟨by simp [numsOf,prs],fun x hx=>?_,z 0,fun k _=>by rw[show numsOf (prs (l.take 0))=List.replicate 128 0 from rfl,z];exact h8⟩,?_,fun k _=>z k⟩
   · rw[show numsOf (prs (l.take 0))=List.replicate 128 0 from rfl] at hx;rw[(List.mem_replicate.1 hx).2];exact Int.le_refl _
   · have hz:=NS.zero;have h1:(List.replicate 128 (0:Int)).sum=0:=by
       have:∀n,(List.replicate n (0:Int)).sum=0:=by
         intro n
         induction n with
         | zero=>rfl
         | succ n ih=>rw[List.replicate_succ,List.sum_cons,ih];rfl
       exact this 128
     exact h1
 | succ g ih=>
   intro hg;obtain⟨h1,h2,h3⟩:=ih (by omega);have hx:=h g (by omega);rw[prs_take_succ (by omega),nums_next];have hp:(fv l g 0).toNat<(numsOf (prs (l.take g))).length:=by rw[h1.1];omega
   have hz:gt (numsOf (prs (l.take g))) (fv l g 0).toNat=0:=h3 _ (fun i hi=>by
     have hlt:∀j i,i<j->j<l.length->fv l i 0<fv l j 0:=by
       intro j
       induction j with
       | zero=>intro i hi;omega
       | succ j ih2=>
         intro i hi hj;have q1:=(h (j+1) hj).2.2.2.2.1 (by omega);rw[show j+1-1=j from rfl] at q1;rcases Nat.lt_or_ge i j with q2 | q2
         · have:=ih2 i q2 (by omega);omega
         · rw[show i=j from by omega];exact q1
     have:=hlt g i hi (by omega)
     omega)
   refine⟨?_,?_,fun k hk=>?_⟩
   · show NB (addAt _ _ _) all;unfold addAt;exact h1.set (by show 0<(fv l g 0).toNat;omega) (by show 0<=gt _ (fv l g 0).toNat+fv l g 1;omega) (fun h64=>by
       have:=hx.2.2.2.2.2 (by have:(fv l g 0).toNat<64:=h64;omega)
       show gt _ (fv l g 0).toNat+fv l g 1<=all / 8;omega)
   · rw[addAt_sum hp,h2,sumP_append];simp
   · have:=gt_addAt (j:=k) (n:=fv l g 1) hp
     show gt (addAt _ (fv l g 0).toNat (fv l g 1)) k=0;rw[this,if_neg (by have:=hk g (by omega);omega)];exact h3 k (fun i hi=>hk i (by omega))
theorem rank_add {l:List Dat} {all t:Int} (h:RankIn l all) (ht:0<=t/\t<64) (ha:all<2000):RankIn (dPrs (rankAdd (prs l) all t)) (all+1):=by
 obtain⟨h0,h1,h2,h3⟩:=h;obtain⟨g1,g2,g3⟩:=nums_nb h2 h0 l.length (Nat.le_refl _);rw[List.take_length] at g1 g2 g3;have hkl:=kn_le h2;have hsum:sumP (prs l)=all:=by
   rw[<- sumN_sum (by omega) (fun p hp=>by
     rw[<- List.take_length (l:=l)] at hp;obtain⟨k,hk,rfl⟩:=mem_takeP (Nat.le_refl _) hp
     have:=h2 k hk
     exact⟨by show 0<=fv l k 1;omega,by show fv l k 1<=100000;omega⟩)]
   exact h3
 have hp:(64+t).toNat<(numsOf (prs l)).length:=by rw[g1.1];omega
 have hgn:=g1.get (i:=(64+t).toNat) (by omega);have hnb:NB (addAt (numsOf (prs l)) (64+t).toNat 1) (all+1):=by
   have h4:NB (numsOf (prs l)) (all+1):=⟨g1.1,g1.2.1,g1.2.2.1,fun k hk=>by have:=g1.2.2.2 k hk;omega⟩;unfold addAt;exact h4.set (by omega) (by omega) (fun h=>by omega)
 exact rank_nums hnb (by omega) (by omega) (by rw[addAt_sum hp,g2,hsum])
theorem sum_add {x:SumD} (h:SumIn x) {t:Int} (ht:0<=t/\t<64) (ha:x.all<2000):SumIn (sumAdd x t)/\(sumAdd x t).all=x.all+1:=by
 obtain⟨h1,h2,h3,h4,h5,h6,h7⟩:=h;have hr:=rough_add h1 (t:=t) (n:=1) (by omega) (by omega);have hf:=few_put (few_t.1 h2) (mark_range t);refine⟨⟨hr.1,?_,top_add h3 ht ha,?_,?_,?_,?_⟩,rfl⟩
 · rw[few_t];simp only[sumAdd,ints_dInts];exact hf
 · have:=rank_add h4 ht (by omega)
   simp only[sumAdd];exact this
 · show sumW (kv (roughAdd x.rows t 1) 0)=x.all+1;rw[hr.2,h5]
 · show x.all+1=x.rall+1;omega
 · show 0<(dInts _).length ↔ 0<x.all+1;rw[dInts_length]
   have:=few_pos (ints x.kept) (mark t)
   have:=h3.2.2.1
   omega
theorem sum_zero:SumIn sumZero:=by
 have h1:FewIn []:=⟨by decide,fun i hi=>by simp at hi⟩;have h2:TopIn [] 0 0:=⟨fun i hi=>by simp at hi,by decide,by decide,by decide,by decide,by decide,by decide⟩;have h3:RankIn [] 0:=⟨by decide,by decide,fun i hi=>by simp at hi,by decide⟩;exact⟨rough_zero.1,h1,h2,h3,rough_zero.2,rfl,⟨(fun h=>by cases h),(fun h=>by cases h)⟩⟩
def sumOf (l:List Int):SumD:=l.foldl sumAdd sumZero
theorem sumOf_next (l:List Int) (t:Int):sumOf (l++[t])=sumAdd (sumOf l) t:=by
 unfold sumOf;rw[List.foldl_append];rfl
theorem sumOf_take {l:List Int} (h:∀t∈l,0<=t/\t<64) (hl:l.length<=2000):∀n,n<=l.length->SumIn (sumOf (l.take n))/\(sumOf (l.take n)).all=n:=by
 intro n
 induction n with
 | zero=>intro _;exact⟨sum_zero,rfl⟩
 | succ n ih=>
   intro hn;obtain⟨h1,h2⟩:=ih (by omega);rw[List.take_add_one,List.getElem?_eq_getElem (by omega)];show SumIn (sumOf (l.take n++[l[n]]))/\(sumOf (l.take n++[l[n]])).all=_;rw[sumOf_next];obtain⟨h3,h4⟩:=sum_add h1 (h l[n] (List.getElem_mem _)) (by omega);exact⟨h3,by rw[h4,h2];omega⟩
theorem sumOf_in {l:List Int} (h:∀t∈l,0<=t/\t<64) (hl:l.length<=2000):SumIn (sumOf l)/\(sumOf l).all=l.length:=by
 have:=sumOf_take h hl l.length (Nat.le_refl _)
 rw[List.take_length] at this;exact this
theorem sumOf_vc (ds:List Dat) (hp:(∀t∈ints ds,0<=t/\t<64)/\ds.length<=2000) :
 WFl (Ty.int i64) ds->True/\(∃x:Nat,x<=ds.length/\ds=ds/\0=(x:Int)/\(0:Int)=0/\(0:Int)=0/\(0:Int)=0/\roughZero=(sumOf (ints (List.take x ds))).rows/\([]:List Dat)=(sumOf (ints (List.take x ds))).kept/\([]:List Dat)=(sumOf (ints (List.take x ds))).prs/\0=(sumOf (ints (List.take x ds))).lost/\0=(sumOf (ints (List.take x ds))).all/\([]:List Dat)=(sumOf (ints (List.take x ds))).kn/\0=(sumOf (ints
 (List.take x ds))).rall)/\∀x:Nat,x<=ds.length->I64 (ds.length:Int)->(decide ((x:Int)<(ds.length:Int))->(0<=(x:Int)/\(x:Int)<(ds.length:Int))/\(SumIn (sumOf (ints (List.take x ds)))/\0<=(ds.getD x default).toInt/\(ds.getD x default).toInt<(64:Int)/\(sumOf (ints (List.take x ds))).all<(2000:Int))/\(SumIn (sumOf (ints (List.take x ds)))/\0<=(ds.getD x default).toInt/\(ds.getD x
 default).toInt<(64:Int)/\(sumOf (ints (List.take x ds))).all<(2000:Int))/\((sumAdd (sumOf (ints (List.take x ds))) (ds.getD x default).toInt).rows=(sumAdd (sumOf (ints (List.take x ds))) (ds.getD x default).toInt).rows/\(sumAdd (sumOf (ints (List.take x ds))) (ds.getD x default).toInt).kept=(sumAdd (sumOf (ints (List.take x ds))) (ds.getD x default).toInt).kept/\(sumAdd (sumOf (ints (List.take x
 ds))) (ds.getD x default).toInt).prs=(sumAdd (sumOf (ints (List.take x ds))) (ds.getD x default).toInt).prs/\(sumAdd (sumOf (ints (List.take x ds))) (ds.getD x default).toInt).lost=(sumAdd (sumOf (ints (List.take x ds))) (ds.getD x default).toInt).lost/\(sumAdd (sumOf (ints (List.take x ds))) (ds.getD x default).toInt).all=(sumAdd (sumOf (ints (List.take x ds))) (ds.getD x
 default).toInt).all/\(sumAdd (sumOf (ints (List.take x ds))) (ds.getD x default).toInt).kn=(sumAdd (sumOf (ints (List.take x ds))) (ds.getD x default).toInt).kn/\(sumAdd (sumOf (ints (List.take x ds))) (ds.getD x default).toInt).rall=(sumAdd (sumOf (ints (List.take x ds))) (ds.getD x default).toInt).rall)/\((sumOf (ints (List.take x ds))).rows=(sumOf (ints (List.take x ds))).rows/\(sumOf (ints
 (List.take x ds))).kept=(sumOf (ints (List.take x ds))).kept/\(sumOf (ints (List.take x ds))).prs=(sumOf (ints (List.take x ds))).prs/\(sumOf (ints (List.take x ds))).lost=(sumOf (ints (List.take x ds))).lost/\(sumOf (ints (List.take x ds))).all=(sumOf (ints (List.take x ds))).all/\(sumOf (ints (List.take x ds))).kn=(sumOf (ints (List.take x ds))).kn/\(sumOf (ints (List.take x ds))).rall=(sumOf
 (ints (List.take x ds))).rall)/\∃x_1:Nat,(x_1<=ds.length/\ds.length-x_1<ds.length-x)/\ds=ds/\i64.wrap ((x:Int)+1)=(x_1:Int)/\(0:Int)=0/\(0:Int)=0/\(0:Int)=0/\(sumAdd (sumOf (ints (List.take x ds))) (ds.getD x default).toInt).rows=(sumOf (ints (List.take x_1 ds))).rows/\(sumAdd (sumOf (ints (List.take x ds))) (ds.getD x default).toInt).kept=(sumOf (ints (List.take x_1 ds))).kept/\(sumAdd (sumOf
 (ints (List.take x ds))) (ds.getD x default).toInt).prs=(sumOf (ints (List.take x_1 ds))).prs/\(sumAdd (sumOf (ints (List.take x ds))) (ds.getD x default).toInt).lost=(sumOf (ints (List.take x_1 ds))).lost/\(sumAdd (sumOf (ints (List.take x ds))) (ds.getD x default).toInt).all=(sumOf (ints (List.take x_1 ds))).all/\(sumAdd (sumOf (ints (List.take x ds))) (ds.getD x default).toInt).kn=(sumOf (ints
 (List.take x_1 ds))).kn/\(sumAdd (sumOf (ints (List.take x ds))) (ds.getD x default).toInt).rall=(sumOf (ints (List.take x_1 ds))).rall)/\(decide ((x:Int)<(ds.length:Int))=false->(sumOf (ints (List.take x ds))).rows=(sumOf (ints ds)).rows/\(sumOf (ints (List.take x ds))).kept=(sumOf (ints ds)).kept/\(sumOf (ints (List.take x ds))).prs=(sumOf (ints ds)).prs/\(sumOf (ints (List.take x
 ds))).lost=(sumOf (ints ds)).lost/\(sumOf (ints (List.take x ds))).all=(sumOf (ints ds)).all/\(sumOf (ints (List.take x ds))).kn=(sumOf (ints ds)).kn/\(sumOf (ints (List.take x ds))).rall=(sumOf (ints ds)).rall):=by
 intro hw;have hl:=hw.1;simp only[iv,kv,fv,nm];refine⟨⟨0,by omega,rfl,rfl,rfl,rfl,rfl,rfl,rfl,rfl⟩,fun x hx _=>⟨fun hlt=>?_,fun hlt=>by rw[List.take_of_length_le (by omega)];exact⟨rfl,rfl,rfl,rfl,rfl,rfl,rfl⟩⟩⟩;have hx1:x<ds.length:=by omega
 have ht:=hp.1 (iv ds x) (by rw[iv_lt hx1];exact List.getElem_mem _);simp only[iv] at ht;obtain⟨h1,h2⟩:=sumOf_take hp.1 (by rw[ints_length];exact hp.2) x (by rw[ints_length];omega);rw[<- ints_take] at h1 h2;have hc:SumIn (E.sumOf (ints (ds.take x)))/\0<=(ds.getD x default).toInt/\(ds.getD x default).toInt<64/\(E.sumOf (ints (ds.take x))).all<2000:=⟨h1,ht.1,ht.2,by omega⟩;have hs:E.sumAdd (E.sumOf (ints (ds.take x))) (ds.getD x default).toInt=E.sumOf (ints (ds.take (x+1))):=by
   rw[ints_take_succ hx1,sumOf_next]
 refine⟨by omega,hc,hc,x+1,by omega,up_ok hx1 (by omega),?_⟩;rw[hs];exact⟨rfl,rfl,rfl,rfl,rfl,rfl,rfl⟩
def sumOf_get:List SV->St->Option Got
 | [.sl (.int .i64) ds],⟨[],[],[]⟩=>some ((∀t∈ints ds,0<=t/\t<64)/\ds.length<=2000,.tup [.agg [.sl (.sl (.int .i64)) (E.sumOf (ints ds)).rows,.sl (.int .i64) (E.sumOf (ints ds)).kept,.sl TPr (E.sumOf (ints ds)).prs,.int .i64 (E.sumOf (ints ds)).lost,.int .i64 (E.sumOf (ints ds)).all,.sl TPr (E.sumOf (ints ds)).kn,.int .i64 (E.sumOf (ints ds)).rall],.tt],St.mk [] [] [])
 | _,_=>none
theorem sumOf_ok:Ok0 prog 201 sumOf_get:=by
 intro _ _ _ _ _ h hp;unfold sumOf_get at h;split at h
 · rename_i ds;cases h;refine fl [sumNew_con,sumAdd_con] (fun k=>bif Nat.beq k 3 then some (.g (⟨Nat,fun s g=>hdb s [0,1,2,3,4] [(5,.int .i64 g)] [s.bx.getD 0 default,(44,[.sl (.sl (.int .i64)) (E.sumOf (ints (ds.take g))).rows,.sl (.int .i64) (E.sumOf (ints (ds.take g))).kept,.sl TPr (E.sumOf (ints (ds.take g))).prs,.int .i64 (E.sumOf (ints (ds.take g))).lost,.int .i64 (E.sumOf (ints (ds.take g))).all,.sl TPr (E.sumOf (ints (ds.take g))).kn,.int .i64 (E.sumOf (ints (ds.take g))).rall])] s.rw,fun _ g=>g<=ds.length,fun g=>ds.length-g⟩)) else none) func201 ?_;apply VC.thru (sumOf_vc ds hp);kernel_rfl
 · cases h
def sumOf_con:Con prog:=.f0 201 [] false sumOf_get (en func201 rfl) sumOf_ok
def rws (l:List Dat):List (List Int):=l.map fun d=>ints d.kids
theorem rws_length (l:List Dat):(rws l).length=l.length:=by simp [rws]
def SameS (x y:SumD):Prop:=rws x.rows=rws y.rows/\ints x.kept=ints y.kept/\E.prs x.prs=E.prs y.prs/\x.lost=y.lost/\x.all=y.all/\E.prs x.kn=E.prs y.kn/\x.rall=y.rall
theorem ints_eq {a b:List Dat}:ints a=ints b ↔ a.length=b.length/\∀k,k<a.length->iv a k=iv b k:=by
 constructor
 · intro h;have hl:a.length=b.length:=by rw[<- ints_length a,<- ints_length b,h]
   refine⟨hl,fun k hk=>?_⟩;rw[iv_lt hk,iv_lt (by omega)];simp only[h]
 · rintro⟨hl,h⟩;apply List.ext_getElem (by rw[ints_length,ints_length];exact hl);intro k h1 h2;rw[ints_length] at h1 h2;rw[<- iv_lt h1,<- iv_lt h2];exact h k h1
theorem prs_eq {a b:List Dat}:prs a=prs b ↔ a.length=b.length/\∀k,k<a.length->fv a k 0=fv b k 0/\fv a k 1=fv b k 1:=by
 have e:∀(l:List Dat) k (hk:k<l.length),(prs l)[k]'(by rw[prs_length];exact hk)=(fv l k 0,fv l k 1):=fun l k hk=>by
   simp [prs,fv,List.getD_eq_getElem?_getD,List.getElem?_eq_getElem hk]
 constructor
 · intro h;have hl:a.length=b.length:=by rw[<- prs_length a,<- prs_length b,h]
   refine⟨hl,fun k hk=>?_⟩;have h1:=e a k hk;have h2:=e b k (by omega);simp only[h] at h1;rw[h2] at h1;simp only[Prod.mk.injEq] at h1;exact⟨h1.1.symm,h1.2.symm⟩
 · rintro⟨hl,h⟩;apply List.ext_getElem (by rw[prs_length,prs_length];exact hl);intro k h1 h2;rw[prs_length] at h1 h2;rw[e a k h1,e b k h2,(h k h1).1,(h k h1).2]
theorem rws_eq {a b:List Dat}:rws a=rws b ↔ a.length=b.length/\∀k,k<a.length->ints (kv a k)=ints (kv b k):=by
 have e:∀(l:List Dat) k (hk:k<l.length),(rws l)[k]'(by rw[rws_length];exact hk)=ints (kv l k):=fun l k hk=>by
   simp [rws,kv,List.getD_eq_getElem?_getD,List.getElem?_eq_getElem hk]
 constructor
 · intro h;have hl:a.length=b.length:=by rw[<- rws_length a,<- rws_length b,h]
   refine⟨hl,fun k hk=>?_⟩;rw[<- e a k hk,<- e b k (by omega)];simp only[h]
 · rintro⟨hl,h⟩;apply List.ext_getElem (by rw[rws_length,rws_length];exact hl);intro k h1 h2;rw[rws_length] at h1 h2;rw[e a k h1,e b k h2,h k h1]
theorem l21Same_vc (a b:List Dat) :
 WFl (Ty.int i64) a->WFl (Ty.int i64) b->I64 (a.length:Int)->I64 (b.length:Int)->(decide ((a.length:Int)≠(b.length:Int))->dec (ints a=ints b)=false)/\(decide ((a.length:Int)≠(b.length:Int))=false->(∃x:Nat,(x<=a.length/\∀k:Nat,k<x->iv a k=iv b k)/\a=a/\b=b/\0=(x:Int))/\∀x:Nat,(x<=a.length/\∀k:Nat,k<x->iv a k=iv b k)->I64 (a.length:Int)->(decide
 ((x:Int)<(a.length:Int))->(0<=(x:Int)/\(x:Int)<(a.length:Int))/\(I64 (a.getD x default).toInt->(0<=(x:Int)/\(x:Int)<(b.length:Int))/\(I64 (b.getD x default).toInt->(decide ((a.getD x default).toInt≠(b.getD x default).toInt)->dec (ints a=ints b)=false)/\(decide ((a.getD x default).toInt≠(b.getD x default).toInt)=false->∃x_1:Nat,((x_1<=a.length/\∀k:Nat,k<x_1->iv a k=iv b
 k)/\a.length-x_1<a.length-x)/\a=a/\b=b/\i64.wrap ((x:Int)+1)=(x_1:Int)))))/\(decide ((x:Int)<(a.length:Int))=false->dec (ints a=ints b)=true)):=by
 intro hw1 hw2;have hl:=hw1.1;simp only[iv,kv,fv,nm];simp only[ints_eq,iv];refine fun _ _=>⟨fun h h2=>h (by omega),fun hlen=>⟨⟨0,⟨by omega,fun k hk=>by omega⟩,rfl⟩,fun x hx _=>⟨fun hlt=>⟨by omega,fun _=>⟨by omega,fun _=>⟨fun h h2=>h (h2.2 x (by omega)),fun h=>⟨x+1,⟨⟨by omega,fun k hk=>?_⟩,by omega⟩,up_ok (n:=a.length) (by omega) (by omega)⟩⟩⟩⟩,fun hlt=>⟨by omega,fun k hk=>hx.2 k (by omega)⟩⟩⟩⟩
 rcases Nat.lt_or_ge k x with h1 | h1
 · exact hx.2 k h1
 · rw[show k=x from by omega];exact h
def l21Same_get:List SV->St->Option Got
 | [.sl (.int .i64) a,.sl (.int .i64) b],⟨[],[],[]⟩=>some (True,.bool (dec (ints a=ints b)),St.mk [] [] [])
 | _,_=>none
theorem l21Same_ok:Ok0 prog 223 l21Same_get:=by
 intro _ _ _ _ _ h hp;unfold l21Same_get at h;split at h
 · rename_i a b;cases h;refine fl [] (fun k=>bif Nat.beq k 4 then some (.g (⟨Nat,fun s g=>hd s [0,1,4] [(5,.int .i64 g)] s.rw,fun _ g=>g<=a.length/\∀k,k<g->iv a k=iv b k,fun g=>a.length-g⟩)) else none) func223 ?_;apply VC.thru (l21Same_vc a b);kernel_rfl
 · cases h
def l21Same_con:Con prog:=.f0 223 [] true l21Same_get (en func223 rfl) l21Same_ok
theorem l21Sums_vc (rows kept prs kn rows2 kept2 prs2 kn2:List Dat) (lost all rall lost2 all2 rall2:Int) :
 WFl (Ty.int i64).sl rows->WFl (Ty.int i64) kept->WFl TPr prs->I64 lost->I64 all->WFl TPr kn->I64 rall->WFl (Ty.int i64).sl rows2->WFl (Ty.int i64) kept2->WFl TPr prs2->I64 lost2->I64 all2->WFl TPr kn2->I64 rall2->(I64 (rows.length:Int)->I64 (rows2.length:Int)->(decide ((rows.length:Int)≠(rows2.length:Int))=false->True)/\True)/\((decide ((rows.length:Int)≠(rows2.length:Int))||(!dec (ints kept=ints
 kept2)||(decide (lost≠lost2)||(decide (all≠all2)||(decide (rall≠rall2)||(decide ((prs.length:Int)≠(prs2.length:Int))||decide ((kn.length:Int)≠(kn2.length:Int))))))))=true->dec (SameS (SumD.mk rows kept prs lost all kn rall) (SumD.mk rows2 kept2 prs2 lost2 all2 kn2 rall2))=false)/\((decide ((rows.length:Int)≠(rows2.length:Int))||(!dec (ints kept=ints kept2)||(decide (lost≠lost2)||(decide
 (all≠all2)||(decide (rall≠rall2)||(decide ((prs.length:Int)≠(prs2.length:Int))||decide ((kn.length:Int)≠(kn2.length:Int))))))))=false->(∃x:Nat,(x<=rows.length/\∀k:Nat,k<x->ints (kv rows k)=ints (kv rows2
 k))/\rows=rows/\kept=kept/\prs=prs/\lost=lost/\all=all/\kn=kn/\rall=rall/\rows2=rows2/\kept2=kept2/\prs2=prs2/\lost2=lost2/\all2=all2/\kn2=kn2/\rall2=rall2/\0=(x:Int)/\rows=rows/\kept=kept/\prs=prs/\lost=lost/\all=all/\kn=kn/\rall=rall/\rows2=rows2/\kept2=kept2/\prs2=prs2/\lost2=lost2/\all2=all2/\kn2=kn2/\rall2=rall2)/\∀x:Nat,(x<=rows.length/\∀k:Nat,k<x->ints (kv rows k)=ints (kv rows2 k))->I64
 (rows.length:Int)->(decide ((x:Int)<(rows.length:Int))->(0<=(x:Int)/\(x:Int)<(rows.length:Int))/\(0<=(x:Int)/\(x:Int)<(rows2.length:Int))/\True/\((!dec (ints (rows.getD x default).kids=ints (rows2.getD x default).kids))=true->dec (SameS (SumD.mk rows kept prs lost all kn rall) (SumD.mk rows2 kept2 prs2 lost2 all2 kn2 rall2))=false)/\((!dec (ints (rows.getD x default).kids=ints (rows2.getD x
 default).kids))=false->∃x_1:Nat,((x_1<=rows.length/\∀k:Nat,k<x_1->ints (kv rows k)=ints (kv rows2 k))/\rows.length-x_1<rows.length-x)/\rows=rows/\kept=kept/\prs=prs/\lost=lost/\all=all/\kn=kn/\rall=rall/\rows2=rows2/\kept2=kept2/\prs2=prs2/\lost2=lost2/\all2=all2/\kn2=kn2/\rall2=rall2/\i64.wrap
 ((x:Int)+1)=(x_1:Int)/\rows=rows/\kept=kept/\prs=prs/\lost=lost/\all=all/\kn=kn/\rall=rall/\rows2=rows2/\kept2=kept2/\prs2=prs2/\lost2=lost2/\all2=all2/\kn2=kn2/\rall2=rall2))/\(decide ((x:Int)<(rows.length:Int))=false->(∃x:Nat,(x<=prs.length/\∀k:Nat,k<x->fv prs k 0=fv prs2 k 0/\fv prs k 1=fv prs2 k
 1)/\rows=rows/\kept=kept/\prs=prs/\lost=lost/\all=all/\kn=kn/\rall=rall/\rows2=rows2/\kept2=kept2/\prs2=prs2/\lost2=lost2/\all2=all2/\kn2=kn2/\rall2=rall2/\0=(x:Int)/\rows=rows/\kept=kept/\prs=prs/\lost=lost/\all=all/\kn=kn/\rall=rall/\rows2=rows2/\kept2=kept2/\prs2=prs2/\lost2=lost2/\all2=all2/\kn2=kn2/\rall2=rall2)/\∀x:Nat,(x<=prs.length/\∀k:Nat,k<x->fv prs k 0=fv prs2 k 0/\fv prs k 1=fv prs2 k
 1)->I64 (prs.length:Int)->(decide ((x:Int)<(prs.length:Int))->(0<=(x:Int)/\(x:Int)<(prs.length:Int))/\(0<=(x:Int)/\(x:Int)<(prs2.length:Int))/\((!(decide (((prs.getD x default).f 0).toInt=((prs2.getD x default).f 0).toInt)&&(decide (((prs.getD x default).f 1).toInt=((prs2.getD x default).f 1).toInt)&&true)))=true->dec (SameS (SumD.mk rows kept prs lost all kn rall) (SumD.mk rows2 kept2 prs2 lost2
 all2 kn2 rall2))=false)/\((!(decide (((prs.getD x default).f 0).toInt=((prs2.getD x default).f 0).toInt)&&(decide (((prs.getD x default).f 1).toInt=((prs2.getD x default).f 1).toInt)&&true)))=false->∃x_1:Nat,((x_1<=prs.length/\∀k:Nat,k<x_1->fv prs k 0=fv prs2 k 0/\fv prs k 1=fv prs2 k
 1)/\prs.length-x_1<prs.length-x)/\rows=rows/\kept=kept/\prs=prs/\lost=lost/\all=all/\kn=kn/\rall=rall/\rows2=rows2/\kept2=kept2/\prs2=prs2/\lost2=lost2/\all2=all2/\kn2=kn2/\rall2=rall2/\i64.wrap ((x:Int)+1)=(x_1:Int)/\rows=rows/\kept=kept/\prs=prs/\lost=lost/\all=all/\kn=kn/\rall=rall/\rows2=rows2/\kept2=kept2/\prs2=prs2/\lost2=lost2/\all2=all2/\kn2=kn2/\rall2=rall2))/\(decide
 ((x:Int)<(prs.length:Int))=false->(∃x:Nat,(x<=kn.length/\∀k:Nat,k<x->fv kn k 0=fv kn2 k 0/\fv kn k 1=fv kn2 k
 1)/\rows=rows/\kept=kept/\prs=prs/\lost=lost/\all=all/\kn=kn/\rall=rall/\rows2=rows2/\kept2=kept2/\prs2=prs2/\lost2=lost2/\all2=all2/\kn2=kn2/\rall2=rall2/\0=(x:Int)/\rows=rows/\kept=kept/\prs=prs/\lost=lost/\all=all/\kn=kn/\rall=rall/\rows2=rows2/\kept2=kept2/\prs2=prs2/\lost2=lost2/\all2=all2/\kn2=kn2/\rall2=rall2)/\∀x:Nat,(x<=kn.length/\∀k:Nat,k<x->fv kn k 0=fv kn2 k 0/\fv kn k 1=fv kn2 k
 1)->I64 (kn.length:Int)->(decide ((x:Int)<(kn.length:Int))->(0<=(x:Int)/\(x:Int)<(kn.length:Int))/\(0<=(x:Int)/\(x:Int)<(kn2.length:Int))/\((!(decide (((kn.getD x default).f 0).toInt=((kn2.getD x default).f 0).toInt)&&(decide (((kn.getD x default).f 1).toInt=((kn2.getD x default).f 1).toInt)&&true)))=true->dec (SameS (SumD.mk rows kept prs lost all kn rall) (SumD.mk rows2 kept2 prs2 lost2 all2 kn2
 rall2))=false)/\((!(decide (((kn.getD x default).f 0).toInt=((kn2.getD x default).f 0).toInt)&&(decide (((kn.getD x default).f 1).toInt=((kn2.getD x default).f 1).toInt)&&true)))=false->∃x_1:Nat,((x_1<=kn.length/\∀k:Nat,k<x_1->fv kn k 0=fv kn2 k 0/\fv kn k 1=fv kn2 k
 1)/\kn.length-x_1<kn.length-x)/\rows=rows/\kept=kept/\prs=prs/\lost=lost/\all=all/\kn=kn/\rall=rall/\rows2=rows2/\kept2=kept2/\prs2=prs2/\lost2=lost2/\all2=all2/\kn2=kn2/\rall2=rall2/\i64.wrap ((x:Int)+1)=(x_1:Int)/\rows=rows/\kept=kept/\prs=prs/\lost=lost/\all=all/\kn=kn/\rall=rall/\rows2=rows2/\kept2=kept2/\prs2=prs2/\lost2=lost2/\all2=all2/\kn2=kn2/\rall2=rall2))/\(decide
 ((x:Int)<(kn.length:Int))=false->dec (SameS (SumD.mk rows kept prs lost all kn rall) (SumD.mk rows2 kept2 prs2 lost2 all2 kn2 rall2))=true)))):=by
 intro hw1 hw2 hw3 _ _ hw4 _ hw5 hw6 hw7 _ _ hw8 _;simp only[iv,kv,fv,nm];simp only[SameS,rws_eq,prs_eq,fv,kv];have l1:=hw1.1;have l3:=hw3.1;have l4:=hw4.1;refine⟨fun h h2=>?_,fun h0=>⟨⟨0,⟨by omega,fun k hk=>by omega⟩,rfl⟩,fun x hx _=>⟨fun hlt=>⟨by omega,by omega,fun h h2=>h (h2.1.2 x (by omega)),fun h=>⟨x+1,⟨⟨by omega,fun k hk=>?_⟩,by omega⟩,up_ok (n:=rows.length) (by omega) (by omega)⟩⟩,fun hlt=>
   ⟨⟨0,⟨by omega,fun k hk=>by omega⟩,rfl⟩,fun y hy _=>⟨fun hlt2=>⟨by omega,by omega,fun h h2=>?_,fun h=>⟨y+1,⟨⟨by omega,fun k hk=>?_⟩,by omega⟩,up_ok (n:=prs.length) (by omega) (by omega)⟩⟩,fun hlt2=>
   ⟨⟨0,⟨by omega,fun k hk=>by omega⟩,rfl⟩,fun z hz _=>⟨fun hlt3=>⟨by omega,by omega,fun h h2=>?_,fun h=>⟨z+1,⟨⟨by omega,fun k hk=>?_⟩,by omega⟩,up_ok (n:=kn.length) (by omega) (by omega)⟩⟩,fun hlt3=>?_⟩⟩⟩⟩⟩⟩⟩
 · obtain⟨a1,a2,a3,a4,a5,a6,a7⟩:=h2;rcases h with h | h | h | h | h | h | h
   · have:=a1.1;omega
   · exact h a2
   · exact h a4
   · exact h a5
   · exact h a7
   · have:=a3.1;omega
   · have:=a6.1;omega
 · rcases Nat.lt_or_ge k x with h1 | h1
   · exact hx.2 k h1
   · rw[show k=x from by omega];exact h
 · have:=h2.2.2.1.2 y (by omega)
   rcases h with h | h | h
   · exact h this.1
   · exact h this.2
   · cases h
 · rcases Nat.lt_or_ge k y with h1 | h1
   · exact hy.2 k h1
   · rw[show k=y from by omega];exact h
 · have:=h2.2.2.2.2.2.1.2 z (by omega)
   rcases h with h | h | h
   · exact h this.1
   · exact h this.2
   · cases h
 · rcases Nat.lt_or_ge k z with h1 | h1
   · exact hz.2 k h1
   · rw[show k=z from by omega];exact h
 · exact⟨⟨by omega,fun k hk=>hx.2 k (by omega)⟩,h0.2.1,⟨by omega,fun k hk=>hy.2 k (by omega)⟩,h0.2.2.1,h0.2.2.2.1,⟨by omega,fun k hk=>hz.2 k (by omega)⟩,h0.2.2.2.2.1⟩
def l21Sums_get:List SV->St->Option Got
 | [.agg [.sl (.sl (.int .i64)) rows,.sl (.int .i64) kept,.sl ty0 prs,.int .i64 lost,.int .i64 all,.sl ty1 kn,.int .i64 rall],.agg [.sl (.sl (.int .i64)) rows2,.sl (.int .i64) kept2,.sl ty2 prs2,.int .i64 lost2,.int .i64 all2,.sl ty3 kn2,.int .i64 rall2]],⟨[],[],[]⟩=>guardTy ty0 TPr (guardTy ty1 TPr (guardTy ty2 TPr (guardTy ty3 TPr (some (True,.bool (dec (SameS ⟨rows,kept,prs,lost,all,kn,rall⟩ ⟨rows2,kept2,prs2,lost2,all2,kn2,rall2⟩)),St.mk [] [] [])))))
 | _,_=>none
theorem l21Sums_ok:Ok0 prog 202 l21Sums_get:=by
 intro _ _ _ _ _ h hp;unfold l21Sums_get at h;split at h
 · rename_i rows kept _ prs lost all _ kn rall rows2 kept2 _ prs2 lost2 all2 _ kn2 rall2;replace h:=gT4 h;obtain⟨rfl,rfl,rfl,rfl,h⟩:=h;cases h;refine fl [l21Same_con] (fun k=>bif Nat.beq k 4 then some (.g (⟨Nat,fun s g=>hdb s [0,1,2,3,4] [(5,.int .i64 g)] s.bx s.rw,fun _ g=>g<=rows.length/\∀k,k<g->ints (kv rows k)=ints (kv rows2 k),fun g=>rows.length-g⟩)) else bif Nat.beq k 9 then some (.g (⟨Nat,fun s g=>hdb s [0,1,2,3,4] [(6,.int .i64 g)] s.bx s.rw,fun _ g=>g<=prs.length/\∀k,k<g->fv prs k 0=fv prs2 k 0/\fv prs k 1=fv prs2 k 1,fun g=>prs.length-g⟩)) else bif Nat.beq k 14 then some (.g (⟨Nat,fun s g=>hdb s [0,1,2,3,4] [(7,.int .i64 g)] s.bx s.rw,fun _ g=>g<=kn.length/\∀k,k<g->fv kn k 0=fv kn2 k 0/\fv kn k 1=fv kn2 k 1,fun g=>kn.length-g⟩)) else none) func202 ?_;apply VC.thru (l21Sums_vc rows kept prs kn rows2 kept2 prs2 kn2 lost all rall lost2 all2 rall2);kernel_rfl
 · cases h
def l21Sums_con:Con prog:=.f0 202 [] true l21Sums_get (en func202 rfl) l21Sums_ok
def sumD (d:Dat):SumD:=⟨((d.f 0).f 0).kids,((d.f 1).f 0).kids,((d.f 2).f 0).kids,((d.f 2).f 1).toInt,((d.f 2).f 2).toInt,((d.f 3).f 0).kids,((d.f 3).f 1).toInt⟩
abbrev bornOf (nodes:List Dat) (a:Nat):Int:=fv nodes a 0
abbrev pastOf (past:List Dat) (a b:Nat):List Dat:=kv (kv past a) b
def ThingsIn (l:List Dat):Prop:=(∀k,k<l.length->0<=iv l k/\iv l k<=63)/\l.length<=100
def PastIn (nodes past:List Dat) (a:Nat):Prop:=((kv past a).length:Int)=bornOf nodes a+1/\(pastOf past a 0).length=0/\∀b,b<(kv past a).length->ThingsIn (pastOf past a b)
def NetPast (nodes past:List Dat):Prop:=nodes.length=5/\past.length=5/\∀a,a<5->1<=bornOf nodes a/\bornOf nodes a<=20/\PastIn nodes past a
def entSum (past:List Dat) (node born num:Int):SumD:=sumOf (ints ((pastOf past node.toNat born.toNat).take num.toNat))
theorem wfl_kids {e:Ty} {l:List Dat} (h:WFl (.sl e) l) (i:Nat):WFl e (l.getD i default).kids:=by
 rcases Nat.lt_or_ge i l.length with h1 | h1
 · exact (wf_sl (wfl_get h h1)).1
 · rw[List.getD_eq_getElem?_getD,List.getElem?_eq_none h1];exact⟨Nat.zero_le _,fun x hx=>by cases hx⟩
def EntIn (nodes past:List Dat) (node born num:Int) (x:SumD):Prop:=0<=node/\node<=4/\1<=born/\born<=bornOf nodes node.toNat/\0<=num/\num<=((pastOf past node.toNat born.toNat).length:Int)/\SameS (entSum past node born num) x
def EntInD (nodes past:List Dat) (d:Dat):Prop:=EntIn nodes past (d.f 0).toInt (d.f 1).toInt (d.f 2).toInt (sumD (d.f 3))
def KnownTo (nodes past l:List Dat) (n:Nat):Prop:=∀i,i<n->EntInD nodes past (l.getD i default)/\(0<i->fv l (i-1) 0<fv l i 0)
theorem ThingsIn.ints {l:List Dat} (h:ThingsIn l):∀t∈ints l,0<=t/\t<64:=fun t ht=>by
 obtain⟨k,hk,rfl⟩:=mem_ints ht
 have:=h.1 k hk
 omega
theorem NetPast.things {nodes past:List Dat} (h:NetPast nodes past) {a b:Nat} (ha:a<5) (hb:(b:Int)<=bornOf nodes a):b<(kv past a).length/\ThingsIn (pastOf past a b):=by
 have h1:=(h.2.2 a ha).2.2;have h2:b<(kv past a).length:=by have:=h1.1;omega
 exact⟨h2,h1.2.2 b h2⟩
theorem l21Link_vc (a b:Int) (hp:0<=a/\a<1000/\0<=b/\b<1000) :
 I64 a->I64 b->i64.wrap (i64.wrap (a*5)+b)=a*5+b:=by
 intro _ _;rw[wrap_ok (n:=a*5) (by omega) (by omega),wrap_ok (by omega) (by omega)]
def l21Link_get:List SV->St->Option Got
 | [.int .i64 a,.int .i64 b],⟨[],[],[]⟩=>some (0<=a/\a<1000/\0<=b/\b<1000,.int .i64 (a*5+b),St.mk [] [] [])
 | _,_=>none
theorem l21Link_ok:Ok0 prog 98 l21Link_get:=by
 intro _ _ _ _ _ h hp;unfold l21Link_get at h;split at h
 · rename_i a b;cases h;refine fz [] func98 ?_;apply VC.thru (l21Link_vc a b hp);kernel_rfl
 · cases h
def l21Link_con:Con prog:=.f0 98 [] true l21Link_get (en func98 rfl) l21Link_ok
theorem l21PastOk_vc (nodes links words past:List Dat) (i:Int) (hp:nodes.length=5/\past.length=5/\0<=i/\i<5/\1<=bornOf nodes i.toNat/\bornOf nodes i.toNat<=20) :
 WFl TNode nodes->WFl Ty.bool links->WFl TWord words->WFl (Ty.int i64).sl.sl past->I64 i->((0<=i/\i<(past.length:Int))/\(I64 (↑(past.getD i.toNat default).kids.length:Int)->(0<=i/\i<(nodes.length:Int))/\(I64 ((nodes.getD i.toNat default).f 0).toInt->(decide ((↑(past.getD i.toNat default).kids.length:Int)≠i64.wrap (((nodes.getD i.toNat default).f
 0).toInt+(1:Int)))=false->(0<=i/\i<(past.length:Int))/\0<=(0:Int)/\0<(↑(past.getD i.toNat default).kids.length:Int))/\True)))/\((decide ((↑(past.getD i.toNat default).kids.length:Int)≠i64.wrap (((nodes.getD i.toNat default).f 0).toInt+(1:Int)))||decide ((↑((past.getD i.toNat default).kids.getD 0 default).kids.length:Int)≠0))=true->dec (PastIn nodes past i.toNat)=false)/\((decide ((↑(past.getD
 i.toNat default).kids.length:Int)≠i64.wrap (((nodes.getD i.toNat default).f 0).toInt+(1:Int)))||decide ((↑((past.getD i.toNat default).kids.getD 0 default).kids.length:Int)≠0))=false->(∃x:Nat,(x<=(kv past i.toNat).length/\∀b:Nat,b<x->ThingsIn (pastOf past i.toNat b))/\i=i/\0=(x:Int)/\nodes=nodes/\links=links/\words=words/\past=past)/\∀x:Nat,(x<=(kv past i.toNat).length/\∀b:Nat,b<x->ThingsIn
 (pastOf past i.toNat b))->(0<=i/\i<(past.length:Int))/\(I64 (↑(past.getD i.toNat default).kids.length:Int)->(decide ((x:Int)<(↑(past.getD i.toNat default).kids.length:Int))->(∃x_1:Nat,(x_1<=(pastOf past i.toNat x).length/\∀k:Nat,k<x_1->0<=iv (pastOf past i.toNat x) k/\iv (pastOf past i.toNat x)
 k<=63)/\i=i/\(x:Int)=(x:Int)/\0=(x_1:Int)/\nodes=nodes/\links=links/\words=words/\past=past)/\∀x_1:Nat,(x_1<=(pastOf past i.toNat x).length/\∀k:Nat,k<x_1->0<=iv (pastOf past i.toNat x) k/\iv (pastOf past i.toNat x) k<=63)->(0<=i/\i<(past.length:Int))/\(0<=(x:Int)/\(x:Int)<(↑(past.getD i.toNat default).kids.length:Int))/\(I64 (↑((past.getD i.toNat default).kids.getD x
 default).kids.length:Int)->(decide ((x_1:Int)<(↑((past.getD i.toNat default).kids.getD x default).kids.length:Int))->(0<=i/\i<(past.length:Int))/\(0<=(x:Int)/\(x:Int)<(↑(past.getD i.toNat default).kids.length:Int))/\(0<=(x_1:Int)/\(x_1:Int)<(↑((past.getD i.toNat default).kids.getD x default).kids.length:Int))/\(I64 (((past.getD i.toNat default).kids.getD x default).kids.getD x_1
 default).toInt->True/\((!(decide (0<=(((past.getD i.toNat default).kids.getD x default).kids.getD x_1 default).toInt)&&decide ((((past.getD i.toNat default).kids.getD x default).kids.getD x_1 default).toInt<=(63:Int))))=true->dec (PastIn nodes past i.toNat)=false)/\((!(decide (0<=(((past.getD i.toNat default).kids.getD x default).kids.getD x_1 default).toInt)&&decide ((((past.getD i.toNat
 default).kids.getD x default).kids.getD x_1 default).toInt<=(63:Int))))=false->∃x_2:Nat,((x_2<=(pastOf past i.toNat x).length/\∀k:Nat,k<x_2->0<=iv (pastOf past i.toNat x) k/\iv (pastOf past i.toNat x) k<=63)/\1000000000000000-x_2<1000000000000000-x_1)/\i=i/\(x:Int)=(x:Int)/\i64.wrap ((x_1:Int)+1)=(x_2:Int)/\nodes=nodes/\links=links/\words=words/\past=past)))/\(decide ((x_1:Int)<(↑((past.getD
 i.toNat default).kids.getD x default).kids.length:Int))=false->(0<=i/\i<(past.length:Int))/\(0<=(x:Int)/\(x:Int)<(↑(past.getD i.toNat default).kids.length:Int))/\(I64 (↑((past.getD i.toNat default).kids.getD x default).kids.length:Int)->(decide ((↑((past.getD i.toNat default).kids.getD x default).kids.length:Int) > (100:Int))->dec (PastIn nodes past i.toNat)=false)/\(decide ((↑((past.getD i.toNat
 default).kids.getD x default).kids.length:Int) > (100:Int))=false->∃x_2:Nat,((x_2<=(kv past i.toNat).length/\∀b:Nat,b<x_2->ThingsIn (pastOf past i.toNat b))/\(kv past i.toNat).length-x_2<(kv past i.toNat).length-x)/\i=i/\i64.wrap ((x:Int)+1)=(x_2:Int)/\nodes=nodes/\links=links/\words=words/\past=past)))))/\(decide ((x:Int)<(↑(past.getD i.toNat default).kids.length:Int))=false->dec (PastIn nodes
 past i.toNat)=true))):=by
 intro hw1 hw2 hw3 hw4 _;simp only[iv,kv,fv,nm];obtain⟨hn,hpl,h0,h5,hb1,hb2⟩:=hp;simp only[bornOf,fv] at hb1 hb2;have hw5:=wfl_kids hw4 i.toNat;have hw6:=fun b=>wfl_kids hw5 b
 rw[wrap_ok (by omega) (by omega),hn,hpl];have hPI:PastIn nodes past i.toNat ↔ (((past.getD i.toNat default).kids.length:Int)=((nodes.getD i.toNat default).f 0).toInt+1/\((past.getD i.toNat default).kids.getD 0 default).kids.length=0/\∀b,b<(past.getD i.toNat default).kids.length->(∀k,k<((past.getD i.toNat default).kids.getD b default).kids.length->0<=(((past.getD i.toNat default).kids.getD b default).kids.getD k default).toInt/\(((past.getD i.toNat default).kids.getD b default).kids.getD k default).toInt<=63)/\((past.getD i.toNat default).kids.getD b default).kids.length<=100):=Iff.rfl;have hTI:∀b,ThingsIn (pastOf past i.toNat b) ↔ ((∀k,k<((past.getD i.toNat default).kids.getD b default).kids.length->0<=(((past.getD i.toNat default).kids.getD b default).kids.getD k default).toInt/\(((past.getD i.toNat default).kids.getD b default).kids.getD k default).toInt<=63)/\((past.getD i.toNat default).kids.getD b default).kids.length<=100):=fun _=>Iff.rfl
 simp only[hPI,hTI,pastOf,kv];generalize (past.getD i.toNat default).kids=row at *
 refine⟨⟨by omega,fun _=>⟨by omega,fun _ h=>⟨by omega,by omega,by omega⟩⟩⟩,fun h h2=>?_,fun h=>⟨⟨0,⟨by omega,fun b hb=>by omega⟩,rfl⟩,fun x hx=>⟨by omega,fun _=>⟨fun hlt=>⟨⟨0,⟨by omega,fun k hk=>by omega⟩,rfl⟩,fun y hy=>⟨by omega,by omega,fun _=>⟨fun hlt2=>⟨by omega,by omega,by omega,fun _=>⟨fun hn2 h2=>?_,fun hn2=>⟨y+1,⟨⟨by omega,fun k hk=>?_⟩,?_⟩,up_ok (n:=1000000000000000) ?_ (by omega)⟩⟩⟩,fun hlt2=>?_⟩⟩⟩,fun hlt=>?_⟩⟩⟩⟩
 · rcases h with h | h
   · exact h h2.1
   · have:=h2.2.1;omega
 · have:=(h2.2.2 x (by omega)).1 y (by omega)
   rcases hn2 with h3 | h3
   · exact h3 this.1
   · exact h3 this.2
 · rcases Nat.lt_or_ge k y with h1 | h1
   · exact hy.2 k h1
   · rw[show k=y from by omega];exact hn2
 · have:=(hw6 x).1;omega
 · have:=(hw6 x).1;omega
 · refine⟨by omega,by omega,fun _=>⟨fun h3 h2=>by have:=(h2.2.2 x (by omega)).2;omega,fun h3=>⟨x+1,⟨⟨by omega,fun b hb=>?_⟩,by omega⟩,up_ok (n:=row.length) (by omega) (by have:=hw5.1;omega)⟩⟩⟩;rcases Nat.lt_or_ge b x with h1 | h1
   · exact hx.2 b h1
   · rw[show b=x from by omega];exact⟨fun k hk=>hy.2 k (by omega),by omega⟩
 · exact⟨h.1,by omega,fun b hb=>hx.2 b (by omega)⟩
def l21PastOk_get:List SV->St->Option Got
 | [.agg [.sl ty0 nodes,.sl .bool _,.sl ty1 _,.sl (.sl (.sl (.int .i64))) past],.int .i64 i],⟨[],[],[]⟩=>guardTy ty0 TNode (guardTy ty1 TWord (some (nodes.length=5/\past.length=5/\0<=i/\i<5/\1<=bornOf nodes i.toNat/\bornOf nodes i.toNat<=20,.bool (dec (PastIn nodes past i.toNat)),St.mk [] [] [])))
 | _,_=>none
theorem l21PastOk_ok:Ok0 prog 97 l21PastOk_get:=by
 intro _ _ _ _ _ h hp;unfold l21PastOk_get at h;split at h
 · rename_i nodes links _ words past i;replace h:=gT2 h;obtain⟨rfl,rfl,h⟩:=h;cases h;refine fl [l6In_con] (fun k=>bif Nat.beq k 4 then some (.g (⟨Nat,fun s g=>hdb s [1,2,4] [(5,.int .i64 g)] s.bx s.rw,fun _ g=>g<=(kv past i.toNat).length/\∀b,b<g->ThingsIn (pastOf past i.toNat b),fun g=>(kv past i.toNat).length-g⟩)) else bif Nat.beq k 7 then some (.g (⟨Nat,fun s g=>hdb s [1,2,4,5] [(6,.int .i64 g)] s.bx s.rw,fun s g=>g<=(pastOf past i.toNat (svN s 5)).length/\∀k,k<g->0<=iv (pastOf past i.toNat (svN s 5)) k/\iv (pastOf past i.toNat (svN s 5)) k<=63,fun g=>1000000000000000-g⟩)) else none) func97 ?_;apply VC.thru (l21PastOk_vc nodes links words past i hp);kernel_rfl
 · cases h
def l21PastOk_con:Con prog:=.f0 97 [] true l21PastOk_get (en func97 rfl) l21PastOk_ok
mutual
def tot:Ty->Dat->Nat
 | .sl e,d=>d.kids.length+(d.kids.map (tot e)).sum
 | .st fs,d=>tots fs d 0
 | _,_=>0
def tots:List Ty->Dat->Nat->Nat
 | f::fs,d,i=>tot f (d.f i)+tots fs d (i+1)
 | [],_,_=>0
end
def totL (e:Ty) (ds:List Dat):Nat:=ds.length+(ds.map (tot e)).sum
def totP (e:Ty) (ds:List Dat) (g:Nat):Nat:=((ds.take g).map (tot e)).sum
theorem totP_zero (e:Ty) (ds:List Dat):totP e ds 0=0:=rfl
theorem totP_next {e:Ty} {ds:List Dat} {g:Nat} (h:g<ds.length):totP e ds (g+1)=totP e ds g+tot e (ds.getD g default):=by
 unfold totP;rw[List.take_add_one,List.getElem?_eq_getElem h,List.map_append,List.sum_append,List.getD_eq_getElem?_getD,List.getElem?_eq_getElem h];simp
theorem totP_all {e:Ty} {ds:List Dat} {g:Nat} (h:ds.length<=g):totL e ds=ds.length+totP e ds g:=by
 rw[totL,totP,List.take_of_length_le h]
theorem totP_le {e:Ty} (ds:List Dat) (g:Nat):ds.length+totP e ds g<=totL e ds:=by
 rw[totL,totP];have h:((ds.take g).map (tot e)).sum+((ds.drop g).map (tot e)).sum=(ds.map (tot e)).sum:=by
   rw[<- List.sum_append,<- List.map_append,List.take_append_drop]
 omega
theorem tot_elem {e:Ty} {ds:List Dat} {g:Nat} (h:g<ds.length):tot e (ds.getD g default)<=totL e ds:=by
 have:=totP_le (e:=e) ds (g+1)
 rw[totP_next h] at this;omega
theorem totL_length (e:Ty) (ds:List Dat):ds.length<=totL e ds:=Nat.le_add_right _ _
theorem totL_flat {e:Ty} (he:∀d,tot e d=0) (ds:List Dat):totL e ds=ds.length:=by
 rw[totL]
 have:(ds.map (tot e)).sum=0:=by
   induction ds with
   | nil=>rfl
   | cons a l ih=>rw[List.map_cons,List.sum_cons,he,ih]
 omega
theorem tot_int (k:IntKind) (d:Dat):tot (.int k) d=0:=by rw[tot];all_goals (intros;simp_all)
theorem tot_bool (d:Dat):tot .bool d=0:=by rw[tot];all_goals (intros;simp_all)
def szR (n:Nat) (left:Int):Int:=if left<n then -1 else left-n
theorem szR_no {n:Nat} {left:Int} (h:left<n):szR n left=-1:=if_pos h
theorem szR_ge {n:Nat} {left:Int} (h:(n:Int)<=left):szR n left=left-n:=if_neg (by omega)
theorem szR_neg {n:Nat} {left:Int} (h:szR n left<0):left<n:=by unfold szR at h;split at h<;>omega
theorem szR_pos {n:Nat} {left:Int} (h:¬szR n left<0):(n:Int)<=left:=by unfold szR at h;split at h<;>omega
inductive MK where
 | int | bool | keep | sl (m:MK) | st (ms:List MK)
def walkD (f:Dat->Int->Dat×Int):List Dat->Int->List Dat×Int
 | [],k=>([],k)
 | d::l,k=>((f d k).1::(walkD f l (f d k).2).1,(walkD f l (f d k).2).2)
mutual
def markD:MK->Dat->Int->Dat×Int
 | .int,_,k=>(.int k,k+1)
 | .bool,_,k=>(.bool (decide (k.tmod 3=0)),k+1)
 | .keep,d,k=>(d,k)
 | .sl m,d,k=>(.node (walkD (markD m) d.kids k).1,(walkD (markD m) d.kids k).2)
 | .st ms,d,k=>(.node (markF ms d 0 k).1,(markF ms d 0 k).2)
def markF:List MK->Dat->Nat->Int->List Dat×Int
 | [],_,_,k=>([],k)
 | m::ms,d,i,k=>((markD m (d.f i) k).1::(markF ms d (i+1) (markD m (d.f i) k).2).1,(markF ms d (i+1) (markD m (d.f i) k).2).2)
end
theorem walkD_length (f:Dat->Int->Dat×Int):∀(l:List Dat) (k:Int),(walkD f l k).1.length=l.length
 | [],_=>rfl
 | d::l,k=>by rw[walkD,List.length_cons,walkD_length f l,List.length_cons]
theorem walkD_append (f:Dat->Int->Dat×Int):∀(a b:List Dat) (k:Int),walkD f (a++b) k=((walkD f a k).1++(walkD f b (walkD f a k).2).1,(walkD f b (walkD f a k).2).2)
 | [],_,_=>rfl
 | d::a,b,k=>by rw[List.cons_append,walkD,walkD_append f a b,walkD];rfl
theorem takeD_next {α:Type} [Inhabited α] {l:List α} {g:Nat} (h:g<l.length):l.take (g+1)=l.take g++[l.getD g default]:=by
 rw[List.take_add_one,List.getElem?_eq_getElem h,List.getD_eq_getElem?_getD,List.getElem?_eq_getElem h];rfl
theorem walkD_next (f:Dat->Int->Dat×Int) {l:List Dat} {g:Nat} (k:Int) (h:g<l.length):walkD f (l.take (g+1)) k=((walkD f (l.take g) k).1++[(f (l.getD g default) (walkD f (l.take g) k).2).1],(f (l.getD g default) (walkD f (l.take g) k).2).2):=by
 rw[takeD_next h,walkD_append];rfl
def halfD (f:Dat->Int->Dat×Int) (l:List Dat) (k:Int) (g:Nat):List Dat:=(walkD f (l.take g) k).1++l.drop g
def uptoD (f:Dat->Int->Dat×Int) (l:List Dat) (k:Int) (g:Nat):Int:=(walkD f (l.take g) k).2
theorem halfD_length (f:Dat->Int->Dat×Int) (l:List Dat) (k:Int) {g:Nat}:(halfD f l k g).length=l.length:=by
 rw[halfD,List.length_append,walkD_length,List.length_take,List.length_drop];omega
theorem halfD_at (f:Dat->Int->Dat×Int) {l:List Dat} (k:Int) {g:Nat} (h:g<l.length):(halfD f l k g).getD g default=l.getD g default:=by
 rw[halfD,List.getD_eq_getElem?_getD,List.getElem?_append_right (by rw[walkD_length,List.length_take];omega),walkD_length,List.length_take,List.getElem?_drop,List.getD_eq_getElem?_getD]
 congr 2;omega
theorem halfD_next (f:Dat->Int->Dat×Int) {l:List Dat} (k:Int) {g:Nat} (h:g<l.length):halfD f l k (g+1)=(halfD f l k g).set g (f (l.getD g default) (uptoD f l k g)).1:=by
 have hl:(walkD f (l.take g) k).1.length=g:=by rw[walkD_length,List.length_take];omega
 rw[halfD,halfD,walkD_next f k h,List.append_assoc,List.set_append_right _ _ (by rw[hl];exact Nat.le_refl _),hl,Nat.sub_self]
 congr 1
 rw[List.drop_eq_getElem_cons h];rfl
theorem uptoD_next (f:Dat->Int->Dat×Int) {l:List Dat} (k:Int) {g:Nat} (h:g<l.length):uptoD f l k (g+1)=(f (l.getD g default) (uptoD f l k g)).2:=by
 rw[uptoD,walkD_next f k h];rfl
theorem halfD_all (f:Dat->Int->Dat×Int) {l:List Dat} (k:Int) {g:Nat} (h:l.length<=g):halfD f l k g=(walkD f l k).1:=by
 rw[halfD,List.take_of_length_le h,List.drop_of_length_le h,List.append_nil]
theorem uptoD_all (f:Dat->Int->Dat×Int) {l:List Dat} (k:Int) {g:Nat} (h:l.length<=g):uptoD f l k g=(walkD f l k).2:=by
 rw[uptoD,List.take_of_length_le h]
theorem walkD_at (f:Dat->Int->Dat×Int):∀{l:List Dat} {k:Int} {g:Nat},(walkD f l k).1=l->g<l.length->(f (l.getD g default) (uptoD f l k g)).1=l.getD g default
 | [],_,_,_,h=>absurd h (by simp)
 | d::l,k,0,h,_=>by
   rw[walkD] at h;exact (List.cons.inj h).1
 | d::l,k,g+1,h,hg=>by
   rw[walkD] at h
   have:=walkD_at f (List.cons.inj h).2 (g:=g) (by simpa using hg)
   exact this
theorem walkD_bound {f:Dat->Int->Dat×Int} {t:Dat->Nat} (c:Int):∀(l:List Dat) (k:Int),(∀d∈l,∀k,k<=(f d k).2/\(f d k).2<=k+c*t d)->k<=(walkD f l k).2/\(walkD f l k).2<=k+c*((l.map t).sum:Nat)
 | [],k,_=>by simp [walkD]
 | d::l,k,h=>by
   have h1:=h d List.mem_cons_self k;have h2:=walkD_bound c l (f d k).2 (fun d' hd=>h d' (List.mem_cons_of_mem _ hd));rw[walkD,List.map_cons,List.sum_cons,Int.natCast_add,Int.mul_add];simp only;omega
theorem tot_is (e:Ty) (d:Dat):tot (.sl e) d=totL e d.kids:=by rw[tot,totL]
theorem tot_ent (d:Dat):tot TEnt d=totL (.sl (.int .i64)) (((d.f 3).f 0).f 0).kids+totL (.int .i64) (((d.f 3).f 1).f 0).kids+totL TPr (((d.f 3).f 2).f 0).kids+totL TPr (((d.f 3).f 3).f 0).kids:=by
 simp only[TEnt,TNode,TWord,TPr,tot,tots,totL,Nat.zero_add,Nat.add_zero,Nat.add_assoc]
theorem tot_nd (d:Dat):tot TNode d=totL TEnt (d.f 1).kids:=by simp only[TEnt,TNode,TWord,TPr,tot,tots,totL,Nat.zero_add,Nat.add_zero,Nat.add_assoc]
theorem tot_wd (d:Dat):tot TWord d=totL TEnt (d.f 5).kids:=by simp only[TEnt,TNode,TWord,TPr,tot,tots,totL,Nat.zero_add,Nat.add_zero,Nat.add_assoc]
theorem szIntS_vc (l:List Dat) (left:Int) (hp:0<=left/\left<=1048576) :
 WFl (Ty.int i64) l->I64 left->I64 (l.length:Int)->(decide (i64.wrap (left-(l.length:Int))<0)->-1=szR (totL (Ty.int i64) l) left)/\(decide (i64.wrap (left-(l.length:Int))<0)=false->i64.wrap (left-(l.length:Int))=szR (totL (Ty.int i64) l) left):=by
 intro hw _;simp only[iv,kv,fv,nm];have h1:=hw.1;intro _;rw[totL_flat (tot_int _),wrap_ok (by omega) (by omega)];unfold szR;refine⟨fun h=>by rw[if_pos (by omega)],fun h=>by rw[if_neg (by omega)]⟩
def szIntS_get:List SV->St->Option Got
 | [.sl (.int .i64) l,.int .i64 left],⟨[],[],[]⟩=>some (0<=left/\left<=1048576,.int .i64 (szR (totL (.int .i64) l) left),St.mk [] [] [])
 | _,_=>none
theorem szIntS_ok:Ok0 prog 163 szIntS_get:=by
 intro _ _ _ _ _ h hp;unfold szIntS_get at h;split at h
 · rename_i l left;cases h;refine fz [] func163 ?_;apply VC.thru (szIntS_vc l left hp);kernel_rfl
 · cases h
def szIntS_con:Con prog:=.f0 163 [] true szIntS_get (en func163 rfl) szIntS_ok
theorem szIntSS_vc (l:List Dat) (left:Int) (hp:0<=left/\left<=1048576) :
 WFl (Ty.int i64).sl l->I64 left->I64 (l.length:Int)->(decide (i64.wrap (left-(l.length:Int))<0)->-1=szR (totL (Ty.int i64).sl l) left)/\(decide (i64.wrap (left-(l.length:Int))<0)=false->(∃x:Nat,(x<=l.length/\(l.length:Int)+(↑(totP (Ty.int i64).sl l x):Int)<=left)/\l=l/\i64.wrap (left-(l.length:Int))=left-(l.length:Int)-(↑(totP (Ty.int i64).sl l
 x):Int)/\0=(x:Int))/\∀x:Nat,x<=l.length/\(l.length:Int)+(↑(totP (Ty.int i64).sl l x):Int)<=left->I64 (l.length:Int)->(decide ((x:Int)<(l.length:Int))->(0<=(x:Int)/\(x:Int)<(l.length:Int))/\(0<=left-(l.length:Int)-(↑(totP (Ty.int i64).sl l x):Int)/\left-(l.length:Int)-(↑(totP (Ty.int i64).sl l x):Int)<=1048576)/\(decide (szR (totL (Ty.int i64) (l.getD x default).kids) (left-(l.length:Int)-(↑(totP
 (Ty.int i64).sl l x):Int))<0)->-1=szR (totL (Ty.int i64).sl l) left)/\(decide (szR (totL (Ty.int i64) (l.getD x default).kids) (left-(l.length:Int)-(↑(totP (Ty.int i64).sl l x):Int))<0)=false->∃x_1:Nat,((x_1<=l.length/\(l.length:Int)+(↑(totP (Ty.int i64).sl l x_1):Int)<=left)/\l.length-x_1<l.length-x)/\l=l/\szR (totL (Ty.int i64) (l.getD x default).kids) (left-(l.length:Int)-(↑(totP (Ty.int
 i64).sl l x):Int))=left-(l.length:Int)-(↑(totP (Ty.int i64).sl l x_1):Int)/\i64.wrap ((x:Int)+1)=(x_1:Int)))/\(decide ((x:Int)<(l.length:Int))=false->left-(l.length:Int)-(↑(totP (Ty.int i64).sl l x):Int)=szR (totL (Ty.int i64).sl l) left)):=by
 intro hw
 intros
 simp only[iv,kv,fv,nm];have h1:=hw.1;have h2:=totL_length (.sl (.int .i64)) l;have eT:∀d,tot (.sl (.int .i64)) d=_:=tot_is _;rw[wrap_ok (by omega) (by omega)];refine⟨fun h=>by rw[szR_no (by omega)],fun h=>⟨⟨0,⟨by omega,by rw[totP_zero];omega⟩,by rw[totP_zero];omega,rfl⟩,fun x hx _=>⟨fun hlt=>?_,fun hlt=>?_⟩⟩⟩
 · have h3:=totP_next (e:=(.sl (.int .i64))) (ds:=l) (g:=x) (by omega);have h4:=totP_le (e:=(.sl (.int .i64))) l (x+1);rw[eT] at h3;refine⟨⟨by omega,by omega⟩,⟨by omega,by omega⟩,fun h=>?_,fun h=>?_⟩
   · have:=szR_neg h;rw[szR_no (by omega)]
   · have:=szR_pos h;rw[szR_ge this];exact⟨x+1,⟨⟨by omega,by omega⟩,by omega⟩,by omega,up_ok (n:=l.length) (by omega) (by omega)⟩
 · have h3:=totP_all (e:=(.sl (.int .i64))) (ds:=l) (g:=x) (by omega);rw[szR_ge (by omega)];omega
def szIntSS_get:List SV->St->Option Got
 | [.sl (.sl (.int .i64)) l,.int .i64 left],⟨[],[],[]⟩=>some (0<=left/\left<=1048576,.int .i64 (szR (totL (.sl (.int .i64)) l) left),St.mk [] [] [])
 | _,_=>none
theorem szIntSS_ok:Ok0 prog 129 szIntSS_get:=by
 intro _ _ _ _ _ h hp;unfold szIntSS_get at h;split at h
 · rename_i l left;cases h;refine fl [szIntS_con] (fun k=>bif Nat.beq k 5 then some (.g (⟨Nat,fun s g=>hd s [0] [(1,.int .i64 (left-l.length-totP (.sl (.int .i64)) l g)),(5,.int .i64 g)] s.rw,fun _ g=>g<=l.length/\l.length+totP (.sl (.int .i64)) l g<=left,fun g=>l.length-g⟩)) else none) func129 ?_;apply VC.thru (szIntSS_vc l left hp);kernel_rfl
 · cases h
def szIntSS_con:Con prog:=.f0 129 [] false szIntSS_get (en func129 rfl) szIntSS_ok
theorem szRough_vc (rows:List Dat) (left:Int) (hp:0<=left/\left<=1048576) :
 WFl (Ty.int i64).sl rows->I64 left->(0<=left/\left<=1048576)/\(decide (szR (totL (Ty.int i64).sl rows) left<0)->-1=szR (totL (Ty.int i64).sl rows) left)/\(decide (szR (totL (Ty.int i64).sl rows) left<0)=false->szR (totL (Ty.int i64).sl rows) left=szR (totL (Ty.int i64).sl rows) left):=by
 intros
 simp only[iv,kv,fv,nm]
 ((repeat (first
   | (refine⟨⟨by omega,by omega⟩,fun h=>(by have h':=szR_neg h;rw[szR_no (by omega)]),fun h=>?_⟩;have h':=szR_pos h;(try simp only[szR_ge h']))
   | (refine⟨⟨by omega,by omega⟩,fun h=>(by have h':=szR_neg h;rw[szR_no (by omega)])⟩)));all_goals (first | rfl | (rw[szR_ge (by omega)];omega)))
def szRough_get:List SV->St->Option Got
 | [.agg [.sl (.sl (.int .i64)) rows],.int .i64 left],⟨[],[],[]⟩=>some (0<=left/\left<=1048576,.int .i64 (szR (totL (.sl (.int .i64)) rows) left),St.mk [] [] [])
 | _,_=>none
theorem szRough_ok:Ok0 prog 164 szRough_get:=by
 intro _ _ _ _ _ h hp;unfold szRough_get at h;split at h
 · rename_i rows left;cases h;refine fz [szIntSS_con] func164 ?_;apply VC.thru (szRough_vc rows left hp);kernel_rfl
 · cases h
def szRough_con:Con prog:=.f0 164 [] false szRough_get (en func164 rfl) szRough_ok
theorem szFew_vc (kept:List Dat) (left:Int) (hp:0<=left/\left<=1048576) :
 WFl (Ty.int i64) kept->I64 left->(0<=left/\left<=1048576)/\(decide (szR (totL (Ty.int i64) kept) left<0)->-1=szR (totL (Ty.int i64) kept) left)/\(decide (szR (totL (Ty.int i64) kept) left<0)=false->szR (totL (Ty.int i64) kept) left=szR (totL (Ty.int i64) kept) left):=by
 intros
 simp only[iv,kv,fv,nm]
 ((repeat (first
   | (refine⟨⟨by omega,by omega⟩,fun h=>(by have h':=szR_neg h;rw[szR_no (by omega)]),fun h=>?_⟩;have h':=szR_pos h;(try simp only[szR_ge h']))
   | (refine⟨⟨by omega,by omega⟩,fun h=>(by have h':=szR_neg h;rw[szR_no (by omega)])⟩)));all_goals (first | rfl | (rw[szR_ge (by omega)];omega)))
def szFew_get:List SV->St->Option Got
 | [.agg [.sl (.int .i64) kept],.int .i64 left],⟨[],[],[]⟩=>some (0<=left/\left<=1048576,.int .i64 (szR (totL (.int .i64) kept) left),St.mk [] [] [])
 | _,_=>none
theorem szFew_ok:Ok0 prog 165 szFew_get:=by
 intro _ _ _ _ _ h hp;unfold szFew_get at h;split at h
 · rename_i kept left;cases h;refine fz [szIntS_con] func165 ?_;apply VC.thru (szFew_vc kept left hp);kernel_rfl
 · cases h
def szFew_con:Con prog:=.f0 165 [] true szFew_get (en func165 rfl) szFew_ok
theorem szPairS_vc (l:List Dat) (left:Int) (hp:0<=left/\left<=1048576) :
 WFl TPr l->I64 left->I64 (l.length:Int)->(decide (i64.wrap (left-(l.length:Int))<0)->-1=szR (totL TPr l) left)/\(decide (i64.wrap (left-(l.length:Int))<0)=false->i64.wrap (left-(l.length:Int))=szR (totL TPr l) left):=by
 intro hw _;simp only[iv,kv,fv,nm];have h1:=hw.1;intro _;rw[totL_flat (fun d=>by simp [tot,tots]),wrap_ok (by omega) (by omega)];unfold szR;refine⟨fun h=>by rw[if_pos (by omega)],fun h=>by rw[if_neg (by omega)]⟩
def szPairS_get:List SV->St->Option Got
 | [.sl ty0 l,.int .i64 left],⟨[],[],[]⟩=>guardTy ty0 TPr (some (0<=left/\left<=1048576,.int .i64 (szR (totL TPr l) left),St.mk [] [] []))
 | _,_=>none
theorem szPairS_ok:Ok0 prog 190 szPairS_get:=by
 intro _ _ _ _ _ h hp;unfold szPairS_get at h;split at h
 · rename_i l left;replace h:=gT h;obtain⟨rfl,h⟩:=h;cases h;refine fz [] func190 ?_;apply VC.thru (szPairS_vc l left hp);kernel_rfl
 · cases h
def szPairS_con:Con prog:=.f0 190 [] true szPairS_get (en func190 rfl) szPairS_ok
theorem szTop_vc (prs:List Dat) (lost all:Int) (left:Int) (hp:0<=left/\left<=1048576) :
 WFl TPr prs->I64 lost->I64 all->I64 left->(0<=left/\left<=1048576)/\(decide (szR (totL TPr prs) left<0)->-1=szR (totL TPr prs) left)/\(decide (szR (totL TPr prs) left<0)=false->szR (totL TPr prs) left=szR (totL TPr prs) left):=by
 intros
 simp only[iv,kv,fv,nm]
 ((repeat (first
   | (refine⟨⟨by omega,by omega⟩,fun h=>(by have h':=szR_neg h;rw[szR_no (by omega)]),fun h=>?_⟩;have h':=szR_pos h;(try simp only[szR_ge h']))
   | (refine⟨⟨by omega,by omega⟩,fun h=>(by have h':=szR_neg h;rw[szR_no (by omega)])⟩)));all_goals (first | rfl | (rw[szR_ge (by omega)];omega)))
def szTop_get:List SV->St->Option Got
 | [.agg [.sl ty0 prs,.int .i64 _,.int .i64 _],.int .i64 left],⟨[],[],[]⟩=>guardTy ty0 TPr (some (0<=left/\left<=1048576,.int .i64 (szR (totL TPr prs) left),St.mk [] [] []))
 | _,_=>none
theorem szTop_ok:Ok0 prog 166 szTop_get:=by
 intro _ _ _ _ _ h hp;unfold szTop_get at h;split at h
 · rename_i prs lost all left;replace h:=gT h;obtain⟨rfl,h⟩:=h;cases h;refine fz [szPairS_con] func166 ?_;apply VC.thru (szTop_vc prs lost all left hp);kernel_rfl
 · cases h
def szTop_con:Con prog:=.f0 166 [] true szTop_get (en func166 rfl) szTop_ok
theorem szKnotS_vc (l:List Dat) (left:Int) (hp:0<=left/\left<=1048576) :
 WFl TPr l->I64 left->I64 (l.length:Int)->(decide (i64.wrap (left-(l.length:Int))<0)->-1=szR (totL TPr l) left)/\(decide (i64.wrap (left-(l.length:Int))<0)=false->i64.wrap (left-(l.length:Int))=szR (totL TPr l) left):=by
 intro hw _;simp only[iv,kv,fv,nm];have h1:=hw.1;intro _;rw[totL_flat (fun d=>by simp [tot,tots]),wrap_ok (by omega) (by omega)];unfold szR;refine⟨fun h=>by rw[if_pos (by omega)],fun h=>by rw[if_neg (by omega)]⟩
def szKnotS_get:List SV->St->Option Got
 | [.sl ty0 l,.int .i64 left],⟨[],[],[]⟩=>guardTy ty0 TPr (some (0<=left/\left<=1048576,.int .i64 (szR (totL TPr l) left),St.mk [] [] []))
 | _,_=>none
theorem szKnotS_ok:Ok0 prog 191 szKnotS_get:=by
 intro _ _ _ _ _ h hp;unfold szKnotS_get at h;split at h
 · rename_i l left;replace h:=gT h;obtain⟨rfl,h⟩:=h;cases h;refine fz [] func191 ?_;apply VC.thru (szKnotS_vc l left hp);kernel_rfl
 · cases h
def szKnotS_con:Con prog:=.f0 191 [] true szKnotS_get (en func191 rfl) szKnotS_ok
theorem szRank_vc (kn:List Dat) (rall:Int) (left:Int) (hp:0<=left/\left<=1048576) :
 WFl TPr kn->I64 rall->I64 left->(0<=left/\left<=1048576)/\(decide (szR (totL TPr kn) left<0)->-1=szR (totL TPr kn) left)/\(decide (szR (totL TPr kn) left<0)=false->szR (totL TPr kn) left=szR (totL TPr kn) left):=by
 intros
 simp only[iv,kv,fv,nm]
 ((repeat (first
   | (refine⟨⟨by omega,by omega⟩,fun h=>(by have h':=szR_neg h;rw[szR_no (by omega)]),fun h=>?_⟩;have h':=szR_pos h;(try simp only[szR_ge h']))
   | (refine⟨⟨by omega,by omega⟩,fun h=>(by have h':=szR_neg h;rw[szR_no (by omega)])⟩)));all_goals (first | rfl | (rw[szR_ge (by omega)];omega)))
def szRank_get:List SV->St->Option Got
 | [.agg [.sl ty0 kn,.int .i64 _],.int .i64 left],⟨[],[],[]⟩=>guardTy ty0 TPr (some (0<=left/\left<=1048576,.int .i64 (szR (totL TPr kn) left),St.mk [] [] []))
 | _,_=>none
theorem szRank_ok:Ok0 prog 167 szRank_get:=by
 intro _ _ _ _ _ h hp;unfold szRank_get at h;split at h
 · rename_i kn rall left;replace h:=gT h;obtain⟨rfl,h⟩:=h;cases h;refine fz [szKnotS_con] func167 ?_;apply VC.thru (szRank_vc kn rall left hp);kernel_rfl
 · cases h
def szRank_con:Con prog:=.f0 167 [] true szRank_get (en func167 rfl) szRank_ok
theorem szSum_vc (rows kept prs kn:List Dat) (lost all rall:Int) (left:Int) (hp:0<=left/\left<=1048576) :
 WFl (Ty.int i64).sl rows->WFl (Ty.int i64) kept->WFl TPr prs->I64 lost->I64 all->WFl TPr kn->I64 rall->I64 left->(0<=left/\left<=1048576)/\(decide (szR (totL (Ty.int i64).sl rows) left<0)->-1=szR (totL (Ty.int i64).sl rows+totL (Ty.int i64) kept+totL TPr prs+totL TPr kn) left)/\(decide (szR (totL (Ty.int i64).sl rows) left<0)=false->(0<=szR (totL (Ty.int i64).sl rows) left/\szR (totL (Ty.int
 i64).sl rows) left<=1048576)/\(decide (szR (totL (Ty.int i64) kept) (szR (totL (Ty.int i64).sl rows) left)<(0:Int))->-1=szR (totL (Ty.int i64).sl rows+totL (Ty.int i64) kept+totL TPr prs+totL TPr kn) left)/\(decide (szR (totL (Ty.int i64) kept) (szR (totL (Ty.int i64).sl rows) left)<(0:Int))=false->(0<=szR (totL (Ty.int i64) kept) (szR (totL (Ty.int i64).sl rows) left)/\szR (totL (Ty.int i64)
 kept) (szR (totL (Ty.int i64).sl rows) left)<=(1048576:Int))/\(decide (szR (totL TPr prs) (szR (totL (Ty.int i64) kept) (szR (totL (Ty.int i64).sl rows) left))<0)->-1=szR (totL (Ty.int i64).sl rows+totL (Ty.int i64) kept+totL TPr prs+totL TPr kn) left)/\(decide (szR (totL TPr prs) (szR (totL (Ty.int i64) kept) (szR (totL (Ty.int i64).sl rows) left))<0)=false->(0<=szR (totL TPr prs) (szR (totL
 (Ty.int i64) kept) (szR (totL (Ty.int i64).sl rows) left))/\szR (totL TPr prs) (szR (totL (Ty.int i64) kept) (szR (totL (Ty.int i64).sl rows) left))<=1048576)/\(decide (szR (totL TPr kn) (szR (totL TPr prs) (szR (totL (Ty.int i64) kept) (szR (totL (Ty.int i64).sl rows) left)))<0)=true->-1=szR (totL (Ty.int i64).sl rows+totL (Ty.int i64) kept+totL TPr prs+totL TPr kn) left)/\(decide (szR (totL TPr
 kn) (szR (totL TPr prs) (szR (totL (Ty.int i64) kept) (szR (totL (Ty.int i64).sl rows) left)))<0)=false->szR (totL TPr kn) (szR (totL TPr prs) (szR (totL (Ty.int i64) kept) (szR (totL (Ty.int i64).sl rows) left)))=szR (totL (Ty.int i64).sl rows+totL (Ty.int i64) kept+totL TPr prs+totL TPr kn) left)))):=by
 intros
 simp only[iv,kv,fv,nm]
 ((repeat (first
   | (refine⟨⟨by omega,by omega⟩,fun h=>(by have h':=szR_neg h;rw[szR_no (by omega)]),fun h=>?_⟩;have h':=szR_pos h;(try simp only[szR_ge h']))
   | (refine⟨⟨by omega,by omega⟩,fun h=>(by have h':=szR_neg h;rw[szR_no (by omega)])⟩)));all_goals (first | rfl | (rw[szR_ge (by omega)];omega)))
def szSum_get:List SV->St->Option Got
 | [.agg [.sl (.sl (.int .i64)) rows,.sl (.int .i64) kept,.sl ty0 prs,.int .i64 _,.int .i64 _,.sl ty1 kn,.int .i64 _],.int .i64 left],⟨[],[],[]⟩=>guardTy ty0 TPr (guardTy ty1 TPr (some (0<=left/\left<=1048576,.int .i64 (szR (totL (.sl (.int .i64)) rows+totL (.int .i64) kept+totL TPr prs+totL TPr kn) left),St.mk [] [] [])))
 | _,_=>none
theorem szSum_ok:Ok0 prog 130 szSum_get:=by
 intro _ _ _ _ _ h hp;unfold szSum_get at h;split at h
 · rename_i rows kept _ prs lost all _ kn rall left;replace h:=gT2 h;obtain⟨rfl,rfl,h⟩:=h;cases h;refine fz [szRough_con,szFew_con,szTop_con,szRank_con] func130 ?_;apply VC.thru (szSum_vc rows kept prs kn lost all rall left hp);kernel_rfl
 · cases h
def szSum_con:Con prog:=.f0 130 [] false szSum_get (en func130 rfl) szSum_ok
theorem szEntry_vc (node born num:Int) (rows kept prs kn:List Dat) (lost all rall:Int) (left:Int) (hp:0<=left/\left<=1048576) :
 I64 node->I64 born->I64 num->WFl (Ty.int i64).sl rows->WFl (Ty.int i64) kept->WFl TPr prs->I64 lost->I64 all->WFl TPr kn->I64 rall->I64 left->(0<=left/\left<=1048576)/\(decide (szR (totL (Ty.int i64).sl rows+totL (Ty.int i64) kept+totL TPr prs+totL TPr kn) left<0)->-1=szR (totL (Ty.int i64).sl rows+totL (Ty.int i64) kept+totL TPr prs+totL TPr kn) left)/\(decide (szR (totL (Ty.int i64).sl rows+totL
 (Ty.int i64) kept+totL TPr prs+totL TPr kn) left<0)=false->szR (totL (Ty.int i64).sl rows+totL (Ty.int i64) kept+totL TPr prs+totL TPr kn) left=szR (totL (Ty.int i64).sl rows+totL (Ty.int i64) kept+totL TPr prs+totL TPr kn) left):=by
 intros
 simp only[iv,kv,fv,nm]
 ((repeat (first
   | (refine⟨⟨by omega,by omega⟩,fun h=>(by have h':=szR_neg h;rw[szR_no (by omega)]),fun h=>?_⟩;have h':=szR_pos h;(try simp only[szR_ge h']))
   | (refine⟨⟨by omega,by omega⟩,fun h=>(by have h':=szR_neg h;rw[szR_no (by omega)])⟩)));all_goals (first | rfl | (rw[szR_ge (by omega)];omega)))
def szEntry_get:List SV->St->Option Got
 | [.agg [.int .i64 _,.int .i64 _,.int .i64 _,.sl (.sl (.int .i64)) rows,.sl (.int .i64) kept,.sl ty0 prs,.int .i64 _,.int .i64 _,.sl ty1 kn,.int .i64 _],.int .i64 left],⟨[],[],[]⟩=>guardTy ty0 TPr (guardTy ty1 TPr (some (0<=left/\left<=1048576,.int .i64 (szR (totL (.sl (.int .i64)) rows+totL (.int .i64) kept+totL TPr prs+totL TPr kn) left),St.mk [] [] [])))
 | _,_=>none
theorem szEntry_ok:Ok0 prog 60 szEntry_get:=by
 intro _ _ _ _ _ h hp;unfold szEntry_get at h;split at h
 · rename_i node born num rows kept _ prs lost all _ kn rall left;replace h:=gT2 h;obtain⟨rfl,rfl,h⟩:=h;cases h;refine fz [szSum_con] func60 ?_;apply VC.thru (szEntry_vc node born num rows kept prs kn lost all rall left hp);kernel_rfl
 · cases h
def szEntry_con:Con prog:=.f0 60 [] false szEntry_get (en func60 rfl) szEntry_ok
theorem szEntryS_vc (l:List Dat) (left:Int) (hp:0<=left/\left<=1048576) :
 WFl TEnt l->I64 left->I64 (l.length:Int)->(decide (i64.wrap (left-(l.length:Int))<0)->-1=szR (totL TEnt l) left)/\(decide (i64.wrap (left-(l.length:Int))<0)=false->(∃x:Nat,(x<=l.length/\(l.length:Int)+(↑(totP TEnt l x):Int)<=left)/\l=l/\i64.wrap (left-(l.length:Int))=left-(l.length:Int)-(↑(totP TEnt l x):Int)/\0=(x:Int))/\∀x:Nat,x<=l.length/\(l.length:Int)+(↑(totP TEnt l x):Int)<=left->I64
 (l.length:Int)->(decide ((x:Int)<(l.length:Int))->(0<=(x:Int)/\(x:Int)<(l.length:Int))/\(0<=left-(l.length:Int)-(↑(totP TEnt l x):Int)/\left-(l.length:Int)-(↑(totP TEnt l x):Int)<=1048576)/\(decide (szR (totL (Ty.int i64).sl ((((l.getD x default).f 3).f 0).f 0).kids+totL (Ty.int i64) ((((l.getD x default).f 3).f 1).f 0).kids+totL TPr ((((l.getD x default).f 3).f 2).f 0).kids+totL TPr ((((l.getD x
 default).f 3).f 3).f 0).kids) (left-(l.length:Int)-(↑(totP TEnt l x):Int))<0)=true->-1=szR (totL TEnt l) left)/\(decide (szR (totL (Ty.int i64).sl ((((l.getD x default).f 3).f 0).f 0).kids+totL (Ty.int i64) ((((l.getD x default).f 3).f 1).f 0).kids+totL TPr ((((l.getD x default).f 3).f 2).f 0).kids+totL TPr ((((l.getD x default).f 3).f 3).f 0).kids) (left-(l.length:Int)-(↑(totP TEnt l
 x):Int))<0)=false->∃x_1:Nat,((x_1<=l.length/\(l.length:Int)+(↑(totP TEnt l x_1):Int)<=left)/\l.length-x_1<l.length-x)/\l=l/\szR (totL (Ty.int i64).sl ((((l.getD x default).f 3).f 0).f 0).kids+totL (Ty.int i64) ((((l.getD x default).f 3).f 1).f 0).kids+totL TPr ((((l.getD x default).f 3).f 2).f 0).kids+totL TPr ((((l.getD x default).f 3).f 3).f 0).kids) (left-(l.length:Int)-(↑(totP TEnt l
 x):Int))=left-(l.length:Int)-(↑(totP TEnt l x_1):Int)/\i64.wrap ((x:Int)+1)=(x_1:Int)))/\(decide ((x:Int)<(l.length:Int))=false->left-(l.length:Int)-(↑(totP TEnt l x):Int)=szR (totL TEnt l) left)):=by
 intro hw
 intros
 simp only[iv,kv,fv,nm];have h1:=hw.1;have h2:=totL_length TEnt l;have eT:∀d,tot TEnt d=_:=tot_ent;rw[wrap_ok (by omega) (by omega)];refine⟨fun h=>by rw[szR_no (by omega)],fun h=>⟨⟨0,⟨by omega,by rw[totP_zero];omega⟩,by rw[totP_zero];omega,rfl⟩,fun x hx _=>⟨fun hlt=>?_,fun hlt=>?_⟩⟩⟩
 · have h3:=totP_next (e:=TEnt) (ds:=l) (g:=x) (by omega);have h4:=totP_le (e:=TEnt) l (x+1);rw[eT] at h3;refine⟨⟨by omega,by omega⟩,⟨by omega,by omega⟩,fun h=>?_,fun h=>?_⟩
   · have:=szR_neg h;rw[szR_no (by omega)]
   · have:=szR_pos h;rw[szR_ge this];exact⟨x+1,⟨⟨by omega,by omega⟩,by omega⟩,by omega,up_ok (n:=l.length) (by omega) (by omega)⟩
 · have h3:=totP_all (e:=TEnt) (ds:=l) (g:=x) (by omega);rw[szR_ge (by omega)];omega
def szEntryS_get:List SV->St->Option Got
 | [.sl ty0 l,.int .i64 left],⟨[],[],[]⟩=>guardTy ty0 TEnt (some (0<=left/\left<=1048576,.int .i64 (szR (totL TEnt l) left),St.mk [] [] []))
 | _,_=>none
theorem szEntryS_ok:Ok0 prog 18 szEntryS_get:=by
 intro _ _ _ _ _ h hp;unfold szEntryS_get at h;split at h
 · rename_i l left;replace h:=gT h;obtain⟨rfl,h⟩:=h;cases h;refine fl [szEntry_con] (fun k=>bif Nat.beq k 5 then some (.g (⟨Nat,fun s g=>hd s [0] [(1,.int .i64 (left-l.length-totP TEnt l g)),(5,.int .i64 g)] s.rw,fun _ g=>g<=l.length/\l.length+totP TEnt l g<=left,fun g=>l.length-g⟩)) else none) func18 ?_;apply VC.thru (szEntryS_vc l left hp);kernel_rfl
 · cases h
def szEntryS_con:Con prog:=.f0 18 [] false szEntryS_get (en func18 rfl) szEntryS_ok
theorem szNode_vc (born beacon level up:Int) (known:List Dat) (left:Int) (hp:0<=left/\left<=1048576) :
 I64 born->WFl TEnt known->I64 beacon->I64 level->I64 up->I64 left->(0<=left/\left<=1048576)/\(decide (szR (totL TEnt known) left<0)->-1=szR (totL TEnt known) left)/\(decide (szR (totL TEnt known) left<0)=false->szR (totL TEnt known) left=szR (totL TEnt known) left):=by
 intros
 simp only[iv,kv,fv,nm]
 ((repeat (first
   | (refine⟨⟨by omega,by omega⟩,fun h=>(by have h':=szR_neg h;rw[szR_no (by omega)]),fun h=>?_⟩;have h':=szR_pos h;(try simp only[szR_ge h']))
   | (refine⟨⟨by omega,by omega⟩,fun h=>(by have h':=szR_neg h;rw[szR_no (by omega)])⟩)));all_goals (first | rfl | (rw[szR_ge (by omega)];omega)))
def szNode_get:List SV->St->Option Got
 | [.agg [.int .i64 _,.sl ty0 known,.int .i64 _,.int .i64 _,.int .i64 _],.int .i64 left],⟨[],[],[]⟩=>guardTy ty0 TEnt (some (0<=left/\left<=1048576,.int .i64 (szR (totL TEnt known) left),St.mk [] [] []))
 | _,_=>none
theorem szNode_ok:Ok0 prog 127 szNode_get:=by
 intro _ _ _ _ _ h hp;unfold szNode_get at h;split at h
 · rename_i born _ known beacon level up left;replace h:=gT h;obtain⟨rfl,h⟩:=h;cases h;refine fz [szEntryS_con] func127 ?_;apply VC.thru (szNode_vc born beacon level up known left hp);kernel_rfl
 · cases h
def szNode_con:Con prog:=.f0 127 [] false szNode_get (en func127 rfl) szNode_ok
theorem szNodeS_vc (l:List Dat) (left:Int) (hp:0<=left/\left<=1048576) :
 WFl TNode l->I64 left->I64 (l.length:Int)->(decide (i64.wrap (left-(l.length:Int))<0)->-1=szR (totL TNode l) left)/\(decide (i64.wrap (left-(l.length:Int))<0)=false->(∃x:Nat,(x<=l.length/\(l.length:Int)+(↑(totP TNode l x):Int)<=left)/\l=l/\i64.wrap (left-(l.length:Int))=left-(l.length:Int)-(↑(totP TNode l x):Int)/\0=(x:Int))/\∀x:Nat,x<=l.length/\(l.length:Int)+(↑(totP TNode l x):Int)<=left->I64
 (l.length:Int)->(decide ((x:Int)<(l.length:Int))->(0<=(x:Int)/\(x:Int)<(l.length:Int))/\(0<=left-(l.length:Int)-(↑(totP TNode l x):Int)/\left-(l.length:Int)-(↑(totP TNode l x):Int)<=1048576)/\(decide (szR (totL TEnt ((l.getD x default).f 1).kids) (left-(l.length:Int)-(↑(totP TNode l x):Int))<0)->-1=szR (totL TNode l) left)/\(decide (szR (totL TEnt ((l.getD x default).f 1).kids)
 (left-(l.length:Int)-(↑(totP TNode l x):Int))<0)=false->∃x_1:Nat,((x_1<=l.length/\(l.length:Int)+(↑(totP TNode l x_1):Int)<=left)/\l.length-x_1<l.length-x)/\l=l/\szR (totL TEnt ((l.getD x default).f 1).kids) (left-(l.length:Int)-(↑(totP TNode l x):Int))=left-(l.length:Int)-(↑(totP TNode l x_1):Int)/\i64.wrap ((x:Int)+1)=(x_1:Int)))/\(decide
 ((x:Int)<(l.length:Int))=false->left-(l.length:Int)-(↑(totP TNode l x):Int)=szR (totL TNode l) left)):=by
 intro hw
 intros
 simp only[iv,kv,fv,nm];have h1:=hw.1;have h2:=totL_length TNode l;have eT:∀d,tot TNode d=_:=tot_nd;rw[wrap_ok (by omega) (by omega)];refine⟨fun h=>by rw[szR_no (by omega)],fun h=>⟨⟨0,⟨by omega,by rw[totP_zero];omega⟩,by rw[totP_zero];omega,rfl⟩,fun x hx _=>⟨fun hlt=>?_,fun hlt=>?_⟩⟩⟩
 · have h3:=totP_next (e:=TNode) (ds:=l) (g:=x) (by omega);have h4:=totP_le (e:=TNode) l (x+1);rw[eT] at h3;refine⟨⟨by omega,by omega⟩,⟨by omega,by omega⟩,fun h=>?_,fun h=>?_⟩
   · have:=szR_neg h;rw[szR_no (by omega)]
   · have:=szR_pos h;rw[szR_ge this];exact⟨x+1,⟨⟨by omega,by omega⟩,by omega⟩,by omega,up_ok (n:=l.length) (by omega) (by omega)⟩
 · have h3:=totP_all (e:=TNode) (ds:=l) (g:=x) (by omega);rw[szR_ge (by omega)];omega
def szNodeS_get:List SV->St->Option Got
 | [.sl ty0 l,.int .i64 left],⟨[],[],[]⟩=>guardTy ty0 TNode (some (0<=left/\left<=1048576,.int .i64 (szR (totL TNode l) left),St.mk [] [] []))
 | _,_=>none
theorem szNodeS_ok:Ok0 prog 56 szNodeS_get:=by
 intro _ _ _ _ _ h hp;unfold szNodeS_get at h;split at h
 · rename_i l left;replace h:=gT h;obtain⟨rfl,h⟩:=h;cases h;refine fl [szNode_con] (fun k=>bif Nat.beq k 5 then some (.g (⟨Nat,fun s g=>hd s [0] [(1,.int .i64 (left-l.length-totP TNode l g)),(5,.int .i64 g)] s.rw,fun _ g=>g<=l.length/\l.length+totP TNode l g<=left,fun g=>l.length-g⟩)) else none) func56 ?_;apply VC.thru (szNodeS_vc l left hp);kernel_rfl
 · cases h
def szNodeS_con:Con prog:=.f0 56 [] false szNodeS_get (en func56 rfl) szNodeS_ok
theorem szBoolS_vc (l:List Dat) (left:Int) (hp:0<=left/\left<=1048576) :
 WFl Ty.bool l->I64 left->I64 (l.length:Int)->(decide (i64.wrap (left-(l.length:Int))<0)->-1=szR (totL Ty.bool l) left)/\(decide (i64.wrap (left-(l.length:Int))<0)=false->i64.wrap (left-(l.length:Int))=szR (totL Ty.bool l) left):=by
 intro hw _;simp only[iv,kv,fv,nm];have h1:=hw.1;intro _;rw[totL_flat tot_bool,wrap_ok (by omega) (by omega)];unfold szR;refine⟨fun h=>by rw[if_pos (by omega)],fun h=>by rw[if_neg (by omega)]⟩
def szBoolS_get:List SV->St->Option Got
 | [.sl .bool l,.int .i64 left],⟨[],[],[]⟩=>some (0<=left/\left<=1048576,.int .i64 (szR (totL .bool l) left),St.mk [] [] [])
 | _,_=>none
theorem szBoolS_ok:Ok0 prog 57 szBoolS_get:=by
 intro _ _ _ _ _ h hp;unfold szBoolS_get at h;split at h
 · rename_i l left;cases h;refine fz [] func57 ?_;apply VC.thru (szBoolS_vc l left hp);kernel_rfl
 · cases h
def szBoolS_con:Con prog:=.f0 57 [] true szBoolS_get (en func57 rfl) szBoolS_ok
theorem szWord_vc (kind fr to beacon level:Int) (known:List Dat) (left:Int) (hp:0<=left/\left<=1048576) :
 I64 kind->I64 fr->I64 to->I64 beacon->I64 level->WFl TEnt known->I64 left->(0<=left/\left<=1048576)/\(decide (szR (totL TEnt known) left<0)->-1=szR (totL TEnt known) left)/\(decide (szR (totL TEnt known) left<0)=false->szR (totL TEnt known) left=szR (totL TEnt known) left):=by
 intros
 simp only[iv,kv,fv,nm]
 ((repeat (first
   | (refine⟨⟨by omega,by omega⟩,fun h=>(by have h':=szR_neg h;rw[szR_no (by omega)]),fun h=>?_⟩;have h':=szR_pos h;(try simp only[szR_ge h']))
   | (refine⟨⟨by omega,by omega⟩,fun h=>(by have h':=szR_neg h;rw[szR_no (by omega)])⟩)));all_goals (first | rfl | (rw[szR_ge (by omega)];omega)))
def szWord_get:List SV->St->Option Got
 | [.agg [.int .i64 _,.int .i64 _,.int .i64 _,.int .i64 _,.int .i64 _,.sl ty0 known],.int .i64 left],⟨[],[],[]⟩=>guardTy ty0 TEnt (some (0<=left/\left<=1048576,.int .i64 (szR (totL TEnt known) left),St.mk [] [] []))
 | _,_=>none
theorem szWord_ok:Ok0 prog 128 szWord_get:=by
 intro _ _ _ _ _ h hp;unfold szWord_get at h;split at h
 · rename_i kind fr to beacon level _ known left;replace h:=gT h;obtain⟨rfl,h⟩:=h;cases h;refine fz [szEntryS_con] func128 ?_;apply VC.thru (szWord_vc kind fr to beacon level known left hp);kernel_rfl
 · cases h
def szWord_con:Con prog:=.f0 128 [] false szWord_get (en func128 rfl) szWord_ok
theorem szWordS_vc (l:List Dat) (left:Int) (hp:0<=left/\left<=1048576) :
 WFl TWord l->I64 left->I64 (l.length:Int)->(decide (i64.wrap (left-(l.length:Int))<0)->-1=szR (totL TWord l) left)/\(decide (i64.wrap (left-(l.length:Int))<0)=false->(∃x:Nat,(x<=l.length/\(l.length:Int)+(↑(totP TWord l x):Int)<=left)/\l=l/\i64.wrap (left-(l.length:Int))=left-(l.length:Int)-(↑(totP TWord l x):Int)/\0=(x:Int))/\∀x:Nat,x<=l.length/\(l.length:Int)+(↑(totP TWord l x):Int)<=left->I64
 (l.length:Int)->(decide ((x:Int)<(l.length:Int))->(0<=(x:Int)/\(x:Int)<(l.length:Int))/\(0<=left-(l.length:Int)-(↑(totP TWord l x):Int)/\left-(l.length:Int)-(↑(totP TWord l x):Int)<=1048576)/\(decide (szR (totL TEnt ((l.getD x default).f 5).kids) (left-(l.length:Int)-(↑(totP TWord l x):Int))<0)->-1=szR (totL TWord l) left)/\(decide (szR (totL TEnt ((l.getD x default).f 5).kids)
 (left-(l.length:Int)-(↑(totP TWord l x):Int))<0)=false->∃x_1:Nat,((x_1<=l.length/\(l.length:Int)+(↑(totP TWord l x_1):Int)<=left)/\l.length-x_1<l.length-x)/\l=l/\szR (totL TEnt ((l.getD x default).f 5).kids) (left-(l.length:Int)-(↑(totP TWord l x):Int))=left-(l.length:Int)-(↑(totP TWord l x_1):Int)/\i64.wrap ((x:Int)+1)=(x_1:Int)))/\(decide
 ((x:Int)<(l.length:Int))=false->left-(l.length:Int)-(↑(totP TWord l x):Int)=szR (totL TWord l) left)):=by
 intro hw
 intros
 simp only[iv,kv,fv,nm];have h1:=hw.1;have h2:=totL_length TWord l;have eT:∀d,tot TWord d=_:=tot_wd;rw[wrap_ok (by omega) (by omega)];refine⟨fun h=>by rw[szR_no (by omega)],fun h=>⟨⟨0,⟨by omega,by rw[totP_zero];omega⟩,by rw[totP_zero];omega,rfl⟩,fun x hx _=>⟨fun hlt=>?_,fun hlt=>?_⟩⟩⟩
 · have h3:=totP_next (e:=TWord) (ds:=l) (g:=x) (by omega);have h4:=totP_le (e:=TWord) l (x+1);rw[eT] at h3;refine⟨⟨by omega,by omega⟩,⟨by omega,by omega⟩,fun h=>?_,fun h=>?_⟩
   · have:=szR_neg h;rw[szR_no (by omega)]
   · have:=szR_pos h;rw[szR_ge this];exact⟨x+1,⟨⟨by omega,by omega⟩,by omega⟩,by omega,up_ok (n:=l.length) (by omega) (by omega)⟩
 · have h3:=totP_all (e:=TWord) (ds:=l) (g:=x) (by omega);rw[szR_ge (by omega)];omega
def szWordS_get:List SV->St->Option Got
 | [.sl ty0 l,.int .i64 left],⟨[],[],[]⟩=>guardTy ty0 TWord (some (0<=left/\left<=1048576,.int .i64 (szR (totL TWord l) left),St.mk [] [] []))
 | _,_=>none
theorem szWordS_ok:Ok0 prog 58 szWordS_get:=by
 intro _ _ _ _ _ h hp;unfold szWordS_get at h;split at h
 · rename_i l left;replace h:=gT h;obtain⟨rfl,h⟩:=h;cases h;refine fl [szWord_con] (fun k=>bif Nat.beq k 5 then some (.g (⟨Nat,fun s g=>hd s [0] [(1,.int .i64 (left-l.length-totP TWord l g)),(5,.int .i64 g)] s.rw,fun _ g=>g<=l.length/\l.length+totP TWord l g<=left,fun g=>l.length-g⟩)) else none) func58 ?_;apply VC.thru (szWordS_vc l left hp);kernel_rfl
 · cases h
def szWordS_con:Con prog:=.f0 58 [] false szWordS_get (en func58 rfl) szWordS_ok
theorem szIntSSS_vc (l:List Dat) (left:Int) (hp:0<=left/\left<=1048576) :
 WFl (Ty.int i64).sl.sl l->I64 left->I64 (l.length:Int)->(decide (i64.wrap (left-(l.length:Int))<0)->-1=szR (totL (Ty.int i64).sl.sl l) left)/\(decide (i64.wrap (left-(l.length:Int))<0)=false->(∃x:Nat,(x<=l.length/\(l.length:Int)+(↑(totP (Ty.int i64).sl.sl l x):Int)<=left)/\l=l/\i64.wrap (left-(l.length:Int))=left-(l.length:Int)-(↑(totP (Ty.int i64).sl.sl l
 x):Int)/\0=(x:Int))/\∀x:Nat,x<=l.length/\(l.length:Int)+(↑(totP (Ty.int i64).sl.sl l x):Int)<=left->I64 (l.length:Int)->(decide ((x:Int)<(l.length:Int))->(0<=(x:Int)/\(x:Int)<(l.length:Int))/\(0<=left-(l.length:Int)-(↑(totP (Ty.int i64).sl.sl l x):Int)/\left-(l.length:Int)-(↑(totP (Ty.int i64).sl.sl l x):Int)<=1048576)/\(decide (szR (totL (Ty.int i64).sl (l.getD x default).kids)
 (left-(l.length:Int)-(↑(totP (Ty.int i64).sl.sl l x):Int))<0)->-1=szR (totL (Ty.int i64).sl.sl l) left)/\(decide (szR (totL (Ty.int i64).sl (l.getD x default).kids) (left-(l.length:Int)-(↑(totP (Ty.int i64).sl.sl l x):Int))<0)=false->∃x_1:Nat,((x_1<=l.length/\(l.length:Int)+(↑(totP (Ty.int i64).sl.sl l x_1):Int)<=left)/\l.length-x_1<l.length-x)/\l=l/\szR (totL (Ty.int i64).sl (l.getD x
 default).kids) (left-(l.length:Int)-(↑(totP (Ty.int i64).sl.sl l x):Int))=left-(l.length:Int)-(↑(totP (Ty.int i64).sl.sl l x_1):Int)/\i64.wrap ((x:Int)+1)=(x_1:Int)))/\(decide ((x:Int)<(l.length:Int))=false->left-(l.length:Int)-(↑(totP (Ty.int i64).sl.sl l x):Int)=szR (totL (Ty.int i64).sl.sl l) left)):=by
 intro hw
 intros
 simp only[iv,kv,fv,nm];have h1:=hw.1;have h2:=totL_length (.sl (.sl (.int .i64))) l;have eT:∀d,tot (.sl (.sl (.int .i64))) d=_:=tot_is _;rw[wrap_ok (by omega) (by omega)];refine⟨fun h=>by rw[szR_no (by omega)],fun h=>⟨⟨0,⟨by omega,by rw[totP_zero];omega⟩,by rw[totP_zero];omega,rfl⟩,fun x hx _=>⟨fun hlt=>?_,fun hlt=>?_⟩⟩⟩
 · have h3:=totP_next (e:=(.sl (.sl (.int .i64)))) (ds:=l) (g:=x) (by omega);have h4:=totP_le (e:=(.sl (.sl (.int .i64)))) l (x+1);rw[eT] at h3;refine⟨⟨by omega,by omega⟩,⟨by omega,by omega⟩,fun h=>?_,fun h=>?_⟩
   · have:=szR_neg h;rw[szR_no (by omega)]
   · have:=szR_pos h;rw[szR_ge this];exact⟨x+1,⟨⟨by omega,by omega⟩,by omega⟩,by omega,up_ok (n:=l.length) (by omega) (by omega)⟩
 · have h3:=totP_all (e:=(.sl (.sl (.int .i64)))) (ds:=l) (g:=x) (by omega);rw[szR_ge (by omega)];omega
def szIntSSS_get:List SV->St->Option Got
 | [.sl (.sl (.sl (.int .i64))) l,.int .i64 left],⟨[],[],[]⟩=>some (0<=left/\left<=1048576,.int .i64 (szR (totL (.sl (.sl (.int .i64))) l) left),St.mk [] [] [])
 | _,_=>none
theorem szIntSSS_ok:Ok0 prog 59 szIntSSS_get:=by
 intro _ _ _ _ _ h hp;unfold szIntSSS_get at h;split at h
 · rename_i l left;cases h;refine fl [szIntSS_con] (fun k=>bif Nat.beq k 5 then some (.g (⟨Nat,fun s g=>hd s [0] [(1,.int .i64 (left-l.length-totP (.sl (.sl (.int .i64))) l g)),(5,.int .i64 g)] s.rw,fun _ g=>g<=l.length/\l.length+totP (.sl (.sl (.int .i64))) l g<=left,fun g=>l.length-g⟩)) else none) func59 ?_;apply VC.thru (szIntSSS_vc l left hp);kernel_rfl
 · cases h
def szIntSSS_con:Con prog:=.f0 59 [] false szIntSSS_get (en func59 rfl) szIntSSS_ok
theorem szNet_vc (nodes links words past:List Dat) (left:Int) (hp:0<=left/\left<=1048576) :
 WFl TNode nodes->WFl Ty.bool links->WFl TWord words->WFl (Ty.int i64).sl.sl past->I64 left->(0<=left/\left<=1048576)/\(decide (szR (totL TNode nodes) left<0)->-1=szR (totL TNode nodes+totL Ty.bool links+totL TWord words+totL (Ty.int i64).sl.sl past) left)/\(decide (szR (totL TNode nodes) left<0)=false->(0<=szR (totL TNode nodes) left/\szR (totL TNode nodes) left<=1048576)/\(decide (szR (totL
 Ty.bool links) (szR (totL TNode nodes) left)<(0:Int))->-1=szR (totL TNode nodes+totL Ty.bool links+totL TWord words+totL (Ty.int i64).sl.sl past) left)/\(decide (szR (totL Ty.bool links) (szR (totL TNode nodes) left)<(0:Int))=false->(0<=szR (totL Ty.bool links) (szR (totL TNode nodes) left)/\szR (totL Ty.bool links) (szR (totL TNode nodes) left)<=(1048576:Int))/\(decide (szR (totL TWord words)
 (szR (totL Ty.bool links) (szR (totL TNode nodes) left))<0)->-1=szR (totL TNode nodes+totL Ty.bool links+totL TWord words+totL (Ty.int i64).sl.sl past) left)/\(decide (szR (totL TWord words) (szR (totL Ty.bool links) (szR (totL TNode nodes) left))<0)=false->(0<=szR (totL TWord words) (szR (totL Ty.bool links) (szR (totL TNode nodes) left))/\szR (totL TWord words) (szR (totL Ty.bool links) (szR
 (totL TNode nodes) left))<=1048576)/\(decide (szR (totL (Ty.int i64).sl.sl past) (szR (totL TWord words) (szR (totL Ty.bool links) (szR (totL TNode nodes) left)))<0)->-1=szR (totL TNode nodes+totL Ty.bool links+totL TWord words+totL (Ty.int i64).sl.sl past) left)/\(decide (szR (totL (Ty.int i64).sl.sl past) (szR (totL TWord words) (szR (totL Ty.bool links) (szR (totL TNode nodes)
 left)))<0)=false->szR (totL (Ty.int i64).sl.sl past) (szR (totL TWord words) (szR (totL Ty.bool links) (szR (totL TNode nodes) left)))=szR (totL TNode nodes+totL Ty.bool links+totL TWord words+totL (Ty.int i64).sl.sl past) left)))):=by
 intros
 simp only[iv,kv,fv,nm]
 ((repeat (first
   | (refine⟨⟨by omega,by omega⟩,fun h=>(by have h':=szR_neg h;rw[szR_no (by omega)]),fun h=>?_⟩;have h':=szR_pos h;(try simp only[szR_ge h']))
   | (refine⟨⟨by omega,by omega⟩,fun h=>(by have h':=szR_neg h;rw[szR_no (by omega)])⟩)));all_goals (first | rfl | (rw[szR_ge (by omega)];omega)))
def szNet_get:List SV->St->Option Got
 | [.agg [.sl ty0 nodes,.sl .bool links,.sl ty1 words,.sl (.sl (.sl (.int .i64))) past],.int .i64 left],⟨[],[],[]⟩=>guardTy ty0 TNode (guardTy ty1 TWord (some (0<=left/\left<=1048576,.int .i64 (szR (totL TNode nodes+totL .bool links+totL TWord words+totL (.sl (.sl (.int .i64))) past) left),St.mk [] [] [])))
 | _,_=>none
theorem szNet_ok:Ok0 prog 17 szNet_get:=by
 intro _ _ _ _ _ h hp;unfold szNet_get at h;split at h
 · rename_i nodes links _ words past left;replace h:=gT2 h;obtain⟨rfl,rfl,h⟩:=h;cases h;refine fz [szNodeS_con,szBoolS_con,szWordS_con,szIntSSS_con] func17 ?_;apply VC.thru (szNet_vc nodes links words past left hp);kernel_rfl
 · cases h
def szNet_con:Con prog:=.f0 17 [] false szNet_get (en func17 rfl) szNet_ok
end
end E
end Go.Proofs.YtlfohjkcajaebaaGreat
