/- Texts that the claim stands on, part 5. -/
import Derived.Test.YtlfohjkcajaebaaGreatQL4
import Derived.Test.YtlfohjkcajaebaaGreatProg
import Derived.RangeFuncNested
import Derived.RangeFuncBound
import Derived.RangeFuncCalls
import Derived.RangeFuncLeaves
import Derived.RangeFuncBox
import Derived.Shelf.Abstract
import Derived.Shelf.RegionOpen
import Derived.WalkKit
import Derived.OwnWalkIn
import Derived.TacticsInMore
import Derived.LoopNIn
import Derived.LoopIn
import Derived.Maps.AppendAt
import Derived.Sort.BigQuietIn
set_option linter.all false
namespace Go.Proofs.YtlfohjkcajaebaaGreat
open Go Go.RowKit
open Go.IntKind (i64)
namespace E
noncomputable section
set_option maxRecDepth 100000
theorem tot_is (e:Ty) (d:Dat):tot (.sl e) d=totL e d.kids:=by rw[tot,totL]
theorem tot_ent (d:Dat):tot TEnt d=totL (.sl (.int .i64)) (((d.f 3).f 0).f 0).kids+totL (.int .i64) (((d.f 3).f 1).f 0).kids+totL TPr (((d.f 3).f 2).f 0).kids+totL TPr (((d.f 3).f 3).f 0).kids:=by
  simp only[TEnt,TNode,TWord,TPr,tot,tots,totL,Nat.zero_add,Nat.add_zero,Nat.add_assoc]
theorem tot_nd (d:Dat):tot TNode d=totL TEnt (d.f 1).kids:=by simp only[TEnt,TNode,TWord,TPr,tot,tots,totL,Nat.zero_add,Nat.add_zero,Nat.add_assoc]
theorem tot_wd (d:Dat):tot TWord d=totL TEnt (d.f 5).kids:=by simp only[TEnt,TNode,TWord,TPr,tot,tots,totL,Nat.zero_add,Nat.add_zero,Nat.add_assoc]
theorem szIntS_vc (l:List Dat) (left:Int) (hp:0<=left/\left<=1048576) :
 WFl (Ty.int i64) l->I64 left->I64 (l.length:Int)->(decide (i64.wrap (left-(l.length:Int))<(0:Int))->(-1:Int)=szR (totL (Ty.int i64) l) left)/\(decide (i64.wrap (left -
 (l.length:Int))<(0:Int))=false->i64.wrap (left-(l.length:Int))=szR (totL (Ty.int i64) l) left):=by
  intro hw _;simp only[iv,kv,fv,nm,ne_eq,implies_true,eq_self];have h1:=hw.1;intro _;rw[totL_flat (tot_int _),wrap_ok (by omega) (by omega)];unfold szR;refine⟨fun h=>by rw[if_pos (by omega)],fun h=>by rw[if_neg (by omega)]⟩
def szIntS_get (ins:List SV) (m:St):Option Got:=
  match ins,m with
  | [.sl (.int .i64) l,.int .i64 left],⟨[],[],[]⟩=>some (0<=left/\left<=1048576,.int .i64 (szR (totL (.int .i64) l) left),St.mk [] [] [])
  | _,_=>none
theorem szIntS_ok:Ok0 Tryz.prog 163 szIntS_get:=by
  intro _ _ _ _ _ h hp;unfold szIntS_get at h;split at h
  · rename_i l left;cases h;refine fn_ok0 (ct:=[]) (L:=fun _=>none) Tryz_follows Tryz.func163 ?_;apply VC.thru (szIntS_vc l left hp);kernel_rfl
  · cases h
def szIntS_con:Con Tryz.prog:=.f0 163 [] true szIntS_get (enters Tryz.func163 (by kernel_rfl) rfl) szIntS_ok
theorem szIntSS_vc (l:List Dat) (left:Int) (hp:0<=left/\left<=1048576) :
 WFl (Ty.int i64).sl l->I64 left->I64 (l.length:Int)->(decide (i64.wrap (left-(l.length:Int))<(0:Int))->(-1:Int)=szR (totL (Ty.int i64).sl l) left)/\(decide (i64.wrap (left
 - (l.length:Int))<(0:Int))=false->(∃x:Nat,(x<=l.length/\(l.length:Int)+(↑(totP (Ty.int i64).sl l x):Int)<=left)/\l=l/\i64.wrap (left-(l.length:Int))=left-(l.length:Int)
 - (↑(totP (Ty.int i64).sl l x):Int)/\0=(x:Int))/\∀x:Nat,x<=l.length/\(l.length:Int)+(↑(totP (Ty.int i64).sl l x):Int)<=left->I64 (l.length:Int)->(decide ((x:Int) <
 (l.length:Int))=true->(0<=(x:Int)/\(x:Int)<(l.length:Int))/\(0<=left-(l.length:Int)-(↑(totP (Ty.int i64).sl l x):Int)/\left-(l.length:Int)-(↑(totP (Ty.int i64).sl l
 x):Int)<=1048576)/\(decide (szR (totL (Ty.int i64) (l.getD x default).kids) (left-(l.length:Int)-(↑(totP (Ty.int i64).sl l x):Int))<(0:Int))->(-1:Int)=szR (totL
 (Ty.int i64).sl l) left)/\(decide (szR (totL (Ty.int i64) (l.getD x default).kids) (left-(l.length:Int)-(↑(totP (Ty.int i64).sl l x):Int))<(0:Int))=false->∃x_1:Nat,
 ((x_1<=l.length/\(l.length:Int)+(↑(totP (Ty.int i64).sl l x_1):Int)<=left)/\l.length-x_1<l.length-x)/\l=l/\szR (totL (Ty.int i64) (l.getD x default).kids) (left -
 (l.length:Int)-(↑(totP (Ty.int i64).sl l x):Int))=left-(l.length:Int)-(↑(totP (Ty.int i64).sl l x_1):Int)/\i64.wrap ((x:Int)+1)=(x_1:Int)))/\(decide ((x:Int) <
 (l.length:Int))=false->left-(l.length:Int)-(↑(totP (Ty.int i64).sl l x):Int)=szR (totL (Ty.int i64).sl l) left)):=by
  intro hw
  intros
  simp only[iv,kv,fv,nm,ne_eq,implies_true,eq_self];have h1:=hw.1;have h2:=totL_length (.sl (.int .i64)) l;have eT:∀d,tot (.sl (.int .i64)) d=_:=tot_is _;rw[wrap_ok (by omega) (by omega)];refine⟨fun h=>by rw[szR_no (by omega)],fun h=>⟨⟨0,⟨by omega,by rw[totP_zero];omega⟩,by rw[totP_zero];omega,rfl⟩,fun x hx _=>⟨fun hlt=>?_,fun hlt=>?_⟩⟩⟩
  · have h3:=totP_next (e:=(.sl (.int .i64))) (ds:=l) (g:=x) (by omega);have h4:=totP_le (e:=(.sl (.int .i64))) l (x+1);rw[eT] at h3;refine⟨⟨by omega,by omega⟩,⟨by omega,by omega⟩,fun h=>?_,fun h=>?_⟩
    · have:=szR_neg h;rw[szR_no (by omega)]
    · have:=szR_pos h;rw[szR_ge this];exact⟨x+1,⟨⟨by omega,by omega⟩,by omega⟩,by omega,up_ok (n:=l.length) (by omega) (by omega)⟩
  · have h3:=totP_all (e:=(.sl (.int .i64))) (ds:=l) (g:=x) (by omega);rw[szR_ge (by omega)];omega
def szIntSS_get (ins:List SV) (m:St):Option Got:=
  match ins,m with
  | [.sl (.sl (.int .i64)) l,.int .i64 left],⟨[],[],[]⟩=>some (0<=left/\left<=1048576,.int .i64 (szR (totL (.sl (.int .i64)) l) left),St.mk [] [] [])
  | _,_=>none
theorem szIntSS_ok:Ok0 Tryz.prog 129 szIntSS_get:=by
  intro _ _ _ _ _ h hp;unfold szIntSS_get at h;split at h
  · rename_i l left;cases h;refine fn_ok0 (ct:=[szIntS_con]) (L:=fun k=>bif Nat.beq k 5 then some (.g (⟨Nat,fun s g=>hd s [0] [(1,.int .i64 (left-l.length-totP (.sl (.int .i64)) l g)),(5,.int .i64 g)] s.rw,fun _ g=>g<=l.length/\l.length+totP (.sl (.int .i64)) l g<=left,fun g=>l.length-g⟩)) else none) Tryz_follows Tryz.func129 ?_;apply VC.thru (szIntSS_vc l left hp);kernel_rfl
  · cases h
def szIntSS_con:Con Tryz.prog:=.f0 129 [] false szIntSS_get (enters Tryz.func129 (by kernel_rfl) rfl) szIntSS_ok
theorem szRough_vc (rows:List Dat) (left:Int) (hp:0<=left/\left<=1048576) :
 WFl (Ty.int i64).sl rows->I64 left->(0<=left/\left<=(1048576:Int))/\(decide (szR (totL (Ty.int i64).sl rows) left<(0:Int))->(-1:Int)=szR (totL (Ty.int i64).sl rows)
 left)/\(decide (szR (totL (Ty.int i64).sl rows) left<(0:Int))=false->szR (totL (Ty.int i64).sl rows) left=szR (totL (Ty.int i64).sl rows) left):=by
  intros
  simp only[iv,kv,fv,nm,ne_eq,implies_true,eq_self]
  ((repeat (first
    | (refine⟨⟨by omega,by omega⟩,fun h=>(by have h':=szR_neg h;rw[szR_no (by omega)]),fun h=>?_⟩;have h':=szR_pos h;(try simp only[szR_ge h']))
    | (refine⟨⟨by omega,by omega⟩,fun h=>(by have h':=szR_neg h;rw[szR_no (by omega)])⟩)));all_goals (first | rfl | (rw[szR_ge (by omega)];omega)))
def szRough_get (ins:List SV) (m:St):Option Got:=
  match ins,m with
  | [.agg [.sl (.sl (.int .i64)) rows],.int .i64 left],⟨[],[],[]⟩=>some (0<=left/\left<=1048576,.int .i64 (szR (totL (.sl (.int .i64)) rows) left),St.mk [] [] [])
  | _,_=>none
theorem szRough_ok:Ok0 Tryz.prog 164 szRough_get:=by
  intro _ _ _ _ _ h hp;unfold szRough_get at h;split at h
  · rename_i rows left;cases h;refine fn_ok0 (ct:=[szIntSS_con]) (L:=fun _=>none) Tryz_follows Tryz.func164 ?_;apply VC.thru (szRough_vc rows left hp);kernel_rfl
  · cases h
def szRough_con:Con Tryz.prog:=.f0 164 [] false szRough_get (enters Tryz.func164 (by kernel_rfl) rfl) szRough_ok
theorem szFew_vc (kept:List Dat) (left:Int) (hp:0<=left/\left<=1048576) :
 WFl (Ty.int i64) kept->I64 left->(0<=left/\left<=(1048576:Int))/\(decide (szR (totL (Ty.int i64) kept) left<(0:Int))->(-1:Int)=szR (totL (Ty.int i64) kept) left)/\(decide
 (szR (totL (Ty.int i64) kept) left<(0:Int))=false->szR (totL (Ty.int i64) kept) left=szR (totL (Ty.int i64) kept) left):=by
  intros
  simp only[iv,kv,fv,nm,ne_eq,implies_true,eq_self]
  ((repeat (first
    | (refine⟨⟨by omega,by omega⟩,fun h=>(by have h':=szR_neg h;rw[szR_no (by omega)]),fun h=>?_⟩;have h':=szR_pos h;(try simp only[szR_ge h']))
    | (refine⟨⟨by omega,by omega⟩,fun h=>(by have h':=szR_neg h;rw[szR_no (by omega)])⟩)));all_goals (first | rfl | (rw[szR_ge (by omega)];omega)))
def szFew_get (ins:List SV) (m:St):Option Got:=
  match ins,m with
  | [.agg [.sl (.int .i64) kept],.int .i64 left],⟨[],[],[]⟩=>some (0<=left/\left<=1048576,.int .i64 (szR (totL (.int .i64) kept) left),St.mk [] [] [])
  | _,_=>none
theorem szFew_ok:Ok0 Tryz.prog 165 szFew_get:=by
  intro _ _ _ _ _ h hp;unfold szFew_get at h;split at h
  · rename_i kept left;cases h;refine fn_ok0 (ct:=[szIntS_con]) (L:=fun _=>none) Tryz_follows Tryz.func165 ?_;apply VC.thru (szFew_vc kept left hp);kernel_rfl
  · cases h
def szFew_con:Con Tryz.prog:=.f0 165 [] true szFew_get (enters Tryz.func165 (by kernel_rfl) rfl) szFew_ok
theorem szPairS_vc (l:List Dat) (left:Int) (hp:0<=left/\left<=1048576) :
 WFl TPr l->I64 left->I64 (l.length:Int)->(decide (i64.wrap (left-(l.length:Int))<(0:Int))->(-1:Int)=szR (totL TPr l) left)/\(decide (i64.wrap (left-(l.length:Int)) <
 (0:Int))=false->i64.wrap (left-(l.length:Int))=szR (totL TPr l) left):=by
  intro hw _;simp only[iv,kv,fv,nm,ne_eq,implies_true,eq_self];have h1:=hw.1;intro _;rw[totL_flat (fun d=>by simp [tot,tots]),wrap_ok (by omega) (by omega)];unfold szR;refine⟨fun h=>by rw[if_pos (by omega)],fun h=>by rw[if_neg (by omega)]⟩
def szPairS_get (ins:List SV) (m:St):Option Got:=
  match ins,m with
  | [.sl ty0 l,.int .i64 left],⟨[],[],[]⟩=>guardTy ty0 TPr (some (0<=left/\left<=1048576,.int .i64 (szR (totL TPr l) left),St.mk [] [] []))
  | _,_=>none
theorem szPairS_ok:Ok0 Tryz.prog 190 szPairS_get:=by
  intro _ _ _ _ _ h hp;unfold szPairS_get at h;split at h
  · replace h:=gT h;obtain⟨rfl,h⟩:=h;rename_i l left;cases h;refine fn_ok0 (ct:=[]) (L:=fun _=>none) Tryz_follows Tryz.func190 ?_;apply VC.thru (szPairS_vc l left hp);kernel_rfl
  · cases h
def szPairS_con:Con Tryz.prog:=.f0 190 [] true szPairS_get (enters Tryz.func190 (by kernel_rfl) rfl) szPairS_ok
theorem szTop_vc (prs:List Dat) (lost all:Int) (left:Int) (hp:0<=left/\left<=1048576) :
 WFl TPr prs->I64 lost->I64 all->I64 left->(0<=left/\left<=(1048576:Int))/\(decide (szR (totL TPr prs) left<(0:Int))->(-1:Int)=szR (totL TPr prs) left)/\(decide (szR (totL
 TPr prs) left<(0:Int))=false->szR (totL TPr prs) left=szR (totL TPr prs) left):=by
  intros
  simp only[iv,kv,fv,nm,ne_eq,implies_true,eq_self]
  ((repeat (first
    | (refine⟨⟨by omega,by omega⟩,fun h=>(by have h':=szR_neg h;rw[szR_no (by omega)]),fun h=>?_⟩;have h':=szR_pos h;(try simp only[szR_ge h']))
    | (refine⟨⟨by omega,by omega⟩,fun h=>(by have h':=szR_neg h;rw[szR_no (by omega)])⟩)));all_goals (first | rfl | (rw[szR_ge (by omega)];omega)))
def szTop_get (ins:List SV) (m:St):Option Got:=
  match ins,m with
  | [.agg [.sl ty0 prs,.int .i64 _,.int .i64 _],.int .i64 left],⟨[],[],[]⟩=>guardTy ty0 TPr (some (0<=left/\left<=1048576,.int .i64 (szR (totL TPr prs) left),St.mk [] [] []))
  | _,_=>none
theorem szTop_ok:Ok0 Tryz.prog 166 szTop_get:=by
  intro _ _ _ _ _ h hp;unfold szTop_get at h;split at h
  · replace h:=gT h;obtain⟨rfl,h⟩:=h;rename_i prs lost all left;cases h;refine fn_ok0 (ct:=[szPairS_con]) (L:=fun _=>none) Tryz_follows Tryz.func166 ?_;apply VC.thru (szTop_vc prs lost all left hp);kernel_rfl
  · cases h
def szTop_con:Con Tryz.prog:=.f0 166 [] true szTop_get (enters Tryz.func166 (by kernel_rfl) rfl) szTop_ok
theorem szKnotS_vc (l:List Dat) (left:Int) (hp:0<=left/\left<=1048576) :
 WFl TPr l->I64 left->I64 (l.length:Int)->(decide (i64.wrap (left-(l.length:Int))<(0:Int))->(-1:Int)=szR (totL TPr l) left)/\(decide (i64.wrap (left-(l.length:Int)) <
 (0:Int))=false->i64.wrap (left-(l.length:Int))=szR (totL TPr l) left):=by
  intro hw _;simp only[iv,kv,fv,nm,ne_eq,implies_true,eq_self];have h1:=hw.1;intro _;rw[totL_flat (fun d=>by simp [tot,tots]),wrap_ok (by omega) (by omega)];unfold szR;refine⟨fun h=>by rw[if_pos (by omega)],fun h=>by rw[if_neg (by omega)]⟩
def szKnotS_get (ins:List SV) (m:St):Option Got:=
  match ins,m with
  | [.sl ty0 l,.int .i64 left],⟨[],[],[]⟩=>guardTy ty0 TPr (some (0<=left/\left<=1048576,.int .i64 (szR (totL TPr l) left),St.mk [] [] []))
  | _,_=>none
theorem szKnotS_ok:Ok0 Tryz.prog 191 szKnotS_get:=by
  intro _ _ _ _ _ h hp;unfold szKnotS_get at h;split at h
  · replace h:=gT h;obtain⟨rfl,h⟩:=h;rename_i l left;cases h;refine fn_ok0 (ct:=[]) (L:=fun _=>none) Tryz_follows Tryz.func191 ?_;apply VC.thru (szKnotS_vc l left hp);kernel_rfl
  · cases h
def szKnotS_con:Con Tryz.prog:=.f0 191 [] true szKnotS_get (enters Tryz.func191 (by kernel_rfl) rfl) szKnotS_ok
theorem szRank_vc (kn:List Dat) (rall:Int) (left:Int) (hp:0<=left/\left<=1048576) :
 WFl TPr kn->I64 rall->I64 left->(0<=left/\left<=(1048576:Int))/\(decide (szR (totL TPr kn) left<(0:Int))->(-1:Int)=szR (totL TPr kn) left)/\(decide (szR (totL TPr kn) left
 < (0:Int))=false->szR (totL TPr kn) left=szR (totL TPr kn) left):=by
  intros
  simp only[iv,kv,fv,nm,ne_eq,implies_true,eq_self]
  ((repeat (first
    | (refine⟨⟨by omega,by omega⟩,fun h=>(by have h':=szR_neg h;rw[szR_no (by omega)]),fun h=>?_⟩;have h':=szR_pos h;(try simp only[szR_ge h']))
    | (refine⟨⟨by omega,by omega⟩,fun h=>(by have h':=szR_neg h;rw[szR_no (by omega)])⟩)));all_goals (first | rfl | (rw[szR_ge (by omega)];omega)))
def szRank_get (ins:List SV) (m:St):Option Got:=
  match ins,m with
  | [.agg [.sl ty0 kn,.int .i64 _],.int .i64 left],⟨[],[],[]⟩=>guardTy ty0 TPr (some (0<=left/\left<=1048576,.int .i64 (szR (totL TPr kn) left),St.mk [] [] []))
  | _,_=>none
theorem szRank_ok:Ok0 Tryz.prog 167 szRank_get:=by
  intro _ _ _ _ _ h hp;unfold szRank_get at h;split at h
  · replace h:=gT h;obtain⟨rfl,h⟩:=h;rename_i kn rall left;cases h;refine fn_ok0 (ct:=[szKnotS_con]) (L:=fun _=>none) Tryz_follows Tryz.func167 ?_;apply VC.thru (szRank_vc kn rall left hp);kernel_rfl
  · cases h
def szRank_con:Con Tryz.prog:=.f0 167 [] true szRank_get (enters Tryz.func167 (by kernel_rfl) rfl) szRank_ok
theorem szSum_vc (rows kept prs kn:List Dat) (lost all rall:Int) (left:Int) (hp:0<=left/\left<=1048576) :
 WFl (Ty.int i64).sl rows->WFl (Ty.int i64) kept->WFl TPr prs->I64 lost->I64 all->WFl TPr kn->I64 rall->I64 left->(0<=left/\left<=(1048576:Int))/\(decide (szR (totL (Ty.int i64).sl rows)
 left<(0:Int))=true->(-1:Int)=szR (totL (Ty.int i64).sl rows+totL (Ty.int i64) kept+totL TPr prs+totL TPr kn) left)/\(decide (szR (totL (Ty.int i64).sl rows) left <
 (0:Int))=false->(0<=szR (totL (Ty.int i64).sl rows) left/\szR (totL (Ty.int i64).sl rows) left<=(1048576:Int))/\(decide (szR (totL (Ty.int i64) kept) (szR (totL (Ty.int i64).sl
 rows) left)<(0:Int))=true->(-1:Int)=szR (totL (Ty.int i64).sl rows+totL (Ty.int i64) kept+totL TPr prs+totL TPr kn) left)/\(decide (szR (totL (Ty.int i64) kept) (szR
 (totL (Ty.int i64).sl rows) left)<(0:Int))=false->(0<=szR (totL (Ty.int i64) kept) (szR (totL (Ty.int i64).sl rows) left)/\szR (totL (Ty.int i64) kept) (szR (totL (Ty.int
 i64).sl rows) left)<=(1048576:Int))/\(decide (szR (totL TPr prs) (szR (totL (Ty.int i64) kept) (szR (totL (Ty.int i64).sl rows) left))<(0:Int))->(-1:Int)=szR (totL (Ty.int
 i64).sl rows+totL (Ty.int i64) kept+totL TPr prs+totL TPr kn) left)/\(decide (szR (totL TPr prs) (szR (totL (Ty.int i64) kept) (szR (totL (Ty.int i64).sl rows) left)) <
 (0:Int))=false->(0<=szR (totL TPr prs) (szR (totL (Ty.int i64) kept) (szR (totL (Ty.int i64).sl rows) left))/\szR (totL TPr prs) (szR (totL (Ty.int i64) kept) (szR (totL
 (Ty.int i64).sl rows) left))<=(1048576:Int))/\(decide (szR (totL TPr kn) (szR (totL TPr prs) (szR (totL (Ty.int i64) kept) (szR (totL (Ty.int i64).sl rows) left)))<(0:Int)) =
 true->(-1:Int)=szR (totL (Ty.int i64).sl rows+totL (Ty.int i64) kept+totL TPr prs+totL TPr kn) left)/\(decide (szR (totL TPr kn) (szR (totL TPr prs) (szR (totL (Ty.int i64)
 kept) (szR (totL (Ty.int i64).sl rows) left)))<(0:Int))=false->szR (totL TPr kn) (szR (totL TPr prs) (szR (totL (Ty.int i64) kept) (szR (totL (Ty.int i64).sl rows) left)))=szR
 (totL (Ty.int i64).sl rows+totL (Ty.int i64) kept+totL TPr prs+totL TPr kn) left)))):=by
  intros
  simp only[iv,kv,fv,nm,ne_eq,implies_true,eq_self]
  ((repeat (first
    | (refine⟨⟨by omega,by omega⟩,fun h=>(by have h':=szR_neg h;rw[szR_no (by omega)]),fun h=>?_⟩;have h':=szR_pos h;(try simp only[szR_ge h']))
    | (refine⟨⟨by omega,by omega⟩,fun h=>(by have h':=szR_neg h;rw[szR_no (by omega)])⟩)));all_goals (first | rfl | (rw[szR_ge (by omega)];omega)))
def szSum_get (ins:List SV) (m:St):Option Got:=
  match ins,m with
  | [.agg [.sl (.sl (.int .i64)) rows,.sl (.int .i64) kept,.sl ty0 prs,.int .i64 _,.int .i64 _,.sl ty1 kn,.int .i64 _],.int .i64 left],⟨[],[],[]⟩=>guardTy ty0 TPr (guardTy ty1 TPr (some (0<=left/\left<=1048576,.int .i64 (szR (totL (.sl (.int .i64)) rows+totL (.int .i64) kept+totL TPr prs+totL TPr kn) left),St.mk [] [] [])))
  | _,_=>none
theorem szSum_ok:Ok0 Tryz.prog 130 szSum_get:=by
  intro _ _ _ _ _ h hp;unfold szSum_get at h;split at h
  · replace h:=gT h;obtain⟨rfl,h⟩:=h;replace h:=gT h;obtain⟨rfl,h⟩:=h;rename_i rows kept prs lost all kn rall left;cases h;refine fn_ok0 (ct:=[szRough_con,szFew_con,szTop_con,szRank_con]) (L:=fun _=>none) Tryz_follows Tryz.func130 ?_;apply VC.thru (szSum_vc rows kept prs kn lost all rall left hp);kernel_rfl
  · cases h
def szSum_con:Con Tryz.prog:=.f0 130 [] false szSum_get (enters Tryz.func130 (by kernel_rfl) rfl) szSum_ok
theorem szEntry_vc (node born num:Int) (rows kept prs kn:List Dat) (lost all rall:Int) (left:Int) (hp:0<=left/\left<=1048576) :
 I64 node->I64 born->I64 num->WFl (Ty.int i64).sl rows->WFl (Ty.int i64) kept->WFl TPr prs->I64 lost->I64 all->WFl TPr kn->I64 rall->I64 left->(0<=left/\left<=(1048576:Int))/\(decide (szR
 (totL (Ty.int i64).sl rows+totL (Ty.int i64) kept+totL TPr prs+totL TPr kn) left<(0:Int))=true->(-1:Int)=szR (totL (Ty.int i64).sl rows+totL (Ty.int i64) kept+totL
 TPr prs+totL TPr kn) left)/\(decide (szR (totL (Ty.int i64).sl rows+totL (Ty.int i64) kept+totL TPr prs+totL TPr kn) left<(0:Int))=false->szR (totL (Ty.int i64).sl rows +
 totL (Ty.int i64) kept+totL TPr prs+totL TPr kn) left=szR (totL (Ty.int i64).sl rows+totL (Ty.int i64) kept+totL TPr prs+totL TPr kn) left):=by
  intros
  simp only[iv,kv,fv,nm,ne_eq,implies_true,eq_self]
  ((repeat (first
    | (refine⟨⟨by omega,by omega⟩,fun h=>(by have h':=szR_neg h;rw[szR_no (by omega)]),fun h=>?_⟩;have h':=szR_pos h;(try simp only[szR_ge h']))
    | (refine⟨⟨by omega,by omega⟩,fun h=>(by have h':=szR_neg h;rw[szR_no (by omega)])⟩)));all_goals (first | rfl | (rw[szR_ge (by omega)];omega)))
def szEntry_get (ins:List SV) (m:St):Option Got:=
  match ins,m with
  | [.agg [.int .i64 _,.int .i64 _,.int .i64 _,.sl (.sl (.int .i64)) rows,.sl (.int .i64) kept,.sl ty0 prs,.int .i64 _,.int .i64 _,.sl ty1 kn,.int .i64 _],.int .i64 left],⟨[],[],[]⟩=>guardTy ty0 TPr (guardTy ty1 TPr (some (0<=left/\left<=1048576,.int .i64 (szR (totL (.sl (.int .i64)) rows+totL (.int .i64) kept+totL TPr prs+totL TPr kn) left),St.mk [] [] [])))
  | _,_=>none
theorem szEntry_ok:Ok0 Tryz.prog 60 szEntry_get:=by
  intro _ _ _ _ _ h hp;unfold szEntry_get at h;split at h
  · replace h:=gT h;obtain⟨rfl,h⟩:=h;replace h:=gT h;obtain⟨rfl,h⟩:=h;rename_i node born num rows kept prs lost all kn rall left;cases h;refine fn_ok0 (ct:=[szSum_con]) (L:=fun _=>none) Tryz_follows Tryz.func60 ?_;apply VC.thru (szEntry_vc node born num rows kept prs kn lost all rall left hp);kernel_rfl
  · cases h
def szEntry_con:Con Tryz.prog:=.f0 60 [] false szEntry_get (enters Tryz.func60 (by kernel_rfl) rfl) szEntry_ok
theorem szEntryS_vc (l:List Dat) (left:Int) (hp:0<=left/\left<=1048576) :
 WFl TEnt l->I64 left->I64 (l.length:Int)->(decide (i64.wrap (left-(l.length:Int))<(0:Int))->(-1:Int)=szR (totL TEnt l) left)/\(decide (i64.wrap (left-(l.length:Int)) <
 (0:Int))=false->(∃x:Nat,(x<=l.length/\(l.length:Int)+(↑(totP TEnt l x):Int)<=left)/\l=l/\i64.wrap (left-(l.length:Int))=left-(l.length:Int)-(↑(totP TEnt l
 x):Int)/\0=(x:Int))/\∀x:Nat,x<=l.length/\(l.length:Int)+(↑(totP TEnt l x):Int)<=left->I64 (l.length:Int)->(decide ((x:Int)<(l.length:Int))->(0<=(x:Int)/\(x:Int) <
 (l.length:Int))/\(0<=left-(l.length:Int)-(↑(totP TEnt l x):Int)/\left-(l.length:Int)-(↑(totP TEnt l x):Int)<=1048576)/\(decide (szR (totL (Ty.int i64).sl ((((l.getD
 x default).f 3).f 0).f 0).kids+totL (Ty.int i64) ((((l.getD x default).f 3).f 1).f 0).kids+totL TPr ((((l.getD x default).f 3).f 2).f 0).kids+totL TPr ((((l.getD x default).f
 3).f 3).f 0).kids) (left-(l.length:Int)-(↑(totP TEnt l x):Int))<(0:Int))=true->(-1:Int)=szR (totL TEnt l) left)/\(decide (szR (totL (Ty.int i64).sl ((((l.getD x default).f
 3).f 0).f 0).kids+totL (Ty.int i64) ((((l.getD x default).f 3).f 1).f 0).kids+totL TPr ((((l.getD x default).f 3).f 2).f 0).kids+totL TPr ((((l.getD x default).f 3).f 3).f
 0).kids) (left-(l.length:Int)-(↑(totP TEnt l x):Int))<(0:Int))=false->∃x_1:Nat,((x_1<=l.length/\(l.length:Int)+(↑(totP TEnt l x_1):Int)<=left)/\l.length-x_1<l.length -
 x)/\l=l/\szR (totL (Ty.int i64).sl ((((l.getD x default).f 3).f 0).f 0).kids+totL (Ty.int i64) ((((l.getD x default).f 3).f 1).f 0).kids+totL TPr ((((l.getD x default).f 3).f
 2).f 0).kids+totL TPr ((((l.getD x default).f 3).f 3).f 0).kids) (left-(l.length:Int)-(↑(totP TEnt l x):Int))=left-(l.length:Int)-(↑(totP TEnt l x_1):Int)/\i64.wrap
 ((x:Int)+1)=(x_1:Int)))/\(decide ((x:Int)<(l.length:Int))=false->left-(l.length:Int)-(↑(totP TEnt l x):Int)=szR (totL TEnt l) left)):=by
  intro hw
  intros
  simp only[iv,kv,fv,nm,ne_eq,implies_true,eq_self];have h1:=hw.1;have h2:=totL_length TEnt l;have eT:∀d,tot TEnt d=_:=tot_ent;rw[wrap_ok (by omega) (by omega)];refine⟨fun h=>by rw[szR_no (by omega)],fun h=>⟨⟨0,⟨by omega,by rw[totP_zero];omega⟩,by rw[totP_zero];omega,rfl⟩,fun x hx _=>⟨fun hlt=>?_,fun hlt=>?_⟩⟩⟩
  · have h3:=totP_next (e:=TEnt) (ds:=l) (g:=x) (by omega);have h4:=totP_le (e:=TEnt) l (x+1);rw[eT] at h3;refine⟨⟨by omega,by omega⟩,⟨by omega,by omega⟩,fun h=>?_,fun h=>?_⟩
    · have:=szR_neg h;rw[szR_no (by omega)]
    · have:=szR_pos h;rw[szR_ge this];exact⟨x+1,⟨⟨by omega,by omega⟩,by omega⟩,by omega,up_ok (n:=l.length) (by omega) (by omega)⟩
  · have h3:=totP_all (e:=TEnt) (ds:=l) (g:=x) (by omega);rw[szR_ge (by omega)];omega
def szEntryS_get (ins:List SV) (m:St):Option Got:=
  match ins,m with
  | [.sl ty0 l,.int .i64 left],⟨[],[],[]⟩=>guardTy ty0 TEnt (some (0<=left/\left<=1048576,.int .i64 (szR (totL TEnt l) left),St.mk [] [] []))
  | _,_=>none
theorem szEntryS_ok:Ok0 Tryz.prog 18 szEntryS_get:=by
  intro _ _ _ _ _ h hp;unfold szEntryS_get at h;split at h
  · replace h:=gT h;obtain⟨rfl,h⟩:=h;rename_i l left;cases h;refine fn_ok0 (ct:=[szEntry_con]) (L:=fun k=>bif Nat.beq k 5 then some (.g (⟨Nat,fun s g=>hd s [0] [(1,.int .i64 (left-l.length-totP TEnt l g)),(5,.int .i64 g)] s.rw,fun _ g=>g<=l.length/\l.length+totP TEnt l g<=left,fun g=>l.length-g⟩)) else none) Tryz_follows Tryz.func18 ?_;apply VC.thru (szEntryS_vc l left hp);kernel_rfl
  · cases h
def szEntryS_con:Con Tryz.prog:=.f0 18 [] false szEntryS_get (enters Tryz.func18 (by kernel_rfl) rfl) szEntryS_ok
theorem szNode_vc (born beacon level up:Int) (known:List Dat) (left:Int) (hp:0<=left/\left<=1048576) :
 I64 born->WFl TEnt known->I64 beacon->I64 level->I64 up->I64 left->(0<=left/\left<=(1048576:Int))/\(decide (szR (totL TEnt known) left<(0:Int))->(-1:Int)=szR (totL TEnt
 known) left)/\(decide (szR (totL TEnt known) left<(0:Int))=false->szR (totL TEnt known) left=szR (totL TEnt known) left):=by
  intros
  simp only[iv,kv,fv,nm,ne_eq,implies_true,eq_self]
  ((repeat (first
    | (refine⟨⟨by omega,by omega⟩,fun h=>(by have h':=szR_neg h;rw[szR_no (by omega)]),fun h=>?_⟩;have h':=szR_pos h;(try simp only[szR_ge h']))
    | (refine⟨⟨by omega,by omega⟩,fun h=>(by have h':=szR_neg h;rw[szR_no (by omega)])⟩)));all_goals (first | rfl | (rw[szR_ge (by omega)];omega)))
def szNode_get (ins:List SV) (m:St):Option Got:=
  match ins,m with
  | [.agg [.int .i64 _,.sl ty0 known,.int .i64 _,.int .i64 _,.int .i64 _],.int .i64 left],⟨[],[],[]⟩=>guardTy ty0 TEnt (some (0<=left/\left<=1048576,.int .i64 (szR (totL TEnt known) left),St.mk [] [] []))
  | _,_=>none
theorem szNode_ok:Ok0 Tryz.prog 127 szNode_get:=by
  intro _ _ _ _ _ h hp;unfold szNode_get at h;split at h
  · replace h:=gT h;obtain⟨rfl,h⟩:=h;rename_i born known beacon level up left;cases h;refine fn_ok0 (ct:=[szEntryS_con]) (L:=fun _=>none) Tryz_follows Tryz.func127 ?_;apply VC.thru (szNode_vc born beacon level up known left hp);kernel_rfl
  · cases h
def szNode_con:Con Tryz.prog:=.f0 127 [] false szNode_get (enters Tryz.func127 (by kernel_rfl) rfl) szNode_ok
theorem szNodeS_vc (l:List Dat) (left:Int) (hp:0<=left/\left<=1048576) :
 WFl TNode l->I64 left->I64 (l.length:Int)->(decide (i64.wrap (left-(l.length:Int))<(0:Int))->(-1:Int)=szR (totL TNode l) left)/\(decide (i64.wrap (left-(l.length:Int)) <
 (0:Int))=false->(∃x:Nat,(x<=l.length/\(l.length:Int)+(↑(totP TNode l x):Int)<=left)/\l=l/\i64.wrap (left-(l.length:Int))=left-(l.length:Int)-(↑(totP TNode l
 x):Int)/\0=(x:Int))/\∀x:Nat,x<=l.length/\(l.length:Int)+(↑(totP TNode l x):Int)<=left->I64 (l.length:Int)->(decide ((x:Int)<(l.length:Int))->(0<=(x:Int)/\(x:Int) <
 (l.length:Int))/\(0<=left-(l.length:Int)-(↑(totP TNode l x):Int)/\left-(l.length:Int)-(↑(totP TNode l x):Int)<=1048576)/\(decide (szR (totL TEnt ((l.getD x
 default).f 1).kids) (left-(l.length:Int)-(↑(totP TNode l x):Int))<(0:Int))=true->(-1:Int)=szR (totL TNode l) left)/\(decide (szR (totL TEnt ((l.getD x default).f 1).kids)
 (left-(l.length:Int)-(↑(totP TNode l x):Int))<(0:Int))=false->∃x_1:Nat,((x_1<=l.length/\(l.length:Int)+(↑(totP TNode l x_1):Int)<=left)/\l.length-x_1<l.length-x)/\l =
 l/\szR (totL TEnt ((l.getD x default).f 1).kids) (left-(l.length:Int)-(↑(totP TNode l x):Int))=left-(l.length:Int)-(↑(totP TNode l x_1):Int)/\i64.wrap ((x:Int)+1) =
 (x_1:Int)))/\(decide ((x:Int)<(l.length:Int))=false->left-(l.length:Int)-(↑(totP TNode l x):Int)=szR (totL TNode l) left)):=by
  intro hw
  intros
  simp only[iv,kv,fv,nm,ne_eq,implies_true,eq_self];have h1:=hw.1;have h2:=totL_length TNode l;have eT:∀d,tot TNode d=_:=tot_nd;rw[wrap_ok (by omega) (by omega)];refine⟨fun h=>by rw[szR_no (by omega)],fun h=>⟨⟨0,⟨by omega,by rw[totP_zero];omega⟩,by rw[totP_zero];omega,rfl⟩,fun x hx _=>⟨fun hlt=>?_,fun hlt=>?_⟩⟩⟩
  · have h3:=totP_next (e:=TNode) (ds:=l) (g:=x) (by omega);have h4:=totP_le (e:=TNode) l (x+1);rw[eT] at h3;refine⟨⟨by omega,by omega⟩,⟨by omega,by omega⟩,fun h=>?_,fun h=>?_⟩
    · have:=szR_neg h;rw[szR_no (by omega)]
    · have:=szR_pos h;rw[szR_ge this];exact⟨x+1,⟨⟨by omega,by omega⟩,by omega⟩,by omega,up_ok (n:=l.length) (by omega) (by omega)⟩
  · have h3:=totP_all (e:=TNode) (ds:=l) (g:=x) (by omega);rw[szR_ge (by omega)];omega
def szNodeS_get (ins:List SV) (m:St):Option Got:=
  match ins,m with
  | [.sl ty0 l,.int .i64 left],⟨[],[],[]⟩=>guardTy ty0 TNode (some (0<=left/\left<=1048576,.int .i64 (szR (totL TNode l) left),St.mk [] [] []))
  | _,_=>none
theorem szNodeS_ok:Ok0 Tryz.prog 56 szNodeS_get:=by
  intro _ _ _ _ _ h hp;unfold szNodeS_get at h;split at h
  · replace h:=gT h;obtain⟨rfl,h⟩:=h;rename_i l left;cases h;refine fn_ok0 (ct:=[szNode_con]) (L:=fun k=>bif Nat.beq k 5 then some (.g (⟨Nat,fun s g=>hd s [0] [(1,.int .i64 (left-l.length-totP TNode l g)),(5,.int .i64 g)] s.rw,fun _ g=>g<=l.length/\l.length+totP TNode l g<=left,fun g=>l.length-g⟩)) else none) Tryz_follows Tryz.func56 ?_;apply VC.thru (szNodeS_vc l left hp);kernel_rfl
  · cases h
def szNodeS_con:Con Tryz.prog:=.f0 56 [] false szNodeS_get (enters Tryz.func56 (by kernel_rfl) rfl) szNodeS_ok
theorem szBoolS_vc (l:List Dat) (left:Int) (hp:0<=left/\left<=1048576) :
 WFl Ty.bool l->I64 left->I64 (l.length:Int)->(decide (i64.wrap (left-(l.length:Int))<(0:Int))->(-1:Int)=szR (totL Ty.bool l) left)/\(decide (i64.wrap (left -
 (l.length:Int))<(0:Int))=false->i64.wrap (left-(l.length:Int))=szR (totL Ty.bool l) left):=by
  intro hw _;simp only[iv,kv,fv,nm,ne_eq,implies_true,eq_self];have h1:=hw.1;intro _;rw[totL_flat tot_bool,wrap_ok (by omega) (by omega)];unfold szR;refine⟨fun h=>by rw[if_pos (by omega)],fun h=>by rw[if_neg (by omega)]⟩
def szBoolS_get (ins:List SV) (m:St):Option Got:=
  match ins,m with
  | [.sl .bool l,.int .i64 left],⟨[],[],[]⟩=>some (0<=left/\left<=1048576,.int .i64 (szR (totL .bool l) left),St.mk [] [] [])
  | _,_=>none
theorem szBoolS_ok:Ok0 Tryz.prog 57 szBoolS_get:=by
  intro _ _ _ _ _ h hp;unfold szBoolS_get at h;split at h
  · rename_i l left;cases h;refine fn_ok0 (ct:=[]) (L:=fun _=>none) Tryz_follows Tryz.func57 ?_;apply VC.thru (szBoolS_vc l left hp);kernel_rfl
  · cases h
def szBoolS_con:Con Tryz.prog:=.f0 57 [] true szBoolS_get (enters Tryz.func57 (by kernel_rfl) rfl) szBoolS_ok
theorem szWord_vc (kind fr to beacon level:Int) (known:List Dat) (left:Int) (hp:0<=left/\left<=1048576) :
 I64 kind->I64 fr->I64 to->I64 beacon->I64 level->WFl TEnt known->I64 left->(0<=left/\left<=(1048576:Int))/\(decide (szR (totL TEnt known) left<(0:Int))->(-1:Int)=szR (totL
 TEnt known) left)/\(decide (szR (totL TEnt known) left<(0:Int))=false->szR (totL TEnt known) left=szR (totL TEnt known) left):=by
  intros
  simp only[iv,kv,fv,nm,ne_eq,implies_true,eq_self]
  ((repeat (first
    | (refine⟨⟨by omega,by omega⟩,fun h=>(by have h':=szR_neg h;rw[szR_no (by omega)]),fun h=>?_⟩;have h':=szR_pos h;(try simp only[szR_ge h']))
    | (refine⟨⟨by omega,by omega⟩,fun h=>(by have h':=szR_neg h;rw[szR_no (by omega)])⟩)));all_goals (first | rfl | (rw[szR_ge (by omega)];omega)))
def szWord_get (ins:List SV) (m:St):Option Got:=
  match ins,m with
  | [.agg [.int .i64 _,.int .i64 _,.int .i64 _,.int .i64 _,.int .i64 _,.sl ty0 known],.int .i64 left],⟨[],[],[]⟩=>guardTy ty0 TEnt (some (0<=left/\left<=1048576,.int .i64 (szR (totL TEnt known) left),St.mk [] [] []))
  | _,_=>none
theorem szWord_ok:Ok0 Tryz.prog 128 szWord_get:=by
  intro _ _ _ _ _ h hp;unfold szWord_get at h;split at h
  · replace h:=gT h;obtain⟨rfl,h⟩:=h;rename_i kind fr to beacon level known left;cases h;refine fn_ok0 (ct:=[szEntryS_con]) (L:=fun _=>none) Tryz_follows Tryz.func128 ?_;apply VC.thru (szWord_vc kind fr to beacon level known left hp);kernel_rfl
  · cases h
def szWord_con:Con Tryz.prog:=.f0 128 [] false szWord_get (enters Tryz.func128 (by kernel_rfl) rfl) szWord_ok
theorem szWordS_vc (l:List Dat) (left:Int) (hp:0<=left/\left<=1048576) :
 WFl TWord l->I64 left->I64 (l.length:Int)->(decide (i64.wrap (left-(l.length:Int))<(0:Int))->(-1:Int)=szR (totL TWord l) left)/\(decide (i64.wrap (left-(l.length:Int)) <
 (0:Int))=false->(∃x:Nat,(x<=l.length/\(l.length:Int)+(↑(totP TWord l x):Int)<=left)/\l=l/\i64.wrap (left-(l.length:Int))=left-(l.length:Int)-(↑(totP TWord l
 x):Int)/\0=(x:Int))/\∀x:Nat,x<=l.length/\(l.length:Int)+(↑(totP TWord l x):Int)<=left->I64 (l.length:Int)->(decide ((x:Int)<(l.length:Int))->(0<=(x:Int)/\(x:Int) <
 (l.length:Int))/\(0<=left-(l.length:Int)-(↑(totP TWord l x):Int)/\left-(l.length:Int)-(↑(totP TWord l x):Int)<=1048576)/\(decide (szR (totL TEnt ((l.getD x
 default).f 5).kids) (left-(l.length:Int)-(↑(totP TWord l x):Int))<(0:Int))=true->(-1:Int)=szR (totL TWord l) left)/\(decide (szR (totL TEnt ((l.getD x default).f 5).kids)
 (left-(l.length:Int)-(↑(totP TWord l x):Int))<(0:Int))=false->∃x_1:Nat,((x_1<=l.length/\(l.length:Int)+(↑(totP TWord l x_1):Int)<=left)/\l.length-x_1<l.length-x)/\l =
 l/\szR (totL TEnt ((l.getD x default).f 5).kids) (left-(l.length:Int)-(↑(totP TWord l x):Int))=left-(l.length:Int)-(↑(totP TWord l x_1):Int)/\i64.wrap ((x:Int)+1) =
 (x_1:Int)))/\(decide ((x:Int)<(l.length:Int))=false->left-(l.length:Int)-(↑(totP TWord l x):Int)=szR (totL TWord l) left)):=by
  intro hw
  intros
  simp only[iv,kv,fv,nm,ne_eq,implies_true,eq_self];have h1:=hw.1;have h2:=totL_length TWord l;have eT:∀d,tot TWord d=_:=tot_wd;rw[wrap_ok (by omega) (by omega)];refine⟨fun h=>by rw[szR_no (by omega)],fun h=>⟨⟨0,⟨by omega,by rw[totP_zero];omega⟩,by rw[totP_zero];omega,rfl⟩,fun x hx _=>⟨fun hlt=>?_,fun hlt=>?_⟩⟩⟩
  · have h3:=totP_next (e:=TWord) (ds:=l) (g:=x) (by omega);have h4:=totP_le (e:=TWord) l (x+1);rw[eT] at h3;refine⟨⟨by omega,by omega⟩,⟨by omega,by omega⟩,fun h=>?_,fun h=>?_⟩
    · have:=szR_neg h;rw[szR_no (by omega)]
    · have:=szR_pos h;rw[szR_ge this];exact⟨x+1,⟨⟨by omega,by omega⟩,by omega⟩,by omega,up_ok (n:=l.length) (by omega) (by omega)⟩
  · have h3:=totP_all (e:=TWord) (ds:=l) (g:=x) (by omega);rw[szR_ge (by omega)];omega
def szWordS_get (ins:List SV) (m:St):Option Got:=
  match ins,m with
  | [.sl ty0 l,.int .i64 left],⟨[],[],[]⟩=>guardTy ty0 TWord (some (0<=left/\left<=1048576,.int .i64 (szR (totL TWord l) left),St.mk [] [] []))
  | _,_=>none
theorem szWordS_ok:Ok0 Tryz.prog 58 szWordS_get:=by
  intro _ _ _ _ _ h hp;unfold szWordS_get at h;split at h
  · replace h:=gT h;obtain⟨rfl,h⟩:=h;rename_i l left;cases h;refine fn_ok0 (ct:=[szWord_con]) (L:=fun k=>bif Nat.beq k 5 then some (.g (⟨Nat,fun s g=>hd s [0] [(1,.int .i64 (left-l.length-totP TWord l g)),(5,.int .i64 g)] s.rw,fun _ g=>g<=l.length/\l.length+totP TWord l g<=left,fun g=>l.length-g⟩)) else none) Tryz_follows Tryz.func58 ?_;apply VC.thru (szWordS_vc l left hp);kernel_rfl
  · cases h
def szWordS_con:Con Tryz.prog:=.f0 58 [] false szWordS_get (enters Tryz.func58 (by kernel_rfl) rfl) szWordS_ok
theorem szIntSSS_vc (l:List Dat) (left:Int) (hp:0<=left/\left<=1048576) :
 WFl (Ty.int i64).sl.sl l->I64 left->I64 (l.length:Int)->(decide (i64.wrap (left-(l.length:Int))<(0:Int))->(-1:Int)=szR (totL (Ty.int i64).sl.sl l) left)/\(decide (i64.wrap
 (left-(l.length:Int))<(0:Int))=false->(∃x:Nat,(x<=l.length/\(l.length:Int)+(↑(totP (Ty.int i64).sl.sl l x):Int)<=left)/\l=l/\i64.wrap (left-(l.length:Int))=left -
 (l.length:Int)-(↑(totP (Ty.int i64).sl.sl l x):Int)/\0=(x:Int))/\∀x:Nat,x<=l.length/\(l.length:Int)+(↑(totP (Ty.int i64).sl.sl l x):Int)<=left->I64 (l.length:Int)->(decide
 ((x:Int)<(l.length:Int))=true->(0<=(x:Int)/\(x:Int)<(l.length:Int))/\(0<=left-(l.length:Int)-(↑(totP (Ty.int i64).sl.sl l x):Int)/\left-(l.length:Int)-(↑(totP (Ty.int
 i64).sl.sl l x):Int)<=1048576)/\(decide (szR (totL (Ty.int i64).sl (l.getD x default).kids) (left-(l.length:Int)-(↑(totP (Ty.int i64).sl.sl l x):Int))<(0:Int)) =
 true->(-1:Int)=szR (totL (Ty.int i64).sl.sl l) left)/\(decide (szR (totL (Ty.int i64).sl (l.getD x default).kids) (left-(l.length:Int)-(↑(totP (Ty.int i64).sl.sl l x):Int)) <
 (0:Int))=false->∃x_1:Nat,((x_1<=l.length/\(l.length:Int)+(↑(totP (Ty.int i64).sl.sl l x_1):Int)<=left)/\l.length-x_1<l.length-x)/\l=l/\szR (totL (Ty.int i64).sl (l.getD x
 default).kids) (left-(l.length:Int)-(↑(totP (Ty.int i64).sl.sl l x):Int))=left-(l.length:Int)-(↑(totP (Ty.int i64).sl.sl l x_1):Int)/\i64.wrap ((x:Int)+1) =
 (x_1:Int)))/\(decide ((x:Int)<(l.length:Int))=false->left-(l.length:Int)-(↑(totP (Ty.int i64).sl.sl l x):Int)=szR (totL (Ty.int i64).sl.sl l) left)):=by
  intro hw
  intros
  simp only[iv,kv,fv,nm,ne_eq,implies_true,eq_self];have h1:=hw.1;have h2:=totL_length (.sl (.sl (.int .i64))) l;have eT:∀d,tot (.sl (.sl (.int .i64))) d=_:=tot_is _;rw[wrap_ok (by omega) (by omega)];refine⟨fun h=>by rw[szR_no (by omega)],fun h=>⟨⟨0,⟨by omega,by rw[totP_zero];omega⟩,by rw[totP_zero];omega,rfl⟩,fun x hx _=>⟨fun hlt=>?_,fun hlt=>?_⟩⟩⟩
  · have h3:=totP_next (e:=(.sl (.sl (.int .i64)))) (ds:=l) (g:=x) (by omega);have h4:=totP_le (e:=(.sl (.sl (.int .i64)))) l (x+1);rw[eT] at h3;refine⟨⟨by omega,by omega⟩,⟨by omega,by omega⟩,fun h=>?_,fun h=>?_⟩
    · have:=szR_neg h;rw[szR_no (by omega)]
    · have:=szR_pos h;rw[szR_ge this];exact⟨x+1,⟨⟨by omega,by omega⟩,by omega⟩,by omega,up_ok (n:=l.length) (by omega) (by omega)⟩
  · have h3:=totP_all (e:=(.sl (.sl (.int .i64)))) (ds:=l) (g:=x) (by omega);rw[szR_ge (by omega)];omega
def szIntSSS_get (ins:List SV) (m:St):Option Got:=
  match ins,m with
  | [.sl (.sl (.sl (.int .i64))) l,.int .i64 left],⟨[],[],[]⟩=>some (0<=left/\left<=1048576,.int .i64 (szR (totL (.sl (.sl (.int .i64))) l) left),St.mk [] [] [])
  | _,_=>none
theorem szIntSSS_ok:Ok0 Tryz.prog 59 szIntSSS_get:=by
  intro _ _ _ _ _ h hp;unfold szIntSSS_get at h;split at h
  · rename_i l left;cases h;refine fn_ok0 (ct:=[szIntSS_con]) (L:=fun k=>bif Nat.beq k 5 then some (.g (⟨Nat,fun s g=>hd s [0] [(1,.int .i64 (left-l.length-totP (.sl (.sl (.int .i64))) l g)),(5,.int .i64 g)] s.rw,fun _ g=>g<=l.length/\l.length+totP (.sl (.sl (.int .i64))) l g<=left,fun g=>l.length-g⟩)) else none) Tryz_follows Tryz.func59 ?_;apply VC.thru (szIntSSS_vc l left hp);kernel_rfl
  · cases h
def szIntSSS_con:Con Tryz.prog:=.f0 59 [] false szIntSSS_get (enters Tryz.func59 (by kernel_rfl) rfl) szIntSSS_ok
theorem szNet_vc (nodes links words past:List Dat) (left:Int) (hp:0<=left/\left<=1048576) :
 WFl TNode nodes->WFl Ty.bool links->WFl TWord words->WFl (Ty.int i64).sl.sl past->I64 left->(0<=left/\left<=(1048576:Int))/\(decide (szR (totL TNode nodes) left<(0:Int)) =
 true->(-1:Int)=szR (totL TNode nodes+totL Ty.bool links+totL TWord words+totL (Ty.int i64).sl.sl past) left)/\(decide (szR (totL TNode nodes) left<(0:Int)) =
 false->(0<=szR (totL TNode nodes) left/\szR (totL TNode nodes) left<=(1048576:Int))/\(decide (szR (totL Ty.bool links) (szR (totL TNode nodes) left)<(0:Int))->(-1:Int) =
 szR (totL TNode nodes+totL Ty.bool links+totL TWord words+totL (Ty.int i64).sl.sl past) left)/\(decide (szR (totL Ty.bool links) (szR (totL TNode nodes) left)<(0:Int)) =
 false->(0<=szR (totL Ty.bool links) (szR (totL TNode nodes) left)/\szR (totL Ty.bool links) (szR (totL TNode nodes) left)<=(1048576:Int))/\(decide (szR (totL TWord words) (szR
 (totL Ty.bool links) (szR (totL TNode nodes) left))<(0:Int))=true->(-1:Int)=szR (totL TNode nodes+totL Ty.bool links+totL TWord words+totL (Ty.int i64).sl.sl past)
 left)/\(decide (szR (totL TWord words) (szR (totL Ty.bool links) (szR (totL TNode nodes) left))<(0:Int))=false->(0<=szR (totL TWord words) (szR (totL Ty.bool links) (szR
 (totL TNode nodes) left))/\szR (totL TWord words) (szR (totL Ty.bool links) (szR (totL TNode nodes) left))<=(1048576:Int))/\(decide (szR (totL (Ty.int i64).sl.sl past) (szR (totL
 TWord words) (szR (totL Ty.bool links) (szR (totL TNode nodes) left)))<(0:Int))=true->(-1:Int)=szR (totL TNode nodes+totL Ty.bool links+totL TWord words+totL (Ty.int
 i64).sl.sl past) left)/\(decide (szR (totL (Ty.int i64).sl.sl past) (szR (totL TWord words) (szR (totL Ty.bool links) (szR (totL TNode nodes) left)))<(0:Int))=false->szR (totL
 (Ty.int i64).sl.sl past) (szR (totL TWord words) (szR (totL Ty.bool links) (szR (totL TNode nodes) left)))=szR (totL TNode nodes+totL Ty.bool links+totL TWord words+totL
 (Ty.int i64).sl.sl past) left)))):=by
  intros
  simp only[iv,kv,fv,nm,ne_eq,implies_true,eq_self]
  ((repeat (first
    | (refine⟨⟨by omega,by omega⟩,fun h=>(by have h':=szR_neg h;rw[szR_no (by omega)]),fun h=>?_⟩;have h':=szR_pos h;(try simp only[szR_ge h']))
    | (refine⟨⟨by omega,by omega⟩,fun h=>(by have h':=szR_neg h;rw[szR_no (by omega)])⟩)));all_goals (first | rfl | (rw[szR_ge (by omega)];omega)))
def szNet_get (ins:List SV) (m:St):Option Got:=
  match ins,m with
  | [.agg [.sl ty0 nodes,.sl .bool links,.sl ty1 words,.sl (.sl (.sl (.int .i64))) past],.int .i64 left],⟨[],[],[]⟩=>guardTy ty0 TNode (guardTy ty1 TWord (some (0<=left/\left<=1048576,.int .i64 (szR (totL TNode nodes+totL .bool links+totL TWord words+totL (.sl (.sl (.int .i64))) past) left),St.mk [] [] [])))
  | _,_=>none
theorem szNet_ok:Ok0 Tryz.prog 17 szNet_get:=by
  intro _ _ _ _ _ h hp;unfold szNet_get at h;split at h
  · replace h:=gT h;obtain⟨rfl,h⟩:=h;replace h:=gT h;obtain⟨rfl,h⟩:=h;rename_i nodes links words past left;cases h;refine fn_ok0 (ct:=[szNodeS_con,szBoolS_con,szWordS_con,szIntSSS_con]) (L:=fun _=>none) Tryz_follows Tryz.func17 ?_;apply VC.thru (szNet_vc nodes links words past left hp);kernel_rfl
  · cases h
def szNet_con:Con Tryz.prog:=.f0 17 [] false szNet_get (enters Tryz.func17 (by kernel_rfl) rfl) szNet_ok
abbrev OEnt:OT:=(.st [.im (.int .i64),.im (.int .i64),.im (.int .i64),(.st [.st [.sl 34 (.sl 3 (.im (.int .i64)))],.st [.sl 3 (.im (.int .i64))],.st [.sl 163 (.im (.st [.int .i64,.int .i64])),.im (.int .i64),.im (.int .i64)],.st [.sl 165 (.im (.st [.int .i64,.int .i64])),.im (.int .i64)]])])
abbrev ONode:OT:=.st [.im (.int .i64),.sl 80 OEnt,.im (.int .i64),.im (.int .i64),.im (.int .i64)]
abbrev OWord:OT:=.st [.im (.int .i64),.im (.int .i64),.im (.int .i64),.im (.int .i64),.im (.int .i64),.sl 80 OEnt]
def fillD (l:List Dat) (z:Dat) (g:Nat):List Dat:=l.take g++List.replicate (l.length-g) z
theorem fillD_all {l:List Dat} {z:Dat} {i:Nat} (h:l.length<=i):fillD l z i=l:=by
  rw[fillD,List.take_of_length_le h,show l.length-i=0 by omega];exact List.append_nil _
theorem fillD_length {l:List Dat} {z:Dat} {i:Nat} (h:i<=l.length):(fillD l z i).length=l.length:=by
  rw[fillD,List.length_append,List.length_take,List.length_replicate];omega
theorem fillD_next {l:List Dat} {z d:Dat} {i:Nat} (h:i<l.length) (hd:d=l.getD i default):(fillD l z i).set i d=fillD l z (i+1):=by
  subst hd;have hl:(l.take i).length=i:=by rw[List.length_take];omega
  rw[fillD,List.set_append_right _ _ (by omega),hl,Nat.sub_self,show l.length-i=(l.length-(i+1))+1 by omega,List.replicate_succ,List.set_cons_zero,fillD,takeD_next h,List.append_assoc];rfl
theorem ent_eta {d:Dat} (h:WF TEnt d):Dat.node [.int (d.f 0).toInt,.int (d.f 1).toInt,.int (d.f 2).toInt,.node [.node [.node (((d.f 3).f 0).f 0).kids],.node [.node (((d.f 3).f 1).f 0).kids],.node [.node (((d.f 3).f 2).f 0).kids,.int (((d.f 3).f 2).f 1).toInt,.int (((d.f 3).f 2).f 2).toInt],.node [.node (((d.f 3).f 3).f 0).kids,.int (((d.f 3).f 3).f 1).toInt]]]=d:=by
  obtain⟨_,rfl,_,_,rfl,⟨_,rfl,_⟩,_,_,rfl,⟨_,rfl,_⟩,_,_,rfl,⟨_,rfl,_⟩,_,_,rfl,⟨_,rfl,_,_,rfl,⟨_,rfl,_,_,rfl,⟨_,rfl,_⟩,rfl⟩,_,_,rfl,⟨_,rfl,_,_,rfl,⟨_,rfl,_⟩,rfl⟩,_,_,rfl,⟨_,rfl,_,_,rfl,⟨_,rfl,_⟩,_,_,rfl,⟨_,rfl,_⟩,_,_,rfl,⟨_,rfl,_⟩,rfl⟩,_,_,rfl,⟨_,rfl,_,_,rfl,⟨_,rfl,_⟩,_,_,rfl,⟨_,rfl,_⟩,rfl⟩,rfl⟩,rfl⟩:=h;rfl
theorem nd_eta {d:Dat} (h:WF TNode d):Dat.node [.int (d.f 0).toInt,.node (d.f 1).kids,.int (d.f 2).toInt,.int (d.f 3).toInt,.int (d.f 4).toInt]=d:=by
  obtain⟨_,rfl,_,_,rfl,⟨_,rfl,_⟩,_,_,rfl,⟨_,rfl,_⟩,_,_,rfl,⟨_,rfl,_⟩,_,_,rfl,⟨_,rfl,_⟩,_,_,rfl,⟨_,rfl,_⟩,rfl⟩:=h;rfl
theorem wd_eta {d:Dat} (h:WF TWord d):Dat.node [.int (d.f 0).toInt,.int (d.f 1).toInt,.int (d.f 2).toInt,.int (d.f 3).toInt,.int (d.f 4).toInt,.node (d.f 5).kids]=d:=by
  obtain⟨_,rfl,_,_,rfl,⟨_,rfl,_⟩,_,_,rfl,⟨_,rfl,_⟩,_,_,rfl,⟨_,rfl,_⟩,_,_,rfl,⟨_,rfl,_⟩,_,_,rfl,⟨_,rfl,_⟩,_,_,rfl,⟨_,rfl,_⟩,rfl⟩:=h;rfl
def zEnt:Dat:=.node [.int 0,.int 0,.int 0,.node [.node [.node []],.node [.node []],.node [.node [],.int 0,.int 0],.node [.node [],.int 0]]]
theorem toIntS_vc (l:List Dat) (hp:totL (.int .i64) l<=1048576) :
 WFl (Ty.int i64) l->I64 (l.length:Int)->((l.length:Int)=(l.length:Int)/\0<=(l.length:Int)/\(l.length:Int)*(↑(8:Nat):Int)<=281474976710656/\(l.length:Int)<=140737488355328)/\(∃
 (x:Nat),x<=l.length/\l=l/\0=(x:Int)/\List.replicate l.length (Dat.int (0:Int))=fillD l (Dat.int (0:Int)) x)/\∀x:Nat,x<=l.length->I64 (l.length:Int)->(decide ((x:Int) <
 (l.length:Int))=true->(0<=(x:Int)/\(x:Int)<(l.length:Int))/\(I64 (l.getD x default).toInt->(0<=(x:Int)/\(x:Int)<(↑(fillD l (Dat.int (0:Int)) x).length:Int))/\x<(fillD l (Dat.int
 (0:Int)) x).length/\∃x_1:Nat,(x_1<=l.length/\l.length-x_1<l.length-x)/\l=l/\i64.wrap ((x:Int)+1)=(x_1:Int)/\(fillD l (Dat.int (0:Int)) x).set x (Dat.int (l.getD x
 default).toInt)=fillD l (Dat.int (0:Int)) x_1))/\(decide ((x:Int)<(l.length:Int))=false->fillD l (Dat.int (0:Int)) x=l):=by
  intro hw;simp only[iv,kv,fv,nm,ne_eq,implies_true,eq_self];have h1:=hw.1;have h2:=totL_length (.int .i64) l;refine fun _=>⟨⟨by omega,by omega,by omega⟩,⟨0,by omega,rfl,rfl⟩,fun x hx _=>⟨fun hlt=>?_,fun hlt=>fillD_all (by omega)⟩⟩
  have h3:=tot_elem (e:=(.int .i64)) (ds:=l) (g:=x) (by omega);have hwx:=wfl_get hw (i:=x) (by omega);have h4:=fillD_length (l:=l) (z:=.int 0) (i:=x) (by omega);exact⟨⟨by omega,by omega⟩,fun _=>⟨⟨by omega,by omega⟩,by omega,x+1,⟨by omega,by omega⟩,up_ok (n:=l.length) (by omega) (by omega),fillD_next (by omega) ((wf_int hwx).1.symm)⟩⟩
def toIntS_get (ins:List SV) (m:St):Option Got:=
  match ins,m with
  | [.sl (.int .i64) l],⟨[],[],[]⟩=>some (totL (.int .i64) l<=1048576,.own 0,St.mk [] [] [⟨3,(.im (.int .i64)),l,0,false⟩])
  | _,_=>none
theorem toIntS_ok:Ok0 Tryz.prog 168 toIntS_get:=by
  intro _ _ _ _ _ h hp;unfold toIntS_get at h;split at h
  · rename_i l;cases h;refine fn_ok0 (ct:=[]) (L:=fun k=>bif Nat.beq k 3 then some (.g (⟨Nat,fun s g=>hd s [0] [(3,.own 0),(4,.int .i64 g)] [⟨3,(.im (.int .i64)),fillD l (.int 0) g,0,false⟩],fun _ g=>g<=l.length,fun g=>l.length-g⟩)) else none) Tryz_follows Tryz.func168 ?_;apply VC.thru (toIntS_vc l hp);kernel_rfl
  · cases h
def toIntS_con:Con Tryz.prog:=.f0 168 [.d,.lend] true toIntS_get (enters Tryz.func168 (by kernel_rfl) rfl) toIntS_ok
theorem toIntSS_vc (l:List Dat) (hp:totL (.sl (.int .i64)) l<=1048576) :
 WFl (Ty.int i64).sl l->I64 (l.length:Int)->((l.length:Int)=(l.length:Int)/\0<=(l.length:Int)/\(l.length:Int)*(↑(24:Nat):Int)<=281474976710656/\(l.length:Int)<=140737488355328)/\(∃
 (x:Nat),x<=l.length/\l=l/\0=(x:Int)/\List.replicate l.length (Dat.node [])=fillD l (Dat.node []) x)/\∀x:Nat,x<=l.length->I64 (l.length:Int)->(decide ((x:Int) <
 (l.length:Int))=true->(0<=(x:Int)/\(x:Int)<(l.length:Int))/\totL (Ty.int i64) (l.getD x default).kids<=1048576/\(0<=(x:Int)/\(x:Int)<(↑(fillD l (Dat.node []) x).length:Int))/\x <
 (fillD l (Dat.node []) x).length/\∃x_1:Nat,(x_1<=l.length/\l.length-x_1<l.length-x)/\l=l/\i64.wrap ((x:Int)+1)=(x_1:Int)/\(fillD l (Dat.node []) x).set x (Dat.node
 (l.getD x default).kids)=fillD l (Dat.node []) x_1)/\(decide ((x:Int)<(l.length:Int))=false->fillD l (Dat.node []) x=l):=by
  intro hw;simp only[iv,kv,fv,nm,ne_eq,implies_true,eq_self];have h1:=hw.1;have h2:=totL_length (.sl (.int .i64)) l;refine fun _=>⟨⟨by omega,by omega,by omega⟩,⟨0,by omega,rfl,rfl⟩,fun x hx _=>⟨fun hlt=>?_,fun hlt=>fillD_all (by omega)⟩⟩
  have h3:=tot_elem (e:=(.sl (.int .i64))) (ds:=l) (g:=x) (by omega);rw[show tot (.sl (.int .i64)) (l.getD x default)=_ from by rw[tot_is]] at h3;have hwx:=wfl_get hw (i:=x) (by omega);have h4:=fillD_length (l:=l) (z:=.node []) (i:=x) (by omega);exact⟨⟨by omega,by omega⟩,by omega,⟨by omega,by omega⟩,by omega,x+1,⟨by omega,by omega⟩,up_ok (n:=l.length) (by omega) (by omega),fillD_next (by omega) ((wf_sl hwx).2.symm)⟩
def toIntSS_get (ins:List SV) (m:St):Option Got:=
  match ins,m with
  | [.sl (.sl (.int .i64)) l],⟨[],[],[]⟩=>some (totL (.sl (.int .i64)) l<=1048576,.own 0,St.mk [] [] [⟨34,(.sl 3 (.im (.int .i64))),l,0,false⟩])
  | _,_=>none
theorem toIntSS_ok:Ok0 Tryz.prog 133 toIntSS_get:=by
  intro _ _ _ _ _ h hp;unfold toIntSS_get at h;split at h
  · rename_i l;cases h;refine fn_ok0 (ct:=[toIntS_con]) (L:=fun k=>bif Nat.beq k 3 then some (.g (⟨Nat,fun s g=>hd s [0] [(3,.own 0),(4,.int .i64 g)] [⟨34,(.sl 3 (.im (.int .i64))),fillD l (.node []) g,0,false⟩],fun _ g=>g<=l.length,fun g=>l.length-g⟩)) else none) Tryz_follows Tryz.func133 ?_;apply VC.thru (toIntSS_vc l hp);kernel_rfl
  · cases h
def toIntSS_con:Con Tryz.prog:=.f0 133 [.d,.lend] true toIntSS_get (enters Tryz.func133 (by kernel_rfl) rfl) toIntSS_ok
theorem toRough_vc (rows:List Dat) (hp:totL (.sl (.int .i64)) rows<=1048576) :
 WFl (Ty.int i64).sl rows->totL (Ty.int i64).sl rows<=1048576/\rows=rows:=by
  intros
  simp only[iv,kv,fv,nm,ne_eq,implies_true,eq_self]
  (repeat' (first | omega | refine And.intro ?_ ?_))
def toRough_get (ins:List SV) (m:St):Option Got:=
  match ins,m with
  | [.agg [.sl (.sl (.int .i64)) rows]],⟨[],[],[]⟩=>some (totL (.sl (.int .i64)) rows<=1048576,.agg [.own 0],St.mk [] [] [⟨34,(.sl 3 (.im (.int .i64))),rows,0,false⟩])
  | _,_=>none
theorem toRough_ok:Ok0 Tryz.prog 169 toRough_get:=by
  intro _ _ _ _ _ h hp;unfold toRough_get at h;split at h
  · rename_i rows;cases h;refine fn_ok0 (ct:=[toIntSS_con]) (L:=fun _=>none) Tryz_follows Tryz.func169 ?_;apply VC.thru (toRough_vc rows hp);kernel_rfl
  · cases h
def toRough_con:Con Tryz.prog:=.f0 169 [.d,.lend] true toRough_get (enters Tryz.func169 (by kernel_rfl) rfl) toRough_ok
theorem toFew_vc (kept:List Dat) (hp:totL (.int .i64) kept<=1048576) :
 WFl (Ty.int i64) kept->totL (Ty.int i64) kept<=1048576/\kept=kept:=by
  intros
  simp only[iv,kv,fv,nm,ne_eq,implies_true,eq_self]
  (repeat' (first | omega | refine And.intro ?_ ?_))
def toFew_get (ins:List SV) (m:St):Option Got:=
  match ins,m with
  | [.agg [.sl (.int .i64) kept]],⟨[],[],[]⟩=>some (totL (.int .i64) kept<=1048576,.agg [.own 0],St.mk [] [] [⟨3,(.im (.int .i64)),kept,0,false⟩])
  | _,_=>none
theorem toFew_ok:Ok0 Tryz.prog 170 toFew_get:=by
  intro _ _ _ _ _ h hp;unfold toFew_get at h;split at h
  · rename_i kept;cases h;refine fn_ok0 (ct:=[toIntS_con]) (L:=fun _=>none) Tryz_follows Tryz.func170 ?_;apply VC.thru (toFew_vc kept hp);kernel_rfl
  · cases h
def toFew_con:Con Tryz.prog:=.f0 170 [.d,.lend] true toFew_get (enters Tryz.func170 (by kernel_rfl) rfl) toFew_ok
theorem toPair_vc (a b:Int) :
 I64 a->I64 b->I64 a->I64 b->a=a/\b=b:=by
  intros
  exact⟨rfl,rfl⟩
def toPair_get (ins:List SV) (m:St):Option Got:=
  match ins,m with
  | [.agg [.int .i64 a,.int .i64 b]],⟨[],[],[]⟩=>some (True,.agg [.int .i64 a,.int .i64 b],St.mk [] [] [])
  | _,_=>none
theorem toPair_ok:Ok0 Tryz.prog 217 toPair_get:=by
  intro _ _ _ _ _ h hp;unfold toPair_get at h;split at h
  · rename_i a b;cases h;refine fn_ok0 (ct:=[]) (L:=fun _=>none) Tryz_follows Tryz.func217 ?_;apply VC.thru (toPair_vc a b);kernel_rfl
  · cases h
def toPair_con:Con Tryz.prog:=.f0 217 [] true toPair_get (enters Tryz.func217 (by kernel_rfl) rfl) toPair_ok
theorem toPairS_vc (l:List Dat) (hp:totL TPr l<=1048576) :
 WFl TPr l->I64 (l.length:Int)->((l.length:Int)=(l.length:Int)/\0<=(l.length:Int)/\(l.length:Int)*(↑(16:Nat):Int)<=281474976710656/\(l.length:Int)<=140737488355328)/\(∃x:Nat,
 x<=l.length/\l=l/\0=(x:Int)/\List.replicate l.length (Dat.node [.int (0:Int),.int (0:Int)])=fillD l (Dat.node [.int (0:Int),.int (0:Int)]) x)/\∀x:Nat,x<=l.length->I64
 (l.length:Int)->(decide ((x:Int)<(l.length:Int))->(0<=(x:Int)/\(x:Int)<(l.length:Int))/\True/\(0<=(x:Int)/\(x:Int)<(↑(fillD l (Dat.node [.int (0:Int),.int (0:Int)])
 x).length:Int))/\x<(fillD l (Dat.node [.int (0:Int),.int (0:Int)]) x).length/\∃x_1:Nat,(x_1<=l.length/\l.length-x_1<l.length-x)/\l=l/\i64.wrap ((x:Int)+1) =
 (x_1:Int)/\(fillD l (Dat.node [.int (0:Int),.int (0:Int)]) x).set x (Dat.node [.int ((l.getD x default).f 0).toInt,.int ((l.getD x default).f 1).toInt])=fillD l (Dat.node [.int
 (0:Int),.int (0:Int)]) x_1)/\(decide ((x:Int)<(l.length:Int))=false->fillD l (Dat.node [.int (0:Int),.int (0:Int)]) x=l):=by
  intro hw;simp only[iv,kv,fv,nm,ne_eq,implies_true,eq_self];have h1:=hw.1;have h2:=totL_length TPr l;refine fun _=>⟨⟨by omega,by omega,by omega⟩,⟨0,by omega,rfl,rfl⟩,fun x hx _=>⟨fun hlt=>?_,fun hlt=>fillD_all (by omega)⟩⟩
  have h3:=tot_elem (e:=TPr) (ds:=l) (g:=x) (by omega);have hwx:=wfl_get hw (i:=x) (by omega);have h4:=fillD_length (l:=l) (z:=.node [.int 0,.int 0]) (i:=x) (by omega);exact⟨⟨by omega,by omega⟩,⟨by omega,by omega⟩,by omega,x+1,⟨by omega,by omega⟩,up_ok (n:=l.length) (by omega) (by omega),fillD_next (by omega) ((wf_pr hwx).1.symm)⟩
def toPairS_get (ins:List SV) (m:St):Option Got:=
  match ins,m with
  | [.sl ty0 l],⟨[],[],[]⟩=>guardTy ty0 TPr (some (totL TPr l<=1048576,.own 0,St.mk [] [] [⟨163,(.im TPr),l,0,false⟩]))
  | _,_=>none
theorem toPairS_ok:Ok0 Tryz.prog 192 toPairS_get:=by
  intro _ _ _ _ _ h hp;unfold toPairS_get at h;split at h
  · replace h:=gT h;obtain⟨rfl,h⟩:=h;rename_i l;cases h;refine fn_ok0 (ct:=[toPair_con]) (L:=fun k=>bif Nat.beq k 3 then some (.g (⟨Nat,fun s g=>hd s [0] [(3,.own 0),(4,.int .i64 g)] [⟨163,(.im TPr),fillD l (.node [.int 0,.int 0]) g,0,false⟩],fun _ g=>g<=l.length,fun g=>l.length-g⟩)) else none) Tryz_follows Tryz.func192 ?_;apply VC.thru (toPairS_vc l hp);kernel_rfl
  · cases h
def toPairS_con:Con Tryz.prog:=.f0 192 [.d,.lend] true toPairS_get (enters Tryz.func192 (by kernel_rfl) rfl) toPairS_ok
theorem toTop_vc (prs:List Dat) (lost all:Int) (hp:totL TPr prs<=1048576) :
 WFl TPr prs->I64 lost->I64 all->totL TPr prs<=1048576/\(I64 lost->I64 all->lost=lost/\all=all/\prs=prs):=by
  intros
  simp only[iv,kv,fv,nm,ne_eq,implies_true,eq_self]
  (repeat' (first | omega | refine And.intro ?_ ?_))
def toTop_get (ins:List SV) (m:St):Option Got:=
  match ins,m with
  | [.agg [.sl ty0 prs,.int .i64 lost,.int .i64 all]],⟨[],[],[]⟩=>guardTy ty0 TPr (some (totL TPr prs<=1048576,.agg [.own 0,.int .i64 lost,.int .i64 all],St.mk [] [] [⟨163,(.im TPr),prs,0,false⟩]))
  | _,_=>none
theorem toTop_ok:Ok0 Tryz.prog 171 toTop_get:=by
  intro _ _ _ _ _ h hp;unfold toTop_get at h;split at h
  · replace h:=gT h;obtain⟨rfl,h⟩:=h;rename_i prs lost all;cases h;refine fn_ok0 (ct:=[toPairS_con]) (L:=fun _=>none) Tryz_follows Tryz.func171 ?_;apply VC.thru (toTop_vc prs lost all hp);kernel_rfl
  · cases h
def toTop_con:Con Tryz.prog:=.f0 171 [.d,.lend] true toTop_get (enters Tryz.func171 (by kernel_rfl) rfl) toTop_ok
theorem toKnot_vc (a b:Int) :
 I64 a->I64 b->I64 a->I64 b->a=a/\b=b:=by
  intros
  exact⟨rfl,rfl⟩
def toKnot_get (ins:List SV) (m:St):Option Got:=
  match ins,m with
  | [.agg [.int .i64 a,.int .i64 b]],⟨[],[],[]⟩=>some (True,.agg [.int .i64 a,.int .i64 b],St.mk [] [] [])
  | _,_=>none
theorem toKnot_ok:Ok0 Tryz.prog 218 toKnot_get:=by
  intro _ _ _ _ _ h hp;unfold toKnot_get at h;split at h
  · rename_i a b;cases h;refine fn_ok0 (ct:=[]) (L:=fun _=>none) Tryz_follows Tryz.func218 ?_;apply VC.thru (toKnot_vc a b);kernel_rfl
  · cases h
def toKnot_con:Con Tryz.prog:=.f0 218 [] true toKnot_get (enters Tryz.func218 (by kernel_rfl) rfl) toKnot_ok
theorem toKnotS_vc (l:List Dat) (hp:totL TPr l<=1048576) :
 WFl TPr l->I64 (l.length:Int)->((l.length:Int)=(l.length:Int)/\0<=(l.length:Int)/\(l.length:Int)*(↑(16:Nat):Int)<=281474976710656/\(l.length:Int)<=140737488355328)/\(∃x:Nat,
 x<=l.length/\l=l/\0=(x:Int)/\List.replicate l.length (Dat.node [.int (0:Int),.int (0:Int)])=fillD l (Dat.node [.int (0:Int),.int (0:Int)]) x)/\∀x:Nat,x<=l.length->I64
 (l.length:Int)->(decide ((x:Int)<(l.length:Int))->(0<=(x:Int)/\(x:Int)<(l.length:Int))/\True/\(0<=(x:Int)/\(x:Int)<(↑(fillD l (Dat.node [.int (0:Int),.int (0:Int)])
 x).length:Int))/\x<(fillD l (Dat.node [.int (0:Int),.int (0:Int)]) x).length/\∃x_1:Nat,(x_1<=l.length/\l.length-x_1<l.length-x)/\l=l/\i64.wrap ((x:Int)+1) =
 (x_1:Int)/\(fillD l (Dat.node [.int (0:Int),.int (0:Int)]) x).set x (Dat.node [.int ((l.getD x default).f 0).toInt,.int ((l.getD x default).f 1).toInt])=fillD l (Dat.node [.int
 (0:Int),.int (0:Int)]) x_1)/\(decide ((x:Int)<(l.length:Int))=false->fillD l (Dat.node [.int (0:Int),.int (0:Int)]) x=l):=by
  intro hw;simp only[iv,kv,fv,nm,ne_eq,implies_true,eq_self];have h1:=hw.1;have h2:=totL_length TPr l;refine fun _=>⟨⟨by omega,by omega,by omega⟩,⟨0,by omega,rfl,rfl⟩,fun x hx _=>⟨fun hlt=>?_,fun hlt=>fillD_all (by omega)⟩⟩
  have h3:=tot_elem (e:=TPr) (ds:=l) (g:=x) (by omega);have hwx:=wfl_get hw (i:=x) (by omega);have h4:=fillD_length (l:=l) (z:=.node [.int 0,.int 0]) (i:=x) (by omega);exact⟨⟨by omega,by omega⟩,⟨by omega,by omega⟩,by omega,x+1,⟨by omega,by omega⟩,up_ok (n:=l.length) (by omega) (by omega),fillD_next (by omega) ((wf_pr hwx).1.symm)⟩
def toKnotS_get (ins:List SV) (m:St):Option Got:=
  match ins,m with
  | [.sl ty0 l],⟨[],[],[]⟩=>guardTy ty0 TPr (some (totL TPr l<=1048576,.own 0,St.mk [] [] [⟨165,(.im TPr),l,0,false⟩]))
  | _,_=>none
theorem toKnotS_ok:Ok0 Tryz.prog 193 toKnotS_get:=by
  intro _ _ _ _ _ h hp;unfold toKnotS_get at h;split at h
  · replace h:=gT h;obtain⟨rfl,h⟩:=h;rename_i l;cases h;refine fn_ok0 (ct:=[toKnot_con]) (L:=fun k=>bif Nat.beq k 3 then some (.g (⟨Nat,fun s g=>hd s [0] [(3,.own 0),(4,.int .i64 g)] [⟨165,(.im TPr),fillD l (.node [.int 0,.int 0]) g,0,false⟩],fun _ g=>g<=l.length,fun g=>l.length-g⟩)) else none) Tryz_follows Tryz.func193 ?_;apply VC.thru (toKnotS_vc l hp);kernel_rfl
  · cases h
def toKnotS_con:Con Tryz.prog:=.f0 193 [.d,.lend] true toKnotS_get (enters Tryz.func193 (by kernel_rfl) rfl) toKnotS_ok
theorem toRank_vc (kn:List Dat) (rall:Int) (hp:totL TPr kn<=1048576) :
 WFl TPr kn->I64 rall->totL TPr kn<=1048576/\(I64 rall->rall=rall/\kn=kn):=by
  intros
  simp only[iv,kv,fv,nm,ne_eq,implies_true,eq_self]
  (repeat' (first | omega | refine And.intro ?_ ?_))
def toRank_get (ins:List SV) (m:St):Option Got:=
  match ins,m with
  | [.agg [.sl ty0 kn,.int .i64 rall]],⟨[],[],[]⟩=>guardTy ty0 TPr (some (totL TPr kn<=1048576,.agg [.own 0,.int .i64 rall],St.mk [] [] [⟨165,(.im TPr),kn,0,false⟩]))
  | _,_=>none
theorem toRank_ok:Ok0 Tryz.prog 172 toRank_get:=by
  intro _ _ _ _ _ h hp;unfold toRank_get at h;split at h
  · replace h:=gT h;obtain⟨rfl,h⟩:=h;rename_i kn rall;cases h;refine fn_ok0 (ct:=[toKnotS_con]) (L:=fun _=>none) Tryz_follows Tryz.func172 ?_;apply VC.thru (toRank_vc kn rall hp);kernel_rfl
  · cases h
def toRank_con:Con Tryz.prog:=.f0 172 [.d,.lend] true toRank_get (enters Tryz.func172 (by kernel_rfl) rfl) toRank_ok
theorem toSum_vc (rows kept prs kn:List Dat) (lost all rall:Int) (hp:totL (.sl (.int .i64)) rows+totL (.int .i64) kept+totL TPr prs+totL TPr kn<=1048576) :
 WFl (Ty.int i64).sl rows->WFl (Ty.int i64) kept->WFl TPr prs->I64 lost->I64 all->WFl TPr kn->I64 rall->totL (Ty.int i64).sl rows<=1048576/\totL (Ty.int i64) kept<=1048576/\totL TPr
 prs<=1048576/\totL TPr kn<=1048576/\lost=lost/\all=all/\rall=rall/\rows=rows/\kept=kept/\prs=prs/\kn=kn:=by
  intros
  simp only[iv,kv,fv,nm,ne_eq,implies_true,eq_self]
  (repeat' (first | omega | refine And.intro ?_ ?_))
def toSum_get (ins:List SV) (m:St):Option Got:=
  match ins,m with
  | [.agg [.sl (.sl (.int .i64)) rows,.sl (.int .i64) kept,.sl ty0 prs,.int .i64 lost,.int .i64 all,.sl ty1 kn,.int .i64 rall]],⟨[],[],[]⟩=>guardTy ty0 TPr (guardTy ty1 TPr (some (totL (.sl (.int .i64)) rows+totL (.int .i64) kept+totL TPr prs+totL TPr kn<=1048576,.agg [.own 0,.own 1,.own 2,.int .i64 lost,.int .i64 all,.own 3,.int .i64 rall],St.mk [] [] [⟨34,(.sl 3 (.im (.int .i64))),rows,0,false⟩,⟨3,(.im (.int .i64)),kept,0,false⟩,⟨163,(.im TPr),prs,0,false⟩,⟨165,(.im TPr),kn,0,false⟩])))
  | _,_=>none
theorem toSum_ok:Ok0 Tryz.prog 134 toSum_get:=by
  intro _ _ _ _ _ h hp;unfold toSum_get at h;split at h
  · replace h:=gT h;obtain⟨rfl,h⟩:=h;replace h:=gT h;obtain⟨rfl,h⟩:=h;rename_i rows kept prs lost all kn rall;cases h;refine fn_ok0 (ct:=[toRough_con,toFew_con,toTop_con,toRank_con]) (L:=fun _=>none) Tryz_follows Tryz.func134 ?_;apply VC.thru (toSum_vc rows kept prs kn lost all rall hp);kernel_rfl
  · cases h
def toSum_con:Con Tryz.prog:=.f0 134 [.d,.lend] true toSum_get (enters Tryz.func134 (by kernel_rfl) rfl) toSum_ok
theorem toEntry_vc (node born num:Int) (rows kept prs kn:List Dat) (lost all rall:Int) (hp:totL (.sl (.int .i64)) rows+totL (.int .i64) kept+totL TPr prs+totL TPr kn<=1048576) :
 I64 node->I64 born->I64 num->WFl (Ty.int i64).sl rows->WFl (Ty.int i64) kept->WFl TPr prs->I64 lost->I64 all->WFl TPr kn->I64 rall->I64 node->I64 born->I64 num->totL (Ty.int i64).sl rows+totL
 (Ty.int i64) kept+totL TPr prs+totL TPr kn<=1048576/\node=node/\born=born/\num=num/\lost=lost/\all=all/\rall=rall/\rows=rows/\kept=kept/\prs=prs/\kn=kn:=by
  intros
  simp only[iv,kv,fv,nm,ne_eq,implies_true,eq_self]
  (repeat' (first | omega | refine And.intro ?_ ?_))
def toEntry_get (ins:List SV) (m:St):Option Got:=
  match ins,m with
  | [.agg [.int .i64 node,.int .i64 born,.int .i64 num,.sl (.sl (.int .i64)) rows,.sl (.int .i64) kept,.sl ty0 prs,.int .i64 lost,.int .i64 all,.sl ty1 kn,.int .i64 rall]],⟨[],[],[]⟩=>guardTy ty0 TPr (guardTy ty1 TPr (some (totL (.sl (.int .i64)) rows+totL (.int .i64) kept+totL TPr prs+totL TPr kn<=1048576,.agg [.int .i64 node,.int .i64 born,.int .i64 num,.own 0,.own 1,.own 2,.int .i64 lost,.int .i64 all,.own 3,.int .i64 rall],St.mk [] [] [⟨34,(.sl 3 (.im (.int .i64))),rows,0,false⟩,⟨3,(.im (.int .i64)),kept,0,false⟩,⟨163,(.im TPr),prs,0,false⟩,⟨165,(.im TPr),kn,0,false⟩])))
  | _,_=>none
theorem toEntry_ok:Ok0 Tryz.prog 65 toEntry_get:=by
  intro _ _ _ _ _ h hp;unfold toEntry_get at h;split at h
  · replace h:=gT h;obtain⟨rfl,h⟩:=h;replace h:=gT h;obtain⟨rfl,h⟩:=h;rename_i node born num rows kept prs lost all kn rall;cases h;refine fn_ok0 (ct:=[toSum_con]) (L:=fun _=>none) Tryz_follows Tryz.func65 ?_;apply VC.thru (toEntry_vc node born num rows kept prs kn lost all rall hp);kernel_rfl
  · cases h
def toEntry_con:Con Tryz.prog:=.f0 65 [.d,.lend] true toEntry_get (enters Tryz.func65 (by kernel_rfl) rfl) toEntry_ok
theorem toEntryS_vc (l:List Dat) (hp:totL TEnt l<=1048576) :
 WFl TEnt l->I64 (l.length:Int)->((l.length:Int)=(l.length:Int)/\0<=(l.length:Int)/\(l.length:Int)*(↑(144:Nat):Int)<=281474976710656/\(l.length:Int)<=140737488355328)/\(∃x:Nat,
 x<=l.length/\l=l/\0=(x:Int)/\List.replicate l.length (Dat.node [.int (0:Int),.int (0:Int),.int (0:Int),.node [.node [.node []],.node [.node []],.node [.node [],.int
 (0:Int),.int (0:Int)],.node [.node [],.int (0:Int)]]])=fillD l zEnt x)/\∀x:Nat,x<=l.length->I64 (l.length:Int)->(decide ((x:Int)<(l.length:Int))->(0<=(x:Int)/\(x:Int) <
 (l.length:Int))/\totL (Ty.int i64).sl ((((l.getD x default).f 3).f 0).f 0).kids+totL (Ty.int i64) ((((l.getD x default).f 3).f 1).f 0).kids+totL TPr ((((l.getD x default).f 3).f
 2).f 0).kids+totL TPr ((((l.getD x default).f 3).f 3).f 0).kids<=1048576/\(0<=(x:Int)/\(x:Int)<(↑(fillD l zEnt x).length:Int))/\x<(fillD l zEnt x).length/\∃x_1:Nat,
 (x_1<=l.length/\l.length-x_1<l.length-x)/\l=l/\i64.wrap ((x:Int)+1)=(x_1:Int)/\(fillD l zEnt x).set x (Dat.node [.int ((l.getD x default).f 0).toInt,.int ((l.getD x
 default).f 1).toInt,.int ((l.getD x default).f 2).toInt,.node [.node [.node ((((l.getD x default).f 3).f 0).f 0).kids],.node [.node ((((l.getD x default).f 3).f 1).f 0).kids],
 .node [.node ((((l.getD x default).f 3).f 2).f 0).kids,.int ((((l.getD x default).f 3).f 2).f 1).toInt,.int ((((l.getD x default).f 3).f 2).f 2).toInt],.node [.node ((((l.getD x
 default).f 3).f 3).f 0).kids,.int ((((l.getD x default).f 3).f 3).f 1).toInt]]])=fillD l zEnt x_1)/\(decide ((x:Int)<(l.length:Int))=false->fillD l zEnt x=l):=by
  intro hw;simp only[iv,kv,fv,nm,ne_eq,implies_true,eq_self];have h1:=hw.1;have h2:=totL_length TEnt l;refine fun _=>⟨⟨by omega,by omega,by omega⟩,⟨0,by omega,rfl,rfl⟩,fun x hx _=>⟨fun hlt=>?_,fun hlt=>fillD_all (by omega)⟩⟩
  have h3:=tot_elem (e:=TEnt) (ds:=l) (g:=x) (by omega);rw[show tot TEnt (l.getD x default)=_ from tot_ent _] at h3;have hwx:=wfl_get hw (i:=x) (by omega);have h4:=fillD_length (l:=l) (z:=zEnt) (i:=x) (by omega);exact⟨⟨by omega,by omega⟩,by omega,⟨by omega,by omega⟩,by omega,x+1,⟨by omega,by omega⟩,up_ok (n:=l.length) (by omega) (by omega),fillD_next (by omega) (ent_eta hwx)⟩
def toEntryS_get (ins:List SV) (m:St):Option Got:=
  match ins,m with
  | [.sl ty0 l],⟨[],[],[]⟩=>guardTy ty0 TEnt (some (totL TEnt l<=1048576,.own 0,St.mk [] [] [⟨80,OEnt,l,0,false⟩]))
  | _,_=>none
theorem toEntryS_ok:Ok0 Tryz.prog 21 toEntryS_get:=by
  intro _ _ _ _ _ h hp;unfold toEntryS_get at h;split at h
  · replace h:=gT h;obtain⟨rfl,h⟩:=h;rename_i l;cases h;refine fn_ok0 (ct:=[toEntry_con]) (L:=fun k=>bif Nat.beq k 3 then some (.g (⟨Nat,fun s g=>hd s [0] [(3,.own 0),(4,.int .i64 g)] [⟨80,OEnt,fillD l (zEnt) g,0,false⟩],fun _ g=>g<=l.length,fun g=>l.length-g⟩)) else none) Tryz_follows Tryz.func21 ?_;apply VC.thru (toEntryS_vc l hp);kernel_rfl
  · cases h
def toEntryS_con:Con Tryz.prog:=.f0 21 [.d,.lend] true toEntryS_get (enters Tryz.func21 (by kernel_rfl) rfl) toEntryS_ok
theorem toNode_vc (born beacon level up:Int) (known:List Dat) (hp:totL TEnt known<=1048576) :
 I64 born->WFl TEnt known->I64 beacon->I64 level->I64 up->I64 born->totL TEnt known<=1048576/\(I64 beacon->I64 level->I64 up->born=born/\beacon=beacon/\level=level/\up=up/\known=known):=by
  intros
  simp only[iv,kv,fv,nm,ne_eq,implies_true,eq_self]
  (repeat' (first | omega | refine And.intro ?_ ?_))
def toNode_get (ins:List SV) (m:St):Option Got:=
  match ins,m with
  | [.agg [.int .i64 born,.sl ty0 known,.int .i64 beacon,.int .i64 level,.int .i64 up]],⟨[],[],[]⟩=>guardTy ty0 TEnt (some (totL TEnt known<=1048576,.agg [.int .i64 born,.own 0,.int .i64 beacon,.int .i64 level,.int .i64 up],St.mk [] [] [⟨80,OEnt,known,0,false⟩]))
  | _,_=>none
theorem toNode_ok:Ok0 Tryz.prog 131 toNode_get:=by
  intro _ _ _ _ _ h hp;unfold toNode_get at h;split at h
  · replace h:=gT h;obtain⟨rfl,h⟩:=h;rename_i born known beacon level up;cases h;refine fn_ok0 (ct:=[toEntryS_con]) (L:=fun _=>none) Tryz_follows Tryz.func131 ?_;apply VC.thru (toNode_vc born beacon level up known hp);kernel_rfl
  · cases h
def toNode_con:Con Tryz.prog:=.f0 131 [.d,.lend] true toNode_get (enters Tryz.func131 (by kernel_rfl) rfl) toNode_ok
theorem toNodeS_vc (l:List Dat) (hp:totL TNode l<=1048576) :
 WFl TNode l->I64 (l.length:Int)->((l.length:Int)=(l.length:Int)/\0<=(l.length:Int)/\(l.length:Int)*(↑(56:Nat):Int)<=281474976710656/\(l.length:Int)<=140737488355328)/\(∃x:Nat,
 x<=l.length/\l=l/\0=(x:Int)/\List.replicate l.length (Dat.node [.int (0:Int),.node [],.int (0:Int),.int (0:Int),.int (0:Int)])=fillD l (Dat.node [.int (0:Int),.node
 [],.int (0:Int),.int (0:Int),.int (0:Int)]) x)/\∀x:Nat,x<=l.length->I64 (l.length:Int)->(decide ((x:Int)<(l.length:Int))->(0<=(x:Int)/\(x:Int)<(l.length:Int))/\totL TEnt
 ((l.getD x default).f 1).kids<=1048576/\(0<=(x:Int)/\(x:Int)<(↑(fillD l (Dat.node [.int (0:Int),.node [],.int (0:Int),.int (0:Int),.int (0:Int)]) x).length:Int))/\x<(fillD l
 (Dat.node [.int (0:Int),.node [],.int (0:Int),.int (0:Int),.int (0:Int)]) x).length/\∃x_1:Nat,(x_1<=l.length/\l.length-x_1<l.length-x)/\l=l/\i64.wrap ((x:Int)+1) =
 (x_1:Int)/\(fillD l (Dat.node [.int (0:Int),.node [],.int (0:Int),.int (0:Int),.int (0:Int)]) x).set x (Dat.node [.int ((l.getD x default).f 0).toInt,.node ((l.getD x
 default).f 1).kids,.int ((l.getD x default).f 2).toInt,.int ((l.getD x default).f 3).toInt,.int ((l.getD x default).f 4).toInt])=fillD l (Dat.node [.int (0:Int),.node [],
 .int (0:Int),.int (0:Int),.int (0:Int)]) x_1)/\(decide ((x:Int)<(l.length:Int))=false->fillD l (Dat.node [.int (0:Int),.node [],.int (0:Int),.int (0:Int),.int (0:Int)]) x =
 l):=by
  intro hw;simp only[iv,kv,fv,nm,ne_eq,implies_true,eq_self];have h1:=hw.1;have h2:=totL_length TNode l;refine fun _=>⟨⟨by omega,by omega,by omega⟩,⟨0,by omega,rfl,rfl⟩,fun x hx _=>⟨fun hlt=>?_,fun hlt=>fillD_all (by omega)⟩⟩
  have h3:=tot_elem (e:=TNode) (ds:=l) (g:=x) (by omega);rw[show tot TNode (l.getD x default)=_ from tot_nd _] at h3;have hwx:=wfl_get hw (i:=x) (by omega);have h4:=fillD_length (l:=l) (z:=.node [.int 0,.node [],.int 0,.int 0,.int 0]) (i:=x) (by omega);exact⟨⟨by omega,by omega⟩,by omega,⟨by omega,by omega⟩,by omega,x+1,⟨by omega,by omega⟩,up_ok (n:=l.length) (by omega) (by omega),fillD_next (by omega) (nd_eta hwx)⟩
def toNodeS_get (ins:List SV) (m:St):Option Got:=
  match ins,m with
  | [.sl ty0 l],⟨[],[],[]⟩=>guardTy ty0 TNode (some (totL TNode l<=1048576,.own 0,St.mk [] [] [⟨77,ONode,l,0,false⟩]))
  | _,_=>none
theorem toNodeS_ok:Ok0 Tryz.prog 61 toNodeS_get:=by
  intro _ _ _ _ _ h hp;unfold toNodeS_get at h;split at h
  · replace h:=gT h;obtain⟨rfl,h⟩:=h;rename_i l;cases h;refine fn_ok0 (ct:=[toNode_con]) (L:=fun k=>bif Nat.beq k 3 then some (.g (⟨Nat,fun s g=>hd s [0] [(3,.own 0),(4,.int .i64 g)] [⟨77,ONode,fillD l (.node [.int 0,.node [],.int 0,.int 0,.int 0]) g,0,false⟩],fun _ g=>g<=l.length,fun g=>l.length-g⟩)) else none) Tryz_follows Tryz.func61 ?_;apply VC.thru (toNodeS_vc l hp);kernel_rfl
  · cases h
def toNodeS_con:Con Tryz.prog:=.f0 61 [.d,.lend] true toNodeS_get (enters Tryz.func61 (by kernel_rfl) rfl) toNodeS_ok
theorem toBoolS_vc (l:List Dat) (hp:totL .bool l<=1048576) :
 WFl Ty.bool l->I64 (l.length:Int)->((l.length:Int)=(l.length:Int)/\0<=(l.length:Int)/\(l.length:Int)*(↑(1:Nat):Int)<=281474976710656/\(l.length:Int)<=140737488355328)/\(∃x:Nat,
 x<=l.length/\l=l/\0=(x:Int)/\List.replicate l.length (Dat.bool false)=fillD l (Dat.bool false) x)/\∀x:Nat,x<=l.length->I64 (l.length:Int)->(decide ((x:Int) <
 (l.length:Int))=true->(0<=(x:Int)/\(x:Int)<(l.length:Int))/\(0<=(x:Int)/\(x:Int)<(↑(fillD l (Dat.bool false) x).length:Int))/\x<(fillD l (Dat.bool false) x).length/\∃x_1:Nat,
 (x_1<=l.length/\l.length-x_1<l.length-x)/\l=l/\i64.wrap ((x:Int)+1)=(x_1:Int)/\(fillD l (Dat.bool false) x).set x (Dat.bool (l.getD x default).toBool)=fillD l (Dat.bool
 false) x_1)/\(decide ((x:Int)<(l.length:Int))=false->fillD l (Dat.bool false) x=l):=by
  intro hw;simp only[iv,kv,fv,nm,ne_eq,implies_true,eq_self];have h1:=hw.1;have h2:=totL_length .bool l;refine fun _=>⟨⟨by omega,by omega,by omega⟩,⟨0,by omega,rfl,rfl⟩,fun x hx _=>⟨fun hlt=>?_,fun hlt=>fillD_all (by omega)⟩⟩
  have h3:=tot_elem (e:=.bool) (ds:=l) (g:=x) (by omega);have hwx:=wfl_get hw (i:=x) (by omega);have h4:=fillD_length (l:=l) (z:=.bool false) (i:=x) (by omega);exact⟨⟨by omega,by omega⟩,⟨by omega,by omega⟩,by omega,x+1,⟨by omega,by omega⟩,up_ok (n:=l.length) (by omega) (by omega),fillD_next (by omega) ((wf_bool hwx).symm)⟩
def toBoolS_get (ins:List SV) (m:St):Option Got:=
  match ins,m with
  | [.sl .bool l],⟨[],[],[]⟩=>some (totL .bool l<=1048576,.own 0,St.mk [] [] [⟨4,(.im .bool),l,0,false⟩])
  | _,_=>none
theorem toBoolS_ok:Ok0 Tryz.prog 62 toBoolS_get:=by
  intro _ _ _ _ _ h hp;unfold toBoolS_get at h;split at h
  · rename_i l;cases h;refine fn_ok0 (ct:=[]) (L:=fun k=>bif Nat.beq k 3 then some (.g (⟨Nat,fun s g=>hd s [0] [(3,.own 0),(4,.int .i64 g)] [⟨4,(.im .bool),fillD l (.bool false) g,0,false⟩],fun _ g=>g<=l.length,fun g=>l.length-g⟩)) else none) Tryz_follows Tryz.func62 ?_;apply VC.thru (toBoolS_vc l hp);kernel_rfl
  · cases h
def toBoolS_con:Con Tryz.prog:=.f0 62 [.d,.lend] true toBoolS_get (enters Tryz.func62 (by kernel_rfl) rfl) toBoolS_ok
theorem toWord_vc (kind fr to beacon level:Int) (known:List Dat) (hp:totL TEnt known<=1048576) :
 I64 kind->I64 fr->I64 to->I64 beacon->I64 level->WFl TEnt known->I64 kind->I64 fr->I64 to->I64 beacon->I64 level->totL TEnt known<=1048576/\kind=kind/\fr=fr/\to=to/\beacon=beacon/\level =
 level/\known=known:=by
  intros
  simp only[iv,kv,fv,nm,ne_eq,implies_true,eq_self]
  (repeat' (first | omega | refine And.intro ?_ ?_))
def toWord_get (ins:List SV) (m:St):Option Got:=
  match ins,m with
  | [.agg [.int .i64 kind,.int .i64 fr,.int .i64 to,.int .i64 beacon,.int .i64 level,.sl ty0 known]],⟨[],[],[]⟩=>guardTy ty0 TEnt (some (totL TEnt known<=1048576,.agg [.int .i64 kind,.int .i64 fr,.int .i64 to,.int .i64 beacon,.int .i64 level,.own 0],St.mk [] [] [⟨80,OEnt,known,0,false⟩]))
  | _,_=>none
theorem toWord_ok:Ok0 Tryz.prog 132 toWord_get:=by
  intro _ _ _ _ _ h hp;unfold toWord_get at h;split at h
  · replace h:=gT h;obtain⟨rfl,h⟩:=h;rename_i kind fr to beacon level known;cases h;refine fn_ok0 (ct:=[toEntryS_con]) (L:=fun _=>none) Tryz_follows Tryz.func132 ?_;apply VC.thru (toWord_vc kind fr to beacon level known hp);kernel_rfl
  · cases h
def toWord_con:Con Tryz.prog:=.f0 132 [.d,.lend] true toWord_get (enters Tryz.func132 (by kernel_rfl) rfl) toWord_ok
theorem toWordS_vc (l:List Dat) (hp:totL TWord l<=1048576) :
 WFl TWord l->I64 (l.length:Int)->((l.length:Int)=(l.length:Int)/\0<=(l.length:Int)/\(l.length:Int)*(↑(64:Nat):Int)<=281474976710656/\(l.length:Int)<=140737488355328)/\(∃x:Nat,
 x<=l.length/\l=l/\0=(x:Int)/\List.replicate l.length (Dat.node [.int (0:Int),.int (0:Int),.int (0:Int),.int (0:Int),.int (0:Int),.node []])=fillD l (Dat.node [.int
 (0:Int),.int (0:Int),.int (0:Int),.int (0:Int),.int (0:Int),.node []]) x)/\∀x:Nat,x<=l.length->I64 (l.length:Int)->(decide ((x:Int)<(l.length:Int))->(0<=(x:Int)/\(x:Int)
 < (l.length:Int))/\totL TEnt ((l.getD x default).f 5).kids<=1048576/\(0<=(x:Int)/\(x:Int)<(↑(fillD l (Dat.node [.int (0:Int),.int (0:Int),.int (0:Int),.int (0:Int),.int (0:Int),
 .node []]) x).length:Int))/\x<(fillD l (Dat.node [.int (0:Int),.int (0:Int),.int (0:Int),.int (0:Int),.int (0:Int),.node []]) x).length/\∃x_1:Nat,(x_1<=l.length/\l.length -
 x_1<l.length-x)/\l=l/\i64.wrap ((x:Int)+1)=(x_1:Int)/\(fillD l (Dat.node [.int (0:Int),.int (0:Int),.int (0:Int),.int (0:Int),.int (0:Int),.node []]) x).set x (Dat.node
 [.int ((l.getD x default).f 0).toInt,.int ((l.getD x default).f 1).toInt,.int ((l.getD x default).f 2).toInt,.int ((l.getD x default).f 3).toInt,.int ((l.getD x default).f
 4).toInt,.node ((l.getD x default).f 5).kids])=fillD l (Dat.node [.int (0:Int),.int (0:Int),.int (0:Int),.int (0:Int),.int (0:Int),.node []]) x_1)/\(decide ((x:Int) <
 (l.length:Int))=false->fillD l (Dat.node [.int (0:Int),.int (0:Int),.int (0:Int),.int (0:Int),.int (0:Int),.node []]) x=l):=by
  intro hw;simp only[iv,kv,fv,nm,ne_eq,implies_true,eq_self];have h1:=hw.1;have h2:=totL_length TWord l;refine fun _=>⟨⟨by omega,by omega,by omega⟩,⟨0,by omega,rfl,rfl⟩,fun x hx _=>⟨fun hlt=>?_,fun hlt=>fillD_all (by omega)⟩⟩
  have h3:=tot_elem (e:=TWord) (ds:=l) (g:=x) (by omega);rw[show tot TWord (l.getD x default)=_ from tot_wd _] at h3;have hwx:=wfl_get hw (i:=x) (by omega);have h4:=fillD_length (l:=l) (z:=.node [.int 0,.int 0,.int 0,.int 0,.int 0,.node []]) (i:=x) (by omega);exact⟨⟨by omega,by omega⟩,by omega,⟨by omega,by omega⟩,by omega,x+1,⟨by omega,by omega⟩,up_ok (n:=l.length) (by omega) (by omega),fillD_next (by omega) (wd_eta hwx)⟩
def toWordS_get (ins:List SV) (m:St):Option Got:=
  match ins,m with
  | [.sl ty0 l],⟨[],[],[]⟩=>guardTy ty0 TWord (some (totL TWord l<=1048576,.own 0,St.mk [] [] [⟨138,OWord,l,0,false⟩]))
  | _,_=>none
theorem toWordS_ok:Ok0 Tryz.prog 63 toWordS_get:=by
  intro _ _ _ _ _ h hp;unfold toWordS_get at h;split at h
  · replace h:=gT h;obtain⟨rfl,h⟩:=h;rename_i l;cases h;refine fn_ok0 (ct:=[toWord_con]) (L:=fun k=>bif Nat.beq k 3 then some (.g (⟨Nat,fun s g=>hd s [0] [(3,.own 0),(4,.int .i64 g)] [⟨138,OWord,fillD l (.node [.int 0,.int 0,.int 0,.int 0,.int 0,.node []]) g,0,false⟩],fun _ g=>g<=l.length,fun g=>l.length-g⟩)) else none) Tryz_follows Tryz.func63 ?_;apply VC.thru (toWordS_vc l hp);kernel_rfl
  · cases h
def toWordS_con:Con Tryz.prog:=.f0 63 [.d,.lend] true toWordS_get (enters Tryz.func63 (by kernel_rfl) rfl) toWordS_ok
theorem toIntSSS_vc (l:List Dat) (hp:totL (.sl (.sl (.int .i64))) l<=1048576) :
 WFl (Ty.int i64).sl.sl l->I64 (l.length:Int)->((l.length:Int)=(l.length:Int)/\0<=(l.length:Int)/\(l.length:Int) *
 (↑(24:Nat):Int)<=281474976710656/\(l.length:Int)<=140737488355328)/\(∃x:Nat,x<=l.length/\l=l/\0=(x:Int)/\List.replicate l.length (Dat.node [])=fillD l (Dat.node [])
 x)/\∀x:Nat,x<=l.length->I64 (l.length:Int)->(decide ((x:Int)<(l.length:Int))->(0<=(x:Int)/\(x:Int)<(l.length:Int))/\totL (Ty.int i64).sl (l.getD x
 default).kids<=1048576/\(0<=(x:Int)/\(x:Int)<(↑(fillD l (Dat.node []) x).length:Int))/\x<(fillD l (Dat.node []) x).length/\∃x_1:Nat,(x_1<=l.length/\l.length-x_1<l.length-x)/\l
 = l/\i64.wrap ((x:Int)+1)=(x_1:Int)/\(fillD l (Dat.node []) x).set x (Dat.node (l.getD x default).kids)=fillD l (Dat.node []) x_1)/\(decide ((x:Int)<(l.length:Int)) =
 false->fillD l (Dat.node []) x=l):=by
  intro hw;simp only[iv,kv,fv,nm,ne_eq,implies_true,eq_self];have h1:=hw.1;have h2:=totL_length (.sl (.sl (.int .i64))) l;refine fun _=>⟨⟨by omega,by omega,by omega⟩,⟨0,by omega,rfl,rfl⟩,fun x hx _=>⟨fun hlt=>?_,fun hlt=>fillD_all (by omega)⟩⟩
  have h3:=tot_elem (e:=(.sl (.sl (.int .i64)))) (ds:=l) (g:=x) (by omega);rw[show tot (.sl (.sl (.int .i64))) (l.getD x default)=_ from by rw[tot_is]] at h3;have hwx:=wfl_get hw (i:=x) (by omega);have h4:=fillD_length (l:=l) (z:=.node []) (i:=x) (by omega);exact⟨⟨by omega,by omega⟩,by omega,⟨by omega,by omega⟩,by omega,x+1,⟨by omega,by omega⟩,up_ok (n:=l.length) (by omega) (by omega),fillD_next (by omega) ((wf_sl hwx).2.symm)⟩
def toIntSSS_get (ins:List SV) (m:St):Option Got:=
  match ins,m with
  | [.sl (.sl (.sl (.int .i64))) l],⟨[],[],[]⟩=>some (totL (.sl (.sl (.int .i64))) l<=1048576,.own 0,St.mk [] [] [⟨31,(.sl 34 (.sl 3 (.im (.int .i64)))),l,0,false⟩])
  | _,_=>none
theorem toIntSSS_ok:Ok0 Tryz.prog 64 toIntSSS_get:=by
  intro _ _ _ _ _ h hp;unfold toIntSSS_get at h;split at h
  · rename_i l;cases h;refine fn_ok0 (ct:=[toIntSS_con]) (L:=fun k=>bif Nat.beq k 3 then some (.g (⟨Nat,fun s g=>hd s [0] [(3,.own 0),(4,.int .i64 g)] [⟨31,(.sl 34 (.sl 3 (.im (.int .i64)))),fillD l (.node []) g,0,false⟩],fun _ g=>g<=l.length,fun g=>l.length-g⟩)) else none) Tryz_follows Tryz.func64 ?_;apply VC.thru (toIntSSS_vc l hp);kernel_rfl
  · cases h
def toIntSSS_con:Con Tryz.prog:=.f0 64 [.d,.lend] true toIntSSS_get (enters Tryz.func64 (by kernel_rfl) rfl) toIntSSS_ok
theorem toNet_vc (nodes links words past:List Dat) (hp:totL TNode nodes+totL .bool links+totL TWord words+totL (.sl (.sl (.int .i64))) past<=1048576) :
 WFl TNode nodes->WFl Ty.bool links->WFl TWord words->WFl (Ty.int i64).sl.sl past->totL TNode nodes<=1048576/\totL Ty.bool links<=1048576/\totL TWord words<=1048576/\totL (Ty.int i64).sl.sl
 past<=1048576/\nodes=nodes/\links=links/\words=words/\past=past:=by
  intros
  simp only[iv,kv,fv,nm,ne_eq,implies_true,eq_self]
  (repeat' (first | omega | refine And.intro ?_ ?_))
def toNet_get (ins:List SV) (m:St):Option Got:=
  match ins,m with
  | [.agg [.sl ty0 nodes,.sl .bool links,.sl ty1 words,.sl (.sl (.sl (.int .i64))) past]],⟨[],[],[]⟩=>guardTy ty0 TNode (guardTy ty1 TWord (some (totL TNode nodes+totL .bool links+totL TWord words+totL (.sl (.sl (.int .i64))) past<=1048576,.agg [.own 0,.own 1,.own 2,.own 3],St.mk [] [] [⟨77,ONode,nodes,0,false⟩,⟨4,(.im .bool),links,0,false⟩,⟨138,OWord,words,0,false⟩,⟨31,(.sl 34 (.sl 3 (.im (.int .i64)))),past,0,false⟩])))
  | _,_=>none
theorem toNet_ok:Ok0 Tryz.prog 20 toNet_get:=by
  intro _ _ _ _ _ h hp;unfold toNet_get at h;split at h
  · replace h:=gT h;obtain⟨rfl,h⟩:=h;replace h:=gT h;obtain⟨rfl,h⟩:=h;rename_i nodes links words past;cases h;refine fn_ok0 (ct:=[toNodeS_con,toBoolS_con,toWordS_con,toIntSSS_con]) (L:=fun _=>none) Tryz_follows Tryz.func20 ?_;apply VC.thru (toNet_vc nodes links words past hp);kernel_rfl
  · cases h
def toNet_con:Con Tryz.prog:=.f0 20 [.d,.lend] true toNet_get (enters Tryz.func20 (by kernel_rfl) rfl) toNet_ok
theorem eqL_all {a b:List Dat} {x:Nat} (hl:a.length=b.length) (hx:∀j,j<x->a.getD j default=b.getD j default) (h:a.length<=x):a=b:=list_ext_getD hl (fun i hi=>hx i (by omega))
theorem eqL_next {a b:List Dat} {x:Nat} (hx:∀j,j<x->a.getD j default=b.getD j default) (h:a.getD x default=b.getD x default):∀j,j<x+1->a.getD j default=b.getD j default:=fun j hj=>by
  rcases Nat.lt_or_ge j x with h2 | h2
  · exact hx j h2
  · rw[show j=x by omega];exact h
theorem int_same {d d2:Dat} (h:WF (.int .i64) d) (h2:WF (.int .i64) d2):d.toInt=d2.toInt ↔ d=d2:=⟨fun e=>by rw[(wf_int h).1,(wf_int h2).1,e],fun e=>by rw[e]⟩
theorem bool_same {d d2:Dat} (h:WF .bool d) (h2:WF .bool d2):d.toBool=d2.toBool ↔ d=d2:=⟨fun e=>by rw[wf_bool h,wf_bool h2,e],fun e=>by rw[e]⟩
theorem sl_same {e:Ty} {d d2:Dat} (h:WF (.sl e) d) (h2:WF (.sl e) d2):d.kids=d2.kids ↔ d=d2:=⟨fun e=>by rw[(wf_sl h).2,(wf_sl h2).2,e],fun e=>by rw[e]⟩
theorem pr_same {d d2:Dat} (h:WF TPr d) (h2:WF TPr d2):((d.f 0).toInt=(d2.f 0).toInt/\(d.f 1).toInt=(d2.f 1).toInt) ↔ d=d2:=⟨fun e=>by rw[(wf_pr h).1,(wf_pr h2).1,e.1,e.2],fun e=>by subst e;exact⟨rfl,rfl⟩⟩
theorem ent_same {d d2:Dat} (h:WF TEnt d) (h2:WF TEnt d2):((d.f 0).toInt=(d2.f 0).toInt/\(d.f 1).toInt=(d2.f 1).toInt/\(d.f 2).toInt=(d2.f 2).toInt/\(((d.f 3).f 0).f 0).kids=(((d2.f 3).f 0).f 0).kids/\(((d.f 3).f 1).f 0).kids=(((d2.f 3).f 1).f 0).kids/\(((d.f 3).f 2).f 0).kids=(((d2.f 3).f 2).f 0).kids/\(((d.f 3).f 2).f 1).toInt=(((d2.f 3).f 2).f 1).toInt/\(((d.f 3).f 2).f 2).toInt=(((d2.f 3).f 2).f 2).toInt/\(((d.f 3).f 3).f 0).kids=(((d2.f 3).f 3).f 0).kids/\(((d.f 3).f 3).f 1).toInt=(((d2.f 3).f 3).f 1).toInt) ↔ d=d2:=⟨fun e=>by obtain⟨e0,e1,e2,e3,e4,e5,e6,e7,e8,e9⟩:=e;rw[<- ent_eta h,<- ent_eta h2,e0,e1,e2,e3,e4,e5,e6,e7,e8,e9],fun e=>by subst e;exact⟨rfl,rfl,rfl,rfl,rfl,rfl,rfl,rfl,rfl,rfl⟩⟩
theorem nd_same {d d2:Dat} (h:WF TNode d) (h2:WF TNode d2):((d.f 0).toInt=(d2.f 0).toInt/\(d.f 1).kids=(d2.f 1).kids/\(d.f 2).toInt=(d2.f 2).toInt/\(d.f 3).toInt=(d2.f 3).toInt/\(d.f 4).toInt=(d2.f 4).toInt) ↔ d=d2:=⟨fun e=>by obtain⟨e0,e1,e2,e3,e4⟩:=e;rw[<- nd_eta h,<- nd_eta h2,e0,e1,e2,e3,e4],fun e=>by subst e;exact⟨rfl,rfl,rfl,rfl,rfl⟩⟩
theorem wd_same {d d2:Dat} (h:WF TWord d) (h2:WF TWord d2):((d.f 0).toInt=(d2.f 0).toInt/\(d.f 1).toInt=(d2.f 1).toInt/\(d.f 2).toInt=(d2.f 2).toInt/\(d.f 3).toInt=(d2.f 3).toInt/\(d.f 4).toInt=(d2.f 4).toInt/\(d.f 5).kids=(d2.f 5).kids) ↔ d=d2:=⟨fun e=>by obtain⟨e0,e1,e2,e3,e4,e5⟩:=e;rw[<- wd_eta h,<- wd_eta h2,e0,e1,e2,e3,e4,e5],fun e=>by subst e;exact⟨rfl,rfl,rfl,rfl,rfl,rfl⟩⟩
theorem eqIntS_vc (a b:List Dat) :
 WFl (Ty.int i64) a->WFl (Ty.int i64) b->I64 (a.length:Int)->I64 (b.length:Int)->(decide ((a.length:Int)≠(b.length:Int))->dec (a=b)=false)/\(decide
 ((a.length:Int)≠(b.length:Int))=false->(∃x:Nat,(x<=a.length/\∀j:Nat,j<x->a.getD j default=b.getD j default)/\a=a/\b=b/\0=(x:Int))/\∀x:Nat,(x<=a.length/\∀
 (j:Nat),j<x->a.getD j default=b.getD j default)->I64 (a.length:Int)->(decide ((x:Int)<(a.length:Int))->(0<=(x:Int)/\(x:Int)<(a.length:Int))/\(I64 (a.getD x
 default).toInt->(0<=(x:Int)/\(x:Int)<(b.length:Int))/\(I64 (b.getD x default).toInt->(decide ((a.getD x default).toInt≠(b.getD x default).toInt)->dec (a=b)=false)/\(decide
 ((a.getD x default).toInt≠(b.getD x default).toInt)=false->∃x_1:Nat,((x_1<=a.length/\∀j:Nat,j<x_1->a.getD j default=b.getD j default)/\a.length-x_1<a.length-x)/\a =
 a/\b=b/\i64.wrap ((x:Int)+1)=(x_1:Int)))))/\(decide ((x:Int)<(a.length:Int))=false->dec (a=b)=true)):=by
  intro hwa hwb;simp only[iv,kv,fv,nm,ne_eq,implies_true,eq_self];have h1:=hwa.1;refine fun _ _=>⟨fun h e=>h (by rw[e]),fun hl=>⟨⟨0,⟨by omega,fun j hj=>by omega⟩,rfl⟩,fun x hx _=>⟨fun hlt=>?_,fun hlt=>eqL_all (by omega) hx.2 (by omega)⟩⟩⟩
  have hwx:=wfl_get hwa (i:=x) (by omega);have hwy:=wfl_get hwb (i:=x) (by omega);exact⟨⟨by omega,by omega⟩,fun _=>⟨⟨by omega,by omega⟩,fun _=>⟨fun h e=>h ((int_same hwx hwy).2 (by rw[e])),fun h=>⟨x+1,⟨⟨by omega,eqL_next hx.2 ((int_same hwx hwy).1 h)⟩,by omega⟩,up_ok (n:=a.length) (by omega) (by omega)⟩⟩⟩⟩
def eqIntS_get (ins:List SV) (m:St):Option Got:=
  match ins,m with
  | [.sl (.int .i64) a,.sl (.int .i64) b],⟨[],[],[]⟩=>some (True,.bool (dec (a=b)),St.mk [] [] [])
  | _,_=>none
theorem eqIntS_ok:Ok0 Tryz.prog 22 eqIntS_get:=by
  intro _ _ _ _ _ h hp;unfold eqIntS_get at h;split at h
  · rename_i a b;cases h;refine fn_ok0 (ct:=[]) (L:=fun k=>bif Nat.beq k 4 then some (.g (⟨Nat,fun s g=>hd s [0,1] [(5,.int .i64 g)] s.rw,fun _ g=>g<=a.length/\∀j,j<g->a.getD j default=b.getD j default,fun g=>a.length-g⟩)) else none) Tryz_follows Tryz.func22 ?_;apply VC.thru (eqIntS_vc a b);kernel_rfl
  · cases h
def eqIntS_con:Con Tryz.prog:=.f0 22 [] true eqIntS_get (enters Tryz.func22 (by kernel_rfl) rfl) eqIntS_ok
theorem eqIntSS_vc (a b:List Dat) :
 WFl (Ty.int i64).sl a->WFl (Ty.int i64).sl b->I64 (a.length:Int)->I64 (b.length:Int)->(decide ((a.length:Int)≠(b.length:Int))->dec (a=b)=false)/\(decide
 ((a.length:Int)≠(b.length:Int))=false->(∃x:Nat,(x<=a.length/\∀j:Nat,j<x->a.getD j default=b.getD j default)/\a=a/\b=b/\0=(x:Int))/\∀x:Nat,(x<=a.length/\∀
 (j:Nat),j<x->a.getD j default=b.getD j default)->I64 (a.length:Int)->(decide ((x:Int)<(a.length:Int))->(0<=(x:Int)/\(x:Int)<(a.length:Int))/\(0<=(x:Int)/\(x:Int) <
 (b.length:Int))/\True/\((!dec ((a.getD x default).kids=(b.getD x default).kids))=true->dec (a=b)=false)/\((!dec ((a.getD x default).kids=(b.getD x default).kids))=false->∃
 (x_1:Nat),((x_1<=a.length/\∀j:Nat,j<x_1->a.getD j default=b.getD j default)/\a.length-x_1<a.length-x)/\a=a/\b=b/\i64.wrap ((x:Int)+1)=(x_1:Int)))/\(decide ((x:Int) <
 (a.length:Int))=false->dec (a=b)=true)):=by
  intro hwa hwb;simp only[iv,kv,fv,nm,ne_eq,implies_true,eq_self];have h1:=hwa.1;refine fun _ _=>⟨fun h e=>h (by rw[e]),fun hl=>⟨⟨0,⟨by omega,fun j hj=>by omega⟩,rfl⟩,fun x hx _=>⟨fun hlt=>?_,fun hlt=>eqL_all (by omega) hx.2 (by omega)⟩⟩⟩
  have hwx:=wfl_get hwa (i:=x) (by omega);have hwy:=wfl_get hwb (i:=x) (by omega);exact⟨⟨by omega,by omega⟩,⟨by omega,by omega⟩,fun h e=>h ((sl_same hwx hwy).2 (by rw[e])),fun h=>⟨x+1,⟨⟨by omega,eqL_next hx.2 ((sl_same hwx hwy).1 h)⟩,by omega⟩,up_ok (n:=a.length) (by omega) (by omega)⟩⟩
def eqIntSS_get (ins:List SV) (m:St):Option Got:=
  match ins,m with
  | [.sl (.sl (.int .i64)) a,.sl (.sl (.int .i64)) b],⟨[],[],[]⟩=>some (True,.bool (dec (a=b)),St.mk [] [] [])
  | _,_=>none
theorem eqIntSS_ok:Ok0 Tryz.prog 137 eqIntSS_get:=by
  intro _ _ _ _ _ h hp;unfold eqIntSS_get at h;split at h
  · rename_i a b;cases h;refine fn_ok0 (ct:=[eqIntS_con]) (L:=fun k=>bif Nat.beq k 4 then some (.g (⟨Nat,fun s g=>hd s [0,1] [(5,.int .i64 g)] s.rw,fun _ g=>g<=a.length/\∀j,j<g->a.getD j default=b.getD j default,fun g=>a.length-g⟩)) else none) Tryz_follows Tryz.func137 ?_;apply VC.thru (eqIntSS_vc a b);kernel_rfl
  · cases h
def eqIntSS_con:Con Tryz.prog:=.f0 137 [] true eqIntSS_get (enters Tryz.func137 (by kernel_rfl) rfl) eqIntSS_ok
theorem eqRough_vc (rows rows2:List Dat) :
 WFl (Ty.int i64).sl rows->WFl (Ty.int i64).sl rows2->True/\((!dec (rows=rows2))=true->dec (rows=rows2)=false)/\((!dec (rows=rows2))=false->dec (rows=rows2)=true):=by
  intros
  simp only[iv,kv,fv,nm,ne_eq,implies_true,eq_self]
def eqRough_get (ins:List SV) (m:St):Option Got:=
  match ins,m with
  | [.agg [.sl (.sl (.int .i64)) rows],.agg [.sl (.sl (.int .i64)) rows2]],⟨[],[],[]⟩=>some (True,.bool (dec (rows=rows2)),St.mk [] [] [])
  | _,_=>none
theorem eqRough_ok:Ok0 Tryz.prog 82 eqRough_get:=by
  intro _ _ _ _ _ h hp;unfold eqRough_get at h;split at h
  · rename_i rows rows2;cases h;refine fn_ok0 (ct:=[eqIntSS_con]) (L:=fun _=>none) Tryz_follows Tryz.func82 ?_;apply VC.thru (eqRough_vc rows rows2);kernel_rfl
  · cases h
def eqRough_con:Con Tryz.prog:=.f0 82 [] true eqRough_get (enters Tryz.func82 (by kernel_rfl) rfl) eqRough_ok
theorem eqFew_vc (kept kept2:List Dat) :
 WFl (Ty.int i64) kept->WFl (Ty.int i64) kept2->True/\((!dec (kept=kept2))=true->dec (kept=kept2)=false)/\((!dec (kept=kept2))=false->dec (kept=kept2)=true):=by
  intros
  simp only[iv,kv,fv,nm,ne_eq,implies_true,eq_self]
def eqFew_get (ins:List SV) (m:St):Option Got:=
  match ins,m with
  | [.agg [.sl (.int .i64) kept],.agg [.sl (.int .i64) kept2]],⟨[],[],[]⟩=>some (True,.bool (dec (kept=kept2)),St.mk [] [] [])
  | _,_=>none
theorem eqFew_ok:Ok0 Tryz.prog 83 eqFew_get:=by
  intro _ _ _ _ _ h hp;unfold eqFew_get at h;split at h
  · rename_i kept kept2;cases h;refine fn_ok0 (ct:=[eqIntS_con]) (L:=fun _=>none) Tryz_follows Tryz.func83 ?_;apply VC.thru (eqFew_vc kept kept2);kernel_rfl
  · cases h
def eqFew_con:Con Tryz.prog:=.f0 83 [] true eqFew_get (enters Tryz.func83 (by kernel_rfl) rfl) eqFew_ok
theorem eqPair_vc (pa pa2 pb pb2:Int) :
 I64 pa->I64 pb->I64 pa2->I64 pb2->I64 pa->I64 pa2->(decide (pa≠pa2)->dec (pa=pa2/\pb=pb2)=false)/\(decide (pa≠pa2)=false->I64 pb->I64 pb2->(decide (pb≠pb2)->dec (pa =
 pa2/\pb=pb2)=false)/\(decide (pb≠pb2)=false->dec (pa=pa2/\pb=pb2)=true)):=by
  intros
  simp only[iv,kv,fv,nm,ne_eq,implies_true,eq_self]
  (repeat' (first | assumption | intro _ | refine And.intro ?_ ?_))
  all_goals simp_all
def eqPair_get (ins:List SV) (m:St):Option Got:=
  match ins,m with
  | [.agg [.int .i64 pa,.int .i64 pb],.agg [.int .i64 pa2,.int .i64 pb2]],⟨[],[],[]⟩=>some (True,.bool (dec (pa=pa2/\pb=pb2)),St.mk [] [] [])
  | _,_=>none
theorem eqPair_ok:Ok0 Tryz.prog 173 eqPair_get:=by
  intro _ _ _ _ _ h hp;unfold eqPair_get at h;split at h
  · rename_i pa pb pa2 pb2;cases h;refine fn_ok0 (ct:=[]) (L:=fun _=>none) Tryz_follows Tryz.func173 ?_;apply VC.thru (eqPair_vc pa pa2 pb pb2);kernel_rfl
  · cases h
def eqPair_con:Con Tryz.prog:=.f0 173 [] true eqPair_get (enters Tryz.func173 (by kernel_rfl) rfl) eqPair_ok
theorem eqPairS_vc (a b:List Dat) :
 WFl TPr a->WFl TPr b->I64 (a.length:Int)->I64 (b.length:Int)->(decide ((a.length:Int)≠(b.length:Int))->dec (a=b)=false)/\(decide ((a.length:Int)≠(b.length:Int))=false->(∃
 (x:Nat),(x<=a.length/\∀j:Nat,j<x->a.getD j default=b.getD j default)/\a=a/\b=b/\0=(x:Int))/\∀x:Nat,(x<=a.length/\∀j:Nat,j<x->a.getD j default=b.getD j
 default)->I64 (a.length:Int)->(decide ((x:Int)<(a.length:Int))->(0<=(x:Int)/\(x:Int)<(a.length:Int))/\(0<=(x:Int)/\(x:Int)<(b.length:Int))/\True/\((!dec (((a.getD x default).f
 0).toInt=((b.getD x default).f 0).toInt/\((a.getD x default).f 1).toInt=((b.getD x default).f 1).toInt))=true->dec (a=b)=false)/\((!dec (((a.getD x default).f 0).toInt =
 ((b.getD x default).f 0).toInt/\((a.getD x default).f 1).toInt=((b.getD x default).f 1).toInt))=false->∃x_1:Nat,((x_1<=a.length/\∀j:Nat,j<x_1->a.getD j default=b.getD j
 default)/\a.length-x_1<a.length-x)/\a=a/\b=b/\i64.wrap ((x:Int)+1)=(x_1:Int)))/\(decide ((x:Int)<(a.length:Int))=false->dec (a=b)=true)):=by
  intro hwa hwb;simp only[iv,kv,fv,nm,ne_eq,implies_true,eq_self];have h1:=hwa.1;refine fun _ _=>⟨fun h e=>h (by rw[e]),fun hl=>⟨⟨0,⟨by omega,fun j hj=>by omega⟩,rfl⟩,fun x hx _=>⟨fun hlt=>?_,fun hlt=>eqL_all (by omega) hx.2 (by omega)⟩⟩⟩
  have hwx:=wfl_get hwa (i:=x) (by omega);have hwy:=wfl_get hwb (i:=x) (by omega);exact⟨⟨by omega,by omega⟩,⟨by omega,by omega⟩,fun h e=>h ((pr_same hwx hwy).2 (by rw[e])),fun h=>⟨x+1,⟨⟨by omega,eqL_next hx.2 ((pr_same hwx hwy).1 h)⟩,by omega⟩,up_ok (n:=a.length) (by omega) (by omega)⟩⟩
def eqPairS_get (ins:List SV) (m:St):Option Got:=
  match ins,m with
  | [.sl ty0 a,.sl ty1 b],⟨[],[],[]⟩=>guardTy ty0 TPr (guardTy ty1 TPr (some (True,.bool (dec (a=b)),St.mk [] [] [])))
  | _,_=>none
theorem eqPairS_ok:Ok0 Tryz.prog 139 eqPairS_get:=by
  intro _ _ _ _ _ h hp;unfold eqPairS_get at h;split at h
  · replace h:=gT h;obtain⟨rfl,h⟩:=h;replace h:=gT h;obtain⟨rfl,h⟩:=h;rename_i a b;cases h;refine fn_ok0 (ct:=[eqPair_con]) (L:=fun k=>bif Nat.beq k 4 then some (.g (⟨Nat,fun s g=>hd s [0,1] [(5,.int .i64 g)] s.rw,fun _ g=>g<=a.length/\∀j,j<g->a.getD j default=b.getD j default,fun g=>a.length-g⟩)) else none) Tryz_follows Tryz.func139 ?_;apply VC.thru (eqPairS_vc a b);kernel_rfl
  · cases h
def eqPairS_con:Con Tryz.prog:=.f0 139 [] true eqPairS_get (enters Tryz.func139 (by kernel_rfl) rfl) eqPairS_ok
theorem eqTop_vc (prs prs2:List Dat) (lost lost2 all all2:Int) :
 WFl TPr prs->I64 lost->I64 all->WFl TPr prs2->I64 lost2->I64 all2->True/\((!dec (prs=prs2))=true->dec (prs=prs2/\lost=lost2/\all=all2)=false)/\((!dec (prs=prs2))=false->I64
 lost->I64 lost2->(decide (lost≠lost2)->dec (prs=prs2/\lost=lost2/\all=all2)=false)/\(decide (lost≠lost2)=false->I64 all->I64 all2->(decide (all≠all2)->dec (prs =
 prs2/\lost=lost2/\all=all2)=false)/\(decide (all≠all2)=false->dec (prs=prs2/\lost=lost2/\all=all2)=true))):=by
  intros
  simp only[iv,kv,fv,nm,ne_eq,implies_true,eq_self]
  (repeat' (first | assumption | intro _ | refine And.intro ?_ ?_))
  all_goals simp_all
def eqTop_get (ins:List SV) (m:St):Option Got:=
  match ins,m with
  | [.agg [.sl ty0 prs,.int .i64 lost,.int .i64 all],.agg [.sl ty1 prs2,.int .i64 lost2,.int .i64 all2]],⟨[],[],[]⟩=>guardTy ty0 TPr (guardTy ty1 TPr (some (True,.bool (dec (prs=prs2/\lost=lost2/\all=all2)),St.mk [] [] [])))
  | _,_=>none
theorem eqTop_ok:Ok0 Tryz.prog 84 eqTop_get:=by
  intro _ _ _ _ _ h hp;unfold eqTop_get at h;split at h
  · replace h:=gT h;obtain⟨rfl,h⟩:=h;replace h:=gT h;obtain⟨rfl,h⟩:=h;rename_i prs lost all prs2 lost2 all2;cases h;refine fn_ok0 (ct:=[eqPairS_con]) (L:=fun _=>none) Tryz_follows Tryz.func84 ?_;apply VC.thru (eqTop_vc prs prs2 lost lost2 all all2);kernel_rfl
  · cases h
def eqTop_con:Con Tryz.prog:=.f0 84 [] true eqTop_get (enters Tryz.func84 (by kernel_rfl) rfl) eqTop_ok
theorem eqKnot_vc (pa pa2 pb pb2:Int) :
 I64 pa->I64 pb->I64 pa2->I64 pb2->I64 pa->I64 pa2->(decide (pa≠pa2)->dec (pa=pa2/\pb=pb2)=false)/\(decide (pa≠pa2)=false->I64 pb->I64 pb2->(decide (pb≠pb2)->dec (pa =
 pa2/\pb=pb2)=false)/\(decide (pb≠pb2)=false->dec (pa=pa2/\pb=pb2)=true)):=by
  intros
  simp only[iv,kv,fv,nm,ne_eq,implies_true,eq_self]
  (repeat' (first | assumption | intro _ | refine And.intro ?_ ?_))
  all_goals simp_all
def eqKnot_get (ins:List SV) (m:St):Option Got:=
  match ins,m with
  | [.agg [.int .i64 pa,.int .i64 pb],.agg [.int .i64 pa2,.int .i64 pb2]],⟨[],[],[]⟩=>some (True,.bool (dec (pa=pa2/\pb=pb2)),St.mk [] [] [])
  | _,_=>none
theorem eqKnot_ok:Ok0 Tryz.prog 174 eqKnot_get:=by
  intro _ _ _ _ _ h hp;unfold eqKnot_get at h;split at h
  · rename_i pa pb pa2 pb2;cases h;refine fn_ok0 (ct:=[]) (L:=fun _=>none) Tryz_follows Tryz.func174 ?_;apply VC.thru (eqKnot_vc pa pa2 pb pb2);kernel_rfl
  · cases h
def eqKnot_con:Con Tryz.prog:=.f0 174 [] true eqKnot_get (enters Tryz.func174 (by kernel_rfl) rfl) eqKnot_ok
theorem eqKnotS_vc (a b:List Dat) :
 WFl TPr a->WFl TPr b->I64 (a.length:Int)->I64 (b.length:Int)->(decide ((a.length:Int)≠(b.length:Int))->dec (a=b)=false)/\(decide ((a.length:Int)≠(b.length:Int))=false->(∃
 (x:Nat),(x<=a.length/\∀j:Nat,j<x->a.getD j default=b.getD j default)/\a=a/\b=b/\0=(x:Int))/\∀x:Nat,(x<=a.length/\∀j:Nat,j<x->a.getD j default=b.getD j
 default)->I64 (a.length:Int)->(decide ((x:Int)<(a.length:Int))->(0<=(x:Int)/\(x:Int)<(a.length:Int))/\(0<=(x:Int)/\(x:Int)<(b.length:Int))/\True/\((!dec (((a.getD x default).f
 0).toInt=((b.getD x default).f 0).toInt/\((a.getD x default).f 1).toInt=((b.getD x default).f 1).toInt))=true->dec (a=b)=false)/\((!dec (((a.getD x default).f 0).toInt =
 ((b.getD x default).f 0).toInt/\((a.getD x default).f 1).toInt=((b.getD x default).f 1).toInt))=false->∃x_1:Nat,((x_1<=a.length/\∀j:Nat,j<x_1->a.getD j default=b.getD j
 default)/\a.length-x_1<a.length-x)/\a=a/\b=b/\i64.wrap ((x:Int)+1)=(x_1:Int)))/\(decide ((x:Int)<(a.length:Int))=false->dec (a=b)=true)):=by
  intro hwa hwb;simp only[iv,kv,fv,nm,ne_eq,implies_true,eq_self];have h1:=hwa.1;refine fun _ _=>⟨fun h e=>h (by rw[e]),fun hl=>⟨⟨0,⟨by omega,fun j hj=>by omega⟩,rfl⟩,fun x hx _=>⟨fun hlt=>?_,fun hlt=>eqL_all (by omega) hx.2 (by omega)⟩⟩⟩
  have hwx:=wfl_get hwa (i:=x) (by omega);have hwy:=wfl_get hwb (i:=x) (by omega);exact⟨⟨by omega,by omega⟩,⟨by omega,by omega⟩,fun h e=>h ((pr_same hwx hwy).2 (by rw[e])),fun h=>⟨x+1,⟨⟨by omega,eqL_next hx.2 ((pr_same hwx hwy).1 h)⟩,by omega⟩,up_ok (n:=a.length) (by omega) (by omega)⟩⟩
def eqKnotS_get (ins:List SV) (m:St):Option Got:=
  match ins,m with
  | [.sl ty0 a,.sl ty1 b],⟨[],[],[]⟩=>guardTy ty0 TPr (guardTy ty1 TPr (some (True,.bool (dec (a=b)),St.mk [] [] [])))
  | _,_=>none
theorem eqKnotS_ok:Ok0 Tryz.prog 140 eqKnotS_get:=by
  intro _ _ _ _ _ h hp;unfold eqKnotS_get at h;split at h
  · replace h:=gT h;obtain⟨rfl,h⟩:=h;replace h:=gT h;obtain⟨rfl,h⟩:=h;rename_i a b;cases h;refine fn_ok0 (ct:=[eqKnot_con]) (L:=fun k=>bif Nat.beq k 4 then some (.g (⟨Nat,fun s g=>hd s [0,1] [(5,.int .i64 g)] s.rw,fun _ g=>g<=a.length/\∀j,j<g->a.getD j default=b.getD j default,fun g=>a.length-g⟩)) else none) Tryz_follows Tryz.func140 ?_;apply VC.thru (eqKnotS_vc a b);kernel_rfl
  · cases h
def eqKnotS_con:Con Tryz.prog:=.f0 140 [] true eqKnotS_get (enters Tryz.func140 (by kernel_rfl) rfl) eqKnotS_ok
theorem eqRank_vc (kn kn2:List Dat) (rall rall2:Int) :
 WFl TPr kn->I64 rall->WFl TPr kn2->I64 rall2->True/\((!dec (kn=kn2))=true->dec (kn=kn2/\rall=rall2)=false)/\((!dec (kn=kn2))=false->I64 rall->I64 rall2->(decide (rall≠rall2) =
 true->dec (kn=kn2/\rall=rall2)=false)/\(decide (rall≠rall2)=false->dec (kn=kn2/\rall=rall2)=true)):=by
  intros
  simp only[iv,kv,fv,nm,ne_eq,implies_true,eq_self]
  (repeat' (first | assumption | intro _ | refine And.intro ?_ ?_))
  all_goals simp_all
def eqRank_get (ins:List SV) (m:St):Option Got:=
  match ins,m with
  | [.agg [.sl ty0 kn,.int .i64 rall],.agg [.sl ty1 kn2,.int .i64 rall2]],⟨[],[],[]⟩=>guardTy ty0 TPr (guardTy ty1 TPr (some (True,.bool (dec (kn=kn2/\rall=rall2)),St.mk [] [] [])))
  | _,_=>none
theorem eqRank_ok:Ok0 Tryz.prog 85 eqRank_get:=by
  intro _ _ _ _ _ h hp;unfold eqRank_get at h;split at h
  · replace h:=gT h;obtain⟨rfl,h⟩:=h;replace h:=gT h;obtain⟨rfl,h⟩:=h;rename_i kn rall kn2 rall2;cases h;refine fn_ok0 (ct:=[eqKnotS_con]) (L:=fun _=>none) Tryz_follows Tryz.func85 ?_;apply VC.thru (eqRank_vc kn kn2 rall rall2);kernel_rfl
  · cases h
def eqRank_con:Con Tryz.prog:=.f0 85 [] true eqRank_get (enters Tryz.func85 (by kernel_rfl) rfl) eqRank_ok
theorem eqSum_vc (rows rows2 kept kept2 prs prs2 kn kn2:List Dat) (lost lost2 all all2 rall rall2:Int) :
 WFl (Ty.int i64).sl rows->WFl (Ty.int i64) kept->WFl TPr prs->I64 lost->I64 all->WFl TPr kn->I64 rall->WFl (Ty.int i64).sl rows2->WFl (Ty.int i64) kept2->WFl TPr prs2->I64 lost2->I64 all2->WFl
 TPr kn2->I64 rall2->True/\((!dec (rows=rows2))=true->dec (rows=rows2/\kept=kept2/\prs=prs2/\lost=lost2/\all=all2/\kn=kn2/\rall=rall2)=false)/\((!dec (rows=rows2)) =
 false->True/\((!dec (kept=kept2))=true->dec (rows=rows2/\kept=kept2/\prs=prs2/\lost=lost2/\all=all2/\kn=kn2/\rall=rall2)=false)/\((!dec (kept=kept2)) =
 false->True/\((!dec (prs=prs2/\lost=lost2/\all=all2))=true->dec (rows=rows2/\kept=kept2/\prs=prs2/\lost=lost2/\all=all2/\kn=kn2/\rall=rall2)=false)/\((!dec (prs =
 prs2/\lost=lost2/\all=all2))=false->True/\((!dec (kn=kn2/\rall=rall2))=true->dec (rows=rows2/\kept=kept2/\prs=prs2/\lost=lost2/\all=all2/\kn=kn2/\rall=rall2) =
 false)/\((!dec (kn=kn2/\rall=rall2))=false->dec (rows=rows2/\kept=kept2/\prs=prs2/\lost=lost2/\all=all2/\kn=kn2/\rall=rall2)=true)))):=by
  intros
  simp only[iv,kv,fv,nm,ne_eq,implies_true,eq_self]
  (repeat' (first | assumption | intro _ | refine And.intro ?_ ?_))
  all_goals simp_all
def eqSum_get (ins:List SV) (m:St):Option Got:=
  match ins,m with
  | [.agg [.sl (.sl (.int .i64)) rows,.sl (.int .i64) kept,.sl ty0 prs,.int .i64 lost,.int .i64 all,.sl ty1 kn,.int .i64 rall],.agg [.sl (.sl (.int .i64)) rows2,.sl (.int .i64) kept2,.sl ty2 prs2,.int .i64 lost2,.int .i64 all2,.sl ty3 kn2,.int .i64 rall2]],⟨[],[],[]⟩=>guardTy ty0 TPr (guardTy ty1 TPr (guardTy ty2 TPr (guardTy ty3 TPr (some (True,.bool (dec (rows=rows2/\kept=kept2/\prs=prs2/\lost=lost2/\all=all2/\kn=kn2/\rall=rall2)),St.mk [] [] [])))))
  | _,_=>none
theorem eqSum_ok:Ok0 Tryz.prog 31 eqSum_get:=by
  intro _ _ _ _ _ h hp;unfold eqSum_get at h;split at h
  · replace h:=gT h;obtain⟨rfl,h⟩:=h;replace h:=gT h;obtain⟨rfl,h⟩:=h;replace h:=gT h;obtain⟨rfl,h⟩:=h;replace h:=gT h;obtain⟨rfl,h⟩:=h;rename_i rows kept prs lost all kn rall rows2 kept2 prs2 lost2 all2 kn2 rall2;cases h;refine fn_ok0 (ct:=[eqRough_con,eqFew_con,eqTop_con,eqRank_con]) (L:=fun _=>none) Tryz_follows Tryz.func31 ?_;apply VC.thru (eqSum_vc rows rows2 kept kept2 prs prs2 kn kn2 lost lost2 all all2 rall rall2);kernel_rfl
  · cases h
def eqSum_con:Con Tryz.prog:=.f0 31 [] true eqSum_get (enters Tryz.func31 (by kernel_rfl) rfl) eqSum_ok
theorem eqEntry_vc (rows rows2 kept kept2 prs prs2 kn kn2:List Dat) (node node2 born born2 num num2 lost lost2 all all2 rall rall2:Int) :
 I64 node->I64 born->I64 num->WFl (Ty.int i64).sl rows->WFl (Ty.int i64) kept->WFl TPr prs->I64 lost->I64 all->WFl TPr kn->I64 rall->I64 node2->I64 born2->I64 num2->WFl (Ty.int i64).sl rows2->WFl
 (Ty.int i64) kept2->WFl TPr prs2->I64 lost2->I64 all2->WFl TPr kn2->I64 rall2->I64 node->I64 node2->(decide (node≠node2)->dec (node=node2/\born=born2/\num=num2/\rows=rows2/\kept
 = kept2/\prs=prs2/\lost=lost2/\all=all2/\kn=kn2/\rall=rall2)=false)/\(decide (node≠node2)=false->I64 born->I64 born2->(decide (born≠born2)->dec (node=node2/\born =
 born2/\num=num2/\rows=rows2/\kept=kept2/\prs=prs2/\lost=lost2/\all=all2/\kn=kn2/\rall=rall2)=false)/\(decide (born≠born2)=false->I64 num->I64 num2->(decide (num≠num2) =
 true->dec (node=node2/\born=born2/\num=num2/\rows=rows2/\kept=kept2/\prs=prs2/\lost=lost2/\all=all2/\kn=kn2/\rall=rall2)=false)/\(decide (num≠num2)=false->True/\((!dec
 (rows=rows2/\kept=kept2/\prs=prs2/\lost=lost2/\all=all2/\kn=kn2/\rall=rall2))=true->dec (node=node2/\born=born2/\num=num2/\rows=rows2/\kept=kept2/\prs=prs2/\lost =
 lost2/\all=all2/\kn=kn2/\rall=rall2)=false)/\((!dec (rows=rows2/\kept=kept2/\prs=prs2/\lost=lost2/\all=all2/\kn=kn2/\rall=rall2))=false->dec (node=node2/\born =
 born2/\num=num2/\rows=rows2/\kept=kept2/\prs=prs2/\lost=lost2/\all=all2/\kn=kn2/\rall=rall2)=true)))):=by
  intros
  simp only[iv,kv,fv,nm,ne_eq,implies_true,eq_self]
  (repeat' (first | assumption | intro _ | refine And.intro ?_ ?_))
  all_goals simp_all
def eqEntry_get (ins:List SV) (m:St):Option Got:=
  match ins,m with
  | [.agg [.int .i64 node,.int .i64 born,.int .i64 num,.sl (.sl (.int .i64)) rows,.sl (.int .i64) kept,.sl ty0 prs,.int .i64 lost,.int .i64 all,.sl ty1 kn,.int .i64 rall],.agg [.int .i64 node2,.int .i64 born2,.int .i64 num2,.sl (.sl (.int .i64)) rows2,.sl (.int .i64) kept2,.sl ty2 prs2,.int .i64 lost2,.int .i64 all2,.sl ty3 kn2,.int .i64 rall2]],⟨[],[],[]⟩=>guardTy ty0 TPr (guardTy ty1 TPr (guardTy ty2 TPr (guardTy ty3 TPr (some (True,.bool (dec (node=node2/\born=born2/\num=num2/\rows=rows2/\kept=kept2/\prs=prs2/\lost=lost2/\all=all2/\kn=kn2/\rall=rall2)),St.mk [] [] [])))))
  | _,_=>none
theorem eqEntry_ok:Ok0 Tryz.prog 70 eqEntry_get:=by
  intro _ _ _ _ _ h hp;unfold eqEntry_get at h;split at h
  · replace h:=gT h;obtain⟨rfl,h⟩:=h;replace h:=gT h;obtain⟨rfl,h⟩:=h;replace h:=gT h;obtain⟨rfl,h⟩:=h;replace h:=gT h;obtain⟨rfl,h⟩:=h;rename_i node born num rows kept prs lost all kn rall node2 born2 num2 rows2 kept2 prs2 lost2 all2 kn2 rall2;cases h;refine fn_ok0 (ct:=[eqSum_con]) (L:=fun _=>none) Tryz_follows Tryz.func70 ?_;apply VC.thru (eqEntry_vc rows rows2 kept kept2 prs prs2 kn kn2 node node2 born born2 num num2 lost lost2 all all2 rall rall2);kernel_rfl
  · cases h
def eqEntry_con:Con Tryz.prog:=.f0 70 [] true eqEntry_get (enters Tryz.func70 (by kernel_rfl) rfl) eqEntry_ok
theorem eqEntryS_vc (a b:List Dat) :
 WFl TEnt a->WFl TEnt b->I64 (a.length:Int)->I64 (b.length:Int)->(decide ((a.length:Int)≠(b.length:Int))->dec (a=b)=false)/\(decide ((a.length:Int)≠(b.length:Int))=false->(∃
 (x:Nat),(x<=a.length/\∀j:Nat,j<x->a.getD j default=b.getD j default)/\a=a/\b=b/\0=(x:Int))/\∀x:Nat,(x<=a.length/\∀j:Nat,j<x->a.getD j default=b.getD j
 default)->I64 (a.length:Int)->(decide ((x:Int)<(a.length:Int))->(0<=(x:Int)/\(x:Int)<(a.length:Int))/\(0<=(x:Int)/\(x:Int)<(b.length:Int))/\True/\((!dec (((a.getD x default).f
 0).toInt=((b.getD x default).f 0).toInt/\((a.getD x default).f 1).toInt=((b.getD x default).f 1).toInt/\((a.getD x default).f 2).toInt=((b.getD x default).f 2).toInt/\((((a.getD
 x default).f 3).f 0).f 0).kids=((((b.getD x default).f 3).f 0).f 0).kids/\((((a.getD x default).f 3).f 1).f 0).kids=((((b.getD x default).f 3).f 1).f 0).kids/\((((a.getD x
 default).f 3).f 2).f 0).kids=((((b.getD x default).f 3).f 2).f 0).kids/\((((a.getD x default).f 3).f 2).f 1).toInt=((((b.getD x default).f 3).f 2).f 1).toInt/\((((a.getD x
 default).f 3).f 2).f 2).toInt=((((b.getD x default).f 3).f 2).f 2).toInt/\((((a.getD x default).f 3).f 3).f 0).kids=((((b.getD x default).f 3).f 3).f 0).kids/\((((a.getD x
 default).f 3).f 3).f 1).toInt=((((b.getD x default).f 3).f 3).f 1).toInt))=true->dec (a=b)=false)/\((!dec (((a.getD x default).f 0).toInt=((b.getD x default).f
 0).toInt/\((a.getD x default).f 1).toInt=((b.getD x default).f 1).toInt/\((a.getD x default).f 2).toInt=((b.getD x default).f 2).toInt/\((((a.getD x default).f 3).f 0).f 0).kids =
 ((((b.getD x default).f 3).f 0).f 0).kids/\((((a.getD x default).f 3).f 1).f 0).kids=((((b.getD x default).f 3).f 1).f 0).kids/\((((a.getD x default).f 3).f 2).f 0).kids =
 ((((b.getD x default).f 3).f 2).f 0).kids/\((((a.getD x default).f 3).f 2).f 1).toInt=((((b.getD x default).f 3).f 2).f 1).toInt/\((((a.getD x default).f 3).f 2).f 2).toInt =
 ((((b.getD x default).f 3).f 2).f 2).toInt/\((((a.getD x default).f 3).f 3).f 0).kids=((((b.getD x default).f 3).f 3).f 0).kids/\((((a.getD x default).f 3).f 3).f 1).toInt =
 ((((b.getD x default).f 3).f 3).f 1).toInt))=false->∃x_1:Nat,((x_1<=a.length/\∀j:Nat,j<x_1->a.getD j default=b.getD j default)/\a.length-x_1<a.length-x)/\a=a/\b =
 b/\i64.wrap ((x:Int)+1)=(x_1:Int)))/\(decide ((x:Int)<(a.length:Int))=false->dec (a=b)=true)):=by
  intro hwa hwb;simp only[iv,kv,fv,nm,ne_eq,implies_true,eq_self];have h1:=hwa.1;refine fun _ _=>⟨fun h e=>h (by rw[e]),fun hl=>⟨⟨0,⟨by omega,fun j hj=>by omega⟩,rfl⟩,fun x hx _=>⟨fun hlt=>?_,fun hlt=>eqL_all (by omega) hx.2 (by omega)⟩⟩⟩
  have hwx:=wfl_get hwa (i:=x) (by omega);have hwy:=wfl_get hwb (i:=x) (by omega);exact⟨⟨by omega,by omega⟩,⟨by omega,by omega⟩,fun h e=>h ((ent_same hwx hwy).2 (by rw[e])),fun h=>⟨x+1,⟨⟨by omega,eqL_next hx.2 ((ent_same hwx hwy).1 h)⟩,by omega⟩,up_ok (n:=a.length) (by omega) (by omega)⟩⟩
def eqEntryS_get (ins:List SV) (m:St):Option Got:=
  match ins,m with
  | [.sl ty0 a,.sl ty1 b],⟨[],[],[]⟩=>guardTy ty0 TEnt (guardTy ty1 TEnt (some (True,.bool (dec (a=b)),St.mk [] [] [])))
  | _,_=>none
theorem eqEntryS_ok:Ok0 Tryz.prog 24 eqEntryS_get:=by
  intro _ _ _ _ _ h hp;unfold eqEntryS_get at h;split at h
  · replace h:=gT h;obtain⟨rfl,h⟩:=h;replace h:=gT h;obtain⟨rfl,h⟩:=h;rename_i a b;cases h;refine fn_ok0 (ct:=[eqEntry_con]) (L:=fun k=>bif Nat.beq k 4 then some (.g (⟨Nat,fun s g=>hd s [0,1] [(5,.int .i64 g)] s.rw,fun _ g=>g<=a.length/\∀j,j<g->a.getD j default=b.getD j default,fun g=>a.length-g⟩)) else none) Tryz_follows Tryz.func24 ?_;apply VC.thru (eqEntryS_vc a b);kernel_rfl
  · cases h
def eqEntryS_con:Con Tryz.prog:=.f0 24 [] true eqEntryS_get (enters Tryz.func24 (by kernel_rfl) rfl) eqEntryS_ok
theorem eqNode_vc (known known2:List Dat) (born born2 beacon beacon2 level level2 up up2:Int) :
 I64 born->WFl TEnt known->I64 beacon->I64 level->I64 up->I64 born2->WFl TEnt known2->I64 beacon2->I64 level2->I64 up2->I64 born->I64 born2->(decide (born≠born2)->dec (born=born2/\known
 = known2/\beacon=beacon2/\level=level2/\up=up2)=false)/\(decide (born≠born2)=false->True/\((!dec (known=known2))=true->dec (born=born2/\known=known2/\beacon =
 beacon2/\level=level2/\up=up2)=false)/\((!dec (known=known2))=false->I64 beacon->I64 beacon2->(decide (beacon≠beacon2)->dec (born=born2/\known=known2/\beacon =
 beacon2/\level=level2/\up=up2)=false)/\(decide (beacon≠beacon2)=false->I64 level->I64 level2->(decide (level≠level2)->dec (born=born2/\known=known2/\beacon =
 beacon2/\level=level2/\up=up2)=false)/\(decide (level≠level2)=false->I64 up->I64 up2->(decide (up≠up2)->dec (born=born2/\known=known2/\beacon=beacon2/\level=level2/\up
 = up2)=false)/\(decide (up≠up2)=false->dec (born=born2/\known=known2/\beacon=beacon2/\level=level2/\up=up2)=true))))):=by
  intros
  simp only[iv,kv,fv,nm,ne_eq,implies_true,eq_self]
  (repeat' (first | assumption | intro _ | refine And.intro ?_ ?_))
  all_goals simp_all
def eqNode_get (ins:List SV) (m:St):Option Got:=
  match ins,m with
  | [.agg [.int .i64 born,.sl ty0 known,.int .i64 beacon,.int .i64 level,.int .i64 up],.agg [.int .i64 born2,.sl ty1 known2,.int .i64 beacon2,.int .i64 level2,.int .i64 up2]],⟨[],[],[]⟩=>guardTy ty0 TEnt (guardTy ty1 TEnt (some (True,.bool (dec (born=born2/\known=known2/\beacon=beacon2/\level=level2/\up=up2)),St.mk [] [] [])))
  | _,_=>none
theorem eqNode_ok:Ok0 Tryz.prog 135 eqNode_get:=by
  intro _ _ _ _ _ h hp;unfold eqNode_get at h;split at h
  · replace h:=gT h;obtain⟨rfl,h⟩:=h;replace h:=gT h;obtain⟨rfl,h⟩:=h;rename_i born known beacon level up born2 known2 beacon2 level2 up2;cases h;refine fn_ok0 (ct:=[eqEntryS_con]) (L:=fun _=>none) Tryz_follows Tryz.func135 ?_;apply VC.thru (eqNode_vc known known2 born born2 beacon beacon2 level level2 up up2);kernel_rfl
  · cases h
def eqNode_con:Con Tryz.prog:=.f0 135 [] true eqNode_get (enters Tryz.func135 (by kernel_rfl) rfl) eqNode_ok
theorem eqNodeS_vc (a b:List Dat) :
 WFl TNode a->WFl TNode b->I64 (a.length:Int)->I64 (b.length:Int)->(decide ((a.length:Int)≠(b.length:Int))->dec (a=b)=false)/\(decide ((a.length:Int)≠(b.length:Int))=false->(∃
 (x:Nat),(x<=a.length/\∀j:Nat,j<x->a.getD j default=b.getD j default)/\a=a/\b=b/\0=(x:Int))/\∀x:Nat,(x<=a.length/\∀j:Nat,j<x->a.getD j default=b.getD j
 default)->I64 (a.length:Int)->(decide ((x:Int)<(a.length:Int))->(0<=(x:Int)/\(x:Int)<(a.length:Int))/\(0<=(x:Int)/\(x:Int)<(b.length:Int))/\True/\((!dec (((a.getD x default).f
 0).toInt=((b.getD x default).f 0).toInt/\((a.getD x default).f 1).kids=((b.getD x default).f 1).kids/\((a.getD x default).f 2).toInt=((b.getD x default).f 2).toInt/\((a.getD x
 default).f 3).toInt=((b.getD x default).f 3).toInt/\((a.getD x default).f 4).toInt=((b.getD x default).f 4).toInt))=true->dec (a=b)=false)/\((!dec (((a.getD x default).f
 0).toInt=((b.getD x default).f 0).toInt/\((a.getD x default).f 1).kids=((b.getD x default).f 1).kids/\((a.getD x default).f 2).toInt=((b.getD x default).f 2).toInt/\((a.getD x
 default).f 3).toInt=((b.getD x default).f 3).toInt/\((a.getD x default).f 4).toInt=((b.getD x default).f 4).toInt))=false->∃x_1:Nat,((x_1<=a.length/\∀j:Nat,j<x_1->a.getD
 j default=b.getD j default)/\a.length-x_1<a.length-x)/\a=a/\b=b/\i64.wrap ((x:Int)+1)=(x_1:Int)))/\(decide ((x:Int)<(a.length:Int))=false->dec (a=b)=true)):=by
  intro hwa hwb;simp only[iv,kv,fv,nm,ne_eq,implies_true,eq_self];have h1:=hwa.1;refine fun _ _=>⟨fun h e=>h (by rw[e]),fun hl=>⟨⟨0,⟨by omega,fun j hj=>by omega⟩,rfl⟩,fun x hx _=>⟨fun hlt=>?_,fun hlt=>eqL_all (by omega) hx.2 (by omega)⟩⟩⟩
  have hwx:=wfl_get hwa (i:=x) (by omega);have hwy:=wfl_get hwb (i:=x) (by omega);exact⟨⟨by omega,by omega⟩,⟨by omega,by omega⟩,fun h e=>h ((nd_same hwx hwy).2 (by rw[e])),fun h=>⟨x+1,⟨⟨by omega,eqL_next hx.2 ((nd_same hwx hwy).1 h)⟩,by omega⟩,up_ok (n:=a.length) (by omega) (by omega)⟩⟩
def eqNodeS_get (ins:List SV) (m:St):Option Got:=
  match ins,m with
  | [.sl ty0 a,.sl ty1 b],⟨[],[],[]⟩=>guardTy ty0 TNode (guardTy ty1 TNode (some (True,.bool (dec (a=b)),St.mk [] [] [])))
  | _,_=>none
theorem eqNodeS_ok:Ok0 Tryz.prog 66 eqNodeS_get:=by
  intro _ _ _ _ _ h hp;unfold eqNodeS_get at h;split at h
  · replace h:=gT h;obtain⟨rfl,h⟩:=h;replace h:=gT h;obtain⟨rfl,h⟩:=h;rename_i a b;cases h;refine fn_ok0 (ct:=[eqNode_con]) (L:=fun k=>bif Nat.beq k 4 then some (.g (⟨Nat,fun s g=>hd s [0,1] [(5,.int .i64 g)] s.rw,fun _ g=>g<=a.length/\∀j,j<g->a.getD j default=b.getD j default,fun g=>a.length-g⟩)) else none) Tryz_follows Tryz.func66 ?_;apply VC.thru (eqNodeS_vc a b);kernel_rfl
  · cases h
def eqNodeS_con:Con Tryz.prog:=.f0 66 [] true eqNodeS_get (enters Tryz.func66 (by kernel_rfl) rfl) eqNodeS_ok
theorem eqBoolS_vc (a b:List Dat) :
 WFl Ty.bool a->WFl Ty.bool b->I64 (a.length:Int)->I64 (b.length:Int)->(decide ((a.length:Int)≠(b.length:Int))->dec (a=b)=false)/\(decide ((a.length:Int)≠(b.length:Int)) =
 false->(∃x:Nat,(x<=a.length/\∀j:Nat,j<x->a.getD j default=b.getD j default)/\a=a/\b=b/\0=(x:Int))/\∀x:Nat,(x<=a.length/\∀j:Nat,j<x->a.getD j default=b.getD
 j default)->I64 (a.length:Int)->(decide ((x:Int)<(a.length:Int))->(0<=(x:Int)/\(x:Int)<(a.length:Int))/\(0<=(x:Int)/\(x:Int)<(b.length:Int))/\(decide ((a.getD x
 default).toBool≠(b.getD x default).toBool)=true->dec (a=b)=false)/\(decide ((a.getD x default).toBool≠(b.getD x default).toBool)=false->∃x_1:Nat,((x_1<=a.length/\∀j:Nat,
 j<x_1->a.getD j default=b.getD j default)/\a.length-x_1<a.length-x)/\a=a/\b=b/\i64.wrap ((x:Int)+1)=(x_1:Int)))/\(decide ((x:Int)<(a.length:Int))=false->dec (a=b)
 = true)):=by
  intro hwa hwb;simp only[iv,kv,fv,nm,ne_eq,implies_true,eq_self];have h1:=hwa.1;refine fun _ _=>⟨fun h e=>h (by rw[e]),fun hl=>⟨⟨0,⟨by omega,fun j hj=>by omega⟩,rfl⟩,fun x hx _=>⟨fun hlt=>?_,fun hlt=>eqL_all (by omega) hx.2 (by omega)⟩⟩⟩
  have hwx:=wfl_get hwa (i:=x) (by omega);have hwy:=wfl_get hwb (i:=x) (by omega);exact⟨⟨by omega,by omega⟩,⟨by omega,by omega⟩,fun h e=>h ((bool_same hwx hwy).2 (by rw[e])),fun h=>⟨x+1,⟨⟨by omega,eqL_next hx.2 ((bool_same hwx hwy).1 h)⟩,by omega⟩,up_ok (n:=a.length) (by omega) (by omega)⟩⟩
def eqBoolS_get (ins:List SV) (m:St):Option Got:=
  match ins,m with
  | [.sl .bool a,.sl .bool b],⟨[],[],[]⟩=>some (True,.bool (dec (a=b)),St.mk [] [] [])
  | _,_=>none
theorem eqBoolS_ok:Ok0 Tryz.prog 67 eqBoolS_get:=by
  intro _ _ _ _ _ h hp;unfold eqBoolS_get at h;split at h
  · rename_i a b;cases h;refine fn_ok0 (ct:=[]) (L:=fun k=>bif Nat.beq k 4 then some (.g (⟨Nat,fun s g=>hd s [0,1] [(5,.int .i64 g)] s.rw,fun _ g=>g<=a.length/\∀j,j<g->a.getD j default=b.getD j default,fun g=>a.length-g⟩)) else none) Tryz_follows Tryz.func67 ?_;apply VC.thru (eqBoolS_vc a b);kernel_rfl
  · cases h
def eqBoolS_con:Con Tryz.prog:=.f0 67 [] true eqBoolS_get (enters Tryz.func67 (by kernel_rfl) rfl) eqBoolS_ok
theorem eqWord_vc (known known2:List Dat) (kind kind2 fr fr2 to to2 beacon beacon2 level level2:Int) :
 I64 kind->I64 fr->I64 to->I64 beacon->I64 level->WFl TEnt known->I64 kind2->I64 fr2->I64 to2->I64 beacon2->I64 level2->WFl TEnt known2->I64 kind->I64 kind2->(decide (kind≠kind2)->dec (kind
 = kind2/\fr=fr2/\to=to2/\beacon=beacon2/\level=level2/\known=known2)=false)/\(decide (kind≠kind2)=false->I64 fr->I64 fr2->(decide (fr≠fr2)->dec (kind=kind2/\fr=fr2/\to
 = to2/\beacon=beacon2/\level=level2/\known=known2)=false)/\(decide (fr≠fr2)=false->I64 to->I64 to2->(decide (to≠to2)->dec (kind=kind2/\fr=fr2/\to=to2/\beacon =
 beacon2/\level=level2/\known=known2)=false)/\(decide (to≠to2)=false->I64 beacon->I64 beacon2->(decide (beacon≠beacon2)->dec (kind=kind2/\fr=fr2/\to=to2/\beacon =
 beacon2/\level=level2/\known=known2)=false)/\(decide (beacon≠beacon2)=false->I64 level->I64 level2->(decide (level≠level2)->dec (kind=kind2/\fr=fr2/\to=to2/\beacon =
 beacon2/\level=level2/\known=known2)=false)/\(decide (level≠level2)=false->True/\((!dec (known=known2))=true->dec (kind=kind2/\fr=fr2/\to=to2/\beacon=beacon2/\level =
 level2/\known=known2)=false)/\((!dec (known=known2))=false->dec (kind=kind2/\fr=fr2/\to=to2/\beacon=beacon2/\level=level2/\known=known2)=true)))))):=by
  intros
  simp only[iv,kv,fv,nm,ne_eq,implies_true,eq_self]
  (repeat' (first | assumption | intro _ | refine And.intro ?_ ?_))
  all_goals simp_all
def eqWord_get (ins:List SV) (m:St):Option Got:=
  match ins,m with
  | [.agg [.int .i64 kind,.int .i64 fr,.int .i64 to,.int .i64 beacon,.int .i64 level,.sl ty0 known],.agg [.int .i64 kind2,.int .i64 fr2,.int .i64 to2,.int .i64 beacon2,.int .i64 level2,.sl ty1 known2]],⟨[],[],[]⟩=>guardTy ty0 TEnt (guardTy ty1 TEnt (some (True,.bool (dec (kind=kind2/\fr=fr2/\to=to2/\beacon=beacon2/\level=level2/\known=known2)),St.mk [] [] [])))
  | _,_=>none
theorem eqWord_ok:Ok0 Tryz.prog 136 eqWord_get:=by
  intro _ _ _ _ _ h hp;unfold eqWord_get at h;split at h
  · replace h:=gT h;obtain⟨rfl,h⟩:=h;replace h:=gT h;obtain⟨rfl,h⟩:=h;rename_i kind fr to beacon level known kind2 fr2 to2 beacon2 level2 known2;cases h;refine fn_ok0 (ct:=[eqEntryS_con]) (L:=fun _=>none) Tryz_follows Tryz.func136 ?_;apply VC.thru (eqWord_vc known known2 kind kind2 fr fr2 to to2 beacon beacon2 level level2);kernel_rfl
  · cases h
def eqWord_con:Con Tryz.prog:=.f0 136 [] true eqWord_get (enters Tryz.func136 (by kernel_rfl) rfl) eqWord_ok
theorem eqWordS_vc (a b:List Dat) :
 WFl TWord a->WFl TWord b->I64 (a.length:Int)->I64 (b.length:Int)->(decide ((a.length:Int)≠(b.length:Int))->dec (a=b)=false)/\(decide ((a.length:Int)≠(b.length:Int))=false->(∃
 (x:Nat),(x<=a.length/\∀j:Nat,j<x->a.getD j default=b.getD j default)/\a=a/\b=b/\0=(x:Int))/\∀x:Nat,(x<=a.length/\∀j:Nat,j<x->a.getD j default=b.getD j
 default)->I64 (a.length:Int)->(decide ((x:Int)<(a.length:Int))->(0<=(x:Int)/\(x:Int)<(a.length:Int))/\(0<=(x:Int)/\(x:Int)<(b.length:Int))/\True/\((!dec (((a.getD x default).f
 0).toInt=((b.getD x default).f 0).toInt/\((a.getD x default).f 1).toInt=((b.getD x default).f 1).toInt/\((a.getD x default).f 2).toInt=((b.getD x default).f 2).toInt/\((a.getD x
 default).f 3).toInt=((b.getD x default).f 3).toInt/\((a.getD x default).f 4).toInt=((b.getD x default).f 4).toInt/\((a.getD x default).f 5).kids=((b.getD x default).f 5).kids))
 = true->dec (a=b)=false)/\((!dec (((a.getD x default).f 0).toInt=((b.getD x default).f 0).toInt/\((a.getD x default).f 1).toInt=((b.getD x default).f 1).toInt/\((a.getD x
 default).f 2).toInt=((b.getD x default).f 2).toInt/\((a.getD x default).f 3).toInt=((b.getD x default).f 3).toInt/\((a.getD x default).f 4).toInt=((b.getD x default).f
 4).toInt/\((a.getD x default).f 5).kids=((b.getD x default).f 5).kids))=false->∃x_1:Nat,((x_1<=a.length/\∀j:Nat,j<x_1->a.getD j default=b.getD j default)/\a.length-x_1
 < a.length-x)/\a=a/\b=b/\i64.wrap ((x:Int)+1)=(x_1:Int)))/\(decide ((x:Int)<(a.length:Int))=false->dec (a=b)=true)):=by
  intro hwa hwb;simp only[iv,kv,fv,nm,ne_eq,implies_true,eq_self];have h1:=hwa.1;refine fun _ _=>⟨fun h e=>h (by rw[e]),fun hl=>⟨⟨0,⟨by omega,fun j hj=>by omega⟩,rfl⟩,fun x hx _=>⟨fun hlt=>?_,fun hlt=>eqL_all (by omega) hx.2 (by omega)⟩⟩⟩
  have hwx:=wfl_get hwa (i:=x) (by omega);have hwy:=wfl_get hwb (i:=x) (by omega);exact⟨⟨by omega,by omega⟩,⟨by omega,by omega⟩,fun h e=>h ((wd_same hwx hwy).2 (by rw[e])),fun h=>⟨x+1,⟨⟨by omega,eqL_next hx.2 ((wd_same hwx hwy).1 h)⟩,by omega⟩,up_ok (n:=a.length) (by omega) (by omega)⟩⟩
def eqWordS_get (ins:List SV) (m:St):Option Got:=
  match ins,m with
  | [.sl ty0 a,.sl ty1 b],⟨[],[],[]⟩=>guardTy ty0 TWord (guardTy ty1 TWord (some (True,.bool (dec (a=b)),St.mk [] [] [])))
  | _,_=>none
theorem eqWordS_ok:Ok0 Tryz.prog 68 eqWordS_get:=by
  intro _ _ _ _ _ h hp;unfold eqWordS_get at h;split at h
  · replace h:=gT h;obtain⟨rfl,h⟩:=h;replace h:=gT h;obtain⟨rfl,h⟩:=h;rename_i a b;cases h;refine fn_ok0 (ct:=[eqWord_con]) (L:=fun k=>bif Nat.beq k 4 then some (.g (⟨Nat,fun s g=>hd s [0,1] [(5,.int .i64 g)] s.rw,fun _ g=>g<=a.length/\∀j,j<g->a.getD j default=b.getD j default,fun g=>a.length-g⟩)) else none) Tryz_follows Tryz.func68 ?_;apply VC.thru (eqWordS_vc a b);kernel_rfl
  · cases h
def eqWordS_con:Con Tryz.prog:=.f0 68 [] true eqWordS_get (enters Tryz.func68 (by kernel_rfl) rfl) eqWordS_ok
theorem eqIntSSS_vc (a b:List Dat) :
 WFl (Ty.int i64).sl.sl a->WFl (Ty.int i64).sl.sl b->I64 (a.length:Int)->I64 (b.length:Int)->(decide ((a.length:Int)≠(b.length:Int))->dec (a=b)=false)/\(decide
 ((a.length:Int)≠(b.length:Int))=false->(∃x:Nat,(x<=a.length/\∀j:Nat,j<x->a.getD j default=b.getD j default)/\a=a/\b=b/\0=(x:Int))/\∀x:Nat,(x<=a.length/\∀
 (j:Nat),j<x->a.getD j default=b.getD j default)->I64 (a.length:Int)->(decide ((x:Int)<(a.length:Int))->(0<=(x:Int)/\(x:Int)<(a.length:Int))/\(0<=(x:Int)/\(x:Int) <
 (b.length:Int))/\True/\((!dec ((a.getD x default).kids=(b.getD x default).kids))=true->dec (a=b)=false)/\((!dec ((a.getD x default).kids=(b.getD x default).kids))=false->∃
 (x_1:Nat),((x_1<=a.length/\∀j:Nat,j<x_1->a.getD j default=b.getD j default)/\a.length-x_1<a.length-x)/\a=a/\b=b/\i64.wrap ((x:Int)+1)=(x_1:Int)))/\(decide ((x:Int) <
 (a.length:Int))=false->dec (a=b)=true)):=by
  intro hwa hwb;simp only[iv,kv,fv,nm,ne_eq,implies_true,eq_self];have h1:=hwa.1;refine fun _ _=>⟨fun h e=>h (by rw[e]),fun hl=>⟨⟨0,⟨by omega,fun j hj=>by omega⟩,rfl⟩,fun x hx _=>⟨fun hlt=>?_,fun hlt=>eqL_all (by omega) hx.2 (by omega)⟩⟩⟩
  have hwx:=wfl_get hwa (i:=x) (by omega);have hwy:=wfl_get hwb (i:=x) (by omega);exact⟨⟨by omega,by omega⟩,⟨by omega,by omega⟩,fun h e=>h ((sl_same hwx hwy).2 (by rw[e])),fun h=>⟨x+1,⟨⟨by omega,eqL_next hx.2 ((sl_same hwx hwy).1 h)⟩,by omega⟩,up_ok (n:=a.length) (by omega) (by omega)⟩⟩
def eqIntSSS_get (ins:List SV) (m:St):Option Got:=
  match ins,m with
  | [.sl (.sl (.sl (.int .i64))) a,.sl (.sl (.sl (.int .i64))) b],⟨[],[],[]⟩=>some (True,.bool (dec (a=b)),St.mk [] [] [])
  | _,_=>none
theorem eqIntSSS_ok:Ok0 Tryz.prog 69 eqIntSSS_get:=by
  intro _ _ _ _ _ h hp;unfold eqIntSSS_get at h;split at h
  · rename_i a b;cases h;refine fn_ok0 (ct:=[eqIntSS_con]) (L:=fun k=>bif Nat.beq k 4 then some (.g (⟨Nat,fun s g=>hd s [0,1] [(5,.int .i64 g)] s.rw,fun _ g=>g<=a.length/\∀j,j<g->a.getD j default=b.getD j default,fun g=>a.length-g⟩)) else none) Tryz_follows Tryz.func69 ?_;apply VC.thru (eqIntSSS_vc a b);kernel_rfl
  · cases h
def eqIntSSS_con:Con Tryz.prog:=.f0 69 [] true eqIntSSS_get (enters Tryz.func69 (by kernel_rfl) rfl) eqIntSSS_ok
theorem eqNet_vc (nodes nodes2 links links2 words words2 past past2:List Dat) :
 WFl TNode nodes->WFl Ty.bool links->WFl TWord words->WFl (Ty.int i64).sl.sl past->WFl TNode nodes2->WFl Ty.bool links2->WFl TWord words2->WFl (Ty.int i64).sl.sl past2->True/\((!dec (nodes =
 nodes2))=true->dec (nodes=nodes2/\links=links2/\words=words2/\past=past2)=false)/\((!dec (nodes=nodes2))=false->True/\((!dec (links=links2))=true->dec (nodes =
 nodes2/\links=links2/\words=words2/\past=past2)=false)/\((!dec (links=links2))=false->True/\((!dec (words=words2))=true->dec (nodes=nodes2/\links=links2/\words =
 words2/\past=past2)=false)/\((!dec (words=words2))=false->True/\((!dec (past=past2))=true->dec (nodes=nodes2/\links=links2/\words=words2/\past=past2)=false)/\((!dec
 (past=past2))=false->dec (nodes=nodes2/\links=links2/\words=words2/\past=past2)=true)))):=by
  intros
  simp only[iv,kv,fv,nm,ne_eq,implies_true,eq_self]
  (repeat' (first | assumption | intro _ | refine And.intro ?_ ?_))
  all_goals simp_all
def eqNet_get (ins:List SV) (m:St):Option Got:=
  match ins,m with
  | [.agg [.sl ty0 nodes,.sl .bool links,.sl ty1 words,.sl (.sl (.sl (.int .i64))) past],.agg [.sl ty2 nodes2,.sl .bool links2,.sl ty3 words2,.sl (.sl (.sl (.int .i64))) past2]],⟨[],[],[]⟩=>guardTy ty0 TNode (guardTy ty1 TWord (guardTy ty2 TNode (guardTy ty3 TWord (some (True,.bool (dec (nodes=nodes2/\links=links2/\words=words2/\past=past2)),St.mk [] [] [])))))
  | _,_=>none
theorem eqNet_ok:Ok0 Tryz.prog 23 eqNet_get:=by
  intro _ _ _ _ _ h hp;unfold eqNet_get at h;split at h
  · replace h:=gT h;obtain⟨rfl,h⟩:=h;replace h:=gT h;obtain⟨rfl,h⟩:=h;replace h:=gT h;obtain⟨rfl,h⟩:=h;replace h:=gT h;obtain⟨rfl,h⟩:=h;rename_i nodes links words past nodes2 links2 words2 past2;cases h;refine fn_ok0 (ct:=[eqNodeS_con,eqBoolS_con,eqWordS_con,eqIntSSS_con]) (L:=fun _=>none) Tryz_follows Tryz.func23 ?_;apply VC.thru (eqNet_vc nodes nodes2 links links2 words words2 past past2);kernel_rfl
  · cases h
def eqNet_con:Con Tryz.prog:=.f0 23 [] true eqNet_get (enters Tryz.func23 (by kernel_rfl) rfl) eqNet_ok
abbrev p3 (l:List Dat) (i j:Nat):List Dat:=((((l.getD i default).f 3).f j).f 0).kids
def mPr:MK:=.st [.int,.int]
def mEnt:MK:=.st [.int,.int,.int,.st [.st [.sl (.sl .int)],.st [.sl .int],.st [.sl mPr,.int,.int],.st [.sl mPr,.int]]]
def mNd:MK:=.st [.int,.sl mEnt,.int,.int,.int]
def mWd:MK:=.st [.int,.int,.int,.int,.int,.sl mEnt]
def Mb (m:MK) (e:Ty):Prop:=∀d k,k<=(markD m d k).2/\(markD m d k).2<=k+6*((1+tot e d:Nat):Int)
theorem mb_int:Mb .int (.int .i64):=fun d k=>by rw[tot_int];simp only[markD];omega
theorem mb_bool:Mb .bool .bool:=fun d k=>by rw[tot_bool];simp only[markD];omega
theorem mb_sum {m:MK} {e:Ty} (h:Mb m e) (l:List Dat) (k:Int):k<=(walkD (markD m) l k).2/\(walkD (markD m) l k).2<=k+6*((l.length+(l.map (tot e)).sum:Nat):Int):=by
  have h2:=walkD_bound (f:=markD m) (t:=fun d=>1+tot e d) 6 l k (fun d _ k=>h d k);have h3:∀l:List Dat,(l.map fun d=>1+tot e d).sum=l.length+(l.map (tot e)).sum:=by
    intro l
    induction l with
    | nil=>rfl
    | cons a l ih=>simp only[List.map_cons,List.sum_cons,List.length_cons,ih];omega
  rwa [h3] at h2
theorem mb_list {m:MK} {e:Ty} (h:Mb m e) {l:List Dat} {k:Int}:k<=(walkD (markD m) l k).2/\(walkD (markD m) l k).2<=k+6*((totL e l:Nat):Int):=mb_sum h l k
theorem mb_upto {m:MK} {e:Ty} (h:Mb m e) {l:List Dat} {k:Int} {i:Nat} (hi:i<=l.length):k<=uptoD (markD m) l k i/\uptoD (markD m) l k i<=k+6*((i+totP e l i:Nat):Int):=by
  have h2:=mb_sum h (l.take i) k;rw[List.length_take,Nat.min_eq_left hi] at h2;exact h2
theorem mb_sl {m:MK} {e:Ty} (h:Mb m e):Mb (.sl m) (.sl e):=fun d k=>by
  have h2:=mb_list h (l:=d.kids) (k:=k);rw[tot_is];simp only[markD];omega
theorem mb_pr:Mb mPr TPr:=fun d k=>by
  rw[show tot TPr d=0 by simp [tot,tots]];simp only[mPr,markD,markF];omega
theorem mb_ent:Mb mEnt TEnt:=fun d k=>by
  rw[tot_ent,show (markD mEnt d k).2=(walkD (markD mPr) (((d.f 3).f 3).f 0).kids ((walkD (markD mPr) (((d.f 3).f 2).f 0).kids ((walkD (markD .int) (((d.f 3).f 1).f 0).kids ((walkD (markD (.sl .int)) (((d.f 3).f 0).f 0).kids (k+1+1+1)).2)).2)).2+1+1)).2+1 from rfl]
  have:=mb_list (mb_sl mb_int) (l:=(((d.f 3).f 0).f 0).kids) (k:=k+1+1+1)
  have:=mb_list (mb_int) (l:=(((d.f 3).f 1).f 0).kids) (k:=(walkD (markD (.sl .int)) (((d.f 3).f 0).f 0).kids (k+1+1+1)).2)
  have:=mb_list (mb_pr) (l:=(((d.f 3).f 2).f 0).kids) (k:=(walkD (markD .int) (((d.f 3).f 1).f 0).kids ((walkD (markD (.sl .int)) (((d.f 3).f 0).f 0).kids (k+1+1+1)).2)).2)
  have:=mb_list (mb_pr) (l:=(((d.f 3).f 3).f 0).kids) (k:=(walkD (markD mPr) (((d.f 3).f 2).f 0).kids ((walkD (markD .int) (((d.f 3).f 1).f 0).kids ((walkD (markD (.sl .int)) (((d.f 3).f 0).f 0).kids (k+1+1+1)).2)).2)).2+1+1)
  omega
theorem mb_nd:Mb mNd TNode:=fun d k=>by
  rw[tot_nd,show (markD mNd d k).2=(walkD (markD mEnt) (d.f 1).kids (k+1)).2+1+1+1 from rfl]
  have:=mb_list (mb_ent) (l:=(d.f 1).kids) (k:=k+1)
  omega
theorem mb_wd:Mb mWd TWord:=fun d k=>by
  rw[tot_wd,show (markD mWd d k).2=(walkD (markD mEnt) (d.f 5).kids (k+1+1+1+1+1)).2 from rfl]
  have:=mb_list (mb_ent) (l:=(d.f 5).kids) (k:=k+1+1+1+1+1)
  omega
theorem mk_self {H:List Dat} {x:Nat} {d:Dat} (hx:x<H.length) (h:H.getD x default=d):H=H.set x d:=by
  rw[<- h,List.getD_eq_getElem?_getD,List.getElem?_eq_getElem hx];exact (List.set_getElem_self hx).symm
theorem mk_two {H D D2:List Dat} {x:Nat} {a b:Dat} (h:D=H.set x a) (h2:D2=D.set x b):D2=H.set x b:=by
  rw[h2,h,List.set_set]
theorem mk_all {H D D2:List Dat} {x:Nat} {a b:Dat} (hx:x<H.length) (h:D=H.set x a) (h2:D2=D.set x b):D2=H.set x b/\D2.length=H.length/\D2.getD x default=b:=by
  have h3:=mk_two h h2;refine⟨h3,by rw[h3,List.length_set],?_⟩;rw[h3,List.getD_eq_getElem?_getD,List.getElem?_set_self hx];rfl
theorem pr_lit {d:Dat} (h:WF TPr d):∃a b,d=.node [.int a,.int b]:=⟨_,_,(wf_pr h).1⟩
theorem ent_lit {d:Dat} (h:WF TEnt d):∃a b c r t p lo al q ra,d=.node [.int a,.int b,.int c,.node [.node [.node r],.node [.node t],.node [.node p,.int lo,.int al],.node [.node q,.int ra]]]:=⟨_,_,_,_,_,_,_,_,_,_,(ent_eta h).symm⟩
theorem ent_tot (a:Int) (b:Int) (c:Int) (r:List Dat) (t:List Dat) (p:List Dat) (lo:Int) (al:Int) (q:List Dat) (ra:Int):tot TEnt (.node [.int a,.int b,.int c,.node [.node [.node r],.node [.node t],.node [.node p,.int lo,.int al],.node [.node q,.int ra]]])=totL (.sl (.int .i64)) r+totL (.int .i64) t+totL TPr p+totL TPr q:=by rw[tot_ent];rfl
theorem nd_lit {d:Dat} (h:WF TNode d):∃a r b c e,d=.node [.int a,.node r,.int b,.int c,.int e]:=⟨_,_,_,_,_,(nd_eta h).symm⟩
theorem nd_tot (a:Int) (r:List Dat) (b:Int) (c:Int) (e:Int):tot TNode (.node [.int a,.node r,.int b,.int c,.int e])=totL TEnt r:=by rw[tot_nd];rfl
theorem wd_lit {d:Dat} (h:WF TWord d):∃a b c e y r,d=.node [.int a,.int b,.int c,.int e,.int y,.node r]:=⟨_,_,_,_,_,_,(wd_eta h).symm⟩
theorem wd_tot (a:Int) (b:Int) (c:Int) (e:Int) (y:Int) (r:List Dat):tot TWord (.node [.int a,.int b,.int c,.int e,.int y,.node r])=totL TEnt r:=by rw[tot_wd];rfl
theorem markIntS_vc (l:List Dat) (k0:Int) (hp:0<=k0/\k0+6*((totL (.int .i64) l:Nat):Int)<=1099511627776) :
 I64 k0->WFl (OT.im (Ty.int i64)).ty l->(∃x:Nat,x<=l.length/\k0=uptoD (markD MK.int) l k0 x/\0=(x:Int)/\l=halfD (markD MK.int) l k0 x)/\∀x:Nat,x<=l.length->I64 (↑(halfD
 (markD MK.int) l k0 x).length:Int)->(decide ((x:Int)<(↑(halfD (markD MK.int) l k0 x).length:Int))->(0<=(x:Int)/\(x:Int)<(↑(halfD (markD MK.int) l k0 x).length:Int))/\x <
 (halfD (markD MK.int) l k0 x).length/\∃x_1:Nat,(x_1<=l.length/\l.length-x_1<l.length-x)/\i64.wrap (uptoD (markD MK.int) l k0 x+(1:Int))=uptoD (markD MK.int) l k0
 x_1/\i64.wrap ((x:Int)+1)=(x_1:Int)/\(halfD (markD MK.int) l k0 x).set x (Dat.int (uptoD (markD MK.int) l k0 x))=halfD (markD MK.int) l k0 x_1)/\(decide ((x:Int)<(↑(halfD
 (markD MK.int) l k0 x).length:Int))=false->uptoD (markD MK.int) l k0 x=(walkD (markD MK.int) l k0).snd/\halfD (markD MK.int) l k0 x=(walkD (markD MK.int) l k0).fst):=by
  intro _ hw0;have hw:WFl (.int .i64) l:=hw0;simp only[iv,kv,fv,nm,ne_eq,implies_true,eq_self];have hl1:=hw.1;have hl2:=totL_length (.int .i64) l;refine⟨⟨0,by omega,rfl,rfl,rfl⟩,fun x hx _=>⟨fun hlt=>?_,fun hlt=>?_⟩⟩
  rotate_left
  · rw[halfD_length] at hlt;exact⟨uptoD_all _ _ (by omega),halfD_all _ _ (by omega)⟩
  have hL:(halfD (markD .int) l k0 x).length=l.length:=halfD_length _ _ _;rw[hL] at hlt;have hxl:x<l.length:=by omega
  have a0:=halfD_at (markD .int) k0 hxl;have hwx:=wfl_get hw hxl;have hB:=mb_upto mb_int (l:=l) (k:=k0) hx;have hT:=totP_next (e:=(.int .i64)) hxl;have hT2:=totP_le (e:=(.int .i64)) l (x+1);have hN1:=halfD_next (markD .int) k0 hxl;have hN2:=uptoD_next (markD .int) k0 hxl;generalize l.getD x default=d at a0 hwx hT hN1 hN2;generalize halfD (markD .int) l k0 x=H at hL a0 hN1 ⊢;generalize uptoD (markD .int) l k0 x=u at hB hN1 hN2 ⊢;rw[tot_int] at hT;rw[wrap_ok (n:=u+1) (by omega) (by omega)];exact⟨⟨by omega,by omega⟩,by omega,x+1,⟨by omega,by omega⟩,hN2.symm,up_ok (n:=l.length) hxl (by omega),hN1.symm⟩
def markIntS_get (ins:List SV) (m:St):Option Got:=
  match ins,m with
  | [.own 0,.int .i64 k0],⟨[],[],[⟨3,(.im (.int .i64)),l,0,true⟩]⟩=>some (0<=k0/\k0+6*((totL (.int .i64) l:Nat):Int)<=1099511627776,.int .i64 (walkD (markD .int) l k0).2,St.mk [] [] [⟨3,(.im (.int .i64)),(walkD (markD .int) l k0).1,0,true⟩])
  | _,_=>none
theorem markIntS_ok:Ok0 Tryz.prog 27 markIntS_get:=by
  intro _ _ _ _ _ h hp;unfold markIntS_get at h;split at h
  · rename_i k0 l;cases h;refine fn_ok0 (ct:=[]) (L:=fun k=>bif Nat.beq k 2 then some (.g (⟨Nat,fun s g=>hd s [0] [(1,.int .i64 (uptoD (markD .int) l k0 g)),(5,.int .i64 g)] [⟨3,(.im (.int .i64)),halfD (markD .int) l k0 g,0,true⟩],fun _ g=>g<=l.length,fun g=>l.length-g⟩)) else none) Tryz_follows Tryz.func27 ?_;apply VC.thru (markIntS_vc l k0 hp);kernel_rfl
  · cases h
def markIntS_con:Con Tryz.prog:=.f0 27 [.lend,.d] true markIntS_get (enters Tryz.func27 (by kernel_rfl) rfl) markIntS_ok
theorem markIntSS_vc (l:List Dat) (k0:Int) (hp:0<=k0/\k0+6*((totL (.sl (.int .i64)) l:Nat):Int)<=1099511627776) :
 I64 k0->WFl (OT.sl 3 (OT.im (Ty.int i64))).ty l->(∃x:Nat,x<=l.length/\k0=uptoD (markD MK.int.sl) l k0 x/\0=(x:Int)/\l=halfD (markD MK.int.sl) l k0 x)/\∀
 (x:Nat),x<=l.length->I64 (↑(halfD (markD MK.int.sl) l k0 x).length:Int)->(decide ((x:Int)<(↑(halfD (markD MK.int.sl) l k0 x).length:Int))->(0<=(x:Int)/\(x:Int)<(↑(halfD
 (markD MK.int.sl) l k0 x).length:Int))/\x<(halfD (markD MK.int.sl) l k0 x).length/\((0<=uptoD (markD MK.int.sl) l k0 x/\uptoD (markD MK.int.sl) l k0 x+(6:Int)*(↑(totL
 (Ty.int i64) ((halfD (markD MK.int.sl) l k0 x).getD x default).kids):Int)<=1099511627776)/\x<(halfD (markD MK.int.sl) l k0 x).length/\True)/\∀x_1:List Dat,x_1=(halfD
 (markD MK.int.sl) l k0 x).set x (Dat.node (walkD (markD MK.int) ((halfD (markD MK.int.sl) l k0 x).getD x default).kids (uptoD (markD MK.int.sl) l k0 x)).fst)->∃x_2:Nat,
 (x_2<=l.length/\l.length-x_2<l.length-x)/\(walkD (markD MK.int) ((halfD (markD MK.int.sl) l k0 x).getD x default).kids (uptoD (markD MK.int.sl) l k0 x)).snd=uptoD (markD
 MK.int.sl) l k0 x_2/\i64.wrap ((x:Int)+1)=(x_2:Int)/\x_1=halfD (markD MK.int.sl) l k0 x_2)/\(decide ((x:Int)<(↑(halfD (markD MK.int.sl) l k0 x).length:Int))=false->uptoD
 (markD MK.int.sl) l k0 x=(walkD (markD MK.int.sl) l k0).snd/\halfD (markD MK.int.sl) l k0 x=(walkD (markD MK.int.sl) l k0).fst):=by
  intro _ hw0;have hw:WFl (.sl (.int .i64)) l:=hw0;simp only[iv,kv,fv,nm,ne_eq,implies_true,eq_self];have hl1:=hw.1;have hl2:=totL_length (.sl (.int .i64)) l;refine⟨⟨0,by omega,rfl,rfl,rfl⟩,fun x hx _=>⟨fun hlt=>?_,fun hlt=>?_⟩⟩
  rotate_left
  · rw[halfD_length] at hlt;exact⟨uptoD_all _ _ (by omega),halfD_all _ _ (by omega)⟩
  have hL:(halfD (markD (.sl .int)) l k0 x).length=l.length:=halfD_length _ _ _;rw[hL] at hlt;have hxl:x<l.length:=by omega
  have a0:=halfD_at (markD (.sl .int)) k0 hxl;have hwx:=wfl_get hw hxl;have hB:=mb_upto (mb_sl mb_int) (l:=l) (k:=k0) hx;have hT:=totP_next (e:=(.sl (.int .i64))) hxl;have hT2:=totP_le (e:=(.sl (.int .i64))) l (x+1);have hN1:=halfD_next (markD (.sl .int)) k0 hxl;have hN2:=uptoD_next (markD (.sl .int)) k0 hxl;generalize l.getD x default=d at a0 hwx hT hN1 hN2;rw[show tot (.sl (.int .i64)) d=_ by rw[tot_is]] at hT;generalize halfD (markD (.sl .int)) l k0 x=H at hL a0 hN1 ⊢;generalize uptoD (markD (.sl .int)) l k0 x=u at hB hN1 hN2 ⊢;have E0:=mk_self (by omega) a0;simp only[a0];have b0:=mb_list (mb_int) (l:=d.kids) (k:=u)
  refine⟨⟨by omega,by omega⟩,by omega,⟨⟨by omega,by omega⟩,by omega⟩,fun D1 e1=>?_⟩;obtain⟨E1,l1,a1⟩:=mk_all (b:=.node (walkD (markD .int) d.kids (u)).1) (by omega) E0 e1;refine⟨x+1,⟨by omega,by omega⟩,?_,up_ok (n:=l.length) hxl (by omega),?_⟩
  · rw[hN2];rfl
  · rw[hN1];exact E1
def markIntSS_get (ins:List SV) (m:St):Option Got:=
  match ins,m with
  | [.own 0,.int .i64 k0],⟨[],[],[⟨34,(.sl 3 (.im (.int .i64))),l,0,true⟩]⟩=>some (0<=k0/\k0+6*((totL (.sl (.int .i64)) l:Nat):Int)<=1099511627776,.int .i64 (walkD (markD (.sl .int)) l k0).2,St.mk [] [] [⟨34,(.sl 3 (.im (.int .i64))),(walkD (markD (.sl .int)) l k0).1,0,true⟩])
  | _,_=>none
theorem markIntSS_ok:Ok0 Tryz.prog 75 markIntSS_get:=by
  intro _ _ _ _ _ h hp;unfold markIntSS_get at h;split at h
  · rename_i k0 l;cases h;refine fn_ok0 (ct:=[markIntS_con]) (L:=fun k=>bif Nat.beq k 2 then some (.g (⟨Nat,fun s g=>hd s [0] [(1,.int .i64 (uptoD (markD (.sl .int)) l k0 g)),(5,.int .i64 g)] [⟨34,(.sl 3 (.im (.int .i64))),halfD (markD (.sl .int)) l k0 g,0,true⟩],fun _ g=>g<=l.length,fun g=>l.length-g⟩)) else none) Tryz_follows Tryz.func75 ?_;apply VC.thru (markIntSS_vc l k0 hp);kernel_rfl
  · cases h
def markIntSS_con:Con Tryz.prog:=.f0 75 [.lend,.d] true markIntSS_get (enters Tryz.func75 (by kernel_rfl) rfl) markIntSS_ok
def markRough_get (ins:List SV) (m:St):Option Got:=
  match ins,m with
  | [.agg [.own 0],.int .i64 k0],⟨[],[],[⟨34,(.sl 3 (.im (.int .i64))),rows,0,true⟩]⟩=>some (0<=k0/\k0+6*((totL (.sl (.int .i64)) rows:Nat):Int)<=1099511627776,.int .i64 (walkD (markD (.sl .int)) rows k0).2,St.mk [] [] [⟨34,(.sl 3 (.im (.int .i64))),(walkD (markD (.sl .int)) rows k0).1,0,true⟩])
  | _,_=>none
theorem markPairS_vc (l:List Dat) (k0:Int) (hp:0<=k0/\k0+6*((totL TPr l:Nat):Int)<=1099511627776) :
 I64 k0->WFl (OT.im TPr).ty l->(∃x:Nat,x<=l.length/\k0=uptoD (markD mPr) l k0 x/\0=(x:Int)/\l=halfD (markD mPr) l k0 x)/\∀x:Nat,x<=l.length->I64 (↑(halfD (markD mPr) l k0
 x).length:Int)->(decide ((x:Int)<(↑(halfD (markD mPr) l k0 x).length:Int))->(0<=(x:Int)/\(x:Int)<(↑(halfD (markD mPr) l k0 x).length:Int))/\x<(halfD (markD mPr) l k0
 x).length/\∀x_1:List Dat,x_1=(halfD (markD mPr) l k0 x).set x (((halfD (markD mPr) l k0 x).getD x default).set 0 (Dat.int (uptoD (markD mPr) l k0 x)))->(0<=(x:Int)/\(x:Int) <
 (x_1.length:Int))/\x<x_1.length/\∀x_2:List Dat,x_2=x_1.set x ((x_1.getD x default).set 1 (Dat.int (i64.wrap (uptoD (markD mPr) l k0 x+(1:Int)))))->∃x_3:Nat,
 (x_3<=l.length/\l.length-x_3<l.length-x)/\i64.wrap (i64.wrap (uptoD (markD mPr) l k0 x+(1:Int))+(1:Int))=uptoD (markD mPr) l k0 x_3/\i64.wrap ((x:Int)+1)=(x_3:Int)/\x_2
 = halfD (markD mPr) l k0 x_3)/\(decide ((x:Int)<(↑(halfD (markD mPr) l k0 x).length:Int))=false->uptoD (markD mPr) l k0 x=(walkD (markD mPr) l k0).snd/\halfD (markD mPr) l k0 x
 = (walkD (markD mPr) l k0).fst):=by
  intro _ hw0;have hw:WFl TPr l:=hw0;simp only[iv,kv,fv,nm,ne_eq,implies_true,eq_self];have hl1:=hw.1;have hl2:=totL_length TPr l;refine⟨⟨0,by omega,rfl,rfl,rfl⟩,fun x hx _=>⟨fun hlt=>?_,fun hlt=>?_⟩⟩
  rotate_left
  · rw[halfD_length] at hlt;exact⟨uptoD_all _ _ (by omega),halfD_all _ _ (by omega)⟩
  have hL:(halfD (markD mPr) l k0 x).length=l.length:=halfD_length _ _ _;rw[hL] at hlt;have hxl:x<l.length:=by omega
  have a0:=halfD_at (markD mPr) k0 hxl;have hwx:=wfl_get hw hxl;have hB:=mb_upto mb_pr (l:=l) (k:=k0) hx;have hT:=totP_next (e:=TPr) hxl;have hT2:=totP_le (e:=TPr) l (x+1);have hN1:=halfD_next (markD mPr) k0 hxl;have hN2:=uptoD_next (markD mPr) k0 hxl;generalize l.getD x default=d at a0 hwx hT hN1 hN2;generalize halfD (markD mPr) l k0 x=H at hL a0 hN1 ⊢;generalize uptoD (markD mPr) l k0 x=u at hB hN1 hN2 ⊢;obtain⟨a,b,rfl⟩:=pr_lit hwx;rw[show tot TPr _=0 by simp [tot,tots]] at hT;have E0:=mk_self (by omega) a0;have w0:i64.wrap (u+1)=u+1:=wrap_ok (by omega) (by omega);simp only[w0];refine⟨⟨by omega,by omega⟩,by omega,fun D1 e1=>?_⟩
  rw[a0] at e1;obtain⟨E1,l1,a1⟩:=mk_all (b:=.node [.int u,.int b]) (by omega) E0 e1;have w1:i64.wrap (u+1+1)=u+1+1:=wrap_ok (by omega) (by omega);simp only[w1];refine⟨⟨by omega,by omega⟩,by omega,fun D2 e2=>?_⟩;rw[a1] at e2;obtain⟨E2,l2,a2⟩:=mk_all (b:=.node [.int u,.int (u+1)]) (by omega) E1 e2;refine⟨x+1,⟨by omega,by omega⟩,?_,up_ok (n:=l.length) hxl (by omega),?_⟩
  · rw[hN2];rfl
  · rw[hN1];exact E2
def markPairS_get (ins:List SV) (m:St):Option Got:=
  match ins,m with
  | [.own 0,.int .i64 k0],⟨[],[],[⟨163,(.im ty0),l,0,true⟩]⟩=>guardTy ty0 TPr (some (0<=k0/\k0+6*((totL TPr l:Nat):Int)<=1099511627776,.int .i64 (walkD (markD mPr) l k0).2,St.mk [] [] [⟨163,(.im TPr),(walkD (markD mPr) l k0).1,0,true⟩]))
  | _,_=>none
theorem markPairS_ok:Ok0 Tryz.prog 76 markPairS_get:=by
  intro _ _ _ _ _ h hp;unfold markPairS_get at h;split at h
  · replace h:=gT h;obtain⟨rfl,h⟩:=h;rename_i k0 l;cases h;refine fn_ok0 (ct:=[]) (L:=fun k=>bif Nat.beq k 2 then some (.g (⟨Nat,fun s g=>hd s [0] [(1,.int .i64 (uptoD (markD mPr) l k0 g)),(5,.int .i64 g)] [⟨163,(.im TPr),halfD (markD mPr) l k0 g,0,true⟩],fun _ g=>g<=l.length,fun g=>l.length-g⟩)) else none) Tryz_follows Tryz.func76 ?_;apply VC.thru (markPairS_vc l k0 hp);kernel_rfl
  · cases h
def markPairS_con:Con Tryz.prog:=.f0 76 [.lend,.d] true markPairS_get (enters Tryz.func76 (by kernel_rfl) rfl) markPairS_ok
theorem markKnotS_vc (l:List Dat) (k0:Int) (hp:0<=k0/\k0+6*((totL TPr l:Nat):Int)<=1099511627776) :
 I64 k0->WFl (OT.im TPr).ty l->(∃x:Nat,x<=l.length/\k0=uptoD (markD mPr) l k0 x/\0=(x:Int)/\l=halfD (markD mPr) l k0 x)/\∀x:Nat,x<=l.length->I64 (↑(halfD (markD mPr) l k0
 x).length:Int)->(decide ((x:Int)<(↑(halfD (markD mPr) l k0 x).length:Int))->(0<=(x:Int)/\(x:Int)<(↑(halfD (markD mPr) l k0 x).length:Int))/\x<(halfD (markD mPr) l k0
 x).length/\∀x_1:List Dat,x_1=(halfD (markD mPr) l k0 x).set x (((halfD (markD mPr) l k0 x).getD x default).set 0 (Dat.int (uptoD (markD mPr) l k0 x)))->(0<=(x:Int)/\(x:Int) <
 (x_1.length:Int))/\x<x_1.length/\∀x_2:List Dat,x_2=x_1.set x ((x_1.getD x default).set 1 (Dat.int (i64.wrap (uptoD (markD mPr) l k0 x+(1:Int)))))->∃x_3:Nat,
 (x_3<=l.length/\l.length-x_3<l.length-x)/\i64.wrap (i64.wrap (uptoD (markD mPr) l k0 x+(1:Int))+(1:Int))=uptoD (markD mPr) l k0 x_3/\i64.wrap ((x:Int)+1)=(x_3:Int)/\x_2
 = halfD (markD mPr) l k0 x_3)/\(decide ((x:Int)<(↑(halfD (markD mPr) l k0 x).length:Int))=false->uptoD (markD mPr) l k0 x=(walkD (markD mPr) l k0).snd/\halfD (markD mPr) l k0 x
 = (walkD (markD mPr) l k0).fst):=by
  intro _ hw0;have hw:WFl TPr l:=hw0;simp only[iv,kv,fv,nm,ne_eq,implies_true,eq_self];have hl1:=hw.1;have hl2:=totL_length TPr l;refine⟨⟨0,by omega,rfl,rfl,rfl⟩,fun x hx _=>⟨fun hlt=>?_,fun hlt=>?_⟩⟩
  rotate_left
  · rw[halfD_length] at hlt;exact⟨uptoD_all _ _ (by omega),halfD_all _ _ (by omega)⟩
  have hL:(halfD (markD mPr) l k0 x).length=l.length:=halfD_length _ _ _;rw[hL] at hlt;have hxl:x<l.length:=by omega
  have a0:=halfD_at (markD mPr) k0 hxl;have hwx:=wfl_get hw hxl;have hB:=mb_upto mb_pr (l:=l) (k:=k0) hx;have hT:=totP_next (e:=TPr) hxl;have hT2:=totP_le (e:=TPr) l (x+1);have hN1:=halfD_next (markD mPr) k0 hxl;have hN2:=uptoD_next (markD mPr) k0 hxl;generalize l.getD x default=d at a0 hwx hT hN1 hN2;generalize halfD (markD mPr) l k0 x=H at hL a0 hN1 ⊢;generalize uptoD (markD mPr) l k0 x=u at hB hN1 hN2 ⊢;obtain⟨a,b,rfl⟩:=pr_lit hwx;rw[show tot TPr _=0 by simp [tot,tots]] at hT;have E0:=mk_self (by omega) a0;have w0:i64.wrap (u+1)=u+1:=wrap_ok (by omega) (by omega);simp only[w0];refine⟨⟨by omega,by omega⟩,by omega,fun D1 e1=>?_⟩
  rw[a0] at e1;obtain⟨E1,l1,a1⟩:=mk_all (b:=.node [.int u,.int b]) (by omega) E0 e1;have w1:i64.wrap (u+1+1)=u+1+1:=wrap_ok (by omega) (by omega);simp only[w1];refine⟨⟨by omega,by omega⟩,by omega,fun D2 e2=>?_⟩;rw[a1] at e2;obtain⟨E2,l2,a2⟩:=mk_all (b:=.node [.int u,.int (u+1)]) (by omega) E1 e2;refine⟨x+1,⟨by omega,by omega⟩,?_,up_ok (n:=l.length) hxl (by omega),?_⟩
  · rw[hN2];rfl
  · rw[hN1];exact E2
def markKnotS_get (ins:List SV) (m:St):Option Got:=
  match ins,m with
  | [.own 0,.int .i64 k0],⟨[],[],[⟨165,(.im ty0),l,0,true⟩]⟩=>guardTy ty0 TPr (some (0<=k0/\k0+6*((totL TPr l:Nat):Int)<=1099511627776,.int .i64 (walkD (markD mPr) l k0).2,St.mk [] [] [⟨165,(.im TPr),(walkD (markD mPr) l k0).1,0,true⟩]))
  | _,_=>none
theorem markKnotS_ok:Ok0 Tryz.prog 77 markKnotS_get:=by
  intro _ _ _ _ _ h hp;unfold markKnotS_get at h;split at h
  · replace h:=gT h;obtain⟨rfl,h⟩:=h;rename_i k0 l;cases h;refine fn_ok0 (ct:=[]) (L:=fun k=>bif Nat.beq k 2 then some (.g (⟨Nat,fun s g=>hd s [0] [(1,.int .i64 (uptoD (markD mPr) l k0 g)),(5,.int .i64 g)] [⟨165,(.im TPr),halfD (markD mPr) l k0 g,0,true⟩],fun _ g=>g<=l.length,fun g=>l.length-g⟩)) else none) Tryz_follows Tryz.func77 ?_;apply VC.thru (markKnotS_vc l k0 hp);kernel_rfl
  · cases h
def markKnotS_con:Con Tryz.prog:=.f0 77 [.lend,.d] true markKnotS_get (enters Tryz.func77 (by kernel_rfl) rfl) markKnotS_ok
theorem markEntryS_vc (l:List Dat) (k0:Int) (hp:0<=k0/\k0+6*((totL TEnt l:Nat):Int)<=1099511627776) :
 I64 k0->WFl OEnt.ty l->(∃x:Nat,x<=l.length/\k0=uptoD (markD mEnt) l k0 x/\0=(x:Int)/\l=halfD (markD mEnt) l k0 x)/\∀x:Nat,x<=l.length->I64 (↑(halfD (markD mEnt) l k0
 x).length:Int)->(decide ((x:Int)<(↑(halfD (markD mEnt) l k0 x).length:Int))->(0<=(x:Int)/\(x:Int)<(↑(halfD (markD mEnt) l k0 x).length:Int))/\x<(halfD (markD mEnt) l k0
 x).length/\∀x_1:List Dat,x_1=(halfD (markD mEnt) l k0 x).set x (((halfD (markD mEnt) l k0 x).getD x default).set 0 (Dat.int (uptoD (markD mEnt) l k0 x)))->(0<=(x:Int)/\(x:Int) <
 (x_1.length:Int))/\x<x_1.length/\∀x_2:List Dat,x_2=x_1.set x ((x_1.getD x default).set 1 (Dat.int (i64.wrap (uptoD (markD mEnt) l k0 x+(1:Int)))))->(0<=(x:Int)/\(x:Int) <
 (x_2.length:Int))/\x<x_2.length/\∀x_3:List Dat,x_3=x_2.set x ((x_2.getD x default).set 2 (Dat.int (i64.wrap (i64.wrap (uptoD (markD mEnt) l k0 x+(1:Int)) +
 (1:Int)))))->(0<=(x:Int)/\(x:Int)<(x_3.length:Int))/\x<x_3.length/\((0<=i64.wrap (i64.wrap (i64.wrap (uptoD (markD mEnt) l k0 x+(1:Int))+(1:Int))+(1:Int))/\i64.wrap
 (i64.wrap (i64.wrap (uptoD (markD mEnt) l k0 x+(1:Int))+(1:Int))+(1:Int))+(6:Int)*(↑(totL (Ty.int i64).sl (p3 x_3 x 0)):Int)<=1099511627776)/\x<x_3.length/\True)/\∀
 (x_4:List Dat),x_4=x_3.set x ((x_3.getD x default).set 3 (((x_3.getD x default).f 3).set 0 ((((x_3.getD x default).f 3).f 0).set 0 (Dat.node (walkD (markD MK.int.sl) (p3 x_3 x
 0) (i64.wrap (i64.wrap (i64.wrap (uptoD (markD mEnt) l k0 x+(1:Int))+(1:Int))+(1:Int)))).fst))))->(0<=(x:Int)/\(x:Int)<(x_4.length:Int))/\x<x_4.length/\((0<=(walkD (markD
 MK.int.sl) (p3 x_3 x 0) (i64.wrap (i64.wrap (i64.wrap (uptoD (markD mEnt) l k0 x+(1:Int))+(1:Int))+(1:Int)))).snd/\(walkD (markD MK.int.sl) (p3 x_3 x 0) (i64.wrap (i64.wrap
 (i64.wrap (uptoD (markD mEnt) l k0 x+(1:Int))+(1:Int))+(1:Int)))).snd+(6:Int)*(↑(totL (Ty.int i64) (p3 x_4 x 1)):Int)<=1099511627776)/\x<x_4.length/\True)/\∀
 (x_5:List Dat),x_5=x_4.set x ((x_4.getD x default).set 3 (((x_4.getD x default).f 3).set 1 ((((x_4.getD x default).f 3).f 1).set 0 (Dat.node (walkD (markD MK.int) (p3 x_4 x 1)
 (walkD (markD MK.int.sl) (p3 x_3 x 0) (i64.wrap (i64.wrap (i64.wrap (uptoD (markD mEnt) l k0 x+(1:Int))+(1:Int))+(1:Int)))).snd).fst))))->(0<=(x:Int)/\(x:Int) <
 (x_5.length:Int))/\x<x_5.length/\((0<=(walkD (markD MK.int) (p3 x_4 x 1) (walkD (markD MK.int.sl) (p3 x_3 x 0) (i64.wrap (i64.wrap (i64.wrap (uptoD (markD mEnt) l k0 x +
 (1:Int))+(1:Int))+(1:Int)))).snd).snd/\(walkD (markD MK.int) (p3 x_4 x 1) (walkD (markD MK.int.sl) (p3 x_3 x 0) (i64.wrap (i64.wrap (i64.wrap (uptoD (markD mEnt) l k0 x +
 (1:Int))+(1:Int))+(1:Int)))).snd).snd+(6:Int)*(↑(totL TPr (p3 x_5 x 2)):Int)<=1099511627776)/\x<x_5.length/\True)/\∀x_6:List Dat,x_6=x_5.set x ((x_5.getD x
 default).set 3 (((x_5.getD x default).f 3).set 2 ((((x_5.getD x default).f 3).f 2).set 0 (Dat.node (walkD (markD mPr) (p3 x_5 x 2) (walkD (markD MK.int) (p3 x_4 x 1) (walkD (markD
 MK.int.sl) (p3 x_3 x 0) (i64.wrap (i64.wrap (i64.wrap (uptoD (markD mEnt) l k0 x+(1:Int))+(1:Int))+(1:Int)))).snd).snd).fst))))->(0<=(x:Int)/\(x:Int)<(x_6.length:Int))/\x <
 x_6.length/\∀x_7:List Dat,x_7=x_6.set x ((x_6.getD x default).set 3 (((x_6.getD x default).f 3).set 2 ((((x_6.getD x default).f 3).f 2).set 1 (Dat.int (walkD (markD mPr) (p3
 x_5 x 2) (walkD (markD MK.int) (p3 x_4 x 1) (walkD (markD MK.int.sl) (p3 x_3 x 0) (i64.wrap (i64.wrap (i64.wrap (uptoD (markD mEnt) l k0 x+(1:Int))+(1:Int)) +
 (1:Int)))).snd).snd).snd))))->(0<=(x:Int)/\(x:Int)<(x_7.length:Int))/\x<x_7.length/\∀x_8:List Dat,x_8=x_7.set x ((x_7.getD x default).set 3 (((x_7.getD x default).f 3).set 2
 ((((x_7.getD x default).f 3).f 2).set 2 (Dat.int (i64.wrap ((walkD (markD mPr) (p3 x_5 x 2) (walkD (markD MK.int) (p3 x_4 x 1) (walkD (markD MK.int.sl) (p3 x_3 x 0) (i64.wrap
 (i64.wrap (i64.wrap (uptoD (markD mEnt) l k0 x+(1:Int))+(1:Int))+(1:Int)))).snd).snd).snd+(1:Int)))))))->(0<=(x:Int)/\(x:Int)<(x_8.length:Int))/\x <
 x_8.length/\((0<=i64.wrap (i64.wrap ((walkD (markD mPr) (p3 x_5 x 2) (walkD (markD MK.int) (p3 x_4 x 1) (walkD (markD MK.int.sl) (p3 x_3 x 0) (i64.wrap (i64.wrap (i64.wrap
 (uptoD (markD mEnt) l k0 x+(1:Int))+(1:Int))+(1:Int)))).snd).snd).snd+(1:Int))+(1:Int))/\i64.wrap (i64.wrap ((walkD (markD mPr) (p3 x_5 x 2) (walkD (markD MK.int) (p3 x_4
 x 1) (walkD (markD MK.int.sl) (p3 x_3 x 0) (i64.wrap (i64.wrap (i64.wrap (uptoD (markD mEnt) l k0 x+(1:Int))+(1:Int))+(1:Int)))).snd).snd).snd+(1:Int))+(1:Int))+(6:Int)
 * (↑(totL TPr (p3 x_8 x 3)):Int)<=1099511627776)/\x<x_8.length/\True)/\∀x_9:List Dat,x_9=x_8.set x ((x_8.getD x default).set 3 (((x_8.getD x default).f 3).set 3
 ((((x_8.getD x default).f 3).f 3).set 0 (Dat.node (walkD (markD mPr) (p3 x_8 x 3) (i64.wrap (i64.wrap ((walkD (markD mPr) (p3 x_5 x 2) (walkD (markD MK.int) (p3 x_4 x 1) (walkD
 (markD MK.int.sl) (p3 x_3 x 0) (i64.wrap (i64.wrap (i64.wrap (uptoD (markD mEnt) l k0 x+(1:Int))+(1:Int))+(1:Int)))).snd).snd).snd+(1:Int)) +
 (1:Int)))).fst))))->(0<=(x:Int)/\(x:Int)<(x_9.length:Int))/\x<x_9.length/\∀x_10:List Dat,x_10=x_9.set x ((x_9.getD x default).set 3 (((x_9.getD x default).f 3).set 3
 ((((x_9.getD x default).f 3).f 3).set 1 (Dat.int (walkD (markD mPr) (p3 x_8 x 3) (i64.wrap (i64.wrap ((walkD (markD mPr) (p3 x_5 x 2) (walkD (markD MK.int) (p3 x_4 x 1) (walkD
 (markD MK.int.sl) (p3 x_3 x 0) (i64.wrap (i64.wrap (i64.wrap (uptoD (markD mEnt) l k0 x+(1:Int))+(1:Int))+(1:Int)))).snd).snd).snd+(1:Int))+(1:Int)))).snd))))->∃
 (x_11:Nat),(x_11<=l.length/\l.length-x_11<l.length-x)/\i64.wrap ((walkD (markD mPr) (p3 x_8 x 3) (i64.wrap (i64.wrap ((walkD (markD mPr) (p3 x_5 x 2) (walkD (markD MK.int) (p3
 x_4 x 1) (walkD (markD MK.int.sl) (p3 x_3 x 0) (i64.wrap (i64.wrap (i64.wrap (uptoD (markD mEnt) l k0 x+(1:Int))+(1:Int))+(1:Int)))).snd).snd).snd+(1:Int))+(1:Int)))).snd
 + (1:Int))=uptoD (markD mEnt) l k0 x_11/\i64.wrap ((x:Int)+1)=(x_11:Int)/\x_10=halfD (markD mEnt) l k0 x_11)/\(decide ((x:Int)<(↑(halfD (markD mEnt) l k0 x).length:Int)) =
 false->uptoD (markD mEnt) l k0 x=(walkD (markD mEnt) l k0).snd/\halfD (markD mEnt) l k0 x=(walkD (markD mEnt) l k0).fst):=by
  intro _ hw0;have hw:WFl TEnt l:=hw0;simp only[p3];simp only[iv,kv,fv,nm,ne_eq,implies_true,eq_self];have hl1:=hw.1;have hl2:=totL_length TEnt l;refine⟨⟨0,by omega,rfl,rfl,rfl⟩,fun x hx _=>⟨fun hlt=>?_,fun hlt=>?_⟩⟩
  rotate_left
  · rw[halfD_length] at hlt;exact⟨uptoD_all _ _ (by omega),halfD_all _ _ (by omega)⟩
  have hL:(halfD (markD mEnt) l k0 x).length=l.length:=halfD_length _ _ _;rw[hL] at hlt;have hxl:x<l.length:=by omega
  have a0:=halfD_at (markD mEnt) k0 hxl;have hwx:=wfl_get hw hxl;have hB:=mb_upto mb_ent (l:=l) (k:=k0) hx;have hT:=totP_next (e:=TEnt) hxl;have hT2:=totP_le (e:=TEnt) l (x+1);have hN1:=halfD_next (markD mEnt) k0 hxl;have hN2:=uptoD_next (markD mEnt) k0 hxl;generalize l.getD x default=d at a0 hwx hT hN1 hN2;generalize halfD (markD mEnt) l k0 x=H at hL a0 hN1 ⊢;generalize uptoD (markD mEnt) l k0 x=u at hB hN1 hN2 ⊢;obtain⟨a,b,c,r,t,p,lo,al,q,ra,rfl⟩:=ent_lit hwx;rw[ent_tot] at hT;have E0:=mk_self (by omega) a0;have w0:i64.wrap (u+1)=u+1:=wrap_ok (by omega) (by omega);simp only[w0];refine⟨⟨by omega,by omega⟩,by omega,fun D1 e1=>?_⟩
  rw[a0] at e1;obtain⟨E1,l1,a1⟩:=mk_all (b:=.node [.int u,.int b,.int c,.node [.node [.node r],.node [.node t],.node [.node p,.int lo,.int al],.node [.node q,.int ra]]]) (by omega) E0 e1;have w1:i64.wrap (u+1+1)=u+1+1:=wrap_ok (by omega) (by omega);simp only[w1];refine⟨⟨by omega,by omega⟩,by omega,fun D2 e2=>?_⟩;rw[a1] at e2;obtain⟨E2,l2,a2⟩:=mk_all (b:=.node [.int u,.int (u+1),.int c,.node [.node [.node r],.node [.node t],.node [.node p,.int lo,.int al],.node [.node q,.int ra]]]) (by omega) E1 e2;have w2:i64.wrap (u+1+1+1)=u+1+1+1:=wrap_ok (by omega) (by omega);simp only[w2];refine⟨⟨by omega,by omega⟩,by omega,fun D3 e3=>?_⟩
  rw[a2] at e3;obtain⟨E3,l3,a3⟩:=mk_all (b:=.node [.int u,.int (u+1),.int (u+1+1),.node [.node [.node r],.node [.node t],.node [.node p,.int lo,.int al],.node [.node q,.int ra]]]) (by omega) E2 e3;have r3:(((((D3.getD x default).f 3).f 0).f 0)).kids=r:=by rw[a3];rfl
  simp only[r3];have b3:=mb_list (mb_sl mb_int) (l:=r) (k:=u+1+1+1);refine⟨⟨by omega,by omega⟩,by omega,⟨⟨by omega,by omega⟩,by omega⟩,fun D4 e4=>?_⟩;rw[a3] at e4;obtain⟨E4,l4,a4⟩:=mk_all (b:=.node [.int u,.int (u+1),.int (u+1+1),.node [.node [.node (walkD (markD (.sl .int)) r (u+1+1+1)).1],.node [.node t],.node [.node p,.int lo,.int al],.node [.node q,.int ra]]]) (by omega) E3 e4;have r4:(((((D4.getD x default).f 3).f 1).f 0)).kids=t:=by rw[a4];rfl
  simp only[r4];have b4:=mb_list (mb_int) (l:=t) (k:=(walkD (markD (.sl .int)) r (u+1+1+1)).2);refine⟨⟨by omega,by omega⟩,by omega,⟨⟨by omega,by omega⟩,by omega⟩,fun D5 e5=>?_⟩;rw[a4] at e5;obtain⟨E5,l5,a5⟩:=mk_all (b:=.node [.int u,.int (u+1),.int (u+1+1),.node [.node [.node (walkD (markD (.sl .int)) r (u+1+1+1)).1],.node [.node (walkD (markD .int) t ((walkD (markD (.sl .int)) r (u+1+1+1)).2)).1],.node [.node p,.int lo,.int al],.node [.node q,.int ra]]]) (by omega) E4 e5;have r5:(((((D5.getD x default).f 3).f 2).f 0)).kids=p:=by rw[a5];rfl
  simp only[r5];have b5:=mb_list (mb_pr) (l:=p) (k:=(walkD (markD .int) t ((walkD (markD (.sl .int)) r (u+1+1+1)).2)).2);refine⟨⟨by omega,by omega⟩,by omega,⟨⟨by omega,by omega⟩,by omega⟩,fun D6 e6=>?_⟩;rw[a5] at e6;obtain⟨E6,l6,a6⟩:=mk_all (b:=.node [.int u,.int (u+1),.int (u+1+1),.node [.node [.node (walkD (markD (.sl .int)) r (u+1+1+1)).1],.node [.node (walkD (markD .int) t ((walkD (markD (.sl .int)) r (u+1+1+1)).2)).1],.node [.node (walkD (markD mPr) p ((walkD (markD .int) t ((walkD (markD (.sl .int)) r (u+1+1+1)).2)).2)).1,.int lo,.int al],.node [.node q,.int ra]]]) (by omega) E5 e6;have w6:i64.wrap ((walkD (markD mPr) p ((walkD (markD .int) t ((walkD (markD (.sl .int)) r (u+1+1+1)).2)).2)).2+1)=(walkD (markD mPr) p ((walkD (markD .int) t ((walkD (markD (.sl .int)) r (u+1+1+1)).2)).2)).2+1:=wrap_ok (by omega) (by omega)
  simp only[w6];refine⟨⟨by omega,by omega⟩,by omega,fun D7 e7=>?_⟩;rw[a6] at e7;obtain⟨E7,l7,a7⟩:=mk_all (b:=.node [.int u,.int (u+1),.int (u+1+1),.node [.node [.node (walkD (markD (.sl .int)) r (u+1+1+1)).1],.node [.node (walkD (markD .int) t ((walkD (markD (.sl .int)) r (u+1+1+1)).2)).1],.node [.node (walkD (markD mPr) p ((walkD (markD .int) t ((walkD (markD (.sl .int)) r (u+1+1+1)).2)).2)).1,.int ((walkD (markD mPr) p ((walkD (markD .int) t ((walkD (markD (.sl .int)) r (u+1+1+1)).2)).2)).2),.int al],.node [.node q,.int ra]]]) (by omega) E6 e7;have w7:i64.wrap ((walkD (markD mPr) p ((walkD (markD .int) t ((walkD (markD (.sl .int)) r (u+1+1+1)).2)).2)).2+1+1)=(walkD (markD mPr) p ((walkD (markD .int) t ((walkD (markD (.sl .int)) r (u+1+1+1)).2)).2)).2+1+1:=wrap_ok (by omega) (by omega)
  simp only[w7];refine⟨⟨by omega,by omega⟩,by omega,fun D8 e8=>?_⟩;rw[a7] at e8;obtain⟨E8,l8,a8⟩:=mk_all (b:=.node [.int u,.int (u+1),.int (u+1+1),.node [.node [.node (walkD (markD (.sl .int)) r (u+1+1+1)).1],.node [.node (walkD (markD .int) t ((walkD (markD (.sl .int)) r (u+1+1+1)).2)).1],.node [.node (walkD (markD mPr) p ((walkD (markD .int) t ((walkD (markD (.sl .int)) r (u+1+1+1)).2)).2)).1,.int ((walkD (markD mPr) p ((walkD (markD .int) t ((walkD (markD (.sl .int)) r (u+1+1+1)).2)).2)).2),.int ((walkD (markD mPr) p ((walkD (markD .int) t ((walkD (markD (.sl .int)) r (u+1+1+1)).2)).2)).2+1)],.node [.node q,.int ra]]]) (by omega) E7 e8
  have r8:(((((D8.getD x default).f 3).f 3).f 0)).kids=q:=by rw[a8];rfl
  simp only[r8];have b8:=mb_list (mb_pr) (l:=q) (k:=(walkD (markD mPr) p ((walkD (markD .int) t ((walkD (markD (.sl .int)) r (u+1+1+1)).2)).2)).2+1+1);refine⟨⟨by omega,by omega⟩,by omega,⟨⟨by omega,by omega⟩,by omega⟩,fun D9 e9=>?_⟩;rw[a8] at e9;obtain⟨E9,l9,a9⟩:=mk_all (b:=.node [.int u,.int (u+1),.int (u+1+1),.node [.node [.node (walkD (markD (.sl .int)) r (u+1+1+1)).1],.node [.node (walkD (markD .int) t ((walkD (markD (.sl .int)) r (u+1+1+1)).2)).1],.node [.node (walkD (markD mPr) p ((walkD (markD .int) t ((walkD (markD (.sl .int)) r (u+1+1+1)).2)).2)).1,.int ((walkD (markD mPr) p ((walkD (markD .int) t ((walkD (markD (.sl .int)) r (u+1+1+1)).2)).2)).2),.int ((walkD (markD mPr) p ((walkD (markD .int) t ((walkD (markD (.sl .int)) r (u+1+1+1)).2)).2)).2+1)],.node [.node (walkD (markD mPr) q ((walkD (markD mPr) p ((walkD (markD .int) t ((walkD (markD (.sl .int)) r (u+1+1+1)).2)).2)).2+1+1)).1,.int ra]]]) (by omega) E8 e9
  have w9:i64.wrap ((walkD (markD mPr) q ((walkD (markD mPr) p ((walkD (markD .int) t ((walkD (markD (.sl .int)) r (u+1+1+1)).2)).2)).2+1+1)).2+1)=(walkD (markD mPr) q ((walkD (markD mPr) p ((walkD (markD .int) t ((walkD (markD (.sl .int)) r (u+1+1+1)).2)).2)).2+1+1)).2+1:=wrap_ok (by omega) (by omega);simp only[w9];refine⟨⟨by omega,by omega⟩,by omega,fun D10 e10=>?_⟩;rw[a9] at e10;obtain⟨E10,l10,a10⟩:=mk_all (b:=.node [.int u,.int (u+1),.int (u+1+1),.node [.node [.node (walkD (markD (.sl .int)) r (u+1+1+1)).1],.node [.node (walkD (markD .int) t ((walkD (markD (.sl .int)) r (u+1+1+1)).2)).1],.node [.node (walkD (markD mPr) p ((walkD (markD .int) t ((walkD (markD (.sl .int)) r (u+1+1+1)).2)).2)).1,.int ((walkD (markD mPr) p ((walkD (markD .int) t ((walkD (markD (.sl .int)) r (u+1+1+1)).2)).2)).2),.int ((walkD (markD mPr) p ((walkD (markD .int) t ((walkD (markD (.sl .int)) r (u+1+1+1)).2)).2)).2+1)],.node [.node (walkD (markD mPr) q ((walkD (markD mPr) p ((walkD (markD .int) t ((walkD (markD (.sl .int)) r (u+1+1+1)).2)).2)).2+1+1)).1,.int ((walkD (markD mPr) q ((walkD (markD mPr) p ((walkD (markD .int) t ((walkD (markD (.sl .int)) r (u+1+1+1)).2)).2)).2+1+1)).2)]]]) (by omega) E9 e10
  refine⟨x+1,⟨by omega,by omega⟩,?_,up_ok (n:=l.length) hxl (by omega),?_⟩
  · rw[hN2];rfl
  · rw[hN1];exact E10
def markEntryS_get (ins:List SV) (m:St):Option Got:=
  match ins,m with
  | [.own 0,.int .i64 k0],⟨[],[],[⟨80,(.st [.im (.int .i64),.im (.int .i64),.im (.int .i64),(.st [.st [.sl 34 (.sl 3 (.im (.int .i64)))],.st [.sl 3 (.im (.int .i64))],.st [.sl 163 (.im ty0),.im (.int .i64),.im (.int .i64)],.st [.sl 165 (.im ty1),.im (.int .i64)]])]),l,0,true⟩]⟩=>guardTy ty0 TPr (guardTy ty1 TPr (some (0<=k0/\k0+6*((totL TEnt l:Nat):Int)<=1099511627776,.int .i64 (walkD (markD mEnt) l k0).2,St.mk [] [] [⟨80,OEnt,(walkD (markD mEnt) l k0).1,0,true⟩])))
  | _,_=>none
theorem markEntryS_ok:Ok0 Tryz.prog 26 markEntryS_get:=by
  intro _ _ _ _ _ h hp;unfold markEntryS_get at h;split at h
  · replace h:=gT h;obtain⟨rfl,h⟩:=h;replace h:=gT h;obtain⟨rfl,h⟩:=h;rename_i k0 l;cases h;refine fn_ok0 (ct:=[markIntSS_con,markIntS_con,markPairS_con,markKnotS_con]) (L:=fun k=>bif Nat.beq k 2 then some (.g (⟨Nat,fun s g=>hd s [0] [(1,.int .i64 (uptoD (markD mEnt) l k0 g)),(5,.int .i64 g)] [⟨80,OEnt,halfD (markD mEnt) l k0 g,0,true⟩],fun _ g=>g<=l.length,fun g=>l.length-g⟩)) else none) Tryz_follows Tryz.func26 ?_;apply VC.thru (markEntryS_vc l k0 hp);kernel_rfl
  · cases h
def markEntryS_con:Con Tryz.prog:=.f0 26 [.lend,.d] true markEntryS_get (enters Tryz.func26 (by kernel_rfl) rfl) markEntryS_ok
theorem markNodeS_vc (l:List Dat) (k0:Int) (hp:0<=k0/\k0+6*((totL TNode l:Nat):Int)<=1099511627776) :
 I64 k0->WFl ONode.ty l->(∃x:Nat,x<=l.length/\k0=uptoD (markD mNd) l k0 x/\0=(x:Int)/\l=halfD (markD mNd) l k0 x)/\∀x:Nat,x<=l.length->I64 (↑(halfD (markD mNd) l k0
 x).length:Int)->(decide ((x:Int)<(↑(halfD (markD mNd) l k0 x).length:Int))->(0<=(x:Int)/\(x:Int)<(↑(halfD (markD mNd) l k0 x).length:Int))/\x<(halfD (markD mNd) l k0
 x).length/\∀x_1:List Dat,x_1=(halfD (markD mNd) l k0 x).set x (((halfD (markD mNd) l k0 x).getD x default).set 0 (Dat.int (uptoD (markD mNd) l k0 x)))->(0<=(x:Int)/\(x:Int) <
 (x_1.length:Int))/\x<x_1.length/\((0<=i64.wrap (uptoD (markD mNd) l k0 x+(1:Int))/\i64.wrap (uptoD (markD mNd) l k0 x+(1:Int))+(6:Int)*(↑(totL TEnt ((x_1.getD x
 default).f 1).kids):Int)<=1099511627776)/\x<x_1.length/\True)/\∀x_2:List Dat,x_2=x_1.set x ((x_1.getD x default).set 1 (Dat.node (walkD (markD mEnt) ((x_1.getD x
 default).f 1).kids (i64.wrap (uptoD (markD mNd) l k0 x+(1:Int)))).fst))->(0<=(x:Int)/\(x:Int)<(x_2.length:Int))/\x<x_2.length/\∀x_3:List Dat,x_3=x_2.set x ((x_2.getD x
 default).set 2 (Dat.int (walkD (markD mEnt) ((x_1.getD x default).f 1).kids (i64.wrap (uptoD (markD mNd) l k0 x+(1:Int)))).snd))->(0<=(x:Int)/\(x:Int)<(x_3.length:Int))/\x <
 x_3.length/\∀x_4:List Dat,x_4=x_3.set x ((x_3.getD x default).set 3 (Dat.int (i64.wrap ((walkD (markD mEnt) ((x_1.getD x default).f 1).kids (i64.wrap (uptoD (markD mNd) l k0 x
 + (1:Int)))).snd+(1:Int)))))->(0<=(x:Int)/\(x:Int)<(x_4.length:Int))/\x<x_4.length/\∀x_5:List Dat,x_5=x_4.set x ((x_4.getD x default).set 4 (Dat.int (i64.wrap (i64.wrap
 ((walkD (markD mEnt) ((x_1.getD x default).f 1).kids (i64.wrap (uptoD (markD mNd) l k0 x+(1:Int)))).snd+(1:Int))+(1:Int)))))->∃x_6:Nat,(x_6<=l.length/\l.length-x_6 <
 l.length-x)/\i64.wrap (i64.wrap (i64.wrap ((walkD (markD mEnt) ((x_1.getD x default).f 1).kids (i64.wrap (uptoD (markD mNd) l k0 x+(1:Int)))).snd+(1:Int))+(1:Int)) +
 (1:Int))=uptoD (markD mNd) l k0 x_6/\i64.wrap ((x:Int)+1)=(x_6:Int)/\x_5=halfD (markD mNd) l k0 x_6)/\(decide ((x:Int)<(↑(halfD (markD mNd) l k0 x).length:Int)) =
 false->uptoD (markD mNd) l k0 x=(walkD (markD mNd) l k0).snd/\halfD (markD mNd) l k0 x=(walkD (markD mNd) l k0).fst):=by
  intro _ hw0;have hw:WFl TNode l:=hw0;simp only[iv,kv,fv,nm,ne_eq,implies_true,eq_self];have hl1:=hw.1;have hl2:=totL_length TNode l;refine⟨⟨0,by omega,rfl,rfl,rfl⟩,fun x hx _=>⟨fun hlt=>?_,fun hlt=>?_⟩⟩
  rotate_left
  · rw[halfD_length] at hlt;exact⟨uptoD_all _ _ (by omega),halfD_all _ _ (by omega)⟩
  have hL:(halfD (markD mNd) l k0 x).length=l.length:=halfD_length _ _ _;rw[hL] at hlt;have hxl:x<l.length:=by omega
  have a0:=halfD_at (markD mNd) k0 hxl;have hwx:=wfl_get hw hxl;have hB:=mb_upto mb_nd (l:=l) (k:=k0) hx;have hT:=totP_next (e:=TNode) hxl;have hT2:=totP_le (e:=TNode) l (x+1);have hN1:=halfD_next (markD mNd) k0 hxl;have hN2:=uptoD_next (markD mNd) k0 hxl;generalize l.getD x default=d at a0 hwx hT hN1 hN2;generalize halfD (markD mNd) l k0 x=H at hL a0 hN1 ⊢;generalize uptoD (markD mNd) l k0 x=u at hB hN1 hN2 ⊢;obtain⟨a,r,b,c,e,rfl⟩:=nd_lit hwx;rw[nd_tot] at hT;have E0:=mk_self (by omega) a0;have w0:i64.wrap (u+1)=u+1:=wrap_ok (by omega) (by omega);simp only[w0];refine⟨⟨by omega,by omega⟩,by omega,fun D1 e1=>?_⟩
  rw[a0] at e1;obtain⟨E1,l1,a1⟩:=mk_all (b:=.node [.int u,.node r,.int b,.int c,.int e]) (by omega) E0 e1;have r1:(((D1.getD x default).f 1)).kids=r:=by rw[a1];rfl
  simp only[r1];have b1:=mb_list (mb_ent) (l:=r) (k:=u+1);refine⟨⟨by omega,by omega⟩,by omega,⟨⟨by omega,by omega⟩,by omega⟩,fun D2 e2=>?_⟩;rw[a1] at e2;obtain⟨E2,l2,a2⟩:=mk_all (b:=.node [.int u,.node (walkD (markD mEnt) r (u+1)).1,.int b,.int c,.int e]) (by omega) E1 e2;have w2:i64.wrap ((walkD (markD mEnt) r (u+1)).2+1)=(walkD (markD mEnt) r (u+1)).2+1:=wrap_ok (by omega) (by omega);simp only[w2];refine⟨⟨by omega,by omega⟩,by omega,fun D3 e3=>?_⟩;rw[a2] at e3;obtain⟨E3,l3,a3⟩:=mk_all (b:=.node [.int u,.node (walkD (markD mEnt) r (u+1)).1,.int ((walkD (markD mEnt) r (u+1)).2),.int c,.int e]) (by omega) E2 e3
  have w3:i64.wrap ((walkD (markD mEnt) r (u+1)).2+1+1)=(walkD (markD mEnt) r (u+1)).2+1+1:=wrap_ok (by omega) (by omega);simp only[w3];refine⟨⟨by omega,by omega⟩,by omega,fun D4 e4=>?_⟩;rw[a3] at e4;obtain⟨E4,l4,a4⟩:=mk_all (b:=.node [.int u,.node (walkD (markD mEnt) r (u+1)).1,.int ((walkD (markD mEnt) r (u+1)).2),.int ((walkD (markD mEnt) r (u+1)).2+1),.int e]) (by omega) E3 e4;have w4:i64.wrap ((walkD (markD mEnt) r (u+1)).2+1+1+1)=(walkD (markD mEnt) r (u+1)).2+1+1+1:=wrap_ok (by omega) (by omega);simp only[w4];refine⟨⟨by omega,by omega⟩,by omega,fun D5 e5=>?_⟩;rw[a4] at e5;obtain⟨E5,l5,a5⟩:=mk_all (b:=.node [.int u,.node (walkD (markD mEnt) r (u+1)).1,.int ((walkD (markD mEnt) r (u+1)).2),.int ((walkD (markD mEnt) r (u+1)).2+1),.int ((walkD (markD mEnt) r (u+1)).2+1+1)]) (by omega) E4 e5
  refine⟨x+1,⟨by omega,by omega⟩,?_,up_ok (n:=l.length) hxl (by omega),?_⟩
  · rw[hN2];rfl
  · rw[hN1];exact E5
def markNodeS_get (ins:List SV) (m:St):Option Got:=
  match ins,m with
  | [.own 0,.int .i64 k0],⟨[],[],[⟨77,(.st [.im (.int .i64),.sl 80 (.st [.im (.int .i64),.im (.int .i64),.im (.int .i64),(.st [.st [.sl 34 (.sl 3 (.im (.int .i64)))],.st [.sl 3 (.im (.int .i64))],.st [.sl 163 (.im ty0),.im (.int .i64),.im (.int .i64)],.st [.sl 165 (.im ty1),.im (.int .i64)]])]),.im (.int .i64),.im (.int .i64),.im (.int .i64)]),l,0,true⟩]⟩=>guardTy ty0 TPr (guardTy ty1 TPr (some (0<=k0/\k0+6*((totL TNode l:Nat):Int)<=1099511627776,.int .i64 (walkD (markD mNd) l k0).2,St.mk [] [] [⟨77,ONode,(walkD (markD mNd) l k0).1,0,true⟩])))
  | _,_=>none
theorem markNodeS_ok:Ok0 Tryz.prog 71 markNodeS_get:=by
  intro _ _ _ _ _ h hp;unfold markNodeS_get at h;split at h
  · replace h:=gT h;obtain⟨rfl,h⟩:=h;replace h:=gT h;obtain⟨rfl,h⟩:=h;rename_i k0 l;cases h;refine fn_ok0 (ct:=[markEntryS_con]) (L:=fun k=>bif Nat.beq k 2 then some (.g (⟨Nat,fun s g=>hd s [0] [(1,.int .i64 (uptoD (markD mNd) l k0 g)),(5,.int .i64 g)] [⟨77,ONode,halfD (markD mNd) l k0 g,0,true⟩],fun _ g=>g<=l.length,fun g=>l.length-g⟩)) else none) Tryz_follows Tryz.func71 ?_;apply VC.thru (markNodeS_vc l k0 hp);kernel_rfl
  · cases h
def markNodeS_con:Con Tryz.prog:=.f0 71 [.lend,.d] true markNodeS_get (enters Tryz.func71 (by kernel_rfl) rfl) markNodeS_ok
theorem markBoolS_vc (l:List Dat) (k0:Int) (hp:0<=k0/\k0+6*((totL .bool l:Nat):Int)<=1099511627776) :
 I64 k0->WFl (OT.im Ty.bool).ty l->(∃x:Nat,x<=l.length/\k0=uptoD (markD MK.bool) l k0 x/\0=(x:Int)/\l=halfD (markD MK.bool) l k0 x)/\∀x:Nat,x<=l.length->I64 (↑(halfD
 (markD MK.bool) l k0 x).length:Int)->(decide ((x:Int)<(↑(halfD (markD MK.bool) l k0 x).length:Int))->(3:Int)≠0/\(0<=(x:Int)/\(x:Int)<(↑(halfD (markD MK.bool) l k0
 x).length:Int))/\x<(halfD (markD MK.bool) l k0 x).length/\∃x_1:Nat,(x_1<=l.length/\l.length-x_1<l.length-x)/\i64.wrap (uptoD (markD MK.bool) l k0 x+(1:Int))=uptoD (markD
 MK.bool) l k0 x_1/\i64.wrap ((x:Int)+1)=(x_1:Int)/\(halfD (markD MK.bool) l k0 x).set x (Dat.bool (decide ((uptoD (markD MK.bool) l k0 x).tmod (3:Int)=0)))=halfD (markD
 MK.bool) l k0 x_1)/\(decide ((x:Int)<(↑(halfD (markD MK.bool) l k0 x).length:Int))=false->uptoD (markD MK.bool) l k0 x=(walkD (markD MK.bool) l k0).snd/\halfD (markD MK.bool) l
 k0 x=(walkD (markD MK.bool) l k0).fst):=by
  intro _ hw0;have hw:WFl .bool l:=hw0;simp only[iv,kv,fv,nm,ne_eq,implies_true,eq_self];have hl1:=hw.1;have hl2:=totL_length .bool l;refine⟨⟨0,by omega,rfl,rfl,rfl⟩,fun x hx _=>⟨fun hlt=>?_,fun hlt=>?_⟩⟩
  rotate_left
  · rw[halfD_length] at hlt;exact⟨uptoD_all _ _ (by omega),halfD_all _ _ (by omega)⟩
  have hL:(halfD (markD .bool) l k0 x).length=l.length:=halfD_length _ _ _;rw[hL] at hlt;have hxl:x<l.length:=by omega
  have a0:=halfD_at (markD .bool) k0 hxl;have hwx:=wfl_get hw hxl;have hB:=mb_upto mb_bool (l:=l) (k:=k0) hx;have hT:=totP_next (e:=.bool) hxl;have hT2:=totP_le (e:=.bool) l (x+1);have hN1:=halfD_next (markD .bool) k0 hxl;have hN2:=uptoD_next (markD .bool) k0 hxl;generalize l.getD x default=d at a0 hwx hT hN1 hN2;generalize halfD (markD .bool) l k0 x=H at hL a0 hN1 ⊢;generalize uptoD (markD .bool) l k0 x=u at hB hN1 hN2 ⊢;rw[tot_bool] at hT;rw[wrap_ok (n:=u+1) (by omega) (by omega)];exact⟨by decide,⟨by omega,by omega⟩,by omega,x+1,⟨by omega,by omega⟩,hN2.symm,up_ok (n:=l.length) hxl (by omega),hN1.symm⟩
def markBoolS_get (ins:List SV) (m:St):Option Got:=
  match ins,m with
  | [.own 0,.int .i64 k0],⟨[],[],[⟨4,(.im .bool),l,0,true⟩]⟩=>some (0<=k0/\k0+6*((totL .bool l:Nat):Int)<=1099511627776,.int .i64 (walkD (markD .bool) l k0).2,St.mk [] [] [⟨4,(.im .bool),(walkD (markD .bool) l k0).1,0,true⟩])
  | _,_=>none
theorem markBoolS_ok:Ok0 Tryz.prog 72 markBoolS_get:=by
  intro _ _ _ _ _ h hp;unfold markBoolS_get at h;split at h
  · rename_i k0 l;cases h;refine fn_ok0 (ct:=[]) (L:=fun k=>bif Nat.beq k 2 then some (.g (⟨Nat,fun s g=>hd s [0] [(1,.int .i64 (uptoD (markD .bool) l k0 g)),(5,.int .i64 g)] [⟨4,(.im .bool),halfD (markD .bool) l k0 g,0,true⟩],fun _ g=>g<=l.length,fun g=>l.length-g⟩)) else none) Tryz_follows Tryz.func72 ?_;apply VC.thru (markBoolS_vc l k0 hp);kernel_rfl
  · cases h
def markBoolS_con:Con Tryz.prog:=.f0 72 [.lend,.d] true markBoolS_get (enters Tryz.func72 (by kernel_rfl) rfl) markBoolS_ok
theorem markWordS_vc (l:List Dat) (k0:Int) (hp:0<=k0/\k0+6*((totL TWord l:Nat):Int)<=1099511627776) :
 I64 k0->WFl OWord.ty l->(∃x:Nat,x<=l.length/\k0=uptoD (markD mWd) l k0 x/\0=(x:Int)/\l=halfD (markD mWd) l k0 x)/\∀x:Nat,x<=l.length->I64 (↑(halfD (markD mWd) l k0
 x).length:Int)->(decide ((x:Int)<(↑(halfD (markD mWd) l k0 x).length:Int))->(0<=(x:Int)/\(x:Int)<(↑(halfD (markD mWd) l k0 x).length:Int))/\x<(halfD (markD mWd) l k0
 x).length/\∀x_1:List Dat,x_1=(halfD (markD mWd) l k0 x).set x (((halfD (markD mWd) l k0 x).getD x default).set 0 (Dat.int (uptoD (markD mWd) l k0 x)))->(0<=(x:Int)/\(x:Int) <
 (x_1.length:Int))/\x<x_1.length/\∀x_2:List Dat,x_2=x_1.set x ((x_1.getD x default).set 1 (Dat.int (i64.wrap (uptoD (markD mWd) l k0 x+(1:Int)))))->(0<=(x:Int)/\(x:Int) <
 (x_2.length:Int))/\x<x_2.length/\∀x_3:List Dat,x_3=x_2.set x ((x_2.getD x default).set 2 (Dat.int (i64.wrap (i64.wrap (uptoD (markD mWd) l k0 x+(1:Int)) +
 (1:Int)))))->(0<=(x:Int)/\(x:Int)<(x_3.length:Int))/\x<x_3.length/\∀x_4:List Dat,x_4=x_3.set x ((x_3.getD x default).set 3 (Dat.int (i64.wrap (i64.wrap (i64.wrap (uptoD (markD
 mWd) l k0 x+(1:Int))+(1:Int))+(1:Int)))))->(0<=(x:Int)/\(x:Int)<(x_4.length:Int))/\x<x_4.length/\∀x_5:List Dat,x_5=x_4.set x ((x_4.getD x default).set 4 (Dat.int
 (i64.wrap (i64.wrap (i64.wrap (i64.wrap (uptoD (markD mWd) l k0 x+(1:Int))+(1:Int))+(1:Int))+(1:Int)))))->(0<=(x:Int)/\(x:Int)<(x_5.length:Int))/\x <
 x_5.length/\((0<=i64.wrap (i64.wrap (i64.wrap (i64.wrap (i64.wrap (uptoD (markD mWd) l k0 x+(1:Int))+(1:Int))+(1:Int))+(1:Int))+(1:Int))/\i64.wrap (i64.wrap (i64.wrap
 (i64.wrap (i64.wrap (uptoD (markD mWd) l k0 x+(1:Int))+(1:Int))+(1:Int))+(1:Int))+(1:Int))+(6:Int)*(↑(totL TEnt ((x_5.getD x default).f
 5).kids):Int)<=1099511627776)/\x<x_5.length/\True)/\∀x_6:List Dat,x_6=x_5.set x ((x_5.getD x default).set 5 (Dat.node (walkD (markD mEnt) ((x_5.getD x default).f 5).kids
 (i64.wrap (i64.wrap (i64.wrap (i64.wrap (i64.wrap (uptoD (markD mWd) l k0 x+(1:Int))+(1:Int))+(1:Int))+(1:Int))+(1:Int)))).fst))->∃x_7:Nat,(x_7<=l.length/\l.length-x_7
 < l.length-x)/\(walkD (markD mEnt) ((x_5.getD x default).f 5).kids (i64.wrap (i64.wrap (i64.wrap (i64.wrap (i64.wrap (uptoD (markD mWd) l k0 x+(1:Int))+(1:Int))+(1:Int)) +
 (1:Int))+(1:Int)))).snd=uptoD (markD mWd) l k0 x_7/\i64.wrap ((x:Int)+1)=(x_7:Int)/\x_6=halfD (markD mWd) l k0 x_7)/\(decide ((x:Int)<(↑(halfD (markD mWd) l k0
 x).length:Int))=false->uptoD (markD mWd) l k0 x=(walkD (markD mWd) l k0).snd/\halfD (markD mWd) l k0 x=(walkD (markD mWd) l k0).fst):=by
  intro _ hw0;have hw:WFl TWord l:=hw0;simp only[iv,kv,fv,nm,ne_eq,implies_true,eq_self];have hl1:=hw.1;have hl2:=totL_length TWord l;refine⟨⟨0,by omega,rfl,rfl,rfl⟩,fun x hx _=>⟨fun hlt=>?_,fun hlt=>?_⟩⟩
  rotate_left
  · rw[halfD_length] at hlt;exact⟨uptoD_all _ _ (by omega),halfD_all _ _ (by omega)⟩
  have hL:(halfD (markD mWd) l k0 x).length=l.length:=halfD_length _ _ _;rw[hL] at hlt;have hxl:x<l.length:=by omega
  have a0:=halfD_at (markD mWd) k0 hxl;have hwx:=wfl_get hw hxl;have hB:=mb_upto mb_wd (l:=l) (k:=k0) hx;have hT:=totP_next (e:=TWord) hxl;have hT2:=totP_le (e:=TWord) l (x+1);have hN1:=halfD_next (markD mWd) k0 hxl;have hN2:=uptoD_next (markD mWd) k0 hxl;generalize l.getD x default=d at a0 hwx hT hN1 hN2;generalize halfD (markD mWd) l k0 x=H at hL a0 hN1 ⊢;generalize uptoD (markD mWd) l k0 x=u at hB hN1 hN2 ⊢;obtain⟨a,b,c,e,y,r,rfl⟩:=wd_lit hwx;rw[wd_tot] at hT;have E0:=mk_self (by omega) a0;have w0:i64.wrap (u+1)=u+1:=wrap_ok (by omega) (by omega);simp only[w0];refine⟨⟨by omega,by omega⟩,by omega,fun D1 e1=>?_⟩
  rw[a0] at e1;obtain⟨E1,l1,a1⟩:=mk_all (b:=.node [.int u,.int b,.int c,.int e,.int y,.node r]) (by omega) E0 e1;have w1:i64.wrap (u+1+1)=u+1+1:=wrap_ok (by omega) (by omega);simp only[w1];refine⟨⟨by omega,by omega⟩,by omega,fun D2 e2=>?_⟩;rw[a1] at e2;obtain⟨E2,l2,a2⟩:=mk_all (b:=.node [.int u,.int (u+1),.int c,.int e,.int y,.node r]) (by omega) E1 e2;have w2:i64.wrap (u+1+1+1)=u+1+1+1:=wrap_ok (by omega) (by omega);simp only[w2];refine⟨⟨by omega,by omega⟩,by omega,fun D3 e3=>?_⟩;rw[a2] at e3;obtain⟨E3,l3,a3⟩:=mk_all (b:=.node [.int u,.int (u+1),.int (u+1+1),.int e,.int y,.node r]) (by omega) E2 e3
  have w3:i64.wrap (u+1+1+1+1)=u+1+1+1+1:=wrap_ok (by omega) (by omega);simp only[w3];refine⟨⟨by omega,by omega⟩,by omega,fun D4 e4=>?_⟩;rw[a3] at e4;obtain⟨E4,l4,a4⟩:=mk_all (b:=.node [.int u,.int (u+1),.int (u+1+1),.int (u+1+1+1),.int y,.node r]) (by omega) E3 e4;have w4:i64.wrap (u+1+1+1+1+1)=u+1+1+1+1+1:=wrap_ok (by omega) (by omega);simp only[w4];refine⟨⟨by omega,by omega⟩,by omega,fun D5 e5=>?_⟩;rw[a4] at e5;obtain⟨E5,l5,a5⟩:=mk_all (b:=.node [.int u,.int (u+1),.int (u+1+1),.int (u+1+1+1),.int (u+1+1+1+1),.node r]) (by omega) E4 e5;have r5:(((D5.getD x default).f 5)).kids=r:=by rw[a5];rfl
  simp only[r5];have b5:=mb_list (mb_ent) (l:=r) (k:=u+1+1+1+1+1);refine⟨⟨by omega,by omega⟩,by omega,⟨⟨by omega,by omega⟩,by omega⟩,fun D6 e6=>?_⟩;rw[a5] at e6;obtain⟨E6,l6,a6⟩:=mk_all (b:=.node [.int u,.int (u+1),.int (u+1+1),.int (u+1+1+1),.int (u+1+1+1+1),.node (walkD (markD mEnt) r (u+1+1+1+1+1)).1]) (by omega) E5 e6;refine⟨x+1,⟨by omega,by omega⟩,?_,up_ok (n:=l.length) hxl (by omega),?_⟩
  · rw[hN2];rfl
  · rw[hN1];exact E6
def markWordS_get (ins:List SV) (m:St):Option Got:=
  match ins,m with
  | [.own 0,.int .i64 k0],⟨[],[],[⟨138,(.st [.im (.int .i64),.im (.int .i64),.im (.int .i64),.im (.int .i64),.im (.int .i64),.sl 80 (.st [.im (.int .i64),.im (.int .i64),.im (.int .i64),(.st [.st [.sl 34 (.sl 3 (.im (.int .i64)))],.st [.sl 3 (.im (.int .i64))],.st [.sl 163 (.im ty0),.im (.int .i64),.im (.int .i64)],.st [.sl 165 (.im ty1),.im (.int .i64)]])])]),l,0,true⟩]⟩=>guardTy ty0 TPr (guardTy ty1 TPr (some (0<=k0/\k0+6*((totL TWord l:Nat):Int)<=1099511627776,.int .i64 (walkD (markD mWd) l k0).2,St.mk [] [] [⟨138,OWord,(walkD (markD mWd) l k0).1,0,true⟩])))
  | _,_=>none
theorem markWordS_ok:Ok0 Tryz.prog 73 markWordS_get:=by
  intro _ _ _ _ _ h hp;unfold markWordS_get at h;split at h
  · replace h:=gT h;obtain⟨rfl,h⟩:=h;replace h:=gT h;obtain⟨rfl,h⟩:=h;rename_i k0 l;cases h;refine fn_ok0 (ct:=[markEntryS_con]) (L:=fun k=>bif Nat.beq k 2 then some (.g (⟨Nat,fun s g=>hd s [0] [(1,.int .i64 (uptoD (markD mWd) l k0 g)),(5,.int .i64 g)] [⟨138,OWord,halfD (markD mWd) l k0 g,0,true⟩],fun _ g=>g<=l.length,fun g=>l.length-g⟩)) else none) Tryz_follows Tryz.func73 ?_;apply VC.thru (markWordS_vc l k0 hp);kernel_rfl
  · cases h
def markWordS_con:Con Tryz.prog:=.f0 73 [.lend,.d] true markWordS_get (enters Tryz.func73 (by kernel_rfl) rfl) markWordS_ok
theorem markIntSSS_vc (l:List Dat) (k0:Int) (hp:0<=k0/\k0+6*((totL (.sl (.sl (.int .i64))) l:Nat):Int)<=1099511627776) :
 I64 k0->WFl (OT.sl 34 (OT.sl 3 (OT.im (Ty.int i64)))).ty l->(∃x:Nat,x<=l.length/\k0=uptoD (markD MK.int.sl.sl) l k0 x/\0=(x:Int)/\l=halfD (markD
 MK.int.sl.sl) l k0 x)/\∀x:Nat,x<=l.length->I64 (↑(halfD (markD MK.int.sl.sl) l k0 x).length:Int)->(decide ((x:Int)<(↑(halfD (markD MK.int.sl.sl) l k0 x).length:Int)) =
 true->(0<=(x:Int)/\(x:Int)<(↑(halfD (markD MK.int.sl.sl) l k0 x).length:Int))/\x<(halfD (markD MK.int.sl.sl) l k0 x).length/\((0<=uptoD (markD MK.int.sl.sl) l k0 x/\uptoD (markD
 MK.int.sl.sl) l k0 x+(6:Int)*(↑(totL (Ty.int i64).sl ((halfD (markD MK.int.sl.sl) l k0 x).getD x default).kids):Int)<=1099511627776)/\x<(halfD (markD MK.int.sl.sl) l k0
 x).length/\True)/\∀x_1:List Dat,x_1=(halfD (markD MK.int.sl.sl) l k0 x).set x (Dat.node (walkD (markD MK.int.sl) ((halfD (markD MK.int.sl.sl) l k0 x).getD x default).kids
 (uptoD (markD MK.int.sl.sl) l k0 x)).fst)->∃x_2:Nat,(x_2<=l.length/\l.length-x_2<l.length-x)/\(walkD (markD MK.int.sl) ((halfD (markD MK.int.sl.sl) l k0 x).getD x
 default).kids (uptoD (markD MK.int.sl.sl) l k0 x)).snd=uptoD (markD MK.int.sl.sl) l k0 x_2/\i64.wrap ((x:Int)+1)=(x_2:Int)/\x_1=halfD (markD MK.int.sl.sl) l k0 x_2)/\(decide
 ((x:Int)<(↑(halfD (markD MK.int.sl.sl) l k0 x).length:Int))=false->uptoD (markD MK.int.sl.sl) l k0 x=(walkD (markD MK.int.sl.sl) l k0).snd/\halfD (markD MK.int.sl.sl) l k0 x =
 (walkD (markD MK.int.sl.sl) l k0).fst):=by
  intro _ hw0;have hw:WFl (.sl (.sl (.int .i64))) l:=hw0;simp only[iv,kv,fv,nm,ne_eq,implies_true,eq_self];have hl1:=hw.1;have hl2:=totL_length (.sl (.sl (.int .i64))) l;refine⟨⟨0,by omega,rfl,rfl,rfl⟩,fun x hx _=>⟨fun hlt=>?_,fun hlt=>?_⟩⟩
  rotate_left
  · rw[halfD_length] at hlt;exact⟨uptoD_all _ _ (by omega),halfD_all _ _ (by omega)⟩
  have hL:(halfD (markD (.sl (.sl .int))) l k0 x).length=l.length:=halfD_length _ _ _;rw[hL] at hlt;have hxl:x<l.length:=by omega
  have a0:=halfD_at (markD (.sl (.sl .int))) k0 hxl;have hwx:=wfl_get hw hxl;have hB:=mb_upto (mb_sl (mb_sl mb_int)) (l:=l) (k:=k0) hx;have hT:=totP_next (e:=(.sl (.sl (.int .i64)))) hxl;have hT2:=totP_le (e:=(.sl (.sl (.int .i64)))) l (x+1);have hN1:=halfD_next (markD (.sl (.sl .int))) k0 hxl;have hN2:=uptoD_next (markD (.sl (.sl .int))) k0 hxl;generalize l.getD x default=d at a0 hwx hT hN1 hN2;rw[show tot (.sl (.sl (.int .i64))) d=_ by rw[tot_is]] at hT;generalize halfD (markD (.sl (.sl .int))) l k0 x=H at hL a0 hN1 ⊢;generalize uptoD (markD (.sl (.sl .int))) l k0 x=u at hB hN1 hN2 ⊢;have E0:=mk_self (by omega) a0
  simp only[a0];have b0:=mb_list (mb_sl mb_int) (l:=d.kids) (k:=u);refine⟨⟨by omega,by omega⟩,by omega,⟨⟨by omega,by omega⟩,by omega⟩,fun D1 e1=>?_⟩;obtain⟨E1,l1,a1⟩:=mk_all (b:=.node (walkD (markD (.sl .int)) d.kids (u)).1) (by omega) E0 e1;refine⟨x+1,⟨by omega,by omega⟩,?_,up_ok (n:=l.length) hxl (by omega),?_⟩
  · rw[hN2];rfl
  · rw[hN1];exact E1
def markIntSSS_get (ins:List SV) (m:St):Option Got:=
  match ins,m with
  | [.own 0,.int .i64 k0],⟨[],[],[⟨31,(.sl 34 (.sl 3 (.im (.int .i64)))),l,0,true⟩]⟩=>some (0<=k0/\k0+6*((totL (.sl (.sl (.int .i64))) l:Nat):Int)<=1099511627776,.int .i64 (walkD (markD (.sl (.sl .int))) l k0).2,St.mk [] [] [⟨31,(.sl 34 (.sl 3 (.im (.int .i64)))),(walkD (markD (.sl (.sl .int))) l k0).1,0,true⟩])
  | _,_=>none
theorem markIntSSS_ok:Ok0 Tryz.prog 74 markIntSSS_get:=by
  intro _ _ _ _ _ h hp;unfold markIntSSS_get at h;split at h
  · rename_i k0 l;cases h;refine fn_ok0 (ct:=[markIntSS_con]) (L:=fun k=>bif Nat.beq k 2 then some (.g (⟨Nat,fun s g=>hd s [0] [(1,.int .i64 (uptoD (markD (.sl (.sl .int))) l k0 g)),(5,.int .i64 g)] [⟨31,(.sl 34 (.sl 3 (.im (.int .i64)))),halfD (markD (.sl (.sl .int))) l k0 g,0,true⟩],fun _ g=>g<=l.length,fun g=>l.length-g⟩)) else none) Tryz_follows Tryz.func74 ?_;apply VC.thru (markIntSSS_vc l k0 hp);kernel_rfl
  · cases h
def markIntSSS_con:Con Tryz.prog:=.f0 74 [.lend,.d] true markIntSSS_get (enters Tryz.func74 (by kernel_rfl) rfl) markIntSSS_ok
theorem markNet_vc (nodes links words past:List Dat) (k0:Int) (hp:0<=k0/\k0+6*((totL TNode nodes+totL .bool links+totL TWord words+totL (.sl (.sl (.int .i64))) past:Nat):Int)<=1099511627776) :
 I64 k0->WFl ONode.ty nodes->WFl (OT.im Ty.bool).ty links->WFl OWord.ty words->WFl (OT.sl 34 (OT.sl 3 (OT.im (Ty.int i64)))).ty past->(0<=k0/\k0+(6:Int) *
 (↑(totL TNode nodes):Int)<=1099511627776)/\(0<=(walkD (markD mNd) nodes k0).snd/\(walkD (markD mNd) nodes k0).snd+(6:Int)*(↑(totL Ty.bool
 links):Int)<=1099511627776)/\(0<=(walkD (markD MK.bool) links (walkD (markD mNd) nodes k0).snd).snd/\(walkD (markD MK.bool) links (walkD (markD mNd) nodes k0).snd).snd +
 (6:Int)*(↑(totL TWord words):Int)<=1099511627776)/\(0<=(walkD (markD mWd) words (walkD (markD MK.bool) links (walkD (markD mNd) nodes k0).snd).snd).snd/\(walkD (markD
 mWd) words (walkD (markD MK.bool) links (walkD (markD mNd) nodes k0).snd).snd).snd+(6:Int)*(↑(totL (Ty.int i64).sl.sl past):Int)<=1099511627776)/\(walkD (markD
 MK.int.sl.sl) past (walkD (markD mWd) words (walkD (markD MK.bool) links (walkD (markD mNd) nodes k0).snd).snd).snd).snd=(walkD (markD MK.int.sl.sl) past (walkD (markD mWd) words
 (walkD (markD MK.bool) links (walkD (markD mNd) nodes k0).snd).snd).snd).snd/\(walkD (markD mNd) nodes k0).fst=(walkD (markD mNd) nodes k0).fst/\(walkD (markD MK.bool) links (walkD
 (markD mNd) nodes k0).snd).fst=(walkD (markD MK.bool) links (walkD (markD mNd) nodes k0).snd).fst/\(walkD (markD mWd) words (walkD (markD MK.bool) links (walkD (markD mNd) nodes
 k0).snd).snd).fst=(walkD (markD mWd) words (walkD (markD MK.bool) links (walkD (markD mNd) nodes k0).snd).snd).fst/\(walkD (markD MK.int.sl.sl) past (walkD (markD mWd) words
 (walkD (markD MK.bool) links (walkD (markD mNd) nodes k0).snd).snd).snd).fst=(walkD (markD MK.int.sl.sl) past (walkD (markD mWd) words (walkD (markD MK.bool) links (walkD (markD
 mNd) nodes k0).snd).snd).snd).fst:=by
  intros
  simp only[iv,kv,fv,nm,ne_eq,implies_true,eq_self];have b0:=mb_list mb_nd (l:=nodes) (k:=k0);have b1:=mb_list mb_bool (l:=links) (k:=(walkD (markD mNd) nodes k0).2);have b2:=mb_list mb_wd (l:=words) (k:=(walkD (markD .bool) links (walkD (markD mNd) nodes k0).2).2);have b3:=mb_list (mb_sl (mb_sl mb_int)) (l:=past) (k:=(walkD (markD mWd) words (walkD (markD .bool) links (walkD (markD mNd) nodes k0).2).2).2)
  (repeat' (first | omega | refine And.intro ?_ ?_))
def markNet_get (ins:List SV) (m:St):Option Got:=
  match ins,m with
  | [.agg [.own 0,.own 1,.own 2,.own 3],.int .i64 k0],⟨[],[],[⟨77,(.st [.im (.int .i64),.sl 80 (.st [.im (.int .i64),.im (.int .i64),.im (.int .i64),(.st [.st [.sl 34 (.sl 3 (.im (.int .i64)))],.st [.sl 3 (.im (.int .i64))],.st [.sl 163 (.im ty0),.im (.int .i64),.im (.int .i64)],.st [.sl 165 (.im ty1),.im (.int .i64)]])]),.im (.int .i64),.im (.int .i64),.im (.int .i64)]),nodes,0,true⟩,⟨4,(.im .bool),links,0,true⟩,⟨138,(.st [.im (.int .i64),.im (.int .i64),.im (.int .i64),.im (.int .i64),.im (.int .i64),.sl 80 (.st [.im (.int .i64),.im (.int .i64),.im (.int .i64),(.st [.st [.sl 34 (.sl 3 (.im (.int .i64)))],.st [.sl 3 (.im (.int .i64))],.st [.sl 163 (.im ty2),.im (.int .i64),.im (.int .i64)],.st [.sl 165 (.im ty3),.im (.int .i64)]])])]),words,0,true⟩,⟨31,(.sl 34 (.sl 3 (.im (.int .i64)))),past,0,true⟩]⟩=>guardTy ty0 TPr (guardTy ty1 TPr (guardTy ty2 TPr (guardTy ty3 TPr (some (0<=k0/\k0+6*((totL TNode nodes+totL .bool links+totL TWord words+totL (.sl (.sl (.int .i64))) past:Nat):Int)<=1099511627776,.int .i64 (walkD (markD (.sl (.sl .int))) past (walkD (markD mWd) words (walkD (markD .bool) links (walkD (markD mNd) nodes k0).2).2).2).2,St.mk [] [] [⟨77,ONode,(walkD (markD mNd) nodes k0).1,0,true⟩,⟨4,(.im .bool),(walkD (markD .bool) links (walkD (markD mNd) nodes k0).2).1,0,true⟩,⟨138,OWord,(walkD (markD mWd) words (walkD (markD .bool) links (walkD (markD mNd) nodes k0).2).2).1,0,true⟩,⟨31,(.sl 34 (.sl 3 (.im (.int .i64)))),(walkD (markD (.sl (.sl .int))) past (walkD (markD mWd) words (walkD (markD .bool) links (walkD (markD mNd) nodes k0).2).2).2).1,0,true⟩])))))
  | _,_=>none
theorem markNet_ok:Ok0 Tryz.prog 25 markNet_get:=by
  intro _ _ _ _ _ h hp;unfold markNet_get at h;split at h
  · replace h:=gT h;obtain⟨rfl,h⟩:=h;replace h:=gT h;obtain⟨rfl,h⟩:=h;replace h:=gT h;obtain⟨rfl,h⟩:=h;replace h:=gT h;obtain⟨rfl,h⟩:=h;rename_i k0 nodes links words past;cases h;refine fn_ok0 (ct:=[markNodeS_con,markBoolS_con,markWordS_con,markIntSSS_con]) (L:=fun _=>none) Tryz_follows Tryz.func25 ?_;apply VC.thru (markNet_vc nodes links words past k0 hp);kernel_rfl
  · cases h
def markNet_con:Con Tryz.prog:=.f0 25 [.lend,.d] true markNet_get (enters Tryz.func25 (by kernel_rfl) rfl) markNet_ok
theorem mb_le {m:MK} {e:Ty} (h:Mb m e) (l:List Dat) (k:Int) (i:Nat):uptoD (markD m) l k i<=(walkD (markD m) l k).2:=by
  have h2:=walkD_append (markD m) (l.take i) (l.drop i) k;rw[List.take_append_drop] at h2;rw[h2];exact (mb_sum h (l.drop i) _).1
def Mi (m:MK):Prop:=∀d k,markD m (markD m d k).1 k=markD m d k
theorem mi_list {m:MK} (h:Mi m):∀(l:List Dat) (k:Int),walkD (markD m) (walkD (markD m) l k).1 k=walkD (markD m) l k
  | [],_=>rfl
  | d::l,k=>by simp only[walkD,h d k,mi_list h l]
theorem mi_int:Mi .int:=fun _ _=>rfl
theorem heldIntS_vc (l:List Dat) (k0:Int) (hp:0<=k0/\(walkD (markD .int) l k0).1=l/\(walkD (markD .int) l k0).2<=1099511627776) :
 WFl (Ty.int i64) l->I64 k0->(∃x:Nat,x<=l.length/\l=l/\k0=uptoD (markD MK.int) l k0 x/\0=(x:Int))/\∀x:Nat,x<=l.length->I64 (l.length:Int)->(decide ((x:Int) <
 (l.length:Int))=true->(0<=(x:Int)/\(x:Int)<(l.length:Int))/\(I64 (l.getD x default).toInt->(decide ((l.getD x default).toInt≠uptoD (markD MK.int) l k0 x)->(-1:Int)=(walkD
 (markD MK.int) l k0).snd)/\(decide ((l.getD x default).toInt≠uptoD (markD MK.int) l k0 x)=false->∃x_1:Nat,(x_1<=l.length/\l.length-x_1<l.length-x)/\l=l/\i64.wrap (uptoD
 (markD MK.int) l k0 x+(1:Int))=uptoD (markD MK.int) l k0 x_1/\i64.wrap ((x:Int)+1)=(x_1:Int))))/\(decide ((x:Int)<(l.length:Int))=false->uptoD (markD MK.int) l k0 x =
 (walkD (markD MK.int) l k0).snd):=by
  intro hw _;simp only[iv,kv,fv,nm,ne_eq,implies_true,eq_self];have hl1:=hw.1;refine⟨⟨0,by omega,rfl,rfl⟩,fun x hx _=>⟨fun hlt=>?_,fun hlt=>uptoD_all _ _ (by omega)⟩⟩;have hxl:x<l.length:=by omega
  have hM:=walkD_at (markD .int) hp.2.1 hxl;have hN2:=uptoD_next (markD .int) k0 hxl;have hB:=mb_upto mb_int (l:=l) (k:=k0) hx;have hC:=mb_le mb_int l k0 (x+1);have hP:=hp.2.2;generalize l.getD x default=d at hM hN2 ⊢;generalize uptoD (markD .int) l k0 x=u at hB hM hN2 ⊢;have hN2:uptoD (markD .int) l k0 (x+1)=u+1:=hN2;have g0:d.toInt=u:=(congrArg (fun z=>z.toInt) hM).symm;have w0:IntKind.i64.wrap (u+1)=u+1:=wrap_ok (by omega) (by omega);simp only[w0];refine⟨⟨by omega,by omega⟩,fun _=>⟨fun h=>absurd g0 h,fun _=>?_⟩⟩;exact⟨x+1,⟨by omega,by omega⟩,hN2.symm,up_ok (n:=l.length) hxl (by omega)⟩
def heldIntS_get (ins:List SV) (m:St):Option Got:=
  match ins,m with
  | [.sl (.int .i64) l,.int .i64 k0],⟨[],[],[]⟩=>some (0<=k0/\(walkD (markD .int) l k0).1=l/\(walkD (markD .int) l k0).2<=1099511627776,.int .i64 (walkD (markD .int) l k0).2,St.mk [] [] [])
  | _,_=>none
theorem heldIntS_ok:Ok0 Tryz.prog 28 heldIntS_get:=by
  intro _ _ _ _ _ h hp;unfold heldIntS_get at h;split at h
  · rename_i l k0;cases h;refine fn_ok0 (ct:=[]) (L:=fun k=>bif Nat.beq k 2 then some (.g (⟨Nat,fun s g=>hd s [0] [(1,.int .i64 (uptoD (markD .int) l k0 g)),(5,.int .i64 g)] s.rw,fun _ g=>g<=l.length,fun g=>l.length-g⟩)) else none) Tryz_follows Tryz.func28 ?_;apply VC.thru (heldIntS_vc l k0 hp);kernel_rfl
  · cases h
def heldIntS_con:Con Tryz.prog:=.f0 28 [] true heldIntS_get (enters Tryz.func28 (by kernel_rfl) rfl) heldIntS_ok
section
open Go.Shelf
attribute [local go_sem] Oper.semAt_some
def IsInts (n₀:Nat) (W:World) (v:Value) (xs:List Int):Prop:=
  ∃g c,v=.slice g xs.length c/\xs.length<=c/\(xs≠[]->∃b o,g=some ⟨b,o,none⟩/\b<n₀/\∀i x,xs[i]?=some x->W.cell? ⟨b,o+i,none⟩=some (.int .i64 x))
theorem IsInts.below {n₀:Nat} {A B:World} (h:Below n₀ A B) {v:Value} {xs:List Int}:IsInts n₀ A v xs->IsInts n₀ B v xs
  | ⟨g,c,h1,h2,h3⟩=>⟨g,c,h1,h2,fun hne=>by
    obtain⟨b,o,k1,k2,k3⟩:=h3 hne;exact⟨b,o,k1,k2,fun i x hx=>(h.cell (p:=⟨b,o+i,none⟩) k2).trans (k3 i x hx)⟩⟩
theorem IsInts.tail {n₀:Nat} {W:World} {x:Int} {xs:List Int} {b o c':Nat} (hc:xs.length<=c') (hb:b<n₀) (h:∀i y,(x::xs)[i]?=some y->W.cell? ⟨b,o+i,none⟩=some (.int .i64 y)) :
    IsInts n₀ W (.slice (some ⟨b,o+1,none⟩) xs.length c') xs:=by
  refine⟨_,_,rfl,hc,fun hne=>⟨b,o+1,rfl,hb,fun i y hy=>?_⟩⟩
  have:=h (i+1) y (by simpa using hy)
  rw[show o+1+i=o+(i+1) by omega];exact this
theorem IsInts.none {n₀:Nat} {W:World} {g:Option Addr} {xs:List Int} {c:Nat} (h:xs.length=0) (hc:xs.length<=c):IsInts n₀ W (.slice g xs.length c) xs:=
  ⟨_,_,rfl,hc,fun hne=>absurd (List.eq_nil_of_length_eq_zero h) hne⟩
theorem IsInts.empty {n₀:Nat} {W:World} {g:Option Addr} {c:Nat}:IsInts n₀ W (.slice g 0 c) []:=⟨_,_,rfl,Nat.zero_le _,fun h=>absurd rfl h⟩
theorem mem_tail {x:Int} {xs:List Int} (h:∀y∈x::xs,y<64):∀y∈xs,y<64:=fun y hy=>h y (List.mem_cons_of_mem _ hy)
def lenV:Value->Nat
  | .slice _ n _=>n
  | _=>0
def mergeU:List Int->List Int->List Int
  | [],b=>b
  | a,[]=>a
  | x::a,y::b=>if x<y then x::mergeU a (y::b) else if y<x then y::mergeU (x::a) b else x::mergeU a b
theorem mergeU_nil (a:List Int):mergeU a []=a:=by cases a<;>simp [mergeU]
set_option maxHeartbeats 4000000 in
theorem marks1_in (n:Nat) (hn:1<=n) (l A B n₀:Nat) (va vb:Value) (xs ys:List Int) (hxs:∀x∈xs,x<64) (hys:∀y∈ys,y<64) (J Jx:List Int->World->Prop) (hd:∀s W n,J s W->J s (W.drewN n))
    (hY:∀pre x W,J pre W->pre.length<(mergeU xs ys).length->YieldAt Fence.wide (n-1) Tryz.prog l #[.int .i64 x] W fun e W'=>
      (e=.returned (.bool true)/\J (pre++[x]) W'/\Below n₀ W W')\/(e=.returned (.bool false)/\Jx (pre++[x]) W'))
    (W:World) (hA:W.cell? ⟨A,0,none⟩=some va) (hB:W.cell? ⟨B,0,none⟩=some vb) (ha:IsInts n₀ W va xs) (hb:IsInts n₀ W vb ys) (h0:J [] W) :
    CallsIn Fence.wide n Tryz.prog 224 #[.func (.yield l) #[] #[],.pointer (some ⟨A,0,none⟩),.pointer (some ⟨B,0,none⟩)] W fun e W'=>(∃v,e=.returned v)/\
      ((∃zs,zs=mergeU xs ys/\J zs W')\/(∃pre,pre <+: mergeU xs ys/\Jx pre W')):=by
  refine callsIn_of_wp Tryz.func224 rfl trivial ?_ rfl;simp only[Tryz.ntmps224,List.size_toArray,List.length_cons,List.length_nil,Nat.reduceAdd,Nat.reduceSub,Array.replicate_succ,Array.replicate_zero,List.push_toArray,List.append_toArray,List.nil_append,List.cons_append]
  gi_wp2
  gi_quiet (fail)
  gi_wp2
  gi_loopw [4,5] (fun p q wr=>∃(pre r s:List Int),mergeU xs ys=pre++mergeU r s/\IsInts n₀ wr p r/\IsInts n₀ wr q s/\(∀x∈r,x<64)/\(∀y∈s,y<64)/\J pre wr) (fun p q wr=>lenV p+lenV q)
  case atStart=>
    exact⟨[],xs,ys,rfl,ha,hb,hxs,hys,hd _ _ _ h0⟩
  case round=>
    obtain⟨pre,r,s,he,hp,hq,hr64,hs64,hJs⟩:=hrel;obtain⟨g1,c1,rfl,hc1,hp⟩:=hp;obtain⟨g2,c2,rfl,hc2,hq⟩:=hq;cases r with
    | nil=>
      cases s with
      | nil=>
        gi_wp2
        go_end0
        exact⟨⟨_,rfl⟩,.inl ⟨pre,by simp [he,mergeU],hJs⟩⟩
      | cons y s=>
        obtain⟨b2,o2,rfl,hb2,hcell2⟩:=hq (by simp);have hcy:wr.cell? ⟨b2,o2,none⟩=some (.int .i64 y):=hcell2 0 y rfl;have hy64:=hs64 y (List.mem_cons_self ..);have hm:mergeU [] (y::s)=y::mergeU [] s:=by simp [mergeU]
        have hmin:min 64 y=y:=by omega
        obtain⟨fn,tmps,assign,body,hy,hR⟩:=hY pre y wr hJs (by rw[he,hm];simp);simp only[List.length_cons] at hc1 hc2
        gi_wp2
        all_goals clear hY
        all_goals refine hR.mono ?_
        all_goals rintro e W3 (⟨rfl,hJ3,hk3⟩ | ⟨rfl,hJx3⟩)
        all_goals gi_wp2
        all_goals first
          | (refine bodyPost_ret (results_none rfl _ _ _) rfl ?_
             exact⟨⟨_,rfl⟩,.inr ⟨pre++[y],⟨mergeU [] s,by rw[he,hm];simp⟩,hJx3⟩⟩)
          | (go_roundw
             case rel=>exact⟨pre++[y],[],s,by rw[he,hm];simp,IsInts.empty,(by first | exact (IsInts.none (by omega) (by omega)).below hk3 | exact (IsInts.tail (by omega) hb2 hcell2).below hk3),hr64,mem_tail hs64,hJ3⟩
             case measure=>first | (simp [lenV];done) | (simp [lenV];omega))
    | cons x r=>
      cases s with
      | nil=>
        obtain⟨b1,o1,rfl,hb1,hcell1⟩:=hp (by simp);have hcx:wr.cell? ⟨b1,o1,none⟩=some (.int .i64 x):=hcell1 0 x rfl;have hx64:=hr64 x (List.mem_cons_self ..);have hm:mergeU (x::r) []=x::mergeU r []:=by rw[mergeU_nil,mergeU_nil]
        obtain⟨fn,tmps,assign,body,hy,hR⟩:=hY pre x wr hJs (by rw[he,hm];simp);simp only[List.length_cons] at hc1 hc2
        gi_wp2
        all_goals clear hY
        all_goals refine hR.mono ?_
        all_goals rintro e W3 (⟨rfl,hJ3,hk3⟩ | ⟨rfl,hJx3⟩)
        all_goals gi_wp2
        all_goals first
          | (refine bodyPost_ret (results_none rfl _ _ _) rfl ?_
             exact⟨⟨_,rfl⟩,.inr ⟨pre++[x],⟨mergeU r [],by rw[he,hm];simp⟩,hJx3⟩⟩)
          | (go_roundw
             case rel=>exact⟨pre++[x],r,[],by rw[he,hm];simp,(by first | exact (IsInts.none (by omega) (by omega)).below hk3 | exact (IsInts.tail (by omega) hb1 hcell1).below hk3),IsInts.empty,mem_tail hr64,hs64,hJ3⟩
             case measure=>first | (simp [lenV];done) | (simp [lenV];omega))
      | cons y s=>
        obtain⟨b1,o1,rfl,hb1,hcell1⟩:=hp (by simp);have hcx:wr.cell? ⟨b1,o1,none⟩=some (.int .i64 x):=hcell1 0 x rfl;have hx64:=hr64 x (List.mem_cons_self ..);obtain⟨b2,o2,rfl,hb2,hcell2⟩:=hq (by simp);have hcy:wr.cell? ⟨b2,o2,none⟩=some (.int .i64 y):=hcell2 0 y rfl;have hy64:=hs64 y (List.mem_cons_self ..);rcases Int.lt_trichotomy x y with hxy | hxy | hxy
        · have hm:mergeU (x::r) (y::s)=x::mergeU r (y::s):=by rw[mergeU,if_pos hxy]
          have hmin:min x y=x:=by omega
          have hne:¬y=x:=by omega
          obtain⟨fn,tmps,assign,body,hy,hR⟩:=hY pre x wr hJs (by rw[he,hm];simp);simp only[List.length_cons] at hc1 hc2
          gi_wp2
          all_goals clear hY
          all_goals refine hR.mono ?_
          all_goals rintro e W3 (⟨rfl,hJ3,hk3⟩ | ⟨rfl,hJx3⟩)
          all_goals gi_wp2
          all_goals first
            | (refine bodyPost_ret (results_none rfl _ _ _) rfl ?_
               exact⟨⟨_,rfl⟩,.inr ⟨pre++[x],⟨mergeU r (y::s),by rw[he,hm];simp⟩,hJx3⟩⟩)
            | (go_roundw
               case rel=>exact⟨pre++[x],r,y::s,by rw[he,hm];simp,(by first | exact (IsInts.none (by omega) (by omega)).below hk3 | exact (IsInts.tail (by omega) hb1 hcell1).below hk3),IsInts.below hk3 ⟨_,_,rfl,by simpa using hc2,fun _=>⟨b2,o2,rfl,hb2,hcell2⟩⟩,mem_tail hr64,hs64,hJ3⟩
               case measure=>first | (simp [lenV];done) | (simp [lenV];omega))
        · subst hxy;have hm:mergeU (x::r) (x::s)=x::mergeU r s:=by rw[mergeU,if_neg (by omega),if_neg (by omega)]
          have hmin:min x x=x:=by omega
          obtain⟨fn,tmps,assign,body,hy,hR⟩:=hY pre x wr hJs (by rw[he,hm];simp);simp only[List.length_cons] at hc1 hc2
          gi_wp2
          all_goals clear hY
          all_goals refine hR.mono ?_
          all_goals rintro e W3 (⟨rfl,hJ3,hk3⟩ | ⟨rfl,hJx3⟩)
          all_goals gi_wp2
          all_goals first
            | (refine bodyPost_ret (results_none rfl _ _ _) rfl ?_
               exact⟨⟨_,rfl⟩,.inr ⟨pre++[x],⟨mergeU r s,by rw[he,hm];simp⟩,hJx3⟩⟩)
            | (go_roundw
               case rel=>exact⟨pre++[x],r,s,by rw[he,hm];simp,(by first | exact (IsInts.none (by omega) (by omega)).below hk3 | exact (IsInts.tail (by omega) hb1 hcell1).below hk3),(by first | exact (IsInts.none (by omega) (by omega)).below hk3 | exact (IsInts.tail (by omega) hb2 hcell2).below hk3),mem_tail hr64,mem_tail hs64,hJ3⟩
               case measure=>first | (simp [lenV];done) | (simp [lenV];omega))
        · have hm:mergeU (x::r) (y::s)=y::mergeU (x::r) s:=by rw[mergeU,if_neg (by omega),if_pos hxy]
          have hmin:min x y=y:=by omega
          have hne:¬x=y:=by omega
          obtain⟨fn,tmps,assign,body,hy,hR⟩:=hY pre y wr hJs (by rw[he,hm];simp);simp only[List.length_cons] at hc1 hc2
          gi_wp2
          all_goals clear hY
          all_goals refine hR.mono ?_
          all_goals rintro e W3 (⟨rfl,hJ3,hk3⟩ | ⟨rfl,hJx3⟩)
          all_goals gi_wp2
          all_goals first
            | (refine bodyPost_ret (results_none rfl _ _ _) rfl ?_
               exact⟨⟨_,rfl⟩,.inr ⟨pre++[y],⟨mergeU (x::r) s,by rw[he,hm];simp⟩,hJx3⟩⟩)
            | (go_roundw
               case rel=>exact⟨pre++[y],x::r,s,by rw[he,hm];simp,IsInts.below hk3 ⟨_,_,rfl,by simpa using hc1,fun _=>⟨b1,o1,rfl,hb1,hcell1⟩⟩,(by first | exact (IsInts.none (by omega) (by omega)).below hk3 | exact (IsInts.tail (by omega) hb2 hcell2).below hk3),hr64,mem_tail hs64,hJ3⟩
               case measure=>first | (simp [lenV];done) | (simp [lenV];omega))
end
theorem own_null {E:Env} (h:E.bx.length=0) (x:Slot):own E ⟨[],[],[]⟩ x=none:=by
  cases x<;>simp [own,h]
theorem fn_kit {P:Program} {f:FuncId} {ins:List SV} {G:Type} {post:G->Prop} {out:G->SV}
    (h:∀(S:Nat->Prop) (E:Env) (w:World) (vs:List Value),RelVs S E w ins vs->Calls P f vs.toArray w fun e w'=>∃g v,e=.returned v/\post g/\KeepBut (fun _=>False) w w'/\RelV (Grow S w w') E w' (out g) v) :
    Fn P f ins ⟨[],[],[]⟩ G post out (fun _=>⟨[],[],[]⟩):=by
  intro S E w vs _ _ _ hm hv;refine (h S E w vs hv).mono ?_;rintro e w' ⟨g,v,he,hp,hk,hr⟩;have hA:∀b,Grow S w w' b->After S w w' E ⟨[],[],[]⟩ b:=fun b hb=>⟨hb,fun x=>by rw[own_null hm.nbx];exact fun h=>by cases h⟩
  refine⟨g,v,E,he,hp,⟨⟨hk.os,hk.tape,hk.output,hk.size,fun b hb _=>hk.block b hb id⟩,fun _ _ h=>h,fun _ _ h=>h,fun x b hx=>?_,fun j k b r hr=>?_,⟨hm.nbx,hm.nrw,hm.nfp,fun j p b hp=>?_,fun j r v hr=>?_,fun x y b hx=>?_,fun x b hx=>?_⟩⟩,hr.mono (fun _ _=>rfl) hA E.le_refl⟩
  · rw[own_null hm.nbx] at hx;cases hx
  · simp at hr
  · simp at hp
  · simp at hr
  · rw[own_null hm.nbx] at hx;cases hx
  · rw[own_null hm.nbx] at hx;cases hx
theorem fn_kit_own {P:Program} {f:FuncId} {ins:List SV} {tid:TypeId} {e:OT} {ds:List Dat} {out:SV} {wrap:Value->Value} (he:e.isMp=false)
    (hout:∀(S:Nat->Prop) (E:Env) (w:World) (v:Value),RelV S E w (.own 0) v->RelV S E w out (wrap v)) (hlen:ds.length<=140737488355328)
    (h:∀(S:Nat->Prop) (E:Env) (w:World) (vs:List Value),(∀b,S b->b<w.heap.size)->RelVs S E w ins vs->Calls P f vs.toArray w fun x w'=>∃v xs,x=.returned (wrap v)/\KeepBut (fun _=>False) w w'/\ownsAt w' tid e.size v ds.length xs/\(∀(S:Nat->Prop) (H:Nat->Hd),Elems (fun i=>Own S w' e (H i) 0) 0 xs ds [])/\∀b,v.ownBlock=some b->w.heap.size<=b) :
    Fn P f ins ⟨[],[],[]⟩ Unit (fun _=>True) (fun _=>out) (fun _=>⟨[],[],[⟨tid,e,ds,0,false⟩]⟩):=by
  intro S E w vs hS _ _ hm hv;refine (h S E w vs hS hv).mono ?_;rintro x w' ⟨v,xs,he',hk,ho,hel,hb⟩;obtain⟨g,cp,hvs,_⟩:=slice_of_owns ho;have hhead:isHead v:=.inl ⟨_,_,_,hvs⟩;have hown:∀x b,own (Env.mk [] [v] [v.ownBlock.toList] (fun _ _=>v) E.bo E.w0) ⟨[],[],[⟨tid,e,ds,0,false⟩]⟩ x=some b->v.ownBlock=some b/\x=.r 0 0:=by
    intro x b hx;cases x with
    | b j=>simp [own] at hx
    | r j k=>
      cases j with
      | zero=>
        simp only[own,List.getElem?_cons_zero,if_true,Option.bind_some] at hx;cases ho':v.ownBlock with
        | none=>rw[ho'] at hx;simp at hx
        | some b'=>
          rw[ho'] at hx;cases k with
          | zero=>simp at hx;subst hx;exact⟨rfl,rfl⟩
          | succ k=>simp at hx
      | succ j=>simp [own] at hx
  refine⟨(),wrap v,⟨[],[v],[v.ownBlock.toList],fun _ _=>v,E.bo,E.w0⟩,he',trivial,⟨⟨hk.os,hk.tape,hk.output,hk.size,fun b hb _=>hk.block b hb id⟩,fun j b hj=>?_,fun j u hj=>?_,fun x b hx=>.inr (hb b (hown x b hx).1),fun j k b r hr _ hx=>hb b (hown _ b hx).1,⟨rfl,rfl,rfl,fun j p b hp=>?_,fun j r u hr hu=>?_,fun x y b hx hy=>(hown x b hx).2.trans (hown y b hy).2.symm,fun x b hx=>⟨fun hA=>hA.2 x hx,?_⟩⟩⟩,hout _ _ _ _ ⟨rfl,hhead⟩⟩
  · have:=hm.nbx
    rw[List.eq_nil_of_length_eq_zero this] at hj;simp at hj
  · have:=hm.nrw
    rw[List.eq_nil_of_length_eq_zero this] at hj;simp at hj
  · simp at hp
  · cases j with
    | succ j=>simp at hr
    | zero=>
      simp at hr hu;subst hr;subst hu;refine⟨hhead,fun _=>⟨v.ownBlock.toList,rfl,?_⟩,fun h=>by cases h⟩;rw[headT_sl he];exact⟨ds,xs,[],rfl,rfl,ho,hlen,hel _ _,by simp⟩
  · exact ownsAt_lt ho b (hown x b hx).1
theorem fn_kit_row {P:Program} {f:FuncId} {ins:List SV} {tid:TypeId} {e:OT} (he:e.isMp=false)
    (h:∀(S:Nat->Prop) (E:Env) (w:World) (vs:List Value),RelVs S E w ins vs->Calls P f vs.toArray w fun x w'=>∃v,x=.returned v/\KeepBut (fun _=>False) w w'/\ownsAt w' tid e.size v 0 []/\∀b,v.ownBlock=some b->w.heap.size<=b) :
    Fn P f ins ⟨[],[],[]⟩ Unit (fun _=>True) (fun _=>.own 0) (fun _=>⟨[],[],[⟨tid,e,[],0,false⟩]⟩):=
  fn_kit_own (ds:=[]) (wrap:=fun v=>v) he (fun _ _ _ _ h=>h) (by simp) (fun S E w vs _ hv=>(h S E w vs hv).mono (by
    rintro x w' ⟨v,h1,h2,h3,h4⟩;exact⟨v,[],h1,h2,h3,fun _ _=>⟨rfl,rfl⟩,h4⟩))
theorem elems_nums {S:Nat->Prop} {w:World} {H:Nat->Hd}:∀(zs:List Int) (m:Nat),(∀z∈zs,Has .i64 z)->Elems (fun i=>Own S w (.im (.int .i64)) (H i) 0) m (zs.map (Value.int .i64)) (zs.map Dat.int) []
  | [],_,_=>⟨rfl,rfl⟩
  | z::zs,m,h=>⟨[.int .i64 z],zs.map (Value.int .i64),[],[],rfl,rfl,⟨⟨z,rfl,rfl,h z (List.mem_cons_self ..)⟩,rfl⟩,elems_nums zs (m+1) (fun y hy=>h y (List.mem_cons_of_mem _ hy))⟩
section
open Go.Shelf
attribute [local go_sem] Oper.semAt_some
set_option maxHeartbeats 1000000 in
theorem marksOf_in (n:Nat) (g1 g2:Option Addr) (n1 n2 c1 c2:Nat) (w:World):CallsIn Fence.wide n Tryz.prog 212 #[.slice g1 n1 c1,.slice g2 n2 c2] w fun e w'=>
    e=.returned (.func (.func 224) #[] #[.pointer (some ⟨w.heap.size,0,none⟩),.pointer (some ⟨w.heap.size+1,0,none⟩)])/\w'=(w.alloc (.cells #[.slice g1 n1 c1] 34)).alloc (.cells #[.slice g2 n2 c2] 34):=by
  refine callsIn_of_wp Tryz.func212 rfl trivial ?_ rfl;simp only[Tryz.ntmps212,List.size_toArray,List.length_cons,List.length_nil,Nat.reduceAdd,Nat.reduceSub,Array.replicate_succ,Array.replicate_zero,List.push_toArray,List.append_toArray,List.nil_append,List.cons_append]
  gi_wp2
  go_ret
  exact⟨rfl,rfl⟩
theorem marks_stops (n:Nat) (hn:1<=n) (A B n₀:Nat) (va vb:Value) (xs ys:List Int) (hxs:∀x∈xs,x<64) (hys:∀y∈ys,y<64) (w:World) (hAl:A<w.heap.size) (hBl:B<w.heap.size) (hn₀:n₀<=w.heap.size)
    (hA:w.cell? ⟨A,0,none⟩=some va) (hB:w.cell? ⟨B,0,none⟩=some vb) (ha:IsInts n₀ w va xs) (hb:IsInts n₀ w vb ys) :
    SeqStopsK Fence.wide n Tryz.prog 224 #[.pointer (some ⟨A,0,none⟩),.pointer (some ⟨B,0,none⟩)] (fun x:Int=>#[Value.int .i64 x]) (Below n₀) (fun zs=>zs=mergeU xs ys) (fun pre=>pre <+: mergeU xs ys) (mergeU xs ys).length w:=fun l J Jx W hW hJ _ hY h0=>
  marks1_in n hn l A B n₀ va vb xs ys hxs hys J Jx (fun s W k hs=>hJ s W _ none hs ⟨rfl,rfl,rfl,Nat.le_refl _,fun _ _ _=>rfl⟩ (fun r hr=>by cases hr)) hY W ((hW.cell (p:=⟨A,0,none⟩) hAl).trans hA) ((hW.cell (p:=⟨B,0,none⟩) hBl).trans hB) (ha.below (hW.mono hn₀)) (hb.below (hW.mono hn₀)) h0
theorem info_int:(Tryz.prog.info? 3).map (fun i=>(i.zero,i.size,i.bytes))=some (some (.int .i64 0),1,8):=by kernel_rfl
set_option maxHeartbeats 4000000 in
theorem least_in (n:Nat) (hn:3<=n) (va vb:Value) (xs ys:List Int) (hxs:∀x∈xs,x<64) (hys:∀y∈ys,y<64) (w:World) (ha:IsInts w.heap.size w va xs) (hb:IsInts w.heap.size w vb ys) :
    CallsIn Fence.wide n Tryz.prog 187 #[va,vb] w fun e W'=>∃v,e=.returned (.agg #[v])/\W'.ownsRow w.heap.size 3 1 v ((mergeU xs ys).take 6).length (((mergeU xs ys).take 6).map (Value.int .i64))/\Below w.heap.size w W':=by
  obtain⟨g1,c1,rfl,hc1,hp1⟩:=ha;obtain⟨g2,c2,rfl,hc2,hp2⟩:=hb;have h1:1<=n:=by omega
  obtain⟨i0,hi,hz0,hz1,hz2⟩:=info_parts info_int;have hmk:∀W:World,(Instr.makeSlice 34 (.int .i64 0) (.int .i64 6)).run Tryz.prog W=.ok (.slice (some ⟨W.heap.size,0,none⟩) 0 6) (W.alloc (.cells (madeCells (Value.int .i64 0).cells 6) 3)):=fun W=>by
    have h:=run_makeSlice (P:=Tryz.prog) W 34 3 i0 (.int .i64 0) Tryz.underlying34 hi hz0 .i64 .i64 0 6 (by omega) (by omega) (by rw[hz1];decide) (by rw[hz2];decide) (by decide);rw[hz1] at h;simpa using h
  refine callsIn_of_wp_marks Tryz.func187 rfl trivial ?_ rfl;simp only[Tryz.ntmps187,List.size_toArray,List.length_cons,List.length_nil,Nat.reduceAdd,Nat.reduceSub,Array.replicate_succ,Array.replicate_zero,List.push_toArray,List.append_toArray,List.nil_append,List.cons_append]
  gi_wp2_with (refine⟨trivial,?_⟩;gi_at_call 212;refine (marksOf_in (n-1) _ _ _ _ _ _ _).mono ?_;rintro e w' ⟨rfl,rfl⟩)
  obtain⟨O1,hO1⟩:∃O1,Obj.cells (madeCells #[Value.int IntKind.i64 0] 6) 3=O1:=⟨_,rfl⟩;have bR:=(((Boxed.new w 36 (.slice none 0 0)).alloc O1).alloc (.cells #[.slice (some ⟨w.heap.size+1,0,none⟩) 0 6] 34)).alloc (.cells #[.slice g1 xs.length c1] 34);have bR:=bR.alloc (.cells #[.slice g2 ys.length c2] 34);have bK:=((Boxed.new ((w.alloc (.cells #[.slice none 0 0] 36)).alloc O1) 34 (.slice (some ⟨w.heap.size+1,0,none⟩) 0 6)).alloc (.cells #[.slice g1 xs.length c1] 34)).alloc (.cells #[.slice g2 ys.length c2] 34);have bA:=(Boxed.new (((w.alloc (.cells #[.slice none 0 0] 36)).alloc O1).alloc (.cells #[.slice (some ⟨w.heap.size+1,0,none⟩) 0 6] 34)) 34 (.slice g1 xs.length c1)).alloc (.cells #[.slice g2 ys.length c2] 34)
  have bB:=Boxed.new ((((w.alloc (.cells #[.slice none 0 0] 36)).alloc O1).alloc (.cells #[.slice (some ⟨w.heap.size+1,0,none⟩) 0 6] 34)).alloc (.cells #[.slice g1 xs.length c1] 34)) 34 (.slice g2 ys.length c2);have hB0:Below w.heap.size w (((((w.alloc (.cells #[.slice none 0 0] 36)).alloc O1).alloc (.cells #[.slice (some ⟨w.heap.size+1,0,none⟩) 0 6] 34)).alloc (.cells #[.slice g1 xs.length c1] 34)).alloc (.cells #[.slice g2 ys.length c2] 34)):=
    (((((Below.refl _ w).alloc (Nat.le_refl _) _).alloc (by simp) _).alloc (by simp;omega) _).alloc (by simp;omega) _).alloc (by simp;omega) _
  have hrow0:(((((w.alloc (.cells #[.slice none 0 0] 36)).alloc O1).alloc (.cells #[.slice (some ⟨w.heap.size+1,0,none⟩) 0 6] 34)).alloc (.cells #[.slice g1 xs.length c1] 34)).alloc (.cells #[.slice g2 ys.length c2] 34)).ownsRow w.heap.size 3 1 (.slice (some ⟨w.heap.size+1,0,none⟩) 0 6) 0 []:=by
    have hr:((w.alloc (.cells #[.slice none 0 0] 36)).alloc O1).ownsRow w.heap.size 3 1 (.slice (some ⟨w.heap.size+1,0,none⟩) 0 6) 0 []:=
      ⟨rfl,.inr ⟨w.heap.size+1,6,_,rfl,by omega,by rw[<- hO1];simpa using World.alloc_heap_new (w.alloc (.cells #[.slice none 0 0] 36)) (Obj.cells (madeCells #[Value.int IntKind.i64 0] 6) 3),by omega,by decide,by simp [madeCells],rfl⟩⟩
    exact ((hr.alloc _).alloc _).alloc _
  simp only[World.size_alloc] at bK bA bB;rw[hO1];generalize hW0:(((((w.alloc (.cells #[.slice none 0 0] 36)).alloc O1).alloc (.cells #[.slice (some ⟨w.heap.size+1,0,none⟩) 0 6] 34)).alloc (.cells #[.slice g1 xs.length c1] 34)).alloc (.cells #[.slice g2 ys.length c2] 34))=W0 at *
  have hsz:W0.heap.size=w.heap.size+5:=by rw[<- hW0];simp
  clear hW0;have hia:IsInts w.heap.size W0 (.slice g1 xs.length c1) xs:=IsInts.below hB0 ⟨g1,c1,rfl,hc1,hp1⟩;have hib:IsInts w.heap.size W0 (.slice g2 ys.length c2) ys:=IsInts.below hB0 ⟨g2,c2,rfl,hc2,hp2⟩;refine wpIn_rangeFunc_ownG (w0:=W0) rfl h1 (gf:=224) (lb:=#[.pointer (some ⟨w.heap.size+1+1+1,0,none⟩),.pointer (some ⟨w.heap.size+1+1+1+1,0,none⟩)]) rfl trivial (enters_of Tryz.func224 (by kernel_rfl) rfl)
    (marks_stops (n-1) (by omega) (w.heap.size+1+1+1) (w.heap.size+1+1+1+1) w.heap.size _ _ xs ys hxs hys W0 (by omega) (by omega) (by omega) bA.cell bB.cell hia hib) belowK_t (belowK_b (by omega)) (Below.refl _ _) (fun _=>rfl)
    (fun pre W=>((∃v,Boxed W (w.heap.size+1+1) 34 v/\W.ownsRow w.heap.size 3 1 v pre.length (pre.map (Value.int .i64))/\pre.length<=6)/\Boxed W w.heap.size 36 (.slice none 0 0))/\Below w.heap.size w W)
    (fun c pre W=>(c=.exit 0)/\((∃v,Boxed W (w.heap.size+1+1) 34 v/\W.ownsRow w.heap.size 3 1 v 6 ((pre.take 6).map (Value.int .i64))/\pre.length=7)/\Boxed W w.heap.size 36 (.slice none 0 0))/\Below w.heap.size w W)
    (OwnFrom.and (OwnFrom.and (Own.from (holdsRow_own w.heap.size (w.heap.size+1+1) 34 3 1 (fun (pre:List Int)=>pre.length) (fun (pre:List Int)=>pre.map (Value.int .i64)) (fun (pre:List Int) _=>pre.length<=6)) _) (Own.from (boxed_own w.heap.size 36 (fun (_:List Int)=>.slice none 0 0)) _)) (ownFrom_below (Nat.le_refl _) (by omega)))
    (fun c=>OwnFrom.and (ownFrom_pure _ (fun (_:List Int)=>c=.exit 0)) (OwnFrom.and (OwnFrom.and (Own.from (holdsRow_own w.heap.size (w.heap.size+1+1) 34 3 1 (fun (_:List Int)=>6) (fun (pre:List Int)=>(pre.take 6).map (Value.int .i64)) (fun (pre:List Int) _=>pre.length=7)) _) (Own.from (boxed_own w.heap.size 36 (fun (_:List Int)=>.slice none 0 0)) _)) (ownFrom_below (Nat.le_refl _) (by omega))))
    ⟨⟨⟨_,bK,hrow0,Nat.zero_le _⟩,bR⟩,hB0⟩
    (fun x=>{ tmps:=#[.slice g1 xs.length c1,.slice g2 ys.length c2,undef,undef,.pointer (some ⟨w.heap.size,0,none⟩),.pointer (some ⟨w.heap.size+1+1,0,none⟩),.int .i64 x,.slice (some ⟨w.heap.size+1,0,none⟩) 0 6,.slice g1 xs.length c1,.slice g2 ys.length c2,.func (.func 224) #[] #[.pointer (some ⟨w.heap.size+1+1+1,0,none⟩),.pointer (some ⟨w.heap.size+1+1+1+1,0,none⟩)],.int .i64 x,undef,undef,undef,undef,undef,undef,undef,undef,undef],defers:=[]}) ?assign ?body ?done ?stop
  case assign=>
    intro l x W K hK
    gi_wp2
    exact hK
  case body=>
    rintro l pre x W ⟨⟨⟨v,hv,hrow,h6⟩,hR⟩,hB⟩ hlt;have hc:=hv.cell;obtain⟨gv,cv,rfl⟩:∃gv cv,v=.slice gv pre.length cv:=by
      rcases hrow.2 with ⟨rfl,h0⟩ | ⟨g,cap,_,rfl,_⟩
      · exact⟨none,0,by rw[h0]⟩
      · exact⟨_,cap,rfl⟩
    by_cases he:pre.length=6
    · gi_wp2
      have e:(pre++[x]).take 6=pre:=by rw[<- he];simp
      exact⟨KeepsFrom.refl _ _,rfl,⟨⟨_,hv,by rw[e,<- he];exact hrow,by simp [he]⟩,hR⟩,hB⟩
    · have he2:¬(pre.length:Int)=6:=by omega
      gi_wp2_with (gi_at_builtin;refine wpListIn_append_own _ rfl _ _ 34 rfl w.heap.size 3 i0 (.int .i64 0) 1 8 Tryz.underlying34 hi hz0 hz1 hz2 rfl (by decide) _ _ _ rfl (hrow.alloc _) ⟨W.heap.size,0,none⟩ 1 1 [.int .i64 x] rfl rfl (cell_one_new _ _ _) (by simp [Value.oneCell']) (by simp only[maxLen];omega) (by omega) (by have:=hB.size;simp;omega) ?_;intro v' w1 hown' hgrow _;obtain⟨g',cap',rfl⟩:=ownsRow_succ hown';obtain⟨hv1,hv2,hr2,hk2,hb2⟩:=hv.appended (by decide) hrow hB.size (by omega) hown' hgrow;have hc1:=hv1.cell;have hf1:=hv1.frozen)
      have hR':=((hR.alloc _).kept hgrow (hR.not_row (by decide) hrow)).other (B':=w.heap.size+1+1) (by omega) (.slice (some ⟨g',0,none⟩) (pre.length+1) cap');exact⟨hk2.from _,hb2,⟨⟨⟨_,hv2,by simpa using hr2,by simp;omega⟩,hR'⟩,hB.trans hb2⟩⟩
  case done=>
    rintro D zs W hD rfl ⟨⟨⟨v,hv,hrow,h6⟩,hR⟩,hB⟩ hK;have hc:=hv.cell;clear hO1 bK bA bB hrow0 hB0 hia hib hp1 hp2 hmk bR;obtain⟨gv,nv,cv,rfl⟩:∃gv nv cv,v=.slice gv nv cv:=by
      rcases hrow.2 with ⟨rfl,h0⟩ | ⟨g,cap,_,rfl,_⟩
      · exact⟨none,0,0,rfl⟩
      · exact⟨_,_,cap,rfl⟩
    have hcR:=hR.cell;have hfR:=hR.frozen
    gi_wp2
    have hK2:=(KeepsOthers.setCell W ⟨w.heap.size,0,none⟩ (.slice gv nv cv)).same D _ hK rfl;have hrow2:=hrow.kept (grownBy_setCell' W w.heap.size (.slice gv nv cv)) (.inr (hR.not_row (by decide) hrow).symm);have hR2:=hR.set (.slice gv nv cv);refine⟨by simp,.inl ⟨_,_,rfl,run_takeDeferred hK2,?_⟩⟩;have hB2:Below w.heap.size w ((W.setCell ⟨w.heap.size,0,none⟩ (.slice gv nv cv)).putObj D (.deferred none)):=(hB.setCell (p:=⟨w.heap.size,0,none⟩) (Nat.le_refl _) _).trans (belowK_b (w:=w) (Nat.le_refl _) _ D _ _ (by omega) hK2 rfl rfl);have hrow3:=ownsRow_putObj hrow2 (.deferred none) hK2 rfl;have hR3:((W.setCell ⟨w.heap.size,0,none⟩ (.slice gv nv cv)).putObj D (.deferred none)).heap[w.heap.size]?=some (.cells #[.slice gv nv cv] 36 (0,0)):=(grownBy_putObj' _ D (.deferred none)).block _ (by have:=hR2.lt;exact this) (by simp;omega) |>.trans hR2
    rw[List.take_of_length_le h6];exact⟨_,results_cell_row rfl _ _ w.heap.size 36 _ _ _ rfl hR3 Tryz.underlying36 rfl (by kernel_rfl),_,rfl,hrow3,hB2⟩
  case stop=>
    rintro D c pre W hD hpre ⟨rfl,⟨⟨v,hv,hrow,h6⟩,hR⟩,hB⟩ hK;have hc:=hv.cell;clear hO1 bK bA bB hrow0 hB0 hia hib hp1 hp2 hmk bR;obtain⟨gv,nv,cv,rfl⟩:∃gv nv cv,v=.slice gv nv cv:=by
      rcases hrow.2 with ⟨rfl,h0⟩ | ⟨g,cap,_,rfl,_⟩
      · exact⟨none,0,0,rfl⟩
      · exact⟨_,_,cap,rfl⟩
    have hcR:=hR.cell;have hfR:=hR.frozen
    gi_wp2
    have hK2:=(KeepsOthers.setCell W ⟨w.heap.size,0,none⟩ (.slice gv nv cv)).same D _ hK rfl;have hrow2:=hrow.kept (grownBy_setCell' W w.heap.size (.slice gv nv cv)) (.inr (hR.not_row (by decide) hrow).symm);have hR2:=hR.set (.slice gv nv cv);refine⟨by simp,.inl ⟨_,_,rfl,run_takeDeferred hK2,?_⟩⟩;have hB2:Below w.heap.size w ((W.setCell ⟨w.heap.size,0,none⟩ (.slice gv nv cv)).putObj D (.deferred none)):=(hB.setCell (p:=⟨w.heap.size,0,none⟩) (Nat.le_refl _) _).trans (belowK_b (w:=w) (Nat.le_refl _) _ D _ _ (by omega) hK2 rfl rfl);have hrow3:=ownsRow_putObj hrow2 (.deferred none) hK2 rfl;have hR3:((W.setCell ⟨w.heap.size,0,none⟩ (.slice gv nv cv)).putObj D (.deferred none)).heap[w.heap.size]?=some (.cells #[.slice gv nv cv] 36 (0,0)):=(grownBy_putObj' _ D (.deferred none)).block _ (by have:=hR2.lt;exact this) (by simp;omega) |>.trans hR2
    have e:(mergeU xs ys).take 6=pre.take 6:=by
      obtain⟨r,hr⟩:=hpre;rw[<- hr,List.take_append_of_le_length (by omega)]
    have e6:(pre.take 6).length=6:=by rw[List.length_take];omega
    rw[e,e6];exact⟨_,results_cell_row rfl _ _ w.heap.size 36 _ _ _ rfl hR3 Tryz.underlying36 rfl (by kernel_rfl),_,rfl,hrow3,hB2⟩
theorem isInts_of {S:Nat->Prop} {E:Env} {w:World} {v:Value} {a:List Dat} (hS:∀b,S b->b<w.heap.size) (h:RelV S E w (.sl (.int .i64) a) v):IsInts w.heap.size w v (ints a)/\∀x∈ints a,Has .i64 x:=by
  obtain⟨g,n,c,ds,h1,h2,h3,h4,h5,h6⟩:=h;simp at h1 h2;subst h2;have hl:(ints a).length=n:=by simp [ints,h3]
  refine⟨⟨g,c,by rw[hl];exact h1,by omega,fun hne=>?_⟩,fun x hx=>?_⟩
  · obtain⟨b,o,hb,hSb,hcell⟩:=h6 (fun h0=>hne (List.eq_nil_of_length_eq_zero (by omega)));refine⟨b,o,hb,hS b hSb,fun i x hx=>?_⟩;simp only[ints,List.getElem?_map] at hx;obtain⟨d,hd,rfl⟩:=Option.map_eq_some_iff.1 hx;obtain⟨es,hr,k,h7,h8,_⟩:=hcell i d hd;subst h7;subst h8
    have:=hr 0 _ rfl
    simpa [Ty.size,Dat.toInt] using this
  · obtain⟨i,hi,rfl⟩:=List.getElem_of_mem hx;have hia:i<a.length:=by simpa [ints] using hi
    obtain⟨b,o,hb,hSb,hcell⟩:=h6 (by omega);obtain⟨es,hr,k,h7,h8,h9⟩:=hcell i a[i] (List.getElem?_eq_getElem hia)
    have:(ints a)[i]=k:=by simp [ints,h8,Dat.toInt]
    rw[this];exact h9
theorem mem_mergeU:∀{a b:List Int} {x:Int},x∈mergeU a b->x∈a\/x∈b
  | [],b,x,h=>.inr (by simpa [mergeU] using h)
  | y::a,[],x,h=>.inl (by simpa [mergeU] using h)
  | y::a,z::b,x,h=>by
    unfold mergeU at h;split at h
    · rcases List.mem_cons.1 h with rfl | h
      · exact .inl (List.mem_cons_self ..)
      · rcases mem_mergeU h with h | h
        · exact .inl (List.mem_cons_of_mem _ h)
        · exact .inr h
    · split at h
      · rcases List.mem_cons.1 h with rfl | h
        · exact .inr (List.mem_cons_self ..)
        · rcases mem_mergeU h with h | h
          · exact .inl h
          · exact .inr (List.mem_cons_of_mem _ h)
      · rcases List.mem_cons.1 h with rfl | h
        · exact .inl (List.mem_cons_self ..)
        · rcases mem_mergeU h with h | h
          · exact .inl (List.mem_cons_of_mem _ h)
          · exact .inr (List.mem_cons_of_mem _ h)
  termination_by a b=>a.length+b.length
theorem iLeast_fn (a b:List Dat) (ha:∀x∈ints a,x<64) (hb:∀x∈ints b,x<64):Fn Tryz.prog 187 [.sl (.int .i64) a,.sl (.int .i64) b] ⟨[],[],[]⟩ Unit (fun _=>True) (fun _=>.agg [.own 0]) (fun _=>⟨[],[],[⟨3,.im (.int .i64),dInts ((mergeU (ints a) (ints b)).take 6),0,false⟩]⟩):=by
  have hl:(dInts ((mergeU (ints a) (ints b)).take 6)).length=((mergeU (ints a) (ints b)).take 6).length:=by simp [dInts]
  refine fn_kit_own (wrap:=fun v=>.agg #[v]) rfl (fun S E w v h=>⟨[v],rfl,v,[],rfl,h,rfl⟩) (by rw[hl,List.length_take];omega) fun S E w vs hS hv=>?_
  obtain⟨va,_,rfl,ha',vb,_,rfl,hb',rfl⟩:=hv;obtain⟨ia,na⟩:=isInts_of hS ha';obtain⟨ib,nb⟩:=isInts_of hS hb';refine (callsIn_wide.1 (least_in 3 (Nat.le_refl _) va vb (ints a) (ints b) ha hb w ia ib)).mono ?_;rintro x w' ⟨v,rfl,hrow,hB⟩;refine⟨v,_,rfl,⟨hB.os,hB.tape,hB.output,hB.size,fun b hb _=>hB.block b hb⟩,by rw[hl];exact ownsAt_of hrow,fun S H=>elems_nums _ 0 (fun z hz=>?_),fun b hb=>?_⟩
  · rcases mem_mergeU (List.mem_of_mem_take hz) with h | h
    · exact na z h
    · exact nb z h
  · rcases hrow.2 with ⟨rfl,_⟩ | ⟨g,cap,cur,rfl,hg,_⟩
    · simp [Value.ownBlock] at hb
    · simp [Value.ownBlock] at hb;omega
def iLeast_get (ins:List SV) (m:St):Option Got:=
  match ins,m with
  | [.sl (.int .i64) a,.sl (.int .i64) b],⟨[],[],[]⟩=>some ((∀x∈ints a,x<64)/\∀x∈ints b,x<64,.agg [.own 0],⟨[],[],[⟨3,.im (.int .i64),dInts ((mergeU (ints a) (ints b)).take 6),0,false⟩]⟩)
  | _,_=>none
theorem iLeast_ok:∀ins m p out m',iLeast_get ins m=some (p,out,m')->p->Fn Tryz.prog 187 ins m Unit (fun _=>True) (fun _=>out) (fun _=>m'):=by
  intro ins m p out m' h hp;unfold iLeast_get at h;split at h
  · cases h;exact iLeast_fn _ _ hp.1 hp.2
  · cases h
def iLeast_con:Con Tryz.prog:=.f0 187 [] true iLeast_get (enters Tryz.func187 (by kernel_rfl) rfl) iLeast_ok
end
theorem mergeU_one {m:Int}:∀{l:List Int},l.Pairwise (· < ·)->mergeU l [m]=fewPre l m true
  | [],_=>by simp [mergeU,fewPre]
  | x::a,h=>by
    obtain⟨h1,h2⟩:=List.pairwise_cons.1 h;have ih:=mergeU_one (m:=m) h2;rw[mergeU];by_cases h3:x<m
    · have h4:¬m<x:=by omega
      rw[if_pos h3,ih];simp [fewPre,h3,h4]
    · rw[if_neg h3,mergeU_nil,mergeU_nil];have e1:a.filter (fun y=>decide (y<m))=[]:=List.filter_eq_nil_iff.2 (fun y hy=>by have:=h1 y hy;simp;omega);have e2:a.filter (fun y=>decide (m<y))=a:=List.filter_eq_self.2 (fun y hy=>by have:=h1 y hy;simp;omega);by_cases h4:m<x
      · rw[if_pos h4];simp [fewPre,h3,h4,e1,e2]
      · have:x=m:=by omega
        subst this;rw[if_neg h4];simp [fewPre,e1,e2]
theorem few_pw {kept:List Dat} (h:FewTo kept kept.length):(ints kept).Pairwise (· < ·):=by
  refine List.pairwise_iff_getElem.2 fun i j hi hj hij=>?_
  have hi':i<kept.length:=by simpa [ints] using hi
  have hj':j<kept.length:=by simpa [ints] using hj
  have:=few_asc h j i hij hj'
  simp only[iv,List.getD_eq_getElem?_getD,List.getElem?_eq_getElem hi',List.getElem?_eq_getElem hj'] at this;simpa [ints] using this
theorem few_lt {kept:List Dat} (h:FewTo kept kept.length):∀x∈ints kept,0<=x/\x<64:=fun x hx=>by
  rw[<- List.take_length (l:=kept)] at hx;obtain⟨k,hk,rfl⟩:=mem_take (Nat.le_refl _) hx
  have:=h k hk;omega
theorem mark_rng (t:Int):0<=mark t/\mark t<64:=by unfold mark;omega
theorem iFewAdd_vc (kept:List Dat) (thing:Int) (hp:FewIn kept/\0<=thing/\thing<64) :
 WFl (Ty.int i64) kept->I64 thing->(True/\((!dec (FewIn kept))=false->True)/\True)/\((!dec (FewIn kept)||!dec (0<=thing/\thing<(64:Int)))=true->False)/\((!dec (FewIn kept) ||
 !dec (0<=thing/\thing<(64:Int)))=false->(0<=thing/\thing<(64:Int))/\((∀(x:Int),x∈ints kept->x<(64:Int))/\∀(x:Int),x∈ints [Dat.int (mark thing)]->x <
 (64:Int))/\dInts (List.take 6 (mergeU (ints kept) (ints [Dat.int (mark thing)])))=dInts (fewPut (ints kept) (mark thing))):=by
  intro _ _;simp only[iv,kv,fv,nm,ne_eq,implies_true,eq_self];obtain⟨hk,h1,h2⟩:=hp;have hm:=mark_rng thing;have e:ints [Dat.int (mark thing)]=[mark thing]:=rfl;refine⟨fun h=>?_,fun _=>⟨⟨h1,h2⟩,⟨fun x hx=>(few_lt hk.2 x hx).2,fun x hx=>?_⟩,?_⟩⟩
  · rcases h with h | h
    · exact h hk
    · exact h ⟨h1,h2⟩
  · rw[e] at hx;simp at hx;omega
  · rw[e,mergeU_one (few_pw hk.2),fewPut]
def iFewAdd_get (ins:List SV) (m:St):Option Got:=
  match ins,m with
  | [.agg [.sl (.int .i64) kept],.int .i64 thing],⟨[],[],[]⟩=>some (FewIn kept/\0<=thing/\thing<64,.tup [.agg [.own 0],.tt],St.mk [] [] [⟨3,.im (.int .i64),dInts (fewPut (ints kept) (mark thing)),0,false⟩])
  | _,_=>none
theorem iFewAdd_ok:Ok0 Tryz.prog 283 iFewAdd_get:=by
  intro _ _ _ _ _ h hp;unfold iFewAdd_get at h;split at h
  · rename_i kept thing;cases h;refine fn_ok0 (ct:=[iFewOk_con,iIsThing_con,iFewMark_con,iLeast_con]) (L:=fun _=>none) Tryz_follows Tryz.func283 ?_;apply VC.thru (iFewAdd_vc kept thing hp);kernel_rfl
  · cases h
def iFewAdd_con:Con Tryz.prog:=.f0 283 [] true iFewAdd_get (enters Tryz.func283 (by kernel_rfl) rfl) iFewAdd_ok
def addAll (a:List Int) (l:List (Int×Int)):List Int:=l.foldl (fun a p=>addAt a p.1.toNat p.2) a
theorem addAll_next (a:List Int) (l:List (Int×Int)) (p:Int×Int):addAll a (l++[p])=addAt (addAll a l) p.1.toNat p.2:=by
  unfold addAll;rw[List.foldl_append];rfl
theorem addAll_ns {a:List Int} {b:Int} (ha:NS a b) {l:List Dat} (h:KnotsTo l l.length):∀g,g<=l.length->NS (addAll a (prs (l.take g))) (b+4000*g)
  | 0,_=>by simpa [addAll,prs] using ha
  | g+1,hg=>by
    have ih:=addAll_ns ha h g (by omega);have hk:=h g (by omega);rw[prs_take_succ (by omega),addAll_next];refine NS.mono (ih.add (i:=(pI l g).1.toNat) (n:=(pI l g).2) (by simp only[pI];omega) (by simp only[pI];omega)) (by simp only[pI];omega)
def qTo (g:Nat):List Int:=(List.range g).map fun i:Nat=>63-(i:Int)
def qOf (j:Nat):List Int:=(List.range (64-j-(65-j) / 2)).map fun i:Nat=>63-(j:Int)-(i:Int)
theorem qOf_zero:qTo 32=qOf 0:=by decide
theorem qOf_next:∀j,j<63->(qOf j).drop 1++(if (63-(j:Int)) % 2=0 then [(63-(j:Int)) / 2] else [])=qOf (j+1)/\0<(qOf j).length/\(qOf j).getD 0 0=63-(j:Int):=by decide
theorem or_one:∀k:Nat,k<64->bitI .or .i64 (2*(k:Int)) 1=2*k+1:=by decide
theorem and_one:∀k:Nat,k<64->bitI .and .i64 (k:Int) 1=(k:Int) % 2:=by decide
theorem qOf_len:∀j,j<64->(qOf j).length<=64/\((qOf j).length=0->j=63):=by decide
theorem addKnots_vc (l a:List Dat) (hp:KnotsTo l l.length/\l.length<=1000/\NS (ints a) 10000000) :
 WFl TPr l->WFl (OT.im (Ty.int i64)).ty a->I64 (l.length:Int)->(∃x:Nat,x<=l.length/\0=0/\l=l/\(l.length:Int)=(l.length:Int)/\0=(x:Int)/\a=dInts (addAll (ints a) (prs
 (List.take x l))))/\∀x:Nat,x<=l.length->(decide ((x:Int)<(l.length:Int))->(0<=(x:Int)/\(x:Int)<(l.length:Int))/\(0<=((l.getD x default).f 0).toInt/\((l.getD x
 default).f 0).toInt<(↑(128:Nat):Int))/\((l.getD x default).f 0).toInt.toNat<(dInts (addAll (ints a) (prs (List.take x l)))).length/\(0<=((l.getD x default).f
 0).toInt/\((l.getD x default).f 0).toInt<(↑(128:Nat):Int))/\((l.getD x default).f 0).toInt.toNat<(dInts (addAll (ints a) (prs (List.take x l)))).length/\∃x_1:Nat,
 (x_1<=l.length/\l.length-x_1<l.length-x)/\0=0/\l=l/\(l.length:Int)=(l.length:Int)/\i64.wrap ((x:Int)+1)=(x_1:Int)/\(dInts (addAll (ints a) (prs (List.take x l)))).set
 ((l.getD x default).f 0).toInt.toNat (Dat.int (i64.wrap (((dInts (addAll (ints a) (prs (List.take x l)))).getD ((l.getD x default).f 0).toInt.toNat default).toInt+((l.getD x
 default).f 1).toInt)))=dInts (addAll (ints a) (prs (List.take x_1 l))))/\(decide ((x:Int)<(l.length:Int))=false->dInts (addAll (ints a) (prs (List.take x l)))=dInts (addAll
 (ints a) (prs l))):=by
  intro hw hwa;simp only[iv,kv,fv,nm,ne_eq,implies_true,eq_self];obtain⟨hk,hl,hns⟩:=hp;intro _;refine⟨⟨0,by omega,rfl,by simp [addAll,prs,dInts_ints hwa]⟩,fun x hx=>⟨fun hlt=>?_,fun hge=>by rw[List.take_of_length_le (by omega)]⟩⟩;have hx':x<l.length:=by omega
  have h1:=addAll_ns hns hk x (by omega);have h2:=hk x hx';simp only[fv] at h2;have hl1:(dInts (addAll (ints a) (prs (l.take x)))).length=128:=by simp [dInts,h1.1]
  have h3:=h1.get ((l.getD x default).f 0).toInt.toNat (by omega);have h4:=iv_dInts' (addAll (ints a) (prs (l.take x))) ((l.getD x default).f 0).toInt.toNat (by rw[h1.1];omega);simp only[iv] at h4;refine⟨by omega,by omega,by omega,by omega,by omega,x+1,by omega,up_ok (n:=l.length) hx' (by omega),?_⟩;rw[h4,wrap_ok (by omega) (by omega),dInts_set,prs_take_succ hx',addAll_next];rfl
def addKnots_get (ins:List SV) (m:St):Option Got:=
  match ins,m with
  | [.rp 0 [] 0 1 0,.sl ty0 l],⟨[],[],[⟨259,.im (.int .i64),a,0,true⟩]⟩=>guardTy ty0 TPr (some (KnotsTo l l.length/\l.length<=1000/\NS (ints a) 10000000,.tup [],St.mk [] [] [⟨259,.im (.int .i64),dInts (addAll (ints a) (prs l)),0,true⟩]))
  | _,_=>none
theorem addKnots_ok:Ok0 Tryz.prog 215 addKnots_get:=by
  intro _ _ _ _ _ h hp;unfold addKnots_get at h;split at h
  · replace h:=gT h;obtain⟨rfl,h⟩:=h;rename_i l a;cases h;refine fn_ok0 (ct:=[]) (L:=fun k=>bif Nat.beq k 1 then some (.g (⟨Nat,fun s g=>hdb s [0,6,7] [(8,.int .i64 g)] s.bx [⟨259,.im (.int .i64),dInts (addAll (ints a) (prs (l.take g))),0,true⟩],fun _ g=>g<=l.length,fun g=>l.length-g⟩)) else none) Tryz_follows Tryz.func215 ?_;apply VC.thru (addKnots_vc l a hp);kernel_rfl
  · cases h
def addKnots_con:Con Tryz.prog:=.f0 215 [.lend,.d] false addKnots_get (enters Tryz.func215 (by kernel_rfl) rfl) addKnots_ok
theorem squeezeI_vc (ds:List Dat) (all:Int) (hp:NS (ints ds) 10000000/\0<=all/\all<=10000) :
 I64 all->WFl (OT.im (Ty.int i64)).ty ds->(0<=(64:Int)/\(64:Int)*(↑(8:Nat):Int)<=281474976710656/\64<=(140737488355328:Int))/\(∃x:Nat,x<=32/\0=0/\all=all/\(63:Int) =
 (63:Int)-(x:Int)/\ds=ds/\([]:List Dat)=dInts (qTo x))/\∀x:Nat,x<=32->(decide ((63:Int)-(x:Int)>=(32:Int))->((dInts (qTo x)).length+1)*8<=140737488355328/\∃
 (x_1:Nat),(x_1<=32/\32-x_1<32-x)/\0=0/\all=all/\i64.wrap ((63:Int)-(x:Int)-1)=(63:Int)-(x_1:Int)/\ds=ds/\dInts (qTo x)++[Dat.int ((63:Int)-(x:Int))]=dInts (qTo
 x_1))/\(decide ((63:Int)-(x:Int)>=(32:Int))=false->(∃x_1:Nat,x_1<=63/\0=0/\all=all/\ds=dInts (sqUpto (ints ds) all x_1)/\dInts (qTo x)=dInts (qOf x_1))/\∀x:Nat,
 x<=63->I64 (↑(dInts (qOf x)).length:Int)->(decide ((↑(dInts (qOf x)).length:Int) > (0:Int))->(0<=(0:Int)/\0<(↑(dInts (qOf x)).length:Int))/\0<(dInts (qOf
 x)).length/\(I64 ((dInts (qOf x)).getD 0 default).toInt->1<=(dInts (qOf x)).length/\0<=(1:Int)/\0<=(1:Int)/\(0<=i64.wrap (((dInts (qOf x)).getD 0 default).toInt*(2:Int)
 ^ min 1 i64.bits)/\i64.wrap (((dInts (qOf x)).getD 0 default).toInt*(2:Int) ^ min 1 i64.bits)<(↑(128:Nat):Int))/\(i64.wrap (((dInts (qOf x)).getD 0 default).toInt*(2:Int) ^ min
 1 i64.bits)).toNat<(dInts (sqUpto (ints ds) all x)).length/\(I64 ((dInts (sqUpto (ints ds) all x)).getD (i64.wrap (((dInts (qOf x)).getD 0 default).toInt*(2:Int) ^ min 1
 i64.bits)).toNat default).toInt->(0<=bitI BinOp.or i64 (i64.wrap (((dInts (qOf x)).getD 0 default).toInt*(2:Int) ^ min 1 i64.bits)) (1:Int)/\bitI BinOp.or i64 (i64.wrap
 (((dInts (qOf x)).getD 0 default).toInt*(2:Int) ^ min 1 i64.bits)) 1<(↑(128:Nat):Int))/\(bitI BinOp.or i64 (i64.wrap (((dInts (qOf x)).getD 0 default).toInt*(2:Int) ^
 min 1 i64.bits)) (1:Int)).toNat<(dInts (sqUpto (ints ds) all x)).length/\(I64 ((dInts (sqUpto (ints ds) all x)).getD (bitI BinOp.or i64 (i64.wrap (((dInts (qOf x)).getD 0
 default).toInt*(2:Int) ^ min 1 i64.bits)) (1:Int)).toNat default).toInt->((decide (i64.wrap (((dInts (sqUpto (ints ds) all x)).getD (i64.wrap (((dInts (qOf x)).getD 0
 default).toInt*(2:Int) ^ min 1 i64.bits)).toNat default).toInt+((dInts (sqUpto (ints ds) all x)).getD (bitI BinOp.or i64 (i64.wrap (((dInts (qOf x)).getD 0 default).toInt *
 (2:Int) ^ min 1 i64.bits)) (1:Int)).toNat default).toInt) > (0:Int))=true->(0<=((dInts (qOf x)).getD 0 default).toInt/\((dInts (qOf x)).getD 0 default).toInt <
 (↑(128:Nat):Int))/\((dInts (qOf x)).getD 0 default).toInt.toNat<(dInts (sqUpto (ints ds) all x)).length/\(I64 ((dInts (sqUpto (ints ds) all x)).getD ((dInts (qOf x)).getD 0
 default).toInt.toNat default).toInt->(8:Int)≠0))/\True)/\((decide (i64.wrap (((dInts (sqUpto (ints ds) all x)).getD (i64.wrap (((dInts (qOf x)).getD 0 default).toInt*(2:Int) ^
 min 1 i64.bits)).toNat default).toInt+((dInts (sqUpto (ints ds) all x)).getD (bitI BinOp.or i64 (i64.wrap (((dInts (qOf x)).getD 0 default).toInt*(2:Int) ^ min 1 i64.bits))
 (1:Int)).toNat default).toInt) > (0:Int))&&decide (i64.wrap (i64.wrap (((dInts (sqUpto (ints ds) all x)).getD (i64.wrap (((dInts (qOf x)).getD 0 default).toInt*(2:Int) ^ min 1
 i64.bits)).toNat default).toInt+((dInts (sqUpto (ints ds) all x)).getD (bitI BinOp.or i64 (i64.wrap (((dInts (qOf x)).getD 0 default).toInt*(2:Int) ^ min 1 i64.bits))
 (1:Int)).toNat default).toInt)+((dInts (sqUpto (ints ds) all x)).getD ((dInts (qOf x)).getD 0 default).toInt.toNat default).toInt)<=i64.wrap (all.tdiv (8:Int)))) =
 true->(0<=((dInts (qOf x)).getD 0 default).toInt/\((dInts (qOf x)).getD 0 default).toInt<(↑(128:Nat):Int))/\((dInts (qOf x)).getD 0 default).toInt.toNat<(dInts (sqUpto (ints
 ds) all x)).length/\(0<=((dInts (qOf x)).getD 0 default).toInt/\((dInts (qOf x)).getD 0 default).toInt<(↑(128:Nat):Int))/\((dInts (qOf x)).getD 0 default).toInt.toNat<(dInts
 (sqUpto (ints ds) all x)).length/\(0<=i64.wrap (((dInts (qOf x)).getD 0 default).toInt*(2:Int) ^ min 1 i64.bits)/\i64.wrap (((dInts (qOf x)).getD 0 default).toInt*(2:Int) ^
 min 1 i64.bits)<(↑(128:Nat):Int))/\(i64.wrap (((dInts (qOf x)).getD 0 default).toInt*(2:Int) ^ min 1 i64.bits)).toNat<((dInts (sqUpto (ints ds) all x)).set ((dInts (qOf
 x)).getD 0 default).toInt.toNat (Dat.int (i64.wrap (((dInts (sqUpto (ints ds) all x)).getD ((dInts (qOf x)).getD 0 default).toInt.toNat default).toInt+i64.wrap (((dInts (sqUpto
 (ints ds) all x)).getD (i64.wrap (((dInts (qOf x)).getD 0 default).toInt*(2:Int) ^ min 1 i64.bits)).toNat default).toInt+((dInts (sqUpto (ints ds) all x)).getD (bitI BinOp.or
 i64 (i64.wrap (((dInts (qOf x)).getD 0 default).toInt*(2:Int) ^ min 1 i64.bits)) (1:Int)).toNat default).toInt))))).length/\(0<=bitI BinOp.or i64 (i64.wrap (((dInts (qOf
 x)).getD 0 default).toInt*(2:Int) ^ min 1 i64.bits)) (1:Int)/\bitI BinOp.or i64 (i64.wrap (((dInts (qOf x)).getD 0 default).toInt*(2:Int) ^ min 1 i64.bits)) (1:Int) <
 (↑(128:Nat):Int))/\(bitI BinOp.or i64 (i64.wrap (((dInts (qOf x)).getD 0 default).toInt*(2:Int) ^ min 1 i64.bits)) (1:Int)).toNat<(((dInts (sqUpto (ints ds) all x)).set ((dInts
 (qOf x)).getD 0 default).toInt.toNat (Dat.int (i64.wrap (((dInts (sqUpto (ints ds) all x)).getD ((dInts (qOf x)).getD 0 default).toInt.toNat default).toInt+i64.wrap (((dInts
 (sqUpto (ints ds) all x)).getD (i64.wrap (((dInts (qOf x)).getD 0 default).toInt*(2:Int) ^ min 1 i64.bits)).toNat default).toInt+((dInts (sqUpto (ints ds) all x)).getD (bitI
 BinOp.or i64 (i64.wrap (((dInts (qOf x)).getD 0 default).toInt*(2:Int) ^ min 1 i64.bits)) (1:Int)).toNat default).toInt))))).set (i64.wrap (((dInts (qOf x)).getD 0 default).toInt
 * (2:Int) ^ min 1 i64.bits)).toNat (Dat.int (0:Int))).length/\(decide (bitI BinOp.and i64 ((dInts (qOf x)).getD 0 default).toInt (1:Int)=0) =
 true->0<=(1:Int)/\((List.drop 1 (dInts (qOf x))).length+1)*8<=140737488355328/\∃x_1:Nat,(x_1<=63/\63-x_1<63-x)/\0=0/\all=all/\(((dInts (sqUpto (ints ds) all x)).set
 ((dInts (qOf x)).getD 0 default).toInt.toNat (Dat.int (i64.wrap (((dInts (sqUpto (ints ds) all x)).getD ((dInts (qOf x)).getD 0 default).toInt.toNat default).toInt+i64.wrap
 (((dInts (sqUpto (ints ds) all x)).getD (i64.wrap (((dInts (qOf x)).getD 0 default).toInt*(2:Int) ^ min 1 i64.bits)).toNat default).toInt+((dInts (sqUpto (ints ds) all x)).getD
 (bitI BinOp.or i64 (i64.wrap (((dInts (qOf x)).getD 0 default).toInt*(2:Int) ^ min 1 i64.bits)) (1:Int)).toNat default).toInt))))).set (i64.wrap (((dInts (qOf x)).getD 0
 default).toInt*(2:Int) ^ min 1 i64.bits)).toNat (Dat.int (0:Int))).set (bitI BinOp.or i64 (i64.wrap (((dInts (qOf x)).getD 0 default).toInt*(2:Int) ^ min 1 i64.bits))
 (1:Int)).toNat (Dat.int (0:Int))=dInts (sqUpto (ints ds) all x_1)/\List.drop 1 (dInts (qOf x))++[Dat.int (((dInts (qOf x)).getD 0 default).toInt.fdiv ((2:Int) ^ min 1
 i64.bits))]=dInts (qOf x_1))/\(decide (bitI BinOp.and i64 ((dInts (qOf x)).getD 0 default).toInt (1:Int)=0)=false->∃x_1:Nat,(x_1<=63/\63-x_1<63-x)/\0=0/\all =
 all/\(((dInts (sqUpto (ints ds) all x)).set ((dInts (qOf x)).getD 0 default).toInt.toNat (Dat.int (i64.wrap (((dInts (sqUpto (ints ds) all x)).getD ((dInts (qOf x)).getD 0
 default).toInt.toNat default).toInt+i64.wrap (((dInts (sqUpto (ints ds) all x)).getD (i64.wrap (((dInts (qOf x)).getD 0 default).toInt*(2:Int) ^ min 1 i64.bits)).toNat
 default).toInt+((dInts (sqUpto (ints ds) all x)).getD (bitI BinOp.or i64 (i64.wrap (((dInts (qOf x)).getD 0 default).toInt*(2:Int) ^ min 1 i64.bits)) (1:Int)).toNat
 default).toInt))))).set (i64.wrap (((dInts (qOf x)).getD 0 default).toInt*(2:Int) ^ min 1 i64.bits)).toNat (Dat.int (0:Int))).set (bitI BinOp.or i64 (i64.wrap (((dInts (qOf
 x)).getD 0 default).toInt*(2:Int) ^ min 1 i64.bits)) (1:Int)).toNat (Dat.int (0:Int))=dInts (sqUpto (ints ds) all x_1)/\List.drop 1 (dInts (qOf x))=dInts (qOf x_1)))/\((decide
 (i64.wrap (((dInts (sqUpto (ints ds) all x)).getD (i64.wrap (((dInts (qOf x)).getD 0 default).toInt*(2:Int) ^ min 1 i64.bits)).toNat default).toInt+((dInts (sqUpto (ints ds)
 all x)).getD (bitI BinOp.or i64 (i64.wrap (((dInts (qOf x)).getD 0 default).toInt*(2:Int) ^ min 1 i64.bits)) (1:Int)).toNat default).toInt) > (0:Int))&&decide (i64.wrap
 (i64.wrap (((dInts (sqUpto (ints ds) all x)).getD (i64.wrap (((dInts (qOf x)).getD 0 default).toInt*(2:Int) ^ min 1 i64.bits)).toNat default).toInt+((dInts (sqUpto (ints ds)
 all x)).getD (bitI BinOp.or i64 (i64.wrap (((dInts (qOf x)).getD 0 default).toInt*(2:Int) ^ min 1 i64.bits)) (1:Int)).toNat default).toInt)+((dInts (sqUpto (ints ds) all
 x)).getD ((dInts (qOf x)).getD 0 default).toInt.toNat default).toInt)<=i64.wrap (all.tdiv (8:Int))))=false->(decide (bitI BinOp.and i64 ((dInts (qOf x)).getD 0 default).toInt
 (1:Int)=0)=true->0<=(1:Int)/\((List.drop 1 (dInts (qOf x))).length+1)*8<=140737488355328/\∃x_1:Nat,(x_1<=63/\63-x_1<63-x)/\0=0/\all=all/\dInts (sqUpto (ints
 ds) all x)=dInts (sqUpto (ints ds) all x_1)/\List.drop 1 (dInts (qOf x))++[Dat.int (((dInts (qOf x)).getD 0 default).toInt.fdiv ((2:Int) ^ min 1 i64.bits))]=dInts (qOf
 x_1))/\(decide (bitI BinOp.and i64 ((dInts (qOf x)).getD 0 default).toInt (1:Int)=0)=false->∃x_1:Nat,(x_1<=63/\63-x_1<63-x)/\0=0/\all=all/\dInts (sqUpto (ints ds)
 all x)=dInts (sqUpto (ints ds) all x_1)/\List.drop 1 (dInts (qOf x))=dInts (qOf x_1)))))))/\(decide ((↑(dInts (qOf x)).length:Int) > (0:Int))=false->dInts (sqUpto (ints ds) all
 x)=dInts (squeeze (ints ds) all))):=by
  intro _ hw;simp only[iv,kv,fv,nm,ne_eq,implies_true,eq_self];obtain⟨hns,h0,h1⟩:=hp;refine⟨by omega,⟨0,by omega,by simp,by simp [qTo,dInts]⟩,fun x hx=>⟨fun hge=>?_,fun hlt=>⟨?_,fun j hj _=>⟨fun hpos=>?_,fun hz=>?_⟩⟩⟩⟩
  · have hl:(dInts (qTo x)).length=x:=by simp [qTo,dInts]
    refine⟨by omega,x+1,by omega,by rw[wrap_ok (by omega) (by omega)];omega,?_⟩;simp [qTo,dInts,List.range_succ]
  · have:x=32:=by omega
    subst this;exact⟨0,by omega,by simp [sqUpto,dInts_ints hw],by rw[qOf_zero]⟩
  · have hj':j<63:=by
      rcases Nat.lt_or_ge j 63 with h | h
      · exact h
      · have:j=63:=by omega
        subst this;exact absurd hpos (by decide)
    obtain⟨q1,q2,q3⟩:=qOf_next j hj';have hq:((dInts (qOf j)).getD 0 default).toInt=((63-j:Nat):Int):=by
      have:=iv_dInts' (qOf j) 0 q2
      simp only[iv] at this;rw[this,gt,q3];omega
    have hk0:0<63-j:=by omega
    have hk1:63-j<64:=by omega
    have hnx:=sq_next (ints ds) all j;have hN:=NS.upto hns (all:=all) j (by omega);generalize sqUpto (ints ds) all j=a at hN hnx ⊢;have hjk:(63-(j:Int))=((63-j:Nat):Int):=by omega
    rw[hjk] at q1;clear hjk q3;generalize hkj:63-j=k at hq hk0 hk1 hnx q1 ⊢;have hpow:(2:Int) ^ min (1:Nat) IntKind.i64.bits=2:=by decide
    have hlow:IntKind.i64.wrap ((k:Int)*2)=2*(k:Int):=by rw[wrap_ok (by omega) (by omega)];omega
    have g1:=iv_dInts' a (2*k) (by rw[hN.1];omega);have g2:=iv_dInts' a (2*k+1) (by rw[hN.1];omega);have g3:=iv_dInts' a k (by rw[hN.1];omega);simp only[iv] at g1 g2 g3;have n1:(2*(k:Int)).toNat=2*k:=by omega
    have n2:(2*(k:Int)+1).toNat=2*k+1:=by omega
    have n3:((k:Int)).toNat=k:=by omega
    simp only[hq,hpow,hlow,or_one k hk1,and_one k hk1,n1,n2,n3,g1,g2,g3];have b1:=hN.get (2*k) (by omega);have b2:=hN.get (2*k+1) (by omega);have b3:=hN.get k (by omega);have hda:(dInts a).length=128:=by simp [dInts,hN.1]
    have hqlen:(dInts (qOf j)).length=(qOf j).length:=by simp [dInts]
    have hq64:=(qOf_len j (by omega)).1;have hdr:(dInts (qOf j)).drop 1=dInts ((qOf j).drop 1):=by simp [dInts,List.map_drop]
    have hall:IntKind.i64.wrap (all.tdiv 8)=all / 8:=by rw[tdiv_pos h0,wrap_ok (by omega) (by omega)]
    have hfd:(k:Int).fdiv 2=(k:Int) / 2:=Int.fdiv_eq_ediv_of_nonneg _ (by omega);rw[wrap_ok (n:=gt a (2*k)+gt a (2*k+1)) (by omega) (by omega),wrap_ok (n:=gt a (2*k)+gt a (2*k+1)+gt a k) (by omega) (by omega),wrap_ok (n:=gt a k+(gt a (2*k)+gt a (2*k+1))) (by omega) (by omega),hall,hdr,hfd];simp only[List.length_set,hda,hqlen,dInts_set];have hend:∀b,sqStep all a k=b->((k:Int) % 2=0->∃y,(y<=63/\63-y<k)/\dInts b=dInts (sqUpto (ints ds) all y)/\dInts ((qOf j).drop 1)++[Dat.int ((k:Int) / 2)]=dInts (qOf y))/\(¬(k:Int) % 2=0->∃y,(y<=63/\63-y<k)/\dInts b=dInts (sqUpto (ints ds) all y)/\dInts ((qOf j).drop 1)=dInts (qOf y)):=fun b hb=>by
      rw[hb] at hnx;refine⟨fun he=>⟨j+1,by omega,by rw[hnx],?_⟩,fun he=>⟨j+1,by omega,by rw[hnx],?_⟩⟩
      · rw[if_pos he] at q1;rw[<- q1,dInts_append];rfl
      · rw[if_neg he,List.append_nil] at q1;rw[q1]
    have hdl:(dInts ((qOf j).drop 1)).length<=64:=by simp [dInts];omega
    refine⟨by omega,by omega,fun _=>⟨by omega,by omega,by omega,by omega,by omega,fun _=>⟨by omega,by omega,fun _=>⟨fun _=>⟨by omega,by omega,fun _=>by omega⟩,fun hc=>?_,fun hc=>?_⟩⟩⟩⟩
    · have hs:sqStep all a k=((a.set k (gt a k+(gt a (2*k)+gt a (2*k+1)))).set (2*k) 0).set (2*k+1) 0:=by
        unfold sqStep;rw[if_pos ⟨by omega,by omega⟩]
      obtain⟨e1,e2⟩:=hend _ hs;have l1:∀(v w:Int) (m:Nat),(dInts ((a.set k v).set m w)).length=128:=fun v w m=>by simp [dInts,hN.1]
      have l2:∀(v:Int),(dInts (a.set k v)).length=128:=fun v=>by simp [dInts,hN.1]
      rw[l1,l2];exact⟨by omega,by omega,by omega,by omega,by omega,by omega,by omega,by omega,fun he=>⟨by omega,by omega,e1 he⟩,fun he=>e2 he⟩
    · have hs:sqStep all a k=a:=by
        unfold sqStep;rw[if_neg (fun h=>by omega)]
      obtain⟨e1,e2⟩:=hend _ hs;exact⟨fun he=>⟨by omega,by omega,e1 he⟩,fun he=>e2 he⟩
  · have:j=63:=(qOf_len j (by omega)).2 (by simp [dInts] at hz;simpa using hz)
    subst this;rfl
def squeezeI_get (ins:List SV) (m:St):Option Got:=
  match ins,m with
  | [.rp 0 [] 0 1 0,.int .i64 all],⟨[],[],[⟨259,.im (.int .i64),ds,0,true⟩]⟩=>some (NS (ints ds) 10000000/\0<=all/\all<=10000,.tup [],St.mk [] [] [⟨259,.im (.int .i64),dInts (squeeze (ints ds) all),0,true⟩])
  | _,_=>none
theorem squeezeI_ok:Ok0 Tryz.prog 216 squeezeI_get:=by
  intro _ _ _ _ _ h hp;unfold squeezeI_get at h;split at h
  · rename_i all ds;cases h;refine fn_ok0 (ct:=[]) (L:=fun k=>bif Nat.beq k 2 then some (.g (⟨Nat,fun s g=>hd s [0,1] [(4,.own 1),(5,.int .i64 (63-g))] [rwE s 0,⟨3,.im (.int .i64),dInts (qTo g),0,false⟩],fun _ g=>g<=32,fun g=>32-g⟩)) else bif Nat.beq k 5 then some (.g (⟨Nat,fun s g=>hd s [0,1] [(4,.own 1)] [⟨259,.im (.int .i64),dInts (sqUpto (ints ds) all g),0,true⟩,⟨3,.im (.int .i64),dInts (qOf g),0,false⟩],fun _ g=>g<=63,fun g=>63-g⟩)) else none) Tryz_follows Tryz.func216 ?_;apply VC.thru (squeezeI_vc ds all hp);kernel_rfl
  · cases h
def squeezeI_con:Con Tryz.prog:=.f0 216 [.lend] false squeezeI_get (enters Tryz.func216 (by kernel_rfl) rfl) squeezeI_ok
end
end E
end Go.Proofs.YtlfohjkcajaebaaGreat
