/- Texts that the claim stands on, part 2. -/
import Derived.Test.YtlfohjkcajaebaaGreatQK1
import Derived.Laws.BytesArg
import Derived.WideKeyRuns
import Derived.MapKept
import Derived.WalkSpells
import Derived.Lib.LazyBuf
set_option linter.all false
namespace Go.Proofs.YtlfohjkcajaebaaGreat
open Go Go.RowKit
open Go.IntKind (i64)
namespace E
noncomputable section
set_option maxRecDepth 100000
section
mutual
def otEq:OT->OT->Bool
 | .im a,.im b=>tyEq a b
 | .sl t a,.sl u b=>Nat.beq t u&&otEq a b
 | .st a,.st b=>otsEq a b
 | .ho t a,.ho u b=>Nat.beq t u&&otEq a b
 | .mp k a,.mp l b=>tyEq k l&&otEq a b
 | _,_=>false
def otsEq:List OT->List OT->Bool
 | [],[]=>true
 | a::aa,b::bs=>otEq a b&&otsEq aa bs
 | _,_=>false
end
mutual
theorem otEq_eq:∀{a b:OT},otEq a b=true->a=b
 | .im a,b,h=>by cases b<;>simp [otEq] at h;rw[tyEq_eq h]
 | .sl t a,b,h=>by
   cases b<;>simp [otEq] at h;rw[h.1,otEq_eq h.2]
 | .st a,b,h=>by cases b<;>simp [otEq] at h;rw[otsEq_eq h]
 | .ho t a,b,h=>by
   cases b<;>simp [otEq] at h;rw[h.1,otEq_eq h.2]
 | .mp k a,b,h=>by
   cases b<;>simp [otEq] at h;rw[tyEq_eq h.1,otEq_eq h.2]
theorem otsEq_eq:∀{a b:List OT},otsEq a b=true->a=b
 | [],b,h=>by cases b<;>simp [otsEq] at h;rfl
 | a::aa,b,h=>by
   cases b with
   | nil=>simp [otsEq] at h
   | cons b bs=>simp [otsEq] at h;rw[otEq_eq h.1,otsEq_eq h.2]
end
mutual
def backV (acc:Acc) (dead:List Nat) (L R:Nat):SV->SV
 | .bp i off=>match acc.1[i]? with
   | some j=>.bp j off
   | none=>.bp (L+(i-acc.1.length)) off
 | .own k=>match acc.2[k]? with
   | some (j,[])=>.own j
   | some (j,π)=>bif hasN dead k then .un else .hs j π
   | none=>.own (R+(k-acc.2.length))
 | .hs k ρ=>match acc.2[k]? with
   | some (j,π)=>bif hasN dead k then .un else .hs j (π++ρ)
   | none=>.hs (R+(k-acc.2.length)) ρ
 | .rp k ρ i sz off=>match acc.2[k]? with
   | some (j,π)=>bif hasN dead k then .un else .rp j (π++ρ) i sz off
   | none=>.rp (R+(k-acc.2.length)) ρ i sz off
 | .bsl _ _=>.un
 | .bptr _ _ _=>.un
 | .arr k ds=>.arr k ds
 | .agg l=>.agg (backVs acc dead L R l)
 | .tup l=>.tup (backVs acc dead L R l)
 | .fn f l=>.fn f (backVs acc dead L R l)
 | .ifc f l=>.ifc f (backVs acc dead L R l)
 | .bf f l=>.bf f (backVs acc dead L R l)
 | .un=>.un
 | .tt=>.tt
 | .ff=>.ff
 | .int k n=>.int k n
 | .bool b=>.bool b
 | .str b=>.str b
 | .raw v=>.raw v
 | .nil=>.nil
 | .sl e ds=>.sl e ds
 | .ptr t d off=>.ptr t d off
 | .nilp=>.nilp
def backVs (acc:Acc) (dead:List Nat) (L R:Nat):List SV->List SV
 | []=>[]
 | x::l=>backV acc dead L R x::backVs acc dead L R l
end
mutual
def pruneV (js:List Nat):SV->SV
 | .hs j π=>match π with
   | []=>.hs j []
   | p::π=>bif hasN js j then .un else .hs j (p::π)
 | .rp j π i sz off=>match π with
   | []=>.rp j [] i sz off
   | p::π=>bif hasN js j then .un else .rp j (p::π) i sz off
 | .agg l=>.agg (pruneVs js l)
 | .tup l=>.tup (pruneVs js l)
 | .fn f l=>.fn f (pruneVs js l)
 | .ifc f l=>.ifc f (pruneVs js l)
 | .bf f l=>.bf f (pruneVs js l)
 | .un=>.un
 | .tt=>.tt
 | .ff=>.ff
 | .int k n=>.int k n
 | .bool b=>.bool b
 | .str b=>.str b
 | .raw v=>.raw v
 | .nil=>.nil
 | .sl e ds=>.sl e ds
 | .own j=>.own j
 | .bp j off=>.bp j off
 | .ptr t d off=>.ptr t d off
 | .nilp=>.nilp
 | .bsl e ds=>.bsl e ds
 | .bptr e d off=>.bptr e d off
 | .arr k ds=>.arr k ds
def pruneVs (js:List Nat):List SV->List SV
 | []=>[]
 | x::l=>pruneV js x::pruneVs js l
end
section
variable {S S':Nat->Prop} {E E':Env} {w w':World}
structure Env.led (E E':Env) (js:List Nat):Prop where
 bx:∀(j b:Nat),E.bx[j]?=some b->E'.bx[j]?=some b
 rw:∀(j:Nat) (v:Value),E.rw[j]?=some v->E'.rw[j]?=some v
 nh:∀j,j<E.rw.length->∀ρ,(hasN js j=false\/ρ=[])->E'.nh j ρ=E.nh j ρ
 bo:E'.bo=E.bo
 w0:E'.w0=E.w0
theorem Env.led.lt {js:List Nat} (h:E.led E' js) {j:Nat} (hj:j<E.rw.length):j<E'.rw.length:=(List.getElem?_eq_some_iff.1 (h.rw j _ (List.getElem?_eq_getElem hj))).1
mutual
theorem pruneV_rel {js:List Nat} (hE:E.led E' js) (hk:Keeps S w w') (hS:∀b,S b->S' b):∀{x:SV} {v:Value},RelV S E w x v->RelV S' E' w' (pruneV js x) v
 | .hs j π,v,⟨h0,h1,h2⟩=>by
   unfold pruneV;split
   · exact⟨hE.lt h0,by rw[hE.nh j h0 [] (.inr rfl)];exact h1,h2⟩
   · rename_i p π;cases hb:hasN js j with
     | true=>trivial
     | false=>exact⟨hE.lt h0,by rw[hE.nh j h0 _ (.inl hb)];exact h1,h2⟩
 | .rp j π _ _ _,v,⟨g,n,cp,h0,h1,h2⟩=>by
   unfold pruneV;split
   · exact⟨g,n,cp,hE.lt h0,by rw[hE.nh j h0 [] (.inr rfl)];exact h1,h2⟩
   · rename_i p π;cases hb:hasN js j with
     | true=>trivial
     | false=>exact⟨g,n,cp,hE.lt h0,by rw[hE.nh j h0 _ (.inl hb)];exact h1,h2⟩
 | .agg _,_,⟨vs,h1,h2⟩=>⟨vs,h1,pruneVs_rel hE hk hS h2⟩
 | .tup _,_,⟨vs,h1,h2⟩=>⟨vs,h1,pruneVs_rel hE hk hS h2⟩
 | .fn _ _,_,⟨vs,h1,h2⟩=>⟨vs,h1,pruneVs_rel hE hk hS h2⟩
 | .ifc _ _,_,⟨vs,h1,h2⟩=>⟨vs,h1,pruneVs_rel hE hk hS h2⟩
 | .bf _ _,_,⟨vs,h1,h2⟩=>⟨vs,h1,pruneVs_rel hE hk hS h2⟩
 | .un,_,_=>trivial
 | .tt,_,h=>h
 | .ff,_,h=>h
 | .int _ _,_,h=>h
 | .bool _,_,h=>h
 | .str _,_,h=>h
 | .raw _,_,h=>h
 | .nil,_,h=>h
 | .sl _ _,_,h=>Rep.mono hk hS h
 | .own j,v,⟨h,h'⟩=>⟨hE.rw j v h,h'⟩
 | .bp j _,_,⟨b,h1,h2⟩=>⟨b,hE.bx j b h1,h2⟩
 | .ptr _ _ _,_,⟨b,o,cs,h1,h2,h3,h4⟩=>⟨b,o,cs,h1,hS b h2,range_keeps h3 hk h2,Rep.mono hk hS h4⟩
 | .nilp,_,h=>h
 | .bsl _ _,_,h=>by
   show Bor S' w' E'.bo E'.w0 _ _ _;rw[hE.bo,hE.w0];exact Bor.mono hk hS h
 | .bptr _ _ _,_,⟨b,o,cs,h1,h2,h3,h4⟩=>⟨b,o,cs,h1,by rw[hE.bo];exact h2,by rw[hE.w0];exact h3,by rw[hE.bo,hE.w0];exact Bor.mono hk hS h4⟩
 | .arr _ _,_,h=>h
theorem pruneVs_rel {js:List Nat} (hE:E.led E' js) (hk:Keeps S w w') (hS:∀b,S b->S' b):∀{l:List SV} {vs:List Value},RelVs S E w l vs->RelVs S' E' w' (pruneVs js l) vs
 | [],_,h=>h
 | _::_,_,⟨v,vs',h1,h2,h3⟩=>⟨v,vs',h1,pruneV_rel hE hk hS h2,pruneVs_rel hE hk hS h3⟩
end
structure Backs (Ec E':Env) (acc:Acc) (dead:List Nat) (L R:Nat):Prop where
 bx:∀(i j:Nat),acc.1[i]?=some j->∀b,E'.bx[i]?=some b->Ec.bx[j]?=some b
 bxn:∀(i:Nat),acc.1[i]?=none->∀b,E'.bx[i]?=some b->Ec.bx[L+(i-acc.1.length)]?=some b
 rw:∀(k j:Nat),acc.2[k]?=some (j,[])->∀v,E'.rw[k]?=some v->Ec.rw[j]?=some v
 own:∀(k j:Nat) (π:Path),acc.2[k]?=some (j,π)->hasN dead k=false->∀v,E'.rw[k]?=some v->Ec.nh j π=v
 hs:∀(k j:Nat) (π:Path),acc.2[k]?=some (j,π)->hasN dead k=false->∀ρ,Ec.nh j (π++ρ)=E'.nh k ρ
 lt:∀(k j:Nat) (π:Path),acc.2[k]?=some (j,π)->j<Ec.rw.length
 rwn:∀(k:Nat),acc.2[k]?=none->∀v,E'.rw[k]?=some v->Ec.rw[R+(k-acc.2.length)]?=some v
 hsn:∀(k:Nat),acc.2[k]?=none->k<E'.rw.length->∀ρ,Ec.nh (R+(k-acc.2.length)) ρ=E'.nh k ρ
mutual
theorem backV_rel {Ec:Env} {acc:Acc} {dead:List Nat} {L R:Nat} (hB:Backs Ec E' acc dead L R) (hS:∀b,S b->S' b):∀{x:SV} {v:Value},RelV S E' w x v->RelV S' Ec w (backV acc dead L R x) v
 | .bp i off,v,⟨b,h1,h2⟩=>by
   unfold backV;split
   · rename_i j hj;exact⟨b,hB.bx i j hj b h1,h2⟩
   · rename_i hn;exact⟨b,hB.bxn i hn b h1,h2⟩
 | .own k,v,⟨h1,h2⟩=>by
   unfold backV;split
   · rename_i j hj;exact⟨hB.rw k j hj v h1,h2⟩
   · rename_i j π _ hj;cases hd:hasN dead k with
     | true=>trivial
     | false=>exact⟨hB.lt k j π hj,hB.own k j π hj hd v h1,h2⟩
   · rename_i hn;exact⟨hB.rwn k hn v h1,h2⟩
 | .hs k ρ,v,⟨h0,h1,h2⟩=>by
   unfold backV;split
   · rename_i j π hj;cases hd:hasN dead k with
     | true=>trivial
     | false=>exact⟨hB.lt k j π hj,by rw[hB.hs k j π hj hd ρ];exact h1,h2⟩
   · rename_i hn;exact⟨(List.getElem?_eq_some_iff.1 (hB.rwn k hn _ (List.getElem?_eq_getElem h0))).1,by rw[hB.hsn k hn h0 ρ];exact h1,h2⟩
 | .rp k ρ i sz off,v,⟨g,n,cp,h0,h1,h2⟩=>by
   unfold backV;split
   · rename_i j π hj;cases hd:hasN dead k with
     | true=>trivial
     | false=>exact⟨g,n,cp,hB.lt k j π hj,by rw[hB.hs k j π hj hd ρ];exact h1,h2⟩
   · rename_i hn;exact⟨g,n,cp,(List.getElem?_eq_some_iff.1 (hB.rwn k hn _ (List.getElem?_eq_getElem h0))).1,by rw[hB.hsn k hn h0 ρ];exact h1,h2⟩
 | .bsl _ _,_,_=>trivial
 | .bptr _ _ _,_,_=>trivial
 | .arr _ _,_,h=>h
 | .agg _,_,⟨vs,h1,h2⟩=>⟨vs,h1,backVs_rel hB hS h2⟩
 | .tup _,_,⟨vs,h1,h2⟩=>⟨vs,h1,backVs_rel hB hS h2⟩
 | .fn _ _,_,⟨vs,h1,h2⟩=>⟨vs,h1,backVs_rel hB hS h2⟩
 | .ifc _ _,_,⟨vs,h1,h2⟩=>⟨vs,h1,backVs_rel hB hS h2⟩
 | .bf _ _,_,⟨vs,h1,h2⟩=>⟨vs,h1,backVs_rel hB hS h2⟩
 | .un,_,_=>trivial
 | .tt,_,h=>h
 | .ff,_,h=>h
 | .int _ _,_,h=>h
 | .bool _,_,h=>h
 | .str _,_,h=>h
 | .raw _,_,h=>h
 | .nil,_,h=>h
 | .sl _ _,_,h=>Rep.mono (fun _ _=>rfl) hS h
 | .ptr _ _ _,_,⟨b,o,cs,h1,h2,h3,h4⟩=>⟨b,o,cs,h1,hS b h2,h3,Rep.mono (fun _ _=>rfl) hS h4⟩
 | .nilp,_,h=>h
theorem backVs_rel {Ec:Env} {acc:Acc} {dead:List Nat} {L R:Nat} (hB:Backs Ec E' acc dead L R) (hS:∀b,S b->S' b):∀{l:List SV} {vs:List Value},RelVs S E' w l vs->RelVs S' Ec w (backVs acc dead L R l) vs
 | [],_,h=>h
 | _::_,_,⟨v,vs',h1,h2,h3⟩=>⟨v,vs',h1,backV_rel hB hS h2,backVs_rel hB hS h3⟩
end
end
def mapI {α β:Type} (f:Nat->α->β):Nat->List α->List β
 | _,[]=>[]
 | i,x::l=>f i x::mapI f (i+1) l
theorem mapI_get {α β:Type} (f:Nat->α->β):∀(l:List α) (i j:Nat),(mapI f i l)[j]?=(l[j]?).map (f (i+j))
 | [],_,_=>by simp [mapI]
 | x::l,i,0=>by simp [mapI]
 | x::l,i,j+1=>by
   rw[mapI,List.getElem?_cons_succ,mapI_get f l (i+1) j,List.getElem?_cons_succ,show i+1+j=i+(j+1) from by omega]
theorem mapI_length {α β:Type} (f:Nat->α->β):∀(l:List α) (i:Nat),(mapI f i l).length=l.length
 | [],_=>rfl
 | x::l,i=>by simp [mapI,mapI_length f l]
def deadOf:Nat->List Row->List Nat
 | _,[]=>[]
 | k,q::l=>bif Nat.beq q.st 0 then deadOf (k+1) l else k::deadOf (k+1) l
theorem deadOf_get:∀{l:List Row} {n k:Nat} {q:Row},l[k]?=some q->(hasN (deadOf n l) (n+k)=false ↔ q.st=0)
 | [],_,_,_,h=>by simp at h
 | x::l,n,0,q,h=>by
   simp at h;subst h;have hno:∀(l:List Row) (m i:Nat),i<m->hasN (deadOf m l) i=false:=by
     intro l
     induction l with
     | nil=>intro m i _;rfl
     | cons y l ih=>
       intro m i hi;unfold deadOf;cases Nat.beq y.st 0 with
       | true=>exact ih (m+1) i (by omega)
       | false=>
         show (Nat.beq m i||hasN (deadOf (m+1) l) i)=false;rw[ih (m+1) i (by omega)]
         have:Nat.beq m i=false:=by
           cases hb:Nat.beq m i with
           | true=>have:=Nat.eq_of_beq_eq_true hb;omega
           | false=>rfl
         rw[this];rfl
   unfold deadOf;cases hb:Nat.beq x.st 0 with
   | true=>exact⟨fun _=>Nat.eq_of_beq_eq_true hb,fun _=>hno l (n+1) n (by omega)⟩
   | false=>
     refine⟨fun h=>?_,fun h=>?_⟩
     · have h:(Nat.beq n (n+0)||hasN (deadOf (n+1) l) (n+0))=false:=h;rw[Nat.add_zero,show Nat.beq n n=true from by simp] at h;cases h
     · rw[h] at hb;cases hb
 | x::l,n,k+1,q,h=>by
   have ih:=deadOf_get (l:=l) (n:=n+1) (k:=k) (q:=q) (by simpa using h);rw[show n+1+k=n+(k+1) from by omega] at ih;unfold deadOf;cases hb:Nat.beq x.st 0 with
   | true=>exact ih
   | false=>
     show (Nat.beq n (n+(k+1))||hasN (deadOf (n+1) l) (n+(k+1)))=false ↔ _
     have:Nat.beq n (n+(k+1))=false:=by
       cases hb:Nat.beq n (n+(k+1)) with
       | true=>have:=Nat.eq_of_beq_eq_true hb;omega
       | false=>rfl
     rw[this];exact ih
def rowsFit:List (Nat×Path)->List Row->List Row->Bool
 | [],_,_=>true
 | p::l,q::m,q'::m'=>((Nat.beq q'.st 0&&Nat.beq q'.tid q.tid&&otEq q'.e q.e)||(Nat.beq q'.st 2&&p.2.isEmpty))&&rowsFit l m m'
 | _::_,_,_=>false
theorem rowsFit_get:∀{l:List (Nat×Path)} {m m':List Row},rowsFit l m m'=true->∀(k:Nat) (p:Nat×Path) (q:Row),l[k]?=some p->m[k]?=some q->∃q',m'[k]?=some q'/\((q'.st=0/\q'.tid=q.tid/\q'.e=q.e)\/(q'.st=2/\p.2=[]))
 | [],_,_,_,k,p,q,hp,_=>by simp at hp
 | _::_,[],_,h,_,_,_,_,_=>by simp [rowsFit] at h
 | _::_,_::_,[],h,_,_,_,_,_=>by simp [rowsFit] at h
 | p0::l,q0::m,q1::m',h,k,p,q,hp,hq=>by
   simp only[rowsFit,Bool.and_eq_true,Bool.or_eq_true] at h;cases k with
   | zero=>
     simp at hp hq;subst hp;subst hq;refine⟨q1,rfl,?_⟩;rcases h.1 with ⟨⟨h1,h2⟩,h3⟩ | ⟨h1,h2⟩
     · exact .inl ⟨Nat.eq_of_beq_eq_true h1,Nat.eq_of_beq_eq_true h2,otEq_eq h3⟩
     · exact .inr ⟨Nat.eq_of_beq_eq_true h1,by simpa using h2⟩
   | succ k=>
     obtain⟨q',h1,h2⟩:=rowsFit_get h.2 k p q (by simpa using hp) (by simpa using hq);exact⟨q',by simpa using h1,h2⟩
def anyLt (s:St):List (Nat×Path)->Bool
 | []=>false
 | p::l=>(match s.rw[p.1]? with | some r=>r.lt | none=>false)||anyLt s l
theorem anyLt_get {s:St}:∀{l:List (Nat×Path)},anyLt s l=false->∀(k:Nat) (p:Nat×Path) (r:Row),l[k]?=some p->s.rw[p.1]?=some r->r.lt=false
 | [],_,k,p,r,hp,_=>by simp at hp
 | p0::l,h,k,p,r,hp,hr=>by
   simp only[anyLt,Bool.or_eq_false_iff] at h;cases k with
   | zero=>simp at hp;subst hp;rw[hr] at h;exact h.1
   | succ k=>exact anyLt_get h.2 k p r (by simpa using hp) hr
def backSt (s:St) (acc:Acc) (m':St):St:=
 { fr:=pruneVs (firsts acc.2) s.fr
   bx:=mapI (fun j p=>match idxN acc.1 j with
     | some i=>(match m'.bx[i]? with | some q=>(q.1,backVs acc (deadOf 0 m'.rw) s.bx.length s.rw.length q.2) | none=>p)
     | none=>(p.1,pruneVs (firsts acc.2) p.2)) 0 s.bx++(m'.bx.drop acc.1.length).map (fun q=>(q.1,backVs acc (deadOf 0 m'.rw) s.bx.length s.rw.length q.2))
   rw:=mapI (fun j r=>match findR acc.2 j with
     | some (k,π)=>(match m'.rw[k]? with | some q=>(bif Nat.beq q.st 0 then {r with ds:=setP r.e r.ds π q.ds,lt:=anyLt s acc.2} else {r with st:=2}) | none=>r)
     | none=>r) 0 s.rw++(m'.rw.drop acc.2.length).map (fun q=>{q with lt:=q.lt&&anyLt s acc.2})}
def onesB:List (TypeId×List SV)->Bool
 | []=>true
 | p::l=>p.2.all SV.one&&onesB l
theorem onesB_get:∀{l:List (TypeId×List SV)},onesB l=true->∀(j:Nat) (p:TypeId×List SV),l[j]?=some p->p.2.all SV.one=true
 | [],_,j,p,hp=>by simp at hp
 | q::l,h,j,p,hp=>by
   simp only[onesB,Bool.and_eq_true] at h;cases j with
   | zero=>simp at hp;subst hp;exact h.1
   | succ j=>exact onesB_get h.2 j p (by simpa using hp)
end
section
def Env.back (E E':Env) (acc:Acc) (dead:List Nat) (sp:Nat->List Nat×List Nat):Env:=
 { bx:=E.bx++E'.bx.drop acc.1.length
   rw:=E.rw++E'.rw.drop acc.2.length
   fp:=mapI (fun j F=>match findR acc.2 j with
     | some (k,_)=>if hasN dead k=false then (sp k).1++(E'.fp.getD k []++(sp k).2) else F
     | none=>F) 0 E.fp++E'.fp.drop acc.2.length
   nh:=fun j ρ=>if j<E.rw.length then (match findR acc.2 j with
     | some (k,π)=>if hasN dead k=false/\ρ.take π.length=π then E'.nh k (ρ.drop π.length) else E.nh j ρ
     | none=>E.nh j ρ) else E'.nh (acc.2.length+(j-E.rw.length)) ρ
   bo:=E.bo
   w0:=E.w0}
theorem findR_none:∀{l:List (Nat×Path)} {j:Nat},findR l j=none->∀(k:Nat) (p:Nat×Path),l[k]?=some p->p.1≠j
 | [],_,_,k,p,hp=>by simp at hp
 | (x,π)::l,j,h,k,p,hp=>by
   unfold findR at h;cases hb:Nat.beq x j with
   | true=>rw[hb] at h;cases h
   | false=>
     rw[hb] at h;simp only[cond_false] at h;split at h
     · cases h
     · rename_i hn;cases k with
       | zero=>
         simp at hp;subst hp;intro e;simp only at e;subst e;rw[show Nat.beq x x=true from by simp] at hb;cases hb
       | succ k=>exact findR_none hn k p (by simpa using hp)
theorem findR_of {l:List (Nat×Path)} (hnd:(firsts l).Nodup) {k j:Nat} {π:Path} (h:l[k]?=some (j,π)):findR l j=some (k,π):=by
 cases hf:findR l j with
 | none=>exact absurd rfl (findR_none hf k _ h)
 | some q=>
   obtain⟨k',π'⟩:=q;have h1:=findR_get hf
   have:k'=k:=nodup_get hnd (x:=j) (firsts_get h1) (firsts_get h)
   subst this;rw[h] at h1;simp at h1;rw[h1]
theorem idxN_none:∀{l:List Nat} {j:Nat},idxN l j=none->j∉l
 | [],_,_=>by simp
 | x::l,j,h=>by
   unfold idxN at h;cases hb:Nat.beq x j with
   | true=>rw[hb] at h;cases h
   | false=>
     rw[hb] at h;simp only[cond_false] at h;split at h
     · cases h
     · rename_i hn;intro hm;rcases List.mem_cons.1 hm with rfl | hm
       · rw[show Nat.beq j j=true from by simp] at hb;cases hb
       · exact idxN_none hn hm
theorem idxN_of {l:List Nat} (hnd:l.Nodup) {i j:Nat} (h:l[i]?=some j):idxN l j=some i:=by
 cases hf:idxN l j with
 | none=>exact absurd (List.mem_of_getElem? h) (idxN_none hf)
 | some i'=>rw[nodup_get hnd (idxN_get hf) h]
theorem app_get {α:Type} {l m:List α} {j:Nat} {x:α} (h:(l++m)[j]?=some x):(j<l.length/\l[j]?=some x)\/(l.length<=j/\m[j-l.length]?=some x):=by
 rcases Nat.lt_or_ge j l.length with hj | hj
 · rw[List.getElem?_append_left hj] at h;exact .inl ⟨hj,h⟩
 · rw[List.getElem?_append_right hj] at h;exact .inr ⟨hj,h⟩
section
variable {c:Ctx} {E Ec E':Env} {s m m':St} {a:Act} {w w':World} {acc:Acc} {sp:Nat->List Nat×List Nat}
structure Came (c:Ctx) (E:Env) (s:St) (w:World) (acc:Acc) (Ec:Env) (m:St) (E':Env) (m':St) (w':World):Prop where
 kept:KeepBut (fun b=>∃x,own Ec m x=some b) w w'
 bx:∀(j b:Nat),Ec.bx[j]?=some b->E'.bx[j]?=some b
 rw:∀(j:Nat) (v:Value),Ec.rw[j]?=some v->E'.rw[j]?=some v
 got:∀x b,own E' m' x=some b->(∃y,own Ec m y=some b)\/w.heap.size<=b
 fresh:∀(j k b:Nat) (r:Row),m'.rw[j]?=some r->r.lt=false->own E' m' (.r j k)=some b->w.heap.size<=b
 mem:MemOk (After (Reg c E s w) w w' E' m') E' m' w'
 fit:rowsFit acc.2 m.rw m'.rw=true
def g1 (acc:Acc) (dead:List Nat) (sp:Nat->List Nat×List Nat) (Ec E':Env):Slot->Slot
 | .b j=>.b j
 | .r j n=>match findR acc.2 j with
   | some (k,_)=>if hasN dead k=false/\(sp k).1.length<=n then .r j (n-(Ec.fp.getD k []).length+(E'.fp.getD k []).length) else .r j n
   | none=>.r j n
def g2 (acc:Acc) (sp:Nat->List Nat×List Nat) (L R:Nat):Slot->Slot
 | .b i=>match acc.1[i]? with
   | some j=>.b j
   | none=>.b (L+(i-acc.1.length))
 | .r k n=>match acc.2[k]? with
   | some (j,_)=>.r j ((sp k).1.length+n)
   | none=>.r (R+(k-acc.2.length)) n
theorem Lends.notlent {hh:Inv c E s a w} (hL:Lends c E s w acc Ec m sp) {y:Slot} {b:Nat} (hy:own E s y=some b) (hb:∀j,y=.b j->idxN acc.1 j=none) (hr:∀j n,y=.r j n->∀k π,findR acc.2 j=some (k,π)->n<(sp k).1.length\/(sp k).1.length+(Ec.fp.getD k []).length<=n):∀z,own Ec m z≠some b:=by
 intro z hz;rcases hL.slot hz with ⟨i,j,rfl,h1,h2⟩ | ⟨k,i,p,r,q,F,rfl,h1,h2,h3,h4⟩
 · have e:=hh.inj _ _ b hy h2
   have:=hb j e
   rw[idxN_of hL.ndb h1] at this;cases this
 · have e:=hh.inj _ _ b hy h4;have h5:=hr _ _ e k p.2 (findR_of hL.ndr h1);have h6:Ec.fp.getD k []=F:=by rw[List.getD_eq_getElem?_getD,h2.cfp];rfl
   rw[h6] at h5
   have:=(List.getElem?_eq_some_iff.1 h3).1
   omega
theorem own_back (h:Inv c E s a w) (hL:Lends c E s w acc Ec m sp) (hC:Came c E s w acc Ec m E' m' w') {x:Slot} {b:Nat} (hx:own (E.back E' acc (deadOf 0 m'.rw) sp) (backSt s acc m') x=some b) :
   (∃y,own E s y=some b/\(∀z,own Ec m z≠some b)/\x=g1 acc (deadOf 0 m'.rw) sp Ec E' y)\/∃z,own E' m' z=some b/\x=g2 acc sp s.bx.length s.rw.length z:=by
 have hnb:acc.1.length<=E'.bx.length:=by
   rw[<- hL.nb];rcases Nat.eq_zero_or_pos Ec.bx.length with h0 | h0
   · omega
   · have:=hC.bx (Ec.bx.length-1) _ (List.getElem?_eq_getElem (by omega))
     have:=(List.getElem?_eq_some_iff.1 this).1
     omega
 have hnr:acc.2.length<=E'.rw.length:=by
   rw[<- hL.nr];rcases Nat.eq_zero_or_pos Ec.rw.length with h0 | h0
   · omega
   · have:=hC.rw (Ec.rw.length-1) _ (List.getElem?_eq_getElem (by omega))
     have:=(List.getElem?_eq_some_iff.1 this).1
     omega
 cases x with
 | b j=>
   rcases app_get (l:=E.bx) hx with ⟨hj,h1⟩ | ⟨hj,h1⟩
   · cases hi:idxN acc.1 j with
     | none=>
       have ho:own E s (.b j)=some b:=h1;exact .inl ⟨.b j,ho,hL.notlent (hh:=h) ho (fun j' e=>by injection e with e;rw[<- e];exact hi) (fun _ _ e=>by cases e),rfl⟩
     | some i=>
       have h2:=idxN_get hi;refine .inr ⟨.b i,hC.bx i b ?_,by simp only[g2,h2]⟩;rw[(hL.bx i j h2).2];exact h1
   · rw[List.getElem?_drop] at h1;refine .inr ⟨.b (acc.1.length+(j-E.bx.length)),h1,?_⟩;simp only[g2,List.getElem?_eq_none (show acc.1.length<=acc.1.length+(j-E.bx.length) from by omega)];rw[<- h.nbx];congr 1;omega
 | r j n=>
   obtain⟨q,G,hq,hst,hG,hn⟩:=own_of hx;rcases app_get (l:=mapI _ 0 E.fp) hG with ⟨hj,h1⟩ | ⟨hj,h1⟩
   · rw[mapI_length] at hj;rw[mapI_get,Nat.zero_add] at h1;obtain⟨F0,hF0,rfl⟩:=Option.map_eq_some_iff.1 h1;have hjs:j<s.rw.length:=by rw[<- h.nfp];exact hj
     have hq1:(mapI (fun j r=>match findR acc.2 j with
       | some (k,π)=>(match m'.rw[k]? with | some q=>(bif Nat.beq q.st 0 then {r with ds:=setP r.e r.ds π q.ds,lt:=anyLt s acc.2} else {r with st:=2}) | none=>r)
       | none=>r) 0 s.rw)[j]?=some q:=by
       rcases app_get hq with ⟨_,h2⟩ | ⟨h2,_⟩
       · exact h2
       · rw[mapI_length] at h2;omega
     rw[mapI_get,Nat.zero_add] at hq1;obtain⟨r,hr,hq1⟩:=Option.map_eq_some_iff.1 hq1;cases hf:findR acc.2 j with
     | none=>
       simp only[hf] at hq1 hn;subst hq1;have ho:=own_r hr hst hF0 hn;exact .inl ⟨.r j n,ho,hL.notlent (hh:=h) ho (fun _ e=>by cases e) (fun j' n' e k π hk=>by injection e with e _;rw[<- e,hf] at hk;cases hk),by simp only[g1,hf]⟩
     | some p=>
       obtain⟨k,π⟩:=p;have hk:=findR_get hf;obtain⟨r0,q0,F,hl⟩:=hL.rw k _ hk;obtain⟨q',hq',hfit⟩:=rowsFit_get hC.fit k _ _ hk hl.mrow;simp only[hf,hq'] at hq1 hn;have hdead:=deadOf_get (n:=0) hq';rw[Nat.zero_add] at hdead;have e1:=hl.part.1;simp only at e1;rw[hr] at e1;simp at e1;subst e1;rcases hfit with ⟨hs0,_⟩ | ⟨hs2,_⟩
       · have hd:=hdead.2 hs0;simp only[hd,if_true] at hn;obtain⟨v',hv'⟩:∃v',E'.rw[k]?=some v':=⟨_,hC.rw k _ hl.crw⟩;obtain⟨_,h5,_⟩:=hC.mem.rw k q' v' hq' hv';obtain⟨F',hF',_⟩:=h5 hs0;have e2:E'.fp.getD k []=F':=by rw[List.getD_eq_getElem?_getD,hF'];rfl
         have e3:Ec.fp.getD k []=F:=by rw[List.getD_eq_getElem?_getD,hl.cfp];rfl
         rw[e2] at hn;have hfp:=hl.fp;rcases app_get hn with ⟨h6,h7⟩ | ⟨h6,h7⟩
         · have ho:own E s (.r j n)=some b:=own_r hr hl.part.2.1 hfp (by rw[List.getElem?_append_left h6];exact h7);refine .inl ⟨.r j n,ho,hL.notlent (hh:=h) ho (fun _ e=>by cases e) (fun j' n' e k' π' hk'=>?_),?_⟩
           · injection e with e1 e2
             rw[<- e1,hf] at hk';simp at hk';rw[<- hk'.1,<- e2];exact .inl h6
           · simp only[g1,hf,hd,true_and];rw[if_neg (by omega)]
         · rcases app_get h7 with ⟨h8,h9⟩ | ⟨h8,h9⟩
           · refine .inr ⟨.r k (n-(sp k).1.length),own_r hq' hs0 hF' h9,?_⟩;simp only[g2,hk]
             congr 1;omega
           · have ho:own E s (.r j ((sp k).1.length+(F.length+(n-(sp k).1.length-F'.length))))=some b:=by
               refine own_r hr hl.part.2.1 hfp ?_;rw[List.getElem?_append_right (by omega),Nat.add_sub_cancel_left,List.getElem?_append_right (by omega),Nat.add_sub_cancel_left];exact h9
             refine .inl ⟨_,ho,hL.notlent (hh:=h) ho (fun _ e=>by cases e) (fun j' n' e k' π' hk'=>?_),?_⟩
             · injection e with e1 e2
               rw[<- e1,hf] at hk';simp at hk';rw[<- hk'.1,<- e2,e3];exact .inr (by omega)
             · simp only[g1,hf,hd,true_and,e2,e3];rw[if_pos (by omega)]
               congr 1;omega
       · have:Nat.beq q'.st 0=false:=by rw[hs2];rfl
         rw[this] at hq1;simp at hq1;subst hq1;cases hst
   · rw[mapI_length] at hj h1;rw[List.getElem?_drop] at h1;have hjs:s.rw.length<=j:=by rw[<- h.nfp];exact hj
     rcases app_get hq with ⟨h2,_⟩ | ⟨_,h2⟩
     · rw[mapI_length] at h2;omega
     · rw[mapI_length,List.getElem?_map,List.getElem?_drop] at h2;obtain⟨q0,hq0,rfl⟩:=Option.map_eq_some_iff.1 h2;have e:acc.2.length+(j-E.fp.length)=acc.2.length+(j-s.rw.length):=by rw[h.nfp]
       rw[e] at h1;refine .inr ⟨.r (acc.2.length+(j-s.rw.length)) n,own_r hq0 hst h1 hn,?_⟩;simp only[g2,List.getElem?_eq_none (show acc.2.length<=acc.2.length+(j-s.rw.length) from by omega)]
       congr 1;omega
theorem Came.got_lt (hC:Came c E s w acc Ec m E' m' w') {z:Slot} {b:Nat} (hz:own E' m' z=some b) (hno:∀z,own Ec m z≠some b):w.heap.size<=b:=by
 rcases hC.got z b hz with ⟨y,hy⟩ | hge
 · exact absurd hy (hno y)
 · exact hge
theorem own_back_inj (h:Inv c E s a w) (hL:Lends c E s w acc Ec m sp) (hC:Came c E s w acc Ec m E' m' w') {x y:Slot} {b:Nat} (hx:own (E.back E' acc (deadOf 0 m'.rw) sp) (backSt s acc m') x=some b) (hy:own (E.back E' acc (deadOf 0 m'.rw) sp) (backSt s acc m') y=some b):x=y:=by
 rcases own_back h hL hC hx with ⟨x',h1,h2,rfl⟩ | ⟨x',h1,rfl⟩<;>rcases own_back h hL hC hy with ⟨y',h3,h4,rfl⟩ | ⟨y',h3,rfl⟩
 · rw[h.inj _ _ b h1 h3]
 · have:=hC.got_lt h3 h2
   have:=h.own_lt h1
   omega
 · have:=hC.got_lt h1 h4
   have:=h.own_lt h3
   omega
 · rw[hC.mem.inj _ _ b h1 h3]
theorem after_reg (h:Inv c E s a w) (hL:Lends c E s w acc Ec m sp) (hC:Came c E s w acc Ec m E' m' w') (b:Nat) (hb:After (Reg c E s w) w w' E' m' b):Reg c (E.back E' acc (deadOf 0 m'.rw) sp) (backSt s acc m') w' b:=by
 obtain⟨h1,h2⟩:=hb;have hlt:(c.S0 b\/c.w0.heap.size<=b)/\b<w'.heap.size:=by
   rcases h1 with h1 | ⟨h1,h3⟩
   · exact⟨h1.1,Nat.lt_of_lt_of_le h1.2.1 hC.kept.size⟩
   · exact⟨.inr (Nat.le_trans h.size h1),h3⟩
 refine⟨hlt.1,hlt.2,fun x hx=>?_⟩;rcases own_back h hL hC hx with ⟨y,h3,_,_⟩ | ⟨z,h3,_⟩
 · rcases h1 with h1 | ⟨h1,_⟩
   · exact h1.2.2 y h3
   · have:=h.own_lt h3;omega
 · exact h2 z h3
theorem live_head (hL:Lends c E s w acc Ec m sp) (hC:Came c E s w acc Ec m E' m' w') {k j:Nat} {π:Path} (hk:acc.2[k]?=some (j,π)) (hd:hasN (deadOf 0 m'.rw) k=false):E'.nh k []=E.nh j π/\∃q' F',m'.rw[k]?=some q'/\q'.st=0/\E'.fp[k]?=some F'/\E'.rw[k]?=some (E.nh j π)/\Own (After (Reg c E s w) w w' E' m') w' (headT q'.tid q'.e) (fun _=>E'.nh k) 0 [E'.nh k []] (.node q'.ds) F':=by
 obtain⟨r,q,F,hl⟩:=hL.rw k _ hk;obtain⟨q',hq',_⟩:=rowsFit_get hC.fit k _ _ hk hl.mrow;have hst:q'.st=0:=by
   have:=deadOf_get (n:=0) hq'
   rw[Nat.zero_add] at this;exact this.1 hd
 have hv:=hC.rw k _ hl.crw;obtain⟨_,h1,_⟩:=hC.mem.rw k q' _ hq' hv;obtain⟨F',hF',h2⟩:=h1 hst;have h3:=h2.head_val.1;rw[h3] at h2;exact⟨h3.symm,q',F',hq',hst,hF',hv,h2⟩
theorem firsts_has {l:List (Nat×Path)} {j:Nat} (h:findR l j≠none):hasN (firsts l) j=true:=by
 cases hf:findR l j with
 | none=>exact absurd hf h
 | some p=>exact hasN_of (List.mem_of_getElem? (firsts_get (findR_get hf)))
theorem led_back (h:Inv c E s a w) (hL:Lends c E s w acc Ec m sp) (hC:Came c E s w acc Ec m E' m' w'):E.led (E.back E' acc (deadOf 0 m'.rw) sp) (firsts acc.2):=by
 refine⟨fun j b hb=>?_,fun j v hv=>?_,fun j hj ρ hρ=>?_,rfl,rfl⟩
 · show (E.bx++_)[j]?=_;rw[List.getElem?_append_left (List.getElem?_eq_some_iff.1 hb).1];exact hb
 · show (E.rw++_)[j]?=_;rw[List.getElem?_append_left (List.getElem?_eq_some_iff.1 hv).1];exact hv
 · simp only[Env.back,if_pos hj];split
   · rename_i k π hf;split
     · rename_i hc;rcases hρ with hρ | rfl
       · rw[firsts_has (by rw[hf];simp)] at hρ;cases hρ
       · have hπ:π=[]:=by have:=hc.2;simpa using this.symm
         subst hπ;exact (live_head hL hC (findR_get hf) hc.1).1
     · rfl
   · rfl
theorem backs_back (h:Inv c E s a w) (hL:Lends c E s w acc Ec m sp) (hC:Came c E s w acc Ec m E' m' w'):Backs (E.back E' acc (deadOf 0 m'.rw) sp) E' acc (deadOf 0 m'.rw) s.bx.length s.rw.length:=by
 have hled:=led_back h hL hC;have hjr:∀(k j:Nat) (π:Path),acc.2[k]?=some (j,π)->j<E.rw.length/\findR acc.2 j=some (k,π):=by
   intro k j π hk;obtain⟨r,q,F,hl⟩:=hL.rw k _ hk;exact⟨by rw[h.nrw];exact (List.getElem?_eq_some_iff.1 hl.part.1).1,findR_of hL.ndr hk⟩
 have hhs:∀(k j:Nat) (π:Path),acc.2[k]?=some (j,π)->hasN (deadOf 0 m'.rw) k=false->∀ρ,(E.back E' acc (deadOf 0 m'.rw) sp).nh j (π++ρ)=E'.nh k ρ:=by
   intro k j π hk hd ρ;obtain⟨h1,h2⟩:=hjr k j π hk;simp only[Env.back,if_pos h1,h2,hd,List.take_left,List.drop_left,and_self,if_true]
 refine⟨fun i j hi b hb=>?_,fun i hi b hb=>?_,fun k j hk v hv=>?_,fun k j π hk hd v hv=>?_,hhs,fun k j π hk=>?_,fun k hk v hv=>?_,fun k hk hlt ρ=>?_⟩
 · have hlt:i<Ec.bx.length:=by rw[hL.nb];exact (List.getElem?_eq_some_iff.1 hi).1
   have h1:=hC.bx i _ (List.getElem?_eq_getElem hlt);rw[hb] at h1;simp at h1;subst h1;exact hled.bx j _ (by rw[<- (hL.bx i j hi).2];exact List.getElem?_eq_getElem hlt)
 · have h1:=List.getElem?_eq_none_iff.1 hi;show (E.bx++_)[_]?=_;rw[<- h.nbx,List.getElem?_append_right (by omega),Nat.add_sub_cancel_left,List.getElem?_drop,show acc.1.length+(i-acc.1.length)=i from by omega];exact hb
 · obtain⟨r,q,F,hl⟩:=hL.rw k _ hk;have h1:=hC.rw k _ hl.crw;rw[hv] at h1;simp at h1;subst h1;obtain⟨u,hu⟩:=h.row_val hl.part.1;obtain⟨_,h2,_⟩:=h.rw j r u hl.part.1 hu;obtain⟨F',_,h3⟩:=h2 hl.part.2.1;rw[<- h3.head_val.1];exact hled.rw j u hu
 · obtain⟨h1,q',F',_,_,_,h2,_⟩:=live_head hL hC hk hd;have h3:=hhs k j π hk hd [];rw[List.append_nil] at h3;rw[h3,h1];rw[hv] at h2;simp at h2;exact h2.symm
 · exact hled.lt (hjr k j π hk).1
 · have h1:=List.getElem?_eq_none_iff.1 hk;show (E.rw++_)[_]?=_;rw[<- h.nrw,List.getElem?_append_right (by omega),Nat.add_sub_cancel_left,List.getElem?_drop,show acc.2.length+(k-acc.2.length)=k from by omega];exact hv
 · have h1:=List.getElem?_eq_none_iff.1 hk;simp only[Env.back];rw[<- h.nrw,if_neg (by omega),show acc.2.length+(E.rw.length+(k-acc.2.length)-E.rw.length)=k from by omega]
theorem Inv.back (h:Inv c E s a w) (hL:Lends c E s w acc Ec m sp) (hC:Came c E s w acc Ec m E' m' w') (hone:onesB (backSt s acc m').bx=true):Inv c (E.back E' acc (deadOf 0 m'.rw) sp) (backSt s acc m') a w':=by
 have hled:=led_back h hL hC;have hbk:=backs_back h hL hC;have hreg:=after_reg h hL hC;have hkeep:∀b,b<w.heap.size->(∀z,own Ec m z≠some b)->w'.heap[b]?=w.heap[b]?:=fun b hb hno=>hC.kept.block b hb (fun⟨z,hz⟩=>hno z hz)
 have hlent:∀z b,own Ec m z=some b->∃y,own E s y=some b:=by
   intro z b hz;rcases hL.slot hz with ⟨i,j,rfl,_,h1⟩ | ⟨k,i,p,r,q,F,rfl,_,_,_,h1⟩
   · exact⟨_,h1⟩
   · exact⟨_,h1⟩
 refine h.move' hC.kept.os hC.kept.tape hC.kept.output hC.kept.size (fun x b hx=>?_) (fun b hb hno=>hkeep b hb (fun z hz=>by obtain⟨y,hy⟩:=hlent z b hz;exact hno y hy)) hled.bx hled.rw rfl rfl (fun hK hS=>pruneVs_rel hled hK hS h.fr) ?_ ?_ ?_ ?_ ?_ (fun x y b hx hy=>own_back_inj h hL hC hx hy) ?_
 · rcases own_back h hL hC hx with ⟨y,h1,_,_⟩ | ⟨z,h1,_⟩
   · exact .inl ⟨y,h1⟩
   · rcases hC.got z b h1 with ⟨y,hy⟩ | hge
     · exact .inl (hlent y b hy)
     · exact .inr hge
 · simp only[Env.back,backSt,List.length_append,mapI_length,List.length_drop,List.length_map,h.nbx,hC.mem.nbx]
 · simp only[Env.back,backSt,List.length_append,mapI_length,List.length_drop,List.length_map,h.nrw,hC.mem.nrw]
 · simp only[Env.back,backSt,List.length_append,mapI_length,List.length_drop,List.length_map,h.nfp,hC.mem.nfp]
 · intro hK hS j p b hp hb;have hone':=onesB_get hone j p hp;rcases app_get hp with ⟨hj,h1⟩ | ⟨hj,h1⟩
   · rw[mapI_length] at hj;rw[mapI_get,Nat.zero_add] at h1;obtain⟨p0,hp0,h1⟩:=Option.map_eq_some_iff.1 h1;have hbE:E.bx[j]?=some b:=by
       rcases app_get (l:=E.bx) hb with ⟨_,h2⟩ | ⟨h2,_⟩
       · exact h2
       · rw[h.nbx] at h2;omega
     cases hi:idxN acc.1 j with
     | none=>
       simp only[hi] at h1;subst h1;obtain⟨cs,h2,h3,_⟩:=h.bx j p0 b hp0 hbE;have ho:own E s (.b j)=some b:=hbE;refine⟨cs,?_,pruneVs_rel hled hK hS h3,hone'⟩;rw[hkeep b (h.box_lt hbE) (hL.notlent (hh:=h) ho (fun j' e=>by injection e with e;rw[<- e];exact hi) (fun _ _ e=>by cases e))];exact h2
     | some i=>
       have h2:=idxN_get hi;have h3:E'.bx[i]?=some b:=hC.bx i b (by rw[(hL.bx i j h2).2];exact hbE);have h4:i<m'.bx.length:=by rw[<- hC.mem.nbx];exact (List.getElem?_eq_some_iff.1 h3).1
       simp only[hi,List.getElem?_eq_getElem h4] at h1;subst h1;obtain⟨cs,h5,h6,_⟩:=hC.mem.bx i _ b (List.getElem?_eq_getElem h4) h3;exact⟨cs,h5,backVs_rel hbk hreg h6,hone'⟩
   · rw[mapI_length] at hj h1;rw[List.getElem?_map,List.getElem?_drop] at h1;obtain⟨q,hq,rfl⟩:=Option.map_eq_some_iff.1 h1;have h2:E'.bx[acc.1.length+(j-s.bx.length)]?=some b:=by
       rcases app_get (l:=E.bx) hb with ⟨h2,_⟩ | ⟨_,h2⟩
       · rw[h.nbx] at h2;omega
       · rw[List.getElem?_drop,h.nbx] at h2;exact h2
     obtain⟨cs,h5,h6,_⟩:=hC.mem.bx _ _ b hq h2;exact⟨cs,h5,backVs_rel hbk hreg h6,hone'⟩
 · intro hK hS j r v hr hv;rcases app_get hr with ⟨hj,h1⟩ | ⟨hj,h1⟩
   · rw[mapI_length] at hj;rw[mapI_get,Nat.zero_add] at h1;obtain⟨r0,hr0,h1⟩:=Option.map_eq_some_iff.1 h1;have hjE:j<E.rw.length:=by rw[h.nrw];exact hj
     have hvE:E.rw[j]?=some v:=by
       rcases app_get (l:=E.rw) hv with ⟨_,h2⟩ | ⟨h2,_⟩
       · exact h2
       · omega
     obtain⟨k1,k2,k3⟩:=h.rw j r0 v hr0 hvE;have hfpE:∀F,E.fp[j]?=some F->(E.back E' acc (deadOf 0 m'.rw) sp).fp[j]?=some (match findR acc.2 j with
         | some (k,_)=>if hasN (deadOf 0 m'.rw) k=false then (sp k).1++(E'.fp.getD k []++(sp k).2) else F
         | none=>F):=by
       intro F hF;show (mapI _ 0 E.fp++_)[j]?=_;rw[List.getElem?_append_left (by rw[mapI_length];exact (List.getElem?_eq_some_iff.1 hF).1),mapI_get,Nat.zero_add,hF];rfl
     cases hf:findR acc.2 j with
     | none=>
       simp only[hf] at h1;subst h1;refine⟨k1,fun hst=>?_,fun hst=>(k3 hst).mono hK hS⟩;obtain⟨F,hF,h2⟩:=k2 hst
       have:=hfpE F hF
       simp only[hf] at this;refine⟨F,this,h2.mono hK hS (fun _ ρ _ _=>?_) (fun b hb=>?_)⟩
       · simp only[Env.back,if_pos hjE,hf]
       · obtain⟨n,ho⟩:=own_fp hr0 hst hF hb;exact hkeep b (h.own_lt ho) (hL.notlent (hh:=h) ho (fun _ e=>by cases e) (fun j' n' e k π hk=>by injection e with e _;rw[<- e,hf] at hk;cases hk))
     | some p=>
       obtain⟨k,π⟩:=p;have hk:=findR_get hf;obtain⟨r1,q0,F,hl⟩:=hL.rw k _ hk;obtain⟨q',hq',hfit⟩:=rowsFit_get hC.fit k _ _ hk hl.mrow;simp only[hf,hq'] at h1;have hdead:=deadOf_get (n:=0) hq';rw[Nat.zero_add] at hdead;have e1:=hl.part.1;simp only at e1;rw[hr0] at e1;simp at e1;subst e1;rcases hfit with ⟨hs0,ht,he⟩ | ⟨hs2,_⟩
       · have hd:=hdead.2 hs0;rw[show Nat.beq q'.st 0=true from by rw[hs0];rfl] at h1;simp only[cond_true] at h1;subst h1;refine⟨k1,fun _=>?_,fun hst=>?_⟩
         · obtain⟨h4,q2,F',hq2,_,hF',h5,h6⟩:=live_head hL hC hk hd;rw[hq'] at hq2;simp at hq2;subst hq2;have h7:=hfpE _ hl.fp;simp only[hf,hd,if_true] at h7;rw[List.getD_eq_getElem?_getD,hF',Option.getD_some] at h7;refine⟨_,h7,?_⟩;have hH:=hbk.hs k j π hk hd;have h8:=hH [];rw[List.append_nil] at h8;refine hl.back _ w' _ q'.ds F' hK hS (fun b hb=>?_) (by simp only;rw[h8,h4]) (fun ρ hρ=>?_) ?_ v hvE
           · have hfp:=hl.fp;rcases hb with hb | hb
             · obtain⟨n,hn⟩:=List.getElem?_of_mem hb;have hn1:=(List.getElem?_eq_some_iff.1 hn).1;have ho:own E s (.r j n)=some b:=own_r hr0 hl.part.2.1 hfp (by rw[List.getElem?_append_left hn1];exact hn);exact hkeep b (h.own_lt ho) (hL.notlent (hh:=h) ho (fun _ e=>by cases e) (fun j' n' e k' π' hk'=>by
                 injection e with e1 e2
                 rw[<- e1,hf] at hk';simp at hk';rw[<- hk'.1,<- e2];exact .inl hn1))
             · obtain⟨n,hn⟩:=List.getElem?_of_mem hb;have e3:Ec.fp.getD k []=F:=by rw[List.getD_eq_getElem?_getD,hl.cfp];rfl
               have ho:own E s (.r j ((sp k).1.length+(F.length+n)))=some b:=by
                 refine own_r hr0 hl.part.2.1 hfp ?_;rw[List.getElem?_append_right (by omega),Nat.add_sub_cancel_left,List.getElem?_append_right (by omega),Nat.add_sub_cancel_left];exact hn
               exact hkeep b (h.own_lt ho) (hL.notlent (hh:=h) ho (fun _ e=>by cases e) (fun j' n' e k' π' hk'=>by
                 injection e with e1 e2
                 rw[<- e1,hf] at hk';simp at hk';rw[<- hk'.1,<- e2,e3];exact .inr (by omega)))
           · simp only[Env.back,if_pos hjE,hf];rw[if_neg];rintro⟨_,h9⟩;have h10:=List.take_append_drop π.length ρ;rw[h9] at h10;exact hρ ⟨_,h10.symm⟩
           · simp only;rw[h8,<- ht,<- he]
             have:(fun (_:Nat) (ρ:Path)=>(E.back E' acc (deadOf 0 m'.rw) sp).nh j (π++ρ))=fun _=>E'.nh k:=by
               funext _ ρ;exact hH ρ
             rw[this];exact h6.mono (fun _ _=>rfl) hreg (fun _ _ _ _=>rfl) (fun _ _=>rfl)
         · rw[show ({r0 with ds:=setP r0.e r0.ds π q'.ds,lt:=anyLt s acc.2}:Row).st=r0.st from rfl,hl.part.2.1] at hst;cases hst
       · rw[show Nat.beq q'.st 0=false from by rw[hs2];rfl] at h1;simp only[cond_false] at h1;subst h1;exact⟨k1,(fun e=>by cases e),(fun e=>by cases e)⟩
   · rw[mapI_length] at hj h1;rw[List.getElem?_map,List.getElem?_drop] at h1;obtain⟨q,hq,rfl⟩:=Option.map_eq_some_iff.1 h1;have h2:E'.rw[acc.2.length+(j-s.rw.length)]?=some v:=by
       rcases app_get (l:=E.rw) hv with ⟨h2,_⟩ | ⟨_,h2⟩
       · rw[h.nrw] at h2;omega
       · rw[List.getElem?_drop,h.nrw] at h2;exact h2
     obtain⟨k1,k2,k3⟩:=hC.mem.rw _ q v hq h2;refine⟨k1,fun hst=>?_,fun hst=>(k3 hst).mono (fun _ _=>rfl) hreg⟩;obtain⟨F,hF,h3⟩:=k2 hst;refine⟨F,?_,?_⟩
     · show (mapI _ 0 E.fp++_)[j]?=_;rw[List.getElem?_append_right (by rw[mapI_length,h.nfp];omega),mapI_length,h.nfp,List.getElem?_drop];exact hF
     · have:(fun (_:Nat)=>(E.back E' acc (deadOf 0 m'.rw) sp).nh j)=fun _=>E'.nh (acc.2.length+(j-s.rw.length)):=by
         funext _ ρ
         simp only[Env.back];rw[if_neg (by rw[h.nrw];omega),h.nrw]
       rw[this];exact h3.mono (fun _ _=>rfl) hreg (fun _ _ _ _=>rfl) (fun _ _=>rfl)
 · intro j n b r hr hlt hb;have hany:anyLt s acc.2=false->∀z,own E' m' z=some b->(∃k n,z=.r k n)->c.w0.heap.size<=b:=by
     intro hany z hz ⟨k,n,hzk⟩;rcases hC.got z b hz with ⟨y,hy⟩ | hge
     · rcases hL.slot hy with ⟨i,j',rfl,_,h1⟩ | ⟨k',i,p,r',q,F,rfl,h1,h2,_,h3⟩
       · have h4:own E' m' (.b i)=some b:=hC.bx i b hy
         have:=hC.mem.inj _ _ b h4 hz
         rw[hzk] at this;cases this
       · exact h.fresh _ _ b r' h2.part.1 (anyLt_get hany k' p r' h1 h2.part.1) h3
     · exact Nat.le_trans h.size hge
   rcases own_back h hL hC hb with ⟨y,h1,h2,h3⟩ | ⟨z,h1,h3⟩
   · cases y with
     | b j'=>cases h3
     | r j' n'=>
       have hjj:j'=j:=by
         unfold g1 at h3;simp only at h3;split at h3
         · split at h3
           · injection h3 with h3 _;exact h3.symm
           · injection h3 with h3 _;exact h3.symm
         · injection h3 with h3 _;exact h3.symm
       subst hjj;obtain⟨r0,F0,h4,h5,h6,h7⟩:=own_of h1;have h8:j'<s.rw.length:=(List.getElem?_eq_some_iff.1 h4).1;rcases app_get hr with ⟨_,h9⟩ | ⟨h9,_⟩
       · rw[mapI_get,Nat.zero_add,h4,Option.map_some] at h9;cases hf:findR acc.2 j' with
         | none=>
           simp only[hf] at h9;simp at h9;subst h9;exact h.fresh j' n' b r0 h4 hlt h1
         | some p=>
           obtain⟨k,π⟩:=p;have hk:=findR_get hf;obtain⟨r1,q0,F,hl⟩:=hL.rw k _ hk;obtain⟨q',hq',hfit⟩:=rowsFit_get hC.fit k _ _ hk hl.mrow;simp only[hf,hq'] at h9;simp at h9;rcases hfit with ⟨hs0,_⟩ | ⟨hs2,_⟩
           · rw[show Nat.beq q'.st 0=true from by rw[hs0];rfl] at h9;simp only[cond_true] at h9;subst h9;exact h.fresh j' n' b r0 h4 (anyLt_get hlt k _ r0 hk h4) h1
           · rw[show Nat.beq q'.st 0=false from by rw[hs2];rfl] at h9;simp only[cond_false] at h9;subst h9;exact h.fresh j' n' b r0 h4 hlt h1
       · rw[mapI_length] at h9;omega
   · cases z with
     | b i=>
       unfold g2 at h3;simp only at h3;split at h3<;>cases h3
     | r k n'=>
       obtain⟨q,F',h4,h5,h6,h7⟩:=own_of h1;cases hk:acc.2[k]? with
       | some p=>
         obtain⟨j',π⟩:=p;simp only[g2,hk] at h3;injection h3 with h3 _
         subst h3;have hf:=findR_of hL.ndr hk;obtain⟨r1,q0,F,hl⟩:=hL.rw k _ hk;have h8:j<s.rw.length:=(List.getElem?_eq_some_iff.1 hl.part.1).1;rcases app_get hr with ⟨_,h9⟩ | ⟨h9,_⟩
         · rw[mapI_get,Nat.zero_add,hl.part.1,Option.map_some] at h9;simp only[hf,h4] at h9;simp at h9;rw[show Nat.beq q.st 0=true from by rw[h5];rfl] at h9;simp only[cond_true] at h9;subst h9;exact hany hlt _ h1 ⟨_,_,rfl⟩
         · rw[mapI_length] at h9;omega
       | none=>
         simp only[g2,hk] at h3;injection h3 with h3 _
         subst h3;have hkn:=List.getElem?_eq_none_iff.1 hk;rcases app_get hr with ⟨h9,_⟩ | ⟨_,h9⟩
         · rw[mapI_length] at h9;omega
         · rw[mapI_length,List.getElem?_map,List.getElem?_drop,show acc.2.length+(s.rw.length+(k-acc.2.length)-s.rw.length)=k from by omega,h4] at h9;simp at h9;subst h9;simp only[Bool.and_eq_false_iff] at hlt;rcases hlt with hlt | hlt
           · exact Nat.le_trans h.size (hC.fresh k n' b q h4 hlt h1)
           · exact hany hlt _ h1 ⟨_,_,rfl⟩
theorem back_goes (h:Inv c E s a w) (hL:Lends c E s w acc Ec m sp) (hC:Came c E s w acc Ec m E' m' w'):Goes c E s w (E.back E' acc (deadOf 0 m'.rw) sp) (backSt s acc m') w':=by
 have hlent:∀z b,own Ec m z=some b->∃y,own E s y=some b:=by
   intro z b hz;rcases hL.slot hz with ⟨i,j,rfl,_,h1⟩ | ⟨k,i,p,r,q,F,rfl,_,_,_,h1⟩
   · exact⟨_,h1⟩
   · exact⟨_,h1⟩
 refine goes_of hC.kept.size (fun x b hx=>?_) (fun b hb hno=>hC.kept.block b hb (fun⟨z,hz⟩=>by obtain⟨y,hy⟩:=hlent z b hz;exact hno y hy));rcases own_back h hL hC hx with ⟨y,h1,_,_⟩ | ⟨z,h1,_⟩
 · exact .inl ⟨y,h1⟩
 · rcases hC.got z b h1 with ⟨y,hy⟩ | hge
   · exact .inl (hlent y b hy)
   · exact .inr hge
end
end
inductive VC:Type 1 where
 | t | f | pr (p:Prop) | and (a b:VC) | imp (p:Prop) (v:VC) | ob (p:Prop) (v:VC) | all (α:Type) (g:α->VC) | ex (α:Type) (g:α->VC) | or (a b:VC)
def VC.den:VC->Prop
 | .t=>True
 | .f=>False
 | .pr p=>p
 | .and a b=>a.den/\b.den
 | .imp p v=>p->v.den
 | .ob p v=>p/\v.den
 | .all _ g=>∀x,(g x).den
 | .ex _ g=>∃x,(g x).den
 | .or a b=>a.den\/b.den
def forceN:Nat->(Nat->VC)->VC
 | 0,K=>K 0
 | n+1,K=>forceN n fun m=>K (m+1)
theorem forceN_eq:∀(n:Nat) (K:Nat->VC),forceN n K=K n
 | 0,_=>rfl
 | n+1,K=>by rw[forceN,forceN_eq n]
mutual
def forceV:SV->(SV->VC)->VC
 | .un,K=>K .un
 | .tt,K=>K .tt
 | .ff,K=>K .ff
 | .int k n,K=>K (.int k n)
 | .bool b,K=>K (.bool b)
 | .str s,K=>K (.str s)
 | .raw v,K=>K (.raw v)
 | .nil,K=>K .nil
 | .sl e ds,K=>K (.sl e ds)
 | .own j,K=>forceN j fun j=>K (.own j)
 | .agg l,K=>forceVs l fun l=>K (.agg l)
 | .tup l,K=>forceVs l fun l=>K (.tup l)
 | .bp j off,K=>forceN j fun j=>forceN off fun off=>K (.bp j off)
 | .rp j π i sz off,K=>forceN j fun j=>K (.rp j π i sz off)
 | .ptr t d off,K=>K (.ptr t d off)
 | .fn f l,K=>forceVs l fun l=>K (.fn f l)
 | .nilp,K=>K .nilp
 | .ifc t l,K=>forceVs l fun l=>K (.ifc t l)
 | .bf f l,K=>forceVs l fun l=>K (.bf f l)
 | .hs j π,K=>forceN j fun j=>K (.hs j π)
 | .bsl e ds,K=>K (.bsl e ds)
 | .bptr e d off,K=>K (.bptr e d off)
 | .arr k ds,K=>K (.arr k ds)
def forceVs:List SV->(List SV->VC)->VC
 | [],K=>K []
 | x::l,K=>forceV x fun x=>forceVs l fun l=>K (x::l)
end
mutual
theorem forceV_eq:∀(x:SV) (K:SV->VC),forceV x K=K x
 | .un,_=>rfl
 | .tt,_=>rfl
 | .ff,_=>rfl
 | .int _ _,_=>rfl
 | .bool _,_=>rfl
 | .str _,_=>rfl
 | .raw _,_=>rfl
 | .nil,_=>rfl
 | .sl _ _,_=>rfl
 | .own _,_=>by rw[forceV,forceN_eq]
 | .agg l,_=>by rw[forceV,forceVs_eq l]
 | .tup l,_=>by rw[forceV,forceVs_eq l]
 | .bp _ _,_=>by rw[forceV,forceN_eq,forceN_eq]
 | .rp _ _ _ _ _,_=>by rw[forceV,forceN_eq]
 | .ptr _ _ _,_=>rfl
 | .fn _ l,_=>by rw[forceV,forceVs_eq l]
 | .nilp,_=>rfl
 | .ifc _ l,_=>by rw[forceV,forceVs_eq l]
 | .bf _ l,_=>by rw[forceV,forceVs_eq l]
 | .hs _ _,_=>by rw[forceV,forceN_eq]
 | .bsl _ _,_=>rfl
 | .bptr _ _ _,_=>rfl
 | .arr _ _,_=>rfl
theorem forceVs_eq:∀(l:List SV) (K:List SV->VC),forceVs l K=K l
 | [],_=>rfl
 | x::l,K=>by rw[forceVs,forceV_eq x,forceVs_eq l]
end
def forceBs:List (TypeId×List SV)->(List (TypeId×List SV)->VC)->VC
 | [],K=>K []
 | (t,l)::r,K=>forceN t fun t=>forceVs l fun l=>forceBs r fun r=>K ((t,l)::r)
theorem forceBs_eq:∀(l:List (TypeId×List SV)) (K:List (TypeId×List SV)->VC),forceBs l K=K l
 | [],_=>rfl
 | (t,l)::r,K=>by rw[forceBs,forceN_eq,forceVs_eq,forceBs_eq r]
def forceO (e:OT) (K:OT->VC):VC:=
 match e with
 | .im t=>K (.im t)
 | .sl t e=>K (.sl t e)
 | .st fs=>K (.st fs)
 | .ho t e=>K (.ho t e)
 | .mp k v=>K (.mp k v)
theorem forceO_eq (e:OT) (K:OT->VC):forceO e K=K e:=by cases e<;>rfl
def forceBool (b:Bool) (K:Bool->VC):VC:=
 match b with
 | true=>K true
 | false=>K false
theorem forceBool_eq (b:Bool) (K:Bool->VC):forceBool b K=K b:=by cases b<;>rfl
def forceRs:List Row->(List Row->VC)->VC
 | [],K=>K []
 | ⟨t,e,ds,st,lt⟩::r,K=>forceN t fun t=>forceO e fun e=>forceN st fun st=>forceBool lt fun lt=>forceRs r fun r=>K (⟨t,e,ds,st,lt⟩::r)
theorem forceRs_eq:∀(l:List Row) (K:List Row->VC),forceRs l K=K l
 | [],_=>rfl
 | ⟨t,e,ds,st,lt⟩::r,K=>by rw[forceRs,forceN_eq,forceO_eq,forceN_eq,forceBool_eq,forceRs_eq r]
def forceSt (s:St) (K:St->VC):VC:=forceVs s.fr fun fr=>forceBs s.bx fun bx=>forceRs s.rw fun rw=>K ⟨fr,bx,rw⟩
theorem forceSt_eq (s:St) (K:St->VC):forceSt s K=K s:=by rw[forceSt,forceVs_eq,forceBs_eq,forceRs_eq]
def conj:List Prop->Prop
 | []=>True
 | [p]=>p
 | p::q::l=>p/\conj (q::l)
structure Ret (S:Nat->Prop) (E:Env) (m:St) (w:World) (E':Env) (m':St) (w':World):Prop where
 kept:KeepBut (fun b=>∃x,own E m x=some b) w w'
 bx:∀(j b:Nat),E.bx[j]?=some b->E'.bx[j]?=some b
 rw:∀(j:Nat) (v:Value),E.rw[j]?=some v->E'.rw[j]?=some v
 got:∀x b,own E' m' x=some b->(∃y,own E m y=some b)\/w.heap.size<=b
 fresh:∀(j k b:Nat) (r:Row),m'.rw[j]?=some r->r.lt=false->own E' m' (.r j k)=some b->w.heap.size<=b
 mem:MemOk (After S w w' E' m') E' m' w'
def Fn (P:Program) (f:FuncId) (ins:List SV) (m:St) (G:Type) (post:G->Prop) (out:G->SV) (m':G->St):Prop:=
 ∀(S:Nat->Prop) (E:Env) (w:World) (vs:List Value),(∀b,S b->b<w.heap.size)->E.w0=w->(∀b,E.bo b->b<w.heap.size/\∀x,own E m x≠some b)->MemOk S E m w->RelVs S E w ins vs->
   Calls P f vs.toArray w fun e w'=>∃g v E',e=.returned v/\post g/\Ret S E m w E' (m' g) w'/\RelV (After S w w' E' (m' g)) E' w' (out g) v
def Enters (P:Program) (f:FuncId):Prop:=∀args w,(callFunc f args).run P w=.ok (.enter f args) w
theorem enters {P:Program} {f:FuncId} {fn:Func} {c:Code} (hf:P.funcs[f]?=some fn) (hname:(fn.name == "runtime.NumGoroutine")=false) (hb:fn.body=some c):Enters P f:=fun args w=>by
 have hn:¬fn.name= "runtime.NumGoroutine" :=by simpa using hname
 simp [callFunc,Sem.run_bind,program,Sem.run,hf,hn,hb]
inductive Sg where
 | d | lend
abbrev Got:=Prop×SV×St
inductive Con (P:Program):Type 1 where
 | f0 (f:FuncId) (sig:List Sg) (loc:Bool) (get:List SV->St->Option Got) (enter:Enters P f) (ok:∀ins m p out m',get ins m=some (p,out,m')->p->Fn P f ins m Unit (fun _=>True) (fun _=>out) (fun _=>m'))
 | fg (f:FuncId) (sig:List Sg) (loc:Bool) (G:Type) (get:List SV->St->Option (Prop×(G->Prop×SV×St))) (enter:Enters P f)
     (ok:∀ins m p q,get ins m=some (p,q)->p->Fn P f ins m G (fun g=>(q g).1) (fun g=>(q g).2.1) (fun g=>(q g).2.2))
 | mt (f:FuncId) (t:TypeId) (name:String) (enter:Enters P f) (ok:∀x w,(method (P.types.size+Made.depth) t x name).run P w=.ok (f,x) w)
def Con.id {P:Program}:Con P->FuncId
 | .f0 f _ _ _ _ _=>f
 | .fg f _ _ _ _ _ _=>f
 | .mt f _ _ _ _=>f
def Con.sig {P:Program}:Con P->List Sg
 | .f0 _ s _ _ _ _=>s
 | .fg _ s _ _ _ _ _=>s
 | .mt _ _ _ _ _=>[]
def Con.loc {P:Program}:Con P->Bool
 | .f0 _ _ l _ _ _=>l
 | .fg _ _ l _ _ _ _=>l
 | .mt _ _ _ _ _=>false
def methOf {P:Program} (ct:List (Con P)) (t:TypeId) (name:String):Option FuncId:=
 match ct with
 | []=>none
 | .mt f t' n _ _::r=>bif Nat.beq t' t&&n == name then some f else methOf r t name
 | _::r=>methOf r t name
theorem methOf_ok {P:Program} {t:TypeId} {name:String} {f:FuncId}:∀{ct:List (Con P)},methOf ct t name=some f->∀x w,(method (P.types.size+Made.depth) t x name).run P w=.ok (f,x) w
 | [],h=>by cases h
 | .mt f' t' n he ok::r,h=>by
   unfold methOf at h;cases hb:Nat.beq t' t&&n == name with
   | true=>
     rw[hb] at h;simp only[cond_true,Option.some.injEq] at h;simp only[Bool.and_eq_true,beq_iff_eq] at hb;obtain⟨h1,rfl⟩:=hb;obtain rfl:=Nat.eq_of_beq_eq_true h1;subst h;exact ok
   | false=>rw[hb] at h;exact methOf_ok h
 | .f0 _ _ _ _ _ _::r,h=>methOf_ok (ct:=r) h
 | .fg _ _ _ _ _ _ _::r,h=>methOf_ok (ct:=r) h
mutual
def stripV:SV->SV
 | .own _=>.un
 | .hs _ _=>.un
 | .rp _ _ _ _ _=>.un
 | .bsl _ _=>.un
 | .bptr _ _ _=>.un
 | .arr k ds=>.arr k ds
 | .agg l=>.agg (stripVs l)
 | .tup l=>.tup (stripVs l)
 | .fn f l=>.fn f (stripVs l)
 | .ifc f l=>.ifc f (stripVs l)
 | .bf f l=>.bf f (stripVs l)
 | .un=>.un
 | .tt=>.tt
 | .ff=>.ff
 | .int k n=>.int k n
 | .bool b=>.bool b
 | .str b=>.str b
 | .raw v=>.raw v
 | .nil=>.nil
 | .sl e ds=>.sl e ds
 | .bp j off=>.bp j off
 | .ptr t d off=>.ptr t d off
 | .nilp=>.nilp
def stripVs:List SV->List SV
 | []=>[]
 | x::l=>stripV x::stripVs l
end
mutual
theorem stripV_rel {S:Nat->Prop} {E:Env} {w:World}:∀{x:SV} {v:Value},RelV S E w x v->RelV S E w (stripV x) v
 | .own _,_,_=>trivial
 | .hs _ _,_,_=>trivial
 | .rp _ _ _ _ _,_,_=>trivial
 | .bsl _ _,_,_=>trivial
 | .bptr _ _ _,_,_=>trivial
 | .arr _ _,_,h=>h
 | .agg _,_,⟨vs,h1,h2⟩=>⟨vs,h1,stripVs_rel h2⟩
 | .tup _,_,⟨vs,h1,h2⟩=>⟨vs,h1,stripVs_rel h2⟩
 | .fn _ _,_,⟨vs,h1,h2⟩=>⟨vs,h1,stripVs_rel h2⟩
 | .ifc _ _,_,⟨vs,h1,h2⟩=>⟨vs,h1,stripVs_rel h2⟩
 | .bf _ _,_,⟨vs,h1,h2⟩=>⟨vs,h1,stripVs_rel h2⟩
 | .un,_,h=>h
 | .tt,_,h=>h
 | .ff,_,h=>h
 | .int _ _,_,h=>h
 | .bool _,_,h=>h
 | .str _,_,h=>h
 | .raw _,_,h=>h
 | .nil,_,h=>h
 | .sl _ _,_,h=>h
 | .bp _ _,_,h=>h
 | .ptr _ _ _,_,h=>h
 | .nilp,_,h=>h
theorem stripVs_rel {S:Nat->Prop} {E:Env} {w:World}:∀{l:List SV} {vs:List Value},RelVs S E w l vs->RelVs S E w (stripVs l) vs
 | [],_,h=>h
 | _::_,_,⟨v,vs',h1,h2,h3⟩=>⟨v,vs',h1,stripV_rel h2,stripVs_rel h3⟩
end
def sgOf:List Sg->Sg
 | []=>.d
 | g::_=>g
def prepF (s:St):List Sg->List SV->St×List SV
 | _,[]=>(s,[])
 | sig,x::l=>match sgOf sig with
   | .lend=>((prepF s sig.tail l).1,x::(prepF s sig.tail l).2)
   | .d=>((prepF (freezeS s x).1 sig.tail l).1,stripV (freezeS s x).2::(prepF (freezeS s x).1 sig.tail l).2)
theorem prepF_ok {c:Ctx} {E:Env} {a:Act} {w:World}:∀{l:List SV} {sig:List Sg} {vs:List Value} {s:St},Inv c E s a w->RelVs (Reg c E s w) E w l vs->Inv c E (prepF s sig l).1 a w/\Under c E w s (prepF s sig l).1/\RelVs (Reg c E (prepF s sig l).1 w) E w (prepF s sig l).2 vs
 | [],_,_,_,h,hr=>⟨h,fun _ hb=>hb,hr⟩
 | x::l,sig,_,s,h,⟨v,vs',h1,h2,h3⟩=>by
   subst h1;unfold prepF;cases sgOf sig with
   | lend=>
     obtain⟨h7,h8,h9⟩:=prepF_ok (sig:=sig.tail) h h3;exact⟨h7,h8,v,vs',rfl,h8.rel h2,h9⟩
   | d=>
     obtain⟨h4,h5,h6⟩:=freezeS_ok h h2;obtain⟨h7,h8,h9⟩:=prepF_ok (sig:=sig.tail) h4 (h5.rels h3);exact⟨h7,fun _ hb=>h8 _ (h5 _ hb),v,vs',rfl,stripV_rel (h8.rel h6),h9⟩
def prepL (s:St) (no:List Nat):List Sg->List SV->Option (List Prop×List SV)
 | _,[]=>some ([],[])
 | sig,x::l=>match sgOf sig with
   | .lend=>match prepL s no sig.tail l with
     | some (ps,r)=>some (ps,x::r)
     | none=>none
   | .d=>match viewV s no x with
     | some (ps,y)=>match prepL s no sig.tail l with
       | some (qs,r)=>some (ps++qs,y::r)
       | none=>none
     | none=>none
theorem prepL_ok {c:Ctx} {E:Env} {s:St} {a:Act} {w:World} (h:Inv c E s a w) {bs no:List Nat}:∀{l r:List SV} {sig:List Sg} {ps:List Prop} {vs:List Value},prepL s no sig l=some (ps,r)->(∀p∈ps,p)->RelVs (Reg c E s w) E w l vs->RelVs (CallS E s w (lentSlot bs no)) E w r vs
 | [],r,sig,ps,vs,hq,hp,hr=>by
   simp [prepL] at hq;obtain⟨rfl,rfl⟩:=hq;exact hr
 | x::l,r,sig,ps,vs,hq,hp,⟨v,vs',h1,h2,h3⟩=>by
   unfold prepL at hq;split at hq
   · split at hq
     · rename_i ps' r' h4;simp only[Option.some.injEq,Prod.mk.injEq] at hq;obtain⟨rfl,rfl⟩:=hq;exact⟨v,vs',h1,h2.mono (fun _ _=>rfl) reg_callS E.le_refl,prepL_ok h h4 hp h3⟩
     · cases hq
   · split at hq
     · rename_i ps1 y hy;split at hq
       · rename_i qs r' h4;simp only[Option.some.injEq,Prod.mk.injEq] at hq;obtain⟨rfl,rfl⟩:=hq;obtain⟨hp1,hp2⟩:=all_app hp;exact⟨v,vs',h1,viewV_rel h hy hp1 h2,prepL_ok h h4 hp2 h3⟩
       · cases hq
     · cases hq
def onlyLend:List Sg->List SV->List SV
 | _,[]=>[]
 | sig,x::l=>(match sgOf sig with
   | .lend=>x
   | .d=>stripV x)::onlyLend sig.tail l
def lentOf (s:St) (sig:List Sg) (l:List SV):List Nat:=
 match lendAll s (onlyLend sig l) with
 | some (acc,_)=>firsts acc.2
 | none=>[]
def prep (loc:Bool) (s:St) (sig:List Sg) (l:List SV):Option (St×List Prop×List SV×List Nat):=
 bif loc then (match prepL s (lentOf s sig l) sig l with
   | some (ps,r)=>some (s,ps,r,lentOf s sig l)
   | none=>none)
 else some ((prepF s sig l).1,[],(prepF s sig l).2,[])
def subN:List Nat->List Nat->Bool
 | [],_=>true
 | x::l,m=>hasN m x&&subN l m
theorem subN_ok:∀{l m:List Nat},subN l m=true->∀x∈l,x∈m
 | [],_,_,x,hx=>by cases hx
 | y::l,m,h,x,hx=>by
   simp only[subN,Bool.and_eq_true] at h;rcases List.mem_cons.1 hx with rfl | hx
   · exact hasN_mem h.1
   · exact subN_ok h.2 x hx
def CallReg (loc:Bool) (c:Ctx) (E:Env) (s:St) (w:World) (bs no:List Nat):Nat->Prop:=if loc=true then CallS E s w (lentSlot bs no) else Reg c E s w
theorem prep_ok {c:Ctx} {E:Env} {s s1:St} {a:Act} {w:World} (h:Inv c E s a w) {loc:Bool} {sig:List Sg} {l args:List SV} {ps:List Prop} {no:List Nat} {vs:List Value} (hq:prep loc s sig l=some (s1,ps,args,no)) (hp:∀p∈ps,p) (hr:RelVs (Reg c E s w) E w l vs) :
   Inv c E s1 a w/\Under c E w s s1/\∀bs,RelVs (CallReg loc c E s1 w bs no) E w args vs:=by
 unfold prep at hq;cases loc with
 | true=>
   simp only[cond_true] at hq;split at hq
   · rename_i ps' r h1;simp only[Option.some.injEq,Prod.mk.injEq] at hq;obtain⟨rfl,rfl,rfl,rfl⟩:=hq;exact⟨h,fun _ hb=>hb,fun bs=>prepL_ok h h1 hp hr⟩
   · cases hq
 | false=>
   simp only[cond_false,Option.some.injEq,Prod.mk.injEq] at hq;obtain⟨rfl,rfl,rfl,rfl⟩:=hq;obtain⟨h1,h2,h3⟩:=prepF_ok (sig:=sig) h hr;exact⟨h1,h2,fun bs=>h3⟩
theorem callReg_reg {loc:Bool} {c:Ctx} {E:Env} {s:St} {w:World} {bs no:List Nat} (b:Nat) (hb:Reg c E s w b):CallReg loc c E s w bs no b:=by
 unfold CallReg;split
 · exact reg_callS b hb
 · exact hb
theorem callReg_lt {loc:Bool} {c:Ctx} {E:Env} {s:St} {w:World} {bs no:List Nat} (b:Nat) (hb:CallReg loc c E s w bs no b):b<w.heap.size:=by
 unfold CallReg at hb;split at hb
 · exact hb.1
 · exact hb.2.1
def rowsLess:List Row->Bool
 | []=>true
 | q::l=>((Nat.beq q.st 0&&memO q.e)||Nat.beq q.st 2)&&rowsLess l
def boxesLess:List (TypeId×List SV)->Bool
 | []=>true
 | q::l=>memlesss q.2&&boxesLess l
theorem rowsLess_get:∀{l:List Row},rowsLess l=true->∀(k:Nat) (q:Row),l[k]?=some q->(q.st=0/\memO q.e=true)\/q.st=2
 | [],_,k,q,h=>by simp at h
 | x::l,h,k,q,hq=>by
   simp only[rowsLess,Bool.and_eq_true,Bool.or_eq_true] at h;cases k with
   | zero=>
     simp at hq;subst hq;exact h.1.imp (fun h=>⟨Nat.eq_of_beq_eq_true h.1,h.2⟩) Nat.eq_of_beq_eq_true
   | succ k=>exact rowsLess_get h.2 k q (by simpa using hq)
theorem boxesLess_get:∀{l:List (TypeId×List SV)},boxesLess l=true->∀(k:Nat) (q:TypeId×List SV),l[k]?=some q->memlesss q.2=true
 | [],_,k,q,h=>by simp at h
 | x::l,h,k,q,hq=>by
   simp only[boxesLess,Bool.and_eq_true] at h;cases k with
   | zero=>simp at hq;subst hq;exact h.1
   | succ k=>exact boxesLess_get h.2 k q (by simpa using hq)
theorem memO_head (t:TypeId) (e:OT):memO (headT t e)=memO e:=by cases e<;>rfl
theorem MemOk.less {S S':Nat->Prop} {E:Env} {m:St} {w:World} (h:MemOk S E m w) (h1:rowsLess m.rw=true) (h2:boxesLess m.bx=true) (hS:∀x b,own E m x=some b->¬S' b):MemOk S' E m w:=by
 refine⟨h.nbx,h.nrw,h.nfp,fun j p b hp hb=>?_,fun j r v hr hv=>?_,h.inj,fun x b hx=>⟨hS x b hx,(h.out x b hx).2⟩⟩
 · obtain⟨cs,h3,h4,h5⟩:=h.bx j p b hp hb;exact⟨cs,h3,memlesss_rel (boxesLess_get h2 j p hp) h4,h5⟩
 · obtain⟨h3,h4,h5⟩:=h.rw j r v hr hv;rcases rowsLess_get h1 j r hr with ⟨h6,h7⟩ | h6
   · refine⟨h3,fun hst=>?_,fun hst=>by rw[h6] at hst;cases hst⟩;obtain⟨F,hF,h8⟩:=h4 hst;exact⟨F,hF,memO_own (e:=headT r.tid r.e) (by rw[memO_head];exact h7) h8⟩
   · exact⟨h3,(fun hst=>by rw[h6] at hst;cases hst),(fun hst=>by rw[h6] at hst;cases hst)⟩
def genRow (s:St) (j:Nat) (K:St->VC):VC:=
 match s.rw[j]? with
 | some r=>.all (List Dat) fun ds=>.imp (ds=r.ds) (K (s.setRow j ⟨r.tid,r.e,ds,r.st,r.lt⟩))
 | none=>K s
theorem genRow_den {s:St} {j:Nat} {K:St->VC} (h:(genRow s j K).den):(K s).den:=by
 unfold genRow at h;split at h
 · rename_i r hr;have h2:(K (s.setRow j r)).den:=h r.ds rfl;have h3:s.setRow j r=s:=by
     unfold St.setRow;obtain⟨hj,hr⟩:=List.getElem?_eq_some_iff.1 hr;rw[<- hr,List.set_getElem_self hj]
   rwa [h3] at h2
 · exact h
def genRows:List Nat->St->(St->VC)->VC
 | [],s,K=>K s
 | j::l,s,K=>genRow s j fun s=>genRows l s K
theorem genRows_den:∀{l:List Nat} {s:St} {K:St->VC},(genRows l s K).den->(K s).den
 | [],_,_,h=>h
 | _::_,_,_,h=>genRows_den (genRow_den h)
def deepN:List (Nat×Path)->List Nat
 | []=>[]
 | (_,[])::l=>deepN l
 | (j,_::_)::l=>j::deepN l
def after (loc:Bool) (s:St) (acc:Acc) (m:St) (out:SV) (m':St) (K:SV->St->VC):VC:=
 bif rowsFit acc.2 m.rw m'.rw&&onesB (backSt s acc m').bx&&(!loc||(memless out&&rowsLess m'.rw&&boxesLess m'.bx)) then
   genRows (deepN acc.2) (backSt s acc m') fun s2=>K (backV acc (deadOf 0 m'.rw) s.bx.length s.rw.length out) s2
 else .f
def callOne {P:Program} (c:Con P) (s:St) (l:List SV) (K:SV->St->VC):Option VC:=
 match prep c.loc s c.sig l with
 | some (s1,ps,args,no)=>match lendAll s1 args with
   | some (acc,ins,qs,m)=>bif !c.loc||subN (firsts acc.2) no then
       (match c with
       | .f0 _ _ loc get _ _=>match get ins m with
         | some (p,out,m')=>some (.ob (conj (p::(ps++qs))) (after loc s1 acc m out m' K))
         | none=>none
       | .fg _ _ loc G get _ _=>match get ins m with
         | some (p,q)=>some (.ob (conj (p::(ps++qs))) (.all G fun g=>.imp (q g).1 (after loc s1 acc m (q g).2.1 (q g).2.2 K)))
         | none=>none
       | .mt _ _ _ _ _=>none)
     else none
   | none=>none
 | none=>none
def callVC {P:Program} (ct:List (Con P)) (s:St) (f:FuncId) (l:List SV) (K:SV->St->VC):VC:=
 match ct with
 | []=>.f
 | c::ct=>bif Nat.beq c.id f then (match callOne c s l K with
     | some v=>v
     | none=>callVC ct s f l K)
   else callVC ct s f l K
theorem conj_mem:∀{l:List Prop},conj l->∀p∈l,p
 | [],_,_,h=>by cases h
 | [p],h,q,hq=>by rw[List.mem_singleton.1 hq];exact h
 | p::q::l,h,r,hr=>by
   rcases List.mem_cons.1 hr with rfl | hr
   · exact h.1
   · exact conj_mem h.2 r hr
theorem after_ok {P:Program} {f:FuncId} {loc:Bool} {s s1:St} {c:Ctx} {E:Env} {a:Act} {w:World} {l args ins:List SV} {sig:List Sg} {ps qs:List Prop} {no:List Nat} {acc:Acc} {m:St} {vs:List Value} {G:Type} {post:G->Prop} {out:G->SV} {m':G->St} {K:SV->St->VC}
   (h:Inv c E s a w) (hr:RelVs (Reg c E s w) E w l vs) (hq:prep loc s sig l=some (s1,ps,args,no)) (hl:lendAll s1 args=some (acc,ins,qs,m)) (hsub:(!loc||subN (firsts acc.2) no)=true) (hp:∀p∈ps++qs,p) (hf:Fn P f ins m G post out m') (hK:∀g,post g->(after loc s1 acc m (out g) (m' g) K).den) :
   Calls P f vs.toArray w fun e w'=>∃v,e=.returned v/\∃x s' E' js,Inv c E' s' a w'/\RelV (Reg c E' s' w') E' w' x v/\E.led E' js/\Goes c E s w E' s' w'/\(K x s').den:=by
 obtain⟨hp1,hp2⟩:=all_app hp;obtain⟨h1,hu,h2⟩:=prep_ok h hq hp1 hr;obtain⟨Ec,sp,hw0,hbo,hm,hi,hL⟩:=lend_in h1 (S:=CallReg loc c E s1 w acc.1 no) (fun _=>False) hl hp2 callReg_reg (fun x b hx hls hS=>by
   unfold CallReg at hS;split at hS
   · rename_i hloc;rw[hloc] at hsub;refine hS.2 x hx ?_;cases x with
     | b j=>exact hls
     | r j k=>exact subN_ok (by simpa using hsub) j hls
   · exact hS.2.2 x hx) (h2 acc.1)
 refine (hf _ Ec w vs callReg_lt hw0 (fun b hb=>by rw[hbo] at hb;exact hb.elim) hm hi).mono ?_;rintro e w' ⟨g,v,E',rfl,hpost,hret,hv⟩;have hk:=hK g hpost;unfold after at hk;generalize hc:(rowsFit acc.2 m.rw (m' g).rw&&onesB (backSt s1 acc (m' g)).bx&&(!loc||(memless (out g)&&rowsLess (m' g).rw&&boxesLess (m' g).bx)))=cond at hk;cases cond with
 | false=>exact hk.elim
 | true=>
   simp only[cond_true] at hk;have hk:=genRows_den hk;simp only[Bool.and_eq_true] at hc;obtain⟨⟨c1,c2⟩,c3⟩:=hc;have hmem:MemOk (After (Reg c E s1 w) w w' E' (m' g)) E' (m' g) w'/\RelV (After (Reg c E s1 w) w w' E' (m' g)) E' w' (out g) v:=by
     cases loc with
     | false=>exact⟨hret.mem,hv⟩
     | true=>
       simp only[Bool.not_true,Bool.false_or,Bool.and_eq_true] at c3;exact⟨hret.mem.less c3.1.2 c3.2 (fun x b hx hS=>hS.2 x hx),memless_rel c3.1.1 hv⟩
   have hC:Came c E s1 w acc Ec m E' (m' g) w':=⟨hret.kept,hret.bx,hret.rw,hret.got,hret.fresh,hmem.1,c1⟩;exact⟨v,rfl,_,_,_,_,h1.back hL hC c2,backV_rel (backs_back h1 hL hC) (after_reg h1 hL hC) hmem.2,led_back h1 hL hC,(under_goes hu).trans (back_goes h1 hL hC),hk⟩
theorem callVC_ok {P:Program} {f:FuncId} {s:St} {c:Ctx} {E:Env} {a:Act} {w:World} {l:List SV} {vs:List Value} {K:SV->St->VC} (h:Inv c E s a w) (hr:RelVs (Reg c E s w) E w l vs):∀{ct:List (Con P)},(callVC ct s f l K).den->
   Enters P f/\Calls P f vs.toArray w fun e w'=>∃v,e=.returned v/\∃x s' E' js,Inv c E' s' a w'/\RelV (Reg c E' s' w') E' w' x v/\E.led E' js/\Goes c E s w E' s' w'/\(K x s').den
 | [],hv=>hv.elim
 | con::ct,hv=>by
   unfold callVC at hv;cases hc:Nat.beq con.id f with
   | false=>rw[hc] at hv;exact callVC_ok h hr hv
   | true=>
     rw[hc] at hv;have he:con.id=f:=Nat.eq_of_beq_eq_true hc;simp only[cond_true] at hv;split at hv
     · rename_i v hone;unfold callOne at hone;split at hone
       · rename_i s1 ps args no hq;split at hone
         · rename_i acc ins qs m hl;generalize hsub:(!con.loc||subN (firsts acc.2) no)=cond at hone;cases cond with
           | false=>cases hone
           | true=>
             simp only[cond_true] at hone;cases con with
             | f0 f' sig loc get enter ok=>
               have he:f'=f:=he;subst he;simp only at hone;split at hone
               · rename_i p out m' hg;simp only[Option.some.injEq] at hone;subst hone;obtain⟨hp,hv⟩:=hv;have hall:=conj_mem hp;exact⟨enter,after_ok h hr hq hl hsub (fun p hp=>hall p (List.mem_cons_of_mem _ hp)) (ok ins m p out m' hg (hall p (List.mem_cons_self ..))) (fun _ _=>hv)⟩
               · cases hone
             | fg f' sig loc G get enter ok=>
               have he:f'=f:=he;subst he;simp only at hone;split at hone
               · rename_i p q hg;simp only[Option.some.injEq] at hone;subst hone;obtain⟨hp,hv⟩:=hv;have hall:=conj_mem hp;exact⟨enter,after_ok h hr hq hl hsub (fun p hp=>hall p (List.mem_cons_of_mem _ hp)) (ok ins m p q hg (hall p (List.mem_cons_self ..))) (fun g hg=>hv g hg)⟩
               · cases hone
             | mt _ _ _ _ _=>cases hone
         · cases hone
       · cases hone
     · exact callVC_ok h hr hv
def Leads (P:Program) (o:Oper) (s:St) (v:(St->VC)->VC):Prop:=
 ∀K,(v K).den->∀c E a w,Inv c E s a w->∀Q,o.wp P a w (fun a' w'=>∃s' E',Inv c E' s' a' w'/\(K s').den) Q
def quiet:Op->Bool
 | .store _ _ _=>false
 | .mapUpdate _ _ _ _=>false
 | .call { callee:=.builtin .delete,..}=>false
 | .call { callee:=.value _,..}=>false
 | .call { callee:=.invoke _ _,..}=>false
 | _=>true
def LeadsX (P:Program) (o:Oper) (s:St) (v:(SV->St->VC)->VC):Prop:=
 ∀K,(v K).den->∀c E a w,Inv c E s a w->∀next Q,(∀x s' E' u w' js,(K x s').den->Inv c E' s' a w'->RelV (Reg c E' s' w') E' w' x u->E.led E' js->Goes c E s w E' s' w'->(quiet o.op=true->js=[])->next (a.put o.dst u) w')->o.wp P a w next Q
theorem LeadsX.leads {P:Program} {o:Oper} {s:St} {v:(SV->St->VC)->VC} (h:LeadsX P o s v):Leads P o s (fun K=>v (fun x s'=>K (s'.put o.dst x))):=by
 intro K hv c E a w hi Q;exact h _ hv c E a w hi _ Q (fun x s' E' u w' js h1 h2 h3 _ _ _=>⟨_,E',h2.put o.dst h3,h1⟩)
theorem leadsX_call {P:Program} {ct:List (Con P)} {o:Oper} {s:St} {x:Operand} {args:Array Operand} {ts:Array TypeId} {f:FuncId} {pre caps:List SV} (ho:o.op=.call { callee:=.value x,args:=args,argTypes:=ts}) (hx:(s.ev x=.fn f caps/\pre=[])\/(s.ev x=.bf f pre/\caps=[])) :
   LeadsX P o s (callVC ct s f (pre++(args.toList.map s.ev++caps))):=by
 intro K hv c E a w h next Q hnext;obtain⟨ps,cs,hxv,hps,hcs⟩:∃ps cs:List Value,a.eval x=.func (.func f) ps.toArray cs.toArray/\RelVs (Reg c E s w) E w pre ps/\RelVs (Reg c E s w) E w caps cs:=by
   have h1:=h.ev x;rcases hx with ⟨hx,rfl⟩ | ⟨hx,rfl⟩
   · rw[hx] at h1;obtain⟨cs,h2,h3⟩:=h1;exact⟨[],cs,h2,rfl,h3⟩
   · rw[hx] at h1;obtain⟨cs,h2,h3⟩:=h1;exact⟨cs,[],h2,h3,rfl⟩
 have hargs:RelVs (Reg c E s w) E w (pre++(args.toList.map s.ev++caps)) (ps++(args.toList.map a.eval++cs)):=hps.append ((evs_rel h _).append hcs);obtain⟨he,hcall⟩:=callVC_ok h hargs hv;have hrun:(execOp a.eval o).run P w=.ok (.enter f (ps++(args.toList.map a.eval++cs)).toArray) w:=by
   unfold execOp;rw[ho];simp only[resolve,hxv,Deferred.ofValue,pure_bind,invoke]
   have:(ps.toArray++Array.map a.eval args++cs.toArray)=(ps++(args.toList.map a.eval++cs)).toArray:=by
     apply Array.toList_inj.1;simp
   rw[this];exact he _ w
 unfold Oper.wp;rw[hrun,Oper.upon_enter];refine hcall.mono ?_;rintro e w' ⟨v,rfl,x,s',E',js,h1,h2,h3,h4,h5⟩;exact hnext x s' E' v w' js h5 h1 h2 h3 h4 (fun hq=>by rw[ho] at hq;cases hq)
theorem run_invoke {P:Program} {w:World} {o:Oper} {ρ:Operand->Value} {x:Operand} {args:Array Operand} {ts:Array TypeId} {name:String} {t:TypeId} {v:Value} {f:FuncId} (ho:o.op=.call { callee:=.invoke x name,args:=args,argTypes:=ts}) (hx:ρ x=.iface t v) (hm:∀x w,(method (P.types.size+Made.depth) t x name).run P w=.ok (f,x) w) (he:Enters P f):(execOp ρ o).run P w=.ok (.enter f (v::args.toList.map ρ).toArray) w:=by
 have h1:(#[Value.iface t v]++Array.map ρ args).extract 1 (#[Value.iface t v]++Array.map ρ args).size=Array.map ρ args:=by
   apply Array.toList_inj.1;simp [List.take_of_length_le]
 have h2:(#[v]++Array.map ρ args)=(v::args.toList.map ρ).toArray:=by apply Array.toList_inj.1;simp
 unfold execOp;rw[ho];simp only[resolve,pure_bind,invoke,hx];rw[h1,<- h2];have hm':=hm v w;have he':=he (#[v]++Array.map ρ args) w;have h0:(#[Value.iface t v]++Array.map ρ args)[0]?=some (Value.iface t v):=by rw[Array.getElem?_append_left (by simp)];rfl
 rw[h0];simp only[callMethod,Sem.run_bind,program,Sem.run] at hm' he' ⊢;simp only[Result.andThen,hm',he']
theorem leadsX_invoke {P:Program} {ct:List (Con P)} {o:Oper} {s:St} {x:Operand} {args:Array Operand} {ts:Array TypeId} {name:String} {t:TypeId} {l:List SV} {f:FuncId} (ho:o.op=.call { callee:=.invoke x name,args:=args,argTypes:=ts}) (hx:s.ev x=.ifc t l) (hf:methOf ct t name=some f) :
   LeadsX P o s (callVC ct s f (.agg l::args.toList.map s.ev)):=by
 intro K hv c E a w h next Q hnext;have h1:=h.ev x;rw[hx] at h1;obtain⟨vs,h2,h3⟩:=h1;have hargs:RelVs (Reg c E s w) E w (.agg l::args.toList.map s.ev) (.agg vs.toArray::args.toList.map a.eval):=⟨_,_,rfl,⟨vs,rfl,h3⟩,evs_rel h _⟩;obtain⟨he,hcall⟩:=callVC_ok h hargs hv;have hrun:=run_invoke (w:=w) ho h2 (methOf_ok hf) he;unfold Oper.wp;rw[hrun,Oper.upon_enter];refine hcall.mono ?_;rintro e w' ⟨v,rfl,x,s',E',js,h1,h2,h3,h4,h5⟩;exact hnext x s' E' v w' js h5 h1 h2 h3 h4 (fun hq=>by rw[ho] at hq;cases hq)
section
def liveRow (s:St) (j:Nat):Option Row:=match s.rw[j]? with
 | some r=>if r.st=0 then (bif r.e.isMp then none else some r) else none
 | none=>none
theorem liveRow_all {s:St} {j:Nat} {r:Row} (h:liveRow s j=some r):s.rw[j]?=some r/\r.st=0/\r.e.isMp=false:=by
 unfold liveRow at h;split at h
 · rename_i r' hr;split at h
   · rename_i hst;cases hmp:r'.e.isMp with
     | true=>rw[hmp] at h;cases h
     | false=>
       rw[hmp] at h;simp at h;subst h;exact⟨hr,hst,hmp⟩
   · cases h
 · cases h
theorem liveRow_eq {s:St} {j:Nat} {r:Row} (h:liveRow s j=some r):s.rw[j]?=some r/\r.st=0:=⟨(liveRow_all h).1,(liveRow_all h).2.1⟩
theorem liveRow_mp {s:St} {j:Nat} {r:Row} (h:liveRow s j=some r):r.e.isMp=false:=(liveRow_all h).2.2
mutual
def absO (s:St):OT->List SV->Option (Dat×List Nat×List SV)
 | .im t,l=>match unflat t l with
   | some (d,r)=>some (d,[],r)
   | none=>none
 | .sl tid e,l=>match l with
   | .own j::r=>match liveRow s j with
     | some q=>bif Nat.beq q.tid tid&&otEq q.e e then some (.node q.ds,[j],r) else none
     | none=>none
   | .nil::r=>some (.node [],[],r)
   | _=>none
 | .st fs,l=>match absOs s fs l with
   | some (ds,ks,r)=>some (.node ds,ks,r)
   | none=>none
 | .ho tid e,l=>match l with
   | .own j::r=>match liveRow s j with
     | some q=>bif Nat.beq q.tid tid&&otEq q.e e then some (.node q.ds,[j],r) else none
     | none=>none
   | .nil::r=>some (.node [],[],r)
   | _=>none
 | .mp _ _,_=>none
def absOs (s:St):List OT->List SV->Option (List Dat×List Nat×List SV)
 | [],l=>some ([],[],l)
 | f::fs,l=>match absO s f l with
   | some (d,ks,r)=>match absOs s fs r with
     | some (ds,ks',r')=>some (d::ds,ks++ks',r')
     | none=>none
   | none=>none
end
def absN (s:St) (e:OT):Nat->List SV->Option (List Dat×List Nat)
 | 0,[]=>some ([],[])
 | 0,_::_=>none
 | n+1,l=>match absO s e l with
   | some (d,ks,r)=>match absN s e n r with
     | some (ds,ks')=>some (d::ds,ks++ks')
     | none=>none
   | none=>none
def fpsOf (E:Env):List Nat->List Nat
 | []=>[]
 | j::l=>E.fp.getD j []++fpsOf E l
theorem fpsOf_append (E:Env):∀l m:List Nat,fpsOf E (l++m)=fpsOf E l++fpsOf E m
 | [],_=>rfl
 | j::l,m=>by rw[List.cons_append,fpsOf,fpsOf,fpsOf_append E l m,List.append_assoc]
def Lives (s:St) (ks:List Nat):Prop:=∀j∈ks,∃r,s.rw[j]?=some r/\r.st=0
theorem own_sl_at {S:Nat->Prop} {w:World} {tid:TypeId} {e:OT} {X:Path->Value} {b b':Nat} {cs:List Value} {d:Dat} {F:List Nat} (h:Own S w (.sl tid e) (fun _=>X) b cs d F):Own S w (.sl tid e) (fun _=>X) b' cs d F:=h
theorem own_nil {S:Nat->Prop} {w:World} (tid:TypeId) (e:OT) (b:Nat):Own S w (.sl tid e) (fun _ _=>.slice none 0 0) b [.slice none 0 0] (.node []) []:=
 ⟨[],[],[],rfl,rfl,⟨by simp,.inl ⟨rfl,rfl⟩⟩,by simp,⟨rfl,rfl⟩,rfl⟩
section
variable {c:Ctx} {E:Env} {s:St} {a:Act} {w:World}
theorem Inv.live_own (h:Inv c E s a w) {j:Nat} {r:Row} {v:Value} (hr:s.rw[j]?=some r) (hst:r.st=0) (hv:E.rw[j]?=some v):E.fp[j]?=some (E.fp.getD j [])/\Own (Reg c E s w) w (headT r.tid r.e) (fun _=>E.nh j) 0 [v] (.node r.ds) (E.fp.getD j []):=by
 obtain⟨_,h1,_⟩:=h.rw j r v hr hv;obtain⟨F,hF,h2⟩:=h1 hst
 have:E.fp.getD j []=F:=by rw[List.getD_eq_getElem?_getD,hF];rfl
 rw[this];exact⟨hF,h2⟩
mutual
theorem absO_ok (h:Inv c E s a w):∀{e:OT} {l r:List SV} {d:Dat} {ks:List Nat} {cs:List Value} (b:Nat),absO s e l=some (d,ks,r)->RelVs (Reg c E s w) E w l cs->
   Lives s ks/\∃c1 c2 H,cs=c1++c2/\RelVs (Reg c E s w) E w r c2/\Own (Reg c E s w) w e H b c1 d (fpsOf E ks)
 | .im t,l,r,d,ks,cs,b,hq,hr=>by
   unfold absO at hq;split at hq
   · rename_i d' r' h1;simp only[Option.some.injEq,Prod.mk.injEq] at hq;obtain⟨rfl,rfl,rfl⟩:=hq;obtain⟨c1,c2,h2,h3,h4⟩:=unflat_rep h1 hr;exact⟨(fun j hj=>by cases hj),c1,c2,fun _ _=>undef,h2,h4,h3,rfl⟩
   · cases hq
 | .sl tid e,l,r,d,ks,cs,b,hq,hr=>by
   unfold absO at hq;split at hq
   · rename_i j r';split at hq
     · rename_i q hq';cases hb:Nat.beq q.tid tid&&otEq q.e e with
       | false=>rw[hb] at hq;cases hq
       | true=>
         rw[hb] at hq;simp only[Bool.and_eq_true] at hb;simp only[cond_true,Option.some.injEq,Prod.mk.injEq] at hq;obtain⟨rfl,rfl,rfl⟩:=hq;obtain⟨v,vs,rfl,h1,h2⟩:=hr;obtain⟨h3,h4⟩:=liveRow_eq hq';obtain⟨_,h5⟩:=h.live_own h3 h4 h1.1;rw[headT_sl (liveRow_mp hq')] at h5;rw[Nat.eq_of_beq_eq_true hb.1,otEq_eq hb.2] at h5;refine⟨(fun k hk=>by rw[List.mem_singleton.1 hk];exact⟨q,h3,h4⟩),[v],vs,fun _=>E.nh j,rfl,h2,?_⟩;rw[fpsOf,fpsOf,List.append_nil];exact own_sl_at h5
     · cases hq
   · rename_i r';simp only[Option.some.injEq,Prod.mk.injEq] at hq;obtain⟨rfl,rfl,rfl⟩:=hq;obtain⟨v,vs,rfl,h1,h2⟩:=hr;have h1:v=.slice none 0 0:=h1;subst h1;exact⟨(fun k hk=>by cases hk),_,vs,fun _ _=>.slice none 0 0,rfl,h2,own_nil tid e b⟩
   · cases hq
 | .st fs,l,r,d,ks,cs,b,hq,hr=>by
   unfold absO at hq;split at hq
   · rename_i ds ks' r' h1;simp only[Option.some.injEq,Prod.mk.injEq] at hq;obtain⟨rfl,rfl,rfl⟩:=hq;obtain⟨h2,c1,c2,H,h3,h4,h5⟩:=absOs_ok h b h1 hr;exact⟨h2,c1,c2,H,h3,h4,ds,rfl,h5⟩
   · cases hq
 | .ho tid e,l,r,d,ks,cs,b,hq,hr=>by
   unfold absO at hq;split at hq
   · rename_i j r';split at hq
     · rename_i q hq';cases hb:Nat.beq q.tid tid&&otEq q.e e with
       | false=>rw[hb] at hq;cases hq
       | true=>
         rw[hb] at hq;simp only[Bool.and_eq_true] at hb;simp only[cond_true,Option.some.injEq,Prod.mk.injEq] at hq;obtain⟨rfl,rfl,rfl⟩:=hq;obtain⟨v,vs,rfl,h1,h2⟩:=hr;obtain⟨h3,h4⟩:=liveRow_eq hq';obtain⟨_,h5⟩:=h.live_own h3 h4 h1.1;rw[headT_sl (liveRow_mp hq')] at h5;rw[Nat.eq_of_beq_eq_true hb.1,otEq_eq hb.2] at h5;refine⟨(fun k hk=>by rw[List.mem_singleton.1 hk];exact⟨q,h3,h4⟩),[v],vs,fun _=>E.nh j,rfl,h2,?_⟩;rw[fpsOf,fpsOf,List.append_nil];exact own_ho (own_sl_at h5) true
     · cases hq
   · rename_i r';simp only[Option.some.injEq,Prod.mk.injEq] at hq;obtain⟨rfl,rfl,rfl⟩:=hq;obtain⟨v,vs,rfl,h1,h2⟩:=hr;have h1:v=.slice none 0 0:=h1;subst h1;exact⟨(fun k hk=>by cases hk),_,vs,fun _ _=>.slice none 0 0,rfl,h2,own_ho (own_nil tid e b) true⟩
   · cases hq
 | .mp _ _,l,r,d,ks,cs,b,hq,hr=>by simp [absO] at hq
theorem absOs_ok (h:Inv c E s a w):∀{fs:List OT} {l r:List SV} {ds:List Dat} {ks:List Nat} {cs:List Value} (b:Nat),absOs s fs l=some (ds,ks,r)->RelVs (Reg c E s w) E w l cs->
   Lives s ks/\∃c1 c2 H,cs=c1++c2/\RelVs (Reg c E s w) E w r c2/\Owns (Reg c E s w) w fs H b c1 ds (fpsOf E ks)
 | [],l,r,ds,ks,cs,b,hq,hr=>by
   simp [absOs] at hq;obtain⟨rfl,rfl,rfl⟩:=hq;exact⟨(fun j hj=>by cases hj),[],cs,fun _ _=>undef,rfl,hr,rfl,rfl,rfl⟩
 | f::fs,l,r,ds,ks,cs,b,hq,hr=>by
   unfold absOs at hq;split at hq
   · rename_i d ks1 r1 h1;split at hq
     · rename_i ds2 ks2 r2 h2;simp only[Option.some.injEq,Prod.mk.injEq] at hq;obtain⟨rfl,rfl,rfl⟩:=hq;obtain⟨h3,c1,c2,H1,rfl,h4,h5⟩:=absO_ok h b h1 hr;obtain⟨h6,c3,c4,H2,rfl,h7,h8⟩:=absOs_ok h (b+f.size) h2 h4;refine⟨fun j hj=>(List.mem_append.1 hj).elim (h3 j) (h6 j),c1++c3,c4,fun o ρ=>if o<b+f.size then H1 o ρ else H2 o ρ,(List.append_assoc ..).symm,h7,c1,c3,d,ds2,_,_,rfl,rfl,fpsOf_append E ks1 ks2,?_,?_⟩
       · exact h5.mono (fun _ _=>rfl) (fun _ h=>h) (fun k ρ _ hk=>if_pos hk) (fun _ _=>rfl)
       · exact h8.mono (fun _ _=>rfl) (fun _ h=>h) (fun k ρ hk _=>if_neg (by omega)) (fun _ _=>rfl)
     · cases hq
   · cases hq
end
theorem absN_ok (h:Inv c E s a w) {e:OT}:∀{n i:Nat} {l:List SV} {ds:List Dat} {ks:List Nat} {cs:List Value},absN s e n l=some (ds,ks)->RelVs (Reg c E s w) E w l cs->
   Lives s ks/\ds.length=n/\∃Hs:Nat->Hd,Elems (fun k=>Own (Reg c E s w) w e (Hs k) 0) i cs ds (fpsOf E ks)
 | 0,i,[],ds,ks,cs,hq,hr=>by
   simp [absN] at hq;obtain⟨rfl,rfl⟩:=hq;exact⟨(fun j hj=>by cases hj),rfl,fun _ _ _=>undef,hr,rfl⟩
 | 0,i,_::_,ds,ks,cs,hq,hr=>by simp [absN] at hq
 | n+1,i,l,ds,ks,cs,hq,hr=>by
   unfold absN at hq;split at hq
   · rename_i d ks1 r h1;split at hq
     · rename_i ds2 ks2 h2;simp only[Option.some.injEq,Prod.mk.injEq] at hq;obtain⟨rfl,rfl⟩:=hq;obtain⟨h3,c1,c2,H,rfl,h4,h5⟩:=absO_ok h 0 h1 hr;obtain⟨h6,h7,Hs,h8⟩:=absN_ok (i:=i+1) h h2 h4;refine⟨fun j hj=>(List.mem_append.1 hj).elim (h3 j) (h6 j),by simp [h7],fun k=>if k=i then H else Hs k,c1,c2,_,_,rfl,fpsOf_append E ks1 ks2,?_,?_⟩
       · simp only[if_true];exact h5
       · refine h8.imp (fun k x d G hk _ _ hq=>?_);simp only[if_neg (show ¬k=i from by omega)];exact hq
     · cases hq
   · cases hq
theorem fpsOf_mem (h:Inv c E s a w):∀{ks:List Nat} {b:Nat},Lives s ks->b∈fpsOf E ks->∃j k r,j∈ks/\s.rw[j]?=some r/\own E s (.r j k)=some b
 | [],b,_,hb=>by cases hb
 | j::ks,b,hl,hb=>by
   rcases List.mem_append.1 hb with hb | hb
   · obtain⟨r,hr,hst⟩:=hl j (List.mem_cons_self ..);obtain⟨v,hv⟩:=h.row_val hr;obtain⟨hF,_⟩:=h.live_own hr hst hv;obtain⟨k,ho⟩:=own_fp hr hst hF hb;exact⟨j,k,r,List.mem_cons_self ..,hr,ho⟩
   · obtain⟨j',k,r,h1,h2⟩:=fpsOf_mem h (fun i hi=>hl i (List.mem_cons_of_mem _ hi)) hb;exact⟨j',k,r,List.mem_cons_of_mem _ h1,h2⟩
theorem Inv.fp_nodup (h:Inv c E s a w) {j:Nat} {r:Row} (hr:s.rw[j]?=some r) (hst:r.st=0) {F:List Nat} (hF:E.fp[j]?=some F):F.Nodup:=by
 refine List.pairwise_iff_getElem.2 (fun i k hi hk hik he=>?_);have h1:=own_r hr hst hF (List.getElem?_eq_getElem hi);have h2:=own_r hr hst hF (List.getElem?_eq_getElem hk);rw[<- he] at h2;have e:=h.inj _ _ _ h1 h2;injection e with _ e
 omega
theorem fpsOf_nodup (h:Inv c E s a w):∀{ks:List Nat},Lives s ks->ks.Nodup->(fpsOf E ks).Nodup
 | [],_,_=>List.nodup_nil
 | j::ks,hl,hn=>by
   obtain⟨r,hr,hst⟩:=hl j (List.mem_cons_self ..);obtain⟨v,hv⟩:=h.row_val hr;obtain⟨hF,_⟩:=h.live_own hr hst hv;obtain⟨hn1,hn2⟩:=List.nodup_cons.1 hn;have hl2:Lives s ks:=fun i hi=>hl i (List.mem_cons_of_mem _ hi)
   refine List.nodup_append.2 ⟨h.fp_nodup hr hst hF,fpsOf_nodup h hl2 hn2,fun x hx y hy e=>?_⟩;subst e;obtain⟨k,ho⟩:=own_fp hr hst hF hx;obtain⟨j',k',r',h1,_,h2⟩:=fpsOf_mem h hl2 hy;have e:=h.inj _ _ _ ho h2;injection e with e _
   subst e;exact hn1 h1
end
def anyLtN (s:St):List Nat->Bool
 | []=>false
 | j::l=>(match s.rw[j]? with | some r=>r.lt | none=>false)||anyLtN s l
theorem anyLtN_get {s:St}:∀{l:List Nat},anyLtN s l=false->∀(j:Nat) (r:Row),j∈l->s.rw[j]?=some r->r.lt=false
 | [],_,j,r,hj,_=>by cases hj
 | i::l,h,j,r,hj,hr=>by
   simp only[anyLtN,Bool.or_eq_false_iff] at h;rcases List.mem_cons.1 hj with rfl | hj
   · rw[hr] at h;exact h.1
   · exact anyLtN_get h.2 j r hj hr
def headOf (v:Value) (Hs:Nat->Hd):Path->Value
 | []=>v
 | (i,o)::ρ=>Hs i o ρ
theorem Inv.newRow {c:Ctx} {E:Env} {s:St} {a:Act} {w:World} (h:Inv c E s a w) (t:TypeId) (e:OT) {ds:List Dat} {cs:List Value} {ks:List Nat} {Hs:Nat->Hd} (hmp:e.isMp=false) (hl:Lives s ks) (hn:ks.Nodup) (hm:ds.length<=140737488355328) (hel:Elems (fun k=>Own (Reg c E s w) w e (Hs k) 0) 0 cs ds (fpsOf E ks)) :
   Inv c (E.addR (.slice (some ⟨w.heap.size,0,none⟩) ds.length ds.length) (w.heap.size::fpsOf E ks) (headOf (.slice (some ⟨w.heap.size,0,none⟩) ds.length ds.length) Hs)) {s with rw:=killL ks s.rw 0++[⟨t,e,ds,0,anyLtN s ks⟩]} a (w.alloc (.cells cs.toArray t)):=by
 have hmem:=fun b hb=>fpsOf_mem h (b:=b) hl hb
 have hlen:cs.length=ds.length*e.size:=hel.length (fun i x d F hq=>hq.length);refine h.regrow (w':=w.alloc (.cells cs.toArray t)) rfl rfl rfl (by simp) ks (fun b hb _=>Below.heap_alloc w _ b hb) (fun b hb=>?_) (List.nodup_cons.2 ⟨fun hb=>?_,fpsOf_nodup h hl hn⟩) ?_
 · rcases List.mem_cons.1 hb with rfl | hb
   · exact .inl (Nat.le_refl _)
   · obtain⟨j,k,r,h1,h2,h3⟩:=hmem b hb;exact .inr ⟨j,k,r,hasN_of h1,h3,h2,fun hlt=>anyLtN_get hlt j r h1 h2⟩
 · obtain⟨j,k,r,_,_,h3⟩:=hmem _ hb
   have:=h.own_lt h3
   omega
 · intro hK hS;have hlr:s.rw.length=E.rw.length:=h.nrw.symm;refine⟨.inl ⟨_,_,_,rfl⟩,fun _=>⟨w.heap.size::fpsOf E ks,by simp only[Env.addR];rw[<- h.nfp];simp,?_⟩,fun h=>by cases h⟩;have hnh:(E.addR (.slice (some ⟨w.heap.size,0,none⟩) ds.length ds.length) (w.heap.size::fpsOf E ks) (headOf (.slice (some ⟨w.heap.size,0,none⟩) ds.length ds.length) Hs)).nh s.rw.length=headOf (.slice (some ⟨w.heap.size,0,none⟩) ds.length ds.length) Hs:=by
     simp only[Env.addR,hlr,if_true]
   rw[hnh,headT_sl hmp];refine⟨ds,cs,fpsOf E ks,rfl,rfl,ownsAt_of (base:=0) ⟨hlen,.inr ⟨w.heap.size,ds.length,cs.toArray,rfl,Nat.zero_le _,heap_alloc_new w _,Nat.le_refl _,by simp only[maxLen];show ds.length<=_;omega,by simpa using hlen,by rw[<- hlen];simp⟩⟩,hm,?_,rfl⟩;refine hel.imp (fun i x d G _ _ hG hq=>hq.mono hK hS (fun _ _ _ _=>rfl) (fun b hb=>?_));obtain⟨j,k,r,_,_,h3⟩:=hmem b (hG b hb);exact Below.heap_alloc w _ b (h.own_lt h3)
theorem newRow_goes {c:Ctx} {E:Env} {s:St} {a:Act} {w:World} (h:Inv c E s a w) (t:TypeId) (r:Row) (v:Value) (H:Path->Value) {cs:List Value} {ks:List Nat} (hl:Lives s ks) :
   Goes c E s w (E.addR v (w.heap.size::fpsOf E ks) H) {s with rw:=killL ks s.rw 0++[r]} (w.alloc (.cells cs.toArray t)):=
 regrow_goes h (by simp) ks (fun b hb _=>Below.heap_alloc w _ b hb) r v H (fun b hb=>by
   rcases List.mem_cons.1 hb with rfl | hb
   · exact .inl (Nat.le_refl _)
   · obtain⟨j,k,q,_,_,h3⟩:=fpsOf_mem h hl hb;exact .inr ⟨_,h3⟩)
mutual
def frzO (s:St):OT->List SV->St×List SV×List SV
 | .im t,l=>((freezeL s (l.take t.size)).1,(freezeL s (l.take t.size)).2,l.drop t.size)
 | .sl _ _,l=>(s,l.take 1,l.drop 1)
 | .ho _ _,l=>(s,l.take 1,l.drop 1)
 | .mp _ _,l=>(s,l.take 1,l.drop 1)
 | .st fs,l=>frzOs s fs l
def frzOs (s:St):List OT->List SV->St×List SV×List SV
 | [],l=>(s,[],l)
 | f::fs,l=>((frzOs (frzO s f l).1 fs (frzO s f l).2.2).1,(frzO s f l).2.1++(frzOs (frzO s f l).1 fs (frzO s f l).2.2).2.1,(frzOs (frzO s f l).1 fs (frzO s f l).2.2).2.2)
end
def frzN (s:St) (e:OT):Nat->List SV->St×List SV
 | 0,l=>(s,l)
 | n+1,l=>((frzN (frzO s e l).1 e n (frzO s e l).2.2).1,(frzO s e l).2.1++(frzN (frzO s e l).1 e n (frzO s e l).2.2).2)
section
variable {c:Ctx} {E:Env} {a:Act} {w:World}
def FrzOk (c:Ctx) (E:Env) (a:Act) (w:World) (s s1:St) (m r:List SV) (cs:List Value):Prop:=
 Inv c E s1 a w/\Under c E w s s1/\∃c1 c2,cs=c1++c2/\RelVs (Reg c E s1 w) E w m c1/\RelVs (Reg c E s1 w) E w r c2
theorem rels_split {S:Nat->Prop} {l:List SV} {cs:List Value} (n:Nat) (h:RelVs S E w l cs):cs=cs.take n++cs.drop n/\RelVs S E w (l.take n) (cs.take n)/\RelVs S E w (l.drop n) (cs.drop n):=⟨(List.take_append_drop n cs).symm,h.take n,h.drop n⟩
mutual
theorem frzO_ok:∀{e:OT} {s:St} {l:List SV} {cs:List Value},Inv c E s a w->RelVs (Reg c E s w) E w l cs->FrzOk c E a w s (frzO s e l).1 (frzO s e l).2.1 (frzO s e l).2.2 cs
 | .im t,s,l,cs,h,hr=>by
   obtain⟨h1,h2,h3⟩:=rels_split t.size hr;obtain⟨h4,h5,h6⟩:=freezeL_ok h h2;exact⟨h4,h5,_,_,h1,h6,h5.rels h3⟩
 | .sl _ _,s,l,cs,h,hr=>by
   obtain⟨h1,h2,h3⟩:=rels_split 1 hr;exact⟨h,fun _ hb=>hb,_,_,h1,h2,h3⟩
 | .ho _ _,s,l,cs,h,hr=>by
   obtain⟨h1,h2,h3⟩:=rels_split 1 hr;exact⟨h,fun _ hb=>hb,_,_,h1,h2,h3⟩
 | .mp _ _,s,l,cs,h,hr=>by
   obtain⟨h1,h2,h3⟩:=rels_split 1 hr;exact⟨h,fun _ hb=>hb,_,_,h1,h2,h3⟩
 | .st fs,s,l,cs,h,hr=>frzOs_ok (fs:=fs) h hr
theorem frzOs_ok:∀{fs:List OT} {s:St} {l:List SV} {cs:List Value},Inv c E s a w->RelVs (Reg c E s w) E w l cs->FrzOk c E a w s (frzOs s fs l).1 (frzOs s fs l).2.1 (frzOs s fs l).2.2 cs
 | [],s,l,cs,h,hr=>⟨h,fun _ hb=>hb,[],cs,rfl,rfl,hr⟩
 | f::fs,s,l,cs,h,hr=>by
   obtain⟨h1,h2,c1,c2,rfl,h3,h4⟩:=frzO_ok (e:=f) h hr;obtain⟨h5,h6,c3,c4,rfl,h7,h8⟩:=frzOs_ok (fs:=fs) h1 h4;exact⟨h5,fun b hb=>h6 b (h2 b hb),c1++c3,c4,(List.append_assoc ..).symm,(h6.rels h3).append h7,h8⟩
end
theorem frzN_ok {e:OT}:∀{n:Nat} {s:St} {l:List SV} {cs:List Value},Inv c E s a w->RelVs (Reg c E s w) E w l cs->Inv c E (frzN s e n l).1 a w/\Under c E w s (frzN s e n l).1/\RelVs (Reg c E (frzN s e n l).1 w) E w (frzN s e n l).2 cs
 | 0,s,l,cs,h,hr=>⟨h,fun _ hb=>hb,hr⟩
 | n+1,s,l,cs,h,hr=>by
   obtain⟨h1,h2,c1,c2,rfl,h3,h4⟩:=frzO_ok (e:=e) h hr;obtain⟨h5,h6,h7⟩:=frzN_ok (n:=n) h1 h4;exact⟨h5,fun b hb=>h6 b (h2 b hb),(h6.rels h3).append h7⟩
end
end
section
theorem putAll_get {α:Type}:∀(vs:List α) (o:Nat) (cs:List α) (n:Nat),o+vs.length<=cs.length->(putAll cs o vs)[n]?=if n<o then cs[n]? else if n<o+vs.length then vs[n-o]? else cs[n]?
 | [],o,cs,n,_=>by
   simp only[putAll,List.length_nil,Nat.add_zero];split
   · rfl
   · rfl
 | v::vs,o,cs,n,h=>by
   rw[List.length_cons] at h;rw[putAll,putAll_get vs (o+1) _ n (by simp;omega),List.length_cons,List.getElem?_set];by_cases h1:n<o
   · rw[if_pos (by omega),if_pos h1,if_neg (by omega)]
   · rw[if_neg h1];by_cases h2:n=o
     · subst h2;rw[if_pos (by omega),if_pos rfl,if_pos (by omega),if_pos (by omega),Nat.sub_self];rfl
     · rw[if_neg (by omega)];by_cases h3:n<o+1+vs.length
       · rw[if_pos h3,if_pos (by omega),show n-o=(n-(o+1))+1 from by omega,List.getElem?_cons_succ]
       · rw[if_neg h3,if_neg (by omega),if_neg (by omega)]
theorem putAll_splice {cs vs:List Value} {o:Nat} (h:o+vs.length<=cs.length):putAll cs o vs=splice cs o vs:=by
 apply List.ext_getElem?;intro n;rw[putAll_get vs o cs n h,splice_get h]
section
variable {c:Ctx} {E:Env} {s:St} {a:Act} {w w':World}
theorem Inv.row_block (h:Inv c E s a w) {j:Nat} {r:Row} (hr:s.rw[j]?=some r) (hst:r.st=0) {F:List Nat} (hF:E.fp[j]?=some F) {bl:Nat} (hb:bl∈F) {i:Nat} {q:Row} (hq:s.rw[i]?=some q) (hqs:q.st=0) (hij:i≠j) {G:List Nat} (hG:E.fp[i]?=some G):bl∉G:=by
 intro hm;obtain⟨k,ho⟩:=own_fp hr hst hF hb;obtain⟨k',ho'⟩:=own_fp hq hqs hG hm;have e:=h.inj _ _ bl ho ho';injection e with e _
 exact hij e.symm
theorem Inv.leafRow (h:Inv c E s a w) {j bl:Nat} {r:Row} {ds:List Dat} (hr:s.rw[j]?=some r) (hst:r.st=0) (hb:∃F,E.fp[j]?=some F/\bl∈F) (hos:w'.os=w.os) (htape:w'.tape=w.tape) (hout:w'.output=w.output) (hsz:w'.heap.size=w.heap.size) (hk:∀b,b≠bl->w'.heap[b]?=w.heap[b]?)
   (hnew:Keeps (Reg c E s w) w w'->∀v,E.rw[j]?=some v->∀F,E.fp[j]?=some F->Own (Reg c E s w) w' (headT r.tid r.e) (fun _=>E.nh j) 0 [v] (.node ds) F):Inv c E (s.setRow j {r with ds:=ds}) a w':=by
 obtain⟨F,hF,hbl⟩:=hb;obtain⟨k0,ho0⟩:=own_fp hr hst hF hbl;have hown:∀x b,own E (s.setRow j {r with ds:=ds}) x=some b->own E s x=some b:=by
   intro x b hx;cases x with
   | b i=>exact hx
   | r i k=>
     obtain⟨q,G,hq,hqs,hG,hbk⟩:=own_of hx;rcases row_setRow hq with ⟨rfl,rfl⟩ | ⟨_,hq⟩
     · exact own_r hr hst hG hbk
     · exact own_r hq hqs hG hbk
 refine h.move hos htape hout (by rw[hsz];exact Nat.le_refl _) (fun x b hx=>.inl ⟨x,hown x b hx⟩) (fun b _ hno=>hk b (fun e=>hno (.r j k0) (by rw[e];exact ho0))) E.le_refl rfl h.nbx (by simp [St.setRow,h.nrw]) (by simp [St.setRow,h.nfp]) ?_ ?_ (fun x y b hx hy=>h.inj x y b (hown x b hx) (hown y b hy)) ?_
 · intro hK hS i p b hp hb;refine (h.bx i p b hp hb).mono hK hS E.le_refl (hk b (fun e=>?_))
   have:own E s (.b i)=some b:=hb
   have e:=h.inj _ _ b this (by rw[e];exact ho0);cases e
 · intro hK hS i q v hq hv;rcases row_setRow hq with ⟨rfl,rfl⟩ | ⟨hij,hq⟩
   · exact⟨(h.rw i r v hr hv).1,fun _=>⟨F,hF,(hnew hK v hv F hF).mono (fun _ _=>rfl) hS (fun _ _ _ _=>rfl) (fun _ _=>rfl)⟩,fun e=>by
       rw[show ({r with ds:=ds}:Row).st=r.st from rfl,hst] at e;cases e⟩
   · refine h.row_keep hq hv hK hS E.le_refl (fun hqs k b hbk=>hk b (fun e=>?_));have e:=h.inj _ _ b hbk (by rw[e];exact ho0);injection e with e _
     exact hij e
 · intro i k b q hq hlt hb;have ho:=hown _ b hb;rcases row_setRow hq with ⟨rfl,rfl⟩ | ⟨_,hq⟩
   · exact h.fresh i k b r hr hlt ho
   · exact h.fresh i k b q hq hlt ho
def Env.chg (E:Env) (j:Nat) (F:List Nat) (H:Path->Value):Env:={E with fp:=E.fp.set j F,nh:=fun i=>if i=j then H else E.nh i}
def chgSt (s:St) (j:Nat) (ks:List Nat) (r:Row):St:={ fr:=pruneVs [j] s.fr,bx:=s.bx.map (fun p=>(p.1,pruneVs [j] p.2)),rw:=(killL ks s.rw 0).set j r}
theorem led_chg (E:Env) (j:Nat) (F:List Nat) (H:Path->Value) (hH:H []=E.nh j []):E.led (E.chg j F H) [j]:=by
 refine⟨fun _ _ h=>h,fun _ _ h=>h,fun i _ ρ hρ=>?_,rfl,rfl⟩;simp only[Env.chg];split
 · rename_i e;subst e;rcases hρ with hρ | rfl
   · simp [hasN] at hρ
   · exact hH
 · rfl
theorem Inv.chgRow (h:Inv c E s a w) {j bl:Nat} {ks:List Nat} {r r':Row} {F':List Nat} {H':Path->Value} (hr:s.rw[j]?=some r) (hst:r.st=0) (hst':r'.st=0) (hj:j∉ks) (hl:Lives s ks) (hb:∃F,E.fp[j]?=some F/\bl∈F) (hos:w'.os=w.os) (htape:w'.tape=w.tape) (hout:w'.output=w.output) (hsz:w'.heap.size=w.heap.size) (hk:∀b,b≠bl->w'.heap[b]?=w.heap[b]?)
   (hH:H' []=E.nh j []) (hF:∀b∈F',(∃k,own E s (.r j k)=some b)\/b∈fpsOf E ks) (hnd:F'.Nodup) (hlt:r'.lt=false->r.lt=false/\anyLtN s ks=false) (hone:onesB (chgSt s j ks r').bx=true)
   (hnew:Keeps (Reg c E s w) w w'->∀v,E.rw[j]?=some v->Own (Reg c E s w) w' (headT r'.tid r'.e) (fun _=>H') 0 [v] (.node r'.ds) F'):Inv c (E.chg j F' H') (chgSt s j ks r') a w':=by
 obtain⟨F,hF0,hbl⟩:=hb;obtain⟨k0,ho0⟩:=own_fp hr hst hF0 hbl;have hled:=led_chg E j F' H' hH;have hjl:j<s.rw.length:=(List.getElem?_eq_some_iff.1 hr).1;have hjf:j<E.fp.length:=(List.getElem?_eq_some_iff.1 hF0).1;have hrow:∀i q,(chgSt s j ks r').rw[i]?=some q->(i=j/\q=r')\/(i≠j/\∃q0,s.rw[i]?=some q0/\q=bif hasN ks i then {q0 with st:=2} else q0):=by
   intro i q hq;simp only[chgSt,List.getElem?_set,killL_length,killL_get,Nat.zero_add] at hq;split at hq
   · rename_i e;subst e;simp [hjl] at hq;exact .inl ⟨rfl,hq.symm⟩
   · rename_i e;obtain⟨q0,h1,h2⟩:=Option.map_eq_some_iff.1 hq;exact .inr ⟨fun e'=>e e'.symm,q0,h1,h2.symm⟩
 have hfp:∀i,(E.chg j F' H').fp[i]?=if i=j then some F' else E.fp[i]?:=by
   intro i;simp only[Env.chg,List.getElem?_set,hjf,if_true];by_cases e:i=j
   · rw[if_pos e.symm,if_pos e]
   · rw[if_neg (fun e'=>e e'.symm),if_neg e]
 have hown:∀x b,own (E.chg j F' H') (chgSt s j ks r') x=some b->(own E s x=some b/\∀i k,x=.r i k->i≠j/\hasN ks i=false)\/∃k,x=.r j k/\F'[k]?=some b:=by
   intro x b hx;cases x with
   | b i=>exact .inl ⟨hx,fun _ _ e=>by cases e⟩
   | r i k=>
     obtain⟨q,G,hq,hqs,hG,hbk⟩:=own_of hx;rw[hfp] at hG;rcases hrow i q hq with ⟨rfl,rfl⟩ | ⟨hij,q0,hq0,rfl⟩
     · rw[if_pos rfl] at hG;simp at hG;subst hG;exact .inr ⟨k,rfl,hbk⟩
     · rw[if_neg hij] at hG;cases hkk:hasN ks i with
       | true=>rw[hkk] at hqs;cases hqs
       | false=>
         rw[hkk] at hqs;exact .inl ⟨own_r hq0 hqs hG hbk,fun i' k' e=>by injection e with e _;rw[<- e];exact⟨hij,hkk⟩⟩
 have hold:∀b∈F',∃y q,own E s y=some b/\(∃i k,y=.r i k/\s.rw[i]?=some q/\(i=j\/hasN ks i=true)):=by
   intro b hb;rcases hF b hb with ⟨k,hk⟩ | hb
   · exact⟨_,r,hk,_,_,rfl,hr,.inl rfl⟩
   · obtain⟨i,k,q,h1,h2,h3⟩:=fpsOf_mem h hl hb;exact⟨_,q,h3,_,_,rfl,h2,.inr (hasN_of h1)⟩
 refine h.move' hos htape hout (by rw[hsz];exact Nat.le_refl _) (fun x b hx=>?_) (fun b _ hno=>hk b (fun e=>hno (.r j k0) (by rw[e];exact ho0))) hled.bx hled.rw rfl rfl (fun hK hS=>pruneVs_rel hled hK hS h.fr) (by simp [Env.chg,chgSt,h.nbx]) (by simp [Env.chg,chgSt,killL_length,h.nrw]) (by simp [Env.chg,chgSt,killL_length,h.nfp]) ?_ ?_ ?_ ?_
 · rcases hown x b hx with ⟨h1,_⟩ | ⟨k,_,h1⟩
   · exact .inl ⟨x,h1⟩
   · obtain⟨y,_,h2,_⟩:=hold b (List.mem_of_getElem? h1);exact .inl ⟨y,h2⟩
 · intro hK hS i p b hp hb;have hone':=onesB_get hone i p hp;simp only[chgSt,List.getElem?_map] at hp;obtain⟨p0,hp0,rfl⟩:=Option.map_eq_some_iff.1 hp;obtain⟨cs,h1,h2,_⟩:=h.bx i p0 b hp0 hb;refine⟨cs,?_,pruneVs_rel hled hK hS h2,hone'⟩;rw[hk b (fun e=>?_)]
   · exact h1
   · have ho:own E s (.b i)=some b:=hb;have e:=h.inj _ _ b ho (by rw[e];exact ho0);cases e
 · intro hK hS i q v hq hv;have hv:E.rw[i]?=some v:=hv;rcases hrow i q hq with ⟨rfl,rfl⟩ | ⟨hij,q0,hq0,rfl⟩
   · refine⟨(h.rw i r v hr hv).1,fun _=>⟨F',by rw[hfp,if_pos rfl],?_⟩,fun e=>by rw[hst'] at e;cases e⟩
     have:(fun (_:Nat)=>(E.chg i F' H').nh i)=fun _=>H':=by
       funext _;simp only[Env.chg,if_true]
     rw[this];exact (hnew hK v hv).mono (fun _ _=>rfl) hS (fun _ _ _ _=>rfl) (fun _ _=>rfl)
   · obtain⟨k1,k2,k3⟩:=h.rw i q0 v hq0 hv;cases hkk:hasN ks i with
     | true=>exact⟨k1,(fun e=>by cases e),(fun e=>by cases e)⟩
     | false=>
       refine⟨k1,fun hqs=>?_,fun hqs=>(k3 hqs).mono hK hS⟩;obtain⟨G,hG,h1⟩:=k2 hqs;refine⟨G,by rw[hfp,if_neg hij];exact hG,h1.mono hK hS (fun _ ρ _ _=>by simp only[Env.chg,if_neg hij]) (fun b hb=>hk b (fun e=>?_))⟩;exact h.row_block hr hst hF0 hbl hq0 hqs hij hG (by rw[<- e];exact hb)
 · intro x y b hx hy;rcases hown x b hx with ⟨h1,h1'⟩ | ⟨k1,h1,h2⟩<;>rcases hown y b hy with ⟨h3,h3'⟩ | ⟨k2,h3,h4⟩
   · exact h.inj x y b h1 h3
   · exfalso;obtain⟨z,q,h5,i,k,h6,_,h7⟩:=hold b (List.mem_of_getElem? h4);have e:=h.inj _ _ b h1 h5
     have:=h1' i k (by rw[e,h6])
     rcases h7 with h7 | h7
     · exact this.1 h7
     · rw[this.2] at h7;cases h7
   · exfalso;obtain⟨z,q,h5,i,k,h6,_,h7⟩:=hold b (List.mem_of_getElem? h2);have e:=h.inj _ _ b h3 h5
     have:=h3' i k (by rw[e,h6])
     rcases h7 with h7 | h7
     · exact this.1 h7
     · rw[this.2] at h7;cases h7
   · rw[h1,h3];have e1:=List.getElem?_eq_some_iff.1 h2;have e2:=List.getElem?_eq_some_iff.1 h4
     have:k1=k2:=(List.getElem_inj hnd).1 (e1.2.trans e2.2.symm)
     rw[this]
 · intro i k b q hq hl' hb;rcases hown _ b hb with ⟨h1,h1'⟩ | ⟨k1,h1,h2⟩
   · obtain⟨hij,hkk⟩:=h1' i k rfl;rcases hrow i q hq with ⟨e,_⟩ | ⟨_,q0,hq0,rfl⟩
     · exact absurd e hij
     · rw[hkk] at hl';exact h.fresh i k b q0 hq0 hl' h1
   · injection h1 with h1 _
     subst h1;rcases hrow i q hq with ⟨_,rfl⟩ | ⟨hij,_⟩
     · obtain⟨hl1,hl2⟩:=hlt hl';rcases hF b (List.mem_of_getElem? h2) with ⟨k',hk'⟩ | hb'
       · exact h.fresh i k' b r hr hl1 hk'
       · obtain⟨i',k',q',h5,h6,h7⟩:=fpsOf_mem h hl hb';exact h.fresh i' k' b q' h6 (anyLtN_get hl2 i' q' h5 h6) h7
     · exact absurd rfl hij
theorem leafRow_goes {j bl:Nat} {r:Row} (ds:List Dat) (hr:s.rw[j]?=some r) (hst:r.st=0) (hb:∃F,E.fp[j]?=some F/\bl∈F) (hsz:w'.heap.size=w.heap.size) (hk:∀b,b≠bl->w'.heap[b]?=w.heap[b]?):Goes c E s w E (s.setRow j {r with ds:=ds}) w':=by
 obtain⟨F,hF,hbl⟩:=hb;obtain⟨k0,ho0⟩:=own_fp hr hst hF hbl;refine goes_of (by rw[hsz];exact Nat.le_refl _) (fun x b hx=>.inl ⟨x,?_⟩) (fun b _ hno=>hk b (fun e=>hno (.r j k0) (by rw[e];exact ho0)));cases x with
 | b i=>exact hx
 | r i k=>
   obtain⟨q,G,hq,hqs,hG,hbk⟩:=own_of hx;rcases row_setRow hq with ⟨rfl,rfl⟩ | ⟨_,hq⟩
   · exact own_r hr hst hG hbk
   · exact own_r hq hqs hG hbk
theorem chgRow_goes (h:Inv c E s a w) {j bl:Nat} {ks:List Nat} {r:Row} (r':Row) {F':List Nat} (H':Path->Value) (hr:s.rw[j]?=some r) (hst:r.st=0) (hl:Lives s ks) (hb:∃F,E.fp[j]?=some F/\bl∈F) (hsz:w'.heap.size=w.heap.size) (hk:∀b,b≠bl->w'.heap[b]?=w.heap[b]?)
   (hF:∀b∈F',(∃k,own E s (.r j k)=some b)\/b∈fpsOf E ks):Goes c E s w (E.chg j F' H') (chgSt s j ks r') w':=by
 obtain⟨F,hF0,hbl⟩:=hb;obtain⟨k0,ho0⟩:=own_fp hr hst hF0 hbl;refine goes_of (by rw[hsz];exact Nat.le_refl _) (fun x b hx=>.inl ?_) (fun b _ hno=>hk b (fun e=>hno (.r j k0) (by rw[e];exact ho0)));have hjl:j<s.rw.length:=(List.getElem?_eq_some_iff.1 hr).1;have hjf:j<E.fp.length:=(List.getElem?_eq_some_iff.1 hF0).1;have key:own E s x=some b\/b∈F':=by
   cases x with
   | b i=>exact .inl hx
   | r i k=>
     obtain⟨q,G,hq,hqs,hG,hbk⟩:=own_of hx;simp only[Env.chg,List.getElem?_set,hjf,if_true] at hG;by_cases e:j=i
     · rw[if_pos e] at hG;simp at hG;subst hG;exact .inr (List.mem_of_getElem? hbk)
     · rw[if_neg e] at hG;simp only[chgSt,List.getElem?_set,if_neg e] at hq;exact .inl (own_kill (kill:=ks) (own_r (s:={s with rw:=killL ks s.rw 0}) hq hqs hG hbk)).1
 rcases key with h1 | h1
 · exact⟨x,h1⟩
 · rcases hF b h1 with ⟨k,h2⟩ | h2
   · exact⟨_,h2⟩
   · obtain⟨i,k,q,_,_,h3⟩:=fpsOf_mem h hl h2;exact⟨_,h3⟩
theorem Env.le.led {E E':Env} (h:E.le E'):E.led E' []:=⟨h.bx,h.rw,fun j hj ρ _=>by rw[h.nh j hj],h.bo,h.w0⟩
theorem nodup_swap {A X Y B:List Nat} (h:(A++(X++B)).Nodup) (hY:Y.Nodup) (hd:∀y∈Y,y∉A/\y∉B):(A++(Y++B)).Nodup:=by
 obtain⟨h1,h2,h3⟩:=List.nodup_append.1 h;obtain⟨_,h5,_⟩:=List.nodup_append.1 h2;refine List.nodup_append.2 ⟨h1,List.nodup_append.2 ⟨hY,h5,fun x hx y hy e=>(hd x hx).2 (e▸hy)⟩,fun x hx y hy e=>?_⟩;subst e;rcases List.mem_append.1 hy with hy | hy
 · exact (hd x hy).1 hx
 · exact h3 x hx x (List.mem_append_right _ hy) rfl
def isIm:OT->Bool
 | .im _=>true
 | _=>false
def headPut (old:Path->Value) (π:Path) (i off n:Nat) (H:Hd) (ρ:Path):Value:=
 if ρ.take π.length=π then (match ρ.drop π.length with
   | (i',o)::σ=>if i'=i/\off<=o/\o<off+n then H o σ else old ρ
   | []=>old ρ) else old ρ
theorem headPut_in (old:Path->Value) (π:Path) (i off n:Nat) (H:Hd) {o:Nat} (σ:Path) (h1:off<=o) (h2:o<off+n):headPut old π i off n H (π++(i,o)::σ)=H o σ:=by
 simp only[headPut,List.take_left,List.drop_left,if_true,h1,h2,and_self]
theorem headPut_at (old:Path->Value) (π:Path) (i off n:Nat) (H:Hd):headPut old π i off n H π=old π:=by
 have:π.drop π.length=[]:=List.drop_length
 simp only[headPut,List.take_length,if_true,this]
theorem headPut_else (old:Path->Value) (π:Path) (i off n:Nat) (H:Hd) {i' o:Nat} (σ:Path) (h:i'≠i\/o<off\/off+n<=o):headPut old π i off n H (π++(i',o)::σ)=old (π++(i',o)::σ):=by
 simp only[headPut,List.take_left,List.drop_left,if_true];rw[if_neg (by omega)]
theorem headPut_out (old:Path->Value) (π:Path) (i off n:Nat) (H:Hd) {ρ:Path} (h:¬∃σ,ρ=π++σ):headPut old π i off n H ρ=old ρ:=by
 unfold headPut;rw[if_neg];intro e
 have:=List.take_append_drop π.length ρ
 rw[e] at this;exact h ⟨_,this.symm⟩
theorem headPut_nil (old:Path->Value) (π:Path) (i off n:Nat) (H:Hd):headPut old π i off n H []=old []:=by
 cases π with
 | nil=>exact headPut_at old [] i off n H
 | cons p π=>exact headPut_out old _ i off n H (by rintro⟨σ,h⟩;cases h)
def rowPut (s:St) (j:Nat) (π:Path) (i sz off n:Nat) (m:List SV):Option (List Prop×St):=
 match liveRow s j with
 | some r=>match typeP r.tid r.e π with
   | some (_,e)=>bif Nat.beq e.size sz then (match locO e off n with
     | some (e',_,st)=>(match absO s e' m with
       | some (d,ks,[])=>bif isIm e'||(!hasN ks j&&nodupN ks&&onesB (chgSt s j ks {r with ds:=setP r.e r.ds π ((getP r.e r.ds π).set i (st ((getP r.e r.ds π).getD i default) d)),lt:=r.lt||anyLtN s ks}).bx) then
           some ([okQ r.e r.ds π (i<(getP r.e r.ds π).length)],bif isIm e' then s.setRow j {r with ds:=setP r.e r.ds π ((getP r.e r.ds π).set i (st ((getP r.e r.ds π).getD i default) d))}
             else chgSt s j ks {r with ds:=setP r.e r.ds π ((getP r.e r.ds π).set i (st ((getP r.e r.ds π).getD i default) d)),lt:=r.lt||anyLtN s ks})
         else none
       | _=>none)
     | none=>none) else none
   | none=>none
 | none=>none
theorem rowPut_ok (h:Inv c E s a w) {j i sz off n:Nat} {π:Path} {m:List SV} {us:List Value} {ps:List Prop} {s2:St} {v:Value} (hq:rowPut s j π i sz off n m=some (ps,s2)) (hp:∀p∈ps,p) (hm:RelVs (Reg c E s w) E w m us) (hv:RelV (Reg c E s w) E w (.rp j π i sz off) v) :
   ∃b o E2 js,v=.pointer (some ⟨b,o,none⟩)/\us.length=n/\w.there b o us.length/\Inv c E2 s2 a (w.setCells b o us)/\E.led E2 js/\Goes c E s w E2 s2 (w.setCells b o us):=by
 unfold rowPut at hq;split at hq
 · rename_i r hlive;obtain⟨hr,hst⟩:=liveRow_eq hlive;split at hq
   · rename_i tid e ht;cases hsz:Nat.beq e.size sz with
     | false=>rw[hsz] at hq;cases hq
     | true=>
       rw[hsz] at hq;have hsz:=Nat.eq_of_beq_eq_true hsz;subst hsz;simp only[cond_true] at hq;split at hq
       · rename_i e' g st hloc;split at hq
         · rename_i d ks habs;generalize hcc:(isIm e'||(!hasN ks j&&nodupN ks&&onesB (chgSt s j ks {r with ds:=setP r.e r.ds π ((getP r.e r.ds π).set i (st ((getP r.e r.ds π).getD i default) d)),lt:=r.lt||anyLtN s ks}).bx))=cond at hq;cases cond with
           | false=>cases hq
           | true=>
           simp only[cond_true,Option.some.injEq,Prod.mk.injEq] at hq;obtain⟨rfl,rfl⟩:=hq;have hpp:=hp _ (List.mem_singleton.2 rfl);have hks:j∉ks/\ks.Nodup:=by
             cases e' with
             | im t=>
               unfold absO at habs;split at habs
               · simp only[Option.some.injEq,Prod.mk.injEq] at habs;obtain⟨_,rfl,_⟩:=habs;exact⟨by simp,List.nodup_nil⟩
               · cases habs
             | sl t e1=>
               simp only[isIm,Bool.false_or,Bool.and_eq_true,Bool.not_eq_true'] at hcc;exact⟨fun hm=>by rw[hasN_of hm] at hcc;exact absurd hcc.1.1 (by simp),nodupN_ok hcc.1.2⟩
             | st fs=>
               simp only[isIm,Bool.false_or,Bool.and_eq_true,Bool.not_eq_true'] at hcc;exact⟨fun hm=>by rw[hasN_of hm] at hcc;exact absurd hcc.1.1 (by simp),nodupN_ok hcc.1.2⟩
             | ho t e1=>
               simp only[isIm,Bool.false_or,Bool.and_eq_true,Bool.not_eq_true'] at hcc;exact⟨fun hm=>by rw[hasN_of hm] at hcc;exact absurd hcc.1.1 (by simp),nodupN_ok hcc.1.2⟩
             | mp k1 v1=>simp [absO] at habs
           obtain⟨hok,hi⟩:=okQ_eq hpp;obtain⟨⟨bg,oo⟩,nn,cp,hj,hnh,rfl⟩:=hv;obtain⟨F,hF,A,F',B,rfl,hsub,hback⟩:=h.row_split hr hst ht hok;obtain⟨bl,oo',cap,cur,A2,F2,B2,k1,rfl,k3,k4,k5,k6,k7,k8⟩:=hsub.part hi hloc;simp only[List.append_nil] at k1;rw[hnh] at k1;simp only[Value.slice.injEq,Option.some.injEq,Addr.mk.injEq] at k1;obtain⟨⟨k1,k1',_⟩,_⟩:=k1;subst k1;subst k1';obtain⟨hlives,c1,c2,H,rfl,hc2,hown⟩:=absO_ok h off habs hm;have hc2:c2=[]:=hc2;subst hc2;rw[List.append_nil] at *
           have hlen:c1.length=n:=by rw[hown.length,k4]
           obtain⟨s1,s2',s3,s4⟩:=setCells_same bg c1 (oo+(i*e.size+off)) w;have hbl:bg∈A++((bg::(A2++(F2++B2)))++B):=List.mem_append_right _ (by simp);obtain⟨kk,hokk⟩:=own_fp hr hst hF hbl;have hblock:=setCells_block bg c1 (oo+(i*e.size+off)) w cur.toList tid (0,0) (by simpa using k3);have hsplice:putAll cur.toList (oo+(i*e.size+off)) c1=splice cur.toList (oo+(i*e.size+off)) c1:=putAll_splice (by simp;omega);have hKeep:Keeps (Reg c E s w) w (w.setCells bg (oo+(i*e.size+off)) c1):=fun b hb=>setCells_heap bg c1 _ w b (fun e=>hb.2.2 (.r j kk) (by rw[e];exact hokk))
           have hnd:=h.fp_nodup hr hst hF;have hne:∀x,(x∈A\/x∈B)\/(x∈A2\/x∈B2)->x≠bg:=by
             intro x hx e;subst e;obtain⟨_,h2,h3⟩:=List.nodup_append.1 hnd;obtain⟨h4,_,h5⟩:=List.nodup_append.1 h2;obtain⟨h6,_⟩:=List.nodup_cons.1 h4;rcases hx with (hx | hx) | (hx | hx)
             · exact h3 x hx x (by simp) rfl
             · exact h5 x (by simp) x hx rfl
             · exact h6 (List.mem_append_left _ hx)
             · exact h6 (List.mem_append_right _ (List.mem_append_right _ hx))
           have hthere:w.there bg (oo+(i*e.size+off)) c1.length:=by
             intro k hk;constructor
             · simp [World.cell?,k3];omega
             · simp only[World.frozen?,k3,decide_eq_false_iff_not,Bool.and_eq_false_iff]
               right;omega
           refine⟨bg,oo+(i*e.size+off),?_⟩;have hrow:∀H2:Path->Value,H2 π=E.nh j π->(∀ρ,(¬∃σ,ρ=π++σ)->H2 ρ=E.nh j ρ)->(∀i' o σ,(i'≠i\/o<off\/off+n<=o)->H2 (π++(i',o)::σ)=E.nh j (π++(i',o)::σ))->Own (Reg c E s w) w e' (fun o σ=>H2 (π++(i,o)::σ)) off c1 d (fpsOf E ks)->∀u,E.rw[j]?=some u->
               Own (Reg c E s w) (w.setCells bg (oo+(i*e.size+off)) c1) (headT r.tid r.e) (fun _=>H2) 0 [u] (.node (setP r.e r.ds π ((getP r.e r.ds π).set i (st ((getP r.e r.ds π).getD i default) d)))) (A++((bg::(A2++(fpsOf E ks++B2)))++B)):=by
             intro H2 q1 q2 q3 q4 u hu;have hin:=k8 (Reg c E s w) (w.setCells bg (oo+(i*e.size+off)) c1) (fun _ ρ=>H2 (π++ρ)) c1 d (fpsOf E ks) (putAll cur.toList (oo+(i*e.size+off)) c1).toArray hKeep (fun _ h=>h) (fun x hx=>setCells_heap bg c1 _ w x (hne x (.inr hx))) hblock (by simpa using hsplice) (by simp only[List.append_nil];exact q1) (fun j' o' ρ hh=>q3 j' o' ρ hh)
               (q4.mono hKeep (fun _ h=>h) (fun k ρ hk1 hk2=>rfl) (fun b hb=>setCells_heap bg c1 _ w b (fun e=>by
                 obtain⟨j',k',r',q5,q6,q7⟩:=fpsOf_mem h hlives hb;rw[e] at q7;have e2:=h.inj _ _ _ hokk q7;injection e2 with e2 _
                 rw[<- e2] at q5;exact hks.1 q5)))
             refine hback (Reg c E s w) _ H2 _ _ hKeep (fun _ h=>h) (fun x hx=>setCells_heap bg c1 _ w x (hne x (.inl hx))) q1 q2 ?_ u hu;rw[show H2 π=E.nh j π from q1];exact hin
           cases him:isIm e' with
           | true=>
             cases e' with
             | im t=>
               obtain⟨_,hF2⟩:=k7;subst hF2;obtain⟨hown1,hfp0⟩:=hown;rw[hfp0] at hrow;refine⟨E,[],rfl,hlen,hthere,?_,E.le_refl.led,leafRow_goes _ hr hst ⟨_,hF,hbl⟩ s1 (fun b hb=>setCells_heap bg c1 _ w b hb)⟩;simp only[cond_true];refine h.leafRow (bl:=bg) hr hst ⟨_,hF,hbl⟩ s2' s3 s4 s1 (fun b hb=>setCells_heap bg c1 _ w b hb) (fun hK u hu F0 hF0=>?_);rw[hF] at hF0;simp only[Option.some.injEq] at hF0;subst hF0;exact hrow _ rfl (fun _ _=>rfl) (fun _ _ _ _=>rfl) ⟨hown1,rfl⟩ u hu
             | sl t e1=>cases him
             | st fs=>cases him
             | ho t e1=>cases him
             | mp k1 v1=>cases him
           | false=>
             rw[him] at hcc;simp only[Bool.false_or,Bool.and_eq_true] at hcc;have hFF:∀b∈A++((bg::(A2++(fpsOf E ks++B2)))++B),(∃k,own E s (.r j k)=some b)\/b∈fpsOf E ks:=by
               intro b hb
               have:b∈fpsOf E ks\/b∈A++((bg::(A2++(F2++B2)))++B):=by
                 simp only[List.mem_append,List.mem_cons] at hb ⊢;rcases hb with hb | (hb | hb | hb | hb) | hb<;>simp [hb]
               rcases this with hb | hb
               · exact .inr hb
               · exact .inl (own_fp hr hst hF hb)
             refine⟨E.chg j (A++((bg::(A2++(fpsOf E ks++B2)))++B)) (headPut (E.nh j) π i off n H),[j],rfl,hlen,hthere,?_,led_chg _ _ _ _ (headPut_nil _ _ _ _ _ _),chgRow_goes h _ _ hr hst hlives ⟨_,hF,hbl⟩ s1 (fun b hb=>setCells_heap bg c1 _ w b hb) hFF⟩;simp only[cond_false];refine h.chgRow (bl:=bg) hr hst hst hks.1 hlives ⟨_,hF,hbl⟩ s2' s3 s4 s1 (fun b hb=>setCells_heap bg c1 _ w b hb) (headPut_nil _ _ _ _ _ _) (F':=A++((bg::(A2++(fpsOf E ks++B2)))++B)) (fun b hb=>?_) ?_ (fun hl=>by simpa using hl) hcc.2
               (fun hK u hu=>hrow _ (headPut_at _ _ _ _ _ _) (fun ρ hρ=>headPut_out _ _ _ _ _ _ hρ) (fun i' o σ hh=>headPut_else _ _ _ _ _ _ σ hh) (hown.mono (fun _ _=>rfl) (fun _ h=>h) (fun o σ h1 h2=>headPut_in _ _ _ _ _ _ σ h1 (by rw[k4] at h2;exact h2)) (fun _ _=>rfl)) u hu)
             · have:b∈fpsOf E ks\/b∈A++((bg::(A2++(F2++B2)))++B):=by
                 simp only[List.mem_append,List.mem_cons] at hb ⊢;rcases hb with hb | (hb | hb | hb | hb) | hb<;>simp [hb]
               rcases this with hb | hb
               · exact .inr hb
               · exact .inl (own_fp hr hst hF hb)
             · have h9:((A++bg::A2)++(fpsOf E ks++(B2++B))).Nodup:=by
                 refine nodup_swap (X:=F2) (by simpa using hnd) (fpsOf_nodup h hlives hks.2) (fun y hy=>?_);obtain⟨j',k',r',q5,q6,q7⟩:=fpsOf_mem h hlives hy;have hno:y∉A++((bg::(A2++(F2++B2)))++B):=by
                   intro hm';obtain⟨k2,ho2⟩:=own_fp hr hst hF hm';have e2:=h.inj _ _ _ ho2 q7;injection e2 with e2 _
                   rw[<- e2] at q5;exact hks.1 q5
                 simp only[List.mem_append,List.mem_cons,not_or] at hno ⊢;exact⟨⟨hno.1,hno.2.1.1,hno.2.1.2.1⟩,hno.2.1.2.2.2,hno.2.2⟩
               simpa using h9
         · cases hq
       · cases hq
   · cases hq
 · cases hq
end
end
section
section
variable {P:Program} {o:Oper} {s:St}
def knowInt (k:IntKind) (n:Int) (v:VC):VC:=
 match k with
 | .i64=>.imp (-9223372036854775808<=n/\n<=9223372036854775807) v
 | .u8=>.imp (0<=n/\n<=255) v
 | _=>v
def know (op:Op) (x:SV) (v:VC):VC:=
 match op,x with
 | .load _ _,.int k n=>knowInt k n v
 | .index _ _ _,.int k n=>knowInt k n v
 | .field _ _ _,.int k n=>knowInt k n v
 | .call _,.int k n=>knowInt k n v
 | _,_=>v
theorem knowInt_ok {k:IntKind} {n:Int} {v:VC} (h:(knowInt k n v).den) (hn:Has k n):v.den:=by
 unfold knowInt at h;split at h
 · exact h hn
 · exact h hn
 · exact h
theorem know_ok {op:Op} {x:SV} {v:VC} {S:Nat->Prop} {E:Env} {w:World} {u:Value} (h:(know op x v).den) (hr:RelV S E w x u):v.den:=by
 unfold know at h;split at h
 · exact knowInt_ok h hr.2
 · exact knowInt_ok h hr.2
 · exact knowInt_ok h hr.2
 · exact knowInt_ok h hr.2
 · exact h
theorem leadsX_val {q:Option Prop} {x:SV} (h:opVal P s o.op=some (q,x)):LeadsX P o s (fun K=>match q with | none=>know o.op x (K x s) | some p=>.ob p (know o.op x (K x s))):=by
 intro K hv c E a w hi next Q hnext;have hm:met q/\(know o.op x (K x s)).den:=by
   cases q with
   | none=>exact⟨trivial,hv⟩
   | some p=>exact hv
 obtain⟨v,h1,h2⟩:=gives_op q x h hm.1 c E a w hi;unfold Oper.wp;rw[h1,Oper.upon_value];exact hnext x s E v w [] (know_ok hm.2 h2) hi h2 E.le_refl.led (Goes.refl c E s w) (fun _=>rfl)
theorem run_buildVal {op:Sem Value} {v:Value} {w w':World} (h:op.run P w=.ok v w'):(do pure (Next.value (<- op)):Sem Next).run P w=.ok (.value v) w':=by
 simp only[Sem.run_bind,h,Result.andThen_ok];rfl
def boxVC (s:St) (t:TypeId) (l:List SV) (K:SV->St->VC):VC:=
 bif l.all SV.one then K (.bp s.bx.length 0) {s with bx:=s.bx++[(t,l)]} else .f
theorem box_leads {c:Ctx} {E:Env} {a:Act} {w:World} {t:TypeId} {l:List SV} {cs:List Value} {K:SV->St->VC} (h:Inv c E s a w) (hl:RelVs (Reg c E s w) E w l cs) (hv:(boxVC s t l K).den) :
   ∃x s' E',Inv c E' s' a (w.alloc (.cells cs.toArray t))/\RelV (Reg c E' s' (w.alloc (.cells cs.toArray t))) E' (w.alloc (.cells cs.toArray t)) x (.pointer (some ⟨w.heap.size,0,none⟩))/\E.led E' []/\Goes c E s w E' s' (w.alloc (.cells cs.toArray t))/\(K x s').den:=by
 unfold boxVC at hv;cases ho:l.all SV.one with
 | false=>rw[ho] at hv;exact hv.elim
 | true=>
   rw[ho] at hv;exact⟨.bp s.bx.length 0,_,_,h.box t hl ho,⟨w.heap.size,by simp [Env.addB,<- h.nbx],rfl⟩,(E.le_box _).led,box_goes t l cs,hv⟩
theorem leadsX_box {t:TypeId} {x:Operand} (ho:o.op=.box t x):LeadsX P o s (fun K=>match (s.ev x).cells with | some l=>boxVC s t l K | none=>.f):=by
 intro K hv c E a w h next Q hnext;simp only at hv;split at hv
 · rename_i l hl;obtain⟨vs,h1,h2⟩:=cells_rel hl (h.ev x);obtain⟨x',s',E',h3,h4,h5,h6,h7⟩:=box_leads h h2 hv;unfold Oper.wp
   have:(execOp a.eval o).run P w=.ok (.value (.pointer (some ⟨w.heap.size,0,none⟩))) (w.alloc (.cells vs.toArray t)):=by
     unfold execOp;rw[ho];simp only[Instr.box,newVar,newRow,newObj,Sem.run_bind,h1];rfl
   rw[this,Oper.upon_value];exact hnext _ _ _ _ _ [] h7 h3 h4 h5 h6 (fun _=>rfl)
 · exact hv.elim
theorem leadsX_alloc {t:TypeId} (ho:o.op=.alloc t):LeadsX P o s (fun K=>match (P.info? t).bind (·.zero) with | some z=>boxVC s t (z.cells.toList.map ofLeaf) K | none=>.f):=by
 intro K hv c E a w h next Q hnext;simp only at hv;split at hv
 · rename_i z hz;obtain⟨i,hi,hz⟩:=Option.bind_eq_some_iff.1 hz;obtain⟨x',s',E',h3,h4,h5,h6,h7⟩:=box_leads h (ofLeafs_rel z.cells.toList) hv;simp only[Array.toArray_toList] at h3 h4 h6;unfold Oper.wp
   have:(execOp a.eval o).run P w=.ok (.value (.pointer (some ⟨w.heap.size,0,none⟩))) (w.alloc (.cells z.cells t)):=by
     unfold execOp;rw[ho];simp only[Instr.alloc,zeroValue,typeInfo,program,Sem.run_bind,Sem.run,Result.andThen_ok,hi,Sem.run_pure,hz,newVar,newRow,newObj];rfl
   rw[this,Oper.upon_value];exact hnext _ _ _ _ _ [] h7 h3 h4 h5 h6 (fun _=>rfl)
 · exact hv.elim
def partOf (s:St) (j:Nat) (π:Path) (off n:Nat):Option OT:=
 match liveRow s j with
 | some r=>match typeP r.tid r.e π with
   | some (_,e)=>match locO e off n with
     | some (e',_,_)=>some e'
     | none=>none
   | none=>none
 | none=>none
def storeVC (P:Program) (s:St) (t:TypeId) (x y:SV) (K:SV->St->VC):VC:=
 match x with
 | .bp j off=>match s.bx[j]?,y.cells,(P.info? t).map (·.size) with
   | some p,some l,some n=>bif (Nat.beq l.length n&&Nat.ble (off+n) p.2.length)&&l.all SV.one then K .un (s.setBox j (p.1,putAll p.2 off l)) else .f
   | _,_,_=>.f
 | .rp j π i sz off=>match y.cells,(P.info? t).map (·.size) with
   | some l,some n=>match partOf s j π off n with
     | some e'=>bif (frzO s e' l).2.1.all SV.one&&(frzO s e' l).2.2.isEmpty then
         (match rowPut (frzO s e' l).1 j π i sz off n (frzO s e' l).2.1 with
         | some (ps,s2)=>.ob (conj ps) (bif Nat.beq n sz then K .un s2 else genRow s2 j (K .un))
         | none=>.f) else .f
     | none=>.f
   | _,_=>.f
 | _=>.f
theorem run_store {w:World} {a:Act} {o:Oper} {t:TypeId} {x y:Operand} {b off n:Nat} {vs:List Value} (ho:o.op=.store t x y) (hn:(P.info? t).map (·.size)=some n) (hxv:a.eval x=.pointer (some ⟨b,off,none⟩)) (h2:(a.eval y).cells=vs.toArray) (hvl:vs.length=n) (hthere:w.there b off vs.length) (hone:∀v∈vs,v.oneCell'=true) :
   (execOp a.eval o).run P w=.ok .skip (w.setCells b off vs):=by
 have hone:=all_oneCell_toArray hone;have hstore:=run_storeAt_mid (P:=P) w b off t vs.toArray (by simpa using hthere) (by rw[hn,<- hvl];rfl) hone;unfold execOp;rw[ho];have e:Instr.storeAt t (a.eval x) (a.eval y)=Instr.storeAt t (.pointer (some ⟨b,off,none⟩)) (.agg vs.toArray):=by
   rw[hxv];simp only[Instr.storeAt,storeVar,h2];rfl
 simp only[e,Sem.run_bind,hstore,Result.andThen_ok];rfl
theorem leadsX_store {t:TypeId} {x y:Operand} (ho:o.op=.store t x y):LeadsX P o s (fun K=>storeVC P s t (s.ev x) (s.ev y) K):=by
 intro K hv c E a w h next Q hnext;have h1:=h.ev x;unfold storeVC at hv;split at hv
 · rename_i j off hx;rw[hx] at h1;obtain⟨b,hb,hxv⟩:=h1;split at hv
   · rename_i p l n hp hl hn;cases hc:(Nat.beq l.length n&&Nat.ble (off+n) p.2.length)&&l.all SV.one with
     | false=>rw[hc] at hv;exact hv.elim
     | true=>
       rw[hc] at hv;simp only[Bool.and_eq_true] at hc;obtain⟨⟨hc1,hc2⟩,hc3⟩:=hc;have hc1:l.length=n:=Nat.eq_of_beq_eq_true hc1;have hc2:off+n<=p.2.length:=Nat.le_of_ble_eq_true hc2;obtain⟨vs,h2,h3⟩:=cells_rel hl (h.ev y);have hvl:vs.length=n:=by rw[h3.length,hc1]
       obtain⟨cs,h4,h5,h6⟩:=h.bx j p b hp hb;have hcl:cs.length=p.2.length:=h5.length;have hthere:w.there b off vs.length:=by
         intro k hk;constructor
         · simp [World.cell?,h4];omega
         · simp only[World.frozen?,h4,decide_eq_false_iff_not,Bool.and_eq_false_iff]
           right;omega
       have hrun:=run_store (P:=P) ho hn hxv h2 hvl hthere (h3.one hc3);unfold Oper.wp;rw[hrun,Oper.upon_skip];exact hnext _ _ _ _ _ [] hv (h.setBox off hp hb h3 hc3) trivial E.le_refl.led (setBox_goes _ off vs hb) (fun _=>rfl)
   · exact hv.elim
 · rename_i j π i sz off hx;rw[hx] at h1;split at hv
   · rename_i l n hl hn;split at hv
     · rename_i e' he';generalize hc:((frzO s e' l).2.1.all SV.one&&(frzO s e' l).2.2.isEmpty)=cond at hv;cases cond with
       | false=>exact hv.elim
       | true=>
         simp only[Bool.and_eq_true] at hc;simp only[cond_true] at hv;split at hv
         · rename_i ps s2 hput;obtain⟨hp,hv⟩:=hv;have hv:(K .un s2).den:=by
             cases hw:Nat.beq n sz with
             | true=>rwa [hw] at hv
             | false=>rw[hw] at hv;exact genRow_den hv
           obtain⟨vs,h2,h3⟩:=cells_rel hl (h.ev y);obtain⟨h4,h5,c1,c2,rfl,h6,h7⟩:=frzO_ok (e:=e') h h3;have hnil:(frzO s e' l).2.2=[]:=by simpa using hc.2
           rw[hnil] at h7;have h7:c2=[]:=h7;subst h7;rw[List.append_nil] at h2;obtain⟨b,off',E2,js,hxv,hvl,hthere,h8,h9,h10⟩:=rowPut_ok h4 hput (conj_mem hp) h6 (h5.rel h1);have hrun:=run_store (P:=P) ho hn hxv h2 hvl hthere (h6.one hc.1);unfold Oper.wp;rw[hrun,Oper.upon_skip];exact hnext _ _ _ _ _ js hv h8 trivial h9 ((under_goes h5).trans h10) (fun hq=>by rw[ho] at hq;cases hq)
         · exact hv.elim
     · exact hv.elim
   · exact hv.elim
 · exact hv.elim
def tyOf (P:Program):Nat->TypeId->Option Ty
 | 0,_=>none
 | n+1,t=>match P.underlying t with
   | some (.int k)=>some (.int k)
   | some .bool=>some .bool
   | some .string=>some .str
   | some (.slice e)=>(tyOf P n e).map .sl
   | some (.array m e)=>(tyOf P n e).map fun t=>.st (List.replicate m t)
   | some (.struct fs)=>(fs.toList.mapM fun f=>tyOf P n f.type).map .st
   | some _=>some .raw
   | none=>none
def unflatN (t:Ty):Nat->List SV->Option (List Dat)
 | 0,[]=>some []
 | 0,_::_=>none
 | n+1,l=>match unflat t l with
   | some (d,r)=>match unflatN t n r with
     | some ds=>some (d::ds)
     | none=>none
   | none=>none
theorem unflatN_rep {S:Nat->Prop} {E:Env} {w:World} {t:Ty}:∀{n:Nat} {l:List SV} {ds:List Dat} {cs:List Value},unflatN t n l=some ds->RelVs S E w l cs->
   ds.length=n/\cs.length=n*t.size/\∀i x,ds[i]?=some x->Rep S w t ((cs.drop (i*t.size)).take t.size) x
 | 0,[],ds,cs,h,hr=>by
   simp [unflatN] at h;subst h;rw[show cs=[] from hr];exact⟨rfl,by simp,fun i x hx=>by simp at hx⟩
 | 0,_::_,_,_,h,_=>by simp [unflatN] at h
 | n+1,l,ds,cs,h,hr=>by
   unfold unflatN at h;split at h
   · rename_i d r h1;split at h
     · rename_i ds' h2;simp at h;subst h;obtain⟨c1,c2,rfl,h3,h4⟩:=unflat_rep h1 hr;obtain⟨h5,h6,h7⟩:=unflatN_rep h2 h4;have hl:=h3.length;refine⟨by rw[List.length_cons,h5],by rw[List.length_append,hl,h6,Nat.succ_mul,Nat.add_comm],fun i x hx=>?_⟩;cases i with
       | zero=>
         simp at hx;subst hx;rw[Nat.zero_mul,List.drop_zero,<- hl,List.take_left];exact h3
       | succ i=>
         simp at hx
         have:=h7 i x hx
         rw[Nat.succ_mul,Nat.add_comm,<- hl,<- List.drop_drop,List.drop_left,hl];exact this
     · cases h
   · cases h
def allIm:List OT->Bool
 | []=>true
 | .im _::l=>allIm l
 | _::_=>false
def mkSt (l:List OT):OT:=bif allIm l then .im (.st (OT.tys l)) else .st l
def otOf (P:Program):Nat->TypeId->Option OT
 | 0,_=>none
 | n+1,t=>match P.underlying t with
   | some (.slice e)=>(otOf P n e).map (.sl e)
   | some (.array m e)=>(otOf P n e).map fun t=>mkSt (List.replicate m t)
   | some (.struct fs)=>(fs.toList.mapM fun f=>otOf P n f.type).map mkSt
   | _=>(tyOf P (n+1) t).map .im
def foldO (f:TypeId->List SV->Option (OT×List SV)):List TypeId->List SV->Option (List OT×List SV)
 | [],l=>some ([],l)
 | t::ts,l=>match f t l with
   | some (o,r)=>match foldO f ts r with
     | some (os,r')=>some (o::os,r')
     | none=>none
   | none=>none
def deriveO (P:Program) (s:St):Nat->TypeId->List SV->Option (OT×List SV)
 | 0,_,_=>none
 | n+1,t,l=>match P.underlying t with
   | some (.slice _)=>(match l with
     | .own j::r=>(match liveRow s j with
       | some q=>some (.sl q.tid q.e,r)
       | none=>(tyOf P 9 t).map fun ty=>(.im ty,r))
     | .nil::r=>(otOf P 9 t).map fun o=>(o,r)
     | _::r=>(tyOf P 9 t).map fun ty=>(.im ty,r)
     | []=>none)
   | some (.array m e)=>(match foldO (deriveO P s n) (List.replicate m e) l with
     | some (os,r)=>some (mkSt os,r)
     | none=>none)
   | some (.struct fs)=>(match foldO (deriveO P s n) (fs.toList.map (·.type)) l with
     | some (os,r)=>some (mkSt os,r)
     | none=>none)
   | _=>(tyOf P 9 t).map fun ty=>(.im ty,l.drop 1)
def litVC (P:Program) (s:St) (t:TypeId) (n:Nat) (parts:Array (Nat×Operand)) (K:SV->St->VC):VC:=
 match P.underlying t with
 | some (.slice e)=>match P.info? e with
   | some ie=>
     bif Nat.beq n 0 then (bif parts.toList.isEmpty then (match otOf P 9 e with
       | some ty=>bif ty.isMp then .f else K (.own s.rw.length) {s with rw:=killL [] s.rw 0++[Row.mk e ty [] 0 false]}
       | none=>.f) else .f)
     else bif (Nat.beq ie.size 0||Nat.ble (2 ^ 24+1) (n*ie.size))||!ie.zero.isSome then .f
     else match fillS (fun i=>some (i*ie.size,ie.size)) (List.replicate (n*ie.size) .un) (parts.toList.map fun x=>(x.1,s.ev x.2)) with
       | some l=>match deriveO P s 9 e l with
         | some (ty,_)=>match absN (frzN s ty n l).1 ty n (frzN s ty n l).2 with
           | some (ds,ks)=>bif Nat.beq ty.size ie.size&&nodupN ks&&!ty.isMp then K (.own (frzN s ty n l).1.rw.length) {(frzN s ty n l).1 with rw:=killL ks (frzN s ty n l).1.rw 0++[Row.mk e ty ds 0 (anyLtN (frzN s ty n l).1 ks)]} else .f
           | none=>.f
         | none=>.f
       | none=>.f
   | none=>.f
 | _=>.f
theorem row_len {c:Ctx} {E:Env} {a:Act} {w:World} (h:Inv c E s a w) (v:Value):(E.rw++[v])[s.rw.length]?=some v:=by rw[<- h.nrw];simp
theorem leadsX_lit {t:TypeId} {n:Nat} {parts:Array (Nat×Operand)} (ho:o.op=.buildSlice t n parts):LeadsX P o s (fun K=>litVC P s t n parts K):=by
 intro K hv c E a w h next Q hnext;unfold litVC at hv;split at hv
 · rename_i e hu;split at hv
   · rename_i ie hie;cases hn:Nat.beq n 0 with
     | true=>
       rw[hn] at hv;simp only[cond_true] at hv;cases hp:parts.toList.isEmpty with
       | false=>rw[hp] at hv;exact hv.elim
       | true=>
         rw[hp] at hv;simp only[cond_true] at hv;split at hv
         · rename_i ty hty;cases hmp:ty.isMp with
           | true=>rw[hmp] at hv;exact hv.elim
           | false=>
           rw[hmp] at hv;have hn0:n=0:=Nat.eq_of_beq_eq_true hn;subst hn0;have hp0:parts=#[]:=by apply Array.toList_inj.1;simpa using hp
           subst hp0;have hrun:(execOp a.eval o).run P w=.ok (.value (.slice (some ⟨w.heap.size,0,none⟩) 0 0)) (w.alloc (.cells #[] e)):=by
             unfold execOp;rw[ho];refine (show _=_ from ?_);simp [Instr.buildSlice,run_underlying hu,sizeOf,typeInfo,hie,newRow,newObj,Instr.fill,Sem.run,program,Array.range_zero']
           unfold Oper.wp;rw[hrun,Oper.upon_value];have h1:=h.newRow e ty hmp (ds:=[]) (cs:=[]) (ks:=[]) (Hs:=fun _ _ _=>undef) (fun j hj=>by cases hj) List.nodup_nil (by simp) ⟨rfl,rfl⟩;exact hnext _ _ _ _ _ [] hv h1 ⟨row_len h _,.inl ⟨_,_,_,rfl⟩⟩ (E.le_row _ _ _).led (newRow_goes (cs:=[]) (ks:=[]) h e _ _ _ (fun j hj=>by cases hj)) (fun _=>rfl)
         · exact hv.elim
     | false=>
       rw[hn] at hv;simp only[cond_false] at hv;cases hb:(Nat.beq ie.size 0||Nat.ble (2 ^ 24+1) (n*ie.size))||!ie.zero.isSome with
       | true=>rw[hb] at hv;exact hv.elim
       | false=>
         rw[hb] at hv;simp only[cond_false] at hv;simp only[Bool.or_eq_false_iff,Bool.not_eq_eq_eq_not,Bool.not_false] at hb;obtain⟨⟨hb1,hb2⟩,hb3⟩:=hb;have hb1:ie.size≠0:=fun e=>by rw[e] at hb1;cases hb1
         have hb2:¬n*ie.size > 2 ^ 24:=fun hgt=>by
           have:Nat.ble (2 ^ 24+1) (n*ie.size)=true:=Nat.ble_eq_true_of_le hgt
           rw[this] at hb2;cases hb2
         have hn0:n≠0:=fun e=>by rw[e] at hn;cases hn
         obtain⟨z,hz⟩:=Option.isSome_iff_exists.1 hb3;split at hv
         · rename_i l hl;have hun:RelVs (Reg c E s w) E w (List.replicate (n*ie.size) .un) ((Array.range (n*ie.size)).map (z.cells[· % z.cells.size]!)).toList:=by
             have:∀(vs:List Value),RelVs (Reg c E s w) E w (List.replicate vs.length .un) vs:=by
               intro vs
               induction vs with
               | nil=>exact rfl
               | cons v vs ih=>exact⟨v,vs,rfl,trivial,ih⟩
             have h9:=this ((Array.range (n*ie.size)).map (z.cells[· % z.cells.size]!)).toList;simpa using h9
           obtain⟨cs,h2,h3⟩:=fill_rel hl hun (RelParts.of (fun x=>h.ev x) parts.toList);split at hv
           · rename_i ty _ hder;obtain⟨h4,h5,h6⟩:=frzN_ok (e:=ty) (n:=n) h h3;generalize hs2:(frzN s ty n l).1=s2 at *
             generalize hl2:(frzN s ty n l).2=l2 at *
             split at hv
             · rename_i ds ks hds;obtain⟨h7,h8,Hs,h9⟩:=absN_ok (i:=0) h4 hds h6;cases hsz:Nat.beq ty.size ie.size&&nodupN ks&&!ty.isMp with
               | false=>rw[hsz] at hv;exact hv.elim
               | true=>
                 rw[hsz] at hv;simp only[Bool.and_eq_true] at hsz;have hnd:=nodupN_ok hsz.1.2;have hmp:ty.isMp=false:=by simpa using hsz.2
                 have hsz:ty.size=ie.size:=Nat.eq_of_beq_eq_true hsz.1.1;have hrun:(execOp a.eval o).run P w=.ok (.value (.slice (some ⟨w.heap.size,0,none⟩) n n)) (w.alloc (.cells cs.toArray e)):=by
                   unfold execOp;rw[ho];refine run_buildVal ?_;refine run_buildSlice w t e n _ cs.toArray ie z hu hie hz hb2 (fun e=>?_) ?_
                   · rcases Nat.mul_eq_zero.1 e with e | e
                     · exact hn0 e
                     · exact hb1 e
                   · rw[Array.toArray_toList] at h2;rw[Array.toList_map];exact h2
                 unfold Oper.wp;rw[hrun,Oper.upon_value];have hle:n<=140737488355328:=by
                   have:n*1<=n*ie.size:=Nat.mul_le_mul_left _ (by omega)
                   omega
                 have h10:=h4.newRow e ty hmp h7 hnd (by rw[h8];exact hle) h9;rw[h8] at h10;exact hnext _ _ _ _ _ [] hv h10 ⟨row_len h4 _,.inl ⟨_,_,_,rfl⟩⟩ (E.le_row _ _ _).led ((under_goes h5).trans (newRow_goes h4 e _ _ _ h7)) (fun _=>rfl)
             · exact hv.elim
           · exact hv.elim
         · exact hv.elim
   · exact hv.elim
 · exact hv.elim
def makeVC (P:Program) (s:St) (t:TypeId) (l m:SV) (K:SV->St->VC):VC:=
 match P.underlying t,l,m with
 | some (.slice e),.int _ n,.int _ n'=>match P.info? e,otOf P 9 e with
   | some ie,some ty=>match ie.zero with
     | some z=>match absO s ty (z.cells.toList.map ofLeaf) with
       | some (d,[],[])=>bif Nat.beq ty.size ie.size then .ob (n=n'/\0<=n/\n*(ie.bytes:Int)<=281474976710656/\n<=140737488355328) (K (.own s.rw.length) {s with rw:=killL [] s.rw 0++[Row.mk e ty (List.replicate n.toNat d) 0 false]}) else .f
       | _=>.f
     | none=>.f
   | _,_=>.f
 | _,_,_=>.f
theorem elems_rep {Q:Nat->List Value->Dat->List Nat->Prop} {d:Dat} {sz:Nat}:∀{n k:Nat} {cs:List Value},cs.length=n*sz->(∀i j,i<n->Q j ((cs.drop (i*sz)).take sz) d [])->Elems Q k cs (List.replicate n d) []
 | 0,k,cs,hl,_=>⟨List.eq_nil_of_length_eq_zero (by simpa using hl),rfl⟩
 | n+1,k,cs,hl,h=>by
   rw[Nat.succ_mul] at hl;have h0:=h 0 k (by omega);rw[Nat.zero_mul,List.drop_zero] at h0;refine⟨cs.take sz,cs.drop sz,[],[],by simp,rfl,h0,elems_rep (sz:=sz) (n:=n) (k:=k+1) (cs:=cs.drop sz) (by rw[List.length_drop];omega) (fun i j hi=>?_)⟩
   have:=h (i+1) j (by omega)
   rw[Nat.succ_mul] at this;rw[List.drop_drop,show sz+i*sz=i*sz+sz from by omega];exact this
theorem made_take {z:Array Value} {n sz i:Nat} (hz:z.size=sz) (hi:i<n):((madeCells z (n*sz)).toList.drop (i*sz)).take sz=z.toList:=by
 have hle:i*sz+sz<=n*sz:=by rw[<- Nat.succ_mul];exact Nat.mul_le_mul_right _ hi
 apply List.ext_getElem
 · simp [madeCells,hz];omega
 · intro k h1 h2;have hk:k<sz:=by simpa [hz] using h2
   have hm:(i*sz+k) % sz=k:=by rw[Nat.mul_comm,Nat.mul_add_mod];exact Nat.mod_eq_of_lt hk
   simp [madeCells,hz,hm,getElem!_pos z k (by omega)]
theorem leadsX_make {t:TypeId} {l m:Operand} (ho:o.op=.makeSlice t l m):LeadsX P o s (fun K=>makeVC P s t (s.ev l) (s.ev m) K):=by
 intro K hv c E a w h next Q hnext;have h1:=h.ev l;have h2:=h.ev m;unfold makeVC at hv;split at hv
 · rename_i e kl n km n' hu hl hm;rw[hl] at h1;rw[hm] at h2;split at hv
   · rename_i ie ty hie hty;split at hv
     · rename_i z hz;split at hv
       · rename_i d hd;cases hsz:Nat.beq ty.size ie.size with
         | false=>rw[hsz] at hv;exact hv.elim
         | true=>
           rw[hsz] at hv;obtain⟨⟨rfl,h0,hb,hmx⟩,hv⟩:=hv;have hsz:ty.size=ie.size:=Nat.eq_of_beq_eq_true hsz;obtain⟨k,rfl⟩:=Int.eq_ofNat_of_zero_le h0;rw[Int.toNat_natCast] at hv;obtain⟨_,c1,c2,H,hcs,hc2,hown⟩:=absO_ok h 0 hd (ofLeafs_rel (S:=Reg c E s w) (E:=E) (w:=w) z.cells.toList);have hc2:c2=[]:=hc2;subst hc2;rw[List.append_nil] at hcs;subst hcs;have hzs:z.cells.size=ty.size:=by have:=hown.length;simpa using this
           have hbytes:ie.bytes*k<=281474976710656:=by
             have:((k*ie.bytes:Nat):Int)<=281474976710656:=by rw[Int.natCast_mul];exact hb
             rw[Nat.mul_comm];omega
           have hr:=run_make (P:=P) w t e ie z hu hie hz kl km k k (by omega) (Int.le_refl _) (by rw[<- Int.natCast_mul];omega) (by omega);simp only[Int.toNat_natCast] at hr;have hrun:(execOp a.eval o).run P w=.ok (.value (.slice (some ⟨w.heap.size,0,none⟩) k k)) (w.alloc (.cells (madeCells z.cells (k*ie.size)) e)):=by
             unfold execOp;rw[ho];refine run_buildVal ?_;rw[h1.1,h2.1];exact hr
           unfold Oper.wp;rw[hrun,Oper.upon_value];have h10:=h.newRow e ty (by cases ty<;>first | rfl | (simp [absO] at hd)) (ds:=List.replicate k d) (cs:=(madeCells z.cells (k*ie.size)).toList) (ks:=[]) (Hs:=fun _=>H) (fun j hj=>by cases hj) List.nodup_nil (by simp;omega) (elems_rep (sz:=ty.size) (by simp [size_madeCells,hsz]) (fun i j hi=>by
             rw[<- hsz,made_take hzs hi];exact hown))
           simp only[List.length_replicate,Array.toArray_toList] at h10;exact hnext _ _ _ _ _ [] hv h10 ⟨row_len h _,.inl ⟨_,_,_,rfl⟩⟩ (E.le_row _ _ _).led (by have:=newRow_goes (cs:=(madeCells z.cells (k*ie.size)).toList) (ks:=[]) h e (Row.mk e ty (List.replicate k d) 0 false) (.slice (some ⟨w.heap.size,0,none⟩) k k) (headOf (.slice (some ⟨w.heap.size,0,none⟩) k k) fun _=>H) (fun j hj=>by cases hj);simpa using this) (fun _=>rfl)
       · exact hv.elim
     · exact hv.elim
   · exact hv.elim
 · exact hv.elim
end
end
section
section
variable {P:Program} {o:Oper} {s:St}
def srcOf (s:St) (x:SV):Option (List Prop×Option OT×List Dat×List Nat):=
 match x with
 | .nil=>some ([],none,[],[])
 | .sl t ds=>some ([],some (.im t),ds,[])
 | .bsl (.im t) ds=>some ([],some (.im t),ds,[])
 | .own j=>match s.rw[j]? with
   | some r=>if r.st=0 then (match r.e with
       | .im t=>some ([],some (.im t),r.ds,[])
       | .mp _ _=>none
       | e=>some ([],some e,r.ds,[j])) else if r.st=1 then some ([],some (.im r.e.ty),r.ds,[]) else none
   | none=>none
 | .hs j π=>match liveRow s j with
   | some r=>match typeP r.tid r.e π with
     | some (_,.im t)=>some ([okP r.e r.ds π],some (.im t),getP r.e r.ds π,[])
     | _=>none
   | none=>none
 | _=>none
theorem drop_take_cons {α:Type} (es ys:List α) (sz i:Nat) (h:es.length=sz):(((es++ys).drop ((i+1)*sz)).take sz)=((ys.drop (i*sz)).take sz):=by
 rw[Nat.succ_mul,Nat.add_comm,<- List.drop_drop,<- h,List.drop_left]
theorem sl_cells {S:Nat->Prop} {w:World} {e:Ty} {b:Nat}:∀(ds:List Dat) (off:Nat),(∀i x,ds[i]?=some x->∃es,w.rangeAt b (off+i*e.size) es/\Rep S w e es x)->
   ∃ys,ys.length=ds.length*e.size/\w.rangeAt b off ys/\(∀i x,ds[i]?=some x->Rep S w e ((ys.drop (i*e.size)).take e.size) x)/\∀v∈ys,v.oneCell'=true
 | [],off,_=>⟨[],by simp,fun j v hv=>by simp at hv,fun i x hx=>by simp at hx,fun v hv=>by cases hv⟩
 | d::ds,off,h=>by
   obtain⟨es,h1,h2⟩:=h 0 d rfl;obtain⟨ys,h3,h4,h5,h6⟩:=sl_cells ds (off+e.size) (fun i x hx=>by
     obtain⟨es,h1,h2⟩:=h (i+1) x (by simpa using hx);refine⟨es,?_,h2⟩;rw[Nat.succ_mul] at h1;rw[show off+e.size+i*e.size=off+(i*e.size+e.size) from by omega];exact h1)
   have hl:=h2.length;refine⟨es++ys,by rw[List.length_append,hl,h3,List.length_cons,Nat.succ_mul,Nat.add_comm],?_,fun i x hx=>?_,fun v hv=>?_⟩
   · intro j v hv;rcases Nat.lt_or_ge j es.length with hj | hj
     · rw[List.getElem?_append_left hj] at hv
       have:=h1 j v hv
       rwa [Nat.zero_mul,Nat.add_zero] at this
     · rw[List.getElem?_append_right hj] at hv
       have:=h4 (j-es.length) v hv
       rwa [show off+e.size+(j-es.length)=off+j from by omega] at this
   · cases i with
     | zero=>
       simp at hx;subst hx;rw[Nat.zero_mul,List.drop_zero,<- hl,List.take_left];exact h2
     | succ i=>
       rw[drop_take_cons es ys e.size i hl];exact h5 i x (by simpa using hx)
   · rcases List.mem_append.1 hv with hv | hv
     · exact h2.one v hv
     · exact h6 v hv
mutual
theorem own_one {S:Nat->Prop} {w:World}:∀{e:OT} {H:Hd} {b:Nat} {cs:List Value} {d:Dat} {F:List Nat},Own S w e H b cs d F->∀v∈cs,v.oneCell'=true
 | .im _,_,_,_,_,_,⟨h,_⟩,v,hv=>h.one v hv
 | .sl _ _,H,b,_,_,_,⟨ds,xs,F',h0,_,h1,_⟩,v,hv=>by
   subst h0;rw[List.mem_singleton.1 hv];obtain⟨a,n,c,h⟩:=isSlice_of h1;rw[h];rfl
 | .ho _ _,H,b,_,_,_,⟨h0,h1⟩,v,hv=>by
   subst h0;rw[List.mem_singleton.1 hv];have hs:isSlice (H b []):=by
     rcases h1 with ⟨_,h1,_⟩ | ⟨_,_,_,_,h1,_⟩
     · exact h1
     · exact isSlice_of h1
   obtain⟨a,n,c,h⟩:=hs;rw[h];rfl
 | .mp _ _,H,b,_,_,_,⟨_,_,_,g,_,h0,h1,_⟩,v,hv=>by
   subst h0;rw[List.mem_singleton.1 hv,h1];rfl
 | .st fs,_,_,_,_,_,⟨_,_,h⟩,v,hv=>owns_one h v hv
theorem owns_one {S:Nat->Prop} {w:World}:∀{fs:List OT} {H:Hd} {b:Nat} {cs:List Value} {ds:List Dat} {F:List Nat},Owns S w fs H b cs ds F->∀v∈cs,v.oneCell'=true
 | [],_,_,_,_,_,⟨h,_⟩,v,hv=>by rw[h] at hv;cases hv
 | _::_,_,_,_,_,_,⟨c1,c2,_,_,_,_,h1,_,_,h2,h3⟩,v,hv=>by
   subst h1;rcases List.mem_append.1 hv with hv | hv
   · exact own_one h2 v hv
   · exact owns_one h3 v hv
end
theorem elems_one {Q:Nat->List Value->Dat->List Nat->Prop} (hq:∀i x d F,Q i x d F->∀v∈x,v.oneCell'=true):∀{ds:List Dat} {k:Nat} {xs:List Value} {F:List Nat},Elems Q k xs ds F->∀v∈xs,v.oneCell'=true
 | [],_,_,_,⟨h,_⟩,v,hv=>by rw[h] at hv;cases hv
 | _::_,_,_,_,⟨x1,x2,_,_,h1,_,h2,h3⟩,v,hv=>by
   subst h1;rcases List.mem_append.1 hv with hv | hv
   · exact hq _ _ _ _ h2 v hv
   · exact elems_one hq h3 v hv
def SrcAt (c:Ctx) (E:Env) (s:St) (w:World) (v:Value) (oe:Option OT) (ds:List Dat) (ks:List Nat):Prop:=
 Lives s ks/\ks.length<=1/\∃ad cap,v=.slice ad ds.length cap/\ds.length<=140737488355328/\(ds=[]\/∃(e:OT) (b off:Nat) (ys:List Value) (Hs:Nat->Hd) (F':List Nat),oe=some e/\ad=some ⟨b,off,none⟩/\ys.length=ds.length*e.size/\w.rangeAt b off ys/\Elems (fun k=>Own (Reg c E s w) w e (Hs k) 0) 0 ys ds F'/\F'.Sublist (fpsOf E ks))
theorem src_im {c:Ctx} {E:Env} {w:World} {S:Nat->Prop} (hS:∀b,S b->Reg c E s w b) {v:Value} {t:Ty} {ds:List Dat} (h:∃a n cp,v=.slice a n cp/\ds.length=n/\n<=140737488355328/\(n≠0->∃b off,a=some ⟨b,off,none⟩/\∀i x,ds[i]?=some x->∃es,w.rangeAt b (off+i*t.size) es/\Rep S w t es x)):SrcAt c E s w v (some (.im t)) ds []:=by
 obtain⟨a,n,cp,h1,h2,h3,h4⟩:=h;subst h2;refine⟨(fun j hj=>by cases hj),by simp,a,cp,h1,h3,?_⟩;cases ds with
 | nil=>exact .inl rfl
 | cons d ds=>
   obtain⟨b,off,rfl,hc⟩:=h4 (by simp);obtain⟨ys,h9,h10,h11,h12⟩:=sl_cells (d::ds) off hc;refine .inr ⟨.im t,b,off,ys,fun _ _ _=>undef,[],rfl,rfl,h9,h10,elems_im h9 (fun i x hx=>(h11 i x hx).mono (fun _ _=>rfl) hS),List.nil_sublist _⟩
theorem src_rel {c:Ctx} {E:Env} {a:Act} {w:World} (h:Inv c E s a w) {x:SV} {v:Value} {ps:List Prop} {oe:Option OT} {ds:List Dat} {ks:List Nat} (hx:srcOf s x=some (ps,oe,ds,ks)) (hp:∀p∈ps,p) (hr:RelV (Reg c E s w) E w x v):SrcAt c E s w v oe ds ks:=by
 have own:∀(tid:TypeId) (e:OT) (H:Hd) (u:Value) (ds:List Dat) (F G:List Nat),Own (Reg c E s w) w (.sl tid e) H 0 [u] (.node ds) F->F.Sublist G->∃ad cap,u=.slice ad ds.length cap/\ds.length<=140737488355328/\(ds=[]\/∃(e':OT) (b off:Nat) (ys:List Value) (Hs:Nat->Hd) (F':List Nat),some e=some e'/\ad=some ⟨b,off,none⟩/\ys.length=ds.length*e'.size/\w.rangeAt b off ys/\Elems (fun k=>Own (Reg c E s w) w e' (Hs k) 0) 0 ys ds F'/\F'.Sublist G):=by
   intro tid e H u ds F G ho hG;have hv:=ho.sl_head.1;obtain⟨ds',xs,F',h0,h0',h1,h1',h2,rfl⟩:=ho;simp at h0';subst h0';rw[<- hv] at h1;obtain⟨ad,cap,hu,_⟩:=slice_of_owns h1;refine⟨ad,cap,hu,h1',?_⟩;by_cases hn:ds.length=0
   · exact .inl (List.eq_nil_of_length_eq_zero hn)
   · obtain⟨g,oo,cap',hu',_,h8⟩:=range_of_owns h1 hn;rw[hu] at hu';injection hu' with hu' _ _
     exact .inr ⟨e,g,oo,xs,_,F',rfl,hu',h1.1,h8,h2,(List.sublist_append_right _ _).trans hG⟩
 have ownIm:∀(tid:TypeId) (t:Ty) (H:Hd) (u:Value) (ds:List Dat) (F:List Nat),Own (Reg c E s w) w (.sl tid (.im t)) H 0 [u] (.node ds) F->SrcAt c E s w u (some (.im t)) ds []:=by
   intro tid t H u ds F ho;obtain⟨ad,cap,hu,hm,hor⟩:=own tid (.im t) H u ds F F ho (List.Sublist.refl _);refine⟨(fun j hj=>by cases hj),by simp,ad,cap,hu,hm,hor.imp id ?_⟩;rintro⟨e',b,off,ys,Hs,F',h1,h2,h3,h4,h5,_⟩;injection h1 with h1
   subst h1
   have:=(elems_im_inv h5).1
   subst this;exact⟨.im t,b,off,ys,Hs,[],rfl,h2,h3,h4,h5,List.nil_sublist _⟩
 unfold srcOf at hx;split at hx
 · simp only[Option.some.injEq,Prod.mk.injEq] at hx;obtain⟨rfl,rfl,rfl,rfl⟩:=hx;exact⟨(fun j hj=>by cases hj),by simp,none,0,hr,by simp,.inl rfl⟩
 · simp only[Option.some.injEq,Prod.mk.injEq] at hx;obtain⟨rfl,rfl,rfl,rfl⟩:=hx;obtain⟨ad,n,cap,ds',h3,h4,h5,h6,h7,h8⟩:=hr;simp at h3 h4;subst h4;refine src_im (S:=Reg c E s w) (fun _ h=>h) ⟨ad,n,cap,h3,h5,h7,fun hn=>?_⟩;obtain⟨b,off,h9,_,h10⟩:=h8 hn;exact⟨b,off,h9,h10⟩
 · simp only[Option.some.injEq,Prod.mk.injEq] at hx;obtain⟨rfl,rfl,rfl,rfl⟩:=hx;obtain⟨ad,n,cap,ds',h3,h4,h5,h6,h7,h8⟩:=hr;simp at h3 h4;subst h4;refine src_im (S:=Reg c E s w) (fun _ h=>h) ⟨ad,n,cap,h3,h5,h7,fun hn=>?_⟩;obtain⟨b,off,h9,hb,h10⟩:=h8 hn;refine⟨b,off,h9,fun i x hx=>?_⟩;obtain⟨es,h11,h12⟩:=h10 i x hx;exact⟨es,range_kept (h.bor_callS (L:=fun _=>False) b hb).2 h11,h12⟩
 · rename_i j;split at hx
   · rename_i r hr';split at hx
     · rename_i hst;obtain⟨hF,h4⟩:=h.live_own hr' hst hr.1;split at hx
       · rename_i t he;simp only[Option.some.injEq,Prod.mk.injEq] at hx;obtain⟨rfl,rfl,rfl,rfl⟩:=hx;rw[he] at h4;exact ownIm _ _ _ _ _ _ h4
       · cases hx
       · rename_i hnm;rw[headT_sl (by cases he:r.e<;>first | rfl | exact (hnm _ _ he).elim)] at h4;simp only[Option.some.injEq,Prod.mk.injEq] at hx;obtain⟨rfl,rfl,rfl,rfl⟩:=hx;refine⟨(fun k hk=>by rw[List.mem_singleton.1 hk];exact⟨r,hr',hst⟩),by simp,own _ _ _ _ _ _ _ h4 ?_⟩;rw[fpsOf,fpsOf,List.append_nil];exact List.Sublist.refl _
     · split at hx
       · rename_i hst;simp only[Option.some.injEq,Prod.mk.injEq] at hx;obtain⟨rfl,rfl,rfl,rfl⟩:=hx;obtain⟨ad,n,cap,ds',h3,h4,h5,h6,h7,h8⟩:=(h.rw j r v hr' hr.1).2.2 hst;simp at h3 h4;subst h4;refine src_im (S:=Reg c E s w) (fun _ h=>h) ⟨ad,n,cap,h3,h5,h7,fun hn=>?_⟩;obtain⟨b,off,h9,_,h10⟩:=h8 hn;exact⟨b,off,h9,h10⟩
       · cases hx
   · cases hx
 · rename_i j π;split at hx
   · rename_i r hlive;obtain⟨hr',hst⟩:=liveRow_eq hlive;split at hx
     · rename_i tid t ht;simp only[Option.some.injEq,Prod.mk.injEq] at hx;obtain⟨rfl,rfl,rfl,rfl⟩:=hx;obtain⟨F,h4⟩:=h.hs_own hr' hst ht (hp _ (List.mem_singleton.2 rfl));obtain⟨_,rfl,_⟩:=hr;exact ownIm _ _ _ _ _ _ h4
     · cases hx
   · cases hx
 · cases hx
def tyFits (a:Option OT) (b:OT):Bool:=
 match a with
 | some t=>otEq t b
 | none=>true
theorem run_append_room_off {w:World} (t ty e:TypeId) (i:TypeInfo) (ht:P.underlying t=some (.slice e)) (hi:P.info? e=some i)
   (g o sLen sCap:Nat) (cur:Array Value) (hg:w.heap[g]?=some (.cells cur e (0,0)))
   (a:Addr) (m c:Nat) (news:List Value) (hl:news.length=m*i.size) (hnews:∀j u,news[j]?=some u->w.cell? (a.add j)=some u) (h1:∀u∈news,u.oneCell'=true)
   (hroom:sLen+m<=sCap) (hfit:o+sLen*i.size+news.length<=cur.size) :
   (Builtin.append_ #[t,t] ty #[.slice (some ⟨g,o,none⟩) sLen sCap,.slice (some a) m c]).run P w =
     .ok (.slice (some ⟨g,o,none⟩) (sLen+m) sCap) (w.setRow g (cur.toList.take (o+sLen*i.size)++news++cur.toList.drop (o+sLen*i.size+news.length)).toArray):=by
 have hf:=run_firstCells_some (P:=P) w i.size m a m c news hl hnews;have hst:=run_storeCells_at P g (o+sLen*i.size) e news 0 cur w hg (by simpa using hfit) h1;simp only[Nat.add_zero] at hst;simp [Builtin.append_,run_underlying ht,sizeOf,typeInfo,hi,Builtin.lenOf,hroom,hf,Addr.add_lit,hst]
theorem run_append_at {w:World} (t ty e:TypeId) (i:TypeInfo) (z:Value) (ht:P.underlying t=some (.slice e)) (hi:P.info? e=some i) (hz:i.zero=some z)
   (hzs:z.cells.size=i.size) (hsz:0<i.size) (v:Value) (n:Nat) (xs:List Value) (hown:ownsAt w e i.size v n xs)
   (a:Addr) (m c:Nat) (news:List Value) (hl:news.length=m*i.size) (hnews:∀j u,news[j]?=some u->w.cell? (a.add j)=some u) (h1:∀u∈news,u.oneCell'=true)
   (h63:n+m<=maxLen) (hbytes:(n+m)*i.bytes<=140737488355328) :
   ∃v' w',(Builtin.append_ #[t,t] ty #[v,.slice (some a) m c]).run P w=.ok v' w'/\ownsAt w' e i.size v' (n+m) (xs++news)/\w.grownBy w' v.ownBlock/\(v'.ownBlock=v.ownBlock\/v'.ownBlock=some w.heap.size):=by
 have hlen:(xs++news).length=(n+m)*i.size:=by rw[List.length_append,hown.1,hl,Nat.add_mul]
 rcases hown.2 with ⟨rfl,rfl⟩ | ⟨g,o,cap,cur,rfl,hg,hnc,hcm,hcs,htake⟩
 · have hx:xs=[]:=List.eq_nil_of_length_eq_zero (by simpa using hown.1);subst hx;obtain⟨v',w',h2,h3,h4,_,h5⟩:=run_append_own_at (P:=P) w 0 t ty e i z i.size i.bytes ht hi hz rfl rfl hzs hsz (.slice none 0 0) 0 [] (World.ownsRow_nil w 0 e i.size) a m c news hl hnews h1 h63 hbytes (Nat.zero_le _);exact⟨v',w',h2,ownsAt_of h3,h4,h5⟩
 · by_cases hroom:n+m<=cap
   · have hmul:(n+m)*i.size<=cap*i.size:=Nat.mul_le_mul_right _ hroom;rw[Nat.add_mul] at hmul;have hfit:o+n*i.size+news.length<=cur.size:=by rw[hl];omega
     have hr:=run_append_room_off (P:=P) t ty e i ht hi g o n cap cur hg a m c news hl hnews h1 hroom hfit;refine⟨_,_,hr,⟨hlen,.inr ⟨g,o,cap,_,rfl,setRow_heap w g cur _ e _ hg,hroom,hcm,?_,?_⟩⟩,⟨rfl,rfl,rfl,by simp,fun k _ hk=>setRow_other w g k _ (fun e=>hk (by simp [Value.ownBlock,e]))⟩,Or.inl rfl⟩
     · simp only[List.size_toArray,List.length_append,List.length_take,List.length_drop,Array.length_toList];omega
     · rw[<- htake,<- hlen];have e1:cur.toList.take (o+n*i.size)=cur.toList.take o++(cur.toList.drop o).take (n*i.size):=List.take_add ..;have e2:(cur.toList.take o).length=o:=by rw[List.length_take,Array.length_toList];omega
       show ((cur.toList.take (o+n*i.size)++news++_).drop o).take _=_;rw[e1,List.append_assoc,List.append_assoc,List.drop_append,List.drop_eq_nil_of_le (by omega),List.nil_append,e2,Nat.sub_self,List.drop_zero,<- List.append_assoc];rw[htake];exact List.take_left
   · have holds:∀j u,xs[j]?=some u->w.cell? ((⟨g,o,none⟩:Addr).add j)=some u:=fun j u hj=>by
       rw[<- htake,List.getElem?_take] at hj;split at hj
       · rw[List.getElem?_drop] at hj;rw[Addr.add_mid];simp only[World.cell?,hg];simpa using hj
       · cases hj
     have hr:=run_append_grow (P:=P) w t ty e i z ht hi hz ⟨g,o,none⟩ n cap xs hown.1 holds a m c news hl hnews (by omega) (by simp only[maxLen] at h63;omega) (growslice_fits (by omega) hbytes);have hge:=grownCap_ge w (n+m) cap e;have hcm':grownCap w (n+m) cap e<=maxLen:=grownCap_le_maxLen w (n+m) cap e h63;refine⟨_,_,hr,ownsAt_of (base:=0) ⟨hlen,.inr ⟨w.heap.size,_,_,rfl,Nat.zero_le _,heap_alloc_new w.drew _,hge,hcm',?_,?_⟩⟩,⟨rfl,rfl,rfl,by simp,fun k hk _=>heap_alloc_old w.drew _ hk⟩,Or.inr rfl⟩
     · simp only[Array.size_append,List.size_toArray,size_zeroCells,hzs,hown.1,hl,<- Nat.add_mul]
       congr 1
       omega
     · simp only[Array.toList_append,List.append_assoc];rw[<- List.append_assoc,<- hlen];exact List.take_left
theorem run_append_empty {w:World} {t e ty:TypeId} {sz n:Nat} {v:Value} {xs:List Value} {ad:Option Addr} {cap:Nat} (hu:P.underlying t=some (.slice e)) (hs:(P.info? e).map (·.size)=some sz) (h:ownsAt w e sz v n xs) :
   (Builtin.append_ #[t,t] ty #[v,.slice ad 0 cap]).run P w=.ok v w:=by
 obtain⟨i,hi,rfl⟩:=Option.map_eq_some_iff.1 hs;have hf:∀m:Nat,(Builtin.firstCells m 0 (.slice ad 0 cap)).run P w=.ok #[] w:=fun m=>by
   cases ad with
   | none=>rfl
   | some ad=>simp only[Builtin.firstCells,Nat.zero_mul];rfl
 rcases h.2 with ⟨rfl,hn⟩ | ⟨g,o,cap',cur,rfl,_,hnc,_⟩
 · simp [Builtin.append_,run_underlying hu,sizeOf,typeInfo,hi,Builtin.lenOf,hf]
 · simp [Builtin.append_,run_underlying hu,sizeOf,typeInfo,hi,Builtin.lenOf,hf,hnc,storeCells]
def softR (r:Row) (oe:Option OT):Row×List Prop:=
 bif tyFits oe r.e then (r,[]) else (match oe with
   | some t=>bif Nat.beq r.e.size t.size&&!t.isMp then (⟨r.tid,t,[],r.st,r.lt⟩,[r.ds=[]]) else (r,[])
   | none=>(r,[]))
def baseOf (P:Program) (s:St) (e:TypeId) (oe:Option OT) (x:SV):Option (List Nat×Row×List Prop):=
 match x with
 | .nil=>match oe with
   | some t=>some ([],⟨e,t,[],0,false⟩,[])
   | none=>(otOf P 9 e).map fun t=>([],⟨e,t,[],0,false⟩,[])
 | .own j=>match liveRow s j with
   | some r=>bif Nat.beq r.tid e then some ([j],softR r oe) else none
   | none=>none
 | _=>none
def appVC (P:Program) (s:St) (t:TypeId) (x y:SV) (K:SV->St->VC):VC:=
 match P.underlying t with
 | some (.slice e)=>match P.info? e,srcOf s y with
   | some ie,some (ps,oe,ds,ks)=>match ie.zero,baseOf P s e oe x with
     | some z,some (kb,r,qs)=>
       bif Nat.beq r.e.size ie.size&&Nat.beq z.cells.size ie.size&&Nat.blt 0 ie.size&&Nat.blt 0 ie.bytes&&tyFits oe r.e&&nodupN (kb++ks)&&!r.e.isMp then
         .ob (conj (((r.ds.length+ds.length)*ie.bytes<=140737488355328)::(qs++ps))) (K (.own s.rw.length) {s with rw:=killL (kb++ks) s.rw 0++[Row.mk r.tid r.e (r.ds++ds) 0 (anyLtN s (kb++ks))]})
       else .f
     | _,_=>.f
   | _,_=>.f
 | _=>.f
theorem base_rel {c:Ctx} {E:Env} {a:Act} {w:World} (h:Inv c E s a w) {e:TypeId} {oe:Option OT} {x:SV} {v:Value} {kb:List Nat} {r:Row} {qs:List Prop} (hb:baseOf P s e oe x=some (kb,r,qs)) (hp:∀p∈qs,p) (hr:RelV (Reg c E s w) E w x v) :
   r.tid=e/\Lives s kb/\isSlice v/\∃xs F',ownsAt w r.tid r.e.size v r.ds.length xs/\r.ds.length<=140737488355328/\Elems (fun i=>Own (Reg c E s w) w r.e (fun o ρ=>E.nh (kb.getD 0 0) ((i,o)::ρ)) 0) 0 xs r.ds F'/\fpsOf E kb=v.ownBlock.toList++F':=by
 unfold baseOf at hb;split at hb
 · have hv:v=.slice none 0 0:=hr;subst hv;have key:∀t,r=⟨e,t,[],0,false⟩->kb=[]->r.tid=e/\Lives s kb/\isSlice (.slice none 0 0)/\∃xs F',ownsAt w r.tid r.e.size (.slice none 0 0) r.ds.length xs/\r.ds.length<=140737488355328/\Elems (fun i=>Own (Reg c E s w) w r.e (fun o ρ=>E.nh (kb.getD 0 0) ((i,o)::ρ)) 0) 0 xs r.ds F'/\fpsOf E kb=(Value.slice none 0 0).ownBlock.toList++F':=by
     rintro t rfl rfl;exact⟨rfl,(fun j hj=>by cases hj),⟨_,_,_,rfl⟩,[],[],⟨by simp,.inl ⟨rfl,rfl⟩⟩,by simp,⟨rfl,rfl⟩,rfl⟩
   split at hb
   · simp only[Option.some.injEq,Prod.mk.injEq] at hb;exact key _ hb.2.1.symm hb.1.symm
   · obtain⟨t,_,hb⟩:=Option.map_eq_some_iff.1 hb;simp only[Prod.mk.injEq] at hb;exact key _ hb.2.1.symm hb.1.symm
 · rename_i j;split at hb
   · rename_i q hlive;obtain⟨hq,hst⟩:=liveRow_eq hlive;cases ht:Nat.beq q.tid e with
     | false=>rw[ht] at hb;cases hb
     | true=>
       rw[ht] at hb;simp only[cond_true,Option.some.injEq,Prod.mk.injEq] at hb;obtain⟨rfl,hb⟩:=hb;obtain⟨hF,h4⟩:=h.live_own hq hst hr.1;rw[headT_sl (liveRow_mp hlive)] at h4;have hv:=h4.sl_head.1;obtain⟨ds',xs,F',h0,h0',h1,h1',h2,h3⟩:=h4;simp at h0';subst h0';have h1:ownsAt w q.tid q.e.size v q.ds.length xs:=by rw[hv];exact h1
       have h3:E.fp.getD j []=v.ownBlock.toList++F':=by rw[hv];exact h3
       have hsl:isSlice v:=by obtain⟨ad,cap,hvs,_⟩:=slice_of_owns h1;exact⟨_,_,_,hvs⟩
       have hlv:Lives s [j]:=fun k hk=>by rw[List.mem_singleton.1 hk];exact⟨q,hq,hst⟩
       have plain:r=q->r.tid=e/\Lives s [j]/\isSlice v/\∃xs F',ownsAt w r.tid r.e.size v r.ds.length xs/\r.ds.length<=140737488355328/\Elems (fun i=>Own (Reg c E s w) w r.e (fun o ρ=>E.nh ([j].getD 0 0) ((i,o)::ρ)) 0) 0 xs r.ds F'/\fpsOf E [j]=v.ownBlock.toList++F':=by
         rintro rfl;refine⟨Nat.eq_of_beq_eq_true ht,hlv,hsl,xs,F',h1,h1',h2,?_⟩;rw[fpsOf,fpsOf,List.append_nil];exact h3
       unfold softR at hb;cases hf:tyFits oe q.e with
       | true=>rw[hf] at hb;simp only[cond_true,Prod.mk.injEq] at hb;exact plain hb.1.symm
       | false=>
         rw[hf] at hb;simp only[cond_false] at hb;split at hb
         · rename_i t;cases hz:Nat.beq q.e.size t.size&&!t.isMp with
           | false=>rw[hz] at hb;simp only[cond_false,Prod.mk.injEq] at hb;exact plain hb.1.symm
           | true=>
             rw[hz] at hb;simp only[Bool.and_eq_true] at hz;simp only[cond_true,Prod.mk.injEq] at hb;obtain⟨rfl,rfl⟩:=hb;have he:q.ds=[]:=hp _ (List.mem_singleton.2 rfl);rw[he] at h1 h2;obtain⟨hx,hF'⟩:=h2;subst hx;subst hF';refine⟨Nat.eq_of_beq_eq_true ht,hlv,hsl,[],[],?_,by simp,⟨rfl,rfl⟩,?_⟩
             · rw[<- Nat.eq_of_beq_eq_true hz.1];exact h1
             · rw[fpsOf,fpsOf,List.append_nil];exact h3
         · simp only[Prod.mk.injEq] at hb;exact plain hb.1.symm
   · cases hb
 · cases hb
theorem Inv.appendRow {c:Ctx} {E:Env} {s:St} {a:Act} {w w':World} (h:Inv c E s a w) {kb ks:List Nat} {r:Row} {ds:List Dat} {v v':Value} {xs ys:List Value} {F F2:List Nat} {Hs:Nat->Hd}
   (hmp:r.e.isMp=false) (hlb:Lives s kb) (hls:Lives s ks) (hnd:(kb++ks).Nodup) (hown:ownsAt w' r.tid r.e.size v' (r.ds.length+ds.length) (xs++ys)) (hsl:isSlice v') (hlen:r.ds.length+ds.length<=140737488355328)
   (hel:Elems (fun i=>Own (Reg c E s w) w r.e (fun o ρ=>E.nh (kb.getD 0 0) ((i,o)::ρ)) 0) 0 xs r.ds F) (hfp:fpsOf E kb=v.ownBlock.toList++F) (hel2:Elems (fun k=>Own (Reg c E s w) w r.e (Hs k) 0) 0 ys ds F2) (hsub:F2.Sublist (fpsOf E ks))
   (hg:w.grownBy w' v.ownBlock) (hat:v'.ownBlock=v.ownBlock\/v'.ownBlock=some w.heap.size) :
   Inv c (E.addR v' (v'.ownBlock.toList++(F++F2)) (headOf v' (fun i=>if i<r.ds.length then (fun o ρ=>E.nh (kb.getD 0 0) ((i,o)::ρ)) else Hs (i-r.ds.length)))) {s with rw:=killL (kb++ks) s.rw 0++[Row.mk r.tid r.e (r.ds++ds) 0 (anyLtN s (kb++ks))]} a w':=by
 have hl:Lives s (kb++ks):=fun j hj=>(List.mem_append.1 hj).elim (hlb j) (hls j)
 have hmem:=fun b hb=>fpsOf_mem h (b:=b) hl hb
 have hndF:=fpsOf_nodup h hl hnd;rw[fpsOf_append,hfp] at hndF;have hF2:∀b∈F2,b∈fpsOf E ks:=fun b hb=>hsub.mem hb
 have hin:∀b,b∈F++F2->b∈fpsOf E (kb++ks):=by
   intro b hb;rw[fpsOf_append,hfp];rcases List.mem_append.1 hb with hb | hb
   · exact List.mem_append_left _ (List.mem_append_right _ hb)
   · exact List.mem_append_right _ (hF2 b hb)
 have hlt:∀b,b∈fpsOf E (kb++ks)->b<w.heap.size:=by
   intro b hb;obtain⟨j,k,q,_,_,h3⟩:=hmem b hb;exact h.own_lt h3
 have hndS:(v.ownBlock.toList++(F++F2)).Nodup:=by
   refine List.Nodup.sublist ?_ hndF;rw[List.append_assoc];exact (List.Sublist.refl _).append ((List.Sublist.refl _).append hsub)
 have hne:∀b∈F++F2,some b≠v.ownBlock:=by
   intro b hb e;obtain⟨_,_,h3⟩:=List.nodup_append.1 hndS;exact h3 b (by rw[<- e];simp) b hb rfl
 have hkeep:∀b∈F++F2,w'.heap[b]?=w.heap[b]?:=fun b hb=>hg.block b (hlt b (hin b hb)) (hne b hb)
 refine h.regrow (w':=w') hg.os hg.tape hg.output hg.size (kb++ks) (fun b hb hno=>hg.block b hb (fun e=>?_)) (fun b hb=>?_) ?_ ?_
 · have hbm:b∈fpsOf E (kb++ks):=by
     rw[fpsOf_append,hfp];exact List.mem_append_left _ (List.mem_append_left _ (by rw[<- e];simp))
   obtain⟨j,k,q,h1,_,h3⟩:=hmem b hbm;exact hno j k (hasN_of h1) h3
 · have hcase:b=w.heap.size\/b∈fpsOf E (kb++ks):=by
     rcases List.mem_append.1 hb with hb | hb
     · rcases hat with hat | hat
       · rw[hat] at hb
         right
         rw[fpsOf_append,hfp];exact List.mem_append_left _ (List.mem_append_left _ hb)
       · rw[hat] at hb;simp at hb;exact .inl hb
     · exact .inr (hin b hb)
   rcases hcase with rfl | hb
   · exact .inl (Nat.le_refl _)
   · obtain⟨j,k,q,h1,h2,h3⟩:=hmem b hb;exact .inr ⟨j,k,q,hasN_of h1,h3,h2,fun hlt=>anyLtN_get hlt j q h1 h2⟩
 · rcases hat with hat | hat
   · rw[hat];exact hndS
   · rw[hat];obtain⟨_,h2,_⟩:=List.nodup_append.1 hndS;refine List.nodup_cons.2 ⟨fun hb=>?_,h2⟩
     have:=hlt _ (hin _ hb)
     omega
 · intro hK hS;have hlr:s.rw.length=E.rw.length:=h.nrw.symm;refine⟨.inl hsl,fun _=>⟨v'.ownBlock.toList++(F++F2),by simp only[Env.addR];rw[<- h.nfp];simp,?_⟩,fun h=>by cases h⟩;generalize hHH:headOf v' (fun i=>if i<r.ds.length then (fun o ρ=>E.nh (kb.getD 0 0) ((i,o)::ρ)) else Hs (i-r.ds.length))=HH;have hnh:(E.addR v' (v'.ownBlock.toList++(F++F2)) HH).nh s.rw.length=HH:=by
     simp only[Env.addR,hlr,if_true]
   rw[hnh,headT_sl hmp];subst hHH;generalize hS':Reg c (E.addR v' (v'.ownBlock.toList++(F++F2)) (headOf v' (fun i=>if i<r.ds.length then (fun o ρ=>E.nh (kb.getD 0 0) ((i,o)::ρ)) else Hs (i-r.ds.length)))) {s with rw:=killL (kb++ks) s.rw 0++[Row.mk r.tid r.e (r.ds++ds) 0 (anyLtN s (kb++ks))]} w'=S' at *
   have e1:Elems (fun i=>Own S' w' r.e (Hd.at (fun _=>headOf v' (fun i=>if i<r.ds.length then (fun o ρ=>E.nh (kb.getD 0 0) ((i,o)::ρ)) else Hs (i-r.ds.length))) 0 i) 0) 0 xs r.ds F:=by
     refine hel.imp (fun i x d G _ hi hG hq=>hq.mono hK hS (fun o ρ _ _=>?_) (fun b hb=>hkeep b (List.mem_append_left _ (hG b hb))));show (if i<r.ds.length then (fun o ρ=>E.nh (kb.getD 0 0) ((i,o)::ρ)) else Hs (i-r.ds.length)) o ρ=_;rw[if_pos (by omega)]
   have e2:Elems (fun i=>Own S' w' r.e (Hd.at (fun _=>headOf v' (fun i=>if i<r.ds.length then (fun o ρ=>E.nh (kb.getD 0 0) ((i,o)::ρ)) else Hs (i-r.ds.length))) 0 i) 0) (0+r.ds.length) ys ds F2:=by
     have e3:Elems (fun k=>Own S' w' r.e (Hs k) 0) 0 ys ds F2:=hel2.imp (fun i x d G _ _ hG hq=>hq.mono hK hS (fun _ _ _ _=>rfl) (fun b hb=>hkeep b (List.mem_append_right _ (hG b hb))));refine Elems.shift (m:=r.ds.length) (fun i x d G hq=>?_) e3;refine Own.mono (H:=Hs i) (fun _ _=>rfl) (fun _ h=>h) (fun o ρ _ _=>?_) (fun _ _=>rfl) hq;show (if i+r.ds.length<r.ds.length then (fun o ρ=>E.nh (kb.getD 0 0) ((i+r.ds.length,o)::ρ)) else Hs (i+r.ds.length-r.ds.length)) o ρ=_;rw[if_neg (by omega),Nat.add_sub_cancel]
   exact⟨r.ds++ds,xs++ys,F++F2,rfl,rfl,by rw[List.length_append];exact hown,by rw[List.length_append];exact hlen,e1.append e2,rfl⟩
theorem appendRow_goes {c:Ctx} {E:Env} {s:St} {a:Act} {w w':World} (h:Inv c E s a w) {kb ks:List Nat} (r:Row) {v v':Value} {F F2:List Nat} (H:Path->Value)
   (hlb:Lives s kb) (hls:Lives s ks) (hfp:fpsOf E kb=v.ownBlock.toList++F) (hsub:F2.Sublist (fpsOf E ks)) (hg:w.grownBy w' v.ownBlock) (hat:v'.ownBlock=v.ownBlock\/v'.ownBlock=some w.heap.size) :
   Goes c E s w (E.addR v' (v'.ownBlock.toList++(F++F2)) H) {s with rw:=killL (kb++ks) s.rw 0++[r]} w':=by
 have hl:Lives s (kb++ks):=fun j hj=>(List.mem_append.1 hj).elim (hlb j) (hls j)
 have hmem:=fun b hb=>fpsOf_mem h (b:=b) hl hb
 refine regrow_goes h hg.size (kb++ks) (fun b hb hno=>hg.block b hb (fun e=>?_)) r v' H (fun b hb=>?_)
 · have hbm:b∈fpsOf E (kb++ks):=by
     rw[fpsOf_append,hfp];exact List.mem_append_left _ (List.mem_append_left _ (by rw[<- e];simp))
   obtain⟨j,k,q,h1,_,h3⟩:=hmem b hbm;exact hno j k (hasN_of h1) h3
 · have hcase:b=w.heap.size\/b∈fpsOf E (kb++ks):=by
     rw[fpsOf_append,hfp];rcases List.mem_append.1 hb with hb | hb
     · rcases hat with hat | hat
       · rw[hat] at hb;exact .inr (List.mem_append_left _ (List.mem_append_left _ hb))
       · rw[hat] at hb;simp at hb;exact .inl hb
     · rcases List.mem_append.1 hb with hb | hb
       · exact .inr (List.mem_append_left _ (List.mem_append_right _ hb))
       · exact .inr (List.mem_append_right _ (hsub.mem hb))
   rcases hcase with rfl | hb
   · exact .inl (Nat.le_refl _)
   · obtain⟨j,k,q,_,_,h3⟩:=hmem b hb;exact .inr ⟨_,h3⟩
theorem app_core {t:TypeId} {x y:Operand} (ho:o.op=.call { callee:=.builtin .append,args:=#[x,y],argTypes:=#[t,t]}) {X Y:SV} {K:SV->St->VC} (hv:(appVC P s t X Y K).den) {c:Ctx} {E:Env} {a:Act} {w:World} (h:Inv c E s a w) (h1:RelV (Reg c E s w) E w X (a.eval x)) (h2:RelV (Reg c E s w) E w Y (a.eval y)) {next:Act->World->Prop} {Q:Exit->Act->World->Prop}
   (hnext:∀x s' E' u w' js,(K x s').den->Inv c E' s' a w'->RelV (Reg c E' s' w') E' w' x u->E.led E' js->Goes c E s w E' s' w'->(quiet o.op=true->js=[])->next (a.put o.dst u) w'):o.wp P a w next Q:=by
 unfold appVC at hv;split at hv
 · rename_i e hu;split at hv
   · rename_i ie ps oe ds ks hie hsrc;split at hv
     · rename_i z kb r qs hz hbase;generalize hcond:(Nat.beq r.e.size ie.size&&Nat.beq z.cells.size ie.size&&Nat.blt 0 ie.size&&Nat.blt 0 ie.bytes&&tyFits oe r.e&&nodupN (kb++ks)&&!r.e.isMp)=cond at hv;cases cond with
       | false=>exact hv.elim
       | true=>
         simp only[Bool.and_eq_true] at hcond;obtain⟨⟨⟨⟨⟨⟨c1,c2⟩,c3⟩,c4⟩,c5⟩,c6⟩,c7⟩:=hcond;have c7:r.e.isMp=false:=by simpa using c7
         have c1:r.e.size=ie.size:=Nat.eq_of_beq_eq_true c1;have c2:z.cells.size=ie.size:=Nat.eq_of_beq_eq_true c2;have c3:0<ie.size:=Nat.le_of_ble_eq_true c3;have c4:0<ie.bytes:=Nat.le_of_ble_eq_true c4;have c6:=nodupN_ok c6;obtain⟨hob,hv⟩:=hv;have hall:=conj_mem hob;have hb:(r.ds.length+ds.length)*ie.bytes<=140737488355328:=hall _ (List.mem_cons_self ..);have hlen:r.ds.length+ds.length<=140737488355328:=Nat.le_trans (Nat.le_mul_of_pos_right _ c4) hb;obtain⟨hlives,_,ad,cap,hyv,hm,hsrc'⟩:=src_rel h hsrc (fun p hp=>hall p (List.mem_cons_of_mem _ (List.mem_append_right _ hp))) h2;obtain⟨rfl,hlb,hslv,xs,F',hown,_,hel,hfp⟩:=base_rel h hbase (fun p hp=>hall p (List.mem_cons_of_mem _ (List.mem_append_left _ hp))) h1
         have hrunOf:∀v' w',(Builtin.append_ #[t,t] o.type #[a.eval x,.slice ad ds.length cap]).run P w=.ok v' w'->(execOp a.eval o).run P w=.ok (.value v') w':=by
           intro v' w' hr;unfold execOp;rw[ho];simp only[resolve,invoke,builtin,pure_bind,List.map_toArray,List.map_cons,List.map_nil,hyv];exact run_buildVal hr
         have hfin:∀(v':Value) (w':World) (ys:List Value) (Hs:Nat->Hd) (F2:List Nat),(Builtin.append_ #[t,t] o.type #[a.eval x,.slice ad ds.length cap]).run P w=.ok v' w'->ownsAt w' r.tid r.e.size v' (r.ds.length+ds.length) (xs++ys)->w.grownBy w' (a.eval x).ownBlock->(v'.ownBlock=(a.eval x).ownBlock\/v'.ownBlock=some w.heap.size)->
             Elems (fun k=>Own (Reg c E s w) w r.e (Hs k) 0) 0 ys ds F2->F2.Sublist (fpsOf E ks)->o.wp P a w next Q:=by
           intro v' w' ys Hs F2 hr hown' hg hat hy hsub;unfold Oper.wp;rw[hrunOf v' w' hr,Oper.upon_value];have hsl:isSlice v':=by
             rcases hown'.2 with ⟨rfl,_⟩ | ⟨g,oo,cap,cur,rfl,_⟩
             · exact⟨_,_,_,rfl⟩
             · exact⟨_,_,_,rfl⟩
           have h9:=h.appendRow c7 hlb hlives c6 hown' hsl hlen hel hfp hy hsub hg hat;exact hnext _ _ _ _ _ [] hv h9 ⟨row_len h _,.inl hsl⟩ (E.le_row _ _ _).led (appendRow_goes h _ _ hlb hlives hfp hsub hg hat) (fun _=>rfl)
         rcases hsrc' with rfl | ⟨e',b,off,ys,Hs,F2,rfl,rfl,hyl,hyr,hyd,hsub⟩
         · exact hfin _ w [] (fun _ _ _=>undef) [] (run_append_empty hu (by rw[hie];simp [c1]) hown) (by simpa using hown) (World.grownBy.refl w _) (.inl rfl) ⟨rfl,rfl⟩ (List.nil_sublist _)
         · have he:e'=r.e:=otEq_eq c5;subst he;obtain⟨v',w',hr,h3,h4,h5⟩:=run_append_at (P:=P) (w:=w) t o.type r.tid ie z hu hie hz c2 c3 (a.eval x) r.ds.length xs (by rw[<- c1];exact hown) ⟨b,off,none⟩ ds.length cap ys (by rw[hyl,c1]) (fun k u hu=>by rw[Addr.add_mid];exact hyr k u hu) (elems_one (fun i x d F hq=>own_one hq) hyd)
             (by simp only[maxLen];omega) hb
           rw[<- c1] at h3;exact hfin v' w' ys Hs F2 hr h3 h4 h5 hyd hsub
     · exact hv.elim
   · exact hv.elim
 · exact hv.elim
def textOf (ds:List Dat):ByteArray:=⟨(ds.map fun d=>UInt8.ofNat d.toInt.toNat).toArray⟩
def bytesR (P:Program) (s:St) (src dst:TypeId) (x:SV):R:=
 match P.underlying src,P.underlying dst,srcOf s x with
 | some (.slice e),some .string,some (ps,ty,ds,_)=>match P.underlying e with
   | some (.int .u8)=>bif tyFits ty (.im (.int .u8)) then R.ask (conj ((ds.length<=140737488351232)::ps)) (.str (textOf ds)) else none
   | _=>none
 | _,_,_=>none
theorem gives_bytes {src dst:TypeId} {x:Operand} (ho:o.op=.convert src dst x):Gives P o s (bytesR P s src dst (s.ev x)):=by
 intro q z hq hb c E a w h;unfold bytesR at hq;split at hq
 · rename_i e ps ty ds ks hus hud hsrc;split at hq
   · rename_i hue;generalize hcond:tyFits ty (.im (.int .u8))=cond at hq;cases cond with
     | false=>cases hq
     | true=>
       simp only[cond_true,R.ask,Option.some.injEq,Prod.mk.injEq] at hq;obtain⟨rfl,rfl⟩:=hq;simp only[met] at hb;have hall:=conj_mem hb;obtain⟨_,_,ad,cap,hxv,hm,hsrc'⟩:=src_rel h hsrc (fun p hp=>hall p (List.mem_cons_of_mem _ hp)) (h.ev x);have hrun:(convert src dst (.slice ad ds.length cap)).run P w=.ok (.string (textOf ds)) w:=by
         rcases hsrc' with rfl | ⟨e',b,off,ys,Hs,F2,he',had,hyl,hyr,hyd,_⟩
         · cases ad with
           | none=>exact run_convert_bytes_nil w src e hus hue 0 cap dst hud
           | some ad=>
             obtain⟨b,off,sp⟩:=ad;simp only[convert,Sem.run_bind,run_underlying hus,run_underlying hud,run_underlying hue,Result.andThen_ok];rfl
         · subst he';have he:e'=.im (.int .u8):=otEq_eq hcond;subst he;subst had;have hyd:=(elems_im_inv hyd).2;have hcell:∀i,i<ds.length->w.cell? ⟨b,off+i,none⟩=some (.int .u8 ((ds.map Dat.toInt).getD i 0)):=by
             intro i hi;have h9:=hyd i _ (List.getElem?_eq_getElem hi);obtain⟨n,h10,h11,_⟩:=h9;simp only[Ty.size,Nat.mul_one] at h10;have h12:ys[i]?=some (.int .u8 n):=by
               have:=congrArg (·[0]?) h10
               simpa [List.getElem?_take,List.getElem?_drop] using this
             have h13:=hyr i _ h12;rw[h13];simp [List.getD_eq_getElem?_getD,List.getElem?_eq_getElem hi,h11,Dat.toInt]
           have:=run_convert_bytes_arg (P:=P) w src e hus hue b off ds.length cap (ds.map Dat.toInt) (by simp) (fun i hi=>hcell i hi) dst hud
           rw[this];simp only[textOf,strOfNums,List.map_map,Function.comp_def]
       refine⟨.string (textOf ds),?_,rfl,?_⟩
       · unfold execOp;rw[ho];exact run_buildVal (by rw[hxv];exact hrun)
       · show (List.map _ ds).toArray.size<=_;simpa using hall _ (List.mem_cons_self ..)
   · cases hq
 · cases hq
end
end
section
def intFs (P:Program):List Field->Nat->Option (List IntKind)
 | [],_=>some []
 | f::fs,n=>bif f.name == "_" ||!Nat.beq f.offset n then none else match P.underlying f.type with
   | some (.int k)=>match intFs P fs (n+1) with
     | some ks=>some (k::ks)
     | none=>none
   | _=>none
def keyK (P:Program) (t:TypeId):Option (List IntKind):=
 match P.underlying t with
 | some (.struct fs)=>bif P.stoodInHeld t then none else intFs P fs.toList 0
 | _=>none
def kints:List IntKind->List Int->List Value
 | k::ks,n::ns=>.int k n::kints ks ns
 | _,_=>[]
def keyT (ks:List IntKind):Ty:=.st (ks.map .int)
theorem reps_ints {S:Nat->Prop} {w:World}:∀{ks:List IntKind} {cs:List Value} {ds:List Dat},Reps S w (ks.map .int) cs ds->∃ns:List Int,ns.length=ks.length/\cs=kints ks ns/\ds=ns.map .int
 | [],_,_,⟨h1,h2⟩=>⟨[],rfl,h1,h2⟩
 | k::ks,_,_,⟨c1,c2,d1,d2,h1,h2,⟨n,h3,h4,_⟩,h6⟩=>by
   obtain⟨ns,k1,k2,k3⟩:=reps_ints h6;subst h1;subst h2;subst h3;subst h4;subst k2;subst k3;exact⟨n::ns,by simp [k1],rfl,rfl⟩
theorem keyIs_ints {ks:List IntKind} {v:Value} {d:Dat} (h:KeyIs (keyT ks) v d):∃ns:List Int,ns.length=ks.length/\v=.agg (kints ks ns).toArray/\d=.node (ns.map .int):=by
 obtain⟨cs,rfl,h⟩:=h;obtain⟨ds,h1,h2⟩:=h (fun _=>False) {(default:World) with heap:=#[]};obtain⟨ns,h3,h4,h5⟩:=reps_ints h2;exact⟨ns,h3,by rw[h4],by rw[h1,h5]⟩
theorem map_int_inj:∀{a b:List Int},a.map Dat.int=b.map Dat.int->a=b
 | [],b,h=>by cases b<;>simp at h;rfl
 | x::a,b,h=>by
   cases b with
   | nil=>simp at h
   | cons y b=>
     simp only[List.map_cons,List.cons.injEq,Dat.int.injEq] at h;rw[h.1,map_int_inj h.2]
theorem ints_drop {us:List Value} {n:Nat} {k:IntKind} {ks:List IntKind} {x:Int} {ns:List Int} (h:us.drop n=kints (k::ks) (x::ns)):us[n]?=some (.int k x)/\us.drop (n+1)=kints ks ns:=by
 constructor
 · have:=congrArg (·[0]?) h
   simpa [kints,List.getElem?_drop] using this
 · have:=congrArg (List.drop 1) h
   rw[List.drop_drop] at this;simpa [kints] using this
section
variable {P:Program} {w:World}
theorem eq_ints (q:Nat):∀{fs:List Field} {n:Nat} {ks:List IntKind} {us vs:List Value} {ns ms:List Int},intFs P fs n=some ks->ns.length=ks.length->ms.length=ks.length->us.drop n=kints ks ns->vs.drop n=kints ks ms->
   (Op.eqFields (q+1) us.toArray vs.toArray fs).run P w=.ok (decide (ns=ms)) w
 | [],n,ks,us,vs,ns,ms,h,h1,h2,_,_=>by
   simp [intFs] at h;subst h
   have:=List.eq_nil_of_length_eq_zero h1
   have:=List.eq_nil_of_length_eq_zero h2
   subst_vars
   simp [Op.eqFields]
 | f::fs,n,ks,us,vs,ns,ms,h,h1,h2,h3,h4=>by
   unfold intFs at h;cases hf:f.name == "_" ||!Nat.beq f.offset n with
   | true=>rw[hf] at h;cases h
   | false=>
     rw[hf] at h;simp only[Bool.or_eq_false_iff,Bool.not_eq_false'] at hf;have ho:f.offset=n:=Nat.eq_of_beq_eq_true hf.2;have hn:¬f.name= "_" :=by simpa using hf.1
     simp only[cond_false] at h;split at h
     · rename_i k hu;split at h
       · rename_i ks' hks;simp at h;subst h;cases ns with
         | nil=>simp at h1
         | cons x ns=>
           cases ms with
           | nil=>simp at h2
           | cons y ms=>
             obtain⟨h5,h6⟩:=ints_drop h3;obtain⟨h7,h8⟩:=ints_drop h4;have p1:=part_one (P:=P) (w:=w) (vs:=us) (off:=f.offset) hu rfl (by rw[ho];exact h5);have p2:=part_one (P:=P) (w:=w) (vs:=vs) (off:=f.offset) hu rfl (by rw[ho];exact h7);have ih:=eq_ints q hks (by simpa using h1) (by simpa using h2) h6 h8;simp only[Op.eqFields,ne_eq,hn,not_false_eq_true,if_true,Sem.run_bind,p1,p2,Result.andThen_ok,run_equalIn_int w q f.type k k x y hu];by_cases e:x=y
             · subst e;simp [ih]
             · simp [e]
       · cases h
     · cases h
theorem keyK_eq {t:TypeId} {ks:List IntKind} (h:keyK P t=some ks):∃fs,P.underlying t=some (.struct fs)/\P.stoodInHeld t=false/\intFs P fs.toList 0=some ks:=by
 unfold keyK at h;split at h
 · rename_i fs hu;cases hs:P.stoodInHeld t with
   | true=>rw[hs] at h;cases h
   | false=>rw[hs] at h;exact⟨fs,hu,rfl,h⟩
 · cases h
theorem run_equal_key {t:TypeId} {ks:List IntKind} (h:keyK P t=some ks) {ns ms:List Int} (h1:ns.length=ks.length) (h2:ms.length=ks.length):(Op.equal t (.agg (kints ks ns).toArray) (.agg (kints ks ms).toArray)).run P w=.ok (decide (ns=ms)) w:=by
 obtain⟨fs,hu,hs,hi⟩:=keyK_eq h;have hfs:P.fieldsOf t=fs:=by unfold Program.fieldsOf;rw[hu]
 show (Op.equalIn 10000 t _ _).run P w=_;rw[run_equalIn_struct w 9999 t _ _ (by rw[hfs];exact hu) hs,hfs];exact eq_ints 9998 hi h1 h2 rfl rfl
theorem run_check_key {t:TypeId} {ks:List IntKind} (h:keyK P t=some ks) {ns:List Int} (h1:ns.length=ks.length) (em:Bool):(Instr.checkKey em 10000 t (.agg (kints ks ns).toArray)).run P w=.ok () w:=by
 obtain⟨fs,hu,hs,hi⟩:=keyK_eq h;show (Instr.checkKey em (9999+1) t _).run P w=_;unfold Instr.checkKey;simp only[Sem.run_bind,run_underlying hu,Result.andThen_ok];rw[<- Array.forIn_toList];have key:∀(L:List Field) (n:Nat) (us:List Value) (ks:List IntKind) (ns:List Int),intFs P L n=some ks->ns.length=ks.length->us.drop n=kints ks ns->
     (forIn L PUnit.unit (fun f (_:PUnit)=>if f.name≠ "_" then (do
       let x <- part f.type us.toArray f.offset
       Instr.checkKey em 9999 f.type x
       pure (ForInStep.yield PUnit.unit):Sem (ForInStep PUnit)) else pure (ForInStep.yield PUnit.unit))).run P w=.ok PUnit.unit w:=by
   intro L
   induction L with
   | nil=>intro n us ks ns _ _ _;simp
   | cons f L ih=>
     intro n us ks ns h h1 h3;unfold intFs at h;cases hf:f.name == "_" ||!Nat.beq f.offset n with
     | true=>rw[hf] at h;cases h
     | false=>
       rw[hf] at h;simp only[Bool.or_eq_false_iff,Bool.not_eq_false'] at hf;have ho:f.offset=n:=Nat.eq_of_beq_eq_true hf.2;have hn:¬f.name= "_" :=by simpa using hf.1
       simp only[cond_false] at h;split at h
       · rename_i k hu;split at h
         · rename_i ks' hks;simp at h;subst h;cases ns with
           | nil=>simp at h1
           | cons x ns=>
             obtain⟨h5,h6⟩:=ints_drop h3;have p1:=part_one (P:=P) (w:=w) (vs:=us) (off:=f.offset) hu rfl (by rw[ho];exact h5);have p2:(Instr.checkKey em 9999 f.type (.int k x)).run P w=.ok () w:=MapKept.run_checkKey (d:=.int k) hu (by simp [MapKept.IsKey]) em 9998;simp only[List.forIn_cons,Sem.run_bind,hn,ne_eq,not_false_eq_true,if_true,Result.andThen_ok,p1,p2,Sem.run_pure];exact ih (n+1) us ks' ns hks (by simpa using h1) h6
         · cases h
       · cases h
 rw[key fs.toList 0 (kints ks ns) ks ns hi h1 rfl];rfl
theorem zip_all_same:∀{ks:List IntKind} {ns:List Int} (n:Nat),(((kints ks ns).zip (kints ks ns)).all fun (x,y)=>Instr.sameBits (n+1) x y)=true
 | [],_,_=>by simp [kints]
 | _::_,[],_=>by simp [kints]
 | k::ks,x::ns,n=>by
   have:=zip_all_same (ks:=ks) (ns:=ns) n
   simp only[kints,List.zip_cons_cons,List.all_cons,Bool.and_eq_true];exact⟨by simp [Instr.sameBits],this⟩
theorem run_stays {ks:List IntKind} {ns:List Int}:(Instr.keyThatStays (.agg (kints ks ns).toArray) (.agg (kints ks ns).toArray)).run P w=.ok (.agg (kints ks ns).toArray) w:=by
 have hs:Instr.sameBits 10000 (.agg (kints ks ns).toArray) (.agg (kints ks ns).toArray)=true:=by
   show Instr.sameBits (9999+1) _ _=true;simp only[Instr.sameBits,beq_self_eq_true,Bool.true_and];exact zip_all_same (ks:=ks) (ns:=ns) 9998
 simp [Instr.keyThatStays,hs]
end
open Classical in
def mfind:List Dat->Dat->Option Nat
 | [],_=>none
 | d::ds,k=>if d.f 0=k then some 0 else (mfind ds k).map (·+1)
theorem mfind_lt:∀{ds:List Dat} {k:Dat} {i:Nat},mfind ds k=some i->i<ds.length/\(ds.getD i default).f 0=k
 | [],_,_,h=>by cases h
 | d::ds,k,i,h=>by
   unfold mfind at h;split at h
   · rename_i e;simp at h;subst h;exact⟨by simp,e⟩
   · obtain⟨j,hj,rfl⟩:=Option.map_eq_some_iff.1 h;obtain⟨h1,h2⟩:=mfind_lt hj;exact⟨by simp;omega,by simpa using h2⟩
def mval (ds:List Dat) (k z:Dat):Dat:=match mfind ds k with
 | some i=>(ds.getD i default).f 1
 | none=>z
def mhas (ds:List Dat) (k:Dat):Bool:=(mfind ds k).isSome
def mput (ds:List Dat) (k x:Dat):List Dat:=match mfind ds k with
 | some i=>ds.set i (.node [(ds.getD i default).f 0,x])
 | none=>ds++[.node [k,x]]
def mdel (ds:List Dat) (k:Dat):List Dat:=match mfind ds k with
 | some i=>ds.eraseIdx i
 | none=>ds
theorem KeysAre.get {k:Ty}:∀{es:List MapEntry} {ds:List Dat} {i:Nat} {m:MapEntry},KeysAre k es ds->es[i]?=some m->KeyIs k m.key ((ds.getD i default).f 0)
 | [],_,_,_,_,h=>by simp at h
 | m0::es,_,0,m,⟨kd,vd,ds',h1,h2,h3⟩,h=>by
   subst h1;simp at h;subst h;exact h2
 | m0::es,_,i+1,m,⟨kd,vd,ds',h1,h2,h3⟩,h=>by
   subst h1
   have:=h3.get (i:=i) (m:=m) (by simpa using h)
   simpa using this
theorem run_find {P:Program} {w:World} {t:TypeId} {ks:List IntKind} (hk:keyK P t=some ks) {x:Value} {kd:Dat} (hx:KeyIs (keyT ks) x kd):∀{es:List MapEntry} {ds:List Dat} (i:Nat),KeysAre (keyT ks) es ds->
   (Instr.findAsking t x es i).run P w=.ok ((mfind ds kd).map fun j=>(i+j,(es.getD j default).val)) w
 | [],ds,i,h=>by
   rw[show ds=[] from h];simp [Instr.findAsking,mfind]
 | m::es,_,i,⟨kd',vd,ds',h1,h2,h3⟩=>by
   subst h1;obtain⟨ns,k1,rfl,rfl⟩:=keyIs_ints hx;obtain⟨ms,k3,k4,rfl⟩:=keyIs_ints h2;have he:=run_equal_key (P:=P) (w:=w) hk k1 k3;have ih:=run_find (w:=w) hk hx (i+1) h3;simp only[Instr.findAsking,k4,Sem.run_bind,he,Result.andThen_ok];by_cases e:ns=ms
   · subst e;have hf:mfind (Dat.node [Dat.node (ns.map .int),vd]::ds') (Dat.node (ns.map .int))=some 0:=by
       unfold mfind;exact if_pos rfl
     rw[hf];simp
   · have hf:mfind (Dat.node [Dat.node (ms.map .int),vd]::ds') (Dat.node (ns.map .int))=(mfind ds' (Dat.node (ns.map .int))).map (·+1):=by
       conv=>lhs;unfold mfind
       refine if_neg (fun h=>?_);have h:Dat.node (ms.map .int)=Dat.node (ns.map .int):=h;injection h with h
       exact e (map_int_inj h).symm
     rw[hf];simp only[e,decide_false,Bool.false_eq_true,if_false,ih];cases mfind ds' (Dat.node (ns.map .int)) with
     | none=>rfl
     | some j=>simp [Nat.add_assoc,Nat.add_comm 1 j]
theorem run_findKey_map {P:Program} {w:World} {t:TypeId} {ks:List IntKind} (hk:keyK P t=some ks) {x:Value} {kd:Dat} (hx:KeyIs (keyT ks) x kd) {es:List MapEntry} {ds:List Dat} (h:KeysAre (keyT ks) es ds) :
   (Instr.findKey t x es).run P w=.ok ((mfind ds kd).map fun j=>(j,(es.getD j default).val)) w:=by
 obtain⟨fs,hu,_⟩:=keyK_eq hk;rw[run_findKey_eq w (by rw[hu]),run_find hk hx 0 h];simp
mutual
theorem pruneV_nil:∀x:SV,pruneV [] x=x
 | .hs _ π=>by cases π<;>rfl
 | .rp _ π _ _ _=>by cases π<;>rfl
 | .agg l=>by rw[pruneV,pruneVs_nil l]
 | .tup l=>by rw[pruneV,pruneVs_nil l]
 | .fn _ l=>by rw[pruneV,pruneVs_nil l]
 | .ifc _ l=>by rw[pruneV,pruneVs_nil l]
 | .bf _ l=>by rw[pruneV,pruneVs_nil l]
 | .un=>rfl
 | .tt=>rfl
 | .ff=>rfl
 | .int _ _=>rfl
 | .bool _=>rfl
 | .str _=>rfl
 | .raw _=>rfl
 | .nil=>rfl
 | .sl _ _=>rfl
 | .own _=>rfl
 | .bp _ _=>rfl
 | .ptr _ _ _=>rfl
 | .nilp=>rfl
 | .bsl _ _=>rfl
 | .bptr _ _ _=>rfl
 | .arr _ _=>rfl
theorem pruneVs_nil:∀l:List SV,pruneVs [] l=l
 | []=>rfl
 | x::l=>by rw[pruneVs,pruneV_nil x,pruneVs_nil l]
end
section
variable {c:Ctx} {E E':Env} {s s':St} {a:Act} {w w':World}
theorem led0_rel {S S':Nat->Prop} (hE:E.led E' []) (hk:Keeps S w w') (hS:∀b,S b->S' b) {x:SV} {v:Value} (h:RelV S E w x v):RelV S' E' w' x v:=by
 have:=pruneV_rel hE hk hS h
 rwa [pruneV_nil] at this
theorem led0_rels {S S':Nat->Prop} (hE:E.led E' []) (hk:Keeps S w w') (hS:∀b,S b->S' b) {x:List SV} {v:List Value} (h:RelVs S E w x v):RelVs S' E' w' x v:=by
 have:=pruneVs_rel hE hk hS h
 rwa [pruneVs_nil] at this
theorem Env.led.trans {E2:Env} (h:E.led E' []) {js:List Nat} (k:E'.led E2 js):E.led E2 js:=
 ⟨fun j b hb=>k.bx j b (h.bx j b hb),fun j v hv=>k.rw j v (h.rw j v hv),fun j hj ρ hρ=>by rw[k.nh j (h.lt hj) ρ hρ,h.nh j hj ρ (.inl rfl)],k.bo.trans h.bo,k.w0.trans h.w0⟩
def takeSt (s:St) (j:Nat) (r:Row) (π:Path) (t:TypeId) (e:OT):St:={s with rw:=s.rw.set j {r with ds:=holeP r.e r.ds π}++[⟨t,e,getP r.e r.ds π,0,r.lt⟩]}
theorem nodup_three {A F B:List Nat} (h:(A++(F++B)).Nodup):(A++B).Nodup/\F.Nodup/\∀x∈F,x∉A++B:=by
 obtain⟨h1,h2,h3⟩:=List.nodup_append.1 h;obtain⟨h4,h5,h6⟩:=List.nodup_append.1 h2;refine⟨List.nodup_append.2 ⟨h1,h5,fun x hx y hy=>h3 x hx y (List.mem_append_right _ hy)⟩,h4,fun x hx hn=>?_⟩;rcases List.mem_append.1 hn with hn | hn
 · exact h3 x hn x (List.mem_append_left _ hx) rfl
 · exact h6 x hx x hn rfl
theorem Inv.take (h:Inv c E s a w) {j:Nat} {r:Row} {π:Path} {t:TypeId} {e:OT} (hr:s.rw[j]?=some r) (hst:r.st=0) (ht:typeP r.tid r.e π=some (t,e)) (hh:hoP r.e π=true) (hok:okP r.e r.ds π) :
   ∃E',Inv c E' (takeSt s j r π t e) a w/\E'.rw[s.rw.length]?=some (E.nh j π)/\isSlice (E.nh j π)/\E.led E' []/\Goes c E s w E' (takeSt s j r π t e) w:=by
 obtain⟨v,hv⟩:=h.row_val hr;obtain⟨hhead,h1,_⟩:=h.rw j r v hr hv;obtain⟨F,hF,h3⟩:=h1 hst;obtain⟨A,F',B,rfl,h4,h5⟩:=Own.take hh ht hok h3;have hmp:=(typeP_Q ht).2;obtain⟨hn1,hn2,hn3⟩:=nodup_three (h.fp_nodup hr hst hF);have hjl:j<s.rw.length:=(List.getElem?_eq_some_iff.1 hr).1;have hjf:j<E.fp.length:=(List.getElem?_eq_some_iff.1 hF).1;have hsl:isSlice (E.nh j π):=by
   obtain⟨_,_,_,_,_,k,_⟩:=h4
   have:=isSlice_of k
   simpa using this
 have hled:E.led {E with rw:=E.rw++[E.nh j π],fp:=E.fp.set j (A++B)++[F'],nh:=fun i=>if i=E.rw.length then (fun ρ=>E.nh j (π++ρ)) else E.nh i} []:=by
   refine⟨fun _ _ h=>h,fun _ _ h=>get_more h,fun i hi ρ _=>?_,rfl,rfl⟩;simp only;rw[if_neg (by omega)]
 generalize hE':({E with rw:=E.rw++[E.nh j π],fp:=E.fp.set j (A++B)++[F'],nh:=fun i=>if i=E.rw.length then (fun ρ=>E.nh j (π++ρ)) else E.nh i}:Env)=E' at hled;have ebx:E'.bx=E.bx:=by rw[<- hE']
 have erw:E'.rw=E.rw++[E.nh j π]:=by rw[<- hE']
 have efp:E'.fp=E.fp.set j (A++B)++[F']:=by rw[<- hE']
 have enh:∀i,E'.nh i=if i=E.rw.length then (fun ρ=>E.nh j (π++ρ)) else E.nh i:=fun i=>by rw[<- hE']
 have ebo:E'.bo=E.bo:=by rw[<- hE']
 have ew0:E'.w0=E.w0:=by rw[<- hE']
 have hfpj:E'.fp[j]?=some (A++B):=by
   rw[efp,List.getElem?_append_left (by simpa using hjf),List.getElem?_set_self hjf]
 have hfpo:∀i,i≠j->i<E.fp.length->E'.fp[i]?=E.fp[i]?:=fun i hi hl=>by
   rw[efp,List.getElem?_append_left (by simpa using hl),List.getElem?_set_ne (fun e=>hi e.symm)]
 have hfpn:E'.fp[s.rw.length]?=some F':=by
   rw[efp,List.getElem?_append_right (by rw[List.length_set,h.nfp];exact Nat.le_refl _),List.length_set,h.nfp,Nat.sub_self];rfl
 have hrow:∀i q,(takeSt s j r π t e).rw[i]?=some q->(i=j/\q={r with ds:=holeP r.e r.ds π})\/(i=s.rw.length/\q=⟨t,e,getP r.e r.ds π,0,r.lt⟩)\/(i≠j/\i<s.rw.length/\s.rw[i]?=some q):=by
   intro i q hq;unfold takeSt at hq;rcases append_get hq with hq | ⟨rfl,rfl⟩
   · by_cases e':j=i
     · subst e';rw[List.getElem?_set_self hjl] at hq;simp at hq;exact .inl ⟨rfl,hq.symm⟩
     · rw[List.getElem?_set_ne e'] at hq;exact .inr (.inr ⟨fun e''=>e' e''.symm,(List.getElem?_eq_some_iff.1 hq).1,hq⟩)
   · exact .inr (.inl ⟨by simp,rfl⟩)
 have hown:∀x b,own E' (takeSt s j r π t e) x=some b->(own E s x=some b/\∀k,x≠.r j k)\/(∃k,x=.r j k/\(A++B)[k]?=some b)\/∃k,x=.r s.rw.length k/\F'[k]?=some b:=by
   intro x b hx;cases x with
   | b i=>exact .inl ⟨by have hx:E'.bx[i]?=some b:=hx;rw[ebx] at hx;exact hx,fun _ e=>by cases e⟩
   | r i k=>
     obtain⟨q,G,hq,hqs,hG,hb⟩:=own_of hx;rcases hrow i q hq with ⟨rfl,rfl⟩ | ⟨rfl,rfl⟩ | ⟨hi,hil,hq⟩
     · rw[hfpj] at hG;simp at hG;subst hG;exact .inr (.inl ⟨k,rfl,hb⟩)
     · rw[hfpn] at hG;simp at hG;subst hG;exact .inr (.inr ⟨k,rfl,hb⟩)
     · rw[hfpo i hi (by rw[h.nfp];exact hil)] at hG;exact .inl ⟨own_r hq hqs hG hb,fun k' e=>by injection e with e _;exact hi e⟩
 have hin:∀b,b∈A++B\/b∈F'->∃k,own E s (.r j k)=some b:=by
   intro b hb;refine own_fp hr hst hF ?_;simp only[List.mem_append] at hb ⊢;rcases hb with (hb | hb) | hb<;>simp [hb]
 have hold:∀x b,own E' (takeSt s j r π t e) x=some b->∃y,own E s y=some b:=by
   intro x b hx;rcases hown x b hx with ⟨h6,_⟩ | ⟨k,_,h6⟩ | ⟨k,_,h6⟩
   · exact⟨x,h6⟩
   · obtain⟨k',h7⟩:=hin b (.inl (List.mem_of_getElem? h6));exact⟨_,h7⟩
   · obtain⟨k',h7⟩:=hin b (.inr (List.mem_of_getElem? h6));exact⟨_,h7⟩
 have hgoes:Goes c E s w E' (takeSt s j r π t e) w:=goes_of (Nat.le_refl _) (fun x b hx=>.inl (hold x b hx)) (fun _ _ _=>rfl);refine⟨E',?_,by rw[erw,<- h.nrw];simp,hsl,hled,hgoes⟩;refine h.move' rfl rfl rfl (Nat.le_refl _) (fun x b hx=>.inl (hold x b hx)) (fun _ _ _=>rfl) hled.bx hled.rw ebo ew0 (fun hK hS=>led0_rels hled hK hS h.fr) (by rw[ebx];exact h.nbx) (by rw[erw];simp [takeSt,h.nrw]) (by rw[efp];simp [takeSt,h.nfp]) ?_ ?_ ?_ ?_
 · intro hK hS i p b hp hb;rw[ebx] at hb;obtain⟨cs,k1,k2,k3⟩:=h.bx i p b hp hb;exact⟨cs,k1,led0_rels hled hK hS k2,k3⟩
 · intro hK hS i q u hq hu;rcases hrow i q hq with ⟨rfl,rfl⟩ | ⟨rfl,rfl⟩ | ⟨hi,hil,hq⟩
   · rw[erw,List.getElem?_append_left (List.getElem?_eq_some_iff.1 hv).1,hv] at hu;simp at hu;subst hu;refine⟨hhead,fun _=>⟨_,hfpj,?_⟩,fun e=>by rw[show ({r with ds:=holeP r.e r.ds π}:Row).st=r.st from rfl,hst] at e;cases e⟩;rw[enh,if_neg (by rw[h.nrw];omega)];exact h5.mono (fun _ _=>rfl) hS (fun _ _ _ _=>rfl) (fun _ _=>rfl)
   · rw[erw,<- h.nrw] at hu;simp at hu;subst hu;refine⟨.inl hsl,fun _=>⟨_,hfpn,?_⟩,fun e=>by cases e⟩;rw[enh,if_pos h.nrw.symm,headT_sl hmp];exact h4.mono (fun _ _=>rfl) hS (fun _ _ _ _=>rfl) (fun _ _=>rfl)
   · rw[erw,List.getElem?_append_left (by rw[h.nrw];exact hil)] at hu;obtain⟨k1,k2,k3⟩:=h.rw i q u hq hu;refine⟨k1,fun hs=>?_,fun hs=>(k3 hs).mono (fun _ _=>rfl) hS⟩;obtain⟨G,hG,k4⟩:=k2 hs;refine⟨G,by rw[hfpo i hi (by rw[h.nfp];exact hil)];exact hG,?_⟩;rw[enh,if_neg (by rw[h.nrw];omega)];exact k4.mono (fun _ _=>rfl) hS (fun _ _ _ _=>rfl) (fun _ _=>rfl)
 · intro x y b hx hy;have cross:∀(x':Slot) (k:Nat),own E s x'=some b->(∀k,x'≠.r j k)->((A++B)[k]?=some b\/F'[k]?=some b)->False:=by
     intro x' k h6 h7 h8;obtain⟨k',h9⟩:=hin b (h8.imp List.mem_of_getElem? List.mem_of_getElem?);exact h7 k' (h.inj _ _ b h6 h9)
   have idx:∀{l:List Nat} {k k':Nat},l.Nodup->l[k]?=some b->l[k']?=some b->k=k':=fun hn hk hk'=>by
     have hk:=List.getElem?_eq_some_iff.1 hk;have hk':=List.getElem?_eq_some_iff.1 hk';exact (List.getElem_inj hn).1 (hk.2.trans hk'.2.symm)
   rcases hown x b hx with ⟨h6,h6'⟩ | ⟨k,rfl,h6⟩ | ⟨k,rfl,h6⟩<;>rcases hown y b hy with ⟨h7,h7'⟩ | ⟨k',rfl,h7⟩ | ⟨k',rfl,h7⟩
   · exact h.inj x y b h6 h7
   · exact (cross x k' h6 h6' (.inl h7)).elim
   · exact (cross x k' h6 h6' (.inr h7)).elim
   · exact (cross y k h7 h7' (.inl h6)).elim
   · rw[idx hn1 h6 h7]
   · exact (hn3 b (List.mem_of_getElem? h7) (List.mem_of_getElem? h6)).elim
   · exact (cross y k h7 h7' (.inr h6)).elim
   · exact (hn3 b (List.mem_of_getElem? h6) (List.mem_of_getElem? h7)).elim
   · rw[idx hn2 h6 h7]
 · intro i k b q hq hl hb;rcases hown _ b hb with ⟨h6,h6'⟩ | ⟨k',e6,h6⟩ | ⟨k',e6,h6⟩
   · rcases hrow i q hq with ⟨rfl,_⟩ | ⟨rfl,_⟩ | ⟨_,_,hq⟩
     · exact absurd rfl (h6' k)
     · obtain⟨q',_,h8,_⟩:=own_of h6;rw[List.getElem?_eq_none (Nat.le_refl _)] at h8;cases h8
     · exact h.fresh i k b q hq hl h6
   · injection e6 with e6 _
     obtain⟨k2,h7⟩:=hin b (.inl (List.mem_of_getElem? h6));rcases hrow i q hq with ⟨_,rfl⟩ | ⟨e7,_⟩ | ⟨e7,_,_⟩
     · exact h.fresh j k2 b r hr hl h7
     · omega
     · exact absurd e6 e7
   · injection e6 with e6 _
     obtain⟨k2,h7⟩:=hin b (.inr (List.mem_of_getElem? h6));rcases hrow i q hq with ⟨e7,_⟩ | ⟨_,rfl⟩ | ⟨_,e7,_⟩
     · omega
     · exact h.fresh j k2 b r hr hl h7
     · omega
theorem Inv.renamed (h:Inv c E s a w) {R j:Nat} {π:Path} (hj:j<E.rw.length) (hR:∀v,E.rw[R]?=some v->E.nh j π=v):Inv c E {s with fr:=s.fr.map fun x=>match x with
   | .own k=>bif Nat.beq k R then .hs j π else .own k
   | x=>x} a w:=by
 have key:∀{l:List SV} {vs:List Value},RelVs (Reg c E s w) E w l vs->RelVs (Reg c E s w) E w (l.map fun x=>match x with
   | .own k=>bif Nat.beq k R then .hs j π else .own k
   | x=>x) vs:=by
   intro l
   induction l with
   | nil=>intro vs h;exact h
   | cons x l ih=>
     rintro vs ⟨v,vs',h1,h2,h3⟩;refine⟨v,vs',h1,?_,ih h3⟩;cases x with
     | own k=>
       cases hb:Nat.beq k R with
       | true=>
         have:=Nat.eq_of_beq_eq_true hb
         subst this;simp only[hb,cond_true];exact⟨hj,hR v h2.1,h2.2⟩
       | false=>
         simp only[hb,cond_false];exact h2
     | _=>exact h2
 exact⟨h.os,h.tape,h.output,h.size,h.old,h.defers,key h.fr,h.nbx,h.nrw,h.nfp,h.bx,h.rw,h.inj,h.new,h.lent,h.lrow,h.fresh,h.bor⟩
end
section
variable {P:Program} {o:Oper} {s:St}
def appVC2 (P:Program) (s:St) (t:TypeId) (x y:SV) (K:SV->St->VC):VC:=
 match x with
 | .hs j π=>match s.rw[j]? with
   | some r=>if r.st=0 then (match typeP r.tid r.e π with
     | some (t',e')=>bif hoP r.e π then .ob (okP r.e r.ds π) (appVC P (takeSt s j r π t' e') t (.own s.rw.length) y K) else .f
     | none=>.f) else .f
   | none=>.f
 | x=>appVC P s t x y K
theorem leadsX_app2 {t:TypeId} {x y:Operand} (ho:o.op=.call { callee:=.builtin .append,args:=#[x,y],argTypes:=#[t,t]}):LeadsX P o s (fun K=>appVC2 P s t (s.ev x) (s.ev y) K):=by
 intro K hv c E a w h next Q hnext;have h1:=h.ev x;unfold appVC2 at hv;split at hv
 · rename_i j π hx;rw[hx] at h1;split at hv
   · rename_i r hr;split at hv
     · rename_i hst;split at hv
       · rename_i t' e' ht;cases hh:hoP r.e π with
         | false=>rw[hh] at hv;exact hv.elim
         | true=>
           rw[hh] at hv;obtain⟨hok,hv⟩:=hv;obtain⟨E',h2,h3,h4,h5,h6⟩:=h.take hr hst ht hh hok;have hX:RelV (Reg c E' (takeSt s j r π t' e') w) E' w (.own s.rw.length) (a.eval x):=by
             obtain⟨_,h7,_⟩:=h1;rw[<- h7];exact⟨h3,.inl h4⟩
           exact app_core ho hv h2 hX (led0_rel h5 h6.keeps h6.reg (h.ev y)) (fun x s' E2 u w' js k1 k2 k3 k4 k5 k6=>hnext x s' E2 u w' js k1 k2 k3 (h5.trans k4) (h6.trans k5) k6)
       · exact hv.elim
     · exact hv.elim
   · exact hv.elim
 · exact app_core ho hv h h1 (h.ev y) hnext
def valO (P:Program) (t:TypeId):Option OT:=
 match P.underlying t with
 | some (.slice e)=>(tyOf P 9 e).map fun ty=>.ho e (.im ty)
 | some (.int k)=>some (.im (.int k))
 | some .bool=>some (.im .bool)
 | some .string=>some (.im .str)
 | _=>none
theorem valO_size {t:TypeId} {v:OT} (h:valO P t=some v):v.size=1:=by
 unfold valO at h;split at h
 · obtain⟨ty,_,rfl⟩:=Option.map_eq_some_iff.1 h;rfl
 all_goals first
   | (simp at h;subst h;rfl)
   | cases h
def mapVC (P:Program) (s:St) (t:TypeId) (K:SV->St->VC):VC:=
 match P.underlying t with
 | some (.map kt et)=>match keyK P kt,valO P et with
   | some ks,some v=>K (.own s.rw.length) {s with rw:=s.rw++[Row.mk t (.mp (keyT ks) v) [] 0 false]}
   | _,_=>.f
 | _=>.f
theorem leadsX_map {t:TypeId} (ho:o.op=.makeMap t none):LeadsX P o s (fun K=>mapVC P s t K):=by
 intro K hv c E a w h next Q hnext;unfold mapVC at hv;split at hv
 · rename_i kt et hu;split at hv
   · rename_i ks v hk hval;have hrun:(execOp a.eval o).run P w=.ok (.value (.map (some w.heap.size))) (w.alloc (.map #[] 0)):=by
       unfold execOp;rw[ho];simp only[Option.map_none,Instr.makeMap,newObj];rfl
     unfold Oper.wp;rw[hrun,Oper.upon_value];have h1:=h.addR (w':=w.alloc (.map #[] 0)) (r:=Row.mk t (.mp (keyT ks) v) [] 0 false) (v:=.map (some w.heap.size)) (F:=[w.heap.size]) (H:=fun _=>.map (some w.heap.size)) rfl rfl rfl (by simp) (fun b hb=>Below.heap_alloc w _ b hb) (fun b hb=>by simp at hb;omega) (by simp) (fun hK hS=>by
       refine⟨.inr ⟨_,rfl⟩,fun _=>⟨[w.heap.size],by simp only[Env.addR];rw[<- h.nfp];simp,?_⟩,fun h=>by cases h⟩;have hnh:(E.addR (.map (some w.heap.size)) [w.heap.size] (fun _=>.map (some w.heap.size))).nh s.rw.length=fun _=>.map (some w.heap.size):=by
         simp only[Env.addR,h.nrw,if_true]
       rw[hnh];exact⟨[],#[],0,w.heap.size,[],rfl,rfl,rfl,heap_alloc_new w _,valO_size hval,rfl,⟨rfl,rfl⟩,rfl⟩)
     refine hnext _ _ _ _ _ [] hv h1 ⟨row_len h _,.inr ⟨_,rfl⟩⟩ (E.le_row _ _ _).led (goes_of (by simp) (fun x b hx=>?_) (fun b hb _=>Below.heap_alloc w _ b hb)) (fun _=>rfl);rcases own_addR h hx with h2 | ⟨k,_,h2⟩
     · exact .inl ⟨x,h2⟩
     · have:=List.mem_of_getElem? h2
       simp at this;exact .inr (by omega)
   · exact hv.elim
 · exact hv.elim
theorem memTs_ints:∀ks:List IntKind,memTs (ks.map .int)=true
 | []=>rfl
 | _::ks=>by simp only[List.map_cons,memTs,memT,memTs_ints ks,Bool.and_self]
theorem keyIs_of {S:Nat->Prop} {E:Env} {w:World} {ks:List IntKind} {l:List SV} {kd:Dat} {v:Value} (h:unflat (keyT ks) l=some (kd,[])) (hr:RelV S E w (.agg l) v):KeyIs (keyT ks) v kd:=by
 obtain⟨vs,rfl,h1⟩:=hr;obtain⟨c1,c2,rfl,h2,h3⟩:=unflat_rep h h1;have h3:c2=[]:=h3;subst h3;exact⟨c1,by simp,fun S' w'=>memT_rep (t:=keyT ks) (by show memTs _=true;exact memTs_ints ks) h2⟩
theorem Inv.map_own {c:Ctx} {E:Env} {a:Act} {w:World} (h:Inv c E s a w) {j:Nat} {r:Row} {k:Ty} {v:OT} {u:Value} (hr:s.rw[j]?=some r) (hst:r.st=0) (he:r.e=.mp k v) (hu:E.rw[j]?=some u) :
   ∃es clock g F',u=.map (some g)/\E.nh j []=.map (some g)/\E.fp[j]?=some (g::F')/\w.heap[g]?=some (.map es clock)/\v.size=1/\KeysAre k es.toList r.ds/\Elems (fun i=>Own (Reg c E s w) w v (fun o ρ=>E.nh j ((i,o)::ρ)) 0) 0 (es.toList.map MapEntry.val) (r.ds.map fun d=>d.f 1) F':=by
 obtain⟨_,h1,_⟩:=h.rw j r u hr hu;obtain⟨F,hF,h2⟩:=h1 hst;rw[he] at h2;obtain⟨ds,es,clock,g,F',h3,h4,h5,h6,h7,h8,h9,rfl⟩:=h2;simp at h3 h5;subst h5;have h4:E.nh j []=.map (some g):=h4;exact⟨es,clock,g,F',by rw[h3,h4],h4,hF,h6,h7,h8,h9⟩
theorem run_lookup_map {w:World} {t kt et:TypeId} {ks:List IntKind} {z x:Value} {g clock:Nat} {es:Array MapEntry} {ds:List Dat} {kd:Dat} (hu:P.underlying t=some (.map kt et)) (hk:keyK P kt=some ks) (hz:(P.info? et).bind (·.zero)=some z) (hb:w.heap[g]?=some (.map es clock)) (hks:KeysAre (keyT ks) es.toList ds) (hx:KeyIs (keyT ks) x kd) (ok:Bool) :
   (Instr.lookup t (.map (some g)) x ok).run P w=.ok (if ok then .tuple #[(match mfind ds kd with | some i=>(es.toList.getD i default).val | none=>z),.bool (mfind ds kd).isSome] else (match mfind ds kd with | some i=>(es.toList.getD i default).val | none=>z)) w:=by
 obtain⟨ns,k1,rfl,rfl⟩:=keyIs_ints hx;obtain⟨i,hi,hz⟩:=Option.bind_eq_some_iff.1 hz;have h1:=run_check_key (P:=P) (w:=w) hk k1 es.isEmpty;have h2:=run_findKey_map (P:=P) (w:=w) hk hx hks;have h3:(zeroValue et).run P w=.ok z w:=by
   simp only[zeroValue,typeInfo,program,Sem.run_bind,Sem.run,Result.andThen_ok,hi,Sem.run_pure,hz]
 simp only[Instr.lookup,Sem.run_bind,run_underlying hu,Result.andThen_ok,MapKept.run_getObj_map hb,Sem.run_pure,h1,h2];cases mfind ds (Dat.node (ns.map .int)) with
 | none=>cases ok<;>simp [h3]
 | some i=>cases ok<;>simp
theorem elem_one {c:Ctx} {E:Env} {w:World} {v:OT} {j i:Nat} {es:List MapEntry} {ds:List Dat} {F:List Nat} {S:Nat->Prop} (hsz:v.size=1) (hi:i<ds.length) (hlen:es.length=ds.length) (h:Elems (fun i=>Own S w v (fun o ρ=>E.nh j ((i,o)::ρ)) 0) 0 (es.map MapEntry.val) (ds.map fun d=>d.f 1) F) :
   ∃G,Own S w v (fun o ρ=>E.nh j ((i,o)::ρ)) 0 [(es.getD i default).val] ((ds.getD i default).f 1) G:=by
 have hl:=fun i x d F (hq:Own S w v (fun o ρ=>E.nh j ((i,o)::ρ)) 0 x d F)=>hq.length
 rw[hsz] at hl;obtain⟨G,_,h2⟩:=h.get hl i ((ds.getD i default).f 1) (by rw[List.getElem?_map,List.getElem?_eq_getElem hi];simp [List.getD_eq_getElem?_getD,List.getElem?_eq_getElem hi]);have e:(((es.map MapEntry.val).drop (i*1)).take 1)=[(es.getD i default).val]:=by
   have hi':i<es.length:=by omega
   apply List.ext_getElem?;intro n;rw[part_get,Nat.mul_one];by_cases hn:n<1
   · obtain rfl:n=0:=by omega
     simp [List.getD_eq_getElem?_getD,List.getElem?_eq_getElem hi']
   · rw[if_neg hn,List.getElem?_eq_none (by simp only[List.length_singleton];omega)]
 rw[e,Nat.zero_add] at h2;exact⟨G,h2⟩
def lookVC (P:Program) (s:St) (t:TypeId) (m k:SV) (ok:Bool) (K:SV->St->VC):VC:=
 match P.underlying t,m,k with
 | some (.map kt et),.own j,.agg l=>match s.rw[j]?,keyK P kt,(P.info? et).bind (·.zero) with
   | some r,some ks,some z=>if r.st=0 then (match r.e,unflat (keyT ks) l with
     | .mp kty v,some (kd,[])=>bif tyEq kty (keyT ks) then (match v with
       | .im ty=>(match unflat ty [ofLeaf z] with
         | some (zd,[])=>(match flat ty (mval r.ds kd zd) with
           | [y]=>K (bif ok then .tup [y,.bool (mhas r.ds kd)] else y) s
           | _=>.f)
         | _=>.f)
       | .ho t' e'=>bif ok||e'.isMp then .f else (match ofLeaf z with
         | .nil=>.and (.all Nat fun i=>.imp (mfind r.ds kd=some i) (.ob (isN ((r.ds.getD i default).f 1)) (K (.own s.rw.length) (takeSt s j r [(i,0)] t' e')))) (.imp (mfind r.ds kd=none) (K .nil s))
         | _=>.f)
       | _=>.f) else .f
     | _,_=>.f) else .f
   | _,_,_=>.f
 | _,_,_=>.f
theorem leadsX_look {t:TypeId} {m k:Operand} {ok:Bool} (ho:o.op=.lookup t m k ok):LeadsX P o s (fun K=>lookVC P s t (s.ev m) (s.ev k) ok K):=by
 intro K hv c E a w h next Q hnext;have h1:=h.ev m;have h2:=h.ev k;unfold lookVC at hv;split at hv
 · rename_i kt et j l hu hm hk;rw[hm] at h1;rw[hk] at h2;split at hv
   · rename_i r ks z hr hks hz;split at hv
     · rename_i hst;split at hv
       · rename_i kty v kd hre hkd;cases hty:tyEq kty (keyT ks) with
         | false=>rw[hty] at hv;exact hv.elim
         | true=>
           rw[hty] at hv;have hty:=tyEq_eq hty;subst hty;simp only[cond_true] at hv;obtain⟨es,clock,g,F',hval,hnh,hF,hb,hsz,hke,hel⟩:=h.map_own hr hst hre h1.1;have hx:=keyIs_of hkd h2;have hrun:=run_lookup_map (w:=w) hu hks hz hb hke hx ok;have hrun':∀v,(Instr.lookup t (.map (some g)) (a.eval k) ok).run P w=.ok v w->(execOp a.eval o).run P w=.ok (.value v) w:=by
             intro v hv;unfold execOp;rw[ho];refine run_val ?_;rw[hval];exact hv
           have hlen:=hke.length;split at hv
           · rename_i ty;split at hv
             · rename_i zd hzd;split at hv
               · rename_i y hy;have hrep:Rep (Reg c E s w) w ty [(match mfind r.ds kd with | some i=>(es.toList.getD i default).val | none=>z)] (mval r.ds kd zd):=by
                   unfold mval;cases hf:mfind r.ds kd with
                   | none=>
                     obtain⟨c1,c2,e1,h3,h4⟩:=unflat_rep hzd (S:=Reg c E s w) (E:=E) (w:=w) (vs:=[z]) ⟨z,[],rfl,ofLeaf_rel z,rfl⟩;have h4:c2=[]:=h4;subst h4;rw[List.append_nil] at e1;rw[e1];exact h3
                   | some i=>
                     obtain⟨hi,_⟩:=mfind_lt hf;obtain⟨G,h3,_⟩:=elem_one (c:=c) hsz hi hlen hel;exact h3
                 have hfl:=hrep.flat (E:=E);rw[hy] at hfl;generalize (match mfind r.ds kd with | some i=>(es.toList.getD i default).val | none=>z)=u0 at *
                 obtain⟨u,us,e1,h3,h4⟩:=hfl;injection e1 with e1 _
                 subst e1;unfold Oper.wp;rw[hrun' _ hrun,Oper.upon_value];refine hnext _ _ _ _ _ [] hv h ?_ E.le_refl.led (Goes.refl c E s w) (fun _=>rfl);cases ok with
                 | false=>exact h3
                 | true=>exact⟨[u0,.bool (mfind r.ds kd).isSome],rfl,u0,_,rfl,h3,_,_,rfl,rfl,rfl⟩
               · exact hv.elim
             · exact hv.elim
           · rename_i t' e';cases hc:ok||e'.isMp with
             | true=>rw[hc] at hv;exact hv.elim
             | false=>
               rw[hc] at hv;simp only[Bool.or_eq_false_iff] at hc;obtain⟨rfl,hmp⟩:=hc;simp only[cond_false] at hv;split at hv
               · rename_i hzn;unfold Oper.wp;rw[hrun' _ hrun,Oper.upon_value];simp only[Bool.false_eq_true,if_false];cases hf:mfind r.ds kd with
                 | none=>
                   have hz0:=ofLeaf_rel (S:=Reg c E s w) (E:=E) (w:=w) z;rw[hzn] at hz0;exact hnext _ _ _ _ _ [] (hv.2 hf) h hz0 E.le_refl.led (Goes.refl c E s w) (fun _=>rfl)
                 | some i=>
                   obtain⟨hi,_⟩:=mfind_lt hf;obtain⟨hn,hv⟩:=hv.1 i hf;have ht:typeP r.tid r.e [(i,0)]=some (t',e'):=by rw[hre];simp [typeP,stepO,hmp]
                   have hh:hoP r.e [(i,0)]=true:=by rw[hre];simp [hoP,stepO]
                   have hok:okP r.e r.ds [(i,0)]:=by
                     rw[hre];exact⟨hi,by simp only[stepO,if_true];exact⟨hn,trivial⟩⟩
                   obtain⟨E',k2,k3,k4,k5,k6⟩:=h.take hr hst ht hh hok;obtain⟨G,k7,_⟩:=elem_one (c:=c) hsz hi hlen hel;have k7:[(es.toList.getD i default).val]=[E.nh j [(i,0)]]:=k7;simp only[List.cons.injEq,and_true] at k7;exact hnext _ _ _ _ _ [] hv k2 (by show RelV _ E' w (.own s.rw.length) (es.toList.getD i default).val;rw[k7];exact⟨k3,.inl k4⟩) k5 k6 (fun _=>rfl)
               · exact hv.elim
           · exact hv.elim
       · exact hv.elim
     · exact hv.elim
   · exact hv.elim
 · exact hv.elim
theorem KeysAre.put {k:Ty} {x v:Value} {kd d:Dat} (hx:KeyIs k x kd):∀{es:List MapEntry} {ds:List Dat} {i:Nat},KeysAre k es ds->KeysAre k (es.modify i fun e=>{e with key:=x,val:=v}) (ds.set i (.node [kd,d]))
 | [],_,i,h=>by rw[show _=[] from h];cases i<;>exact rfl
 | m::es,_,0,⟨kd',vd,ds',h1,h2,h3⟩=>by
   subst h1;exact⟨kd,d,ds',rfl,hx,h3⟩
 | m::es,_,i+1,⟨kd',vd,ds',h1,h2,h3⟩=>by
   subst h1;exact⟨kd',vd,_,rfl,h2,h3.put hx⟩
theorem KeysAre.push {k:Ty} {m:MapEntry} {kd d:Dat} (hx:KeyIs k m.key kd):∀{es:List MapEntry} {ds:List Dat},KeysAre k es ds->KeysAre k (es++[m]) (ds++[.node [kd,d]])
 | [],_,h=>by rw[show _=[] from h];exact⟨kd,d,[],rfl,hx,rfl⟩
 | m::es,_,⟨kd',vd,ds',h1,h2,h3⟩=>by
   subst h1;exact⟨kd',vd,_,rfl,h2,h3.push hx⟩
theorem modify_vals {x v:Value}:∀(es:List MapEntry) (i:Nat),(es.modify i fun e=>{e with key:=x,val:=v}).map MapEntry.val=(es.map MapEntry.val).set i v
 | [],i=>by cases i<;>rfl
 | m::es,0=>rfl
 | m::es,i+1=>by
   have:=modify_vals (x:=x) (v:=v) es i
   simpa using this
theorem splice_one {xs:List Value} {i:Nat} {v:Value} (h:i<xs.length):splice xs (i*1) [v]=xs.set i v:=by
 apply List.ext_getElem?;intro n;rw[Nat.mul_one,splice_get (by simp;omega),List.getElem?_set];by_cases h1:n<i
 · rw[if_pos h1,if_neg (by omega)]
 · rw[if_neg h1];by_cases h2:n<i+[v].length
   · have:n=i:=by simp at h2;omega
     subst this;rw[if_pos h2,if_pos rfl,if_pos h,Nat.sub_self];rfl
   · rw[if_neg h2,if_neg (by simp at h2;omega)]
def setMap (w:World) (g:Nat) (es:Array MapEntry) (clock:Nat):World:={w with heap:=w.heap.setIfInBounds g (.map es clock)}
theorem run_update_map {w:World} {t kt et:TypeId} {ks:List IntKind} {x v:Value} {g clock:Nat} {es:Array MapEntry} {ds:List Dat} {kd:Dat} (hu:P.underlying t=some (.map kt et)) (hk:keyK P kt=some ks) (hb:w.heap[g]?=some (.map es clock)) (hks:KeysAre (keyT ks) es.toList ds) (hx:KeyIs (keyT ks) x kd) :
   (Instr.mapUpdate t (.map (some g)) x v).run P w=.ok () (match mfind ds kd with | some i=>setMap w g (es.modify i fun e=>{e with key:=x,val:=v}) clock | none=>setMap w g (es.push { key:=x,val:=v,born:=clock}) (clock+1)):=by
 have hx0:=hx;obtain⟨ns,k1,rfl,rfl⟩:=keyIs_ints hx;have h1:=run_check_key (P:=P) (w:=w) hk k1 false;have h2:=run_findKey_map (P:=P) (w:=w) hk hx0 hks;simp only[Instr.mapUpdate,Sem.run_bind,run_underlying hu,Result.andThen_ok,MapKept.run_getObj_map hb,h1,h2];cases hf:mfind ds (Dat.node (ns.map .int)) with
 | none=>simp only[Option.map_none,MapKept.run_setObj_map _ hb];rfl
 | some i=>
   obtain⟨hi,hkd⟩:=mfind_lt hf;have hlen:=hks.length;have hie:i<es.size:=by rw[<- Array.length_toList,hlen];exact hi
   have hget:es.toList[i]?=some es[i]:=by simp [hie]
   have h3:=hks.get hget;rw[hkd] at h3;obtain⟨ms,k3,k4,k5⟩:=keyIs_ints h3;injection k5 with k5
   have:=map_int_inj k5
   subst this;have h4:((es[i]?).map (·.key)).getD (.agg (kints ks ns).toArray)=.agg (kints ks ns).toArray:=by
     rw[Array.getElem?_eq_getElem hie];simpa using k4
   simp only[Option.map_some,Sem.run_bind,h4,run_stays,Result.andThen_ok,MapKept.run_setObj_map _ hb];rfl
theorem setMap_ok {w:World} {g clock clock':Nat} {es es':Array MapEntry} (hb:w.heap[g]?=some (.map es clock)):(setMap w g es' clock').heap.size=w.heap.size/\(setMap w g es' clock').heap[g]?=some (.map es' clock')/\∀b,b≠g->(setMap w g es' clock').heap[b]?=w.heap[b]?:=by
 obtain⟨h1,h2⟩:=MapKept.heap_set (o':=.map es' clock') hb;exact⟨by simp [setMap],h1,h2⟩
def updVC (P:Program) (s:St) (t:TypeId) (m k x:SV) (K:SV->St->VC):VC:=
 match P.underlying t,m,k with
 | some (.map kt _),.own j,.agg l=>match s.rw[j]?,keyK P kt with
   | some r,some ks=>if r.st=0 then (match r.e,unflat (keyT ks) l with
     | .mp kty v,some (kd,[])=>bif tyEq kty (keyT ks) then (match v with
       | .im ty=>(match unflat ty [x] with
         | some (d,[])=>K .un (s.setRow j {r with ds:=mput r.ds kd d})
         | _=>.f)
       | .ho t' e'=>(match x with
         | .own R=>(match liveRow s R with
           | some q=>bif Nat.beq q.tid t'&&otEq q.e e'&&!Nat.beq j R&&onesB (chgSt s j [R] {r with lt:=r.lt||anyLtN s [R]}).bx then
               .and (.all Nat fun i=>.imp (mfind r.ds kd=some i) (K .un (updSt s j R {r with ds:=r.ds.set i (.node [kd,.node q.ds]),lt:=r.lt||anyLtN s [R]} i)))
                 (.imp (mfind r.ds kd=none) (K .un (updSt s j R {r with ds:=r.ds++[.node [kd,.node q.ds]],lt:=r.lt||anyLtN s [R]} r.ds.length))) else .f
           | none=>.f)
         | _=>.f)
       | _=>.f) else .f
     | _,_=>.f) else .f
   | _,_=>.f
 | _,_,_=>.f
where updSt (s:St) (j R:Nat) (r':Row) (i:Nat):St:={chgSt s j [R] r' with fr:=(chgSt s j [R] r').fr.map fun x=>match x with
   | .own k=>bif Nat.beq k R then .hs j [(i,0)] else .own k
   | x=>x}
theorem mapElems_put {S S2:Nat->Prop} {w w2:World} {v:OT} {X X2:Path->Value} {es:List MapEntry} {ds:List Dat} {F G:List Nat} {i:Nat} {u:Value} {d:Dat} (hsz:v.size=1) (hi:i<ds.length) (hlen:es.length=ds.length) (h:Elems (fun i=>Own S w v (fun o ρ=>X ((i,o)::ρ)) 0) 0 (es.map MapEntry.val) (ds.map fun d=>d.f 1) F)
   (hm:∀i' x d G,i'≠i->(∀b∈G,b∈F)->Own S w v (fun o ρ=>X ((i',o)::ρ)) 0 x d G->Own S2 w2 v (fun o ρ=>X2 ((i',o)::ρ)) 0 x d G) (hn:Own S2 w2 v (fun o ρ=>X2 ((i,o)::ρ)) 0 [u] d G) :
   ∃A F0 B,F=A++(F0++B)/\Elems (fun i=>Own S2 w2 v (fun o ρ=>X2 ((i,o)::ρ)) 0) 0 ((es.map MapEntry.val).set i u) ((ds.map fun d=>d.f 1).set i d) (A++(G++B)):=by
 have hl:=fun i x d F (hq:Own S w v (fun o ρ=>X ((i,o)::ρ)) 0 x d F)=>hq.length
 rw[hsz] at hl;obtain⟨A,F0,B,rfl,_,_,h4⟩:=h.focus hl (i:=i) (by simpa using hi);refine⟨A,F0,B,rfl,?_⟩;rw[Nat.zero_add] at h4
 have:=h4 (fun i=>Own S2 w2 v (fun o ρ=>X2 ((i,o)::ρ)) 0) [u] d G (fun j x d G hj hG hq=>hm j x d G hj (fun b hb=>by
   rcases hG b hb with h5 | h5<;>simp [h5]) hq) rfl hn
 rw[splice_one (by simpa [hlen] using hi)] at this;exact this
theorem mapElems_push {S S2:Nat->Prop} {w w2:World} {v:OT} {X X2:Path->Value} {es:List MapEntry} {ds:List Dat} {F G:List Nat} {u:Value} {d:Dat} (h:Elems (fun i=>Own S w v (fun o ρ=>X ((i,o)::ρ)) 0) 0 (es.map MapEntry.val) (ds.map fun d=>d.f 1) F)
   (hm:∀i' x d G,i'<ds.length->(∀b∈G,b∈F)->Own S w v (fun o ρ=>X ((i',o)::ρ)) 0 x d G->Own S2 w2 v (fun o ρ=>X2 ((i',o)::ρ)) 0 x d G) (hn:Own S2 w2 v (fun o ρ=>X2 ((ds.length,o)::ρ)) 0 [u] d G) :
   Elems (fun i=>Own S2 w2 v (fun o ρ=>X2 ((i,o)::ρ)) 0) 0 (es.map MapEntry.val++[u]) ((ds.map fun d=>d.f 1)++[d]) (F++G):=by
 refine Elems.append (h.imp (fun i x d G _ hi hG hq=>hm i x d G (by simpa using hi) hG hq)) ?_;rw[List.length_map,Nat.zero_add];exact⟨[u],[],G,[],rfl,by simp,hn,rfl,rfl⟩
theorem leadsX_upd {t:TypeId} {m k x:Operand} (ho:o.op=.mapUpdate t m k x):LeadsX P o s (fun K=>updVC P s t (s.ev m) (s.ev k) (s.ev x) K):=by
 intro K hv c E a w h next Q hnext;have h1:=h.ev m;have h2:=h.ev k;have h3:=h.ev x;unfold updVC at hv;split at hv
 · rename_i kt et j l hu hm hk;rw[hm] at h1;rw[hk] at h2;split at hv
   · rename_i r ks hr hks;split at hv
     · rename_i hst;split at hv
       · rename_i kty v kd hre hkd;cases hty:tyEq kty (keyT ks) with
         | false=>rw[hty] at hv;exact hv.elim
         | true=>
           rw[hty] at hv;have hty:=tyEq_eq hty;subst hty;simp only[cond_true] at hv;obtain⟨es,clock,g,F',hval,hnh,hF,hb,hsz,hke,hel⟩:=h.map_own hr hst hre h1.1;have hx:=keyIs_of hkd h2;have hrun:=run_update_map (v:=a.eval x) hu hks hb hke hx;have hrun':∀w',(Instr.mapUpdate t (.map (some g)) (a.eval k) (a.eval x)).run P w=.ok () w'->(execOp a.eval o).run P w=.ok .skip w':=by
             intro w' hw;unfold execOp;rw[ho];simp only[hval,Sem.run_bind,hw,Result.andThen_ok];rfl
           have hlen:=hke.length;have hgF:∃F,E.fp[j]?=some F/\g∈F:=⟨_,hF,List.mem_cons_self ..⟩;obtain⟨kk,hok⟩:=own_fp hr hst hF (b:=g) (List.mem_cons_self ..);have hnd:=h.fp_nodup hr hst hF;have hgn:g∉F':=(List.nodup_cons.1 hnd).1;split at hv
           · rename_i ty;split at hv
             · rename_i d hd;obtain⟨c1,c2,e1,h5,h6⟩:=unflat_rep hd (S:=Reg c E s w) (E:=E) (w:=w) (vs:=[a.eval x]) ⟨a.eval x,[],rfl,h3,rfl⟩;have h6:c2=[]:=h6;subst h6;rw[List.append_nil] at e1;subst e1;have hF0:=(elems_im_inv hel).1;subst hF0;have go:∀es' clock',(Instr.mapUpdate t (.map (some g)) (a.eval k) (a.eval x)).run P w=.ok () (setMap w g es' clock')->KeysAre (keyT ks) es'.toList (mput r.ds kd d)->(Keeps (Reg c E s w) w (setMap w g es' clock')->Elems (fun i=>Own (Reg c E s w) (setMap w g es' clock') (.im ty) (fun o ρ=>E.nh j ((i,o)::ρ)) 0) 0 (es'.toList.map MapEntry.val) ((mput r.ds kd d).map fun d=>d.f 1) [])->o.wp P a w next Q:=by
                 intro es' clock' hr1 hk1 hel1;obtain⟨w1,w2,w3⟩:=setMap_ok (es':=es') (clock':=clock') hb;unfold Oper.wp;rw[hrun' _ hr1,Oper.upon_skip];have h9:=h.leafRow (w':=setMap w g es' clock') (bl:=g) (ds:=mput r.ds kd d) hr hst hgF rfl rfl rfl w1 w3 (fun hK u hu F0 hF0=>by
                   rw[hF] at hF0;simp only[Option.some.injEq] at hF0;subst hF0;rw[h1.1] at hu;simp only[Option.some.injEq] at hu;subst hu;rw[hre];exact⟨_,es',clock',g,[],by rw[hval];exact congrArg (fun x=>[x]) hnh.symm,hnh,rfl,w2,hsz,hk1,hel1 hK,rfl⟩)
                 exact hnext _ _ _ _ _ [] hv h9 trivial E.le_refl.led (leafRow_goes _ hr hst hgF w1 w3) (fun _=>rfl)
               have hmono:∀(w':World),Keeps (Reg c E s w) w w'->∀(i':Nat) (x:List Value) (d:Dat) (G:List Nat),(∀b∈G,b∈([]:List Nat))->Own (Reg c E s w) w (.im ty) (fun o ρ=>E.nh j ((i',o)::ρ)) 0 x d G->Own (Reg c E s w) w' (.im ty) (fun o ρ=>E.nh j ((i',o)::ρ)) 0 x d G:=fun w' hK i' x d G hG hq=>hq.mono hK (fun _ h=>h) (fun _ _ _ _=>rfl) (fun b hb=>by cases hG b hb)
               cases hf:mfind r.ds kd with
               | some i=>
                 obtain⟨hi,hkey⟩:=mfind_lt hf;rw[hf] at hrun;have e2:mput r.ds kd d=r.ds.set i (.node [kd,d]):=by unfold mput;rw[hf];simp only[hkey]
                 refine go _ _ hrun (by rw[e2,Array.toList_modify];exact hke.put hx) (fun hK=>?_);obtain⟨A,F0,B,e3,h10⟩:=mapElems_put hsz hi hlen hel (X2:=E.nh j) (fun i' x d G _ hG hq=>hmono _ hK i' x d G hG hq) (u:=a.eval x) (d:=d) (G:=[]) ⟨h5.mono hK (fun _ h=>h),rfl⟩;have e3:A++(F0++B)=[]:=e3.symm;simp only[List.append_eq_nil_iff] at e3;obtain⟨rfl,rfl,rfl⟩:=e3;rw[Array.toList_modify,modify_vals,e2,map_set];exact h10
               | none=>
                 rw[hf] at hrun;have e2:mput r.ds kd d=r.ds++[.node [kd,d]]:=by unfold mput;rw[hf]
                 refine go _ _ hrun (by rw[e2,Array.toList_push];exact hke.push hx) (fun hK=>?_);have h10:=mapElems_push hel (X2:=E.nh j) (fun i' x d G _ hG hq=>hmono _ hK i' x d G hG hq) (u:=a.eval x) (d:=d) (G:=[]) ⟨h5.mono hK (fun _ h=>h),rfl⟩;rw[Array.toList_push,List.map_append,e2,List.map_append];exact h10
             · exact hv.elim
           · rename_i t' e';split at hv
             · rename_i R hxR;rw[hxR] at h3;split at hv
               · rename_i q hlive;obtain⟨hq,hqs⟩:=liveRow_eq hlive;have hqm:=liveRow_mp hlive;generalize hc:(Nat.beq q.tid t'&&otEq q.e e'&&!Nat.beq j R&&onesB (chgSt s j [R] {r with lt:=r.lt||anyLtN s [R]}).bx)=cond at hv;cases cond with
                 | false=>exact hv.elim
                 | true=>
                   simp only[Bool.and_eq_true,Bool.not_eq_true'] at hc;obtain⟨⟨⟨c1,c2⟩,c3⟩,c4⟩:=hc;have c1:=Nat.eq_of_beq_eq_true c1;have c2:=otEq_eq c2;subst c1;subst c2;have c3:j≠R:=fun e=>by subst e;rw[Nat.beq_refl] at c3;cases c3
                   simp only[cond_true] at hv;obtain⟨hv1,hv2⟩:=hv;have hlR:Lives s [R]:=fun k hk=>by rw[List.mem_singleton.1 hk];exact⟨q,hq,hqs⟩
                   obtain⟨hFR,h5⟩:=h.live_own hq hqs h3.1;rw[headT_sl hqm] at h5;have hfR:fpsOf E [R]=E.fp.getD R []:=by simp [fpsOf]
                   have hux:=h5.sl_head.1;have hdis:∀y∈E.fp.getD R [],y∉g::F':=by
                     intro y hy hn;obtain⟨k1,o1⟩:=own_fp hq hqs hFR hy;obtain⟨k2,o2⟩:=own_fp hr hst hF hn
                     have:=h.inj _ _ _ o1 o2
                     injection this with this _
                     exact c3 this.symm
                   have hjl:j<E.rw.length:=(List.getElem?_eq_some_iff.1 h1.1).1;have go:∀(i:Nat) (ds':List Dat) (es':Array MapEntry) (clock':Nat) (F2:List Nat),(K .un (updVC.updSt s j R {r with ds:=ds',lt:=r.lt||anyLtN s [R]} i)).den->(Instr.mapUpdate t (.map (some g)) (a.eval k) (a.eval x)).run P w=.ok () (setMap w g es' clock')->KeysAre (keyT ks) es'.toList ds'->
                       (Keeps (Reg c E s w) w (setMap w g es' clock')->Elems (fun i'=>Own (Reg c E s w) (setMap w g es' clock') (.ho q.tid q.e) (fun o ρ=>headPut (E.nh j) [] i 0 1 (fun _ σ=>E.nh R σ) ((i',o)::ρ)) 0) 0 (es'.toList.map MapEntry.val) (ds'.map fun d=>d.f 1) F2)->(∀b∈F2,b∈F'\/b∈E.fp.getD R [])->(g::F2).Nodup->o.wp P a w next Q:=by
                     intro i ds' es' clock' F2 hv hr1 hk1 hel1 hF2 hnd2;obtain⟨w1,w2,w3⟩:=setMap_ok (es':=es') (clock':=clock') hb;unfold Oper.wp;rw[hrun' _ hr1,Oper.upon_skip];have hH0:headPut (E.nh j) [] i 0 1 (fun _ σ=>E.nh R σ) []=E.nh j []:=headPut_nil _ _ _ _ _ _;have hFF:∀b∈g::F2,(∃k,own E s (.r j k)=some b)\/b∈fpsOf E [R]:=by
                       intro b hb;rcases List.mem_cons.1 hb with rfl | hb
                       · exact .inl ⟨kk,hok⟩
                       · rcases hF2 b hb with hb | hb
                         · exact .inl (own_fp hr hst hF (List.mem_cons_of_mem _ hb))
                         · exact .inr (by rw[hfR];exact hb)
                     have h9:=h.chgRow (w':=setMap w g es' clock') (bl:=g) (ks:=[R]) (r':={r with ds:=ds',lt:=r.lt||anyLtN s [R]}) (F':=g::F2) (H':=headPut (E.nh j) [] i 0 1 (fun _ σ=>E.nh R σ)) hr hst hst (by simpa using c3) hlR hgF rfl rfl rfl w1 w3 hH0 hFF hnd2 (fun hl=>by simpa using hl) c4 (fun hK u hu=>by
                       rw[h1.1] at hu;simp only[Option.some.injEq] at hu;subst hu;show Own _ _ (headT r.tid r.e) _ _ _ _ _;rw[hre];exact⟨_,es',clock',g,F2,by rw[hval];exact congrArg (fun x=>[x]) (hnh.symm.trans hH0.symm),hH0.trans hnh,rfl,w2,rfl,hk1,hel1 hK,rfl⟩)
                     have h10:=h9.renamed (R:=R) (j:=j) (π:=[(i,0)]) hjl (fun u hu=>by
                       have hu:E.rw[R]?=some u:=hu;rw[h3.1] at hu;simp only[Option.some.injEq] at hu;subst hu;have e9:(E.chg j (g::F2) (headPut (E.nh j) [] i 0 1 (fun _ σ=>E.nh R σ))).nh j=headPut (E.nh j) [] i 0 1 (fun _ σ=>E.nh R σ):=by simp only[Env.chg,if_true]
                       rw[e9,hux];exact headPut_in (E.nh j) [] i 0 1 (fun _ σ=>E.nh R σ) [] (Nat.le_refl _) (by omega))
                     have hgo:=chgRow_goes h {r with ds:=ds',lt:=r.lt||anyLtN s [R]} (headPut (E.nh j) [] i 0 1 (fun _ σ=>E.nh R σ)) hr hst hlR hgF w1 w3 hFF;exact hnext _ _ _ _ _ [j] hv h10 trivial (led_chg _ _ _ _ hH0) ⟨hgo.keeps,hgo.reg⟩ (fun hq=>by rw[ho] at hq;cases hq)
                   have hmono:∀(i:Nat) (w':World),Keeps (Reg c E s w) w w'->(∀b,b≠g->w'.heap[b]?=w.heap[b]?)->∀(i':Nat) (x:List Value) (d:Dat) (G:List Nat),i'≠i->(∀b∈G,b∈F')->Own (Reg c E s w) w (.ho q.tid q.e) (fun o ρ=>E.nh j ((i',o)::ρ)) 0 x d G->Own (Reg c E s w) w' (.ho q.tid q.e) (fun o ρ=>headPut (E.nh j) [] i 0 1 (fun _ σ=>E.nh R σ) ((i',o)::ρ)) 0 x d G:=fun i w' hK hk' i' x d G hi' hG hq=>hq.mono hK (fun _ h=>h) (fun o ρ _ _=>headPut_else (E.nh j) [] i 0 1 _ ρ (.inl hi')) (fun b hb=>hk' b (fun e=>hgn (by rw[<- e];exact hG b hb)))
                   have hnew:∀(i:Nat) (w':World),Keeps (Reg c E s w) w w'->(∀b,b≠g->w'.heap[b]?=w.heap[b]?)->Own (Reg c E s w) w' (.ho q.tid q.e) (fun o ρ=>headPut (E.nh j) [] i 0 1 (fun _ σ=>E.nh R σ) ((i,o)::ρ)) 0 [a.eval x] (.node q.ds) (E.fp.getD R []):=fun i w' hK hk'=>by
                     have h6:Own (Reg c E s w) w (.ho q.tid q.e) (fun _=>E.nh R) 0 [a.eval x] (.node q.ds) (E.fp.getD R []):=own_ho h5 true;refine h6.mono hK (fun _ h=>h) (fun o ρ h1 h2=>?_) (fun b hb=>hk' b (fun e=>hdis b hb (by rw[e];exact List.mem_cons_self ..)));exact headPut_in (E.nh j) [] i 0 1 (fun _ σ=>E.nh R σ) ρ h1 h2
                   have hndR:=h.fp_nodup hq hqs hFR;have hdF:∀y∈E.fp.getD R [],y≠g/\y∉F':=fun y hy=>by
                     have:=hdis y hy
                     simp only[List.mem_cons,not_or] at this;exact this
                   cases hf:mfind r.ds kd with
                   | some i=>
                     obtain⟨hi,hkey⟩:=mfind_lt hf;rw[hf] at hrun;have hne0:∀es' clock',(∀b,b≠g->(setMap w g es' clock').heap[b]?=w.heap[b]?):=fun es' clock'=>(setMap_ok hb).2.2
                     have hK0:∀es' clock',Keeps (Reg c E s w) w (setMap w g es' clock'):=fun es' clock' b hb'=>hne0 es' clock' b (fun e=>hb'.2.2 (.r j kk) (by rw[e];exact hok))
                     obtain⟨A,F0,B,e3,h10⟩:=mapElems_put hsz hi hlen hel (X2:=headPut (E.nh j) [] i 0 1 (fun _ σ=>E.nh R σ)) (fun i' y d G hi' hG hq=>hmono i (setMap w g (es.modify i fun e=>{e with key:=a.eval k,val:=a.eval x}) clock) (hK0 _ _) (hne0 _ _) i' y d G hi' hG hq) (u:=a.eval x) (d:=.node q.ds) (G:=E.fp.getD R []) (hnew i _ (hK0 _ _) (hne0 _ _));refine go i _ _ _ (A++(E.fp.getD R []++B)) (hv1 i hf) hrun (by rw[Array.toList_modify];exact hke.put hx) (fun hK=>?_) (fun b hb=>?_) ?_
                     · rw[Array.toList_modify,modify_vals,map_set];exact h10
                     · simp only[List.mem_append] at hb;rw[e3];rcases hb with hb | hb | hb
                       · exact .inl (by simp [hb])
                       · exact .inr hb
                       · exact .inl (by simp [hb])
                     · have h11:((g::A)++(F0++B)).Nodup:=by rw[List.cons_append,<- e3];exact hnd
                       refine nodup_swap h11 hndR (fun y hy=>?_);obtain⟨k1,k2⟩:=hdF y hy;rw[e3] at k2;simp only[List.mem_append,not_or] at k2;exact⟨by simp [k1,k2.1],k2.2.2⟩
                   | none=>
                     rw[hf] at hrun;have hne0:∀es' clock',(∀b,b≠g->(setMap w g es' clock').heap[b]?=w.heap[b]?):=fun es' clock'=>(setMap_ok hb).2.2
                     have hK0:∀es' clock',Keeps (Reg c E s w) w (setMap w g es' clock'):=fun es' clock' b hb'=>hne0 es' clock' b (fun e=>hb'.2.2 (.r j kk) (by rw[e];exact hok))
                     have h10:=mapElems_push hel (X2:=headPut (E.nh j) [] r.ds.length 0 1 (fun _ σ=>E.nh R σ)) (fun i' y d G hi' hG hq=>hmono r.ds.length (setMap w g (es.push { key:=a.eval k,val:=a.eval x,born:=clock}) (clock+1)) (hK0 _ _) (hne0 _ _) i' y d G (by omega) hG hq) (u:=a.eval x) (d:=.node q.ds) (G:=E.fp.getD R []) (hnew _ _ (hK0 _ _) (hne0 _ _));refine go r.ds.length _ _ _ (F'++E.fp.getD R []) (hv2 hf) hrun (by rw[Array.toList_push];exact hke.push hx) (fun hK=>?_) (fun b hb=>List.mem_append.1 hb) ?_
                     · rw[Array.toList_push,List.map_append,List.map_append];exact h10
                     · refine List.nodup_cons.2 ⟨fun hn=>?_,List.nodup_append.2 ⟨(List.nodup_cons.1 hnd).2,hndR,fun x hx y hy e=>?_⟩⟩
                       · rcases List.mem_append.1 hn with hn | hn
                         · exact hgn hn
                         · exact (hdF g hn).1 rfl
                       · subst e;exact (hdF x hy).2 hx
               · exact hv.elim
             · exact hv.elim
           · exact hv.elim
       · exact hv.elim
     · exact hv.elim
   · exact hv.elim
 · exact hv.elim
theorem KeysAre.erase {k:Ty}:∀{es:List MapEntry} {ds:List Dat} (i:Nat),KeysAre k es ds->KeysAre k (es.eraseIdx i) (ds.eraseIdx i)
 | [],_,i,h=>by rw[show _=[] from h];exact rfl
 | m::es,_,0,⟨kd',vd,ds',h1,h2,h3⟩=>by subst h1;exact h3
 | m::es,_,i+1,⟨kd',vd,ds',h1,h2,h3⟩=>by
   subst h1;exact⟨kd',vd,_,rfl,h2,h3.erase i⟩
theorem elems_map_im {S:Nat->Prop} {w:World} {ty:Ty} {H:Nat->Hd} {es:List MapEntry} {ds:List Dat} (hsz:ty.size=1) (hlen:es.length=ds.length):(∀(n:Nat) (m:MapEntry) (d:Dat),es[n]?=some m->ds[n]?=some d->Rep S w ty [m.val] (d.f 1))->Elems (fun i=>Own S w (.im ty) (H i) 0) 0 (es.map MapEntry.val) (ds.map fun d=>d.f 1) []:=by
 intro h;refine elems_im (by simp [hsz,hlen]) (fun n x hx=>?_);rw[List.getElem?_map] at hx;obtain⟨d,hd,rfl⟩:=Option.map_eq_some_iff.1 hx;have hn:n<es.length:=by rw[hlen];exact (List.getElem?_eq_some_iff.1 hd).1
 have e:((es.map MapEntry.val).drop (n*ty.size)).take ty.size=[es[n].val]:=by
   rw[hsz];apply List.ext_getElem?;intro k;rw[part_get,Nat.mul_one];by_cases hk:k<1
   · obtain rfl:k=0:=by omega
     simp [hn]
   · rw[if_neg hk,List.getElem?_eq_none (by simp only[List.length_singleton];omega)]
 rw[e];exact h n _ d (List.getElem?_eq_getElem hn) hd
def delVC (P:Program) (s:St) (t:TypeId) (m k:SV) (K:SV->St->VC):VC:=
 match P.underlying t,m,k with
 | some (.map kt _),.own j,.agg l=>match s.rw[j]?,keyK P kt with
   | some r,some ks=>if r.st=0 then (match r.e,unflat (keyT ks) l with
     | .mp kty (.im _),some (kd,[])=>bif tyEq kty (keyT ks) then K (.tup []) (s.setRow j {r with ds:=mdel r.ds kd}) else .f
     | _,_=>.f) else .f
   | _,_=>.f
 | _,_,_=>.f
theorem leadsX_del {t u:TypeId} {m k:Operand} (ho:o.op=.call { callee:=.builtin .delete,args:=#[m,k],argTypes:=#[t,u]}):LeadsX P o s (fun K=>delVC P s t (s.ev m) (s.ev k) K):=by
 intro K hv c E a w h next Q hnext;have h1:=h.ev m;have h2:=h.ev k;unfold delVC at hv;split at hv
 · rename_i kt et j l hu hm hk;rw[hm] at h1;rw[hk] at h2;split at hv
   · rename_i r ks hr hks;split at hv
     · rename_i hst;split at hv
       · rename_i kty ty kd hre hkd;cases hty:tyEq kty (keyT ks) with
         | false=>rw[hty] at hv;exact hv.elim
         | true=>
           rw[hty] at hv;have hty:=tyEq_eq hty;subst hty;simp only[cond_true] at hv;obtain⟨es,clock,g,F',hval,hnh,hF,hb,hsz,hke,hel⟩:=h.map_own hr hst hre h1.1;have hx:=keyIs_of hkd h2;have hx0:=hx;obtain⟨ns,k1,hxv,rfl⟩:=keyIs_ints hx;have hc:=run_check_key (P:=P) (w:=w) hks k1 es.isEmpty;have hf:=run_findKey_map (P:=P) (w:=w) hks hx0 hke;rw[hxv] at hf;have hlen:=hke.length;have hgF:∃F,E.fp[j]?=some F/\g∈F:=⟨_,hF,List.mem_cons_self ..⟩;have hF0:=(elems_im_inv hel).1;subst hF0;have hone:∀(n:Nat) (m:MapEntry) (d:Dat),es.toList[n]?=some m->r.ds[n]?=some d->Rep (Reg c E s w) w ty [m.val] (d.f 1):=by
             intro n m d hm hd;have hn:n<r.ds.length:=(List.getElem?_eq_some_iff.1 hd).1;obtain⟨G,h3,_⟩:=elem_one (c:=c) hsz hn hlen hel;have e1:es.toList.getD n default=m:=by rw[List.getD_eq_getElem?_getD,hm];rfl
             have e2:r.ds.getD n default=d:=by rw[List.getD_eq_getElem?_getD,hd];rfl
             rw[e1,e2] at h3;exact h3
           have go:∀es',(Builtin.delete_ #[t,u] o.type #[a.eval m,a.eval k]).run P w=.ok (.tuple #[]) (setMap w g es' clock)->KeysAre (keyT ks) es'.toList (mdel r.ds (.node (ns.map .int)))->(∀(n:Nat) (m:MapEntry) (d:Dat),es'.toList[n]?=some m->(mdel r.ds (.node (ns.map .int)))[n]?=some d->Rep (Reg c E s w) w ty [m.val] (d.f 1))->o.wp P a w next Q:=by
             intro es' hr1 hk1 hone';obtain⟨w1,w2,w3⟩:=setMap_ok (es':=es') (clock':=clock) hb;have hrun:(execOp a.eval o).run P w=.ok (.value (.tuple #[])) (setMap w g es' clock):=by
               unfold execOp;rw[ho];simp only[resolve,invoke,builtin,pure_bind,List.map_toArray,List.map_cons,List.map_nil];exact run_buildVal hr1
             unfold Oper.wp;rw[hrun,Oper.upon_value];have h9:=h.leafRow (w':=setMap w g es' clock) (bl:=g) (ds:=mdel r.ds (.node (ns.map .int))) hr hst hgF rfl rfl rfl w1 w3 (fun hK u hu F0 hF0=>by
               rw[hF] at hF0;simp only[Option.some.injEq] at hF0;subst hF0;rw[h1.1] at hu;simp only[Option.some.injEq] at hu;subst hu;rw[hre];exact⟨_,es',clock,g,[],by rw[hval];exact congrArg (fun x=>[x]) hnh.symm,hnh,rfl,w2,hsz,hk1,elems_map_im hsz hk1.length (fun n m d hm hd=>(hone' n m d hm hd).mono hK (fun _ h=>h)),rfl⟩)
             exact hnext _ _ _ _ _ [] hv h9 ⟨[],rfl,rfl⟩ E.le_refl.led (leafRow_goes _ hr hst hgF w1 w3) (fun _=>rfl)
           have hdel:(Builtin.delete_ #[t,u] o.type #[a.eval m,a.eval k]).run P w=.ok (.tuple #[]) (match mfind r.ds (.node (ns.map .int)) with | some i=>setMap w g (es.eraseIdxIfInBounds i) clock | none=>setMap w g es clock):=by
             rw[hval,hxv];simp only[Builtin.delete_,List.getElem?_toArray,List.getElem?_cons_zero,List.getElem?_cons_succ,Sem.run_bind,run_underlying hu,Result.andThen_ok,MapKept.run_getObj_map hb,hc,hf];cases mfind r.ds (Dat.node (ns.map .int)) with
             | none=>simp [MapKept.run_setObj_map _ hb,setMap]
             | some i=>simp [MapKept.run_setObj_map _ hb,setMap]
           cases hfi:mfind r.ds (.node (ns.map .int)) with
           | none=>
             rw[hfi] at hdel;have e2:mdel r.ds (.node (ns.map .int))=r.ds:=by unfold mdel;rw[hfi]
             exact go es hdel (by rw[e2];exact hke) (by rw[e2];exact hone)
           | some i=>
             rw[hfi] at hdel;obtain⟨hi,_⟩:=mfind_lt hfi;have e2:mdel r.ds (.node (ns.map .int))=r.ds.eraseIdx i:=by unfold mdel;rw[hfi]
             have hie:i<es.size:=by rw[<- Array.length_toList,hlen];exact hi
             have e3:(es.eraseIdxIfInBounds i).toList=es.toList.eraseIdx i:=by
               unfold Array.eraseIdxIfInBounds;rw[dif_pos hie,Array.toList_eraseIdx]
             refine go _ hdel (by rw[e2,e3];exact hke.erase i) (fun n m d hm hd=>?_);rw[e3,List.getElem?_eraseIdx] at hm;rw[e2,List.getElem?_eraseIdx] at hd;split at hm
             · rename_i hlt;rw[if_pos hlt] at hd;exact hone n m d hm hd
             · rename_i hlt;rw[if_neg hlt] at hd;exact hone (n+1) m d hm hd
       · exact hv.elim
     · exact hv.elim
   · exact hv.elim
 · exact hv.elim
def isC0:Operand->Bool
 | .const (.int _ (.ofNat 0))=>true
 | _=>false
theorem isC0_eq {l:Operand} (h:isC0 l=true):∃k,l=.const (.int k 0):=by
 unfold isC0 at h;split at h
 · exact⟨_,rfl⟩
 · cases h
def make0VC (P:Program) (s:St) (t:TypeId) (m:SV) (K:SV->St->VC):VC:=
 match P.underlying t,m with
 | some (.slice e),.int _ n=>match P.info? e,otOf P 9 e with
   | some ie,some ty=>match ie.zero with
     | some _=>bif Nat.beq ty.size ie.size&&!ty.isMp then .ob (0<=n/\n*(ie.bytes:Int)<=281474976710656/\n<=140737488355328) (K (.own s.rw.length) {s with rw:=s.rw++[Row.mk e ty [] 0 false]}) else .f
     | none=>.f
   | _,_=>.f
 | _,_=>.f
theorem leadsX_make0 {t:TypeId} {l m:Operand} (ho:o.op=.makeSlice t l m) (hl:isC0 l=true):LeadsX P o s (fun K=>make0VC P s t (s.ev m) K):=by
 intro K hv c E a w h next Q hnext;obtain⟨kl,rfl⟩:=isC0_eq hl;have h2:=h.ev m;unfold make0VC at hv;split at hv
 · rename_i e km n hu hm;rw[hm] at h2;split at hv
   · rename_i ie ty hie hty;split at hv
     · rename_i z hz;generalize hc:(Nat.beq ty.size ie.size&&!ty.isMp)=cond at hv;cases cond with
       | false=>exact hv.elim
       | true=>
         simp only[Bool.and_eq_true,Bool.not_eq_true'] at hc;obtain⟨c1,c4⟩:=hc;obtain⟨⟨c0,c2,c3⟩,hv⟩:=hv;have c1:=Nat.eq_of_beq_eq_true c1;obtain⟨n,rfl⟩:=Int.eq_ofNat_of_zero_le c0;have hr:=run_make (P:=P) w t e ie z hu hie hz kl km 0 n (by omega) (by omega) (by rw[Int.mul_comm];exact c2) (by omega);simp only[Int.toNat_natCast,Int.toNat_zero] at hr;have hrun:(execOp a.eval o).run P w=.ok (.value (.slice (some ⟨w.heap.size,0,none⟩) 0 n)) (w.alloc (.cells (madeCells z.cells (n*ie.size)) e)):=by
           unfold execOp;rw[ho];refine run_buildVal ?_;rw[h2.1];exact hr
         unfold Oper.wp;rw[hrun,Oper.upon_value];have h1:=h.addR (w':=w.alloc (.cells (madeCells z.cells (n*ie.size)) e)) (r:=Row.mk e ty [] 0 false) (v:=.slice (some ⟨w.heap.size,0,none⟩) 0 n) (F:=[w.heap.size]) (H:=fun _=>.slice (some ⟨w.heap.size,0,none⟩) 0 n) rfl rfl rfl (by simp) (fun b hb=>Below.heap_alloc w _ b hb) (fun b hb=>by simp at hb;omega) (by simp) (fun hK hS=>by
           refine⟨.inl ⟨_,_,_,rfl⟩,fun _=>⟨[w.heap.size],by simp only[Env.addR];rw[<- h.nfp];simp,?_⟩,fun h=>by cases h⟩;have hnh:(E.addR (.slice (some ⟨w.heap.size,0,none⟩) 0 n) [w.heap.size] (fun _=>.slice (some ⟨w.heap.size,0,none⟩) 0 n)).nh s.rw.length=fun _=>.slice (some ⟨w.heap.size,0,none⟩) 0 n:=by
             simp only[Env.addR,h.nrw,if_true]
           rw[hnh,headT_sl c4];refine⟨[],[],[],rfl,rfl,ownsAt_of (base:=0) ⟨by simp,.inr ⟨w.heap.size,n,madeCells z.cells (n*ie.size),rfl,Nat.zero_le _,heap_alloc_new w _,Nat.zero_le _,by simp only[maxLen];omega,by simp [size_madeCells,c1],by simp⟩⟩,by simp,⟨rfl,rfl⟩,rfl⟩)
         refine hnext _ _ _ _ _ [] hv h1 ⟨row_len h _,.inl ⟨_,_,_,rfl⟩⟩ (E.le_row _ _ _).led (goes_of (by simp) (fun x b hx=>?_) (fun b hb _=>Below.heap_alloc w _ b hb)) (fun _=>rfl);rcases own_addR h hx with h2 | ⟨k,_,h2⟩
         · exact .inl ⟨x,h2⟩
         · have:=List.mem_of_getElem? h2
           simp at this;exact .inr (by omega)
     · exact hv.elim
   · exact hv.elim
 · exact hv.elim
def popK:Option Operand->Option Operand->Option Operand->Option Nat
 | some (.const (.int _ (.ofNat (k+1)))),none,none=>some (k+1)
 | _,_,_=>none
theorem popK_eq {l h m:Option Operand} {k:Nat} (e:popK l h m=some k):∃q,l=some (.const (.int q k))/\h=none/\m=none:=by
 unfold popK at e;split at e
 · simp at e;subst e;exact⟨_,rfl,rfl,rfl⟩
 · cases e
def popVC (P:Program) (s:St) (t:TypeId) (j k:Nat) (K:SV->St->VC):VC:=
 match P.underlying t with
 | some (.slice e)=>match (P.info? e).map (·.size),liveRow s j with
   | some sz,some r=>bif isIm r.e&&Nat.beq r.e.size sz then .ob (k<=r.ds.length) (K (.own s.rw.length) {s with rw:=killL [j] s.rw 0++[Row.mk r.tid r.e (r.ds.drop k) 0 r.lt]}) else .f
   | _,_=>.f
 | _=>.f
theorem leadsX_pop {t:TypeId} {x:Operand} {low high mx:Option Operand} {j k:Nat} (ho:o.op=.slice t x low high mx) (hk:popK low high mx=some k) (hx:s.ev x=.own j):LeadsX P o s (fun K=>popVC P s t j k K):=by
 intro K hv c E a w h next Q hnext;obtain⟨qk,rfl,rfl,rfl⟩:=popK_eq hk;have h1:=h.ev x;rw[hx] at h1;unfold popVC at hv;split at hv
 · rename_i e hu;split at hv
   · rename_i sz r hs hlive;obtain⟨hr,hst⟩:=liveRow_eq hlive;have hmp:=liveRow_mp hlive;cases hc:isIm r.e&&Nat.beq r.e.size sz with
     | false=>rw[hc] at hv;exact hv.elim
     | true=>
       rw[hc] at hv;simp only[Bool.and_eq_true] at hc;obtain⟨hle,hv⟩:=hv;have hsz:=Nat.eq_of_beq_eq_true hc.2;obtain⟨ty,hty⟩:∃ty,r.e=.im ty:=by
         cases he:r.e<;>rw[he] at hc<;>first | exact⟨_,rfl⟩ | (simp [isIm] at hc)
       obtain⟨hF,h2⟩:=h.live_own hr hst h1.1;rw[hty] at h2;obtain⟨ds,xs,F',h3,h4,h5,h6,h7,h8⟩:=h2;simp at h3 h4;subst h4;obtain⟨hF0,hrep⟩:=elems_im_inv h7;subst hF0;have h5:ownsAt w r.tid ty.size (a.eval x) r.ds.length xs:=by rw[h3];exact h5
       have h8:E.fp.getD j []=(a.eval x).ownBlock.toList:=by rw[h3];simpa using h8
       have hkd:popK (some (.const (.int qk k))) none none=some k:=hk;have hk1:1<=k:=by
         unfold popK at hkd;split at hkd
         · simp at hkd;omega
         · cases hkd
       rcases h5.2 with ⟨_,hn⟩ | ⟨g,o',cap,cur,hval,hg,hnc,hcm,hcs,htk⟩
       · omega
       · have hsz':ty.size=sz:=by rw[hty] at hsz;exact hsz
         have hrun:(execOp a.eval o).run P w=.ok (.value (sliced (some ⟨g,o',none⟩) k r.ds.length cap sz)) w:=by
           unfold execOp;rw[ho];refine run_val ?_;have hb:(Instr.sliceBounds true r.ds.length cap (some (a.eval (.const (.int qk k)))) none none).run P w=.ok (k,r.ds.length,cap) w:=by
             simp [Instr.sliceBounds,Act.eval,run_sliceBound w qk (k:Int) r.ds.length _ (by omega) (by omega)]
           simp only[Option.map_some,Option.map_none,hval,Instr.sliceAt,Sem.run_bind,run_underlying hu,Result.andThen_ok,Instr.slice,hb,size_info hs,Sem.run_pure,sliced]
         unfold Oper.wp;rw[hrun,Oper.upon_value];obtain⟨oo,hvv,hoo⟩:∃oo,sliced (some ⟨g,o',none⟩) k r.ds.length cap sz=.slice (some ⟨g,oo,none⟩) (r.ds.length-k) (cap-k)/\(oo=o'+k*sz\/cap-k=0/\oo=o'):=by
           unfold sliced;by_cases hck:cap=k
           · exact⟨o',by rw[if_pos hck],.inr ⟨by omega,rfl⟩⟩
           · exact⟨o'+k*sz,by rw[if_neg hck,Option.map_some,Addr.add_mid],.inl rfl⟩
         have hxl:xs.length=r.ds.length*sz:=by rw[<- hsz'];exact h5.1
         have hown:ownsAt w r.tid ty.size (.slice (some ⟨g,oo,none⟩) (r.ds.length-k) (cap-k)) (r.ds.drop k).length (xs.drop (k*sz)):=by
           have hcs':o'+cap*sz<=cur.size:=by rw[<- hsz'];exact hcs
           have htk':(cur.toList.drop o').take (r.ds.length*sz)=xs:=by rw[<- hsz'];exact htk
           have hm1:(r.ds.length-k)*sz=r.ds.length*sz-k*sz:=Nat.sub_mul _ _ _;have hm2:(cap-k)*sz=cap*sz-k*sz:=Nat.sub_mul _ _ _;have hm3:k*sz<=cap*sz:=Nat.mul_le_mul_right _ (by omega);refine⟨by rw[List.length_drop,List.length_drop,hxl,hsz',hm1],.inr ⟨g,oo,cap-k,cur,by rw[List.length_drop],hg,by rw[List.length_drop];omega,by omega,?_,?_⟩⟩
           · rw[hsz',hm2];rcases hoo with rfl | ⟨h9,rfl⟩
             · omega
             · have:cap*sz-k*sz=0:=by rw[<- hm2,h9,Nat.zero_mul]
               omega
           · rw[List.length_drop,hsz',hm1];rcases hoo with rfl | ⟨h9,rfl⟩
             · rw[<- htk',List.drop_take,List.drop_drop]
             · have:r.ds.length*sz-k*sz=0:=by rw[<- hm1,show r.ds.length-k=0 from by omega,Nat.zero_mul]
               rw[this,List.take_zero,List.drop_eq_nil_of_le (by rw[hxl];omega)]
         have hfp:E.fp.getD j []=[g]:=by rw[h8,hval];rfl
         rw[hfp] at hF;obtain⟨kk,hok⟩:=own_fp hr hst hF (b:=g) (List.mem_singleton.2 rfl);rw[hvv];have h9:=h.regrow (w':=w) rfl rfl rfl (Nat.le_refl _) [j] (fun _ _ _=>rfl) (r:=Row.mk r.tid r.e (r.ds.drop k) 0 r.lt) (v:=.slice (some ⟨g,oo,none⟩) (r.ds.length-k) (cap-k)) (F:=[g]) (H:=fun _=>.slice (some ⟨g,oo,none⟩) (r.ds.length-k) (cap-k)) (fun b hb=>.inr ⟨j,kk,r,hasN_of (List.mem_singleton.2 rfl),by rw[List.mem_singleton.1 hb];exact hok,hr,fun hl=>hl⟩) (by simp) (fun hK hS=>by
           refine⟨.inl ⟨_,_,_,rfl⟩,fun _=>⟨[g],by simp only[Env.addR];rw[<- h.nfp];simp,?_⟩,fun h=>by cases h⟩;have hnh:(E.addR (.slice (some ⟨g,oo,none⟩) (r.ds.length-k) (cap-k)) [g] (fun _=>.slice (some ⟨g,oo,none⟩) (r.ds.length-k) (cap-k))).nh s.rw.length=fun _=>.slice (some ⟨g,oo,none⟩) (r.ds.length-k) (cap-k):=by
             simp only[Env.addR,h.nrw,if_true]
           rw[hnh];have e0:headT (Row.mk r.tid r.e (r.ds.drop k) 0 r.lt).tid (Row.mk r.tid r.e (r.ds.drop k) 0 r.lt).e=.sl r.tid (.im ty):=by show headT r.tid r.e=_;rw[hty];rfl
           rw[e0];refine⟨_,_,[],rfl,rfl,hown,by rw[List.length_drop];omega,elems_im (by rw[List.length_drop,List.length_drop,hxl,hsz',Nat.sub_mul]) (fun n x hx=>?_),rfl⟩;rw[List.getElem?_drop] at hx;have h10:=hrep (k+n) x hx;rw[<- hsz',List.drop_drop,<- Nat.add_mul];exact h10.mono hK hS)
         exact hnext _ _ _ _ _ [] hv h9 ⟨row_len h _,.inl ⟨_,_,_,rfl⟩⟩ (E.le_row _ _ _).led (regrow_goes h (Nat.le_refl _) [j] (fun _ _ _=>rfl) _ _ _ (fun b hb=>.inr (by rw[List.mem_singleton.1 hb];exact⟨_,hok⟩))) (fun _=>rfl)
   · exact hv.elim
 · exact hv.elim
def arrOf (P:Program) (t:TypeId):Option (Nat×IntKind):=
 match P.underlying t with
 | some (.array n e)=>bif Nat.ble 32 n then (match P.underlying e with
   | some (.int k)=>some (n,k)
   | _=>none) else none
 | _=>none
def zeros (k:IntKind) (n:Nat):List Value->Bool
 | []=>Nat.beq n 0
 | .int k' (.ofNat 0)::l=>match n with
   | 0=>false
   | n+1=>kindEq k k'&&zeros k n l
 | _=>false
theorem zeros_eq {k:IntKind}:∀{n:Nat} {l:List Value},zeros k n l=true->l=List.replicate n (.int k 0)
 | n,[],h=>by
   simp [zeros] at h;subst h;rfl
 | n,v::l,h=>by
   unfold zeros at h;split at h
   · rename_i e;cases e
   · rename_i k' l' e;injection e with e1 e2
     subst e1;subst e2;cases n with
     | zero=>cases h
     | succ n=>
       simp only[Bool.and_eq_true] at h;rw[<- kindEq_eq h.1,zeros_eq h.2];rfl
   · cases h
def arrVC (P:Program) (s:St) (t:TypeId) (n:Nat) (k:IntKind) (K:SV->St->VC):VC:=
 match (P.info? t).bind (·.zero) with
 | some z=>bif zeros k n z.cells.toList&&Nat.ble n 140737488355328 then K (.rp s.rw.length [] 0 1 0) {s with rw:=s.rw++[Row.mk t (.im (.int k)) (List.replicate n (.int 0)) 0 false]} else .f
 | none=>.f
theorem elems_zeros {S:Nat->Prop} {w:World} {k:IntKind} {H:Nat->Hd}:∀(n m:Nat),Elems (fun i=>Own S w (.im (.int k)) (H i) 0) m (List.replicate n (.int k 0)) (List.replicate n (.int 0)) []
 | 0,_=>⟨rfl,rfl⟩
 | n+1,m=>⟨[.int k 0],List.replicate n (.int k 0),[],[],rfl,rfl,⟨⟨0,rfl,rfl,by cases k<;>simp [Has,lo,hi]⟩,rfl⟩,elems_zeros n (m+1)⟩
theorem leadsX_arr {t:TypeId} {n:Nat} {k:IntKind} (ho:o.op=.alloc t):LeadsX P o s (fun K=>arrVC P s t n k K):=by
 intro K hv c E a w h next Q hnext;unfold arrVC at hv;split at hv
 · rename_i z hz;cases hc:zeros k n z.cells.toList&&Nat.ble n 140737488355328 with
   | false=>rw[hc] at hv;exact hv.elim
   | true=>
     rw[hc] at hv;simp only[Bool.and_eq_true] at hc;have hcs:=zeros_eq hc.1;have hn:=Nat.le_of_ble_eq_true hc.2;obtain⟨i,hi,hz'⟩:=Option.bind_eq_some_iff.1 hz;have hrun:(execOp a.eval o).run P w=.ok (.value (.pointer (some ⟨w.heap.size,0,none⟩))) (w.alloc (.cells z.cells t)):=by
       unfold execOp;rw[ho];simp only[Instr.alloc,zeroValue,typeInfo,program,Sem.run_bind,Sem.run,Result.andThen_ok,hi,Sem.run_pure,hz',newVar,newRow,newObj];rfl
     unfold Oper.wp;rw[hrun,Oper.upon_value];have hzl:z.cells.toList.length=n:=by rw[hcs,List.length_replicate]
     have h1:=h.addR (w':=w.alloc (.cells z.cells t)) (r:=Row.mk t (.im (.int k)) (List.replicate n (.int 0)) 0 false) (v:=.slice (some ⟨w.heap.size,0,none⟩) n n) (F:=[w.heap.size]) (H:=fun _=>.slice (some ⟨w.heap.size,0,none⟩) n n) rfl rfl rfl (by simp) (fun b hb=>Below.heap_alloc w _ b hb) (fun b hb=>by simp at hb;omega) (by simp) (fun hK hS=>by
       refine⟨.inl ⟨_,_,_,rfl⟩,fun _=>⟨[w.heap.size],by simp only[Env.addR];rw[<- h.nfp];simp,?_⟩,fun h=>by cases h⟩;have hnh:(E.addR (.slice (some ⟨w.heap.size,0,none⟩) n n) [w.heap.size] (fun _=>.slice (some ⟨w.heap.size,0,none⟩) n n)).nh s.rw.length=fun _=>.slice (some ⟨w.heap.size,0,none⟩) n n:=by
         simp only[Env.addR,h.nrw,if_true]
       rw[hnh];refine⟨List.replicate n (.int 0),z.cells.toList,[],rfl,rfl,?_,by simpa using hn,by rw[hcs];exact elems_zeros n 0,rfl⟩;refine⟨by simp [OT.size,Ty.size] at hzl ⊢;exact hzl,.inr ⟨w.heap.size,0,n,z.cells,by rw[List.length_replicate],heap_alloc_new w _,by simp,by simp only[maxLen];omega,by simp [OT.size,Ty.size] at hzl ⊢;omega,by simp [OT.size,Ty.size] at hzl ⊢;rw[List.take_of_length_le (by simp [hzl])]⟩⟩)
     refine hnext _ _ _ _ _ [] hv h1 ⟨(w.heap.size,0),n,n,?_,?_,rfl⟩ (E.le_row _ _ _).led (goes_of (by simp) (fun x b hx=>?_) (fun b hb _=>Below.heap_alloc w _ b hb)) (fun _=>rfl)
     · simp [Env.addR,h.nrw]
     · simp only[Env.addR,h.nrw,if_true]
     · rcases own_addR h hx with h2 | ⟨k,_,h2⟩
       · exact .inl ⟨x,h2⟩
       · have:=List.mem_of_getElem? h2
         simp at this;exact .inr (by omega)
 · exact hv.elim
def nilD (s:St):SV->Option (List Dat)
 | .sl _ ds=>some ds
 | .own j=>match liveRow s j with
   | some r=>bif r.e.isMp then none else some r.ds
   | none=>none
 | .nil=>some []
 | _=>none
theorem nilD_ok {c:Ctx} {E:Env} {a:Act} {w:World} (h:Inv c E s a w) {x:SV} {v:Value} {ds:List Dat} (hx:nilD s x=some ds) (hr:RelV (Reg c E s w) E w x v):∃g n cp,v=.slice g n cp/\(ds≠[]->g≠none):=by
 unfold nilD at hx;split at hx
 · simp at hx;subst hx;obtain⟨g,n,cp,ds,h1,h2,h3,h4,h5,h6⟩:=hr;simp at h1 h2;subst h2;refine⟨g,n,cp,h1,fun hne hg=>?_⟩
   have:n≠0:=fun h0=>hne (List.length_eq_zero_iff.1 (by rw[h3,h0]))
   obtain⟨b,o,hb,_⟩:=h6 this;rw[hg] at hb;cases hb
 · split at hx
   · rename_i r hlive;obtain⟨hr1,hst⟩:=liveRow_eq hlive;cases hm:r.e.isMp with
     | true=>rw[hm] at hx;cases hx
     | false=>
       rw[hm] at hx;simp at hx;subst hx;obtain⟨hF,h2⟩:=h.live_own hr1 hst hr.1;rw[headT_sl hm] at h2;obtain⟨ds,xs,F',h3,h4,h5,_⟩:=h2;simp at h3 h4;subst h4;have h5:ownsAt w r.tid r.e.size v r.ds.length xs:=by rw[h3];exact h5
       obtain⟨g,cp,hv,_⟩:=slice_of_owns h5;refine⟨g,_,cp,hv,fun hne hg=>?_⟩;obtain⟨b,o,cap,hv',_⟩:=range_of_owns h5 (fun h0=>hne (List.length_eq_zero_iff.1 h0));rw[hv,hg] at hv';cases hv'
   · cases hx
 · simp at hx;subst hx;exact⟨none,0,0,hr,fun h=>absurd rfl h⟩
 · cases hx
def isNilV:SV->Bool
 | .nil=>true
 | _=>false
theorem isNilV_ok {x:SV} (h:isNilV x=true):x=.nil:=by cases x<;>simp [isNilV] at h ⊢
def nilVC (P:Program) (s:St) (op:BinOp) (t:TypeId) (x y:SV) (K:SV->St->VC):VC:=
 match P.underlying t,nilD s x with
 | some (.slice _),some ds=>bif isNilV y then (match op with
   | .eql=>.all Bool fun b=>.imp (ds≠[]->b=false) (K (.bool b) s)
   | .neq=>.all Bool fun b=>.imp (ds≠[]->b=true) (K (.bool b) s)
   | _=>.f) else .f
 | _,_=>.f
theorem leadsX_isnil {op:BinOp} {t u:TypeId} {x y:Operand} (ho:o.op=.binOp op t x y u):LeadsX P o s (fun K=>nilVC P s op t (s.ev x) (s.ev y) K):=by
 intro K hv c E a w h next Q hnext;unfold nilVC at hv;split at hv
 · rename_i e ds hu hd;cases hy:isNilV (s.ev y) with
   | false=>rw[hy] at hv;exact hv.elim
   | true=>
     rw[hy] at hv;have h2:=h.ev y;rw[isNilV_ok hy] at h2;have h2:a.eval y=.slice none 0 0:=h2;obtain⟨g,n,cp,h3,h4⟩:=nilD_ok h hd (h.ev x);simp only[cond_true] at hv;split at hv
     · have hrun:(execOp a.eval o).run P w=.ok (.value (.bool g.isNone)) w:=by
         unfold execOp;rw[ho];exact run_val (by rw[h3,h2];simp only[eqGuard_at_slice,pure_bind];exact run_eql_slice_nil w t e g n cp hu)
       unfold Oper.wp;rw[hrun,Oper.upon_value];refine hnext _ _ _ _ _ [] (hv g.isNone fun hne=>?_) h rfl E.le_refl.led (goes_of (Nat.le_refl _) (fun x _ hx=>.inl ⟨x,hx⟩) (fun _ _ _=>rfl)) (fun _=>rfl);cases g with
       | none=>exact absurd rfl (h4 hne)
       | some g=>rfl
     · have hrun:(execOp a.eval o).run P w=.ok (.value (.bool (!g.isNone))) w:=by
         unfold execOp;rw[ho];exact run_val (by rw[h3,h2];simp only[eqGuard_at_slice,pure_bind];exact run_neq_slice_nil_any w t e g n cp 0 0 hu)
       unfold Oper.wp;rw[hrun,Oper.upon_value];refine hnext _ _ _ _ _ [] (hv (!g.isNone) fun hne=>?_) h rfl E.le_refl.led (goes_of (Nat.le_refl _) (fun x _ hx=>.inl ⟨x,hx⟩) (fun _ _ _=>rfl)) (fun _=>rfl);cases g with
       | none=>exact absurd rfl (h4 hne)
       | some g=>rfl
     · exact hv.elim
 · exact hv.elim
end
end
end
end E
end Go.Proofs.YtlfohjkcajaebaaGreat
