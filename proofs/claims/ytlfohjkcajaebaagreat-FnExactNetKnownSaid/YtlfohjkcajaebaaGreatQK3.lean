/- Texts that the claim stands on, part 3. -/
import Derived.Test.YtlfohjkcajaebaaGreatQK2
import Derived.Orders
import Derived.Deep.LoopGhost
import Derived.Test.YtlfohjkcajaebaaGreatProg
set_option linter.all false
namespace Go.Proofs.YtlfohjkcajaebaaGreat
open Go Go.RowKit
open Go.IntKind (i64)
open Tryz
namespace E
noncomputable section
set_option maxRecDepth 100000
section
noncomputable section
section
variable {P:Program} {ct:List (Con P)} {o:Oper} {s:St}
theorem leadsX_cut {t:TypeId} {x:Operand} {low high mx:Option Operand} (ho:o.op=.slice t x low high mx) :
   LeadsX P o s (fun K=>match sliceR P (freezeV s (s.ev x)).1 t (s.ev x) (low.map s.ev) (high.map s.ev) (mx.map s.ev) with
     | some (some p,y)=>.ob p (K y (freezeV s (s.ev x)).1)
     | _=>.f):=by
 intro K hv c E a w h next Q hnext;simp only at hv;split at hv
 · rename_i p y hr;obtain⟨h2,hu,_⟩:=freezeV_ok h (h.ev x);have hfr:=freezeV_fr s (s.ev x);generalize (freezeV s (s.ev x)).1=s2 at *
   have hev:∀y,s2.ev y=s.ev y:=fun y=>by cases y<;>simp [St.ev,hfr]
   have hmap:∀y:Option Operand,y.map s2.ev=y.map s.ev:=fun y=>by cases y<;>simp [hev]
   have hg:=gives_slice (P:=P) (o:=o) (s:=s2) ho;rw[hev,hmap,hmap,hmap] at hg;obtain⟨v,h5,h6⟩:=hg _ _ hr hv.1 c E a w h2;unfold Oper.wp;rw[h5,Oper.upon_value];exact hnext _ _ _ _ _ [] hv.2 h2 h6 E.le_refl.led (under_goes hu) (fun _=>rfl)
 · exact hv.elim
def popJ (k:Option Nat) (x:SV):Option (Nat×Nat):=
 match k,x with
 | some k,.own j=>some (j,k)
 | _,_=>none
theorem popJ_eq {k:Option Nat} {x:SV} {j n:Nat} (h:popJ k x=some (j,n)):k=some n/\x=.own j:=by
 unfold popJ at h;split at h
 · simp at h;obtain⟨rfl,rfl⟩:=h;exact⟨rfl,rfl⟩
 · cases h
def noHole:OT->Bool
 | .im .raw=>false
 | .ho _ _=>false
 | _=>true
theorem noHole_ok {S:Nat->Prop} {w:World} {e:OT} {H:Hd} {b:Nat} {cs:List Value} {F:List Nat} (hn:noHole e=true) (h:Own S w e H b cs hole F):False:=by
 cases e with
 | im t=>
   obtain⟨h,_⟩:=h;have hw:=h.wf;cases t with
   | int k=>obtain⟨n,e,_⟩:=hw;cases e
   | bool=>obtain⟨b,e⟩:=hw;cases e
   | str=>obtain⟨b,e,_⟩:=hw;cases e
   | raw=>cases hn
   | sl e=>obtain⟨ds,e,_⟩:=hw;cases e
   | st fs=>obtain⟨ds,e,_⟩:=hw;cases e
 | sl t e=>obtain⟨_,_,_,_,h,_⟩:=h;cases h
 | st fs=>obtain⟨_,h,_⟩:=h;cases h
 | ho t e=>cases hn
 | mp k v=>obtain⟨_,_,_,_,_,_,_,h,_⟩:=h;cases h
def aliasOf (s:St) (x:SV):Option (Prop×SV):=
 match x with
 | .hs j [(i,o)]=>match s.rw[j]? with
   | some r=>bif (Nat.beq r.st 0&&!r.e.isMp)&&!r.lt then (match locO r.e o 1 with
     | some (.ho _ e,g,_)=>bif noHole e then some (i<r.ds.length/\isA (g (r.ds.getD i default)),.sl e.ty ((g (r.ds.getD i default)).f 1).kids) else none
     | _=>none) else none
   | none=>none
 | _=>none
theorem aliasOf_ok {c:Ctx} {E:Env} {a:Act} {w:World} {x y:SV} {cond:Prop} {v:Value} (h:Inv c E s a w) (hq:aliasOf s x=some (cond,y)) (hc:cond) (hv:RelV (Reg c E s w) E w x v):RelV (Reg c E s w) E w y v:=by
 unfold aliasOf at hq;split at hq
 · rename_i j i o;split at hq
   · rename_i r hr;cases hb:(Nat.beq r.st 0&&!r.e.isMp)&&!r.lt with
     | false=>rw[hb] at hq;cases hq
     | true=>
       rw[hb] at hq;simp only[Bool.and_eq_true,Bool.not_eq_true'] at hb;have hb:=hb.1;simp only[cond_true] at hq;split at hq
       · rename_i t e g st hl;cases hn:noHole e with
         | false=>rw[hn] at hq;cases hq
         | true=>
           rw[hn] at hq;simp only[cond_true,Option.some.injEq,Prod.mk.injEq] at hq;obtain⟨rfl,rfl⟩:=hq;obtain⟨hi,ha⟩:=hc;obtain⟨v0,hv0⟩:=h.row_val hr;obtain⟨_,h1,_⟩:=h.rw j r v0 hr hv0;obtain⟨F,_,h3⟩:=h1 (Nat.eq_of_beq_eq_true hb.1);rw[headT_sl hb.2] at h3;obtain⟨bl,oo,cap,cur,A,F',B,_,_,_,_,_,_,k7,_⟩:=h3.part hi hl;obtain⟨_,k9⟩:=k7;have hv:E.nh j [(i,o)]=v:=hv.2.1;rcases k9 with ⟨k10,_,_⟩ | ⟨ds,xs,F2,k10,_,_,k11,_⟩
           · rcases k10 with k10 | ⟨z,k10,k11⟩
             · rw[k10] at ha;cases ha
             · have k11:Rep (Reg c E s w) w (.sl e.ty) [E.nh j [(i,o)]] z:=k11;rw[hv] at k11;rw[k10];show Rep (Reg c E s w) w (.sl e.ty) [v] (.node z.kids);obtain⟨ds,hz,_⟩:=k11.wf;rw[hz] at k11 ⊢;exact k11
           · rw[k10] at ha;have ha:Dat.node ds=.node [hole,(Dat.node ds).f 1]:=ha;injection ha with ha
             rw[ha] at k11;obtain⟨_,_,_,_,_,_,k12,_⟩:=k11;exact (noHole_ok hn k12).elim
       · cases hq
   · cases hq
 · cases hq
def stepX (P:Program) (ct:List (Con P)) (o:Oper) (s:St) (K:SV->St->VC):VC:=
 match opVal P s o.op with
 | some (none,x)=>know o.op x (K x s)
 | some (some p,x)=>.ob p (match aliasOf s x with
   | some (c,y)=>.ob c (K y s)
   | none=>know o.op x (K x s))
 | none=>match o.op with
   | .box t x=>match (s.ev x).cells with
     | some l=>boxVC s t l K
     | none=>.f
   | .alloc t=>match arrOf P t with
     | some (n,k)=>arrVC P s t n k K
     | none=>match (P.info? t).bind (·.zero) with
       | some z=>boxVC s t (z.cells.toList.map ofLeaf) K
       | none=>.f
   | .store t x y=>storeVC P s t (s.ev x) (s.ev y) K
   | .buildSlice t n parts=>litVC P s t n parts K
   | .makeSlice t l m=>bif isC0 l&&!isC0 m then make0VC P s t (s.ev m) K else makeVC P s t (s.ev l) (s.ev m) K
   | .binOp op t x y _=>nilVC P s op t (s.ev x) (s.ev y) K
   | .makeMap t none=>mapVC P s t K
   | .lookup t m k ok=>lookVC P s t (s.ev m) (s.ev k) ok K
   | .mapUpdate t m k x=>updVC P s t (s.ev m) (s.ev k) (s.ev x) K
   | .call { callee:=.builtin .delete,args:=⟨[m,k]⟩,argTypes:=⟨[t,_]⟩}=>delVC P s t (s.ev m) (s.ev k) K
   | .convert src dst x=>match bytesR P s src dst (s.ev x) with
     | some (some p,y)=>.ob p (K y s)
     | _=>.f
   | .slice t x low high mx=>match popJ (popK low high mx) (s.ev x) with
     | some (j,k)=>popVC P s t j k K
     | none=>match sliceR P (freezeV s (s.ev x)).1 t (s.ev x) (low.map s.ev) (high.map s.ev) (mx.map s.ev) with
       | some (some p,y)=>.ob p (K y (freezeV s (s.ev x)).1)
       | _=>.f
   | .call { callee:=.builtin .append,args:=⟨[x,y]⟩,argTypes:=⟨[t,u]⟩}=>bif Nat.beq t u then appVC2 P s t (s.ev x) (s.ev y) K else .f
   | .call { callee:=.value x,args:=args,..}=>match s.ev x with
     | .fn f caps=>callVC ct s f (args.toList.map s.ev++caps) K
     | .bf f pre=>callVC ct s f (pre++(args.toList.map s.ev++[])) K
     | _=>.f
   | .call { callee:=.invoke x name,args:=args,..}=>match s.ev x with
     | .ifc t l=>match methOf ct t name with
       | some f=>callVC ct s f (.agg l::args.toList.map s.ev) K
       | none=>.f
     | _=>.f
   | _=>.f
theorem leadsX_step:LeadsX P o s (stepX P ct o s):=by
 intro K hv c E a w h next Q hnext;unfold stepX at hv;split at hv
 · rename_i x hx;exact leadsX_val hx K hv c E a w h next Q hnext
 · rename_i p x hx;obtain⟨hp,hv⟩:=hv;split at hv
   · rename_i cond y hy;obtain⟨hc,hv⟩:=hv;obtain⟨v,h1,h2⟩:=gives_op (some p) x hx hp c E a w h;unfold Oper.wp;rw[h1,Oper.upon_value];exact hnext y s E v w [] hv h (aliasOf_ok h hy hc h2) E.le_refl.led (Goes.refl c E s w) (fun _=>rfl)
   · exact leadsX_val hx K ⟨hp,hv⟩ c E a w h next Q hnext
 · split at hv
   · rename_i ho;exact leadsX_box ho K hv c E a w h next Q hnext
   · rename_i ho;split at hv
     · exact leadsX_arr ho K hv c E a w h next Q hnext
     · exact leadsX_alloc ho K hv c E a w h next Q hnext
   · rename_i ho;exact leadsX_store ho K hv c E a w h next Q hnext
   · rename_i ho;exact leadsX_lit ho K hv c E a w h next Q hnext
   · rename_i ho;rename_i t l m;cases hc:isC0 l&&!isC0 m with
     | true=>
       rw[hc] at hv;simp only[Bool.and_eq_true] at hc;exact leadsX_make0 ho hc.1 K hv c E a w h next Q hnext
     | false=>
       rw[hc] at hv;exact leadsX_make ho K hv c E a w h next Q hnext
   · rename_i ho;exact leadsX_isnil ho K hv c E a w h next Q hnext
   · rename_i ho;exact leadsX_map ho K hv c E a w h next Q hnext
   · rename_i ho;exact leadsX_look ho K hv c E a w h next Q hnext
   · rename_i ho;exact leadsX_upd ho K hv c E a w h next Q hnext
   · rename_i ho;exact leadsX_del ho K hv c E a w h next Q hnext
   · rename_i ho;split at hv
     · rename_i p y hr;obtain⟨v,h5,h6⟩:=gives_bytes ho _ _ hr hv.1 c E a w h;unfold Oper.wp;rw[h5,Oper.upon_value];exact hnext _ _ _ _ _ [] hv.2 h h6 E.le_refl.led (Goes.refl c E s w) (fun _=>rfl)
     · exact hv.elim
   · rename_i ho;split at hv
     · rename_i j k hp;obtain⟨hk,hx⟩:=popJ_eq hp;exact leadsX_pop ho hk hx K hv c E a w h next Q hnext
     · exact leadsX_cut ho K hv c E a w h next Q hnext
   · rename_i t u ho;cases hb:Nat.beq t u with
     | false=>rw[hb] at hv;exact hv.elim
     | true=>
       rw[hb] at hv
       have:t=u:=Nat.eq_of_beq_eq_true hb
       subst this;exact leadsX_app2 ho K hv c E a w h next Q hnext
   · rename_i x args ts ho;split at hv
     · rename_i f caps hx;exact leadsX_call (ts:=ts) (pre:=[]) ho (.inl ⟨hx,rfl⟩) K hv c E a w h next Q hnext
     · rename_i f pre hx;exact leadsX_call (ts:=ts) (caps:=[]) ho (.inr ⟨hx,rfl⟩) K hv c E a w h next Q hnext
     · exact hv.elim
   · rename_i x name args ts ho;split at hv
     · rename_i t l hx;split at hv
       · rename_i f hf;exact leadsX_invoke (ts:=ts) ho hx hf K hv c E a w h next Q hnext
       · exact hv.elim
     · exact hv.elim
   · exact hv.elim
def step (P:Program) (ct:List (Con P)) (o:Oper) (s:St) (K:St->VC):VC:=stepX P ct o s (fun x s'=>forceV x fun x=>forceSt (s'.put o.dst x) K)
theorem leads_step:Leads P o s (step P ct o s):=by
 have h:step P ct o s=fun K=>stepX P ct o s (fun x s'=>K (s'.put o.dst x)):=by
   funext K
   unfold step
   congr 1
   funext x s'
   rw[forceV_eq,forceSt_eq]
 rw[h];exact leadsX_step.leads
end
def litB (b:Bool):SV:=match b with | true=>.tt | false=>.ff
def exL (P:Program) (ct:List (Con P)) (ops:Array Oper):List Oper->St->(St->VC)->VC
 | [],s,K=>K s
 | o::r,s,K=>match o.guard with
   | none=>step P ct o s (fun s'=>exL P ct ops r s' K)
   | some (j,want)=>match (ops[j]?).bind (·.dst) with
     | none=>.f
     | some d=>match s.fr[d]? with
       | some .tt=>bif want then step P ct o s (fun s'=>exL P ct ops r s' K) else exL P ct ops r (s.put o.dst (.tup [])) K
       | some .ff=>bif want then exL P ct ops r (s.put o.dst (.tup [])) K else step P ct o s (fun s'=>exL P ct ops r s' K)
       | some (.bool b)=>.and (.imp (b=want) (step P ct o (s.put (some d) (litB want)) (fun s'=>exL P ct ops r s' K)))
           (.imp (b=!want) (exL P ct ops r ((s.put (some d) (litB (!want))).put o.dst (.tup [])) K))
       | some (.tup [])=>exL P ct ops r (s.put o.dst (.tup [])) K
       | _=>.f
theorem RelVs.set_left {S:Nat->Prop} {E:Env} {w:World}:∀{l:List SV} {vs:List Value},RelVs S E w l vs->∀(i:Nat) {x:SV},(∀v,vs[i]?=some v->RelV S E w x v)->RelVs S E w (l.set i x) vs
 | [],_,h,_,_,_=>h
 | _::_,_,⟨u,vs',h1,h2,h3⟩,0,_,hx=>by subst h1;exact⟨u,vs',rfl,hx u rfl,h3⟩
 | _::_,_,⟨u,vs',h1,h2,h3⟩,i+1,_,hx=>by subst h1;exact⟨u,vs',rfl,h2,h3.set_left i (fun v hv=>hx v (by simpa using hv))⟩
theorem litB_rel {S:Nat->Prop} {E:Env} {w:World} {b:Bool}:RelV S E w (litB b) (.bool b):=by cases b<;>exact rfl
theorem Inv.relit {c:Ctx} {E:Env} {s:St} {a:Act} {w:World} (h:Inv c E s a w) {d:Nat} {b:Bool} (hb:s.fr[d]?=some (.bool b)):Inv c E (s.put (some d) (litB b)) a w/\a.tmps[d]?=some (.bool b):=by
 obtain⟨v,hv,hr⟩:=h.fr.get hb;have hr:v=.bool b:=hr;subst hr;refine⟨?_,by simpa using hv⟩;exact⟨h.os,h.tape,h.output,h.size,h.old,h.defers,h.fr.set_left d (fun u hu=>by rw[hv] at hu;simp at hu;subst hu;exact litB_rel),h.nbx,h.nrw,h.nfp,h.bx,h.rw,h.inj,h.new,h.lent,h.lrow,h.fresh,h.bor⟩
theorem Inv.known {c:Ctx} {E:Env} {s:St} {a:Act} {w:World} (h:Inv c E s a w) {d:Nat} {b:Bool} (hb:s.fr[d]?=some (litB b)):a.tmps[d]?=some (.bool b):=by
 obtain⟨v,hv,hr⟩:=h.fr.get hb;have hr:v=.bool b:=by cases b<;>exact hr
 subst hr;simpa using hv
theorem wanted_of {ops:Array Oper} {o:Oper} {a:Act} {j d:Nat} {want b:Bool} (hg:o.guard=some (j,want)) (hd:(ops[j]?).bind (·.dst)=some d) (ht:a.tmps[d]?=some (.bool b)):Region.wanted o (yielded ops a.tmps)=(b == want):=by
 simp only[Region.wanted,hg,yielded,hd,Option.bind_some,ht];cases b<;>cases want<;>rfl
theorem undef_rel {S:Nat->Prop} {E:Env} {w:World}:RelV S E w (.tup []) undef:=⟨[],rfl,rfl⟩
theorem wanted_undef {ops:Array Oper} {o:Oper} {j d:Nat} {want:Bool} {c:Ctx} {E:Env} {s:St} {a:Act} {w:World} (hg:o.guard=some (j,want)) (hd:(ops[j]?).bind (·.dst)=some d) (h:Inv c E s a w) (hs:s.fr[d]?=some (.tup [])):Region.wanted o (yielded ops a.tmps)=false:=by
 obtain⟨v,hv,vs,h1,h2⟩:=h.fr.get hs;have h2:vs=[]:=h2;subst h2;have hv:a.tmps[d]?=some v:=by simpa using hv
 simp only[Region.wanted,hg,yielded,hd,Option.bind_some,hv,h1];cases want<;>rfl
theorem exL_ok {P:Program} {ct:List (Con P)} {ops:Array Oper} {Q:Exit->Act->World->Prop} {K:St->VC} {c:Ctx} (hK:∀s E a w,Inv c E s a w->(K s).den->Q .normal a w) :
   ∀(l:List Oper) (s:St),(exL P ct ops l s K).den->∀E a w,Inv c E s a w->wpList P ops Q l a w
 | [],s,hv,E,a,w,h=>hK s E a w h hv
 | o::r,s,hv,E,a,w,h=>by
   have go:∀s,(step P ct o s (fun s'=>exL P ct ops r s' K)).den->Inv c E s a w->Region.wanted o (yielded ops a.tmps)=true->wpList P ops Q (o::r) a w:=by
     intro s hv h hw;unfold wpList;rw[if_pos hw]
     left
     exact Oper.wp_mono (fun a' w' ⟨s',E',h1,h2⟩=>exL_ok hK r s' h2 E' a' w' h1) (leads_step _ hv c E a w h Q)
   have skip:∀s,(exL P ct ops r (s.put o.dst (.tup [])) K).den->Inv c E s a w->Region.wanted o (yielded ops a.tmps)=false->wpList P ops Q (o::r) a w:=by
     intro s hv h hw;unfold wpList;rw[if_neg (by rw[hw];simp)];exact exL_ok hK r _ hv E _ w (h.put o.dst (x:=.tup []) undef_rel)
   unfold exL at hv;split at hv
   · rename_i hg;exact go s hv h (by simp [Region.wanted,hg])
   · rename_i j want hg;split at hv
     · exact hv.elim
     · rename_i d hd;split at hv
       · rename_i hx;have hw:=wanted_of hg hd (h.known (b:=true) hx);cases want
         · exact skip s hv h hw
         · exact go s hv h hw
       · rename_i hx;have hw:=wanted_of hg hd (h.known (b:=false) hx);cases want
         · exact go s hv h hw
         · exact skip s hv h hw
       · rename_i b hx;obtain⟨h1,h2⟩:=h.relit hx;have hw:=wanted_of hg hd h2;obtain⟨hv1,hv2⟩:=hv;by_cases hbw:b=want
         · subst hbw;exact go _ (hv1 rfl) h1 (by rw[hw];simp)
         · have hbw:b=!want:=by cases b<;>cases want<;>simp_all
           subst hbw;exact skip _ (hv2 rfl) h1 (by rw[hw];cases want<;>rfl)
       · rename_i hx;exact skip s hv h (wanted_undef hg hd h hx)
       · exact hv.elim
end
end
section
noncomputable section
section
variable {P:Program} {ct:List (Con P)} {o:Oper} {s:St}
def conv (s:St) (x:SV):SV:=
 match x with
 | .own j=>match immSl s (.own j) with
   | some (t,ds)=>.sl t ds
   | none=>.un
 | x=>x
theorem conv_rel {c:Ctx} {E:Env} {a:Act} {w:World} (h:Inv c E s a w) {x:SV} {v:Value} (hr:RelV (Reg c E s w) E w x v):RelV (Reg c E s w) E w (conv s x) v:=by
 unfold conv;split
 · split
   · rename_i t ds hi;exact immSl_rel h hi hr
   · trivial
 · exact hr
theorem convs_rel {c:Ctx} {E:Env} {a:Act} {w:World} (h:Inv c E s a w):∀{l:List SV} {vs:List Value},RelVs (Reg c E s w) E w l vs->RelVs (Reg c E s w) E w (l.map (conv s)) vs
 | [],_,hr=>hr
 | _::_,_,⟨v,vs',h1,h2,h3⟩=>⟨v,vs',h1,conv_rel h h2,convs_rel h h3⟩
mutual
def plain:SV->Bool
 | .own _ | .bp _ _ | .rp _ _ _ _ _ | .hs _ _ | .bsl _ _ | .bptr _ _ _=>false
 | .agg l=>plains l
 | .tup l=>plains l
 | .fn _ l=>plains l
 | .ifc _ l=>plains l
 | .bf _ l=>plains l
 | _=>true
def plains:List SV->Bool
 | []=>true
 | x::l=>plain x&&plains l
end
mutual
theorem plain_rel {S:Nat->Prop} {E E':Env} {w:World}:∀{x:SV} {v:Value},plain x=true->RelV S E w x v->RelV S E' w x v
 | .un,_,_,_=>trivial
 | .tt,_,_,h=>h
 | .ff,_,_,h=>h
 | .int _ _,_,_,h=>h
 | .bool _,_,_,h=>h
 | .str _,_,_,h=>h
 | .raw _,_,_,h=>h
 | .nil,_,_,h=>h
 | .sl _ _,_,_,h=>h
 | .own _,_,hp,_=>by simp [plain] at hp
 | .agg l,_,hp,⟨vs,h1,h2⟩=>⟨vs,h1,plains_rel (by simpa [plain] using hp) h2⟩
 | .tup l,_,hp,⟨vs,h1,h2⟩=>⟨vs,h1,plains_rel (by simpa [plain] using hp) h2⟩
 | .bp _ _,_,hp,_=>by simp [plain] at hp
 | .rp _ _ _ _ _,_,hp,_=>by simp [plain] at hp
 | .ptr _ _ _,_,_,h=>h
 | .fn _ _,_,hp,⟨vs,h1,h2⟩=>⟨vs,h1,plains_rel (by simpa [plain] using hp) h2⟩
 | .nilp,_,_,h=>h
 | .ifc _ _,_,hp,⟨vs,h1,h2⟩=>⟨vs,h1,plains_rel (by simpa [plain] using hp) h2⟩
 | .bf _ _,_,hp,⟨vs,h1,h2⟩=>⟨vs,h1,plains_rel (by simpa [plain] using hp) h2⟩
 | .hs _ _,_,hp,_=>by simp [plain] at hp
 | .bsl _ _,_,hp,_=>by simp [plain] at hp
 | .bptr _ _ _,_,hp,_=>by simp [plain] at hp
 | .arr _ _,_,_,h=>h
theorem plains_rel {S:Nat->Prop} {E E':Env} {w:World}:∀{l:List SV} {vs:List Value},plains l=true->RelVs S E w l vs->RelVs S E' w l vs
 | [],_,_,h=>h
 | _::_,_,hp,⟨v,vs',h1,h2,h3⟩=>by
   simp only[plains,Bool.and_eq_true] at hp;exact⟨v,vs',h1,plain_rel hp.1 h2,plains_rel hp.2 h3⟩
end
def argsU (s:St) (loc:Bool) (l:List SV):Option (List Prop×List SV):=
 bif loc then viewVs s [] l else some ([],l.map (conv s))
def getF {P:Program} (ct:List (Con P)) (s:St) (f:FuncId) (l:List SV):R:=
 match ct with
 | []=>none
 | .f0 f' _ loc get _ _::r=>bif Nat.beq f' f then (match argsU s loc l with
     | some (ps,ins)=>(match get ins ⟨[],[],[]⟩ with
       | some (p,out,⟨_,[],[]⟩)=>bif plains ins&&plain out&&(!loc||memless out) then R.ask (conj (p::ps)) out else getF r s f l
       | _=>getF r s f l)
     | none=>getF r s f l) else getF r s f l
 | .fg _ _ _ _ _ _ _::r=>getF r s f l
 | .mt _ _ _ _ _::r=>getF r s f l
def noEnv (w:World):Env:=⟨[],[],[],fun _ _=>undef,fun _=>False,w⟩
theorem memOk_none (S:Nat->Prop) (w:World):MemOk S (noEnv w) ⟨[],[],[]⟩ w:=
 ⟨rfl,rfl,rfl,(fun _ _ _ h=>by simp at h),(fun _ _ _ h=>by simp at h),(fun x _ _ h=>by cases x<;>simp [own,noEnv] at h),(fun x _ h=>by cases x<;>simp [own,noEnv] at h)⟩
theorem own_none (w:World) {x:Slot} {b:Nat}:own (noEnv w) ⟨[],[],[]⟩ x≠some b:=by cases x<;>simp [own,noEnv]
theorem getF_ok {f:FuncId} {l:List SV} {q:Option Prop} {out:SV} {c:Ctx} {E:Env} {a:Act} {w:World} {vs:List Value} (h:Inv c E s a w) (hr:RelVs (Reg c E s w) E w l vs):∀{ct:List (Con P)},getF ct s f l=some (q,out)->met q->Enters P f/\
   Calls P f vs.toArray w fun e w'=>∃v,e=.returned v/\KeepBut (·∈([]:List Nat)) w w'/\RelV (Grow (Reg c E s w) w w') E w' out v
 | [],h',_=>by cases h'
 | .fg f' sg loc G get he ok::r,h',hm=>by
   unfold getF at h';exact getF_ok h hr h' hm
 | .mt _ _ _ _ _::r,h',hm=>by
   unfold getF at h';exact getF_ok h hr h' hm
 | .f0 f' sg loc get he ok::r,h',hm=>by
   unfold getF at h';cases hb:Nat.beq f' f with
   | false=>rw[hb] at h';exact getF_ok h hr h' hm
   | true=>
     rw[hb] at h'
     have:f'=f:=Nat.eq_of_beq_eq_true hb
     subst this;simp only[cond_true] at h';split at h'
     · rename_i ps ins hargs;split at h'
       · rename_i p out' fr' hg;cases hc:plains ins&&plain out'&&(!loc||memless out') with
         | false=>rw[hc] at h';exact getF_ok h hr h' hm
         | true=>
           rw[hc] at h';simp only[cond_true,R.ask,Option.some.injEq,Prod.mk.injEq] at h';obtain⟨rfl,rfl⟩:=h';simp only[Bool.and_eq_true] at hc;obtain⟨⟨c1,c2⟩,c3⟩:=hc;have hall:=conj_mem hm;have hp:=hall p (List.mem_cons_self ..);have hps:∀p∈ps,p:=fun p hp=>hall p (List.mem_cons_of_mem _ hp)
           refine⟨he,?_⟩;have hfn:=ok ins ⟨[],[],[]⟩ _ _ _ hg hp;have hins:RelVs (CallReg loc c E s w [] []) E w ins vs:=by
             unfold argsU at hargs;cases loc with
             | true=>
               exact viewVs_rel (bs:=[]) h hargs hps hr
             | false=>
               simp only[cond_false,Option.some.injEq,Prod.mk.injEq] at hargs;obtain⟨_,rfl⟩:=hargs;exact convs_rel h hr
           refine (hfn (CallReg loc c E s w [] []) (noEnv w) w vs callReg_lt rfl (fun b hb=>hb.elim) (memOk_none _ w) (plains_rel c1 hins)).mono ?_;rintro e w' ⟨_,v,E',rfl,_,hret,hv⟩;refine⟨v,rfl,⟨hret.kept.os,hret.kept.tape,hret.kept.output,hret.kept.size,fun b hb _=>hret.kept.block b hb (fun⟨x,hx⟩=>own_none w hx)⟩,?_⟩;have hv:=plain_rel (E':=E) c2 hv;cases loc with
           | true=>
             simp only[Bool.not_true,Bool.false_or] at c3;exact memless_rel c3 hv
           | false=>exact hv.mono (fun _ _=>rfl) (fun b hb=>hb.1) E.le_refl
       · exact getF_ok h hr h' hm
     · exact getF_ok h hr h' hm
def litU (P:Program) (s:St) (t:TypeId) (n:Nat) (parts:Array (Nat×Operand)):R:=
 match P.underlying t with
 | some (.slice e)=>match P.info? e,tyOf P 9 e with
   | some ie,some ty=>
     bif (Nat.beq n 0||Nat.beq ie.size 0||Nat.ble (2 ^ 24+1) (n*ie.size))||!ie.zero.isSome then none
     else match fillS (fun i=>some (i*ie.size,ie.size)) (List.replicate (n*ie.size) .un) (parts.toList.map fun x=>(x.1,s.ev x.2)) with
       | some l=>match unflatN ty n (l.map (conv s)) with
         | some ds=>bif Nat.beq ty.size ie.size then R.ok (.sl ty ds) else none
         | none=>none
       | none=>none
   | _,_=>none
 | _=>none
def Uni (P:Program) (o:Oper) (s:St) (r:R):Prop:=
 ∀q x,r=some (q,x)->met q->∀c E a w,Inv c E s a w->∀(K:Act->World->Prop) Q,(∀v w',KeepBut (·∈([]:List Nat)) w w'->RelV (Grow (Reg c E s w) w w') E w' x v->K (a.put o.dst v) w')->o.wp P a w K Q
theorem KeepBut.refl (M:Nat->Prop) (w:World):KeepBut M w w:=⟨rfl,rfl,rfl,Nat.le_refl _,fun _ _ _=>rfl⟩
theorem uni_gives {r:R} (h:Gives P o s r):Uni P o s r:=by
 intro q x hr hm c E a w hi K Q hK;obtain⟨v,h1,h2⟩:=h q x hr hm c E a w hi;unfold Oper.wp;rw[h1,Oper.upon_value];exact hK v w (KeepBut.refl _ w) (h2.mono (fun _ _=>rfl) (fun _ hb=>.inl hb) E.le_refl)
theorem uni_lit {t:TypeId} {n:Nat} {parts:Array (Nat×Operand)} (ho:o.op=.buildSlice t n parts):Uni P o s (litU P s t n parts):=by
 intro q x hr hm c E a w h K Q hK;unfold litU at hr;split at hr
 · rename_i e hu;split at hr
   · rename_i ie ty hie hty;cases hb:(Nat.beq n 0||Nat.beq ie.size 0||Nat.ble (2 ^ 24+1) (n*ie.size))||!ie.zero.isSome with
     | true=>rw[hb] at hr;cases hr
     | false=>
       rw[hb] at hr;simp only[cond_false] at hr;simp only[Bool.or_eq_false_iff,Bool.not_eq_eq_eq_not,Bool.not_false] at hb;obtain⟨⟨⟨hb0,hb1⟩,hb2⟩,hb3⟩:=hb;have hb1:ie.size≠0:=fun e=>by rw[e] at hb1;cases hb1
       have hb2:¬n*ie.size > 2 ^ 24:=fun hgt=>by
         have:Nat.ble (2 ^ 24+1) (n*ie.size)=true:=Nat.ble_eq_true_of_le hgt
         rw[this] at hb2;cases hb2
       have hn0:n≠0:=fun e=>by rw[e] at hb0;cases hb0
       obtain⟨z,hz⟩:=Option.isSome_iff_exists.1 hb3;split at hr
       · rename_i l hl;have hun:RelVs (Reg c E s w) E w (List.replicate (n*ie.size) .un) ((Array.range (n*ie.size)).map (z.cells[· % z.cells.size]!)).toList:=by
           have:∀(vs:List Value),RelVs (Reg c E s w) E w (List.replicate vs.length .un) vs:=by
             intro vs
             induction vs with
             | nil=>exact rfl
             | cons v vs ih=>exact⟨v,vs,rfl,trivial,ih⟩
           have h9:=this ((Array.range (n*ie.size)).map (z.cells[· % z.cells.size]!)).toList;simpa using h9
         obtain⟨cs,h2,h3⟩:=fill_rel hl hun (RelParts.of (fun x=>h.ev x) parts.toList);have h6:=convs_rel h h3;split at hr
         · rename_i ds hds;obtain⟨h7,h8,h9⟩:=unflatN_rep hds h6;cases hsz:Nat.beq ty.size ie.size with
           | false=>rw[hsz] at hr;cases hr
           | true=>
             rw[hsz] at hr;simp only[cond_true,R.ok,Option.some.injEq,Prod.mk.injEq] at hr;obtain⟨rfl,rfl⟩:=hr;have hsz:ty.size=ie.size:=Nat.eq_of_beq_eq_true hsz;have hrun:(execOp a.eval o).run P w=.ok (.value (.slice (some ⟨w.heap.size,0,none⟩) n n)) (w.alloc (.cells cs.toArray e)):=by
               unfold execOp;rw[ho];refine run_buildVal ?_;refine run_buildSlice w t e n _ cs.toArray ie z hu hie hz hb2 (fun e=>?_) ?_
               · rcases Nat.mul_eq_zero.1 e with e | e
                 · exact hn0 e
                 · exact hb1 e
               · rw[Array.toArray_toList] at h2;rw[Array.toList_map];exact h2
             have hle:n<=140737488355328:=by
               have:n*1<=n*ie.size:=Nat.mul_le_mul_left _ (by omega)
               omega
             have hkeep:KeepBut (·∈([]:List Nat)) w (w.alloc (.cells cs.toArray e)):=⟨rfl,rfl,rfl,by simp,fun b hb _=>Below.heap_alloc w _ b hb⟩;unfold Oper.wp;rw[hrun,Oper.upon_value];refine hK _ _ hkeep ?_;have hKp:Keeps (Reg c E s w) w (w.alloc (.cells cs.toArray e)):=fun b hb=>Below.heap_alloc w _ b hb.2.1
             refine⟨_,n,n,ds,rfl,rfl,h7,Nat.le_refl _,hle,fun _=>⟨w.heap.size,0,rfl,.inr ⟨Nat.le_refl _,by simp⟩,fun i x hx=>⟨_,?_,(h9 i x hx).mono hKp (fun b hb=>.inl hb)⟩⟩⟩;exact range_take (range_drop (n:=i*ty.size) (range_block (heap_alloc_new w _)))
         · cases hr
       · cases hr
   · cases hr
 · cases hr
def callU {P:Program} (ct:List (Con P)) (s:St) (x:SV) (l:List SV):R:=
 match x with
 | .fn f caps=>getF ct s f (l++caps)
 | _=>none
theorem uni_call {x:Operand} {args:Array Operand} {ts:Array TypeId} (ho:o.op=.call { callee:=.value x,args:=args,argTypes:=ts}):Uni P o s (callU ct s (s.ev x) (args.toList.map s.ev)):=by
 intro q y hr hm c E a w h K Q hK;have h1:=h.ev x;unfold callU at hr;split at hr
 · rename_i f caps hx;rw[hx] at h1;obtain⟨cs,hxv,hcs⟩:=h1;obtain⟨he,hf⟩:=getF_ok h ((evs_rel h args.toList).append hcs) hr hm;have hrun:(execOp a.eval o).run P w=.ok (.enter f (args.toList.map a.eval++cs).toArray) w:=by
     unfold execOp;rw[ho];simp only[resolve,hxv,Deferred.ofValue,pure_bind,invoke]
     have:(#[]++Array.map a.eval args++cs.toArray)=(args.toList.map a.eval++cs).toArray:=by
       apply Array.toList_inj.1;simp
     rw[this];exact he _ w
   unfold Oper.wp;rw[hrun,Oper.upon_enter];refine hf.mono ?_;rintro e w' ⟨v,rfl,hk,hv'⟩;exact hK v w' hk hv'
 · cases hr
def uni (P:Program) (ct:List (Con P)) (s:St) (op:Op):R:=
 match opVal P s op with
 | some r=>some r
 | none=>match op with
   | .convert src dst x=>bytesR P s src dst (s.ev x)
   | .buildSlice t n parts=>litU P s t n parts
   | .call { callee:=.value x,args:=args,..}=>callU ct s (s.ev x) (args.toList.map s.ev)
   | _=>none
theorem uni_ok:Uni P o s (uni P ct s o.op):=by
 unfold uni;split
 · rename_i r hr;intro q x hx;exact uni_gives (r:=some r) (by rw[<- hr];exact gives_op) q x hx
 · split
   · rename_i ho;exact uni_gives (gives_bytes ho)
   · rename_i ho;exact uni_lit ho
   · rename_i ho;exact uni_call ho
   · intro q x hx;cases hx
def tmpsOf:List Operand->List Nat
 | []=>[]
 | .tmp t::l=>t::tmpsOf l
 | _::l=>tmpsOf l
def looks (ops:Array Oper) (o:Oper):List Nat:=
 (match o.guard with
   | some (j,_)=>((ops[j]?).bind (·.dst)).toList
   | none=>[])++tmpsOf o.op.operands.toList
def has (l:List Nat) (k:Nat):Bool:=
 match l with
 | []=>false
 | x::l=>bif Nat.beq x k then true else has l k
theorem has_mem {l:List Nat} {k:Nat} (h:has l k=true):k∈l:=by
 induction l with
 | nil=>cases h
 | cons x l ih=>
   unfold has at h;cases hb:Nat.beq x k with
   | true=>rw[Nat.eq_of_beq_eq_true hb];simp
   | false=>rw[hb] at h;exact List.mem_cons_of_mem _ (ih h)
def decOf (dec:List (Nat×Bool)) (k:Nat):Option Bool:=
 match dec with
 | []=>none
 | (d,b)::r=>bif Nat.beq d k then some b else decOf r k
def seen (dec:List (Nat×Bool)) (k:Nat) (x:SV):SV:=
 match x with
 | .bool b=>match decOf dec k with
   | some b'=>litB b'
   | none=>.bool b
 | x=>x
def view (dec:List (Nat×Bool)) (ts:List Nat):List SV->Nat->List SV
 | [],_=>[]
 | x::l,k=>(bif has ts k then seen dec k x else .un)::view dec ts l (k+1)
def DecOk (dec:List (Nat×Bool)) (fr:List SV):Prop:=∀k b' b,decOf dec k=some b'->fr[k]?=some (.bool b)->b=b'
theorem view_rel {S:Nat->Prop} {E:Env} {w:World} {dec:List (Nat×Bool)} {ts:List Nat}:∀{l:List SV} {vs:List Value} (k:Nat),(∀i b' b,decOf dec (k+i)=some b'->l[i]?=some (.bool b)->has ts (k+i)=true->b=b')->RelVs S E w l vs->RelVs S E w (view dec ts l k) vs
 | [],_,_,_,h=>h
 | x::l,_,k,hd,⟨v,vs',h1,h2,h3⟩=>by
   refine⟨v,vs',h1,?_,view_rel (k+1) (fun i b' b h4 h5 h6=>hd (i+1) b' b (by rw[<- h4];congr 1;omega) (by simpa using h5) (by rw[<- h6];congr 1;omega)) h3⟩;cases ht:has ts k with
   | false=>trivial
   | true=>
     simp only[cond_true];unfold seen;split
     · rename_i b;split
       · rename_i b' hb'
         have:=hd 0 b' b (by rw[Nat.add_zero];exact hb') rfl (by rw[Nat.add_zero];exact ht)
         subst this;have h2:v=.bool b:=h2;rw[h2];exact litB_rel
       · exact h2
     · exact h2
end
end
end
section
noncomputable section
def drop2 (dec:List (Nat×Bool)) (d:Option Nat):List (Nat×Bool):=
 match d with
 | none=>dec
 | some d=>dec.filter fun x=>!Nat.beq x.1 d
def exD (P:Program) (ct:List (Con P)) (ops:Array Oper):List Oper->St->List (Nat×Bool)->(St->VC)->VC
 | [],s,_,K=>K s
 | o::r,s,dec,K=>
   let run (dec:List (Nat×Bool)):VC:=match uni P ct {s with fr:=view dec (looks ops o) s.fr 0} o.op with
     | some (none,x)=>know o.op x (exD P ct ops r (s.put o.dst x) (drop2 dec o.dst) K)
     | some (some p,x)=>.ob p (know o.op x (exD P ct ops r (s.put o.dst x) (drop2 dec o.dst) K))
     | none=>.f
   let skip (dec:List (Nat×Bool)):VC:=exD P ct ops r (s.put o.dst (.tup [])) (drop2 dec o.dst) K
   match o.guard with
   | none=>run dec
   | some (j,want)=>match (ops[j]?).bind (·.dst) with
     | none=>.f
     | some d=>match s.fr[d]?,decOf dec d with
       | some (.tup []),_=>skip dec
       | some .tt,_=>bif want then run dec else skip dec
       | some .ff,_=>bif want then skip dec else run dec
       | some (.bool _),some b'=>bif (match b',want with | true,true=>true | false,false=>true | _,_=>false) then run dec else skip dec
       | some (.bool b),none=>.and (.imp (b=want) (run ((d,want)::dec))) (.imp (b=!want) (skip ((d,!want)::dec)))
       | _,_=>.f
theorem grow_le {c:Ctx} {E:Env} {s:St} {a:Act} {w w':World} {M:Nat->Prop} (h:Inv c E s a w) (hk:KeepBut M w w') {s':St} (ho:own E s'=own E s) (b:Nat) (hb:Grow (Reg c E s w) w w' b):Reg c E s' w' b:=by
 rcases hb with h1 | ⟨h1,h2⟩
 · exact⟨h1.1,Nat.lt_of_lt_of_le h1.2.1 hk.size,fun x hx=>h1.2.2 x (by rw[ho] at hx;exact hx)⟩
 · refine⟨.inr (Nat.le_trans h.size h1),h2,fun x hx=>?_⟩;rw[ho] at hx
   have:=h.own_lt hx;omega
theorem Inv.call0 {c:Ctx} {E:Env} {s:St} {a:Act} {w w':World} (h:Inv c E s a w) (hk:KeepBut (·∈([]:List Nat)) w w'):Inv c E s a w':=by
 refine h.move hk.os hk.tape hk.output hk.size (fun x b hx=>.inl ⟨x,hx⟩) (fun b hb _=>hk.block b hb (by simp)) E.le_refl rfl h.nbx h.nrw h.nfp ?_ ?_ h.inj h.fresh
 · intro hK hS j p b hp hb;exact (h.bx j p b hp hb).mono hK hS E.le_refl (hk.block b (h.box_lt hb) (by simp))
 · intro hK hS j r v hr hv;exact h.row_keep hr hv hK hS E.le_refl (fun _ k b hb=>hk.block b (h.own_lt hb) (by simp))
section
variable {P:Program} {ct:List (Con P)} {ops:Array Oper}
def RunOk (P:Program) (ops:Array Oper) (o:Oper) (s:St) (x:SV):Prop:=
 ∀s':St,s'.fr.length=s.fr.length->s'.bx=s.bx->s'.rw=s.rw->(∀t∈looks ops o,s'.fr[t]?=s.fr[t]?)->∀c E a w,Inv c E s' a w->∀(K:Act->World->Prop) Q,(∀v w',Inv c E s' a w'->RelV (Reg c E s' w') E w' x v->K (a.put o.dst v) w')->
   if Region.wanted o (yielded ops a.tmps)=true then o.wp P a w K Q else K (a.put o.dst undef) w
def CertD (P:Program) (ops:Array Oper):List Oper->St->(St->Prop)->Prop
 | [],s,F=>F s
 | o::r,s,F=>∃x,RunOk P ops o s x/\CertD P ops r (s.put o.dst x) F
theorem decOf_drop2 {dec:List (Nat×Bool)} {d:Option Nat} {k:Nat} {b:Bool} (h:decOf (drop2 dec d) k=some b):decOf dec k=some b/\d≠some k:=by
 cases d with
 | none=>exact⟨h,by simp⟩
 | some d=>
   induction dec with
   | nil=>simp [drop2,decOf] at h
   | cons x dec ih=>
     simp only[drop2,List.filter_cons] at h;cases hb:Nat.beq x.1 d with
     | true=>
       have hx:x.1=d:=Nat.eq_of_beq_eq_true hb;rw[hb] at h;simp only[Bool.not_true,Bool.false_eq_true,if_false] at h;obtain⟨h1,h2⟩:=ih h;refine⟨?_,h2⟩;obtain⟨x1,x2⟩:=x;simp only at hx;subst hx;unfold decOf;cases hk:Nat.beq x1 k with
       | true=>exact absurd (by rw[Nat.eq_of_beq_eq_true hk]) h2
       | false=>exact h1
     | false=>
       rw[hb] at h;simp only[Bool.not_false,if_true] at h;obtain⟨x1,x2⟩:=x;unfold decOf at h ⊢;cases hk:Nat.beq x1 k with
       | true=>
         rw[hk] at h;refine⟨h,fun e=>?_⟩;simp at e
         have:x1=k:=Nat.eq_of_beq_eq_true hk
         rw[e] at hb;simp only at hb;rw[this] at hb;simp at hb
       | false=>rw[hk] at h;exact ih h
theorem DecOk.put {dec:List (Nat×Bool)} {s:St} (h:DecOk dec s.fr) (d:Option Nat) (x:SV):DecOk (drop2 dec d) (s.put d x).fr:=by
 intro k b' b h1 h2;obtain⟨h3,h4⟩:=decOf_drop2 h1;refine h k b' b h3 ?_;cases d with
 | none=>exact h2
 | some d=>
   have hne:d≠k:=fun e=>h4 (by rw[e])
   simpa [St.put,List.getElem?_set_ne hne] using h2
theorem view_agree {dec:List (Nat×Bool)} {ts:List Nat}:∀{l l':List SV} (k:Nat),l.length=l'.length->(∀i,has ts (k+i)=true->l[i]?=l'[i]?)->view dec ts l k=view dec ts l' k
 | [],[],_,_,_=>rfl
 | [],_::_,_,h,_=>by simp at h
 | _::_,[],_,h,_=>by simp at h
 | x::l,y::l',k,h,ha=>by
   unfold view;rw[view_agree (k+1) (by simpa using h) (fun i hi=>by
     have:=ha (i+1) (by rw[<- hi];congr 1;omega)
     simpa using this)]
   cases ht:has ts k with
   | false=>rfl
   | true=>
     have:=ha 0 (by rw[Nat.add_zero];exact ht)
     simp at this;rw[this]
theorem run_of {o:Oper} {s:St} {dec:List (Nat×Bool)} {q:Option Prop} {x:SV} (hd:DecOk dec s.fr) (hu:uni P ct {s with fr:=view dec (looks ops o) s.fr 0} o.op=some (q,x)) (hm:met q)
   (hw:∀(s':St) c E a w,(∀t∈looks ops o,s'.fr[t]?=s.fr[t]?)->Inv c E s' a w->Region.wanted o (yielded ops a.tmps)=true):RunOk P ops o s x:=by
 intro s' hln hbx hrw hag c E a w h K Q hK;rw[if_pos (hw s' c E a w hag h)];have hv:view dec (looks ops o) s'.fr 0=view dec (looks ops o) s.fr 0:=view_agree 0 hln (fun i hi=>hag i (by rw[Nat.zero_add] at hi;exact has_mem hi));have hsv:({s with fr:=view dec (looks ops o) s.fr 0}:St)={s' with fr:=view dec (looks ops o) s'.fr 0}:=by rw[hv,<- hbx,<- hrw]
 rw[hsv] at hu;have hi:Inv c E {s' with fr:=view dec (looks ops o) s'.fr 0} a w:=
   ⟨h.os,h.tape,h.output,h.size,h.old,h.defers,view_rel 0 (fun i b' b h1 h2 h3=>by
     rw[Nat.zero_add] at h1 h3;exact hd i b' b h1 (by rw[<- hag i (has_mem h3)];exact h2)) h.fr,h.nbx,h.nrw,h.nfp,h.bx,h.rw,h.inj,h.new,h.lent,h.lrow,h.fresh,h.bor⟩
 refine uni_ok q x hu hm c E a w hi K Q (fun v w' hk hr=>hK v w' (h.call0 hk) ?_);exact hr.mono (fun _ _=>rfl) (fun b hb=>grow_le h hk (s':=s') rfl b hb) E.le_refl
theorem skip_of {o:Oper} {s:St} (hw:∀(s':St) c E a w,(∀t∈looks ops o,s'.fr[t]?=s.fr[t]?)->Inv c E s' a w->Region.wanted o (yielded ops a.tmps)=false):RunOk P ops o s (.tup []):=by
 intro s' hln hbx hrw hag c E a w h K Q hK;rw[if_neg (by rw[hw s' c E a w hag h];simp)];exact hK undef w h undef_rel
theorem decOf_cons {dec:List (Nat×Bool)} {d k:Nat} {b b':Bool} (h:decOf ((d,b)::dec) k=some b'):(k=d/\b'=b)\/decOf dec k=some b':=by
 unfold decOf at h;cases hk:Nat.beq d k with
 | true=>rw[hk] at h;simp at h;exact .inl ⟨(Nat.eq_of_beq_eq_true hk).symm,h.symm⟩
 | false=>rw[hk] at h;exact .inr h
theorem wp_const {o:Oper} {a:Act} {w:World} {φ:Prop} (h:o.wp P a w (fun _ _=>φ) (fun _ _ _=>φ)):φ:=by
 unfold Oper.wp Oper.upon at h;split at h
 · exact h
 · exact h
 · exact h
 · obtain⟨e,w',fr,hr,_⟩:=h [];cases e with
   | returned v=>exact hr
   | panicked ch=>exact hr
   | outgrown=>obtain⟨_,_,hr⟩:=hr;exact hr
 · obtain⟨v,w',hr,_⟩:=h default [];exact hr
 · exact h
 · exact h.elim
theorem exD_cert {K:St->VC} {c:Ctx} {E:Env}:∀(l:List Oper) (s:St) (dec:List (Nat×Bool)) (a:Act) (w:World),Inv c E s a w->DecOk dec s.fr->(exD P ct ops l s dec K).den->CertD P ops l s (fun s'=>(K s').den)
 | [],s,dec,_,_,_,_,hv=>hv
 | o::r,s,dec,a,w,hinv,hd,hv=>by
   have next:∀{x:SV} {φ:Prop},RunOk P ops o s x->(∀v w',Inv c E s a w'->RelV (Reg c E s w') E w' x v->φ)->φ:=by
     intro x φ hrun h
     have:=hrun s rfl rfl rfl (fun _ _=>rfl) c E a w hinv (fun _ _=>φ) (fun _ _ _=>φ) h
     split at this
     · exact wp_const this
     · exact this
   have run:∀dec,DecOk dec s.fr->(match uni P ct {s with fr:=view dec (looks ops o) s.fr 0} o.op with
       | some (none,x)=>know o.op x (exD P ct ops r (s.put o.dst x) (drop2 dec o.dst) K)
       | some (some p,x)=>.ob p (know o.op x (exD P ct ops r (s.put o.dst x) (drop2 dec o.dst) K))
       | none=>.f).den->(∀(s':St) c E a w,(∀t∈looks ops o,s'.fr[t]?=s.fr[t]?)->Inv c E s' a w->Region.wanted o (yielded ops a.tmps)=true)->CertD P ops (o::r) s (fun s'=>(K s').den):=by
     intro dec hd hv hw;split at hv
     · rename_i x hu;have hrun:=run_of hd hu trivial hw;exact next hrun (fun v w' hi hr=>⟨x,hrun,exD_cert r _ _ _ _ (hi.put o.dst hr) (hd.put _ _) (know_ok hv hr)⟩)
     · rename_i p x hu;have hrun:=run_of hd hu hv.1 hw;exact next hrun (fun v w' hi hr=>⟨x,hrun,exD_cert r _ _ _ _ (hi.put o.dst hr) (hd.put _ _) (know_ok hv.2 hr)⟩)
     · exact hv.elim
   have skip:∀dec,DecOk dec s.fr->(exD P ct ops r (s.put o.dst (.tup [])) (drop2 dec o.dst) K).den->(∀(s':St) c E a w,(∀t∈looks ops o,s'.fr[t]?=s.fr[t]?)->Inv c E s' a w->Region.wanted o (yielded ops a.tmps)=false)->CertD P ops (o::r) s (fun s'=>(K s').den):=
     fun dec hd hv hw=>⟨.tup [],skip_of hw,exD_cert r _ _ (a.put o.dst undef) w (hinv.put o.dst (x:=.tup []) undef_rel) (hd.put _ _) hv⟩
   unfold exD at hv;simp only at hv;split at hv
   · rename_i hg;exact run dec hd hv (fun _ _ _ _ _ _ _=>by simp [Region.wanted,hg])
   · rename_i j want hg;split at hv
     · exact hv.elim
     · rename_i d hdst;have hlook:d∈looks ops o:=by simp [looks,hg,hdst]
       have want1:∀b,s.fr[d]?=some (litB b)->∀(s':St) c E a w,(∀t∈looks ops o,s'.fr[t]?=s.fr[t]?)->Inv c E s' a w->Region.wanted o (yielded ops a.tmps)=(b == want):=fun b hb s' c E a w hag h=>wanted_of hg hdst (h.known (by rw[hag d hlook];exact hb))
       have want2:∀b,s.fr[d]?=some (.bool b)->∀(s':St) c E a w,(∀t∈looks ops o,s'.fr[t]?=s.fr[t]?)->Inv c E s' a w->Region.wanted o (yielded ops a.tmps)=(b == want):=fun b hb s' c E a w hag h=>wanted_of hg hdst (h.relit (by rw[hag d hlook];exact hb)).2
       split at hv
       · rename_i hx;exact skip dec hd hv (fun s' c E a w hag h=>wanted_undef hg hdst h (by rw[hag d hlook];exact hx))
       · rename_i hx;have hw:=want1 true hx;cases want
         · exact skip dec hd hv hw
         · exact run dec hd hv hw
       · rename_i hx;have hw:=want1 false hx;cases want
         · exact run dec hd hv hw
         · exact skip dec hd hv hw
       · rename_i b b' hx hb';have hbb:b=b':=hd d b' b hb' hx;subst hbb;have hw:=want2 b hx;cases b<;>cases want
         · exact run dec hd hv hw
         · exact skip dec hd hv hw
         · exact skip dec hd hv hw
         · exact run dec hd hv hw
       · rename_i b hx hb';obtain⟨hv1,hv2⟩:=hv;have hw:=want2 b hx;have hdec:∀b0,b=b0->DecOk ((d,b0)::dec) s.fr:=by
           intro b0 hb0 k b1 b2 h1 h2;rcases decOf_cons h1 with ⟨rfl,rfl⟩ | h1
           · rw[hx] at h2;simp at h2;rw[<- h2,hb0]
           · exact hd k b1 b2 h1 h2
         by_cases hbw:b=want
         · refine run _ (hdec want hbw) (hv1 hbw) (fun s' c E a w h1 h2=>?_);rw[hw s' c E a w h1 h2,hbw];simp
         · have hbw:b=!want:=by cases b<;>cases want<;>simp_all
           refine skip _ (hdec (!want) hbw) (hv2 hbw) (fun s' c E a w h1 h2=>?_);rw[hw s' c E a w h1 h2,hbw];cases want<;>rfl
       · exact hv.elim
end
end
end
section
noncomputable section
def wrF (t:Nat):List Oper->Nat->Option Nat
 | [],_=>none
 | o::r,k=>match o.dst with
   | some d=>bif Nat.beq d t then some k else wrF t r (k+1)
   | none=>wrF t r (k+1)
def onceF:List Oper->Nat->List Oper->Bool
 | [],_,_=>true
 | o::r,k,all=>(match o.dst with
   | some d=>(match wrF d all 0 with | some j=>Nat.beq j k | none=>false)
   | none=>true)&&onceF r (k+1) all
def edges (o:Oper):List Nat:=o.after.toList.filterMap fun e=>bif Region.binds .any e then some e.on else none
def edgesF:List Oper->Nat->List Oper->Array Oper->Bool
 | [],_,_,_=>true
 | o::r,k,all,ops=>(edges o).all (fun j=>Nat.blt j k)&&(looks ops o).all (fun t=>match wrF t all 0 with | some j=>has (edges o) j | none=>true)&&edgesF r (k+1) all ops
def drawOk (ops:Array Oper):Bool:=onceF ops.toList 0 ops.toList&&edgesF ops.toList 0 ops.toList ops
theorem wrF_some {t:Nat}:∀{l:List Oper} {k j:Nat},wrF t l k=some j->k<=j/\∃o,l[j-k]?=some o/\o.dst=some t
 | [],_,_,h=>by cases h
 | o::r,k,j,h=>by
   unfold wrF at h;have rest:wrF t r (k+1)=some j->k<=j/\∃o',(o::r)[j-k]?=some o'/\o'.dst=some t:=by
     intro h;obtain⟨h1,o',h2,h3⟩:=wrF_some h;refine⟨by omega,o',?_,h3⟩;rw[show j-k=(j-(k+1))+1 from by omega];simpa using h2
   split at h
   · rename_i d hd;cases hb:Nat.beq d t with
     | true=>
       rw[hb] at h;simp at h;subst h;exact⟨Nat.le_refl _,o,by simp,by rw[hd,Nat.eq_of_beq_eq_true hb]⟩
     | false=>rw[hb] at h;exact rest h
   · exact rest h
theorem onceF_ok {all:List Oper}:∀{l:List Oper} {k:Nat},onceF l k all=true->∀i o d,l[i]?=some o->o.dst=some d->wrF d all 0=some (k+i)
 | [],_,_,_,_,_,hi,_=>by simp at hi
 | o::r,k,h,i,o',d,hi,hd=>by
   unfold onceF at h;simp only[Bool.and_eq_true] at h;cases i with
   | zero=>
     simp at hi;subst hi;have h1:=h.1;rw[hd] at h1;simp only at h1;split at h1
     · rename_i j hj;rw[hj,Nat.eq_of_beq_eq_true h1];rfl
     · cases h1
   | succ i=>
     have:=onceF_ok h.2 i o' d (by simpa using hi) hd
     rw[this];congr 1;omega
theorem edgesF_ok {all:List Oper} {ops:Array Oper}:∀{l:List Oper} {k:Nat},edgesF l k all ops=true->∀i o,l[i]?=some o->(∀j∈edges o,j<k+i)/\∀t∈looks ops o,∀j,wrF t all 0=some j->j∈edges o
 | [],_,_,_,_,hi=>by simp at hi
 | o::r,k,h,i,o',hi=>by
   unfold edgesF at h;simp only[Bool.and_eq_true] at h;cases i with
   | zero=>
     simp at hi;subst hi;refine⟨fun j hj=>?_,fun t ht j hj=>?_⟩
     · have:=List.all_eq_true.1 h.1.1 j hj
       exact Nat.le_of_ble_eq_true this
     · have:=List.all_eq_true.1 h.1.2 t ht
       rw[hj] at this;exact has_mem this
   | succ i=>
     obtain⟨h1,h2⟩:=edgesF_ok h.2 i o' (by simpa using hi);exact⟨fun j hj=>by have:=h1 j hj;omega,h2⟩
section
variable {P:Program} {ops:Array Oper}
def frL (ops:List Oper) (xs:List SV) (L:Nat->Bool) (fr:List SV):List SV:=
 fr.mapIdx fun t y=>match wrF t ops 0 with
   | some j=>if L j=true then xs.getD j .un else y
   | none=>y
theorem frL_length (ops:List Oper) (xs:List SV) (L:Nat->Bool) (fr:List SV):(frL ops xs L fr).length=fr.length:=by simp [frL]
theorem frL_get {ops:List Oper} {xs:List SV} {L:Nat->Bool} {fr:List SV} {t:Nat}:(frL ops xs L fr)[t]?=(fr[t]?).map fun y=>match wrF t ops 0 with
   | some j=>if L j=true then xs.getD j .un else y
   | none=>y:=by simp [frL]
theorem frL_none (ops:List Oper) (xs:List SV) (fr:List SV) {L:Nat->Bool} (h:∀j,L j=false):frL ops xs L fr=fr:=by
 apply List.ext_getElem?;intro t;rw[frL_get];cases hf:fr[t]? with
 | none=>rfl
 | some y=>
   simp only[Option.map_some];split
   · simp [h]
   · rfl
theorem frL_up {ops:List Oper} {xs:List SV} {L L':Nat->Bool} {fr:List SV} {i:Nat} {o:Oper} (honce:onceF ops 0 ops=true) (ho:ops[i]?=some o) (hL:∀j,L' j=if j=i then true else L j) (s:St) (hs:s.fr=frL ops xs L fr) :
   (s.put o.dst (xs.getD i .un)).fr=frL ops xs L' fr:=by
 apply List.ext_getElem?;intro t;cases hd:o.dst with
 | none=>
   show s.fr[t]?=_;rw[hs,frL_get,frL_get];cases hf:fr[t]? with
   | none=>rfl
   | some y=>
     simp only[Option.map_some];split
     · rename_i j hj;obtain⟨_,o',h1,h2⟩:=wrF_some hj
       have:j≠i:=fun e=>by subst e;simp only[Nat.sub_zero] at h1;rw[ho] at h1;simp at h1;subst h1;rw[hd] at h2;cases h2
       rw[hL,if_neg this]
     · rfl
 | some d=>
   have hw:=onceF_ok honce i o d ho hd;rw[Nat.zero_add] at hw;show (s.fr.set d _)[t]?=_;rw[List.getElem?_set,hs,frL_get,frL_get,frL_length];split
   · rename_i e;subst e;rw[hw];split
     · rename_i hlt;rw[List.getElem?_eq_getElem hlt];simp [hL]
     · rename_i hlt;rw[List.getElem?_eq_none (by omega)];rfl
   · rename_i e;cases hf:fr[t]? with
     | none=>rfl
     | some y=>
       simp only[Option.map_some];split
       · rename_i j hj;obtain⟨_,o',h1,h2⟩:=wrF_some hj
         have:j≠i:=fun e'=>by subst e';simp only[Nat.sub_zero] at h1;rw[ho] at h1;simp at h1;subst h1;rw[hd] at h2;simp at h2;exact e h2
         rw[hL,if_neg this]
       · rfl
theorem cert_all {F:St->Prop} {all:List Oper} (honce:onceF all 0 all=true) {s0:St}:∀(l:List Oper) (k:Nat) (xs:List SV) (s:St),all.drop k=l->xs.length=k->CertD P ops l s F->
   s.bx=s0.bx->s.rw=s0.rw->(∀ys,s.fr=frL all (xs++ys) (fun j=>decide (j<k)) s0.fr)->
   ∃zs:List SV,zs.length=l.length/\(∀i o,l[i]?=some o->RunOk P ops o {s0 with fr:=frL all (xs++zs) (fun j=>decide (j<k+i)) s0.fr} (zs.getD i .un))/\F {s0 with fr:=frL all (xs++zs) (fun j=>decide (j<k+l.length)) s0.fr}
 | [],k,xs,s,_,hx,hc,hbx,hrw,hfr=>by
   refine⟨[],rfl,fun i o hi=>by simp at hi,?_⟩
   have:s={s0 with fr:=frL all (xs++[]) (fun j=>decide (j<k+0)) s0.fr}:=by
     rw[<- hbx,<- hrw,Nat.add_zero,<- hfr []]
   simp only[List.length_nil];rw[<- show s=_ from this];exact hc
 | o::r,k,xs,s,hl,hx,⟨x,hrun,hc⟩,hbx,hrw,hfr=>by
   have ho:all[k]?=some o:=by
     have:=congrArg (·[0]?) hl
     simpa using this
   have hup:∀ys,(s.put o.dst x).fr=frL all ((xs++[x])++ys) (fun j=>decide (j<k+1)) s0.fr:=by
     intro ys;have h1:=frL_up (xs:=(xs++[x])++ys) (L:=fun j=>decide (j<k)) (L':=fun j=>decide (j<k+1)) (fr:=s0.fr) honce ho (fun j=>by
       by_cases e:j=k
       · subst e;simp
       · rw[if_neg e];congr 1;simp;omega) s (by rw[List.append_assoc];exact hfr _)
     have h2:((xs++[x])++ys).getD k .un=x:=by
       rw[List.append_assoc,List.getD_eq_getElem?_getD,List.getElem?_append_right (by omega),hx];simp
     rw[h2] at h1;exact h1
   have hput:(s.put o.dst x).bx=s0.bx/\(s.put o.dst x).rw=s0.rw:=by
     cases o.dst<;>exact⟨hbx,hrw⟩
   obtain⟨zs,h3,h4,h5⟩:=cert_all honce r (k+1) (xs++[x]) (s.put o.dst x) (by rw[<- List.drop_drop,hl];rfl) (by simp [hx]) hc hput.1 hput.2 hup;have he:(xs++[x])++zs=xs++(x::zs):=by simp
   rw[he] at h5;refine⟨x::zs,by simp [h3],fun i o' hi=>?_,?_⟩
   · cases i with
     | zero=>
       simp at hi;subst hi
       have:s={s0 with fr:=frL all (xs++(x::zs)) (fun j=>decide (j<k+0)) s0.fr}:=by
         rw[<- hbx,<- hrw,Nat.add_zero,<- hfr]
       rw[<- show s=_ from this];exact hrun
     | succ i=>
       have h6:=h4 i o' (by simpa using hi);rw[he] at h6;rw[show k+(i+1)=k+1+i from by omega];simpa using h6
   · rw[show k+(o::r).length=k+1+r.length from by simp;omega];exact h5
theorem mem_ready' {listed:Array Bool} {i:Nat} (h:i∈Region.ready .any ops listed):i<ops.size/\listed.getD i true=false/\∀o,ops[i]?=some o->∀j∈edges o,listed.getD j false=true:=by
 simp only[Region.ready,List.mem_filter,List.mem_range,Bool.and_eq_true,Bool.not_eq_eq_eq_not,Bool.not_true] at h;refine⟨h.1,h.2.1,fun o ho j hj=>?_⟩;have h3:=h.2.2;rw[ho] at h3;simp only[Option.map_some,Option.getD_some,Array.all_eq_true_iff_forall_mem,Bool.or_eq_true,Bool.not_eq_eq_eq_not,Bool.not_true] at h3;simp only[edges,List.mem_filterMap,Array.mem_toList_iff] at hj;obtain⟨e,he,hb⟩:=hj;cases hbi:Region.binds .any e with
 | false=>rw[hbi] at hb;cases hb
 | true=>
   rw[hbi] at hb;simp at hb;subst hb;rcases h3 e he with h4 | h4
   · rw[hbi] at h4;cases h4
   · exact h4
theorem ready_of {listed:Array Bool} {i:Nat} {o:Oper} (ho:ops[i]?=some o) (h1:listed.getD i true=false) (h2:∀j∈edges o,listed.getD j false=true):i∈Region.ready .any ops listed:=by
 have hlt:i<ops.size:=(Array.getElem?_eq_some_iff.1 ho).1;simp only[Region.ready,List.mem_filter,List.mem_range,Bool.and_eq_true,Bool.not_eq_eq_eq_not,Bool.not_true];refine⟨hlt,h1,?_⟩;rw[ho];simp only[Option.map_some,Option.getD_some,Array.all_eq_true_iff_forall_mem,Bool.or_eq_true,Bool.not_eq_eq_eq_not,Bool.not_true];intro e he;cases hbi:Region.binds .any e with
 | false=>exact .inl rfl
 | true=>
   right
   exact h2 _ (by
     simp only[edges,List.mem_filterMap,Array.mem_toList_iff];exact⟨e,he,by rw[hbi];rfl⟩)
def count (listed:Array Bool):Nat:=(listed.toList.filter (!·)).length
theorem any_ok {Q:Exit->Act->World->Prop} {s0:St} {zs:List SV} {c:Ctx} (hdraw:drawOk ops=true)
   (hrun:∀i o,ops.toList[i]?=some o->RunOk P ops o {s0 with fr:=frL ops.toList zs (fun j=>decide (j<i)) s0.fr} (zs.getD i .un))
   (hQ:∀E a w,Inv c E {s0 with fr:=frL ops.toList zs (fun j=>decide (j<ops.size)) s0.fr} a w->Q .normal a w) :
   ∀(fuel:Nat) (listed:Array Bool) E a w,listed.size=ops.size->count listed<=fuel->Inv c E {s0 with fr:=frL ops.toList zs (fun j=>listed.getD j false) s0.fr} a w->wpAny P .any ops Q fuel listed a w:=by
 simp only[drawOk,Bool.and_eq_true] at hdraw;obtain⟨honce,hedge⟩:=hdraw;have done:∀(listed:Array Bool) E a w,listed.size=ops.size->Region.ready .any ops listed=[]->Inv c E {s0 with fr:=frL ops.toList zs (fun j=>listed.getD j false) s0.fr} a w->Q .normal a w:=by
   intro listed E a w hsz hr h;have hall:∀n i,i<=n->i<ops.size->listed.getD i false=true:=by
     intro n
     induction n with
     | zero=>
       intro i hi hlt;cases hb:listed.getD i false with
       | true=>rfl
       | false=>
         exfalso;have ho:ops[i]?=some ops[i]:=Array.getElem?_eq_getElem hlt;have h0:i=0:=by omega
         have he:=(edgesF_ok hedge i ops[i] (by simp)).1
         have:i∈Region.ready .any ops listed:=ready_of ho (by
           rw[Array.getD_eq_getD_getElem?] at hb ⊢;rw[Array.getElem?_eq_getElem (by omega)] at hb ⊢;exact hb) (fun j hj=>by have:=he j hj;omega)
         rw[hr] at this;cases this
     | succ n ih=>
       intro i hi hlt;cases hb:listed.getD i false with
       | true=>rfl
       | false=>
         exfalso;have ho:ops[i]?=some ops[i]:=Array.getElem?_eq_getElem hlt;have he:=(edgesF_ok hedge i ops[i] (by simp)).1
         have:i∈Region.ready .any ops listed:=ready_of ho (by
           rw[Array.getD_eq_getD_getElem?] at hb ⊢;rw[Array.getElem?_eq_getElem (by omega)] at hb ⊢;exact hb) (fun j hj=>by have:=he j hj;exact ih j (by omega) (by omega))
         rw[hr] at this;cases this
   have hfr:frL ops.toList zs (fun j=>listed.getD j false) s0.fr=frL ops.toList zs (fun j=>decide (j<ops.size)) s0.fr:=by
     apply List.ext_getElem?;intro t;rw[frL_get,frL_get];cases hf:s0.fr[t]? with
     | none=>rfl
     | some y=>
       simp only[Option.map_some];split
       · rename_i j hj;obtain⟨_,o',h1,_⟩:=wrF_some hj;have hlt:j<ops.size:=by have:=(List.getElem?_eq_some_iff.1 h1).1;simpa using this
         rw[hall j j (Nat.le_refl _) hlt,decide_eq_true hlt]
       · rfl
   rw[hfr] at h;exact hQ E a w h
 intro fuel
 induction fuel with
 | zero=>
   intro listed E a w hsz hcnt h;have hr:Region.ready .any ops listed=[]:=by
     cases hrd:Region.ready .any ops listed with
     | nil=>rfl
     | cons i r=>
       exfalso;obtain⟨h1,h2,_⟩:=mem_ready' (ops:=ops) (listed:=listed) (i:=i) (by rw[hrd];simp);have hm:false∈listed.toList:=by
         rw[Array.getD_eq_getD_getElem?,Array.getElem?_eq_getElem (by omega)] at h2;simp at h2;rw[<- h2];simp
       have:false∈listed.toList.filter (!·):=List.mem_filter.2 ⟨hm,rfl⟩
       have:=List.length_pos_of_mem this
       unfold count at hcnt;omega
   exact⟨hr,done listed E a w hsz hr h⟩
 | succ fuel ih=>
   intro listed E a w hsz hcnt h;refine⟨fun hr=>done listed E a w hsz hr h,fun i hi=>?_⟩;obtain⟨hlt,hun,hed⟩:=mem_ready' hi;have ho:ops[i]?=some ops[i]:=Array.getElem?_eq_getElem hlt;have hol:ops.toList[i]?=some ops[i]:=by simp
   obtain⟨he1,he2⟩:=edgesF_ok hedge i ops[i] hol;have hilt:i<listed.size:=by omega
   have hif:listed.getD i false=false:=by
     rw[Array.getD_eq_getD_getElem?,Array.getElem?_eq_getElem hilt] at hun ⊢;exact hun
   have hK:∀v w',Inv c E {s0 with fr:=frL ops.toList zs (fun j=>listed.getD j false) s0.fr} a w'->RelV (Reg c E {s0 with fr:=frL ops.toList zs (fun j=>listed.getD j false) s0.fr} w') E w' (zs.getD i .un) v->wpAny P .any ops Q fuel (listed.setIfInBounds i true) (a.put ops[i].dst v) w':=by
     intro v w' h1 h2;have h3:=h1.put ops[i].dst h2;have hup:∀j,(listed.setIfInBounds i true).getD j false=if j=i then true else listed.getD j false:=by
       intro j;by_cases e:j=i
       · subst e;rw[if_pos rfl,Array.getD_eq_getD_getElem?,Array.getElem?_setIfInBounds_self_of_lt hilt];rfl
       · rw[if_neg e,Array.getD_eq_getD_getElem?,Array.getD_eq_getD_getElem?,Array.getElem?_setIfInBounds_ne (by omega)]
     have h4:=frL_up (xs:=zs) (L:=fun j=>listed.getD j false) (L':=fun j=>(listed.setIfInBounds i true).getD j false) (fr:=s0.fr) honce hol hup {s0 with fr:=frL ops.toList zs (fun j=>listed.getD j false) s0.fr} rfl;have h5:({s0 with fr:=frL ops.toList zs (fun j=>listed.getD j false) s0.fr}:St).put ops[i].dst (zs.getD i .un)={s0 with fr:=frL ops.toList zs (fun j=>(listed.setIfInBounds i true).getD j false) s0.fr}:=by
       rw[<- h4];cases ops[i].dst<;>rfl
     rw[h5] at h3;refine ih _ E _ _ (by simp [hsz]) ?_ h3;have hcount:count (listed.setIfInBounds i true)+1<=count listed:=by
       unfold count;have hl:listed.toList=listed.toList.take i++false::listed.toList.drop (i+1):=by
         have h6:listed.toList[i]'(by simpa using hilt)=false:=by
           rw[Array.getD_eq_getD_getElem?,Array.getElem?_eq_getElem hilt] at hif;simpa using hif
         have h7:=List.take_append_drop i listed.toList;rw[List.drop_eq_getElem_cons (by simpa using hilt),h6] at h7;exact h7.symm
       have hl2:(listed.setIfInBounds i true).toList=listed.toList.take i++true::listed.toList.drop (i+1):=by
         rw[Array.toList_setIfInBounds,List.set_eq_take_append_cons_drop,if_pos (by simpa using hilt)]
       rw[hl2]
       conv=>rhs;rw[hl]
       simp [List.filter_append];omega
     omega
   have h6:=hrun i ops[i] hol {s0 with fr:=frL ops.toList zs (fun j=>listed.getD j false) s0.fr} (by rw[frL_length,frL_length]) rfl rfl (fun t ht=>by
     simp only[frL_get];cases hf:s0.fr[t]? with
     | none=>rfl
     | some y=>
       simp only[Option.map_some];split
       · rename_i j hj;have hje:=he2 t ht j hj;have h7:=hed ops[i] ho j hje;have h8:=he1 j hje;rw[h7,decide_eq_true (by omega:j<i)]
       · rfl) c E a w h _ Q hK
   unfold wpOp;rw[ho];simp only;split
   · rename_i hw;rw[if_pos hw] at h6;exact .inl h6
   · rename_i hw;rw[if_neg hw] at h6;exact h6
end
def preF:List Nat->St->St
 | [],s=>s
 | t::l,s=>preF l (freezeV s (s.fr.getD t .un)).1
def callsGo:List Oper->Bool
 | []=>false
 | o::r=>(match o.op with | .call { callee:=.value _,..}=>true | .call { callee:=.invoke _ _,..}=>true | .slice ..=>true | .buildSlice ..=>true | _=>false)||callsGo r
def looksAll (ops:Array Oper):List Oper->List Nat
 | []=>[]
 | o::r=>looks ops o++looksAll ops r
def exDraw (P:Program) (ct:List (Con P)) (ops:Array Oper) (s:St) (K:St->VC):VC:=
 bif drawOk ops then exD P ct ops ops.toList (bif callsGo ops.toList then preF (looksAll ops ops.toList) s else s) [] K else .f
theorem preF_ok {c:Ctx} {E:Env} {a:Act} {w:World}:∀{l:List Nat} {s:St},Inv c E s a w->Inv c E (preF l s) a w
 | [],_,h=>h
 | t::l,s,h=>by
   show Inv c E (preF l (freezeV s (s.ev (.tmp t))).1) a w;exact preF_ok (freezeV_ok h (h.ev (.tmp t))).1
theorem exDraw_ok {P:Program} {ct:List (Con P)} {ops:Array Oper} {Q:Exit->Act->World->Prop} {K:St->VC} {c:Ctx} (hm:P.follows .mixedOrders=true) (hK:∀s E a w,Inv c E s a w->(K s).den->Q .normal a w) {id:Nat} {s:St} (hv:(exDraw P ct ops s K).den) {E:Env} {a:Act} {w:World} (h:Inv c E s a w) :
   (Code.region id ops true).wp P Q a w:=by
 unfold exDraw at hv;cases hd:drawOk ops with
 | false=>rw[hd] at hv;exact hv.elim
 | true=>
   rw[hd] at hv;simp only[cond_true] at hv;have h':Inv c E (bif callsGo ops.toList then preF (looksAll ops ops.toList) s else s) a w:=by
     cases callsGo ops.toList
     · exact h
     · exact preF_ok h
   generalize (bif callsGo ops.toList then preF (looksAll ops ops.toList) s else s)=s1 at hv h';have hcert:=exD_cert ops.toList s1 [] a w h' (fun k b' b h1 _=>by simp [decOf] at h1) hv;have hd':=hd;simp only[drawOk,Bool.and_eq_true] at hd';obtain⟨zs,h1,h2,h3⟩:=cert_all (s0:=s1) hd'.1 ops.toList 0 [] s1 rfl rfl hcert rfl rfl (fun ys=>(frL_none _ _ _ (fun j=>by simp)).symm);simp only[List.nil_append,Nat.zero_add,Array.length_toList] at h2 h3;refine wp_region_any hm ?_;refine any_ok hd h2 (fun E a w hi=>hK _ E a w hi h3) ops.size _ E a w.drew (by simp) (by simp [count]) ?_;have h4:frL ops.toList zs (fun j=>(Array.replicate ops.size false).getD j false) s1.fr=s1.fr:=frL_none _ _ _ (fun j=>by
     rw[Array.getD_eq_getD_getElem?,Array.getElem?_replicate];split<;>rfl)
   rw[h4];exact h'.drew
end
end
section
noncomputable section
def mkT (b:Bool) (x y:SV):Option SV:=
 match x,y with
 | .tt,.tt=>some .tt
 | .ff,.ff=>some .ff
 | .tt,.ff=>some (.bool b)
 | .ff,.tt=>some (.bool (!b))
 | .tt,.bool q=>some (.bool (b||q))
 | .bool q,.tt=>some (.bool (!b||q))
 | .ff,.bool q=>some (.bool (!b&&q))
 | .bool q,.ff=>some (.bool (b&&q))
 | .bool p,.bool q=>some (.bool (bif b then p else q))
 | _,_=>none
def mkIf (b want:Bool) (x y:SV):Option SV:=match want with | true=>mkT b x y | false=>mkT b y x
theorem mkT_ok {b:Bool} {x y z:SV} (h:mkT b x y=some z):asB z=if b=true then asB x else asB y:=by
 unfold mkT at h;split at h<;>first
   | (cases h;done)
   | (simp at h;subst h;cases b<;>simp [asB])
theorem mkIf_ok {b want:Bool} {x y z:SV} (h:mkIf b want x y=some z):asB z=if b=want then asB x else asB y:=by
 unfold mkIf at h;split at h
 · exact mkT_ok h
 · rw[mkT_ok h];cases b<;>rfl
def exV (P:Program) (ct:List (Con P)) (ops:Array Oper) (R:Nat):List Oper->St->List (Nat×Bool)->Option SV
 | [],s,_=>match s.fr[R]? with
   | some .tt=>some .tt
   | some .ff=>some .ff
   | some (.bool b)=>some (.bool b)
   | _=>none
 | o::r,s,dec=>
   let run (dec:List (Nat×Bool)):Option SV:=match uni P ct {s with fr:=view dec (looks ops o) s.fr 0} o.op with
     | some (_,x)=>exV P ct ops R r (s.put o.dst x) (drop2 dec o.dst)
     | none=>none
   let skip (dec:List (Nat×Bool)):Option SV:=exV P ct ops R r (s.put o.dst (.tup [])) (drop2 dec o.dst)
   match o.guard with
   | none=>run dec
   | some (j,want)=>match (ops[j]?).bind (·.dst) with
     | none=>none
     | some d=>match s.fr[d]?,decOf dec d with
       | some (.tup []),_=>skip dec
       | some .tt,_=>bif want then run dec else skip dec
       | some .ff,_=>bif want then skip dec else run dec
       | some (.bool _),some b'=>bif (match b',want with | true,true=>true | false,false=>true | _,_=>false) then run dec else skip dec
       | some (.bool b),none=>match run ((d,want)::dec),skip ((d,!want)::dec) with
         | some x,some y=>mkIf b want x y
         | _,_=>none
       | _,_=>none
def mkImp (p:Prop) (v:VC):VC:=match v with | .t=>.t | v=>.imp p v
def mkAnd2 (a b:VC):VC:=match a with | .t=>b | a=>.and a b
theorem mkImp_ok {p:Prop} {v:VC} (h:(mkImp p v).den):p->v.den:=by
 unfold mkImp at h;split at h
 · exact fun _=>h
 · exact h
theorem mkAnd2_ok {a b:VC} (h:(mkAnd2 a b).den):a.den/\b.den:=by
 unfold mkAnd2 at h;split at h
 · exact⟨trivial,h⟩
 · exact h
def mknow (op:Op) (x:SV) (v:VC):VC:=match v with | .t=>.t | v=>know op x v
theorem mknow_ok {op:Op} {x:SV} {v:VC} {S:Nat->Prop} {E:Env} {w:World} {u:Value} (h:(mknow op x v).den) (hr:RelV S E w x u):v.den:=by
 unfold mknow at h;split at h
 · exact h
 · exact know_ok h hr
def mkOb (p:Prop) (v:VC):VC:=match v with | .t=>.pr p | v=>.ob p v
theorem mkOb_ok {p:Prop} {v:VC} (h:(mkOb p v).den):p/\v.den:=by
 unfold mkOb at h;split at h
 · exact⟨h,trivial⟩
 · exact h
def exO (P:Program) (ct:List (Con P)) (ops:Array Oper):List Oper->St->List (Nat×Bool)->VC
 | [],_,_=>.t
 | o::r,s,dec=>
   let run (dec:List (Nat×Bool)):VC:=match uni P ct {s with fr:=view dec (looks ops o) s.fr 0} o.op with
     | some (none,x)=>forceV x fun x=>mknow o.op x (exO P ct ops r (s.put o.dst x) (drop2 dec o.dst))
     | some (some p,x)=>forceV x fun x=>mkOb p (mknow o.op x (exO P ct ops r (s.put o.dst x) (drop2 dec o.dst)))
     | none=>.f
   let skip (dec:List (Nat×Bool)):VC:=exO P ct ops r (s.put o.dst (.tup [])) (drop2 dec o.dst)
   match o.guard with
   | none=>run dec
   | some (j,want)=>match (ops[j]?).bind (·.dst) with
     | none=>.f
     | some d=>match s.fr[d]?,decOf dec d with
       | some (.tup []),_=>skip dec
       | some .tt,_=>bif want then run dec else skip dec
       | some .ff,_=>bif want then skip dec else run dec
       | some (.bool _),some b'=>bif (match b',want with | true,true=>true | false,false=>true | _,_=>false) then run dec else skip dec
       | some (.bool b),none=>mkAnd2 (mkImp (b=want) (run ((d,want)::dec))) (mkImp (b=!want) (skip ((d,!want)::dec)))
       | _,_=>.f
section
variable {P:Program} {ct:List (Con P)} {ops:Array Oper} {R:Nat}
theorem exO_cert {c:Ctx} {E:Env}:∀(l:List Oper) (s:St) (dec:List (Nat×Bool)) (a:Act) (w:World) (Y:SV),Inv c E s a w->DecOk dec s.fr->(exO P ct ops l s dec).den->exV P ct ops R l s dec=some Y->
   CertD P ops l s (fun s'=>∃y b,s'.fr[R]?=some y/\asB y=some b/\asB Y=some b)
 | [],s,dec,_,_,Y,_,_,_,hY=>by
   unfold exV at hY;split at hY
   · rename_i h;simp at hY;subst hY;exact⟨_,true,h,rfl,rfl⟩
   · rename_i h;simp at hY;subst hY;exact⟨_,false,h,rfl,rfl⟩
   · rename_i b h;simp at hY;subst hY;exact⟨_,b,h,rfl,rfl⟩
   · cases hY
 | o::r,s,dec,a,w,Y,hinv,hd,hv,hY=>by
   have next:∀{x:SV} {φ:Prop},RunOk P ops o s x->(∀v w',Inv c E s a w'->RelV (Reg c E s w') E w' x v->φ)->φ:=by
     intro x φ hrun h
     have:=hrun s rfl rfl rfl (fun _ _=>rfl) c E a w hinv (fun _ _=>φ) (fun _ _ _=>φ) h
     split at this
     · exact wp_const this
     · exact this
   have run:∀dec,∀Y,DecOk dec s.fr->(match uni P ct {s with fr:=view dec (looks ops o) s.fr 0} o.op with
       | some (none,x)=>forceV x fun x=>mknow o.op x (exO P ct ops r (s.put o.dst x) (drop2 dec o.dst))
       | some (some p,x)=>forceV x fun x=>mkOb p (mknow o.op x (exO P ct ops r (s.put o.dst x) (drop2 dec o.dst)))
       | none=>.f).den->(match uni P ct {s with fr:=view dec (looks ops o) s.fr 0} o.op with
       | some (_,x)=>exV P ct ops R r (s.put o.dst x) (drop2 dec o.dst)
       | none=>none)=some Y->(∀(s':St) c E a w,(∀t∈looks ops o,s'.fr[t]?=s.fr[t]?)->Inv c E s' a w->Region.wanted o (yielded ops a.tmps)=true)->CertD P ops (o::r) s (fun s'=>∃y b,s'.fr[R]?=some y/\asB y=some b/\asB Y=some b):=by
     intro dec Y hd hv hY hw;split at hv
     · rename_i x hu;rw[hu] at hY;rw[forceV_eq] at hv;have hrun:=run_of hd hu trivial hw;exact next hrun (fun v w' hi hr=>⟨x,hrun,exO_cert r _ _ _ _ Y (hi.put o.dst hr) (hd.put _ _) (mknow_ok hv hr) hY⟩)
     · rename_i p x hu;rw[hu] at hY;rw[forceV_eq] at hv;obtain⟨hp,hv⟩:=mkOb_ok hv;have hrun:=run_of hd hu hp hw;exact next hrun (fun v w' hi hr=>⟨x,hrun,exO_cert r _ _ _ _ Y (hi.put o.dst hr) (hd.put _ _) (mknow_ok hv hr) hY⟩)
     · exact hv.elim
   have skip:∀dec,∀Y,DecOk dec s.fr->(exO P ct ops r (s.put o.dst (.tup [])) (drop2 dec o.dst)).den->exV P ct ops R r (s.put o.dst (.tup [])) (drop2 dec o.dst)=some Y->(∀(s':St) c E a w,(∀t∈looks ops o,s'.fr[t]?=s.fr[t]?)->Inv c E s' a w->Region.wanted o (yielded ops a.tmps)=false)->CertD P ops (o::r) s (fun s'=>∃y b,s'.fr[R]?=some y/\asB y=some b/\asB Y=some b):=
     fun dec Y hd hv hY hw=>⟨.tup [],skip_of hw,exO_cert r _ _ (a.put o.dst undef) w Y (hinv.put o.dst (x:=.tup []) undef_rel) (hd.put _ _) hv hY⟩
   unfold exO at hv;unfold exV at hY;simp only at hv hY;split at hv
   · rename_i hg;rw[hg] at hY;exact run dec Y hd hv hY (fun _ _ _ _ _ _ _=>by simp [Region.wanted,hg])
   · rename_i j want hg;rw[hg] at hY;simp only at hY;split at hv
     · exact hv.elim
     · rename_i d hdst;rw[hdst] at hY;simp only at hY;have hlook:d∈looks ops o:=by simp [looks,hg,hdst]
       have want1:∀b,s.fr[d]?=some (litB b)->∀(s':St) c E a w,(∀t∈looks ops o,s'.fr[t]?=s.fr[t]?)->Inv c E s' a w->Region.wanted o (yielded ops a.tmps)=(b == want):=fun b hb s' c E a w hag h=>wanted_of hg hdst (h.known (by rw[hag d hlook];exact hb))
       have want2:∀b,s.fr[d]?=some (.bool b)->∀(s':St) c E a w,(∀t∈looks ops o,s'.fr[t]?=s.fr[t]?)->Inv c E s' a w->Region.wanted o (yielded ops a.tmps)=(b == want):=fun b hb s' c E a w hag h=>wanted_of hg hdst (h.relit (by rw[hag d hlook];exact hb)).2
       split at hv
       · rename_i hx;rw[hx] at hY;exact skip dec Y hd hv hY (fun s' c E a w hag h=>wanted_undef hg hdst h (by rw[hag d hlook];exact hx))
       · rename_i hx;rw[hx] at hY;have hw:=want1 true hx;cases want
         · exact skip dec Y hd hv hY hw
         · exact run dec Y hd hv hY hw
       · rename_i hx;rw[hx] at hY;have hw:=want1 false hx;cases want
         · exact run dec Y hd hv hY hw
         · exact skip dec Y hd hv hY hw
       · rename_i b b' hx hb';rw[hx,hb'] at hY;have hbb:b=b':=hd d b' b hb' hx;subst hbb;have hw:=want2 b hx;cases b<;>cases want
         · exact run dec Y hd hv hY hw
         · exact skip dec Y hd hv hY hw
         · exact skip dec Y hd hv hY hw
         · exact run dec Y hd hv hY hw
       · rename_i b hx hb';rw[hx,hb'] at hY;obtain⟨hv1,hv2⟩:=mkAnd2_ok hv;have hw:=want2 b hx;have hdec:∀b0,b=b0->DecOk ((d,b0)::dec) s.fr:=by
           intro b0 hb0 k b1 b2 h1 h2;rcases decOf_cons h1 with ⟨rfl,rfl⟩ | h1
           · rw[hx] at h2;simp at h2;rw[<- h2,hb0]
           · exact hd k b1 b2 h1 h2
         simp only at hY;split at hY
         · rename_i Y1 Y2 hY1 hY2;have hmk:=mkIf_ok hY;by_cases hbw:b=want
           · rw[if_pos hbw] at hmk;rw[hmk];refine run _ Y1 (hdec want hbw) (mkImp_ok hv1 hbw) hY1 (fun s' c E a w h1 h2=>?_);rw[hw s' c E a w h1 h2,hbw];simp
           · rw[if_neg hbw] at hmk;rw[hmk];have hbw:b=!want:=by cases b<;>cases want<;>simp_all
             refine skip _ Y2 (hdec (!want) hbw) (mkImp_ok hv2 hbw) hY2 (fun s' c E a w h1 h2=>?_);rw[hw s' c E a w h1 h2,hbw];cases want<;>rfl
         · cases hY
       · exact hv.elim
def killF (ops:List Oper):List SV->Nat->List SV
 | [],_=>[]
 | x::l,k=>(match wrF k ops 0 with | some _=>.un | none=>x)::killF ops l (k+1)
theorem killF_rel {S:Nat->Prop} {E:Env} {w:World} {all:List Oper}:∀{l:List SV} {vs:List Value} (k:Nat),(∀i v y,vs[i]?=some v->l[i]?=some y->wrF (k+i) all 0=none->RelV S E w y v)->vs.length=l.length->RelVs S E w (killF all l k) vs
 | [],vs,_,_,hl=>List.eq_nil_of_length_eq_zero hl
 | x::l,vs,k,h,hl=>by
   match vs,hl with
   | v::vs',hl=>
     refine⟨v,vs',rfl,?_,killF_rel (k+1) (fun i v y h1 h2 h3=>h (i+1) v y (by simpa using h1) (by simpa using h2) (by rw[<- h3];congr 1;omega)) (by simpa using hl)⟩;cases hw:wrF k all 0 with
     | some _=>trivial
     | none=>exact h 0 v x rfl rfl hw
theorem Inv.met {c:Ctx} {E:Env} {s0:St} {a:Act} {w:World} {zs:List SV} {L:Nat->Bool} {Y y:SV} {b:Bool} (h:Inv c E {s0 with fr:=frL ops.toList zs L s0.fr} a w) (hy:(frL ops.toList zs L s0.fr)[R]?=some y) (hyb:asB y=some b) (hY:asB Y=some b) :
   Inv c E ({s0 with fr:=killF ops.toList s0.fr 0}.put (some R) Y) a w:=by
 have hl:a.tmps.toList.length=s0.fr.length:=by rw[h.fr.length,frL_length]
 have hk:RelVs (Reg c E s0 w) E w (killF ops.toList s0.fr 0) a.tmps.toList:=by
   refine killF_rel 0 (fun i v x h1 h2 h3=>?_) hl;rw[Nat.zero_add] at h3
   have:(frL ops.toList zs L s0.fr)[i]?=some x:=by rw[frL_get,h2,Option.map_some,h3]
   obtain⟨v',h4,h5⟩:=h.fr.get this;rw[h1] at h4;simp at h4;subst h4;exact h5
 obtain⟨v,hv,hr⟩:=h.fr.get hy;have hvb:=asB_rel hyb hr;refine⟨h.os,h.tape,h.output,h.size,h.old,h.defers,?_,h.nbx,h.nrw,h.nfp,h.bx,h.rw,h.inj,h.new,h.lent,h.lrow,h.fresh,h.bor⟩;exact hk.set_left R (fun u hu=>by
   rw[hv] at hu;simp at hu;subst hu;subst hvb;cases Y<;>simp [asB] at hY<;>(subst hY;exact rfl))
def lastDst:List Oper->Option Nat
 | []=>none
 | [o]=>o.dst
 | _::r=>lastDst r
def anyGuard:List Oper->Bool
 | []=>false
 | o::r=>o.guard.isSome||anyGuard r
def forceVC:VC->(VC->VC)->VC
 | .t,K=>K .t
 | .f,K=>K .f
 | .pr p,K=>K (.pr p)
 | .and a b,K=>forceVC a fun a=>forceVC b fun b=>K (.and a b)
 | .imp p v,K=>forceVC v fun v=>K (.imp p v)
 | .ob p v,K=>forceVC v fun v=>K (.ob p v)
 | .all α g,K=>K (.all α g)
 | .ex α g,K=>K (.ex α g)
 | .or a b,K=>forceVC a fun a=>forceVC b fun b=>K (.or a b)
theorem forceVC_eq:∀(v:VC) (K:VC->VC),forceVC v K=K v
 | .t,_=>rfl
 | .f,_=>rfl
 | .pr _,_=>rfl
 | .and a b,K=>by rw[forceVC,forceVC_eq a,forceVC_eq b]
 | .imp _ v,K=>by rw[forceVC,forceVC_eq v]
 | .ob _ v,K=>by rw[forceVC,forceVC_eq v]
 | .all _ _,_=>rfl
 | .ex _ _,_=>rfl
 | .or a b,K=>by rw[forceVC,forceVC_eq a,forceVC_eq b]
def exM (P:Program) (ct:List (Con P)) (ops:Array Oper) (draw:Bool) (s:St) (K:St->VC):Option VC:=
 bif anyGuard ops.toList&&onceF ops.toList 0 ops.toList&&(!draw||drawOk ops) then
   match lastDst ops.toList with
   | some R=>
     let s1:=bif callsGo ops.toList then preF (looksAll ops ops.toList) s else s
     match exV P ct ops R ops.toList s1 [] with
     | some Y=>some (forceVC (exO P ct ops ops.toList s1 []) fun v=>mkAnd2 v (forceV Y fun Y=>forceSt ({s1 with fr:=killF ops.toList s1.fr 0}.put (some R) Y) K))
     | none=>none
   | none=>none
 else none
theorem cert_list {Q:Exit->Act->World->Prop} {c:Ctx} {F:St->Prop}:∀(l:List Oper) (s:St),CertD P ops l s F->(∀s' E a w,(∃xs:List SV,xs.length=l.length/\s'=(l.zip xs).foldl (fun s p=>s.put p.1.dst p.2) s)->F s'->Inv c E s' a w->Q .normal a w)->∀E a w,Inv c E s a w->wpList P ops Q l a w
 | [],s,hc,hQ,E,a,w,h=>hQ s E a w ⟨[],rfl,rfl⟩ hc h
 | o::r,s,⟨x,hrun,hc⟩,hQ,E,a,w,h=>by
   have:=hrun s rfl rfl rfl (fun _ _=>rfl) c E a w h (wpList P ops Q r) Q (fun v w' hi hr=>by
     refine cert_list r (s.put o.dst x) hc (fun s' E a w ⟨xs,h1,h2⟩ hF hi=>hQ s' E a w ⟨x::xs,by simp [h1],by rw[h2];rfl⟩ hF hi) E _ w' (hi.put o.dst hr))
   unfold wpList;split at this
   · rename_i hw;rw[if_pos hw];exact .inl this
   · rename_i hw;rw[if_neg hw];exact this
theorem fold_frL {all:List Oper} (honce:onceF all 0 all=true) {s0:St}:∀(l:List Oper) (k:Nat) (xs ys:List SV) (s:St),all.drop k=l->xs.length=k->ys.length=l.length->s.bx=s0.bx->s.rw=s0.rw->s.fr=frL all (xs++ys) (fun j=>decide (j<k)) s0.fr->
   (l.zip ys).foldl (fun s p=>s.put p.1.dst p.2) s={s0 with fr:=frL all (xs++ys) (fun j=>decide (j<k+l.length)) s0.fr}
 | [],k,xs,ys,s,_,_,hy,hbx,hrw,hfr=>by
   rw[List.zip_nil_left,List.foldl_nil,List.length_nil,Nat.add_zero,<- hfr,<- hbx,<- hrw]
 | o::r,k,xs,ys,s,hl,hx,hy,hbx,hrw,hfr=>by
   match ys,hy with
   | y::ys',hy=>
     have ho:all[k]?=some o:=by
       have:=congrArg (·[0]?) hl
       simpa using this
     have h2:(xs++y::ys').getD k .un=y:=by
       rw[List.getD_eq_getElem?_getD,List.getElem?_append_right (by omega),hx];simp
     have h1:=frL_up (xs:=xs++y::ys') (L:=fun j=>decide (j<k)) (L':=fun j=>decide (j<k+1)) (fr:=s0.fr) honce ho (fun j=>by
       by_cases e:j=k
       · subst e;simp
       · rw[if_neg e];congr 1;simp;omega) s hfr
     rw[h2] at h1;have hput:(s.put o.dst y).bx=s0.bx/\(s.put o.dst y).rw=s0.rw:=by
       cases o.dst<;>exact⟨hbx,hrw⟩
     have:=fold_frL honce r (k+1) (xs++[y]) ys' (s.put o.dst y) (by rw[<- List.drop_drop,hl];rfl) (by simp [hx]) (by simpa using hy) hput.1 hput.2 (by rw[h1];simp)
     rw[List.zip_cons_cons,List.foldl_cons,this];simp only[List.append_assoc,List.singleton_append,List.length_cons]
     congr 3
     funext j
     congr 2
     omega
theorem exM_ok {Q:Exit->Act->World->Prop} {K:St->VC} {c:Ctx} (hm:P.follows .mixedOrders=true) (hK:∀s E a w,Inv c E s a w->(K s).den->Q .normal a w) {draw:Bool} {id:Nat} {s:St} {V:VC} (hV:exM P ct ops draw s K=some V) (hv:V.den) {E:Env} {a:Act} {w:World} (h:Inv c E s a w) :
   (Code.region id ops draw).wp P Q a w:=by
 unfold exM at hV;cases hc:anyGuard ops.toList&&onceF ops.toList 0 ops.toList&&(!draw||drawOk ops) with
 | false=>rw[hc] at hV;cases hV
 | true=>
   rw[hc] at hV;simp only[cond_true] at hV;simp only[Bool.and_eq_true,Bool.or_eq_true,Bool.not_eq_eq_eq_not,Bool.not_true] at hc;obtain⟨⟨_,honce⟩,hdr⟩:=hc;split at hV
   · rename_i R hR;have h':Inv c E (bif callsGo ops.toList then preF (looksAll ops ops.toList) s else s) a w:=by
       cases callsGo ops.toList
       · exact h
       · exact preF_ok h
     generalize (bif callsGo ops.toList then preF (looksAll ops ops.toList) s else s)=s1 at hV h';split at hV
     · rename_i Y hY;simp at hV;subst hV;rw[forceVC_eq] at hv;obtain⟨hv1,hv2⟩:=mkAnd2_ok hv;rw[forceV_eq,forceSt_eq] at hv2;have hcert:=exO_cert ops.toList s1 [] a w Y h' (fun k b' b h1 _=>by simp [decOf] at h1) hv1 hY;have fin:∀zs:List SV,∀L E a w,(∃y b,(frL ops.toList zs L s1.fr)[R]?=some y/\asB y=some b/\asB Y=some b)->Inv c E {s1 with fr:=frL ops.toList zs L s1.fr} a w->Q .normal a w:=by
         rintro zs L E a w ⟨y,b,h1,h2,h3⟩ hi;exact hK _ E a w (hi.met h1 h2 h3) hv2
       cases draw with
       | false=>
         refine wp_region_list (cert_list ops.toList s1 hcert ?_ E a w h');rintro s' E a w ⟨xs,hx,rfl⟩ hF hi
         have:=fold_frL (s0:=s1) honce ops.toList 0 [] xs s1 rfl rfl hx rfl rfl (frL_none _ _ _ (fun j=>by simp)).symm
         rw[this] at hF hi;exact fin _ _ E a w hF hi
       | true=>
         have hd:drawOk ops=true:=by
           rcases hdr with h1 | h1
           · cases h1
           · exact h1
         obtain⟨zs,h1,h2,h3⟩:=cert_all (s0:=s1) honce ops.toList 0 [] s1 rfl rfl hcert rfl rfl (fun ys=>(frL_none _ _ _ (fun j=>by simp)).symm);simp only[List.nil_append,Nat.zero_add,Array.length_toList] at h2 h3;refine wp_region_any hm ?_;refine any_ok hd h2 (fun E a w hi=>fin _ _ E a w h3 hi) ops.size _ E a w.drew (by simp) (by simp [count]) ?_;have h4:frL ops.toList zs (fun j=>(Array.replicate ops.size false).getD j false) s1.fr=s1.fr:=frL_none _ _ _ (fun j=>by
           rw[Array.getD_eq_getD_getElem?,Array.getElem?_replicate];split<;>rfl)
         rw[h4];exact h'.drew
     · cases hV
   · cases hV
end
end
end
section
noncomputable section
mutual
def pruneA:SV->SV
 | .hs j π=>match π with
   | []=>.hs j []
   | _::_=>.un
 | .rp j π i sz off=>match π with
   | []=>.rp j [] i sz off
   | _::_=>.un
 | .agg l=>.agg (pruneAs l)
 | .tup l=>.tup (pruneAs l)
 | .fn f l=>.fn f (pruneAs l)
 | .ifc f l=>.ifc f (pruneAs l)
 | .bf f l=>.bf f (pruneAs l)
 | .un=>.un
 | .tt=>.tt
 | .ff=>.ff
 | .int k n=>.int k n
 | .bool b=>.bool b
 | .str b=>.str b
 | .raw v=>.raw v
 | .nil=>.nil
 | .sl e ds=>.sl e ds
 | .own j=>.own j
 | .bp j off=>.bp j off
 | .ptr t d off=>.ptr t d off
 | .nilp=>.nilp
 | .bsl e ds=>.bsl e ds
 | .bptr e d off=>.bptr e d off
 | .arr k ds=>.arr k ds
def pruneAs:List SV->List SV
 | []=>[]
 | x::l=>pruneA x::pruneAs l
end
section
variable {S S':Nat->Prop} {E E':Env} {w w':World}
mutual
theorem pruneA_rel {js:List Nat} (hE:E.led E' js) (hk:Keeps S w w') (hS:∀b,S b->S' b):∀{x:SV} {v:Value},RelV S E w x v->RelV S' E' w' (pruneA x) v
 | .hs j π,v,⟨h0,h1,h2⟩=>by
   unfold pruneA;split
   · exact⟨hE.lt h0,by rw[hE.nh j h0 [] (.inr rfl)];exact h1,h2⟩
   · trivial
 | .rp j π _ _ _,v,⟨g,n,cp,h0,h1,h2⟩=>by
   unfold pruneA;split
   · exact⟨g,n,cp,hE.lt h0,by rw[hE.nh j h0 [] (.inr rfl)];exact h1,h2⟩
   · trivial
 | .agg _,_,⟨vs,h1,h2⟩=>⟨vs,h1,pruneAs_rel hE hk hS h2⟩
 | .tup _,_,⟨vs,h1,h2⟩=>⟨vs,h1,pruneAs_rel hE hk hS h2⟩
 | .fn _ _,_,⟨vs,h1,h2⟩=>⟨vs,h1,pruneAs_rel hE hk hS h2⟩
 | .ifc _ _,_,⟨vs,h1,h2⟩=>⟨vs,h1,pruneAs_rel hE hk hS h2⟩
 | .bf _ _,_,⟨vs,h1,h2⟩=>⟨vs,h1,pruneAs_rel hE hk hS h2⟩
 | .un,_,_=>trivial
 | .tt,_,h=>h
 | .ff,_,h=>h
 | .int _ _,_,h=>h
 | .bool _,_,h=>h
 | .str _,_,h=>h
 | .raw _,_,h=>h
 | .nil,_,h=>h
 | .sl _ _,_,h=>Rep.mono hk hS h
 | .own j,v,⟨h,h'⟩=>⟨hE.rw j v h,h'⟩
 | .bp j _,_,⟨b,h1,h2⟩=>⟨b,hE.bx j b h1,h2⟩
 | .ptr _ _ _,_,⟨b,o,cs,h1,h2,h3,h4⟩=>⟨b,o,cs,h1,hS b h2,range_keeps h3 hk h2,Rep.mono hk hS h4⟩
 | .nilp,_,h=>h
 | .bsl _ _,_,h=>by
   show Bor S' w' E'.bo E'.w0 _ _ _;rw[hE.bo,hE.w0];exact Bor.mono hk hS h
 | .bptr _ _ _,_,⟨b,o,cs,h1,h2,h3,h4⟩=>⟨b,o,cs,h1,by rw[hE.bo];exact h2,by rw[hE.w0];exact h3,by rw[hE.bo,hE.w0];exact Bor.mono hk hS h4⟩
 | .arr _ _,_,h=>h
theorem pruneAs_rel {js:List Nat} (hE:E.led E' js) (hk:Keeps S w w') (hS:∀b,S b->S' b):∀{l:List SV} {vs:List Value},RelVs S E w l vs->RelVs S' E' w' (pruneAs l) vs
 | [],_,h=>h
 | _::_,_,⟨v,vs',h1,h2,h3⟩=>⟨v,vs',h1,pruneA_rel hE hk hS h2,pruneAs_rel hE hk hS h3⟩
end
end
mutual
def shallow:SV->Bool
 | .hs _ π=>match π with
   | []=>true
   | _::_=>false
 | .rp _ π _ _ _=>match π with
   | []=>true
   | _::_=>false
 | .agg l=>shallows l
 | .tup l=>shallows l
 | .fn _ l=>shallows l
 | .ifc _ l=>shallows l
 | .bf _ l=>shallows l
 | _=>true
def shallows:List SV->Bool
 | []=>true
 | x::l=>shallow x&&shallows l
end
mutual
theorem pruneA_shallow:∀{x:SV},shallow x=true->pruneA x=x
 | .hs _ π,h=>by cases π<;>first | rfl | (simp [shallow] at h)
 | .rp _ π _ _ _,h=>by cases π<;>first | rfl | (simp [shallow] at h)
 | .agg l,h=>by rw[pruneA,pruneAs_shallow (by simpa [shallow] using h)]
 | .tup l,h=>by rw[pruneA,pruneAs_shallow (by simpa [shallow] using h)]
 | .fn _ l,h=>by rw[pruneA,pruneAs_shallow (by simpa [shallow] using h)]
 | .ifc _ l,h=>by rw[pruneA,pruneAs_shallow (by simpa [shallow] using h)]
 | .bf _ l,h=>by rw[pruneA,pruneAs_shallow (by simpa [shallow] using h)]
 | .un,_=>rfl
 | .tt,_=>rfl
 | .ff,_=>rfl
 | .int _ _,_=>rfl
 | .bool _,_=>rfl
 | .str _,_=>rfl
 | .raw _,_=>rfl
 | .nil,_=>rfl
 | .sl _ _,_=>rfl
 | .own _,_=>rfl
 | .bp _ _,_=>rfl
 | .ptr _ _ _,_=>rfl
 | .nilp,_=>rfl
 | .bsl _ _,_=>rfl
 | .bptr _ _ _,_=>rfl
 | .arr _ _,_=>rfl
theorem pruneAs_shallow:∀{l:List SV},shallows l=true->pruneAs l=l
 | [],_=>rfl
 | x::l,h=>by
   simp only[shallows,Bool.and_eq_true] at h;rw[pruneAs,pruneA_shallow h.1,pruneAs_shallow h.2]
end
theorem pruneAs_map:∀l:List SV,pruneAs l=l.map pruneA
 | []=>rfl
 | x::l=>by rw[pruneAs,pruneAs_map l];rfl
mutual
def sameP:SV->SV->Option (List Prop)
 | .un,.un=>some []
 | .tt,.tt=>some []
 | .ff,.ff=>some []
 | .nil,.nil=>some []
 | .nilp,.nilp=>some []
 | .int k n,.int k' n'=>if kindEq k k' then some [n=n'] else none
 | .bool b,.bool b'=>some [b=b']
 | .str b,.str b'=>some [b=b']
 | .sl e ds,.sl e' ds'=>if tyEq e e' then some [ds=ds'] else none
 | .own i,.own j=>if Nat.beq i j then some [] else none
 | .bp i a,.bp j b=>if Nat.beq i j&&Nat.beq a b then some [] else none
 | .hs i π,.hs j ρ=>if Nat.beq i j then (match π,ρ with
     | [],[]=>some []
     | π,ρ=>some [π=ρ]) else none
 | .rp i π n sz off,.rp j ρ n' sz' off'=>if Nat.beq i j&&(Nat.beq sz sz'&&Nat.beq off off') then (match π,ρ with
     | [],[]=>some [n=n']
     | π,ρ=>some [π=ρ,n=n']) else none
 | .ptr t d off,.ptr t' d' off'=>if tyEq t t'&&Nat.beq off off' then some [d=d'] else none
 | .bsl e ds,.bsl e' ds'=>if otEq e e' then some [ds=ds'] else none
 | .bptr e d off,.bptr e' d' off'=>if otEq e e'&&Nat.beq off off' then some [d=d'] else none
 | .arr k ds,.arr k' ds'=>if kindEq k k' then some [ds=ds'] else none
 | .agg l,.agg m=>samePs l m
 | .tup l,.tup m=>samePs l m
 | .fn f l,.fn g m=>if Nat.beq f g then samePs l m else none
 | .bf f l,.bf g m=>if Nat.beq f g then samePs l m else none
 | .ifc f l,.ifc g m=>if Nat.beq f g then samePs l m else none
 | _,_=>none
def samePs:List SV->List SV->Option (List Prop)
 | [],[]=>some []
 | x::l,y::m=>match sameP x y,samePs l m with
   | some ps,some qs=>some (ps++qs)
   | _,_=>none
 | _,_=>none
end
mutual
theorem sameP_eq:∀{a b:SV} {ps:List Prop},sameP a b=some ps->(∀p∈ps,p)->a=b
 | .un,b,ps,h,hp=>by cases b<;>simp [sameP] at h;rfl
 | .tt,b,ps,h,hp=>by cases b<;>simp [sameP] at h;rfl
 | .ff,b,ps,h,hp=>by cases b<;>simp [sameP] at h;rfl
 | .nil,b,ps,h,hp=>by cases b<;>simp [sameP] at h;rfl
 | .nilp,b,ps,h,hp=>by cases b<;>simp [sameP] at h;rfl
 | .raw _,b,ps,h,hp=>by cases b<;>simp [sameP] at h
 | .int k n,b,ps,h,hp=>by
   cases b<;>simp only[sameP,reduceCtorEq] at h;split at h
   · rename_i hk;simp at h;subst h;rw[kindEq_eq hk,hp _ (List.mem_cons_self ..)]
   · cases h
 | .bool b0,b,ps,h,hp=>by
   cases b<;>simp only[sameP,reduceCtorEq] at h;simp at h;subst h;rw[hp _ (List.mem_cons_self ..)]
 | .str b0,b,ps,h,hp=>by
   cases b<;>simp only[sameP,reduceCtorEq] at h;simp at h;subst h;rw[hp _ (List.mem_cons_self ..)]
 | .sl e ds,b,ps,h,hp=>by
   cases b<;>simp only[sameP,reduceCtorEq] at h;split at h
   · rename_i hk;simp at h;subst h;rw[tyEq_eq hk,hp _ (List.mem_cons_self ..)]
   · cases h
 | .own i,b,ps,h,hp=>by
   cases b<;>simp only[sameP,reduceCtorEq] at h;split at h
   · rename_i hk;rw[Nat.eq_of_beq_eq_true hk]
   · cases h
 | .bp i a,b,ps,h,hp=>by
   cases b<;>simp only[sameP,reduceCtorEq] at h;split at h
   · rename_i hk;simp only[Bool.and_eq_true] at hk;rw[Nat.eq_of_beq_eq_true hk.1,Nat.eq_of_beq_eq_true hk.2]
   · cases h
 | .hs i π,b,ps,h,hp=>by
   cases b<;>simp only[sameP,reduceCtorEq] at h;split at h
   · rename_i hk;rw[Nat.eq_of_beq_eq_true hk];split at h
     · rfl
     · simp at h;subst h;rw[hp _ (List.mem_cons_self ..)]
   · cases h
 | .rp i π n sz off,b,ps,h,hp=>by
   cases b<;>simp only[sameP,reduceCtorEq] at h;split at h
   · rename_i hk;simp only[Bool.and_eq_true] at hk;rw[Nat.eq_of_beq_eq_true hk.1,Nat.eq_of_beq_eq_true hk.2.1,Nat.eq_of_beq_eq_true hk.2.2];split at h
     · simp at h;subst h;rw[hp _ (List.mem_cons_self ..)]
     · simp at h;subst h;rw[hp _ (List.mem_cons_self ..),hp (n=_) (List.mem_cons_of_mem _ (List.mem_cons_self ..))]
   · cases h
 | .ptr t d off,b,ps,h,hp=>by
   cases b<;>simp only[sameP,reduceCtorEq] at h;split at h
   · rename_i hk;simp only[Bool.and_eq_true] at hk;simp at h;subst h;rw[tyEq_eq hk.1,Nat.eq_of_beq_eq_true hk.2,hp _ (List.mem_cons_self ..)]
   · cases h
 | .bsl e ds,b,ps,h,hp=>by
   cases b<;>simp only[sameP,reduceCtorEq] at h;split at h
   · rename_i hk;simp at h;subst h;rw[otEq_eq hk,hp _ (List.mem_cons_self ..)]
   · cases h
 | .arr k ds,b,ps,h,hp=>by
   cases b<;>simp only[sameP,reduceCtorEq] at h;split at h
   · rename_i hk;simp at h;subst h;rw[kindEq_eq hk,hp _ (List.mem_cons_self ..)]
   · cases h
 | .bptr e d off,b,ps,h,hp=>by
   cases b<;>simp only[sameP,reduceCtorEq] at h;split at h
   · rename_i hk;simp only[Bool.and_eq_true] at hk;simp at h;subst h;rw[otEq_eq hk.1,Nat.eq_of_beq_eq_true hk.2,hp _ (List.mem_cons_self ..)]
   · cases h
 | .agg l,b,ps,h,hp=>by
   cases b<;>simp only[sameP,reduceCtorEq] at h;rw[samePs_eq h hp]
 | .tup l,b,ps,h,hp=>by
   cases b<;>simp only[sameP,reduceCtorEq] at h;rw[samePs_eq h hp]
 | .fn f l,b,ps,h,hp=>by
   cases b<;>simp only[sameP,reduceCtorEq] at h;split at h
   · rename_i hk;rw[Nat.eq_of_beq_eq_true hk,samePs_eq h hp]
   · cases h
 | .bf f l,b,ps,h,hp=>by
   cases b<;>simp only[sameP,reduceCtorEq] at h;split at h
   · rename_i hk;rw[Nat.eq_of_beq_eq_true hk,samePs_eq h hp]
   · cases h
 | .ifc f l,b,ps,h,hp=>by
   cases b<;>simp only[sameP,reduceCtorEq] at h;split at h
   · rename_i hk;rw[Nat.eq_of_beq_eq_true hk,samePs_eq h hp]
   · cases h
theorem samePs_eq:∀{l m:List SV} {ps:List Prop},samePs l m=some ps->(∀p∈ps,p)->l=m
 | [],m,ps,h,hp=>by cases m<;>simp [samePs] at h;rfl
 | x::l,m,ps,h,hp=>by
   cases m with
   | nil=>simp [samePs] at h
   | cons y m=>
     unfold samePs at h;split at h
     · rename_i qs rs h1 h2;simp at h;subst h;obtain⟨hp1,hp2⟩:=all_app hp;rw[sameP_eq h1 hp1,samePs_eq h2 hp2]
     · cases h
end
def sameV (a b:SV) (v:VC):VC:=
 match sameP a b with
 | some []=>v
 | some ps=>.ob (conj ps) v
 | none=>.f
theorem sameV_den {a b:SV} {v:VC} (h:(sameV a b v).den):a=b/\v.den:=by
 unfold sameV at h;split at h
 · rename_i hs;exact⟨sameP_eq hs (fun _ h=>by cases h),h⟩
 · rename_i hs;exact⟨sameP_eq hs (fun p hp=>conj_mem h.1 p hp),h.2⟩
 · exact h.elim
def obq (q:Option Prop) (v:VC):VC:=
 match q with
 | none=>v
 | some p=>.ob p v
theorem obq_den {q:Option Prop} {v:VC} (h:(obq q v).den):met q/\v.den:=by
 cases q with
 | none=>exact⟨trivial,h⟩
 | some p=>exact h
theorem ev_mem {fr:List SV} {b:List (TypeId×List SV)} {q:List Row} (x:Operand):(St.mk fr b q).ev x=(St.mk fr [] []).ev x:=by cases x<;>rfl
theorem cellsAt_mem {fr:List SV} {b:List (TypeId×List SV)} {q:List Row} {x:SV} {y:Option Prop×List SV} (h:cellsAt ⟨fr,[],[]⟩ x=some y):cellsAt ⟨fr,b,q⟩ x=some y:=by
 cases x<;>first | exact h | (simp [cellsAt] at h;done)
theorem lenOf_mem {fr:List SV} {b:List (TypeId×List SV)} {q:List Row} {x:SV} {y:Option Prop×Nat} (h:lenOf ⟨fr,[],[]⟩ x=some y):lenOf ⟨fr,b,q⟩ x=some y:=by
 cases x<;>first | exact h | (simp [lenOf,rowOf] at h;done)
theorem lenR_mem {P:Program} {t:TypeId} {fr:List SV} {b:List (TypeId×List SV)} {q:List Row} {x:SV} {r:Option Prop×SV} (h:lenR P t ⟨fr,[],[]⟩ x=some r):lenR P t ⟨fr,b,q⟩ x=some r:=by
 unfold lenR at h ⊢;split at h
 · exact h
 · split at h
   · cases h
   · rename_i x hx;split at h
     · rename_i y n hl;rw[lenOf_mem hl];exact h
     · cases h
 · cases h
theorem loadR_mem {P:Program} {t:TypeId} {fr:List SV} {b:List (TypeId×List SV)} {q:List Row} {x:SV} {r:Option Prop×SV} (h:loadR P ⟨fr,[],[]⟩ t x=some r):loadR P ⟨fr,b,q⟩ t x=some r:=by
 unfold loadR at h ⊢;split at h
 · rename_i y l hc;rw[cellsAt_mem hc];simp only;split at h
   · exact h
   · unfold arrLoad at h;split at h
     · simp at h
     · cases h
 · cases h
theorem elemR_mem {P:Program} {t:TypeId} {fr:List SV} {b:List (TypeId×List SV)} {q:List Row} {x i:SV} {r:Option Prop×SV} (h:elemR P ⟨fr,[],[]⟩ t x i=some r):elemR P ⟨fr,b,q⟩ t x i=some r:=by
 unfold elemR at h ⊢;split at h
 · split at h
   · cases x<;>first | exact h | (simp at h;done)
   · cases h
 · cases h
theorem sliceR_mem {P:Program} {t:TypeId} {fr:List SV} {b:List (TypeId×List SV)} {q:List Row} {x:SV} {lo hi mx:Option SV} {r:Option Prop×SV} (h:sliceR P ⟨fr,[],[]⟩ t x lo hi mx=some r):sliceR P ⟨fr,b,q⟩ t x lo hi mx=some r:=by
 cases x with
 | own j=>
   exfalso;unfold sliceR at h;simp only[immSl,borSl,List.getElem?_nil] at h;split at h
   · cases h
   · split at h
     · cases h
     · split at h
       · rename_i e1;simp at e1
       · simp at h
     · cases h
 | _=>exact h
theorem opVal_mem {P:Program} {fr:List SV} {b:List (TypeId×List SV)} {q:List Row} {op:Op} {r:Option Prop×SV} (h:opVal P ⟨fr,[],[]⟩ op=some r):opVal P ⟨fr,b,q⟩ op=some r:=by
 have hev:(St.mk fr b q).ev=(St.mk fr [] []).ev:=by funext x;exact ev_mem x
 cases op with
 | load t x=>
   have h:loadR P ⟨fr,[],[]⟩ t ((St.mk fr [] []).ev x)=some r:=h;show loadR P ⟨fr,b,q⟩ t ((St.mk fr b q).ev x)=some r;rw[hev];exact loadR_mem h
 | slice t x l hi mx=>
   have h:sliceR P ⟨fr,[],[]⟩ t ((St.mk fr [] []).ev x) (l.map (St.mk fr [] []).ev) (hi.map (St.mk fr [] []).ev) (mx.map (St.mk fr [] []).ev)=some r:=h;show sliceR P ⟨fr,b,q⟩ t ((St.mk fr b q).ev x) (l.map (St.mk fr b q).ev) (hi.map (St.mk fr b q).ev) (mx.map (St.mk fr b q).ev)=some r;rw[hev];exact sliceR_mem h
 | indexAddr t x i=>
   have h:(match elemA P t ((St.mk fr [] []).ev x) ((St.mk fr [] []).ev i) with
     | some r=>some r
     | none=>elemR P ⟨fr,[],[]⟩ t ((St.mk fr [] []).ev x) ((St.mk fr [] []).ev i))=some r:=h
   show (match elemA P t ((St.mk fr b q).ev x) ((St.mk fr b q).ev i) with
     | some r=>some r
     | none=>elemR P ⟨fr,b,q⟩ t ((St.mk fr b q).ev x) ((St.mk fr b q).ev i))=some r
   rw[hev];split at h
   · exact h
   · exact elemR_mem h
 | call c=>
   obtain⟨callee,⟨args⟩,⟨tys⟩⟩:=c;cases callee with
   | builtin bi=>
     cases bi<;>first
       | exact h
       | (match args,tys,h with
         | [],_,h=>exact h
         | [x],[],h=>exact h
         | [x],[t],h=>first
           | exact h
           | (have h:lenR P t ⟨fr,[],[]⟩ ((St.mk fr [] []).ev x)=some r:=h
              show lenR P t ⟨fr,b,q⟩ ((St.mk fr b q).ev x)=some r;rw[hev];exact lenR_mem h)
         | [_],_::_::_,h=>exact h
         | [x,y],_,h=>first
           | exact h
           | (rw[<- h];show minR _ ((St.mk fr b q).ev x) ((St.mk fr b q).ev y)=minR _ ((St.mk fr [] []).ev x) ((St.mk fr [] []).ev y);rw[hev])
         | _::_::_::_,_,h=>exact h)
   | _=>exact h
 | _=>
   rw[<- h];simp only[opVal,hev,buildR,funcR]
theorem RelVs.of_get {S:Nat->Prop} {E:Env} {w:World}:∀{l:List SV} {vs:List Value},l.length=vs.length->(∀(i:Nat) (x:SV) (v:Value),l[i]?=some x->vs[i]?=some v->RelV S E w x v)->RelVs S E w l vs
 | [],vs,h,_=>by cases vs with | nil=>rfl | cons _ _=>simp at h
 | x::l,vs,h,hr=>by
   cases vs with
   | nil=>simp at h
   | cons v vs=>exact⟨v,vs,rfl,hr 0 x v rfl rfl,RelVs.of_get (by simpa using h) (fun i y u hy hu=>hr (i+1) y u (by simpa using hy) (by simpa using hu))⟩
def hideF (ops:List Oper) (L:Nat->Bool) (fr:List SV):List SV:=
 fr.mapIdx fun t y=>match wrF t ops 0 with
   | some j=>if L j=true then y else .un
   | none=>y
theorem hideF_length (ops:List Oper) (L:Nat->Bool) (fr:List SV):(hideF ops L fr).length=fr.length:=by simp [hideF]
theorem hideF_get {ops:List Oper} {L:Nat->Bool} {fr:List SV} {t:Nat}:(hideF ops L fr)[t]?=(fr[t]?).map fun y=>match wrF t ops 0 with
   | some j=>if L j=true then y else .un
   | none=>y:=by simp [hideF]
theorem hideF_rel {S:Nat->Prop} {E:Env} {w:World} {ops:List Oper} {L:Nat->Bool} {fr:List SV} {vs:List Value} (h:RelVs S E w fr vs):RelVs S E w (hideF ops L fr) vs:=by
 refine RelVs.of_get (by rw[hideF_length,h.length]) (fun i x v hx hv=>?_);rw[hideF_get] at hx;cases hf:fr[i]? with
 | none=>rw[hf] at hx;cases hx
 | some y=>
   obtain⟨u,hu,hr⟩:=h.get hf;rw[hv] at hu;simp at hu;subst hu;rw[hf] at hx;simp only[Option.map_some,Option.some.injEq] at hx;subst hx;split
   · split
     · exact hr
     · trivial
   · exact hr
theorem hideF_prune (ops:List Oper) (L:Nat->Bool) (fr:List SV):pruneAs (hideF ops L fr)=hideF ops L (pruneAs fr):=by
 apply List.ext_getElem?;intro t;rw[pruneAs_map,pruneAs_map,hideF_get,List.getElem?_map,hideF_get,List.getElem?_map];cases fr[t]? with
 | none=>rfl
 | some y=>
   simp only[Option.map_some];split
   · split<;>rfl
   · rfl
theorem hideF_put {ops:List Oper} {L L':Nat->Bool} {fr:List SV} {i d:Nat} {o:Oper} {x:SV} (honce:onceF ops 0 ops=true) (ho:ops[i]?=some o) (hd:o.dst=some d) (hL:∀j,L' j=if j=i then true else L j) :
   (hideF ops L fr).set d x=hideF ops L' (fr.set d x):=by
 have hw:=onceF_ok honce i o d ho hd;rw[Nat.zero_add] at hw;apply List.ext_getElem?;intro t;rw[List.getElem?_set,hideF_get,hideF_get,List.getElem?_set,hideF_length];by_cases e:d=t
 · subst e;rw[if_pos rfl,if_pos rfl,hw];split
   · simp [hL]
   · rfl
 · rw[if_neg e,if_neg e];cases hf:fr[t]? with
   | none=>rfl
   | some y=>
     simp only[Option.map_some];split
     · rename_i j hj;obtain⟨_,o',h1,h2⟩:=wrF_some hj
       have:j≠i:=fun e'=>by subst e';simp only[Nat.sub_zero] at h1;rw[ho] at h1;simp at h1;subst h1;rw[hd] at h2;simp at h2;exact e h2
       rw[hL,if_neg this]
     · rfl
theorem hideF_none {ops:List Oper} {L L':Nat->Bool} {fr:List SV} {i:Nat} {o:Oper} (ho:ops[i]?=some o) (hd:o.dst=none) (hL:∀j,L' j=if j=i then true else L j):hideF ops L fr=hideF ops L' fr:=by
 apply List.ext_getElem?;intro t;rw[hideF_get,hideF_get];cases hf:fr[t]? with
 | none=>rfl
 | some y=>
   simp only[Option.map_some];split
   · rename_i j hj;obtain⟨_,o',h1,h2⟩:=wrF_some hj
     have:j≠i:=fun e'=>by subst e';simp only[Nat.sub_zero] at h1;rw[ho] at h1;simp at h1;subst h1;rw[hd] at h2;cases h2
     rw[hL,if_neg this]
   · rfl
theorem hideF_st {ops:List Oper} {L L':Nat->Bool} {i:Nat} {o:Oper} {x:SV} (honce:onceF ops 0 ops=true) (ho:ops[i]?=some o) (hL:∀j,L' j=if j=i then true else L j) (s:St) :
   (({s with fr:=hideF ops L s.fr}:St).put o.dst x)={s.put o.dst x with fr:=hideF ops L' (s.put o.dst x).fr}:=by
 cases hd:o.dst with
 | none=>simp only[St.put];rw[hideF_none ho hd hL]
 | some d=>simp only[St.put];rw[hideF_put honce ho hd hL]
def xOf (s:St) (o:Oper):SV:=
 match o.dst with
 | some d=>s.fr.getD d .un
 | none=>.un
theorem xOf_put {s:St} {o:Oper} {x:SV}:xOf (s.put o.dst x) o=x\/xOf (s.put o.dst x) o=.un:=by
 unfold xOf;cases hd:o.dst with
 | none=>exact .inr rfl
 | some d=>
   simp only[St.put];rw[List.getD_eq_getElem?_getD,List.getElem?_set_self'];cases s.fr[d]? with
   | none=>exact .inr rfl
   | some y=>exact .inl rfl
theorem put_xOf (s:St) (o:Oper):s.put o.dst (xOf s o)=s:=by
 unfold xOf;cases hd:o.dst with
 | none=>rfl
 | some d=>
   simp only[St.put]
   have:s.fr.set d (s.fr.getD d .un)=s.fr:=by
     apply List.ext_getElem?;intro t;rw[List.getElem?_set];split
     · rename_i e;subst e;split
       · rename_i hlt;rw[List.getD_eq_getElem?_getD,List.getElem?_eq_getElem hlt];rfl
       · rename_i hlt;rw[List.getElem?_eq_none (by omega)]
     · rfl
   rw[this]
def depF (ops:Array Oper):Nat->Nat->Nat->Bool
 | 0,_,_=>false
 | n+1,i,j=>Nat.beq i j||match ops[i]? with
   | some o=>(edges o).any (fun k=>Nat.ble j k&&depF ops n k j)
   | none=>false
mutual
def hasSl:Ty->Bool
 | .sl _=>true
 | .st fs=>hasSls fs
 | _=>false
def hasSls:List Ty->Bool
 | []=>false
 | f::fs=>hasSl f||hasSls fs
end
def ownLit (P:Program) (op:Op):Bool:=
 match op with
 | .buildSlice t n _=>Nat.beq n 0||(match P.underlying t with
   | some (.slice e)=>(match tyOf P 9 e with
     | some ty=>hasSl ty
     | none=>false)
   | _=>false)
 | _=>false
def antiB (ops:Array Oper) (k:Nat) (o:Oper):Bool:=
 match o.dst with
 | none=>false
 | some d=>ops.toList.any fun o'=>has (looks ops o') d&&!has (edges o') k
def edges2 (ops:Array Oper):List Oper->Nat->Bool
 | [],_=>true
 | o::r,k=>(edges o).all (fun j=>Nat.blt j k)&&(looks ops o).all (fun t=>match wrF t ops.toList 0 with | some j=>has (edges o) j||depF ops ops.size j k | none=>true)&&edges2 ops r (k+1)
theorem edges2_ok {ops:Array Oper}:∀{l:List Oper} {k:Nat},edges2 ops l k=true->∀i o,l[i]?=some o->(∀j∈edges o,j<k+i)/\∀t∈looks ops o,∀j,wrF t ops.toList 0=some j->j∈edges o\/depF ops ops.size j (k+i)=true
 | [],_,_,_,_,hi=>by simp at hi
 | o::r,k,h,i,o',hi=>by
   unfold edges2 at h;simp only[Bool.and_eq_true] at h;cases i with
   | zero=>
     simp at hi;subst hi;refine⟨fun j hj=>?_,fun t ht j hj=>?_⟩
     · have:=List.all_eq_true.1 h.1.1 j hj
       exact Nat.le_of_ble_eq_true this
     · have:=List.all_eq_true.1 h.1.2 t ht
       rw[hj] at this;simp only[Bool.or_eq_true] at this;exact this.imp has_mem id
   | succ i=>
     obtain⟨h1,h2⟩:=edges2_ok h.2 i o' (by simpa using hi);refine⟨fun j hj=>by have:=h1 j hj;omega,fun t ht j hj=>?_⟩;rw[show k+(i+1)=k+1+i from by omega];exact h2 t ht j hj
section
variable (P:Program) (ct:List (Con P)) (ops:Array Oper)
def freeR (s:St) (o:Oper):R:=opVal P ⟨view [] (looks ops o) s.fr 0,[],[]⟩ o.op
def uniR (s:St) (o:Oper):R:=uni P ct {s with fr:=view [] (looks ops o) s.fr 0} o.op
def gate (s:St) (o:Oper):Option Bool:=
 match o.guard with
 | none=>some true
 | some (j,want)=>match (ops[j]?).bind (·.dst) with
   | none=>none
   | some d=>match s.fr[d]? with
     | some (.tup [])=>some false
     | some .tt=>some want
     | some .ff=>some (!want)
     | _=>none
def gateD (s:St) (o:Oper):Option (Nat×Bool):=
 match o.guard with
 | none=>none
 | some (j,_)=>match (ops[j]?).bind (·.dst) with
   | none=>none
   | some d=>match s.fr[d]? with
     | some (.bool b)=>some (d,b)
     | _=>none
def litS (s:St) (d:Nat) (b:Bool):St:={s with fr:=s.fr.set d (litB b)}
def freeG (s:St) (o:Oper):R:=
 match gate ops s o with
 | some true=>freeR P ops s o
 | some false=>some (none,.tup [])
 | none=>none
def uniG (s:St) (o:Oper):R:=
 match gate ops s o with
 | some true=>uniR P ct ops s o
 | some false=>some (none,.tup [])
 | none=>none
def placeE:List Oper->Nat->List Nat->List (Nat×Bool)->List Nat->St->(List Nat->List (Nat×Bool)->List Nat->St->VC)->VC
 | [],_,seen,wait,pend,s,K=>K seen wait pend s
 | o::r,k,seen,wait,pend,s,K=>
   bif has seen k||!(edges o).all (has seen) then placeE r (k+1) seen wait pend s K
   else
     let go:St->VC:=fun s=>bif antiB ops k o then placeE r (k+1) seen wait (k::pend) s K
       else match freeG P ops s o with
         | some (q,x)=>obq q (forceV x fun x=>placeE r (k+1) (k::seen) ((k,true)::wait) pend (s.put o.dst x) K)
         | none=>match (bif ownLit P o.op then none else uniG P ct ops s o) with
           | some (q,x)=>obq q (forceV x fun x=>placeE r (k+1) (k::seen) ((k,false)::wait) pend (s.put o.dst x) K)
           | none=>placeE r (k+1) seen wait (k::pend) s K
     match gateD ops s o with
     | some (d,b)=>.and (.imp (b=true) (forceSt (litS s d true) go)) (.imp (b=false) (forceSt (litS s d false) go))
     | none=>go s
def cleanE (s:St) (o:Oper):Bool:=(looks ops o).all (fun t=>shallow (s.fr.getD t .un))&&shallow (xOf s o)
def againE (qt:Bool) (s0:St):List (Nat×Bool)->St->VC->VC
 | [],_,v=>v
 | (k,b)::r,s,v=>match ops[k]? with
   | none=>.f
   | some o=>bif b&&(qt||cleanE ops s0 o) then againE qt s0 r s v
     else match (bif b then freeG P ops s o else uniG P ct ops s o) with
       | some (q,y)=>obq q (sameV y (xOf s o) (againE qt s0 r s v))
       | none=>.f
def conjV:List VC->VC
 | []=>.t
 | [v]=>v
 | v::l=>.and v (conjV l)
def waitE (wait:List (Nat×Bool)) (h:Nat):List (Nat×Bool):=wait.filter fun k=>!depF ops ops.size h k.1
def allIn (l:List Nat):Nat->Bool
 | 0=>true
 | n+1=>has l n&&allIn l n
def lastB (seen:List Nat) (wait:List (Nat×Bool)) (h:Nat):Bool:=allIn (h::seen) ops.size&&(waitE ops wait h).isEmpty
def effE (K:St->VC) (next:List Nat->List (Nat×Bool)->St->VC) (seen:List Nat) (wait:List (Nat×Bool)) (s:St) (h:Nat):VC:=
 match ops[h]? with
 | some o=>bif !(match gate ops s o with | some true=>true | _=>false) then .f else bif lastB ops seen wait h then stepX P ct o s fun x s1=>forceSt (s1.put o.dst x) K else
     stepX P ct o {s with fr:=view [] (looks ops o) s.fr 0} fun x s1=>
     forceSt (({s1 with fr:=bif quiet o.op then s.fr else pruneAs s.fr}:St).put o.dst x) fun s2=>
       againE P ct ops (quiet o.op) s (waitE ops wait h) s2 (next (h::seen) (waitE ops wait h) s2)
 | none=>.f
def satE (next:List Nat->List (Nat×Bool)->St->VC) (K:St->VC) (seen:List Nat) (wait:List (Nat×Bool)) (pend:List Nat) (s:St):VC:=
 match pend with
 | []=>bif allIn seen ops.size then K s else .f
 | p=>conjV (p.map (effE P ct ops K next seen wait s))
def exE (K:St->VC):Nat->List Nat->List (Nat×Bool)->St->VC
 | 0,_,_,_=>.f
 | n+1,seen,wait,s=>placeE P ct ops ops.toList 0 seen wait [] s (satE P ct ops (exE K n) K)
end
section
variable {P:Program} {ct:List (Con P)} {ops:Array Oper}
def RunW (P:Program) (ops:Array Oper) (s:St) (o:Oper):Prop:=
 ∀f:List SV,f.length=s.fr.length->(∀t∈looks ops o,f[t]?=s.fr[t]?)->∀c E a w,Inv c E {s with fr:=f} a w->∀(K:Act->World->Prop) Q,
   (∀v w',Inv c E {s with fr:=f} a w'->RelV (Reg c E {s with fr:=f} w') E w' (xOf s o) v->K (a.put o.dst v) w')->if Region.wanted o (yielded ops a.tmps)=true then o.wp P a w K Q else K (a.put o.dst undef) w
def FreeW (P:Program) (ops:Array Oper) (s:St) (o:Oper):Prop:=∀b q,RunW P ops ⟨s.fr,b,q⟩ o
theorem RunW.congr {s s':St} {o:Oper} (h:RunW P ops s o) (hb:s'.bx=s.bx) (hq:s'.rw=s.rw) (hl:s'.fr.length=s.fr.length) (ha:∀t∈looks ops o,s'.fr[t]?=s.fr[t]?) (hx:xOf s' o=xOf s o):RunW P ops s' o:=by
 intro f h1 h2 c E a w hi K Q hK;have e:({s' with fr:=f}:St)={s with fr:=f}:=by cases s';cases s;simp only at hb hq;subst hb;subst hq;rfl
 rw[e] at hi hK;refine h f (by omega) (fun t ht=>by rw[h2 t ht,ha t ht]) c E a w hi K Q (fun v w' h3 h4=>hK v w' h3 (by rw[hx];exact h4))
theorem FreeW.congr {s s':St} {o:Oper} (h:FreeW P ops s o) (hl:s'.fr.length=s.fr.length) (ha:∀t∈looks ops o,s'.fr[t]?=s.fr[t]?) (hx:xOf s' o=xOf s o):FreeW P ops s' o:=fun b q=>(h b q).congr rfl rfl hl ha hx
theorem view_invX {c:Ctx} {E:Env} {s':St} {a:Act} {w:World} {ts:List Nat} (h:Inv c E s' a w):Inv c E {s' with fr:=view [] ts s'.fr 0} a w:=
 ⟨h.os,h.tape,h.output,h.size,h.old,h.defers,view_rel 0 (fun i b' b h1 _ _=>by simp [decOf] at h1) h.fr,h.nbx,h.nrw,h.nfp,h.bx,h.rw,h.inj,h.new,h.lent,h.lrow,h.fresh,h.bor⟩
theorem view_looks {fr f:List SV} {ts:List Nat} (hl:f.length=fr.length) (ha:∀t∈ts,f[t]?=fr[t]?):view [] ts f 0=view [] ts fr 0:=
 view_agree 0 hl (fun i hi=>by rw[Nat.zero_add] at hi;exact ha i (has_mem hi))
theorem gate_wanted {s s':St} {o:Oper} {g:Bool} (hg:gate ops s o=some g) (ha:∀t∈looks ops o,s'.fr[t]?=s.fr[t]?) {c:Ctx} {E:Env} {a:Act} {w:World} (h:Inv c E s' a w):Region.wanted o (yielded ops a.tmps)=g:=by
 unfold gate at hg;split at hg
 · rename_i hn;simp at hg;subst hg;simp [Region.wanted,hn]
 · rename_i j want hn;split at hg
   · cases hg
   · rename_i d hd;have hl:d∈looks ops o:=by simp [looks,hn,hd]
     have hf:=ha d hl;split at hg
     · rename_i hs;simp at hg;subst hg;exact wanted_undef hn hd h (by rw[hf];exact hs)
     · rename_i hs;simp at hg;subst hg;rw[wanted_of hn hd (h.known (b:=true) (by rw[hf];exact hs))];cases want<;>rfl
     · rename_i hs;simp at hg;subst hg;rw[wanted_of hn hd (h.known (b:=false) (by rw[hf];exact hs))];cases g<;>rfl
     · cases hg
theorem runW_of {s s':St} {o:Oper} {q:Option Prop} {x:SV} (hu:uniG P ct ops s o=some (q,x)) (hm:met q) (hb:s'.bx=s.bx) (hq:s'.rw=s.rw) (hl:s'.fr.length=s.fr.length) (ha:∀t∈looks ops o,s'.fr[t]?=s.fr[t]?) (hx:xOf s' o=x\/xOf s' o=.un):RunW P ops s' o:=by
 intro f h1 h2 c E a w h K Q hK;unfold uniG at hu;split at hu
 case h_2 hg=>
   simp at hu;obtain⟨rfl,rfl⟩:=hu;rw[if_neg (by rw[gate_wanted hg (s':={s' with fr:=f}) (fun t ht=>by show f[t]?=_;rw[h2 t ht,ha t ht]) h];simp)];refine hK _ _ h ?_;rcases hx with hx | hx
   · rw[hx];exact undef_rel
   · rw[hx];trivial
 case h_3=>cases hu
 case h_1 hg=>
 rw[if_pos (gate_wanted hg (s':={s' with fr:=f}) (fun t ht=>by show f[t]?=_;rw[h2 t ht,ha t ht]) h)];have hv:view [] (looks ops o) f 0=view [] (looks ops o) s.fr 0:=view_looks (by omega) (fun t ht=>by rw[h2 t ht,ha t ht]);have hu2:uni P ct {({s' with fr:=f}:St) with fr:=view [] (looks ops o) f 0} o.op=some (q,x):=by
   rw[<- hu,uniR,hv];cases s';cases s;simp only at hb hq;subst hb;subst hq;rfl
 refine uni_ok q x hu2 hm c E a w (view_invX h) K Q (fun v w' hk hr=>hK v w' (h.call0 hk) ?_);have hr:=hr.mono (S':=Reg c E {s' with fr:=f} w') (fun _ _=>rfl) (fun b hb=>grow_le h hk (s':={s' with fr:=f}) rfl b hb) E.le_refl;rcases hx with hx | hx
 · rw[hx];exact hr
 · rw[hx];trivial
theorem freeW_of {s s':St} {o:Oper} {q:Option Prop} {x:SV} (hu:freeG P ops s o=some (q,x)) (hm:met q) (hl:s'.fr.length=s.fr.length) (ha:∀t∈looks ops o,s'.fr[t]?=s.fr[t]?) (hx:xOf s' o=x\/xOf s' o=.un):FreeW P ops s' o:=by
 intro b r;have h1:uniG P ([]:List (Con P)) ops ⟨s.fr,b,r⟩ o=some (q,x):=by
   unfold freeG at hu;have hgs:gate ops ⟨s.fr,b,r⟩ o=gate ops s o:=rfl;unfold uniG;rw[hgs];split at hu
   · have h2:=opVal_mem (b:=b) (q:=r) hu;show uni P _ ⟨view [] (looks ops o) s.fr 0,b,r⟩ o.op=_;unfold uni;rw[h2]
   · exact hu
   · cases hu
 exact runW_of (s:=⟨s.fr,b,r⟩) (s':=⟨s'.fr,b,r⟩) h1 hm rfl rfl hl ha hx
theorem FreeW.run {s:St} {o:Oper} (h:FreeW P ops s o):RunW P ops s o:=h s.bx s.rw
theorem has_of {l:List Nat} {k:Nat} (h:k∈l):has l k=true:=by
 induction l with
 | nil=>cases h
 | cons x l ih=>
   unfold has;cases hb:Nat.beq x k with
   | true=>rfl
   | false=>
     rcases List.mem_cons.1 h with rfl | h
     · rw[Nat.beq_refl] at hb;cases hb
     · exact ih h
theorem has_cons {l:List Nat} {i k:Nat}:has (i::l) k=if k=i then true else has l k:=by
 show (bif Nat.beq i k then true else has l k)=_;by_cases e:k=i
 · subst e;rw[Nat.beq_refl,if_pos rfl];rfl
 · have:Nat.beq i k=false:=by
     cases hb:Nat.beq i k with
     | true=>exact absurd (Nat.eq_of_beq_eq_true hb).symm e
     | false=>rfl
   rw[this,if_neg e];rfl
theorem depF_listed {ops:Array Oper} {listed:Nat->Bool} (hc:∀i o,listed i=true->ops[i]?=some o->∀j∈edges o,listed j=true):∀(n i j:Nat) (o:Oper),ops[i]?=some o->(∀k∈edges o,listed k=true)->i≠j->depF ops n i j=true->listed j=true
 | 0,_,_,_,_,_,_,h=>by cases h
 | n+1,i,j,o,ho,he,hij,h=>by
   unfold depF at h;rw[ho] at h;simp only[Bool.or_eq_true] at h;rcases h with h | h
   · exact absurd (Nat.eq_of_beq_eq_true h) hij
   · obtain⟨k,hk,h2⟩:=List.any_eq_true.1 h;simp only[Bool.and_eq_true] at h2;by_cases e:k=j
     · rw[<- e];exact he k hk
     · have hlk:=he k hk;cases hko:ops[k]? with
       | none=>
         have h3:=h2.2;cases n with
         | zero=>cases h3
         | succ n=>
           unfold depF at h3;rw[hko] at h3;simp only[Bool.or_false] at h3;exact absurd (Nat.eq_of_beq_eq_true h3) e
       | some o'=>exact depF_listed hc n k j o' hko (hc k o' hlk hko) e h2.2
theorem anti_no {ops:Array Oper} {k:Nat} {o:Oper} (h:antiB ops k o=false) {d:Nat} (hd:o.dst=some d) {i:Nat} {o':Oper} (ho:ops[i]?=some o') (ht:d∈looks ops o'):k∈edges o':=by
 unfold antiB at h;rw[hd] at h;simp only[List.any_eq_false] at h;have h1:=h o' (List.mem_of_getElem? (by simpa using ho));simp only[Bool.and_eq_true,Bool.not_eq_eq_eq_not,Bool.not_true,not_and,Bool.not_eq_false] at h1;exact has_mem (h1 (has_of ht))
def vis (seen:List Nat) (listed:Nat->Bool) (j:Nat):Bool:=listed j||!has seen j
structure Sat (P:Program) (ops:Array Oper) (s:St) (seen:List Nat) (wait:List (Nat×Bool)) (listed:Nat->Bool):Prop where
 sub:∀i,listed i=true->has seen i=true
 cl:∀i o,has seen i=true->ops[i]?=some o->∀j∈edges o,has seen j=true
 wt:∀i o,has seen i=true->listed i=false->ops[i]?=some o->∃b,(i,b)∈wait/\RunW P ops s o/\(b=true->FreeW P ops s o)
 an:∀i o,has seen i=true->listed i=false->ops[i]?=some o->antiB ops i o=false
def PendOk (ops:Array Oper) (seen pend:List Nat):Prop:=∀i∈pend,has seen i=false/\∃o:Oper,ops[i]?=some o/\∀j∈edges o,has seen j=true
def FullOk (ops:Array Oper) (seen pend:List Nat) (k:Nat):Prop:=∀(i:Nat) (o:Oper),i<k->ops[i]?=some o->(∀j∈edges o,has seen j=true)->has seen i=true\/i∈pend
theorem Sat.place {s:St} {seen:List Nat} {wait:List (Nat×Bool)} {listed:Nat->Bool} {k:Nat} {o:Oper} {x:SV} {b:Bool} (honce:onceF ops.toList 0 ops.toList=true) (hedge:edges2 ops ops.toList 0=true) (h:Sat P ops s seen wait listed) (hanti:antiB ops k o=false) (ho:ops[k]?=some o) (hk:has seen k=false) (hed:∀j∈edges o,has seen j=true)
   (hrun:(∀t∈looks ops o,(s.put o.dst x).fr[t]?=s.fr[t]?)->(s.put o.dst x).fr.length=s.fr.length->RunW P ops (s.put o.dst x) o/\(b=true->FreeW P ops (s.put o.dst x) o)):Sat P ops (s.put o.dst x) (k::seen) ((k,b)::wait) listed:=by
 have hol:ops.toList[k]?=some o:=by simpa using ho
 have hlen:(s.put o.dst x).fr.length=s.fr.length:=by cases o.dst<;>simp [St.put]
 have hbx:(s.put o.dst x).bx=s.bx:=by cases o.dst<;>rfl
 have hrw:(s.put o.dst x).rw=s.rw:=by cases o.dst<;>rfl
 have same:∀(i:Nat) (o':Oper),ops[i]?=some o'->(∀j∈edges o',j≠k)->∀t∈looks ops o',(s.put o.dst x).fr[t]?=s.fr[t]?:=by
   intro i o' ho' hne t ht;cases hd:o.dst with
   | none=>rfl
   | some d=>
     simp only[St.put];rw[List.getElem?_set_ne];rintro rfl;exact hne k (anti_no hanti hd ho' ht) rfl
 refine⟨fun i hi=>by rw[has_cons];split<;>first | rfl | exact h.sub i hi,fun i o' hi ho' j hj=>?_,fun i o' hi hl ho'=>?_,fun i o' hi hl ho'=>?_⟩
 · rw[has_cons] at hi;rw[has_cons];split
   · rfl
   · by_cases e:i=k
     · subst e;rw[ho] at ho';simp at ho';subst ho';exact hed j hj
     · rw[if_neg e] at hi;exact h.cl i o' hi ho' j hj
 · rw[has_cons] at hi;by_cases e:i=k
   · subst e;rw[ho] at ho';simp at ho';subst ho';obtain⟨h1,h2⟩:=hrun (same i o ho (fun j hj=>by have:=(edges2_ok hedge i o hol).1 j hj;omega)) hlen;exact⟨b,List.mem_cons_self ..,h1,h2⟩
   · rw[if_neg e] at hi;obtain⟨b',h1,h2,h3⟩:=h.wt i o' hi hl ho';have hne:∀j∈edges o',j≠k:=fun j hj e'=>by
       have:=h.cl i o' hi ho' j hj
       rw[e',hk] at this;cases this
     have hs:=same i o' ho' hne;have hx:xOf (s.put o.dst x) o'=xOf s o':=by
       unfold xOf;cases hd':o'.dst with
       | none=>rfl
       | some d'=>
         cases hd:o.dst with
         | none=>rfl
         | some d=>
           simp only[St.put];rw[List.getD_eq_getElem?_getD,List.getD_eq_getElem?_getD,List.getElem?_set_ne];rintro rfl;have h4:=onceF_ok honce k o d hol hd;have h5:=onceF_ok honce i o' d (by simpa using ho') hd';rw[h4] at h5;simp at h5;exact e h5.symm
     exact⟨b',List.mem_cons_of_mem _ h1,h2.congr hbx hrw hlen hs hx,fun hb=>(h3 hb).congr hlen hs hx⟩
 · rw[has_cons] at hi;by_cases e:i=k
   · subst e;rw[ho] at ho';simp at ho';subst ho';exact hanti
   · rw[if_neg e] at hi;exact h.an i o' hi hl ho'
theorem vis_place {s:St} {seen:List Nat} {listed:Nat->Bool} {k:Nat} {o:Oper} {x:SV} (honce:onceF ops.toList 0 ops.toList=true) (ho:ops.toList[k]?=some o) (hl:listed k=false) {c:Ctx} {E:Env} {a:Act} {w:World} (h:Inv c E {s with fr:=hideF ops.toList (vis seen listed) s.fr} a w) :
   Inv c E {s.put o.dst x with fr:=hideF ops.toList (vis (k::seen) listed) (s.put o.dst x).fr} a w:=by
 have hv:∀j,vis (k::seen) listed j=if j=k then false else vis seen listed j:=fun j=>by
   unfold vis;rw[has_cons];by_cases e:j=k
   · subst e;simp [hl]
   · simp [e]
 have hrel:RelVs (Reg c E s w) E w (hideF ops.toList (vis (k::seen) listed) (s.put o.dst x).fr) a.tmps.toList:=by
   have h1:hideF ops.toList (vis (k::seen) listed) (s.put o.dst x).fr=match o.dst with | some d=>(hideF ops.toList (vis seen listed) s.fr).set d .un | none=>hideF ops.toList (vis seen listed) s.fr:=by
     apply List.ext_getElem?;intro t;have other:∀t,(∀d,o.dst=some d->d≠t)->(hideF ops.toList (vis (k::seen) listed) s.fr)[t]?=(hideF ops.toList (vis seen listed) s.fr)[t]?:=by
       intro t ht;rw[hideF_get,hideF_get];cases hf:s.fr[t]? with
       | none=>rfl
       | some y=>
         simp only[Option.map_some];split
         · rename_i j hj;obtain⟨_,o',h1,h2⟩:=wrF_some hj
           have:j≠k:=fun e=>by
             subst e;simp only[Nat.sub_zero] at h1;rw[ho] at h1;simp at h1;subst h1;exact ht t h2 rfl
           rw[hv,if_neg this]
         · rfl
     cases hd:o.dst with
     | none=>exact other t (fun d h=>by rw[hd] at h;cases h)
     | some d=>
       have hw:=onceF_ok honce k o d ho hd;rw[Nat.zero_add] at hw;simp only[St.put];rw[hideF_get,List.getElem?_set,List.getElem?_set,hideF_length];by_cases e:d=t
       · subst e;rw[if_pos rfl,if_pos rfl];by_cases hdl:d<s.fr.length
         · rw[if_pos hdl,if_pos hdl];simp only[Option.map_some,hw,hv,if_true];rfl
         · rw[if_neg hdl,if_neg hdl];rfl
       · rw[if_neg e,if_neg e]
         have:=other t (fun d' h=>by rw[hd] at h;simp at h;subst h;exact e)
         rw[hideF_get] at this;exact this
   rw[h1];cases hd:o.dst with
   | none=>exact h.fr
   | some d=>exact RelVs.set_left h.fr d (fun _ _=>trivial)
 have hb:(s.put o.dst x).bx=s.bx:=by cases o.dst<;>rfl
 have hq:(s.put o.dst x).rw=s.rw:=by cases o.dst<;>rfl
 have e:({s.put o.dst x with fr:=hideF ops.toList (vis (k::seen) listed) (s.put o.dst x).fr}:St)={s with fr:=hideF ops.toList (vis (k::seen) listed) (s.put o.dst x).fr}:=by
   show St.mk _ _ _=St.mk _ _ _;rw[hb,hq]
 rw[e];exact⟨h.os,h.tape,h.output,h.size,h.old,h.defers,hrel,h.nbx,h.nrw,h.nfp,h.bx,h.rw,h.inj,h.new,h.lent,h.lrow,h.fresh,h.bor⟩
theorem gateD_eq {s:St} {o:Oper} {d:Nat} {b:Bool} (h:gateD ops s o=some (d,b)):s.fr[d]?=some (.bool b):=by
 unfold gateD at h;split at h
 · cases h
 · split at h
   · cases h
   · split at h
     · rename_i hs;simp at h;obtain⟨rfl,rfl⟩:=h;exact hs
     · cases h
theorem lit_back {S:Nat->Prop} {E:Env} {w:World} {b:Bool} {v:Value} (h:RelV S E w (litB b) v):RelV S E w (.bool b) v:=by cases b<;>exact h
theorem lit_on {S:Nat->Prop} {E:Env} {w:World} {b:Bool} {v:Value} (h:RelV S E w (.bool b) v):RelV S E w (litB b) v:=by cases b<;>exact h
theorem Inv.setFr {c:Ctx} {E:Env} {s:St} {a:Act} {w:World} (h:Inv c E s a w) {f:List SV} (hf:RelVs (Reg c E s w) E w f a.tmps.toList):Inv c E {s with fr:=f} a w:=
 ⟨h.os,h.tape,h.output,h.size,h.old,h.defers,hf,h.nbx,h.nrw,h.nfp,h.bx,h.rw,h.inj,h.new,h.lent,h.lrow,h.fresh,h.bor⟩
theorem rel_relit {S:Nat->Prop} {E:Env} {w:World} {f:List SV} {vs:List Value} {d:Nat} {x y:SV} (h:RelVs S E w f vs) (hd:f[d]?=some x) (hxy:∀v,RelV S E w x v->RelV S E w y v):RelVs S E w (f.set d y) vs:=by
 obtain⟨u,hu,hr⟩:=h.get hd;exact h.set_left d (fun v hv=>by rw[hu] at hv;simp at hv;subst hv;exact hxy _ hr)
theorem RunW.lit {s:St} {o:Oper} {d:Nat} {b:Bool} (h:RunW P ops s o) (hd:s.fr[d]?=some (.bool b)):RunW P ops (litS s d b) o:=by
 have hdl:d<s.fr.length:=(List.getElem?_eq_some_iff.1 hd).1;intro f h1 h2 c E a w hi K Q hK;have h1:f.length=s.fr.length:=by rw[h1];simp [litS]
 have hx:∀S E w v,RelV S E w (xOf s o) v->RelV S E w (xOf (litS s d b) o) v:=by
   intro S E w v hr;unfold xOf at hr ⊢;cases ho:o.dst with
   | none=>rw[ho] at hr;exact hr
   | some d'=>
     rw[ho] at hr;simp only[litS,List.getD_eq_getElem?_getD,List.getElem?_set] at hr ⊢;by_cases e:d=d'
     · subst e;rw[if_pos rfl,if_pos hdl];rw[hd] at hr;exact lit_on hr
     · rw[if_neg e];exact hr
 by_cases hl:d∈looks ops o
 · have hfd:f[d]?=some (litB b):=by rw[h2 d hl];simp [litS,hdl]
   have hfl:d<f.length:=by omega
   have hback:∀{w'},Inv c E {litS s d b with fr:=f} a w'->Inv c E {s with fr:=f.set d (.bool b)} a w':=fun hi=>hi.setFr (rel_relit hi.fr hfd (fun v=>lit_back))
   have hon:∀{w'},Inv c E {s with fr:=f.set d (.bool b)} a w'->Inv c E {litS s d b with fr:=f} a w':=fun hi=>by
     have:=hi.setFr (rel_relit (y:=litB b) hi.fr (d:=d) (x:=.bool b) (by simp [hfl]) (fun v=>lit_on))
     have e:(f.set d (SV.bool b)).set d (litB b)=f:=by
       rw[List.set_set];apply List.ext_getElem?;intro i;rw[List.getElem?_set];by_cases e:d=i
       · subst e;rw[if_pos rfl,if_pos hfl,hfd]
       · rw[if_neg e]
     simp only[e] at this;exact this
   refine h (f.set d (.bool b)) (by simp [h1]) (fun t ht=>?_) c E a w (hback hi) K Q (fun v w' h3 h4=>hK v w' (hon h3) (hx _ _ _ _ h4));rw[List.getElem?_set];by_cases e:d=t
   · subst e;rw[if_pos rfl,if_pos hfl,hd]
   · rw[if_neg e,h2 t ht];simp [litS,e]
 · refine h f h1 (fun t ht=>?_) c E a w hi K Q (fun v w' h3 h4=>hK v w' h3 (hx _ _ _ _ h4));rw[h2 t ht];have e:d≠t:=fun e=>hl (by rw[e];exact ht)
   simp [litS,e]
theorem Sat.lit {s:St} {seen:List Nat} {wait:List (Nat×Bool)} {listed:Nat->Bool} {d:Nat} {b:Bool} (h:Sat P ops s seen wait listed) (hd:s.fr[d]?=some (.bool b)):Sat P ops (litS s d b) seen wait listed:=
 ⟨h.sub,h.cl,fun i o hi hl ho=>by
   obtain⟨b',h1,h2,h3⟩:=h.wt i o hi hl ho;exact⟨b',h1,h2.lit hd,fun hb x q=>RunW.lit (s:=⟨s.fr,x,q⟩) (h3 hb x q) hd⟩,h.an⟩
theorem vis_lit {s:St} {seen:List Nat} {listed:Nat->Bool} {d:Nat} {b:Bool} (hd:s.fr[d]?=some (.bool b)) {c:Ctx} {E:Env} {a:Act} {w:World} (h:Inv c E {s with fr:=hideF ops.toList (vis seen listed) s.fr} a w):Inv c E {litS s d b with fr:=hideF ops.toList (vis seen listed) (litS s d b).fr} a w:=by
 refine h.setFr ?_;have hdl:d<s.fr.length:=(List.getElem?_eq_some_iff.1 hd).1;refine RelVs.of_get (by have:=h.fr.length;rw[hideF_length] at this ⊢;simp only[litS,List.length_set];exact this.symm) (fun i x v hx hv=>?_);rw[hideF_get] at hx;have hg:∀y,(hideF ops.toList (vis seen listed) s.fr)[i]?=some y->RelV (Reg c E {s with fr:=hideF ops.toList (vis seen listed) s.fr} w) E w y v:=fun y hy=>by
   obtain⟨u,hu,hr⟩:=h.fr.get hy;rw[hv] at hu;simp at hu;subst hu;exact hr
 have hs:=hideF_get (ops:=ops.toList) (L:=vis seen listed) (fr:=s.fr) (t:=i);simp only[litS,List.getElem?_set] at hx;by_cases e:d=i
 · subst e;rw[if_pos rfl,if_pos hdl] at hx;rw[hd] at hs;simp only[Option.map_some] at hx hs;split at hx
   · rename_i j hj;rw[hj] at hs;simp only at hs;split at hx
     · rename_i hvj;rw[if_pos hvj] at hs;simp at hx;subst hx;exact lit_on (hg _ hs)
     · simp at hx;subst hx;trivial
   · rename_i hj;rw[hj] at hs;simp at hx;subst hx;exact lit_on (hg _ hs)
 · rw[if_neg e] at hx;exact hg x (by rw[hs];exact hx)
theorem placeE_ok {K:List Nat->List (Nat×Bool)->List Nat->St->VC} {listed:Nat->Bool} (honce:onceF ops.toList 0 ops.toList=true) (hedge:edges2 ops ops.toList 0=true):∀(l:List Oper) (k:Nat) (seen:List Nat) (wait:List (Nat×Bool)) (pend:List Nat) (s:St),ops.toList.drop k=l->(placeE P ct ops l k seen wait pend s K).den->
   Sat P ops s seen wait listed->PendOk ops seen pend->(∀i∈pend,i<k)->FullOk ops seen pend k->(∀i,has seen i=true->i<ops.size)->
   ∃seen' wait' pend' s',(K seen' wait' pend' s').den/\Sat P ops s' seen' wait' listed/\PendOk ops seen' pend'/\FullOk ops seen' pend' ops.size/\(∀c E a w,Inv c E {s with fr:=hideF ops.toList (vis seen listed) s.fr} a w->Inv c E {s' with fr:=hideF ops.toList (vis seen' listed) s'.fr} a w)/\(∀i,has seen' i=true->i<ops.size)
 | [],k,seen,wait,pend,s,hl,hv,h,hp,hpk,hf,hlt=>by
   have hk:ops.size<=k:=by simpa using hl
   exact⟨seen,wait,pend,s,hv,h,hp,fun i o hi ho hj=>hf i o (by omega) ho hj,fun _ _ _ _ h=>h,hlt⟩
 | o::r,k,seen,wait,pend,s,hl,hv,h,hp,hpk,hf,hlt=>by
   have hol:ops.toList[k]?=some o:=by
     have:=congrArg (·[0]?) hl
     simpa using this
   have ho:ops[k]?=some o:=by simpa using hol
   have hks:k<ops.size:=(Array.getElem?_eq_some_iff.1 ho).1;have hl':ops.toList.drop (k+1)=r:=by rw[<- List.drop_drop,hl];rfl
   obtain⟨he1,he2⟩:=edges2_ok hedge k o hol;unfold placeE at hv;cases hc:has seen k||!(edges o).all (has seen) with
   | true=>
     rw[hc] at hv;refine placeE_ok honce hedge r (k+1) seen wait pend s hl' hv h hp (fun i hi=>by have:=hpk i hi;omega) (fun i o' hi ho' hj=>?_) hlt;by_cases e:i=k
     · subst e;rw[ho] at ho';simp at ho';subst ho';simp only[Bool.or_eq_true,Bool.not_eq_eq_eq_not,Bool.not_true] at hc;rcases hc with hc | hc
       · exact .inl hc
       · have:(edges o).all (has seen)=true:=List.all_eq_true.2 hj
         rw[this] at hc;cases hc
     · exact hf i o' (by omega) ho' hj
   | false=>
     rw[hc] at hv;simp only[cond_false] at hv;simp only[Bool.or_eq_false_iff,Bool.not_eq_eq_eq_not,Bool.not_false] at hc;obtain⟨hk,hall⟩:=hc;have hed:∀j∈edges o,has seen j=true:=fun j hj=>List.all_eq_true.1 hall j hj
     have un:listed k=false:=by
       cases hb:listed k with
       | false=>rfl
       | true=>rw[h.sub k hb] at hk;cases hk
     have core:∀s:St,Sat P ops s seen wait listed->(bif antiB ops k o then placeE P ct ops r (k+1) seen wait (k::pend) s K
         else match freeG P ops s o with
           | some (q,x)=>obq q (forceV x fun x=>placeE P ct ops r (k+1) (k::seen) ((k,true)::wait) pend (s.put o.dst x) K)
           | none=>match (bif ownLit P o.op then none else uniG P ct ops s o) with
             | some (q,x)=>obq q (forceV x fun x=>placeE P ct ops r (k+1) (k::seen) ((k,false)::wait) pend (s.put o.dst x) K)
             | none=>placeE P ct ops r (k+1) seen wait (k::pend) s K).den->∃seen' wait' pend' s',(K seen' wait' pend' s').den/\Sat P ops s' seen' wait' listed/\PendOk ops seen' pend'/\FullOk ops seen' pend' ops.size/\(∀c E a w,Inv c E {s with fr:=hideF ops.toList (vis seen listed) s.fr} a w->Inv c E {s' with fr:=hideF ops.toList (vis seen' listed) s'.fr} a w)/\(∀i,has seen' i=true->i<ops.size):=by
       intro s h hv;have later:(placeE P ct ops r (k+1) seen wait (k::pend) s K).den->∃seen' wait' pend' s',(K seen' wait' pend' s').den/\Sat P ops s' seen' wait' listed/\PendOk ops seen' pend'/\FullOk ops seen' pend' ops.size/\(∀c E a w,Inv c E {s with fr:=hideF ops.toList (vis seen listed) s.fr} a w->Inv c E {s' with fr:=hideF ops.toList (vis seen' listed) s'.fr} a w)/\(∀i,has seen' i=true->i<ops.size):=by
         intro hv;refine placeE_ok honce hedge r (k+1) seen wait (k::pend) s hl' hv h (fun i hi=>?_) (fun i hi=>?_) (fun i o' hi ho' hj=>?_) hlt
         · rcases List.mem_cons.1 hi with rfl | hi
           · exact⟨hk,o,ho,hed⟩
           · exact hp i hi
         · rcases List.mem_cons.1 hi with rfl | hi
           · omega
           · have:=hpk i hi;omega
         · by_cases e:i=k
           · right;rw[e];exact List.mem_cons_self ..
           · rcases hf i o' (by omega) ho' hj with h1 | h1
             · exact .inl h1
             · exact .inr (List.mem_cons_of_mem _ h1)
       cases hanti:antiB ops k o with
       | true=>rw[hanti] at hv;exact later hv
       | false=>
       rw[hanti] at hv;simp only[cond_false] at hv;have go:∀{q:Option Prop} {x:SV} {b:Bool},(obq q (forceV x fun x=>placeE P ct ops r (k+1) (k::seen) ((k,b)::wait) pend (s.put o.dst x) K)).den->
           (met q->(∀t∈looks ops o,(s.put o.dst x).fr[t]?=s.fr[t]?)->(s.put o.dst x).fr.length=s.fr.length->RunW P ops (s.put o.dst x) o/\(b=true->FreeW P ops (s.put o.dst x) o))->
           ∃seen' wait' pend' s',(K seen' wait' pend' s').den/\Sat P ops s' seen' wait' listed/\PendOk ops seen' pend'/\FullOk ops seen' pend' ops.size/\(∀c E a w,Inv c E {s with fr:=hideF ops.toList (vis seen listed) s.fr} a w->Inv c E {s' with fr:=hideF ops.toList (vis seen' listed) s'.fr} a w)/\(∀i,has seen' i=true->i<ops.size):=by
         intro q x b hv hrun;obtain⟨hm,hv⟩:=obq_den hv;rw[forceV_eq] at hv;have hS:=Sat.place (x:=x) (b:=b) honce hedge h hanti ho hk hed (hrun hm);obtain⟨seen',wait',pend',s',h1,h2,h3,h4,h5,h8⟩:=placeE_ok honce hedge r (k+1) (k::seen) ((k,b)::wait) pend (s.put o.dst x) hl' hv hS (fun i hi=>by
           obtain⟨h1,o',h2,h3⟩:=hp i hi
           have:=hpk i hi
           refine⟨by rw[has_cons,if_neg (by omega)];exact h1,o',h2,fun j hj=>by rw[has_cons];split<;>first | rfl | exact h3 j hj⟩) (fun i hi=>by have:=hpk i hi;omega) (fun i o' hi ho' hj=>by
           rw[has_cons];by_cases e:i=k
           · left;rw[if_pos e]
           · rw[if_neg e];refine hf i o' (by omega) ho' (fun j hj'=>?_);have h1:=hj j hj';rw[has_cons] at h1
             have:=(edges2_ok hedge i o' (by simpa using ho')).1 j hj'
             rw[if_neg (by omega)] at h1;exact h1) (fun i hi=>by
           rw[has_cons] at hi;split at hi
           · omega
           · exact hlt i hi)
         exact⟨seen',wait',pend',s',h1,h2,h3,h4,fun c E a w hi=>h5 c E a w (vis_place honce hol un hi),h8⟩
       split at hv
       · rename_i q x hu;exact go hv (fun hm ha hl=>by
           have h1:=freeW_of (s':=s.put o.dst x) hu hm hl ha xOf_put;exact⟨h1.run,fun _=>h1⟩)
       · split at hv
         · rename_i q x hu;refine go hv (fun hm ha hl=>⟨?_,fun hb=>by cases hb⟩);cases hw:ownLit P o.op with
           | true=>rw[hw] at hu;cases hu
           | false=>
             rw[hw] at hu;exact runW_of hu hm (by cases o.dst<;>rfl) (by cases o.dst<;>rfl) hl ha xOf_put
         · exact later hv
     split at hv
     · rename_i d b hgd;have hd:=gateD_eq hgd;have hv':(forceSt (litS s d b) fun s=>(bif antiB ops k o then placeE P ct ops r (k+1) seen wait (k::pend) s K
         else match freeG P ops s o with
           | some (q,x)=>obq q (forceV x fun x=>placeE P ct ops r (k+1) (k::seen) ((k,true)::wait) pend (s.put o.dst x) K)
           | none=>match (bif ownLit P o.op then none else uniG P ct ops s o) with
             | some (q,x)=>obq q (forceV x fun x=>placeE P ct ops r (k+1) (k::seen) ((k,false)::wait) pend (s.put o.dst x) K)
             | none=>placeE P ct ops r (k+1) seen wait (k::pend) s K)).den:=by
         cases b
         · exact hv.2 rfl
         · exact hv.1 rfl
       rw[forceSt_eq] at hv';obtain⟨seen',wait',pend',s',h1,h2,h3,h4,h5,h8⟩:=core (litS s d b) (h.lit hd) hv';exact⟨seen',wait',pend',s',h1,h2,h3,h4,fun c E a w hi=>h5 c E a w (vis_lit hd hi),h8⟩
     · exact core s h hv
theorem conjV_den:∀{l:List VC},(conjV l).den->∀v∈l,v.den
 | [],_,v,hv=>by cases hv
 | [v],h,u,hu=>by rw[List.mem_singleton.1 hu];exact h
 | v::v'::l,h,u,hu=>by
   rcases List.mem_cons.1 hu with rfl | hu
   · exact h.1
   · exact conjV_den h.2 u hu
theorem againE_ok {qt:Bool} {s0 s:St} {F:List SV} {d:Option Nat} {x:SV} (hF:F=bif qt then s0.fr else pruneAs s0.fr) (hs:s.fr=match d with | some d=>F.set d x | none=>F):∀(l:List (Nat×Bool)) {v:VC},(againE P ct ops qt s0 l s v).den->
   v.den/\∀i b o,(i,b)∈l->ops[i]?=some o->(∀d',d=some d'->d'∉looks ops o/\o.dst≠some d')->(b=true->FreeW P ops s0 o)->RunW P ops s o/\(b=true->FreeW P ops s o)
 | [],v,hv=>⟨hv,fun _ _ _ h=>by cases h⟩
 | (k,b)::r,v,hv=>by
   unfold againE at hv;split at hv
   · exact hv.elim
   · rename_i o ho;have keep:∀{φ:Prop},(againE P ct ops qt s0 r s v).den->((∀d',d=some d'->d'∉looks ops o/\o.dst≠some d')->(b=true->FreeW P ops s0 o)->RunW P ops s o/\(b=true->FreeW P ops s o))->
         v.den/\∀i b' o,(i,b')∈(k,b)::r->ops[i]?=some o->(∀d',d=some d'->d'∉looks ops o/\o.dst≠some d')->(b'=true->FreeW P ops s0 o)->RunW P ops s o/\(b'=true->FreeW P ops s o):=by
       intro φ hv h1;obtain⟨h2,h3⟩:=againE_ok hF hs r hv;refine⟨h2,fun i b' o' hi ho' hd hf=>?_⟩;rcases List.mem_cons.1 hi with e | hi
       · simp only[Prod.mk.injEq] at e;obtain⟨rfl,rfl⟩:=e;rw[ho] at ho';simp at ho';subst ho';exact h1 hd hf
       · exact h3 i b' o' hi ho' hd hf
     cases hc:b&&(qt||cleanE ops s0 o) with
     | true=>
       rw[hc] at hv;simp only[Bool.and_eq_true] at hc;obtain⟨hb,hc⟩:=hc;refine keep (φ:=True) hv (fun hd hf=>?_);have hFl:F.length=s0.fr.length:=by
         rw[hF];cases qt
         · simp [pruneAs_map]
         · rfl
       have hsl:s.fr.length=s0.fr.length:=by
         rw[hs];cases d<;>simp [hFl]
       have hsh:∀t,(t∈looks ops o\/o.dst=some t)->F[t]?=s0.fr[t]?:=by
         intro t ht;rw[hF];cases hq:qt with
         | true=>rfl
         | false=>
           rw[hq] at hc;simp only[Bool.false_or,cleanE,Bool.and_eq_true] at hc;simp only[cond_false,pruneAs_map,List.getElem?_map];cases hft:s0.fr[t]? with
           | none=>rfl
           | some y=>
             have hy:s0.fr.getD t .un=y:=by rw[List.getD_eq_getElem?_getD,hft];rfl
             have:shallow y=true:=by
               rcases ht with ht | ht
               · have:=List.all_eq_true.1 hc.1 t ht
                 rw[hy] at this;exact this
               · have:=hc.2
                 unfold xOf at this;rw[ht] at this;simp only at this;rw[hy] at this;exact this
             simp only[Option.map_some];rw[pruneA_shallow this]
       have hst:∀t,(t∈looks ops o\/o.dst=some t)->s.fr[t]?=s0.fr[t]?:=by
         intro t ht;rw[<- hsh t ht,hs];cases d with
         | none=>rfl
         | some d=>
           simp only;rw[List.getElem?_set_ne];rintro rfl;obtain⟨h1,h2⟩:=hd d rfl;rcases ht with ht | ht
           · exact h1 ht
           · exact h2 ht
       have hx:xOf s o=xOf s0 o:=by
         unfold xOf;cases hd':o.dst with
         | none=>rfl
         | some d'=>
           simp only;rw[List.getD_eq_getElem?_getD,List.getD_eq_getElem?_getD,hst d' (.inr hd')]
       have h1:=(hf hb).congr hsl (fun t ht=>hst t (.inl ht)) hx;exact⟨h1.run,fun _=>h1⟩
     | false=>
       rw[hc] at hv;simp only[cond_false] at hv;split at hv
       · rename_i q y hu;obtain⟨hm,hv⟩:=obq_den hv;obtain⟨hy,hv⟩:=sameV_den hv;refine keep (φ:=True) hv (fun _ _=>?_);cases b with
         | true=>
           have h1:=freeW_of (s':=s) hu hm rfl (fun _ _=>rfl) (.inl hy.symm);exact⟨h1.run,fun _=>h1⟩
         | false=>exact⟨runW_of (s':=s) hu hm rfl rfl rfl (fun _ _=>rfl) (.inl hy.symm),fun hb=>by cases hb⟩
       · exact hv.elim
theorem all_listed {listed:Array Bool} (hedge:edges2 ops ops.toList 0=true) (hsz:listed.size=ops.size) (hr:Region.ready .any ops listed=[]):∀n i,i<=n->i<ops.size->listed.getD i false=true:=by
 intro n
 induction n with
 | zero=>
   intro i hi hlt;cases hb:listed.getD i false with
   | true=>rfl
   | false=>
     exfalso;have ho:ops[i]?=some ops[i]:=Array.getElem?_eq_getElem hlt;have he:=(edges2_ok hedge i ops[i] (by simp)).1
     have:i∈Region.ready .any ops listed:=ready_of ho (by
       rw[Array.getD_eq_getD_getElem?] at hb ⊢;rw[Array.getElem?_eq_getElem (by omega)] at hb ⊢;exact hb) (fun j hj=>by have:=he j hj;omega)
     rw[hr] at this;cases this
 | succ n ih=>
   intro i hi hlt;cases hb:listed.getD i false with
   | true=>rfl
   | false=>
     exfalso;have ho:ops[i]?=some ops[i]:=Array.getElem?_eq_getElem hlt;have he:=(edges2_ok hedge i ops[i] (by simp)).1
     have:i∈Region.ready .any ops listed:=ready_of ho (by
       rw[Array.getD_eq_getD_getElem?] at hb ⊢;rw[Array.getElem?_eq_getElem (by omega)] at hb ⊢;exact hb) (fun j hj=>by have:=he j hj;exact ih j (by omega) (by omega))
     rw[hr] at this;cases this
theorem listed_up {listed:Array Bool} {i:Nat} (hilt:i<listed.size) (j:Nat):(listed.setIfInBounds i true).getD j false=if j=i then true else listed.getD j false:=by
 by_cases e:j=i
 · subst e;rw[if_pos rfl,Array.getD_eq_getD_getElem?,Array.getElem?_setIfInBounds_self_of_lt hilt];rfl
 · rw[if_neg e,Array.getD_eq_getD_getElem?,Array.getD_eq_getD_getElem?,Array.getElem?_setIfInBounds_ne (by omega)]
theorem count_up {listed:Array Bool} {i:Nat} (hilt:i<listed.size) (hif:listed.getD i false=false):count (listed.setIfInBounds i true)+1<=count listed:=by
 unfold count;have hl:listed.toList=listed.toList.take i++false::listed.toList.drop (i+1):=by
   have h6:listed.toList[i]'(by simpa using hilt)=false:=by
     rw[Array.getD_eq_getD_getElem?,Array.getElem?_eq_getElem hilt] at hif;simpa using hif
   have h7:=List.take_append_drop i listed.toList;rw[List.drop_eq_getElem_cons (by simpa using hilt),h6] at h7;exact h7.symm
 have hl2:(listed.setIfInBounds i true).toList=listed.toList.take i++true::listed.toList.drop (i+1):=by
   rw[Array.toList_setIfInBounds,List.set_eq_take_append_cons_drop,if_pos (by simpa using hilt)]
 rw[hl2]
 conv=>rhs;rw[hl]
 simp [List.filter_append];omega
theorem or_left {c p q r:Prop} [Decidable c] (h:if c then p else r):if c then p\/q else r:=by
 split at h
 · rw[if_pos (by assumption)];exact .inl h
 · rw[if_neg (by assumption)];exact h
theorem allIn_get {l:List Nat}:∀{n:Nat},allIn l n=true->∀j,j<n->has l j=true
 | 0,_,j,hj=>by omega
 | n+1,h,j,hj=>by
   simp only[allIn,Bool.and_eq_true] at h;rcases Nat.lt_or_ge j n with h1 | h1
   · exact allIn_get h.2 j h1
   · rw[show j=n by omega];exact h.1
theorem eff_any {Q:Exit->Act->World->Prop} {K:St->VC} {c:Ctx} (honce:onceF ops.toList 0 ops.toList=true) (hedge:edges2 ops ops.toList 0=true)
   (hK:∀s E a w,Inv c E s a w->(K s).den->Q .normal a w) :
   ∀(fuel:Nat) (listed:Array Bool) (seen:List Nat) (wait:List (Nat×Bool)) (pend:List Nat) (s:St) (n:Nat) E a w,listed.size=ops.size->count listed<=fuel->(∀i o,listed.getD i false=true->ops[i]?=some o->∀j∈edges o,listed.getD j false=true)->
     Sat P ops s seen wait (fun j=>listed.getD j false)->PendOk ops seen pend->FullOk ops seen pend ops.size->(∀i,has seen i=true->i<ops.size)->(satE P ct ops (exE P ct ops K n) K seen wait pend s).den->
     Inv c E {s with fr:=hideF ops.toList (vis seen (fun j=>listed.getD j false)) s.fr} a w->wpAny P .any ops Q fuel listed a w:=by
 have done:∀(listed:Array Bool) (seen:List Nat) (wait:List (Nat×Bool)) (pend:List Nat) (s:St) (n:Nat) E a w,listed.size=ops.size->Region.ready .any ops listed=[]->
     Sat P ops s seen wait (fun j=>listed.getD j false)->PendOk ops seen pend->(satE P ct ops (exE P ct ops K n) K seen wait pend s).den->
     Inv c E {s with fr:=hideF ops.toList (vis seen (fun j=>listed.getD j false)) s.fr} a w->Q .normal a w:=by
   intro listed seen wait pend s n E a w hsz hr hS hp hv h;have hall:=all_listed hedge hsz hr
   match pend,hp,hv with
   | [],_,hv=>
     unfold satE at hv;simp only at hv;cases ha:allIn seen ops.size with
     | false=>rw[ha] at hv;exact hv.elim
     | true=>
       rw[ha] at hv;have hfr:hideF ops.toList (vis seen (fun j=>listed.getD j false)) s.fr=s.fr:=by
         apply List.ext_getElem?;intro t;rw[hideF_get];cases hf:s.fr[t]? with
         | none=>rfl
         | some y=>
           simp only[Option.map_some];split
           · rename_i j hj;obtain⟨_,o',h1,_⟩:=wrF_some hj;have hlt:j<ops.size:=by have:=(List.getElem?_eq_some_iff.1 h1).1;simpa using this
             simp only[vis,hall j j (Nat.le_refl _) hlt,Bool.true_or,if_true]
           · rfl
       rw[hfr] at h;exact hK s E a w h hv
   | i::r,hp,_=>
     exfalso;obtain⟨h1,o,ho,_⟩:=hp i (List.mem_cons_self ..)
     have:=hS.sub i (hall i i (Nat.le_refl _) (Array.getElem?_eq_some_iff.1 ho).1)
     rw[h1] at this;cases this
 intro fuel
 induction fuel with
 | zero=>
   intro listed seen wait pend s n E a w hsz hcnt hcl hS hp hf hlt hv h;have hr:Region.ready .any ops listed=[]:=by
     cases hrd:Region.ready .any ops listed with
     | nil=>rfl
     | cons i r=>
       exfalso;obtain⟨h1,h2,_⟩:=mem_ready' (ops:=ops) (listed:=listed) (i:=i) (by rw[hrd];simp);have hm:false∈listed.toList:=by
         rw[Array.getD_eq_getD_getElem?,Array.getElem?_eq_getElem (by omega)] at h2;simp at h2;rw[<- h2];simp
       have:false∈listed.toList.filter (!·):=List.mem_filter.2 ⟨hm,rfl⟩
       have:=List.length_pos_of_mem this
       unfold count at hcnt;omega
   exact⟨hr,done listed seen wait pend s n E a w hsz hr hS hp hv h⟩
 | succ fuel ih=>
   intro listed seen wait pend s n E a w hsz hcnt hcl hS hp hf hlt hv h;refine⟨fun hr=>done listed seen wait pend s n E a w hsz hr hS hp hv h,fun i hi=>?_⟩;obtain⟨hil,hun1,hed⟩:=mem_ready' hi;have ho:ops[i]?=some ops[i]:=Array.getElem?_eq_getElem hil;have hol:ops.toList[i]?=some ops[i]:=by simp
   obtain⟨he1,he2⟩:=edges2_ok hedge i ops[i] hol;have hilt:i<listed.size:=by omega
   have hif:listed.getD i false=false:=by
     rw[Array.getD_eq_getD_getElem?,Array.getElem?_eq_getElem hilt] at hun1 ⊢;exact hun1
   have hedi:=hed ops[i] ho;have hup:=listed_up hilt;have hcl':∀j o,(listed.setIfInBounds i true).getD j false=true->ops[j]?=some o->∀k∈edges o,(listed.setIfInBounds i true).getD k false=true:=by
     intro j o hj hjo k hk;rw[hup] at hj ⊢;by_cases e:j=i
     · subst e;rw[ho] at hjo;simp at hjo;subst hjo;rw[hedi k hk];split<;>rfl
     · rw[if_neg e] at hj;rw[hcl j o hj hjo k hk];split<;>rfl
   have hcnt':count (listed.setIfInBounds i true)<=fuel:=by have:=count_up hilt hif;omega
   have hlook:∀t∈looks ops ops[i],(hideF ops.toList (vis seen (fun j=>listed.getD j false)) s.fr)[t]?=s.fr[t]?:=by
     intro t ht;rw[hideF_get];cases hft:s.fr[t]? with
     | none=>rfl
     | some y=>
       simp only[Option.map_some];split
       · rename_i j hj;have hvj:vis seen (fun j=>listed.getD j false) j=true:=by
           unfold vis;simp only;cases hlj:listed.getD j false with
           | true=>simp
           | false=>
             cases hsj:has seen j with
             | false=>simp
             | true=>
               exfalso;obtain⟨_,o',h1,h2⟩:=wrF_some hj;have hjo:ops[j]?=some o':=by simpa using h1
               have:=hedi j (anti_no (hS.an j o' hsj hlj hjo) h2 ho ht)
               rw[hlj] at this;cases this
         rw[hvj];rfl
       · rfl
   unfold wpOp;rw[ho];simp only;rcases hf i ops[i] hil ho (fun j hj=>hS.sub j (hedi j hj)) with hsi | hpi
   · obtain⟨b,_,hrun,_⟩:=hS.wt i ops[i] hsi hif ho;refine or_left (hrun _ (hideF_length ..) hlook c E a w h _ Q (fun v w' h1 h2=>?_));refine ih _ seen wait pend s n E _ _ (by simp [hsz]) hcnt' hcl' ⟨fun j hj=>?_,hS.cl,fun j o' hj hl hjo=>hS.wt j o' hj ?_ hjo,fun j o' hj hl hjo=>hS.an j o' hj ?_ hjo⟩ hp hf hlt hv ?_
     · rw[hup] at hj;split at hj
       · rename_i e;rw[e];exact hsi
       · exact hS.sub j hj
     · try simp only at hl
       rw[hup] at hl;split at hl
       · cases hl
       · exact hl
     · try simp only at hl
       rw[hup] at hl;split at hl
       · cases hl
       · exact hl
     · have h3:=h1.put ops[i].dst h2;rw[hideF_st honce hol (L':=vis seen (fun j=>(listed.setIfInBounds i true).getD j false)) (fun j=>by unfold vis;simp only[hup];split<;>rfl) s,put_xOf] at h3;exact h3
   · have hmem:effE P ct ops K (exE P ct ops K n) seen wait s i∈pend.map (effE P ct ops K (exE P ct ops K n) seen wait s):=List.mem_map_of_mem hpi;have hv':(effE P ct ops K (exE P ct ops K n) seen wait s i).den:=by
       cases hpe:pend with
       | nil=>rw[hpe] at hpi;cases hpi
       | cons p0 pr=>
         rw[hpe] at hv hmem;exact conjV_den hv _ hmem
     clear hv;unfold effE at hv';rw[ho] at hv';simp only at hv';obtain⟨hsi,_⟩:=hp i hpi;cases hgt:(!(match gate ops s ops[i] with | some true=>true | _=>false)) with
     | true=>rw[hgt] at hv';exact hv'.elim
     | false=>
     rw[hgt] at hv';simp only[cond_false] at hv';have hgt:gate ops s ops[i]=some true:=by
       cases hg:gate ops s ops[i] with
       | none=>rw[hg] at hgt;cases hgt
       | some g=>cases g with
         | true=>rfl
         | false=>rw[hg] at hgt;cases hgt
     rw[if_pos (gate_wanted hgt hlook h)]
     left
     cases hlast:lastB ops seen wait i with
     | true=>
       rw[hlast] at hv';simp only[cond_true] at hv';unfold lastB at hlast;simp only[Bool.and_eq_true] at hlast;have hothers:∀j,j<ops.size->j≠i->listed.getD j false=true:=fun j hj hne=>by
         have hjs:=allIn_get hlast.1 j hj;rw[has_cons,if_neg hne] at hjs;cases hlj:listed.getD j false with
         | true=>rfl
         | false=>
           exfalso;obtain⟨b,h6,_⟩:=hS.wt j ops[j] hjs hlj (Array.getElem?_eq_getElem hj);have hnd:depF ops ops.size i j=false:=by
             cases hb:depF ops ops.size i j with
             | false=>rfl
             | true=>
               have:=depF_listed (listed:=fun j=>listed.getD j false) hcl ops.size i j ops[i] ho hedi (fun e=>hne e.symm) hb
               rw[this] at hlj;cases hlj
           have:(j,b)∈waitE ops wait i:=List.mem_filter.2 ⟨h6,by rw[hnd];rfl⟩
           rw[List.isEmpty_iff.1 hlast.2] at this;cases this
       have hfr:hideF ops.toList (vis seen (fun j=>listed.getD j false)) s.fr=s.fr:=by
         apply List.ext_getElem?;intro t;rw[hideF_get];cases hf:s.fr[t]? with
         | none=>rfl
         | some y=>
           simp only[Option.map_some];split
           · rename_i j hj;obtain⟨_,o',h1,_⟩:=wrF_some hj;have hlt:j<ops.size:=by have:=(List.getElem?_eq_some_iff.1 h1).1;simpa using this
             by_cases e:j=i
             · simp only[vis,e,hsi,Bool.not_false,Bool.or_true,if_true]
             · simp only[vis,hothers j hlt e,Bool.true_or,if_true]
           · rfl
       rw[hfr] at h;refine leadsX_step _ hv' c E a w h _ Q (fun x s1 E' u w' js hd h1 h2 h3 h4 h5=>?_);rw[forceSt_eq] at hd;have hQ:=hK _ _ _ _ (h1.put ops[i].dst h2) hd;have hr:Region.ready .any ops (listed.setIfInBounds i true)=[]:=by
         cases hrd:Region.ready .any ops (listed.setIfInBounds i true) with
         | nil=>rfl
         | cons k r=>
           exfalso;obtain⟨k1,k2,_⟩:=mem_ready' (ops:=ops) (listed:=listed.setIfInBounds i true) (i:=k) (by rw[hrd];simp);have k3:(listed.setIfInBounds i true).getD k false=true:=by
             rw[hup];by_cases e:k=i
             · rw[if_pos e]
             · rw[if_neg e];exact hothers k k1 e
           have k4:k<(listed.setIfInBounds i true).size:=by simp;omega
           rw[Array.getD_eq_getD_getElem?,Array.getElem?_eq_getElem k4] at k2 k3;simp only[Option.getD_some] at k2 k3;rw[k3] at k2;cases k2
       cases fuel with
       | zero=>exact⟨hr,hQ⟩
       | succ f=>exact⟨fun _=>hQ,fun k hk=>by rw[hr] at hk;cases hk⟩
     | false=>
     rw[hlast] at hv';simp only[cond_false] at hv';have h0:=view_invX (ts:=looks ops ops[i]) h;rw[show view [] (looks ops ops[i]) (hideF ops.toList (vis seen (fun j=>listed.getD j false)) s.fr) 0=view [] (looks ops ops[i]) s.fr 0 from view_looks (hideF_length ..) hlook] at h0;refine leadsX_step _ hv' c E a w h0 _ Q (fun x s1 E' u w' js hd h1 h2 h3 h4 h5=>?_);rw[forceSt_eq] at hd;generalize hF:(bif quiet ops[i].op then s.fr else pruneAs s.fr)=F at hd;have hs2:(({s1 with fr:=F}:St).put ops[i].dst x).fr=match ops[i].dst with | some d=>F.set d x | none=>F:=by cases ops[i].dst<;>rfl
     obtain⟨hd,hag⟩:=againE_ok (qt:=quiet ops[i].op) (s0:=s) hF.symm hs2 _ hd;have hrel:RelVs (Reg c E' s1 w') E' w' (hideF ops.toList (vis seen (fun j=>listed.getD j false)) F) a.tmps.toList:=by
       rw[<- hF];cases hq:quiet ops[i].op with
       | true=>
         have hjs:=h5 hq;subst hjs;have h6:=pruneVs_rel h3 h4.keeps h4.reg h.fr;rw[pruneVs_nil] at h6;exact h6
       | false=>
         simp only[cond_false];rw[<- hideF_prune];exact pruneAs_rel h3 h4.keeps h4.reg h.fr
     have hi2:Inv c E' {s1 with fr:=hideF ops.toList (vis seen (fun j=>listed.getD j false)) F} a w':=
       ⟨h1.os,h1.tape,h1.output,h1.size,h1.old,h1.defers,hrel,h1.nbx,h1.nrw,h1.nfp,h1.bx,h1.rw,h1.inj,h1.new,h1.lent,h1.lrow,h1.fresh,h1.bor⟩
     have hi3:=hi2.put ops[i].dst h2;have hvi:∀j,vis (i::seen) (fun j=>(listed.setIfInBounds i true).getD j false) j=if j=i then true else vis seen (fun j=>listed.getD j false) j:=fun j=>by
       unfold vis;simp only[hup,has_cons];split<;>rfl
     have hst:=hideF_st (x:=x) honce hol hvi {s1 with fr:=F};simp only at hst;rw[hst] at hi3;generalize hs2e:({s1 with fr:=F}:St).put ops[i].dst x=s2 at *
     cases n with
     | zero=>exact hd.elim
     | succ n=>
       have hS2:Sat P ops s2 (i::seen) (waitE ops wait i) (fun j=>(listed.setIfInBounds i true).getD j false):=by
         refine⟨fun j hj=>?_,fun j o' hj hjo k hk=>?_,fun j o' hj hl hjo=>?_,fun j o' hj hl hjo=>?_⟩
         · try simp only at hj
           rw[hup] at hj;rw[has_cons];split
           · rfl
           · rename_i e;rw[if_neg e] at hj;exact hS.sub j hj
         · rw[has_cons] at hj;rw[has_cons];split
           · rfl
           · by_cases e:j=i
             · subst e;rw[ho] at hjo;simp at hjo;subst hjo;exact hS.sub k (hedi k hk)
             · rw[if_neg e] at hj;exact hS.cl j o' hj hjo k hk
         · try simp only at hl
           rw[hup] at hl;have hne:j≠i:=fun e=>by rw[if_pos e] at hl;cases hl
           rw[if_neg hne] at hl;rw[has_cons,if_neg hne] at hj;obtain⟨b,h6,_,h7⟩:=hS.wt j o' hj hl hjo;have hnd:depF ops ops.size i j=false:=by
             cases hb:depF ops ops.size i j with
             | false=>rfl
             | true=>
               have:=depF_listed (listed:=fun j=>listed.getD j false) hcl ops.size i j ops[i] ho hedi (fun e=>hne e.symm) hb
               rw[this] at hl;cases hl
           refine⟨b,List.mem_filter.2 ⟨h6,by rw[hnd];rfl⟩,hag j b o' (List.mem_filter.2 ⟨h6,by rw[hnd];rfl⟩) hjo (fun d' hd'=>⟨fun hlk=>?_,fun hdd=>?_⟩) h7⟩
           · have hw:=onceF_ok honce i ops[i] d' hol hd';rw[Nat.zero_add] at hw;rcases (edges2_ok hedge j o' (by simpa using hjo)).2 d' hlk i hw with h8 | h8
             · have:=hS.cl j o' hj hjo i h8
               rw[hsi] at this;cases this
             · rw[Nat.zero_add,hnd] at h8;cases h8
           · have h8:=onceF_ok honce i ops[i] d' hol hd';have h9:=onceF_ok honce j o' d' (by simpa using hjo) hdd;rw[h8] at h9;simp at h9;exact hne h9.symm
         · try simp only at hl
           rw[hup] at hl;have hne:j≠i:=fun e=>by rw[if_pos e] at hl;cases hl
           rw[if_neg hne] at hl;rw[has_cons,if_neg hne] at hj;exact hS.an j o' hj hl hjo
       obtain⟨seen',wait',pend',s',g1,g2,g3,g4,g5,g8⟩:=placeE_ok honce hedge ops.toList 0 (i::seen) (waitE ops wait i) [] s2 rfl hd hS2 (fun j hj=>by cases hj) (fun j hj=>by cases hj) (fun j o' hj=>by omega) (fun j hj=>by
         rw[has_cons] at hj;split at hj
         · omega
         · exact hlt j hj)
       exact ih _ seen' wait' pend' s' n E' _ _ (by simp [hsz]) hcnt' hcl' g2 g3 g4 g8 g1 (g5 _ _ _ _ hi3)
def exEff (P:Program) (ct:List (Con P)) (ops:Array Oper) (s:St) (K:St->VC):VC:=
 exE P ct ops K (ops.size+1) [] [] s
def effOk (ops:Array Oper):Bool:=onceF ops.toList 0 ops.toList&&edges2 ops ops.toList 0
theorem exEff_ok {Q:Exit->Act->World->Prop} {K:St->VC} {c:Ctx} (hm:P.follows .mixedOrders=true) (hK:∀s E a w,Inv c E s a w->(K s).den->Q .normal a w) (hd:effOk ops=true) {id:Nat} {s:St} (hv:(exEff P ct ops s K).den) {E:Env} {a:Act} {w:World} (h:Inv c E s a w) :
   (Code.region id ops true).wp P Q a w:=by
 simp only[effOk,Bool.and_eq_true] at hd;obtain⟨honce,hedge⟩:=hd;have hfalse:∀j,(Array.replicate ops.size false).getD j false=false:=fun j=>by
   rw[Array.getD_eq_getD_getElem?,Array.getElem?_replicate];split<;>rfl
 have hS:Sat P ops s [] [] (fun j=>(Array.replicate ops.size false).getD j false):=⟨(fun i hi=>by rw[hfalse] at hi;cases hi),(fun i o hi=>by cases hi),(fun i o hi=>by cases hi),(fun i o hi=>by cases hi)⟩;obtain⟨seen',wait',pend',s',g1,g2,g3,g4,g5,g8⟩:=placeE_ok honce hedge ops.toList 0 [] [] [] s rfl hv hS (fun j hj=>by cases hj) (fun j hj=>by cases hj) (fun j o' hj=>by omega) (fun j hj=>by cases hj);refine wp_region_any hm ?_;refine eff_any (c:=c) honce hedge hK ops.size _ seen' wait' pend' s' ops.size E a w.drew (by simp) (by simp [count]) (fun i o hi=>?_) g2 g3 g4 g8 g1 ?_
 · rw[hfalse] at hi;cases hi
 · refine g5 _ _ _ _ ?_;have h:=h.drew;exact⟨h.os,h.tape,h.output,h.size,h.old,h.defers,hideF_rel h.fr,h.nbx,h.nrw,h.nfp,h.bx,h.rw,h.inj,h.new,h.lent,h.lrow,h.fresh,h.bor⟩
def hasF0 (ct:List (Con P)) (f:FuncId) (n:Nat):Bool:=
 match ct with
 | []=>false
 | .f0 g sg _ _ _ _::r=>(Nat.beq g f&&Nat.ble sg.length n)||hasF0 r f n
 | _::r=>hasF0 r f n
def anyEff (P:Program) (ct:List (Con P)):List Oper->Bool
 | []=>false
 | o::r=>(match o.op with
   | .call { callee:=.value (.func f),args:=a,..}=>!hasF0 ct f a.size
   | .call { callee:=.invoke _ _,..}=>true
   | .call { callee:=.builtin .append,..}=>true
   | .store ..=>true
   | .alloc ..=>true
   | .box ..=>true
   | .makeSlice ..=>true
   | .makeMap ..=>true
   | .lookup ..=>true
   | .mapUpdate ..=>true
   | .call { callee:=.builtin .delete,..}=>true
   | op=>ownLit P op)||anyEff P ct r
def exDraw2 (P:Program) (ct:List (Con P)) (ops:Array Oper) (s:St) (K:St->VC):VC:=
 bif effOk ops&&(anyEff P ct ops.toList||(!drawOk ops&&ops.toList.all (fun o=>o.guard.isNone))) then exEff P ct ops s K else exDraw P ct ops s K
theorem exDraw2_ok {Q:Exit->Act->World->Prop} {K:St->VC} {c:Ctx} (hm:P.follows .mixedOrders=true) (hK:∀s E a w,Inv c E s a w->(K s).den->Q .normal a w) {id:Nat} {s:St} (hv:(exDraw2 P ct ops s K).den) {E:Env} {a:Act} {w:World} (h:Inv c E s a w) :
   (Code.region id ops true).wp P Q a w:=by
 unfold exDraw2 at hv;cases hb:effOk ops&&(anyEff P ct ops.toList||(!drawOk ops&&ops.toList.all (fun o=>o.guard.isNone))) with
 | true=>
   rw[hb] at hv;simp only[Bool.and_eq_true] at hb;exact exEff_ok hm hK hb.1 hv h
 | false=>rw[hb] at hv;exact exDraw_ok hm hK hv h
end
end
end
section
noncomputable section
abbrev Pr:=List (Nat×Nat)×List (Nat×Nat)×List Nat
def findA:List (Nat×Nat)->Nat->Option Nat
 | [],_=>none
 | (x,y)::l,j=>bif Nat.beq x j then some y else findA l j
def addBox (a:Pr) (j i:Nat):Pr:=match findA a.1 j with
 | some _=>a
 | none=>(a.1++[(j,i)],a.2)
def addRow (a:Pr) (j i:Nat):Pr:=match findA a.2.1 j with
 | some _=>a
 | none=>(a.1,a.2.1++[(j,i)],a.2.2)
def addNil (n:Nat) (a:Pr) (j:Nat):Pr:=match findA a.2.1 j with
 | some _=>a
 | none=>(a.1,a.2.1++[(j,n+a.2.2.length)],a.2.2++[j])
mutual
def pairV (n:Nat) (a:Pr):SV->SV->Pr
 | .bp i _,.bp j _=>addBox a j i
 | .own i,.own j=>addRow a j i
 | .nil,.own j=>addNil n a j
 | .hs i _,.hs j _=>addRow a j i
 | .rp i _ _ _ _,.rp j _ _ _ _=>addRow a j i
 | .agg l,.agg m=>pairVs n a l m
 | .tup l,.tup m=>pairVs n a l m
 | .fn _ l,.fn _ m=>pairVs n a l m
 | .ifc _ l,.ifc _ m=>pairVs n a l m
 | .bf _ l,.bf _ m=>pairVs n a l m
 | _,_=>a
def pairVs (n:Nat) (a:Pr):List SV->List SV->Pr
 | x::l,y::m=>pairVs n (pairV n a x y) l m
 | _,_=>a
end
def pairB (n:Nat) (s t:List (TypeId×List SV)):Nat->Nat->Pr->Pr
 | 0,_,a=>a
 | f+1,k,a=>match a.1[k]? with
   | some (j,i)=>match t[j]?,s[i]? with
     | some q,some p=>pairB n s t f (k+1) (pairVs n a p.2 q.2)
     | _,_=>pairB n s t f (k+1) a
   | none=>a
def diag:Nat->Nat->List (Nat×Nat)
 | 0,_=>[]
 | k+1,j=>(j,j)::diag k (j+1)
def mapA (l:List (Nat×Nat)):Nat->Nat->List Nat
 | 0,_=>[]
 | k+1,j=>(match findA l j with | some i=>i | none=>j)::mapA l k (j+1)
mutual
def needV (s:St):SV->SV->List Nat
 | .own i,.sl _ _=>[i]
 | .agg l,.agg m=>needVs s l m
 | .tup l,.tup m=>needVs s l m
 | .fn _ l,.fn _ m=>needVs s l m
 | .ifc _ l,.ifc _ m=>needVs s l m
 | .bf _ l,.bf _ m=>needVs s l m
 | _,_=>[]
def needVs (s:St):List SV->List SV->List Nat
 | x::l,y::m=>needV s x y++needVs s l m
 | _,_=>[]
end
def needB (s:St) (mb:List Nat):Nat->List (TypeId×List SV)->List Nat
 | _,[]=>[]
 | j,q::t=>(match mb[j]? with
   | some i=>(match s.bx[i]? with | some p=>needVs s p.2 q.2 | none=>[])
   | none=>[])++needB s mb (j+1) t
def frzRow (s:St) (i:Nat):St:=match s.rw[i]? with
 | some r=>if r.st=0/\r.lt=false/\r.e.solid=true then s.setRow i {r with st:=1} else s
 | none=>s
def frzAll:St->List Nat->St
 | s,[]=>s
 | s,i::l=>frzAll (frzRow s i) l
theorem frzRow_ok {c:Ctx} {E:Env} {s:St} {a:Act} {w:World} (h:Inv c E s a w) (i:Nat):Inv c E (frzRow s i) a w/\Under c E w s (frzRow s i)/\(frzRow s i).fr=s.fr/\(frzRow s i).bx=s.bx/\(frzRow s i).rw.length=s.rw.length:=by
 unfold frzRow;split
 · rename_i r hr;split
   · rename_i hc;exact⟨h.freeze hr 1 (by omega) (fun _=>.inl hc),under_setRow (r:={r with st:=1}) (by simp),rfl,rfl,by simp [St.setRow]⟩
   · exact⟨h,fun _ hb=>hb,rfl,rfl,rfl⟩
 · exact⟨h,fun _ hb=>hb,rfl,rfl,rfl⟩
theorem frzAll_ok {c:Ctx} {E:Env} {a:Act} {w:World}:∀{l:List Nat} {s:St},Inv c E s a w->Inv c E (frzAll s l) a w/\Under c E w s (frzAll s l)/\(frzAll s l).fr=s.fr/\(frzAll s l).bx=s.bx/\(frzAll s l).rw.length=s.rw.length
 | [],s,h=>⟨h,fun _ hb=>hb,rfl,rfl,rfl⟩
 | i::l,s,h=>by
   obtain⟨h1,h2,h3,h4,h5⟩:=frzRow_ok h i;obtain⟨k1,k2,k3,k4,k5⟩:=frzAll_ok (l:=l) h1;exact⟨k1,fun b hb=>k2 b (h2 b hb),k3.trans h3,k4.trans h4,k5.trans h5⟩
def nilRows (t:List Row):List Nat->List Row
 | []=>[]
 | j::l=>(match t[j]? with | some q=>⟨q.tid,bif q.e.isMp then default else q.e,[],0,false⟩ | none=>⟨0,default,[],0,false⟩)::nilRows t l
def addRows (s:St) (l:List Row):St:={s with rw:=s.rw++l}
theorem addRows_ok {c:Ctx} {a:Act} {w:World}:∀{l:List Row} {E:Env} {s:St},(∀r∈l,r.ds=[]/\r.st=0/\r.e.isMp=false)->Inv c E s a w->
   ∃E1,Inv c E1 (addRows s l) a w/\E.le E1/\(∀x b,own E1 (addRows s l) x=some b->own E s x=some b)/\∀i,s.rw.length<=i->i<s.rw.length+l.length->E1.rw[i]?=some (.slice none 0 0)
 | [],E,s,_,h=>⟨E,by simpa [addRows] using h,E.le_refl,fun x b hx=>by simpa [addRows] using hx,fun i h1 h2=>by simp at h2;omega⟩
 | r::l,E,s,hl,h=>by
   obtain⟨hr1,hr2,hr3⟩:=hl r (List.mem_cons_self ..);have hnh:(E.addR (.slice none 0 0) [] (fun _=>.slice none 0 0)).nh s.rw.length=fun _=>.slice none 0 0:=by
     simp only[Env.addR,h.nrw,if_true]
   have h1:=h.addR (w':=w) (r:=r) (v:=.slice none 0 0) (F:=[]) (H:=fun _=>.slice none 0 0) rfl rfl rfl (Nat.le_refl _) (fun _ _=>rfl) (fun b hb=>by cases hb) List.nodup_nil (fun hK hS=>by
     refine⟨.inl ⟨_,_,_,rfl⟩,fun _=>⟨[],by simp only[Env.addR];rw[<- h.nfp];simp,?_⟩,fun e=>by rw[hr2] at e;cases e⟩;rw[hnh,hr1,headT_sl hr3];exact own_nil _ _ _)
   obtain⟨E1,h2,h3,h4,h5⟩:=addRows_ok (l:=l) (fun q hq=>hl q (List.mem_cons_of_mem _ hq)) h1;have e:addRows {s with rw:=s.rw++[r]} l=addRows s (r::l):=by simp [addRows]
   rw[e] at h2 h4;refine⟨E1,h2,⟨fun j b hb=>h3.bx j b hb,fun j v hv=>h3.rw j v (get_more hv),fun j F hF=>h3.fp j F (get_more hF),fun j hj=>?_,h3.bo,h3.w0⟩,fun x b hx=>?_,fun i hi1 hi2=>?_⟩
   · rw[h3.nh j (by simp [Env.addR];omega)];exact (E.le_row _ _ _).nh j hj
   · rcases own_addR h (h4 x b hx) with h6 | ⟨k,_,h6⟩
     · exact h6
     · simp at h6
   · rcases Nat.lt_or_ge i (s.rw.length+1) with hi | hi
     · obtain rfl:i=s.rw.length:=by omega
       refine h3.rw _ _ ?_;show (E.rw++_)[_]?=_;rw[<- h.nrw];simp
     · exact h5 i (by simp;omega) (by simp at hi2 ⊢;omega)
theorem nilRows_ok (t:List Row):∀(l:List Nat),∀r∈nilRows t l,r.ds=[]/\r.st=0/\r.e.isMp=false
 | [],r,h=>by cases h
 | j::l,r,h=>by
   rcases List.mem_cons.1 h with rfl | h
   · split
     · rename_i q _;refine⟨rfl,rfl,?_⟩;cases hmp:q.e.isMp with
       | true=>rfl
       | false=>simpa using hmp
     · exact⟨rfl,rfl,rfl⟩
   · exact nilRows_ok t l r h
def eqPath:Path->Path->List Prop
 | [],[]=>[]
 | π,ρ=>[π=ρ]
theorem eqPath_ok {π ρ:Path} (h:∀p∈eqPath π ρ,p):π=ρ:=by
 unfold eqPath at h;split at h
 · rfl
 · exact h _ (List.mem_singleton.2 rfl)
def atN (l:List Nat) (j i:Nat):Bool:=match l[j]? with
 | some i'=>Nat.beq i' i
 | none=>false
theorem atN_ok {l:List Nat} {j i:Nat} (h:atN l j i=true):l[j]?=some i:=by
 unfold atN at h;split at h
 · rename_i i' hi;rw[hi,Nat.eq_of_beq_eq_true h]
 · cases h
mutual
def eqSV (s:St) (mb mr:List Nat) (R:Nat):SV->SV->Option (List Prop)
 | _,.un=>some []
 | .tt,.tt=>some []
 | .ff,.ff=>some []
 | .tt,.bool b=>some [b=true]
 | .ff,.bool b=>some [b=false]
 | .bool b,.bool b'=>some [b=b']
 | .bool b,.tt=>some [b=true]
 | .bool b,.ff=>some [b=false]
 | .int k n,.int k' n'=>bif kindEq k k' then some [n=n'] else none
 | .str a,.str b=>some [a=b]
 | .raw a,.raw b=>some [a=b]
 | .nil,.nil=>some []
 | .nil,.sl _ ds=>some [ds=[]]
 | .sl e ds,.sl e' ds'=>bif tyEq e e' then some [ds=ds'] else none
 | .own i,.sl e ds=>match s.rw[i]? with
   | some r=>bif Nat.beq r.st 1&&tyEq r.e.ty e then some [r.ds=ds] else none
   | none=>none
 | .own i,.own j=>bif atN mr j i then some [] else none
 | .nil,.own j=>match mr[j]? with
   | some i=>bif Nat.ble R i&&Nat.blt i s.rw.length then some [] else none
   | none=>none
 | .hs i π,.hs j ρ=>bif atN mr j i then some (eqPath π ρ) else none
 | .rp i π a sz off,.rp j ρ b sz' off'=>bif atN mr j i&&Nat.beq sz sz'&&Nat.beq off off' then some ((a=b)::eqPath π ρ) else none
 | .bp i off,.bp j off'=>bif atN mb j i&&Nat.beq off off' then some [] else none
 | .bsl e ds,.bsl e' ds'=>bif otEq e e' then some [ds=ds'] else none
 | .bptr e d off,.bptr e' d' off'=>bif otEq e e'&&Nat.beq off off' then some [d=d'] else none
 | .arr k ds,.arr k' ds'=>bif kindEq k k' then some [ds=ds'] else none
 | .ptr t d off,.ptr t' d' off'=>bif tyEq t t'&&Nat.beq off off' then some [d=d'] else none
 | .nilp,.nilp=>some []
 | .agg l,.agg l'=>eqSVs s mb mr R l l'
 | .tup l,.tup l'=>eqSVs s mb mr R l l'
 | .fn f l,.fn f' l'=>bif Nat.beq f f' then eqSVs s mb mr R l l' else none
 | .ifc f l,.ifc f' l'=>bif Nat.beq f f' then eqSVs s mb mr R l l' else none
 | .bf f l,.bf f' l'=>bif Nat.beq f f' then eqSVs s mb mr R l l' else none
 | _,_=>none
def eqSVs (s:St) (mb mr:List Nat) (R:Nat):List SV->List SV->Option (List Prop)
 | [],[]=>some []
 | x::l,y::l'=>match eqSV s mb mr R x y with
   | some ps=>match eqSVs s mb mr R l l' with
     | some qs=>some (ps++qs)
     | none=>none
   | none=>none
 | _,_=>none
end
theorem all_append {l m:List Prop} (h:∀p∈l++m,p):(∀p∈l,p)/\∀p∈m,p:=all_app h
def Env.ren (E:Env) (mb mr:List Nat):Env:=⟨mb.map fun i=>E.bx.getD i 0,mr.map fun i=>E.rw.getD i undef,mr.map fun i=>E.fp.getD i [],fun j=>E.nh (mr.getD j 0),E.bo,E.w0⟩
section
variable {S:Nat->Prop} {E:Env} {w:World} {mb mr:List Nat}
theorem ren_rw {j i:Nat} (hi:mr[j]?=some i) {v:Value} (hv:E.rw[i]?=some v):(E.ren mb mr).rw[j]?=some v:=by
 show (mr.map _)[j]?=_;rw[List.getElem?_map,hi,Option.map_some,List.getD_eq_getElem?_getD,hv];rfl
theorem ren_bx {j i:Nat} (hi:mb[j]?=some i) {b:Nat} (hb:E.bx[i]?=some b):(E.ren mb mr).bx[j]?=some b:=by
 show (mb.map _)[j]?=_;rw[List.getElem?_map,hi,Option.map_some,List.getD_eq_getElem?_getD,hb];rfl
theorem ren_nh {j i:Nat} (hi:mr[j]?=some i):(E.ren mb mr).nh j=E.nh i:=by
 show E.nh (mr.getD j 0)=_;rw[List.getD_eq_getElem?_getD,hi];rfl
theorem ren_lt {j i:Nat} (hi:mr[j]?=some i):j<(E.ren mb mr).rw.length:=by
 show j<(mr.map _).length;rw[List.length_map];exact (List.getElem?_eq_some_iff.1 hi).1
mutual
theorem eqSV_rel {c:Ctx} {s:St} {a:Act} {R:Nat} (h:Inv c E s a w) (hR:∀i,R<=i->i<s.rw.length->E.rw[i]?=some (.slice none 0 0)) :
   ∀{x y:SV} {ps:List Prop} {v:Value},eqSV s mb mr R x y=some ps->(∀p∈ps,p)->RelV (Reg c E s w) E w x v->RelV (Reg c E s w) (E.ren mb mr) w y v
 | x,y,ps,v,hq,hp,hr=>by
   unfold eqSV at hq;split at hq
   · trivial
   · exact hr
   · exact hr
   · simp at hq;subst hq;have:=hp _ (List.mem_singleton.2 rfl);rw[this];exact hr
   · simp at hq;subst hq;have:=hp _ (List.mem_singleton.2 rfl);rw[this];exact hr
   · simp at hq;subst hq;have:=hp _ (List.mem_singleton.2 rfl);rw[<- this];exact hr
   · simp at hq;subst hq;have:=hp _ (List.mem_singleton.2 rfl);rw[this] at hr;exact hr
   · simp at hq;subst hq;have:=hp _ (List.mem_singleton.2 rfl);rw[this] at hr;exact hr
   · rename_i k n k' n';cases hk:kindEq k k' with
     | false=>rw[hk] at hq;cases hq
     | true=>
       rw[hk] at hq;simp at hq;subst hq
       have:=hp _ (List.mem_singleton.2 rfl)
       rw[<- this,<- kindEq_eq hk];exact hr
   · simp at hq;subst hq;have:=hp _ (List.mem_singleton.2 rfl);rw[<- this];exact hr
   · simp at hq;subst hq;have:=hp _ (List.mem_singleton.2 rfl);rw[<- this];exact hr
   · exact hr
   · simp at hq;subst hq;have h0:=hp _ (List.mem_singleton.2 rfl);rw[h0];have hr:v=.slice none 0 0:=hr;rw[hr];exact⟨none,0,0,[],rfl,rfl,rfl,Nat.le_refl _,by omega,fun h=>absurd rfl h⟩
   · rename_i e ds e' ds';cases hk:tyEq e e' with
     | false=>rw[hk] at hq;cases hq
     | true=>
       rw[hk] at hq;simp at hq;subst hq
       have:=hp _ (List.mem_singleton.2 rfl)
       rw[<- this,<- tyEq_eq hk];exact hr
   · rename_i i e ds;split at hq
     · rename_i r hr';cases hk:Nat.beq r.st 1&&tyEq r.e.ty e with
       | false=>rw[hk] at hq;cases hq
       | true=>
         rw[hk] at hq;simp only[Bool.and_eq_true] at hk;simp at hq;subst hq;have h0:=hp _ (List.mem_singleton.2 rfl);rw[<- h0,<- tyEq_eq hk.2];exact (h.rw i r v hr' hr.1).2.2 (Nat.eq_of_beq_eq_true hk.1)
     · cases hq
   · rename_i i j;cases hk:atN mr j i with
     | false=>rw[hk] at hq;cases hq
     | true=>exact⟨ren_rw (atN_ok hk) hr.1,hr.2⟩
   · rename_i j;split at hq
     · rename_i i hi;cases hk:Nat.ble R i&&Nat.blt i s.rw.length with
       | false=>rw[hk] at hq;cases hq
       | true=>
         simp only[Bool.and_eq_true] at hk;have hr:v=.slice none 0 0:=hr;subst hr;exact⟨ren_rw hi (hR i (Nat.le_of_ble_eq_true hk.1) (Nat.le_of_ble_eq_true hk.2)),.inl ⟨_,_,_,rfl⟩⟩
     · cases hq
   · rename_i i π j ρ;cases hk:atN mr j i with
     | false=>rw[hk] at hq;cases hq
     | true=>
       rw[hk] at hq;simp at hq;subst hq;have e:=eqPath_ok hp;subst e;obtain⟨h0,h1,h2⟩:=hr;exact⟨ren_lt (atN_ok hk),by rw[ren_nh (atN_ok hk)];exact h1,h2⟩
   · rename_i i π a' sz off j ρ b sz' off';cases hk:atN mr j i&&Nat.beq sz sz'&&Nat.beq off off' with
     | false=>rw[hk] at hq;cases hq
     | true=>
       rw[hk] at hq;simp only[Bool.and_eq_true] at hk;simp at hq;subst hq;have e:=eqPath_ok (fun p hp'=>hp p (List.mem_cons_of_mem _ hp'));have e2:=hp _ (List.mem_cons_self ..);subst e;subst e2;obtain⟨g,n,cp,h0,h1,h2⟩:=hr;rw[<- Nat.eq_of_beq_eq_true hk.1.2,<- Nat.eq_of_beq_eq_true hk.2];exact⟨g,n,cp,ren_lt (atN_ok hk.1.1),by rw[ren_nh (atN_ok hk.1.1)];exact h1,h2⟩
   · rename_i i off j off';cases hk:atN mb j i&&Nat.beq off off' with
     | false=>rw[hk] at hq;cases hq
     | true=>
       simp only[Bool.and_eq_true] at hk;have h2:=Nat.eq_of_beq_eq_true hk.2;subst h2;obtain⟨b,h3,h4⟩:=hr;exact⟨b,ren_bx (atN_ok hk.1) h3,h4⟩
   · rename_i e ds e' ds';cases hk:otEq e e' with
     | false=>rw[hk] at hq;cases hq
     | true=>
       rw[hk] at hq;simp at hq;subst hq
       have:=hp _ (List.mem_singleton.2 rfl)
       rw[<- this,<- otEq_eq hk];exact hr
   · rename_i t d off t' d' off';cases hk:otEq t t'&&Nat.beq off off' with
     | false=>rw[hk] at hq;cases hq
     | true=>
       rw[hk] at hq;simp only[Bool.and_eq_true] at hk;simp at hq;subst hq;have h0:=hp _ (List.mem_singleton.2 rfl);rw[<- h0,<- otEq_eq hk.1,<- Nat.eq_of_beq_eq_true hk.2];exact hr
   · rename_i k ds k' ds';cases hk:kindEq k k' with
     | false=>rw[hk] at hq;cases hq
     | true=>
       rw[hk] at hq;simp at hq;subst hq;have h0:=hp _ (List.mem_singleton.2 rfl);rw[<- h0,<- kindEq_eq hk];exact hr
   · rename_i t d off t' d' off';cases hk:tyEq t t'&&Nat.beq off off' with
     | false=>rw[hk] at hq;cases hq
     | true=>
       rw[hk] at hq;simp only[Bool.and_eq_true] at hk;simp at hq;subst hq;have h0:=hp _ (List.mem_singleton.2 rfl);rw[<- h0,<- tyEq_eq hk.1,<- Nat.eq_of_beq_eq_true hk.2];exact hr
   · exact hr
   · obtain⟨vs,h1,h2⟩:=hr;exact⟨vs,h1,eqSVs_rel h hR hq hp h2⟩
   · obtain⟨vs,h1,h2⟩:=hr;exact⟨vs,h1,eqSVs_rel h hR hq hp h2⟩
   iterate 3
     · rename_i f l f' l';cases hk:Nat.beq f f' with
       | false=>rw[hk] at hq;cases hq
       | true=>
         rw[hk] at hq;have h0:=Nat.eq_of_beq_eq_true hk;subst h0;obtain⟨vs,h1,h2⟩:=hr;exact⟨vs,h1,eqSVs_rel h hR hq hp h2⟩
   · cases hq
theorem eqSVs_rel {c:Ctx} {s:St} {a:Act} {R:Nat} (h:Inv c E s a w) (hR:∀i,R<=i->i<s.rw.length->E.rw[i]?=some (.slice none 0 0)) :
   ∀{l m:List SV} {ps:List Prop} {vs:List Value},eqSVs s mb mr R l m=some ps->(∀p∈ps,p)->RelVs (Reg c E s w) E w l vs->RelVs (Reg c E s w) (E.ren mb mr) w m vs
 | l,m,ps,vs,hq,hp,hr=>by
   unfold eqSVs at hq;split at hq
   · exact hr
   · split at hq
     · rename_i x l' y m' ps' h1;split at hq
       · rename_i qs h2;simp at hq;subst hq;obtain⟨hp1,hp2⟩:=all_append hp;obtain⟨v,vs',h3,h4,h5⟩:=hr;exact⟨v,vs',h3,eqSV_rel h hR h1 hp1 h4,eqSVs_rel h hR h2 hp2 h5⟩
       · cases hq
     · cases hq
   · cases hq
end
end
def eqBoxes (s:St) (mb mr:List Nat) (R:Nat):List Nat->List (TypeId×List SV)->Option (List Prop)
 | [],[]=>some []
 | i::l,q::t=>match s.bx[i]? with
   | some p=>match eqSVs s mb mr R p.2 q.2,eqBoxes s mb mr R l t with
     | some ps,some qs=>bif Nat.beq p.1 q.1&&q.2.all SV.one then some (ps++qs) else none
     | _,_=>none
   | none=>none
 | _,_=>none
theorem own_empty {S:Nat->Prop} {w:World} {tid:TypeId} {e e':OT} {H:Hd} {b:Nat} {cs:List Value} {F:List Nat} (he:e.size=e'.size):Own S w (.sl tid e) H b cs (.node []) F->Own S w (.sl tid e') H b cs (.node []) F:=by
 rintro⟨ds,xs,F',h1,h2,h3,h4,h5,h6⟩;injection h2 with h2
 subst h2;exact⟨[],xs,F',h1,rfl,he▸h3,h4,h5,h6⟩
def notRaw:Ty->Bool
 | .raw=>false
 | _=>true
theorem notRaw_hole {t:Ty} (h:notRaw t=true) (hw:WF t hole):False:=by
 cases t with
 | int k=>obtain⟨n,e,_⟩:=hw;cases e
 | bool=>obtain⟨b,e⟩:=hw;cases e
 | str=>obtain⟨b,e,_⟩:=hw;cases e
 | raw=>cases h
 | sl e=>obtain⟨ds,e,_⟩:=hw;cases e
 | st fs=>obtain⟨ds,e,_⟩:=hw;cases e
mutual
def hoUp:OT->OT->Bool
 | .im a,.im b=>tyEq a b
 | .sl t a,.sl u b=>Nat.beq t u&&hoUp a b
 | .sl t a,.ho u b=>Nat.beq t u&&(notRaw a.ty&&hoUp a b)
 | .ho t a,.ho u b=>Nat.beq t u&&hoUp a b
 | .st a,.st b=>hoUps a b
 | .mp k a,.mp l b=>tyEq k l&&otEq a b
 | _,_=>false
def hoUps:List OT->List OT->Bool
 | [],[]=>true
 | a::aa,b::bs=>hoUp a b&&hoUps aa bs
 | _,_=>false
end
mutual
theorem hoUp_size:∀{a b:OT},hoUp a b=true->a.size=b.size
 | .im a,b,h=>by cases b<;>simp [hoUp] at h;rw[tyEq_eq h]
 | .sl t a,b,h=>by cases b<;>simp [hoUp] at h<;>rfl
 | .ho t a,b,h=>by cases b<;>simp [hoUp] at h;rfl
 | .st a,b,h=>by cases b<;>simp [hoUp] at h;exact hoUps_size h
 | .mp k a,b,h=>by cases b<;>simp [hoUp] at h;rfl
theorem hoUps_size:∀{a b:List OT},hoUps a b=true->OT.sizes a=OT.sizes b
 | [],b,h=>by cases b<;>simp [hoUps] at h;rfl
 | a::aa,b,h=>by
   cases b with
   | nil=>simp [hoUps] at h
   | cons b bs=>
     simp [hoUps] at h;rw[OT.sizes,OT.sizes,hoUp_size h.1,hoUps_size h.2]
end
mutual
theorem hoUp_ty:∀{a b:OT},hoUp a b=true->a.ty=b.ty
 | .im a,b,h=>by cases b<;>simp [hoUp] at h;rw[tyEq_eq h]
 | .sl t a,b,h=>by
   cases b<;>simp [hoUp] at h
   · rw[OT.ty,OT.ty,hoUp_ty h.2]
   · rw[OT.ty,OT.ty,hoUp_ty h.2.2]
 | .ho t a,b,h=>by cases b<;>simp [hoUp] at h;rw[OT.ty,OT.ty,hoUp_ty h.2]
 | .st a,b,h=>by cases b<;>simp [hoUp] at h;rw[OT.ty,OT.ty,hoUps_ty h]
 | .mp k a,b,h=>by cases b<;>simp [hoUp] at h;rfl
theorem hoUps_ty:∀{a b:List OT},hoUps a b=true->OT.tys a=OT.tys b
 | [],b,h=>by cases b<;>simp [hoUps] at h;rfl
 | a::aa,b,h=>by
   cases b with
   | nil=>simp [hoUps] at h
   | cons b bs=>
     simp [hoUps] at h;rw[OT.tys,OT.tys,hoUp_ty h.1,hoUps_ty h.2]
end
theorem elems_mem {Q Q':Nat->List Value->Dat->List Nat->Prop}:∀{ds:List Dat} {k:Nat} {xs:List Value} {F:List Nat},(∀i x d G,d∈ds->Q i x d G->Q' i x d G)->Elems Q k xs ds F->Elems Q' k xs ds F
 | [],_,_,_,_,h=>h
 | _::ds,k,_,_,hq,⟨x1,x2,F1,F2,h1,h2,h3,h4⟩=>⟨x1,x2,F1,F2,h1,h2,hq _ _ _ _ (List.mem_cons_self ..) h3,elems_mem (fun i x d G hd hQ=>hq i x d G (List.mem_cons_of_mem _ hd) hQ) h4⟩
section
variable {S:Nat->Prop} {w:World}
mutual
theorem Own.up:∀{a b:OT} {H:Hd} {o:Nat} {cs:List Value} {d:Dat} {F:List Nat},hoUp a b=true->Own S w a H o cs d F->Own S w b H o cs d F
 | .im a,b,H,o,cs,d,F,h,k=>by cases b<;>simp [hoUp] at h;rw[<- tyEq_eq h];exact k
 | .sl t a,b,H,o,cs,d,F,h,⟨ds,xs,F',h0,h1,h2,h3,h4,h5⟩=>by
   cases b<;>simp [hoUp] at h
   · obtain⟨rfl,h⟩:=h;exact⟨ds,xs,F',h0,h1,by rw[<- hoUp_size h];exact h2,h3,h4.imp (fun i x d G _ _ _ hq=>Own.up (a:=a) h hq),h5⟩
   · obtain⟨rfl,_,h⟩:=h;exact⟨h0,.inr ⟨ds,xs,F',h1,by rw[<- hoUp_size h];exact h2,h3,h4.imp (fun i x d G _ _ _ hq=>Own.up (a:=a) h hq),h5⟩⟩
 | .ho t a,b,H,o,cs,d,F,h,⟨h0,.inl k⟩=>by
   cases b<;>simp [hoUp] at h;exact⟨h0,.inl ⟨k.1.imp id (fun⟨x,k1,k2⟩=>⟨x,k1,by rw[<- hoUp_ty h.2];exact k2⟩),k.2⟩⟩
 | .ho t a,b,H,o,cs,d,F,h,⟨h0,.inr ⟨ds,xs,F',h1,h2,h3,h4,h5⟩⟩=>by
   cases b<;>simp [hoUp] at h;obtain⟨rfl,h⟩:=h;exact⟨h0,.inr ⟨ds,xs,F',h1,by rw[<- hoUp_size h];exact h2,h3,h4.imp (fun i x d G _ _ _ hq=>Own.up (a:=a) h hq),h5⟩⟩
 | .st fs,b,H,o,cs,d,F,h,⟨ds,h1,h2⟩=>by
   cases b<;>simp [hoUp] at h;exact⟨ds,h1,Owns.up h h2⟩
 | .mp l v,b,H,o,cs,d,F,h,k=>by
   cases b<;>simp [hoUp] at h;rw[<- tyEq_eq h.1,<- otEq_eq h.2];exact k
theorem Owns.up:∀{a b:List OT} {H:Hd} {o:Nat} {cs:List Value} {ds:List Dat} {F:List Nat},hoUps a b=true->Owns S w a H o cs ds F->Owns S w b H o cs ds F
 | [],b,H,o,cs,d,F,h,k=>by cases b<;>simp [hoUps] at h;exact k
 | a::aa,b,H,o,cs,d,F,h,⟨c1,c2,d1,d2,F1,F2,h1,h2,h3,h4,h5⟩=>by
   cases b with
   | nil=>simp [hoUps] at h
   | cons b bs=>
     simp [hoUps] at h;exact⟨c1,c2,d1,d2,F1,F2,h1,h2,h3,Own.up h.1 h4,by rw[<- hoUp_size h.1];exact Owns.up h.2 h5⟩
end
mutual
theorem Own.down:∀{a b:OT} {H:Hd} {o:Nat} {cs:List Value} {d:Dat} {F:List Nat},hoUp b a=true->WF b.ty d->Own S w a H o cs d F->Own S w b H o cs d F
 | .im a,b,H,o,cs,d,F,h,_,k=>by cases b<;>simp [hoUp] at h;rw[tyEq_eq h];exact k
 | .sl t a,b,H,o,cs,d,F,h,hw,⟨ds,xs,F',h0,h1,h2,h3,h4,h5⟩=>by
   cases b<;>simp [hoUp] at h;obtain⟨rfl,h⟩:=h;obtain⟨ds',h6,h7,h8⟩:=hw;rw[h1] at h6;injection h6 with h6;subst h6
   exact⟨ds,xs,F',h0,h1,by rw[hoUp_size h];exact h2,h3,elems_mem (fun i x d G hd hq=>Own.down (a:=a) h (h8 d hd) hq) h4,h5⟩
 | .ho t a,b,H,o,cs,d,F,h,hw,⟨h0,.inl ⟨k1,k2⟩⟩=>by
   cases b<;>simp [hoUp] at h
   · obtain⟨rfl,hr,h⟩:=h;obtain⟨ds',h6,_,h8⟩:=hw;rcases k1 with k1 | ⟨x,k1,_⟩
     · rw[k1] at h6;cases h6
     · rw[k1] at h6;injection h6 with h6;subst h6
       exact (notRaw_hole hr (h8 hole (List.mem_cons_self ..))).elim
   · exact⟨h0,.inl ⟨k1.imp id (fun⟨x,k3,k4⟩=>⟨x,k3,by rw[hoUp_ty h.2];exact k4⟩),k2⟩⟩
 | .ho t a,b,H,o,cs,d,F,h,hw,⟨h0,.inr ⟨ds,xs,F',h1,h2,h3,h4,h5⟩⟩=>by
   cases b<;>simp [hoUp] at h
   · obtain⟨rfl,_,h⟩:=h;obtain⟨ds',h6,h7,h8⟩:=hw;rw[h1] at h6;injection h6 with h6;subst h6
     exact⟨ds,xs,F',h0,h1,by rw[hoUp_size h];exact h2,h3,elems_mem (fun i x d G hd hq=>Own.down (a:=a) h (h8 d hd) hq) h4,h5⟩
   · obtain⟨rfl,h⟩:=h;obtain⟨ds',h6,h7,h8⟩:=hw;rw[h1] at h6;injection h6 with h6;subst h6
     exact⟨h0,.inr ⟨ds,xs,F',h1,by rw[hoUp_size h];exact h2,h3,elems_mem (fun i x d G hd hq=>Own.down (a:=a) h (h8 d hd) hq) h4,h5⟩⟩
 | .st fs,b,H,o,cs,d,F,h,hw,⟨ds,h1,h2⟩=>by
   cases b<;>simp [hoUp] at h;obtain⟨ds',h6,h7⟩:=hw;rw[h1] at h6;injection h6 with h6;subst h6
   exact⟨ds,h1,Owns.down h h7 h2⟩
 | .mp l v,b,H,o,cs,d,F,h,_,k=>by
   cases b<;>simp [hoUp] at h;rw[tyEq_eq h.1,otEq_eq h.2];exact k
theorem Owns.down:∀{a b:List OT} {H:Hd} {o:Nat} {cs:List Value} {ds:List Dat} {F:List Nat},hoUps b a=true->WFs (OT.tys b) ds->Owns S w a H o cs ds F->Owns S w b H o cs ds F
 | [],b,H,o,cs,d,F,h,_,k=>by cases b<;>simp [hoUps] at h;exact k
 | a::aa,b,H,o,cs,d,F,h,hw,⟨c1,c2,d1,d2,F1,F2,h1,h2,h3,h4,h5⟩=>by
   cases b with
   | nil=>simp [hoUps] at h
   | cons b bs=>
     simp [hoUps] at h;obtain⟨d',l',h6,h7,h8⟩:=hw;rw[h2] at h6;injection h6 with h6 h6'
     subst h6;subst h6';exact⟨c1,c2,d1,d2,F1,F2,h1,h2,h3,Own.down h.1 h7 h4,by rw[hoUp_size h.1];exact Owns.down h.2 h8 h5⟩
end
end
def eqRow (r q:Row):Option Prop:=bif Nat.beq r.st q.st&&Nat.beq r.tid q.tid&&(!r.lt||q.lt) then (bif otEq r.e q.e then some (r.ds=q.ds) else bif Nat.beq q.st 0&&Nat.beq r.e.size q.e.size&&!r.e.isMp&&!q.e.isMp then
   (bif hoUp r.e q.e then some (r.ds=q.ds) else bif hoUp q.e r.e then some (r.ds=q.ds/\WFl q.e.ty q.ds) else some (r.ds=[]/\q.ds=[])) else none) else none
def EqE (r q:Row):Prop:=r.e=q.e\/(q.st=0/\∀(S:Nat->Prop) (w:World) (H:Hd) (b:Nat) (cs:List Value) (F:List Nat),Own S w (headT r.tid r.e) H b cs (.node r.ds) F->Own S w (headT r.tid q.e) H b cs (.node r.ds) F)
theorem eqRow_ok {r q:Row} {p:Prop} (h:eqRow r q=some p) (hp:p):r.st=q.st/\r.tid=q.tid/\EqE r q/\r.ds=q.ds/\(q.lt=false->r.lt=false):=by
 unfold eqRow at h;cases hk:Nat.beq r.st q.st&&Nat.beq r.tid q.tid&&(!r.lt||q.lt) with
 | false=>rw[hk] at h;cases h
 | true=>
   rw[hk] at h;simp only[cond_true,Bool.and_eq_true] at h hk;obtain⟨⟨k1,k2⟩,k4⟩:=hk;have hl:q.lt=false->r.lt=false:=fun hl=>by rw[hl] at k4;simpa using k4
   cases he:otEq r.e q.e with
   | true=>
     rw[he] at h;simp only[cond_true,Option.some.injEq] at h;subst h;exact⟨Nat.eq_of_beq_eq_true k1,Nat.eq_of_beq_eq_true k2,.inl (otEq_eq he),hp,hl⟩
   | false=>
     rw[he] at h;cases hz:Nat.beq q.st 0&&Nat.beq r.e.size q.e.size&&!r.e.isMp&&!q.e.isMp with
     | false=>rw[hz] at h;cases h
     | true=>
       rw[hz] at h;simp only[Bool.and_eq_true,Bool.not_eq_true'] at hz;obtain⟨⟨⟨z1,z2⟩,z3⟩,z4⟩:=hz;have z1:=Nat.eq_of_beq_eq_true z1;have z2:=Nat.eq_of_beq_eq_true z2;cases hu:hoUp r.e q.e with
       | true=>
         rw[hu] at h;simp only[cond_true,cond_false,Option.some.injEq] at h;subst h;refine⟨Nat.eq_of_beq_eq_true k1,Nat.eq_of_beq_eq_true k2,.inr ⟨z1,fun S w H b cs F ho=>?_⟩,hp,hl⟩;rw[headT_sl z3] at ho;rw[headT_sl z4];exact Own.up (a:=.sl r.tid r.e) (by simp [hoUp,hu]) ho
       | false=>
         rw[hu] at h;cases hd:hoUp q.e r.e with
         | true=>
           rw[hd] at h;simp only[cond_true,cond_false,Option.some.injEq] at h;subst h;refine⟨Nat.eq_of_beq_eq_true k1,Nat.eq_of_beq_eq_true k2,.inr ⟨z1,fun S w H b cs F ho=>?_⟩,hp.1,hl⟩;rw[headT_sl z3] at ho;rw[headT_sl z4];exact Own.down (a:=.sl r.tid r.e) (by simp [hoUp,hd]) ⟨r.ds,rfl,by rw[hp.1];exact hp.2⟩ ho
         | false=>
           rw[hd] at h;simp only[cond_true,cond_false,Option.some.injEq] at h;subst h;refine⟨Nat.eq_of_beq_eq_true k1,Nat.eq_of_beq_eq_true k2,.inr ⟨z1,fun S w H b cs F ho=>?_⟩,hp.1.trans hp.2.symm,hl⟩;rw[headT_sl z3] at ho;rw[headT_sl z4];rw[hp.1] at ho ⊢;exact own_empty z2 ho
def eqRows (s:List Row):List Nat->List Row->Option (List Prop)
 | [],[]=>some []
 | i::mr,q::t=>match s[i]?,eqRows s mr t with
   | some r,some ps=>bif Nat.beq q.st 2 then some ps else (match eqRow r q with | some p=>some (p::ps) | none=>none)
   | _,_=>none
 | _,_=>none
def livesOf:List Nat->List Row->List Nat
 | i::mr,q::t=>bif Nat.beq q.st 0 then i::livesOf mr t else livesOf mr t
 | _,_=>[]
def idPre:Nat->Nat->List Nat->Bool
 | 0,_,_=>true
 | k+1,j,i::l=>Nat.beq i j&&idPre k (j+1) l
 | _+1,_,[]=>false
theorem idPre_get:∀{k j:Nat} {l:List Nat},idPre k j l=true->∀n,n<k->l[n]?=some (j+n)
 | 0,_,_,_,n,hn=>by omega
 | k+1,j,[],h,_,_=>by cases h
 | k+1,j,i::l,h,n,hn=>by
   simp only[idPre,Bool.and_eq_true] at h;cases n with
   | zero=>simp;exact Nat.eq_of_beq_eq_true h.1
   | succ n=>
     have:=idPre_get h.2 n (by omega)
     rw[List.getElem?_cons_succ,this];congr 1;omega
theorem eqRows_get {s:List Row}:∀{mr:List Nat} {t:List Row} {ps:List Prop},eqRows s mr t=some ps->(∀p∈ps,p)->mr.length=t.length/\∀(j:Nat) (q:Row),t[j]?=some q->∃i r,mr[j]?=some i/\s[i]?=some r/\(q.st=2\/(r.st=q.st/\r.tid=q.tid/\EqE r q/\r.ds=q.ds/\(q.lt=false->r.lt=false)))
 | [],[],_,_,_=>⟨rfl,fun j q hq=>by simp at hq⟩
 | [],_::_,_,h,_=>by simp [eqRows] at h
 | _::_,[],_,h,_=>by simp [eqRows] at h
 | i::mr,q0::t,ps,h,hp=>by
   unfold eqRows at h;split at h
   · rename_i r ps' h1 h2;have rest:(∀p∈ps',p)->(q0.st=2\/(r.st=q0.st/\r.tid=q0.tid/\EqE r q0/\r.ds=q0.ds/\(q0.lt=false->r.lt=false)))->(i::mr).length=(q0::t).length/\∀(j:Nat) (q:Row),(q0::t)[j]?=some q->∃i' r,(i::mr)[j]?=some i'/\s[i']?=some r/\(q.st=2\/(r.st=q.st/\r.tid=q.tid/\EqE r q/\r.ds=q.ds/\(q.lt=false->r.lt=false))):=by
       intro hp' h0;obtain⟨h3,h4⟩:=eqRows_get h2 hp';refine⟨by simp [h3],fun j q hq=>?_⟩;cases j with
       | zero=>
         simp at hq;subst hq;exact⟨i,r,rfl,h1,h0⟩
       | succ j=>
         obtain⟨i',r',h5,h6⟩:=h4 j q (by simpa using hq);exact⟨i',r',by simpa using h5,h6⟩
     cases hd:Nat.beq q0.st 2 with
     | true=>
       rw[hd] at h;simp at h;subst h;exact rest hp (.inl (Nat.eq_of_beq_eq_true hd))
     | false=>
       rw[hd] at h;simp only[cond_false] at h;cases hk:eqRow r q0 with
       | none=>rw[hk] at h;cases h
       | some p0=>
         rw[hk] at h;simp at h;subst h;exact rest (fun p hp'=>hp p (List.mem_cons_of_mem _ hp')) (.inr (eqRow_ok hk (hp _ (List.mem_cons_self ..))))
   · cases h
theorem livesOf_get:∀{mr:List Nat} {t:List Row},(livesOf mr t).Nodup->∀(j k i:Nat) (q q':Row),t[j]?=some q->t[k]?=some q'->q.st=0->q'.st=0->mr[j]?=some i->mr[k]?=some i->j=k
 | [],_,_,j,k,i,q,q',_,_,_,_,h,_=>by simp at h
 | _::_,[],_,j,k,i,q,q',h,_,_,_,_,_=>by simp at h
 | i0::mr,q0::t,hn,j,k,i,q,q',h1,h2,h3,h4,h5,h6=>by
   have hmem:∀{mr:List Nat} {t:List Row} (j i:Nat) (q:Row),t[j]?=some q->q.st=0->mr[j]?=some i->i∈livesOf mr t:=by
     intro mr
     induction mr with
     | nil=>intro t j i q _ _ h;simp at h
     | cons x mr ih=>
       intro t j i q h1 h2 h3;cases t with
       | nil=>simp at h1
       | cons y t=>
         unfold livesOf;cases j with
         | zero=>
           simp at h1 h3;subst h1;subst h3;rw[show Nat.beq y.st 0=true from by rw[h2];rfl];exact List.mem_cons_self ..
         | succ j=>
           have:=ih (t:=t) j i q (by simpa using h1) h2 (by simpa using h3)
           cases Nat.beq y.st 0 with
           | true=>exact List.mem_cons_of_mem _ this
           | false=>exact this
   have htail:(livesOf mr t).Nodup:=by
     unfold livesOf at hn;cases hb:Nat.beq q0.st 0 with
     | true=>rw[hb] at hn;exact (List.nodup_cons.1 hn).2
     | false=>rw[hb] at hn;exact hn
   have hhead:q0.st=0->i0∉livesOf mr t:=by
     intro h0;unfold livesOf at hn;rw[show Nat.beq q0.st 0=true from by rw[h0];rfl] at hn;exact (List.nodup_cons.1 hn).1
   cases j with
   | zero=>
     simp at h1 h5;subst h1;subst h5;cases k with
     | zero=>rfl
     | succ k=>exact absurd (hmem k i0 q' (by simpa using h2) h4 (by simpa using h6)) (hhead h3)
   | succ j=>
     cases k with
     | zero=>
       simp at h2 h6;subst h2;subst h6;exact absurd (hmem j i0 q (by simpa using h1) h3 (by simpa using h5)) (hhead h4)
     | succ k=>
       rw[livesOf_get htail j k i q q' (by simpa using h1) (by simpa using h2) h3 h4 (by simpa using h5) (by simpa using h6)]
theorem eqBoxes_get {s:St} {mb mr:List Nat} {R:Nat}:∀{l:List Nat} {t:List (TypeId×List SV)} {ps:List Prop},eqBoxes s mb mr R l t=some ps->(∀p∈ps,p)->l.length=t.length/\∀(j:Nat) (q:TypeId×List SV),t[j]?=some q->∃i p qs,l[j]?=some i/\s.bx[i]?=some p/\p.1=q.1/\q.2.all SV.one=true/\eqSVs s mb mr R p.2 q.2=some qs/\∀x∈qs,x
 | [],[],_,_,_=>⟨rfl,fun j q hq=>by simp at hq⟩
 | [],_::_,_,h,_=>by simp [eqBoxes] at h
 | _::_,[],_,h,_=>by simp [eqBoxes] at h
 | i::l,q0::t,ps,h,hp=>by
   unfold eqBoxes at h;split at h
   · rename_i p hpi;split at h
     · rename_i ps' qs' h1 h2;cases hk:Nat.beq p.1 q0.1&&q0.2.all SV.one with
       | false=>rw[hk] at h;cases h
       | true=>
         rw[hk] at h;simp at h;subst h;simp only[Bool.and_eq_true] at hk;obtain⟨hp1,hp2⟩:=all_append hp;obtain⟨h3,h4⟩:=eqBoxes_get h2 hp2;refine⟨by simp [h3],fun j q hq=>?_⟩;cases j with
         | zero=>
           simp at hq;subst hq;exact⟨i,p,ps',rfl,hpi,Nat.eq_of_beq_eq_true hk.1,hk.2,h1,hp1⟩
         | succ j=>
           obtain⟨i',p',qs,h5,h6⟩:=h4 j q (by simpa using hq);exact⟨i',p',qs,by simpa using h5,h6⟩
     · cases h
   · cases h
theorem own_frzRow {E:Env} {s:St} {i:Nat} {x:Slot} {b:Nat} (h:own E (frzRow s i) x=some b):own E s x=some b:=by
 unfold frzRow at h;split at h
 · rename_i r hr;split at h
   · exact (own_setRow (r:={r with st:=1}) (by simp) h).1
   · exact h
 · exact h
theorem own_frzAll {E:Env}:∀{l:List Nat} {s:St} {x:Slot} {b:Nat},own E (frzAll s l) x=some b->own E s x=some b
 | [],_,_,_,h=>h
 | _::_,_,_,_,h=>own_frzRow (own_frzAll h)
def prOf (nl nlr:Nat) (s:St) (xs:List SV) (t:St):Pr:=pairB s.rw.length s.bx t.bx (t.bx.length+1) 0 (pairVs s.rw.length (diag nl 0,diag nlr 0,[]) xs t.fr)
def leM (nl nlr:Nat) (s:St) (xs:List SV) (t:St):Option (List Prop):=
 let a:=prOf nl nlr s xs t
 let mb:=mapA a.1 t.bx.length 0
 let mr:=mapA a.2.1 t.rw.length 0
 let s1:=addRows (frzAll s (needVs s xs t.fr++needB s mb 0 t.bx)) (nilRows t.rw a.2.2)
 match eqSVs s1 mb mr s.rw.length xs t.fr,eqBoxes s1 mb mr s.rw.length mb t.bx,eqRows s1.rw mr t.rw with
 | some ps,some qs,some rs=>bif nodupN mb&&nodupN (livesOf mr t.rw)&&idPre nl 0 mb&&idPre nlr 0 mr then some (ps++(qs++rs)) else none
 | _,_,_=>none
structure LeM (c:Ctx) (E:Env) (s:St) (w:World) (nl nlr:Nat) (vs:List Value) (t:St) (E':Env):Prop where
 bo:E'.bo=E.bo
 w0:E'.w0=E.w0
 mem:MemOk (Reg c E' t w) E' t w
 fr:RelVs (Reg c E' t w) E' w t.fr vs
 bx:∀j,j<nl->∀b,E.bx[j]?=some b->E'.bx[j]?=some b
 rw:∀j,j<nlr->∀v,E.rw[j]?=some v->E'.rw[j]?=some v
 got:∀x b,own E' t x=some b->∃y,own E s y=some b
 fresh:∀(j k b:Nat) (r:Row),t.rw[j]?=some r->r.lt=false->own E' t (.r j k)=some b->c.w0.heap.size<=b
theorem leM_ok {c:Ctx} {E:Env} {s t:St} {a:Act} {w:World} (h:Inv c E s a w) {nl nlr:Nat} {xs:List SV} {vs:List Value} {ps:List Prop} (hr:RelVs (Reg c E s w) E w xs vs) (hq:leM nl nlr s xs t=some ps) (hp:∀p∈ps,p):∃E',LeM c E s w nl nlr vs t E':=by
 unfold leM at hq;simp only at hq;generalize prOf nl nlr s xs t=pr at hq;generalize mapA pr.1 t.bx.length 0=mb at hq;generalize mapA pr.2.1 t.rw.length 0=mr at hq;generalize needVs s xs t.fr++needB s mb 0 t.bx=need at hq;obtain⟨h1,hu1,_,hbx1,hlen1⟩:=frzAll_ok (l:=need) h;obtain⟨E1,h2,hle,hown2,hnil⟩:=addRows_ok (l:=nilRows t.rw pr.2.2) (nilRows_ok _ _) h1;have hown0:∀x b,own E1 (addRows (frzAll s need) (nilRows t.rw pr.2.2)) x=some b->own E s x=some b:=fun x b hx=>own_frzAll (hown2 x b hx)
 generalize hs1:addRows (frzAll s need) (nilRows t.rw pr.2.2)=s1 at *
 have hs1len:s1.rw.length=s.rw.length+(nilRows t.rw pr.2.2).length:=by rw[<- hs1];simp [addRows,hlen1]
 have hR:∀i,s.rw.length<=i->i<s1.rw.length->E1.rw[i]?=some (.slice none 0 0):=fun i hi1 hi2=>hnil i (by rw[hlen1];exact hi1) (by rw[hlen1,<- hs1len];exact hi2)
 split at hq
 · rename_i ps' qs' rs' e1 e2 e3;generalize hc:(nodupN mb&&nodupN (livesOf mr t.rw)&&idPre nl 0 mb&&idPre nlr 0 mr)=cond at hq;cases cond with
   | false=>cases hq
   | true=>
     simp only[cond_true,Option.some.injEq] at hq;subst hq;simp only[Bool.and_eq_true] at hc;obtain⟨⟨⟨c1,c2⟩,c3⟩,c4⟩:=hc;have c1:=nodupN_ok c1;have c2:=nodupN_ok c2;obtain⟨hp1,hp2⟩:=all_append hp;obtain⟨hp2,hp3⟩:=all_append hp2;obtain⟨hml,hrows⟩:=eqRows_get e3 hp3;obtain⟨hbl,hboxes⟩:=eqBoxes_get e2 hp2;have hS1:∀b,Reg c E s w b->Reg c E1 s1 w b:=fun b hb=>⟨hb.1,hb.2.1,fun x hx=>hb.2.2 x (hown0 x b hx)⟩
     have hrow0:∀(j:Nat) (q:Row),t.rw[j]?=some q->q.st≠2->∃(i:Nat) (r:Row) (v:Value),mr[j]?=some i/\s1.rw[i]?=some r/\E1.rw[i]?=some v/\r.st=q.st/\r.tid=q.tid/\EqE r q/\r.ds=q.ds/\(q.lt=false->r.lt=false):=by
       intro j q hq hst;obtain⟨i,r,h3,h4,h5⟩:=hrows j q hq;obtain⟨v,hv⟩:=h2.row_val h4;rcases h5 with h5 | h5
       · exact absurd h5 hst
       · exact⟨i,r,v,h3,h4,hv,h5⟩
     have hrenfp:∀(j i:Nat),mr[j]?=some i->∀F,E1.fp[i]?=some F->(E1.ren mb mr).fp[j]?=some F:=by
       intro j i hi F hF;show (mr.map _)[j]?=_;rw[List.getElem?_map,hi,Option.map_some,List.getD_eq_getElem?_getD,hF];rfl
     have hown1:∀x b,own (E1.ren mb mr) t x=some b->∃y,own E1 s1 y=some b/\(∀(j:Nat),x=.b j->∃(i:Nat),mb[j]?=some i/\y=.b i)/\∀(j k:Nat),x=.r j k->∃(i:Nat) (q:Row),t.rw[j]?=some q/\q.st=0/\mr[j]?=some i/\y=.r i k:=by
       intro x b hx;cases x with
       | b j=>
         have hx:(mb.map _)[j]?=some b:=hx;rw[List.getElem?_map] at hx;obtain⟨i,hi,hb⟩:=Option.map_eq_some_iff.1 hx;have hj:j<t.bx.length:=by rw[<- hbl];exact (List.getElem?_eq_some_iff.1 hi).1
         obtain⟨i',p,qs,h3,h4,_⟩:=hboxes j _ (List.getElem?_eq_getElem hj);rw[hi] at h3;simp at h3;subst h3;have hlt:i<E1.bx.length:=by rw[h2.nbx];exact (List.getElem?_eq_some_iff.1 h4).1
         refine⟨.b i,?_,fun j' e=>by injection e with e;subst e;exact⟨i,hi,rfl⟩,fun _ _ e=>by cases e⟩;rw[List.getD_eq_getElem?_getD,List.getElem?_eq_getElem hlt] at hb;show E1.bx[i]?=_;rw[List.getElem?_eq_getElem hlt];exact congrArg some hb
       | r j k=>
         obtain⟨q,G,hq,hst,hG,hb⟩:=own_of hx;obtain⟨i,r,v,h3,h4,h5,h6,_⟩:=hrow0 j q hq (by omega);obtain⟨hF,_⟩:=h2.live_own h4 (by omega) h5;rw[hrenfp j i h3 _ hF] at hG;simp at hG;subst hG;exact⟨.r i k,own_r h4 (by omega) hF hb,fun _ e=>(by cases e),fun j' k' e=>by injection e with e e';subst e;subst e';exact⟨i,q,hq,hst,h3,rfl⟩⟩
     have hreg:∀b,Reg c E1 s1 w b->Reg c (E1.ren mb mr) t w b:=fun b hb=>⟨hb.1,hb.2.1,fun x hx=>by
       obtain⟨y,hy,_⟩:=hown1 x b hx;exact hb.2.2 y hy⟩
     have mono:∀{l:List SV} {us:List Value},RelVs (Reg c E1 s1 w) (E1.ren mb mr) w l us->RelVs (Reg c (E1.ren mb mr) t w) (E1.ren mb mr) w l us:=fun hr=>hr.mono (fun _ _=>rfl) hreg (Env.le_refl _)
     refine⟨E1.ren mb mr,hle.bo,hle.w0,⟨by simp [Env.ren,hbl],by simp [Env.ren,hml],by simp [Env.ren,hml],?_,?_,?_,?_⟩,mono (eqSVs_rel h2 hR e1 hp1 (hr.mono (fun _ _=>rfl) hS1 hle)),fun j hj b hb=>?_,fun j hj v hv=>?_,fun x b hx=>?_,?_⟩
     · intro j q b hq hb;obtain⟨i,p,qs,h3,h4,h5,h6,h7,h8⟩:=hboxes j q hq;obtain⟨y,hy,hyb,_⟩:=hown1 (.b j) b hb;obtain⟨i',hi',rfl⟩:=hyb j rfl;rw[h3] at hi';simp at hi';subst hi';obtain⟨cs,h9,h10,_⟩:=h2.bx i p b h4 hy;exact⟨cs,by rw[<- h5];exact h9,mono (eqSVs_rel h2 hR h7 h8 h10),h6⟩
     · intro j q v hq hv;obtain⟨i,r,h3,h4,h5⟩:=hrows j q hq;obtain⟨v',hv'⟩:=h2.row_val h4;rw[ren_rw h3 hv'] at hv;simp at hv;subst hv;obtain⟨k1,k2,k3⟩:=h2.rw i r v' h4 hv';rcases h5 with h5 | ⟨h5,h6,h7,h8,_⟩
       · exact⟨k1,(fun e=>by rw[h5] at e;cases e),(fun e=>by rw[h5] at e;cases e)⟩
       · refine⟨k1,fun hst=>?_,fun hst=>?_⟩
         · obtain⟨F,hF,h9⟩:=k2 (by omega);refine⟨F,hrenfp j i h3 F hF,?_⟩;rw[ren_nh h3,<- h6,<- h8];have h10:Own (Reg c E1 s1 w) w (headT r.tid q.e) (fun _=>E1.nh i) 0 [v'] (.node r.ds) F:=by
             rcases h7 with h7 | ⟨_,h7⟩
             · rw[<- h7];exact h9
             · exact h7 _ _ _ _ _ _ h9
           exact h10.mono (fun _ _=>rfl) hreg (fun _ _ _ _=>rfl) (fun _ _=>rfl)
         · rcases h7 with h7 | ⟨h7,_⟩
           · rw[<- h7,<- h8];exact (k3 (by omega)).mono (fun _ _=>rfl) hreg
           · rw[hst] at h7;cases h7
     · intro x y b hx hy;obtain⟨x',h3,h4,h5⟩:=hown1 x b hx;obtain⟨y',h6,h7,h8⟩:=hown1 y b hy;have e:=h2.inj x' y' b h3 h6;subst e;cases x with
       | b j=>
         obtain⟨i,hi,e⟩:=h4 j rfl;cases y with
         | b k=>
           obtain⟨i',hi',e'⟩:=h7 k rfl;rw[e] at e';injection e' with e'
           subst e';rw[nodup_get c1 hi hi']
         | r k n=>
           obtain⟨i',_,_,_,_,e'⟩:=h8 k n rfl;rw[e] at e';cases e'
       | r j n=>
         obtain⟨i,q,hq,hst,hi,e⟩:=h5 j n rfl;cases y with
         | b k=>
           obtain⟨i',hi',e'⟩:=h7 k rfl;rw[e] at e';cases e'
         | r k n'=>
           obtain⟨i',q',hq',hst',hi',e'⟩:=h8 k n' rfl;rw[e] at e';injection e' with e' e''
           subst e';subst e'';rw[livesOf_get c2 j k i q q' hq hq' hst hst' hi hi']
     · intro x b hx;obtain⟨y,hy,_⟩:=hown1 x b hx;exact⟨fun hS=>hS.2.2 x hx,h2.own_lt hy⟩
     · have:=idPre_get c3 j hj
       rw[Nat.zero_add] at this;exact ren_bx this (hle.bx j b hb)
     · have:=idPre_get c4 j hj
       rw[Nat.zero_add] at this;exact ren_rw this (hle.rw j v hv)
     · obtain⟨y,hy,_⟩:=hown1 x b hx;exact⟨y,hown0 y b hy⟩
     · intro j k b q hq hlt hb;obtain⟨y,hy,_,hyr⟩:=hown1 _ b hb;obtain⟨i,q',hq',hst,hi,rfl⟩:=hyr j k rfl;rw[hq] at hq';simp at hq';subst hq';obtain⟨i',r,v,h3,h4,_,_,_,_,_,h5⟩:=hrow0 j q hq (by omega);rw[hi] at h3;simp at h3;subst h3;exact h2.fresh i k b r h4 (h5 hlt) hy
 · cases hq
theorem Inv.weaken {c:Ctx} {E:Env} {s t:St} {a:Act} {w:World} (h:Inv c E s a w) {ps:List Prop} (hle:leM c.lent.length c.lrow.length s s.fr t=some ps) (hp:∀p∈ps,p):∃E',Inv c E' t a w:=by
 obtain⟨E',hE⟩:=leM_ok h h.fr hle hp;refine⟨E',h.os,h.tape,h.output,h.size,h.old,h.defers,hE.fr,hE.mem.nbx,hE.mem.nrw,hE.mem.nfp,hE.mem.bx,hE.mem.rw,hE.mem.inj,fun x b hx=>?_,fun j b hb=>hE.bx j (List.getElem?_eq_some_iff.1 hb).1 b (h.lent j b hb),fun j v hv=>hE.rw j (List.getElem?_eq_some_iff.1 hv).1 v (h.lrow j v hv),hE.fresh,by rw[hE.w0,hE.bo];exact h.bor⟩;obtain⟨y,hy⟩:=hE.got x b hx;exact h.new y b hy
end
end
section
noncomputable section
structure LS:Type 1 where
 G:Type
 st:St->G->St
 inv:St->G->Prop
 μ:G->Nat
structure LU:Type 1 where
 n:Nat
 G:Type
 st:Nat->St->G->St
 inv:Nat->St->G->Prop
inductive LK:Type 1 where
 | g (ls:LS) | u (lu:LU)
def allN:Nat->(Nat->VC)->VC
 | 0,f=>f 0
 | k+1,f=>.and (allN k f) (f (k+1))
theorem allN_den {f:Nat->VC}:∀{n:Nat},(allN n f).den->∀i,i<=n->(f i).den
 | 0,h,i,hi=>by
   obtain rfl:i=0:=by omega
   exact h
 | n+1,h,i,hi=>by
   rcases Nat.lt_or_ge i (n+1) with h1 | h1
   · exact allN_den h.1 i (by omega)
   · obtain rfl:i=n+1:=by omega
     exact h.2
def Shp (n:Nat) (x:Value):Prop:=∃xs:List Value,x=.agg xs.toArray/\xs.length=n/\∀v∈xs,v.oneCell'=true
def FnX (P:Program) (f:FuncId) (ins:List SV) (m:St) (t:TypeId×Nat):Prop:=
 ∀(S:Nat->Prop) (E:Env) (w:World) (vs:List Value),(∀b,S b->b<w.heap.size)->E.w0=w->(∀b,E.bo b->b<w.heap.size/\∀x,own E m x≠some b)->MemOk S E m w->RelVs S E w ins vs->
   Calls P f vs.toArray w fun e w'=>∃x,Shp t.2 x/\e=.panicked [{ v:=.iface t.1 x,recovered:=false}]/\KeepBut (fun b=>∃x,own E m x=some b) w w'
structure XCon (P:Program):Type 1 where
 f:FuncId
 t:TypeId×Nat
 get:List SV->St->Option Prop
 enter:Enters P f
 ok:∀ins m p,get ins m=some p->p->FnX P f ins m t
def xget {P:Program} (xt:List (XCon P)) (f:FuncId) (ins:List SV) (bs:St):Option (Prop×TypeId×Nat):=
 match xt with
 | []=>none
 | c::r=>bif Nat.beq c.f f then (match c.get ins bs with
   | some p=>some (p,c.t)
   | none=>xget r f ins bs) else xget r f ins bs
theorem xget_ok {P:Program} {f:FuncId} {ins:List SV} {bs:St} {p:Prop} {t:TypeId×Nat}:∀{xt:List (XCon P)},xget xt f ins bs=some (p,t)->p->Enters P f/\FnX P f ins bs t
 | [],h,_=>by cases h
 | c::r,h,hp=>by
   unfold xget at h;cases hb:Nat.beq c.f f with
   | false=>rw[hb] at h;exact xget_ok h hp
   | true=>
     rw[hb] at h
     have:=Nat.eq_of_beq_eq_true hb
     subst this;simp only[cond_true] at h;split at h
     · rename_i p' hg;simp only[Option.some.injEq,Prod.mk.injEq] at h;obtain⟨rfl,rfl⟩:=h;exact⟨c.enter,c.ok _ _ _ hg hp⟩
     · exact xget_ok h hp
def xcall {P:Program} (xt:List (XCon P)) (s:St) (f:FuncId) (l:List SV):Option (Prop×TypeId×Nat):=
 match prep true s [] l with
 | some (s1,ps,args,no)=>match lendAll s1 args with
   | some (acc,ins,qs,m)=>bif subN (firsts acc.2) no then (match xget xt f ins m with
     | some (p,t)=>some (conj (p::(ps++qs)),t)
     | none=>none) else none
   | none=>none
 | none=>none
def stepP (P:Program) (ct:List (Con P)) (xt:List (XCon P)) (Kp:TypeId×Nat->VC) (o:Oper) (s:St) (K:St->VC):VC:=
 match o.op with
 | .panic x=>match s.ev x with
   | .ifc t l=>bif l.all SV.one then Kp (t,l.length) else .f
   | _=>.f
 | .call { callee:=.value x,args:=args,..}=>match xt with
   | []=>step P ct o s K
   | _=>match (match s.ev x with
       | .fn f caps=>xcall xt s f (args.toList.map s.ev++caps)
       | .bf f pre=>xcall xt s f (pre++(args.toList.map s.ev++[]))
       | _=>none) with
     | some (p,t)=>.or (.ob p (Kp t)) (step P ct o s K)
     | none=>step P ct o s K
 | _=>step P ct o s K
theorem KeepBut.of {c:Ctx} {E:Env} {s:St} {a:Act} {w:World} (h:Inv c E s a w):KeepBut c.M c.w0 w:=⟨h.os,h.tape,h.output,h.size,h.old⟩
theorem KeepBut.trans' {M N:Nat->Prop} {w w1 w2:World} (h:KeepBut M w w1) (k:KeepBut N w1 w2) (hN:∀b,b<w.heap.size->N b->M b):KeepBut M w w2:=
 ⟨k.os.trans h.os,k.tape.trans h.tape,k.output.trans h.output,Nat.le_trans h.size k.size,fun b hb hM=>(k.block b (Nat.lt_of_lt_of_le hb h.size) (fun hn=>hM (hN b hb hn))).trans (h.block b hb hM)⟩
theorem xcall_ok {P:Program} {xt:List (XCon P)} {s:St} {c:Ctx} {E:Env} {a:Act} {w:World} {o:Oper} {x:Operand} {args:Array Operand} {ts:Array TypeId} {f:FuncId} {pre caps:List SV} {p:Prop} {t:TypeId×Nat} {next:Act->World->Prop} {Q:Exit->Act->World->Prop} (ho:o.op=.call { callee:=.value x,args:=args,argTypes:=ts})
   (hx:(s.ev x=.fn f caps/\pre=[])\/(s.ev x=.bf f pre/\caps=[])) (hc:xcall xt s f (pre++(args.toList.map s.ev++caps))=some (p,t)) (hp:p) (h:Inv c E s a w) (hQ:∀x w',Shp t.2 x->KeepBut c.M c.w0 w'->Q (.panic [{ v:=.iface t.1 x,recovered:=false}]) a w'):o.wp P a w next Q:=by
 obtain⟨ps,cs,hxv,hps,hcs⟩:∃ps cs:List Value,a.eval x=.func (.func f) ps.toArray cs.toArray/\RelVs (Reg c E s w) E w pre ps/\RelVs (Reg c E s w) E w caps cs:=by
   have h1:=h.ev x;rcases hx with ⟨hx,rfl⟩ | ⟨hx,rfl⟩
   · rw[hx] at h1;obtain⟨cs,h2,h3⟩:=h1;exact⟨[],cs,h2,rfl,h3⟩
   · rw[hx] at h1;obtain⟨cs,h2,h3⟩:=h1;exact⟨cs,[],h2,h3,rfl⟩
 have hargs:RelVs (Reg c E s w) E w (pre++(args.toList.map s.ev++caps)) (ps++(args.toList.map a.eval++cs)):=hps.append ((evs_rel h _).append hcs);unfold xcall at hc;split at hc
 · rename_i s1 qs0 args1 no hq;split at hc
   · rename_i acc ins qs m hl;cases hsub:subN (firsts acc.2) no with
     | false=>rw[hsub] at hc;cases hc
     | true=>
       rw[hsub] at hc;simp only[cond_true] at hc;split at hc
       · rename_i p0 t0 hg;simp only[Option.some.injEq,Prod.mk.injEq] at hc;obtain⟨rfl,rfl⟩:=hc;have hall:=conj_mem hp;obtain⟨hp1,hp2⟩:=all_app (fun p hp=>hall p (List.mem_cons_of_mem _ hp));obtain⟨he,hf⟩:=xget_ok hg (hall _ (List.mem_cons_self ..));obtain⟨h1,_,h2⟩:=prep_ok h hq hp1 hargs;obtain⟨Ec,sp,hw0,hbo,hm,hi,hL⟩:=lend_in h1 (S:=CallReg true c E s1 w acc.1 no) (fun _=>False) hl hp2 callReg_reg (fun x b hx hls hS=>by
           unfold CallReg at hS;rw[if_pos rfl] at hS;refine hS.2 x hx ?_;cases x with
           | b j=>exact hls
           | r j k=>exact subN_ok hsub j hls) (h2 acc.1)
         have hrun:(execOp a.eval o).run P w=.ok (.enter f (ps++(args.toList.map a.eval++cs)).toArray) w:=by
           unfold execOp;rw[ho];simp only[resolve,hxv,Deferred.ofValue,pure_bind,invoke]
           have:(ps.toArray++Array.map a.eval args++cs.toArray)=(ps++(args.toList.map a.eval++cs)).toArray:=by
             apply Array.toList_inj.1;simp
           rw[this];exact he _ w
         unfold Oper.wp;rw[hrun,Oper.upon_enter];refine (hf _ Ec w _ callReg_lt hw0 (fun b hb=>by rw[hbo] at hb;exact hb.elim) hm hi).mono ?_;rintro e w' ⟨v,hs,rfl,hk⟩;refine hQ v w' hs ((KeepBut.of h).trans' hk (fun b hb ⟨z,hz⟩=>?_));have hy:∃y,own E s1 y=some b:=by
           rcases hL.slot hz with ⟨i,j,_,_,h3⟩ | ⟨k,i,q,r,q',F,_,_,_,_,h3⟩
           · exact⟨_,h3⟩
           · exact⟨_,h3⟩
         obtain⟨y,hy⟩:=hy;rcases h1.new y b hy with h3 | h3
         · exact h3
         · omega
       · cases hc
   · cases hc
 · cases hc
section
variable {P:Program} {ct:List (Con P)} {xt:List (XCon P)} {Kp:TypeId×Nat->VC}
theorem stepP_ok {o:Oper} {s:St} {K:St->VC} {c:Ctx} {E:Env} {a:Act} {w:World} {Q:Exit->Act->World->Prop} (hP:∀t,(Kp t).den->∀x a w',Shp t.2 x->a.defers=[]->KeepBut c.M c.w0 w'->Q (.panic [{ v:=.iface t.1 x,recovered:=false}]) a w')
   (hv:(stepP P ct xt Kp o s K).den) (h:Inv c E s a w):o.wp P a w (fun a' w'=>∃s' E',Inv c E' s' a' w'/\(K s').den) Q:=by
 unfold stepP at hv;split at hv
 · rename_i x ho;split at hv
   · rename_i t l hx;have h1:=h.ev x;rw[hx] at h1;obtain⟨vs,hxv,hvs⟩:=h1;unfold Oper.wp;have hrun:(execOp a.eval o).run P w=.halt (.panic (.iface t (.agg vs.toArray))) w:=by
       unfold execOp;rw[ho];simp only[hxv,Instr.panic,Sem.run_bind];rfl
     rw[hrun,Oper.upon_panic];cases hb:l.all SV.one with
     | false=>rw[hb] at hv;exact hv.elim
     | true=>
       rw[hb] at hv;exact hP _ hv _ a w ⟨vs,rfl,hvs.length,hvs.one hb⟩ h.defers (KeepBut.of h)
   · exact hv.elim
 · rename_i x args ts ho;split at hv
   · exact leads_step K hv c E a w h Q
   · split at hv
     · rename_i p t hx;rcases hv with ⟨hp,hv⟩ | hv
       · split at hx
         · rename_i f caps hf;exact xcall_ok (ts:=ts) (pre:=[]) ho (.inl ⟨hf,rfl⟩) hx hp h (fun x w' hs hk=>hP t hv x a w' hs h.defers hk)
         · rename_i f pre hf;exact xcall_ok (ts:=ts) (caps:=[]) ho (.inr ⟨hf,rfl⟩) hx hp h (fun x w' hs hk=>hP t hv x a w' hs h.defers hk)
         · cases hx
       · exact leads_step K hv c E a w h Q
     · exact leads_step K hv c E a w h Q
 · exact leads_step K hv c E a w h Q
def exP (P:Program) (ct:List (Con P)) (xt:List (XCon P)) (Kp:TypeId×Nat->VC) (ops:Array Oper):List Oper->St->(St->VC)->VC
 | [],s,K=>K s
 | o::r,s,K=>match o.guard with
   | none=>stepP P ct xt Kp o s (fun s'=>exP P ct xt Kp ops r s' K)
   | some _=>exL P ct ops (o::r) s K
theorem exP_ok {ops:Array Oper} {Q:Exit->Act->World->Prop} {K:St->VC} {c:Ctx} (hK:∀s E a w,Inv c E s a w->(K s).den->Q .normal a w) (hP:∀t,(Kp t).den->∀x a w',Shp t.2 x->a.defers=[]->KeepBut c.M c.w0 w'->Q (.panic [{ v:=.iface t.1 x,recovered:=false}]) a w') :
   ∀(l:List Oper) (s:St),(exP P ct xt Kp ops l s K).den->∀E a w,Inv c E s a w->wpList P ops Q l a w
 | [],s,hv,E,a,w,h=>hK s E a w h hv
 | o::r,s,hv,E,a,w,h=>by
   unfold exP at hv;split at hv
   · rename_i hg;unfold wpList;rw[if_pos (by simp [Region.wanted,hg])]
     left
     exact Oper.wp_mono (fun a' w' ⟨s',E',h1,h2⟩=>exP_ok hK hP r s' h2 E' a' w' h1) (stepP_ok hP hv h)
   · exact exL_ok hK _ s hv E a w h
end
inductive X where
 | normal | exit (id:Nat) | ret
def X.of:X->Exit
 | .normal=>.normal
 | .exit id=>.exit id
 | .ret=>.ret
def key:Code->Option Nat
 | .region id _ _=>some id
 | .seq a b=>match key a with
   | some k=>some k
   | none=>key b
 | .cond _ a b=>match key a with
   | some k=>some k
   | none=>key b
 | .block _ c=>key c
 | .loop c=>key c
 | _=>none
def leVC (lent:Nat×Nat) (s t:St) (extra:Prop):VC:=
 match leM lent.1 lent.2 s s.fr t with
 | some ps=>.pr (conj (extra::ps))
 | none=>.f
def St.lit (s:St) (c:Operand) (b:Bool):St:=match c with
 | .tmp d=>s.put (some d) (litB b)
 | _=>s
theorem Inv.found {c:Ctx} {E:Env} {s:St} {a:Act} {w:World} (h:Inv c E s a w) {o:Operand} {q b:Bool} (hq:s.ev o=.bool q) (e:q=b):Inv c E (s.lit o b) a w:=by
 cases o with
 | tmp d=>
   have hd:s.fr[d]?=some (.bool q):=by
     have hq:s.fr.getD d .un=.bool q:=hq;rw[List.getD_eq_getElem?_getD] at hq;cases hf:s.fr[d]? with
     | none=>rw[hf] at hq;cases hq
     | some x=>rw[hf] at hq;exact congrArg some hq
   subst e;exact (h.relit hd).1
 | _=>exact h
def liveN:List Row->Nat
 | []=>0
 | r::l=>(bif Nat.beq r.st 0 then 1 else 0)+liveN l
def wouldFreeze (ops:Array Oper) (s:St):Bool:=callsGo ops.toList&&!(Nat.beq (liveN (preF (looksAll ops ops.toList) s).rw) (liveN s.rw))
def meetM (P:Program) (ct:List (Con P)) (ops:Array Oper) (draw:Bool) (s:St) (K:St->VC):Option VC:=
 bif !draw&&wouldFreeze ops s then none else exM P ct ops draw s K
def runC (P:Program) (ct:List (Con P)) (xt:List (XCon P)) (Kp:TypeId×Nat->VC) (L:Nat->Option LK) (lent:Nat×Nat):Code->(X->St->VC)->St->VC
 | .skip,K,s=>K .normal s
 | .region _ ops draw,K,s=>forceSt s fun s=>match meetM P ct ops draw s (K .normal) with
   | some V=>V
   | none=>bif draw then exDraw2 P ct ops s (K .normal) else exP P ct xt Kp ops ops.toList s (K .normal)
 | .seq a b,K,s=>runC P ct xt Kp L lent a (fun x s'=>match x with | .normal=>runC P ct xt Kp L lent b K s' | .exit id=>K (.exit id) s' | .ret=>K .ret s') s
 | .cond c a b,K,s=>match s.ev c with
   | .tt=>runC P ct xt Kp L lent a K s
   | .ff=>runC P ct xt Kp L lent b K s
   | .bool q=>.and (.imp (q=true) (runC P ct xt Kp L lent a K (s.lit c true))) (.imp (q=false) (runC P ct xt Kp L lent b K (s.lit c false)))
   | _=>.f
 | .block id c,K,s=>runC P ct xt Kp L lent c (fun x s'=>match x with | .normal=>K .normal s' | .exit i=>(bif Nat.beq i id then K .normal s' else K (.exit i) s') | .ret=>K .ret s') s
 | .exit id,K,s=>K (.exit id) s
 | .ret,K,s=>K .ret s
 | .label _,K,s=>K .normal s
 | .loop c,K,s=>match (key c).bind L with
   | some (.u lu)=>.and (.ex lu.G fun g=>leVC lent s (lu.st 0 s g) (lu.inv 0 s g))
       (allN lu.n fun i=>.all lu.G fun g=>.imp (lu.inv i s g) (runC P ct xt Kp L lent c (fun x s'=>match x with
         | .normal=>bif Nat.blt i lu.n then .ex lu.G fun g'=>leVC lent s' (lu.st (i+1) s g') (lu.inv (i+1) s g') else .f
         | .exit i=>K (.exit i) s'
         | .ret=>K .ret s') (lu.st i s g)))
   | some (.g ls)=>.and (.ex ls.G fun g=>leVC lent s (ls.st s g) (ls.inv s g))
       (.all ls.G fun g=>.imp (ls.inv s g) (runC P ct xt Kp L lent c (fun x s'=>match x with
         | .normal=>.ex ls.G fun g'=>leVC lent s' (ls.st s g') (ls.inv s g'/\ls.μ g'<ls.μ g)
         | .exit i=>K (.exit i) s'
         | .ret=>K .ret s') (ls.st s g)))
   | none=>.f
 | _,_,_=>.f
section
variable {P:Program} {ct:List (Con P)} {xt:List (XCon P)} {Kp:TypeId×Nat->VC} {L:Nat->Option LK} {lent:Nat×Nat}
theorem leVC_ok {c:Ctx} {E:Env} {s t:St} {a:Act} {w:World} {extra:Prop} (hl:(c.lent.length,c.lrow.length)=lent) (hv:(leVC lent s t extra).den) (h:Inv c E s a w):extra/\∃E',Inv c E' t a w:=by
 subst hl;unfold leVC at hv;split at hv
 · rename_i ps hps;have hall:=conj_mem hv;exact⟨hall _ (List.mem_cons_self ..),h.weaken hps (fun p hp=>hall p (List.mem_cons_of_mem _ hp))⟩
 · exact hv.elim
theorem runC_ok {c:Ctx} (hm:P.follows .mixedOrders=true) (hl:(c.lent.length,c.lrow.length)=lent):∀(code:Code) (K:X->St->VC) (Q:Exit->Act->World->Prop),(∀x s E a w,Inv c E s a w->(K x s).den->Q x.of a w)->(∀t,(Kp t).den->∀x a w',Shp t.2 x->a.defers=[]->KeepBut c.M c.w0 w'->Q (.panic [{ v:=.iface t.1 x,recovered:=false}]) a w')->
   ∀(s:St),(runC P ct xt Kp L lent code K s).den->∀E a w,Inv c E s a w->code.wp P Q a w:=by
 intro code
 induction code with
 | skip=>exact fun K Q hK hP s hv E a w h=>wp_skip (hK .normal s E a w h hv)
 | region id ops draw=>
   intro K Q hK hP s hv E a w h;unfold runC at hv;rw[forceSt_eq] at hv;split at hv
   · rename_i V hV;unfold meetM at hV;cases hw:(!draw&&wouldFreeze ops s) with
     | true=>rw[hw] at hV;cases hV
     | false=>rw[hw] at hV;exact exM_ok hm (fun s E a w h hv=>hK .normal s E a w h hv) hV hv h
   cases draw with
   | true=>exact exDraw2_ok hm (fun s E a w h hv=>hK .normal s E a w h hv) hv h
   | false=>exact wp_region_list (exP_ok (fun s E a w h hv=>hK .normal s E a w h hv) hP _ s hv E a w h)
 | seq x y ihx ihy=>
   intro K Q hK hP s hv E a w h;unfold runC at hv;refine wp_seq (ihx _ _ ?_ ?hp s hv E a w h)
   case hp=>exact fun t ht x a w' hs hd hk=>hP t ht x a w' hs hd hk
   intro x s E a w h hv;cases x with
   | normal=>exact ihy K Q hK hP s hv E a w h
   | exit id=>exact hK (.exit id) s E a w h hv
   | ret=>exact hK .ret s E a w h hv
 | cond o x y ihx ihy=>
   intro K Q hK hP s hv E a w h;have h1:=h.ev o;unfold runC at hv;split at hv
   · rename_i ho;rw[ho] at h1;exact wp_cond_true h1 (ihx K Q hK hP s hv E a w h)
   · rename_i ho;rw[ho] at h1;exact wp_cond_false h1 (ihy K Q hK hP s hv E a w h)
   · rename_i q ho;rw[ho] at h1;exact wp_cond_split h1 (fun e=>ihx K Q hK hP _ (hv.1 e) E a w (h.found ho e)) (fun e=>ihy K Q hK hP _ (hv.2 e) E a w (h.found ho e))
   · exact hv.elim
 | block id x ih=>
   intro K Q hK hP s hv E a w h;unfold runC at hv;refine wp_block (ih _ _ ?_ ?hp s hv E a w h)
   case hp=>exact fun t ht x a w' hs hd hk=>hP t ht x a w' hs hd hk
   intro x s E a w h hv;cases x with
   | normal=>exact hK .normal s E a w h hv
   | exit i=>
     show if i=id then Q .normal a w else Q (.exit i) a w
     cases hb:Nat.beq i id with
     | true=>
       rw[if_pos (Nat.eq_of_beq_eq_true hb)];simp only[hb] at hv;exact hK .normal s E a w h hv
     | false=>
       rw[if_neg (fun e=>by subst e;simp at hb)];simp only[hb] at hv;exact hK (.exit i) s E a w h hv
   | ret=>exact hK .ret s E a w h hv
 | loop x ih=>
   intro K Q hK hP s hv E a w h;unfold runC at hv;split at hv
   · rename_i lu hls;obtain⟨⟨g0,hv1⟩,hv2⟩:=hv;obtain⟨hi0,E0',h0⟩:=leVC_ok hl hv1 h;refine wp_loop_ghost (fun n a w=>∃i g,lu.n-i=n/\i<=lu.n/\lu.inv i s g/\∃E,Inv c E (lu.st i s g) a w) (lu.n-0) ⟨0,g0,rfl,Nat.zero_le _,hi0,E0',h0⟩ ?_;rintro n a w ⟨i,g,hn,hin,hi,E,hE⟩;refine ih _ _ ?_ ?hp (lu.st i s g) (allN_den hv2 i hin g hi) E a w hE
     case hp=>exact fun t ht x a w' hs hd hk=>hP t ht x a w' hs hd hk
     intro x s' E' a' w' h' hv';cases x with
     | normal=>
       cases hb:Nat.blt i lu.n with
       | false=>simp only[hb] at hv';exact hv'.elim
       | true=>
         simp only[hb] at hv';have hlt:i<lu.n:=Nat.le_of_ble_eq_true hb;obtain⟨g',hv'⟩:=hv';obtain⟨h4,h6⟩:=leVC_ok hl hv' h';exact⟨lu.n-(i+1),by omega,i+1,g',rfl,hlt,h4,h6⟩
     | exit i=>exact hK (.exit i) s' E' a' w' h' hv'
     | ret=>exact hK .ret s' E' a' w' h' hv'
   · rename_i ls hls;obtain⟨⟨g0,hv1⟩,hv2⟩:=hv;obtain⟨hi0,E0',h0⟩:=leVC_ok hl hv1 h;refine wp_loop_ghost (fun n a w=>∃g,ls.μ g=n/\ls.inv s g/\∃E,Inv c E (ls.st s g) a w) (ls.μ g0) ⟨g0,rfl,hi0,E0',h0⟩ ?_;rintro n a w ⟨g,hn,hi,E,hE⟩;refine ih _ _ ?_ ?hp (ls.st s g) (hv2 g hi) E a w hE
     case hp=>exact fun t ht x a w' hs hd hk=>hP t ht x a w' hs hd hk
     intro x s' E' a' w' h' hv';cases x with
     | normal=>
       obtain⟨g',hv'⟩:=hv';obtain⟨⟨h4,h5⟩,h6⟩:=leVC_ok hl hv' h';exact⟨ls.μ g',by omega,g',rfl,h4,h6⟩
     | exit i=>exact hK (.exit i) s' E' a' w' h' hv'
     | ret=>exact hK .ret s' E' a' w' h' hv'
   · exact hv.elim
 | exit id=>exact fun K Q hK hP s hv E a w h=>wp_exit (hK (.exit id) s E a w h hv)
 | ret=>exact fun K Q hK hP s hv E a w h=>wp_ret (hK .ret s E a w h hv)
 | label l=>exact fun K Q hK hP s hv E a w h=>wp_label (hK .normal s E a w h hv)
 | _=>exact fun K Q hK hP s hv E a w h=>hv.elim
def resOne (P:Program) (s:St):ResultVar->Option SV
 | .tmp t=>some (s.fr.getD t .un)
 | .cell t ty=>match cellsAt s (s.fr.getD t .un) with
   | some (none,l)=>takeAt P ty l
   | _=>none
def resAll (P:Program) (s:St):List ResultVar->Option (List SV)
 | []=>some []
 | r::l=>match resOne P s r,resAll P s l with
   | some x,some xs=>some (x::xs)
   | _,_=>none
def resV:List SV->SV
 | [x]=>x
 | l=>.tup l
def outVC (lent:Nat×Nat) (s:St) (x:SV) (extra:List Prop) (out:SV) (m':St):VC:=
 match leM lent.1 lent.2 s [x] ⟨[out],m'.bx,m'.rw⟩ with
 | some ps=>.pr (conj (extra++ps))
 | none=>.f
def retVC (P:Program) (fn:Func) (s:St) (K:St->SV->VC):VC:=
 match resAll P s fn.results.toList with
 | some l=>K s (resV l)
 | none=>.f
def startSt (fn:Func) (ins:List SV) (m:St):St:=⟨ins++List.replicate (fn.ntmps-ins.length) .un,m.bx,m.rw⟩
def allLt:List Row->Bool
 | []=>true
 | r::l=>r.lt&&allLt l
theorem allLt_get:∀{l:List Row},allLt l=true->∀(j:Nat) (r:Row),l[j]?=some r->r.lt=true
 | [],_,j,r,h=>by simp at h
 | q::l,h,j,r,hr=>by
   simp only[allLt,Bool.and_eq_true] at h;cases j with
   | zero=>simp at hr;subst hr;exact h.1
   | succ j=>exact allLt_get h.2 j r (by simpa using hr)
mutual
def knowSV:SV->VC->VC
 | .int k n,v=>knowInt k n v
 | .str s,v=>.imp (s.size<=140737488351232) v
 | .sl e ds,v=>.imp (WFl e ds) v
 | .agg l,v=>knowIns l v
 | _,v=>v
def knowIns:List SV->VC->VC
 | [],v=>v
 | x::l,v=>knowSV x (knowIns l v)
end
def knowRows:List Row->VC->VC
 | [],v=>v
 | r::l,v=>bif Nat.beq r.st 0&&r.e.solid then .imp (WFl r.e.ty r.ds) (knowRows l v) else knowRows l v
def knowBoxes:List (TypeId×List SV)->VC->VC
 | [],v=>v
 | p::l,v=>knowIns p.2 (knowBoxes l v)
mutual
theorem knowSV_ok {S:Nat->Prop} {E:Env} {w:World}:∀{x:SV} {v:VC} {u:Value},(knowSV x v).den->RelV S E w x u->v.den
 | .int _ _,_,_,h,h1=>knowInt_ok h h1.2
 | .str _,_,_,h,h1=>h h1.2
 | .sl _ _,_,_,h,h1=>by
   obtain⟨ds,h2,h3,h4⟩:=Rep.wf h1;simp at h2;subst h2;exact h ⟨h3,h4⟩
 | .agg _,_,_,h,⟨_,_,h2⟩=>knowIns_ok h h2
 | .un,_,_,h,_=>h
 | .tt,_,_,h,_=>h
 | .ff,_,_,h,_=>h
 | .bool _,_,_,h,_=>h
 | .raw _,_,_,h,_=>h
 | .nil,_,_,h,_=>h
 | .own _,_,_,h,_=>h
 | .tup _,_,_,h,_=>h
 | .bp _ _,_,_,h,_=>h
 | .rp _ _ _ _ _,_,_,h,_=>h
 | .ptr _ _ _,_,_,h,_=>h
 | .fn _ _,_,_,h,_=>h
 | .nilp,_,_,h,_=>h
 | .ifc _ _,_,_,h,_=>h
 | .bf _ _,_,_,h,_=>h
 | .hs _ _,_,_,h,_=>h
 | .bsl _ _,_,_,h,_=>h
 | .bptr _ _ _,_,_,h,_=>h
 | .arr _ _,_,_,h,_=>h
theorem knowIns_ok {S:Nat->Prop} {E:Env} {w:World}:∀{l:List SV} {v:VC} {vs:List Value},(knowIns l v).den->RelVs S E w l vs->v.den
 | [],_,_,h,_=>h
 | _::_,_,_,h,⟨_,_,_,h1,h2⟩=>knowIns_ok (knowSV_ok h h1) h2
end
theorem knowRows_ok {S:Nat->Prop} {E:Env} {w:World}:∀{l:List Row} {k:Nat} {v:VC},(knowRows l v).den->(∀(j:Nat) (r:Row),l[j]?=some r->∃u,RowOk S E w (k+j) r u)->v.den
 | [],_,_,h,_=>h
 | r::l,k,v,h,hr=>by
   have next:∀{v:VC},(knowRows l v).den->v.den:=fun h=>knowRows_ok (k:=k+1) h (fun j r' hj=>by
     obtain⟨u,hu⟩:=hr (j+1) r' (by simpa using hj);exact⟨u,by rw[show k+1+j=k+(j+1) from by omega];exact hu⟩)
   unfold knowRows at h;cases hb:Nat.beq r.st 0&&r.e.solid with
   | false=>rw[hb] at h;exact next h
   | true=>
     rw[hb] at h;simp only[Bool.and_eq_true] at hb;obtain⟨u,_,h1,_⟩:=hr 0 r rfl;obtain⟨F,_,h2⟩:=h1 (Nat.eq_of_beq_eq_true hb.1);rw[headT_solid hb.2] at h2;obtain⟨ds,h3,h4,h5⟩:=Rep.wf (Own.frozen (e:=.sl r.tid r.e) (S':=fun _=>True) (fun _ _=>trivial) hb.2 (fun _ _=>trivial) h2);simp at h3;subst h3;exact next (h ⟨h4,h5⟩)
theorem knowBoxes_ok {S:Nat->Prop} {E:Env} {w:World}:∀{l:List (TypeId×List SV)} {v:VC},(knowBoxes l v).den->(∀(j:Nat) (p:TypeId×List SV),l[j]?=some p->∃b,BoxOk S E w p b)->v.den
 | [],_,h,_=>h
 | p::l,v,h,hb=>by
   obtain⟨b,cs,_,h1,_⟩:=hb 0 p rfl;exact knowBoxes_ok (l:=l) (knowIns_ok h h1) (fun j q hj=>hb (j+1) q (by simpa using hj))
def fnVC (P:Program) (ct:List (Con P)) (xt:List (XCon P)) (Kp:TypeId×Nat->VC) (L:Nat->Option LK) (fn:Func) (ins:List SV) (m:St) (K:St->SV->VC):VC:=
 match fn.body with
 | some c=>bif allLt m.rw then knowIns ins (knowRows m.rw (knowBoxes m.bx (runC P ct xt Kp L (m.bx.length,m.rw.length) c (fun x s=>match x with | .exit _=>.f | _=>retVC P fn s K) (startSt fn ins m)))) else .f
 | none=>.f
def resF (tmps:Array Value):ResultVar->Sem Value
 | .tmp t=>pure (tmps.getD t undef)
 | .cell a t=>do loadVar t (<- asAddr (tmps.getD a undef))
theorem results_eq (fn:Func) (tmps:Array Value):results fn tmps=(do
   let vs <- fn.results.mapM (resF tmps)
   pure (if h:vs.size=1 then vs[0] else .tuple vs)):=by
 unfold results
 congr 1
theorem resOne_run {c:Ctx} {E:Env} {s:St} {a:Act} {w:World} (h:Inv c E s a w) {r:ResultVar} {x:SV} (hx:resOne P s r=some x):∃v,(resF a.tmps r).run P w=.ok v w/\RelV (Reg c E s w) E w x v:=by
 cases r with
 | tmp t=>
   simp [resOne] at hx;subst hx
   have:=h.ev (.tmp t)
   simp only[St.ev,List.getD_eq_getElem?_getD] at this;exact⟨_,rfl,this⟩
 | cell t ty=>
   simp only[resOne] at hx;split at hx
   · rename_i l hl;obtain⟨b,off,cs,hv,hc,hr⟩:=cellsAt_rel h hl trivial (h.ev (.tmp t));obtain⟨v,h1,h2⟩:=takeAt_run hx hc hr;refine⟨v,?_,h2⟩;have hv:a.tmps.getD t undef=.pointer (some ⟨b,off,none⟩):=hv;simp only[Instr.loadAt,Instr.sureAddr,Sem.run_bind,Sem.run_pure,Result.andThen_ok] at h1;simp only[resF,hv,asAddr,Sem.run_bind,Sem.run_pure,Result.andThen_ok];exact h1
   · cases hx
theorem resAll_run {c:Ctx} {E:Env} {s:St} {a:Act} {w:World} (h:Inv c E s a w):∀{rs:List ResultVar} {l:List SV},resAll P s rs=some l->∃vs,(rs.mapM (resF a.tmps)).run P w=.ok vs w/\RelVs (Reg c E s w) E w l vs
 | [],l,hl=>by
   simp [resAll] at hl;subst hl;exact⟨[],by simp,rfl⟩
 | r::rs,l,hl=>by
   unfold resAll at hl;split at hl
   · rename_i x xs h1 h2;simp at hl;subst hl;obtain⟨v,h3,h4⟩:=resOne_run h h1;obtain⟨vs,h5,h6⟩:=resAll_run h h2;refine⟨v::vs,?_,v,vs,rfl,h4,h6⟩;rw[List.mapM_cons];simp only[Sem.run_bind,h3,h5,Result.andThen_ok,Sem.run_pure]
   · cases hl
theorem results_rel {c:Ctx} {E:Env} {s:St} {a:Act} {w:World} {fn:Func} (h:Inv c E s a w) {l:List SV} (hl:resAll P s fn.results.toList=some l):∃v,(results fn a.tmps).run P w=.ok v w/\RelV (Reg c E s w) E w (resV l) v:=by
 obtain⟨vs,h1,h2⟩:=resAll_run h hl;have hrun:(results fn a.tmps).run P w=.ok (if h:vs.toArray.size=1 then vs.toArray[0] else .tuple vs.toArray) w:=by
   rw[results_eq,Array.mapM_eq_mapM_toList];simp only[map_eq_pure_bind,Sem.run_bind,h1,Result.andThen_ok,Sem.run_pure]
 refine⟨_,hrun,?_⟩
 match l,vs,h2 with
 | [],vs,h2=>
   rw[show vs=[] from h2];exact⟨[],rfl,rfl⟩
 | [x],_,⟨v,vs',e,h3,h4⟩=>
   rw[show vs'=[] from h4] at e;subst e;exact h3
 | x::y::l,_,⟨v,_,e,h3,v2,vs2,e2,h4,h5⟩=>
   subst e2;subst e;rw[dif_neg (by simp)];exact⟨_,rfl,v,_,rfl,h3,v2,vs2,rfl,h4,h5⟩
theorem fn_run {K0:St->SV->VC} (hm:P.follows .mixedOrders=true) {f:FuncId} {fn:Func} (hf:P.funcs[f]?=some fn) {ins:List SV} {m:St} {S:Nat->Prop} {E:Env} {w:World} {vs:List Value}
   (hS:∀b,S b->b<w.heap.size) (hw0:E.w0=w) (hbo:∀b,E.bo b->b<w.heap.size/\∀x,own E m x≠some b) (hmem:MemOk S E m w) (hins:RelVs S E w ins vs) {R:Ending->World->Prop}
   (hK0:∀s E1 (a:Act) w' x v,Inv ⟨w,S,fun b=>∃x,own E m x=some b,E.bx,E.rw⟩ E1 s a w'->RelV (Reg ⟨w,S,fun b=>∃x,own E m x=some b,E.bx,E.rw⟩ E1 s w') E1 w' x v->(K0 s x).den->R (.returned v) w')
   (hP:∀t,(Kp t).den->∀x w',Shp t.2 x->KeepBut (fun b=>∃x,own E m x=some b) w w'->R (.panicked [{ v:=.iface t.1 x,recovered:=false}]) w') (hv:(fnVC P ct xt Kp L fn ins m K0).den):Calls P f vs.toArray w R:=by
 unfold fnVC at hv;split at hv
 · rename_i code hcode;cases hlt:allLt m.rw with
   | false=>rw[hlt] at hv;exact hv.elim
   | true=>
   rw[hlt] at hv;simp only[cond_true] at hv;refine calls_of_wp hf hcode ?_;have hv:=knowBoxes_ok (S:=S) (E:=E) (w:=w) (knowRows_ok (S:=S) (E:=E) (w:=w) (k:=0) (knowIns_ok hv hins) (fun j r hr=>by
     have hj:j<E.rw.length:=by rw[hmem.nrw];exact (List.getElem?_eq_some_iff.1 hr).1
     exact⟨_,by rw[Nat.zero_add];exact hmem.rw j r _ hr (List.getElem?_eq_getElem hj)⟩)) (fun j p hp=>by
     have hj:j<E.bx.length:=by rw[hmem.nbx];exact (List.getElem?_eq_some_iff.1 hp).1
     exact⟨_,hmem.bx j p _ hp (List.getElem?_eq_getElem hj)⟩)
   have hown:∀x,own E (startSt fn ins m) x=own E m x:=fun x=>by cases x<;>rfl
   have hSR:∀b,S b->Reg ⟨w,S,fun b=>∃x,own E m x=some b,E.bx,E.rw⟩ E (startSt fn ins m) w b:=fun b hb=>⟨.inl hb,hS b hb,fun x hx=>(hmem.out x b (by rw[<- hown];exact hx)).1 hb⟩
   have h0:Inv ⟨w,S,fun b=>∃x,own E m x=some b,E.bx,E.rw⟩ E (startSt fn ins m) { tmps:=vs.toArray++Array.replicate (fn.ntmps-vs.toArray.size) undef,defers:=[]} w:=by
     refine⟨rfl,rfl,rfl,Nat.le_refl _,fun _ _ _=>rfl,rfl,?_,hmem.nbx,hmem.nrw,hmem.nfp,?_,?_,?_,?_,fun _ _ h=>h,fun _ _ h=>h,?_,hw0,?_⟩
     · simp only[Array.toList_append,Array.toList_replicate,List.size_toArray];rw[hins.length];exact (hins.mono (fun _ _=>rfl) hSR E.le_refl).append (RelVs.replicate _ _)
     · intro j p b hp hb;exact (hmem.bx j p b hp hb).mono (fun _ _=>rfl) hSR E.le_refl rfl
     · intro j r v hr hv;exact (hmem.rw j r v hr hv).mono (fun _ _=>rfl) hSR E.le_refl (List.getElem?_eq_some_iff.1 hv).1 (fun _ _ _ _ _=>rfl)
     · intro x y b hx hy;exact hmem.inj x y b (by rw[<- hown];exact hx) (by rw[<- hown];exact hy)
     · intro x b hx;exact .inl ⟨x,by rw[<- hown];exact hx⟩
     · intro j k b r hr hl _;rw[allLt_get hlt j r hr] at hl;cases hl
     · intro b hb;obtain⟨h1,h2⟩:=hbo b hb;exact⟨h1,fun⟨x,hx⟩=>h2 x hx⟩
   refine runC_ok (c:=⟨w,S,fun b=>∃x,own E m x=some b,E.bx,E.rw⟩) hm ?_ code _ _ ?_ (fun t ht x a w' hs hd hk=>⟨hd,hP t ht x w' hs hk⟩) (startSt fn ins m) hv _ _ _ h0
   · simp only[hmem.nbx,hmem.nrw]
   · intro x s E1 a w' h hv;have fin:(retVC P fn s K0).den->a.defers=[]/\∃v,(results fn a.tmps).run P w'=.ok v w'/\R (.returned v) w':=by
       intro hv;unfold retVC at hv;split at hv
       · rename_i l hl;obtain⟨v,h1,h2⟩:=results_rel h hl;exact⟨h.defers,v,h1,hK0 s E1 a w' _ v h h2 hv⟩
       · exact hv.elim
     cases x with
     | normal=>exact fin hv
     | exit i=>exact hv.elim
     | ret=>exact fin hv
 · exact hv.elim
theorem MemOk.grow {S S':Nat->Prop} {E:Env} {m m':St} {w:World} (h:MemOk S E m w) (hbx:m'.bx=m.bx) (hrw:m'.rw=m.rw) (hS:∀b,S b->S' b) (hno:∀x b,own E m x=some b->¬S' b):MemOk S' E m' w:=by
 have hown:∀x,own E m' x=own E m x:=fun x=>by cases x<;>simp [own,hrw]
 refine⟨by rw[hbx];exact h.nbx,by rw[hrw];exact h.nrw,by rw[hrw];exact h.nfp,fun j p b hp hb=>?_,fun j r v hr hv=>?_,fun x y b hx hy=>?_,fun x b hx=>?_⟩
 · rw[hbx] at hp;exact (h.bx j p b hp hb).mono (fun _ _=>rfl) hS E.le_refl rfl
 · rw[hrw] at hr;exact (h.rw j r v hr hv).mono (fun _ _=>rfl) hS E.le_refl (List.getElem?_eq_some_iff.1 hv).1 (fun _ _ _ _ _=>rfl)
 · rw[hown] at hx hy;exact h.inj x y b hx hy
 · rw[hown] at hx;exact⟨hno x b hx,(h.out x b hx).2⟩
theorem fn_core {K0:St->SV->VC} (hm:P.follows .mixedOrders=true) {f:FuncId} {fn:Func} (hf:P.funcs[f]?=some fn) {ins:List SV} {m:St} {G:Type} {post:G->Prop} {out:G->SV} {m':G->St}
   (hK0:∀s x,(K0 s x).den->∃g l,(post g\/l=[post g])/\(outVC (m.bx.length,m.rw.length) s x l (out g) (m' g)).den) (hv:(fnVC P ct [] (fun _=>.f) L fn ins m K0).den):Fn P f ins m G post out m':=by
 intro S E w vs hS hw0 hbo hmem hins;refine fn_run hm hf hS hw0 hbo hmem hins ?_ ?hp hv
 case hp=>exact fun _ h=>False.elim h
 intro s E1 a w' x v h h2 hv;obtain⟨g,l,hl,hv⟩:=hK0 _ _ hv;unfold outVC at hv;split at hv
 · rename_i ps hps;have hall:=conj_mem hv;obtain⟨hp0,hp1⟩:=all_append hall;have hpost:post g:=by
     rcases hl with hl | rfl
     · exact hl
     · exact hp0 _ (List.mem_singleton.2 rfl)
   obtain⟨E',hE⟩:=leM_ok (xs:=[x]) (vs:=[v]) h ⟨v,[],rfl,h2,rfl⟩ hps hp1;have hreg:∀b,Reg ⟨w,S,fun b=>∃x,own E m x=some b,E.bx,E.rw⟩ E' ⟨[out g],(m' g).bx,(m' g).rw⟩ w' b->After S w w' E' (m' g) b:=by
     intro b hb;refine⟨?_,fun x hx=>hb.2.2 x (by cases x<;>exact hx)⟩;rcases hb.1 with h3 | h3
     · exact .inl h3
     · exact .inr ⟨h3,hb.2.1⟩
   obtain⟨u,us,e,h3,_⟩:=hE.fr;simp at e;obtain⟨rfl,_⟩:=e;refine⟨g,v,E',rfl,hpost,⟨KeepBut.of h,fun j b hb=>hE.bx j ?_ b (h.lent j b hb),fun j v hv=>hE.rw j ?_ v (h.lrow j v hv),fun x b hx=>?_,fun j k b r hr hl hb=>hE.fresh j k b r hr hl hb,hE.mem.grow rfl rfl hreg (fun x b hx hS=>hS.2 x (by cases x<;>exact hx))⟩,h3.mono (fun _ _=>rfl) hreg (Env.le_refl _)⟩
   · show j<m.bx.length;rw[<- hmem.nbx];exact (List.getElem?_eq_some_iff.1 hb).1
   · show j<m.rw.length;rw[<- hmem.nrw];exact (List.getElem?_eq_some_iff.1 hv).1
   · obtain⟨y,hy⟩:=hE.got x b (by cases x<;>exact hx);exact h.new y b hy
 · exact hv.elim
theorem fn_ok (hm:P.follows .mixedOrders=true) {f:FuncId} {fn:Func} (hf:P.funcs[f]?=some fn) {ins:List SV} {m:St} {G:Type} {q:G->Prop×SV×St}
   (hv:(fnVC P ct [] (fun _=>.f) L fn ins m (fun s x=>.ex G fun g=>outVC (m.bx.length,m.rw.length) s x [(q g).1] (q g).2.1 (q g).2.2)).den):Fn P f ins m G (fun g=>(q g).1) (fun g=>(q g).2.1) (fun g=>(q g).2.2):=
 fn_core (K0:=fun s x=>.ex G fun g=>outVC (m.bx.length,m.rw.length) s x [(q g).1] (q g).2.1 (q g).2.2) hm hf (fun _ _ ⟨g,h⟩=>⟨g,_,.inr rfl,h⟩) hv
theorem fn_ok0 (hm:P.follows .mixedOrders=true) {f:FuncId} {fn:Func} (hf:P.funcs[f]?=some fn) {ins:List SV} {m:St} {out:SV} {m':St}
   (hv:(fnVC P ct [] (fun _=>.f) L fn ins m (fun s x=>outVC (m.bx.length,m.rw.length) s x [] out m')).den):Fn P f ins m Unit (fun _=>True) (fun _=>out) (fun _=>m'):=
 fn_core (K0:=fun s x=>outVC (m.bx.length,m.rw.length) s x [] out m') hm hf (fun _ _ h=>⟨(),[],.inl trivial,h⟩) hv
end
end
end
def svI:SV->Int
 | .int _ n=>n
 | _=>0
def svN (s:St) (t:Nat):Nat:=(svI (s.fr.getD t .un)).toNat
def rwE (s:St) (k:Nat):Row:=s.rw.getD k ⟨0,.im .raw,[],0,false⟩
def rwD (s:St) (k:Nat):List Dat:=(rwE s k).ds
def svD (s:St) (t:Nat):List Dat:=match s.fr.getD t .un with
 | .own j=>rwD s j
 | .sl _ ds=>ds
 | _=>[]
abbrev I64 (n:Int):Prop:=-9223372036854775808<=n/\n<=9223372036854775807
def guardTy.{u} {α:Type u} (a b:Ty) (k:Option α):Option α:=bif tyEq a b then k else none
theorem guardTy_some.{u} {α:Type u} {a b:Ty} {k:Option α} {x:α} (h:guardTy a b k=some x):a=b/\k=some x:=by
 unfold guardTy at h;cases hc:tyEq a b with
 | true=>rw[hc] at h;exact⟨tyEq_eq hc,h⟩
 | false=>rw[hc] at h;cases h
theorem gT.{u} {α:Type u} {a b:Ty} {k:Option α} {x:α} (h:guardTy a b k=some x):a=b/\k=some x:=guardTy_some h
abbrev Ok0 (P:Program) (f:FuncId) (get:List SV->St->Option Got):Prop:=∀ins m p out m',get ins m=some (p,out,m')->p->Fn P f ins m Unit (fun _=>True) (fun _=>out) (fun _=>m')
abbrev OkG (P:Program) (f:FuncId) (G:Type) (get:List SV->St->Option (Prop×(G->Prop×SV×St))):Prop:=∀ins m p q,get ins m=some (p,q)->p->Fn P f ins m G (fun g=>(q g).1) (fun g=>(q g).2.1) (fun g=>(q g).2.2)
theorem VC.thru {p q:Prop} (h:p) (e:p=q):q:=e▸h
def lookU (k:Nat):List (Nat×SV)->Option SV
 | []=>none
 | (j,x)::r=>bif Nat.beq j k then some x else lookU k r
def hdF (keep:List Nat) (upd:List (Nat×SV)):List SV->Nat->List SV
 | [],_=>[]
 | x::l,k=>(match lookU k upd with
   | some y=>y
   | none=>bif has keep k then x else .un)::hdF keep upd l (k+1)
def hd (s:St) (keep:List Nat) (upd:List (Nat×SV)) (rows:List Row):St:=⟨hdF keep upd s.fr 0,s.bx,rows⟩
def hdb (s:St) (keep:List Nat) (upd:List (Nat×SV)) (bx:List (TypeId×List SV)) (rows:List Row):St:=⟨hdF keep upd s.fr 0,bx,rows⟩
theorem wrap_ok {n:Int} (h1 : -9223372036854775808<=n) (h2:n<=9223372036854775807):IntKind.i64.wrap n=n:=by rw[IntKind.wrap_i64];omega
theorem tdiv_pos {a b:Int} (h:0<=a):a.tdiv b=a / b:=Int.tdiv_eq_ediv_of_nonneg h
theorem tmod_pos {a b:Int} (h:0<=a):a.tmod b=a % b:=Int.tmod_eq_emod_of_nonneg h
section
section
universe u
variable {α:Type u} {k:Option α} {x:α} {a1 b1 a2 b2 a3 b3 a4 b4:Ty}
theorem gT2 (h:guardTy a1 b1 (guardTy a2 b2 k)=some x):a1=b1/\a2=b2/\k=some x:=⟨(gT h).1,gT (gT h).2⟩
theorem gT3 (h:guardTy a1 b1 (guardTy a2 b2 (guardTy a3 b3 k))=some x):a1=b1/\a2=b2/\a3=b3/\k=some x:=⟨(gT h).1,gT2 (gT h).2⟩
theorem gT4 (h:guardTy a1 b1 (guardTy a2 b2 (guardTy a3 b3 (guardTy a4 b4 k)))=some x):a1=b1/\a2=b2/\a3=b3/\a4=b4/\k=some x:=⟨(gT h).1,gT3 (gT h).2⟩
end
theorem Tryz_follows:prog.follows .mixedOrders=true:=by kernel_rfl
section
variable {f:FuncId} {fn:Func} {ins:List SV} {m:St}
theorem fl (ct:List (Con prog)) (L:Nat->Option LK) (hf:prog.funcs[f]?=some fn) {out:SV} {m':St} (hv:(fnVC prog ct [] (fun _=>.f) L fn ins m (fun s x=>outVC (m.bx.length,m.rw.length) s x [] out m')).den):Fn prog f ins m Unit (fun _=>True) (fun _=>out) (fun _=>m'):=
 fn_ok0 Tryz_follows hf hv
theorem fz (ct:List (Con prog)) (hf:prog.funcs[f]?=some fn) {out:SV} {m':St} (hv:(fnVC prog ct [] (fun _=>.f) (fun _=>none) fn ins m (fun s x=>outVC (m.bx.length,m.rw.length) s x [] out m')).den):Fn prog f ins m Unit (fun _=>True) (fun _=>out) (fun _=>m'):=
 fn_ok0 Tryz_follows hf hv
theorem gl (ct:List (Con prog)) (L:Nat->Option LK) (hf:prog.funcs[f]?=some fn) {G:Type} {q:G->Prop×SV×St} (hv:(fnVC prog ct [] (fun _=>.f) L fn ins m (fun s x=>.ex G fun g=>outVC (m.bx.length,m.rw.length) s x [(q g).1] (q g).2.1 (q g).2.2)).den):Fn prog f ins m G (fun g=>(q g).1) (fun g=>(q g).2.1) (fun g=>(q g).2.2):=
 fn_ok Tryz_follows hf hv
theorem gz (ct:List (Con prog)) (hf:prog.funcs[f]?=some fn) {G:Type} {q:G->Prop×SV×St} (hv:(fnVC prog ct [] (fun _=>.f) (fun _=>none) fn ins m (fun s x=>.ex G fun g=>outVC (m.bx.length,m.rw.length) s x [(q g).1] (q g).2.1 (q g).2.2)).den):Fn prog f ins m G (fun g=>(q g).1) (fun g=>(q g).2.1) (fun g=>(q g).2.2):=
 fn_ok Tryz_follows hf hv
theorem en {c:Code} (hf:prog.funcs[f]?=some fn) (hb:fn.body=some c) (hname:(fn.name == "runtime.NumGoroutine")=false:=by kernel_rfl):Enters prog f:=enters hf hname hb
end
end
theorem l6In_vc (n a b:Int) :
 I64 n->I64 a->I64 b->(decide (n>=a)&&decide (n<=b))=(decide (a<=n)&&decide (n<=b)):=by
 simp [ge_iff_le]
def l6In_get (ins:List SV) (m:St):Option Got:=
 match ins,m with
 | [.int .i64 n,.int .i64 a,.int .i64 b],⟨[],[],[]⟩=>some (True,.bool (decide (a<=n)&&decide (n<=b)),St.mk [] [] [])
 | _,_=>none
theorem l6In_ok:Ok0 prog 36 l6In_get:=by
 intro _ _ _ _ _ h hp;unfold l6In_get at h;split at h
 · rename_i n a b;cases h;refine fz [] func36 ?_;apply VC.thru (l6In_vc n a b);kernel_rfl
 · cases h
def l6In_con:Con prog:=.f0 36 [] true l6In_get (en func36 rfl) l6In_ok
def sumW (l:List Dat):Int:=l.foldl (fun n d=>IntKind.i64.wrap (n+d.toInt)) 0
theorem sumW_next (l:List Dat) (i:Nat) (h:i<l.length):sumW (l.take (i+1))=IntKind.i64.wrap (sumW (l.take i)+(l.getD i default).toInt):=by
 have e:l.take (i+1)=l.take i++[l.getD i default]:=by
   rw[List.take_succ,List.getD_eq_getElem?_getD,List.getElem?_eq_getElem h];rfl
 rw[e,sumW,List.foldl_append];rfl
theorem l1Sum_vc (ds:List Dat) :
 WFl (Ty.int i64) ds->(∃x:Nat,x<=ds.length/\ds=ds/\0=sumW (List.take x ds)/\0=(↑x:Int))/\∀x:Nat,x<=ds.length->I64 (↑ds.length:Int)->(decide ((↑x:Int)<(↑ds.length:Int))->(0<=(↑x:Int)/\(↑x:Int)<(↑ds.length:Int))/\(I64 (ds.getD x default).toInt->∃x_1:Nat,(x_1<=ds.length/\ds.length-x_1<ds.length-x)/\ds=ds/\i64.wrap (sumW (List.take x ds)+(ds.getD x default).toInt)=sumW (List.take x_1 ds)/\i64.wrap
 ((↑x:Int)+1)=(↑x_1:Int)))/\(decide ((↑x:Int)<(↑ds.length:Int))=false->sumW (List.take x ds)=sumW ds):=by
 intro hw;have hl:=hw.1;refine⟨⟨0,Nat.zero_le _,rfl,rfl,rfl⟩,fun i hi hb=>⟨fun h=>?_,fun h=>?_⟩⟩
 · rw[decide_eq_true_eq] at h;have hw:IntKind.i64.wrap ((i:Int)+1)=((i+1:Nat):Int):=by rw[wrap_ok (by omega) (by omega)];omega
   refine⟨⟨Int.natCast_nonneg _,h⟩,fun _=>⟨i+1,⟨by omega,by omega⟩,rfl,?_,hw⟩⟩;rw[sumW_next ds i (by omega)]
 · rw[decide_eq_false_iff_not] at h;rw[List.take_of_length_le (by omega)]
def l1Sum_get (ins:List SV) (m:St):Option Got:=
 match ins,m with
 | [.sl (.int .i64) ds],⟨[],[],[]⟩=>some (True,.int .i64 (sumW ds),St.mk [] [] [])
 | _,_=>none
theorem l1Sum_ok:Ok0 prog 149 l1Sum_get:=by
 intro _ _ _ _ _ h hp;unfold l1Sum_get at h;split at h
 · rename_i ds;cases h;refine fl [] (fun k=>bif Nat.beq k 3 then some (.g (⟨Nat,fun s g=>hd s [0] [(3,.int .i64 (sumW (ds.take g))),(4,.int .i64 g)] [],fun _ g=>g<=ds.length,fun g=>ds.length-g⟩)) else none) func149 ?_;apply VC.thru (l1Sum_vc ds);kernel_rfl
 · cases h
def l1Sum_con:Con prog:=.f0 149 [] true l1Sum_get (en func149 rfl) l1Sum_ok
abbrev TPr:Ty:=.st [.int .i64,.int .i64]
abbrev TSum:Ty:=.st [.st [.sl (.sl (.int .i64))],.st [.sl (.int .i64)],.st [.sl TPr,.int .i64,.int .i64],.st [.sl TPr,.int .i64]]
abbrev TEnt:Ty:=.st [.int .i64,.int .i64,.int .i64,TSum]
abbrev TNode:Ty:=.st [.int .i64,.sl TEnt,.int .i64,.int .i64,.int .i64]
abbrev TWord:Ty:=.st [.int .i64,.int .i64,.int .i64,.int .i64,.int .i64,.sl TEnt]
def dec (p:Prop):Bool:=@decide p (Classical.propDecidable p)
@[simp] theorem dec_eq_true {p:Prop}:dec p=true ↔ p:=by simp [dec]
@[simp] theorem dec_eq_false {p:Prop}:dec p=false ↔ ¬p:=by simp [dec]
theorem dec_yes {p:Prop} (h:p):dec p=true:=dec_eq_true.2 h
theorem dec_no {p:Prop} (h:¬p):dec p=false:=dec_eq_false.2 h
theorem dec_iff {p q:Prop} (h:p ↔ q):dec p=dec q:=by rw[propext h]
theorem dec_bool {b:Bool} {p:Prop} (h:b=true ↔ p):b=dec p:=by
 cases b
 · exact (dec_no (fun hp=>by simpa using h.2 hp)).symm
 · exact (dec_yes (h.1 rfl)).symm
theorem nm:(∀{p:Prop} [Decidable p],(decide p=true)=p)/\(∀{p:Prop} [Decidable p],decide p=false ↔ ¬p)/\(∀{p:Prop} [Decidable p],¬¬p ↔ p)/\(∀p:Prop,(True/\p)=p)/\(∀p:Prop,(p/\True)=p)/\
   (∀b:Bool,((!b)=true)=(b=false))/\(∀a b:Bool,((a&&b)=true)=(a=true/\b=true))/\(∀a b:Bool,((a||b)=true)=(a=true\/b=true))/\(∀a b:Bool,(a&&b)=false ↔ a=false\/b=false)/\(∀a b:Bool,(a||b)=false ↔ a=false/\b=false)/\
   (∀{p:Prop},dec p=true ↔ p)/\(∀{p:Prop},dec p=false ↔ ¬p)/\(∀b:Bool,((!b)=false)=(b=true))/\(∀{a:Prop},(a->a) ↔ True)/\(∀{α:Type} (a b:α),(a≠b)=¬(a=b))/\(∀p:Prop,(p->True)=True)/\(∀α:Type,(α->True)=True)/\(∀{α:Type} (a:α),(a=a)=True):=
 ⟨decide_eq_true_eq,decide_eq_false_iff_not,Decidable.not_not,true_and,and_true,Bool.not_eq_true',Bool.and_eq_true,Bool.or_eq_true,fun _ _=>Bool.and_eq_false_iff,fun _ _=>Bool.or_eq_false_iff,dec_eq_true,dec_eq_false,Bool.not_eq_false',imp_self,ne_eq,fun _=>implies_true _,fun _=>implies_true _,eq_self⟩
abbrev iv (l:List Dat) (i:Nat):Int:=(l.getD i default).toInt
abbrev kv (l:List Dat) (i:Nat):List Dat:=(l.getD i default).kids
abbrev fv (l:List Dat) (i f:Nat):Int:=((l.getD i default).f f).toInt
def ints (l:List Dat):List Int:=l.map Dat.toInt
def dInts (l:List Int):List Dat:=l.map .int
theorem ints_dInts (l:List Int):ints (dInts l)=l:=by simp [ints,dInts,Dat.toInt,Function.comp_def]
theorem ints_length (l:List Dat):(ints l).length=l.length:=by simp [ints]
theorem dInts_length (l:List Int):(dInts l).length=l.length:=by simp [dInts]
theorem iv_lt {l:List Dat} {i:Nat} (h:i<l.length):iv l i=(ints l)[i]'(by rw[ints_length];exact h):=by
 simp [iv,ints,List.getD_eq_getElem?_getD,List.getElem?_eq_getElem h]
theorem wfl_dInts {k:IntKind} {l:List Dat} (h:WFl (.int k) l):l=dInts (ints l):=by
 have:∀l:List Dat,(∀x∈l,WF (.int k) x)->l=dInts (ints l):=by
   intro l
   induction l with
   | nil=>intro _;rfl
   | cons x l ih=>
     intro h;obtain⟨n,rfl,_⟩:=h x (List.mem_cons_self ..);show _=_::dInts (ints l);rw[<- ih (fun y hy=>h y (List.mem_cons_of_mem _ hy))];rfl
 exact this l h.2
theorem wfl_get {e:Ty} {l:List Dat} (h:WFl e l) {i:Nat} (hi:i<l.length):WF e (l.getD i default):=by
 rw[List.getD_eq_getElem?_getD,List.getElem?_eq_getElem hi];exact h.2 _ (List.getElem_mem hi)
theorem wf_sl {e:Ty} {d:Dat} (h:WF (.sl e) d):WFl e d.kids/\d=.node d.kids:=by
 obtain⟨ds,rfl,h1,h2⟩:=h;exact⟨⟨h1,h2⟩,rfl⟩
theorem wf_int {k:IntKind} {d:Dat} (h:WF (.int k) d):d=.int d.toInt/\Has k d.toInt:=by
 obtain⟨n,rfl,h⟩:=h;exact⟨rfl,h⟩
theorem wf_bool {d:Dat} (h:WF .bool d):d=.bool d.toBool:=by
 obtain⟨n,rfl⟩:=h;rfl
theorem iv_dInts (l:List Int) (i:Nat) (hi:i<l.length):iv (dInts l) i=l[i]:=by
 simp [iv,dInts,List.getD_eq_getElem?_getD,List.getElem?_eq_getElem hi,Dat.toInt]
theorem getD_set {l:List Dat} {i j:Nat} {x:Dat}:(l.set i x).getD j default=if i=j/\i<l.length then x else l.getD j default:=by
 rw[List.getD_eq_getElem?_getD,List.getD_eq_getElem?_getD,List.getElem?_set];by_cases h1:i=j
 · subst h1;by_cases h2:i<l.length
   · simp [h2]
   · simp [h2]
 · simp [h1]
theorem list_ext_getD {l m:List Dat} (h:l.length=m.length) (hx:∀i,i<l.length->l.getD i default=m.getD i default):l=m:=by
 apply List.ext_getElem h;intro i h1 h2
 have:=hx i h1
 rw[List.getD_eq_getElem?_getD,List.getD_eq_getElem?_getD,List.getElem?_eq_getElem h1,List.getElem?_eq_getElem h2] at this;exact this
theorem take_getD {l:List Dat} {i:Nat} (h:i<l.length):l.take (i+1)=l.take i++[l.getD i default]:=by
 rw[List.take_succ,List.getD_eq_getElem?_getD,List.getElem?_eq_getElem h];rfl
def tab (n:Nat) (f:Nat->Dat):List Dat:=(List.range n).map f
@[simp] theorem tab_length (n:Nat) (f:Nat->Dat):(tab n f).length=n:=by simp [tab]
theorem tab_getD {n:Nat} {f:Nat->Dat} {i:Nat} (h:i<n):(tab n f).getD i default=f i:=by
 simp [tab,List.getD_eq_getElem?_getD,List.getElem?_map,List.getElem?_range h]
theorem tab_of {l:List Dat} {n:Nat} {f:Nat->Dat} (h:l.length=n) (hx:∀i,i<n->l.getD i default=f i):l=tab n f:=
 list_ext_getD (by simp [h]) (fun i hi=>by rw[hx i (by omega),tab_getD (by omega)])
theorem tab_succ (n:Nat) (f:Nat->Dat):tab (n+1) f=tab n f++[f n]:=by simp [tab,List.range_succ]
theorem tab_congr {n:Nat} {f g:Nat->Dat} (h:∀i,i<n->f i=g i):tab n f=tab n g:=tab_of (by simp) (fun i hi=>by rw[tab_getD hi,h i hi])
theorem down_ok {i:Nat} (h:0<i) (hn:i<=140737488355328):IntKind.i64.wrap ((i:Int)-1)=((i-1:Nat):Int):=by rw[wrap_ok (by omega) (by omega)];omega
theorem up_ok {i n:Nat} (h:i<n) (hn:n<=9223372036854775807):IntKind.i64.wrap ((i:Int)+1)=((i+1:Nat):Int):=by rw[wrap_ok (by omega) (by omega)];omega
def RowIn (l:List Dat):Prop:=l.length=8/\∀k,k<8->0<=iv l k/\iv l k<=2000
def RowsTo (rows:List Dat) (n:Nat):Prop:=∀i,i<n->RowIn (kv rows i)/\sumW (kv rows i)=sumW (kv rows 0)/\sumW (kv rows i)<=2000
def RoughIn (rows:List Dat):Prop:=rows.length=3/\RowsTo rows 3
theorem roughNew_vc :
 (∃x:Nat,x<=3/\0=(x:Int)/\([]:List Dat)=tab x fun (x:Nat)=>Dat.node (tab 8 fun (x:Nat)=>Dat.int (0:Int)))/\∀x:Nat,x<=3->(decide ((x:Int)<3)->((8:Int)=8/\0<=(8:Int)/\(8:Int)*(↑(8:Nat):Int)<=281474976710656/\8<=(140737488355328:Int))/\((tab x fun (x:Nat)=>Dat.node (tab 8 fun (x:Nat)=>Dat.int (0:Int))).length+1)*24<=140737488355328/\∃x_1:Nat,(x_1<=3/\3-x_1<3-x)/\i64.wrap ((x:Int)+1)=(x_1:Int)/\(tab x
 fun (x:Nat)=>Dat.node (tab 8 fun (x:Nat)=>Dat.int (0:Int)))++[Dat.node (List.replicate 8 (Dat.int (0:Int)))]=tab x_1 fun (x:Nat)=>Dat.node (tab 8 fun (x:Nat)=>Dat.int (0:Int)))/\(decide ((x:Int)<3)=false->(tab x fun (x:Nat)=>Dat.node (tab 8 fun (x:Nat)=>Dat.int (0:Int)))=tab 3 fun (x:Nat)=>Dat.node (tab 8 fun (x:Nat)=>Dat.int (0:Int))):=by
 have e8:List.replicate 8 (Dat.int 0)=tab 8 fun _=>.int 0:=rfl
 refine⟨⟨0,by omega,rfl,rfl⟩,fun x hx=>⟨fun h=>?_,fun h=>?_⟩⟩
 · have h:=of_decide_eq_true h;have hx:x<3:=by omega
   refine⟨by decide,by rw[tab_length];omega,x+1,⟨by omega,by omega⟩,up_ok hx (by omega),?_⟩;rw[tab_succ x,e8]
 · have h:=of_decide_eq_false h
   have:x=3:=by omega
   rw[this]
def roughNew_get:List SV->St->Option Got
 | [],⟨[],[],[]⟩=>some (True,.agg [.sl (.sl (.int .i64)) (tab 3 fun _=>.node (tab 8 fun _=>.int 0))],St.mk [] [] [])
 | _,_=>none
theorem roughNew_ok:Ok0 prog 101 roughNew_get:=by
 intro _ _ _ _ _ h hp;unfold roughNew_get at h;split at h
 · cases h;refine fl [] (fun k=>bif Nat.beq k 3 then some (.g (⟨Nat,fun s g=>hdb s [0,1] [(2,.int .i64 g)] (s.bx.set 1 (33,[.own 0])) [⟨34,.sl 3 (.im (.int .i64)),tab g (fun _=>.node (tab 8 fun _=>.int 0)),0,false⟩],fun _ g=>g<=3,fun g=>3-g⟩)) else none) func101 ?_;apply VC.thru (roughNew_vc);kernel_rfl
 · cases h
def roughNew_con:Con prog:=.f0 101 [] false roughNew_get (en func101 rfl) roughNew_ok
theorem roughOk_vc (rows:List Dat) :
 WFl (Ty.int i64).sl rows->I64 (rows.length:Int)->(decide ((rows.length:Int)≠3)->dec (RoughIn rows)=false)/\(decide ((rows.length:Int)≠3)=false->(∃x:Nat,(x<=3/\RowsTo rows x)/\rows=rows/\0=(x:Int)/\rows=rows)/\∀x:Nat,x<=3/\RowsTo rows x->(decide ((x:Int)<3)->(0<=(x:Int)/\(x:Int)<(rows.length:Int))/\(I64 (↑(rows.getD x default).kids.length:Int)->(decide ((↑(rows.getD x
 default).kids.length:Int)≠8)->dec (RoughIn rows)=false)/\(decide ((↑(rows.getD x default).kids.length:Int)≠8)=false->(∃x_1:Nat,(x_1<=8/\∀k:Nat,k<x_1->0<=iv (kv rows x) k/\iv (kv rows x) k<=2000)/\rows=rows/\(x:Int)=(x:Int)/\0=(x_1:Int)/\rows=rows)/\∀x_1:Nat,(x_1<=8/\∀k:Nat,k<x_1->0<=iv (kv rows x) k/\iv (kv rows x) k<=2000)->(decide
 ((x_1:Int)<8)->(0<=(x:Int)/\(x:Int)<(rows.length:Int))/\(0<=(x_1:Int)/\(x_1:Int)<(↑(rows.getD x default).kids.length:Int))/\(I64 ((rows.getD x default).kids.getD x_1 default).toInt->True/\((!(decide (0<=((rows.getD x default).kids.getD x_1 default).toInt)&&decide (((rows.getD x default).kids.getD x_1 default).toInt<=(2000:Int))))=true->dec (RoughIn rows)=false)/\((!(decide (0<=((rows.getD x
 default).kids.getD x_1 default).toInt)&&decide (((rows.getD x default).kids.getD x_1 default).toInt<=(2000:Int))))=false->∃x_2:Nat,((x_2<=8/\∀k:Nat,k<x_2->0<=iv (kv rows x) k/\iv (kv rows x) k<=2000)/\8-x_2<8-x_1)/\rows=rows/\(x:Int)=(x:Int)/\i64.wrap ((x_1:Int)+1)=(x_2:Int)/\rows=rows)))/\(decide ((x_1:Int)<8)=false->((0<=(x:Int)/\(x:Int)<(rows.length:Int))/\True/\(I64 (sumW (rows.getD x
 default).kids)->(0<=(0:Int)/\0<(rows.length:Int))/\True/\(I64 (sumW (rows.getD 0 default).kids)->(decide (sumW (rows.getD x default).kids≠sumW (rows.getD 0 default).kids)=false->(0<=(x:Int)/\(x:Int)<(rows.length:Int))/\True)/\True)))/\((decide (sumW (rows.getD x default).kids≠sumW (rows.getD 0 default).kids)||decide (sumW (rows.getD x default).kids > (2000:Int)))=true->dec (RoughIn
 rows)=false)/\((decide (sumW (rows.getD x default).kids≠sumW (rows.getD 0 default).kids)||decide (sumW (rows.getD x default).kids > (2000:Int)))=false->∃x_2:Nat,((x_2<=3/\RowsTo rows x_2)/\3-x_2<3-x)/\rows=rows/\i64.wrap ((x:Int)+1)=(x_2:Int)/\rows=rows)))))/\(decide ((x:Int)<3)=false->dec (RoughIn rows)=true)):=by
 intro hw hl;simp only[iv,kv,fv,nm];refine⟨fun h hr=>h (by have:=hr.1;omega),fun h3=>⟨⟨0,⟨by omega,fun i hi=>by omega⟩,rfl⟩,fun x hx=>⟨fun hlt=>⟨by omega,fun _=>⟨fun h8 hr=>?_,fun h8=>⟨⟨0,⟨by omega,fun k hk=>by omega⟩,rfl⟩,fun g hg=>⟨fun hk=>⟨by omega,by omega,fun _=>⟨fun hn hr=>?_,fun hn=>⟨g+1,⟨⟨by omega,fun k hk2=>?_⟩,by omega⟩,up_ok (n:=8) (by omega) (by omega)⟩⟩⟩,fun hk=>?_⟩⟩⟩⟩,fun hlt=>?_⟩⟩⟩
 · have:=(hr.2 x (by omega)).1.1
   simp only[kv] at this;omega
 · have:=(hr.2 x (by omega)).1.2 g (by omega)
   simp only[kv,iv] at this;omega
 · rcases Nat.lt_or_ge k g with h | h
   · exact hg.2 k h
   · rw[show k=g from by omega];exact hn
 · have hg8:g=8:=by omega
   have hrow:RowIn (kv rows x):=⟨by simp only[kv];omega,fun k hk=>hg.2 k (by omega)⟩;refine⟨⟨by omega,fun _=>⟨by omega,fun _ _=>by omega⟩⟩,fun h hr=>?_,fun h=>⟨x+1,⟨⟨by omega,fun i hi=>?_⟩,by omega⟩,up_ok (n:=3) (by omega) (by omega)⟩⟩
   · have:=(hr.2 x (by omega)).2
     simp only[kv] at this;rcases h with h | h
     · exact h this.1
     · omega
   · rcases Nat.lt_or_ge i x with h1 | h1
     · exact hx.2 i h1
     · rw[show i=x from by omega];exact⟨hrow,by have:=h.1;simp only[kv];simpa using this,by have:=h.2;simp only[kv];omega⟩
 · exact⟨by omega,fun i hi=>hx.2 i (by omega)⟩
def roughOk_get:List SV->St->Option Got
 | [.agg [.sl (.sl (.int .i64)) rows]],⟨[],[],[]⟩=>some (True,.bool (dec (RoughIn rows)),St.mk [] [] [])
 | _,_=>none
theorem roughOk_ok:Ok0 prog 144 roughOk_get:=by
 intro _ _ _ _ _ h hp;unfold roughOk_get at h;split at h
 · rename_i rows;cases h;refine fl [l6In_con,l1Sum_con] (fun k=>bif Nat.beq k 4 then some (.g (⟨Nat,fun s g=>hdb s [0,1] [(3,.int .i64 g)] s.bx s.rw,fun _ g=>g<=3/\RowsTo rows g,fun g=>3-g⟩)) else bif Nat.beq k 9 then some (.g (⟨Nat,fun s g=>hdb s [0,1,3] [(4,.int .i64 g)] s.bx s.rw,fun s g=>g<=8/\∀k,k<g->0<=iv (kv rows (svN s 3)) k/\iv (kv rows (svN s 3)) k<=2000,fun g=>8-g⟩)) else none) func144 ?_;apply VC.thru (roughOk_vc rows);kernel_rfl
 · cases h
def roughOk_con:Con prog:=.f0 144 [] true roughOk_get (en func144 rfl) roughOk_ok
end
end E
end Go.Proofs.YtlfohjkcajaebaaGreat
