/- Texts that the claim stands on, part 1. -/
import Derived.Below
import Derived.Tactics
import Derived.WalkKit
import Derived.KernelRfl
import Derived.Deep.OwnRows
import Derived.Maps.AppendAt
import Derived.Lib.ConvBytes
import Derived.Deep.MidRow
import Derived.Laws.StructEq
import Derived.Laws.Tables
import Derived.Laws.Slices
import Derived.Great.BuildSlice
import Derived.Laws.OwnMore
set_option linter.all false
namespace Go.Proofs.YtlfohjkcajaebaaGreat
open Go Go.RowKit
open Go.IntKind (i64)
namespace E
noncomputable section
set_option maxRecDepth 100000
inductive Ty where
 | int (k:IntKind) | bool | str | raw | sl (e:Ty) | st (fs:List Ty)
inductive Dat where
 | int (n:Int) | bool (b:Bool) | str (s:ByteArray) | raw (v:Value) | node (l:List Dat)
instance:Inhabited Dat:=⟨.node []⟩
def Dat.toInt:Dat->Int | .int n=>n | _=>0
def Dat.toBool:Dat->Bool | .bool b=>b | _=>false
def Dat.toStr:Dat->ByteArray | .str s=>s | _=>⟨#[]⟩
def Dat.toRaw:Dat->Value | .raw v=>v | _=>undef
def Dat.kids:Dat->List Dat | .node l=>l | _=>[]
def Dat.f (d:Dat) (i:Nat):Dat:=d.kids.getD i default
mutual
def Ty.size:Ty->Nat
 | .st fs=>Ty.sizes fs
 | _=>1
def Ty.sizes:List Ty->Nat
 | []=>0
 | f::fs=>f.size+Ty.sizes fs
end
def lo:IntKind->Int
 | .i8=>-128 | .i16=>-32768 | .i32=>-2147483648 | .i64=>-9223372036854775808 | _=>0
def hi:IntKind->Int
 | .i8=>127 | .i16=>32767 | .i32=>2147483647 | .i64=>9223372036854775807 | .u8=>255 | .u16=>65535 | .u32=>4294967295 | .u64=>18446744073709551615
def Has (k:IntKind) (n:Int):Prop:=lo k<=n/\n<=hi k
theorem has_wrap (k:IntKind) (n:Int):Has k (k.wrap n):=by
 cases k<;>simp only[Has,lo,hi,IntKind.wrap,IntKind.signed,IntKind.bits]<;>simp<;>(try split)<;>omega
mutual
def Rep (S:Nat->Prop) (w:World):Ty->List Value->Dat->Prop
 | .int k,cs,d=>∃n,cs=[.int k n]/\d=.int n/\Has k n
 | .bool,cs,d=>∃b,cs=[.bool b]/\d=.bool b
 | .str,cs,d=>∃s,cs=[.string s]/\d=.str s/\s.size<=140737488351232
 | .raw,cs,d=>∃v,cs=[v]/\d=.raw v/\v.oneCell'=true
 | .sl e,cs,d=>∃a n c ds,cs=[.slice a n c]/\d=.node ds/\ds.length=n/\n<=c/\n<=140737488355328/\
     (n≠0->∃b off,a=some ⟨b,off,none⟩/\S b/\∀i x,ds[i]?=some x->∃es,w.rangeAt b (off+i*e.size) es/\Rep S w e es x)
 | .st fs,cs,d=>∃ds,d=.node ds/\Reps S w fs cs ds
def Reps (S:Nat->Prop) (w:World):List Ty->List Value->List Dat->Prop
 | [],cs,ds=>cs=[]/\ds=[]
 | f::fs,cs,ds=>∃c1 c2 d1 d2,cs=c1++c2/\ds=d1::d2/\Rep S w f c1 d1/\Reps S w fs c2 d2
end
mutual
theorem Rep.length {S:Nat->Prop} {w:World}:∀{t:Ty} {cs:List Value} {d:Dat},Rep S w t cs d->cs.length=t.size
 | .int _,_,_,⟨_,h,_⟩=>by rw[h];rfl
 | .bool,_,_,⟨_,h,_⟩=>by rw[h];rfl
 | .str,_,_,⟨_,h,_⟩=>by rw[h];rfl
 | .raw,_,_,⟨_,h,_⟩=>by rw[h];rfl
 | .sl _,_,_,⟨_,_,_,_,h,_⟩=>by rw[h];rfl
 | .st _,_,_,⟨_,_,h⟩=>by rw[Ty.size];exact Reps.length h
theorem Reps.length {S:Nat->Prop} {w:World}:∀{ts:List Ty} {cs:List Value} {ds:List Dat},Reps S w ts cs ds->cs.length=Ty.sizes ts
 | [],_,_,⟨h,_⟩=>by rw[h];rfl
 | _::_,_,_,⟨_,_,_,_,h,_,h1,h2⟩=>by rw[h,List.length_append,Rep.length h1,Reps.length h2,Ty.sizes]
end
mutual
def WF:Ty->Dat->Prop
 | .int k,d=>∃n,d=.int n/\Has k n
 | .bool,d=>∃b,d=.bool b
 | .str,d=>∃s,d=.str s/\s.size<=140737488351232
 | .raw,d=>∃v,d=.raw v
 | .sl e,d=>∃ds,d=.node ds/\ds.length<=140737488355328/\∀x∈ds,WF e x
 | .st fs,d=>∃ds,d=.node ds/\WFs fs ds
def WFs:List Ty->List Dat->Prop
 | [],ds=>ds=[]
 | f::fs,ds=>∃d l,ds=d::l/\WF f d/\WFs fs l
end
def WFl (e:Ty) (ds:List Dat):Prop:=ds.length<=140737488355328/\∀x∈ds,WF e x
mutual
theorem Rep.wf {S:Nat->Prop} {w:World}:∀{t:Ty} {cs:List Value} {d:Dat},Rep S w t cs d->WF t d
 | .int _,_,_,⟨n,_,h,h'⟩=>⟨n,h,h'⟩
 | .bool,_,_,⟨b,_,h⟩=>⟨b,h⟩
 | .str,_,_,⟨s,_,h,h'⟩=>⟨s,h,h'⟩
 | .raw,_,_,⟨v,_,h,_⟩=>⟨v,h⟩
 | .sl e,_,_,⟨a,n,c,ds,h1,h2,h3,h4,h5,h6⟩=>⟨ds,h2,by omega,fun x hx=>by
     have hn:n≠0:=by
       have:=List.length_pos_of_mem hx
       omega
     obtain⟨b,off,_,_,hc⟩:=h6 hn;obtain⟨i,hi⟩:=List.getElem?_of_mem hx;obtain⟨es,_,hr⟩:=hc i x hi;exact Rep.wf hr⟩
 | .st _,_,_,⟨ds,h1,h2⟩=>⟨ds,h1,Reps.wf h2⟩
theorem Reps.wf {S:Nat->Prop} {w:World}:∀{ts:List Ty} {cs:List Value} {ds:List Dat},Reps S w ts cs ds->WFs ts ds
 | [],_,_,⟨_,h⟩=>h
 | _::_,_,_,⟨_,_,d1,d2,_,h,h1,h2⟩=>⟨d1,d2,h,Rep.wf h1,Reps.wf h2⟩
end
def Keeps (S:Nat->Prop) (w w':World):Prop:=∀b,S b->w'.heap[b]?=w.heap[b]?
theorem range_keeps {S:Nat->Prop} {w w':World} {b off:Nat} {cs:List Value} (h:w.rangeAt b off cs) (hk:Keeps S w w') (hb:S b):w'.rangeAt b off cs:=
 fun i v hv=>(World.cell?_of_block (w:=w) (a:=⟨b,off+i,none⟩) (hk b hb)).trans (h i v hv)
mutual
theorem Rep.mono {S S':Nat->Prop} {w w':World} (hk:Keeps S w w') (hS:∀b,S b->S' b):∀{t:Ty} {cs:List Value} {d:Dat},Rep S w t cs d->Rep S' w' t cs d
 | .int _,_,_,h=>h
 | .bool,_,_,h=>h
 | .str,_,_,h=>h
 | .raw,_,_,h=>h
 | .sl e,_,_,⟨a,n,c,ds,h1,h2,h3,h4,h5,h6⟩=>⟨a,n,c,ds,h1,h2,h3,h4,h5,fun hn=>by
     obtain⟨b,off,ha,hb,hc⟩:=h6 hn;refine⟨b,off,ha,hS b hb,fun i x hx=>?_⟩;obtain⟨es,hes,hr⟩:=hc i x hx;exact⟨es,range_keeps hes hk hb,Rep.mono hk hS hr⟩⟩
 | .st _,_,_,⟨ds,h1,h2⟩=>⟨ds,h1,Reps.mono hk hS h2⟩
theorem Reps.mono {S S':Nat->Prop} {w w':World} (hk:Keeps S w w') (hS:∀b,S b->S' b):∀{ts:List Ty} {cs:List Value} {ds:List Dat},Reps S w ts cs ds->Reps S' w' ts cs ds
 | [],_,_,h=>h
 | _::_,_,_,⟨c1,c2,d1,d2,h1,h2,h3,h4⟩=>⟨c1,c2,d1,d2,h1,h2,Rep.mono hk hS h3,Reps.mono hk hS h4⟩
end
inductive OT where
 | im (t:Ty) | sl (tid:TypeId) (e:OT) | st (fs:List OT) | ho (tid:TypeId) (e:OT) | mp (k:Ty) (v:OT)
instance:Inhabited OT:=⟨.st []⟩
mutual
def OT.size:OT->Nat
 | .im t=>t.size
 | .sl _ _=>1
 | .st fs=>OT.sizes fs
 | .ho _ _=>1
 | .mp _ _=>1
def OT.sizes:List OT->Nat
 | []=>0
 | f::fs=>f.size+OT.sizes fs
end
mutual
def OT.ty:OT->Ty
 | .im t=>t
 | .sl _ e=>.sl e.ty
 | .st fs=>.st (OT.tys fs)
 | .ho _ e=>.sl e.ty
 | .mp _ _=>.raw
def OT.tys:List OT->List Ty
 | []=>[]
 | f::fs=>f.ty::OT.tys fs
end
mutual
theorem OT.ty_size:∀e:OT,e.ty.size=e.size
 | .im _=>rfl
 | .sl _ _=>rfl
 | .st fs=>by rw[OT.ty,Ty.size,OT.size,OT.tys_size fs]
 | .ho _ _=>rfl
 | .mp _ _=>rfl
theorem OT.tys_size:∀fs:List OT,Ty.sizes (OT.tys fs)=OT.sizes fs
 | []=>rfl
 | f::fs=>by rw[OT.tys,Ty.sizes,OT.sizes,OT.ty_size f,OT.tys_size fs]
end
mutual
def OT.solid:OT->Bool
 | .im _=>true
 | .sl _ e=>e.solid
 | .st fs=>OT.solids fs
 | .ho _ _=>false
 | .mp _ _=>false
def OT.solids:List OT->Bool
 | []=>true
 | f::fs=>f.solid&&OT.solids fs
end
def OT.isMp:OT->Bool
 | .mp _ _=>true
 | _=>false
def headT (tid:TypeId) (e:OT):OT:=
 match e with
 | .mp k v=>.mp k v
 | e=>.sl tid e
theorem headT_sl {tid:TypeId} {e:OT} (h:e.isMp=false):headT tid e=.sl tid e:=by
 cases e<;>first | rfl | cases h
theorem headT_solid {tid:TypeId} {e:OT} (h:e.solid=true):headT tid e=.sl tid e:=by
 cases e<;>first | rfl | cases h
def isSl (v:Value):Prop:=∃a n c,v=.slice a n c
def hole:Dat:=.raw undef
def isN (d:Dat):Prop:=d=.node d.kids/\∀x,d.kids≠[hole,x]
def isA (d:Dat):Prop:=d=.node [hole,d.f 1]
theorem isN_of {d:Dat} {l:List Dat} (h:d=.node l) (h2:l.head?≠some hole):isN d:=by
 subst h;exact⟨rfl,fun x e=>h2 (by rw[show l=[hole,x] from e];rfl)⟩
def KeyIs (k:Ty) (v:Value) (d:Dat):Prop:=∃ks:List Value,v=.agg ks.toArray/\∀S w,Rep S w k ks d
def KeysAre (k:Ty):List MapEntry->List Dat->Prop
 | [],ds=>ds=[]
 | m::es,ds=>∃kd vd ds',ds=.node [kd,vd]::ds'/\KeyIs k m.key kd/\KeysAre k es ds'
theorem KeysAre.length {k:Ty}:∀{es:List MapEntry} {ds:List Dat},KeysAre k es ds->es.length=ds.length
 | [],_,h=>by rw[show _=[] from h];rfl
 | _::_,_,⟨_,_,_,h,_,h2⟩=>by rw[h,List.length_cons,List.length_cons,h2.length]
abbrev Hd:=Nat->List (Nat×Nat)->Value
def Hd.at (H:Hd) (b i:Nat):Hd:=fun o ρ=>H b ((i,o)::ρ)
def Elems (Q:Nat->List Value->Dat->List Nat->Prop):Nat->List Value->List Dat->List Nat->Prop
 | _,xs,[],F=>xs=[]/\F=[]
 | k,xs,d::ds,F=>∃x1 x2 F1 F2,xs=x1++x2/\F=F1++F2/\Q k x1 d F1/\Elems Q (k+1) x2 ds F2
def ownsAt (w:World) (e:TypeId) (size:Nat) (v:Value) (n:Nat) (xs:List Value):Prop:=
 xs.length=n*size/\((v=.slice none 0 0/\n=0)\/
  ∃g o cap cur,v=.slice (some ⟨g,o,none⟩) n cap/\w.heap[g]?=some (.cells cur e (0,0))/\n<=cap/\cap<=maxLen/\o+cap*size<=cur.size/\(cur.toList.drop o).take (n*size)=xs)
theorem ownsAt_of {w:World} {base:Nat} {e:TypeId} {size:Nat} {v:Value} {n:Nat} {xs:List Value} (h:w.ownsRow base e size v n xs):ownsAt w e size v n xs:=by
 refine⟨h.1,h.2.imp id ?_⟩;rintro⟨g,cap,cur,h1,_,h2,h3,h4,h5,h6⟩;exact⟨g,0,cap,cur,h1,h2,h3,h4,by rw[Nat.zero_add,h5];exact Nat.le_refl _,by rw[List.drop_zero];exact h6⟩
theorem ownsAt_lt {w:World} {e:TypeId} {size:Nat} {v:Value} {n:Nat} {xs:List Value} (h:ownsAt w e size v n xs) (b:Nat) (hb:v.ownBlock=some b):b<w.heap.size:=by
 rcases h.2 with ⟨rfl,_⟩ | ⟨g,o,cap,cur,rfl,h2,_⟩
 · cases hb
 · simp [Value.ownBlock] at hb;subst hb;exact (Array.getElem?_eq_some_iff.1 h2).1
mutual
def Own (S:Nat->Prop) (w:World):OT->Hd->Nat->List Value->Dat->List Nat->Prop
 | .im t,_,_,cs,d,F=>Rep S w t cs d/\F=[]
 | .sl tid e,H,b,cs,d,F=>∃ds xs F',cs=[H b []]/\d=.node ds/\ownsAt w tid e.size (H b []) ds.length xs/\ds.length<=140737488355328/\Elems (fun i=>Own S w e (H.at b i) 0) 0 xs ds F'/\F=(H b []).ownBlock.toList++F'
 | .st fs,H,b,cs,d,F=>∃ds,d=.node ds/\Owns S w fs H b cs ds F
 | .ho tid e,H,b,cs,d,F=>cs=[H b []]/\(((d=hole\/∃x,d=.node [hole,x]/\Rep S w (.sl e.ty) [H b []] x)/\isSl (H b [])/\F=[])\/∃ds xs F',d=.node ds/\ownsAt w tid e.size (H b []) ds.length xs/\ds.length<=140737488355328/\Elems (fun i=>Own S w e (H.at b i) 0) 0 xs ds F'/\F=(H b []).ownBlock.toList++F')
 | .mp k v,H,b,cs,d,F=>∃ds es clock g F',cs=[H b []]/\H b []=.map (some g)/\d=.node ds/\w.heap[g]?=some (.map es clock)/\v.size=1/\KeysAre k es.toList ds/\Elems (fun i=>Own S w v (H.at b i) 0) 0 (es.toList.map MapEntry.val) (ds.map fun d=>d.f 1) F'/\F=g::F'
def Owns (S:Nat->Prop) (w:World):List OT->Hd->Nat->List Value->List Dat->List Nat->Prop
 | [],_,_,cs,ds,F=>cs=[]/\ds=[]/\F=[]
 | f::fs,H,b,cs,ds,F=>∃c1 c2 d1 d2 F1 F2,cs=c1++c2/\ds=d1::d2/\F=F1++F2/\Own S w f H b c1 d1 F1/\Owns S w fs H (b+f.size) c2 d2 F2
end
theorem Elems.imp {Q Q':Nat->List Value->Dat->List Nat->Prop}:∀{ds:List Dat} {k:Nat} {xs:List Value} {F:List Nat},(∀i x d G,k<=i->i<k+ds.length->(∀b∈G,b∈F)->Q i x d G->Q' i x d G)->Elems Q k xs ds F->Elems Q' k xs ds F
 | [],_,_,_,_,h=>h
 | _::ds,k,_,_,hq,⟨x1,x2,F1,F2,h1,h2,h3,h4⟩=>by
   subst h2;exact⟨x1,x2,F1,F2,h1,rfl,hq _ _ _ _ (Nat.le_refl _) (by simp) (fun b hb=>List.mem_append_left _ hb) h3,h4.imp (fun i x d G hi hi2 hG=>hq i x d G (by omega) (by simp;omega) (fun b hb=>List.mem_append_right _ (hG b hb)))⟩
theorem Elems.length {Q:Nat->List Value->Dat->List Nat->Prop} {sz:Nat} (hl:∀i x d F,Q i x d F->x.length=sz):∀{ds:List Dat} {k:Nat} {xs:List Value} {F:List Nat},Elems Q k xs ds F->xs.length=ds.length*sz
 | [],_,_,_,⟨h,_⟩=>by rw[h];simp
 | _::_,_,_,_,⟨x1,x2,F1,F2,h1,h2,h3,h4⟩=>by rw[h1,List.length_append,hl _ _ _ _ h3,h4.length hl,List.length_cons,Nat.succ_mul];omega
theorem Elems.append {Q:Nat->List Value->Dat->List Nat->Prop}:∀{ds es:List Dat} {k:Nat} {xs ys:List Value} {F G:List Nat},Elems Q k xs ds F->Elems Q (k+ds.length) ys es G->Elems Q k (xs++ys) (ds++es) (F++G)
 | [],_,_,_,_,_,_,⟨h,h'⟩,k=>by subst h;subst h';exact k
 | _::ds,_,n,_,_,_,_,⟨x1,x2,F1,F2,h1,h2,h3,h4⟩,k=>by
   subst h1;subst h2;exact⟨x1,_,F1,_,List.append_assoc ..,List.append_assoc ..,h3,h4.append (by rw[List.length_cons] at k;rwa [show n+1+ds.length=n+(ds.length+1) from by omega])⟩
theorem Elems.shift {Q Q':Nat->List Value->Dat->List Nat->Prop} {m:Nat} (hq:∀i x d G,Q i x d G->Q' (i+m) x d G):∀{ds:List Dat} {k:Nat} {xs:List Value} {F:List Nat},Elems Q k xs ds F->Elems Q' (k+m) xs ds F
 | [],_,_,_,h=>h
 | _::ds,k,_,_,⟨x1,x2,F1,F2,h1,h2,h3,h4⟩=>⟨x1,x2,F1,F2,h1,h2,hq _ _ _ _ h3,by rw[show k+m+1=k+1+m from by omega];exact h4.shift hq⟩
mutual
theorem Own.length {S:Nat->Prop} {w:World}:∀{e:OT} {H:Hd} {b:Nat} {cs:List Value} {d:Dat} {F:List Nat},Own S w e H b cs d F->cs.length=e.size
 | .im t,_,_,_,_,_,⟨h,_⟩=>h.length
 | .sl _ _,_,_,_,_,_,⟨_,_,_,h,_⟩=>by rw[h];rfl
 | .st fs,_,_,_,_,_,⟨_,_,h⟩=>by rw[OT.size];exact Owns.length h
 | .ho _ _,_,_,_,_,_,⟨h,_⟩=>by rw[h];rfl
 | .mp _ _,_,_,_,_,_,⟨_,_,_,_,_,h,_⟩=>by rw[h];rfl
theorem Owns.length {S:Nat->Prop} {w:World}:∀{fs:List OT} {H:Hd} {b:Nat} {cs:List Value} {ds:List Dat} {F:List Nat},Owns S w fs H b cs ds F->cs.length=OT.sizes fs
 | [],_,_,_,_,_,⟨h,_⟩=>by rw[h];rfl
 | _::_,_,_,_,_,_,⟨_,_,_,_,_,_,h1,_,_,h2,h3⟩=>by rw[h1,List.length_append,Own.length h2,Owns.length h3,OT.sizes]
end
mutual
theorem Own.lt {S:Nat->Prop} {w:World}:∀{e:OT} {H:Hd} {b:Nat} {cs:List Value} {d:Dat} {F:List Nat},Own S w e H b cs d F->∀b∈F,b<w.heap.size
 | .im t,_,_,_,_,_,⟨_,h⟩,b,hb=>by rw[h] at hb;cases hb
 | .sl _ e,H,k,_,_,_,⟨ds,xs,F',_,_,h1,_,h2,h3⟩,b,hb=>by
   subst h3;rcases List.mem_append.1 hb with hb | hb
   · exact ownsAt_lt h1 b (by simpa using hb)
   · exact Elems.lt (fun _ _ _ _ hq b hb=>Own.lt (e:=e) hq b hb) h2 b hb
 | .st fs,_,_,_,_,_,⟨_,_,h⟩,b,hb=>Owns.lt h b hb
 | .ho _ e,H,k,_,_,_,⟨_,.inl ⟨_,_,h3⟩⟩,b,hb=>by rw[h3] at hb;cases hb
 | .ho _ e,H,k,_,_,_,⟨_,.inr ⟨ds,xs,F',_,h1,_,h2,h3⟩⟩,b,hb=>by
   subst h3;rcases List.mem_append.1 hb with hb | hb
   · exact ownsAt_lt h1 b (by simpa using hb)
   · exact Elems.lt (fun _ _ _ _ hq b hb=>Own.lt (e:=e) hq b hb) h2 b hb
 | .mp _ v,H,k,_,_,_,⟨ds,es,clock,g,F',_,_,_,h1,_,_,h2,h3⟩,b,hb=>by
   subst h3;rcases List.mem_cons.1 hb with rfl | hb
   · exact (Array.getElem?_eq_some_iff.1 h1).1
   · exact Elems.lt (fun _ _ _ _ hq b hb=>Own.lt (e:=v) hq b hb) h2 b hb
theorem Owns.lt {S:Nat->Prop} {w:World}:∀{fs:List OT} {H:Hd} {b:Nat} {cs:List Value} {ds:List Dat} {F:List Nat},Owns S w fs H b cs ds F->∀b∈F,b<w.heap.size
 | [],_,_,_,_,_,⟨_,_,h⟩,b,hb=>by rw[h] at hb;cases hb
 | _::_,_,_,_,_,_,⟨_,_,_,_,_,_,_,_,h,h2,h3⟩,b,hb=>by
   subst h;rcases List.mem_append.1 hb with hb | hb
   · exact Own.lt h2 b hb
   · exact Owns.lt h3 b hb
theorem Elems.lt {Q:Nat->List Value->Dat->List Nat->Prop} {w:World} (hq:∀i x d F,Q i x d F->∀b∈F,b<w.heap.size):∀{ds:List Dat} {k:Nat} {xs:List Value} {F:List Nat},Elems Q k xs ds F->∀b∈F,b<w.heap.size
 | [],_,_,_,⟨_,h⟩,b,hb=>by rw[h] at hb;cases hb
 | _::_,_,_,_,⟨_,_,_,_,_,h2,h3,h4⟩,b,hb=>by
   subst h2;rcases List.mem_append.1 hb with hb | hb
   · exact hq _ _ _ _ h3 b hb
   · exact Elems.lt hq h4 b hb
end
theorem ownsAt_keep {w w':World} {e:TypeId} {size n:Nat} {v:Value} {xs:List Value} (h:ownsAt w e size v n xs) (hb:∀b,v.ownBlock=some b->w'.heap[b]?=w.heap[b]?):ownsAt w' e size v n xs:=by
 refine⟨h.1,?_⟩;rcases h.2 with h2 | ⟨g,o,cap,cur,hv,h4,r⟩
 · exact .inl h2
 · exact .inr ⟨g,o,cap,cur,hv,by rw[hb g (by rw[hv];rfl)];exact h4,r⟩
mutual
theorem Own.mono {S S':Nat->Prop} {w w':World} (hk:Keeps S w w') (hS:∀b,S b->S' b):∀{e:OT} {H H':Hd} {b:Nat} {cs:List Value} {d:Dat} {F:List Nat},(∀k ρ,b<=k->k<b+e.size->H' k ρ=H k ρ)->(∀b∈F,w'.heap[b]?=w.heap[b]?)->Own S w e H b cs d F->Own S' w' e H' b cs d F
 | .im t,_,_,_,_,_,_,_,_,⟨h,h'⟩=>⟨h.mono hk hS,h'⟩
 | .sl _ e,H,H',b,_,_,_,hH,hF,⟨ds,xs,F',h0,h0',h1,h1',h2,h3⟩=>by
   subst h3;have e0:H' b []=H b []:=hH b [] (Nat.le_refl _) (by simp [OT.size]);refine⟨ds,xs,F',by rw[e0];exact h0,h0',by rw[e0];exact ownsAt_keep h1 (fun b hb=>hF b (List.mem_append_left _ (by simp [hb]))),h1',h2.imp (fun i x d G _ _ hG hq=>Own.mono hk hS (e:=e) (fun k ρ _ _=>?_) (fun b hb=>hF b (List.mem_append_right _ (hG b hb))) hq),by rw[e0]⟩;exact hH b _ (Nat.le_refl _) (by simp [OT.size])
 | .st fs,_,_,_,_,_,_,hH,hF,⟨ds,h,h'⟩=>⟨ds,h,Owns.mono hk hS hH hF h'⟩
 | .ho _ e,H,H',b,_,_,_,hH,hF,⟨h0,.inl ⟨h1,h2,h3⟩⟩=>by
   have e0:H' b []=H b []:=hH b [] (Nat.le_refl _) (by simp [OT.size]);exact⟨by rw[e0];exact h0,.inl ⟨h1.imp id (fun⟨x,k1,k2⟩=>⟨x,k1,by rw[e0];exact k2.mono hk hS⟩),by rw[e0];exact h2,h3⟩⟩
 | .ho _ e,H,H',b,_,_,_,hH,hF,⟨h0,.inr ⟨ds,xs,F',h0',h1,h1',h2,h3⟩⟩=>by
   subst h3;have e0:H' b []=H b []:=hH b [] (Nat.le_refl _) (by simp [OT.size]);refine⟨by rw[e0];exact h0,.inr ⟨ds,xs,F',h0',by rw[e0];exact ownsAt_keep h1 (fun b hb=>hF b (List.mem_append_left _ (by simp [hb]))),h1',h2.imp (fun i x d G _ _ hG hq=>Own.mono hk hS (e:=e) (fun k ρ _ _=>?_) (fun b hb=>hF b (List.mem_append_right _ (hG b hb))) hq),by rw[e0]⟩⟩;exact hH b _ (Nat.le_refl _) (by simp [OT.size])
 | .mp _ v,H,H',b,_,_,_,hH,hF,⟨ds,es,clock,g,F',h0,h0',hd,h1,hsz,hks,h2,h3⟩=>by
   subst h3;have e0:H' b []=H b []:=hH b [] (Nat.le_refl _) (by simp [OT.size]);refine⟨ds,es,clock,g,F',by rw[e0];exact h0,by rw[e0];exact h0',hd,by rw[hF g (List.mem_cons_self ..)];exact h1,hsz,hks,h2.imp (fun i x d G _ _ hG hq=>Own.mono hk hS (e:=v) (fun k ρ _ _=>?_) (fun b hb=>hF b (List.mem_cons_of_mem _ (hG b hb))) hq),rfl⟩;exact hH b _ (Nat.le_refl _) (by simp [OT.size])
theorem Owns.mono {S S':Nat->Prop} {w w':World} (hk:Keeps S w w') (hS:∀b,S b->S' b):∀{fs:List OT} {H H':Hd} {b:Nat} {cs:List Value} {ds:List Dat} {F:List Nat},(∀k ρ,b<=k->k<b+OT.sizes fs->H' k ρ=H k ρ)->(∀b∈F,w'.heap[b]?=w.heap[b]?)->Owns S w fs H b cs ds F->Owns S' w' fs H' b cs ds F
 | [],_,_,_,_,_,_,_,_,h=>h
 | f::fs,_,_,b,_,_,_,hH,hF,⟨c1,c2,d1,d2,F1,F2,h1,h2,h3,h4,h5⟩=>by
   subst h3;exact⟨c1,c2,d1,d2,F1,F2,h1,h2,rfl,Own.mono hk hS (fun k ρ hk1 hk2=>hH k ρ hk1 (by rw[OT.sizes];omega)) (fun b hb=>hF b (List.mem_append_left _ hb)) h4,
     Owns.mono hk hS (fun k ρ hk1 hk2=>hH k ρ (by omega) (by rw[OT.sizes];omega)) (fun b hb=>hF b (List.mem_append_right _ hb)) h5⟩
end
theorem Elems.get {Q:Nat->List Value->Dat->List Nat->Prop} {sz:Nat} (hl:∀i x d F,Q i x d F->x.length=sz):∀{ds:List Dat} {k:Nat} {xs:List Value} {F:List Nat},Elems Q k xs ds F->∀(i:Nat) (x:Dat),ds[i]?=some x->∃G,(∀b∈G,b∈F)/\Q (k+i) ((xs.drop (i*sz)).take sz) x G
 | [],_,_,_,_,i,x,hx=>by simp at hx
 | d::ds,k,_,_,⟨x1,x2,F1,F2,h1,h2,h3,h4⟩,0,x,hx=>by
   simp at hx;subst hx;subst h1;subst h2;refine⟨F1,fun b hb=>List.mem_append_left _ hb,?_⟩
   have:=hl _ _ _ _ h3
   rw[Nat.zero_mul,List.drop_zero,List.take_append_of_le_length (by omega),List.take_of_length_le (by omega)];exact h3
 | d::ds,k,_,_,⟨x1,x2,F1,F2,h1,h2,h3,h4⟩,i+1,x,hx=>by
   subst h1;subst h2;obtain⟨G,h5,h6⟩:=h4.get hl i x (by simpa using hx);refine⟨G,fun b hb=>List.mem_append_right _ (h5 b hb),?_⟩
   have:=hl _ _ _ _ h3
   rw[Nat.succ_mul,List.drop_append,List.drop_eq_nil_of_le (by omega),List.nil_append,show i*sz+sz-x1.length=i*sz from by omega,show k+(i+1)=k+1+i from by omega];exact h6
theorem range_of_owns {w:World} {t:TypeId} {sz n:Nat} {v:Value} {xs:List Value} (h:ownsAt w t sz v n xs) (hn:n≠0):∃g o cap,v=.slice (some ⟨g,o,none⟩) n cap/\n<=cap/\w.rangeAt g o xs:=by
 rcases h.2 with ⟨_,h0⟩ | ⟨g,o,cap,cur,hv,h6,h7,_,_,h8⟩
 · exact absurd h0 hn
 · refine⟨g,o,cap,hv,h7,fun j u hj=>?_⟩;rw[<- h8,List.getElem?_take] at hj;split at hj
   · rw[List.getElem?_drop] at hj;simp only[World.cell?,h6];simpa using hj
   · cases hj
theorem range_elem {w:World} {g o i sz:Nat} {xs:List Value} (h8:w.rangeAt g o xs):w.rangeAt g (o+i*sz) ((xs.drop (i*sz)).take sz):=by
 intro j u hj;rw[List.getElem?_take] at hj;split at hj
 · rw[List.getElem?_drop] at hj
   have:=h8 (i*sz+j) u hj
   simpa [Nat.add_assoc] using this
 · cases hj
theorem slice_of_owns {w:World} {t:TypeId} {sz n:Nat} {v:Value} {xs:List Value} (h:ownsAt w t sz v n xs):∃a cap,v=.slice a n cap/\n<=cap:=by
 rcases h.2 with ⟨hv,h0⟩ | ⟨g,o,cap,cur,hv,_,h7,_⟩
 · exact⟨none,0,by rw[hv,h0],by omega⟩
 · exact⟨_,cap,hv,h7⟩
mutual
theorem Own.frozen {S S':Nat->Prop} {w:World} (hS:∀b,S b->S' b):∀{e:OT} {H:Hd} {b:Nat} {cs:List Value} {d:Dat} {F:List Nat},e.solid=true->(∀b∈F,S' b)->Own S w e H b cs d F->Rep S' w e.ty cs d
 | .im t,_,_,_,_,_,_,_,⟨h,_⟩=>h.mono (fun _ _=>rfl) hS
 | .ho _ _,_,_,_,_,_,hs,_,_=>by cases hs
 | .mp _ _,_,_,_,_,_,hs,_,_=>by cases hs
 | .sl tid e,H,b,_,_,_,hs,hF,⟨ds,xs,F',h0,h0',h1,h1',h2,h3⟩=>by
   subst h3;have hl:=fun i x d F (hq:Own S w e (H.at b i) 0 x d F)=>hq.length
   obtain⟨a,cap,hv,hc⟩:=slice_of_owns h1;refine⟨a,ds.length,cap,ds,by rw[h0,hv],h0',rfl,hc,h1',fun hn=>?_⟩;obtain⟨g,o,cap',hv',_,h8⟩:=range_of_owns h1 hn;rw[hv'] at hv;injection hv with hv _ _
   refine⟨g,o,hv.symm,hF g (List.mem_append_left _ (by rw[hv'];simp [Value.ownBlock])),fun i x hx=>?_⟩;obtain⟨G,h9,h10⟩:=h2.get hl i x hx;rw[OT.ty_size];exact⟨_,range_elem h8,Own.frozen hS hs (fun b hb=>hF b (List.mem_append_right _ (h9 b hb))) h10⟩
 | .st fs,_,_,_,_,_,hs,hF,⟨ds,h,h'⟩=>⟨ds,h,Owns.frozen hS (by simpa [OT.solid] using hs) hF h'⟩
theorem Owns.frozen {S S':Nat->Prop} {w:World} (hS:∀b,S b->S' b):∀{fs:List OT} {H:Hd} {b:Nat} {cs:List Value} {ds:List Dat} {F:List Nat},OT.solids fs=true->(∀b∈F,S' b)->Owns S w fs H b cs ds F->Reps S' w (OT.tys fs) cs ds
 | [],_,_,_,_,_,_,_,⟨h1,h2,_⟩=>⟨h1,h2⟩
 | _::_,_,_,_,_,_,hs,hF,⟨c1,c2,d1,d2,F1,F2,h1,h2,h3,h4,h5⟩=>by
   subst h3;simp only[OT.solids,Bool.and_eq_true] at hs;exact⟨c1,c2,d1,d2,h1,h2,Own.frozen hS hs.1 (fun b hb=>hF b (List.mem_append_left _ hb)) h4,Owns.frozen hS hs.2 (fun b hb=>hF b (List.mem_append_right _ hb)) h5⟩
end
mutual
def Bor (S:Nat->Prop) (w:World) (B:Nat->Prop) (w0:World):OT->List Value->Dat->Prop
 | .im t,cs,d=>Rep S w t cs d
 | .sl _ e,cs,d=>∃a n c ds,cs=[.slice a n c]/\d=.node ds/\ds.length=n/\n<=c/\n<=140737488355328/\
     (n≠0->∃b off,a=some ⟨b,off,none⟩/\B b/\∀i x,ds[i]?=some x->∃es,w0.rangeAt b (off+i*e.size) es/\Bor S w B w0 e es x)
 | .st fs,cs,d=>∃ds,d=.node ds/\Bors S w B w0 fs cs ds
 | .ho _ _,_,_=>False
 | .mp _ _,_,_=>False
def Bors (S:Nat->Prop) (w:World) (B:Nat->Prop) (w0:World):List OT->List Value->List Dat->Prop
 | [],cs,ds=>cs=[]/\ds=[]
 | f::fs,cs,ds=>∃c1 c2 d1 d2,cs=c1++c2/\ds=d1::d2/\Bor S w B w0 f c1 d1/\Bors S w B w0 fs c2 d2
end
mutual
theorem Bor.mono {S S' B:Nat->Prop} {w w' w0:World} (hk:Keeps S w w') (hS:∀b,S b->S' b):∀{e:OT} {cs:List Value} {d:Dat},Bor S w B w0 e cs d->Bor S' w' B w0 e cs d
 | .im _,_,_,h=>Rep.mono hk hS h
 | .sl _ e,_,_,⟨a,n,c,ds,h1,h2,h3,h4,h5,h6⟩=>⟨a,n,c,ds,h1,h2,h3,h4,h5,fun hn=>by
     obtain⟨b,off,ha,hb,hc⟩:=h6 hn;refine⟨b,off,ha,hb,fun i x hx=>?_⟩;obtain⟨es,hes,hr⟩:=hc i x hx;exact⟨es,hes,Bor.mono hk hS hr⟩⟩
 | .st _,_,_,⟨ds,h1,h2⟩=>⟨ds,h1,Bors.mono hk hS h2⟩
 | .ho _ _,_,_,h=>h
 | .mp _ _,_,_,h=>h
theorem Bors.mono {S S' B:Nat->Prop} {w w' w0:World} (hk:Keeps S w w') (hS:∀b,S b->S' b):∀{fs:List OT} {cs:List Value} {ds:List Dat},Bors S w B w0 fs cs ds->Bors S' w' B w0 fs cs ds
 | [],_,_,h=>h
 | _::_,_,_,⟨c1,c2,d1,d2,h1,h2,h3,h4⟩=>⟨c1,c2,d1,d2,h1,h2,Bor.mono hk hS h3,Bors.mono hk hS h4⟩
end
def Dat.set (d:Dat) (k:Nat) (x:Dat):Dat:=.node (d.kids.set k x)
def splice (cs:List Value) (o:Nat) (c:List Value):List Value:=cs.take o++c++cs.drop (o+c.length)
abbrev Loc (α:Type):=Option (α×(Dat->Dat)×(Dat->Dat->Dat))
def Loc.into {α:Type} (l:Loc α) (k:Nat):Loc α:=
 match l with
 | some (e,g,s)=>some (e,fun d=>g (d.f k),fun d x=>d.set k (s (d.f k) x))
 | none=>none
mutual
def locT:Ty->Nat->Nat->Loc Ty
 | .st fs,o,L=>if o=0/\Ty.sizes fs=L then some (.st fs,fun d=>d,fun _ x=>x) else locTs fs o L 0
 | t,o,L=>if o=0/\L=1 then some (t,fun d=>d,fun _ x=>x) else none
def locTs:List Ty->Nat->Nat->Nat->Loc Ty
 | [],_,_,_=>none
 | f::fs,o,L,k=>if o+L<=f.size then (locT f o L).into k else if f.size<=o then locTs fs (o-f.size) L (k+1) else none
end
mutual
def locO:OT->Nat->Nat->Loc OT
 | .im t,o,L=>match locT t o L with
   | some (t',g,s)=>some (.im t',g,s)
   | none=>none
 | .sl tid e,o,L=>if o=0/\L=1 then some (.sl tid e,fun d=>d,fun _ x=>x) else none
 | .ho tid e,o,L=>if o=0/\L=1 then some (.ho tid e,fun d=>d,fun _ x=>x) else none
 | .mp k v,o,L=>if o=0/\L=1 then some (.mp k v,fun d=>d,fun _ x=>x) else none
 | .st fs,o,L=>if o=0/\OT.sizes fs=L/\L≠1 then some (.st fs,fun d=>d,fun _ x=>x) else locOs fs o L 0
def locOs:List OT->Nat->Nat->Nat->Loc OT
 | [],_,_,_=>none
 | f::fs,o,L,k=>if o+L<=f.size then (locO f o L).into k else if f.size<=o then locOs fs (o-f.size) L (k+1) else none
end
theorem splice_all {cs c:List Value} (h:cs.length=c.length):splice cs 0 c=c:=by
 unfold splice;rw[List.take_zero,List.nil_append,List.drop_eq_nil_of_le (by omega),List.append_nil]
theorem splice_left {a b c:List Value} {o:Nat} (h:o+c.length<=a.length):splice (a++b) o c=splice a o c++b:=by
 unfold splice;rw[List.take_append_of_le_length (by omega),List.drop_append_of_le_length (by omega)];simp
theorem splice_right {a b c:List Value} {o:Nat} (h:a.length<=o):splice (a++b) o c=a++splice b (o-a.length) c:=by
 unfold splice;rw[List.take_append,List.take_of_length_le (by omega),List.drop_append,List.drop_eq_nil_of_le (by omega),List.nil_append,show o+c.length-a.length=o-a.length+c.length from by omega];simp
theorem part_left {a b:List Value} {o L:Nat} (h:o+L<=a.length):((a++b).drop o).take L=(a.drop o).take L:=by
 rw[List.drop_append_of_le_length (by omega),List.take_append_of_le_length (by rw[List.length_drop];omega)]
theorem part_right {a b:List Value} {o L:Nat} (h:a.length<=o):((a++b).drop o).take L=(b.drop (o-a.length)).take L:=by
 rw[List.drop_append,List.drop_eq_nil_of_le (by omega),List.nil_append]
theorem Dat.f_node (pre:List Dat) (d:Dat) (ds:List Dat):(Dat.node (pre++d::ds)).f pre.length=d:=by simp [Dat.f,Dat.kids]
theorem Dat.set_node (pre:List Dat) (d x:Dat) (ds:List Dat):(Dat.node (pre++d::ds)).set pre.length x=.node (pre++x::ds):=by simp [Dat.set,Dat.kids]
def PartT (S:Nat->Prop) (w:World) (t:Ty) (cs:List Value) (d:Dat) (o L:Nat) (r:Loc Ty):Prop:=
 ∀t' g s,r=some (t',g,s)->t'.size=L/\o+L<=cs.length/\Rep S w t' ((cs.drop o).take L) (g d)/\
   ∀(S2:Nat->Prop) (w2:World) (c':List Value) (d':Dat),(∀t cs d,Rep S w t cs d->Rep S2 w2 t cs d)->Rep S2 w2 t' c' d'->Rep S2 w2 t (splice cs o c') (s d d')
mutual
theorem locT_ok {S:Nat->Prop} {w:World}:∀{t:Ty} {cs:List Value} {d:Dat} {o L:Nat},Rep S w t cs d->PartT S w t cs d o L (locT t o L)
 | .st fs,cs,d,o,L,h=>by
   intro t' g s hr;unfold locT at hr;split at hr
   · rename_i hc;obtain⟨rfl,hL⟩:=hc;simp at hr;obtain⟨rfl,rfl,rfl⟩:=hr;have hl:cs.length=L:=by rw[h.length,Ty.size,hL]
     refine⟨by rw[Ty.size,hL],by omega,?_,fun S2 w2 c' d' _ hn=>?_⟩
     · rw[List.drop_zero,List.take_of_length_le (by omega)];exact h
     · rw[splice_all (by rw[hl,hn.length,Ty.size,hL])];exact hn
   · obtain⟨ds,rfl,h2⟩:=h;obtain⟨h3,h4,h5,h6⟩:=locTs_ok (pre:=[]) h2 t' g s hr;exact⟨h3,h4,h5,fun S2 w2 c' d' hs hn=>by
       obtain⟨ds',h7,h8⟩:=h6 S2 w2 c' d' hs hn;exact⟨ds',h7,h8⟩⟩
 | .int k,cs,d,o,L,h=>by simpa [locT] using locT_one h rfl
 | .bool,cs,d,o,L,h=>by simpa [locT] using locT_one h rfl
 | .str,cs,d,o,L,h=>by simpa [locT] using locT_one h rfl
 | .raw,cs,d,o,L,h=>by simpa [locT] using locT_one h rfl
 | .sl e,cs,d,o,L,h=>by simpa [locT] using locT_one h rfl
theorem locT_one {S:Nat->Prop} {w:World} {t:Ty} {cs:List Value} {d:Dat} {o L:Nat} (h:Rep S w t cs d) (h1:t.size=1):PartT S w t cs d o L (if o=0/\L=1 then some (t,fun d=>d,fun _ x=>x) else none):=by
 intro t' g s hr;split at hr
 · rename_i hc;obtain⟨rfl,rfl⟩:=hc;simp at hr;obtain⟨rfl,rfl,rfl⟩:=hr;have hl:cs.length=1:=by rw[h.length,h1]
   refine⟨h1,by omega,?_,fun S2 w2 c' d' _ hn=>?_⟩
   · rw[List.drop_zero,List.take_of_length_le (by omega)];exact h
   · rw[splice_all (by rw[hl,hn.length,h1])];exact hn
 · cases hr
theorem locTs_ok {S:Nat->Prop} {w:World}:∀{fs:List Ty} {cs:List Value} {pre ds:List Dat} {o L:Nat},Reps S w fs cs ds->∀t' g s,locTs fs o L pre.length=some (t',g,s)->t'.size=L/\o+L<=cs.length/\Rep S w t' ((cs.drop o).take L) (g (.node (pre++ds)))/\
   ∀(S2:Nat->Prop) (w2:World) (c':List Value) (d':Dat),(∀t cs d,Rep S w t cs d->Rep S2 w2 t cs d)->Rep S2 w2 t' c' d'->∃ds',s (.node (pre++ds)) d'=.node (pre++ds')/\Reps S2 w2 fs (splice cs o c') ds'
 | [],_,_,_,_,_,_,_,_,_,hr=>by simp [locTs] at hr
 | f::fs,_,pre,_,o,L,⟨c1,c2,d1,d2,h1,h2,h3,h4⟩,t',g,s,hr=>by
   subst h1;subst h2;have hl1:=h3.length;unfold locTs at hr;split at hr
   · rename_i hle;cases hf:locT f o L with
     | none=>rw[hf] at hr;simp [Loc.into] at hr
     | some r=>
       obtain⟨e0,g0,s0⟩:=r;rw[hf] at hr;simp [Loc.into] at hr;obtain⟨rfl,rfl,rfl⟩:=hr;obtain⟨k1,k2,k3,k4⟩:=locT_ok h3 _ _ _ hf;refine⟨k1,by rw[List.length_append];omega,?_,fun S2 w2 c' d' hs hn=>?_⟩
       · simp only[Dat.f_node];rw[part_left k2];exact k3
       · have hc':c'.length=L:=by rw[hn.length,k1]
         refine⟨s0 d1 d'::d2,by simp only[Dat.f_node,Dat.set_node],splice c1 o c',c2,_,_,splice_left (by omega),rfl,k4 S2 w2 c' d' hs hn,?_⟩;exact Reps.imp hs h4
   · split at hr
     · rename_i hge;have hr':locTs fs (o-f.size) L (pre++[d1]).length=some (t',g,s):=by simpa using hr
       obtain⟨k1,k2,k3,k4⟩:=locTs_ok (pre:=pre++[d1]) h4 t' g s hr';simp only[List.append_assoc,List.singleton_append] at k3 k4;refine⟨k1,by rw[List.length_append];omega,?_,fun S2 w2 c' d' hs hn=>?_⟩
       · rw[part_right (by omega),hl1];exact k3
       · obtain⟨ds',k5,k6⟩:=k4 S2 w2 c' d' hs hn;exact⟨d1::ds',k5,c1,_,d1,ds',by rw[splice_right (by omega),hl1],rfl,hs _ _ _ h3,k6⟩
     · cases hr
theorem Reps.imp {S S2:Nat->Prop} {w w2:World} (hs:∀t cs d,Rep S w t cs d->Rep S2 w2 t cs d):∀{fs:List Ty} {cs:List Value} {ds:List Dat},Reps S w fs cs ds->Reps S2 w2 fs cs ds
 | [],_,_,h=>h
 | _::_,_,_,⟨c1,c2,d1,d2,h1,h2,h3,h4⟩=>⟨c1,c2,d1,d2,h1,h2,hs _ _ _ h3,Reps.imp hs h4⟩
end
def PartO (S:Nat->Prop) (w:World) (e:OT) (H:Hd) (b:Nat) (cs:List Value) (d:Dat) (F:List Nat) (o L:Nat) (r:Loc OT):Prop:=
 ∀e' g s,r=some (e',g,s)->e'.size=L/\o+L<=cs.length/\∃A F' B,F=A++(F'++B)/\Own S w e' H (b+o) ((cs.drop o).take L) (g d) F'/\
   ∀(S2:Nat->Prop) (w2:World) (H2:Hd) (c':List Value) (d':Dat) (F2:List Nat),(∀e b' cs d G,(∀x∈G,x∈A\/x∈B)->(b'+e.size<=b+o\/b+o+L<=b')->Own S w e H b' cs d G->Own S2 w2 e H2 b' cs d G)->Own S2 w2 e' H2 (b+o) c' d' F2->Own S2 w2 e H2 b (splice cs o c') (s d d') (A++(F2++B))
theorem partO_all {S:Nat->Prop} {w:World} {e:OT} {H:Hd} {b:Nat} {cs:List Value} {d:Dat} {F:List Nat} {o L:Nat} (h:Own S w e H b cs d F) (hL:e.size=L):o=0->PartO S w e H b cs d F o L (some (e,fun d=>d,fun _ x=>x)):=by
 rintro rfl e' g s hr;simp at hr;obtain⟨rfl,rfl,rfl⟩:=hr;have hl:cs.length=L:=by rw[h.length,hL]
 refine⟨hL,by omega,[],F,[],by simp,?_,fun S2 w2 H2 c' d' F2 _ hn=>?_⟩
 · rw[List.drop_zero,List.take_of_length_le (by omega)];exact h
 · rw[splice_all (by rw[hl,hn.length,hL])];simpa using hn
mutual
theorem locO_ok {S:Nat->Prop} {w:World}:∀{e:OT} {H:Hd} {b:Nat} {cs:List Value} {d:Dat} {F:List Nat} {o L:Nat},Own S w e H b cs d F->PartO S w e H b cs d F o L (locO e o L)
 | .im t,H,b,cs,d,F,o,L,h=>by
   intro e' g s hr;obtain⟨h,rfl⟩:=h;unfold locO at hr;split at hr
   · rename_i t' g0 s0 hf;simp at hr;obtain⟨rfl,rfl,rfl⟩:=hr;obtain⟨k1,k2,k3,k4⟩:=locT_ok h _ _ _ hf;refine⟨k1,k2,[],[],[],rfl,⟨k3,rfl⟩,fun S2 w2 H2 c' d' F2 hs hn=>?_⟩;obtain⟨hn,rfl⟩:=hn;refine⟨k4 S2 w2 c' d' (fun t cs d hr=>?_) hn,rfl⟩
     have:=hs (.st []) (b+o+L) [] (.node []) [] (fun _ h=>by cases h) (.inr (Nat.le_refl _)) ⟨[],rfl,rfl,rfl,rfl⟩
     by_cases ht:t.size<=b+o
     · exact (hs (.im t) 0 cs d [] (fun _ h=>by cases h) (.inl (by simpa [OT.size] using ht)) ⟨hr,rfl⟩).1
     · exact (hs (.im t) (b+o+L) cs d [] (fun _ h=>by cases h) (.inr (Nat.le_refl _)) ⟨hr,rfl⟩).1
   · cases hr
 | .sl tid e,H,b,cs,d,F,o,L,h=>by
   unfold locO;split
   · rename_i hc;exact partO_all h (by rw[OT.size,hc.2]) hc.1
   · intro _ _ _ hr;cases hr
 | .ho tid e,H,b,cs,d,F,o,L,h=>by
   unfold locO;split
   · rename_i hc;exact partO_all h (by rw[OT.size,hc.2]) hc.1
   · intro _ _ _ hr;cases hr
 | .mp k v,H,b,cs,d,F,o,L,h=>by
   unfold locO;split
   · rename_i hc;exact partO_all h (by rw[OT.size,hc.2]) hc.1
   · intro _ _ _ hr;cases hr
 | .st fs,H,b,cs,d,F,o,L,h=>by
   unfold locO;split
   · rename_i hc;exact partO_all h (by rw[OT.size,hc.2.1]) hc.1
   · intro e' g s hr;obtain⟨ds,rfl,h2⟩:=h;obtain⟨k1,k2,A,F',B,k3,k4,k5⟩:=locOs_ok (pre:=[]) h2 e' g s hr;exact⟨k1,k2,A,F',B,k3,k4,fun S2 w2 H2 c' d' F2 hs hn=>by
       obtain⟨ds',k6,k7⟩:=k5 S2 w2 H2 c' d' F2 hs hn;exact⟨ds',k6,k7⟩⟩
theorem locOs_ok {S:Nat->Prop} {w:World}:∀{fs:List OT} {H:Hd} {b:Nat} {cs:List Value} {pre ds:List Dat} {F:List Nat} {o L:Nat},Owns S w fs H b cs ds F->∀e' g s,locOs fs o L pre.length=some (e',g,s)->e'.size=L/\o+L<=cs.length/\∃A F' B,F=A++(F'++B)/\Own S w e' H (b+o) ((cs.drop o).take L) (g (.node (pre++ds))) F'/\
   ∀(S2:Nat->Prop) (w2:World) (H2:Hd) (c':List Value) (d':Dat) (F2:List Nat),(∀e b' cs d G,(∀x∈G,x∈A\/x∈B)->(b'+e.size<=b+o\/b+o+L<=b')->Own S w e H b' cs d G->Own S2 w2 e H2 b' cs d G)->Own S2 w2 e' H2 (b+o) c' d' F2->
     ∃ds',s (.node (pre++ds)) d'=.node (pre++ds')/\Owns S2 w2 fs H2 b (splice cs o c') ds' (A++(F2++B))
 | [],_,_,_,_,_,_,_,_,_,_,_,_,hr=>by simp [locOs] at hr
 | f::fs,H,b,_,pre,_,_,o,L,⟨c1,c2,d1,d2,F1,F2,h1,h2,hF,h3,h4⟩,e',g,s,hr=>by
   subst h1;subst h2;subst hF;have hl1:=h3.length;unfold locOs at hr;split at hr
   · rename_i hle;cases hf:locO f o L with
     | none=>rw[hf] at hr;simp [Loc.into] at hr
     | some r=>
       obtain⟨e0,g0,s0⟩:=r;rw[hf] at hr;simp [Loc.into] at hr;obtain⟨rfl,rfl,rfl⟩:=hr;obtain⟨k1,k2,A,F',B,k3,k4,k5⟩:=locO_ok h3 _ _ _ hf;refine⟨k1,by rw[List.length_append];omega,A,F',B++F2,by rw[k3];simp,?_,fun S2 w2 H2 c' d' G2 hs hn=>?_⟩
       · simp only[Dat.f_node];rw[part_left k2];exact k4
       · have hc':c'.length=L:=by rw[hn.length,k1]
         refine⟨s0 d1 d'::d2,by simp only[Dat.f_node,Dat.set_node],splice c1 o c',c2,_,_,A++(G2++B),F2,splice_left (by omega),rfl,by simp,k5 S2 w2 H2 c' d' G2 (fun e b' cs d G hG hb h=>hs e b' cs d G (fun x hx=>?_) hb h) hn,?_⟩
         · rcases hG x hx with h5 | h5
           · exact .inl h5
           · exact .inr (List.mem_append_left _ h5)
         · exact Owns.imp (fun e b' cs d G hG hb h=>hs e b' cs d G (fun x hx=>.inr (List.mem_append_right _ (hG x hx))) (.inr (by omega)) h) h4
   · split at hr
     · rename_i hge;have hr':locOs fs (o-f.size) L (pre++[d1]).length=some (e',g,s):=by simpa using hr
       obtain⟨k1,k2,A,F',B,k3,k4,k5⟩:=locOs_ok (pre:=pre++[d1]) h4 e' g s hr';simp only[List.append_assoc,List.singleton_append] at k4 k5;have hbo:b+f.size+(o-f.size)=b+o:=by omega
       rw[hbo] at k4 k5;refine⟨k1,by rw[List.length_append];omega,F1++A,F',B,by rw[k3];simp,?_,fun S2 w2 H2 c' d' G2 hs hn=>?_⟩
       · rw[part_right (by omega),hl1];exact k4
       · obtain⟨ds',k6,k7⟩:=k5 S2 w2 H2 c' d' G2 (fun e b' cs d G hG hb h=>hs e b' cs d G (fun x hx=>(hG x hx).imp (List.mem_append_right _) id) hb h) hn;refine⟨d1::ds',k6,c1,_,d1,ds',F1,A++(G2++B),by rw[splice_right (by omega),hl1],rfl,by simp,?_,k7⟩;exact hs f b c1 d1 F1 (fun x hx=>.inl (List.mem_append_left _ hx)) (.inl (by omega)) h3
     · cases hr
theorem Owns.imp {S S2:Nat->Prop} {w w2:World} {H H2:Hd}:∀{fs:List OT} {b:Nat} {cs:List Value} {ds:List Dat} {F:List Nat},(∀e b' cs d G,(∀x∈G,x∈F)->b<=b'->Own S w e H b' cs d G->Own S2 w2 e H2 b' cs d G)->Owns S w fs H b cs ds F->Owns S2 w2 fs H2 b cs ds F
 | [],_,_,_,_,_,h=>h
 | f::_,b,_,_,_,hs,⟨c1,c2,d1,d2,F1,F2,h1,h2,hF,h3,h4⟩=>by
   subst hF;exact⟨c1,c2,d1,d2,F1,F2,h1,h2,rfl,hs _ _ _ _ _ (fun x hx=>List.mem_append_left _ hx) (Nat.le_refl _) h3,Owns.imp (fun e b' cs d G hG hb h=>hs e b' cs d G (fun x hx=>List.mem_append_right _ (hG x hx)) (by omega) h) h4⟩
end
theorem Elems.focus {Q:Nat->List Value->Dat->List Nat->Prop} {sz:Nat} (hl:∀i x d F,Q i x d F->x.length=sz):∀{ds:List Dat} {k:Nat} {xs:List Value} {F:List Nat} {i:Nat},Elems Q k xs ds F->i<ds.length->∃A F' B,F=A++(F'++B)/\i*sz+sz<=xs.length/\Q (k+i) ((xs.drop (i*sz)).take sz) (ds.getD i default) F'/\
   ∀(Q2:Nat->List Value->Dat->List Nat->Prop) (c':List Value) (d':Dat) (F2:List Nat),(∀j x d G,j≠k+i->(∀b∈G,b∈A\/b∈B)->Q j x d G->Q2 j x d G)->c'.length=sz->Q2 (k+i) c' d' F2->Elems Q2 k (splice xs (i*sz) c') (ds.set i d') (A++(F2++B))
 | [],_,_,_,_,_,hi=>by simp at hi
 | d::ds,k,_,_,0,⟨x1,x2,F1,F2,h1,h2,h3,h4⟩,_=>by
   subst h1;subst h2;have hx:=hl _ _ _ _ h3;refine⟨[],F1,F2,rfl,by rw[List.length_append];omega,?_,fun Q2 c' d' G2 hs hc hn=>?_⟩
   · rw[Nat.zero_mul,List.drop_zero,List.take_append_of_le_length (by omega),List.take_of_length_le (by omega)];exact h3
   · refine⟨c',x2,G2,F2,?_,by simp,hn,h4.imp (fun j x d G hj _ hG hq=>hs j x d G (by omega) (fun b hb=>.inr (hG b hb)) hq)⟩;rw[Nat.zero_mul,splice_left (by omega),splice_all (by omega)]
 | d::ds,k,_,_,i+1,⟨x1,x2,F1,F2,h1,h2,h3,h4⟩,hi=>by
   subst h1;subst h2;have hx:=hl _ _ _ _ h3;obtain⟨A,F',B,k1,k2,k3,k4⟩:=h4.focus hl (i:=i) (by simpa using hi);refine⟨F1++A,F',B,by rw[k1];simp,by rw[List.length_append,Nat.succ_mul];omega,?_,fun Q2 c' d' G2 hs hc hn=>?_⟩
   · rw[Nat.succ_mul,part_right (by omega),show i*sz+sz-x1.length=i*sz from by omega,show k+(i+1)=k+1+i from by omega];exact k3
   · refine⟨x1,splice x2 (i*sz) c',F1,A++(G2++B),?_,by simp,hs k x1 d F1 (by omega) (fun b hb=>.inl (List.mem_append_left _ hb)) h3,?_⟩
     · rw[Nat.succ_mul,splice_right (by omega),show i*sz+sz-x1.length=i*sz from by omega]
     · refine k4 Q2 c' d' G2 (fun j x d G hj hG hq=>hs j x d G (by omega) (fun b hb=>(hG b hb).imp (List.mem_append_right _) id) hq) hc ?_;rw[show k+1+i=k+(i+1) from by omega];exact hn
theorem splice_get {xs c:List Value} {o n:Nat} (h:o+c.length<=xs.length):(splice xs o c)[n]?=if n<o then xs[n]? else if n<o+c.length then c[n-o]? else xs[n]?:=by
 unfold splice;have hl:(xs.take o).length=o:=by rw[List.length_take];omega
 split
 · rename_i h1;rw[List.append_assoc,List.getElem?_append_left (by omega),List.getElem?_take,if_pos h1]
 · rename_i h1;split
   · rename_i h2;rw[List.append_assoc,List.getElem?_append_right (by omega),hl,List.getElem?_append_left (by omega)]
   · rename_i h2;rw[List.append_assoc,List.getElem?_append_right (by omega),hl,List.getElem?_append_right (by omega),List.getElem?_drop]
     congr 1
     omega
theorem part_get {xs:List Value} {p L n:Nat}:((xs.drop p).take L)[n]?=if n<L then xs[p+n]? else none:=by
 rw[List.getElem?_take];split
 · rw[List.getElem?_drop]
 · rfl
theorem splice_length {xs c:List Value} {o:Nat} (h:o+c.length<=xs.length):(splice xs o c).length=xs.length:=by simp [splice];omega
theorem splice_splice {xs x c:List Value} {p o sz:Nat} (hx:x=(xs.drop p).take sz) (hp:p+sz<=xs.length) (ho:o+c.length<=sz):splice xs p (splice x o c)=splice xs (p+o) c:=by
 have hxl:x.length=sz:=by subst hx;rw[List.length_take,List.length_drop];omega
 have hsl:(splice x o c).length=sz:=by rw[splice_length (by omega),hxl]
 apply List.ext_getElem?;intro n;rw[splice_get (xs:=xs) (c:=splice x o c) (o:=p) (by omega),splice_get (xs:=xs) (c:=c) (o:=p+o) (by omega),hsl];by_cases h1:n<p
 · rw[if_pos h1,if_pos (by omega)]
 · rw[if_neg h1];by_cases h2:n<p+sz
   · rw[if_pos h2,splice_get (xs:=x) (c:=c) (o:=o) (by omega)];have hg:x[n-p]?=xs[n]?:=by rw[hx,part_get,if_pos (by omega),show p+(n-p)=n from by omega]
     rw[hg];by_cases h3:n<p+o
     · rw[if_pos (by omega),if_pos h3]
     · rw[if_neg (by omega),if_neg h3];by_cases h4:n<p+o+c.length
       · rw[if_pos (by omega),if_pos h4];congr 1;omega
       · rw[if_neg (by omega),if_neg h4]
   · rw[if_neg h2,if_neg (by omega),if_neg (by omega)]
theorem take_splice {xs c:List Value} {n o:Nat} (h:o+c.length<=n) (hn:n<=xs.length):(splice xs o c).take n=splice (xs.take n) o c:=by
 have hl:(xs.take n).length=n:=by rw[List.length_take];omega
 apply List.ext_getElem?;intro k;rw[List.getElem?_take,splice_get (xs:=xs) (c:=c) (o:=o) (by omega),splice_get (xs:=xs.take n) (c:=c) (o:=o) (by omega),List.getElem?_take];by_cases h1:k<n
 · rw[if_pos h1,if_pos h1]
 · rw[if_neg h1,if_neg h1,if_neg (by omega),if_neg (by omega)]
theorem mul_in {i n sz:Nat} (h:i<n):i*sz+sz<=n*sz:=by rw[<- Nat.succ_mul];exact Nat.mul_le_mul_right _ h
theorem Own.part {S:Nat->Prop} {w:World} {tid:TypeId} {e e':OT} {H:Hd} {b i o L:Nat} {v:Value} {ds:List Dat} {F:List Nat} {g:Dat->Dat} {s:Dat->Dat->Dat} (h:Own S w (.sl tid e) H b [v] (.node ds) F) (hi:i<ds.length) (hloc:locO e o L=some (e',g,s)) :
   ∃bl oo cap cur A F' B,H b []=.slice (some ⟨bl,oo,none⟩) ds.length cap/\F=bl::(A++(F'++B))/\w.heap[bl]?=some (.cells cur tid (0,0))/\e'.size=L/\o+L<=e.size/\oo+(i*e.size+o)+L<=cur.size/\Own S w e' (H.at b i) o ((cur.toList.drop (oo+(i*e.size+o))).take L) (g (ds.getD i default)) F'/\
     ∀(S2:Nat->Prop) (w2:World) (H2:Hd) (c':List Value) (d':Dat) (F2:List Nat) (cur2:Array Value),Keeps S w w2->(∀x,S x->S2 x)->(∀x,x∈A\/x∈B->w2.heap[x]?=w.heap[x]?)->w2.heap[bl]?=some (.cells cur2 tid (0,0))->cur2.toList=splice cur.toList (oo+(i*e.size+o)) c'->H2 b []=H b []->
       (∀j o' ρ,(j≠i\/o'<o\/o+L<=o')->H2 b ((j,o')::ρ)=H b ((j,o')::ρ))->Own S2 w2 e' (H2.at b i) o c' d' F2->Own S2 w2 (.sl tid e) H2 b [v] (.node (ds.set i (s (ds.getD i default) d'))) (bl::(A++(F2++B))):=by
 obtain⟨ds',xs,F0,h0,h0',h1,h1',h2,rfl⟩:=h;simp at h0 h0';subst h0;subst h0';have hl:=fun i x d F (hq:Own S w e (H.at b i) 0 x d F)=>hq.length
 obtain⟨A1,F1,B1,rfl,k2,k3,k4⟩:=h2.focus hl hi;rw[Nat.zero_add] at k3 k4;obtain⟨p1,p2,A2,F',B2,rfl,p4,p5⟩:=locO_ok k3 _ _ _ hloc;have hx:=k3.length;have ho:o+L<=e.size:=by omega
 rw[Nat.zero_add] at p4 p5;rcases h1.2 with ⟨_,hn⟩ | ⟨bl,oo,cap,cur,hv,hheap,hcap,hmax,hsz,htk⟩
 · omega
 · have hxl:xs.length=ds.length*e.size:=h1.1;have hle0:ds.length*e.size<=cap*e.size:=Nat.mul_le_mul_right _ hcap;have hle:oo+ds.length*e.size<=cur.size:=by omega
   have hie:=mul_in (sz:=e.size) hi;have hpart:(((xs.drop (i*e.size)).take e.size).drop o).take L=(cur.toList.drop (oo+(i*e.size+o))).take L:=by
     rw[<- htk];apply List.ext_getElem?;intro n;rw[part_get (xs:=cur.toList),part_get (xs:=(((cur.toList.drop oo).take (ds.length*e.size)).drop (i*e.size)).take e.size)];by_cases h5:n<L
     · rw[if_pos h5,if_pos h5,part_get,if_pos (by omega),List.getElem?_take,if_pos (by omega),List.getElem?_drop];congr 1;omega
     · rw[if_neg h5,if_neg h5]
   refine⟨bl,oo,cap,cur,A1++A2,F',B2++B1,hv,?_,hheap,p1,ho,by omega,by rw[<- hpart];exact p4,fun S2 w2 H2 c' d' F2 cur2 hK hS hAB hheap2 hcur2 hH0 hH hn=>?_⟩
   · rw[hv];simp [Value.ownBlock]
   · have hc':c'.length=L:=by rw[hn.length,p1]
     have hbl:((H b []).ownBlock.toList:List Nat)=[bl]:=by rw[hv];rfl
     refine⟨ds.set i (s (ds.getD i default) d'),splice xs (i*e.size+o) c',A1++((A2++(F2++B2))++B1),by rw[hH0],rfl,?_,by simpa using h1',?_,by rw[hH0,hbl];simp⟩
     · rw[hH0];refine⟨by simp [splice,hc'];omega,.inr ⟨bl,oo,cap,cur2,by rw[hv];simp,hheap2,by simpa using hcap,hmax,?_,?_⟩⟩
       · have:cur2.size=cur.size:=by
           have:=congrArg List.length hcur2
           simp [splice,hc'] at this;omega
         rw[this];exact hsz
       · have hsp:splice cur.toList (oo+(i*e.size+o)) c'=cur.toList.take oo++splice (cur.toList.drop oo) (i*e.size+o) c':=by
           conv=>lhs;rw[<- List.take_append_drop oo cur.toList]
           have hto:(cur.toList.take oo).length=oo:=by rw[List.length_take,Array.length_toList];omega
           rw[splice_right (by rw[hto];omega),hto,Nat.add_sub_cancel_left]
         have hdr:(cur.toList.take oo++splice (cur.toList.drop oo) (i*e.size+o) c').drop oo=splice (cur.toList.drop oo) (i*e.size+o) c':=by
           have hto:(cur.toList.take oo).length=oo:=by rw[List.length_take,Array.length_toList];omega
           rw[List.drop_append,List.drop_eq_nil_of_le (by omega),List.nil_append,hto,Nat.sub_self,List.drop_zero]
         rw[List.length_set,hcur2,hsp,hdr,take_splice (by omega) (by simp;omega),htk]
     · have k5:=k4 (fun i=>Own S2 w2 e (H2.at b i) 0) (splice ((xs.drop (i*e.size)).take e.size) o c') (s (ds.getD i default) d') (A2++(F2++B2)) ?_ (by simp [splice,hc'];omega) ?_
       · rw[splice_splice rfl (by omega) (by omega)] at k5;exact k5
       · intro j x d G hj hG hq;refine hq.mono hK hS (fun k ρ _ _=>hH j k ρ (.inl hj)) (fun x hx=>hAB x ?_);rcases hG x hx with h5 | h5
         · exact .inl (List.mem_append_left _ h5)
         · exact .inr (List.mem_append_right _ h5)
       · refine p5 S2 w2 (H2.at b i) c' d' F2 (fun e1 b1 cs1 d1 G hG hb1 hq=>hq.mono hK hS (fun k ρ hk1 hk2=>hH i k ρ (.inr (by omega))) (fun x hx=>hAB x ?_)) hn;rcases hG x hx with h5 | h5
         · exact .inl (List.mem_append_right _ h5)
         · exact .inr (List.mem_append_left _ h5)
abbrev Path:=List (Nat×Nat)
def stepO (e:OT) (o:Nat):Option (TypeId×OT×(Dat->Dat)×(Dat->Dat->Dat)×Bool):=
 match e with
 | .mp _ v=>if o=0 then (match v with
   | .sl t e'=>some (t,e',(fun d=>d.f 1),(fun d x=>.node [d.f 0,x]),false)
   | .ho t e'=>some (t,e',(fun d=>d.f 1),(fun d x=>.node [d.f 0,x]),true)
   | _=>none) else none
 | e=>match locO e o 1 with
   | some (.sl t e',g,s)=>some (t,e',g,s,false)
   | some (.ho t e',g,s)=>some (t,e',g,s,true)
   | _=>none
def typeP:TypeId->OT->Path->Option (TypeId×OT)
 | tid,e,[]=>bif e.isMp then none else some (tid,e)
 | _,e,(_,o)::π=>match stepO e o with
   | some (tid',e',_,_,_)=>bif e'.isMp then none else typeP tid' e' π
   | none=>none
def typeQ:TypeId->OT->Path->Option (TypeId×OT)
 | tid,e,[]=>some (tid,e)
 | _,e,(_,o)::π=>match stepO e o with
   | some (tid',e',_,_,_)=>bif e'.isMp then none else typeQ tid' e' π
   | none=>none
theorem typeP_Q:∀{π:Path} {tid tid':TypeId} {e e':OT},typeP tid e π=some (tid',e')->typeQ tid e π=some (tid',e')/\e'.isMp=false
 | [],tid,tid',e,e',h=>by
   unfold typeP at h;cases hmp:e.isMp with
   | true=>rw[hmp] at h;cases h
   | false=>
     rw[hmp] at h;simp at h;obtain⟨rfl,rfl⟩:=h;exact⟨rfl,hmp⟩
 | (i,o)::π,tid,tid',e,e',h=>by
   unfold typeP at h;unfold typeQ;split at h
   · rename_i t1 e1 g s ho hst;cases hmp:e1.isMp with
     | true=>rw[hmp] at h;cases h
     | false=>
       rw[hmp] at h;simp only[cond_false] at h ⊢;exact typeP_Q h
   · cases h
def getP:OT->List Dat->Path->List Dat
 | _,ds,[]=>ds
 | e,ds,(i,o)::π=>match stepO e o with
   | some (_,e',g,_,_)=>getP e' (g (ds.getD i default)).kids π
   | none=>[]
def setP:OT->List Dat->Path->List Dat->List Dat
 | _,_,[],new=>new
 | e,ds,(i,o)::π,new=>match stepO e o with
   | some (_,e',g,s,_)=>ds.set i (s (ds.getD i default) (.node (setP e' (g (ds.getD i default)).kids π new)))
   | none=>ds
def okP:OT->List Dat->Path->Prop
 | _,_,[]=>True
 | e,ds,(i,o)::π=>i<ds.length/\match stepO e o with
   | some (_,e',g,_,false)=>okP e' (g (ds.getD i default)).kids π
   | some (_,e',g,_,true)=>isN (g (ds.getD i default))/\okP e' (g (ds.getD i default)).kids π
   | none=>False
def hoP:OT->Path->Bool
 | _,[]=>false
 | e,(_,o)::π=>match stepO e o with
   | some (_,e',_,_,ho)=>(match π with
     | []=>ho
     | π=>hoP e' π)
   | none=>false
def holeP:OT->List Dat->Path->List Dat
 | _,ds,[]=>ds
 | e,ds,(i,o)::π=>match stepO e o with
   | some (_,e',g,s,_)=>ds.set i (s (ds.getD i default) (match π with
     | []=>hole
     | π=>.node (holeP e' (g (ds.getD i default)).kids π)))
   | none=>ds
theorem splice_same {xs:List Value} {p:Nat} {v:Value} (h:(xs.drop p).take 1=[v]):splice xs p [v]=xs:=by
 have hp:xs[p]?=some v:=by
   have:=congrArg (·[0]?) h
   simpa [part_get] using this
 have hlt:=(List.getElem?_eq_some_iff.1 hp).1;apply List.ext_getElem?;intro n;rw[splice_get (by simp;omega)];split
 · rfl
 · split
   · rename_i h1 h2;obtain rfl:n=p:=by simp at h2;omega
     rw[Nat.sub_self,hp];rfl
   · rfl
theorem Own.sl_head {S:Nat->Prop} {w:World} {tid:TypeId} {e:OT} {H:Hd} {b:Nat} {v:Value} {d:Dat} {F:List Nat} (h:Own S w (.sl tid e) H b [v] d F):v=H b []/\d=.node d.kids:=by
 obtain⟨ds,xs,F',h0,h0',_⟩:=h;simp at h0;exact⟨h0,by rw[h0'];rfl⟩
theorem KeysAre.set {k:Ty} {x:Dat}:∀{es:List MapEntry} {ds:List Dat} (i:Nat),KeysAre k es ds->KeysAre k es (ds.set i (.node [(ds.getD i default).f 0,x]))
 | [],_,i,h=>by rw[show _=[] from h];exact rfl
 | m::es,_,0,⟨kd,vd,ds',h1,h2,h3⟩=>by
   subst h1;exact⟨kd,x,ds',rfl,h2,h3⟩
 | m::es,_,i+1,⟨kd,vd,ds',h1,h2,h3⟩=>by
   subst h1;exact⟨kd,vd,_,rfl,h2,h3.set i⟩
theorem map_getD {ds:List Dat} {i:Nat} (hi:i<ds.length):(ds.map fun d=>d.f 1).getD i default=(ds.getD i default).f 1:=by
 simp [List.getD_eq_getElem?_getD,List.getElem?_eq_getElem hi]
theorem map_set (ds:List Dat) (i:Nat) (y x:Dat):(ds.set i (.node [y,x])).map (fun d=>d.f 1)=(ds.map fun d=>d.f 1).set i x:=by
 rw[List.map_set];rfl
def stepT (t:TypeId) (e:OT) (ho:Bool):OT:=bif ho then .ho t e else .sl t e
theorem own_ho {S:Nat->Prop} {w:World} {t:TypeId} {e:OT} {H:Hd} {b:Nat} {cs:List Value} {d:Dat} {F:List Nat} (h:Own S w (.sl t e) H b cs d F) (ho:Bool):Own S w (stepT t e ho) H b cs d F:=by
 cases ho with
 | false=>exact h
 | true=>
   obtain⟨ds,xs,F',h0,h1,h2⟩:=h;exact⟨h0,.inr ⟨ds,xs,F',h1,h2⟩⟩
theorem own_unho {S:Nat->Prop} {w:World} {t:TypeId} {e:OT} {H:Hd} {b:Nat} {cs:List Value} {d:Dat} {F:List Nat} {ho:Bool} (h:Own S w (stepT t e ho) H b cs d F) (hn:ho=true->isN d):Own S w (.sl t e) H b cs d F:=by
 cases ho with
 | false=>exact h
 | true=>
   obtain⟨h0,h1 | ⟨ds,xs,F',h1,h2⟩⟩:=h
   · obtain⟨h2,h3⟩:=hn rfl;rcases h1.1 with h4 | ⟨x,h4,_⟩
     · rw[h4] at h2;cases h2
     · exact absurd (by rw[h4];rfl) (h3 x)
   · exact⟨ds,xs,F',h0,h1,h2⟩
def StepOk (S:Nat->Prop) (w:World) (tid t':TypeId) (e e':OT) (H:Hd) (b i o:Nat) (v:Value) (ds:List Dat) (F:List Nat) (g:Dat->Dat) (s:Dat->Dat->Dat) (ho:Bool):Prop:=
   ∃A F' B,F=A++(F'++B)/\Own S w (.sl t' e') (H.at b i) o [H b [(i,o)]] (g (ds.getD i default)) F'/\
     ∀(S2:Nat->Prop) (w2:World) (H2:Hd) (d':Dat) (F2:List Nat),Keeps S w w2->(∀x,S x->S2 x)->(∀x,x∈A\/x∈B->w2.heap[x]?=w.heap[x]?)->H2 b [(i,o)]=H b [(i,o)]->(∀ρ,(¬∃σ,ρ=(i,o)::σ)->H2 b ρ=H b ρ)->
       Own S2 w2 (stepT t' e' ho) (H2.at b i) o [H2 b [(i,o)]] d' F2->Own S2 w2 (headT tid e) H2 b [v] (.node (ds.set i (s (ds.getD i default) d'))) (A++(F2++B))
theorem path_ne {i o:Nat}:∀(j o':Nat) (ρ:Path),(j≠i\/o'<o\/o+1<=o')->¬∃σ,(j,o')::ρ=(i,o)::σ:=by
 rintro j o' ρ h1 ⟨σ,h2⟩;simp at h2;omega
theorem Own.stepS {S:Nat->Prop} {w:World} {tid t':TypeId} {e e':OT} {H:Hd} {b i o:Nat} {v:Value} {ds:List Dat} {F:List Nat} {g:Dat->Dat} {s:Dat->Dat->Dat} {ho:Bool} (h:Own S w (headT tid e) H b [v] (.node ds) F) (hi:i<ds.length) (hmp:e.isMp=false) (hloc:locO e o 1=some (stepT t' e' ho,g,s)) (hn:ho=true->isN (g (ds.getD i default))) :
   StepOk S w tid t' e e' H b i o v ds F g s ho:=by
 unfold StepOk;rw[headT_sl hmp] at h ⊢;obtain⟨bl,oo,cap,cur,A1,F1,B1,k1,rfl,k3,k4,k5,k6,k7,k8⟩:=h.part hi hloc;obtain⟨v1,hv1⟩:∃v1,(cur.toList.drop (oo+(i*e.size+o))).take 1=[v1]:=by
   have:=k7.length
   rw[k4] at this;exact List.length_eq_one_iff.1 this
 rw[hv1] at k7;have k7:=own_unho k7 hn;have hd:=k7.sl_head;have hv:v1=H b [(i,o)]:=hd.1;subst hv;refine⟨bl::A1,F1,B1,by simp,k7,fun S2 w2 H2 d' F2 hK hS hAB hH hH2 hn=>?_⟩
 have:=k8 S2 w2 H2 [H b [(i,o)]] d' F2 cur hK hS (fun x hx=>hAB x (by
     rcases hx with hx | hx
     · exact .inl (List.mem_cons_of_mem _ hx)
     · exact .inr hx)) (by rw[hAB bl (.inl (List.mem_cons_self ..))];exact k3) (splice_same hv1).symm (hH2 [] (by rintro⟨σ,h2⟩;cases h2)) (fun j o' ρ h1=>hH2 _ (path_ne j o' ρ h1)) (by rw[<- hH];exact hn)
 simpa using this
theorem stepO_loc {e e':OT} {o:Nat} {t':TypeId} {g:Dat->Dat} {s:Dat->Dat->Dat} {ho:Bool} (hmp:e.isMp=false) (hs:stepO e o=some (t',e',g,s,ho)):locO e o 1=some (stepT t' e' ho,g,s):=by
 cases e<;>first
   | cases hmp;done
   | (unfold stepO at hs
      simp only at hs;split at hs<;>simp only[Option.some.injEq,Prod.mk.injEq,reduceCtorEq] at hs
      · rename_i hl;obtain⟨rfl,rfl,rfl,rfl,rfl⟩:=hs;exact hl
      · rename_i hl;obtain⟨rfl,rfl,rfl,rfl,rfl⟩:=hs;exact hl)
theorem Own.step {S:Nat->Prop} {w:World} {tid t':TypeId} {e e':OT} {H:Hd} {b i o:Nat} {v:Value} {ds:List Dat} {F:List Nat} {g:Dat->Dat} {s:Dat->Dat->Dat} {ho:Bool} (h:Own S w (headT tid e) H b [v] (.node ds) F) (hi:i<ds.length) (hs:stepO e o=some (t',e',g,s,ho)) (hn:ho=true->isN (g (ds.getD i default))) :
   StepOk S w tid t' e e' H b i o v ds F g s ho:=by
 cases e with
 | mp k vt=>
   obtain⟨ds',es,clock,g0,F0,h0,h0',hd,h1,hsz,hks,h2,rfl⟩:=h;simp at h0 hd;subst h0;subst hd;have hl:=fun i x d F (hq:Own S w vt (H.at b i) 0 x d F)=>hq.length
   rw[hsz] at hl;obtain⟨A1,F1,B1,rfl,k2,k3,k4⟩:=h2.focus hl (i:=i) (by simpa using hi);rw[Nat.zero_add,map_getD hi] at k3;rw[Nat.zero_add] at k4;have hs':o=0/\vt=stepT t' e' ho/\g=(fun d=>d.f 1)/\s=(fun d x=>.node [d.f 0,x]):=by
     unfold stepO at hs;simp only at hs;split at hs
     · rename_i ho0;split at hs<;>simp only[Option.some.injEq,Prod.mk.injEq,reduceCtorEq] at hs
       · obtain⟨rfl,rfl,rfl,rfl,rfl⟩:=hs;exact⟨ho0,rfl,rfl,rfl⟩
       · obtain⟨rfl,rfl,rfl,rfl,rfl⟩:=hs;exact⟨ho0,rfl,rfl,rfl⟩
     · cases hs
   obtain⟨rfl,rfl,rfl,rfl⟩:=hs';obtain⟨v1,hv1⟩:∃v1,((es.toList.map MapEntry.val).drop (i*1)).take 1=[v1]:=by
     have:=k3.length
     rw[hsz] at this;exact List.length_eq_one_iff.1 this
   rw[hv1] at k3;have k3:=own_unho k3 hn;have hv:v1=H b [(i,0)]:=k3.sl_head.1;subst hv;refine⟨g0::A1,F1,B1,by simp,k3,fun S2 w2 H2 d' F2 hK hS hAB hH hH2 hn=>?_⟩;have hH0:H2 b []=H b []:=hH2 [] (by rintro⟨σ,h2⟩;cases h2);have hel:=k4 (fun i=>Own S2 w2 (stepT t' e' ho) (H2.at b i) 0) [H b [(i,0)]] d' F2 (fun j x d G hj hG hq=>hq.mono hK hS (fun k ρ _ hk=>by
       rw[hsz] at hk;exact hH2 _ (path_ne j k ρ (.inl hj))) (fun x hx=>hAB x (by
         rcases hG x hx with hx | hx
         · exact .inl (List.mem_cons_of_mem _ hx)
         · exact .inr hx))) rfl (by rw[<- hH];exact hn)
   rw[splice_same (by rw[Nat.mul_one] at hv1;rw[Nat.mul_one];exact hv1)] at hel;refine⟨_,es,clock,g0,A1++(F2++B1),by rw[hH0],by rw[hH0];exact h0',rfl,by rw[hAB g0 (.inl (List.mem_cons_self ..))];exact h1,hsz,hks.set i,?_,by simp⟩;rw[map_set];exact hel
 | im t=>exact h.stepS hi rfl (stepO_loc rfl hs) hn
 | sl t e1=>exact h.stepS hi rfl (stepO_loc rfl hs) hn
 | st fs=>exact h.stepS hi rfl (stepO_loc rfl hs) hn
 | ho t e1=>exact h.stepS hi rfl (stepO_loc rfl hs) hn
theorem okP_cons {e e':OT} {ds:List Dat} {i o:Nat} {π:Path} {t':TypeId} {g:Dat->Dat} {s:Dat->Dat->Dat} {ho:Bool} (hs:stepO e o=some (t',e',g,s,ho)) (h:okP e ds ((i,o)::π)):i<ds.length/\(ho=true->isN (g (ds.getD i default)))/\okP e' (g (ds.getD i default)).kids π:=by
 obtain⟨h1,h2⟩:=h;rw[hs] at h2;cases ho with
 | false=>exact⟨h1,fun h=>(by cases h),h2⟩
 | true=>exact⟨h1,fun _=>h2.1,h2.2⟩
theorem Own.head_val {S:Nat->Prop} {w:World} {tid:TypeId} {e:OT} {H:Hd} {b:Nat} {v:Value} {d:Dat} {F:List Nat} (h:Own S w (headT tid e) H b [v] d F):v=H b []/\d=.node d.kids:=by
 cases e with
 | mp k v'=>
   obtain⟨ds,es,clock,g,F',h0,_,h1,_⟩:=h;simp at h0;exact⟨h0,by rw[h1];rfl⟩
 | _=>exact h.sl_head
theorem own_sl_shift {S:Nat->Prop} {w:World} {tid:TypeId} {e:OT} {H H':Hd} {b b':Nat} {cs:List Value} {d:Dat} {F:List Nat} (h:Own S w (.sl tid e) H b cs d F) (e0:H b=H' b'):Own S w (.sl tid e) H' b' cs d F:=by
 obtain⟨ds,xs,F',h0,h1,h2,h3,h4,h5⟩:=h;refine⟨ds,xs,F',by rw[<- e0];exact h0,h1,by rw[<- e0];exact h2,h3,?_,by rw[<- e0];exact h5⟩
 have:∀i,H'.at b' i=H.at b i:=fun i=>by funext o ρ;simp only[Hd.at,e0]
 simpa only[this] using h4
theorem own_head_shift {S:Nat->Prop} {w:World} {tid:TypeId} {e:OT} {H H':Hd} {b b':Nat} {cs:List Value} {d:Dat} {F:List Nat} (h:Own S w (headT tid e) H b cs d F) (e0:H b=H' b'):Own S w (headT tid e) H' b' cs d F:=by
 cases e with
 | mp k v=>
   obtain⟨ds,es,clock,g,F',h0,h1,h2,h3,h4,h5,h6,h7⟩:=h;refine⟨ds,es,clock,g,F',by rw[<- e0];exact h0,by rw[<- e0];exact h1,h2,h3,h4,h5,?_,h7⟩
   have:∀i,H'.at b' i=H.at b i:=fun i=>by funext o ρ;simp only[Hd.at,e0]
   simpa only[this] using h6
 | im t=>exact own_sl_shift (e:=.im t) h e0
 | sl t e=>exact own_sl_shift (e:=.sl t e) h e0
 | st fs=>exact own_sl_shift (e:=.st fs) h e0
 | ho t e=>exact own_sl_shift (e:=.ho t e) h e0
theorem Own.pathQ {S:Nat->Prop} {w:World}:∀{π:Path} {tid tid':TypeId} {e e':OT} {H:Hd} {b:Nat} {v:Value} {ds:List Dat} {F:List Nat},typeQ tid e π=some (tid',e')->okP e ds π->Own S w (headT tid e) H b [v] (.node ds) F->
   ∃A F' B,F=A++(F'++B)/\Own S w (headT tid' e') (fun _ ρ=>H b (π++ρ)) 0 [H b π] (.node (getP e ds π)) F'/\
     ∀(S2:Nat->Prop) (w2:World) (H2:Hd) (new:List Dat) (F2:List Nat),Keeps S w w2->(∀x,S x->S2 x)->(∀x,x∈A\/x∈B->w2.heap[x]?=w.heap[x]?)->H2 b π=H b π->(∀ρ,(¬∃σ,ρ=π++σ)->H2 b ρ=H b ρ)->
       Own S2 w2 (headT tid' e') (fun _ ρ=>H2 b (π++ρ)) 0 [H2 b π] (.node new) F2->Own S2 w2 (headT tid e) H2 b [v] (.node (setP e ds π new)) (A++(F2++B))
 | [],tid,tid',e,e',H,b,v,ds,F,ht,_,h=>by
   unfold typeQ at ht;simp at ht;obtain⟨rfl,rfl⟩:=ht;have hv:=h.head_val.1;subst hv;refine⟨[],F,[],by simp,?_,fun S2 w2 H2 new F2 _ _ _ hH _ hn=>?_⟩
   · exact own_head_shift h rfl
   · rw[List.nil_append,List.append_nil];rw[<- hH];exact own_head_shift hn rfl
 | (i,o)::π,tid,tid',e,e',H,b,v,ds,F,ht,hok,h=>by
   unfold typeQ at ht;split at ht
   · rename_i tid1 e1 g s ho hst;cases hmp:e1.isMp with
     | true=>rw[hmp] at ht;cases ht
     | false=>
     rw[hmp] at ht;simp only[cond_false] at ht;obtain⟨hi,hn,hok⟩:=okP_cons hst hok;obtain⟨A1,F1,B1,rfl,k2,k3⟩:=h.step hi hst hn;have hd:=k2.sl_head;rw[hd.2] at k2;rw[<- headT_sl (tid:=tid1) hmp] at k2;obtain⟨A2,F',B2,rfl,m2,m3⟩:=Own.pathQ (π:=π) ht hok k2;have hg:getP e ds ((i,o)::π)=getP e1 (g (ds.getD i default)).kids π:=by rw[getP,hst]
     refine⟨A1++A2,F',B2++B1,by simp,?_,fun S2 w2 H2 new F2 hK hS hAB hH hH2 hn=>?_⟩
     · rw[hg];exact m2
     · have hs:setP e ds ((i,o)::π) new=ds.set i (s (ds.getD i default) (.node (setP e1 (g (ds.getD i default)).kids π new))):=by rw[setP,hst]
       rw[hs];have hhead:H2 b [(i,o)]=H b [(i,o)]:=by
         cases π with
         | nil=>exact hH
         | cons p π=>exact hH2 _ (by rintro⟨σ,h2⟩;simp at h2)
       have hin:=m3 S2 w2 (H2.at b i) new F2 hK hS (fun x hx=>hAB x (by
           rcases hx with hx | hx
           · exact .inl (List.mem_append_right _ hx)
           · exact .inr (List.mem_append_left _ hx))) hH (fun ρ hρ=>hH2 _ (fun⟨σ,hσ⟩=>hρ ⟨σ,by simpa using hσ⟩)) hn
       rw[headT_sl hmp] at hin
       have:=k3 S2 w2 H2 _ _ hK hS (fun x hx=>hAB x (by
           rcases hx with hx | hx
           · exact .inl (List.mem_append_left _ hx)
           · exact .inr (List.mem_append_right _ hx))) hhead (fun ρ hρ=>hH2 _ (fun⟨σ,hσ⟩=>hρ ⟨π++σ,by rw[hσ];simp⟩)) (by rw[hhead];exact own_ho hin ho)
       simpa using this
   · cases ht
theorem Own.path {S:Nat->Prop} {w:World} {π:Path} {tid tid':TypeId} {e e':OT} {H:Hd} {b:Nat} {v:Value} {ds:List Dat} {F:List Nat} (ht:typeP tid e π=some (tid',e')) (hok:okP e ds π) (h:Own S w (headT tid e) H b [v] (.node ds) F) :
   ∃A F' B,F=A++(F'++B)/\Own S w (.sl tid' e') (fun _ ρ=>H b (π++ρ)) 0 [H b π] (.node (getP e ds π)) F'/\
     ∀(S2:Nat->Prop) (w2:World) (H2:Hd) (new:List Dat) (F2:List Nat),Keeps S w w2->(∀x,S x->S2 x)->(∀x,x∈A\/x∈B->w2.heap[x]?=w.heap[x]?)->H2 b π=H b π->(∀ρ,(¬∃σ,ρ=π++σ)->H2 b ρ=H b ρ)->
       Own S2 w2 (.sl tid' e') (fun _ ρ=>H2 b (π++ρ)) 0 [H2 b π] (.node new) F2->Own S2 w2 (headT tid e) H2 b [v] (.node (setP e ds π new)) (A++(F2++B)):=by
 obtain⟨hq,hmp⟩:=typeP_Q ht
 have:=Own.pathQ hq hok h
 rw[headT_sl hmp] at this;exact this
theorem Own.take {S:Nat->Prop} {w:World}:∀{π:Path} {tid tid':TypeId} {e e':OT} {H:Hd} {b:Nat} {v:Value} {ds:List Dat} {F:List Nat},hoP e π=true->typeP tid e π=some (tid',e')->okP e ds π->Own S w (headT tid e) H b [v] (.node ds) F->
   ∃A F' B,F=A++(F'++B)/\Own S w (.sl tid' e') (fun _ ρ=>H b (π++ρ)) 0 [H b π] (.node (getP e ds π)) F'/\Own S w (headT tid e) H b [v] (.node (holeP e ds π)) (A++B)
 | [],tid,tid',e,e',H,b,v,ds,F,hh,_,_,_=>by cases hh
 | [(i,o)],tid,tid',e,e',H,b,v,ds,F,hh,ht,hok,h=>by
   unfold typeP at ht;split at ht
   · rename_i tid1 e1 g s ho hst;cases hmp:e1.isMp with
     | true=>rw[hmp] at ht;cases ht
     | false=>
     rw[hmp] at ht;simp only[cond_false,typeP,hmp,Option.some.injEq,Prod.mk.injEq] at ht;obtain⟨rfl,rfl⟩:=ht;simp only[hoP,hst] at hh;subst hh;obtain⟨hi,hn,hok⟩:=okP_cons hst hok;obtain⟨A1,F1,B1,rfl,k2,k3⟩:=h.step hi hst hn;have hg:getP e ds [(i,o)]=(g (ds.getD i default)).kids:=by rw[getP,hst];rfl
     have hd:=k2.sl_head;have hsl:isSl (H b [(i,o)]):=by
       obtain⟨_,_,_,_,_,k,_⟩:=k2;obtain⟨ad,cap,hv,_⟩:=slice_of_owns k;exact⟨_,_,_,hv⟩
     refine⟨A1,F1,B1,rfl,?_,?_⟩
     · rw[hg,<- hd.2];exact k2
     · rw[holeP,hst]
       have:=k3 S w H hole [] (fun _ _=>rfl) (fun _ h=>h) (fun _ _=>rfl) rfl (fun _ _=>rfl) ⟨rfl,.inl ⟨.inl rfl,hsl,rfl⟩⟩
       simpa using this
   · cases ht
 | (i,o)::p::π,tid,tid',e,e',H,b,v,ds,F,hh,ht,hok,h=>by
   unfold typeP at ht;split at ht
   · rename_i tid1 e1 g s ho hst;cases hmp:e1.isMp with
     | true=>rw[hmp] at ht;cases ht
     | false=>
     rw[hmp] at ht;simp only[cond_false] at ht;have hh:hoP e1 (p::π)=true:=by rw[hoP,hst] at hh;exact hh
     obtain⟨hi,hn,hok⟩:=okP_cons hst hok;obtain⟨A1,F1,B1,rfl,k2,k3⟩:=h.step hi hst hn;have hd:=k2.sl_head;rw[hd.2] at k2;rw[<- headT_sl (tid:=tid1) hmp] at k2;obtain⟨A2,F',B2,rfl,m2,m3⟩:=Own.take (π:=p::π) hh ht hok k2;have hg:getP e ds ((i,o)::p::π)=getP e1 (g (ds.getD i default)).kids (p::π):=by rw[getP,hst]
     refine⟨A1++A2,F',B2++B1,by simp,?_,?_⟩
     · rw[hg];exact m2
     · rw[holeP,hst];rw[headT_sl hmp] at m3
       have:=k3 S w H _ _ (fun _ _=>rfl) (fun _ h=>h) (fun _ _=>rfl) rfl (fun _ _=>rfl) (own_ho m3 ho)
       simpa using this
   · cases ht
theorem Own.elem {S:Nat->Prop} {w:World} {tid:TypeId} {e:OT} {H:Hd} {b i:Nat} {v:Value} {ds:List Dat} {F:List Nat} (h:Own S w (.sl tid e) H b [v] (.node ds) F) (hi:i<ds.length) :
   ∃g oo cap cs G,H b []=.slice (some ⟨g,oo,none⟩) ds.length cap/\w.rangeAt g (oo+i*e.size) cs/\Own S w e (H.at b i) 0 cs (ds.getD i default) G:=by
 obtain⟨ds',xs,F0,h0,h0',h1,h1',h2,rfl⟩:=h;simp at h0';subst h0';have hl:=fun i x d F (hq:Own S w e (H.at b i) 0 x d F)=>hq.length
 have hx:ds[i]?=some (ds.getD i default):=by rw[List.getD_eq_getElem?_getD,List.getElem?_eq_getElem hi];rfl
 obtain⟨G,_,h3⟩:=h2.get hl i _ hx;obtain⟨g,oo,cap,hv,_,h8⟩:=range_of_owns h1 (by omega);have h9:=range_elem (i:=i) (sz:=e.size) h8;rw[Nat.zero_add] at h3;exact⟨g,oo,cap,_,G,hv,h9,h3⟩
section
inductive SV where
 | un | tt | ff | int (k:IntKind) (n:Int) | bool (b:Bool) | str (s:ByteArray) | raw (v:Value) | nil | sl (e:Ty) (ds:List Dat) | own (j:Nat)
 | agg (l:List SV) | tup (l:List SV) | bp (j off:Nat) | rp (j:Nat) (π:Path) (i sz off:Nat) | ptr (t:Ty) (d:Dat) (off:Nat) | fn (f:FuncId) (caps:List SV) | nilp | ifc (t:TypeId) (l:List SV) | bf (f:FuncId) (first:List SV)
 | hs (j:Nat) (π:Path) | bsl (e:OT) (ds:List Dat) | bptr (e:OT) (d:Dat) (off:Nat) | arr (k:IntKind) (ds:List Dat)
instance:Inhabited SV:=⟨.un⟩
structure Env where
 bx:List Nat
 rw:List Value
 fp:List (List Nat)
 nh:Nat->Path->Value
 bo:Nat->Prop
 w0:World
structure Env.le (E E':Env):Prop where
 bx:∀(j b:Nat),E.bx[j]?=some b->E'.bx[j]?=some b
 rw:∀(j:Nat) (v:Value),E.rw[j]?=some v->E'.rw[j]?=some v
 fp:∀(j:Nat) (F:List Nat),E.fp[j]?=some F->E'.fp[j]?=some F
 nh:∀j,j<E.rw.length->E'.nh j=E.nh j
 bo:E'.bo=E.bo
 w0:E'.w0=E.w0
theorem Env.le_refl (E:Env):E.le E:=⟨fun _ _ h=>h,fun _ _ h=>h,fun _ _ h=>h,fun _ _=>rfl,rfl,rfl⟩
def isSlice (v:Value):Prop:=∃a n c,v=.slice a n c
def isHead (v:Value):Prop:=isSlice v\/∃g,v=.map (some g)
mutual
def RelV (S:Nat->Prop) (E:Env) (w:World):SV->Value->Prop
 | .un,_=>True
 | .tt,v=>v=.bool true
 | .ff,v=>v=.bool false
 | .int k n,v=>v=.int k n/\Has k n
 | .bool b,v=>v=.bool b
 | .str s,v=>v=.string s/\s.size<=140737488351232
 | .raw x,v=>v=x/\x.oneCell'=true
 | .nil,v=>v=.slice none 0 0
 | .sl e ds,v=>Rep S w (.sl e) [v] (.node ds)
 | .own j,v=>E.rw[j]?=some v/\isHead v
 | .agg l,v=>∃vs,v=.agg vs.toArray/\RelVs S E w l vs
 | .tup l,v=>∃vs,v=.tuple vs.toArray/\RelVs S E w l vs
 | .bp j off,v=>∃b,E.bx[j]?=some b/\v=.pointer (some ⟨b,off,none⟩)
 | .rp j π i sz off,v=>∃(g:Nat×Nat) (n c:Nat),j<E.rw.length/\E.nh j π=.slice (some ⟨g.1,g.2,none⟩) n c/\v=.pointer (some ⟨g.1,g.2+(i*sz+off),none⟩)
 | .ptr t d off,v=>∃b o cs,v=.pointer (some ⟨b,o+off,none⟩)/\S b/\w.rangeAt b o cs/\Rep S w t cs d
 | .fn f caps,v=>∃vs,v=.func (.func f) #[] vs.toArray/\RelVs S E w caps vs
 | .nilp,v=>v=.pointer none
 | .ifc t l,v=>∃vs,v=.iface t (.agg vs.toArray)/\RelVs S E w l vs
 | .bf f l,v=>∃vs,v=.func (.func f) vs.toArray #[]/\RelVs S E w l vs
 | .hs j π,v=>j<E.rw.length/\E.nh j π=v/\isHead v
 | .bsl e ds,v=>Bor S w E.bo E.w0 (.sl 0 e) [v] (.node ds)
 | .bptr e d off,v=>∃b o cs,v=.pointer (some ⟨b,o+off,none⟩)/\E.bo b/\E.w0.rangeAt b o cs/\Bor S w E.bo E.w0 e cs d
 | .arr k ds,v=>v=.agg (ds.map fun d=>Value.int k d.toInt).toArray/\∀d∈ds,Has k d.toInt
def RelVs (S:Nat->Prop) (E:Env) (w:World):List SV->List Value->Prop
 | [],vs=>vs=[]
 | s::l,vs=>∃v vs',vs=v::vs'/\RelV S E w s v/\RelVs S E w l vs'
end
theorem Env.le.lt {E E':Env} (h:E.le E') {j:Nat} (hj:j<E.rw.length):j<E'.rw.length:=(List.getElem?_eq_some_iff.1 (h.rw j _ (List.getElem?_eq_getElem hj))).1
mutual
theorem RelV.mono {S S':Nat->Prop} {E E':Env} {w w':World} (hk:Keeps S w w') (hS:∀b,S b->S' b) (hE:E.le E'):∀{s:SV} {v:Value},RelV S E w s v->RelV S' E' w' s v
 | .un,_,_=>trivial
 | .tt,_,h=>h
 | .ff,_,h=>h
 | .int _ _,_,h=>h
 | .bool _,_,h=>h
 | .str _,_,h=>h
 | .raw _,_,h=>h
 | .nil,_,h=>h
 | .sl _ _,_,h=>Rep.mono hk hS h
 | .own j,v,⟨h,h'⟩=>⟨hE.rw j v h,h'⟩
 | .agg _,_,⟨vs,h1,h2⟩=>⟨vs,h1,RelVs.mono hk hS hE h2⟩
 | .tup _,_,⟨vs,h1,h2⟩=>⟨vs,h1,RelVs.mono hk hS hE h2⟩
 | .bp j _,_,⟨b,h1,h2⟩=>⟨b,hE.bx j b h1,h2⟩
 | .rp j π _ _ _,_,⟨g,n,c,h0,h1,h2⟩=>⟨g,n,c,hE.lt h0,by rw[hE.nh j h0];exact h1,h2⟩
 | .ptr _ _ _,_,⟨b,o,cs,h1,h2,h3,h4⟩=>⟨b,o,cs,h1,hS b h2,range_keeps h3 hk h2,Rep.mono hk hS h4⟩
 | .fn _ _,_,⟨vs,h1,h2⟩=>⟨vs,h1,RelVs.mono hk hS hE h2⟩
 | .nilp,_,h=>h
 | .ifc _ _,_,⟨vs,h1,h2⟩=>⟨vs,h1,RelVs.mono hk hS hE h2⟩
 | .bf _ _,_,⟨vs,h1,h2⟩=>⟨vs,h1,RelVs.mono hk hS hE h2⟩
 | .hs j _,_,⟨h0,h1,h2⟩=>⟨hE.lt h0,by rw[hE.nh j h0];exact h1,h2⟩
 | .bsl _ _,_,h=>by
   show Bor S' w' E'.bo E'.w0 _ _ _;rw[hE.bo,hE.w0];exact Bor.mono hk hS h
 | .bptr _ _ _,_,⟨b,o,cs,h1,h2,h3,h4⟩=>⟨b,o,cs,h1,by rw[hE.bo];exact h2,by rw[hE.w0];exact h3,by rw[hE.bo,hE.w0];exact Bor.mono hk hS h4⟩
 | .arr _ _,_,h=>h
theorem RelVs.mono {S S':Nat->Prop} {E E':Env} {w w':World} (hk:Keeps S w w') (hS:∀b,S b->S' b) (hE:E.le E'):∀{l:List SV} {vs:List Value},RelVs S E w l vs->RelVs S' E' w' l vs
 | [],_,h=>h
 | _::_,_,⟨v,vs',h1,h2,h3⟩=>⟨v,vs',h1,RelV.mono hk hS hE h2,RelVs.mono hk hS hE h3⟩
end
section
variable {S:Nat->Prop} {E:Env} {w:World}
theorem RelVs.length:∀{l:List SV} {vs:List Value},RelVs S E w l vs->vs.length=l.length
 | [],_,h=>by rw[h];rfl
 | _::_,_,⟨v,vs',h1,_,h3⟩=>by rw[h1,List.length_cons,List.length_cons,h3.length]
theorem RelVs.get:∀{l:List SV} {vs:List Value},RelVs S E w l vs->∀{i:Nat} {s:SV},l[i]?=some s->∃v,vs[i]?=some v/\RelV S E w s v
 | [],_,_,_,_,hi=>by simp at hi
 | _::_,_,⟨v,vs',h1,h2,h3⟩,0,s,hi=>by
   simp at hi;subst hi;subst h1;exact⟨v,rfl,h2⟩
 | _::_,_,⟨v,vs',h1,h2,h3⟩,i+1,s,hi=>by
   subst h1;obtain⟨u,hu,hr⟩:=h3.get (i:=i) (s:=s) (by simpa using hi);exact⟨u,by simpa using hu,hr⟩
theorem RelVs.getD {l:List SV} {vs:List Value} (h:RelVs S E w l vs) (i:Nat):RelV S E w (l.getD i .un) (vs.getD i undef):=by
 rw[List.getD_eq_getElem?_getD];cases hi:l[i]? with
 | none=>exact trivial
 | some s=>
   obtain⟨v,hv,hr⟩:=h.get hi;rw[List.getD_eq_getElem?_getD,hv];exact hr
theorem RelVs.set:∀{l:List SV} {vs:List Value},RelVs S E w l vs->∀(i:Nat) {s:SV} {v:Value},RelV S E w s v->RelVs S E w (l.set i s) (vs.set i v)
 | [],_,h,i,_,_,_=>by rw[h];exact rfl
 | _::_,_,⟨u,vs',h1,h2,h3⟩,0,_,v,hv=>by subst h1;exact⟨v,vs',rfl,hv,h3⟩
 | _::_,_,⟨u,vs',h1,h2,h3⟩,i+1,_,v,hv=>by subst h1;exact⟨u,vs'.set i v,rfl,h2,h3.set i hv⟩
theorem RelVs.append:∀{l m:List SV} {vs us:List Value},RelVs S E w l vs->RelVs S E w m us->RelVs S E w (l++m) (vs++us)
 | [],_,_,_,h,k=>by rw[h];exact k
 | _::_,_,_,_,⟨v,vs',h1,h2,h3⟩,k=>by subst h1;exact⟨v,_,rfl,h2,h3.append k⟩
theorem RelVs.drop:∀{l:List SV} {vs:List Value} (n:Nat),RelVs S E w l vs->RelVs S E w (l.drop n) (vs.drop n)
 | _,_,0,h=>h
 | [],_,n+1,h=>by rw[h];exact rfl
 | _::_,_,n+1,⟨v,vs',h1,h2,h3⟩=>by subst h1;exact h3.drop n
theorem RelVs.take:∀{l:List SV} {vs:List Value} (n:Nat),RelVs S E w l vs->RelVs S E w (l.take n) (vs.take n)
 | _,_,0,_=>by simp [RelVs]
 | [],_,n+1,h=>by rw[h];exact rfl
 | _::_,_,n+1,⟨v,vs',h1,h2,h3⟩=>by subst h1;exact⟨v,_,rfl,h2,h3.take n⟩
theorem RelVs.replicate (n:Nat) (v:Value):RelVs S E w (List.replicate n .un) (List.replicate n v):=by
 induction n with
 | zero=>exact rfl
 | succ n ih=>exact⟨v,_,rfl,trivial,ih⟩
end
def SV.one:SV->Bool
 | .un | .agg _ | .tup _ | .arr _ _=>false
 | _=>true
theorem RelV.one {S:Nat->Prop} {E:Env} {w:World} {s:SV} {v:Value} (h:RelV S E w s v) (h1:s.one=true):v.oneCell'=true:=by
 cases s<;>simp only[SV.one,Bool.false_eq_true,RelV] at h h1
 case int=>rw[h.1];rfl
 case tt=>rw[h];rfl
 case ff=>rw[h];rfl
 case bool=>rw[h];rfl
 case str=>rw[h.1];rfl
 case raw=>rw[h.1];exact h.2
 case nil=>rw[h];rfl
 case sl=>obtain⟨a,n,c,ds,h,_⟩:=h;simp at h;rw[h];rfl
 case own=>obtain⟨_,⟨a,n,c,rfl⟩ | ⟨g,rfl⟩⟩:=h<;>rfl
 case bp=>obtain⟨b,_,rfl⟩:=h;rfl
 case rp=>obtain⟨g,n,c,_,_,rfl⟩:=h;rfl
 case ptr=>obtain⟨b,o,cs,rfl,_⟩:=h;rfl
 case fn=>obtain⟨vs,rfl,_⟩:=h;rfl
 case nilp=>rw[h];rfl
 case ifc=>obtain⟨vs,rfl,_⟩:=h;rfl
 case bf=>obtain⟨vs,rfl,_⟩:=h;rfl
 case hs=>obtain⟨_,_,⟨a,n,c,rfl⟩ | ⟨g,rfl⟩⟩:=h<;>rfl
 case bsl=>obtain⟨a,n,c,ds,h,_⟩:=h;simp at h;rw[h];rfl
 case bptr=>obtain⟨b,o,cs,rfl,_⟩:=h;rfl
theorem RelVs.one {S:Nat->Prop} {E:Env} {w:World}:∀{l:List SV} {vs:List Value},RelVs S E w l vs->l.all SV.one=true->∀v∈vs,v.oneCell'=true
 | [],_,h,_,v,hv=>by rw[h] at hv;cases hv
 | _::_,_,⟨u,vs',h1,h2,h3⟩,ho,v,hv=>by
   simp only[List.all_cons,Bool.and_eq_true] at ho;subst h1;rcases List.mem_cons.1 hv with rfl | hv
   · exact h2.one ho.1
   · exact h3.one ho.2 v hv
mutual
def flat:Ty->Dat->List SV
 | .int k,d=>[.int k d.toInt]
 | .bool,d=>[.bool d.toBool]
 | .str,d=>[.str d.toStr]
 | .raw,d=>[.raw d.toRaw]
 | .sl e,d=>[.sl e d.kids]
 | .st fs,d=>flats fs d 0
def flats:List Ty->Dat->Nat->List SV
 | [],_,_=>[]
 | f::fs,d,i=>flat f (d.f i)++flats fs d (i+1)
end
mutual
theorem Rep.flat {S:Nat->Prop} {E:Env} {w:World}:∀{t:Ty} {cs:List Value} {d:Dat},Rep S w t cs d->RelVs S E w (flat t d) cs
 | .int k,_,_,⟨n,h1,h2,h3⟩=>by subst h1;subst h2;exact⟨_,_,rfl,⟨rfl,h3⟩,rfl⟩
 | .bool,_,_,⟨b,h1,h2⟩=>by subst h1;subst h2;exact⟨_,_,rfl,rfl,rfl⟩
 | .str,_,_,⟨s,h1,h2,h3⟩=>by subst h1;subst h2;exact⟨_,_,rfl,⟨rfl,h3⟩,rfl⟩
 | .raw,_,_,⟨v,h1,h2,h3⟩=>by subst h1;subst h2;exact⟨_,_,rfl,⟨rfl,h3⟩,rfl⟩
 | .sl e,_,_,h=>by
   obtain⟨a,n,c,ds,h1,h2,h3⟩:=h;subst h1;subst h2;exact⟨_,_,rfl,⟨a,n,c,ds,rfl,rfl,h3⟩,rfl⟩
 | .st fs,cs,d,⟨ds,h1,h2⟩=>by
   subst h1;exact Reps.flats (pre:=[]) h2
theorem Reps.flats {S:Nat->Prop} {E:Env} {w:World}:∀{ts:List Ty} {cs:List Value} {pre ds:List Dat},Reps S w ts cs ds->RelVs S E w (flats ts (.node (pre++ds)) pre.length) cs
 | [],_,_,_,⟨h,_⟩=>by subst h;exact rfl
 | f::fs,_,pre,_,⟨c1,c2,d1,d2,h1,h2,h3,h4⟩=>by
   subst h1;subst h2;have hd:(Dat.node (pre++d1::d2)).f pre.length=d1:=by simp [Dat.f,Dat.kids]
   rw[E.flats,hd];have h5:=Reps.flats (E:=E) (pre:=pre++[d1]) h4;simp only[List.append_assoc,List.singleton_append,List.length_append,List.length_singleton] at h5;exact (Rep.flat h3).append h5
end
mutual
theorem flat_one:∀(t:Ty) (d:Dat),(flat t d).all SV.one=true
 | .int _,_=>rfl
 | .bool,_=>rfl
 | .str,_=>rfl
 | .raw,_=>rfl
 | .sl _,_=>rfl
 | .st fs,d=>by rw[E.flat];exact flats_one fs d 0
theorem flats_one:∀(ts:List Ty) (d:Dat) (i:Nat),(flats ts d i).all SV.one=true
 | [],_,_=>rfl
 | f::fs,d,i=>by rw[E.flats,List.all_append,flat_one f,flats_one fs];rfl
end
mutual
def flatO:OT->Dat->List SV
 | .im t,d=>flat t d
 | .sl _ e,d=>[.bsl e d.kids]
 | .st fs,d=>flatOs fs d 0
 | .ho _ _,_=>[.un]
 | .mp _ _,_=>[.un]
def flatOs:List OT->Dat->Nat->List SV
 | [],_,_=>[]
 | f::fs,d,i=>flatO f (d.f i)++flatOs fs d (i+1)
end
mutual
theorem Bor.flat {S:Nat->Prop} {E:Env} {w:World}:∀{e:OT} {cs:List Value} {d:Dat},Bor S w E.bo E.w0 e cs d->RelVs S E w (flatO e d) cs
 | .im _,_,_,h=>Rep.flat h
 | .sl _ e,_,_,h=>by
   obtain⟨a,n,c,ds,h1,h2,h3⟩:=h;subst h1;subst h2;exact⟨_,_,rfl,⟨a,n,c,ds,rfl,rfl,h3⟩,rfl⟩
 | .st fs,cs,d,h=>by
   obtain⟨ds,h1,h2⟩:=h;subst h1;exact Bors.flats (pre:=[]) h2
 | .ho _ _,_,_,h=>h.elim
 | .mp _ _,_,_,h=>h.elim
theorem Bors.flats {S:Nat->Prop} {E:Env} {w:World}:∀{fs:List OT} {cs:List Value} {pre ds:List Dat},Bors S w E.bo E.w0 fs cs ds->RelVs S E w (flatOs fs (.node (pre++ds)) pre.length) cs
 | [],_,_,_,⟨h,_⟩=>by subst h;exact rfl
 | f::fs,_,pre,_,⟨c1,c2,d1,d2,h1,h2,h3,h4⟩=>by
   subst h1;subst h2;rw[E.flatOs,Dat.f_node];have h5:=Bors.flats (E:=E) (pre:=pre++[d1]) h4;simp only[List.append_assoc,List.singleton_append,List.length_append,List.length_singleton] at h5;exact (Bor.flat h3).append h5
end
mutual
def cellsO:OT->Nat->Path->Nat->Nat->Dat->List SV
 | .im t,_,_,_,_,d=>flat t d
 | .sl _ _,j,π,i,b,_=>[.hs j (π++[(i,b)])]
 | .st fs,j,π,i,b,d=>cellsOs fs j π i b d 0
 | .ho _ _,j,π,i,b,_=>[.hs j (π++[(i,b)])]
 | .mp _ _,_,_,_,_,_=>[.un]
def cellsOs:List OT->Nat->Path->Nat->Nat->Dat->Nat->List SV
 | [],_,_,_,_,_,_=>[]
 | f::fs,j,π,i,b,d,k=>cellsO f j π i b (d.f k)++cellsOs fs j π i (b+f.size) d (k+1)
end
theorem isSlice_of {w:World} {t:TypeId} {sz n:Nat} {v:Value} {xs:List Value} (h:ownsAt w t sz v n xs):isSlice v:=by
 obtain⟨a,cap,hv,_⟩:=slice_of_owns h;exact⟨a,n,cap,hv⟩
theorem own_isHead {S:Nat->Prop} {w:World} {tid:TypeId} {e:OT} {H:Hd} {b:Nat} {v:Value} {d:Dat} {F:List Nat} (h:Own S w (headT tid e) H b [v] d F):isHead v:=by
 cases e with
 | mp k v'=>
   obtain⟨ds,es,clock,g,F',h0,h1,_⟩:=h;simp at h0;exact .inr ⟨g,by rw[h0,h1]⟩
 | _=>
   obtain⟨ds,xs,F',h0,_,h1,_⟩:=h;simp at h0;rw[h0];exact .inl (isSlice_of h1)
mutual
theorem Own.cells {S:Nat->Prop} {E:Env} {w:World} {j i:Nat} {π:Path} (hj:j<E.rw.length):∀{e:OT} {H:Hd} {b:Nat} {cs:List Value} {d:Dat} {F:List Nat},(∀o ρ,H o ρ=E.nh j (π++(i,o)::ρ))->Own S w e H b cs d F->RelVs S E w (cellsO e j π i b d) cs
 | .im _,_,_,_,_,_,_,⟨h,_⟩=>Rep.flat h
 | .sl _ e,H,b,_,_,_,hH,⟨ds,xs,F',h0,_,h1,_⟩=>by
   subst h0;exact⟨_,_,rfl,⟨hj,(hH b []).symm,.inl (isSlice_of h1)⟩,rfl⟩
 | .st fs,_,_,_,_,_,hH,⟨ds,h1,h2⟩=>by
   subst h1;exact Owns.cells (pre:=[]) hj hH h2
 | .ho _ e,H,b,_,_,_,hH,⟨h0,h1⟩=>by
   subst h0;have hs:isSlice (H b []):=by
     rcases h1 with ⟨_,h1,_⟩ | ⟨_,_,_,_,h1,_⟩
     · exact h1
     · exact isSlice_of h1
   exact⟨_,_,rfl,⟨hj,(hH b []).symm,.inl hs⟩,rfl⟩
 | .mp _ v,H,b,_,_,_,hH,⟨_,_,_,_,_,h0,_⟩=>by
   subst h0;exact⟨_,_,rfl,trivial,rfl⟩
theorem Owns.cells {S:Nat->Prop} {E:Env} {w:World} {j i:Nat} {π:Path} (hj:j<E.rw.length):∀{fs:List OT} {H:Hd} {b:Nat} {cs:List Value} {pre ds:List Dat} {F:List Nat},(∀o ρ,H o ρ=E.nh j (π++(i,o)::ρ))->Owns S w fs H b cs ds F->RelVs S E w (cellsOs fs j π i b (.node (pre++ds)) pre.length) cs
 | [],_,_,_,_,_,_,_,⟨h,_⟩=>by subst h;exact rfl
 | f::fs,H,b,_,pre,_,_,hH,⟨c1,c2,d1,d2,F1,F2,h1,h2,_,h3,h4⟩=>by
   subst h1;subst h2;rw[E.cellsOs,Dat.f_node];have h5:=Owns.cells (pre:=pre++[d1]) hj hH h4;simp only[List.append_assoc,List.singleton_append,List.length_append,List.length_singleton] at h5;exact (Own.cells hj hH h3).append h5
end
theorem Rep.one {S:Nat->Prop} {w:World} {t:Ty} {cs:List Value} {d:Dat} (h:Rep S w t cs d):∀v∈cs,v.oneCell'=true:=(h.flat (E:=⟨[],[],[],fun _ _=>undef,fun _=>False,w⟩)).one (flat_one t d)
def kindEq (a b:IntKind):Bool:=match a,b with
 | .i8,.i8 | .i16,.i16 | .i32,.i32 | .i64,.i64 | .u8,.u8 | .u16,.u16 | .u32,.u32 | .u64,.u64=>true
 | _,_=>false
theorem kindEq_eq {a b:IntKind} (h:kindEq a b=true):a=b:=by cases a<;>cases b<;>first | rfl | (simp [kindEq] at h)
mutual
def tyEq:Ty->Ty->Bool
 | .int a,.int b=>kindEq a b
 | .bool,.bool=>true
 | .str,.str=>true
 | .raw,.raw=>true
 | .sl a,.sl b=>tyEq a b
 | .st a,.st b=>tysEq a b
 | _,_=>false
def tysEq:List Ty->List Ty->Bool
 | [],[]=>true
 | a::aa,b::bs=>tyEq a b&&tysEq aa bs
 | _,_=>false
end
mutual
theorem tyEq_eq:∀{a b:Ty},tyEq a b=true->a=b
 | .int a,b,h=>by cases b<;>simp [tyEq] at h;rw[kindEq_eq h]
 | .bool,b,h=>by cases b<;>simp [tyEq] at h;rfl
 | .str,b,h=>by cases b<;>simp [tyEq] at h;rfl
 | .raw,b,h=>by cases b<;>simp [tyEq] at h;rfl
 | .sl a,b,h=>by cases b<;>simp [tyEq] at h;rw[tyEq_eq h]
 | .st a,b,h=>by cases b<;>simp [tyEq] at h;rw[tysEq_eq h]
theorem tysEq_eq:∀{a b:List Ty},tysEq a b=true->a=b
 | [],b,h=>by cases b<;>simp [tysEq] at h;rfl
 | a::aa,b,h=>by
   cases b with
   | nil=>simp [tysEq] at h
   | cons b bs=>simp [tysEq] at h;rw[tyEq_eq h.1,tysEq_eq h.2]
end
mutual
def unflat:Ty->List SV->Option (Dat×List SV)
 | .int k,.int k' n::r=>if kindEq k k' then some (.int n,r) else none
 | .bool,.bool b::r=>some (.bool b,r)
 | .bool,.tt::r=>some (.bool true,r)
 | .bool,.ff::r=>some (.bool false,r)
 | .str,.str s::r=>some (.str s,r)
 | .raw,.raw v::r=>some (.raw v,r)
 | .sl e,.sl e' ds::r=>if tyEq e e' then some (.node ds,r) else none
 | .sl _,.nil::r=>some (.node [],r)
 | .st fs,l=>match unflats fs l with
   | some (ds,r)=>some (.node ds,r)
   | none=>none
 | _,_=>none
def unflats:List Ty->List SV->Option (List Dat×List SV)
 | [],l=>some ([],l)
 | f::fs,l=>match unflat f l with
   | some (d,r)=>match unflats fs r with
     | some (ds,r')=>some (d::ds,r')
     | none=>none
   | none=>none
end
mutual
theorem unflat_rep {S:Nat->Prop} {E:Env} {w:World}:∀{t:Ty} {l r:List SV} {d:Dat} {vs:List Value},unflat t l=some (d,r)->RelVs S E w l vs->∃c1 c2,vs=c1++c2/\Rep S w t c1 d/\RelVs S E w r c2
 | .int k,l,r,d,vs,h,hr=>by
   unfold unflat at h;split at h<;>simp_all;obtain⟨h1,rfl,rfl⟩:=h;obtain⟨v,vs',rfl,⟨rfl,h3⟩,h4⟩:=hr;rw[kindEq_eq h1];exact⟨[_],vs',rfl,⟨_,rfl,rfl,h3⟩,h4⟩
 | .bool,l,r,d,vs,h,hr=>by
   unfold unflat at h;split at h<;>simp_all
   all_goals
     obtain⟨rfl,rfl⟩:=h;obtain⟨v,vs',rfl,rfl,h4⟩:=hr;exact⟨[_],vs',rfl,⟨_,rfl,rfl⟩,h4⟩
 | .str,l,r,d,vs,h,hr=>by
   unfold unflat at h;split at h<;>simp_all;obtain⟨rfl,rfl⟩:=h;obtain⟨v,vs',rfl,⟨rfl,h3⟩,h4⟩:=hr;exact⟨[_],vs',rfl,⟨_,rfl,rfl,h3⟩,h4⟩
 | .raw,l,r,d,vs,h,hr=>by
   unfold unflat at h;split at h<;>simp_all;obtain⟨rfl,rfl⟩:=h;obtain⟨v,vs',rfl,⟨rfl,h3⟩,h4⟩:=hr;exact⟨[_],vs',rfl,⟨_,rfl,rfl,h3⟩,h4⟩
 | .sl e,l,r,d,vs,h,hr=>by
   unfold unflat at h;split at h<;>simp_all
   · obtain⟨h1,rfl,rfl⟩:=h;obtain⟨v,vs',rfl,h3,h4⟩:=hr;rw[tyEq_eq h1];exact⟨[_],vs',rfl,h3,h4⟩
   · obtain⟨rfl,rfl⟩:=h;obtain⟨v,vs',rfl,rfl,h4⟩:=hr;exact⟨[_],vs',rfl,⟨none,0,0,[],rfl,rfl,rfl,Nat.le_refl _,by omega,fun h=>absurd rfl h⟩,h4⟩
 | .st fs,l,r,d,vs,h,hr=>by
   unfold unflat at h;split at h
   · rename_i ds r' hu;simp only[Option.some.injEq,Prod.mk.injEq] at h;obtain⟨rfl,rfl⟩:=h;obtain⟨c1,c2,h1,h2,h3⟩:=unflats_rep hu hr;exact⟨c1,c2,h1,⟨ds,rfl,h2⟩,h3⟩
   · cases h
theorem unflats_rep {S:Nat->Prop} {E:Env} {w:World}:∀{ts:List Ty} {l r:List SV} {ds:List Dat} {vs:List Value},unflats ts l=some (ds,r)->RelVs S E w l vs->∃c1 c2,vs=c1++c2/\Reps S w ts c1 ds/\RelVs S E w r c2
 | [],l,r,ds,vs,h,hr=>by
   simp [unflats] at h;obtain⟨rfl,rfl⟩:=h;exact⟨[],vs,rfl,⟨rfl,rfl⟩,hr⟩
 | f::fs,l,r,ds,vs,h,hr=>by
   unfold unflats at h;split at h
   · rename_i d r1 h1;split at h
     · rename_i ds' r' h2;simp only[Option.some.injEq,Prod.mk.injEq] at h;obtain⟨rfl,rfl⟩:=h;obtain⟨c1,c2,e1,h3,h4⟩:=unflat_rep h1 hr;obtain⟨c3,c4,e2,h5,h6⟩:=unflats_rep h2 h4;exact⟨c1++c3,c4,by rw[e1,e2,List.append_assoc],⟨c1,c3,_,_,rfl,rfl,h3,h5⟩,h6⟩
     · cases h
   · cases h
end
end
structure Row where
 tid:TypeId
 e:OT
 ds:List Dat
 st:Nat
 lt:Bool
structure St where
 fr:List SV
 bx:List (TypeId×List SV)
 rw:List Row
structure Ctx where
 w0:World
 S0:Nat->Prop
 M:Nat->Prop
 lent:List Nat
 lrow:List Value
inductive Slot where
 | b (j:Nat) | r (j k:Nat)
 deriving DecidableEq
def own (E:Env) (s:St):Slot->Option Nat
 | .b j=>E.bx[j]?
 | .r j k=>match s.rw[j]? with
   | some r=>if r.st=0 then (E.fp[j]?).bind (·[k]?) else none
   | none=>none
def Reg (c:Ctx) (E:Env) (s:St) (w:World) (b:Nat):Prop:=(c.S0 b\/c.w0.heap.size<=b)/\b<w.heap.size/\∀x,own E s x≠some b
def RowOk (S:Nat->Prop) (E:Env) (w:World) (j:Nat) (r:Row) (v:Value):Prop:=
 isHead v/\(r.st=0->∃F,E.fp[j]?=some F/\Own S w (headT r.tid r.e) (fun _=>E.nh j) 0 [v] (.node r.ds) F)/\(r.st=1->Rep S w (.sl r.e.ty) [v] (.node r.ds))
def BoxOk (S:Nat->Prop) (E:Env) (w:World) (p:TypeId×List SV) (b:Nat):Prop:=∃cs,w.heap[b]?=some (.cells cs.toArray p.1 (0,0))/\RelVs S E w p.2 cs/\p.2.all SV.one=true
structure Inv (c:Ctx) (E:Env) (s:St) (a:Act) (w:World):Prop where
 os:w.os=c.w0.os
 tape:w.tape=c.w0.tape
 output:w.output=c.w0.output
 size:c.w0.heap.size<=w.heap.size
 old:∀b,b<c.w0.heap.size->¬c.M b->w.heap[b]?=c.w0.heap[b]?
 defers:a.defers=[]
 fr:RelVs (Reg c E s w) E w s.fr a.tmps.toList
 nbx:E.bx.length=s.bx.length
 nrw:E.rw.length=s.rw.length
 nfp:E.fp.length=s.rw.length
 bx:∀(j:Nat) (p:TypeId×List SV) (b:Nat),s.bx[j]?=some p->E.bx[j]?=some b->BoxOk (Reg c E s w) E w p b
 rw:∀(j:Nat) (r:Row) (v:Value),s.rw[j]?=some r->E.rw[j]?=some v->RowOk (Reg c E s w) E w j r v
 inj:∀x y b,own E s x=some b->own E s y=some b->x=y
 new:∀x b,own E s x=some b->c.M b\/c.w0.heap.size<=b
 lent:∀(j b:Nat),c.lent[j]?=some b->E.bx[j]?=some b
 lrow:∀(j:Nat) (v:Value),c.lrow[j]?=some v->E.rw[j]?=some v
 fresh:∀(j k b:Nat) (r:Row),s.rw[j]?=some r->r.lt=false->own E s (.r j k)=some b->c.w0.heap.size<=b
 bor:E.w0=c.w0/\∀b,E.bo b->b<c.w0.heap.size/\¬c.M b
theorem BoxOk.mono {S S':Nat->Prop} {E E':Env} {w w':World} {p:TypeId×List SV} {b:Nat} (h:BoxOk S E w p b) (hk:Keeps S w w') (hS:∀b,S b->S' b) (hE:E.le E') (hb:w'.heap[b]?=w.heap[b]?):BoxOk S' E' w' p b:=by
 obtain⟨cs,h1,h2,h3⟩:=h;exact⟨cs,by rw[hb];exact h1,h2.mono hk hS hE,h3⟩
theorem RowOk.mono {S S':Nat->Prop} {E E':Env} {w w':World} {j:Nat} {r:Row} {v:Value} (h:RowOk S E w j r v) (hk:Keeps S w w') (hS:∀b,S b->S' b) (hE:E.le E') (hj:j<E.rw.length) (hb:r.st=0->∀F,E.fp[j]?=some F->∀b∈F,w'.heap[b]?=w.heap[b]?):RowOk S' E' w' j r v:=by
 obtain⟨h0,h1,h2⟩:=h;refine⟨h0,fun hs=>?_,fun hs=>(h2 hs).mono hk hS⟩;obtain⟨F,h3,h4⟩:=h1 hs;exact⟨F,hE.fp j F h3,h4.mono hk hS (fun _ _ _ _=>by rw[hE.nh j hj]) (hb hs F h3)⟩
theorem own_fp {E:Env} {s:St} {j:Nat} {r:Row} (hr:s.rw[j]?=some r) (hst:r.st=0) {F:List Nat} (hF:E.fp[j]?=some F) {b:Nat} (hb:b∈F):∃k,own E s (.r j k)=some b:=by
 obtain⟨k,hk⟩:=List.getElem?_of_mem hb;exact⟨k,by simp only[own,hr,hst,if_true,hF,Option.bind_some,hk]⟩
theorem own_of {E:Env} {s:St} {j k b:Nat} (h:own E s (.r j k)=some b):∃r F,s.rw[j]?=some r/\r.st=0/\E.fp[j]?=some F/\F[k]?=some b:=by
 simp only[own] at h;split at h
 · rename_i r hr;split at h
   · rename_i hst;obtain⟨F,hF,hb⟩:=Option.bind_eq_some_iff.1 h;exact⟨r,F,hr,hst,hF,hb⟩
   · cases h
 · cases h
theorem own_r {E:Env} {s:St} {j k b:Nat} {r:Row} {F:List Nat} (hr:s.rw[j]?=some r) (hst:r.st=0) (hF:E.fp[j]?=some F) (hb:F[k]?=some b):own E s (.r j k)=some b:=by
 simp only[own,hr,hst,if_true,hF,Option.bind_some,hb]
theorem Inv.box_lt {c:Ctx} {E:Env} {s:St} {a:Act} {w:World} (h:Inv c E s a w) {j b:Nat} (hb:E.bx[j]?=some b):b<w.heap.size:=by
 have hj:j<s.bx.length:=by rw[<- h.nbx];exact (List.getElem?_eq_some_iff.1 hb).1
 obtain⟨cs,h1,_⟩:=h.bx j _ b (List.getElem?_eq_getElem hj) hb;exact (Array.getElem?_eq_some_iff.1 h1).1
theorem Inv.row_val {c:Ctx} {E:Env} {s:St} {a:Act} {w:World} (h:Inv c E s a w) {j:Nat} {r:Row} (hr:s.rw[j]?=some r):∃v,E.rw[j]?=some v:=⟨_,List.getElem?_eq_getElem (by rw[h.nrw];exact (List.getElem?_eq_some_iff.1 hr).1)⟩
theorem Inv.own_lt {c:Ctx} {E:Env} {s:St} {a:Act} {w:World} (h:Inv c E s a w) {x:Slot} {b:Nat} (hb:own E s x=some b):b<w.heap.size:=by
 cases x with
 | b j=>exact h.box_lt hb
 | r j k=>
   obtain⟨r,F,hr,hst,hF,hk⟩:=own_of hb;obtain⟨v,hv⟩:=h.row_val hr;obtain⟨_,h1,_⟩:=h.rw j r v hr hv;obtain⟨F',hF',h3⟩:=h1 hst;rw[hF] at hF';simp at hF';subst hF';exact h3.lt b (List.mem_of_getElem? hk)
theorem Inv.row_keep {c:Ctx} {E E':Env} {s:St} {a:Act} {w w':World} (h:Inv c E s a w) {S':Nat->Prop} {j:Nat} {r:Row} {v:Value} (hr:s.rw[j]?=some r) (hv:E.rw[j]?=some v) (hK:Keeps (Reg c E s w) w w') (hS:∀b,Reg c E s w b->S' b) (hE:E.le E') (hk:r.st=0->∀k b,own E s (.r j k)=some b->w'.heap[b]?=w.heap[b]?):RowOk S' E' w' j r v:=
 (h.rw j r v hr hv).mono hK hS hE (List.getElem?_eq_some_iff.1 hv).1 (fun hst F hF b hb=>by
   obtain⟨k,ho⟩:=own_fp hr hst hF hb;exact hk hst k b ho)
structure Goes (c:Ctx) (E:Env) (s:St) (w:World) (E':Env) (s':St) (w':World):Prop where
 keeps:Keeps (Reg c E s w) w w'
 reg:∀b,Reg c E s w b->Reg c E' s' w' b
theorem goes_of {c:Ctx} {E E':Env} {s s':St} {w w':World} (hsz:w.heap.size<=w'.heap.size) (hown:∀x b,own E' s' x=some b->(∃y,own E s y=some b)\/w.heap.size<=b) (hk:∀b,b<w.heap.size->(∀x,own E s x≠some b)->w'.heap[b]?=w.heap[b]?):Goes c E s w E' s' w':=
 ⟨fun b hb=>hk b hb.2.1 hb.2.2,fun b hb=>⟨hb.1,Nat.lt_of_lt_of_le hb.2.1 hsz,fun x hx=>by
   rcases hown x b hx with ⟨y,hy⟩ | hge
   · exact hb.2.2 y hy
   · have:=hb.2.1;omega⟩⟩
theorem Goes.refl (c:Ctx) (E:Env) (s:St) (w:World):Goes c E s w E s w:=⟨fun _ _=>rfl,fun _ h=>h⟩
theorem Goes.trans {c:Ctx} {E E1 E2:Env} {s s1 s2:St} {w w1 w2:World} (h:Goes c E s w E1 s1 w1) (k:Goes c E1 s1 w1 E2 s2 w2):Goes c E s w E2 s2 w2:=
 ⟨fun b hb=>(k.keeps b (h.reg b hb)).trans (h.keeps b hb),fun b hb=>k.reg b (h.reg b hb)⟩
theorem Inv.move' {c:Ctx} {E E':Env} {s s':St} {a:Act} {w w':World} (h:Inv c E s a w) (hos:w'.os=w.os) (htape:w'.tape=w.tape) (hout:w'.output=w.output)
   (hsz:w.heap.size<=w'.heap.size) (hown:∀x b,own E' s' x=some b->(∃y,own E s y=some b)\/w.heap.size<=b) (hk:∀b,b<w.heap.size->(∀x,own E s x≠some b)->w'.heap[b]?=w.heap[b]?)
   (hbe:∀(j b:Nat),E.bx[j]?=some b->E'.bx[j]?=some b) (hre:∀(j:Nat) (v:Value),E.rw[j]?=some v->E'.rw[j]?=some v) (hbo:E'.bo=E.bo) (hw0:E'.w0=E.w0)
   (hfr:Keeps (Reg c E s w) w w'->(∀b,Reg c E s w b->Reg c E' s' w' b)->RelVs (Reg c E' s' w') E' w' s'.fr a.tmps.toList) (hnbx:E'.bx.length=s'.bx.length) (hnrw:E'.rw.length=s'.rw.length) (hnfp:E'.fp.length=s'.rw.length)
   (hbx:Keeps (Reg c E s w) w w'->(∀b,Reg c E s w b->Reg c E' s' w' b)->∀(j:Nat) (p:TypeId×List SV) (b:Nat),s'.bx[j]?=some p->E'.bx[j]?=some b->BoxOk (Reg c E' s' w') E' w' p b)
   (hrw:Keeps (Reg c E s w) w w'->(∀b,Reg c E s w b->Reg c E' s' w' b)->∀(j:Nat) (r:Row) (v:Value),s'.rw[j]?=some r->E'.rw[j]?=some v->RowOk (Reg c E' s' w') E' w' j r v)
   (hinj:∀x y b,own E' s' x=some b->own E' s' y=some b->x=y) (hfresh:∀(j k b:Nat) (r:Row),s'.rw[j]?=some r->r.lt=false->own E' s' (.r j k)=some b->c.w0.heap.size<=b):Inv c E' s' a w':=by
 have hS:∀b,Reg c E s w b->Reg c E' s' w' b:=fun b hb=>⟨hb.1,Nat.lt_of_lt_of_le hb.2.1 hsz,fun x hx=>by
   rcases hown x b hx with ⟨y,hy⟩ | hge
   · exact hb.2.2 y hy
   · have:=hb.2.1;omega⟩
 have hK:Keeps (Reg c E s w) w w':=fun b hb=>hk b hb.2.1 hb.2.2
 refine⟨hos.trans h.os,htape.trans h.tape,hout.trans h.output,Nat.le_trans h.size hsz,fun b hb hM=>?_,h.defers,hfr hK hS,hnbx,hnrw,hnfp,hbx hK hS,hrw hK hS,hinj,fun x b hx=>?_,fun j b hb=>hbe j b (h.lent j b hb),fun j v hv=>hre j v (h.lrow j v hv),hfresh,by rw[hw0,hbo];exact h.bor⟩
 · have hno:∀x,own E s x≠some b:=fun x hx=>by
     rcases h.new x b hx with h1 | h1
     · exact hM h1
     · omega
   rw[hk b (Nat.lt_of_lt_of_le hb h.size) hno];exact h.old b hb hM
 · rcases hown x b hx with ⟨y,hy⟩ | hge
   · exact h.new y b hy
   · exact .inr (Nat.le_trans h.size hge)
theorem Inv.move {c:Ctx} {E E':Env} {s s':St} {a:Act} {w w':World} (h:Inv c E s a w) (hos:w'.os=w.os) (htape:w'.tape=w.tape) (hout:w'.output=w.output)
   (hsz:w.heap.size<=w'.heap.size) (hown:∀x b,own E' s' x=some b->(∃y,own E s y=some b)\/w.heap.size<=b) (hk:∀b,b<w.heap.size->(∀x,own E s x≠some b)->w'.heap[b]?=w.heap[b]?)
   (hE:E.le E') (hfr:s'.fr=s.fr) (hnbx:E'.bx.length=s'.bx.length) (hnrw:E'.rw.length=s'.rw.length) (hnfp:E'.fp.length=s'.rw.length)
   (hbx:Keeps (Reg c E s w) w w'->(∀b,Reg c E s w b->Reg c E' s' w' b)->∀(j:Nat) (p:TypeId×List SV) (b:Nat),s'.bx[j]?=some p->E'.bx[j]?=some b->BoxOk (Reg c E' s' w') E' w' p b)
   (hrw:Keeps (Reg c E s w) w w'->(∀b,Reg c E s w b->Reg c E' s' w' b)->∀(j:Nat) (r:Row) (v:Value),s'.rw[j]?=some r->E'.rw[j]?=some v->RowOk (Reg c E' s' w') E' w' j r v)
   (hinj:∀x y b,own E' s' x=some b->own E' s' y=some b->x=y) (hfresh:∀(j k b:Nat) (r:Row),s'.rw[j]?=some r->r.lt=false->own E' s' (.r j k)=some b->c.w0.heap.size<=b):Inv c E' s' a w':=
 h.move' hos htape hout hsz hown hk hE.bx hE.rw hE.bo hE.w0 (fun hK hS=>by rw[hfr];exact h.fr.mono hK hS hE) hnbx hnrw hnfp hbx hrw hinj hfresh
def St.put (s:St) (dst:Option Tmp) (x:SV):St:=
 match dst with
 | some d=>{s with fr:=s.fr.set d x}
 | none=>s
theorem put_toList (a:Act) (d:Nat) (v:Value):(a.put (some d) v).tmps.toList=a.tmps.toList.set d v:=by simp [Act.put]
theorem Inv.put {c:Ctx} {E:Env} {s:St} {a:Act} {w:World} (h:Inv c E s a w) (dst:Option Tmp) {x:SV} {v:Value} (hv:RelV (Reg c E s w) E w x v):Inv c E (s.put dst x) (a.put dst v) w:=by
 cases dst with
 | none=>exact h
 | some d=>
   have hr:Reg c E (s.put (some d) x) w=Reg c E s w:=rfl;exact⟨h.os,h.tape,h.output,h.size,h.old,h.defers,by rw[hr,put_toList];exact h.fr.set d hv,h.nbx,h.nrw,h.nfp,h.bx,h.rw,h.inj,h.new,h.lent,h.lrow,h.fresh,h.bor⟩
def Env.addB (E:Env) (b:Nat):Env:={E with bx:=E.bx++[b]}
def Env.addR (E:Env) (v:Value) (F:List Nat) (H:Path->Value):Env:={E with rw:=E.rw++[v],fp:=E.fp++[F],nh:=fun j=>if j=E.rw.length then H else E.nh j}
theorem get_more {α:Type} {l:List α} {x y:α} {j:Nat} (h:l[j]?=some y):(l++[x])[j]?=some y:=by
 have:j<l.length:=(List.getElem?_eq_some_iff.1 h).1
 rw[List.getElem?_append_left this];exact h
theorem Env.le_box (E:Env) (b:Nat):E.le (E.addB b):=⟨fun _ _ h=>get_more h,fun _ _ h=>h,fun _ _ h=>h,fun _ _=>rfl,rfl,rfl⟩
theorem Env.le_row (E:Env) (v:Value) (F:List Nat) (H:Path->Value):E.le (E.addR v F H):=⟨fun _ _ h=>h,fun _ _ h=>get_more h,fun _ _ h=>get_more h,fun j hj=>by simp only[Env.addR];rw[if_neg (by omega)],rfl,rfl⟩
theorem append_get {α:Type} {l:List α} {x y:α} {j:Nat} (h:(l++[x])[j]?=some y):l[j]?=some y\/(j=l.length/\y=x):=by
 rcases Nat.lt_or_ge j l.length with hj | hj
 · rw[List.getElem?_append_left hj] at h;exact .inl h
 · rw[List.getElem?_append_right hj] at h;rcases Nat.lt_or_ge (j-l.length) 1 with h1 | h1
   · have:j=l.length:=by omega
     subst this;simp at h;exact .inr ⟨rfl,h.symm⟩
   · rw[List.getElem?_eq_none (by simpa using h1)] at h;cases h
theorem own_addB {E:Env} {s:St} {b0:Nat} {p:TypeId×List SV} {x:Slot} {b:Nat} (hx:own (E.addB b0) {s with bx:=s.bx++[p]} x=some b):own E s x=some b\/(x=.b E.bx.length/\b=b0):=by
 cases x with
 | b j=>
   rcases append_get (l:=E.bx) (x:=b0) hx with h1 | ⟨h1,h2⟩
   · exact .inl h1
   · exact .inr ⟨by rw[h1],h2⟩
 | r j k=>exact .inl hx
theorem Inv.box {c:Ctx} {E:Env} {s:St} {a:Act} {w:World} (h:Inv c E s a w) (t:TypeId) {l:List SV} {cs:List Value} (hl:RelVs (Reg c E s w) E w l cs) (ho:l.all SV.one=true) :
   Inv c (E.addB w.heap.size) {s with bx:=s.bx++[(t,l)]} a (w.alloc (.cells cs.toArray t)):=by
 refine h.move rfl rfl rfl (by simp) (fun x b hx=>?_) (fun b hb _=>Below.heap_alloc w _ b hb) (E.le_box _) rfl (by simp [Env.addB,h.nbx]) h.nrw h.nfp ?_ ?_ ?_ (fun j k b r hr hl hb=>h.fresh j k b r hr hl hb)
 · rcases own_addB hx with h1 | ⟨_,h1⟩
   · exact .inl ⟨x,h1⟩
   · exact .inr (by omega)
 · intro hK hS j p b hp hb;rcases append_get hp with h1 | ⟨h1,h2⟩
   · rcases append_get (l:=E.bx) (x:=w.heap.size) hb with h3 | ⟨h3,h4⟩
     · exact (h.bx j p b h1 h3).mono hK hS (E.le_box _) (Below.heap_alloc w _ b (h.box_lt h3))
     · have:j<s.bx.length:=(List.getElem?_eq_some_iff.1 h1).1
       rw[<- h.nbx] at this;omega
   · rcases append_get (l:=E.bx) (x:=w.heap.size) hb with h3 | ⟨h3,h4⟩
     · have:j<E.bx.length:=(List.getElem?_eq_some_iff.1 h3).1
       rw[h.nbx] at this;omega
     · subst h2;subst h4;exact⟨cs,heap_alloc_new w _,hl.mono hK hS (E.le_box _),ho⟩
 · intro hK hS j r v hr hv;exact h.row_keep hr hv hK hS (E.le_box _) (fun _ k b hb=>Below.heap_alloc w _ b (h.own_lt hb))
 · intro x y b hx hy;rcases own_addB hx with h1 | ⟨h1,h2⟩<;>rcases own_addB hy with h3 | ⟨h3,h4⟩
   · exact h.inj x y b h1 h3
   · have:=h.own_lt h1;omega
   · have:=h.own_lt h3;omega
   · rw[h1,h3]
theorem box_goes {c:Ctx} {E:Env} {s:St} {w:World} (t:TypeId) (l:List SV) (cs:List Value):Goes c E s w (E.addB w.heap.size) {s with bx:=s.bx++[(t,l)]} (w.alloc (.cells cs.toArray t)):=
 goes_of (by simp) (fun x b hx=>by
   rcases own_addB hx with h1 | ⟨_,h1⟩
   · exact .inl ⟨x,h1⟩
   · exact .inr (by omega)) (fun b hb _=>Below.heap_alloc w _ b hb)
theorem own_addR {c:Ctx} {a:Act} {w:World} {E:Env} {s:St} (h:Inv c E s a w) {v:Value} {F:List Nat} {H:Path->Value} {r:Row} {x:Slot} {b:Nat} (hx:own (E.addR v F H) {s with rw:=s.rw++[r]} x=some b):own E s x=some b\/∃k,x=.r s.rw.length k/\F[k]?=some b:=by
 cases x with
 | b j=>exact .inl hx
 | r j k=>
   obtain⟨q,G,hq,hst,hG,hb⟩:=own_of hx;rcases append_get (l:=E.fp) (x:=F) hG with h1 | ⟨h1,h2⟩
   · rcases append_get hq with h3 | ⟨h3,_⟩
     · exact .inl (own_r h3 hst h1 hb)
     · have:j<E.fp.length:=(List.getElem?_eq_some_iff.1 h1).1
       rw[h.nfp] at this;omega
   · subst h2;exact .inr ⟨k,by rw[h1,h.nfp],hb⟩
theorem Inv.addR {c:Ctx} {E:Env} {s:St} {a:Act} {w w':World} (h:Inv c E s a w) (hos:w'.os=w.os) (htape:w'.tape=w.tape) (hout:w'.output=w.output) (hsz:w.heap.size<=w'.heap.size) (hk:∀b,b<w.heap.size->w'.heap[b]?=w.heap[b]?)
   {r:Row} {v:Value} {F:List Nat} {H:Path->Value} (hF:∀b∈F,w.heap.size<=b) (hnd:F.Nodup) (hr:Keeps (Reg c E s w) w w'->(∀b,Reg c E s w b->Reg c (E.addR v F H) {s with rw:=s.rw++[r]} w' b)->RowOk (Reg c (E.addR v F H) {s with rw:=s.rw++[r]} w') (E.addR v F H) w' s.rw.length r v) :
   Inv c (E.addR v F H) {s with rw:=s.rw++[r]} a w':=by
 refine h.move hos htape hout hsz (fun x b hx=>?_) (fun b hb _=>hk b hb) (E.le_row _ _ _) rfl h.nbx (by simp [Env.addR,h.nrw]) (by simp [Env.addR,h.nfp]) ?_ ?_ ?_ ?_
 · rcases own_addR h hx with h1 | ⟨k,_,h1⟩
   · exact .inl ⟨x,h1⟩
   · exact .inr (hF b (List.mem_of_getElem? h1))
 · intro hK hS j p b hp hb;exact (h.bx j p b hp hb).mono hK hS (E.le_row _ _ _) (hk b (h.box_lt hb))
 · intro hK hS j q u hq hu;rcases append_get hq with h1 | ⟨h1,h2⟩
   · rcases append_get (l:=E.rw) (x:=v) hu with h3 | ⟨h3,h4⟩
     · exact h.row_keep h1 h3 hK hS (E.le_row _ _ _) (fun _ k b hb=>hk b (h.own_lt hb))
     · have:j<s.rw.length:=(List.getElem?_eq_some_iff.1 h1).1
       rw[<- h.nrw] at this;omega
   · rcases append_get (l:=E.rw) (x:=v) hu with h3 | ⟨h3,h4⟩
     · have:j<E.rw.length:=(List.getElem?_eq_some_iff.1 h3).1
       rw[h.nrw] at this;omega
     · subst h2;subst h4;subst h1;exact hr hK hS
 · intro x y b hx hy;rcases own_addR h hx with h1 | ⟨k1,h1,h2⟩<;>rcases own_addR h hy with h3 | ⟨k2,h3,h4⟩
   · exact h.inj x y b h1 h3
   · have:=h.own_lt h1;have:=hF b (List.mem_of_getElem? h4);omega
   · have:=h.own_lt h3;have:=hF b (List.mem_of_getElem? h2);omega
   · rw[h1,h3];have hk1:=(List.getElem?_eq_some_iff.1 h2);have hk2:=(List.getElem?_eq_some_iff.1 h4)
     have:k1=k2:=(List.getElem_inj hnd).1 (hk1.2.trans hk2.2.symm)
     rw[this]
 · intro j k b q hq hl hb;rcases own_addR h hb with h1 | ⟨k1,h1,h2⟩
   · rcases append_get hq with h3 | ⟨h3,_⟩
     · exact h.fresh j k b q h3 hl h1
     · obtain⟨q',F',h4,_⟩:=own_of h1
       have:=(List.getElem?_eq_some_iff.1 h4).1
       omega
   · exact Nat.le_trans h.size (hF b (List.mem_of_getElem? h2))
theorem elems_im {S:Nat->Prop} {w:World} {t:Ty} {H:Nat->Hd} {b:Nat}:∀{ds:List Dat} {k:Nat} {xs:List Value},xs.length=ds.length*t.size->(∀i x,ds[i]?=some x->Rep S w t ((xs.drop (i*t.size)).take t.size) x)->Elems (fun i=>Own S w (.im t) (H i) b) k xs ds []
 | [],_,xs,hl,_=>⟨List.eq_nil_of_length_eq_zero (by simpa using hl),rfl⟩
 | d::ds,k,xs,hl,h=>by
   rw[List.length_cons,Nat.succ_mul] at hl;have h0:=h 0 d rfl;rw[Nat.zero_mul,List.drop_zero] at h0;refine⟨xs.take t.size,xs.drop t.size,[],[],by simp,rfl,⟨h0,rfl⟩,elems_im (by rw[List.length_drop];omega) (fun i x hx=>?_)⟩
   have:=h (i+1) x (by simpa using hx)
   rw[Nat.succ_mul] at this;rw[List.drop_drop,show t.size+i*t.size=i*t.size+t.size from by omega];exact this
theorem elems_im_inv {S:Nat->Prop} {w:World} {t:Ty} {H:Nat->Hd} {b:Nat}:∀{ds:List Dat} {k:Nat} {xs:List Value} {F:List Nat},Elems (fun i=>Own S w (.im t) (H i) b) k xs ds F->F=[]/\∀i x,ds[i]?=some x->Rep S w t ((xs.drop (i*t.size)).take t.size) x
 | [],_,_,_,⟨_,h⟩=>⟨h,fun i x hx=>by simp at hx⟩
 | d::ds,k,_,_,⟨x1,x2,F1,F2,h1,h2,⟨h3,h3'⟩,h4⟩=>by
   subst h1;subst h2;subst h3';obtain⟨h5,h6⟩:=elems_im_inv h4;subst h5;have hx:=h3.length;refine⟨rfl,fun i x hi=>?_⟩;cases i with
   | zero=>
     simp at hi;subst hi;rw[Nat.zero_mul,List.drop_zero,List.take_append_of_le_length (by omega),List.take_of_length_le (by omega)];exact h3
   | succ i=>
     have:=h6 i x (by simpa using hi)
     rw[Nat.succ_mul,List.drop_append,List.drop_eq_nil_of_le (by omega),List.nil_append,show i*t.size+t.size-x1.length=i*t.size from by omega];exact this
theorem Inv.drew {c:Ctx} {E:Env} {s:St} {a:Act} {w:World} (h:Inv c E s a w):Inv c E s a w.drew:=by
 refine h.move rfl rfl rfl (Nat.le_refl _) (fun x b hx=>.inl ⟨x,hx⟩) (fun _ _ _=>rfl) E.le_refl rfl h.nbx h.nrw h.nfp ?_ ?_ h.inj h.fresh
 · intro hK hS j p b hp hb;exact (h.bx j p b hp hb).mono hK hS E.le_refl rfl
 · intro hK hS j r v hr hv;exact h.row_keep hr hv hK hS E.le_refl (fun _ _ _ _=>rfl)
section
def kHas (k:IntKind) (n:Int):Bool:=decide (lo k<=n)&&decide (n<=hi k)
theorem kHas_has {k:IntKind} {n:Int} (h:kHas k n=true):Has k n:=by
 simp only[kHas,Bool.and_eq_true,decide_eq_true_eq] at h;exact h
def ofLeaf:Value->SV
 | .int k n=>if kHas k n then .int k n else .un
 | .bool true=>.tt
 | .bool false=>.ff
 | .string s=>if decide (s.size<=140737488351232) then .str s else .un
 | .slice none 0 0=>.nil
 | .pointer none=>.nilp
 | .nilFunc=>.raw .nilFunc
 | .nilIface=>.raw .nilIface
 | _=>.un
def ofV:Value->SV
 | .agg cs=>.agg (cs.toList.map ofLeaf)
 | v=>ofLeaf v
section
variable {S:Nat->Prop} {E:Env} {w:World}
theorem ofLeaf_rel (v:Value):RelV S E w (ofLeaf v) v:=by
 unfold ofLeaf;split
 · split
   · exact⟨rfl,kHas_has ‹_›⟩
   · trivial
 · rfl
 · rfl
 · split
   · exact⟨rfl,by simpa using ‹decide _=true›⟩
   · trivial
 · rfl
 · rfl
 · exact⟨rfl,rfl⟩
 · exact⟨rfl,rfl⟩
 · trivial
theorem ofLeafs_rel:∀l:List Value,RelVs S E w (l.map ofLeaf) l
 | []=>rfl
 | v::l=>⟨v,l,rfl,ofLeaf_rel v,ofLeafs_rel l⟩
theorem ofV_rel (v:Value):RelV S E w (ofV v) v:=by
 unfold ofV;split
 · rename_i cs;exact⟨cs.toList,by simp,ofLeafs_rel _⟩
 · exact ofLeaf_rel v
end
def St.ev (s:St):Operand->SV
 | .tmp t=>s.fr.getD t .un
 | .const v=>ofV v
 | .func f=>.fn f []
 | .global _=>.un
theorem Inv.ev {c:Ctx} {E:Env} {s:St} {a:Act} {w:World} (h:Inv c E s a w) (x:Operand):RelV (Reg c E s w) E w (s.ev x) (a.eval x):=by
 cases x with
 | tmp t=>
   have:=h.fr.getD t
   simpa [St.ev,Act.eval,List.getD_eq_getElem?_getD,Array.getD_eq_getD_getElem?] using this
 | const v=>exact ofV_rel v
 | global g=>trivial
 | func f=>exact⟨[],rfl,rfl⟩
abbrev R:=Option (Option Prop×SV)
def R.ok (x:SV):R:=some (none,x)
def R.ask (p:Prop) (x:SV):R:=some (some p,x)
def met:Option Prop->Prop
 | none=>True
 | some p=>p
def Gives (P:Program) (o:Oper) (s:St) (r:R):Prop:=
 ∀q x,r=some (q,x)->met q->∀c E a w,Inv c E s a w->∃v,(execOp a.eval o).run P w=.ok (.value v) w/\RelV (Reg c E s w) E w x v
theorem Gives.none {P:Program} {o:Oper} {s:St}:Gives P o s none:=fun _ _ h=>by cases h
section
variable {P:Program} {o:Oper} {s:St}
theorem gives_ok {x:SV} (h:∀c E a w,Inv c E s a w->∃v,(execOp a.eval o).run P w=.ok (.value v) w/\RelV (Reg c E s w) E w x v):Gives P o s (R.ok x):=
 fun q y hq _=>by
   simp only[R.ok,Option.some.injEq,Prod.mk.injEq] at hq;obtain⟨rfl,rfl⟩:=hq;exact h
theorem gives_move (x:Operand) (ho:o.op=.move x\/o.op=.assign x):Gives P o s (R.ok (s.ev x)):=
 gives_ok fun c E a w h=>⟨a.eval x,by rcases ho with ho | ho<;>(unfold execOp;rw[ho];rfl),h.ev x⟩
def bitI (op:BinOp) (k:IntKind) (a b:Int):Int:=
 k.wrap (match op with
   | .and=>((BitVec.ofInt k.bits a &&& BitVec.ofInt k.bits b).toNat:Int)
   | .or=>((BitVec.ofInt k.bits a ||| BitVec.ofInt k.bits b).toNat:Int)
   | .xor=>((BitVec.ofInt k.bits a ^^^ BitVec.ofInt k.bits b).toNat:Int)
   | _=>((BitVec.ofInt k.bits a &&& ~~~BitVec.ofInt k.bits b).toNat:Int))
def intOp (op:BinOp) (k:IntKind) (a b:Int):R:=
 match op with
 | .add=>R.ok (.int k (k.wrap (a+b)))
 | .sub=>R.ok (.int k (k.wrap (a-b)))
 | .mul=>R.ok (.int k (k.wrap (a*b)))
 | .quo=>R.ask (b≠0) (.int k (k.wrap (a.tdiv b)))
 | .rem=>R.ask (b≠0) (.int k (a.tmod b))
 | .eql=>R.ok (.bool (decide (a=b)))
 | .neq=>R.ok (.bool (decide (a≠b)))
 | .lss=>R.ok (.bool (decide (a<b)))
 | .leq=>R.ok (.bool (decide (a<=b)))
 | .gtr=>R.ok (.bool (decide (a > b)))
 | .geq=>R.ok (.bool (decide (a>=b)))
 | .shl=>R.ask (0<=b) (.int k (k.wrap (a*2 ^ min b.toNat k.bits)))
 | .shr=>R.ask (0<=b) (.int k (a.fdiv (2 ^ min b.toNat k.bits)))
 | .and=>R.ok (.int k (bitI .and k a b))
 | .or=>R.ok (.int k (bitI .or k a b))
 | .xor=>R.ok (.int k (bitI .xor k a b))
 | .andNot=>R.ok (.int k (bitI .andNot k a b))
def intR (op:BinOp) (k k':IntKind) (m n:Int):R:=
 match op with
 | .shl | .shr=>intOp op k m n
 | _=>if kindEq k k' then intOp op k m n else none
theorem has_tmod {k:IntKind} {a b:Int} (ha:Has k a):Has k (a.tmod b):=by
 have h1:(a.tmod b).natAbs<=a.natAbs:=by rw[Int.natAbs_tmod];exact Nat.mod_le _ _
 have h2:0<=a->0<=a.tmod b:=fun h=>Int.tmod_nonneg _ h
 have h3:a<=0->a.tmod b<=0:=fun h=>by
   have:=Int.tmod_nonneg b (a:=-a) (by omega)
   rw[Int.neg_tmod] at this;omega
 unfold Has at *
 cases k<;>simp only[lo,hi] at*<;> omega
theorem has_fdiv {k:IntKind} {a:Int} (n:Nat) (ha:Has k a):Has k (a.fdiv (2 ^ n)):=by
 have hp:(0:Int)<2 ^ n:=Int.pow_pos (by omega);rw[Int.fdiv_eq_ediv_of_nonneg _ (Int.le_of_lt hp)];have h1:(1:Int)<=2 ^ n:=hp;have h2:0<=a->0<=a / 2 ^ n/\a / 2 ^ n<=a:=fun h=>⟨Int.ediv_nonneg h (Int.le_of_lt hp),Int.ediv_le_self _ h⟩
 have h3:a<0->a<=a / 2 ^ n/\a / 2 ^ n<0:=fun h=>⟨by
   rw[Int.le_ediv_iff_mul_le hp]
   have:=Int.mul_le_mul_of_nonpos_left (a:=a) (by omega) h1
   omega,Int.ediv_neg_of_neg_of_pos h hp⟩
 unfold Has at *
 cases k<;>simp only[lo,hi] at*<;> omega
theorem gives_int {op:BinOp} {t u:TypeId} {x y:Operand} {k k':IntKind} {m n:Int} (ho:o.op=.binOp op t x y u) (hx:s.ev x=.int k m) (hy:s.ev y=.int k' n) :
   Gives P o s (intR op k k' m n):=by
 intro q z hq hm c E a w h;unfold intR at hq;have h1:=h.ev x;rw[hx] at h1;have h2:=h.ev y;rw[hy] at h2;obtain⟨h1,h3⟩:=h1;obtain⟨h2,h4⟩:=h2;have hg:(eqGuard op t x y (.int k m) (.int k' n)).run P w=.ok () w:=by unfold eqGuard;cases op<;>rfl
 have he:∀v,(binOp op t (.int k m) (.int k' n)).run P w=.ok v w->(execOp a.eval o).run P w=.ok (.value v) w:=by
   intro v hv;unfold execOp;rw[ho];simp only[Sem.run_bind,h1,h2,hg,Result.andThen_ok,hv];rfl
 cases op<;>simp only[intOp] at hq
 case shl=>
   simp only[R.ask,Option.some.injEq,Prod.mk.injEq] at hq;obtain⟨rfl,rfl⟩:=hq;have hn:¬n<0:=by simp only[met] at hm;omega
   exact⟨.int k _,he _ (by simp [binOp,Op.shift,hn,pure]),rfl,has_wrap _ _⟩
 case shr=>
   simp only[R.ask,Option.some.injEq,Prod.mk.injEq] at hq;obtain⟨rfl,rfl⟩:=hq;have hn:¬n<0:=by simp only[met] at hm;omega
   exact⟨.int k _,he _ (by simp [binOp,Op.shift,hn,pure]),rfl,has_fdiv _ h3⟩
 case and | or | xor | andNot=>
   split at hq
   · rename_i hk;have hk:=kindEq_eq hk;subst hk;simp only[R.ok,Option.some.injEq,Prod.mk.injEq] at hq;obtain⟨rfl,rfl⟩:=hq;exact⟨.int k _,he _ (by simp only[binOp,ne_eq,not_true,if_false];rfl),rfl,has_wrap _ _⟩
   · cases hq
 all_goals
   split at hq
   · rename_i hk;have hk:=kindEq_eq hk;subst hk
     first
     | (simp only[R.ok,Option.some.injEq,Prod.mk.injEq] at hq
        obtain⟨rfl,rfl⟩:=hq
        first
        | exact⟨.int k _,he _ (by simp [binOp,Op.intArith,pure]),rfl,has_wrap _ _⟩
        | (refine⟨.bool _,he _ ?_,rfl⟩
           simp only[binOp,Op.intCmp,ne_eq,not_true,if_false]
           first
           | rfl
           | (show Sem.run P (.pure _) w=_;simp only[Sem.run];congr 2;rw[Bool.eq_iff_iff];simp;done)))
     | (simp only[R.ask,Option.some.injEq,Prod.mk.injEq] at hq
        obtain⟨rfl,rfl⟩:=hq;simp only[met] at hm;exact⟨.int k _,he _ (by simp [binOp,Op.intDiv,hm,pure]),rfl,by first | exact has_wrap _ _ | exact has_tmod h3⟩)
     | cases hq
   · cases hq
end
end
section
section
variable {P:Program} {o:Oper} {s:St}
theorem run_val {op:Sem Value} {v:Value} {w:World} (h:op.run P w=.ok v w):(do pure (Next.value (<- op)):Sem Next).run P w=.ok (.value v) w:=by
 simp only[Sem.run_bind,h,Result.andThen_ok];rfl
def asB:SV->Option Bool
 | .tt=>some true
 | .ff=>some false
 | .bool b=>some b
 | _=>none
theorem asB_rel {S:Nat->Prop} {E:Env} {w:World} {x:SV} {v:Value} {b:Bool} (h:asB x=some b) (hr:RelV S E w x v):v=.bool b:=by
 cases x<;>simp [asB] at h
 · subst h;exact hr
 · subst h;exact hr
 · subst h;exact hr
def boolOp (P:Program) (op:BinOp) (t:TypeId) (x y:SV):R:=
 match asB x,asB y with
 | some a,some b=>
   match P.underlying t with
   | some .bool=>match op with
     | .eql=>R.ok (.bool (decide (a=b)))
     | .neq=>R.ok (.bool (decide (a≠b)))
     | _=>none
   | _=>none
 | _,_=>none
theorem gives_bool {op:BinOp} {t u:TypeId} {x y:Operand} (ho:o.op=.binOp op t x y u):Gives P o s (boolOp P op t (s.ev x) (s.ev y)):=by
 intro q z hq hm c E a w h;unfold boolOp at hq;split at hq
 · rename_i p r h1 h2;split at hq
   · rename_i hu;have e1:=asB_rel h1 (h.ev x);have e2:=asB_rel h2 (h.ev y);split at hq
     · simp only[R.ok,Option.some.injEq,Prod.mk.injEq] at hq;obtain⟨rfl,rfl⟩:=hq;refine⟨.bool (p == r),?_,?_⟩
       · unfold execOp;rw[ho];exact run_val (by rw[e1,e2];simp only[eqGuard_at_bool,pure_bind,run_eql_bool w t p r hu])
       · show Value.bool _=_;cases p<;>cases r<;>rfl
     · simp only[R.ok,Option.some.injEq,Prod.mk.injEq] at hq;obtain⟨rfl,rfl⟩:=hq;refine⟨.bool (!(p == r)),?_,?_⟩
       · unfold execOp;rw[ho];exact run_val (by rw[e1,e2];simp only[eqGuard_at_bool,pure_bind,run_neq_bool w t p r hu])
       · show Value.bool _=_;cases p<;>cases r<;>rfl
     · cases hq
   · cases hq
 · cases hq
def strOp (op:BinOp) (a b:ByteArray):R:=
 match op with
 | .add=>R.ask (a.size+b.size<=140737488351232) (.str (a++b))
 | .eql=>R.ok (.bool (decide (a=b)))
 | .neq=>R.ok (.bool (decide (a≠b)))
 | _=>none
theorem bytes_eq (a b:ByteArray):(a.toList == b.toList)=decide (a=b):=by
 rw[ByteArray.toList_eq,ByteArray.toList_eq,Bool.eq_iff_iff];simp only[beq_iff_eq,decide_eq_true_eq];exact⟨fun h=>ByteArray.ext (Array.toList_inj.1 h),fun h=>by rw[h]⟩
theorem gives_str {op:BinOp} {t u:TypeId} {x y:Operand} {m n:ByteArray} (ho:o.op=.binOp op t x y u) (hx:s.ev x=.str m) (hy:s.ev y=.str n):Gives P o s (strOp op m n):=by
 intro q z hq hm c E a w h;have h1:=h.ev x;rw[hx] at h1;have h2:=h.ev y;rw[hy] at h2;obtain⟨h1,h3⟩:=h1;obtain⟨h2,h4⟩:=h2;unfold strOp at hq;split at hq
 · simp only[R.ask,Option.some.injEq,Prod.mk.injEq] at hq;obtain⟨rfl,rfl⟩:=hq;simp only[met] at hm;refine⟨.string (m++n),?_,rfl,by simpa using hm⟩;unfold execOp;rw[ho];refine run_val ?_;have hn:¬((m.size+n.size:Nat):Int) > 9223372036854775807:=by omega
   rw[h1,h2];simp only[eqGuard_at_string,pure_bind,binOp_string_add,Op.stringOp,IntKind.max_i64,hn,if_false];rfl
 · simp only[R.ok,Option.some.injEq,Prod.mk.injEq] at hq;obtain⟨rfl,rfl⟩:=hq;refine⟨.bool (m.toList == n.toList),?_,?_⟩
   · unfold execOp;rw[ho];exact run_val (by rw[h1,h2];simp only[eqGuard_at_string,pure_bind,binOp_string_eql];rfl)
   · show _=_;rw[bytes_eq]
 · simp only[R.ok,Option.some.injEq,Prod.mk.injEq] at hq;obtain⟨rfl,rfl⟩:=hq;refine⟨.bool (!(m.toList == n.toList)),?_,?_⟩
   · unfold execOp;rw[ho];exact run_val (by rw[h1,h2];simp only[eqGuard_at_string,pure_bind,binOp_string_neq];rfl)
   · show _=_;rw[bytes_eq];simp
 · cases hq
def binR (P:Program) (op:BinOp) (t:TypeId) (x y:SV):R:=
 match x,y with
 | .int k m,.int k' n=>intR op k k' m n
 | .str m,.str n=>strOp op m n
 | x,y=>boolOp P op t x y
theorem gives_bin {op:BinOp} {t u:TypeId} {x y:Operand} (ho:o.op=.binOp op t x y u):Gives P o s (binR P op t (s.ev x) (s.ev y)):=by
 unfold binR;split
 · rename_i h1 h2;exact gives_int ho h1 h2
 · rename_i h1 h2;exact gives_str ho h1 h2
 · exact gives_bool ho
def unR (op:UnOp) (x:SV):R:=
 match op,x with
 | .neg,.int k n=>R.ok (.int k (k.wrap (0-n)))
 | .not,.tt=>R.ok .ff
 | .not,.ff=>R.ok .tt
 | .not,.bool b=>R.ok (.bool (!b))
 | _,_=>none
theorem gives_un {op:UnOp} {t:TypeId} {x:Operand} (ho:o.op=.unOp op t x):Gives P o s (unR op (s.ev x)):=by
 intro q z hq hm c E a w h;have h1:=h.ev x;unfold unR at hq;split at hq
 all_goals first
   | cases hq;done
   | skip
 all_goals
   rename_i hx;simp only[R.ok,Option.some.injEq,Prod.mk.injEq] at hq;obtain⟨rfl,rfl⟩:=hq;rw[hx] at h1
 · exact⟨.int _ _,by unfold execOp;rw[ho];exact run_val (by rw[h1.1];rfl),rfl,has_wrap _ _⟩
 · exact⟨.bool false,by unfold execOp;rw[ho];exact run_val (by rw[show a.eval x=_ from h1];rfl),rfl⟩
 · exact⟨.bool true,by unfold execOp;rw[ho];exact run_val (by rw[show a.eval x=_ from h1];rfl),rfl⟩
 · exact⟨.bool _,by unfold execOp;rw[ho];exact run_val (by rw[show a.eval x=_ from h1];rfl),rfl⟩
def pickR (x y z:SV):R:=
 match x with
 | .tt=>R.ok y
 | .ff=>R.ok z
 | .bool b=>match y,z with
   | .int k m,.int k' n=>if kindEq k k' then R.ok (.int k (bif b then m else n)) else none
   | y,z=>match asB y,asB z with
     | some p,some q=>R.ok (.bool (bif b then p else q))
     | _,_=>none
 | _=>none
theorem gives_pick {x y z:Operand} (ho:o.op=.pick x y z):Gives P o s (pickR (s.ev x) (s.ev y) (s.ev z)):=by
 intro q r hq hm c E a w h;have h1:=h.ev x;have h2:=h.ev y;have h3:=h.ev z;have key:∀b,a.eval x=.bool b->(execOp a.eval o).run P w=.ok (.value (if b then a.eval y else a.eval z)) w:=by
   intro b hb;unfold execOp;rw[ho];simp only[hb,asBool,pure_bind];rfl
 unfold pickR at hq;split at hq
 · rename_i hx;simp only[R.ok,Option.some.injEq,Prod.mk.injEq] at hq;obtain⟨rfl,rfl⟩:=hq;rw[hx] at h1;exact⟨_,key true h1,h2⟩
 · rename_i hx;simp only[R.ok,Option.some.injEq,Prod.mk.injEq] at hq;obtain⟨rfl,rfl⟩:=hq;rw[hx] at h1;exact⟨_,key false h1,h3⟩
 · rename_i b hx;rw[hx] at h1;split at hq
   · rename_i k m k' n hy hz;rw[hy] at h2;rw[hz] at h3;split at hq
     · rename_i hk;have hk:=kindEq_eq hk;subst hk;simp only[R.ok,Option.some.injEq,Prod.mk.injEq] at hq;obtain⟨rfl,rfl⟩:=hq;refine⟨_,key b h1,?_⟩;cases b
       · exact h3
       · exact h2
     · cases hq
   · split at hq
     · rename_i p r hy hz;simp only[R.ok,Option.some.injEq,Prod.mk.injEq] at hq;obtain⟨rfl,rfl⟩:=hq;refine⟨_,key b h1,?_⟩;cases b
       · exact asB_rel hz h3
       · exact asB_rel hy h2
     · cases hq
 · cases hq
def convR (P:Program) (src dst:TypeId) (x:SV):R:=
 match P.underlying src,P.underlying dst,x with
 | some (.int _),some (.int k),.int _ n=>R.ok (.int k (k.wrap n))
 | some .string,some .string,.str b=>R.ok (.str b)
 | _,_,_=>none
theorem gives_conv {src dst:TypeId} {x:Operand} (ho:o.op=.convert src dst x):Gives P o s (convR P src dst (s.ev x)):=by
 intro q z hq hm c E a w h;have h1:=h.ev x;unfold convR at hq;split at hq
 · rename_i hs hd hx;simp only[R.ok,Option.some.injEq,Prod.mk.injEq] at hq;obtain⟨rfl,rfl⟩:=hq;rw[hx] at h1;refine⟨.int _ _,?_,rfl,has_wrap _ _⟩;unfold execOp;rw[ho];refine run_val ?_;rw[h1.1];simp only[convert,Sem.run_bind,run_underlying hs,run_underlying hd,Result.andThen_ok];rfl
 · rename_i hs hd hx;simp only[R.ok,Option.some.injEq,Prod.mk.injEq] at hq;obtain⟨rfl,rfl⟩:=hq;rw[hx] at h1;refine⟨.string _,?_,rfl,h1.2⟩;unfold execOp;rw[ho];refine run_val ?_;rw[h1.1];simp only[convert,Sem.run_bind,run_underlying hs,run_underlying hd,Result.andThen_ok];rfl
 · cases hq
def byteAt (b:ByteArray) (i:Nat):Int:=if h:i<b.size then (b[i].toNat:Int) else 0
theorem has_byte (b:ByteArray) (i:Nat):Has .u8 (byteAt b i):=by
 simp only[byteAt,Has,lo,hi];split
 · have:=b[i].toNat_lt;omega
 · omega
def indexR (P:Program) (t:TypeId) (x i:SV):R:=
 match x,i with
 | .str b,.int _ n=>match P.underlying t with
   | some .string=>R.ask (0<=n/\n<(b.size:Int)) (.int .u8 (byteAt b n.toNat))
   | _=>none
 | _,_=>none
theorem gives_index {t:TypeId} {x i:Operand} (ho:o.op=.index t x i):Gives P o s (indexR P t (s.ev x) (s.ev i)):=by
 intro q z hq hm c E a w h;have h1:=h.ev x;have h2:=h.ev i;unfold indexR at hq;split at hq
 · rename_i b k n hx hi;split at hq
   · rename_i hu;simp only[R.ask,Option.some.injEq,Prod.mk.injEq] at hq;obtain⟨rfl,rfl⟩:=hq;simp only[met] at hm;rw[hx] at h1;rw[hi] at h2;refine⟨.int .u8 (byteAt b n.toNat),?_,rfl,has_byte _ _⟩;unfold execOp;rw[ho];refine run_val ?_;rw[h1.1,h2.1,run_index_string w t b k n hu,dif_pos hm]
     have:n.toNat<b.size:=by omega
     simp only[byteAt,dif_pos this]
   · cases hq
 · cases hq
def rowOf (s:St) (j:Nat):Option Row:=match s.rw[j]? with
 | some r=>if r.st=0\/r.st=1 then (bif r.e.isMp then none else some r) else none
 | none=>none
theorem rowOf_eq {s:St} {j:Nat} {r:Row} (h:rowOf s j=some r):s.rw[j]?=some r/\(r.st=0\/r.st=1)/\r.e.isMp=false:=by
 unfold rowOf at h;split at h
 · rename_i r' hr;split at h
   · rename_i hs;cases hmp:r'.e.isMp with
     | true=>rw[hmp] at h;cases h
     | false=>
       rw[hmp] at h;simp at h;subst h;exact⟨hr,hs,hmp⟩
   · cases h
 · cases h
def lenOf (s:St) (x:SV):Option (Option Prop×Nat):=
 match x with
 | .str b=>some (none,b.size)
 | .nil=>some (none,0)
 | .sl _ ds=>some (none,ds.length)
 | .bsl _ ds=>some (none,ds.length)
 | .own j=>(rowOf s j).map fun r=>(none,r.ds.length)
 | .hs j π=>match s.rw[j]? with
   | some r=>if r.st=0 then (match typeP r.tid r.e π with
     | some _=>some (some (okP r.e r.ds π),(getP r.e r.ds π).length)
     | none=>none) else none
   | none=>none
 | _=>none
theorem Inv.row_rel {c:Ctx} {E:Env} {a:Act} {w:World} (h:Inv c E s a w) {j:Nat} {r:Row} {v:Value} (hr:s.rw[j]?=some r) (hv:E.rw[j]?=some v) (hs:r.st=0\/r.st=1) (hmp:r.e.isMp=false):∃ad cap,v=.slice ad r.ds.length cap/\r.ds.length<=cap/\r.ds.length<=140737488355328:=by
 obtain⟨_,h1,h2⟩:=h.rw j r v hr hv;rcases hs with hs | hs
 · obtain⟨F,_,h3⟩:=h1 hs;rw[headT_sl hmp] at h3;have e:=h3.sl_head.1;obtain⟨ds,xs,F',_,h5,h6,h7,_⟩:=h3;simp at h5;subst h5;have h6:ownsAt w r.tid r.e.size v r.ds.length xs:=by rw[e];exact h6
   obtain⟨ad,cap,h8,h9⟩:=slice_of_owns h6;exact⟨ad,cap,h8,h9,h7⟩
 · obtain⟨ad,n,cap,ds,h3,h4,h5,h6,h7,_⟩:=h2 hs;simp at h3 h4;subst h3;subst h4;exact⟨ad,cap,by rw[h5],by omega,by omega⟩
theorem Inv.hs_own {c:Ctx} {E:Env} {a:Act} {w:World} (h:Inv c E s a w) {j:Nat} {r:Row} {π:Path} {tid:TypeId} {e:OT} (hr:s.rw[j]?=some r) (hst:r.st=0) (ht:typeP r.tid r.e π=some (tid,e)) (hok:okP r.e r.ds π) :
   ∃F,Own (Reg c E s w) w (.sl tid e) (fun _ ρ=>E.nh j (π++ρ)) 0 [E.nh j π] (.node (getP r.e r.ds π)) F:=by
 obtain⟨v,hv⟩:=h.row_val hr;obtain⟨_,h1,_⟩:=h.rw j r v hr hv;obtain⟨F,_,h3⟩:=h1 hst;obtain⟨A,F',B,_,h4,_⟩:=Own.path ht hok h3;exact⟨F',h4⟩
def lenR (P:Program) (t:TypeId) (s:St) (x:SV):R:=
 match P.underlying t with
 | some .string=>match x with
   | .str b=>R.ok (.int .i64 b.size)
   | _=>none
 | some (.slice _)=>match x with
   | .str _=>none
   | x=>match lenOf s x with
     | some (q,n)=>some (q,.int .i64 n)
     | none=>none
 | _=>none
theorem gives_len {t:TypeId} {x:Operand} (ho:o.op=.call { callee:=.builtin .len,args:=#[x],argTypes:=#[t]}):Gives P o s (lenR P t s (s.ev x)):=by
 intro q z hq hm c E a w h;have h1:=h.ev x;have key:∀v n,a.eval x=v->(Builtin.len_ #[t] o.type #[v]).run P w=.ok (.int .i64 n) w->(execOp a.eval o).run P w=.ok (.value (.int .i64 n)) w:=by
   intro v n hv hl;subst hv;unfold execOp;rw[ho];simp only[resolve,invoke,builtin,pure_bind,List.map_toArray,List.map_cons,List.map_nil];exact run_val hl
 unfold lenR at hq;split at hq
 · rename_i hu;split at hq
   · rename_i b hx;simp only[R.ok,Option.some.injEq,Prod.mk.injEq] at hq;obtain⟨rfl,rfl⟩:=hq;rw[hx] at h1;exact⟨_,key _ _ h1.1 (run_len_string w t o.type b hu),rfl,by simp only[Has,lo,hi];have:=h1.2;omega⟩
   · cases hq
 · rename_i e hu;have hl:∀ad n cap,(Builtin.len_ #[t] o.type #[.slice ad n cap]).run P w=.ok (.int .i64 n) w:=fun ad n cap=>by simp [Builtin.len_,run_underlying hu,goInt]
   split at hq
   · cases hq
   · split at hq
     · rename_i q' n hn;simp only[Option.some.injEq,Prod.mk.injEq] at hq;obtain⟨rfl,rfl⟩:=hq
       have:∃ad cap,a.eval x=.slice ad n cap/\n<=140737488355328:=by
         unfold lenOf at hn;split at hn
         · rename_i b hx;exact (‹∀b,s.ev x=SV.str b->False› b hx).elim
         · rename_i hx;simp at hn;obtain⟨_,rfl⟩:=hn;rw[hx] at h1;exact⟨none,0,h1,by omega⟩
         · rename_i e ds hx;simp at hn;obtain⟨_,rfl⟩:=hn;rw[hx] at h1;obtain⟨ad,n,cap,ds',h3,h4,h5,h6,h7,_⟩:=h1;simp at h3 h4;subst h4;exact⟨ad,cap,by rw[h3,h5],by omega⟩
         · rename_i e ds hx;simp at hn;obtain⟨_,rfl⟩:=hn;rw[hx] at h1;obtain⟨ad,n,cap,ds',h3,h4,h5,h6,h7,_⟩:=h1;simp at h3 h4;subst h4;exact⟨ad,cap,by rw[h3,h5],by omega⟩
         · rename_i j hx;rw[hx] at h1;obtain⟨r,hr,hn⟩:=Option.map_eq_some_iff.1 hn;simp at hn;obtain⟨_,rfl⟩:=hn;obtain⟨hr',hs,hmp⟩:=rowOf_eq hr;obtain⟨ad,cap,h5,_,h6⟩:=h.row_rel hr' h1.1 hs hmp;exact⟨ad,cap,h5,h6⟩
         · rename_i j π hx;rw[hx] at h1;split at hn
           · rename_i r hr;split at hn
             · rename_i hst;split at hn
               · rename_i p hp;simp at hn;obtain⟨rfl,rfl⟩:=hn;obtain⟨F,h5⟩:=h.hs_own hr hst (tid:=p.1) (e:=p.2) hp hm;obtain⟨ds,xs,F',_,h7,h8,h9,_⟩:=h5;simp only[Dat.node.injEq] at h7;subst h7;obtain⟨ad,cap,h10,_⟩:=slice_of_owns h8;simp only[List.append_nil,h1.2.1] at h10;exact⟨ad,cap,h10,h9⟩
               · cases hn
             · cases hn
           · cases hn
         · cases hn
       obtain⟨ad,cap,h3,h4⟩:=this;exact⟨_,key _ _ h3 (hl ad n cap),rfl,by simp only[Has,lo,hi];omega⟩
     · cases hq
 · cases hq
def minR (mx:Bool) (x y:SV):R:=
 match x,y with
 | .int k m,.int k' n=>if kindEq k k' then R.ok (.int k (if mx then max m n else min m n)) else none
 | _,_=>none
theorem gives_min {ts:Array TypeId} {x y:Operand} {mx:Bool} (ho:o.op=.call { callee:=.builtin (if mx then .max else .min),args:=#[x,y],argTypes:=ts}):Gives P o s (minR mx (s.ev x) (s.ev y)):=by
 intro q z hq hm c E a w h;have h1:=h.ev x;have h2:=h.ev y;unfold minR at hq;split at hq
 · rename_i k m k' n hx hy;split at hq
   · rename_i hk;have hk:=kindEq_eq hk;subst hk;simp only[R.ok,Option.some.injEq,Prod.mk.injEq] at hq;obtain⟨rfl,rfl⟩:=hq;rw[hx] at h1;rw[hy] at h2;refine⟨.int k (if mx then max m n else min m n),?_,rfl,?_⟩
     · unfold execOp;rw[ho];simp only[resolve,invoke,pure_bind,List.map_toArray,List.map_cons,List.map_nil,h1.1,h2.1];cases mx
       · simp only[builtin,Bool.false_eq_true,if_false];refine run_val ?_;rw[run_min_int2]
         congr 2
         split<;>omega
       · simp only[builtin,if_true];refine run_val ?_;rw[run_max_int2]
         congr 2
         split<;>omega
     · have h3:=h1.2;have h4:=h2.2;unfold Has at *
       split<;>omega
   · cases hq
 · cases hq
end
end
section
section
variable {P:Program} {o:Oper} {s:St}
theorem size_info {P:Program} {t:TypeId} {n:Nat} (h:(P.info? t).map (·.size)=some n) (w:World):(sizeOf t).run P w=.ok n w:=by
 obtain⟨i,hi,rfl⟩:=Option.map_eq_some_iff.1 h;simp [sizeOf,typeInfo,hi]
theorem range_drop {w:World} {b o n:Nat} {cs:List Value} (h:w.rangeAt b o cs):w.rangeAt b (o+n) (cs.drop n):=fun j v hv=>by
 rw[List.getElem?_drop] at hv
 have:=h (n+j) v hv
 rwa [<- Nat.add_assoc] at this
theorem range_take {w:World} {b o n:Nat} {cs:List Value} (h:w.rangeAt b o cs):w.rangeAt b o (cs.take n):=fun j v hv=>by
 rw[List.getElem?_take] at hv;split at hv
 · exact h j v hv
 · cases hv
theorem range_block {w:World} {b:Nat} {cs:List Value} {t:TypeId} {fr:Nat×Nat} (h:w.heap[b]?=some (.cells cs.toArray t fr)):w.rangeAt b 0 cs:=fun j v hv=>by
 simp [World.cell?,h,hv]
def shiftP (x:SV) (n:Nat):Option SV:=
 match x with
 | .bp j off=>some (.bp j (off+n))
 | .rp j π i sz off=>some (.rp j π i sz (off+n))
 | .ptr t d off=>some (.ptr t d (off+n))
 | .bptr e d off=>some (.bptr e d (off+n))
 | _=>none
theorem shiftP_rel {S:Nat->Prop} {E:Env} {w:World} {x y:SV} {n:Nat} {v:Value} (h:shiftP x n=some y) (hr:RelV S E w x v):∃b o,v=.pointer (some ⟨b,o,none⟩)/\RelV S E w y (.pointer (some ⟨b,o+n,none⟩)):=by
 cases x<;>simp [shiftP] at h
 · subst h;obtain⟨b,h1,rfl⟩:=hr;exact⟨b,_,rfl,b,h1,rfl⟩
 · subst h;obtain⟨g,m,c,h0,h1,rfl⟩:=hr;exact⟨g.1,_,rfl,g,m,c,h0,h1,by rw[Nat.add_assoc,Nat.add_assoc]⟩
 · subst h;obtain⟨b,q,cs,rfl,h2⟩:=hr;exact⟨b,_,rfl,b,q,cs,by rw[Nat.add_assoc],h2⟩
 · subst h;obtain⟨b,q,cs,rfl,h2⟩:=hr;exact⟨b,_,rfl,b,q,cs,by rw[Nat.add_assoc],h2⟩
def fieldOf (P:Program) (t:TypeId) (f:Nat):Option (Field×Nat):=
 match P.underlying t with
 | some (.struct fs)=>match fs[f]? with
   | some fd=>match (P.info? fd.type).map (·.size) with
     | some n=>some (fd,n)
     | none=>none
   | none=>none
 | _=>none
theorem fieldOf_eq {t:TypeId} {f:Nat} {fd:Field} {n:Nat} (h:fieldOf P t f=some (fd,n)):∃fs,P.underlying t=some (.struct fs)/\fs[f]?=some fd/\(P.info? fd.type).map (·.size)=some n:=by
 unfold fieldOf at h;split at h
 · rename_i fs hu;split at h
   · rename_i fd' hf;split at h
     · rename_i n' hn;simp at h;obtain⟨rfl,rfl⟩:=h;exact⟨fs,hu,hf,hn⟩
     · cases h
   · cases h
 · cases h
def fieldAddrR (P:Program) (t:TypeId) (x:SV) (f:Nat):R:=
 match fieldOf P t f with
 | some (fd,_+1)=>match shiftP x fd.offset with
   | some y=>R.ok y
   | none=>none
 | _=>none
theorem gives_fieldAddr {t:TypeId} {x:Operand} {f:Nat} (ho:o.op=.fieldAddr t x f):Gives P o s (fieldAddrR P t (s.ev x) f):=by
 intro q z hq hm c E a w h;unfold fieldAddrR at hq;split at hq
 · rename_i fd n hf;obtain⟨fs,hu,hfd,hn⟩:=fieldOf_eq hf;split at hq
   · rename_i y hy;simp only[R.ok,Option.some.injEq,Prod.mk.injEq] at hq;obtain⟨rfl,rfl⟩:=hq;obtain⟨b,q,hv,hr⟩:=shiftP_rel hy (h.ev x);refine⟨_,?_,hr⟩;unfold execOp;rw[ho];refine run_val ?_;rw[hv];simp only[Instr.fieldAt,Sem.run_bind,run_underlying hu,Result.andThen_ok,hfd,Instr.sureAddr,Sem.run_pure,fieldPlace,size_info hn,Nat.succ_ne_zero,if_false,Addr.add_mid]
   · cases hq
 · cases hq
def okQ (e:OT) (ds:List Dat) (π:Path) (p:Prop):Prop:=
 match π with
 | []=>p
 | π=>okP e ds π/\p
theorem okQ_eq {e:OT} {ds:List Dat} {π:Path} {p:Prop} (h:okQ e ds π p):okP e ds π/\p:=by
 unfold okQ at h;split at h
 · exact⟨trivial,h⟩
 · exact h
def cellsAt (s:St) (x:SV):Option (Option Prop×List SV):=
 match x with
 | .bp j off=>match s.bx[j]? with
   | some p=>some (none,p.2.drop off)
   | none=>none
 | .ptr t d off=>some (none,(flat t d).drop off)
 | .bptr e d off=>some (none,(flatO e d).drop off)
 | .rp j π i sz off=>match s.rw[j]? with
   | some r=>if r.st=0 then (match typeP r.tid r.e π with
       | some (_,e)=>if e.size=sz then some (some (okQ r.e r.ds π (i<(getP r.e r.ds π).length)),(cellsO e j π i 0 ((getP r.e r.ds π).getD i default)).drop off) else none
       | none=>none) else none
   | none=>none
 | _=>none
theorem Inv.at_rp {c:Ctx} {E:Env} {a:Act} {w:World} (h:Inv c E s a w) {j i g oo n cap:Nat} {r:Row} {π:Path} {tid:TypeId} {e:OT} (hr:s.rw[j]?=some r) (hst:r.st=0) (ht:typeP r.tid r.e π=some (tid,e)) (hok:okP r.e r.ds π) (hi:i<(getP r.e r.ds π).length) (hv:E.nh j π=.slice (some ⟨g,oo,none⟩) n cap) :
   ∃cs G,w.rangeAt g (oo+i*e.size) cs/\Own (Reg c E s w) w e (fun o ρ=>E.nh j (π++(i,o)::ρ)) 0 cs ((getP r.e r.ds π).getD i default) G:=by
 obtain⟨F,h1⟩:=h.hs_own hr hst ht hok;obtain⟨g',oo',cap',cs,G,h2,h3,h4⟩:=h1.elem hi;simp only[List.append_nil] at h2;rw[hv] at h2;simp only[Value.slice.injEq,Option.some.injEq,Addr.mk.injEq] at h2;obtain⟨⟨h2,h2',_⟩,_⟩:=h2;subst h2;subst h2';exact⟨cs,G,h3,h4⟩
theorem cellsAt_rel {c:Ctx} {E:Env} {a:Act} {w:World} (h:Inv c E s a w) {x:SV} {v:Value} {q:Option Prop} {l:List SV} (hq:cellsAt s x=some (q,l)) (hm:met q) (hr:RelV (Reg c E s w) E w x v) :
   ∃b o cs,v=.pointer (some ⟨b,o,none⟩)/\w.rangeAt b o cs/\RelVs (Reg c E s w) E w l cs:=by
 unfold cellsAt at hq;split at hq
 · rename_i j off;split at hq
   · rename_i p hp;simp at hq;obtain⟨rfl,rfl⟩:=hq;obtain⟨b,h1,rfl⟩:=hr;obtain⟨cs,h2,h3,_⟩:=h.bx j p b hp h1
     have:=range_drop (n:=off) (range_block h2)
     rw[Nat.zero_add] at this;exact⟨b,off,_,rfl,this,h3.drop off⟩
   · cases hq
 · rename_i t d off;simp at hq;obtain⟨rfl,rfl⟩:=hq;obtain⟨b,q,cs,rfl,_,h3,h4⟩:=hr;exact⟨b,_,_,rfl,range_drop h3,h4.flat.drop off⟩
 · rename_i e d off;simp at hq;obtain⟨rfl,rfl⟩:=hq;obtain⟨b,q,cs,rfl,hb,h3,h4⟩:=hr;refine⟨b,_,_,rfl,range_drop (cs:=cs) (fun k u hu=>?_),h4.flat.drop off⟩;have hkeep:w.heap[b]?=E.w0.heap[b]?:=by
     rw[h.bor.1];exact h.old b (h.bor.2 b hb).1 (h.bor.2 b hb).2
   exact (World.cell?_of_block (w:=E.w0) (a:=⟨b,_,none⟩) hkeep).trans (h3 k u hu)
 · rename_i j π i sz off;split at hq
   · rename_i r hr';split at hq
     · rename_i hst;split at hq
       · rename_i tid e ht;split at hq
         · rename_i hsz;simp only[Option.some.injEq,Prod.mk.injEq] at hq;obtain⟨rfl,rfl⟩:=hq;obtain⟨hok,hi⟩:=okQ_eq hm;obtain⟨g,n,cap,hj,h1,rfl⟩:=hr;obtain⟨cs,G,h2,h3⟩:=h.at_rp hr' hst ht hok hi h1;rw[hsz] at h2;exact⟨g.1,_,_,by rw[Nat.add_assoc],range_drop h2,(Own.cells hj (fun o ρ=>rfl) h3).drop off⟩
         · cases hq
       · cases hq
     · cases hq
   · cases hq
 · cases hq
def rowB:TypeDesc->Bool
 | .struct _ | .array _ _=>true
 | _=>false
theorem rowB_eq (d:TypeDesc):rowB d=d.isRow:=by cases d<;>rfl
def takeAt (P:Program) (t:TypeId) (l:List SV):Option SV:=
 match P.underlying t with
 | some d=>bif rowB d then
     match (P.info? t).map (·.size) with
     | some n=>if n<=l.length then some (.agg (l.take n)) else none
     | none=>none
   else match l with
     | x::_=>some x
     | []=>none
 | none=>none
theorem run_load_one (w:World) (b o:Nat) (t:TypeId) (d:TypeDesc) (v:Value) (hu:P.underlying t=some d) (hd:d.isRow=false) (hc:w.cell? ⟨b,o,none⟩=some v):(Instr.loadAt t (.pointer (some ⟨b,o,none⟩))).run P w=.ok v w:=by
 have hagg:(isAgg t).run P w=.ok false w:=by
   unfold isAgg;rw[Sem.run_bind,run_underlying hu w];cases d<;>simp_all
 simp only[Instr.loadAt,Instr.sureAddr,Sem.run_bind,Sem.run_pure,Result.andThen_ok,loadVar,hagg,Bool.false_eq_true,if_false,load,Sem.run,hc]
theorem takeAt_run {S:Nat->Prop} {E:Env} {w:World} {t:TypeId} {l:List SV} {y:SV} {b o:Nat} {cs:List Value} (h:takeAt P t l=some y) (hc:w.rangeAt b o cs) (hr:RelVs S E w l cs) :
   ∃v,(Instr.loadAt t (.pointer (some ⟨b,o,none⟩))).run P w=.ok v w/\RelV S E w y v:=by
 unfold takeAt at h;split at h
 · rename_i d hu;cases hd:rowB d with
   | true=>
     have hd':d.isRow=true:=(rowB_eq d).symm.trans hd;rw[hd] at h;simp only[cond_true] at h;split at h
     · rename_i n hn;split at h
       · rename_i hle;simp at h;subst h;have hl:(cs.take n).length=n:=by rw[List.length_take,hr.length];omega
         exact⟨_,run_loadAt_mid w b o t (cs.take n) d (range_take hc) hu hd' (by rw[hn,hl]),_,rfl,hr.take n⟩
       · cases h
     · cases h
   | false=>
     have hd':d.isRow=false:=(rowB_eq d).symm.trans hd;rw[hd] at h;simp only[cond_false] at h;split at h
     · simp at h;subst h;obtain⟨v,vs,rfl,h1,_⟩:=hr;exact⟨v,run_load_one w b o t d v hu hd' (by have:=hc 0 v rfl;simpa using this),h1⟩
     · cases h
 · cases h
def arrLoad (P:Program) (s:St) (t:TypeId) (x:SV):R:=
 match x with
 | .rp j [] i sz off=>match s.rw[j]? with
   | some r=>if r.st=0 then (match r.e,P.underlying t with
     | .im (.int k),some (.array n _)=>bif Nat.beq i 0&&Nat.beq off 0&&Nat.beq sz 1&&Nat.blt 0 n then (match (P.info? t).map (·.size) with
       | some n'=>bif Nat.beq n' n then some (some (r.ds.length=n),.arr k r.ds) else none
       | none=>none) else none
     | _,_=>none) else none
   | none=>none
 | _=>none
theorem elems_ints {S:Nat->Prop} {w:World} {k:IntKind} {H:Nat->Hd}:∀{ds:List Dat} {n:Nat} {xs:List Value} {F:List Nat},Elems (fun i=>Own S w (.im (.int k)) (H i) 0) n xs ds F->xs=(ds.map fun d=>Value.int k d.toInt)/\∀d∈ds,Has k d.toInt
 | [],_,_,_,⟨h,_⟩=>⟨h,fun d hd=>by cases hd⟩
 | d::ds,n,_,_,⟨x1,x2,F1,F2,h1,_,⟨⟨m,h3,h4,h5⟩,_⟩,h6⟩=>by
   obtain⟨h7,h8⟩:=elems_ints h6;subst h4;refine⟨by rw[h1,h3,h7];rfl,fun d' hd=>?_⟩;rcases List.mem_cons.1 hd with rfl | hd
   · exact h5
   · exact h8 d' hd
def loadR (P:Program) (s:St) (t:TypeId) (x:SV):R:=
 match cellsAt s x with
 | some (q,l)=>match takeAt P t l with
   | some y=>some (q,y)
   | none=>arrLoad P s t x
 | none=>none
theorem gives_load {t:TypeId} {x:Operand} (ho:o.op=.load t x):Gives P o s (loadR P s t (s.ev x)):=by
 intro q z hq hm c E a w h;unfold loadR at hq;split at hq
 · rename_i q' l hl;split at hq
   · rename_i y hy;simp at hq;obtain⟨rfl,rfl⟩:=hq;obtain⟨b,off,cs,hv,hc,hr⟩:=cellsAt_rel h hl hm (h.ev x);obtain⟨v,h1,h2⟩:=takeAt_run hy hc hr;refine⟨v,?_,h2⟩;unfold execOp;rw[ho];refine run_val ?_;rw[hv];exact h1
   · unfold arrLoad at hq;split at hq
     · rename_i j i sz off hx;have h1:=h.ev x;rw[hx] at h1;obtain⟨g,m,cp,hj,hnh,hv⟩:=h1;split at hq
       · rename_i r hr;split at hq
         · rename_i hst;split at hq
           · rename_i k n _ he hu;cases hc:Nat.beq i 0&&Nat.beq off 0&&Nat.beq sz 1&&Nat.blt 0 n with
             | false=>rw[hc] at hq;cases hq
             | true=>
               rw[hc] at hq;simp only[Bool.and_eq_true] at hc;have c1:=Nat.eq_of_beq_eq_true hc.1.1.1;have c2:=Nat.eq_of_beq_eq_true hc.1.1.2;have c4:0<n:=Nat.le_of_ble_eq_true hc.2;subst c1;subst c2;simp only[cond_true] at hq;split at hq
               · rename_i n' hn;cases hb:Nat.beq n' n with
                 | false=>rw[hb] at hq;cases hq
                 | true=>
                   rw[hb] at hq
                   have:=Nat.eq_of_beq_eq_true hb
                   subst this;simp only[cond_true,Option.some.injEq,Prod.mk.injEq] at hq;obtain⟨rfl,rfl⟩:=hq;simp only[met] at hm;obtain⟨u,hu'⟩:=h.row_val hr;obtain⟨_,h2,_⟩:=h.rw j r u hr hu';obtain⟨F,hF,h3⟩:=h2 hst;rw[he] at h3;obtain⟨ds,xs,F',h4,h5,h6,_,h7,_⟩:=h3;simp at h4 h5;subst h5;have hnh':E.nh j []=.slice (some ⟨g.1,g.2,none⟩) m cp:=hnh;have h6:ownsAt w r.tid 1 (E.nh j []) r.ds.length xs:=h6;rw[hnh'] at h6;obtain⟨g',o',cap',h8,_,h9⟩:=range_of_owns h6 (by omega);simp only[Value.slice.injEq,Option.some.injEq,Addr.mk.injEq] at h8;obtain⟨⟨h8,h8',_⟩,_⟩:=h8;subst h8;subst h8';obtain⟨h10,h11⟩:=elems_ints h7
                   subst h10;refine⟨_,?_,rfl,h11⟩;unfold execOp;rw[ho];refine run_val ?_;rw[hv,Nat.zero_mul,Nat.add_zero];exact run_loadAt_mid w g.1 g.2 t _ _ h9 hu rfl (by rw[hn];simp [hm])
               · cases hq
           · cases hq
         · cases hq
       · cases hq
     · cases hq
 · cases hq
theorem part_run {S:Nat->Prop} {E:Env} {w:World} {t:TypeId} {l:List SV} {y:SV} {off n:Nat} {vs:List Value} (hy:takeAt P t (l.drop off)=some y) (hn:(P.info? t).map (·.size)=some n) (hr:RelVs S E w l vs) :
   ∃v,(part t vs.toArray off).run P w=.ok v w/\RelV S E w y v:=by
 unfold takeAt at hy;split at hy
 · rename_i d hd;cases hdr:rowB d with
   | true=>
     have hagg:(isAgg t).run P w=.ok true w:=by
       unfold isAgg;rw[Sem.run_bind,run_underlying hd w];rw[rowB_eq] at hdr;cases d<;>simp_all
     rw[hdr] at hy;simp only[cond_true,hn] at hy;split at hy
     · simp at hy;subst hy;refine⟨.agg ((vs.drop off).take n).toArray,?_,_,rfl,(hr.drop _).take _⟩;simp only[part,Sem.run_bind,hagg,Result.andThen_ok,if_true,size_info hn];simp [List.extract_toArray]
     · cases hy
   | false=>
     have hagg:(isAgg t).run P w=.ok false w:=by
       unfold isAgg;rw[Sem.run_bind,run_underlying hd w];rw[rowB_eq] at hdr;cases d<;>simp_all
     rw[hdr] at hy;simp only[cond_false] at hy;split at hy
     · rename_i x' l' hl';simp at hy;subst hy;have h5:=hr.drop off;rw[hl'] at h5;obtain⟨v,vs',h6,h7,_⟩:=h5;refine⟨v,?_,h7⟩;have h8:vs[off]?=some v:=by
         have:=congrArg (·[0]?) h6
         simpa [List.getElem?_drop] using this
       simp only[part,Sem.run_bind,hagg,Result.andThen_ok,Bool.false_eq_true,if_false];simp [h8]
     · cases hy
 · cases hy
def indexA (P:Program) (t:TypeId) (x i:SV):R:=
 match x,i with
 | .agg l,.int _ n=>match P.underlying t with
   | some (.array len e)=>match (P.info? e).map (·.size) with
     | some sz=>match takeAt P e (l.drop (n.toNat*sz)) with
       | some y=>R.ask (0<=n/\n<(len:Int)) y
       | none=>none
     | none=>none
   | _=>none
 | .arr k ds,.int _ n=>match P.underlying t with
   | some (.array len e)=>match P.underlying e,(P.info? e).map (·.size) with
     | some (.int _),some sz=>bif Nat.beq sz 1 then R.ask ((0<=n/\n<(len:Int))/\n<(ds.length:Int)) (.int k (ds.getD n.toNat default).toInt) else none
     | _,_=>none
   | _=>none
 | _,_=>none
theorem gives_indexA {t:TypeId} {x i:Operand} (ho:o.op=.index t x i):Gives P o s (indexA P t (s.ev x) (s.ev i)):=by
 intro q z hq hm c E a w h;have h1:=h.ev x;have h2:=h.ev i;unfold indexA at hq;split at hq
 · rename_i l k n hx hi;rw[hx] at h1;rw[hi] at h2;obtain⟨vs,hv,hr⟩:=h1;split at hq
   · rename_i len e hu;split at hq
     · rename_i sz hs;split at hq
       · rename_i y hy;simp only[R.ask,Option.some.injEq,Prod.mk.injEq] at hq;obtain⟨rfl,rfl⟩:=hq;simp only[met] at hm;obtain⟨v,h5,h6⟩:=part_run hy hs hr;refine⟨v,?_,h6⟩;unfold execOp;rw[ho];refine run_val ?_;rw[hv,h2.1];simp only[Instr.index,asIntOf,Sem.run_bind,Sem.run_pure,Result.andThen_ok,run_underlying hu,hm,and_self,if_true,size_info hs,h5]
       · cases hq
     · cases hq
   · cases hq
 · rename_i k ds k' n hx hi;rw[hx] at h1;rw[hi] at h2;obtain⟨hv,hr⟩:=h1;split at hq
   · rename_i len e hu;split at hq
     · rename_i q sz hue hs;cases hb:Nat.beq sz 1 with
       | false=>rw[hb] at hq;cases hq
       | true=>
         rw[hb] at hq
         have:=Nat.eq_of_beq_eq_true hb
         subst this;simp only[cond_true,R.ask,Option.some.injEq,Prod.mk.injEq] at hq;obtain⟨rfl,rfl⟩:=hq;simp only[met] at hm;have hlt:n.toNat<ds.length:=by omega
         have hget:(ds.map fun d=>Value.int k d.toInt)[n.toNat]?=some (.int k (ds.getD n.toNat default).toInt):=by
           rw[List.getElem?_map,List.getElem?_eq_getElem hlt,List.getD_eq_getElem?_getD,List.getElem?_eq_getElem hlt];rfl
         have hagg:(isAgg e).run P w=.ok false w:=by
           unfold isAgg;rw[Sem.run_bind,run_underlying hue w];rfl
         refine⟨.int k (ds.getD n.toNat default).toInt,?_,rfl,hr _ (by rw[List.getD_eq_getElem?_getD,List.getElem?_eq_getElem hlt];exact List.getElem_mem hlt)⟩;unfold execOp;rw[ho];refine run_val ?_;rw[hv,h2.1];simp only[Instr.index,asIntOf,Sem.run_bind,Sem.run_pure,Result.andThen_ok,run_underlying hu,hm.1,and_self,if_true,size_info hs,part,hagg,Bool.false_eq_true,if_false,Nat.mul_one];simp [hget]
     · cases hq
   · cases hq
 · cases hq
def elemA (P:Program) (t:TypeId) (x i:SV):R:=
 match x,i with
 | .bp j off,.int _ n=>match P.underlying t with
   | some (.array len e)=>match (P.info? e).map (·.size) with
     | some sz=>R.ask (0<=n/\n<(len:Int)) (.bp j (off+n.toNat*sz))
     | none=>none
   | _=>none
 | .rp j π a sz off,.int _ n=>match P.underlying t with
   | some (.array len e)=>match (P.info? e).map (·.size) with
     | some sz'=>bif Nat.beq sz sz'&&Nat.beq a 0&&Nat.beq off 0 then R.ask (0<=n/\n<(len:Int)) (.rp j π n.toNat sz 0) else none
     | none=>none
   | _=>none
 | _,_=>none
theorem gives_elemA {t:TypeId} {x i:Operand} (ho:o.op=.indexAddr t x i):Gives P o s (elemA P t (s.ev x) (s.ev i)):=by
 intro q z hq hm c E a w h;have h1:=h.ev x;have h2:=h.ev i;unfold elemA at hq;split at hq
 · rename_i j off k n hx hi;rw[hx] at h1;rw[hi] at h2;obtain⟨b,hb,hv⟩:=h1;split at hq
   · rename_i len e hu;split at hq
     · rename_i sz hs;simp only[R.ask,Option.some.injEq,Prod.mk.injEq] at hq;obtain⟨rfl,rfl⟩:=hq;simp only[met] at hm;refine⟨_,?_,b,hb,rfl⟩;unfold execOp;rw[ho];refine run_val ?_;rw[hv,h2.1];simp only[Instr.indexAt,asIntOf,Sem.run_bind,Sem.run_pure,Result.andThen_ok,run_underlying hu,Instr.sureAddr,hm,and_self,if_true,size_info hs,Addr.add_mid]
     · cases hq
   · cases hq
 · rename_i j π a' sz off k n hx hi;rw[hx] at h1;rw[hi] at h2;obtain⟨g,m,cp,hj,hnh,hv⟩:=h1;split at hq
   · rename_i len e hu;split at hq
     · rename_i sz' hs;cases hc:Nat.beq sz sz'&&Nat.beq a' 0&&Nat.beq off 0 with
       | false=>rw[hc] at hq;cases hq
       | true=>
         rw[hc] at hq;simp only[Bool.and_eq_true] at hc;have c1:=Nat.eq_of_beq_eq_true hc.1.1;have c2:=Nat.eq_of_beq_eq_true hc.1.2;have c3:=Nat.eq_of_beq_eq_true hc.2;subst c1;subst c2;subst c3;simp only[cond_true,R.ask,Option.some.injEq,Prod.mk.injEq] at hq;obtain⟨rfl,rfl⟩:=hq;simp only[met] at hm;refine⟨_,?_,g,m,cp,hj,hnh,rfl⟩;unfold execOp;rw[ho];refine run_val ?_;rw[hv,h2.1];simp only[Instr.indexAt,asIntOf,Sem.run_bind,Sem.run_pure,Result.andThen_ok,run_underlying hu,Instr.sureAddr,hm,and_self,if_true,size_info hs,Addr.add_mid,Nat.zero_mul,Nat.add_zero]
     · cases hq
   · cases hq
 · cases hq
def fieldR (P:Program) (t:TypeId) (x:SV) (f:Nat):R:=
 match x,fieldOf P t f with
 | .agg l,some (fd,n)=>if fd.offset+n<=l.length then
     match takeAt P fd.type (l.drop fd.offset) with
     | some y=>R.ok y
     | none=>none
   else none
 | _,_=>none
theorem gives_field {t:TypeId} {x:Operand} {f:Nat} (ho:o.op=.field t x f):Gives P o s (fieldR P t (s.ev x) f):=by
 intro q z hq hm c E a w h;have h1:=h.ev x;unfold fieldR at hq;split at hq
 · rename_i l fd n hx hf;rw[hx] at h1;obtain⟨vs,hv,hr⟩:=h1;obtain⟨fs,hu,hfd,hn⟩:=fieldOf_eq hf;split at hq
   · rename_i hle;split at hq
     · rename_i y hy;simp only[R.ok,Option.some.injEq,Prod.mk.injEq] at hq;obtain⟨rfl,rfl⟩:=hq;have hpart:∃v,(part fd.type vs.toArray fd.offset).run P w=.ok v w/\RelV (Reg c E s w) E w y v:=by
         unfold takeAt at hy;split at hy
         · rename_i d hd;cases hdr:rowB d with
           | true=>
             have hagg:(isAgg fd.type).run P w=.ok true w:=by
               unfold isAgg;rw[Sem.run_bind,run_underlying hd w];rw[rowB_eq] at hdr;cases d<;>simp_all
             rw[hdr] at hy;simp only[cond_true,hn] at hy;split at hy
             · simp at hy;subst hy;refine⟨.agg ((vs.drop fd.offset).take n).toArray,?_,_,rfl,(hr.drop _).take _⟩;simp only[part,Sem.run_bind,hagg,Result.andThen_ok,if_true,size_info hn];simp [List.extract_toArray]
             · cases hy
           | false=>
             have hagg:(isAgg fd.type).run P w=.ok false w:=by
               unfold isAgg;rw[Sem.run_bind,run_underlying hd w];rw[rowB_eq] at hdr;cases d<;>simp_all
             rw[hdr] at hy;simp only[cond_false] at hy;split at hy
             · rename_i x' l' hl';simp at hy;subst hy;have h5:=hr.drop fd.offset;rw[hl'] at h5;obtain⟨v,vs',h6,h7,_⟩:=h5;refine⟨v,?_,h7⟩;have h8:vs[fd.offset]?=some v:=by
                 have:=congrArg (·[0]?) h6
                 simpa [List.getElem?_drop] using this
               simp only[part,Sem.run_bind,hagg,Result.andThen_ok,Bool.false_eq_true,if_false];simp [h8]
             · cases hy
         · cases hy
       obtain⟨v,h5,h6⟩:=hpart;refine⟨v,?_,h6⟩;unfold execOp;rw[ho];refine run_val ?_;rw[hv];simp only[Instr.field,Sem.run_bind,run_underlying hu,Result.andThen_ok,hfd,asAgg,Sem.run_pure,h5]
     · cases hq
   · cases hq
 · cases hq
def elemR (P:Program) (s:St) (t:TypeId) (x i:SV):R:=
 match P.underlying t,i with
 | some (.slice e),.int _ n=>match (P.info? e).map (·.size) with
   | some sz=>match x with
     | .sl ty ds=>if ty.size=sz then R.ask (0<=n/\n<(ds.length:Int)) (.ptr ty (ds.getD n.toNat default) 0) else none
     | .bsl ty ds=>if ty.size=sz then R.ask (0<=n/\n<(ds.length:Int)) (.bptr ty (ds.getD n.toNat default) 0) else none
     | .own j=>match s.rw[j]? with
       | some r=>if r.e.size=sz/\r.e.isMp=false then
           (if r.st=0 then R.ask (0<=n/\n<(r.ds.length:Int)) (.rp j [] n.toNat sz 0)
            else if r.st=1 then R.ask (0<=n/\n<(r.ds.length:Int)) (.ptr r.e.ty (r.ds.getD n.toNat default) 0) else none) else none
       | none=>none
     | .hs j π=>match s.rw[j]? with
       | some r=>if r.st=0 then (match typeP r.tid r.e π with
           | some (_,e')=>if e'.size=sz then R.ask (okQ r.e r.ds π (0<=n/\n<((getP r.e r.ds π).length:Int))) (.rp j π n.toNat sz 0) else none
           | none=>none) else none
       | none=>none
     | _=>none
   | none=>none
 | _,_=>none
theorem run_elem {P:Program} {t e:TypeId} {sz:Nat} (hu:P.underlying t=some (.slice e)) (hs:(P.info? e).map (·.size)=some sz) (w:World) (b off len cap:Nat) (k:IntKind) (n:Int) (h0:0<=n) (h1:n<(len:Int)) :
   (Instr.indexAt t (.slice (some ⟨b,off,none⟩) len cap) (.int k n)).run P w=.ok (.pointer (some ⟨b,off+n.toNat*sz,none⟩)) w:=by
 simp only[Instr.indexAt,asIntOf,Sem.run_bind,Sem.run_pure,Result.andThen_ok,run_underlying hu];simp only[h0,h1,and_self,if_true,Sem.run_bind,size_info hs,Result.andThen_ok,Sem.run_pure,Addr.add_mid]
theorem sl_at {S:Nat->Prop} {w:World} {ty:Ty} {v:Value} {ds:List Dat} (h:Rep S w (.sl ty) [v] (.node ds)) {i:Nat} (hi:i<ds.length):∃b off cap,v=.slice (some ⟨b,off,none⟩) ds.length cap/\S b/\∃es,w.rangeAt b (off+i*ty.size) es/\Rep S w ty es (ds.getD i default):=by
 obtain⟨ad,n,cap,ds',h3,h4,h5,h6,h7,h8⟩:=h;simp at h3 h4;subst h4;subst h3;obtain⟨b,off,e,hb,hc⟩:=h8 (by omega);subst e;have hx:ds[i]?=some (ds.getD i default):=by rw[List.getD_eq_getElem?_getD,List.getElem?_eq_getElem hi];rfl
 exact⟨b,off,cap,by rw[h5],hb,hc i _ hx⟩
theorem gives_elem {t:TypeId} {x i:Operand} (ho:o.op=.indexAddr t x i):Gives P o s (elemR P s t (s.ev x) (s.ev i)):=by
 intro q z hq hm c E a w h;have h1:=h.ev x;have h2:=h.ev i;unfold elemR at hq;split at hq
 · rename_i e k n hu hi;rw[hi] at h2;split at hq
   · rename_i sz hs;have key:∀b off len cap,a.eval x=.slice (some ⟨b,off,none⟩) len cap->0<=n->n<(len:Int)->(execOp a.eval o).run P w=.ok (.value (.pointer (some ⟨b,off+n.toNat*sz,none⟩))) w:=by
       intro b off len cap hv h0 h3;unfold execOp;rw[ho];refine run_val ?_;rw[hv,h2.1];exact run_elem hu hs w b off len cap k n h0 h3
     have immut:∀ty ds v,ty.size=sz->a.eval x=v->Rep (Reg c E s w) w (.sl ty) [v] (.node ds)->0<=n/\n<(ds.length:Int)->∃v,(execOp a.eval o).run P w=.ok (.value v) w/\RelV (Reg c E s w) E w (.ptr ty (ds.getD n.toNat default) 0) v:=by
       intro ty ds v hsz hv hr hn;obtain⟨b,off,cap,e1,hb,es,h4,h5⟩:=sl_at hr (i:=n.toNat) (by omega);refine⟨_,key b off _ cap (by rw[hv,e1]) hn.1 hn.2,b,_,es,rfl,hb,?_,h5⟩;rw[<- hsz];exact h4
     split at hq
     · rename_i ty ds hx;rw[hx] at h1;split at hq
       · rename_i hsz;simp only[R.ask,Option.some.injEq,Prod.mk.injEq] at hq;obtain⟨rfl,rfl⟩:=hq;exact immut ty ds _ hsz rfl h1 hm
       · cases hq
     · rename_i ty ds hx;rw[hx] at h1;split at hq
       · rename_i hsz;simp only[R.ask,Option.some.injEq,Prod.mk.injEq] at hq;obtain⟨rfl,rfl⟩:=hq;simp only[met] at hm;obtain⟨ad,n',cap,ds',h3,h4,h5,h6,h7,h8⟩:=h1;simp at h3 h4;subst h4;obtain⟨b,off,rfl,hb,hc⟩:=h8 (by omega);obtain⟨es,h9,h10⟩:=hc n.toNat (ds.getD n.toNat default) (by rw[List.getD_eq_getElem?_getD,List.getElem?_eq_getElem (by omega)];rfl);refine⟨_,key b off _ cap h3 hm.1 (by omega),b,_,es,rfl,hb,?_,h10⟩;rw[<- hsz];exact h9
       · cases hq
     · rename_i j hx;rw[hx] at h1;split at hq
       · rename_i r hr;split at hq
         · rename_i hsz;split at hq
           · rename_i hst;simp only[R.ask,Option.some.injEq,Prod.mk.injEq] at hq;obtain⟨rfl,rfl⟩:=hq;simp only[met] at hm;obtain⟨_,h3,_⟩:=h.rw j r _ hr h1.1;obtain⟨F,_,h4⟩:=h3 hst;rw[headT_sl hsz.2] at h4;have e:=h4.sl_head.1;obtain⟨g,oo,cap,cs,G,h5,_⟩:=h4.elem (i:=n.toNat) (by omega);exact⟨_,key g oo _ cap (by rw[e];exact h5) hm.1 hm.2,(g,oo),_,cap,(List.getElem?_eq_some_iff.1 h1.1).1,h5,by rw[Nat.add_zero]⟩
           · split at hq
             · rename_i hst;simp only[R.ask,Option.some.injEq,Prod.mk.injEq] at hq;obtain⟨rfl,rfl⟩:=hq;obtain⟨_,_,h3⟩:=h.rw j r _ hr h1.1;exact immut r.e.ty r.ds _ (by rw[OT.ty_size];exact hsz.1) rfl (h3 hst) hm
             · cases hq
         · cases hq
       · cases hq
     · rename_i j π hx;rw[hx] at h1;split at hq
       · rename_i r hr;split at hq
         · rename_i hst;split at hq
           · rename_i tid e' ht;split at hq
             · rename_i hsz;simp only[R.ask,Option.some.injEq,Prod.mk.injEq] at hq;obtain⟨rfl,rfl⟩:=hq;obtain⟨hok,hn⟩:=okQ_eq hm;obtain⟨F,h4⟩:=h.hs_own hr hst ht hok;obtain⟨g,oo,cap,cs,G,h5,_⟩:=h4.elem (i:=n.toNat) (by omega);simp only[List.append_nil] at h5;refine⟨_,key g oo _ cap (by rw[<- h1.2.1];exact h5) hn.1 hn.2,(g,oo),_,cap,h1.1,h5,by rw[Nat.add_zero]⟩
             · cases hq
           · cases hq
         · cases hq
       · cases hq
     · cases hq
   · cases hq
 · cases hq
def extractR (x:SV) (i:Nat):R:=
 match x with
 | .tup l=>match l[i]? with
   | some y=>R.ok y
   | none=>none
 | _=>none
theorem gives_extract {x:Operand} {i:Nat} (ho:o.op=.extract x i):Gives P o s (extractR (s.ev x) i):=by
 intro q z hq hm c E a w h;have h1:=h.ev x;unfold extractR at hq;split at hq
 · rename_i l hx;rw[hx] at h1;split at hq
   · rename_i y hy;simp only[R.ok,Option.some.injEq,Prod.mk.injEq] at hq;obtain⟨rfl,rfl⟩:=hq;obtain⟨vs,hv,hr⟩:=h1;obtain⟨v,h2,h3⟩:=hr.get hy;refine⟨v,?_,h3⟩;unfold execOp;rw[ho];refine run_val ?_;rw[hv];simp [Instr.extract,h2]
   · cases hq
 · cases hq
def nilR (x:SV):R:=
 match x with
 | .bp j off=>R.ok (.bp j off)
 | .rp j π i sz off=>R.ok (.rp j π i sz off)
 | .ptr t d off=>R.ok (.ptr t d off)
 | .bptr e d off=>R.ok (.bptr e d off)
 | .fn f l=>R.ok (.fn f l)
 | .bf f l=>R.ok (.bf f l)
 | _=>none
theorem gives_nil {x:Operand} (ho:o.op=.nilCheck x):Gives P o s (nilR (s.ev x)):=by
 intro q z hq hm c E a w h;have h1:=h.ev x;unfold nilR at hq;split at hq
 all_goals first
   | cases hq;done
   | skip
 all_goals
   rename_i hx;simp only[R.ok,Option.some.injEq,Prod.mk.injEq] at hq;obtain⟨rfl,rfl⟩:=hq;rw[hx] at h1;refine⟨_,?_,h1⟩;unfold execOp;rw[ho]
 · obtain⟨b,_,e⟩:=h1;simp only[e];rfl
 · obtain⟨g,n,c,_,_,e⟩:=h1;simp only[e];rfl
 · obtain⟨b,q,cs,e,_⟩:=h1;simp only[e];rfl
 · obtain⟨b,q,cs,e,_⟩:=h1;simp only[e];rfl
 · obtain⟨vs,e,_⟩:=h1;simp only[e];rfl
 · obtain⟨vs,e,_⟩:=h1;simp only[e];rfl
end
end
section
variable {P:Program} {o:Oper} {s:St}
def eqOne (P:Program) (t:TypeId) (x y:SV):Option Bool:=
 match P.underlying t with
 | some (.int _)=>match x,y with
   | .int k m,.int k' n=>bif kindEq k k' then some (decide (m=n)) else none
   | _,_=>none
 | some .string=>match x,y with
   | .str m,.str n=>some (decide (m=n))
   | _,_=>none
 | some .bool=>match asB x,asB y with
   | some a,some b=>some (decide (a=b))
   | _,_=>none
 | _=>none
def eqFs (P:Program) (l m:List SV):List Field->Option Bool
 | []=>some true
 | f::fs=>bif f.name == "_" then eqFs P l m fs else match l[f.offset]?,m[f.offset]?,eqFs P l m fs with
   | some x,some y,some r=>match eqOne P f.type x y with
     | some b=>some (b&&r)
     | none=>none
   | _,_,_=>none
theorem part_one {t:TypeId} {d:TypeDesc} {vs:List Value} {off:Nat} {v:Value} {w:World} (hd:P.underlying t=some d) (hr:d.isRow=false) (hv:vs[off]?=some v):(part t vs.toArray off).run P w=.ok v w:=by
 have hagg:(isAgg t).run P w=.ok false w:=by
   unfold isAgg;rw[Sem.run_bind,run_underlying hd w];cases d<;>simp_all
 simp only[part,Sem.run_bind,hagg,Result.andThen_ok,Bool.false_eq_true,if_false];simp [hv]
theorem eqOne_run {S:Nat->Prop} {E:Env} {w:World} {t:TypeId} {x y:SV} {u v:Value} {b:Bool} (h:eqOne P t x y=some b) (hx:RelV S E w x u) (hy:RelV S E w y v) :
   (∃d,P.underlying t=some d/\d.isRow=false)/\∀n,(Op.equalIn (n+1) t u v).run P w=.ok b w:=by
 unfold eqOne at h;split at h
 · rename_i k0 hu;split at h
   · rename_i k m k' n;cases hk:kindEq k k' with
     | false=>rw[hk] at h;cases h
     | true=>
       rw[hk] at h;simp at h;subst h
       have:=kindEq_eq hk
       subst this;obtain⟨rfl,_⟩:=hx;obtain⟨rfl,_⟩:=hy;refine⟨⟨_,hu,rfl⟩,fun q=>?_⟩;rw[run_equalIn_int w q t k k0 m n hu]
       congr 1
   · cases h
 · rename_i hu;split at h
   · rename_i m n;simp at h;subst h;obtain⟨rfl,_⟩:=hx;obtain⟨rfl,_⟩:=hy;refine⟨⟨_,hu,rfl⟩,fun q=>?_⟩;rw[run_equalIn_string w q t m n hu,bytes_eq]
   · cases h
 · rename_i hu;split at h
   · rename_i a c ha hc;simp at h;subst h;have h1:=asB_rel ha hx;have h2:=asB_rel hc hy;subst h1;subst h2;refine⟨⟨_,hu,rfl⟩,fun q=>?_⟩;rw[run_equalIn_bool' w q t a c hu]
     congr 1
   · cases h
 · cases h
theorem eqFs_run {S:Nat->Prop} {E:Env} {w:World} {l m:List SV} {us vs:List Value} (hl:RelVs S E w l us) (hm:RelVs S E w m vs) (n:Nat):∀{fs:List Field} {b:Bool},eqFs P l m fs=some b->(Op.eqFields (n+1) us.toArray vs.toArray fs).run P w=.ok b w
 | [],b,h=>by
   simp [eqFs] at h;subst h;simp [Op.eqFields]
 | f::fs,b,h=>by
   unfold eqFs at h;cases hf:f.name == "_" with
   | true=>
     rw[hf] at h;have hf:f.name= "_" :=by simpa using hf
     simp only[Op.eqFields,hf,ne_eq,not_true,if_false];exact eqFs_run hl hm n h
   | false=>
     rw[hf] at h;have hf:¬f.name= "_" :=by simpa using hf
     simp only[cond_false] at h;split at h
     · rename_i x y r hx hy hr;split at h
       · rename_i b1 hb;simp at h;subst h;obtain⟨u,hu,hxu⟩:=hl.get hx;obtain⟨v,hv,hyv⟩:=hm.get hy;obtain⟨⟨d,hd,hdr⟩,he⟩:=eqOne_run hb hxu hyv;have h1:=part_one (w:=w) hd hdr hu;have h2:=part_one (w:=w) hd hdr hv;simp only[Op.eqFields,ne_eq,hf,not_false_eq_true,if_true,Sem.run_bind,h1,h2,Result.andThen_ok,he n];cases b1
         · simp
         · simp only[Bool.not_true,Bool.false_eq_true,if_false,Bool.true_and];exact eqFs_run hl hm n hr
       · cases h
     · cases h
def aggR (P:Program) (op:BinOp) (t:TypeId) (l m:List SV):R:=
 match P.underlying t with
 | some (.struct fs)=>bif P.stoodInHeld t||P.eqGuardType P.depth t then none else match eqFs P l m fs.toList with
   | some b=>match op with
     | .eql=>R.ok (.bool b)
     | .neq=>R.ok (.bool (!b))
     | _=>none
   | none=>none
 | _=>none
theorem gives_agg {op:BinOp} {t u:TypeId} {x y:Operand} {l m:List SV} (ho:o.op=.binOp op t x y u) (hx:s.ev x=.agg l) (hy:s.ev y=.agg m):Gives P o s (aggR P op t l m):=by
 intro q z hq hm c E a w h;have h1:=h.ev x;rw[hx] at h1;have h2:=h.ev y;rw[hy] at h2;obtain⟨us,h1,h3⟩:=h1;obtain⟨vs,h2,h4⟩:=h2;unfold aggR at hq;split at hq
 · rename_i fs hu;cases hg:P.stoodInHeld t||P.eqGuardType P.depth t with
   | true=>rw[hg] at hq;cases hq
   | false=>
     rw[hg] at hq;simp only[cond_false] at hq;simp only[Bool.or_eq_false_iff] at hg;split at hq
     · rename_i b hb;have hfs:P.fieldsOf t=fs:=by unfold Program.fieldsOf;rw[hu]
       have he:(Op.equalIn 10000 t (.agg us.toArray) (.agg vs.toArray)).run P w=.ok b w:=by
         rw[run_equalIn_struct w 9999 t us.toArray vs.toArray (by rw[hfs];exact hu) hg.1,hfs];exact eqFs_run h3 h4 9998 hb
       have hrun:∀v,(binOp op t (.agg us.toArray) (.agg vs.toArray)).run P w=.ok v w->(execOp a.eval o).run P w=.ok (.value v) w:=by
         intro v hv;unfold execOp;rw[ho];simp only[Sem.run_bind,h1,h2,run_eqGuard_agg w op t x y us.toArray vs.toArray hg.2,Result.andThen_ok,hv];rfl
       split at hq
       · simp only[R.ok,Option.some.injEq,Prod.mk.injEq] at hq;obtain⟨rfl,rfl⟩:=hq;exact⟨.bool b,hrun _ (by rw[run_eql_struct,he];rfl),rfl⟩
       · simp only[R.ok,Option.some.injEq,Prod.mk.injEq] at hq;obtain⟨rfl,rfl⟩:=hq;exact⟨.bool (!b),hrun _ (by rw[run_neq_struct,he];rfl),rfl⟩
       · cases hq
     · cases hq
 · cases hq
def binR2 (P:Program) (op:BinOp) (t:TypeId) (x y:SV):R:=
 match x,y with
 | .agg l,.agg m=>aggR P op t l m
 | x,y=>binR P op t x y
theorem gives_bin2 {op:BinOp} {t u:TypeId} {x y:Operand} (ho:o.op=.binOp op t x y u):Gives P o s (binR2 P op t (s.ev x) (s.ev y)):=by
 unfold binR2;split
 · rename_i h1 h2;exact gives_agg ho h1 h2
 · exact gives_bin ho
end
section
section
variable {P:Program} {o:Oper} {s:St}
def SV.cells (x:SV):Option (List SV):=
 match x with
 | .agg l=>some l
 | x=>if x.one then some [x] else none
theorem cells_one {v:Value} (h:v.oneCell'=true):v.cells=#[v]:=by cases v<;>first | rfl | (simp [Value.oneCell'] at h)
theorem cells_rel {S:Nat->Prop} {E:Env} {w:World} {x:SV} {l:List SV} {v:Value} (h:x.cells=some l) (hr:RelV S E w x v):∃vs,v.cells=vs.toArray/\RelVs S E w l vs:=by
 unfold SV.cells at h;split at h
 · simp at h;subst h;obtain⟨vs,rfl,h1⟩:=hr;exact⟨vs,rfl,h1⟩
 · split at h
   · rename_i h1;simp at h;subst h;exact⟨[v],by rw[cells_one (hr.one h1)],v,[],rfl,hr,rfl⟩
   · cases h
def putAll {α:Type}:List α->Nat->List α->List α
 | cs,_,[]=>cs
 | cs,off,v::vs=>putAll (cs.set off v) (off+1) vs
theorem RelVs.putAll {S:Nat->Prop} {E:Env} {w:World}:∀{l m:List SV} {vs us:List Value} (off:Nat),RelVs S E w l vs->RelVs S E w m us->RelVs S E w (putAll l off m) (putAll vs off us)
 | _,[],_,_,_,h,k=>by rw[show (_:List Value)=[] from k];exact h
 | _,_::_,_,_,off,h,⟨v,vs',h1,h2,h3⟩=>by subst h1;exact RelVs.putAll (off+1) (h.set off h2) h3
theorem foldl_setAll:∀(us:List Value) (cs:Array Value) (off k:Nat),((us.zipIdx k).foldl (fun cs x=>cs.setIfInBounds (off+x.2) x.1) cs).toList=putAll cs.toList (off+k) us
 | [],cs,off,k=>rfl
 | v::us,cs,off,k=>by
   rw[List.zipIdx_cons,List.foldl_cons,foldl_setAll us _ off (k+1),putAll];simp [Nat.add_assoc]
def fillS (place:Nat->Option (Nat×Nat)) (cells:List SV):List (Nat×SV)->Option (List SV)
 | []=>some cells
 | (i,x)::rest=>
   match place i with
   | none=>none
   | some (off,size)=>match x.cells with
     | some l=>if l.length=size/\off+size<=cells.length then fillS place (putAll cells off l) rest else none
     | none=>none
def RelParts (S:Nat->Prop) (E:Env) (w:World):List (Nat×SV)->List (Nat×Value)->Prop
 | [],vs=>vs=[]
 | (i,x)::l,vs=>∃v vs',vs=(i,v)::vs'/\RelV S E w x v/\RelParts S E w l vs'
theorem fill_rel {S:Nat->Prop} {E:Env} {w:World} {place:Nat->Option (Nat×Nat)}:∀{parts:List (Nat×SV)} {cells l:List SV} {ps:List (Nat×Value)} {cs:List Value},fillS place cells parts=some l->RelVs S E w cells cs->RelParts S E w parts ps->
   ∃cs',Instr.fill place cs.toArray ps=some cs'.toArray/\RelVs S E w l cs'
 | [],_,_,_,cs,h,hr,hp=>by
   simp [fillS] at h;subst h;rw[show (_:List (Nat×Value))=[] from hp];exact⟨cs,rfl,hr⟩
 | (i,x)::rest,cells,l,ps,cs,h,hr,⟨v,vs',h1,h2,h3⟩=>by
   subst h1;simp only[fillS] at h;split at h
   · cases h
   · rename_i off size hpl;split at h
     · rename_i m hm;split at h
       · rename_i hc;obtain⟨us,h4,h5⟩:=cells_rel hm h2;have hl:us.length=size:=by rw[h5.length,hc.1]
         obtain⟨cs',h6,h7⟩:=fill_rel h (hr.putAll off h5) h3;refine⟨cs',?_,h7⟩;rw[<- h6];simp only[Instr.fill,hpl,h4];have hcs:cs.length=cells.length:=hr.length;rw[if_neg (by simp [hl];omega)]
         congr 1
         apply Array.toList_inj.1
         have:=foldl_setAll us cs.toArray off 0
         simp only[Nat.add_zero] at this;simpa using this
       · cases h
     · cases h
theorem RelParts.of {S:Nat->Prop} {E:Env} {w:World} {f:Operand->SV} {g:Operand->Value} (h:∀x,RelV S E w (f x) (g x)):∀(l:List (Nat×Operand)),RelParts S E w (l.map fun x=>(x.1,f x.2)) (l.map fun x=>(x.1,g x.2))
 | []=>rfl
 | (_,x)::l=>⟨_,_,rfl,h x,RelParts.of h l⟩
def builtS (P:Program) (t:TypeId) (parts:List (Nat×SV)):Option (List SV):=
 match P.info? t,P.underlying t with
 | some it,some (.array _ e)=>
   match it.zero,P.info? e with
   | some z,some ie=>fillS (fun i=>some (i*ie.size,ie.size)) (z.cells.toList.map ofLeaf) parts
   | _,_=>none
 | some it,some (.struct fields)=>
   match it.zero,fields.toList.mapM (fun f=>(P.info? f.type).map fun i=>(f.offset,i.size)) with
   | some z,some places=>fillS (places[·]?) (z.cells.toList.map ofLeaf) parts
   | _,_=>none
 | _,_=>none
theorem built_rel {S:Nat->Prop} {E:Env} {w:World} {t:TypeId} {parts:List (Nat×SV)} {ps:List (Nat×Value)} {l:List SV} (h:builtS P t parts=some l) (hp:RelParts S E w parts ps) :
   ∃cs,P.built t ps=some cs.toArray/\RelVs S E w l cs:=by
 unfold builtS at h;unfold Program.built;split at h
 · rename_i it n e hi hu;split at h
   · rename_i z ie hz hie;obtain⟨cs',h1,h2⟩:=fill_rel h (ofLeafs_rel z.cells.toList) hp;refine⟨cs',?_,h2⟩;simp only[hi,hu,hz,hie];simpa using h1
   · cases h
 · rename_i it fields hi hu;split at h
   · rename_i z places hz hpl;obtain⟨cs',h1,h2⟩:=fill_rel h (ofLeafs_rel z.cells.toList) hp;refine⟨cs',?_,h2⟩;simp only[hi,hu,hz,hpl];simpa using h1
   · cases h
 · cases h
def buildR (P:Program) (s:St) (t:TypeId) (parts:Array (Nat×Operand)):R:=
 match builtS P t (parts.toList.map fun x=>(x.1,s.ev x.2)) with
 | some l=>R.ok (.agg l)
 | none=>none
theorem gives_build {t:TypeId} {parts:Array (Nat×Operand)} (ho:o.op=.build t parts):Gives P o s (buildR P s t parts):=by
 intro q z hq hm c E a w h;unfold buildR at hq;split at hq
 · rename_i l hl;simp only[R.ok,Option.some.injEq,Prod.mk.injEq] at hq;obtain⟨rfl,rfl⟩:=hq;obtain⟨cs,h1,h2⟩:=built_rel hl (RelParts.of (fun x=>h.ev x) parts.toList);refine⟨.agg cs.toArray,?_,cs,rfl,h2⟩;unfold execOp;rw[ho];refine run_val (run_build w t _ _ ?_);simpa using h1
 · cases hq
def bnd (x:Option SV) (d:Int):Option Int:=
 match x with
 | none=>some d
 | some (.int _ n)=>some n
 | _=>none
def immSl (s:St) (x:SV):Option (Ty×List Dat):=
 match x with
 | .sl t ds=>some (t,ds)
 | .own j=>match s.rw[j]? with
   | some r=>if r.st=1 then some (r.e.ty,r.ds) else none
   | none=>none
 | _=>none
theorem immSl_rel {c:Ctx} {E:Env} {a:Act} {w:World} (h:Inv c E s a w) {x:SV} {v:Value} {t:Ty} {ds:List Dat} (hx:immSl s x=some (t,ds)) (hr:RelV (Reg c E s w) E w x v):Rep (Reg c E s w) w (.sl t) [v] (.node ds):=by
 unfold immSl at hx;split at hx
 · simp at hx;obtain⟨rfl,rfl⟩:=hx;exact hr
 · rename_i j;split at hx
   · rename_i r hr';split at hx
     · rename_i hst;simp at hx;obtain⟨rfl,rfl⟩:=hx;exact (h.rw j r v hr' hr.1).2.2 hst
     · cases hx
   · cases hx
 · cases hx
def borSl (x:SV):Option (OT×List Dat):=
 match x with
 | .bsl e ds=>some (e,ds)
 | _=>none
def sliceR (P:Program) (s:St) (t:TypeId) (x:SV) (low high mx:Option SV):R:=
 match mx with
 | some _=>none
 | none=>match P.underlying t with
   | some .string=>match x with
     | .str b=>match bnd low 0,bnd high b.size with
       | some l,some h=>R.ask (0<=l/\l<=h/\h<=(b.size:Int)) (.str (b.extract l.toNat h.toNat))
       | _,_=>none
     | _=>none
   | some (.slice e)=>match (P.info? e).map (·.size),borSl x with
     | some sz,some (ty,ds)=>match bnd low 0,bnd high ds.length with
       | some l,some h=>if ty.size=sz then R.ask (0<=l/\l<=h/\h<=(ds.length:Int)) (.bsl ty ((ds.take h.toNat).drop l.toNat)) else none
       | _,_=>none
     | sz,_=>match sz,immSl s x with
     | some sz,some (ty,ds)=>match bnd low 0,bnd high ds.length with
       | some l,some h=>if ty.size=sz then R.ask (0<=l/\l<=h/\h<=(ds.length:Int)) (.sl ty ((ds.take h.toNat).drop l.toNat)) else none
       | _,_=>none
     | _,_=>none
   | _=>none
theorem bnd_rel {c:Ctx} {E:Env} {a:Act} {w:World} (h:Inv c E s a w) {x:Option Operand} {d n:Int} (hb:bnd (x.map s.ev) d=some n):(x=none/\n=d)\/∃y k,x=some y/\a.eval y=.int k n:=by
 cases x with
 | none=>simp [bnd] at hb;exact .inl ⟨rfl,hb.symm⟩
 | some y=>
   right
   have h1:=h.ev y;simp only[bnd,Option.map_some] at hb;split at hb
   · cases ‹some (s.ev y)=none›
   · rename_i k n' e;simp at hb e;subst hb;rw[e] at h1;exact⟨y,k,rfl,h1.1⟩
   · cases hb
theorem run_bounds {c:Ctx} {E:Env} {a:Act} {w:World} (h:Inv c E s a w) {low high:Option Operand} {l m:Int} {isS:Bool} {len cap:Nat} (hl:bnd (low.map s.ev) 0=some l) (hh:bnd (high.map s.ev) len=some m) (h0:0<=l) (h1:l<=m) (h2:m<=(len:Int)) (h3:len<=cap) :
   (Instr.sliceBounds isS len cap (low.map a.eval) (high.map a.eval) none).run P w=.ok (l.toNat,m.toNat,cap) w:=by
 have hm:0<=m:=by omega
 have hc:m<=(cap:Int):=by omega
 have ht:(m.toNat:Int)=m:=by omega
 rcases bnd_rel h hl with ⟨rfl,rfl⟩ | ⟨y,k,rfl,hy⟩<;>rcases bnd_rel h hh with ⟨rfl,rfl⟩ | ⟨z,k',rfl,hz⟩
 · simp [Instr.sliceBounds]
 · simp [Instr.sliceBounds,hz,run_sliceBound w k' m cap _ hm hc]
 · simp [Instr.sliceBounds,hy,run_sliceBound w k l len _ h0 h1]
 · simp [Instr.sliceBounds,hy,hz,run_sliceBound w k' m cap _ hm hc,run_sliceBound w k l m.toNat _ h0 (by omega)]
theorem sub_rep {S:Nat->Prop} {w:World} {ty:Ty} {v:Value} {ds:List Dat} {l m:Nat} (h:Rep S w (.sl ty) [v] (.node ds)) (h1:l<=m) (h2:m<=ds.length):∃ad cap,v=.slice ad ds.length cap/\ds.length<=cap/\Rep S w (.sl ty) [sliced ad l m cap ty.size] (.node ((ds.take m).drop l)):=by
 obtain⟨ad,n,cap,ds',h3,h4,h5,h6,h7,h8⟩:=h;simp at h3 h4;subst h4;subst h3;refine⟨ad,cap,by rw[h5],by omega,?_⟩;refine⟨_,m-l,cap-l,_,rfl,rfl,by simp;omega,by omega,by omega,fun hne=>?_⟩;obtain⟨b,off,e,hb,hc⟩:=h8 (by omega);subst e;refine⟨b,off+l*ty.size,by rw[if_neg (by omega),Option.map_some,Addr.add_mid],hb,fun i x hx=>?_⟩;rw[List.getElem?_drop,List.getElem?_take] at hx;split at hx
 · obtain⟨es,h9,h10⟩:=hc (l+i) x hx;refine⟨es,?_,h10⟩;rw[Nat.add_mul] at h9
   rwa [Nat.add_assoc]
 · cases hx
theorem sub_bor {S B:Nat->Prop} {w w0:World} {ty:OT} {v:Value} {ds:List Dat} {l m:Nat} (h:Bor S w B w0 (.sl 0 ty) [v] (.node ds)) (h1:l<=m) (h2:m<=ds.length):∃ad cap,v=.slice ad ds.length cap/\ds.length<=cap/\Bor S w B w0 (.sl 0 ty) [sliced ad l m cap ty.size] (.node ((ds.take m).drop l)):=by
 obtain⟨ad,n,cap,ds',h3,h4,h5,h6,h7,h8⟩:=h;simp at h3 h4;subst h4;subst h3;refine⟨ad,cap,by rw[h5],by omega,?_⟩;refine⟨_,m-l,cap-l,_,rfl,rfl,by simp;omega,by omega,by omega,fun hne=>?_⟩;obtain⟨b,off,e,hb,hc⟩:=h8 (by omega);subst e;refine⟨b,off+l*ty.size,by rw[if_neg (by omega),Option.map_some,Addr.add_mid],hb,fun i x hx=>?_⟩;rw[List.getElem?_drop,List.getElem?_take] at hx;split at hx
 · obtain⟨es,h9,h10⟩:=hc (l+i) x hx;refine⟨es,?_,h10⟩;rw[Nat.add_mul] at h9
   rwa [Nat.add_assoc]
 · cases hx
theorem gives_slice {t:TypeId} {x:Operand} {low high mx:Option Operand} (ho:o.op=.slice t x low high mx):Gives P o s (sliceR P s t (s.ev x) (low.map s.ev) (high.map s.ev) (mx.map s.ev)):=by
 intro q z hq hm c E a w h;have h1:=h.ev x;unfold sliceR at hq;split at hq
 · cases hq
 · rename_i hmx;have hmx:mx=none:=by cases mx<;>simp_all
   subst hmx;split at hq
   · rename_i hu;split at hq
     · rename_i b hx;rw[hx] at h1;split at hq
       · rename_i l m hl hh;simp only[R.ask,Option.some.injEq,Prod.mk.injEq] at hq;obtain⟨rfl,rfl⟩:=hq;simp only[met] at hm;refine⟨.string (b.extract l.toNat m.toNat),?_,rfl,?_⟩
         · unfold execOp;rw[ho];refine run_val ?_;rw[h1.1,Option.map_none];simp only[Instr.sliceAt,Sem.run_bind,run_underlying hu,Result.andThen_ok,Instr.slice,Option.isSome_none,Bool.false_eq_true,if_false,Sem.run_pure,run_bounds h hl hh hm.1 hm.2.1 hm.2.2 (Nat.le_refl _)]
         · have:=h1.2
           have h5:(b.extract l.toNat m.toNat).size<=b.size:=by simp [ByteArray.size_extract];omega
           omega
       · cases hq
     · cases hq
   · rename_i e hu;split at hq
     · rename_i sz ty ds hs hi;split at hq
       · rename_i l m hl hh;split at hq
         · rename_i hsz;simp only[R.ask,Option.some.injEq,Prod.mk.injEq] at hq;obtain⟨rfl,rfl⟩:=hq;simp only[met] at hm;have h2:Bor (Reg c E s w) w E.bo E.w0 (.sl 0 ty) [a.eval x] (.node ds):=by
             unfold borSl at hi;split at hi
             · rename_i hx;simp at hi;obtain⟨rfl,rfl⟩:=hi;rw[hx] at h1;exact h1
             · cases hi
           obtain⟨ad,cap,hv,hcap,hr⟩:=sub_bor (l:=l.toNat) (m:=m.toNat) h2 (by omega) (by omega);refine⟨_,?_,hr⟩;unfold execOp;rw[ho];refine run_val ?_;rw[hv,Option.map_none,hsz];simp only[Instr.sliceAt,Sem.run_bind,run_underlying hu,Result.andThen_ok,Instr.slice,run_bounds h hl hh hm.1 hm.2.1 hm.2.2 hcap,size_info hs,Sem.run_pure,sliced]
         · cases hq
       · cases hq
     rename_i szo _ _ _ _;split at hq
     · rename_i sz ty ds hs hi;split at hq
       · rename_i l m hl hh;split at hq
         · rename_i hsz;simp only[R.ask,Option.some.injEq,Prod.mk.injEq] at hq;obtain⟨rfl,rfl⟩:=hq;simp only[met] at hm;obtain⟨ad,cap,hv,hcap,hr⟩:=sub_rep (l:=l.toNat) (m:=m.toNat) (immSl_rel h hi h1) (by omega) (by omega);refine⟨_,?_,hr⟩;unfold execOp;rw[ho];refine run_val ?_;rw[hv,Option.map_none,hsz];simp only[Instr.sliceAt,Sem.run_bind,run_underlying hu,Result.andThen_ok,Instr.slice,run_bounds h hl hh hm.1 hm.2.1 hm.2.2 hcap,size_info hs,Sem.run_pure,sliced]
         · cases hq
       · cases hq
     · cases hq
   · cases hq
def funcR (s:St) (fn:Fn) (first captured:Array Operand):R:=
 match fn,first.toList with
 | .func f,[]=>R.ok (.fn f (captured.toList.map s.ev))
 | .func f,x::l=>match captured.toList with
   | []=>R.ok (.bf f ((x::l).map s.ev))
   | _=>none
 | _,_=>none
theorem evs_rel {c:Ctx} {E:Env} {a:Act} {w:World} (h:Inv c E s a w):∀l:List Operand,RelVs (Reg c E s w) E w (l.map s.ev) (l.map a.eval)
 | []=>rfl
 | x::l=>⟨_,_,rfl,h.ev x,evs_rel h l⟩
theorem gives_func {fn:Fn} {first captured:Array Operand} (ho:o.op=.makeFunc fn first captured):Gives P o s (funcR s fn first captured):=by
 intro q z hq hm c E a w h;unfold funcR at hq;split at hq
 · rename_i f hf;simp only[R.ok,Option.some.injEq,Prod.mk.injEq] at hq;obtain⟨rfl,rfl⟩:=hq;refine⟨.func (.func f) #[] (captured.map a.eval),?_,captured.toList.map a.eval,?_,evs_rel h _⟩
   · unfold execOp;rw[ho]
     have:first=#[]:=by apply Array.toList_inj.1;simpa using hf
     subst this;exact run_val (by simp [Instr.makeFunc])
   · congr 1
     apply Array.toList_inj.1;simp
 · rename_i f y l hf;split at hq
   · rename_i hcap;simp only[R.ok,Option.some.injEq,Prod.mk.injEq] at hq;obtain⟨rfl,rfl⟩:=hq;have hcap:captured=#[]:=by apply Array.toList_inj.1;simpa using hcap
     subst hcap;refine⟨.func (.func f) (first.map a.eval) #[],?_,first.toList.map a.eval,?_,by rw[<- hf];exact evs_rel h _⟩
     · unfold execOp;rw[ho];exact run_val (by simp [Instr.makeFunc])
     · congr 1
       apply Array.toList_inj.1;simp
   · cases hq
 · cases hq
def ifaceR (P:Program) (t:TypeId) (x:SV):R:=
 match x with
 | .agg l=>bif P.concrete t then R.ok (.ifc t l) else none
 | _=>none
theorem gives_iface {t:TypeId} {x:Operand} (ho:o.op=.makeInterface t x):Gives P o s (ifaceR P t (s.ev x)):=by
 intro q z hq hm c E a w h;have h1:=h.ev x;unfold ifaceR at hq;split at hq
 · rename_i l hx;rw[hx] at h1;obtain⟨vs,hv,hr⟩:=h1;cases hc:P.concrete t with
   | false=>rw[hc] at hq;cases hq
   | true=>
     rw[hc] at hq;simp only[cond_true,R.ok,Option.some.injEq,Prod.mk.injEq] at hq;obtain⟨rfl,rfl⟩:=hq;refine⟨.iface t (.agg vs.toArray),?_,vs,rfl,hr⟩;unfold execOp;rw[ho];exact run_val (by rw[hv];exact run_makeInterface w t _ hc)
 · cases hq
def assertR (P:Program) (_xt t:TypeId) (ok:Bool) (x:SV):R:=
 match ok,x,P.underlying t with
 | _,_,some (.interface _)=>none
 | true,.ifc t' l,some _=>bif Nat.beq t' t then R.ok (.tup [.agg l,.tt]) else match (P.info? t).bind (·.zero) with
   | some z=>R.ok (.tup [ofV z,.ff])
   | none=>none
 | false,.ifc t' l,some _=>bif Nat.beq t' t then R.ok (.agg l) else none
 | _,_,_=>none
theorem gives_assert {x:Operand} {xt t:TypeId} {ok:Bool} (ho:o.op=.typeAssert x xt t ok):Gives P o s (assertR P xt t ok (s.ev x)):=by
 intro q z hq hm c E a w h;have h1:=h.ev x;unfold assertR at hq;split at hq
 · cases hq
 · rename_i t' l d hu hx hno;rw[hx] at h1;obtain⟨vs,hv,hr⟩:=h1;cases hb:Nat.beq t' t with
   | true=>
     have:=Nat.eq_of_beq_eq_true hb
     subst this;rw[hb] at hq;simp only[cond_true,R.ok,Option.some.injEq,Prod.mk.injEq] at hq;obtain⟨rfl,rfl⟩:=hq;refine⟨.tuple #[.agg vs.toArray,.bool true],?_,[.agg vs.toArray,.bool true],rfl,_,_,rfl,⟨vs,rfl,hr⟩,_,_,rfl,rfl,rfl⟩;unfold execOp;rw[ho];refine run_val ?_;rw[hv];unfold Instr.typeAssert;rw[Sem.run_bind,run_underlying hno w];cases d<;>first | (exact (hu _ rfl).elim) | (simp only[Result.andThen_ok,if_true];rfl)
   | false=>
     have hne:¬t'=t:=fun e=>by subst e;simp at hb
     rw[hb] at hq;simp only[cond_false] at hq;split at hq
     · rename_i zv hz;simp only[R.ok,Option.some.injEq,Prod.mk.injEq] at hq;obtain⟨rfl,rfl⟩:=hq;obtain⟨i,hi,hz⟩:=Option.bind_eq_some_iff.1 hz;have hzr:(zeroValue t).run P w=.ok zv w:=by
         simp only[zeroValue,typeInfo,program,Sem.run_bind,Sem.run,Result.andThen_ok,hi,Sem.run_pure,hz]
       refine⟨.tuple #[zv,.bool false],?_,[zv,.bool false],rfl,_,_,rfl,ofV_rel zv,_,_,rfl,rfl,rfl⟩;unfold execOp;rw[ho];refine run_val ?_;rw[hv];unfold Instr.typeAssert;rw[Sem.run_bind,run_underlying hno w];cases d<;>first | (exact (hu _ rfl).elim) | (simp only[Result.andThen_ok,if_neg hne,if_true,Sem.run_bind,hzr];rfl)
     · cases hq
 · rename_i t' l d hu hx hno;rw[hx] at h1;obtain⟨vs,hv,hr⟩:=h1;cases hb:Nat.beq t' t with
   | true=>
     have:=Nat.eq_of_beq_eq_true hb
     subst this;rw[hb] at hq;simp only[cond_true,R.ok,Option.some.injEq,Prod.mk.injEq] at hq;obtain⟨rfl,rfl⟩:=hq;refine⟨.agg vs.toArray,?_,vs,rfl,hr⟩;unfold execOp;rw[ho];refine run_val ?_;rw[hv];unfold Instr.typeAssert;rw[Sem.run_bind,run_underlying hno w];cases d<;>first | (exact (hu _ rfl).elim) | (simp only[Result.andThen_ok,if_true];rfl)
   | false=>rw[hb] at hq;cases hq
 · cases hq
def opVal (P:Program) (s:St) (op:Op):R:=
 match op with
 | .move x | .assign x=>R.ok (s.ev x)
 | .pick x y z=>pickR (s.ev x) (s.ev y) (s.ev z)
 | .build t parts=>buildR P s t parts
 | .load t x=>loadR P s t (s.ev x)
 | .nilCheck x=>nilR (s.ev x)
 | .binOp op t x y _=>binR2 P op t (s.ev x) (s.ev y)
 | .unOp op _ x=>unR op (s.ev x)
 | .convert src dst x=>convR P src dst (s.ev x)
 | .makeFunc fn first captured=>funcR s fn first captured
 | .slice t x low high mx=>sliceR P s t (s.ev x) (low.map s.ev) (high.map s.ev) (mx.map s.ev)
 | .fieldAddr t x f=>fieldAddrR P t (s.ev x) f
 | .field t x f=>fieldR P t (s.ev x) f
 | .indexAddr t x i=>match elemA P t (s.ev x) (s.ev i) with
   | some r=>some r
   | none=>elemR P s t (s.ev x) (s.ev i)
 | .index t x i=>match indexA P t (s.ev x) (s.ev i) with
   | some r=>some r
   | none=>indexR P t (s.ev x) (s.ev i)
 | .typeAssert x xt t ok=>assertR P xt t ok (s.ev x)
 | .extract x i=>extractR (s.ev x) i
 | .makeInterface t x=>ifaceR P t (s.ev x)
 | .call { callee:=.builtin .len,args:=⟨[x]⟩,argTypes:=⟨[t]⟩}=>lenR P t s (s.ev x)
 | .call { callee:=.builtin .max,args:=⟨[x,y]⟩,..}=>minR true (s.ev x) (s.ev y)
 | .call { callee:=.builtin .min,args:=⟨[x,y]⟩,..}=>minR false (s.ev x) (s.ev y)
 | _=>none
theorem gives_op:Gives P o s (opVal P s o.op):=by
 cases ho:o.op with
 | move x=>exact gives_move x (.inl ho)
 | assign x=>exact gives_move x (.inr ho)
 | pick x y z=>exact gives_pick ho
 | build t parts=>exact gives_build ho
 | load t x=>exact gives_load ho
 | nilCheck x=>exact gives_nil ho
 | binOp op t x y u=>exact gives_bin2 ho
 | unOp op t x=>exact gives_un ho
 | convert src dst x=>exact gives_conv ho
 | makeFunc fn first captured=>exact gives_func ho
 | slice t x low high mx=>exact gives_slice ho
 | fieldAddr t x f=>exact gives_fieldAddr ho
 | field t x f=>exact gives_field ho
 | indexAddr t x i=>
   show Gives P o s (match elemA P t (s.ev x) (s.ev i) with | some r=>some r | none=>elemR P s t (s.ev x) (s.ev i));split
   · rename_i r hr;rw[<- hr];exact gives_elemA ho
   · exact gives_elem ho
 | index t x i=>
   show Gives P o s (match indexA P t (s.ev x) (s.ev i) with | some r=>some r | none=>indexR P t (s.ev x) (s.ev i));split
   · rename_i r hr;rw[<- hr];exact gives_indexA ho
   · exact gives_index ho
 | typeAssert x xt t ok=>exact gives_assert ho
 | extract x i=>exact gives_extract ho
 | makeInterface t x=>exact gives_iface ho
 | call cl=>
   unfold opVal;split<;>first
     | (rename_i h;cases h;done)
     | (rename_i h;cases h;first | exact gives_len ho | exact gives_min (mx:=true) ho | exact gives_min (mx:=false) ho)
     | exact Gives.none
 | _=>exact Gives.none
end
end
def St.setRow (s:St) (j:Nat) (r:Row):St:={s with rw:=s.rw.set j r}
theorem own_setRow {E:Env} {s:St} {j:Nat} {r:Row} (hst:r.st≠0) {x:Slot} {b:Nat} (h:own E (s.setRow j r) x=some b):own E s x=some b/\∀k,x≠.r j k:=by
 cases x with
 | b i=>exact⟨h,by simp⟩
 | r i k=>
   obtain⟨q,F,hq,hqs,hF,hb⟩:=own_of h;simp only[St.setRow,List.getElem?_set] at hq;split at hq
   · split at hq
     · simp at hq;subst hq;exact absurd hqs hst
     · cases hq
   · rename_i hij;exact⟨own_r hq hqs hF hb,fun k' e=>hij (by injection e with e;exact e.symm)⟩
theorem row_setRow {s:St} {j i:Nat} {r q:Row} (h:(s.setRow j r).rw[i]?=some q):(i=j/\q=r)\/(i≠j/\s.rw[i]?=some q):=by
 simp only[St.setRow,List.getElem?_set] at h;split at h
 · rename_i e;split at h
   · simp at h;exact .inl ⟨e.symm,h.symm⟩
   · cases h
 · rename_i e;exact .inr ⟨fun e'=>e e'.symm,h⟩
theorem Inv.freeze {c:Ctx} {E:Env} {s:St} {a:Act} {w:World} (h:Inv c E s a w) {j:Nat} {r:Row} (hr:s.rw[j]?=some r) (k:Nat) (hk:k≠0) (h0:k=1->(r.st=0/\r.lt=false/\r.e.solid=true)\/r.st=1):Inv c E (s.setRow j {r with st:=k}) a w:=by
 have hown:∀x b,own E (s.setRow j {r with st:=k}) x=some b->own E s x=some b/\∀m,x≠.r j m:=fun x b hx=>own_setRow (r:={r with st:=k}) hk hx
 refine h.move rfl rfl rfl (Nat.le_refl _) (fun x b hx=>.inl ⟨x,(hown x b hx).1⟩) (fun _ _ _=>rfl) E.le_refl rfl h.nbx (by simp [St.setRow,h.nrw]) (by simp [St.setRow,h.nfp]) ?_ ?_ ?_ ?_
 · intro hK hS i p b hp hb;exact (h.bx i p b hp hb).mono hK hS E.le_refl rfl
 · intro hK hS i q v hq hv;rcases row_setRow hq with ⟨rfl,rfl⟩ | ⟨_,hq⟩
   · obtain⟨h1,h2,h3⟩:=h.rw i r v hr hv;refine⟨h1,fun e=>absurd e hk,fun e=>?_⟩;rcases h0 e with ⟨hst,hlt,hso⟩ | hst
     · obtain⟨F,hF,h4⟩:=h2 hst;rw[headT_solid hso] at h4;refine Own.frozen (e:=.sl r.tid r.e) hS hso (fun b hb=>?_) h4;obtain⟨m,ho⟩:=own_fp hr hst hF hb;refine⟨.inr (h.fresh i m b r hr hlt ho),h.own_lt ho,fun x hx=>?_⟩;obtain⟨h8,h9⟩:=hown x b hx;exact h9 m (h.inj _ _ b h8 ho)
     · exact (h3 hst).mono hK hS
   · exact h.row_keep hq hv hK hS E.le_refl (fun _ _ _ _=>rfl)
 · intro x y b hx hy;exact h.inj x y b (hown x b hx).1 (hown y b hy).1
 · intro i m b q hq hl hb;obtain⟨h8,h9⟩:=hown _ b hb;rcases row_setRow hq with ⟨rfl,rfl⟩ | ⟨_,hq⟩
   · exact absurd rfl (h9 m)
   · exact h.fresh i m b q hq hl h8
def St.frz (s:St) (j:Nat) (r:Row):St:=s.setRow j {r with st:=1}
def freezeV (s:St) (x:SV):St×SV:=
 match x with
 | .own j=>match s.rw[j]? with
   | some r=>if r.st=0 then (bif r.lt||!r.e.solid then (s,.un) else (s.frz j r,.sl r.e.ty r.ds)) else if r.st=1 then (s,.sl r.e.ty r.ds) else (s,.un)
   | none=>(s,.un)
 | x=>(s,x)
def freezeL:St->List SV->St×List SV
 | s,[]=>(s,[])
 | s,x::l=>((freezeL (freezeV s x).1 l).1,(freezeV s x).2::(freezeL (freezeV s x).1 l).2)
def freezeS (s:St) (x:SV):St×SV:=
 match x with
 | .agg l=>((freezeL s l).1,.agg (freezeL s l).2)
 | .tup l=>((freezeL s l).1,.tup (freezeL s l).2)
 | x=>freezeV s x
def Under (c:Ctx) (E:Env) (w:World) (s s':St):Prop:=∀b,Reg c E s w b->Reg c E s' w b
theorem Under.rel {c:Ctx} {E:Env} {w:World} {s s':St} (h:Under c E w s s') {x:SV} {v:Value} (hr:RelV (Reg c E s w) E w x v):RelV (Reg c E s' w) E w x v:=hr.mono (fun _ _=>rfl) h E.le_refl
theorem Under.rels {c:Ctx} {E:Env} {w:World} {s s':St} (h:Under c E w s s') {x:List SV} {v:List Value} (hr:RelVs (Reg c E s w) E w x v):RelVs (Reg c E s' w) E w x v:=hr.mono (fun _ _=>rfl) h E.le_refl
theorem under_setRow {c:Ctx} {E:Env} {w:World} {s:St} {j:Nat} {r:Row} (hst:r.st≠0):Under c E w s (s.setRow j r):=fun _ hb=>⟨hb.1,hb.2.1,fun x hx=>hb.2.2 x (own_setRow hst hx).1⟩
theorem freezeV_ok {c:Ctx} {E:Env} {s:St} {a:Act} {w:World} (h:Inv c E s a w) {x:SV} {v:Value} (hr:RelV (Reg c E s w) E w x v):Inv c E (freezeV s x).1 a w/\Under c E w s (freezeV s x).1/\RelV (Reg c E (freezeV s x).1 w) E w (freezeV s x).2 v:=by
 unfold freezeV;split
 · rename_i j;split
   · rename_i r hr';split
     · rename_i hst;cases hlt:r.lt||!r.e.solid with
       | true=>exact⟨h,fun _ hb=>hb,trivial⟩
       | false=>
         simp only[Bool.or_eq_false_iff,Bool.not_eq_false'] at hlt;have h2:=h.freeze hr' 1 (by omega) (fun _=>.inl ⟨hst,hlt⟩);simp only[cond_false];refine⟨h2,under_setRow (r:={r with st:=1}) (by simp),?_⟩;have hj:j<s.rw.length:=(List.getElem?_eq_some_iff.1 hr').1
         have:=(h2.rw j {r with st:=1} v (by simp [St.setRow,hj]) hr.1).2.2 rfl
         exact this
     · split
       · rename_i hst;exact⟨h,fun _ hb=>hb,(h.rw j r v hr' hr.1).2.2 hst⟩
       · exact⟨h,fun _ hb=>hb,trivial⟩
   · exact⟨h,fun _ hb=>hb,trivial⟩
 · exact⟨h,fun _ hb=>hb,hr⟩
theorem freezeL_ok {c:Ctx} {E:Env} {a:Act} {w:World}:∀{l:List SV} {vs:List Value} {s:St},Inv c E s a w->RelVs (Reg c E s w) E w l vs->Inv c E (freezeL s l).1 a w/\Under c E w s (freezeL s l).1/\RelVs (Reg c E (freezeL s l).1 w) E w (freezeL s l).2 vs
 | [],_,_,h,hr=>⟨h,fun _ hb=>hb,hr⟩
 | x::l,_,s,h,⟨v,vs',h1,h2,h3⟩=>by
   subst h1;obtain⟨h4,h5,h6⟩:=freezeV_ok h h2;obtain⟨h7,h8,h9⟩:=freezeL_ok h4 (h5.rels h3);exact⟨h7,fun b hb=>h8 b (h5 b hb),v,vs',rfl,h8.rel h6,h9⟩
theorem freezeS_ok {c:Ctx} {E:Env} {s:St} {a:Act} {w:World} (h:Inv c E s a w) {x:SV} {v:Value} (hr:RelV (Reg c E s w) E w x v):Inv c E (freezeS s x).1 a w/\Under c E w s (freezeS s x).1/\RelV (Reg c E (freezeS s x).1 w) E w (freezeS s x).2 v:=by
 unfold freezeS;split
 · obtain⟨vs,rfl,h1⟩:=hr;obtain⟨h2,h3,h4⟩:=freezeL_ok h h1;exact⟨h2,h3,vs,rfl,h4⟩
 · obtain⟨vs,rfl,h1⟩:=hr;obtain⟨h2,h3,h4⟩:=freezeL_ok h h1;exact⟨h2,h3,vs,rfl,h4⟩
 · exact freezeV_ok h hr
theorem freezeV_fr (s:St) (x:SV):(freezeV s x).1.fr=s.fr:=by
 unfold freezeV;split
 · split
   · split
     · cases ‹Row›.lt||!‹Row›.e.solid<;>rfl
     · split<;>rfl
   · rfl
 · rfl
def St.setBox (s:St) (j:Nat) (p:TypeId×List SV):St:={s with bx:=s.bx.set j p}
theorem own_setBox (E:Env) (s:St) (j:Nat) (p:TypeId×List SV):own E (s.setBox j p)=own E s:=by funext x;cases x<;>rfl
theorem setCells_heap (b:Nat):∀(vs:List Value) (o:Nat) (w:World) (k:Nat),k≠b->(w.setCells b o vs).heap[k]?=w.heap[k]?
 | [],_,_,_,_=>rfl
 | v::vs,o,w,k,hk=>by rw[World.setCells,setCells_heap b vs (o+1) _ k hk,Below.heap_setCell _ _ _ _ hk]
theorem setCells_block (b:Nat):∀(vs:List Value) (o:Nat) (w:World) (cs:List Value) (t:TypeId) (fr:Nat×Nat),w.heap[b]?=some (.cells cs.toArray t fr)->(w.setCells b o vs).heap[b]?=some (.cells (putAll cs o vs).toArray t fr)
 | [],_,_,_,_,_,h=>h
 | v::vs,o,w,cs,t,fr,h=>by
   rw[World.setCells,putAll];refine setCells_block b vs (o+1) _ _ t fr ?_;simp [World.setCell,Array.getElem?_modify,h]
theorem setCells_same (b:Nat):∀(vs:List Value) (o:Nat) (w:World),(w.setCells b o vs).heap.size=w.heap.size/\(w.setCells b o vs).os=w.os/\(w.setCells b o vs).tape=w.tape/\(w.setCells b o vs).output=w.output
 | [],_,_=>⟨rfl,rfl,rfl,rfl⟩
 | v::vs,o,w=>by
   rw[World.setCells];obtain⟨h1,h2,h3,h4⟩:=setCells_same b vs (o+1) (w.setCell ⟨b,o,none⟩ v);exact⟨by rw[h1];simp,by rw[h2];rfl,by rw[h3];rfl,by rw[h4];rfl⟩
theorem all_putAll:∀(m l:List SV) (o:Nat),l.all SV.one=true->m.all SV.one=true->(putAll l o m).all SV.one=true
 | [],_,_,h,_=>h
 | x::m,l,o,h,k=>by
   simp only[List.all_cons,Bool.and_eq_true] at k;rw[putAll];refine all_putAll m _ (o+1) ?_ k.2;rw[List.all_eq_true] at *
   intro y hy;rcases List.mem_or_eq_of_mem_set hy with h1 | h1
   · exact h y h1
   · rw[h1];exact k.1
theorem Inv.setBox {c:Ctx} {E:Env} {s:St} {a:Act} {w:World} (h:Inv c E s a w) {j b:Nat} {p:TypeId×List SV} {m:List SV} {us:List Value} (o:Nat) (hp:s.bx[j]?=some p) (hb:E.bx[j]?=some b) (hm:RelVs (Reg c E s w) E w m us) (ho:m.all SV.one=true) :
   Inv c E (s.setBox j (p.1,putAll p.2 o m)) a (w.setCells b o us):=by
 obtain⟨s1,s2,s3,s4⟩:=setCells_same b us o w;have hob:own E s (.b j)=some b:=hb;have hj:j<s.bx.length:=(List.getElem?_eq_some_iff.1 hp).1;refine h.move s2 s3 s4 (by rw[s1];exact Nat.le_refl _) (fun x b' hx=>.inl ⟨x,by rw[own_setBox] at hx;exact hx⟩) (fun b' _ hno=>setCells_heap b us o w b' (fun e=>hno (.b j) (by rw[e];exact hob))) E.le_refl rfl (by simp [St.setBox,h.nbx]) h.nrw h.nfp ?_ ?_ ?_ (fun i k b' r hr hl hb=>h.fresh i k b' r hr hl (by rw[own_setBox] at hb;exact hb))
 · intro hK hS i q b' hq hb';simp only[St.setBox,List.getElem?_set] at hq;split at hq
   · rename_i e;subst e;simp at hq;subst hq;rw[hb] at hb';simp at hb';subst hb';obtain⟨cs,h1,h2,h3⟩:=h.bx j p b hp hb;exact⟨putAll cs o us,setCells_block b us o w cs _ _ h1,(h2.mono hK hS E.le_refl).putAll o (hm.mono hK hS E.le_refl),all_putAll _ _ _ h3 ho⟩
   · rename_i e;exact (h.bx i q b' hq hb').mono hK hS E.le_refl (setCells_heap b us o w b' (fun e'=>e (by have:=h.inj (.b i) (.b j) b' hb' (by rw[e'];exact hob);injection this with this;exact this.symm)))
 · intro hK hS i r v hr hv;exact h.row_keep hr hv hK hS E.le_refl (fun hst k b' hb'=>setCells_heap b us o w b' (fun e=>by
     have:=h.inj (.r i k) (.b j) b' hb' (by rw[e];exact hob)
     cases this))
 · intro x y b' hx hy;rw[own_setBox] at hx hy;exact h.inj x y b' hx hy
theorem setBox_goes {c:Ctx} {E:Env} {s:St} {w:World} {j b:Nat} (q:TypeId×List SV) (o:Nat) (us:List Value) (hb:E.bx[j]?=some b):Goes c E s w E (s.setBox j q) (w.setCells b o us):=by
 have hob:own E s (.b j)=some b:=hb;refine goes_of (by rw[(setCells_same b us o w).1];exact Nat.le_refl _) (fun x b' hx=>.inl ⟨x,by rw[own_setBox] at hx;exact hx⟩) (fun b' _ hno=>setCells_heap b us o w b' (fun e=>hno (.b j) (by rw[e];exact hob)))
theorem under_goes {c:Ctx} {E:Env} {s s':St} {w:World} (h:Under c E w s s'):Goes c E s w E s' w:=⟨fun _ _=>rfl,h⟩
def hasN (l:List Nat) (k:Nat):Bool:=
 match l with
 | []=>false
 | j::l=>Nat.beq j k||hasN l k
theorem hasN_mem {l:List Nat} {k:Nat} (h:hasN l k=true):k∈l:=by
 induction l with
 | nil=>cases h
 | cons j l ih=>
   simp only[hasN,Bool.or_eq_true] at h;rcases h with h | h
   · rw[Nat.eq_of_beq_eq_true h];exact List.mem_cons_self ..
   · exact List.mem_cons_of_mem _ (ih h)
theorem hasN_of {l:List Nat} {k:Nat} (h:k∈l):hasN l k=true:=by
 induction l with
 | nil=>cases h
 | cons j l ih=>
   simp only[hasN,Bool.or_eq_true];rcases List.mem_cons.1 h with rfl | h
   · exact .inl (Nat.beq_refl _)
   · exact .inr (ih h)
def killL (kill:List Nat):List Row->Nat->List Row
 | [],_=>[]
 | r::l,i=>(bif hasN kill i then {r with st:=2} else r)::killL kill l (i+1)
theorem killL_length (kill:List Nat):∀(l:List Row) (i:Nat),(killL kill l i).length=l.length
 | [],_=>rfl
 | r::l,i=>by simp [killL,killL_length kill l]
theorem killL_get (kill:List Nat):∀(l:List Row) (i j:Nat),(killL kill l i)[j]?=(l[j]?).map fun r=>bif hasN kill (i+j) then {r with st:=2} else r
 | [],_,_=>by simp [killL]
 | r::l,i,0=>by simp [killL]
 | r::l,i,j+1=>by
   rw[killL,List.getElem?_cons_succ,killL_get kill l (i+1) j,List.getElem?_cons_succ,show i+1+j=i+(j+1) from by omega]
theorem own_kill {E:Env} {s:St} {kill:List Nat} {x:Slot} {b:Nat} (h:own E {s with rw:=killL kill s.rw 0} x=some b):own E s x=some b/\∀j k,x=.r j k->hasN kill j=false:=by
 cases x with
 | b i=>exact⟨h,fun _ _ h=>by cases h⟩
 | r i k=>
   obtain⟨q,F,hq,hqs,hF,hb⟩:=own_of h;simp only[killL_get,Nat.zero_add] at hq;obtain⟨r,hr,hq⟩:=Option.map_eq_some_iff.1 hq;cases hk:hasN kill i with
   | true=>rw[hk] at hq;simp at hq;subst hq;cases hqs
   | false=>
     rw[hk] at hq;simp at hq;subst hq;exact⟨own_r hr hqs hF hb,fun j k' e=>by injection e with e1 _;rw[<- e1];exact hk⟩
theorem Inv.regrow {c:Ctx} {E:Env} {s:St} {a:Act} {w w':World} (h:Inv c E s a w) (hos:w'.os=w.os) (htape:w'.tape=w.tape) (hout:w'.output=w.output) (hsz:w.heap.size<=w'.heap.size) (kill:List Nat)
   (hk:∀b,b<w.heap.size->(∀j k,hasN kill j=true->own E s (.r j k)≠some b)->w'.heap[b]?=w.heap[b]?)
   {r:Row} {v:Value} {F:List Nat} {H:Path->Value} (hF:∀b∈F,w.heap.size<=b\/∃j k q,hasN kill j=true/\own E s (.r j k)=some b/\s.rw[j]?=some q/\(r.lt=false->q.lt=false)) (hnd:F.Nodup)
   (hr:Keeps (Reg c E s w) w w'->(∀b,Reg c E s w b->Reg c (E.addR v F H) {s with rw:=killL kill s.rw 0++[r]} w' b)->RowOk (Reg c (E.addR v F H) {s with rw:=killL kill s.rw 0++[r]} w') (E.addR v F H) w' s.rw.length r v) :
   Inv c (E.addR v F H) {s with rw:=killL kill s.rw 0++[r]} a w':=by
 have hlen:=killL_length kill s.rw 0;have hown:∀x b,own (E.addR v F H) {s with rw:=killL kill s.rw 0++[r]} x=some b->(own E s x=some b/\∀j k,x=.r j k->hasN kill j=false/\j<s.rw.length)\/∃k,x=.r s.rw.length k/\F[k]?=some b:=by
   intro x b hx;cases x with
   | b j=>exact .inl ⟨hx,fun _ _ h=>by cases h⟩
   | r j k=>
     obtain⟨q,G,hq,hst,hG,hb⟩:=own_of hx;rcases append_get (l:=E.fp) (x:=F) hG with h1 | ⟨h1,h2⟩
     · rcases append_get hq with h3 | ⟨h3,_⟩
       · obtain⟨h4,h5⟩:=own_kill (kill:=kill) (own_r (s:={s with rw:=killL kill s.rw 0}) h3 hst h1 hb);exact .inl ⟨h4,fun j' k' e=>⟨h5 j' k' e,by injection e with e1 _;rw[<- e1,<- hlen];exact (List.getElem?_eq_some_iff.1 h3).1⟩⟩
       · have:j<E.fp.length:=(List.getElem?_eq_some_iff.1 h1).1
         rw[hlen,<- h.nfp] at h3;omega
     · subst h2;exact .inr ⟨k,by rw[h1,h.nfp],hb⟩
 have hold:∀x b,own E s x=some b->(∀j k,x=.r j k->hasN kill j=false)->w'.heap[b]?=w.heap[b]?:=fun x b hx hn=>hk b (h.own_lt hx) (fun j k hj hb=>by
   have:=h.inj _ _ b hx hb
   have:=hn j k this
   rw[hj] at this;cases this)
 refine h.move hos htape hout hsz (fun x b hx=>?_) (fun b hb hno=>hk b hb (fun j k _=>hno _)) (E.le_row _ _ _) rfl h.nbx (by simp [Env.addR,hlen,h.nrw]) (by simp [Env.addR,hlen,h.nfp]) ?_ ?_ ?_ ?_
 · rcases hown x b hx with ⟨h1,_⟩ | ⟨k,_,h1⟩
   · exact .inl ⟨x,h1⟩
   · rcases hF b (List.mem_of_getElem? h1) with h2 | ⟨j,k,q,_,h2,_⟩
     · exact .inr h2
     · exact .inl ⟨_,h2⟩
 · intro hK hS j p b hp hb;exact (h.bx j p b hp hb).mono hK hS (E.le_row _ _ _) (hold (.b j) b hb (fun _ _ e=>by cases e))
 · intro hK hS j q u hq hu;rcases append_get hq with h1 | ⟨h1,h2⟩
   · rcases append_get (l:=E.rw) (x:=v) hu with h3 | ⟨h3,h4⟩
     · simp only[killL_get,Nat.zero_add] at h1;obtain⟨q0,hq0,h1⟩:=Option.map_eq_some_iff.1 h1;cases hkj:hasN kill j with
       | true=>
         rw[hkj] at h1;simp at h1;subst h1;exact⟨(h.rw j q0 u hq0 h3).1,(fun e=>by cases e),(fun e=>by cases e)⟩
       | false=>
         rw[hkj] at h1;simp at h1;subst h1;exact h.row_keep hq0 h3 hK hS (E.le_row _ _ _) (fun _ k b hb=>hold (.r j k) b hb (fun _ _ e=>by injection e with e _;rw[<- e];exact hkj))
     · have:j<(killL kill s.rw 0).length:=(List.getElem?_eq_some_iff.1 h1).1
       rw[hlen,<- h.nrw] at this;omega
   · rcases append_get (l:=E.rw) (x:=v) hu with h3 | ⟨h3,h4⟩
     · have:j<E.rw.length:=(List.getElem?_eq_some_iff.1 h3).1
       rw[hlen,<- h.nrw] at h1;omega
     · subst h2;subst h4;rw[h1,hlen];exact hr hK hS
 · intro x y b hx hy;rcases hown x b hx with ⟨h1,h1'⟩ | ⟨k1,h1,h2⟩<;>rcases hown y b hy with ⟨h3,h3'⟩ | ⟨k2,h3,h4⟩
   · exact h.inj x y b h1 h3
   · exfalso;rcases hF b (List.mem_of_getElem? h4) with h5 | ⟨j,k,q,h5,h6,_⟩
     · have:=h.own_lt h1;omega
     · have e:=h.inj _ _ b h1 h6
       have:=(h1' j k e).1
       rw[h5] at this;cases this
   · exfalso;rcases hF b (List.mem_of_getElem? h2) with h5 | ⟨j,k,q,h5,h6,_⟩
     · have:=h.own_lt h3;omega
     · have e:=h.inj _ _ b h3 h6
       have:=(h3' j k e).1
       rw[h5] at this;cases this
   · rw[h1,h3];have hk1:=(List.getElem?_eq_some_iff.1 h2);have hk2:=(List.getElem?_eq_some_iff.1 h4)
     have:k1=k2:=(List.getElem_inj hnd).1 (hk1.2.trans hk2.2.symm)
     rw[this]
 · intro j k b q hq hl hb;rcases hown _ b hb with ⟨h1,h1'⟩ | ⟨k1,h1,h2⟩
   · obtain⟨hkj,hj⟩:=h1' j k rfl;rcases append_get hq with h3 | ⟨h3,_⟩
     · simp only[killL_get,Nat.zero_add] at h3;obtain⟨q0,hq0,h3⟩:=Option.map_eq_some_iff.1 h3;rw[hkj] at h3;simp at h3;subst h3;exact h.fresh j k b q0 hq0 hl h1
     · omega
   · injection h1 with h1 _
     rcases append_get hq with h3 | ⟨h3,h4⟩
     · have:=(List.getElem?_eq_some_iff.1 h3).1
       omega
     · subst h4;rcases hF b (List.mem_of_getElem? h2) with h5 | ⟨j',k',q',_,h6,h7,h8⟩
       · exact Nat.le_trans h.size h5
       · exact h.fresh j' k' b q' h7 (h8 hl) h6
theorem regrow_goes {c:Ctx} {E:Env} {s:St} {a:Act} {w w':World} (h:Inv c E s a w) (hsz:w.heap.size<=w'.heap.size) (kill:List Nat)
   (hk:∀b,b<w.heap.size->(∀j k,hasN kill j=true->own E s (.r j k)≠some b)->w'.heap[b]?=w.heap[b]?)
   (r:Row) (v:Value) {F:List Nat} (H:Path->Value) (hF:∀b∈F,w.heap.size<=b\/∃y,own E s y=some b):Goes c E s w (E.addR v F H) {s with rw:=killL kill s.rw 0++[r]} w':=by
 refine goes_of hsz (fun x b hx=>?_) (fun b hb hno=>hk b hb (fun j k _=>hno _));have key:own E s x=some b\/b∈F:=by
   cases x with
   | b j=>exact .inl hx
   | r j k=>
     obtain⟨q,G,hq,hst,hG,hb⟩:=own_of hx;rcases append_get (l:=E.fp) (x:=F) hG with h1 | ⟨h1,h2⟩
     · rcases append_get hq with h3 | ⟨h3,_⟩
       · exact .inl (own_kill (kill:=kill) (own_r (s:={s with rw:=killL kill s.rw 0}) h3 hst h1 hb)).1
       · have:j<E.fp.length:=(List.getElem?_eq_some_iff.1 h1).1
         rw[killL_length,<- h.nfp] at h3;omega
     · subst h2;exact .inr (List.mem_of_getElem? hb)
 rcases key with h1 | h1
 · exact .inl ⟨x,h1⟩
 · rcases hF b h1 with h2 | h2
   · exact .inr h2
   · exact .inl h2
section
structure KeepBut (M:Nat->Prop) (w w':World):Prop where
 os:w'.os=w.os
 tape:w'.tape=w.tape
 output:w'.output=w.output
 size:w.heap.size<=w'.heap.size
 block:∀b,b<w.heap.size->¬M b->w'.heap[b]?=w.heap[b]?
def Grow (S:Nat->Prop) (w w':World) (b:Nat):Prop:=S b\/(w.heap.size<=b/\b<w'.heap.size)
structure MemOk (S:Nat->Prop) (E:Env) (m:St) (w:World):Prop where
 nbx:E.bx.length=m.bx.length
 nrw:E.rw.length=m.rw.length
 nfp:E.fp.length=m.rw.length
 bx:∀(j:Nat) (p:TypeId×List SV) (b:Nat),m.bx[j]?=some p->E.bx[j]?=some b->BoxOk S E w p b
 rw:∀(j:Nat) (r:Row) (v:Value),m.rw[j]?=some r->E.rw[j]?=some v->RowOk S E w j r v
 inj:∀x y b,own E m x=some b->own E m y=some b->x=y
 out:∀x b,own E m x=some b->¬S b/\b<w.heap.size
def After (S:Nat->Prop) (w w':World) (E':Env) (m':St) (b:Nat):Prop:=Grow S w w' b/\∀x,own E' m' x≠some b
theorem range_kept {w w0:World} {b:Nat} (h:w.heap[b]?=w0.heap[b]?) {o:Nat} {cs:List Value} (hr:w0.rangeAt b o cs):w.rangeAt b o cs:=fun k u hu=>
 (World.cell?_of_block (w:=w0) (a:=⟨b,_,none⟩) h).trans (hr k u hu)
mutual
theorem Bor.frozen {S S' B:Nat->Prop} {w w0:World} (hS:∀b,S b->S' b) (hB:∀b,B b->S' b/\w.heap[b]?=w0.heap[b]?):∀{e:OT} {cs:List Value} {d:Dat},Bor S w B w0 e cs d->Rep S' w e.ty cs d
 | .im _,_,_,h=>Rep.mono (fun _ _=>rfl) hS h
 | .sl _ e,_,_,⟨a,n,c,ds,h1,h2,h3,h4,h5,h6⟩=>⟨a,n,c,ds,h1,h2,h3,h4,h5,fun hn=>by
     obtain⟨b,off,ha,hb,hc⟩:=h6 hn;refine⟨b,off,ha,(hB b hb).1,fun i x hx=>?_⟩;obtain⟨es,hes,hr⟩:=hc i x hx;rw[OT.ty_size];exact⟨es,range_kept (hB b hb).2 hes,Bor.frozen hS hB hr⟩⟩
 | .st _,_,_,⟨ds,h1,h2⟩=>⟨ds,h1,Bors.frozen hS hB h2⟩
 | .ho _ _,_,_,h=>h.elim
 | .mp _ _,_,_,h=>h.elim
theorem Bors.frozen {S S' B:Nat->Prop} {w w0:World} (hS:∀b,S b->S' b) (hB:∀b,B b->S' b/\w.heap[b]?=w0.heap[b]?):∀{fs:List OT} {cs:List Value} {ds:List Dat},Bors S w B w0 fs cs ds->Reps S' w (OT.tys fs) cs ds
 | [],_,_,h=>h
 | _::_,_,_,⟨c1,c2,d1,d2,h1,h2,h3,h4⟩=>⟨c1,c2,d1,d2,h1,h2,Bor.frozen hS hB h3,Bors.frozen hS hB h4⟩
end
mutual
def memless:SV->Bool
 | .sl _ _=>false
 | .ptr _ _ _=>false
 | .bsl _ _=>false
 | .bptr _ _ _=>false
 | .agg l=>memlesss l
 | .tup l=>memlesss l
 | .fn _ l=>memlesss l
 | .ifc _ l=>memlesss l
 | .bf _ l=>memlesss l
 | _=>true
def memlesss:List SV->Bool
 | []=>true
 | x::l=>memless x&&memlesss l
end
mutual
theorem memless_rel {S S':Nat->Prop} {E:Env} {w w':World}:∀{x:SV} {v:Value},memless x=true->RelV S E w x v->RelV S' E w' x v
 | .un,_,_,_=>trivial
 | .tt,_,_,h=>h
 | .ff,_,_,h=>h
 | .int _ _,_,_,h=>h
 | .bool _,_,_,h=>h
 | .str _,_,_,h=>h
 | .raw _,_,_,h=>h
 | .nil,_,_,h=>h
 | .own _,_,_,h=>h
 | .agg _,_,hp,⟨vs,h1,h2⟩=>⟨vs,h1,memlesss_rel (by simpa [memless] using hp) h2⟩
 | .tup _,_,hp,⟨vs,h1,h2⟩=>⟨vs,h1,memlesss_rel (by simpa [memless] using hp) h2⟩
 | .bp _ _,_,_,h=>h
 | .rp _ _ _ _ _,_,_,h=>h
 | .fn _ _,_,hp,⟨vs,h1,h2⟩=>⟨vs,h1,memlesss_rel (by simpa [memless] using hp) h2⟩
 | .nilp,_,_,h=>h
 | .ifc _ _,_,hp,⟨vs,h1,h2⟩=>⟨vs,h1,memlesss_rel (by simpa [memless] using hp) h2⟩
 | .bf _ _,_,hp,⟨vs,h1,h2⟩=>⟨vs,h1,memlesss_rel (by simpa [memless] using hp) h2⟩
 | .hs _ _,_,_,h=>h
 | .arr _ _,_,_,h=>h
theorem memlesss_rel {S S':Nat->Prop} {E:Env} {w w':World}:∀{l:List SV} {vs:List Value},memlesss l=true->RelVs S E w l vs->RelVs S' E w' l vs
 | [],_,_,h=>h
 | _::_,_,hp,⟨v,vs',h1,h2,h3⟩=>by
   simp only[memlesss,Bool.and_eq_true] at hp;exact⟨v,vs',h1,memless_rel hp.1 h2,memlesss_rel hp.2 h3⟩
end
mutual
def memT:Ty->Bool
 | .sl _=>false
 | .st fs=>memTs fs
 | _=>true
def memTs:List Ty->Bool
 | []=>true
 | f::fs=>memT f&&memTs fs
end
mutual
theorem memT_rep {S S':Nat->Prop} {w w':World}:∀{t:Ty} {cs:List Value} {d:Dat},memT t=true->Rep S w t cs d->Rep S' w' t cs d
 | .int _,_,_,_,h=>h
 | .bool,_,_,_,h=>h
 | .str,_,_,_,h=>h
 | .raw,_,_,_,h=>h
 | .sl _,_,_,hm,_=>by cases hm
 | .st fs,_,_,hm,⟨ds,h1,h2⟩=>⟨ds,h1,memTs_rep (by simpa [memT] using hm) h2⟩
theorem memTs_rep {S S':Nat->Prop} {w w':World}:∀{fs:List Ty} {cs:List Value} {ds:List Dat},memTs fs=true->Reps S w fs cs ds->Reps S' w' fs cs ds
 | [],_,_,_,h=>h
 | _::_,_,_,hm,⟨c1,c2,d1,d2,h1,h2,h3,h4⟩=>by
   simp only[memTs,Bool.and_eq_true] at hm;exact⟨c1,c2,d1,d2,h1,h2,memT_rep hm.1 h3,memTs_rep hm.2 h4⟩
end
mutual
def memO:OT->Bool
 | .im t=>memT t
 | .sl _ e=>memO e
 | .st fs=>memOs fs
 | .ho _ _=>false
 | .mp _ v=>memO v
def memOs:List OT->Bool
 | []=>true
 | f::fs=>memO f&&memOs fs
end
mutual
theorem memO_own {S S':Nat->Prop} {w:World}:∀{e:OT} {H:Hd} {b:Nat} {cs:List Value} {d:Dat} {F:List Nat},memO e=true->Own S w e H b cs d F->Own S' w e H b cs d F
 | .im _,_,_,_,_,_,hm,⟨h,h'⟩=>⟨memT_rep hm h,h'⟩
 | .sl _ e,_,_,_,_,_,hm,⟨ds,xs,F',h0,h0',h1,h1',h2,h3⟩=>⟨ds,xs,F',h0,h0',h1,h1',h2.imp (fun _ _ _ _ _ _ _ hq=>memO_own (e:=e) hm hq),h3⟩
 | .st _,_,_,_,_,_,hm,⟨ds,h,h'⟩=>⟨ds,h,memOs_owns (by simpa [memO] using hm) h'⟩
 | .ho _ _,_,_,_,_,_,hm,_=>by cases hm
 | .mp _ v,_,_,_,_,_,hm,⟨ds,es,clock,g,F',h0,h1,h2,h3,h4,h5,h6,h7⟩=>⟨ds,es,clock,g,F',h0,h1,h2,h3,h4,h5,h6.imp (fun _ _ _ _ _ _ _ hq=>memO_own (e:=v) hm hq),h7⟩
theorem memOs_owns {S S':Nat->Prop} {w:World}:∀{fs:List OT} {H:Hd} {b:Nat} {cs:List Value} {ds:List Dat} {F:List Nat},memOs fs=true->Owns S w fs H b cs ds F->Owns S' w fs H b cs ds F
 | [],_,_,_,_,_,_,h=>h
 | _::_,_,_,_,_,_,hm,⟨c1,c2,d1,d2,F1,F2,h1,h2,h3,h4,h5⟩=>by
   simp only[memOs,Bool.and_eq_true] at hm;exact⟨c1,c2,d1,d2,F1,F2,h1,h2,h3,memO_own hm.1 h4,memOs_owns hm.2 h5⟩
end
def CallS (E:Env) (s:St) (w:World) (L:Slot->Prop) (b:Nat):Prop:=b<w.heap.size/\∀x,own E s x=some b->¬L x
mutual
def viewV (s:St) (no:List Nat):SV->Option (List Prop×SV)
 | .own j=>match s.rw[j]? with
   | some r=>if (r.st=0\/r.st=1)/\hasN no j=false/\r.e.solid=true then some ([],.sl r.e.ty r.ds) else none
   | none=>none
 | .hs j π=>match s.rw[j]? with
   | some r=>if r.st=0/\hasN no j=false then (match typeP r.tid r.e π with
     | some (_,e)=>if e.solid=true then some ([okP r.e r.ds π],.sl e.ty (getP r.e r.ds π)) else none
     | none=>none) else none
   | none=>none
 | .rp j π i sz off=>match s.rw[j]? with
   | some r=>if r.st=0/\hasN no j=false then (match typeP r.tid r.e π with
     | some (_,e)=>if e.size=sz/\e.solid=true then some ([okQ r.e r.ds π (i<(getP r.e r.ds π).length)],.ptr e.ty ((getP r.e r.ds π).getD i default) off) else none
     | none=>none) else none
   | none=>none
 | .bsl e ds=>some ([],.sl e.ty ds)
 | .bptr e d off=>some ([],.ptr e.ty d off)
 | .arr k ds=>some ([],.arr k ds)
 | .agg l=>match viewVs s no l with
   | some (ps,r)=>some (ps,.agg r)
   | none=>none
 | .tup l=>match viewVs s no l with
   | some (ps,r)=>some (ps,.tup r)
   | none=>none
 | .fn f l=>match viewVs s no l with
   | some (ps,r)=>some (ps,.fn f r)
   | none=>none
 | .ifc f l=>match viewVs s no l with
   | some (ps,r)=>some (ps,.ifc f r)
   | none=>none
 | .bf f l=>match viewVs s no l with
   | some (ps,r)=>some (ps,.bf f r)
   | none=>none
 | .un=>some ([],.un)
 | .tt=>some ([],.tt)
 | .ff=>some ([],.ff)
 | .int k n=>some ([],.int k n)
 | .bool b=>some ([],.bool b)
 | .str b=>some ([],.str b)
 | .raw v=>some ([],.raw v)
 | .nil=>some ([],.nil)
 | .sl e ds=>some ([],.sl e ds)
 | .bp j off=>some ([],.bp j off)
 | .ptr t d off=>some ([],.ptr t d off)
 | .nilp=>some ([],.nilp)
def viewVs (s:St) (no:List Nat):List SV->Option (List Prop×List SV)
 | []=>some ([],[])
 | x::l=>match viewV s no x with
   | some (ps,y)=>match viewVs s no l with
     | some (qs,r)=>some (ps++qs,y::r)
     | none=>none
   | none=>none
end
def lentSlot (bs rs:List Nat):Slot->Prop
 | .b j=>j∈bs
 | .r j _=>j∈rs
theorem reg_callS {c:Ctx} {E:Env} {s:St} {w:World} {L:Slot->Prop} (b:Nat) (h:Reg c E s w b):CallS E s w L b:=⟨h.2.1,fun x hx=>absurd hx (h.2.2 x)⟩
theorem all_app {l m:List Prop} (h:∀p∈l++m,p):(∀p∈l,p)/\∀p∈m,p:=⟨fun p hp=>h p (List.mem_append_left _ hp),fun p hp=>h p (List.mem_append_right _ hp)⟩
section
variable {c:Ctx} {E:Env} {s:St} {a:Act} {w:World}
theorem Inv.row_callS (h:Inv c E s a w) {bs rs:List Nat} {j:Nat} (hj:hasN rs j=false) {r:Row} (hr:s.rw[j]?=some r) (hst:r.st=0) {F:List Nat} (hF:E.fp[j]?=some F) (b:Nat) (hb:b∈F):CallS E s w (lentSlot bs rs) b:=by
 obtain⟨k,ho⟩:=own_fp hr hst hF hb;refine⟨h.own_lt ho,fun x hx hl=>?_⟩
 have:=h.inj _ _ b ho hx
 subst this
 have:hasN rs j=true:=hasN_of hl
 rw[hj] at this;cases this
theorem Inv.row_splitQ (h:Inv c E s a w) {j:Nat} {r:Row} {π:Path} {tid:TypeId} {e:OT} (hr:s.rw[j]?=some r) (hst:r.st=0) (ht:typeQ r.tid r.e π=some (tid,e)) (hok:okP r.e r.ds π) :
   ∃F,E.fp[j]?=some F/\∃A F' B,F=A++(F'++B)/\Own (Reg c E s w) w (headT tid e) (fun _ ρ=>E.nh j (π++ρ)) 0 [E.nh j π] (.node (getP r.e r.ds π)) F'/\
     ∀(S2:Nat->Prop) (w2:World) (H2:Path->Value) (new:List Dat) (F2:List Nat),Keeps (Reg c E s w) w w2->(∀x,Reg c E s w x->S2 x)->(∀x,x∈A\/x∈B->w2.heap[x]?=w.heap[x]?)->H2 π=E.nh j π->(∀ρ,(¬∃σ,ρ=π++σ)->H2 ρ=E.nh j ρ)->
       Own S2 w2 (headT tid e) (fun _ ρ=>H2 (π++ρ)) 0 [H2 π] (.node new) F2->∀v,E.rw[j]?=some v->Own S2 w2 (headT r.tid r.e) (fun _=>H2) 0 [v] (.node (setP r.e r.ds π new)) (A++(F2++B)):=by
 obtain⟨v,hv⟩:=h.row_val hr;obtain⟨_,h1,_⟩:=h.rw j r v hr hv;obtain⟨F,hF,h3⟩:=h1 hst;obtain⟨A,F',B,h4,h5,h6⟩:=Own.pathQ ht hok h3;refine⟨F,hF,A,F',B,h4,h5,fun S2 w2 H2 new F2 hK hS hAB h7 h8 h9 u hu=>?_⟩;rw[hv] at hu;simp at hu;subst hu;exact h6 S2 w2 (fun _=>H2) new F2 hK hS hAB h7 h8 h9
theorem Inv.row_split (h:Inv c E s a w) {j:Nat} {r:Row} {π:Path} {tid:TypeId} {e:OT} (hr:s.rw[j]?=some r) (hst:r.st=0) (ht:typeP r.tid r.e π=some (tid,e)) (hok:okP r.e r.ds π) :
   ∃F,E.fp[j]?=some F/\∃A F' B,F=A++(F'++B)/\Own (Reg c E s w) w (.sl tid e) (fun _ ρ=>E.nh j (π++ρ)) 0 [E.nh j π] (.node (getP r.e r.ds π)) F'/\
     ∀(S2:Nat->Prop) (w2:World) (H2:Path->Value) (new:List Dat) (F2:List Nat),Keeps (Reg c E s w) w w2->(∀x,Reg c E s w x->S2 x)->(∀x,x∈A\/x∈B->w2.heap[x]?=w.heap[x]?)->H2 π=E.nh j π->(∀ρ,(¬∃σ,ρ=π++σ)->H2 ρ=E.nh j ρ)->
       Own S2 w2 (.sl tid e) (fun _ ρ=>H2 (π++ρ)) 0 [H2 π] (.node new) F2->∀v,E.rw[j]?=some v->Own S2 w2 (headT r.tid r.e) (fun _=>H2) 0 [v] (.node (setP r.e r.ds π new)) (A++(F2++B)):=by
 obtain⟨v,hv⟩:=h.row_val hr;obtain⟨_,h1,_⟩:=h.rw j r v hr hv;obtain⟨F,hF,h3⟩:=h1 hst;obtain⟨A,F',B,h4,h5,h6⟩:=Own.path ht hok h3;refine⟨F,hF,A,F',B,h4,h5,fun S2 w2 H2 new F2 hK hS hAB h7 h8 h9 u hu=>?_⟩;rw[hv] at hu;simp at hu;subst hu;exact h6 S2 w2 (fun _=>H2) new F2 hK hS hAB h7 h8 h9
theorem Inv.bor_callS (h:Inv c E s a w) {L:Slot->Prop} (b:Nat) (hb:E.bo b):CallS E s w L b/\w.heap[b]?=E.w0.heap[b]?:=by
 obtain⟨h1,h2⟩:=h.bor.2 b hb;refine⟨⟨Nat.lt_of_lt_of_le h1 h.size,fun x hx=>?_⟩,by rw[h.bor.1];exact h.old b h1 h2⟩;rcases h.new x b hx with h3 | h3
 · exact absurd h3 h2
 · omega
mutual
theorem viewV_rel (h:Inv c E s a w) {bs rs:List Nat}:∀{x y:SV} {ps:List Prop} {v:Value},viewV s rs x=some (ps,y)->(∀p∈ps,p)->RelV (Reg c E s w) E w x v->RelV (CallS E s w (lentSlot bs rs)) E w y v
 | .own j,y,ps,v,hq,hp,hr=>by
   unfold viewV at hq;split at hq
   · rename_i r hr';split at hq
     · rename_i hst;simp only[Option.some.injEq,Prod.mk.injEq] at hq;obtain⟨rfl,rfl⟩:=hq;obtain⟨h1,h2,h3⟩:=h.rw j r v hr' hr.1;rcases hst.1 with hs | hs
       · obtain⟨F,hF,h4⟩:=h2 hs;rw[headT_solid hst.2.2] at h4;exact Own.frozen (e:=.sl r.tid r.e) reg_callS hst.2.2 (fun b hb=>h.row_callS hst.2.1 hr' hs hF b hb) h4
       · exact (h3 hs).mono (fun _ _=>rfl) reg_callS
     · cases hq
   · cases hq
 | .hs j π,y,ps,v,hq,hp,hr=>by
   unfold viewV at hq;split at hq
   · rename_i r hr';split at hq
     · rename_i hst;split at hq
       · rename_i tid e ht;split at hq
         · rename_i hso;simp only[Option.some.injEq,Prod.mk.injEq] at hq;obtain⟨rfl,rfl⟩:=hq;obtain⟨F,hF,A,F',B,rfl,h4,_⟩:=h.row_split hr' hst.1 ht (hp _ (List.mem_singleton.2 rfl));obtain⟨hj,rfl,_⟩:=hr;exact Own.frozen (e:=.sl tid e) reg_callS hso (fun b hb=>h.row_callS hst.2 hr' hst.1 hF b (List.mem_append_right _ (List.mem_append_left _ hb))) h4
         · cases hq
       · cases hq
     · cases hq
   · cases hq
 | .rp j π i sz off,y,ps,v,hq,hp,hr=>by
   unfold viewV at hq;split at hq
   · rename_i r hr';split at hq
     · rename_i hst;split at hq
       · rename_i tid e ht;split at hq
         · rename_i hsz;simp only[Option.some.injEq,Prod.mk.injEq] at hq;obtain⟨rfl,rfl⟩:=hq;obtain⟨hok,hi⟩:=okQ_eq (hp _ (List.mem_singleton.2 rfl));obtain⟨F,hF,A,F',B,rfl,h4,_⟩:=h.row_split hr' hst.1 ht hok;obtain⟨g,n,cap,hj,h5,rfl⟩:=hr;have h6:=Own.frozen (e:=.sl tid e) (S':=CallS E s w (lentSlot bs rs)) reg_callS hsz.2 (fun b hb=>h.row_callS hst.2 hr' hst.1 hF b (List.mem_append_right _ (List.mem_append_left _ hb))) h4;obtain⟨ad,n',cap',ds',h7,h8,h9,h10,h11,h12⟩:=h6;rw[h5] at h7;simp at h7 h8;obtain⟨h7,rfl,rfl⟩:=h7;subst h8;obtain⟨b,o,h13,h14,h15⟩:=h12 (by omega);rw[<- h7] at h13;simp at h13
           obtain⟨rfl,rfl⟩:=h13;have hx:(getP r.e r.ds π)[i]?=some ((getP r.e r.ds π).getD i default):=by rw[List.getD_eq_getElem?_getD,List.getElem?_eq_getElem hi];rfl
           obtain⟨es,h16,h17⟩:=h15 i _ hx;rw[OT.ty_size,hsz.1] at h16;exact⟨g.1,_,es,by rw[Nat.add_assoc],h14,h16,h17⟩
         · cases hq
       · cases hq
     · cases hq
   · cases hq
 | .bsl e ds,y,ps,v,hq,hp,hr=>by
   simp only[viewV,Option.some.injEq,Prod.mk.injEq] at hq;obtain⟨rfl,rfl⟩:=hq;exact Bor.frozen (e:=.sl 0 e) reg_callS (fun b hb=>h.bor_callS b hb) hr
 | .arr k ds,y,ps,v,hq,hp,hr=>by
   simp only[viewV,Option.some.injEq,Prod.mk.injEq] at hq;obtain⟨rfl,rfl⟩:=hq;exact hr
 | .bptr e d off,y,ps,v,hq,hp,hr=>by
   simp only[viewV,Option.some.injEq,Prod.mk.injEq] at hq;obtain⟨rfl,rfl⟩:=hq;obtain⟨b,o,cs,h1,h2,h3,h4⟩:=hr;exact⟨b,o,cs,h1,(h.bor_callS (L:=lentSlot bs rs) b h2).1,range_kept (h.bor_callS (L:=lentSlot bs rs) b h2).2 h3,h4.frozen reg_callS (fun b hb=>h.bor_callS b hb)⟩
 | .agg l,y,ps,v,hq,hp,⟨vs,h1,h2⟩=>by
   unfold viewV at hq;split at hq
   · rename_i r hr;simp only[Option.some.injEq,Prod.mk.injEq] at hq;obtain⟨rfl,rfl⟩:=hq;exact⟨vs,h1,viewVs_rel h hr hp h2⟩
   · cases hq
 | .tup l,y,ps,v,hq,hp,⟨vs,h1,h2⟩=>by
   unfold viewV at hq;split at hq
   · rename_i r hr;simp only[Option.some.injEq,Prod.mk.injEq] at hq;obtain⟨rfl,rfl⟩:=hq;exact⟨vs,h1,viewVs_rel h hr hp h2⟩
   · cases hq
 | .fn f l,y,ps,v,hq,hp,⟨vs,h1,h2⟩=>by
   unfold viewV at hq;split at hq
   · rename_i r hr;simp only[Option.some.injEq,Prod.mk.injEq] at hq;obtain⟨rfl,rfl⟩:=hq;exact⟨vs,h1,viewVs_rel h hr hp h2⟩
   · cases hq
 | .ifc f l,y,ps,v,hq,hp,⟨vs,h1,h2⟩=>by
   unfold viewV at hq;split at hq
   · rename_i r hr;simp only[Option.some.injEq,Prod.mk.injEq] at hq;obtain⟨rfl,rfl⟩:=hq;exact⟨vs,h1,viewVs_rel h hr hp h2⟩
   · cases hq
 | .bf f l,y,ps,v,hq,hp,⟨vs,h1,h2⟩=>by
   unfold viewV at hq;split at hq
   · rename_i r hr;simp only[Option.some.injEq,Prod.mk.injEq] at hq;obtain⟨rfl,rfl⟩:=hq;exact⟨vs,h1,viewVs_rel h hr hp h2⟩
   · cases hq
 | .un,y,ps,v,hq,_,hr=>by simp only[viewV,Option.some.injEq,Prod.mk.injEq] at hq;obtain⟨rfl,rfl⟩:=hq;exact hr
 | .tt,y,ps,v,hq,_,hr=>by simp only[viewV,Option.some.injEq,Prod.mk.injEq] at hq;obtain⟨rfl,rfl⟩:=hq;exact hr
 | .ff,y,ps,v,hq,_,hr=>by simp only[viewV,Option.some.injEq,Prod.mk.injEq] at hq;obtain⟨rfl,rfl⟩:=hq;exact hr
 | .int _ _,y,ps,v,hq,_,hr=>by simp only[viewV,Option.some.injEq,Prod.mk.injEq] at hq;obtain⟨rfl,rfl⟩:=hq;exact hr
 | .bool _,y,ps,v,hq,_,hr=>by simp only[viewV,Option.some.injEq,Prod.mk.injEq] at hq;obtain⟨rfl,rfl⟩:=hq;exact hr
 | .str _,y,ps,v,hq,_,hr=>by simp only[viewV,Option.some.injEq,Prod.mk.injEq] at hq;obtain⟨rfl,rfl⟩:=hq;exact hr
 | .raw _,y,ps,v,hq,_,hr=>by simp only[viewV,Option.some.injEq,Prod.mk.injEq] at hq;obtain⟨rfl,rfl⟩:=hq;exact hr
 | .nil,y,ps,v,hq,_,hr=>by simp only[viewV,Option.some.injEq,Prod.mk.injEq] at hq;obtain⟨rfl,rfl⟩:=hq;exact hr
 | .sl _ _,y,ps,v,hq,_,hr=>by simp only[viewV,Option.some.injEq,Prod.mk.injEq] at hq;obtain⟨rfl,rfl⟩:=hq;exact hr.mono (fun _ _=>rfl) reg_callS E.le_refl
 | .bp _ _,y,ps,v,hq,_,hr=>by simp only[viewV,Option.some.injEq,Prod.mk.injEq] at hq;obtain⟨rfl,rfl⟩:=hq;exact hr
 | .ptr _ _ _,y,ps,v,hq,_,hr=>by simp only[viewV,Option.some.injEq,Prod.mk.injEq] at hq;obtain⟨rfl,rfl⟩:=hq;exact hr.mono (fun _ _=>rfl) reg_callS E.le_refl
 | .nilp,y,ps,v,hq,_,hr=>by simp only[viewV,Option.some.injEq,Prod.mk.injEq] at hq;obtain⟨rfl,rfl⟩:=hq;exact hr
theorem viewVs_rel (h:Inv c E s a w) {bs rs:List Nat}:∀{l m:List SV} {ps:List Prop} {vs:List Value},viewVs s rs l=some (ps,m)->(∀p∈ps,p)->RelVs (Reg c E s w) E w l vs->RelVs (CallS E s w (lentSlot bs rs)) E w m vs
 | [],m,ps,vs,hq,_,hr=>by
   simp only[viewVs,Option.some.injEq,Prod.mk.injEq] at hq;obtain⟨rfl,rfl⟩:=hq;exact hr
 | x::l,m,ps,vs,hq,hp,⟨v,vs',h1,h2,h3⟩=>by
   unfold viewVs at hq;split at hq
   · rename_i ps1 y hy;split at hq
     · rename_i qs r hr;simp only[Option.some.injEq,Prod.mk.injEq] at hq;obtain⟨rfl,rfl⟩:=hq;obtain⟨hp1,hp2⟩:=all_app hp;exact⟨v,vs',h1,viewV_rel h hy hp1 h2,viewVs_rel h hr hp2 h3⟩
     · cases hq
   · cases hq
end
end
end
section
abbrev Acc:=List Nat×List (Nat×Path)
def Acc.le (a b:Acc):Prop:=a.1 <+: b.1/\a.2 <+: b.2
theorem Acc.le_refl (a:Acc):a.le a:=⟨List.prefix_refl _,List.prefix_refl _⟩
theorem Acc.le.trans {a b d:Acc} (h:a.le b) (k:b.le d):a.le d:=⟨h.1.trans k.1,h.2.trans k.2⟩
theorem prefix_get {α:Type} {l m:List α} (h:l <+: m) {i:Nat} {x:α} (hi:l[i]?=some x):m[i]?=some x:=by
 obtain⟨t,rfl⟩:=h;rw[List.getElem?_append_left (List.getElem?_eq_some_iff.1 hi).1];exact hi
def idxN:List Nat->Nat->Option Nat
 | [],_=>none
 | x::l,j=>bif Nat.beq x j then some 0 else match idxN l j with
   | some i=>some (i+1)
   | none=>none
theorem idxN_get:∀{l:List Nat} {j i:Nat},idxN l j=some i->l[i]?=some j
 | [],_,_,h=>by cases h
 | x::l,j,i,h=>by
   unfold idxN at h;cases hb:Nat.beq x j with
   | true=>rw[hb] at h;simp at h;subst h;rw[Nat.eq_of_beq_eq_true hb];rfl
   | false=>
     rw[hb] at h;simp only[cond_false] at h;split at h
     · rename_i i' hi;simp at h;subst h;simpa using idxN_get hi
     · cases h
def findR:List (Nat×Path)->Nat->Option (Nat×Path)
 | [],_=>none
 | (x,π)::l,j=>bif Nat.beq x j then some (0,π) else match findR l j with
   | some (k,ρ)=>some (k+1,ρ)
   | none=>none
theorem findR_get:∀{l:List (Nat×Path)} {j k:Nat} {π:Path},findR l j=some (k,π)->l[k]?=some (j,π)
 | [],_,_,_,h=>by cases h
 | (x,ρ)::l,j,k,π,h=>by
   unfold findR at h;cases hb:Nat.beq x j with
   | true=>
     rw[hb] at h;simp at h;obtain⟨rfl,rfl⟩:=h;rw[Nat.eq_of_beq_eq_true hb];rfl
   | false=>
     rw[hb] at h;simp only[cond_false] at h;split at h
     · rename_i k' ρ' hi;simp at h;obtain⟨rfl,rfl⟩:=h;simpa using findR_get hi
     · cases h
mutual
def lendV (acc:Acc):SV->Acc×SV
 | .bp j off=>match idxN acc.1 j with
   | some i=>(acc,.bp i off)
   | none=>((acc.1++[j],acc.2),.bp acc.1.length off)
 | .own j=>match findR acc.2 j with
   | some (k,[])=>(acc,.own k)
   | some (_,_::_)=>(acc,.un)
   | none=>((acc.1,acc.2++[(j,[])]),.own acc.2.length)
 | .hs j π=>match findR acc.2 j with
   | some _=>(acc,.un)
   | none=>((acc.1,acc.2++[(j,π)]),.own acc.2.length)
 | .rp j π i sz off=>match findR acc.2 j with
   | some (k,[])=>(match π with
     | []=>(acc,.rp k [] i sz off)
     | _::_=>(acc,.un))
   | some (_,_::_)=>(acc,.un)
   | none=>((acc.1,acc.2++[(j,π)]),.rp acc.2.length [] i sz off)
 | .bsl _ _=>(acc,.un)
 | .bptr _ _ _=>(acc,.un)
 | .arr k ds=>(acc,.arr k ds)
 | .agg l=>((lendVs acc l).1,.agg (lendVs acc l).2)
 | .tup l=>((lendVs acc l).1,.tup (lendVs acc l).2)
 | .fn f l=>((lendVs acc l).1,.fn f (lendVs acc l).2)
 | .ifc f l=>((lendVs acc l).1,.ifc f (lendVs acc l).2)
 | .bf f l=>((lendVs acc l).1,.bf f (lendVs acc l).2)
 | .un=>(acc,.un)
 | .tt=>(acc,.tt)
 | .ff=>(acc,.ff)
 | .int k n=>(acc,.int k n)
 | .bool b=>(acc,.bool b)
 | .str b=>(acc,.str b)
 | .raw v=>(acc,.raw v)
 | .nil=>(acc,.nil)
 | .sl e ds=>(acc,.sl e ds)
 | .ptr t d off=>(acc,.ptr t d off)
 | .nilp=>(acc,.nilp)
def lendVs (acc:Acc):List SV->Acc×List SV
 | []=>(acc,[])
 | x::l=>((lendVs (lendV acc x).1 l).1,(lendV acc x).2::(lendVs (lendV acc x).1 l).2)
end
mutual
theorem lendV_le:∀(x:SV) (acc:Acc),acc.le (lendV acc x).1
 | .bp j off,acc=>by
   unfold lendV;split
   · exact acc.le_refl
   · exact⟨List.prefix_append _ _,List.prefix_refl _⟩
 | .own j,acc=>by
   unfold lendV;split
   · exact acc.le_refl
   · exact acc.le_refl
   · exact⟨List.prefix_refl _,List.prefix_append _ _⟩
 | .hs j π,acc=>by
   unfold lendV;split
   · exact acc.le_refl
   · exact⟨List.prefix_refl _,List.prefix_append _ _⟩
 | .rp j π i sz off,acc=>by
   unfold lendV;split
   · split
     · exact acc.le_refl
     · exact acc.le_refl
   · exact acc.le_refl
   · exact⟨List.prefix_refl _,List.prefix_append _ _⟩
 | .bsl _ _,acc=>acc.le_refl
 | .bptr _ _ _,acc=>acc.le_refl
 | .arr _ _,acc=>acc.le_refl
 | .agg l,acc=>lendVs_le l acc
 | .tup l,acc=>lendVs_le l acc
 | .fn _ l,acc=>lendVs_le l acc
 | .ifc _ l,acc=>lendVs_le l acc
 | .bf _ l,acc=>lendVs_le l acc
 | .un,acc=>acc.le_refl
 | .tt,acc=>acc.le_refl
 | .ff,acc=>acc.le_refl
 | .int _ _,acc=>acc.le_refl
 | .bool _,acc=>acc.le_refl
 | .str _,acc=>acc.le_refl
 | .raw _,acc=>acc.le_refl
 | .nil,acc=>acc.le_refl
 | .sl _ _,acc=>acc.le_refl
 | .ptr _ _ _,acc=>acc.le_refl
 | .nilp,acc=>acc.le_refl
theorem lendVs_le:∀(l:List SV) (acc:Acc),acc.le (lendVs acc l).1
 | [],acc=>acc.le_refl
 | x::l,acc=>(lendV_le x acc).trans (lendVs_le l _)
end
structure Maps (E E':Env) (acc:Acc):Prop where
 bx:∀(i j:Nat),acc.1[i]?=some j->∀b,E.bx[j]?=some b->E'.bx[i]?=some b
 rw:∀(k j:Nat),acc.2[k]?=some (j,[])->∀v,E.rw[j]?=some v->E'.rw[k]?=some v
 hs:∀(k j:Nat) (π:Path),acc.2[k]?=some (j,π)->E'.rw[k]?=some (E.nh j π)
 nh:∀(k j:Nat) (π:Path),acc.2[k]?=some (j,π)->E'.nh k []=E.nh j π
theorem Maps.le {E E':Env} {a b:Acc} (h:Maps E E' b) (hl:a.le b):Maps E E' a:=
 ⟨fun i j hi=>h.bx i j (prefix_get hl.1 hi),fun k j hk=>h.rw k j (prefix_get hl.2 hk),fun k j π hk=>h.hs k j π (prefix_get hl.2 hk),fun k j π hk=>h.nh k j π (prefix_get hl.2 hk)⟩
section
variable {S:Nat->Prop} {E E':Env} {w:World}
mutual
theorem lendV_rel:∀{x:SV} {acc:Acc} {v:Value},Maps E E' (lendV acc x).1->RelV S E w x v->RelV S E' w (lendV acc x).2 v
 | .bp j off,acc,v,hm,hr=>by
   obtain⟨b,h1,h2⟩:=hr;unfold lendV at hm ⊢;split at hm
   · rename_i i hi;exact⟨b,hm.bx i j (idxN_get hi) b h1,h2⟩
   · rename_i hi;exact⟨b,hm.bx _ j (by simp) b h1,h2⟩
 | .own j,acc,v,hm,hr=>by
   obtain⟨h1,h2⟩:=hr;unfold lendV at hm ⊢;split at hm
   · rename_i k hi;exact⟨hm.rw k j (findR_get hi) v h1,h2⟩
   · rename_i hi;trivial
   · rename_i hi;exact⟨hm.rw _ j (by simp) v h1,h2⟩
 | .hs j π,acc,v,hm,hr=>by
   obtain⟨_,h1,h2⟩:=hr;unfold lendV at hm ⊢;split at hm
   · rename_i hi;trivial
   · rename_i hi;exact⟨by rw[<- h1];exact hm.hs _ j π (by simp),h2⟩
 | .rp j π i sz off,acc,v,hm,hr=>by
   obtain⟨g,n,cp,_,h1,h2⟩:=hr;unfold lendV at hm ⊢;split at hm
   · rename_i k hi;split at hm
     · exact⟨g,n,cp,(List.getElem?_eq_some_iff.1 (hm.hs k j [] (findR_get hi))).1,by rw[hm.nh k j [] (findR_get hi)];exact h1,h2⟩
     · trivial
   · trivial
   · exact⟨g,n,cp,(List.getElem?_eq_some_iff.1 (hm.hs _ j π (by simp))).1,by rw[hm.nh _ j π (by simp)];exact h1,h2⟩
 | .bsl _ _,acc,v,hm,hr=>trivial
 | .bptr _ _ _,acc,v,hm,hr=>trivial
 | .arr _ _,acc,v,hm,hr=>hr
 | .agg l,acc,v,hm,⟨vs,h1,h2⟩=>⟨vs,h1,lendVs_rel hm h2⟩
 | .tup l,acc,v,hm,⟨vs,h1,h2⟩=>⟨vs,h1,lendVs_rel hm h2⟩
 | .fn _ l,acc,v,hm,⟨vs,h1,h2⟩=>⟨vs,h1,lendVs_rel hm h2⟩
 | .ifc _ l,acc,v,hm,⟨vs,h1,h2⟩=>⟨vs,h1,lendVs_rel hm h2⟩
 | .bf _ l,acc,v,hm,⟨vs,h1,h2⟩=>⟨vs,h1,lendVs_rel hm h2⟩
 | .un,acc,v,hm,hr=>hr
 | .tt,acc,v,hm,hr=>hr
 | .ff,acc,v,hm,hr=>hr
 | .int _ _,acc,v,hm,hr=>hr
 | .bool _,acc,v,hm,hr=>hr
 | .str _,acc,v,hm,hr=>hr
 | .raw _,acc,v,hm,hr=>hr
 | .nil,acc,v,hm,hr=>hr
 | .sl _ _,acc,v,hm,hr=>hr
 | .ptr _ _ _,acc,v,hm,hr=>hr
 | .nilp,acc,v,hm,hr=>hr
theorem lendVs_rel:∀{l:List SV} {acc:Acc} {vs:List Value},Maps E E' (lendVs acc l).1->RelVs S E w l vs->RelVs S E' w (lendVs acc l).2 vs
 | [],acc,vs,hm,hr=>hr
 | x::l,acc,vs,hm,⟨v,vs',h1,h2,h3⟩=>⟨v,vs',h1,lendV_rel (hm.le (lendVs_le l _)) h2,lendVs_rel hm h3⟩
end
end
def seeV (s:St) (x:SV):SV:=
 match x with
 | .own j=>match s.rw[j]? with
   | some r=>if r.st=1 then .sl r.e.ty r.ds else .own j
   | none=>.own j
 | x=>x
def seeVs (s:St):List SV->List SV
 | []=>[]
 | x::l=>seeV s x::seeVs s l
theorem seeV_rel {c:Ctx} {E:Env} {s:St} {a:Act} {w:World} (h:Inv c E s a w) {x:SV} {v:Value} (hr:RelV (Reg c E s w) E w x v):RelV (Reg c E s w) E w (seeV s x) v:=by
 unfold seeV;split
 · rename_i j;split
   · rename_i r hr';split
     · rename_i hst;exact (h.rw j r v hr' hr.1).2.2 hst
     · exact hr
   · exact hr
 · exact hr
theorem seeVs_rel {c:Ctx} {E:Env} {s:St} {a:Act} {w:World} (h:Inv c E s a w):∀{l:List SV} {vs:List Value},RelVs (Reg c E s w) E w l vs->RelVs (Reg c E s w) E w (seeVs s l) vs
 | [],_,hr=>hr
 | _::_,_,⟨v,vs',h1,h2,h3⟩=>⟨v,vs',h1,seeV_rel h h2,seeVs_rel h h3⟩
def lendB (s:St):Nat->Nat->Acc->Option (Acc×List (TypeId×List SV))
 | 0,_,_=>none
 | f+1,i,acc=>match acc.1[i]? with
   | none=>some (acc,[])
   | some j=>match s.bx[j]? with
     | some p=>bif (lendVs acc (seeVs s p.2)).2.all SV.one then
         match lendB s f (i+1) (lendVs acc (seeVs s p.2)).1 with
         | some (acc',r)=>some (acc',(p.1,(lendVs acc (seeVs s p.2)).2)::r)
         | none=>none
       else none
     | none=>none
theorem lendB_ok {s:St}:∀{f i:Nat} {acc acc':Acc} {r:List (TypeId×List SV)},lendB s f i acc=some (acc',r)->i<=acc.1.length->acc.le acc'/\r.length+i=acc'.1.length/\
   ∀(n:Nat) (q:TypeId×List SV),r[n]?=some q->∃j p a0,acc'.1[i+n]?=some j/\s.bx[j]?=some p/\q=(p.1,(lendVs a0 (seeVs s p.2)).2)/\(lendVs a0 (seeVs s p.2)).1.le acc'/\q.2.all SV.one=true
 | 0,_,_,_,_,h,_=>by cases h
 | f+1,i,acc,acc',r,h,hi=>by
   unfold lendB at h;split at h
   · rename_i hn;simp only[Option.some.injEq,Prod.mk.injEq] at h;obtain⟨rfl,rfl⟩:=h
     have:=List.getElem?_eq_none_iff.1 hn
     exact⟨acc.le_refl,by simp;omega,fun n q hq=>by simp at hq⟩
   · rename_i j hj;split at h
     · rename_i p hp;generalize hc:(lendVs acc (seeVs s p.2)).2.all SV.one=cond at h;cases cond with
       | false=>cases h
       | true=>
         simp only[cond_true] at h;split at h
         · rename_i acc2 r2 h2;simp only[Option.some.injEq,Prod.mk.injEq] at h;obtain⟨rfl,rfl⟩:=h;have hle:=lendVs_le (seeVs s p.2) acc;have hlt:=(List.getElem?_eq_some_iff.1 hj).1;obtain⟨h3,h4,h5⟩:=lendB_ok h2 (by have:=hle.1.length_le;omega);refine⟨hle.trans h3,by simp;omega,fun n q hq=>?_⟩;cases n with
           | zero=>
             simp at hq;subst hq;exact⟨j,p,acc,prefix_get (hle.trans h3).1 hj,hp,rfl,h3,hc⟩
           | succ n=>
             obtain⟨j',p',a0,h6,h7⟩:=h5 n q (by simpa using hq);exact⟨j',p',a0,by rw[<- h6];congr 1;omega,h7⟩
         · cases h
     · cases h
def lendRows (s:St):List (Nat×Path)->Option (List Prop×List Row)
 | []=>some ([],[])
 | (j,π)::l=>match s.rw[j]? with
   | some r=>if r.st=0 then (match typeQ r.tid r.e π with
     | some (t,e)=>(match lendRows s l with
       | some (ps,rs)=>some ((match π with | []=>ps | _::_=>okP r.e r.ds π::ps),⟨t,e,getP r.e r.ds π,0,true⟩::rs)
       | none=>none)
     | none=>none) else none
   | none=>none
def Part (s:St) (p:Nat×Path) (r:Row) (q:Row):Prop:=s.rw[p.1]?=some r/\r.st=0/\typeQ r.tid r.e p.2=some (q.tid,q.e)/\okP r.e r.ds p.2/\q=⟨q.tid,q.e,getP r.e r.ds p.2,0,true⟩
theorem lendRows_ok {s:St}:∀{l:List (Nat×Path)} {ps:List Prop} {rs:List Row},lendRows s l=some (ps,rs)->(∀p∈ps,p)->rs.length=l.length/\∀(k:Nat) (p:Nat×Path),l[k]?=some p->∃r q,rs[k]?=some q/\Part s p r q
 | [],ps,rs,h,_=>by
   simp [lendRows] at h;obtain⟨rfl,rfl⟩:=h;exact⟨rfl,fun k p hp=>by simp at hp⟩
 | (j,π)::l,ps,rs,h,hp=>by
   unfold lendRows at h;split at h
   · rename_i r hr;split at h
     · rename_i hst;split at h
       · rename_i t e ht;split at h
         · rename_i ps' rs' h2;simp only[Option.some.injEq,Prod.mk.injEq] at h;obtain⟨rfl,rfl⟩:=h;have hok:okP r.e r.ds π/\∀p∈ps',p:=by
             cases π with
             | nil=>exact⟨trivial,hp⟩
             | cons x π=>exact⟨hp _ (List.mem_cons_self ..),fun p hq=>hp p (List.mem_cons_of_mem _ hq)⟩
           obtain⟨h3,h4⟩:=lendRows_ok h2 hok.2;refine⟨by simp [h3],fun k p hk=>?_⟩;cases k with
           | zero=>
             simp at hk;subst hk;exact⟨r,_,rfl,hr,hst,ht,hok.1,rfl⟩
           | succ k=>
             obtain⟨r',q,h5,h6⟩:=h4 k p (by simpa using hk);exact⟨r',q,by simpa using h5,h6⟩
         · cases h
       · cases h
     · cases h
   · cases h
def nodupN:List Nat->Bool
 | []=>true
 | x::l=>!hasN l x&&nodupN l
theorem nodupN_ok:∀{l:List Nat},nodupN l=true->l.Nodup
 | [],_=>List.nodup_nil
 | x::l,h=>by
   simp only[nodupN,Bool.and_eq_true,Bool.not_eq_true'] at h;exact List.nodup_cons.2 ⟨fun hm=>by rw[hasN_of hm] at h;exact absurd h.1 (by simp),nodupN_ok h.2⟩
def firsts:List (Nat×Path)->List Nat
 | []=>[]
 | p::l=>p.1::firsts l
theorem firsts_get:∀{l:List (Nat×Path)} {k:Nat} {p:Nat×Path},l[k]?=some p->(firsts l)[k]?=some p.1
 | [],_,_,h=>by simp at h
 | _::_,0,_,h=>by simp at h;subst h;rfl
 | _::l,k+1,_,h=>by
   have:=firsts_get (l:=l) (k:=k) (by simpa using h)
   simpa [firsts] using this
theorem nodup_get {l:List Nat} (h:l.Nodup) {i j x:Nat} (hi:l[i]?=some x) (hj:l[j]?=some x):i=j:=by
 have h1:=(List.getElem?_eq_some_iff.1 hi);have h2:=(List.getElem?_eq_some_iff.1 hj);exact (List.getElem_inj h).1 (h1.2.trans h2.2.symm)
def lendAll (s:St) (args:List SV):Option (Acc×List SV×List Prop×St):=
 match lendB s (s.bx.length+1) 0 (lendVs ([],[]) args).1 with
 | some (acc,bs)=>match lendRows s acc.2 with
   | some (ps,rs)=>bif nodupN acc.1&&nodupN (firsts acc.2) then some (acc,(lendVs ([],[]) args).2,ps,⟨[],bs,rs⟩) else none
   | none=>none
 | none=>none
structure RowLink (c:Ctx) (E:Env) (s:St) (w:World) (Ec:Env) (m:St) (k:Nat) (p:Nat×Path) (r q:Row) (A F B:List Nat):Prop where
 part:Part s p r q
 mrow:m.rw[k]?=some q
 fp:E.fp[p.1]?=some (A++(F++B))
 cfp:Ec.fp[k]?=some F
 crw:Ec.rw[k]?=some (E.nh p.1 p.2)
 back:∀(S2:Nat->Prop) (w2:World) (H2:Path->Value) (new:List Dat) (F2:List Nat),Keeps (Reg c E s w) w w2->(∀x,Reg c E s w x->S2 x)->(∀x,x∈A\/x∈B->w2.heap[x]?=w.heap[x]?)->H2 p.2=E.nh p.1 p.2->(∀ρ,(¬∃σ,ρ=p.2++σ)->H2 ρ=E.nh p.1 ρ)->
       Own S2 w2 (headT q.tid q.e) (fun _ ρ=>H2 (p.2++ρ)) 0 [H2 p.2] (.node new) F2->∀v,E.rw[p.1]?=some v->Own S2 w2 (headT r.tid r.e) (fun _=>H2) 0 [v] (.node (setP r.e r.ds p.2 new)) (A++(F2++B))
structure Lends (c:Ctx) (E:Env) (s:St) (w:World) (acc:Acc) (Ec:Env) (m:St) (sp:Nat->List Nat×List Nat):Prop where
 nb:Ec.bx.length=acc.1.length
 nr:Ec.rw.length=acc.2.length
 nf:Ec.fp.length=acc.2.length
 nm:m.rw.length=acc.2.length
 ndb:acc.1.Nodup
 ndr:(firsts acc.2).Nodup
 bx:∀(i j:Nat),acc.1[i]?=some j->j<s.bx.length/\Ec.bx[i]?=E.bx[j]?
 rw:∀(k:Nat) (p:Nat×Path),acc.2[k]?=some p->∃r q F,RowLink c E s w Ec m k p r q (sp k).1 F (sp k).2
theorem Lends.slot {c:Ctx} {E:Env} {s:St} {w:World} {acc:Acc} {Ec:Env} {m:St} {sp:Nat->List Nat×List Nat} (hL:Lends c E s w acc Ec m sp) {x:Slot} {b:Nat} (hx:own Ec m x=some b) :
   (∃i j,x=.b i/\acc.1[i]?=some j/\own E s (.b j)=some b)\/∃k i p r q F,x=.r k i/\acc.2[k]?=some p/\RowLink c E s w Ec m k p r q (sp k).1 F (sp k).2/\F[i]?=some b/\own E s (.r p.1 ((sp k).1.length+i))=some b:=by
 cases x with
 | b i=>
   have hi:i<acc.1.length:=by rw[<- hL.nb];exact (List.getElem?_eq_some_iff.1 hx).1
   refine .inl ⟨i,_,rfl,List.getElem?_eq_getElem hi,?_⟩;show E.bx[_]?=_;rw[<- (hL.bx i _ (List.getElem?_eq_getElem hi)).2];exact hx
 | r k i=>
   obtain⟨q',F',h1,h2,h3,h4⟩:=own_of hx;have hk:k<acc.2.length:=by rw[<- hL.nf];exact (List.getElem?_eq_some_iff.1 h3).1
   obtain⟨r,q,F,hl⟩:=hL.rw k _ (List.getElem?_eq_getElem hk);have h5:=hl.cfp;rw[h3] at h5;simp at h5;subst h5;refine .inr ⟨k,i,_,r,q,F',rfl,List.getElem?_eq_getElem hk,hl,h4,?_⟩;refine own_r hl.part.1 hl.part.2.1 hl.fp ?_;rw[List.getElem?_append_right (by omega),Nat.add_sub_cancel_left,List.getElem?_append_left (List.getElem?_eq_some_iff.1 h4).1];exact h4
theorem lend_in {c:Ctx} {E:Env} {s:St} {a:Act} {w:World} (h:Inv c E s a w) {args ins:List SV} {vs:List Value} {acc:Acc} {ps:List Prop} {m:St} {S:Nat->Prop} (BO:Nat->Prop) (hl:lendAll s args=some (acc,ins,ps,m)) (hp:∀p∈ps,p)
   (hS:∀b,Reg c E s w b->S b) (hno:∀x b,own E s x=some b->lentSlot acc.1 (firsts acc.2) x->¬S b) (hr:RelVs S E w args vs) :
   ∃Ec sp,Ec.w0=w/\Ec.bo=BO/\MemOk S Ec m w/\RelVs S Ec w ins vs/\Lends c E s w acc Ec m sp:=by
 unfold lendAll at hl;split at hl
 · rename_i acc' bs hlb;split at hl
   · rename_i ps' rs hlr;generalize hc:(nodupN acc'.1&&nodupN (firsts acc'.2))=cond at hl;cases cond with
     | false=>cases hl
     | true=>
       simp only[cond_true,Option.some.injEq,Prod.mk.injEq] at hl;obtain⟨rfl,rfl,rfl,rfl⟩:=hl;simp only[Bool.and_eq_true] at hc;have hndb:=nodupN_ok hc.1;have hndr:=nodupN_ok hc.2;obtain⟨hle,hbl,hbs⟩:=lendB_ok hlb (Nat.zero_le _);obtain⟨hrl,hrs⟩:=lendRows_ok hlr hp;simp only[Nat.add_zero] at hbl;simp only[Nat.zero_add] at hbs;have hex:∀p:Nat×Path,∃t:List Nat×List Nat×List Nat,∀r q,Part s p r q->E.fp[p.1]?=some (t.1++(t.2.1++t.2.2))/\Own (Reg c E s w) w (headT q.tid q.e) (fun _ ρ=>E.nh p.1 (p.2++ρ)) 0 [E.nh p.1 p.2] (.node (getP r.e r.ds p.2)) t.2.1/\
           ∀(S2:Nat->Prop) (w2:World) (H2:Path->Value) (new:List Dat) (F2:List Nat),Keeps (Reg c E s w) w w2->(∀x,Reg c E s w x->S2 x)->(∀x,x∈t.1\/x∈t.2.2->w2.heap[x]?=w.heap[x]?)->H2 p.2=E.nh p.1 p.2->(∀ρ,(¬∃σ,ρ=p.2++σ)->H2 ρ=E.nh p.1 ρ)->
             Own S2 w2 (headT q.tid q.e) (fun _ ρ=>H2 (p.2++ρ)) 0 [H2 p.2] (.node new) F2->∀v,E.rw[p.1]?=some v->Own S2 w2 (headT r.tid r.e) (fun _=>H2) 0 [v] (.node (setP r.e r.ds p.2 new)) (t.1++(F2++t.2.2)):=by
         intro p;by_cases hex:∃r q,Part s p r q
         · obtain⟨r,q,hpq⟩:=hex;obtain⟨F,hF,A,F',B,rfl,h4,h5⟩:=h.row_splitQ hpq.1 hpq.2.1 hpq.2.2.1 hpq.2.2.2.1;refine⟨(A,F',B),fun r' q' hpq'=>?_⟩;have e1:=hpq.1;rw[hpq'.1] at e1;simp at e1;subst e1;have e2:=hpq.2.2.1;rw[hpq'.2.2.1] at e2;simp at e2;obtain⟨e2,e3⟩:=e2;rw[e2,e3];exact⟨hF,h4,h5⟩
         · exact⟨([],[],[]),fun r q hpq=>absurd ⟨r,q,hpq⟩ hex⟩
       let f:=fun p=>(hex p).choose
       have hf:=fun p=>(hex p).choose_spec
       let Ec:Env:=⟨acc'.1.map fun j=>E.bx.getD j 0,acc'.2.map fun p=>E.nh p.1 p.2,acc'.2.map fun p=>(f p).2.1,fun k ρ=>match acc'.2[k]? with | some p=>E.nh p.1 (p.2++ρ) | none=>undef,BO,w⟩
       have hbxlen:∀(i j:Nat),acc'.1[i]?=some j->j<s.bx.length:=by
         intro i j hi;have hlt:=(List.getElem?_eq_some_iff.1 hi).1;have hlt':i<bs.length:=by rw[hbl];exact hlt
         obtain⟨j',p,a0,h1,h2,_⟩:=hbs i _ (List.getElem?_eq_getElem hlt');rw[hi] at h1;simp at h1;subst h1;exact (List.getElem?_eq_some_iff.1 h2).1
       have hbxE:∀(i j:Nat),acc'.1[i]?=some j->Ec.bx[i]?=E.bx[j]?:=by
         intro i j hi
         have:j<E.bx.length:=by rw[h.nbx];exact hbxlen i j hi
         show (acc'.1.map _)[i]?=_;rw[List.getElem?_map,hi,Option.map_some,List.getD_eq_getElem?_getD,List.getElem?_eq_getElem this];rfl
       let sp:Nat->List Nat×List Nat:=fun k=>match acc'.2[k]? with | some p=>((f p).1,(f p).2.2) | none=>([],[])
       have hspk:∀k p,acc'.2[k]?=some p->sp k=((f p).1,(f p).2.2):=fun k p hk=>by simp only[sp,hk]
       have hlink:∀(k:Nat) (p:Nat×Path),acc'.2[k]?=some p->∃r q F,RowLink c E s w Ec ⟨[],bs,rs⟩ k p r q (sp k).1 F (sp k).2:=by
         intro k p hk;obtain⟨r,q,h1,h2⟩:=hrs k p hk;obtain⟨h3,h4,h5⟩:=hf p r q h2;refine⟨r,q,(f p).2.1,h2,h1,by rw[hspk k p hk];exact h3,?_,?_,by rw[hspk k p hk];exact h5⟩
         · show (acc'.2.map _)[k]?=_;rw[List.getElem?_map,hk];rfl
         · show (acc'.2.map _)[k]?=_;rw[List.getElem?_map,hk];rfl
       have hL:Lends c E s w acc' Ec ⟨[],bs,rs⟩ sp:=⟨by simp [Ec],by simp [Ec],by simp [Ec],hrl,hndb,hndr,fun i j hi=>⟨hbxlen i j hi,hbxE i j hi⟩,hlink⟩;have hmaps:Maps E Ec acc':=by
         refine⟨fun i j hi b hb=>by rw[hbxE i j hi];exact hb,fun k j hk v hv=>?_,fun k j π hk=>?_,fun k j π hk=>?_⟩
         · obtain⟨r,q,F,hl⟩:=hlink k _ hk;rw[hl.crw];obtain⟨_,h1,_⟩:=h.rw j r v hl.part.1 hv;obtain⟨F',_,h2⟩:=h1 hl.part.2.1;rw[h2.head_val.1]
         · obtain⟨r,q,F,hl⟩:=hlink k _ hk;exact hl.crw
         · show (match acc'.2[k]? with | some p=>E.nh p.1 (p.2++[]) | none=>undef)=_;rw[hk];simp
       have hSl:∀{l:List SV} {us:List Value},RelVs (Reg c E s w) E w l us->RelVs S E w l us:=fun hr=>hr.mono (fun _ _=>rfl) hS E.le_refl
       refine⟨Ec,sp,rfl,rfl,⟨by simp [Ec,hbl],by simp [Ec,hrl],by simp [Ec,hrl],?_,?_,?_,?_⟩,lendVs_rel (hmaps.le hle) hr,hL⟩
       · intro i p b hi hb;obtain⟨j,p0,a0,h1,h2,rfl,h4,h5⟩:=hbs i p hi;rw[hbxE i j h1] at hb;obtain⟨cs,h6,h7,_⟩:=h.bx j p0 b h2 hb;exact⟨cs,h6,lendVs_rel (hmaps.le h4) (hSl (seeVs_rel h h7)),h5⟩
       · intro k q' v hq hv;have hk:k<acc'.2.length:=by rw[<- hrl];exact (List.getElem?_eq_some_iff.1 hq).1
         obtain⟨r,q,F,hl⟩:=hlink k _ (List.getElem?_eq_getElem hk);have e1:=hl.mrow;have hq:rs[k]?=some q':=hq;have e1:rs[k]?=some q:=e1;rw[hq] at e1;simp at e1;subst e1;have e2:=hl.crw;rw[hv] at e2;simp at e2;subst e2;obtain⟨h3,h4,_⟩:=hf _ r q' hl.part;have e3:=hl.part.2.2.2.2;refine⟨own_isHead h4,fun _=>⟨_,by show (acc'.2.map _)[k]?=_;rw[List.getElem?_map,List.getElem?_eq_getElem hk];rfl,?_⟩,fun e=>?_⟩
         · rw[show q'.ds=getP r.e r.ds (acc'.2[k]).2 from by rw[e3]];refine h4.mono (fun _ _=>rfl) hS (fun k' ρ _ _=>?_) (fun _ _=>rfl);simp only[Ec,List.getElem?_eq_getElem hk]
         · rw[e3] at e;cases e
       · intro x y b hx hy;rcases hL.slot hx with ⟨i,j,rfl,h1,h2⟩ | ⟨k,i,p,r,q,F,rfl,h1,h2,h3,h4⟩<;>rcases hL.slot hy with ⟨i',j',rfl,h1',h2'⟩ | ⟨k',i',p',r',q',F',rfl,h1',h2',h3',h4'⟩
         · have e:=h.inj _ _ b h2 h2';injection e with e
           subst e;rw[nodup_get hndb h1 h1']
         · have e:=h.inj _ _ b h2 h4';cases e
         · have e:=h.inj _ _ b h4 h2';cases e
         · have e:=h.inj _ _ b h4 h4';injection e with e1 e2
           have e3:k=k':=nodup_get hndr (firsts_get h1) (by rw[e1];exact firsts_get h1');subst e3;rw[h1] at h1';simp at h1';subst h1';have e4:=h2.cfp;rw[h2'.cfp] at e4;simp at e4;subst e4;have e5:own E s (.r p.1 ((sp k).1.length+i'))=some b:=by
             refine own_r h2.part.1 h2.part.2.1 h2.fp ?_;rw[List.getElem?_append_right (by omega),Nat.add_sub_cancel_left,List.getElem?_append_left (List.getElem?_eq_some_iff.1 h3').1];exact h3'
           have e6:=h.inj _ _ b h4 e5;injection e6 with _ e6
           have:i=i':=by omega
           rw[this]
       · intro x b hx;rcases hL.slot hx with ⟨i,j,rfl,h1,h2⟩ | ⟨k,i,p,r,q,F,rfl,h1,h2,h3,h4⟩
         · exact⟨hno _ b h2 (List.mem_of_getElem? h1),h.own_lt h2⟩
         · exact⟨hno _ b h4 (List.mem_of_getElem? (firsts_get h1)),h.own_lt h4⟩
   · cases hl
 · cases hl
end
end
end E
end Go.Proofs.YtlfohjkcajaebaaGreat
