/- Whole bodies: what must be shown of a function's text, and its contract. No program in sight. -/
import Derived.Test.YtbjapgekagljeaaDoorE15
import Derived.Deep.LoopGhost
namespace Go.Proofs.YtbjapgekagljeaaDoor
open Go Go.RowKit
namespace E
/-- What holds at a loop's head, by what is known when it is first met; what each round lowers. -/
structure LS : Type 1 where
  G : Type
  st : St → G → St
  inv : G → Prop
  μ : G → Nat
/-- A loop that has just so many heads: what holds at each. -/
structure LU : Type 1 where
  n : Nat
  G : Type
  st : Nat → St → G → St
  inv : Nat → G → Prop
inductive LK : Type 1 where
  | g (ls : LS) | u (lu : LU)
def allN : Nat → (Nat → VC) → VC
  | 0, f => f 0
  | k + 1, f => .and (allN k f) (f (k + 1))
theorem allN_den {f : Nat → VC} : ∀ {n : Nat}, (allN n f).den → ∀ i, i ≤ n → (f i).den
  | 0, h, i, hi => by
    obtain rfl : i = 0 := by omega
    exact h
  | n + 1, h, i, hi => by
    rcases Nat.lt_or_ge i (n + 1) with h1 | h1
    · exact allN_den h.1 i (by omega)
    · obtain rfl : i = n + 1 := by omega
      exact h.2
/-- A value of just so many cells. -/
def Shp (n : Nat) (x : Value) : Prop := ∃ xs : List Value, x = .agg xs.toArray ∧ xs.length = n ∧ ∀ v ∈ xs, v.oneCell' = true
/-- What a function does that panics, with a value of a type told. -/
def FnX (P : Program) (f : FuncId) (ins : List SV) (bs : Option (TypeId × List SV)) (t : TypeId × Nat) : Prop :=
  ∀ (S : Nat → Prop) (B : List Nat) (w : World) (vs : List Value), (∀ b, S b → b < w.heap.size) → (∀ b ∈ B, ¬ S b) → B.length = bs.toList.length → (∀ p, bs = some p → ∀ b ∈ B, BoxOk S E0 w p b) → RelVs S ⟨B, []⟩ w ins vs →
    Calls P f vs.toArray w fun e w' => ∃ x, Shp t.2 x ∧ e = .panicked [{ v := .iface t.1 x, recovered := false }] ∧ KeepBut (· ∈ B) w w'
structure XCon (P : Program) : Type 1 where
  f : FuncId
  t : TypeId × Nat
  get : List SV → Option (TypeId × List SV) → Option Prop
  enter : Enters P f
  ok : ∀ ins bs p, get ins bs = some p → p → FnX P f ins bs t
def xget {P : Program} (xt : List (XCon P)) (f : FuncId) (ins : List SV) (bs : Option (TypeId × List SV)) : Option (Prop × TypeId × Nat) :=
  match xt with
  | [] => none
  | c :: r => bif Nat.beq c.f f then (match c.get ins bs with
    | some p => some (p, c.t)
    | none => xget r f ins bs) else xget r f ins bs
theorem xget_ok {P : Program} {f : FuncId} {ins : List SV} {bs : Option (TypeId × List SV)} {p : Prop} {t : TypeId × Nat} : ∀ {xt : List (XCon P)}, xget xt f ins bs = some (p, t) → p → Enters P f ∧ FnX P f ins bs t
  | [], h, _ => by cases h
  | c :: r, h, hp => by
    unfold xget at h
    cases hb : Nat.beq c.f f with
    | false => rw [hb] at h; exact xget_ok h hp
    | true =>
      rw [hb] at h
      have := Nat.eq_of_beq_eq_true hb
      subst this
      simp only [cond_true] at h
      split at h
      · rename_i p' hg
        simp only [Option.some.injEq, Prod.mk.injEq] at h
        obtain ⟨rfl, rfl⟩ := h
        exact ⟨c.enter, c.ok _ _ _ hg hp⟩
      · exact xget_ok h hp
def xcall {P : Program} (xt : List (XCon P)) (s : St) (f : FuncId) (l : List SV) : Option (Prop × TypeId × Nat) :=
  match lend (fz s l).2 with
  | some (none, r) => xget xt f r none
  | some (some j, r) => match (fz s l).1.bx[j]? with
    | some p => bif plains p.2 then xget xt f r (some p) else none
    | none => none
  | none => none
def stepP (P : Program) (ct : List (Con P)) (xt : List (XCon P)) (Kp : TypeId × Nat → VC) (o : Oper) (s : St) (K : St → VC) : VC :=
  match o.op with
  | .panic x => match s.ev x with
    | .ifc t l => bif l.all SV.one then Kp (t, l.length) else .f
    | _ => .f
  | .call { callee := .value x, args := args, .. } => match xt with
    | [] => step P ct o s K
    | _ => match (match s.ev x with
        | .fn f caps => xcall xt s f (args.toList.map s.ev ++ caps)
        | .bf f pre => xcall xt s f (pre ++ (args.toList.map s.ev ++ []))
        | _ => none) with
      | some (p, t) => .or (.ob p (Kp t)) (step P ct o s K)
      | none => step P ct o s K
  | _ => step P ct o s K
theorem KeepBut.of {c : Ctx} {E : Env} {s : St} {a : Act} {w : World} (h : Inv c E s a w) : KeepBut c.M c.w0 w := ⟨h.os, h.tape, h.output, h.size, h.old⟩
theorem KeepBut.trans' {M N : Nat → Prop} {w w1 w2 : World} (h : KeepBut M w w1) (k : KeepBut N w1 w2) (hN : ∀ b, b < w.heap.size → N b → M b) : KeepBut M w w2 :=
  ⟨k.os.trans h.os, k.tape.trans h.tape, k.output.trans h.output, Nat.le_trans h.size k.size, fun b hb hM => (k.block b (Nat.lt_of_lt_of_le hb h.size) (fun hn => hM (hN b hb hn))).trans (h.block b hb hM)⟩
theorem xcall_ok {P : Program} {xt : List (XCon P)} {s : St} {c : Ctx} {E : Env} {a : Act} {w : World} {o : Oper} {x : Operand} {args : Array Operand} {ts : Array TypeId} {f : FuncId} {pre caps : List SV} {p : Prop} {t : TypeId × Nat} {next : Act → World → Prop} {Q : Exit → Act → World → Prop} (ho : o.op = .call { callee := .value x, args := args, argTypes := ts })
    (hx : (s.ev x = .fn f caps ∧ pre = []) ∨ (s.ev x = .bf f pre ∧ caps = [])) (hc : xcall xt s f (pre ++ (args.toList.map s.ev ++ caps)) = some (p, t)) (hp : p) (h : Inv c E s a w) (hQ : ∀ x w', Shp t.2 x → KeepBut c.M c.w0 w' → Q (.panic [{ v := .iface t.1 x, recovered := false }]) a w') : o.wp P a w next Q := by
  obtain ⟨ps, cs, hxv, hps, hcs⟩ : ∃ ps cs : List Value, a.eval x = .func (.func f) ps.toArray cs.toArray ∧ RelVs (Reg c E s w) E w pre ps ∧ RelVs (Reg c E s w) E w caps cs := by
    have h1 := h.ev x
    rcases hx with ⟨hx, rfl⟩ | ⟨hx, rfl⟩
    · rw [hx] at h1
      obtain ⟨cs, h2, h3⟩ := h1
      exact ⟨[], cs, h2, rfl, h3⟩
    · rw [hx] at h1
      obtain ⟨cs, h2, h3⟩ := h1
      exact ⟨cs, [], h2, h3, rfl⟩
  have hargs : RelVs (Reg c E s w) E w (pre ++ (args.toList.map s.ev ++ caps)) (ps ++ (args.toList.map a.eval ++ cs)) := hps.append ((evs_rel h _).append hcs)
  obtain ⟨h2, h3, h4⟩ := fz_ok h hargs
  unfold xcall at hc
  generalize hs2 : (fz s (pre ++ (args.toList.map s.ev ++ caps))).1 = s2 at *
  generalize hl2 : (fz s (pre ++ (args.toList.map s.ev ++ caps))).2 = l2 at *
  have hrun : ∀ (he : Enters P f), (execOp a.eval o).run P w = .ok (.enter f (ps ++ (args.toList.map a.eval ++ cs)).toArray) w := by
    intro he
    unfold execOp; rw [ho]
    simp only [resolve, hxv, Deferred.ofValue, pure_bind, invoke]
    have : (ps.toArray ++ Array.map a.eval args ++ cs.toArray) = (ps ++ (args.toList.map a.eval ++ cs)).toArray := by
      apply Array.toList_inj.1; simp
    rw [this]
    exact he _ w
  unfold Oper.wp
  split at hc
  · rename_i r hr
    obtain ⟨he, hf⟩ := xget_ok hc hp
    rw [hrun he, Oper.upon_enter]
    refine (hf (Reg c E s2 w) [] w _ (fun b hb => hb.2.1) (by simp) rfl (by simp) (lend_rel hr h4 [] (fun j hj => by cases hj))).mono ?_
    rintro e w' ⟨v, hs, rfl, hk⟩
    exact hQ v w' hs ((KeepBut.of h).trans' hk (fun _ _ hb => by cases hb))
  · rename_i j r hr
    split at hc
    · rename_i q hq
      cases hpl : plains q.2 with
      | false => rw [hpl] at hc; cases hc
      | true =>
        rw [hpl] at hc
        simp only [cond_true] at hc
        obtain ⟨he, hf⟩ := xget_ok hc hp
        rw [hrun he, Oper.upon_enter]
        have hj : j < E.bx.length := by rw [h2.nbx]; exact (List.getElem?_eq_some_iff.1 hq).1
        obtain ⟨b, hb⟩ : ∃ b, E.bx[j]? = some b := ⟨_, List.getElem?_eq_getElem hj⟩
        have hbox0 : BoxOk (Reg c E s2 w) E0 w q b := by
          obtain ⟨cs', h6, h7, h8⟩ := h2.bx j q b hq hb
          exact ⟨cs', h6, plains_rel hpl h7, h8⟩
        refine (hf (Reg c E s2 w) [b] w _ (fun b hb => hb.2.1) (fun b' hb' hS => by simp at hb'; subst hb'; exact hS.2.2 (.b j) hb) rfl (fun p' hp' b' hb' => by simp at hp' hb'; subst hp'; subst hb'; exact hbox0) (lend_rel hr h4 [b] (fun k hk => by simp at hk; subst hk; exact ⟨b, hb, rfl⟩))).mono ?_
        rintro e w' ⟨v, hs, rfl, hk⟩
        refine hQ v w' hs ((KeepBut.of h).trans' hk (fun b' hb' hbm => ?_))
        simp at hbm
        subst hbm
        rcases h2.new (.b j) _ hb with ⟨_, h5⟩ | h5
        · exact h5
        · omega
    · cases hc
  · cases hc
section
variable {P : Program} {ct : List (Con P)} {xt : List (XCon P)} {Kp : TypeId × Nat → VC}
theorem stepP_ok {o : Oper} {s : St} {K : St → VC} {c : Ctx} {E : Env} {a : Act} {w : World} {Q : Exit → Act → World → Prop} (hP : ∀ t, (Kp t).den → ∀ x a w', Shp t.2 x → a.defers = [] → KeepBut c.M c.w0 w' → Q (.panic [{ v := .iface t.1 x, recovered := false }]) a w')
    (hv : (stepP P ct xt Kp o s K).den) (h : Inv c E s a w) : o.wp P a w (fun a' w' => ∃ s' E', Inv c E' s' a' w' ∧ (K s').den) Q := by
  unfold stepP at hv
  split at hv
  · rename_i x ho
    split at hv
    · rename_i t l hx
      have h1 := h.ev x
      rw [hx] at h1
      obtain ⟨vs, hxv, hvs⟩ := h1
      unfold Oper.wp
      have hrun : (execOp a.eval o).run P w = .halt (.panic (.iface t (.agg vs.toArray))) w := by
        unfold execOp; rw [ho]
        simp only [hxv, Instr.panic, Sem.run_bind]
        rfl
      rw [hrun, Oper.upon_panic]
      cases hb : l.all SV.one with
      | false => rw [hb] at hv; exact hv.elim
      | true =>
        rw [hb] at hv
        exact hP _ hv _ a w ⟨vs, rfl, hvs.length, hvs.one hb⟩ h.defers (KeepBut.of h)
    · exact hv.elim
  · rename_i x args ts ho
    split at hv
    · exact leads_step K hv c E a w h Q
    · split at hv
      · rename_i p t hx
        rcases hv with ⟨hp, hv⟩ | hv
        · split at hx
          · rename_i f caps hf
            exact xcall_ok (ts := ts) (pre := []) ho (.inl ⟨hf, rfl⟩) hx hp h (fun x w' hs hk => hP t hv x a w' hs h.defers hk)
          · rename_i f pre hf
            exact xcall_ok (ts := ts) (caps := []) ho (.inr ⟨hf, rfl⟩) hx hp h (fun x w' hs hk => hP t hv x a w' hs h.defers hk)
          · cases hx
        · exact leads_step K hv c E a w h Q
      · exact leads_step K hv c E a w h Q
  · exact leads_step K hv c E a w h Q
def exP (P : Program) (ct : List (Con P)) (xt : List (XCon P)) (Kp : TypeId × Nat → VC) (ops : Array Oper) : List Oper → St → (St → VC) → VC
  | [], s, K => K s
  | o :: r, s, K => match o.guard with
    | none => stepP P ct xt Kp o s (fun s' => exP P ct xt Kp ops r s' K)
    | some _ => exL P ct ops (o :: r) s K
theorem exP_ok {ops : Array Oper} {Q : Exit → Act → World → Prop} {K : St → VC} {c : Ctx} (hK : ∀ s E a w, Inv c E s a w → (K s).den → Q .normal a w) (hP : ∀ t, (Kp t).den → ∀ x a w', Shp t.2 x → a.defers = [] → KeepBut c.M c.w0 w' → Q (.panic [{ v := .iface t.1 x, recovered := false }]) a w') :
    ∀ (l : List Oper) (s : St), (exP P ct xt Kp ops l s K).den → ∀ E a w, Inv c E s a w → wpList P ops Q l a w
  | [], s, hv, E, a, w, h => hK s E a w h hv
  | o :: r, s, hv, E, a, w, h => by
    unfold exP at hv
    split at hv
    · rename_i hg
      unfold wpList
      rw [if_pos (by simp [Region.wanted, hg])]
      left
      exact Oper.wp_mono (fun a' w' ⟨s', E', h1, h2⟩ => exP_ok hK hP r s' h2 E' a' w' h1) (stepP_ok hP hv h)
    · exact exL_ok hK _ s hv E a w h
end
inductive X where
  | normal | exit (id : Nat) | ret
def X.of : X → Exit
  | .normal => .normal
  | .exit id => .exit id
  | .ret => .ret
def key : Code → Option Nat
  | .region id _ _ => some id
  | .seq a b => match key a with
    | some k => some k
    | none => key b
  | .cond _ a b => match key a with
    | some k => some k
    | none => key b
  | .block _ c => key c
  | .loop c => key c
  | _ => none
def leVC (lent : Bool) (s t : St) (extra : Prop) : VC :=
  match leSt s t with
  | some ps => bif lent && t.bx.isEmpty then .f else .pr (conj (extra :: ps))
  | none => .f
/-- What a condition was found to be. -/
def St.lit (s : St) (c : Operand) (b : Bool) : St := match c with
  | .tmp d => s.put (some d) (litB b)
  | _ => s
theorem Inv.found {c : Ctx} {E : Env} {s : St} {a : Act} {w : World} (h : Inv c E s a w) {o : Operand} {q b : Bool} (hq : s.ev o = .bool q) (e : q = b) : Inv c E (s.lit o b) a w := by
  cases o with
  | tmp d =>
    have hd : s.fr[d]? = some (.bool q) := by
      have hq : s.fr.getD d .un = .bool q := hq
      rw [List.getD_eq_getElem?_getD] at hq
      cases hf : s.fr[d]? with
      | none => rw [hf] at hq; cases hq
      | some x => rw [hf] at hq; exact congrArg some hq
    subst e
    exact (h.relit hd).1
  | _ => exact h
def runC (P : Program) (ct : List (Con P)) (xt : List (XCon P)) (Kp : TypeId × Nat → VC) (L : Nat → Option LK) (lent : Bool) : Code → (X → St → VC) → St → VC
  | .skip, K, s => K .normal s
  | .region _ ops draw, K, s => match exM P ct ops draw s (K .normal) with
    | some V => V
    | none => bif draw then exDraw2 P ct ops s (K .normal) else exP P ct xt Kp ops ops.toList s (K .normal)
  | .seq a b, K, s => runC P ct xt Kp L lent a (fun x s' => match x with | .normal => runC P ct xt Kp L lent b K s' | .exit id => K (.exit id) s' | .ret => K .ret s') s
  | .cond c a b, K, s => match s.ev c with
    | .tt => runC P ct xt Kp L lent a K s
    | .ff => runC P ct xt Kp L lent b K s
    | .bool q => .and (.imp (q = true) (runC P ct xt Kp L lent a K (s.lit c true))) (.imp (q = false) (runC P ct xt Kp L lent b K (s.lit c false)))
    | _ => .f
  | .block id c, K, s => runC P ct xt Kp L lent c (fun x s' => match x with | .normal => K .normal s' | .exit i => (bif Nat.beq i id then K .normal s' else K (.exit i) s') | .ret => K .ret s') s
  | .exit id, K, s => K (.exit id) s
  | .ret, K, s => K .ret s
  | .label _, K, s => K .normal s
  | .loop c, K, s => match (key c).bind L with
    | some (.u lu) => .and (.ex lu.G fun g => leVC lent s (lu.st 0 s g) (lu.inv 0 g))
        (allN lu.n fun i => .all lu.G fun g => .imp (lu.inv i g) (runC P ct xt Kp L lent c (fun x s' => match x with
          | .normal => bif Nat.blt i lu.n then .ex lu.G fun g' => leVC lent s' (lu.st (i + 1) s g') (lu.inv (i + 1) g') else .f
          | .exit i => K (.exit i) s'
          | .ret => K .ret s') (lu.st i s g)))
    | some (.g ls) => .and (.ex ls.G fun g => leVC lent s (ls.st s g) (ls.inv g))
        (.all ls.G fun g => .imp (ls.inv g) (runC P ct xt Kp L lent c (fun x s' => match x with
          | .normal => .ex ls.G fun g' => leVC lent s' (ls.st s g') (ls.inv g' ∧ ls.μ g' < ls.μ g)
          | .exit i => K (.exit i) s'
          | .ret => K .ret s') (ls.st s g)))
    | none => .f
  | _, _, _ => .f
section
variable {P : Program} {ct : List (Con P)} {xt : List (XCon P)} {Kp : TypeId × Nat → VC} {L : Nat → Option LK} {lent : Bool}
theorem leVC_ok {c : Ctx} {E : Env} {s t : St} {a : Act} {w : World} {extra : Prop} (hl : c.lent.isSome = lent) (hv : (leVC lent s t extra).den) (h : Inv c E s a w) : extra ∧ ∃ E', Inv c E' t a w := by
  unfold leVC at hv
  split at hv
  · rename_i ps hps
    cases hb : lent && t.bx.isEmpty with
    | true => rw [hb] at hv; exact hv.elim
    | false =>
      rw [hb] at hv
      have hall := conj_mem hv
      refine ⟨hall _ (List.mem_cons_self ..), h.weaken hps (fun p hp => hall p (List.mem_cons_of_mem _ hp)) (fun hi => ?_)⟩
      rw [hl] at hi
      rw [hi] at hb
      simp at hb
      exact List.length_pos_iff.2 hb
  · exact hv.elim
theorem runC_ok {c : Ctx} (hm : P.follows .mixedOrders = true) (hl : c.lent.isSome = lent) : ∀ (code : Code) (K : X → St → VC) (Q : Exit → Act → World → Prop), (∀ x s E a w, Inv c E s a w → (K x s).den → Q x.of a w) → (∀ t, (Kp t).den → ∀ x a w', Shp t.2 x → a.defers = [] → KeepBut c.M c.w0 w' → Q (.panic [{ v := .iface t.1 x, recovered := false }]) a w') →
    ∀ (s : St), (runC P ct xt Kp L lent code K s).den → ∀ E a w, Inv c E s a w → code.wp P Q a w := by
  intro code
  induction code with
  | skip => exact fun K Q hK hP s hv E a w h => wp_skip (hK .normal s E a w h hv)
  | region id ops draw =>
    intro K Q hK hP s hv E a w h
    unfold runC at hv
    split at hv
    · rename_i V hV
      exact exM_ok hm (fun s E a w h hv => hK .normal s E a w h hv) hV hv h
    cases draw with
    | true => exact exDraw2_ok hm (fun s E a w h hv => hK .normal s E a w h hv) hv h
    | false => exact wp_region_list (exP_ok (fun s E a w h hv => hK .normal s E a w h hv) hP _ s hv E a w h)
  | seq x y ihx ihy =>
    intro K Q hK hP s hv E a w h
    unfold runC at hv
    refine wp_seq (ihx _ _ ?_ ?hp s hv E a w h)
    case hp => exact fun t ht x a w' hs hd hk => hP t ht x a w' hs hd hk
    intro x s E a w h hv
    cases x with
    | normal => exact ihy K Q hK hP s hv E a w h
    | exit id => exact hK (.exit id) s E a w h hv
    | ret => exact hK .ret s E a w h hv
  | cond o x y ihx ihy =>
    intro K Q hK hP s hv E a w h
    have h1 := h.ev o
    unfold runC at hv
    split at hv
    · rename_i ho
      rw [ho] at h1
      exact wp_cond_true h1 (ihx K Q hK hP s hv E a w h)
    · rename_i ho
      rw [ho] at h1
      exact wp_cond_false h1 (ihy K Q hK hP s hv E a w h)
    · rename_i q ho
      rw [ho] at h1
      exact wp_cond_split h1 (fun e => ihx K Q hK hP _ (hv.1 e) E a w (h.found ho e)) (fun e => ihy K Q hK hP _ (hv.2 e) E a w (h.found ho e))
    · exact hv.elim
  | block id x ih =>
    intro K Q hK hP s hv E a w h
    unfold runC at hv
    refine wp_block (ih _ _ ?_ ?hp s hv E a w h)
    case hp => exact fun t ht x a w' hs hd hk => hP t ht x a w' hs hd hk
    intro x s E a w h hv
    cases x with
    | normal => exact hK .normal s E a w h hv
    | exit i =>
      show if i = id then Q .normal a w else Q (.exit i) a w
      cases hb : Nat.beq i id with
      | true =>
        rw [if_pos (Nat.eq_of_beq_eq_true hb)]
        simp only [hb] at hv
        exact hK .normal s E a w h hv
      | false =>
        rw [if_neg (fun e => by subst e; simp at hb)]
        simp only [hb] at hv
        exact hK (.exit i) s E a w h hv
    | ret => exact hK .ret s E a w h hv
  | loop x ih =>
    intro K Q hK hP s hv E a w h
    unfold runC at hv
    split at hv
    · rename_i lu hls
      obtain ⟨⟨g0, hv1⟩, hv2⟩ := hv
      obtain ⟨hi0, E0', h0⟩ := leVC_ok hl hv1 h
      refine wp_loop_ghost (fun n a w => ∃ i g, lu.n - i = n ∧ i ≤ lu.n ∧ lu.inv i g ∧ ∃ E, Inv c E (lu.st i s g) a w) (lu.n - 0) ⟨0, g0, rfl, Nat.zero_le _, hi0, E0', h0⟩ ?_
      rintro n a w ⟨i, g, hn, hin, hi, E, hE⟩
      refine ih _ _ ?_ ?hp (lu.st i s g) (allN_den hv2 i hin g hi) E a w hE
      case hp => exact fun t ht x a w' hs hd hk => hP t ht x a w' hs hd hk
      intro x s' E' a' w' h' hv'
      cases x with
      | normal =>
        cases hb : Nat.blt i lu.n with
        | false => simp only [hb] at hv'; exact hv'.elim
        | true =>
          simp only [hb] at hv'
          have hlt : i < lu.n := Nat.le_of_ble_eq_true hb
          obtain ⟨g', hv'⟩ := hv'
          obtain ⟨h4, h6⟩ := leVC_ok hl hv' h'
          exact ⟨lu.n - (i + 1), by omega, i + 1, g', rfl, hlt, h4, h6⟩
      | exit i => exact hK (.exit i) s' E' a' w' h' hv'
      | ret => exact hK .ret s' E' a' w' h' hv'
    · rename_i ls hls
      obtain ⟨⟨g0, hv1⟩, hv2⟩ := hv
      obtain ⟨hi0, E0', h0⟩ := leVC_ok hl hv1 h
      refine wp_loop_ghost (fun n a w => ∃ g, ls.μ g = n ∧ ls.inv g ∧ ∃ E, Inv c E (ls.st s g) a w) (ls.μ g0) ⟨g0, rfl, hi0, E0', h0⟩ ?_
      rintro n a w ⟨g, hn, hi, E, hE⟩
      refine ih _ _ ?_ ?hp (ls.st s g) (hv2 g hi) E a w hE
      case hp => exact fun t ht x a w' hs hd hk => hP t ht x a w' hs hd hk
      intro x s' E' a' w' h' hv'
      cases x with
      | normal =>
        obtain ⟨g', hv'⟩ := hv'
        obtain ⟨⟨h4, h5⟩, h6⟩ := leVC_ok hl hv' h'
        exact ⟨ls.μ g', by omega, g', rfl, h4, h6⟩
      | exit i => exact hK (.exit i) s' E' a' w' h' hv'
      | ret => exact hK .ret s' E' a' w' h' hv'
    · exact hv.elim
  | exit id => exact fun K Q hK hP s hv E a w h => wp_exit (hK (.exit id) s E a w h hv)
  | ret => exact fun K Q hK hP s hv E a w h => wp_ret (hK .ret s E a w h hv)
  | label l => exact fun K Q hK hP s hv E a w h => wp_label (hK .normal s E a w h hv)
  | _ => exact fun K Q hK hP s hv E a w h => hv.elim
/-! ### a function -/
def resOne (P : Program) (s : St) : ResultVar → Option SV
  | .tmp t => some (s.fr.getD t .un)
  | .cell t ty => match cellsAt s (s.fr.getD t .un) with
    | some (none, l) => takeAt P ty l
    | _ => none
def resAll (P : Program) (s : St) : List ResultVar → Option (List SV)
  | [] => some []
  | r :: l => match resOne P s r, resAll P s l with
    | some x, some xs => some (x :: xs)
    | _, _ => none
def resV : List SV → SV
  | [x] => x
  | l => .tup l
def boxEq : Option (TypeId × List SV) → List (TypeId × List SV) → Option (List Prop)
  | none, _ => some []
  | some q, p :: _ => bif Nat.beq p.1 q.1 && q.2.all SV.one then eqSVs 0 [] p.2 q.2 else none
  | some _, [] => none
def outVC (s : St) (x : SV) (extra : List Prop) (out : SV) (b : Option (TypeId × List SV)) : VC :=
  match eqSV (match b with | some _ => 1 | none => 0) [] (freezeS s x).2 out, boxEq b s.bx with
  | some ps, some qs => .pr (conj (extra ++ (ps ++ qs)))
  | _, _ => .f
def retVC (P : Program) (fn : Func) (s : St) (K : St → SV → VC) : VC :=
  match resAll P s fn.results.toList with
  | some l => K s (resV l)
  | none => .f
def startSt (fn : Func) (ins : List SV) (bs : Option (TypeId × List SV)) : St := ⟨ins ++ List.replicate (fn.ntmps - ins.length) .un, bs.toList, []⟩
def knowIns : List SV → VC → VC
  | [], v => v
  | .int k n :: l, v => knowInt k n (knowIns l v)
  | .str s :: l, v => .imp (s.size ≤ 140737488351232) (knowIns l v)
  | .sl _ ds :: l, v => .imp (ds.length ≤ 140737488355328) (knowIns l v)
  | _ :: l, v => knowIns l v
theorem knowIns_ok {S : Nat → Prop} {E : Env} {w : World} : ∀ {l : List SV} {v : VC} {vs : List Value}, (knowIns l v).den → RelVs S E w l vs → v.den
  | [], _, _, h, _ => h
  | x :: l, v, _, h, ⟨u, vs', e, h1, h2⟩ => by
    unfold knowIns at h
    split at h
    · rename_i hx; cases hx
    · rename_i k n l' hx
      injection hx with hx1 hx2
      subst hx1; subst hx2
      exact knowIns_ok (knowInt_ok h h1.2) h2
    · rename_i b l' hx
      injection hx with hx1 hx2
      subst hx1; subst hx2
      exact knowIns_ok (h h1.2) h2
    · rename_i t ds l' hx
      injection hx with hx1 hx2
      subst hx1; subst hx2
      obtain ⟨ad, n, cap, ds', h3, h4, h5, h6, h7, _⟩ := h1
      simp at h4; subst h4
      exact knowIns_ok (h (by omega)) h2
    · rename_i hx
      injection hx with hx1 hx2
      subst hx2
      exact knowIns_ok h h2
def fnVC (P : Program) (ct : List (Con P)) (xt : List (XCon P)) (Kp : TypeId × Nat → VC) (L : Nat → Option LK) (fn : Func) (ins : List SV) (bs : Option (TypeId × List SV)) (K : St → SV → VC) : VC :=
  match fn.body with
  | some c => knowIns ins (runC P ct xt Kp L bs.isSome c (fun x s => match x with | .exit _ => .f | _ => retVC P fn s K) (startSt fn ins bs))
  | none => .f
def resF (tmps : Array Value) : ResultVar → Sem Value
  | .tmp t => pure (tmps.getD t undef)
  | .cell a t => do loadVar t (← asAddr (tmps.getD a undef))
theorem results_eq (fn : Func) (tmps : Array Value) : results fn tmps = (do
    let vs ← fn.results.mapM (resF tmps)
    pure (if h : vs.size = 1 then vs[0] else .tuple vs)) := by
  unfold results
  congr 1
theorem resOne_run {c : Ctx} {E : Env} {s : St} {a : Act} {w : World} (h : Inv c E s a w) {r : ResultVar} {x : SV} (hx : resOne P s r = some x) : ∃ v, (resF a.tmps r).run P w = .ok v w ∧ RelV (Reg c E s w) E w x v := by
  cases r with
  | tmp t =>
    simp [resOne] at hx; subst hx
    have := h.ev (.tmp t)
    simp only [St.ev, List.getD_eq_getElem?_getD] at this
    exact ⟨_, rfl, this⟩
  | cell t ty =>
    simp only [resOne] at hx
    split at hx
    · rename_i l hl
      obtain ⟨b, off, cs, hv, hc, hr⟩ := cellsAt_rel h hl trivial (h.ev (.tmp t))
      obtain ⟨v, h1, h2⟩ := takeAt_run hx hc hr
      refine ⟨v, ?_, h2⟩
      have hv : a.tmps.getD t undef = .pointer (some ⟨b, off, none⟩) := hv
      simp only [Instr.loadAt, Instr.sureAddr, Sem.run_bind, Sem.run_pure, Result.andThen_ok] at h1
      simp only [resF, hv, asAddr, Sem.run_bind, Sem.run_pure, Result.andThen_ok]
      exact h1
    · cases hx
theorem resAll_run {c : Ctx} {E : Env} {s : St} {a : Act} {w : World} (h : Inv c E s a w) : ∀ {rs : List ResultVar} {l : List SV}, resAll P s rs = some l → ∃ vs, (rs.mapM (resF a.tmps)).run P w = .ok vs w ∧ RelVs (Reg c E s w) E w l vs
  | [], l, hl => by
    simp [resAll] at hl; subst hl
    exact ⟨[], by simp, rfl⟩
  | r :: rs, l, hl => by
    unfold resAll at hl
    split at hl
    · rename_i x xs h1 h2
      simp at hl; subst hl
      obtain ⟨v, h3, h4⟩ := resOne_run h h1
      obtain ⟨vs, h5, h6⟩ := resAll_run h h2
      refine ⟨v :: vs, ?_, v, vs, rfl, h4, h6⟩
      rw [List.mapM_cons]
      simp only [Sem.run_bind, h3, h5, Result.andThen_ok, Sem.run_pure]
    · cases hl
theorem results_rel {c : Ctx} {E : Env} {s : St} {a : Act} {w : World} {fn : Func} (h : Inv c E s a w) {l : List SV} (hl : resAll P s fn.results.toList = some l) : ∃ v, (results fn a.tmps).run P w = .ok v w ∧ RelV (Reg c E s w) E w (resV l) v := by
  obtain ⟨vs, h1, h2⟩ := resAll_run h hl
  have hrun : (results fn a.tmps).run P w = .ok (if h : vs.toArray.size = 1 then vs.toArray[0] else .tuple vs.toArray) w := by
    rw [results_eq, Array.mapM_eq_mapM_toList]
    simp only [map_eq_pure_bind, Sem.run_bind, h1, Result.andThen_ok, Sem.run_pure]
  refine ⟨_, hrun, ?_⟩
  match l, vs, h2 with
  | [], vs, h2 =>
    rw [show vs = [] from h2]
    exact ⟨[], rfl, rfl⟩
  | [x], _, ⟨v, vs', e, h3, h4⟩ =>
    rw [show vs' = [] from h4] at e
    subst e
    exact h3
  | x :: y :: l, _, ⟨v, _, e, h3, v2, vs2, e2, h4, h5⟩ =>
    subst e2
    subst e
    rw [dif_neg (by simp)]
    exact ⟨_, rfl, v, _, rfl, h3, v2, vs2, rfl, h4, h5⟩
theorem reg_grow {c : Ctx} {E : Env} {s : St} {w : World} {S : Nat → Prop} {w0 : World} (hc : c.S0 = S) (hw : c.w0 = w0) (b : Nat) (hb : Reg c E s w b) : Grow S w0 w b := by
  subst hc; subst hw
  rcases hb.1 with h1 | h1
  · exact .inl h1
  · exact .inr ⟨h1, hb.2.1⟩
theorem freezeV_bx (s : St) (x : SV) : (freezeV s x).1.bx = s.bx := by
  unfold freezeV
  split
  · split
    · split
      · rfl
      · split <;> rfl
    · rfl
  · rfl
theorem fn_run {K0 : St → SV → VC} (hm : P.follows .mixedOrders = true) {f : FuncId} {fn : Func} (hf : P.funcs[f]? = some fn) {ins : List SV} {bs : Option (TypeId × List SV)} {S : Nat → Prop} {B : List Nat} {w : World} {vs : List Value}
    (hS : ∀ b, S b → b < w.heap.size) (hB : ∀ b ∈ B, ¬ S b) (hlen : B.length = bs.toList.length) (hbox : ∀ p, bs = some p → ∀ b ∈ B, BoxOk S E0 w p b) (hins : RelVs S ⟨B, []⟩ w ins vs) {R : Ending → World → Prop}
    (hK0 : ∀ s E (a : Act) w' x v, Inv ⟨w, S, (· ∈ B), B.head?⟩ E s a w' → RelV (Reg ⟨w, S, (· ∈ B), B.head?⟩ E s w') E w' x v → (K0 s x).den → R (.returned v) w')
    (hP : ∀ t, (Kp t).den → ∀ x w', Shp t.2 x → KeepBut (· ∈ B) w w' → R (.panicked [{ v := .iface t.1 x, recovered := false }]) w') (hv : (fnVC P ct xt Kp L fn ins bs K0).den) : Calls P f vs.toArray w R := by
  unfold fnVC at hv
  split at hv
  · rename_i code hcode
    refine calls_of_wp hf hcode ?_
    have hv := knowIns_ok hv hins
    have hB1 : B.length ≤ 1 := by rw [hlen]; cases bs <;> simp
    have hSR : ∀ b, S b → Reg ⟨w, S, (· ∈ B), B.head?⟩ ⟨B, []⟩ (startSt fn ins bs) w b := fun b hb => ⟨.inl hb, hS b hb, fun x hx => by
      cases x with
      | b j => exact hB b (List.mem_of_getElem? hx) hb
      | r j => simp [own, startSt] at hx⟩
    have h0 : Inv ⟨w, S, (· ∈ B), B.head?⟩ ⟨B, []⟩ (startSt fn ins bs) { tmps := vs.toArray ++ Array.replicate (fn.ntmps - vs.toArray.size) undef, defers := [] } w := by
      refine ⟨rfl, rfl, rfl, Nat.le_refl _, fun _ _ _ => rfl, rfl, ?_, hlen, rfl, ?_, ?_, ?_, ?_, ?_⟩
      · simp only [Array.toList_append, Array.toList_replicate, List.size_toArray]
        rw [hins.length]
        exact (hins.mono (fun _ _ => rfl) hSR (Env.le_refl _)).append (RelVs.replicate _ _)
      · intro j p b hp hb
        have hbs' : bs = some p := by
          cases bs with
          | none => simp [startSt] at hp
          | some q =>
            simp only [startSt, Option.toList_some] at hp
            cases j with
            | zero => simp at hp; rw [hp]
            | succ j => simp at hp
        exact (hbox p hbs' b (List.mem_of_getElem? hb)).mono (fun _ _ => rfl) hSR ⟨fun _ _ h => by simp [E0] at h, fun _ _ h => by simp [E0] at h⟩ rfl
      · intro j r v hr _
        simp [startSt] at hr
      · intro x y b hx hy
        cases x with
        | r j => simp [own, startSt] at hx
        | b j => cases y with
          | r k => simp [own, startSt] at hy
          | b k =>
            have h1 := (List.getElem?_eq_some_iff.1 (show B[j]? = some b from hx)).1
            have h2 := (List.getElem?_eq_some_iff.1 (show B[k]? = some b from hy)).1
            have : j = k := by omega
            rw [this]
      · intro x b hx
        cases x with
        | r j => simp [own, startSt] at hx
        | b j => exact .inl ⟨rfl, List.mem_of_getElem? (show B[j]? = some b from hx)⟩
      · intro b hb
        cases B with
        | nil => cases hb
        | cons x B => simpa using hb
    refine runC_ok (c := ⟨w, S, (· ∈ B), B.head?⟩) hm ?_ code _ _ ?_ (fun t ht x a w' hs hd hk => ⟨hd, hP t ht x w' hs hk⟩) (startSt fn ins bs) hv _ _ _ h0
    · cases B with
      | nil => cases bs <;> simp_all
      | cons x B => cases bs <;> simp_all
    · intro x s E a w' h hv
      have fin : (retVC P fn s K0).den → a.defers = [] ∧ ∃ v, (results fn a.tmps).run P w' = .ok v w' ∧ R (.returned v) w' := by
        intro hv
        unfold retVC at hv
        split at hv
        · rename_i l hl
          obtain ⟨v, h1, h2⟩ := results_rel h hl
          exact ⟨h.defers, v, h1, hK0 s E a w' _ v h h2 hv⟩
        · exact hv.elim
      cases x with
      | normal => exact fin hv
      | exit i => exact hv.elim
      | ret => exact fin hv
  · exact hv.elim
theorem fn_core {K0 : St → SV → VC} (hm : P.follows .mixedOrders = true) {f : FuncId} {fn : Func} (hf : P.funcs[f]? = some fn) {ins : List SV} {bs : Option (TypeId × List SV)} {G : Type} {post : G → Prop} {out : G → SV} {bs' : G → Option (TypeId × List SV)} (hbs : ∀ g, (bs' g).isSome = bs.isSome)
    (hK0 : ∀ s x, (K0 s x).den → ∃ g l, (post g ∨ l = [post g]) ∧ (outVC s x l (out g) (bs' g)).den) (hv : (fnVC P ct [] (fun _ => .f) L fn ins bs K0).den) : Fn P f ins bs G post out bs' := by
  intro S B w vs hS hB hlen hbox hins
  have hB1 : B.length ≤ 1 := by rw [hlen]; cases bs <;> simp
  refine fn_run hm hf hS hB hlen hbox hins ?_ ?hp hv
  case hp => exact fun _ h => False.elim h
  intro s E a w' x v h h2 hv
  obtain ⟨g, l, hl, hv⟩ := hK0 _ _ hv
  unfold outVC at hv
  split at hv
  · rename_i ps qs hps hqs
    have hall := conj_mem hv
    obtain ⟨hp0, hp1⟩ := all_append hall
    obtain ⟨hp1, hp2⟩ := all_append hp1
    have hpost : post g := by
      rcases hl with hl | rfl
      · exact hl
      · exact hp0 _ (List.mem_singleton.2 rfl)
    obtain ⟨h3, h4, h5⟩ := freezeS_ok h h2
    refine ⟨g, v, rfl, hpost, ⟨h.os, h.tape, h.output, h.size, h.old⟩, ?_, hbs g, ?_⟩
    · have h6 := eqSV_rel (E' := ⟨B, []⟩) (fun j i hj => by simp at hj) (fun j b hjb hj => by
        have hj1 : j < 1 := by
          split at hj
          · exact hj
          · omega
        obtain rfl : j = 0 := by omega
        have hB0 : 0 < B.length := by
          rw [hlen, Option.length_toList]
          cases hb' : bs' g with
          | none => rw [hb'] at hj; simp at hj
          | some q =>
            have := hbs g
            rw [hb'] at this
            cases bs with
            | none => cases this
            | some q => simp
        have h7 := h.lent (B[0]) (by simp [List.head?_eq_getElem?, hB0])
        rw [hjb] at h7
        simp at h7
        rw [List.getElem?_eq_getElem hB0, h7]) hps hp1 h5
      exact h6.mono (fun _ _ => rfl) (reg_grow rfl rfl) (Env.le_refl _)
    · intro q hq b hb
      rw [hq] at hqs
      unfold boxEq at hqs
      split at hqs
      · cases ‹some q = none›
      · rename_i q' p r hqq hsx
        simp at hqq; subst hqq
        cases hk : Nat.beq p.1 q.1 && q.2.all SV.one with
        | false => rw [hk] at hqs; cases hqs
        | true =>
          rw [hk] at hqs
          simp only [Bool.and_eq_true] at hk
          have hbh : B.head? = some b := by
            cases B with
            | nil => cases hb
            | cons x B =>
              have : B = [] := List.eq_nil_of_length_eq_zero (by simp at hB1; simpa using hB1)
              subst this
              simp at hb ⊢; exact hb.symm
          obtain ⟨cs, h7, h8, h9⟩ := h.bx 0 p b (by rw [hsx]; rfl) (h.lent b hbh)
          have h10 := eqSVs_rel (E' := E0) (fun j i hj => by simp at hj) (fun j b _ hj => by omega) hqs hp2 h8
          exact ⟨cs, by rw [← Nat.eq_of_beq_eq_true hk.1]; exact h7, h10.mono (fun _ _ => rfl) (reg_grow rfl rfl) (Env.le_refl _), hk.2⟩
      · cases hqs
  · exact hv.elim
/-- The box that is given. -/
def outB (s : St) (x : SV) (extra : List Prop) (q : TypeId × List SV) : VC :=
  match x with
  | .bp j 0 => match s.bx[j]? with
    | some p => bif Nat.beq p.1 q.1 && q.2.all SV.one then (match eqSVs 0 [] (fz s p.2).2 q.2 with
        | some ps => .pr (conj (extra ++ ps))
        | none => .f) else .f
    | none => .f
  | _ => .f
theorem fnB_ok (hm : P.follows .mixedOrders = true) {f : FuncId} {fn : Func} (hf : P.funcs[f]? = some fn) {ins : List SV} {G : Type} {q : G → Prop × (TypeId × List SV)}
    (hv : (fnVC P ct [] (fun _ => .f) L fn ins none (fun s x => .ex G fun g => outB s x [(q g).1] (q g).2)).den) : FnB P f ins G (fun g => (q g).1) (fun g => (q g).2) := by
  intro S w vs hS hins
  refine fn_run (B := []) hm hf hS (fun _ h => by cases h) rfl (fun _ h => by cases h) hins ?_ ?hp hv
  case hp => exact fun _ h => False.elim h
  rintro s E a w' x v h h2 ⟨g, hv0⟩
  have hv : (outB s x [(q g).1] (q g).2).den := hv0
  clear hv0
  unfold outB at hv
  split at hv
  · rename_i j
    split at hv
    · rename_i p hp
      cases hk : Nat.beq p.1 (q g).2.1 && (q g).2.2.all SV.one with
      | false => rw [hk] at hv; exact hv.elim
      | true =>
        rw [hk] at hv
        simp only [cond_true] at hv
        simp only [Bool.and_eq_true] at hk
        split at hv
        · rename_i ps hps
          obtain ⟨hp0, hp1⟩ := all_append (conj_mem hv)
          obtain ⟨b, hb, rfl⟩ := h2
          obtain ⟨cs, h7, h8, h9⟩ := h.bx j p b hp hb
          obtain ⟨h3, h4, h5⟩ := fz_ok h h8
          have h10 := eqSVs_rel (E' := E0) (fun j i hj => by simp at hj) (fun j b _ hj => by omega) hps hp1 h5
          have hown : own E (fz s p.2).1 (.b j) = some b := hb
          have hge : w.heap.size ≤ b := by
            rcases h3.new _ b hown with ⟨_, hM⟩ | hge
            · cases hM
            · exact hge
          refine ⟨g, b, rfl, hp0 _ (List.mem_singleton.2 rfl), ⟨h.os, h.tape, h.output, h.size, h.old⟩, hge, cs, by rw [← Nat.eq_of_beq_eq_true hk.1]; exact h7, ?_, hk.2⟩
          exact h10.mono (fun _ _ => rfl) (fun b0 hb0 => ⟨reg_grow rfl rfl b0 hb0, fun e => hb0.2.2 (.b j) (by rw [e]; exact hown)⟩) (Env.le_refl _)
        · exact hv.elim
    · exact hv.elim
  · exact hv.elim
theorem fn_ok (hm : P.follows .mixedOrders = true) {f : FuncId} {fn : Func} (hf : P.funcs[f]? = some fn) {ins : List SV} {bs : Option (TypeId × List SV)} {G : Type} {q : G → Prop × SV × Option (TypeId × List SV)} (hbs : ∀ g, (q g).2.2.isSome = bs.isSome)
    (hv : (fnVC P ct [] (fun _ => .f) L fn ins bs (fun s x => .ex G fun g => outVC s x [(q g).1] (q g).2.1 (q g).2.2)).den) : Fn P f ins bs G (fun g => (q g).1) (fun g => (q g).2.1) (fun g => (q g).2.2) :=
  fn_core (K0 := fun s x => .ex G fun g => outVC s x [(q g).1] (q g).2.1 (q g).2.2) hm hf hbs (fun _ _ ⟨g, h⟩ => ⟨g, _, .inr rfl, h⟩) hv
/-- A contract that tells the value outright. -/
theorem fn_ok0 (hm : P.follows .mixedOrders = true) {f : FuncId} {fn : Func} (hf : P.funcs[f]? = some fn) {ins : List SV} {bs : Option (TypeId × List SV)} {out : SV} {bs' : Option (TypeId × List SV)} (hbs : bs'.isSome = bs.isSome)
    (hv : (fnVC P ct [] (fun _ => .f) L fn ins bs (fun s x => outVC s x [] out bs')).den) : Fn P f ins bs Unit (fun _ => True) (fun _ => out) (fun _ => bs') :=
  fn_core (K0 := fun s x => outVC s x [] out bs') hm hf (fun _ => hbs) (fun _ _ h => ⟨(), [], .inl trivial, h⟩) hv
/-- A contract that tells of a panic. -/
theorem fnX_ok (hm : P.follows .mixedOrders = true) {f : FuncId} {fn : Func} (hf : P.funcs[f]? = some fn) {ins : List SV} {bs : Option (TypeId × List SV)} {t : TypeId × Nat}
    (hv : (fnVC P ct xt (fun t' => bif Nat.beq t'.1 t.1 && Nat.beq t'.2 t.2 then .t else .f) L fn ins bs (fun _ _ => .f)).den) : FnX P f ins bs t := by
  intro S B w vs hS hB hlen hbox hins
  refine fn_run hm hf hS hB hlen hbox hins ?hp ?_ hv
  case hp => exact fun _ _ _ _ _ _ _ _ h => False.elim h
  intro t' ht x w' hs hk
  cases hb : Nat.beq t'.1 t.1 && Nat.beq t'.2 t.2 with
  | false => simp only [hb] at ht; exact ht.elim
  | true =>
    rw [Bool.and_eq_true] at hb
    have h1 := Nat.eq_of_beq_eq_true hb.1
    have h2 := Nat.eq_of_beq_eq_true hb.2
    rw [h1]; rw [h2] at hs
    exact ⟨x, hs, rfl, hk⟩
end
end E
end Go.Proofs.YtbjapgekagljeaaDoor
