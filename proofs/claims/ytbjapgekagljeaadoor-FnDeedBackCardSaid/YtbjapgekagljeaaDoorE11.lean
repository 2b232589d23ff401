/- Each operation by one function; a region in the order of its text. No program in sight. -/
import Derived.Test.YtbjapgekagljeaaDoorE10
namespace Go.Proofs.YtbjapgekagljeaaDoor
open Go Go.RowKit
namespace E
section
variable {P : Program} {ct : List (Con P)} {o : Oper} {s : St}
/-! ### a cut of a slice that was still written to -/
theorem leads_cut {t : TypeId} {x : Operand} {low high mx : Option Operand} (ho : o.op = .slice t x low high mx) :
    Leads P o s (fun K => match sliceR P (freezeV s (s.ev x)).1 t (s.ev x) (low.map s.ev) (high.map s.ev) (mx.map s.ev) with
      | some (some p, y) => .ob p (K ((freezeV s (s.ev x)).1.put o.dst y))
      | _ => .f) := by
  intro K hv c E a w h Q
  simp only at hv
  split at hv
  · rename_i p y hr
    obtain ⟨h2, _, _⟩ := freezeV_ok h (h.ev x)
    have hfr := freezeV_fr s (s.ev x)
    generalize (freezeV s (s.ev x)).1 = s2 at *
    have hev : ∀ y, s2.ev y = s.ev y := fun y => by cases y <;> simp [St.ev, hfr]
    have hmap : ∀ y : Option Operand, y.map s2.ev = y.map s.ev := fun y => by cases y <;> simp [hev]
    have hg := gives_slice (P := P) (o := o) (s := s2) ho
    rw [hev, hmap, hmap, hmap] at hg
    obtain ⟨v, h5, h6⟩ := hg _ _ hr hv.1 c E a w h2
    unfold Oper.wp
    rw [h5, Oper.upon_value]
    exact ⟨_, E, h2.put o.dst h6, hv.2⟩
  · exact hv.elim
def step (P : Program) (ct : List (Con P)) (o : Oper) (s : St) (K : St → VC) : VC :=
  match opVal P s o.op with
  | some (none, x) => know o.op x (K (s.put o.dst x))
  | some (some p, x) => .ob p (know o.op x (K (s.put o.dst x)))
  | none => match o.op with
    | .box t x => match (s.ev x).cells with
      | some l => boxVC s t l o.dst K
      | none => .f
    | .alloc t => match (P.info? t).bind (·.zero) with
      | some z => boxVC s t (z.cells.toList.map ofLeaf) o.dst K
      | none => .f
    | .store t x y => storeVC P s t (s.ev x) (s.ev y) o.dst K
    | .buildSlice t n parts => litVC P s t n parts o.dst K
    | .makeSlice t l m => makeVC P s t (s.ev l) (s.ev m) o.dst K
    | .convert src dst x => match bytesR P s src dst (s.ev x) with
      | some (some p, y) => .ob p (K (s.put o.dst y))
      | _ => .f
    | .slice t x low high mx => match sliceR P (freezeV s (s.ev x)).1 t (s.ev x) (low.map s.ev) (high.map s.ev) (mx.map s.ev) with
      | some (some p, y) => .ob p (K ((freezeV s (s.ev x)).1.put o.dst y))
      | _ => .f
    | .call { callee := .builtin .append, args := ⟨[x, y]⟩, argTypes := ⟨[t, u]⟩ } => bif Nat.beq t u then appVC P s t (s.ev x) (s.ev y) o.dst K else .f
    | .call { callee := .value x, args := args, .. } => match s.ev x with
      | .fn f caps => callVC ct s f (args.toList.map s.ev ++ caps) o.dst K
      | .bf f pre => callVC ct s f (pre ++ (args.toList.map s.ev ++ [])) o.dst K
      | _ => .f
    | _ => .f
theorem leads_step : Leads P o s (step P ct o s) := by
  intro K hv c E a w h Q
  unfold step at hv
  split at hv
  · rename_i x hx
    exact leads_val hx K hv c E a w h Q
  · rename_i p x hx
    exact leads_val hx K hv c E a w h Q
  · split at hv
    · rename_i ho; exact leads_box ho K hv c E a w h Q
    · rename_i ho; exact leads_alloc ho K hv c E a w h Q
    · rename_i ho; exact leads_store ho K hv c E a w h Q
    · rename_i ho; exact leads_lit ho K hv c E a w h Q
    · rename_i ho; exact leads_make ho K hv c E a w h Q
    · rename_i ho
      split at hv
      · rename_i p y hr
        obtain ⟨v, h5, h6⟩ := gives_bytes ho _ _ hr hv.1 c E a w h
        unfold Oper.wp
        rw [h5, Oper.upon_value]
        exact ⟨_, E, h.put o.dst h6, hv.2⟩
      · exact hv.elim
    · rename_i ho; exact leads_cut ho K hv c E a w h Q
    · rename_i t u ho
      cases hb : Nat.beq t u with
      | false => rw [hb] at hv; exact hv.elim
      | true =>
        rw [hb] at hv
        have : t = u := Nat.eq_of_beq_eq_true hb
        subst this
        exact leads_app ho K hv c E a w h Q
    · rename_i x args ts ho
      split at hv
      · rename_i f caps hx
        exact leads_call (ts := ts) (pre := []) ho (.inl ⟨hx, rfl⟩) K hv c E a w h Q
      · rename_i f pre hx
        exact leads_call (ts := ts) (caps := []) ho (.inr ⟨hx, rfl⟩) K hv c E a w h Q
      · exact hv.elim
    · exact hv.elim
end
/-! ### a region in the order of its text -/
def litB (b : Bool) : SV := match b with | true => .tt | false => .ff
def exL (P : Program) (ct : List (Con P)) (ops : Array Oper) : List Oper → St → (St → VC) → VC
  | [], s, K => K s
  | o :: r, s, K => match o.guard with
    | none => step P ct o s (fun s' => exL P ct ops r s' K)
    | some (j, want) => match (ops[j]?).bind (·.dst) with
      | none => .f
      | some d => match s.fr[d]? with
        | some .tt => bif want then step P ct o s (fun s' => exL P ct ops r s' K) else exL P ct ops r (s.put o.dst (.tup [])) K
        | some .ff => bif want then exL P ct ops r (s.put o.dst (.tup [])) K else step P ct o s (fun s' => exL P ct ops r s' K)
        | some (.bool b) => .and (.imp (b = want) (step P ct o (s.put (some d) (litB want)) (fun s' => exL P ct ops r s' K)))
            (.imp (b = !want) (exL P ct ops r ((s.put (some d) (litB (!want))).put o.dst (.tup [])) K))
        | some (.tup []) => exL P ct ops r (s.put o.dst (.tup [])) K
        | _ => .f
theorem RelVs.set_left {S : Nat → Prop} {E : Env} {w : World} : ∀ {l : List SV} {vs : List Value}, RelVs S E w l vs → ∀ (i : Nat) {x : SV}, (∀ v, vs[i]? = some v → RelV S E w x v) → RelVs S E w (l.set i x) vs
  | [], _, h, _, _, _ => h
  | _ :: _, _, ⟨u, vs', h1, h2, h3⟩, 0, _, hx => by subst h1; exact ⟨u, vs', rfl, hx u rfl, h3⟩
  | _ :: _, _, ⟨u, vs', h1, h2, h3⟩, i + 1, _, hx => by subst h1; exact ⟨u, vs', rfl, h2, h3.set_left i (fun v hv => hx v (by simpa using hv))⟩
theorem litB_rel {S : Nat → Prop} {E : Env} {w : World} {b : Bool} : RelV S E w (litB b) (.bool b) := by cases b <;> exact rfl
theorem Inv.relit {c : Ctx} {E : Env} {s : St} {a : Act} {w : World} (h : Inv c E s a w) {d : Nat} {b : Bool} (hb : s.fr[d]? = some (.bool b)) : Inv c E (s.put (some d) (litB b)) a w ∧ a.tmps[d]? = some (.bool b) := by
  obtain ⟨v, hv, hr⟩ := h.fr.get hb
  have hr : v = .bool b := hr
  subst hr
  refine ⟨?_, by simpa using hv⟩
  exact ⟨h.os, h.tape, h.output, h.size, h.old, h.defers, h.fr.set_left d (fun u hu => by rw [hv] at hu; simp at hu; subst hu; exact litB_rel), h.nbx, h.nrw, h.bx, h.rw, h.inj, h.new, h.lent⟩
theorem Inv.known {c : Ctx} {E : Env} {s : St} {a : Act} {w : World} (h : Inv c E s a w) {d : Nat} {b : Bool} (hb : s.fr[d]? = some (litB b)) : a.tmps[d]? = some (.bool b) := by
  obtain ⟨v, hv, hr⟩ := h.fr.get hb
  have hr : v = .bool b := by cases b <;> exact hr
  subst hr
  simpa using hv
theorem wanted_of {ops : Array Oper} {o : Oper} {a : Act} {j d : Nat} {want b : Bool} (hg : o.guard = some (j, want)) (hd : (ops[j]?).bind (·.dst) = some d) (ht : a.tmps[d]? = some (.bool b)) : Region.wanted o (yielded ops a.tmps) = (b == want) := by
  simp only [Region.wanted, hg, yielded, hd, Option.bind_some, ht]
  cases b <;> cases want <;> rfl
theorem undef_rel {S : Nat → Prop} {E : Env} {w : World} : RelV S E w (.tup []) undef := ⟨[], rfl, rfl⟩
theorem wanted_undef {ops : Array Oper} {o : Oper} {j d : Nat} {want : Bool} {c : Ctx} {E : Env} {s : St} {a : Act} {w : World} (hg : o.guard = some (j, want)) (hd : (ops[j]?).bind (·.dst) = some d) (h : Inv c E s a w) (hs : s.fr[d]? = some (.tup [])) : Region.wanted o (yielded ops a.tmps) = false := by
  obtain ⟨v, hv, vs, h1, h2⟩ := h.fr.get hs
  have h2 : vs = [] := h2
  subst h2
  have hv : a.tmps[d]? = some v := by simpa using hv
  simp only [Region.wanted, hg, yielded, hd, Option.bind_some, hv, h1]
  cases want <;> rfl
theorem exL_ok {P : Program} {ct : List (Con P)} {ops : Array Oper} {Q : Exit → Act → World → Prop} {K : St → VC} {c : Ctx} (hK : ∀ s E a w, Inv c E s a w → (K s).den → Q .normal a w) :
    ∀ (l : List Oper) (s : St), (exL P ct ops l s K).den → ∀ E a w, Inv c E s a w → wpList P ops Q l a w
  | [], s, hv, E, a, w, h => hK s E a w h hv
  | o :: r, s, hv, E, a, w, h => by
    have go : ∀ s, (step P ct o s (fun s' => exL P ct ops r s' K)).den → Inv c E s a w → Region.wanted o (yielded ops a.tmps) = true → wpList P ops Q (o :: r) a w := by
      intro s hv h hw
      unfold wpList
      rw [if_pos hw]
      left
      exact Oper.wp_mono (fun a' w' ⟨s', E', h1, h2⟩ => exL_ok hK r s' h2 E' a' w' h1) (leads_step _ hv c E a w h Q)
    have skip : ∀ s, (exL P ct ops r (s.put o.dst (.tup [])) K).den → Inv c E s a w → Region.wanted o (yielded ops a.tmps) = false → wpList P ops Q (o :: r) a w := by
      intro s hv h hw
      unfold wpList
      rw [if_neg (by rw [hw]; simp)]
      exact exL_ok hK r _ hv E _ w (h.put o.dst (x := .tup []) undef_rel)
    unfold exL at hv
    split at hv
    · rename_i hg
      exact go s hv h (by simp [Region.wanted, hg])
    · rename_i j want hg
      split at hv
      · exact hv.elim
      · rename_i d hd
        split at hv
        · rename_i hx
          have hw := wanted_of hg hd (h.known (b := true) hx)
          cases want
          · exact skip s hv h hw
          · exact go s hv h hw
        · rename_i hx
          have hw := wanted_of hg hd (h.known (b := false) hx)
          cases want
          · exact go s hv h hw
          · exact skip s hv h hw
        · rename_i b hx
          obtain ⟨h1, h2⟩ := h.relit hx
          have hw := wanted_of hg hd h2
          obtain ⟨hv1, hv2⟩ := hv
          by_cases hbw : b = want
          · subst hbw
            exact go _ (hv1 rfl) h1 (by rw [hw]; simp)
          · have hbw : b = !want := by cases b <;> cases want <;> simp_all
            subst hbw
            exact skip _ (hv2 rfl) h1 (by rw [hw]; cases want <;> rfl)
        · rename_i hx
          exact skip s hv h (wanted_undef hg hd h hx)
        · exact hv.elim
end E
end Go.Proofs.YtbjapgekagljeaaDoor
