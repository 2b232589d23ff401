/- Regions whose order is open and that hold calls: the calls come in their one order, the rest hang on no box. No program in sight. -/
import Derived.Test.YtbjapgekagljeaaDoorEM
namespace Go.Proofs.YtbjapgekagljeaaDoor
open Go Go.RowKit
namespace E
/-! ### the canonical order -/
def depF (ops : Array Oper) : Nat → Nat → Nat → Bool
  | 0, _, _ => false
  | n + 1, i, j => Nat.beq i j || match ops[i]? with
    | some o => (edges o).any (fun k => Nat.ble j k && depF ops n k j)
    | none => false
def isEff (o : Oper) : Bool := match o.op with
  | .call { callee := .value _, .. } => true
  | .store .. => true
  | _ => false
def isEffAt (ops : Array Oper) (i : Nat) : Bool := match ops[i]? with
  | some o => isEff o
  | none => false
def permF (ops : Array Oper) : Nat → List Nat → List Nat
  | 0, l => l
  | n + 1, l => match l.find? (isEffAt ops) with
    | none => l
    | some h => let early := l.filter (fun i => !isEffAt ops i && !depF ops ops.size i h)
      early ++ h :: permF ops n (l.filter (fun i => !has early i && !Nat.beq i h))
/-- Behind a call stands only what hangs on it; what an operation hangs on stands before it. -/
def permOk (ops : Array Oper) : List Nat → List Nat → Bool
  | _, [] => true
  | seen, i :: r => match ops[i]? with
    | none => false
    | some o => (edges o).all (has seen) && !has seen i && (bif isEff o then r.all (fun k => depF ops ops.size k i) else true) && permOk ops (i :: seen) r
def allIn (l : List Nat) : Nat → Bool
  | 0 => true
  | n + 1 => has l n && allIn l n
def effOk (ops : Array Oper) (perm : List Nat) : Bool := drawOk ops && permOk ops [] perm && allIn perm ops.size && ops.toList.all (fun o => o.guard.isNone)
theorem depF_listed {ops : Array Oper} {listed : Nat → Bool} (hc : ∀ i o, listed i = true → ops[i]? = some o → ∀ j ∈ edges o, listed j = true) : ∀ (n i j : Nat) (o : Oper), ops[i]? = some o → (∀ k ∈ edges o, listed k = true) → i ≠ j → depF ops n i j = true → listed j = true
  | 0, _, _, _, _, _, _, h => by cases h
  | n + 1, i, j, o, ho, he, hij, h => by
    unfold depF at h
    rw [ho] at h
    simp only [Bool.or_eq_true] at h
    rcases h with h | h
    · exact absurd (Nat.eq_of_beq_eq_true h) hij
    · obtain ⟨k, hk, h2⟩ := List.any_eq_true.1 h
      simp only [Bool.and_eq_true] at h2
      by_cases e : k = j
      · rw [← e]; exact he k hk
      · have hlk := he k hk
        cases hko : ops[k]? with
        | none =>
          have h3 := h2.2
          cases n with
          | zero => cases h3
          | succ n =>
            unfold depF at h3
            rw [hko] at h3
            simp only [Bool.or_false] at h3
            exact absurd (Nat.eq_of_beq_eq_true h3) e
        | some o' => exact depF_listed hc n k j o' hko (hc k o' hlk hko) e h2.2
/-! ### the formula -/
def effVC {P : Program} (ct : List (Con P)) (s : St) (o : Oper) (K : SV → List (TypeId × List SV) → VC) : VC :=
  match o.op with
  | .call { callee := .value x, args := args, .. } => match s.ev x with
    | .fn f caps => match lend (args.toList.map s.ev ++ caps) with
      | some (none, r) => callBy ct f r none (fun out bs' => match bs' with
        | none => K out s.bx
        | some _ => .f) (fun _ => .f)
      | some (some j, r) => match s.bx[j]? with
        | some p => bif plains p.2 then callBy ct f r (some p) (fun out bs' => match bs' with
            | some p' => K (relend j out) (s.bx.set j p')
            | none => .f) (fun _ => .f)
          else .f
        | none => .f
      | none => .f
    | _ => .f
  | .store t x y => match s.ev x with
    | .bp j off => match s.bx[j]?, (s.ev y).cells, (P.info? t).map (·.size) with
      | some p, some l, some n => bif (Nat.beq l.length n && Nat.ble (off + n) p.2.length) && l.all SV.one then K .un (s.bx.set j (p.1, putAll p.2 off l)) else .f
      | _, _, _ => .f
    | _ => .f
  | _ => .f
def exE (P : Program) (ct : List (Con P)) (ops : Array Oper) : List Nat → St → (St → VC) → VC
  | [], s, K => K s
  | i :: r, s, K => match ops[i]? with
    | none => .f
    | some o => bif isEff o then effVC ct { s with fr := view [] (looks ops o) s.fr 0 } o (fun out bx' => exE P ct ops r ({ s with bx := bx' }.put o.dst out) K)
      else match uni P ct { s with fr := view [] (looks ops o) s.fr 0, bx := [] } o.op with
        | some (none, x) => exE P ct ops r (s.put o.dst x) K
        | some (some p, x) => .ob p (exE P ct ops r (s.put o.dst x) K)
        | none => .f
/-! ### operations that look at no box -/
theorem cellsAt_bx {s : St} {b : List (TypeId × List SV)} {x : SV} {y : Option Prop × List SV} (h : cellsAt { s with bx := [] } x = some y) : cellsAt { s with bx := b } x = some y := by
  cases x <;> first | exact h | (simp [cellsAt] at h; done)
def isLoad : Op → Bool
  | .load _ _ => true
  | _ => false
theorem opVal_bx {P : Program} {s : St} {b : List (TypeId × List SV)} {op : Op} (hl : isLoad op = false) : opVal P { s with bx := b } op = opVal P { s with bx := [] } op := by
  cases op with
  | load t x => cases hl
  | call c =>
    obtain ⟨callee, ⟨args⟩, ⟨tys⟩⟩ := c
    cases callee with
    | builtin b =>
      cases b <;> first
        | rfl
        | (match args, tys with
          | [], _ => rfl
          | [_], [] => rfl
          | [_], [_] => rfl
          | [_], _ :: _ :: _ => rfl
          | [_, _], _ => rfl
          | _ :: _ :: _ :: _, _ => rfl)
    | _ => rfl
  | _ => rfl
theorem uni_bx {P : Program} {ct : List (Con P)} {s : St} {b : List (TypeId × List SV)} {op : Op} {q : Option Prop × SV} (h : uni P ct { s with bx := [] } op = some q) : uni P ct { s with bx := b } op = some q := by
  cases hl : isLoad op with
  | true =>
    cases op with
    | load t x =>
      have h : (match loadR P { s with bx := [] } t (s.ev x) with | some r => some r | none => none) = some q := h
      show (match loadR P { s with bx := b } t (s.ev x) with | some r => some r | none => none) = some q
      unfold loadR at h ⊢
      cases hc : cellsAt { s with bx := [] } (s.ev x) with
      | none => rw [hc] at h; cases h
      | some y => rw [hc] at h; rw [cellsAt_bx hc]; exact h
    | _ => cases hl
  | false =>
    rw [← h]
    unfold uni
    rw [opVal_bx hl]
    split
    · rfl
    · split <;> rfl
/-! ### what the formula says of the operations -/
section
variable {P : Program} {ct : List (Con P)} {ops : Array Oper} {s0 : St}
def RunZ (P : Program) (ops : Array Oper) (s0 : St) (zs : List SV) (o : Oper) (x : SV) : Prop :=
  ∀ s' : St, s'.fr.length = s0.fr.length → s'.rw = s0.rw → (∀ t ∈ looks ops o, s'.fr[t]? = (frL ops.toList zs (fun _ => true) s0.fr)[t]?) → ∀ c E a w, Inv c E s' a w → ∀ (K : Act → World → Prop) Q,
    (∀ v w', Inv c E s' a w' → RelV (Reg c E s' w') E w' x v → K (a.put o.dst v) w') → o.wp P a w K Q
def EffZ (P : Program) (ops : Array Oper) (s0 : St) (zs : List SV) (o : Oper) (bx : List (TypeId × List SV)) (Post : SV → List (TypeId × List SV) → Prop) : Prop :=
  ∀ s' : St, s'.fr.length = s0.fr.length → s'.bx = bx → s'.rw = s0.rw → (∀ t ∈ looks ops o, s'.fr[t]? = (frL ops.toList zs (fun _ => true) s0.fr)[t]?) → ∀ c E a w, Inv c E s' a w → ∀ (K : Act → World → Prop) Q,
    (∀ out bx' v w', Post out bx' → Inv c E { s' with bx := bx' } a w' → RelV (Reg c E { s' with bx := bx' } w') E w' out v → K (a.put o.dst v) w') → o.wp P a w K Q
def CertE (P : Program) (ops : Array Oper) (s0 : St) (F : List SV → List (TypeId × List SV) → Prop) : List Nat → List SV → List (TypeId × List SV) → Prop
  | [], zs, bx => F zs bx
  | i :: r, zs, bx => ∃ o, ops[i]? = some o ∧ ((isEff o = true ∧ ∃ Post, EffZ P ops s0 zs o bx Post ∧ ∀ out bx', Post out bx' → CertE P ops s0 F r (zs.set i out) bx') ∨ (isEff o = false ∧ ∃ x, RunZ P ops s0 zs o x ∧ CertE P ops s0 F r (zs.set i x) bx))
theorem view_inv {c : Ctx} {E : Env} {s' : St} {a : Act} {w : World} {ts : List Nat} (h : Inv c E s' a w) : Inv c E { s' with fr := view [] ts s'.fr 0 } a w :=
  ⟨h.os, h.tape, h.output, h.size, h.old, h.defers, view_rel 0 (fun i b' b h1 _ _ => by simp [decOf] at h1) h.fr, h.nbx, h.nrw, h.bx, h.rw, h.inj, h.new, h.lent⟩
theorem runZ_of {zs : List SV} {s : St} {o : Oper} {q : Option Prop} {x : SV} (hln : s.fr.length = s0.fr.length) (hrw : s.rw = s0.rw) (hag : ∀ t ∈ looks ops o, s.fr[t]? = (frL ops.toList zs (fun _ => true) s0.fr)[t]?)
    (hu : uni P ct { s with fr := view [] (looks ops o) s.fr 0, bx := [] } o.op = some (q, x)) (hm : met q) : RunZ P ops s0 zs o x := by
  intro s' hln' hrw' hag' c E a w h K Q hK
  have hv : view [] (looks ops o) s'.fr 0 = view [] (looks ops o) s.fr 0 := view_agree 0 (by omega) (fun i hi => by
    have hi := has_mem (by rw [Nat.zero_add] at hi; exact hi)
    rw [hag' i hi, hag i hi])
  have hu2 : uni P ct { s' with fr := view [] (looks ops o) s'.fr 0 } o.op = some (q, x) := by
    have : ({ s with fr := view [] (looks ops o) s.fr 0, bx := [] } : St) = { ({ s' with fr := view [] (looks ops o) s'.fr 0 } : St) with bx := [] } := by rw [hv, hrw, ← hrw']
    rw [this] at hu
    exact uni_bx (b := s'.bx) hu
  refine uni_ok q x hu2 hm c E a w (view_inv h) K Q (fun v w' hk hr => hK v w' (h.call0 hk) ?_)
  exact hr.mono (fun _ _ => rfl) (fun b hb => grow_le h hk (s' := s') rfl b hb) E.le_refl
theorem effZ_of {zs : List SV} {s : St} {o : Oper} {K : SV → List (TypeId × List SV) → VC} (hln : s.fr.length = s0.fr.length) (hrw : s.rw = s0.rw) (hag : ∀ t ∈ looks ops o, s.fr[t]? = (frL ops.toList zs (fun _ => true) s0.fr)[t]?)
    (hv : (effVC ct { s with fr := view [] (looks ops o) s.fr 0 } o K).den) : ∃ Post, EffZ P ops s0 zs o s.bx Post ∧ ∀ out bx', Post out bx' → (K out bx').den := by
  have same : ∀ s' : St, s'.fr.length = s0.fr.length → s'.bx = s.bx → s'.rw = s0.rw → (∀ t ∈ looks ops o, s'.fr[t]? = (frL ops.toList zs (fun _ => true) s0.fr)[t]?) → ({ s' with fr := view [] (looks ops o) s'.fr 0 } : St) = { s with fr := view [] (looks ops o) s.fr 0 } := by
    intro s' h1 h2 h3 h4
    have hv : view [] (looks ops o) s'.fr 0 = view [] (looks ops o) s.fr 0 := view_agree 0 (by omega) (fun i hi => by
      have hi := has_mem (by rw [Nat.zero_add] at hi; exact hi)
      rw [h4 i hi, hag i hi])
    rw [hv, h2, h3, ← hrw]
  unfold effVC at hv
  split at hv
  · rename_i x args ts ho
    split at hv
    · rename_i f caps hx
      have hrun : ∀ (s' : St) c E a w, ({ s' with fr := view [] (looks ops o) s'.fr 0 } : St) = { s with fr := view [] (looks ops o) s.fr 0 } → Inv c E s' a w → ∃ vs, RelVs (Reg c E s' w) E w (args.toList.map ({ s with fr := view [] (looks ops o) s.fr 0 } : St).ev ++ caps) vs ∧ (Enters P f → (execOp a.eval o).run P w = .ok (.enter f vs.toArray) w) := by
        intro s' c E a w he h
        have h0 := view_inv (ts := looks ops o) h
        rw [he] at h0
        have h1 := h0.ev x
        rw [hx] at h1
        obtain ⟨cs, hxv, hcs⟩ := h1
        have hreg : Reg c E ({ s with fr := view [] (looks ops o) s.fr 0 } : St) w = Reg c E s' w := by rw [← he]; rfl
        refine ⟨args.toList.map a.eval ++ cs, ?_, fun hen => ?_⟩
        · rw [← hreg]
          exact (evs_rel h0 _).append hcs
        · unfold execOp; rw [ho]
          simp only [resolve, hxv, Deferred.ofValue, pure_bind, invoke]
          have : (#[] ++ Array.map a.eval args ++ cs.toArray) = (args.toList.map a.eval ++ cs).toArray := by
            apply Array.toList_inj.1; simp
          rw [this]
          exact hen _ w
      split at hv
      · rename_i r hr
        obtain ⟨he, ⟨G, post, out, bs', hf, hK⟩ | ⟨_, G, post, bx, hf, hK⟩⟩ := callBy_ok hv
        · refine ⟨fun o' b' => ∃ g, post g ∧ o' = out g ∧ bs' g = none ∧ b' = s.bx, ?_, ?_⟩
          · intro s' h1 h2 h3 h4 c E a w h K0 Q hK0
            obtain ⟨vs, h5, h6⟩ := hrun s' c E a w (same s' h1 h2 h3 h4) h
            unfold Oper.wp
            rw [h6 he, Oper.upon_enter]
            refine (hf (Reg c E s' w) [] w _ (fun b hb => hb.2.1) (by simp) rfl (by simp) (lend_rel hr h5 [] (fun j hj => by cases hj))).mono ?_
            rintro e w' ⟨g, v, rfl, hp, hk, hv', hb1, _⟩
            have hbn : bs' g = none := by
              cases hb : bs' g with
              | none => rfl
              | some p => rw [hb] at hb1; cases hb1
            refine hK0 (out g) s.bx v w' ⟨g, hp, rfl, hbn, rfl⟩ ?_ ?_
            · rw [← h2]; exact h.call0 hk
            · rw [← h2]
              exact hv'.mono (fun _ _ => rfl) (grow_le h hk rfl) ⟨fun _ _ h => by simp at h, fun _ _ h => by simp at h⟩
          · rintro o' b' ⟨g, hp, rfl, hb, rfl⟩
            have := hK g hp
            rw [hb] at this
            exact this
        · refine ⟨fun _ _ => False, ?_, fun _ _ h => h.elim⟩
          intro s' h1 h2 h3 h4 c E a w h K0 Q hK0
          obtain ⟨vs, h5, h6⟩ := hrun s' c E a w (same s' h1 h2 h3 h4) h
          unfold Oper.wp
          rw [h6 he, Oper.upon_enter]
          refine (hf (Reg c E s' w) w _ (fun b hb => hb.2.1) (lend_rel hr h5 [] (fun j hj => by cases hj))).mono ?_
          rintro e w' ⟨g, b, rfl, hp, _⟩
          exact (hK g hp).elim
      · rename_i j r hr
        split at hv
        · rename_i p hp
          have hp : s.bx[j]? = some p := hp
          cases hpl : plains p.2 with
          | false => rw [hpl] at hv; exact hv.elim
          | true =>
            rw [hpl] at hv
            simp only [cond_true] at hv
            obtain ⟨he, ⟨G, post, out, bs', hf, hK⟩ | ⟨hno, _⟩⟩ := callBy_ok hv
            case inr => cases hno
            refine ⟨fun o' b' => ∃ g p', post g ∧ o' = relend j (out g) ∧ bs' g = some p' ∧ b' = s.bx.set j p', ?_, ?_⟩
            · intro s' h1 h2 h3 h4 c E a w h K0 Q hK0
              obtain ⟨vs, h5, h6⟩ := hrun s' c E a w (same s' h1 h2 h3 h4) h
              unfold Oper.wp
              rw [h6 he, Oper.upon_enter]
              have hp2 : s'.bx[j]? = some p := by rw [h2]; exact hp
              have hj : j < E.bx.length := by rw [h.nbx]; exact (List.getElem?_eq_some_iff.1 hp2).1
              obtain ⟨b, hb⟩ : ∃ b, E.bx[j]? = some b := ⟨_, List.getElem?_eq_getElem hj⟩
              have hbox := h.bx j p b hp2 hb
              have hbox0 : BoxOk (Reg c E s' w) E0 w p b := by
                obtain ⟨cs', h6, h7, h8⟩ := hbox
                exact ⟨cs', h6, plains_rel hpl h7, h8⟩
              refine (hf (Reg c E s' w) [b] w _ (fun b hb => hb.2.1) (fun b' hb' hS => by simp at hb'; subst hb'; exact hS.2.2 (.b j) hb) rfl (fun p' hp' b' hb' => by simp at hp' hb'; subst hp'; subst hb'; exact hbox0) (lend_rel hr h5 [b] (fun k hk => by simp at hk; subst hk; exact ⟨b, hb, rfl⟩))).mono ?_
              rintro e w' ⟨g, v, rfl, hpo, hk, hv', hb1, hb2⟩
              cases hbs : bs' g with
              | none => rw [hbs] at hb1; cases hb1
              | some p' =>
                refine hK0 (relend j (out g)) _ v w' ⟨g, p', hpo, rfl, hbs, rfl⟩ ?_ ?_
                · rw [← h2]; exact h.call1 hp2 hb hk (hb2 p' hbs b (by simp))
                · rw [← h2]
                  exact relend_rel hb (hv'.mono (fun _ _ => rfl) (grow_le h hk (own_setBox E s' j p')) (Env.le_refl _))
            · rintro o' b' ⟨g, p', hpo, rfl, hb, rfl⟩
              have := hK g hpo
              rw [hb] at this
              exact this
        · exact hv.elim
      · exact hv.elim
    · exact hv.elim
  · rename_i t x y ho
    split at hv
    · rename_i j off hx
      split at hv
      · rename_i p l n hp hl hn
        have hp : s.bx[j]? = some p := hp
        cases hc : (Nat.beq l.length n && Nat.ble (off + n) p.2.length) && l.all SV.one with
        | false => rw [hc] at hv; exact hv.elim
        | true =>
          rw [hc] at hv
          simp only [Bool.and_eq_true] at hc
          obtain ⟨⟨hc1, hc2⟩, hc3⟩ := hc
          have hc1 : l.length = n := Nat.eq_of_beq_eq_true hc1
          have hc2 : off + n ≤ p.2.length := Nat.le_of_ble_eq_true hc2
          refine ⟨fun o' b' => o' = .un ∧ b' = s.bx.set j (p.1, putAll p.2 off l), ?_, ?_⟩
          · intro s' h1 h2 h3 h4 c E a w h K0 Q hK0
            have hsm := same s' h1 h2 h3 h4
            have h0 := view_inv (ts := looks ops o) h
            rw [hsm] at h0
            have hreg : Reg c E ({ s with fr := view [] (looks ops o) s.fr 0 } : St) w = Reg c E s' w := by rw [← hsm]; rfl
            have hx1 := h0.ev x
            rw [hx] at hx1
            obtain ⟨b, hb, hxv⟩ := hx1
            obtain ⟨vs, hy2, hy3⟩ := cells_rel hl (h0.ev y)
            rw [hreg] at hy3
            have hp2 : s'.bx[j]? = some p := by rw [h2]; exact hp
            have hvl : vs.length = n := by rw [hy3.length, hc1]
            obtain ⟨cs, h5, h6, h7⟩ := h.bx j p b hp2 hb
            have hcl : cs.length = p.2.length := h6.length
            have hthere : w.there b off vs.toArray.size := by
              intro k hk
              have hk : k < vs.length := by simpa using hk
              constructor
              · simp [World.cell?, h5]; omega
              · simp only [World.frozen?, h5, decide_eq_false_iff_not, Bool.and_eq_false_iff]
                right; omega
            have hone : vs.toArray.all (·.oneCell') = true := all_oneCell_toArray (hy3.one hc3)
            have hstore := run_storeAt_mid (P := P) w b off t vs.toArray hthere (by rw [hn, ← hvl]; rfl) hone
            have hrun : (execOp a.eval o).run P w = .ok .skip (w.setCells b off vs) := by
              unfold execOp; rw [ho]
              have e : Instr.storeAt t (a.eval x) (a.eval y) = Instr.storeAt t (.pointer (some ⟨b, off, none⟩)) (.agg vs.toArray) := by
                rw [hxv]
                simp only [Instr.storeAt, storeVar, hy2]
                rfl
              simp only [e, Sem.run_bind, hstore, Result.andThen_ok]
              rfl
            unfold Oper.wp
            rw [hrun, Oper.upon_skip]
            refine hK0 .un _ undef _ ⟨rfl, rfl⟩ ?_ trivial
            rw [← h2]
            exact h.setBox off hp2 hb hy3 hc3
          · rintro o' b' ⟨rfl, rfl⟩
            exact hv
      · exact hv.elim
    · exact hv.elim
  · exact hv.elim
theorem has_of {l : List Nat} {k : Nat} (h : k ∈ l) : has l k = true := by
  induction l with
  | nil => cases h
  | cons x l ih =>
    unfold has
    cases hb : Nat.beq x k with
    | true => rfl
    | false =>
      rcases List.mem_cons.1 h with rfl | h
      · rw [Nat.beq_refl] at hb; cases hb
      · exact ih h
theorem has_cons {l : List Nat} {i k : Nat} : has (i :: l) k = if k = i then true else has l k := by
  show (bif Nat.beq i k then true else has l k) = _
  by_cases e : k = i
  · subst e; rw [Nat.beq_refl, if_pos rfl]; rfl
  · have : Nat.beq i k = false := by
      cases hb : Nat.beq i k with
      | true => exact absurd (Nat.eq_of_beq_eq_true hb).symm e
      | false => rfl
    rw [this, if_neg e]; rfl
theorem frL_set {all : List Oper} {zs : List SV} {i : Nat} {x : SV} {L : Nat → Bool} {fr : List SV} (h : L i = false) : frL all (zs.set i x) L fr = frL all zs L fr := by
  apply List.ext_getElem?
  intro t
  rw [frL_get, frL_get]
  cases hf : fr[t]? with
  | none => rfl
  | some y =>
    simp only [Option.map_some]
    split
    · rename_i j hj
      by_cases e : i = j
      · subst e; rw [h]; rfl
      · rw [List.getD_eq_getElem?_getD, List.getD_eq_getElem?_getD, List.getElem?_set_ne e]
    · rfl
theorem frL_same {all : List Oper} {zs zs' : List SV} {L L' : Nat → Bool} {fr : List SV} {t : Nat} (h : ∀ j, wrF t all 0 = some j → L j = true ∧ L' j = true ∧ zs.getD j .un = zs'.getD j .un) : (frL all zs L fr)[t]? = (frL all zs' L' fr)[t]? := by
  rw [frL_get, frL_get]
  cases hf : fr[t]? with
  | none => rfl
  | some y =>
    simp only [Option.map_some]
    split
    · rename_i j hj
      obtain ⟨h1, h2, h3⟩ := h j hj
      rw [h1, h2, h3]
    · rfl
theorem set_getD {zs : List SV} {i : Nat} {x : SV} (h : i < zs.length) : (zs.set i x).getD i .un = x := by
  rw [List.getD_eq_getElem?_getD, List.getElem?_set_self h]; rfl
theorem permOk_cons {seen : List Nat} {i : Nat} {r : List Nat} (h : permOk ops seen (i :: r) = true) : ∃ o, ops[i]? = some o ∧ (∀ j ∈ edges o, has seen j = true) ∧ has seen i = false ∧ (isEff o = true → ∀ k ∈ r, depF ops ops.size k i = true) ∧ permOk ops (i :: seen) r = true := by
  unfold permOk at h
  split at h
  · cases h
  · rename_i o ho
    simp only [Bool.and_eq_true, Bool.not_eq_eq_eq_not, Bool.not_true] at h
    obtain ⟨⟨⟨h1, h2⟩, h3⟩, h4⟩ := h
    refine ⟨o, ho, fun j hj => List.all_eq_true.1 h1 j hj, h2, fun he k hk => ?_, h4⟩
    rw [he] at h3
    exact List.all_eq_true.1 h3 k hk
def FinE (ops : Array Oper) (s0 : St) (K : St → VC) (zs : List SV) (bx : List (TypeId × List SV)) : Prop :=
  ∃ s' : St, s'.bx = bx ∧ s'.rw = s0.rw ∧ s'.fr = frL ops.toList zs (fun _ => true) s0.fr ∧ (K s').den
theorem certE_of {K : St → VC} (honce : onceF ops.toList 0 ops.toList = true) (hedge : edgesF ops.toList 0 ops.toList ops = true) : ∀ (perm seen : List Nat) (s : St) (zs : List SV), (exE P ct ops perm s K).den → permOk ops seen perm = true → s.rw = s0.rw → s.fr = frL ops.toList zs (has seen) s0.fr → zs.length = ops.size →
    (∀ i, i < ops.size → has seen i = true ∨ i ∈ perm) → CertE P ops s0 (FinE ops s0 K) perm zs s.bx
  | [], seen, s, zs, hv, _, hrw, hfr, _, hall => by
    refine ⟨s, rfl, hrw, ?_, hv⟩
    rw [hfr]
    apply List.ext_getElem?
    intro t
    refine frL_same (fun j hj => ⟨?_, rfl, rfl⟩)
    obtain ⟨_, o', h1, _⟩ := wrF_some hj
    have hlt : j < ops.size := by have := (List.getElem?_eq_some_iff.1 h1).1; simpa using this
    rcases hall j hlt with h | h
    · exact h
    · cases h
  | i :: r, seen, s, zs, hv, hp, hrw, hfr, hz, hall => by
    obtain ⟨o, ho, hed, hni, heff, hp'⟩ := permOk_cons hp
    have hlt : i < ops.size := (Array.getElem?_eq_some_iff.1 ho).1
    have hol : ops.toList[i]? = some o := by simpa using ho
    obtain ⟨_, he2⟩ := edgesF_ok hedge i o hol
    have hln : s.fr.length = s0.fr.length := by rw [hfr, frL_length]
    have hag : ∀ t ∈ looks ops o, s.fr[t]? = (frL ops.toList zs (fun _ => true) s0.fr)[t]? := fun t ht => by
      rw [hfr]
      exact frL_same (fun j hj => ⟨hed j (he2 t ht j hj), rfl, rfl⟩)
    have hnext : ∀ (s1 : St) (x : SV), s1.fr = s.fr → (s1.put o.dst x).fr = frL ops.toList (zs.set i x) (has (i :: seen)) s0.fr := fun s1 x h1 => by
      have := frL_up (xs := zs.set i x) (L := has seen) (L' := has (i :: seen)) (fr := s0.fr) honce hol (fun j => has_cons) s1 (by rw [h1, hfr, frL_set hni])
      rw [set_getD (by omega)] at this
      exact this
    have hall' : ∀ j, j < ops.size → has (i :: seen) j = true ∨ j ∈ r := fun j hj => by
      rw [has_cons]
      by_cases e : j = i
      · left; rw [if_pos e]
      · rw [if_neg e]
        rcases hall j hj with h | h
        · exact .inl h
        · rcases List.mem_cons.1 h with h | h
          · exact absurd h e
          · exact .inr h
    unfold exE at hv
    rw [ho] at hv
    simp only at hv
    refine ⟨o, ho, ?_⟩
    cases he : isEff o with
    | true =>
      rw [he] at hv
      simp only [cond_true] at hv
      obtain ⟨Post, h1, h2⟩ := effZ_of (ct := ct) (s0 := s0) (zs := zs) hln hrw hag hv
      refine .inl ⟨rfl, Post, h1, fun out bx' hpo => ?_⟩
      have h3 := certE_of honce hedge r (i :: seen) ({ s with bx := bx' }.put o.dst out) (zs.set i out) (h2 out bx' hpo) hp' (by cases o.dst <;> exact hrw) (hnext { s with bx := bx' } out rfl) (by simpa using hz) hall'
      have hbx : ({ s with bx := bx' }.put o.dst out : St).bx = bx' := by cases o.dst <;> rfl
      rw [hbx] at h3
      exact h3
    | false =>
      rw [he] at hv
      simp only [cond_false] at hv
      refine .inr ⟨rfl, ?_⟩
      have hbx : ∀ x, (s.put o.dst x).bx = s.bx := fun x => by cases o.dst <;> rfl
      split at hv
      · rename_i x hu
        refine ⟨x, runZ_of hln hrw hag hu trivial, ?_⟩
        have h3 := certE_of honce hedge r (i :: seen) (s.put o.dst x) (zs.set i x) hv hp' (by cases o.dst <;> exact hrw) (hnext s x rfl) (by simpa using hz) hall'
        rw [hbx] at h3
        exact h3
      · rename_i p x hu
        refine ⟨x, runZ_of hln hrw hag hu hv.1, ?_⟩
        have h3 := certE_of honce hedge r (i :: seen) (s.put o.dst x) (zs.set i x) hv.2 hp' (by cases o.dst <;> exact hrw) (hnext s x rfl) (by simpa using hz) hall'
        rw [hbx] at h3
        exact h3
      · exact hv.elim
/-! ### every order -/
def Placed (P : Program) (ops : Array Oper) (s0 : St) (zs : List SV) (seen : List Nat) (listed : Nat → Bool) : Prop :=
  ∀ i, has seen i = true → ∃ o, ops[i]? = some o ∧ (∀ j ∈ edges o, has seen j = true) ∧ (listed i = false → isEff o = false ∧ RunZ P ops s0 zs o (zs.getD i .un))
theorem RunZ.set {zs : List SV} {o : Oper} {x y : SV} {k : Nat} {seen : List Nat} (h : RunZ P ops s0 zs o x) (he2 : ∀ t ∈ looks ops o, ∀ j, wrF t ops.toList 0 = some j → j ∈ edges o) (hed : ∀ j ∈ edges o, has seen j = true) (hk : has seen k = false) : RunZ P ops s0 (zs.set k y) o x := by
  intro s' h1 h2 h3
  refine h s' h1 h2 (fun t ht => ?_)
  rw [h3 t ht]
  refine frL_same (fun j hj => ⟨rfl, rfl, ?_⟩)
  have hj := hed j (he2 t ht j hj)
  have : k ≠ j := fun e => by rw [e, hj] at hk; cases hk
  rw [List.getD_eq_getElem?_getD, List.getD_eq_getElem?_getD, List.getElem?_set_ne this]
theorem Placed.set {zs : List SV} {seen : List Nat} {listed : Nat → Bool} {k : Nat} {y : SV} (h : Placed P ops s0 zs seen listed) (hedge : edgesF ops.toList 0 ops.toList ops = true) (hk : has seen k = false) : Placed P ops s0 (zs.set k y) seen listed := by
  intro i hi
  obtain ⟨o, ho, hed, hr⟩ := h i hi
  refine ⟨o, ho, hed, fun hl => ?_⟩
  obtain ⟨h1, h2⟩ := hr hl
  have hki : k ≠ i := fun e => by rw [e, hi] at hk; cases hk
  have : (zs.set k y).getD i .un = zs.getD i .un := by rw [List.getD_eq_getElem?_getD, List.getD_eq_getElem?_getD, List.getElem?_set_ne hki]
  rw [this]
  exact ⟨h1, h2.set (edgesF_ok hedge i o (by simpa using ho)).2 hed hk⟩
/-- What stands before the next call is placed. -/
theorem norm {F : List SV → List (TypeId × List SV) → Prop} {listed : Nat → Bool} {bx : List (TypeId × List SV)} (hedge : edgesF ops.toList 0 ops.toList ops = true) : ∀ (rest seen : List Nat) (zs : List SV), permOk ops seen rest = true → (∀ i, i < ops.size → has seen i = true ∨ i ∈ rest) → (∀ i ∈ rest, listed i = false) → zs.length = ops.size → Placed P ops s0 zs seen listed → CertE P ops s0 F rest zs bx →
    ∃ (rest' seen' : List Nat) (zs' : List SV), permOk ops seen' rest' = true ∧ (∀ i, i < ops.size → has seen' i = true ∨ i ∈ rest') ∧ (∀ i ∈ rest', listed i = false) ∧ zs'.length = ops.size ∧ Placed P ops s0 zs' seen' listed ∧ CertE P ops s0 F rest' zs' bx ∧ frL ops.toList zs' listed s0.fr = frL ops.toList zs listed s0.fr ∧
      (rest' = [] ∨ ∃ h r o, rest' = h :: r ∧ ops[h]? = some o ∧ isEff o = true)
  | [], seen, zs, hp, hall, hun, hz, hpl, hc => ⟨[], seen, zs, hp, hall, hun, hz, hpl, hc, rfl, .inl rfl⟩
  | i :: r, seen, zs, hp, hall, hun, hz, hpl, hc => by
    have hc0 := hc
    obtain ⟨o, ho, h⟩ := hc
    rcases h with ⟨he, _⟩ | ⟨he, x, hrun, hc⟩
    · exact ⟨i :: r, seen, zs, hp, hall, hun, hz, hpl, hc0, rfl, .inr ⟨i, r, o, rfl, ho, he⟩⟩
    · obtain ⟨o', ho', hed, hni, _, hp'⟩ := permOk_cons hp
      rw [ho] at ho'; simp at ho'; subst ho'
      have hlt : i < ops.size := (Array.getElem?_eq_some_iff.1 ho).1
      have hpl' : Placed P ops s0 (zs.set i x) (i :: seen) listed := by
        intro j hj
        rw [has_cons] at hj
        by_cases e : j = i
        · subst e
          refine ⟨o, ho, fun k hk => by rw [has_cons]; split <;> first | rfl | exact hed k hk, fun _ => ⟨he, ?_⟩⟩
          rw [set_getD (by omega)]
          exact hrun.set (edgesF_ok hedge j o (by simpa using ho)).2 hed hni
        · rw [if_neg e] at hj
          obtain ⟨o2, h1, h2, h3⟩ := hpl.set (y := x) hedge hni j hj
          exact ⟨o2, h1, fun k hk => by rw [has_cons]; split <;> first | rfl | exact h2 k hk, h3⟩
      obtain ⟨rest', seen', zs', h1, h2, h3, h4, h5, h6, h7, h8⟩ := norm hedge r (i :: seen) (zs.set i x) hp' (fun j hj => by
        rw [has_cons]
        by_cases e : j = i
        · left; rw [if_pos e]
        · rw [if_neg e]
          rcases hall j hj with h | h
          · exact .inl h
          · rcases List.mem_cons.1 h with h | h
            · exact absurd h e
            · exact .inr h) (fun j hj => hun j (List.mem_cons_of_mem _ hj)) (by simpa using hz) hpl' hc
      exact ⟨rest', seen', zs', h1, h2, h3, h4, h5, h6, by rw [h7, frL_set (hun i (List.mem_cons_self ..))], h8⟩
theorem all_listed {listed : Array Bool} (hedge : edgesF ops.toList 0 ops.toList ops = true) (hsz : listed.size = ops.size) (hr : Region.ready .any ops listed = []) : ∀ n i, i ≤ n → i < ops.size → listed.getD i false = true := by
  intro n
  induction n with
  | zero =>
    intro i hi hlt
    cases hb : listed.getD i false with
    | true => rfl
    | false =>
      exfalso
      have ho : ops[i]? = some ops[i] := Array.getElem?_eq_getElem hlt
      have he := (edgesF_ok hedge i ops[i] (by simp)).1
      have : i ∈ Region.ready .any ops listed := ready_of ho (by
        rw [Array.getD_eq_getD_getElem?] at hb ⊢
        rw [Array.getElem?_eq_getElem (by omega)] at hb ⊢
        exact hb) (fun j hj => by have := he j hj; omega)
      rw [hr] at this; cases this
  | succ n ih =>
    intro i hi hlt
    cases hb : listed.getD i false with
    | true => rfl
    | false =>
      exfalso
      have ho : ops[i]? = some ops[i] := Array.getElem?_eq_getElem hlt
      have he := (edgesF_ok hedge i ops[i] (by simp)).1
      have : i ∈ Region.ready .any ops listed := ready_of ho (by
        rw [Array.getD_eq_getD_getElem?] at hb ⊢
        rw [Array.getElem?_eq_getElem (by omega)] at hb ⊢
        exact hb) (fun j hj => by have := he j hj; exact ih j (by omega) (by omega))
      rw [hr] at this; cases this
theorem listed_up {listed : Array Bool} {i : Nat} (hilt : i < listed.size) (j : Nat) : (listed.setIfInBounds i true).getD j false = if j = i then true else listed.getD j false := by
  by_cases e : j = i
  · subst e
    rw [if_pos rfl, Array.getD_eq_getD_getElem?, Array.getElem?_setIfInBounds_self_of_lt hilt]; rfl
  · rw [if_neg e, Array.getD_eq_getD_getElem?, Array.getD_eq_getD_getElem?, Array.getElem?_setIfInBounds_ne (by omega)]
theorem count_up {listed : Array Bool} {i : Nat} (hilt : i < listed.size) (hif : listed.getD i false = false) : count (listed.setIfInBounds i true) + 1 ≤ count listed := by
  unfold count
  have hl : listed.toList = listed.toList.take i ++ false :: listed.toList.drop (i + 1) := by
    have h6 : listed.toList[i]'(by simpa using hilt) = false := by
      rw [Array.getD_eq_getD_getElem?, Array.getElem?_eq_getElem hilt] at hif
      simpa using hif
    have h7 := List.take_append_drop i listed.toList
    rw [List.drop_eq_getElem_cons (by simpa using hilt), h6] at h7
    exact h7.symm
  have hl2 : (listed.setIfInBounds i true).toList = listed.toList.take i ++ true :: listed.toList.drop (i + 1) := by
    rw [Array.toList_setIfInBounds, List.set_eq_take_append_cons_drop, if_pos (by simpa using hilt)]
  rw [hl2]
  conv => rhs; rw [hl]
  simp [List.filter_append]
  omega
theorem eff_any {Q : Exit → Act → World → Prop} {F : List SV → List (TypeId × List SV) → Prop} {c : Ctx} (honce : onceF ops.toList 0 ops.toList = true) (hedge : edgesF ops.toList 0 ops.toList ops = true) (hguard : ∀ o ∈ ops.toList, o.guard = none)
    (hQ : ∀ zs bx, F zs bx → ∀ E a w, Inv c E { s0 with fr := frL ops.toList zs (fun _ => true) s0.fr, bx := bx } a w → Q .normal a w) :
    ∀ (fuel : Nat) (listed : Array Bool) (rest seen : List Nat) (zs : List SV) (bx : List (TypeId × List SV)) E a w, listed.size = ops.size → count listed ≤ fuel → (∀ i o, listed.getD i false = true → ops[i]? = some o → ∀ j ∈ edges o, listed.getD j false = true) →
      permOk ops seen rest = true → (∀ i, i < ops.size → has seen i = true ∨ i ∈ rest) → (∀ i ∈ rest, listed.getD i false = false) → zs.length = ops.size → Placed P ops s0 zs seen (fun j => listed.getD j false) → CertE P ops s0 F rest zs bx →
      Inv c E { s0 with fr := frL ops.toList zs (fun j => listed.getD j false) s0.fr, bx := bx } a w → wpAny P .any ops Q fuel listed a w := by
  have done : ∀ (listed : Array Bool) (rest seen : List Nat) (zs : List SV) (bx : List (TypeId × List SV)) E a w, listed.size = ops.size → Region.ready .any ops listed = [] → permOk ops seen rest = true → (∀ i ∈ rest, listed.getD i false = false) → CertE P ops s0 F rest zs bx →
      Inv c E { s0 with fr := frL ops.toList zs (fun j => listed.getD j false) s0.fr, bx := bx } a w → Q .normal a w := by
    intro listed rest seen zs bx E a w hsz hr hp hun hc h
    have hall := all_listed hedge hsz hr
    match rest, hp, hun, hc with
    | [], _, _, hc =>
      have hfr : frL ops.toList zs (fun j => listed.getD j false) s0.fr = frL ops.toList zs (fun _ => true) s0.fr := by
        apply List.ext_getElem?
        intro t
        refine frL_same (fun j hj => ⟨?_, rfl, rfl⟩)
        obtain ⟨_, o', h1, _⟩ := wrF_some hj
        have hlt : j < ops.size := by have := (List.getElem?_eq_some_iff.1 h1).1; simpa using this
        exact hall j j (Nat.le_refl _) hlt
      rw [hfr] at h
      exact hQ zs bx hc E a w h
    | i :: r, hp, hun, _ =>
      exfalso
      obtain ⟨o, ho, _⟩ := permOk_cons hp
      have h1 := hun i (List.mem_cons_self ..)
      rw [hall i i (Nat.le_refl _) (Array.getElem?_eq_some_iff.1 ho).1] at h1
      cases h1
  intro fuel
  induction fuel with
  | zero =>
    intro listed rest seen zs bx E a w hsz hcnt hcl hp hall hun hz hpl hc h
    have hr : Region.ready .any ops listed = [] := by
      cases hrd : Region.ready .any ops listed with
      | nil => rfl
      | cons i r =>
        exfalso
        obtain ⟨h1, h2, _⟩ := mem_ready' (ops := ops) (listed := listed) (i := i) (by rw [hrd]; simp)
        have hm : false ∈ listed.toList := by
          rw [Array.getD_eq_getD_getElem?, Array.getElem?_eq_getElem (by omega)] at h2
          simp at h2
          rw [← h2]; simp
        have : false ∈ listed.toList.filter (!·) := List.mem_filter.2 ⟨hm, rfl⟩
        have := List.length_pos_of_mem this
        unfold count at hcnt; omega
    exact ⟨hr, done listed rest seen zs bx E a w hsz hr hp hun hc h⟩
  | succ fuel ih =>
    intro listed rest seen zs bx E a w hsz hcnt hcl hp hall hun hz hpl hc h
    refine ⟨fun hr => done listed rest seen zs bx E a w hsz hr hp hun hc h, fun i hi => ?_⟩
    obtain ⟨rest, seen, zs, hp, hall, hun, hz, hpl, hc, hfe, hhd⟩ := norm (listed := fun j => listed.getD j false) hedge rest seen zs hp hall hun hz hpl hc
    rw [← hfe] at h
    obtain ⟨hlt, hun1, hed⟩ := mem_ready' hi
    have ho : ops[i]? = some ops[i] := Array.getElem?_eq_getElem hlt
    have hol : ops.toList[i]? = some ops[i] := by simp
    obtain ⟨he1, he2⟩ := edgesF_ok hedge i ops[i] hol
    have hilt : i < listed.size := by omega
    have hif : listed.getD i false = false := by
      rw [Array.getD_eq_getD_getElem?, Array.getElem?_eq_getElem hilt] at hun1 ⊢
      exact hun1
    have hedi := hed ops[i] ho
    have hup := listed_up hilt
    have hcl' : ∀ j o, (listed.setIfInBounds i true).getD j false = true → ops[j]? = some o → ∀ k ∈ edges o, (listed.setIfInBounds i true).getD k false = true := by
      intro j o hj hjo k hk
      rw [hup] at hj ⊢
      by_cases e : j = i
      · subst e
        rw [ho] at hjo; simp at hjo; subst hjo
        rw [hedi k hk]; split <;> rfl
      · rw [if_neg e] at hj
        rw [hcl j o hj hjo k hk]; split <;> rfl
    have hcnt' : count (listed.setIfInBounds i true) ≤ fuel := by have := count_up hilt hif; omega
    have hlook : ∀ t ∈ looks ops ops[i], (frL ops.toList zs (fun j => listed.getD j false) s0.fr)[t]? = (frL ops.toList zs (fun _ => true) s0.fr)[t]? := fun t ht =>
      frL_same (fun j hj => ⟨hedi j (he2 t ht j hj), rfl, rfl⟩)
    have hfrup : ∀ (s1 : St) (zs1 : List SV), s1.fr = frL ops.toList zs1 (fun j => listed.getD j false) s0.fr → (s1.put ops[i].dst (zs1.getD i .un)).fr = frL ops.toList zs1 (fun j => (listed.setIfInBounds i true).getD j false) s0.fr := fun s1 zs1 h1 =>
      frL_up honce hol hup s1 h1
    unfold wpOp
    rw [ho]
    simp only
    rw [if_pos (by simp [Region.wanted, hguard ops[i] (by simp)])]
    left
    by_cases hsi : has seen i = true
    · obtain ⟨o, ho', _, hr⟩ := hpl i hsi
      rw [ho] at ho'; simp at ho'; subst ho'
      obtain ⟨_, hrun⟩ := hr hif
      refine hrun { s0 with fr := frL ops.toList zs (fun j => listed.getD j false) s0.fr, bx := bx } (frL_length ..) rfl hlook c E a w h _ Q (fun v w' h1 h2 => ?_)
      refine ih _ rest seen zs bx E _ _ (by simp [hsz]) hcnt' hcl' hp hall (fun j hj => ?_) hz (fun j hj => ?_) hc ?_
      · rw [hup]
        have : j ≠ i := fun e => by
          subst e
          have hmem : ∀ (r : List Nat) (sn : List Nat), permOk ops sn r = true → j ∈ r → has sn j = true → False := by
            intro r
            induction r with
            | nil => intro sn _ hj; cases hj
            | cons x r ih2 =>
              intro sn hpo hj hsn
              obtain ⟨_, _, _, hx, _, hpo'⟩ := permOk_cons hpo
              rcases List.mem_cons.1 hj with rfl | hj
              · rw [hx] at hsn; cases hsn
              · exact ih2 (x :: sn) hpo' hj (by rw [has_cons]; split <;> first | rfl | exact hsn)
          exact hmem rest seen hp hj hsi
        rw [if_neg this]; exact hun j hj
      · obtain ⟨o, h3, h4, h5⟩ := hpl j hj
        refine ⟨o, h3, h4, fun hl => h5 ?_⟩
        try simp only at hl
        rw [hup] at hl
        split at hl
        · cases hl
        · exact hl
      · have h3 := h1.put ops[i].dst h2
        have h4 := hfrup { s0 with fr := frL ops.toList zs (fun j => listed.getD j false) s0.fr, bx := bx } zs rfl
        have h5 : ({ s0 with fr := frL ops.toList zs (fun j => listed.getD j false) s0.fr, bx := bx } : St).put ops[i].dst (zs.getD i .un) = { s0 with fr := frL ops.toList zs (fun j => (listed.setIfInBounds i true).getD j false) s0.fr, bx := bx } := by
          rw [← h4]
          cases ops[i].dst <;> rfl
        rw [h5] at h3
        exact h3
    · have hir : i ∈ rest := (hall i hlt).resolve_left hsi
      rcases hhd with rfl | ⟨hd, r, oh, rfl, hoh, heh⟩
      · cases hir
      · have hih : i = hd := by
          rcases List.mem_cons.1 hir with h1 | h1
          · exact h1
          · exfalso
            obtain ⟨o', ho', _, _, hdep, _⟩ := permOk_cons hp
            rw [hoh] at ho'; simp at ho'; subst ho'
            have h2 := hun hd (List.mem_cons_self ..)
            by_cases e : i = hd
            · subst e
              obtain ⟨_, _, _, _, _, hp2⟩ := permOk_cons hp
              have hmem : ∀ (r : List Nat) (sn : List Nat), permOk ops sn r = true → i ∈ r → has sn i = true → False := by
                intro r
                induction r with
                | nil => intro sn _ hj; cases hj
                | cons x r ih2 =>
                  intro sn hpo hj hsn
                  obtain ⟨_, _, _, hx, _, hpo'⟩ := permOk_cons hpo
                  rcases List.mem_cons.1 hj with rfl | hj
                  · rw [hx] at hsn; cases hsn
                  · exact ih2 (x :: sn) hpo' hj (by rw [has_cons]; split <;> first | rfl | exact hsn)
              exact hmem r (i :: seen) hp2 h1 (by rw [has_cons, if_pos rfl])
            · have h3 := depF_listed (listed := fun j => listed.getD j false) (fun j o hj hjo => hcl j o hj hjo) ops.size i hd ops[i] ho hedi e (hdep heh i h1)
              try simp only at h3
              rw [h2] at h3; cases h3
        subst hih
        obtain ⟨o', ho', hc⟩ := hc
        rw [ho] at ho'; simp at ho'; subst ho'
        rw [ho] at hoh; simp at hoh; subst hoh
        rcases hc with ⟨_, Post, heff, hnext⟩ | ⟨he, _⟩
        · obtain ⟨o2, ho2, hed2, hni, _, hp'⟩ := permOk_cons hp
          rw [ho] at ho2; simp at ho2; subst ho2
          refine heff { s0 with fr := frL ops.toList zs (fun j => listed.getD j false) s0.fr, bx := bx } (frL_length ..) rfl rfl hlook c E a w h _ Q (fun out bx' v w' hpo h1 h2 => ?_)
          refine ih _ r (i :: seen) (zs.set i out) bx' E _ _ (by simp [hsz]) hcnt' hcl' hp' (fun j hj => ?_) (fun j hj => ?_) (by simpa using hz) ?_ (hnext out bx' hpo) ?_
          · rw [has_cons]
            by_cases e : j = i
            · left; rw [if_pos e]
            · rw [if_neg e]
              rcases hall j hj with h | h
              · exact .inl h
              · rcases List.mem_cons.1 h with h | h
                · exact absurd h e
                · exact .inr h
          · rw [hup]
            have : j ≠ i := fun e => by
              subst e
              have hmem : ∀ (r : List Nat) (sn : List Nat), permOk ops sn r = true → j ∈ r → has sn j = true → False := by
                intro r
                induction r with
                | nil => intro sn _ hj; cases hj
                | cons x r ih2 =>
                  intro sn hpo hj hsn
                  obtain ⟨_, _, _, hx, _, hpo'⟩ := permOk_cons hpo
                  rcases List.mem_cons.1 hj with rfl | hj
                  · rw [hx] at hsn; cases hsn
                  · exact ih2 (x :: sn) hpo' hj (by rw [has_cons]; split <;> first | rfl | exact hsn)
              exact hmem r (j :: seen) hp' hj (by rw [has_cons, if_pos rfl])
            rw [if_neg this]; exact hun j (List.mem_cons_of_mem _ hj)
          · intro j hj
            rw [has_cons] at hj
            by_cases e : j = i
            · subst e
              refine ⟨ops[j], ho, fun k hk => by rw [has_cons]; split <;> first | rfl | exact hed2 k hk, fun hl => ?_⟩
              try simp only at hl
              rw [hup, if_pos rfl] at hl; cases hl
            · rw [if_neg e] at hj
              obtain ⟨o3, h3, h4, h5⟩ := hpl.set (y := out) hedge hni j hj
              refine ⟨o3, h3, fun k hk => by rw [has_cons]; split <;> first | rfl | exact h4 k hk, fun hl => h5 ?_⟩
              try simp only at hl
              rw [hup, if_neg e] at hl
              exact hl
          · have h3 := h1.put ops[i].dst h2
            have h6 : frL ops.toList zs (fun j => listed.getD j false) s0.fr = frL ops.toList (zs.set i out) (fun j => listed.getD j false) s0.fr := (frL_set hif).symm
            have h4 := hfrup { s0 with fr := frL ops.toList zs (fun j => listed.getD j false) s0.fr, bx := bx' } (zs.set i out) h6
            rw [set_getD (by omega)] at h4
            have h5 : ({ s0 with fr := frL ops.toList zs (fun j => listed.getD j false) s0.fr, bx := bx' } : St).put ops[i].dst out = { s0 with fr := frL ops.toList (zs.set i out) (fun j => (listed.setIfInBounds i true).getD j false) s0.fr, bx := bx' } := by
              rw [← h4]
              cases ops[i].dst <;> rfl
            have h7 : ({ ({ s0 with fr := frL ops.toList zs (fun j => listed.getD j false) s0.fr, bx := bx } : St) with bx := bx' } : St) = { s0 with fr := frL ops.toList zs (fun j => listed.getD j false) s0.fr, bx := bx' } := rfl
            rw [h7, h5] at h3
            exact h3
        · rw [he] at heh; cases heh
theorem allIn_ok {l : List Nat} : ∀ {n : Nat}, allIn l n = true → ∀ i, i < n → i ∈ l
  | 0, _, i, hi => by omega
  | n + 1, h, i, hi => by
    unfold allIn at h
    simp only [Bool.and_eq_true] at h
    by_cases e : i = n
    · subst e; exact has_mem h.1
    · exact allIn_ok h.2 i (by omega)
/-- A region whose order is open and that holds calls. -/
def exEff (P : Program) (ct : List (Con P)) (ops : Array Oper) (s : St) (K : St → VC) : VC :=
  bif effOk ops (permF ops ops.size (List.range ops.size)) then exE P ct ops (permF ops ops.size (List.range ops.size)) (preF (looksAll ops ops.toList) s) K else .f
theorem exEff_ok {Q : Exit → Act → World → Prop} {K : St → VC} {c : Ctx} (hm : P.follows .mixedOrders = true) (hK : ∀ s E a w, Inv c E s a w → (K s).den → Q .normal a w) {id : Nat} {s : St} (hv : (exEff P ct ops s K).den) {E : Env} {a : Act} {w : World} (h : Inv c E s a w) :
    (Code.region id ops true).wp P Q a w := by
  unfold exEff at hv
  generalize hperm : permF ops ops.size (List.range ops.size) = perm at hv
  cases hd : effOk ops perm with
  | false => rw [hd] at hv; exact hv.elim
  | true =>
    rw [hd] at hv
    simp only [cond_true] at hv
    simp only [effOk, drawOk, Bool.and_eq_true] at hd
    obtain ⟨⟨⟨⟨honce, hedge⟩, hp⟩, hall⟩, hg⟩ := hd
    have h' : Inv c E (preF (looksAll ops ops.toList) s) a w := preF_ok h
    generalize preF (looksAll ops ops.toList) s = s1 at hv h'
    have hnone : ∀ zs : List SV, frL ops.toList zs (has []) s1.fr = s1.fr := fun zs => frL_none _ _ _ (fun j => rfl)
    have hcert := certE_of (ct := ct) (s0 := s1) honce hedge perm [] s1 (List.replicate ops.size .un) hv hp rfl (hnone _).symm (by simp) (fun i hi => .inr (allIn_ok hall i hi))
    refine wp_region_any hm ?_
    have hfalse : ∀ j, (Array.replicate ops.size false).getD j false = false := fun j => by
      rw [Array.getD_eq_getD_getElem?, Array.getElem?_replicate]; split <;> rfl
    refine eff_any (F := FinE ops s1 K) (s0 := s1) (c := c) honce hedge (fun o ho => ?_) (fun zs bx hF E a w hi => ?_) ops.size _ perm [] _ s1.bx E a w.drew (by simp) (by simp [count]) (fun i o hi => ?_) hp (fun i hi => .inr (allIn_ok hall i hi)) (fun i _ => hfalse i) (by simp) (fun i hi => by cases hi) hcert ?_
    · have := List.all_eq_true.1 hg o ho
      simpa using this
    · obtain ⟨s', h1, h2, h3, h4⟩ := hF
      have : s' = { s1 with fr := frL ops.toList zs (fun _ => true) s1.fr, bx := bx } := by
        cases s'; simp only at h1 h2 h3; subst h1; subst h2; subst h3; rfl
      rw [← this] at hi
      exact hK s' E a w hi h4
    · rw [hfalse] at hi; cases hi
    · have h4 : frL ops.toList (List.replicate ops.size .un) (fun j => (Array.replicate ops.size false).getD j false) s1.fr = s1.fr := frL_none _ _ _ hfalse
      rw [h4]
      exact h'.drew
/-- Does a region call what no plain contract tells? -/
def hasF0 (ct : List (Con P)) (f : FuncId) : Bool :=
  match ct with
  | [] => false
  | .f0 g _ _ _ :: r => Nat.beq g f || hasF0 r f
  | _ :: r => hasF0 r f
def anyEff (ct : List (Con P)) : List Oper → Bool
  | [] => false
  | o :: r => (match o.op with
    | .call { callee := .value (.func f), .. } => !hasF0 ct f
    | .store .. => true
    | _ => false) || anyEff ct r
def exDraw2 (P : Program) (ct : List (Con P)) (ops : Array Oper) (s : St) (K : St → VC) : VC :=
  bif effOk ops (permF ops ops.size (List.range ops.size)) && anyEff ct ops.toList then exEff P ct ops s K else exDraw P ct ops s K
theorem exDraw2_ok {Q : Exit → Act → World → Prop} {K : St → VC} {c : Ctx} (hm : P.follows .mixedOrders = true) (hK : ∀ s E a w, Inv c E s a w → (K s).den → Q .normal a w) {id : Nat} {s : St} (hv : (exDraw2 P ct ops s K).den) {E : Env} {a : Act} {w : World} (h : Inv c E s a w) :
    (Code.region id ops true).wp P Q a w := by
  unfold exDraw2 at hv
  cases hb : effOk ops (permF ops ops.size (List.range ops.size)) && anyEff ct ops.toList with
  | true => rw [hb] at hv; exact exEff_ok hm hK hv h
  | false => rw [hb] at hv; exact exDraw_ok hm hK hv h
end
end E
end Go.Proofs.YtbjapgekagljeaaDoor
