/- Whole bodies: branches, blocks, loops by what holds at their heads; and a function's contract out of its body's formula. No program in sight. -/
import Derived.Test.YtbjapgekagljeaaDoorEX
namespace Go.Proofs.YtbjapgekagljeaaDoor
open Go Go.RowKit
namespace E
/-! ### one state implies another -/
mutual
/-- What must be shown for what is known of a value by x to give y. mr: the rows of the second state among those of the first. -/
def eqSV (nb : Nat) (mr : List Nat) : SV → SV → Option (List Prop)
  | _, .un => some []
  | .tt, .tt => some []
  | .ff, .ff => some []
  | .tt, .bool b => some [b = true]
  | .ff, .bool b => some [b = false]
  | .bool b, .bool b' => some [b = b']
  | .bool b, .tt => some [b = true]
  | .bool b, .ff => some [b = false]
  | .int k n, .int k' n' => bif kindEq k k' then some [n = n'] else none
  | .str a, .str b => some [a = b]
  | .raw a, .raw b => some [a = b]
  | .nil, .nil => some []
  | .nil, .sl _ ds => some [ds = []]
  | .sl e ds, .sl e' ds' => bif tyEq e e' then some [ds = ds'] else none
  | .own i, .own j => match mr[j]? with
    | some i' => bif Nat.beq i' i then some [] else none
    | none => none
  | .bp j off, .bp j' off' => bif Nat.beq j j' && Nat.beq off off' && Nat.blt j nb then some [] else none
  | .ptr t d off, .ptr t' d' off' => bif tyEq t t' && Nat.beq off off' then some [d = d'] else none
  | .nilp, .nilp => some []
  | .agg l, .agg l' => eqSVs nb mr l l'
  | .tup l, .tup l' => eqSVs nb mr l l'
  | .fn f l, .fn f' l' => bif Nat.beq f f' then eqSVs nb mr l l' else none
  | .ifc f l, .ifc f' l' => bif Nat.beq f f' then eqSVs nb mr l l' else none
  | .bf f l, .bf f' l' => bif Nat.beq f f' then eqSVs nb mr l l' else none
  | _, _ => none
def eqSVs (nb : Nat) (mr : List Nat) : List SV → List SV → Option (List Prop)
  | [], [] => some []
  | x :: l, y :: l' => match eqSV nb mr x y with
    | some ps => match eqSVs nb mr l l' with
      | some qs => some (ps ++ qs)
      | none => none
    | none => none
  | _, _ => none
end
def conj : List Prop → Prop
  | [] => True
  | [p] => p
  | p :: q :: l => p ∧ conj (q :: l)
theorem conj_mem : ∀ {l : List Prop}, conj l → ∀ p ∈ l, p
  | [], _, _, h => by cases h
  | [p], h, q, hq => by rw [List.mem_singleton.1 hq]; exact h
  | p :: q :: l, h, r, hr => by
    rcases List.mem_cons.1 hr with rfl | hr
    · exact h.1
    · exact conj_mem h.2 r hr
theorem all_append {l m : List Prop} (h : ∀ p ∈ l ++ m, p) : (∀ p ∈ l, p) ∧ ∀ p ∈ m, p := ⟨fun p hp => h p (List.mem_append_left _ hp), fun p hp => h p (List.mem_append_right _ hp)⟩
section
variable {S : Nat → Prop} {E E' : Env} {w : World} {nb : Nat} {mr : List Nat}
mutual
theorem eqSV_rel (hE : ∀ (j i : Nat), mr[j]? = some i → ∀ v, E.rw[i]? = some v → E'.rw[j]? = some v) (hbx : ∀ (j b : Nat), E.bx[j]? = some b → j < nb → E'.bx[j]? = some b) :
    ∀ {x y : SV} {ps : List Prop} {v : Value}, eqSV nb mr x y = some ps → (∀ p ∈ ps, p) → RelV S E w x v → RelV S E' w y v
  | x, y, ps, v, h, hp, hr => by
    unfold eqSV at h
    split at h
    · trivial
    · exact hr
    · exact hr
    · simp at h; subst h; have := hp _ (List.mem_singleton.2 rfl); rw [this]; exact hr
    · simp at h; subst h; have := hp _ (List.mem_singleton.2 rfl); rw [this]; exact hr
    · simp at h; subst h; have := hp _ (List.mem_singleton.2 rfl); rw [← this]; exact hr
    · simp at h; subst h; have := hp _ (List.mem_singleton.2 rfl); rw [this] at hr; exact hr
    · simp at h; subst h; have := hp _ (List.mem_singleton.2 rfl); rw [this] at hr; exact hr
    · rename_i k n k' n'
      cases hk : kindEq k k' with
      | false => rw [hk] at h; cases h
      | true =>
        rw [hk] at h
        simp at h; subst h
        have := hp _ (List.mem_singleton.2 rfl)
        rw [← this, ← kindEq_eq hk]; exact hr
    · simp at h; subst h; have := hp _ (List.mem_singleton.2 rfl); rw [← this]; exact hr
    · simp at h; subst h; have := hp _ (List.mem_singleton.2 rfl); rw [← this]; exact hr
    · exact hr
    · simp at h; subst h
      have h0 := hp _ (List.mem_singleton.2 rfl)
      rw [h0]
      have hr : v = .slice none 0 0 := hr
      rw [hr]
      exact ⟨none, 0, 0, [], rfl, rfl, rfl, Nat.le_refl _, by omega, fun h => absurd rfl h⟩
    · rename_i e ds e' ds'
      cases hk : tyEq e e' with
      | false => rw [hk] at h; cases h
      | true =>
        rw [hk] at h
        simp at h; subst h
        have := hp _ (List.mem_singleton.2 rfl)
        rw [← this, ← tyEq_eq hk]; exact hr
    · rename_i i j
      split at h
      · rename_i i' hi'
        cases hk : Nat.beq i' i with
        | false => rw [hk] at h; cases h
        | true =>
          have := Nat.eq_of_beq_eq_true hk
          subst this
          exact ⟨hE j i' hi' v hr.1, hr.2⟩
      · cases h
    · rename_i j off j' off'
      cases hk : Nat.beq j j' && Nat.beq off off' && Nat.blt j nb with
      | false => rw [hk] at h; cases h
      | true =>
        simp only [Bool.and_eq_true] at hk
        have h1 := Nat.eq_of_beq_eq_true hk.1.1
        have h2 := Nat.eq_of_beq_eq_true hk.1.2
        subst h1; subst h2
        obtain ⟨b, h3, h4⟩ := hr
        exact ⟨b, hbx j b h3 (Nat.le_of_ble_eq_true hk.2), h4⟩
    · rename_i t d off t' d' off'
      cases hk : tyEq t t' && Nat.beq off off' with
      | false => rw [hk] at h; cases h
      | true =>
        rw [hk] at h
        simp only [Bool.and_eq_true] at hk
        simp at h; subst h
        have h0 := hp _ (List.mem_singleton.2 rfl)
        rw [← h0, ← tyEq_eq hk.1, ← Nat.eq_of_beq_eq_true hk.2]; exact hr
    · exact hr
    · obtain ⟨vs, h1, h2⟩ := hr
      exact ⟨vs, h1, eqSVs_rel hE hbx h hp h2⟩
    · obtain ⟨vs, h1, h2⟩ := hr
      exact ⟨vs, h1, eqSVs_rel hE hbx h hp h2⟩
    iterate 3
      · rename_i f l f' l'
        cases hk : Nat.beq f f' with
        | false => rw [hk] at h; cases h
        | true =>
          rw [hk] at h
          have h0 := Nat.eq_of_beq_eq_true hk
          subst h0
          obtain ⟨vs, h1, h2⟩ := hr
          exact ⟨vs, h1, eqSVs_rel hE hbx h hp h2⟩
    · cases h
theorem eqSVs_rel (hE : ∀ (j i : Nat), mr[j]? = some i → ∀ v, E.rw[i]? = some v → E'.rw[j]? = some v) (hbx : ∀ (j b : Nat), E.bx[j]? = some b → j < nb → E'.bx[j]? = some b) :
    ∀ {l m : List SV} {ps : List Prop} {vs : List Value}, eqSVs nb mr l m = some ps → (∀ p ∈ ps, p) → RelVs S E w l vs → RelVs S E' w m vs
  | l, m, ps, vs, h, hp, hr => by
    unfold eqSVs at h
    split at h
    · exact hr
    · split at h
      · rename_i x l' y m' ps' h1
        split at h
        · rename_i qs h2
          simp at h; subst h
          obtain ⟨hp1, hp2⟩ := all_append hp
          obtain ⟨v, vs', h3, h4, h5⟩ := hr
          exact ⟨v, vs', h3, eqSV_rel hE hbx h1 hp1 h4, eqSVs_rel hE hbx h2 hp2 h5⟩
        · cases h
      · cases h
    · cases h
end
end
/-! ### states -/
def findOwn (j : Nat) : List SV → List SV → Option Nat
  | .own j' :: t, .own i :: s => bif Nat.beq j' j then some i else findOwn j t s
  | _ :: t, _ :: s => findOwn j t s
  | _, _ => none
def allCells : List (TypeId × List SV) → List SV
  | [] => []
  | p :: r => p.2 ++ allCells r
def mapRows (t s : List SV) : Nat → Nat → Option (List Nat)
  | _, 0 => some []
  | j, n + 1 => match findOwn j t s, mapRows t s (j + 1) n with
    | some i, some r => bif has r i then none else some (i :: r)
    | _, _ => none
def eqBoxes (nb : Nat) (mr : List Nat) : List (TypeId × List SV) → List (TypeId × List SV) → Option (List Prop)
  | _, [] => some []
  | p :: s, q :: t => match eqSVs nb mr p.2 q.2, eqBoxes nb mr s t with
    | some ps, some qs => bif Nat.beq p.1 q.1 && q.2.all SV.one then some (ps ++ qs) else none
    | _, _ => none
  | [], _ :: _ => none
def eqRows (s : List Row) : List Nat → List Row → Option (List Prop)
  | [], [] => some []
  | i :: mr, q :: t => match s[i]?, eqRows s mr t with
    | some r, some ps => bif Nat.beq r.st q.st && Nat.beq r.tid q.tid && tyEq r.e q.e then some ((r.ds = q.ds) :: ps) else none
    | _, _ => none
  | _, _ => none
/-- What must be shown for the state s to be one of t's kind. -/
def leSt (s t : St) : Option (List Prop) :=
  match mapRows (t.fr ++ allCells t.bx) (s.fr ++ allCells s.bx) 0 t.rw.length with
  | some mr => match eqSVs t.bx.length mr s.fr t.fr, eqBoxes t.bx.length mr s.bx t.bx, eqRows s.rw mr t.rw with
    | some ps, some qs, some rs => some (ps ++ (qs ++ rs))
    | _, _, _ => none
  | none => none
theorem mapRows_nodup {t s : List SV} : ∀ {n j : Nat} {mr : List Nat}, mapRows t s j n = some mr → mr.Nodup
  | 0, _, _, h => by simp [mapRows] at h; subst h; exact List.nodup_nil
  | n + 1, j, mr, h => by
    unfold mapRows at h
    split at h
    · rename_i i r h1 h2
      cases hb : has r i with
      | true => rw [hb] at h; cases h
      | false =>
        rw [hb] at h
        simp at h; subst h
        refine List.nodup_cons.2 ⟨fun hm => ?_, mapRows_nodup h2⟩
        have : ∀ l : List Nat, i ∈ l → has l i = true := by
          intro l hl
          induction l with
          | nil => cases hl
          | cons x l ih =>
            unfold has
            rcases List.mem_cons.1 hl with rfl | hl
            · rw [show Nat.beq i i = true from by simp]; rfl
            · rw [ih hl]; cases Nat.beq x i <;> rfl
        rw [this r hm] at hb; cases hb
    · cases h
theorem eqRows_len {s : List Row} : ∀ {mr : List Nat} {t : List Row} {ps : List Prop}, eqRows s mr t = some ps → mr.length = t.length
  | [], [], _, _ => rfl
  | [], _ :: _, _, h => by simp [eqRows] at h
  | _ :: _, [], _, h => by simp [eqRows] at h
  | i :: mr, q :: t, ps, h => by
    unfold eqRows at h
    split at h
    · rename_i r ps' h1 h2
      rw [List.length_cons, List.length_cons, eqRows_len h2]
    · cases h
theorem eqRows_get {s : List Row} : ∀ {mr : List Nat} {t : List Row} {ps : List Prop}, eqRows s mr t = some ps → (∀ p ∈ ps, p) → ∀ (j : Nat) (q : Row), t[j]? = some q → ∃ i r, mr[j]? = some i ∧ s[i]? = some r ∧ r = q
  | [], [], _, _, _, j, q, hq => by simp at hq
  | [], _ :: _, _, h, _, _, _, _ => by simp [eqRows] at h
  | _ :: _, [], _, h, _, _, _, _ => by simp [eqRows] at h
  | i :: mr, q0 :: t, ps, h, hp, j, q, hq => by
    unfold eqRows at h
    split at h
    · rename_i r ps' h1 h2
      cases hk : Nat.beq r.st q0.st && Nat.beq r.tid q0.tid && tyEq r.e q0.e with
      | false => rw [hk] at h; cases h
      | true =>
        rw [hk] at h
        simp at h; subst h
        simp only [Bool.and_eq_true] at hk
        cases j with
        | zero =>
          simp at hq; subst hq
          refine ⟨i, r, rfl, h1, ?_⟩
          have e1 := Nat.eq_of_beq_eq_true hk.1.1
          have e2 := Nat.eq_of_beq_eq_true hk.1.2
          have e3 := tyEq_eq hk.2
          have e4 : r.ds = q0.ds := hp _ (List.mem_cons_self ..)
          obtain ⟨a1, a2, a3, a4⟩ := r
          obtain ⟨b1, b2, b3, b4⟩ := q0
          simp only at e1 e2 e3 e4
          rw [e1, e2, e3, e4]
        | succ j =>
          obtain ⟨i', r', h3, h4, h5⟩ := eqRows_get h2 (fun p hp' => hp p (List.mem_cons_of_mem _ hp')) j q (by simpa using hq)
          exact ⟨i', r', by simpa using h3, h4, h5⟩
    · cases h
theorem eqBoxes_get {nb : Nat} {mr : List Nat} : ∀ {s t : List (TypeId × List SV)} {ps : List Prop}, eqBoxes nb mr s t = some ps → (∀ p ∈ ps, p) → t.length ≤ s.length ∧ ∀ (j : Nat) (q : TypeId × List SV), t[j]? = some q → ∃ p qs, s[j]? = some p ∧ p.1 = q.1 ∧ q.2.all SV.one = true ∧ eqSVs nb mr p.2 q.2 = some qs ∧ ∀ x ∈ qs, x
  | s, [], _, _, _ => ⟨by simp, fun j q hq => by simp at hq⟩
  | [], _ :: _, _, h, _ => by simp [eqBoxes] at h
  | p :: s, q0 :: t, ps, h, hp => by
    unfold eqBoxes at h
    split at h
    · rename_i ps' qs' h1 h2
      cases hk : Nat.beq p.1 q0.1 && q0.2.all SV.one with
      | false => rw [hk] at h; cases h
      | true =>
        rw [hk] at h
        simp at h; subst h
        simp only [Bool.and_eq_true] at hk
        obtain ⟨hp1, hp2⟩ := all_append hp
        obtain ⟨h3, h4⟩ := eqBoxes_get h2 hp2
        refine ⟨by simp; exact h3, fun j q hq => ?_⟩
        cases j with
        | zero =>
          simp at hq; subst hq
          exact ⟨p, ps', rfl, Nat.eq_of_beq_eq_true hk.1, hk.2, h1, hp1⟩
        | succ j =>
          obtain ⟨p', qs, h5, h6⟩ := h4 j q (by simpa using hq)
          exact ⟨p', qs, by simpa using h5, h6⟩
    · cases h
theorem Inv.weaken {c : Ctx} {E : Env} {s t : St} {a : Act} {w : World} (h : Inv c E s a w) {ps : List Prop} (hle : leSt s t = some ps) (hp : ∀ p ∈ ps, p) (hl : c.lent.isSome = true → 0 < t.bx.length) : ∃ E', Inv c E' t a w := by
  unfold leSt at hle
  split at hle
  · rename_i mr hmr
    split at hle
    · rename_i ps' qs' rs' h1 h2 h3
      simp at hle; subst hle
      obtain ⟨hp1, hp2⟩ := all_append hp
      obtain ⟨hp2, hp3⟩ := all_append hp2
      have hnd := mapRows_nodup hmr
      have hlen := eqRows_len h3
      have hrows := eqRows_get h3 hp3
      obtain ⟨hbl, hboxes⟩ := eqBoxes_get h2 hp2
      have hbE : t.bx.length ≤ E.bx.length := by rw [h.nbx]; exact hbl
      have hrE : ∀ (j i : Nat), mr[j]? = some i → ∃ v, E.rw[i]? = some v := by
        intro j i hi
        have hj : j < t.rw.length := by rw [← hlen]; exact (List.getElem?_eq_some_iff.1 hi).1
        obtain ⟨i', r, h4, h5, _⟩ := hrows j _ (List.getElem?_eq_getElem hj)
        rw [hi] at h4; simp at h4; subst h4
        have : i < E.rw.length := by rw [h.nrw]; exact (List.getElem?_eq_some_iff.1 h5).1
        exact ⟨_, List.getElem?_eq_getElem this⟩
      refine ⟨⟨E.bx.take t.bx.length, mr.map fun i => E.rw.getD i undef⟩, ?_⟩
      generalize hE' : (⟨E.bx.take t.bx.length, mr.map fun i => E.rw.getD i undef⟩ : Env) = E'
      have hEr : ∀ (j i : Nat), mr[j]? = some i → ∀ v, E.rw[i]? = some v → E'.rw[j]? = some v := by
        intro j i hi v hv
        subst hE'
        show (mr.map _)[j]? = _
        rw [List.getElem?_map, hi, Option.map_some, List.getD_eq_getElem?_getD, hv]; rfl
      have hEb : ∀ (j b : Nat), E.bx[j]? = some b → j < t.bx.length → E'.bx[j]? = some b := by
        intro j b hb hj
        subst hE'
        show (E.bx.take _)[j]? = _
        rw [List.getElem?_take, if_pos hj]; exact hb
      have hEb' : ∀ (j b : Nat), E'.bx[j]? = some b → E.bx[j]? = some b ∧ j < t.bx.length := by
        intro j b hb
        subst hE'
        simp only [List.getElem?_take] at hb
        split at hb
        · exact ⟨hb, by assumption⟩
        · cases hb
      have hEr' : ∀ (j : Nat) (v : Value), E'.rw[j]? = some v → ∃ i, mr[j]? = some i ∧ E.rw[i]? = some v := by
        intro j v hv
        have hmj : ∃ i, mr[j]? = some i := by
          subst hE'
          simp only [List.getElem?_map] at hv
          cases hm : mr[j]? with
          | none => rw [hm] at hv; cases hv
          | some i => exact ⟨i, rfl⟩
        obtain ⟨i, hi⟩ := hmj
        obtain ⟨u, hu⟩ := hrE j i hi
        have := hEr j i hi u hu
        rw [hv] at this; simp at this; subst this
        exact ⟨i, hi, hu⟩
      have hown : ∀ x b, own E' t x = some b → ∃ y, own E s y = some b ∧ y.box = x.box ∧ (∀ j, x = .b j → y = .b j) ∧ ∀ j, x = .r j → ∃ i, mr[j]? = some i ∧ y = .r i := by
        intro x b hx
        cases x with
        | b j => exact ⟨.b j, (hEb' j b hx).1, rfl, fun _ h => h, fun _ h => by cases h⟩
        | r j =>
          simp only [own] at hx
          split at hx
          · rename_i q hq
            split at hx
            · rename_i hst
              obtain ⟨v, hv, hvb⟩ := Option.bind_eq_some_iff.1 hx
              obtain ⟨i, hi, hEi⟩ := hEr' j v hv
              obtain ⟨i', r, h4, h5, h6⟩ := hrows j q hq
              rw [hi] at h4; simp at h4; subst h4
              subst h6
              refine ⟨.r i, ?_, rfl, fun _ h => (by cases h), fun j' h => ⟨i, by injection h with h; subst h; exact hi, rfl⟩⟩
              simp only [own, h5, hst, if_true]
              exact Option.bind_eq_some_iff.2 ⟨v, hEi, hvb⟩
            · cases hx
          · cases hx
      have hS : ∀ b, Reg c E s w b → Reg c E' t w b := fun b hb => ⟨hb.1, hb.2.1, fun x hx => by
        obtain ⟨y, hy, _⟩ := hown x b hx
        exact hb.2.2 y hy⟩
      have mono : ∀ {l : List SV} {vs : List Value}, RelVs (Reg c E s w) E w l vs → RelVs (Reg c E' t w) E w l vs := fun hr => hr.mono (fun _ _ => rfl) hS E.le_refl
      refine ⟨h.os, h.tape, h.output, h.size, h.old, h.defers, eqSVs_rel hEr hEb h1 hp1 (mono h.fr), ?_, ?_, ?_, ?_, ?_, ?_, ?_⟩
      · subst hE'; simp; exact Nat.min_eq_left hbE
      · subst hE'; simp [hlen]
      · intro j q b hq hb
        obtain ⟨p, qs, h4, h5, h6, h7, h8⟩ := hboxes j q hq
        obtain ⟨cs, h9, h10, _⟩ := h.bx j p b h4 (hEb' j b hb).1
        exact ⟨cs, by rw [← h5]; exact h9, eqSVs_rel hEr hEb h7 h8 (mono h10), h6⟩
      · intro j q v hq hv
        obtain ⟨i, hi, hEi⟩ := hEr' j v hv
        obtain ⟨i', r, h4, h5, h6⟩ := hrows j q hq
        rw [hi] at h4; simp at h4; subst h4
        subst h6
        exact (h.rw i r v h5 hEi).mono (fun _ _ => rfl) hS (fun _ _ _ => rfl)
      · intro x y b hx hy
        obtain ⟨x', h4, h5, h6, h7⟩ := hown x b hx
        obtain ⟨y', h8, h9, h10, h11⟩ := hown y b hy
        have e := h.inj x' y' b h4 h8
        cases x with
        | b j =>
          have hx' := h6 j rfl
          cases y with
          | b k =>
            have hy' := h10 k rfl
            rw [hx', hy'] at e; exact e
          | r k =>
            obtain ⟨i, _, hy'⟩ := h11 k rfl
            rw [hx', hy'] at e; cases e
        | r j =>
          obtain ⟨i, hi, hx'⟩ := h7 j rfl
          cases y with
          | b k =>
            have hy' := h10 k rfl
            rw [hx', hy'] at e; cases e
          | r k =>
            obtain ⟨i2, hi2, hy'⟩ := h11 k rfl
            rw [hx', hy'] at e
            injection e with e
            subst e
            have hj := (List.getElem?_eq_some_iff.1 hi).1
            have hk := (List.getElem?_eq_some_iff.1 hi2).1
            have : mr[j]'hj = mr[k]'hk := by
              rw [List.getElem?_eq_getElem hj] at hi
              rw [List.getElem?_eq_getElem hk] at hi2
              simp at hi hi2
              rw [hi, hi2]
            rw [(List.getElem_inj hnd).1 this]
      · intro x b hx
        obtain ⟨y, hy, hyx, _⟩ := hown x b hx
        rw [← hyx]
        exact h.new y b hy
      · intro b hb
        exact hEb 0 b (h.lent b hb) (hl (by rw [hb]; rfl))
    · cases hle
  · cases hle
end E
end Go.Proofs.YtbjapgekagljeaaDoor
