/- What must be shown of a piece of code, as a formula that is reckoned out of its text; contracts of functions; one operation. No program in sight. -/
import Derived.Test.YtbjapgekagljeaaDoorE7
namespace Go.Proofs.YtbjapgekagljeaaDoor
open Go Go.RowKit
namespace E
/-- A formula. -/
inductive VC : Type 1 where
  | t | f | pr (p : Prop) | and (a b : VC) | imp (p : Prop) (v : VC) | ob (p : Prop) (v : VC) | all (α : Type) (g : α → VC) | ex (α : Type) (g : α → VC) | or (a b : VC)
def VC.den : VC → Prop
  | .t => True
  | .f => False
  | .pr p => p
  | .and a b => a.den ∧ b.den
  | .imp p v => p → v.den
  | .ob p v => p ∧ v.den
  | .all _ g => ∀ x, (g x).den
  | .ex _ g => ∃ x, (g x).den
  | .or a b => a.den ∨ b.den
/-! ### contracts -/
structure KeepBut (M : Nat → Prop) (w w' : World) : Prop where
  os : w'.os = w.os
  tape : w'.tape = w.tape
  output : w'.output = w.output
  size : w.heap.size ≤ w'.heap.size
  block : ∀ b, b < w.heap.size → ¬ M b → w'.heap[b]? = w.heap[b]?
def Grow (S : Nat → Prop) (w w' : World) (b : Nat) : Prop := S b ∨ (w.heap.size ≤ b ∧ b < w'.heap.size)
def E0 : Env := ⟨[], []⟩
/-- What a function does with values and at most one lent box: it returns; the value and the box as told. -/
def Fn (P : Program) (f : FuncId) (ins : List SV) (bs : Option (TypeId × List SV)) (G : Type) (post : G → Prop) (out : G → SV) (bs' : G → Option (TypeId × List SV)) : Prop :=
  ∀ (S : Nat → Prop) (B : List Nat) (w : World) (vs : List Value), (∀ b, S b → b < w.heap.size) → (∀ b ∈ B, ¬ S b) → B.length = bs.toList.length → (∀ p, bs = some p → ∀ b ∈ B, BoxOk S E0 w p b) → RelVs S ⟨B, []⟩ w ins vs →
    Calls P f vs.toArray w fun e w' => ∃ g v, e = .returned v ∧ post g ∧ KeepBut (· ∈ B) w w' ∧ RelV (Grow S w w') ⟨B, []⟩ w' (out g) v ∧ (bs' g).isSome = bs.isSome ∧ ∀ p, bs' g = some p → ∀ b ∈ B, BoxOk (Grow S w w') E0 w' p b
/-- What a function does that makes a box and gives a pointer to it: the box as told, the call's alone. -/
def FnB (P : Program) (f : FuncId) (ins : List SV) (G : Type) (post : G → Prop) (bx : G → TypeId × List SV) : Prop :=
  ∀ (S : Nat → Prop) (w : World) (vs : List Value), (∀ b, S b → b < w.heap.size) → RelVs S ⟨[], []⟩ w ins vs →
    Calls P f vs.toArray w fun e w' => ∃ g b, e = .returned (.pointer (some ⟨b, 0, none⟩)) ∧ post g ∧ KeepBut (· ∈ ([] : List Nat)) w w' ∧ w.heap.size ≤ b ∧ BoxOk (fun b' => Grow S w w' b' ∧ b' ≠ b) E0 w' (bx g) b
def Enters (P : Program) (f : FuncId) : Prop := ∀ args w, (callFunc f args).run P w = .ok (.enter f args) w
theorem enters {P : Program} {f : FuncId} {fn : Func} {c : Code} (hf : P.funcs[f]? = some fn) (hname : (fn.name == "runtime.NumGoroutine") = false) (hb : fn.body = some c) : Enters P f := fun args w => by
  have hn : ¬ fn.name = "runtime.NumGoroutine" := by simpa using hname
  simp [callFunc, Sem.run_bind, program, Sem.run, hf, hn, hb]
abbrev Got := Prop × SV × Option (TypeId × List SV)
inductive Con (P : Program) : Type 1 where
  | f0 (f : FuncId) (get : List SV → Option (TypeId × List SV) → Option Got) (enter : Enters P f) (ok : ∀ ins bs p out bs', get ins bs = some (p, out, bs') → p → Fn P f ins bs Unit (fun _ => True) (fun _ => out) (fun _ => bs'))
  | fg (f : FuncId) (G : Type) (get : List SV → Option (TypeId × List SV) → Option (Prop × (G → Prop × SV × Option (TypeId × List SV)))) (enter : Enters P f)
      (ok : ∀ ins bs p q, get ins bs = some (p, q) → p → Fn P f ins bs G (fun g => (q g).1) (fun g => (q g).2.1) (fun g => (q g).2.2))
  | fb (f : FuncId) (G : Type) (get : List SV → Option (Prop × (G → Prop × (TypeId × List SV)))) (enter : Enters P f)
      (ok : ∀ ins p q, get ins = some (p, q) → p → FnB P f ins G (fun g => (q g).1) (fun g => (q g).2))
def Con.id {P : Program} : Con P → FuncId
  | .f0 f _ _ _ => f
  | .fg f _ _ _ _ => f
  | .fb f _ _ _ _ => f
theorem Con.enters {P : Program} : ∀ c : Con P, Enters P c.id
  | .f0 _ _ h _ => h
  | .fg _ _ _ h _ => h
  | .fb _ _ _ h _ => h
/-- The first contract that speaks of such a call. -/
def callBy {P : Program} (ct : List (Con P)) (f : FuncId) (ins : List SV) (bs : Option (TypeId × List SV)) (K : SV → Option (TypeId × List SV) → VC) (Kb : TypeId × List SV → VC) : VC :=
  match ct with
  | [] => .f
  | c :: ct => bif Nat.beq c.id f then
      match c with
      | .f0 _ get _ _ => match get ins bs with
        | some (p, out, bs') => .ob p (K out bs')
        | none => callBy ct f ins bs K Kb
      | .fg _ G get _ _ => match get ins bs with
        | some (p, q) => .ob p (.all G fun g => .imp (q g).1 (K (q g).2.1 (q g).2.2))
        | none => callBy ct f ins bs K Kb
      | .fb _ G get _ _ => match bs, get ins with
        | none, some (p, q) => .ob p (.all G fun g => .imp (q g).1 (Kb (q g).2))
        | _, _ => callBy ct f ins bs K Kb
    else callBy ct f ins bs K Kb
theorem callBy_ok {P : Program} {f : FuncId} {ins : List SV} {bs : Option (TypeId × List SV)} {K : SV → Option (TypeId × List SV) → VC} {Kb : TypeId × List SV → VC} : ∀ {ct : List (Con P)}, (callBy ct f ins bs K Kb).den →
    Enters P f ∧ ((∃ (G : Type) (post : G → Prop) (out : G → SV) (bs' : G → Option (TypeId × List SV)), Fn P f ins bs G post out bs' ∧ ∀ g, post g → (K (out g) (bs' g)).den) ∨
      (bs = none ∧ ∃ (G : Type) (post : G → Prop) (bx : G → TypeId × List SV), FnB P f ins G post bx ∧ ∀ g, post g → (Kb (bx g)).den))
  | [], h => h.elim
  | c :: ct, h => by
    unfold callBy at h
    cases hc : Nat.beq c.id f with
    | false => rw [hc] at h; exact callBy_ok h
    | true =>
      rw [hc] at h
      have he : c.id = f := Nat.eq_of_beq_eq_true hc
      simp only [cond_true] at h
      cases c with
      | f0 f' get enter ok =>
        have he : f' = f := he
        subst he
        simp only at h
        split at h
        · rename_i p out bs' hg
          exact ⟨enter, .inl ⟨Unit, _, _, _, ok ins bs p out bs' hg h.1, fun _ _ => h.2⟩⟩
        · exact callBy_ok h
      | fg f' G get enter ok =>
        have he : f' = f := he
        subst he
        simp only at h
        split at h
        · rename_i p q hg
          exact ⟨enter, .inl ⟨G, _, _, _, ok ins bs p q hg h.1, fun g hp => h.2 g hp⟩⟩
        · exact callBy_ok h
      | fb f' G get enter ok =>
        have he : f' = f := he
        subst he
        simp only at h
        split at h
        · rename_i p q hg
          exact ⟨enter, .inr ⟨rfl, G, _, _, ok ins p q hg h.1, fun g hp => h.2 g hp⟩⟩
        · exact callBy_ok h
/-! ### values that name nothing of the caller's -/
mutual
def plain : SV → Bool
  | .own _ | .bp _ _ | .rp _ _ _ _ => false
  | .agg l => plains l
  | .tup l => plains l
  | .fn _ l => plains l
  | .ifc _ l => plains l
  | .bf _ l => plains l
  | _ => true
def plains : List SV → Bool
  | [] => true
  | x :: l => plain x && plains l
end
mutual
theorem plain_rel {S : Nat → Prop} {E E' : Env} {w : World} : ∀ {x : SV} {v : Value}, plain x = true → RelV S E w x v → RelV S E' w x v
  | .un, _, _, _ => trivial
  | .tt, _, _, h => h
  | .ff, _, _, h => h
  | .int _ _, _, _, h => h
  | .bool _, _, _, h => h
  | .str _, _, _, h => h
  | .raw _, _, _, h => h
  | .nil, _, _, h => h
  | .sl _ _, _, _, h => h
  | .own _, _, hp, _ => by simp [plain] at hp
  | .agg _, _, hp, ⟨vs, h1, h2⟩ => ⟨vs, h1, plains_rel (by simpa [plain] using hp) h2⟩
  | .tup _, _, hp, ⟨vs, h1, h2⟩ => ⟨vs, h1, plains_rel (by simpa [plain] using hp) h2⟩
  | .bp _ _, _, hp, _ => by simp [plain] at hp
  | .rp _ _ _ _, _, hp, _ => by simp [plain] at hp
  | .ptr _ _ _, _, _, h => h
  | .fn _ _, _, hp, ⟨vs, h1, h2⟩ => ⟨vs, h1, plains_rel (by simpa [plain] using hp) h2⟩
  | .nilp, _, _, h => h
  | .ifc _ _, _, hp, ⟨vs, h1, h2⟩ => ⟨vs, h1, plains_rel (by simpa [plain] using hp) h2⟩
  | .bf _ _, _, hp, ⟨vs, h1, h2⟩ => ⟨vs, h1, plains_rel (by simpa [plain] using hp) h2⟩
theorem plains_rel {S : Nat → Prop} {E E' : Env} {w : World} : ∀ {l : List SV} {vs : List Value}, plains l = true → RelVs S E w l vs → RelVs S E' w l vs
  | [], _, _, h => h
  | _ :: _, _, hp, ⟨v, vs', h1, h2, h3⟩ => by
    simp only [plains, Bool.and_eq_true] at hp
    exact ⟨v, vs', h1, plain_rel hp.1 h2, plains_rel hp.2 h3⟩
end
/-- The arguments of a call: rows are no more written, the one box that may be lent is found. -/
def lend : List SV → Option (Option Nat × List SV)
  | [] => some (none, [])
  | .bp j off :: l => match lend l with
    | some (none, r) => some (some j, .bp 0 off :: r)
    | some (some i, r) => bif Nat.beq i j then some (some j, .bp 0 off :: r) else none
    | none => none
  | x :: l => bif plain x then match lend l with
      | some (i, r) => some (i, x :: r)
      | none => none
    else none
theorem lend_rel {S : Nat → Prop} {E : Env} {w : World} : ∀ {l r : List SV} {i : Option Nat} {vs : List Value}, lend l = some (i, r) → RelVs S E w l vs → ∀ B : List Nat, (∀ j, i = some j → ∃ b, E.bx[j]? = some b ∧ B[0]? = some b) → RelVs S ⟨B, []⟩ w r vs
  | [], r, i, vs, h, hr, B, hB => by
    simp [lend] at h
    obtain ⟨rfl, rfl⟩ := h
    exact hr
  | x :: l, r, i, vs, h, ⟨v, vs', h1, h2, h3⟩, B, hB => by
    subst h1
    unfold lend at h
    split at h
    · rename_i hx; cases hx
    · rename_i j off l' hx
      injection hx with hx1 hx2
      subst hx1; subst hx2
      obtain ⟨b, h5, h6⟩ := h2
      split at h
      · rename_i r' hr'
        simp at h
        obtain ⟨rfl, rfl⟩ := h
        obtain ⟨b', h7, h8⟩ := hB j rfl
        rw [h5] at h7; simp at h7; subst h7
        exact ⟨v, vs', rfl, ⟨b, h8, h6⟩, lend_rel hr' h3 B (fun k hk => by cases hk)⟩
      · rename_i k r' hr'
        cases hk : Nat.beq k j with
        | false => rw [hk] at h; cases h
        | true =>
          rw [hk] at h
          simp at h
          obtain ⟨rfl, rfl⟩ := h
          obtain ⟨b', h7, h8⟩ := hB j rfl
          rw [h5] at h7; simp at h7; subst h7
          have hk : k = j := Nat.eq_of_beq_eq_true hk
          exact ⟨v, vs', rfl, ⟨b, h8, h6⟩, lend_rel hr' h3 B (fun q hq => by simp at hq; subst hq; exact ⟨b, by rw [hk]; exact h5, h8⟩)⟩
      · cases h
    · rename_i x' l' hno hx
      injection hx with hx1 hx2
      subst hx1; subst hx2
      cases hp : plain x with
      | false => rw [hp] at h; cases h
      | true =>
        rw [hp] at h
        simp only [cond_true] at h
        split at h
        · rename_i i' r' hr'
          simp at h
          obtain ⟨rfl, rfl⟩ := h
          exact ⟨v, vs', rfl, plain_rel hp h2, lend_rel hr' h3 B hB⟩
        · cases h
section
variable {c : Ctx} {E : Env} {s : St} {a : Act} {w w' : World}
theorem grow_le {M : Nat → Prop} (h : Inv c E s a w) (hk : KeepBut M w w') {s' : St} (ho : own E s' = own E s) (b : Nat) (hb : Grow (Reg c E s w) w w' b) : Reg c E s' w' b := by
  rcases hb with h1 | ⟨h1, h2⟩
  · exact ⟨h1.1, Nat.lt_of_lt_of_le h1.2.1 hk.size, fun x hx => h1.2.2 x (by rw [ho] at hx; exact hx)⟩
  · refine ⟨.inr (Nat.le_trans h.size h1), h2, fun x hx => ?_⟩
    rw [ho] at hx
    have := h.own_lt hx; omega
theorem Inv.call0 (h : Inv c E s a w) (hk : KeepBut (· ∈ ([] : List Nat)) w w') : Inv c E s a w' := by
  refine h.move hk.os hk.tape hk.output hk.size (fun x b hx => .inl ⟨x, hx, id⟩) (fun b hb _ => hk.block b hb (by simp)) E.le_refl rfl h.nbx h.nrw ?_ ?_ h.inj
  · intro hK hS j p b hp hb
    exact (h.bx j p b hp hb).mono hK hS E.le_refl (hk.block b (h.box_lt hb) (by simp))
  · intro hK hS j r v hr hv
    refine (h.rw j r v hr hv).mono hK hS (fun hst b hb => hk.block b (h.own_lt (x := .r j) ?_) (by simp))
    simp only [own, hr, hst, if_true]
    exact Option.bind_eq_some_iff.2 ⟨v, hv, hb⟩
theorem Inv.callB (h : Inv c E s a w) {p : TypeId × List SV} {b : Nat} (hk : KeepBut (· ∈ ([] : List Nat)) w w') (hge : w.heap.size ≤ b) (hp : BoxOk (fun b' => Grow (Reg c E s w) w w' b' ∧ b' ≠ b) E0 w' p b) :
    Inv c ⟨E.bx ++ [b], E.rw⟩ { s with bx := s.bx ++ [p] } a w' := by
  have hown : ∀ x b', own ⟨E.bx ++ [b], E.rw⟩ { s with bx := s.bx ++ [p] } x = some b' → own E s x = some b' ∨ (x = .b E.bx.length ∧ b' = b) := by
    intro x b' hx
    cases x with
    | b j =>
      rcases append_get (l := E.bx) (x := b) hx with h1 | ⟨h1, h2⟩
      · exact .inl h1
      · exact .inr ⟨by rw [h1], h2⟩
    | r j => exact .inl hx
  have hold : ∀ b', b' < w.heap.size → w'.heap[b']? = w.heap[b']? := fun b' hb' => hk.block b' hb' (by simp)
  refine h.move hk.os hk.tape hk.output hk.size (fun x b' hx => ?_) (fun b' hb' _ => hold b' hb') (E.le_box _) rfl (by simp [h.nbx]) h.nrw ?_ ?_ ?_
  · rcases hown x b' hx with h1 | ⟨_, h1⟩
    · exact .inl ⟨x, h1, id⟩
    · exact .inr (by omega)
  · intro hK hS j q b' hq hb
    rcases append_get hq with h1 | ⟨h1, h2⟩
    · rcases append_get hb with h3 | ⟨h3, h4⟩
      · exact (h.bx j q b' h1 h3).mono hK hS (E.le_box _) (hold b' (h.box_lt h3))
      · have : j < s.bx.length := (List.getElem?_eq_some_iff.1 h1).1
        rw [← h.nbx] at this; omega
    · rcases append_get hb with h3 | ⟨h3, h4⟩
      · have : j < E.bx.length := (List.getElem?_eq_some_iff.1 h3).1
        rw [h.nbx] at this; omega
      · subst h2; subst h4
        refine hp.mono (fun _ _ => rfl) (fun b0 ⟨h5, h6⟩ => ?_) ⟨fun _ _ h => by simp [E0] at h, fun _ _ h => by simp [E0] at h⟩ rfl
        rcases h5 with h7 | ⟨h7, h8⟩
        · exact hS b0 h7
        · refine ⟨.inr (Nat.le_trans h.size h7), h8, fun x hx => ?_⟩
          rcases hown x b0 hx with h9 | ⟨_, h9⟩
          · have := h.own_lt h9; omega
          · exact h6 h9
  · intro hK hS j r v hr hv
    refine (h.rw j r v hr hv).mono hK hS (fun hst b' hb' => hold b' (h.own_lt (x := .r j) ?_))
    simp only [own, hr, hst, if_true]
    exact Option.bind_eq_some_iff.2 ⟨v, hv, hb'⟩
  · intro x y b' hx hy
    rcases hown x b' hx with h1 | ⟨h1, h2⟩ <;> rcases hown y b' hy with h3 | ⟨h3, h4⟩
    · exact h.inj x y b' h1 h3
    · have := h.own_lt h1; omega
    · have := h.own_lt h3; omega
    · rw [h1, h3]
theorem Inv.call1 (h : Inv c E s a w) {j b : Nat} {p p' : TypeId × List SV} (hp : s.bx[j]? = some p) (hb : E.bx[j]? = some b) (hk : KeepBut (· ∈ [b]) w w') (hp' : BoxOk (Grow (Reg c E s w) w w') E0 w' p' b) : Inv c E (s.setBox j p') a w' := by
  have hob : own E s (.b j) = some b := hb
  have hj : j < s.bx.length := (List.getElem?_eq_some_iff.1 hp).1
  refine h.move hk.os hk.tape hk.output hk.size (fun x b' hx => .inl ⟨x, by rw [own_setBox] at hx; exact hx, id⟩) (fun b' hb' hno => hk.block b' hb' (fun e => hno (.b j) (by simp at e; rw [e]; exact hob))) E.le_refl rfl (by simp [St.setBox, h.nbx]) h.nrw ?_ ?_ ?_
  · intro hK hS i q b' hq hb'
    simp only [St.setBox, List.getElem?_set] at hq
    split at hq
    · rename_i e
      subst e
      simp at hq; subst hq
      rw [hb] at hb'; simp at hb'; subst hb'
      exact hp'.mono (fun _ _ => rfl) (grow_le h hk (own_setBox E s j p')) ⟨fun _ _ h => by simp [E0] at h, fun _ _ h => by simp [E0] at h⟩ rfl
    · rename_i e
      exact (h.bx i q b' hq hb').mono hK hS E.le_refl (hk.block b' (h.box_lt hb') (fun e' => e (by simp at e'; have := h.inj (.b i) (.b j) b' hb' (by rw [e']; exact hob); injection this with this; exact this.symm)))
  · intro hK hS i r v hr hv
    have hr : s.rw[i]? = some r := hr
    refine (h.rw i r v hr hv).mono hK hS (fun hst b' hb' => ?_)
    have h1 : own E s (.r i) = some b' := by
      simp only [own, hr, hst, if_true]; exact Option.bind_eq_some_iff.2 ⟨v, hv, hb'⟩
    refine hk.block b' (h.own_lt h1) (fun e => ?_)
    simp at e
    have := h.inj (.r i) (.b j) b' h1 (by rw [e]; exact hob)
    cases this
  · intro x y b' hx hy
    rw [own_setBox] at hx hy
    exact h.inj x y b' hx hy
end
mutual
/-- What a callee tells of the box that it was lent, by the caller's names. -/
def relend (j : Nat) : SV → SV
  | .bp 0 off => .bp j off
  | .bp (_ + 1) _ => .un
  | .own _ => .un
  | .rp _ _ _ _ => .un
  | .agg l => .agg (relends j l)
  | .tup l => .tup (relends j l)
  | .fn f l => .fn f (relends j l)
  | .ifc t l => .ifc t (relends j l)
  | .bf f l => .bf f (relends j l)
  | .un => .un
  | .tt => .tt
  | .ff => .ff
  | .int k n => .int k n
  | .bool b => .bool b
  | .str s => .str s
  | .raw v => .raw v
  | .nil => .nil
  | .sl e ds => .sl e ds
  | .ptr t d off => .ptr t d off
  | .nilp => .nilp
def relends (j : Nat) : List SV → List SV
  | [] => []
  | x :: l => relend j x :: relends j l
end
mutual
theorem relend_rel {S : Nat → Prop} {E : Env} {w : World} {j b : Nat} (hb : E.bx[j]? = some b) : ∀ {x : SV} {v : Value}, RelV S ⟨[b], []⟩ w x v → RelV S E w (relend j x) v
  | .bp 0 _, _, ⟨b', h1, h2⟩ => by simp at h1; subst h1; exact ⟨b, hb, h2⟩
  | .bp (_ + 1) _, _, _ => trivial
  | .own _, _, _ => trivial
  | .rp _ _ _ _, _, _ => trivial
  | .agg _, _, ⟨vs, h1, h2⟩ => ⟨vs, h1, relends_rel hb h2⟩
  | .tup _, _, ⟨vs, h1, h2⟩ => ⟨vs, h1, relends_rel hb h2⟩
  | .fn _ _, _, ⟨vs, h1, h2⟩ => ⟨vs, h1, relends_rel hb h2⟩
  | .ifc _ _, _, ⟨vs, h1, h2⟩ => ⟨vs, h1, relends_rel hb h2⟩
  | .bf _ _, _, ⟨vs, h1, h2⟩ => ⟨vs, h1, relends_rel hb h2⟩
  | .un, _, _ => trivial
  | .tt, _, h => h
  | .ff, _, h => h
  | .int _ _, _, h => h
  | .bool _, _, h => h
  | .str _, _, h => h
  | .raw _, _, h => h
  | .nil, _, h => h
  | .sl _ _, _, h => h
  | .ptr _ _ _, _, h => h
  | .nilp, _, h => h
theorem relends_rel {S : Nat → Prop} {E : Env} {w : World} {j b : Nat} (hb : E.bx[j]? = some b) : ∀ {l : List SV} {vs : List Value}, RelVs S ⟨[b], []⟩ w l vs → RelVs S E w (relends j l) vs
  | [], _, h => h
  | _ :: _, _, ⟨v, vs', h1, h2, h3⟩ => ⟨v, vs', h1, relend_rel hb h2, relends_rel hb h3⟩
end
/-! ### one operation -/
def fz (s : St) (l : List SV) : St × List SV :=
  match l with
  | [] => (s, [])
  | x :: l => ((fz (freezeS s x).1 l).1, (freezeS s x).2 :: (fz (freezeS s x).1 l).2)
theorem freezeS_fr (s : St) (x : SV) : (freezeS s x).1.fr = s.fr := by
  unfold freezeS
  split
  · exact freezeL_fr _ _
  · exact freezeL_fr _ _
  · exact freezeV_fr _ _
theorem fz_ok {c : Ctx} {E : Env} {a : Act} {w : World} : ∀ {l : List SV} {vs : List Value} {s : St}, Inv c E s a w → RelVs (Reg c E s w) E w l vs → Inv c E (fz s l).1 a w ∧ Under c E w s (fz s l).1 ∧ RelVs (Reg c E (fz s l).1 w) E w (fz s l).2 vs
  | [], _, _, h, hr => ⟨h, fun _ hb => hb, hr⟩
  | x :: l, _, s, h, ⟨v, vs', h1, h2, h3⟩ => by
    subst h1
    obtain ⟨h4, h5, h6⟩ := freezeS_ok h h2
    obtain ⟨h7, h8, h9⟩ := fz_ok h4 (h5.rels h3)
    exact ⟨h7, fun _ hb => h8 _ (h5 _ hb), v, vs', rfl, h8.rel h6, h9⟩
def callVC {P : Program} (ct : List (Con P)) (s : St) (f : FuncId) (l : List SV) (dst : Option Tmp) (K : St → VC) : VC :=
  match lend (fz s l).2 with
  | some (none, r) => callBy ct f r none (fun out bs' => match bs' with
    | none => K ((fz s l).1.put dst out)
    | some _ => .f) (fun p => K ({ (fz s l).1 with bx := (fz s l).1.bx ++ [p] }.put dst (.bp (fz s l).1.bx.length 0)))
  | some (some j, r) => match (fz s l).1.bx[j]? with
    | some p => bif plains p.2 then callBy ct f r (some p) (fun out bs' => match bs' with
        | some p' => K (((fz s l).1.setBox j p').put dst (relend j out))
        | none => .f) (fun _ => .f)
      else .f
    | none => .f
  | none => .f
/-- What one operation leads to. -/
def Leads (P : Program) (o : Oper) (s : St) (v : (St → VC) → VC) : Prop :=
  ∀ K, (v K).den → ∀ c E a w, Inv c E s a w → ∀ Q, o.wp P a w (fun a' w' => ∃ s' E', Inv c E' s' a' w' ∧ (K s').den) Q
theorem leads_call {P : Program} {ct : List (Con P)} {o : Oper} {s : St} {x : Operand} {args : Array Operand} {ts : Array TypeId} {f : FuncId} {pre caps : List SV} (ho : o.op = .call { callee := .value x, args := args, argTypes := ts }) (hx : (s.ev x = .fn f caps ∧ pre = []) ∨ (s.ev x = .bf f pre ∧ caps = [])) :
    Leads P o s (callVC ct s f (pre ++ (args.toList.map s.ev ++ caps)) o.dst) := by
  intro K hv c E a w h Q
  obtain ⟨ps, cs, hxv, hps, hcs⟩ : ∃ ps cs : List Value, a.eval x = .func (.func f) ps.toArray cs.toArray ∧ RelVs (Reg c E s w) E w pre ps ∧ RelVs (Reg c E s w) E w caps cs := by
    have h1 := h.ev x
    rcases hx with ⟨hx, rfl⟩ | ⟨hx, rfl⟩
    · rw [hx] at h1
      obtain ⟨cs, h2, h3⟩ := h1
      exact ⟨[], cs, h2, rfl, h3⟩
    · rw [hx] at h1
      obtain ⟨cs, h2, h3⟩ := h1
      exact ⟨cs, [], h2, h3, rfl⟩
  have hargs : RelVs (Reg c E s w) E w (pre ++ (args.toList.map s.ev ++ caps)) (ps ++ (args.toList.map a.eval ++ cs)) := hps.append ((evs_rel h _).append hcs)
  obtain ⟨h2, h3, h4⟩ := fz_ok h hargs
  generalize hs2 : (fz s (pre ++ (args.toList.map s.ev ++ caps))).1 = s2 at *
  generalize hl2 : (fz s (pre ++ (args.toList.map s.ev ++ caps))).2 = l2 at *
  unfold callVC at hv
  rw [hs2, hl2] at hv
  have hrun : ∀ (he : Enters P f), (execOp a.eval o).run P w = .ok (.enter f (ps ++ (args.toList.map a.eval ++ cs)).toArray) w := by
    intro he
    unfold execOp; rw [ho]
    simp only [resolve, hxv, Deferred.ofValue, pure_bind, invoke]
    have : (ps.toArray ++ Array.map a.eval args ++ cs.toArray) = (ps ++ (args.toList.map a.eval ++ cs)).toArray := by
      apply Array.toList_inj.1; simp
    rw [this]
    exact he _ w
  have h0 : ∀ w' (b : Nat), Grow (Reg c E s2 w) w w' b → Grow (Reg c E s2 w) w w' b := fun _ _ h => h
  unfold Oper.wp
  split at hv
  · rename_i r hr
    obtain ⟨he, ⟨G, post, out, bs', hf, hK⟩ | ⟨_, G, post, bx, hf, hK⟩⟩ := callBy_ok hv
    case inr =>
      rw [hrun he, Oper.upon_enter]
      refine (hf (Reg c E s2 w) w _ (fun b hb => hb.2.1) (lend_rel hr h4 [] (fun j hj => by cases hj))).mono ?_
      rintro e w' ⟨g, b, rfl, hp, hk, hge, hbx⟩
      refine ⟨_, ⟨E.bx ++ [b], E.rw⟩, (h2.callB hk hge hbx).put o.dst ?_, hK g hp⟩
      exact ⟨b, by rw [← h2.nbx]; simp, rfl⟩
    rw [hrun he, Oper.upon_enter]
    refine (hf (Reg c E s2 w) [] w _ (fun b hb => hb.2.1) (by simp) rfl (by simp) (lend_rel hr h4 [] (fun j hj => by cases hj))).mono ?_
    rintro e w' ⟨g, v, rfl, hp, hk, hv', hb1, _⟩
    have hk' := hK g hp
    cases hb : bs' g with
    | some p => rw [hb] at hb1; cases hb1
    | none =>
      rw [hb] at hk'
      have h5 := h2.call0 hk
      refine ⟨_, E, h5.put o.dst ?_, hk'⟩
      exact hv'.mono (fun _ _ => rfl) (grow_le h2 hk rfl) ⟨fun _ _ h => by simp at h, fun _ _ h => by simp at h⟩
  · rename_i j r hr
    split at hv
    · rename_i p hp
      cases hpl : plains p.2 with
      | false => rw [hpl] at hv; exact hv.elim
      | true =>
        rw [hpl] at hv
        simp only [cond_true] at hv
        obtain ⟨he, ⟨G, post, out, bs', hf, hK⟩ | ⟨hno, _⟩⟩ := callBy_ok hv
        case inr => cases hno
        rw [hrun he, Oper.upon_enter]
        have hj : j < E.bx.length := by rw [h2.nbx]; exact (List.getElem?_eq_some_iff.1 hp).1
        obtain ⟨b, hb⟩ : ∃ b, E.bx[j]? = some b := ⟨_, List.getElem?_eq_getElem hj⟩
        have hbox := h2.bx j p b hp hb
        have hbox0 : BoxOk (Reg c E s2 w) E0 w p b := by
          obtain ⟨cs', h6, h7, h8⟩ := hbox
          exact ⟨cs', h6, plains_rel hpl h7, h8⟩
        refine (hf (Reg c E s2 w) [b] w _ (fun b hb => hb.2.1) (fun b' hb' hS => by simp at hb'; subst hb'; exact hS.2.2 (.b j) hb) rfl (fun p' hp' b' hb' => by simp at hp' hb'; subst hp'; subst hb'; exact hbox0) (lend_rel hr h4 [b] (fun k hk => by simp at hk; subst hk; exact ⟨b, hb, rfl⟩))).mono ?_
        rintro e w' ⟨g, v, rfl, hpo, hk, hv', hb1, hb2⟩
        have hk' := hK g hpo
        cases hbs : bs' g with
        | none => rw [hbs] at hb1; cases hb1
        | some p' =>
          rw [hbs] at hk'
          have h5 := h2.call1 hp hb hk (hb2 p' hbs b (by simp))
          refine ⟨_, E, h5.put o.dst (relend_rel hb ?_), hk'⟩
          exact hv'.mono (fun _ _ => rfl) (grow_le h2 hk (own_setBox E s2 j p')) (Env.le_refl _)
    · exact hv.elim
  · exact hv.elim
end E
end Go.Proofs.YtbjapgekagljeaaDoor
