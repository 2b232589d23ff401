/- States: what is known while a function runs, and how each kind of step keeps it. Plain theory, no program in sight. -/
import Derived.Test.YtbjapgekagljeaaDoorE1
namespace Go.Proofs.YtbjapgekagljeaaDoor
open Go Go.RowKit
namespace E
/-- A slice of the call's own: st 0: it may be written and appended to; 1: it is no more written; else: gone. -/
structure Row where
  tid : TypeId
  e : Ty
  ds : List Dat
  st : Nat
structure St where
  fr : List SV
  bx : List (TypeId × List SV)
  rw : List Row
/-- The world in which the call began; where its arguments' data lie; the blocks that it was lent. -/
structure Ctx where
  w0 : World
  S0 : Nat → Prop
  M : Nat → Prop
  lent : Option Nat
inductive Slot where
  | b (j : Nat) | r (j : Nat)
  deriving DecidableEq
def Slot.box : Slot → Bool | .b _ => true | .r _ => false
def own (E : Env) (s : St) : Slot → Option Nat
  | .b j => E.bx[j]?
  | .r j => match s.rw[j]? with
    | some r => if r.st = 0 then (E.rw[j]?).bind Value.ownBlock else none
    | none => none
def Reg (c : Ctx) (E : Env) (s : St) (w : World) (b : Nat) : Prop := (c.S0 b ∨ c.w0.heap.size ≤ b) ∧ b < w.heap.size ∧ ∀ x, own E s x ≠ some b
def RowOk (S : Nat → Prop) (w : World) (r : Row) (v : Value) : Prop :=
  isSlice v ∧ (r.st = 0 → ∃ xs, w.ownsRow 0 r.tid r.e.size v r.ds.length xs ∧ r.ds.length ≤ 140737488355328 ∧ ∀ i x, r.ds[i]? = some x → Rep S w r.e ((xs.drop (i * r.e.size)).take r.e.size) x) ∧
    (r.st = 1 → Rep S w (.sl r.e) [v] (.node r.ds))
def BoxOk (S : Nat → Prop) (E : Env) (w : World) (p : TypeId × List SV) (b : Nat) : Prop := ∃ cs, w.heap[b]? = some (.cells cs.toArray p.1 (0, 0)) ∧ RelVs S E w p.2 cs ∧ p.2.all SV.one = true
structure Inv (c : Ctx) (E : Env) (s : St) (a : Act) (w : World) : Prop where
  os : w.os = c.w0.os
  tape : w.tape = c.w0.tape
  output : w.output = c.w0.output
  size : c.w0.heap.size ≤ w.heap.size
  old : ∀ b, b < c.w0.heap.size → ¬ c.M b → w.heap[b]? = c.w0.heap[b]?
  defers : a.defers = []
  fr : RelVs (Reg c E s w) E w s.fr a.tmps.toList
  nbx : E.bx.length = s.bx.length
  nrw : E.rw.length = s.rw.length
  bx : ∀ (j : Nat) (p : TypeId × List SV) (b : Nat), s.bx[j]? = some p → E.bx[j]? = some b → BoxOk (Reg c E s w) E w p b
  rw : ∀ (j : Nat) (r : Row) (v : Value), s.rw[j]? = some r → E.rw[j]? = some v → RowOk (Reg c E s w) w r v
  inj : ∀ x y b, own E s x = some b → own E s y = some b → x = y
  new : ∀ x b, own E s x = some b → (x.box = true ∧ c.M b) ∨ c.w0.heap.size ≤ b
  lent : ∀ b, c.lent = some b → E.bx[0]? = some b
theorem BoxOk.mono {S S' : Nat → Prop} {E E' : Env} {w w' : World} {p : TypeId × List SV} {b : Nat} (h : BoxOk S E w p b) (hk : Keeps S w w') (hS : ∀ b, S b → S' b) (hE : E.le E') (hb : w'.heap[b]? = w.heap[b]?) : BoxOk S' E' w' p b := by
  obtain ⟨cs, h1, h2, h3⟩ := h
  exact ⟨cs, by rw [hb]; exact h1, h2.mono hk hS hE, h3⟩
theorem ownsRow_block {w w' : World} {base : Nat} {e : TypeId} {size n : Nat} {v : Value} {xs : List Value} (h : w.ownsRow base e size v n xs) (hb : ∀ b, v.ownBlock = some b → w'.heap[b]? = w.heap[b]?) : w'.ownsRow base e size v n xs := by
  refine ⟨h.1, ?_⟩
  rcases h.2 with h2 | ⟨g, cap, cur, rfl, h3, h4, r⟩
  · exact .inl h2
  · exact .inr ⟨g, cap, cur, rfl, h3, by rw [hb g rfl]; exact h4, r⟩
theorem RowOk.mono {S S' : Nat → Prop} {w w' : World} {r : Row} {v : Value} (h : RowOk S w r v) (hk : Keeps S w w') (hS : ∀ b, S b → S' b) (hb : r.st = 0 → ∀ b, v.ownBlock = some b → w'.heap[b]? = w.heap[b]?) : RowOk S' w' r v := by
  obtain ⟨h0, h1, h2⟩ := h
  refine ⟨h0, fun hs => ?_, fun hs => (h2 hs).mono hk hS⟩
  obtain ⟨xs, h3, h4, h5⟩ := h1 hs
  exact ⟨xs, ownsRow_block h3 (hb hs), h4, fun i x hx => (h5 i x hx).mono hk hS⟩
theorem Inv.box_lt {c : Ctx} {E : Env} {s : St} {a : Act} {w : World} (h : Inv c E s a w) {j b : Nat} (hb : E.bx[j]? = some b) : b < w.heap.size := by
  have hj : j < s.bx.length := by rw [← h.nbx]; exact (List.getElem?_eq_some_iff.1 hb).1
  obtain ⟨cs, h1, _⟩ := h.bx j _ b (List.getElem?_eq_getElem hj) hb
  exact (Array.getElem?_eq_some_iff.1 h1).1
theorem Inv.own_lt {c : Ctx} {E : Env} {s : St} {a : Act} {w : World} (h : Inv c E s a w) {x : Slot} {b : Nat} (hb : own E s x = some b) : b < w.heap.size := by
  cases x with
  | b j => exact h.box_lt hb
  | r j =>
    simp only [own] at hb
    split at hb
    · rename_i r hr
      split at hb
      · rename_i hst
        obtain ⟨v, hv, hvb⟩ := Option.bind_eq_some_iff.1 hb
        obtain ⟨_, h1, _⟩ := h.rw j r v hr hv
        obtain ⟨xs, h3, _⟩ := h1 hst
        exact (h3.lt b hvb).2
      · cases hb
    · cases hb
/-- The world goes on: what is not owned stays. -/
theorem Inv.move {c : Ctx} {E E' : Env} {s s' : St} {a : Act} {w w' : World} (h : Inv c E s a w) (hos : w'.os = w.os) (htape : w'.tape = w.tape) (hout : w'.output = w.output)
    (hsz : w.heap.size ≤ w'.heap.size) (hown : ∀ x b, own E' s' x = some b → (∃ y, own E s y = some b ∧ (y.box = true → x.box = true)) ∨ w.heap.size ≤ b) (hk : ∀ b, b < w.heap.size → (∀ x, own E s x ≠ some b) → w'.heap[b]? = w.heap[b]?)
    (hE : E.le E') (hfr : s'.fr = s.fr) (hnbx : E'.bx.length = s'.bx.length) (hnrw : E'.rw.length = s'.rw.length)
    (hbx : Keeps (Reg c E s w) w w' → (∀ b, Reg c E s w b → Reg c E' s' w' b) → ∀ (j : Nat) (p : TypeId × List SV) (b : Nat), s'.bx[j]? = some p → E'.bx[j]? = some b → BoxOk (Reg c E' s' w') E' w' p b)
    (hrw : Keeps (Reg c E s w) w w' → (∀ b, Reg c E s w b → Reg c E' s' w' b) → ∀ (j : Nat) (r : Row) (v : Value), s'.rw[j]? = some r → E'.rw[j]? = some v → RowOk (Reg c E' s' w') w' r v)
    (hinj : ∀ x y b, own E' s' x = some b → own E' s' y = some b → x = y) : Inv c E' s' a w' := by
  have hS : ∀ b, Reg c E s w b → Reg c E' s' w' b := fun b hb => ⟨hb.1, Nat.lt_of_lt_of_le hb.2.1 hsz, fun x hx => by
    rcases hown x b hx with ⟨y, hy, _⟩ | hge
    · exact hb.2.2 y hy
    · have := hb.2.1; omega⟩
  have hK : Keeps (Reg c E s w) w w' := fun b hb => hk b hb.2.1 hb.2.2
  refine ⟨hos.trans h.os, htape.trans h.tape, hout.trans h.output, Nat.le_trans h.size hsz, fun b hb hM => ?_, h.defers, ?_, hnbx, hnrw, hbx hK hS, hrw hK hS, hinj, fun x b hx => ?_, fun b hb => hE.1 0 b (h.lent b hb)⟩
  · have hno : ∀ x, own E s x ≠ some b := fun x hx => by
      rcases h.new x b hx with ⟨_, h1⟩ | h1
      · exact hM h1
      · omega
    rw [hk b (Nat.lt_of_lt_of_le hb h.size) hno]
    exact h.old b hb hM
  · rw [hfr]; exact h.fr.mono hK hS hE
  · rcases hown x b hx with ⟨y, hy, hxy⟩ | hge
    · rcases h.new y b hy with ⟨h1, h2⟩ | h2
      · exact .inl ⟨hxy h1, h2⟩
      · exact .inr h2
    · exact .inr (Nat.le_trans h.size hge)
def St.put (s : St) (dst : Option Tmp) (x : SV) : St :=
  match dst with
  | some d => { s with fr := s.fr.set d x }
  | none => s
theorem own_put (E : Env) (s : St) (dst : Option Tmp) (x : SV) : own E (s.put dst x) = own E s := by cases dst <;> rfl
theorem put_toList (a : Act) (d : Nat) (v : Value) : (a.put (some d) v).tmps.toList = a.tmps.toList.set d v := by simp [Act.put]
theorem Inv.put {c : Ctx} {E : Env} {s : St} {a : Act} {w : World} (h : Inv c E s a w) (dst : Option Tmp) {x : SV} {v : Value} (hv : RelV (Reg c E s w) E w x v) : Inv c E (s.put dst x) (a.put dst v) w := by
  cases dst with
  | none => exact h
  | some d =>
    have hr : Reg c E (s.put (some d) x) w = Reg c E s w := rfl
    exact ⟨h.os, h.tape, h.output, h.size, h.old, h.defers, by rw [hr, put_toList]; exact h.fr.set d hv, h.nbx, h.nrw, h.bx, h.rw, h.inj, h.new, h.lent⟩
theorem Env.le_box (E : Env) (b : Nat) : E.le ⟨E.bx ++ [b], E.rw⟩ := ⟨fun j b' hj => by
  have : j < E.bx.length := (List.getElem?_eq_some_iff.1 hj).1
  show (E.bx ++ [b])[j]? = _
  rw [List.getElem?_append_left this]; exact hj, fun _ _ h => h⟩
theorem Env.le_row (E : Env) (v : Value) : E.le ⟨E.bx, E.rw ++ [v]⟩ := ⟨fun _ _ h => h, fun j b' hj => by
  have : j < E.rw.length := (List.getElem?_eq_some_iff.1 hj).1
  show (E.rw ++ [v])[j]? = _
  rw [List.getElem?_append_left this]; exact hj⟩
theorem append_get {α : Type} {l : List α} {x y : α} {j : Nat} (h : (l ++ [x])[j]? = some y) : l[j]? = some y ∨ (j = l.length ∧ y = x) := by
  rcases Nat.lt_or_ge j l.length with hj | hj
  · rw [List.getElem?_append_left hj] at h; exact .inl h
  · rw [List.getElem?_append_right hj] at h
    rcases Nat.lt_or_ge (j - l.length) 1 with h1 | h1
    · have : j = l.length := by omega
      subst this
      simp at h
      exact .inr ⟨rfl, h.symm⟩
    · rw [List.getElem?_eq_none (by simpa using h1)] at h; cases h
/-- A box is made. -/
theorem Inv.box {c : Ctx} {E : Env} {s : St} {a : Act} {w : World} (h : Inv c E s a w) (t : TypeId) {l : List SV} {cs : List Value} (hl : RelVs (Reg c E s w) E w l cs) (ho : l.all SV.one = true) :
    Inv c ⟨E.bx ++ [w.heap.size], E.rw⟩ { s with bx := s.bx ++ [(t, l)] } a (w.alloc (.cells cs.toArray t)) := by
  have hown : ∀ x b, own ⟨E.bx ++ [w.heap.size], E.rw⟩ { s with bx := s.bx ++ [(t, l)] } x = some b → own E s x = some b ∨ (x = .b E.bx.length ∧ b = w.heap.size) := by
    intro x b hx
    cases x with
    | b j =>
      rcases append_get (l := E.bx) (x := w.heap.size) hx with h1 | ⟨h1, h2⟩
      · exact .inl h1
      · exact .inr ⟨by rw [h1], h2⟩
    | r j => exact .inl hx
  refine h.move rfl rfl rfl (by simp) (fun x b hx => ?_) (fun b hb _ => Below.heap_alloc w _ b hb) (E.le_box _) rfl (by simp [h.nbx]) h.nrw ?_ ?_ ?_
  · rcases hown x b hx with h1 | ⟨_, h1⟩
    · exact .inl ⟨x, h1, id⟩
    · exact .inr (by omega)
  · intro hK hS j p b hp hb
    rcases append_get hp with h1 | ⟨h1, h2⟩
    · rcases append_get hb with h3 | ⟨h3, h4⟩
      · exact (h.bx j p b h1 h3).mono hK hS (E.le_box _) (Below.heap_alloc w _ b (h.box_lt h3))
      · have : j < s.bx.length := (List.getElem?_eq_some_iff.1 h1).1
        rw [← h.nbx] at this; omega
    · rcases append_get hb with h3 | ⟨h3, h4⟩
      · have : j < E.bx.length := (List.getElem?_eq_some_iff.1 h3).1
        rw [h.nbx] at this; omega
      · subst h2; subst h4
        exact ⟨cs, heap_alloc_new w _, hl.mono hK hS (E.le_box _), ho⟩
  · intro hK hS j r v hr hv
    refine (h.rw j r v hr hv).mono hK hS (fun hst b hb => Below.heap_alloc w _ b (h.own_lt (x := .r j) ?_))
    simp only [own, hr, hst, if_true]
    exact Option.bind_eq_some_iff.2 ⟨v, hv, hb⟩
  · intro x y b hx hy
    rcases hown x b hx with h1 | ⟨h1, h2⟩ <;> rcases hown y b hy with h3 | ⟨h3, h4⟩
    · exact h.inj x y b h1 h3
    · have := h.own_lt h1; omega
    · have := h.own_lt h3; omega
    · rw [h1, h3]
/-- A row is made. -/
theorem Inv.row {c : Ctx} {E : Env} {s : St} {a : Act} {w : World} (h : Inv c E s a w) (t : TypeId) (e : Ty) {ds : List Dat} {cs : List Value} (hs : cs.length = ds.length * e.size) (hm : ds.length ≤ 140737488355328)
    (hd : ∀ i x, ds[i]? = some x → Rep (Reg c E s w) w e ((cs.drop (i * e.size)).take e.size) x) :
    Inv c ⟨E.bx, E.rw ++ [.slice (some ⟨w.heap.size, 0, none⟩) ds.length ds.length]⟩ { s with rw := s.rw ++ [⟨t, e, ds, 0⟩] } a (w.alloc (.cells cs.toArray t)) := by
  have hown : ∀ x b, own ⟨E.bx, E.rw ++ [.slice (some ⟨w.heap.size, 0, none⟩) ds.length ds.length]⟩ { s with rw := s.rw ++ [⟨t, e, ds, 0⟩] } x = some b → own E s x = some b ∨ (x = .r E.rw.length ∧ b = w.heap.size) := by
    intro x b hx
    cases x with
    | b j => exact .inl hx
    | r j =>
      simp only [own] at hx ⊢
      split at hx
      · rename_i r hr
        split at hx
        · rename_i hst
          obtain ⟨v, hv, hvb⟩ := Option.bind_eq_some_iff.1 hx
          rcases append_get hv with h1 | ⟨h1, h2⟩
          · rcases append_get hr with h3 | ⟨h3, _⟩
            · left
              rw [h3]
              simp only [hst, if_true]
              exact Option.bind_eq_some_iff.2 ⟨v, h1, hvb⟩
            · have : j < E.rw.length := (List.getElem?_eq_some_iff.1 h1).1
              rw [h.nrw] at this; omega
          · subst h2
            simp [Value.ownBlock] at hvb
            exact .inr ⟨by rw [h1], hvb.symm⟩
        · cases hx
      · cases hx
  refine h.move rfl rfl rfl (by simp) (fun x b hx => ?_) (fun b hb _ => Below.heap_alloc w _ b hb) (E.le_row _) rfl h.nbx (by simp [h.nrw]) ?_ ?_ ?_
  · rcases hown x b hx with h1 | ⟨_, h1⟩
    · exact .inl ⟨x, h1, id⟩
    · exact .inr (by omega)
  · intro hK hS j p b hp hb
    exact (h.bx j p b hp hb).mono hK hS (E.le_row _) (Below.heap_alloc w _ b (h.box_lt hb))
  · intro hK hS j r v hr hv
    rcases append_get hr with h1 | ⟨h1, h2⟩
    · rcases append_get hv with h3 | ⟨h3, h4⟩
      · refine (h.rw j r v h1 h3).mono hK hS (fun hst b hb => Below.heap_alloc w _ b (h.own_lt (x := .r j) ?_))
        simp only [own, h1, hst, if_true]
        exact Option.bind_eq_some_iff.2 ⟨v, h3, hb⟩
      · have : j < s.rw.length := (List.getElem?_eq_some_iff.1 h1).1
        rw [← h.nrw] at this; omega
    · rcases append_get hv with h3 | ⟨h3, h4⟩
      · have : j < E.rw.length := (List.getElem?_eq_some_iff.1 h3).1
        rw [h.nrw] at this; omega
      · subst h2; subst h4
        refine ⟨⟨_, _, _, rfl⟩, fun _ => ⟨cs, ?_, hm, fun i x hx => (hd i x hx).mono hK hS⟩, fun h => by cases h⟩
        exact ⟨hs, .inr ⟨w.heap.size, ds.length, cs.toArray, rfl, Nat.zero_le _, heap_alloc_new w _, Nat.le_refl _, by simp only [maxLen]; show ds.length ≤ _; omega, by simpa using hs, by rw [← hs]; simp⟩⟩
  · intro x y b hx hy
    rcases hown x b hx with h1 | ⟨h1, h2⟩ <;> rcases hown y b hy with h3 | ⟨h3, h4⟩
    · exact h.inj x y b h1 h3
    · have := h.own_lt h1; omega
    · have := h.own_lt h3; omega
    · rw [h1, h3]
theorem Inv.drew {c : Ctx} {E : Env} {s : St} {a : Act} {w : World} (h : Inv c E s a w) : Inv c E s a w.drew := by
  refine h.move rfl rfl rfl (Nat.le_refl _) (fun x b hx => .inl ⟨x, hx, id⟩) (fun _ _ _ => rfl) E.le_refl rfl h.nbx h.nrw ?_ ?_ h.inj
  · intro hK hS j p b hp hb
    exact (h.bx j p b hp hb).mono hK hS E.le_refl rfl
  · intro hK hS j r v hr hv
    exact (h.rw j r v hr hv).mono hK hS (fun _ _ _ => rfl)
end E
end Go.Proofs.YtbjapgekagljeaaDoor
