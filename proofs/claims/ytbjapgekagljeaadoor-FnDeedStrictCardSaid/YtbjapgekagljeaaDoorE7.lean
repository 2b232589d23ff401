/- Operations that make memory or write to it: boxes, rows, stores, appends; and when a row is no more written. No program in sight. -/
import Derived.Test.YtbjapgekagljeaaDoorE6
import Derived.Great.BuildSlice
import Derived.Laws.OwnMore
namespace Go.Proofs.YtbjapgekagljeaaDoor
open Go Go.RowKit
namespace E
/-! ### a row that is no more written -/
def St.setRow (s : St) (j : Nat) (r : Row) : St := { s with rw := s.rw.set j r }
theorem own_setRow {E : Env} {s : St} {j : Nat} {r : Row} (hst : r.st ≠ 0) {x : Slot} {b : Nat} (h : own E (s.setRow j r) x = some b) : own E s x = some b ∧ x ≠ .r j := by
  cases x with
  | b i => exact ⟨h, by simp⟩
  | r i =>
    simp only [own, St.setRow] at h
    by_cases hij : j = i
    · subst hij
      rw [List.getElem?_set] at h
      split at h
      · rename_i r' hr'
        simp only [if_true] at hr'
        split at hr'
        · simp at hr'; subst hr'
          rw [if_neg hst] at h; cases h
        · cases hr'
      · cases h
    · rw [List.getElem?_set_ne hij] at h
      exact ⟨h, fun e => hij (by injection e with e; exact e.symm)⟩
theorem row_setRow {s : St} {j i : Nat} {r q : Row} (h : (s.setRow j r).rw[i]? = some q) : (i = j ∧ q = r) ∨ (i ≠ j ∧ s.rw[i]? = some q) := by
  simp only [St.setRow, List.getElem?_set] at h
  split at h
  · rename_i e
    split at h
    · simp at h; exact .inl ⟨e.symm, h.symm⟩
    · cases h
  · rename_i e
    exact .inr ⟨fun e' => e e'.symm, h⟩
theorem rep_of_owns {S : Nat → Prop} {w : World} {t : TypeId} {e : Ty} {v : Value} {ds : List Dat} {xs : List Value} (h : w.ownsRow 0 t e.size v ds.length xs) (hm : ds.length ≤ 140737488355328) (hd : ∀ i x, ds[i]? = some x → Rep S w e ((xs.drop (i * e.size)).take e.size) x)
    (hS : ∀ b, v.ownBlock = some b → S b) : Rep S w (.sl e) [v] (.node ds) := by
  rcases h.2 with ⟨rfl, h0⟩ | ⟨g, cap, cur, rfl, _, h6, h7, _, _, h8⟩
  · exact ⟨none, 0, 0, ds, rfl, rfl, h0, Nat.le_refl _, by omega, fun h => absurd rfl h⟩
  · refine ⟨_, _, cap, ds, rfl, rfl, rfl, h7, hm, fun _ => ⟨g, 0, rfl, hS g rfl, fun i x hx => ⟨_, ?_, hd i x hx⟩⟩⟩
    have : w.rangeAt g 0 xs := by
      rw [← h8]
      exact range_take (range_block (cs := cur.toList) (by simpa using h6))
    exact range_take (range_drop (n := i * e.size) this)
theorem Inv.freeze {c : Ctx} {E : Env} {s : St} {a : Act} {w : World} (h : Inv c E s a w) {j : Nat} {r : Row} (hr : s.rw[j]? = some r) (k : Nat) (hk : k ≠ 0) (h0 : k = 1 → r.st = 0 ∨ r.st = 1) : Inv c E (s.setRow j { r with st := k }) a w := by
  have hown : ∀ x b, own E (s.setRow j { r with st := k }) x = some b → own E s x = some b ∧ x ≠ .r j := fun x b hx => own_setRow (r := { r with st := k }) hk hx
  have hj : j < s.rw.length := (List.getElem?_eq_some_iff.1 hr).1
  refine h.move rfl rfl rfl (Nat.le_refl _) (fun x b hx => .inl ⟨x, (hown x b hx).1, id⟩) (fun _ _ _ => rfl) E.le_refl rfl h.nbx (by simp [St.setRow, h.nrw]) ?_ ?_ ?_
  · intro hK hS i p b hp hb
    exact (h.bx i p b hp hb).mono hK hS E.le_refl rfl
  · intro hK hS i q v hq hv
    rcases row_setRow hq with ⟨rfl, rfl⟩ | ⟨_, hq⟩
    · obtain ⟨h1, h2, h3⟩ := h.rw i r v hr hv
      refine ⟨h1, fun e => absurd e hk, fun e => ?_⟩
      rcases h0 e with hst | hst
      · obtain ⟨xs, h4, h5, h6⟩ := h2 hst
        refine rep_of_owns h4 h5 (fun i x hx => (h6 i x hx).mono hK hS) (fun b hb => ?_)
        have ho : own E s (.r i) = some b := by simp only [own, hr, hst, if_true]; exact Option.bind_eq_some_iff.2 ⟨v, hv, hb⟩
        refine ⟨?_, h.own_lt ho, fun x hx => ?_⟩
        · rcases h.new _ b ho with ⟨h7, _⟩ | h7
          · cases h7
          · exact .inr h7
        · obtain ⟨h8, h9⟩ := hown x b hx
          exact h9 (h.inj _ _ b h8 ho)
      · exact (h3 hst).mono hK hS
    · exact (h.rw i q v hq hv).mono hK hS (fun _ _ _ => rfl)
  · intro x y b hx hy
    exact h.inj x y b (hown x b hx).1 (hown y b hy).1
def freezeV (s : St) (x : SV) : St × SV :=
  match x with
  | .own j => match s.rw[j]? with
    | some r => if r.st = 0 then (s.setRow j { r with st := 1 }, .sl r.e r.ds) else if r.st = 1 then (s, .sl r.e r.ds) else (s, .un)
    | none => (s, .un)
  | x => (s, x)
def freezeL : St → List SV → St × List SV
  | s, [] => (s, [])
  | s, x :: l => ((freezeL (freezeV s x).1 l).1, (freezeV s x).2 :: (freezeL (freezeV s x).1 l).2)
def freezeS (s : St) (x : SV) : St × SV :=
  match x with
  | .agg l => ((freezeL s l).1, .agg (freezeL s l).2)
  | .tup l => ((freezeL s l).1, .tup (freezeL s l).2)
  | x => freezeV s x
/-- What is known of values lives on from one state to another over the same world. -/
def Under (c : Ctx) (E : Env) (w : World) (s s' : St) : Prop := ∀ b, Reg c E s w b → Reg c E s' w b
theorem Under.rel {c : Ctx} {E : Env} {w : World} {s s' : St} (h : Under c E w s s') {x : SV} {v : Value} (hr : RelV (Reg c E s w) E w x v) : RelV (Reg c E s' w) E w x v := hr.mono (fun _ _ => rfl) h E.le_refl
theorem Under.rels {c : Ctx} {E : Env} {w : World} {s s' : St} (h : Under c E w s s') {x : List SV} {v : List Value} (hr : RelVs (Reg c E s w) E w x v) : RelVs (Reg c E s' w) E w x v := hr.mono (fun _ _ => rfl) h E.le_refl
theorem under_setRow {c : Ctx} {E : Env} {w : World} {s : St} {j : Nat} {r : Row} (hst : r.st ≠ 0) : Under c E w s (s.setRow j r) := fun _ hb => ⟨hb.1, hb.2.1, fun x hx => hb.2.2 x (own_setRow hst hx).1⟩
theorem freezeV_ok {c : Ctx} {E : Env} {s : St} {a : Act} {w : World} (h : Inv c E s a w) {x : SV} {v : Value} (hr : RelV (Reg c E s w) E w x v) : Inv c E (freezeV s x).1 a w ∧ Under c E w s (freezeV s x).1 ∧ RelV (Reg c E (freezeV s x).1 w) E w (freezeV s x).2 v := by
  unfold freezeV
  split
  · rename_i j
    split
    · rename_i r hr'
      split
      · rename_i hst
        have h2 := h.freeze hr' 1 (by omega) (fun _ => .inl hst)
        refine ⟨h2, under_setRow (r := { r with st := 1 }) (by simp), ?_⟩
        have hj : j < s.rw.length := (List.getElem?_eq_some_iff.1 hr').1
        have := (h2.rw j { r with st := 1 } v (by simp [St.setRow, hj]) hr.1).2.2 rfl
        exact this
      · split
        · rename_i hst
          exact ⟨h, fun _ hb => hb, (h.rw j r v hr' hr.1).2.2 hst⟩
        · exact ⟨h, fun _ hb => hb, trivial⟩
    · exact ⟨h, fun _ hb => hb, trivial⟩
  · exact ⟨h, fun _ hb => hb, hr⟩
theorem freezeL_ok {c : Ctx} {E : Env} {a : Act} {w : World} : ∀ {l : List SV} {vs : List Value} {s : St}, Inv c E s a w → RelVs (Reg c E s w) E w l vs → Inv c E (freezeL s l).1 a w ∧ Under c E w s (freezeL s l).1 ∧ RelVs (Reg c E (freezeL s l).1 w) E w (freezeL s l).2 vs
  | [], _, _, h, hr => ⟨h, fun _ hb => hb, hr⟩
  | x :: l, _, s, h, ⟨v, vs', h1, h2, h3⟩ => by
    subst h1
    obtain ⟨h4, h5, h6⟩ := freezeV_ok h h2
    obtain ⟨h7, h8, h9⟩ := freezeL_ok h4 (h5.rels h3)
    exact ⟨h7, fun b hb => h8 b (h5 b hb), v, vs', rfl, h8.rel h6, h9⟩
theorem freezeS_ok {c : Ctx} {E : Env} {s : St} {a : Act} {w : World} (h : Inv c E s a w) {x : SV} {v : Value} (hr : RelV (Reg c E s w) E w x v) : Inv c E (freezeS s x).1 a w ∧ Under c E w s (freezeS s x).1 ∧ RelV (Reg c E (freezeS s x).1 w) E w (freezeS s x).2 v := by
  unfold freezeS
  split
  · obtain ⟨vs, rfl, h1⟩ := hr
    obtain ⟨h2, h3, h4⟩ := freezeL_ok h h1
    exact ⟨h2, h3, vs, rfl, h4⟩
  · obtain ⟨vs, rfl, h1⟩ := hr
    obtain ⟨h2, h3, h4⟩ := freezeL_ok h h1
    exact ⟨h2, h3, vs, rfl, h4⟩
  · exact freezeV_ok h hr
theorem freezeV_fr (s : St) (x : SV) : (freezeV s x).1.fr = s.fr := by
  unfold freezeV
  split
  · split
    · split
      · rfl
      · split <;> rfl
    · rfl
  · rfl
theorem freezeL_fr : ∀ (l : List SV) (s : St), (freezeL s l).1.fr = s.fr
  | [], _ => rfl
  | x :: l, s => by rw [freezeL, freezeL_fr l, freezeV_fr]
/-! ### a box is written -/
def St.setBox (s : St) (j : Nat) (p : TypeId × List SV) : St := { s with bx := s.bx.set j p }
theorem own_setBox (E : Env) (s : St) (j : Nat) (p : TypeId × List SV) : own E (s.setBox j p) = own E s := by funext x; cases x <;> rfl
theorem setCells_heap (b : Nat) : ∀ (vs : List Value) (o : Nat) (w : World) (k : Nat), k ≠ b → (w.setCells b o vs).heap[k]? = w.heap[k]?
  | [], _, _, _, _ => rfl
  | v :: vs, o, w, k, hk => by rw [World.setCells, setCells_heap b vs (o + 1) _ k hk, Below.heap_setCell _ _ _ _ hk]
theorem setCells_block (b : Nat) : ∀ (vs : List Value) (o : Nat) (w : World) (cs : List Value) (t : TypeId) (fr : Nat × Nat), w.heap[b]? = some (.cells cs.toArray t fr) → (w.setCells b o vs).heap[b]? = some (.cells (putAll cs o vs).toArray t fr)
  | [], _, _, _, _, _, h => h
  | v :: vs, o, w, cs, t, fr, h => by
    rw [World.setCells, putAll]
    refine setCells_block b vs (o + 1) _ _ t fr ?_
    simp [World.setCell, Array.getElem?_modify, h]
theorem setCells_same (b : Nat) : ∀ (vs : List Value) (o : Nat) (w : World), (w.setCells b o vs).heap.size = w.heap.size ∧ (w.setCells b o vs).os = w.os ∧ (w.setCells b o vs).tape = w.tape ∧ (w.setCells b o vs).output = w.output
  | [], _, _ => ⟨rfl, rfl, rfl, rfl⟩
  | v :: vs, o, w => by
    rw [World.setCells]
    obtain ⟨h1, h2, h3, h4⟩ := setCells_same b vs (o + 1) (w.setCell ⟨b, o, none⟩ v)
    exact ⟨by rw [h1]; simp, by rw [h2]; rfl, by rw [h3]; rfl, by rw [h4]; rfl⟩
theorem all_putAll : ∀ (m l : List SV) (o : Nat), l.all SV.one = true → m.all SV.one = true → (putAll l o m).all SV.one = true
  | [], _, _, h, _ => h
  | x :: m, l, o, h, k => by
    simp only [List.all_cons, Bool.and_eq_true] at k
    rw [putAll]
    refine all_putAll m _ (o + 1) ?_ k.2
    rw [List.all_eq_true] at *
    intro y hy
    rcases List.mem_or_eq_of_mem_set hy with h1 | h1
    · exact h y h1
    · rw [h1]; exact k.1
theorem Inv.setBox {c : Ctx} {E : Env} {s : St} {a : Act} {w : World} (h : Inv c E s a w) {j b : Nat} {p : TypeId × List SV} {m : List SV} {us : List Value} (o : Nat) (hp : s.bx[j]? = some p) (hb : E.bx[j]? = some b) (hm : RelVs (Reg c E s w) E w m us) (ho : m.all SV.one = true) :
    Inv c E (s.setBox j (p.1, putAll p.2 o m)) a (w.setCells b o us) := by
  obtain ⟨s1, s2, s3, s4⟩ := setCells_same b us o w
  have hob : own E s (.b j) = some b := hb
  have hj : j < s.bx.length := (List.getElem?_eq_some_iff.1 hp).1
  refine h.move s2 s3 s4 (by rw [s1]; exact Nat.le_refl _) (fun x b' hx => .inl ⟨x, by rw [own_setBox] at hx; exact hx, id⟩) (fun b' _ hno => setCells_heap b us o w b' (fun e => hno (.b j) (by rw [e]; exact hob))) E.le_refl rfl (by simp [St.setBox, h.nbx]) h.nrw ?_ ?_ ?_
  · intro hK hS i q b' hq hb'
    simp only [St.setBox, List.getElem?_set] at hq
    split at hq
    · rename_i e
      subst e
      simp at hq; subst hq
      rw [hb] at hb'; simp at hb'; subst hb'
      obtain ⟨cs, h1, h2, h3⟩ := h.bx j p b hp hb
      exact ⟨putAll cs o us, setCells_block b us o w cs _ _ h1, (h2.mono hK hS E.le_refl).putAll o (hm.mono hK hS E.le_refl), all_putAll _ _ _ h3 ho⟩
    · rename_i e
      exact (h.bx i q b' hq hb').mono hK hS E.le_refl (setCells_heap b us o w b' (fun e' => e (by have := h.inj (.b i) (.b j) b' hb' (by rw [e']; exact hob); injection this with this; exact this.symm)))
  · intro hK hS i r v hr hv
    refine (h.rw i r v hr hv).mono hK hS (fun hst b' hb' => setCells_heap b us o w b' (fun e => ?_))
    have h1 : own E s (.r i) = some b' := by
      have hr : s.rw[i]? = some r := hr
      simp only [own, hr, hst, if_true]; exact Option.bind_eq_some_iff.2 ⟨v, hv, hb'⟩
    have := h.inj (.r i) (.b j) b' h1 (by rw [e]; exact hob)
    cases this
  · intro x y b' hx hy
    rw [own_setBox] at hx hy
    exact h.inj x y b' hx hy
/-! ### append -/
def killRow (l : List Row) (j : Option Nat) (r : Row) : List Row :=
  match j with
  | some i => l.set i { r with st := 2 }
  | none => l
theorem Inv.append {c : Ctx} {E : Env} {s : St} {a : Act} {w w' : World} (h : Inv c E s a w) (j : Option Nat) {r : Row} {v v' : Value} {ds : List Dat} {xs ys : List Value} (hjr : ∀ i, j = some i → s.rw[i]? = some r ∧ E.rw[i]? = some v ∧ r.st = 0) (hjn : j = none → v.ownBlock = none)
    (hown : w'.ownsRow 0 r.tid r.e.size v' (r.ds.length + ds.length) (xs ++ ys)) (hxl : xs.length = r.ds.length * r.e.size)
    (hx : ∀ i x, r.ds[i]? = some x → Rep (Reg c E s w) w r.e ((xs.drop (i * r.e.size)).take r.e.size) x) (hy : ∀ i x, ds[i]? = some x → Rep (Reg c E s w) w r.e ((ys.drop (i * r.e.size)).take r.e.size) x)
    (hm : r.ds.length + ds.length ≤ 140737488355328) (hg : w.grownBy w' v.ownBlock) (hat : v'.ownBlock = v.ownBlock ∨ v'.ownBlock = some w.heap.size) (hsl : isSlice v') :
    Inv c ⟨E.bx, E.rw ++ [v']⟩ { s with rw := (killRow s.rw j r) ++ [⟨r.tid, r.e, r.ds ++ ds, 0⟩] } a w' := by
  generalize hrw : (killRow s.rw j r) = rw1
  have hlen : rw1.length = s.rw.length := by subst hrw; cases j <;> simp [killRow]
  have hold : ∀ i q, rw1[i]? = some q → q.st ≠ 2 → s.rw[i]? = some q ∧ j ≠ some i := by
    intro i q hq hst
    subst hrw
    cases j with
    | none => exact ⟨hq, by simp⟩
    | some k =>
      simp only [killRow, List.getElem?_set] at hq
      split at hq
      · split at hq
        · simp at hq; subst hq; exact absurd rfl hst
        · cases hq
      · rename_i e
        exact ⟨hq, by simpa using e⟩
  have hvb : ∀ i, j = some i → ∀ b, v.ownBlock = some b → own E s (.r i) = some b := by
    intro i hi b hb
    obtain ⟨h1, h2, h3⟩ := hjr i hi
    simp only [own, h1, h3, if_true]
    exact Option.bind_eq_some_iff.2 ⟨v, h2, hb⟩
  have hown' : ∀ x b, own ⟨E.bx, E.rw ++ [v']⟩ { s with rw := rw1 ++ [⟨r.tid, r.e, r.ds ++ ds, 0⟩] } x = some b → (own E s x = some b ∧ (∀ i, j = some i → x ≠ .r i)) ∨ (x = .r E.rw.length ∧ v'.ownBlock = some b) := by
    intro x b hx
    cases x with
    | b i => exact .inl ⟨hx, fun _ _ => by simp⟩
    | r i =>
      simp only [own] at hx
      split at hx
      · rename_i q hq
        split at hx
        · rename_i hst
          obtain ⟨u, hu, hub⟩ := Option.bind_eq_some_iff.1 hx
          rcases append_get hu with h1 | ⟨h1, h2⟩
          · rcases append_get hq with h3 | ⟨h3, _⟩
            · obtain ⟨h4, h5⟩ := hold i q h3 (by omega)
              left
              refine ⟨?_, fun k hk e => h5 (by injection e with e; rw [hk, e])⟩
              simp only [own, h4, hst, if_true]
              exact Option.bind_eq_some_iff.2 ⟨u, h1, hub⟩
            · have : i < E.rw.length := (List.getElem?_eq_some_iff.1 h1).1
              rw [hlen, ← h.nrw] at h3; omega
          · subst h2
            exact .inr ⟨by rw [h1], hub⟩
        · cases hx
      · cases hx
  refine h.move hg.os hg.tape hg.output hg.size (fun x b hx => ?_) (fun b hb hno => hg.block b hb (fun e => ?_)) (E.le_row _) rfl h.nbx (by simp [hlen, h.nrw]) ?_ ?_ ?_
  · rcases hown' x b hx with ⟨h1, _⟩ | ⟨rfl, h1⟩
    · exact .inl ⟨x, h1, id⟩
    · rcases hat with h2 | h2
      · rw [h2] at h1
        cases j with
        | none => rw [hjn rfl] at h1; cases h1
        | some i => exact .inl ⟨.r i, hvb i rfl b h1, fun e => by cases e⟩
      · rw [h2] at h1; simp at h1; exact .inr (by omega)
  · cases j with
    | none => rw [hjn rfl] at e; cases e
    | some i => exact hno (.r i) (hvb i rfl b e.symm)
  · intro hK hS i p b hp hb
    refine (h.bx i p b hp hb).mono hK hS (E.le_row _) (hg.block b (h.box_lt hb) (fun e => ?_))
    cases j with
    | none => rw [hjn rfl] at e; cases e
    | some k =>
      have := h.inj (.b i) (.r k) b hb (hvb k rfl b e.symm)
      cases this
  · intro hK hS i q u hq hu
    rcases append_get hq with h1 | ⟨h1, h2⟩
    · rcases append_get hu with h3 | ⟨h3, h4⟩
      · by_cases h2 : q.st = 2
        · have hsl' : isSlice u := by
            subst hrw
            cases j with
            | none => exact (h.rw i q u h1 h3).1
            | some k =>
              simp only [killRow, List.getElem?_set] at h1
              split at h1
              · rename_i e
                subst e
                obtain ⟨h5, h6, _⟩ := hjr k rfl
                exact (h.rw k r u h5 h3).1
              · exact (h.rw i q u h1 h3).1
          exact ⟨hsl', fun e => by omega, fun e => by omega⟩
        · obtain ⟨h4, h5⟩ := hold i q h1 h2
          refine (h.rw i q u h4 h3).mono hK hS (fun hst b hb => ?_)
          have ho : own E s (.r i) = some b := by simp only [own, h4, hst, if_true]; exact Option.bind_eq_some_iff.2 ⟨u, h3, hb⟩
          refine hg.block b (h.own_lt ho) (fun e => ?_)
          cases j with
          | none => rw [hjn rfl] at e; cases e
          | some k =>
            have := h.inj (.r i) (.r k) b ho (hvb k rfl b e.symm)
            injection this with this
            exact h5 (by rw [this])
      · have : i < rw1.length := (List.getElem?_eq_some_iff.1 h1).1
        rw [hlen, ← h.nrw] at this; omega
    · rcases append_get hu with h3 | ⟨h3, h4⟩
      · have : i < E.rw.length := (List.getElem?_eq_some_iff.1 h3).1
        rw [hlen, ← h.nrw] at h1; omega
      · subst h2; subst h4
        refine ⟨hsl, fun _ => ⟨xs ++ ys, by rw [List.length_append]; exact hown, by rw [List.length_append]; exact hm, fun k x hk => ?_⟩, fun e => by cases e⟩
        show Rep _ _ r.e (((xs ++ ys).drop (k * r.e.size)).take r.e.size) x
        simp only at hk
        rcases Nat.lt_or_ge k r.ds.length with hlt | hge
        · rw [List.getElem?_append_left hlt] at hk
          have h5 : k * r.e.size + r.e.size ≤ xs.length := by rw [hxl, ← Nat.succ_mul]; exact Nat.mul_le_mul_right _ hlt
          rw [List.drop_append_of_le_length (by omega), List.take_append_of_le_length (by rw [List.length_drop]; omega)]
          exact (hx k x hk).mono hK hS
        · rw [List.getElem?_append_right hge] at hk
          have h5 := hy _ x hk
          have h6 : k * r.e.size = xs.length + (k - r.ds.length) * r.e.size := by rw [hxl, ← Nat.add_mul]; congr 1; omega
          rw [h6, List.drop_append]
          rw [List.drop_eq_nil_of_le (by omega), List.nil_append, Nat.add_sub_cancel_left]
          exact h5.mono hK hS
  · intro x y b hx hy
    rcases hown' x b hx with ⟨h1, h2⟩ | ⟨rfl, h2⟩ <;> rcases hown' y b hy with ⟨h3, h4⟩ | ⟨rfl, h4⟩
    · exact h.inj x y b h1 h3
    · exfalso
      rcases hat with h5 | h5
      · rw [h5] at h4
        cases j with
        | none => rw [hjn rfl] at h4; cases h4
        | some i => exact h2 i rfl (h.inj x (.r i) b h1 (hvb i rfl b h4))
      · rw [h5] at h4; simp at h4; have := h.own_lt h1; omega
    · exfalso
      rcases hat with h5 | h5
      · rw [h5] at h2
        cases j with
        | none => rw [hjn rfl] at h2; cases h2
        | some i => exact h4 i rfl (h.inj y (.r i) b h3 (hvb i rfl b h2))
      · rw [h5] at h2; simp at h2; have := h.own_lt h3; omega
    · rfl
end E
end Go.Proofs.YtbjapgekagljeaaDoor
