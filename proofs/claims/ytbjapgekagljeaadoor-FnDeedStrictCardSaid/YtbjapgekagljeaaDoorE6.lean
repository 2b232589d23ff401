/- Struct literals, cuts of slices and strings, function values; and all operations that leave the world alone in one function. No program in sight. -/
import Derived.Test.YtbjapgekagljeaaDoorES
import Derived.Laws.Tables
import Derived.Laws.Slices
namespace Go.Proofs.YtbjapgekagljeaaDoor
open Go Go.RowKit
namespace E
section
variable {P : Program} {o : Oper} {s : St}
/-! ### cells of a value -/
def SV.cells (x : SV) : Option (List SV) :=
  match x with
  | .agg l => some l
  | x => if x.one then some [x] else none
theorem cells_one {v : Value} (h : v.oneCell' = true) : v.cells = #[v] := by cases v <;> first | rfl | (simp [Value.oneCell'] at h)
theorem cells_rel {S : Nat → Prop} {E : Env} {w : World} {x : SV} {l : List SV} {v : Value} (h : x.cells = some l) (hr : RelV S E w x v) : ∃ vs, v.cells = vs.toArray ∧ RelVs S E w l vs := by
  unfold SV.cells at h
  split at h
  · simp at h; subst h
    obtain ⟨vs, rfl, h1⟩ := hr
    exact ⟨vs, rfl, h1⟩
  · split at h
    · rename_i h1
      simp at h; subst h
      exact ⟨[v], by rw [cells_one (hr.one h1)], v, [], rfl, hr, rfl⟩
    · cases h
def putAll {α : Type} : List α → Nat → List α → List α
  | cs, _, [] => cs
  | cs, off, v :: vs => putAll (cs.set off v) (off + 1) vs
theorem RelVs.putAll {S : Nat → Prop} {E : Env} {w : World} : ∀ {l m : List SV} {vs us : List Value} (off : Nat), RelVs S E w l vs → RelVs S E w m us → RelVs S E w (putAll l off m) (putAll vs off us)
  | _, [], _, _, _, h, k => by rw [show (_ : List Value) = [] from k]; exact h
  | _, _ :: _, _, _, off, h, ⟨v, vs', h1, h2, h3⟩ => by subst h1; exact RelVs.putAll (off + 1) (h.set off h2) h3
theorem length_setAll {α : Type} : ∀ (m l : List α) (off : Nat), (putAll l off m).length = l.length
  | [], _, _ => rfl
  | v :: vs, l, off => by rw [putAll, length_setAll vs]; simp
theorem foldl_setAll : ∀ (us : List Value) (cs : Array Value) (off k : Nat), ((us.zipIdx k).foldl (fun cs x => cs.setIfInBounds (off + x.2) x.1) cs).toList = putAll cs.toList (off + k) us
  | [], cs, off, k => rfl
  | v :: us, cs, off, k => by
    rw [List.zipIdx_cons, List.foldl_cons, foldl_setAll us _ off (k + 1), putAll]
    simp [Nat.add_assoc]
/-- A struct or array literal's parts, laid into its cells. -/
def fillS (place : Nat → Option (Nat × Nat)) (cells : List SV) : List (Nat × SV) → Option (List SV)
  | [] => some cells
  | (i, x) :: rest =>
    match place i with
    | none => none
    | some (off, size) => match x.cells with
      | some l => if l.length = size ∧ off + size ≤ cells.length then fillS place (putAll cells off l) rest else none
      | none => none
def RelParts (S : Nat → Prop) (E : Env) (w : World) : List (Nat × SV) → List (Nat × Value) → Prop
  | [], vs => vs = []
  | (i, x) :: l, vs => ∃ v vs', vs = (i, v) :: vs' ∧ RelV S E w x v ∧ RelParts S E w l vs'
theorem fill_rel {S : Nat → Prop} {E : Env} {w : World} {place : Nat → Option (Nat × Nat)} : ∀ {parts : List (Nat × SV)} {cells l : List SV} {ps : List (Nat × Value)} {cs : List Value}, fillS place cells parts = some l → RelVs S E w cells cs → RelParts S E w parts ps →
    ∃ cs', Instr.fill place cs.toArray ps = some cs'.toArray ∧ RelVs S E w l cs'
  | [], _, _, _, cs, h, hr, hp => by
    simp [fillS] at h; subst h
    rw [show (_ : List (Nat × Value)) = [] from hp]
    exact ⟨cs, rfl, hr⟩
  | (i, x) :: rest, cells, l, ps, cs, h, hr, ⟨v, vs', h1, h2, h3⟩ => by
    subst h1
    simp only [fillS] at h
    split at h
    · cases h
    · rename_i off size hpl
      split at h
      · rename_i m hm
        split at h
        · rename_i hc
          obtain ⟨us, h4, h5⟩ := cells_rel hm h2
          have hl : us.length = size := by rw [h5.length, hc.1]
          obtain ⟨cs', h6, h7⟩ := fill_rel h (hr.putAll off h5) h3
          refine ⟨cs', ?_, h7⟩
          rw [← h6]
          simp only [Instr.fill, hpl, h4]
          have hcs : cs.length = cells.length := hr.length
          rw [if_neg (by simp [hl]; omega)]
          congr 1
          apply Array.toList_inj.1
          have := foldl_setAll us cs.toArray off 0
          simp only [Nat.add_zero] at this
          simpa using this
        · cases h
      · cases h
theorem RelParts.of {S : Nat → Prop} {E : Env} {w : World} {f : Operand → SV} {g : Operand → Value} (h : ∀ x, RelV S E w (f x) (g x)) : ∀ (l : List (Nat × Operand)), RelParts S E w (l.map fun x => (x.1, f x.2)) (l.map fun x => (x.1, g x.2))
  | [] => rfl
  | (_, x) :: l => ⟨_, _, rfl, h x, RelParts.of h l⟩
def builtS (P : Program) (t : TypeId) (parts : List (Nat × SV)) : Option (List SV) :=
  match P.info? t, P.underlying t with
  | some it, some (.array _ e) =>
    match it.zero, P.info? e with
    | some z, some ie => fillS (fun i => some (i * ie.size, ie.size)) (z.cells.toList.map ofLeaf) parts
    | _, _ => none
  | some it, some (.struct fields) =>
    match it.zero, fields.toList.mapM (fun f => (P.info? f.type).map fun i => (f.offset, i.size)) with
    | some z, some places => fillS (places[·]?) (z.cells.toList.map ofLeaf) parts
    | _, _ => none
  | _, _ => none
theorem built_rel {S : Nat → Prop} {E : Env} {w : World} {t : TypeId} {parts : List (Nat × SV)} {ps : List (Nat × Value)} {l : List SV} (h : builtS P t parts = some l) (hp : RelParts S E w parts ps) :
    ∃ cs, P.built t ps = some cs.toArray ∧ RelVs S E w l cs := by
  unfold builtS at h
  unfold Program.built
  split at h
  · rename_i it n e hi hu
    split at h
    · rename_i z ie hz hie
      obtain ⟨cs', h1, h2⟩ := fill_rel h (ofLeafs_rel z.cells.toList) hp
      refine ⟨cs', ?_, h2⟩
      simp only [hi, hu, hz, hie]
      simpa using h1
    · cases h
  · rename_i it fields hi hu
    split at h
    · rename_i z places hz hpl
      obtain ⟨cs', h1, h2⟩ := fill_rel h (ofLeafs_rel z.cells.toList) hp
      refine ⟨cs', ?_, h2⟩
      simp only [hi, hu, hz, hpl]
      simpa using h1
    · cases h
  · cases h
def buildR (P : Program) (s : St) (t : TypeId) (parts : Array (Nat × Operand)) : R :=
  match builtS P t (parts.toList.map fun x => (x.1, s.ev x.2)) with
  | some l => R.ok (.agg l)
  | none => none
theorem gives_build {t : TypeId} {parts : Array (Nat × Operand)} (ho : o.op = .build t parts) : Gives P o s (buildR P s t parts) := by
  intro q z hq hm c E a w h
  unfold buildR at hq
  split at hq
  · rename_i l hl
    simp only [R.ok, Option.some.injEq, Prod.mk.injEq] at hq
    obtain ⟨rfl, rfl⟩ := hq
    obtain ⟨cs, h1, h2⟩ := built_rel hl (RelParts.of (fun x => h.ev x) parts.toList)
    refine ⟨.agg cs.toArray, ?_, cs, rfl, h2⟩
    unfold execOp; rw [ho]
    refine run_val (run_build w t _ _ ?_)
    simpa using h1
  · cases hq
/-! ### cuts -/
def bnd (x : Option SV) (d : Int) : Option Int :=
  match x with
  | none => some d
  | some (.int _ n) => some n
  | _ => none
def immSl (s : St) (x : SV) : Option (Ty × List Dat) :=
  match x with
  | .sl t ds => some (t, ds)
  | .own j => match s.rw[j]? with
    | some r => if r.st = 1 then some (r.e, r.ds) else none
    | none => none
  | _ => none
theorem immSl_rel {c : Ctx} {E : Env} {a : Act} {w : World} (h : Inv c E s a w) {x : SV} {v : Value} {t : Ty} {ds : List Dat} (hx : immSl s x = some (t, ds)) (hr : RelV (Reg c E s w) E w x v) : Rep (Reg c E s w) w (.sl t) [v] (.node ds) := by
  unfold immSl at hx
  split at hx
  · simp at hx; obtain ⟨rfl, rfl⟩ := hx; exact hr
  · rename_i j
    split at hx
    · rename_i r hr'
      split at hx
      · rename_i hst
        simp at hx; obtain ⟨rfl, rfl⟩ := hx
        exact (h.rw j r v hr' hr.1).2.2 hst
      · cases hx
    · cases hx
  · cases hx
def sliceR (P : Program) (s : St) (t : TypeId) (x : SV) (low high mx : Option SV) : R :=
  match mx with
  | some _ => none
  | none => match P.underlying t with
    | some .string => match x with
      | .str b => match bnd low 0, bnd high b.size with
        | some l, some h => R.ask (0 ≤ l ∧ l ≤ h ∧ h ≤ (b.size : Int)) (.str (b.extract l.toNat h.toNat))
        | _, _ => none
      | _ => none
    | some (.slice e) => match (P.info? e).map (·.size), immSl s x with
      | some sz, some (ty, ds) => match bnd low 0, bnd high ds.length with
        | some l, some h => if ty.size = sz then R.ask (0 ≤ l ∧ l ≤ h ∧ h ≤ (ds.length : Int)) (.sl ty ((ds.take h.toNat).drop l.toNat)) else none
        | _, _ => none
      | _, _ => none
    | _ => none
theorem bnd_rel {c : Ctx} {E : Env} {a : Act} {w : World} (h : Inv c E s a w) {x : Option Operand} {d n : Int} (hb : bnd (x.map s.ev) d = some n) : (x = none ∧ n = d) ∨ ∃ y k, x = some y ∧ a.eval y = .int k n := by
  cases x with
  | none => simp [bnd] at hb; exact .inl ⟨rfl, hb.symm⟩
  | some y =>
    right
    have h1 := h.ev y
    simp only [bnd, Option.map_some] at hb
    split at hb
    · cases ‹some (s.ev y) = none›
    · rename_i k n' e
      simp at hb e; subst hb
      rw [e] at h1
      exact ⟨y, k, rfl, h1.1⟩
    · cases hb
theorem run_bounds {c : Ctx} {E : Env} {a : Act} {w : World} (h : Inv c E s a w) {low high : Option Operand} {l m : Int} {isS : Bool} {len cap : Nat} (hl : bnd (low.map s.ev) 0 = some l) (hh : bnd (high.map s.ev) len = some m) (h0 : 0 ≤ l) (h1 : l ≤ m) (h2 : m ≤ (len : Int)) (h3 : len ≤ cap) :
    (Instr.sliceBounds isS len cap (low.map a.eval) (high.map a.eval) none).run P w = .ok (l.toNat, m.toNat, cap) w := by
  have hm : 0 ≤ m := by omega
  have hc : m ≤ (cap : Int) := by omega
  have ht : (m.toNat : Int) = m := by omega
  rcases bnd_rel h hl with ⟨rfl, rfl⟩ | ⟨y, k, rfl, hy⟩ <;> rcases bnd_rel h hh with ⟨rfl, rfl⟩ | ⟨z, k', rfl, hz⟩
  · simp [Instr.sliceBounds]
  · simp [Instr.sliceBounds, hz, run_sliceBound w k' m cap _ hm hc]
  · simp [Instr.sliceBounds, hy, run_sliceBound w k l len _ h0 h1]
  · simp [Instr.sliceBounds, hy, hz, run_sliceBound w k' m cap _ hm hc, run_sliceBound w k l m.toNat _ h0 (by omega)]
theorem sub_rep {S : Nat → Prop} {w : World} {ty : Ty} {v : Value} {ds : List Dat} {l m : Nat} (h : Rep S w (.sl ty) [v] (.node ds)) (h1 : l ≤ m) (h2 : m ≤ ds.length) : ∃ ad cap, v = .slice ad ds.length cap ∧ ds.length ≤ cap ∧ Rep S w (.sl ty) [sliced ad l m cap ty.size] (.node ((ds.take m).drop l)) := by
  obtain ⟨ad, n, cap, ds', h3, h4, h5, h6, h7, h8⟩ := h
  simp at h3 h4
  subst h4
  subst h3
  refine ⟨ad, cap, by rw [h5], by omega, ?_⟩
  refine ⟨_, m - l, cap - l, _, rfl, rfl, by simp; omega, by omega, by omega, fun hne => ?_⟩
  obtain ⟨b, off, e, hb, hc⟩ := h8 (by omega)
  subst e
  refine ⟨b, off + l * ty.size, by rw [if_neg (by omega), Option.map_some, Addr.add_mid], hb, fun i x hx => ?_⟩
  rw [List.getElem?_drop, List.getElem?_take] at hx
  split at hx
  · obtain ⟨es, h9, h10⟩ := hc (l + i) x hx
    refine ⟨es, ?_, h10⟩
    rw [Nat.add_mul] at h9
    rwa [Nat.add_assoc]
  · cases hx
theorem gives_slice {t : TypeId} {x : Operand} {low high mx : Option Operand} (ho : o.op = .slice t x low high mx) : Gives P o s (sliceR P s t (s.ev x) (low.map s.ev) (high.map s.ev) (mx.map s.ev)) := by
  intro q z hq hm c E a w h
  have h1 := h.ev x
  unfold sliceR at hq
  split at hq
  · cases hq
  · rename_i hmx
    have hmx : mx = none := by cases mx <;> simp_all
    subst hmx
    split at hq
    · rename_i hu
      split at hq
      · rename_i b hx
        rw [hx] at h1
        split at hq
        · rename_i l m hl hh
          simp only [R.ask, Option.some.injEq, Prod.mk.injEq] at hq
          obtain ⟨rfl, rfl⟩ := hq
          simp only [met] at hm
          refine ⟨.string (b.extract l.toNat m.toNat), ?_, rfl, ?_⟩
          · unfold execOp; rw [ho]
            refine run_val ?_
            rw [h1.1, Option.map_none]
            simp only [Instr.sliceAt, Sem.run_bind, run_underlying hu, Result.andThen_ok, Instr.slice, Option.isSome_none, Bool.false_eq_true, if_false, Sem.run_pure, run_bounds h hl hh hm.1 hm.2.1 hm.2.2 (Nat.le_refl _)]
          · have := h1.2
            have h5 : (b.extract l.toNat m.toNat).size ≤ b.size := by simp [ByteArray.size_extract]; omega
            omega
        · cases hq
      · cases hq
    · rename_i e hu
      split at hq
      · rename_i sz ty ds hs hi
        split at hq
        · rename_i l m hl hh
          split at hq
          · rename_i hsz
            simp only [R.ask, Option.some.injEq, Prod.mk.injEq] at hq
            obtain ⟨rfl, rfl⟩ := hq
            simp only [met] at hm
            obtain ⟨ad, cap, hv, hcap, hr⟩ := sub_rep (l := l.toNat) (m := m.toNat) (immSl_rel h hi h1) (by omega) (by omega)
            refine ⟨_, ?_, hr⟩
            unfold execOp; rw [ho]
            refine run_val ?_
            rw [hv, Option.map_none, hsz]
            simp only [Instr.sliceAt, Sem.run_bind, run_underlying hu, Result.andThen_ok, Instr.slice, run_bounds h hl hh hm.1 hm.2.1 hm.2.2 hcap, size_info hs, Sem.run_pure, sliced]
          · cases hq
        · cases hq
      · cases hq
    · cases hq
/-! ### function values -/
def funcR (s : St) (fn : Fn) (first captured : Array Operand) : R :=
  match fn, first.toList with
  | .func f, [] => R.ok (.fn f (captured.toList.map s.ev))
  | .func f, x :: l => match captured.toList with
    | [] => R.ok (.bf f ((x :: l).map s.ev))
    | _ => none
  | _, _ => none
theorem evs_rel {c : Ctx} {E : Env} {a : Act} {w : World} (h : Inv c E s a w) : ∀ l : List Operand, RelVs (Reg c E s w) E w (l.map s.ev) (l.map a.eval)
  | [] => rfl
  | x :: l => ⟨_, _, rfl, h.ev x, evs_rel h l⟩
theorem gives_func {fn : Fn} {first captured : Array Operand} (ho : o.op = .makeFunc fn first captured) : Gives P o s (funcR s fn first captured) := by
  intro q z hq hm c E a w h
  unfold funcR at hq
  split at hq
  · rename_i f hf
    simp only [R.ok, Option.some.injEq, Prod.mk.injEq] at hq
    obtain ⟨rfl, rfl⟩ := hq
    refine ⟨.func (.func f) #[] (captured.map a.eval), ?_, captured.toList.map a.eval, ?_, evs_rel h _⟩
    · unfold execOp; rw [ho]
      have : first = #[] := by apply Array.toList_inj.1; simpa using hf
      subst this
      exact run_val (by simp [Instr.makeFunc])
    · congr 1
      apply Array.toList_inj.1
      simp
  · rename_i f y l hf
    split at hq
    · rename_i hcap
      simp only [R.ok, Option.some.injEq, Prod.mk.injEq] at hq
      obtain ⟨rfl, rfl⟩ := hq
      have hcap : captured = #[] := by apply Array.toList_inj.1; simpa using hcap
      subst hcap
      refine ⟨.func (.func f) (first.map a.eval) #[], ?_, first.toList.map a.eval, ?_, by rw [← hf]; exact evs_rel h _⟩
      · unfold execOp; rw [ho]
        exact run_val (by simp [Instr.makeFunc])
      · congr 1
        apply Array.toList_inj.1
        simp
    · cases hq
  · cases hq
/-! ### all of them -/
/-! ### an interface value of a struct -/
def ifaceR (P : Program) (t : TypeId) (x : SV) : R :=
  match x with
  | .agg l => bif P.concrete t then R.ok (.ifc t l) else none
  | _ => none
theorem gives_iface {t : TypeId} {x : Operand} (ho : o.op = .makeInterface t x) : Gives P o s (ifaceR P t (s.ev x)) := by
  intro q z hq hm c E a w h
  have h1 := h.ev x
  unfold ifaceR at hq
  split at hq
  · rename_i l hx
    rw [hx] at h1
    obtain ⟨vs, hv, hr⟩ := h1
    cases hc : P.concrete t with
    | false => rw [hc] at hq; cases hq
    | true =>
      rw [hc] at hq
      simp only [cond_true, R.ok, Option.some.injEq, Prod.mk.injEq] at hq
      obtain ⟨rfl, rfl⟩ := hq
      refine ⟨.iface t (.agg vs.toArray), ?_, vs, rfl, hr⟩
      unfold execOp; rw [ho]
      exact run_val (by rw [hv]; exact run_makeInterface w t _ hc)
  · cases hq
/-- Is an interface value one of a type (no interface)? -/
def assertR (P : Program) (_xt t : TypeId) (ok : Bool) (x : SV) : R :=
  match ok, x, P.underlying t with
  | _, _, some (.interface _) => none
  | true, .ifc t' l, some _ => bif Nat.beq t' t then R.ok (.tup [.agg l, .tt]) else match (P.info? t).bind (·.zero) with
    | some z => R.ok (.tup [ofV z, .ff])
    | none => none
  | false, .ifc t' l, some _ => bif Nat.beq t' t then R.ok (.agg l) else none
  | _, _, _ => none
theorem gives_assert {x : Operand} {xt t : TypeId} {ok : Bool} (ho : o.op = .typeAssert x xt t ok) : Gives P o s (assertR P xt t ok (s.ev x)) := by
  intro q z hq hm c E a w h
  have h1 := h.ev x
  unfold assertR at hq
  split at hq
  · cases hq
  · rename_i t' l d hu hx hno
    rw [hx] at h1
    obtain ⟨vs, hv, hr⟩ := h1
    cases hb : Nat.beq t' t with
    | true =>
      have := Nat.eq_of_beq_eq_true hb
      subst this
      rw [hb] at hq
      simp only [cond_true, R.ok, Option.some.injEq, Prod.mk.injEq] at hq
      obtain ⟨rfl, rfl⟩ := hq
      refine ⟨.tuple #[.agg vs.toArray, .bool true], ?_, [.agg vs.toArray, .bool true], rfl, _, _, rfl, ⟨vs, rfl, hr⟩, _, _, rfl, rfl, rfl⟩
      unfold execOp; rw [ho]
      refine run_val ?_
      rw [hv]
      unfold Instr.typeAssert
      rw [Sem.run_bind, run_underlying hno w]
      cases d <;> first | (exact (hu _ rfl).elim) | (simp only [Result.andThen_ok, if_true]; rfl)
    | false =>
      have hne : ¬ t' = t := fun e => by subst e; simp at hb
      rw [hb] at hq
      simp only [cond_false] at hq
      split at hq
      · rename_i zv hz
        simp only [R.ok, Option.some.injEq, Prod.mk.injEq] at hq
        obtain ⟨rfl, rfl⟩ := hq
        obtain ⟨i, hi, hz⟩ := Option.bind_eq_some_iff.1 hz
        have hzr : (zeroValue t).run P w = .ok zv w := by
          simp only [zeroValue, typeInfo, program, Sem.run_bind, Sem.run, Result.andThen_ok, hi, Sem.run_pure, hz]
        refine ⟨.tuple #[zv, .bool false], ?_, [zv, .bool false], rfl, _, _, rfl, ofV_rel zv, _, _, rfl, rfl, rfl⟩
        unfold execOp; rw [ho]
        refine run_val ?_
        rw [hv]
        unfold Instr.typeAssert
        rw [Sem.run_bind, run_underlying hno w]
        cases d <;> first | (exact (hu _ rfl).elim) | (simp only [Result.andThen_ok, if_neg hne, if_true, Sem.run_bind, hzr]; rfl)
      · cases hq
  · rename_i t' l d hu hx hno
    rw [hx] at h1
    obtain ⟨vs, hv, hr⟩ := h1
    cases hb : Nat.beq t' t with
    | true =>
      have := Nat.eq_of_beq_eq_true hb
      subst this
      rw [hb] at hq
      simp only [cond_true, R.ok, Option.some.injEq, Prod.mk.injEq] at hq
      obtain ⟨rfl, rfl⟩ := hq
      refine ⟨.agg vs.toArray, ?_, vs, rfl, hr⟩
      unfold execOp; rw [ho]
      refine run_val ?_
      rw [hv]
      unfold Instr.typeAssert
      rw [Sem.run_bind, run_underlying hno w]
      cases d <;> first | (exact (hu _ rfl).elim) | (simp only [Result.andThen_ok, if_true]; rfl)
    | false => rw [hb] at hq; cases hq
  · cases hq
def opVal (P : Program) (s : St) (op : Op) : R :=
  match op with
  | .move x | .assign x => R.ok (s.ev x)
  | .pick x y z => pickR (s.ev x) (s.ev y) (s.ev z)
  | .build t parts => buildR P s t parts
  | .load t x => loadR P s t (s.ev x)
  | .nilCheck x => nilR (s.ev x)
  | .binOp op t x y _ => binR2 P op t (s.ev x) (s.ev y)
  | .unOp op _ x => unR op (s.ev x)
  | .convert src dst x => convR P src dst (s.ev x)
  | .makeFunc fn first captured => funcR s fn first captured
  | .slice t x low high mx => sliceR P s t (s.ev x) (low.map s.ev) (high.map s.ev) (mx.map s.ev)
  | .fieldAddr t x f => fieldAddrR P t (s.ev x) f
  | .field t x f => fieldR P t (s.ev x) f
  | .indexAddr t x i => match elemA P t (s.ev x) (s.ev i) with
    | some r => some r
    | none => elemR P s t (s.ev x) (s.ev i)
  | .index t x i => match indexA P t (s.ev x) (s.ev i) with
    | some r => some r
    | none => indexR P t (s.ev x) (s.ev i)
  | .typeAssert x xt t ok => assertR P xt t ok (s.ev x)
  | .extract x i => extractR (s.ev x) i
  | .makeInterface t x => ifaceR P t (s.ev x)
  | .call { callee := .builtin .len, args := ⟨[x]⟩, argTypes := ⟨[t]⟩ } => lenR P t s (s.ev x)
  | .call { callee := .builtin .max, args := ⟨[x, y]⟩, .. } => minR true (s.ev x) (s.ev y)
  | .call { callee := .builtin .min, args := ⟨[x, y]⟩, .. } => minR false (s.ev x) (s.ev y)
  | _ => none
theorem gives_op : Gives P o s (opVal P s o.op) := by
  cases ho : o.op with
  | move x => exact gives_move x (.inl ho)
  | assign x => exact gives_move x (.inr ho)
  | pick x y z => exact gives_pick ho
  | build t parts => exact gives_build ho
  | load t x => exact gives_load ho
  | nilCheck x => exact gives_nil ho
  | binOp op t x y u => exact gives_bin2 ho
  | unOp op t x => exact gives_un ho
  | convert src dst x => exact gives_conv ho
  | makeFunc fn first captured => exact gives_func ho
  | slice t x low high mx => exact gives_slice ho
  | fieldAddr t x f => exact gives_fieldAddr ho
  | field t x f => exact gives_field ho
  | indexAddr t x i =>
    show Gives P o s (match elemA P t (s.ev x) (s.ev i) with | some r => some r | none => elemR P s t (s.ev x) (s.ev i))
    split
    · rename_i r hr; rw [← hr]; exact gives_elemA ho
    · exact gives_elem ho
  | index t x i =>
    show Gives P o s (match indexA P t (s.ev x) (s.ev i) with | some r => some r | none => indexR P t (s.ev x) (s.ev i))
    split
    · rename_i r hr; rw [← hr]; exact gives_indexA ho
    · exact gives_index ho
  | typeAssert x xt t ok => exact gives_assert ho
  | extract x i => exact gives_extract ho
  | makeInterface t x => exact gives_iface ho
  | call cl =>
    unfold opVal
    split <;> first
      | (rename_i h; cases h; done)
      | (rename_i h; cases h; first | exact gives_len ho | exact gives_min (mx := true) ho | exact gives_min (mx := false) ho)
      | exact Gives.none
  | _ => exact Gives.none
end
end E
end Go.Proofs.YtbjapgekagljeaaDoor
