/- Two structs of plain fields, compared. No program in sight. -/
import Derived.Test.YtbjapgekagljeaaDoorE5
import Derived.Laws.StructEq
namespace Go.Proofs.YtbjapgekagljeaaDoor
open Go Go.RowKit
namespace E
variable {P : Program} {o : Oper} {s : St}
def eqOne (P : Program) (t : TypeId) (x y : SV) : Option Bool :=
  match P.underlying t with
  | some (.int _) => match x, y with
    | .int k m, .int k' n => bif kindEq k k' then some (decide (m = n)) else none
    | _, _ => none
  | some .string => match x, y with
    | .str m, .str n => some (decide (m = n))
    | _, _ => none
  | some .bool => match asB x, asB y with
    | some a, some b => some (decide (a = b))
    | _, _ => none
  | _ => none
def eqFs (P : Program) (l m : List SV) : List Field → Option Bool
  | [] => some true
  | f :: fs => bif f.name == "_" then eqFs P l m fs else match l[f.offset]?, m[f.offset]?, eqFs P l m fs with
    | some x, some y, some r => match eqOne P f.type x y with
      | some b => some (b && r)
      | none => none
    | _, _, _ => none
theorem part_one {t : TypeId} {d : TypeDesc} {vs : List Value} {off : Nat} {v : Value} {w : World} (hd : P.underlying t = some d) (hr : d.isRow = false) (hv : vs[off]? = some v) : (part t vs.toArray off).run P w = .ok v w := by
  have hagg : (isAgg t).run P w = .ok false w := by
    unfold isAgg
    rw [Sem.run_bind, run_underlying hd w]
    cases d <;> simp_all
  simp only [part, Sem.run_bind, hagg, Result.andThen_ok, Bool.false_eq_true, if_false]
  simp [hv]
theorem eqOne_run {S : Nat → Prop} {E : Env} {w : World} {t : TypeId} {x y : SV} {u v : Value} {b : Bool} (h : eqOne P t x y = some b) (hx : RelV S E w x u) (hy : RelV S E w y v) :
    (∃ d, P.underlying t = some d ∧ d.isRow = false) ∧ ∀ n, (Op.equalIn (n + 1) t u v).run P w = .ok b w := by
  unfold eqOne at h
  split at h
  · rename_i k0 hu
    split at h
    · rename_i k m k' n
      cases hk : kindEq k k' with
      | false => rw [hk] at h; cases h
      | true =>
        rw [hk] at h
        simp at h; subst h
        have := kindEq_eq hk
        subst this
        obtain ⟨rfl, _⟩ := hx
        obtain ⟨rfl, _⟩ := hy
        refine ⟨⟨_, hu, rfl⟩, fun q => ?_⟩
        rw [run_equalIn_int w q t k k0 m n hu]
        congr 1
    · cases h
  · rename_i hu
    split at h
    · rename_i m n
      simp at h; subst h
      obtain ⟨rfl, _⟩ := hx
      obtain ⟨rfl, _⟩ := hy
      refine ⟨⟨_, hu, rfl⟩, fun q => ?_⟩
      rw [run_equalIn_string w q t m n hu, bytes_eq]
    · cases h
  · rename_i hu
    split at h
    · rename_i a c ha hc
      simp at h; subst h
      have h1 := asB_rel ha hx
      have h2 := asB_rel hc hy
      subst h1; subst h2
      refine ⟨⟨_, hu, rfl⟩, fun q => ?_⟩
      rw [run_equalIn_bool' w q t a c hu]
      congr 1
    · cases h
  · cases h
theorem eqFs_run {S : Nat → Prop} {E : Env} {w : World} {l m : List SV} {us vs : List Value} (hl : RelVs S E w l us) (hm : RelVs S E w m vs) (n : Nat) : ∀ {fs : List Field} {b : Bool}, eqFs P l m fs = some b → (Op.eqFields (n + 1) us.toArray vs.toArray fs).run P w = .ok b w
  | [], b, h => by
    simp [eqFs] at h; subst h
    simp [Op.eqFields]
  | f :: fs, b, h => by
    unfold eqFs at h
    cases hf : f.name == "_" with
    | true =>
      rw [hf] at h
      have hf : f.name = "_" := by simpa using hf
      simp only [Op.eqFields, hf, ne_eq, not_true, if_false]
      exact eqFs_run hl hm n h
    | false =>
      rw [hf] at h
      have hf : ¬ f.name = "_" := by simpa using hf
      simp only [cond_false] at h
      split at h
      · rename_i x y r hx hy hr
        split at h
        · rename_i b1 hb
          simp at h; subst h
          obtain ⟨u, hu, hxu⟩ := hl.get hx
          obtain ⟨v, hv, hyv⟩ := hm.get hy
          obtain ⟨⟨d, hd, hdr⟩, he⟩ := eqOne_run hb hxu hyv
          have h1 := part_one (w := w) hd hdr hu
          have h2 := part_one (w := w) hd hdr hv
          simp only [Op.eqFields, ne_eq, hf, not_false_eq_true, if_true, Sem.run_bind, h1, h2, Result.andThen_ok, he n]
          cases b1
          · simp
          · simp only [Bool.not_true, Bool.false_eq_true, if_false, Bool.true_and]
            exact eqFs_run hl hm n hr
        · cases h
      · cases h
def aggR (P : Program) (op : BinOp) (t : TypeId) (l m : List SV) : R :=
  match P.underlying t with
  | some (.struct fs) => bif P.stoodInHeld t || P.eqGuardType P.depth t then none else match eqFs P l m fs.toList with
    | some b => match op with
      | .eql => R.ok (.bool b)
      | .neq => R.ok (.bool (!b))
      | _ => none
    | none => none
  | _ => none
theorem gives_agg {op : BinOp} {t u : TypeId} {x y : Operand} {l m : List SV} (ho : o.op = .binOp op t x y u) (hx : s.ev x = .agg l) (hy : s.ev y = .agg m) : Gives P o s (aggR P op t l m) := by
  intro q z hq hm c E a w h
  have h1 := h.ev x; rw [hx] at h1
  have h2 := h.ev y; rw [hy] at h2
  obtain ⟨us, h1, h3⟩ := h1
  obtain ⟨vs, h2, h4⟩ := h2
  unfold aggR at hq
  split at hq
  · rename_i fs hu
    cases hg : P.stoodInHeld t || P.eqGuardType P.depth t with
    | true => rw [hg] at hq; cases hq
    | false =>
      rw [hg] at hq
      simp only [cond_false] at hq
      simp only [Bool.or_eq_false_iff] at hg
      split at hq
      · rename_i b hb
        have hfs : P.fieldsOf t = fs := by unfold Program.fieldsOf; rw [hu]
        have he : (Op.equalIn 10000 t (.agg us.toArray) (.agg vs.toArray)).run P w = .ok b w := by
          rw [run_equalIn_struct w 9999 t us.toArray vs.toArray (by rw [hfs]; exact hu) hg.1, hfs]
          exact eqFs_run h3 h4 9998 hb
        have hrun : ∀ v, (binOp op t (.agg us.toArray) (.agg vs.toArray)).run P w = .ok v w → (execOp a.eval o).run P w = .ok (.value v) w := by
          intro v hv
          unfold execOp; rw [ho]
          simp only [Sem.run_bind, h1, h2, run_eqGuard_agg w op t x y us.toArray vs.toArray hg.2, Result.andThen_ok, hv]
          rfl
        split at hq
        · simp only [R.ok, Option.some.injEq, Prod.mk.injEq] at hq
          obtain ⟨rfl, rfl⟩ := hq
          exact ⟨.bool b, hrun _ (by rw [run_eql_struct, he]; rfl), rfl⟩
        · simp only [R.ok, Option.some.injEq, Prod.mk.injEq] at hq
          obtain ⟨rfl, rfl⟩ := hq
          exact ⟨.bool (!b), hrun _ (by rw [run_neq_struct, he]; rfl), rfl⟩
        · cases hq
      · cases hq
  · cases hq
/-- Two operands, of whatever kind. -/
def binR2 (P : Program) (op : BinOp) (t : TypeId) (x y : SV) : R :=
  match x, y with
  | .agg l, .agg m => aggR P op t l m
  | x, y => binR P op t x y
theorem gives_bin2 {op : BinOp} {t u : TypeId} {x y : Operand} (ho : o.op = .binOp op t x y u) : Gives P o s (binR2 P op t (s.ev x) (s.ev y)) := by
  unfold binR2
  split
  · rename_i h1 h2
    exact gives_agg ho h1 h2
  · exact gives_bin ho
end E
end Go.Proofs.YtbjapgekagljeaaDoor
