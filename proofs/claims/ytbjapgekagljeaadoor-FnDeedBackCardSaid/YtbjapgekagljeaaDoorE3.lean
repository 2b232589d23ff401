/- What each operation that leaves the world alone makes of a state, and that it does so in the model. No program in sight. -/
import Derived.Test.YtbjapgekagljeaaDoorE2
namespace Go.Proofs.YtbjapgekagljeaaDoor
open Go Go.RowKit
namespace E
def kHas (k : IntKind) (n : Int) : Bool := decide (lo k ≤ n) && decide (n ≤ hi k)
theorem kHas_has {k : IntKind} {n : Int} (h : kHas k n = true) : Has k n := by
  simp only [kHas, Bool.and_eq_true, decide_eq_true_eq] at h; exact h
def ofLeaf : Value → SV
  | .int k n => if kHas k n then .int k n else .un
  | .bool true => .tt
  | .bool false => .ff
  | .string s => if decide (s.size ≤ 140737488351232) then .str s else .un
  | .slice none 0 0 => .nil
  | .pointer none => .nilp
  | .nilFunc => .raw .nilFunc
  | .nilIface => .raw .nilIface
  | _ => .un
def ofV : Value → SV
  | .agg cs => .agg (cs.toList.map ofLeaf)
  | v => ofLeaf v
section
variable {S : Nat → Prop} {E : Env} {w : World}
theorem ofLeaf_rel (v : Value) : RelV S E w (ofLeaf v) v := by
  unfold ofLeaf
  split
  · split
    · exact ⟨rfl, kHas_has ‹_›⟩
    · trivial
  · rfl
  · rfl
  · split
    · exact ⟨rfl, by simpa using ‹decide _ = true›⟩
    · trivial
  · rfl
  · rfl
  · exact ⟨rfl, rfl⟩
  · exact ⟨rfl, rfl⟩
  · trivial
theorem ofLeafs_rel : ∀ l : List Value, RelVs S E w (l.map ofLeaf) l
  | [] => rfl
  | v :: l => ⟨v, l, rfl, ofLeaf_rel v, ofLeafs_rel l⟩
theorem ofV_rel (v : Value) : RelV S E w (ofV v) v := by
  unfold ofV
  split
  · rename_i cs
    exact ⟨cs.toList, by simp, ofLeafs_rel _⟩
  · exact ofLeaf_rel v
end
def St.ev (s : St) : Operand → SV
  | .tmp t => s.fr.getD t .un
  | .const v => ofV v
  | .func f => .fn f []
  | .global _ => .un
theorem Inv.ev {c : Ctx} {E : Env} {s : St} {a : Act} {w : World} (h : Inv c E s a w) (x : Operand) : RelV (Reg c E s w) E w (s.ev x) (a.eval x) := by
  cases x with
  | tmp t =>
    have := h.fr.getD t
    simpa [St.ev, Act.eval, List.getD_eq_getElem?_getD, Array.getD_eq_getD_getElem?] using this
  | const v => exact ofV_rel v
  | global g => trivial
  | func f => exact ⟨[], rfl, rfl⟩
/-- What an operation makes: what must hold for it, and the value. -/
abbrev R := Option (Option Prop × SV)
def R.ok (x : SV) : R := some (none, x)
def R.ask (p : Prop) (x : SV) : R := some (some p, x)
def met : Option Prop → Prop
  | none => True
  | some p => p
/-- The result is what the operation makes in the model. -/
def Gives (P : Program) (o : Oper) (s : St) (r : R) : Prop :=
  ∀ q x, r = some (q, x) → met q → ∀ c E a w, Inv c E s a w → ∃ v, (execOp a.eval o).run P w = .ok (.value v) w ∧ RelV (Reg c E s w) E w x v
theorem Gives.none {P : Program} {o : Oper} {s : St} : Gives P o s none := fun _ _ h => by cases h
section
variable {P : Program} {o : Oper} {s : St}
theorem gives_ok {x : SV} (h : ∀ c E a w, Inv c E s a w → ∃ v, (execOp a.eval o).run P w = .ok (.value v) w ∧ RelV (Reg c E s w) E w x v) : Gives P o s (R.ok x) :=
  fun q y hq _ => by
    simp only [R.ok, Option.some.injEq, Prod.mk.injEq] at hq
    obtain ⟨rfl, rfl⟩ := hq
    exact h
theorem gives_ask {p : Prop} {x : SV} (h : p → ∀ c E a w, Inv c E s a w → ∃ v, (execOp a.eval o).run P w = .ok (.value v) w ∧ RelV (Reg c E s w) E w x v) : Gives P o s (R.ask p x) :=
  fun q y hq hp => by
    simp only [R.ask, Option.some.injEq, Prod.mk.injEq] at hq
    obtain ⟨rfl, rfl⟩ := hq
    exact h hp
/-! ### move, assign -/
theorem gives_move (x : Operand) (ho : o.op = .move x ∨ o.op = .assign x) : Gives P o s (R.ok (s.ev x)) :=
  gives_ok fun c E a w h => ⟨a.eval x, by rcases ho with ho | ho <;> (unfold execOp; rw [ho]; rfl), h.ev x⟩
/-! ### whole numbers -/
/-- Bits of two integers. -/
def bitI (op : BinOp) (k : IntKind) (a b : Int) : Int :=
  k.wrap (match op with
    | .and => ((BitVec.ofInt k.bits a &&& BitVec.ofInt k.bits b).toNat : Int)
    | .or => ((BitVec.ofInt k.bits a ||| BitVec.ofInt k.bits b).toNat : Int)
    | .xor => ((BitVec.ofInt k.bits a ^^^ BitVec.ofInt k.bits b).toNat : Int)
    | _ => ((BitVec.ofInt k.bits a &&& ~~~BitVec.ofInt k.bits b).toNat : Int))
def intOp (op : BinOp) (k : IntKind) (a b : Int) : R :=
  match op with
  | .add => R.ok (.int k (k.wrap (a + b)))
  | .sub => R.ok (.int k (k.wrap (a - b)))
  | .mul => R.ok (.int k (k.wrap (a * b)))
  | .quo => R.ask (b ≠ 0) (.int k (k.wrap (a.tdiv b)))
  | .rem => R.ask (b ≠ 0) (.int k (a.tmod b))
  | .eql => R.ok (.bool (decide (a = b)))
  | .neq => R.ok (.bool (decide (a ≠ b)))
  | .lss => R.ok (.bool (decide (a < b)))
  | .leq => R.ok (.bool (decide (a ≤ b)))
  | .gtr => R.ok (.bool (decide (a > b)))
  | .geq => R.ok (.bool (decide (a ≥ b)))
  | .shl => R.ask (0 ≤ b) (.int k (k.wrap (a * 2 ^ min b.toNat k.bits)))
  | .shr => R.ask (0 ≤ b) (.int k (a.fdiv (2 ^ min b.toNat k.bits)))
  | .and => R.ok (.int k (bitI .and k a b))
  | .or => R.ok (.int k (bitI .or k a b))
  | .xor => R.ok (.int k (bitI .xor k a b))
  | .andNot => R.ok (.int k (bitI .andNot k a b))
def intR (op : BinOp) (k k' : IntKind) (m n : Int) : R :=
  match op with
  | .shl | .shr => intOp op k m n
  | _ => if kindEq k k' then intOp op k m n else none
theorem has_tmod {k : IntKind} {a b : Int} (ha : Has k a) : Has k (a.tmod b) := by
  have h1 : (a.tmod b).natAbs ≤ a.natAbs := by rw [Int.natAbs_tmod]; exact Nat.mod_le _ _
  have h2 : 0 ≤ a → 0 ≤ a.tmod b := fun h => Int.tmod_nonneg _ h
  have h3 : a ≤ 0 → a.tmod b ≤ 0 := fun h => by
    have := Int.tmod_nonneg b (a := -a) (by omega)
    rw [Int.neg_tmod] at this; omega
  unfold Has at *
  cases k <;> simp only [lo, hi] at * <;> omega
theorem has_fdiv {k : IntKind} {a : Int} (n : Nat) (ha : Has k a) : Has k (a.fdiv (2 ^ n)) := by
  have hp : (0 : Int) < 2 ^ n := Int.pow_pos (by omega)
  rw [Int.fdiv_eq_ediv_of_nonneg _ (Int.le_of_lt hp)]
  have h1 : (1 : Int) ≤ 2 ^ n := hp
  have h2 : 0 ≤ a → 0 ≤ a / 2 ^ n ∧ a / 2 ^ n ≤ a := fun h => ⟨Int.ediv_nonneg h (Int.le_of_lt hp), Int.ediv_le_self _ h⟩
  have h3 : a < 0 → a ≤ a / 2 ^ n ∧ a / 2 ^ n < 0 := fun h => ⟨by
    rw [Int.le_ediv_iff_mul_le hp]
    have := Int.mul_le_mul_of_nonpos_left (a := a) (by omega) h1
    omega, Int.ediv_neg_of_neg_of_pos h hp⟩
  unfold Has at *
  cases k <;> simp only [lo, hi] at * <;> omega
theorem gives_int {op : BinOp} {t u : TypeId} {x y : Operand} {k k' : IntKind} {m n : Int} (ho : o.op = .binOp op t x y u) (hx : s.ev x = .int k m) (hy : s.ev y = .int k' n) :
    Gives P o s (intR op k k' m n) := by
  intro q z hq hm c E a w h
  unfold intR at hq
  have h1 := h.ev x; rw [hx] at h1
  have h2 := h.ev y; rw [hy] at h2
  obtain ⟨h1, h3⟩ := h1
  obtain ⟨h2, h4⟩ := h2
  have hg : (eqGuard op t x y (.int k m) (.int k' n)).run P w = .ok () w := by unfold eqGuard; cases op <;> rfl
  have he : ∀ v, (binOp op t (.int k m) (.int k' n)).run P w = .ok v w → (execOp a.eval o).run P w = .ok (.value v) w := by
    intro v hv
    unfold execOp; rw [ho]
    simp only [Sem.run_bind, h1, h2, hg, Result.andThen_ok, hv]
    rfl
  cases op <;> simp only [intOp] at hq
  case shl =>
    simp only [R.ask, Option.some.injEq, Prod.mk.injEq] at hq
    obtain ⟨rfl, rfl⟩ := hq
    have hn : ¬ n < 0 := by simp only [met] at hm; omega
    exact ⟨.int k _, he _ (by simp [binOp, Op.shift, hn, pure]), rfl, has_wrap _ _⟩
  case shr =>
    simp only [R.ask, Option.some.injEq, Prod.mk.injEq] at hq
    obtain ⟨rfl, rfl⟩ := hq
    have hn : ¬ n < 0 := by simp only [met] at hm; omega
    exact ⟨.int k _, he _ (by simp [binOp, Op.shift, hn, pure]), rfl, has_fdiv _ h3⟩
  case and | or | xor | andNot =>
    split at hq
    · rename_i hk
      have hk := kindEq_eq hk
      subst hk
      simp only [R.ok, Option.some.injEq, Prod.mk.injEq] at hq
      obtain ⟨rfl, rfl⟩ := hq
      exact ⟨.int k _, he _ (by simp only [binOp, ne_eq, not_true, if_false]; rfl), rfl, has_wrap _ _⟩
    · cases hq
  all_goals
    split at hq
    · rename_i hk
      have hk := kindEq_eq hk
      subst hk
      first
      | (simp only [R.ok, Option.some.injEq, Prod.mk.injEq] at hq
         obtain ⟨rfl, rfl⟩ := hq
         first
         | exact ⟨.int k _, he _ (by simp [binOp, Op.intArith, pure]), rfl, has_wrap _ _⟩
         | (refine ⟨.bool _, he _ ?_, rfl⟩
            simp only [binOp, Op.intCmp, ne_eq, not_true, if_false]
            first
            | rfl
            | (show Sem.run P (.pure _) w = _; simp only [Sem.run]; congr 2; rw [Bool.eq_iff_iff]; simp; done)))
      | (simp only [R.ask, Option.some.injEq, Prod.mk.injEq] at hq
         obtain ⟨rfl, rfl⟩ := hq
         simp only [met] at hm
         exact ⟨.int k _, he _ (by simp [binOp, Op.intDiv, hm, pure]), rfl, by first | exact has_wrap _ _ | exact has_tmod h3⟩)
      | cases hq
    · cases hq
end
end E
end Go.Proofs.YtbjapgekagljeaaDoor
