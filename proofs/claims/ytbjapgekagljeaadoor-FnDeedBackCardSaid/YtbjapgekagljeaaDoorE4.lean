/- More operations that leave the world alone: bools, strings, parts of structs, of slices, of memory. No program in sight. -/
import Derived.Test.YtbjapgekagljeaaDoorE3
namespace Go.Proofs.YtbjapgekagljeaaDoor
open Go Go.RowKit
namespace E
section
variable {P : Program} {o : Oper} {s : St}
theorem run_val {op : Sem Value} {v : Value} {w : World} (h : op.run P w = .ok v w) : (do pure (Next.value (← op)) : Sem Next).run P w = .ok (.value v) w := by
  simp only [Sem.run_bind, h, Result.andThen_ok]; rfl
/-! ### bools -/
def asB : SV → Option Bool
  | .tt => some true
  | .ff => some false
  | .bool b => some b
  | _ => none
theorem asB_rel {S : Nat → Prop} {E : Env} {w : World} {x : SV} {v : Value} {b : Bool} (h : asB x = some b) (hr : RelV S E w x v) : v = .bool b := by
  cases x <;> simp [asB] at h
  · subst h; exact hr
  · subst h; exact hr
  · subst h; exact hr
def boolOp (P : Program) (op : BinOp) (t : TypeId) (x y : SV) : R :=
  match asB x, asB y with
  | some a, some b =>
    match P.underlying t with
    | some .bool => match op with
      | .eql => R.ok (.bool (decide (a = b)))
      | .neq => R.ok (.bool (decide (a ≠ b)))
      | _ => none
    | _ => none
  | _, _ => none
theorem gives_bool {op : BinOp} {t u : TypeId} {x y : Operand} (ho : o.op = .binOp op t x y u) : Gives P o s (boolOp P op t (s.ev x) (s.ev y)) := by
  intro q z hq hm c E a w h
  unfold boolOp at hq
  split at hq
  · rename_i p r h1 h2
    split at hq
    · rename_i hu
      have e1 := asB_rel h1 (h.ev x)
      have e2 := asB_rel h2 (h.ev y)
      split at hq
      · simp only [R.ok, Option.some.injEq, Prod.mk.injEq] at hq
        obtain ⟨rfl, rfl⟩ := hq
        refine ⟨.bool (p == r), ?_, ?_⟩
        · unfold execOp; rw [ho]
          exact run_val (by rw [e1, e2]; simp only [eqGuard_at_bool, pure_bind, run_eql_bool w t p r hu])
        · show Value.bool _ = _; cases p <;> cases r <;> rfl
      · simp only [R.ok, Option.some.injEq, Prod.mk.injEq] at hq
        obtain ⟨rfl, rfl⟩ := hq
        refine ⟨.bool (!(p == r)), ?_, ?_⟩
        · unfold execOp; rw [ho]
          exact run_val (by rw [e1, e2]; simp only [eqGuard_at_bool, pure_bind, run_neq_bool w t p r hu])
        · show Value.bool _ = _; cases p <;> cases r <;> rfl
      · cases hq
    · cases hq
  · cases hq
/-! ### strings -/
def strOp (op : BinOp) (a b : ByteArray) : R :=
  match op with
  | .add => R.ask (a.size + b.size ≤ 140737488351232) (.str (a ++ b))
  | .eql => R.ok (.bool (decide (a = b)))
  | .neq => R.ok (.bool (decide (a ≠ b)))
  | _ => none
theorem bytes_eq (a b : ByteArray) : (a.toList == b.toList) = decide (a = b) := by
  rw [ByteArray.toList_eq, ByteArray.toList_eq, Bool.eq_iff_iff]
  simp only [beq_iff_eq, decide_eq_true_eq]
  exact ⟨fun h => ByteArray.ext (Array.toList_inj.1 h), fun h => by rw [h]⟩
theorem gives_str {op : BinOp} {t u : TypeId} {x y : Operand} {m n : ByteArray} (ho : o.op = .binOp op t x y u) (hx : s.ev x = .str m) (hy : s.ev y = .str n) : Gives P o s (strOp op m n) := by
  intro q z hq hm c E a w h
  have h1 := h.ev x; rw [hx] at h1
  have h2 := h.ev y; rw [hy] at h2
  obtain ⟨h1, h3⟩ := h1
  obtain ⟨h2, h4⟩ := h2
  unfold strOp at hq
  split at hq
  · simp only [R.ask, Option.some.injEq, Prod.mk.injEq] at hq
    obtain ⟨rfl, rfl⟩ := hq
    simp only [met] at hm
    refine ⟨.string (m ++ n), ?_, rfl, by simpa using hm⟩
    unfold execOp; rw [ho]
    refine run_val ?_
    have hn : ¬ ((m.size + n.size : Nat) : Int) > 9223372036854775807 := by omega
    rw [h1, h2]
    simp only [eqGuard_at_string, pure_bind, binOp_string_add, Op.stringOp, IntKind.max_i64, hn, if_false]
    rfl
  · simp only [R.ok, Option.some.injEq, Prod.mk.injEq] at hq
    obtain ⟨rfl, rfl⟩ := hq
    refine ⟨.bool (m.toList == n.toList), ?_, ?_⟩
    · unfold execOp; rw [ho]
      exact run_val (by rw [h1, h2]; simp only [eqGuard_at_string, pure_bind, binOp_string_eql]; rfl)
    · show _ = _; rw [bytes_eq]
  · simp only [R.ok, Option.some.injEq, Prod.mk.injEq] at hq
    obtain ⟨rfl, rfl⟩ := hq
    refine ⟨.bool (!(m.toList == n.toList)), ?_, ?_⟩
    · unfold execOp; rw [ho]
      exact run_val (by rw [h1, h2]; simp only [eqGuard_at_string, pure_bind, binOp_string_neq]; rfl)
    · show _ = _; rw [bytes_eq]; simp
  · cases hq
def binR (P : Program) (op : BinOp) (t : TypeId) (x y : SV) : R :=
  match x, y with
  | .int k m, .int k' n => intR op k k' m n
  | .str m, .str n => strOp op m n
  | x, y => boolOp P op t x y
theorem gives_bin {op : BinOp} {t u : TypeId} {x y : Operand} (ho : o.op = .binOp op t x y u) : Gives P o s (binR P op t (s.ev x) (s.ev y)) := by
  unfold binR
  split
  · rename_i h1 h2
    exact gives_int ho h1 h2
  · rename_i h1 h2
    exact gives_str ho h1 h2
  · exact gives_bool ho
/-! ### one operand -/
def unR (op : UnOp) (x : SV) : R :=
  match op, x with
  | .neg, .int k n => R.ok (.int k (k.wrap (0 - n)))
  | .not, .tt => R.ok .ff
  | .not, .ff => R.ok .tt
  | .not, .bool b => R.ok (.bool (!b))
  | _, _ => none
theorem gives_un {op : UnOp} {t : TypeId} {x : Operand} (ho : o.op = .unOp op t x) : Gives P o s (unR op (s.ev x)) := by
  intro q z hq hm c E a w h
  have h1 := h.ev x
  unfold unR at hq
  split at hq
  all_goals first
    | cases hq; done
    | skip
  all_goals
    rename_i hx
    simp only [R.ok, Option.some.injEq, Prod.mk.injEq] at hq
    obtain ⟨rfl, rfl⟩ := hq
    rw [hx] at h1
  · exact ⟨.int _ _, by unfold execOp; rw [ho]; exact run_val (by rw [h1.1]; rfl), rfl, has_wrap _ _⟩
  · exact ⟨.bool false, by unfold execOp; rw [ho]; exact run_val (by rw [show a.eval x = _ from h1]; rfl), rfl⟩
  · exact ⟨.bool true, by unfold execOp; rw [ho]; exact run_val (by rw [show a.eval x = _ from h1]; rfl), rfl⟩
  · exact ⟨.bool _, by unfold execOp; rw [ho]; exact run_val (by rw [show a.eval x = _ from h1]; rfl), rfl⟩
/-! ### a pick -/
def pickR (x y z : SV) : R :=
  match x with
  | .tt => R.ok y
  | .ff => R.ok z
  | .bool b => match y, z with
    | .int k m, .int k' n => if kindEq k k' then R.ok (.int k (bif b then m else n)) else none
    | y, z => match asB y, asB z with
      | some p, some q => R.ok (.bool (bif b then p else q))
      | _, _ => none
  | _ => none
theorem gives_pick {x y z : Operand} (ho : o.op = .pick x y z) : Gives P o s (pickR (s.ev x) (s.ev y) (s.ev z)) := by
  intro q r hq hm c E a w h
  have h1 := h.ev x
  have h2 := h.ev y
  have h3 := h.ev z
  have key : ∀ b, a.eval x = .bool b → (execOp a.eval o).run P w = .ok (.value (if b then a.eval y else a.eval z)) w := by
    intro b hb
    unfold execOp; rw [ho]
    simp only [hb, asBool, pure_bind]
    rfl
  unfold pickR at hq
  split at hq
  · rename_i hx
    simp only [R.ok, Option.some.injEq, Prod.mk.injEq] at hq
    obtain ⟨rfl, rfl⟩ := hq
    rw [hx] at h1
    exact ⟨_, key true h1, h2⟩
  · rename_i hx
    simp only [R.ok, Option.some.injEq, Prod.mk.injEq] at hq
    obtain ⟨rfl, rfl⟩ := hq
    rw [hx] at h1
    exact ⟨_, key false h1, h3⟩
  · rename_i b hx
    rw [hx] at h1
    split at hq
    · rename_i k m k' n hy hz
      rw [hy] at h2; rw [hz] at h3
      split at hq
      · rename_i hk
        have hk := kindEq_eq hk
        subst hk
        simp only [R.ok, Option.some.injEq, Prod.mk.injEq] at hq
        obtain ⟨rfl, rfl⟩ := hq
        refine ⟨_, key b h1, ?_⟩
        cases b
        · exact h3
        · exact h2
      · cases hq
    · split at hq
      · rename_i p r hy hz
        simp only [R.ok, Option.some.injEq, Prod.mk.injEq] at hq
        obtain ⟨rfl, rfl⟩ := hq
        refine ⟨_, key b h1, ?_⟩
        cases b
        · exact asB_rel hz h3
        · exact asB_rel hy h2
      · cases hq
  · cases hq
/-! ### conversions of whole numbers -/
def convR (P : Program) (src dst : TypeId) (x : SV) : R :=
  match P.underlying src, P.underlying dst, x with
  | some (.int _), some (.int k), .int _ n => R.ok (.int k (k.wrap n))
  | some .string, some .string, .str b => R.ok (.str b)
  | _, _, _ => none
theorem gives_conv {src dst : TypeId} {x : Operand} (ho : o.op = .convert src dst x) : Gives P o s (convR P src dst (s.ev x)) := by
  intro q z hq hm c E a w h
  have h1 := h.ev x
  unfold convR at hq
  split at hq
  · rename_i hs hd hx
    simp only [R.ok, Option.some.injEq, Prod.mk.injEq] at hq
    obtain ⟨rfl, rfl⟩ := hq
    rw [hx] at h1
    refine ⟨.int _ _, ?_, rfl, has_wrap _ _⟩
    unfold execOp; rw [ho]
    refine run_val ?_
    rw [h1.1]
    simp only [convert, Sem.run_bind, run_underlying hs, run_underlying hd, Result.andThen_ok]
    rfl
  · rename_i hs hd hx
    simp only [R.ok, Option.some.injEq, Prod.mk.injEq] at hq
    obtain ⟨rfl, rfl⟩ := hq
    rw [hx] at h1
    refine ⟨.string _, ?_, rfl, h1.2⟩
    unfold execOp; rw [ho]
    refine run_val ?_
    rw [h1.1]
    simp only [convert, Sem.run_bind, run_underlying hs, run_underlying hd, Result.andThen_ok]
    rfl
  · cases hq
/-! ### a byte of a string -/
def byteAt (b : ByteArray) (i : Nat) : Int := if h : i < b.size then (b[i].toNat : Int) else 0
theorem has_byte (b : ByteArray) (i : Nat) : Has .u8 (byteAt b i) := by
  simp only [byteAt, Has, lo, hi]
  split
  · have := b[i].toNat_lt; omega
  · omega
def indexR (P : Program) (t : TypeId) (x i : SV) : R :=
  match x, i with
  | .str b, .int _ n => match P.underlying t with
    | some .string => R.ask (0 ≤ n ∧ n < (b.size : Int)) (.int .u8 (byteAt b n.toNat))
    | _ => none
  | _, _ => none
theorem gives_index {t : TypeId} {x i : Operand} (ho : o.op = .index t x i) : Gives P o s (indexR P t (s.ev x) (s.ev i)) := by
  intro q z hq hm c E a w h
  have h1 := h.ev x
  have h2 := h.ev i
  unfold indexR at hq
  split at hq
  · rename_i b k n hx hi
    split at hq
    · rename_i hu
      simp only [R.ask, Option.some.injEq, Prod.mk.injEq] at hq
      obtain ⟨rfl, rfl⟩ := hq
      simp only [met] at hm
      rw [hx] at h1; rw [hi] at h2
      refine ⟨.int .u8 (byteAt b n.toNat), ?_, rfl, has_byte _ _⟩
      unfold execOp; rw [ho]
      refine run_val ?_
      rw [h1.1, h2.1, run_index_string w t b k n hu, dif_pos hm]
      have : n.toNat < b.size := by omega
      simp only [byteAt, dif_pos this]
    · cases hq
  · cases hq
/-! ### lengths -/
def rowOf (s : St) (j : Nat) : Option Row := match s.rw[j]? with
  | some r => if r.st = 0 ∨ r.st = 1 then some r else none
  | none => none
def lenOf (s : St) (x : SV) : Option Nat :=
  match x with
  | .str b => some b.size
  | .nil => some 0
  | .sl _ ds => some ds.length
  | .own j => (rowOf s j).map (·.ds.length)
  | _ => none
theorem Inv.row_rel {c : Ctx} {E : Env} {a : Act} {w : World} (h : Inv c E s a w) {j : Nat} {r : Row} {v : Value} (hr : s.rw[j]? = some r) (hv : E.rw[j]? = some v) (hs : r.st = 0 ∨ r.st = 1) : ∃ ad cap, v = .slice ad r.ds.length cap ∧ r.ds.length ≤ cap ∧ r.ds.length ≤ 140737488355328 := by
  obtain ⟨_, h1, h2⟩ := h.rw j r v hr hv
  rcases hs with hs | hs
  · obtain ⟨xs, ⟨_, h3⟩, h4, _⟩ := h1 hs
    rcases h3 with ⟨rfl, h5⟩ | ⟨g, cap, cur, rfl, _, _, h5, _⟩
    · exact ⟨none, 0, by rw [h5], by omega, h4⟩
    · exact ⟨_, cap, rfl, h5, h4⟩
  · obtain ⟨ad, n, cap, ds, h3, h4, h5, h6, h7, _⟩ := h2 hs
    simp at h3 h4
    subst h3; subst h4
    exact ⟨ad, cap, by rw [h5], by omega, by omega⟩
def lenR (P : Program) (t : TypeId) (s : St) (x : SV) : R :=
  match P.underlying t with
  | some .string => match x with
    | .str b => R.ok (.int .i64 b.size)
    | _ => none
  | some (.slice _) => match x with
    | .str _ => none
    | x => match lenOf s x with
      | some n => R.ok (.int .i64 n)
      | none => none
  | _ => none
theorem gives_len {t : TypeId} {x : Operand} (ho : o.op = .call { callee := .builtin .len, args := #[x], argTypes := #[t] }) : Gives P o s (lenR P t s (s.ev x)) := by
  intro q z hq hm c E a w h
  have h1 := h.ev x
  have key : ∀ v n, a.eval x = v → (Builtin.len_ #[t] o.type #[v]).run P w = .ok (.int .i64 n) w → (execOp a.eval o).run P w = .ok (.value (.int .i64 n)) w := by
    intro v n hv hl
    subst hv
    unfold execOp; rw [ho]
    simp only [resolve, invoke, builtin, pure_bind, List.map_toArray, List.map_cons, List.map_nil]
    exact run_val hl
  unfold lenR at hq
  split at hq
  · rename_i hu
    split at hq
    · rename_i b hx
      simp only [R.ok, Option.some.injEq, Prod.mk.injEq] at hq
      obtain ⟨rfl, rfl⟩ := hq
      rw [hx] at h1
      exact ⟨_, key _ _ h1.1 (run_len_string w t o.type b hu), rfl, by simp only [Has, lo, hi]; have := h1.2; omega⟩
    · cases hq
  · rename_i e hu
    have hl : ∀ ad n cap, (Builtin.len_ #[t] o.type #[.slice ad n cap]).run P w = .ok (.int .i64 n) w := fun ad n cap => by simp [Builtin.len_, run_underlying hu, goInt]
    split at hq
    · cases hq
    · split at hq
      · rename_i n hn
        simp only [R.ok, Option.some.injEq, Prod.mk.injEq] at hq
        obtain ⟨rfl, rfl⟩ := hq
        have : ∃ ad cap, a.eval x = .slice ad n cap ∧ n ≤ 140737488355328 := by
          unfold lenOf at hn
          split at hn
          · rename_i b hx; exact (‹∀ b, s.ev x = SV.str b → False› b hx).elim
          · rename_i hx
            simp at hn; subst hn
            rw [hx] at h1
            exact ⟨none, 0, h1, by omega⟩
          · rename_i e ds hx
            simp at hn; subst hn
            rw [hx] at h1
            obtain ⟨ad, n, cap, ds', h3, h4, h5, h6, h7, _⟩ := h1
            simp at h3 h4
            subst h4
            exact ⟨ad, cap, by rw [h3, h5], by omega⟩
          · rename_i j hx
            rw [hx] at h1
            obtain ⟨r, hr, hn⟩ := Option.map_eq_some_iff.1 hn
            unfold rowOf at hr
            split at hr
            · rename_i r' hr'
              split at hr
              · rename_i hs
                simp at hr; subst hr; subst hn
                obtain ⟨ad, cap, h5, _, h6⟩ := h.row_rel hr' h1.1 hs
                exact ⟨ad, cap, h5, h6⟩
              · cases hr
            · cases hr
          · cases hn
        obtain ⟨ad, cap, h3, h4⟩ := this
        exact ⟨_, key _ _ h3 (hl ad n cap), rfl, by simp only [Has, lo, hi]; omega⟩
      · cases hq
  · cases hq
def minR (mx : Bool) (x y : SV) : R :=
  match x, y with
  | .int k m, .int k' n => if kindEq k k' then R.ok (.int k (if mx then max m n else min m n)) else none
  | _, _ => none
theorem gives_min {ts : Array TypeId} {x y : Operand} {mx : Bool} (ho : o.op = .call { callee := .builtin (if mx then .max else .min), args := #[x, y], argTypes := ts }) : Gives P o s (minR mx (s.ev x) (s.ev y)) := by
  intro q z hq hm c E a w h
  have h1 := h.ev x
  have h2 := h.ev y
  unfold minR at hq
  split at hq
  · rename_i k m k' n hx hy
    split at hq
    · rename_i hk
      have hk := kindEq_eq hk
      subst hk
      simp only [R.ok, Option.some.injEq, Prod.mk.injEq] at hq
      obtain ⟨rfl, rfl⟩ := hq
      rw [hx] at h1; rw [hy] at h2
      refine ⟨.int k (if mx then max m n else min m n), ?_, rfl, ?_⟩
      · unfold execOp; rw [ho]
        simp only [resolve, invoke, pure_bind, List.map_toArray, List.map_cons, List.map_nil, h1.1, h2.1]
        cases mx
        · simp only [builtin, Bool.false_eq_true, if_false]
          refine run_val ?_
          rw [run_min_int2]
          congr 2
          split <;> omega
        · simp only [builtin, if_true]
          refine run_val ?_
          rw [run_max_int2]
          congr 2
          split <;> omega
      · have h3 := h1.2
        have h4 := h2.2
        unfold Has at *
        split <;> omega
    · cases hq
  · cases hq
end
end E
end Go.Proofs.YtbjapgekagljeaaDoor
