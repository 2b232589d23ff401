/- The table of deeds' words that the program makes (deedWords): what it holds, whatever the reader. -/
import Derived.Test.YtbjapgekagljeaaDoorD0
import Derived.Laws.Tables
import Derived.Laws.Rows
import Derived.Deep.WholeRow
namespace Go.Proofs.YtbjapgekagljeaaDoor
open Go Go.RowKit
namespace D1
open D0
/-- Operations one behind the other, each of which only makes a value. -/
noncomputable def runOps (P : Program) (ops : Array Oper) : List Oper → Act → World → Option (Act × World)
  | [], a, w => some (a, w)
  | o :: r, a, w =>
    if Region.wanted o (yielded ops a.tmps) then
      match (execOp a.eval o).run P w with
      | .ok (.value v) w' => runOps P ops r (a.put o.dst v) w'
      | .ok .skip w' => runOps P ops r (a.put o.dst undef) w'
      | _ => none
    else runOps P ops r (a.put o.dst undef) w
theorem wpList_runs {P : Program} {ops : Array Oper} {Q : Exit → Act → World → Prop} {l2 : List Oper} :
    ∀ (l1 : List Oper) (a : Act) (w : World) (a' : Act) (w' : World), runOps P ops l1 a w = some (a', w') → wpList P ops Q l2 a' w' → wpList P ops Q (l1 ++ l2) a w
  | [], a, w, a', w', h, hq => by simp only [runOps, Option.some.injEq, Prod.mk.injEq] at h; obtain ⟨rfl, rfl⟩ := h; exact hq
  | o :: r, a, w, a', w', h, hq => by
    rw [List.cons_append]
    unfold runOps at h
    unfold wpList
    split at h
    · rename_i hw
      rw [if_pos hw]
      left
      unfold Oper.wp
      split at h
      · rename_i v w1 e
        rw [e]
        exact wpList_runs r _ _ _ _ h hq
      · rename_i w1 e
        rw [e]
        exact wpList_runs r _ _ _ _ h hq
      · exact absurd h (by simp)
    · rename_i hw
      rw [if_neg hw]
      exact wpList_runs r _ _ _ _ h hq
/-- What reads the numbers of a deed. -/
noncomputable def fid (k : Int) : Nat := if size k == 2 then 27 else if size k == 1 then 28 else 29
/-- The row of one deed in the table: its word, how many numbers it has, what reads them. -/
noncomputable def row (g : Nat) (k : Int) : List Value :=
  [.string ⟨(name k).toArray⟩, .int .i64 (if k == 0 then 0 else size k),
    if k == 0 then .nilFunc else .func (.func (fid k)) #[.pointer (some ⟨g, 0, none⟩)] #[]]
noncomputable def table (g : Nat) : Array Value := (([0, 1, 2, 3, 4, 5, 6, 7, 8, 9, 10] : List Int).flatMap (row g)).toArray
noncomputable def ops1 : Array Oper := match Tryd.f18.body with
  | some (.seq _ (.seq (.region _ ops _) _)) => ops
  | some (.seq _ (.region _ ops _)) => ops
  | _ => #[]
example : ops1.size = 32 := by kernel_rfl
noncomputable def frame (g b : Nat) : Act := ⟨#[.pointer (some ⟨g, 0, none⟩), undef, .pointer (some ⟨b, 0, none⟩), undef, undef, undef, undef, undef, undef, undef, undef, undef, undef, undef, undef, undef, undef, undef, undef, undef, undef, undef, undef, undef, undef, undef, undef, undef, undef, undef, undef, undef, undef, undef], []⟩
noncomputable def after (g b : Nat) (w : World) : Act × World := (runOps Tryd.prog ops1 (ops1.toList.take 31) (frame g b) w).getD (⟨#[], []⟩, w)
theorem after_runs (g b : Nat) (w : World) : runOps Tryd.prog ops1 (ops1.toList.take 31) (frame g b) w = some (after g b w) := by kernel_rfl
theorem after_world (g b : Nat) (w : World) : (after g b w).2 = w := by kernel_rfl
theorem after_t (g b : Nat) (w : World) : (after g b w).1.eval (.tmp 33) = .agg (table g) := by kernel_rfl
theorem after_p (g b : Nat) (w : World) : (after g b w).1.tmps.getD 2 undef = .pointer (some ⟨b, 0, none⟩) := by kernel_rfl
theorem after_d (g b : Nat) (w : World) : (after g b w).1.defers = [] := by kernel_rfl
theorem info43 : (Tryd.prog.info? 43).map (·.size) = some 33 := by kernel_rfl
theorem table_size (g : Nat) : (table g).size = 33 := by kernel_rfl
theorem table_one (g : Nat) : (table g).all (·.oneCell') = true := by kernel_rfl
noncomputable def zeros : Array Value := ([0, 1, 2, 3, 4, 5, 6, 7, 8, 9, 10].flatMap fun (_ : Nat) => [Value.string ⟨#[]⟩, .int .i64 0, .nilFunc]).toArray
theorem drop31 : ops1.toList.drop 31 = [{ dst := none, op := .store 43 (.tmp 2) (.tmp 33), type := (ops1.toList.getLastD default).type, pos := (ops1.toList.getLastD default).pos, after := (ops1.toList.getLastD default).after, guard := none }] := by kernel_rfl
theorem region1 (Q : Exit → Act → World → Prop) (g b : Nat) (w : World) (old : Array Value) (hb : w.heap[b]? = some (.cells old 43 (0, 0))) (ho : old.size = 33)
    (h : ∀ a' : Act, a'.tmps.getD 2 undef = .pointer (some ⟨b, 0, none⟩) → a'.defers = [] → Q .normal a' (w.setRow b (table g))) : (Code.region 1 ops1 false).wp Tryd.prog Q (frame g b) w := by
  refine wp_region_list ?_
  rw [← List.take_append_drop 31 ops1.toList]
  rw [drop31]
  have hr := after_runs g b w
  have hw := after_world g b w
  have ht := after_t g b w
  have hp := after_p g b w
  have hd := after_d g b w
  generalize after g b w = z at hr hw ht hp hd
  obtain ⟨a', w'⟩ := z
  simp only at hw ht hp hd
  subst hw
  refine wpList_runs _ _ _ _ _ hr ?_
  refine wpList_store_row rfl 43 (.tmp 2) (.tmp 33) rfl b (table g) hp ht 43 old hb (by rw [info43, table_size]) (by rw [ho, table_size]) (table_one g) ?_
  exact wpList_nil (h _ hp hd)
set_option maxHeartbeats 400000 in
theorem deedWords (g : Nat) (w : World) : Calls Tryd.prog 18 #[.pointer (some ⟨g, 0, none⟩)] w (Gives (.agg (table g)) w) := by
  go_enter Tryd.func18, Tryd.ntmps18
  iterate 9 (first | (go_outline; fail) | go_step)
  refine region1 _ g w.heap.size (w.alloc (.cells zeros 43)) zeros (by show (w.heap.push _)[w.heap.size]? = _; simp) (by kernel_rfl) ?_
  intro a' hp hd
  simp only [Exit.then]
  go_step
  go_step
  rw [World.setRow_alloc_new]
  refine bodyPost_ret (v := .agg (table g)) ?_ hd ⟨rfl, (Below.refl _ _).alloc (Nat.le_refl _) _⟩
  exact results_cell_row (h := Tryd.results18) (g := w.heap.size) (t := 43) (ty := 43) (cs := table g) (fr := (0, 0)) (hp := hp) (hg := by show (w.heap.push _)[w.heap.size]? = _; simp) (hu := Tryd.underlying43) (hd := rfl) (hi := by rw [info43, table_size])
end D1
end Go.Proofs.YtbjapgekagljeaaDoor
