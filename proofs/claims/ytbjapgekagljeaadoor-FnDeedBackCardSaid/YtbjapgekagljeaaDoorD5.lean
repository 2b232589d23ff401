/- readDeed: the deferred closure, and both ways through it. -/
import Derived.Test.YtbjapgekagljeaaDoorS9
import Derived.WalkKit
import Derived.OwnWalk
import Derived.Below
import Derived.Deep.RegionWith
import Derived.KernelRfl
import Derived.Tactics2
import Derived.Defers
import Derived.Recover
import Derived.Laws.Pointers
namespace Go.Proofs.YtbjapgekagljeaaDoor
open Go Go.RowKit
namespace D5
open E
theorem replicate_nine : Array.replicate 9 undef = #[undef, undef, undef, undef, undef, undef, undef, undef, undef] := rfl
theorem catch_idle (p q : Addr) (w : World) :
    CallsD Tryd.prog 31 #[.pointer (some p), .pointer (some q)] .returning w fun e u' w' => e = .returned (.tuple #[]) ∧ u' = .returning ∧ w' = w.alloc (.cells #[.int .i64 0] 59) := by
  have hta : ∀ (xt : TypeId) w, (Instr.typeAssert .nilIface xt 59 true).run Tryd.prog w = .ok (.tuple #[.agg #[.int .i64 0], .bool false]) w := fun _ _ => by kernel_rfl
  refine callsD_of_wpS Tryd.func31 rfl fun c₀ cs hu => ?_
  apply wpS_seq
  apply wpS_region
  simp [wpOpsS, go_sem, recoverD, hu, Tryd.ntmps31, Exit.thenS, hta, replicate_nine]
  apply wpS_seq
  apply wpS_region
  simp [wpOpsS, go_sem, Exit.thenS]
  refine wpS_cond (t := false) (by simp [Act.eval]) ?_
  simp only [Bool.false_eq_true, if_false]
  refine wpS_of_wp (wp_skip ?_)
  cases c₀
  simp_all [bodyPostS, results, Tryd.results31]
theorem catch_panicking (b c : Nat) (x0 x1 x2 : Int) (y : Bool) (v : Value) (older : List PanicEntry) (w : World) (hb : w.heap[b]? = some (.cells #[.int .i64 x0, .int .i64 x1, .int .i64 x2] 25)) (hc : w.heap[c]? = some (.cells #[.bool y] 4)) (hv : Shp 1 v) :
    CallsD Tryd.prog 31 #[.pointer (some ⟨b, 0, none⟩), .pointer (some ⟨c, 0, none⟩)] (.panicking ({ v := .iface 59 v, recovered := false } :: older)) w fun e u' w' => e = .returned (.tuple #[]) ∧ u' = .panicking ({ v := .iface 59 v, recovered := true } :: older) ∧
      ∃ n, w' = ((((w.setCell ⟨b, 0, none⟩ (.int .i64 0)).setCell ⟨b, 1, none⟩ (.int .i64 0)).setCell ⟨b, 2, none⟩ (.int .i64 0)).setCell ⟨c, 0, none⟩ (.bool false)).alloc (.cells #[n] 59) := by
  obtain ⟨xs, rfl, hx1, hx2⟩ := hv
  match xs, hx1, hx2 with
  | [n], _, hx2 =>
  have hn : n.oneCell' = true := hx2 n (List.mem_singleton.2 rfl)
  have hta : ∀ (xt : TypeId) w, (Instr.typeAssert (.iface 59 (.agg #[n])) xt 59 true).run Tryd.prog w = .ok (.tuple #[.agg #[n], .bool true]) w := fun _ _ => by kernel_rfl
  have hst : (store ⟨w.heap.size, 0, none⟩ n).run Tryd.prog (w.alloc (.cells #[.int .i64 0] 59)) = .ok () ((w.alloc (.cells #[.int .i64 0] 59)).setCell ⟨w.heap.size, 0, none⟩ n) := by
    rw [run_store _ _ _ _ _ hn]
    simp [go_sem]
  have hbs : b < w.heap.size := (Array.getElem?_eq_some_iff.1 hb).1
  have hcs : c < w.heap.size := (Array.getElem?_eq_some_iff.1 hc).1
  have hbc : ¬ b = c := fun e => by subst e; rw [hb] at hc; cases hc
  have c0 : w.cell? ⟨b, 0, none⟩ = some (.int .i64 x0) := by simp [World.cell?, hb]
  have c1 : w.cell? ⟨b, 1, none⟩ = some (.int .i64 x1) := by simp [World.cell?, hb]
  have c2 : w.cell? ⟨b, 2, none⟩ = some (.int .i64 x2) := by simp [World.cell?, hb]
  have d0 : w.cell? ⟨c, 0, none⟩ = some (.bool y) := by simp [World.cell?, hc]
  have fb : ∀ o, w.frozen? ⟨b, o, none⟩ = false := fun o => by simp [World.frozen?, hb]
  have fc : ∀ o, w.frozen? ⟨c, o, none⟩ = false := fun o => by simp [World.frozen?, hc]
  refine callsD_of_wpS Tryd.func31 rfl fun c₀ cs hu => ?_
  apply wpS_seq
  apply wpS_region
  simp [wpOpsS, go_sem, recoverD, hu, Tryd.ntmps31, Exit.thenS, hta, replicate_nine, hst]
  apply wpS_seq
  apply wpS_region
  simp [wpOpsS, go_sem, Exit.thenS]
  refine wpS_cond (t := true) (by simp [Act.eval]) ?_
  simp only [if_true]
  apply wpS_region
  simp [wpOpsS, go_sem, c0, c1, c2, d0, fb, fc, hbs, hcs, bodyPostS, results, Tryd.results31]
  exact ⟨n, rfl⟩
theorem deed_good (t : ByteArray) (hp : t.size ≤ 30 ∧ kOf t ≠ 0 ∧ okP t (kOf t) = true) (g : Nat) (W : World) (hg : W.heap[g]? = some (.cells #[.string t, .int .i64 0] 46)) :
    Calls Tryd.prog 32 #[.pointer (some ⟨g, 0, none⟩)] W fun e w' => e = .returned (.agg #[.int .i64 (kOf t), .int .i64 (aP t (kOf t)), .int .i64 (bP t (kOf t))]) ∧ KeepBut (· ∈ [g]) W w' := by
  have ht : t.size ≤ 140737488351232 := by omega
  refine (deed_fn t hp (fun _ => False) [g] W [.pointer (some ⟨g, 0, none⟩)] (fun _ h => h.elim) (fun _ _ h => h) rfl (fun p hp b hb => ?_) ⟨_, _, rfl, ⟨g, rfl, rfl⟩, rfl⟩).mono ?_
  · simp at hp hb
    subst hp; subst hb
    exact ⟨[.string t, .int .i64 0], hg, ⟨_, _, rfl, ⟨rfl, ht⟩, _, _, rfl, ⟨rfl, by simp [Has, lo, hi]⟩, rfl⟩, rfl⟩
  · rintro e w' ⟨_, v, rfl, _, hk, hv, _, _⟩
    obtain ⟨vs, rfl, v1, _, rfl, ⟨rfl, _⟩, v2, _, rfl, ⟨rfl, _⟩, v3, _, rfl, ⟨rfl, _⟩, rfl⟩ := hv
    exact ⟨rfl, hk⟩
theorem deed_bad (t : ByteArray) (hp : t.size ≤ 30 ∧ (kOf t = 0 ∨ okP t (kOf t) = false)) (g : Nat) (W : World) (hg : W.heap[g]? = some (.cells #[.string t, .int .i64 0] 46)) :
    Calls Tryd.prog 32 #[.pointer (some ⟨g, 0, none⟩)] W fun e w' => ∃ x, Shp 1 x ∧ e = .panicked [{ v := .iface 59 x, recovered := false }] ∧ KeepBut (· ∈ [g]) W w' := by
  have ht : t.size ≤ 140737488351232 := by omega
  refine deedX_fnx t hp (fun _ => False) [g] W [.pointer (some ⟨g, 0, none⟩)] (fun _ h => h.elim) (fun _ _ h => h) rfl (fun p hp b hb => ?_) ⟨_, _, rfl, ⟨g, rfl, rfl⟩, rfl⟩
  simp at hp hb
  subst hp; subst hb
  exact ⟨[.string t, .int .i64 0], hg, ⟨_, _, rfl, ⟨rfl, ht⟩, _, _, rfl, ⟨rfl, by simp [Has, lo, hi]⟩, rfl⟩, rfl⟩
theorem kept {g : Nat} {W w' : World} (h : KeepBut (· ∈ [g]) W w') : (∀ b o, b < W.heap.size → ¬ b = g → w'.cell? ⟨b, o, none⟩ = W.cell? ⟨b, o, none⟩) ∧ (∀ b o, b < W.heap.size → ¬ b = g → w'.frozen? ⟨b, o, none⟩ = W.frozen? ⟨b, o, none⟩) :=
  ⟨fun b o h1 h2 => by simp only [World.cell?]; rw [h.block b h1 (by simpa using h2)], fun b o h1 h2 => by simp only [World.frozen?]; rw [h.block b h1 (by simpa using h2)]⟩
theorem blocks (w : World) (t : ByteArray) : let W := ((w.alloc (.cells #[.int .i64 0, .int .i64 0, .int .i64 0] 25)).alloc (.cells #[.bool false] 4)).alloc (.cells #[.string t, .int .i64 0] 46)
    W.heap[w.heap.size]? = some (.cells #[.int .i64 0, .int .i64 0, .int .i64 0] 25) ∧ W.heap[w.heap.size + 1]? = some (.cells #[.bool false] 4) ∧ W.heap[w.heap.size + 1 + 1]? = some (.cells #[.string t, .int .i64 0] 46) := by
  refine ⟨?_, ?_, ?_⟩
  · rw [Below.heap_alloc _ _ _ (by simp; omega), Below.heap_alloc _ _ _ (by simp)]; exact heap_alloc_new w _
  · rw [Below.heap_alloc _ _ _ (by simp)]
    have := heap_alloc_new (w.alloc (.cells #[.int .i64 0, .int .i64 0, .int .i64 0] 25)) (.cells #[.bool false] 4)
    simpa using this
  · have := heap_alloc_new ((w.alloc (.cells #[.int .i64 0, .int .i64 0, .int .i64 0] 25)).alloc (.cells #[.bool false] 4)) (.cells #[.string t, .int .i64 0] 46)
    simpa using this
theorem after {w w1 : World} {t : ByteArray} (hk : KeepBut (· ∈ [w.heap.size + 1 + 1]) (((w.alloc (.cells #[.int .i64 0, .int .i64 0, .int .i64 0] 25)).alloc (.cells #[.bool false] 4)).alloc (.cells #[.string t, .int .i64 0] 46)) w1) :
    w.heap.size + 3 ≤ w1.heap.size ∧ w1.heap[w.heap.size]? = some (.cells #[.int .i64 0, .int .i64 0, .int .i64 0] 25) ∧ w1.heap[w.heap.size + 1]? = some (.cells #[.bool false] 4) := by
  obtain ⟨h1, h2, h3⟩ := blocks w t
  have hs := hk.size
  simp at hs
  refine ⟨hs, ?_, ?_⟩
  · rw [hk.block _ (by simp; omega) (by simp; omega)]; exact h1
  · rw [hk.block _ (by simp) (by simp)]; exact h2
theorem after_below {w w1 : World} {t : ByteArray} (hk : KeepBut (· ∈ [w.heap.size + 1 + 1]) (((w.alloc (.cells #[.int .i64 0, .int .i64 0, .int .i64 0] 25)).alloc (.cells #[.bool false] 4)).alloc (.cells #[.string t, .int .i64 0] 46)) w1) : Below w.heap.size w w1 := by
  have h0 := (((Below.refl w.heap.size w).alloc (Nat.le_refl _) (.cells #[.int .i64 0, .int .i64 0, .int .i64 0] 25)).alloc (by simp) (.cells #[.bool false] 4)).alloc (by simp; omega) (.cells #[.string t, .int .i64 0] 46)
  refine ⟨hk.os.trans h0.os, hk.tape.trans h0.tape, hk.output.trans h0.output, Nat.le_trans h0.size hk.size, fun b hb => ?_⟩
  have hb2 := Nat.lt_of_lt_of_le hb h0.size
  rw [hk.block b hb2 (by simp; omega)]
  exact h0.block b hb
theorem read_good (t : ByteArray) (hp : t.size ≤ 30 ∧ kOf t ≠ 0 ∧ okP t (kOf t) = true) (w : World) :
    Calls Tryd.prog 23 #[.string t] w fun e w' => e = .returned (.tuple #[.agg #[.int .i64 (kOf t), .int .i64 (aP t (kOf t)), .int .i64 (bP t (kOf t))], .bool true]) ∧ Below w.heap.size w w' := by
  have hmf : ∀ (fn : Fn) (first cap : Array Value) (w : World), (Instr.makeFunc fn first cap).run Tryd.prog w = .ok (.func fn first cap) w := fun _ _ _ _ => rfl
  go_enter_defers Tryd.func23, Tryd.ntmps23
  go_wp2_with fail
  refine (deed_good t hp (w.heap.size + 1 + 1) _ (blocks w t).2.2).mono ?_
  rintro e w1 ⟨rfl, hk⟩
  obtain ⟨hz, b0, b1⟩ := after hk
  have hB := after_below hk
  clear hk
  have c0 : w1.cell? ⟨w.heap.size, 0, none⟩ = some (.int .i64 0) := by simp [World.cell?, b0]
  have c1 : w1.cell? ⟨w.heap.size, 1, none⟩ = some (.int .i64 0) := by simp [World.cell?, b0]
  have c2 : w1.cell? ⟨w.heap.size, 2, none⟩ = some (.int .i64 0) := by simp [World.cell?, b0]
  have d0 : w1.cell? ⟨w.heap.size + 1, 0, none⟩ = some (.bool false) := by simp [World.cell?, b1]
  have fb : ∀ o, w1.frozen? ⟨w.heap.size, o, none⟩ = false := fun o => by simp [World.frozen?, b0]
  have fc : ∀ o, w1.frozen? ⟨w.heap.size + 1, o, none⟩ = false := fun o => by simp [World.frozen?, b1]
  clear hp b0 b1
  go_wp2_with fail
  refine leaves_cons (f := 31) (args := #[.pointer (some ⟨w.heap.size, 0, none⟩), .pointer (some ⟨w.heap.size + 1, 0, none⟩)]) (by simp) (by simp [go_sem]) ?_
  refine (catch_idle _ _ _).mono ?_
  rintro e u' w'' ⟨rfl, rfl, rfl⟩
  have hz1 : w.heap.size < w1.heap.size := by omega
  have hz2 : w.heap.size + 1 < w1.heap.size := by omega
  simp [Leaves, settle, results, Tryd.results23, go_sem, c0, c1, c2, d0, hz1, hz2]
  exact ((((hB.setCell (by simp) _).setCell (by simp) _).setCell (by simp) _).setCell (by simp) _).alloc (by simp; omega) _
theorem read_bad (t : ByteArray) (hp : t.size ≤ 30 ∧ (kOf t = 0 ∨ okP t (kOf t) = false)) (w : World) :
    Calls Tryd.prog 23 #[.string t] w fun e w' => e = .returned (.tuple #[.agg #[.int .i64 0, .int .i64 0, .int .i64 0], .bool false]) ∧ Below w.heap.size w w' := by
  have hmf : ∀ (fn : Fn) (first cap : Array Value) (w : World), (Instr.makeFunc fn first cap).run Tryd.prog w = .ok (.func fn first cap) w := fun _ _ _ _ => rfl
  go_enter_defers Tryd.func23, Tryd.ntmps23
  go_wp2_with fail
  refine (deed_bad t hp (w.heap.size + 1 + 1) _ (blocks w t).2.2).mono ?_
  rintro e w1 ⟨x, hx, rfl, hk⟩
  obtain ⟨hz, b0, b1⟩ := after hk
  have hB := after_below hk
  clear hk hp
  refine leaves_cons (f := 31) (args := #[.pointer (some ⟨w.heap.size, 0, none⟩), .pointer (some ⟨w.heap.size + 1, 0, none⟩)]) (by simp) (by simp [go_sem]) ?_
  refine (catch_panicking _ _ 0 0 0 false x [] _ b0 b1 hx).mono ?_
  rintro e u' w'' ⟨rfl, rfl, n, rfl⟩
  have c0 : w1.cell? ⟨w.heap.size, 0, none⟩ = some (.int .i64 0) := by simp [World.cell?, b0]
  have c1 : w1.cell? ⟨w.heap.size, 1, none⟩ = some (.int .i64 0) := by simp [World.cell?, b0]
  have c2 : w1.cell? ⟨w.heap.size, 2, none⟩ = some (.int .i64 0) := by simp [World.cell?, b0]
  have d0 : w1.cell? ⟨w.heap.size + 1, 0, none⟩ = some (.bool false) := by simp [World.cell?, b1]
  have hz1 : w.heap.size < w1.heap.size := by omega
  have hz2 : w.heap.size + 1 < w1.heap.size := by omega
  simp [Leaves, settle, results, Tryd.results23, go_sem, c0, c1, c2, d0, hz1, hz2]
  exact ((((hB.setCell (by simp) _).setCell (by simp) _).setCell (by simp) _).setCell (by simp) _).alloc (by simp; omega) _
end D5
end Go.Proofs.YtbjapgekagljeaaDoor
