/- Data of Go values: what a value of a type reads as in a world, by trees of numbers, bools, strings and lists; plain theory, no program in sight. -/
import Derived.Below
import Derived.Tactics
import Derived.WalkKit
import Derived.KernelRfl
import Derived.Deep.OwnRows
import Derived.Maps.AppendAt
import Derived.Lib.ConvBytes
import Derived.Deep.MidRow
namespace Go.Proofs.YtbjapgekagljeaaDoor
open Go Go.RowKit
namespace E
/-- Types as the data go by them: one cell each, or a struct of such, or a slice. -/
inductive Ty where
  | int (k : IntKind) | bool | str | raw | sl (e : Ty) | st (fs : List Ty)
/-- A datum. -/
inductive Dat where
  | int (n : Int) | bool (b : Bool) | str (s : ByteArray) | raw (v : Value) | node (l : List Dat)
instance : Inhabited Dat := ⟨.node []⟩
def Dat.toInt : Dat → Int | .int n => n | _ => 0
def Dat.toBool : Dat → Bool | .bool b => b | _ => false
def Dat.toStr : Dat → ByteArray | .str s => s | _ => ⟨#[]⟩
def Dat.toRaw : Dat → Value | .raw v => v | _ => undef
def Dat.kids : Dat → List Dat | .node l => l | _ => []
def Dat.f (d : Dat) (i : Nat) : Dat := d.kids.getD i default
mutual
def Ty.size : Ty → Nat
  | .st fs => Ty.sizes fs
  | _ => 1
def Ty.sizes : List Ty → Nat
  | [] => 0
  | f :: fs => f.size + Ty.sizes fs
end
def lo : IntKind → Int
  | .i8 => -128 | .i16 => -32768 | .i32 => -2147483648 | .i64 => -9223372036854775808 | _ => 0
def hi : IntKind → Int
  | .i8 => 127 | .i16 => 32767 | .i32 => 2147483647 | .i64 => 9223372036854775807 | .u8 => 255 | .u16 => 65535 | .u32 => 4294967295 | .u64 => 18446744073709551615
def Has (k : IntKind) (n : Int) : Prop := lo k ≤ n ∧ n ≤ hi k
theorem has_wrap (k : IntKind) (n : Int) : Has k (k.wrap n) := by
  cases k <;> simp only [Has, lo, hi, IntKind.wrap, IntKind.signed, IntKind.bits] <;> simp <;> (try split) <;> omega
mutual
/-- The cells cs read as the datum d of the type; whatever they lead to lies in blocks that S lets. -/
def Rep (S : Nat → Prop) (w : World) : Ty → List Value → Dat → Prop
  | .int k, cs, d => ∃ n, cs = [.int k n] ∧ d = .int n ∧ Has k n
  | .bool, cs, d => ∃ b, cs = [.bool b] ∧ d = .bool b
  | .str, cs, d => ∃ s, cs = [.string s] ∧ d = .str s ∧ s.size ≤ 140737488351232
  | .raw, cs, d => ∃ v, cs = [v] ∧ d = .raw v ∧ v.oneCell' = true
  | .sl e, cs, d => ∃ a n c ds, cs = [.slice a n c] ∧ d = .node ds ∧ ds.length = n ∧ n ≤ c ∧ n ≤ 140737488355328 ∧
      (n ≠ 0 → ∃ b off, a = some ⟨b, off, none⟩ ∧ S b ∧ ∀ i x, ds[i]? = some x → ∃ es, w.rangeAt b (off + i * e.size) es ∧ Rep S w e es x)
  | .st fs, cs, d => ∃ ds, d = .node ds ∧ Reps S w fs cs ds
def Reps (S : Nat → Prop) (w : World) : List Ty → List Value → List Dat → Prop
  | [], cs, ds => cs = [] ∧ ds = []
  | f :: fs, cs, ds => ∃ c1 c2 d1 d2, cs = c1 ++ c2 ∧ ds = d1 :: d2 ∧ Rep S w f c1 d1 ∧ Reps S w fs c2 d2
end
mutual
theorem Rep.length {S : Nat → Prop} {w : World} : ∀ {t : Ty} {cs : List Value} {d : Dat}, Rep S w t cs d → cs.length = t.size
  | .int _, _, _, ⟨_, h, _⟩ => by rw [h]; rfl
  | .bool, _, _, ⟨_, h, _⟩ => by rw [h]; rfl
  | .str, _, _, ⟨_, h, _⟩ => by rw [h]; rfl
  | .raw, _, _, ⟨_, h, _⟩ => by rw [h]; rfl
  | .sl _, _, _, ⟨_, _, _, _, h, _⟩ => by rw [h]; rfl
  | .st _, _, _, ⟨_, _, h⟩ => by rw [Ty.size]; exact Reps.length h
theorem Reps.length {S : Nat → Prop} {w : World} : ∀ {ts : List Ty} {cs : List Value} {ds : List Dat}, Reps S w ts cs ds → cs.length = Ty.sizes ts
  | [], _, _, ⟨h, _⟩ => by rw [h]; rfl
  | _ :: _, _, _, ⟨_, _, _, _, h, _, h1, h2⟩ => by rw [h, List.length_append, Rep.length h1, Reps.length h2, Ty.sizes]
end
/-- Old blocks that S lets read as they did. -/
def Keeps (S : Nat → Prop) (w w' : World) : Prop := ∀ b, S b → w'.heap[b]? = w.heap[b]?
theorem range_keeps {S : Nat → Prop} {w w' : World} {b off : Nat} {cs : List Value} (h : w.rangeAt b off cs) (hk : Keeps S w w') (hb : S b) : w'.rangeAt b off cs :=
  fun i v hv => (World.cell?_of_block (w := w) (a := ⟨b, off + i, none⟩) (hk b hb)).trans (h i v hv)
mutual
theorem Rep.mono {S S' : Nat → Prop} {w w' : World} (hk : Keeps S w w') (hS : ∀ b, S b → S' b) : ∀ {t : Ty} {cs : List Value} {d : Dat}, Rep S w t cs d → Rep S' w' t cs d
  | .int _, _, _, h => h
  | .bool, _, _, h => h
  | .str, _, _, h => h
  | .raw, _, _, h => h
  | .sl e, _, _, ⟨a, n, c, ds, h1, h2, h3, h4, h5, h6⟩ => ⟨a, n, c, ds, h1, h2, h3, h4, h5, fun hn => by
      obtain ⟨b, off, ha, hb, hc⟩ := h6 hn
      refine ⟨b, off, ha, hS b hb, fun i x hx => ?_⟩
      obtain ⟨es, hes, hr⟩ := hc i x hx
      exact ⟨es, range_keeps hes hk hb, Rep.mono hk hS hr⟩⟩
  | .st _, _, _, ⟨ds, h1, h2⟩ => ⟨ds, h1, Reps.mono hk hS h2⟩
theorem Reps.mono {S S' : Nat → Prop} {w w' : World} (hk : Keeps S w w') (hS : ∀ b, S b → S' b) : ∀ {ts : List Ty} {cs : List Value} {ds : List Dat}, Reps S w ts cs ds → Reps S' w' ts cs ds
  | [], _, _, h => h
  | _ :: _, _, _, ⟨c1, c2, d1, d2, h1, h2, h3, h4⟩ => ⟨c1, c2, d1, d2, h1, h2, Rep.mono hk hS h3, Reps.mono hk hS h4⟩
end
end E
end Go.Proofs.YtbjapgekagljeaaDoor
