/- Symbolic values and states: what is known of a function's slots, of the blocks that it made or was lent, and of all other memory; how that knowledge is kept. Plain theory, no program in sight. -/
import Derived.Test.YtbjapgekagljeaaDoorE0
import Derived.Deep.MidRow
namespace Go.Proofs.YtbjapgekagljeaaDoor
open Go Go.RowKit
namespace E
inductive SV where
  | un | tt | ff | int (k : IntKind) (n : Int) | bool (b : Bool) | str (s : ByteArray) | raw (v : Value) | nil | sl (e : Ty) (ds : List Dat) | own (j : Nat)
  | agg (l : List SV) | tup (l : List SV) | bp (j off : Nat) | rp (j i sz off : Nat) | ptr (t : Ty) (d : Dat) (off : Nat) | fn (f : FuncId) (caps : List SV) | nilp | ifc (t : TypeId) (l : List SV) | bf (f : FuncId) (first : List SV)
instance : Inhabited SV := ⟨.un⟩
/-- The blocks of the boxes; the values of the rows. -/
structure Env where
  bx : List Nat
  rw : List Value
def Env.le (E E' : Env) : Prop := (∀ (j b : Nat), E.bx[j]? = some b → E'.bx[j]? = some b) ∧ ∀ (j : Nat) (v : Value), E.rw[j]? = some v → E'.rw[j]? = some v
theorem Env.le_refl (E : Env) : E.le E := ⟨fun _ _ h => h, fun _ _ h => h⟩
def isSlice (v : Value) : Prop := ∃ a n c, v = .slice a n c
mutual
def RelV (S : Nat → Prop) (E : Env) (w : World) : SV → Value → Prop
  | .un, _ => True
  | .tt, v => v = .bool true
  | .ff, v => v = .bool false
  | .int k n, v => v = .int k n ∧ Has k n
  | .bool b, v => v = .bool b
  | .str s, v => v = .string s ∧ s.size ≤ 140737488351232
  | .raw x, v => v = x ∧ x.oneCell' = true
  | .nil, v => v = .slice none 0 0
  | .sl e ds, v => Rep S w (.sl e) [v] (.node ds)
  | .own j, v => E.rw[j]? = some v ∧ isSlice v
  | .agg l, v => ∃ vs, v = .agg vs.toArray ∧ RelVs S E w l vs
  | .tup l, v => ∃ vs, v = .tuple vs.toArray ∧ RelVs S E w l vs
  | .bp j off, v => ∃ b, E.bx[j]? = some b ∧ v = .pointer (some ⟨b, off, none⟩)
  | .rp j i sz off, v => ∃ g n c, E.rw[j]? = some (.slice (some ⟨g, 0, none⟩) n c) ∧ v = .pointer (some ⟨g, i * sz + off, none⟩)
  | .ptr t d off, v => ∃ b o cs, v = .pointer (some ⟨b, o + off, none⟩) ∧ S b ∧ w.rangeAt b o cs ∧ Rep S w t cs d
  | .fn f caps, v => ∃ vs, v = .func (.func f) #[] vs.toArray ∧ RelVs S E w caps vs
  | .nilp, v => v = .pointer none
  | .ifc t l, v => ∃ vs, v = .iface t (.agg vs.toArray) ∧ RelVs S E w l vs
  | .bf f l, v => ∃ vs, v = .func (.func f) vs.toArray #[] ∧ RelVs S E w l vs
def RelVs (S : Nat → Prop) (E : Env) (w : World) : List SV → List Value → Prop
  | [], vs => vs = []
  | s :: l, vs => ∃ v vs', vs = v :: vs' ∧ RelV S E w s v ∧ RelVs S E w l vs'
end
mutual
theorem RelV.mono {S S' : Nat → Prop} {E E' : Env} {w w' : World} (hk : Keeps S w w') (hS : ∀ b, S b → S' b) (hE : E.le E') : ∀ {s : SV} {v : Value}, RelV S E w s v → RelV S' E' w' s v
  | .un, _, _ => trivial
  | .tt, _, h => h
  | .ff, _, h => h
  | .int _ _, _, h => h
  | .bool _, _, h => h
  | .str _, _, h => h
  | .raw _, _, h => h
  | .nil, _, h => h
  | .sl _ _, _, h => Rep.mono hk hS h
  | .own j, v, ⟨h, h'⟩ => ⟨hE.2 j v h, h'⟩
  | .agg _, _, ⟨vs, h1, h2⟩ => ⟨vs, h1, RelVs.mono hk hS hE h2⟩
  | .tup _, _, ⟨vs, h1, h2⟩ => ⟨vs, h1, RelVs.mono hk hS hE h2⟩
  | .bp j _, _, ⟨b, h1, h2⟩ => ⟨b, hE.1 j b h1, h2⟩
  | .rp j _ _ _, _, ⟨g, n, c, h1, h2⟩ => ⟨g, n, c, hE.2 j _ h1, h2⟩
  | .ptr _ _ _, _, ⟨b, o, cs, h1, h2, h3, h4⟩ => ⟨b, o, cs, h1, hS b h2, range_keeps h3 hk h2, Rep.mono hk hS h4⟩
  | .fn _ _, _, ⟨vs, h1, h2⟩ => ⟨vs, h1, RelVs.mono hk hS hE h2⟩
  | .nilp, _, h => h
  | .ifc _ _, _, ⟨vs, h1, h2⟩ => ⟨vs, h1, RelVs.mono hk hS hE h2⟩
  | .bf _ _, _, ⟨vs, h1, h2⟩ => ⟨vs, h1, RelVs.mono hk hS hE h2⟩
theorem RelVs.mono {S S' : Nat → Prop} {E E' : Env} {w w' : World} (hk : Keeps S w w') (hS : ∀ b, S b → S' b) (hE : E.le E') : ∀ {l : List SV} {vs : List Value}, RelVs S E w l vs → RelVs S' E' w' l vs
  | [], _, h => h
  | _ :: _, _, ⟨v, vs', h1, h2, h3⟩ => ⟨v, vs', h1, RelV.mono hk hS hE h2, RelVs.mono hk hS hE h3⟩
end
section
variable {S : Nat → Prop} {E : Env} {w : World}
theorem RelVs.length : ∀ {l : List SV} {vs : List Value}, RelVs S E w l vs → vs.length = l.length
  | [], _, h => by rw [h]; rfl
  | _ :: _, _, ⟨v, vs', h1, _, h3⟩ => by rw [h1, List.length_cons, List.length_cons, h3.length]
theorem RelVs.get : ∀ {l : List SV} {vs : List Value}, RelVs S E w l vs → ∀ {i : Nat} {s : SV}, l[i]? = some s → ∃ v, vs[i]? = some v ∧ RelV S E w s v
  | [], _, _, _, _, hi => by simp at hi
  | _ :: _, _, ⟨v, vs', h1, h2, h3⟩, 0, s, hi => by
    simp at hi; subst hi; subst h1; exact ⟨v, rfl, h2⟩
  | _ :: _, _, ⟨v, vs', h1, h2, h3⟩, i + 1, s, hi => by
    subst h1
    obtain ⟨u, hu, hr⟩ := h3.get (i := i) (s := s) (by simpa using hi)
    exact ⟨u, by simpa using hu, hr⟩
theorem RelVs.getD {l : List SV} {vs : List Value} (h : RelVs S E w l vs) (i : Nat) : RelV S E w (l.getD i .un) (vs.getD i undef) := by
  rw [List.getD_eq_getElem?_getD]
  cases hi : l[i]? with
  | none => exact trivial
  | some s =>
    obtain ⟨v, hv, hr⟩ := h.get hi
    rw [List.getD_eq_getElem?_getD, hv]; exact hr
theorem RelVs.set : ∀ {l : List SV} {vs : List Value}, RelVs S E w l vs → ∀ (i : Nat) {s : SV} {v : Value}, RelV S E w s v → RelVs S E w (l.set i s) (vs.set i v)
  | [], _, h, i, _, _, _ => by rw [h]; exact rfl
  | _ :: _, _, ⟨u, vs', h1, h2, h3⟩, 0, _, v, hv => by subst h1; exact ⟨v, vs', rfl, hv, h3⟩
  | _ :: _, _, ⟨u, vs', h1, h2, h3⟩, i + 1, _, v, hv => by subst h1; exact ⟨u, vs'.set i v, rfl, h2, h3.set i hv⟩
theorem RelVs.append : ∀ {l m : List SV} {vs us : List Value}, RelVs S E w l vs → RelVs S E w m us → RelVs S E w (l ++ m) (vs ++ us)
  | [], _, _, _, h, k => by rw [h]; exact k
  | _ :: _, _, _, _, ⟨v, vs', h1, h2, h3⟩, k => by subst h1; exact ⟨v, _, rfl, h2, h3.append k⟩
theorem RelVs.drop : ∀ {l : List SV} {vs : List Value} (n : Nat), RelVs S E w l vs → RelVs S E w (l.drop n) (vs.drop n)
  | _, _, 0, h => h
  | [], _, n + 1, h => by rw [h]; exact rfl
  | _ :: _, _, n + 1, ⟨v, vs', h1, h2, h3⟩ => by subst h1; exact h3.drop n
theorem RelVs.take : ∀ {l : List SV} {vs : List Value} (n : Nat), RelVs S E w l vs → RelVs S E w (l.take n) (vs.take n)
  | _, _, 0, _ => by simp [RelVs]
  | [], _, n + 1, h => by rw [h]; exact rfl
  | _ :: _, _, n + 1, ⟨v, vs', h1, h2, h3⟩ => by subst h1; exact ⟨v, _, rfl, h2, h3.take n⟩
theorem RelVs.replicate (n : Nat) (v : Value) : RelVs S E w (List.replicate n .un) (List.replicate n v) := by
  induction n with
  | zero => exact rfl
  | succ n ih => exact ⟨v, _, rfl, trivial, ih⟩
end
/-- One cell. -/
def SV.one : SV → Bool
  | .un | .agg _ | .tup _ => false
  | _ => true
theorem RelV.one {S : Nat → Prop} {E : Env} {w : World} {s : SV} {v : Value} (h : RelV S E w s v) (h1 : s.one = true) : v.oneCell' = true := by
  cases s <;> simp only [SV.one, Bool.false_eq_true, RelV] at h h1
  case int => rw [h.1]; rfl
  case tt => rw [h]; rfl
  case ff => rw [h]; rfl
  case bool => rw [h]; rfl
  case str => rw [h.1]; rfl
  case raw => rw [h.1]; exact h.2
  case nil => rw [h]; rfl
  case sl => obtain ⟨a, n, c, ds, h, _⟩ := h; simp at h; rw [h]; rfl
  case own => obtain ⟨_, a, n, c, rfl⟩ := h; rfl
  case bp => obtain ⟨b, _, rfl⟩ := h; rfl
  case rp => obtain ⟨g, n, c, _, rfl⟩ := h; rfl
  case ptr => obtain ⟨b, o, cs, rfl, _⟩ := h; rfl
  case fn => obtain ⟨vs, rfl, _⟩ := h; rfl
  case nilp => rw [h]; rfl
  case ifc => obtain ⟨vs, rfl, _⟩ := h; rfl
  case bf => obtain ⟨vs, rfl, _⟩ := h; rfl
theorem RelVs.one {S : Nat → Prop} {E : Env} {w : World} : ∀ {l : List SV} {vs : List Value}, RelVs S E w l vs → l.all SV.one = true → ∀ v ∈ vs, v.oneCell' = true
  | [], _, h, _, v, hv => by rw [h] at hv; cases hv
  | _ :: _, _, ⟨u, vs', h1, h2, h3⟩, ho, v, hv => by
    simp only [List.all_cons, Bool.and_eq_true] at ho
    subst h1
    rcases List.mem_cons.1 hv with rfl | hv
    · exact h2.one ho.1
    · exact h3.one ho.2 v hv
/-! ### A datum's leaves -/
mutual
def flat : Ty → Dat → List SV
  | .int k, d => [.int k d.toInt]
  | .bool, d => [.bool d.toBool]
  | .str, d => [.str d.toStr]
  | .raw, d => [.raw d.toRaw]
  | .sl e, d => [.sl e d.kids]
  | .st fs, d => flats fs d 0
def flats : List Ty → Dat → Nat → List SV
  | [], _, _ => []
  | f :: fs, d, i => flat f (d.f i) ++ flats fs d (i + 1)
end
mutual
theorem Rep.flat {S : Nat → Prop} {E : Env} {w : World} : ∀ {t : Ty} {cs : List Value} {d : Dat}, Rep S w t cs d → RelVs S E w (flat t d) cs
  | .int k, _, _, ⟨n, h1, h2, h3⟩ => by subst h1; subst h2; exact ⟨_, _, rfl, ⟨rfl, h3⟩, rfl⟩
  | .bool, _, _, ⟨b, h1, h2⟩ => by subst h1; subst h2; exact ⟨_, _, rfl, rfl, rfl⟩
  | .str, _, _, ⟨s, h1, h2, h3⟩ => by subst h1; subst h2; exact ⟨_, _, rfl, ⟨rfl, h3⟩, rfl⟩
  | .raw, _, _, ⟨v, h1, h2, h3⟩ => by subst h1; subst h2; exact ⟨_, _, rfl, ⟨rfl, h3⟩, rfl⟩
  | .sl e, _, _, h => by
    obtain ⟨a, n, c, ds, h1, h2, h3⟩ := h
    subst h1; subst h2
    exact ⟨_, _, rfl, ⟨a, n, c, ds, rfl, rfl, h3⟩, rfl⟩
  | .st fs, cs, d, ⟨ds, h1, h2⟩ => by
    subst h1
    exact Reps.flats (pre := []) h2
theorem Reps.flats {S : Nat → Prop} {E : Env} {w : World} : ∀ {ts : List Ty} {cs : List Value} {pre ds : List Dat}, Reps S w ts cs ds → RelVs S E w (flats ts (.node (pre ++ ds)) pre.length) cs
  | [], _, _, _, ⟨h, _⟩ => by subst h; exact rfl
  | f :: fs, _, pre, _, ⟨c1, c2, d1, d2, h1, h2, h3, h4⟩ => by
    subst h1; subst h2
    have hd : (Dat.node (pre ++ d1 :: d2)).f pre.length = d1 := by simp [Dat.f, Dat.kids]
    rw [E.flats, hd]
    have h5 := Reps.flats (E := E) (pre := pre ++ [d1]) h4
    simp only [List.append_assoc, List.singleton_append, List.length_append, List.length_singleton] at h5
    exact (Rep.flat h3).append h5
end
mutual
theorem flat_one : ∀ (t : Ty) (d : Dat), (flat t d).all SV.one = true
  | .int _, _ => rfl
  | .bool, _ => rfl
  | .str, _ => rfl
  | .raw, _ => rfl
  | .sl _, _ => rfl
  | .st fs, d => by rw [E.flat]; exact flats_one fs d 0
theorem flats_one : ∀ (ts : List Ty) (d : Dat) (i : Nat), (flats ts d i).all SV.one = true
  | [], _, _ => rfl
  | f :: fs, d, i => by rw [E.flats, List.all_append, flat_one f, flats_one fs]; rfl
end
theorem Rep.one {S : Nat → Prop} {w : World} {t : Ty} {cs : List Value} {d : Dat} (h : Rep S w t cs d) : ∀ v ∈ cs, v.oneCell' = true := (h.flat (E := ⟨[], []⟩)).one (flat_one t d)
/-- Are two types the same? -/
def kindEq (a b : IntKind) : Bool := match a, b with
  | .i8, .i8 | .i16, .i16 | .i32, .i32 | .i64, .i64 | .u8, .u8 | .u16, .u16 | .u32, .u32 | .u64, .u64 => true
  | _, _ => false
theorem kindEq_eq {a b : IntKind} (h : kindEq a b = true) : a = b := by cases a <;> cases b <;> first | rfl | (simp [kindEq] at h)
mutual
def tyEq : Ty → Ty → Bool
  | .int a, .int b => kindEq a b
  | .bool, .bool => true
  | .str, .str => true
  | .raw, .raw => true
  | .sl a, .sl b => tyEq a b
  | .st a, .st b => tysEq a b
  | _, _ => false
def tysEq : List Ty → List Ty → Bool
  | [], [] => true
  | a :: as, b :: bs => tyEq a b && tysEq as bs
  | _, _ => false
end
mutual
theorem tyEq_eq : ∀ {a b : Ty}, tyEq a b = true → a = b
  | .int a, b, h => by cases b <;> simp [tyEq] at h; rw [kindEq_eq h]
  | .bool, b, h => by cases b <;> simp [tyEq] at h; rfl
  | .str, b, h => by cases b <;> simp [tyEq] at h; rfl
  | .raw, b, h => by cases b <;> simp [tyEq] at h; rfl
  | .sl a, b, h => by cases b <;> simp [tyEq] at h; rw [tyEq_eq h]
  | .st a, b, h => by cases b <;> simp [tyEq] at h; rw [tysEq_eq h]
theorem tysEq_eq : ∀ {a b : List Ty}, tysEq a b = true → a = b
  | [], b, h => by cases b <;> simp [tysEq] at h; rfl
  | a :: as, b, h => by
    cases b with
    | nil => simp [tysEq] at h
    | cons b bs => simp [tysEq] at h; rw [tyEq_eq h.1, tysEq_eq h.2]
end
/-! ### Leaves put together to a datum -/
mutual
def unflat : Ty → List SV → Option (Dat × List SV)
  | .int k, .int k' n :: r => if kindEq k k' then some (.int n, r) else none
  | .bool, .bool b :: r => some (.bool b, r)
  | .bool, .tt :: r => some (.bool true, r)
  | .bool, .ff :: r => some (.bool false, r)
  | .str, .str s :: r => some (.str s, r)
  | .raw, .raw v :: r => some (.raw v, r)
  | .sl e, .sl e' ds :: r => if tyEq e e' then some (.node ds, r) else none
  | .sl _, .nil :: r => some (.node [], r)
  | .st fs, l => match unflats fs l with
    | some (ds, r) => some (.node ds, r)
    | none => none
  | _, _ => none
def unflats : List Ty → List SV → Option (List Dat × List SV)
  | [], l => some ([], l)
  | f :: fs, l => match unflat f l with
    | some (d, r) => match unflats fs r with
      | some (ds, r') => some (d :: ds, r')
      | none => none
    | none => none
end
theorem RelVs.cons_inv {S : Nat → Prop} {E : Env} {w : World} {s : SV} {l : List SV} {vs : List Value} (h : RelVs S E w (s :: l) vs) : ∃ v vs', vs = v :: vs' ∧ RelV S E w s v ∧ RelVs S E w l vs' := h
mutual
theorem unflat_rep {S : Nat → Prop} {E : Env} {w : World} : ∀ {t : Ty} {l r : List SV} {d : Dat} {vs : List Value}, unflat t l = some (d, r) → RelVs S E w l vs → ∃ c1 c2, vs = c1 ++ c2 ∧ Rep S w t c1 d ∧ RelVs S E w r c2
  | .int k, l, r, d, vs, h, hr => by
    unfold unflat at h
    split at h <;> simp_all
    obtain ⟨h1, rfl, rfl⟩ := h
    obtain ⟨v, vs', rfl, ⟨rfl, h3⟩, h4⟩ := hr
    rw [kindEq_eq h1]
    exact ⟨[_], vs', rfl, ⟨_, rfl, rfl, h3⟩, h4⟩
  | .bool, l, r, d, vs, h, hr => by
    unfold unflat at h
    split at h <;> simp_all
    all_goals
      obtain ⟨rfl, rfl⟩ := h
      obtain ⟨v, vs', rfl, rfl, h4⟩ := hr
      exact ⟨[_], vs', rfl, ⟨_, rfl, rfl⟩, h4⟩
  | .str, l, r, d, vs, h, hr => by
    unfold unflat at h
    split at h <;> simp_all
    obtain ⟨rfl, rfl⟩ := h
    obtain ⟨v, vs', rfl, ⟨rfl, h3⟩, h4⟩ := hr
    exact ⟨[_], vs', rfl, ⟨_, rfl, rfl, h3⟩, h4⟩
  | .raw, l, r, d, vs, h, hr => by
    unfold unflat at h
    split at h <;> simp_all
    obtain ⟨rfl, rfl⟩ := h
    obtain ⟨v, vs', rfl, ⟨rfl, h3⟩, h4⟩ := hr
    exact ⟨[_], vs', rfl, ⟨_, rfl, rfl, h3⟩, h4⟩
  | .sl e, l, r, d, vs, h, hr => by
    unfold unflat at h
    split at h <;> simp_all
    · obtain ⟨h1, rfl, rfl⟩ := h
      obtain ⟨v, vs', rfl, h3, h4⟩ := hr
      rw [tyEq_eq h1]
      exact ⟨[_], vs', rfl, h3, h4⟩
    · obtain ⟨rfl, rfl⟩ := h
      obtain ⟨v, vs', rfl, rfl, h4⟩ := hr
      exact ⟨[_], vs', rfl, ⟨none, 0, 0, [], rfl, rfl, rfl, Nat.le_refl _, by omega, fun h => absurd rfl h⟩, h4⟩
  | .st fs, l, r, d, vs, h, hr => by
    unfold unflat at h
    split at h
    · rename_i ds r' hu
      simp only [Option.some.injEq, Prod.mk.injEq] at h
      obtain ⟨rfl, rfl⟩ := h
      obtain ⟨c1, c2, h1, h2, h3⟩ := unflats_rep hu hr
      exact ⟨c1, c2, h1, ⟨ds, rfl, h2⟩, h3⟩
    · cases h
theorem unflats_rep {S : Nat → Prop} {E : Env} {w : World} : ∀ {ts : List Ty} {l r : List SV} {ds : List Dat} {vs : List Value}, unflats ts l = some (ds, r) → RelVs S E w l vs → ∃ c1 c2, vs = c1 ++ c2 ∧ Reps S w ts c1 ds ∧ RelVs S E w r c2
  | [], l, r, ds, vs, h, hr => by
    simp [unflats] at h
    obtain ⟨rfl, rfl⟩ := h
    exact ⟨[], vs, rfl, ⟨rfl, rfl⟩, hr⟩
  | f :: fs, l, r, ds, vs, h, hr => by
    unfold unflats at h
    split at h
    · rename_i d r1 h1
      split at h
      · rename_i ds' r' h2
        simp only [Option.some.injEq, Prod.mk.injEq] at h
        obtain ⟨rfl, rfl⟩ := h
        obtain ⟨c1, c2, e1, h3, h4⟩ := unflat_rep h1 hr
        obtain ⟨c3, c4, e2, h5, h6⟩ := unflats_rep h2 h4
        exact ⟨c1 ++ c3, c4, by rw [e1, e2, List.append_assoc], ⟨c1, c3, _, _, rfl, rfl, h3, h5⟩, h6⟩
      · cases h
    · cases h
end
end E
end Go.Proofs.YtbjapgekagljeaaDoor
