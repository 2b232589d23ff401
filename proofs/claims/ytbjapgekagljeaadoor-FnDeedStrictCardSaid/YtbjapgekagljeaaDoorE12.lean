/- A region whose order is open: one reckoning in the order of its text serves every order. No program in sight. -/
import Derived.Test.YtbjapgekagljeaaDoorE11
import Derived.Orders
namespace Go.Proofs.YtbjapgekagljeaaDoor
open Go Go.RowKit
namespace E
section
variable {P : Program} {ct : List (Con P)} {o : Oper} {s : St}
/-! ### operations that at most make memory -/
def conv (s : St) (x : SV) : SV :=
  match x with
  | .own j => match immSl s (.own j) with
    | some (t, ds) => .sl t ds
    | none => .un
  | x => x
theorem conv_rel {c : Ctx} {E : Env} {a : Act} {w : World} (h : Inv c E s a w) {x : SV} {v : Value} (hr : RelV (Reg c E s w) E w x v) : RelV (Reg c E s w) E w (conv s x) v := by
  unfold conv
  split
  · split
    · rename_i t ds hi
      exact immSl_rel h hi hr
    · trivial
  · exact hr
theorem convs_rel {c : Ctx} {E : Env} {a : Act} {w : World} (h : Inv c E s a w) : ∀ {l : List SV} {vs : List Value}, RelVs (Reg c E s w) E w l vs → RelVs (Reg c E s w) E w (l.map (conv s)) vs
  | [], _, hr => hr
  | _ :: _, _, ⟨v, vs', h1, h2, h3⟩ => ⟨v, vs', h1, conv_rel h h2, convs_rel h h3⟩
def getF {P : Program} (ct : List (Con P)) (f : FuncId) (ins : List SV) : R :=
  match ct with
  | [] => none
  | .f0 f' get _ _ :: r => bif Nat.beq f' f then (match get ins none with
      | some (p, out, none) => R.ask p out
      | _ => getF r f ins) else getF r f ins
  | .fg _ _ _ _ _ :: r => getF r f ins
  | .fb _ _ _ _ _ :: r => getF r f ins
theorem getF_ok {f : FuncId} {ins : List SV} {q : Option Prop} {out : SV} : ∀ {ct : List (Con P)}, getF ct f ins = some (q, out) → met q → Enters P f ∧ Fn P f ins none Unit (fun _ => True) (fun _ => out) (fun _ => none)
  | [], h, _ => by cases h
  | .f0 f' get he ok :: r, h, hm => by
    unfold getF at h
    cases hb : Nat.beq f' f with
    | false => rw [hb] at h; exact getF_ok h hm
    | true =>
      rw [hb] at h
      have : f' = f := Nat.eq_of_beq_eq_true hb
      subst this
      simp only [cond_true] at h
      split at h
      · rename_i p out' hg
        simp only [R.ask, Option.some.injEq, Prod.mk.injEq] at h
        obtain ⟨rfl, rfl⟩ := h
        exact ⟨he, ok ins none _ _ _ hg hm⟩
      · exact getF_ok h hm
  | .fg f' G get he ok :: r, h, hm => by
    unfold getF at h
    exact getF_ok h hm
  | .fb f' G get he ok :: r, h, hm => by
    unfold getF at h
    exact getF_ok h hm
def litU (P : Program) (s : St) (t : TypeId) (n : Nat) (parts : Array (Nat × Operand)) : R :=
  match P.underlying t with
  | some (.slice e) => match P.info? e, tyOf P 9 e with
    | some ie, some ty =>
      bif (Nat.beq n 0 || Nat.beq ie.size 0 || Nat.ble (2 ^ 24 + 1) (n * ie.size)) || !ie.zero.isSome then none
      else match fillS (fun i => some (i * ie.size, ie.size)) (List.replicate (n * ie.size) .un) (parts.toList.map fun x => (x.1, s.ev x.2)) with
        | some l => match unflatN ty n (l.map (conv s)) with
          | some ds => bif Nat.beq ty.size ie.size then R.ok (.sl ty ds) else none
          | none => none
        | none => none
    | _, _ => none
  | _ => none
/-- Wherever the state holds, the operation ends, memory grows at most, and its value is as told. -/
def Uni (P : Program) (o : Oper) (s : St) (r : R) : Prop :=
  ∀ q x, r = some (q, x) → met q → ∀ c E a w, Inv c E s a w → ∀ (K : Act → World → Prop) Q, (∀ v w', KeepBut (· ∈ ([] : List Nat)) w w' → RelV (Grow (Reg c E s w) w w') E w' x v → K (a.put o.dst v) w') → o.wp P a w K Q
theorem KeepBut.refl (M : Nat → Prop) (w : World) : KeepBut M w w := ⟨rfl, rfl, rfl, Nat.le_refl _, fun _ _ _ => rfl⟩
theorem uni_gives {r : R} (h : Gives P o s r) : Uni P o s r := by
  intro q x hr hm c E a w hi K Q hK
  obtain ⟨v, h1, h2⟩ := h q x hr hm c E a w hi
  unfold Oper.wp
  rw [h1, Oper.upon_value]
  exact hK v w (KeepBut.refl _ w) (h2.mono (fun _ _ => rfl) (fun _ hb => .inl hb) E.le_refl)
theorem uni_lit {t : TypeId} {n : Nat} {parts : Array (Nat × Operand)} (ho : o.op = .buildSlice t n parts) : Uni P o s (litU P s t n parts) := by
  intro q x hr hm c E a w h K Q hK
  unfold litU at hr
  split at hr
  · rename_i e hu
    split at hr
    · rename_i ie ty hie hty
      cases hb : (Nat.beq n 0 || Nat.beq ie.size 0 || Nat.ble (2 ^ 24 + 1) (n * ie.size)) || !ie.zero.isSome with
      | true => rw [hb] at hr; cases hr
      | false =>
        rw [hb] at hr
        simp only [cond_false] at hr
        simp only [Bool.or_eq_false_iff, Bool.not_eq_eq_eq_not, Bool.not_false] at hb
        obtain ⟨⟨⟨hb0, hb1⟩, hb2⟩, hb3⟩ := hb
        have hb1 : ie.size ≠ 0 := fun e => by rw [e] at hb1; cases hb1
        have hb2 : ¬ n * ie.size > 2 ^ 24 := fun hgt => by
          have : Nat.ble (2 ^ 24 + 1) (n * ie.size) = true := Nat.ble_eq_true_of_le hgt
          rw [this] at hb2; cases hb2
        have hn0 : n ≠ 0 := fun e => by rw [e] at hb0; cases hb0
        obtain ⟨z, hz⟩ := Option.isSome_iff_exists.1 hb3
        split at hr
        · rename_i l hl
          have hun : RelVs (Reg c E s w) E w (List.replicate (n * ie.size) .un) ((Array.range (n * ie.size)).map (z.cells[· % z.cells.size]!)).toList := by
            have : ∀ (vs : List Value), RelVs (Reg c E s w) E w (List.replicate vs.length .un) vs := by
              intro vs
              induction vs with
              | nil => exact rfl
              | cons v vs ih => exact ⟨v, vs, rfl, trivial, ih⟩
            have h9 := this ((Array.range (n * ie.size)).map (z.cells[· % z.cells.size]!)).toList
            simpa using h9
          obtain ⟨cs, h2, h3⟩ := fill_rel hl hun (RelParts.of (fun x => h.ev x) parts.toList)
          have h6 := convs_rel h h3
          split at hr
          · rename_i ds hds
            obtain ⟨h7, h8, h9⟩ := unflatN_rep hds h6
            cases hsz : Nat.beq ty.size ie.size with
            | false => rw [hsz] at hr; cases hr
            | true =>
              rw [hsz] at hr
              simp only [cond_true, R.ok, Option.some.injEq, Prod.mk.injEq] at hr
              obtain ⟨rfl, rfl⟩ := hr
              have hsz : ty.size = ie.size := Nat.eq_of_beq_eq_true hsz
              have hrun : (execOp a.eval o).run P w = .ok (.value (.slice (some ⟨w.heap.size, 0, none⟩) n n)) (w.alloc (.cells cs.toArray e)) := by
                unfold execOp; rw [ho]
                refine run_buildVal ?_
                refine run_buildSlice w t e n _ cs.toArray ie z hu hie hz hb2 (fun e => ?_) ?_
                · rcases Nat.mul_eq_zero.1 e with e | e
                  · exact hn0 e
                  · exact hb1 e
                · rw [Array.toArray_toList] at h2
                  rw [Array.toList_map]; exact h2
              have hle : n ≤ 140737488355328 := by
                have : n * 1 ≤ n * ie.size := Nat.mul_le_mul_left _ (by omega)
                omega
              have hkeep : KeepBut (· ∈ ([] : List Nat)) w (w.alloc (.cells cs.toArray e)) := ⟨rfl, rfl, rfl, by simp, fun b hb _ => Below.heap_alloc w _ b hb⟩
              unfold Oper.wp
              rw [hrun, Oper.upon_value]
              refine hK _ _ hkeep ?_
              have hKp : Keeps (Reg c E s w) w (w.alloc (.cells cs.toArray e)) := fun b hb => Below.heap_alloc w _ b hb.2.1
              refine ⟨_, n, n, ds, rfl, rfl, h7, Nat.le_refl _, hle, fun _ => ⟨w.heap.size, 0, rfl, .inr ⟨Nat.le_refl _, by simp⟩, fun i x hx => ⟨_, ?_, (h9 i x hx).mono hKp (fun b hb => .inl hb)⟩⟩⟩
              exact range_take (range_drop (n := i * ty.size) (range_block (heap_alloc_new w _)))
          · cases hr
        · cases hr
    · cases hr
  · cases hr
def callU {P : Program} (ct : List (Con P)) (s : St) (x : SV) (l : List SV) : R :=
  match x with
  | .fn f caps => bif plains (l.map (conv s) ++ caps) then getF ct f (l.map (conv s) ++ caps) else none
  | _ => none
theorem uni_call {x : Operand} {args : Array Operand} {ts : Array TypeId} (ho : o.op = .call { callee := .value x, args := args, argTypes := ts }) : Uni P o s (callU ct s (s.ev x) (args.toList.map s.ev)) := by
  intro q y hr hm c E a w h K Q hK
  have h1 := h.ev x
  unfold callU at hr
  split at hr
  · rename_i f caps hx
    rw [hx] at h1
    obtain ⟨cs, hxv, hcs⟩ := h1
    cases hp : plains ((args.toList.map s.ev).map (conv s) ++ caps) with
    | false => rw [hp] at hr; cases hr
    | true =>
      rw [hp] at hr
      obtain ⟨he, hf⟩ := getF_ok hr hm
      have hargs := (convs_rel h (evs_rel h args.toList)).append hcs
      have hrun : (execOp a.eval o).run P w = .ok (.enter f (args.toList.map a.eval ++ cs).toArray) w := by
        unfold execOp; rw [ho]
        simp only [resolve, hxv, Deferred.ofValue, pure_bind, invoke]
        have : (#[] ++ Array.map a.eval args ++ cs.toArray) = (args.toList.map a.eval ++ cs).toArray := by
          apply Array.toList_inj.1; simp
        rw [this]
        exact he _ w
      unfold Oper.wp
      rw [hrun, Oper.upon_enter]
      refine (hf (Reg c E s w) [] w _ (fun b hb => hb.2.1) (by simp) rfl (by simp) (plains_rel hp hargs)).mono ?_
      rintro e w' ⟨_, v, rfl, _, hk, hv', _, _⟩
      exact hK v w' hk (hv'.mono (fun _ _ => rfl) (fun _ hb => hb) ⟨fun _ _ h => by simp at h, fun _ _ h => by simp at h⟩)
  · cases hr
def uni (P : Program) (ct : List (Con P)) (s : St) (op : Op) : R :=
  match opVal P s op with
  | some r => some r
  | none => match op with
    | .convert src dst x => bytesR P s src dst (s.ev x)
    | .buildSlice t n parts => litU P s t n parts
    | .call { callee := .value x, args := args, .. } => callU ct s (s.ev x) (args.toList.map s.ev)
    | _ => none
theorem uni_ok : Uni P o s (uni P ct s o.op) := by
  unfold uni
  split
  · rename_i r hr
    intro q x hx
    exact uni_gives (r := some r) (by rw [← hr]; exact gives_op) q x hx
  · split
    · rename_i ho; exact uni_gives (gives_bytes ho)
    · rename_i ho; exact uni_lit ho
    · rename_i ho; exact uni_call ho
    · intro q x hx; cases hx
/-! ### what an operation looks at -/
def tmpsOf : List Operand → List Nat
  | [] => []
  | .tmp t :: l => t :: tmpsOf l
  | _ :: l => tmpsOf l
def looks (ops : Array Oper) (o : Oper) : List Nat :=
  (match o.guard with
    | some (j, _) => ((ops[j]?).bind (·.dst)).toList
    | none => []) ++ tmpsOf o.op.operands.toList
def has (l : List Nat) (k : Nat) : Bool :=
  match l with
  | [] => false
  | x :: l => bif Nat.beq x k then true else has l k
theorem has_mem {l : List Nat} {k : Nat} (h : has l k = true) : k ∈ l := by
  induction l with
  | nil => cases h
  | cons x l ih =>
    unfold has at h
    cases hb : Nat.beq x k with
    | true => rw [Nat.eq_of_beq_eq_true hb]; simp
    | false => rw [hb] at h; exact List.mem_cons_of_mem _ (ih h)
def decOf (dec : List (Nat × Bool)) (k : Nat) : Option Bool :=
  match dec with
  | [] => none
  | (d, b) :: r => bif Nat.beq d k then some b else decOf r k
def seen (dec : List (Nat × Bool)) (k : Nat) (x : SV) : SV :=
  match x with
  | .bool b => match decOf dec k with
    | some b' => litB b'
    | none => .bool b
  | x => x
/-- A frame of which only some slots are known, the decided Bools written out. -/
def view (dec : List (Nat × Bool)) (ts : List Nat) : List SV → Nat → List SV
  | [], _ => []
  | x :: l, k => (bif has ts k then seen dec k x else .un) :: view dec ts l (k + 1)
def DecOk (dec : List (Nat × Bool)) (fr : List SV) : Prop := ∀ k b' b, decOf dec k = some b' → fr[k]? = some (.bool b) → b = b'
theorem view_rel {S : Nat → Prop} {E : Env} {w : World} {dec : List (Nat × Bool)} {ts : List Nat} : ∀ {l : List SV} {vs : List Value} (k : Nat), (∀ i b' b, decOf dec (k + i) = some b' → l[i]? = some (.bool b) → has ts (k + i) = true → b = b') → RelVs S E w l vs → RelVs S E w (view dec ts l k) vs
  | [], _, _, _, h => h
  | x :: l, _, k, hd, ⟨v, vs', h1, h2, h3⟩ => by
    refine ⟨v, vs', h1, ?_, view_rel (k + 1) (fun i b' b h4 h5 h6 => hd (i + 1) b' b (by rw [← h4]; congr 1; omega) (by simpa using h5) (by rw [← h6]; congr 1; omega)) h3⟩
    cases ht : has ts k with
    | false => trivial
    | true =>
      simp only [cond_true]
      unfold seen
      split
      · rename_i b
        split
        · rename_i b' hb'
          have := hd 0 b' b (by rw [Nat.add_zero]; exact hb') rfl (by rw [Nat.add_zero]; exact ht)
          subst this
          have h2 : v = .bool b := h2
          rw [h2]; exact litB_rel
        · exact h2
      · exact h2
end
end E
end Go.Proofs.YtbjapgekagljeaaDoor
