/- Addresses and loads: what lies where, by what is known of boxes, rows and old memory. No program in sight. -/
import Derived.Test.YtbjapgekagljeaaDoorE4
namespace Go.Proofs.YtbjapgekagljeaaDoor
open Go Go.RowKit
namespace E
section
variable {P : Program} {o : Oper} {s : St}
theorem size_info {P : Program} {t : TypeId} {n : Nat} (h : (P.info? t).map (·.size) = some n) (w : World) : (sizeOf t).run P w = .ok n w := by
  obtain ⟨i, hi, rfl⟩ := Option.map_eq_some_iff.1 h
  simp [sizeOf, typeInfo, hi]
theorem range_drop {w : World} {b o n : Nat} {cs : List Value} (h : w.rangeAt b o cs) : w.rangeAt b (o + n) (cs.drop n) := fun j v hv => by
  rw [List.getElem?_drop] at hv
  have := h (n + j) v hv
  rwa [← Nat.add_assoc] at this
theorem range_take {w : World} {b o n : Nat} {cs : List Value} (h : w.rangeAt b o cs) : w.rangeAt b o (cs.take n) := fun j v hv => by
  rw [List.getElem?_take] at hv
  split at hv
  · exact h j v hv
  · cases hv
theorem range_block {w : World} {b : Nat} {cs : List Value} {t : TypeId} {fr : Nat × Nat} (h : w.heap[b]? = some (.cells cs.toArray t fr)) : w.rangeAt b 0 cs := fun j v hv => by
  simp [World.cell?, h, hv]
/-! ### fields' addresses -/
def shiftP (x : SV) (n : Nat) : Option SV :=
  match x with
  | .bp j off => some (.bp j (off + n))
  | .rp j i sz off => some (.rp j i sz (off + n))
  | .ptr t d off => some (.ptr t d (off + n))
  | _ => none
theorem shiftP_rel {S : Nat → Prop} {E : Env} {w : World} {x y : SV} {n : Nat} {v : Value} (h : shiftP x n = some y) (hr : RelV S E w x v) : ∃ b o, v = .pointer (some ⟨b, o, none⟩) ∧ RelV S E w y (.pointer (some ⟨b, o + n, none⟩)) := by
  cases x <;> simp [shiftP] at h
  · subst h
    obtain ⟨b, h1, rfl⟩ := hr
    exact ⟨b, _, rfl, b, h1, rfl⟩
  · subst h
    obtain ⟨g, m, c, h1, rfl⟩ := hr
    exact ⟨g, _, rfl, g, m, c, h1, by rw [Nat.add_assoc]⟩
  · subst h
    obtain ⟨b, q, cs, rfl, h2⟩ := hr
    exact ⟨b, _, rfl, b, q, cs, by rw [Nat.add_assoc], h2⟩
def fieldOf (P : Program) (t : TypeId) (f : Nat) : Option (Field × Nat) :=
  match P.underlying t with
  | some (.struct fs) => match fs[f]? with
    | some fd => match (P.info? fd.type).map (·.size) with
      | some n => some (fd, n)
      | none => none
    | none => none
  | _ => none
theorem fieldOf_eq {t : TypeId} {f : Nat} {fd : Field} {n : Nat} (h : fieldOf P t f = some (fd, n)) : ∃ fs, P.underlying t = some (.struct fs) ∧ fs[f]? = some fd ∧ (P.info? fd.type).map (·.size) = some n := by
  unfold fieldOf at h
  split at h
  · rename_i fs hu
    split at h
    · rename_i fd' hf
      split at h
      · rename_i n' hn
        simp at h
        obtain ⟨rfl, rfl⟩ := h
        exact ⟨fs, hu, hf, hn⟩
      · cases h
    · cases h
  · cases h
def fieldAddrR (P : Program) (t : TypeId) (x : SV) (f : Nat) : R :=
  match fieldOf P t f with
  | some (fd, _ + 1) => match shiftP x fd.offset with
    | some y => R.ok y
    | none => none
  | _ => none
theorem gives_fieldAddr {t : TypeId} {x : Operand} {f : Nat} (ho : o.op = .fieldAddr t x f) : Gives P o s (fieldAddrR P t (s.ev x) f) := by
  intro q z hq hm c E a w h
  unfold fieldAddrR at hq
  split at hq
  · rename_i fd n hf
    obtain ⟨fs, hu, hfd, hn⟩ := fieldOf_eq hf
    split at hq
    · rename_i y hy
      simp only [R.ok, Option.some.injEq, Prod.mk.injEq] at hq
      obtain ⟨rfl, rfl⟩ := hq
      obtain ⟨b, q, hv, hr⟩ := shiftP_rel hy (h.ev x)
      refine ⟨_, ?_, hr⟩
      unfold execOp; rw [ho]
      refine run_val ?_
      rw [hv]
      simp only [Instr.fieldAt, Sem.run_bind, run_underlying hu, Result.andThen_ok, hfd, Instr.sureAddr, Sem.run_pure, fieldPlace, size_info hn, Nat.succ_ne_zero, if_false, Addr.add_mid]
    · cases hq
  · cases hq
/-! ### loads -/
def cellsAt (s : St) (x : SV) : Option (Option Prop × List SV) :=
  match x with
  | .bp j off => match s.bx[j]? with
    | some p => some (none, p.2.drop off)
    | none => none
  | .ptr t d off => some (none, (flat t d).drop off)
  | .rp j i sz off => match rowOf s j with
    | some r => if r.e.size = sz then some (some (i < r.ds.length), (flat r.e (r.ds.getD i default)).drop off) else none
    | none => none
  | _ => none
theorem Inv.row_at {c : Ctx} {E : Env} {a : Act} {w : World} (h : Inv c E s a w) {j : Nat} {r : Row} {g n cap : Nat} (hr : rowOf s j = some r) (hv : E.rw[j]? = some (.slice (some ⟨g, 0, none⟩) n cap)) {i : Nat} (hi : i < r.ds.length) :
    ∃ cs, w.rangeAt g (i * r.e.size) cs ∧ Rep (Reg c E s w) w r.e cs (r.ds.getD i default) := by
  unfold rowOf at hr
  split at hr
  · rename_i r' hr'
    split at hr
    · rename_i hs
      simp at hr; subst hr
      obtain ⟨_, h1, h2⟩ := h.rw j r' _ hr' hv
      have hx : r'.ds[i]? = some (r'.ds.getD i default) := by rw [List.getD_eq_getElem?_getD, List.getElem?_eq_getElem hi]; rfl
      rcases hs with hs | hs
      · obtain ⟨xs, ⟨h3, h4⟩, _, h5⟩ := h1 hs
        rcases h4 with ⟨h4, _⟩ | ⟨g', cap', cur, h4, _, h6, _, _, _, h7⟩
        · cases h4
        · injection h4 with h4
          injection h4 with h4
          injection h4 with h4
          subst h4
          refine ⟨_, ?_, h5 i _ hx⟩
          have : w.rangeAt g 0 xs := by
            rw [← h7]
            exact range_take (range_block (cs := cur.toList) (by simpa using h6))
          have := range_drop (n := i * r'.e.size) this
          rw [Nat.zero_add] at this
          exact range_take this
      · obtain ⟨ad, n', cap', ds, h3, h4, h5, h6, h7, h8⟩ := h2 hs
        simp at h3 h4
        subst h4
        obtain ⟨rfl, rfl, rfl⟩ := h3
        obtain ⟨b, off, e, hb, hc⟩ := h8 (by omega)
        simp at e
        obtain ⟨rfl, rfl⟩ := e
        obtain ⟨es, h9, h10⟩ := hc i _ hx
        rw [Nat.zero_add] at h9
        exact ⟨es, h9, h10⟩
    · cases hr
  · cases hr
theorem cellsAt_rel {c : Ctx} {E : Env} {a : Act} {w : World} (h : Inv c E s a w) {x : SV} {v : Value} {q : Option Prop} {l : List SV} (hq : cellsAt s x = some (q, l)) (hm : met q) (hr : RelV (Reg c E s w) E w x v) :
    ∃ b o cs, v = .pointer (some ⟨b, o, none⟩) ∧ w.rangeAt b o cs ∧ RelVs (Reg c E s w) E w l cs := by
  unfold cellsAt at hq
  split at hq
  · rename_i j off
    split at hq
    · rename_i p hp
      simp at hq
      obtain ⟨rfl, rfl⟩ := hq
      obtain ⟨b, h1, rfl⟩ := hr
      obtain ⟨cs, h2, h3, _⟩ := h.bx j p b hp h1
      have := range_drop (n := off) (range_block h2)
      rw [Nat.zero_add] at this
      exact ⟨b, off, _, rfl, this, h3.drop off⟩
    · cases hq
  · rename_i t d off
    simp at hq
    obtain ⟨rfl, rfl⟩ := hq
    obtain ⟨b, q, cs, rfl, _, h3, h4⟩ := hr
    exact ⟨b, _, _, rfl, range_drop h3, h4.flat.drop off⟩
  · rename_i j i sz off
    split at hq
    · rename_i r hr'
      split at hq
      · rename_i hsz
        simp at hq
        obtain ⟨rfl, rfl⟩ := hq
        simp only [met] at hm
        obtain ⟨g, n, cap, h1, rfl⟩ := hr
        obtain ⟨cs, h2, h3⟩ := h.row_at hr' h1 hm
        rw [hsz] at h2
        rw [List.getD_eq_getElem?_getD] at h3
        exact ⟨g, _, _, rfl, range_drop h2, h3.flat.drop off⟩
      · cases hq
    · cases hq
  · cases hq
def rowB : TypeDesc → Bool
  | .struct _ | .array _ _ => true
  | _ => false
theorem rowB_eq (d : TypeDesc) : rowB d = d.isRow := by cases d <;> rfl
def takeAt (P : Program) (t : TypeId) (l : List SV) : Option SV :=
  match P.underlying t with
  | some d => bif rowB d then
      match (P.info? t).map (·.size) with
      | some n => if n ≤ l.length then some (.agg (l.take n)) else none
      | none => none
    else match l with
      | x :: _ => some x
      | [] => none
  | none => none
theorem run_load_one (w : World) (b o : Nat) (t : TypeId) (d : TypeDesc) (v : Value) (hu : P.underlying t = some d) (hd : d.isRow = false) (hc : w.cell? ⟨b, o, none⟩ = some v) : (Instr.loadAt t (.pointer (some ⟨b, o, none⟩))).run P w = .ok v w := by
  have hagg : (isAgg t).run P w = .ok false w := by
    unfold isAgg
    rw [Sem.run_bind, run_underlying hu w]
    cases d <;> simp_all
  simp only [Instr.loadAt, Instr.sureAddr, Sem.run_bind, Sem.run_pure, Result.andThen_ok, loadVar, hagg, Bool.false_eq_true, if_false, load, Sem.run, hc]
theorem takeAt_run {S : Nat → Prop} {E : Env} {w : World} {t : TypeId} {l : List SV} {y : SV} {b o : Nat} {cs : List Value} (h : takeAt P t l = some y) (hc : w.rangeAt b o cs) (hr : RelVs S E w l cs) :
    ∃ v, (Instr.loadAt t (.pointer (some ⟨b, o, none⟩))).run P w = .ok v w ∧ RelV S E w y v := by
  unfold takeAt at h
  split at h
  · rename_i d hu
    cases hd : rowB d with
    | true =>
      have hd' : d.isRow = true := (rowB_eq d).symm.trans hd
      rw [hd] at h
      simp only [cond_true] at h
      split at h
      · rename_i n hn
        split at h
        · rename_i hle
          simp at h; subst h
          have hl : (cs.take n).length = n := by rw [List.length_take, hr.length]; omega
          exact ⟨_, run_loadAt_mid w b o t (cs.take n) d (range_take hc) hu hd' (by rw [hn, hl]), _, rfl, hr.take n⟩
        · cases h
      · cases h
    | false =>
      have hd' : d.isRow = false := (rowB_eq d).symm.trans hd
      rw [hd] at h
      simp only [cond_false] at h
      split at h
      · simp at h; subst h
        obtain ⟨v, vs, rfl, h1, _⟩ := hr
        exact ⟨v, run_load_one w b o t d v hu hd' (by have := hc 0 v rfl; simpa using this), h1⟩
      · cases h
  · cases h
def loadR (P : Program) (s : St) (t : TypeId) (x : SV) : R :=
  match cellsAt s x with
  | some (q, l) => match takeAt P t l with
    | some y => some (q, y)
    | none => none
  | none => none
theorem gives_load {t : TypeId} {x : Operand} (ho : o.op = .load t x) : Gives P o s (loadR P s t (s.ev x)) := by
  intro q z hq hm c E a w h
  unfold loadR at hq
  split at hq
  · rename_i q' l hl
    split at hq
    · rename_i y hy
      simp at hq
      obtain ⟨rfl, rfl⟩ := hq
      obtain ⟨b, off, cs, hv, hc, hr⟩ := cellsAt_rel h hl hm (h.ev x)
      obtain ⟨v, h1, h2⟩ := takeAt_run hy hc hr
      refine ⟨v, ?_, h2⟩
      unfold execOp; rw [ho]
      refine run_val ?_
      rw [hv]
      exact h1
    · cases hq
  · cases hq
/-! ### a part of a struct -/
theorem part_run {S : Nat → Prop} {E : Env} {w : World} {t : TypeId} {l : List SV} {y : SV} {off n : Nat} {vs : List Value} (hy : takeAt P t (l.drop off) = some y) (hn : (P.info? t).map (·.size) = some n) (hr : RelVs S E w l vs) :
    ∃ v, (part t vs.toArray off).run P w = .ok v w ∧ RelV S E w y v := by
  unfold takeAt at hy
  split at hy
  · rename_i d hd
    cases hdr : rowB d with
    | true =>
      have hagg : (isAgg t).run P w = .ok true w := by
        unfold isAgg
        rw [Sem.run_bind, run_underlying hd w]
        rw [rowB_eq] at hdr
        cases d <;> simp_all
      rw [hdr] at hy
      simp only [cond_true, hn] at hy
      split at hy
      · simp at hy; subst hy
        refine ⟨.agg ((vs.drop off).take n).toArray, ?_, _, rfl, (hr.drop _).take _⟩
        simp only [part, Sem.run_bind, hagg, Result.andThen_ok, if_true, size_info hn]
        simp [List.extract_toArray]
      · cases hy
    | false =>
      have hagg : (isAgg t).run P w = .ok false w := by
        unfold isAgg
        rw [Sem.run_bind, run_underlying hd w]
        rw [rowB_eq] at hdr
        cases d <;> simp_all
      rw [hdr] at hy
      simp only [cond_false] at hy
      split at hy
      · rename_i x' l' hl'
        simp at hy; subst hy
        have h5 := hr.drop off
        rw [hl'] at h5
        obtain ⟨v, vs', h6, h7, _⟩ := h5
        refine ⟨v, ?_, h7⟩
        have h8 : vs[off]? = some v := by
          have := congrArg (·[0]?) h6
          simpa [List.getElem?_drop] using this
        simp only [part, Sem.run_bind, hagg, Result.andThen_ok, Bool.false_eq_true, if_false]
        simp [h8]
      · cases hy
  · cases hy
/-- An element of an array value, at a place that is a numeral. -/
def indexA (P : Program) (t : TypeId) (x i : SV) : R :=
  match x, i with
  | .agg l, .int _ n => match P.underlying t with
    | some (.array len e) => match (P.info? e).map (·.size) with
      | some sz => match takeAt P e (l.drop (n.toNat * sz)) with
        | some y => R.ask (0 ≤ n ∧ n < (len : Int)) y
        | none => none
      | none => none
    | _ => none
  | _, _ => none
theorem gives_indexA {t : TypeId} {x i : Operand} (ho : o.op = .index t x i) : Gives P o s (indexA P t (s.ev x) (s.ev i)) := by
  intro q z hq hm c E a w h
  have h1 := h.ev x
  have h2 := h.ev i
  unfold indexA at hq
  split at hq
  · rename_i l k n hx hi
    rw [hx] at h1; rw [hi] at h2
    obtain ⟨vs, hv, hr⟩ := h1
    split at hq
    · rename_i len e hu
      split at hq
      · rename_i sz hs
        split at hq
        · rename_i y hy
          simp only [R.ask, Option.some.injEq, Prod.mk.injEq] at hq
          obtain ⟨rfl, rfl⟩ := hq
          simp only [met] at hm
          obtain ⟨v, h5, h6⟩ := part_run hy hs hr
          refine ⟨v, ?_, h6⟩
          unfold execOp; rw [ho]
          refine run_val ?_
          rw [hv, h2.1]
          simp only [Instr.index, asIntOf, Sem.run_bind, Sem.run_pure, Result.andThen_ok, run_underlying hu, hm, and_self, if_true, size_info hs, h5]
        · cases hq
      · cases hq
    · cases hq
  · cases hq
/-- The address of an array's element, at a place that is a numeral. -/
def elemA (P : Program) (t : TypeId) (x i : SV) : R :=
  match x, i with
  | .bp j off, .int _ n => match P.underlying t with
    | some (.array len e) => match (P.info? e).map (·.size) with
      | some sz => R.ask (0 ≤ n ∧ n < (len : Int)) (.bp j (off + n.toNat * sz))
      | none => none
    | _ => none
  | _, _ => none
theorem gives_elemA {t : TypeId} {x i : Operand} (ho : o.op = .indexAddr t x i) : Gives P o s (elemA P t (s.ev x) (s.ev i)) := by
  intro q z hq hm c E a w h
  have h1 := h.ev x
  have h2 := h.ev i
  unfold elemA at hq
  split at hq
  · rename_i j off k n hx hi
    rw [hx] at h1; rw [hi] at h2
    obtain ⟨b, hb, hv⟩ := h1
    split at hq
    · rename_i len e hu
      split at hq
      · rename_i sz hs
        simp only [R.ask, Option.some.injEq, Prod.mk.injEq] at hq
        obtain ⟨rfl, rfl⟩ := hq
        simp only [met] at hm
        refine ⟨_, ?_, b, hb, rfl⟩
        unfold execOp; rw [ho]
        refine run_val ?_
        rw [hv, h2.1]
        simp only [Instr.indexAt, asIntOf, Sem.run_bind, Sem.run_pure, Result.andThen_ok, run_underlying hu, Instr.sureAddr, hm, and_self, if_true, size_info hs, Addr.add_mid]
      · cases hq
    · cases hq
  · cases hq
def fieldR (P : Program) (t : TypeId) (x : SV) (f : Nat) : R :=
  match x, fieldOf P t f with
  | .agg l, some (fd, n) => if fd.offset + n ≤ l.length then
      match takeAt P fd.type (l.drop fd.offset) with
      | some y => R.ok y
      | none => none
    else none
  | _, _ => none
theorem gives_field {t : TypeId} {x : Operand} {f : Nat} (ho : o.op = .field t x f) : Gives P o s (fieldR P t (s.ev x) f) := by
  intro q z hq hm c E a w h
  have h1 := h.ev x
  unfold fieldR at hq
  split at hq
  · rename_i l fd n hx hf
    rw [hx] at h1
    obtain ⟨vs, hv, hr⟩ := h1
    obtain ⟨fs, hu, hfd, hn⟩ := fieldOf_eq hf
    split at hq
    · rename_i hle
      split at hq
      · rename_i y hy
        simp only [R.ok, Option.some.injEq, Prod.mk.injEq] at hq
        obtain ⟨rfl, rfl⟩ := hq
        have hpart : ∃ v, (part fd.type vs.toArray fd.offset).run P w = .ok v w ∧ RelV (Reg c E s w) E w y v := by
          unfold takeAt at hy
          split at hy
          · rename_i d hd
            cases hdr : rowB d with
            | true =>
              have hagg : (isAgg fd.type).run P w = .ok true w := by
                unfold isAgg
                rw [Sem.run_bind, run_underlying hd w]
                rw [rowB_eq] at hdr
                cases d <;> simp_all
              rw [hdr] at hy
              simp only [cond_true, hn] at hy
              split at hy
              · simp at hy; subst hy
                refine ⟨.agg ((vs.drop fd.offset).take n).toArray, ?_, _, rfl, (hr.drop _).take _⟩
                simp only [part, Sem.run_bind, hagg, Result.andThen_ok, if_true, size_info hn]
                simp [List.extract_toArray]
              · cases hy
            | false =>
              have hagg : (isAgg fd.type).run P w = .ok false w := by
                unfold isAgg
                rw [Sem.run_bind, run_underlying hd w]
                rw [rowB_eq] at hdr
                cases d <;> simp_all
              rw [hdr] at hy
              simp only [cond_false] at hy
              split at hy
              · rename_i x' l' hl'
                simp at hy; subst hy
                have h5 := hr.drop fd.offset
                rw [hl'] at h5
                obtain ⟨v, vs', h6, h7, _⟩ := h5
                refine ⟨v, ?_, h7⟩
                have h8 : vs[fd.offset]? = some v := by
                  have := congrArg (·[0]?) h6
                  simpa [List.getElem?_drop] using this
                simp only [part, Sem.run_bind, hagg, Result.andThen_ok, Bool.false_eq_true, if_false]
                simp [h8]
              · cases hy
          · cases hy
        obtain ⟨v, h5, h6⟩ := hpart
        refine ⟨v, ?_, h6⟩
        unfold execOp; rw [ho]
        refine run_val ?_
        rw [hv]
        simp only [Instr.field, Sem.run_bind, run_underlying hu, Result.andThen_ok, hfd, asAgg, Sem.run_pure, h5]
      · cases hq
    · cases hq
  · cases hq
/-! ### an element's address -/
def elemR (P : Program) (s : St) (t : TypeId) (x i : SV) : R :=
  match P.underlying t, i with
  | some (.slice e), .int _ n => match (P.info? e).map (·.size) with
    | some sz => match x with
      | .sl ty ds => if ty.size = sz then R.ask (0 ≤ n ∧ n < (ds.length : Int)) (.ptr ty (ds.getD n.toNat default) 0) else none
      | .own j => match s.rw[j]? with
        | some r => if r.e.size = sz then
            (if r.st = 0 then R.ask (0 ≤ n ∧ n < (r.ds.length : Int)) (.rp j n.toNat sz 0)
             else if r.st = 1 then R.ask (0 ≤ n ∧ n < (r.ds.length : Int)) (.ptr r.e (r.ds.getD n.toNat default) 0) else none) else none
        | none => none
      | _ => none
    | none => none
  | _, _ => none
theorem run_elem {P : Program} {t e : TypeId} {sz : Nat} (hu : P.underlying t = some (.slice e)) (hs : (P.info? e).map (·.size) = some sz) (w : World) (b off len cap : Nat) (k : IntKind) (n : Int) (h0 : 0 ≤ n) (h1 : n < (len : Int)) :
    (Instr.indexAt t (.slice (some ⟨b, off, none⟩) len cap) (.int k n)).run P w = .ok (.pointer (some ⟨b, off + n.toNat * sz, none⟩)) w := by
  simp only [Instr.indexAt, asIntOf, Sem.run_bind, Sem.run_pure, Result.andThen_ok, run_underlying hu]
  simp only [h0, h1, and_self, if_true, Sem.run_bind, size_info hs, Result.andThen_ok, Sem.run_pure, Addr.add_mid]
theorem sl_at {S : Nat → Prop} {w : World} {ty : Ty} {v : Value} {ds : List Dat} (h : Rep S w (.sl ty) [v] (.node ds)) {i : Nat} (hi : i < ds.length) : ∃ b off cap, v = .slice (some ⟨b, off, none⟩) ds.length cap ∧ S b ∧ ∃ es, w.rangeAt b (off + i * ty.size) es ∧ Rep S w ty es (ds.getD i default) := by
  obtain ⟨ad, n, cap, ds', h3, h4, h5, h6, h7, h8⟩ := h
  simp at h3 h4
  subst h4
  subst h3
  obtain ⟨b, off, e, hb, hc⟩ := h8 (by omega)
  subst e
  have hx : ds[i]? = some (ds.getD i default) := by rw [List.getD_eq_getElem?_getD, List.getElem?_eq_getElem hi]; rfl
  exact ⟨b, off, cap, by rw [h5], hb, hc i _ hx⟩
theorem gives_elem {t : TypeId} {x i : Operand} (ho : o.op = .indexAddr t x i) : Gives P o s (elemR P s t (s.ev x) (s.ev i)) := by
  intro q z hq hm c E a w h
  have h1 := h.ev x
  have h2 := h.ev i
  unfold elemR at hq
  split at hq
  · rename_i e k n hu hi
    rw [hi] at h2
    split at hq
    · rename_i sz hs
      have key : ∀ b off len cap, a.eval x = .slice (some ⟨b, off, none⟩) len cap → 0 ≤ n → n < (len : Int) → (execOp a.eval o).run P w = .ok (.value (.pointer (some ⟨b, off + n.toNat * sz, none⟩))) w := by
        intro b off len cap hv h0 h3
        unfold execOp; rw [ho]
        refine run_val ?_
        rw [hv, h2.1]
        exact run_elem hu hs w b off len cap k n h0 h3
      have immut : ∀ ty ds v, ty.size = sz → a.eval x = v → Rep (Reg c E s w) w (.sl ty) [v] (.node ds) → 0 ≤ n ∧ n < (ds.length : Int) → ∃ v, (execOp a.eval o).run P w = .ok (.value v) w ∧ RelV (Reg c E s w) E w (.ptr ty (ds.getD n.toNat default) 0) v := by
        intro ty ds v hsz hv hr hn
        obtain ⟨b, off, cap, e1, hb, es, h4, h5⟩ := sl_at hr (i := n.toNat) (by omega)
        refine ⟨_, key b off _ cap (by rw [hv, e1]) hn.1 hn.2, b, _, es, rfl, hb, ?_, h5⟩
        rw [← hsz]; exact h4
      split at hq
      · rename_i ty ds hx
        rw [hx] at h1
        split at hq
        · rename_i hsz
          simp only [R.ask, Option.some.injEq, Prod.mk.injEq] at hq
          obtain ⟨rfl, rfl⟩ := hq
          exact immut ty ds _ hsz rfl h1 hm
        · cases hq
      · rename_i j hx
        rw [hx] at h1
        split at hq
        · rename_i r hr
          split at hq
          · rename_i hsz
            split at hq
            · rename_i hst
              simp only [R.ask, Option.some.injEq, Prod.mk.injEq] at hq
              obtain ⟨rfl, rfl⟩ := hq
              simp only [met] at hm
              obtain ⟨_, h3, _⟩ := h.rw j r _ hr h1.1
              obtain ⟨xs, ⟨_, h4⟩, _⟩ := h3 hst
              rcases h4 with ⟨_, h5⟩ | ⟨g, cap, cur, h5, _⟩
              · rw [h5] at hm; omega
              · refine ⟨_, key g 0 _ cap h5 hm.1 hm.2, g, _, cap, by rw [h1.1, h5], by rw [Nat.zero_add, Nat.add_zero]⟩
            · split at hq
              · rename_i hst
                simp only [R.ask, Option.some.injEq, Prod.mk.injEq] at hq
                obtain ⟨rfl, rfl⟩ := hq
                obtain ⟨_, _, h3⟩ := h.rw j r _ hr h1.1
                exact immut r.e r.ds _ hsz rfl (h3 hst) hm
              · cases hq
          · cases hq
        · cases hq
      · cases hq
    · cases hq
  · cases hq
/-! ### a part of a tuple; a pointer that is not nil -/
def extractR (x : SV) (i : Nat) : R :=
  match x with
  | .tup l => match l[i]? with
    | some y => R.ok y
    | none => none
  | _ => none
theorem gives_extract {x : Operand} {i : Nat} (ho : o.op = .extract x i) : Gives P o s (extractR (s.ev x) i) := by
  intro q z hq hm c E a w h
  have h1 := h.ev x
  unfold extractR at hq
  split at hq
  · rename_i l hx
    rw [hx] at h1
    split at hq
    · rename_i y hy
      simp only [R.ok, Option.some.injEq, Prod.mk.injEq] at hq
      obtain ⟨rfl, rfl⟩ := hq
      obtain ⟨vs, hv, hr⟩ := h1
      obtain ⟨v, h2, h3⟩ := hr.get hy
      refine ⟨v, ?_, h3⟩
      unfold execOp; rw [ho]
      refine run_val ?_
      rw [hv]
      simp [Instr.extract, h2]
    · cases hq
  · cases hq
def nilR (x : SV) : R :=
  match x with
  | .bp j off => R.ok (.bp j off)
  | .rp j i sz off => R.ok (.rp j i sz off)
  | .ptr t d off => R.ok (.ptr t d off)
  | .fn f l => R.ok (.fn f l)
  | .bf f l => R.ok (.bf f l)
  | _ => none
theorem gives_nil {x : Operand} (ho : o.op = .nilCheck x) : Gives P o s (nilR (s.ev x)) := by
  intro q z hq hm c E a w h
  have h1 := h.ev x
  unfold nilR at hq
  split at hq
  all_goals first
    | cases hq; done
    | skip
  all_goals
    rename_i hx
    simp only [R.ok, Option.some.injEq, Prod.mk.injEq] at hq
    obtain ⟨rfl, rfl⟩ := hq
    rw [hx] at h1
    refine ⟨_, ?_, h1⟩
    unfold execOp; rw [ho]
  · obtain ⟨b, _, e⟩ := h1; simp only [e]; rfl
  · obtain ⟨g, n, cap, _, e⟩ := h1; simp only [e]; rfl
  · obtain ⟨b, q, cs, e, _⟩ := h1; simp only [e]; rfl
  · obtain ⟨vs, e, _⟩ := h1; simp only [e]; rfl
  · obtain ⟨vs, e, _⟩ := h1; simp only [e]; rfl
end
end E
end Go.Proofs.YtbjapgekagljeaaDoor
