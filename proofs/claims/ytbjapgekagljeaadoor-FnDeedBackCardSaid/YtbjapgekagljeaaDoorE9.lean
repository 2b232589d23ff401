/- Each operation's formula, and that it suffices. No program in sight. -/
import Derived.Test.YtbjapgekagljeaaDoorE8
namespace Go.Proofs.YtbjapgekagljeaaDoor
open Go Go.RowKit
namespace E
section
variable {P : Program} {o : Oper} {s : St}
theorem leads_f : Leads P o s (fun _ => .f) := fun _ h => h.elim
/-- Whatever a number is, it is one of its kind. -/
def knowInt (k : IntKind) (n : Int) (v : VC) : VC :=
  match k with
  | .i64 => .imp (-9223372036854775808 ≤ n ∧ n ≤ 9223372036854775807) v
  | .u8 => .imp (0 ≤ n ∧ n ≤ 255) v
  | _ => v
def know (op : Op) (x : SV) (v : VC) : VC :=
  match op, x with
  | .load _ _, .int k n => knowInt k n v
  | .index _ _ _, .int k n => knowInt k n v
  | .field _ _ _, .int k n => knowInt k n v
  | .call _, .int k n => knowInt k n v
  | _, _ => v
theorem knowInt_ok {k : IntKind} {n : Int} {v : VC} (h : (knowInt k n v).den) (hn : Has k n) : v.den := by
  unfold knowInt at h
  split at h
  · exact h hn
  · exact h hn
  · exact h
theorem know_ok {op : Op} {x : SV} {v : VC} {S : Nat → Prop} {E : Env} {w : World} {u : Value} (h : (know op x v).den) (hr : RelV S E w x u) : v.den := by
  unfold know at h
  split at h
  · exact knowInt_ok h hr.2
  · exact knowInt_ok h hr.2
  · exact knowInt_ok h hr.2
  · exact knowInt_ok h hr.2
  · exact h
theorem leads_val {q : Option Prop} {x : SV} (h : opVal P s o.op = some (q, x)) : Leads P o s (fun K => match q with | none => know o.op x (K (s.put o.dst x)) | some p => .ob p (know o.op x (K (s.put o.dst x)))) := by
  intro K hv c E a w hi Q
  have hm : met q ∧ (know o.op x (K (s.put o.dst x))).den := by
    cases q with
    | none => exact ⟨trivial, hv⟩
    | some p => exact hv
  obtain ⟨v, h1, h2⟩ := gives_op q x h hm.1 c E a w hi
  unfold Oper.wp
  rw [h1, Oper.upon_value]
  exact ⟨_, E, hi.put o.dst h2, know_ok hm.2 h2⟩
theorem run_buildVal {op : Sem Value} {v : Value} {w w' : World} (h : op.run P w = .ok v w') : (do pure (Next.value (← op)) : Sem Next).run P w = .ok (.value v) w' := by
  simp only [Sem.run_bind, h, Result.andThen_ok]; rfl
/-! ### boxes -/
def boxVC (s : St) (t : TypeId) (l : List SV) (dst : Option Tmp) (K : St → VC) : VC :=
  bif l.all SV.one then K ({ s with bx := s.bx ++ [(t, l)] }.put dst (.bp s.bx.length 0)) else .f
theorem box_leads {c : Ctx} {E : Env} {a : Act} {w : World} {t : TypeId} {l : List SV} {cs : List Value} {K : St → VC} (h : Inv c E s a w) (hl : RelVs (Reg c E s w) E w l cs) (hv : (boxVC s t l o.dst K).den) :
    ∃ s' E', Inv c E' s' (a.put o.dst (.pointer (some ⟨w.heap.size, 0, none⟩))) (w.alloc (.cells cs.toArray t)) ∧ (K s').den := by
  unfold boxVC at hv
  cases ho : l.all SV.one with
  | false => rw [ho] at hv; exact hv.elim
  | true =>
    rw [ho] at hv
    have h1 := h.box t hl ho
    refine ⟨_, _, h1.put o.dst ?_, hv⟩
    exact ⟨w.heap.size, by simp [← h.nbx], rfl⟩
theorem leads_box {t : TypeId} {x : Operand} (ho : o.op = .box t x) : Leads P o s (fun K => match (s.ev x).cells with | some l => boxVC s t l o.dst K | none => .f) := by
  intro K hv c E a w h Q
  simp only at hv
  split at hv
  · rename_i l hl
    obtain ⟨vs, h1, h2⟩ := cells_rel hl (h.ev x)
    obtain ⟨s', E', h3, h4⟩ := box_leads (o := o) h h2 hv
    unfold Oper.wp
    have : (execOp a.eval o).run P w = .ok (.value (.pointer (some ⟨w.heap.size, 0, none⟩))) (w.alloc (.cells vs.toArray t)) := by
      unfold execOp; rw [ho]
      simp only [Instr.box, newVar, newRow, newObj, Sem.run_bind, h1]
      rfl
    rw [this, Oper.upon_value]
    exact ⟨s', E', h3, h4⟩
  · exact hv.elim
theorem leads_alloc {t : TypeId} (ho : o.op = .alloc t) : Leads P o s (fun K => match (P.info? t).bind (·.zero) with | some z => boxVC s t (z.cells.toList.map ofLeaf) o.dst K | none => .f) := by
  intro K hv c E a w h Q
  simp only at hv
  split at hv
  · rename_i z hz
    obtain ⟨i, hi, hz⟩ := Option.bind_eq_some_iff.1 hz
    obtain ⟨s', E', h3, h4⟩ := box_leads (o := o) h (ofLeafs_rel z.cells.toList) hv
    unfold Oper.wp
    have : (execOp a.eval o).run P w = .ok (.value (.pointer (some ⟨w.heap.size, 0, none⟩))) (w.alloc (.cells z.cells t)) := by
      unfold execOp; rw [ho]
      simp only [Instr.alloc, zeroValue, typeInfo, program, Sem.run_bind, Sem.run, Result.andThen_ok, hi, Sem.run_pure, hz, newVar, newRow, newObj]
      rfl
    rw [this, Oper.upon_value]
    exact ⟨s', E', by simpa using h3, h4⟩
  · exact hv.elim
/-! ### a store into a box -/
def storeVC (P : Program) (s : St) (t : TypeId) (x y : SV) (dst : Option Tmp) (K : St → VC) : VC :=
  match x with
  | .bp j off => match s.bx[j]?, y.cells, (P.info? t).map (·.size) with
    | some p, some l, some n => bif (Nat.beq l.length n && Nat.ble (off + n) p.2.length) && l.all SV.one then K ((s.setBox j (p.1, putAll p.2 off l)).put dst .un) else .f
    | _, _, _ => .f
  | _ => .f
theorem leads_store {t : TypeId} {x y : Operand} (ho : o.op = .store t x y) : Leads P o s (fun K => storeVC P s t (s.ev x) (s.ev y) o.dst K) := by
  intro K hv c E a w h Q
  have h1 := h.ev x
  unfold storeVC at hv
  split at hv
  · rename_i j off hx
    rw [hx] at h1
    obtain ⟨b, hb, hxv⟩ := h1
    split at hv
    · rename_i p l n hp hl hn
      cases hc : (Nat.beq l.length n && Nat.ble (off + n) p.2.length) && l.all SV.one with
      | false => rw [hc] at hv; exact hv.elim
      | true =>
        rw [hc] at hv
        simp only [Bool.and_eq_true] at hc
        obtain ⟨⟨hc1, hc2⟩, hc3⟩ := hc
        have hc1 : l.length = n := Nat.eq_of_beq_eq_true hc1
        have hc2 : off + n ≤ p.2.length := Nat.le_of_ble_eq_true hc2
        obtain ⟨vs, h2, h3⟩ := cells_rel hl (h.ev y)
        have hvl : vs.length = n := by rw [h3.length, hc1]
        obtain ⟨cs, h4, h5, h6⟩ := h.bx j p b hp hb
        have hcl : cs.length = p.2.length := h5.length
        have hthere : w.there b off vs.toArray.size := by
          intro k hk
          have hk : k < vs.length := by simpa using hk
          constructor
          · simp [World.cell?, h4]; omega
          · simp only [World.frozen?, h4, decide_eq_false_iff_not, Bool.and_eq_false_iff]
            right; omega
        have hone : vs.toArray.all (·.oneCell') = true := all_oneCell_toArray (h3.one hc3)
        have hstore := run_storeAt_mid (P := P) w b off t vs.toArray hthere (by rw [hn, ← hvl]; rfl) hone
        have hrun : (execOp a.eval o).run P w = .ok .skip (w.setCells b off vs) := by
          unfold execOp; rw [ho]
          have e : Instr.storeAt t (a.eval x) (a.eval y) = Instr.storeAt t (.pointer (some ⟨b, off, none⟩)) (.agg vs.toArray) := by
            rw [hxv]
            simp only [Instr.storeAt, storeVar, h2]
            rfl
          simp only [e, Sem.run_bind, hstore, Result.andThen_ok]
          rfl
        unfold Oper.wp
        rw [hrun, Oper.upon_skip]
        exact ⟨_, E, (h.setBox off hp hb h3 hc3).put o.dst (x := .un) trivial, hv⟩
    · exact hv.elim
  · exact hv.elim
/-! ### types; elements put together -/
def tyOf (P : Program) : Nat → TypeId → Option Ty
  | 0, _ => none
  | n + 1, t => match P.underlying t with
    | some (.int k) => some (.int k)
    | some .bool => some .bool
    | some .string => some .str
    | some (.slice e) => (tyOf P n e).map .sl
    | some (.array m e) => (tyOf P n e).map fun t => .st (List.replicate m t)
    | some (.struct fs) => (fs.toList.mapM fun f => tyOf P n f.type).map .st
    | some _ => some .raw
    | none => none
def unflatN (t : Ty) : Nat → List SV → Option (List Dat)
  | 0, [] => some []
  | 0, _ :: _ => none
  | n + 1, l => match unflat t l with
    | some (d, r) => match unflatN t n r with
      | some ds => some (d :: ds)
      | none => none
    | none => none
theorem unflatN_rep {S : Nat → Prop} {E : Env} {w : World} {t : Ty} : ∀ {n : Nat} {l : List SV} {ds : List Dat} {cs : List Value}, unflatN t n l = some ds → RelVs S E w l cs →
    ds.length = n ∧ cs.length = n * t.size ∧ ∀ i x, ds[i]? = some x → Rep S w t ((cs.drop (i * t.size)).take t.size) x
  | 0, [], ds, cs, h, hr => by
    simp [unflatN] at h; subst h
    rw [show cs = [] from hr]
    exact ⟨rfl, by simp, fun i x hx => by simp at hx⟩
  | 0, _ :: _, _, _, h, _ => by simp [unflatN] at h
  | n + 1, l, ds, cs, h, hr => by
    unfold unflatN at h
    split at h
    · rename_i d r h1
      split at h
      · rename_i ds' h2
        simp at h; subst h
        obtain ⟨c1, c2, rfl, h3, h4⟩ := unflat_rep h1 hr
        obtain ⟨h5, h6, h7⟩ := unflatN_rep h2 h4
        have hl := h3.length
        refine ⟨by rw [List.length_cons, h5], by rw [List.length_append, hl, h6, Nat.succ_mul, Nat.add_comm], fun i x hx => ?_⟩
        cases i with
        | zero =>
          simp at hx; subst hx
          rw [Nat.zero_mul, List.drop_zero, ← hl, List.take_left]
          exact h3
        | succ i =>
          simp at hx
          have := h7 i x hx
          rw [Nat.succ_mul, Nat.add_comm, ← hl, ← List.drop_drop, List.drop_left, hl]
          exact this
      · cases h
    · cases h
/-! ### a slice literal -/
def litVC (P : Program) (s : St) (t : TypeId) (n : Nat) (parts : Array (Nat × Operand)) (dst : Option Tmp) (K : St → VC) : VC :=
  match P.underlying t with
  | some (.slice e) => match P.info? e, tyOf P 9 e with
    | some ie, some ty =>
      bif Nat.beq n 0 then (bif parts.toList.isEmpty then K ({ s with rw := s.rw ++ [Row.mk e ty [] 0] }.put dst (.own s.rw.length)) else .f)
      else bif (Nat.beq ie.size 0 || Nat.ble (2 ^ 24 + 1) (n * ie.size)) || !ie.zero.isSome then .f
      else match fillS (fun i => some (i * ie.size, ie.size)) (List.replicate (n * ie.size) .un) (parts.toList.map fun x => (x.1, s.ev x.2)) with
        | some l => match unflatN ty n (freezeL s l).2 with
          | some ds => bif Nat.beq ty.size ie.size then K ({ (freezeL s l).1 with rw := (freezeL s l).1.rw ++ [Row.mk e ty ds 0] }.put dst (.own (freezeL s l).1.rw.length)) else .f
          | none => .f
        | none => .f
    | _, _ => .f
  | _ => .f
theorem row_len {c : Ctx} {E : Env} {a : Act} {w : World} (h : Inv c E s a w) (v : Value) : (E.rw ++ [v])[s.rw.length]? = some v := by rw [← h.nrw]; simp
theorem leads_lit {t : TypeId} {n : Nat} {parts : Array (Nat × Operand)} (ho : o.op = .buildSlice t n parts) : Leads P o s (fun K => litVC P s t n parts o.dst K) := by
  intro K hv c E a w h Q
  unfold litVC at hv
  split at hv
  · rename_i e hu
    split at hv
    · rename_i ie ty hie hty
      cases hn : Nat.beq n 0 with
      | true =>
        rw [hn] at hv
        simp only [cond_true] at hv
        cases hp : parts.toList.isEmpty with
        | false => rw [hp] at hv; exact hv.elim
        | true =>
          rw [hp] at hv
          have hn0 : n = 0 := Nat.eq_of_beq_eq_true hn
          subst hn0
          have hp0 : parts = #[] := by apply Array.toList_inj.1; simpa using hp
          subst hp0
          have hrun : (execOp a.eval o).run P w = .ok (.value (.slice (some ⟨w.heap.size, 0, none⟩) 0 0)) (w.alloc (.cells #[] e)) := by
            unfold execOp; rw [ho]
            refine (show _ = _ from ?_)
            simp [Instr.buildSlice, run_underlying hu, sizeOf, typeInfo, hie, newRow, newObj, Instr.fill, Sem.run, program, Array.range_zero']
          unfold Oper.wp
          rw [hrun, Oper.upon_value]
          have h1 := h.row e ty (ds := []) (cs := []) (by simp) (by simp) (fun i x hx => by simp at hx)
          refine ⟨_, _, h1.put o.dst ?_, hv⟩
          exact ⟨row_len h _, _, _, _, rfl⟩
      | false =>
        rw [hn] at hv
        simp only [cond_false] at hv
        cases hb : (Nat.beq ie.size 0 || Nat.ble (2 ^ 24 + 1) (n * ie.size)) || !ie.zero.isSome with
        | true => rw [hb] at hv; exact hv.elim
        | false =>
          rw [hb] at hv
          simp only [cond_false] at hv
          simp only [Bool.or_eq_false_iff, Bool.not_eq_eq_eq_not, Bool.not_false] at hb
          obtain ⟨⟨hb1, hb2⟩, hb3⟩ := hb
          have hb1 : ie.size ≠ 0 := fun e => by rw [e] at hb1; cases hb1
          have hb2 : ¬ n * ie.size > 2 ^ 24 := fun hgt => by
            have : Nat.ble (2 ^ 24 + 1) (n * ie.size) = true := Nat.ble_eq_true_of_le hgt
            rw [this] at hb2; cases hb2
          have hn0 : n ≠ 0 := fun e => by rw [e] at hn; cases hn
          obtain ⟨z, hz⟩ := Option.isSome_iff_exists.1 hb3
          split at hv
          · rename_i l hl
            have hun : RelVs (Reg c E s w) E w (List.replicate (n * ie.size) .un) ((Array.range (n * ie.size)).map (z.cells[· % z.cells.size]!)).toList := by
              have : ∀ (vs : List Value), RelVs (Reg c E s w) E w (List.replicate vs.length .un) vs := by
                intro vs
                induction vs with
                | nil => exact rfl
                | cons v vs ih => exact ⟨v, vs, rfl, trivial, ih⟩
              have h9 := this ((Array.range (n * ie.size)).map (z.cells[· % z.cells.size]!)).toList
              simpa using h9
            obtain ⟨cs, h2, h3⟩ := fill_rel hl hun (RelParts.of (fun x => h.ev x) parts.toList)
            obtain ⟨h4, h5, h6⟩ := freezeL_ok h h3
            generalize hs2 : (freezeL s l).1 = s2 at *
            generalize hl2 : (freezeL s l).2 = l2 at *
            split at hv
            · rename_i ds hds
              obtain ⟨h7, h8, h9⟩ := unflatN_rep hds h6
              cases hsz : Nat.beq ty.size ie.size with
              | false => rw [hsz] at hv; exact hv.elim
              | true =>
                rw [hsz] at hv
                have hsz : ty.size = ie.size := Nat.eq_of_beq_eq_true hsz
                have hrun : (execOp a.eval o).run P w = .ok (.value (.slice (some ⟨w.heap.size, 0, none⟩) n n)) (w.alloc (.cells cs.toArray e)) := by
                  unfold execOp; rw [ho]
                  refine run_buildVal ?_
                  refine run_buildSlice w t e n _ cs.toArray ie z hu hie hz hb2 (fun e => ?_) ?_
                  · rcases Nat.mul_eq_zero.1 e with e | e
                    · exact hn0 e
                    · exact hb1 e
                  · rw [Array.toArray_toList] at h2
                    rw [Array.toList_map]; exact h2
                unfold Oper.wp
                rw [hrun, Oper.upon_value]
                have hle : n ≤ 140737488355328 := by
                  have : n * 1 ≤ n * ie.size := Nat.mul_le_mul_left _ (by omega)
                  omega
                have h10 := h4.row e ty (ds := ds) (cs := cs) (by rw [h8, h7]) (by rw [h7]; exact hle) h9
                rw [h7] at h10
                refine ⟨_, _, h10.put o.dst ?_, hv⟩
                exact ⟨row_len h4 _, _, _, _, rfl⟩
            · exact hv.elim
          · exact hv.elim
    · exact hv.elim
  · exact hv.elim
/-! ### make -/
def makeVC (P : Program) (s : St) (t : TypeId) (l m : SV) (dst : Option Tmp) (K : St → VC) : VC :=
  match P.underlying t, l, m with
  | some (.slice e), .int _ n, .int _ n' => match P.info? e, tyOf P 9 e with
    | some ie, some ty => match ie.zero with
      | some z => match unflatN ty 1 (z.cells.toList.map ofLeaf) with
        | some [d] => bif Nat.beq ty.size ie.size then .ob (n = n' ∧ 0 ≤ n ∧ n * (ie.bytes : Int) ≤ 281474976710656 ∧ n ≤ 140737488355328) (K ({ s with rw := s.rw ++ [Row.mk e ty (List.replicate n.toNat d) 0] }.put dst (.own s.rw.length))) else .f
        | _ => .f
      | none => .f
    | _, _ => .f
  | _, _, _ => .f
theorem made_take {z : Array Value} {n sz i : Nat} (hz : z.size = sz) (hi : i < n) : ((madeCells z (n * sz)).toList.drop (i * sz)).take sz = z.toList := by
  have hle : i * sz + sz ≤ n * sz := by rw [← Nat.succ_mul]; exact Nat.mul_le_mul_right _ hi
  apply List.ext_getElem
  · simp [madeCells, hz]; omega
  · intro k h1 h2
    have hk : k < sz := by simpa [hz] using h2
    have hm : (i * sz + k) % sz = k := by rw [Nat.mul_comm, Nat.mul_add_mod]; exact Nat.mod_eq_of_lt hk
    simp [madeCells, hz, hm, getElem!_pos z k (by omega)]
theorem leads_make {t : TypeId} {l m : Operand} (ho : o.op = .makeSlice t l m) : Leads P o s (fun K => makeVC P s t (s.ev l) (s.ev m) o.dst K) := by
  intro K hv c E a w h Q
  have h1 := h.ev l
  have h2 := h.ev m
  unfold makeVC at hv
  split at hv
  · rename_i e kl n km n' hu hl hm
    rw [hl] at h1; rw [hm] at h2
    split at hv
    · rename_i ie ty hie hty
      split at hv
      · rename_i z hz
        split at hv
        · rename_i d hd
          cases hsz : Nat.beq ty.size ie.size with
          | false => rw [hsz] at hv; exact hv.elim
          | true =>
            rw [hsz] at hv
            obtain ⟨⟨rfl, h0, hb, hmx⟩, hv⟩ := hv
            have hsz : ty.size = ie.size := Nat.eq_of_beq_eq_true hsz
            obtain ⟨k, rfl⟩ := Int.eq_ofNat_of_zero_le h0
            rw [Int.toNat_natCast] at hv
            obtain ⟨h7, h8, h9⟩ := unflatN_rep hd (ofLeafs_rel (S := Reg c E s w) (E := E) (w := w) z.cells.toList)
            have hzs : z.cells.size = ty.size := by simpa using h8
            have hzr : Rep (Reg c E s w) w ty z.cells.toList d := by
              have := h9 0 d rfl
              rw [Nat.zero_mul, List.drop_zero, List.take_of_length_le (by rw [h8]; simp)] at this
              exact this
            have hbytes : ie.bytes * k ≤ 281474976710656 := by
              have : ((k * ie.bytes : Nat) : Int) ≤ 281474976710656 := by rw [Int.natCast_mul]; exact hb
              rw [Nat.mul_comm]; omega
            have hr := run_make (P := P) w t e ie z hu hie hz kl km k k (by omega) (Int.le_refl _) (by rw [← Int.natCast_mul]; omega) (by omega)
            simp only [Int.toNat_natCast] at hr
            have hrun : (execOp a.eval o).run P w = .ok (.value (.slice (some ⟨w.heap.size, 0, none⟩) k k)) (w.alloc (.cells (madeCells z.cells (k * ie.size)) e)) := by
              unfold execOp; rw [ho]
              refine run_buildVal ?_
              rw [h1.1, h2.1]
              exact hr
            unfold Oper.wp
            rw [hrun, Oper.upon_value]
            have h10 := h.row e ty (ds := List.replicate k d) (cs := (madeCells z.cells (k * ie.size)).toList) (by simp [size_madeCells, hsz]) (by simp; omega) (fun i x hx => by
              have hi : i < k := by have := (List.getElem?_eq_some_iff.1 hx).1; simpa using this
              rw [List.getElem?_replicate, if_pos hi] at hx
              simp at hx; subst hx
              rw [← hsz, made_take hzs hi]
              exact hzr)
            simp only [List.length_replicate, Array.toArray_toList] at h10
            refine ⟨_, _, h10.put o.dst ?_, hv⟩
            exact ⟨row_len h _, _, _, _, rfl⟩
        · exact hv.elim
      · exact hv.elim
    · exact hv.elim
  · exact hv.elim
end
end E
end Go.Proofs.YtbjapgekagljeaaDoor
