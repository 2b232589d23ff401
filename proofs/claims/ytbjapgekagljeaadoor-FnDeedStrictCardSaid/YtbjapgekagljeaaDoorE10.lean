/- append; a text out of bytes; a row's cell written. No program in sight. -/
import Derived.Test.YtbjapgekagljeaaDoorE9
import Derived.Laws.BytesArg
namespace Go.Proofs.YtbjapgekagljeaaDoor
open Go Go.RowKit
namespace E
section
variable {P : Program} {o : Oper} {s : St}
/-- What a slice holds, whoever owns it. -/
def srcOf (s : St) (x : SV) : Option (Option Ty × List Dat) :=
  match x with
  | .nil => some (none, [])
  | .sl t ds => some (some t, ds)
  | .own j => (rowOf s j).map fun r => (some r.e, r.ds)
  | _ => none
theorem drop_take_cons {α : Type} (es ys : List α) (sz i : Nat) (h : es.length = sz) : (((es ++ ys).drop ((i + 1) * sz)).take sz) = ((ys.drop (i * sz)).take sz) := by
  rw [Nat.succ_mul, Nat.add_comm, ← List.drop_drop, ← h, List.drop_left]
theorem sl_cells {S : Nat → Prop} {w : World} {e : Ty} {b : Nat} : ∀ (ds : List Dat) (off : Nat), (∀ i x, ds[i]? = some x → ∃ es, w.rangeAt b (off + i * e.size) es ∧ Rep S w e es x) →
    ∃ ys, ys.length = ds.length * e.size ∧ w.rangeAt b off ys ∧ (∀ i x, ds[i]? = some x → Rep S w e ((ys.drop (i * e.size)).take e.size) x) ∧ ∀ v ∈ ys, v.oneCell' = true
  | [], off, _ => ⟨[], by simp, fun j v hv => by simp at hv, fun i x hx => by simp at hx, fun v hv => by cases hv⟩
  | d :: ds, off, h => by
    obtain ⟨es, h1, h2⟩ := h 0 d rfl
    obtain ⟨ys, h3, h4, h5, h6⟩ := sl_cells ds (off + e.size) (fun i x hx => by
      obtain ⟨es, h1, h2⟩ := h (i + 1) x (by simpa using hx)
      refine ⟨es, ?_, h2⟩
      rw [Nat.succ_mul] at h1
      rw [show off + e.size + i * e.size = off + (i * e.size + e.size) from by omega]
      exact h1)
    have hl := h2.length
    refine ⟨es ++ ys, by rw [List.length_append, hl, h3, List.length_cons, Nat.succ_mul, Nat.add_comm], ?_, fun i x hx => ?_, fun v hv => ?_⟩
    · intro j v hv
      rcases Nat.lt_or_ge j es.length with hj | hj
      · rw [List.getElem?_append_left hj] at hv
        have := h1 j v hv
        rwa [Nat.zero_mul, Nat.add_zero] at this
      · rw [List.getElem?_append_right hj] at hv
        have := h4 (j - es.length) v hv
        rwa [show off + e.size + (j - es.length) = off + j from by omega] at this
    · cases i with
      | zero =>
        simp at hx; subst hx
        rw [Nat.zero_mul, List.drop_zero, ← hl, List.take_left]; exact h2
      | succ i =>
        rw [drop_take_cons es ys e.size i hl]
        exact h5 i x (by simpa using hx)
    · rcases List.mem_append.1 hv with hv | hv
      · exact h2.one v hv
      · exact h6 v hv
theorem reps_one {S : Nat → Prop} {w : World} {e : Ty} {ds : List Dat} {xs : List Value} (hl : xs.length = ds.length * e.size) (hd : ∀ i x, ds[i]? = some x → Rep S w e ((xs.drop (i * e.size)).take e.size) x) : ∀ v ∈ xs, v.oneCell' = true := by
  intro v hv
  obtain ⟨k, hk, rfl⟩ := List.mem_iff_getElem.1 hv
  have hsz : 0 < e.size := by
    rcases Nat.eq_zero_or_pos e.size with h | h
    · rw [h, Nat.mul_zero] at hl; omega
    · exact h
  have hlt : k / e.size < ds.length := by rw [Nat.div_lt_iff_lt_mul hsz]; omega
  have h1 := (hd (k / e.size) _ (List.getElem?_eq_getElem hlt)).one
  apply h1
  have h2 : k = k / e.size * e.size + k % e.size := by rw [Nat.mul_comm]; exact (Nat.div_add_mod _ _).symm
  have h3 := Nat.mod_lt k hsz
  rw [List.mem_iff_getElem?]
  refine ⟨k % e.size, ?_⟩
  rw [List.getElem?_take, if_pos h3, List.getElem?_drop, ← h2, List.getElem?_eq_getElem hk]
theorem src_rel {c : Ctx} {E : Env} {a : Act} {w : World} (h : Inv c E s a w) {x : SV} {v : Value} {t : Option Ty} {ds : List Dat} (hx : srcOf s x = some (t, ds)) (hr : RelV (Reg c E s w) E w x v) :
    ∃ ad cap, v = .slice ad ds.length cap ∧ ds.length ≤ 140737488355328 ∧ (ds = [] ∨ ∃ e b off ys, t = some e ∧ ad = some ⟨b, off, none⟩ ∧ ys.length = ds.length * e.size ∧ w.rangeAt b off ys ∧ (∀ i x, ds[i]? = some x → Rep (Reg c E s w) w e ((ys.drop (i * e.size)).take e.size) x) ∧ ∀ v ∈ ys, v.oneCell' = true) := by
  have imm : ∀ e ds, Rep (Reg c E s w) w (.sl e) [v] (.node ds) → ∃ ad cap, v = .slice ad ds.length cap ∧ ds.length ≤ 140737488355328 ∧ (ds = [] ∨ ∃ e' b off ys, some e = some e' ∧ ad = some ⟨b, off, none⟩ ∧ ys.length = ds.length * e'.size ∧ w.rangeAt b off ys ∧ (∀ i x, ds[i]? = some x → Rep (Reg c E s w) w e' ((ys.drop (i * e'.size)).take e'.size) x) ∧ ∀ v ∈ ys, v.oneCell' = true) := by
    intro e ds hrep
    obtain ⟨ad, n, cap, ds', h3, h4, h5, h6, h7, h8⟩ := hrep
    simp at h3 h4
    subst h4; subst h3
    refine ⟨ad, cap, by rw [h5], by omega, ?_⟩
    cases ds with
    | nil => exact .inl rfl
    | cons d ds =>
      obtain ⟨b, off, rfl, _, hc⟩ := h8 (by simp at h5; omega)
      obtain ⟨ys, h9, h10, h11, h12⟩ := sl_cells (d :: ds) off hc
      exact .inr ⟨e, b, off, ys, rfl, rfl, h9, h10, h11, h12⟩
  unfold srcOf at hx
  split at hx
  · simp at hx
    obtain ⟨rfl, rfl⟩ := hx
    exact ⟨none, 0, hr, by simp, .inl rfl⟩
  · simp at hx
    obtain ⟨rfl, rfl⟩ := hx
    exact imm _ _ hr
  · rename_i j
    obtain ⟨r, hr', he⟩ := Option.map_eq_some_iff.1 hx
    simp at he
    obtain ⟨rfl, rfl⟩ := he
    unfold rowOf at hr'
    split at hr'
    · rename_i r' hj
      split at hr'
      · rename_i hs
        simp at hr'; subst hr'
        obtain ⟨_, h1, h2⟩ := h.rw j r' v hj hr.1
        rcases hs with hs | hs
        · obtain ⟨xs, ⟨h3, h4⟩, h5, h6⟩ := h1 hs
          rcases h4 with ⟨rfl, h7⟩ | ⟨g, cap, cur, rfl, _, h7, _, _, _, h8⟩
          · have : r'.ds = [] := List.eq_nil_of_length_eq_zero h7
            exact ⟨none, 0, by rw [h7], h5, .inl this⟩
          · refine ⟨_, cap, rfl, h5, .inr ⟨r'.e, g, 0, xs, rfl, rfl, h3, ?_, h6, reps_one h3 h6⟩⟩
            rw [← h8]
            exact range_take (range_block (cs := cur.toList) (by simpa using h7))
        · exact imm _ _ (h2 hs)
      · cases hr'
    · cases hr'
  · cases hx
def tyFits (a : Option Ty) (b : Ty) : Bool :=
  match a with
  | some t => tyEq t b
  | none => true
/-! ### append -/
theorem run_append_empty {w : World} {t e ty : TypeId} {sz n : Nat} {v : Value} {xs : List Value} {ad : Option Addr} {cap : Nat} (hu : P.underlying t = some (.slice e)) (hs : (P.info? e).map (·.size) = some sz) (h : w.ownsRow 0 e sz v n xs) :
    (Builtin.append_ #[t, t] ty #[v, .slice ad 0 cap]).run P w = .ok v w := by
  obtain ⟨i, hi, rfl⟩ := Option.map_eq_some_iff.1 hs
  have hf : ∀ m : Nat, (Builtin.firstCells m 0 (.slice ad 0 cap)).run P w = .ok #[] w := fun m => by
    cases ad with
    | none => rfl
    | some ad => simp only [Builtin.firstCells, Nat.zero_mul]; rfl
  rcases h.2 with ⟨rfl, hn⟩ | ⟨g, cap', cur, rfl, _, _, hnc, _⟩
  · simp [Builtin.append_, run_underlying hu, sizeOf, typeInfo, hi, Builtin.lenOf, hf]
  · simp [Builtin.append_, run_underlying hu, sizeOf, typeInfo, hi, Builtin.lenOf, hf, hnc, storeCells]
def baseOf (s : St) (e : TypeId) (ty : Ty) (x : SV) : Option (Option Nat × Row) :=
  match x with
  | .nil => some (none, ⟨e, ty, [], 0⟩)
  | .own j => match s.rw[j]? with
    | some r => bif Nat.beq r.st 0 && Nat.beq r.tid e && tyEq r.e ty then some (some j, r) else none
    | none => none
  | _ => none
def appVC (P : Program) (s : St) (t : TypeId) (x y : SV) (dst : Option Tmp) (K : St → VC) : VC :=
  match P.underlying t with
  | some (.slice e) => match P.info? e, tyOf P 9 e with
    | some ie, some ty => match ie.zero, baseOf s e ty x, srcOf s y with
      | some z, some (j, r), some (ty', ds) =>
        bif Nat.beq ty.size ie.size && Nat.beq z.cells.size ie.size && Nat.blt 0 ie.size && Nat.blt 0 ie.bytes && tyFits ty' ty then
          .ob ((r.ds.length + ds.length) * ie.bytes ≤ 140737488355328) (K ({ s with rw := killRow s.rw j r ++ [Row.mk r.tid r.e (r.ds ++ ds) 0] }.put dst (.own s.rw.length)))
        else .f
      | _, _, _ => .f
    | _, _ => .f
  | _ => .f
theorem leads_app {t : TypeId} {x y : Operand} (ho : o.op = .call { callee := .builtin .append, args := #[x, y], argTypes := #[t, t] }) : Leads P o s (fun K => appVC P s t (s.ev x) (s.ev y) o.dst K) := by
  intro K hv c E a w h Q
  have h1 := h.ev x
  have h2 := h.ev y
  unfold appVC at hv
  split at hv
  · rename_i e hu
    split at hv
    · rename_i ie ty hie hty
      split at hv
      · rename_i z j r ty' ds hz hbase hsrc
        generalize hcond : (Nat.beq ty.size ie.size && Nat.beq z.cells.size ie.size && Nat.blt 0 ie.size && Nat.blt 0 ie.bytes && tyFits ty' ty) = cond at hv
        cases cond with
        | false => exact hv.elim
        | true =>
          simp only [Bool.and_eq_true] at hcond
          obtain ⟨⟨⟨⟨c1, c2⟩, c3⟩, c4⟩, c5⟩ := hcond
          have c1 : ty.size = ie.size := Nat.eq_of_beq_eq_true c1
          have c2 : z.cells.size = ie.size := Nat.eq_of_beq_eq_true c2
          have c3 : 0 < ie.size := Nat.le_of_ble_eq_true c3
          have c4 : 0 < ie.bytes := Nat.le_of_ble_eq_true c4
          obtain ⟨hb, hv⟩ := hv
          have hlen : r.ds.length + ds.length ≤ 140737488355328 := Nat.le_trans (Nat.le_mul_of_pos_right _ c4) hb
          -- the base
          obtain ⟨v, hxv, hr0, xs, hown, hd, hj, hjn⟩ : ∃ v, a.eval x = v ∧ (r.st = 0 ∧ r.tid = e ∧ r.e = ty) ∧ ∃ xs, w.ownsRow 0 r.tid r.e.size v r.ds.length xs ∧ (∀ i x, r.ds[i]? = some x → Rep (Reg c E s w) w r.e ((xs.drop (i * r.e.size)).take r.e.size) x) ∧
              (∀ i, j = some i → s.rw[i]? = some r ∧ E.rw[i]? = some v ∧ r.st = 0) ∧ (j = none → v.ownBlock = none) := by
            unfold baseOf at hbase
            split at hbase
            · rename_i hx
              simp at hbase
              obtain ⟨rfl, rfl⟩ := hbase
              rw [hx] at h1
              exact ⟨_, h1, ⟨rfl, rfl, rfl⟩, [], ⟨by simp, .inl ⟨rfl, rfl⟩⟩, fun i x hx => by simp at hx, fun i hi => by simp at hi, fun _ => rfl⟩
            · rename_i k hx
              rw [hx] at h1
              split at hbase
              · rename_i r' hr'
                generalize hcond : (Nat.beq r'.st 0 && Nat.beq r'.tid e && tyEq r'.e ty) = cond at hbase
                cases cond with
                | false => cases hbase
                | true =>
                  simp at hbase
                  obtain ⟨rfl, rfl⟩ := hbase
                  simp only [Bool.and_eq_true] at hcond
                  obtain ⟨⟨d1, d2⟩, d3⟩ := hcond
                  have d1 : r'.st = 0 := Nat.eq_of_beq_eq_true d1
                  obtain ⟨_, h3, _⟩ := h.rw k r' _ hr' h1.1
                  obtain ⟨xs, h4, _, h5⟩ := h3 d1
                  exact ⟨_, rfl, ⟨d1, Nat.eq_of_beq_eq_true d2, tyEq_eq d3⟩, xs, h4, h5, fun i hi => by simp at hi; subst hi; exact ⟨hr', h1.1, d1⟩, fun hi => by simp at hi⟩
              · cases hbase
            · cases hbase
          obtain ⟨hst, rfl, rfl⟩ := hr0
          obtain ⟨ad, cap, hyv, hm, hsrc'⟩ := src_rel h hsrc h2
          have hrunOf : ∀ v' w', (Builtin.append_ #[t, t] o.type #[v, .slice ad ds.length cap]).run P w = .ok v' w' → (execOp a.eval o).run P w = .ok (.value v') w' := by
            intro v' w' hr
            unfold execOp; rw [ho]
            simp only [resolve, invoke, builtin, pure_bind, List.map_toArray, List.map_cons, List.map_nil, hxv, hyv]
            exact run_buildVal hr
          have hfin : ∀ v' w' ys, (Builtin.append_ #[t, t] o.type #[v, .slice ad ds.length cap]).run P w = .ok v' w' → w'.ownsRow 0 r.tid r.e.size v' (r.ds.length + ds.length) (xs ++ ys) → w.grownBy w' v.ownBlock → (v'.ownBlock = v.ownBlock ∨ v'.ownBlock = some w.heap.size) →
              (∀ i x, ds[i]? = some x → Rep (Reg c E s w) w r.e ((ys.drop (i * r.e.size)).take r.e.size) x) → o.wp P a w (fun a' w' => ∃ s' E', Inv c E' s' a' w' ∧ (K s').den) Q := by
            intro v' w' ys hr hown' hg hat hy
            unfold Oper.wp
            rw [hrunOf v' w' hr, Oper.upon_value]
            have hsl : isSlice v' := by
              rcases hown'.2 with ⟨rfl, _⟩ | ⟨g, cap, cur, rfl, _⟩
              · exact ⟨_, _, _, rfl⟩
              · exact ⟨_, _, _, rfl⟩
            have h9 := h.append j hj hjn hown' hown.1 hd hy hlen hg hat hsl
            refine ⟨_, _, h9.put o.dst ?_, hv⟩
            exact ⟨row_len h _, hsl⟩
          rcases hsrc' with rfl | ⟨e', b, off, ys, he', had, hyl, hyr, hyd, hy1⟩
          · refine hfin v w [] (run_append_empty hu (by rw [hie]; simp [c1]) hown) (by simpa using hown) (World.grownBy.refl w _) (.inl rfl) (fun i x hx => by simp at hx)
          · subst he'
            have he : e' = r.e := tyEq_eq c5
            subst he
            subst had
            obtain ⟨v', w', hr, h3, h4, _, h5⟩ := run_append_own_at (P := P) w 0 t o.type r.tid ie z ie.size ie.bytes hu hie hz rfl rfl c2 c3 v r.ds.length xs (by rw [← c1]; exact hown) ⟨b, off, none⟩ ds.length cap ys (by rw [hyl, c1]) (fun k u hu => by rw [Addr.add_mid]; exact hyr k u hu) hy1
              (by simp only [maxLen]; omega) hb (Nat.zero_le _)
            rw [← c1] at h3
            exact hfin v' w' ys hr h3 h4 h5 hyd
      · exact hv.elim
    · exact hv.elim
  · exact hv.elim
/-! ### a text out of bytes -/
def textOf (ds : List Dat) : ByteArray := ⟨(ds.map fun d => UInt8.ofNat d.toInt.toNat).toArray⟩
def bytesR (P : Program) (s : St) (src dst : TypeId) (x : SV) : R :=
  match P.underlying src, P.underlying dst, srcOf s x with
  | some (.slice e), some .string, some (ty, ds) => match P.underlying e with
    | some (.int .u8) => bif tyFits ty (.int .u8) then R.ask (ds.length ≤ 140737488351232) (.str (textOf ds)) else none
    | _ => none
  | _, _, _ => none
theorem gives_bytes {src dst : TypeId} {x : Operand} (ho : o.op = .convert src dst x) : Gives P o s (bytesR P s src dst (s.ev x)) := by
  intro q z hq hb c E a w h
  unfold bytesR at hq
  split at hq
  · rename_i e ty ds hus hud hsrc
    split at hq
    · rename_i hue
      generalize hcond : tyFits ty (.int .u8) = cond at hq
      cases cond with
      | false => cases hq
      | true =>
        simp only [cond_true, R.ask, Option.some.injEq, Prod.mk.injEq] at hq
        obtain ⟨rfl, rfl⟩ := hq
        simp only [met] at hb
        obtain ⟨ad, cap, hxv, hm, hsrc'⟩ := src_rel h hsrc (h.ev x)
        have hrun : (convert src dst (.slice ad ds.length cap)).run P w = .ok (.string (textOf ds)) w := by
          rcases hsrc' with rfl | ⟨e', b, off, ys, he', had, hyl, hyr, hyd, hy1⟩
          · cases ad with
            | none => exact run_convert_bytes_nil w src e hus hue 0 cap dst hud
            | some ad =>
              obtain ⟨b, off, sp⟩ := ad
              simp only [convert, Sem.run_bind, run_underlying hus, run_underlying hud, run_underlying hue, Result.andThen_ok]
              rfl
          · subst he'
            have he : e' = .int .u8 := tyEq_eq hcond
            subst he
            subst had
            have hcell : ∀ i, i < ds.length → w.cell? ⟨b, off + i, none⟩ = some (.int .u8 ((ds.map Dat.toInt).getD i 0)) := by
              intro i hi
              have h9 := hyd i _ (List.getElem?_eq_getElem hi)
              obtain ⟨n, h10, h11, _⟩ := h9
              simp only [Ty.size, Nat.mul_one] at h10
              have h12 : ys[i]? = some (.int .u8 n) := by
                have := congrArg (·[0]?) h10
                simpa [List.getElem?_take, List.getElem?_drop] using this
              have h13 := hyr i _ h12
              rw [h13]
              simp [List.getD_eq_getElem?_getD, List.getElem?_eq_getElem hi, h11, Dat.toInt]
            have := run_convert_bytes_arg (P := P) w src e hus hue b off ds.length cap (ds.map Dat.toInt) (by simp) (fun i hi => hcell i hi) dst hud
            rw [this]
            simp only [textOf, strOfNums, List.map_map, Function.comp_def]
        refine ⟨.string (textOf ds), ?_, rfl, ?_⟩
        · unfold execOp; rw [ho]
          exact run_buildVal (by rw [hxv]; exact hrun)
        · show (List.map _ ds).toArray.size ≤ _
          simpa using hb
    · cases hq
  · cases hq
end
end E
end Go.Proofs.YtbjapgekagljeaaDoor
