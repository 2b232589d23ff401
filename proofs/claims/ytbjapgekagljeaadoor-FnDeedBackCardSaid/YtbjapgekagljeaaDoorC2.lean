/- A law's arguments, read as data: from the row's reading to the engine's. No program in sight. -/
import Derived.Test.YtbjapgekagljeaaDoorC1
namespace Go.Proofs.YtbjapgekagljeaaDoor
open Go Go.ChangeShapes Go.WideShapes Go.ChangeAt Go.RowKit
namespace E
mutual
/-- The engine's type is the program's. -/
def tyM (P : Program) : Ty → TypeId → Bool
  | .int k, t => match P.underlying t with | some (.int k') => kindEq k k' | _ => false
  | .bool, t => match P.underlying t with | some .bool => true | _ => false
  | .str, t => match P.underlying t with | some .string => true | _ => false
  | .raw, _ => false
  | .sl e, t => match P.underlying t with | some (.slice u) => Nat.beq (P.cellsOf u) e.size && Nat.ble 1 e.size && Nat.ble 1 (P.bytesOf u) && tyM P e u | _ => false
  | .st fs, t => match P.underlying t with | some (.struct fds) => Nat.beq (P.cellsOf t) (Ty.sizes fs) && tysM P fs fds.toList 0 | _ => false
def tysM (P : Program) : List Ty → List Field → Nat → Bool
  | [], [], _ => true
  | f :: fs, d :: ds, o => Nat.beq d.offset o && Nat.beq (P.cellsOf d.type) f.size && tyM P f d.type && tysM P fs ds (o + f.size)
  | _, _, _ => false
end
section
variable {H : Type} {enc : TypeId × Value → H} {P : Program} {w : World} {base : Nat} {sp : Nat → Bool} {held : Bool}
theorem cells_range {a : Addr} {n : Nat} {cs : List Value} (h : w.cells? base a n = some cs) (hn : 1 ≤ n) : a.spot = none ∧ a.block < w.heap.size ∧ cs.length = n ∧ w.rangeAt a.block a.off cs := by
  unfold World.cells? at h
  split at h
  · have hl := mapM_some_length h
    have hg : ∀ i, i < n → w.cell? (a.add i) = cs[i]? := fun i hi => by
      have := mapM_some_get h i i (by simp [hi])
      exact this
    have h0 := hg 0 (by omega)
    have hl' : cs.length = n := by simpa using hl
    have hs : a.spot = none ∧ a.block < w.heap.size := by
      have h1 : w.cell? a = cs[0]? := h0
      rw [List.getElem?_eq_getElem (by omega)] at h1
      unfold World.cell? at h1
      split at h1
      · rename_i c t fr hb
        split at h1
        · cases h1
        · rename_i hs
          exact ⟨by simpa using hs, (Array.getElem?_eq_some_iff.1 hb).1⟩
      · cases h1
    refine ⟨hs.1, hs.2, hl', fun i v hv => ?_⟩
    have hi : i < n := by rw [← hl']; exact (List.getElem?_eq_some_iff.1 hv).1
    have e : a.add i = ⟨a.block, a.off + i, none⟩ := by
      unfold Addr.add
      split
      · rename_i hi0; subst hi0; cases a; simp_all
      · simp
    rw [← e, hg i hi, hv]
  · cases h
theorem mem_all {e : TypeId} {n : Nat} : ∀ {l : List (DataW H)} {d : DataW H}, d ∈ l → n ∈ d.weights P e → n ∈ DataW.weightsAll P e l
  | x :: l, d, h, hn => by
    unfold DataW.weightsAll
    rcases List.mem_cons.1 h with rfl | h
    · exact List.mem_append_left _ hn
    · exact List.mem_append_right _ (mem_all h hn)
theorem mem_each {n : Nat} : ∀ {ts : List TypeId} {l : List (DataW H)} {i : Nat} {t : TypeId} {d : DataW H}, ts[i]? = some t → l[i]? = some d → n ∈ d.weights P t → n ∈ DataW.weightsEach P ts l
  | t0 :: ts, d0 :: l, 0, t, d, h1, h2, hn => by
    simp at h1 h2; subst h1; subst h2
    unfold DataW.weightsEach
    exact List.mem_append_left _ hn
  | t0 :: ts, d0 :: l, i + 1, t, d, h1, h2, hn => by
    unfold DataW.weightsEach
    exact List.mem_append_right _ (mem_each (i := i) (by simpa using h1) (by simpa using h2) hn)
  | [], _, _, _, _, h1, _, _ => by simp at h1
  | _ :: _, [], _, _, _, _, h2, _ => by simp at h2
mutual
theorem rep_of : ∀ (ty : Ty) (t : TypeId) (fuel : Nat) (cs : List Value) (x : DataW H × List MemPlace), tyM P ty t = true → DataW.trod enc P w base sp held fuel t cs = some x → (∀ n ∈ x.1.weights P t, n ≤ reachBytes) → ∃ d, Rep (· < w.heap.size) w ty cs d
  | .int k, t, fuel, cs, x, hm, h, hwt => by
    unfold tyM at hm
    split at hm
    · rename_i k' hu
      have := kindEq_eq hm
      subst this
      obtain ⟨n, rfl, _, hw⟩ := DataW.trod_int hu h
      refine ⟨.int n, n, rfl, rfl, ?_⟩
      simp only [Lit.wf, Bool.and_eq_true, decide_eq_true_eq] at hw
      cases k <;> simpa [Has, lo, hi, IntKind.min, IntKind.max, IntKind.signed, IntKind.bits] using hw
    · cases hm
  | .bool, t, fuel, cs, x, hm, h, hwt => by
    unfold tyM at hm
    split at hm
    · rename_i hu
      obtain ⟨b, rfl, _⟩ := DataW.trod_bool hu h
      exact ⟨.bool b, b, rfl, rfl⟩
    · cases hm
  | .str, t, fuel, cs, x, hm, h, hwt => by
    unfold tyM at hm
    split at hm
    · rename_i hu
      obtain ⟨s, rfl, rfl, _⟩ := DataW.trod_string hu h
      have := hwt s.data.toList.length (by simp [DataW.weights])
      simp only [reachBytes, Array.length_toList] at this
      exact ⟨.str s, s, rfl, rfl, this⟩
    · cases hm
  | .raw, t, fuel, cs, x, hm, h, hwt => by
    unfold tyM at hm; cases hm
  | .sl e, t, fuel, cs, x, hm, h, hwt => by
    unfold tyM at hm
    split at hm
    · rename_i u hu
      simp only [Bool.and_eq_true] at hm
      obtain ⟨⟨⟨hc, h1⟩, hby⟩, hm⟩ := hm
      have hby : 1 ≤ P.bytesOf u := Nat.le_of_ble_eq_true hby
      have hc : P.cellsOf u = e.size := Nat.eq_of_beq_eq_true hc
      have h1 : 1 ≤ e.size := Nat.le_of_ble_eq_true h1
      rcases DataW.trod_slice hu h with ⟨rfl, _⟩ | ⟨a, len, cap, elems, rest, n, rfl, rfl, rfl, hb, hl, hmax, hlen, hel, _, _⟩
      · exact ⟨.node [], none, 0, 0, [], rfl, rfl, rfl, Nat.le_refl _, Nat.zero_le _, fun h => absurd rfl h⟩
      · have key : ∀ i, i < len → ∃ d, a.spot = none ∧ a.block < w.heap.size ∧ ∃ es, w.rangeAt a.block (a.off + i * e.size) es ∧ Rep (· < w.heap.size) w e es d := by
          intro i hi
          have h2 := hel i hi
          rw [List.getElem?_eq_getElem (by omega), hc] at h2
          obtain ⟨es, h3, h4⟩ := Option.bind_eq_some_iff.1 h2
          obtain ⟨h5, h6, h7, h8⟩ := cells_range h3 h1
          obtain ⟨d, hd⟩ := rep_of e u n es _ hm h4 (fun m hm' => hwt m (by
            simp only [DataW.weights, hu]
            exact List.mem_cons_of_mem _ (List.mem_append_left _ (mem_all (List.mem_map.2 ⟨_, List.getElem_mem _, rfl⟩) hm'))))
          have ha : (a.add (i * e.size)).block = a.block ∧ (a.add (i * e.size)).off = a.off + i * e.size := by
            unfold Addr.add
            split
            · rename_i h0; exact ⟨rfl, by omega⟩
            · exact ⟨rfl, rfl⟩
          rw [ha.1] at h6 h8
          rw [ha.2] at h8
          have hs : a.spot = none := by
            have h2 := hel 0 (by omega)
            rw [List.getElem?_eq_getElem (by omega), hc] at h2
            obtain ⟨es0, h30, _⟩ := Option.bind_eq_some_iff.1 h2
            have := (cells_range h30 h1).1
            simpa [Addr.add] using this
          exact ⟨d, hs, h6, es, h8, hd⟩
        have hch : ∃ ds : List Dat, ds.length = len ∧ ∀ i x, ds[i]? = some x → ∃ es, w.rangeAt a.block (a.off + i * e.size) es ∧ Rep (· < w.heap.size) w e es x := by
          refine ⟨(List.range len).map (fun i => if h : i < len then Classical.choose (key i h) else default), by simp, fun i x hx => ?_⟩
          rw [List.getElem?_map] at hx
          obtain ⟨j, hj, rfl⟩ := Option.map_eq_some_iff.1 hx
          have hij : i < len ∧ j = i := by
            have := List.getElem?_eq_some_iff.1 hj
            obtain ⟨h3, h4⟩ := this
            simp at h3 h4
            exact ⟨h3, h4.symm⟩
          obtain ⟨hi, rfl⟩ := hij
          rw [dif_pos hi]
          exact (Classical.choose_spec (key _ hi)).2.2
        obtain ⟨ds, hds, hrep⟩ := hch
        refine ⟨.node ds, some a, len, cap, ds, rfl, rfl, hds, hl, ?_, fun hn => ?_⟩
        · have h9 := hwt (((elems.map (·.1)).length + (rest.map (·.1)).length) * P.bytesOf u) (by simp only [DataW.weights, hu]; exact List.mem_cons_self ..)
          simp only [List.length_map, reachBytes] at h9
          have h10 := Nat.mul_le_mul_left (elems.length + rest.length) hby
          omega
        obtain ⟨_, hs, hb, _⟩ := key 0 (by omega)
        refine ⟨a.block, a.off, by cases a; simp_all, hb, hrep⟩
    · cases hm
  | .st fs, t, fuel, cs, x, hm, h, hwt => by
    unfold tyM at hm
    split at hm
    · rename_i fds hu
      simp only [Bool.and_eq_true] at hm
      obtain ⟨hc, hm⟩ := hm
      obtain ⟨xs, n, _, rfl, hl, hxs, hf⟩ := DataW.trod_struct hu h
      have hc : P.cellsOf t = Ty.sizes fs := Nat.eq_of_beq_eq_true hc
      obtain ⟨ds, hd⟩ := reps_of fs fds.toList 0 n cs hm (by omega) (fun i f hi => by
        have hlt : i < fds.size := by simpa using (List.getElem?_eq_some_iff.1 hi).1
        have := hf i f (by simpa using hi)
        rw [List.getElem?_eq_getElem (by omega)] at this
        exact ⟨_, this, fun m hm' => hwt m (by
          simp only [DataW.weights, hu]
          refine mem_each (i := i) (t := f.type) (d := (xs[i]'(by omega)).1) (by simp only [List.getElem?_map, hi, Option.map_some]) (by rw [List.getElem?_map, List.getElem?_eq_getElem (by omega)]; rfl) hm')⟩)
      exact ⟨.node ds, ds, rfl, by simpa using hd⟩
    · cases hm
theorem reps_of : ∀ (fs : List Ty) (fds : List Field) (o n : Nat) (cs : List Value), tysM P fs fds o = true → cs.length = o + Ty.sizes fs → (∀ (i : Nat) (f : Field), fds[i]? = some f → ∃ x : DataW H × List MemPlace, DataW.trod enc P w base sp held n f.type ((cs.drop f.offset).take (P.cellsOf f.type)) = some x ∧ ∀ m ∈ x.1.weights P f.type, m ≤ reachBytes) → ∃ ds, Reps (· < w.heap.size) w fs (cs.drop o) ds
  | [], [], o, n, cs, _, hl, _ => ⟨[], List.drop_eq_nil_of_le (by simp [Ty.sizes] at hl; omega), rfl⟩
  | f :: fs, d :: fds, o, n, cs, hm, hl, hf => by
    unfold tysM at hm
    simp only [Bool.and_eq_true] at hm
    obtain ⟨⟨⟨h1, h2⟩, h3⟩, h4⟩ := hm
    have h1 : d.offset = o := Nat.eq_of_beq_eq_true h1
    have h2 : P.cellsOf d.type = f.size := Nat.eq_of_beq_eq_true h2
    obtain ⟨x, hx, hxw⟩ := hf 0 d rfl
    rw [h1, h2] at hx
    obtain ⟨d1, hd1⟩ := rep_of f d.type n _ _ h3 hx hxw
    obtain ⟨ds, hds⟩ := reps_of fs fds (o + f.size) n cs h4 (by simp [Ty.sizes] at hl; omega) (fun i g hi => hf (i + 1) g (by simpa using hi))
    refine ⟨d1 :: ds, (cs.drop o).take f.size, cs.drop (o + f.size), d1, ds, ?_, rfl, hd1, hds⟩
    rw [← List.drop_drop, List.take_append_drop]
  | [], _ :: _, _, _, _, hm, _, _ => by unfold tysM at hm; cases hm
  | _ :: _, [], _, _, _, hm, _, _ => by unfold tysM at hm; cases hm
end
/-- An argument as the engine takes it. -/
def svOf (ty : Ty) (d : Dat) : SV := match ty with
  | .st fs => .agg (flats fs d 0)
  | .int k => .int k d.toInt
  | .bool => .bool d.toBool
  | .str => .str d.toStr
  | .raw => .raw d.toRaw
  | .sl e => .sl e d.kids
def plainTy : Ty → Bool
  | .st _ => false
  | _ => true
theorem flat_svOf {ty : Ty} (h : plainTy ty = true) (d : Dat) : flat ty d = [svOf ty d] := by
  cases ty <;> first | rfl | cases h
theorem cells_of_one {v : Value} (h : ∀ cs, v ≠ .agg cs) : v.cells = #[v] := by cases v <;> first | rfl | exact absurd rfl (h _)
theorem open_arg {r : Reach} {b0 : Nat} {E : Env} {ty : Ty} {t : TypeId} {v : Value} {d : DataW H} {ps : List MemPlace} (hm : tyM P ty t = true) (hok : Value.okWide P w r b0 t v) (h : DataW.Trod enc P w base sp held t v d ps) (hw : ∀ n ∈ d.weights P t, n ≤ reachBytes) :
    ∃ x, RelV (· < w.heap.size) E w (svOf ty x) v := by
  obtain ⟨fuel, hf⟩ := h
  obtain ⟨x, hx⟩ := rep_of ty t fuel _ _ hm hf hw
  refine ⟨x, ?_⟩
  have hfl := hx.flat (E := E)
  cases ty with
  | st fs =>
    unfold tyM at hm
    split at hm
    · rename_i fds hu
      unfold Value.okWide at hok
      rw [hu] at hok
      obtain ⟨cs, rfl, _, _⟩ := hok
      refine ⟨cs.toList, by simp, ?_⟩
      have e : (Value.agg cs).cells.toList = cs.toList := rfl
      rw [e] at hfl
      exact hfl
    · cases hm
  | raw => unfold tyM at hm; cases hm
  | _ =>
    have hone : v.cells = #[v] := by
      refine cells_of_one (fun cs hv => ?_)
      subst hv
      unfold tyM at hm
      split at hm
      · rename_i hu
        unfold Value.okWide at hok
        rw [hu] at hok
        simp [Cell.okWide, hu, Cell.ok] at hok
      · cases hm
    rw [hone, flat_svOf rfl] at hfl
    obtain ⟨u, us, he, h1, _⟩ := hfl
    simp at he
    rw [he.1]; exact h1
def tysA (P : Program) : List Ty → List TypeId → Bool
  | [], [] => true
  | ty :: tys, t :: ts => tyM P ty t && tysA P tys ts
  | _, _ => false
def svsOf : List Ty → List Dat → List SV
  | ty :: tys, d :: ds => svOf ty d :: svsOf tys ds
  | _, _ => []
theorem open_args {r : Reach} {b0 : Nat} {E : Env} : ∀ {tys : List Ty} {ts : List TypeId} {vs : List Value} {ds : List (DataW H)} {ps : List MemPlace}, tysA P tys ts = true → (∀ (j : Nat) t v, ts[j]? = some t → vs[j]? = some v → Value.okWide P w r b0 t v) → DataW.TrodAll enc P w base sp held ts vs ds ps →
    (∀ n ∈ DataW.weightsEach P ts ds, n ≤ reachBytes) → ∃ xs, xs.length = tys.length ∧ RelVs (· < w.heap.size) E w (svsOf tys xs) vs
  | [], [], [], [], _, _, _, _, _ => ⟨[], rfl, rfl⟩
  | ty :: tys, t :: ts, v :: vs, d :: ds, ps, hm, hok, ⟨p, q, h1, h2, _⟩, hw => by
    unfold tysA at hm
    simp only [Bool.and_eq_true] at hm
    unfold DataW.weightsEach at hw
    obtain ⟨x, hx⟩ := open_arg (E := E) hm.1 (hok 0 t v rfl rfl) h1 (fun n hn => hw n (List.mem_append_left _ hn))
    obtain ⟨xs, hl, hxs⟩ := open_args (E := E) hm.2 (fun j t v h3 h4 => hok (j + 1) t v (by simpa using h3) (by simpa using h4)) h2 (fun n hn => hw n (List.mem_append_right _ hn))
    exact ⟨x :: xs, by simp [hl], v, vs, rfl, hx, hxs⟩
  | [], _ :: _, _, _, _, hm, _, _, _ => by unfold tysA at hm; cases hm
  | _ :: _, [], _, _, _, hm, _, _, _ => by unfold tysA at hm; cases hm
  | [], [], _ :: _, _, _, _, _, h, _ => h.elim
  | [], [], [], _ :: _, _, _, _, h, _ => h.elim
  | _ :: _, _ :: _, [], _, _, _, _, h, _ => h.elim
  | _ :: _, _ :: _, _ :: _, [], _, _, _, h, _ => h.elim
/-- A row's contract out of the law's: whatever the arguments, true; they read as they did. -/
theorem row_contract {f : FuncId} {fn : Func} {s : ChangeSpec} {apart fresh handsOn again : Bool} {W : World} {args : Array Value} {ds gs : List (DataW H)} {before : List MemPlace} {tb : TypeId} {tys : List Ty} {b0 : Nat}
    (hf : ∀ xs : List Dat, xs.length = tys.length → Fn P f (svsOf tys xs) none Unit (fun _ => True) (fun _ => .tt) (fun _ => none)) (htys : tysA P tys fn.params.toList = true)
    (hl : laidOutB P = true) (hr : ∀ t ∈ fn.params.toList, P.readableRec t = true ∧ t < P.types.size) (hrt : fn.resultTypes = #[tb]) (hub : P.underlying tb = some .bool) (hvars : s.vars = []) (hfn : s.fn H ds = { results := [.lit (.bool true)], args := ds })
    (hval : ∀ (j : Nat) t v, fn.params[j]? = some t → args[j]? = some v → Value.okWide P W .any b0 t v) (hW : DataW.Whole enc P fn.params.toList s.vars apart W args.toList ds gs before)
    (hwt : (DataW.weightsEach P (fn.params.toList ++ s.plain.varTypes P) (ds ++ gs)).all (· ≤ reachBytes) = true) :
    Calls P f args W fun e W' => ∃ v, e = .returned v ∧ s.post enc P fn apart fresh handsOn again W args v W' := by
  have hW' := hW
  obtain ⟨p, q, hA, hV, rfl, _, _⟩ := hW
  have hV0 := hV
  rw [hvars] at hV0
  obtain ⟨rfl, rfl⟩ := trodVars_none hV0
  have hvt : s.plain.varTypes P = [] := by
    have : s.plain.vars = [] := hvars
    simp [DataSpec.varTypes, this]
  rw [hvt, List.append_nil, List.append_nil] at hwt
  obtain ⟨xs, hxl, hxs⟩ := open_args (E := ⟨[], []⟩) htys (fun j t v h1 h2 => hval j t v (by simpa using h1) (by simpa using h2)) hA (fun n hn => by simpa using List.all_eq_true.1 hwt n hn)
  refine (close_law (hf xs hxl) hxs).mono fun e W' ⟨he, hg⟩ => ?_
  subst he
  exact ⟨_, rfl, post_true hl hr hrt hub hvars hW' hfn hg⟩
end
end E
end Go.Proofs.YtbjapgekagljeaaDoor
