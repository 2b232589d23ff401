/- A region whose order is open, at last: every order. No program in sight. -/
import Derived.Test.YtbjapgekagljeaaDoorE13
namespace Go.Proofs.YtbjapgekagljeaaDoor
open Go Go.RowKit
namespace E
/-- Which operation writes a slot. -/
def wrF (t : Nat) : List Oper → Nat → Option Nat
  | [], _ => none
  | o :: r, k => match o.dst with
    | some d => bif Nat.beq d t then some k else wrF t r (k + 1)
    | none => wrF t r (k + 1)
/-- No other operation than number i writes what this one writes. -/
def onceF : List Oper → Nat → List Oper → Bool
  | [], _, _ => true
  | o :: r, k, all => (match o.dst with
    | some d => (match wrF d all 0 with | some j => Nat.beq j k | none => false)
    | none => true) && onceF r (k + 1) all
def edges (o : Oper) : List Nat := o.after.toList.filterMap fun e => bif Region.binds .any e then some e.on else none
def edgesF : List Oper → Nat → List Oper → Array Oper → Bool
  | [], _, _, _ => true
  | o :: r, k, all, ops => (edges o).all (fun j => Nat.blt j k) && (looks ops o).all (fun t => match wrF t all 0 with | some j => has (edges o) j | none => true) && edgesF r (k + 1) all ops
def drawOk (ops : Array Oper) : Bool := onceF ops.toList 0 ops.toList && edgesF ops.toList 0 ops.toList ops
theorem wrF_some {t : Nat} : ∀ {l : List Oper} {k j : Nat}, wrF t l k = some j → k ≤ j ∧ ∃ o, l[j - k]? = some o ∧ o.dst = some t
  | [], _, _, h => by cases h
  | o :: r, k, j, h => by
    unfold wrF at h
    have rest : wrF t r (k + 1) = some j → k ≤ j ∧ ∃ o', (o :: r)[j - k]? = some o' ∧ o'.dst = some t := by
      intro h
      obtain ⟨h1, o', h2, h3⟩ := wrF_some h
      refine ⟨by omega, o', ?_, h3⟩
      rw [show j - k = (j - (k + 1)) + 1 from by omega]
      simpa using h2
    split at h
    · rename_i d hd
      cases hb : Nat.beq d t with
      | true =>
        rw [hb] at h
        simp at h; subst h
        exact ⟨Nat.le_refl _, o, by simp, by rw [hd, Nat.eq_of_beq_eq_true hb]⟩
      | false => rw [hb] at h; exact rest h
    · exact rest h
theorem onceF_ok {all : List Oper} : ∀ {l : List Oper} {k : Nat}, onceF l k all = true → ∀ i o d, l[i]? = some o → o.dst = some d → wrF d all 0 = some (k + i)
  | [], _, _, _, _, _, hi, _ => by simp at hi
  | o :: r, k, h, i, o', d, hi, hd => by
    unfold onceF at h
    simp only [Bool.and_eq_true] at h
    cases i with
    | zero =>
      simp at hi; subst hi
      have h1 := h.1
      rw [hd] at h1
      simp only at h1
      split at h1
      · rename_i j hj
        rw [hj, Nat.eq_of_beq_eq_true h1]; rfl
      · cases h1
    | succ i =>
      have := onceF_ok h.2 i o' d (by simpa using hi) hd
      rw [this]; congr 1; omega
theorem edgesF_ok {all : List Oper} {ops : Array Oper} : ∀ {l : List Oper} {k : Nat}, edgesF l k all ops = true → ∀ i o, l[i]? = some o → (∀ j ∈ edges o, j < k + i) ∧ ∀ t ∈ looks ops o, ∀ j, wrF t all 0 = some j → j ∈ edges o
  | [], _, _, _, _, hi => by simp at hi
  | o :: r, k, h, i, o', hi => by
    unfold edgesF at h
    simp only [Bool.and_eq_true] at h
    cases i with
    | zero =>
      simp at hi; subst hi
      refine ⟨fun j hj => ?_, fun t ht j hj => ?_⟩
      · have := List.all_eq_true.1 h.1.1 j hj
        exact Nat.le_of_ble_eq_true this
      · have := List.all_eq_true.1 h.1.2 t ht
        rw [hj] at this
        exact has_mem this
    | succ i =>
      obtain ⟨h1, h2⟩ := edgesF_ok h.2 i o' (by simpa using hi)
      exact ⟨fun j hj => by have := h1 j hj; omega, h2⟩
section
variable {P : Program} {ops : Array Oper}
/-- The frame when the operations of L are done. -/
def frL (ops : List Oper) (xs : List SV) (L : Nat → Bool) (fr : List SV) : List SV :=
  fr.mapIdx fun t y => match wrF t ops 0 with
    | some j => if L j = true then xs.getD j .un else y
    | none => y
theorem frL_length (ops : List Oper) (xs : List SV) (L : Nat → Bool) (fr : List SV) : (frL ops xs L fr).length = fr.length := by simp [frL]
theorem frL_get {ops : List Oper} {xs : List SV} {L : Nat → Bool} {fr : List SV} {t : Nat} : (frL ops xs L fr)[t]? = (fr[t]?).map fun y => match wrF t ops 0 with
    | some j => if L j = true then xs.getD j .un else y
    | none => y := by simp [frL]
theorem frL_none (ops : List Oper) (xs : List SV) (fr : List SV) {L : Nat → Bool} (h : ∀ j, L j = false) : frL ops xs L fr = fr := by
  apply List.ext_getElem?
  intro t
  rw [frL_get]
  cases hf : fr[t]? with
  | none => rfl
  | some y =>
    simp only [Option.map_some]
    split
    · simp [h]
    · rfl
theorem frL_up {ops : List Oper} {xs : List SV} {L L' : Nat → Bool} {fr : List SV} {i : Nat} {o : Oper} (honce : onceF ops 0 ops = true) (ho : ops[i]? = some o) (hL : ∀ j, L' j = if j = i then true else L j) (s : St) (hs : s.fr = frL ops xs L fr) :
    (s.put o.dst (xs.getD i .un)).fr = frL ops xs L' fr := by
  apply List.ext_getElem?
  intro t
  cases hd : o.dst with
  | none =>
    show s.fr[t]? = _
    rw [hs, frL_get, frL_get]
    cases hf : fr[t]? with
    | none => rfl
    | some y =>
      simp only [Option.map_some]
      split
      · rename_i j hj
        obtain ⟨_, o', h1, h2⟩ := wrF_some hj
        have : j ≠ i := fun e => by subst e; simp only [Nat.sub_zero] at h1; rw [ho] at h1; simp at h1; subst h1; rw [hd] at h2; cases h2
        rw [hL, if_neg this]
      · rfl
  | some d =>
    have hw := onceF_ok honce i o d ho hd
    rw [Nat.zero_add] at hw
    show (s.fr.set d _)[t]? = _
    rw [List.getElem?_set, hs, frL_get, frL_get, frL_length]
    split
    · rename_i e
      subst e
      rw [hw]
      split
      · rename_i hlt
        rw [List.getElem?_eq_getElem hlt]
        simp [hL]
      · rename_i hlt
        rw [List.getElem?_eq_none (by omega)]; rfl
    · rename_i e
      cases hf : fr[t]? with
      | none => rfl
      | some y =>
        simp only [Option.map_some]
        split
        · rename_i j hj
          obtain ⟨_, o', h1, h2⟩ := wrF_some hj
          have : j ≠ i := fun e' => by subst e'; simp only [Nat.sub_zero] at h1; rw [ho] at h1; simp at h1; subst h1; rw [hd] at h2; simp at h2; exact e h2
          rw [hL, if_neg this]
        · rfl
/-- The reckoning's values, all at once. -/
theorem cert_all {F : St → Prop} {all : List Oper} (honce : onceF all 0 all = true) {s0 : St} : ∀ (l : List Oper) (k : Nat) (xs : List SV) (s : St), all.drop k = l → xs.length = k → CertD P ops l s F →
    s.bx = s0.bx → s.rw = s0.rw → (∀ ys, s.fr = frL all (xs ++ ys) (fun j => decide (j < k)) s0.fr) →
    ∃ zs : List SV, zs.length = l.length ∧ (∀ i o, l[i]? = some o → RunOk P ops o { s0 with fr := frL all (xs ++ zs) (fun j => decide (j < k + i)) s0.fr } (zs.getD i .un)) ∧ F { s0 with fr := frL all (xs ++ zs) (fun j => decide (j < k + l.length)) s0.fr }
  | [], k, xs, s, _, hx, hc, hbx, hrw, hfr => by
    refine ⟨[], rfl, fun i o hi => by simp at hi, ?_⟩
    have : s = { s0 with fr := frL all (xs ++ []) (fun j => decide (j < k + 0)) s0.fr } := by
      rw [← hbx, ← hrw, Nat.add_zero, ← hfr []]
    simp only [List.length_nil]
    rw [← show s = _ from this]
    exact hc
  | o :: r, k, xs, s, hl, hx, ⟨x, hrun, hc⟩, hbx, hrw, hfr => by
    have ho : all[k]? = some o := by
      have := congrArg (·[0]?) hl
      simpa using this
    have hup : ∀ ys, (s.put o.dst x).fr = frL all ((xs ++ [x]) ++ ys) (fun j => decide (j < k + 1)) s0.fr := by
      intro ys
      have h1 := frL_up (xs := (xs ++ [x]) ++ ys) (L := fun j => decide (j < k)) (L' := fun j => decide (j < k + 1)) (fr := s0.fr) honce ho (fun j => by
        by_cases e : j = k
        · subst e; simp
        · rw [if_neg e]; congr 1; simp; omega) s (by rw [List.append_assoc]; exact hfr _)
      have h2 : ((xs ++ [x]) ++ ys).getD k .un = x := by
        rw [List.append_assoc, List.getD_eq_getElem?_getD, List.getElem?_append_right (by omega), hx]; simp
      rw [h2] at h1
      exact h1
    have hput : (s.put o.dst x).bx = s0.bx ∧ (s.put o.dst x).rw = s0.rw := by
      cases o.dst <;> exact ⟨hbx, hrw⟩
    obtain ⟨zs, h3, h4, h5⟩ := cert_all honce r (k + 1) (xs ++ [x]) (s.put o.dst x) (by rw [← List.drop_drop, hl]; rfl) (by simp [hx]) hc hput.1 hput.2 hup
    have he : (xs ++ [x]) ++ zs = xs ++ (x :: zs) := by simp
    rw [he] at h5
    refine ⟨x :: zs, by simp [h3], fun i o' hi => ?_, ?_⟩
    · cases i with
      | zero =>
        simp at hi; subst hi
        have : s = { s0 with fr := frL all (xs ++ (x :: zs)) (fun j => decide (j < k + 0)) s0.fr } := by
          rw [← hbx, ← hrw, Nat.add_zero, ← hfr]
        rw [← show s = _ from this]
        exact hrun
      | succ i =>
        have h6 := h4 i o' (by simpa using hi)
        rw [he] at h6
        rw [show k + (i + 1) = k + 1 + i from by omega]
        simpa using h6
    · rw [show k + (o :: r).length = k + 1 + r.length from by simp; omega]
      exact h5
theorem mem_ready' {listed : Array Bool} {i : Nat} (h : i ∈ Region.ready .any ops listed) : i < ops.size ∧ listed.getD i true = false ∧ ∀ o, ops[i]? = some o → ∀ j ∈ edges o, listed.getD j false = true := by
  simp only [Region.ready, List.mem_filter, List.mem_range, Bool.and_eq_true, Bool.not_eq_eq_eq_not, Bool.not_true] at h
  refine ⟨h.1, h.2.1, fun o ho j hj => ?_⟩
  have h3 := h.2.2
  rw [ho] at h3
  simp only [Option.map_some, Option.getD_some, Array.all_eq_true_iff_forall_mem, Bool.or_eq_true, Bool.not_eq_eq_eq_not, Bool.not_true] at h3
  simp only [edges, List.mem_filterMap, Array.mem_toList_iff] at hj
  obtain ⟨e, he, hb⟩ := hj
  cases hbi : Region.binds .any e with
  | false => rw [hbi] at hb; cases hb
  | true =>
    rw [hbi] at hb
    simp at hb; subst hb
    rcases h3 e he with h4 | h4
    · rw [hbi] at h4; cases h4
    · exact h4
theorem ready_of {listed : Array Bool} {i : Nat} {o : Oper} (ho : ops[i]? = some o) (h1 : listed.getD i true = false) (h2 : ∀ j ∈ edges o, listed.getD j false = true) : i ∈ Region.ready .any ops listed := by
  have hlt : i < ops.size := (Array.getElem?_eq_some_iff.1 ho).1
  simp only [Region.ready, List.mem_filter, List.mem_range, Bool.and_eq_true, Bool.not_eq_eq_eq_not, Bool.not_true]
  refine ⟨hlt, h1, ?_⟩
  rw [ho]
  simp only [Option.map_some, Option.getD_some, Array.all_eq_true_iff_forall_mem, Bool.or_eq_true, Bool.not_eq_eq_eq_not, Bool.not_true]
  intro e he
  cases hbi : Region.binds .any e with
  | false => exact .inl rfl
  | true =>
    right
    exact h2 _ (by
      simp only [edges, List.mem_filterMap, Array.mem_toList_iff]
      exact ⟨e, he, by rw [hbi]; rfl⟩)
def count (listed : Array Bool) : Nat := (listed.toList.filter (!·)).length
theorem any_ok {Q : Exit → Act → World → Prop} {s0 : St} {zs : List SV} {c : Ctx} (hdraw : drawOk ops = true)
    (hrun : ∀ i o, ops.toList[i]? = some o → RunOk P ops o { s0 with fr := frL ops.toList zs (fun j => decide (j < i)) s0.fr } (zs.getD i .un))
    (hQ : ∀ E a w, Inv c E { s0 with fr := frL ops.toList zs (fun j => decide (j < ops.size)) s0.fr } a w → Q .normal a w) :
    ∀ (fuel : Nat) (listed : Array Bool) E a w, listed.size = ops.size → count listed ≤ fuel → Inv c E { s0 with fr := frL ops.toList zs (fun j => listed.getD j false) s0.fr } a w → wpAny P .any ops Q fuel listed a w := by
  simp only [drawOk, Bool.and_eq_true] at hdraw
  obtain ⟨honce, hedge⟩ := hdraw
  have done : ∀ (listed : Array Bool) E a w, listed.size = ops.size → Region.ready .any ops listed = [] → Inv c E { s0 with fr := frL ops.toList zs (fun j => listed.getD j false) s0.fr } a w → Q .normal a w := by
    intro listed E a w hsz hr h
    have hall : ∀ n i, i ≤ n → i < ops.size → listed.getD i false = true := by
      intro n
      induction n with
      | zero =>
        intro i hi hlt
        cases hb : listed.getD i false with
        | true => rfl
        | false =>
          exfalso
          have ho : ops[i]? = some ops[i] := Array.getElem?_eq_getElem hlt
          have h0 : i = 0 := by omega
          have he := (edgesF_ok hedge i ops[i] (by simp)).1
          have : i ∈ Region.ready .any ops listed := ready_of ho (by
            rw [Array.getD_eq_getD_getElem?] at hb ⊢
            rw [Array.getElem?_eq_getElem (by omega)] at hb ⊢
            exact hb) (fun j hj => by have := he j hj; omega)
          rw [hr] at this; cases this
      | succ n ih =>
        intro i hi hlt
        cases hb : listed.getD i false with
        | true => rfl
        | false =>
          exfalso
          have ho : ops[i]? = some ops[i] := Array.getElem?_eq_getElem hlt
          have he := (edgesF_ok hedge i ops[i] (by simp)).1
          have : i ∈ Region.ready .any ops listed := ready_of ho (by
            rw [Array.getD_eq_getD_getElem?] at hb ⊢
            rw [Array.getElem?_eq_getElem (by omega)] at hb ⊢
            exact hb) (fun j hj => by have := he j hj; exact ih j (by omega) (by omega))
          rw [hr] at this; cases this
    have hfr : frL ops.toList zs (fun j => listed.getD j false) s0.fr = frL ops.toList zs (fun j => decide (j < ops.size)) s0.fr := by
      apply List.ext_getElem?
      intro t
      rw [frL_get, frL_get]
      cases hf : s0.fr[t]? with
      | none => rfl
      | some y =>
        simp only [Option.map_some]
        split
        · rename_i j hj
          obtain ⟨_, o', h1, _⟩ := wrF_some hj
          have hlt : j < ops.size := by have := (List.getElem?_eq_some_iff.1 h1).1; simpa using this
          rw [hall j j (Nat.le_refl _) hlt, decide_eq_true hlt]
        · rfl
    rw [hfr] at h
    exact hQ E a w h
  intro fuel
  induction fuel with
  | zero =>
    intro listed E a w hsz hcnt h
    have hr : Region.ready .any ops listed = [] := by
      cases hrd : Region.ready .any ops listed with
      | nil => rfl
      | cons i r =>
        exfalso
        obtain ⟨h1, h2, _⟩ := mem_ready' (ops := ops) (listed := listed) (i := i) (by rw [hrd]; simp)
        have hm : false ∈ listed.toList := by
          rw [Array.getD_eq_getD_getElem?, Array.getElem?_eq_getElem (by omega)] at h2
          simp at h2
          rw [← h2]; simp
        have : false ∈ listed.toList.filter (!·) := List.mem_filter.2 ⟨hm, rfl⟩
        have := List.length_pos_of_mem this
        unfold count at hcnt; omega
    exact ⟨hr, done listed E a w hsz hr h⟩
  | succ fuel ih =>
    intro listed E a w hsz hcnt h
    refine ⟨fun hr => done listed E a w hsz hr h, fun i hi => ?_⟩
    obtain ⟨hlt, hun, hed⟩ := mem_ready' hi
    have ho : ops[i]? = some ops[i] := Array.getElem?_eq_getElem hlt
    have hol : ops.toList[i]? = some ops[i] := by simp
    obtain ⟨he1, he2⟩ := edgesF_ok hedge i ops[i] hol
    have hilt : i < listed.size := by omega
    have hif : listed.getD i false = false := by
      rw [Array.getD_eq_getD_getElem?, Array.getElem?_eq_getElem hilt] at hun ⊢
      exact hun
    have hK : ∀ v w', Inv c E { s0 with fr := frL ops.toList zs (fun j => listed.getD j false) s0.fr } a w' → RelV (Reg c E { s0 with fr := frL ops.toList zs (fun j => listed.getD j false) s0.fr } w') E w' (zs.getD i .un) v → wpAny P .any ops Q fuel (listed.setIfInBounds i true) (a.put ops[i].dst v) w' := by
      intro v w' h1 h2
      have h3 := h1.put ops[i].dst h2
      have hup : ∀ j, (listed.setIfInBounds i true).getD j false = if j = i then true else listed.getD j false := by
        intro j
        by_cases e : j = i
        · subst e
          rw [if_pos rfl, Array.getD_eq_getD_getElem?, Array.getElem?_setIfInBounds_self_of_lt hilt]; rfl
        · rw [if_neg e, Array.getD_eq_getD_getElem?, Array.getD_eq_getD_getElem?, Array.getElem?_setIfInBounds_ne (by omega)]
      have h4 := frL_up (xs := zs) (L := fun j => listed.getD j false) (L' := fun j => (listed.setIfInBounds i true).getD j false) (fr := s0.fr) honce hol hup { s0 with fr := frL ops.toList zs (fun j => listed.getD j false) s0.fr } rfl
      have h5 : ({ s0 with fr := frL ops.toList zs (fun j => listed.getD j false) s0.fr } : St).put ops[i].dst (zs.getD i .un) = { s0 with fr := frL ops.toList zs (fun j => (listed.setIfInBounds i true).getD j false) s0.fr } := by
        rw [← h4]
        cases ops[i].dst <;> rfl
      rw [h5] at h3
      refine ih _ E _ _ (by simp [hsz]) ?_ h3
      have hcount : count (listed.setIfInBounds i true) + 1 ≤ count listed := by
        unfold count
        have hl : listed.toList = listed.toList.take i ++ false :: listed.toList.drop (i + 1) := by
          have h6 : listed.toList[i]'(by simpa using hilt) = false := by
            rw [Array.getD_eq_getD_getElem?, Array.getElem?_eq_getElem hilt] at hif
            simpa using hif
          have h7 := List.take_append_drop i listed.toList
          rw [List.drop_eq_getElem_cons (by simpa using hilt), h6] at h7
          exact h7.symm
        have hl2 : (listed.setIfInBounds i true).toList = listed.toList.take i ++ true :: listed.toList.drop (i + 1) := by
          rw [Array.toList_setIfInBounds, List.set_eq_take_append_cons_drop, if_pos (by simpa using hilt)]
        rw [hl2]
        conv => rhs; rw [hl]
        simp [List.filter_append]
        omega
      omega
    have h6 := hrun i ops[i] hol { s0 with fr := frL ops.toList zs (fun j => listed.getD j false) s0.fr } (by rw [frL_length, frL_length]) rfl rfl (fun t ht => by
      simp only [frL_get]
      cases hf : s0.fr[t]? with
      | none => rfl
      | some y =>
        simp only [Option.map_some]
        split
        · rename_i j hj
          have hje := he2 t ht j hj
          have h7 := hed ops[i] ho j hje
          have h8 := he1 j hje
          rw [h7, decide_eq_true (by omega : j < i)]
        · rfl) c E a w h _ Q hK
    unfold wpOp
    rw [ho]
    simp only
    split
    · rename_i hw
      rw [if_pos hw] at h6
      exact .inl h6
    · rename_i hw
      rw [if_neg hw] at h6
      exact h6
end
/-- Rows that a call or a cut in the region may be handed are no more written. -/
def preF : List Nat → St → St
  | [], s => s
  | t :: l, s => preF l (freezeV s (s.fr.getD t .un)).1
def callsGo : List Oper → Bool
  | [] => false
  | o :: r => (match o.op with | .call { callee := .value _, .. } => true | .slice .. => true | .buildSlice .. => true | _ => false) || callsGo r
def looksAll (ops : Array Oper) : List Oper → List Nat
  | [] => []
  | o :: r => looks ops o ++ looksAll ops r
def exDraw (P : Program) (ct : List (Con P)) (ops : Array Oper) (s : St) (K : St → VC) : VC :=
  bif drawOk ops then exD P ct ops ops.toList (bif callsGo ops.toList then preF (looksAll ops ops.toList) s else s) [] K else .f
theorem preF_ok {c : Ctx} {E : Env} {a : Act} {w : World} : ∀ {l : List Nat} {s : St}, Inv c E s a w → Inv c E (preF l s) a w
  | [], _, h => h
  | t :: l, s, h => by
    show Inv c E (preF l (freezeV s (s.ev (.tmp t))).1) a w
    exact preF_ok (freezeV_ok h (h.ev (.tmp t))).1
theorem exDraw_ok {P : Program} {ct : List (Con P)} {ops : Array Oper} {Q : Exit → Act → World → Prop} {K : St → VC} {c : Ctx} (hm : P.follows .mixedOrders = true) (hK : ∀ s E a w, Inv c E s a w → (K s).den → Q .normal a w) {id : Nat} {s : St} (hv : (exDraw P ct ops s K).den) {E : Env} {a : Act} {w : World} (h : Inv c E s a w) :
    (Code.region id ops true).wp P Q a w := by
  unfold exDraw at hv
  cases hd : drawOk ops with
  | false => rw [hd] at hv; exact hv.elim
  | true =>
    rw [hd] at hv
    simp only [cond_true] at hv
    have h' : Inv c E (bif callsGo ops.toList then preF (looksAll ops ops.toList) s else s) a w := by
      cases callsGo ops.toList
      · exact h
      · exact preF_ok h
    generalize (bif callsGo ops.toList then preF (looksAll ops ops.toList) s else s) = s1 at hv h'
    have hcert := exD_cert ops.toList s1 [] a w h' (fun k b' b h1 _ => by simp [decOf] at h1) hv
    have hd' := hd
    simp only [drawOk, Bool.and_eq_true] at hd'
    obtain ⟨zs, h1, h2, h3⟩ := cert_all (s0 := s1) hd'.1 ops.toList 0 [] s1 rfl rfl hcert rfl rfl (fun ys => (frL_none _ _ _ (fun j => by simp)).symm)
    simp only [List.nil_append, Nat.zero_add, Array.length_toList] at h2 h3
    refine wp_region_any hm ?_
    refine any_ok hd h2 (fun E a w hi => hK _ E a w hi h3) ops.size _ E a w.drew (by simp) (by simp [count]) ?_
    have h4 : frL ops.toList zs (fun j => (Array.replicate ops.size false).getD j false) s1.fr = s1.fr := frL_none _ _ _ (fun j => by
      rw [Array.getD_eq_getD_getElem?, Array.getElem?_replicate]; split <;> rfl)
    rw [h4]
    exact h'.drew
end E
end Go.Proofs.YtbjapgekagljeaaDoor
