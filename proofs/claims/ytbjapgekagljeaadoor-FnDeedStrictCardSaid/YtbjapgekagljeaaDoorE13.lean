/- A region whose order is open, continued: the reckoning, and that every order comes to the same. No program in sight. -/
import Derived.Test.YtbjapgekagljeaaDoorE12
namespace Go.Proofs.YtbjapgekagljeaaDoor
open Go Go.RowKit
namespace E
def drop2 (dec : List (Nat × Bool)) (d : Option Nat) : List (Nat × Bool) :=
  match d with
  | none => dec
  | some d => dec.filter fun x => !Nat.beq x.1 d
def exD (P : Program) (ct : List (Con P)) (ops : Array Oper) : List Oper → St → List (Nat × Bool) → (St → VC) → VC
  | [], s, _, K => K s
  | o :: r, s, dec, K =>
    let run (dec : List (Nat × Bool)) : VC := match uni P ct { s with fr := view dec (looks ops o) s.fr 0 } o.op with
      | some (none, x) => know o.op x (exD P ct ops r (s.put o.dst x) (drop2 dec o.dst) K)
      | some (some p, x) => .ob p (know o.op x (exD P ct ops r (s.put o.dst x) (drop2 dec o.dst) K))
      | none => .f
    let skip (dec : List (Nat × Bool)) : VC := exD P ct ops r (s.put o.dst (.tup [])) (drop2 dec o.dst) K
    match o.guard with
    | none => run dec
    | some (j, want) => match (ops[j]?).bind (·.dst) with
      | none => .f
      | some d => match s.fr[d]?, decOf dec d with
        | some (.tup []), _ => skip dec
        | some .tt, _ => bif want then run dec else skip dec
        | some .ff, _ => bif want then skip dec else run dec
        | some (.bool _), some b' => bif (match b', want with | true, true => true | false, false => true | _, _ => false) then run dec else skip dec
        | some (.bool b), none => .and (.imp (b = want) (run ((d, want) :: dec))) (.imp (b = !want) (skip ((d, !want) :: dec)))
        | _, _ => .f
section
variable {P : Program} {ct : List (Con P)} {ops : Array Oper}
/-- Wherever the state is as told but for other slots, the operation runs, or is passed over, as told. -/
def RunOk (P : Program) (ops : Array Oper) (o : Oper) (s : St) (x : SV) : Prop :=
  ∀ s' : St, s'.fr.length = s.fr.length → s'.bx = s.bx → s'.rw = s.rw → (∀ t ∈ looks ops o, s'.fr[t]? = s.fr[t]?) → ∀ c E a w, Inv c E s' a w → ∀ (K : Act → World → Prop) Q, (∀ v w', Inv c E s' a w' → RelV (Reg c E s' w') E w' x v → K (a.put o.dst v) w') →
    if Region.wanted o (yielded ops a.tmps) = true then o.wp P a w K Q else K (a.put o.dst undef) w
def CertD (P : Program) (ops : Array Oper) : List Oper → St → (St → Prop) → Prop
  | [], s, F => F s
  | o :: r, s, F => ∃ x, RunOk P ops o s x ∧ CertD P ops r (s.put o.dst x) F
theorem decOf_drop2 {dec : List (Nat × Bool)} {d : Option Nat} {k : Nat} {b : Bool} (h : decOf (drop2 dec d) k = some b) : decOf dec k = some b ∧ d ≠ some k := by
  cases d with
  | none => exact ⟨h, by simp⟩
  | some d =>
    induction dec with
    | nil => simp [drop2, decOf] at h
    | cons x dec ih =>
      simp only [drop2, List.filter_cons] at h
      cases hb : Nat.beq x.1 d with
      | true =>
        have hx : x.1 = d := Nat.eq_of_beq_eq_true hb
        rw [hb] at h
        simp only [Bool.not_true, Bool.false_eq_true, if_false] at h
        obtain ⟨h1, h2⟩ := ih h
        refine ⟨?_, h2⟩
        obtain ⟨x1, x2⟩ := x
        simp only at hx
        subst hx
        unfold decOf
        cases hk : Nat.beq x1 k with
        | true => exact absurd (by rw [Nat.eq_of_beq_eq_true hk]) h2
        | false => exact h1
      | false =>
        rw [hb] at h
        simp only [Bool.not_false, if_true] at h
        obtain ⟨x1, x2⟩ := x
        unfold decOf at h ⊢
        cases hk : Nat.beq x1 k with
        | true =>
          rw [hk] at h
          refine ⟨h, fun e => ?_⟩
          simp at e
          have : x1 = k := Nat.eq_of_beq_eq_true hk
          rw [e] at hb
          simp only at hb
          rw [this] at hb
          simp at hb
        | false => rw [hk] at h; exact ih h
theorem DecOk.put {dec : List (Nat × Bool)} {s : St} (h : DecOk dec s.fr) (d : Option Nat) (x : SV) : DecOk (drop2 dec d) (s.put d x).fr := by
  intro k b' b h1 h2
  obtain ⟨h3, h4⟩ := decOf_drop2 h1
  refine h k b' b h3 ?_
  cases d with
  | none => exact h2
  | some d =>
    have hne : d ≠ k := fun e => h4 (by rw [e])
    simpa [St.put, List.getElem?_set_ne hne] using h2
theorem view_agree {dec : List (Nat × Bool)} {ts : List Nat} : ∀ {l l' : List SV} (k : Nat), l.length = l'.length → (∀ i, has ts (k + i) = true → l[i]? = l'[i]?) → view dec ts l k = view dec ts l' k
  | [], [], _, _, _ => rfl
  | [], _ :: _, _, h, _ => by simp at h
  | _ :: _, [], _, h, _ => by simp at h
  | x :: l, y :: l', k, h, ha => by
    unfold view
    rw [view_agree (k + 1) (by simpa using h) (fun i hi => by
      have := ha (i + 1) (by rw [← hi]; congr 1; omega)
      simpa using this)]
    cases ht : has ts k with
    | false => rfl
    | true =>
      have := ha 0 (by rw [Nat.add_zero]; exact ht)
      simp at this
      rw [this]
theorem run_of {o : Oper} {s : St} {dec : List (Nat × Bool)} {q : Option Prop} {x : SV} (hd : DecOk dec s.fr) (hu : uni P ct { s with fr := view dec (looks ops o) s.fr 0 } o.op = some (q, x)) (hm : met q)
    (hw : ∀ (s' : St) c E a w, (∀ t ∈ looks ops o, s'.fr[t]? = s.fr[t]?) → Inv c E s' a w → Region.wanted o (yielded ops a.tmps) = true) : RunOk P ops o s x := by
  intro s' hln hbx hrw hag c E a w h K Q hK
  rw [if_pos (hw s' c E a w hag h)]
  have hv : view dec (looks ops o) s'.fr 0 = view dec (looks ops o) s.fr 0 := view_agree 0 hln (fun i hi => hag i (by rw [Nat.zero_add] at hi; exact has_mem hi))
  have hsv : ({ s with fr := view dec (looks ops o) s.fr 0 } : St) = { s' with fr := view dec (looks ops o) s'.fr 0 } := by rw [hv, ← hbx, ← hrw]
  rw [hsv] at hu
  have hi : Inv c E { s' with fr := view dec (looks ops o) s'.fr 0 } a w :=
    ⟨h.os, h.tape, h.output, h.size, h.old, h.defers, view_rel 0 (fun i b' b h1 h2 h3 => by
      rw [Nat.zero_add] at h1 h3
      exact hd i b' b h1 (by rw [← hag i (has_mem h3)]; exact h2)) h.fr, h.nbx, h.nrw, h.bx, h.rw, h.inj, h.new, h.lent⟩
  refine uni_ok q x hu hm c E a w hi K Q (fun v w' hk hr => hK v w' (h.call0 hk) ?_)
  exact hr.mono (fun _ _ => rfl) (fun b hb => grow_le h hk (s' := s') rfl b hb) E.le_refl
theorem skip_of {o : Oper} {s : St} (hw : ∀ (s' : St) c E a w, (∀ t ∈ looks ops o, s'.fr[t]? = s.fr[t]?) → Inv c E s' a w → Region.wanted o (yielded ops a.tmps) = false) : RunOk P ops o s (.tup []) := by
  intro s' hln hbx hrw hag c E a w h K Q hK
  rw [if_neg (by rw [hw s' c E a w hag h]; simp)]
  exact hK undef w h undef_rel
theorem decOf_cons {dec : List (Nat × Bool)} {d k : Nat} {b b' : Bool} (h : decOf ((d, b) :: dec) k = some b') : (k = d ∧ b' = b) ∨ decOf dec k = some b' := by
  unfold decOf at h
  cases hk : Nat.beq d k with
  | true => rw [hk] at h; simp at h; exact .inl ⟨(Nat.eq_of_beq_eq_true hk).symm, h.symm⟩
  | false => rw [hk] at h; exact .inr h
theorem wp_const {o : Oper} {a : Act} {w : World} {φ : Prop} (h : o.wp P a w (fun _ _ => φ) (fun _ _ _ => φ)) : φ := by
  unfold Oper.wp Oper.upon at h
  split at h
  · exact h
  · exact h
  · exact h
  · obtain ⟨e, w', fr, hr, _⟩ := h []
    cases e with
    | returned v => exact hr
    | panicked ch => exact hr
    | outgrown => obtain ⟨_, _, hr⟩ := hr; exact hr
  · obtain ⟨v, w', hr, _⟩ := h default []
    exact hr
  · exact h
  · exact h.elim
theorem exD_cert {K : St → VC} {c : Ctx} {E : Env} : ∀ (l : List Oper) (s : St) (dec : List (Nat × Bool)) (a : Act) (w : World), Inv c E s a w → DecOk dec s.fr → (exD P ct ops l s dec K).den → CertD P ops l s (fun s' => (K s').den)
  | [], s, dec, _, _, _, _, hv => hv
  | o :: r, s, dec, a, w, hinv, hd, hv => by
    have next : ∀ {x : SV} {φ : Prop}, RunOk P ops o s x → (∀ v w', Inv c E s a w' → RelV (Reg c E s w') E w' x v → φ) → φ := by
      intro x φ hrun h
      have := hrun s rfl rfl rfl (fun _ _ => rfl) c E a w hinv (fun _ _ => φ) (fun _ _ _ => φ) h
      split at this
      · exact wp_const this
      · exact this
    have run : ∀ dec, DecOk dec s.fr → (match uni P ct { s with fr := view dec (looks ops o) s.fr 0 } o.op with
        | some (none, x) => know o.op x (exD P ct ops r (s.put o.dst x) (drop2 dec o.dst) K)
        | some (some p, x) => .ob p (know o.op x (exD P ct ops r (s.put o.dst x) (drop2 dec o.dst) K))
        | none => .f).den → (∀ (s' : St) c E a w, (∀ t ∈ looks ops o, s'.fr[t]? = s.fr[t]?) → Inv c E s' a w → Region.wanted o (yielded ops a.tmps) = true) → CertD P ops (o :: r) s (fun s' => (K s').den) := by
      intro dec hd hv hw
      split at hv
      · rename_i x hu
        have hrun := run_of hd hu trivial hw
        exact next hrun (fun v w' hi hr => ⟨x, hrun, exD_cert r _ _ _ _ (hi.put o.dst hr) (hd.put _ _) (know_ok hv hr)⟩)
      · rename_i p x hu
        have hrun := run_of hd hu hv.1 hw
        exact next hrun (fun v w' hi hr => ⟨x, hrun, exD_cert r _ _ _ _ (hi.put o.dst hr) (hd.put _ _) (know_ok hv.2 hr)⟩)
      · exact hv.elim
    have skip : ∀ dec, DecOk dec s.fr → (exD P ct ops r (s.put o.dst (.tup [])) (drop2 dec o.dst) K).den → (∀ (s' : St) c E a w, (∀ t ∈ looks ops o, s'.fr[t]? = s.fr[t]?) → Inv c E s' a w → Region.wanted o (yielded ops a.tmps) = false) → CertD P ops (o :: r) s (fun s' => (K s').den) :=
      fun dec hd hv hw => ⟨.tup [], skip_of hw, exD_cert r _ _ (a.put o.dst undef) w (hinv.put o.dst (x := .tup []) undef_rel) (hd.put _ _) hv⟩
    unfold exD at hv
    simp only at hv
    split at hv
    · rename_i hg
      exact run dec hd hv (fun _ _ _ _ _ _ _ => by simp [Region.wanted, hg])
    · rename_i j want hg
      split at hv
      · exact hv.elim
      · rename_i d hdst
        have hlook : d ∈ looks ops o := by simp [looks, hg, hdst]
        have want1 : ∀ b, s.fr[d]? = some (litB b) → ∀ (s' : St) c E a w, (∀ t ∈ looks ops o, s'.fr[t]? = s.fr[t]?) → Inv c E s' a w → Region.wanted o (yielded ops a.tmps) = (b == want) := fun b hb s' c E a w hag h => wanted_of hg hdst (h.known (by rw [hag d hlook]; exact hb))
        have want2 : ∀ b, s.fr[d]? = some (.bool b) → ∀ (s' : St) c E a w, (∀ t ∈ looks ops o, s'.fr[t]? = s.fr[t]?) → Inv c E s' a w → Region.wanted o (yielded ops a.tmps) = (b == want) := fun b hb s' c E a w hag h => wanted_of hg hdst (h.relit (by rw [hag d hlook]; exact hb)).2
        split at hv
        · rename_i hx
          exact skip dec hd hv (fun s' c E a w hag h => wanted_undef hg hdst h (by rw [hag d hlook]; exact hx))
        · rename_i hx
          have hw := want1 true hx
          cases want
          · exact skip dec hd hv hw
          · exact run dec hd hv hw
        · rename_i hx
          have hw := want1 false hx
          cases want
          · exact run dec hd hv hw
          · exact skip dec hd hv hw
        · rename_i b b' hx hb'
          have hbb : b = b' := hd d b' b hb' hx
          subst hbb
          have hw := want2 b hx
          cases b <;> cases want
          · exact run dec hd hv hw
          · exact skip dec hd hv hw
          · exact skip dec hd hv hw
          · exact run dec hd hv hw
        · rename_i b hx hb'
          obtain ⟨hv1, hv2⟩ := hv
          have hw := want2 b hx
          have hdec : ∀ b0, b = b0 → DecOk ((d, b0) :: dec) s.fr := by
            intro b0 hb0 k b1 b2 h1 h2
            rcases decOf_cons h1 with ⟨rfl, rfl⟩ | h1
            · rw [hx] at h2; simp at h2; rw [← h2, hb0]
            · exact hd k b1 b2 h1 h2
          by_cases hbw : b = want
          · refine run _ (hdec want hbw) (hv1 hbw) (fun s' c E a w h1 h2 => ?_)
            rw [hw s' c E a w h1 h2, hbw]; simp
          · have hbw : b = !want := by cases b <;> cases want <;> simp_all
            refine skip _ (hdec (!want) hbw) (hv2 hbw) (fun s' c E a w h1 h2 => ?_)
            rw [hw s' c E a w h1 h2, hbw]; cases want <;> rfl
        · exact hv.elim
end
end E
end Go.Proofs.YtbjapgekagljeaaDoor
