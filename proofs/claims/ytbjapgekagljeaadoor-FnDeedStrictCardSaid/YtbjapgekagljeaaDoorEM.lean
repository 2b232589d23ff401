/- Conditions with '&&' and '||': a region's one Bool as a formula, its ways met again. No program in sight. -/
import Derived.Test.YtbjapgekagljeaaDoorE14
namespace Go.Proofs.YtbjapgekagljeaaDoor
open Go Go.RowKit
namespace E
/-- 'if b = want then x else y' as a value. -/
def mkT (b : Bool) (x y : SV) : Option SV :=
  match x, y with
  | .tt, .tt => some .tt
  | .ff, .ff => some .ff
  | .tt, .ff => some (.bool b)
  | .ff, .tt => some (.bool (!b))
  | .tt, .bool q => some (.bool (b || q))
  | .bool q, .tt => some (.bool (!b || q))
  | .ff, .bool q => some (.bool (!b && q))
  | .bool q, .ff => some (.bool (b && q))
  | .bool p, .bool q => some (.bool (bif b then p else q))
  | _, _ => none
def mkIf (b want : Bool) (x y : SV) : Option SV := match want with | true => mkT b x y | false => mkT b y x
theorem mkT_ok {b : Bool} {x y z : SV} (h : mkT b x y = some z) : asB z = if b = true then asB x else asB y := by
  unfold mkT at h
  split at h <;> first
    | (cases h; done)
    | (simp at h; subst h; cases b <;> simp [asB])
theorem mkIf_ok {b want : Bool} {x y z : SV} (h : mkIf b want x y = some z) : asB z = if b = want then asB x else asB y := by
  unfold mkIf at h
  split at h
  · exact mkT_ok h
  · rw [mkT_ok h]; cases b <;> rfl
def exV (P : Program) (ct : List (Con P)) (ops : Array Oper) (R : Nat) : List Oper → St → List (Nat × Bool) → Option SV
  | [], s, _ => match s.fr[R]? with
    | some .tt => some .tt
    | some .ff => some .ff
    | some (.bool b) => some (.bool b)
    | _ => none
  | o :: r, s, dec =>
    let run (dec : List (Nat × Bool)) : Option SV := match uni P ct { s with fr := view dec (looks ops o) s.fr 0 } o.op with
      | some (_, x) => exV P ct ops R r (s.put o.dst x) (drop2 dec o.dst)
      | none => none
    let skip (dec : List (Nat × Bool)) : Option SV := exV P ct ops R r (s.put o.dst (.tup [])) (drop2 dec o.dst)
    match o.guard with
    | none => run dec
    | some (j, want) => match (ops[j]?).bind (·.dst) with
      | none => none
      | some d => match s.fr[d]?, decOf dec d with
        | some (.tup []), _ => skip dec
        | some .tt, _ => bif want then run dec else skip dec
        | some .ff, _ => bif want then skip dec else run dec
        | some (.bool _), some b' => bif (match b', want with | true, true => true | false, false => true | _, _ => false) then run dec else skip dec
        | some (.bool b), none => match run ((d, want) :: dec), skip ((d, !want) :: dec) with
          | some x, some y => mkIf b want x y
          | _, _ => none
        | _, _ => none
def mkImp (p : Prop) (v : VC) : VC := match v with | .t => .t | v => .imp p v
def mkAnd2 (a b : VC) : VC := match a with | .t => b | a => .and a b
theorem mkImp_ok {p : Prop} {v : VC} (h : (mkImp p v).den) : p → v.den := by
  unfold mkImp at h
  split at h
  · exact fun _ => h
  · exact h
theorem mkAnd2_ok {a b : VC} (h : (mkAnd2 a b).den) : a.den ∧ b.den := by
  unfold mkAnd2 at h
  split at h
  · exact ⟨trivial, h⟩
  · exact h
def mknowInt (k : IntKind) (n : Int) (v : VC) : VC := match v with | .t => .t | v => knowInt k n v
def mknow (op : Op) (x : SV) (v : VC) : VC := match v with | .t => .t | v => know op x v
theorem mknow_ok {op : Op} {x : SV} {v : VC} {S : Nat → Prop} {E : Env} {w : World} {u : Value} (h : (mknow op x v).den) (hr : RelV S E w x u) : v.den := by
  unfold mknow at h
  split at h
  · exact h
  · exact know_ok h hr
def mkOb (p : Prop) (v : VC) : VC := match v with | .t => .pr p | v => .ob p v
theorem mkOb_ok {p : Prop} {v : VC} (h : (mkOb p v).den) : p ∧ v.den := by
  unfold mkOb at h
  split at h
  · exact ⟨h, trivial⟩
  · exact h
/-- What must hold for the operations to run, on each way. -/
def exO (P : Program) (ct : List (Con P)) (ops : Array Oper) : List Oper → St → List (Nat × Bool) → VC
  | [], _, _ => .t
  | o :: r, s, dec =>
    let run (dec : List (Nat × Bool)) : VC := match uni P ct { s with fr := view dec (looks ops o) s.fr 0 } o.op with
      | some (none, x) => mknow o.op x (exO P ct ops r (s.put o.dst x) (drop2 dec o.dst))
      | some (some p, x) => mkOb p (mknow o.op x (exO P ct ops r (s.put o.dst x) (drop2 dec o.dst)))
      | none => .f
    let skip (dec : List (Nat × Bool)) : VC := exO P ct ops r (s.put o.dst (.tup [])) (drop2 dec o.dst)
    match o.guard with
    | none => run dec
    | some (j, want) => match (ops[j]?).bind (·.dst) with
      | none => .f
      | some d => match s.fr[d]?, decOf dec d with
        | some (.tup []), _ => skip dec
        | some .tt, _ => bif want then run dec else skip dec
        | some .ff, _ => bif want then skip dec else run dec
        | some (.bool _), some b' => bif (match b', want with | true, true => true | false, false => true | _, _ => false) then run dec else skip dec
        | some (.bool b), none => mkAnd2 (mkImp (b = want) (run ((d, want) :: dec))) (mkImp (b = !want) (skip ((d, !want) :: dec)))
        | _, _ => .f
section
variable {P : Program} {ct : List (Con P)} {ops : Array Oper} {R : Nat}
theorem exO_cert {c : Ctx} {E : Env} : ∀ (l : List Oper) (s : St) (dec : List (Nat × Bool)) (a : Act) (w : World) (Y : SV), Inv c E s a w → DecOk dec s.fr → (exO P ct ops l s dec).den → exV P ct ops R l s dec = some Y →
    CertD P ops l s (fun s' => ∃ y b, s'.fr[R]? = some y ∧ asB y = some b ∧ asB Y = some b)
  | [], s, dec, _, _, Y, _, _, _, hY => by
    unfold exV at hY
    split at hY
    · rename_i h; simp at hY; subst hY; exact ⟨_, true, h, rfl, rfl⟩
    · rename_i h; simp at hY; subst hY; exact ⟨_, false, h, rfl, rfl⟩
    · rename_i b h; simp at hY; subst hY; exact ⟨_, b, h, rfl, rfl⟩
    · cases hY
  | o :: r, s, dec, a, w, Y, hinv, hd, hv, hY => by
    have next : ∀ {x : SV} {φ : Prop}, RunOk P ops o s x → (∀ v w', Inv c E s a w' → RelV (Reg c E s w') E w' x v → φ) → φ := by
      intro x φ hrun h
      have := hrun s rfl rfl rfl (fun _ _ => rfl) c E a w hinv (fun _ _ => φ) (fun _ _ _ => φ) h
      split at this
      · exact wp_const this
      · exact this
    have run : ∀ dec, ∀ Y, DecOk dec s.fr → (match uni P ct { s with fr := view dec (looks ops o) s.fr 0 } o.op with
        | some (none, x) => mknow o.op x (exO P ct ops r (s.put o.dst x) (drop2 dec o.dst))
        | some (some p, x) => mkOb p (mknow o.op x (exO P ct ops r (s.put o.dst x) (drop2 dec o.dst)))
        | none => .f).den → (match uni P ct { s with fr := view dec (looks ops o) s.fr 0 } o.op with
        | some (_, x) => exV P ct ops R r (s.put o.dst x) (drop2 dec o.dst)
        | none => none) = some Y → (∀ (s' : St) c E a w, (∀ t ∈ looks ops o, s'.fr[t]? = s.fr[t]?) → Inv c E s' a w → Region.wanted o (yielded ops a.tmps) = true) → CertD P ops (o :: r) s (fun s' => ∃ y b, s'.fr[R]? = some y ∧ asB y = some b ∧ asB Y = some b) := by
      intro dec Y hd hv hY hw
      split at hv
      · rename_i x hu
        rw [hu] at hY
        have hrun := run_of hd hu trivial hw
        exact next hrun (fun v w' hi hr => ⟨x, hrun, exO_cert r _ _ _ _ Y (hi.put o.dst hr) (hd.put _ _) (mknow_ok hv hr) hY⟩)
      · rename_i p x hu
        rw [hu] at hY
        obtain ⟨hp, hv⟩ := mkOb_ok hv
        have hrun := run_of hd hu hp hw
        exact next hrun (fun v w' hi hr => ⟨x, hrun, exO_cert r _ _ _ _ Y (hi.put o.dst hr) (hd.put _ _) (mknow_ok hv hr) hY⟩)
      · exact hv.elim
    have skip : ∀ dec, ∀ Y, DecOk dec s.fr → (exO P ct ops r (s.put o.dst (.tup [])) (drop2 dec o.dst)).den → exV P ct ops R r (s.put o.dst (.tup [])) (drop2 dec o.dst) = some Y → (∀ (s' : St) c E a w, (∀ t ∈ looks ops o, s'.fr[t]? = s.fr[t]?) → Inv c E s' a w → Region.wanted o (yielded ops a.tmps) = false) → CertD P ops (o :: r) s (fun s' => ∃ y b, s'.fr[R]? = some y ∧ asB y = some b ∧ asB Y = some b) :=
      fun dec Y hd hv hY hw => ⟨.tup [], skip_of hw, exO_cert r _ _ (a.put o.dst undef) w Y (hinv.put o.dst (x := .tup []) undef_rel) (hd.put _ _) hv hY⟩
    unfold exO at hv
    unfold exV at hY
    simp only at hv hY
    split at hv
    · rename_i hg
      rw [hg] at hY
      exact run dec Y hd hv hY (fun _ _ _ _ _ _ _ => by simp [Region.wanted, hg])
    · rename_i j want hg
      rw [hg] at hY
      simp only at hY
      split at hv
      · exact hv.elim
      · rename_i d hdst
        rw [hdst] at hY
        simp only at hY
        have hlook : d ∈ looks ops o := by simp [looks, hg, hdst]
        have want1 : ∀ b, s.fr[d]? = some (litB b) → ∀ (s' : St) c E a w, (∀ t ∈ looks ops o, s'.fr[t]? = s.fr[t]?) → Inv c E s' a w → Region.wanted o (yielded ops a.tmps) = (b == want) := fun b hb s' c E a w hag h => wanted_of hg hdst (h.known (by rw [hag d hlook]; exact hb))
        have want2 : ∀ b, s.fr[d]? = some (.bool b) → ∀ (s' : St) c E a w, (∀ t ∈ looks ops o, s'.fr[t]? = s.fr[t]?) → Inv c E s' a w → Region.wanted o (yielded ops a.tmps) = (b == want) := fun b hb s' c E a w hag h => wanted_of hg hdst (h.relit (by rw [hag d hlook]; exact hb)).2
        split at hv
        · rename_i hx
          rw [hx] at hY
          exact skip dec Y hd hv hY (fun s' c E a w hag h => wanted_undef hg hdst h (by rw [hag d hlook]; exact hx))
        · rename_i hx
          rw [hx] at hY
          have hw := want1 true hx
          cases want
          · exact skip dec Y hd hv hY hw
          · exact run dec Y hd hv hY hw
        · rename_i hx
          rw [hx] at hY
          have hw := want1 false hx
          cases want
          · exact run dec Y hd hv hY hw
          · exact skip dec Y hd hv hY hw
        · rename_i b b' hx hb'
          rw [hx, hb'] at hY
          have hbb : b = b' := hd d b' b hb' hx
          subst hbb
          have hw := want2 b hx
          cases b <;> cases want
          · exact run dec Y hd hv hY hw
          · exact skip dec Y hd hv hY hw
          · exact skip dec Y hd hv hY hw
          · exact run dec Y hd hv hY hw
        · rename_i b hx hb'
          rw [hx, hb'] at hY
          obtain ⟨hv1, hv2⟩ := mkAnd2_ok hv
          have hw := want2 b hx
          have hdec : ∀ b0, b = b0 → DecOk ((d, b0) :: dec) s.fr := by
            intro b0 hb0 k b1 b2 h1 h2
            rcases decOf_cons h1 with ⟨rfl, rfl⟩ | h1
            · rw [hx] at h2; simp at h2; rw [← h2, hb0]
            · exact hd k b1 b2 h1 h2
          simp only at hY
          split at hY
          · rename_i Y1 Y2 hY1 hY2
            have hmk := mkIf_ok hY
            by_cases hbw : b = want
            · rw [if_pos hbw] at hmk
              rw [hmk]
              refine run _ Y1 (hdec want hbw) (mkImp_ok hv1 hbw) hY1 (fun s' c E a w h1 h2 => ?_)
              rw [hw s' c E a w h1 h2, hbw]; simp
            · rw [if_neg hbw] at hmk
              rw [hmk]
              have hbw : b = !want := by cases b <;> cases want <;> simp_all
              refine skip _ Y2 (hdec (!want) hbw) (mkImp_ok hv2 hbw) hY2 (fun s' c E a w h1 h2 => ?_)
              rw [hw s' c E a w h1 h2, hbw]; cases want <;> rfl
          · cases hY
        · exact hv.elim
/-- The slots that a region writes are known no more. -/
def killF (ops : List Oper) : List SV → Nat → List SV
  | [], _ => []
  | x :: l, k => (match wrF k ops 0 with | some _ => .un | none => x) :: killF ops l (k + 1)
theorem killF_rel {S : Nat → Prop} {E : Env} {w : World} {all : List Oper} : ∀ {l : List SV} {vs : List Value} (k : Nat), (∀ i v y, vs[i]? = some v → l[i]? = some y → wrF (k + i) all 0 = none → RelV S E w y v) → vs.length = l.length → RelVs S E w (killF all l k) vs
  | [], vs, _, _, hl => List.eq_nil_of_length_eq_zero hl
  | x :: l, vs, k, h, hl => by
    match vs, hl with
    | v :: vs', hl =>
      refine ⟨v, vs', rfl, ?_, killF_rel (k + 1) (fun i v y h1 h2 h3 => h (i + 1) v y (by simpa using h1) (by simpa using h2) (by rw [← h3]; congr 1; omega)) (by simpa using hl)⟩
      cases hw : wrF k all 0 with
      | some _ => trivial
      | none => exact h 0 v x rfl rfl hw
/-- Inv at a frame of the region's end gives Inv where only the one Bool is known. -/
theorem Inv.met {c : Ctx} {E : Env} {s0 : St} {a : Act} {w : World} {zs : List SV} {L : Nat → Bool} {Y y : SV} {b : Bool} (h : Inv c E { s0 with fr := frL ops.toList zs L s0.fr } a w) (hy : (frL ops.toList zs L s0.fr)[R]? = some y) (hyb : asB y = some b) (hY : asB Y = some b) :
    Inv c E ({ s0 with fr := killF ops.toList s0.fr 0 }.put (some R) Y) a w := by
  have hl : a.tmps.toList.length = s0.fr.length := by rw [h.fr.length, frL_length]
  have hk : RelVs (Reg c E s0 w) E w (killF ops.toList s0.fr 0) a.tmps.toList := by
    refine killF_rel 0 (fun i v x h1 h2 h3 => ?_) hl
    rw [Nat.zero_add] at h3
    have : (frL ops.toList zs L s0.fr)[i]? = some x := by rw [frL_get, h2, Option.map_some, h3]
    obtain ⟨v', h4, h5⟩ := h.fr.get this
    rw [h1] at h4; simp at h4; subst h4
    exact h5
  obtain ⟨v, hv, hr⟩ := h.fr.get hy
  have hvb := asB_rel hyb hr
  refine ⟨h.os, h.tape, h.output, h.size, h.old, h.defers, ?_, h.nbx, h.nrw, h.bx, h.rw, h.inj, h.new, h.lent⟩
  exact hk.set_left R (fun u hu => by
    rw [hv] at hu; simp at hu; subst hu
    subst hvb
    cases Y <;> simp [asB] at hY <;> (subst hY; exact rfl))
def lastDst : List Oper → Option Nat
  | [] => none
  | [o] => o.dst
  | _ :: r => lastDst r
def anyGuard : List Oper → Bool
  | [] => false
  | o :: r => o.guard.isSome || anyGuard r
/-- A region with '&&' or '||', its ways met again: none where it is no such region. -/
def exM (P : Program) (ct : List (Con P)) (ops : Array Oper) (draw : Bool) (s : St) (K : St → VC) : Option VC :=
  bif anyGuard ops.toList && onceF ops.toList 0 ops.toList && (!draw || drawOk ops) then
    match lastDst ops.toList with
    | some R =>
      let s1 := bif callsGo ops.toList then preF (looksAll ops ops.toList) s else s
      match exV P ct ops R ops.toList s1 [] with
      | some Y => some (mkAnd2 (exO P ct ops ops.toList s1 []) (K ({ s1 with fr := killF ops.toList s1.fr 0 }.put (some R) Y)))
      | none => none
    | none => none
  else none
theorem cert_list {Q : Exit → Act → World → Prop} {c : Ctx} {F : St → Prop} : ∀ (l : List Oper) (s : St), CertD P ops l s F → (∀ s' E a w, (∃ xs : List SV, xs.length = l.length ∧ s' = (l.zip xs).foldl (fun s p => s.put p.1.dst p.2) s) → F s' → Inv c E s' a w → Q .normal a w) → ∀ E a w, Inv c E s a w → wpList P ops Q l a w
  | [], s, hc, hQ, E, a, w, h => hQ s E a w ⟨[], rfl, rfl⟩ hc h
  | o :: r, s, ⟨x, hrun, hc⟩, hQ, E, a, w, h => by
    have := hrun s rfl rfl rfl (fun _ _ => rfl) c E a w h (wpList P ops Q r) Q (fun v w' hi hr => by
      refine cert_list r (s.put o.dst x) hc (fun s' E a w ⟨xs, h1, h2⟩ hF hi => hQ s' E a w ⟨x :: xs, by simp [h1], by rw [h2]; rfl⟩ hF hi) E _ w' (hi.put o.dst hr))
    unfold wpList
    split at this
    · rename_i hw; rw [if_pos hw]; exact .inl this
    · rename_i hw; rw [if_neg hw]; exact this
theorem fold_frL {all : List Oper} (honce : onceF all 0 all = true) {s0 : St} : ∀ (l : List Oper) (k : Nat) (xs ys : List SV) (s : St), all.drop k = l → xs.length = k → ys.length = l.length → s.bx = s0.bx → s.rw = s0.rw → s.fr = frL all (xs ++ ys) (fun j => decide (j < k)) s0.fr →
    (l.zip ys).foldl (fun s p => s.put p.1.dst p.2) s = { s0 with fr := frL all (xs ++ ys) (fun j => decide (j < k + l.length)) s0.fr }
  | [], k, xs, ys, s, _, _, hy, hbx, hrw, hfr => by
    rw [List.zip_nil_left, List.foldl_nil, List.length_nil, Nat.add_zero, ← hfr, ← hbx, ← hrw]
  | o :: r, k, xs, ys, s, hl, hx, hy, hbx, hrw, hfr => by
    match ys, hy with
    | y :: ys', hy =>
      have ho : all[k]? = some o := by
        have := congrArg (·[0]?) hl
        simpa using this
      have h2 : (xs ++ y :: ys').getD k .un = y := by
        rw [List.getD_eq_getElem?_getD, List.getElem?_append_right (by omega), hx]; simp
      have h1 := frL_up (xs := xs ++ y :: ys') (L := fun j => decide (j < k)) (L' := fun j => decide (j < k + 1)) (fr := s0.fr) honce ho (fun j => by
        by_cases e : j = k
        · subst e; simp
        · rw [if_neg e]; congr 1; simp; omega) s hfr
      rw [h2] at h1
      have hput : (s.put o.dst y).bx = s0.bx ∧ (s.put o.dst y).rw = s0.rw := by
        cases o.dst <;> exact ⟨hbx, hrw⟩
      have := fold_frL honce r (k + 1) (xs ++ [y]) ys' (s.put o.dst y) (by rw [← List.drop_drop, hl]; rfl) (by simp [hx]) (by simpa using hy) hput.1 hput.2 (by rw [h1]; simp)
      rw [List.zip_cons_cons, List.foldl_cons, this]
      simp only [List.append_assoc, List.singleton_append, List.length_cons]
      congr 3
      funext j
      congr 2
      omega
theorem exM_ok {Q : Exit → Act → World → Prop} {K : St → VC} {c : Ctx} (hm : P.follows .mixedOrders = true) (hK : ∀ s E a w, Inv c E s a w → (K s).den → Q .normal a w) {draw : Bool} {id : Nat} {s : St} {V : VC} (hV : exM P ct ops draw s K = some V) (hv : V.den) {E : Env} {a : Act} {w : World} (h : Inv c E s a w) :
    (Code.region id ops draw).wp P Q a w := by
  unfold exM at hV
  cases hc : anyGuard ops.toList && onceF ops.toList 0 ops.toList && (!draw || drawOk ops) with
  | false => rw [hc] at hV; cases hV
  | true =>
    rw [hc] at hV
    simp only [cond_true] at hV
    simp only [Bool.and_eq_true, Bool.or_eq_true, Bool.not_eq_eq_eq_not, Bool.not_true] at hc
    obtain ⟨⟨_, honce⟩, hdr⟩ := hc
    split at hV
    · rename_i R hR
      have h' : Inv c E (bif callsGo ops.toList then preF (looksAll ops ops.toList) s else s) a w := by
        cases callsGo ops.toList
        · exact h
        · exact preF_ok h
      generalize (bif callsGo ops.toList then preF (looksAll ops ops.toList) s else s) = s1 at hV h'
      split at hV
      · rename_i Y hY
        simp at hV; subst hV
        obtain ⟨hv1, hv2⟩ := mkAnd2_ok hv
        have hcert := exO_cert ops.toList s1 [] a w Y h' (fun k b' b h1 _ => by simp [decOf] at h1) hv1 hY
        have fin : ∀ zs : List SV, ∀ L E a w, (∃ y b, (frL ops.toList zs L s1.fr)[R]? = some y ∧ asB y = some b ∧ asB Y = some b) → Inv c E { s1 with fr := frL ops.toList zs L s1.fr } a w → Q .normal a w := by
          rintro zs L E a w ⟨y, b, h1, h2, h3⟩ hi
          exact hK _ E a w (hi.met h1 h2 h3) hv2
        cases draw with
        | false =>
          refine wp_region_list (cert_list ops.toList s1 hcert ?_ E a w h')
          rintro s' E a w ⟨xs, hx, rfl⟩ hF hi
          have := fold_frL (s0 := s1) honce ops.toList 0 [] xs s1 rfl rfl hx rfl rfl (frL_none _ _ _ (fun j => by simp)).symm
          rw [this] at hF hi
          exact fin _ _ E a w hF hi
        | true =>
          have hd : drawOk ops = true := by
            rcases hdr with h1 | h1
            · cases h1
            · exact h1
          obtain ⟨zs, h1, h2, h3⟩ := cert_all (s0 := s1) honce ops.toList 0 [] s1 rfl rfl hcert rfl rfl (fun ys => (frL_none _ _ _ (fun j => by simp)).symm)
          simp only [List.nil_append, Nat.zero_add, Array.length_toList] at h2 h3
          refine wp_region_any hm ?_
          refine any_ok hd h2 (fun E a w hi => fin _ _ E a w h3 hi) ops.size _ E a w.drew (by simp) (by simp [count]) ?_
          have h4 : frL ops.toList zs (fun j => (Array.replicate ops.size false).getD j false) s1.fr = s1.fr := frL_none _ _ _ (fun j => by
            rw [Array.getD_eq_getD_getElem?, Array.getElem?_replicate]; split <;> rfl)
          rw [h4]
          exact h'.drew
      · cases hV
    · cases hV
end
end E
end Go.Proofs.YtbjapgekagljeaaDoor
