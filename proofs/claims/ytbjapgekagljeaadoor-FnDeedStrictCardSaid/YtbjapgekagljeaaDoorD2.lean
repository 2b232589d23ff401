/- DeedText of the program returns what the plain function 'txt' says, for every deed. -/
import Derived.Test.YtbjapgekagljeaaDoorD1
import Derived.Test.YtbjapgekagljeaaDoorShelf
import Derived.Deep.DeepFit
import Derived.LoopTactic
import Derived.Deep.DeepCutAuto
import Derived.Deep.LoopGhost
import Derived.Laws.EntriesVeiled
namespace Go.Proofs.YtbjapgekagljeaaDoor
open Go Go.RowKit
namespace D2
open D0 D1
theorem table_at (g : Nat) (k : Int) (h1 : 1 ≤ k) (h2 : k ≤ 10) (w : World) : (Instr.index 43 (.agg (table g)) (.int .i64 k)).run Tryd.prog w = .ok (.agg #[.string ⟨(name k).toArray⟩, .int .i64 (size k), .func (.func (fid k)) #[.pointer (some ⟨g, 0, none⟩)] #[]]) w := by
  have h : k = 1 ∨ k = 2 ∨ k = 3 ∨ k = 4 ∨ k = 5 ∨ k = 6 ∨ k = 7 ∨ k = 8 ∨ k = 9 ∨ k = 10 := by omega
  rcases h with rfl | rfl | rfl | rfl | rfl | rfl | rfl | rfl | rfl | rfl <;> (show _ = _; kernel_rfl)
/-- One number's part. -/
def part (x : Int) : List UInt8 := 32 :: Lib.decDigits x.toNat
def bad (p s x : Int) : Bool := (decide (s ≤ p) && x != 0) || decide (x < 0) || decide (99 < x)
def txt (k a b : Int) : List UInt8 :=
  if k < 1 ∨ 10 < k then [] else if bad 0 (size k) a then [] else if bad 1 (size k) b then []
  else name k ++ (if 0 < size k then part a else []) ++ (if 1 < size k then part b else [])
def T (k a b : Int) (n : Nat) : List UInt8 := name k ++ (if 1 ≤ n ∧ 0 < size k then part a else []) ++ (if 2 ≤ n ∧ 1 < size k then part b else [])
theorem itoa (n : Int) (h0 : 0 ≤ n) (h1 : n ≤ 99) (w : World) : Calls Tryd.prog 19 #[.int .i64 n] w fun e w' => e = .returned (.string ⟨(Lib.decDigits n.toNat).toArray⟩) ∧ w = w' := by
  obtain ⟨m, rfl⟩ := Int.eq_ofNat_of_zero_le h0
  exact (Tryd.strconv_Itoa_small m (by omega) w).mono fun e w' h => ⟨by rw [h.1]; rfl, h.2.symm⟩
theorem dec_small : ∀ n : Nat, n < 100 → (Lib.decDigits n).length ≤ 2 := by decide +kernel
theorem dec_len (x : Int) (h : x ≤ 99) : (Lib.decDigits x.toNat).length ≤ 2 := dec_small _ (by omega)
theorem name_len (k : Int) : (name k).length ≤ 6 := by
  unfold name
  repeat' split
  all_goals simp
theorem T_len0 (k a b : Int) : (T k a b 0).length ≤ 6 := by simpa [T] using name_len k
theorem T_len1 (k a b : Int) (h : bad 0 (size k) a = false) : (T k a b 1).length ≤ 9 := by
  have h1 := name_len k
  have h2 : a ≤ 99 := by simp [bad] at h; omega
  have h3 := dec_len a h2
  unfold T part
  simp only [List.length_append]
  repeat' split
  all_goals simp_all
  all_goals omega
theorem T_step0 (k a b : Int) : T k a b 1 = T k a b 0 ++ (if 0 < size k then part a else []) := by simp [T]
theorem txt_bad0 (k a b : Int) (h : bad 0 (size k) a = true) : txt k a b = [] := by unfold txt; rw [h]; simp
theorem T_step1 (k a b : Int) : T k a b 2 = T k a b 1 ++ (if 1 < size k then part b else []) := by simp [T]
theorem txt_bad1 (k a b : Int) (h0 : bad 0 (size k) a = false) (h : bad 1 (size k) b = true) : txt k a b = [] := by unfold txt; rw [h0, h]; simp
theorem txt_good (k a b : Int) (h1 : 1 ≤ k) (h2 : k ≤ 10) (h3 : bad 0 (size k) a = false) (h4 : bad 1 (size k) b = false) : txt k a b = T k a b 2 := by
  unfold txt T; rw [h3, h4, if_neg (by omega)]; simp
theorem cat_part (t : List UInt8) (x : Int) : Value.string ((⟨t.toArray⟩ : ByteArray) ++ ((⟨#[32]⟩ : ByteArray) ++ ⟨(Lib.decDigits x.toNat).toArray⟩)) = Value.string ⟨(t ++ part x).toArray⟩ := by
  have h : ((⟨t.toArray⟩ : ByteArray) ++ ((⟨#[32]⟩ : ByteArray) ++ ⟨(Lib.decDigits x.toNat).toArray⟩)) = ⟨(t ++ part x).toArray⟩ := by
    apply ByteArray.ext
    simp [part]
  rw [h]
theorem text_no (k a b : Int) (w : World) (h : k < 1 ∨ 10 < k) : Calls Tryd.prog 9 #[.agg #[.int .i64 k, .int .i64 a, .int .i64 b]] w (Gives (.string ⟨#[]⟩) w) := by
  rcases h with h | h
  · go_enter Tryd.func9, Tryd.ntmps9
    go_wp2
    go_ret
    exact ⟨rfl, (Below.refl _ _).alloc (by simp) _⟩
  · have h' : ¬ k < 1 := by omega
    go_enter Tryd.func9, Tryd.ntmps9
    go_wp2
    go_ret
    exact ⟨rfl, (Below.refl _ _).alloc (by simp) _⟩
set_option maxHeartbeats 2000000 in
theorem text_yes (k a b : Int) (w : World) (h1 : 1 ≤ k) (h2 : k ≤ 10) : Calls Tryd.prog 9 #[.agg #[.int .i64 k, .int .i64 a, .int .i64 b]] w (Gives (.string ⟨(txt k a b).toArray⟩) w) := by
  have h3 : ¬ k < 1 := by omega
  have h4 : ¬ 10 < k := by omega
  have hix := fun g => table_at g k h1 h2
  go_enter Tryd.func9, Tryd.ntmps9
  go_upto_region 3 with (fail)
  go_cut [3] (fun s3 wx => ∃ g : Nat, s3 = .pointer (some ⟨g, 0, none⟩) ∧ wx.cell? ⟨g, 0, none⟩ = some (.string ⟨(name k).toArray⟩) ∧ wx.cell? ⟨g, 1, none⟩ = some (.int .i64 (size k)) ∧ wx.cell? ⟨w.heap.size, 1, none⟩ = some (.int .i64 a) ∧ wx.cell? ⟨w.heap.size, 2, none⟩ = some (.int .i64 b) ∧ Below w.heap.size w wx)
  case first =>
    go_region_with (go_at_call 18; go_must (refine (deedWords _ _).mono ?_; rintro e w1 ⟨rfl, hb⟩; obtain ⟨hc, hf⟩ := bcell hb; have hz := hb.size; simp at hz; have hz1 : w.heap.size < w1.heap.size := (by omega); have hz2 : ¬ w.heap.size = w1.heap.size := (by omega); have hz3 : ¬ w.heap.size = w1.heap.size + 1 := (by omega)))
    all_goals (go_wp2_with fail; go_meet)
    all_goals
      refine ⟨_, rfl, ?_, ?_, ?_, ?_, ?_⟩
      iterate 4 (· go_simp)
      repeat (first | exact Below.refl _ _ | refine b_alloc ?_ _ | refine b_drew ?_ | refine b_set ?_ _ _ _ (by omega) | refine b_then ?_ hb)
  case rest =>
    obtain ⟨g, rfl, hg0, hg1, ha, hb, HB⟩ := hcut
    have i0 : ∀ w, (Instr.index 48 (.agg #[.int .i64 a, .int .i64 b]) (.int .i64 0)).run Tryd.prog w = .ok (.int .i64 a) w := fun _ => by kernel_rfl
    have i1 : ∀ w, (Instr.index 48 (.agg #[.int .i64 a, .int .i64 b]) (.int .i64 1)).run Tryd.prog w = .ok (.int .i64 b) w := fun _ => by kernel_rfl
    go_wp2_with fail
    go_loop [4, 27] (fun t i => ∃ n : Nat, n ≤ 2 ∧ i = .int .i64 n ∧ t = .string ⟨(T k a b n).toArray⟩ ∧ (1 ≤ n → bad 0 (size k) a = false) ∧ (2 ≤ n → bad 1 (size k) b = false)) (fun _ i => 2 - (intOf i).toNat)
    case atStart => exact ⟨0, by omega, rfl, by simp [T], by omega, by omega⟩
    case round =>
      obtain ⟨n, hn, rfl, rfl, hg1, hg2⟩ := hrel
      have h : n = 0 ∨ n = 1 ∨ n = 2 := by omega
      rcases h with rfl | rfl | rfl
      · have hl0 := T_len0 k a b
        have hl1 := dec_len a
        have e1 := T_step0 k a b
        generalize ht : T k a b 0 = t0 at *
        generalize hs : size k = s at *
        have Ht := Lib.hid ht
        have Hs := Lib.hid hs
        have E1 := Lib.hid e1
        clear ht hs e1 hg1 hg2
        go_wp2_with (go_at_call 19; go_must (refine (itoa _ (by omega) (by omega) _).mono ?_; rintro e w' ⟨rfl, rfl⟩))
        all_goals first
          | (go_ret; refine ⟨?_, HB⟩; rw [txt_bad0 k a b (by rw [Hs.out]; simp_all [bad])]; rfl)
          | (refine ⟨⟨1, by omega, rfl, ?_, fun _ => by simp_all [bad] <;> omega, by omega⟩, by simp [intOf]⟩; rw [E1.out]; first | (rw [if_pos (by assumption)]; exact cat_part t0 a) | (rw [if_neg (by omega)]; simp))
      · have hl0 := T_len1 k a b (hg1 (by omega))
        have hl1 := dec_len b
        have e1 := T_step1 k a b
        have hg0 := hg1 (by omega)
        generalize ht : T k a b 1 = t0 at *
        generalize hs : size k = s at *
        have Ht := Lib.hid ht
        have Hs := Lib.hid hs
        have E1 := Lib.hid e1
        have HG := Lib.hid hg0
        clear ht hs e1 hg1 hg2 hg0
        go_wp2_with (go_at_call 19; go_must (refine (itoa _ (by omega) (by omega) _).mono ?_; rintro e w' ⟨rfl, rfl⟩))
        all_goals first
          | (go_ret; refine ⟨?_, HB⟩; rw [txt_bad1 k a b (by rw [Hs.out]; exact HG.out) (by rw [Hs.out]; simp_all [bad])]; rfl)
          | (refine ⟨⟨2, by omega, rfl, ?_, fun _ => HG.out, fun _ => by simp_all [bad] <;> omega⟩, by simp [intOf]⟩; rw [E1.out]; first | (rw [if_pos (by assumption)]; exact cat_part t0 b) | (rw [if_neg (by omega)]; simp))
      · have e1 := txt_good k a b h1 h2 (hg1 (by omega)) (hg2 (by omega))
        generalize ht : T k a b 2 = t0 at *
        have E1 := Lib.hid e1
        clear ht e1 hg1 hg2
        go_wp2_with fail
        go_ret
        exact ⟨by rw [E1.out]; rfl, HB⟩
end D2
end Go.Proofs.YtbjapgekagljeaaDoor
