/- The walks of token.word, token.real, name.Check, number.IntText. -/
import Derived.Test.YtgkhnpldjdbmoaaGreatDoorC15
import Derived.Test.YtgkhnpldjdbmoaaGreatDoorC27
import Derived.Lib.SmallJoins
import Derived.Lib.AppendIntMem
set_option linter.unusedVariables false
set_option linter.unusedSimpArgs false
namespace Go.Proofs.YtgkhnpldjdbmoaaGreatDoor
open Go.RowKit

/-- What the library's variables hold, the table of the powers of ten among them. -/
structure EnvP (w : World) : Prop where
  env : Env w
  pow : Lib.TabIs Tryz.prog w "internal/strconv.uint64pow10" .u64 Lib.pow10Tab
theorem EnvP.below {w w1 : World} (h : EnvP w) (hb : Below w.heap.size w w1) : EnvP w1 :=
  ⟨h.env.below hb, Go.Joins.tab_stays (g := 1) (by kernel_rfl) h.pow hb (Nat.le_refl _)⟩
theorem str_ne_empty {s : ByteArray} (h : s.data.toList ≠ []) : s.toList.isEmpty = false := by
  rw [ByteArray.toList_eq]; cases hl : s.data.toList with
  | nil => exact absurd hl h
  | cons c l => rfl
set_option maxRecDepth 100000 in
set_option maxHeartbeats 2000000 in
theorem word_any (s : ByteArray) (w : World) (hs : s.size ≤ 140737488355328) (he : Env w) :
    Calls Tryz.prog 130 #[.string s] w fun e w' => e = .returned (strV (wordPut s.data.toList)) ∧ Below w.heap.size w w' := by
  have hz := size_list s
  have hRun : ∀ W, Calls Tryz.prog 122 #[.string s, .int .i64 0] W fun e w' => e = .returned (.int .i64 (run s.data.toList)) ∧ Below W.heap.size W w' := fun W =>
    (run_any s 0 W (by omega)).mono fun e w' ⟨h1, h2⟩ => ⟨by rw [h1, place0]; simp, h2⟩
  have HRun := Lib.hid hRun; clear hRun
  by_cases h0 : s.data.toList = []
  · obtain rfl : s = ⟨#[]⟩ := by apply ByteArray.ext; exact Array.toList_inj.1 h0
    have HR : Hid (wordPut ([] : Bytes) = ([], 2)) := Lib.hid (by unfold wordPut; simp)
    clear h0 hz
    go_enter Tryz.func130, Tryz.ntmps130
    go_wp2
    go_ret2
    exact ⟨by show _ = Ending.returned (strV (wordPut [])); rw [HR.out]; rfl, by (repeat' (first | (with_reducible exact Below.refl _ _) | (with_reducible assumption) | (with_reducible refine Below.alloc ?_ ?_ _) | (with_reducible refine below_drewN ?_ _) | (with_reducible refine Below.drew ?_) | (with_reducible refine Below.setCell ?_ ?_ _) | (with_reducible refine below_trans ?_ (by assumption)) | (with_reducible exact Nat.le_refl _) | (with_reducible exact Below.size (by assumption)) | omega | (simp; omega) | (simp; done)))⟩
  · have hne := str_ne_empty h0
    by_cases h1 : 127 < s.size
    · have HR : Hid (wordPut s.data.toList = ([], 2)) := Lib.hid (by unfold wordPut; rw [if_pos (.inr (.inl (by omega)))])
      have hd : (127 : Int) < (s.size : Int) := by omega
      clear hz h0
      go_enter Tryz.func130, Tryz.ntmps130
      go_wp2
      go_ret2
      exact ⟨by rw [HR.out]; rfl, by (repeat' (first | (with_reducible exact Below.refl _ _) | (with_reducible assumption) | (with_reducible refine Below.alloc ?_ ?_ _) | (with_reducible refine below_drewN ?_ _) | (with_reducible refine Below.drew ?_) | (with_reducible refine Below.setCell ?_ ?_ _) | (with_reducible refine below_trans ?_ (by assumption)) | (with_reducible exact Nat.le_refl _) | (with_reducible exact Below.size (by assumption)) | omega | (simp; omega) | (simp; done)))⟩
    · have hd : ¬ (127 : Int) < (s.size : Int) := by omega
      by_cases h2 : run s.data.toList = s.data.toList.length
      · have hq : (((run s.data.toList : Nat) : Int) != (s.size : Int)) = false := by simp; omega
        by_cases h3 : numKind s.data.toList = 0
        · have HR : Hid (wordPut s.data.toList = (s.data.toList, 0)) := Lib.hid (by unfold wordPut; rw [if_neg (by simp [h0, h2, h3]; omega)])
          have hk : (((numKind s.data.toList : Nat) : Int) != 0) = false := by simp; omega
          clear hz h0 h1 h2 h3
          go_enter Tryz.func130, Tryz.ntmps130
          go_wp2_with (first
            | (go_at_call 122; refine (HRun.out _).mono ?_; rintro e w1 ⟨rfl, hb1⟩; have he1 := he.below hb1)
            | (go_at_call 179; refine (kind_any s _ hs he1).mono ?_; rintro e w2 ⟨rfl, hb2⟩))
          go_ret2
          exact ⟨by rw [HR.out]; unfold strV; rw [list_bs]; rfl, by (repeat' (first | (with_reducible exact Below.refl _ _) | (with_reducible assumption) | (with_reducible refine Below.alloc ?_ ?_ _) | (with_reducible refine below_drewN ?_ _) | (with_reducible refine Below.drew ?_) | (with_reducible refine Below.setCell ?_ ?_ _) | (with_reducible refine below_trans ?_ (by assumption)) | (with_reducible exact Nat.le_refl _) | (with_reducible exact Below.size (by assumption)) | omega | (simp; omega) | (simp; done)))⟩
        · have HR : Hid (wordPut s.data.toList = ([], 2)) := Lib.hid (by unfold wordPut; rw [if_pos (.inr (.inr (.inr h3)))])
          have hk : (((numKind s.data.toList : Nat) : Int) != 0) = true := by simp; omega
          clear hz h0 h1 h2 h3
          go_enter Tryz.func130, Tryz.ntmps130
          go_wp2_with (first
            | (go_at_call 122; refine (HRun.out _).mono ?_; rintro e w1 ⟨rfl, hb1⟩; have he1 := he.below hb1)
            | (go_at_call 179; refine (kind_any s _ hs he1).mono ?_; rintro e w2 ⟨rfl, hb2⟩))
          go_ret2
          exact ⟨by rw [HR.out]; rfl, by (repeat' (first | (with_reducible exact Below.refl _ _) | (with_reducible assumption) | (with_reducible refine Below.alloc ?_ ?_ _) | (with_reducible refine below_drewN ?_ _) | (with_reducible refine Below.drew ?_) | (with_reducible refine Below.setCell ?_ ?_ _) | (with_reducible refine below_trans ?_ (by assumption)) | (with_reducible exact Nat.le_refl _) | (with_reducible exact Below.size (by assumption)) | omega | (simp; omega) | (simp; done)))⟩
      · have HR : Hid (wordPut s.data.toList = ([], 2)) := Lib.hid (by unfold wordPut; rw [if_pos (.inr (.inr (.inl h2)))])
        have hq : (((run s.data.toList : Nat) : Int) != (s.size : Int)) = true := by simp; omega
        clear hz h0 h1 h2
        go_enter Tryz.func130, Tryz.ntmps130
        go_wp2_with (go_at_call 122; refine (HRun.out _).mono ?_; rintro e w1 ⟨rfl, hb1⟩)
        go_ret2
        exact ⟨by rw [HR.out]; rfl, by (repeat' (first | (with_reducible exact Below.refl _ _) | (with_reducible assumption) | (with_reducible refine Below.alloc ?_ ?_ _) | (with_reducible refine below_drewN ?_ _) | (with_reducible refine Below.drew ?_) | (with_reducible refine Below.setCell ?_ ?_ _) | (with_reducible refine below_trans ?_ (by assumption)) | (with_reducible exact Nat.le_refl _) | (with_reducible exact Below.size (by assumption)) | omega | (simp; omega) | (simp; done)))⟩

set_option maxRecDepth 100000 in
set_option maxHeartbeats 2000000 in
theorem realPut_any (s : ByteArray) (w : World) (hs : s.size ≤ 140737488355328) (he : Env w) :
    Calls Tryz.prog 127 #[.string s] w fun e w' => e = .returned (strV (realPut s.data.toList)) ∧ Below w.heap.size w w' := by
  have hR := real_any s w hs he
  have HC := Lib.hid hR; clear hR
  rcases hr : numReal s.data.toList with ⟨x, n⟩
  rw [hr] at HC
  by_cases h1 : n = 0
  · subst h1
    by_cases h2 : x = s.data.toList
    · have HR : Hid (realPut s.data.toList = (s.data.toList, 0)) := Lib.hid (by unfold realPut; rw [hr]; simp [h2])
      have hx : bs x = s := by rw [h2, list_bs]
      rw [hx] at HC
      clear h2 hr hx
      go_enter Tryz.func127, Tryz.ntmps127
      go_wp2_with (go_at_call 144; refine HC.out.mono ?_; rintro e w1 ⟨rfl, hb1⟩)
      go_ret2
      exact ⟨by rw [HR.out]; unfold strV; rw [list_bs]; rfl, by (repeat' (first | (with_reducible exact Below.refl _ _) | (with_reducible assumption) | (with_reducible refine Below.alloc ?_ ?_ _) | (with_reducible refine below_drewN ?_ _) | (with_reducible refine Below.drew ?_) | (with_reducible refine Below.setCell ?_ ?_ _) | (with_reducible refine below_trans ?_ (by assumption)) | (with_reducible exact Nat.le_refl _) | (with_reducible exact Below.size (by assumption)) | omega | (simp; omega) | (simp; done)))⟩
    · have HR : Hid (realPut s.data.toList = ([], 2)) := Lib.hid (by unfold realPut; rw [hr]; simp [h2])
      have hx : ((bs x).toList == s.toList) = false := by rw [bs_toList, ByteArray.toList_eq]; simpa using h2
      clear h2 hr
      go_enter Tryz.func127, Tryz.ntmps127
      go_wp2_with (go_at_call 144; refine HC.out.mono ?_; rintro e w1 ⟨rfl, hb1⟩)
      go_ret2
      exact ⟨by rw [HR.out]; rfl, by (repeat' (first | (with_reducible exact Below.refl _ _) | (with_reducible assumption) | (with_reducible refine Below.alloc ?_ ?_ _) | (with_reducible refine below_drewN ?_ _) | (with_reducible refine Below.drew ?_) | (with_reducible refine Below.setCell ?_ ?_ _) | (with_reducible refine below_trans ?_ (by assumption)) | (with_reducible exact Nat.le_refl _) | (with_reducible exact Below.size (by assumption)) | omega | (simp; omega) | (simp; done)))⟩
  · have HR : Hid (realPut s.data.toList = ([], 2)) := Lib.hid (by unfold realPut; rw [hr]; simp [h1])
    have hn : ((n : Int) != 0) = true := by simp; omega
    clear hr h1
    go_enter Tryz.func127, Tryz.ntmps127
    go_wp2_with (go_at_call 144; refine HC.out.mono ?_; rintro e w1 ⟨rfl, hb1⟩)
    go_ret2
    exact ⟨by rw [HR.out]; rfl, by (repeat' (first | (with_reducible exact Below.refl _ _) | (with_reducible assumption) | (with_reducible refine Below.alloc ?_ ?_ _) | (with_reducible refine below_drewN ?_ _) | (with_reducible refine Below.drew ?_) | (with_reducible refine Below.setCell ?_ ?_ _) | (with_reducible refine below_trans ?_ (by assumption)) | (with_reducible exact Nat.le_refl _) | (with_reducible exact Below.size (by assumption)) | omega | (simp; omega) | (simp; done)))⟩

set_option maxRecDepth 100000 in
set_option maxHeartbeats 2000000 in
theorem intText_any (n : Int) (w : World) (h0 : -9223372036854775808 ≤ n) (h1 : n ≤ 9223372036854775807) (he : EnvP w) :
    Calls Tryz.prog 66 #[.int .i64 n] w fun e w' => e = .returned (strV (intText n)) ∧ Below w.heap.size w w' := by
  have hF := Tryz.strconv_FormatInt_10 n h0 h1 w he.pow
  have HF := Lib.hid hF; clear hF
  by_cases h2 : 2147483647 < n
  · have HR : Hid (intText n = ([], 3)) := Lib.hid (by unfold intText; rw [if_pos (.inl h2)])
    go_enter Tryz.func66, Tryz.ntmps66
    go_wp2
    go_ret2
    exact ⟨by rw [HR.out]; rfl, by (repeat' (first | (with_reducible exact Below.refl _ _) | (with_reducible assumption) | (with_reducible refine Below.alloc ?_ ?_ _) | (with_reducible refine below_drewN ?_ _) | (with_reducible refine Below.drew ?_) | (with_reducible refine Below.setCell ?_ ?_ _) | (with_reducible refine below_trans ?_ (by assumption)) | (with_reducible exact Nat.le_refl _) | (with_reducible exact Below.size (by assumption)) | omega | (simp; omega) | (simp; done)))⟩
  · by_cases h3 : n < -2147483647
    · have HR : Hid (intText n = ([], 3)) := Lib.hid (by unfold intText; rw [if_pos (.inr h3)])
      go_enter Tryz.func66, Tryz.ntmps66
      go_wp2
      go_ret2
      exact ⟨by rw [HR.out]; rfl, by (repeat' (first | (with_reducible exact Below.refl _ _) | (with_reducible assumption) | (with_reducible refine Below.alloc ?_ ?_ _) | (with_reducible refine below_drewN ?_ _) | (with_reducible refine Below.drew ?_) | (with_reducible refine Below.setCell ?_ ?_ _) | (with_reducible refine below_trans ?_ (by assumption)) | (with_reducible exact Nat.le_refl _) | (with_reducible exact Below.size (by assumption)) | omega | (simp; omega) | (simp; done)))⟩
    · have HR : Hid (intText n = (Lib.itoa n, 0)) := Lib.hid (by unfold intText; rw [if_neg (by omega)])
      go_enter Tryz.func66, Tryz.ntmps66
      go_wp2_with (go_at_call 131; refine HF.out.mono ?_; rintro e w1 ⟨rfl, k, os, rfl⟩)
      go_ret2
      exact ⟨by rw [HR.out]; rfl, Lib.below_grow _ _ (Nat.le_refl _) _ _⟩
end Go.Proofs.YtgkhnpldjdbmoaaGreatDoor
