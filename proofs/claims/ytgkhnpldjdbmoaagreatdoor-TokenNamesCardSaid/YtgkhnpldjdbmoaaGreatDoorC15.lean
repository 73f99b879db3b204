/- The walk of token.plain. -/
import Derived.Test.YtgkhnpldjdbmoaaGreatDoorC6
import Derived.Test.YtgkhnpldjdbmoaaGreatDoorC14
set_option linter.unusedVariables false
set_option linter.unusedSimpArgs false
namespace Go.Proofs.YtgkhnpldjdbmoaaGreatDoor
open Go.RowKit
--STUB
/-- A token as the program holds it. -/
def tokV (t : Tok) : Value := .agg #[.int .i64 (t.t.kind : Int), .int .i64 t.t.n, .string (bs t.t.s), .int .i64 (t.from_ : Int), .int .i64 (t.to : Int)]
def bare0 (t : T) : Tok := ⟨t, 0, 0⟩
def plainV (r : T × Nat) : Value := .tuple #[tokV (bare0 r.1), .int .i64 (r.2 : Int)]

theorem kind_is (s : ByteArray) (hs : s.size ≤ 140737488355328) (k : Nat) (K : Int) (hk : numKind s.data.toList = k) (hK : (k : Int) = K) (w : World) (he : Env w) :
    Calls Tryz.prog 179 #[.string s] w fun e w' => e = .returned (.int .i64 K) ∧ Below w.heap.size w w' :=
  (kind_any s w hs he).mono fun e w' ⟨h1, h2⟩ => ⟨by rw [h1, hk, hK], h2⟩

theorem heldSet {w2 w3 : World} {b i : Nat} {cs : Nat → Option Value} {v : Value} (h1 : ∀ j, w2.cell? ⟨b, j, none⟩ = cs j) (h2 : ∀ j, w2.frozen? ⟨b, j, none⟩ = false) (h3 : b + 1 ≤ w2.heap.size) (hi : (cs i).isSome = true)
    (hb : Below (w2.setCell ⟨b, i, none⟩ v).heap.size (w2.setCell ⟨b, i, none⟩ v) w3) :
    (∀ j, w3.cell? ⟨b, j, none⟩ = if j = i then some v else cs j) ∧ (∀ j, w3.frozen? ⟨b, j, none⟩ = false) ∧ b + 1 ≤ w3.heap.size := by
  have hz : (w2.setCell ⟨b, i, none⟩ v).heap.size = w2.heap.size := by simp
  refine ⟨fun j => ?_, fun j => ?_, by have := hb.size; omega⟩
  · rw [hb.cell (p := ⟨b, j, none⟩) (by simp; omega)]
    by_cases hj : j = i
    · subst hj; rw [if_pos rfl]; exact World.cell?_setCell_same' _ _ _ (by rw [h1]; exact hi)
    · have hne : (⟨b, i, none⟩ : Addr) ≠ ⟨b, j, none⟩ := fun h => hj (by injection h with _ h2; exact h2.symm)
      rw [if_neg hj]
      exact (World.cell?_setCell_other w2 _ _ v hne).trans (h1 j)
  · rw [hb.frozen (p := ⟨b, j, none⟩) (by simp; omega), World.frozen?_setCell, h2]

set_option maxRecDepth 100000 in
set_option maxHeartbeats 2000000 in
theorem plain_any (s : ByteArray) (w : World) (hs : s.size ≤ 4000000000) (he : Env w) : Calls Tryz.prog 124 #[.string s] w fun e w' => e = .returned (plainV (plainT s.data.toList)) ∧ Below w.heap.size w w' := by
  have hs := Nat.le_trans hs (show 4000000000 ≤ 140737488355328 by decide)
  have hz := size_list s
  by_cases h1 : numKind s.data.toList = 1
  · have hR : plainT s.data.toList = (⟨1, (numInt s.data.toList).1, []⟩, (numInt s.data.toList).2) := by unfold plainT; rw [if_pos h1]
    have HR := Lib.hid hR; clear hR
    have HK := Lib.hid h1; clear h1
    have hI := int_any s
    generalize numInt s.data.toList = X at *
    obtain ⟨n, e0⟩ := X
    have HI := Lib.hid hI; clear hI
    have HZ := Lib.hid hz; clear hz
    go_enter Tryz.func124, Tryz.ntmps124
    go_wp2_with (first
      | (go_at_call 179; refine (kind_is s hs 1 1 HK.out rfl _ (he.below (by (repeat' (first | (with_reducible exact Below.refl _ _) | (with_reducible assumption) | (with_reducible refine Below.alloc ?_ ?_ _) | (with_reducible refine below_drewN ?_ _) | (with_reducible refine Below.drew ?_) | (with_reducible refine Below.setCell ?_ ?_ _) | (with_reducible refine below_trans ?_ (by assumption)) | (with_reducible exact Nat.le_refl _) | (with_reducible exact Below.size (by assumption)) | omega | (simp; omega) | (simp; done)))))).mono ?_; rintro e w1 ⟨rfl, hb1⟩; obtain ⟨q1, q2, q3⟩ := held hb1)
      | (go_at_call 180; refine (HI.out _ hs (he.below (by (repeat' (first | (with_reducible exact Below.refl _ _) | (with_reducible assumption) | (with_reducible refine Below.alloc ?_ ?_ _) | (with_reducible refine below_drewN ?_ _) | (with_reducible refine Below.drew ?_) | (with_reducible refine Below.setCell ?_ ?_ _) | (with_reducible refine below_trans ?_ (by assumption)) | (with_reducible exact Nat.le_refl _) | (with_reducible exact Below.size (by assumption)) | omega | (simp; omega) | (simp; done)))))).mono ?_; rintro e w2 ⟨rfl, hb2⟩; obtain ⟨r1, r2, r3⟩ := heldSet q1 q2 q3 rfl hb2))
    rw [HR.out]
    refine bodyPost_ret (v := plainV (⟨1, n, []⟩, e0)) (by simp (maxDischargeDepth := 8) [results, Tryz.results124, go_sem, q1, q2, r1, r2, r3]; rfl) rfl ⟨rfl, by (repeat' (first | (with_reducible exact Below.refl _ _) | (with_reducible assumption) | (with_reducible refine Below.alloc ?_ ?_ _) | (with_reducible refine below_drewN ?_ _) | (with_reducible refine Below.drew ?_) | (with_reducible refine Below.setCell ?_ ?_ _) | (with_reducible refine below_trans ?_ (by assumption)) | (with_reducible exact Nat.le_refl _) | (with_reducible exact Below.size (by assumption)) | omega | (simp; omega) | (simp; done)))⟩
  · by_cases h2 : numKind s.data.toList = 2
    · have hR : plainT s.data.toList = (⟨2, 0, (numReal s.data.toList).1⟩, (numReal s.data.toList).2) := by unfold plainT; rw [if_neg h1, if_pos h2]
      have HR := Lib.hid hR; clear hR h1
      have HK := Lib.hid h2; clear h2
      have hI := real_any s
      generalize numReal s.data.toList = X at *
      obtain ⟨n, e0⟩ := X
      have HI := Lib.hid hI; clear hI
      have HZ := Lib.hid hz; clear hz
      go_enter Tryz.func124, Tryz.ntmps124
      go_wp2_with (first
        | (go_at_call 179; refine (kind_is s hs 2 2 HK.out rfl _ (he.below (by (repeat' (first | (with_reducible exact Below.refl _ _) | (with_reducible assumption) | (with_reducible refine Below.alloc ?_ ?_ _) | (with_reducible refine below_drewN ?_ _) | (with_reducible refine Below.drew ?_) | (with_reducible refine Below.setCell ?_ ?_ _) | (with_reducible refine below_trans ?_ (by assumption)) | (with_reducible exact Nat.le_refl _) | (with_reducible exact Below.size (by assumption)) | omega | (simp; omega) | (simp; done)))))).mono ?_; rintro e w1 ⟨rfl, hb1⟩; obtain ⟨q1, q2, q3⟩ := held hb1)
        | (go_at_call 144; refine (HI.out _ hs (he.below (by (repeat' (first | (with_reducible exact Below.refl _ _) | (with_reducible assumption) | (with_reducible refine Below.alloc ?_ ?_ _) | (with_reducible refine below_drewN ?_ _) | (with_reducible refine Below.drew ?_) | (with_reducible refine Below.setCell ?_ ?_ _) | (with_reducible refine below_trans ?_ (by assumption)) | (with_reducible exact Nat.le_refl _) | (with_reducible exact Below.size (by assumption)) | omega | (simp; omega) | (simp; done)))))).mono ?_; rintro e w2 ⟨rfl, hb2⟩; obtain ⟨r1, r2, r3⟩ := heldSet q1 q2 q3 rfl hb2))
      rw [HR.out]
      refine bodyPost_ret (v := plainV (⟨2, 0, n⟩, e0)) (by simp (maxDischargeDepth := 8) [results, Tryz.results124, go_sem, q1, q2, r1, r2, r3]; rfl) rfl ⟨rfl, by (repeat' (first | (with_reducible exact Below.refl _ _) | (with_reducible assumption) | (with_reducible refine Below.alloc ?_ ?_ _) | (with_reducible refine below_drewN ?_ _) | (with_reducible refine Below.drew ?_) | (with_reducible refine Below.setCell ?_ ?_ _) | (with_reducible refine below_trans ?_ (by assumption)) | (with_reducible exact Nat.le_refl _) | (with_reducible exact Below.size (by assumption)) | omega | (simp; omega) | (simp; done)))⟩
    · have hR : plainT s.data.toList = (⟨9, 0, s.data.toList⟩, if 127 < s.data.toList.length then 3 else 0) := by unfold plainT; rw [if_neg h1, if_neg h2]
      obtain ⟨K, hK⟩ : ∃ K, numKind s.data.toList = K := ⟨_, rfl⟩
      rw [hK] at h1 h2
      have hk1 : ((K : Int) == 1) = false := by simp; omega
      have hk2 : ((K : Int) == 2) = false := by simp; omega
      have HK := Lib.hid hK; clear hK h1 h2
      have hbs : s = bs s.data.toList := rfl
      have HB := Lib.hid hbs; clear hbs
      by_cases hl : 127 < s.size
      · have HR := Lib.hid (hR.trans (by rw [if_pos (by omega)])); clear hR
        have HZ := Lib.hid hz; clear hz
        go_enter Tryz.func124, Tryz.ntmps124
        go_wp2_with (go_at_call 179; refine (kind_is s hs K K HK.out rfl _ (he.below (by (repeat' (first | (with_reducible exact Below.refl _ _) | (with_reducible assumption) | (with_reducible refine Below.alloc ?_ ?_ _) | (with_reducible refine below_drewN ?_ _) | (with_reducible refine Below.drew ?_) | (with_reducible refine Below.setCell ?_ ?_ _) | (with_reducible refine below_trans ?_ (by assumption)) | (with_reducible exact Nat.le_refl _) | (with_reducible exact Below.size (by assumption)) | omega | (simp; omega) | (simp; done)))))).mono ?_; rintro e w1 ⟨rfl, hb1⟩; obtain ⟨q1, q2, q3⟩ := held hb1)
        rw [HR.out]
        refine bodyPost_ret (v := plainV (⟨9, 0, s.data.toList⟩, 3)) (by simp (maxDischargeDepth := 8) [results, Tryz.results124, go_sem, q1, q2]; rfl) rfl ⟨rfl, by (repeat' (first | (with_reducible exact Below.refl _ _) | (with_reducible assumption) | (with_reducible refine Below.alloc ?_ ?_ _) | (with_reducible refine below_drewN ?_ _) | (with_reducible refine Below.drew ?_) | (with_reducible refine Below.setCell ?_ ?_ _) | (with_reducible refine below_trans ?_ (by assumption)) | (with_reducible exact Nat.le_refl _) | (with_reducible exact Below.size (by assumption)) | omega | (simp; omega) | (simp; done)))⟩
      · have HR := Lib.hid (hR.trans (by rw [if_neg (by omega)])); clear hR
        have HZ := Lib.hid hz; clear hz
        go_enter Tryz.func124, Tryz.ntmps124
        go_wp2_with (go_at_call 179; refine (kind_is s hs K K HK.out rfl _ (he.below (by (repeat' (first | (with_reducible exact Below.refl _ _) | (with_reducible assumption) | (with_reducible refine Below.alloc ?_ ?_ _) | (with_reducible refine below_drewN ?_ _) | (with_reducible refine Below.drew ?_) | (with_reducible refine Below.setCell ?_ ?_ _) | (with_reducible refine below_trans ?_ (by assumption)) | (with_reducible exact Nat.le_refl _) | (with_reducible exact Below.size (by assumption)) | omega | (simp; omega) | (simp; done)))))).mono ?_; rintro e w1 ⟨rfl, hb1⟩; obtain ⟨q1, q2, q3⟩ := held hb1)
        rw [HR.out]
        refine bodyPost_ret (v := plainV (⟨9, 0, s.data.toList⟩, 0)) (by simp (maxDischargeDepth := 8) [results, Tryz.results124, go_sem, q1, q2]; rfl) rfl ⟨rfl, by (repeat' (first | (with_reducible exact Below.refl _ _) | (with_reducible assumption) | (with_reducible refine Below.alloc ?_ ?_ _) | (with_reducible refine below_drewN ?_ _) | (with_reducible refine Below.drew ?_) | (with_reducible refine Below.setCell ?_ ?_ _) | (with_reducible refine below_trans ?_ (by assumption)) | (with_reducible exact Nat.le_refl _) | (with_reducible exact Below.size (by assumption)) | omega | (simp; omega) | (simp; done)))⟩
end Go.Proofs.YtgkhnpldjdbmoaaGreatDoor
