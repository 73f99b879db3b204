/- The walks of token.part (all bytes) and token.Next. -/
import Derived.Test.YtgkhnpldjdbmoaaGreatDoorPartB
import Derived.Test.YtgkhnpldjdbmoaaGreatDoorPartC
import Derived.Test.YtgkhnpldjdbmoaaGreatDoorPartD
import Derived.Test.YtgkhnpldjdbmoaaGreatDoorPartF
set_option linter.unusedVariables false
set_option linter.unusedSimpArgs false
namespace Go.Proofs.YtgkhnpldjdbmoaaGreatDoor
open Go.RowKit

theorem part_any (s : ByteArray) (k : Nat) (w : World) (hs : s.size ≤ 4000000000) (hk : k < s.size) (he : Env w) :
    Calls Tryz.prog 60 #[.string s, .int .i64 k] w fun e w' => PartPost k (lex (s.data.toList.drop k)) e ∧ Below w.heap.size w w' := by
  cases h91 : s[k] == 91
  case true => exact part_open s k w hs hk he (eq_of_beq h91)
  cases h93 : s[k] == 93
  case true => exact part_close s k w hs hk he (eq_of_beq h93)
  cases h60 : s[k] == 60
  case true =>
    cases hp : pairB s k hk
    · exact part_hex s k w hs hk he (eq_of_beq h60) hp
    · exact part_dict s k w hs hk he (eq_of_beq h60) hp
  cases h62 : s[k] == 62
  case true =>
    cases hp : pairB s k hk
    · exact part_gt s k w hs hk he (eq_of_beq h62) hp
    · exact part_dictEnd s k w hs hk he (eq_of_beq h62) hp
  cases h41 : s[k] == 41
  case true => exact part_paren s k w hs hk he (eq_of_beq h41)
  cases h123 : s[k] == 123
  case true => exact part_brace s k w hs hk he (eq_of_beq h123)
  cases h125 : s[k] == 125
  case true => exact part_ecarb s k w hs hk he (eq_of_beq h125)
  cases h40 : s[k] == 40
  case true => exact part_lit s k w hs hk he (eq_of_beq h40)
  cases h47 : s[k] == 47
  case true => exact part_name s k w hs hk he (eq_of_beq h47)
  exact part_plain s k w hs hk he (by simp only [lits, h91, h93, h60, h62, h41, h123, h125, h40, h47]; rfl)

theorem one_new {W : World} {b : Nat} {v : Nat → Option Value} (h1 : ∀ j, W.cell? ⟨b, j, none⟩ = v j) (h2 : ∀ j, W.frozen? ⟨b, j, none⟩ = false) (h3 : b + 1 ≤ W.heap.size) :
    (∀ j o, (W.alloc o).cell? ⟨b, j, none⟩ = v j) ∧ (∀ j o, (W.alloc o).frozen? ⟨b, j, none⟩ = false) :=
  ⟨fun j o => by rw [((Below.refl W.heap.size W).alloc (Nat.le_refl _) o).cell (p := ⟨b, j, none⟩) (by simp; omega), h1],
   fun j o => by rw [((Below.refl W.heap.size W).alloc (Nat.le_refl _) o).frozen (p := ⟨b, j, none⟩) (by simp; omega), h2]⟩

def nextV (r : Tok × Nat) : Value := .tuple #[tokV r.1, .int .i64 (r.2 : Int)]

set_option maxRecDepth 100000 in
set_option maxHeartbeats 2000000 in
theorem next_any (s : ByteArray) (p : Nat) (w : World) (hs : s.size ≤ 4000000000) (hp : p ≤ s.size) (he : Env w) :
    Calls Tryz.prog 22 #[.string s, .int .i64 p] w fun e w' => e = .returned (nextV (nextAt s.data.toList p)) ∧ Below w.heap.size w w' := by
  have hz := size_list s
  have hle : skip (s.data.toList.drop p) ≤ s.size - p := by
    have := skip_le (s.data.toList.drop p); rw [List.length_drop] at this; omega
  have hS : ∀ W, Calls Tryz.prog 59 #[.string s, .int .i64 p] W fun e w' => e = .returned (.int .i64 ((p + skip (s.data.toList.drop p) : Nat) : Int)) ∧ Below W.heap.size W w' := fun W =>
    (skip_any s _ W (by omega)).mono fun e w' h => by rw [place_nat hp] at h; exact h
  have hN : nextAt s.data.toList p = if p + skip (s.data.toList.drop p) = s.size then (⟨⟨0, 0, []⟩, p + skip (s.data.toList.drop p), p + skip (s.data.toList.drop p)⟩, 0) else match lex (s.data.toList.drop (p + skip (s.data.toList.drop p))) with
    | .err e => (⟨⟨0, 0, []⟩, 0, 0⟩, e)
    | .ok t n => (⟨t, p + skip (s.data.toList.drop p), p + skip (s.data.toList.drop p) + n⟩, 0) := by unfold nextAt; rw [hz]; rfl
  obtain ⟨a, ha⟩ : ∃ a, p + skip (s.data.toList.drop p) = a := ⟨_, rfl⟩
  have haz : a ≤ s.size := by omega
  rw [ha] at hS
  simp only [ha] at hN
  have HS := Lib.hid hS; clear hS hle ha hz
  by_cases hend : a = s.size
  · have HN := Lib.hid (hN.trans (if_pos hend)); clear hN
    have hd : ((a : Int) == (s.size : Int)) = true := by simp; omega
    clear hend
    go_enter Tryz.func22, Tryz.ntmps22
    go_wp2_with (go_at_call 59; refine (HS.out _).mono ?_; rintro e w1 ⟨rfl, hb1⟩; obtain ⟨q1, q2, q3⟩ := held hb1)
    rw [HN.out]
    refine bodyPost_ret (v := .tuple #[.agg #[.int .i64 0, .int .i64 0, .string ⟨#[]⟩, .int .i64 a, .int .i64 a], .int .i64 0]) (by simp (maxDischargeDepth := 10) [results, Tryz.results22, go_sem, q1, q2, q3]) rfl ⟨rfl, by (repeat' (first | (with_reducible exact Below.refl _ _) | (with_reducible assumption) | (with_reducible refine Below.alloc ?_ ?_ _) | (with_reducible refine below_drewN ?_ _) | (with_reducible refine Below.drew ?_) | (with_reducible refine Below.setCell ?_ ?_ _) | (with_reducible refine below_trans ?_ (by assumption)) | (with_reducible exact Nat.le_refl _) | (with_reducible exact Below.size (by assumption)) | omega | (simp; omega) | (simp; done)))⟩
  · have HN := Lib.hid (hN.trans (if_neg hend)); clear hN
    have hd : ((a : Int) == (s.size : Int)) = false := by simp; omega
    have hlt : a < s.size := by omega
    have hne : ∀ e, lex (s.data.toList.drop a) = .err e → e ≠ 0 := fun e h => by rw [drop_at hlt] at h; exact lex_err h
    have hP := fun W (h : Env W) => part_any s a W hs hlt h
    clear hend
    cases hL : lex (s.data.toList.drop a) with
    | err e0 =>
      have h0 := hne e0 hL
      have hd2 : ((e0 : Int) != 0) = true := by simp; omega
      have HN2 := Lib.hid (HN.out.trans (by rw [hL])); clear HN
      have hP2 : ∀ W, Env W → Calls Tryz.prog 60 #[.string s, .int .i64 a] W fun e w' => (∃ t : Tok, e = .returned (.tuple #[tokV t, .int .i64 e0])) ∧ Below W.heap.size W w' := fun W hW => (hP W hW).mono fun e w' h => by
        obtain ⟨⟨t, h1, _⟩, h2⟩ := h
        rw [hL] at h1
        exact ⟨⟨t, h1⟩, h2⟩
      have HP := Lib.hid hP2; clear hP2 hP hne hL
      go_enter Tryz.func22, Tryz.ntmps22
      go_wp2_with (first
        | (go_at_call 59; refine (HS.out _).mono ?_; rintro e w1 ⟨rfl, hb1⟩; obtain ⟨q1, q2, q3⟩ := held hb1)
        | (go_at_call 60; refine (HP.out _ (he.below (by (repeat' (first | (with_reducible exact Below.refl _ _) | (with_reducible assumption) | (with_reducible refine Below.alloc ?_ ?_ _) | (with_reducible refine below_drewN ?_ _) | (with_reducible refine Below.drew ?_) | (with_reducible refine Below.setCell ?_ ?_ _) | (with_reducible refine below_trans ?_ (by assumption)) | (with_reducible exact Nat.le_refl _) | (with_reducible exact Below.size (by assumption)) | omega | (simp; omega) | (simp; done)))))).mono ?_; rintro e w2 ⟨⟨t, rfl⟩, hb2⟩; unfold tokV; obtain ⟨r1, r2, r3⟩ := later q1 q2 q3 hb2; obtain ⟨x1, x2⟩ := one_new r1 r2 r3))
      rw [HN2.out]
      refine bodyPost_ret (v := .tuple #[.agg #[.int .i64 0, .int .i64 0, .string ⟨#[]⟩, .int .i64 0, .int .i64 0], .int .i64 e0]) (by simp (maxDischargeDepth := 10) [results, Tryz.results22, go_sem, x1, x2, r1, r2, r3]) rfl ⟨rfl, by (repeat' (first | (with_reducible exact Below.refl _ _) | (with_reducible assumption) | (with_reducible refine Below.alloc ?_ ?_ _) | (with_reducible refine below_drewN ?_ _) | (with_reducible refine Below.drew ?_) | (with_reducible refine Below.setCell ?_ ?_ _) | (with_reducible refine below_trans ?_ (by assumption)) | (with_reducible exact Nat.le_refl _) | (with_reducible exact Below.size (by assumption)) | omega | (simp; omega) | (simp; done)))⟩
    | ok T n =>
      have HN2 := Lib.hid (HN.out.trans (by rw [hL])); clear HN
      have hP2 : ∀ W, Env W → Calls Tryz.prog 60 #[.string s, .int .i64 a] W fun e w' => (e = .returned (.tuple #[tokV ⟨T, a, a + n⟩, .int .i64 0])) ∧ Below W.heap.size W w' := fun W hW => (hP W hW).mono fun e w' h => by
        obtain ⟨⟨t, h1, h3⟩, h2⟩ := h
        rw [h3 T n hL, hL] at h1
        exact ⟨h1, h2⟩
      have HP := Lib.hid hP2; clear hP2 hP hne hL
      obtain ⟨kd, x, v⟩ := T
      go_enter Tryz.func22, Tryz.ntmps22
      go_wp2_with (first
        | (go_at_call 59; refine (HS.out _).mono ?_; rintro e w1 ⟨rfl, hb1⟩; obtain ⟨q1, q2, q3⟩ := held hb1)
        | (go_at_call 60; refine (HP.out _ (he.below (by (repeat' (first | (with_reducible exact Below.refl _ _) | (with_reducible assumption) | (with_reducible refine Below.alloc ?_ ?_ _) | (with_reducible refine below_drewN ?_ _) | (with_reducible refine Below.drew ?_) | (with_reducible refine Below.setCell ?_ ?_ _) | (with_reducible refine below_trans ?_ (by assumption)) | (with_reducible exact Nat.le_refl _) | (with_reducible exact Below.size (by assumption)) | omega | (simp; omega) | (simp; done)))))).mono ?_; rintro e w2 ⟨rfl, hb2⟩; unfold tokV; dsimp only; obtain ⟨r1, r2, r3⟩ := later q1 q2 q3 hb2; obtain ⟨x1, x2⟩ := one_new r1 r2 r3))
      rw [HN2.out]
      refine bodyPost_ret (v := .tuple #[.agg #[.int .i64 kd, .int .i64 x, .string (bs v), .int .i64 a, .int .i64 ((a : Int) + n)], .int .i64 0]) (by simp (maxDischargeDepth := 10) [results, Tryz.results22, go_sem, x1, x2, r1, r2, r3]) rfl ⟨rfl, by (repeat' (first | (with_reducible exact Below.refl _ _) | (with_reducible assumption) | (with_reducible refine Below.alloc ?_ ?_ _) | (with_reducible refine below_drewN ?_ _) | (with_reducible refine Below.drew ?_) | (with_reducible refine Below.setCell ?_ ?_ _) | (with_reducible refine below_trans ?_ (by assumption)) | (with_reducible exact Nat.le_refl _) | (with_reducible exact Below.size (by assumption)) | omega | (simp; omega) | (simp; done)))⟩
end Go.Proofs.YtgkhnpldjdbmoaaGreatDoor
