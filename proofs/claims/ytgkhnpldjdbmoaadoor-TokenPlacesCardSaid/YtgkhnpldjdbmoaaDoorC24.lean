/- The walks of the reference's place, White and Skip. -/
import Derived.Test.YtgkhnpldjdbmoaaDoorC11
set_option linter.unusedVariables false
set_option linter.unusedSimpArgs false
namespace Go.Proofs.YtgkhnpldjdbmoaaDoor
open Go.RowKit

set_option maxRecDepth 100000 in
set_option maxHeartbeats 2000000 in
theorem refPlace_any (s : ByteArray) (i : Int) (w : World) (hs : s.size ≤ 4000000000) : Calls Tryd.prog 14 #[.string s, .int .i64 i] w fun e w' => e = .returned (.int .i64 (place s.size i)) ∧ w = w' := by
  go_enter Tryd.func14, Tryd.ntmps14
  go_wp2
  all_goals
    go_ret
    exact ⟨ret_int (by unfold place; split <;> omega), rfl⟩

theorem white_nat (b : UInt8) : isWhite b = decide (b.toNat = 0 ∨ b.toNat = 9 ∨ b.toNat = 10 ∨ b.toNat = 12 ∨ b.toNat = 13 ∨ b.toNat = 32) := by
  have h : ∀ c : UInt8, (b == c) = decide (b.toNat = c.toNat) := fun c => by
    by_cases hc : b = c
    · subst hc; simp
    · have : ¬ b.toNat = c.toNat := fun h => hc (UInt8.toNat_inj.1 h)
      simp [hc, this]
  simp only [isWhite, h]
  rw [Bool.eq_iff_iff]
  simp [or_assoc]

set_option maxRecDepth 100000 in
set_option maxHeartbeats 2000000 in
theorem refWhite_any (b : UInt8) (w : World) : Calls Tryd.prog 15 #[.int .u8 b.toNat] w fun e w' => e = .returned (.bool (isWhite b)) ∧ w = w' := by
  have HWN := Lib.hid (white_nat b)
  go_enter Tryd.func15, Tryd.ntmps15
  go_wp2
  all_goals
    go_ret
    exact ⟨ret_bool (by rw [HWN.out, Bool.eq_iff_iff]; simp only [decide_eq_true_eq, Bool.or_eq_true, beq_iff_eq, eq_self_iff_true, true_iff, iff_true]; omega), rfl⟩

set_option maxRecDepth 100000 in
set_option maxHeartbeats 4000000 in
theorem refSkip_any (s : ByteArray) (i : Int) (w : World) (hs : s.size ≤ 4000000000) : Calls Tryd.prog 8 #[.string s, .int .i64 i] w fun e w' => e = .returned (.int .i64 ((place s.size i + skip (s.data.toList.drop (place s.size i)) : Nat) : Int)) ∧ w' = w := by
  have hp := place_le s.size i
  go_enter Tryd.func8, Tryd.ntmps8
  go_wp2_with (go_at_call 14; refine (refPlace_any _ _ _ hs).mono ?_; rintro e w1 ⟨rfl, rfl⟩)
  go_loopw [1] (fun a wr => ∃ k : Nat, k ≤ s.size ∧ a = .int .i64 k ∧ w = wr ∧ k + skip (s.data.toList.drop k) = place s.size i + skip (s.data.toList.drop (place s.size i))) (fun a _ => s.size - (intOf a).toNat)
  case atStart => exact ⟨_, hp, rfl, rfl, rfl⟩
  case round =>
    obtain ⟨k, hk, rfl, rfl, heq⟩ := hrel
    have HE := Lib.hid heq; clear heq
    by_cases hlt : k < s.size
    · have hd := drop_at hlt
      have ix := index_str s (k : Int) k rfl hlt
      have g1 : decide ((k : Int) < 0) = false := by simp
      have g2 : decide (s.size ≤ k) = false := by simp; omega
      have g3 : decide ((s.size : Int) ≤ (k : Int)) = false := by simp; omega
      have g4 : decide ((k : Int) < (s.size : Int)) = true := by simp; omega
      have s1 : IntKind.i64.wrap ((k : Int) + 1) = (k : Int) + 1 := IntWalk.i64_in _ (by omega)
      by_cases hr : isWhite s[k] = true
      · have HX : Hid (k + 1 + skip (s.data.toList.drop (k + 1)) = place s.size i + skip (s.data.toList.drop (place s.size i))) := Lib.hid (by rw [← HE.out, hd]; simp [skip, skipR, hr]; omega)
        have HW := Lib.hid hr
        clear hd hr
        go_wp2_with (go_at_call 15; refine (refWhite_any _ _).mono ?_; rintro e w1 ⟨rfl, rfl⟩; rw [HW.out])
        go_roundw
        case rel => exact ⟨k + 1, by omega, by go_num, (by simp), HX.out⟩
        case measure => simp [intOf]; omega
      · replace hr : isWhite s[k] = false := by simpa using hr
        by_cases h37 : (s[k] == 37) = true
        · have hX : k + skipR true (s.data.toList.drop k) = place s.size i + skip (s.data.toList.drop (place s.size i)) := by
            rw [← HE.out, hd]
            simp only [skip, skipR, hr, h37, if_true, Bool.false_eq_true, if_false]
            rw [if_neg (by simp only [beq_iff_eq] at h37; rw [h37]; decide)]
          have HX := Lib.hid hX; clear hX hd
          have HW := Lib.hid hr; clear hr
          have t37 := is_lit 37 37 rfl h37
          have H37 := Lib.hid h37; clear h37
          go_wp2_with (go_at_call 15; refine (refWhite_any _ _).mono ?_; rintro e w1 ⟨rfl, rfl⟩; rw [HW.out])
          clear ix g1 g2 g3 g4 s1 t37
          go_loopw [1] (fun a wr => ∃ j : Nat, k ≤ j ∧ j ≤ s.size ∧ a = .int .i64 j ∧ w = wr ∧ j + skipR true (s.data.toList.drop j) = place s.size i + skip (s.data.toList.drop (place s.size i))) (fun a _ => s.size - (intOf a).toNat)
          case atStart => exact ⟨k, Nat.le_refl _, hk, rfl, rfl, HX.out⟩
          case round =>
            obtain ⟨j, hkj, hj, rfl, rfl, heqj⟩ := hrel
            by_cases hlt2 : j < s.size
            · have hdj := drop_at hlt2
              have ix := index_str s (j : Int) j rfl hlt2
              have g1 : decide ((j : Int) < 0) = false := by simp
              have g2 : decide (s.size ≤ j) = false := by simp; omega
              have g3 : decide ((s.size : Int) ≤ (j : Int)) = false := by simp; omega
              have g4 : decide ((j : Int) < (s.size : Int)) = true := by simp; omega
              have s1 : IntKind.i64.wrap ((j : Int) + 1) = (j : Int) + 1 := IntWalk.i64_in _ (by omega)
              cases he : isEol s[j] with
              | false =>
                have hX : j + 1 + skipR true (s.data.toList.drop (j + 1)) = place s.size i + skip (s.data.toList.drop (place s.size i)) := by
                  rw [← heqj, hdj]
                  simp only [skipR, he, Bool.false_eq_true, if_false]; omega
                have HX := Lib.hid hX
                have h10 : (s[j] == 10) = false := by simp only [isEol, Bool.or_eq_false_iff] at he; exact he.1
                have h13 : (s[j] == 13) = false := by simp only [isEol, Bool.or_eq_false_iff] at he; exact he.2
                have t10 : (((s[j].toNat : Int)) != 10) = true := by have := not_lit 10 10 rfl h10; simp at this ⊢; exact this
                have t13 : (((s[j].toNat : Int)) != 13) = true := by have := not_lit 13 13 rfl h13; simp at this ⊢; exact this
                clear hX heqj hdj he h10 h13
                go_wp2
                go_roundw
                case rel => exact ⟨j + 1, by omega, by omega, by go_num, (by simp), HX.out⟩
                case measure => simp [intOf]; omega
              | true =>
                have hX : j + skip (s.data.toList.drop j) = place s.size i + skip (s.data.toList.drop (place s.size i)) := by
                  rw [← heqj, hdj]
                  simp only [skip, skipR, he, eol_white he, if_true]
                have hkj2 : k < j := by
                  rcases Nat.lt_or_eq_of_le hkj with h | h
                  · exact h
                  · subst h; have := H37.out; simp only [beq_iff_eq] at this; rw [this] at he; simp [isEol] at he
                have HX := Lib.hid hX
                cases h10 : (s[j] == 10) with
                | true =>
                  have t10 : (((s[j].toNat : Int)) != 10) = false := by have := is_lit 10 10 rfl h10; simp at this ⊢; exact this
                  clear hX heqj hdj he h10
                  go_wp2
                  go_roundw
                  case rel => exact ⟨j, by omega, rfl, (by simp), HX.out⟩
                  case measure => simp [intOf]; omega
                | false =>
                  have h13 : (s[j] == 13) = true := by simp only [isEol, h10, Bool.false_or] at he; exact he
                  have t10 : (((s[j].toNat : Int)) != 10) = true := by have := not_lit 10 10 rfl h10; simp at this ⊢; exact this
                  have t13 : (((s[j].toNat : Int)) != 13) = false := by have := is_lit 13 13 rfl h13; simp at this ⊢; exact this
                  clear hX heqj hdj he h10 h13
                  go_wp2
                  go_roundw
                  case rel => exact ⟨j, by omega, rfl, (by simp), HX.out⟩
                  case measure => simp [intOf]; omega
            · have hX : j + skip (s.data.toList.drop j) = place s.size i + skip (s.data.toList.drop (place s.size i)) := by
                rw [← heqj, drop_end (by omega)]; simp [skip, skipR]
              have g4 : decide ((j : Int) < (s.size : Int)) = false := by simp; omega
              have HX := Lib.hid hX
              clear hX heqj
              go_wp2
              go_roundw
              case rel => exact ⟨j, by omega, rfl, (by simp), HX.out⟩
              case measure => simp [intOf]; omega
        · replace h37 : (s[k] == 37) = false := by simpa using h37
          have HX : Hid (k = place s.size i + skip (s.data.toList.drop (place s.size i))) := Lib.hid (by
            rw [← HE.out, hd]; simp only [skip, skipR, hr, h37, Bool.false_eq_true, if_false]; omega)
          have t37 := not_lit 37 37 rfl h37
          have HW := Lib.hid hr
          clear hd h37 hr
          go_wp2_with (go_at_call 15; refine (refWhite_any _ _).mono ?_; rintro e w1 ⟨rfl, rfl⟩; rw [HW.out])
          go_ret
          exact ⟨ret_int (by rw [← HX.out]), rfl⟩
    · have hd := drop_end (s := s) (k := k) (by omega)
      have g4 : decide ((k : Int) < (s.size : Int)) = false := by simp; omega
      have HX : Hid (k = place s.size i + skip (s.data.toList.drop (place s.size i))) := Lib.hid (by rw [← HE.out, hd]; simp [skip, skipR])
      clear hd
      go_wp2
      go_ret
      exact ⟨ret_int (by rw [← HX.out]), rfl⟩
end Go.Proofs.YtgkhnpldjdbmoaaDoor
