/- The walk of class.Skip. -/
import Derived.Test.YtgkhnpldjdbmoaaGreatDoorC1
import Derived.Test.YtgkhnpldjdbmoaaGreatDoorLexLaws
set_option linter.unusedVariables false
set_option linter.unusedSimpArgs false
namespace Go.Proofs.YtgkhnpldjdbmoaaGreatDoor
open Go.RowKit

theorem eol_isEol (c : UInt8) (l : Bytes) : (eol (c :: l) = 0 ∧ isEol c = false) ∨ (0 < eol (c :: l) ∧ isEol c = true) := by
  cases l with
  | nil => simp only [eol, isEol]; split <;> simp_all
  | cons d l => simp only [eol, isEol]; split <;> (try split) <;> simp_all
theorem ne37 {b : UInt8} (h : (b == 37) = false) : (((b.toNat : Int)) != 37) = true := by
  simp only [bne_iff_ne, ne_eq]; intro h2; simp at h; apply h; apply UInt8.toNat_inj.1; simp; omega
theorem eq37 {b : UInt8} (h : (b == 37) = true) : (((b.toNat : Int)) != 37) = false := by
  simp at h; subst h; rfl

set_option maxRecDepth 100000 in
set_option maxHeartbeats 4000000 in
theorem skip_any (s : ByteArray) (i : Int) (w : World) (hs : s.size ≤ 9223372036854775806) : Calls Tryz.prog 59 #[.string s, .int .i64 i] w fun e w' => e = .returned (.int .i64 ((place s.size i + skip (s.data.toList.drop (place s.size i)) : Nat) : Int)) ∧ Below w.heap.size w w' := by
  have hp := place_le s.size i
  go_enter Tryz.func59, Tryz.ntmps59
  go_wp2
  go_step3
  go_wp2_with (go_at_call 116; refine (place_any _ _ _ (by omega)).mono ?_; rintro e w1 ⟨rfl, rfl⟩)
  go_step3
  go_wp2
  go_loopw [1] (fun a wr => ∃ k : Nat, k ≤ s.size ∧ a = .int .i64 k ∧ Below w.heap.size w wr ∧ k + skip (s.data.toList.drop k) = place s.size i + skip (s.data.toList.drop (place s.size i))) (fun a _ => s.size - (intOf a).toNat)
  case atStart => exact ⟨_, hp, rfl, Below.refl _ _, rfl⟩
  case round =>
    obtain ⟨k, hk, rfl, hb, heq⟩ := hrel
    have HE := Lib.hid heq; clear heq
    by_cases hlt : k < s.size
    · have hd := drop_at hlt
      by_cases hr : isWhite s[k] = true
      · have HX : Hid (k + 1 + skip (s.data.toList.drop (k + 1)) = place s.size i + skip (s.data.toList.drop (place s.size i))) := Lib.hid (by rw [← HE.out, hd]; simp [skip, skipR, hr]; omega)
        clear hd
        go_wp2_with (go_at_call 117; refine (white_any _ _).mono ?_; rintro e w1 ⟨rfl, hb1⟩)
        go_roundw
        case rel => exact ⟨k + 1, by omega, by go_num, hb.trans (hb1.mono hb.size), HX.out⟩
        case measure => simp [intOf]; omega
      · replace hr : isWhite s[k] = false := by simpa using hr
        by_cases h37 : (s[k] == 37) = true
        · have hX : k + skipR true (s.data.toList.drop k) = place s.size i + skip (s.data.toList.drop (place s.size i)) := by
            rw [← HE.out, hd]
            simp only [skip, skipR, hr, h37, if_true, Bool.false_eq_true, if_false]
            rw [if_neg (by simp only [beq_iff_eq] at h37; rw [h37]; decide)]
          have HX := Lib.hid hX; clear hX
          have HD := Lib.hid hd; clear hd
          have hn := eq37 h37
          have H37 := Lib.hid h37; clear h37
          go_wp2_with (go_at_call 117; refine (white_any _ _).mono ?_; rintro e w1 ⟨rfl, hb1⟩)
          have hb2 := hb.trans (hb1.mono hb.size)
          clear hb1 hb hn
          go_loopw [1] (fun a wr => ∃ j : Nat, k ≤ j ∧ j ≤ s.size ∧ a = .int .i64 j ∧ Below w.heap.size w wr ∧ j + skipR true (s.data.toList.drop j) = place s.size i + skip (s.data.toList.drop (place s.size i))) (fun a _ => s.size - (intOf a).toNat)
          case atStart => exact ⟨k, Nat.le_refl _, hk, rfl, hb2, HX.out⟩
          case round =>
            obtain ⟨j, hkj, hj, rfl, hbj, heqj⟩ := hrel
            by_cases hlt2 : j < s.size
            · have hdj := drop_at hlt2
              rcases eol_isEol s[j] (s.data.toList.drop (j + 1)) with ⟨he0, he1⟩ | ⟨he0, he1⟩
              · have hX : j + 1 + skipR true (s.data.toList.drop (j + 1)) = place s.size i + skip (s.data.toList.drop (place s.size i)) := by
                  rw [← heqj, hdj]
                  simp only [skipR, he1, Bool.false_eq_true, if_false]; omega
                have HX := Lib.hid hX
                have HN : Hid (eol (s.data.toList.drop (place s.size (j : Int))) = 0) := Lib.hid (by rw [place_nat hj, hdj]; exact he0)
                clear hX heqj hdj he0 he1
                go_wp2_with (go_at_call 118; refine (eol_any _ _ _ (by omega)).mono ?_; rintro e w2 ⟨rfl, hb3⟩; rw [HN.out])
                go_roundw
                case rel => exact ⟨j + 1, by omega, by omega, by go_num, hbj.trans (hb3.mono hbj.size), HX.out⟩
                case measure => simp [intOf]; omega
              · have hX : j + skip (s.data.toList.drop j) = place s.size i + skip (s.data.toList.drop (place s.size i)) := by
                  rw [← heqj, hdj]
                  simp only [skip, skipR, he1, eol_white he1, if_true]
                have hkj2 : k < j := by
                  rcases Nat.lt_or_eq_of_le hkj with h | h
                  · exact h
                  · subst h; have := H37.out; simp only [beq_iff_eq] at this; rw [this] at he1; simp [isEol] at he1
                have HX := Lib.hid hX
                obtain ⟨n, hn⟩ : ∃ n, eol (s.data.toList.drop (place s.size (j : Int))) = n + 1 := ⟨_ - 1, (Nat.sub_add_cancel (by rw [place_nat hj, hdj]; exact he0)).symm⟩
                have HN := Lib.hid hn
                clear hX heqj hdj he0 he1 hn
                go_wp2_with (go_at_call 118; refine (eol_any _ _ _ (by omega)).mono ?_; rintro e w2 ⟨rfl, hb3⟩; rw [HN.out])
                go_roundw
                case rel => exact ⟨j, by omega, rfl, hbj.trans (hb3.mono hbj.size), HX.out⟩
                case measure => simp [intOf]; omega
            · have hX : j + skip (s.data.toList.drop j) = place s.size i + skip (s.data.toList.drop (place s.size i)) := by
                rw [← heqj, drop_end (by omega)]; simp [skip, skipR]
              have HX := Lib.hid hX
              clear hX heqj
              go_wp2
              go_roundw
              case rel => exact ⟨j, by omega, rfl, hbj, HX.out⟩
              case measure => simp [intOf]; omega
        · replace h37 : (s[k] == 37) = false := by simpa using h37
          have HX : Hid (k = place s.size i + skip (s.data.toList.drop (place s.size i))) := Lib.hid (by
            rw [← HE.out, hd]; simp only [skip, skipR, hr, h37, Bool.false_eq_true, if_false]; omega)
          have hn := ne37 h37
          clear hd h37
          go_wp2_with (go_at_call 117; refine (white_any _ _).mono ?_; rintro e w1 ⟨rfl, hb1⟩)
          rw [Exit.noGoto_ret]; go_ret
          exact ⟨ret_int (by rw [← HX.out]), hb.trans (hb1.mono hb.size)⟩
    · have hd := drop_end (s := s) (k := k) (by omega)
      have HX : Hid (k = place s.size i + skip (s.data.toList.drop (place s.size i))) := Lib.hid (by rw [← HE.out, hd]; simp [skip, skipR])
      clear hd
      go_wp2
      rw [Exit.noGoto_ret]; go_ret
      exact ⟨ret_int (by rw [← HX.out]), hb⟩
end Go.Proofs.YtgkhnpldjdbmoaaGreatDoor
