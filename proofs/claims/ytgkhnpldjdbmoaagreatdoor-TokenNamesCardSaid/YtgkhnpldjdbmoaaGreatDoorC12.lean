/- The walk of text.Literal, its rounds. -/
import Derived.Test.YtgkhnpldjdbmoaaGreatDoorC11
set_option linter.unusedVariables false
set_option linter.unusedSimpArgs false
namespace Go.Proofs.YtgkhnpldjdbmoaaGreatDoor
open Go.RowKit

set_option maxRecDepth 100000 in
set_option maxHeartbeats 4000000 in
theorem literal_any (s : ByteArray) (k : Nat) (w : World) (hs : s.size ≤ 4000000000) (hk : k < s.size) (h40 : (s[k] == 40) = true) :
    Calls Tryz.prog 121 #[.string s, .int .i64 k] w fun e w' => e = .returned (resV k (literal (s.data.toList.drop (k + 1)))) ∧ Below w.heap.size w w' := by
  have hst := lit_start s k hk
  generalize literal (s.data.toList.drop (k + 1)) = R at *
  have HST := Lib.hid hst; clear hst
  have hn40 : (((s[k].toNat : Int)) != 40) = false := by have := is_lit 40 40 rfl h40; simp at this ⊢; exact this
  have ix := index_str s (k : Int) k rfl hk
  have g1 : decide ((k : Int) < 0) = false := by simp
  have g2 : decide (s.size ≤ k) = false := by simp; omega
  have g3 : decide ((s.size : Int) ≤ (k : Int)) = false := by simp; omega
  have HN := Lib.hid (bld_new w)
  go_enter Tryz.func121, Tryz.ntmps121
  go_wp2
  clear ix hn40 h40 g1 g2 g3
  go_loopw [1, 8] (fun a o wr => ∃ (p q : Nat) (out : Bytes), k < p ∧ p ≤ s.size ∧ a = .int .i64 p ∧ 1 ≤ q ∧ q ≤ p + 1 ∧ o = .int .i64 q ∧ out.length ≤ p ∧ Bld w.heap.size w.heap.size out wr ∧ Below w.heap.size w wr ∧ litTo s.data.toList k p q out R) (fun a _ _ => s.size - (intOf a).toNat)
  case atStart => exact ⟨k + 1, 1, [], by omega, by omega, by go_num, by omega, by omega, rfl, by simp, HN.out, by (repeat' (first | (with_reducible exact Below.refl _ _) | (with_reducible assumption) | (with_reducible refine Below.alloc ?_ ?_ _) | (with_reducible refine below_drewN ?_ _) | (with_reducible refine Below.drew ?_) | (with_reducible refine Below.setCell ?_ ?_ _) | (with_reducible refine below_trans ?_ (by assumption)) | (with_reducible exact Nat.le_refl _) | (with_reducible exact Below.size (by assumption)) | omega | (simp; omega) | (simp; done))), HST.out⟩
  case round =>
    obtain ⟨p, q, out, hkp, hps, rfl, hq1, hq2, rfl, hol, hB, hb, hl⟩ := hrel
    have HL := Lib.hid hl; have HB := Lib.hid hB; clear hl hB
    have zz := hb.size
    by_cases hp : p < s.size
    · have ix := index_str s (p : Int) p rfl hp
      cases h92 : (s[p] == 92) with
      | true =>
        have t92 := is_lit 92 92 rfl h92
        have H92 := Lib.hid h92; clear h92
        by_cases hp1 : p + 1 < s.size
        · have hto := lit_back HL.out (by omega) hp1 H92.out
          have heo := escaped_out (s.data.toList.drop (p + 1))
          have hel := escaped_le (s.data.toList.drop (p + 1)) (by rw [drop_at hp1]; rfl)
          have hep := escaped_pos (s.data.toList.drop (p + 1))
          rw [List.length_drop, ← size_list] at hel
          have he1 := escaped_any s (p + 1) 
          generalize escaped (s.data.toList.drop (p + 1)) = E at *
          obtain ⟨wh, mo⟩ := E
          dsimp only at hto heo hel hep he1
          have HTO := Lib.hid hto; have HE1 := Lib.hid he1; clear hto he1
          have hne : (((p : Int) + 1) == (s.size : Int)) = false := by simp; omega
          have hcl := bs_size wh
          have hcl2 : (bs wh).size ≤ 1 := by omega
          have HCL := Lib.hid hcl; clear hcl
          go_wp2_with (first
            | (go_at_call 177; refine (HE1.out _ hs hp1).mono ?_; rintro e w1 ⟨rfl, hb1⟩)
            | (go_at_call 63; refine (bld_str w.heap.size w.heap.size out (bs wh) _ (bld_below HB.out hb1) (by omega) (by have := hb1.size; omega)).mono ?_; rintro e w2 ⟨rfl, hB2, hb2, _⟩; rw [bs_list] at hB2))
          go_roundw
          case rel =>
            exact ⟨p + (1 + mo), q, out ++ wh, by omega, by omega, by first | rfl | (congr 1; omega), hq1, by omega, rfl, by simp; omega, hB2, (hb.trans (hb1.mono hb.size)).trans hb2, HTO.out⟩
          case measure => simp [intOf]; omega
        · have hr := lit_back_end HL.out hp H92.out (by omega)
          have HR := Lib.hid hr; clear hr
          have hne : (((p : Int) + 1) == (s.size : Int)) = true := by simp; omega
          go_wp2
          go_ret3
          exact ⟨by rw [HR.out]; rfl, hb⟩
      | false =>
        have t92 := not_lit 92 92 rfl h92
        cases hE : isEol s[p] with
        | true =>
          obtain ⟨hto, hep⟩ := lit_eol HL.out (by omega) hp h92 hE
          have hel := eol_le (s.data.toList.drop p)
          rw [List.length_drop, ← size_list] at hel
          have hen := eol_nat s p (by omega)
          generalize eol (s.data.toList.drop p) = n at *
          have HTO := Lib.hid hto; have HEN := Lib.hid hen; clear hto hen
          have H92 := Lib.hid h92; clear h92
          cases h13 : (s[p] == 13) with
          | true =>
            have t13 := is_lit 13 13 rfl h13
            have HE := Lib.hid hE; have H13 := Lib.hid h13; clear hE h13
            go_wp2_with (first
              | (go_at_call 118; refine (HEN.out _ hs).mono ?_; rintro e w1 ⟨rfl, hb1⟩)
              | (go_at_call 62; refine (bld_byte w.heap.size w.heap.size out 10 _ (bld_below HB.out hb1) (by omega) (by have := hb1.size; omega)).mono ?_; rintro e w2 ⟨rfl, hB2, hb2, _⟩))
            go_roundw
            case rel => exact ⟨p + n, q, out ++ [10], by omega, by omega, by first | rfl | (congr 1; omega), hq1, by omega, rfl, by simp; omega, hB2, (hb.trans (hb1.mono hb.size)).trans hb2, HTO.out⟩
            case measure => simp [intOf]; omega
          | false =>
            have t13 := not_lit 13 13 rfl h13
            have h10 : (s[p] == 10) = true := by simp only [isEol, h13, Bool.or_false] at hE; exact hE
            have t10 := is_lit 10 10 rfl h10
            have HE := Lib.hid hE; have H13 := Lib.hid h13; have H10 := Lib.hid h10; clear hE h13 h10
            go_wp2_with (first
              | (go_at_call 118; refine (HEN.out _ hs).mono ?_; rintro e w1 ⟨rfl, hb1⟩)
              | (go_at_call 62; refine (bld_byte w.heap.size w.heap.size out 10 _ (bld_below HB.out hb1) (by omega) (by have := hb1.size; omega)).mono ?_; rintro e w2 ⟨rfl, hB2, hb2, _⟩))
            go_roundw
            case rel => exact ⟨p + n, q, out ++ [10], by omega, by omega, by first | rfl | (congr 1; omega), hq1, by omega, rfl, by simp; omega, hB2, (hb.trans (hb1.mono hb.size)).trans hb2, HTO.out⟩
            case measure => simp [intOf]; omega
        | false =>
          have h13 : (s[p] == 13) = false := by simp only [isEol, Bool.or_eq_false_iff] at hE; exact hE.2
          have h10 : (s[p] == 10) = false := by simp only [isEol, Bool.or_eq_false_iff] at hE; exact hE.1
          have t13 := not_lit 13 13 rfl h13
          have t10 := not_lit 10 10 rfl h10
          cases h41 : (s[p] == 41) with
          | true =>
            have t41 := is_lit 41 41 rfl h41
            by_cases hq : q = 1
            · subst hq
              have hr := lit_shut HL.out (by omega) hp h41 (Nat.le_refl _)
              have HH := Lib.hid (And.intro h92 (And.intro hE (And.intro h13 (And.intro h10 h41)))); clear h92 hE h13 h10 h41
              by_cases hbig : 65536 < out.length
              · rw [if_pos hbig] at hr
                have HR := Lib.hid hr; clear hr
                have hbig2 : (65536 : Int) < (out.length : Int) := by omega
                go_wp2_with (go_at_call 176; refine (bld_len w.heap.size w.heap.size out _ HB.out).mono ?_; rintro e w3 ⟨rfl, rfl⟩)
                go_ret3
                exact ⟨by rw [HR.out]; rfl, hb⟩
              · rw [if_neg hbig] at hr
                have HR := Lib.hid hr; clear hr
                have hbig2 : (out.length : Int) ≤ 65536 := by omega
                go_wp2_with (first
                  | (go_at_call 176; refine (bld_len w.heap.size w.heap.size out _ HB.out).mono ?_; rintro e w3 ⟨rfl, rfl⟩)
                  | (go_at_call 64; refine (bld_string w.heap.size w.heap.size out _ HB.out (by omega)).mono ?_; rintro e w3 ⟨rfl, hb3⟩))
                go_ret3
                refine ⟨?_, hb.trans hb3⟩
                rw [HR.out]
                show _ = Ending.returned (.tuple #[.string (bs out), .int .i64 ((k + (p - k + 1) : Nat) : Int), .int .i64 0])
                rw [show k + (p - k + 1) = p + 1 by omega]
                rfl
            · have hto := lit_shut_in HL.out (by omega) hp h41 (by omega)
              have HTO := Lib.hid hto; clear hto
              have HH := Lib.hid (And.intro h92 (And.intro hE (And.intro h13 (And.intro h10 h41)))); clear h92 hE h13 h10 h41
              have hq0 : (((q : Int) - 1) == 0) = false := by simp; omega
              go_wp2_with (go_at_call 62; refine (bld_byte w.heap.size w.heap.size out s[p] _ HB.out (by omega) (by omega)).mono ?_; rintro e w2 ⟨rfl, hB2, hb2, _⟩)
              go_roundw
              case rel => exact ⟨p + 1, q - 1, out ++ [s[p]], by omega, by omega, by go_num, by omega, by omega, by first | go_num | (congr 1; omega), by simp; omega, hB2, hb.trans hb2, HTO.out⟩
              case measure => simp [intOf]; omega
          | false =>
            have t41 := not_lit 41 41 rfl h41
            cases h40 : (s[p] == 40) with
            | true =>
              have t40 := is_lit 40 40 rfl h40
              have hto := lit_open HL.out (by omega) hp h40
              have HTO := Lib.hid hto; clear hto
              have HH := Lib.hid (And.intro h92 (And.intro hE (And.intro h13 (And.intro h10 (And.intro h41 h40))))); clear h92 hE h13 h10 h41 h40
              go_wp2_with (go_at_call 62; refine (bld_byte w.heap.size w.heap.size out s[p] _ HB.out (by omega) (by omega)).mono ?_; rintro e w2 ⟨rfl, hB2, hb2, _⟩)
              go_roundw
              case rel => exact ⟨p + 1, q + 1, out ++ [s[p]], by omega, by omega, by go_num, by omega, by omega, by go_num, by simp; omega, hB2, hb.trans hb2, HTO.out⟩
              case measure => simp [intOf]; omega
            | false =>
              have t40 := not_lit 40 40 rfl h40
              have hto := lit_plain HL.out (by omega) hp h92 hE h41 h40
              have HTO := Lib.hid hto; clear hto
              have HH := Lib.hid (And.intro h92 (And.intro hE (And.intro h13 (And.intro h10 (And.intro h41 h40))))); clear h92 hE h13 h10 h41 h40
              go_wp2_with (go_at_call 62; refine (bld_byte w.heap.size w.heap.size out s[p] _ HB.out (by omega) (by omega)).mono ?_; rintro e w2 ⟨rfl, hB2, hb2, _⟩)
              go_roundw
              case rel => exact ⟨p + 1, q, out ++ [s[p]], by omega, by omega, by go_num, by omega, by omega, rfl, by simp; omega, hB2, hb.trans hb2, HTO.out⟩
              case measure => simp [intOf]; omega
    · have hr := litTo_end HL.out (by omega)
      have HR := Lib.hid hr; clear hr
      go_wp2
      go_ret3
      exact ⟨by rw [HR.out]; rfl, hb⟩
end Go.Proofs.YtgkhnpldjdbmoaaGreatDoor
