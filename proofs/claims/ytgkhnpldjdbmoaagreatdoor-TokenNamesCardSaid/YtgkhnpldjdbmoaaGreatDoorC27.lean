/- The walks of name.Check, name.Put. -/
import Derived.Test.YtgkhnpldjdbmoaaGreatDoorC11
import Derived.Test.YtgkhnpldjdbmoaaGreatDoorLexBack
import Derived.Deep.RegionHeld3
import Derived.Deep.QuietTactic
import Derived.Deep.RegionWith
import Derived.Deep.DeepCutAuto
set_option linter.unusedVariables false
set_option linter.unusedSimpArgs false
namespace Go.Proofs.YtgkhnpldjdbmoaaGreatDoor
open Go.RowKit

/-- A string and an error's number. -/
def strV (p : Bytes × Nat) : Value := .tuple #[.string (bs p.1), .int .i64 (p.2 : Nat)]

theorem any_zero (l : Bytes) : 0 ≤ Lib.indexByte l 0 ↔ l.any (· == 0) = true := by
  induction l with
  | nil => simp [Lib.indexByte]
  | cons b l ih =>
    have hge := Lib.indexByte_ge l 0
    simp only [Lib.indexByte, List.any_cons, Bool.or_eq_true]
    by_cases hb : (b == 0) = true
    · simp [hb]
    · rw [if_neg hb]
      by_cases h1 : Lib.indexByte l 0 = -1
      · rw [if_pos (by simp [h1])]
        have : ¬ l.any (· == 0) = true := fun e => by have := ih.2 e; omega
        simp [hb, this]
      · rw [if_neg (by simpa using h1)]
        have : l.any (· == 0) = true := ih.1 (by omega)
        simp only [this, or_true, iff_true]; omega
set_option maxRecDepth 100000 in
set_option maxHeartbeats 2000000 in
theorem nameCheck_any (s : ByteArray) (w : World) (hs : s.size ≤ 140737488355328) :
    Calls Tryz.prog 109 #[.string s] w fun e w' => e = .returned (.int .i64 (nameCheck s.data.toList : Nat)) ∧ w' = w := by
  have hz := size_list s
  have hIx := Tryz.strings_IndexByte s 0 w
  have HIX := Lib.hid hIx; clear hIx
  by_cases h1 : 127 < s.size
  · have HR : Hid (nameCheck s.data.toList = 3) := Lib.hid (by unfold nameCheck; rw [if_pos (by omega)])
    have hd : (127 : Int) < (s.size : Int) := by omega
    clear hz
    go_enter Tryz.func109, Tryz.ntmps109
    go_wp2
    go_ret
    exact ⟨by rw [HR.out]; rfl, rfl⟩
  · have hd : ¬ (127 : Int) < (s.size : Int) := by omega
    by_cases h2 : s.data.toList.any (· == 0) = true
    · have HR : Hid (nameCheck s.data.toList = 2) := Lib.hid (by unfold nameCheck; rw [if_neg (by omega), if_pos h2])
      have hi : 0 ≤ Lib.indexByte s.data.toList 0 := (any_zero _).2 h2
      clear hz h2
      go_enter Tryz.func109, Tryz.ntmps109
      go_wp2_with (go_at_call 168; refine HIX.out.mono ?_; rintro e w1 ⟨rfl, rfl⟩)
      go_ret
      exact ⟨by rw [HR.out]; rfl, rfl⟩
    · have HR : Hid (nameCheck s.data.toList = 0) := Lib.hid (by unfold nameCheck; rw [if_neg (by omega), if_neg h2])
      have hi : ¬ 0 ≤ Lib.indexByte s.data.toList 0 := fun e => h2 ((any_zero _).1 e)
      clear hz h2
      go_enter Tryz.func109, Tryz.ntmps109
      go_wp2_with (go_at_call 168; refine HIX.out.mono ?_; rintro e w1 ⟨rfl, rfl⟩)
      go_ret
      exact ⟨by rw [HR.out]; rfl, rfl⟩

abbrev digitsS : ByteArray := ⟨#[48, 49, 50, 51, 52, 53, 54, 55, 56, 57, 65, 66, 67, 68, 69, 70]⟩
theorem digits_at {i : Nat} (h : i < 16) : digitsS.extract i (i + 1) = bs [hexUp i] := by
  have : ∀ i : Fin 16, digitsS.extract i.val (i.val + 1) = bs [hexUp i.val] := by decide +kernel
  exact this ⟨i, h⟩
theorem quo16 (c : UInt8) : IntKind.u8.wrap ((c.toNat : Int).tdiv 16) = ((c.toNat / 16 : Nat) : Int) ∧ (c.toNat : Int).tdiv 16 = ((c.toNat / 16 : Nat) : Int) := by
  have := c.toNat_lt
  have h : (c.toNat : Int).tdiv 16 = ((c.toNat / 16 : Nat) : Int) := by rw [Int.tdiv_eq_ediv_of_nonneg (by omega)]; omega
  refine ⟨?_, h⟩
  rw [h, IntKind.wrap_u8]; omega
theorem rem16 (c : UInt8) : IntKind.u8.wrap ((c.toNat : Int).tmod 16) = ((c.toNat % 16 : Nat) : Int) ∧ (c.toNat : Int).tmod 16 = ((c.toNat % 16 : Nat) : Int) := by
  have := c.toNat_lt
  have h : (c.toNat : Int).tmod 16 = ((c.toNat % 16 : Nat) : Int) := by rw [Int.tmod_eq_emod_of_nonneg (by omega)]; omega
  refine ⟨?_, h⟩
  rw [h, IntKind.wrap_u8]; omega
theorem flat_take {f : UInt8 → Bytes} {s : ByteArray} {k : Nat} (h : k < s.size) : (s.data.toList.take (k + 1)).flatMap f = (s.data.toList.take k).flatMap f ++ f s[k] := by
  have hl : k < s.data.toList.length := by rw [← size_list]; exact h
  rw [List.take_succ_eq_append_getElem hl, List.flatMap_append, List.flatMap_singleton]
  rfl
theorem nameByte_len (c : UInt8) : (nameByte c).length ≤ 3 := by unfold nameByte; split <;> simp
theorem flat_le (f : UInt8 → Bytes) (n : Nat) (h : ∀ c, (f c).length ≤ n) : ∀ l : Bytes, (l.flatMap f).length ≤ n * l.length := by
  intro l
  induction l with
  | nil => simp
  | cons c l ih => have := h c; rw [List.flatMap_cons, List.length_append, List.length_cons, Nat.mul_add]; omega
theorem namePlain_cases (c : UInt8) : (namePlain c = true ∧ 32 < c.toNat ∧ c.toNat < 127 ∧ isReg c = true ∧ c.toNat ≠ 35) ∨
    (namePlain c = false ∧ (c.toNat ≤ 32 ∨ (32 < c.toNat ∧ 127 ≤ c.toNat) ∨ (32 < c.toNat ∧ c.toNat < 127 ∧ isReg c = false) ∨ (32 < c.toNat ∧ c.toNat < 127 ∧ isReg c = true ∧ c.toNat = 35))) := by
  have := all_bytes (p := fun c => decide ((namePlain c = true ∧ 32 < c.toNat ∧ c.toNat < 127 ∧ isReg c = true ∧ c.toNat ≠ 35) ∨
    (namePlain c = false ∧ (c.toNat ≤ 32 ∨ (32 < c.toNat ∧ 127 ≤ c.toNat) ∨ (32 < c.toNat ∧ c.toNat < 127 ∧ isReg c = false) ∨ (32 < c.toNat ∧ c.toNat < 127 ∧ isReg c = true ∧ c.toNat = 35))))) (by decide +kernel) c
  exact of_decide_eq_true this

set_option maxRecDepth 100000 in
set_option maxHeartbeats 4000000 in
theorem namePut_any (s : ByteArray) (w : World) (hs : s.size ≤ 140737488355328) :
    Calls Tryz.prog 128 #[.string s] w fun e w' => e = .returned (strV (namePut s.data.toList)) ∧ Below w.heap.size w w' := by
  have hz := size_list s
  have hC := nameCheck_any s w hs
  by_cases hn : nameCheck s.data.toList = 0
  · rw [hn] at hC
    have HC := Lib.hid hC; clear hC
    have HR : Hid (namePut s.data.toList = (47 :: s.data.toList.flatMap nameByte, 0)) := Lib.hid (by unfold namePut; rw [if_neg (by simp [hn])])
    have HN := Lib.hid (bld_new w)
    have HZ := Lib.hid hz
    have hlen : s.size ≤ 127 := by unfold nameCheck at hn; split at hn <;> omega
    clear hn hz
    go_enter Tryz.func128, Tryz.ntmps128
    go_wp2_with (first
      | (go_at_call 109; refine HC.out.mono ?_; rintro e w1 ⟨rfl, rfl⟩)
      | (go_at_call 62; refine (bld_byte w1.heap.size w1.heap.size [] 47 _ HN.out (by simp) (by simp)).mono ?_; rintro e w2 ⟨rfl, hB2, hb2, _⟩))
    have HB2 := Lib.hid hB2; clear hB2
    go_loopw [16] (fun i wr => ∃ k : Nat, k ≤ s.size ∧ i = .int .i64 k ∧ Bld w1.heap.size w1.heap.size (47 :: (s.data.toList.take k).flatMap nameByte) wr ∧ Below w1.heap.size w1 wr) (fun i _ => s.size - (intOf i).toNat)
    case atStart => exact ⟨0, by omega, rfl, by simpa using HB2.out, ((Below.refl _ _).alloc (Nat.le_refl _) _).trans hb2⟩
    case round =>
      obtain ⟨k, hk, rfl, hB, hb⟩ := hrel
      have hsz := hb.size
      have HB := Lib.hid hB; clear hB
      have hll := flat_le nameByte 3 nameByte_len (s.data.toList.take k)
      rw [List.length_take] at hll
      by_cases hlt : k < s.size
      · have hft := flat_take (f := nameByte) hlt
        have HFT := Lib.hid hft; clear hft
        have hlt2 := s[k].toNat_lt
        rcases namePlain_cases s[k] with ⟨hp, h1, h2, h3, h4⟩ | ⟨hp, hq⟩
        · have HP : Hid (nameByte s[k] = [s[k]]) := Lib.hid (by unfold nameByte; rw [if_pos hp])
          have e1 : (32 : Int) < (s[k].toNat : Int) := by omega
          have e2 : (s[k].toNat : Int) < 127 := by omega
          have e3 : ((s[k].toNat : Int) != 35) = true := by simp; omega
          have H3 := Lib.hid h3; clear hp h3
          go_wp2_with (first
            | (go_at_call 61; refine (reg_any s[k] _).mono ?_; rintro e w3 ⟨rfl, hb3⟩; rw [H3.out])
            | (go_at_call 62; refine (bld_byte w1.heap.size w1.heap.size _ s[k] _ (bld_below HB.out hb3) (by rw [List.length_cons]; omega) (by have := hb3.size; omega)).mono ?_; rintro e w4 ⟨rfl, hB4, hb4, _⟩))
          go_roundw
          case rel =>
            refine ⟨k + 1, by omega, by go_num, ?_, (hb.trans (hb3.mono hsz)).trans hb4⟩
            rw [HFT.out, HP.out]; exact hB4
          case measure => simp [intOf]; omega
        · have HP : Hid (nameByte s[k] = [35, hexUp (s[k].toNat / 16), hexUp (s[k].toNat % 16)]) := Lib.hid (by unfold nameByte; rw [if_neg (by simp [hp])])
          obtain ⟨a1, a2⟩ := quo16 s[k]
          obtain ⟨b1, b2⟩ := rem16 s[k]
          have hhi : s[k].toNat / 16 < 16 := by omega
          have hlo : s[k].toNat % 16 < 16 := by omega
          have D1 := Lib.hid (digits_at hhi); have D2 := Lib.hid (digits_at hlo)
          clear hp
          generalize s[k].toNat / 16 = hi at *
          generalize s[k].toNat % 16 = lo at *
          have c0 : IntKind.u8.wrap (hi : Int) = (hi : Int) := by rw [IntKind.wrap_u8]; omega
          have c1 : IntKind.u8.wrap ((hi : Int) + 1) = (hi : Int) + 1 := by rw [IntKind.wrap_u8]; omega
          have c2 : IntKind.u8.wrap ((lo : Int) + 1) = (lo : Int) + 1 := by rw [IntKind.wrap_u8]; omega
          have k16 : (⟨#[48, 49, 50, 51, 52, 53, 54, 55, 56, 57, 65, 66, 67, 68, 69, 70]⟩ : ByteArray).size = 16 := rfl
          have i5 : (0 : Int) ≤ (hi : Int) + 1 := by omega
          have j5 : (0 : Int) ≤ (lo : Int) + 1 := by omega
          have i1 : (0 : Int) ≤ (hi : Int) := by omega
          have i2 : (hi : Int) ≤ (hi : Int) + 1 := by omega
          have i3 : (hi : Int) + 1 ≤ 16 := by omega
          have i4 : ((hi : Int) + 1).toNat = hi + 1 := by omega
          have j1 : (0 : Int) ≤ (lo : Int) := by omega
          have j2 : (lo : Int) ≤ (lo : Int) + 1 := by omega
          have j3 : (lo : Int) + 1 ≤ 16 := by omega
          have j4 : ((lo : Int) + 1).toNat = lo + 1 := by omega
          have y1 : (digitsS.extract hi (hi + 1)).size ≤ 16 := by rw [ByteArray.size_extract]; show min (hi + 1) 16 - hi ≤ 16; omega
          have y2 : (digitsS.extract lo (lo + 1)).size ≤ 16 := by rw [ByteArray.size_extract]; show min (lo + 1) 16 - lo ≤ 16; omega
          have hx : (⟨#[35]⟩ ++ digitsS.extract hi (hi + 1)) ++ digitsS.extract lo (lo + 1) = bs [35, hexUp hi, hexUp lo] := by
            rw [D1.out, D2.out]; show (bs [35] ++ _) ++ _ = _; rw [bs_append, bs_append]; rfl
          have HX := Lib.hid hx; clear hx
          rcases hq with h1 | ⟨h1, h2⟩ | ⟨h1, h2, h3⟩ | ⟨h1, h2, h3, h4⟩
          · have e1 : ¬ (32 : Int) < (s[k].toNat : Int) := by omega
            go_upto_region 12 with fail
            go_region_with (go_at_call 63; refine (bld_str w1.heap.size w1.heap.size _ _ _ (bld_drewN HB.out _) ?_ ?_).mono ?_; (focus (rw [HX.out, bs_size, List.length_cons]; simp only [List.length_cons, List.length_nil]; omega)); (focus exact hsz); rintro e w4 ⟨rfl, hB4, hb4, _⟩)
            all_goals
              go_wp2
              go_roundw
              case rel =>
                refine ⟨k + 1, by omega, by go_num, ?_, hb.trans ((below_drewN (Below.refl _ _) _).trans hb4)⟩
                rw [HX.out, bs_list] at hB4
                rw [HFT.out, HP.out]; exact hB4
              case measure => simp [intOf]; omega
          · have e1 : (32 : Int) < (s[k].toNat : Int) := by omega
            have e2 : ¬ (s[k].toNat : Int) < 127 := by omega
            go_upto_region 12 with fail
            go_region_with (go_at_call 63; refine (bld_str w1.heap.size w1.heap.size _ _ _ (bld_drewN HB.out _) ?_ ?_).mono ?_; (focus (rw [HX.out, bs_size, List.length_cons]; simp only [List.length_cons, List.length_nil]; omega)); (focus exact hsz); rintro e w4 ⟨rfl, hB4, hb4, _⟩)
            all_goals
              go_wp2
              go_roundw
              case rel =>
                refine ⟨k + 1, by omega, by go_num, ?_, hb.trans ((below_drewN (Below.refl _ _) _).trans hb4)⟩
                rw [HX.out, bs_list] at hB4
                rw [HFT.out, HP.out]; exact hB4
              case measure => simp [intOf]; omega
          · have e1 : (32 : Int) < (s[k].toNat : Int) := by omega
            have e2 : (s[k].toNat : Int) < 127 := by omega
            have H3 := Lib.hid h3; clear h3
            go_upto_region 12 with (go_at_call 61; refine (reg_any s[k] _).mono ?_; rintro e w3 ⟨rfl, hb3⟩; rw [H3.out])
            have HB3 := Lib.hid (bld_below HB.out hb3)
            go_region_with (go_at_call 63; refine (bld_str w1.heap.size w1.heap.size _ _ _ (bld_drewN HB3.out _) ?_ ?_).mono ?_; (focus (rw [HX.out, bs_size, List.length_cons]; simp only [List.length_cons, List.length_nil]; omega)); (focus exact (Nat.le_trans hsz hb3.size)); rintro e w4 ⟨rfl, hB4, hb4, _⟩)
            all_goals
              go_wp2
              go_roundw
              case rel =>
                refine ⟨k + 1, by omega, by go_num, ?_, (hb.trans (hb3.mono hsz)).trans ((below_drewN (Below.refl _ _) _).trans hb4)⟩
                rw [HX.out, bs_list] at hB4
                rw [HFT.out, HP.out]; exact hB4
              case measure => simp [intOf]; omega
          · have hR35 : ∀ W, Calls Tryz.prog 61 #[.int .u8 35] W fun e w' => e = .returned (.bool true) ∧ Below W.heap.size W w' := fun W =>
              (reg_any 35 W).mono fun e w' h => h
            have HR35 := Lib.hid hR35; clear hR35
            have hh : hi = 2 := by rw [h4, show ((35 : Nat) : Int).tdiv 16 = 2 by decide] at a2; omega
            have hl : lo = 3 := by rw [h4, show ((35 : Nat) : Int).tmod 16 = 3 by decide] at b2; omega
            subst hh hl
            have w2' : IntKind.u8.wrap 2 = 2 := by decide
            have w3' : IntKind.u8.wrap 3 = 3 := by decide
            have w4' : IntKind.u8.wrap 4 = 4 := by decide
            clear h1 h2 h3 a1 a2 b1 b2 c0 c1 c2 i1 i2 i3 i4 i5 j1 j2 j3 j4 j5 hlt2 y1 y2
            have y1 : (digitsS.extract 2 3).size ≤ 16 := by decide
            have y2 : (digitsS.extract 3 4).size ≤ 16 := by decide
            go_upto_region 12 with (go_at_call 61; refine (HR35.out _).mono ?_; rintro e w3 ⟨rfl, hb3⟩)
            have HB3 := Lib.hid (bld_below HB.out hb3)
            go_region_with (go_at_call 63; refine (bld_str w1.heap.size w1.heap.size _ _ _ (bld_drewN HB3.out _) ?_ ?_).mono ?_; (focus (rw [HX.out, bs_size, List.length_cons]; simp only [List.length_cons, List.length_nil]; omega)); (focus exact (Nat.le_trans hsz hb3.size)); rintro e w4 ⟨rfl, hB4, hb4, _⟩)
            all_goals
              go_wp2
              go_roundw
              case rel =>
                refine ⟨k + 1, by omega, by go_num, ?_, (hb.trans (hb3.mono hsz)).trans ((below_drewN (Below.refl _ _) _).trans hb4)⟩
                rw [HX.out, bs_list] at hB4
                rw [HFT.out, HP.out]; exact hB4
              case measure => simp [intOf]; omega
      · obtain rfl : k = s.size := by omega
        have HT := Lib.hid (show s.data.toList.take s.size = s.data.toList by rw [HZ.out, List.take_length])
        go_wp2_with (go_at_call 64; refine (bld_string _ _ _ _ HB.out hsz).mono ?_; rintro e w5 ⟨rfl, hb5⟩)
        go_ret2
        exact ⟨by rw [HR.out, HT.out]; rfl, hb.trans hb5⟩
  · have HR : Hid (namePut s.data.toList = ([], nameCheck s.data.toList)) := Lib.hid (by unfold namePut; rw [if_pos hn])
    have hne : ((nameCheck s.data.toList : Int) != 0) = true := by simp; omega
    have HC := Lib.hid hC; clear hC hz hn
    go_enter Tryz.func128, Tryz.ntmps128
    go_wp2_with (go_at_call 109; refine HC.out.mono ?_; rintro e w1 ⟨rfl, rfl⟩)
    go_ret2
    exact ⟨by rw [HR.out]; rfl, by (repeat' (first | (with_reducible exact Below.refl _ _) | (with_reducible assumption) | (with_reducible refine Below.alloc ?_ ?_ _) | (with_reducible refine below_drewN ?_ _) | (with_reducible refine Below.drew ?_) | (with_reducible refine Below.setCell ?_ ?_ _) | (with_reducible refine below_trans ?_ (by assumption)) | (with_reducible exact Nat.le_refl _) | (with_reducible exact Below.size (by assumption)) | omega | (simp; omega) | (simp; done)))⟩
end Go.Proofs.YtgkhnpldjdbmoaaGreatDoor
