/- The walks of the program's layer 3 (name), as far as tokens need it. -/
import Derived.Test.YtgkhnpldjdbmoaaGreatDoorC3
import Derived.Test.YtgkhnpldjdbmoaaGreatDoorBld
import Derived.RegionCalls
set_option linter.unusedVariables false
set_option linter.unusedSimpArgs false
namespace Go.Proofs.YtgkhnpldjdbmoaaGreatDoor
open Go.RowKit

/-- What stands behind a #: the byte that it tells, if there is one. -/
def escAt (l : Bytes) : Option UInt8 :=
  match l with
  | _ :: a :: b :: _ => escName a b
  | _ => none
theorem hexv_range (b : UInt8) : -1 ≤ hexv b ∧ hexv b ≤ 15 := by
  have hv : hexv b = if 48 ≤ b.toNat ∧ b.toNat ≤ 57 then (b.toNat : Int) - 48 else if 65 ≤ b.toNat ∧ b.toNat ≤ 70 then (b.toNat : Int) - 55 else if 97 ≤ b.toNat ∧ b.toNat ≤ 102 then (b.toNat : Int) - 87 else -1 := by
    unfold hexv; simp [digit_bool, UInt8.le_iff_toNat_le]
  rw [hv]; (repeat' split) <;> omega
theorem hex_any' (b : UInt8) (w : World) : Calls Tryz.prog 175 #[.int .u8 b.toNat] w fun e w' => e = .returned (.int .i64 (hexv b)) ∧ w' = w :=
  (hex_any b w).mono fun e w' ⟨h1, h2⟩ => ⟨h1, h2.symm⟩

theorem escAt_of {s : ByteArray} {k : Nat} (h : k + 2 < s.size) : escAt (s.data.toList.drop k) = escName s[k+1] s[k+2] := by
  rw [drop_at (by omega), drop_at (by omega), drop_at (by omega)]; rfl
theorem escAt_end {s : ByteArray} {k : Nat} (h : ¬ k + 2 < s.size) : escAt (s.data.toList.drop k) = none := by
  have hl : (s.data.toList.drop k).length ≤ 2 := by rw [List.length_drop, ← size_list]; omega
  unfold escAt
  split
  · rename_i hx; rw [hx] at hl; simp at hl
  · rfl

theorem index_str (s : ByteArray) (j : Int) (i : Nat) (hj : j = i) (h : i < s.size) (w : World) : (Instr.index 9 (.string s) (.int .i64 j)).run Tryz.prog w = .ok (.int .u8 s[i].toNat) w := by
  subst hj
  have hs : s[i]? = some s[i] := by rw [getElem?_pos s i h]
  simp [Instr.index, asIntOf, Result.andThen, hs]

theorem esc_pair {s : ByteArray} {k : Nat} {a b x : Int} {ok : Bool} {n : Nat} {w w' : World} {ca cb : UInt8} (he : escAt (s.data.toList.drop k) = escName ca cb) (ha : a = hexv ca) (hb : b = hexv cb) (hw : w' = w.drewN n)
    (h : (0 ≤ a ∧ 0 ≤ b ∧ 0 < a + b → ok = true ∧ x = 16 * a + b) ∧ (¬ (0 ≤ a ∧ 0 ≤ b ∧ 0 < a + b) → ok = false)) :
    (∃ x' : Int, Ending.returned (.tuple #[.int .u8 x, .bool ok]) = .returned (.tuple #[.int .u8 x', .bool (escAt (s.data.toList.drop k)).isSome]) ∧ ∀ c, escAt (s.data.toList.drop k) = some c → x' = c.toNat) ∧ ∃ n, w' = w.drewN n := by
  refine ⟨⟨x, ?_, ?_⟩, n, hw⟩
  · rw [he]; unfold escName
    by_cases hc : 0 ≤ a ∧ 0 ≤ b ∧ 0 < a + b
    · rw [(h.1 hc).1, if_pos (by rw [← ha, ← hb]; exact hc)]; rfl
    · rw [h.2 hc, if_neg (by rw [← ha, ← hb]; exact hc)]; rfl
  · intro c hc
    rw [he] at hc; unfold escName at hc
    split at hc
    · rename_i h2
      rw [← ha, ← hb] at h2
      have := h.1 h2
      have r1 := hexv_range ca; have r2 := hexv_range cb
      simp only [Option.some.injEq] at hc
      rw [this.2, ← hc, ← ha, ← hb]
      simp only [UInt8.toNat_ofNat']
      omega
    · cases hc

set_option maxRecDepth 100000 in
set_option maxHeartbeats 2000000 in
theorem escape_any (s : ByteArray) (k : Nat) (w : World) (hs : s.size ≤ 4000000000) (hk : k < s.size) :
    Calls Tryz.prog 216 #[.string s, .int .i64 k] w fun e w' => (∃ x : Int, e = .returned (.tuple #[.int .u8 x, .bool (escAt (s.data.toList.drop k)).isSome]) ∧ ∀ c, escAt (s.data.toList.drop k) = some c → x = c.toNat) ∧ ∃ n, w' = w.drewN n := by
  by_cases h2 : k + 2 < s.size
  · have he := escAt_of h2
    have HE := Lib.hid he; clear he
    have ra := hexv_range s[k+1]
    have rb := hexv_range s[k+2]
    obtain ⟨ra1, ra2⟩ := ra
    obtain ⟨rb1, rb2⟩ := rb
    have j1 : k + 1 < s.size := by omega
    have j2 : (0 : Int) ≤ (k : Int) + 1 := by omega
    have j3 : (0 : Int) ≤ (k : Int) + 2 := by omega
    have s1 : IntKind.i64.wrap ((k : Int) + 1) = (k : Int) + 1 := IntWalk.i64_in _ (by omega)
    have s2 : IntKind.i64.wrap ((k : Int) + 2) = (k : Int) + 2 := IntWalk.i64_in _ (by omega)
    have n1 : ((k : Int) + 1).toNat = k + 1 := by omega
    have n2 : ((k : Int) + 2).toNat = k + 2 := by omega
    have x1 := index_str s ((k : Int) + 1) (k + 1) (by omega) (by omega)
    have x2 := index_str s ((k : Int) + 2) (k + 2) (by omega) (by omega)
    go_enter Tryz.func216, Tryz.ntmps216
    go_wp2_with fail
    go_quiet ((go_at_call 175; exact Calls.quiet_of_same (hex_any' _ _)))
    go_wp2
    all_goals
      go_ret2
      exact esc_pair HE.out rfl rfl rfl ⟨fun h => by first | (simp; done) | (simp; omega) | omega, fun h => by first | (simp; done) | (simp; omega) | omega⟩
  · have he := escAt_end h2
    have HE := Lib.hid he; clear he
    go_enter Tryz.func216, Tryz.ntmps216
    go_wp2
    go_ret2
    exact ⟨⟨0, by rw [HE.out]; rfl, fun c h => by rw [HE.out] at h; cases h⟩, 0, rfl⟩

theorem readN_plain {c : UInt8} {l : Bytes} (h : c ≠ 35) : readN (c :: l) = (c :: (readN l).1, (readN l).2) := by
  match l with
  | [] => simp [readN, h]
  | [d] => simp [readN, h]
  | d :: e :: l => simp [readN, h]
theorem readN_esc {c x : UInt8} {l : Bytes} (h : c = 35) (he : escAt (c :: l) = some x) : readN (c :: l) = (x :: (readN (l.drop 2)).1, (readN (l.drop 2)).2) := by
  match l with
  | [] => simp [escAt] at he
  | [d] => simp [escAt] at he
  | d :: e :: l => simp only [escAt] at he; simp [readN, h, he]
theorem readN_bad {c : UInt8} {l : Bytes} (h : c = 35) (he : escAt (c :: l) = none) : readN (c :: l) = (35 :: (readN l).1, false) := by
  match l with
  | [] => simp [readN, h]
  | [d] => simp [readN, h]
  | d :: e :: l => simp only [escAt] at he; simp [readN, h, he]

theorem bld_drewN {B b : Nat} {l : Bytes} {w : World} (h : Bld B b l w) (n : Nat) : Bld B b l (w.drewN n) := h
theorem others_drewN {e : TypeId} {b : Option Nat} {a w : World} (h : Lib.OthersKept e b a w) (n : Nat) : Lib.OthersKept e b a (w.drewN n) := h
def readTo (raw : Bytes) (k : Nat) (acc : Bytes) (g : Bool) (out : Bytes) (good : Bool) : Prop := acc ++ (readN (raw.drop k)).1 = out ∧ (g && (readN (raw.drop k)).2) = good

set_option maxRecDepth 100000 in
set_option maxHeartbeats 2000000 in
theorem read_any (s : ByteArray) (B b : Nat) (l : Bytes) (w : World) (hs : s.size ≤ 4000000000) (hl : l.length ≤ 4000000000) (hB : Bld B b l w) (hBw : B ≤ w.heap.size) :
    Calls Tryz.prog 178 #[.string s, .pointer (some ⟨b, 0, none⟩)] w fun e w' => e = .returned (.bool (readN s.data.toList).2) ∧ Bld B b (l ++ (readN s.data.toList).1) w' ∧ Below B w w' ∧ Lib.OthersKept 5 (some b) w w' := by
  go_enter Tryz.func178, Tryz.ntmps178
  go_wp2
  go_loopw [5, 6] (fun g i wr => ∃ (k : Nat) (acc : Bytes) (good : Bool), k ≤ s.size ∧ i = .int .i64 k ∧ g = .bool good ∧ Bld B b acc wr ∧ Below B w wr ∧ Lib.OthersKept 5 (some b) w wr ∧ acc.length ≤ 4000000000 + k ∧ readTo s.data.toList k acc good (l ++ (readN s.data.toList).1) (readN s.data.toList).2) (fun _ i _ => s.size - (intOf i).toNat)
  case atStart => exact ⟨0, l, true, by omega, rfl, rfl, hB, Below.refl _ _, Lib.OthersKept.refl _ _ _, by omega, by simp [readTo], by simp⟩
  case round =>
    obtain ⟨k, acc, good, hk, rfl, rfl, hA, hb, ho, hal, hrd⟩ := hrel
    have HR := Lib.hid hrd; clear hrd
    have hzz := hb.size
    have HA := Lib.hid hA; clear hA
    have HO := Lib.hid ho; clear ho
    by_cases hlt : k < s.size
    · have hd := drop_at hlt
      have HD := Lib.hid hd; clear hd
      by_cases h35 : (s[k] == 35) = true
      · have hne : (((s[k].toNat : Int)) != 35) = false := by simp at h35; rw [h35]; rfl
        simp only [beq_iff_eq] at h35
        have H35 := Lib.hid h35; clear h35
        cases he : escAt (s.data.toList.drop k) with
        | none =>
          have HE := Lib.hid he; clear he
          go_wp2_with (go_at_call 216; refine (escape_any _ _ _ hs hlt).mono ?_; rintro e w1 ⟨⟨x, rfl, _⟩, n, rfl⟩; rw [HE.out])
          refine (bld_byte B b acc 35 _ (bld_drewN HA.out n) (by omega) (Nat.le_trans hBw hzz)).mono ?_; rintro e w2 ⟨rfl, hB2, hb2, ho2⟩
          go_wp2
          go_roundw
          case rel =>
            refine ⟨k + 1, acc ++ [35], false, by omega, by go_num, rfl, hB2, (below_drewN hb n).trans hb2, (others_drewN HO.out n).trans ho2, by simp; omega, ?_⟩
            have := HR.out; unfold readTo at *
            have he := HE.out
            rw [HD.out] at this he; rw [readN_bad H35.out he] at this
            simpa using this
          case measure => simp [intOf]; omega
        | some x =>
          have HE := Lib.hid he
          have hk2 : k + 2 < s.size := by
            rcases Nat.lt_or_ge (k + 2) s.size with h | h
            · exact h
            · rw [escAt_end (by omega)] at he; cases he
          clear he
          go_wp2_with (go_at_call 216; refine (escape_any _ _ _ hs hlt).mono ?_; rintro e w1 ⟨⟨y, rfl, hy⟩, n, rfl⟩; obtain rfl := hy x HE.out; rw [HE.out])
          refine (bld_byte B b acc x _ (bld_drewN HA.out n) (by omega) (Nat.le_trans hBw hzz)).mono ?_; rintro e w2 ⟨rfl, hB2, hb2, ho2⟩
          go_wp2
          go_roundw
          case rel =>
            refine ⟨k + 3, acc ++ [x], good, by omega, by go_num, rfl, hB2, (below_drewN hb n).trans hb2, (others_drewN HO.out n).trans ho2, by simp; omega, ?_⟩
            have := HR.out; unfold readTo at *
            have he := HE.out
            rw [HD.out] at this he; rw [readN_esc H35.out he] at this
            simpa using this
          case measure => simp [intOf]; omega
      · have hne : (((s[k].toNat : Int)) != 35) = true := by simp at h35 ⊢; intro h; apply h35; apply UInt8.toNat_inj.1; simp; omega
        have H35 := Lib.hid h35; clear h35
        go_wp2_with (go_at_call 62; refine (bld_byte B b acc s[k] _ HA.out (by omega) (Nat.le_trans hBw hzz)).mono ?_; rintro e w2 ⟨rfl, hB2, hb2, ho2⟩)
        go_roundw
        case rel =>
          refine ⟨k + 1, acc ++ [s[k]], good, by omega, by go_num, rfl, hB2, hb.trans hb2, HO.out.trans ho2, by simp; omega, ?_⟩
          have := HR.out; unfold readTo at *; rw [HD.out, readN_plain (by simpa using H35.out)] at this
          simpa using this
        case measure => simp [intOf]; omega
    · have HX := Lib.hid (drop_end (s := s) (k := k) (by omega))
      go_wp2
      go_ret
      have hr := HR.out; unfold readTo at hr; rw [HX.out] at hr; simp only [readN, List.append_nil, Bool.and_true] at hr
      exact ⟨ret_bool hr.2, hr.1 ▸ HA.out, hb, HO.out⟩
end Go.Proofs.YtgkhnpldjdbmoaaGreatDoor
