/- The walk of text.escaped. -/
import Derived.Test.YtgkhnpldjdbmoaaGreatDoorC9
import Derived.Test.YtgkhnpldjdbmoaaGreatDoorC7
set_option linter.unusedVariables false
set_option linter.unusedSimpArgs false
namespace Go.Proofs.YtgkhnpldjdbmoaaGreatDoor
open Go.RowKit

theorem eol_nat (s : ByteArray) (k : Nat) (hk : k ≤ s.size) (W : World) (hs : s.size ≤ 4000000000) : Calls Tryz.prog 118 #[.string s, .int .i64 k] W fun e w' => e = .returned (.int .i64 (eol (s.data.toList.drop k))) ∧ Below W.heap.size W w' :=
  (eol_any s k W (by omega)).mono fun e w' ⟨h1, h2⟩ => ⟨by rw [h1, place_nat hk], h2⟩

theorem look1 (c : UInt8) (W : World) : (Instr.lookup 182 (.map (some W.heap.size)) (.int .u8 c.toNat) true).run Tryz.prog (W.alloc (.map escEs 5)) = .ok (.tuple #[.int .u8 (escPair c).1, .bool (escPair c).2]) (W.alloc (.map escEs 5)) :=
  esc_look c _ _ (heap_alloc_last W _)
theorem look2 (c : UInt8) (W : World) : (Instr.lookup 182 (.map (some W.heap.size)) (.int .u8 c.toNat) true).run Tryz.prog (W.alloc (.map escEs 5)).drew = .ok (.tuple #[.int .u8 (escPair c).1, .bool (escPair c).2]) (W.alloc (.map escEs 5)).drew :=
  esc_look c _ _ (heap_alloc_last W _)

theorem extract_one {s : ByteArray} {k : Nat} (hk : k < s.size) : s.extract k (k + 1) = bs [s[k]] := by
  apply ByteArray.ext
  apply Array.toList_inj.1
  rw [ByteArray.data_extract, Array.toList_extract, List.extract_eq_take_drop]
  rw [drop_at hk]
  simp [bs]

theorem conv1 (x : UInt8) (b : Nat) (W : World) (h : W.cell? ⟨b, 0, none⟩ = some (.int .u8 x.toNat)) : (convert 79 9 (.slice (some ⟨b, 0, none⟩) 1 1)).run Tryz.prog W = .ok (.string (bs [x])) W := by
  have := run_convert_bytes_arg (P := Tryz.prog) (w := W) 79 5 Tryz.underlying79 Tryz.underlying5 b 0 1 1 [(x.toNat : Int)] rfl (by
    intro i hi
    obtain rfl : i = 0 := by omega
    simpa using h) 9 Tryz.underlying9
  have h2 : strOfNums [(x.toNat : Int)] = bs [x] := by
    apply ByteArray.ext
    apply Array.toList_inj.1
    rw [strOfNums_data]
    show List.map _ [(x.toNat : Int)] = [x]
    simp
  rw [this, h2]

theorem conv2 (v : Nat) (W : World) : (convert 79 9 (.slice (some ⟨W.heap.size, 0, none⟩) 1 1)).run Tryz.prog (W.alloc (.cells #[.int .u8 ((v : Int) % 256)] 5)) = .ok (.string (bs [UInt8.ofNat (v % 256)])) (W.alloc (.cells #[.int .u8 ((v : Int) % 256)] 5)) := by
  have h := conv1 (UInt8.ofNat (v % 256)) W.heap.size (W.alloc (.cells #[.int .u8 ((v : Int) % 256)] 5)) (by
    have h1 : ((UInt8.ofNat (v % 256)).toNat : Int) = (v : Int) % 256 := by simp
    rw [h1]; go_simp)
  exact h
theorem octN_step {k v : Nat} {c : UInt8} {l : Bytes} (h : isOctal c = true) : octN (k + 1) v (c :: l) = ((octN k (8 * v + (c.toNat - 48)) l).1, (octN k (8 * v + (c.toNat - 48)) l).2 + 1) := by
  simp [octN, h]
theorem octN_stop {k v : Nat} {c : UInt8} {l : Bytes} (h : isOctal c = false) : octN k v (c :: l) = (v, 0) := by
  cases k <;> simp [octN, h]
theorem octN_nil {k v : Nat} : octN k v [] = (v, 0) := by cases k <;> rfl
def octTo (l : Bytes) (k j v V N : Nat) : Prop := (octN (3 - j) v (l.drop (k + j))).1 = V ∧ j + (octN (3 - j) v (l.drop (k + j))).2 = N

set_option maxRecDepth 100000 in
set_option maxHeartbeats 2000000 in
theorem escaped_any (s : ByteArray) (k : Nat) (w : World) (hs : s.size ≤ 4000000000) (hk : k < s.size) :
    Calls Tryz.prog 177 #[.string s, .int .i64 k] w fun e w' => e = .returned (.tuple #[.string (bs (escaped (s.data.toList.drop k)).1), .int .i64 (escaped (s.data.toList.drop k)).2]) ∧ Below w.heap.size w w' := by
  have hd := drop_at hk
  by_cases he : 0 < eol (s.data.toList.drop k)
  · have HR : Hid (escaped (s.data.toList.drop k) = ([], eol (s.data.toList.drop k))) := Lib.hid (by unfold escaped; rw [if_pos he])
    have he2 : (0 : Int) < (eol (s.data.toList.drop k) : Int) := by omega
    clear hd
    go_enter Tryz.func177, Tryz.ntmps177
    go_wp2_with (go_at_call 118; refine (eol_nat _ _ (by omega) _ hs).mono ?_; rintro e w1 ⟨rfl, hb1⟩; have z1 := hb1.size)
    go_ret2
    exact ⟨by rw [HR.out]; rfl, hb1⟩
  · have he2 : (eol (s.data.toList.drop k) : Int) ≤ 0 := by omega
    by_cases ho : isOctal s[k] = true
    · have hbnd : (48 : Int) ≤ s[k].toNat ∧ (s[k].toNat : Int) ≤ 55 := by rw [octal_bool] at ho; simp at ho; omega
      have ix := index_str s (k : Int) k rfl hk
      obtain ⟨V, N, hV⟩ : ∃ V N, octN 3 0 (s.data.toList.drop k) = (V, N) := ⟨_, _, rfl⟩
      have HR : Hid (escaped (s.data.toList.drop k) = ([UInt8.ofNat (V % 256)], N)) := Lib.hid (by unfold escaped; rw [if_neg he, hd]; simp only [ho]; rw [← hd, hV]; rfl)
      have HV := Lib.hid hV
      clear hd hV
      go_enter Tryz.func177, Tryz.ntmps177
      go_wp2_with (first
        | (go_at_call 118; refine (eol_nat _ _ (by omega) _ hs).mono ?_; rintro e w1 ⟨rfl, hb1⟩; have z1 := hb1.size)
        | (go_at_call 215; refine (octal_any _ _).mono ?_; rintro e w2 ⟨rfl, rfl⟩))
      clear ix
      go_loop [9, 10] (fun c n => ∃ j v : Nat, j ≤ 3 ∧ k + j ≤ s.size ∧ v < 8 ^ j ∧ n = .int .i64 j ∧ c = .int .i64 v ∧ octTo s.data.toList k j v V N) (fun _ n => 3 - (intOf n).toNat)
      case atStart => exact ⟨0, 0, by omega, by omega, by decide, rfl, rfl, by unfold octTo; simp [HV.out]⟩
      case round =>
        obtain ⟨j, v, hj, hkj, hv, rfl, rfl, hot⟩ := hrel
        have HO := Lib.hid hot; clear hot
        have hv2 : v < 512 := by
          have : 8 ^ j ≤ 8 ^ 3 := Nat.pow_le_pow_right (by omega) hj
          omega
        by_cases h3 : j < 3
        · by_cases hs2 : k + j < s.size
          · have hdd := drop_at hs2
            cases hoc : isOctal s[k + j] with
            | true =>
              have hb2 : (48 : Int) ≤ s[k + j].toNat ∧ (s[k + j].toNat : Int) ≤ 55 := by rw [octal_bool] at hoc; simp at hoc; omega
              obtain ⟨hb3, hb4⟩ := hb2
              have HN : Hid (octTo s.data.toList k (j + 1) (8 * v + (s[k + j].toNat - 48)) V N) := Lib.hid (by
                have := HO.out; unfold octTo at *
                rw [hdd, show 3 - j = (3 - (j + 1)) + 1 by omega, octN_step hoc] at this
                exact ⟨this.1, by rw [← this.2]; simp only [Nat.add_assoc]; omega⟩)
              have HP : Hid (8 * v + (s[k + j].toNat - 48) < 8 ^ (j + 1)) := Lib.hid (by rw [Nat.pow_succ]; omega)
              have HC := Lib.hid hoc
              clear hdd hv hoc
              go_wp2_with (go_at_call 215; refine (octal_any _ _).mono ?_; rintro e w2 ⟨rfl, rfl⟩; rw [HC.out])
              go_round
              case rel => exact ⟨j + 1, _, by omega, by omega, HP.out, by go_num, by go_num, HN.out⟩
              case measure => simp [intOf]; omega
            | false =>
              have HN : Hid (v = V ∧ j = N) := Lib.hid (by
                have := HO.out; unfold octTo at this
                rw [hdd, octN_stop hoc] at this
                simpa using this)
              have HC := Lib.hid hoc
              clear hdd hv hoc
              have cv := conv2 v
              go_wp2_with (go_at_call 215; refine (octal_any _ _).mono ?_; rintro e w2 ⟨rfl, rfl⟩; rw [HC.out])
              go_ret2
              exact ⟨by rw [HR.out, ← HN.out.1, ← HN.out.2]; rfl, by (repeat' (first | (with_reducible exact Below.refl _ _) | (with_reducible assumption) | (with_reducible refine Below.alloc ?_ ?_ _) | (with_reducible refine below_drewN ?_ _) | (with_reducible refine Below.drew ?_) | (with_reducible refine Below.setCell ?_ ?_ _) | (with_reducible refine below_trans ?_ (by assumption)) | (with_reducible exact Nat.le_refl _) | (with_reducible exact Below.size (by assumption)) | omega | (simp; omega) | (simp; done)))⟩
          · have HN : Hid (v = V ∧ j = N) := Lib.hid (by
              have := HO.out; unfold octTo at this
              rw [drop_end (by omega), octN_nil] at this
              simpa using this)
            have cv := conv2 v
            go_wp2
            go_ret2
            exact ⟨by rw [HR.out, ← HN.out.1, ← HN.out.2]; rfl, by (repeat' (first | (with_reducible exact Below.refl _ _) | (with_reducible assumption) | (with_reducible refine Below.alloc ?_ ?_ _) | (with_reducible refine below_drewN ?_ _) | (with_reducible refine Below.drew ?_) | (with_reducible refine Below.setCell ?_ ?_ _) | (with_reducible refine below_trans ?_ (by assumption)) | (with_reducible exact Nat.le_refl _) | (with_reducible exact Below.size (by assumption)) | omega | (simp; omega) | (simp; done)))⟩
        · have HN : Hid (v = V ∧ j = N) := Lib.hid (by
            have := HO.out; unfold octTo at this
            rw [show 3 - j = 0 by omega] at this
            simpa [octN] using this)
          have cv := conv2 v
          go_wp2
          go_ret2
          exact ⟨by rw [HR.out, ← HN.out.1, ← HN.out.2]; rfl, by (repeat' (first | (with_reducible exact Below.refl _ _) | (with_reducible assumption) | (with_reducible refine Below.alloc ?_ ?_ _) | (with_reducible refine below_drewN ?_ _) | (with_reducible refine Below.drew ?_) | (with_reducible refine Below.setCell ?_ ?_ _) | (with_reducible refine below_trans ?_ (by assumption)) | (with_reducible exact Nat.le_refl _) | (with_reducible exact Below.size (by assumption)) | omega | (simp; omega) | (simp; done)))⟩
    · replace ho : isOctal s[k] = false := by simpa using ho
      have lk1 := look1 s[k]
      have lk2 := look2 s[k]
      have ix := index_str s (k : Int) k rfl hk
      cases hel : escLetter s[k] with
      | none =>
        have hp : escPair s[k] = (0, false) := by unfold escPair; rw [hel]
        have HR : Hid (escaped (s.data.toList.drop k) = ([s[k]], 1)) := Lib.hid (by unfold escaped; rw [if_neg he, hd]; simp only [ho, hel]; rfl)
        rw [hp] at lk1 lk2
        have HE := Lib.hid hel
        clear hd he hel hp
        go_enter Tryz.func177, Tryz.ntmps177
        go_wp2_with (first
          | (go_at_call 118; refine (eol_nat _ _ (by omega) _ hs).mono ?_; rintro e w1 ⟨rfl, hb1⟩; have z1 := hb1.size)
          | (go_at_call 215; refine (octal_any _ _).mono ?_; rintro e w2 ⟨rfl, rfl⟩))
        go_region_with (refine (escapes_any _).mono ?_; rintro e w3 ⟨rfl, rfl⟩)
        all_goals
          have HX := Lib.hid (extract_one hk)
          go_wp2
          go_ret2
          exact ⟨by rw [HR.out, HX.out]; rfl, by (repeat' (first | (with_reducible exact Below.refl _ _) | (with_reducible assumption) | (with_reducible refine Below.alloc ?_ ?_ _) | (with_reducible refine below_drewN ?_ _) | (with_reducible refine Below.drew ?_) | (with_reducible refine Below.setCell ?_ ?_ _) | (with_reducible refine below_trans ?_ (by assumption)) | (with_reducible exact Nat.le_refl _) | (with_reducible exact Below.size (by assumption)) | omega | (simp; omega) | (simp; done)))⟩
      | some x =>
        have hp : escPair s[k] = ((x.toNat : Int), true) := by unfold escPair; rw [hel]
        have HR : Hid (escaped (s.data.toList.drop k) = ([x], 1)) := Lib.hid (by unfold escaped; rw [if_neg he, hd]; simp only [ho, hel]; rfl)
        rw [hp] at lk1 lk2
        have HE := Lib.hid hel
        clear hd he hel hp
        go_enter Tryz.func177, Tryz.ntmps177
        go_wp2_with (first
          | (go_at_call 118; refine (eol_nat _ _ (by omega) _ hs).mono ?_; rintro e w1 ⟨rfl, hb1⟩; have z1 := hb1.size)
          | (go_at_call 215; refine (octal_any _ _).mono ?_; rintro e w2 ⟨rfl, rfl⟩))
        go_region_with (refine (escapes_any _).mono ?_; rintro e w3 ⟨rfl, rfl⟩)
        all_goals
          have cv := conv1 x
          go_wp2
          go_ret2
          exact ⟨by rw [HR.out]; rfl, by (repeat' (first | (with_reducible exact Below.refl _ _) | (with_reducible assumption) | (with_reducible refine Below.alloc ?_ ?_ _) | (with_reducible refine below_drewN ?_ _) | (with_reducible refine Below.drew ?_) | (with_reducible refine Below.setCell ?_ ?_ _) | (with_reducible refine below_trans ?_ (by assumption)) | (with_reducible exact Nat.le_refl _) | (with_reducible exact Below.size (by assumption)) | omega | (simp; omega) | (simp; done)))⟩
end Go.Proofs.YtgkhnpldjdbmoaaGreatDoor
