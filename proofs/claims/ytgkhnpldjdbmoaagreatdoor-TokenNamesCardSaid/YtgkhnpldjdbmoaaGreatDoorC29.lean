/- The walk of text.PutLiteral. -/
import Derived.Test.YtgkhnpldjdbmoaaGreatDoorC28
import Derived.Test.YtgkhnpldjdbmoaaGreatDoorC10
set_option linter.unusedVariables false
set_option linter.unusedSimpArgs false
namespace Go.Proofs.YtgkhnpldjdbmoaaGreatDoor
open Go.RowKit Go.Maps Go.WideShapes

theorem litByte_len (c : UInt8) : (litByte c).length ≤ 4 := by
  have := all_bytes (p := fun c => decide ((litByte c).length ≤ 4)) (by decide +kernel) c
  simpa using this
theorem lit_cases (c : UInt8) : (litByte c = [92, c] ∧ letterOf c = none ∧ (c = 40 ∨ c = 41 ∨ c = 92)) ∨
    ((c.toNat ≠ 40 ∧ c.toNat ≠ 41 ∧ c.toNat ≠ 92) ∧ ((∃ x, letterOf c = some x ∧ litByte c = [92, x]) ∨ (letterOf c = none ∧
      ((litByte c = [c] ∧ 32 ≤ c.toNat ∧ c.toNat < 127) ∨ (litByte c = 92 :: octals c ∧ (c.toNat < 32 ∨ (32 ≤ c.toNat ∧ 127 ≤ c.toNat))))))) := by
  have h1 := all_bytes (p := fun c => decide ((litByte c = [92, c] ∧ letterOf c = none ∧ (c = 40 ∨ c = 41 ∨ c = 92)) ∨
    ((c.toNat ≠ 40 ∧ c.toNat ≠ 41 ∧ c.toNat ≠ 92) ∧ (((letterOf c).isSome = true ∧ litByte c = [92, (letterOf c).getD 0]) ∨ (letterOf c = none ∧
      ((litByte c = [c] ∧ 32 ≤ c.toNat ∧ c.toNat < 127) ∨ (litByte c = 92 :: octals c ∧ (c.toNat < 32 ∨ (32 ≤ c.toNat ∧ 127 ≤ c.toNat))))))))) (by decide +kernel) c
  rcases of_decide_eq_true h1 with h | ⟨h, ⟨h2, h3⟩ | h2⟩
  · exact .inl h
  · obtain ⟨x, hx⟩ := Option.isSome_iff_exists.1 h2
    exact .inr ⟨h, .inl ⟨x, hx, by rw [h3, hx]; rfl⟩⟩
  · exact .inr ⟨h, .inr h2⟩

theorem octals_nums (c : UInt8) : octals c = [UInt8.ofNat (48 + c.toNat / 64), UInt8.ofNat (48 + c.toNat / 8 % 8), UInt8.ofNat (48 + c.toNat % 8)] := by
  have := all_bytes (p := fun c => decide (octals c = [UInt8.ofNat (48 + c.toNat / 64), UInt8.ofNat (48 + c.toNat / 8 % 8), UInt8.ofNat (48 + c.toNat % 8)])) (by decide +kernel) c
  simpa using this
theorem conv3 (c : UInt8) (n1 n2 n3 : Nat) (h1 : c.toNat / 64 = n1) (h2 : c.toNat / 8 % 8 = n2) (h3 : c.toNat % 8 = n3) (b : Nat) (W : World)
    (c0 : W.cell? ⟨b, 0, none⟩ = some (.int .u8 (48 + (n1 : Int)))) (c1 : W.cell? ⟨b, 1, none⟩ = some (.int .u8 (48 + (n2 : Int)))) (c2 : W.cell? ⟨b, 2, none⟩ = some (.int .u8 (48 + (n3 : Int)))) :
    (convert 79 9 (.slice (some ⟨b, 0, none⟩) 3 3)).run Tryz.prog W = .ok (.string (bs (octals c))) W := by
  have := run_convert_bytes_arg (P := Tryz.prog) (w := W) 79 5 Tryz.underlying79 Tryz.underlying5 b 0 3 3 [48 + (n1 : Int), 48 + (n2 : Int), 48 + (n3 : Int)] rfl (by
    intro i hi
    match i with
    | 0 => simpa using c0
    | 1 => simpa using c1
    | 2 => simpa using c2
    | i + 3 => omega) 9 Tryz.underlying9
  have h4 : strOfNums [48 + (n1 : Int), 48 + (n2 : Int), 48 + (n3 : Int)] = bs (octals c) := by
    apply ByteArray.ext
    apply Array.toList_inj.1
    rw [strOfNums_data, octals_nums, h1, h2, h3]
    have e : ∀ n : Nat, (48 + (n : Int)).toNat = 48 + n := fun n => by omega
    simp only [List.map_cons, List.map_nil, e]
    rfl
  rw [this, h4]

set_option maxRecDepth 100000 in
set_option maxHeartbeats 8000000 in
theorem putLiteral_any (s : ByteArray) (w : World) (hs : s.size ≤ 140737488355328) :
    Calls Tryz.prog 129 #[.string s] w fun e w' => e = .returned (strV (litPut s.data.toList)) ∧ Below w.heap.size w w' := by
  have hz := size_list s
  by_cases hbig : 65536 < s.size
  · have HR : Hid (litPut s.data.toList = ([], 3)) := Lib.hid (by unfold litPut; rw [if_pos (by omega)])
    have hd : (65536 : Int) < (s.size : Int) := by omega
    clear hz
    go_enter Tryz.func129, Tryz.ntmps129
    go_wp2
    go_ret2
    exact ⟨by rw [HR.out]; rfl, by (repeat' (first | (with_reducible exact Below.refl _ _) | (with_reducible assumption) | (with_reducible refine Below.alloc ?_ ?_ _) | (with_reducible refine below_drewN ?_ _) | (with_reducible refine Below.drew ?_) | (with_reducible refine Below.setCell ?_ ?_ _) | (with_reducible refine below_trans ?_ (by assumption)) | (with_reducible exact Nat.le_refl _) | (with_reducible exact Below.size (by assumption)) | omega | (simp; omega) | (simp; done)))⟩
  · have HR : Hid (litPut s.data.toList = (40 :: (s.data.toList.flatMap litByte ++ [41]), 0)) := Lib.hid (by unfold litPut; rw [if_neg (by omega)])
    have hd : ¬ (65536 : Int) < (s.size : Int) := by omega
    have hle : s.size ≤ 65536 := by omega
    have HZ := Lib.hid hz; clear hz hbig
    have hmm := @run_makeMap Tryz.prog
    have hom : OM (w.alloc (.map #[] 0)) w.heap.size 0 (.map []) := World.ownsMap_made _ _ _ _
    have HOM := Lib.hid hom; clear hom
    have hw1 : (w.alloc (.map #[] 0)).heap.size = w.heap.size + 1 := by simp
    have hb0 : Below w.heap.size w (w.alloc (.map #[] 0)) := (Below.refl _ _).alloc (Nat.le_refl _) _
    go_enter Tryz.func129, Tryz.ntmps129
    go_wp2_with (first
      | (go_at_call 182; refine (escapes_owns _).mono ?_; rintro e w1 ⟨rfl, hE, hb1⟩; rw [hw1] at hE hb1)
      | (at_range; refine wpList_range_own _ rfl _ 182 rfl 5 5 lawB Tryz.underlying182 _ _ 5 _ rfl hE ?_; intro w2 hrg0 hg0 hs0))
    go_frame
    have q1 := hb1.size; rw [hw1] at q1
    have hb2 : Below w.heap.size w w2 := (hb0.trans (hb1.mono (Nat.le_succ _))).grown hg0 (by omega) (fun j hj => by cases hj)
    have hO2 : OM w2 w.heap.size 0 (.map []) := (om_below HOM.out hb1 (Nat.lt_succ_self _)).kept hg0 (by simp)
    go_loopw [5] (fun _ wr => ∃ (left : Lit → Bool) (cnt : Nat) (D : DataW Unit), wr.ranges Tryz.prog 5 (plainElem Tryz.prog 5) (w.heap.size + 1) w1.heap.size 5 escD left cnt ∧ cnt ≤ 5 ∧
        OM wr w.heap.size (5 - cnt) D ∧ Inv D left ∧ Below w.heap.size w wr ∧ w2.heap.size ≤ wr.heap.size)
      (fun _ wr => wr.rangeLeft (w.heap.size + 1) w1.heap.size)
    case atStart => exact ⟨_, _, .map [], hrg0, by decide, hO2.mono (Nat.zero_le _), inv_start, hb2, Nat.le_refl _⟩
    case round =>
      obtain ⟨left, cnt, D, hrg, hcs, hout, hI, hnx, hzz⟩ := hrel
      go_wp2_with (at_next; refine wpList_next_ranges_ii _ rfl _ rfl 5 5 .u8 .u8 lawB Tryz.underlying5 Tryz.underlying5 (w.heap.size + 1) w1.heap.size 5 _ _ _ rfl hrg ?_ ?_)
      · intro hc0 hl0
        have hF := inv_end hI hl0
        subst hc0
        obtain ⟨wc, hwc⟩ : ∃ wc, wc = wr := ⟨_, rfl⟩
        subst hwc
        have hout : OM wc w.heap.size 5 D := hout
        have HF := Lib.hid hF
        have hA : w.heap.size < wc.heap.size := hout.lt
        have HO := Lib.hid hout
        have HN := Lib.hid (bld_new wc)
        clear hrg hout hI hl0 hF hrg0 hg0 hs0 hO2 hb2 hE hb1 hb0 hmm HOM hw1 hzz q1
        go_wp2_with (go_at_call 62; refine (bld_byte wc.heap.size wc.heap.size [] 40 _ HN.out (by simp) (by simp)).mono ?_; rintro e w5 ⟨rfl, hB5, hb5, _⟩)
        have HB5 := Lib.hid hB5; clear hB5
        go_loopw [29] (fun i wl => ∃ k : Nat, k ≤ s.size ∧ i = .int .i64 k ∧ Bld wc.heap.size wc.heap.size (40 :: (s.data.toList.take k).flatMap litByte) wl ∧ Below wc.heap.size wc wl) (fun i _ => s.size - (intOf i).toNat)
        case atStart => exact ⟨0, by omega, rfl, by simpa using HB5.out, ((Below.refl _ _).alloc (Nat.le_refl _) _).trans hb5⟩
        case round =>
          obtain ⟨k, hk, rfl, hB, hb⟩ := hrel
          have hsz := hb.size
          have HB := Lib.hid hB; clear hB
          have hll := flat_le litByte 4 litByte_len (s.data.toList.take k)
          rw [List.length_take] at hll
          have hOl := om_below HO.out hb hA
          by_cases hlt : k < s.size
          · have hft := flat_take (f := litByte) hlt
            have HFT := Lib.hid hft; clear hft
            have hlt2 := s[k].toNat_lt
            obtain ⟨hh1, hh2⟩ := HF.out s[k]
            have HH2 := Lib.hid hh2; clear hh2
            rcases lit_cases s[k] with ⟨h1, h2, h3⟩ | ⟨⟨n1, n2, n3⟩, hrest⟩
            · rw [h2] at hh1
              have HP := Lib.hid h1
              have HX : Hid ((⟨#[92]⟩ : ByteArray) ++ s.extract k (k + 1) = bs [92, s[k]]) := Lib.hid (by rw [extract_one hlt]; show bs [92] ++ _ = _; rw [bs_append]; rfl)
              clear h1 h2
              have h4 : ((((s[k].toNat : Int) == 40) = true) ∨ (((s[k].toNat : Int) == 40) = false ∧ ((s[k].toNat : Int) == 41) = true) ∨ (((s[k].toNat : Int) == 40) = false ∧ ((s[k].toNat : Int) == 41) = false ∧ ((s[k].toNat : Int) == 92) = true)) := by
                rcases h3 with h | h | h <;> rw [h] <;> decide
              clear h3
              rcases h4 with e1 | ⟨e1, e2⟩ | ⟨e1, e2, e3⟩
              all_goals
                go_wp2_with (first
                  | (at_lookup; refine wpList_lookup_own_ok_int _ rfl _ _ 182 rfl 5 5 .u8 lawB Tryz.underlying182 Tryz.underlying5 (zeroB _) w.heap.size 5 _ rfl hOl _ _ rfl (keyOf_int_mk Tryz.underlying5 (wf8 _)) ?_; intro cc hat hwc)
                  | (go_at_call 63; refine (bld_str wc.heap.size wc.heap.size _ _ _ HB.out (by rw [HX.out, bs_size, List.length_cons]; simp only [List.length_cons, List.length_nil]; omega) hsz).mono ?_; rintro e w6 ⟨rfl, hB6, hb6, _⟩))
                go_roundw
                case rel =>
                  refine ⟨k + 1, by omega, by go_num, ?_, hb.trans hb6⟩
                  rw [HX.out, bs_list] at hB6
                  rw [HFT.out, HP.out]; exact hB6
                case measure => simp [intOf]; omega
            · have e1 : ((s[k].toNat : Int) == 40) = false := by simp; omega
              have e2 : ((s[k].toNat : Int) == 41) = false := by simp; omega
              have e3 : ((s[k].toNat : Int) == 92) = false := by simp; omega
              clear n1 n2 n3
              rcases hrest with ⟨x, h1, h2⟩ | ⟨h1, ⟨h2, h3, h4⟩ | ⟨h2, h3⟩⟩
              · rw [h1] at hh1
                have HP := Lib.hid h2
                have HX : Hid ((⟨#[92]⟩ : ByteArray) ++ bs [x] = bs [92, x]) := Lib.hid (by show bs [92] ++ _ = _; rw [bs_append]; rfl)
                have H1 := Lib.hid h1
                clear h1 h2
                have cv := conv1 x
                have hba : ∀ o, Bld wc.heap.size wc.heap.size (40 :: (s.data.toList.take k).flatMap litByte) (wr.alloc o) := fun o => bld_below HB.out ((Below.refl _ _).alloc (Nat.le_refl _) o)
                have HBA := Lib.hid hba; clear hba
                go_wp2_with (first
                  | (at_lookup; refine wpList_lookup_own_ok_int _ rfl _ _ 182 rfl 5 5 .u8 lawB Tryz.underlying182 Tryz.underlying5 (zeroB _) w.heap.size 5 _ rfl hOl _ _ rfl (keyOf_int_mk Tryz.underlying5 (wf8 _)) ?_; intro cc hat hwc; obtain rfl : cc = (x.toNat : Int) := (by have := (HH2.out x H1.out _).symm.trans hat; injection this with this; injection this with _ this; exact this.symm); clear hat)
                  | (go_at_call 63; refine (bld_str wc.heap.size wc.heap.size _ _ _ (HBA.out _) (by rw [HX.out, bs_size, List.length_cons]; simp only [List.length_cons, List.length_nil]; omega) (by simp; omega)).mono ?_; rintro e w6 ⟨rfl, hB6, hb6, _⟩))
                go_roundw
                case rel =>
                  refine ⟨k + 1, by omega, by go_num, ?_, hb.trans (((Below.refl _ _).alloc hsz _).trans hb6)⟩
                  rw [HX.out, bs_list] at hB6
                  rw [HFT.out, HP.out]; exact hB6
                case measure => simp [intOf]; omega
              · rw [h1] at hh1
                have HP := Lib.hid h2
                have e4 : (32 : Int) ≤ (s[k].toNat : Int) := by omega
                have e5 : (s[k].toNat : Int) < 127 := by omega
                clear h1 h2 h3 h4
                go_wp2_with (first
                  | (at_lookup; refine wpList_lookup_own_ok_int _ rfl _ _ 182 rfl 5 5 .u8 lawB Tryz.underlying182 Tryz.underlying5 (zeroB _) w.heap.size 5 _ rfl hOl _ _ rfl (keyOf_int_mk Tryz.underlying5 (wf8 _)) ?_; intro cc hat hwc)
                  | (go_at_call 62; refine (bld_byte wc.heap.size wc.heap.size _ s[k] _ HB.out (by rw [List.length_cons]; omega) hsz).mono ?_; rintro e w6 ⟨rfl, hB6, hb6, _⟩))
                go_roundw
                case rel =>
                  refine ⟨k + 1, by omega, by go_num, ?_, hb.trans hb6⟩
                  rw [HFT.out, HP.out]; exact hB6
                case measure => simp [intOf]; omega
              · rw [h1] at hh1
                have HP := Lib.hid h2
                have HX : Hid ((⟨#[92]⟩ : ByteArray) ++ bs (octals s[k]) = bs (92 :: octals s[k])) := Lib.hid (by show bs [92] ++ _ = _; rw [bs_append]; rfl)
                have cv := conv3 s[k] _ _ _ rfl rfl rfl
                have a1 : (s[k].toNat : Int).tdiv 64 = ((s[k].toNat / 64 : Nat) : Int) := by rw [Int.tdiv_eq_ediv_of_nonneg (by omega)]; omega
                have a2 : (s[k].toNat : Int).tdiv 8 = ((s[k].toNat / 8 : Nat) : Int) := by rw [Int.tdiv_eq_ediv_of_nonneg (by omega)]; omega
                have a3 : ((s[k].toNat / 8 : Nat) : Int).tmod 8 = ((s[k].toNat / 8 % 8 : Nat) : Int) := by rw [Int.tmod_eq_emod_of_nonneg (by omega)]; omega
                have a4 : (s[k].toNat : Int).tmod 8 = ((s[k].toNat % 8 : Nat) : Int) := by rw [Int.tmod_eq_emod_of_nonneg (by omega)]; omega
                have l1 : s[k].toNat / 64 < 8 := by omega
                have l2 : s[k].toNat / 8 < 32 := by omega
                have l3 : s[k].toNat / 8 % 8 < 8 := by omega
                have l4 : s[k].toNat % 8 < 8 := by omega
                generalize s[k].toNat / 8 % 8 = n2 at *
                generalize s[k].toNat / 64 = n1 at *
                generalize s[k].toNat / 8 = m8 at *
                generalize s[k].toNat % 8 = n3 at *
                have b1 : IntKind.u8.wrap (n1 : Int) = (n1 : Int) := by rw [IntKind.wrap_u8]; omega
                have b2 : IntKind.u8.wrap (48 + (n1 : Int)) = 48 + (n1 : Int) := by rw [IntKind.wrap_u8]; omega
                have b3 : IntKind.u8.wrap (m8 : Int) = (m8 : Int) := by rw [IntKind.wrap_u8]; omega
                have b4 : IntKind.u8.wrap (48 + (n2 : Int)) = 48 + (n2 : Int) := by rw [IntKind.wrap_u8]; omega
                have b5 : IntKind.u8.wrap (48 + (n3 : Int)) = 48 + (n3 : Int) := by rw [IntKind.wrap_u8]; omega
                have hba : ∀ o, Bld wc.heap.size wc.heap.size (40 :: (s.data.toList.take k).flatMap litByte) (wr.alloc o) := fun o => bld_below HB.out ((Below.refl _ _).alloc (Nat.le_refl _) o)
                have HBA := Lib.hid hba; clear hba
                have e45 : (¬ (32 : Int) ≤ (s[k].toNat : Int)) ∨ ((32 : Int) ≤ (s[k].toNat : Int) ∧ ¬ (s[k].toNat : Int) < 127) := by omega
                clear h1 h2 h3
                rcases e45 with e4 | ⟨e4, e5⟩
                all_goals
                  go_wp2_with (first
                    | (at_lookup; refine wpList_lookup_own_ok_int _ rfl _ _ 182 rfl 5 5 .u8 lawB Tryz.underlying182 Tryz.underlying5 (zeroB _) w.heap.size 5 _ rfl hOl _ _ rfl (keyOf_int_mk Tryz.underlying5 (wf8 _)) ?_; intro cc hat hwc)
                    | (go_at_call 63; refine (bld_str wc.heap.size wc.heap.size _ _ _ (HBA.out _) (by rw [HX.out, bs_size, List.length_cons]; simp only [List.length_cons, List.length_nil, octals]; omega) (by simp; omega)).mono ?_; rintro e w6 ⟨rfl, hB6, hb6, _⟩))
                  go_roundw
                  case rel =>
                    refine ⟨k + 1, by omega, by go_num, ?_, hb.trans (((Below.refl _ _).alloc hsz _).trans hb6)⟩
                    rw [HX.out, bs_list] at hB6
                    rw [HFT.out, HP.out]; exact hB6
                  case measure => simp [intOf]; omega
          · obtain rfl : k = s.size := by omega
            have HT := Lib.hid (show s.data.toList.take s.size = s.data.toList by rw [HZ.out, List.take_length])
            go_wp2_with (first
              | (go_at_call 62; refine (bld_byte wc.heap.size wc.heap.size _ 41 _ HB.out (by rw [List.length_cons]; omega) hsz).mono ?_; rintro e w6 ⟨rfl, hB6, hb6, _⟩)
              | (go_at_call 64; refine (bld_string _ _ _ _ hB6 (Nat.le_trans hsz hb6.size)).mono ?_; rintro e w7 ⟨rfl, hb7⟩))
            go_ret2
            exact ⟨by rw [HR.out, HT.out]; rfl, hnx.trans (((hb.trans hb6).trans hb7).mono (by omega))⟩
      · intro x c w3 cnt1 hwx hwc hlx hat hrg1 hlt hg1 hs1 hen
        obtain ⟨xb, cb, rfl, rfl, hlet⟩ := esc_entry hat
        have hout1 := hout.kept hg1 (by simp; omega)
        go_wp2_with (at_mapUpdate; refine wpList_mapUpdate_own _ rfl _ _ _ 182 rfl 5 5 lawB Tryz.underlying182 _ w.heap.size _ _ rfl hout1 (by unfold maxLen; omega) _ _ _ rfl rfl (keyOf_int_mk Tryz.underlying5 hwc) _ [] (plainElem_int Tryz.underlying5 hwx) ?_; intro w4 hout2 hg2; go_frame)
        have hrg2 := hrg1.kept hg2 (fun e => by have := Option.some.inj e; omega) (fun e => by have := Option.some.inj e; omega)
        go_roundw
        case rel =>
          exact ⟨_, cnt1, _, hrg2, by omega, hout2.mono (by omega), inv_step hI hout.isMap hlet,
            (hnx.grown hg1 hnx.size (fun j hj => by cases hj; omega)).grown hg2 (by have := hnx.size; omega) (fun j hj => by cases hj; exact Nat.le_refl _), by have := hg2.size; omega⟩
        case measure => rw [hrg2.left_eq, hrg.left_eq]; exact hlt
end Go.Proofs.YtgkhnpldjdbmoaaGreatDoor
