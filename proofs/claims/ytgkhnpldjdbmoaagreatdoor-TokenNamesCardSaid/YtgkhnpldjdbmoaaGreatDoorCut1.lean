/- The walk of number.cut. -/
import Derived.Test.YtgkhnpldjdbmoaaGreatDoorC3
set_option linter.unusedVariables false
set_option linter.unusedSimpArgs false
namespace Go.Proofs.YtgkhnpldjdbmoaaGreatDoor
open Go.RowKit

theorem sgn_at {s : ByteArray} (h : 0 < s.size) : s.data.toList = s[0] :: s.data.toList.drop 1 := by
  have := drop_at h; simpa using this
theorem sgn_r {s : ByteArray} {r : Bytes} (hr : s.extract 1 s.size = bs r) : s.data.toList.drop 1 = r := by
  rw [← drop_toList, hr, bs_list]
theorem u8_eq {b : UInt8} (n : Nat) (c : UInt8) (h : c.toNat = n) (hb : ((b.toNat : Int) == (n : Int)) = true) : (b == c) = true := by
  simp at hb ⊢; apply UInt8.toNat_inj.1; omega
theorem u8_ne {b : UInt8} (n : Nat) (c : UInt8) (h : c.toNat = n) (hb : ((b.toNat : Int) == (n : Int)) = false) : ¬ (b == c) = true := by
  simp at hb ⊢; intro h2; apply hb; rw [h2]; omega
set_option maxRecDepth 100000 in
set_option maxHeartbeats 2000000 in
theorem cut_neg (s : ByteArray) (w : World) (hs : s.size ≤ 140737488355328) (he : Env w) (h0 : 0 < s.size) (h45 : (((s[0].toNat : Int)) == 45) = true) : Calls Tryz.prog 195 #[.string s] w fun e w' => e = .returned (partsV (cutN s.data.toList)) ∧ Below w.heap.size w w' := by
      obtain ⟨m, hm⟩ := he.maxLen
      have HMG : Hid (∀ w2, Below w.heap.size w w2 → w2.cell? ⟨0, 0, none⟩ = some (.int .i64 m)) := Lib.hid fun w2 hb => cell_below hb hm
      clear hm he
      have hne : (!s.toList.isEmpty) = true := by rw [ByteArray.toList_eq, sgn_at h0]; rfl
      have h43 : (((s[0].toNat : Int)) == 43) = false := by simp at h45 ⊢; omega
      go_enter Tryz.func195, Tryz.ntmps195
      go_wp2
      go_region
      go_wp2_with fail
      obtain ⟨r, hr⟩ : ∃ r, s.extract 1 s.size = bs r := ⟨_, (list_bs _).symm⟩
      have hrl : r.length ≤ s.size := by rw [← bs_size, ← hr]; simp
      have HS : Hid (sgn s.data.toList = (true, r)) := Lib.hid (by rw [sgn_at h0, sgn_r hr]; simp only [sgn]; rw [if_pos (u8_eq 45 45 rfl h45)])
      rw [hr]
      clear hr
      clear hne h45 h43
      refine (cut_calls r _ (by omega) m (HMG.out _ (by (repeat' (first | (with_reducible exact Below.refl _ _) | (with_reducible assumption) | (with_reducible refine Below.alloc ?_ ?_ _) | (with_reducible refine below_drewN ?_ _) | (with_reducible refine Below.drew ?_) | (with_reducible refine Below.setCell ?_ ?_ _) | (with_reducible refine below_trans ?_ (by assumption)) | (with_reducible exact Nat.le_refl _) | (with_reducible exact Below.size (by assumption)) | omega | (simp; omega) | (simp; done)))))).mono ?_
      rintro e w1 ⟨rfl, n, rfl⟩
      have ha := dotA_le r
      have hb := dotB_le r
      generalize hA : dotA r = A at *
      generalize hB : dotB r = B at *
      generalize hP : dotP r = P at *
      have HA := Lib.hid hA; have HB := Lib.hid hB; have HP := Lib.hid hP; clear hA hB hP
      have hn2 := none2_walk A B
      have hsA : (bs A).size ≤ 140737488355328 := by rw [bs_size]; omega
      have hsB : (bs B).size ≤ 140737488355328 := by rw [bs_size]; omega
      have hX : allDig A = false ∨ allDig A = true ∧ allDig B = false ∨ allDig A = true ∧ allDig B = true ∧ none2 A B = true ∨ allDig A = true ∧ allDig B = true ∧ none2 A B = false := by
        cases allDig A <;> cases allDig B <;> cases none2 A B <;> simp
      rcases hX with hX | ⟨hX, hY⟩ | ⟨hX, hY, hZ⟩ | ⟨hX, hY, hZ⟩
      · have HR := Lib.hid (cutN_no _ _ _ _ _ HS.out HA.out HB.out (.inl hX))
        have H1 := Lib.hid hX; clear hX hn2
        cases P
        all_goals
          go_wp2_with (go_at_call 221; refine (digits_bs _ _ (by omega)).mono ?_; rintro e w1 ⟨rfl, rfl⟩; rw [H1.out])
          rw [HR.out]
          refine bodyPost_ret (v := partsV ⟨0, false, [], []⟩) (by simp [results, Tryz.results195, go_sem, partsV, bs]) rfl ⟨rfl, by (repeat' (first | (with_reducible exact Below.refl _ _) | (with_reducible assumption) | (with_reducible refine Below.alloc ?_ ?_ _) | (with_reducible refine below_drewN ?_ _) | (with_reducible refine Below.drew ?_) | (with_reducible refine Below.setCell ?_ ?_ _) | (with_reducible refine below_trans ?_ (by assumption)) | (with_reducible exact Nat.le_refl _) | (with_reducible exact Below.size (by assumption)) | omega | (simp; omega) | (simp; done)))⟩
      · have HR := Lib.hid (cutN_no _ _ _ _ _ HS.out HA.out HB.out (.inr (.inl hY)))
        have H1 := Lib.hid hX; have H2 := Lib.hid hY; clear hX hY hn2
        cases P
        all_goals
          go_wp2_with (go_at_call 221; refine (digits_bs _ _ (by omega)).mono ?_; rintro e w1 ⟨rfl, rfl⟩; first | rw [H1.out] | rw [H2.out])
          rw [HR.out]
          refine bodyPost_ret (v := partsV ⟨0, false, [], []⟩) (by simp [results, Tryz.results195, go_sem, partsV, bs]) rfl ⟨rfl, by (repeat' (first | (with_reducible exact Below.refl _ _) | (with_reducible assumption) | (with_reducible refine Below.alloc ?_ ?_ _) | (with_reducible refine below_drewN ?_ _) | (with_reducible refine Below.drew ?_) | (with_reducible refine Below.setCell ?_ ?_ _) | (with_reducible refine below_trans ?_ (by assumption)) | (with_reducible exact Nat.le_refl _) | (with_reducible exact Below.size (by assumption)) | omega | (simp; omega) | (simp; done)))⟩
      · have HR := Lib.hid (cutN_no _ _ _ _ _ HS.out HA.out HB.out (.inr (.inr hZ)))
        rw [hZ] at hn2
        have H1 := Lib.hid hX; have H2 := Lib.hid hY; clear hX hY hZ
        cases P
        all_goals
          go_wp2_with (go_at_call 221; refine (digits_bs _ _ (by omega)).mono ?_; rintro e w1 ⟨rfl, rfl⟩; first | rw [H1.out] | rw [H2.out])
          rw [HR.out]
          refine bodyPost_ret (v := partsV ⟨0, false, [], []⟩) (by simp [results, Tryz.results195, go_sem, partsV, bs]) rfl ⟨rfl, by (repeat' (first | (with_reducible exact Below.refl _ _) | (with_reducible assumption) | (with_reducible refine Below.alloc ?_ ?_ _) | (with_reducible refine below_drewN ?_ _) | (with_reducible refine Below.drew ?_) | (with_reducible refine Below.setCell ?_ ?_ _) | (with_reducible refine below_trans ?_ (by assumption)) | (with_reducible exact Nat.le_refl _) | (with_reducible exact Below.size (by assumption)) | omega | (simp; omega) | (simp; done)))⟩
      · have HR := Lib.hid (cutN_yes _ _ _ _ _ _ HS.out HA.out HB.out HP.out hX hY hZ)
        rw [hZ] at hn2
        have H1 := Lib.hid hX; have H2 := Lib.hid hY; clear hX hY hZ
        cases P
        all_goals
          go_wp2_with (go_at_call 221; refine (digits_bs _ _ (by omega)).mono ?_; rintro e w1 ⟨rfl, rfl⟩; first | rw [H1.out] | rw [H2.out])
          rw [HR.out]
          refine bodyPost_ret (v := partsV _) (by simp [results, Tryz.results195, go_sem, partsV]) rfl ⟨rfl, by (repeat' (first | (with_reducible exact Below.refl _ _) | (with_reducible assumption) | (with_reducible refine Below.alloc ?_ ?_ _) | (with_reducible refine below_drewN ?_ _) | (with_reducible refine Below.drew ?_) | (with_reducible refine Below.setCell ?_ ?_ _) | (with_reducible refine below_trans ?_ (by assumption)) | (with_reducible exact Nat.le_refl _) | (with_reducible exact Below.size (by assumption)) | omega | (simp; omega) | (simp; done)))⟩

set_option maxRecDepth 100000 in
set_option maxHeartbeats 2000000 in
theorem cut_pos (s : ByteArray) (w : World) (hs : s.size ≤ 140737488355328) (he : Env w) (h0 : 0 < s.size) (h43 : (((s[0].toNat : Int)) == 43) = true) : Calls Tryz.prog 195 #[.string s] w fun e w' => e = .returned (partsV (cutN s.data.toList)) ∧ Below w.heap.size w w' := by
      obtain ⟨m, hm⟩ := he.maxLen
      have HMG : Hid (∀ w2, Below w.heap.size w w2 → w2.cell? ⟨0, 0, none⟩ = some (.int .i64 m)) := Lib.hid fun w2 hb => cell_below hb hm
      clear hm he
      have hne : (!s.toList.isEmpty) = true := by rw [ByteArray.toList_eq, sgn_at h0]; rfl
      have h45 : (((s[0].toNat : Int)) == 45) = false := by simp at h43 ⊢; omega
      go_enter Tryz.func195, Tryz.ntmps195
      go_wp2
      go_region
      go_wp2_with fail
      obtain ⟨r, hr⟩ : ∃ r, s.extract 1 s.size = bs r := ⟨_, (list_bs _).symm⟩
      have hrl : r.length ≤ s.size := by rw [← bs_size, ← hr]; simp
      have HS : Hid (sgn s.data.toList = (false, r)) := Lib.hid (by rw [sgn_at h0, sgn_r hr]; simp only [sgn]; rw [if_neg (u8_ne 45 45 rfl h45), if_pos (u8_eq 43 43 rfl h43)])
      rw [hr]
      clear hr
      clear hne h45 h43
      refine (cut_calls r _ (by omega) m (HMG.out _ (by (repeat' (first | (with_reducible exact Below.refl _ _) | (with_reducible assumption) | (with_reducible refine Below.alloc ?_ ?_ _) | (with_reducible refine below_drewN ?_ _) | (with_reducible refine Below.drew ?_) | (with_reducible refine Below.setCell ?_ ?_ _) | (with_reducible refine below_trans ?_ (by assumption)) | (with_reducible exact Nat.le_refl _) | (with_reducible exact Below.size (by assumption)) | omega | (simp; omega) | (simp; done)))))).mono ?_
      rintro e w1 ⟨rfl, n, rfl⟩
      have ha := dotA_le r
      have hb := dotB_le r
      generalize hA : dotA r = A at *
      generalize hB : dotB r = B at *
      generalize hP : dotP r = P at *
      have HA := Lib.hid hA; have HB := Lib.hid hB; have HP := Lib.hid hP; clear hA hB hP
      have hn2 := none2_walk A B
      have hsA : (bs A).size ≤ 140737488355328 := by rw [bs_size]; omega
      have hsB : (bs B).size ≤ 140737488355328 := by rw [bs_size]; omega
      have hX : allDig A = false ∨ allDig A = true ∧ allDig B = false ∨ allDig A = true ∧ allDig B = true ∧ none2 A B = true ∨ allDig A = true ∧ allDig B = true ∧ none2 A B = false := by
        cases allDig A <;> cases allDig B <;> cases none2 A B <;> simp
      rcases hX with hX | ⟨hX, hY⟩ | ⟨hX, hY, hZ⟩ | ⟨hX, hY, hZ⟩
      · have HR := Lib.hid (cutN_no _ _ _ _ _ HS.out HA.out HB.out (.inl hX))
        have H1 := Lib.hid hX; clear hX hn2
        cases P
        all_goals
          go_wp2_with (go_at_call 221; refine (digits_bs _ _ (by omega)).mono ?_; rintro e w1 ⟨rfl, rfl⟩; rw [H1.out])
          rw [HR.out]
          refine bodyPost_ret (v := partsV ⟨0, false, [], []⟩) (by simp [results, Tryz.results195, go_sem, partsV, bs]) rfl ⟨rfl, by (repeat' (first | (with_reducible exact Below.refl _ _) | (with_reducible assumption) | (with_reducible refine Below.alloc ?_ ?_ _) | (with_reducible refine below_drewN ?_ _) | (with_reducible refine Below.drew ?_) | (with_reducible refine Below.setCell ?_ ?_ _) | (with_reducible refine below_trans ?_ (by assumption)) | (with_reducible exact Nat.le_refl _) | (with_reducible exact Below.size (by assumption)) | omega | (simp; omega) | (simp; done)))⟩
      · have HR := Lib.hid (cutN_no _ _ _ _ _ HS.out HA.out HB.out (.inr (.inl hY)))
        have H1 := Lib.hid hX; have H2 := Lib.hid hY; clear hX hY hn2
        cases P
        all_goals
          go_wp2_with (go_at_call 221; refine (digits_bs _ _ (by omega)).mono ?_; rintro e w1 ⟨rfl, rfl⟩; first | rw [H1.out] | rw [H2.out])
          rw [HR.out]
          refine bodyPost_ret (v := partsV ⟨0, false, [], []⟩) (by simp [results, Tryz.results195, go_sem, partsV, bs]) rfl ⟨rfl, by (repeat' (first | (with_reducible exact Below.refl _ _) | (with_reducible assumption) | (with_reducible refine Below.alloc ?_ ?_ _) | (with_reducible refine below_drewN ?_ _) | (with_reducible refine Below.drew ?_) | (with_reducible refine Below.setCell ?_ ?_ _) | (with_reducible refine below_trans ?_ (by assumption)) | (with_reducible exact Nat.le_refl _) | (with_reducible exact Below.size (by assumption)) | omega | (simp; omega) | (simp; done)))⟩
      · have HR := Lib.hid (cutN_no _ _ _ _ _ HS.out HA.out HB.out (.inr (.inr hZ)))
        rw [hZ] at hn2
        have H1 := Lib.hid hX; have H2 := Lib.hid hY; clear hX hY hZ
        cases P
        all_goals
          go_wp2_with (go_at_call 221; refine (digits_bs _ _ (by omega)).mono ?_; rintro e w1 ⟨rfl, rfl⟩; first | rw [H1.out] | rw [H2.out])
          rw [HR.out]
          refine bodyPost_ret (v := partsV ⟨0, false, [], []⟩) (by simp [results, Tryz.results195, go_sem, partsV, bs]) rfl ⟨rfl, by (repeat' (first | (with_reducible exact Below.refl _ _) | (with_reducible assumption) | (with_reducible refine Below.alloc ?_ ?_ _) | (with_reducible refine below_drewN ?_ _) | (with_reducible refine Below.drew ?_) | (with_reducible refine Below.setCell ?_ ?_ _) | (with_reducible refine below_trans ?_ (by assumption)) | (with_reducible exact Nat.le_refl _) | (with_reducible exact Below.size (by assumption)) | omega | (simp; omega) | (simp; done)))⟩
      · have HR := Lib.hid (cutN_yes _ _ _ _ _ _ HS.out HA.out HB.out HP.out hX hY hZ)
        rw [hZ] at hn2
        have H1 := Lib.hid hX; have H2 := Lib.hid hY; clear hX hY hZ
        cases P
        all_goals
          go_wp2_with (go_at_call 221; refine (digits_bs _ _ (by omega)).mono ?_; rintro e w1 ⟨rfl, rfl⟩; first | rw [H1.out] | rw [H2.out])
          rw [HR.out]
          refine bodyPost_ret (v := partsV _) (by simp [results, Tryz.results195, go_sem, partsV]) rfl ⟨rfl, by (repeat' (first | (with_reducible exact Below.refl _ _) | (with_reducible assumption) | (with_reducible refine Below.alloc ?_ ?_ _) | (with_reducible refine below_drewN ?_ _) | (with_reducible refine Below.drew ?_) | (with_reducible refine Below.setCell ?_ ?_ _) | (with_reducible refine below_trans ?_ (by assumption)) | (with_reducible exact Nat.le_refl _) | (with_reducible exact Below.size (by assumption)) | omega | (simp; omega) | (simp; done)))⟩

end Go.Proofs.YtgkhnpldjdbmoaaGreatDoor
