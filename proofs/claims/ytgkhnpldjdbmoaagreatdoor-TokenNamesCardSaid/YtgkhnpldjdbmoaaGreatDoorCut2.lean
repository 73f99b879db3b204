/- The walk of number.cut, its second half. -/
import Derived.Test.YtgkhnpldjdbmoaaGreatDoorCut1
set_option linter.unusedVariables false
set_option linter.unusedSimpArgs false
namespace Go.Proofs.YtgkhnpldjdbmoaaGreatDoor
open Go.RowKit

set_option maxRecDepth 100000 in
set_option maxHeartbeats 2000000 in
theorem cut_none (s : ByteArray) (w : World) (hs : s.size ≤ 140737488355328) (he : Env w) (h0 : 0 < s.size) (h43 : (((s[0].toNat : Int)) == 43) = false) (h45 : (((s[0].toNat : Int)) == 45) = false) : Calls Tryz.prog 195 #[.string s] w fun e w' => e = .returned (partsV (cutN s.data.toList)) ∧ Below w.heap.size w w' := by
      obtain ⟨m, hm⟩ := he.maxLen
      have HMG : Hid (∀ w2, Below w.heap.size w w2 → w2.cell? ⟨0, 0, none⟩ = some (.int .i64 m)) := Lib.hid fun w2 hb => cell_below hb hm
      clear hm he
      obtain ⟨r, rfl⟩ : ∃ r, s = bs r := ⟨_, (list_bs _).symm⟩
      have hrl : r.length ≤ (bs r).size := by rw [bs_size]; omega
      have HS : Hid (sgn (bs r).data.toList = (false, r)) := Lib.hid (by have e := sgn_at h0; rw [e]; simp only [sgn]; rw [if_neg (u8_ne 45 45 rfl h45), if_neg (u8_ne 43 43 rfl h43), ← e]; rfl)
      have hne : (!(bs r).toList.isEmpty) = true := by rw [ByteArray.toList_eq, sgn_at h0]; rfl
      go_enter Tryz.func195, Tryz.ntmps195
      go_wp2_with fail
      clear hne h45 h43
      refine (cut_calls r _ (by omega) m (HMG.out _ (by (repeat' (first | (with_reducible exact Below.refl _ _) | (with_reducible assumption) | (with_reducible refine Below.alloc ?_ ?_ _) | (with_reducible refine below_drewN ?_ _) | (with_reducible refine Below.drew ?_) | (with_reducible refine Below.setCell ?_ ?_ _) | (with_reducible refine below_trans ?_ (by assumption)) | (with_reducible exact Nat.le_refl _) | (with_reducible exact Below.size (by assumption)) | omega | (simp; omega) | (simp; done)))))).mono ?_
      rintro e w1 ⟨rfl, n, rfl⟩
      have ha := dotA_le r
      have hb := dotB_le r
      generalize hA : dotA r = A at *
      generalize hB : dotB r = B at *
      generalize hP : dotP r = P at *
      have HA := Lib.hid hA; have HB := Lib.hid hB; have HP := Lib.hid hP; clear hA hB hP
      have hn2 := none2_walk A B
      have hsA : (bs A).size ≤ 140737488355328 := by rw [bs_size]; omega
      have hsB : (bs B).size ≤ 140737488355328 := by rw [bs_size]; omega
      have hX : allDig A = false ∨ allDig A = true ∧ allDig B = false ∨ allDig A = true ∧ allDig B = true ∧ none2 A B = true ∨ allDig A = true ∧ allDig B = true ∧ none2 A B = false := by
        cases allDig A <;> cases allDig B <;> cases none2 A B <;> simp
      rcases hX with hX | ⟨hX, hY⟩ | ⟨hX, hY, hZ⟩ | ⟨hX, hY, hZ⟩
      · have HR := Lib.hid (cutN_no _ _ _ _ _ HS.out HA.out HB.out (.inl hX))
        have H1 := Lib.hid hX; clear hX hn2
        cases P
        all_goals
          go_wp2_with (go_at_call 221; refine (digits_bs _ _ (by omega)).mono ?_; rintro e w1 ⟨rfl, rfl⟩; rw [H1.out])
          rw [HR.out]
          refine bodyPost_ret (v := partsV ⟨0, false, [], []⟩) (by simp [results, Tryz.results195, go_sem, partsV, bs]) rfl ⟨rfl, by (repeat' (first | (with_reducible exact Below.refl _ _) | (with_reducible assumption) | (with_reducible refine Below.alloc ?_ ?_ _) | (with_reducible refine below_drewN ?_ _) | (with_reducible refine Below.drew ?_) | (with_reducible refine Below.setCell ?_ ?_ _) | (with_reducible refine below_trans ?_ (by assumption)) | (with_reducible exact Nat.le_refl _) | (with_reducible exact Below.size (by assumption)) | omega | (simp; omega) | (simp; done)))⟩
      · have HR := Lib.hid (cutN_no _ _ _ _ _ HS.out HA.out HB.out (.inr (.inl hY)))
        have H1 := Lib.hid hX; have H2 := Lib.hid hY; clear hX hY hn2
        cases P
        all_goals
          go_wp2_with (go_at_call 221; refine (digits_bs _ _ (by omega)).mono ?_; rintro e w1 ⟨rfl, rfl⟩; first | rw [H1.out] | rw [H2.out])
          rw [HR.out]
          refine bodyPost_ret (v := partsV ⟨0, false, [], []⟩) (by simp [results, Tryz.results195, go_sem, partsV, bs]) rfl ⟨rfl, by (repeat' (first | (with_reducible exact Below.refl _ _) | (with_reducible assumption) | (with_reducible refine Below.alloc ?_ ?_ _) | (with_reducible refine below_drewN ?_ _) | (with_reducible refine Below.drew ?_) | (with_reducible refine Below.setCell ?_ ?_ _) | (with_reducible refine below_trans ?_ (by assumption)) | (with_reducible exact Nat.le_refl _) | (with_reducible exact Below.size (by assumption)) | omega | (simp; omega) | (simp; done)))⟩
      · have HR := Lib.hid (cutN_no _ _ _ _ _ HS.out HA.out HB.out (.inr (.inr hZ)))
        rw [hZ] at hn2
        have H1 := Lib.hid hX; have H2 := Lib.hid hY; clear hX hY hZ
        cases P
        all_goals
          go_wp2_with (go_at_call 221; refine (digits_bs _ _ (by omega)).mono ?_; rintro e w1 ⟨rfl, rfl⟩; first | rw [H1.out] | rw [H2.out])
          rw [HR.out]
          refine bodyPost_ret (v := partsV ⟨0, false, [], []⟩) (by simp [results, Tryz.results195, go_sem, partsV, bs]) rfl ⟨rfl, by (repeat' (first | (with_reducible exact Below.refl _ _) | (with_reducible assumption) | (with_reducible refine Below.alloc ?_ ?_ _) | (with_reducible refine below_drewN ?_ _) | (with_reducible refine Below.drew ?_) | (with_reducible refine Below.setCell ?_ ?_ _) | (with_reducible refine below_trans ?_ (by assumption)) | (with_reducible exact Nat.le_refl _) | (with_reducible exact Below.size (by assumption)) | omega | (simp; omega) | (simp; done)))⟩
      · have HR := Lib.hid (cutN_yes _ _ _ _ _ _ HS.out HA.out HB.out HP.out hX hY hZ)
        rw [hZ] at hn2
        have H1 := Lib.hid hX; have H2 := Lib.hid hY; clear hX hY hZ
        cases P
        all_goals
          go_wp2_with (go_at_call 221; refine (digits_bs _ _ (by omega)).mono ?_; rintro e w1 ⟨rfl, rfl⟩; first | rw [H1.out] | rw [H2.out])
          rw [HR.out]
          refine bodyPost_ret (v := partsV _) (by simp [results, Tryz.results195, go_sem, partsV]) rfl ⟨rfl, by (repeat' (first | (with_reducible exact Below.refl _ _) | (with_reducible assumption) | (with_reducible refine Below.alloc ?_ ?_ _) | (with_reducible refine below_drewN ?_ _) | (with_reducible refine Below.drew ?_) | (with_reducible refine Below.setCell ?_ ?_ _) | (with_reducible refine below_trans ?_ (by assumption)) | (with_reducible exact Nat.le_refl _) | (with_reducible exact Below.size (by assumption)) | omega | (simp; omega) | (simp; done)))⟩

set_option maxRecDepth 100000 in
set_option maxHeartbeats 2000000 in
theorem cut_empty (s : ByteArray) (w : World) (hs : s.size ≤ 140737488355328) (he : Env w) (h0 : s.size = 0) : Calls Tryz.prog 195 #[.string s] w fun e w' => e = .returned (partsV (cutN s.data.toList)) ∧ Below w.heap.size w w' := by
      obtain ⟨m, hm⟩ := he.maxLen
      have HMG : Hid (∀ w2, Below w.heap.size w w2 → w2.cell? ⟨0, 0, none⟩ = some (.int .i64 m)) := Lib.hid fun w2 hb => cell_below hb hm
      clear hm he
      obtain ⟨r, rfl⟩ : ∃ r, s = bs r := ⟨_, (list_bs _).symm⟩
      have hrl : r.length ≤ (bs r).size := by rw [bs_size]; omega
      have HS : Hid (sgn (bs r).data.toList = (false, r)) := Lib.hid (by rw [bs_list]; rw [bs_size] at h0; cases r <;> simp_all [sgn])
      have hne : (!(bs r).toList.isEmpty) = false := by rw [bs_toList]; rw [bs_size] at h0; cases r <;> simp_all
      go_enter Tryz.func195, Tryz.ntmps195
      go_wp2_with fail
      clear hne
      refine (cut_calls r _ (by omega) m (HMG.out _ (by (repeat' (first | (with_reducible exact Below.refl _ _) | (with_reducible assumption) | (with_reducible refine Below.alloc ?_ ?_ _) | (with_reducible refine below_drewN ?_ _) | (with_reducible refine Below.drew ?_) | (with_reducible refine Below.setCell ?_ ?_ _) | (with_reducible refine below_trans ?_ (by assumption)) | (with_reducible exact Nat.le_refl _) | (with_reducible exact Below.size (by assumption)) | omega | (simp; omega) | (simp; done)))))).mono ?_
      rintro e w1 ⟨rfl, n, rfl⟩
      have ha := dotA_le r
      have hb := dotB_le r
      generalize hA : dotA r = A at *
      generalize hB : dotB r = B at *
      generalize hP : dotP r = P at *
      have HA := Lib.hid hA; have HB := Lib.hid hB; have HP := Lib.hid hP; clear hA hB hP
      have hn2 := none2_walk A B
      have hsA : (bs A).size ≤ 140737488355328 := by rw [bs_size]; omega
      have hsB : (bs B).size ≤ 140737488355328 := by rw [bs_size]; omega
      have hX : allDig A = false ∨ allDig A = true ∧ allDig B = false ∨ allDig A = true ∧ allDig B = true ∧ none2 A B = true ∨ allDig A = true ∧ allDig B = true ∧ none2 A B = false := by
        cases allDig A <;> cases allDig B <;> cases none2 A B <;> simp
      rcases hX with hX | ⟨hX, hY⟩ | ⟨hX, hY, hZ⟩ | ⟨hX, hY, hZ⟩
      · have HR := Lib.hid (cutN_no _ _ _ _ _ HS.out HA.out HB.out (.inl hX))
        have H1 := Lib.hid hX; clear hX hn2
        cases P
        all_goals
          go_wp2_with (go_at_call 221; refine (digits_bs _ _ (by omega)).mono ?_; rintro e w1 ⟨rfl, rfl⟩; rw [H1.out])
          rw [HR.out]
          refine bodyPost_ret (v := partsV ⟨0, false, [], []⟩) (by simp [results, Tryz.results195, go_sem, partsV, bs]) rfl ⟨rfl, by (repeat' (first | (with_reducible exact Below.refl _ _) | (with_reducible assumption) | (with_reducible refine Below.alloc ?_ ?_ _) | (with_reducible refine below_drewN ?_ _) | (with_reducible refine Below.drew ?_) | (with_reducible refine Below.setCell ?_ ?_ _) | (with_reducible refine below_trans ?_ (by assumption)) | (with_reducible exact Nat.le_refl _) | (with_reducible exact Below.size (by assumption)) | omega | (simp; omega) | (simp; done)))⟩
      · have HR := Lib.hid (cutN_no _ _ _ _ _ HS.out HA.out HB.out (.inr (.inl hY)))
        have H1 := Lib.hid hX; have H2 := Lib.hid hY; clear hX hY hn2
        cases P
        all_goals
          go_wp2_with (go_at_call 221; refine (digits_bs _ _ (by omega)).mono ?_; rintro e w1 ⟨rfl, rfl⟩; first | rw [H1.out] | rw [H2.out])
          rw [HR.out]
          refine bodyPost_ret (v := partsV ⟨0, false, [], []⟩) (by simp [results, Tryz.results195, go_sem, partsV, bs]) rfl ⟨rfl, by (repeat' (first | (with_reducible exact Below.refl _ _) | (with_reducible assumption) | (with_reducible refine Below.alloc ?_ ?_ _) | (with_reducible refine below_drewN ?_ _) | (with_reducible refine Below.drew ?_) | (with_reducible refine Below.setCell ?_ ?_ _) | (with_reducible refine below_trans ?_ (by assumption)) | (with_reducible exact Nat.le_refl _) | (with_reducible exact Below.size (by assumption)) | omega | (simp; omega) | (simp; done)))⟩
      · have HR := Lib.hid (cutN_no _ _ _ _ _ HS.out HA.out HB.out (.inr (.inr hZ)))
        rw [hZ] at hn2
        have H1 := Lib.hid hX; have H2 := Lib.hid hY; clear hX hY hZ
        cases P
        all_goals
          go_wp2_with (go_at_call 221; refine (digits_bs _ _ (by omega)).mono ?_; rintro e w1 ⟨rfl, rfl⟩; first | rw [H1.out] | rw [H2.out])
          rw [HR.out]
          refine bodyPost_ret (v := partsV ⟨0, false, [], []⟩) (by simp [results, Tryz.results195, go_sem, partsV, bs]) rfl ⟨rfl, by (repeat' (first | (with_reducible exact Below.refl _ _) | (with_reducible assumption) | (with_reducible refine Below.alloc ?_ ?_ _) | (with_reducible refine below_drewN ?_ _) | (with_reducible refine Below.drew ?_) | (with_reducible refine Below.setCell ?_ ?_ _) | (with_reducible refine below_trans ?_ (by assumption)) | (with_reducible exact Nat.le_refl _) | (with_reducible exact Below.size (by assumption)) | omega | (simp; omega) | (simp; done)))⟩
      · have HR := Lib.hid (cutN_yes _ _ _ _ _ _ HS.out HA.out HB.out HP.out hX hY hZ)
        rw [hZ] at hn2
        have H1 := Lib.hid hX; have H2 := Lib.hid hY; clear hX hY hZ
        cases P
        all_goals
          go_wp2_with (go_at_call 221; refine (digits_bs _ _ (by omega)).mono ?_; rintro e w1 ⟨rfl, rfl⟩; first | rw [H1.out] | rw [H2.out])
          rw [HR.out]
          refine bodyPost_ret (v := partsV _) (by simp [results, Tryz.results195, go_sem, partsV]) rfl ⟨rfl, by (repeat' (first | (with_reducible exact Below.refl _ _) | (with_reducible assumption) | (with_reducible refine Below.alloc ?_ ?_ _) | (with_reducible refine below_drewN ?_ _) | (with_reducible refine Below.drew ?_) | (with_reducible refine Below.setCell ?_ ?_ _) | (with_reducible refine below_trans ?_ (by assumption)) | (with_reducible exact Nat.le_refl _) | (with_reducible exact Below.size (by assumption)) | omega | (simp; omega) | (simp; done)))⟩

theorem cut_any (s : ByteArray) (w : World) (hs : s.size ≤ 140737488355328) (he : Env w) : Calls Tryz.prog 195 #[.string s] w fun e w' => e = .returned (partsV (cutN s.data.toList)) ∧ Below w.heap.size w w' := by
  by_cases h0 : 0 < s.size
  · by_cases h45 : (((s[0].toNat : Int)) == 45) = true
    · exact cut_neg s w hs he h0 h45
    · by_cases h43 : (((s[0].toNat : Int)) == 43) = true
      · exact cut_pos s w hs he h0 h43
      · exact cut_none s w hs he h0 (by simpa using h43) (by simpa using h45)
  · exact cut_empty s w hs he (by omega)
end Go.Proofs.YtgkhnpldjdbmoaaGreatDoor
