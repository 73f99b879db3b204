/- The walk of TokenBack. -/
import Derived.Test.YtgkhnpldjdbmoaaGreatDoorC35
import Derived.OwnWalk
set_option linter.unusedVariables false
set_option linter.unusedSimpArgs false
namespace Go.Proofs.YtgkhnpldjdbmoaaGreatDoor
open Go.RowKit

def RT.good (t : RT) : Bool := t.txt.2 == 0 && t.k != 0 && decide (t.s.size ≤ 3000)
theorem good_ok {t : RT} (h : t.good = true) (hf : t.fits) : t.ok ∧ t.k ≠ 0 := by
  unfold RT.good at h
  simp only [Bool.and_eq_true, beq_iff_eq, bne_iff_ne, ne_eq] at h
  exact ⟨⟨h.1.1, hf.1, hf.2⟩, h.1.2⟩
theorem filter_next {ts : List RT} {k : Nat} (h : k < ts.length) : (ts.take (k + 1)).filter RT.good = (ts.take k).filter RT.good ++ (if ts[k].good then [ts[k]] else []) := by
  rw [List.take_succ_eq_append_getElem h, List.filter_append]
  cases hg : ts[k].good <;> simp [hg]

set_option maxRecDepth 100000 in
set_option maxHeartbeats 8000000 in
theorem back_any (ts : List RT) (ao : Option Addr) (cap : Nat) (w : World) (hf : ∀ t ∈ ts, t.fits) (he : EnvP w) (hl : ts.length ≤ 9000000000000000000) (hh : 0 < ts.length → ∃ g o, ao = some ⟨g, o, none⟩ ∧ HoldsO w g o ts) :
    Calls Tryz.prog 7 #[.slice ao ts.length cap] w fun e w' => e = .returned (.bool true) ∧ Below w.heap.size w w' := by
  have HE := Lib.hid he
  have HH := Lib.hid hh; clear hh
  have HF := Lib.hid hf; clear hf
  by_cases hbig : 100 < ts.length
  · have hd : (100 : Int) < (ts.length : Int) := by omega
    clear hbig
    go_enter Tryz.func7, Tryz.ntmps7
    go_wp2_with (go_at_call 26; refine (lives_any _ HE.out.env).mono ?_; rintro e w1 ⟨rfl, hb1⟩)
    go_ret
    exact ⟨rfl, hb1⟩
  · have hd : ¬ (100 : Int) < (ts.length : Int) := by omega
    obtain ⟨i0, hi, hz0, hz1, hz2⟩ := tok_info infoTok
    clear he
    go_enter Tryz.func7, Tryz.ntmps7
    go_wp2_with (go_at_call 26; refine (lives_any _ HE.out.env).mono ?_; rintro e w1 ⟨rfl, hb1⟩)
    have HE1 := Lib.hid (HE.out.below hb1)
    go_loopw [3, 4] (fun v i wr => ∃ k : Nat, k ≤ ts.length ∧ i = .int .i64 k ∧ wr.ownsRow w1.heap.size 47 5 v ((ts.take k).filter RT.good).length (rtCells ((ts.take k).filter RT.good)) ∧ Below w1.heap.size w1 wr) (fun _ i _ => ts.length - (intOf i).toNat)
    case atStart => exact ⟨0, by omega, rfl, World.ownsRow_nil _ _ _ _, Below.refl _ _⟩
    case round =>
      obtain ⟨k, hk, rfl, hown, hb⟩ := hrel
      have hsz := hb.size
      have HO := Lib.hid hown; clear hown
      obtain ⟨bo, bc, rfl⟩ := row_shape HO.out
      have hfl : ((ts.take k).filter RT.good).length ≤ 100 := by
        have h1 := List.length_filter_le RT.good (ts.take k)
        rw [List.length_take] at h1; omega
      by_cases hlt : k < ts.length
      · obtain ⟨g, o, rfl, hg⟩ := HH.out (by omega)
        obtain ⟨c0, c1, c2, c3, c4⟩ := (hg.below hb1).below hb k hlt
        obtain ⟨o2, o3⟩ := HF.out ts[k] (List.getElem_mem _)
        have hfn := filter_next hlt
        have HFN := Lib.hid hfn; clear hfn
        have hgd : ts[k].good = (ts[k].txt.2 == 0 && ts[k].k != 0 && decide (ts[k].s.size ≤ 3000)) := rfl
        have HGD := Lib.hid hgd; clear hgd
        have g1 : decide ((k : Int) < 0) = false := by simp
        have g2 : decide (ts.length ≤ k) = false := by simp; omega
        have g3 : decide ((ts.length : Int) ≤ (k : Int)) = false := by simp; omega
        have g4 : decide ((k : Int) < (ts.length : Int)) = true := by simp; omega
        generalize (ts.take k).filter RT.good = gs at *
        generalize ts[k] = t at *
        obtain ⟨kd, n, s, f, t⟩ := t
        dsimp only at *
        rcases hx : RT.txt ⟨kd, n, s, f, t⟩ with ⟨x, e0⟩
        rw [hx] at HGD
        dsimp only at HGD
        have hT : ∀ W, EnvP W → Calls Tryz.prog 25 #[.agg #[.int .i64 kd, .int .i64 n, .string s, .int .i64 f, .int .i64 t]] W fun e w' => e = .returned (.tuple #[.string (bs x), .int .i64 (e0 : Nat)]) ∧ Below W.heap.size W w' := fun W hW =>
          (text_any kd n s f t W o2 o3 hW).mono fun e w' h => by
            unfold RT.txt at hx; dsimp only at hx
            rw [hx] at h; exact h
        have HT := Lib.hid hT; clear hT hx
        have hl0 := World.block_lt_of_cell? _ _ c0
        have hcase : (e0 ≠ 0) ∨ (e0 = 0 ∧ kd = 0) ∨ (e0 = 0 ∧ kd ≠ 0 ∧ 3000 < s.size) ∨ (e0 = 0 ∧ kd ≠ 0 ∧ s.size ≤ 3000) := by omega
        rcases hcase with q1 | ⟨q1, q2⟩ | ⟨q1, q2, q3⟩ | ⟨q1, q2, q3⟩
        · have HGD : Hid (RT.good ⟨kd, n, s, f, t⟩ = false) := Lib.hid (by rw [HGD.out]; simp [q1])
          have e1 : ((e0 : Int) == 0) = false := by simp; omega
          clear q1
          go_wp2_with (go_at_call 25; refine (HT.out _ (HE1.out.below hb)).mono ?_; rintro e w2 ⟨rfl, hb2⟩; have y0 := cell_below hb2 c0; have y1 := cell_below hb2 c1; have y2 := cell_below hb2 c2; have y3 := cell_below hb2 c3; have y4 := cell_below hb2 c4; have hr2 := row_keep' HO.out hb2; have z2 := hb2.size)
          go_roundw
          case rel =>
            refine ⟨k + 1, by omega, by go_num, ?_, hb.trans (hb2.mono hsz)⟩
            rw [HFN.out, HGD.out]
            simpa using hr2
          case measure => simp [intOf]; omega
        · subst q1 q2
          have HGD : Hid (RT.good ⟨0, n, s, f, t⟩ = false) := Lib.hid (by rw [HGD.out]; simp)
          go_wp2_with (go_at_call 25; refine (HT.out _ (HE1.out.below hb)).mono ?_; rintro e w2 ⟨rfl, hb2⟩; have y0 := cell_below hb2 c0; have y1 := cell_below hb2 c1; have y2 := cell_below hb2 c2; have y3 := cell_below hb2 c3; have y4 := cell_below hb2 c4; have hr2 := row_keep' HO.out hb2; have z2 := hb2.size)
          go_roundw
          case rel =>
            refine ⟨k + 1, by omega, by go_num, ?_, hb.trans (hb2.mono hsz)⟩
            rw [HFN.out, HGD.out]
            simpa using hr2
          case measure => simp [intOf]; omega
        · subst q1
          have HGD : Hid (RT.good ⟨kd, n, s, f, t⟩ = false) := Lib.hid (by rw [HGD.out]; simp; omega)
          have e1 : (kd != 0) = true := by simpa using q2
          have e2 : ¬ (s.size : Int) ≤ 3000 := by omega
          clear q2 q3
          go_wp2_with (go_at_call 25; refine (HT.out _ (HE1.out.below hb)).mono ?_; rintro e w2 ⟨rfl, hb2⟩; have y0 := cell_below hb2 c0; have y1 := cell_below hb2 c1; have y2 := cell_below hb2 c2; have y3 := cell_below hb2 c3; have y4 := cell_below hb2 c4; have hr2 := row_keep' HO.out hb2; have z2 := hb2.size)
          go_roundw
          case rel =>
            refine ⟨k + 1, by omega, by go_num, ?_, hb.trans (hb2.mono hsz)⟩
            rw [HFN.out, HGD.out]
            simpa using hr2
          case measure => simp [intOf]; omega
        · subst q1
          have HGD : Hid (RT.good ⟨kd, n, s, f, t⟩ = true) := Lib.hid (by rw [HGD.out]; simp; omega)
          have e1 : (kd != 0) = true := by simpa using q2
          have e2 : (s.size : Int) ≤ 3000 := by omega
          clear q2 q3
          go_wp2_with (first
            | (go_at_call 25; refine (HT.out _ (HE1.out.below hb)).mono ?_; rintro e w2 ⟨rfl, hb2⟩; have y0 := cell_below hb2 c0; have y1 := cell_below hb2 c1; have y2 := cell_below hb2 c2; have y3 := cell_below hb2 c3; have y4 := cell_below hb2 c4; have hr2 := row_keep' HO.out hb2; have z2 := hb2.size)
            | (at_builtin; refine wpList_append_own _ rfl (.tmp 50) (.tmp 55) 50 rfl w1.heap.size 47 i0 _ 5 48 Tryz.underlying50 hi hz0 hz1 hz2 rfl (by decide) (.slice bo gs.length bc) gs.length (rtCells gs) rfl (hr2.alloc _) ⟨w2.heap.size, 0, none⟩ 1 1 [.int .i64 kd, .int .i64 n, .string s, .int .i64 f, .int .i64 t] rfl rfl (cells5 _ _ _ _ _ _ _) (by intro u hu; simp at hu; rcases hu with rfl | rfl | rfl | rfl | rfl <;> rfl) (by unfold maxLen; omega) (by omega) (by simp; omega) ?_; intro v' w' hown' hgrow _))
          go_roundw
          case rel =>
            refine ⟨k + 1, by omega, by go_num, ?_, ((hb.trans (hb2.mono hsz)).alloc (Nat.le_trans hsz z2) _).grown hgrow (by simp; omega) (fun j hj => own_base5 HO.out j hj)⟩
            rw [HFN.out, HGD.out]
            simp only [if_true]
            rw [rtCells_append, List.length_append]; exact hown'
          case measure => simp [intOf]; omega
      · obtain rfl : k = ts.length := by omega
        rw [List.take_length] at *
        have g4 : decide ((ts.length : Int) < (ts.length : Int)) = false := by simp
        have hgo : ∀ t ∈ ts.filter RT.good, t.ok ∧ t.k ≠ 0 := fun t ht => by
          obtain ⟨h1, h2⟩ := List.mem_filter.1 ht
          exact good_ok h2 (HF.out t h1)
        have hHR : HoldsRIf wr bo (ts.filter RT.good) := fun h0 => by
          obtain ⟨g, cap, hv, hc, _⟩ := row_some HO.out h0
          injection hv with ha
          exact ⟨g, ha, holdsR_of hc⟩
        generalize ts.filter RT.good = gs at *
        obtain ⟨ms, hall, hmap⟩ := all_jfold gs (fun t ht => (hgo t ht).1) (fun t ht => (hgo t ht).2)
        have hlen : ms.length = gs.length := by have := congrArg List.length hmap; simpa using this
        have hJ := (jfold_len gs).le (by omega)
        have hJn := fun W hW hH => join_any gs bo bc W (fun t ht => (hgo t ht).1) (by omega) hW hH
        generalize (jfold gs).2 = J at *
        have hA := all_gen (bs J) ms J.length 0 (by rw [bs_size]; omega) (by rw [bs_list]; exact hall)
        have hL : ∀ a1 a2 c1 c2 W, HoldsRIf W a1 gs → HoldsIf W a2 ms → Calls Tryz.prog 27 #[.slice a1 gs.length c1, .slice a2 gs.length c2] W fun e w' => e = .returned (.bool true) ∧ Below W.heap.size W w' := fun a1 a2 c1 c2 W h1 h2 => by
          have h3 := like_R gs ms (fun t ht => (ok_range (hgo t ht).1).1) hmap a1 a2 c1 c2 W (by omega) h1 h2
          rw [hlen] at h3; exact h3
        have HJn := Lib.hid hJn; have HA := Lib.hid hA; have HL := Lib.hid hL; have HHR := Lib.hid hHR
        have hJs : (bs J).size = J.length := bs_size J
        clear hJn hA hL hHR hmap hall hgo HF HO
        go_wp2_with (first
          | (go_at_call 24; refine (HJn.out _ (HE1.out.below hb) HHR.out).mono ?_; rintro e w3 ⟨rfl, hb3⟩; unfold strV; have he3 := (HE1.out.below hb).below hb3; have hr3 := HHR.out.below hb3)
          | (go_at_call 23; refine (HA.out _ he3.env).mono ?_; rintro e w4 ⟨ao4, cap4, rfl, hh4, hb4⟩; have HH4 := Lib.hid hh4; clear hh4; have hr4 := hr3.below hb4)
          | (go_at_call 27; refine (HL.out bo _ bc _ _ hr4 HH4.out).mono ?_; rintro e w5 ⟨rfl, hb5⟩))
        go_ret
        exact ⟨rfl, hb1.trans ((((hb.trans (hb3.mono hsz)).trans (hb4.mono (Nat.le_trans hsz hb3.size))).trans (hb5.mono (Nat.le_trans (Nat.le_trans hsz hb3.size) hb4.size))).mono hb1.size)⟩
end Go.Proofs.YtgkhnpldjdbmoaaGreatDoor
