/- The walk of TokenPlaces. -/
import Derived.Test.YtgkhnpldjdbmoaaDoorC23
import Derived.Test.YtgkhnpldjdbmoaaDoorC24
set_option linter.unusedVariables false
set_option linter.unusedSimpArgs false
namespace Go.Proofs.YtgkhnpldjdbmoaaDoor
open Go.RowKit

set_option maxRecDepth 100000 in
set_option maxHeartbeats 8000000 in
theorem places_any (s : ByteArray) (w : World) (he : Env w) :
    Calls Tryd.prog 3 #[.string s] w fun e w' => e = .returned (.bool true) ∧ Below w.heap.size w w' := by
  have hz := size_list s
  by_cases hbig : 1500 < s.size
  · have hd : decide ((1500 : Int) < (s.size : Int)) = true := by simp; omega
    have hbg : (1500 : Int) < (s.size : Int) := by omega
    clear hz hbig
    go_enter Tryd.func3, Tryd.ntmps3
    go_wp2_with (go_at_call 6; refine (lives_any _ he).mono ?_; rintro e w1 ⟨rfl, hb1⟩)
    go_ret
    exact ⟨rfl, hb1⟩
  · have hd : decide ((1500 : Int) < (s.size : Int)) = false := by simp; omega
    have hbg : ¬ ((1500 : Int) < (s.size : Int)) := by omega
    rcases ha : all s.data.toList with ⟨ts, a, e0⟩
    have htk : Toks s.data.toList 0 ts a e0 := by have := all_toks s.data.toList; rw [ha] at this; exact this
    have hsz : s.size ≤ 1500 := by omega
    have hln : ts.length ≤ 1500 := by have := toks_len htk (by omega); omega
    have hA := all_gen s ts a e0 (by omega) ha
    have HA := Lib.hid hA; clear hA
    have HTK := Lib.hid htk; have HZ := Lib.hid hz; clear htk ha hz hbig
    have hSk : ∀ (p : Nat) (W : World), p ≤ s.size → Calls Tryd.prog 8 #[.string s, .int .i64 p] W fun e w' => e = .returned (.int .i64 ((p + skip (s.data.toList.drop p) : Nat) : Int)) ∧ w' = W := fun p W hp =>
      (refSkip_any s p W (by omega)).mono fun e w' h => by rw [place_nat hp] at h; exact h
    have HSk := Lib.hid hSk; clear hSk
    go_enter Tryd.func3, Tryd.ntmps3
    go_wp2_with (first
      | (go_at_call 6; refine (lives_any _ he).mono ?_; rintro e w1 ⟨rfl, hb1⟩; have he1 := he.below hb1)
      | (go_at_call 7; refine (HA.out _ he1).mono ?_; rintro e w2 ⟨ao, cap, rfl, hh, hb2⟩; have HH := Lib.hid hh; clear hh; have he2 := he1.below hb2))
    go_loopw [6, 7] (fun u i wr => ∃ k p : Nat, k ≤ ts.length ∧ p ≤ s.size ∧ i = .int .i64 k ∧ u = .int .i64 p ∧ Toks s.data.toList p (ts.drop k) a e0 ∧ Below w2.heap.size w2 wr) (fun _ i _ => ts.length - (intOf i).toNat)
    case atStart => exact ⟨0, 0, by omega, by omega, rfl, rfl, HTK.out, Below.refl _ _⟩
    case round =>
      obtain ⟨k, p, hk, hp, rfl, rfl, htk, hb3⟩ := hrel
      have hew := he2.below hb3
      by_cases hlt : k < ts.length
      · have hdr : ts.drop k = ts[k] :: ts.drop (k + 1) := List.drop_eq_getElem_cons hlt
        rw [hdr] at htk
        obtain ⟨g, rfl, hh⟩ := HH.out (by omega)
        obtain ⟨c0, c1, c2, c3, c4⟩ := hh.below hb3 k hlt
        generalize ts[k] = t at *
        cases htk with
        | more hnx hkd hr =>
          obtain ⟨f1, f2, f3, _⟩ := nextAt_ok hnx (by rw [← HZ.out]; exact hp) hkd
          have hhere := nextAt_here hnx hkd (by rw [← HZ.out]; exact hp)
          have hS := fun W => HSk.out p W hp
          rw [← f1] at hS
          have hF : p ≤ t.from_ := by omega
          obtain ⟨⟨kd, x, v⟩, F, T⟩ := t
          dsimp only at *
          have hTs : T ≤ s.size := by rw [HZ.out]; exact f3
          have hN := fun W hW => next_is s F _ 0 W (by omega) (by omega) hW hhere
          have HS := Lib.hid hS; have HN := Lib.hid hN; have HR := Lib.hid hr
          clear hS hN hr hhere hnx f1 hdr f3
          have g1 : decide ((k : Int) < 0) = false := by simp
          have g2 : decide (ts.length ≤ k) = false := by simp; omega
          have g3 : decide ((ts.length : Int) ≤ (k : Int)) = false := by simp; omega
          have g4 : decide ((k : Int) < (ts.length : Int)) = true := by simp; omega
          have d1 : decide ((F : Int) < (p : Int)) = false := by simp; omega
          have d2 : decide ((T : Int) ≤ (F : Int)) = false := by simp; omega
          have d3 : decide ((s.size : Int) < (T : Int)) = false := by simp; omega
          have d4 : ((F : Int) != (F : Int)) = false := by simp
          have hl0 := World.block_lt_of_cell? _ _ c0
          have zb := hb3.size
          go_upto_region 10 with fail
          go_quiet ((go_at_call 8; exact Calls.quiet_of_same (HS.out _)))
          have hbd : Below wr.heap.size wr (wr.drewN nq) := below_drewN (Below.refl _ _) nq
          go_upto_region 13 with (go_at_call 9; refine (HN.out _ (hew.below hbd)).mono ?_; rintro e w5 ⟨rfl, hb5⟩; have x0 := cell_below hb5 (cell_below hbd c0); have x1 := cell_below hb5 (cell_below hbd c1); have x2 := cell_below hb5 (cell_below hbd c2); have x3 := cell_below hb5 (cell_below hbd c3); have x4 := cell_below hb5 (cell_below hbd c4))
          have hl5 := World.block_lt_of_cell? _ _ x0
          go_quiet (fail)
          go_wp2
          go_roundw
          case rel => exact ⟨k + 1, T, by omega, hTs, by go_num, rfl, HR.out, below_drewN (((hb3.trans (hbd.mono zb)).trans (hb5.mono zb)).alloc (Nat.le_trans zb hb5.size) _) _⟩
          case measure => simp [intOf]; omega
      · have g4 : decide ((k : Int) < (ts.length : Int)) = false := by simp; omega
        have hdr : ts.drop k = [] := List.drop_eq_nil_of_le (by omega)
        rw [hdr] at htk
        have hpl : p ≤ s.data.toList.length := by rw [← HZ.out]; exact hp
        have hS := fun W => HSk.out p W hp
        have hsl := skip_le (s.data.toList.drop p)
        rw [List.length_drop] at hsl
        generalize hq : skip (s.data.toList.drop p) = q at *
        cases htk with
        | bad h hne =>
          have n1 : ((e0 : Int) != 0) = true := by simp; omega
          have n2 : ((e0 : Int) == 0) = false := by simp; omega
          have hle : p + q ≤ s.size := by rw [HZ.out]; omega
          rw [hq] at *
          have d1 : (p : Int) ≤ (p : Int) + (q : Int) := by omega
          have d2 : (p : Int) + (q : Int) ≤ (s.size : Int) := by omega
          have HS := Lib.hid hS; clear hS
          go_wp2_with (go_at_call 8; refine (HS.out _).mono ?_; rintro e w5 ⟨rfl, rfl⟩)
          go_ret
          exact ⟨rfl, (hb1.trans (hb2.mono hb1.size)).trans (hb3.mono (by have := hb1.size; have := hb2.size; omega))⟩
        | done h hkd =>
          have hE := nextAt_end hpl h hkd
          have HS := Lib.hid hS; clear hS
          rw [hq] at hE
          have hE2 : (p : Int) + (q : Int) = (s.size : Int) := by have := HZ.out; omega
          have hE3 : (p : Int) ≤ (s.size : Int) := by omega
          clear hE
          go_wp2_with (go_at_call 8; refine (HS.out _).mono ?_; rintro e w5 ⟨rfl, rfl⟩)
          go_ret
          exact ⟨rfl, (hb1.trans (hb2.mono hb1.size)).trans (hb3.mono (by have := hb1.size; have := hb2.size; omega))⟩
end Go.Proofs.YtgkhnpldjdbmoaaDoor
