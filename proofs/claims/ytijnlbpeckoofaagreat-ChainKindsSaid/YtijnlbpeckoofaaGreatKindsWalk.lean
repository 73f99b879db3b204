/- The walk of ChainKinds. -/
import Derived.Test.YtijnlbpeckoofaaGreatKindsRun
set_option linter.unusedVariables false
set_option linter.unusedSimpArgs false
namespace Go.Proofs.YtijnlbpeckoofaaGreat
open Go.RowKit

def LivesOk : Prop := ∀ W, Ev W → Calls Tryz.prog 5 #[] W fun e W' => e = .returned (.bool true) ∧ Below W.heap.size W W'
theorem belowT {a b c : World} (h : Below a.heap.size a b) (k : Below b.heap.size b c) : Below a.heap.size a c := h.trans (k.mono h.size)
theorem eqOr {s S : ByteArray} (h : s.size ≤ 3 ∨ S = s) : (S.toList == s.toList) = true ∨ ((S.toList == s.toList) = false ∧ (s.size : Int) ≤ 3) := by
  by_cases e : S.toList = s.toList
  · exact .inl (by simp [e])
  · refine .inr ⟨by simp [e], ?_⟩
    rcases h with h | h
    · omega
    · exact absurd (by rw [h]) e
set_option maxRecDepth 100000 in
set_option maxHeartbeats 4000000 in
theorem kinds_any (hL : LivesOk) (k : Int) (s : ByteArray) (w : World) (hk : -9223372036854775808 ≤ k ∧ k ≤ 9223372036854775807) (he : Ev w) :
    Calls Tryz.prog 3 #[.int .i64 k, .string s] w fun e w' => e = .returned (.bool true) ∧ Below w.heap.size w w' := by
  by_cases hbig : 400 < s.size
  · have hbg : (400 : Int) < (s.size : Int) := by omega
    have HL := Lib.hid hL; clear hL hbig
    go_enter Tryz.func3, Tryz.ntmps3
    go_wp2_with (go_at_call 5; refine (HL.out _ he).mono ?_; rintro e w1 ⟨rfl, hb1⟩)
    go_ret
    exact ⟨rfl, hb1⟩
  · have hbg : ¬ (400 : Int) < (s.size : Int) := by omega
    obtain ⟨S, hS, hN⟩ := name_fit k
    have hK := fun W hW => kind_is s (by omega) W hW
    have hf := kind_fit s
    have hN2 := fun h => name_in (kindOf s.data.toList) h
    generalize hc : kindOf s.data.toList = c at *
    generalize hS2 : strOf (nameOf c).1 (nameOf c).2 = S2 at *
    have HL := Lib.hid hL; have HN := Lib.hid hN; have HK := Lib.hid hK; have HN2 := Lib.hid hN2
    have hKS : ∀ W, Ev W → Calls Tryz.prog 7 #[.string S] W fun e w' => e = .returned (.int .i64 (kindOf S.data.toList)) ∧ Below W.heap.size W w' := fun W hW => kind_is S (by have := hS.1; omega) W hW
    clear hL hN hK hN2 hbig hc hS2
    obtain ⟨hsz, hS | ⟨h1, h2, h3⟩⟩ := hS
    · obtain ⟨h1, rfl⟩ := hS
      clear hKS
      have g0 : (decide (k < 1) || decide (5 < k)) = true := by simp; omega
      rcases hf with rfl | ⟨hc, hx⟩
      · clear HN2
        go_enter Tryz.func3, Tryz.ntmps3
        go_wp2_with (first
          | (go_at_call 5; refine (HL.out _ he).mono ?_; rintro e w1 ⟨rfl, hb1⟩; have he1 : Ev w1 := he.below he hb1)
          | (go_at_call 6; (with_reducible refine (HN.out _ he1).mono ?_); rintro e w2 ⟨rfl, hb2⟩; have he2 : Ev w2 := he1.below he1 hb2)
          | (go_at_call 7; (with_reducible refine (HK.out _ he2).mono ?_); rintro e w3 ⟨rfl, hb3⟩; have he3 : Ev w3 := he2.below he2 hb3))
        all_goals
          go_ret
          exact ⟨rfl, by first | (exact belowT (belowT (belowT (belowT hb1 hb2) hb3) hb4) hb5) | (exact belowT (belowT (belowT hb1 hb2) hb3) hb4) | (exact belowT (belowT (belowT hb1 hb2) hb3) hb5) | (exact belowT (belowT hb1 hb2) hb3)⟩
      · have HN2 := Lib.hid (HN2.out hc)
        obtain ⟨c1, c2⟩ := hc
        have c0 : (c == 0) = false := by simp only [beq_eq_false_iff_ne, ne_eq]; omega
        rcases eqOr hx with e | ⟨e, hx⟩
        · clear hx
          go_enter Tryz.func3, Tryz.ntmps3
          go_wp2_with (first
            | (go_at_call 5; refine (HL.out _ he).mono ?_; rintro e w1 ⟨rfl, hb1⟩; have he1 : Ev w1 := he.below he hb1)
            | (go_at_call 6; (with_reducible refine (HN.out _ he1).mono ?_); rintro e w2 ⟨rfl, hb2⟩; have he2 : Ev w2 := he1.below he1 hb2)
            | (go_at_call 7; (with_reducible refine (HK.out _ he2).mono ?_); rintro e w3 ⟨rfl, hb3⟩; have he3 : Ev w3 := he2.below he2 hb3)
            | (go_at_call 6; (with_reducible refine (HN2.out _ he3).mono ?_); rintro e w5 ⟨rfl, hb5⟩))
          all_goals
            go_ret
            exact ⟨rfl, by first | (exact belowT (belowT (belowT (belowT hb1 hb2) hb3) hb4) hb5) | (exact belowT (belowT (belowT hb1 hb2) hb3) hb4) | (exact belowT (belowT (belowT hb1 hb2) hb3) hb5) | (exact belowT (belowT hb1 hb2) hb3)⟩
        · go_enter Tryz.func3, Tryz.ntmps3
          go_wp2_with (first
            | (go_at_call 5; refine (HL.out _ he).mono ?_; rintro e w1 ⟨rfl, hb1⟩; have he1 : Ev w1 := he.below he hb1)
            | (go_at_call 6; (with_reducible refine (HN.out _ he1).mono ?_); rintro e w2 ⟨rfl, hb2⟩; have he2 : Ev w2 := he1.below he1 hb2)
            | (go_at_call 7; (with_reducible refine (HK.out _ he2).mono ?_); rintro e w3 ⟨rfl, hb3⟩; have he3 : Ev w3 := he2.below he2 hb3)
            | (go_at_call 6; (with_reducible refine (HN2.out _ he3).mono ?_); rintro e w5 ⟨rfl, hb5⟩))
          all_goals
            go_ret
            exact ⟨rfl, by first | (exact belowT (belowT (belowT (belowT hb1 hb2) hb3) hb4) hb5) | (exact belowT (belowT (belowT hb1 hb2) hb3) hb4) | (exact belowT (belowT (belowT hb1 hb2) hb3) hb5) | (exact belowT (belowT hb1 hb2) hb3)⟩
    · have HKS := Lib.hid hKS
      rw [h3] at HKS
      obtain ⟨k1, k2⟩ := h1
      have hne : S.toList.isEmpty = false := by
        cases hx : S.toList with
        | nil => exact absurd hx h2
        | cons a l => rfl
      have g1 : decide (k < 1) = false := by simp; omega
      have g2 : decide (5 < k) = false := by simp; omega
      have gq : (!(S.toList.isEmpty == (decide (k < 1) || decide (5 < k)))) = false := by rw [hne, g1, g2]; rfl
      clear hKS h2 h3
      rcases hf with rfl | ⟨hc, hx⟩
      · clear HN2
        go_enter Tryz.func3, Tryz.ntmps3
        go_wp2_with (first
          | (go_at_call 5; refine (HL.out _ he).mono ?_; rintro e w1 ⟨rfl, hb1⟩; have he1 : Ev w1 := he.below he hb1)
          | (go_at_call 6; (with_reducible refine (HN.out _ he1).mono ?_); rintro e w2 ⟨rfl, hb2⟩; have he2 : Ev w2 := he1.below he1 hb2)
          | (go_at_call 7; (with_reducible refine (HK.out _ he2).mono ?_); rintro e w3 ⟨rfl, hb3⟩; have he3 : Ev w3 := he2.below he2 hb3)
          | (go_at_call 7; (with_reducible refine (HKS.out _ he3).mono ?_); rintro e w4 ⟨rfl, hb4⟩; have he4 : Ev w4 := he3.below he3 hb4))
        all_goals
          go_ret
          exact ⟨rfl, by first | (exact belowT (belowT (belowT (belowT hb1 hb2) hb3) hb4) hb5) | (exact belowT (belowT (belowT hb1 hb2) hb3) hb4) | (exact belowT (belowT (belowT hb1 hb2) hb3) hb5) | (exact belowT (belowT hb1 hb2) hb3)⟩
      · have HN2 := Lib.hid (HN2.out hc)
        obtain ⟨c1, c2⟩ := hc
        have c0 : (c == 0) = false := by simp only [beq_eq_false_iff_ne, ne_eq]; omega
        rcases eqOr hx with e | ⟨e, hx⟩
        · clear hx
          go_enter Tryz.func3, Tryz.ntmps3
          go_wp2_with (first
            | (go_at_call 5; refine (HL.out _ he).mono ?_; rintro e w1 ⟨rfl, hb1⟩; have he1 : Ev w1 := he.below he hb1)
            | (go_at_call 6; (with_reducible refine (HN.out _ he1).mono ?_); rintro e w2 ⟨rfl, hb2⟩; have he2 : Ev w2 := he1.below he1 hb2)
            | (go_at_call 7; (with_reducible refine (HK.out _ he2).mono ?_); rintro e w3 ⟨rfl, hb3⟩; have he3 : Ev w3 := he2.below he2 hb3)
            | (go_at_call 7; (with_reducible refine (HKS.out _ he3).mono ?_); rintro e w4 ⟨rfl, hb4⟩; have he4 : Ev w4 := he3.below he3 hb4)
            | (go_at_call 6; (with_reducible refine (HN2.out _ he4).mono ?_); rintro e w5 ⟨rfl, hb5⟩))
          all_goals
            go_ret
            exact ⟨rfl, by first | (exact belowT (belowT (belowT (belowT hb1 hb2) hb3) hb4) hb5) | (exact belowT (belowT (belowT hb1 hb2) hb3) hb4) | (exact belowT (belowT (belowT hb1 hb2) hb3) hb5) | (exact belowT (belowT hb1 hb2) hb3)⟩
        · go_enter Tryz.func3, Tryz.ntmps3
          go_wp2_with (first
            | (go_at_call 5; refine (HL.out _ he).mono ?_; rintro e w1 ⟨rfl, hb1⟩; have he1 : Ev w1 := he.below he hb1)
            | (go_at_call 6; (with_reducible refine (HN.out _ he1).mono ?_); rintro e w2 ⟨rfl, hb2⟩; have he2 : Ev w2 := he1.below he1 hb2)
            | (go_at_call 7; (with_reducible refine (HK.out _ he2).mono ?_); rintro e w3 ⟨rfl, hb3⟩; have he3 : Ev w3 := he2.below he2 hb3)
            | (go_at_call 7; (with_reducible refine (HKS.out _ he3).mono ?_); rintro e w4 ⟨rfl, hb4⟩; have he4 : Ev w4 := he3.below he3 hb4)
            | (go_at_call 6; (with_reducible refine (HN2.out _ he4).mono ?_); rintro e w5 ⟨rfl, hb5⟩))
          all_goals
            go_ret
            exact ⟨rfl, by first | (exact belowT (belowT (belowT (belowT hb1 hb2) hb3) hb4) hb5) | (exact belowT (belowT (belowT hb1 hb2) hb3) hb4) | (exact belowT (belowT (belowT hb1 hb2) hb3) hb5) | (exact belowT (belowT hb1 hb2) hb3)⟩
set_option maxRecDepth 10000000 in
theorem chainLives_runs : isA (evalF cf1 G0 100000 5 []) (.bool true) = true := by kernel_rfl
theorem chainLives_is : ∀ W, Ev W → Calls Tryz.prog 5 #[] W fun e W' => e = .returned (.bool true) ∧ Below W.heap.size W W' :=
  calls_of_eval (cf := cf1) sound1 rep0 (by kernel_rfl) chainLives_runs (vs := []) rfl rfl
end Go.Proofs.YtijnlbpeckoofaaGreat
