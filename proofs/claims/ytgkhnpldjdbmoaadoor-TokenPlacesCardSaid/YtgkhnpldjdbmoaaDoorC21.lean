/- The walk of TokenCuts. -/
import Derived.Test.YtgkhnpldjdbmoaaDoorC20
import Derived.Test.YtgkhnpldjdbmoaaDoorLexCuts
set_option linter.unusedVariables false
set_option linter.unusedSimpArgs false
namespace Go.Proofs.YtgkhnpldjdbmoaaDoor
open Go.RowKit

theorem all_is (s : ByteArray) (ts : List Tok) (a e0 : Nat) (hs : s.size ≤ 4000000000) (h : all s.data.toList = (ts, a, e0)) (h0 : 0 < ts.length) (w : World) (he : Env w) :
    Calls Tryd.prog 7 #[.string s] w fun e w' => ∃ g cap, e = .returned (.tuple #[.slice (some ⟨g, 0, none⟩) ts.length cap, .int .i64 a, .int .i64 e0]) ∧ Holds w' g ts ∧ g < w'.heap.size ∧ ts.length ≤ cap ∧ cap ≤ maxLen ∧ Below w.heap.size w w' :=
  (all_any s w hs he).mono fun e w' hh => by
    obtain ⟨v, rfl, hown, hb⟩ := hh
    rw [h] at hown
    obtain ⟨g, cap, rfl, hc, _, hlt, hcap, hm⟩ := row_some hown h0
    exact ⟨g, cap, by rw [h], holds_of hc, hlt, hcap, hm, hb⟩
theorem all_none (s : ByteArray) (a e0 : Nat) (hs : s.size ≤ 4000000000) (h : all s.data.toList = ([], a, e0)) (w : World) (he : Env w) :
    Calls Tryd.prog 7 #[.string s] w fun e w' => ∃ ao cap, e = .returned (.tuple #[.slice ao 0 cap, .int .i64 a, .int .i64 e0]) ∧ Below w.heap.size w w' :=
  (all_any s w hs he).mono fun e w' hh => by
    obtain ⟨v, rfl, hown, hb⟩ := hh
    rw [h] at hown
    obtain ⟨ao, cap, rfl⟩ := row_shape hown
    exact ⟨ao, cap, by rw [h]; rfl, hb⟩
theorem toks_to {l : Bytes} {p a e : Nat} {ts : List Tok} (h : Toks l p ts a e) (hp : p ≤ l.length) : ∀ (i : Nat) (hi : i < ts.length), ts[i].from_ ≤ l.length ∧ ts[i].to ≤ l.length ∧ ts[i].from_ < ts[i].to := by
  induction h with
  | bad _ _ => intro i hi; simp at hi
  | done _ _ => intro i hi; simp at hi
  | @more p t ts a e h hk hr ih =>
    obtain ⟨h1, h2, h3, _⟩ := nextAt_ok h hp hk
    intro i hi
    cases i with
    | zero => exact ⟨by simp; omega, by simpa using h3, by simpa using h2⟩
    | succ i => exact ih h3 i (by simpa using hi)

theorem toks_len {l : Bytes} {p a e : Nat} {ts : List Tok} (h : Toks l p ts a e) (hp : p ≤ l.length) : ts.length + p ≤ l.length := by
  induction h with
  | bad _ _ => simpa using hp
  | done _ _ => simpa using hp
  | @more p t ts a e h hk hr ih =>
    obtain ⟨h1, h2, h3, _⟩ := nextAt_ok h hp hk
    have := ih h3
    simp; omega

set_option maxRecDepth 100000 in
set_option maxHeartbeats 4000000 in
theorem cuts_any (s : ByteArray) (i : Int) (w : World) (hi : -9223372036854775808 ≤ i ∧ i ≤ 9223372036854775807) (he : Env w) :
    Calls Tryd.prog 4 #[.string s, .int .i64 i] w fun e w' => e = .returned (.bool true) ∧ Below w.heap.size w w' := by
  have hz := size_list s
  by_cases hbig : 1500 < s.size
  · have hd : decide ((1500 : Int) < (s.size : Int)) = true := by simp; omega
    have hbg : (1500 : Int) < (s.size : Int) := by omega
    clear hz hbig
    go_enter Tryd.func4, Tryd.ntmps4
    go_wp2_with (go_at_call 6; refine (lives_any _ he).mono ?_; rintro e w1 ⟨rfl, hb1⟩)
    go_ret
    exact ⟨rfl, hb1⟩
  · have hd : decide ((1500 : Int) < (s.size : Int)) = false := by simp; omega
    rcases ha : all s.data.toList with ⟨ts, a, e0⟩
    have htk : Toks s.data.toList 0 ts a e0 := by have := all_toks s.data.toList; rw [ha] at this; exact this
    by_cases h0 : 0 < ts.length
    · have hto := fun k (hk : k < ts.length) => toks_to htk (by omega) k hk
      have hln : ts.length ≤ 4000000000 := by
        have := toks_len htk (by omega); omega
      have hcut := fun k (hk : k < ts.length) => all_cut s.data.toList k ts[k] (by rw [ha]; simp [hk])
      rw [ha] at hcut
      have hA := all_is s ts a e0 (by omega) ha h0
      have HA := Lib.hid hA; clear hA
      have hn0 : ((ts.length : Int) == 0) = false := by simp only [beq_eq_false_iff_ne, ne_eq]; omega
      have hbg : ¬ ((1500 : Int) < (s.size : Int)) := by omega
      have HC := Lib.hid hcut; have HT := Lib.hid hto; have HZ := Lib.hid hz; clear hcut hto hz ha htk
      have hsz : s.size ≤ 1500 := by omega
      clear hbig
      go_enter Tryd.func4, Tryd.ntmps4
      go_upto_region 9 with (first
        | (go_at_call 6; refine (lives_any _ he).mono ?_; rintro e w1 ⟨rfl, hb1⟩; have he1 := he.below hb1)
        | (go_at_call 7; refine (HA.out _ he1).mono ?_; rintro e w2 ⟨g, cap, rfl, hh, hlt, hcap, hm, hb2⟩; have HH := Lib.hid hh; clear hh; have he2 := he1.below hb2)
        | (go_at_call 10; refine (pick_any _ _ _ hi ⟨by omega, by omega⟩).mono ?_; rintro e w3 ⟨⟨k, rfl, hk⟩, rfl⟩))
      have hk' : k < ts.length := by omega
      obtain ⟨_, _, _, _, c4⟩ := HH.out k hk'
      obtain ⟨_, hTs, _⟩ := HT.out k hk'
      have hC := HC.out k hk'
      generalize ts[k].to = T at *
      have hTs2 : T ≤ s.size := by rw [HZ.out]; exact hTs
      have hTi : (T : Int) ≤ (s.size : Int) := by omega
      have hl : (ts.take (k + 1)).length = k + 1 := by rw [List.length_take]; omega
      have hx : (s.extract 0 T).data.toList = s.data.toList.take T := by have := toList_take s T; rw [ByteArray.toList_eq] at this; exact this
      have hxs : (s.extract 0 T).size ≤ 4000000000 := by have := size_list (s.extract 0 T); rw [hx, List.length_take] at this; omega
      have hB : ∀ W, Env W → Calls Tryd.prog 7 #[.string (s.extract 0 T)] W fun e w' => ∃ g cap, e = .returned (.tuple #[.slice (some ⟨g, 0, none⟩) (k + 1) cap, .int .i64 T, .int .i64 0]) ∧ Holds w' g (ts.take (k + 1)) ∧ Below W.heap.size W w' := fun W hW =>
        (all_is _ (ts.take (k + 1)) T 0 hxs (by rw [hx]; exact hC) (by omega) W hW).mono fun e w' h => by
          obtain ⟨g, cap, h1, h2, _, _, _, h3⟩ := h
          rw [hl] at h1
          exact ⟨g, cap, h1, h2, h3⟩
      have hS : ∀ W g1 g2 c1 c2, Holds W g1 (ts.take (k + 1)) → Holds W g2 ts → Calls Tryd.prog 11 #[.slice (some ⟨g1, 0, none⟩) (k + 1) c1, .slice (some ⟨g2, 0, none⟩) (k + 1) c2] W fun e w' => e = .returned (.bool true) ∧ Below W.heap.size W w' := fun W g1 g2 c1 c2 h1 h2 => by
        have := same_any (ts.take (k + 1)) g1 g2 c1 c2 W (by omega) h1 (h2.take (k + 1))
        rw [hl] at this; exact this
      have HB := Lib.hid hB; have HS := Lib.hid hS
      have g1 : decide ((k : Int) < 0) = false := by simp
      have g2 : decide (ts.length ≤ k) = false := by simp; omega
      have g3 : decide ((ts.length : Int) ≤ (k : Int)) = false := by simp; omega
      have s1 : IntKind.i64.wrap ((k : Int) + 1) = (k : Int) + 1 := IntWalk.i64_in _ (by omega)
      have n1 : ((k : Int) + 1).toNat = k + 1 := by omega
      have n2 : (k : Int) + 1 ≤ (cap : Int) := by omega
      have n3 : k + 1 ≤ cap := by omega
      clear hB hS hx hxs hC hTs hl
      go_wp2_with (first
        | (go_at_call 7; refine (HB.out _ he2).mono ?_; rintro e w4 ⟨g5, cap5, rfl, hh5, hb4⟩; have HH5 := Lib.hid hh5; clear hh5; have c5 := cell_below hb4 c4)
        | (go_at_call 11; refine (HS.out _ _ _ _ _ HH5.out (HH.out.below hb4)).mono ?_; rintro e w6 ⟨rfl, hb6⟩))
      go_ret
      exact ⟨rfl, ((hb1.trans (hb2.mono hb1.size)).trans (hb4.mono (Nat.le_trans hb1.size hb2.size))).trans (hb6.mono (Nat.le_trans (Nat.le_trans hb1.size hb2.size) hb4.size))⟩
    · obtain rfl : ts = [] := List.eq_nil_of_length_eq_zero (by omega)
      have hA := all_none s a e0 (by omega) ha
      have HA := Lib.hid hA; clear hA ha h0 hz htk
      have hbg : ¬ ((1500 : Int) < (s.size : Int)) := by omega
      clear hbig
      go_enter Tryd.func4, Tryd.ntmps4
      go_wp2_with (first
        | (go_at_call 6; refine (lives_any _ he).mono ?_; rintro e w1 ⟨rfl, hb1⟩; have he1 := he.below hb1)
        | (go_at_call 7; refine (HA.out _ he1).mono ?_; rintro e w2 ⟨ao, cap, rfl, hb2⟩))
      go_ret
      exact ⟨rfl, hb1.trans (hb2.mono hb1.size)⟩
end Go.Proofs.YtgkhnpldjdbmoaaDoor
