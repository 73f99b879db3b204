/- The walk of token.Like over tokens that are alike. -/
import Derived.Test.YtgkhnpldjdbmoaaDoorC21
import Derived.Test.YtgkhnpldjdbmoaaDoorLexBlanks
set_option linter.unusedVariables false
set_option linter.unusedSimpArgs false
namespace Go.Proofs.YtgkhnpldjdbmoaaDoor
open Go.RowKit

set_option maxRecDepth 100000 in
set_option maxHeartbeats 2000000 in
theorem like_none (a1 a2 : Option Addr) (c1 c2 : Nat) (w : World) :
    Calls Tryd.prog 12 #[.slice a1 0 c1, .slice a2 0 c2] w fun e w' => e = .returned (.bool true) ∧ Below w.heap.size w w' := by
  go_enter Tryd.func12, Tryd.ntmps12
  go_wp2
  go_loopw [15] (fun a wr => a = .int .i64 0 ∧ Below w.heap.size w wr) (fun a _ => (intOf a).toNat)
  case atStart => exact ⟨rfl, by (repeat' (first | (with_reducible exact Below.refl _ _) | (with_reducible assumption) | (with_reducible refine Below.alloc ?_ ?_ _) | (with_reducible refine below_drewN ?_ _) | (with_reducible refine Below.drew ?_) | (with_reducible refine Below.setCell ?_ ?_ _) | (with_reducible refine below_trans ?_ (by assumption)) | (with_reducible exact Nat.le_refl _) | (with_reducible exact Below.size (by assumption)) | omega | (simp; omega) | (simp; done)))⟩
  case round =>
    obtain ⟨rfl, hb⟩ := hrel
    go_wp2
    go_ret
    exact ⟨rfl, hb⟩

set_option maxRecDepth 100000 in
set_option maxHeartbeats 4000000 in
theorem like_any (ts us : List Tok) (ht : us.map (·.t) = ts.map (·.t)) (g1 g2 c1 c2 : Nat) (w : World) (hn : ts.length ≤ 4000000000) (h1 : Holds w g1 ts) (h2 : Holds w g2 us) :
    Calls Tryd.prog 12 #[.slice (some ⟨g1, 0, none⟩) ts.length c1, .slice (some ⟨g2, 0, none⟩) ts.length c2] w fun e w' => e = .returned (.bool true) ∧ Below w.heap.size w w' := by
  have hlen : us.length = ts.length := by have := congrArg List.length ht; simpa using this
  have hT := Lib.hid ht; clear ht
  have HH1 := Lib.hid h1; have HH2 := Lib.hid h2; clear h1 h2
  have HLEN := Lib.hid hlen; clear hlen
  go_enter Tryd.func12, Tryd.ntmps12
  go_wp2
  go_loopw [15] (fun a wr => ∃ k : Nat, k ≤ ts.length ∧ a = .int .i64 k ∧ Below w.heap.size w wr) (fun a _ => ts.length - (intOf a).toNat)
  case atStart => exact ⟨0, by omega, rfl, Below.refl _ _⟩
  case round =>
    obtain ⟨k, hk, rfl, hb⟩ := hrel
    by_cases hlt : k < ts.length
    · have hlt2 : k < us.length := by have := HLEN.out; omega
      have heq : us[k].t = ts[k].t := by
        have h3 : (us.map (·.t))[k]? = (ts.map (·.t))[k]? := by rw [hT.out]
        simpa [hlt, hlt2] using h3
      obtain ⟨a0, a1, a2, a3, a4⟩ := HH1.out.below hb k hlt
      obtain ⟨b0, b1, b2, b3, b4⟩ := HH2.out.below hb k hlt2
      rw [heq] at b0 b1 b2
      clear heq
      have g1 : decide ((k : Int) < 0) = false := by simp
      have g2 : decide (ts.length ≤ k) = false := by simp; omega
      have g3 : decide ((ts.length : Int) ≤ (k : Int)) = false := by simp; omega
      have g4 : decide ((k : Int) < (ts.length : Int)) = true := by simp; omega
      have hl1 := World.block_lt_of_cell? _ _ a0
      have hl2 := World.block_lt_of_cell? _ _ b0
      have s1 : IntKind.i64.wrap ((k : Int) + 1) = (k : Int) + 1 := IntWalk.i64_in _ (by omega)
      generalize ts[k].t.kind = x0 at *
      generalize ts[k].t.n = x1 at *
      generalize ts[k].t.s = x2 at *
      generalize ts[k].from_ = x3 at *
      generalize ts[k].to = x4 at *
      generalize us[k].from_ = y3 at *
      generalize us[k].to = y4 at *
      go_wp2
      go_roundw
      case rel => exact ⟨k + 1, by omega, by go_num, (hb.alloc hb.size _).alloc (by have := hb.size; simp; omega) _⟩
      case measure => simp [intOf]; omega
    · have g4 : decide ((k : Int) < (ts.length : Int)) = false := by simp; omega
      go_wp2
      go_ret
      exact ⟨rfl, hb⟩
end Go.Proofs.YtgkhnpldjdbmoaaDoor
