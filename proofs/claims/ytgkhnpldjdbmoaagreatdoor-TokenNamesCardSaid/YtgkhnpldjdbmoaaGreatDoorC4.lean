/- The walks of number.Kind, long, bare, and of what they call. -/
import Derived.Test.YtgkhnpldjdbmoaaGreatDoorCut2
import Derived.StillTailTactics
import Derived.RegionCalls
set_option linter.unusedVariables false
set_option linter.unusedSimpArgs false
namespace Go.Proofs.YtgkhnpldjdbmoaaGreatDoor
open Go.RowKit

theorem trimL_calls (l : Bytes) (w : World) : Calls Tryz.prog 222 #[.string (bs l), .string ⟨#[48]⟩] w fun e w' => e = .returned (.string (bs (trimL l))) ∧ w' = w :=
  Tryz.strings_TrimLeft_one (bs l) 48 (by decide) w
theorem trimR_calls (l : Bytes) (w : World) (hs : l.length ≤ 9223372036854775807) : Calls Tryz.prog 223 #[.string (bs l), .string ⟨#[48]⟩] w fun e w' => e = .returned (.string (bs (trimR l))) ∧ w' = w :=
  Tryz.strings_TrimRight_one (bs l) 48 (by decide) w (by rw [bs_size]; exact hs)
theorem trimL_le (l : Bytes) : (trimL l).length ≤ l.length := List.Sublist.length_le (List.dropWhile_sublist _)
theorem trimR_le (l : Bytes) : (trimR l).length ≤ l.length := by
  unfold trimR; rw [List.length_reverse]
  have := List.Sublist.length_le (List.dropWhile_sublist (l := l.reverse) (· == 48)); simpa using this

theorem field_parts0 (x0 x1 x2 x3 : Value) (w : World) : (Instr.field 195 (.agg #[x0, x1, x2, x3]) 0).run Tryz.prog w = .ok x0 w := by kernel_rfl
set_option maxRecDepth 100000 in
set_option maxHeartbeats 2000000 in
theorem kind_any (s : ByteArray) (w : World) (hs : s.size ≤ 140737488355328) (he : Env w) : Calls Tryz.prog 179 #[.string s] w fun e w' => e = .returned (.int .i64 (numKind s.data.toList)) ∧ Below w.heap.size w w' := by
  have hf := field_parts0
  go_enter Tryz.func179, Tryz.ntmps179
  go_wp2_with (go_at_call 195; refine (cut_any _ _ hs he).mono ?_; rintro e w1 ⟨rfl, hb1⟩; unfold partsV)
  go_ret
  exact ⟨rfl, hb1⟩

set_option maxRecDepth 100000 in
set_option maxHeartbeats 2000000 in
theorem long_any (k : Int) (g : Bool) (a b : Bytes) (w : World) (ha : a.length ≤ 140737488355328) (hb : b.length ≤ 140737488355328) : Calls Tryz.prog 196 #[.agg #[.int .i64 k, .bool g, .string (bs a), .string (bs b)]] w fun e w' => e = .returned (.bool (decide (64 < a.length + b.length))) ∧ Below w.heap.size w w' := by
  have ha2 := bs_size a; have hb2 := bs_size b
  have h1 : (bs a).size ≤ 140737488355328 := by omega
  have h2 : (bs b).size ≤ 140737488355328 := by omega
  have H1 := Lib.hid ha2; have H2 := Lib.hid hb2; clear ha2 hb2
  go_enter Tryz.func196, Tryz.ntmps196
  go_wp2
  go_ret
  exact ⟨ret_bool (by have := H1.out; have := H2.out; simp; omega), by (repeat' (first | (with_reducible exact Below.refl _ _) | (with_reducible assumption) | (with_reducible refine Below.alloc ?_ ?_ _) | (with_reducible refine below_drewN ?_ _) | (with_reducible refine Below.drew ?_) | (with_reducible refine Below.setCell ?_ ?_ _) | (with_reducible refine below_trans ?_ (by assumption)) | (with_reducible exact Nat.le_refl _) | (with_reducible exact Below.size (by assumption)) | omega | (simp; omega) | (simp; done)))⟩

set_option maxRecDepth 100000 in
set_option maxHeartbeats 2000000 in
theorem bare_any (k : Int) (g : Bool) (a b : Bytes) (w : World) (ha : a.length ≤ 140737488355328) (hb : b.length ≤ 140737488355328) : Calls Tryz.prog 197 #[.agg #[.int .i64 k, .bool g, .string (bs a), .string (bs b)]] w fun e w' => e = .returned (.agg #[.int .i64 k, .bool (g && !none2 (trimL a) (trimR b)), .string (bs (trimL a)), .string (bs (trimR b))]) ∧ Below w.heap.size w w' := by
  have hA : (bs (trimL a)).size ≤ 140737488355328 := by have := trimL_le a; rw [bs_size]; omega
  have hB : (bs (trimR b)).size ≤ 140737488355328 := by have := trimR_le b; rw [bs_size]; omega
  go_enter Tryz.func197, Tryz.ntmps197
  go_wp2_with fail
  go_region_with (first | (refine (trimL_calls _ _).mono ?_; rintro e w1 ⟨rfl, rfl⟩) | (refine (trimR_calls _ _ (by omega)).mono ?_; rintro e w1 ⟨rfl, rfl⟩))
  all_goals
    have hn2 := none2_walk (trimL a) (trimR b)
    generalize hN : none2 (trimL a) (trimR b) = N at hn2
    have HN := Lib.hid hN
    clear hN
    cases g <;> cases N
    all_goals
      go_wp2
      refine bodyPost_ret (v := .agg #[.int .i64 k, .bool _, .string (bs (trimL a)), .string (bs (trimR b))]) (by simp [results, Tryz.results197, go_sem] <;> exact HN.out) rfl ⟨rfl, by (repeat' (first | (with_reducible exact Below.refl _ _) | (with_reducible assumption) | (with_reducible refine Below.alloc ?_ ?_ _) | (with_reducible refine below_drewN ?_ _) | (with_reducible refine Below.drew ?_) | (with_reducible refine Below.setCell ?_ ?_ _) | (with_reducible refine below_trans ?_ (by assumption)) | (with_reducible exact Nat.le_refl _) | (with_reducible exact Below.size (by assumption)) | omega | (simp; omega) | (simp; done)))⟩
end Go.Proofs.YtgkhnpldjdbmoaaGreatDoor
