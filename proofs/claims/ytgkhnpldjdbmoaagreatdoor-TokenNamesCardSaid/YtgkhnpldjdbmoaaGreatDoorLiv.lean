/- The walk of pagemenderlaw05.lives. -/
import Derived.Test.YtgkhnpldjdbmoaaGreatDoorC18
set_option linter.unusedVariables false
set_option linter.unusedSimpArgs false
namespace Go.Proofs.YtgkhnpldjdbmoaaGreatDoor
open Go.RowKit

theorem row_some {w : World} {base : Nat} {e : TypeId} {n size : Nat} {v : Value} {xs : List Value} (h : w.ownsRow base e size v n xs) (hn : 0 < n) :
    ∃ g cap, v = .slice (some ⟨g, 0, none⟩) n cap ∧ (∀ j, j < n * size → w.cell? ⟨g, j, none⟩ = xs[j]?) ∧ base ≤ g ∧ g < w.heap.size ∧ n ≤ cap ∧ cap ≤ maxLen := by
  rcases id h.2 with ⟨rfl, h0⟩ | ⟨g, cap, cur, rfl, h1, h2, h3, h4, _⟩
  · omega
  · exact ⟨g, cap, rfl, fun j hj => h.cellAt j hj, (h.lt g rfl).1, (h.lt g rfl).2, h3, h4⟩

def lit1 : Bytes := [47, 97, 32, 53, 46, 48, 60, 60, 40, 120, 41, 62, 62, 82]
def lit2 : Bytes := [49, 46, 50, 46, 51]
theorem all_lit1 : all lit1 = ([⟨⟨3, 0, [97]⟩, 0, 2⟩, ⟨⟨2, 0, [53, 46, 48]⟩, 3, 6⟩, ⟨⟨7, 0, []⟩, 6, 8⟩, ⟨⟨4, 0, [120]⟩, 8, 11⟩, ⟨⟨8, 0, []⟩, 11, 13⟩, ⟨⟨9, 0, [82]⟩, 13, 14⟩], 14, 0) := by decide +kernel
theorem all_lit2 : all lit2 = ([⟨⟨9, 0, lit2⟩, 0, 5⟩], 5, 0) := by decide +kernel

set_option maxRecDepth 100000 in
set_option maxHeartbeats 2000000 in
theorem lives_any (w : World) (he : Env w) : Calls Tryz.prog 26 #[] w fun e w' => e = .returned (.bool true) ∧ Below w.heap.size w w' := by
  have h1 : ∀ W, Env W → Calls Tryz.prog 23 #[.string ⟨#[47, 97, 32, 53, 46, 48, 60, 60, 40, 120, 41, 62, 62, 82]⟩] W fun e w' => ∃ g cap, e = .returned (.tuple #[.slice (some ⟨g, 0, none⟩) 6 cap, .int .i64 14, .int .i64 0]) ∧ (∀ j, j < 30 → w'.cell? ⟨g, j, none⟩ = (tokCells (all lit1).1)[j]?) ∧ g < w'.heap.size ∧ Below W.heap.size W w' := fun W hW =>
    (all_any ⟨#[47, 97, 32, 53, 46, 48, 60, 60, 40, 120, 41, 62, 62, 82]⟩ W (by decide) hW).mono fun e w' h => by
      obtain ⟨v, rfl, hown, hb⟩ := h
      change w'.ownsRow _ _ _ v (all lit1).1.length (tokCells (all lit1).1) at hown
      have hl : (all lit1).1.length = 6 := by rw [all_lit1]; rfl
      rw [hl] at hown
      obtain ⟨g, cap, rfl, hc, _, hlt, _⟩ := row_some hown (by omega)
      refine ⟨g, cap, ?_, hc, hlt, hb⟩
      show Ending.returned (.tuple #[_, .int .i64 ((all lit1).2.1 : Int), .int .i64 ((all lit1).2.2 : Int)]) = _
      rw [all_lit1]; rfl
  have h2 : ∀ W, Env W → Calls Tryz.prog 23 #[.string ⟨#[49, 46, 50, 46, 51]⟩] W fun e w' => ∃ g cap, e = .returned (.tuple #[.slice (some ⟨g, 0, none⟩) 1 cap, .int .i64 5, .int .i64 0]) ∧ (∀ j, j < 5 → w'.cell? ⟨g, j, none⟩ = (tokCells (all lit2).1)[j]?) ∧ Below W.heap.size W w' := fun W hW =>
    (all_any ⟨#[49, 46, 50, 46, 51]⟩ W (by decide) hW).mono fun e w' h => by
      obtain ⟨v, rfl, hown, hb⟩ := h
      change w'.ownsRow _ _ _ v (all lit2).1.length (tokCells (all lit2).1) at hown
      have hl : (all lit2).1.length = 1 := by rw [all_lit2]; rfl
      rw [hl] at hown
      obtain ⟨g, cap, rfl, hc, _, hlt, _⟩ := row_some hown (by omega)
      refine ⟨g, cap, ?_, hc, hb⟩
      show Ending.returned (.tuple #[_, .int .i64 ((all lit2).2.1 : Int), .int .i64 ((all lit2).2.2 : Int)]) = _
      rw [all_lit2]; rfl
  have H1 := Lib.hid h1; have H2 := Lib.hid h2; clear h1 h2
  go_enter Tryz.func26, Tryz.ntmps26
  go_upto_region 2 with (go_at_call 23; (with_reducible refine (H1.out _ ?_).mono ?_); (focus exact he); rintro e w1 ⟨g, cap, rfl, hc, hlt, hb1⟩)
  have hew := he.below hb1
  go_wp2_with (first
    | ((go_at_call 23; (with_reducible refine (H2.out _ ?_).mono ?_); (focus exact hew); rintro e w2 ⟨g2, cap2, rfl, hc2, hb2⟩; have c2 : w2.cell? ⟨g, 2, none⟩ = some (.string (bs [97])) := (by rw [hb2.cell (p := ⟨g, 2, none⟩) hlt, hc 2 (by omega), all_lit1]; rfl); have c5 : w2.cell? ⟨g, 5, none⟩ = some (.int .i64 2) := (by rw [hb2.cell (p := ⟨g, 5, none⟩) hlt, hc 5 (by omega), all_lit1]; rfl); have c7 : w2.cell? ⟨g, 7, none⟩ = some (.string (bs [53, 46, 48])) := (by rw [hb2.cell (p := ⟨g, 7, none⟩) hlt, hc 7 (by omega), all_lit1]; rfl); have c17 : w2.cell? ⟨g, 17, none⟩ = some (.string (bs [120])) := (by rw [hb2.cell (p := ⟨g, 17, none⟩) hlt, hc 17 (by omega), all_lit1]; rfl); have c25 : w2.cell? ⟨g, 25, none⟩ = some (.int .i64 9) := (by rw [hb2.cell (p := ⟨g, 25, none⟩) hlt, hc 25 (by omega), all_lit1]; rfl); have d0 : w2.cell? ⟨g2, 0, none⟩ = some (.int .i64 9) := (by rw [hc2 0 (by omega), all_lit2]; rfl); unfold bs at c2 c7 c17; clear hc hc2)))
  go_ret
  exact ⟨rfl, hb1.trans (hb2.mono hb1.size)⟩
end Go.Proofs.YtgkhnpldjdbmoaaGreatDoor
