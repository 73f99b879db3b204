/- Tokens as they may come in: in a block, in a row. -/
import Derived.Test.YtgkhnpldjdbmoaaGreatDoorC3
set_option linter.unusedVariables false
set_option linter.unusedSimpArgs false
namespace Go.Proofs.YtgkhnpldjdbmoaaGreatDoor
open Go.RowKit

/-- A token as it may come in. -/
structure RT where
  k : Int
  n : Int
  s : ByteArray
  f : Int
  t : Int
/-- The slice at block g holds these tokens. -/
def HoldsR (w : World) (g : Nat) (ts : List RT) : Prop := ∀ i (h : i < ts.length), w.cell? ⟨g, i * 5, none⟩ = some (.int .i64 ts[i].k) ∧ w.cell? ⟨g, i * 5 + 1, none⟩ = some (.int .i64 ts[i].n) ∧ w.cell? ⟨g, i * 5 + 2, none⟩ = some (.string ts[i].s) ∧ w.cell? ⟨g, i * 5 + 3, none⟩ = some (.int .i64 ts[i].f) ∧ w.cell? ⟨g, i * 5 + 4, none⟩ = some (.int .i64 ts[i].t)
theorem HoldsR.below {w w1 : World} {g : Nat} {ts : List RT} (h : HoldsR w g ts) (hb : Below w.heap.size w w1) : HoldsR w1 g ts := fun i hi => by
  obtain ⟨h0, h1, h2, h3, h4⟩ := h i hi
  exact ⟨cell_below hb h0, cell_below hb h1, cell_below hb h2, cell_below hb h3, cell_below hb h4⟩
/-- The tokens from a place of a block on. -/
def HoldsO (w : World) (g o : Nat) (ts : List RT) : Prop := ∀ i (h : i < ts.length), w.cell? ⟨g, o + i * 5, none⟩ = some (.int .i64 ts[i].k) ∧ w.cell? ⟨g, o + i * 5 + 1, none⟩ = some (.int .i64 ts[i].n) ∧ w.cell? ⟨g, o + i * 5 + 2, none⟩ = some (.string ts[i].s) ∧ w.cell? ⟨g, o + i * 5 + 3, none⟩ = some (.int .i64 ts[i].f) ∧ w.cell? ⟨g, o + i * 5 + 4, none⟩ = some (.int .i64 ts[i].t)
theorem HoldsO.below {w w1 : World} {g o : Nat} {ts : List RT} (h : HoldsO w g o ts) (hb : Below w.heap.size w w1) : HoldsO w1 g o ts := fun i hi => by
  obtain ⟨h0, h1, h2, h3, h4⟩ := h i hi
  exact ⟨cell_below hb h0, cell_below hb h1, cell_below hb h2, cell_below hb h3, cell_below hb h4⟩
/-- What the machine can hold of a token. -/
def RT.fits (t : RT) : Prop := t.s.size ≤ 140737488355328 ∧ (-9223372036854775808 ≤ t.n ∧ t.n ≤ 9223372036854775807)
end Go.Proofs.YtgkhnpldjdbmoaaGreatDoor
