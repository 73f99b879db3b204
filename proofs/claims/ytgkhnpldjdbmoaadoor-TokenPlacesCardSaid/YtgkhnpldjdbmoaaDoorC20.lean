/- The walk of kit.Same over tokens. -/
import Derived.Test.YtgkhnpldjdbmoaaDoorC19
set_option linter.unusedVariables false
set_option linter.unusedSimpArgs false
namespace Go.Proofs.YtgkhnpldjdbmoaaDoor
open Go.RowKit

theorem tokCells_at : ∀ (ts : List Tok) (i : Nat) (h : i < ts.length), (tokCells ts)[i * 5]? = some (.int .i64 (ts[i].t.kind : Int)) ∧ (tokCells ts)[i * 5 + 1]? = some (.int .i64 ts[i].t.n) ∧ (tokCells ts)[i * 5 + 2]? = some (.string (bs ts[i].t.s)) ∧ (tokCells ts)[i * 5 + 3]? = some (.int .i64 (ts[i].from_ : Int)) ∧ (tokCells ts)[i * 5 + 4]? = some (.int .i64 (ts[i].to : Int)) := by
  intro ts
  induction ts with
  | nil => intro i h; simp at h
  | cons t ts ih =>
    intro i h
    cases i with
    | zero => exact ⟨rfl, rfl, rfl, rfl, rfl⟩
    | succ i =>
      have := ih i (by simpa using h)
      rw [show (i + 1) * 5 = i * 5 + 5 by omega]
      exact this

/-- The slice at block g holds these tokens. -/
def Holds (w : World) (g : Nat) (ts : List Tok) : Prop := ∀ i (h : i < ts.length), w.cell? ⟨g, i * 5, none⟩ = some (.int .i64 (ts[i].t.kind : Int)) ∧ w.cell? ⟨g, i * 5 + 1, none⟩ = some (.int .i64 ts[i].t.n) ∧ w.cell? ⟨g, i * 5 + 2, none⟩ = some (.string (bs ts[i].t.s)) ∧ w.cell? ⟨g, i * 5 + 3, none⟩ = some (.int .i64 (ts[i].from_ : Int)) ∧ w.cell? ⟨g, i * 5 + 4, none⟩ = some (.int .i64 (ts[i].to : Int))
theorem holds_of {w : World} {g : Nat} {ts : List Tok} (h : ∀ j, j < ts.length * 5 → w.cell? ⟨g, j, none⟩ = (tokCells ts)[j]?) : Holds w g ts := fun i hi => by
  obtain ⟨h0, h1, h2, h3, h4⟩ := tokCells_at ts i hi
  exact ⟨(h _ (by omega)).trans h0, (h _ (by omega)).trans h1, (h _ (by omega)).trans h2, (h _ (by omega)).trans h3, (h _ (by omega)).trans h4⟩
theorem Holds.below {w w1 : World} {g : Nat} {ts : List Tok} (h : Holds w g ts) (hb : Below w.heap.size w w1) : Holds w1 g ts := fun i hi => by
  obtain ⟨h0, h1, h2, h3, h4⟩ := h i hi
  exact ⟨cell_below hb h0, cell_below hb h1, cell_below hb h2, cell_below hb h3, cell_below hb h4⟩
theorem Holds.take {w : World} {g : Nat} {ts : List Tok} (h : Holds w g ts) (n : Nat) : Holds w g (ts.take n) := fun i hi => by
  have h2 : i < ts.length := by rw [List.length_take] at hi; omega
  have := h i h2
  rw [List.getElem_take]; exact this

set_option maxRecDepth 100000 in
set_option maxHeartbeats 2000000 in
theorem same_any (ts : List Tok) (g1 g2 c1 c2 : Nat) (w : World) (hn : ts.length ≤ 4000000000) (h1 : Holds w g1 ts) (h2 : Holds w g2 ts) :
    Calls Tryd.prog 11 #[.slice (some ⟨g1, 0, none⟩) ts.length c1, .slice (some ⟨g2, 0, none⟩) ts.length c2] w fun e w' => e = .returned (.bool true) ∧ Below w.heap.size w w' := by
  have HH1 := Lib.hid h1; have HH2 := Lib.hid h2; clear h1 h2
  go_enter Tryd.func11, Tryd.ntmps11
  go_wp2
  go_loopw [5] (fun a wr => ∃ k : Nat, k ≤ ts.length ∧ a = .int .i64 k ∧ ∃ n, wr = w.drewN n) (fun a _ => ts.length - (intOf a).toNat)
  case atStart => exact ⟨0, by omega, rfl, 0, rfl⟩
  case round =>
    obtain ⟨k, hk, rfl, n, rfl⟩ := hrel
    by_cases hlt : k < ts.length
    · obtain ⟨a0, a1, a2, a3, a4⟩ := HH1.out k hlt
      obtain ⟨b0, b1, b2, b3, b4⟩ := HH2.out k hlt
      have g1 : decide ((k : Int) < 0) = false := by simp
      have g2 : decide (ts.length ≤ k) = false := by simp; omega
      have g3 : decide ((ts.length : Int) ≤ (k : Int)) = false := by simp; omega
      have g4 : decide ((k : Int) < (ts.length : Int)) = true := by simp; omega
      generalize ts[k].t.kind = x0 at *
      generalize ts[k].t.n = x1 at *
      generalize ts[k].t.s = x2 at *
      generalize ts[k].from_ = x3 at *
      generalize ts[k].to = x4 at *
      go_upto_region 6 with fail
      go_quiet (fail)
      go_wp2
      go_roundw
      case rel => exact ⟨k + 1, by omega, by go_num, n + nq, by simp [World.drewN_drewN]⟩
      case measure => simp [intOf]; omega
    · have g4 : decide ((k : Int) < (ts.length : Int)) = false := by simp; omega
      go_wp2
      go_ret
      exact ⟨rfl, by (repeat' (first | (with_reducible exact Below.refl _ _) | (with_reducible assumption) | (with_reducible refine Below.alloc ?_ ?_ _) | (with_reducible refine below_drewN ?_ _) | (with_reducible refine Below.drew ?_) | (with_reducible refine Below.setCell ?_ ?_ _) | (with_reducible refine below_trans ?_ (by assumption)) | (with_reducible exact Nat.le_refl _) | (with_reducible exact Below.size (by assumption)) | omega | (simp; omega) | (simp; done)))⟩
end Go.Proofs.YtgkhnpldjdbmoaaDoor
