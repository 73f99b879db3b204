/- The walk of token.part, first part: its closure, and the two variables that the closure holds. -/
import Derived.Test.YtgkhnpldjdbmoaaGreatDoorC15
set_option linter.unusedVariables false
set_option linter.unusedSimpArgs false
namespace Go.Proofs.YtgkhnpldjdbmoaaGreatDoor
open Go.RowKit

/-- The place's variable at block b, the token's at the next one. -/
structure PW (b : Nat) (k : Int) (cs : Nat → Option Value) (W : World) : Prop where
  p : W.cell? ⟨b, 0, none⟩ = some (.int .i64 k)
  fp : W.frozen? ⟨b, 0, none⟩ = false
  q : ∀ j, W.cell? ⟨b + 1, j, none⟩ = cs j
  fq : ∀ j, W.frozen? ⟨b + 1, j, none⟩ = false
  sz : b + 2 ≤ W.heap.size

theorem PW.below {b : Nat} {k : Int} {cs : Nat → Option Value} {W W' : World} (h : PW b k cs W) (hb : Below W.heap.size W W') : PW b k cs W' := by
  have := h.sz
  refine ⟨?_, ?_, fun j => ?_, fun j => ?_, by have := hb.size; omega⟩
  · rw [hb.cell (p := ⟨b, 0, none⟩) (by simp; omega)]; exact h.p
  · rw [hb.frozen (p := ⟨b, 0, none⟩) (by simp; omega)]; exact h.fp
  · rw [hb.cell (p := ⟨b + 1, j, none⟩) (by simp; omega)]; exact h.q j
  · rw [hb.frozen (p := ⟨b + 1, j, none⟩) (by simp; omega)]; exact h.fq j

theorem PW.set {b : Nat} {k : Int} {cs : Nat → Option Value} {W : World} (h : PW b k cs W) (i : Nat) (v : Value) (hi : (cs i).isSome = true) : PW b k (fun j => if j = i then some v else cs j) (W.setCell ⟨b + 1, i, none⟩ v) := by
  have hne : (⟨b + 1, i, none⟩ : Addr) ≠ ⟨b, 0, none⟩ := fun h => by injection h with h1 _; omega
  refine ⟨?_, ?_, fun j => ?_, fun j => ?_, by have := h.sz; simpa using this⟩
  · exact (World.cell?_setCell_other W _ _ v hne).trans h.p
  · rw [World.frozen?_setCell]; exact h.fp
  · by_cases hj : j = i
    · subst hj; rw [if_pos rfl]; exact World.cell?_setCell_same' _ _ _ (by rw [h.q]; exact hi)
    · have hne2 : (⟨b + 1, i, none⟩ : Addr) ≠ ⟨b + 1, j, none⟩ := fun h => hj (by injection h with _ h2; exact h2.symm)
      rw [if_neg hj]
      exact (World.cell?_setCell_other W _ _ v hne2).trans (h.q j)
  · rw [World.frozen?_setCell]; exact h.fq j

theorem PW.drew {b : Nat} {k : Int} {cs : Nat → Option Value} {W : World} (h : PW b k cs W) : PW b k cs W.drew := ⟨h.p, h.fp, h.q, h.fq, h.sz⟩
theorem PW.to {b : Nat} {k : Int} {cs cs' : Nat → Option Value} {W : World} (h : PW b k cs W) (hc : ∀ j, cs j = cs' j) : PW b k cs' W := by
  have : cs = cs' := funext hc
  subst this; exact h

set_option maxRecDepth 100000 in
set_option maxHeartbeats 2000000 in
theorem short_any (b : Nat) (k a n : Int) (cs : Nat → Option Value) (w : World) (h : PW b k cs w) (h0 : (cs 0).isSome = true) (h4 : (cs 4).isSome = true) (hk : 0 ≤ k ∧ k ≤ 4000000000) (hn : 0 ≤ n ∧ n ≤ 2) :
    Calls Tryz.prog 119 #[.int .i64 a, .int .i64 n, .pointer (some ⟨b, 0, none⟩), .pointer (some ⟨b + 1, 0, none⟩)] w fun e w' => e = .returned (.tuple #[]) ∧ PW b k (fun j => if j = 4 then some (.int .i64 (k + n)) else if j = 0 then some (.int .i64 a) else cs j) w' ∧ Below b w w' := by
  obtain ⟨hp, hfp, hq, hfq, hsz⟩ := id h
  have c0 := hq 0; have c4 := hq 4
  obtain ⟨v0, hv0⟩ := Option.isSome_iff_exists.1 h0
  obtain ⟨v4, hv4⟩ := Option.isSome_iff_exists.1 h4
  have d0 : w.cell? ⟨b + 1, 0, none⟩ = some v0 := c0.trans hv0
  have d4 : w.cell? ⟨b + 1, 4, none⟩ = some v4 := c4.trans hv4
  have f0 := hfq 0; have f4 := hfq 4
  have hwr : IntKind.i64.wrap (k + n) = k + n := IntWalk.i64_in _ (by omega)
  clear c0 c4 hq hfq
  go_enter Tryz.func119, Tryz.ntmps119
  go_wp2
  go_region
  go_end0
  have h1 := ((h.set 0 (.int .i64 a) h0).set 4 (.int .i64 (k + n)) (by simpa using h4)).drew
  refine ⟨rfl, h1, ?_⟩
  exact (((Below.refl b w).setCell (p := ⟨b + 1, 0, none⟩) (Nat.le_succ b) _).setCell (p := ⟨b + 1, 4, none⟩) (Nat.le_succ b) _).drew
end Go.Proofs.YtgkhnpldjdbmoaaGreatDoor
