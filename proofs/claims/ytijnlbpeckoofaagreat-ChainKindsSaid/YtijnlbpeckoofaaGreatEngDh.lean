/- A machine that runs closed calls: how a call without memory begins. -/
import Derived.Test.YtijnlbpeckoofaaGreatEngDg
set_option linter.unusedVariables false
set_option linter.unusedSimpArgs false
namespace Go.Proofs.YtijnlbpeckoofaaGreat
open Go.RowKit

/-- The variables of the library's are where they are. -/
def tie0 (g0 : Nat) (tot : Nat → Nat) : Tie := fun g => if g < g0 then some ⟨g, tot g⟩ else none
theorem gl_tie0 (g0 : Nat) (tot : Nat → Nat) : Gl g0 (tie0 g0 tot) := fun g hg => ⟨⟨g, tot g⟩, if_pos hg, rfl⟩
theorem start_ok {cf : Cf} {E : World → Prop} {W : World} {n : Nat} {f : FuncId} {v : AV} {G : PT AObj} {tot : Nat → Nat} (S : Sound cf W.heap.size E) (hf : cf.hd f = none) (h : evalCall cf G n f [] = some v)
    (hG : Rep W.heap.size (tie0 cf.g0 tot) G W) (hE : E W) : Calls cf.P f #[] W fun e W' => ∃ c Γ', e = .returned c ∧ rel Γ' v c ∧ Below W.heap.size W W' := by
  unfold evalCall at h
  split at h
  case h_2 => cases h
  rename_i v' m' hc
  cases h
  unfold callA at hc
  rw [hf] at hc
  obtain ⟨h1, h2⟩ := run_ok S (fun rec h1 h2 => draw_ok S h1 h2) n
  have hst : St cf W.heap.size E (tie0 cf.g0 tot) ⟨G, cf.g0⟩ W := ⟨hG, gl_tie0 _ _, hE⟩
  have hF : Fresh (tie0 cf.g0 tot) ⟨G, cf.g0⟩ m' := fun b hb _ => if_neg (by simp only at hb; omega)
  obtain ⟨_, hcalls⟩ := body_ok S h1 h2 hc (cs := []) (by simp only [relL]) hst hF
  refine Calls.mono hcalls fun e W' he => ?_
  obtain ⟨c, Γ', rfl, hr, hM⟩ := he
  exact ⟨c, Γ', rfl, hr, Moves.below hG hM⟩
theorem rep_nil (W : World) (Γ : Tie) : Rep W.heap.size Γ .nil W :=
  ⟨Nat.le_refl _, fun b o h => (by rw [PT.get_nil] at h; cases h), fun b c o p i j h => (by rw [PT.get_nil] at h; cases h)⟩
/-- A closed call that tells yes. -/
theorem start_yes {cf : Cf} {E : World → Prop} {W : World} {n : Nat} {f : FuncId} {G : PT AObj} {tot : Nat → Nat} (S : Sound cf W.heap.size E) (hf : cf.hd f = none) (h : evalCall cf G n f [] = some (.bool true))
    (hG : Rep W.heap.size (tie0 cf.g0 tot) G W) (hE : E W) : Calls cf.P f #[] W fun e W' => e = .returned (.bool true) ∧ Below W.heap.size W W' :=
  Calls.mono (start_ok S hf h hG hE) fun e W' ⟨c, Γ', h1, h2, h3⟩ => by
    simp only [rel] at h2
    subst h2
    exact ⟨h1, h3⟩
end Go.Proofs.YtijnlbpeckoofaaGreat
