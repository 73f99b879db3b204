/- A machine that runs closed calls: the operations that read. -/
import Derived.Test.YtijnlbpeckoofaaGreatEngL
set_option linter.unusedVariables false
set_option linter.unusedSimpArgs false
namespace Go.Proofs.YtijnlbpeckoofaaGreat
open Go.RowKit
variable {P : Program} {base : Nat} {Γ : Tie} {m : Mem} {w : World} {ev : Operand → Option AV} {ρ : Operand → Value}
/-- What an operation comes to. -/
def Gives (P : Program) (Γ : Tie) (w : World) (ρ : Operand → Value) (op : Op) (v : AV) : Prop :=
  ∀ dst type pos after guard, ∃ c, (execOp ρ ⟨dst, op, type, pos, after, guard⟩).run P w = .ok (.value c) w ∧ rel Γ v c
abbrev Evals (Γ : Tie) (ev : Operand → Option AV) (ρ : Operand → Value) : Prop := ∀ x a, ev x = some a → rel Γ a (ρ x)

theorem rdPick_ok (hev : Evals Γ ev ρ) {c a b : Operand} {v : AV} (h : rdPick P m ev c a b = some v) : Gives P Γ w ρ (.pick c a b) v := by
  intro dst type pos after guard
  unfold rdPick at h
  split at h
  · rename_i hc
    have := hev _ _ hc; simp only [rel] at this
    exact ⟨ρ a, by simp [execOp, this, asBool], hev _ _ h⟩
  · rename_i hc
    have := hev _ _ hc; simp only [rel] at this
    exact ⟨ρ b, by simp [execOp, this, asBool], hev _ _ h⟩
  · cases h
theorem places_run {fs : List Field} {pl : List (Nat × Nat)} (h : placesA P fs = some pl) (w : World) : (fs.mapM fun f => (Prod.mk f.offset <$> sizeOf f.type : Sem (Nat × Nat))).run P w = .ok pl w := by
  induction fs generalizing pl with
  | nil => simp only [placesA, Option.some.injEq] at h; subst h; rfl
  | cons f fs ih =>
    simp only [placesA] at h
    split at h
    · cases h
    rename_i n hn
    split at h
    · cases h
    rename_i l hl
    cases h
    simp [List.mapM_cons, sizeA_run hn, ih hl]
theorem rdBuild_ok (hev : Evals Γ ev ρ) {t : TypeId} {parts : Array (Nat × Operand)} {v : AV} (h : rdBuild P m ev t parts = some v) : Gives P Γ w ρ (.build t parts) v := by
  intro dst type pos after guard
  unfold rdBuild at h
  split at h
  case h_2 => cases h
  rename_i z ps hz hps
  obtain ⟨zv, hzr, hzrel⟩ := zeroA_run hz Γ w
  have hP := evalsP_rel hev hps
  split at h
  · rename_i fs hu
    split at h
    case h_2 => cases h
    rename_i pl hpl
    split at h
    case h_2 => cases h
    rename_i cs hf
    cases h
    obtain ⟨vs, h1, h2⟩ := fillA_run (vs := zv.cells.toList) hP hzrel.cells hf
    refine ⟨.agg ⟨vs⟩, ?_, by simp only [rel]; exact ⟨vs, rfl, h2⟩⟩
    have hpl' := places_run hpl w
    have hm : (fs.mapM fun f => (Prod.mk f.offset <$> sizeOf f.type : Sem (Nat × Nat))).run P w = .ok pl.toArray w := by
      rw [Array.mapM_eq_mapM_toList]
      simp [hpl']
    have hfill : Instr.fill (fun x => pl[x]?) zv.cells (parts.toList.map fun p => (p.1, ρ p.2)) = some ⟨vs⟩ := by
      have : (⟨zv.cells.toList⟩ : Array Value) = zv.cells := by simp
      rw [← this]; exact h1
    simp [execOp, Instr.build, hzr, run_underlying hu, hm, hfill]
  · rename_i n elem hu
    split at h
    case h_2 => cases h
    rename_i s hs
    split at h
    case h_2 => cases h
    rename_i cs hf
    cases h
    obtain ⟨vs, h1, h2⟩ := fillA_run (vs := zv.cells.toList) hP hzrel.cells hf
    refine ⟨.agg ⟨vs⟩, ?_, by simp only [rel]; exact ⟨vs, rfl, h2⟩⟩
    have hfill : Instr.fill (fun i => some (i * s, s)) zv.cells (parts.toList.map fun p => (p.1, ρ p.2)) = some ⟨vs⟩ := by
      have : (⟨zv.cells.toList⟩ : Array Value) = zv.cells := by simp
      rw [← this]; exact h1
    simp [execOp, Instr.build, hzr, run_underlying hu, sizeA_run hs, hfill]
  · cases h
theorem rdLoad_ok (hR : Rep base Γ m.H w) (hev : Evals Γ ev ρ) {t : TypeId} {a : Operand} {v : AV} (h : rdLoad P m ev t a = some v) : Gives P Γ w ρ (.load t a) v := by
  intro dst type pos after guard
  unfold rdLoad at h
  split at h
  · rename_i b off ha
    have := hev _ _ ha; simp only [rel] at this
    obtain ⟨i, hi, e⟩ := this
    obtain ⟨c, h1, h2⟩ := loadA_run hR h hi
    exact ⟨c, by simp [execOp, Instr.loadAt, Instr.sureAddr, e, h1], h2⟩
  · cases h
theorem rdNil_ok (hev : Evals Γ ev ρ) {x : Operand} {v : AV} (h : rdNil P m ev x = some v) : Gives P Γ w ρ (.nilCheck x) v := by
  intro dst type pos after guard
  unfold rdNil at h
  split at h
  · rename_i hx; cases h
    have h0 := hev _ _ hx
    have h1 := h0
    simp only [rel] at h1
    obtain ⟨i, hi, e⟩ := h1
    exact ⟨ρ x, by simp [execOp, e], h0⟩
  · rename_i hx; cases h
    have h0 := hev _ _ hx
    have h1 := h0
    simp only [rel] at h1
    obtain ⟨i, e, hi⟩ := h1
    exact ⟨ρ x, by simp [execOp, e], h0⟩
  · rename_i hx; cases h
    have h0 := hev _ _ hx
    have h1 := h0
    simp only [rel, relFn] at h1
    obtain ⟨fn', f', c', e, rfl, _⟩ := h1
    exact ⟨ρ x, by simp [execOp, e], h0⟩
  · cases h
theorem unA_ok {op : UnOp} {a : AV} {v : AV} {x : Value} (h : unA op a = some v) (hx : rel Γ a x) : ∃ c, (Op.unary op x).run P w = .ok c w ∧ rel Γ v c := by
  unfold unA at h
  split at h
  · cases h; simp only [rel] at hx; subst hx; exact ⟨_, by simp [Op.unary]; rfl, by simp only [rel]⟩
  · cases h; simp only [rel] at hx; subst hx; exact ⟨_, by simp [Op.unary, Op.intArith]; rfl, by simp only [rel]; simp⟩
  · simp only [rel] at hx; subst hx
    simp only [binInt, Option.some.injEq] at h; subst h
    exact ⟨_, rfl, by simp only [rel]⟩
  · cases h
theorem rdUn_ok (hev : Evals Γ ev ρ) {op : UnOp} {t : TypeId} {x : Operand} {v : AV} (h : rdUn P m ev op x = some v) : Gives P Γ w ρ (.unOp op t x) v := by
  intro dst type pos after guard
  unfold rdUn at h
  split at h
  · rename_i a ha
    obtain ⟨c, h1, h2⟩ := unA_ok (P := P) (w := w) h (hev _ _ ha)
    exact ⟨c, by simp [execOp, h1], h2⟩
  · cases h
theorem rdIface_ok (hev : Evals Γ ev ρ) {t : TypeId} {x : Operand} {v : AV} (h : rdIface P m ev t x = some v) : Gives P Γ w ρ (.makeInterface t x) v := by
  intro dst type pos after guard
  unfold rdIface at h
  split at h
  · cases h
  · rename_i a d hn ha hu
    cases h
    refine ⟨.iface t (ρ x), ?_, by simp only [rel]; exact ⟨_, rfl, hev _ _ ha⟩⟩
    simp only [execOp, Sem.run_bind, Instr.makeInterface, run_underlying hu, Result.andThen_ok]
    cases d <;> first | exact absurd hu (by intro e; exact hn _ _ _ ha e) | rfl | simp
  · cases h
theorem rdFunc_ok (hev : Evals Γ ev ρ) {fn : Fn} {first captured : Array Operand} {v : AV} (h : rdFunc P m ev fn first captured = some v) : Gives P Γ w ρ (.makeFunc fn first captured) v := by
  intro dst type pos after guard
  unfold rdFunc at h
  split at h
  · cases h
  rename_i fn' hfn
  split at h
  case h_2 => cases h
  rename_i a b ha hb
  cases h
  refine ⟨.func fn (first.map ρ) (captured.map ρ), by simp [execOp, Instr.makeFunc], ?_⟩
  simp only [rel]
  refine ⟨fn, _, _, ?_, ?_, evals_rel hev ha, evals_rel hev hb⟩
  · congr 1 <;> (apply Array.ext'; simp)
  · cases fn <;> first | rfl | exact absurd rfl (hfn _)
end Go.Proofs.YtijnlbpeckoofaaGreat
