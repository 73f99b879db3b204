/- A machine that runs closed calls: calls that are known from before. -/
import Derived.Test.YtijnlbpeckoofaaGreatEngDh
set_option linter.unusedVariables false
set_option linter.unusedSimpArgs false
namespace Go.Proofs.YtijnlbpeckoofaaGreat
open Go.RowKit
variable {cf : Cf} {base : Nat} {E : World → Prop} {Γ : Tie} {m : Mem} {w w' : World}

theorem Moves.ofBelow (hR : Rep base Γ m.H w) (hb : Below w.heap.size w w') : Moves base Γ m w Γ m w' where
  le := Nat.le_refl _
  keep := Keeps.refl _
  new _ _ := rfl
  rep := ⟨Nat.le_trans hR.base_le hb.size, fun b o h => by
    obtain ⟨i, o', h1, h2, h3, h4⟩ := hR.obj b o h
    exact ⟨i, o', h1, h2, by rw [hb.block _ (hR.lt h h1)]; exact h3, h4⟩, hR.inj⟩
  os := hb.os
  tape := hb.tape
  output := hb.output
  size := hb.size
  low x hx := hb.block x (Nat.lt_of_lt_of_le hx hR.base_le)
  frame x hx _ := hb.block x hx
  orig b o i h1 h2 := .inr ⟨b, o, i, h1, h2, rfl⟩
  dom b o h := .inl ⟨o, h⟩
mutual
/-- A value without a place in it. -/
noncomputable def valA : AV → Option Value
  | .bool b => some (.bool b)
  | .int k n => some (.int k n)
  | .str n x => bif Nat.blt x (256 ^ n) then some (.string (strOf n x)) else none
  | .nilptr => some (.pointer none)
  | .nilslice => some (.slice none 0 0)
  | .nilmap => some (.map none)
  | .nilFunc => some .nilFunc
  | .nilIface => some .nilIface
  | .agg l => match valL l with
    | some vs => some (.agg ⟨vs⟩)
    | none => none
  | .tuple l => match valL l with
    | some vs => some (.tuple ⟨vs⟩)
    | none => none
  | _ => none
noncomputable def valL : List AV → Option (List Value)
  | [] => some []
  | a :: l => match valA a with
    | none => none
    | some v => match valL l with
      | none => none
      | some vs => some (v :: vs)
end
mutual
theorem valA_ok : ∀ {a : AV} {v : Value}, valA a = some v → ∀ Γ c, rel Γ a c ↔ c = v
  | .bool _, v, h, Γ, c | .int .., v, h, Γ, c | .nilptr, v, h, Γ, c | .nilslice, v, h, Γ, c | .nilmap, v, h, Γ, c | .nilFunc, v, h, Γ, c | .nilIface, v, h, Γ, c => by
    simp only [valA, Option.some.injEq] at h; subst h; simp only [rel]
  | .str n x, v, h, Γ, c => by
    simp only [valA] at h
    obtain ⟨h1, h2⟩ := bif_none h
    cases h2
    simp only [rel]
    exact ⟨fun q => q.1, fun q => ⟨q, nblt h1⟩⟩
  | .agg l, v, h, Γ, c => by
    simp only [valA] at h
    cases e : valL l with
    | none => rw [e] at h; cases h
    | some vs =>
      rw [e] at h; cases h
      simp only [rel]
      constructor
      · rintro ⟨l', rfl, h1⟩; rw [(valL_ok e Γ l').1 h1]
      · rintro rfl; exact ⟨vs, rfl, (valL_ok e Γ vs).2 rfl⟩
  | .tuple l, v, h, Γ, c => by
    simp only [valA] at h
    cases e : valL l with
    | none => rw [e] at h; cases h
    | some vs =>
      rw [e] at h; cases h
      simp only [rel]
      constructor
      · rintro ⟨l', rfl, h1⟩; rw [(valL_ok e Γ l').1 h1]
      · rintro rfl; exact ⟨vs, rfl, (valL_ok e Γ vs).2 rfl⟩
  | .ptr .., v, h, Γ, c | .slice .., v, h, Γ, c | .map _, v, h, Γ, c | .func .., v, h, Γ, c | .iface .., v, h, Γ, c | .hollow _, v, h, Γ, c => by
    simp only [valA] at h; cases h
theorem valL_ok : ∀ {l : List AV} {vs : List Value}, valL l = some vs → ∀ Γ cs, relL Γ l cs ↔ cs = vs
  | [], vs, h, Γ, cs => by simp only [valL, Option.some.injEq] at h; subst h; simp only [relL]
  | a :: l, vs, h, Γ, cs => by
    simp only [valL] at h
    cases e : valA a with
    | none => rw [e] at h; cases h
    | some v =>
      rw [e] at h
      cases e2 : valL l with
      | none => rw [e2] at h; cases h
      | some us =>
        rw [e2] at h; cases h
        simp only [relL]
        constructor
        · rintro ⟨c, cs', rfl, h1, h2⟩; rw [(valA_ok e Γ c).1 h1, (valL_ok e2 Γ cs').1 h2]
        · rintro rfl; exact ⟨v, us, rfl, (valA_ok e Γ v).2 rfl, (valL_ok e2 Γ us).2 rfl⟩
end
/-- A call with plain arguments, from its beginning. -/
theorem start_args {cf : Cf} {E : World → Prop} {W : World} {n : Nat} {f : FuncId} {args : List AV} {v : AV} {vs : List Value} {u : Value} {G : PT AObj} {tot : Nat → Nat} (S : Sound cf W.heap.size E) (hf : cf.hd f = none) (h : evalCall cf G n f args = some v)
    (ha : valL args = some vs) (hv : valA v = some u) (hG : Rep W.heap.size (tie0 cf.g0 tot) G W) (hE : E W) : Calls cf.P f ⟨vs⟩ W fun e W' => e = .returned u ∧ Below W.heap.size W W' := by
  unfold evalCall at h
  split at h
  case h_2 => cases h
  rename_i v' m' hc
  cases h
  unfold callA at hc
  rw [hf] at hc
  obtain ⟨h1, h2⟩ := run_ok S (fun rec h1 h2 => draw_ok S h1 h2) n
  have hst : St cf W.heap.size E (tie0 cf.g0 tot) ⟨G, cf.g0⟩ W := ⟨hG, gl_tie0 _ _, hE⟩
  have hF : Fresh (tie0 cf.g0 tot) ⟨G, cf.g0⟩ m' := fun b hb _ => if_neg (by simp only at hb; omega)
  obtain ⟨_, hcalls⟩ := body_ok S h1 h2 hc (cs := vs) ((valL_ok ha _ _).2 rfl) hst hF
  refine Calls.mono hcalls fun e W' he => ?_
  obtain ⟨c, Γ', rfl, hr, hM⟩ := he
  exact ⟨by rw [(valA_ok hv _ _).1 hr], Moves.below hG hM⟩
noncomputable def hdMemo (A : List AV) (v : AV) : List AV → Mem → Option (AV × Mem) := fun args m => bif beqL args A then some (v, m) else none
theorem memo_ok {P : Program} (hP : cf.P = P) {f : FuncId} {fn : Func} {c : Code} (hf : P.funcs[f]? = some fn) (hn : (fn.name == "runtime.NumGoroutine") = false) (hb : fn.body = some c) {A : List AV} {v : AV} {vs : List Value} {u : Value} (ha : valL A = some vs) (hv : valA v = some u)
    (h : ∀ W, E W → Calls P f ⟨vs⟩ W fun e W' => e = .returned u ∧ Below W.heap.size W W') : HdOk cf base E f (hdMemo A v) := by
  intro args m v' m' hh
  unfold hdMemo at hh
  obtain ⟨h1, h2⟩ := bif_none hh
  cases h2
  have h1' := beqL_eq h1
  subst h1'
  refine ⟨Nat.le_refl _, fun Γ w cs hl hst hF => .inr ?_⟩
  have hcs := (valL_ok ha _ _).1 hl
  subst hcs
  have hne : fn.name ≠ "runtime.NumGoroutine" := by simpa using hn
  rw [hP]
  refine ⟨by simp [callFunc, hf, hne, hb], Calls.mono (h w hst.env) fun e W' ⟨q1, q2⟩ => ?_⟩
  exact ⟨u, Γ, q1, (valA_ok hv _ _).2 rfl, Moves.ofBelow hst.rep q2⟩
end Go.Proofs.YtijnlbpeckoofaaGreat
