/- A machine that runs closed calls: code made ready beforehand. -/
import Derived.Test.YtijnlbpeckoofaaGreatEngKc
set_option linter.unusedVariables false
set_option linter.unusedSimpArgs false
namespace Go.Proofs.YtijnlbpeckoofaaGreat
open Go.RowKit

abbrev RC := AExit × Fr × Mem
inductive CC where
  | mk (f : Rec → Option Nat → Fr → Mem → Option RC)
noncomputable def CC.run (c : CC) (rec : Rec) (ro : Option Nat) (fr : Fr) (m : Mem) : Option RC := @CC.rec (fun _ => Option RC) (fun f => f rec ro fr m) c
theorem CC.run_mk (f : Rec → Option Nat → Fr → Mem → Option RC) (rec : Rec) (ro : Option Nat) (fr : Fr) (m : Mem) : (CC.mk f).run rec ro fr m = f rec ro fr m := rfl
noncomputable def aftR (x : Option RS) (d : List Nat) : Option RC := @Option.rec RS (fun _ => Option RC) none (fun p => @Prod.rec (PT AV) Mem (fun _ => Option RC) (fun tm m => some (.normal, ⟨tm, d⟩, m)) p) x
theorem aftR_eq {x : Option RS} {d : List Nat} {r : RC} (h : aftR x d = some r) : ∃ tm m, x = some (tm, m) ∧ r = (.normal, ⟨tm, d⟩, m) := by
  cases x with
  | none => exact absurd h (by simp [aftR])
  | some p => exact ⟨p.1, p.2, rfl, (Option.some.inj h).symm⟩
/-- Behind an end: what follows it where it is the plain one. -/
noncomputable def thenC (x : Option RC) (f : Fr → Mem → Option RC) : Option RC := @Option.rec RC (fun _ => Option RC) none (fun p => @Prod.rec AExit (Fr × Mem) (fun _ => Option RC) (fun e q => @AExit.rec (fun _ => Option RC) (@Prod.rec Fr Mem (fun _ => Option RC) f q) (fun _ => some p) (fun _ => some p) (some p) e) p) x
theorem thenC_eq {x : Option RC} {f : Fr → Mem → Option RC} {r : RC} (h : thenC x f = some r) : (∃ fr m, x = some (.normal, fr, m) ∧ f fr m = some r) ∨ (x = some r ∧ ∀ fr m, x ≠ some (.normal, fr, m)) := by
  cases x with
  | none => exact absurd h (by simp [thenC])
  | some p =>
    obtain ⟨e, fr, m⟩ := p
    cases e with
    | normal => exact .inl ⟨fr, m, rfl, h⟩
    | exit id => exact .inr ⟨h, fun _ _ q => by cases q⟩
    | goto l => exact .inr ⟨h, fun _ _ q => by cases q⟩
    | ret => exact .inr ⟨h, fun _ _ q => by cases q⟩
/-- Behind a block: its own exit is the plain end. -/
noncomputable def outC (id : Nat) (x : Option RC) : Option RC := @Option.rec RC (fun _ => Option RC) none (fun p => @Prod.rec AExit (Fr × Mem) (fun _ => Option RC) (fun e q => @AExit.rec (fun _ => Option RC) (some p) (fun i => @Bool.rec (fun _ => Option RC) (some p) (some (.normal, q)) (Nat.beq i id)) (fun _ => some p) (some p) e) p) x
theorem outC_eq (id : Nat) (x : Option RC) : outC id x = (match x with
    | some (.exit id', fr, m) => bif Nat.beq id' id then some (.normal, fr, m) else some (.exit id', fr, m)
    | r => r) := by
  cases x with
  | none => rfl
  | some p =>
    obtain ⟨e, fr, m⟩ := p
    cases e with
    | exit i => show @Bool.rec (fun _ => Option RC) _ _ (Nat.beq i id) = bif Nat.beq i id then _ else _; cases Nat.beq i id <;> rfl
    | normal => rfl
    | goto l => rfl
    | ret => rfl
noncomputable def boolC (x : Option AV) (t e : Option RC) : Option RC := @Option.rec AV (fun _ => Option RC) none (fun v => @AV.rec (fun _ => Option RC) (fun _ => Option RC) (fun b => @Bool.rec (fun _ => Option RC) e t b) (fun _ _ => none) (fun _ _ => none) none (fun _ _ => none) none (fun _ _ _ _ _ => none) none (fun _ => none) (fun _ _ _ _ _ => none) none (fun _ _ _ => none) none (fun _ _ => none) (fun _ _ => none) (fun _ => none) none (fun _ _ _ _ => none) v) x
theorem boolC_eq {x : Option AV} {t e : Option RC} {r : RC} (h : boolC x t e = some r) : (x = some (.bool true) ∧ t = some r) ∨ (x = some (.bool false) ∧ e = some r) := by
  cases x with
  | none => exact absurd h (by simp [boolC])
  | some v => cases v with
    | bool b => cases b with
      | true => exact .inl ⟨rfl, h⟩
      | false => exact .inr ⟨rfl, h⟩
    | _ => exact absurd h (by simp [boolC])
noncomputable def codeC (cf : Cf) (N : Nat) (c : Code) : CC := @Code.rec (fun _ => CC)
  (.mk fun _ _ fr m => some (.normal, fr, m))
  (fun id ops draw => @Bool.rec (fun _ => CC) (.mk fun rec _ fr m => aftR ((seqC cf ops N ops.toList).run rec fr.tm m) fr.defs) (.mk fun rec _ fr m => aftR ((regionC cf ops N).run rec fr.tm m) fr.defs) draw)
  (fun _ _ A B => .mk fun rec ro fr m => thenC (A.run rec ro fr m) fun fr m => B.run rec ro fr m)
  (fun c _ _ T E => opdC cf c fun g => .mk fun rec ro fr m => boolC (g fr.tm) (T.run rec ro fr m) (E.run rec ro fr m))
  (fun id _ A => .mk fun rec ro fr m => outC id (A.run rec ro fr m))
  (fun body A => .mk fun rec ro fr m => thenC (A.run rec ro fr m) fun fr m => rec ro N (.loop body) fr m)
  (fun g ps assign body _ _ => .mk fun rec ro fr m => stepA cf rec ro N (.rangeFunc g ps assign body) fr m)
  (fun id => .mk fun _ _ fr m => some (.exit id, fr, m))
  (fun body _ => .mk fun rec ro fr m => stepA cf rec ro N (.scope body) fr m)
  (fun _ => .mk fun _ _ fr m => some (.normal, fr, m))
  (fun l => .mk fun _ _ fr m => some (.goto l, fr, m))
  (.mk fun _ _ fr m => some (.ret, fr, m))
  (fun _ => .mk fun _ _ _ _ => none) c
noncomputable def runC (cf : Cf) (rec : Rec) (ro : Option Nat) (N : Nat) (c : Code) (fr : Fr) (m : Mem) : Option RC := (codeC cf N c).run rec ro fr m
noncomputable def stepF (cf : Cf) (rec : Rec) : Rec := fun ro N c fr m => frc N fun N => (codeC cf N c).run rec ro fr m
noncomputable def runF (cf : Cf) (n : Nat) : Rec := @Nat.rec (fun _ => Rec) (fun _ _ _ _ _ => none) (fun _ ih => stepF cf ih) n

variable {cf : Cf} {base : Nat} {E : World → Prop}
def Good (cf : Cf) (base : Nat) (E : World → Prop) (ro : Option Nat) (N : Nat) (c : Code) (fr : Fr) (m : Mem) (x : AExit) (fr' : Fr) (m' : Mem) : Prop :=
  ((∀ rb n Γ a w, Pre cf base E ro N fr m rb Γ a w → Fresh Γ m m' → c.wpIn (Fen rb) n cf.P (Post base Γ m w N x fr' m') a w) ∧
  ∀ c', c = .loop c' → ∃ k, ∀ rb n Γ a w (Q : Exit → Act → World → Prop), Pre cf base E ro N fr m rb Γ a w → Fresh Γ m m' → (∀ e a' w', Post base Γ m w N x fr' m' e a' w' → Q e a' w') → Code.roundsIn (Fen rb) n cf.P c' Q k a w) ∧ m.next ≤ m'.next
theorem good_step (S : Sound cf base E) {rec : Rec} (hrec : RecOk cf base E rec) (hle : RecLe rec) {ro : Option Nat} {N : Nat} {c : Code} {fr : Fr} {m : Mem} {x : AExit} {fr' : Fr} {m' : Mem} (h : stepA cf rec ro N c fr m = some (x, fr', m')) : Good cf base E ro N c fr m x fr' m' :=
  ⟨step_ok S hrec hle (draw_ok S hrec hle) ro N c fr m x fr' m' h, stepA_le S hle (draw_ok S hrec hle) ro N c fr m x fr' m' h⟩
open Classical in
noncomputable def mixR (cf : Cf) (rec : Rec) (a b : Code) : Rec := fun ro N c fr m => if c = a ∨ c = b then runC cf rec ro N c fr m else rec ro N c fr m
theorem mixR_a {rec : Rec} {a b : Code} {ro : Option Nat} {N : Nat} {fr : Fr} {m : Mem} : mixR cf rec a b ro N a fr m = runC cf rec ro N a fr m := by unfold mixR; exact if_pos (.inl rfl)
theorem mixR_b {rec : Rec} {a b : Code} {ro : Option Nat} {N : Nat} {fr : Fr} {m : Mem} : mixR cf rec a b ro N b fr m = runC cf rec ro N b fr m := by unfold mixR; exact if_pos (.inr rfl)
theorem mixR_ok {rec : Rec} (hrec : RecOk cf base E rec) (hle : RecLe rec) {a b : Code}
    (ha : ∀ ro N fr m x fr' m', runC cf rec ro N a fr m = some (x, fr', m') → Good cf base E ro N a fr m x fr' m')
    (hb : ∀ ro N fr m x fr' m', runC cf rec ro N b fr m = some (x, fr', m') → Good cf base E ro N b fr m x fr' m') : RecOk cf base E (mixR cf rec a b) ∧ RecLe (mixR cf rec a b) := by
  refine ⟨fun ro N c fr m x fr' m' h => ?_, fun ro N c fr m x fr' m' h => ?_⟩
  · unfold mixR at h
    split at h
    · rename_i hc
      rcases hc with rfl | rfl
      · exact (ha _ _ _ _ _ _ _ h).1
      · exact (hb _ _ _ _ _ _ _ h).1
    · exact hrec _ _ _ _ _ _ _ _ h
  · unfold mixR at h
    split at h
    · rename_i hc
      rcases hc with rfl | rfl
      · exact (ha _ _ _ _ _ _ _ h).2
      · exact (hb _ _ _ _ _ _ _ h).2
    · exact hle _ _ _ _ _ _ _ _ h
theorem loop_ne (c : Code) : Code.loop c ≠ c := fun h => by
  have := congrArg (fun c : Code => SizeOf.sizeOf c) h
  simp at this
theorem runC_ok (S : Sound cf base E) {rec : Rec} (hrec : RecOk cf base E rec) (hle : RecLe rec) : ∀ (c : Code) (ro : Option Nat) (N : Nat) (fr : Fr) (m : Mem) (x : AExit) (fr' : Fr) (m' : Mem), runC cf rec ro N c fr m = some (x, fr', m') → Good cf base E ro N c fr m x fr' m'
  | .skip, ro, N, fr, m, x, fr', m', h => good_step S hrec hle h
  | .region id ops false, ro, N, fr, m, x, fr', m', h => by
    obtain ⟨tm, m1, h1, h2⟩ := aftR_eq (show aftR ((seqC cf ops N ops.toList).run rec fr.tm m) fr.defs = some (x, fr', m') from h)
    cases h2
    refine good_step S hrec hle (rec := rec) ?_
    simp only [stepA, seqC_ok h1]
  | .region id ops true, ro, N, fr, m, x, fr', m', h => by
    obtain ⟨tm, m1, h1, h2⟩ := aftR_eq (show aftR ((regionC cf ops N).run rec fr.tm m) fr.defs = some (x, fr', m') from h)
    cases h2
    refine good_step S hrec hle (rec := rec) ?_
    simp only [stepA, regionC_ok h1]
  | .seq a b, ro, N, fr, m, x, fr', m', h => by
    obtain ⟨k1, k2⟩ := mixR_ok hrec hle (runC_ok S hrec hle a) (runC_ok S hrec hle b)
    refine good_step S k1 k2 ?_
    rcases thenC_eq (show thenC (runC cf rec ro N a fr m) (fun fr m => runC cf rec ro N b fr m) = some (x, fr', m') from h) with ⟨fr1, m1, h1, h2⟩ | ⟨h1, h2⟩
    · simp only [stepA, mixR_a, h1, mixR_b, h2]
    · simp only [stepA, mixR_a]
      exact h1
  | .cond c t e, ro, N, fr, m, x, fr', m', h => by
    obtain ⟨k1, k2⟩ := mixR_ok hrec hle (runC_ok S hrec hle t) (runC_ok S hrec hle e)
    refine good_step S k1 k2 ?_
    have h' : (opdC cf c fun g => CC.mk fun rec ro fr m => boolC (g fr.tm) ((codeC cf N t).run rec ro fr m) ((codeC cf N e).run rec ro fr m)).run rec ro fr m = some (x, fr', m') := h
    rw [opdC_eq, CC.run_mk, opdG_eq] at h'
    rcases boolC_eq h' with ⟨h1, h2⟩ | ⟨h1, h2⟩
    · simp only [stepA, h1, mixR_a]; exact h2
    · simp only [stepA, h1, mixR_b]; exact h2
  | .block id c, ro, N, fr, m, x, fr', m', h => by
    obtain ⟨k1, k2⟩ := mixR_ok hrec hle (runC_ok S hrec hle c) (runC_ok S hrec hle c)
    refine good_step S k1 k2 ?_
    have h' : outC id (runC cf rec ro N c fr m) = some (x, fr', m') := h
    rw [outC_eq] at h'
    simp only [stepA, mixR_a]
    exact h'
  | .loop c, ro, N, fr, m, x, fr', m', h => by
    obtain ⟨k1, k2⟩ := mixR_ok hrec hle (runC_ok S hrec hle c) (runC_ok S hrec hle c)
    refine good_step S k1 k2 ?_
    have hl : ∀ fr m, mixR cf rec c c ro N (.loop c) fr m = rec ro N (.loop c) fr m := fun fr m => by
      unfold mixR; exact if_neg fun q => q.elim (loop_ne c) (loop_ne c)
    rcases thenC_eq (show thenC (runC cf rec ro N c fr m) (fun fr m => rec ro N (.loop c) fr m) = some (x, fr', m') from h) with ⟨fr1, m1, h1, h2⟩ | ⟨h1, h2⟩
    · simp only [stepA, mixR_a, h1, hl, h2]
    · simp only [stepA, mixR_a]
      exact h1
  | .rangeFunc g ps assign body, ro, N, fr, m, x, fr', m', h => good_step S hrec hle h
  | .exit id, ro, N, fr, m, x, fr', m', h => good_step S hrec hle h
  | .scope body, ro, N, fr, m, x, fr', m', h => good_step S hrec hle h
  | .label l, ro, N, fr, m, x, fr', m', h => good_step S hrec hle h
  | .goto l, ro, N, fr, m, x, fr', m', h => good_step S hrec hle h
  | .ret, ro, N, fr, m, x, fr', m', h => good_step S hrec hle h
  | .refuse _, ro, N, fr, m, x, fr', m', h => by cases h
theorem runF_ok (S : Sound cf base E) : ∀ n, RecOk cf base E (runF cf n) ∧ RecLe (runF cf n)
  | 0 => ⟨fun ro N c fr m x fr' m' h => (by cases h), fun ro N c fr m x fr' m' h => (by cases h)⟩
  | n + 1 => by
    obtain ⟨h1, h2⟩ := runF_ok S n
    have e : ∀ ro N c fr m, runF cf (n + 1) ro N c fr m = runC cf (runF cf n) ro N c fr m := fun ro N c fr m => by
      show frc N (fun N => (codeC cf N c).run (runF cf n) ro fr m) = _
      rw [frc_eq]; rfl
    exact ⟨fun ro N c fr m x fr' m' h => (runC_ok S h1 h2 c ro N fr m x fr' m' (by rw [← e]; exact h)).1, fun ro N c fr m x fr' m' h => (runC_ok S h1 h2 c ro N fr m x fr' m' (by rw [← e]; exact h)).2⟩

variable {Γ : Tie} {m m' : Mem} {w : World}
theorem fast_ok (S : Sound cf base E) (n : Nat) {f : FuncId} {args : List AV} {v : AV} (h : callA cf (runF cf n) f args m = some (v, m')) {cs : List Value} (hl : relL Γ args cs) (hst : St cf base E Γ m w) (hF : Fresh Γ m m') : CallGives cf.P base Γ m w f ⟨cs⟩ v m' :=
  let ⟨h1, h2⟩ := runF_ok S n
  call_ok S h1 h2 h hl hst hF
/-- A call with no memory of its own. -/
noncomputable def evalF (cf : Cf) (G : PT AObj) (n : Nat) (f : FuncId) (args : List AV) : Option AV := match callA cf (runF cf n) f args ⟨G, cf.g0⟩ with
  | some (v, _) => some v
  | none => none
/-- A call with plain arguments, from its beginning. -/
theorem start_fast {W : World} {n : Nat} {f : FuncId} {args : List AV} {v : AV} {vs : List Value} {G : PT AObj} {tot : Nat → Nat} (S : Sound cf W.heap.size E) (hf : cf.hd f = none) (h : evalF cf G n f args = some v)
    (ha : relL (tie0 cf.g0 tot) args vs) (hG : Rep W.heap.size (tie0 cf.g0 tot) G W) (hE : E W) : Calls cf.P f ⟨vs⟩ W fun e W' => ∃ c Γ', e = .returned c ∧ rel Γ' v c ∧ Below W.heap.size W W' := by
  unfold evalF at h
  split at h
  case h_2 => cases h
  rename_i v' m' hc
  cases h
  unfold callA at hc
  rw [hf] at hc
  obtain ⟨h1, h2⟩ := runF_ok S n
  have hst : St cf W.heap.size E (tie0 cf.g0 tot) ⟨G, cf.g0⟩ W := ⟨hG, gl_tie0 _ _, hE⟩
  have hF : Fresh (tie0 cf.g0 tot) ⟨G, cf.g0⟩ m' := fun b hb _ => if_neg (by simp only at hb; omega)
  obtain ⟨_, hcalls⟩ := body_ok S h1 h2 hc (cs := vs) ha hst hF
  refine Calls.mono hcalls fun e W' he => ?_
  obtain ⟨c, Γ', rfl, hr, hM⟩ := he
  exact ⟨c, Γ', rfl, hr, Moves.below hG hM⟩
/-- A closed call that tells yes. -/
theorem yes_fast {W : World} {n : Nat} {f : FuncId} {G : PT AObj} {tot : Nat → Nat} (S : Sound cf W.heap.size E) (hf : cf.hd f = none) (h : evalF cf G n f [] = some (.bool true))
    (hG : Rep W.heap.size (tie0 cf.g0 tot) G W) (hE : E W) : Calls cf.P f #[] W fun e W' => e = .returned (.bool true) ∧ Below W.heap.size W W' :=
  Calls.mono (start_fast S hf h (vs := []) (by simp only [relL]) hG hE) fun e W' ⟨c, Γ', h1, h2, h3⟩ => by
    simp only [rel] at h2
    subst h2
    exact ⟨h1, h3⟩
end Go.Proofs.YtijnlbpeckoofaaGreat
