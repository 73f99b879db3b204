/- A machine that runs closed calls: code. -/
import Derived.Test.YtijnlbpeckoofaaGreatEngCc
set_option linter.unusedVariables false
set_option linter.unusedSimpArgs false
namespace Go.Proofs.YtijnlbpeckoofaaGreat
open Go.RowKit

/-! ### A scope -/
section scope
variable {P : Program} {b : Frame} {a : Act} {k : List Item} {cs : List Frame} {w : World}
theorem stepR_scope {c : Code} : step P (lone (b.atR a (.code (.scope c) :: k)) cs w) = .next (lone (b.atR a (.code c :: .inScope c :: k)) cs w) :=
  step_lone_go (by simp [stepG, stepG.exec, Frame.atR])
theorem stepR_inScope {c : Code} : step P (lone (b.atR a (.inScope c :: k)) cs w) = .next (lone (b.atR a k) cs w) :=
  step_lone_go (by simp [stepG, stepG.exec, Frame.atR])
end scope
/-- A scope that is gone about in so many rounds. -/
def scopesIn (F : Fence) (n : Nat) (P : Program) (body : Code) (Q : Exit → Act → World → Prop) : Nat → Code → Act → World → Prop
  | 0, _, _, _ => False
  | m + 1, c, a, w => c.wpIn F n P (fun e a w => match e with
    | .goto l => (match findLabel body l with
      | some rest => scopesIn F n P body Q m rest a w
      | none => Q (.goto l) a w)
    | e => Q e a w) a w
theorem wpIn_scope {F : Fence} {n : Nat} {P : Program} {Q : Exit → Act → World → Prop} {a : Act} {w : World} {body : Code} (m : Nat) (h : scopesIn F n P body Q m body a w) : (Code.scope body).wpIn F n P Q a w := by
  intro b k cs hro hb hr
  have key : ∀ m c a w, scopesIn F n P body Q m c a w →
      ∃ e a' w', Q e a' w' ∧ ArrivesIn (Machine.fenced P F) P (lone (b.atR a (.code c :: .inScope body :: k)) cs w) b k cs e a' w' := by
    intro m
    induction m with
    | zero => intro c a w h; exact h.elim
    | succ m ih =>
      intro c a w h
      obtain ⟨e, a₁, w₁, hq, harr⟩ := h b (.inScope body :: k) cs hro hb hr
      cases e with
      | normal => exact ⟨.normal, a₁, w₁, hq, StepsIn.trans harr (.one (fenced_calm hb hr rfl) stepR_inScope)⟩
      | exit id =>
        have hx : exitTo id (.inScope body :: k) = exitTo id k := by simp [exitTo]
        exact ⟨_, a₁, w₁, hq, fun k' hk => harr.1 k' (by rw [hx]; exact hk), fun hr' hk => harr.2 hr' (by rw [hx]; exact hk)⟩
      | goto l =>
        simp only at hq
        cases hf : findLabel body l with
        | some rest =>
          rw [hf] at hq
          obtain ⟨e₂, a₂, w₂, hq₂, harr₂⟩ := ih rest a₁ w₁ hq
          exact ⟨e₂, a₂, w₂, hq₂, .of_steps (harr.1 _ (by simp [gotoIn, hf])) harr₂⟩
        | none =>
          rw [hf] at hq
          have hx : gotoIn l (.inScope body :: k) = gotoIn l k := by simp [gotoIn, hf]
          exact ⟨_, a₁, w₁, hq, fun k' hk => harr.1 k' (by rw [hx]; exact hk), fun hr' hk => harr.2 hr' (by rw [hx]; exact hk)⟩
      | ret => exact ⟨_, a₁, w₁, hq, harr⟩
      | panic ch => exact ⟨_, a₁, w₁, hq, harr⟩
      | outgrown => exact ⟨_, a₁, w₁, hq, harr⟩
  obtain ⟨e, a', w', hq, harr⟩ := key m body a w h
  exact ⟨e, a', w', hq, .of_steps (.one (fenced_calm hb hr rfl) stepR_scope) harr⟩

variable {cf : Cf} {base : Nat} {E : World → Prop} {rec : Rec} {Γ Γ' : Tie} {m m' : Mem} {w w' : World} {P : Program}
/-- Regions whose order is open. -/
def DrawOk (cf : Cf) (base : Nat) (E : World → Prop) (rec : Rec) : Prop := ∀ (rb : Option Nat) (n : Nat) (id : Nat) (ops : Array Oper) (N : Nat) (ds : List Nat) (Q : Exit → Act → World → Prop) (tm' : PT AV) (tm : PT AV) (m m' : Mem) (Γ : Tie) (a : Act) (w : World),
  regionA cf rec ops N tm m = some (tm', m') → m.next ≤ m'.next ∧ (St cf base E Γ m w → relT Γ tm N a.tmps → relD Γ ds a.defers → Fresh Γ m m' →
      (∀ Γ' a' w', relT Γ' tm' N a'.tmps → relD Γ' ds a'.defers → Moves base Γ m w Γ' m' w' → Q .normal a' w') → (Code.region id ops true).wpIn (Fen rb) n cf.P Q a w)
theorem Post.after {Γ1 : Tie} {m1 : Mem} {w1 : World} (hM : Moves base Γ m w Γ1 m1 w1) {N : Nat} {x : AExit} {fr : Fr} {e : Exit} {a : Act} (h : Post base Γ1 m1 w1 N x fr m' e a w') : Post base Γ m w N x fr m' e a w' := by
  obtain ⟨h1, Γ2, h2, h3, h4⟩ := h
  exact ⟨h1, Γ2, h2, h3, hM.trans h4⟩
theorem Pre.after (S : Sound cf base E) {ro rb : Option Nat} {N : Nat} {fr fr1 : Fr} {m1 : Mem} {a a1 : Act} {w1 : World} {Γ1 : Tie} (h : Pre cf base E ro N fr m rb Γ a w) (hM : Moves base Γ m w Γ1 m1 w1) (ht : relT Γ1 fr1.tm N a1.tmps) (hd : relD Γ1 fr1.defs a1.defers) :
    Pre cf base E ro N fr1 m1 rb Γ1 a1 w1 := ⟨h.st.next S hM, h.ro.keep hM.keep, ht, hd⟩
theorem scopeA_le {rec' : Fr → Code → Mem → Option (AExit × Fr × Mem)} (hle : ∀ fr c m x fr' m', rec' fr c m = some (x, fr', m') → m.next ≤ m'.next) {body : Code} : ∀ {n : Nat} {c : Code} {fr : Fr} {m : Mem} {x : AExit} {fr' : Fr} {m' : Mem}, scopeA rec' body n c fr m = some (x, fr', m') → m.next ≤ m'.next
  | 0, c, fr, m, x, fr', m', h => by cases h
  | n + 1, c, fr, m, x, fr', m', h => by
    simp only [scopeA] at h
    split at h
    · rename_i l fr1 m1 h1
      have le1 := hle _ _ _ _ _ _ h1
      split at h
      · exact Nat.le_trans le1 (scopeA_le hle h)
      · cases h; exact le1
    · exact hle _ _ _ _ _ _ h
theorem scopeA_ok (S : Sound cf base E) (hrec : RecOk cf base E rec) (hle : RecLe rec) {ro : Option Nat} {N : Nat} {body : Code} {x : AExit} {fr' : Fr} {rb : Option Nat} {n' : Nat} {Q : Exit → Act → World → Prop} : ∀ {n : Nat} {c : Code} {fr : Fr} {m : Mem} {Γ : Tie} {a : Act} {w : World},
    scopeA (fun fr c m => rec ro N c fr m) body n c fr m = some (x, fr', m') → Pre cf base E ro N fr m rb Γ a w → Fresh Γ m m' → (∀ e a' w', Post base Γ m w N x fr' m' e a' w' → Q e a' w') → scopesIn (Fen rb) n' cf.P body Q n c a w
  | 0, c, fr, m, Γ, a, w, h, hp, hF, hQ => by cases h
  | n + 1, c, fr, m, Γ, a, w, h, hp, hF, hQ => by
    simp only [scopeA] at h
    split at h
    · rename_i l fr1 m1 h1
      have le2 : m1.next ≤ m'.next := by
        split at h
        · exact scopeA_le (fun fr c m x fr' m' e => hle _ _ _ _ _ _ _ _ e) h
        · cases h; exact Nat.le_refl _
      refine wpIn_mono ((hrec _ _ _ _ _ _ _ _ h1).1 rb n' Γ a w hp (hF.left le2)) fun e a1 w1 hq => ?_
      have hq' := hq
      obtain ⟨he, Γ1, ht, hd, hM⟩ := hq'
      subst he
      simp only [exitE]
      cases hf : findLabel body l with
      | some rest =>
        rw [hf] at h
        exact scopeA_ok S hrec hle h (hp.after S hM ht hd) (hF.right hM) fun e a' w' q => hQ e a' w' (q.after hM)
      | none =>
        rw [hf] at h
        cases h
        exact hQ _ _ _ hq
    · rename_i hng
      refine wpIn_mono ((hrec _ _ _ _ _ _ _ _ h).1 rb n' Γ a w hp hF) fun e a1 w1 hq => ?_
      have hx := hq.1
      cases x with
      | goto l => exact absurd h (hng l fr' m')
      | normal => subst hx; exact hQ _ _ _ hq
      | exit id => subst hx; exact hQ _ _ _ hq
      | ret => subst hx; exact hQ _ _ _ hq
end Go.Proofs.YtijnlbpeckoofaaGreat
