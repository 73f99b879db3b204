/- A machine that runs closed calls: where control stands; operations. -/
import Derived.Test.YtijnlbpeckoofaaGreatEngC
set_option linter.unusedVariables false
set_option linter.unusedSimpArgs false
namespace Go.Proofs.YtijnlbpeckoofaaGreat
open Go.RowKit

def Fen : Option Nat → Fence
  | none => Fence.wide
  | some l => Fence.wide.inRound l
theorem Fen.fn (rb : Option Nat) (f : FuncId) : (Fen rb).fn f := by cases rb <;> exact trivial
theorem Fen.depth (rb : Option Nat) : (Fen rb).depth = none := by cases rb <;> rfl
theorem Fen.shallow (rb : Option Nat) (n : Nat) : (Fen rb).depth.isSome = true → 1 ≤ n := fun h => by rw [Fen.depth] at h; cases h
theorem Fen.round (rb : Option Nat) : (Fen rb).round = rb := by cases rb <;> rfl
theorem Fen.calls {rb : Option Nat} {n : Nat} {P : Program} {f : FuncId} {args : Array Value} {w : World} {R : Ending → World → Prop} (h : Calls P f args w R) : CallsIn (Fen rb) n P f args w R := by
  cases rb with
  | none => exact callsIn_wide.2 h
  | some l => exact (callsIn_wide (n := n)).2 h
theorem Fen.rounds {rb : Option Nat} {n : Nat} {P : Program} {l : Nat} {f : FuncId} {tmps : Array Value} {assign body : Code} {w : World} {R : Ending → World → Prop} (h : RoundIn Fence.wide n P l f tmps assign body w R) : RoundIn (Fen rb) n P l f tmps assign body w R := by
  cases rb with
  | none => exact h
  | some l => exact h
def relD (Γ : Tie) : List Nat → List Deferred → Prop
  | [], l => l = []
  | d :: ds, l => ∃ i l', Γ d = some i ∧ l = { target := .collected i.blk, args := #[] } :: l' ∧ relD Γ ds l'
theorem relD.keep {Γ Γ' : Tie} (hk : Keeps Γ Γ') : ∀ {ds : List Nat} {l : List Deferred}, relD Γ ds l → relD Γ' ds l
  | [], l, h => h
  | d :: ds, l, h => by
    obtain ⟨i, l', h1, h2, h3⟩ := h
    exact ⟨i, l', hk _ _ h1, h2, h3.keep hk⟩
/-- Which round of which loop is under way. -/
def RoOk (Γ : Tie) : Option Nat → Option Nat → Prop
  | none, none => True
  | some l, some k => ∃ i, Γ l = some i ∧ i.blk = k
  | _, _ => False
theorem RoOk.keep {Γ Γ' : Tie} (hk : Keeps Γ Γ') {ro rb : Option Nat} (h : RoOk Γ ro rb) : RoOk Γ' ro rb := by
  cases ro <;> cases rb
  · exact h
  · exact h
  · exact h
  · obtain ⟨i, h1, h2⟩ := h; exact ⟨i, hk _ _ h1, h2⟩
def Gl (g0 : Nat) (Γ : Tie) : Prop := ∀ g, g < g0 → ∃ i, Γ g = some i ∧ i.blk = g
theorem Gl.keep {Γ Γ' : Tie} (hk : Keeps Γ Γ') {g0 : Nat} (h : Gl g0 Γ) : Gl g0 Γ' := fun g hg => let ⟨i, h1, h2⟩ := h g hg; ⟨i, hk _ _ h1, h2⟩
/-- The machine's memory stands for the world's. -/
structure St (cf : Cf) (base : Nat) (E : World → Prop) (Γ : Tie) (m : Mem) (w : World) : Prop where
  rep : Rep base Γ m.H w
  gl : Gl cf.g0 Γ
  env : E w
/-- What a call comes to. -/
def Ends (base : Nat) (Γ : Tie) (m : Mem) (w : World) (v : AV) (m' : Mem) : Ending → World → Prop := fun e w' => ∃ c Γ', e = .returned c ∧ rel Γ' v c ∧ Moves base Γ m w Γ' m' w'
def CallGives (P : Program) (base : Nat) (Γ : Tie) (m : Mem) (w : World) (f : FuncId) (args : Array Value) (v : AV) (m' : Mem) : Prop :=
  (∃ c w' Γ', (callFunc f args).run P w = .ok (.value c) w' ∧ rel Γ' v c ∧ Moves base Γ m w Γ' m' w') ∨
  ((callFunc f args).run P w = .ok (.enter f args) w ∧ Calls P f args w (Ends base Γ m w v m'))
def HdOk (cf : Cf) (base : Nat) (E : World → Prop) (f : FuncId) (h : List AV → Mem → Option (AV × Mem)) : Prop :=
  ∀ args m v m', h args m = some (v, m') → m.next ≤ m'.next ∧ ∀ Γ w (c : List Value), relL Γ args c → St cf base E Γ m w → Fresh Γ m m' → CallGives cf.P base Γ m w f ⟨c⟩ v m'
structure Sound (cf : Cf) (base : Nat) (E : World → Prop) : Prop where
  named : ∀ (f : FuncId) (fn : Func), cf.P.funcs[f]? = some fn → (fn.name == "runtime.NumGoroutine") = false
  mixed : cf.P.follows .mixedOrders = true
  env : ∀ w w', E w → Below base w w' → E w'
  hd : ∀ f h, cf.hd f = some h → HdOk cf base E f h
variable {cf : Cf} {base : Nat} {E : World → Prop} {rec : Rec} {Γ Γ' : Tie} {m m' : Mem} {w w' : World}
theorem Sound.le (S : Sound cf base E) : HdLe cf := fun f h hf args m v m' e => (S.hd f h hf args m v m' e).1
theorem St.next (S : Sound cf base E) (h : St cf base E Γ m w) (k : Moves base Γ m w Γ' m' w') : St cf base E Γ' m' w' :=
  ⟨k.rep, h.gl.keep k.keep, S.env _ _ h.env (Moves.below h.rep k)⟩
def exitE : AExit → Exit
  | .normal => .normal
  | .exit id => .exit id
  | .goto l => .goto l
  | .ret => .ret
/-- How code is left. -/
def Post (base : Nat) (Γ : Tie) (m : Mem) (w : World) (N : Nat) (x : AExit) (fr : Fr) (m' : Mem) : Exit → Act → World → Prop := fun e a w' =>
  e = exitE x ∧ ∃ Γ', relT Γ' fr.tm N a.tmps ∧ relD Γ' fr.defs a.defers ∧ Moves base Γ m w Γ' m' w'
/-- What stands before code is run. -/
structure Pre (cf : Cf) (base : Nat) (E : World → Prop) (ro : Option Nat) (N : Nat) (fr : Fr) (m : Mem) (rb : Option Nat) (Γ : Tie) (a : Act) (w : World) : Prop where
  st : St cf base E Γ m w
  ro : RoOk Γ ro rb
  tm : relT Γ fr.tm N a.tmps
  defs : relD Γ fr.defs a.defers
def RecOk (cf : Cf) (base : Nat) (E : World → Prop) (rec : Rec) : Prop := ∀ ro N c fr m x fr' m', rec ro N c fr m = some (x, fr', m') →
  (∀ rb n Γ a w, Pre cf base E ro N fr m rb Γ a w → Fresh Γ m m' → c.wpIn (Fen rb) n cf.P (Post base Γ m w N x fr' m') a w) ∧
  ∀ c', c = .loop c' → ∃ k, ∀ rb n Γ a w (Q : Exit → Act → World → Prop), Pre cf base E ro N fr m rb Γ a w → Fresh Γ m m' → (∀ e a' w', Post base Γ m w N x fr' m' e a' w' → Q e a' w') → Code.roundsIn (Fen rb) n cf.P c' Q k a w

theorem evalA_ok {tm : PT AV} {N : Nat} {a : Act} (ht : relT Γ tm N a.tmps) (hg : Gl cf.g0 Γ) : Evals Γ (evalA cf tm) a.eval := by
  intro x v h
  cases x with
  | tmp t =>
    obtain ⟨c, h1, h2⟩ := ht.2 t v h
    simp only [Act.eval, Array.getD_eq_getD_getElem?, h1, Option.getD_some]
    exact h2
  | const c => exact rel_of h
  | global g =>
    simp only [evalA] at h
    obtain ⟨h1, h2⟩ := bif_none h
    cases h2
    obtain ⟨i, h3, h4⟩ := hg g (nblt h1)
    simp only [Act.eval, rel]
    exact ⟨i, h3, by rw [h4]⟩
  | func f =>
    simp only [evalA, Option.some.injEq] at h
    subst h
    simp only [Act.eval, rel]
    exact ⟨.func f, [], [], rfl, rfl, by simp only [relL], by simp only [relL]⟩
theorem relT.put {tm : PT AV} {N : Nat} {a : Act} (h : relT Γ tm N a.tmps) {d : Option Tmp} (hd : dstOk N d = true) {v : AV} {c : Value} (hv : rel Γ v c) : relT Γ (putA tm d v) N (a.put d c).tmps := by
  cases d with
  | none => exact h
  | some d =>
    have hlt : @LT.lt Nat _ d a.tmps.size := by rw [h.1]; exact nblt hd
    simp only [putA, Act.put]
    refine ⟨by simpa using h.1, fun t b hb => ?_⟩
    rw [PT.get_set] at hb
    by_cases e : t = d
    · rw [if_pos e] at hb; cases hb
      subst e
      exact ⟨c, by rw [Array.getElem?_setIfInBounds_self_of_lt hlt], hv⟩
    · rw [if_neg e] at hb
      obtain ⟨u, h1, h2⟩ := h.2 t b hb
      exact ⟨u, by rw [Array.getElem?_setIfInBounds_ne (fun q => e q.symm)]; exact h1, h2⟩
theorem guardA_ok {tm : PT AV} {N : Nat} {a : Act} (ht : relT Γ tm N a.tmps) {ops : Array Oper} {o : Oper} {b : Bool} (h : guardA ops tm o = some b) : Region.wanted o (yielded ops a.tmps) = b := by
  unfold guardA at h
  split at h
  · rename_i hg; cases h; simp [Region.wanted, hg]
  · rename_i j want hg
    split at h
    · rename_i hj; cases h; simp [Region.wanted, hg, yielded, hj]
    · rename_i g hj
      split at h
      · rename_i hd; cases h; simp [Region.wanted, hg, yielded, hj, hd]
      · rename_i d hd
        split at h
        · rename_i v hv
          cases h
          obtain ⟨c, h1, h2⟩ := ht.2 d _ hv
          simp only [rel] at h2; subst h2
          simp [Region.wanted, hg, yielded, hj, hd, h1]
        · rename_i hv
          cases h
          obtain ⟨c, h1, h2⟩ := ht.2 d _ hv
          simp only [rel] at h2
          obtain ⟨l', rfl, _⟩ := h2
          simp [Region.wanted, hg, yielded, hj, hd, h1]
        · cases h
end Go.Proofs.YtijnlbpeckoofaaGreat
