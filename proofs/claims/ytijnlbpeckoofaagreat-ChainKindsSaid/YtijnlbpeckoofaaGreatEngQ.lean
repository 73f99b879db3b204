/- A machine that runs closed calls: binary operations, whatever they are. -/
import Derived.Test.YtijnlbpeckoofaaGreatEngP
set_option linter.unusedVariables false
set_option linter.unusedSimpArgs false
namespace Go.Proofs.YtijnlbpeckoofaaGreat
open Go.RowKit
variable {P : Program} {base : Nat} {Γ : Tie} {m : Mem} {w : World} {ev : Operand → Option AV} {ρ : Operand → Value}

theorem equal_of {t : TypeId} {u v : Value} {r : Bool} (h : ∀ d, (Op.equalIn (d + 1) t u v).run P w = .ok r w) : (Op.equal t u v).run P w = .ok r w := h 9999
def EqOk (P : Program) (w : World) (op : BinOp) (t : TypeId) (x y : Operand) (u v : Value) (r : Bool) : Prop :=
  (eqGuard op t x y u v).run P w = .ok () w ∧ (Op.equal t u v).run P w = .ok r w
theorem eqA_ok {op : BinOp} (hop : op = .eql ∨ op = .neq) {t : TypeId} {x y : Operand} {a b : AV} {r : Bool} {u v : Value} (h : eqA P t (isConstA x) (isConstA y) a b = some r) (ha : rel Γ a u) (hb : rel Γ b v) :
    EqOk P w op t x y u v r := by
  unfold eqA at h
  split at h
  · split at h
    · rename_i hu; cases h
      simp only [rel] at ha hb; subst ha hb
      exact ⟨by rw [eqGuard_at_bool]; rfl, equal_of fun d => eqIn_bool hu d⟩
    · cases h
  · split at h
    · rename_i hu; cases h
      simp only [rel] at ha hb; subst ha hb
      exact ⟨by rw [eqGuard_at_pointer]; rfl, equal_of fun d => by simp [Op.equalIn, run_underlying hu]⟩
    · cases h
  · split at h
    · rename_i hu; cases h
      simp only [rel] at ha hb; subst ha; obtain ⟨i, hi, rfl⟩ := hb
      exact ⟨by rw [eqGuard_at_pointer]; rfl, equal_of fun d => by simp [Op.equalIn, run_underlying hu]⟩
    · cases h
  · split at h
    · rename_i hu; cases h
      simp only [rel] at ha hb; subst hb; obtain ⟨i, hi, rfl⟩ := ha
      exact ⟨by rw [eqGuard_at_pointer]; rfl, equal_of fun d => by simp [Op.equalIn, run_underlying hu]⟩
    · cases h
  · split at h
    case h_2 => cases h
    rename_i b o c p _ e hu
    split at h
    case h_2 => cases h
    rename_i s hs
    cases hc : (!(Nat.beq s 0) && Nat.beq b c) with
    | false => rw [hc] at h; cases h
    | true =>
      rw [hc] at h
      cases h
      simp only [Bool.and_eq_true, Bool.not_eq_true', Nat.beq_eq] at hc
      obtain ⟨h0, rfl⟩ := hc
      simp only [rel] at ha hb
      obtain ⟨i, hi, rfl⟩ := ha
      obtain ⟨j, hj, rfl⟩ := hb
      rw [hi] at hj; cases hj
      have hs0 : s ≠ 0 := by rintro rfl; simp at h0
      refine ⟨by rw [eqGuard_at_pointer]; rfl, equal_of fun d => ?_⟩
      simp only [Op.equalIn, Sem.run_bind, run_underlying hu, Result.andThen_ok, sizeA_run hs, if_pos hs0, sameAddr, beq_self_eq_true, if_true, Sem.run_pure]
      congr 1
      rw [Bool.eq_iff_iff]
      simp [Nat.beq_eq]
  · split at h
    case h_2 => cases h
    rename_i ms hu
    cases hc : (isConstA x || isConstA y) with
    | false => rw [hc] at h; cases h
    | true =>
      rw [hc] at h; cases h
      simp only [rel] at ha hb; subst ha hb
      refine ⟨?_, equal_of fun d => by simp [Op.equalIn, run_underlying hu]⟩
      rcases hop with rfl | rfl <;> cases x <;> cases y <;> first | (simp [isConstA] at hc; done) | rfl
  · split at h
    · rename_i hu; cases h
      simp only [rel] at ha hb; subst ha; obtain ⟨z, rfl, _⟩ := hb
      exact ⟨by rcases hop with rfl | rfl <;> rfl, equal_of fun d => by simp [Op.equalIn, run_underlying hu]⟩
    · cases h
  · split at h
    · rename_i hu; cases h
      simp only [rel] at ha hb; subst hb; obtain ⟨z, rfl, _⟩ := ha
      exact ⟨by rcases hop with rfl | rfl <;> rfl, equal_of fun d => by simp [Op.equalIn, run_underlying hu]⟩
    · cases h
  · split at h
    · rename_i hu; cases h
      simp only [rel] at ha hb; subst ha hb
      exact ⟨by rw [eqGuard_at_slice]; rfl, equal_of fun d => by simp [Op.equalIn, run_underlying hu]⟩
    · cases h
  · split at h
    · rename_i hu; cases h
      simp only [rel] at ha hb; subst ha; obtain ⟨i, c, hi, rfl, _⟩ := hb
      exact ⟨by rw [eqGuard_at_slice]; rfl, equal_of fun d => by simp [Op.equalIn, run_underlying hu]⟩
    · cases h
  · split at h
    · rename_i hu; cases h
      simp only [rel] at ha hb; subst hb; obtain ⟨i, c, hi, rfl, _⟩ := ha
      exact ⟨by rw [eqGuard_at_slice]; rfl, equal_of fun d => by simp [Op.equalIn, run_underlying hu]⟩
    · cases h
  · split at h
    · rename_i hu; cases h
      simp only [rel] at ha hb; subst ha; obtain ⟨i, o, c, hi, rfl⟩ := hb
      exact ⟨by rw [eqGuard_at_slice]; rfl, equal_of fun d => by simp [Op.equalIn, run_underlying hu]⟩
    · cases h
  · split at h
    · rename_i hu; cases h
      simp only [rel] at ha hb; subst hb; obtain ⟨i, o, c, hi, rfl⟩ := ha
      exact ⟨by rw [eqGuard_at_slice]; rfl, equal_of fun d => by simp [Op.equalIn, run_underlying hu]⟩
    · cases h
  · split at h
    · rename_i hu; cases h
      simp only [rel] at ha hb; subst ha hb
      exact ⟨by rcases hop with rfl | rfl <;> rfl, equal_of fun d => by simp [Op.equalIn, run_underlying hu]⟩
    · cases h
  · split at h
    · rename_i hu; cases h
      simp only [rel] at ha hb; subst ha; obtain ⟨_, _, _, rfl, _⟩ := hb
      exact ⟨by rcases hop with rfl | rfl <;> rfl, equal_of fun d => by simp [Op.equalIn, run_underlying hu]⟩
    · cases h
  · split at h
    · rename_i hu; cases h
      simp only [rel] at ha hb; subst hb; obtain ⟨_, _, _, rfl, _⟩ := ha
      exact ⟨by rcases hop with rfl | rfl <;> rfl, equal_of fun d => by simp [Op.equalIn, run_underlying hu]⟩
    · cases h
  · split at h
    case h_3 => cases h
    · rename_i fs hu
      cases hg : P.eqGuardType P.depth t with
      | true => rw [hg] at h; cases h
      | false =>
        rw [hg] at h
        simp only [rel] at ha hb
        obtain ⟨us, rfl, h1⟩ := ha
        obtain ⟨vs, rfl, h2⟩ := hb
        exact ⟨run_eqGuard_agg w op t x y _ _ hg, eqStruct_run 3 9999 (by omega) t _ _ _ _ _ h h1 h2⟩
    · rename_i len elem hu
      cases hg : P.eqGuardType P.depth t with
      | true => rw [hg] at h; cases h
      | false =>
        rw [hg] at h
        simp only [rel] at ha hb
        obtain ⟨us, rfl, h1⟩ := ha
        obtain ⟨vs, rfl, h2⟩ := hb
        exact ⟨run_eqGuard_agg w op t x y _ _ hg, eqArray_run 9998 hu h h1 h2⟩
  · cases h
/-- A test of equality is no test of numbers or of strings: it asks 'equal'. -/
theorem binOp_eql {t : TypeId} {u v : Value} {r : Bool} (h : (Op.equal t u v).run P w = .ok r w) (hu : ∀ k a, u ≠ .int k a) (hs : ∀ s, u ≠ .string s) (hf : ∀ k a, u ≠ .float k a) (hc : ∀ k a b, u ≠ .complex k a b) :
    (binOp .eql t u v).run P w = .ok (.bool r) w := by
  cases u <;> first | exact absurd rfl (hu _ _) | exact absurd rfl (hs _) | exact absurd rfl (hf _ _) | exact absurd rfl (hc _ _ _) | (simp only [binOp, Sem.run_bind, h, Result.andThen_ok, Sem.run_pure])
theorem binOp_neq {t : TypeId} {u v : Value} {r : Bool} (h : (Op.equal t u v).run P w = .ok r w) (hu : ∀ k a, u ≠ .int k a) (hs : ∀ s, u ≠ .string s) (hf : ∀ k a, u ≠ .float k a) (hc : ∀ k a b, u ≠ .complex k a b) :
    (binOp .neq t u v).run P w = .ok (.bool (!r)) w := by
  cases u <;> first | exact absurd rfl (hu _ _) | exact absurd rfl (hs _) | exact absurd rfl (hf _ _) | exact absurd rfl (hc _ _ _) | (simp only [binOp, Sem.run_bind, h, Result.andThen_ok, Sem.run_pure])
/-- What stands for no number is none. -/
theorem eqA_kind {t : TypeId} {xc yc : Bool} {a b : AV} {r : Bool} {u : Value} (h : eqA P t xc yc a b = some r) (ha : rel Γ a u) : (∀ k n, u ≠ .int k n) ∧ (∀ s, u ≠ .string s) ∧ (∀ k n, u ≠ .float k n) ∧ (∀ k n p, u ≠ .complex k n p) := by
  cases a <;> simp only [rel] at ha
  case int => simp [eqA] at h
  case str => simp [eqA] at h
  case ptr => obtain ⟨i, hi, rfl⟩ := ha; simp
  case slice => obtain ⟨i, c, hi, rfl, _⟩ := ha; simp
  case map => obtain ⟨i, hi, rfl⟩ := ha; simp
  case func => obtain ⟨_, _, _, rfl, _⟩ := ha; simp
  case iface => obtain ⟨_, rfl, _⟩ := ha; simp
  case agg => obtain ⟨_, rfl, _⟩ := ha; simp
  case tuple => obtain ⟨_, rfl, _⟩ := ha; simp
  case hollow => obtain ⟨i, o, c, hi, rfl⟩ := ha; simp
  all_goals (subst ha; simp)
theorem shiftA_ok {op : BinOp} (hop : op = .shl ∨ op = .shr) {k k' : IntKind} {a b : Int} {v : AV} (h : shiftA op k a b = some v) (t : TypeId) (w : World) : ∃ c, (binOp op t (.int k a) (.int k' b)).run P w = .ok c w ∧ rel Γ v c := by
  unfold shiftA at h
  split at h
  · cases h
  rename_i hb
  rcases hop with rfl | rfl
  · simp only [Option.some.injEq] at h; subst h
    exact ⟨_, by simp only [binOp, Op.shift, if_neg hb]; rfl, by simp only [rel]⟩
  · simp only [Option.some.injEq] at h; subst h
    exact ⟨_, by simp only [binOp, Op.shift, if_neg hb]; rfl, by simp only [rel]⟩
theorem rdBin_ok (hev : Evals Γ ev ρ) {op : BinOp} {t yt : TypeId} {x y : Operand} {v : AV} (h : rdBin P m ev op t x y = some v) : Gives P Γ w ρ (.binOp op t x y yt) v := by
  intro dst type pos after guard
  unfold rdBin at h
  split at h
  case h_2 => cases h
  rename_i a b hxa hyb
  have ha := hev _ _ hxa
  have hb := hev _ _ hyb
  show ∃ c, ((do let v ← (do eqGuard op t x y (ρ x) (ρ y); binOp op t (ρ x) (ρ y)); pure (Next.value v)) : Sem Next).run P w = .ok (.value c) w ∧ rel Γ v c
  have key : ∀ c, (eqGuard op t x y (ρ x) (ρ y)).run P w = .ok () w → (binOp op t (ρ x) (ρ y)).run P w = .ok c w → ((do let v ← (do eqGuard op t x y (ρ x) (ρ y); binOp op t (ρ x) (ρ y)); pure (Next.value v)) : Sem Next).run P w = .ok (.value c) w := by
    intro c h1 h2
    simp only [Sem.run_bind, h1, h2, Result.andThen_ok, Sem.run_pure]
  generalize ρ x = u at *
  generalize ρ y = z at *
  unfold binA at h
  split at h
  · simp only [rel] at ha hb; subst ha hb
    obtain ⟨c, h1, h2⟩ := shiftA_ok (P := P) (Γ := Γ) (.inl rfl) h t w
    exact ⟨c, key c (by rw [eqGuard_at_int]; rfl) h1, h2⟩
  · simp only [rel] at ha hb; subst ha hb
    obtain ⟨c, h1, h2⟩ := shiftA_ok (P := P) (Γ := Γ) (.inr rfl) h t w
    exact ⟨c, key c (by rw [eqGuard_at_int]; rfl) h1, h2⟩
  · have hs1 : op ≠ .shl := fun e => by first | exact (by assumption : op = .shl → False) e | (subst e; contradiction)
    have hs2 : op ≠ .shr := fun e => by first | exact (by assumption : op = .shr → False) e | (subst e; contradiction)
    split at h
    case isFalse => cases h
    rename_i hk; subst hk
    simp only [rel] at ha hb; subst ha hb
    obtain ⟨c, h1, h2⟩ := binInt_ok (P := P) (Γ := Γ) h ⟨hs1, hs2⟩ t w
    exact ⟨c, key c (by rw [eqGuard_at_int]; rfl) h1, h2⟩
  · simp only [rel] at ha hb
    obtain ⟨rfl, h3⟩ := ha
    obtain ⟨rfl, h4⟩ := hb
    obtain ⟨c, h1, h2⟩ := binStr_ok (P := P) (Γ := Γ) h h3 h4 t w
    exact ⟨c, key c (by rw [eqGuard_at_string]; rfl) h1, h2⟩
  · split at h
    case h_2 => cases h
    rename_i r hr
    cases h
    obtain ⟨h1, h2⟩ := eqA_ok (w := w) (.inl rfl) hr ha hb
    obtain ⟨k1, k2, k3, k4⟩ := eqA_kind hr ha
    exact ⟨.bool r, key _ h1 (binOp_eql h2 k1 k2 k3 k4), by simp only [rel]⟩
  · split at h
    case h_2 => cases h
    rename_i r hr
    cases h
    obtain ⟨h1, h2⟩ := eqA_ok (w := w) (.inr rfl) hr ha hb
    obtain ⟨k1, k2, k3, k4⟩ := eqA_kind hr ha
    exact ⟨.bool (!r), key _ h1 (binOp_neq h2 k1 k2 k3 k4), by simp only [rel]⟩
  · cases h
end Go.Proofs.YtijnlbpeckoofaaGreat
