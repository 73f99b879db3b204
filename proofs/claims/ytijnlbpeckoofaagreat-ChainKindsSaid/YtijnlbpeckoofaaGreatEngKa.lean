/- A machine that runs closed calls: operations made ready beforehand. -/
import Derived.Test.YtijnlbpeckoofaaGreatEngDh
set_option linter.unusedVariables false
set_option linter.unusedSimpArgs false
namespace Go.Proofs.YtijnlbpeckoofaaGreat

abbrev RS := PT AV × Mem
inductive Clo where
  | mk (f : Rec → PT AV → Mem → Option RS)
noncomputable def Clo.run (c : Clo) (rec : Rec) (tm : PT AV) (m : Mem) : Option RS := @Clo.rec (fun _ => Option RS) (fun f => f rec tm m) c
theorem Clo.run_mk (f : Rec → PT AV → Mem → Option RS) (rec : Rec) (tm : PT AV) (m : Mem) : (Clo.mk f).run rec tm m = f rec tm m := rfl

/-! ### What is looked at -/
noncomputable def onSome (x : Option AV) (f : AV → Option RS) : Option RS := @Option.rec AV (fun _ => Option RS) none f x
theorem onSome_eq {x : Option AV} {f : AV → Option RS} {r : RS} (h : onSome x f = some r) : ∃ v, x = some v ∧ f v = some r := by
  cases x with
  | none => exact absurd h (by simp [onSome])
  | some v => exact ⟨v, rfl, h⟩
noncomputable def onTrue (b : Bool) (x : Option RS) : Option RS := @Bool.rec (fun _ => Option RS) none x b
theorem onTrue_eq {b : Bool} {x : Option RS} {r : RS} (h : onTrue b x = some r) : b = true ∧ x = some r := by
  cases b with
  | false => exact absurd h (by simp [onTrue])
  | true => exact ⟨rfl, h⟩
noncomputable def onFalse (b : Bool) (x : Option RS) : Option RS := @Bool.rec (fun _ => Option RS) x none b
theorem onFalse_eq {b : Bool} {x : Option RS} {r : RS} (h : onFalse b x = some r) : b = false ∧ x = some r := by
  cases b with
  | true => exact absurd h (by simp [onFalse])
  | false => exact ⟨rfl, h⟩
noncomputable def onPair (x : Option (AV × Mem)) (f : AV → Mem → Option RS) : Option RS := @Option.rec (AV × Mem) (fun _ => Option RS) none (fun p => @Prod.rec AV Mem (fun _ => Option RS) f p) x
theorem onPair_eq {x : Option (AV × Mem)} {f : AV → Mem → Option RS} {r : RS} (h : onPair x f = some r) : ∃ v m, x = some (v, m) ∧ f v m = some r := by
  cases x with
  | none => exact absurd h (by simp [onPair])
  | some p => exact ⟨p.1, p.2, rfl, h⟩
noncomputable def frc {β : Type} (k : Nat) (f : Nat → β) : β := @Nat.rec (fun _ => β) (f 0) (fun n _ => f (Nat.succ n)) k
theorem frc_eq {β : Type} (k : Nat) (f : Nat → β) : frc k f = f k := by cases k <;> rfl
noncomputable def onPtr (x : Option AV) (f : Nat → Nat → Option RS) : Option RS := @Option.rec AV (fun _ => Option RS) none (fun v => @AV.rec (fun _ => Option RS) (fun _ => Option RS) (fun _ => none) (fun _ _ => none) (fun _ _ => none) none f none (fun _ _ _ _ _ => none) none (fun _ => none) (fun _ _ _ _ _ => none) none (fun _ _ _ => none) none (fun _ _ => none) (fun _ _ => none) (fun _ => none) none (fun _ _ _ _ => none) v) x
theorem onPtr_eq {x : Option AV} {f : Nat → Nat → Option RS} {r : RS} (h : onPtr x f = some r) : ∃ b o, x = some (.ptr b o) ∧ f b o = some r := by
  cases x with
  | none => exact absurd h (by simp [onPtr])
  | some v => cases v <;> first | exact ⟨_, _, rfl, h⟩ | exact absurd h (by simp [onPtr])
noncomputable def onInt (x : Option AV) (f : IntKind → Int → Option RS) : Option RS := @Option.rec AV (fun _ => Option RS) none (fun v => @AV.rec (fun _ => Option RS) (fun _ => Option RS) (fun _ => none) f (fun _ _ => none) none (fun _ _ => none) none (fun _ _ _ _ _ => none) none (fun _ => none) (fun _ _ _ _ _ => none) none (fun _ _ _ => none) none (fun _ _ => none) (fun _ _ => none) (fun _ => none) none (fun _ _ _ _ => none) v) x
theorem onInt_eq {x : Option AV} {f : IntKind → Int → Option RS} {r : RS} (h : onInt x f = some r) : ∃ k n, x = some (.int k n) ∧ f k n = some r := by
  cases x with
  | none => exact absurd h (by simp [onInt])
  | some v => cases v <;> first | exact ⟨_, _, rfl, h⟩ | exact absurd h (by simp [onInt])
noncomputable def onStr (x : Option AV) (f : Nat → Nat → Option RS) : Option RS := @Option.rec AV (fun _ => Option RS) none (fun v => @AV.rec (fun _ => Option RS) (fun _ => Option RS) (fun _ => none) (fun _ _ => none) f none (fun _ _ => none) none (fun _ _ _ _ _ => none) none (fun _ => none) (fun _ _ _ _ _ => none) none (fun _ _ _ => none) none (fun _ _ => none) (fun _ _ => none) (fun _ => none) none (fun _ _ _ _ => none) v) x
theorem onStr_eq {x : Option AV} {f : Nat → Nat → Option RS} {r : RS} (h : onStr x f = some r) : ∃ n y, x = some (.str n y) ∧ f n y = some r := by
  cases x with
  | none => exact absurd h (by simp [onStr])
  | some v => cases v <;> first | exact ⟨_, _, rfl, h⟩ | exact absurd h (by simp [onStr])
noncomputable def onSlice (x : Option AV) (f : Nat → Nat → Nat → Option RS) : Option RS := @Option.rec AV (fun _ => Option RS) none (fun v => @AV.rec (fun _ => Option RS) (fun _ => Option RS) (fun _ => none) (fun _ _ => none) (fun _ _ => none) none (fun _ _ => none) none (fun b off len _ _ => f b off len) none (fun _ => none) (fun _ _ _ _ _ => none) none (fun _ _ _ => none) none (fun _ _ => none) (fun _ _ => none) (fun _ => none) none (fun _ _ _ _ => none) v) x
theorem onSlice_eq {x : Option AV} {f : Nat → Nat → Nat → Option RS} {r : RS} (h : onSlice x f = some r) : ∃ b o l c e, x = some (.slice b o l c e) ∧ f b o l = some r := by
  cases x with
  | none => exact absurd h (by simp [onSlice])
  | some v => cases v <;> first | exact ⟨_, _, _, _, _, rfl, h⟩ | exact absurd h (by simp [onSlice])
noncomputable def onTuple (x : Option AV) (f : List AV → Option RS) : Option RS := @Option.rec AV (fun _ => Option RS) none (fun v => @AV.rec (fun _ => Option RS) (fun _ => Option RS) (fun _ => none) (fun _ _ => none) (fun _ _ => none) none (fun _ _ => none) none (fun _ _ _ _ _ => none) none (fun _ => none) (fun _ _ _ _ _ => none) none (fun _ _ _ => none) none (fun _ _ => none) (fun l _ => f l) (fun _ => none) none (fun _ _ _ _ => none) v) x
theorem onTuple_eq {x : Option AV} {f : List AV → Option RS} {r : RS} (h : onTuple x f = some r) : ∃ l, x = some (.tuple l) ∧ f l = some r := by
  cases x with
  | none => exact absurd h (by simp [onTuple])
  | some v => cases v <;> first | exact ⟨_, rfl, h⟩ | exact absurd h (by simp [onTuple])
noncomputable def onNat (x : Option AV) (f : Nat → Option RS) : Option RS := @Option.rec AV (fun _ => Option RS) none (fun v => @AV.rec (fun _ => Option RS) (fun _ => Option RS) (fun _ => none) (fun _ n => @Int.rec (fun _ => Option RS) f (fun _ => none) n) (fun _ _ => none) none (fun _ _ => none) none (fun _ _ _ _ _ => none) none (fun _ => none) (fun _ _ _ _ _ => none) none (fun _ _ _ => none) none (fun _ _ => none) (fun _ _ => none) (fun _ => none) none (fun _ _ _ _ => none) v) x
theorem onNat_eq {x : Option AV} {f : Nat → Option RS} {r : RS} (h : onNat x f = some r) : ∃ k n, x = some (.int k (.ofNat n)) ∧ f n = some r := by
  cases x with
  | none => exact absurd h (by simp [onNat])
  | some v => cases v with
    | int k n => cases n with
      | ofNat n => exact ⟨_, _, rfl, h⟩
      | negSucc n => exact absurd h (by simp [onNat])
    | _ => exact absurd h (by simp [onNat])
noncomputable def onBool (x : Option AV) (t e : Option RS) : Option RS := @Option.rec AV (fun _ => Option RS) none (fun v => @AV.rec (fun _ => Option RS) (fun _ => Option RS) (fun b => @Bool.rec (fun _ => Option RS) e t b) (fun _ _ => none) (fun _ _ => none) none (fun _ _ => none) none (fun _ _ _ _ _ => none) none (fun _ => none) (fun _ _ _ _ _ => none) none (fun _ _ _ => none) none (fun _ _ => none) (fun _ _ => none) (fun _ => none) none (fun _ _ _ _ => none) v) x
theorem onBool_eq {x : Option AV} {t e : Option RS} {r : RS} (h : onBool x t e = some r) : (x = some (.bool true) ∧ t = some r) ∨ (x = some (.bool false) ∧ e = some r) := by
  cases x with
  | none => exact absurd h (by simp [onBool])
  | some v => cases v with
    | bool b => cases b with
      | true => exact .inl ⟨rfl, h⟩
      | false => exact .inr ⟨rfl, h⟩
    | _ => exact absurd h (by simp [onBool])
/-- A value of one cell. -/
noncomputable def onOne (x : Option AV) (f : AV → Option RS) : Option RS := @Option.rec AV (fun _ => Option RS) none (fun v => @AV.rec (fun _ => Option RS) (fun _ => Option RS) (fun _ => (f v)) (fun _ _ => (f v)) (fun _ _ => (f v)) (f v) (fun _ _ => (f v)) (f v) (fun _ _ _ _ _ => (f v)) (f v) (fun _ => (f v)) (fun _ _ _ _ _ => (f v)) (f v) (fun _ _ _ => (f v)) (f v) (fun _ _ => none) (fun _ _ => none) (fun _ => (f v)) none (fun _ _ _ _ => none) v) x
theorem onOne_eq {x : Option AV} {f : AV → Option RS} {r : RS} (h : onOne x f = some r) : ∃ v, x = some v ∧ v.cells = [v] ∧ one v = true ∧ f v = some r := by
  cases x with
  | none => exact absurd h (by simp [onOne])
  | some v => cases v <;> first | exact ⟨_, rfl, rfl, rfl, h⟩ | exact absurd h (by simp [onOne])
noncomputable def onNil (x : Option AV) (f : AV → Option RS) (slow : Option RS) : Option RS := @Option.rec AV (fun _ => Option RS) none (fun v => @AV.rec (fun _ => Option RS) (fun _ => Option RS) (fun _ => none) (fun _ _ => none) (fun _ _ => none) none (fun _ _ => f v) none (fun _ _ _ _ _ => none) none (fun _ => none) (fun _ _ _ _ _ => slow) none (fun _ _ _ => f v) none (fun _ _ => none) (fun _ _ => none) (fun _ => none) none (fun _ _ _ _ => none) v) x
theorem onNil_eq {x : Option AV} {f : AV → Option RS} {slow : Option RS} {r : RS} (h : onNil x f slow = some r) : (∃ b o, x = some (.ptr b o) ∧ f (.ptr b o) = some r) ∨ (∃ t v, x = some (.iface t v) ∧ f (.iface t v) = some r) ∨ slow = some r := by
  cases x with
  | none => exact absurd h (by simp [onNil])
  | some v => cases v <;> first | exact .inl ⟨_, _, rfl, h⟩ | exact .inr (.inl ⟨_, _, rfl, h⟩) | exact .inr (.inr h) | exact absurd h (by simp [onNil])
noncomputable def onLen (x : Option AV) (f : Nat → Option RS) : Option RS := @Option.rec AV (fun _ => Option RS) none (fun v => @AV.rec (fun _ => Option RS) (fun _ => Option RS) (fun _ => none) (fun _ _ => none) (fun _ _ => none) none (fun _ _ => none) (f 0) (fun _ _ len _ _ => f len) none (fun _ => none) (fun _ _ _ _ _ => none) none (fun _ _ _ => none) none (fun _ _ => none) (fun _ _ => none) (fun _ => f 0) none (fun _ _ _ _ => none) v) x
theorem onLen_eq {x : Option AV} {f : Nat → Option RS} {r : RS} (h : onLen x f = some r) : (x = some .nilslice ∧ f 0 = some r) ∨ (∃ b o l c e, x = some (.slice b o l c e) ∧ f l = some r) ∨ (∃ b, x = some (.hollow b) ∧ f 0 = some r) := by
  cases x with
  | none => exact absurd h (by simp [onLen])
  | some v => cases v <;> first | exact .inl ⟨rfl, h⟩ | exact .inr (.inl ⟨_, _, _, _, _, rfl, h⟩) | exact .inr (.inr ⟨_, rfl, h⟩) | exact absurd h (by simp [onLen])
noncomputable def onCells (x : Option AObj) (f : Nat → PT AV → TypeId → Bool → Bool → Option RS) : Option RS :=
  @Option.rec AObj (fun _ => Option RS) none (fun o => @AObj.rec (fun _ => Option RS) f (fun _ _ => none) (fun _ _ _ _ => none) none (fun _ _ _ => none) (fun _ _ _ _ _ _ _ _ => none) (fun _ => none) o) x
theorem onCells_eq {x : Option AObj} {f : Nat → PT AV → TypeId → Bool → Bool → Option RS} {r : RS} (h : onCells x f = some r) : ∃ n t e o z, x = some (.cells n t e o z) ∧ f n t e o z = some r := by
  cases x with
  | none => exact absurd h (by simp [onCells])
  | some v => cases v <;> first | exact ⟨_, _, _, _, _, rfl, h⟩ | exact absurd h (by simp [onCells])

/-! ### Where a temporary lies -/
noncomputable def dgC {X β : Type} (d : D16) (kont : (N16 β → β) → X) : X := @D16.rec (fun _ => X) (kont N16.a0) (kont N16.a1) (kont N16.a2) (kont N16.a3) (kont N16.a4) (kont N16.a5) (kont N16.a6) (kont N16.a7) (kont N16.a8) (kont N16.a9) (kont N16.a10) (kont N16.a11) (kont N16.a12) (kont N16.a13) (kont N16.a14) (kont N16.a15) d
theorem dgC_eq {X β : Type} (d : D16) (kont : (N16 β → β) → X) : dgC d kont = kont (N16.get d) := by cases d <;> rfl
abbrev N1 := N16 (Option AV)
abbrev N2 := N16 N1
noncomputable def setB0 (v : AV) (t : N1) : N1 := @N16.rec (Option AV) (fun _ => AV → N1) (fun a0 a1 a2 a3 a4 a5 a6 a7 a8 a9 a10 a11 a12 a13 a14 a15 v => ⟨some v, a1, a2, a3, a4, a5, a6, a7, a8, a9, a10, a11, a12, a13, a14, a15⟩) t v
noncomputable def setB1 (v : AV) (t : N1) : N1 := @N16.rec (Option AV) (fun _ => AV → N1) (fun a0 a1 a2 a3 a4 a5 a6 a7 a8 a9 a10 a11 a12 a13 a14 a15 v => ⟨a0, some v, a2, a3, a4, a5, a6, a7, a8, a9, a10, a11, a12, a13, a14, a15⟩) t v
noncomputable def setB2 (v : AV) (t : N1) : N1 := @N16.rec (Option AV) (fun _ => AV → N1) (fun a0 a1 a2 a3 a4 a5 a6 a7 a8 a9 a10 a11 a12 a13 a14 a15 v => ⟨a0, a1, some v, a3, a4, a5, a6, a7, a8, a9, a10, a11, a12, a13, a14, a15⟩) t v
noncomputable def setB3 (v : AV) (t : N1) : N1 := @N16.rec (Option AV) (fun _ => AV → N1) (fun a0 a1 a2 a3 a4 a5 a6 a7 a8 a9 a10 a11 a12 a13 a14 a15 v => ⟨a0, a1, a2, some v, a4, a5, a6, a7, a8, a9, a10, a11, a12, a13, a14, a15⟩) t v
noncomputable def setB4 (v : AV) (t : N1) : N1 := @N16.rec (Option AV) (fun _ => AV → N1) (fun a0 a1 a2 a3 a4 a5 a6 a7 a8 a9 a10 a11 a12 a13 a14 a15 v => ⟨a0, a1, a2, a3, some v, a5, a6, a7, a8, a9, a10, a11, a12, a13, a14, a15⟩) t v
noncomputable def setB5 (v : AV) (t : N1) : N1 := @N16.rec (Option AV) (fun _ => AV → N1) (fun a0 a1 a2 a3 a4 a5 a6 a7 a8 a9 a10 a11 a12 a13 a14 a15 v => ⟨a0, a1, a2, a3, a4, some v, a6, a7, a8, a9, a10, a11, a12, a13, a14, a15⟩) t v
noncomputable def setB6 (v : AV) (t : N1) : N1 := @N16.rec (Option AV) (fun _ => AV → N1) (fun a0 a1 a2 a3 a4 a5 a6 a7 a8 a9 a10 a11 a12 a13 a14 a15 v => ⟨a0, a1, a2, a3, a4, a5, some v, a7, a8, a9, a10, a11, a12, a13, a14, a15⟩) t v
noncomputable def setB7 (v : AV) (t : N1) : N1 := @N16.rec (Option AV) (fun _ => AV → N1) (fun a0 a1 a2 a3 a4 a5 a6 a7 a8 a9 a10 a11 a12 a13 a14 a15 v => ⟨a0, a1, a2, a3, a4, a5, a6, some v, a8, a9, a10, a11, a12, a13, a14, a15⟩) t v
noncomputable def setB8 (v : AV) (t : N1) : N1 := @N16.rec (Option AV) (fun _ => AV → N1) (fun a0 a1 a2 a3 a4 a5 a6 a7 a8 a9 a10 a11 a12 a13 a14 a15 v => ⟨a0, a1, a2, a3, a4, a5, a6, a7, some v, a9, a10, a11, a12, a13, a14, a15⟩) t v
noncomputable def setB9 (v : AV) (t : N1) : N1 := @N16.rec (Option AV) (fun _ => AV → N1) (fun a0 a1 a2 a3 a4 a5 a6 a7 a8 a9 a10 a11 a12 a13 a14 a15 v => ⟨a0, a1, a2, a3, a4, a5, a6, a7, a8, some v, a10, a11, a12, a13, a14, a15⟩) t v
noncomputable def setB10 (v : AV) (t : N1) : N1 := @N16.rec (Option AV) (fun _ => AV → N1) (fun a0 a1 a2 a3 a4 a5 a6 a7 a8 a9 a10 a11 a12 a13 a14 a15 v => ⟨a0, a1, a2, a3, a4, a5, a6, a7, a8, a9, some v, a11, a12, a13, a14, a15⟩) t v
noncomputable def setB11 (v : AV) (t : N1) : N1 := @N16.rec (Option AV) (fun _ => AV → N1) (fun a0 a1 a2 a3 a4 a5 a6 a7 a8 a9 a10 a11 a12 a13 a14 a15 v => ⟨a0, a1, a2, a3, a4, a5, a6, a7, a8, a9, a10, some v, a12, a13, a14, a15⟩) t v
noncomputable def setB12 (v : AV) (t : N1) : N1 := @N16.rec (Option AV) (fun _ => AV → N1) (fun a0 a1 a2 a3 a4 a5 a6 a7 a8 a9 a10 a11 a12 a13 a14 a15 v => ⟨a0, a1, a2, a3, a4, a5, a6, a7, a8, a9, a10, a11, some v, a13, a14, a15⟩) t v
noncomputable def setB13 (v : AV) (t : N1) : N1 := @N16.rec (Option AV) (fun _ => AV → N1) (fun a0 a1 a2 a3 a4 a5 a6 a7 a8 a9 a10 a11 a12 a13 a14 a15 v => ⟨a0, a1, a2, a3, a4, a5, a6, a7, a8, a9, a10, a11, a12, some v, a14, a15⟩) t v
noncomputable def setB14 (v : AV) (t : N1) : N1 := @N16.rec (Option AV) (fun _ => AV → N1) (fun a0 a1 a2 a3 a4 a5 a6 a7 a8 a9 a10 a11 a12 a13 a14 a15 v => ⟨a0, a1, a2, a3, a4, a5, a6, a7, a8, a9, a10, a11, a12, a13, some v, a15⟩) t v
noncomputable def setB15 (v : AV) (t : N1) : N1 := @N16.rec (Option AV) (fun _ => AV → N1) (fun a0 a1 a2 a3 a4 a5 a6 a7 a8 a9 a10 a11 a12 a13 a14 a15 v => ⟨a0, a1, a2, a3, a4, a5, a6, a7, a8, a9, a10, a11, a12, a13, a14, some v⟩) t v
noncomputable def updA0 (f : N1 → N1) (t : N2) : N2 := @N16.rec N1 (fun _ => (N1 → N1) → N2) (fun a0 a1 a2 a3 a4 a5 a6 a7 a8 a9 a10 a11 a12 a13 a14 a15 f => ⟨f a0, a1, a2, a3, a4, a5, a6, a7, a8, a9, a10, a11, a12, a13, a14, a15⟩) t f
noncomputable def updA1 (f : N1 → N1) (t : N2) : N2 := @N16.rec N1 (fun _ => (N1 → N1) → N2) (fun a0 a1 a2 a3 a4 a5 a6 a7 a8 a9 a10 a11 a12 a13 a14 a15 f => ⟨a0, f a1, a2, a3, a4, a5, a6, a7, a8, a9, a10, a11, a12, a13, a14, a15⟩) t f
noncomputable def updA2 (f : N1 → N1) (t : N2) : N2 := @N16.rec N1 (fun _ => (N1 → N1) → N2) (fun a0 a1 a2 a3 a4 a5 a6 a7 a8 a9 a10 a11 a12 a13 a14 a15 f => ⟨a0, a1, f a2, a3, a4, a5, a6, a7, a8, a9, a10, a11, a12, a13, a14, a15⟩) t f
noncomputable def updA3 (f : N1 → N1) (t : N2) : N2 := @N16.rec N1 (fun _ => (N1 → N1) → N2) (fun a0 a1 a2 a3 a4 a5 a6 a7 a8 a9 a10 a11 a12 a13 a14 a15 f => ⟨a0, a1, a2, f a3, a4, a5, a6, a7, a8, a9, a10, a11, a12, a13, a14, a15⟩) t f
noncomputable def updA4 (f : N1 → N1) (t : N2) : N2 := @N16.rec N1 (fun _ => (N1 → N1) → N2) (fun a0 a1 a2 a3 a4 a5 a6 a7 a8 a9 a10 a11 a12 a13 a14 a15 f => ⟨a0, a1, a2, a3, f a4, a5, a6, a7, a8, a9, a10, a11, a12, a13, a14, a15⟩) t f
noncomputable def updA5 (f : N1 → N1) (t : N2) : N2 := @N16.rec N1 (fun _ => (N1 → N1) → N2) (fun a0 a1 a2 a3 a4 a5 a6 a7 a8 a9 a10 a11 a12 a13 a14 a15 f => ⟨a0, a1, a2, a3, a4, f a5, a6, a7, a8, a9, a10, a11, a12, a13, a14, a15⟩) t f
noncomputable def updA6 (f : N1 → N1) (t : N2) : N2 := @N16.rec N1 (fun _ => (N1 → N1) → N2) (fun a0 a1 a2 a3 a4 a5 a6 a7 a8 a9 a10 a11 a12 a13 a14 a15 f => ⟨a0, a1, a2, a3, a4, a5, f a6, a7, a8, a9, a10, a11, a12, a13, a14, a15⟩) t f
noncomputable def updA7 (f : N1 → N1) (t : N2) : N2 := @N16.rec N1 (fun _ => (N1 → N1) → N2) (fun a0 a1 a2 a3 a4 a5 a6 a7 a8 a9 a10 a11 a12 a13 a14 a15 f => ⟨a0, a1, a2, a3, a4, a5, a6, f a7, a8, a9, a10, a11, a12, a13, a14, a15⟩) t f
noncomputable def updA8 (f : N1 → N1) (t : N2) : N2 := @N16.rec N1 (fun _ => (N1 → N1) → N2) (fun a0 a1 a2 a3 a4 a5 a6 a7 a8 a9 a10 a11 a12 a13 a14 a15 f => ⟨a0, a1, a2, a3, a4, a5, a6, a7, f a8, a9, a10, a11, a12, a13, a14, a15⟩) t f
noncomputable def updA9 (f : N1 → N1) (t : N2) : N2 := @N16.rec N1 (fun _ => (N1 → N1) → N2) (fun a0 a1 a2 a3 a4 a5 a6 a7 a8 a9 a10 a11 a12 a13 a14 a15 f => ⟨a0, a1, a2, a3, a4, a5, a6, a7, a8, f a9, a10, a11, a12, a13, a14, a15⟩) t f
noncomputable def updA10 (f : N1 → N1) (t : N2) : N2 := @N16.rec N1 (fun _ => (N1 → N1) → N2) (fun a0 a1 a2 a3 a4 a5 a6 a7 a8 a9 a10 a11 a12 a13 a14 a15 f => ⟨a0, a1, a2, a3, a4, a5, a6, a7, a8, a9, f a10, a11, a12, a13, a14, a15⟩) t f
noncomputable def updA11 (f : N1 → N1) (t : N2) : N2 := @N16.rec N1 (fun _ => (N1 → N1) → N2) (fun a0 a1 a2 a3 a4 a5 a6 a7 a8 a9 a10 a11 a12 a13 a14 a15 f => ⟨a0, a1, a2, a3, a4, a5, a6, a7, a8, a9, a10, f a11, a12, a13, a14, a15⟩) t f
noncomputable def updA12 (f : N1 → N1) (t : N2) : N2 := @N16.rec N1 (fun _ => (N1 → N1) → N2) (fun a0 a1 a2 a3 a4 a5 a6 a7 a8 a9 a10 a11 a12 a13 a14 a15 f => ⟨a0, a1, a2, a3, a4, a5, a6, a7, a8, a9, a10, a11, f a12, a13, a14, a15⟩) t f
noncomputable def updA13 (f : N1 → N1) (t : N2) : N2 := @N16.rec N1 (fun _ => (N1 → N1) → N2) (fun a0 a1 a2 a3 a4 a5 a6 a7 a8 a9 a10 a11 a12 a13 a14 a15 f => ⟨a0, a1, a2, a3, a4, a5, a6, a7, a8, a9, a10, a11, a12, f a13, a14, a15⟩) t f
noncomputable def updA14 (f : N1 → N1) (t : N2) : N2 := @N16.rec N1 (fun _ => (N1 → N1) → N2) (fun a0 a1 a2 a3 a4 a5 a6 a7 a8 a9 a10 a11 a12 a13 a14 a15 f => ⟨a0, a1, a2, a3, a4, a5, a6, a7, a8, a9, a10, a11, a12, a13, f a14, a15⟩) t f
noncomputable def updA15 (f : N1 → N1) (t : N2) : N2 := @N16.rec N1 (fun _ => (N1 → N1) → N2) (fun a0 a1 a2 a3 a4 a5 a6 a7 a8 a9 a10 a11 a12 a13 a14 a15 f => ⟨a0, a1, a2, a3, a4, a5, a6, a7, a8, a9, a10, a11, a12, a13, a14, f a15⟩) t f
noncomputable def duA (d : D16) (kont : ((N1 → N1) → N2 → N2) → Clo) : Clo := @D16.rec (fun _ => Clo) (kont updA0) (kont updA1) (kont updA2) (kont updA3) (kont updA4) (kont updA5) (kont updA6) (kont updA7) (kont updA8) (kont updA9) (kont updA10) (kont updA11) (kont updA12) (kont updA13) (kont updA14) (kont updA15) d
theorem duA_eq (d : D16) (kont : ((N1 → N1) → N2 → N2) → Clo) : duA d kont = kont (N16.upd d) := by
  cases d <;> exact congrArg kont (funext fun f => funext fun t => by cases t; rfl)
noncomputable def duB (d : D16) (kont : (AV → N1 → N1) → Clo) : Clo := @D16.rec (fun _ => Clo) (kont setB0) (kont setB1) (kont setB2) (kont setB3) (kont setB4) (kont setB5) (kont setB6) (kont setB7) (kont setB8) (kont setB9) (kont setB10) (kont setB11) (kont setB12) (kont setB13) (kont setB14) (kont setB15) d
theorem duB_eq (d : D16) (kont : (AV → N1 → N1) → Clo) : duB d kont = kont (fun v => N16.upd d (fun _ => some v)) := by
  cases d <;> exact congrArg kont (funext fun v => funext fun t => by cases t; rfl)
noncomputable def tmpC {X : Type} (t : Nat) (kont : (PT AV → Option AV) → X) : X :=
  @Bool.rec (fun _ => X) (kont fun tm => tm.get t) (dgC (dig (Nat.mod (Nat.div t 16) 16)) fun f => dgC (dig (Nat.mod t 16)) fun g => kont fun tm => g (f tm.lo)) (Nat.ble (Nat.succ t) 256)
noncomputable def tmpG (t : Nat) : PT AV → Option AV := if t < 256 then fun tm => N16.get (dig (Nat.mod t 16)) (N16.get (dig (Nat.mod (Nat.div t 16) 16)) tm.lo) else fun tm => tm.get t
theorem ble_lt {t n : Nat} (h : t < n) : Nat.ble (Nat.succ t) n = true := Nat.ble_eq_true_of_le h
theorem ble_ge {t n : Nat} (h : ¬ t < n) : Nat.ble (Nat.succ t) n = false := by
  cases q : Nat.ble (Nat.succ t) n with
  | false => rfl
  | true => exact absurd (Nat.le_of_ble_eq_true q) h
theorem tmpC_eq {X : Type} (t : Nat) (kont : (PT AV → Option AV) → X) : tmpC t kont = kont (tmpG t) := by
  unfold tmpC tmpG
  by_cases h : t < 256
  · rw [if_pos h, ble_lt h]
    simp only [dgC_eq]
  · rw [if_neg h, ble_ge h]
theorem tmpG_eq (t : Nat) (tm : PT AV) : tmpG t tm = tm.get t := by
  unfold tmpG
  by_cases h : t < 256
  · rw [if_pos h, PT.get_eq, PT.get0, PT.tell_eq, if_pos h]; rfl
  · rw [if_neg h]
noncomputable def opdC {X : Type} (cf : Cf) (x : Operand) (kont : (PT AV → Option AV) → X) : X :=
  @Operand.rec (fun _ => X) (fun t => tmpC t kont) (fun v => kont fun _ => AV.of v) (fun g => kont fun _ => bif Nat.blt g cf.g0 then some (.ptr g 0) else none) (fun f => kont fun _ => some (.func (.func f) [] [])) x
noncomputable def opdG (cf : Cf) (x : Operand) : PT AV → Option AV :=
  @Operand.rec (fun _ => PT AV → Option AV) (fun t => tmpG t) (fun v _ => AV.of v) (fun g _ => bif Nat.blt g cf.g0 then some (.ptr g 0) else none) (fun f _ => some (.func (.func f) [] [])) x
theorem opdC_eq {X : Type} (cf : Cf) (x : Operand) (kont : (PT AV → Option AV) → X) : opdC cf x kont = kont (opdG cf x) := by
  cases x <;> first | exact tmpC_eq _ _ | rfl
theorem opdG_eq (cf : Cf) (x : Operand) (tm : PT AV) : opdG cf x tm = evalA cf tm x := by
  cases x <;> first | exact tmpG_eq _ _ | rfl
noncomputable def dstC (d : Option Tmp) (kont : (PT AV → AV → PT AV) → Clo) : Clo :=
  @Option.rec Tmp (fun _ => Clo) (kont fun tm _ => tm) (fun t => @Bool.rec (fun _ => Clo) (kont fun tm v => tm.set t (some v))
    (duA (dig (Nat.mod (Nat.div t 16) 16)) fun f => duB (dig (Nat.mod t 16)) fun g => kont fun tm v => @PT.rec AV (fun _ => AV → PT AV) (fun lo mid hi rest v => ⟨f (g v) lo, mid, hi, rest⟩) tm v) (Nat.ble (Nat.succ t) 256)) d
noncomputable def dstG (d : Option Tmp) : PT AV → AV → PT AV :=
  match d with
  | none => fun tm _ => tm
  | some t => if t < 256 then fun tm v => @PT.rec AV (fun _ => AV → PT AV) (fun lo mid hi rest v => ⟨N16.upd (dig (Nat.mod (Nat.div t 16) 16)) (N16.upd (dig (Nat.mod t 16)) (fun _ => some v)) lo, mid, hi, rest⟩) tm v else fun tm v => tm.set t (some v)
theorem dstC_eq (d : Option Tmp) (kont : (PT AV → AV → PT AV) → Clo) : dstC d kont = kont (dstG d) := by
  cases d with
  | none => rfl
  | some t =>
    unfold dstC dstG
    by_cases h : t < 256
    · simp only [if_pos h, ble_lt h, duA_eq, duB_eq]
    · simp only [if_neg h, ble_ge h]
theorem dstG_eq (d : Option Tmp) (tm : PT AV) (v : AV) : dstG d tm v = putA tm d v := by
  cases d with
  | none => rfl
  | some t =>
    show _ = tm.set t (some v)
    unfold dstG
    by_cases h : t < 256
    · simp only [if_pos h]
      obtain ⟨lo, mid, hi, rest⟩ := tm
      rw [PT.set_eq, PT.set_mk, if_pos h]; rfl
    · simp only [if_neg h]

/-! ### Operations -/
/-- What a closure comes to, the operation comes to, and the rest behind it. -/
def OpOk (cf : Cf) (op : Op) (dst : Option Tmp) (k c : Clo) : Prop := ∀ rec tm m r, c.run rec tm m = some r → ∃ v m', opA cf rec (evalA cf tm) op m = some (v, m') ∧ k.run rec (putA tm dst v) m' = some r
variable {cf : Cf} {op : Op} {dst : Option Tmp} {k : Clo}
theorem OpOk.read {c : Clo} (h : ∀ rec tm m r, c.run rec tm m = some r → ∃ v, readA cf.P m (evalA cf tm) op = some v ∧ k.run rec (putA tm dst v) m = some r) : OpOk cf op dst k c := fun rec tm m r hr => by
  obtain ⟨v, h1, h2⟩ := h rec tm m r hr
  exact ⟨v, m, by unfold opA; rw [h1], h2⟩
noncomputable def slowK (cf : Cf) (op : Op) (dst : Option Tmp) (k : Clo) : Clo := .mk fun rec tm m => onPair (opA cf rec (evalA cf tm) op m) fun v m => k.run rec (putA tm dst v) m
theorem slowK_ok : OpOk cf op dst k (slowK cf op dst k) := fun rec tm m r h => by
  rw [slowK, Clo.run_mk] at h
  obtain ⟨v, m', h1, h2⟩ := onPair_eq h
  exact ⟨v, m', h1, h2⟩
/-- A closure made of what lies where. -/
noncomputable def unK (cf : Cf) (x : Operand) (dst : Option Tmp) (body : (PT AV → Option AV) → (PT AV → AV → PT AV) → Clo) : Clo := opdC cf x fun g => dstC dst fun s => body g s
theorem unK_eq (x : Operand) (body : (PT AV → Option AV) → (PT AV → AV → PT AV) → Clo) : unK cf x dst body = body (opdG cf x) (dstG dst) := by
  unfold unK; rw [opdC_eq, dstC_eq]
noncomputable def biK (cf : Cf) (x y : Operand) (dst : Option Tmp) (body : (PT AV → Option AV) → (PT AV → Option AV) → (PT AV → AV → PT AV) → Clo) : Clo := opdC cf x fun g => opdC cf y fun h => dstC dst fun s => body g h s
theorem biK_eq (x y : Operand) (body : (PT AV → Option AV) → (PT AV → Option AV) → (PT AV → AV → PT AV) → Clo) : biK cf x y dst body = body (opdG cf x) (opdG cf y) (dstG dst) := by
  unfold biK; rw [opdC_eq, opdC_eq, dstC_eq]

noncomputable def moveK (cf : Cf) (x : Operand) (dst : Option Tmp) (k : Clo) : Clo := unK cf x dst fun g s => .mk fun rec tm m => onSome (g tm) fun v => k.run rec (s tm v) m
theorem moveK_ok {x : Operand} (h : ∀ P m ev, readA P m ev op = ev x) : OpOk cf op dst k (moveK cf x dst k) := .read fun rec tm m r hr => by
  unfold moveK at hr
  rw [unK_eq] at hr
  obtain ⟨v, h1, h2⟩ := onSome_eq hr
  rw [opdG_eq] at h1; rw [dstG_eq] at h2
  exact ⟨v, by rw [h]; exact h1, h2⟩
noncomputable def pickK (cf : Cf) (c a b : Operand) (dst : Option Tmp) (k : Clo) : Clo := opdC cf c fun gc => biK cf a b dst fun g h s => .mk fun rec tm m => onBool (gc tm) (onSome (g tm) fun v => k.run rec (s tm v) m) (onSome (h tm) fun v => k.run rec (s tm v) m)
theorem pickK_ok {c a b : Operand} : OpOk cf (.pick c a b) dst k (pickK cf c a b dst k) := .read fun rec tm m r hr => by
  unfold pickK at hr
  rw [opdC_eq, biK_eq] at hr
  show ∃ v, rdPick cf.P m (evalA cf tm) c a b = some v ∧ _
  unfold rdPick
  rcases onBool_eq hr with ⟨h1, h2⟩ | ⟨h1, h2⟩ <;> obtain ⟨v, h3, h4⟩ := onSome_eq h2 <;> rw [opdG_eq] at h1 h3 <;> rw [dstG_eq] at h4 <;> exact ⟨v, by rw [h1]; exact h3, h4⟩
noncomputable def nilK (cf : Cf) (x : Operand) (dst : Option Tmp) (k : Clo) : Clo := unK cf x dst fun g s => .mk fun rec tm m => onNil (g tm) (fun v => k.run rec (s tm v) m) ((slowK cf (.nilCheck x) dst k).run rec tm m)
theorem nilK_ok {x : Operand} : OpOk cf (.nilCheck x) dst k (nilK cf x dst k) := fun rec tm m r hr => by
  unfold nilK at hr
  rw [unK_eq] at hr
  rcases onNil_eq hr with ⟨b, o, h1, h2⟩ | ⟨t, v, h1, h2⟩ | h1
  · rw [opdG_eq] at h1; rw [dstG_eq] at h2
    exact ⟨_, m, by unfold opA; rw [show readA cf.P m (evalA cf tm) (.nilCheck x) = rdNil cf.P m (evalA cf tm) x from rfl]; unfold rdNil; rw [h1], h2⟩
  · rw [opdG_eq] at h1; rw [dstG_eq] at h2
    exact ⟨_, m, by unfold opA; rw [show readA cf.P m (evalA cf tm) (.nilCheck x) = rdNil cf.P m (evalA cf tm) x from rfl]; unfold rdNil; rw [h1], h2⟩
  · exact slowK_ok rec tm m r h1
noncomputable def notK (cf : Cf) (x : Operand) (dst : Option Tmp) (k : Clo) : Clo := unK cf x dst fun g s => .mk fun rec tm m => onBool (g tm) (k.run rec (s tm (.bool false)) m) (k.run rec (s tm (.bool true)) m)
theorem notK_ok {x : Operand} {t : TypeId} : OpOk cf (.unOp .not t x) dst k (notK cf x dst k) := .read fun rec tm m r hr => by
  unfold notK at hr
  rw [unK_eq] at hr
  show ∃ v, rdUn cf.P m (evalA cf tm) .not x = some v ∧ _
  unfold rdUn
  rcases onBool_eq hr with ⟨h1, h2⟩ | ⟨h1, h2⟩ <;> rw [opdG_eq] at h1 <;> rw [dstG_eq] at h2 <;> exact ⟨_, by rw [h1]; rfl, h2⟩
noncomputable def nthA (l : List AV) : Nat → Option AV := @List.rec AV (fun _ => Nat → Option AV) (fun _ => none) (fun a _ ih i => @Nat.rec (fun _ => Option AV) (some a) (fun j _ => ih j) i) l
theorem nthA_eq (l : List AV) : ∀ i, nthA l i = l[i]? := by
  induction l with
  | nil => intro i; rfl
  | cons a l ih => intro i; cases i with
    | zero => rfl
    | succ i => rw [List.getElem?_cons_succ, ← ih]; rfl
noncomputable def extractK (cf : Cf) (x : Operand) (i : Nat) (dst : Option Tmp) (k : Clo) : Clo := unK cf x dst fun g s => .mk fun rec tm m => onTuple (g tm) fun l => onSome (nthA l i) fun v => k.run rec (s tm v) m
theorem extractK_ok {x : Operand} {i : Nat} : OpOk cf (.extract x i) dst k (extractK cf x i dst k) := .read fun rec tm m r hr => by
  unfold extractK at hr
  rw [unK_eq] at hr
  obtain ⟨l, h1, h2⟩ := onTuple_eq hr
  obtain ⟨v, h3, h4⟩ := onSome_eq h2
  rw [opdG_eq] at h1; rw [nthA_eq] at h3; rw [dstG_eq] at h4
  exact ⟨v, by show rdExtract cf.P m (evalA cf tm) x i = _; unfold rdExtract; rw [h1]; exact h3, h4⟩

noncomputable def loadK1 (cf : Cf) (a : Operand) (dst : Option Tmp) (k : Clo) : Clo := unK cf a dst fun g s => .mk fun rec tm m => onPtr (g tm) fun b off => onCells (m.H.get b) fun n tr _ _ _ => onTrue (Nat.ble (Nat.succ off) n) (onSome (tr.get off) fun v => k.run rec (s tm v) m)
noncomputable def loadKs (cf : Cf) (z : Nat) (a : Operand) (dst : Option Tmp) (k : Clo) : Clo := unK cf a dst fun g s => .mk fun rec tm m => onPtr (g tm) fun b off => onCells (m.H.get b) fun n tr _ _ _ => onTrue (Nat.ble (Nat.add off z) n) (@Option.rec (List AV) (fun _ => Option RS) none (fun l => k.run rec (s tm (.agg l)) m) (tr.take off z))
noncomputable def loadK (cf : Cf) (t : TypeId) (a : Operand) (dst : Option Tmp) (k : Clo) : Clo := match aggA cf.P t with
  | some false => loadK1 cf a dst k
  | some true => match sizeA cf.P t with
    | some z => frc z fun z => loadKs cf z a dst k
    | none => slowK cf (.load t a) dst k
  | none => slowK cf (.load t a) dst k
theorem loadK_ok {t : TypeId} {a : Operand} : OpOk cf (.load t a) dst k (loadK cf t a dst k) := by
  unfold loadK
  split
  · rename_i ha
    refine .read fun rec tm m r hr => ?_
    unfold loadK1 at hr
    rw [unK_eq] at hr
    obtain ⟨b, off, h1, h2⟩ := onPtr_eq hr
    obtain ⟨n, tr, e, o, z, h3, h4⟩ := onCells_eq h2
    obtain ⟨h5, h6⟩ := onTrue_eq h4
    obtain ⟨v, h7, h8⟩ := onSome_eq h6
    rw [opdG_eq] at h1; rw [dstG_eq] at h8
    refine ⟨v, ?_, h8⟩
    show rdLoad cf.P m (evalA cf tm) t a = _
    unfold rdLoad loadA
    rw [h1]; simp only [h3, ha]
    rw [show Nat.blt off n = true from h5]; exact h7
  · rename_i ha
    split
    · rename_i s hs
      rw [frc_eq]
      refine .read fun rec tm m r hr => ?_
      unfold loadKs at hr
      rw [unK_eq] at hr
      obtain ⟨b, off, h1, h2⟩ := onPtr_eq hr
      obtain ⟨n, tr, e, o, z, h3, h4⟩ := onCells_eq h2
      obtain ⟨h5, h6⟩ := onTrue_eq h4
      cases hl : tr.take off s with
      | none => rw [hl] at h6; exact absurd h6 (by simp)
      | some l =>
        rw [hl] at h6
        have h6' : k.run rec (dstG dst tm (.agg l)) m = some r := h6
        rw [opdG_eq] at h1; rw [dstG_eq] at h6'
        refine ⟨.agg l, ?_, h6'⟩
        show rdLoad cf.P m (evalA cf tm) t a = _
        unfold rdLoad loadA
        rw [h1]; simp only [h3, ha, hs, hl]
        rw [show Nat.ble (off + s) n = true from h5]; rfl
    · exact slowK_ok
  · exact slowK_ok
noncomputable def storeK1 (cf : Cf) (a x : Operand) (dst : Option Tmp) (k : Clo) : Clo := biK cf a x dst fun g h s => .mk fun rec tm m => onPtr (g tm) fun b off => onOne (h tm) fun v => onCells (m.H.get b) fun n tr e o z => onTrue (Nat.ble (Nat.succ off) n) (onFalse z (k.run rec (s tm .undef) (m.put b (.cells n (tr.set off (some v)) e o z))))
noncomputable def storeK (cf : Cf) (t : TypeId) (a x : Operand) (dst : Option Tmp) (k : Clo) : Clo := match aggA cf.P t, sizeA cf.P t with
  | some false, some 1 => storeK1 cf a x dst k
  | _, _ => slowK cf (.store t a x) dst k
theorem storeK_ok {t : TypeId} {a x : Operand} : OpOk cf (.store t a x) dst k (storeK cf t a x dst k) := by
  unfold storeK
  split
  · rename_i ha hs
    intro rec tm m r hr
    unfold storeK1 at hr
    rw [biK_eq] at hr
    obtain ⟨b, off, h1, h2⟩ := onPtr_eq hr
    obtain ⟨v, h3, hc, ho, h4⟩ := onOne_eq h2
    obtain ⟨n, tr, e, o, z, h5, h6⟩ := onCells_eq h4
    obtain ⟨h7, h8⟩ := onTrue_eq h6
    obtain ⟨h9, h10⟩ := onFalse_eq h8
    subst h9
    rw [opdG_eq] at h1 h3; rw [dstG_eq] at h10
    refine ⟨_, _, ?_, h10⟩
    unfold opA
    rw [show readA cf.P m (evalA cf tm) (.store t a x) = none from rfl, show allocA cf.P (evalA cf tm) (.store t a x) = none from rfl, show effA cf.P m (evalA cf tm) (.store t a x) = efStore cf.P m (evalA cf tm) t a x from rfl]
    unfold efStore
    rw [h1, h3]
    simp only
    unfold storeA
    simp only [h5, hs, hc, List.length_cons, List.length_nil, Nat.zero_add, List.all_cons, List.all_nil, ho]
    rw [show Nat.ble (off + 1) n = true from h7]
    rfl
  · exact slowK_ok
noncomputable def fieldAddrK (cf : Cf) (s : TypeId) (x : Operand) (f : Nat) (dst : Option Tmp) (k : Clo) : Clo := match cf.P.underlying s with
  | some (.struct fs) => match fs[f]? with
    | some fd => match sizeA cf.P fd.type with
      | some n => bif Nat.beq n 0 then slowK cf (.fieldAddr s x f) dst k else frc fd.offset fun o => unK cf x dst fun g s => .mk fun rec tm m => onPtr (g tm) fun b off => k.run rec (s tm (.ptr b (Nat.add off o))) m
      | none => slowK cf (.fieldAddr s x f) dst k
    | none => slowK cf (.fieldAddr s x f) dst k
  | _ => slowK cf (.fieldAddr s x f) dst k
theorem fieldAddrK_ok {s : TypeId} {x : Operand} {f : Nat} : OpOk cf (.fieldAddr s x f) dst k (fieldAddrK cf s x f dst k) := by
  unfold fieldAddrK
  split
  · rename_i fs hu
    split
    · rename_i fd hf
      split
      · rename_i n hs
        cases h0 : Nat.beq n 0 with
        | true => exact slowK_ok
        | false =>
          simp only [cond_false]
          rw [frc_eq]
          refine .read fun rec tm m r hr => ?_
          rw [unK_eq] at hr
          obtain ⟨b, off, h1, h2⟩ := onPtr_eq hr
          rw [opdG_eq] at h1; rw [dstG_eq] at h2
          refine ⟨_, ?_, h2⟩
          show rdFieldAddr cf.P m (evalA cf tm) s x f = _
          unfold rdFieldAddr
          rw [hu, h1]
          simp only [hf, hs, h0, cond_false]
          rfl
      · exact slowK_ok
    · exact slowK_ok
  · exact slowK_ok
noncomputable def indexAddrK (cf : Cf) (t : TypeId) (x ix : Operand) (dst : Option Tmp) (k : Clo) : Clo := match cf.P.underlying t with
  | some (.slice elem) => match sizeA cf.P elem with
    | some z => frc z fun z => biK cf x ix dst fun g h s => .mk fun rec tm m => onSlice (g tm) fun b off len => onNat (h tm) fun i => onTrue (Nat.ble (Nat.succ i) len) (k.run rec (s tm (.ptr b (Nat.add off (Nat.mul i z)))) m)
    | none => slowK cf (.indexAddr t x ix) dst k
  | some (.array len elem) => match sizeA cf.P elem with
    | some z => frc z fun z => biK cf x ix dst fun g h s => .mk fun rec tm m => onPtr (g tm) fun b off => onNat (h tm) fun i => onTrue (Nat.ble (Nat.succ i) len) (k.run rec (s tm (.ptr b (Nat.add off (Nat.mul i z)))) m)
    | none => slowK cf (.indexAddr t x ix) dst k
  | _ => slowK cf (.indexAddr t x ix) dst k
theorem indexAddrK_ok {t : TypeId} {x ix : Operand} : OpOk cf (.indexAddr t x ix) dst k (indexAddrK cf t x ix dst k) := by
  unfold indexAddrK
  split
  · rename_i elem hu
    split
    · rename_i z hs
      rw [frc_eq]
      refine .read fun rec tm m r hr => ?_
      rw [biK_eq] at hr
      obtain ⟨b, off, len, c, e, h1, h2⟩ := onSlice_eq hr
      obtain ⟨kk, i, h3, h4⟩ := onNat_eq h2
      obtain ⟨h5, h6⟩ := onTrue_eq h4
      rw [opdG_eq] at h1 h3; rw [dstG_eq] at h6
      refine ⟨_, ?_, h6⟩
      show rdIndexAddr cf.P m (evalA cf tm) t x ix = _
      unfold rdIndexAddr
      rw [hu, h1, h3]
      simp only [hs]
      rw [show Nat.blt i len = true from h5]; rfl
    · exact slowK_ok
  · rename_i len elem hu
    split
    · rename_i z hs
      rw [frc_eq]
      refine .read fun rec tm m r hr => ?_
      rw [biK_eq] at hr
      obtain ⟨b, off, h1, h2⟩ := onPtr_eq hr
      obtain ⟨kk, i, h3, h4⟩ := onNat_eq h2
      obtain ⟨h5, h6⟩ := onTrue_eq h4
      rw [opdG_eq] at h1 h3; rw [dstG_eq] at h6
      refine ⟨_, ?_, h6⟩
      show rdIndexAddr cf.P m (evalA cf tm) t x ix = _
      unfold rdIndexAddr
      rw [hu, h1, h3]
      simp only [hs]
      rw [show Nat.blt i len = true from h5]; rfl
    · exact slowK_ok
  · exact slowK_ok
noncomputable def indexK (cf : Cf) (t : TypeId) (x ix : Operand) (dst : Option Tmp) (k : Clo) : Clo := match cf.P.underlying t with
  | some .string => biK cf x ix dst fun g h s => .mk fun rec tm m => onStr (g tm) fun n y => onNat (h tm) fun i => onTrue (Nat.ble (Nat.succ i) n) (k.run rec (s tm (.int .u8 (Int.ofNat (Nat.mod (Nat.div y (Nat.pow 256 i)) 256)))) m)
  | _ => slowK cf (.index t x ix) dst k
theorem indexK_ok {t : TypeId} {x ix : Operand} : OpOk cf (.index t x ix) dst k (indexK cf t x ix dst k) := by
  unfold indexK
  split
  · rename_i hu
    refine .read fun rec tm m r hr => ?_
    rw [biK_eq] at hr
    obtain ⟨n, y, h1, h2⟩ := onStr_eq hr
    obtain ⟨kk, i, h3, h4⟩ := onNat_eq h2
    obtain ⟨h5, h6⟩ := onTrue_eq h4
    rw [opdG_eq] at h1 h3; rw [dstG_eq] at h6
    refine ⟨_, ?_, h6⟩
    show rdIndex cf.P m (evalA cf tm) t x ix = _
    unfold rdIndex
    rw [hu, h1, h3]
    simp only
    rw [show Nat.blt i n = true from h5]; rfl
  · exact slowK_ok
noncomputable def lenK (cf : Cf) (c : Call) (dst : Option Tmp) (k : Clo) : Clo := match c.callee, c.args.toList, c.argTypes.toList with
  | .builtin .len, [x], [t] => match cf.P.underlying t with
    | some .string => unK cf x dst fun g s => .mk fun rec tm m => onStr (g tm) fun n _ => k.run rec (s tm (.int .i64 (Int.ofNat n))) m
    | some (.slice _) => unK cf x dst fun g s => .mk fun rec tm m => onLen (g tm) fun n => k.run rec (s tm (.int .i64 (Int.ofNat n))) m
    | _ => slowK cf (.call c) dst k
  | _, _, _ => slowK cf (.call c) dst k
theorem lenK_ok {c : Call} : OpOk cf (.call c) dst k (lenK cf c dst k) := by
  unfold lenK
  split
  · rename_i x t hc ha ht
    have hread : ∀ m ev, readA cf.P m ev (.call c) = rdLen cf.P m ev c.args c.argTypes := fun m ev => by
      show rdCall cf.P m ev c = _
      unfold rdCall; rw [hc]
    split
    · rename_i hu
      refine .read fun rec tm m r hr => ?_
      rw [unK_eq] at hr
      obtain ⟨n, y, h1, h2⟩ := onStr_eq hr
      rw [opdG_eq] at h1; rw [dstG_eq] at h2
      refine ⟨_, ?_, h2⟩
      rw [hread]; unfold rdLen; rw [ha, ht]; simp only [evals, h1, hu]; rfl
    · rename_i el hu
      refine .read fun rec tm m r hr => ?_
      rw [unK_eq] at hr
      rw [Clo.run_mk] at hr
      rcases onLen_eq hr with ⟨h1, h2⟩ | ⟨b, o, l, cc, e, h1, h2⟩ | ⟨b, h1, h2⟩ <;> rw [opdG_eq] at h1 <;> rw [dstG_eq] at h2 <;> refine ⟨_, ?_, h2⟩ <;> rw [hread] <;> unfold rdLen <;> rw [ha, ht] <;> simp only [evals, h1, hu] <;> rfl
    · exact slowK_ok
  · exact slowK_ok
noncomputable def allocK (cf : Cf) (e : TypeId) (dst : Option Tmp) (k : Clo) : Clo := match zeroA cf.P e with
  | some z => dstC dst fun s => .mk fun rec tm m => frc m.next fun id => k.run rec (s tm (.ptr id 0)) ⟨m.H.set id (some (cellsObj z.cells e false)), Nat.succ id⟩
  | none => slowK cf (.alloc e) dst k
theorem allocK_ok {e : TypeId} : OpOk cf (.alloc e) dst k (allocK cf e dst k) := by
  unfold allocK
  split
  · rename_i z hz
    rw [dstC_eq]
    intro rec tm m r hr
    rw [Clo.run_mk, frc_eq, dstG_eq] at hr
    refine ⟨_, _, ?_, hr⟩
    unfold opA
    rw [show readA cf.P m (evalA cf tm) (.alloc e) = none from rfl]
    unfold allocA
    simp only [hz]; rfl
  · exact slowK_ok
noncomputable def boxK (cf : Cf) (e : TypeId) (x : Operand) (dst : Option Tmp) (k : Clo) : Clo := unK cf x dst fun g s => .mk fun rec tm m => onSome (g tm) fun v => frc m.next fun id => k.run rec (s tm (.ptr id 0)) ⟨m.H.set id (some (cellsObj v.cells e false)), Nat.succ id⟩
theorem boxK_ok {e : TypeId} {x : Operand} : OpOk cf (.box e x) dst k (boxK cf e x dst k) := by
  unfold boxK
  rw [unK_eq]
  intro rec tm m r hr
  obtain ⟨v, h1, h2⟩ := onSome_eq hr
  rw [frc_eq, dstG_eq] at h2
  rw [opdG_eq] at h1
  refine ⟨_, _, ?_, h2⟩
  unfold opA
  rw [show readA cf.P m (evalA cf tm) (.box e x) = none from rfl]
  unfold allocA
  simp only [h1]; rfl


/-! ### Numbers -/
noncomputable def kindEq (j k : IntKind) : Bool := @IntKind.rec (fun _ => Bool) (@IntKind.rec (fun _ => Bool) true false false false false false false false k) (@IntKind.rec (fun _ => Bool) false true false false false false false false k) (@IntKind.rec (fun _ => Bool) false false true false false false false false k) (@IntKind.rec (fun _ => Bool) false false false true false false false false k) (@IntKind.rec (fun _ => Bool) false false false false true false false false k) (@IntKind.rec (fun _ => Bool) false false false false false true false false k) (@IntKind.rec (fun _ => Bool) false false false false false false true false k) (@IntKind.rec (fun _ => Bool) false false false false false false false true k) j
theorem kindEq_eq {j k : IntKind} (h : kindEq j k = true) : j = k := by
  cases j <;> cases k <;> first | rfl | exact absurd h (by simp [kindEq])
noncomputable def limK (k : IntKind) : Nat := @IntKind.rec (fun _ => Nat) 127 32767 2147483647 9223372036854775807 255 65535 4294967295 18446744073709551615 k
theorem wrap_small {k : IntKind} {n : Nat} (h : n ≤ limK k) : k.wrap (n : Int) = n := by
  cases k <;> simp [limK] at h <;> simp [IntKind.wrap, IntKind.bits, IntKind.signed] <;> omega
noncomputable def wrapI (k : IntKind) (a : Int) : Int := @Int.rec (fun _ => Int) (fun n => @Bool.rec (fun _ => Int) (k.wrap (Int.ofNat n)) (Int.ofNat n) (Nat.ble n (limK k))) (fun n => k.wrap (Int.negSucc n)) a
theorem wrapI_eq (k : IntKind) (a : Int) : wrapI k a = k.wrap a := by
  cases a with
  | ofNat n =>
    unfold wrapI
    cases h : Nat.ble n (limK k) with
    | false => simp only [h]
    | true => simp only [h]; exact (wrap_small (Nat.le_of_ble_eq_true h)).symm
  | negSucc n => rfl
/-- Of two numbers that are not below nought one thing, of others another. -/
noncomputable def onNats {β : Type} (a b : Int) (f : Nat → Nat → β) (d : β) : β := @Int.rec (fun _ => β) (fun m => @Int.rec (fun _ => β) (fun n => f m n) (fun _ => d) b) (fun _ => d) a
theorem onNats_eq {β : Type} {a b : Int} {f : Nat → Nat → β} {d z : β} (h1 : ∀ m n : Nat, a = m → b = n → f m n = z) (h2 : d = z) : onNats a b f d = z := by
  cases a with
  | ofNat m => cases b with
    | ofNat n => exact h1 m n rfl rfl
    | negSucc n => exact h2
  | negSucc m => exact h2
noncomputable def addI (k : IntKind) (a b : Int) : Int := onNats a b (fun m n => wrapI k (Int.ofNat (Nat.add m n))) (k.wrap (Int.add a b))
theorem addI_eq (k : IntKind) (a b : Int) : addI k a b = k.wrap (a + b) := onNats_eq (fun m n h1 h2 => by rw [wrapI_eq, h1, h2]; rfl) rfl
noncomputable def mulI (k : IntKind) (a b : Int) : Int := onNats a b (fun m n => wrapI k (Int.ofNat (Nat.mul m n))) (k.wrap (Int.mul a b))
theorem mulI_eq (k : IntKind) (a b : Int) : mulI k a b = k.wrap (a * b) := onNats_eq (fun m n h1 h2 => by rw [wrapI_eq, h1, h2]; rfl) rfl
noncomputable def subI (k : IntKind) (a b : Int) : Int := onNats a b (fun m n => @Bool.rec (fun _ => Int) (k.wrap (Int.sub a b)) (wrapI k (Int.ofNat (Nat.sub m n))) (Nat.ble n m)) (k.wrap (Int.sub a b))
theorem subI_eq (k : IntKind) (a b : Int) : subI k a b = k.wrap (a - b) := onNats_eq (fun m n h1 h2 => by
  cases h : Nat.ble n m with
  | false => rfl
  | true =>
    have h3 := Nat.le_of_ble_eq_true h
    show wrapI k (Int.ofNat (m - n)) = _
    rw [wrapI_eq, h1, h2]
    congr 1
    show ((m - n : Nat) : Int) = _
    omega) rfl
noncomputable def ltI (a b : Int) : Bool := @Int.rec (fun _ => Bool) (fun m => @Int.rec (fun _ => Bool) (fun n => Nat.ble (Nat.succ m) n) (fun _ => false) b) (fun m => @Int.rec (fun _ => Bool) (fun _ => true) (fun n => Nat.ble (Nat.succ n) m) b) a
theorem ltI_eq (a b : Int) : ltI a b = decide (a < b) := by
  have e : ∀ n m : Nat, Nat.ble (Nat.succ n) m = decide (n < m) := fun n m => by
    by_cases h : n < m
    · rw [decide_eq_true h]; exact ble_lt h
    · rw [decide_eq_false h]; exact ble_ge h
  cases a with
  | ofNat m => cases b with
    | ofNat n => show Nat.ble _ _ = _; rw [e]; congr 1; exact propext (by show m < n ↔ (m : Int) < (n : Int); omega)
    | negSucc n => show false = _; exact (decide_eq_false (by show ¬ (m : Int) < Int.negSucc n; omega)).symm
  | negSucc m => cases b with
    | ofNat n => show true = _; exact (decide_eq_true (by show Int.negSucc m < (n : Int); omega)).symm
    | negSucc n => show Nat.ble _ _ = _; rw [e]; congr 1; exact propext (by omega)
noncomputable def eqI (a b : Int) : Bool := @Int.rec (fun _ => Bool) (fun m => @Int.rec (fun _ => Bool) (fun n => Nat.beq m n) (fun _ => false) b) (fun m => @Int.rec (fun _ => Bool) (fun _ => false) (fun n => Nat.beq m n) b) a
theorem eqI_eq (a b : Int) : eqI a b = (a == b) := by
  have e : ∀ n m : Nat, Nat.beq n m = decide (n = m) := fun n m => by
    by_cases h : n = m
    · rw [decide_eq_true h, h]; exact Nat.beq_refl _
    · rw [decide_eq_false h]; exact nbeq h
  have g : (a == b) = decide (a = b) := by
    by_cases h : a = b
    · rw [decide_eq_true h, h]; exact beq_self_eq_true _
    · rw [decide_eq_false h]; exact beq_eq_false_iff_ne.2 h
  rw [g]
  cases a with
  | ofNat m => cases b with
    | ofNat n => show Nat.beq _ _ = _; rw [e]; congr 1; exact propext (by show m = n ↔ (m : Int) = (n : Int); omega)
    | negSucc n => show false = _; exact (decide_eq_false (by show ¬ (m : Int) = Int.negSucc n; omega)).symm
  | negSucc m => cases b with
    | ofNat n => show false = _; exact (decide_eq_false (by show ¬ Int.negSucc m = (n : Int); omega)).symm
    | negSucc n => show Nat.beq _ _ = _; rw [e]; congr 1; exact propext (by omega)
noncomputable def notB (b : Bool) : Bool := @Bool.rec (fun _ => Bool) true false b
/-- What a number and a number come to. -/
noncomputable def fastI : BinOp → Option (IntKind → Int → Int → AV)
  | .add => some fun k a b => .int k (addI k a b)
  | .sub => some fun k a b => .int k (subI k a b)
  | .mul => some fun k a b => .int k (mulI k a b)
  | .eql => some fun k a b => .bool (eqI a b)
  | .neq => some fun k a b => .bool (notB (eqI a b))
  | .lss => some fun k a b => .bool (ltI a b)
  | .leq => some fun k a b => .bool (notB (ltI b a))
  | .gtr => some fun k a b => .bool (ltI b a)
  | .geq => some fun k a b => .bool (notB (ltI a b))
  | _ => none
theorem fastI_eq {op : BinOp} {f : IntKind → Int → Int → AV} (h : fastI op = some f) (k : IntKind) (a b : Int) : binInt op k a b = some (f k a b) := by
  have hn : ∀ x : Bool, notB x = !x := fun x => by cases x <;> rfl
  cases op <;> first | (simp [fastI] at h; done) | (simp only [fastI, Option.some.injEq] at h; subst h; simp only [binInt, addI_eq, subI_eq, mulI_eq, eqI_eq, ltI_eq, hn, bne])
  · simp only [Option.some.injEq, AV.bool.injEq]
    by_cases h : b < a
    · rw [decide_eq_true h, decide_eq_false (by omega)]; rfl
    · rw [decide_eq_false h, decide_eq_true (by omega)]; rfl
  · simp only [Option.some.injEq, AV.bool.injEq]
    by_cases h : a < b
    · rw [decide_eq_true h, decide_eq_false (by omega)]; rfl
    · rw [decide_eq_false h, decide_eq_true (by omega)]; rfl
noncomputable def fastS : BinOp → Option (Nat → Nat → Nat → Nat → AV)
  | .eql => some fun n x m y => .bool (@Bool.rec (fun _ => Bool) false (Nat.beq x y) (Nat.beq n m))
  | .neq => some fun n x m y => .bool (@Bool.rec (fun _ => Bool) true (notB (Nat.beq x y)) (Nat.beq n m))
  | _ => none
theorem fastS_eq {op : BinOp} {f : Nat → Nat → Nat → Nat → AV} (h : fastS op = some f) (n x m y : Nat) : binStr op n x m y = some (f n x m y) := by
  cases op <;> first | (simp [fastS] at h; done) | (simp only [fastS, Option.some.injEq] at h; subst h; simp only [binStr]; cases Nat.beq n m <;> cases Nat.beq x y <;> rfl)
noncomputable def isShift : BinOp → Bool
  | .shl | .shr => true
  | _ => false
theorem binA_int {P : Program} {op : BinOp} {t : TypeId} {xc yc : Bool} {k : IntKind} {a b : Int} {v : AV} (h : binInt op k a b = some v) (hs : isShift op = false) : binA P op t xc yc (.int k a) (.int k b) = some v := by
  cases op <;> first | (simp [isShift] at hs; done) | (simp only [binA, if_true]; exact h) | (simp [binInt] at h; done)
theorem binA_str {P : Program} {op : BinOp} {t : TypeId} {xc yc : Bool} {n x m y : Nat} {v : AV} (h : binStr op n x m y = some v) : binA P op t xc yc (.str n x) (.str m y) = some v := by
  cases op <;> first | (simp [binStr] at h; done) | exact h
noncomputable def binK (cf : Cf) (op : BinOp) (t : TypeId) (x y : Operand) (u : TypeId) (dst : Option Tmp) (k : Clo) : Clo := match cf.P.underlying t with
  | some (.int _) => match fastI op, isShift op with
    | some f, false => biK cf x y dst fun g h s => .mk fun rec tm m => onInt (g tm) fun j a => onInt (h tm) fun j' b => onTrue (kindEq j j') (k.run rec (s tm (f j a b)) m)
    | _, _ => slowK cf (.binOp op t x y u) dst k
  | some .string => match fastS op with
    | some f => biK cf x y dst fun g h s => .mk fun rec tm m => onStr (g tm) fun n a => onStr (h tm) fun n' b => k.run rec (s tm (f n a n' b)) m
    | none => slowK cf (.binOp op t x y u) dst k
  | _ => slowK cf (.binOp op t x y u) dst k
theorem binK_ok {op : BinOp} {t : TypeId} {x y : Operand} {u : TypeId} : OpOk cf (.binOp op t x y u) dst k (binK cf op t x y u dst k) := by
  unfold binK
  split
  · split
    · rename_i f hf hs
      refine .read fun rec tm m r hr => ?_
      rw [biK_eq] at hr
      obtain ⟨j, a, h1, h2⟩ := onInt_eq hr
      obtain ⟨j', b, h3, h4⟩ := onInt_eq h2
      obtain ⟨h5, h6⟩ := onTrue_eq h4
      have h5' := kindEq_eq h5
      subst h5'
      rw [opdG_eq] at h1 h3; rw [dstG_eq] at h6
      refine ⟨_, ?_, h6⟩
      show rdBin cf.P m (evalA cf tm) op t x y = _
      unfold rdBin
      rw [h1, h3]
      exact binA_int (fastI_eq hf _ _ _) hs
    · exact slowK_ok
  · split
    · rename_i f hf
      refine .read fun rec tm m r hr => ?_
      rw [biK_eq] at hr
      obtain ⟨n, a, h1, h2⟩ := onStr_eq hr
      obtain ⟨n', b, h3, h4⟩ := onStr_eq h2
      rw [opdG_eq] at h1 h3; rw [dstG_eq] at h4
      refine ⟨_, ?_, h4⟩
      show rdBin cf.P m (evalA cf tm) op t x y = _
      unfold rdBin
      rw [h1, h3]
      exact binA_str (fastS_eq hf _ _ _ _)
    · exact slowK_ok
  · exact slowK_ok

/-! ### Calls -/
noncomputable def argsC (cf : Cf) (l : List Operand) : ((PT AV → (List AV → Option RS) → Option RS) → Clo) → Clo :=
  @List.rec Operand (fun _ => ((PT AV → (List AV → Option RS) → Option RS) → Clo) → Clo) (fun kont => kont fun _ f => f []) (fun x _ ih kont => opdC cf x fun g => ih fun G => kont fun tm f => onSome (g tm) fun a => G tm fun as => f (a :: as)) l
noncomputable def argsG (cf : Cf) (l : List Operand) : PT AV → (List AV → Option RS) → Option RS :=
  @List.rec Operand (fun _ => PT AV → (List AV → Option RS) → Option RS) (fun _ f => f []) (fun x _ ih tm f => onSome (opdG cf x tm) fun a => ih tm fun as => f (a :: as)) l
theorem argsC_eq (l : List Operand) : ∀ kont, argsC cf l kont = kont (argsG cf l) := by
  induction l with
  | nil => intro kont; rfl
  | cons x l ih =>
    intro kont
    show (opdC cf x fun g => argsC cf l fun G => kont fun tm f => onSome (g tm) fun a => G tm fun as => f (a :: as)) = _
    rw [opdC_eq, ih]; rfl
theorem argsG_eq {tm : PT AV} {r : RS} : ∀ {l : List Operand} {f : List AV → Option RS}, argsG cf l tm f = some r → ∃ as, evals (evalA cf tm) l = some as ∧ f as = some r
  | [], f, h => ⟨[], rfl, h⟩
  | x :: l, f, h => by
    obtain ⟨a, h1, h2⟩ := onSome_eq h
    obtain ⟨as, h3, h4⟩ := argsG_eq h2
    rw [opdG_eq] at h1
    exact ⟨a :: as, by simp only [evals, h1, h3], h4⟩
noncomputable def callK (cf : Cf) (c : Call) (dst : Option Tmp) (k : Clo) : Clo := match c.callee with
  | .value (.func f) => match cf.hd f with
    | some h => argsC cf c.args.toList fun G => dstC dst fun s => .mk fun rec tm m => G tm fun as => onPair (h as m) fun v m => k.run rec (s tm v) m
    | none => argsC cf c.args.toList fun G => dstC dst fun s => .mk fun rec tm m => G tm fun as => onPair (bodyA cf rec f as m) fun v m => k.run rec (s tm v) m
  | .builtin .len => lenK cf c dst k
  | _ => slowK cf (.call c) dst k
theorem opA_call {rec : Rec} {tm : PT AV} {m : Mem} {c : Call} {f : FuncId} {as : List AV} (hc : c.callee = .value (.func f)) (ha : evals (evalA cf tm) c.args.toList = some as) : opA cf rec (evalA cf tm) (.call c) m = callA cf rec f as m := by
  have h1 : readA cf.P m (evalA cf tm) (.call c) = none := by show rdCall cf.P m (evalA cf tm) c = _; unfold rdCall; rw [hc]
  have h2 : effA cf.P m (evalA cf tm) (.call c) = none := by show efCall cf.P m (evalA cf tm) c = _; unfold efCall; rw [hc]
  have h3 : goalA cf.P (evalA cf tm) c = some (.fn f as) := by
    unfold goalA
    rw [hc, ha]
    simp only [evalA, List.nil_append, List.append_nil]
  unfold opA
  rw [h1, h2]
  simp only [allocA, h3, goalRun]
theorem callK_ok {c : Call} : OpOk cf (.call c) dst k (callK cf c dst k) := by
  unfold callK
  split
  · rename_i f hc
    split
    · rename_i h hh
      rw [argsC_eq, dstC_eq]
      intro rec tm m r hr
      obtain ⟨as, h1, h2⟩ := argsG_eq hr
      obtain ⟨v, m', h3, h4⟩ := onPair_eq h2
      rw [dstG_eq] at h4
      exact ⟨v, m', by rw [opA_call hc h1]; unfold callA; rw [hh]; exact h3, h4⟩
    · rename_i hh
      rw [argsC_eq, dstC_eq]
      intro rec tm m r hr
      obtain ⟨as, h1, h2⟩ := argsG_eq hr
      obtain ⟨v, m', h3, h4⟩ := onPair_eq h2
      rw [dstG_eq] at h4
      exact ⟨v, m', by rw [opA_call hc h1]; unfold callA; rw [hh]; exact h3, h4⟩
  · exact lenK_ok
  · exact slowK_ok

/-! ### All operations, and rows of them -/
noncomputable def opK (cf : Cf) (op : Op) (dst : Option Tmp) (k : Clo) : Clo := match op with
  | .move x => moveK cf x dst k
  | .assign x => moveK cf x dst k
  | .pick c a b => pickK cf c a b dst k
  | .nilCheck x => nilK cf x dst k
  | .unOp .not t x => notK cf x dst k
  | .extract x i => extractK cf x i dst k
  | .load t a => loadK cf t a dst k
  | .store t a x => storeK cf t a x dst k
  | .fieldAddr s x f => fieldAddrK cf s x f dst k
  | .indexAddr t x ix => indexAddrK cf t x ix dst k
  | .index t x ix => indexK cf t x ix dst k
  | .alloc e => allocK cf e dst k
  | .box e x => boxK cf e x dst k
  | .binOp op t x y u => binK cf op t x y u dst k
  | .call c => callK cf c dst k
  | op => slowK cf op dst k
theorem opK_ok : OpOk cf op dst k (opK cf op dst k) := by
  unfold opK
  split
  · exact moveK_ok fun _ _ _ => rfl
  · exact moveK_ok fun _ _ _ => rfl
  · exact pickK_ok
  · exact nilK_ok
  · exact notK_ok
  · exact extractK_ok
  · exact loadK_ok
  · exact storeK_ok
  · exact fieldAddrK_ok
  · exact indexAddrK_ok
  · exact indexK_ok
  · exact allocK_ok
  · exact boxK_ok
  · exact binK_ok
  · exact callK_ok
  · exact slowK_ok
/-- An operation with its guard. -/
noncomputable def operK (cf : Cf) (ops : Array Oper) (N : Nat) (o : Oper) (k : Clo) : Clo := bif dstOk N o.dst then (match o.guard with
  | none => opK cf o.op o.dst k
  | some (j, want) => match ops[j]? with
    | none => dstC o.dst fun s => .mk fun rec tm m => k.run rec (s tm .undef) m
    | some g => match g.dst with
      | none => dstC o.dst fun s => .mk fun rec tm m => k.run rec (s tm .undef) m
      | some d => .mk fun rec tm m => match guardA ops tm o with
        | some true => (opK cf o.op o.dst k).run rec tm m
        | some false => k.run rec (putA tm o.dst .undef) m
        | none => none) else .mk fun _ _ _ => none
theorem operK_ok {ops : Array Oper} {N : Nat} {o : Oper} {l : List Oper} (hk : ∀ rec tm m r, k.run rec tm m = some r → seqA cf rec ops N l tm m = some r) : ∀ rec tm m r, (operK cf ops N o k).run rec tm m = some r → seqA cf rec ops N (o :: l) tm m = some r := by
  intro rec tm m r hr
  unfold operK at hr
  cases hd : dstOk N o.dst with
  | false => rw [hd] at hr; exact absurd hr (by simp [Clo.run])
  | true =>
  rw [hd] at hr
  simp only [cond_true] at hr
  have op : guardA ops tm o = some true → (opK cf o.op o.dst k).run rec tm m = some r → seqA cf rec ops N (o :: l) tm m = some r := fun hg h => by
    obtain ⟨v, m', h1, h2⟩ := opK_ok rec tm m r h
    simp only [seqA, hd, cond_true, hg, h1]
    exact hk _ _ _ _ h2
  have no : guardA ops tm o = some false → k.run rec (putA tm o.dst .undef) m = some r → seqA cf rec ops N (o :: l) tm m = some r := fun hg h => by
    simp only [seqA, hd, cond_true, hg]
    exact hk _ _ _ _ h
  split at hr
  · rename_i hg
    exact op (by unfold guardA; rw [hg]) hr
  · rename_i j want hg
    split at hr
    · rename_i hj
      rw [dstC_eq, Clo.run_mk, dstG_eq] at hr
      exact no (by unfold guardA; rw [hg]; simp only [hj]) hr
    · rename_i g hj
      split at hr
      · rename_i hgd
        rw [dstC_eq, Clo.run_mk, dstG_eq] at hr
        exact no (by unfold guardA; rw [hg]; simp only [hj, hgd]) hr
      · rw [Clo.run_mk] at hr
        split at hr
        · rename_i h; exact op h hr
        · rename_i h; exact no h hr
        · cases hr
noncomputable def seqC (cf : Cf) (ops : Array Oper) (N : Nat) (l : List Oper) : Clo := @List.rec Oper (fun _ => Clo) (.mk fun _ tm m => some (tm, m)) (fun o _ ih => operK cf ops N o ih) l
theorem seqC_ok {ops : Array Oper} {N : Nat} : ∀ {l : List Oper} {rec : Rec} {tm : PT AV} {m : Mem} {r : RS}, (seqC cf ops N l).run rec tm m = some r → seqA cf rec ops N l tm m = some r
  | [], rec, tm, m, r, h => h
  | o :: l, rec, tm, m, r, h => operK_ok (fun rec tm m r h => seqC_ok h) rec tm m r h
end Go.Proofs.YtijnlbpeckoofaaGreat
