/- A machine that runs closed calls: regions of open orders made ready beforehand. -/
import Derived.Test.YtijnlbpeckoofaaGreatEngKa
set_option linter.unusedVariables false
set_option linter.unusedSimpArgs false
namespace Go.Proofs.YtijnlbpeckoofaaGreat

/-! ### What is read -/
noncomputable def ovSome (x : Option AV) (f : AV → Option AV) : Option AV := @Option.rec AV (fun _ => Option AV) none f x
theorem ovSome_eq {x : Option AV} {f : AV → Option AV} {r : AV} (h : ovSome x f = some r) : ∃ v, x = some v ∧ f v = some r := by
  cases x with
  | none => exact absurd h (by simp [ovSome])
  | some v => exact ⟨v, rfl, h⟩
noncomputable def ovTrue (b : Bool) (x : Option AV) : Option AV := @Bool.rec (fun _ => Option AV) none x b
theorem ovTrue_eq {b : Bool} {x : Option AV} {r : AV} (h : ovTrue b x = some r) : b = true ∧ x = some r := by
  cases b with
  | false => exact absurd h (by simp [ovTrue])
  | true => exact ⟨rfl, h⟩
noncomputable def ovPtr (x : Option AV) (f : Nat → Nat → Option AV) : Option AV := @Option.rec AV (fun _ => Option AV) none (fun v => @AV.rec (fun _ => Option AV) (fun _ => Option AV) (fun _ => none) (fun _ _ => none) (fun _ _ => none) none f none (fun _ _ _ _ _ => none) none (fun _ => none) (fun _ _ _ _ _ => none) none (fun _ _ _ => none) none (fun _ _ => none) (fun _ _ => none) (fun _ => none) none (fun _ _ _ _ => none) v) x
theorem ovPtr_eq {x : Option AV} {f : Nat → Nat → Option AV} {r : AV} (h : ovPtr x f = some r) : ∃ b o, x = some (.ptr b o) ∧ f b o = some r := by
  cases x with
  | none => exact absurd h (by simp [ovPtr])
  | some v => cases v <;> first | exact ⟨_, _, rfl, h⟩ | exact absurd h (by simp [ovPtr])
noncomputable def ovInt (x : Option AV) (f : IntKind → Int → Option AV) : Option AV := @Option.rec AV (fun _ => Option AV) none (fun v => @AV.rec (fun _ => Option AV) (fun _ => Option AV) (fun _ => none) f (fun _ _ => none) none (fun _ _ => none) none (fun _ _ _ _ _ => none) none (fun _ => none) (fun _ _ _ _ _ => none) none (fun _ _ _ => none) none (fun _ _ => none) (fun _ _ => none) (fun _ => none) none (fun _ _ _ _ => none) v) x
theorem ovInt_eq {x : Option AV} {f : IntKind → Int → Option AV} {r : AV} (h : ovInt x f = some r) : ∃ k n, x = some (.int k n) ∧ f k n = some r := by
  cases x with
  | none => exact absurd h (by simp [ovInt])
  | some v => cases v <;> first | exact ⟨_, _, rfl, h⟩ | exact absurd h (by simp [ovInt])
noncomputable def ovStr (x : Option AV) (f : Nat → Nat → Option AV) : Option AV := @Option.rec AV (fun _ => Option AV) none (fun v => @AV.rec (fun _ => Option AV) (fun _ => Option AV) (fun _ => none) (fun _ _ => none) f none (fun _ _ => none) none (fun _ _ _ _ _ => none) none (fun _ => none) (fun _ _ _ _ _ => none) none (fun _ _ _ => none) none (fun _ _ => none) (fun _ _ => none) (fun _ => none) none (fun _ _ _ _ => none) v) x
theorem ovStr_eq {x : Option AV} {f : Nat → Nat → Option AV} {r : AV} (h : ovStr x f = some r) : ∃ n y, x = some (.str n y) ∧ f n y = some r := by
  cases x with
  | none => exact absurd h (by simp [ovStr])
  | some v => cases v <;> first | exact ⟨_, _, rfl, h⟩ | exact absurd h (by simp [ovStr])
noncomputable def ovSlice (x : Option AV) (f : Nat → Nat → Nat → Option AV) : Option AV := @Option.rec AV (fun _ => Option AV) none (fun v => @AV.rec (fun _ => Option AV) (fun _ => Option AV) (fun _ => none) (fun _ _ => none) (fun _ _ => none) none (fun _ _ => none) none (fun b off len _ _ => f b off len) none (fun _ => none) (fun _ _ _ _ _ => none) none (fun _ _ _ => none) none (fun _ _ => none) (fun _ _ => none) (fun _ => none) none (fun _ _ _ _ => none) v) x
theorem ovSlice_eq {x : Option AV} {f : Nat → Nat → Nat → Option AV} {r : AV} (h : ovSlice x f = some r) : ∃ b o l c e, x = some (.slice b o l c e) ∧ f b o l = some r := by
  cases x with
  | none => exact absurd h (by simp [ovSlice])
  | some v => cases v <;> first | exact ⟨_, _, _, _, _, rfl, h⟩ | exact absurd h (by simp [ovSlice])
noncomputable def ovTuple (x : Option AV) (f : List AV → Option AV) : Option AV := @Option.rec AV (fun _ => Option AV) none (fun v => @AV.rec (fun _ => Option AV) (fun _ => Option AV) (fun _ => none) (fun _ _ => none) (fun _ _ => none) none (fun _ _ => none) none (fun _ _ _ _ _ => none) none (fun _ => none) (fun _ _ _ _ _ => none) none (fun _ _ _ => none) none (fun _ _ => none) (fun l _ => f l) (fun _ => none) none (fun _ _ _ _ => none) v) x
theorem ovTuple_eq {x : Option AV} {f : List AV → Option AV} {r : AV} (h : ovTuple x f = some r) : ∃ l, x = some (.tuple l) ∧ f l = some r := by
  cases x with
  | none => exact absurd h (by simp [ovTuple])
  | some v => cases v <;> first | exact ⟨_, rfl, h⟩ | exact absurd h (by simp [ovTuple])
noncomputable def ovNat (x : Option AV) (f : Nat → Option AV) : Option AV := @Option.rec AV (fun _ => Option AV) none (fun v => @AV.rec (fun _ => Option AV) (fun _ => Option AV) (fun _ => none) (fun _ n => @Int.rec (fun _ => Option AV) f (fun _ => none) n) (fun _ _ => none) none (fun _ _ => none) none (fun _ _ _ _ _ => none) none (fun _ => none) (fun _ _ _ _ _ => none) none (fun _ _ _ => none) none (fun _ _ => none) (fun _ _ => none) (fun _ => none) none (fun _ _ _ _ => none) v) x
theorem ovNat_eq {x : Option AV} {f : Nat → Option AV} {r : AV} (h : ovNat x f = some r) : ∃ k n, x = some (.int k (.ofNat n)) ∧ f n = some r := by
  cases x with
  | none => exact absurd h (by simp [ovNat])
  | some v => cases v with
    | int k n => cases n with
      | ofNat n => exact ⟨_, _, rfl, h⟩
      | negSucc n => exact absurd h (by simp [ovNat])
    | _ => exact absurd h (by simp [ovNat])
noncomputable def ovBool (x : Option AV) (t e : Option AV) : Option AV := @Option.rec AV (fun _ => Option AV) none (fun v => @AV.rec (fun _ => Option AV) (fun _ => Option AV) (fun b => @Bool.rec (fun _ => Option AV) e t b) (fun _ _ => none) (fun _ _ => none) none (fun _ _ => none) none (fun _ _ _ _ _ => none) none (fun _ => none) (fun _ _ _ _ _ => none) none (fun _ _ _ => none) none (fun _ _ => none) (fun _ _ => none) (fun _ => none) none (fun _ _ _ _ => none) v) x
theorem ovBool_eq {x : Option AV} {t e : Option AV} {r : AV} (h : ovBool x t e = some r) : (x = some (.bool true) ∧ t = some r) ∨ (x = some (.bool false) ∧ e = some r) := by
  cases x with
  | none => exact absurd h (by simp [ovBool])
  | some v => cases v with
    | bool b => cases b with
      | true => exact .inl ⟨rfl, h⟩
      | false => exact .inr ⟨rfl, h⟩
    | _ => exact absurd h (by simp [ovBool])
noncomputable def ovNil (x : Option AV) : Option AV := @Option.rec AV (fun _ => Option AV) none (fun v => @AV.rec (fun _ => Option AV) (fun _ => Option AV) (fun _ => none) (fun _ _ => none) (fun _ _ => none) none (fun _ _ => some v) none (fun _ _ _ _ _ => none) none (fun _ => none) (fun _ _ _ _ _ => none) none (fun _ _ _ => some v) none (fun _ _ => none) (fun _ _ => none) (fun _ => none) none (fun _ _ _ _ => none) v) x
theorem ovNil_eq {x : Option AV} {r : AV} (h : ovNil x = some r) : x = some r ∧ ((∃ b o, r = .ptr b o) ∨ (∃ t v, r = .iface t v)) := by
  cases x with
  | none => exact absurd h (by simp [ovNil])
  | some v => cases v with
    | ptr b o => cases h; exact ⟨rfl, .inl ⟨_, _, rfl⟩⟩
    | iface t v => cases h; exact ⟨rfl, .inr ⟨_, _, rfl⟩⟩
    | _ => exact absurd h (by simp [ovNil])
noncomputable def ovLen (x : Option AV) (f : Nat → Option AV) : Option AV := @Option.rec AV (fun _ => Option AV) none (fun v => @AV.rec (fun _ => Option AV) (fun _ => Option AV) (fun _ => none) (fun _ _ => none) (fun _ _ => none) none (fun _ _ => none) (f 0) (fun _ _ len _ _ => f len) none (fun _ => none) (fun _ _ _ _ _ => none) none (fun _ _ _ => none) none (fun _ _ => none) (fun _ _ => none) (fun _ => f 0) none (fun _ _ _ _ => none) v) x
theorem ovLen_eq {x : Option AV} {f : Nat → Option AV} {r : AV} (h : ovLen x f = some r) : (x = some .nilslice ∧ f 0 = some r) ∨ (∃ b o l c e, x = some (.slice b o l c e) ∧ f l = some r) ∨ (∃ b, x = some (.hollow b) ∧ f 0 = some r) := by
  cases x with
  | none => exact absurd h (by simp [ovLen])
  | some v => cases v <;> first | exact .inl ⟨rfl, h⟩ | exact .inr (.inl ⟨_, _, _, _, _, rfl, h⟩) | exact .inr (.inr ⟨_, rfl, h⟩) | exact absurd h (by simp [ovLen])
noncomputable def ovCells (x : Option AObj) (f : Nat → PT AV → Option AV) : Option AV :=
  @Option.rec AObj (fun _ => Option AV) none (fun o => @AObj.rec (fun _ => Option AV) (fun n t _ _ _ => f n t) (fun _ _ => none) (fun _ _ _ _ => none) none (fun _ _ _ => none) (fun _ _ _ _ _ _ _ _ => none) (fun _ => none) o) x
theorem ovCells_eq {x : Option AObj} {f : Nat → PT AV → Option AV} {r : AV} (h : ovCells x f = some r) : ∃ n t e o z, x = some (.cells n t e o z) ∧ f n t = some r := by
  cases x with
  | none => exact absurd h (by simp [ovCells])
  | some v => cases v <;> first | exact ⟨_, _, _, _, _, rfl, h⟩ | exact absurd h (by simp [ovCells])
inductive Rd where
  | mk (f : PT AV → Mem → Option AV)
noncomputable def Rd.run (c : Rd) (tm : PT AV) (m : Mem) : Option AV := @Rd.rec (fun _ => Option AV) (fun f => f tm m) c
theorem Rd.run_mk (f : PT AV → Mem → Option AV) (tm : PT AV) (m : Mem) : (Rd.mk f).run tm m = f tm m := rfl
variable {cf : Cf} {op : Op}
def RdOk (cf : Cf) (op : Op) (c : Rd) : Prop := ∀ tm m v, c.run tm m = some v → readA cf.P m (evalA cf tm) op = some v
noncomputable def slowR (cf : Cf) (op : Op) : Rd := .mk fun tm m => readA cf.P m (evalA cf tm) op
theorem slowR_ok : RdOk cf op (slowR cf op) := fun _ _ _ h => h
noncomputable def rdC (cf : Cf) (op : Op) : Rd := match op with
  | .move x => opdC cf x fun g => .mk fun tm _ => g tm
  | .assign x => opdC cf x fun g => .mk fun tm _ => g tm
  | .pick c a b => opdC cf c fun gc => opdC cf a fun ga => opdC cf b fun gb => .mk fun tm _ => ovBool (gc tm) (ga tm) (gb tm)
  | .nilCheck x => opdC cf x fun g => .mk fun tm _ => ovNil (g tm)
  | .unOp .not t x => opdC cf x fun g => .mk fun tm _ => ovBool (g tm) (some (.bool false)) (some (.bool true))
  | .extract x i => opdC cf x fun g => .mk fun tm _ => ovTuple (g tm) fun l => nthA l i
  | .load t a => match aggA cf.P t with
    | some false => opdC cf a fun g => .mk fun tm m => ovPtr (g tm) fun b off => ovCells (m.H.get b) fun n tr => ovTrue (Nat.ble (Nat.succ off) n) (tr.get off)
    | some true => slowR cf (.load t a)
    | none => slowR cf (.load t a)
  | .fieldAddr s x f => match cf.P.underlying s with
    | some (.struct fs) => match fs[f]? with
      | some fd => match sizeA cf.P fd.type with
        | some n => bif Nat.beq n 0 then slowR cf (.fieldAddr s x f) else frc fd.offset fun o => opdC cf x fun g => .mk fun tm m => ovPtr (g tm) fun b off => some (.ptr b (Nat.add off o))
        | none => slowR cf (.fieldAddr s x f)
      | none => slowR cf (.fieldAddr s x f)
    | _ => slowR cf (.fieldAddr s x f)
  | .indexAddr t x ix => match cf.P.underlying t with
    | some (.slice elem) => match sizeA cf.P elem with
      | some z => frc z fun z => opdC cf x fun g => opdC cf ix fun h => .mk fun tm m => ovSlice (g tm) fun b off len => ovNat (h tm) fun i => ovTrue (Nat.ble (Nat.succ i) len) (some (.ptr b (Nat.add off (Nat.mul i z))))
      | none => slowR cf (.indexAddr t x ix)
    | _ => slowR cf (.indexAddr t x ix)
  | .index t x ix => match cf.P.underlying t with
    | some .string => opdC cf x fun g => opdC cf ix fun h => .mk fun tm m => ovStr (g tm) fun n y => ovNat (h tm) fun i => ovTrue (Nat.ble (Nat.succ i) n) (some (.int .u8 (Int.ofNat (Nat.mod (Nat.div y (Nat.pow 256 i)) 256))))
    | _ => slowR cf (.index t x ix)
  | .call c => match c.callee, c.args.toList, c.argTypes.toList with
    | .builtin .len, [x], [t] => match cf.P.underlying t with
      | some .string => opdC cf x fun g => .mk fun tm m => ovStr (g tm) fun n _ => some (.int .i64 (Int.ofNat n))
      | some (.slice _) => opdC cf x fun g => .mk fun tm m => ovLen (g tm) fun n => some (.int .i64 (Int.ofNat n))
      | _ => slowR cf (.call c)
    | _, _, _ => slowR cf (.call c)
  | .binOp op t x y u => match cf.P.underlying t with
    | some (.int _) => match fastI op, isShift op with
      | some f, false => opdC cf x fun g => opdC cf y fun h => .mk fun tm m => ovInt (g tm) fun j a => ovInt (h tm) fun j' b => ovTrue (kindEq j j') (some (f j a b))
      | _, _ => slowR cf (.binOp op t x y u)
    | some .string => match fastS op with
      | some f => opdC cf x fun g => opdC cf y fun h => .mk fun tm m => ovStr (g tm) fun n a => ovStr (h tm) fun n' b => some (f n a n' b)
      | none => slowR cf (.binOp op t x y u)
    | _ => slowR cf (.binOp op t x y u)
  | op => slowR cf op
theorem rdC_ok : RdOk cf op (rdC cf op) := by
  unfold rdC
  split
  · intro tm m v h; rw [opdC_eq, Rd.run_mk, opdG_eq] at h; exact h
  · intro tm m v h; rw [opdC_eq, Rd.run_mk, opdG_eq] at h; exact h
  · rename_i c a b
    intro tm m v h; simp only [opdC_eq, Rd.run_mk, opdG_eq] at h
    show rdPick cf.P m (evalA cf tm) c a b = some v
    unfold rdPick
    rcases ovBool_eq h with ⟨h1, h2⟩ | ⟨h1, h2⟩ <;> rw [h1] <;> exact h2
  · rename_i x
    intro tm m v h; simp only [opdC_eq, Rd.run_mk, opdG_eq] at h
    show rdNil cf.P m (evalA cf tm) x = some v
    unfold rdNil
    obtain ⟨h1, h2⟩ := ovNil_eq h
    rcases h2 with ⟨b, o, rfl⟩ | ⟨t, u, rfl⟩ <;> rw [h1]
  · rename_i t x
    intro tm m v h; simp only [opdC_eq, Rd.run_mk, opdG_eq] at h
    show rdUn cf.P m (evalA cf tm) .not x = some v
    unfold rdUn
    rcases ovBool_eq h with ⟨h1, h2⟩ | ⟨h1, h2⟩ <;> rw [h1] <;> exact h2
  · rename_i x i
    intro tm m v h; simp only [opdC_eq, Rd.run_mk, opdG_eq] at h
    show rdExtract cf.P m (evalA cf tm) x i = some v
    unfold rdExtract
    obtain ⟨l, h1, h2⟩ := ovTuple_eq h
    rw [nthA_eq] at h2
    rw [h1]; exact h2
  · rename_i t a
    split
    · rename_i ha
      intro tm m v h; simp only [opdC_eq, Rd.run_mk, opdG_eq] at h
      obtain ⟨b, off, h1, h2⟩ := ovPtr_eq h
      obtain ⟨n, tr, e, o, z, h3, h4⟩ := ovCells_eq h2
      obtain ⟨h5, h6⟩ := ovTrue_eq h4
      show rdLoad cf.P m (evalA cf tm) t a = _
      unfold rdLoad loadA
      rw [h1]; simp only [h3, ha]
      rw [show Nat.blt off n = true from h5]; exact h6
    · exact slowR_ok
    · exact slowR_ok
  · rename_i s x f
    split
    · rename_i fs hu
      split
      · rename_i fd hf
        split
        · rename_i n hs
          cases h0 : Nat.beq n 0 with
          | true => exact slowR_ok
          | false =>
            simp only [cond_false]
            rw [frc_eq]
            intro tm m v h; simp only [opdC_eq, Rd.run_mk, opdG_eq] at h
            obtain ⟨b, off, h1, h2⟩ := ovPtr_eq h
            show rdFieldAddr cf.P m (evalA cf tm) s x f = _
            unfold rdFieldAddr
            rw [hu, h1]
            simp only [hf, hs, h0, cond_false]
            exact h2
        · exact slowR_ok
      · exact slowR_ok
    · exact slowR_ok
  · rename_i t x ix
    split
    · rename_i elem hu
      split
      · rename_i z hs
        rw [frc_eq]
        intro tm m v h; simp only [opdC_eq, Rd.run_mk, opdG_eq] at h
        obtain ⟨b, off, len, c, e, h1, h2⟩ := ovSlice_eq h
        obtain ⟨kk, i, h3, h4⟩ := ovNat_eq h2
        obtain ⟨h5, h6⟩ := ovTrue_eq h4
        show rdIndexAddr cf.P m (evalA cf tm) t x ix = _
        unfold rdIndexAddr
        rw [hu, h1, h3]
        simp only [hs]
        rw [show Nat.blt i len = true from h5]; exact h6
      · exact slowR_ok
    · exact slowR_ok
  · rename_i t x ix
    split
    · rename_i hu
      intro tm m v h; simp only [opdC_eq, Rd.run_mk, opdG_eq] at h
      obtain ⟨n, y, h1, h2⟩ := ovStr_eq h
      obtain ⟨kk, i, h3, h4⟩ := ovNat_eq h2
      obtain ⟨h5, h6⟩ := ovTrue_eq h4
      show rdIndex cf.P m (evalA cf tm) t x ix = _
      unfold rdIndex
      rw [hu, h1, h3]
      simp only
      rw [show Nat.blt i n = true from h5]; exact h6
    · exact slowR_ok
  · rename_i c
    split
    · rename_i x t hc ha ht
      have hread : ∀ m ev, readA cf.P m ev (.call c) = rdLen cf.P m ev c.args c.argTypes := fun m ev => by
        show rdCall cf.P m ev c = _
        unfold rdCall; rw [hc]
      split
      · rename_i hu
        intro tm m v h; simp only [opdC_eq, Rd.run_mk, opdG_eq] at h
        obtain ⟨n, y, h1, h2⟩ := ovStr_eq h
        rw [hread]; unfold rdLen; rw [ha, ht]; simp only [evals, h1, hu]; exact h2
      · rename_i el hu
        intro tm m v h; simp only [opdC_eq, Rd.run_mk, opdG_eq] at h
        rcases ovLen_eq h with ⟨h1, h2⟩ | ⟨b, o, l, cc, e, h1, h2⟩ | ⟨b, h1, h2⟩ <;> rw [hread] <;> unfold rdLen <;> rw [ha, ht] <;> simp only [evals, h1, hu] <;> exact h2
      · exact slowR_ok
    · exact slowR_ok
  · rename_i op t x y u
    split
    · split
      · rename_i f hf hs
        intro tm m v h; simp only [opdC_eq, Rd.run_mk, opdG_eq] at h
        obtain ⟨j, a, h1, h2⟩ := ovInt_eq h
        obtain ⟨j', b, h3, h4⟩ := ovInt_eq h2
        obtain ⟨h5, h6⟩ := ovTrue_eq h4
        have h5' := kindEq_eq h5
        subst h5'
        show rdBin cf.P m (evalA cf tm) op t x y = _
        unfold rdBin
        rw [h1, h3]
        cases h6
        exact binA_int (fastI_eq hf _ _ _) hs
      · exact slowR_ok
    · split
      · rename_i f hf
        intro tm m v h; simp only [opdC_eq, Rd.run_mk, opdG_eq] at h
        obtain ⟨n, a, h1, h2⟩ := ovStr_eq h
        obtain ⟨n', b, h3, h4⟩ := ovStr_eq h2
        show rdBin cf.P m (evalA cf tm) op t x y = _
        unfold rdBin
        rw [h1, h3]
        cases h4
        exact binA_str (fastS_eq hf _ _ _ _)
      · exact slowR_ok
    · exact slowR_ok
  · exact slowR_ok

/-! ### Bits, and what lies over the memory -/
noncomputable def tb (b i : Nat) : Bool := Nat.beq (Nat.mod (Nat.div b (Nat.pow 2 i)) 2) 1
theorem tb_eq (b i : Nat) : tb b i = b.testBit i := by
  rw [Nat.testBit_eq_decide_div_mod_eq]
  show Nat.beq (b / 2 ^ i % 2) 1 = _
  by_cases h : b / 2 ^ i % 2 = 1
  · rw [decide_eq_true h, h]; rfl
  · rw [decide_eq_false h]; exact nbeq h
noncomputable def ovlK (mask abs : Nat) (l : List (Nat × Nat × AObj)) (H : PT AObj) : PT AObj :=
  @List.rec (Nat × Nat × AObj) (fun _ => PT AObj) H (fun x _ ih => @Bool.rec (fun _ => PT AObj) ih (@Bool.rec (fun _ => PT AObj) (ih.set x.2.1 (some x.2.2)) ih (tb abs x.1)) (tb mask x.1)) l
theorem ovlK_eq (mask abs : Nat) (H : PT AObj) : ∀ l, ovlK mask abs l H = ovl mask abs l H
  | [] => rfl
  | (i, id, o) :: l => by
    have ih := ovlK_eq mask abs H l
    show @Bool.rec (fun _ => PT AObj) (ovlK mask abs l H) (@Bool.rec (fun _ => PT AObj) ((ovlK mask abs l H).set id (some o)) (ovlK mask abs l H) (tb abs i)) (tb mask i) = _
    rw [ih, tb_eq, tb_eq, ovl]
    cases mask.testBit i <;> cases abs.testBit i <;> rfl
noncomputable def stopsK (b : Nat) (e : Option Nat) : Bool := @Option.rec Nat (fun _ => Bool) true (fun e => tb b e) e
theorem stopsK_eq (b : Nat) (e : Option Nat) : stopsK b e = stops b e := by
  cases e with
  | none => rfl
  | some e => exact tb_eq b e
noncomputable def readsAtK (cf : Cf) (allocs : List (Nat × Nat × AObj)) (b : Nat) (tm : PT AV) (op : Op) (v : AV) (H : PT AObj) (abs : Nat) : Bool :=
  @Option.rec AV (fun _ => Bool) false (fun v' => beqA v v') ((rdC cf op).run tm ⟨ovlK b abs allocs H, 0⟩)
theorem readsAtK_ok {allocs : List (Nat × Nat × AObj)} {b : Nat} {tm : PT AV} {op : Op} {v : AV} {s : Stage} (h : readsAtK cf allocs b tm op v s.H s.abs = true) : readsAt cf allocs b tm op v s = true := by
  unfold readsAtK at h
  unfold readsAt
  cases e : (rdC cf op).run tm ⟨ovlK b s.abs allocs s.H, 0⟩ with
  | none => rw [e] at h; cases h
  | some v' =>
    rw [e] at h
    rw [← ovlK_eq, rdC_ok _ _ _ e]
    exact h
abbrev RdE := Nat × PT AV × Op × AV × Nat
noncomputable def allK (cf : Cf) (allocs : List (Nat × Nat × AObj)) (b : Nat) (H : PT AObj) (l : List RdE) : Bool :=
  @List.rec RdE (fun _ => Bool) true (fun r _ ih => @Bool.rec (fun _ => Bool) (@Bool.rec (fun _ => Bool) false ih (readsAtK cf allocs r.2.2.2.2 r.2.1 r.2.2.1 r.2.2.2.1 H b)) ih (tb b r.1)) l
theorem allK_ok {allocs : List (Nat × Nat × AObj)} {b i : Nat} {H : PT AObj} : ∀ {l : List RdE}, allK cf allocs b H l = true → (l.all fun r => b.testBit r.1 || readsAt cf allocs r.2.2.2.2 r.2.1 r.2.2.1 r.2.2.2.1 ⟨H, b, some i⟩) = true
  | [], _ => rfl
  | r :: l, h => by
    have h' : @Bool.rec (fun _ => Bool) (@Bool.rec (fun _ => Bool) false (allK cf allocs b H l) (readsAtK cf allocs r.2.2.2.2 r.2.1 r.2.2.1 r.2.2.2.1 H b)) (allK cf allocs b H l) (tb b r.1) = true := h
    rw [List.all_cons]
    cases e : tb b r.1 with
    | true =>
      rw [e] at h'
      rw [← tb_eq, e, allK_ok h']; rfl
    | false =>
      rw [e] at h'
      have h2 : @Bool.rec (fun _ => Bool) false (allK cf allocs b H l) (readsAtK cf allocs r.2.2.2.2 r.2.1 r.2.2.1 r.2.2.2.1 H b) = true := h'
      cases e2 : readsAtK cf allocs r.2.2.2.2 r.2.1 r.2.2.1 r.2.2.2.1 H b with
      | false => rw [e2] at h2; cases h2
      | true =>
        rw [e2] at h2
        rw [readsAtK_ok (s := ⟨H, b, some i⟩) e2, allK_ok h2, Bool.or_true]; rfl
noncomputable def leftK (b : Nat) (l : List RdE) : List RdE := @List.rec RdE (fun _ => List RdE) [] (fun r _ ih => @Bool.rec (fun _ => List RdE) (r :: ih) ih (tb b r.1)) l
theorem leftK_eq (b : Nat) : ∀ l : List RdE, leftK b l = l.filter fun r => !b.testBit r.1
  | [] => rfl
  | r :: l => by
    show @Bool.rec (fun _ => List RdE) (r :: leftK b l) (leftK b l) (tb b r.1) = _
    rw [leftK_eq b l, tb_eq, List.filter_cons]
    cases b.testBit r.1 <;> rfl

/-! ### Operations of such a region -/
inductive DC where
  | mk (f : Rec → DS → Option DS)
noncomputable def DC.run (c : DC) (rec : Rec) (S : DS) : Option DS := @DC.rec (fun _ => Option DS) (fun f => f rec S) c
theorem DC.run_mk (f : Rec → DS → Option DS) (rec : Rec) (S : DS) : (DC.mk f).run rec S = f rec S := rfl
noncomputable def onD (x : Option AV) (f : AV → Option DS) : Option DS := @Option.rec AV (fun _ => Option DS) none f x
theorem onD_eq {x : Option AV} {f : AV → Option DS} {r : DS} (h : onD x f = some r) : ∃ v, x = some v ∧ f v = some r := by
  cases x with
  | none => exact absurd h (by simp [onD])
  | some v => exact ⟨v, rfl, h⟩
noncomputable def ifD (b : Bool) (x : Option DS) : Option DS := @Bool.rec (fun _ => Option DS) none x b
theorem ifD_eq {b : Bool} {x : Option DS} {r : DS} (h : ifD b x = some r) : b = true ∧ x = some r := by
  cases b with
  | false => exact absurd h (by simp [ifD])
  | true => exact ⟨rfl, h⟩
noncomputable def du2 (d : D16) (kont : ((N1 → N1) → N2 → N2) → DC) : DC := @D16.rec (fun _ => DC) (kont updA0) (kont updA1) (kont updA2) (kont updA3) (kont updA4) (kont updA5) (kont updA6) (kont updA7) (kont updA8) (kont updA9) (kont updA10) (kont updA11) (kont updA12) (kont updA13) (kont updA14) (kont updA15) d
theorem du2_eq (d : D16) (kont : ((N1 → N1) → N2 → N2) → DC) : du2 d kont = kont (N16.upd d) := by
  cases d <;> exact congrArg kont (funext fun f => funext fun t => by cases t; rfl)
noncomputable def du3 (d : D16) (kont : (AV → N1 → N1) → DC) : DC := @D16.rec (fun _ => DC) (kont setB0) (kont setB1) (kont setB2) (kont setB3) (kont setB4) (kont setB5) (kont setB6) (kont setB7) (kont setB8) (kont setB9) (kont setB10) (kont setB11) (kont setB12) (kont setB13) (kont setB14) (kont setB15) d
theorem du3_eq (d : D16) (kont : (AV → N1 → N1) → DC) : du3 d kont = kont (fun v => N16.upd d (fun _ => some v)) := by
  cases d <;> exact congrArg kont (funext fun v => funext fun t => by cases t; rfl)
noncomputable def dst2 (d : Option Tmp) (kont : (PT AV → AV → PT AV) → DC) : DC :=
  @Option.rec Tmp (fun _ => DC) (kont fun tm _ => tm) (fun t => @Bool.rec (fun _ => DC) (kont fun tm v => tm.set t (some v))
    (du2 (dig (Nat.mod (Nat.div t 16) 16)) fun f => du3 (dig (Nat.mod t 16)) fun g => kont fun tm v => @PT.rec AV (fun _ => AV → PT AV) (fun lo mid hi rest v => ⟨f (g v) lo, mid, hi, rest⟩) tm v) (Nat.ble (Nat.succ t) 256)) d
theorem dst2_eq (d : Option Tmp) (kont : (PT AV → AV → PT AV) → DC) : dst2 d kont = kont (dstG d) := by
  cases d with
  | none => rfl
  | some t =>
    unfold dst2 dstG
    by_cases h : t < 256
    · simp only [if_pos h, ble_lt h, du2_eq, du3_eq]
    · simp only [if_neg h, ble_ge h]
def ActOk (cf : Cf) (ops : Array Oper) (N i : Nat) (o : Oper) (b : Nat) (k c : DC) : Prop := ∀ rec S r, dstOk N o.dst = true → guardA ops S.tm o = some true → c.run rec S = some r → ∃ S', drawOne cf rec ops N i o b S = some S' ∧ k.run rec S' = some r
noncomputable def slowD (cf : Cf) (ops : Array Oper) (N i : Nat) (o : Oper) (b : Nat) (k : DC) : DC := .mk fun rec S => @Option.rec DS (fun _ => Option DS) none (fun S => k.run rec S) (drawOne cf rec ops N i o b S)
variable {ops : Array Oper} {N i : Nat} {o : Oper} {b : Nat} {k : DC}
theorem slowD_ok : ActOk cf ops N i o b k (slowD cf ops N i o b k) := fun rec S r hd hg h => by
  cases e : drawOne cf rec ops N i o b S with
  | none => rw [slowD, DC.run_mk, e] at h; cases h
  | some S' => rw [slowD, DC.run_mk, e] at h; exact ⟨S', rfl, h⟩
noncomputable def pureD (cf : Cf) (o : Oper) (b : Nat) (k : DC) : DC := dst2 o.dst fun s => .mk fun rec S => @DS.rec (fun _ => Option DS) (fun tm next top old al rd => onD ((rdC cf o.op).run tm ⟨ovlK b top.abs al top.H, 0⟩) fun v => k.run rec ⟨s tm v, next, top, old, al, rd⟩) S
theorem pureD_ok (hp : pureOp o.op = true) : ActOk cf ops N i o b k (pureD cf o b k) := fun rec S r hd hg h => by
  unfold pureD at h
  rw [dst2_eq, DC.run_mk] at h
  obtain ⟨tm, next, top, old, al, rd⟩ := S
  obtain ⟨v, h1, h2⟩ := onD_eq h
  rw [ovlK_eq] at h1
  rw [dstG_eq] at h2
  refine ⟨_, ?_, h2⟩
  unfold drawOne
  simp only [hd, hg, cond_true, rdC_ok _ _ _ h1, hp]
noncomputable def loadD (cf : Cf) (i : Nat) (o : Oper) (b : Nat) (k : DC) : DC := dst2 o.dst fun s => .mk fun rec S => @DS.rec (fun _ => Option DS) (fun tm next top old al rd => onD ((rdC cf o.op).run tm ⟨ovlK b top.abs al top.H, 0⟩) fun v =>
  ifD (@Bool.rec (fun _ => Bool) (readsOld cf al b tm o.op v old) true (stopsK b top.e)) (k.run rec ⟨s tm v, next, top, old, al, (i, tm, o.op, v, b) :: rd⟩)) S
theorem loadD_ok (hp : pureOp o.op = false) : ActOk cf ops N i o b k (loadD cf i o b k) := fun rec S r hd hg h => by
  unfold loadD at h
  rw [dst2_eq, DC.run_mk] at h
  obtain ⟨tm, next, top, old, al, rd⟩ := S
  obtain ⟨v, h1, h2⟩ := onD_eq h
  obtain ⟨h3, h4⟩ := ifD_eq h2
  rw [ovlK_eq] at h1
  rw [dstG_eq] at h4
  refine ⟨_, ?_, h4⟩
  unfold drawOne
  simp only [hd, hg, cond_true, rdC_ok _ _ _ h1, hp, cond_false]
  rw [stopsK_eq] at h3
  have : (stops b top.e || readsOld cf al b tm o.op v old) = true := by
    cases e : stops b top.e with
    | true => rfl
    | false => rw [e] at h3; rw [Bool.false_or]; exact h3
  rw [this]; rfl
noncomputable def allocD (cf : Cf) (i : Nat) (o : Oper) (k : DC) : DC := dst2 o.dst fun s => .mk fun rec S => @DS.rec (fun _ => Option DS) (fun tm next top old al rd => @Option.rec (AObj × (Nat → AV)) (fun _ => Option DS) none (fun p => frc next fun id => k.run rec ⟨s tm (p.2 id), Nat.succ id, top, old, (i, id, p.1) :: al, rd⟩) (allocA cf.P (evalA cf tm) o.op)) S
theorem allocD_ok (hr : ∀ m ev, readA cf.P m ev o.op = none) : ActOk cf ops N i o b k (allocD cf i o k) := fun rec S r hd hg h => by
  unfold allocD at h
  rw [dst2_eq, DC.run_mk] at h
  obtain ⟨tm, next, top, old, al, rd⟩ := S
  cases e : allocA cf.P (evalA cf tm) o.op with
  | none => simp only [e] at h; cases h
  | some p =>
    simp only [e, frc_eq, dstG_eq] at h
    refine ⟨_, ?_, h⟩
    unfold drawOne
    simp only [hd, hg, cond_true, hr, e]
noncomputable def idK : Clo := .mk fun _ tm m => some (tm, m)
noncomputable def effD (cf : Cf) (i : Nat) (o : Oper) (b : Nat) (k : DC) : DC := .mk fun rec S => @DS.rec (fun _ => Option DS) (fun tm next top old al rd => ifD (stopsK b top.e) (ifD (Nat.beq (Nat.land b top.abs) top.abs)
  (@Option.rec RS (fun _ => Option DS) none (fun p => @Prod.rec (PT AV) Mem (fun _ => Option DS) (fun tm' m' => @Mem.rec (fun _ => Option DS) (fun H nx => ifD (allK cf al b H rd) (k.run rec ⟨tm', nx, ⟨H, b, some i⟩, top :: old, al, leftK b rd⟩)) m') p)
    ((opK cf o.op o.dst idK).run rec tm ⟨ovlK b top.abs al top.H, next⟩)))) S
theorem effD_ok (hr : ∀ m ev, readA cf.P m ev o.op = none) (ha : ∀ ev, allocA cf.P ev o.op = none) : ActOk cf ops N i o b k (effD cf i o b k) := fun rec S r hd hg h => by
  unfold effD at h
  rw [DC.run_mk] at h
  obtain ⟨tm, next, top, old, al, rd⟩ := S
  obtain ⟨h1, h2⟩ := ifD_eq h
  obtain ⟨h3, h4⟩ := ifD_eq h2
  cases e : (opK cf o.op o.dst idK).run rec tm ⟨ovlK b top.abs al top.H, next⟩ with
  | none => rw [e] at h4; cases h4
  | some p =>
    rw [e] at h4
    obtain ⟨v, m', h5, h6⟩ := opK_ok rec tm _ p e
    cases h6
    obtain ⟨H, nx⟩ := m'
    obtain ⟨h7, h8⟩ := ifD_eq (show ifD (allK cf al b H rd) (k.run rec ⟨putA tm o.dst v, nx, ⟨H, b, some i⟩, top :: old, al, leftK b rd⟩) = some r from h4)
    rw [leftK_eq] at h8
    rw [stopsK_eq] at h1
    rw [ovlK_eq] at h5
    refine ⟨_, ?_, h8⟩
    unfold drawOne
    have h7' := allK_ok (i := i) h7
    simp only [hd, hg, cond_true, hr, ha, h1, h3, Bool.and_true, h5, h7']
noncomputable def actD (cf : Cf) (ops : Array Oper) (N i : Nat) (o : Oper) (b : Nat) (k : DC) : DC := match pureOp o.op with
  | true => pureD cf o b k
  | false => match o.op with
    | .load t a => loadD cf i o b k
    | .alloc e => allocD cf i o k
    | .box e x => allocD cf i o k
    | .buildSlice t l ps => allocD cf i o k
    | .makeSlice t l c => allocD cf i o k
    | .store t a x => effD cf i o b k
    | .call c => match c.callee with
      | .value f => effD cf i o b k
      | .invoke x n => effD cf i o b k
      | .builtin .append => effD cf i o b k
      | .builtin .len => loadD cf i o b k
      | _ => slowD cf ops N i o b k
    | _ => slowD cf ops N i o b k
theorem actD_ok : ActOk cf ops N i o b k (actD cf ops N i o b k) := by
  unfold actD
  split
  · rename_i hp; exact pureD_ok hp
  · rename_i hp
    split
    · exact loadD_ok hp
    · rename_i e; exact allocD_ok fun m ev => by rw [e]; rfl
    · rename_i e; exact allocD_ok fun m ev => by rw [e]; rfl
    · rename_i e; exact allocD_ok fun m ev => by rw [e]; rfl
    · rename_i e; exact allocD_ok fun m ev => by rw [e]; rfl
    · rename_i e; exact effD_ok (fun m ev => by rw [e]; rfl) (fun ev => by rw [e]; rfl)
    · rename_i c e
      split
      · rename_i f hc; exact effD_ok (fun m ev => by rw [e]; show rdCall cf.P m ev c = _; unfold rdCall; rw [hc]) (fun ev => by rw [e]; rfl)
      · rename_i x n hc; exact effD_ok (fun m ev => by rw [e]; show rdCall cf.P m ev c = _; unfold rdCall; rw [hc]) (fun ev => by rw [e]; rfl)
      · rename_i hc; exact effD_ok (fun m ev => by rw [e]; show rdCall cf.P m ev c = _; unfold rdCall; rw [hc]) (fun ev => by rw [e]; rfl)
      · exact loadD_ok hp
      · exact slowD_ok
    · exact slowD_ok
noncomputable def drawK (cf : Cf) (ops : Array Oper) (N i : Nat) (o : Oper) (b : Nat) (k : DC) : DC := bif dstOk N o.dst then (match o.guard with
  | none => actD cf ops N i o b k
  | some _ => .mk fun rec S => match guardA ops S.tm o with
    | some true => (actD cf ops N i o b k).run rec S
    | some false => k.run rec { S with tm := putA S.tm o.dst .undef }
    | none => none) else .mk fun _ _ => none
theorem drawK_ok {rec : Rec} {S r : DS} (h : (drawK cf ops N i o b k).run rec S = some r) : ∃ S', drawOne cf rec ops N i o b S = some S' ∧ k.run rec S' = some r := by
  unfold drawK at h
  cases hd : dstOk N o.dst with
  | false => rw [hd] at h; cases h
  | true =>
  rw [hd] at h
  simp only [cond_true] at h
  split at h
  · rename_i hg
    exact actD_ok rec S r hd (by unfold guardA; rw [hg]) h
  · rw [DC.run_mk] at h
    split at h
    · rename_i hg; exact actD_ok rec S r hd hg h
    · rename_i hg
      refine ⟨_, ?_, h⟩
      unfold drawOne
      simp only [hd, cond_true, hg]
    · cases h
noncomputable def drawC (cf : Cf) (ops : Array Oper) (N : Nat) (l : List (Nat × Oper × Nat)) : DC := @List.rec (Nat × Oper × Nat) (fun _ => DC) (.mk fun _ S => some S) (fun x _ ih => frc x.1 fun i => frc x.2.2 fun b => drawK cf ops N i x.2.1 b ih) l
theorem drawC_ok : ∀ {l : List (Nat × Oper × Nat)} {rec : Rec} {S r : DS}, (drawC cf ops N l).run rec S = some r → drawA cf rec ops N l S = some r
  | [], rec, S, r, h => h
  | x :: l, rec, S, r, h => by
    have h' : (frc x.1 fun i => frc x.2.2 fun b => drawK cf ops N i x.2.1 b (drawC cf ops N l)).run rec S = some r := h
    rw [frc_eq, frc_eq] at h'
    obtain ⟨S', h1, h2⟩ := drawK_ok h'
    simp only [drawA, h1]
    exact drawC_ok h2
/-! ### The plan, in one pass -/
noncomputable def dstMap (l : List (Nat × Oper × Nat)) : PT (Nat × Nat) → Option (PT (Nat × Nat)) := @List.rec (Nat × Oper × Nat) (fun _ => PT (Nat × Nat) → Option (PT (Nat × Nat))) (fun D => some D) (fun x _ ih D => @Option.rec Tmp (fun _ => Option (PT (Nat × Nat))) (ih D) (fun d => @Option.rec (Nat × Nat) (fun _ => Option (PT (Nat × Nat))) (frc x.1 fun i => frc x.2.2 fun b => ih (D.set d (some (i, b)))) (fun _ => none) (D.get d)) x.2.1.dst) l
theorem dstMap_ok : ∀ {l : List (Nat × Oper × Nat)} {D D' : PT (Nat × Nat)}, dstMap l D = some D' → (∀ t i, D.get t = some i → D'.get t = some i) ∧ ∀ x ∈ l, ∀ d, x.2.1.dst = some d → D'.get d = some (x.1, x.2.2)
  | [], D, D', h => by cases h; exact ⟨fun _ _ h => h, fun _ h => by cases h⟩
  | x :: l, D, D', h => by
    have h' : @Option.rec Tmp (fun _ => Option (PT (Nat × Nat))) (dstMap l D) (fun d => @Option.rec (Nat × Nat) (fun _ => Option (PT (Nat × Nat))) (frc x.1 fun i => frc x.2.2 fun b => dstMap l (D.set d (some (i, b)))) (fun _ => none) (D.get d)) x.2.1.dst = some D' := h
    cases e : x.2.1.dst with
    | none =>
      rw [e] at h'
      obtain ⟨h1, h2⟩ := dstMap_ok (show dstMap l D = some D' from h')
      refine ⟨h1, fun y hy d hd => ?_⟩
      rcases List.mem_cons.1 hy with rfl | hy
      · rw [e] at hd; cases hd
      · exact h2 y hy d hd
    | some d =>
      rw [e] at h'
      cases e2 : D.get d with
      | some i => simp only [e2] at h'; cases h'
      | none =>
        simp only [e2, frc_eq] at h'
        obtain ⟨h1, h2⟩ := dstMap_ok h'
        refine ⟨fun t i ht => h1 t i ?_, fun y hy d' hd => ?_⟩
        · rw [PT.get_set]
          by_cases q : t = d
          · rw [q, e2] at ht; cases ht
          · rw [if_neg q]; exact ht
        · rcases List.mem_cons.1 hy with rfl | hy
          · rw [e] at hd; cases hd
            exact h1 d (y.1, y.2.2) (by rw [PT.get_set, if_pos rfl])
          · exact h2 y hy d' hd
noncomputable def planB (ops : Array Oper) : Bool := match dstMap (rowA ops) .nil with
  | none => false
  | some D => (rowA ops).all fun x => (x.2.1.after.toList.all fun e => bif Region.binds .any e then Nat.blt e.on x.1 else true) &&
    (match x.2.1.guard with
     | some (g, _) => x.2.2.testBit g
     | none => true) &&
    (looksA ops x.2.1).all fun t => match D.get t with
      | none => true
      | some (j, c) => Nat.beq j x.1 || (bif Nat.blt j x.1 then x.2.2.testBit j else c.testBit x.1)
theorem planB_ok {ops : Array Oper} (h : planB ops = true) : planA ops = true := by
  unfold planB at h
  split at h
  · cases h
  rename_i D hD
  obtain ⟨_, hd⟩ := dstMap_ok hD
  unfold planA
  rw [List.all_eq_true] at h ⊢
  intro x hx
  have hx' := h x hx
  simp only [Bool.and_eq_true] at hx' ⊢
  refine ⟨hx'.1, List.all_eq_true.2 fun y hy => ?_⟩
  have hl := List.all_eq_true.1 hx'.2
  unfold apartA
  cases e : y.2.1.dst with
  | none => rfl
  | some d =>
    have hyd := hd y hy d e
    simp only
    cases hij : Nat.beq x.1 y.1 with
    | true => rfl
    | false =>
      have hne : x.1 ≠ y.1 := fun q => by rw [q, Nat.beq_refl] at hij; cases hij
      simp only [cond_false]
      cases hc : (looksA ops x.2.1).contains d with
      | true =>
        have := hl d (by simpa using hc)
        rw [hyd] at this
        simp only [Bool.or_eq_true] at this
        rcases this with q | q
        · exact absurd (Nat.eq_of_beq_eq_true q).symm hne
        · simpa using q
      | false =>
        simp only [cond_false]
        cases e2 : x.2.1.dst with
        | none => rfl
        | some d' =>
          have hxd := hd x hx d' e2
          simp only
          cases hq : Nat.beq d d' with
          | false => rfl
          | true =>
            rw [← Nat.eq_of_beq_eq_true hq, hyd] at hxd
            exact absurd (Prod.mk.inj (Option.some.inj hxd)).1.symm hne
noncomputable def regionC (cf : Cf) (ops : Array Oper) (N : Nat) : Clo := @Bool.rec (fun _ => Clo) (.mk fun _ _ _ => none)
  (.mk fun rec tm m => @Option.rec DS (fun _ => Option RS) none (fun S => @DS.rec (fun _ => Option RS) (fun tm next top old al rd => some (tm, ⟨ovlK (2 ^ ops.size - 1) top.abs al top.H, next⟩)) S) ((drawC cf ops N (rowA ops)).run rec ⟨tm, m.next, ⟨m.H, 0, none⟩, [], [], []⟩)) (planB ops)
theorem regionC_ok {rec : Rec} {tm : PT AV} {m : Mem} {r : RS} (h : (regionC cf ops N).run rec tm m = some r) : regionA cf rec ops N tm m = some r := by
  unfold regionC at h
  cases hp0 : planB ops with
  | false => rw [hp0] at h; cases h
  | true =>
    rw [hp0] at h
    have hp := planB_ok hp0
    have h' : @Option.rec DS (fun _ => Option RS) none (fun S => @DS.rec (fun _ => Option RS) (fun tm next top old al rd => some (tm, ⟨ovlK (2 ^ ops.size - 1) top.abs al top.H, next⟩)) S) ((drawC cf ops N (rowA ops)).run rec ⟨tm, m.next, ⟨m.H, 0, none⟩, [], [], []⟩) = some r := h
    cases e : (drawC cf ops N (rowA ops)).run rec ⟨tm, m.next, ⟨m.H, 0, none⟩, [], [], []⟩ with
    | none => rw [e] at h'; cases h'
    | some S =>
      rw [e] at h'
      obtain ⟨tm', next, top, old, al, rd⟩ := S
      have h2 : some (tm', (⟨ovlK (2 ^ ops.size - 1) top.abs al top.H, next⟩ : Mem)) = some r := h'
      rw [ovlK_eq] at h2
      unfold regionA
      simp only [hp, cond_true, drawC_ok e]
      exact h2
end Go.Proofs.YtijnlbpeckoofaaGreat
