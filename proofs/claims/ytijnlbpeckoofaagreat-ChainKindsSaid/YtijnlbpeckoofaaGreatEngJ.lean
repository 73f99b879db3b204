/- A machine that runs closed calls: effects. -/
import Derived.Test.YtijnlbpeckoofaaGreatEngI
import Derived.Lib.UnsafeStr
set_option linter.unusedVariables false
set_option linter.unusedSimpArgs false
namespace Go.Proofs.YtijnlbpeckoofaaGreat
open Go.RowKit
variable {P : Program} {base : Nat} {Γ : Tie} {m : Mem} {w : World} {ev : Operand → Option AV} {ρ : Operand → Value}

theorem rel_undef : rel Γ .undef undef := by simp only [rel, undef, relL]; exact ⟨[], rfl, rfl⟩
theorem efStore_ok (hR : Rep base Γ m.H w) (hev : Evals Γ ev ρ) {t : TypeId} {a x : Operand} {v : AV} {m' : Mem} (h : efStore P m ev t a x = some (v, m')) : Does P base Γ m w ρ (.store t a x) v m' := by
  unfold efStore at h
  split at h
  case h_2 => cases h
  rename_i b off av ha hx
  split at h
  case h_2 => cases h
  rename_i m1 hs
  cases h
  exact storeA_ok hR hev ha hx hs
theorem efUpdate_ok (hR : Rep base Γ m.H w) (hev : Evals Γ ev ρ) {t : TypeId} {x k y : Operand} {v : AV} {m' : Mem} (h : efUpdate P m ev t x k y = some (v, m')) : Does P base Γ m w ρ (.mapUpdate t x k y) v m' ∧ Does P base Γ m w ρ (.insert t x k y) v m' := by
  unfold efUpdate at h
  split at h
  case h_2 => cases h
  rename_i a b c hx hk hy
  split at h
  case h_2 => cases h
  rename_i m1 hs
  cases h
  obtain ⟨w', h1, h2⟩ := updateA_run (P := P) hR hs (hev _ _ hx) (hev _ _ hk) (hev _ _ hy)
  constructor <;> (intro dst type pos after guard; exact ⟨.skip, w', Γ, undef, by simp [execOp, h1], .inr ⟨rfl, rfl⟩, rel_undef, h2⟩)
theorem evals_two (hev : Evals Γ ev ρ) {args : Array Operand} {a b : AV} (h : evals ev args.toList = some [a, b]) : ∃ u v, args.map ρ = #[u, v] ∧ rel Γ a u ∧ rel Γ b v := by
  obtain ⟨u, us, e, h1, h2⟩ := evals_one hev h
  simp only [relL] at h2
  obtain ⟨v, vs, rfl, h3, rfl⟩ := h2
  exact ⟨u, v, e, h1, h3⟩
theorem does_builtin {b : Builtin} {args : Array Operand} {ts : Array TypeId} {v : AV} {m' : Mem} (h : ∀ type consts, ∃ c w' Γ', (builtin b ts type consts (args.map ρ)).run P w = .ok (.value c) w' ∧ rel Γ' v c ∧ Moves base Γ m w Γ' m' w') : Does P base Γ m w ρ (.call { callee := .builtin b, args := args, argTypes := ts }) v m' := by
  intro dst type pos after guard
  obtain ⟨c, w', Γ', h1, h2, h3⟩ := h type (args.map fun | .const _ => true | _ => false)
  exact ⟨.value c, w', Γ', c, by simp only [execOp, resolve, Sem.run_bind, Sem.run_pure, Result.andThen_ok, invoke]; exact h1, .inl rfl, h2, h3⟩
theorem efAppend_ok (hR : Rep base Γ m.H w) (hev : Evals Γ ev ρ) {args : Array Operand} {ts : Array TypeId} {v : AV} {m' : Mem} (hF : Fresh Γ m m') (h : efAppend P m ev args ts = some (v, m')) : Does P base Γ m w ρ (.call { callee := .builtin .append, args := args, argTypes := ts }) v m' := by
  refine does_builtin fun type consts => ?_
  unfold efAppend at h
  split at h
  case h_2 => cases h
  rename_i st xt s x hts hargs
  obtain ⟨u, z, e, h1, h2⟩ := evals_two hev hargs
  have : ts = #[st, xt] := by apply Array.ext'; exact hts
  subst this
  obtain ⟨c, w', Γ', g1, g2, g3⟩ := appendA_run (P := P) hR h hF h1 h2 type
  rw [e]
  exact ⟨c, w', Γ', by simp [builtin, g1], g2, g3⟩
theorem bytesOf_cells : ∀ {l : List AV} {x : Nat} {vs : List Value}, bytesOf l = some x → relL Γ l vs → x < 256 ^ l.length ∧ vs = (dec l.length x).map fun b => Value.int .u8 b.toNat
  | [], x, vs, h, hr => by
    simp only [bytesOf, Option.some.injEq] at h; subst h
    simp only [relL] at hr; subst hr
    exact ⟨by simp, by simp [dec]⟩
  | a :: l, x, vs, h, hr => by
    simp only [relL] at hr
    obtain ⟨v, vs', rfl, h1, h2⟩ := hr
    unfold bytesOf at h
    split at h
    · rename_i e; cases e
    · rename_i n l' e
      cases e
      split at h
      · rename_i a y hy
        cases hlt : Nat.blt a 256 with
        | false => rw [hlt] at h; cases h
        | true =>
          rw [hlt] at h; cases h
          have hlt' := nblt hlt
          obtain ⟨h3, h4⟩ := bytesOf_cells hy h2
          simp only [rel] at h1; subst h1
          refine ⟨by simp only [List.length_cons, Nat.pow_succ]; omega, ?_⟩
          simp only [List.length_cons, dec, List.map_cons]
          rw [show (a + 256 * y) % 256 = a by omega, show (a + 256 * y) / 256 = y by omega, h4]
          congr 2
          have : (UInt8.ofNat a).toNat = a := by simp; omega
          rw [this]; rfl
      · cases h
    · cases h
theorem freeze_upd {b off n : Nat} {c : Array Value} {e : TypeId} {lo hi : Nat} (h : w.heap[b]? = some (.cells c e (lo, hi))) (hn : n ≠ 0) : w.freeze ⟨b, off, none⟩ n = upd w b (.cells c e (if lo == hi then (off, off + n) else (min lo off, max hi (off + n)))) := by
  unfold World.freeze upd
  rw [if_neg hn]
  congr 1
  apply Array.ext_getElem?
  intro k
  rw [Array.getElem?_modify]
  by_cases hk : b = k
  · subst hk
    rw [if_pos rfl, Array.getElem?_setIfInBounds_self_of_lt (Array.getElem?_eq_some_iff.1 h).1, h]
    rfl
  · rw [if_neg hk, Array.getElem?_setIfInBounds_ne hk]
theorem efCopy_ok (hR : Rep base Γ m.H w) (hev : Evals Γ ev ρ) {args : Array Operand} {ts : Array TypeId} {v : AV} {m' : Mem} (h : efCopy P m ev args ts = some (v, m')) : Does P base Γ m w ρ (.call { callee := .builtin .copy, args := args, argTypes := ts }) v m' := by
  refine does_builtin fun type consts => ?_
  unfold efCopy at h
  split at h
  case h_2 => cases h
  rename_i st xt b off len cap e k x hts hargs
  obtain ⟨u, z, e', h1, h2⟩ := evals_two hev hargs
  have : ts = #[st, xt] := by apply Array.ext'; exact hts
  subst this
  split at h
  case h_2 => cases h
  rename_i elem n tr el opn fz ht hb
  split at h
  case h_2 => cases h
  rename_i size hsz
  have hmin : Nat.min k len = minA k len := by
    unfold minA
    cases hb : Nat.ble k len with
    | true => exact Nat.min_eq_left (Nat.le_of_ble_eq_true hb)
    | false =>
      have : ¬ k ≤ len := fun q => by rw [Nat.ble_eq_true_of_le q] at hb; cases hb
      exact Nat.min_eq_right (by omega)
  have hkl : minA k len ≤ k := by rw [← hmin]; exact Nat.min_le_left _ _
  generalize minA k len = q at *
  cases hcond : (Nat.beq size 1 && Nat.ble (off + q) n && !fz) with
  | false => rw [hcond] at h; cases h
  | true =>
  rw [hcond] at h
  cases h
  simp only [Bool.and_eq_true, Bool.not_eq_true'] at hcond
  obtain ⟨⟨c1, c3⟩, rfl⟩ := hcond
  have c1' := Nat.eq_of_beq_eq_true c1
  have c3' := Nat.le_of_ble_eq_true c3
  simp only [rel] at h1 h2
  obtain ⟨bi, c, hbi, rfl, _⟩ := h1
  obtain ⟨rfl, _⟩ := h2
  obtain ⟨i, hi, his⟩ := sizeA_info hsz
  obtain ⟨i', cc, lo, hi', g1, g2, g3, g4, g5, g6, g7, g8⟩ := hR.row hb
  rw [hbi] at g1; cases g1
  have hdl : ((dec q x).map fun b => Value.int .u8 b.toNat).length = q := by simp [dec_length]
  have hle : off + ((dec q x).map fun b => Value.int .u8 b.toNat).length ≤ cc.size := by rw [hdl]; omega
  have hst := storeCells_run (P := P) (off := off) ((dec q x).map fun b => Value.int .u8 b.toNat) 0 cc w g3 (by simpa using hle) (fun j hj => by simpa using g8 rfl (off + j) (by omega)) (fun v hv => by
    obtain ⟨q, _, rfl⟩ := List.mem_map.1 hv; rfl)
  have hsk : (strOf k x).size = k := by simp [strOf, ByteArray.size, dec_length]
  have hfc : ((strOf k x).extract 0 q).data.map (fun b => Value.int .u8 b.toNat) = ((dec q x).map fun b => Value.int .u8 b.toNat).toArray := by
    have hx : ((strOf k x).extract 0 q).data = ⟨dec q x⟩ := by
      rw [ByteArray.data_extract]
      have : (strOf k x).data = ⟨dec k x⟩ := rfl
      rw [this]
      apply Array.ext'
      simp only [List.extract_toArray, List.extract_eq_take_drop, List.drop_zero, Nat.sub_zero]
      exact dec_take q k x hkl
    rw [hx]
    simp
  rw [e']
  refine ⟨.int .i64 (Int.ofNat q), _, Γ, ?_, by simp only [rel], Moves.put hR hb hbi rfl (w' := upd w bi.blk (.cells ⟨setAt cc.toList (off + 0) ((dec q x).map fun b => Value.int .u8 b.toNat)⟩ el (lo, hi'))) rfl rfl rfl rfl (relO_write g4 g5 g6 g7 (g8 rfl) (dec_bytesL Γ q x) hle (.inl rfl))⟩
  have hso : (Go.sizeOf elem).run P w = .ok i.size w := by simp [Go.sizeOf, typeInfo, hi]
  have hcp : (Builtin.copy_ #[st, xt] type #[.slice (some ⟨bi.blk, off, none⟩) len c, .string (strOf k x)]).run P w = .ok (.int .i64 q) (upd w bi.blk (.cells ⟨setAt cc.toList (off + 0) ((dec q x).map fun b => Value.int .u8 b.toNat)⟩ el (lo, hi'))) := by
    simp only [Builtin.copy_, Sem.run_bind, run_underlying ht, Builtin.lenOf, Sem.run_pure, Result.andThen_ok, hsk, hmin, hso, Builtin.firstCells, hfc]
    simp [Sem.run_bind, run_underlying ht, hsk, hmin, hso, hfc, goInt]
    have htk : List.take q ((dec k x).map fun b => Value.int .u8 b.toNat) = (dec q x).map fun b => Value.int .u8 b.toNat := by
      rw [← List.map_take, dec_take q k x hkl]
    rw [htk, hst]
    rfl
  simp only [builtin]
  simp [hcp]
theorem efString_ok (hR : Rep base Γ m.H w) (hev : Evals Γ ev ρ) {args : Array Operand} {ts : Array TypeId} {v : AV} {m' : Mem} (h : efString P m ev args ts = some (v, m')) : Does P base Γ m w ρ (.call { callee := .builtin .unsafeString, args := args, argTypes := ts }) v m' := by
  refine does_builtin fun type consts => ?_
  have hempty : rel Γ (.str 0 0) (.string .empty) := by simp only [rel]; exact ⟨rfl, by decide⟩
  unfold efString at h
  split at h
  · rename_i t1 t2 hts hargs
    cases h
    obtain ⟨u, z, e, h1, h2⟩ := evals_two hev hargs
    have : ts = #[t1, t2] := by apply Array.ext'; exact hts
    subst this
    simp only [rel] at h1 h2; subst h1 h2
    rw [e]
    exact ⟨.string .empty, w, Γ, by have := Lib.run_unsafeString_none (P := P) w t1 t2 type none; simp [builtin]; exact congrArg (fun r => Result.andThen r _) this, hempty, Moves.refl hR⟩
  · rename_i t1 t2 b k hts hargs
    obtain ⟨u, z, e, h1, h2⟩ := evals_two hev hargs
    have : ts = #[t1, t2] := by apply Array.ext'; exact hts
    subst this
    simp only [rel] at h1 h2
    obtain ⟨i, hi, rfl⟩ := h1
    subst h2
    rw [e]
    cases hk : Nat.beq k 0 with
    | true =>
      rw [hk] at h; cases h
      have : k = 0 := Nat.eq_of_beq_eq_true hk
      subst this
      exact ⟨.string .empty, w, Γ, by have := Lib.run_unsafeString_none (P := P) w t1 t2 type (some ⟨i.blk, 0, none⟩); simp [builtin]; exact congrArg (fun r => Result.andThen r _) this, hempty, Moves.refl hR⟩
    | false =>
      rw [hk] at h
      have hk0 : k ≠ 0 := by rintro rfl; cases hk
      simp only [cond_false] at h
      split at h
      case h_2 => cases h
      rename_i ut n tr el opn fz hu hb
      cases hc : (Nat.beq ut el && Nat.beq (P.cellsOf el) 1 && Nat.ble k n && Nat.ble k small && !fz) with
      | false => rw [hc] at h; cases h
      | true =>
        rw [hc] at h
        simp only [Bool.and_eq_true, Bool.not_eq_true'] at hc
        obtain ⟨⟨⟨⟨c1, c2⟩, c3⟩, c4⟩, c5⟩ := hc
        have c1' := Nat.eq_of_beq_eq_true c1
        subst c1'
        subst c5
        simp only [cond_true] at h
        split at h
        case h_2 => cases h
        rename_i l hl
        split at h
        case h_2 => cases h
        rename_i x hx
        cases h
        obtain ⟨i', c, lo, hi', g1, g2, g3, g4, g5, g6, g7, g8⟩ := hR.row hb
        rw [hi] at g1; cases g1
        obtain ⟨vs, r1, r2, r3⟩ := row_cells hR hb hi (by simpa using Nat.le_of_ble_eq_true c3) hl
        obtain ⟨hlt, hvs⟩ := bytesOf_cells hx r3
        have hll : l.length = k := by rw [r3.length, r1]
        rw [hll] at hlt hvs
        have hsh : w.shape? i.blk = some (ut, c.size) := by unfold World.shape?; rw [g3]
        have hdl := dec_length k x
        have hrun := Lib.run_unsafeString_row (P := P) w t1 t2 type ut hu (Nat.eq_of_beq_eq_true c2) i.blk c.size hsh (dec k x) (by intro q; rw [q] at hdl; simp at hdl; omega) (by rw [hdl]; have := Nat.le_of_ble_eq_true c3; omega)
          (by rw [hdl]; have := Nat.le_of_ble_eq_true c4; unfold small at this; omega) (fun j y hy => r2 j _ (by rw [hvs, List.getElem?_map, hy]; rfl))
        rw [hdl, freeze_upd g3 hk0] at hrun
        obtain ⟨lo2, hi2, hfr⟩ : ∃ a b, (if lo == hi' then (0, 0 + k) else (min lo 0, max hi' (0 + k)) : Nat × Nat) = (a, b) := ⟨_, _, rfl⟩
        rw [hfr] at hrun
        refine ⟨.string (strOf k x), upd w i.blk (.cells c ut (lo2, hi2)), Γ, by simp only [builtin, Sem.run_bind]; exact congrArg (fun r => Result.andThen r fun a w' => Sem.run P (pure (Next.value a)) w') hrun, by simp only [rel]; exact ⟨trivial, hlt⟩, Moves.put hR hb hi rfl rfl rfl rfl rfl ⟨c, _, _, rfl, g4, g5, g6, g7, (fun h => by cases h)⟩⟩
  · cases h
end Go.Proofs.YtijnlbpeckoofaaGreat
