/- A machine that runs closed calls: strings.Index, strings.Compare. -/
import Derived.Test.YtkodlgmeplggdaaGreatDoorEngHa
import Derived.Test.YtkodlgmeplggdaaGreatDoorShelf
set_option linter.unusedVariables false
set_option linter.unusedSimpArgs false
namespace Go.Proofs.YtkodlgmeplggdaaGreatDoor
open Go.RowKit

/-- The first place where a string begins. -/
noncomputable def idxStr (n x M y : Nat) : Nat → Int :=
  @Nat.rec (fun _ => Nat → Nat → Int) (fun _ _ => -1) (fun _ go x i => bif Nat.beq (Nat.mod x M) y then Int.ofNat i else go (Nat.div x 256) (Nat.succ i)) n x
theorem idxStr_zero (x M y i : Nat) : idxStr 0 x M y i = -1 := rfl
theorem idxStr_succ (n x M y i : Nat) : idxStr (n + 1) x M y i = bif Nat.beq (x % M) y then Int.ofNat i else idxStr n (x / 256) M y (i + 1) := rfl
noncomputable def hdIndex : List AV → Mem → Option (AV × Mem) := fun args m => match args with
  | [.str n x, .str k y] => bif Nat.blt n 4294967281 then some (.int .i64 (bif Nat.blt n k then -1 else idxStr (Nat.succ (Nat.sub n k)) x (256 ^ k) y 0), m) else none
  | _ => none
noncomputable def hdCmp : List AV → Mem → Option (AV × Mem) := fun args m => match args with
  | [.str n x, .str k y] => some (.int .i64 (bif strLt n k x y then -1 else bif Nat.beq n k && Nat.beq x y then 0 else 1), m)
  | _ => none
theorem prefix_dec {n k x y : Nat} (hy : y < 256 ^ k) : (dec k y).isPrefixOf (dec n x) = (Nat.ble k n && Nat.beq (x % 256 ^ k) y) := by
  rw [Bool.eq_iff_iff, List.isPrefixOf_iff_prefix, List.prefix_iff_eq_take, dec_length, Bool.and_eq_true, Nat.ble_eq]
  constructor
  · intro h
    have hl : k ≤ n := by
      have := congrArg List.length h
      rw [dec_length, List.length_take, dec_length] at this; omega
    refine ⟨hl, ?_⟩
    rw [dec_take k n x hl, ← dec_mod k x] at h
    rw [dec_inj k hy (Nat.mod_lt _ (Nat.pow_pos (by omega))) h, Nat.beq_refl]
  · rintro ⟨hl, he⟩
    rw [dec_take k n x hl, ← dec_mod k x, Nat.eq_of_beq_eq_true he]
theorem index_dec {k y : Nat} (hy : y < 256 ^ k) : ∀ (n x i : Nat), (if Lib.index (dec n x) (dec k y) = -1 then (-1 : Int) else Lib.index (dec n x) (dec k y) + i) = bif Nat.blt n k then -1 else idxStr (Nat.succ (Nat.sub n k)) x (256 ^ k) y i := by
  intro n
  induction n with
  | zero =>
    intro x i
    by_cases hk : k = 0
    · subst hk
      have : y = 0 := by simpa using hy
      subst this
      have h1 : Nat.blt 0 0 = false := rfl
      have h2 : Nat.succ (Nat.sub 0 0) = 0 + 1 := rfl
      rw [h1, cond_false, h2, idxStr_succ]
      simp [dec, Lib.index, Nat.mod_one]
    · have h1 : Nat.blt 0 k = true := by rw [Nat.blt_eq]; omega
      rw [h1, cond_true]
      obtain ⟨j, rfl⟩ : ∃ j, k = j + 1 := ⟨k - 1, by omega⟩
      simp [dec, Lib.index]
  | succ n ih =>
    intro x i
    have ih' := ih (x / 256) (i + 1)
    have hge := Lib.index_ge (dec n (x / 256)) (dec k y)
    have hd : dec (n + 1) x = UInt8.ofNat (x % 256) :: dec n (x / 256) := rfl
    have hstep : Lib.index (dec (n + 1) x) (dec k y) = if (dec k y).isPrefixOf (dec (n + 1) x) then 0 else if Lib.index (dec n (x / 256)) (dec k y) == -1 then -1 else Lib.index (dec n (x / 256)) (dec k y) + 1 := by
      rw [hd]; rfl
    rw [hstep, prefix_dec hy]
    by_cases hk : k ≤ n + 1
    · have h1 : Nat.ble k (n + 1) = true := by rw [Nat.ble_eq]; exact hk
      have h2 : Nat.blt (n + 1) k = false := by rw [← Bool.not_eq_true, Nat.blt_eq]; omega
      rw [h1, h2, Bool.true_and, cond_false, show Nat.succ (Nat.sub (n + 1) k) = (n + 1 - k) + 1 from rfl, idxStr_succ]
      cases hb : Nat.beq (x % 256 ^ k) y with
      | true => simp
      | false =>
        simp only [Bool.false_eq_true, if_false, cond_false]
        have hr : (bif Nat.blt n k then (-1 : Int) else idxStr (Nat.succ (Nat.sub n k)) (x / 256) (256 ^ k) y (i + 1)) = idxStr (n + 1 - k) (x / 256) (256 ^ k) y (i + 1) := by
          by_cases hk2 : k ≤ n
          · have : Nat.blt n k = false := by rw [← Bool.not_eq_true, Nat.blt_eq]; omega
            rw [this, cond_false]
            congr 1
            show n - k + 1 = n + 1 - k
            omega
          · have : Nat.blt n k = true := by rw [Nat.blt_eq]; omega
            rw [this, cond_true, show n + 1 - k = 0 by omega, idxStr_zero]
        rw [← hr, ← ih']
        by_cases he : Lib.index (dec n (x / 256)) (dec k y) = -1
        · simp [he]
        · simp only [beq_iff_eq, he, if_false]
          rw [if_neg (by omega)]
          push_cast; omega
    · have h1 : Nat.ble k (n + 1) = false := by rw [← Bool.not_eq_true, Nat.ble_eq]; exact hk
      have h2 : Nat.blt (n + 1) k = true := by rw [Nat.blt_eq]; omega
      have h3 : Nat.blt n k = true := by rw [Nat.blt_eq]; omega
      rw [h3, cond_true] at ih'
      rw [h1, h2, Bool.false_and, cond_true]
      simp only [Bool.false_eq_true, if_false]
      have he : Lib.index (dec n (x / 256)) (dec k y) = -1 := by
        by_cases he : Lib.index (dec n (x / 256)) (dec k y) = -1
        · exact he
        · rw [if_neg he] at ih'; push_cast at ih'; omega
      simp [he]
theorem byte_lt {a b : Nat} (ha : a < 256) (hb : b < 256) : (UInt8.ofNat a < UInt8.ofNat b) ↔ a < b := by
  rw [UInt8.lt_iff_toNat_lt]
  simp [Nat.mod_eq_of_lt ha, Nat.mod_eq_of_lt hb]
theorem cmp_dec : ∀ (n m x y : Nat), x < 256 ^ n → y < 256 ^ m → Lib.compareBytes (dec n x) (dec m y) = bif strLt n m x y then -1 else bif Nat.beq n m && Nat.beq x y then 0 else 1
  | 0, 0, x, y, hx, hy => by
    have : x = 0 := by simpa using hx
    have : y = 0 := by simpa using hy
    subst x y; rfl
  | 0, m + 1, x, y, hx, hy => rfl
  | n + 1, 0, x, y, hx, hy => by
    simp only [dec, Lib.compareBytes, strLt, cond_false]
    rfl
  | n + 1, m + 1, x, y, hx, hy => by
    have hx' : x % 256 < 256 := Nat.mod_lt _ (by omega)
    have hy' : y % 256 < 256 := Nat.mod_lt _ (by omega)
    have ih := cmp_dec n m (x / 256) (y / 256) (by rw [Nat.pow_succ] at hx; omega) (by rw [Nat.pow_succ] at hy; omega)
    simp only [dec, Lib.compareBytes, strLt, byte_lt hx' hy', byte_lt hy' hx', ih]
    by_cases h1 : x % 256 < y % 256
    · have : Nat.blt (x % 256) (y % 256) = true := by rw [Nat.blt_eq]; exact h1
      rw [if_pos h1, this]; rfl
    · have hb : Nat.blt (x % 256) (y % 256) = false := by rw [← Bool.not_eq_true, Nat.blt_eq]; exact h1
      rw [if_neg h1, hb, cond_false]
      by_cases h2 : y % 256 < x % 256
      · have he : Nat.beq (x % 256) (y % 256) = false := nbeq (by omega)
        have hne : Nat.beq x y = false := nbeq (fun q => by rw [q] at h2; omega)
        rw [if_pos h2, he, hne, Bool.and_false]; rfl
      · have he : x % 256 = y % 256 := by omega
        rw [if_neg h2, he, Nat.beq_refl, cond_true]
        cases strLt n m (x / 256) (y / 256) with
        | true => rfl
        | false =>
          simp only [cond_false]
          have e1 : Nat.beq (n + 1) (m + 1) = Nat.beq n m := rfl
          have e2 : Nat.beq (x / 256) (y / 256) = Nat.beq x y := by
            by_cases q : x = y
            · rw [q, Nat.beq_refl, Nat.beq_refl]
            · rw [nbeq q, nbeq (by omega)]
          rw [e1, e2]
section
variable {cf : Cf} {base : Nat} {E : World → Prop}
theorem gives_of_calls {P : Program} {f : FuncId} {fn : Func} {c : Code} (hf : P.funcs[f]? = some fn) (hn : (fn.name == "runtime.NumGoroutine") = false) (hb : fn.body = some c) {Γ : Tie} {m : Mem} {w : World} {args : Array Value} {v : AV} {u : Value}
    (hR : Rep base Γ m.H w) (hr : rel Γ v u) (h : Calls P f args w fun e w' => e = .returned u ∧ w' = w) : CallGives P base Γ m w f args v m := by
  have h1 : fn.name ≠ "runtime.NumGoroutine" := by simpa using hn
  refine .inr ⟨by simp [callFunc, hf, h1, hb], Calls.mono h fun e w' ⟨h2, h3⟩ => ?_⟩
  subst h3
  exact ⟨u, Γ, h2, hr, Moves.refl hR⟩
theorem hdIndex_ok (hP : cf.P = Tryz.prog) (hE : ∀ w, E w → ∃ m, w.cell? ⟨0, 0, none⟩ = some (.int .i64 m)) : HdOk cf base E 55 hdIndex := by
  intro args m v m' h
  unfold hdIndex at h
  split at h
  case h_2 => cases h
  rename_i n x k y
  obtain ⟨hn, h⟩ := bif_none h
  cases h
  refine ⟨Nat.le_refl _, fun Γ w cs hl hst hF => ?_⟩
  simp only [relL, rel] at hl
  obtain ⟨a1, l1, rfl, ⟨rfl, hx⟩, a2, l2, rfl, ⟨rfl, hy⟩, rfl⟩ := hl
  obtain ⟨mx, hm⟩ := hE w hst.env
  have hs : (strOf n x).size = n := by simp [strOf, ByteArray.size, dec_length]
  have hc := Tryz.strings_Index (strOf n x) (strOf k y) mx w (by rw [hs]; exact nblt hn) hm
  have hv := index_dec hy n x 0
  have hge := Lib.index_ge (dec n x) (dec k y)
  have hv' : Lib.index (dec n x) (dec k y) = bif Nat.blt n k then -1 else idxStr (Nat.succ (Nat.sub n k)) x (256 ^ k) y 0 := by
    rw [← hv]
    split
    · rename_i e; exact e
    · simp
  rw [hP]
  refine gives_of_calls Tryz.func55 (by kernel_rfl) rfl hst.rep ?_ hc
  simp only [rel]
  show Value.int .i64 (Lib.index (dec n x) (dec k y)) = _
  rw [hv']
theorem hdCmp_ok (hP : cf.P = Tryz.prog) : HdOk cf base E 98 hdCmp := by
  intro args m v m' h
  unfold hdCmp at h
  split at h
  case h_2 => cases h
  rename_i n x k y
  cases h
  refine ⟨Nat.le_refl _, fun Γ w cs hl hst hF => ?_⟩
  simp only [relL, rel] at hl
  obtain ⟨a1, l1, rfl, ⟨rfl, hx⟩, a2, l2, rfl, ⟨rfl, hy⟩, rfl⟩ := hl
  have hc := Tryz.strings_Compare (strOf n x) (strOf k y) w
  rw [hP]
  refine gives_of_calls Tryz.func98 (by kernel_rfl) rfl hst.rep ?_ hc
  simp only [rel]
  show Value.int .i64 (Lib.compareBytes (dec n x) (dec k y)) = _
  rw [cmp_dec n k x y hx hy]
end
end Go.Proofs.YtkodlgmeplggdaaGreatDoor
