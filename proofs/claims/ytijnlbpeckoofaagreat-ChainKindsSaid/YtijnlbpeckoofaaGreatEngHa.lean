/- A machine that runs closed calls: the library's functions without a body. -/
import Derived.Test.YtijnlbpeckoofaaGreatEngDh
import Derived.Test.YtijnlbpeckoofaaGreatProg
import Derived.KernelRfl
import Derived.Laws.Externs
import Derived.Laws.StandIn
import Derived.Lib.Builder
set_option linter.unusedVariables false
set_option linter.unusedSimpArgs false
namespace Go.Proofs.YtijnlbpeckoofaaGreat
open Go.RowKit

/-- The first place of a byte. -/
noncomputable def idxByte (n x c : Nat) : Nat → Int :=
  @Nat.rec (fun _ => Nat → Nat → Int) (fun _ _ => -1) (fun _ go x i => bif Nat.beq (Nat.mod x 256) c then Int.ofNat i else go (Nat.div x 256) (Nat.succ i)) n x
theorem idxByte_zero (x c i : Nat) : idxByte 0 x c i = -1 := rfl
theorem idxByte_succ (n x c i : Nat) : idxByte (n + 1) x c i = bif Nat.beq (x % 256) c then Int.ofNat i else idxByte n (x / 256) c (i + 1) := rfl
noncomputable def hdByte : List AV → Mem → Option (AV × Mem) := fun args m => match args with
  | [.str n x, .int .u8 (.ofNat c)] => bif Nat.blt c 256 then some (.int .i64 (idxByte n x c 0), m) else none
  | _ => none
noncomputable def hdSame : List AV → Mem → Option (AV × Mem) := fun args m => match args with
  | [a] => some (a, m)
  | _ => none
theorem find_range (p : Nat → Bool) : ∀ (n i : Nat), ((List.range' i (n + 1)).find? p) = if p i then some i else (List.range' (i + 1) n).find? p := by
  intro n i
  rw [List.range'_succ, List.find?_cons]
  cases p i <;> simp
theorem idxByte_ok {c : Nat} : ∀ (n x i : Nat) (s : Nat → Nat), (∀ j, j < n → s (i + j) = x / 256 ^ j % 256) → (match (List.range' i n).find? fun k => Nat.beq (s k) c with | some k => (k : Int) | none => -1) = idxByte n x c i := by
  intro n
  induction n with
  | zero => intro x i s h; rfl
  | succ n ih =>
    intro x i s h
    rw [find_range, idxByte_succ]
    have h0 : s i = x % 256 := by have := h 0 (by omega); simpa using this
    rw [h0]
    cases hb : Nat.beq (x % 256) c with
    | true => rfl
    | false =>
      simp only [Bool.false_eq_true, if_false, cond_false]
      exact ih (x / 256) (i + 1) s fun j hj => by
        have := h (j + 1) (by omega)
        rw [show i + 1 + j = i + (j + 1) by omega, this, Nat.pow_succ, Nat.mul_comm, ← Nat.div_div_eq_div_mul]
theorem firstIdx_ok {n x c : Nat} (hc : c < 256) : firstIdx (strOf n x) ((c : Int).toNat.toUInt8) = idxByte n x c 0 := by
  rw [← idxByte_ok n x 0 (fun k => x / 256 ^ k % 256) fun j _ => by simp]
  unfold firstIdx
  have hs : (strOf n x).size = n := by simp [strOf, ByteArray.size, dec_length]
  rw [hs, List.range_eq_range']
  have : ∀ (l : List Nat), (∀ k ∈ l, k < n) → l.find? (fun i => (strOf n x)[i]! == ((c : Int).toNat.toUInt8)) = l.find? (fun k => Nat.beq (x / 256 ^ k % 256) c) := by
    intro l
    induction l with
    | nil => intro _; rfl
    | cons k l ih =>
      intro h
      have hk : k < n := h k List.mem_cons_self
      have hg : (strOf n x)[k]! = UInt8.ofNat (x / 256 ^ k % 256) := by
        have h1 := dec_get n x k hk
        rw [getElem!_pos (strOf n x) k (by rw [hs]; exact hk)]
        have h2 : (strOf n x)[k]'(by rw [hs]; exact hk) = (dec n x)[k]'(by rw [dec_length]; exact hk) := rfl
        rw [h2]
        rw [List.getElem?_eq_getElem (by rw [dec_length]; exact hk)] at h1
        exact Option.some.inj h1
      have hb : ((strOf n x)[k]! == ((c : Int).toNat.toUInt8)) = Nat.beq (x / 256 ^ k % 256) c := by
        rw [hg, Bool.eq_iff_iff, beq_iff_eq]
        have h1 : x / 256 ^ k % 256 < 256 := Nat.mod_lt _ (by omega)
        constructor
        · intro e
          have := congrArg UInt8.toNat e
          simp at this
          rw [show x / 256 ^ k % 256 = c by omega, Nat.beq_refl]
        · intro e
          rw [Nat.eq_of_beq_eq_true e]; simp
      rw [List.find?_cons, List.find?_cons, hb, ih fun k hk => h k (List.mem_cons_of_mem _ hk)]
  rw [this (List.range' 0 n) fun k hk => by simp at hk; omega]
  cases (List.range' 0 n).find? fun k => Nat.beq (x / 256 ^ k % 256) c <;> rfl
section
variable {cf : Cf} {base : Nat} {E : World → Prop}


















theorem hdSame_ok (hP : cf.P = Tryz.prog) : HdOk cf base E 159 hdSame := by
  intro args m v m' h
  unfold hdSame at h
  split at h
  case h_2 => cases h
  rename_i a
  cases h
  refine ⟨Nat.le_refl _, fun Γ w cs hl hst hF => .inl ?_⟩
  simp only [relL] at hl
  obtain ⟨c, l, rfl, hr, rfl⟩ := hl
  refine ⟨c, w, Γ, ?_, hr, Moves.refl hst.rep⟩
  rw [hP, run_callFunc_extern Tryz.func159 (by kernel_rfl) (by kernel_rfl) (by kernel_rfl) (e := Extern.AbiNoEscape.same) (by kernel_rfl)]
  rfl
end
end Go.Proofs.YtijnlbpeckoofaaGreat
