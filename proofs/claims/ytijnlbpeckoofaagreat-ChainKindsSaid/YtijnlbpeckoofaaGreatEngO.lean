/- A machine that runs closed calls: sums, comparisons, parts. -/
import Derived.Test.YtijnlbpeckoofaaGreatEngN
set_option linter.unusedVariables false
set_option linter.unusedSimpArgs false
namespace Go.Proofs.YtijnlbpeckoofaaGreat
open Go.RowKit
variable {P : Program} {base : Nat} {Γ : Tie} {m : Mem} {w : World} {ev : Operand → Option AV} {ρ : Operand → Value}

theorem binInt_ok {op : BinOp} {k : IntKind} {x y : Int} {v : AV} (h : binInt op k x y = some v) (hop : op ≠ .shl ∧ op ≠ .shr) (t : TypeId) (w : World) : ∃ c, (binOp op t (.int k x) (.int k y)).run P w = .ok c w ∧ rel Γ v c := by
  cases op <;> simp only [binInt] at h
  case shl => exact absurd rfl hop.1
  case shr => exact absurd rfl hop.2
  case quo =>
    split at h
    · cases h
    · rename_i hy; cases h; exact ⟨_, by simp [binOp, Op.intDiv, hy]; rfl, by simp only [rel]⟩
  case rem =>
    split at h
    · cases h
    · rename_i hy; cases h; exact ⟨_, by simp [binOp, Op.intDiv, hy]; rfl, by simp only [rel]⟩
  case and => cases h; exact ⟨.int k (k.wrap (BitVec.ofInt k.bits x &&& BitVec.ofInt k.bits y).toNat), by simp only [binOp, Op.intBits]; simp, by simp only [rel]⟩
  case or => cases h; exact ⟨.int k (k.wrap (BitVec.ofInt k.bits x ||| BitVec.ofInt k.bits y).toNat), by simp only [binOp, Op.intBits]; simp, by simp only [rel]⟩
  case xor => cases h; exact ⟨.int k (k.wrap (BitVec.ofInt k.bits x ^^^ BitVec.ofInt k.bits y).toNat), by simp only [binOp, Op.intBits]; simp, by simp only [rel]⟩
  case andNot => cases h; exact ⟨.int k (k.wrap (BitVec.ofInt k.bits x &&& ~~~BitVec.ofInt k.bits y).toNat), by simp only [binOp, Op.intBits]; simp, by simp only [rel]⟩
  all_goals first
    | (cases h; exact ⟨_, by simp [binOp, Op.intArith, Op.intCmp]; rfl, by simp only [rel]⟩)
    | cases h
theorem bytesLess_dec : ∀ (n m x y : Nat), Op.bytesLess (dec n x) (dec m y) = strLt n m x y
  | n, 0, x, y => by cases n <;> simp [dec, Op.bytesLess, strLt]
  | 0, m + 1, x, y => by simp [dec, Op.bytesLess, strLt]
  | n + 1, m + 1, x, y => by
    simp only [dec, Op.bytesLess, strLt, bytesLess_dec n m]
    have hx : x % 256 < 256 := Nat.mod_lt _ (by decide)
    have hy : y % 256 < 256 := Nat.mod_lt _ (by decide)
    have e1 : decide (UInt8.ofNat (x % 256) < UInt8.ofNat (y % 256)) = Nat.blt (x % 256) (y % 256) := by
      rw [Bool.eq_iff_iff]; simp [UInt8.lt_iff_toNat_lt, Nat.blt_eq]
    have e2 : (UInt8.ofNat (x % 256) == UInt8.ofNat (y % 256)) = Nat.beq (x % 256) (y % 256) := by
      rw [Bool.eq_iff_iff]; simp only [beq_iff_eq, Nat.beq_eq, ← UInt8.toNat_inj]; simp
    rw [e1, e2]
    cases Nat.blt (x % 256) (y % 256) <;> cases Nat.beq (x % 256) (y % 256) <;> simp
theorem dec_beq {n m x y : Nat} (hx : x < 256 ^ n) (hy : y < 256 ^ m) : (dec n x == dec m y) = (Nat.beq n m && Nat.beq x y) := by
  rw [Bool.eq_iff_iff]
  simp only [beq_iff_eq, Bool.and_eq_true, Nat.beq_eq]
  constructor
  · intro h
    have hl : n = m := by rw [← dec_length n x, ← dec_length m y, h]
    subst hl
    exact ⟨rfl, dec_inj n hx hy h⟩
  · rintro ⟨rfl, rfl⟩; rfl
theorem strOf_toList (n x : Nat) : (strOf n x).toList = dec n x := by
  rw [ByteArray.toList_eq]
theorem strOf_append {n m x y : Nat} (hx : x < 256 ^ n) : strOf n x ++ strOf m y = strOf (n + m) (x + 256 ^ n * y) := by
  apply ByteArray.ext
  apply Array.ext'
  simp [strOf, ByteArray.data_append, dec_append n m x y hx]
theorem add_lt {n m x y : Nat} (hx : x < 256 ^ n) (hy : y < 256 ^ m) : x + 256 ^ n * y < 256 ^ (n + m) := by
  rw [Nat.pow_add]
  calc x + 256 ^ n * y < 256 ^ n + 256 ^ n * y := by omega
    _ = 256 ^ n * (y + 1) := by rw [Nat.mul_add, Nat.mul_one, Nat.add_comm]
    _ ≤ 256 ^ n * 256 ^ m := Nat.mul_le_mul_left _ hy
theorem binStr_ok {op : BinOp} {n x k y : Nat} {v : AV} (h : binStr op n x k y = some v) (hx : x < 256 ^ n) (hy : y < 256 ^ k) (t : TypeId) (w : World) : ∃ c, (binOp op t (.string (strOf n x)) (.string (strOf k y))).run P w = .ok c w ∧ rel Γ v c := by
  have hb := dec_beq hx hy
  cases op <;> simp only [binStr] at h
  case add =>
    cases hle : Nat.ble (n + k) 9223372036854775807 with
    | false => rw [hle] at h; cases h
    | true =>
      rw [hle] at h
      cases h
      have hle' := Nat.le_of_ble_eq_true hle
      refine ⟨.string (strOf (n + k) (x + 256 ^ n * y)), ?_, ?_⟩
      rotate_left
      · simp only [rel]; exact ⟨trivial, add_lt hx hy⟩
      · have hs1 : (strOf n x).size = n := by simp [strOf, ByteArray.size, dec_length]
        have hs2 : (strOf k y).size = k := by simp [strOf, ByteArray.size, dec_length]
        simp only [binOp, Op.stringOp, hs1, hs2]
        have : ¬ (((n + k : Nat) : Int) > IntKind.i64.max) := by
          simp [IntKind.max, IntKind.signed, IntKind.bits]; omega
        rw [if_neg this, strOf_append hx]
        rfl
  case eql => cases h; refine ⟨.bool (Nat.beq n k && Nat.beq x y), ?_, by simp only [rel]⟩; simp [binOp, Op.stringOp, strOf_toList, hb]
  case neq => cases h; refine ⟨.bool (!(Nat.beq n k && Nat.beq x y)), ?_, by simp only [rel]⟩; simp only [binOp, Op.stringOp, strOf_toList, hb]; rfl
  case lss => cases h; refine ⟨.bool (strLt n k x y), ?_, by simp only [rel]⟩; simp [binOp, Op.stringOp, strOf_toList, bytesLess_dec]
  case leq => cases h; refine ⟨.bool (strLt n k x y || (Nat.beq n k && Nat.beq x y)), ?_, by simp only [rel]⟩; simp only [binOp, Op.stringOp, strOf_toList, bytesLess_dec, hb]; rfl
  case gtr => cases h; refine ⟨.bool (!(strLt n k x y || (Nat.beq n k && Nat.beq x y))), ?_, by simp only [rel]⟩; simp only [binOp, Op.stringOp, strOf_toList, bytesLess_dec, hb]; rfl
  case geq => cases h; refine ⟨.bool (!(strLt n k x y)), ?_, by simp only [rel]⟩; simp only [binOp, Op.stringOp, strOf_toList, bytesLess_dec]; rfl
  all_goals cases h
end Go.Proofs.YtijnlbpeckoofaaGreat
