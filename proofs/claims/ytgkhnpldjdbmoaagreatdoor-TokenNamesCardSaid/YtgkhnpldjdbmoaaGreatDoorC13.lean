/- The walk of text.Hex. -/
import Derived.Test.YtgkhnpldjdbmoaaGreatDoorC11
set_option linter.unusedVariables false
set_option linter.unusedSimpArgs false
namespace Go.Proofs.YtgkhnpldjdbmoaaGreatDoor
open Go.RowKit

/-- How far hexadecimal digits have come: what was collected, and what the rest tells. -/
def hexTo (l : Bytes) (k p : Nat) (acc : Bytes) (r : Res) : Prop :=
  (match hexDigits (l.drop p) with | .err e => Res.err e | .ok v u => Res.ok (acc ++ v) (p + u)) = r
theorem hex_round {s : ByteArray} {k p : Nat} {acc : Bytes} {r : Res} (h : hexTo s.data.toList k p acc r) (hp : p < s.size) :
    (match hexDigits (s[p] :: s.data.toList.drop (p + 1)) with | .err e => Res.err e | .ok v u => Res.ok (acc ++ v) (p + u)) = r := by
  unfold hexTo at h; rw [drop_at hp] at h; exact h
theorem hex_end {s : ByteArray} {k p : Nat} {acc : Bytes} {r : Res} (h : hexTo s.data.toList k p acc r) (hp : s.size ≤ p) : r = .err 8 := by
  unfold hexTo at h; rw [drop_end hp] at h; rw [← h]; rfl
theorem hex_shut {s : ByteArray} {k p : Nat} {acc : Bytes} {r : Res} (h : hexTo s.data.toList k p acc r) (hp : p < s.size) (hc : (s[p] == 62) = true) : r = .ok acc (p + 1) := by
  have := hex_round h hp
  simp only [hexDigits, hc, if_true, List.append_nil] at this
  exact this.symm
theorem hex_white {s : ByteArray} {k p : Nat} {acc : Bytes} {r : Res} (h : hexTo s.data.toList k p acc r) (hp : p < s.size) (hc : (s[p] == 62) = false) (hw : isWhite s[p] = true) : hexTo s.data.toList k (p + 1) acc r := by
  have := hex_round h hp
  simp only [hexDigits, hc, hw, if_true, Bool.false_eq_true, if_false] at this
  unfold hexTo
  rw [← this]
  cases hexDigits (s.data.toList.drop (p + 1)) with
  | err e => rfl
  | ok v u => simp only [Res.more, Res.ok.injEq, true_and]; omega
theorem hex_bad {s : ByteArray} {k p : Nat} {acc : Bytes} {r : Res} (h : hexTo s.data.toList k p acc r) (hp : p < s.size) (hc : (s[p] == 62) = false) (hw : isWhite s[p] = false) (hx : hexv s[p] < 0) : r = .err 7 := by
  have := hex_round h hp
  simp only [hexDigits, hc, hw, Bool.false_eq_true, if_false] at this
  rw [if_pos hx] at this
  exact this.symm
theorem hex_digit {s : ByteArray} {k p : Nat} {acc : Bytes} {r : Res} (h : hexTo s.data.toList k p acc r) (hp : p < s.size) (hc : (s[p] == 62) = false) (hw : isWhite s[p] = false) (hx : ¬ hexv s[p] < 0) :
    hexTo s.data.toList k (p + 1) (acc ++ [UInt8.ofNat (hexv s[p]).toNat]) r := by
  have := hex_round h hp
  simp only [hexDigits, hc, hw, Bool.false_eq_true, if_false] at this
  rw [if_neg hx] at this
  unfold hexTo
  rw [← this]
  cases hexDigits (s.data.toList.drop (p + 1)) with
  | err e => rfl
  | ok v u => simp only [Res.ok.injEq, List.append_assoc, List.cons_append, List.nil_append, true_and]; omega
/-- What stands behind the digits. -/
def hexFin : Res → Res
  | .err e => .err e
  | .ok v u => if 65536 < (pairs v).length then .err 3 else .ok (pairs v) u
theorem hexStr_fin (s : ByteArray) (k : Nat) (r : Res) (h : hexTo s.data.toList k (k + 1) [] r) : resV k (hexStr (s.data.toList.drop (k + 1))) = resV 0 (hexFin r) := by
  unfold hexTo at h
  rw [← h]
  unfold hexStr
  cases hexDigits (s.data.toList.drop (k + 1)) with
  | err e => rfl
  | ok v u =>
    simp only [hexFin, List.nil_append]
    split
    · rfl
    · simp only [resV]
      rw [show k + (u + 1) = 0 + (k + 1 + u) by omega]

theorem pairs_two (a b : UInt8) (l : Bytes) : pairs (a :: b :: l) = (16 * a + b) :: pairs l := rfl
theorem pairs_pad (v : Bytes) (h : v.length % 2 = 1) : pairs v = pairs (v ++ [0]) := by
  have : ∀ n (v : Bytes), v.length = n → n % 2 = 1 → pairs v = pairs (v ++ [0]) := by
    intro n
    induction n using Nat.strongRecOn with
    | _ n ih =>
      intro v hv hn
      match v with
      | [] => simp at hv; omega
      | [a] => simp [pairs]
      | a :: b :: l => rw [List.cons_append, List.cons_append, pairs_two, pairs_two, ih l.length (by simp at hv; omega) l rfl (by simp at hv; omega)]
  exact this _ v rfl h
theorem pairs_len (v : Bytes) (h : v.length % 2 = 0) : 2 * (pairs v).length = v.length := by
  have : ∀ n (v : Bytes), v.length = n → n % 2 = 0 → 2 * (pairs v).length = v.length := by
    intro n
    induction n using Nat.strongRecOn with
    | _ n ih =>
      intro v hv hn
      match v with
      | [] => rfl
      | [a] => simp at hv; omega
      | a :: b :: l => have := ih l.length (by simp at hv; omega) l rfl (by simp at hv; omega); rw [pairs_two]; simp; omega
  exact this _ v rfl h
end Go.Proofs.YtgkhnpldjdbmoaaGreatDoor
