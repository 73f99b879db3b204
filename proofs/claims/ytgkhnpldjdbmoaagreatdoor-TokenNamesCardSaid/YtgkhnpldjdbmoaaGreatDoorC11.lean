/- The walk of text.Literal. -/
import Derived.Test.YtgkhnpldjdbmoaaGreatDoorC10
import Derived.Test.YtgkhnpldjdbmoaaGreatDoorC8
import Derived.Test.YtgkhnpldjdbmoaaGreatDoorC2
set_option linter.unusedVariables false
set_option linter.unusedSimpArgs false
namespace Go.Proofs.YtgkhnpldjdbmoaaGreatDoor
open Go.RowKit

theorem escaped_out (l : Bytes) : (escaped l).1.length ≤ 1 := by
  unfold escaped
  split
  · simp
  · cases l with
    | nil => simp
    | cons c l =>
      simp only []
      split
      · simp
      · split <;> simp
theorem octN_pos {k n : Nat} {c : UInt8} {l : Bytes} (h : isOctal c = true) : 0 < (octN (k + 1) n (c :: l)).2 := by rw [octN_step h]; simp
theorem escaped_pos (l : Bytes) : 0 < (escaped l).2 := by
  unfold escaped
  split
  · assumption
  · cases l with
    | nil => simp
    | cons c l =>
      simp only []
      split
      · rename_i h; exact octN_pos h
      · split <;> simp
theorem Res.more_more (r : Res) (a b : Nat) : (r.more a).more b = r.more (a + b) := by
  cases r <;> simp [Res.more, Nat.add_assoc]

/-- What a literal's reading answers. -/
def resV (k : Nat) : Res → Value
  | .err e => .tuple #[.string (bs []), .int .i64 0, .int .i64 e]
  | .ok v u => .tuple #[.string (bs v), .int .i64 ((k + u : Nat) : Int), .int .i64 0]
/-- How far a literal has come: at place p, o brackets open, 'out' told. -/
def litTo (l : Bytes) (k p o : Nat) (out : Bytes) (r : Res) : Prop := ∃ fuel, l.length ≤ fuel + p ∧ (litGo fuel o out (l.drop p)).more (p - k) = r

theorem litTo_round {s : ByteArray} {k p o : Nat} {out : Bytes} {r : Res} (h : litTo s.data.toList k p o out r) (hp : p < s.size) :
    ∃ fuel, s.data.toList.length ≤ fuel + 1 + p ∧ (litGo (fuel + 1) o out (s[p] :: s.data.toList.drop (p + 1))).more (p - k) = r := by
  obtain ⟨fuel, h1, h2⟩ := h
  have hz := size_list s
  rw [drop_at hp] at h2
  cases fuel with
  | zero => omega
  | succ f => exact ⟨f, by omega, h2⟩
theorem litTo_end {s : ByteArray} {k p o : Nat} {out : Bytes} {r : Res} (h : litTo s.data.toList k p o out r) (hp : s.size ≤ p) : r = .err 8 := by
  obtain ⟨fuel, h1, h2⟩ := h
  rw [drop_end hp] at h2
  rw [← h2]; cases fuel <;> rfl

theorem lit_back_end {s : ByteArray} {k p o : Nat} {out : Bytes} {r : Res} (h : litTo s.data.toList k p o out r) (hp : p < s.size) (hc : (s[p] == 92) = true) (he : s.size ≤ p + 1) : r = .err 8 := by
  obtain ⟨f, h1, h2⟩ := litTo_round h hp
  rw [← h2]; simp only [litGo, hc, if_true]; rw [drop_end (by omega)]; rfl
theorem lit_back {s : ByteArray} {k p o : Nat} {out : Bytes} {r : Res} (h : litTo s.data.toList k p o out r) (hk : k ≤ p) (hp : p + 1 < s.size) (hc : (s[p] == 92) = true) :
    litTo s.data.toList k (p + (1 + (escaped (s.data.toList.drop (p + 1))).2)) o (out ++ (escaped (s.data.toList.drop (p + 1))).1) r := by
  obtain ⟨f, h1, h2⟩ := litTo_round h (by omega)
  have hpos := escaped_pos (s.data.toList.drop (p + 1))
  refine ⟨f, by omega, ?_⟩
  rw [← h2]
  simp only [litGo, hc, if_true]
  rw [if_neg (by rw [drop_at hp]; simp), Res.more_more, List.drop_drop, show p + 1 + (escaped (s.data.toList.drop (p + 1))).2 = p + (1 + (escaped (s.data.toList.drop (p + 1))).2) by omega]
  congr 1; omega
theorem lit_eol {s : ByteArray} {k p o : Nat} {out : Bytes} {r : Res} (h : litTo s.data.toList k p o out r) (hk : k ≤ p) (hp : p < s.size) (h92 : (s[p] == 92) = false) (hc : isEol s[p] = true) :
    litTo s.data.toList k (p + eol (s.data.toList.drop p)) o (out ++ [10]) r ∧ 0 < eol (s.data.toList.drop p) := by
  obtain ⟨f, h1, h2⟩ := litTo_round h hp
  have hd := drop_at hp
  have hpos : 0 < eol (s.data.toList.drop p) := by
    rw [hd]; rcases eol_isEol s[p] (s.data.toList.drop (p + 1)) with ⟨_, h⟩ | ⟨h, _⟩
    · rw [hc] at h; cases h
    · exact h
  refine ⟨⟨f, by omega, ?_⟩, hpos⟩
  rw [← h2]
  simp only [litGo, h92, hc, if_true, Bool.false_eq_true, if_false]
  rw [Res.more_more, ← hd, List.drop_drop]
  congr 1; omega
theorem lit_shut {s : ByteArray} {k p o : Nat} {out : Bytes} {r : Res} (h : litTo s.data.toList k p o out r) (hk : k ≤ p) (hp : p < s.size) (hc : (s[p] == 41) = true) (ho : o ≤ 1) :
    r = if 65536 < out.length then .err 3 else .ok out (p - k + 1) := by
  obtain ⟨f, h1, h2⟩ := litTo_round h hp
  simp only [beq_iff_eq] at hc
  rw [← h2]
  simp only [litGo]
  rw [if_neg (by rw [hc]; decide), if_neg (by rw [hc]; decide), if_pos (by rw [hc]; decide), if_pos ho]
  split
  · rfl
  · simp only [Res.more, Res.ok.injEq, true_and]; omega
theorem lit_shut_in {s : ByteArray} {k p o : Nat} {out : Bytes} {r : Res} (h : litTo s.data.toList k p o out r) (hk : k ≤ p) (hp : p < s.size) (hc : (s[p] == 41) = true) (ho : 1 < o) :
    litTo s.data.toList k (p + 1) (o - 1) (out ++ [s[p]]) r := by
  obtain ⟨f, h1, h2⟩ := litTo_round h hp
  simp only [beq_iff_eq] at hc
  refine ⟨f, by omega, ?_⟩
  rw [← h2]
  simp only [litGo]
  rw [if_neg (by rw [hc]; decide), if_neg (by rw [hc]; decide), if_pos (by rw [hc]; decide), if_neg (by omega), Res.more_more]
  congr 1; omega
theorem lit_open {s : ByteArray} {k p o : Nat} {out : Bytes} {r : Res} (h : litTo s.data.toList k p o out r) (hk : k ≤ p) (hp : p < s.size) (hc : (s[p] == 40) = true) :
    litTo s.data.toList k (p + 1) (o + 1) (out ++ [s[p]]) r := by
  obtain ⟨f, h1, h2⟩ := litTo_round h hp
  simp only [beq_iff_eq] at hc
  refine ⟨f, by omega, ?_⟩
  rw [← h2]
  simp only [litGo]
  rw [if_neg (by rw [hc]; decide), if_neg (by rw [hc]; decide), if_neg (by rw [hc]; decide), if_pos (by rw [hc]; decide), Res.more_more]
  congr 1; omega
theorem lit_plain {s : ByteArray} {k p o : Nat} {out : Bytes} {r : Res} (h : litTo s.data.toList k p o out r) (hk : k ≤ p) (hp : p < s.size) (h1 : (s[p] == 92) = false) (h2 : isEol s[p] = false) (h3 : (s[p] == 41) = false) (h4 : (s[p] == 40) = false) :
    litTo s.data.toList k (p + 1) o (out ++ [s[p]]) r := by
  obtain ⟨f, g1, g2⟩ := litTo_round h hp
  refine ⟨f, by omega, ?_⟩
  rw [← g2]
  simp only [litGo, h1, h2, h3, h4, Bool.false_eq_true, if_false]
  rw [Res.more_more]
  congr 1; omega
theorem lit_start (s : ByteArray) (k : Nat) (hk : k < s.size) : litTo s.data.toList k (k + 1) 1 [] (literal (s.data.toList.drop (k + 1))) := by
  have hz := size_list s
  refine ⟨(s.data.toList.drop (k + 1)).length, by rw [List.length_drop]; omega, ?_⟩
  unfold literal
  rw [show k + 1 - k = 1 by omega]
theorem is_lit {b : UInt8} (c : UInt8) (n : Nat) (hn : c.toNat = n) (h : (b == c) = true) : ((b.toNat : Int) == (n : Int)) = true := by
  simp at h ⊢; subst h; omega
theorem not_lit {b : UInt8} (c : UInt8) (n : Nat) (hn : c.toNat = n) (h : (b == c) = false) : ((b.toNat : Int) == (n : Int)) = false := by
  simp at h ⊢; intro h2; apply h; apply UInt8.toNat_inj.1; omega
end Go.Proofs.YtgkhnpldjdbmoaaGreatDoor
