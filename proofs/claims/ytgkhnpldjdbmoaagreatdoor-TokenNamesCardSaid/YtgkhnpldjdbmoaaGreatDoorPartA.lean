/- The walk of token.part. (Written by gen_part.py.) -/
import Derived.Test.YtgkhnpldjdbmoaaGreatDoorC16
import Derived.Deep.DeepCutAuto
set_option linter.unusedVariables false
set_option linter.unusedSimpArgs false
namespace Go.Proofs.YtgkhnpldjdbmoaaGreatDoor
open Go.RowKit

def lexErr : Lexed → Nat
  | .err e => e
  | .ok _ _ => 0
/-- What part hands back: the token, if there is one, and the code. -/
def PartPost (k : Nat) (L : Lexed) (v : Ending) : Prop := ∃ t : Tok, v = .returned (.tuple #[tokV t, .int .i64 (lexErr L : Int)]) ∧ ∀ T n, L = .ok T n → t = ⟨T, k, k + n⟩
/-- Is the next byte the same? -/
def pairB (s : ByteArray) (k : Nat) (h : k < s.size) : Bool := (s.data.toList.drop (k + 1)).head? == some s[k]
theorem pairB_in {s : ByteArray} {k : Nat} (h : k < s.size) (h1 : k + 1 < s.size) : pairB s k h = ((s[k + 1].toNat : Int) == (s[k].toNat : Int)) := by
  unfold pairB
  rw [drop_at h1, List.head?_cons]
  by_cases he : s[k + 1] = s[k]
  · rw [he]; simp
  · have h3 : ¬ (s[k + 1].toNat = s[k].toNat) := fun h => he (UInt8.toNat_inj.1 h)
    have h4 : ((s[k + 1].toNat : Int) == (s[k].toNat : Int)) = false := by simp only [beq_eq_false_iff_ne, ne_eq]; omega
    rw [h4]; simp [he]
theorem pairB_out {s : ByteArray} {k : Nat} (h : k < s.size) (h1 : ¬ k + 1 < s.size) : pairB s k h = false := by
  unfold pairB
  rw [drop_end (by omega)]; rfl

def cs0 : Nat → Option Value := fun j => #[Value.int IntKind.i64 0, .int IntKind.i64 0, .string ⟨#[]⟩, .int IntKind.i64 0, .int IntKind.i64 0][j]?

theorem part_start (w : World) (k : Nat) (nq : Nat) : PW w.heap.size k cs0 (((w.alloc (Obj.cells #[Value.int IntKind.i64 ↑k] 3)).alloc (Obj.cells #[Value.int IntKind.i64 0, Value.int IntKind.i64 0, Value.string ⟨#[]⟩, Value.int IntKind.i64 0, Value.int IntKind.i64 0] 47)).drewN nq) ∧ Below w.heap.size w (((w.alloc (Obj.cells #[Value.int IntKind.i64 ↑k] 3)).alloc (Obj.cells #[Value.int IntKind.i64 0, Value.int IntKind.i64 0, Value.string ⟨#[]⟩, Value.int IntKind.i64 0, Value.int IntKind.i64 0] 47)).drewN nq) := by
  refine ⟨⟨?_, ?_, fun j => ?_, fun j => ?_, ?_⟩, ?_⟩
  · go_simp
  · go_simp
  · unfold cs0
    match j with
    | 0 | 1 | 2 | 3 | 4 => go_simp
    | j + 5 => go_simp
  · go_simp
  · simp
  · exact below_drewN ((((Below.refl w.heap.size w).alloc (Nat.le_refl _) _)).alloc (by simp) _) nq

theorem part_done {k : Nat} {L : Lexed} {t : Tok} {v : Value} (hv : v = .tuple #[tokV t, .int .i64 (lexErr L : Int)]) (h : ∀ T n, L = .ok T n → t = ⟨T, k, k + n⟩) : PartPost k L (.returned v) := ⟨t, by rw [hv], h⟩
end Go.Proofs.YtgkhnpldjdbmoaaGreatDoor
