/- The walks of token.puts, token.fixed, token.Text. -/
import Derived.Test.YtgkhnpldjdbmoaaGreatDoorC26
import Derived.Test.YtgkhnpldjdbmoaaGreatDoorC29
import Derived.Test.YtgkhnpldjdbmoaaGreatDoorC18
set_option linter.unusedVariables false
set_option linter.unusedSimpArgs false
namespace Go.Proofs.YtgkhnpldjdbmoaaGreatDoor
open Go.RowKit

def fnV (f : FuncId) : Value := .func (.func f) #[] #[]
def putsA : Array Value := #[.nilFunc, .nilFunc, fnV 127, fnV 128, fnV 129, .nilFunc, .nilFunc, .nilFunc, .nilFunc, fnV 130]
def fixedA : Array Value := #[.string ⟨#[]⟩, .string ⟨#[]⟩, .string ⟨#[]⟩, .string ⟨#[]⟩, .string ⟨#[]⟩, .string ⟨#[91]⟩, .string ⟨#[93]⟩, .string ⟨#[60, 60]⟩, .string ⟨#[62, 62]⟩, .string ⟨#[]⟩]
set_option maxRecDepth 100000 in
set_option maxHeartbeats 2000000 in
theorem puts_any (w : World) : Calls Tryz.prog 65 #[] w fun e w' => e = .returned (.agg putsA) ∧ Below w.heap.size w w' := by
  have hl := run_loadVar_new (P := Tryz.prog) w 89 putsA 10 88 Tryz.underlying89 (by kernel_rfl)
  go_enter Tryz.func65, Tryz.ntmps65
  go_wp2_with (refine wpList_store_row rfl 89 _ _ rfl w.heap.size putsA rfl (by kernel_rfl) 89 #[.nilFunc, .nilFunc, .nilFunc, .nilFunc, .nilFunc, .nilFunc, .nilFunc, .nilFunc, .nilFunc, .nilFunc] (heap_alloc_last w _) (by kernel_rfl) (by kernel_rfl) (by kernel_rfl) ?_; rw [World.setRow_alloc_new])
  refine bodyPost_ret (v := .agg putsA) ?_ rfl ⟨rfl, (Below.refl _ _).alloc (Nat.le_refl _) _⟩
  simp only [results, Tryz.results65]
  simp [Sem.run_bind, Result.andThen, asAddr, hl, Act.put]
set_option maxRecDepth 100000 in
set_option maxHeartbeats 2000000 in
theorem fixed_any (w : World) : Calls Tryz.prog 67 #[] w fun e w' => e = .returned (.agg fixedA) ∧ Below w.heap.size w w' := by
  have hl := run_loadVar_new (P := Tryz.prog) w 92 fixedA 10 9 Tryz.underlying92 (by kernel_rfl)
  go_enter Tryz.func67, Tryz.ntmps67
  go_wp2_with (refine wpList_store_row rfl 92 _ _ rfl w.heap.size fixedA rfl (by kernel_rfl) 92 #[.string ⟨#[]⟩, .string ⟨#[]⟩, .string ⟨#[]⟩, .string ⟨#[]⟩, .string ⟨#[]⟩, .string ⟨#[]⟩, .string ⟨#[]⟩, .string ⟨#[]⟩, .string ⟨#[]⟩, .string ⟨#[]⟩] (heap_alloc_last w _) (by kernel_rfl) (by kernel_rfl) (by kernel_rfl) ?_; rw [World.setRow_alloc_new])
  refine bodyPost_ret (v := .agg fixedA) ?_ rfl ⟨rfl, (Below.refl _ _).alloc (Nat.le_refl _) _⟩
  simp only [results, Tryz.results67]
  simp [Sem.run_bind, Result.andThen, asAddr, hl, Act.put]

/-- A token's value: its kind, its number, its bytes, its places. -/
def tokW (k n : Int) (s : ByteArray) (f t : Int) : Value := .agg #[.int .i64 k, .int .i64 n, .string s, .int .i64 f, .int .i64 t]

set_option maxRecDepth 100000 in
set_option maxHeartbeats 2000000 in
theorem text_bad (k n : Int) (s : ByteArray) (f t : Int) (w : World) (h0 : k < 0 ∨ 9 < k ∨ (k ≠ 1 ∧ n ≠ 0)) :
    Calls Tryz.prog 25 #[tokW k n s f t] w fun e w' => e = .returned (strV (textT k n s.data.toList)) ∧ Below w.heap.size w w' := by
  unfold tokW
  have HR : Hid (textT k n s.data.toList = ([], 2)) := Lib.hid (by unfold textT; rw [if_pos h0])
  have h1 : k < 0 ∨ (¬ k < 0 ∧ 9 < k) ∨ (¬ k < 0 ∧ ¬ 9 < k ∧ (k != 1) = true ∧ (n != 0) = true) := by
    simp only [bne_iff_ne, ne_eq]; omega
  clear h0
  rcases h1 with h1 | ⟨h1, h2⟩ | ⟨h1, h2, h3, h4⟩
  all_goals
    go_enter Tryz.func25, Tryz.ntmps25
    go_wp2
    go_ret2
    exact ⟨by rw [HR.out]; rfl, by (repeat' (first | (with_reducible exact Below.refl _ _) | (with_reducible assumption) | (with_reducible refine Below.alloc ?_ ?_ _) | (with_reducible refine below_drewN ?_ _) | (with_reducible refine Below.drew ?_) | (with_reducible refine Below.setCell ?_ ?_ _) | (with_reducible refine below_trans ?_ (by assumption)) | (with_reducible exact Nat.le_refl _) | (with_reducible exact Below.size (by assumption)) | omega | (simp; omega) | (simp; done)))⟩
end Go.Proofs.YtgkhnpldjdbmoaaGreatDoor
