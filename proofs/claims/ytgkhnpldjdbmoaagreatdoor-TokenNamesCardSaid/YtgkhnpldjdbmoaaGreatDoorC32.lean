/- The walk of token.Text, kinds that are put by a function. -/
import Derived.Test.YtgkhnpldjdbmoaaGreatDoorC31
set_option linter.unusedVariables false
set_option linter.unusedSimpArgs false
namespace Go.Proofs.YtgkhnpldjdbmoaaGreatDoor
open Go.RowKit

set_option maxRecDepth 100000 in
set_option maxHeartbeats 4000000 in
theorem text_1 (n : Int) (hn : -9223372036854775808 ≤ n ∧ n ≤ 9223372036854775807) (s : ByteArray) (f t : Int) (w : World) (hs : s.size ≤ 140737488355328) (he : EnvP w) :
    Calls Tryz.prog 25 #[tokW 1 n s f t] w fun e w' => e = .returned (strV (textT 1 n s.data.toList)) ∧ Below w.heap.size w w' := by
      have hP := fun W => puts_any W
      have hF := fun W => fixed_any W
      have HP := Lib.hid hP; have HF := Lib.hid hF; clear hP hF
      unfold tokW
      have h0 : True := trivial
      have hS : s = ⟨#[]⟩ ∨ s.data.toList ≠ [] := by
        by_cases h : s.data.toList = []
        · left; apply ByteArray.ext; exact Array.toList_inj.1 h
        · right; exact h
      have ix : ∀ W, (Instr.index 89 (.agg putsA) (.int .i64 1)).run Tryz.prog W = .ok .nilFunc W := fun _ => by kernel_rfl
      have ne : ∀ W, (binOp .neq 88 .nilFunc .nilFunc).run Tryz.prog W = .ok (.bool false) W := fun _ => by kernel_rfl
      rcases hS with rfl | hS
      · have HR : Hid (textT 1 n ([] : Bytes) = intText n) := Lib.hid (by unfold textT; rw [if_neg (by omega), if_neg (by decide), if_neg (by decide), if_neg (by decide), if_neg (by decide), if_neg (by simp), if_pos rfl])
        clear h0
        have hx0 : ∀ j, (w.alloc (.cells #[.int .i64 1, .int .i64 n, .string ⟨#[]⟩, .int .i64 f, .int .i64 t] 47)).cell? ⟨w.heap.size, j, none⟩ = #[Value.int .i64 1, .int .i64 n, .string ⟨#[]⟩, .int .i64 f, .int .i64 t][j]? := fun j => World.cell?_alloc_new _ _ _ _
        have hb0 : Below w.heap.size w (w.alloc (.cells #[.int .i64 1, .int .i64 n, .string ⟨#[]⟩, .int .i64 f, .int .i64 t] 47)).drew := ((Below.refl _ _).alloc (Nat.le_refl _) _).drew
        have HB0 := Lib.hid hb0; clear hb0
        go_enter Tryz.func25, Tryz.ntmps25
        go_upto_region 3 with fail
        go_region_with (go_at_call 65; refine (HP.out _).mono ?_; rintro e w1 ⟨rfl, hb1⟩; have x0 := cell_below hb1 (hx0 0); have x1 := cell_below hb1 (hx0 1); have x2 := cell_below hb1 (hx0 2); have hB1 := HB0.out.trans (hb1.mono (by simp)); have hE := he.env.below hB1; have hEP := he.below hB1)
        all_goals
          go_wp2_with (go_at_call 66; refine (intText_any n _ hn.1 hn.2 hEP).mono ?_; rintro e w2 ⟨rfl, hb2⟩; unfold strV)
          go_ret2
          exact ⟨by show _ = Ending.returned (strV (textT 1 n [])); rw [HR.out]; rfl, hB1.trans (hb2.mono hB1.size)⟩
      · have HR : Hid (textT 1 n s.data.toList = ([], 2)) := Lib.hid (by unfold textT; rw [if_neg (by omega), if_neg (by decide), if_neg (by decide), if_neg (by decide), if_neg (by decide), if_pos hS])
        have hse := str_ne_empty hS
        clear h0 hS
        have hx0 : ∀ j, (w.alloc (.cells #[.int .i64 1, .int .i64 n, .string s, .int .i64 f, .int .i64 t] 47)).cell? ⟨w.heap.size, j, none⟩ = #[Value.int .i64 1, .int .i64 n, .string s, .int .i64 f, .int .i64 t][j]? := fun j => World.cell?_alloc_new _ _ _ _
        have hb0 : Below w.heap.size w (w.alloc (.cells #[.int .i64 1, .int .i64 n, .string s, .int .i64 f, .int .i64 t] 47)).drew := ((Below.refl _ _).alloc (Nat.le_refl _) _).drew
        have HB0 := Lib.hid hb0; clear hb0
        go_enter Tryz.func25, Tryz.ntmps25
        go_upto_region 3 with fail
        go_region_with (go_at_call 65; refine (HP.out _).mono ?_; rintro e w1 ⟨rfl, hb1⟩; have x0 := cell_below hb1 (hx0 0); have x1 := cell_below hb1 (hx0 1); have x2 := cell_below hb1 (hx0 2); have hB1 := HB0.out.trans (hb1.mono (by simp)); have hE := he.env.below hB1; have hEP := he.below hB1)
        all_goals
          go_wp2
          go_ret2
          exact ⟨by rw [HR.out]; rfl, hB1⟩
set_option maxRecDepth 100000 in
set_option maxHeartbeats 4000000 in
theorem text_2 (s : ByteArray) (f t : Int) (w : World) (hs : s.size ≤ 140737488355328) (he : EnvP w) :
    Calls Tryz.prog 25 #[tokW 2 0 s f t] w fun e w' => e = .returned (strV (textT 2 0 s.data.toList)) ∧ Below w.heap.size w w' := by
      have hP := fun W => puts_any W
      have hF := fun W => fixed_any W
      have HP := Lib.hid hP; have HF := Lib.hid hF; clear hP hF
      unfold tokW
      have h0 : True := trivial
      have hS : s = ⟨#[]⟩ ∨ s.data.toList ≠ [] := by
        by_cases h : s.data.toList = []
        · left; apply ByteArray.ext; exact Array.toList_inj.1 h
        · right; exact h
      have HR : Hid (textT 2 0 s.data.toList = realPut s.data.toList) := Lib.hid (by unfold textT; rw [if_neg (by omega), if_pos rfl])
      have ix : ∀ W, (Instr.index 89 (.agg putsA) (.int .i64 2)).run Tryz.prog W = .ok (.func (.func 127) #[] #[]) W := fun _ => by kernel_rfl
      have ne : ∀ W, (binOp .neq 88 (.func (.func 127) #[] #[]) .nilFunc).run Tryz.prog W = .ok (.bool true) W := fun _ => by kernel_rfl
      clear hS h0
      have hx0 : ∀ j, (w.alloc (.cells #[.int .i64 2, .int .i64 0, .string s, .int .i64 f, .int .i64 t] 47)).cell? ⟨w.heap.size, j, none⟩ = #[Value.int .i64 2, .int .i64 0, .string s, .int .i64 f, .int .i64 t][j]? := fun j => World.cell?_alloc_new _ _ _ _
      have hb0 : Below w.heap.size w (w.alloc (.cells #[.int .i64 2, .int .i64 0, .string s, .int .i64 f, .int .i64 t] 47)).drew := ((Below.refl _ _).alloc (Nat.le_refl _) _).drew
      have HB0 := Lib.hid hb0; clear hb0
      go_enter Tryz.func25, Tryz.ntmps25
      go_upto_region 3 with fail
      go_region_with (go_at_call 65; refine (HP.out _).mono ?_; rintro e w1 ⟨rfl, hb1⟩; have x0 := cell_below hb1 (hx0 0); have x1 := cell_below hb1 (hx0 1); have x2 := cell_below hb1 (hx0 2); have hB1 := HB0.out.trans (hb1.mono (by simp)); have hE := he.env.below hB1; have hEP := he.below hB1)
      all_goals
        go_wp2_with (go_at_call 127; refine (realPut_any s _ hs hE).mono ?_; rintro e w2 ⟨rfl, hb2⟩; unfold strV)
        go_ret2
        exact ⟨by rw [HR.out]; rfl, hB1.trans (hb2.mono hB1.size)⟩
set_option maxRecDepth 100000 in
set_option maxHeartbeats 4000000 in
theorem text_3 (s : ByteArray) (f t : Int) (w : World) (hs : s.size ≤ 140737488355328) (he : EnvP w) :
    Calls Tryz.prog 25 #[tokW 3 0 s f t] w fun e w' => e = .returned (strV (textT 3 0 s.data.toList)) ∧ Below w.heap.size w w' := by
      have hP := fun W => puts_any W
      have hF := fun W => fixed_any W
      have HP := Lib.hid hP; have HF := Lib.hid hF; clear hP hF
      unfold tokW
      have h0 : True := trivial
      have hS : s = ⟨#[]⟩ ∨ s.data.toList ≠ [] := by
        by_cases h : s.data.toList = []
        · left; apply ByteArray.ext; exact Array.toList_inj.1 h
        · right; exact h
      have HR : Hid (textT 3 0 s.data.toList = namePut s.data.toList) := Lib.hid (by unfold textT; rw [if_neg (by omega), if_neg (by decide), if_pos rfl])
      have ix : ∀ W, (Instr.index 89 (.agg putsA) (.int .i64 3)).run Tryz.prog W = .ok (.func (.func 128) #[] #[]) W := fun _ => by kernel_rfl
      have ne : ∀ W, (binOp .neq 88 (.func (.func 128) #[] #[]) .nilFunc).run Tryz.prog W = .ok (.bool true) W := fun _ => by kernel_rfl
      clear hS h0
      have hx0 : ∀ j, (w.alloc (.cells #[.int .i64 3, .int .i64 0, .string s, .int .i64 f, .int .i64 t] 47)).cell? ⟨w.heap.size, j, none⟩ = #[Value.int .i64 3, .int .i64 0, .string s, .int .i64 f, .int .i64 t][j]? := fun j => World.cell?_alloc_new _ _ _ _
      have hb0 : Below w.heap.size w (w.alloc (.cells #[.int .i64 3, .int .i64 0, .string s, .int .i64 f, .int .i64 t] 47)).drew := ((Below.refl _ _).alloc (Nat.le_refl _) _).drew
      have HB0 := Lib.hid hb0; clear hb0
      go_enter Tryz.func25, Tryz.ntmps25
      go_upto_region 3 with fail
      go_region_with (go_at_call 65; refine (HP.out _).mono ?_; rintro e w1 ⟨rfl, hb1⟩; have x0 := cell_below hb1 (hx0 0); have x1 := cell_below hb1 (hx0 1); have x2 := cell_below hb1 (hx0 2); have hB1 := HB0.out.trans (hb1.mono (by simp)); have hE := he.env.below hB1; have hEP := he.below hB1)
      all_goals
        go_wp2_with (go_at_call 128; refine (namePut_any s _ hs).mono ?_; rintro e w2 ⟨rfl, hb2⟩; unfold strV)
        go_ret2
        exact ⟨by rw [HR.out]; rfl, hB1.trans (hb2.mono hB1.size)⟩
set_option maxRecDepth 100000 in
set_option maxHeartbeats 4000000 in
theorem text_4 (s : ByteArray) (f t : Int) (w : World) (hs : s.size ≤ 140737488355328) (he : EnvP w) :
    Calls Tryz.prog 25 #[tokW 4 0 s f t] w fun e w' => e = .returned (strV (textT 4 0 s.data.toList)) ∧ Below w.heap.size w w' := by
      have hP := fun W => puts_any W
      have hF := fun W => fixed_any W
      have HP := Lib.hid hP; have HF := Lib.hid hF; clear hP hF
      unfold tokW
      have h0 : True := trivial
      have hS : s = ⟨#[]⟩ ∨ s.data.toList ≠ [] := by
        by_cases h : s.data.toList = []
        · left; apply ByteArray.ext; exact Array.toList_inj.1 h
        · right; exact h
      have HR : Hid (textT 4 0 s.data.toList = litPut s.data.toList) := Lib.hid (by unfold textT; rw [if_neg (by omega), if_neg (by decide), if_neg (by decide), if_pos rfl])
      have ix : ∀ W, (Instr.index 89 (.agg putsA) (.int .i64 4)).run Tryz.prog W = .ok (.func (.func 129) #[] #[]) W := fun _ => by kernel_rfl
      have ne : ∀ W, (binOp .neq 88 (.func (.func 129) #[] #[]) .nilFunc).run Tryz.prog W = .ok (.bool true) W := fun _ => by kernel_rfl
      clear hS h0
      have hx0 : ∀ j, (w.alloc (.cells #[.int .i64 4, .int .i64 0, .string s, .int .i64 f, .int .i64 t] 47)).cell? ⟨w.heap.size, j, none⟩ = #[Value.int .i64 4, .int .i64 0, .string s, .int .i64 f, .int .i64 t][j]? := fun j => World.cell?_alloc_new _ _ _ _
      have hb0 : Below w.heap.size w (w.alloc (.cells #[.int .i64 4, .int .i64 0, .string s, .int .i64 f, .int .i64 t] 47)).drew := ((Below.refl _ _).alloc (Nat.le_refl _) _).drew
      have HB0 := Lib.hid hb0; clear hb0
      go_enter Tryz.func25, Tryz.ntmps25
      go_upto_region 3 with fail
      go_region_with (go_at_call 65; refine (HP.out _).mono ?_; rintro e w1 ⟨rfl, hb1⟩; have x0 := cell_below hb1 (hx0 0); have x1 := cell_below hb1 (hx0 1); have x2 := cell_below hb1 (hx0 2); have hB1 := HB0.out.trans (hb1.mono (by simp)); have hE := he.env.below hB1; have hEP := he.below hB1)
      all_goals
        go_wp2_with (go_at_call 129; refine (putLiteral_any s _ hs).mono ?_; rintro e w2 ⟨rfl, hb2⟩; unfold strV)
        go_ret2
        exact ⟨by rw [HR.out]; rfl, hB1.trans (hb2.mono hB1.size)⟩
set_option maxRecDepth 100000 in
set_option maxHeartbeats 4000000 in
theorem text_9 (s : ByteArray) (f t : Int) (w : World) (hs : s.size ≤ 140737488355328) (he : EnvP w) :
    Calls Tryz.prog 25 #[tokW 9 0 s f t] w fun e w' => e = .returned (strV (textT 9 0 s.data.toList)) ∧ Below w.heap.size w w' := by
      have hP := fun W => puts_any W
      have hF := fun W => fixed_any W
      have HP := Lib.hid hP; have HF := Lib.hid hF; clear hP hF
      unfold tokW
      have h0 : True := trivial
      have hS : s = ⟨#[]⟩ ∨ s.data.toList ≠ [] := by
        by_cases h : s.data.toList = []
        · left; apply ByteArray.ext; exact Array.toList_inj.1 h
        · right; exact h
      have HR : Hid (textT 9 0 s.data.toList = wordPut s.data.toList) := Lib.hid (by unfold textT; rw [if_neg (by omega), if_neg (by decide), if_neg (by decide), if_neg (by decide), if_pos rfl])
      have ix : ∀ W, (Instr.index 89 (.agg putsA) (.int .i64 9)).run Tryz.prog W = .ok (.func (.func 130) #[] #[]) W := fun _ => by kernel_rfl
      have ne : ∀ W, (binOp .neq 88 (.func (.func 130) #[] #[]) .nilFunc).run Tryz.prog W = .ok (.bool true) W := fun _ => by kernel_rfl
      clear hS h0
      have hx0 : ∀ j, (w.alloc (.cells #[.int .i64 9, .int .i64 0, .string s, .int .i64 f, .int .i64 t] 47)).cell? ⟨w.heap.size, j, none⟩ = #[Value.int .i64 9, .int .i64 0, .string s, .int .i64 f, .int .i64 t][j]? := fun j => World.cell?_alloc_new _ _ _ _
      have hb0 : Below w.heap.size w (w.alloc (.cells #[.int .i64 9, .int .i64 0, .string s, .int .i64 f, .int .i64 t] 47)).drew := ((Below.refl _ _).alloc (Nat.le_refl _) _).drew
      have HB0 := Lib.hid hb0; clear hb0
      go_enter Tryz.func25, Tryz.ntmps25
      go_upto_region 3 with fail
      go_region_with (go_at_call 65; refine (HP.out _).mono ?_; rintro e w1 ⟨rfl, hb1⟩; have x0 := cell_below hb1 (hx0 0); have x1 := cell_below hb1 (hx0 1); have x2 := cell_below hb1 (hx0 2); have hB1 := HB0.out.trans (hb1.mono (by simp)); have hE := he.env.below hB1; have hEP := he.below hB1)
      all_goals
        go_wp2_with (go_at_call 130; refine (word_any s _ hs hE).mono ?_; rintro e w2 ⟨rfl, hb2⟩; unfold strV)
        go_ret2
        exact ⟨by rw [HR.out]; rfl, hB1.trans (hb2.mono hB1.size)⟩
theorem text_any (k n : Int) (s : ByteArray) (f t : Int) (w : World) (hs : s.size ≤ 140737488355328) (hn : -9223372036854775808 ≤ n ∧ n ≤ 9223372036854775807) (he : EnvP w) :
    Calls Tryz.prog 25 #[tokW k n s f t] w fun e w' => e = .returned (strV (textT k n s.data.toList)) ∧ Below w.heap.size w w' := by
  by_cases h0 : k < 0 ∨ 9 < k ∨ (k ≠ 1 ∧ n ≠ 0)
  · exact text_bad k n s f t w h0
  · have hk : k = 0 ∨ k = 1 ∨ k = 2 ∨ k = 3 ∨ k = 4 ∨ k = 5 ∨ k = 6 ∨ k = 7 ∨ k = 8 ∨ k = 9 := by omega
    rcases hk with rfl | rfl | rfl | rfl | rfl | rfl | rfl | rfl | rfl | rfl
    · obtain rfl : n = 0 := by omega
      exact text_0 s f t w hs he
    · exact text_1 n hn s f t w hs he
    · obtain rfl : n = 0 := by omega
      exact text_2 s f t w hs he
    · obtain rfl : n = 0 := by omega
      exact text_3 s f t w hs he
    · obtain rfl : n = 0 := by omega
      exact text_4 s f t w hs he
    · obtain rfl : n = 0 := by omega
      exact text_5 s f t w hs he
    · obtain rfl : n = 0 := by omega
      exact text_6 s f t w hs he
    · obtain rfl : n = 0 := by omega
      exact text_7 s f t w hs he
    · obtain rfl : n = 0 := by omega
      exact text_8 s f t w hs he
    · obtain rfl : n = 0 := by omega
      exact text_9 s f t w hs he
end Go.Proofs.YtgkhnpldjdbmoaaGreatDoor
