/- The walk of token.Text, kinds without a function. -/
import Derived.Test.YtgkhnpldjdbmoaaGreatDoorC30
set_option linter.unusedVariables false
set_option linter.unusedSimpArgs false
namespace Go.Proofs.YtgkhnpldjdbmoaaGreatDoor
open Go.RowKit

set_option maxRecDepth 100000 in
set_option maxHeartbeats 4000000 in
theorem text_0 (s : ByteArray) (f t : Int) (w : World) (hs : s.size ≤ 140737488355328) (he : EnvP w) :
    Calls Tryz.prog 25 #[tokW 0 0 s f t] w fun e w' => e = .returned (strV (textT 0 0 s.data.toList)) ∧ Below w.heap.size w w' := by
      have hP := fun W => puts_any W
      have hF := fun W => fixed_any W
      have HP := Lib.hid hP; have HF := Lib.hid hF; clear hP hF
      unfold tokW
      have h0 : True := trivial
      have hS : s = ⟨#[]⟩ ∨ s.data.toList ≠ [] := by
        by_cases h : s.data.toList = []
        · left; apply ByteArray.ext; exact Array.toList_inj.1 h
        · right; exact h
      have ix : ∀ W, (Instr.index 89 (.agg putsA) (.int .i64 0)).run Tryz.prog W = .ok .nilFunc W := fun _ => by kernel_rfl
      have ne : ∀ W, (binOp .neq 88 .nilFunc .nilFunc).run Tryz.prog W = .ok (.bool false) W := fun _ => by kernel_rfl
      have iy : ∀ W, (Instr.index 92 (.agg fixedA) (.int .i64 0)).run Tryz.prog W = .ok (.string ⟨#[]⟩) W := fun _ => by kernel_rfl
      rcases hS with rfl | hS
      · have HR : Hid (textT 0 0 ([] : Bytes) = (fixedT 0, 0)) := Lib.hid (by unfold textT; rw [if_neg (by omega), if_neg (by decide), if_neg (by decide), if_neg (by decide), if_neg (by decide), if_neg (by simp), if_neg (by decide)])
        clear h0
        have hx0 : ∀ j, (w.alloc (.cells #[.int .i64 0, .int .i64 0, .string ⟨#[]⟩, .int .i64 f, .int .i64 t] 47)).cell? ⟨w.heap.size, j, none⟩ = #[Value.int .i64 0, .int .i64 0, .string ⟨#[]⟩, .int .i64 f, .int .i64 t][j]? := fun j => World.cell?_alloc_new _ _ _ _
        have hb0 : Below w.heap.size w (w.alloc (.cells #[.int .i64 0, .int .i64 0, .string ⟨#[]⟩, .int .i64 f, .int .i64 t] 47)).drew := ((Below.refl _ _).alloc (Nat.le_refl _) _).drew
        have HB0 := Lib.hid hb0; clear hb0
        go_enter Tryz.func25, Tryz.ntmps25
        go_upto_region 3 with fail
        go_region_with (go_at_call 65; refine (HP.out _).mono ?_; rintro e w1 ⟨rfl, hb1⟩; have x0 := cell_below hb1 (hx0 0); have x1 := cell_below hb1 (hx0 1); have x2 := cell_below hb1 (hx0 2); have hB1 := HB0.out.trans (hb1.mono (by simp)); have hE := he.env.below hB1; have hEP := he.below hB1)
        all_goals
          go_upto_region 10 with fail
          go_region_with (go_at_call 67; refine (HF.out _).mono ?_; rintro e w2 ⟨rfl, hb2⟩; have y0 := cell_below hb2 x0; have hB2 := hB1.drew.trans (hb2.mono hB1.size))
          all_goals
            go_wp2
            go_ret2
            exact ⟨by show _ = Ending.returned (strV (textT 0 0 [])); rw [HR.out]; rfl, hB2⟩
      · have HR : Hid (textT 0 0 s.data.toList = ([], 2)) := Lib.hid (by unfold textT; rw [if_neg (by omega), if_neg (by decide), if_neg (by decide), if_neg (by decide), if_neg (by decide), if_pos hS])
        have hse := str_ne_empty hS
        clear h0 hS
        have hx0 : ∀ j, (w.alloc (.cells #[.int .i64 0, .int .i64 0, .string s, .int .i64 f, .int .i64 t] 47)).cell? ⟨w.heap.size, j, none⟩ = #[Value.int .i64 0, .int .i64 0, .string s, .int .i64 f, .int .i64 t][j]? := fun j => World.cell?_alloc_new _ _ _ _
        have hb0 : Below w.heap.size w (w.alloc (.cells #[.int .i64 0, .int .i64 0, .string s, .int .i64 f, .int .i64 t] 47)).drew := ((Below.refl _ _).alloc (Nat.le_refl _) _).drew
        have HB0 := Lib.hid hb0; clear hb0
        go_enter Tryz.func25, Tryz.ntmps25
        go_upto_region 3 with fail
        go_region_with (go_at_call 65; refine (HP.out _).mono ?_; rintro e w1 ⟨rfl, hb1⟩; have x0 := cell_below hb1 (hx0 0); have x1 := cell_below hb1 (hx0 1); have x2 := cell_below hb1 (hx0 2); have hB1 := HB0.out.trans (hb1.mono (by simp)); have hE := he.env.below hB1; have hEP := he.below hB1)
        all_goals
          go_wp2
          go_ret2
          exact ⟨by rw [HR.out]; rfl, hB1⟩
set_option maxRecDepth 100000 in
set_option maxHeartbeats 4000000 in
theorem text_5 (s : ByteArray) (f t : Int) (w : World) (hs : s.size ≤ 140737488355328) (he : EnvP w) :
    Calls Tryz.prog 25 #[tokW 5 0 s f t] w fun e w' => e = .returned (strV (textT 5 0 s.data.toList)) ∧ Below w.heap.size w w' := by
      have hP := fun W => puts_any W
      have hF := fun W => fixed_any W
      have HP := Lib.hid hP; have HF := Lib.hid hF; clear hP hF
      unfold tokW
      have h0 : True := trivial
      have hS : s = ⟨#[]⟩ ∨ s.data.toList ≠ [] := by
        by_cases h : s.data.toList = []
        · left; apply ByteArray.ext; exact Array.toList_inj.1 h
        · right; exact h
      have ix : ∀ W, (Instr.index 89 (.agg putsA) (.int .i64 5)).run Tryz.prog W = .ok .nilFunc W := fun _ => by kernel_rfl
      have ne : ∀ W, (binOp .neq 88 .nilFunc .nilFunc).run Tryz.prog W = .ok (.bool false) W := fun _ => by kernel_rfl
      have iy : ∀ W, (Instr.index 92 (.agg fixedA) (.int .i64 5)).run Tryz.prog W = .ok (.string ⟨#[91]⟩) W := fun _ => by kernel_rfl
      rcases hS with rfl | hS
      · have HR : Hid (textT 5 0 ([] : Bytes) = (fixedT 5, 0)) := Lib.hid (by unfold textT; rw [if_neg (by omega), if_neg (by decide), if_neg (by decide), if_neg (by decide), if_neg (by decide), if_neg (by simp), if_neg (by decide)])
        clear h0
        have hx0 : ∀ j, (w.alloc (.cells #[.int .i64 5, .int .i64 0, .string ⟨#[]⟩, .int .i64 f, .int .i64 t] 47)).cell? ⟨w.heap.size, j, none⟩ = #[Value.int .i64 5, .int .i64 0, .string ⟨#[]⟩, .int .i64 f, .int .i64 t][j]? := fun j => World.cell?_alloc_new _ _ _ _
        have hb0 : Below w.heap.size w (w.alloc (.cells #[.int .i64 5, .int .i64 0, .string ⟨#[]⟩, .int .i64 f, .int .i64 t] 47)).drew := ((Below.refl _ _).alloc (Nat.le_refl _) _).drew
        have HB0 := Lib.hid hb0; clear hb0
        go_enter Tryz.func25, Tryz.ntmps25
        go_upto_region 3 with fail
        go_region_with (go_at_call 65; refine (HP.out _).mono ?_; rintro e w1 ⟨rfl, hb1⟩; have x0 := cell_below hb1 (hx0 0); have x1 := cell_below hb1 (hx0 1); have x2 := cell_below hb1 (hx0 2); have hB1 := HB0.out.trans (hb1.mono (by simp)); have hE := he.env.below hB1; have hEP := he.below hB1)
        all_goals
          go_upto_region 10 with fail
          go_region_with (go_at_call 67; refine (HF.out _).mono ?_; rintro e w2 ⟨rfl, hb2⟩; have y0 := cell_below hb2 x0; have hB2 := hB1.drew.trans (hb2.mono hB1.size))
          all_goals
            go_wp2
            go_ret2
            exact ⟨by show _ = Ending.returned (strV (textT 5 0 [])); rw [HR.out]; rfl, hB2⟩
      · have HR : Hid (textT 5 0 s.data.toList = ([], 2)) := Lib.hid (by unfold textT; rw [if_neg (by omega), if_neg (by decide), if_neg (by decide), if_neg (by decide), if_neg (by decide), if_pos hS])
        have hse := str_ne_empty hS
        clear h0 hS
        have hx0 : ∀ j, (w.alloc (.cells #[.int .i64 5, .int .i64 0, .string s, .int .i64 f, .int .i64 t] 47)).cell? ⟨w.heap.size, j, none⟩ = #[Value.int .i64 5, .int .i64 0, .string s, .int .i64 f, .int .i64 t][j]? := fun j => World.cell?_alloc_new _ _ _ _
        have hb0 : Below w.heap.size w (w.alloc (.cells #[.int .i64 5, .int .i64 0, .string s, .int .i64 f, .int .i64 t] 47)).drew := ((Below.refl _ _).alloc (Nat.le_refl _) _).drew
        have HB0 := Lib.hid hb0; clear hb0
        go_enter Tryz.func25, Tryz.ntmps25
        go_upto_region 3 with fail
        go_region_with (go_at_call 65; refine (HP.out _).mono ?_; rintro e w1 ⟨rfl, hb1⟩; have x0 := cell_below hb1 (hx0 0); have x1 := cell_below hb1 (hx0 1); have x2 := cell_below hb1 (hx0 2); have hB1 := HB0.out.trans (hb1.mono (by simp)); have hE := he.env.below hB1; have hEP := he.below hB1)
        all_goals
          go_wp2
          go_ret2
          exact ⟨by rw [HR.out]; rfl, hB1⟩
set_option maxRecDepth 100000 in
set_option maxHeartbeats 4000000 in
theorem text_6 (s : ByteArray) (f t : Int) (w : World) (hs : s.size ≤ 140737488355328) (he : EnvP w) :
    Calls Tryz.prog 25 #[tokW 6 0 s f t] w fun e w' => e = .returned (strV (textT 6 0 s.data.toList)) ∧ Below w.heap.size w w' := by
      have hP := fun W => puts_any W
      have hF := fun W => fixed_any W
      have HP := Lib.hid hP; have HF := Lib.hid hF; clear hP hF
      unfold tokW
      have h0 : True := trivial
      have hS : s = ⟨#[]⟩ ∨ s.data.toList ≠ [] := by
        by_cases h : s.data.toList = []
        · left; apply ByteArray.ext; exact Array.toList_inj.1 h
        · right; exact h
      have ix : ∀ W, (Instr.index 89 (.agg putsA) (.int .i64 6)).run Tryz.prog W = .ok .nilFunc W := fun _ => by kernel_rfl
      have ne : ∀ W, (binOp .neq 88 .nilFunc .nilFunc).run Tryz.prog W = .ok (.bool false) W := fun _ => by kernel_rfl
      have iy : ∀ W, (Instr.index 92 (.agg fixedA) (.int .i64 6)).run Tryz.prog W = .ok (.string ⟨#[93]⟩) W := fun _ => by kernel_rfl
      rcases hS with rfl | hS
      · have HR : Hid (textT 6 0 ([] : Bytes) = (fixedT 6, 0)) := Lib.hid (by unfold textT; rw [if_neg (by omega), if_neg (by decide), if_neg (by decide), if_neg (by decide), if_neg (by decide), if_neg (by simp), if_neg (by decide)])
        clear h0
        have hx0 : ∀ j, (w.alloc (.cells #[.int .i64 6, .int .i64 0, .string ⟨#[]⟩, .int .i64 f, .int .i64 t] 47)).cell? ⟨w.heap.size, j, none⟩ = #[Value.int .i64 6, .int .i64 0, .string ⟨#[]⟩, .int .i64 f, .int .i64 t][j]? := fun j => World.cell?_alloc_new _ _ _ _
        have hb0 : Below w.heap.size w (w.alloc (.cells #[.int .i64 6, .int .i64 0, .string ⟨#[]⟩, .int .i64 f, .int .i64 t] 47)).drew := ((Below.refl _ _).alloc (Nat.le_refl _) _).drew
        have HB0 := Lib.hid hb0; clear hb0
        go_enter Tryz.func25, Tryz.ntmps25
        go_upto_region 3 with fail
        go_region_with (go_at_call 65; refine (HP.out _).mono ?_; rintro e w1 ⟨rfl, hb1⟩; have x0 := cell_below hb1 (hx0 0); have x1 := cell_below hb1 (hx0 1); have x2 := cell_below hb1 (hx0 2); have hB1 := HB0.out.trans (hb1.mono (by simp)); have hE := he.env.below hB1; have hEP := he.below hB1)
        all_goals
          go_upto_region 10 with fail
          go_region_with (go_at_call 67; refine (HF.out _).mono ?_; rintro e w2 ⟨rfl, hb2⟩; have y0 := cell_below hb2 x0; have hB2 := hB1.drew.trans (hb2.mono hB1.size))
          all_goals
            go_wp2
            go_ret2
            exact ⟨by show _ = Ending.returned (strV (textT 6 0 [])); rw [HR.out]; rfl, hB2⟩
      · have HR : Hid (textT 6 0 s.data.toList = ([], 2)) := Lib.hid (by unfold textT; rw [if_neg (by omega), if_neg (by decide), if_neg (by decide), if_neg (by decide), if_neg (by decide), if_pos hS])
        have hse := str_ne_empty hS
        clear h0 hS
        have hx0 : ∀ j, (w.alloc (.cells #[.int .i64 6, .int .i64 0, .string s, .int .i64 f, .int .i64 t] 47)).cell? ⟨w.heap.size, j, none⟩ = #[Value.int .i64 6, .int .i64 0, .string s, .int .i64 f, .int .i64 t][j]? := fun j => World.cell?_alloc_new _ _ _ _
        have hb0 : Below w.heap.size w (w.alloc (.cells #[.int .i64 6, .int .i64 0, .string s, .int .i64 f, .int .i64 t] 47)).drew := ((Below.refl _ _).alloc (Nat.le_refl _) _).drew
        have HB0 := Lib.hid hb0; clear hb0
        go_enter Tryz.func25, Tryz.ntmps25
        go_upto_region 3 with fail
        go_region_with (go_at_call 65; refine (HP.out _).mono ?_; rintro e w1 ⟨rfl, hb1⟩; have x0 := cell_below hb1 (hx0 0); have x1 := cell_below hb1 (hx0 1); have x2 := cell_below hb1 (hx0 2); have hB1 := HB0.out.trans (hb1.mono (by simp)); have hE := he.env.below hB1; have hEP := he.below hB1)
        all_goals
          go_wp2
          go_ret2
          exact ⟨by rw [HR.out]; rfl, hB1⟩
set_option maxRecDepth 100000 in
set_option maxHeartbeats 4000000 in
theorem text_7 (s : ByteArray) (f t : Int) (w : World) (hs : s.size ≤ 140737488355328) (he : EnvP w) :
    Calls Tryz.prog 25 #[tokW 7 0 s f t] w fun e w' => e = .returned (strV (textT 7 0 s.data.toList)) ∧ Below w.heap.size w w' := by
      have hP := fun W => puts_any W
      have hF := fun W => fixed_any W
      have HP := Lib.hid hP; have HF := Lib.hid hF; clear hP hF
      unfold tokW
      have h0 : True := trivial
      have hS : s = ⟨#[]⟩ ∨ s.data.toList ≠ [] := by
        by_cases h : s.data.toList = []
        · left; apply ByteArray.ext; exact Array.toList_inj.1 h
        · right; exact h
      have ix : ∀ W, (Instr.index 89 (.agg putsA) (.int .i64 7)).run Tryz.prog W = .ok .nilFunc W := fun _ => by kernel_rfl
      have ne : ∀ W, (binOp .neq 88 .nilFunc .nilFunc).run Tryz.prog W = .ok (.bool false) W := fun _ => by kernel_rfl
      have iy : ∀ W, (Instr.index 92 (.agg fixedA) (.int .i64 7)).run Tryz.prog W = .ok (.string ⟨#[60, 60]⟩) W := fun _ => by kernel_rfl
      rcases hS with rfl | hS
      · have HR : Hid (textT 7 0 ([] : Bytes) = (fixedT 7, 0)) := Lib.hid (by unfold textT; rw [if_neg (by omega), if_neg (by decide), if_neg (by decide), if_neg (by decide), if_neg (by decide), if_neg (by simp), if_neg (by decide)])
        clear h0
        have hx0 : ∀ j, (w.alloc (.cells #[.int .i64 7, .int .i64 0, .string ⟨#[]⟩, .int .i64 f, .int .i64 t] 47)).cell? ⟨w.heap.size, j, none⟩ = #[Value.int .i64 7, .int .i64 0, .string ⟨#[]⟩, .int .i64 f, .int .i64 t][j]? := fun j => World.cell?_alloc_new _ _ _ _
        have hb0 : Below w.heap.size w (w.alloc (.cells #[.int .i64 7, .int .i64 0, .string ⟨#[]⟩, .int .i64 f, .int .i64 t] 47)).drew := ((Below.refl _ _).alloc (Nat.le_refl _) _).drew
        have HB0 := Lib.hid hb0; clear hb0
        go_enter Tryz.func25, Tryz.ntmps25
        go_upto_region 3 with fail
        go_region_with (go_at_call 65; refine (HP.out _).mono ?_; rintro e w1 ⟨rfl, hb1⟩; have x0 := cell_below hb1 (hx0 0); have x1 := cell_below hb1 (hx0 1); have x2 := cell_below hb1 (hx0 2); have hB1 := HB0.out.trans (hb1.mono (by simp)); have hE := he.env.below hB1; have hEP := he.below hB1)
        all_goals
          go_upto_region 10 with fail
          go_region_with (go_at_call 67; refine (HF.out _).mono ?_; rintro e w2 ⟨rfl, hb2⟩; have y0 := cell_below hb2 x0; have hB2 := hB1.drew.trans (hb2.mono hB1.size))
          all_goals
            go_wp2
            go_ret2
            exact ⟨by show _ = Ending.returned (strV (textT 7 0 [])); rw [HR.out]; rfl, hB2⟩
      · have HR : Hid (textT 7 0 s.data.toList = ([], 2)) := Lib.hid (by unfold textT; rw [if_neg (by omega), if_neg (by decide), if_neg (by decide), if_neg (by decide), if_neg (by decide), if_pos hS])
        have hse := str_ne_empty hS
        clear h0 hS
        have hx0 : ∀ j, (w.alloc (.cells #[.int .i64 7, .int .i64 0, .string s, .int .i64 f, .int .i64 t] 47)).cell? ⟨w.heap.size, j, none⟩ = #[Value.int .i64 7, .int .i64 0, .string s, .int .i64 f, .int .i64 t][j]? := fun j => World.cell?_alloc_new _ _ _ _
        have hb0 : Below w.heap.size w (w.alloc (.cells #[.int .i64 7, .int .i64 0, .string s, .int .i64 f, .int .i64 t] 47)).drew := ((Below.refl _ _).alloc (Nat.le_refl _) _).drew
        have HB0 := Lib.hid hb0; clear hb0
        go_enter Tryz.func25, Tryz.ntmps25
        go_upto_region 3 with fail
        go_region_with (go_at_call 65; refine (HP.out _).mono ?_; rintro e w1 ⟨rfl, hb1⟩; have x0 := cell_below hb1 (hx0 0); have x1 := cell_below hb1 (hx0 1); have x2 := cell_below hb1 (hx0 2); have hB1 := HB0.out.trans (hb1.mono (by simp)); have hE := he.env.below hB1; have hEP := he.below hB1)
        all_goals
          go_wp2
          go_ret2
          exact ⟨by rw [HR.out]; rfl, hB1⟩
set_option maxRecDepth 100000 in
set_option maxHeartbeats 4000000 in
theorem text_8 (s : ByteArray) (f t : Int) (w : World) (hs : s.size ≤ 140737488355328) (he : EnvP w) :
    Calls Tryz.prog 25 #[tokW 8 0 s f t] w fun e w' => e = .returned (strV (textT 8 0 s.data.toList)) ∧ Below w.heap.size w w' := by
      have hP := fun W => puts_any W
      have hF := fun W => fixed_any W
      have HP := Lib.hid hP; have HF := Lib.hid hF; clear hP hF
      unfold tokW
      have h0 : True := trivial
      have hS : s = ⟨#[]⟩ ∨ s.data.toList ≠ [] := by
        by_cases h : s.data.toList = []
        · left; apply ByteArray.ext; exact Array.toList_inj.1 h
        · right; exact h
      have ix : ∀ W, (Instr.index 89 (.agg putsA) (.int .i64 8)).run Tryz.prog W = .ok .nilFunc W := fun _ => by kernel_rfl
      have ne : ∀ W, (binOp .neq 88 .nilFunc .nilFunc).run Tryz.prog W = .ok (.bool false) W := fun _ => by kernel_rfl
      have iy : ∀ W, (Instr.index 92 (.agg fixedA) (.int .i64 8)).run Tryz.prog W = .ok (.string ⟨#[62, 62]⟩) W := fun _ => by kernel_rfl
      rcases hS with rfl | hS
      · have HR : Hid (textT 8 0 ([] : Bytes) = (fixedT 8, 0)) := Lib.hid (by unfold textT; rw [if_neg (by omega), if_neg (by decide), if_neg (by decide), if_neg (by decide), if_neg (by decide), if_neg (by simp), if_neg (by decide)])
        clear h0
        have hx0 : ∀ j, (w.alloc (.cells #[.int .i64 8, .int .i64 0, .string ⟨#[]⟩, .int .i64 f, .int .i64 t] 47)).cell? ⟨w.heap.size, j, none⟩ = #[Value.int .i64 8, .int .i64 0, .string ⟨#[]⟩, .int .i64 f, .int .i64 t][j]? := fun j => World.cell?_alloc_new _ _ _ _
        have hb0 : Below w.heap.size w (w.alloc (.cells #[.int .i64 8, .int .i64 0, .string ⟨#[]⟩, .int .i64 f, .int .i64 t] 47)).drew := ((Below.refl _ _).alloc (Nat.le_refl _) _).drew
        have HB0 := Lib.hid hb0; clear hb0
        go_enter Tryz.func25, Tryz.ntmps25
        go_upto_region 3 with fail
        go_region_with (go_at_call 65; refine (HP.out _).mono ?_; rintro e w1 ⟨rfl, hb1⟩; have x0 := cell_below hb1 (hx0 0); have x1 := cell_below hb1 (hx0 1); have x2 := cell_below hb1 (hx0 2); have hB1 := HB0.out.trans (hb1.mono (by simp)); have hE := he.env.below hB1; have hEP := he.below hB1)
        all_goals
          go_upto_region 10 with fail
          go_region_with (go_at_call 67; refine (HF.out _).mono ?_; rintro e w2 ⟨rfl, hb2⟩; have y0 := cell_below hb2 x0; have hB2 := hB1.drew.trans (hb2.mono hB1.size))
          all_goals
            go_wp2
            go_ret2
            exact ⟨by show _ = Ending.returned (strV (textT 8 0 [])); rw [HR.out]; rfl, hB2⟩
      · have HR : Hid (textT 8 0 s.data.toList = ([], 2)) := Lib.hid (by unfold textT; rw [if_neg (by omega), if_neg (by decide), if_neg (by decide), if_neg (by decide), if_neg (by decide), if_pos hS])
        have hse := str_ne_empty hS
        clear h0 hS
        have hx0 : ∀ j, (w.alloc (.cells #[.int .i64 8, .int .i64 0, .string s, .int .i64 f, .int .i64 t] 47)).cell? ⟨w.heap.size, j, none⟩ = #[Value.int .i64 8, .int .i64 0, .string s, .int .i64 f, .int .i64 t][j]? := fun j => World.cell?_alloc_new _ _ _ _
        have hb0 : Below w.heap.size w (w.alloc (.cells #[.int .i64 8, .int .i64 0, .string s, .int .i64 f, .int .i64 t] 47)).drew := ((Below.refl _ _).alloc (Nat.le_refl _) _).drew
        have HB0 := Lib.hid hb0; clear hb0
        go_enter Tryz.func25, Tryz.ntmps25
        go_upto_region 3 with fail
        go_region_with (go_at_call 65; refine (HP.out _).mono ?_; rintro e w1 ⟨rfl, hb1⟩; have x0 := cell_below hb1 (hx0 0); have x1 := cell_below hb1 (hx0 1); have x2 := cell_below hb1 (hx0 2); have hB1 := HB0.out.trans (hb1.mono (by simp)); have hE := he.env.below hB1; have hEP := he.below hB1)
        all_goals
          go_wp2
          go_ret2
          exact ⟨by rw [HR.out]; rfl, hB1⟩
end Go.Proofs.YtgkhnpldjdbmoaaGreatDoor
