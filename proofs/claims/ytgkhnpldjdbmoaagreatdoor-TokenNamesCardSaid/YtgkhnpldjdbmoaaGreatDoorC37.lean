/- The walk of TokenNames. -/
import Derived.Test.YtgkhnpldjdbmoaaGreatDoorC35
set_option linter.unusedVariables false
set_option linter.unusedSimpArgs false
namespace Go.Proofs.YtgkhnpldjdbmoaaGreatDoor
open Go.RowKit

theorem step_alloc {w w' : World} {o : Obj} (hb : Below (w.alloc o).heap.size (w.alloc o) w') : Below w.heap.size w w' :=
  ((Below.refl _ _).alloc (Nat.le_refl _) _).trans (hb.mono (by simp))
theorem cells_next {w w' : World} {cs : Array Value} {t : TypeId} (hb : Below (w.alloc (.cells cs t)).heap.size (w.alloc (.cells cs t)) w') (j : Nat) : w'.cell? ⟨w.heap.size, j, none⟩ = cs[j]? :=
  (hb.cell (p := ⟨w.heap.size, j, none⟩) (by simp)).trans (World.cell?_alloc_new _ _ _ _)
theorem env_alloc {w : World} {o : Obj} (h : EnvP w) : EnvP (w.alloc o) := h.below ((Below.refl _ _).alloc (Nat.le_refl _) _)
theorem cells_keep {w w' : World} {b : Nat} {cs : Array Value} (h : ∀ j, w.cell? ⟨b, j, none⟩ = cs[j]?) (hlt : b < w.heap.size) (hb : Below w.heap.size w w') : ∀ j, w'.cell? ⟨b, j, none⟩ = cs[j]? := fun j =>
  (hb.cell (p := ⟨b, j, none⟩) hlt).trans (h j)

def seven : List RT := [⟨3, 0, ⟨#[]⟩, 0, 0⟩, ⟨1, 5, ⟨#[]⟩, 0, 0⟩, ⟨3, 0, ⟨#[98]⟩, 0, 0⟩, ⟨5, 0, ⟨#[]⟩, 0, 0⟩, ⟨9, 0, ⟨#[82]⟩, 0, 0⟩, ⟨2, 0, ⟨#[49, 46, 48]⟩, 0, 0⟩, ⟨4, 0, ⟨#[40]⟩, 0, 0⟩]
def sevenS : Bytes := [47, 32, 53, 47, 98, 91, 82, 32, 49, 46, 48, 40, 92, 40, 41]
theorem int5 : textT 1 5 [] = ([53], 0) := by
  unfold textT
  rw [if_neg (by omega), if_neg (by decide), if_neg (by decide), if_neg (by decide), if_neg (by decide), if_neg (by simp), if_pos rfl]
  unfold intText
  rw [if_neg (by omega)]
  unfold Lib.itoa
  rw [if_neg (by omega)]
  have : Lib.decDigits (Int.toNat 5) = [UInt8.ofNat (48 + 5)] := Lib.decDigits_one (by decide)
  rw [this]; rfl
theorem seven_txt : seven.map RT.txt = [([47], 0), ([53], 0), ([47, 98], 0), ([91], 0), ([82], 0), ([49, 46, 48], 0), ([40, 92, 40, 41], 0)] := by
  have h0 : RT.txt ⟨3, 0, ⟨#[]⟩, 0, 0⟩ = ([47], 0) := by unfold RT.txt; decide +kernel
  have h1 : RT.txt ⟨1, 5, ⟨#[]⟩, 0, 0⟩ = ([53], 0) := int5
  have h2 : RT.txt ⟨3, 0, ⟨#[98]⟩, 0, 0⟩ = ([47, 98], 0) := by unfold RT.txt; decide +kernel
  have h3 : RT.txt ⟨5, 0, ⟨#[]⟩, 0, 0⟩ = ([91], 0) := by unfold RT.txt; rfl
  have h4 : RT.txt ⟨9, 0, ⟨#[82]⟩, 0, 0⟩ = ([82], 0) := by unfold RT.txt; decide +kernel
  have h5 : RT.txt ⟨2, 0, ⟨#[49, 46, 48]⟩, 0, 0⟩ = ([49, 46, 48], 0) := by unfold RT.txt; decide +kernel
  have h6 : RT.txt ⟨4, 0, ⟨#[40]⟩, 0, 0⟩ = ([40, 92, 40, 41], 0) := by unfold RT.txt; decide +kernel
  simp only [seven, List.map_cons, List.map_nil, h0, h1, h2, h3, h4, h5, h6]
theorem seven_join : (jfold seven).2 = sevenS := by
  have h := seven_txt
  simp only [seven, List.map_cons, List.map_nil, List.cons.injEq, and_true] at h
  obtain ⟨h0, h1, h2, h3, h4, h5, h6⟩ := h
  simp only [jfold, seven, List.foldl_cons, List.foldl_nil, jstep, h0, h1, h2, h3, h4, h5, h6]
  decide +kernel
theorem seven_ok : ∀ t ∈ seven, t.ok := by
  have h := seven_txt
  simp only [seven, List.map_cons, List.map_nil, List.cons.injEq, and_true] at h
  obtain ⟨h0, h1, h2, h3, h4, h5, h6⟩ := h
  intro t ht
  simp only [seven, List.mem_cons, List.not_mem_nil, or_false] at ht
  rcases ht with rfl | rfl | rfl | rfl | rfl | rfl | rfl
  · exact ⟨by rw [h0], by decide, by decide⟩
  · exact ⟨by rw [h1], by decide, by decide⟩
  · exact ⟨by rw [h2], by decide, by decide⟩
  · exact ⟨by rw [h3], by decide, by decide⟩
  · exact ⟨by rw [h4], by decide, by decide⟩
  · exact ⟨by rw [h5], by decide, by decide⟩
  · exact ⟨by rw [h6], by decide, by decide⟩
abbrev sevenC : Array Value := #[.int .i64 3, .int .i64 0, .string ⟨#[]⟩, .int .i64 0, .int .i64 0, .int .i64 1, .int .i64 5, .string ⟨#[]⟩, .int .i64 0, .int .i64 0, .int .i64 3, .int .i64 0, .string ⟨#[98]⟩, .int .i64 0, .int .i64 0, .int .i64 5, .int .i64 0, .string ⟨#[]⟩, .int .i64 0, .int .i64 0, .int .i64 9, .int .i64 0, .string ⟨#[82]⟩, .int .i64 0, .int .i64 0, .int .i64 2, .int .i64 0, .string ⟨#[49, 46, 48]⟩, .int .i64 0, .int .i64 0, .int .i64 4, .int .i64 0, .string ⟨#[40]⟩, .int .i64 0, .int .i64 0]
theorem sevenC_eq : sevenC = (rtCells seven).toArray := rfl
theorem join_seven (W : World) (he : EnvP W) : Calls Tryz.prog 24 #[.slice (some ⟨W.heap.size, 0, none⟩) 7 7] (W.alloc (.cells sevenC 47)) fun e w' => e = .returned (.tuple #[.string ⟨#[47, 32, 53, 47, 98, 91, 82, 32, 49, 46, 48, 40, 92, 40, 41]⟩, .int .i64 0]) ∧ Below (W.alloc (.cells sevenC 47)).heap.size (W.alloc (.cells sevenC 47)) w' :=
  (join_any seven (some ⟨W.heap.size, 0, none⟩) 7 _ seven_ok (by decide) (env_alloc he) (fun _ => ⟨_, rfl, holdsR_of fun j _ => by rw [World.cell?_alloc_new, sevenC_eq, List.getElem?_toArray]⟩)).mono fun e w' h => by
    rw [seven_join] at h; exact h
def oneR : RT := ⟨0, 0, ⟨#[]⟩, 1, 0⟩
def oneT : Tok := ⟨⟨0, 0, []⟩, 0, 2⟩
theorem like_one (W : World) : Calls Tryz.prog 27 #[.slice (some ⟨W.heap.size, 0, none⟩) 1 1, .slice (some ⟨W.heap.size + 1, 0, none⟩) 1 1]
    ((W.alloc (.cells #[.int .i64 0, .int .i64 0, .string ⟨#[]⟩, .int .i64 1, .int .i64 0] 47)).alloc (.cells #[.int .i64 0, .int .i64 0, .string ⟨#[]⟩, .int .i64 0, .int .i64 2] 47)) fun e w' => e = .returned (.bool true) ∧
      Below ((W.alloc (.cells #[.int .i64 0, .int .i64 0, .string ⟨#[]⟩, .int .i64 1, .int .i64 0] 47)).alloc (.cells #[.int .i64 0, .int .i64 0, .string ⟨#[]⟩, .int .i64 0, .int .i64 2] 47)).heap.size ((W.alloc (.cells #[.int .i64 0, .int .i64 0, .string ⟨#[]⟩, .int .i64 1, .int .i64 0] 47)).alloc (.cells #[.int .i64 0, .int .i64 0, .string ⟨#[]⟩, .int .i64 0, .int .i64 2] 47)) w' := by
  refine like_R [oneR] [oneT] (by simp [oneR]) (by rfl) (some ⟨W.heap.size, 0, none⟩) (some ⟨W.heap.size + 1, 0, none⟩) 1 1 _ (by decide) (fun _ => ⟨_, rfl, fun i hi => ?_⟩) (fun _ => ⟨_, rfl, fun i hi => ?_⟩)
  · obtain rfl : i = 0 := by simpa using hi
    simp only [List.getElem_cons_zero, oneR, Nat.zero_mul, Nat.zero_add]
    refine ⟨by go_simp, by go_simp, by go_simp, by go_simp, by go_simp⟩
  · obtain rfl : i = 0 := by simpa using hi
    simp only [List.getElem_cons_zero, oneT, Nat.zero_mul, Nat.zero_add]
    have h := fun j => World.cell?_alloc_new (W.alloc (.cells #[.int .i64 0, .int .i64 0, .string ⟨#[]⟩, .int .i64 1, .int .i64 0] 47)) #[.int .i64 0, .int .i64 0, .string ⟨#[]⟩, .int .i64 0, .int .i64 2] 47 j
    have hz : (W.alloc (.cells #[.int .i64 0, .int .i64 0, .string ⟨#[]⟩, .int .i64 1, .int .i64 0] 47)).heap.size = W.heap.size + 1 := by simp
    rw [hz] at h
    exact ⟨h 0, h 1, h 2, h 3, h 4⟩

theorem next_lit (s : ByteArray) (p : Nat) (t : Tok) (e0 : Nat) (hs : s.size ≤ 4000000000) (hp : p ≤ s.size) (h : nextAt s.data.toList p = (t, e0)) (W : World) (he : EnvP W) :
    Calls Tryz.prog 22 #[.string s, .int .i64 p] W fun e w' => e = .returned (.tuple #[.agg #[.int .i64 (t.t.kind : Int), .int .i64 t.t.n, .string (bs t.t.s), .int .i64 (t.from_ : Int), .int .i64 (t.to : Int)], .int .i64 (e0 : Int)]) ∧ Below W.heap.size W w' :=
  next_is s p t e0 W hs hp he.env h
abbrev tok0 : Value := .agg #[.int .i64 0, .int .i64 0, .string ⟨#[]⟩, .int .i64 0, .int .i64 0]
theorem next1 (W : World) (he : EnvP W) : Calls Tryz.prog 22 #[.string ⟨#[32, 37, 32, 120, 10]⟩, .int .i64 0] W fun e w' => e = .returned (.tuple #[.agg #[.int .i64 0, .int .i64 0, .string ⟨#[]⟩, .int .i64 5, .int .i64 5], .int .i64 0]) ∧ Below W.heap.size W w' :=
  next_lit ⟨#[32, 37, 32, 120, 10]⟩ 0 ⟨⟨0, 0, []⟩, 5, 5⟩ 0 (by decide) (by decide) (by decide +kernel) W he
theorem next2 (W : World) (he : EnvP W) : Calls Tryz.prog 22 #[.string ⟨#[97, 32, 91]⟩, .int .i64 1] W fun e w' => e = .returned (.tuple #[.agg #[.int .i64 5, .int .i64 0, .string ⟨#[]⟩, .int .i64 2, .int .i64 3], .int .i64 0]) ∧ Below W.heap.size W w' :=
  next_lit ⟨#[97, 32, 91]⟩ 1 ⟨⟨5, 0, []⟩, 2, 3⟩ 0 (by decide) (by decide) (by decide +kernel) W he
theorem next3 (W : World) (he : EnvP W) : Calls Tryz.prog 22 #[.string ⟨#[125]⟩, .int .i64 0] W fun e w' => e = .returned (.tuple #[tok0, .int .i64 7]) ∧ Below W.heap.size W w' :=
  next_lit ⟨#[125]⟩ 0 ⟨⟨0, 0, []⟩, 0, 0⟩ 7 (by decide) (by decide) (by decide +kernel) W he
theorem next4 (W : World) (he : EnvP W) : Calls Tryz.prog 22 #[.string ⟨#[57, 57, 57, 57, 57, 57, 57, 57, 57, 57, 57]⟩, .int .i64 0] W fun e w' => e = .returned (.tuple #[tok0, .int .i64 3]) ∧ Below W.heap.size W w' :=
  next_lit ⟨#[57, 57, 57, 57, 57, 57, 57, 57, 57, 57, 57]⟩ 0 ⟨⟨0, 0, []⟩, 0, 0⟩ 3 (by decide) (by decide) (by decide +kernel) W he
theorem next5 (W : World) (he : EnvP W) : Calls Tryz.prog 22 #[.string ⟨#[62, 120]⟩, .int .i64 0] W fun e w' => e = .returned (.tuple #[tok0, .int .i64 7]) ∧ Below W.heap.size W w' :=
  next_lit ⟨#[62, 120]⟩ 0 ⟨⟨0, 0, []⟩, 0, 0⟩ 7 (by decide) (by decide) (by decide +kernel) W he
theorem all_bad : all [97, 32, 40, 98] = ([⟨⟨9, 0, [97]⟩, 0, 1⟩], 2, 8) := by decide +kernel
theorem all6 (W : World) (he : EnvP W) : Calls Tryz.prog 23 #[.string ⟨#[97, 32, 40, 98]⟩] W fun e w' => ∃ ao cap, e = .returned (.tuple #[.slice ao 1 cap, .int .i64 2, .int .i64 8]) ∧ Below W.heap.size W w' :=
  (all_gen ⟨#[97, 32, 40, 98]⟩ _ 2 8 (by decide) all_bad W he.env).mono fun e w' ⟨ao, cap, h1, _, h2⟩ => ⟨ao, cap, h1, h2⟩
theorem text8 (W : World) (he : EnvP W) : Calls Tryz.prog 25 #[.agg #[.int .i64 2, .int .i64 0, .string ⟨#[49, 46, 48, 48]⟩, .int .i64 0, .int .i64 0]] W fun e w' => e = .returned (.tuple #[.string ⟨#[]⟩, .int .i64 2]) ∧ Below W.heap.size W w' :=
  (text_any 2 0 ⟨#[49, 46, 48, 48]⟩ 0 0 W (by decide) (by decide) he).mono fun e w' h => by
    rw [show textT 2 0 (⟨#[49, 46, 48, 48]⟩ : ByteArray).data.toList = ([], 2) by decide +kernel] at h; exact h
theorem text9 (W : World) (he : EnvP W) : Calls Tryz.prog 25 #[.agg #[.int .i64 9, .int .i64 0, .string ⟨#[49, 50]⟩, .int .i64 0, .int .i64 0]] W fun e w' => e = .returned (.tuple #[.string ⟨#[]⟩, .int .i64 2]) ∧ Below W.heap.size W w' :=
  (text_any 9 0 ⟨#[49, 50]⟩ 0 0 W (by decide) (by decide) he).mono fun e w' h => by
    rw [show textT 9 0 (⟨#[49, 50]⟩ : ByteArray).data.toList = ([], 2) by decide +kernel] at h; exact h

set_option maxRecDepth 100000 in
set_option maxHeartbeats 8000000 in
theorem names_any (w : World) (he : EnvP w) : Calls Tryz.prog 6 #[] w fun e w' => e = .returned (.bool true) ∧ Below w.heap.size w w' := by
  have H1 := Lib.hid next1; have H2 := Lib.hid next2; have H3 := Lib.hid next3; have H4 := Lib.hid next4; have H5 := Lib.hid next5
  have H6 := Lib.hid all6; have H7 := Lib.hid join_seven; have H8 := Lib.hid text8; have H9 := Lib.hid text9; have HL := Lib.hid like_one
  have HE := Lib.hid he; clear he
  go_enter Tryz.func6, Tryz.ntmps6
  go_upto_region 10 with (first
    | (go_at_call 22; (with_reducible refine (H1.out _ HE.out).mono ?_); rintro e w1 ⟨rfl, hb1⟩; have E1 := Lib.hid (HE.out.below hb1))
    | (go_at_call 22; (with_reducible refine (H2.out _ (env_alloc E1.out)).mono ?_); rintro e w2 ⟨rfl, hb2⟩; have S2 := step_alloc hb2; have E2 := Lib.hid (E1.out.below S2); have T2 := Lib.hid (cells_next hb2); have z2 : w1.heap.size < w2.heap.size := (by have h1 := hb2.size; simp at h1; omega))
    | (go_at_call 22; (with_reducible refine (H3.out _ (env_alloc E2.out)).mono ?_); rintro e w3 ⟨rfl, hb3⟩; have S3 := step_alloc hb3; have E3 := Lib.hid (E2.out.below S3); have U3 := Lib.hid (cells_next hb3); have z3 : w2.heap.size < w3.heap.size := (by have h1 := hb3.size; simp at h1; omega); have T3 := Lib.hid (cells_keep T2.out z2 S3))
    | (go_at_call 22; (with_reducible refine (H4.out _ (env_alloc E3.out)).mono ?_); rintro e w4 ⟨rfl, hb4⟩; have S4 := step_alloc hb4; have E4 := Lib.hid (E3.out.below S4); have z4 := S4.size; have T4 := Lib.hid (cells_keep T3.out (by omega) S4); have U4 := Lib.hid (cells_keep U3.out (by omega) S4))
    | (go_at_call 22; (with_reducible refine (H5.out _ (env_alloc E4.out)).mono ?_); rintro e w5 ⟨rfl, hb5⟩; have S5 := step_alloc hb5; have E5 := Lib.hid (E4.out.below S5); have z5 := S5.size; have T5 := Lib.hid (cells_keep T4.out (by omega) S5); have U5 := Lib.hid (cells_keep U4.out (by omega) S5))
    | (go_at_call 23; (with_reducible refine (H6.out _ (env_alloc E5.out)).mono ?_); rintro e w6 ⟨ao6, cap6, rfl, hb6⟩; have S6 := step_alloc hb6; have E6 := Lib.hid (E5.out.below S6); have z6 := S6.size; have T6 := Lib.hid (cells_keep T5.out (by omega) S6); have U6 := Lib.hid (cells_keep U5.out (by omega) S6))
    | (go_at_call 24; (with_reducible refine (H7.out w6 E6.out).mono ?_); rintro e w7 ⟨rfl, hb7⟩; have S7 := step_alloc hb7; have E7 := Lib.hid (E6.out.below S7); have z7 := S7.size; have T7 := Lib.hid (cells_keep T6.out (by omega) S7); have U7 := Lib.hid (cells_keep U6.out (by omega) S7))
    | (go_at_call 25; (with_reducible refine (H8.out _ E7.out).mono ?_); rintro e w8 ⟨rfl, S8⟩; have E8 := Lib.hid (E7.out.below S8); have z8 := S8.size; have T8 := Lib.hid (cells_keep T7.out (by omega) S8); have U8 := Lib.hid (cells_keep U7.out (by omega) S8))
    | (go_at_call 25; (with_reducible refine (H9.out _ E8.out).mono ?_); rintro e w9 ⟨rfl, S9⟩; have E9 := Lib.hid (E8.out.below S9); have z9 := S9.size; have T9 := Lib.hid (cells_keep T8.out (by omega) S9); have U9 := Lib.hid (cells_keep U8.out (by omega) S9)))
  go_wp2_with (first
    | (go_at_call 26; (with_reducible refine (lives_any _ E9.out.env).mono ?_); rintro e w10 ⟨rfl, S10⟩; have E10 := Lib.hid (E9.out.below S10); have z10 := S10.size; have T10 := Lib.hid (cells_keep T9.out (by omega) S10); have U10 := Lib.hid (cells_keep U9.out (by omega) S10); have t0 := T10.out 0; have t1 := T10.out 1; have t2 := T10.out 2; have t3 := T10.out 3; have t4 := T10.out 4; have u0 := U10.out 0; have u1 := U10.out 1; have u2 := U10.out 2; have u3 := U10.out 3; have u4 := U10.out 4; simp only [List.getElem?_toArray, List.getElem?_cons_zero, List.getElem?_cons_succ] at t0 t1 t2 t3 t4 u0 u1 u2 u3 u4)
    | (go_at_call 27; (with_reducible refine (HL.out w10).mono ?_); rintro e w11 ⟨rfl, hb11⟩))
  go_ret
  have y1 := hb1.size
  have y11 : Below w10.heap.size w10 w11 := (((Below.refl _ _).alloc (Nat.le_refl _) _).alloc (by simp) _).trans (hb11.mono (by simp; omega))
  have z1 := S2.size; have z12 := S3.size; have z10 := S10.size
  exact ⟨rfl, (((((((((hb1.trans (S2.mono (by omega))).trans (S3.mono (by omega))).trans (S4.mono (by omega))).trans (S5.mono (by omega))).trans (S6.mono (by omega))).trans (S7.mono (by omega))).trans (S8.mono (by omega))).trans (S9.mono (by omega))).trans (S10.mono (by omega))).trans (y11.mono (by omega))⟩
end Go.Proofs.YtgkhnpldjdbmoaaGreatDoor
