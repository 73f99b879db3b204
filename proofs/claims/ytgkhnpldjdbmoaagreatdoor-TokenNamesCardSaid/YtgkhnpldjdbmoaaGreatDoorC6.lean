/- The walk of number.Real. -/
import Derived.Test.YtgkhnpldjdbmoaaGreatDoorC5
import Derived.Deep.RegionHeld3
set_option linter.unusedVariables false
set_option linter.unusedSimpArgs false
namespace Go.Proofs.YtgkhnpldjdbmoaaGreatDoor
open Go.RowKit

theorem later {w2 w3 : World} {b : Nat} {cs : Array Value} (h1 : ∀ j, w2.cell? ⟨b, j, none⟩ = cs[j]?) (h2 : ∀ j, w2.frozen? ⟨b, j, none⟩ = false) (h3 : b + 1 ≤ w2.heap.size) (hb : Below w2.heap.size w2 w3) :
    (∀ j, w3.cell? ⟨b, j, none⟩ = cs[j]?) ∧ (∀ j, w3.frozen? ⟨b, j, none⟩ = false) ∧ b + 1 ≤ w3.heap.size :=
  ⟨fun j => by rw [hb.cell (p := ⟨b, j, none⟩) (by simp; omega), h1], fun j => by rw [hb.frozen (p := ⟨b, j, none⟩) (by simp; omega), h2], by have := hb.size; omega⟩

theorem name_world {P : Program} {c : Code} {Q : Exit → Act → World → Prop} {a : Act} {w : World} (h : ∀ W, W = w → c.wp P Q a W) : c.wp P Q a w := h w rfl

theorem or_1 (a : Bytes) (W : World) : Calls Tryz.prog 198 #[.slice (some ⟨W.heap.size, 0, none⟩) 2 2] (W.alloc (.cells #[.string (bs a), .string ⟨#[48]⟩] 9)).drew fun e w' => e = .returned (.string (bs (orZero a))) ∧ (W.alloc (.cells #[.string (bs a), .string ⟨#[48]⟩] 9)).drew = w' :=
  or_any a _ _ (by go_simp) (by go_simp)
theorem or_2 (a : Bytes) (o : Obj) (W : World) : Calls Tryz.prog 198 #[.slice (some ⟨W.heap.size, 0, none⟩) 2 2] ((W.alloc (.cells #[.string (bs a), .string ⟨#[48]⟩] 9)).alloc o).drew fun e w' => e = .returned (.string (bs (orZero a))) ∧ ((W.alloc (.cells #[.string (bs a), .string ⟨#[48]⟩] 9)).alloc o).drew = w' :=
  or_any a _ _ (by go_simp) (by go_simp)
theorem or_3 (a : Bytes) (o : Obj) (W : World) : Calls Tryz.prog 198 #[.slice (some ⟨W.heap.size + 1, 0, none⟩) 2 2] ((W.alloc o).alloc (.cells #[.string (bs a), .string ⟨#[48]⟩] 9)).drew fun e w' => e = .returned (.string (bs (orZero a))) ∧ ((W.alloc o).alloc (.cells #[.string (bs a), .string ⟨#[48]⟩] 9)).drew = w' :=
  or_any a _ _ (by go_simp) (by go_simp)

theorem two_new {W : World} {b : Nat} {v : Nat → Option Value} (h1 : ∀ j, W.cell? ⟨b, j, none⟩ = v j) (h2 : ∀ j, W.frozen? ⟨b, j, none⟩ = false) (h3 : b + 1 ≤ W.heap.size) :
    (∀ j o, (W.alloc o).cell? ⟨b, j, none⟩ = v j) ∧ (∀ j o o', ((W.alloc o).alloc o').cell? ⟨b, j, none⟩ = v j) ∧ (∀ j o o', ((W.alloc o).alloc o').frozen? ⟨b, j, none⟩ = false) := by
  have a1 : ∀ (j : Nat) (o : Obj), (W.alloc o).cell? ⟨b, j, none⟩ = v j := fun j o => by rw [((Below.refl W.heap.size W).alloc (Nat.le_refl _) o).cell (p := ⟨b, j, none⟩) (by simp; omega), h1]
  have f1 : ∀ (j : Nat) (o : Obj), (W.alloc o).frozen? ⟨b, j, none⟩ = false := fun j o => by rw [((Below.refl W.heap.size W).alloc (Nat.le_refl _) o).frozen (p := ⟨b, j, none⟩) (by simp; omega), h2]
  refine ⟨a1, fun j o o' => ?_, fun j o o' => ?_⟩
  · rw [((Below.refl (W.alloc o).heap.size (W.alloc o)).alloc (Nat.le_refl _) o').cell (p := ⟨b, j, none⟩) (by simp; omega), a1]
  · rw [((Below.refl (W.alloc o).heap.size (W.alloc o)).alloc (Nat.le_refl _) o').frozen (p := ⟨b, j, none⟩) (by simp; omega), f1]

set_option maxRecDepth 100000 in
set_option maxHeartbeats 8000000 in
theorem real_any (s : ByteArray) (w : World) (hs : s.size ≤ 140737488355328) (he : Env w) : Calls Tryz.prog 144 #[.string s] w fun e w' => e = .returned (.tuple #[.string (bs (numReal s.data.toList).1), .int .i64 (numReal s.data.toList).2]) ∧ Below w.heap.size w w' := by
  rcases hp : cutN s.data.toList with ⟨k, g, a, b⟩
  obtain ⟨ha, hb, hda, hdb, hk2⟩ := cutN_facts hp
  have hsl := size_list s
  have hal : a.length ≤ 140737488355328 := by omega
  have hbl : b.length ≤ 140737488355328 := by omega
  have hta := trimL_le a
  have htb := trimR_le b
  have HP := Lib.hid hp
  have hR : numReal s.data.toList = if k ≠ 2 then ([], 7) else if 64 < a.length + b.length then ([], 3) else if 64 < (orZero (trimL a)).length + (orZero (trimR b)).length then ([], 3) else
      ((if g && !none2 (trimL a) (trimR b) then [45] else []) ++ orZero (trimL a) ++ [46] ++ orZero (trimR b), 0) := by
    unfold numReal; rw [hp]
  clear hp
  by_cases hk : k = 2
  · have hn := keq2 hk
    rw [if_neg (by omega)] at hR
    by_cases h64 : 64 < a.length + b.length
    · rw [if_pos h64] at hR
      have hd : decide (64 < a.length + b.length) = true := by simpa using h64
      have HD := Lib.hid hd
      have HR := Lib.hid hR; clear hR hd
      have HS := Lib.hid hsl; clear hsl hk
      go_enter Tryz.func144, Tryz.ntmps144
      go_wp2_with (first
        | (go_at_call 195; refine (cut_any _ _ hs he).mono ?_; rintro e w1 ⟨rfl, hb1⟩; have z1 := hb1.size; rw [HP.out]; unfold partsV; dsimp only)
        | (go_at_call 196; refine (long_any _ _ _ _ _ hal hbl).mono ?_; rintro e w2 ⟨rfl, hb2⟩; rw [HD.out]; obtain ⟨q1, q2, q3⟩ := held hb2))
      go_ret2
      exact ⟨by rw [HR.out]; rfl, by (repeat' (first | (with_reducible exact Below.refl _ _) | (with_reducible assumption) | (with_reducible refine Below.alloc ?_ ?_ _) | (with_reducible refine below_drewN ?_ _) | (with_reducible refine Below.drew ?_) | (with_reducible refine Below.setCell ?_ ?_ _) | (with_reducible refine below_trans ?_ (by assumption)) | (with_reducible exact Nat.le_refl _) | (with_reducible exact Below.size (by assumption)) | omega | (simp; omega) | (simp; done)))⟩
    · rw [if_neg h64] at hR
      have hd : decide (64 < a.length + b.length) = false := by simpa using h64
      have HD := Lib.hid hd
      have HR := Lib.hid hR; clear hR hd
      have HS := Lib.hid hsl; clear hsl hk
      generalize hG : (g && !none2 (trimL a) (trimR b)) = G at *
      have HG := Lib.hid hG; clear hG
      have hoa : (orZero (trimL a)).length ≤ a.length + 1 := by unfold orZero; split; (simp); omega
      have hob : (orZero (trimR b)).length ≤ b.length + 1 := by unfold orZero; split; (simp); omega
      have hA4 : (orZero (trimL a)).length ≤ 140737488355328 := by omega
      have hB4 : (orZero (trimR b)).length ≤ 140737488355328 := by omega
      have hA5 : (bs (orZero (trimL a))).size ≤ 140737488355328 := by rw [bs_size]; omega
      have hB5 : (bs (orZero (trimR b))).size ≤ 140737488355328 := by rw [bs_size]; omega
      obtain ⟨D2, hD2⟩ : ∃ D2, decide (64 < (orZero (trimL a)).length + (orZero (trimR b)).length) = D2 := ⟨_, rfl⟩
      have HD2 := Lib.hid hD2; clear hD2
      have HC : ∀ x : ByteArray, Hid (x ++ bs (orZero (trimL a)) ++ ⟨#[46]⟩ ++ bs (orZero (trimR b)) = bs (x.data.toList ++ orZero (trimL a) ++ [46] ++ orZero (trimR b))) := fun x => Lib.hid (by
        rw [← bs_append, ← bs_append, ← bs_append]; rfl)
      obtain ⟨G0, hG0⟩ : ∃ G0, G0 = G := ⟨_, rfl⟩
      cases G
      all_goals
        go_enter Tryz.func144, Tryz.ntmps144
        go_wp2_with (first
          | (go_at_call 195; refine (cut_any _ _ hs he).mono ?_; rintro e w1 ⟨rfl, hb1⟩; have z1 := hb1.size; rw [HP.out]; unfold partsV; dsimp only)
          | (go_at_call 196; refine (long_any _ _ _ _ _ hal hbl).mono ?_; rintro e w2 ⟨rfl, hb2⟩; rw [HD.out]; obtain ⟨q1, q2, q3⟩ := held hb2)
          | (go_at_call 197; refine (bare_any _ _ _ _ _ hal hbl).mono ?_; rintro e w3 ⟨rfl, hb3⟩; rw [HG.out]; obtain ⟨r1, r2, r3⟩ := later q1 q2 q3 hb3))
        refine name_world ?_
        intro W hW
        have k1 : ∀ j, W.cell? ⟨w1.heap.size, j, none⟩ = #[.int .i64 k, .bool G0, .string (bs (trimL a)), .string (bs (trimR b))][j]? := by
          intro j; rw [hW, hG0]
          match j with
          | 0 | 1 | 2 | 3 => go_simp
          | j + 4 => go_simp
        have k2 : ∀ j, W.frozen? ⟨w1.heap.size, j, none⟩ = false := by intro j; rw [hW]; go_simp
        have zW : w1.heap.size + 1 ≤ W.heap.size := by rw [hW]; simp; omega
        have hBW : Below w.heap.size w W := by rw [hW]; (repeat' (first | (with_reducible exact Below.refl _ _) | (with_reducible assumption) | (with_reducible refine Below.alloc ?_ ?_ _) | (with_reducible refine below_drewN ?_ _) | (with_reducible refine Below.drew ?_) | (with_reducible refine Below.setCell ?_ ?_ _) | (with_reducible refine below_trans ?_ (by assumption)) | (with_reducible exact Nat.le_refl _) | (with_reducible exact Below.size (by assumption)) | omega | (simp; omega) | (simp; done)))
        rw [hG0] at k1
        clear hG0 hW r1 r2 r3 hb3 q1 q2 q3 hb2
        obtain ⟨k3, k4, k5⟩ := two_new k1 k2 zW
        go_region_with (first | (refine Calls.mono (or_any (trimL a) _ _ ?_ ?_) ?_; (focus (go_simp; done)); (focus (go_simp; done)); rintro e w4 ⟨rfl, rfl⟩) | (refine Calls.mono (or_any (trimR b) _ _ ?_ ?_) ?_; (focus (go_simp; done)); (focus (go_simp; done)); rintro e w4 ⟨rfl, rfl⟩))
        all_goals
          cases D2
          · go_wp2_with (go_at_call 196; refine (long_any _ _ _ _ _ hA4 hB4).mono ?_; rintro e w5 ⟨rfl, hb5⟩; rw [HD2.out]; have r1 := hb5.cell (p := ⟨w1.heap.size, 2, none⟩) (by simp; omega); have r2 := hb5.cell (p := ⟨w1.heap.size, 3, none⟩) (by simp; omega))
            go_ret2
            refine ⟨?_, by (repeat' (first | (with_reducible exact Below.refl _ _) | (with_reducible assumption) | (with_reducible refine Below.alloc ?_ ?_ _) | (with_reducible refine below_drewN ?_ _) | (with_reducible refine Below.drew ?_) | (with_reducible refine Below.setCell ?_ ?_ _) | (with_reducible refine below_trans ?_ (by assumption)) | (with_reducible exact Nat.le_refl _) | (with_reducible exact Below.size (by assumption)) | omega | (simp; omega) | (simp; done)))⟩
            rw [HR.out, if_neg (by have := HD2.out; simp at this; omega)]
            exact congrArg (fun x => Ending.returned (.tuple #[.string x, .int .i64 0])) (HC _).out
          · go_wp2_with (go_at_call 196; refine (long_any _ _ _ _ _ hA4 hB4).mono ?_; rintro e w5 ⟨rfl, hb5⟩; rw [HD2.out])
            go_ret2
            exact ⟨by rw [HR.out, if_pos (by have := HD2.out; simp at this; omega)]; rfl, by (repeat' (first | (with_reducible exact Below.refl _ _) | (with_reducible assumption) | (with_reducible refine Below.alloc ?_ ?_ _) | (with_reducible refine below_drewN ?_ _) | (with_reducible refine Below.drew ?_) | (with_reducible refine Below.setCell ?_ ?_ _) | (with_reducible refine below_trans ?_ (by assumption)) | (with_reducible exact Nat.le_refl _) | (with_reducible exact Below.size (by assumption)) | omega | (simp; omega) | (simp; done)))⟩
  · have hn := kne2 hk
    rw [if_pos (by omega)] at hR
    have HR := Lib.hid hR; clear hR
    have HS := Lib.hid hsl; clear hsl
    go_enter Tryz.func144, Tryz.ntmps144
    go_wp2_with (go_at_call 195; refine (cut_any _ _ hs he).mono ?_; rintro e w1 ⟨rfl, hb1⟩; have z1 := hb1.size; rw [HP.out]; unfold partsV; dsimp only)
    go_ret2
    exact ⟨by rw [HR.out]; rfl, by (repeat' (first | (with_reducible exact Below.refl _ _) | (with_reducible assumption) | (with_reducible refine Below.alloc ?_ ?_ _) | (with_reducible refine below_drewN ?_ _) | (with_reducible refine Below.drew ?_) | (with_reducible refine Below.setCell ?_ ?_ _) | (with_reducible refine below_trans ?_ (by assumption)) | (with_reducible exact Nat.le_refl _) | (with_reducible exact Below.size (by assumption)) | omega | (simp; omega) | (simp; done)))⟩
end Go.Proofs.YtgkhnpldjdbmoaaGreatDoor
