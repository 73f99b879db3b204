/- The walks of number.Int, number.Real, and of what they call. -/
import Derived.Test.YtgkhnpldjdbmoaaGreatDoorC4
import Derived.Lib.AtoiErrMem
set_option linter.unusedVariables false
set_option linter.unusedSimpArgs false
namespace Go.Proofs.YtgkhnpldjdbmoaaGreatDoor
open Go.RowKit

theorem orZero_walk (a : Bytes) : (bs a).toList.isEmpty = a.isEmpty := by rw [bs_toList]
set_option maxRecDepth 100000 in
set_option maxHeartbeats 2000000 in
theorem or_any (a : Bytes) (b : Nat) (w : World) (c0 : w.cell? ⟨b, 0, none⟩ = some (.string (bs a))) (c1 : w.cell? ⟨b, 1, none⟩ = some (.string ⟨#[48]⟩)) :
    Calls Tryz.prog 198 #[.slice (some ⟨b, 0, none⟩) 2 2] w fun e w' => e = .returned (.string (bs (orZero a))) ∧ w = w' := by
  have hw := orZero_walk a
  cases hA : a.isEmpty
  · have HR : Hid (orZero a = a) := Lib.hid (by unfold orZero; rw [hA]; rfl)
    rw [hA] at hw; clear hA
    go_enter Tryz.func198, Tryz.ntmps198
    go_wp2
    refine wp_loop_rounds 3 ?_
    rw [rounds_succ]; go_wp2
    all_goals (try (rw [rounds_succ]; go_wp2))
    all_goals (try (rw [rounds_succ]; go_wp2))
    all_goals
      go_ret
      exact ⟨by rw [HR.out]; rfl, rfl⟩
  · have HR : Hid (bs (orZero a) = ⟨#[48]⟩) := Lib.hid (by unfold orZero; rw [hA]; rfl)
    rw [hA] at hw; clear hA
    go_enter Tryz.func198, Tryz.ntmps198
    go_wp2
    refine wp_loop_rounds 3 ?_
    rw [rounds_succ]; go_wp2
    all_goals (try (rw [rounds_succ]; go_wp2))
    all_goals (try (rw [rounds_succ]; go_wp2))
    all_goals
      go_ret
      exact ⟨by rw [HR.out]; rfl, rfl⟩

/-! ParseInt of 0 and at most ten digits -/
theorem decGo_lt : ∀ (l : Bytes) (acc k : Nat), allDig l = true → acc < 10 ^ k → l.foldl (fun n c => 10 * n + (c.toNat - 48)) acc < 10 ^ (k + l.length) := by
  intro l
  induction l with
  | nil => intro acc k _ h; simpa using h
  | cons c l ih =>
    intro acc k hd h
    simp only [allDig, List.all_cons, Bool.and_eq_true] at hd
    have hc : c.toNat - 48 ≤ 9 := by have := hd.1; rw [digit_bool] at this; simp at this; omega
    have := ih (10 * acc + (c.toNat - 48)) (k + 1) hd.2 (by rw [Nat.pow_succ]; omega)
    simp only [List.foldl_cons, List.length_cons]
    rw [show k + (l.length + 1) = k + 1 + l.length by omega]
    exact this
theorem parseM_digits : ∀ (l : Bytes) (acc k : Nat), allDig l = true → acc < 10 ^ k → k + l.length ≤ 11 → Lib.parseUintM (2 ^ 64 - 1) acc l = .ok (l.foldl (fun n c => 10 * n + (c.toNat - 48)) acc) := by
  intro l
  induction l with
  | nil => intro acc k _ _ _; rfl
  | cons c l ih =>
    intro acc k hd h hk
    simp only [allDig, List.all_cons, Bool.and_eq_true] at hd
    have hc : 48 ≤ c.toNat ∧ c.toNat ≤ 57 := by have := hd.1; rw [digit_bool] at this; simpa using this
    simp only [List.length_cons] at hk
    have hp : 10 ^ k ≤ 10 ^ 10 := Nat.pow_le_pow_right (by omega) (by omega)
    have hp2 : (10 : Nat) ^ 10 = 10000000000 := by decide
    simp only [Lib.parseUintM, List.foldl_cons]
    rw [if_pos hc, if_neg (by omega), if_neg (by omega), ih _ (k + 1) hd.2 (by rw [Nat.pow_succ]; omega) (by omega), Nat.mul_comm]
theorem parse_digits (a : Bytes) (hd : allDig a = true) (hl : a.length ≤ 10) : Lib.parseIntB 64 (48 :: a) = .ok (decVal a : Int) := by
  have h1 := parseM_digits (48 :: a) 0 0 (by simp [allDig, isDigit] at *; exact hd) (by decide) (by simp; omega)
  have h2 := decGo_lt a 0 0 hd (by decide)
  simp only [List.foldl_cons] at h1
  have h3 : (10 : Nat) ^ (0 + a.length) ≤ 10 ^ 10 := Nat.pow_le_pow_right (by omega) (by omega)
  have hp2 : (10 : Nat) ^ 10 = 10000000000 := by decide
  unfold Lib.parseIntB Lib.parseUintB
  simp only
  rw [if_neg (by decide : ¬ (UInt8.toNat 48 = 43 ∨ UInt8.toNat 48 = 45)), if_neg (by simp), h1]
  simp only
  have h4 : (List.foldl (fun n c => 10 * n + (UInt8.toNat c - 48)) (10 * 0 + (UInt8.toNat 48 - 48)) a) = decVal a := rfl
  rw [h4]
  have h5 : decVal a < 10 ^ (0 + a.length) := h2
  rw [if_neg (by simp; omega), if_neg (by simp), if_neg (by decide)]

theorem parseInt_calls (a : Bytes) (w : World) (hd : allDig a = true) (hl : a.length ≤ 10) :
    Calls Tryz.prog 217 #[.string (bs (48 :: a)), .int .i64 10, .int .i64 64] w fun e w' => e = .returned (.tuple #[.int .i64 (decVal a), .nilIface]) ∧ Below w.heap.size w w' := by
  refine (Tryz.strconv_ParseInt_10_at64_ok (bs (48 :: a)) (by rw [bs_size]; simp; omega) (decVal a) (by rw [bs_list]; exact parse_digits a hd hl) w).mono ?_
  rintro e w' ⟨h1, h2⟩
  refine ⟨h1, ?_⟩
  rcases h2 with rfl | ⟨t, rfl⟩
  · exact Below.refl _ _
  · exact Lib.bytesWorld_below _ _ _

theorem sgn_len (l : Bytes) : (sgn l).2.length ≤ l.length := by
  cases l with
  | nil => simp [sgn]
  | cons c l => simp only [sgn]; split <;> (try split) <;> simp
theorem cutN_facts {l : Bytes} {k : Nat} {g : Bool} {a b : Bytes} (h : cutN l = ⟨k, g, a, b⟩) : a.length ≤ l.length ∧ b.length ≤ l.length ∧ allDig a = true ∧ allDig b = true ∧ k ≤ 2 := by
  have h1 := sgn_len l
  have h2 := dotA_le (sgn l).2
  have h3 := dotB_le (sgn l).2
  unfold cutN at h
  split at h
  · rename_i hc
    simp only [Bool.and_eq_true] at hc
    simp only [Parts.mk.injEq] at h
    obtain ⟨rfl, rfl, rfl, rfl⟩ := h
    exact ⟨by omega, by omega, hc.1.1, hc.1.2, by split <;> omega⟩
  · simp only [Parts.mk.injEq] at h
    obtain ⟨rfl, rfl, rfl, rfl⟩ := h
    exact ⟨by simp, by simp, rfl, rfl, by omega⟩
theorem allDig_trimL {a : Bytes} (h : allDig a = true) : allDig (trimL a) = true := by
  unfold allDig at *
  rw [List.all_eq_true] at *
  intro x hx
  exact h x (List.Sublist.mem hx (List.dropWhile_sublist _))

/-- A block that was laid just ahead of a call that turns nothing of what was there. -/
theorem held {w w2 : World} {cs : Array Value} {T : TypeId} (hb : Below (w.alloc (.cells cs T)).heap.size (w.alloc (.cells cs T)) w2) :
    (∀ j, w2.cell? ⟨w.heap.size, j, none⟩ = cs[j]?) ∧ (∀ j, w2.frozen? ⟨w.heap.size, j, none⟩ = false) ∧ w.heap.size + 1 ≤ w2.heap.size := by
  have hs : (w.alloc (.cells cs T)).heap.size = w.heap.size + 1 := by simp
  have hk : (w.alloc (.cells cs T)).heap[w.heap.size]? = some (.cells cs T) := heap_alloc_last w _
  have h2 : w2.heap[w.heap.size]? = some (.cells cs T) := by rw [hb.block _ (by omega)]; exact hk
  exact ⟨fun j => by rw [Lib.cell_of_heap h2], fun j => Lib.frozen_of_heap h2 j, by have := hb.size; omega⟩
theorem bcell {W w1 : World} (hb : Below W.heap.size W w1) : (∀ b o, b < W.heap.size → w1.cell? ⟨b, o, none⟩ = W.cell? ⟨b, o, none⟩) ∧ (∀ b o, b < W.heap.size → w1.frozen? ⟨b, o, none⟩ = W.frozen? ⟨b, o, none⟩) :=
  ⟨fun b o h => hb.cell (p := ⟨b, o, none⟩) h, fun b o h => hb.frozen (p := ⟨b, o, none⟩) h⟩

theorem kne1 {k : Nat} (h : k ≠ 1) : (((k : Int)) != 1) = true := by simp; omega
theorem keq1 {k : Nat} (h : k = 1) : (((k : Int)) != 1) = false := by subst h; rfl
theorem kne2 {k : Nat} (h : k ≠ 2) : (((k : Int)) != 2) = true := by simp; omega
theorem keq2 {k : Nat} (h : k = 2) : (((k : Int)) != 2) = false := by subst h; rfl

set_option maxRecDepth 100000 in
set_option maxHeartbeats 2000000 in
theorem int_any (s : ByteArray) (w : World) (hs : s.size ≤ 140737488355328) (he : Env w) : Calls Tryz.prog 180 #[.string s] w fun e w' => e = .returned (.tuple #[.int .i64 (numInt s.data.toList).1, .int .i64 (numInt s.data.toList).2]) ∧ Below w.heap.size w w' := by
  rcases hp : cutN s.data.toList with ⟨k, g, a, b⟩
  obtain ⟨ha, hb, hda, hdb, hk2⟩ := cutN_facts hp
  have hsl := size_list s
  have hal : a.length ≤ 140737488355328 := by omega
  have hbl : b.length ≤ 140737488355328 := by omega
  have hta := trimL_le a
  have HP := Lib.hid hp
  have hR : numInt s.data.toList = if k ≠ 1 then (0, 7) else if 10 < (trimL a).length then (0, 3) else if 2147483647 < decVal (trimL a) then (0, 3) else if g && !none2 (trimL a) (trimR b) then (-(decVal (trimL a) : Int), 0) else ((decVal (trimL a) : Int), 0) := by
    unfold numInt; rw [hp]
  clear hp
  by_cases hk : k = 1
  · have hn := keq1 hk
    rw [if_neg (by omega)] at hR
    by_cases h10 : 10 < (trimL a).length
    · rw [if_pos h10] at hR
      have HR := Lib.hid hR; clear hR
      have h10b : (10 : Int) < (bs (trimL a)).size := by rw [bs_size]; omega
      have HS := Lib.hid hsl; clear hsl hk
      go_enter Tryz.func180, Tryz.ntmps180
      go_wp2_with (first
        | (go_at_call 195; refine (cut_any _ _ hs he).mono ?_; rintro e w1 ⟨rfl, hb1⟩; have z1 := hb1.size; rw [HP.out]; unfold partsV; dsimp only)
        | (go_at_call 197; refine (bare_any _ _ _ _ _ hal hbl).mono ?_; rintro e w2 ⟨rfl, hb2⟩; obtain ⟨q1, q2, q3⟩ := held hb2))
      go_ret2
      exact ⟨by rw [HR.out]; rfl, by (repeat' (first | (with_reducible exact Below.refl _ _) | (with_reducible assumption) | (with_reducible refine Below.alloc ?_ ?_ _) | (with_reducible refine below_drewN ?_ _) | (with_reducible refine Below.drew ?_) | (with_reducible refine Below.setCell ?_ ?_ _) | (with_reducible refine below_trans ?_ (by assumption)) | (with_reducible exact Nat.le_refl _) | (with_reducible exact Below.size (by assumption)) | omega | (simp; omega) | (simp; done)))⟩
    · rw [if_neg h10] at hR
      have h10b : ((bs (trimL a)).size : Int) ≤ 10 := by rw [bs_size]; omega
      have hcc : (⟨#[48]⟩ : ByteArray) ++ bs (trimL a) = bs (48 :: trimL a) := by
        have := bs_append [48] (trimL a); exact this
      have HC := Lib.hid hcc; clear hcc
      have hdt := allDig_trimL hda
      have HD := Lib.hid hdt; clear hdt
      have hlt : decVal (trimL a) < 10000000000 := by
        have h2 := decGo_lt (trimL a) 0 0 HD.out (by decide)
        have h3 : (10 : Nat) ^ (0 + (trimL a).length) ≤ 10 ^ 10 := Nat.pow_le_pow_right (by omega) (by omega)
        have hp2 : (10 : Nat) ^ 10 = 10000000000 := by decide
        unfold decVal; omega
      generalize hV : decVal (trimL a) = V at *
      have HV := Lib.hid hV; clear hV
      generalize hG : (g && !none2 (trimL a) (trimR b)) = G at *
      have HG := Lib.hid hG; clear hG
      have HS := Lib.hid hsl; clear hsl hk
      have hl10 : (trimL a).length ≤ 10 := by omega
      have HR := Lib.hid hR; clear hR
      by_cases hV : 2147483647 < V
      · cases G
        all_goals
          go_enter Tryz.func180, Tryz.ntmps180
          go_wp2_with (first
            | (go_at_call 195; refine (cut_any _ _ hs he).mono ?_; rintro e w1 ⟨rfl, hb1⟩; have z1 := hb1.size; rw [HP.out]; unfold partsV; dsimp only)
            | (go_at_call 197; refine (bare_any _ _ _ _ _ hal hbl).mono ?_; rintro e w2 ⟨rfl, hb2⟩; rw [HG.out]; obtain ⟨q1, q2, q3⟩ := held hb2)
            | (go_at_call 217; rw [HC.out]; refine (parseInt_calls _ _ HD.out hl10).mono ?_; rintro e w3 ⟨rfl, hb3⟩; rw [HV.out]; have r1 := hb3.cell (p := ⟨w1.heap.size, 1, none⟩) (by simp; omega)))
          go_ret2
          exact ⟨by rw [HR.out, if_pos hV]; rfl, by (repeat' (first | (with_reducible exact Below.refl _ _) | (with_reducible assumption) | (with_reducible refine Below.alloc ?_ ?_ _) | (with_reducible refine below_drewN ?_ _) | (with_reducible refine Below.drew ?_) | (with_reducible refine Below.setCell ?_ ?_ _) | (with_reducible refine below_trans ?_ (by assumption)) | (with_reducible exact Nat.le_refl _) | (with_reducible exact Below.size (by assumption)) | omega | (simp; omega) | (simp; done)))⟩
      · cases G
        all_goals
          go_enter Tryz.func180, Tryz.ntmps180
          go_wp2_with (first
            | (go_at_call 195; refine (cut_any _ _ hs he).mono ?_; rintro e w1 ⟨rfl, hb1⟩; have z1 := hb1.size; rw [HP.out]; unfold partsV; dsimp only)
            | (go_at_call 197; refine (bare_any _ _ _ _ _ hal hbl).mono ?_; rintro e w2 ⟨rfl, hb2⟩; rw [HG.out]; obtain ⟨q1, q2, q3⟩ := held hb2)
            | (go_at_call 217; rw [HC.out]; refine (parseInt_calls _ _ HD.out hl10).mono ?_; rintro e w3 ⟨rfl, hb3⟩; rw [HV.out]; have r1 := hb3.cell (p := ⟨w1.heap.size, 1, none⟩) (by simp; omega)))
          go_ret2
          exact ⟨by rw [HR.out, if_neg hV]; rfl, by (repeat' (first | (with_reducible exact Below.refl _ _) | (with_reducible assumption) | (with_reducible refine Below.alloc ?_ ?_ _) | (with_reducible refine below_drewN ?_ _) | (with_reducible refine Below.drew ?_) | (with_reducible refine Below.setCell ?_ ?_ _) | (with_reducible refine below_trans ?_ (by assumption)) | (with_reducible exact Nat.le_refl _) | (with_reducible exact Below.size (by assumption)) | omega | (simp; omega) | (simp; done)))⟩
  · have hn := kne1 hk
    rw [if_pos (by omega)] at hR
    have HR := Lib.hid hR; clear hR
    have HS := Lib.hid hsl; clear hsl
    go_enter Tryz.func180, Tryz.ntmps180
    go_wp2_with (go_at_call 195; refine (cut_any _ _ hs he).mono ?_; rintro e w1 ⟨rfl, hb1⟩; have z1 := hb1.size; rw [HP.out]; unfold partsV; dsimp only)
    go_ret2
    exact ⟨by rw [HR.out]; rfl, by (repeat' (first | (with_reducible exact Below.refl _ _) | (with_reducible assumption) | (with_reducible refine Below.alloc ?_ ?_ _) | (with_reducible refine below_drewN ?_ _) | (with_reducible refine Below.drew ?_) | (with_reducible refine Below.setCell ?_ ?_ _) | (with_reducible refine below_trans ?_ (by assumption)) | (with_reducible exact Nat.le_refl _) | (with_reducible exact Below.size (by assumption)) | omega | (simp; omega) | (simp; done)))⟩
end Go.Proofs.YtgkhnpldjdbmoaaGreatDoor
