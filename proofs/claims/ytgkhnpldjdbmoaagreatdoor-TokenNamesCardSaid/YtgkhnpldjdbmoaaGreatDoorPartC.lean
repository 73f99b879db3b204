/- The walk of token.part. (Written by gen_part.py.) -/
import Derived.Test.YtgkhnpldjdbmoaaGreatDoorPartA
import Derived.Test.YtgkhnpldjdbmoaaGreatDoorC12
import Derived.Deep.DeepCutAuto
set_option linter.unusedVariables false
set_option linter.unusedSimpArgs false
namespace Go.Proofs.YtgkhnpldjdbmoaaGreatDoor
open Go.RowKit


set_option maxRecDepth 100000 in
set_option maxHeartbeats 2000000 in
theorem part_gt (s : ByteArray) (k : Nat) (w : World) (hs : s.size ≤ 4000000000) (hk : k < s.size) (he : Env w) (h0 : s[k] = 62) (hpr : pairB s k hk = false) :
    Calls Tryz.prog 60 #[.string s, .int .i64 k] w fun e w' => PartPost k (lex (s.data.toList.drop k)) e ∧ Below w.heap.size w w' := by
  obtain ⟨c, hc⟩ : ∃ c : Int, (s[k].toNat : Int) = c := ⟨_, rfl⟩
  have ix : ∀ W, (Instr.index 9 (.string s) (.int .i64 (k : Int))).run Tryz.prog W = .ok (.int .u8 c) W := fun W => by rw [← hc]; exact index_str s (k : Int) k rfl hk W
  have g1 : decide ((k : Int) < 0) = false := by simp
  have g2 : decide (s.size ≤ k) = false := by simp; omega
  have g3 : decide ((s.size : Int) ≤ (k : Int)) = false := by simp; omega
  have s1 : IntKind.i64.wrap ((k : Int) + 1) = (k : Int) + 1 := IntWalk.i64_in _ (by omega)
  have hh : ((s.data.toList.drop (k + 1)).head? == some 62) = false := by unfold pairB at hpr; rw [h0] at hpr; exact hpr
  have HL : Hid (lex (s.data.toList.drop k) = .err 7) := Lib.hid (by rw [drop_at hk, h0]; generalize s.data.toList.drop (k + 1) = l at hh ⊢; simp [lex, hh])
  go_enter Tryz.func60, Tryz.ntmps60
  go_upto_region 1 with fail
  go_cut [6] (fun c6 wx => c6 = .bool (pairB s k hk) ∧ PW w.heap.size k cs0 wx ∧ Below w.heap.size w wx)
  case first =>
    have done : ∀ nq : Nat, PW w.heap.size k cs0 (((w.alloc (Obj.cells #[Value.int IntKind.i64 ↑k] 3)).alloc (Obj.cells #[Value.int IntKind.i64 0, Value.int IntKind.i64 0, Value.string ⟨#[]⟩, Value.int IntKind.i64 0, Value.int IntKind.i64 0] 47)).drewN nq) ∧ Below w.heap.size w (((w.alloc (Obj.cells #[Value.int IntKind.i64 ↑k] 3)).alloc (Obj.cells #[Value.int IntKind.i64 0, Value.int IntKind.i64 0, Value.string ⟨#[]⟩, Value.int IntKind.i64 0, Value.int IntKind.i64 0] 47)).drewN nq) := part_start w k
    by_cases h1 : k + 1 < s.size
    · have ix1 := index_str s ((k : Int) + 1) (k + 1) rfl h1
      have hd : decide ((k : Int) + 1 < (s.size : Int)) = true := by simp; omega
      have g4 : decide ((k : Int) + 1 < 0) = false := by simp; omega
      have g5 : decide ((s.size : Int) ≤ (k : Int) + 1) = false := by simp; omega
      have hpr := (pairB_in hk h1)
      rw [hc] at hpr
      go_quiet (fail)
      go_wp2
      go_meet
      exact ⟨congrArg Value.bool hpr.symm, done nq⟩
    · have hd : decide ((k : Int) + 1 < (s.size : Int)) = false := by simp; omega
      have hpr := (pairB_out hk h1)
      go_quiet (fail)
      go_wp2
      go_meet
      exact ⟨congrArg Value.bool hpr.symm, done nq⟩
  case rest =>
  obtain ⟨rfl, hpw, hbw⟩ := hcut
  obtain ⟨p1, p2, p3, p4, p5⟩ := id hpw
  unfold cs0 at p3
  have hew := he.below hbw
  have hcv : c = 62 := by rw [← hc, h0]; rfl
  subst hcv
  rw [hpr]

  have q1 := p1; have q2 := p2; have q3 := p3; have q4 := p4
  go_wp2_with fail
  refine bodyPost_ret (v := .tuple #[.agg #[.int .i64 0, .int .i64 0, .string ⟨#[]⟩, .int .i64 0, .int .i64 0], .int .i64 7]) (by simp (maxDischargeDepth := 10) [results, Tryz.results60, go_sem, q1, q2, q3, q4]) rfl ⟨?_, ?_⟩
  · rw [HL.out]
    exact part_done (t := ⟨⟨0, 0, []⟩, 0, 0⟩) rfl (fun T n h => by cases h)
  · exact hbw.trans (by (repeat' (first | (with_reducible exact Below.refl _ _) | (with_reducible assumption) | (with_reducible refine Below.alloc ?_ ?_ _) | (with_reducible refine below_drewN ?_ _) | (with_reducible refine Below.drew ?_) | (with_reducible refine Below.setCell ?_ ?_ _) | (with_reducible refine below_trans ?_ (by assumption)) | (with_reducible exact Nat.le_refl _) | (with_reducible exact Below.size (by assumption)) | omega | (simp; omega) | (simp; done))))

set_option maxRecDepth 100000 in
set_option maxHeartbeats 2000000 in
theorem part_paren (s : ByteArray) (k : Nat) (w : World) (hs : s.size ≤ 4000000000) (hk : k < s.size) (he : Env w) (h0 : s[k] = 41) :
    Calls Tryz.prog 60 #[.string s, .int .i64 k] w fun e w' => PartPost k (lex (s.data.toList.drop k)) e ∧ Below w.heap.size w w' := by
  obtain ⟨c, hc⟩ : ∃ c : Int, (s[k].toNat : Int) = c := ⟨_, rfl⟩
  have ix : ∀ W, (Instr.index 9 (.string s) (.int .i64 (k : Int))).run Tryz.prog W = .ok (.int .u8 c) W := fun W => by rw [← hc]; exact index_str s (k : Int) k rfl hk W
  have g1 : decide ((k : Int) < 0) = false := by simp
  have g2 : decide (s.size ≤ k) = false := by simp; omega
  have g3 : decide ((s.size : Int) ≤ (k : Int)) = false := by simp; omega
  have s1 : IntKind.i64.wrap ((k : Int) + 1) = (k : Int) + 1 := IntWalk.i64_in _ (by omega)
  have HL : Hid (lex (s.data.toList.drop k) = .err 7) := Lib.hid (by rw [drop_at hk, h0]; rfl)
  go_enter Tryz.func60, Tryz.ntmps60
  go_upto_region 1 with fail
  go_cut [6] (fun c6 wx => c6 = .bool (pairB s k hk) ∧ PW w.heap.size k cs0 wx ∧ Below w.heap.size w wx)
  case first =>
    have done : ∀ nq : Nat, PW w.heap.size k cs0 (((w.alloc (Obj.cells #[Value.int IntKind.i64 ↑k] 3)).alloc (Obj.cells #[Value.int IntKind.i64 0, Value.int IntKind.i64 0, Value.string ⟨#[]⟩, Value.int IntKind.i64 0, Value.int IntKind.i64 0] 47)).drewN nq) ∧ Below w.heap.size w (((w.alloc (Obj.cells #[Value.int IntKind.i64 ↑k] 3)).alloc (Obj.cells #[Value.int IntKind.i64 0, Value.int IntKind.i64 0, Value.string ⟨#[]⟩, Value.int IntKind.i64 0, Value.int IntKind.i64 0] 47)).drewN nq) := part_start w k
    by_cases h1 : k + 1 < s.size
    · have ix1 := index_str s ((k : Int) + 1) (k + 1) rfl h1
      have hd : decide ((k : Int) + 1 < (s.size : Int)) = true := by simp; omega
      have g4 : decide ((k : Int) + 1 < 0) = false := by simp; omega
      have g5 : decide ((s.size : Int) ≤ (k : Int) + 1) = false := by simp; omega
      have hpr := (pairB_in hk h1)
      rw [hc] at hpr
      go_quiet (fail)
      go_wp2
      go_meet
      exact ⟨congrArg Value.bool hpr.symm, done nq⟩
    · have hd : decide ((k : Int) + 1 < (s.size : Int)) = false := by simp; omega
      have hpr := (pairB_out hk h1)
      go_quiet (fail)
      go_wp2
      go_meet
      exact ⟨congrArg Value.bool hpr.symm, done nq⟩
  case rest =>
  obtain ⟨rfl, hpw, hbw⟩ := hcut
  obtain ⟨p1, p2, p3, p4, p5⟩ := id hpw
  unfold cs0 at p3
  have hew := he.below hbw
  have hcv : c = 41 := by rw [← hc, h0]; rfl
  subst hcv

  have q1 := p1; have q2 := p2; have q3 := p3; have q4 := p4
  go_wp2_with fail
  refine bodyPost_ret (v := .tuple #[.agg #[.int .i64 0, .int .i64 0, .string ⟨#[]⟩, .int .i64 0, .int .i64 0], .int .i64 7]) (by simp (maxDischargeDepth := 10) [results, Tryz.results60, go_sem, q1, q2, q3, q4]) rfl ⟨?_, ?_⟩
  · rw [HL.out]
    exact part_done (t := ⟨⟨0, 0, []⟩, 0, 0⟩) rfl (fun T n h => by cases h)
  · exact hbw.trans (by (repeat' (first | (with_reducible exact Below.refl _ _) | (with_reducible assumption) | (with_reducible refine Below.alloc ?_ ?_ _) | (with_reducible refine below_drewN ?_ _) | (with_reducible refine Below.drew ?_) | (with_reducible refine Below.setCell ?_ ?_ _) | (with_reducible refine below_trans ?_ (by assumption)) | (with_reducible exact Nat.le_refl _) | (with_reducible exact Below.size (by assumption)) | omega | (simp; omega) | (simp; done))))

set_option maxRecDepth 100000 in
set_option maxHeartbeats 2000000 in
theorem part_brace (s : ByteArray) (k : Nat) (w : World) (hs : s.size ≤ 4000000000) (hk : k < s.size) (he : Env w) (h0 : s[k] = 123) :
    Calls Tryz.prog 60 #[.string s, .int .i64 k] w fun e w' => PartPost k (lex (s.data.toList.drop k)) e ∧ Below w.heap.size w w' := by
  obtain ⟨c, hc⟩ : ∃ c : Int, (s[k].toNat : Int) = c := ⟨_, rfl⟩
  have ix : ∀ W, (Instr.index 9 (.string s) (.int .i64 (k : Int))).run Tryz.prog W = .ok (.int .u8 c) W := fun W => by rw [← hc]; exact index_str s (k : Int) k rfl hk W
  have g1 : decide ((k : Int) < 0) = false := by simp
  have g2 : decide (s.size ≤ k) = false := by simp; omega
  have g3 : decide ((s.size : Int) ≤ (k : Int)) = false := by simp; omega
  have s1 : IntKind.i64.wrap ((k : Int) + 1) = (k : Int) + 1 := IntWalk.i64_in _ (by omega)
  have HL : Hid (lex (s.data.toList.drop k) = .err 7) := Lib.hid (by rw [drop_at hk, h0]; rfl)
  go_enter Tryz.func60, Tryz.ntmps60
  go_upto_region 1 with fail
  go_cut [6] (fun c6 wx => c6 = .bool (pairB s k hk) ∧ PW w.heap.size k cs0 wx ∧ Below w.heap.size w wx)
  case first =>
    have done : ∀ nq : Nat, PW w.heap.size k cs0 (((w.alloc (Obj.cells #[Value.int IntKind.i64 ↑k] 3)).alloc (Obj.cells #[Value.int IntKind.i64 0, Value.int IntKind.i64 0, Value.string ⟨#[]⟩, Value.int IntKind.i64 0, Value.int IntKind.i64 0] 47)).drewN nq) ∧ Below w.heap.size w (((w.alloc (Obj.cells #[Value.int IntKind.i64 ↑k] 3)).alloc (Obj.cells #[Value.int IntKind.i64 0, Value.int IntKind.i64 0, Value.string ⟨#[]⟩, Value.int IntKind.i64 0, Value.int IntKind.i64 0] 47)).drewN nq) := part_start w k
    by_cases h1 : k + 1 < s.size
    · have ix1 := index_str s ((k : Int) + 1) (k + 1) rfl h1
      have hd : decide ((k : Int) + 1 < (s.size : Int)) = true := by simp; omega
      have g4 : decide ((k : Int) + 1 < 0) = false := by simp; omega
      have g5 : decide ((s.size : Int) ≤ (k : Int) + 1) = false := by simp; omega
      have hpr := (pairB_in hk h1)
      rw [hc] at hpr
      go_quiet (fail)
      go_wp2
      go_meet
      exact ⟨congrArg Value.bool hpr.symm, done nq⟩
    · have hd : decide ((k : Int) + 1 < (s.size : Int)) = false := by simp; omega
      have hpr := (pairB_out hk h1)
      go_quiet (fail)
      go_wp2
      go_meet
      exact ⟨congrArg Value.bool hpr.symm, done nq⟩
  case rest =>
  obtain ⟨rfl, hpw, hbw⟩ := hcut
  obtain ⟨p1, p2, p3, p4, p5⟩ := id hpw
  unfold cs0 at p3
  have hew := he.below hbw
  have hcv : c = 123 := by rw [← hc, h0]; rfl
  subst hcv

  have q1 := p1; have q2 := p2; have q3 := p3; have q4 := p4
  go_wp2_with fail
  refine bodyPost_ret (v := .tuple #[.agg #[.int .i64 0, .int .i64 0, .string ⟨#[]⟩, .int .i64 0, .int .i64 0], .int .i64 7]) (by simp (maxDischargeDepth := 10) [results, Tryz.results60, go_sem, q1, q2, q3, q4]) rfl ⟨?_, ?_⟩
  · rw [HL.out]
    exact part_done (t := ⟨⟨0, 0, []⟩, 0, 0⟩) rfl (fun T n h => by cases h)
  · exact hbw.trans (by (repeat' (first | (with_reducible exact Below.refl _ _) | (with_reducible assumption) | (with_reducible refine Below.alloc ?_ ?_ _) | (with_reducible refine below_drewN ?_ _) | (with_reducible refine Below.drew ?_) | (with_reducible refine Below.setCell ?_ ?_ _) | (with_reducible refine below_trans ?_ (by assumption)) | (with_reducible exact Nat.le_refl _) | (with_reducible exact Below.size (by assumption)) | omega | (simp; omega) | (simp; done))))

set_option maxRecDepth 100000 in
set_option maxHeartbeats 2000000 in
theorem part_ecarb (s : ByteArray) (k : Nat) (w : World) (hs : s.size ≤ 4000000000) (hk : k < s.size) (he : Env w) (h0 : s[k] = 125) :
    Calls Tryz.prog 60 #[.string s, .int .i64 k] w fun e w' => PartPost k (lex (s.data.toList.drop k)) e ∧ Below w.heap.size w w' := by
  obtain ⟨c, hc⟩ : ∃ c : Int, (s[k].toNat : Int) = c := ⟨_, rfl⟩
  have ix : ∀ W, (Instr.index 9 (.string s) (.int .i64 (k : Int))).run Tryz.prog W = .ok (.int .u8 c) W := fun W => by rw [← hc]; exact index_str s (k : Int) k rfl hk W
  have g1 : decide ((k : Int) < 0) = false := by simp
  have g2 : decide (s.size ≤ k) = false := by simp; omega
  have g3 : decide ((s.size : Int) ≤ (k : Int)) = false := by simp; omega
  have s1 : IntKind.i64.wrap ((k : Int) + 1) = (k : Int) + 1 := IntWalk.i64_in _ (by omega)
  have HL : Hid (lex (s.data.toList.drop k) = .err 7) := Lib.hid (by rw [drop_at hk, h0]; rfl)
  go_enter Tryz.func60, Tryz.ntmps60
  go_upto_region 1 with fail
  go_cut [6] (fun c6 wx => c6 = .bool (pairB s k hk) ∧ PW w.heap.size k cs0 wx ∧ Below w.heap.size w wx)
  case first =>
    have done : ∀ nq : Nat, PW w.heap.size k cs0 (((w.alloc (Obj.cells #[Value.int IntKind.i64 ↑k] 3)).alloc (Obj.cells #[Value.int IntKind.i64 0, Value.int IntKind.i64 0, Value.string ⟨#[]⟩, Value.int IntKind.i64 0, Value.int IntKind.i64 0] 47)).drewN nq) ∧ Below w.heap.size w (((w.alloc (Obj.cells #[Value.int IntKind.i64 ↑k] 3)).alloc (Obj.cells #[Value.int IntKind.i64 0, Value.int IntKind.i64 0, Value.string ⟨#[]⟩, Value.int IntKind.i64 0, Value.int IntKind.i64 0] 47)).drewN nq) := part_start w k
    by_cases h1 : k + 1 < s.size
    · have ix1 := index_str s ((k : Int) + 1) (k + 1) rfl h1
      have hd : decide ((k : Int) + 1 < (s.size : Int)) = true := by simp; omega
      have g4 : decide ((k : Int) + 1 < 0) = false := by simp; omega
      have g5 : decide ((s.size : Int) ≤ (k : Int) + 1) = false := by simp; omega
      have hpr := (pairB_in hk h1)
      rw [hc] at hpr
      go_quiet (fail)
      go_wp2
      go_meet
      exact ⟨congrArg Value.bool hpr.symm, done nq⟩
    · have hd : decide ((k : Int) + 1 < (s.size : Int)) = false := by simp; omega
      have hpr := (pairB_out hk h1)
      go_quiet (fail)
      go_wp2
      go_meet
      exact ⟨congrArg Value.bool hpr.symm, done nq⟩
  case rest =>
  obtain ⟨rfl, hpw, hbw⟩ := hcut
  obtain ⟨p1, p2, p3, p4, p5⟩ := id hpw
  unfold cs0 at p3
  have hew := he.below hbw
  have hcv : c = 125 := by rw [← hc, h0]; rfl
  subst hcv

  have q1 := p1; have q2 := p2; have q3 := p3; have q4 := p4
  go_wp2_with fail
  refine bodyPost_ret (v := .tuple #[.agg #[.int .i64 0, .int .i64 0, .string ⟨#[]⟩, .int .i64 0, .int .i64 0], .int .i64 7]) (by simp (maxDischargeDepth := 10) [results, Tryz.results60, go_sem, q1, q2, q3, q4]) rfl ⟨?_, ?_⟩
  · rw [HL.out]
    exact part_done (t := ⟨⟨0, 0, []⟩, 0, 0⟩) rfl (fun T n h => by cases h)
  · exact hbw.trans (by (repeat' (first | (with_reducible exact Below.refl _ _) | (with_reducible assumption) | (with_reducible refine Below.alloc ?_ ?_ _) | (with_reducible refine below_drewN ?_ _) | (with_reducible refine Below.drew ?_) | (with_reducible refine Below.setCell ?_ ?_ _) | (with_reducible refine below_trans ?_ (by assumption)) | (with_reducible exact Nat.le_refl _) | (with_reducible exact Below.size (by assumption)) | omega | (simp; omega) | (simp; done))))
end Go.Proofs.YtgkhnpldjdbmoaaGreatDoor
