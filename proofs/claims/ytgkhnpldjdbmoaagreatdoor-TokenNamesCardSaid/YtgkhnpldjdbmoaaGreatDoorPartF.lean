/- The walk of token.part. (Written by gen_part.py.) -/
import Derived.Test.YtgkhnpldjdbmoaaGreatDoorPartE
import Derived.Test.YtgkhnpldjdbmoaaGreatDoorC12
import Derived.Deep.DeepCutAuto
set_option linter.unusedVariables false
set_option linter.unusedSimpArgs false
namespace Go.Proofs.YtgkhnpldjdbmoaaGreatDoor
open Go.RowKit


set_option maxRecDepth 100000 in
set_option maxHeartbeats 2000000 in
theorem part_plain (s : ByteArray) (k : Nat) (w : World) (hs : s.size ≤ 4000000000) (hk : k < s.size) (he : Env w) (h0 : lits s[k] = false) :
    Calls Tryz.prog 60 #[.string s, .int .i64 k] w fun e w' => PartPost k (lex (s.data.toList.drop k)) e ∧ Below w.heap.size w w' := by
  obtain ⟨c, hc⟩ : ∃ c : Int, (s[k].toNat : Int) = c := ⟨_, rfl⟩
  have ix : ∀ W, (Instr.index 9 (.string s) (.int .i64 (k : Int))).run Tryz.prog W = .ok (.int .u8 c) W := fun W => by rw [← hc]; exact index_str s (k : Int) k rfl hk W
  have g1 : decide ((k : Int) < 0) = false := by simp
  have g2 : decide (s.size ≤ k) = false := by simp; omega
  have g3 : decide ((s.size : Int) ≤ (k : Int)) = false := by simp; omega
  have s1 : IntKind.i64.wrap ((k : Int) + 1) = (k : Int) + 1 := IntWalk.i64_in _ (by omega)
  simp only [lits, Bool.or_eq_false_iff] at h0
  obtain ⟨⟨⟨⟨⟨⟨⟨⟨m91, m93⟩, m60⟩, m62⟩, m41⟩, m123⟩, m125⟩, m40⟩, m47⟩ := h0
  have HL : Hid (lex (s.data.toList.drop k) = lexed (plainT ((s.data.toList.drop k).takeWhile isReg)).1 (plainT ((s.data.toList.drop k).takeWhile isReg)).2 (run (s.data.toList.drop k))) := Lib.hid (by rw [drop_at hk]; unfold lex; simp only [m91, m93, m60, m62, m41, m123, m125, m40, m47]; rfl)
  go_enter Tryz.func60, Tryz.ntmps60
  go_upto_region 1 with fail
  go_cut [6] (fun c6 wx => c6 = .bool (pairB s k hk) ∧ PW w.heap.size k cs0 wx ∧ Below w.heap.size w wx)
  case first =>
    have done : ∀ nq : Nat, PW w.heap.size k cs0 (((w.alloc (Obj.cells #[Value.int IntKind.i64 ↑k] 3)).alloc (Obj.cells #[Value.int IntKind.i64 0, Value.int IntKind.i64 0, Value.string ⟨#[]⟩, Value.int IntKind.i64 0, Value.int IntKind.i64 0] 47)).drewN nq) ∧ Below w.heap.size w (((w.alloc (Obj.cells #[Value.int IntKind.i64 ↑k] 3)).alloc (Obj.cells #[Value.int IntKind.i64 0, Value.int IntKind.i64 0, Value.string ⟨#[]⟩, Value.int IntKind.i64 0, Value.int IntKind.i64 0] 47)).drewN nq) := part_start w k
    by_cases h1 : k + 1 < s.size
    · have ix1 := index_str s ((k : Int) + 1) (k + 1) rfl h1
      have hd : decide ((k : Int) + 1 < (s.size : Int)) = true := by simp; omega
      have g4 : decide ((k : Int) + 1 < 0) = false := by simp; omega
      have g5 : decide ((s.size : Int) ≤ (k : Int) + 1) = false := by simp; omega
      have hpr := (pairB_in hk h1)
      rw [hc] at hpr
      go_quiet (fail)
      go_wp2
      go_meet
      exact ⟨congrArg Value.bool hpr.symm, done nq⟩
    · have hd : decide ((k : Int) + 1 < (s.size : Int)) = false := by simp; omega
      have hpr := (pairB_out hk h1)
      go_quiet (fail)
      go_wp2
      go_meet
      exact ⟨congrArg Value.bool hpr.symm, done nq⟩
  case rest =>
  obtain ⟨rfl, hpw, hbw⟩ := hcut
  obtain ⟨p1, p2, p3, p4, p5⟩ := id hpw
  unfold cs0 at p3
  have hew := he.below hbw
  have n91 : (c == 91) = false := by rw [← hc]; exact not_lit 91 91 rfl m91
  have n93 : (c == 93) = false := by rw [← hc]; exact not_lit 93 93 rfl m93
  have n60 : (c == 60) = false := by rw [← hc]; exact not_lit 60 60 rfl m60
  have n62 : (c == 62) = false := by rw [← hc]; exact not_lit 62 62 rfl m62
  have n41 : (c == 41) = false := by rw [← hc]; exact not_lit 41 41 rfl m41
  have n123 : (c == 123) = false := by rw [← hc]; exact not_lit 123 123 rfl m123
  have n125 : (c == 125) = false := by rw [← hc]; exact not_lit 125 125 rfl m125
  have n40 : (c == 40) = false := by rw [← hc]; exact not_lit 40 40 rfl m40
  have n47 : (c == 47) = false := by rw [← hc]; exact not_lit 47 47 rfl m47

  have hle : run (s.data.toList.drop k) ≤ s.size - (k) := by
    have := run_le (s.data.toList.drop k); have := size_list s; rw [List.length_drop] at *; omega
  have hRun : ∀ W, Calls Tryz.prog 122 #[.string s, .int .i64 ((k : Int))] W fun e w' => e = .returned (.int .i64 (((k + run (s.data.toList.drop k) : Nat) : Int))) ∧ Below W.heap.size W w' := fun W =>
    (run_any s _ W (by omega)).mono fun e w' h => by
      have h2 : place s.size ((k : Int)) = k := by have := place_nat (n := s.size) (k := k) (by omega); simpa using this
      rw [h2] at h; exact h
  have HRun := Lib.hid hRun; clear hRun
  have hex : (s.extract (k) (k + run (s.data.toList.drop k))).data.toList = (s.data.toList.drop k).takeWhile isReg := extract_run s _
  have hXs : (s.extract k (k + run (s.data.toList.drop k))).size ≤ 4000000000 := by have := size_list (s.extract k (k + run (s.data.toList.drop k))); rw [hex] at this; have h3 := run_le (s.data.toList.drop k); unfold run at h3 hle; omega
  generalize hR : run (s.data.toList.drop k) = R at *
  have hN : ∀ W, Env W → Calls Tryz.prog 124 #[.string (s.extract k (k + R))] W fun e w' => e = .returned (plainV (plainT ((s.data.toList.drop k).takeWhile isReg))) ∧ Below W.heap.size W w' := fun W hW => by
    have := plain_any _ W hXs hW
    rw [hex] at this; exact this
  rcases hX : plainT ((s.data.toList.drop k).takeWhile isReg) with ⟨⟨kd, n, v⟩, e0⟩
  rw [hX] at hN
  unfold plainV tokV bare0 at hN
  dsimp only at hN
  have HN := Lib.hid hN; clear hN hex
  have t1 : ((k : Int)).toNat = k := by omega
  have t3 : ((k : Int) + R).toNat = k + R := by omega
  have t4 : (k : Int) + R ≤ s.size := by omega
  have hR0 : (0 : Int) ≤ R := by omega
  go_upto_region 5 with (go_at_call 122; refine (HRun.out _).mono ?_; rintro e w1 ⟨rfl, hb1⟩; obtain ⟨q1, q2, q3, q4, q5⟩ := hpw.below hb1; unfold cs0 at q3; have pw1 := hpw.below hb1)
  go_cut [5] (fun c5 wx => c5 = .int .i64 e0 ∧ PW w.heap.size k (fun j => #[Value.int IntKind.i64 kd, .int .i64 n, .string (bs v), .int .i64 0, .int .i64 0][j]?) wx ∧ Below w.heap.size w wx)
  case first =>
    go_wp2_with (go_at_call 124; refine (HN.out _ (hew.below hb1)).mono ?_; rintro e w2 ⟨rfl, hb2⟩; obtain ⟨r1, r2, r3, r4, r5⟩ := pw1.below hb2; unfold cs0 at r3; have hb3 := hb2.mono (show w.heap.size ≤ _ by omega))
    go_meet
    refine ⟨rfl, ?_, ?_⟩
    · have h5 := (((((pw1.below hb2).set 0 (.int .i64 kd) rfl).set 1 (.int .i64 n) rfl).set 2 (.string (bs v)) rfl).set 3 (.int .i64 0) rfl).set 4 (.int .i64 0) rfl
      refine h5.to (fun j => ?_)
      match j with
      | 0 | 1 | 2 | 3 | 4 => rfl
      | j + 5 => simp [cs0]
    · exact ((hbw.trans (hb1.mono (by omega))).trans hb3).trans (by (repeat' (first | (with_reducible exact Below.refl _ _) | (with_reducible assumption) | (with_reducible refine Below.alloc ?_ ?_ _) | (with_reducible refine below_drewN ?_ _) | (with_reducible refine Below.drew ?_) | (with_reducible refine Below.setCell ?_ ?_ _) | (with_reducible refine below_trans ?_ (by assumption)) | (with_reducible exact Nat.le_refl _) | (with_reducible exact Below.size (by assumption)) | omega | (simp; omega) | (simp; done))))
  case rest =>
  obtain ⟨rfl, pw2, hbx⟩ := hcut
  obtain ⟨r1, r2, r3, r4, r5⟩ := id pw2
  go_wp2
  refine bodyPost_ret (v := .tuple #[.agg #[.int .i64 kd, .int .i64 n, .string (bs v), .int .i64 k, .int .i64 ((k : Int) + R)], .int .i64 e0]) (by simp (maxDischargeDepth := 10) [results, Tryz.results60, go_sem, r1, r2, r3, r4]) rfl ⟨?_, ?_⟩
  · rw [HL.out, hX]
    exact part_done (t := ⟨⟨kd, n, v⟩, k, k + R⟩) (by rw [lexErr_lexed]; rfl) (lexed_tok rfl)
  · exact hbx.trans (by (repeat' (first | (with_reducible exact Below.refl _ _) | (with_reducible assumption) | (with_reducible refine Below.alloc ?_ ?_ _) | (with_reducible refine below_drewN ?_ _) | (with_reducible refine Below.drew ?_) | (with_reducible refine Below.setCell ?_ ?_ _) | (with_reducible refine below_trans ?_ (by assumption)) | (with_reducible exact Nat.le_refl _) | (with_reducible exact Below.size (by assumption)) | omega | (simp; omega) | (simp; done))))
end Go.Proofs.YtgkhnpldjdbmoaaGreatDoor
