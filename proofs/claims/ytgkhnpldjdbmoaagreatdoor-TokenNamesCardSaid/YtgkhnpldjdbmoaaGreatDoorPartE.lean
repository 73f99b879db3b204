/- The walk of token.part. (Written by gen_part.py.) -/
import Derived.Test.YtgkhnpldjdbmoaaGreatDoorPartA
import Derived.Test.YtgkhnpldjdbmoaaGreatDoorC12
import Derived.Deep.DeepCutAuto
set_option linter.unusedVariables false
set_option linter.unusedSimpArgs false
namespace Go.Proofs.YtgkhnpldjdbmoaaGreatDoor
open Go.RowKit


theorem extract_run (s : ByteArray) (i : Nat) : (s.extract i (i + run (s.data.toList.drop i))).data.toList = (s.data.toList.drop i).takeWhile isReg := by
  rw [ByteArray.data_extract, Array.toList_extract, List.extract_eq_take_drop]
  have : ∀ l : Bytes, l.take (run l) = l.takeWhile isReg := by
    intro l
    induction l with
    | nil => rfl
    | cons c l ih =>
      rw [run_cons, List.takeWhile_cons]
      by_cases h : isReg c = true
      · rw [if_pos h, if_pos h, List.take_succ_cons, ih]
      · rw [if_neg h, if_neg h]; rfl
  rw [show i + run (List.drop i s.data.toList) - i = run (List.drop i s.data.toList) by omega]
  exact this _

theorem lexErr_lexed (T : T) (e n : Nat) : lexErr (lexed T e n) = e := by
  unfold lexed; split
  · rename_i h; rw [h]; rfl
  · rfl
theorem lexed_tok {T0 : T} {e m k g : Nat} (hg : k + m = g) (T : T) (n : Nat) (h : lexed T0 e m = .ok T n) : (⟨T0, k, g⟩ : Tok) = ⟨T, k, k + n⟩ := by
  unfold lexed at h; split at h
  · injection h with h1 h2; subst h1; subst h2; rw [hg]
  · cases h
def lits (b : UInt8) : Bool := b == 91 || b == 93 || b == 60 || b == 62 || b == 41 || b == 123 || b == 125 || b == 40 || b == 47

set_option maxRecDepth 100000 in
set_option maxHeartbeats 2000000 in
theorem part_name (s : ByteArray) (k : Nat) (w : World) (hs : s.size ≤ 4000000000) (hk : k < s.size) (he : Env w) (h0 : s[k] = 47) :
    Calls Tryz.prog 60 #[.string s, .int .i64 k] w fun e w' => PartPost k (lex (s.data.toList.drop k)) e ∧ Below w.heap.size w w' := by
  obtain ⟨c, hc⟩ : ∃ c : Int, (s[k].toNat : Int) = c := ⟨_, rfl⟩
  have ix : ∀ W, (Instr.index 9 (.string s) (.int .i64 (k : Int))).run Tryz.prog W = .ok (.int .u8 c) W := fun W => by rw [← hc]; exact index_str s (k : Int) k rfl hk W
  have g1 : decide ((k : Int) < 0) = false := by simp
  have g2 : decide (s.size ≤ k) = false := by simp; omega
  have g3 : decide ((s.size : Int) ≤ (k : Int)) = false := by simp; omega
  have s1 : IntKind.i64.wrap ((k : Int) + 1) = (k : Int) + 1 := IntWalk.i64_in _ (by omega)
  have HL : Hid (lex (s.data.toList.drop k) = lexed ⟨3, 0, (nameStrict ((s.data.toList.drop (k + 1)).takeWhile isReg)).1⟩ (nameStrict ((s.data.toList.drop (k + 1)).takeWhile isReg)).2 (1 + run (s.data.toList.drop (k + 1)))) := Lib.hid (by rw [drop_at hk, h0]; rfl)
  go_enter Tryz.func60, Tryz.ntmps60
  go_upto_region 1 with fail
  go_cut [6] (fun c6 wx => c6 = .bool (pairB s k hk) ∧ PW w.heap.size k cs0 wx ∧ Below w.heap.size w wx)
  case first =>
    have done : ∀ nq : Nat, PW w.heap.size k cs0 (((w.alloc (Obj.cells #[Value.int IntKind.i64 ↑k] 3)).alloc (Obj.cells #[Value.int IntKind.i64 0, Value.int IntKind.i64 0, Value.string ⟨#[]⟩, Value.int IntKind.i64 0, Value.int IntKind.i64 0] 47)).drewN nq) ∧ Below w.heap.size w (((w.alloc (Obj.cells #[Value.int IntKind.i64 ↑k] 3)).alloc (Obj.cells #[Value.int IntKind.i64 0, Value.int IntKind.i64 0, Value.string ⟨#[]⟩, Value.int IntKind.i64 0, Value.int IntKind.i64 0] 47)).drewN nq) := part_start w k
    by_cases h1 : k + 1 < s.size
    · have ix1 := index_str s ((k : Int) + 1) (k + 1) rfl h1
      have hd : decide ((k : Int) + 1 < (s.size : Int)) = true := by simp; omega
      have g4 : decide ((k : Int) + 1 < 0) = false := by simp; omega
      have g5 : decide ((s.size : Int) ≤ (k : Int) + 1) = false := by simp; omega
      have hpr := (pairB_in hk h1)
      rw [hc] at hpr
      go_quiet (fail)
      go_wp2
      go_meet
      exact ⟨congrArg Value.bool hpr.symm, done nq⟩
    · have hd : decide ((k : Int) + 1 < (s.size : Int)) = false := by simp; omega
      have hpr := (pairB_out hk h1)
      go_quiet (fail)
      go_wp2
      go_meet
      exact ⟨congrArg Value.bool hpr.symm, done nq⟩
  case rest =>
  obtain ⟨rfl, hpw, hbw⟩ := hcut
  obtain ⟨p1, p2, p3, p4, p5⟩ := id hpw
  unfold cs0 at p3
  have hew := he.below hbw
  have hcv : c = 47 := by rw [← hc, h0]; rfl
  subst hcv

  have hle : run (s.data.toList.drop (k + 1)) ≤ s.size - (k + 1) := by
    have := run_le (s.data.toList.drop (k + 1)); have := size_list s; rw [List.length_drop] at *; omega
  have hRun : ∀ W, Calls Tryz.prog 122 #[.string s, .int .i64 ((k : Int) + 1)] W fun e w' => e = .returned (.int .i64 ((((k + 1) + run (s.data.toList.drop (k + 1)) : Nat) : Int))) ∧ Below W.heap.size W w' := fun W =>
    (run_any s _ W (by omega)).mono fun e w' h => by
      have h2 : place s.size ((k : Int) + 1) = k + 1 := by have := place_nat (n := s.size) (k := k + 1) (by omega); simpa using this
      rw [h2] at h; exact h
  have HRun := Lib.hid hRun; clear hRun
  have hex : (s.extract (k + 1) ((k + 1) + run (s.data.toList.drop (k + 1)))).data.toList = (s.data.toList.drop (k + 1)).takeWhile isReg := extract_run s _
  have hXs : (s.extract (k + 1) (k + 1 + run (s.data.toList.drop (k + 1)))).size ≤ 4000000000 := by have := size_list (s.extract (k + 1) (k + 1 + run (s.data.toList.drop (k + 1)))); rw [hex] at this; have h3 := run_le (s.data.toList.drop (k + 1)); unfold run at h3 hle; omega
  generalize hR : run (s.data.toList.drop (k + 1)) = R at *
  have hN : ∀ W, Calls Tryz.prog 123 #[.string (s.extract (k + 1) (k + 1 + R))] W fun e w' => e = .returned (.tuple #[.string (bs (nameStrict ((s.data.toList.drop (k + 1)).takeWhile isReg)).1), .int .i64 (nameStrict ((s.data.toList.drop (k + 1)).takeWhile isReg)).2]) ∧ Below W.heap.size W w' := fun W => by
    have := nameStrict_any _ W hXs
    rw [hex] at this; exact this
  rcases hX : nameStrict ((s.data.toList.drop (k + 1)).takeWhile isReg) with ⟨v, e0⟩
  rw [hX] at hN
  have HN := Lib.hid hN; clear hN hex
  have t1 : ((k : Int) + 1).toNat = k + 1 := by omega
  have t2 : (((k + 1 + R : Nat)) : Int).toNat = k + 1 + R := by omega
  have t3 : ((k : Int) + 1 + R).toNat = k + 1 + R := by omega
  have t4 : (k : Int) + 1 + R ≤ s.size := by omega
  have hR0 : (0 : Int) ≤ R := by omega
  go_wp2_with (first
    | (go_at_call 122; refine (HRun.out _).mono ?_; rintro e w1 ⟨rfl, hb1⟩; obtain ⟨q1, q2, q3, q4, q5⟩ := hpw.below hb1; unfold cs0 at q3; have pw1 := hpw.below hb1)
    | (go_at_call 123; refine (HN.out _).mono ?_; rintro e w2 ⟨rfl, hb2⟩; obtain ⟨r1, r2, r3, r4, r5⟩ := ((pw1.set 0 (.int .i64 3) rfl).set 4 (.int .i64 ((k : Int) + 1 + R)) rfl).below hb2; unfold cs0 at r3; have hb3 := hb2.mono (show w.heap.size ≤ _ by simp; omega)))
  refine bodyPost_ret (v := .tuple #[.agg #[.int .i64 3, .int .i64 0, .string (bs v), .int .i64 k, .int .i64 ((k : Int) + 1 + R)], .int .i64 e0]) (by simp (maxDischargeDepth := 10) [results, Tryz.results60, go_sem, r1, r2, r3, r4]) rfl ⟨?_, ?_⟩
  · rw [HL.out, hX]
    exact part_done (t := ⟨⟨3, 0, v⟩, k, k + 1 + R⟩) (by rw [lexErr_lexed]; rfl) (lexed_tok (by omega))
  · exact (((((hbw.trans (hb1.mono (by omega)))).setCell (p := ⟨w.heap.size + 1, 0, none⟩) (Nat.le_succ _) _).setCell (p := ⟨w.heap.size + 1, 4, none⟩) (Nat.le_succ _) _).trans hb3).trans (by (repeat' (first | (with_reducible exact Below.refl _ _) | (with_reducible assumption) | (with_reducible refine Below.alloc ?_ ?_ _) | (with_reducible refine below_drewN ?_ _) | (with_reducible refine Below.drew ?_) | (with_reducible refine Below.setCell ?_ ?_ _) | (with_reducible refine below_trans ?_ (by assumption)) | (with_reducible exact Nat.le_refl _) | (with_reducible exact Below.size (by assumption)) | omega | (simp; omega) | (simp; done))))
end Go.Proofs.YtgkhnpldjdbmoaaGreatDoor
