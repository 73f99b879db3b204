/- The walk of name.Strict. -/
import Derived.Test.YtgkhnpldjdbmoaaGreatDoorC7
import Derived.Test.YtgkhnpldjdbmoaaGreatDoorLexLaws
set_option linter.unusedVariables false
set_option linter.unusedSimpArgs false
namespace Go.Proofs.YtgkhnpldjdbmoaaGreatDoor
open Go.RowKit

theorem bld_below {B b : Nat} {l : Bytes} {w w1 : World} (h : Bld B b l w) (hb : Below w.heap.size w w1) : Bld B b l w1 := by
  have hg : w.grownBy w1 none := ⟨hb.os, hb.tape, hb.output, hb.size, fun i hi _ => hb.block i hi⟩
  have go : ∀ p, Lib.BuilderAtF 81 5 B b p (Lib.byteCells l) w → Lib.BuilderAtF 81 5 B b p (Lib.byteCells l) w1 := by
    intro p h
    have hlt := h.lt
    obtain ⟨hB, v, hk, hown, hne⟩ := h
    exact ⟨hB, v, (hb.block _ hlt).trans hk, hown.kept hg (by cases hv : v.ownBlock <;> simp), hne⟩
  exact h.elim (fun x => .inl (go _ x)) (fun x => .inr (go _ x))
theorem bld_lt {B b : Nat} {l : Bytes} {w : World} (h : Bld B b l w) : b < w.heap.size := h.elim (fun x => x.lt) (fun x => x.lt)

theorem bld_len (B b : Nat) (l : Bytes) (w : World) (h : Bld B b l w) : Calls Tryz.prog 176 #[.pointer (some ⟨b, 0, none⟩)] w fun e w' => e = .returned (.int .i64 l.length) ∧ w' = w :=
  (Tryz.Builder_Len_f B b (Lib.byteCells l) w h).mono fun e w' ⟨h1, h2⟩ => ⟨by rw [h1, Lib.byteCells_length], h2⟩
theorem bld_string (B b : Nat) (l : Bytes) (w : World) (h : Bld B b l w) (hBw : B ≤ w.heap.size) : Calls Tryz.prog 64 #[.pointer (some ⟨b, 0, none⟩)] w fun e w' => e = .returned (.string (bs l)) ∧ Below B w w' :=
  (Tryz.Builder_String_any_k B b l w h hBw).mono fun e w' ⟨h1, _, h2, _⟩ => ⟨h1, h2⟩

theorem run_cons (c : UInt8) (l : Bytes) : run (c :: l) = if isReg c then run l + 1 else 0 := by
  unfold run; rw [List.takeWhile_cons]; split <;> simp
theorem run_eq_all (l : Bytes) : (run l = l.length ∧ l.all isReg = true) ∨ (run l < l.length ∧ l.all isReg = false) := by
  induction l with
  | nil => left; exact ⟨rfl, rfl⟩
  | cons c l ih =>
    rw [run_cons, List.all_cons, List.length_cons]
    by_cases h : isReg c = true
    · rw [if_pos h, h, Bool.true_and]
      rcases ih with ⟨h1, h2⟩ | ⟨h1, h2⟩
      · left; exact ⟨by omega, h2⟩
      · right; exact ⟨by omega, h2⟩
    · right; rw [if_neg h]; exact ⟨by omega, by simp [h]⟩
theorem place0 (n : Nat) : place n 0 = 0 := by unfold place; simp

theorem readN_len (l : Bytes) : (readN l).1.length ≤ l.length := by
  have : ∀ n (l : Bytes), l.length = n → (readN l).1.length ≤ l.length := by
    intro n
    induction n using Nat.strongRecOn with
    | _ n ih =>
      intro l hl
      match l with
      | [] => simp [readN]
      | c :: l =>
        by_cases h : c = 35
        · cases he : escAt (c :: l) with
          | none => rw [readN_bad h he]; have := ih l.length (by simp at hl; omega) l rfl; simp; omega
          | some x => rw [readN_esc h he]; have := ih (l.drop 2).length (by simp at hl ⊢; omega) (l.drop 2) rfl; simp at *; omega
        · rw [readN_plain h]; have := ih l.length (by simp at hl; omega) l rfl; simp; omega
  exact this _ l rfl

set_option maxRecDepth 100000 in
set_option maxHeartbeats 2000000 in
theorem nameStrict_any (s : ByteArray) (w : World) (hs : s.size ≤ 4000000000) : Calls Tryz.prog 123 #[.string s] w fun e w' => e = .returned (.tuple #[.string (bs (nameStrict s.data.toList).1), .int .i64 (nameStrict s.data.toList).2]) ∧ Below w.heap.size w w' := by
  have hz := size_list s
  have hRun : ∀ W, Calls Tryz.prog 122 #[.string s, .int .i64 0] W fun e w' => e = .returned (.int .i64 (run s.data.toList)) ∧ Below W.heap.size W w' := fun W =>
    (run_any s 0 W (by omega)).mono fun e w' ⟨h1, h2⟩ => ⟨by rw [h1, place0]; simp, h2⟩
  have HRun := Lib.hid hRun; clear hRun
  have hN := bld_new w
  have HN := Lib.hid hN; clear hN
  have hlen := readN_len s.data.toList
  rcases run_eq_all s.data.toList with ⟨h1, h2⟩ | ⟨h1, h2⟩
  · have hne : (((run s.data.toList : Nat) : Int) != (s.size : Int)) = false := by simp; omega
    have HZ := Lib.hid hz; have H1 := Lib.hid h1; clear hz h1
    cases hr : (readN s.data.toList).2
    · have HR : Hid (nameStrict s.data.toList = ([], 7)) := Lib.hid (by unfold nameStrict; rw [h2, hr]; rfl)
      have H2 := Lib.hid hr; clear hr h2
      go_enter Tryz.func123, Tryz.ntmps123
      go_wp2_with (first
        | (go_at_call 122; refine (HRun.out _).mono ?_; rintro e w1 ⟨rfl, hb1⟩; have z1 := hb1.size; simp at z1)
        | (go_at_call 178; refine (read_any s w.heap.size w.heap.size [] _ hs (by simp) (bld_below HN.out hb1) (by omega)).mono ?_; rintro e w2 ⟨rfl, hB2, hb2, _⟩; rw [H2.out]))
      go_ret2
      exact ⟨by rw [HR.out]; rfl, (((Below.refl _ _).alloc (Nat.le_refl _) _).trans (hb1.mono (by simp))).trans hb2⟩
    · have hbig : 127 < (readN s.data.toList).1.length ∨ (readN s.data.toList).1.length ≤ 127 := by omega
      have H2 := Lib.hid hr
      rcases hbig with hg | hg
      · have HR : Hid (nameStrict s.data.toList = ([], 3)) := Lib.hid (by unfold nameStrict; rw [h2, hr]; simp [hg])
        clear hr h2
        have hg2 : (127 : Int) < ((readN s.data.toList).1.length : Int) := by omega
        generalize hX : (readN s.data.toList).1 = X at *
        have HX := Lib.hid hX; clear hX
        go_enter Tryz.func123, Tryz.ntmps123
        go_wp2_with (first
          | (go_at_call 122; refine (HRun.out _).mono ?_; rintro e w1 ⟨rfl, hb1⟩; have z1 := hb1.size; simp at z1)
          | (go_at_call 178; refine (read_any s w.heap.size w.heap.size [] _ hs (by simp) (bld_below HN.out hb1) (by omega)).mono ?_; rintro e w2 ⟨rfl, hB2, hb2, _⟩; rw [H2.out]; rw [HX.out] at hB2)
          | (go_at_call 176; refine (bld_len w.heap.size w.heap.size X _ hB2).mono ?_; rintro e w3 ⟨rfl, rfl⟩))
        go_ret2
        exact ⟨by rw [HR.out]; rfl, (((Below.refl _ _).alloc (Nat.le_refl _) _).trans (hb1.mono (by simp))).trans hb2⟩
      · have HR : Hid (nameStrict s.data.toList = ((readN s.data.toList).1, 0)) := Lib.hid (by unfold nameStrict; rw [h2, hr]; simp; omega)
        clear hr h2
        have hg2 : ((readN s.data.toList).1.length : Int) ≤ 127 := by omega
        generalize hX : (readN s.data.toList).1 = X at *
        have HX := Lib.hid hX; clear hX
        go_enter Tryz.func123, Tryz.ntmps123
        go_wp2_with (first
          | (go_at_call 122; refine (HRun.out _).mono ?_; rintro e w1 ⟨rfl, hb1⟩; have z1 := hb1.size; simp at z1)
          | (go_at_call 178; refine (read_any s w.heap.size w.heap.size [] _ hs (by simp) (bld_below HN.out hb1) (by omega)).mono ?_; rintro e w2 ⟨rfl, hB2, hb2, _⟩; rw [H2.out]; rw [HX.out] at hB2; have z2 := hb2.size)
          | (go_at_call 176; refine (bld_len w.heap.size w.heap.size X _ hB2).mono ?_; rintro e w3 ⟨rfl, rfl⟩)
          | (go_at_call 64; refine (bld_string w.heap.size w.heap.size X _ hB2 (by omega)).mono ?_; rintro e w3 ⟨rfl, hb3⟩))
        go_ret2
        exact ⟨by rw [HR.out]; rfl, ((((Below.refl _ _).alloc (Nat.le_refl _) _).trans (hb1.mono (by simp))).trans hb2).trans hb3⟩
  · have hne : (((run s.data.toList : Nat) : Int) != (s.size : Int)) = true := by simp; omega
    have HR : Hid (nameStrict s.data.toList = ([], 7)) := Lib.hid (by unfold nameStrict; rw [h2]; rfl)
    have HZ := Lib.hid hz; clear hz h1 h2
    go_enter Tryz.func123, Tryz.ntmps123
    go_wp2_with (go_at_call 122; refine (HRun.out _).mono ?_; rintro e w1 ⟨rfl, hb1⟩; have z1 := hb1.size; simp at z1)
    go_ret2
    exact ⟨by rw [HR.out]; rfl, ((Below.refl _ _).alloc (Nat.le_refl _) _).trans (hb1.mono (by simp))⟩
end Go.Proofs.YtgkhnpldjdbmoaaGreatDoor
