/- The walks of the program's layer 2 (number), as far as tokens need it. -/
import Derived.Test.YtgkhnpldjdbmoaaGreatDoorC1
import Derived.Test.YtgkhnpldjdbmoaaGreatDoorShelf
import Derived.Deep.RegionWith
import Derived.Handy
set_option linter.unusedVariables false
set_option linter.unusedSimpArgs false
namespace Go.Proofs.YtgkhnpldjdbmoaaGreatDoor
open Go.RowKit

/-- What the library's own variables hold. -/
structure Env (w : World) : Prop where
  maxLen : ∃ m, w.cell? ⟨0, 0, none⟩ = some (.int .i64 m)
theorem cell_below {w w1 : World} (h : Below w.heap.size w w1) {a : Addr} {v : Value} (hc : w.cell? a = some v) : w1.cell? a = some v := (h.cell (World.block_lt_of_cell? w a hc)).trans hc
theorem Env.below {w w1 : World} (h : Env w) (hb : Below w.heap.size w w1) : Env w1 :=
  ⟨let ⟨m, hm⟩ := h.maxLen; ⟨m, cell_below hb hm⟩⟩

theorem below_drewN {B : Nat} {w W : World} (h : Below B w W) (n : Nat) : Below B w (W.drewN n) := ⟨h.os, h.tape, h.output, h.size, h.block⟩
theorem below_trans {w w1 w2 : World} (h : Below w.heap.size w w1) (k : Below w1.heap.size w1 w2) : Below w.heap.size w w2 := h.trans (k.mono h.size)
/-- Bytes as a string's. -/
def bs (l : Bytes) : ByteArray := ⟨l.toArray⟩
theorem bs_list (l : Bytes) : (bs l).data.toList = l := rfl
theorem bs_toList (l : Bytes) : (bs l).toList = l := by rw [ByteArray.toList_eq]; rfl
theorem list_bs (s : ByteArray) : bs s.data.toList = s := rfl
theorem bs_size (l : Bytes) : (bs l).size = l.length := by rw [size_list]; rfl
theorem bs_append (a b : Bytes) : bs a ++ bs b = bs (a ++ b) := by
  apply ByteArray.ext; simp [bs]
def partsV (p : Parts) : Value := .agg #[.int .i64 p.kind, .bool p.neg, .string (bs p.ahead), .string (bs p.back)]

theorem all_drop_at {s : ByteArray} {k : Nat} (h : k < s.size) (p : UInt8 → Bool) : (s.data.toList.drop k).all p = (p s[k] && (s.data.toList.drop (k + 1)).all p) := by
  rw [drop_at h, List.all_cons]

theorem allDig_at {s : ByteArray} {k : Nat} (h : k < s.size) : allDig (s.data.toList.drop k) = (isDigit s[k] && allDig (s.data.toList.drop (k + 1))) := all_drop_at h isDigit
set_option maxRecDepth 100000 in
set_option maxHeartbeats 1000000 in
theorem digits_any (s : ByteArray) (w : World) (hs : s.size ≤ 9223372036854775806) : Calls Tryz.prog 221 #[.string s] w fun e w' => e = .returned (.bool (allDig s.data.toList)) ∧ w = w' := by
  go_enter Tryz.func221, Tryz.ntmps221
  go_wp2
  go_loop [6] (fun a => ∃ k : Nat, k ≤ s.size ∧ a = .int .i64 k ∧ allDig (s.data.toList.drop k) = allDig s.data.toList) (fun a => s.size - (intOf a).toNat)
  case atStart => exact ⟨0, by omega, rfl, rfl⟩
  case round =>
    obtain ⟨k, hk, rfl, heq⟩ := hrel
    have HE := Lib.hid heq; clear heq
    by_cases hlt : k < s.size
    · have hd := allDig_at hlt
      have HD := Lib.hid hd; clear hd
      by_cases hr : isDigit s[k] = true
      · go_wp2_with (go_at_call 214; refine (digit_any _ _).mono ?_; rintro e w1 ⟨rfl, rfl⟩)
        go_round
        case rel => exact ⟨k + 1, by omega, by go_num, by rw [← HE.out, HD.out, hr]; rfl⟩
        case measure => simp [intOf]; omega
      · replace hr : isDigit s[k] = false := by simpa using hr
        go_wp2_with (go_at_call 214; refine (digit_any _ _).mono ?_; rintro e w1 ⟨rfl, rfl⟩)
        go_ret
        exact ⟨ret_bool (by rw [← HE.out, HD.out, hr]; rfl), rfl⟩
    · have HX := Lib.hid (drop_end (s := s) (k := k) (by omega))
      go_wp2
      go_ret
      exact ⟨ret_bool (by rw [← HE.out, HX.out]; rfl), rfl⟩

theorem index_dot : ∀ l : Bytes, Lib.index l [46] = if l.any (· == 46) then ((l.takeWhile (· != 46)).length : Int) else -1 := by
  intro l
  induction l with
  | nil => simp [Lib.index]
  | cons b l ih =>
    simp only [Lib.index]
    by_cases hb : b = 46
    · subst hb; simp [List.isPrefixOf]
    · have hp : ([46] : List UInt8).isPrefixOf (b :: l) = false := by simp [List.isPrefixOf]; exact fun h => hb h.symm
      rw [hp, ih]
      have hb2 : (b == 46) = false := by simp [hb]
      have hb3 : (b != 46) = true := by simp [hb]
      simp only [List.any_cons, hb2, Bool.false_or, List.takeWhile_cons, hb3, if_true, Bool.false_eq_true, if_false]
      by_cases ha : l.any (· == 46) = true
      · simp only [ha, if_true]; rw [if_neg (by simp)]; simp
      · simp only [ha]; simp
theorem drop_takeWhile (p : UInt8 → Bool) : ∀ l : Bytes, l.drop (l.takeWhile p).length = l.dropWhile p := by
  intro l
  induction l with
  | nil => rfl
  | cons b l ih => by_cases h : p b = true <;> simp [List.takeWhile_cons, List.dropWhile_cons, h, ih]
theorem take_takeWhile (p : UInt8 → Bool) : ∀ l : Bytes, l.take (l.takeWhile p).length = l.takeWhile p := by
  intro l
  induction l with
  | nil => rfl
  | cons b l ih => by_cases h : p b = true <;> simp [List.takeWhile_cons, h, ih]
theorem no_dot : ∀ l : Bytes, l.any (· == 46) = false → l.takeWhile (· != 46) = l ∧ l.dropWhile (· != 46) = [] := by
  intro l
  induction l with
  | nil => intro _; exact ⟨rfl, rfl⟩
  | cons b l ih =>
    intro h
    simp only [List.any_cons, Bool.or_eq_false_iff] at h
    have hb : (b != 46) = true := by simp only [bne, h.1]; rfl
    have := ih h.2
    exact ⟨by rw [List.takeWhile_cons, if_pos hb, this.1], by rw [List.dropWhile_cons, if_pos hb, this.2]⟩
theorem cut_dot (l : Bytes) : Lib.cut l [46] = (l.takeWhile (· != 46), (l.dropWhile (· != 46)).drop 1, l.any (· == 46)) := by
  unfold Lib.cut
  rw [index_dot]
  cases ha : l.any (· == 46) with
  | true =>
    simp only [if_true]
    rw [if_pos (by omega)]
    simp only [Int.toNat_natCast, List.length_singleton]
    refine Prod.ext ?_ (Prod.ext ?_ rfl)
    · exact take_takeWhile _ _
    · show l.drop _ = _
      rw [← List.drop_drop, drop_takeWhile]
  | false =>
    obtain ⟨h1, h2⟩ := no_dot l ha
    rw [h1, h2]
    simp

theorem index_byte_dot (l : Bytes) : Lib.indexByte l 46 = if l.any (· == 46) then ((dotA l).length : Int) else -1 := by
  rw [← Lib.index_one, index_dot]; rfl
theorem extract_dotA (l : Bytes) : (bs l).extract 0 (dotA l).length = bs (dotA l) := by
  apply ByteArray.ext; apply Array.toList_inj.1
  rw [ByteArray.data_extract, Array.toList_extract, List.extract_eq_take_drop, bs_list, bs_list]
  simp only [List.drop_zero, Nat.sub_zero]
  exact take_takeWhile _ _
theorem extract_dotB (l : Bytes) : (bs l).extract ((dotA l).length + 1) (bs l).size = bs (dotB l) := by
  apply ByteArray.ext; apply Array.toList_inj.1
  rw [ByteArray.data_extract, Array.toList_extract, List.extract_eq_take_drop, bs_list, bs_list, bs_size]
  have h : l.drop ((dotA l).length + 1) = dotB l := by
    rw [← List.drop_drop, show l.drop (dotA l).length = l.dropWhile (· != 46) from drop_takeWhile _ _]; rfl
  rw [h, List.take_of_length_le]
  rw [← h, List.length_drop]; omega
theorem dotA_lt : ∀ {l : Bytes}, l.any (· == 46) = true → (dotA l).length < l.length := by
  intro l
  induction l with
  | nil => intro h; simp at h
  | cons b l ih =>
    intro h
    unfold dotA at *
    rw [List.takeWhile_cons]
    by_cases hb : (b != 46) = true
    · rw [if_pos hb]
      have : l.any (· == 46) = true := by
        simp only [List.any_cons, Bool.or_eq_true] at h
        rcases h with h | h
        · simp only [bne, h] at hb; cases hb
        · exact h
      have := ih this
      simp only [List.length_cons]; omega
    · rw [if_neg hb]; simp
set_option maxRecDepth 100000 in
set_option maxHeartbeats 2000000 in
theorem slCut_any (l : Bytes) (w : World) (hs : l.length ≤ 140737488355328) :
    Calls Tryz.prog 236 #[.string (bs l), .string ⟨#[46]⟩] w fun e w' => e = .returned (.tuple #[.string (bs (dotA l)), .string (bs (dotB l)), .bool (dotP l)]) ∧ ∃ n, w' = w.drewN n := by
  have hI := Tryz.stringslite_Index_one (bs l) 46 w
  rw [bs_list, index_byte_dot] at hI
  have hsz := bs_size l
  have hA := extract_dotA l; have hB := extract_dotB l
  cases ha : l.any (· == 46) with
  | true =>
    rw [ha] at hI
    simp only [if_true] at hI
    have hlt := dotA_lt ha
    have HP : Hid (dotP l = true) := Lib.hid ha
    have HI := Lib.hid hI; have HA := Lib.hid hA; have HB := Lib.hid hB; clear hI hA hB ha
    generalize (dotA l).length = i at *
    have k1 : (⟨#[46]⟩ : ByteArray).size = 1 := rfl
    have i1 : (0 : Int) ≤ (i : Int) := by omega
    have i2 : (i : Int) ≤ ((bs l).size : Int) := by omega
    have i3 : (i : Int) + 1 ≤ ((bs l).size : Int) := by omega
    have i4 : (0 : Int) ≤ (i : Int) + 1 := by omega
    have i5 : ((i : Int) + 1).toNat = i + 1 := by omega
    have i6 : IntKind.i64.wrap ((i : Int) + 1) = (i : Int) + 1 := IntWalk.i64_in _ (by omega)
    have i7 : ¬ (i : Int) < 0 := by omega
    clear hsz
    go_enter Tryz.func236, Tryz.ntmps236
    go_wp2_with (go_at_call 167; refine HI.out.mono ?_; rintro e w1 ⟨rfl, rfl⟩)
    go_quiet (fail)
    go_wp2
    go_ret3
    exact ⟨by rw [HA.out, HB.out, HP.out]; rfl, nq, rfl⟩
  | false =>
    rw [ha] at hI
    simp only [Bool.false_eq_true, if_false] at hI
    obtain ⟨h1, h2⟩ := no_dot l ha
    have HP : Hid (dotP l = false) := Lib.hid ha
    have HA2 : Hid (dotA l = l) := Lib.hid h1
    have HB2 : Hid (dotB l = []) := Lib.hid (by unfold dotB; rw [h2]; rfl)
    have HI := Lib.hid hI; clear hI hA hB ha h1 h2 hsz
    go_enter Tryz.func236, Tryz.ntmps236
    go_wp2_with (go_at_call 167; refine HI.out.mono ?_; rintro e w1 ⟨rfl, rfl⟩)
    go_ret3
    exact ⟨by rw [HA2.out, HB2.out, HP.out]; rfl, 0, rfl⟩
theorem cut_calls (l : Bytes) (w : World) (hs : l.length ≤ 140737488355328) (m : Int) (hm : w.cell? ⟨0, 0, none⟩ = some (.int .i64 m)) :
    Calls Tryz.prog 220 #[.string (bs l), .string ⟨#[46]⟩] w fun e w' => e = .returned (.tuple #[.string (bs (dotA l)), .string (bs (dotB l)), .bool (dotP l)]) ∧ ∃ n, w' = w.drewN n := by
  have hC := fun W => slCut_any l W hs
  have HC := Lib.hid hC; clear hC
  go_enter Tryz.func220, Tryz.ntmps220
  go_wp2_with (go_at_call 236; refine (HC.out _).mono ?_; rintro e w1 ⟨rfl, n, rfl⟩)
  go_ret3
  exact ⟨rfl, n, rfl⟩
theorem digits_bs (l : Bytes) (w : World) (hs : l.length ≤ 9223372036854775806) : Calls Tryz.prog 221 #[.string (bs l)] w fun e w' => e = .returned (.bool (allDig l)) ∧ w = w' :=
  digits_any (bs l) w (by rw [bs_size]; exact hs)
theorem dotA_le (l : Bytes) : (dotA l).length ≤ l.length := List.Sublist.length_le (List.takeWhile_sublist _)
theorem dotB_le (l : Bytes) : (dotB l).length ≤ l.length := by
  unfold dotB; rw [List.length_drop]
  have := List.Sublist.length_le (List.dropWhile_sublist (l := l) (· != 46)); omega
theorem none2_walk (a b : Bytes) : (bs a ++ bs b).toList.isEmpty = none2 a b := by rw [bs_append, bs_toList]; rfl

theorem cutN_no (s : Bytes) (b : Bool) (r A B : Bytes) (hs : sgn s = (b, r)) (hA : dotA r = A) (hB : dotB r = B) (h : allDig A = false ∨ allDig B = false ∨ none2 A B = true) : cutN s = ⟨0, false, [], []⟩ := by
  unfold cutN
  rw [hs]
  simp only [hA, hB]
  rcases h with h | h | h <;> simp [h]
theorem cutN_yes (s : Bytes) (b : Bool) (r A B : Bytes) (P : Bool) (hs : sgn s = (b, r)) (hA : dotA r = A) (hB : dotB r = B) (hP : dotP r = P) (h1 : allDig A = true) (h2 : allDig B = true) (h3 : none2 A B = false) : cutN s = ⟨if P then 2 else 1, b, A, B⟩ := by
  unfold cutN
  rw [hs]
  simp [hA, hB, hP, h1, h2, h3]
end Go.Proofs.YtgkhnpldjdbmoaaGreatDoor
