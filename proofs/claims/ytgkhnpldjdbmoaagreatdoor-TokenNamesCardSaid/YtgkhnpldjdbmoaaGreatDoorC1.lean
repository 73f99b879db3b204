/- The walks of the program's layer 1 (class): what each function answers, in any memory. -/
import Derived.Test.YtgkhnpldjdbmoaaGreatDoorLex
import Derived.Test.YtgkhnpldjdbmoaaGreatDoorProg
import Derived.WalkKit
import Derived.WalkSpells
import Derived.WalkLawsBesides
import Derived.Deep.QuietTactic
import Derived.Deep.WholeRow
import Derived.BigQuiet
import Derived.Lib.Hide
import Derived.Deep.DeepFit
set_option linter.unusedVariables false
set_option linter.unusedSimpArgs false
namespace Go.Proofs.YtgkhnpldjdbmoaaGreatDoor
open Go.RowKit

def tabClass (b : Nat) : Int := if isWhite (UInt8.ofNat b) then 1 else if isDelim (UInt8.ofNat b) then 2 else 0
def tabA : Array Value := ((List.range 256).map fun b => Value.int .u8 (tabClass b)).toArray
def tabV : Value := .agg tabA

set_option maxRecDepth 100000 in
set_option maxHeartbeats 1000000 in
theorem table_any (w : World) : Calls Tryz.prog 125 #[] w fun e w' => e = .returned tabV ∧ Below w.heap.size w w' := by
  have hl := run_loadVar_new (P := Tryz.prog) w 136 tabA 256 5 Tryz.underlying136 (by kernel_rfl)
  go_enter Tryz.func125, Tryz.ntmps125
  go_wp2_with (refine wpList_store_row rfl 136 _ _ rfl w.heap.size tabA rfl (by kernel_rfl) 136 Tryz.zeroCells136 (heap_alloc_last w _) (by kernel_rfl) (by kernel_rfl) (by kernel_rfl) ?_; rw [World.setRow_alloc_new])
  refine bodyPost_ret (v := tabV) ?_ rfl ⟨rfl, (Below.refl _ _).alloc (Nat.le_refl _) _⟩
  simp only [results, Tryz.results125]
  simp [Sem.run_bind, Result.andThen, asAddr, hl, tabV, Act.put]

theorem tab_at (b : Nat) (h : b < 256) : tabA[b]? = some (.int .u8 (tabClass b)) := by
  simp [tabA, h]

theorem index_tab (b : UInt8) (w : World) : (Instr.index 136 tabV (.int .u8 b.toNat)).run Tryz.prog w = .ok (.int .u8 (tabClass b.toNat)) w := by
  have hb := b.toNat_lt
  have ht := tab_at b.toNat (by omega)
  have hs : tabA.size = 256 := by simp [tabA]
  have hb2 : (b.toNat : Int) < 256 := by omega
  have hb3 : (0 : Int) ≤ (b.toNat : Int) := by omega
  simp [Instr.index, tabV, asIntOf, Result.andThen, hb2, hb3, part]
  rw [if_pos (by omega), ht]
  rfl

theorem tabClass_white (b : UInt8) : (tabClass b.toNat == 1) = isWhite b := by
  unfold tabClass
  simp only [UInt8.ofNat_toNat]
  by_cases h : isWhite b = true <;> by_cases h2 : isDelim b = true <;> simp [h, h2]
theorem tabClass_delim (b : UInt8) : (tabClass b.toNat == 2) = isDelim b := by
  have hd : isDelim b = true → isWhite b = false := by
    intro h
    simp only [isDelim, isWhite, Bool.or_eq_true, beq_iff_eq, Bool.or_eq_false_iff, beq_eq_false_iff_ne] at *
    rcases h with (((((((((h | h) | h) | h) | h) | h) | h) | h) | h) | h) <;> subst h <;> decide
  unfold tabClass
  simp only [UInt8.ofNat_toNat]
  by_cases h : isWhite b = true <;> by_cases h2 : isDelim b = true <;> simp_all
theorem tabClass_reg (b : UInt8) : (tabClass b.toNat == 0) = isReg b := by
  unfold tabClass isReg
  simp only [UInt8.ofNat_toNat]
  by_cases h : isWhite b = true <;> by_cases h2 : isDelim b = true <;> simp [h, h2]

set_option maxRecDepth 100000 in
set_option maxHeartbeats 400000 in
theorem white_any (b : UInt8) (w : World) : Calls Tryz.prog 117 #[.int .u8 b.toNat] w fun e w' => e = .returned (.bool (isWhite b)) ∧ Below w.heap.size w w' := by
  have hi := index_tab b
  go_enter Tryz.func117, Tryz.ntmps117
  go_wp2_with (go_at_call 125; refine (table_any _).mono ?_; rintro e w1 ⟨rfl, hb1⟩)
  go_ret
  exact ⟨by rw [← tabClass_white]; rfl, hb1⟩

set_option maxRecDepth 100000 in
set_option maxHeartbeats 400000 in
theorem reg_any (b : UInt8) (w : World) : Calls Tryz.prog 61 #[.int .u8 b.toNat] w fun e w' => e = .returned (.bool (isReg b)) ∧ Below w.heap.size w w' := by
  have hi := index_tab b
  go_enter Tryz.func61, Tryz.ntmps61
  go_wp2_with (go_at_call 125; refine (table_any _).mono ?_; rintro e w1 ⟨rfl, hb1⟩)
  go_ret
  exact ⟨by rw [← tabClass_reg]; rfl, hb1⟩

theorem ret_int {k : IntKind} {a b : Int} (h : a = b) : Ending.returned (.int k a) = .returned (.int k b) := by rw [h]
theorem ret_bool {a b : Bool} (h : a = b) : Ending.returned (.bool a) = .returned (.bool b) := by rw [h]
theorem digit_bool (b : UInt8) : isDigit b = decide (48 ≤ b.toNat ∧ b.toNat ≤ 57) := by
  simp [isDigit, UInt8.le_iff_toNat_le]
set_option maxRecDepth 100000 in
set_option maxHeartbeats 400000 in
theorem digit_any (b : UInt8) (w : World) : Calls Tryz.prog 214 #[.int .u8 b.toNat] w fun e w' => e = .returned (.bool (isDigit b)) ∧ w = w' := by
  by_cases h1 : 48 ≤ (b.toNat : Int)
  · go_enter Tryz.func214, Tryz.ntmps214
    go_wp2
    go_ret
    exact ⟨ret_bool (by rw [digit_bool]; simp [show 48 ≤ b.toNat by omega]; omega), rfl⟩
  · go_enter Tryz.func214, Tryz.ntmps214
    go_wp2
    go_ret
    exact ⟨ret_bool (by rw [digit_bool]; simp; omega), rfl⟩
set_option maxRecDepth 100000 in
set_option maxHeartbeats 400000 in
theorem place_any (s : ByteArray) (i : Int) (w : World) (hs : s.size ≤ 9223372036854775807) : Calls Tryz.prog 116 #[.string s, .int .i64 i] w fun e w' => e = .returned (.int .i64 (place s.size i)) ∧ w = w' := by
  go_enter Tryz.func116, Tryz.ntmps116
  go_wp2
  all_goals
    go_ret
    exact ⟨ret_int (by unfold place; (repeat' split) <;> split at * <;> omega), rfl⟩
set_option maxRecDepth 100000 in
set_option maxHeartbeats 1000000 in
theorem hex_any (b : UInt8) (w : World) : Calls Tryz.prog 175 #[.int .u8 b.toNat] w fun e w' => e = .returned (.int .i64 (hexv b)) ∧ w = w' := by
  have hlt := b.toNat_lt
  have hv : hexv b = if 48 ≤ b.toNat ∧ b.toNat ≤ 57 then (b.toNat : Int) - 48 else if 65 ≤ b.toNat ∧ b.toNat ≤ 70 then (b.toNat : Int) - 55 else if 97 ≤ b.toNat ∧ b.toNat ≤ 102 then (b.toNat : Int) - 87 else -1 := by
    unfold hexv; simp [digit_bool, UInt8.le_iff_toNat_le]
  have HV := Lib.hid hv; clear hv
  by_cases hd : isDigit b = true
  · have hb : 48 ≤ (b.toNat : Int) ∧ (b.toNat : Int) ≤ 57 := by rw [digit_bool] at hd; simp at hd; omega
    obtain ⟨hb1, hb2⟩ := hb
    go_enter Tryz.func175, Tryz.ntmps175
    go_wp2_with (go_at_call 214; refine (digit_any _ _).mono ?_; rintro e w1 ⟨rfl, rfl⟩)
    go_ret
    exact ⟨ret_int (by rw [HV.out]; (repeat' split) <;> omega), rfl⟩
  · have hd : isDigit b = false := by simpa using hd
    have hb : ¬ (48 ≤ (b.toNat : Int) ∧ (b.toNat : Int) ≤ 57) := by rw [digit_bool] at hd; simp at hd; omega
    have HB := Lib.hid hb; clear hb
    go_enter Tryz.func175, Tryz.ntmps175
    go_wp2_with (go_at_call 214; refine (digit_any _ _).mono ?_; rintro e w1 ⟨rfl, rfl⟩)
    all_goals
      go_ret
      have hb := HB.out
      exact ⟨ret_int (by rw [HV.out]; (repeat' split) <;> omega), rfl⟩

set_option maxRecDepth 100000 in
set_option maxHeartbeats 1000000 in
theorem ends_any (w : World) : Calls Tryz.prog 174 #[] w fun e w' => e = .returned (.agg #[.string ⟨#[13, 10]⟩, .string ⟨#[10]⟩, .string ⟨#[13]⟩]) ∧ Below w.heap.size w w' := by
  have hl := run_loadVar_new (P := Tryz.prog) w 174 #[.string ⟨#[13, 10]⟩, .string ⟨#[10]⟩, .string ⟨#[13]⟩] 3 9 Tryz.underlying174 (by kernel_rfl)
  go_enter Tryz.func174, Tryz.ntmps174
  go_wp2
  refine bodyPost_ret (v := .agg #[.string ⟨#[13, 10]⟩, .string ⟨#[10]⟩, .string ⟨#[13]⟩]) ?_ rfl ⟨rfl, (Below.refl _ _).alloc (Nat.le_refl _) _⟩
  simp only [results, Tryz.results174]
  simp [Sem.run_bind, Result.andThen, asAddr]
  exact hl

theorem size_list (t : ByteArray) : t.size = t.data.toList.length := by
  show t.data.size = _
  rw [Array.length_toList]
theorem toList_take (t : ByteArray) (n : Nat) : (t.extract 0 n).toList = t.data.toList.take n := by
  rw [ByteArray.toList_eq]; simp [ByteArray.data_extract]
theorem eol_two {t : ByteArray} (h1 : (2 : Int) ≤ t.size) (h2 : ((t.extract 0 2).toList == [13, 10]) = true) : eol t.data.toList = 2 := by
  rw [toList_take, beq_iff_eq] at h2
  match hx : t.data.toList with
  | [] => simp [hx] at h2
  | [c] => simp [hx] at h2
  | c :: d :: l => rw [hx] at h2; simp at h2; simp [eol, h2]
theorem eol_lf {t : ByteArray} (h1 : (1 : Int) ≤ t.size) (h2 : ((t.extract 0 1).toList == [10]) = true) : eol t.data.toList = 1 := by
  rw [toList_take, beq_iff_eq] at h2
  match hx : t.data.toList with
  | [] => simp [hx] at h2
  | [c] => rw [hx] at h2; simp at h2; simp [eol, h2]
  | c :: d :: l => rw [hx] at h2; simp at h2; simp [eol, h2]
theorem eol_cr {t : ByteArray} (h0 : (t.size : Int) < 2 ∨ ((t.extract 0 2).toList == [13, 10]) = false) (h1 : (1 : Int) ≤ t.size) (h2 : ((t.extract 0 1).toList == [13]) = true) : eol t.data.toList = 1 := by
  rw [toList_take, beq_iff_eq] at h2
  rw [toList_take] at h0
  have hl := size_list t
  match hx : t.data.toList with
  | [] => simp [hx] at h2
  | [c] => rw [hx] at h2; simp at h2; simp [eol, h2]
  | c :: d :: l =>
    rw [hx] at h2 h0 hl; simp at h2 h0 hl
    have : ¬ d = 10 := by
      intro h
      rcases h0 with h0 | h0
      · omega
      · exact h0 h2 h
    simp [eol, h2, this]
theorem eol_none {t : ByteArray} (h0 : (t.size : Int) < 1 ∨ ((t.extract 0 1).toList == [10]) = false ∧ ((t.extract 0 1).toList == [13]) = false) : eol t.data.toList = 0 := by
  rw [toList_take] at h0
  have hl := size_list t
  match hx : t.data.toList with
  | [] => simp [eol]
  | [c] =>
    rw [hx] at h0 hl; simp at h0 hl
    rcases h0 with h0 | h0
    · omega
    · simp [eol, h0]
  | c :: d :: l =>
    rw [hx] at h0 hl; simp at h0 hl
    rcases h0 with h0 | h0
    · omega
    · simp [eol, h0]

theorem drop_toList (s : ByteArray) (p : Nat) : (s.extract p s.size).data.toList = s.data.toList.drop p := by
  rw [ByteArray.data_extract, Array.toList_extract]
  rw [List.extract_eq_take_drop]
  exact List.take_of_length_le (by rw [size_list]; simp)

set_option maxRecDepth 100000 in
set_option maxHeartbeats 1000000 in
theorem eol_any (s : ByteArray) (i : Int) (w : World) (hs : s.size ≤ 9223372036854775807) : Calls Tryz.prog 118 #[.string s, .int .i64 i] w fun e w' => e = .returned (.int .i64 (eol (s.data.toList.drop (place s.size i)))) ∧ Below w.heap.size w w' := by
  have hp : place s.size i ≤ s.size := by unfold place; split <;> omega
  have i0 : ∀ w : World, (Instr.index 174 (.agg #[.string ⟨#[13, 10]⟩, .string ⟨#[10]⟩, .string ⟨#[13]⟩]) (.int .i64 0)).run Tryz.prog w = .ok (.string ⟨#[13, 10]⟩) w := fun _ => by kernel_rfl
  have i1 : ∀ w : World, (Instr.index 174 (.agg #[.string ⟨#[13, 10]⟩, .string ⟨#[10]⟩, .string ⟨#[13]⟩]) (.int .i64 1)).run Tryz.prog w = .ok (.string ⟨#[10]⟩) w := fun _ => by kernel_rfl
  have i2 : ∀ w : World, (Instr.index 174 (.agg #[.string ⟨#[13, 10]⟩, .string ⟨#[10]⟩, .string ⟨#[13]⟩]) (.int .i64 2)).run Tryz.prog w = .ok (.string ⟨#[13]⟩) w := fun _ => by kernel_rfl
  go_enter Tryz.func118, Tryz.ntmps118
  go_wp2_with (first
    | (go_at_call 116; refine (place_any _ _ _ hs).mono ?_; rintro e w1 ⟨rfl, rfl⟩)
    | (go_at_call 174; refine (ends_any _).mono ?_; rintro e w1 ⟨rfl, hb1⟩))
  have hd := drop_toList s (place s.size i)
  have HD := Lib.hid hd; clear hd
  generalize s.extract (place s.size i) s.size = t at *
  refine wp_loop_rounds 4 ?_
  rw [rounds_succ]; go_wp2
  all_goals (try (rw [rounds_succ]; go_wp2))
  all_goals (try (rw [rounds_succ]; go_wp2))
  all_goals (try (rw [rounds_succ]; go_wp2))
  all_goals
    go_ret
    refine ⟨ret_int ?_, hb1⟩
    rw [← HD.out]
    first
      | (rw [eol_two ‹_› ‹_›]; rfl)
      | (rw [eol_lf ‹_› ‹_›]; rfl)
      | (rw [eol_cr (.inl ‹_›) ‹_› ‹_›]; rfl)
      | (rw [eol_cr (.inr ‹_›) ‹_› ‹_›]; rfl)
      | (rw [eol_none (.inl ‹_›)]; rfl)
      | (rw [eol_none (.inr ⟨‹_›, ‹_›⟩)]; rfl)

theorem place_le (n : Nat) (i : Int) : place n i ≤ n := by unfold place; split <;> omega
theorem place_nat {n k : Nat} (h : k ≤ n) : place n k = k := by unfold place; rw [if_neg (by omega)]; simp; omega
theorem drop_at {s : ByteArray} {k : Nat} (h : k < s.size) : s.data.toList.drop k = s[k] :: s.data.toList.drop (k + 1) := by
  rw [List.drop_eq_getElem_cons (by rw [← size_list]; exact h)]; rfl
theorem drop_end {s : ByteArray} {k : Nat} (h : s.size ≤ k) : s.data.toList.drop k = [] := by
  rw [List.drop_eq_nil_iff, ← size_list]; exact h

set_option maxRecDepth 100000 in
set_option maxHeartbeats 1000000 in
theorem run_any (s : ByteArray) (i : Int) (w : World) (hs : s.size ≤ 9223372036854775806) : Calls Tryz.prog 122 #[.string s, .int .i64 i] w fun e w' => e = .returned (.int .i64 ((place s.size i + run (s.data.toList.drop (place s.size i)) : Nat) : Int)) ∧ Below w.heap.size w w' := by
  have hp := place_le s.size i
  go_enter Tryz.func122, Tryz.ntmps122
  go_wp2_with (go_at_call 116; refine (place_any _ _ _ (by omega)).mono ?_; rintro e w1 ⟨rfl, rfl⟩)
  go_loopw [1] (fun a wr => ∃ k : Nat, k ≤ s.size ∧ a = .int .i64 k ∧ Below w.heap.size w wr ∧ k + run (s.data.toList.drop k) = place s.size i + run (s.data.toList.drop (place s.size i))) (fun a _ => s.size - (intOf a).toNat)
  case atStart => exact ⟨_, hp, rfl, Below.refl _ _, rfl⟩
  case round =>
    obtain ⟨k, hk, rfl, hb, heq⟩ := hrel
    have HE := Lib.hid heq; clear heq
    by_cases hlt : k < s.size
    · have hd := drop_at hlt
      by_cases hr : isReg s[k] = true
      · have HX : Hid (k + 1 + run (s.data.toList.drop (k + 1)) = place s.size i + run (s.data.toList.drop (place s.size i))) := Lib.hid (by rw [← HE.out, hd]; simp [run, hr]; omega)
        clear hd
        go_wp2_with (go_at_call 61; refine (reg_any _ _).mono ?_; rintro e w1 ⟨rfl, hb1⟩)
        go_roundw
        case rel => exact ⟨k + 1, by omega, by go_num, hb.trans (hb1.mono hb.size), HX.out⟩
        case measure => simp [intOf]; omega
      · have hr : isReg s[k] = false := by simpa using hr
        have HX : Hid (k = place s.size i + run (s.data.toList.drop (place s.size i))) := Lib.hid (by rw [← HE.out, hd]; simp [run, hr])
        clear hd
        go_wp2_with (go_at_call 61; refine (reg_any _ _).mono ?_; rintro e w1 ⟨rfl, hb1⟩)
        go_ret
        exact ⟨ret_int (by rw [← HX.out]), hb.trans (hb1.mono hb.size)⟩
    · have hd := drop_end (s := s) (k := k) (by omega)
      have HX : Hid (k = place s.size i + run (s.data.toList.drop (place s.size i))) := Lib.hid (by rw [← HE.out, hd]; simp [run])
      clear hd
      go_wp2
      go_ret
      exact ⟨ret_int (by rw [← HX.out]), hb⟩
end Go.Proofs.YtgkhnpldjdbmoaaGreatDoor
