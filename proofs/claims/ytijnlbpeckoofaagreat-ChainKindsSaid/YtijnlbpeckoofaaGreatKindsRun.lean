/- chain.Name of the five kinds, and the chapter's examples, run by the machine. -/
import Derived.Test.YtijnlbpeckoofaaGreatKinds
set_option linter.unusedVariables false
namespace Go.Proofs.YtijnlbpeckoofaaGreat
open Go.RowKit
set_option maxRecDepth 10000000 in
theorem name_runs1 : isA (evalF cf1 G0 100000 6 [.int .i64 1]) (.str 14 2056480659218213526515526735713089) = true := by kernel_rfl
theorem name_is1 : ∀ W, Ev W → Calls Tryz.prog 6 #[.int .i64 1] W fun e W' => e = .returned (.string (strOf 14 2056480659218213526515526735713089)) ∧ Below W.heap.size W W' :=
  calls_of_eval (cf := cf1) sound1 rep0 (by kernel_rfl) name_runs1 (vs := [.int .i64 1]) rfl rfl
set_option maxRecDepth 10000000 in
theorem name_runs2 : isA (evalF cf1 G0 100000 6 [.int .i64 2]) (.str 13 8033127575071127679654108025665) = true := by kernel_rfl
theorem name_is2 : ∀ W, Ev W → Calls Tryz.prog 6 #[.int .i64 2] W fun e W' => e = .returned (.string (strOf 13 8033127575071127679654108025665)) ∧ Below W.heap.size W W' :=
  calls_of_eval (cf := cf1) sound1 rep0 (by kernel_rfl) name_runs2 (vs := [.int .i64 2]) rfl rfl
set_option maxRecDepth 10000000 in
theorem name_runs3 : isA (evalF cf1 G0 100000 6 [.int .i64 3]) (.str 15 526459048759862368729700102178764114) = true := by kernel_rfl
theorem name_is3 : ∀ W, Ev W → Calls Tryz.prog 6 #[.int .i64 3] W fun e W' => e = .returned (.string (strOf 15 526459048759862368729700102178764114)) ∧ Below W.heap.size W W' :=
  calls_of_eval (cf := cf1) sound1 rep0 (by kernel_rfl) name_runs3 (vs := [.int .i64 3]) rfl rfl
set_option maxRecDepth 10000000 in
theorem name_runs4 : isA (evalF cf1 G0 100000 6 [.int .i64 4]) (.str 9 1870358263857461811788) = true := by kernel_rfl
theorem name_is4 : ∀ W, Ev W → Calls Tryz.prog 6 #[.int .i64 4] W fun e W' => e = .returned (.string (strOf 9 1870358263857461811788)) ∧ Below W.heap.size W W' :=
  calls_of_eval (cf := cf1) sound1 rep0 (by kernel_rfl) name_runs4 (vs := [.int .i64 4]) rfl rfl
set_option maxRecDepth 10000000 in
theorem name_runs5 : isA (evalF cf1 G0 100000 6 [.int .i64 5]) (.str 11 122575799180162677864492102) = true := by kernel_rfl
theorem name_is5 : ∀ W, Ev W → Calls Tryz.prog 6 #[.int .i64 5] W fun e W' => e = .returned (.string (strOf 11 122575799180162677864492102)) ∧ Below W.heap.size W W' :=
  calls_of_eval (cf := cf1) sound1 rep0 (by kernel_rfl) name_runs5 (vs := [.int .i64 5]) rfl rfl
def nameOf (k : Int) : SN := if k = 1 then (14, 2056480659218213526515526735713089) else if k = 2 then (13, 8033127575071127679654108025665) else if k = 3 then (15, 526459048759862368729700102178764114) else if k = 4 then (9, 1870358263857461811788) else (11, 122575799180162677864492102)
theorem name_in (k : Int) (h : 1 ≤ k ∧ k ≤ 5) : ∀ W, Ev W → Calls Tryz.prog 6 #[.int .i64 k] W fun e W' => e = .returned (.string (strOf (nameOf k).1 (nameOf k).2)) ∧ Below W.heap.size W W' := by
  have : k = 1 ∨ k = 2 ∨ k = 3 ∨ k = 4 ∨ k = 5 := by omega
  rcases this with rfl | rfl | rfl | rfl | rfl
  · exact name_is1
  · exact name_is2
  · exact name_is3
  · exact name_is4
  · exact name_is5
/-- What is known of a kind's name. -/
def NameFit (k : Int) (S : ByteArray) : Prop := S.size ≤ 15 ∧ ((k < 1 ∨ 5 < k) ∧ S = ⟨#[]⟩ ∨ (1 ≤ k ∧ k ≤ 5) ∧ S.toList ≠ [] ∧ kindOf S.data.toList = k)
theorem name_fit (k : Int) : ∃ S, NameFit k S ∧ ∀ W, Ev W → Calls Tryz.prog 6 #[.int .i64 k] W fun e W' => e = .returned (.string S) ∧ Below W.heap.size W W' := by
  by_cases h : k < 1 ∨ 5 < k
  · exact ⟨⟨#[]⟩, ⟨by decide, .inl ⟨h, rfl⟩⟩, fun W hW => name_none k h W hW⟩
  · have h2 : 1 ≤ k ∧ k ≤ 5 := by omega
    refine ⟨strOf (nameOf k).1 (nameOf k).2, ?_, name_in k h2⟩
    have : k = 1 ∨ k = 2 ∨ k = 3 ∨ k = 4 ∨ k = 5 := by omega
    rcases this with rfl | rfl | rfl | rfl | rfl
    all_goals exact ⟨by decide +kernel, .inr ⟨by decide, by decide +kernel, by decide +kernel⟩⟩
/-- A name's kind: none, or one whose name it is, or a short one's. -/
theorem kind_fit (s : ByteArray) : kindOf s.data.toList = 0 ∨ ((1 ≤ kindOf s.data.toList ∧ kindOf s.data.toList ≤ 5) ∧ (s.size ≤ 3 ∨ strOf (nameOf (kindOf s.data.toList)).1 (nameOf (kindOf s.data.toList)).2 = s)) := by
  unfold kindOf
  cases h : namesL.find? fun p => decP p.1 == s.data.toList with
  | none => exact .inl rfl
  | some p =>
    have h1 := List.mem_of_find?_eq_some h
    have h2 : decP p.1 = s.data.toList := by simpa using List.find?_some h
    have h3 : ∀ q ∈ namesL, (1 ≤ q.2 ∧ q.2 ≤ 5) ∧ (q.1.1 ≤ 3 ∨ nameOf q.2 = q.1) := by decide +kernel
    obtain ⟨k1, k2⟩ := h3 p h1
    refine .inr ⟨k1, k2.imp (fun h => ?_) fun h => ?_⟩
    · have : s.data.toList.length = p.1.1 := by rw [← h2]; simp [decP, dec_length]
      show s.data.size ≤ 3
      rw [← Array.length_toList]; omega
    · simp only
      rw [h]
      have e : (strOf p.1.1 p.1.2).data.toList = s.data.toList := by rw [← h2]; rfl
      exact ByteArray.ext (Array.toList_inj.1 e)
end Go.Proofs.YtijnlbpeckoofaaGreat
