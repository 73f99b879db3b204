/- The walk of token.Join over tokens that may be put. -/
import Derived.Test.YtgkhnpldjdbmoaaGreatDoorC32
import Derived.Test.YtgkhnpldjdbmoaaGreatDoorHol
import Derived.Test.YtgkhnpldjdbmoaaGreatDoorRt
set_option linter.unusedVariables false
set_option linter.unusedSimpArgs false
namespace Go.Proofs.YtgkhnpldjdbmoaaGreatDoor
open Go.RowKit

def RT.txt (t : RT) : Bytes × Nat := textT t.k t.n t.s.data.toList
/-- A token that may be put. -/
def RT.ok (t : RT) : Prop := t.txt.2 = 0 ∧ t.s.size ≤ 140737488355328 ∧ (-9223372036854775808 ≤ t.n ∧ t.n ≤ 9223372036854775807)
/-- One token more. -/
def jstep (p : Bool × Bytes) (t : RT) : Bool × Bytes := if t.txt.1 = [] then p else (t.k == 3 || lastReg t.txt.1, p.2 ++ glue p.1 t.txt.1 ++ t.txt.1)
def jfold (ts : List RT) : Bool × Bytes := ts.foldl jstep (false, [])
theorem jfold_succ (ts : List RT) (k : Nat) (h : k < ts.length) : jfold (ts.take (k + 1)) = jstep (jfold (ts.take k)) ts[k] := by
  unfold jfold; rw [List.take_succ_eq_append_getElem h, List.foldl_append]; rfl

theorem dec_len2 {u : Nat} (h : u < 10000000000) : (Lib.decDigits u).length ≤ 10 := dec_len h
theorem namePut_len (s : Bytes) : (namePut s).1.length ≤ 262146 := by
  unfold namePut; split
  · simp
  · rename_i hc
    have : s.length ≤ 127 := by
      simp only [ne_eq, Decidable.not_not, nameCheck] at hc
      split at hc <;> omega
    have h := flat_le nameByte 3 nameByte_len s
    rw [List.length_cons]; omega
theorem litPut_len (s : Bytes) : (litPut s).1.length ≤ 262146 := by
  unfold litPut; split
  · simp
  · have h := flat_le litByte 4 litByte_len s
    rw [List.length_cons, List.length_append, List.length_singleton]; omega
theorem realPut_len (s : Bytes) : (realPut s).1.length ≤ 262146 := by
  unfold realPut; split
  · simp
  · rename_i h
    simp only [not_or, Decidable.not_not] at h
    have h1 := h.1; have h2 := h.2
    unfold numReal at h1 h2
    simp only at h1 h2
    split at h1
    · simp at h1
    · rename_i hk
      rw [if_neg hk] at h2
      split at h1
      · simp at h1
      · rename_i hl
        rw [if_neg hl] at h2
        split at h1
        · simp at h1
        · rename_i hl2
          rw [if_neg hl2] at h2
          simp only at h2
          rw [← h2]
          simp only [List.length_append, List.length_cons, List.length_nil]
          have : ∀ b : Bool, (if b = true then [(45 : UInt8)] else []).length ≤ 1 := by intro b; cases b <;> simp
          have h3 := this ((cutN s).neg && !none2 (trimL (cutN s).ahead) (trimR (cutN s).back))
          omega
theorem text_len (k n : Int) (s : Bytes) : (textT k n s).1.length ≤ 262146 := by
  unfold textT
  split
  · simp
  · split
    · exact realPut_len s
    · split
      · exact namePut_len s
      · split
        · exact litPut_len s
        · split
          · unfold wordPut; split
            · simp
            · rename_i h; simp only [not_or] at h; show s.length ≤ _; omega
          · split
            · simp
            · split
              · unfold intText; split
                · simp
                · rename_i h
                  unfold Lib.itoa; split
                  · have := dec_len2 (u := n.natAbs) (by omega); simp only [List.length_cons]; omega
                  · have := dec_len2 (u := n.toNat) (by omega); show (Lib.decDigits n.toNat).length ≤ _; omega
              · unfold fixedT; split
                · simp
                · split
                  · simp
                  · split
                    · simp
                    · split <;> simp
theorem glue_len (w : Bool) (x : Bytes) : (glue w x).length ≤ 1 := by unfold glue; split <;> simp

/-! ### bytes of a string by their places -/
theorem index_first (c : UInt8) (z : Bytes) (W : World) : (Instr.index 9 (.string (bs (c :: z))) (.int .i64 0)).run Tryz.prog W = .ok (.int .u8 c.toNat) W := by
  have h := index_str (bs (c :: z)) 0 0 rfl (by rw [bs_size]; simp) W
  rw [h]
  rfl
theorem last_at (x : Bytes) (h : x ≠ []) : ∃ c, x.getLast? = some c ∧ x[x.length - 1]? = some c := by
  refine ⟨x.getLast h, List.getLast?_eq_some_getLast h, ?_⟩
  rw [List.getLast_eq_getElem]; exact List.getElem?_eq_getElem _
theorem blk_kept {w w' : World} {b g : Nat} (h : Lib.OthersKept 5 (some b) w w') (hne : g ≠ b) {cs : Array Value} {fz : Nat × Nat} (hg : w.heap[g]? = some (.cells cs 47 fz)) : w'.heap[g]? = some (.cells cs 47 fz) :=
  h g _ hg (fun e => hne (Option.some.inj e)) (fun c fz' e => by injection e with _ e2 _; exact absurd e2 (by decide))
end Go.Proofs.YtgkhnpldjdbmoaaGreatDoor
