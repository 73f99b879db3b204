/- A machine that runs closed calls: its values, its memory, and how they stand for the model's. -/
import GoSem.Step
set_option linter.unusedVariables false
namespace Go.Proofs.YtijnlbpeckoofaaGreat

theorem nbeq {k j : Nat} (h : k ≠ j) : Nat.beq k j = false := by
  cases e : Nat.beq k j with
  | false => rfl
  | true => exact absurd (Nat.eq_of_beq_eq_true e) h
/-- Sixteen digits, and as many places. -/
inductive D16 where
  | d0 | d1 | d2 | d3 | d4 | d5 | d6 | d7 | d8 | d9 | d10 | d11 | d12 | d13 | d14 | d15
deriving DecidableEq
structure N16 (β : Type) where
  (a0 a1 a2 a3 a4 a5 a6 a7 a8 a9 a10 a11 a12 a13 a14 a15 : β)
noncomputable def dig (n : Nat) : D16 := (@Nat.rec (fun _ => D16) .d0 (fun n _ => (@Nat.rec (fun _ => D16) .d1 (fun n _ => (@Nat.rec (fun _ => D16) .d2 (fun n _ => (@Nat.rec (fun _ => D16) .d3 (fun n _ => (@Nat.rec (fun _ => D16) .d4 (fun n _ => (@Nat.rec (fun _ => D16) .d5 (fun n _ => (@Nat.rec (fun _ => D16) .d6 (fun n _ => (@Nat.rec (fun _ => D16) .d7 (fun n _ => (@Nat.rec (fun _ => D16) .d8 (fun n _ => (@Nat.rec (fun _ => D16) .d9 (fun n _ => (@Nat.rec (fun _ => D16) .d10 (fun n _ => (@Nat.rec (fun _ => D16) .d11 (fun n _ => (@Nat.rec (fun _ => D16) .d12 (fun n _ => (@Nat.rec (fun _ => D16) .d13 (fun n _ => (@Nat.rec (fun _ => D16) .d14 (fun n _ => .d15) n)) n)) n)) n)) n)) n)) n)) n)) n)) n)) n)) n)) n)) n)) n)
noncomputable def D16.num (d : D16) : Nat := @D16.rec (fun _ => Nat) 0 1 2 3 4 5 6 7 8 9 10 11 12 13 14 15 d
theorem dig_num : ∀ n : Fin 16, (dig n).num = n := by decide +kernel
theorem dig_eq {i j : Nat} (hi : i < 16) (hj : j < 16) (h : dig i = dig j) : i = j := by
  have h1 := dig_num ⟨i, hi⟩
  have h2 := dig_num ⟨j, hj⟩
  simp only at h1 h2
  rw [← h1, ← h2, h]
namespace N16
variable {β : Type}
noncomputable def get (d : D16) : N16 β → β := @D16.rec (fun _ => N16 β → β) N16.a0 N16.a1 N16.a2 N16.a3 N16.a4 N16.a5 N16.a6 N16.a7 N16.a8 N16.a9 N16.a10 N16.a11 N16.a12 N16.a13 N16.a14 N16.a15 d
noncomputable def upd0 (f : β → β) (t : N16 β) : N16 β := @N16.rec β (fun _ => N16 β) (fun a0 a1 a2 a3 a4 a5 a6 a7 a8 a9 a10 a11 a12 a13 a14 a15 => ⟨f a0, a1, a2, a3, a4, a5, a6, a7, a8, a9, a10, a11, a12, a13, a14, a15⟩) t
noncomputable def upd1 (f : β → β) (t : N16 β) : N16 β := @N16.rec β (fun _ => N16 β) (fun a0 a1 a2 a3 a4 a5 a6 a7 a8 a9 a10 a11 a12 a13 a14 a15 => ⟨a0, f a1, a2, a3, a4, a5, a6, a7, a8, a9, a10, a11, a12, a13, a14, a15⟩) t
noncomputable def upd2 (f : β → β) (t : N16 β) : N16 β := @N16.rec β (fun _ => N16 β) (fun a0 a1 a2 a3 a4 a5 a6 a7 a8 a9 a10 a11 a12 a13 a14 a15 => ⟨a0, a1, f a2, a3, a4, a5, a6, a7, a8, a9, a10, a11, a12, a13, a14, a15⟩) t
noncomputable def upd3 (f : β → β) (t : N16 β) : N16 β := @N16.rec β (fun _ => N16 β) (fun a0 a1 a2 a3 a4 a5 a6 a7 a8 a9 a10 a11 a12 a13 a14 a15 => ⟨a0, a1, a2, f a3, a4, a5, a6, a7, a8, a9, a10, a11, a12, a13, a14, a15⟩) t
noncomputable def upd4 (f : β → β) (t : N16 β) : N16 β := @N16.rec β (fun _ => N16 β) (fun a0 a1 a2 a3 a4 a5 a6 a7 a8 a9 a10 a11 a12 a13 a14 a15 => ⟨a0, a1, a2, a3, f a4, a5, a6, a7, a8, a9, a10, a11, a12, a13, a14, a15⟩) t
noncomputable def upd5 (f : β → β) (t : N16 β) : N16 β := @N16.rec β (fun _ => N16 β) (fun a0 a1 a2 a3 a4 a5 a6 a7 a8 a9 a10 a11 a12 a13 a14 a15 => ⟨a0, a1, a2, a3, a4, f a5, a6, a7, a8, a9, a10, a11, a12, a13, a14, a15⟩) t
noncomputable def upd6 (f : β → β) (t : N16 β) : N16 β := @N16.rec β (fun _ => N16 β) (fun a0 a1 a2 a3 a4 a5 a6 a7 a8 a9 a10 a11 a12 a13 a14 a15 => ⟨a0, a1, a2, a3, a4, a5, f a6, a7, a8, a9, a10, a11, a12, a13, a14, a15⟩) t
noncomputable def upd7 (f : β → β) (t : N16 β) : N16 β := @N16.rec β (fun _ => N16 β) (fun a0 a1 a2 a3 a4 a5 a6 a7 a8 a9 a10 a11 a12 a13 a14 a15 => ⟨a0, a1, a2, a3, a4, a5, a6, f a7, a8, a9, a10, a11, a12, a13, a14, a15⟩) t
noncomputable def upd8 (f : β → β) (t : N16 β) : N16 β := @N16.rec β (fun _ => N16 β) (fun a0 a1 a2 a3 a4 a5 a6 a7 a8 a9 a10 a11 a12 a13 a14 a15 => ⟨a0, a1, a2, a3, a4, a5, a6, a7, f a8, a9, a10, a11, a12, a13, a14, a15⟩) t
noncomputable def upd9 (f : β → β) (t : N16 β) : N16 β := @N16.rec β (fun _ => N16 β) (fun a0 a1 a2 a3 a4 a5 a6 a7 a8 a9 a10 a11 a12 a13 a14 a15 => ⟨a0, a1, a2, a3, a4, a5, a6, a7, a8, f a9, a10, a11, a12, a13, a14, a15⟩) t
noncomputable def upd10 (f : β → β) (t : N16 β) : N16 β := @N16.rec β (fun _ => N16 β) (fun a0 a1 a2 a3 a4 a5 a6 a7 a8 a9 a10 a11 a12 a13 a14 a15 => ⟨a0, a1, a2, a3, a4, a5, a6, a7, a8, a9, f a10, a11, a12, a13, a14, a15⟩) t
noncomputable def upd11 (f : β → β) (t : N16 β) : N16 β := @N16.rec β (fun _ => N16 β) (fun a0 a1 a2 a3 a4 a5 a6 a7 a8 a9 a10 a11 a12 a13 a14 a15 => ⟨a0, a1, a2, a3, a4, a5, a6, a7, a8, a9, a10, f a11, a12, a13, a14, a15⟩) t
noncomputable def upd12 (f : β → β) (t : N16 β) : N16 β := @N16.rec β (fun _ => N16 β) (fun a0 a1 a2 a3 a4 a5 a6 a7 a8 a9 a10 a11 a12 a13 a14 a15 => ⟨a0, a1, a2, a3, a4, a5, a6, a7, a8, a9, a10, a11, f a12, a13, a14, a15⟩) t
noncomputable def upd13 (f : β → β) (t : N16 β) : N16 β := @N16.rec β (fun _ => N16 β) (fun a0 a1 a2 a3 a4 a5 a6 a7 a8 a9 a10 a11 a12 a13 a14 a15 => ⟨a0, a1, a2, a3, a4, a5, a6, a7, a8, a9, a10, a11, a12, f a13, a14, a15⟩) t
noncomputable def upd14 (f : β → β) (t : N16 β) : N16 β := @N16.rec β (fun _ => N16 β) (fun a0 a1 a2 a3 a4 a5 a6 a7 a8 a9 a10 a11 a12 a13 a14 a15 => ⟨a0, a1, a2, a3, a4, a5, a6, a7, a8, a9, a10, a11, a12, a13, f a14, a15⟩) t
noncomputable def upd15 (f : β → β) (t : N16 β) : N16 β := @N16.rec β (fun _ => N16 β) (fun a0 a1 a2 a3 a4 a5 a6 a7 a8 a9 a10 a11 a12 a13 a14 a15 => ⟨a0, a1, a2, a3, a4, a5, a6, a7, a8, a9, a10, a11, a12, a13, a14, f a15⟩) t
noncomputable def upd (d : D16) : (β → β) → N16 β → N16 β := @D16.rec (fun _ => (β → β) → N16 β → N16 β) upd0 upd1 upd2 upd3 upd4 upd5 upd6 upd7 upd8 upd9 upd10 upd11 upd12 upd13 upd14 upd15 d
noncomputable def all (x : β) : N16 β := ⟨x, x, x, x, x, x, x, x, x, x, x, x, x, x, x, x⟩
theorem get_all (d : D16) (x : β) : get d (all x) = x := by cases d <;> rfl
theorem get_same (d : D16) (f : β → β) (t : N16 β) : get d (upd d f t) = f (get d t) := by cases t; cases d <;> rfl
theorem get_ne {d e : D16} (h : d ≠ e) (f : β → β) (t : N16 β) : get d (upd e f t) = get d t := by cases t; cases d <;> cases e <;> first | rfl | exact absurd rfl h
theorem ext_get {t u : N16 β} (h : ∀ d, get d t = get d u) : t = u := by
  cases t; cases u
  rw [N16.mk.injEq]
  exact ⟨h .d0, h .d1, h .d2, h .d3, h .d4, h .d5, h .d6, h .d7, h .d8, h .d9, h .d10, h .d11, h .d12, h .d13, h .d14, h .d15⟩
end N16
/-- A map from numbers, by their digits. -/
structure PT (α : Type) where
  lo : N16 (N16 (Option α))
  mid : N16 (N16 (N16 (Option α)))
  hi : N16 (N16 (N16 (N16 (Option α))))
  rest : Nat → Option α

namespace PT
variable {α : Type}
noncomputable def nil : PT α := ⟨.all (.all none), .all (.all (.all none)), .all (.all (.all (.all none))), fun _ => none⟩
/-- Where a number lies. -/
noncomputable def tell {β : Type} (k : Nat) (lo mid hi rest : Nat → β) : β :=
  @Bool.rec (fun _ => β) (@Bool.rec (fun _ => β) (@Bool.rec (fun _ => β) (rest (Nat.sub k 69888)) (hi (Nat.sub k 4352)) (Nat.ble (Nat.succ k) 69888)) (mid (Nat.sub k 256)) (Nat.ble (Nat.succ k) 4352)) (lo k) (Nat.ble (Nat.succ k) 256)
theorem tell_eq {β : Type} (k : Nat) (lo mid hi rest : Nat → β) : tell k lo mid hi rest = if k < 256 then lo k else if k < 4352 then mid (k - 256) else if k < 69888 then hi (k - 4352) else rest (k - 69888) := by
  have e : ∀ n m : Nat, Nat.ble (Nat.succ n) m = decide (n < m) := fun n m => by
    by_cases h : n < m
    · rw [decide_eq_true h]; exact Nat.ble_eq_true_of_le h
    · rw [decide_eq_false h]
      cases q : Nat.ble (Nat.succ n) m with
      | false => rfl
      | true => exact absurd (Nat.le_of_ble_eq_true q) h
  unfold tell
  simp only [e]
  by_cases h1 : k < 256
  · rw [if_pos h1, decide_eq_true h1]
  rw [if_neg h1, decide_eq_false h1]
  by_cases h2 : k < 4352
  · rw [if_pos h2, decide_eq_true h2]; rfl
  rw [if_neg h2, decide_eq_false h2]
  by_cases h3 : k < 69888
  · rw [if_pos h3, decide_eq_true h3]; rfl
  rw [if_neg h3, decide_eq_false h3]; rfl
noncomputable def g2 (n : N16 (N16 (Option α))) (k : Nat) : Option α := N16.get (dig (Nat.mod k 16)) (N16.get (dig (Nat.mod (Nat.div k 16) 16)) n)
noncomputable def g3 (n : N16 (N16 (N16 (Option α)))) (k : Nat) : Option α := g2 (N16.get (dig (Nat.mod (Nat.div k 256) 16)) n) k
noncomputable def g4 (n : N16 (N16 (N16 (N16 (Option α))))) (k : Nat) : Option α := g3 (N16.get (dig (Nat.mod (Nat.div k 4096) 16)) n) k
noncomputable def s2 (v : Option α) (k : Nat) (n : N16 (N16 (Option α))) : N16 (N16 (Option α)) := N16.upd (dig (Nat.mod (Nat.div k 16) 16)) (N16.upd (dig (Nat.mod k 16)) (fun _ => v)) n
noncomputable def s3 (v : Option α) (k : Nat) (n : N16 (N16 (N16 (Option α)))) : N16 (N16 (N16 (Option α))) := N16.upd (dig (Nat.mod (Nat.div k 256) 16)) (s2 v k) n
noncomputable def s4 (v : Option α) (k : Nat) (n : N16 (N16 (N16 (N16 (Option α))))) : N16 (N16 (N16 (N16 (Option α)))) := N16.upd (dig (Nat.mod (Nat.div k 4096) 16)) (s3 v k) n
noncomputable def get0 (t : PT α) (k : Nat) : Option α := tell k (g2 t.lo) (g3 t.mid) (g4 t.hi) t.rest
/-- The number is reckoned first. -/
noncomputable def get (t : PT α) (k : Nat) : Option α := @Nat.rec (fun _ => Option α) (get0 t 0) (fun n _ => get0 t (Nat.succ n)) k
noncomputable def setR (r : Nat → Option α) (v : Option α) (k : Nat) : Nat → Option α := fun j => @Bool.rec (fun _ => Option α) (r j) v (Nat.beq j k)
noncomputable def set0 (t : PT α) (v : Option α) (k : Nat) : PT α :=
  @PT.rec α (fun _ => PT α) (fun lo mid hi rest => tell k (fun k => ⟨s2 v k lo, mid, hi, rest⟩) (fun k => ⟨lo, s3 v k mid, hi, rest⟩) (fun k => ⟨lo, mid, s4 v k hi, rest⟩) (fun k => ⟨lo, mid, hi, setR rest v k⟩)) t
noncomputable def set (t : PT α) (k : Nat) (v : Option α) : PT α := @Nat.rec (fun _ => PT α) (set0 t v 0) (fun n _ => set0 t v (Nat.succ n)) k
theorem get_eq (t : PT α) (k : Nat) : t.get k = get0 t k := by cases k <;> rfl
theorem set_eq (t : PT α) (k : Nat) (v : Option α) : t.set k v = set0 t v k := by cases k <;> rfl
theorem get_nil (k : Nat) : (nil : PT α).get k = none := by
  rw [get_eq, get0, tell_eq]
  simp only [g4, g3, g2, nil, N16.get_all, ite_self]
theorem g2_s2 (v : Option α) {k j : Nat} (hk : k < 256) (hj : j < 256) (n : N16 (N16 (Option α))) : g2 (s2 v k n) j = if j = k then v else g2 n j := by
  have ek : Nat.div k 16 % 16 = k / 16 := Nat.mod_eq_of_lt (by show k / 16 < 16; omega)
  have ej : Nat.div j 16 % 16 = j / 16 := Nat.mod_eq_of_lt (by show j / 16 < 16; omega)
  unfold g2 s2
  show N16.get (dig (j % 16)) (N16.get (dig (Nat.div j 16 % 16)) (N16.upd (dig (Nat.div k 16 % 16)) (N16.upd (dig (k % 16)) fun _ => v) n)) = if j = k then v else N16.get (dig (j % 16)) (N16.get (dig (Nat.div j 16 % 16)) n)
  rw [ek, ej]
  by_cases h1 : j / 16 = k / 16
  · rw [h1, N16.get_same]
    by_cases h2 : j % 16 = k % 16
    · rw [h2, N16.get_same, if_pos (by omega)]
    · rw [N16.get_ne (fun e => h2 (dig_eq (by omega) (by omega) e)), if_neg (by omega)]
  · rw [N16.get_ne (fun e => h1 (dig_eq (by omega) (by omega) e)), if_neg (fun e => h1 (by rw [e]))]
theorem low_g2 (n : N16 (N16 (Option α))) (k : Nat) : g2 n k = g2 n (k % 256) := by
  unfold g2
  show N16.get (dig (k % 16)) (N16.get (dig (k / 16 % 16)) n) = N16.get (dig (k % 256 % 16)) (N16.get (dig (k % 256 / 16 % 16)) n)
  rw [show k % 256 % 16 = k % 16 by omega, show k % 256 / 16 % 16 = k / 16 % 16 by omega]
theorem low_s2 (v : Option α) (k : Nat) : s2 v k = s2 v (k % 256) := by
  funext n
  unfold s2
  show N16.upd (dig (k / 16 % 16)) (N16.upd (dig (k % 16)) fun _ => v) n = N16.upd (dig (k % 256 / 16 % 16)) (N16.upd (dig (k % 256 % 16)) fun _ => v) n
  rw [show k % 256 % 16 = k % 16 by omega, show k % 256 / 16 % 16 = k / 16 % 16 by omega]
theorem g3_s3 (v : Option α) {k j : Nat} (hk : k < 4096) (hj : j < 4096) (n : N16 (N16 (N16 (Option α)))) : g3 (s3 v k n) j = if j = k then v else g3 n j := by
  have ek : Nat.div k 256 % 16 = k / 256 := Nat.mod_eq_of_lt (by show k / 256 < 16; omega)
  have ej : Nat.div j 256 % 16 = j / 256 := Nat.mod_eq_of_lt (by show j / 256 < 16; omega)
  unfold g3 s3
  show g2 (N16.get (dig (Nat.div j 256 % 16)) (N16.upd (dig (Nat.div k 256 % 16)) (s2 v k) n)) j = if j = k then v else g2 (N16.get (dig (Nat.div j 256 % 16)) n) j
  rw [ek, ej]
  by_cases h1 : j / 256 = k / 256
  · rw [h1, N16.get_same, low_s2, low_g2, g2_s2 v (by omega) (by omega)]
    by_cases h2 : j = k
    · rw [if_pos (by rw [h2]), if_pos h2]
    · rw [if_neg (by omega), if_neg h2, ← low_g2]
  · rw [N16.get_ne (fun e => h1 (dig_eq (by omega) (by omega) e)), if_neg (fun e => h1 (by rw [e]))]
theorem low_g3 (n : N16 (N16 (N16 (Option α)))) (k : Nat) : g3 n k = g3 n (k % 4096) := by
  unfold g3
  show g2 (N16.get (dig (k / 256 % 16)) n) k = g2 (N16.get (dig (k % 4096 / 256 % 16)) n) (k % 4096)
  rw [show k % 4096 / 256 % 16 = k / 256 % 16 by omega, low_g2, low_g2 _ (k % 4096), show k % 4096 % 256 = k % 256 by omega]
theorem low_s3 (v : Option α) (k : Nat) : s3 v k = s3 v (k % 4096) := by
  funext n
  unfold s3
  show N16.upd (dig (k / 256 % 16)) (s2 v k) n = N16.upd (dig (k % 4096 / 256 % 16)) (s2 v (k % 4096)) n
  rw [show k % 4096 / 256 % 16 = k / 256 % 16 by omega, low_s2, low_s2 _ (k % 4096), show k % 4096 % 256 = k % 256 by omega]
theorem g4_s4 (v : Option α) {k j : Nat} (hk : k < 65536) (hj : j < 65536) (n : N16 (N16 (N16 (N16 (Option α))))) : g4 (s4 v k n) j = if j = k then v else g4 n j := by
  have ek : Nat.div k 4096 % 16 = k / 4096 := Nat.mod_eq_of_lt (by show k / 4096 < 16; omega)
  have ej : Nat.div j 4096 % 16 = j / 4096 := Nat.mod_eq_of_lt (by show j / 4096 < 16; omega)
  unfold g4 s4
  show g3 (N16.get (dig (Nat.div j 4096 % 16)) (N16.upd (dig (Nat.div k 4096 % 16)) (s3 v k) n)) j = if j = k then v else g3 (N16.get (dig (Nat.div j 4096 % 16)) n) j
  rw [ek, ej]
  by_cases h1 : j / 4096 = k / 4096
  · rw [h1, N16.get_same, low_s3, low_g3, g3_s3 v (by omega) (by omega)]
    by_cases h2 : j = k
    · rw [if_pos (by rw [h2]), if_pos h2]
    · rw [if_neg (by omega), if_neg h2, ← low_g3]
  · rw [N16.get_ne (fun e => h1 (dig_eq (by omega) (by omega) e)), if_neg (fun e => h1 (by rw [e]))]
theorem get0_mk (lo : N16 (N16 (Option α))) (mid hi) (rest : Nat → Option α) (k : Nat) : get0 ⟨lo, mid, hi, rest⟩ k = if k < 256 then g2 lo k else if k < 4352 then g3 mid (k - 256) else if k < 69888 then g4 hi (k - 4352) else rest (k - 69888) := by
  rw [get0, tell_eq]
theorem set0_mk (lo : N16 (N16 (Option α))) (mid hi) (rest : Nat → Option α) (v : Option α) (k : Nat) : set0 ⟨lo, mid, hi, rest⟩ v k = tell k (fun k => ⟨s2 v k lo, mid, hi, rest⟩) (fun k => ⟨lo, s3 v k mid, hi, rest⟩) (fun k => ⟨lo, mid, s4 v k hi, rest⟩) (fun k => ⟨lo, mid, hi, setR rest v k⟩) := rfl
theorem set_mk (lo : N16 (N16 (Option α))) (mid hi) (rest : Nat → Option α) (v : Option α) (k : Nat) : set0 ⟨lo, mid, hi, rest⟩ v k = if k < 256 then ⟨s2 v k lo, mid, hi, rest⟩ else if k < 4352 then ⟨lo, s3 v (k - 256) mid, hi, rest⟩ else if k < 69888 then ⟨lo, mid, s4 v (k - 4352) hi, rest⟩ else ⟨lo, mid, hi, setR rest v (k - 69888)⟩ := by
  rw [set0_mk, tell_eq]
theorem setR_eq (r : Nat → Option α) (v : Option α) (k j : Nat) : setR r v k j = if j = k then v else r j := by
  unfold setR
  by_cases e : j = k
  · rw [if_pos e, e, show Nat.beq k k = true from Nat.beq_refl _]
  · rw [if_neg e, nbeq e]
theorem get_set (t : PT α) (k : Nat) (v : Option α) (j : Nat) : (t.set k v).get j = if j = k then v else t.get j := by
  rw [get_eq, get_eq, set_eq]
  obtain ⟨lo, mid, hi, rest⟩ := t
  rw [set_mk]
  have sub : ∀ {d : Nat}, d ≤ k → d ≤ j → (j - d = k - d ↔ j = k) := fun h1 h2 => by omega
  split
  · rw [get0_mk, get0_mk]
    split
    · exact g2_s2 v (by assumption) (by assumption) _
    · rw [if_neg (show ¬ j = k by omega)]
  split
  · rw [get0_mk, get0_mk]
    split
    · rw [if_neg (show ¬ j = k by omega)]
    split
    · rw [g3_s3 v (by omega) (by omega)]
      simp only [sub (d := 256) (by omega) (by omega)]
    · rw [if_neg (show ¬ j = k by omega)]
  split
  · rw [get0_mk, get0_mk]
    split
    · rw [if_neg (show ¬ j = k by omega)]
    split
    · rw [if_neg (show ¬ j = k by omega)]
    split
    · rw [g4_s4 v (by omega) (by omega)]
      simp only [sub (d := 4352) (by omega) (by omega)]
    · rw [if_neg (show ¬ j = k by omega)]
  rw [get0_mk, get0_mk]
  split
  · rw [if_neg (show ¬ j = k by omega)]
  split
  · rw [if_neg (show ¬ j = k by omega)]
  split
  · rw [if_neg (show ¬ j = k by omega)]
  rw [setR_eq]
  simp only [sub (d := 69888) (by omega) (by omega)]
/-- A row of values, from a place on. -/
noncomputable def fill (t : PT α) (i : Nat) (xs : List α) : PT α :=
  @List.rec α (fun _ => PT α → Nat → PT α) (fun t _ => t) (fun x _ ih t i => ih (t.set i (some x)) (Nat.succ i)) xs t i
theorem fill_nil (t : PT α) (i : Nat) : fill t i [] = t := rfl
theorem fill_cons (t : PT α) (i : Nat) (x : α) (xs : List α) : fill t i (x :: xs) = fill (t.set i (some x)) (i + 1) xs := rfl
theorem get_fill (xs : List α) : ∀ (t : PT α) (i j : Nat), (fill t i xs).get j = if i ≤ j ∧ j < i + xs.length then xs[j - i]? else t.get j := by
  induction xs with
  | nil => intro t i j; simp only [fill_nil, List.length_nil]; rw [if_neg (by omega)]
  | cons x xs ih =>
    intro t i j
    simp only [fill_cons, ih, List.length_cons, get_set]
    by_cases h : j = i
    · subst h; rw [if_neg (by omega), if_pos rfl, if_pos (by omega)]; simp
    · by_cases h2 : i + 1 ≤ j ∧ j < i + 1 + xs.length
      · rw [if_pos h2, if_pos (by omega)]
        obtain ⟨d, rfl⟩ : ∃ d, j = i + 1 + d := ⟨j - (i + 1), by omega⟩
        rw [show i + 1 + d - i = d + 1 by omega, show i + 1 + d - (i + 1) = d by omega]; simp
      · rw [if_neg h2, if_neg h, if_neg (by omega)]
/-- The values of so many places from one on, if all are there. -/
noncomputable def take (t : PT α) : Nat → Nat → Option (List α)
  | _, 0 => some []
  | i, n + 1 => match t.get i with
    | none => none
    | some x => match take t (i + 1) n with
      | none => none
      | some xs => some (x :: xs)
theorem take_some (t : PT α) (n : Nat) : ∀ (i : Nat) (xs : List α), t.take i n = some xs → xs.length = n ∧ ∀ j, j < n → t.get (i + j) = xs[j]? := by
  induction n with
  | zero => intro i xs h; simp only [take, Option.some.injEq] at h; subst h; exact ⟨rfl, fun j hj => by omega⟩
  | succ n ih =>
    intro i xs h
    simp only [take] at h
    cases hx : t.get i with
    | none => rw [hx] at h; exact absurd h (by simp)
    | some x =>
      rw [hx] at h
      cases hy : t.take (i + 1) n with
      | none => rw [hy] at h; exact absurd h (by simp)
      | some ys =>
        rw [hy] at h
        simp only [Option.some.injEq] at h
        subst h
        obtain ⟨h1, h2⟩ := ih _ _ hy
        refine ⟨by simp [h1], fun j hj => ?_⟩
        cases j with
        | zero => simpa using hx
        | succ j => have := h2 j (by omega); rw [show i + (j + 1) = i + 1 + j by omega, this]; simp
end PT

/-- Bytes as one number. -/
def enc : List UInt8 → Nat
  | [] => 0
  | b :: bs => b.toNat + 256 * enc bs
def dec : Nat → Nat → List UInt8
  | 0, _ => []
  | n + 1, x => UInt8.ofNat (x % 256) :: dec n (x / 256)
theorem dec_length (n : Nat) : ∀ x, (dec n x).length = n := by
  induction n with
  | zero => intro x; rfl
  | succ n ih => intro x; simp [dec, ih]
theorem enc_lt (bs : List UInt8) : enc bs < 256 ^ bs.length := by
  induction bs with
  | nil => simp [enc]
  | cons b bs ih =>
    have := b.toNat_lt
    simp only [enc, List.length_cons, Nat.pow_succ]
    omega
theorem dec_enc (bs : List UInt8) : dec bs.length (enc bs) = bs := by
  induction bs with
  | nil => rfl
  | cons b bs ih =>
    have := b.toNat_lt
    simp only [enc, List.length_cons, dec]
    rw [show (b.toNat + 256 * enc bs) % 256 = b.toNat by omega, show (b.toNat + 256 * enc bs) / 256 = enc bs by omega, ih]
    simp
theorem enc_dec (n : Nat) : ∀ x, x < 256 ^ n → enc (dec n x) = x := by
  induction n with
  | zero => intro x h; simp at h; subst h; rfl
  | succ n ih =>
    intro x h
    simp only [dec, enc]
    rw [ih (x / 256) (by rw [Nat.pow_succ] at h; omega)]
    have : (UInt8.ofNat (x % 256)).toNat = x % 256 := by simp
    rw [this]; omega
theorem dec_get (n : Nat) : ∀ x i, i < n → (dec n x)[i]? = some (UInt8.ofNat (x / 256 ^ i % 256)) := by
  induction n with
  | zero => intro x i h; omega
  | succ n ih =>
    intro x i h
    cases i with
    | zero => simp [dec]
    | succ i =>
      simp only [dec, List.getElem?_cons_succ]
      rw [ih _ _ (by omega), Nat.pow_succ, Nat.mul_comm, ← Nat.div_div_eq_div_mul]
theorem dec_drop (l : Nat) : ∀ n x, l ≤ n → (dec n x).drop l = dec (n - l) (x / 256 ^ l) := by
  induction l with
  | zero => intro n x h; simp
  | succ l ih =>
    intro n x h
    obtain ⟨n, rfl⟩ : ∃ m, n = m + 1 := ⟨n - 1, by omega⟩
    simp only [dec, List.drop_succ_cons]
    rw [ih _ _ (by omega), Nat.pow_succ, Nat.mul_comm, ← Nat.div_div_eq_div_mul, show n + 1 - (l + 1) = n - l by omega]
theorem dec_take (h : Nat) : ∀ n x, h ≤ n → (dec n x).take h = dec h x := by
  induction h with
  | zero => intro n x _; simp [dec]
  | succ h ih =>
    intro n x hn
    obtain ⟨n, rfl⟩ : ∃ m, n = m + 1 := ⟨n - 1, by omega⟩
    simp only [dec, List.take_succ_cons]
    rw [ih _ _ (by omega)]
theorem dec_mod (n : Nat) : ∀ x, dec n (x % 256 ^ n) = dec n x := by
  induction n with
  | zero => intro x; rfl
  | succ n ih =>
    intro x
    simp only [dec]
    have h1 : x % 256 ^ (n + 1) % 256 = x % 256 := by
      rw [Nat.pow_succ, Nat.mod_mul_left_mod]
    have h2 : x % 256 ^ (n + 1) / 256 = x / 256 % 256 ^ n := by
      rw [Nat.pow_succ, Nat.mul_comm, Nat.mod_mul_right_div_self]
    rw [h1, h2, ih]
theorem dec_append (n m : Nat) : ∀ x y, x < 256 ^ n → dec n x ++ dec m y = dec (n + m) (x + 256 ^ n * y) := by
  induction n with
  | zero => intro x y h; simp at h; subst h; simp [dec]
  | succ n ih =>
    intro x y h
    have e : n + 1 + m = (n + m) + 1 := by omega
    rw [e]
    simp only [dec, List.cons_append]
    rw [ih _ _ (by rw [Nat.pow_succ] at h; omega)]
    have e1 : (x + 256 ^ (n + 1) * y) % 256 = x % 256 := by
      rw [Nat.pow_succ, Nat.mul_comm (256 ^ n) 256, Nat.mul_assoc]; omega
    have e2 : (x + 256 ^ (n + 1) * y) / 256 = x / 256 + 256 ^ n * y := by
      rw [Nat.pow_succ, Nat.mul_comm (256 ^ n) 256, Nat.mul_assoc]; omega
    rw [e1, e2]
theorem dec_inj (n : Nat) {x y : Nat} (hx : x < 256 ^ n) (hy : y < 256 ^ n) (h : dec n x = dec n y) : x = y := by
  rw [← enc_dec n x hx, ← enc_dec n y hy, h]
abbrev strOf (n x : Nat) : ByteArray := ⟨⟨dec n x⟩⟩

/-- The machine's values: addresses are its own. -/
inductive AV where
  | bool (b : Bool)
  | int (k : IntKind) (n : Int)
  | str (n x : Nat)
  | nilptr
  | ptr (b off : Nat)
  | nilslice
  | slice (b off len cap e : Nat)
  | nilmap
  | map (b : Nat)
  | func (fn : Fn) (first captured : List AV)
  | nilFunc
  | iface (t : TypeId) (v : AV)
  | nilIface
  | agg (l : List AV)
  | tuple (l : List AV)
  | hollow (b : Nat)
deriving Inhabited
namespace AV
def cells : AV → List AV
  | .agg l => l
  | v => [v]
abbrev undef : AV := .tuple []
mutual
/-- The value of a constant. -/
def of : Value → Option AV
  | .bool b => some (.bool b)
  | .int k n => some (.int k n)
  | .string s => some (.str s.data.toList.length (enc s.data.toList))
  | .pointer none => some .nilptr
  | .slice none n m => bif Nat.beq n 0 && Nat.beq m 0 then some .nilslice else none
  | .map none => some .nilmap
  | .nilFunc => some .nilFunc
  | .nilIface => some .nilIface
  | .agg ⟨l⟩ => match ofL l with
    | some l => some (.agg l)
    | none => none
  | .tuple ⟨l⟩ => match ofL l with
    | some l => some (.tuple l)
    | none => none
  | _ => none
def ofL : List Value → Option (List AV)
  | [] => some []
  | v :: vs => match of v with
    | none => none
    | some a => match ofL vs with
      | none => none
      | some as => some (a :: as)
end
end AV
/-- Where a block of the machine's stands, how many cells there are in all. -/
structure BI where
  blk : Nat
  tot : Nat
abbrev Tie := Nat → Option BI
def relFn (Γ : Tie) : Fn → Fn → Prop
  | .yield l, f => ∃ i, Γ l = some i ∧ f = .yield i.blk
  | f, f' => f' = f
mutual
def rel (Γ : Tie) : AV → Value → Prop
  | .bool b, v => v = .bool b
  | .int k n, v => v = .int k n
  | .str n x, v => v = .string (strOf n x) ∧ x < 256 ^ n
  | .nilptr, v => v = .pointer none
  | .ptr b off, v => ∃ i, Γ b = some i ∧ v = .pointer (some ⟨i.blk, off, none⟩)
  | .nilslice, v => v = .slice none 0 0
  | .slice b off len cap e, v => ∃ i c, Γ b = some i ∧ v = .slice (some ⟨i.blk, off, none⟩) len c ∧ (e ≠ 0 → cap ≤ c ∧ off + c * e ≤ i.tot) ∧ (e = 0 → c = cap)
  | .nilmap, v => v = .map none
  | .map b, v => ∃ i, Γ b = some i ∧ v = .map (some i.blk)
  | .func fn f c, v => ∃ fn' f' c', v = .func fn' ⟨f'⟩ ⟨c'⟩ ∧ relFn Γ fn fn' ∧ relL Γ f f' ∧ relL Γ c c'
  | .nilFunc, v => v = .nilFunc
  | .iface t a, v => ∃ x, v = .iface t x ∧ rel Γ a x
  | .nilIface, v => v = .nilIface
  | .agg l, v => ∃ l', v = .agg ⟨l'⟩ ∧ relL Γ l l'
  | .tuple l, v => ∃ l', v = .tuple ⟨l'⟩ ∧ relL Γ l l'
  | .hollow b, v => ∃ i o c, Γ b = some i ∧ v = .slice (some ⟨i.blk, o, none⟩) 0 c
def relL (Γ : Tie) : List AV → List Value → Prop
  | [], l => l = []
  | a :: as, l => ∃ v vs, l = v :: vs ∧ rel Γ a v ∧ relL Γ as vs
end
/-- The machine's blocks. -/
inductive AObj where
  | cells (n : Nat) (t : PT AV) (elem : TypeId) (opn fz : Bool)
  | map (es : List (AV × AV × Nat)) (clock : Nat)
  | mapIter (m : Nat) (since : Nat) (seen : List Nat) (stepped : Nat)
  | nilIter
  | strIter (n x pos : Nat)
  | loop (st : LoopState) (pending : Option Code) (tm : PT AV) (size : Nat) (params : Array Tmp) (assign body : Code) (defers : Nat)
  | deferred (open_ : Bool)
/-- What may be read and not written. -/
def AObj.ro : AObj → Bool
  | .cells _ _ _ _ fz => fz
  | _ => false
def relE (Γ : Tie) : List (AV × AV × Nat) → List MapEntry → Prop
  | [], l => l = []
  | (k, v, b) :: es, l => ∃ e l', l = e :: l' ∧ rel Γ k e.key ∧ rel Γ v e.val ∧ e.born = b ∧ relE Γ es l'
def relT (Γ : Tie) (tm : PT AV) (size : Nat) (tmps : Array Value) : Prop :=
  tmps.size = size ∧ ∀ t a, tm.get t = some a → ∃ v, tmps[t]? = some v ∧ rel Γ a v
def relO (Γ : Tie) (i : BI) : AObj → Obj → Prop
  | .cells n t elem opn fz, o => ∃ c lo hi, o = .cells c elem (lo, hi) ∧ c.size = i.tot ∧ n ≤ c.size ∧ (opn = false → c.size = n) ∧
      (∀ j a, j < n → t.get j = some a → ∃ v, c[j]? = some v ∧ rel Γ a v) ∧ (fz = false → ∀ off, off < c.size → ¬ (lo ≤ off ∧ off < hi))
  | .map es clock, o => ∃ es', o = .map es' clock ∧ relE Γ es es'.toList
  | .mapIter m since seen stepped, o => ∃ j, Γ m = some j ∧ o = .mapIter (some j.blk) since ⟨seen⟩ stepped
  | .nilIter, o => ∃ a b c, o = .mapIter none a b c
  | .strIter n x pos, o => o = .stringIter (strOf n x) pos ∧ x < 256 ^ n
  | .loop st pending tm size params assign body defers, o => ∃ fn tmps j, Γ defers = some j ∧ o = .loop { state := st, pending, fn, tmps, params, assign, body, defers := j.blk } ∧ relT Γ tm size tmps
  | .deferred b, o => o = .deferred (if b then some [] else none)
