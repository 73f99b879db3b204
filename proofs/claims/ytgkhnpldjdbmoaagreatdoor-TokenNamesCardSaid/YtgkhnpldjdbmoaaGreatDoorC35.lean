/- token.Like over tokens as they may come in; what Join tells, as the tokens' texts. -/
import Derived.Test.YtgkhnpldjdbmoaaGreatDoorC34
set_option linter.unusedVariables false
set_option linter.unusedSimpArgs false
namespace Go.Proofs.YtgkhnpldjdbmoaaGreatDoor
open Go.RowKit

def RT.T (t : RT) : Go.Proofs.YtgkhnpldjdbmoaaGreatDoor.T := ⟨t.k.toNat, t.n, t.s.data.toList⟩
theorem ok_range {t : RT} (h : t.ok) : 0 ≤ t.k ∧ t.k ≤ 9 := by
  have h1 := h.1
  unfold RT.txt textT at h1
  split at h1
  · simp at h1
  · omega
theorem txt_T {t : RT} (h : 0 ≤ t.k) : textT (t.T.kind : Int) t.T.n t.T.s = t.txt := by
  unfold RT.T RT.txt
  simp only
  rw [Int.toNat_of_nonneg h]
theorem jfold_join : ∀ (ts : List RT), (∀ t ∈ ts, t.ok) → ∀ p : Bool × Bytes, (ts.foldl jstep p).2 = p.2 ++ joinT p.1 (ts.map RT.T) := by
  intro ts
  induction ts with
  | nil => intro _ p; simp [joinT]
  | cons t ts ih =>
    intro h p
    have ht := ok_range (h t (by simp))
    rw [List.foldl_cons, ih (fun u hu => h u (by simp [hu])), List.map_cons]
    simp only [joinT]
    rw [txt_T ht.1]
    unfold jstep
    by_cases hx : t.txt.1 = []
    · rw [if_pos hx, if_pos hx]
    · rw [if_neg hx, if_neg hx]
      have hk : (t.T.kind == 3) = (t.k == 3) := by
        unfold RT.T; simp only
        rw [Bool.eq_iff_iff]; simp only [beq_iff_eq]; omega
      rw [hk]; simp [List.append_assoc]
theorem jfold_len : ∀ ts : List RT, Small ts.length (jfold ts).2.length := by
  have key : ∀ (ts : List RT) (k : Nat), k ≤ ts.length → Small k (jfold (ts.take k)).2.length := by
    intro ts k
    induction k with
    | zero => intro _; exact Small.zero
    | succ k ih =>
      intro hk
      rw [jfold_succ ts k (by omega)]
      refine (ih (by omega)).next ?_
      have h1 := text_len ts[k].k ts[k].n ts[k].s.data.toList
      have h2 := glue_len (jfold (ts.take k)).1 ts[k].txt.1
      unfold jstep
      split
      · omega
      · simp only [List.length_append]
        unfold RT.txt at *
        omega
  intro ts
  have := key ts ts.length (Nat.le_refl _)
  rwa [List.take_length] at this
/-- What is read of what Join tells. -/
theorem all_jfold (ts : List RT) (hok : ∀ t ∈ ts, t.ok) (h0 : ∀ t ∈ ts, t.k ≠ 0) : ∃ ms, all (jfold ts).2 = (ms, (jfold ts).2.length, 0) ∧ ms.map (·.t) = ts.map RT.T := by
  have hj : (jfold ts).2 = joinT false (ts.map RT.T) := by
    have := jfold_join ts hok (false, [])
    simpa [jfold] using this
  have hP : Puts (ts.map RT.T) := fun u hu => by
    obtain ⟨t, ht, rfl⟩ := List.mem_map.1 hu
    have hr := ok_range (hok t ht)
    refine ⟨by rw [txt_T hr.1]; exact (hok t ht).1, ?_⟩
    have := h0 t ht
    show t.k.toNat ≠ 0
    omega
  obtain ⟨h1, h2, h3⟩ := all_join _ hP
  rw [← hj] at h1 h2 h3
  exact ⟨_, Prod.ext rfl (Prod.ext h1 h2), h3⟩

/-! ### cells -/
def rtCells : List RT → List Value
  | [] => []
  | t :: ts => .int .i64 t.k :: .int .i64 t.n :: .string t.s :: .int .i64 t.f :: .int .i64 t.t :: rtCells ts
theorem rtCells_append (a b : List RT) : rtCells (a ++ b) = rtCells a ++ rtCells b := by
  induction a with
  | nil => rfl
  | cons t a ih => simp [rtCells, ih]
theorem rtCells_at : ∀ (ts : List RT) (i : Nat) (h : i < ts.length), (rtCells ts)[i * 5]? = some (.int .i64 ts[i].k) ∧ (rtCells ts)[i * 5 + 1]? = some (.int .i64 ts[i].n) ∧ (rtCells ts)[i * 5 + 2]? = some (.string ts[i].s) ∧ (rtCells ts)[i * 5 + 3]? = some (.int .i64 ts[i].f) ∧ (rtCells ts)[i * 5 + 4]? = some (.int .i64 ts[i].t) := by
  intro ts
  induction ts with
  | nil => intro i h; simp at h
  | cons t ts ih =>
    intro i h
    cases i with
    | zero => exact ⟨rfl, rfl, rfl, rfl, rfl⟩
    | succ i =>
      have := ih i (by simpa using h)
      rw [show (i + 1) * 5 = i * 5 + 5 by omega]
      exact this
theorem holdsR_of {w : World} {g : Nat} {ts : List RT} (h : ∀ j, j < ts.length * 5 → w.cell? ⟨g, j, none⟩ = (rtCells ts)[j]?) : HoldsR w g ts := fun i hi => by
  obtain ⟨h0, h1, h2, h3, h4⟩ := rtCells_at ts i hi
  exact ⟨(h _ (by omega)).trans h0, (h _ (by omega)).trans h1, (h _ (by omega)).trans h2, (h _ (by omega)).trans h3, (h _ (by omega)).trans h4⟩
/-- Where there are tokens, the slice lies in a block that holds them. -/
def HoldsRIf (w : World) (ao : Option Addr) (ts : List RT) : Prop := 0 < ts.length → ∃ g, ao = some ⟨g, 0, none⟩ ∧ HoldsR w g ts
theorem HoldsRIf.below {w w1 : World} {ao : Option Addr} {ts : List RT} (h : HoldsRIf w ao ts) (hb : Below w.heap.size w w1) : HoldsRIf w1 ao ts := fun h0 => by
  obtain ⟨g, h1, h2⟩ := h h0
  exact ⟨g, h1, h2.below hb⟩

set_option maxRecDepth 100000 in
set_option maxHeartbeats 4000000 in
theorem like_R (ts : List RT) (us : List Tok) (hk : ∀ t ∈ ts, 0 ≤ t.k) (ht : us.map (·.t) = ts.map RT.T) (a1 a2 : Option Addr) (c1 c2 : Nat) (w : World) (hn : ts.length ≤ 4000000000) (h1 : HoldsRIf w a1 ts) (h2 : HoldsIf w a2 us) :
    Calls Tryz.prog 27 #[.slice a1 ts.length c1, .slice a2 us.length c2] w fun e w' => e = .returned (.bool true) ∧ Below w.heap.size w w' := by
  have hlen : us.length = ts.length := by have := congrArg List.length ht; simpa using this
  by_cases h0 : 0 < ts.length
  · obtain ⟨g1, rfl, k1⟩ := h1 h0
    obtain ⟨g2, rfl, k2⟩ := h2 (by omega)
    have hT := Lib.hid ht; clear ht
    have HH1 := Lib.hid k1; have HH2 := Lib.hid k2; clear k1 k2 h1 h2
    have HK := Lib.hid hk; clear hk
    have hl2 : us.length ≤ 4000000000 := by omega
    rw [hlen]
    have HLEN := Lib.hid hlen; clear hlen
    go_enter Tryz.func27, Tryz.ntmps27
    go_wp2
    go_loopw [15] (fun a wr => ∃ k : Nat, k ≤ ts.length ∧ a = .int .i64 k ∧ Below w.heap.size w wr) (fun a _ => ts.length - (intOf a).toNat)
    case atStart => exact ⟨0, by omega, rfl, Below.refl _ _⟩
    case round =>
      obtain ⟨k, hk, rfl, hb⟩ := hrel
      by_cases hlt : k < ts.length
      · have hlt2 : k < us.length := by have := HLEN.out; omega
        have heq : us[k].t = ts[k].T := by
          have h3 : (us.map (·.t))[k]? = (ts.map RT.T)[k]? := by rw [hT.out]
          simpa [hlt, hlt2] using h3
        obtain ⟨a0, a1, a2, a3, a4⟩ := HH1.out.below hb k hlt
        obtain ⟨b0, b1, b2, b3, b4⟩ := HH2.out.below hb k hlt2
        have hkk := HK.out ts[k] (List.getElem_mem _)
        have hk2 : ((us[k].t.kind : Nat) : Int) = ts[k].k := by rw [heq]; exact Int.toNat_of_nonneg hkk
        have hn2 : us[k].t.n = ts[k].n := by rw [heq]; rfl
        have hs2 : bs us[k].t.s = ts[k].s := by rw [heq]; exact list_bs _
        rw [hk2] at b0; rw [hn2] at b1; rw [hs2] at b2
        clear heq hk2 hn2 hs2 hkk
        have g1 : decide ((k : Int) < 0) = false := by simp
        have g2 : decide (ts.length ≤ k) = false := by simp; omega
        have g3 : decide ((ts.length : Int) ≤ (k : Int)) = false := by simp; omega
        have g4 : decide ((k : Int) < (ts.length : Int)) = true := by simp; omega
        have hl1 := World.block_lt_of_cell? _ _ a0
        have hl2 := World.block_lt_of_cell? _ _ b0
        have s1 : IntKind.i64.wrap ((k : Int) + 1) = (k : Int) + 1 := IntWalk.i64_in _ (by omega)
        generalize ts[k].k = x0 at *
        generalize ts[k].n = x1 at *
        generalize ts[k].s = x2 at *
        generalize ts[k].f = x3 at *
        generalize ts[k].t = x4 at *
        generalize us[k].from_ = y3 at *
        generalize us[k].to = y4 at *
        go_wp2
        go_roundw
        case rel => exact ⟨k + 1, by omega, by go_num, (hb.alloc hb.size _).alloc (by have := hb.size; simp; omega) _⟩
        case measure => simp [intOf]; omega
      · have g4 : decide ((k : Int) < (ts.length : Int)) = false := by simp; omega
        go_wp2
        go_ret
        exact ⟨rfl, hb⟩
  · obtain rfl : ts = [] := List.eq_nil_of_length_eq_zero (by omega)
    obtain rfl : us = [] := List.eq_nil_of_length_eq_zero hlen
    exact like_none a1 a2 c1 c2 w
end Go.Proofs.YtgkhnpldjdbmoaaGreatDoor
