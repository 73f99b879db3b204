/- Slices that hold tokens; token.All and token.Like over them. -/
import Derived.Test.YtgkhnpldjdbmoaaGreatDoorLiv
import Derived.Test.YtgkhnpldjdbmoaaGreatDoorLexBlanks
set_option linter.unusedVariables false
set_option linter.unusedSimpArgs false
namespace Go.Proofs.YtgkhnpldjdbmoaaGreatDoor
open Go.RowKit

theorem tokCells_at : ∀ (ts : List Tok) (i : Nat) (h : i < ts.length), (tokCells ts)[i * 5]? = some (.int .i64 (ts[i].t.kind : Int)) ∧ (tokCells ts)[i * 5 + 1]? = some (.int .i64 ts[i].t.n) ∧ (tokCells ts)[i * 5 + 2]? = some (.string (bs ts[i].t.s)) ∧ (tokCells ts)[i * 5 + 3]? = some (.int .i64 (ts[i].from_ : Int)) ∧ (tokCells ts)[i * 5 + 4]? = some (.int .i64 (ts[i].to : Int)) := by
  intro ts
  induction ts with
  | nil => intro i h; simp at h
  | cons t ts ih =>
    intro i h
    cases i with
    | zero => exact ⟨rfl, rfl, rfl, rfl, rfl⟩
    | succ i =>
      have := ih i (by simpa using h)
      rw [show (i + 1) * 5 = i * 5 + 5 by omega]
      exact this

/-- The slice at block g holds these tokens. -/
def Holds (w : World) (g : Nat) (ts : List Tok) : Prop := ∀ i (h : i < ts.length), w.cell? ⟨g, i * 5, none⟩ = some (.int .i64 (ts[i].t.kind : Int)) ∧ w.cell? ⟨g, i * 5 + 1, none⟩ = some (.int .i64 ts[i].t.n) ∧ w.cell? ⟨g, i * 5 + 2, none⟩ = some (.string (bs ts[i].t.s)) ∧ w.cell? ⟨g, i * 5 + 3, none⟩ = some (.int .i64 (ts[i].from_ : Int)) ∧ w.cell? ⟨g, i * 5 + 4, none⟩ = some (.int .i64 (ts[i].to : Int))
theorem holds_of {w : World} {g : Nat} {ts : List Tok} (h : ∀ j, j < ts.length * 5 → w.cell? ⟨g, j, none⟩ = (tokCells ts)[j]?) : Holds w g ts := fun i hi => by
  obtain ⟨h0, h1, h2, h3, h4⟩ := tokCells_at ts i hi
  exact ⟨(h _ (by omega)).trans h0, (h _ (by omega)).trans h1, (h _ (by omega)).trans h2, (h _ (by omega)).trans h3, (h _ (by omega)).trans h4⟩
theorem Holds.below {w w1 : World} {g : Nat} {ts : List Tok} (h : Holds w g ts) (hb : Below w.heap.size w w1) : Holds w1 g ts := fun i hi => by
  obtain ⟨h0, h1, h2, h3, h4⟩ := h i hi
  exact ⟨cell_below hb h0, cell_below hb h1, cell_below hb h2, cell_below hb h3, cell_below hb h4⟩
theorem Holds.take {w : World} {g : Nat} {ts : List Tok} (h : Holds w g ts) (n : Nat) : Holds w g (ts.take n) := fun i hi => by
  have h2 : i < ts.length := by rw [List.length_take] at hi; omega
  have := h i h2
  rw [List.getElem_take]; exact this

theorem all_is (s : ByteArray) (ts : List Tok) (a e0 : Nat) (hs : s.size ≤ 4000000000) (h : all s.data.toList = (ts, a, e0)) (h0 : 0 < ts.length) (w : World) (he : Env w) :
    Calls Tryz.prog 23 #[.string s] w fun e w' => ∃ g cap, e = .returned (.tuple #[.slice (some ⟨g, 0, none⟩) ts.length cap, .int .i64 a, .int .i64 e0]) ∧ Holds w' g ts ∧ g < w'.heap.size ∧ ts.length ≤ cap ∧ cap ≤ maxLen ∧ Below w.heap.size w w' :=
  (all_any s w hs he).mono fun e w' hh => by
    obtain ⟨v, rfl, hown, hb⟩ := hh
    rw [h] at hown
    obtain ⟨g, cap, rfl, hc, _, hlt, hcap, hm⟩ := row_some hown h0
    exact ⟨g, cap, by rw [h], holds_of hc, hlt, hcap, hm, hb⟩
theorem all_none (s : ByteArray) (a e0 : Nat) (hs : s.size ≤ 4000000000) (h : all s.data.toList = ([], a, e0)) (w : World) (he : Env w) :
    Calls Tryz.prog 23 #[.string s] w fun e w' => ∃ ao cap, e = .returned (.tuple #[.slice ao 0 cap, .int .i64 a, .int .i64 e0]) ∧ Below w.heap.size w w' :=
  (all_any s w hs he).mono fun e w' hh => by
    obtain ⟨v, rfl, hown, hb⟩ := hh
    rw [h] at hown
    obtain ⟨ao, cap, rfl⟩ := row_shape hown
    exact ⟨ao, cap, by rw [h]; rfl, hb⟩
theorem toks_to {l : Bytes} {p a e : Nat} {ts : List Tok} (h : Toks l p ts a e) (hp : p ≤ l.length) : ∀ (i : Nat) (hi : i < ts.length), ts[i].from_ ≤ l.length ∧ ts[i].to ≤ l.length ∧ ts[i].from_ < ts[i].to := by
  induction h with
  | bad _ _ => intro i hi; simp at hi
  | done _ _ => intro i hi; simp at hi
  | @more p t ts a e h hk hr ih =>
    obtain ⟨h1, h2, h3, _⟩ := nextAt_ok h hp hk
    intro i hi
    cases i with
    | zero => exact ⟨by simp; omega, by simpa using h3, by simpa using h2⟩
    | succ i => exact ih h3 i (by simpa using hi)

theorem toks_len {l : Bytes} {p a e : Nat} {ts : List Tok} (h : Toks l p ts a e) (hp : p ≤ l.length) : ts.length + p ≤ l.length := by
  induction h with
  | bad _ _ => simpa using hp
  | done _ _ => simpa using hp
  | @more p t ts a e h hk hr ih =>
    obtain ⟨h1, h2, h3, _⟩ := nextAt_ok h hp hk
    have := ih h3
    simp; omega

set_option maxRecDepth 100000 in
set_option maxHeartbeats 2000000 in
theorem like_none (a1 a2 : Option Addr) (c1 c2 : Nat) (w : World) :
    Calls Tryz.prog 27 #[.slice a1 0 c1, .slice a2 0 c2] w fun e w' => e = .returned (.bool true) ∧ Below w.heap.size w w' := by
  go_enter Tryz.func27, Tryz.ntmps27
  go_wp2
  go_loopw [15] (fun a wr => a = .int .i64 0 ∧ Below w.heap.size w wr) (fun a _ => (intOf a).toNat)
  case atStart => exact ⟨rfl, by (repeat' (first | (with_reducible exact Below.refl _ _) | (with_reducible assumption) | (with_reducible refine Below.alloc ?_ ?_ _) | (with_reducible refine below_drewN ?_ _) | (with_reducible refine Below.drew ?_) | (with_reducible refine Below.setCell ?_ ?_ _) | (with_reducible refine below_trans ?_ (by assumption)) | (with_reducible exact Nat.le_refl _) | (with_reducible exact Below.size (by assumption)) | omega | (simp; omega) | (simp; done)))⟩
  case round =>
    obtain ⟨rfl, hb⟩ := hrel
    go_wp2
    go_ret
    exact ⟨rfl, hb⟩

set_option maxRecDepth 100000 in
set_option maxHeartbeats 4000000 in
theorem like_any (ts us : List Tok) (ht : us.map (·.t) = ts.map (·.t)) (g1 g2 c1 c2 : Nat) (w : World) (hn : ts.length ≤ 4000000000) (h1 : Holds w g1 ts) (h2 : Holds w g2 us) :
    Calls Tryz.prog 27 #[.slice (some ⟨g1, 0, none⟩) ts.length c1, .slice (some ⟨g2, 0, none⟩) ts.length c2] w fun e w' => e = .returned (.bool true) ∧ Below w.heap.size w w' := by
  have hlen : us.length = ts.length := by have := congrArg List.length ht; simpa using this
  have hT := Lib.hid ht; clear ht
  have HH1 := Lib.hid h1; have HH2 := Lib.hid h2; clear h1 h2
  have HLEN := Lib.hid hlen; clear hlen
  go_enter Tryz.func27, Tryz.ntmps27
  go_wp2
  go_loopw [15] (fun a wr => ∃ k : Nat, k ≤ ts.length ∧ a = .int .i64 k ∧ Below w.heap.size w wr) (fun a _ => ts.length - (intOf a).toNat)
  case atStart => exact ⟨0, by omega, rfl, Below.refl _ _⟩
  case round =>
    obtain ⟨k, hk, rfl, hb⟩ := hrel
    by_cases hlt : k < ts.length
    · have hlt2 : k < us.length := by have := HLEN.out; omega
      have heq : us[k].t = ts[k].t := by
        have h3 : (us.map (·.t))[k]? = (ts.map (·.t))[k]? := by rw [hT.out]
        simpa [hlt, hlt2] using h3
      obtain ⟨a0, a1, a2, a3, a4⟩ := HH1.out.below hb k hlt
      obtain ⟨b0, b1, b2, b3, b4⟩ := HH2.out.below hb k hlt2
      rw [heq] at b0 b1 b2
      clear heq
      have g1 : decide ((k : Int) < 0) = false := by simp
      have g2 : decide (ts.length ≤ k) = false := by simp; omega
      have g3 : decide ((ts.length : Int) ≤ (k : Int)) = false := by simp; omega
      have g4 : decide ((k : Int) < (ts.length : Int)) = true := by simp; omega
      have hl1 := World.block_lt_of_cell? _ _ a0
      have hl2 := World.block_lt_of_cell? _ _ b0
      have s1 : IntKind.i64.wrap ((k : Int) + 1) = (k : Int) + 1 := IntWalk.i64_in _ (by omega)
      generalize ts[k].t.kind = x0 at *
      generalize ts[k].t.n = x1 at *
      generalize ts[k].t.s = x2 at *
      generalize ts[k].from_ = x3 at *
      generalize ts[k].to = x4 at *
      generalize us[k].from_ = y3 at *
      generalize us[k].to = y4 at *
      go_wp2
      go_roundw
      case rel => exact ⟨k + 1, by omega, by go_num, (hb.alloc hb.size _).alloc (by have := hb.size; simp; omega) _⟩
      case measure => simp [intOf]; omega
    · have g4 : decide ((k : Int) < (ts.length : Int)) = false := by simp; omega
      go_wp2
      go_ret
      exact ⟨rfl, hb⟩
/-- Where there are tokens, the slice lies in a block that holds them. -/
def HoldsIf (w : World) (ao : Option Addr) (ts : List Tok) : Prop := 0 < ts.length → ∃ g, ao = some ⟨g, 0, none⟩ ∧ Holds w g ts
theorem HoldsIf.below {w w1 : World} {ao : Option Addr} {ts : List Tok} (h : HoldsIf w ao ts) (hb : Below w.heap.size w w1) : HoldsIf w1 ao ts := fun h0 => by
  obtain ⟨g, h1, h2⟩ := h h0
  exact ⟨g, h1, h2.below hb⟩
theorem all_gen (s : ByteArray) (ts : List Tok) (a e0 : Nat) (hs : s.size ≤ 4000000000) (h : all s.data.toList = (ts, a, e0)) (w : World) (he : Env w) :
    Calls Tryz.prog 23 #[.string s] w fun e w' => ∃ ao cap, e = .returned (.tuple #[.slice ao ts.length cap, .int .i64 a, .int .i64 e0]) ∧ HoldsIf w' ao ts ∧ Below w.heap.size w w' := by
  by_cases h0 : 0 < ts.length
  · exact (all_is s ts a e0 hs h h0 w he).mono fun e w' h => by
      obtain ⟨g, cap, rfl, h1, h2, h3, _, h4⟩ := h
      exact ⟨_, cap, rfl, fun _ => ⟨g, rfl, h1⟩, h4⟩
  · obtain rfl : ts = [] := List.eq_nil_of_length_eq_zero (by omega)
    exact (all_none s a e0 hs h w he).mono fun e w' h => by
      obtain ⟨ao, cap, rfl, h4⟩ := h
      exact ⟨ao, cap, rfl, fun h => by simp at h, h4⟩
theorem like_gen (ts us : List Tok) (ht : us.map (·.t) = ts.map (·.t)) (a1 a2 : Option Addr) (c1 c2 : Nat) (w : World) (hn : ts.length ≤ 4000000000) (h1 : HoldsIf w a1 ts) (h2 : HoldsIf w a2 us) :
    Calls Tryz.prog 27 #[.slice a1 ts.length c1, .slice a2 ts.length c2] w fun e w' => e = .returned (.bool true) ∧ Below w.heap.size w w' := by
  have hlen : us.length = ts.length := by have := congrArg List.length ht; simpa using this
  by_cases h0 : 0 < ts.length
  · obtain ⟨g1, rfl, k1⟩ := h1 h0
    obtain ⟨g2, rfl, k2⟩ := h2 (by omega)
    exact like_any ts us ht g1 g2 c1 c2 w hn k1 k2
  · obtain rfl : ts = [] := List.eq_nil_of_length_eq_zero (by omega)
    exact like_none a1 a2 c1 c2 w
end Go.Proofs.YtgkhnpldjdbmoaaGreatDoor
