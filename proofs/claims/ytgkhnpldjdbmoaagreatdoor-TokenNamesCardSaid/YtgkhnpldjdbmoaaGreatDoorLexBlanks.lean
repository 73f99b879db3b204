/- Plain laws of the tokens: gaps between tokens turn no more than places. -/
import Derived.Test.YtgkhnpldjdbmoaaGreatDoorLexCuts
set_option linter.unusedVariables false
set_option linter.unusedSimpArgs false
namespace Go.Proofs.YtgkhnpldjdbmoaaGreatDoor

/-- What ends a row of regular bytes: nothing, or a byte that is none. -/
def halts (y : Bytes) : Bool := match y with | [] => true | c :: _ => !isReg c

theorem takeWhile_append_halts {x y : Bytes} (hy : halts y = true) (hx : x.all isReg = true) : (x ++ y).takeWhile isReg = x := by
  induction x with
  | nil => cases y <;> simp_all [halts, List.takeWhile_cons]
  | cons c x ih => simp only [List.all_cons, Bool.and_eq_true] at hx; simp [List.takeWhile_cons, hx.1, ih hx.2]

theorem eol_append {x y : Bytes} (h : eol x < x.length) : eol (x ++ y) = eol x := by
  have := eol_take (l := x ++ y) (m := x.length)
  simp only [List.take_left'] at this
  match x with
  | [] => simp at h
  | [c] =>
    simp only [eol, List.length_singleton] at h
    split at h
    · omega
    · rename_i hc
      have hc1 : ¬ (c == 10 || c == 13) = true := hc
      simp only [Bool.or_eq_true, beq_iff_eq, not_or] at hc1
      cases y with
      | nil => simp
      | cons d y => simp [eol, hc1.1, hc1.2]
  | c :: d :: r => simp [eol]
theorem octN_append : ∀ (k n : Nat) (x y : Bytes), (octN k n x).2 < x.length → octN k n (x ++ y) = octN k n x := by
  intro k
  induction k with
  | zero => intro n x y h; simp [octN]
  | succ k ih =>
    intro n x y h
    cases x with
    | nil => simp at h
    | cons c x =>
      simp only [octN, List.cons_append] at *
      split at h
      · rename_i hc; rw [if_pos hc, if_pos hc, ih _ _ y (by simpa using h)]
      · rename_i hc; rw [if_neg hc, if_neg hc]
theorem escaped_append {x y : Bytes} (h : (escaped x).2 < x.length) : escaped (x ++ y) = escaped x := by
  unfold escaped at *
  by_cases h0 : 0 < eol x
  · rw [if_pos h0] at h
    rw [eol_append h, if_pos h0, if_pos h0]
  · rw [if_neg h0] at h
    cases x with
    | nil => simp at h
    | cons c x =>
      rw [eol_append (by simp; omega), if_neg h0, if_neg h0]
      simp only [List.cons_append] at *
      by_cases ho : isOctal c = true
      · rw [if_pos ho] at h
        have := octN_append 3 0 (c :: x) y h
        simp only [List.cons_append] at this
        rw [if_pos ho, if_pos ho, this]
      · rw [if_neg ho, if_neg ho]

theorem litGo_append : ∀ (k o : Nat) (out x v : Bytes) (u : Nat) (y : Bytes), litGo k o out x = .ok v u → ∀ k', u ≤ k' → litGo k' o out (x ++ y) = .ok v u := by
  intro k
  induction k with
  | zero => intro o out x v u y h; simp [litGo] at h
  | succ k ih =>
    intro o out x v u y h k' hk
    cases x with
    | nil => simp [litGo] at h
    | cons c l =>
      have hu := litGo_le _ _ _ _ _ _ h
      obtain ⟨k', rfl⟩ : ∃ j, k' = j + 1 := ⟨k' - 1, by omega⟩
      simp only [litGo, List.cons_append] at *
      split at h
      · rename_i hc
        rw [if_pos hc]
        split at h
        · simp at h
        · rename_i hne
          obtain ⟨u', h', rfl⟩ := Res.more_ok h
          have hu' := litGo_le _ _ _ _ _ _ h'
          simp only [List.length_drop] at hu'
          have he : (escaped l).2 < l.length := by omega
          rw [escaped_append he, if_neg (by cases l <;> simp_all), List.drop_append_of_le_length (by omega)]
          exact Res.more_of (ih _ _ _ _ _ y h' k' (by omega))
      · rename_i hc
        rw [if_neg hc]
        split at h
        · rename_i he
          rw [if_pos he]
          obtain ⟨u', h', rfl⟩ := Res.more_ok h
          have hu' := litGo_le _ _ _ _ _ _ h'
          simp only [List.length_drop] at hu'
          have := eol_append (x := c :: l) (y := y) (by omega)
          simp only [List.cons_append] at this
          rw [this]
          have h0 : 0 < eol (c :: l) := by
            simp only [isEol] at he
            cases l with
            | nil => simp [eol, he]
            | cons d l => simp only [eol]; split <;> simp_all
          have h3 := ih _ _ _ _ _ y h' k' (by omega)
          rw [← List.drop_append_of_le_length (by omega)] at h3
          simp only [List.cons_append] at h3
          exact Res.more_of h3
        · rename_i he
          rw [if_neg he]
          split at h
          · rename_i h41
            rw [if_pos h41]
            split at h
            · rename_i ho; rw [if_pos ho]; exact h
            · rename_i ho; rw [if_neg ho]
              obtain ⟨u', h', rfl⟩ := Res.more_ok h
              exact Res.more_of (ih _ _ _ _ _ y h' k' (by omega))
          · rename_i h41
            rw [if_neg h41]
            split at h
            · rename_i ho; rw [if_pos ho]
              obtain ⟨u', h', rfl⟩ := Res.more_ok h
              exact Res.more_of (ih _ _ _ _ _ y h' k' (by omega))
            · rename_i ho; rw [if_neg ho]
              obtain ⟨u', h', rfl⟩ := Res.more_ok h
              exact Res.more_of (ih _ _ _ _ _ y h' k' (by omega))
theorem hexDigits_append : ∀ (x v : Bytes) (u : Nat) (y : Bytes), hexDigits x = .ok v u → hexDigits (x ++ y) = .ok v u := by
  intro x
  induction x with
  | nil => intro v u y h; simp [hexDigits] at h
  | cons c l ih =>
    intro v u y h
    simp only [hexDigits, List.cons_append] at *
    split at h
    · rename_i hc; rw [if_pos hc]; exact h
    · rename_i hc; rw [if_neg hc]
      split at h
      · rename_i hw; rw [if_pos hw]
        obtain ⟨u', h', rfl⟩ := Res.more_ok h
        exact Res.more_of (ih _ _ y h')
      · rename_i hw; rw [if_neg hw]
        split at h
        · simp at h
        · rename_i hx; rw [if_neg hx]
          split at h
          · simp at h
          · rename_i v' u' h'
            simp only [Res.ok.injEq] at h
            rw [ih _ _ y h']
            simp [h]
theorem hexStr_append {x v : Bytes} {u : Nat} (y : Bytes) (h : hexStr x = .ok v u) : hexStr (x ++ y) = .ok v u := by
  unfold hexStr at *
  split at h
  · simp at h
  · rename_i v' u' h'
    split at h
    · simp at h
    · rename_i hn
      rw [hexDigits_append _ _ _ y h']
      simp only [if_neg hn]
      exact h
theorem literal_append {x v : Bytes} {u : Nat} (y : Bytes) (h : literal x = .ok v u) : literal (x ++ y) = .ok v u := by
  obtain ⟨u', h', rfl⟩ := Res.more_ok h
  have hu := litGo_le _ _ _ _ _ _ h'
  exact Res.more_of (litGo_append _ _ _ _ _ _ y h' _ (by simp; omega))

theorem run_all {l : Bytes} (h : run l = l.length) : l.takeWhile isReg = l ∧ l.all isReg = true := by
  have h2 : l.takeWhile isReg = l := by
    unfold run at h
    exact List.IsPrefix.eq_of_length (List.takeWhile_prefix _) h
  refine ⟨h2, ?_⟩
  rw [← h2]; exact List.all_takeWhile
theorem run_append {x y : Bytes} (hx : run x = x.length) (hy : halts y = true) : run (x ++ y) = run x ∧ (x ++ y).takeWhile isReg = x.takeWhile isReg := by
  obtain ⟨h1, h2⟩ := run_all hx
  have := takeWhile_append_halts hy h2
  refine ⟨?_, by rw [this, h1]⟩
  unfold run; rw [this, h1]

/-- A token's own bytes are it, whatever halting bytes stand behind them. -/
theorem lex_append {c : UInt8} {x y : Bytes} {t : T} (hc : starts c = true) (h : lex (c :: x) = .ok t (x.length + 1)) (hy : halts y = true) : lex (c :: (x ++ y)) = .ok t (x.length + 1) := by
  simp only [lex] at *
  split at h
  · rename_i h1; rw [if_pos h1]; exact h
  rename_i h1; rw [if_neg h1]
  split at h
  · rename_i h1; rw [if_pos h1]; exact h
  rename_i h1; rw [if_neg h1]
  split at h
  · rename_i h1; rw [if_pos h1]
    split at h
    · rename_i h2; cases x <;> simp_all
    · rename_i h2
      obtain ⟨v, h', rfl⟩ := ofRes_ok h
      have := hexStr_le h'
      rw [if_neg (by cases x <;> simp_all), hexStr_append y h']; rfl
  rename_i h1; rw [if_neg h1]
  split at h
  · rename_i h1; rw [if_pos h1]
    split at h
    · rename_i h2; cases x <;> simp_all
    · simp at h
  rename_i h1; rw [if_neg h1]
  split at h
  · simp at h
  rename_i h1; rw [if_neg h1]
  split at h
  · rename_i h1; rw [if_pos h1]
    obtain ⟨v, h', rfl⟩ := ofRes_ok h
    rw [literal_append y h']; rfl
  rename_i h1; rw [if_neg h1]
  split at h
  · rename_i h1; rw [if_pos h1]
    obtain ⟨_, _, hl⟩ := lexed_ok h
    have := run_append (x := x) (y := y) (by omega) hy
    rw [this.1, this.2]; exact h
  · rename_i h1; rw [if_neg h1]
    obtain ⟨_, _, hl⟩ := lexed_ok h
    have := run_append (x := c :: x) (y := y) (by simp only [List.length_cons]; omega) hy
    simp only [List.cons_append] at this
    rw [this.1, this.2]; exact h

/-- A gap: it halts, and is passed over, whatever stands behind it that is not passed over. -/
def Gap (g : Bytes) : Prop := (∀ y, halts (g ++ y) = true) ∧ ∀ y, skip y = 0 → skip (g ++ y) = g.length

theorem gap_of {g : Bytes} (h : g = [10] ∨ g = [32, 37, 32, 120, 13] ∨ g = [0, 12] ∨ g = [37, 32, 40, 13, 10, 9]) : Gap g := by
  rcases h with rfl | rfl | rfl | rfl
  · exact ⟨fun y => by simp [halts]; decide, fun y h => by simp [skip, skipR] at *; simp [isWhite, h]⟩
  · exact ⟨fun y => by simp [halts]; decide, fun y h => by simp [skip, skipR] at *; simp [isWhite, isEol, h]⟩
  · exact ⟨fun y => by simp [halts]; decide, fun y h => by simp [skip, skipR] at *; simp [isWhite, h]⟩
  · exact ⟨fun y => by simp [halts]; decide, fun y h => by simp [skip, skipR] at *; simp [isWhite, isEol, h]⟩

/-- The tokens' own bytes, a gap ahead of each. -/
def spread (g : Bytes) (l : Bytes) : List Tok → Bytes
  | [] => []
  | t :: ts => g ++ (l.drop t.from_).take (t.to - t.from_) ++ spread g l ts

theorem halts_spread {g l : Bytes} (hg : Gap g) (ts : List Tok) : halts (spread g l ts ++ g) = true := by
  cases ts with
  | nil => simpa [spread] using hg.1 []
  | cons t ts => simp only [spread, List.append_assoc]; exact hg.1 _

theorem drop_pre (pre y : Bytes) (n : Nat) : (pre ++ y).drop (pre.length + n) = y.drop n := by rw [← List.drop_drop, List.drop_left']; rfl

theorem toks_spread {l g : Bytes} (hg : Gap g) {p : Nat} {ts : List Tok} {a e : Nat} (h : Toks l p ts a e) (hp : p ≤ l.length) :
    ∀ pre : Bytes, ∃ ts', Toks (pre ++ (spread g l ts ++ g)) pre.length ts' (pre ++ (spread g l ts ++ g)).length 0 ∧ ts'.map (·.t) = ts.map (·.t) := by
  have hend : ∀ pre : Bytes, ∃ ts', Toks (pre ++ ([] ++ g)) pre.length ts' (pre ++ ([] ++ g)).length 0 ∧ ts'.map (·.t) = [] := by
    intro pre
    have hn : nextAt (pre ++ ([] ++ g)) pre.length = (⟨⟨0, 0, []⟩, pre.length + g.length, pre.length + g.length⟩, 0) := by
      unfold nextAt
      have h1 : (pre ++ ([] ++ g)).drop pre.length = g ++ [] := by simp
      simp only [h1, hg.2 [] rfl]
      rw [if_pos (by simp)]
    exact ⟨[], .done (by rw [hn]) (by rw [hn]), rfl⟩
  induction h with
  | bad h he => exact hend
  | done h hk => exact hend
  | @more p t ts a e h hk hr ih =>
    intro pre
    obtain ⟨hf, hlt, hle, hlex⟩ := nextAt_ok h hp hk
    have hd : skip (l.drop t.from_) = 0 := by
      have := skip_drop (l.drop p)
      rwa [List.drop_drop, ← hf] at this
    obtain ⟨z, hz⟩ : ∃ z, z = (l.drop t.from_).take (t.to - t.from_) := ⟨_, rfl⟩
    have hzl : z.length = t.to - t.from_ := by rw [hz]; simp; omega
    cases hx : l.drop t.from_ with
    | nil => have := List.drop_eq_nil_iff.1 hx; omega
    | cons c m =>
      rw [hx] at hd hlex hz
      have hc := starts_of_skip hd
      obtain ⟨j, hj⟩ : ∃ j, t.to - t.from_ = j + 1 := ⟨t.to - t.from_ - 1, by omega⟩
      rw [hj, List.take_succ_cons] at hz
      have hxl : (m.take j).length = j := by rw [hz] at hzl; simp only [List.length_cons] at hzl; omega
      have hlx := lex_take hc hlex (m := j) (by omega)
      rw [hj] at hlx
      have hlx2 := lex_append (x := m.take j) (y := spread g l ts ++ g) hc (by rw [hxl]; exact hlx) (halts_spread hg ts)
      rw [hxl] at hlx2
      have hsp : spread g l (t :: ts) = g ++ z ++ spread g l ts := by simp only [spread]; rw [hx, hj, List.take_succ_cons, ← hz]
      have hall : pre ++ (spread g l (t :: ts) ++ g) = (pre ++ g ++ z) ++ (spread g l ts ++ g) := by rw [hsp]; simp [List.append_assoc]
      obtain ⟨ts', h3, h4⟩ := ih hle (pre ++ g ++ z)
      refine ⟨⟨t.t, pre.length + g.length, (pre ++ g ++ z).length⟩ :: ts', ?_, by simp [h4]⟩
      rw [hall]
      refine .more ?_ hk (by simpa using h3)
      have h1 : ((pre ++ g ++ z) ++ (spread g l ts ++ g)).drop pre.length = g ++ (z ++ (spread g l ts ++ g)) := by simp [List.append_assoc]
      have hzc : z ++ (spread g l ts ++ g) = c :: (m.take j ++ (spread g l ts ++ g)) := by rw [hz]; rfl
      have hs0 : skip (z ++ (spread g l ts ++ g)) = 0 := by
        rw [hzc]
        simp only [starts, Bool.and_eq_true, Bool.not_eq_true', bne_iff_ne, ne_eq] at hc
        simp [skip, skipR, hc.1, hc.2]
      unfold nextAt
      simp only [h1, hg.2 _ hs0]
      have h2 : ((pre ++ g ++ z) ++ (spread g l ts ++ g)).drop (pre.length + g.length) = c :: (m.take j ++ (spread g l ts ++ g)) := by
        rw [← hzc, ← List.drop_drop, h1]; simp
      rw [if_neg (by rw [hall.symm, hsp, hz]; simp), h2, hlx2]
      simp only [List.length_append, Prod.mk.injEq, Tok.mk.injEq, true_and, and_true]
      omega

theorem all_spread (l g : Bytes) (hg : Gap g) : (all (spread g l (all l).1 ++ g)).2.2 = 0 ∧ (all (spread g l (all l).1 ++ g)).1.map (·.t) = (all l).1.map (·.t) := by
  obtain ⟨ts', h1, h2⟩ := toks_spread hg (all_toks l) (by omega) []
  have := all_unique (all_toks _) h1
  simp only [List.nil_append] at this
  exact ⟨this.2.2, by rw [this.1, h2]⟩
end Go.Proofs.YtgkhnpldjdbmoaaGreatDoor
