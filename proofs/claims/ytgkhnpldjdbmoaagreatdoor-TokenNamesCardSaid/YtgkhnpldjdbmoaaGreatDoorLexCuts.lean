/- Plain laws of the tokens: what is cut behind a token, and what stands between them. -/
import Derived.Test.YtgkhnpldjdbmoaaGreatDoorLexLaws
set_option linter.unusedVariables false
set_option linter.unusedSimpArgs false
namespace Go.Proofs.YtgkhnpldjdbmoaaGreatDoor

theorem skipR_take : ∀ (b : Bool) (l : Bytes) (m : Nat), skipR b l < m → skipR b (l.take m) = skipR b l := by
  intro b l
  induction l generalizing b with
  | nil => intro m h; simp
  | cons c l ih =>
    intro m h
    obtain ⟨m, rfl⟩ : ∃ k, m = k + 1 := ⟨m - 1, by omega⟩
    have h1 := ih true m; have h2 := ih false m
    cases b <;> simp only [skipR, List.take_succ_cons] at *
    · split at h
      · rename_i hw; rw [if_pos hw, if_pos hw, h2 (by omega)]
      · rename_i hw; rw [if_neg hw, if_neg hw]
        split at h
        · rename_i hw; rw [if_pos hw, if_pos hw, h1 (by omega)]
        · rename_i hw; rw [if_neg hw, if_neg hw]
    · split at h
      · rename_i hw; rw [if_pos hw, if_pos hw, h2 (by omega)]
      · rename_i hw; rw [if_neg hw, if_neg hw, h1 (by omega)]
theorem skip_take {l : Bytes} {m : Nat} (h : skip l < m) : skip (l.take m) = skip l := skipR_take _ _ _ h

theorem takeWhile_take (p : UInt8 → Bool) : ∀ (l : Bytes) (m : Nat), (l.takeWhile p).length ≤ m → (l.take m).takeWhile p = l.takeWhile p := by
  intro l
  induction l with
  | nil => intro m h; simp
  | cons c l ih =>
    intro m h
    by_cases hc : p c = true
    · simp only [List.takeWhile_cons, hc, if_true, List.length_cons] at h
      obtain ⟨m, rfl⟩ : ∃ k, m = k + 1 := ⟨m - 1, by omega⟩
      simp only [List.take_succ_cons, List.takeWhile_cons, hc, if_true]
      rw [ih m (by omega)]
    · cases m with
      | zero => simp [List.takeWhile_cons, hc]
      | succ m => simp [List.takeWhile_cons, hc]

theorem eol_take {l : Bytes} {m : Nat} (h : eol l < m) : eol (l.take m) = eol l := by
  obtain ⟨m, rfl⟩ : ∃ k, m = k + 1 := ⟨m - 1, by omega⟩
  match l with
  | [] => simp
  | [c] => simp
  | c :: d :: r =>
    cases m with
    | zero =>
      simp only [eol] at h ⊢
      split at h
      · omega
      · split at h
        · omega
        · rename_i h1 h2; simp [eol, h1, h2]
    | succ m => simp [eol]
theorem octN_take : ∀ (k n : Nat) (l : Bytes) (m : Nat), (octN k n l).2 < m → octN k n (l.take m) = octN k n l := by
  intro k
  induction k with
  | zero => intro n l m h; simp [octN]
  | succ k ih =>
    intro n l m h
    obtain ⟨m, rfl⟩ : ∃ k, m = k + 1 := ⟨m - 1, by omega⟩
    cases l with
    | nil => simp [octN]
    | cons c l =>
      simp only [octN, List.take_succ_cons] at *
      split at h
      · rename_i hc; rw [if_pos hc, if_pos hc, ih _ _ m (by simpa using h)]
      · rename_i hc; rw [if_neg hc, if_neg hc]
theorem escaped_take {l : Bytes} {m : Nat} (h : (escaped l).2 < m) : escaped (l.take m) = escaped l := by
  unfold escaped at *
  by_cases h0 : 0 < eol l
  · rw [if_pos h0] at h
    rw [eol_take h, if_pos h0, if_pos h0]
  · rw [if_neg h0] at h
    rw [eol_take (by omega), if_neg h0, if_neg h0]
    obtain ⟨m, rfl⟩ : ∃ k, m = k + 1 := ⟨m - 1, by omega⟩
    cases l with
    | nil => simp
    | cons c l =>
      simp only [List.take_succ_cons] at *
      by_cases ho : isOctal c = true
      · rw [if_pos ho] at h
        rw [if_pos ho, if_pos ho]
        have := octN_take 3 0 (c :: l) (m + 1) h
        simp only [List.take_succ_cons] at this
        rw [this]
      · rw [if_neg ho, if_neg ho]

theorem Res.more_of {n : Nat} {r : Res} {v : Bytes} {u : Nat} (h : r = .ok v u) : r.more n = .ok v (u + n) := by rw [h]; rfl

theorem isEmpty_take {l : Bytes} {m : Nat} (h : 0 < m) : (l.take m).isEmpty = l.isEmpty := by
  obtain ⟨m, rfl⟩ : ∃ k, m = k + 1 := ⟨m - 1, by omega⟩
  cases l <;> simp

/-- A literal that is whole is so however much stands behind it, and whatever the rounds are. -/
theorem litGo_take : ∀ (k o : Nat) (out l v : Bytes) (u : Nat), litGo k o out l = .ok v u → ∀ k' m, u ≤ k' → u ≤ m → litGo k' o out (l.take m) = .ok v u := by
  intro k
  induction k with
  | zero => intro o out l v u h; simp [litGo] at h
  | succ k ih =>
    intro o out l v u h k' m hk hm
    cases l with
    | nil => simp [litGo] at h
    | cons c l =>
      have hu := litGo_le _ _ _ _ _ _ h
      obtain ⟨k', rfl⟩ : ∃ j, k' = j + 1 := ⟨k' - 1, by omega⟩
      obtain ⟨m, rfl⟩ : ∃ j, m = j + 1 := ⟨m - 1, by omega⟩
      simp only [litGo, List.take_succ_cons] at *
      split at h
      · rename_i hc
        rw [if_pos hc]
        split at h
        · simp at h
        · rename_i hne
          obtain ⟨u', h', rfl⟩ := Res.more_ok h
          have hu' := litGo_le _ _ _ _ _ _ h'
          have he : (escaped l).2 < m := by omega
          rw [escaped_take he, isEmpty_take (by omega), if_neg hne, List.drop_take]
          exact Res.more_of (ih _ _ _ _ _ h' k' (m - (escaped l).2) (by omega) (by omega))
      · rename_i hc
        rw [if_neg hc]
        split at h
        · rename_i he
          rw [if_pos he]
          obtain ⟨u', h', rfl⟩ := Res.more_ok h
          have hu' := litGo_le _ _ _ _ _ _ h'
          have := eol_take (l := c :: l) (m := m + 1) (by omega)
          simp only [List.take_succ_cons] at this
          rw [this]
          have h3 := ih _ _ _ _ _ h' k' (m + 1 - eol (c :: l)) (by
            have : 0 < eol (c :: l) := by
              simp only [isEol] at he
              cases l with
              | nil => simp [eol, he]
              | cons d l => simp only [eol]; split <;> simp_all
            omega) (by omega)
          rw [← List.drop_take] at h3
          simp only [List.take_succ_cons] at h3
          exact Res.more_of h3
        · rename_i he
          rw [if_neg he]
          split at h
          · rename_i h41
            rw [if_pos h41]
            split at h
            · rename_i ho; rw [if_pos ho]; exact h
            · rename_i ho; rw [if_neg ho]
              obtain ⟨u', h', rfl⟩ := Res.more_ok h
              exact Res.more_of (ih _ _ _ _ _ h' k' m (by omega) (by omega))
          · rename_i h41
            rw [if_neg h41]
            split at h
            · rename_i ho; rw [if_pos ho]
              obtain ⟨u', h', rfl⟩ := Res.more_ok h
              exact Res.more_of (ih _ _ _ _ _ h' k' m (by omega) (by omega))
            · rename_i ho; rw [if_neg ho]
              obtain ⟨u', h', rfl⟩ := Res.more_ok h
              exact Res.more_of (ih _ _ _ _ _ h' k' m (by omega) (by omega))
theorem hexDigits_take : ∀ (l v : Bytes) (u : Nat), hexDigits l = .ok v u → ∀ m, u ≤ m → hexDigits (l.take m) = .ok v u := by
  intro l
  induction l with
  | nil => intro v u h; simp [hexDigits] at h
  | cons c l ih =>
    intro v u h m hm
    have hu := hexDigits_le _ _ _ h
    obtain ⟨m, rfl⟩ : ∃ j, m = j + 1 := ⟨m - 1, by omega⟩
    simp only [hexDigits, List.take_succ_cons] at *
    split at h
    · rename_i hc; rw [if_pos hc]; exact h
    · rename_i hc; rw [if_neg hc]
      split at h
      · rename_i hw; rw [if_pos hw]
        obtain ⟨u', h', rfl⟩ := Res.more_ok h
        exact Res.more_of (ih _ _ h' m (by omega))
      · rename_i hw; rw [if_neg hw]
        split at h
        · simp at h
        · rename_i hx; rw [if_neg hx]
          split at h
          · simp at h
          · rename_i v' u' h'
            simp only [Res.ok.injEq] at h
            rw [ih _ _ h' m (by omega)]
            simp [h]
theorem hexStr_take {l v : Bytes} {u m : Nat} (h : hexStr l = .ok v u) (hm : u ≤ m + 1) : hexStr (l.take m) = .ok v u := by
  unfold hexStr at *
  split at h
  · simp at h
  · rename_i v' u' h'
    split at h
    · simp at h
    · rename_i hn
      simp only [Res.ok.injEq] at h
      rw [hexDigits_take _ _ _ h' m (by omega)]
      simp only [if_neg hn, Res.ok.injEq]
      exact h
theorem literal_take {l v : Bytes} {u m : Nat} (h : literal l = .ok v u) (hm : u ≤ m + 1) : literal (l.take m) = .ok v u := by
  obtain ⟨u', h', rfl⟩ := Res.more_ok h
  have hu := litGo_le _ _ _ _ _ _ h'
  exact Res.more_of (litGo_take _ _ _ _ _ _ h' _ m (by simp; omega) (by omega))

theorem head_take {l : Bytes} {m : Nat} {c : UInt8} (h : (l.take m).head? = some c) : l.head? = some c := by
  cases m with
  | zero => simp at h
  | succ m => cases l <;> simp_all
theorem run_take {l : Bytes} {m : Nat} (h : run l ≤ m) : run (l.take m) = run l ∧ (l.take m).takeWhile isReg = l.takeWhile isReg := by
  have := takeWhile_take isReg l m h
  exact ⟨by unfold run; rw [this], this⟩

theorem lex_take {c : UInt8} {l : Bytes} {t : T} {n m : Nat} (hc : starts c = true) (h : lex (c :: l) = .ok t n) (hm : n ≤ m + 1) : lex (c :: l.take m) = .ok t n := by
  have hn := lex_len hc h
  simp only [lex] at *
  split at h
  · rename_i h1; rw [if_pos h1]; exact h
  rename_i h1; rw [if_neg h1]
  split at h
  · rename_i h1; rw [if_pos h1]; exact h
  rename_i h1; rw [if_neg h1]
  split at h
  · rename_i h1; rw [if_pos h1]
    split at h
    · rename_i h2
      simp at h
      obtain ⟨m, rfl⟩ : ∃ j, m = j + 1 := ⟨m - 1, by omega⟩
      cases l <;> simp_all
    · rename_i h2
      rw [if_neg (by intro h3; exact h2 (by simpa using head_take (by simpa using h3)))]
      obtain ⟨v, h', rfl⟩ := ofRes_ok h
      rw [hexStr_take h' hm]; rfl
  rename_i h1; rw [if_neg h1]
  split at h
  · rename_i h1; rw [if_pos h1]
    split at h
    · rename_i h2
      simp at h
      obtain ⟨m, rfl⟩ : ∃ j, m = j + 1 := ⟨m - 1, by omega⟩
      cases l <;> simp_all
    · simp at h
  rename_i h1; rw [if_neg h1]
  split at h
  · simp at h
  rename_i h1; rw [if_neg h1]
  split at h
  · rename_i h1; rw [if_pos h1]
    obtain ⟨v, h', rfl⟩ := ofRes_ok h
    rw [literal_take h' hm]; rfl
  rename_i h1; rw [if_neg h1]
  split at h
  · rename_i h1; rw [if_pos h1]
    obtain ⟨_, _, hl⟩ := lexed_ok h
    have := run_take (l := l) (m := m) (by omega)
    rw [this.1, this.2]; exact h
  · rename_i h1; rw [if_neg h1]
    obtain ⟨_, _, hl⟩ := lexed_ok h
    have := run_take (l := c :: l) (m := m + 1) (by omega)
    simp only [List.take_succ_cons] at this
    rw [this.1, this.2]; exact h

theorem nextAt_take {l : Bytes} {p n : Nat} {t : Tok} (h : nextAt l p = (t, 0)) (hk : t.t.kind ≠ 0) (hp : p ≤ l.length) (h1 : t.to ≤ n) (h2 : n ≤ l.length) : nextAt (l.take n) p = (t, 0) := by
  obtain ⟨hf, hlt, hle, hlex⟩ := nextAt_ok h hp hk
  have hs : skip ((l.take n).drop p) = skip (l.drop p) := by
    rw [List.drop_take]; exact skip_take (by omega)
  have hl : (l.take n).length = n := by simp; omega
  unfold nextAt
  simp only [hs, hl]
  rw [if_neg (by omega), ← hf, List.drop_take]
  have hd : skip (l.drop t.from_) = 0 := by
    have := skip_drop (l.drop p)
    rwa [List.drop_drop, ← hf] at this
  cases hx : l.drop t.from_ with
  | nil => have := List.drop_eq_nil_iff.1 hx; omega
  | cons c m =>
    rw [hx] at hd hlex
    obtain ⟨j, hj⟩ : ∃ j, n - t.from_ = j + 1 := ⟨n - t.from_ - 1, by omega⟩
    rw [hj, List.take_succ_cons, lex_take (starts_of_skip hd) hlex (by omega)]
    simp only [Prod.mk.injEq, and_true]
    cases t with
    | mk t f to => simp only [Tok.mk.injEq, true_and]; simp only at *; omega

theorem nextAt_here {l : Bytes} {p : Nat} {t : Tok} (h : nextAt l p = (t, 0)) (hk : t.t.kind ≠ 0) (hp : p ≤ l.length) : nextAt l t.from_ = (t, 0) := by
  obtain ⟨hf, hlt, hle, hlex⟩ := nextAt_ok h hp hk
  have hd : skip (l.drop t.from_) = 0 := by
    have := skip_drop (l.drop p)
    rwa [List.drop_drop, ← hf] at this
  unfold nextAt
  simp only [hd, Nat.add_zero]
  rw [if_neg (by omega), hlex]
  cases t with
  | mk t f to => simp only [Prod.mk.injEq, Tok.mk.injEq, true_and, and_true]; simp only at *; omega

/-- A text that is cut behind one of its tokens. -/
theorem toks_cut {l : Bytes} {p : Nat} {ts : List Tok} {a e : Nat} (h : Toks l p ts a e) (hp : p ≤ l.length) :
    ∀ i t, ts[i]? = some t → Toks (l.take t.to) p (ts.take (i + 1)) t.to 0 := by
  induction h with
  | bad h he => intro i t ht; simp at ht
  | done h hk => intro i t ht; simp at ht
  | @more p t0 ts a e h hk hr ih =>
    obtain ⟨hf, hlt, hle, hlex⟩ := nextAt_ok h hp hk
    intro i t ht
    cases i with
    | zero =>
      simp at ht; subst ht
      have h1 := nextAt_take h hk hp (Nat.le_refl _) hle
      simp only [Nat.zero_add, List.take_succ_cons, List.take_zero]
      refine .more h1 hk ?_
      have hlen : (l.take t0.to).length = t0.to := by simp; omega
      have hnx : nextAt (l.take t0.to) t0.to = (⟨⟨0, 0, []⟩, t0.to, t0.to⟩, 0) := by
        unfold nextAt
        have : (l.take t0.to).drop t0.to = [] := List.drop_eq_nil_iff.2 (by omega)
        simp only [this]
        rw [if_pos (by rw [hlen]; rfl)]
        simp [skip, skipR]
      have hd : Toks (l.take t0.to) t0.to [] (l.take t0.to).length 0 := .done (by rw [hnx]) (by rw [hnx])
      rwa [hlen] at hd
    | succ i =>
      simp only [List.getElem?_cons_succ] at ht
      have h3 := ih hle i t ht
      have hto : t0.to ≤ t.to := by
        clear h3 ih
        have : ∀ {q : Nat} {ts : List Tok} {a e : Nat}, Toks l q ts a e → q ≤ l.length → ∀ (i : Nat) (t : Tok), ts[i]? = some t → q ≤ t.to := by
          intro q ts a e h
          induction h with
          | bad h he => intro _ i t ht; simp at ht
          | done h hk => intro _ i t ht; simp at ht
          | more h hk hr ih =>
            intro hq i t ht
            obtain ⟨hf, hlt, hle, hlex⟩ := nextAt_ok h hq hk
            cases i with
            | zero => simp at ht; subst ht; omega
            | succ i => have := ih hle i t (by simpa using ht); omega
        exact this hr hle i t ht
      have htl : t.to ≤ l.length := by
        clear h3 ih
        have : ∀ {q : Nat} {ts : List Tok} {a e : Nat}, Toks l q ts a e → q ≤ l.length → ∀ (i : Nat) (t : Tok), ts[i]? = some t → t.to ≤ l.length := by
          intro q ts a e h
          induction h with
          | bad h he => intro _ i t ht; simp at ht
          | done h hk => intro _ i t ht; simp at ht
          | more h hk hr ih =>
            intro hq i t ht
            obtain ⟨hf, hlt, hle, hlex⟩ := nextAt_ok h hq hk
            cases i with
            | zero => simp at ht; subst ht; omega
            | succ i => exact ih hle i t (by simpa using ht)
        exact this hr hle i t ht
      simp only [List.take_succ_cons]
      exact .more (nextAt_take h hk hp hto htl) hk h3

theorem all_cut (l : Bytes) (i : Nat) (t : Tok) (ht : (all l).1[i]? = some t) : all (l.take t.to) = ((all l).1.take (i + 1), t.to, 0) := by
  have h1 := toks_cut (all_toks l) (by omega) i t ht
  have h5 := all_unique (all_toks (l.take t.to)) h1
  exact Prod.ext h5.1 (Prod.ext h5.2.1 h5.2.2)
end Go.Proofs.YtgkhnpldjdbmoaaGreatDoor
