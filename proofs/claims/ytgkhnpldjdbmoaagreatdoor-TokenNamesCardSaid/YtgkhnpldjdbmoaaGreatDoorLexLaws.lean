/- Plain laws of the tokens: where they lie. -/
import Derived.Test.YtgkhnpldjdbmoaaGreatDoorLex
set_option linter.unusedVariables false
set_option linter.unusedSimpArgs false
namespace Go.Proofs.YtgkhnpldjdbmoaaGreatDoor

theorem skipR_le : ∀ (b : Bool) (l : Bytes), skipR b l ≤ l.length := by
  intro b l
  induction l generalizing b with
  | nil => simp [skipR]
  | cons c l ih =>
    have h1 := ih true; have h2 := ih false
    cases b <;> simp only [skipR, List.length_cons] <;> (repeat' split) <;> omega
theorem skip_le (l : Bytes) : skip l ≤ l.length := skipR_le _ _

theorem eol_white {b : UInt8} (h : isEol b = true) : isWhite b = true := by
  simp only [isEol, isWhite, Bool.or_eq_true, beq_iff_eq] at *
  rcases h with h | h <;> simp [h]

/-- What stands behind what is passed over is neither white nor a remark. -/
theorem skipR_drop : ∀ (b : Bool) (l : Bytes), skip (l.drop (skipR b l)) = 0 := by
  intro b l
  induction l generalizing b with
  | nil => simp [skipR, skip]
  | cons c l ih =>
    have h1 := ih true; have h2 := ih false
    cases b <;> simp only [skipR]
    · by_cases hw : isWhite c = true
      · rw [if_pos hw, Nat.add_comm, List.drop_succ_cons]; exact h2
      · by_cases hp : (c == 37) = true
        · rw [if_neg hw, if_pos hp, Nat.add_comm, List.drop_succ_cons]; exact h1
        · rw [if_neg hw, if_neg hp]; simp [hw, hp, skip, skipR]
    · by_cases he : isEol c = true
      · rw [if_pos he, Nat.add_comm, List.drop_succ_cons]; exact h2
      · rw [if_neg he, Nat.add_comm, List.drop_succ_cons]; exact h1
theorem skip_drop (l : Bytes) : skip (l.drop (skip l)) = 0 := skipR_drop _ _

theorem run_le (l : Bytes) : run l ≤ l.length := by
  unfold run; exact List.Sublist.length_le (List.takeWhile_sublist _)
theorem run_pos {c : UInt8} {l : Bytes} (h : isReg c = true) : 0 < run (c :: l) := by simp [run, h]

theorem Res.more_ok {n : Nat} {r : Res} {v : Bytes} {u : Nat} (h : r.more n = .ok v u) : ∃ u', r = .ok v u' ∧ u = u' + n := by
  cases r with
  | err e => simp [Res.more] at h
  | ok v' u' => simp [Res.more] at h; exact ⟨u', by simp [h.1], h.2.symm⟩

theorem eol_le (l : Bytes) : eol l ≤ l.length := by
  unfold eol; split
  · simp
  · split <;> simp
  · split
    · simp
    · split <;> simp
theorem octN_le : ∀ (k n : Nat) (l : Bytes), (octN k n l).2 ≤ l.length := by
  intro k
  induction k with
  | zero => intro n l; simp [octN]
  | succ k ih =>
    intro n l
    cases l with
    | nil => simp [octN]
    | cons c l => have := ih (8 * n + (c.toNat - 48)) l; simp only [octN]; split <;> simp <;> omega
theorem escaped_le (l : Bytes) (h : l.isEmpty = false) : (escaped l).2 ≤ l.length := by
  have h1 := eol_le l
  have h2 := octN_le 3 0 l
  unfold escaped
  split
  · exact h1
  · cases l with
    | nil => simp at h
    | cons c l =>
      simp only []
      split
      · exact h2
      · split <;> simp

theorem litGo_le : ∀ (k o : Nat) (out l : Bytes) (v : Bytes) (u : Nat), litGo k o out l = .ok v u → 0 < u ∧ u ≤ l.length := by
  intro k
  induction k with
  | zero => intro o out l v u h; simp [litGo] at h
  | succ k ih =>
    intro o out l v u h
    cases l with
    | nil => simp [litGo] at h
    | cons c l =>
      simp only [litGo] at h
      split at h
      · split at h
        · simp at h
        · rename_i hne
          obtain ⟨u', h', rfl⟩ := Res.more_ok h
          have := ih _ _ _ _ _ h'
          have he := escaped_le l (by simpa using hne)
          simp only [List.length_drop, List.length_cons] at *
          omega
      · split at h
        · obtain ⟨u', h', rfl⟩ := Res.more_ok h
          have := ih _ _ _ _ _ h'
          have he := eol_le (c :: l)
          simp only [List.length_drop, List.length_cons] at *
          omega
        · split at h
          · split at h
            · split at h
              · simp at h
              · simp at h; simp [← h.2]
            · obtain ⟨u', h', rfl⟩ := Res.more_ok h
              have := ih _ _ _ _ _ h'
              simp only [List.length_cons]; omega
          · split at h
            · obtain ⟨u', h', rfl⟩ := Res.more_ok h
              have := ih _ _ _ _ _ h'
              simp only [List.length_cons]; omega
            · obtain ⟨u', h', rfl⟩ := Res.more_ok h
              have := ih _ _ _ _ _ h'
              simp only [List.length_cons]; omega

theorem hexDigits_le : ∀ (l v : Bytes) (u : Nat), hexDigits l = .ok v u → 0 < u ∧ u ≤ l.length := by
  intro l
  induction l with
  | nil => intro v u h; simp [hexDigits] at h
  | cons c l ih =>
    intro v u h
    simp only [hexDigits] at h
    split at h
    · simp at h; simp [← h.2]
    · split at h
      · obtain ⟨u', h', rfl⟩ := Res.more_ok h
        have := ih _ _ h'; simp only [List.length_cons]; omega
      · split at h
        · simp at h
        · split at h
          · simp at h
          · rename_i v' u' h'
            have := ih _ _ h'
            simp only [Res.ok.injEq] at h
            simp only [List.length_cons]; omega

/-- A byte at which a token begins. -/
def starts (c : UInt8) : Bool := !isWhite c && c != 37
theorem starts_of_skip {c : UInt8} {l : Bytes} (h : skip (c :: l) = 0) : starts c = true := by
  simp only [skip, skipR] at h
  split at h
  · omega
  · split at h
    · omega
    · rename_i h1 h2
      simp only [starts, Bool.and_eq_true, Bool.not_eq_true', bne_iff_ne, ne_eq]
      exact ⟨by simpa using h1, by simpa using h2⟩

theorem lexed_ok {t : T} {e len : Nat} {t' : T} {n : Nat} (h : lexed t e len = .ok t' n) : e = 0 ∧ t' = t ∧ n = len := by
  unfold lexed at h; split at h
  · rename_i he; simp at h; exact ⟨he, h.1.symm, h.2.symm⟩
  · simp at h
theorem ofRes_ok {r : Res} {t : T} {n : Nat} (h : ofRes r = .ok t n) : ∃ v, r = .ok v n ∧ t = ⟨4, 0, v⟩ := by
  cases r with
  | err e => simp [ofRes] at h
  | ok v u => simp [ofRes] at h; exact ⟨v, by simp [h.2], h.1.symm⟩

theorem hexStr_le {l v : Bytes} {u : Nat} (h : hexStr l = .ok v u) : 1 < u ∧ u ≤ l.length + 1 := by
  unfold hexStr at h
  split at h
  · simp at h
  · rename_i v' u' h'
    split at h
    · simp at h
    · have := hexDigits_le _ _ _ h'
      simp only [Res.ok.injEq] at h
      omega
theorem literal_le {l v : Bytes} {u : Nat} (h : literal l = .ok v u) : 1 < u ∧ u ≤ l.length + 1 := by
  obtain ⟨u', h', rfl⟩ := Res.more_ok h
  have := litGo_le _ _ _ _ _ _ h'
  omega

theorem lex_len {c : UInt8} {l : Bytes} (hc : starts c = true) {t : T} {n : Nat} (h : lex (c :: l) = .ok t n) : 0 < n ∧ n ≤ l.length + 1 := by
  simp only [lex] at h
  split at h
  · simp at h; omega
  split at h
  · simp at h; omega
  split at h
  · split at h
    · rename_i hh
      simp at h
      cases l <;> simp_all
      omega
    · obtain ⟨v, h', _⟩ := ofRes_ok h
      have := hexStr_le h'; omega
  split at h
  · split at h
    · rename_i hh
      simp at h
      cases l <;> simp_all
      omega
    · simp at h
  split at h
  · simp at h
  split at h
  · obtain ⟨v, h', _⟩ := ofRes_ok h
    have := literal_le h'; omega
  split at h
  · obtain ⟨_, _, rfl⟩ := lexed_ok h
    have := run_le l; omega
  · obtain ⟨_, _, rfl⟩ := lexed_ok h
    have h1 := run_le (c :: l)
    have h2 : isReg c = true := by
      simp only [starts, isReg, isDelim, Bool.and_eq_true, Bool.not_eq_true', bne_iff_ne, ne_eq, Bool.or_eq_true, beq_iff_eq, Bool.or_eq_false_iff, beq_eq_false_iff_ne] at *
      refine ⟨hc.1, ?_⟩
      simp_all
    have := run_pos (l := l) h2
    simp only [List.length_cons] at h1
    omega

/-- The row of tokens from a place on. -/
inductive Toks (l : Bytes) : Nat → List Tok → Nat → Nat → Prop where
  | bad {p e} (h : (nextAt l p).2 = e) (he : e ≠ 0) : Toks l p [] (p + skip (l.drop p)) e
  | done {p} (h : (nextAt l p).2 = 0) (hk : (nextAt l p).1.t.kind = 0) : Toks l p [] l.length 0
  | more {p t ts a e} (h : nextAt l p = (t, 0)) (hk : t.t.kind ≠ 0) (hr : Toks l t.to ts a e) : Toks l p (t :: ts) a e

theorem lex_kind {l : Bytes} {t : T} {n : Nat} (h : lex l = .ok t n) : t.kind ≠ 0 := by
  cases l with
  | nil => simp [lex] at h
  | cons c l =>
    simp only [lex] at h
    repeat' split at h
    all_goals (first
      | (simp at h; done)
      | (simp at h; simp [← h.1])
      | (obtain ⟨v, _, rfl⟩ := ofRes_ok h; simp)
      | (obtain ⟨_, rfl, _⟩ := lexed_ok h; first | (simp; done) | (unfold plainT; (repeat' split) <;> simp)))

theorem nextAt_ok {l : Bytes} {p : Nat} {t : Tok} (h : nextAt l p = (t, 0)) (hp : p ≤ l.length) (hk : t.t.kind ≠ 0) :
    t.from_ = p + skip (l.drop p) ∧ t.from_ < t.to ∧ t.to ≤ l.length ∧ lex (l.drop t.from_) = .ok t.t (t.to - t.from_) := by
  unfold nextAt at h
  simp only at h
  have h1 := skip_le (l.drop p)
  simp only [List.length_drop] at h1
  split at h
  · simp at h; rw [← h] at hk; simp at hk
  · rename_i hne
    have hd := skip_drop (l.drop p)
    rw [List.drop_drop] at hd
    split at h
    · rename_i e he
      simp at h; rw [← h.1] at hk; simp at hk
    · rename_i t' n hl
      simp only [Prod.mk.injEq, and_true] at h
      subst h
      cases hx : l.drop (p + skip (l.drop p)) with
      | nil => have := List.drop_eq_nil_iff.1 hx; omega
      | cons c m =>
        rw [hx] at hd hl
        have hl2 := lex_len (starts_of_skip hd) hl
        have hlen : (l.drop (p + skip (l.drop p))).length = m.length + 1 := by rw [hx]; rfl
        simp only [List.length_drop] at hlen
        refine ⟨rfl, ?_, ?_, ?_⟩
        · simp; omega
        · simp; omega
        · simp [hx, hl]

theorem Res.more_err {n : Nat} {r : Res} {e : Nat} (h : r.more n = .err e) : r = .err e := by
  cases r with
  | err e => simpa [Res.more] using h
  | ok v u => simp [Res.more] at h
theorem litGo_err : ∀ (k o : Nat) (out l : Bytes) (e : Nat), litGo k o out l = .err e → e ≠ 0 := by
  intro k
  induction k with
  | zero => intro o out l e h; simp [litGo] at h; omega
  | succ k ih =>
    intro o out l e h
    cases l with
    | nil => simp [litGo] at h; omega
    | cons c l =>
      simp only [litGo] at h
      repeat' split at h
      all_goals (first
        | exact ih _ _ _ _ (Res.more_err h)
        | (simp at h; done)
        | (simp at h; omega))
theorem hexDigits_err : ∀ (l : Bytes) (e : Nat), hexDigits l = .err e → e ≠ 0 := by
  intro l
  induction l with
  | nil => intro e h; simp [hexDigits] at h; omega
  | cons c l ih =>
    intro e h
    simp only [hexDigits] at h
    split at h
    · simp at h
    split at h
    · exact ih _ (Res.more_err h)
    split at h
    · simp at h; omega
    split at h
    · rename_i e' he'; simp at h; exact h ▸ ih _ he'
    · simp at h
theorem lexed_err {t : T} {e len e' : Nat} (h : lexed t e len = .err e') : e' ≠ 0 := by
  unfold lexed at h; split at h
  · simp at h
  · simp at h; omega
theorem ofRes_err {r : Res} {e : Nat} (h : ofRes r = .err e) : r = .err e := by
  cases r with
  | err e => simpa [ofRes] using h
  | ok v u => simp [ofRes] at h
theorem hexStr_err {l : Bytes} {e : Nat} (h : hexStr l = .err e) : e ≠ 0 := by
  unfold hexStr at h
  split at h
  · rename_i e' he'; simp at h; exact h ▸ hexDigits_err _ _ he'
  · split at h
    · simp at h; omega
    · simp at h
theorem lex_err {c : UInt8} {l : Bytes} {e : Nat} (h : lex (c :: l) = .err e) : e ≠ 0 := by
  simp only [lex] at h
  repeat' split at h
  all_goals (first
    | exact lexed_err h
    | exact hexStr_err (ofRes_err h)
    | exact litGo_err _ _ _ _ _ (Res.more_err (ofRes_err h))
    | (simp at h; done)
    | (simp at h; omega))

theorem nextAt_end {l : Bytes} {p : Nat} (hp : p ≤ l.length) (h : (nextAt l p).2 = 0) (hk : (nextAt l p).1.t.kind = 0) : p + skip (l.drop p) = l.length := by
  unfold nextAt at h hk
  simp only at h hk
  split at h
  · assumption
  · rename_i hne
    rw [if_neg hne] at hk
    have h1 := skip_le (l.drop p)
    simp only [List.length_drop] at h1
    split at hk
    · rename_i e he
      rw [he] at h; simp at h; subst h
      cases hx : l.drop (p + skip (l.drop p)) with
      | nil => have := List.drop_eq_nil_iff.1 hx; omega
      | cons c m => rw [hx] at he; exact absurd rfl (lex_err he)
    · rename_i t n hl
      exact absurd hk (lex_kind hl)

theorem allGo_toks (l : Bytes) : ∀ (k p : Nat) (out : List Tok), p ≤ l.length → l.length < k + p → ∃ ts a e, allGo l k p out = (out ++ ts, a, e) ∧ Toks l p ts a e := by
  intro k
  induction k with
  | zero => intro p out h1 h2; omega
  | succ k ih =>
    intro p out h1 h2
    simp only [allGo]
    split
    · rename_i he; exact ⟨[], _, _, by simp, .bad rfl he⟩
    · rename_i he
      have he : (nextAt l p).2 = 0 := by omega
      split
      · rename_i hk; exact ⟨[], _, _, by simp, .done he hk⟩
      · rename_i hk
        have hn : nextAt l p = ((nextAt l p).1, 0) := by rw [← he]
        have := nextAt_ok hn h1 hk
        obtain ⟨ts, a, e, h3, h4⟩ := ih (nextAt l p).1.to (out ++ [(nextAt l p).1]) (by omega) (by omega)
        exact ⟨(nextAt l p).1 :: ts, a, e, by rw [h3]; simp, .more hn hk h4⟩
theorem all_toks (l : Bytes) : Toks l 0 (all l).1 (all l).2.1 (all l).2.2 := by
  obtain ⟨ts, a, e, h, ht⟩ := allGo_toks l (l.length + 1) 0 [] (by omega) (by omega)
  unfold all; rw [h]; simpa using ht
theorem all_unique {l : Bytes} {p : Nat} {ts ts' : List Tok} {a a' e e' : Nat} (h : Toks l p ts a e) (h' : Toks l p ts' a' e') : ts = ts' ∧ a = a' ∧ e = e' := by
  induction h generalizing ts' a' e' with
  | bad h he =>
    cases h' with
    | bad h2 he2 => exact ⟨rfl, rfl, h.symm.trans h2⟩
    | done h2 hk2 => omega
    | more h2 hk2 hr2 => rw [h2] at h; simp at h; omega
  | done h hk =>
    cases h' with
    | bad h2 he2 => omega
    | done h2 hk2 => exact ⟨rfl, rfl, rfl⟩
    | more h2 hk2 hr2 => rw [h2] at hk; simp at hk; omega
  | more h hk hr ih =>
    cases h' with
    | bad h2 he2 => rw [h] at h2; simp at h2; omega
    | done h2 hk2 => rw [h] at hk2; simp at hk2; omega
    | more h2 hk2 hr2 =>
      rw [h] at h2; simp at h2; subst h2
      obtain ⟨rfl, rfl, rfl⟩ := ih hr2
      exact ⟨rfl, rfl, rfl⟩
end Go.Proofs.YtgkhnpldjdbmoaaGreatDoor
