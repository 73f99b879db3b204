/- Plain laws of the tokens: what is put of tokens is read as they. -/
import Derived.Test.YtgkhnpldjdbmoaaGreatDoorLexBlanks
import Derived.Lib.ItoaNum
set_option linter.unusedVariables false
set_option linter.unusedSimpArgs false
namespace Go.Proofs.YtgkhnpldjdbmoaaGreatDoor

/-! ### how a token is put -/
def hexUp (n : Nat) : UInt8 := if n < 10 then UInt8.ofNat (48 + n) else UInt8.ofNat (55 + n)
def namePlain (c : UInt8) : Bool := decide (32 < c) && decide (c < 127) && isReg c && c != 35
def nameByte (c : UInt8) : Bytes := if namePlain c then [c] else [35, hexUp (c.toNat / 16), hexUp (c.toNat % 16)]
def nameCheck (v : Bytes) : Nat := if 127 < v.length then 3 else if v.any (· == 0) then 2 else 0
def namePut (v : Bytes) : Bytes × Nat := if nameCheck v ≠ 0 then ([], nameCheck v) else (47 :: v.flatMap nameByte, 0)
def letterOf (c : UInt8) : Option UInt8 := if c == 10 then some 110 else if c == 13 then some 114 else if c == 9 then some 116 else if c == 8 then some 98 else if c == 12 then some 102 else none
def octals (c : UInt8) : Bytes := [48 + c / 64, 48 + c / 8 % 8, 48 + c % 8]
def litByte (c : UInt8) : Bytes :=
  if c == 40 || c == 41 || c == 92 then [92, c] else
  match letterOf c with
  | some x => [92, x]
  | none => if decide (32 ≤ c) && decide (c < 127) then [c] else 92 :: octals c
def litPut (v : Bytes) : Bytes × Nat := if 65536 < v.length then ([], 3) else (40 :: (v.flatMap litByte ++ [41]), 0)
def intText (n : Int) : Bytes × Nat := if 2147483647 < n ∨ n < -2147483647 then ([], 3) else (Lib.itoa n, 0)
def wordPut (w : Bytes) : Bytes × Nat := if w = [] ∨ 127 < w.length ∨ run w ≠ w.length ∨ numKind w ≠ 0 then ([], 2) else (w, 0)
def realPut (s : Bytes) : Bytes × Nat := if (numReal s).2 ≠ 0 ∨ (numReal s).1 ≠ s then ([], 2) else (s, 0)
def fixedT (k : Int) : Bytes := if k = 5 then [91] else if k = 6 then [93] else if k = 7 then [60, 60] else if k = 8 then [62, 62] else []
def textT (k n : Int) (s : Bytes) : Bytes × Nat :=
  if k < 0 ∨ 9 < k ∨ (k ≠ 1 ∧ n ≠ 0) then ([], 2)
  else if k = 2 then realPut s else if k = 3 then namePut s else if k = 4 then litPut s else if k = 9 then wordPut s
  else if s ≠ [] then ([], 2) else if k = 1 then intText n else (fixedT k, 0)
/-- Is the last byte regular? -/
def lastReg (x : Bytes) : Bool := match x.getLast? with | some c => isReg c | none => false
def headReg (x : Bytes) : Bool := match x with | c :: _ => isReg c | [] => false
def glue (wants : Bool) (x : Bytes) : Bytes := if wants && headReg x then [32] else []
/-- Tokens' texts, a blank between two where one is wanted. -/
def joinT : Bool → List T → Bytes
  | _, [] => []
  | w, t :: ts =>
    let x := (textT t.kind t.n t.s).1
    if x = [] then joinT w ts else glue w x ++ x ++ joinT (t.kind == 3 || lastReg x) ts

/-! ### bytes -/
theorem all_bytes {p : UInt8 → Bool} (h : ∀ i : Fin 256, p (UInt8.ofNat i.val) = true) (c : UInt8) : p c = true := by
  have := h ⟨c.toNat, c.toNat_lt⟩
  simpa using this
theorem reg_starts {c : UInt8} (h : isReg c = true) : starts c = true := by
  revert h
  have := all_bytes (p := fun c => !isReg c || starts c) (by decide +kernel) c
  intro h; simpa [h] using this
theorem not_reg_delims {c : UInt8} (h : isReg c = true) : (c == 91) = false ∧ (c == 93) = false ∧ (c == 60) = false ∧ (c == 62) = false ∧ (c == 41 || c == 123 || c == 125) = false ∧ (c == 40) = false ∧ (c == 47) = false := by
  have := all_bytes (p := fun c => !isReg c || (!(c == 91) && !(c == 93) && !(c == 60) && !(c == 62) && !(c == 41 || c == 123 || c == 125) && !(c == 40) && !(c == 47))) (by decide +kernel) c
  simp only [h, Bool.not_true, Bool.false_or, Bool.and_eq_true, Bool.not_eq_true'] at this
  obtain ⟨⟨⟨⟨⟨⟨a, b⟩, c⟩, d⟩, e⟩, f⟩, g⟩ := this
  exact ⟨a, b, c, d, e, f, g⟩
theorem eol_zero {c : UInt8} (l : Bytes) (h : isEol c = false) : eol (c :: l) = 0 := by
  simp only [isEol, Bool.or_eq_false_iff] at h
  cases l <;> simp [eol, h.1, h.2]

/-! ### names -/
theorem nameByte_reg (c : UInt8) : (nameByte c).all isReg = true := all_bytes (p := fun c => (nameByte c).all isReg) (by decide +kernel) c
theorem escName_hex (c : UInt8) (h : c ≠ 0) : escName (hexUp (c.toNat / 16)) (hexUp (c.toNat % 16)) = some c := by
  have := all_bytes (p := fun c => c == 0 || decide (escName (hexUp (c.toNat / 16)) (hexUp (c.toNat % 16)) = some c)) (by decide +kernel) c
  simpa [h] using this
theorem readN_cons {c : UInt8} (r : Bytes) (h : c ≠ 35) : readN (c :: r) = (c :: (readN r).1, (readN r).2) := by
  match r with
  | [] => simp [readN, h]
  | [d] => simp [readN, h]
  | d :: e :: l => simp [readN, h]
theorem readN_byte (c : UInt8) (r : Bytes) (h : c ≠ 0) : readN (nameByte c ++ r) = (c :: (readN r).1, (readN r).2) := by
  unfold nameByte
  split
  · rename_i hp
    have h35 : c ≠ 35 := by simp only [namePlain, Bool.and_eq_true, bne_iff_ne, ne_eq] at hp; exact hp.2
    exact readN_cons r h35
  · have := escName_hex c h
    simp [readN, this]
theorem readN_put : ∀ v : Bytes, v.any (· == 0) = false → readN (v.flatMap nameByte) = (v, true) := by
  intro v
  induction v with
  | nil => intro _; simp [readN]
  | cons c v ih =>
    intro h
    simp only [List.any_cons, Bool.or_eq_false_iff, beq_eq_false_iff_ne, ne_eq] at h
    rw [List.flatMap_cons, readN_byte c _ h.1, ih h.2]
theorem name_reg (v : Bytes) : (v.flatMap nameByte).all isReg = true := by
  induction v with
  | nil => rfl
  | cons c v ih => rw [List.flatMap_cons, List.all_append, nameByte_reg, ih]; rfl

/-! ### literals -/
theorem esc_octals (c : UInt8) (r : Bytes) : escaped (octals c ++ r) = ([c], 3) := by
  have := all_bytes (p := fun c => !isEol (48 + c / 64) && isOctal (48 + c / 64) && isOctal (48 + c / 8 % 8) && isOctal (48 + c % 8) &&
    UInt8.ofNat ((8 * (8 * (8 * 0 + ((48 + c / 64).toNat - 48)) + ((48 + c / 8 % 8).toNat - 48)) + ((48 + c % 8).toNat - 48)) % 256) == c) (by decide +kernel) c
  simp only [Bool.and_eq_true, Bool.not_eq_true', beq_iff_eq] at this
  obtain ⟨⟨⟨⟨h0, h1⟩, h2⟩, h3⟩, h4⟩ := this
  unfold octals escaped
  simp only [List.cons_append, List.nil_append]
  rw [eol_zero _ h0, if_neg (by omega)]
  simp only [h1, octN, h2, h3, if_true, h4]
theorem esc_letter {c x : UInt8} (r : Bytes) (h : letterOf c = some x) : escaped (x :: r) = ([c], 1) := by
  have := all_bytes (p := fun c => match letterOf c with | none => true | some x => !isEol x && !isOctal x && decide (escLetter x = some c)) (by decide +kernel) c
  simp only [h, Bool.and_eq_true, Bool.not_eq_true', decide_eq_true_eq] at this
  obtain ⟨⟨h0, h1⟩, h2⟩ := this
  unfold escaped
  rw [eol_zero _ h0, if_neg (by omega)]
  simp [h1, h2]
theorem esc_self {c : UInt8} (r : Bytes) (h : (c == 40 || c == 41 || c == 92) = true) : escaped (c :: r) = ([c], 1) := by
  have := all_bytes (p := fun c => !(c == 40 || c == 41 || c == 92) || (!isEol c && !isOctal c && decide (escLetter c = none))) (by decide +kernel) c
  simp only [h, Bool.not_true, Bool.false_or, Bool.and_eq_true, Bool.not_eq_true', decide_eq_true_eq] at this
  obtain ⟨⟨h0, h1⟩, h2⟩ := this
  unfold escaped
  rw [eol_zero _ h0, if_neg (by omega)]
  simp [h1, h2]
theorem litb_plain {c : UInt8} (h1 : (c == 40 || c == 41 || c == 92) = false) (h2 : letterOf c = none) : (c == 92) = false ∧ isEol c = false ∧ (c == 41) = false ∧ (c == 40) = false := by
  have := all_bytes (p := fun c => (c == 40 || c == 41 || c == 92) || (letterOf c).isSome || (!(c == 92) && !isEol c && !(c == 41) && !(c == 40))) (by decide +kernel) c
  simp only [h1, h2, Option.isSome_none, Bool.false_or, Bool.and_eq_true, Bool.not_eq_true'] at this
  obtain ⟨⟨⟨a, b⟩, c⟩, d⟩ := this
  exact ⟨a, b, c, d⟩
theorem litByte_pos (c : UInt8) : 0 < (litByte c).length := by
  have := all_bytes (p := fun c => decide (0 < (litByte c).length)) (by decide +kernel) c
  simpa using this
theorem litGo_byte (c : UInt8) (k : Nat) (out r : Bytes) (v : Bytes) (u : Nat) (hr : r ≠ [])
    (h : litGo k 1 (out ++ [c]) r = .ok v u) : litGo (k + 1) 1 out (litByte c ++ r) = .ok v (u + (litByte c).length) := by
  by_cases h1 : (c == 40 || c == 41 || c == 92) = true
  · have hb : litByte c = [92, c] := by simp only [litByte]; rw [if_pos h1]
    rw [hb]
    simp only [List.cons_append, List.nil_append, litGo]
    rw [if_pos (by decide), if_neg (by simp), esc_self r h1]
    simp only [List.drop_succ_cons, List.drop_zero, h, Res.more, List.length_cons, List.length_nil]
  · simp only [Bool.not_eq_true] at h1
    cases h2 : letterOf c with
    | some x =>
      have hb : litByte c = [92, x] := by simp only [litByte, h2]; rw [if_neg (by simp [h1])]
      rw [hb]
      simp only [List.cons_append, List.nil_append, litGo]
      rw [if_pos (by decide), if_neg (by simp), esc_letter r h2]
      simp only [List.drop_succ_cons, List.drop_zero, h, Res.more, List.length_cons, List.length_nil]
    | none =>
      by_cases h3 : (decide (32 ≤ c) && decide (c < 127)) = true
      · have hb : litByte c = [c] := by simp only [litByte, h2]; rw [if_neg (by simp [h1]), if_pos h3]
        obtain ⟨a, b, c', d⟩ := litb_plain h1 h2
        rw [hb]
        simp only [List.cons_append, List.nil_append, litGo]
        rw [if_neg (by simp [a]), if_neg (by simp [b]), if_neg (by simp [c']), if_neg (by simp [d]), h]
        simp [Res.more]
      · have hb : litByte c = 92 :: octals c := by simp only [litByte, h2]; rw [if_neg (by simp [h1]), if_neg h3]
        have he := esc_octals c r
        rw [hb]
        simp only [List.cons_append, litGo]
        rw [if_pos (by decide), if_neg (by simp [octals]), he]
        have hd : (octals c ++ r).drop 3 = r := by simp [octals]
        simp only [hd, h, Res.more]
        simp [octals]
theorem litGo_put : ∀ (v out y : Bytes) (k : Nat), v.length < k → out.length + v.length ≤ 65536 →
    litGo k 1 out (v.flatMap litByte ++ 41 :: y) = .ok (out ++ v) ((v.flatMap litByte).length + 1) := by
  intro v
  induction v with
  | nil =>
    intro out y k hk hl
    obtain ⟨k, rfl⟩ : ∃ j, k = j + 1 := ⟨k - 1, by simp at hk; omega⟩
    simp only [List.flatMap_nil, List.nil_append, litGo]
    rw [if_neg (by decide), if_neg (by decide), if_pos (by decide), if_pos (by omega), if_neg (by simpa using hl)]
    simp
  | cons c v ih =>
    intro out y k hk hl
    obtain ⟨k, rfl⟩ : ∃ j, k = j + 1 := ⟨k - 1, by omega⟩
    simp only [List.length_cons] at hk hl
    have := ih (out ++ [c]) y k (by omega) (by simp; omega)
    rw [List.flatMap_cons, List.append_assoc, litGo_byte c k out _ _ _ (by simp) this]
    simp; omega
theorem flat_len (v : Bytes) : v.length ≤ (v.flatMap litByte).length := by
  induction v with
  | nil => simp
  | cons c v ih => rw [List.flatMap_cons, List.length_append, List.length_cons]; have := litByte_pos c; omega
theorem literal_put (v y : Bytes) (h : v.length ≤ 65536) : literal (v.flatMap litByte ++ [41] ++ y) = .ok v ((v.flatMap litByte).length + 2) := by
  unfold literal
  have := flat_len v
  rw [List.append_assoc, List.singleton_append, litGo_put v [] y _ (by rw [List.length_append, List.length_cons]; omega) (by simpa using h)]
  simp [Res.more]

/-! ### numbers -/
theorem dg_byte {n : Nat} (h : n < 10) : isDigit (UInt8.ofNat (48 + n)) = true ∧ (UInt8.ofNat (48 + n)).toNat - 48 = n := by
  have : ∀ i : Fin 10, isDigit (UInt8.ofNat (48 + i.val)) = true ∧ (UInt8.ofNat (48 + i.val)).toNat - 48 = i.val := by decide +kernel
  exact this ⟨n, h⟩
theorem dec_big {u : Nat} (h : ¬ u < 10) : Lib.decDigits u = Lib.decDigits (u / 10) ++ [UInt8.ofNat (48 + u % 10)] := by
  rw [Lib.decDigits, dif_neg h]
theorem dec_dig : ∀ u : Nat, (Lib.decDigits u).all isDigit = true ∧ decVal (Lib.decDigits u) = u ∧ Lib.decDigits u ≠ [] := by
  intro u
  induction u using Nat.strongRecOn with
  | ind u ih =>
    by_cases h : u < 10
    · rw [Lib.decDigits_one h]
      obtain ⟨h1, h2⟩ := dg_byte h
      refine ⟨by rw [List.all_cons, h1]; rfl, ?_, by simp⟩
      simp only [decVal, List.foldl_cons, List.foldl_nil]; omega
    · rw [dec_big h]
      obtain ⟨h1, h2, h3⟩ := ih (u / 10) (by omega)
      obtain ⟨h4, h5⟩ := dg_byte (n := u % 10) (by omega)
      refine ⟨by rw [List.all_append, h1, List.all_cons, h4]; rfl, ?_, by simp⟩
      have : decVal (Lib.decDigits (u / 10) ++ [UInt8.ofNat (48 + u % 10)]) = 10 * decVal (Lib.decDigits (u / 10)) + ((UInt8.ofNat (48 + u % 10)).toNat - 48) := by
        simp only [decVal, List.foldl_append, List.foldl_cons, List.foldl_nil]
      rw [this, h2, h5]; omega
theorem decVal_trim : ∀ l : Bytes, decVal (trimL l) = decVal l := by
  intro l
  induction l with
  | nil => rfl
  | cons c l ih =>
    simp only [trimL, List.dropWhile_cons] at *
    split
    · rename_i hc
      rw [ih]
      have : c = 48 := by simpa using hc
      subst this
      simp [decVal]
    · rfl
theorem digit_bytes {c : UInt8} (h : isDigit c = true) : isReg c = true ∧ (c == 45) = false ∧ (c == 43) = false ∧ (c == 46) = false := by
  have := all_bytes (p := fun c => !isDigit c || (isReg c && !(c == 45) && !(c == 43) && !(c == 46))) (by decide +kernel) c
  simp only [h, Bool.not_true, Bool.false_or, Bool.and_eq_true, Bool.not_eq_true'] at this
  obtain ⟨⟨⟨a, b⟩, c⟩, d⟩ := this
  exact ⟨a, b, c, d⟩
theorem dig_dot {d : Bytes} (h : d.all isDigit = true) : dotA d = d ∧ dotB d = [] ∧ dotP d = false := by
  induction d with
  | nil => simp [dotA, dotB, dotP]
  | cons c d ih =>
    simp only [List.all_cons, Bool.and_eq_true] at h
    obtain ⟨a, b, p⟩ := ih h.2
    have h46 := (digit_bytes h.1).2.2.2
    simp only [dotA, dotB, dotP, List.takeWhile_cons, List.dropWhile_cons, List.any_cons, bne, h46, Bool.not_false, if_true, Bool.false_or] at *
    exact ⟨by rw [a], b, p⟩
theorem cut_digits {d : Bytes} (neg : Bool) (w : Bytes) (hs : sgn w = (neg, d)) (h : d.all isDigit = true) (h0 : d ≠ []) : cutN w = ⟨1, neg, d, []⟩ := by
  obtain ⟨a, b, p⟩ := dig_dot h
  unfold cutN
  rw [hs]
  simp only [a, b, p]
  rw [if_pos (by simp [allDig, h, none2, h0])]
  rfl
theorem sgn_dig {d : Bytes} (h : d.all isDigit = true) : sgn d = (false, d) := by
  cases d with
  | nil => rfl
  | cons c d =>
    simp only [List.all_cons, Bool.and_eq_true] at h
    obtain ⟨_, h1, h2, _⟩ := digit_bytes h.1
    simp [sgn, h1, h2]
theorem dig_reg {d : Bytes} (h : d.all isDigit = true) : d.all isReg = true := by
  rw [List.all_eq_true] at *
  intro c hc
  exact (digit_bytes (h c hc)).1
theorem trimL_len (l : Bytes) : (trimL l).length ≤ l.length := (List.dropWhile_sublist _).length_le
theorem dec_len {u : Nat} (h : u < 10000000000) : (Lib.decDigits u).length ≤ 10 := by
  rw [Lib.decDigits_length]
  by_cases h0 : u = 0
  · subst h0; rw [Lib.nDigits_small (by omega)]; omega
  · have : ∀ (k : Nat) (u : Nat), u < 10 ^ (k + 1) → Lib.nDigits u ≤ k + 1 := by
      intro k
      induction k with
      | zero => intro u hu; rw [Lib.nDigits_small (by omega)]; omega
      | succ k ih =>
        intro u hu
        by_cases h : u < 10
        · rw [Lib.nDigits_small h]; omega
        · rw [Lib.nDigits_big h]
          have := ih (u / 10) (by rw [Nat.pow_succ] at hu; omega)
          omega
    exact this 9 u (by simpa using h)
theorem itoa_lex (n : Int) (h1 : n ≤ 2147483647) (h2 : -2147483647 ≤ n) :
    numKind (Lib.itoa n) = 1 ∧ numInt (Lib.itoa n) = (n, 0) ∧ (Lib.itoa n).all isReg = true ∧ Lib.itoa n ≠ [] := by
  by_cases hn : n < 0
  · have hi : Lib.itoa n = 45 :: Lib.decDigits n.natAbs := by unfold Lib.itoa; rw [if_pos hn]
    obtain ⟨a, b, c⟩ := dec_dig n.natAbs
    have hc := cut_digits true (Lib.itoa n) (by rw [hi]; rfl) a c
    refine ⟨by unfold numKind; rw [hc], ?_, ?_, by rw [hi]; simp⟩
    · unfold numInt
      simp only [hc]
      have l1 := trimL_len (Lib.decDigits n.natAbs)
      have l2 := dec_len (u := n.natAbs) (by omega)
      have hv : decVal (trimL (Lib.decDigits n.natAbs)) = n.natAbs := by rw [decVal_trim, b]
      have hne : trimL (Lib.decDigits n.natAbs) ≠ [] := by
        intro e; rw [e] at hv; simp [decVal] at hv; omega
      rw [if_neg (by decide), if_neg (by omega), hv, if_neg (by omega), if_pos (by simp [none2, hne])]
      simp only [Prod.mk.injEq, and_true]; omega
    · rw [hi]
      simp only [List.all_cons, dig_reg a, Bool.and_true]
      decide
  · have hi : Lib.itoa n = Lib.decDigits n.toNat := by unfold Lib.itoa; rw [if_neg hn]
    obtain ⟨a, b, c⟩ := dec_dig n.toNat
    have hc := cut_digits false (Lib.itoa n) (by rw [hi]; exact sgn_dig a) a c
    refine ⟨by unfold numKind; rw [hc], ?_, by rw [hi]; exact dig_reg a, by rw [hi]; exact c⟩
    unfold numInt
    simp only [hc]
    have l1 := trimL_len (Lib.decDigits n.toNat)
    have l2 := dec_len (u := n.toNat) (by omega)
    have hv : decVal (trimL (Lib.decDigits n.toNat)) = n.toNat := by rw [decVal_trim, b]
    rw [if_neg (by decide), if_neg (by omega), hv, if_neg (by omega), if_neg (by simp)]
    simp only [Prod.mk.injEq, and_true]; omega

theorem cut_reg {w : Bytes} (h : numKind w ≠ 0) : w.all isReg = true ∧ w ≠ [] := by
  have key : allDig (dotA (sgn w).2) = true ∧ allDig (dotB (sgn w).2) = true ∧ none2 (dotA (sgn w).2) (dotB (sgn w).2) = false := by
    unfold numKind cutN at h
    split at h
    · rename_i hc; simp only [Bool.and_eq_true, Bool.not_eq_true'] at hc; exact ⟨hc.1.1, hc.1.2, hc.2⟩
    · simp at h
  obtain ⟨ka, kb, kn⟩ := key
  have hdot : ∀ l : Bytes, allDig (dotA l) = true → allDig (dotB l) = true → l.all isReg = true := by
    intro l ha hb
    have hl : l = dotA l ++ l.dropWhile (· != 46) := (List.takeWhile_append_dropWhile).symm
    rw [hl, List.all_append, dig_reg ha, Bool.true_and]
    unfold dotB at hb
    cases hd : l.dropWhile (· != 46) with
    | nil => rfl
    | cons c r =>
      rw [hd] at hb
      have h46 : c = 46 := by
        have := List.head?_dropWhile_not (p := (· != (46 : UInt8))) (l := l)
        rw [hd] at this
        simpa using this
      simp only [List.drop_succ_cons, List.drop_zero] at hb
      rw [List.all_cons, dig_reg hb, h46]
      decide
  have h2 := hdot _ ka kb
  cases w with
  | nil => simp [sgn, dotA, dotB, none2] at kn
  | cons c w =>
    refine ⟨?_, by simp⟩
    simp only [sgn] at h2
    split at h2
    · rename_i hc; simp only [beq_iff_eq] at hc; simp only at h2; rw [List.all_cons, h2, hc]; decide
    · split at h2
      · rename_i hc; simp only [beq_iff_eq] at hc; simp only at h2; rw [List.all_cons, h2, hc]; decide
      · exact h2
theorem real_lex {s : Bytes} (h : numReal s = (s, 0)) : numKind s = 2 := by
  unfold numReal at h
  simp only at h
  split at h
  · simp at h
  · rename_i hk; simp only [ne_eq, Decidable.not_not] at hk; exact hk

/-! ### tokens -/
theorem lastReg_all {x : Bytes} (h : x.all isReg = true) (h0 : x ≠ []) : lastReg x = true := by
  unfold lastReg
  rw [List.getLast?_eq_some_getLast h0]
  exact List.all_eq_true.1 h _ (List.getLast_mem h0)
theorem lex_regs {x y : Bytes} (hx : x.all isReg = true) (h0 : x ≠ []) (hy : halts y = true) : lex (x ++ y) = lexed (plainT x).1 (plainT x).2 x.length := by
  cases x with
  | nil => exact absurd rfl h0
  | cons c x =>
    have ht := takeWhile_append_halts hy hx
    have hc : isReg c = true := by simp only [List.all_cons, Bool.and_eq_true] at hx; exact hx.1
    obtain ⟨d1, d2, d3, d4, d5, d6, d7⟩ := not_reg_delims hc
    have hr : run (c :: x ++ y) = (c :: x).length := by unfold run; rw [ht]
    simp only [List.cons_append] at *
    simp only [lex, d1, d2, d3, d4, d5, d6, d7, ht, hr]
    simp
/-- A put token's bytes are it, whatever stands behind them that halts it, where that is wanted. -/
theorem lex_text (t : T) (x y : Bytes) (h : textT t.kind t.n t.s = (x, 0)) (hk : t.kind ≠ 0) (hy : (t.kind == 3 || lastReg x) = true → halts y = true) :
    lex (x ++ y) = .ok t x.length ∧ ∃ c z, x = c :: z ∧ starts c = true := by
  obtain ⟨k, n, s⟩ := t
  simp only at *
  unfold textT at h
  split at h
  · simp at h
  rename_i hrange
  simp only [not_or, not_and, Decidable.not_not, Int.not_lt] at hrange
  obtain ⟨_, hk9, hn0⟩ := hrange
  split at h
  · -- a real
    rename_i h2
    have hk2 : k = 2 := by omega
    subst hk2
    obtain rfl : n = 0 := hn0 (by decide)
    unfold realPut at h
    split at h
    · simp at h
    · rename_i hr
      simp only [not_or, Decidable.not_not] at hr
      simp only [Prod.mk.injEq, and_true] at h
      subst h
      have hnr : numReal s = (s, 0) := Prod.ext hr.2 hr.1
      have hkd := real_lex hnr
      obtain ⟨ha, h0⟩ := cut_reg (w := s) (by omega)
      have := lex_regs ha h0 (hy (by simp [lastReg_all ha h0]))
      refine ⟨?_, ?_⟩
      · rw [this]; simp [plainT, hkd, hnr, lexed]
      · cases s with
        | nil => exact absurd rfl h0
        | cons c s => simp only [List.all_cons, Bool.and_eq_true] at ha; exact ⟨c, s, rfl, reg_starts ha.1⟩
  split at h
  · -- a name
    rename_i h3
    have hk3 : k = 3 := by omega
    subst hk3
    obtain rfl : n = 0 := hn0 (by decide)
    unfold namePut at h
    split at h
    · rename_i hc; simp only [Prod.mk.injEq] at h; exact absurd h.2 hc
    · rename_i hc
      simp only [ne_eq, Decidable.not_not] at hc
      simp only [Prod.mk.injEq, and_true] at h
      subst h
      refine ⟨?_, 47, _, rfl, by decide⟩
      have hh := hy rfl
      unfold nameCheck at hc
      split at hc
      · omega
      · rename_i hlen
        split at hc
        · omega
        · rename_i hz
          have ht := takeWhile_append_halts hh (name_reg s)
          have hr : run (s.flatMap nameByte ++ y) = (s.flatMap nameByte).length := by unfold run; rw [ht]
          have hrd := readN_put s (Bool.eq_false_iff.2 hz)
          have hst : nameStrict (s.flatMap nameByte) = (s, 0) := by unfold nameStrict; rw [name_reg, hrd]; simp; omega
          simp only [List.cons_append, lex, ht, hr, hst]
          rw [if_neg (by decide), if_neg (by decide), if_neg (by decide), if_neg (by decide), if_neg (by decide), if_neg (by decide), if_pos (by decide)]
          simp only [lexed, if_true, List.length_cons, Lexed.ok.injEq, true_and]; omega
  split at h
  · -- a string
    rename_i h4
    have hk4 : k = 4 := by omega
    subst hk4
    obtain rfl : n = 0 := hn0 (by decide)
    unfold litPut at h
    split at h
    · simp at h
    · rename_i hl
      simp only [Prod.mk.injEq, and_true] at h
      subst h
      refine ⟨?_, 40, _, rfl, by decide⟩
      have := literal_put s y (by omega)
      simp only [List.cons_append, lex, this]
      rw [if_neg (by decide), if_neg (by decide), if_neg (by decide), if_neg (by decide), if_neg (by decide), if_pos (by decide)]
      simp [ofRes]
  split at h
  · -- a word
    rename_i h9
    have hk9 : k = 9 := by omega
    subst hk9
    obtain rfl : n = 0 := hn0 (by decide)
    unfold wordPut at h
    split at h
    · simp at h
    · rename_i hw
      simp only [not_or, Decidable.not_not, Nat.not_lt] at hw
      obtain ⟨h0, hl, hr, hkd⟩ := hw
      simp only [Prod.mk.injEq, and_true] at h
      subst h
      have ha := (run_all hr).2
      have := lex_regs ha h0 (hy (by simp [lastReg_all ha h0]))
      refine ⟨?_, ?_⟩
      · rw [this]; simp [plainT, hkd, lexed, show ¬ 127 < s.length by omega]
      · cases s with
        | nil => exact absurd rfl h0
        | cons c s => simp only [List.all_cons, Bool.and_eq_true] at ha; exact ⟨c, s, rfl, reg_starts ha.1⟩
  split at h
  · simp at h
  rename_i hs
  simp only [ne_eq, Decidable.not_not] at hs
  subst hs
  split at h
  · -- a whole number
    rename_i h1
    have hk1 : k = 1 := by omega
    subst hk1
    unfold intText at h
    split at h
    · simp at h
    · rename_i hb
      simp only [not_or, Int.not_lt] at hb
      simp only [Prod.mk.injEq, and_true] at h
      subst h
      obtain ⟨a, b, c, d⟩ := itoa_lex n hb.1 hb.2
      have := lex_regs c d (hy (by simp [lastReg_all c d]))
      refine ⟨?_, ?_⟩
      · rw [this]; simp [plainT, a, b, lexed]
      · revert c d
        cases Lib.itoa n with
        | nil => intro _ d; exact absurd rfl d
        | cons c s => intro ha _; simp only [List.all_cons, Bool.and_eq_true] at ha; exact ⟨c, s, rfl, reg_starts ha.1⟩
  · -- a bracket
    rename_i h2 h3 h4 h9 h1
    obtain rfl : n = 0 := hn0 h1
    simp only [Prod.mk.injEq, and_true] at h
    subst h
    have : k = 5 ∨ k = 6 ∨ k = 7 ∨ k = 8 := by omega
    rcases this with rfl | rfl | rfl | rfl
    · exact ⟨by simp [fixedT, lex], 91, [], rfl, by decide⟩
    · exact ⟨by simp [fixedT, lex], 93, [], rfl, by decide⟩
    · exact ⟨by simp [fixedT, lex], 60, [60], rfl, by decide⟩
    · exact ⟨by simp [fixedT, lex], 62, [62], rfl, by decide⟩

/-- Tokens that may be put, and are no end. -/
def Puts (ts : List T) : Prop := ∀ t ∈ ts, (textT t.kind t.n t.s).2 = 0 ∧ t.kind ≠ 0
theorem halts_join : ∀ ts : List T, Puts ts → halts (joinT true ts) = true := by
  intro ts h
  cases ts with
  | nil => rfl
  | cons t ts =>
    obtain ⟨h1, h2⟩ := h t (by simp)
    obtain ⟨_, c, z, hx, hc⟩ := lex_text t _ [] (Prod.ext rfl h1) h2 (fun _ => rfl)
    simp only [joinT, hx]
    rw [if_neg (by simp)]
    by_cases hr : isReg c = true
    · simp [glue, headReg, hr, halts]; decide
    · simp [glue, headReg, hr, halts]
theorem toks_join : ∀ (ts : List T) (w : Bool) (pre : Bytes), Puts ts → ∃ ts', Toks (pre ++ joinT w ts) pre.length ts' (pre ++ joinT w ts).length 0 ∧ ts'.map (·.t) = ts := by
  intro ts
  induction ts with
  | nil =>
    intro w pre _
    have hn : nextAt (pre ++ joinT w []) pre.length = (⟨⟨0, 0, []⟩, pre.length, pre.length⟩, 0) := by
      unfold nextAt
      simp [joinT, skip, skipR]
    exact ⟨[], .done (by rw [hn]) (by rw [hn]), rfl⟩
  | cons t ts ih =>
    intro w pre h
    obtain ⟨h1, h2⟩ := h t (by simp)
    have hP : Puts ts := fun u hu => h u (by simp [hu])
    obtain ⟨x, hx⟩ : ∃ x, (textT t.kind t.n t.s).1 = x := ⟨_, rfl⟩
    have hl := lex_text t x (joinT (t.kind == 3 || lastReg x) ts) (Prod.ext hx h1) h2 (fun e => by rw [e]; exact halts_join ts hP)
    obtain ⟨hlex, c, z, hxc, hc⟩ := hl
    have hj : joinT w (t :: ts) = glue w x ++ x ++ joinT (t.kind == 3 || lastReg x) ts := by
      simp only [joinT, hx]; rw [if_neg (by rw [hxc]; simp)]
    obtain ⟨ts', h3, h4⟩ := ih (t.kind == 3 || lastReg x) (pre ++ glue w x ++ x) hP
    have hall : pre ++ joinT w (t :: ts) = pre ++ glue w x ++ x ++ joinT (t.kind == 3 || lastReg x) ts := by rw [hj]; simp [List.append_assoc]
    generalize joinT (t.kind == 3 || lastReg x) ts = y at *
    have hs0 : skip (x ++ y) = 0 := by
      rw [hxc]
      simp only [starts, Bool.and_eq_true, Bool.not_eq_true', bne_iff_ne, ne_eq] at hc
      simp [skip, skipR, hc.1, hc.2]
    have hgs : skip (glue w x ++ (x ++ y)) = (glue w x).length := by
      unfold glue; split
      · have h32 : skip (32 :: (x ++ y)) = 1 + skip (x ++ y) := by simp [skip, skipR, isWhite]
        simpa [hs0] using h32
      · simpa using hs0
    refine ⟨⟨t, pre.length + (glue w x).length, (pre ++ glue w x ++ x).length⟩ :: ts', ?_, by simp [h4]⟩
    rw [hall]
    refine .more ?_ h2 h3
    have hd1 : (pre ++ glue w x ++ x ++ y).drop pre.length = glue w x ++ (x ++ y) := by simp [List.append_assoc]
    have hd2 : (pre ++ glue w x ++ x ++ y).drop (pre.length + (glue w x).length) = x ++ y := by
      rw [← List.drop_drop, hd1]; simp
    unfold nextAt
    simp only [hd1, hgs, hd2, hlex]
    rw [if_neg (by rw [hxc]; simp)]
    simp [Nat.add_assoc]
theorem all_join (ts : List T) (h : Puts ts) : (all (joinT false ts)).2.1 = (joinT false ts).length ∧ (all (joinT false ts)).2.2 = 0 ∧ (all (joinT false ts)).1.map (·.t) = ts := by
  obtain ⟨ts', h1, h2⟩ := toks_join ts false [] h
  have := all_unique (all_toks _) h1
  simp only [List.nil_append] at this
  exact ⟨this.2.1, this.2.2, by rw [this.1, h2]⟩
end Go.Proofs.YtgkhnpldjdbmoaaGreatDoor
