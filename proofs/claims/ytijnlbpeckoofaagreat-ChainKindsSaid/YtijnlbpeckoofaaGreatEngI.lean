/- A machine that runs closed calls: maps that are written, rows that are copied. -/
import Derived.Test.YtijnlbpeckoofaaGreatEngH
set_option linter.unusedVariables false
set_option linter.unusedSimpArgs false
namespace Go.Proofs.YtijnlbpeckoofaaGreat
open Go.RowKit
variable {P : Program} {base : Nat} {Γ : Tie} {m : Mem} {w : World} {ev : Operand → Option AV} {ρ : Operand → Value}

theorem plainSame_ok {a b : AV} (h : plainSame a b = true) {u v : Value} (ha : rel Γ a u) (hb : rel Γ b v) (n : Nat) : Instr.sameBits n u v = true := by
  unfold plainSame at h
  split at h
  · simp only [rel] at ha hb; subst ha hb
    split at h
    · rename_i e; subst e; cases n <;> simpa [Instr.sameBits] using h
    · simp at h
  · simp only [rel] at ha hb
    obtain ⟨rfl, _⟩ := ha
    obtain ⟨rfl, _⟩ := hb
    simp only [Bool.and_eq_true] at h
    rw [Nat.eq_of_beq_eq_true h.1, Nat.eq_of_beq_eq_true h.2]
    cases n <;> simp [Instr.sameBits, beq_toListBytes]
  · simp only [rel] at ha hb; subst ha hb
    cases n <;> simpa [Instr.sameBits] using h
  · cases h
theorem plainSames_ok (n : Nat) : ∀ {xs ys : List AV} {us vs : List Value}, plainSames xs ys = true → relL Γ xs us → relL Γ ys vs → us.length = vs.length ∧ ((us.zip vs).all fun (x, y) => Instr.sameBits n x y) = true
  | [], [], us, vs, h, ha, hb => by simp only [relL] at ha hb; subst ha hb; exact ⟨rfl, rfl⟩
  | [], y :: ys, us, vs, h, ha, hb => by cases h
  | x :: xs, [], us, vs, h, ha, hb => by cases h
  | x :: xs, y :: ys, us, vs, h, ha, hb => by
    simp only [relL] at ha hb
    obtain ⟨u, us', rfl, a1, a2⟩ := ha
    obtain ⟨v, vs', rfl, b1, b2⟩ := hb
    simp only [plainSames, Bool.and_eq_true] at h
    obtain ⟨h1, h2⟩ := plainSames_ok n h.2 a2 b2
    exact ⟨by simp [h1], by simp only [List.zip_cons_cons, List.all_cons, Bool.and_eq_true]; exact ⟨plainSame_ok h.1 a1 b1 n, h2⟩⟩
theorem keySame_ok {a b : AV} (h : keySame a b = true) {u v : Value} (ha : rel Γ a u) (hb : rel Γ b v) : Instr.sameBits 10000 u v = true := by
  unfold keySame at h
  split at h
  · simp only [rel] at ha hb
    obtain ⟨us, rfl, h1⟩ := ha
    obtain ⟨vs, rfl, h2⟩ := hb
    obtain ⟨h3, h4⟩ := plainSames_ok 9999 h h1 h2
    show ((⟨us⟩ : Array Value).size == (⟨vs⟩ : Array Value).size && ((⟨us⟩ : Array Value).toList.zip (⟨vs⟩ : Array Value).toList).all fun (x, y) => Instr.sameBits 9999 x y) = true
    simp only [List.size_toArray, h3, beq_self_eq_true, Bool.true_and]
    exact h4
  · exact plainSame_ok h ha hb 10000
theorem relE.get {es : List (AV × AV × Nat)} {l : List MapEntry} (h : relE Γ es l) {i : Nat} {e : AV × AV × Nat} (he : es[i]? = some e) : ∃ e', l[i]? = some e' ∧ rel Γ e.1 e'.key ∧ rel Γ e.2.1 e'.val ∧ e'.born = e.2.2 := by
  induction es generalizing l i with
  | nil => cases he
  | cons x es ih =>
    obtain ⟨k, v, b⟩ := x
    obtain ⟨e0, l', rfl, h1, h2, h3, h4⟩ := h
    cases i with
    | zero => simp at he; subst he; exact ⟨e0, rfl, h1, h2, h3⟩
    | succ i => simpa using ih h4 (by simpa using he)
theorem relE.upd {k v : AV} {kv vv : Value} (hk : rel Γ k kv) (hv : rel Γ v vv) : ∀ {es : List (AV × AV × Nat)} {l : List MapEntry} {i : Nat}, relE Γ es l → relE Γ (updA k v es i) (l.modify i fun e => { e with key := kv, val := vv })
  | [], l, i, h => by simp only [relE] at h; subst h; simp only [updA, List.modify_nil, relE]
  | (k', v', b) :: es, l, 0, h => by
    obtain ⟨e0, l', rfl, h1, h2, h3, h4⟩ := h
    simp only [updA, List.modify_zero_cons, relE]
    exact ⟨_, _, rfl, hk, hv, h3, h4⟩
  | (k', v', b) :: es, l, i + 1, h => by
    obtain ⟨e0, l', rfl, h1, h2, h3, h4⟩ := h
    simp only [updA, List.modify_succ_cons, relE]
    exact ⟨_, _, rfl, h1, h2, h3, h4.upd hk hv⟩
theorem relE.snoc {k v : AV} {b : Nat} {e' : MapEntry} (h1 : rel Γ k e'.key) (h2 : rel Γ v e'.val) (h3 : e'.born = b) : ∀ {es : List (AV × AV × Nat)} {l : List MapEntry}, relE Γ es l → relE Γ (es ++ [(k, v, b)]) (l ++ [e'])
  | [], l, h => by simp only [relE] at h; subst h; exact ⟨e', [], rfl, h1, h2, h3, rfl⟩
  | (k', v', b') :: es, l, h => by
    obtain ⟨e0, l', rfl, g1, g2, g3, g4⟩ := h
    exact ⟨e0, _, rfl, g1, g2, g3, g4.snoc h1 h2 h3⟩
theorem setObj_map {r : Nat} {es : Array MapEntry} {clock : Nat} {o : Obj} (h : w.heap[r]? = some (.map es clock)) : (setObj r o).run P w = .ok () (upd w r o) := by
  simp [setObj, Sem.run, h, upd]
theorem updateA_run (hR : Rep base Γ m.H w) {t : TypeId} {a k v : AV} {m' : Mem} (h : updateA P m t a k v = some m') {u kv vv : Value} (ha : rel Γ a u) (hk : rel Γ k kv) (hv : rel Γ v vv) :
    ∃ w', (Instr.mapUpdate t u kv vv).run P w = .ok () w' ∧ Moves base Γ m w Γ m' w' := by
  unfold updateA at h
  split at h
  case h_2 => cases h
  rename_i key elem hu
  split at h
  case h_2 => cases h
  rename_i kd hkd
  cases hc : (plainKey P kd && keyFits P kd k) with
  | false => rw [hc] at h; cases h
  | true =>
    rw [hc] at h
    simp only [Bool.and_eq_true] at hc
    simp only [cond_true] at h
    split at h
    case h_2 => cases h
    rename_i b
    split at h
    case h_2 => cases h
    rename_i es clock hb
    simp only [rel] at ha
    obtain ⟨j, hj, rfl⟩ := ha
    obtain ⟨j', es', hj', _, h3, h4⟩ := hR.mapAt hb
    rw [hj] at hj'; cases hj'
    have hget := getObj_map (P := P) h3
    have h1 := check_run (P := P) hkd hc.1 hc.2 hk false 9998 w
    split at h
    · rename_i i a' hf
      obtain ⟨r', h5, h5'⟩ := findA_run hkd hk hf h4 w
      obtain ⟨c, rfl, h6⟩ := h5'
      split at h
      case h_2 => cases h
      rename_i e he
      cases hks : keySame e.1 k with
      | false => rw [hks] at h; cases h
      | true =>
        rw [hks] at h; cases h
        obtain ⟨e', g1, g2, g3, g4⟩ := h4.get he
        have g5 : es'[i]? = some e' := by simpa using g1
        have hst : (Instr.keyThatStays (((es'[i]?).map (·.key)).getD kv) kv).run P w = .ok kv w := by
          rw [g5]
          simp [Instr.keyThatStays, keySame_ok hks g2 hk]
        refine ⟨upd w j.blk (.map (es'.modify i fun e => { e with key := kv, val := vv }) clock), ?_, Moves.put hR hb hj rfl rfl rfl rfl rfl ⟨_, rfl, by
          have : (es'.modify i fun e => { e with key := kv, val := vv }).toList = es'.toList.modify i fun e => { e with key := kv, val := vv } := by simp
          rw [this]; exact h4.upd hk hv⟩⟩
        simp only [Instr.mapUpdate, Sem.run_bind, run_underlying hu, Result.andThen_ok, hget, h1, h5, hst, setObj_map (P := P) h3]
    · rename_i hf
      obtain ⟨r', h5, rfl⟩ := findA_run hkd hk hf h4 w
      cases h
      refine ⟨upd w j.blk (.map (es'.push { key := kv, val := vv, born := clock }) (clock + 1)), ?_, Moves.put hR hb hj rfl rfl rfl rfl rfl ⟨_, rfl, by
        rw [Array.toList_push]; exact h4.snoc (e' := { key := kv, val := vv, born := clock }) hk hv rfl⟩⟩
      simp only [Instr.mapUpdate, Sem.run_bind, run_underlying hu, Result.andThen_ok, hget, h1, h5, setObj_map (P := P) h3]
    · cases h
end Go.Proofs.YtijnlbpeckoofaaGreat
