/- A machine that runs closed calls: what is written. -/
import Derived.Test.YtijnlbpeckoofaaGreatEngA
set_option linter.unusedVariables false
set_option linter.unusedSimpArgs false
namespace Go.Proofs.YtijnlbpeckoofaaGreat
open Go.RowKit
variable {P : Program} {base : Nat} {Γ : Tie} {m : Mem} {w : World} {ev : Operand → Option AV} {ρ : Operand → Value}

def upd (w : World) (b : Nat) (o : Obj) : World := { w with heap := w.heap.setIfInBounds b o }
theorem upd_self {w : World} {b : Nat} {o : Obj} (h : w.heap[b]? = some o) : upd w b o = w := by
  unfold upd
  have : w.heap.setIfInBounds b o = w.heap := by
    apply Array.ext_getElem?
    intro k
    by_cases hk : b = k
    · subst hk
      rw [Array.getElem?_setIfInBounds_self_of_lt (Array.getElem?_eq_some_iff.1 h).1, h]
    · rw [Array.getElem?_setIfInBounds_ne hk]
  rw [this]
theorem upd_heap {w : World} {b : Nat} {o o' : Obj} (h : w.heap[b]? = some o) : (upd w b o').heap[b]? = some o' :=
  Array.getElem?_setIfInBounds_self_of_lt (Array.getElem?_eq_some_iff.1 h).1
theorem upd_upd (w : World) (b : Nat) (o o' : Obj) : upd (upd w b o) b o' = upd w b o' := by
  simp [upd]
theorem setCell_upd {w : World} {b off : Nat} {c : Array Value} {e : TypeId} {fr : Nat × Nat} (h : w.heap[b]? = some (.cells c e fr)) (v : Value) : w.setCell ⟨b, off, none⟩ v = upd w b (.cells (c.setIfInBounds off v) e fr) := by
  unfold World.setCell upd
  congr 1
  apply Array.ext_getElem?
  intro k
  rw [Array.getElem?_modify]
  by_cases hk : b = k
  · subst hk
    rw [if_pos rfl, Array.getElem?_setIfInBounds_self_of_lt (Array.getElem?_eq_some_iff.1 h).1, h]
    rfl
  · rw [if_neg hk, Array.getElem?_setIfInBounds_ne hk]
theorem one_cell {a : AV} {v : Value} (h : one a = true) (hr : rel Γ a v) : v.oneCell' = true := by
  cases a <;> simp only [rel] at hr <;> simp only [one] at h
  case agg => cases h
  case tuple => cases h
  case str => obtain ⟨rfl, _⟩ := hr; rfl
  case ptr => obtain ⟨i, hi, rfl⟩ := hr; rfl
  case slice => obtain ⟨i, c, hi, rfl, _⟩ := hr; rfl
  case map => obtain ⟨i, hi, rfl⟩ := hr; rfl
  case func => obtain ⟨_, _, _, rfl, _⟩ := hr; rfl
  case iface => obtain ⟨_, rfl, _⟩ := hr; rfl
  case hollow => obtain ⟨i, o, c, hi, rfl⟩ := hr; rfl
  all_goals (subst hr; rfl)
theorem store_run {b off : Nat} {c : Array Value} {e : TypeId} {lo hi : Nat} (h : w.heap[b]? = some (.cells c e (lo, hi))) (hlt : off < c.size) (hf : ¬ (lo ≤ off ∧ off < hi)) {v : Value} (h1 : v.oneCell' = true) :
    (store ⟨b, off, none⟩ v).run P w = .ok () (upd w b (.cells (c.setIfInBounds off v) e (lo, hi))) := by
  rw [run_store P w _ _ _ h1]
  have hc : w.cell? ⟨b, off, none⟩ = some c[off] := by rw [cellAt h]; simp [hlt]
  have hfz : w.frozen? ⟨b, off, none⟩ = false := by
    unfold World.frozen?
    rw [h]
    simp only [Bool.and_eq_false_iff, decide_eq_false_iff_not]
    by_cases h2 : lo ≤ off
    · exact .inr fun h3 => hf ⟨h2, h3⟩
    · exact .inl h2
  rw [hc, hfz]
  simp only [Bool.false_eq_true, if_false]
  rw [setCell_upd h]
theorem storeCells_run {b off : Nat} {e : TypeId} {lo hi : Nat} : ∀ (vs : List Value) (i : Nat) (c : Array Value) (w : World), w.heap[b]? = some (.cells c e (lo, hi)) → off + i + vs.length ≤ c.size →
    (∀ j, j < vs.length → ¬ (lo ≤ off + i + j ∧ off + i + j < hi)) → (∀ v ∈ vs, v.oneCell' = true) → (storeCells ⟨b, off, none⟩ vs i).run P w = .ok () (upd w b (.cells ⟨setAt c.toList (off + i) vs⟩ e (lo, hi)))
  | [], i, c, w, h, hl, hf, h1 => by
    simp only [storeCells, setAt, Sem.run_pure]
    rw [show (⟨c.toList⟩ : Array Value) = c by simp, upd_self h]
  | v :: vs, i, c, w, h, hl, hf, h1 => by
    simp only [List.length_cons] at hl
    simp only [storeCells, Sem.run_bind, addr_add]
    rw [store_run h (by omega) (by simpa using hf 0 (by simp)) (h1 v (by simp))]
    simp only [Result.andThen_ok]
    rw [storeCells_run vs (i + 1) _ _ (upd_heap h) (by simpa [Nat.add_assoc, Nat.add_comm 1] using hl) (fun j hj => by
      have := hf (j + 1) (by simp; omega)
      rwa [show off + i + (j + 1) = off + (i + 1) + j by omega] at this) (fun u hu => h1 u (by simp [hu])), upd_upd]
    simp [setAt, Nat.add_assoc]
theorem setAt_get {α : Type} : ∀ (xs cs : List α) (i j : Nat), i + xs.length ≤ cs.length → (setAt cs i xs)[j]? = if i ≤ j ∧ j < i + xs.length then xs[j - i]? else cs[j]?
  | [], cs, i, j, h => by simp only [setAt, List.length_nil]; rw [if_neg (by omega)]
  | x :: xs, cs, i, j, h => by
    simp only [List.length_cons] at h
    simp only [setAt, List.length_cons]
    rw [setAt_get xs (cs.set i x) (i + 1) j (by simp; omega)]
    by_cases h1 : j = i
    · subst h1
      rw [if_neg (by omega), if_pos (by omega)]
      simp [List.getElem?_set_self (show j < cs.length by omega)]
    · by_cases h2 : i + 1 ≤ j ∧ j < i + 1 + xs.length
      · rw [if_pos h2, if_pos (by omega)]
        obtain ⟨d, rfl⟩ : ∃ d, j = i + 1 + d := ⟨j - (i + 1), by omega⟩
        rw [show i + 1 + d - i = d + 1 by omega, show i + 1 + d - (i + 1) = d by omega]; simp
      · rw [if_neg h2, if_neg (by omega), List.getElem?_set_ne (by omega)]
/-- A row with some cells written is a row. -/
theorem relO_write {i : BI} {n : Nat} {tr : PT AV} {e : TypeId} {opn : Bool} {c : Array Value} {lo hi : Nat} (hsz : c.size = i.tot) (hn : n ≤ c.size) (hop : opn = false → c.size = n)
    (hc : ∀ j a, j < n → tr.get j = some a → ∃ v, c[j]? = some v ∧ rel Γ a v) (hfz : ∀ off, off < c.size → ¬ (lo ≤ off ∧ off < hi)) {cs : List AV} {vs : List Value} (hr : relL Γ cs vs) {off : Nat} (hle : off + vs.length ≤ c.size) {n' : Nat} (hn' : n' = n ∨ (opn = true ∧ n' ≤ c.size ∧ n' ≤ off + vs.length ∧ off ≤ n)) :
    relO Γ i (.cells n' (PT.fill tr off cs) e opn false) (.cells ⟨setAt c.toList off vs⟩ e (lo, hi)) := by
  have hl := hr.length
  have hlen : (setAt c.toList off vs).length = c.size := by rw [setAt_length]; simp
  refine ⟨_, lo, hi, rfl, by simpa [hlen] using hsz, by simp only [List.size_toArray, hlen]; rcases hn' with rfl | h <;> omega, fun ho => by simp only [List.size_toArray, hlen]; rcases hn' with rfl | h; exact hop ho; rw [ho] at h; exact absurd h.1 (by simp), fun j a hj ha => ?_, fun _ o ho => hfz o (by simpa [hlen] using ho)⟩
  rw [PT.get_fill] at ha
  have hg : ((⟨setAt c.toList off vs⟩ : Array Value))[j]? = (setAt c.toList off vs)[j]? := by simp
  rw [hg, setAt_get vs c.toList off j (by simpa using hle)]
  by_cases h2 : off ≤ j ∧ j < off + cs.length
  · rw [if_pos h2] at ha
    rw [if_pos (by omega)]
    exact hr.get ha
  · rw [if_neg h2] at ha
    rw [if_neg (by omega)]
    obtain ⟨v, h3, h4⟩ := hc j a (by rcases hn' with rfl | h <;> omega) ha
    exact ⟨v, by simpa using h3, h4⟩
/-- An effect: what it comes to, and the memories behind it. -/
def Does (P : Program) (base : Nat) (Γ : Tie) (m : Mem) (w : World) (ρ : Operand → Value) (op : Op) (v : AV) (m' : Mem) : Prop :=
  ∀ dst type pos after guard, ∃ n w' Γ' c, (execOp ρ ⟨dst, op, type, pos, after, guard⟩).run P w = .ok n w' ∧ (n = .value c ∨ n = .skip ∧ c = undef) ∧ rel Γ' v c ∧ Moves base Γ m w Γ' m' w'
theorem all_one {l : List AV} {vs : List Value} (h : l.all one = true) (hr : relL Γ l vs) : ∀ v ∈ vs, v.oneCell' = true := by
  induction l generalizing vs with
  | nil => simp only [relL] at hr; subst hr; intro v hv; cases hv
  | cons a l ih =>
    simp only [relL] at hr
    obtain ⟨x, xs, rfl, h1, h2⟩ := hr
    simp only [List.all_cons, Bool.and_eq_true] at h
    intro v hv
    cases hv with
    | head => exact one_cell h.1 h1
    | tail _ hv => exact ih h.2 h2 v hv
theorem storeA_ok (hR : Rep base Γ m.H w) (hev : Evals Γ ev ρ) {t : TypeId} {a x : Operand} {b off : Nat} {v : AV} {m' : Mem} (ha : ev a = some (.ptr b off)) (hx : ev x = some v) (h : storeA P m t b off v = some m') : Does P base Γ m w ρ (.store t a x) .undef m' := by
  intro dst type pos after guard
  unfold storeA at h
  split at h
  case h_2 => cases h
  rename_i n tr e opn fz hb
  split at h
  case h_2 => cases h
  rename_i s hs
  cases hc : (Nat.beq v.cells.length s && Nat.ble (off + s) n && !fz && v.cells.all one) with
  | false => rw [hc] at h; cases h
  | true =>
    rw [hc] at h; cases h
    simp only [Bool.and_eq_true, Bool.not_eq_true'] at hc
    obtain ⟨⟨⟨h1, h2⟩, h3⟩, h4⟩ := hc
    subst h3
    have h1' := Nat.eq_of_beq_eq_true h1
    have h2' := Nat.le_of_ble_eq_true h2
    have hpa := hev _ _ ha
    have hpx := hev _ _ hx
    simp only [rel] at hpa
    obtain ⟨i, hi, ea⟩ := hpa
    obtain ⟨i', c, lo, hi', g1, g2, g3, g4, g5, g6, g7, g8⟩ := hR.row hb
    rw [hi] at g1; cases g1
    have hcl := hpx.cells.length
    have hlen : off + (ρ x).cells.toList.length ≤ c.size := by omega
    have hrun := storeCells_run (P := P) (off := off) (ρ x).cells.toList 0 c w g3 (by simpa using hlen) (fun j hj => by simpa using g8 rfl (off + j) (by omega)) (all_one h4 hpx.cells)
    refine ⟨.skip, upd w i.blk (.cells ⟨setAt c.toList off (ρ x).cells.toList⟩ e (lo, hi')), Γ, undef, ?_, .inr ⟨rfl, rfl⟩, by simp only [rel, undef, relL]; exact ⟨[], rfl, rfl⟩, Moves.put hR hb hi rfl (p' := .cells ⟨setAt c.toList off (ρ x).cells.toList⟩ e (lo, hi')) rfl rfl rfl rfl (relO_write g4 g5 g6 g7 (g8 rfl) hpx.cells hlen (.inl rfl))⟩
    have hsz : ¬ ((ρ x).cells.size ≠ s) := by
      have : (ρ x).cells.size = (ρ x).cells.toList.length := by simp
      omega
    simp only [execOp, Sem.run_bind, Instr.storeAt, ea, Instr.sureAddr, Sem.run_pure, Result.andThen_ok, storeVar, sizeA_run hs, if_neg hsz, hrun, Nat.add_zero]
end Go.Proofs.YtijnlbpeckoofaaGreat
