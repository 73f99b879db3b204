/- A machine that runs closed calls: its memory moves with the model's. -/
import Derived.Test.YtijnlbpeckoofaaGreatEngS
set_option linter.unusedVariables false
set_option linter.unusedSimpArgs false
namespace Go.Proofs.YtijnlbpeckoofaaGreat
open Go.RowKit

theorem relE.keep {Γ Γ' : Tie} (hk : Keeps Γ Γ') : ∀ {es : List (AV × AV × Nat)} {l : List MapEntry}, relE Γ es l → relE Γ' es l
  | [], l, h => h
  | (k, v, b) :: es, l, h => by
    obtain ⟨e, l', rfl, h1, h2, h3, h4⟩ := h
    exact ⟨e, l', rfl, h1.keep hk, h2.keep hk, h3, relE.keep hk h4⟩
theorem relT.keep {Γ Γ' : Tie} (hk : Keeps Γ Γ') {tm : PT AV} {n : Nat} {t : Array Value} (h : relT Γ tm n t) : relT Γ' tm n t :=
  ⟨h.1, fun i a e => let ⟨v, h1, h2⟩ := h.2 i a e; ⟨v, h1, h2.keep hk⟩⟩
theorem relO.keep {Γ Γ' : Tie} (hk : Keeps Γ Γ') {i : BI} {o : AObj} {o' : Obj} (h : relO Γ i o o') : relO Γ' i o o' := by
  cases o with
  | cells n t elem opn fz =>
    obtain ⟨c, lo, hi, e, h1, h2, h3, h4, h5⟩ := h
    exact ⟨c, lo, hi, e, h1, h2, h3, fun j a hj ha => let ⟨v, h6, h7⟩ := h4 j a hj ha; ⟨v, h6, h7.keep hk⟩, h5⟩
  | map es clock => obtain ⟨es', e, h⟩ := h; exact ⟨es', e, h.keep hk⟩
  | mapIter m s seen st => obtain ⟨j, h, e⟩ := h; exact ⟨j, hk _ _ h, e⟩
  | nilIter => exact h
  | strIter n x pos => exact h
  | loop st pd tm sz ps as bd d => obtain ⟨fn, tmps, j, h, e, h'⟩ := h; exact ⟨fn, tmps, j, hk _ _ h, e, h'.keep hk⟩
  | deferred b => exact h

structure Rep (base : Nat) (Γ : Tie) (H : PT AObj) (w : World) : Prop where
  base_le : base ≤ w.heap.size
  obj : ∀ b o, H.get b = some o → ∃ i o', Γ b = some i ∧ (base ≤ i.blk ∨ o.ro = true) ∧ w.heap[i.blk]? = some o' ∧ relO Γ i o o'
  inj : ∀ b c o p i j, H.get b = some o → H.get c = some p → Γ b = some i → Γ c = some j → i.blk = j.blk → b = c
/-- From one state of both memories to another. -/
structure Moves (base : Nat) (Γ : Tie) (m : Mem) (w : World) (Γ' : Tie) (m' : Mem) (w' : World) : Prop where
  le : m.next ≤ m'.next
  keep : Keeps Γ Γ'
  new : ∀ b, (b < m.next ∨ m'.next ≤ b) → Γ' b = Γ b
  rep : Rep base Γ' m'.H w'
  os : w'.os = w.os
  tape : w'.tape = w.tape
  output : w'.output = w.output
  size : w.heap.size ≤ w'.heap.size
  low : ∀ x, x < base → w'.heap[x]? = w.heap[x]?
  frame : ∀ x, x < w.heap.size → (∀ b o i, m.H.get b = some o → Γ b = some i → i.blk ≠ x) → w'.heap[x]? = w.heap[x]?
  orig : ∀ b o i, m'.H.get b = some o → Γ' b = some i → w.heap.size ≤ i.blk ∨ ∃ c p j, m.H.get c = some p ∧ Γ c = some j ∧ j.blk = i.blk
  dom : ∀ b o, m'.H.get b = some o → (∃ p, m.H.get b = some p) ∨ (m.next ≤ b ∧ b < m'.next)
/-- The numbers between are not used yet. -/
def Fresh (Γ : Tie) (m m' : Mem) : Prop := ∀ b, m.next ≤ b → b < m'.next → Γ b = none
theorem Moves.refl {base : Nat} {Γ : Tie} {m : Mem} {w : World} (h : Rep base Γ m.H w) : Moves base Γ m w Γ m w :=
  ⟨Nat.le_refl _, Keeps.refl _, fun _ _ => rfl, h, rfl, rfl, rfl, Nat.le_refl _, fun _ _ => rfl, fun _ _ _ => rfl, fun b o i h1 h2 => .inr ⟨b, o, i, h1, h2, rfl⟩, fun b o h => .inl ⟨o, h⟩⟩
theorem Rep.lt {base : Nat} {Γ : Tie} {H : PT AObj} {w : World} (h : Rep base Γ H w) {b : Nat} {o : AObj} {i : BI} (hb : H.get b = some o) (hi : Γ b = some i) : i.blk < w.heap.size := by
  obtain ⟨j, o', h1, h2, h3, h4⟩ := h.obj b o hb
  rw [hi] at h1; cases h1
  exact (Array.getElem?_eq_some_iff.1 h3).1
theorem Moves.trans {base : Nat} {Γ Γ1 Γ2 : Tie} {m m1 m2 : Mem} {w w1 w2 : World} (h : Moves base Γ m w Γ1 m1 w1) (k : Moves base Γ1 m1 w1 Γ2 m2 w2) : Moves base Γ m w Γ2 m2 w2 where
  le := Nat.le_trans h.le k.le
  keep := h.keep.trans k.keep
  new b hb := by
    have := h.le; have := k.le
    rw [k.new b (by omega), h.new b (by omega)]
  rep := k.rep
  os := k.os.trans h.os
  tape := k.tape.trans h.tape
  output := k.output.trans h.output
  size := Nat.le_trans h.size k.size
  low x hx := (k.low x hx).trans (h.low x hx)
  frame x hx hf := by
    have hx1 := Nat.lt_of_lt_of_le hx h.size
    rw [k.frame x hx1 ?_, h.frame x hx hf]
    intro b o i hb hi e
    rcases h.orig b o i hb hi with h1 | ⟨c, p, j, h1, h2, h3⟩
    · omega
    · exact hf c p j h1 h2 (h3.trans e)
  orig b o i hb hi := by
    rcases k.orig b o i hb hi with h1 | ⟨c, p, j, h1, h2, h3⟩
    · exact .inl (Nat.le_trans h.size h1)
    · rcases h.orig c p j h1 h2 with h4 | ⟨c', p', j', h4, h5, h6⟩
      · exact .inl (h3 ▸ h4)
      · exact .inr ⟨c', p', j', h4, h5, h6.trans h3⟩
  dom b o hb := by
    have := h.le; have := k.le
    rcases k.dom b o hb with ⟨p, h1⟩ | ⟨h1, h2⟩
    · rcases h.dom b p h1 with h3 | ⟨h3, h4⟩
      · exact .inl h3
      · exact .inr ⟨h3, by omega⟩
    · exact .inr ⟨by omega, h2⟩
theorem Fresh.left {Γ : Tie} {m m1 m2 : Mem} (h : Fresh Γ m m2) (h2 : m1.next ≤ m2.next) : Fresh Γ m m1 := fun b h3 h4 => h b h3 (by omega)
theorem Fresh.right {base : Nat} {Γ Γ1 : Tie} {m m1 m2 : Mem} {w w1 : World} (h : Fresh Γ m m2) (k : Moves base Γ m w Γ1 m1 w1) : Fresh Γ1 m1 m2 := fun b h3 h4 => by
  rw [k.new b (.inr h3)]; exact h b (by have := k.le; omega) h4
def tieA (Γ : Tie) (b : Nat) (i : BI) : Tie := fun c => if c = b then some i else Γ c
theorem keeps_tie {Γ : Tie} {b : Nat} {i : BI} (h : Γ b = none) : Keeps Γ (tieA Γ b i) := fun c j hc => by
  unfold tieA
  by_cases e : c = b
  · subst e; rw [h] at hc; cases hc
  · rw [if_neg e]; exact hc
theorem tie_self {Γ : Tie} {b : Nat} {i : BI} : tieA Γ b i b = some i := if_pos rfl
/-- A new block. -/
theorem Moves.push {base : Nat} {Γ : Tie} {m : Mem} {w w' : World} {o : AObj} {o' : Obj} {tot : Nat} (h : Rep base Γ m.H w) (hn : Γ m.next = none)
    (hh : w'.heap = w.heap.push o') (hos : w'.os = w.os) (htp : w'.tape = w.tape) (hout : w'.output = w.output) (hr : relO Γ ⟨w.heap.size, tot⟩ o o') :
    Moves base Γ m w (tieA Γ m.next ⟨w.heap.size, tot⟩) (m.push o) w' := by
  have hk : Keeps Γ (tieA Γ m.next ⟨w.heap.size, tot⟩) := keeps_tie hn
  have hold : ∀ x, x < w.heap.size → w'.heap[x]? = w.heap[x]? := fun x hx => by rw [hh, Array.getElem?_push, if_neg (by omega)]
  have hdom : ∀ b p, (m.push o).H.get b = some p → (b = m.next ∧ p = o) ∨ (b ≠ m.next ∧ m.H.get b = some p) := fun b p hb => by
    simp only [Mem.push, PT.get_set] at hb
    by_cases e : b = m.next
    · rw [if_pos e] at hb; cases hb; exact .inl ⟨e, rfl⟩
    · rw [if_neg e] at hb; exact .inr ⟨e, hb⟩
  have htie : ∀ b, b ≠ m.next → tieA Γ m.next ⟨w.heap.size, tot⟩ b = Γ b := fun b e => if_neg e
  refine ⟨Nat.le_succ _, hk, ?_, ⟨?_, ?_, ?_⟩, hos, htp, hout, by rw [hh]; simp, fun x hx => hold x (Nat.lt_of_lt_of_le hx h.base_le), fun x hx _ => hold x hx, ?_, ?_⟩
  · intro b hb; simp only [Mem.push] at hb; exact htie b (by omega)
  · rw [hh]; simp only [Array.size_push]; have := h.base_le; omega
  · intro b p hb
    rcases hdom b p hb with ⟨rfl, rfl⟩ | ⟨e, hb'⟩
    · exact ⟨_, o', tie_self, .inl h.base_le, by rw [hh]; simp, hr.keep hk⟩
    · obtain ⟨i, p', h1, h2, h3, h4⟩ := h.obj b p hb'
      exact ⟨i, p', by rw [htie b e]; exact h1, h2, by rw [hold _ (h.lt hb' h1)]; exact h3, h4.keep hk⟩
  · intro b c p q i j hb hc hi hj e
    rcases hdom b p hb with ⟨rfl, rfl⟩ | ⟨e1, hb'⟩ <;> rcases hdom c q hc with ⟨rfl, rfl⟩ | ⟨e2, hc'⟩
    · rfl
    · rw [tie_self] at hi; cases hi
      rw [htie c e2] at hj
      have := h.lt hc' hj
      simp only at e; omega
    · rw [tie_self] at hj; cases hj
      rw [htie b e1] at hi
      have := h.lt hb' hi
      simp only at e; omega
    · rw [htie b e1] at hi; rw [htie c e2] at hj
      exact h.inj b c p q i j hb' hc' hi hj e
  · intro b p i hb hi
    rcases hdom b p hb with ⟨rfl, rfl⟩ | ⟨e, hb'⟩
    · rw [tie_self] at hi; cases hi; exact .inl (Nat.le_refl _)
    · rw [htie b e] at hi; exact .inr ⟨b, p, i, hb', hi, rfl⟩
  · intro b p hb
    rcases hdom b p hb with ⟨rfl, rfl⟩ | ⟨e, hb'⟩
    · exact .inr ⟨Nat.le_refl _, Nat.lt_succ_self _⟩
    · exact .inl ⟨p, hb'⟩
/-- A block that is written. -/
theorem Moves.put {base : Nat} {Γ : Tie} {m : Mem} {w w' : World} {b : Nat} {o p : AObj} {i : BI} {p' : Obj} (h : Rep base Γ m.H w) (hb : m.H.get b = some o) (hi : Γ b = some i) (ho : o.ro = false)
    (hh : w'.heap = w.heap.setIfInBounds i.blk p') (hos : w'.os = w.os) (htp : w'.tape = w.tape) (hout : w'.output = w.output) (hr : relO Γ i p p') :
    Moves base Γ m w Γ (m.put b p) w' := by
  have hlt := h.lt hb hi
  have hbase : base ≤ i.blk := by
    obtain ⟨j, o', h1, h2, _⟩ := h.obj b o hb
    rw [hi] at h1; cases h1
    rcases h2 with h2 | h2
    · exact h2
    · rw [ho] at h2; cases h2
  have hold : ∀ x, x ≠ i.blk → w'.heap[x]? = w.heap[x]? := fun x hx => by rw [hh, Array.getElem?_setIfInBounds_ne (by omega)]
  have hdom : ∀ c q, (m.put b p).H.get c = some q → (c = b ∧ q = p) ∨ (c ≠ b ∧ m.H.get c = some q) := fun c q hc => by
    simp only [Mem.put, PT.get_set] at hc
    by_cases e : c = b
    · rw [if_pos e] at hc; cases hc; exact .inl ⟨e, rfl⟩
    · rw [if_neg e] at hc; exact .inr ⟨e, hc⟩
  have hdom' : ∀ c q, (m.put b p).H.get c = some q → ∃ r, m.H.get c = some r := fun c q hc => by
    rcases hdom c q hc with ⟨rfl, rfl⟩ | ⟨_, h⟩
    · exact ⟨o, hb⟩
    · exact ⟨q, h⟩
  refine ⟨Nat.le_refl _, Keeps.refl _, fun _ _ => rfl, ⟨?_, ?_, ?_⟩, hos, htp, hout, by rw [hh]; simp, fun x hx => hold x (by omega), ?_, ?_, fun c q hc => .inl (hdom' c q hc)⟩
  · rw [hh]; simpa using h.base_le
  · intro c q hc
    rcases hdom c q hc with ⟨rfl, rfl⟩ | ⟨e, hc'⟩
    · obtain ⟨j, o', h1, h2, h3, h4⟩ := h.obj c o hb
      rw [hi] at h1; cases h1
      refine ⟨i, p', hi, .inl hbase, ?_, hr⟩
      rw [hh, Array.getElem?_setIfInBounds_self_of_lt hlt]
    · obtain ⟨j, o', h1, h2, h3, h4⟩ := h.obj c q hc'
      refine ⟨j, o', h1, h2, ?_, h4⟩
      rw [hold _ (fun e' => e (h.inj c b q o j i hc' hb h1 hi e'))]; exact h3
  · intro c d q r j k hc hd hj hk e
    obtain ⟨q', hq⟩ := hdom' c q hc
    obtain ⟨r', hr'⟩ := hdom' d r hd
    exact h.inj c d q' r' j k hq hr' hj hk e
  · intro x hx hf
    exact hold x (fun e => hf b o i hb hi e.symm)
  · intro c q j hc hj
    obtain ⟨q', hq⟩ := hdom' c q hc
    exact .inr ⟨c, q', j, hq, hj, rfl⟩
/-- Less memory. -/
theorem Rep.sub {base : Nat} {Γ : Tie} {H H' : PT AObj} {w : World} (h : Rep base Γ H w) (hs : ∀ b o, H'.get b = some o → H.get b = some o) : Rep base Γ H' w :=
  ⟨h.base_le, fun b o hb => h.obj b o (hs b o hb), fun b c o p i j hb hc => h.inj b c o p i j (hs b o hb) (hs c p hc)⟩
theorem Moves.below {base : Nat} {Γ Γ' : Tie} {m m' : Mem} {w w' : World} (h : Rep base Γ m.H w) (k : Moves base Γ m w Γ' m' w') : Below base w w' :=
  ⟨k.os, k.tape, k.output, k.size, fun x hx => k.low x hx⟩
end Go.Proofs.YtijnlbpeckoofaaGreat
