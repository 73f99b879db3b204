/- A machine that runs closed calls: append and copy. -/
import Derived.Test.YtijnlbpeckoofaaGreatEngB
import Derived.Deep.AppendSrc
set_option linter.unusedVariables false
set_option linter.unusedSimpArgs false
namespace Go.Proofs.YtijnlbpeckoofaaGreat
open Go.RowKit
variable {P : Program} {base : Nat} {Γ : Tie} {m : Mem} {w : World} {ev : Operand → Option AV} {ρ : Operand → Value}

theorem Moves.drop {b : Nat} (h : Rep base Γ m.H w) : Moves base Γ m w Γ ⟨m.H.set b none, m.next⟩ w := by
  have hd : ∀ c o, (m.H.set b none).get c = some o → m.H.get c = some o := fun c o hc => by
    rw [PT.get_set] at hc
    by_cases e : c = b
    · rw [if_pos e] at hc; cases hc
    · rw [if_neg e] at hc; exact hc
  exact ⟨Nat.le_refl _, Keeps.refl _, fun _ _ => rfl, h.sub hd, rfl, rfl, rfl, Nat.le_refl _, fun _ _ => rfl, fun _ _ _ => rfl, fun c o i hc hi => .inr ⟨c, o, i, hd c o hc, hi, rfl⟩, fun c o hc => .inl ⟨o, hd c o hc⟩⟩
/-- A row that may have grown where it stands: under a new number. -/
theorem Moves.shift {b : Nat} {o p : AObj} {i : BI} {p' : Obj} (h : Rep base Γ m.H w) (hb : m.H.get b = some o) (hi : Γ b = some i) (ho : o.ro = false) (hn : Γ m.next = none) (hr : relO Γ i p p') :
    Moves base Γ m w (tieA Γ m.next i) ((⟨m.H.set b none, m.next⟩ : Mem).push p) (upd w i.blk p') := by
  have hlt := h.lt hb hi
  have hbn : b ≠ m.next := fun e => by rw [e] at hi; rw [hn] at hi; cases hi
  have hk : Keeps Γ (tieA Γ m.next i) := keeps_tie hn
  have hold : ∀ x, x ≠ i.blk → (upd w i.blk p').heap[x]? = w.heap[x]? := fun x hx => Array.getElem?_setIfInBounds_ne (by omega)
  have hdom : ∀ c q, ((⟨m.H.set b none, m.next⟩ : Mem).push p).H.get c = some q → (c = m.next ∧ q = p) ∨ (c ≠ m.next ∧ c ≠ b ∧ m.H.get c = some q) := fun c q hc => by
    simp only [Mem.push, PT.get_set] at hc
    by_cases e : c = m.next
    · rw [if_pos e] at hc; cases hc; exact .inl ⟨e, rfl⟩
    · rw [if_neg e] at hc
      by_cases e2 : c = b
      · rw [if_pos e2] at hc; cases hc
      · rw [if_neg e2] at hc; exact .inr ⟨e, e2, hc⟩
  have htie : ∀ c, c ≠ m.next → tieA Γ m.next i c = Γ c := fun c e => if_neg e
  obtain ⟨i', o', hi', hbase, hob, _⟩ := h.obj b o hb
  rw [hi] at hi'; cases hi'
  have hbase : base ≤ i.blk := by
    rcases hbase with h2 | h2
    · exact h2
    · rw [ho] at h2; cases h2
  refine ⟨Nat.le_succ _, hk, ?_, ⟨?_, ?_, ?_⟩, rfl, rfl, rfl, by simp [upd], fun x hx => hold x (by omega), ?_, ?_, ?_⟩
  · intro c hc; simp only [Mem.push] at hc; exact htie c (by omega)
  · simpa [upd] using h.base_le
  · intro c q hc
    rcases hdom c q hc with ⟨rfl, rfl⟩ | ⟨e, e2, hc'⟩
    · exact ⟨i, p', tie_self, .inl hbase, upd_heap hob, hr.keep hk⟩
    · obtain ⟨j, q', h1, h2, h3, h4⟩ := h.obj c q hc'
      refine ⟨j, q', by rw [htie c e]; exact h1, h2, ?_, h4.keep hk⟩
      rw [hold _ (fun e' => e2 (h.inj c b q o j i hc' hb h1 hi e'))]; exact h3
  · intro c d q r j k hc hd hj hk' e
    rcases hdom c q hc with ⟨rfl, rfl⟩ | ⟨e1, e2, hc'⟩ <;> rcases hdom d r hd with ⟨rfl, rfl⟩ | ⟨e3, e4, hd'⟩
    · rfl
    · rw [tie_self] at hj; cases hj
      rw [htie d e3] at hk'
      exact absurd (h.inj b d o r i k hb hd' hi hk' e).symm e4
    · rw [tie_self] at hk'; cases hk'
      rw [htie c e1] at hj
      exact absurd (h.inj c b q o j i hc' hb hj hi e) e2
    · rw [htie c e1] at hj; rw [htie d e3] at hk'
      exact h.inj c d q r j k hc' hd' hj hk' e
  · intro x hx hf
    exact hold x (fun e => hf b o i hb hi e.symm)
  · intro c q j hc hj
    rcases hdom c q hc with ⟨rfl, rfl⟩ | ⟨e, e2, hc'⟩
    · rw [tie_self] at hj; cases hj; exact .inr ⟨b, o, i, hb, hi, rfl⟩
    · rw [htie c e] at hj; exact .inr ⟨c, q, j, hc', hj, rfl⟩
  · intro c q hc
    rcases hdom c q hc with ⟨rfl, rfl⟩ | ⟨e, e2, hc'⟩
    · exact .inr ⟨Nat.le_refl _, Nat.lt_succ_self _⟩
    · exact .inl ⟨q, hc'⟩
/-- What an append's second argument yields: a row's or a string's cells, or noughts. -/
inductive News (P : Program) (i : TypeInfo) (tx : TypeId) (x : Value) (n : Nat) (news : List Value) (w : World) : Prop
  | src (h : Src P i.size tx x n news w)
  | zeros (k k' : IntKind) (z : Value) (hk : P.underlying tx = some (.int k)) (hx : x = .int k' n) (hz : i.zero = some z) (hs : z.cells.size = i.size) (h : news = (Builtin.zeroCells z.cells n).toList) (hn : n ≤ 1099511627776) (hb : n * i.bytes ≤ 1099511627776) (one : ∀ u ∈ news, u.oneCell' = true)
theorem zeroCells_size (z : Array Value) (n : Nat) : (Builtin.zeroCells z n).size = n * z.size := by simp [Builtin.zeroCells]
theorem News.len {i : TypeInfo} {tx : TypeId} {x : Value} {n : Nat} {news : List Value} (h : News P i tx x n news w) : news.length = n * i.size := by
  cases h with
  | src h => exact h.newsLen
  | zeros k k' z hk hx hz hs h => rw [h, Array.length_toList, zeroCells_size, hs]
theorem News.allOne {i : TypeInfo} {tx : TypeId} {x : Value} {n : Nat} {news : List Value} (h : News P i tx x n news w) : ∀ u ∈ news, u.oneCell' = true := by
  cases h with
  | src h => exact h.one
  | zeros k k' z hk hx hz hs h _ _ one => exact one
theorem append_room {t tx ty e : TypeId} {i : TypeInfo} (ht : P.underlying t = some (.slice e)) (hi : P.info? e = some i) {b off sLen sCap : Nat} {x : Value} {n : Nat} {news : List Value} (hs : News P i tx x n news w) (hroom : sLen + n ≤ sCap) {w' : World}
    (hst : (storeCells ⟨b, off + sLen * i.size, none⟩ news).run P w = .ok () w') :
    (Builtin.append_ #[t, tx] ty #[.slice (some ⟨b, off, none⟩) sLen sCap, x]).run P w = .ok (.slice (some ⟨b, off, none⟩) (sLen + n) sCap) w' := by
  cases hs with
  | src hs => rcases hs.kind with ⟨e', hk⟩ | hk <;> simp [Builtin.append_, run_underlying ht, run_underlying hk, sizeOf, typeInfo, hi, hs.len, hroom, hs.cells, Addr.add_lit, hst]
  | zeros k k' z hk hx hz hs h hn hb one =>
    subst hx
    have hw : IntKind.i64.wrap (n : Int) = n := by simp [IntKind.wrap, IntKind.bits, IntKind.signed]; omega
    have hneg : ¬ ((n : Int) < 0) := by omega
    have hbig : ¬ (281474976710656 < (n : Int) * i.bytes) := by
      have h4 : ((n * i.bytes : Nat) : Int) = (n : Int) * i.bytes := by push_cast; rfl
      rw [← h4]; omega
    by_cases h0 : n * i.size = 0
    · have hnil : news = [] := by
        have : news.length = 0 := by rw [h, Array.length_toList, zeroCells_size, hs]; exact h0
        exact List.eq_nil_of_length_eq_zero this
      subst hnil
      simp [Builtin.append_, run_underlying ht, run_underlying hk, sizeOf, typeInfo, hi, asInt, asIntOf, hw, hneg, hbig, hroom, h0, Addr.add_lit, hst]
    · have h0' : ¬ (n = 0 ∨ i.size = 0) := fun q => h0 (Nat.mul_eq_zero.2 q)
      rw [h] at hst
      simp [Builtin.append_, run_underlying ht, run_underlying hk, sizeOf, typeInfo, zeroValue, hz, hi, asInt, asIntOf, hw, hneg, hbig, hroom, h0, Addr.add_lit, hst]
theorem append_grow {t tx ty e : TypeId} {i : TypeInfo} {z : Value} (ht : P.underlying t = some (.slice e)) (hi : P.info? e = some i) (hz : i.zero = some z) {base : Option Addr} {sLen sCap : Nat} {olds : List Value}
    (hold : (Builtin.firstCells i.size sLen (.slice base sLen sCap)).run P w.drew = .ok olds.toArray w.drew) {x : Value} {n : Nat} {news : List Value} (hs : News P i tx x n news w)
    (hg : sCap < sLen + n) (h63 : ((sLen + n : Nat) : Int) ≤ 9223372036854775807) (hfit : Builtin.nextslicecap (sLen + n) sCap * i.bytes ≤ 281474976710656) :
    (Builtin.append_ #[t, tx] ty #[.slice base sLen sCap, x]).run P w =
      .ok (.slice (some ⟨w.heap.size, 0, none⟩) (sLen + n) (grownCap w (sLen + n) sCap e))
        (w.drew.alloc (.cells ((olds ++ news).toArray ++ Builtin.zeroCells z.cells (grownCap w (sLen + n) sCap e - (sLen + n))) e)) := by
  cases hs with
  | src hs => exact run_append_grow_src w t tx ty e i z ht hi hz base sLen sCap olds hold x n news hs hg h63 hfit
  | zeros k k' z' hk hx hz' hs h hn' hb one =>
    rw [hz] at hz'; cases hz'
    subst hx
    have hn : ¬ (sLen + n ≤ sCap) := by omega
    have h63' : ¬ (9223372036854775807 < ((sLen : Int) + (n : Int))) := by omega
    have h48' : ¬ (281474976710656 < Builtin.nextslicecap (sLen + n) sCap * i.bytes) := by omega
    have hw : IntKind.i64.wrap (n : Int) = n := by simp [IntKind.wrap, IntKind.bits, IntKind.signed]; omega
    have hneg : ¬ ((n : Int) < 0) := by omega
    have hbig : ¬ (281474976710656 < (n : Int) * i.bytes) := by
      have h4 : ((n * i.bytes : Nat) : Int) = (n : Int) * i.bytes := by push_cast; rfl
      rw [← h4]; omega
    by_cases h0 : n * i.size = 0
    · have hnil : news = [] := by
        have : news.length = 0 := by rw [h, Array.length_toList, zeroCells_size, hs]; exact h0
        exact List.eq_nil_of_length_eq_zero this
      subst hnil
      simp [Builtin.append_, run_underlying ht, run_underlying hk, sizeOf, typeInfo, zeroValue, hi, hz, asInt, asIntOf, hw, hneg, hbig, hn, h63', h48', h0, Question.forced, hold, newRow, grownCap]
    · have h0' : ¬ (n = 0 ∨ i.size = 0) := fun q => h0 (Nat.mul_eq_zero.2 q)
      simp [Builtin.append_, run_underlying ht, run_underlying hk, sizeOf, typeInfo, zeroValue, hi, hz, asInt, asIntOf, hw, hneg, hbig, hn, h63', h48', h0, Question.forced, hold, newRow, grownCap, h]
      congr 2
      apply Array.ext'
      simp [List.append_assoc]
end Go.Proofs.YtijnlbpeckoofaaGreat
