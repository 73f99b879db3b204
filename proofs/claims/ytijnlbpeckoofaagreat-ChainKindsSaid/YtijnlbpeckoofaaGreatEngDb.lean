/- A machine that runs closed calls: steps in a part of the memory. -/
import Derived.Test.YtijnlbpeckoofaaGreatEngDa
set_option linter.unusedVariables false
set_option linter.unusedSimpArgs false
namespace Go.Proofs.YtijnlbpeckoofaaGreat
open Go.RowKit
variable {base : Nat} {Γ Γ' Γ'' : Tie} {m : Mem} {w w' w'' : World}

/-- What a step does to a part of the memory, it does to the whole. -/
theorem Moves.within {H Hs Hs' H' : PT AObj} {F lo hi : Nat} (A : Moves base Γ m w Γ' ⟨H, F⟩ w') (B : Moves base Γ' ⟨Hs, lo⟩ w' Γ'' ⟨Hs', hi⟩ w'') (h1 : m.next ≤ lo) (h2 : hi ≤ F)
    (hs : ∀ x o, Hs.get x = some o → H.get x = some o) (hH : ∀ x o, H'.get x = some o → Hs'.get x = some o ∨ (H.get x = some o ∧ Hs.get x = none)) : Moves base Γ m w Γ'' ⟨H', F⟩ w'' := by
  have hlh : lo ≤ hi := B.le
  have kept : ∀ x o i, H.get x = some o → Hs.get x = none → Γ' x = some i → w''.heap[i.blk]? = w'.heap[i.blk]? := fun x o i hx hn hi => by
    refine B.frame i.blk (A.rep.lt hx hi) fun b p j hb hj e => ?_
    have := A.rep.inj b x p o j i (hs _ _ hb) hx hj hi e
    subst this
    rw [hn] at hb; cases hb
  have tied : ∀ x o, H.get x = some o → ∃ i, Γ' x = some i ∧ Γ'' x = some i := fun x o hx => by
    obtain ⟨i, o', h3, _⟩ := A.rep.obj x o hx
    exact ⟨i, h3, B.keep _ _ h3⟩
  refine ⟨A.le, A.keep.trans B.keep, fun b hb => ?_, ⟨?_, ?_, ?_⟩, B.os.trans A.os, B.tape.trans A.tape, B.output.trans A.output, Nat.le_trans A.size B.size, fun x hx => (B.low x hx).trans (A.low x hx), ?_, ?_, ?_⟩
  · have hb' : b < lo ∨ hi ≤ b := by simp only at hb; omega
    rw [B.new b hb', A.new b hb]
  · exact B.rep.base_le
  · intro x o hx
    rcases hH x o hx with h | ⟨h, hn⟩
    · exact B.rep.obj x o h
    · obtain ⟨i, o', h3, h4, h5, h6⟩ := A.rep.obj x o h
      exact ⟨i, o', B.keep _ _ h3, h4, by rw [kept x o i h hn h3]; exact h5, h6.keep B.keep⟩
  · have mixed : ∀ x y o p i j, Hs'.get x = some o → H.get y = some p → Hs.get y = none → Γ'' x = some i → Γ'' y = some j → i.blk = j.blk → False := by
      intro x y o p i j hx hy hn hi hj e
      obtain ⟨j', h3, h4⟩ := tied y p hy
      rw [h4] at hj; cases hj
      rcases B.orig x o i hx hi with h5 | ⟨c, q, k, h5, h6, h7⟩
      · have := A.rep.lt hy h3; omega
      · have := A.rep.inj c y q p k j (hs _ _ h5) hy h6 h3 (h7.trans e)
        subst this
        rw [hn] at h5; cases h5
    intro x y o p i j hx hy hi hj e
    rcases hH x o hx with h | ⟨h, hn⟩ <;> rcases hH y p hy with h' | ⟨h', hn'⟩
    · exact B.rep.inj x y o p i j h h' hi hj e
    · exact (mixed x y o p i j h h' hn' hi hj e).elim
    · exact (mixed y x p o j i h' h hn hj hi e.symm).elim
    · obtain ⟨i', h3, h4⟩ := tied x o h
      obtain ⟨j', h5, h6⟩ := tied y p h'
      rw [h4] at hi; cases hi
      rw [h6] at hj; cases hj
      exact A.rep.inj x y o p i j h h' h3 h5 e
  · intro x hx hf
    rw [← A.frame x hx hf]
    refine B.frame x (Nat.lt_of_lt_of_le hx A.size) fun b p j hb hj e => ?_
    rcases A.orig b p j (hs _ _ hb) hj with h3 | ⟨c, q, k, h3, h4, h5⟩
    · omega
    · exact hf c q k h3 h4 (h5.trans e)
  · intro x o i hx hi
    rcases hH x o hx with h | ⟨h, hn⟩
    · rcases B.orig x o i h hi with h3 | ⟨c, q, k, h3, h4, h5⟩
      · exact .inl (Nat.le_trans A.size h3)
      · rcases A.orig c q k (hs _ _ h3) h4 with h6 | ⟨c', q', k', h6, h7, h8⟩
        · exact .inl (h5 ▸ h6)
        · exact .inr ⟨c', q', k', h6, h7, h8.trans h5⟩
    · obtain ⟨i', h3, h4⟩ := tied x o h
      rw [h4] at hi; cases hi
      exact A.orig x o i h h3
  · intro x o hx
    rcases hH x o hx with h | ⟨h, hn⟩
    · rcases B.dom x o h with ⟨p, h3⟩ | ⟨h3, h4⟩
      · exact A.dom x p (hs _ _ h3)
      · refine .inr ⟨?_, ?_⟩ <;> (simp only at h3 h4 ⊢; omega)
    · exact A.dom x o h
/-- The same memory, spelt otherwise. -/
theorem Moves.alike {H H' : PT AObj} {F : Nat} (A : Moves base Γ m w Γ' ⟨H, F⟩ w') (h : ∀ x, H'.get x = H.get x) : Moves base Γ m w Γ' ⟨H', F⟩ w' := by
  have hs : ∀ x o, H'.get x = some o → H.get x = some o := fun x o hx => by rw [← h x]; exact hx
  exact ⟨A.le, A.keep, A.new, A.rep.sub hs, A.os, A.tape, A.output, A.size, A.low, A.frame, fun b o i hb hi => A.orig b o i (hs b o hb) hi, fun b o hb => A.dom b o (hs b o hb)⟩
/-- A memory with blocks laid over it. -/
def ovlF (p : Nat → Bool) : List (Nat × Nat × AObj) → (Nat → Option AObj) → Nat → Option AObj
  | [], g, x => g x
  | (i, id, o) :: l, g, x => if p i = true ∧ x = id then some o else ovlF p l g x
theorem ovl_get (mask abs : Nat) : ∀ (l : List (Nat × Nat × AObj)) (H : PT AObj) (x : Nat), (ovl mask abs l H).get x = ovlF (fun i => mask.testBit i && !abs.testBit i) l H.get x
  | [], H, x => rfl
  | (i, id, o) :: l, H, x => by
    have ih := ovl_get mask abs l H x
    simp only [ovl, ovlF]
    by_cases hc : (mask.testBit i && !abs.testBit i) = true
    · by_cases e : x = id
      · rw [if_pos ⟨hc, e⟩, cond_eq_ite, if_pos hc, PT.get_set, if_pos e]
      · rw [if_neg (fun q => e q.2), cond_eq_ite, if_pos hc, PT.get_set, if_neg e]; exact ih
    · rw [if_neg (fun q => hc q.1), cond_eq_ite, if_neg hc]; exact ih
theorem ovlF_some {p : Nat → Bool} {g : Nat → Option AObj} : ∀ {l : List (Nat × Nat × AObj)} {x : Nat} {o : AObj}, ovlF p l g x = some o → (∃ i, (i, x, o) ∈ l ∧ p i = true) ∨ (g x = some o ∧ ∀ i o', (i, x, o') ∈ l → p i = false)
  | [], x, o, h => .inr ⟨h, fun _ _ hm => by cases hm⟩
  | (i, id, o1) :: l, x, o, h => by
    simp only [ovlF] at h
    split at h
    · rename_i hc
      cases h
      obtain ⟨h1, rfl⟩ := hc
      exact .inl ⟨i, List.mem_cons_self, h1⟩
    · rename_i hc
      rcases ovlF_some h with ⟨j, h1, h2⟩ | ⟨h1, h2⟩
      · exact .inl ⟨j, List.mem_cons_of_mem _ h1, h2⟩
      · refine .inr ⟨h1, fun j o' hm => ?_⟩
        rcases List.mem_cons.1 hm with e | hm
        · cases e
          rcases hp : p i with _ | _
          · rfl
          · exact absurd ⟨hp, rfl⟩ hc
        · exact h2 j o' hm
theorem ovlF_mem {p : Nat → Bool} {g : Nat → Option AObj} : ∀ {l : List (Nat × Nat × AObj)} {x i : Nat} {o : AObj}, (i, x, o) ∈ l → p i = true → (∀ j o', (j, x, o') ∈ l → j = i ∧ o' = o) → ovlF p l g x = some o
  | [], x, i, o, h, hp, hu => by cases h
  | (j, id, o1) :: l, x, i, o, h, hp, hu => by
    simp only [ovlF]
    split
    · rename_i hc
      obtain ⟨_, rfl⟩ := hc
      rw [(hu j o1 List.mem_cons_self).2]
    · rename_i hc
      rcases List.mem_cons.1 h with e | h
      · cases e; exact absurd ⟨hp, rfl⟩ hc
      · exact ovlF_mem h hp fun k o' hm => hu k o' (List.mem_cons_of_mem _ hm)
theorem ovlF_out {p : Nat → Bool} {g : Nat → Option AObj} : ∀ {l : List (Nat × Nat × AObj)} {x : Nat}, (∀ i o, (i, x, o) ∈ l → p i = false) → ovlF p l g x = g x
  | [], x, h => rfl
  | (j, id, o1) :: l, x, h => by
    simp only [ovlF]
    split
    · rename_i hc
      obtain ⟨h1, rfl⟩ := hc
      rw [h j o1 List.mem_cons_self] at h1; cases h1
    · exact ovlF_out fun i o hm => h i o (List.mem_cons_of_mem _ hm)
end Go.Proofs.YtijnlbpeckoofaaGreat
