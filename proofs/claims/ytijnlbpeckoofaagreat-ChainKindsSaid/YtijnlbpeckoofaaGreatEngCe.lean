/- A machine that runs closed calls: ranges over functions; all code. -/
import Derived.Test.YtijnlbpeckoofaaGreatEngCd
set_option linter.unusedVariables false
set_option linter.unusedSimpArgs false
namespace Go.Proofs.YtijnlbpeckoofaaGreat
open Go.RowKit
variable {cf : Cf} {base : Nat} {E : World → Prop} {rec : Rec} {Γ Γ' : Tie} {m m' : Mem} {w w' : World} {P : Program}

/-- The block for the rounds' deferred calls: the statement's own, or that of the loop around. -/
noncomputable def blockA (ro : Option Nat) (fr : Fr) (m : Mem) : Option (Nat × Mem × List Nat) := match ro with
  | none => some (m.next, m.push (.deferred true), m.next :: fr.defs)
  | some l => match m.H.get l with
    | some (.loop _ _ _ _ _ _ _ d) => some (d, m, fr.defs)
    | _ => none
theorem blockA_le {ro : Option Nat} {fr : Fr} {d : Nat} {m1 : Mem} {defs : List Nat} (h : blockA ro fr m = some (d, m1, defs)) : m.next ≤ m1.next := by
  unfold blockA at h
  split at h
  · cases h; exact Nat.le_succ _
  · split at h
    · cases h; exact Nat.le_refl _
    · cases h
theorem rangeA_eq {ro : Option Nat} {N : Nat} {g : Operand} {ps : Array Tmp} {assign body : Code} {fr : Fr} {x : AExit} {fr' : Fr} (h : stepA cf rec ro N (.rangeFunc g ps assign body) fr m = some (x, fr', m')) :
    ∃ d m1 defs f first captured v m3 st pd tm size ps' as bd d',
      blockA ro fr m = some (d, m1, defs) ∧ evalA cf fr.tm g = some (.func (.func f) first captured) ∧
      bodyA cf rec f (first ++ [.func (.yield m1.next) [] []] ++ captured) (m1.push (.loop .ready none fr.tm N ps assign body d)) = some (v, m3) ∧
      m3.H.get m1.next = some (.loop st pd tm size ps' as bd d') ∧ (st == .busy) = false ∧ jumpA pd = some x ∧ fr' = { fr with defs := defs } ∧
      m' = m3.put m1.next (.loop .exhausted pd tm size ps' as bd d') := by
  simp only [stepA] at h
  split at h
  case h_2 => cases h
  rename_i d m1 defs hb
  split at h
  case h_2 => cases h
  rename_i f first captured hg
  split at h
  case h_2 => cases h
  rename_i v m3 hc
  split at h
  case h_2 => cases h
  rename_i st pd tm size ps' as bd d' hl
  obtain ⟨hst, h⟩ := bif_some h
  split at h
  case h_2 => cases h
  rename_i e he
  cases h
  exact ⟨d, m1, defs, f, first, captured, v, m3, st, pd, tm, size, ps', as, bd, d', hb, hg, hc, hl, hst, he, rfl, rfl⟩
theorem block_ok (S : Sound cf base E) {ro rb : Option Nat} {fr : Fr} {d : Nat} {m1 : Mem} {defs : List Nat} {N : Nat} {a : Act} (h : blockA ro fr m = some (d, m1, defs)) (hp : Pre cf base E ro N fr m rb Γ a w) (hF : Fresh Γ m m1) :
    ∃ w1 Γ1 j mark, Moves base Γ m w Γ1 m1 w1 ∧ Γ1 d = some j ∧ relD Γ1 defs (mark ++ a.defers) ∧
      ∀ fn ps assign body, (Instr.enterLoop fn a.tmps ps assign body rb).run cf.P w = .ok (w1.heap.size, mark) (w1.alloc (.loop { state := .ready, pending := none, fn, tmps := a.tmps, params := ps, assign, body, defers := j.blk })) := by
  unfold blockA at h
  split at h
  · cases h
    have hro := hp.ro
    cases rb with
    | some k => exact hro.elim
    | none =>
      have hM : Moves base Γ m w (tieA Γ m.next ⟨w.heap.size, 0⟩) (m.push (.deferred true)) (w.alloc (.deferred (some []))) :=
        Moves.push hp.st.rep (hF _ (Nat.le_refl _) (Nat.lt_succ_self _)) rfl rfl rfl rfl rfl
      refine ⟨_, _, ⟨w.heap.size, 0⟩, [{ target := .collected w.heap.size, args := #[] }], hM, tie_self, ⟨_, _, tie_self, rfl, hp.defs.keep hM.keep⟩, fun fn ps assign body => ?_⟩
      rw [run_enterLoop_outer]
      simp
  · rename_i l
    split at h
    case h_2 => cases h
    rename_i d' hl
    cases h
    have hro := hp.ro
    cases rb with
    | none => exact hro.elim
    | some k =>
      obtain ⟨i, hi, rfl⟩ := hro
      obtain ⟨fn0, tmps0, j, hj, hheap, _⟩ := hp.st.rep.loopAt hi hl
      refine ⟨w, Γ, j, [], Moves.refl hp.st.rep, hj, hp.defs, fun fn ps assign body => ?_⟩
      unfold Instr.enterLoop
      simp only [Sem.run_bind, run_getLoop hheap, run_newObj_alloc, Result.andThen, Sem.run_pure]
def Jumps (F : Fence) (n : Nat) (P : Program) (Q : Exit → Act → World → Prop) (a : Act) (w : World) : Option Code → Prop
  | none => Q .normal a w
  | some c => c.wpIn F n P Q a w
theorem jump_ok {F : Fence} {n : Nat} {pd : Option Code} {x : AExit} (h : jumpA pd = some x) {Q : Exit → Act → World → Prop} {a : Act} (hQ : Q (exitE x) a w) : Jumps F n P Q a w pd := by
  unfold jumpA at h
  split at h
  · cases h; exact hQ
  · cases h; exact wpIn_ret hQ
  · cases h; exact wpIn_exit hQ
  · cases h; exact wpIn_goto hQ
  · cases h
theorem range_ok (S : Sound cf base E) (hrec : RecOk cf base E rec) (hle : RecLe rec) {ro rb : Option Nat} {N n : Nat} {g : Operand} {ps : Array Tmp} {assign body : Code} {fr : Fr} {x : AExit} {fr' : Fr} {a : Act}
    (h : stepA cf rec ro N (.rangeFunc g ps assign body) fr m = some (x, fr', m')) (hp : Pre cf base E ro N fr m rb Γ a w) (hF : Fresh Γ m m') :
    (Code.rangeFunc g ps assign body).wpIn (Fen rb) n cf.P (Post base Γ m w N x fr' m') a w := by
  obtain ⟨d, m1, defs, f, first, captured, v, m3, st, pd, tm, size, ps', as, bd, d', hb, hg, hc, hl, hst, he, rfl, rfl⟩ := rangeA_eq h
  have le1 := blockA_le hb
  have le3 : m1.next + 1 ≤ m3.next := bodyA_le hle hc
  have hF' : Fresh Γ m m3 := hF
  obtain ⟨w1, Γ1, j, mark, hM1, hj, hd, hent⟩ := block_ok S hb hp (hF'.left (by omega))
  have hF1 : Fresh Γ1 m1 m3 := hF'.right hM1
  have ht1 := hp.tm.keep hM1.keep
  refine wpIn_rangeFunc fun fn _ => ?_
  let L : Loop := { state := .ready, pending := none, fn, tmps := a.tmps, params := ps, assign, body, defers := j.blk }
  have hM2 : Moves base Γ1 m1 w1 (tieA Γ1 m1.next ⟨w1.heap.size, 0⟩) (m1.push (.loop .ready none fr.tm N ps assign body d)) (w1.alloc (.loop L)) :=
    Moves.push hM1.rep (hF1 _ (Nat.le_refl _) (by omega)) rfl rfl rfl rfl ⟨fn, a.tmps, j, hj, rfl, ht1⟩
  have hr := evalA_ok hp.tm hp.st.gl _ _ hg
  simp only [rel] at hr
  obtain ⟨fn', f', c', e, h1, h2, h3⟩ := hr
  simp only [relFn] at h1
  subst h1
  have hM12 := hM1.trans hM2
  have hl2 : relL (tieA Γ1 m1.next ⟨w1.heap.size, 0⟩) (first ++ [.func (.yield m1.next) [] []] ++ captured) (f' ++ [.func (.yield w1.heap.size) #[] #[]] ++ c') := by
    refine ((relL.keep hM12.keep h2).append ?_).append (relL.keep hM12.keep h3)
    simp only [relL]
    exact ⟨_, _, rfl, by simp only [rel]; exact ⟨.yield w1.heap.size, [], [], rfl, ⟨_, tie_self, rfl⟩, by simp only [relL], by simp only [relL]⟩, rfl⟩
  obtain ⟨hcf, hcalls⟩ := body_ok S hrec hle hc hl2 (hp.st.next S hM12) (hF1.right hM2)
  have hlead : ∀ f'' , Target.leads cf.P (w1.alloc (.loop L)) (.fn (.func f) ⟨c'⟩) ((⟨f'⟩ : Array Value) ++ #[.func (.yield w1.heap.size) #[] #[]]) = some f'' → (Fen rb).fn f'' := fun f'' _ => Fen.fn rb f''
  refine ⟨w1.heap.size, mark, w1.alloc (.loop L), { target := .fn (.func f) ⟨c'⟩, args := (⟨f'⟩ : Array Value) ++ #[.func (.yield w1.heap.size) #[] #[]] }, w1.alloc (.loop L), f, ⟨f' ++ [.func (.yield w1.heap.size) #[] #[]] ++ c'⟩, w1.alloc (.loop L), by rw [Fen.round]; exact hent fn ps assign body, ?_, hlead, ?_, Fen.shallow rb n, ?_⟩
  · have hm : Array.map a.eval #[Operand.const (.func (.yield w1.heap.size) #[] #[])] = #[.func (.yield w1.heap.size) #[] #[]] := by simp [Act.eval]
    simp only [resolve, rangeCall, e, Deferred.ofValue, Sem.run_pure, hm]
  · have : ((⟨f'⟩ : Array Value) ++ #[.func (.yield w1.heap.size) #[] #[]]) ++ (⟨c'⟩ : Array Value) = ⟨f' ++ [.func (.yield w1.heap.size) #[] #[]] ++ c'⟩ := by
      apply Array.ext'; simp
    simp only [invoke, this]
    exact hcf
  · refine CallsIn.mono (Fen.calls hcalls) fun e w3 hq => ?_
    obtain ⟨cv, Γ3, rfl, _, hM3⟩ := hq
    have hi3 := hM3.keep _ _ (tie_self (Γ := Γ1) (b := m1.next) (i := ⟨w1.heap.size, 0⟩))
    obtain ⟨fn3, tmps3, j3, hj3, hheap3, htm3⟩ := hM3.rep.loopAt hi3 hl
    have hbusy : st ≠ .busy := by rintro rfl; cases hst
    have hM4 : Moves base Γ3 m3 w3 Γ3 (m3.put m1.next (.loop .exhausted pd tm size ps' as bd d')) (w3.putObj w1.heap.size (.loop { state := .exhausted, pending := pd, fn := fn3, tmps := tmps3, params := ps', assign := as, body := bd, defers := j3.blk })) :=
      Moves.put hM3.rep hl hi3 rfl rfl rfl rfl rfl ⟨fn3, tmps3, j3, hj3, rfl, htm3⟩
    have hk : Keeps Γ1 Γ3 := hM2.keep.trans hM3.keep
    have hj : Jumps (Fen rb) n cf.P (Post base Γ m w N x { fr with defs := defs } (m3.put m1.next (.loop .exhausted pd tm size ps' as bd d'))) { a with defers := mark ++ a.defers } _ pd :=
      jump_ok he ⟨rfl, Γ3, ht1.keep hk, hd.keep hk, (hM12.trans hM3).trans hM4⟩
    refine ⟨pd, _, run_endLoop hheap3 hbusy, ?_⟩
    cases pd with
    | none => exact hj
    | some c => exact hj

theorem stepA_le (S : Sound cf base E) (hle : RecLe rec) (hdraw : DrawOk cf base E rec) : RecLe (stepA cf rec) := by
  intro ro N c fr m x fr' m' h
  cases c with
  | rangeFunc g ps assign body =>
    obtain ⟨d, m1, defs, f, first, captured, v, m3, st, pd, tm, size, ps', as, bd, d', hb, hg, hc, hl, hst, he, rfl, rfl⟩ := rangeA_eq h
    have le1 := blockA_le hb
    have le3 : m1.next + 1 ≤ m3.next := bodyA_le hle hc
    show m.next ≤ m3.next
    omega
  | region id ops draw =>
    cases draw with
    | false =>
      simp only [stepA] at h
      split at h
      case h_2 => cases h
      rename_i hs
      cases h; exact seqA_le S.le hle hs
    | true =>
      simp only [stepA] at h
      split at h
      case h_2 => cases h
      rename_i hs
      cases h; exact (hdraw none 0 0 ops N [] (fun _ _ _ => True) _ _ _ _ (fun _ => none) ⟨#[], []⟩ default hs).1
  | scope body =>
    simp only [stepA] at h
    exact scopeA_le (fun fr c m x fr' m' e => hle _ _ _ _ _ _ _ _ e) h
  | seq a b =>
    simp only [stepA] at h
    split at h
    · rename_i h1
      exact Nat.le_trans (hle _ _ _ _ _ _ _ _ h1) (hle _ _ _ _ _ _ _ _ h)
    · exact hle _ _ _ _ _ _ _ _ h
  | cond c t e =>
    simp only [stepA] at h
    split at h
    · exact hle _ _ _ _ _ _ _ _ h
    · exact hle _ _ _ _ _ _ _ _ h
    · cases h
  | block id c =>
    simp only [stepA] at h
    split at h
    · rename_i h1
      rcases bif_or h with h | h <;> (cases h; exact hle _ _ _ _ _ _ _ _ h1)
    · exact hle _ _ _ _ _ _ _ _ h
  | loop c =>
    simp only [stepA] at h
    split at h
    · rename_i h1
      exact Nat.le_trans (hle _ _ _ _ _ _ _ _ h1) (hle _ _ _ _ _ _ _ _ h)
    · exact hle _ _ _ _ _ _ _ _ h
  | refuse _ => simp only [stepA] at h; cases h
  | skip => simp only [stepA] at h; cases h; exact Nat.le_refl _
  | label l => simp only [stepA] at h; cases h; exact Nat.le_refl _
  | exit id => simp only [stepA] at h; cases h; exact Nat.le_refl _
  | goto l => simp only [stepA] at h; cases h; exact Nat.le_refl _
  | ret => simp only [stepA] at h; cases h; exact Nat.le_refl _
theorem Post.here {ro rb : Option Nat} {N : Nat} {fr : Fr} {a : Act} (hp : Pre cf base E ro N fr m rb Γ a w) (x : AExit) : Post base Γ m w N x fr m (exitE x) a w := ⟨rfl, Γ, hp.tm, hp.defs, Moves.refl hp.st.rep⟩
theorem loop_ok (S : Sound cf base E) (hrec : RecOk cf base E rec) (hle : RecLe rec) {ro : Option Nat} {N : Nat} {c : Code} {fr : Fr} {m : Mem} {x : AExit} {fr' : Fr} (h : stepA cf rec ro N (.loop c) fr m = some (x, fr', m')) :
    ∃ k, ∀ rb n Γ a w (Q : Exit → Act → World → Prop), Pre cf base E ro N fr m rb Γ a w → Fresh Γ m m' → (∀ e a' w', Post base Γ m w N x fr' m' e a' w' → Q e a' w') → Code.roundsIn (Fen rb) n cf.P c Q k a w := by
  simp only [stepA] at h
  split at h
  · rename_i fr1 m1 h1
    obtain ⟨k, hk⟩ := (hrec _ _ _ _ _ _ _ _ h).2 c rfl
    refine ⟨k + 1, fun rb n Γ a w Q hp hF hQ => ?_⟩
    rw [roundsIn_succ]
    refine wpIn_mono ((hrec _ _ _ _ _ _ _ _ h1).1 rb n Γ a w hp (hF.left (hle _ _ _ _ _ _ _ _ h))) fun e a1 w1 hq => ?_
    obtain ⟨he, Γ1, ht, hd, hM⟩ := hq
    subst he
    exact hk rb n Γ1 a1 w1 Q (hp.after S hM ht hd) (hF.right hM) fun e a' w' q => hQ e a' w' (q.after hM)
  · rename_i hng
    refine ⟨1, fun rb n Γ a w Q hp hF hQ => ?_⟩
    rw [roundsIn_succ]
    refine wpIn_mono ((hrec _ _ _ _ _ _ _ _ h).1 rb n Γ a w hp hF) fun e a1 w1 hq => ?_
    have hx := hq.1
    cases x with
    | normal => exact absurd h (hng fr' m')
    | goto l => subst hx; exact hQ _ _ _ hq
    | exit id => subst hx; exact hQ _ _ _ hq
    | ret => subst hx; exact hQ _ _ _ hq
theorem step_ok (S : Sound cf base E) (hrec : RecOk cf base E rec) (hle : RecLe rec) (hdraw : DrawOk cf base E rec) : RecOk cf base E (stepA cf rec) := by
  intro ro N c fr m x fr' m' h
  cases c with
  | rangeFunc g ps assign body => exact ⟨fun rb n Γ a w hp hF => range_ok S hrec hle h hp hF, fun c' e => by cases e⟩
  | region id ops draw =>
    refine ⟨fun rb n Γ a w hp hF => ?_, fun c' e => by cases e⟩
    cases draw with
    | false =>
      simp only [stepA] at h
      split at h
      case h_2 => cases h
      rename_i hs
      cases h
      exact wpIn_region_list (seqA_wp S hrec hle hs hp.st hp.tm hp.defs hF fun Γ' a' w' h1 h2 h3 => ⟨rfl, Γ', h1, h2, h3⟩)
    | true =>
      simp only [stepA] at h
      split at h
      case h_2 => cases h
      rename_i hs
      cases h
      exact (hdraw rb n id ops N _ _ _ _ _ _ Γ a w hs).2 hp.st hp.tm hp.defs hF fun Γ' a' w' h1 h2 h3 => ⟨rfl, Γ', h1, h2, h3⟩
  | scope body =>
    refine ⟨fun rb n Γ a w hp hF => ?_, fun c' e => by cases e⟩
    simp only [stepA] at h
    exact wpIn_scope 100000 (scopeA_ok S hrec hle h hp hF fun _ _ _ q => q)
  | seq c1 c2 =>
    refine ⟨fun rb n Γ a w hp hF => ?_, fun c' e => by cases e⟩
    simp only [stepA] at h
    refine wpIn_seq ?_
    split at h
    · rename_i fr1 m1 h1
      refine wpIn_mono ((hrec _ _ _ _ _ _ _ _ h1).1 rb n Γ a w hp (hF.left (hle _ _ _ _ _ _ _ _ h))) fun e a1 w1 hq => ?_
      obtain ⟨he, Γ1, ht, hd, hM⟩ := hq
      subst he
      exact wpIn_mono ((hrec _ _ _ _ _ _ _ _ h).1 rb n Γ1 a1 w1 (hp.after S hM ht hd) (hF.right hM)) fun e a' w' q => q.after hM
    · rename_i hng
      refine wpIn_mono ((hrec _ _ _ _ _ _ _ _ h).1 rb n Γ a w hp hF) fun e a1 w1 hq => ?_
      have hx := hq.1
      cases x with
      | normal => exact absurd h (hng fr' m')
      | goto l => subst hx; exact hq
      | exit id => subst hx; exact hq
      | ret => subst hx; exact hq
  | cond c t e =>
    refine ⟨fun rb n Γ a w hp hF => ?_, fun c' e => by cases e⟩
    simp only [stepA] at h
    split at h
    · rename_i hc
      have hr := evalA_ok hp.tm hp.st.gl _ _ hc
      simp only [rel] at hr
      exact wpIn_cond_true hr ((hrec _ _ _ _ _ _ _ _ h).1 rb n Γ a w hp hF)
    · rename_i hc
      have hr := evalA_ok hp.tm hp.st.gl _ _ hc
      simp only [rel] at hr
      exact wpIn_cond_false hr ((hrec _ _ _ _ _ _ _ _ h).1 rb n Γ a w hp hF)
    · cases h
  | block id c =>
    refine ⟨fun rb n Γ a w hp hF => ?_, fun c' e => by cases e⟩
    simp only [stepA] at h
    refine wpIn_block ?_
    split at h
    · rename_i id' fr1 m1 h1
      cases hid : Nat.beq id' id with
      | true =>
        rw [hid] at h
        cases h
        refine wpIn_mono ((hrec _ _ _ _ _ _ _ _ h1).1 rb n Γ a w hp hF) fun e a1 w1 hq => ?_
        obtain ⟨he, h2⟩ := hq
        subst he
        simp only [exitE, Exit.inBlock, Nat.eq_of_beq_eq_true hid, if_true]
        exact ⟨rfl, h2⟩
      | false =>
        rw [hid] at h
        cases h
        refine wpIn_mono ((hrec _ _ _ _ _ _ _ _ h1).1 rb n Γ a w hp hF) fun e a1 w1 hq => ?_
        obtain ⟨he, h2⟩ := hq
        subst he
        have hne : ¬ id' = id := fun q => by rw [q, Nat.beq_refl] at hid; cases hid
        simp only [exitE, Exit.inBlock, hne, if_false]
        exact ⟨rfl, h2⟩
    · rename_i hng
      refine wpIn_mono ((hrec _ _ _ _ _ _ _ _ h).1 rb n Γ a w hp hF) fun e a1 w1 hq => ?_
      have hx := hq.1
      cases x with
      | exit id' => exact absurd h (hng id' fr' m')
      | goto l => subst hx; exact hq
      | normal => subst hx; exact hq
      | ret => subst hx; exact hq
  | loop c =>
    obtain ⟨k, hk⟩ := loop_ok S hrec hle h
    refine ⟨fun rb n Γ a w hp hF => wpIn_loop_rounds k (hk rb n Γ a w _ hp hF fun _ _ _ q => q), fun c' e => ?_⟩
    cases e
    exact ⟨k, hk⟩
  | refuse _ => simp only [stepA] at h; cases h
  | skip => simp only [stepA] at h; cases h; exact ⟨fun rb n Γ a w hp hF => wpIn_skip (Post.here hp .normal), fun c' e => by cases e⟩
  | label l => simp only [stepA] at h; cases h; exact ⟨fun rb n Γ a w hp hF => wpIn_label (Post.here hp .normal), fun c' e => by cases e⟩
  | exit id => simp only [stepA] at h; cases h; exact ⟨fun rb n Γ a w hp hF => wpIn_exit (Post.here hp (.exit id)), fun c' e => by cases e⟩
  | goto l => simp only [stepA] at h; cases h; exact ⟨fun rb n Γ a w hp hF => wpIn_goto (Post.here hp (.goto l)), fun c' e => by cases e⟩
  | ret => simp only [stepA] at h; cases h; exact ⟨fun rb n Γ a w hp hF => wpIn_ret (Post.here hp .ret), fun c' e => by cases e⟩
theorem run_ok (S : Sound cf base E) (hdraw : ∀ rec, RecOk cf base E rec → RecLe rec → DrawOk cf base E rec) : ∀ n, RecOk cf base E (runA cf n) ∧ RecLe (runA cf n)
  | 0 => ⟨fun ro N c fr m x fr' m' h => (by cases h), fun ro N c fr m x fr' m' h => (by cases h)⟩
  | n + 1 => let ⟨h1, h2⟩ := run_ok S hdraw n; ⟨step_ok S h1 h2 (hdraw _ h1 h2), stepA_le S h2 (hdraw _ h1 h2)⟩
end Go.Proofs.YtijnlbpeckoofaaGreat
