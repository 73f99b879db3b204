/- A machine that runs closed calls: rounds of loops; an operation. -/
import Derived.Test.YtijnlbpeckoofaaGreatEngCb
set_option linter.unusedVariables false
set_option linter.unusedSimpArgs false
namespace Go.Proofs.YtijnlbpeckoofaaGreat
open Go.RowKit
variable {cf : Cf} {base : Nat} {E : World → Prop} {rec : Rec} {Γ Γ' : Tie} {m m' : Mem} {w w' : World} {P : Program}

theorem relT.set {tm : PT AV} {N : Nat} {tmps : Array Value} (h : relT Γ tm N tmps) {d : Nat} (hd : d < N) {v : AV} {c : Value} (hv : rel Γ v c) : relT Γ (tm.set d (some v)) N (tmps.setIfInBounds d c) := by
  have hlt : d < tmps.size := by rw [h.1]; exact hd
  refine ⟨by simpa using h.1, fun t b hb => ?_⟩
  rw [PT.get_set] at hb
  by_cases e : t = d
  · rw [if_pos e] at hb; cases hb
    subst e
    exact ⟨c, by rw [Array.getElem?_setIfInBounds_self_of_lt hlt], hv⟩
  · rw [if_neg e] at hb
    obtain ⟨u, h1, h2⟩ := h.2 t b hb
    exact ⟨u, by rw [Array.getElem?_setIfInBounds_ne (fun q => e q.symm)]; exact h1, h2⟩
theorem params_ok {N : Nat} : ∀ {ps : List Tmp} {args : List AV} {cs : List Value} {tm : PT AV} {tmps : Array Value}, relL Γ args cs → (∀ t ∈ ps, Nat.blt t N = true) → relT Γ tm N tmps →
    relT Γ (setParams tm (ps.zip args)) N ((ps.zip cs).foldl (fun tmps (p : Tmp × Value) => tmps.setIfInBounds p.1 p.2) tmps)
  | [], args, cs, tm, tmps, hl, hp, ht => by simpa [setParams] using ht
  | t :: ps, [], cs, tm, tmps, hl, hp, ht => by
    simp only [relL] at hl; subst hl
    simpa [setParams] using ht
  | t :: ps, a :: args, cs, tm, tmps, hl, hp, ht => by
    simp only [relL] at hl
    obtain ⟨c, cs', rfl, h1, h2⟩ := hl
    simp only [List.zip_cons_cons, setParams, List.foldl_cons]
    exact params_ok h2 (fun t ht => hp t (List.mem_cons_of_mem _ ht)) (ht.set (nblt (hp t List.mem_cons_self)) h1)
theorem Rep.loopAt (hR : Rep base Γ m.H w) {l : Nat} {i : BI} (hi : Γ l = some i) {st : LoopState} {pd : Option Code} {tm : PT AV} {size : Nat} {ps : Array Tmp} {assign body : Code} {d : Nat}
    (h : m.H.get l = some (.loop st pd tm size ps assign body d)) : ∃ fn tmps j, Γ d = some j ∧ w.heap[i.blk]? = some (.loop { state := st, pending := pd, fn, tmps, params := ps, assign, body, defers := j.blk }) ∧ relT Γ tm size tmps := by
  obtain ⟨i', o', h1, _, h2, fn, tmps, j, h3, rfl, h4⟩ := hR.obj l _ h
  rw [hi] at h1; cases h1
  exact ⟨fn, tmps, j, h3, h2, h4⟩
theorem yield_ok (S : Sound cf base E) (hrec : RecOk cf base E rec) (hle : RecLe rec) {l : Nat} {args : List AV} {v : AV} (h : yieldA rec l args m = some (v, m')) {cs : List Value} (hl : relL Γ args cs)
    (hst : St cf base E Γ m w) (hF : Fresh Γ m m') {i : BI} (hi : Γ l = some i) : ∃ fn tmps assign body, (Instr.yield i.blk ⟨cs⟩).run cf.P w = .ok (.round i.blk fn tmps assign body) w ∧
      ∀ n, RoundIn Fence.wide n cf.P i.blk fn tmps assign body w (Ends base Γ m w v m') := by
  unfold yieldA at h
  split at h
  case h_2 => cases h
  rename_i st pd tm size ps assign body d hb
  obtain ⟨hc, h⟩ := bif_none h
  simp only [Bool.and_eq_true, List.all_eq_true] at hc
  obtain ⟨hc1, hc2⟩ := hc
  split at h
  case h_2 => cases h
  rename_i fr m1 h1
  split at h
  case h_2 => cases h
  rename_i pd1 tm1 size1 ps1 assign1 body1 d1 hb1
  split at h
  case h_2 => cases h
  rename_i e fr2 m2 h2
  split at h
  case h_2 => cases h
  split at h
  case h_2 => cases h
  rename_i st2 pd2 tm2 size2 ps2 assign2 body2 d2 hb2
  cases h
  have le1 := hle _ _ _ _ _ _ _ _ h1
  have le2' := hle _ _ _ _ _ _ _ _ h2
  have le2 : m1.next ≤ m2.next := le2'
  have hF' : Fresh Γ m m2 := hF
  obtain ⟨fn, tmps, j, hj, hheap, htm⟩ := hst.rep.loopAt hi hb
  have hlen := hl.length
  have hc1' := Nat.eq_of_beq_eq_true hc1
  refine ⟨fn, _, assign, body, run_yield hheap (by simpa using (by omega : cs.length = ps.size)), fun n => ?_⟩
  have htm' : relT Γ (setParams tm (ps.toList.zip args)) size ((ps.zip ⟨cs⟩).foldl (fun tmps (t, a) => tmps.setIfInBounds t a) tmps) := by
    have := params_ok hl hc2 htm
    rw [← Array.foldl_toList, Array.toList_zip]
    exact this
  have hwp1 := (hrec _ _ _ _ _ _ _ _ h1).1 (some i.blk) n Γ { tmps := (ps.zip ⟨cs⟩).foldl (fun tmps (t, a) => tmps.setIfInBounds t a) tmps, defers := [] } w ⟨hst, ⟨i, hi, rfl⟩, htm', rfl⟩ (hF'.left le2)
  refine roundIn_of_wpIn (F := Fence.wide) trivial (wpIn_mono hwp1 fun e1 a1 w1 hq => ?_)
  obtain ⟨he, Γ1, ht1, hd1, hM1⟩ := hq
  subst he
  have hi1 := hM1.keep _ _ hi
  obtain ⟨fn1, tmps1, j1, hj1, hheap1, htm1⟩ := hM1.rep.loopAt hi1 hb1
  refine ⟨_, run_beginRound hheap1 rfl, ?_⟩
  have hM2 : Moves base Γ1 m1 w1 Γ1 (m1.put l (.loop .busy pd1 tm1 size1 ps1 assign1 body1 d1)) (w1.putObj i.blk (.loop { state := .busy, pending := pd1, fn := fn1, tmps := tmps1, params := ps1, assign := assign1, body := body1, defers := j1.blk })) :=
    Moves.put hM1.rep hb1 hi1 rfl rfl rfl rfl rfl ⟨fn1, tmps1, j1, hj1, rfl, htm1⟩
  have hM12 := hM1.trans hM2
  have hF2 : Fresh Γ1 (m1.put l (.loop .busy pd1 tm1 size1 ps1 assign1 body1 d1)) m2 := (hF'.right hM1 : Fresh Γ1 m1 m2)
  have hwp2 := (hrec _ _ _ _ _ _ _ _ h2).1 (some i.blk) n Γ1 a1 _ ⟨hst.next S hM12, ⟨i, hi1, rfl⟩, ht1, hd1⟩ hF2
  refine wpIn_mono hwp2 fun e2 a2 w2 hq2 => ?_
  obtain ⟨he2, Γ2, ht2, hd2, hM3⟩ := hq2
  have hi2 := hM3.keep _ _ hi1
  obtain ⟨fn2, tmps2, j2, hj2, hheap2, htm2⟩ := hM3.rep.loopAt hi2 hb2
  have hM4 : Moves base Γ2 m2 w2 Γ2 (m2.put l (.loop (if (exitCode e).isNone then .ready else .done) (exitCode e) tm2 size2 ps2 assign2 body2 d2)) (w2.putObj i.blk (.loop { state := if (exitCode e).isNone then .ready else .done, pending := exitCode e, fn := fn2, tmps := tmps2, params := ps2, assign := assign2, body := body2, defers := j2.blk })) :=
    Moves.put hM3.rep hb2 hi2 rfl rfl rfl rfl rfl ⟨fn2, tmps2, j2, hj2, rfl, htm2⟩
  have hMall := (hM12.trans hM3).trans hM4
  have hend := run_endRound (P := cf.P) (exitCode e) hheap2
  have hrel : rel Γ2 (.bool (exitCode e).isNone) (.bool (exitCode e).isNone) := by simp only [rel]
  cases e with
  | normal => subst he2; exact ⟨_, _, hend, _, Γ2, rfl, hrel, hMall⟩
  | exit id => subst he2; exact ⟨_, _, hend, _, Γ2, rfl, hrel, hMall⟩
  | goto t => subst he2; exact ⟨_, _, hend, _, Γ2, rfl, hrel, hMall⟩
  | ret => subst he2; exact ⟨_, _, hend, _, Γ2, rfl, hrel, hMall⟩
/-- One operation. -/
theorem opA_nodefer {ev : Operand → Option AV} {o : Op} {v : AV} (h : opA cf rec ev o m = some (v, m')) (c : Call) : o ≠ .defer c := by
  rintro rfl
  simp only [opA, readA, allocA, effA] at h
  cases h
theorem opA_wp (S : Sound cf base E) (hrec : RecOk cf base E rec) (hle : RecLe rec) {rb : Option Nat} {n : Nat} {a : Act} {ev : Operand → Option AV} {o : Oper} {v : AV}
    (hst : St cf base E Γ m w) (hev : Evals Γ ev a.eval) (hF : Fresh Γ m m') (h : opA cf rec ev o.op m = some (v, m')) {K : Act → World → Prop} {Q : Exit → Act → World → Prop}
    (hK : ∀ c Γ' w', rel Γ' v c → Moves base Γ m w Γ' m' w' → K (a.put o.dst c) w') : o.wpIn (Fen rb) n cf.P a w K Q := by
  refine ⟨fun _ _ => Fen.fn rb _, ?_⟩
  have hsem : o.semAt (Fen rb).round a.eval = execOp a.eval o := by
    rw [Fen.round]
    cases rb with
    | none => exact Oper.semAt_none _ _
    | some l => exact Oper.semAt_some l _ o (opA_nodefer h)
  rw [hsem]
  unfold opA at h
  split at h
  · rename_i v' hr
    cases h
    obtain ⟨c, h1, h2⟩ := readA_ok hst.rep hev hr o.dst o.type o.pos o.after o.guard
    have h1' : (execOp a.eval o).run cf.P w = .ok (.value c) w := h1
    rw [h1', Oper.uponIn_value]
    exact hK c Γ w h2 (Moves.refl hst.rep)
  split at h
  · rename_i obj f ha
    cases h
    obtain ⟨c, w', o', tot, h1, h2, h3, h4, h5, h6, h7⟩ := (allocA_ok (P := cf.P) (w := w) hev ha o.dst o.type o.pos o.after o.guard).out
    have h1' : (execOp a.eval o).run cf.P w = .ok (.value c) w' := h1
    rw [h1', Oper.uponIn_value]
    exact hK c _ w' (h7 _ _ tie_self) (Moves.push hst.rep (hF _ (Nat.le_refl _) (Nat.lt_succ_self _)) h2 h3 h4 h5 h6)
  split at h
  · rename_i r he
    cases h
    obtain ⟨nx, w', Γ', c, h1, h2, h3, h4⟩ := effA_ok hst.rep hev hF he o.dst o.type o.pos o.after o.guard
    have h1' : (execOp a.eval o).run cf.P w = .ok nx w' := h1
    rw [h1']
    rcases h2 with rfl | ⟨rfl, rfl⟩
    · rw [Oper.uponIn_value]; exact hK c Γ' w' h3 h4
    · rw [Oper.uponIn_skip]; exact hK _ Γ' w' h3 h4
  split at h
  case h_2 => cases h
  rename_i c hop
  split at h
  case h_2 => cases h
  rename_i g hg
  have hgo := goal_fn hev hg o hop w
  cases g with
  | fn f args =>
    obtain ⟨cs, hl, hrun⟩ := hgo
    rw [hrun]
    rcases call_ok S hrec hle h hl hst hF with ⟨cv, w', Γ', h1, h2, h3⟩ | ⟨h1, h2⟩
    · rw [h1, Oper.uponIn_value]; exact hK cv Γ' w' h2 h3
    · rw [h1, Oper.uponIn_enter]
      refine ⟨Fen.shallow rb n, CallsIn.mono (Fen.calls h2) fun e w' he => ?_⟩
      obtain ⟨cv, Γ', rfl, h3, h4⟩ := he
      exact hK cv Γ' w' h3 h4
  | yield l args =>
    obtain ⟨cs, i, hl, hi, hrun⟩ := hgo
    rw [hrun]
    obtain ⟨fn, tmps, assign, body, h1, h2⟩ := yield_ok S hrec hle h hl hst hF hi
    rw [h1, Oper.uponIn_round]
    refine ⟨Fen.shallow rb n, RoundIn.mono (Fen.rounds (h2 _)) fun e w' he => ?_⟩
    obtain ⟨cv, Γ', rfl, h3, h4⟩ := he
    exact hK cv Γ' w' h3 h4
theorem seqA_wp (S : Sound cf base E) (hrec : RecOk cf base E rec) (hle : RecLe rec) {rb : Option Nat} {n : Nat} {ops : Array Oper} {N : Nat} {ds : List Nat} {Q : Exit → Act → World → Prop} {tm' : PT AV} :
    ∀ {l : List Oper} {tm : PT AV} {m : Mem} {Γ : Tie} {a : Act} {w : World}, seqA cf rec ops N l tm m = some (tm', m') → St cf base E Γ m w → relT Γ tm N a.tmps → relD Γ ds a.defers → Fresh Γ m m' →
      (∀ Γ' a' w', relT Γ' tm' N a'.tmps → relD Γ' ds a'.defers → Moves base Γ m w Γ' m' w' → Q .normal a' w') → wpListIn (Fen rb) n cf.P ops Q l a w
  | [], tm, m, Γ, a, w, h, hst, ht, hd, hF, hQ => by
    simp only [seqA, Option.some.injEq, Prod.mk.injEq] at h
    obtain ⟨rfl, rfl⟩ := h
    exact hQ Γ a w ht hd (Moves.refl hst.rep)
  | o :: l, tm, m, Γ, a, w, h, hst, ht, hd, hF, hQ => by
    simp only [seqA] at h
    obtain ⟨hok, h⟩ := bif_none h
    have hput : ∀ {Γ' : Tie} (c : Value), Keeps Γ Γ' → relD Γ' ds (a.put o.dst c).defers := fun c hk => by
      have : (a.put o.dst c).defers = a.defers := by cases o.dst <;> rfl
      rw [this]; exact hd.keep hk
    split at h
    · rename_i hg
      split at h
      case h_2 => cases h
      rename_i v m1 ho
      have hw := guardA_ok ht hg
      simp only [wpListIn, hw, if_true]
      have le1 := opA_le S.le hle ho
      have le2 := seqA_le S.le hle h
      refine opA_wp S hrec hle hst (evalA_ok ht hst.gl) (hF.left le2) ho fun c Γ' w' hv hM => ?_
      exact seqA_wp S hrec hle h (hst.next S hM) ((ht.keep hM.keep).put hok hv) (hput c hM.keep) (hF.right hM) fun Γ2 a2 w2 h1 h2 h3 => hQ Γ2 a2 w2 h1 h2 (hM.trans h3)
    · rename_i hg
      have hw := guardA_ok ht hg
      simp only [wpListIn, hw]
      refine ⟨fun _ _ => Fen.fn rb _, seqA_wp S hrec hle h hst (ht.put hok rel_undef) (hput undef (Keeps.refl _)) hF hQ⟩
    · cases h
end Go.Proofs.YtijnlbpeckoofaaGreat
