/- A machine that runs closed calls: calls of functions, rounds of loops. -/
import Derived.Test.YtijnlbpeckoofaaGreatEngCa
set_option linter.unusedVariables false
set_option linter.unusedSimpArgs false
namespace Go.Proofs.YtijnlbpeckoofaaGreat
open Go.RowKit
variable {cf : Cf} {base : Nat} {E : World → Prop} {rec : Rec} {Γ Γ' : Tie} {m m' : Mem} {w w' : World} {P : Program}

theorem methodA_run {t : TypeId} {v : AV} {name : String} {f : FuncId} {r : AV} (h : methodA P t v name = some (f, r)) (c : Value) (w : World) :
    r = v ∧ (method (P.types.size + Made.depth) t c name).run P w = .ok (f, c) w := by
  unfold methodA at h
  split at h
  case h_2 => cases h
  rename_i i hi
  split at h
  case h_2 => cases h
  rename_i mt hm
  obtain ⟨hp, h⟩ := bif_none h
  have hp' : mt.path.toList = [] := by
    have := hp
    rw [Array.isEmpty_iff] at this
    rw [this]
  have hf : P.types.size + Made.depth = (P.types.size + 99) + 1 := rfl
  split at h
  · rename_i hfn hu
    cases h
    refine ⟨rfl, ?_⟩
    rw [hf]
    generalize P.types.size + 99 = k
    simp [method, typeInfo, hi, hm, hp', follow, hfn, receiverAt, run_underlying hu, Place.get]
  · cases h
  · cases h
  · rename_i d hnp hfn hu
    cases h
    refine ⟨rfl, ?_⟩
    rw [hf]
    generalize P.types.size + 99 = k
    simp only [method, typeInfo, Sem.run_bind, run_program, hi, Result.andThen_ok, Sem.run_pure, hm, hp', follow, hfn, receiverAt, run_underlying hu]
    cases d <;> first | exact absurd rfl (hnp _) | (rename_i e; exact absurd hu (hnp e)) | simp [Place.get] | simp_all [Place.get]
  · cases h
def GoalIs (P : Program) (Γ : Tie) (w : World) (run : Result Next) : Goal → Prop
  | .fn f args => ∃ cs : List Value, relL Γ args cs ∧ run = (callFunc f ⟨cs⟩).run P w
  | .yield l args => ∃ (cs : List Value) (i : BI), relL Γ args cs ∧ Γ l = some i ∧ run = (Instr.yield i.blk ⟨cs⟩).run P w
theorem goal_fn {ev : Operand → Option AV} {ρ : Operand → Value} (hev : Evals Γ ev ρ) {c : Call} {g : Goal} (h : goalA P ev c = some g) (o : Oper) (ho : o.op = .call c) (w : World) :
    GoalIs P Γ w ((execOp ρ o).run P w) g := by
  obtain ⟨callee, args, ts⟩ := c
  unfold goalA at h
  split at h
  · rename_i f as hc ha
    simp only at hc ha h
    subst hc
    have hl := evals_rel hev ha
    split at h
    · rename_i fn first captured hf
      cases h
      have hr := hev _ _ hf
      simp only [rel] at hr
      obtain ⟨fn', f', c', e, h1, h2, h3⟩ := hr
      simp only [relFn] at h1
      subst h1
      refine ⟨f' ++ args.toList.map ρ ++ c', (h2.append hl).append h3, ?_⟩
      simp only [execOp, ho, resolve, e, Deferred.ofValue, Sem.run_bind, Sem.run_pure, Result.andThen_ok, invoke]
      congr 2
      apply Array.ext'
      simp
    · rename_i l hf
      cases h
      have hr := hev _ _ hf
      simp only [rel, relL] at hr
      obtain ⟨fn', f', c', e, h1, rfl, rfl⟩ := hr
      obtain ⟨i, hi, rfl⟩ := h1
      refine ⟨args.toList.map ρ, i, hl, hi, ?_⟩
      simp only [execOp, ho, resolve, e, Deferred.ofValue, Sem.run_bind, Sem.run_pure, Result.andThen_ok, invoke]
      congr 2
      apply Array.ext'
      simp
    · rename_i name first captured hf
      split at h
      case h_2 => cases h
      rename_i t v rest hfa
      split at h
      case h_2 => cases h
      rename_i fn r hm
      cases h
      have hr := hev _ _ hf
      simp only [rel] at hr
      obtain ⟨fn', f', c', e, h1, h2, h3⟩ := hr
      simp only [relFn] at h1
      subst h1
      have h4 := h2.append hl
      rw [hfa] at h4
      simp only [relL] at h4
      obtain ⟨x, xs, h5, h6, h7⟩ := h4
      simp only [rel] at h6
      obtain ⟨y, rfl, h6⟩ := h6
      obtain ⟨rfl, hrun⟩ := methodA_run hm y w
      have harr : (⟨f'⟩ : Array Value) ++ args.map ρ = ⟨.iface t y :: xs⟩ := by
        apply Array.ext'
        simpa using h5
      refine ⟨y :: xs, by simp only [relL]; exact ⟨y, xs, rfl, h6, h7⟩, ?_⟩
      simp only [execOp, ho, resolve, e, Deferred.ofValue, Sem.run_bind, Sem.run_pure, Result.andThen_ok, invoke, harr]
      have h8 : (⟨Value.iface t y :: xs⟩ : Array Value)[0]? = some (.iface t y) := rfl
      have h9 : (⟨Value.iface t y :: xs⟩ : Array Value).extract 1 (⟨Value.iface t y :: xs⟩ : Array Value).size = ⟨xs⟩ := by
        apply Array.ext'; simp
      rw [h8, h9]
      simp only [callMethod, Sem.run_bind, run_program, Result.andThen_ok, hrun]
      congr 2
      apply Array.ext'; simp
    · cases h
  · rename_i r name as hc ha
    simp only at hc ha h
    subst hc
    have hl := evals_rel hev ha
    split at h
    case h_2 => cases h
    rename_i t v hr
    split at h
    case h_2 => cases h
    rename_i fn r' hm
    cases h
    have hr' := hev _ _ hr
    simp only [rel] at hr'
    obtain ⟨y, hy, h6⟩ := hr'
    obtain ⟨rfl, hrun⟩ := methodA_run hm y w
    refine ⟨y :: args.toList.map ρ, by simp only [relL]; exact ⟨y, _, rfl, h6, hl⟩, ?_⟩
    have harr : #[ρ r] ++ args.map ρ = (⟨.iface t y :: args.toList.map ρ⟩ : Array Value) := by
      apply Array.ext'; simp [hy]
    simp only [execOp, ho, resolve, Sem.run_bind, Sem.run_pure, Result.andThen_ok, invoke, harr]
    have h8 : (⟨Value.iface t y :: args.toList.map ρ⟩ : Array Value)[0]? = some (.iface t y) := rfl
    have h9 : (⟨Value.iface t y :: args.toList.map ρ⟩ : Array Value).extract 1 (⟨Value.iface t y :: args.toList.map ρ⟩ : Array Value).size = ⟨args.toList.map ρ⟩ := by
      apply Array.ext'; simp; exact List.take_of_length_le (by simp)
    rw [h8, h9]
    simp only [callMethod, Sem.run_bind, run_program, Result.andThen_ok, hrun]
    congr 2
    apply Array.ext'; simp
  · cases h

/-! ### A function's body -/
theorem leaves_ok {F : Fence} {n : Nat} {fn : Func} {tmps : Array Value} {R : Ending → World → Prop} : ∀ {ds : List Nat} {l : List Deferred} {m m' : Mem} {w : World}, relD Γ ds l → Rep base Γ m.H w → shutDefs ds m = some m' →
    (∀ w', Moves base Γ m w Γ m' w' → ∃ v, (results fn tmps).run P w' = .ok v w' ∧ R (.returned v) w') → LeavesInM F n P fn tmps R l .returning w
  | [], l, m, m', w, hd, hR, hs, hk => by
    simp only [relD] at hd; subst hd
    simp only [shutDefs, Option.some.injEq] at hs; subst hs
    exact hk w (Moves.refl hR)
  | d :: ds, l, m, m', w, hd, hR, hs, hk => by
    obtain ⟨i, l', h1, rfl, h2⟩ := hd
    simp only [shutDefs] at hs
    split at hs
    case h_2 => cases hs
    rename_i hb
    obtain ⟨i', o', h3, _, h4, h5⟩ := hR.obj d _ hb
    rw [h1] at h3; cases h3
    simp only [relO, if_true] at h5
    subst h5
    have hM : Moves base Γ m w Γ (m.put d (.deferred false)) (w.putObj i.blk (.deferred none)) := Moves.put hR hb h1 rfl rfl rfl rfl rfl (by simp only [relO]; rfl)
    refine ⟨by simp, .inl ⟨i.blk, _, rfl, run_takeDeferred h4, leaves_ok h2 hM.rep hs fun w' k => hk w' (hM.trans k)⟩⟩
def resOf (tmps : Array Value) : ResultVar → Sem Value
  | .tmp t => pure (tmps.getD t undef)
  | .cell a t => do loadVar t (← asAddr (tmps.getD a undef))
theorem resultsA_ok (hR : Rep base Γ m.H w) {tm : PT AV} {N : Nat} {tmps : Array Value} (ht : relT Γ tm N tmps) : ∀ {rs : List ResultVar} {vs : List AV}, resultsA P m tm rs = some vs →
    ∃ cs : List Value, (rs.mapM (resOf tmps)).run P w = .ok cs w ∧ relL Γ vs cs
  | [], vs, h => by
    simp only [resultsA, Option.some.injEq] at h; subst h
    exact ⟨[], rfl, by simp only [relL]⟩
  | .tmp t :: rs, vs, h => by
    simp only [resultsA] at h
    split at h
    case h_2 => cases h
    rename_i a as ha has
    cases h
    obtain ⟨cs, h1, h2⟩ := resultsA_ok hR ht has
    obtain ⟨c, h3, h4⟩ := ht.2 t a ha
    have hc : (resOf tmps (.tmp t)).run P w = .ok c w := by simp [resOf, Array.getD_eq_getD_getElem?, h3]
    refine ⟨c :: cs, ?_, by simp only [relL]; exact ⟨c, cs, rfl, h4, h2⟩⟩
    simp only [List.mapM_cons, Sem.run_bind, Sem.run_pure, Result.andThen_ok, h1, hc]
  | .cell x t :: rs, vs, h => by
    simp only [resultsA] at h
    split at h
    case h_2 => cases h
    rename_i b off as ha has
    split at h
    case h_2 => cases h
    rename_i v hv
    cases h
    obtain ⟨cs, h1, h2⟩ := resultsA_ok hR ht has
    obtain ⟨c, h3, h4⟩ := ht.2 x _ ha
    simp only [rel] at h4
    obtain ⟨i, hi, rfl⟩ := h4
    obtain ⟨c, h5, h6⟩ := loadA_run hR hv hi
    have hc : (resOf tmps (.cell x t)).run P w = .ok c w := by simp [resOf, Array.getD_eq_getD_getElem?, h3, asAddr, h5]
    refine ⟨c :: cs, ?_, by simp only [relL]; exact ⟨c, cs, rfl, h6, h2⟩⟩
    simp only [List.mapM_cons, Sem.run_bind, Sem.run_pure, Result.andThen_ok, h1, hc]
theorem results_eq (fn : Func) (tmps : Array Value) : results fn tmps = (fn.results.mapM (resOf tmps) >>= fun vs => pure (if h : vs.size = 1 then vs[0] else .tuple vs)) := by
  have : (fun x => (match x with | .tmp t => pure (tmps.getD t undef) | .cell a t => do loadVar t (← asAddr (tmps.getD a undef)) : Sem Value)) = resOf tmps := by
    funext x; cases x <;> rfl
  rw [← this]
  rfl
theorem results_ok (hR : Rep base Γ m.H w) {tm : PT AV} {N : Nat} {tmps : Array Value} (ht : relT Γ tm N tmps) {fn : Func} {vs : List AV} (h : resultsA P m tm fn.results.toList = some vs) :
    ∃ c, (results fn tmps).run P w = .ok c w ∧ rel Γ (resultA vs) c := by
  obtain ⟨cs, h1, h2⟩ := resultsA_ok hR ht h
  have hrun : (results fn tmps).run P w = .ok (if h : cs.toArray.size = 1 then cs.toArray[0] else .tuple cs.toArray) w := by
    rw [results_eq, Sem.run_bind, Array.mapM_eq_mapM_toList]
    simp only [Sem.run_map, h1, Result.andThen_ok, Sem.run_pure]
  refine ⟨_, hrun, ?_⟩
  match vs, cs, h2 with
  | [], cs, h2 => simp only [relL] at h2; subst h2; simp only [resultA, rel]; exact ⟨[], rfl, by simp only [relL]⟩
  | [a], cs, h2 =>
    simp only [relL] at h2
    obtain ⟨x, xs, rfl, h3, rfl⟩ := h2
    exact h3
  | a :: b :: l, cs, h2 =>
    have hlen := h2.length
    simp only [List.length_cons] at hlen
    simp only [resultA, rel]
    rw [dif_neg (by simp; omega)]
    exact ⟨cs, rfl, h2⟩
theorem relT.fill {args : List AV} {cs : List Value} (h : relL Γ args cs) (n : Nat) : relT Γ (PT.fill .nil 0 args) (max args.length n) ((⟨cs⟩ : Array Value) ++ Array.replicate (n - (⟨cs⟩ : Array Value).size) undef) := by
  have hl := h.length
  refine ⟨by simp; omega, fun t a ha => ?_⟩
  rw [PT.get_fill] at ha
  split at ha
  · rename_i hlt
    obtain ⟨x, h1, h2⟩ := h.get ha
    refine ⟨x, ?_, h2⟩
    rw [Array.getElem?_append_left (by simp; omega)]
    simpa using h1
  · rw [PT.get_nil] at ha; cases ha
theorem body_ok (S : Sound cf base E) (hrec : RecOk cf base E rec) (hle : RecLe rec) {f : FuncId} {args : List AV} {v : AV} (h : bodyA cf rec f args m = some (v, m')) {cs : List Value} (hl : relL Γ args cs)
    (hst : St cf base E Γ m w) (hF : Fresh Γ m m') : (callFunc f ⟨cs⟩).run cf.P w = .ok (.enter f ⟨cs⟩) w ∧ Calls cf.P f ⟨cs⟩ w (Ends base Γ m w v m') := by
  unfold bodyA at h
  split at h
  case h_2 => cases h
  rename_i fn hfn
  split at h
  case h_2 => cases h
  rename_i c hc
  have h1 : fn.name ≠ "runtime.NumGoroutine" := by simpa using S.named f fn hfn
  refine ⟨by simp [callFunc, hfn, h1, hc], ?_⟩
  have go : ∀ {x : AExit} {fr : Fr} {m1 : Mem}, (x = .normal ∨ x = .ret) → rec none (max args.length fn.ntmps) c ⟨PT.fill .nil 0 args, []⟩ m = some (x, fr, m1) → (match shutDefs fr.defs m1 with
      | some m => match resultsA cf.P m fr.tm fn.results.toList with
        | some rs => some (resultA rs, m)
        | none => none
      | none => none) = some (v, m') → Calls cf.P f ⟨cs⟩ w (Ends base Γ m w v m') := by
    intro x fr m1 hx hr h
    split at h
    case h_2 => cases h
    rename_i m2 hs
    split at h
    case h_2 => cases h
    rename_i vs hvs
    cases h
    have hF1 : Fresh Γ m m1 := hF.left (by rw [shutDefs_le hs]; exact Nat.le_refl _)
    have hwp := (hrec _ _ _ _ _ _ _ _ hr).1 none 0 Γ { tmps := (⟨cs⟩ : Array Value) ++ Array.replicate (fn.ntmps - (⟨cs⟩ : Array Value).size) undef, defers := [] } w
      ⟨hst, trivial, relT.fill hl _, rfl⟩ hF1
    refine callsIn_wide.1 (callsIn_of_wp_marks (F := Fence.wide) (n := 0) hfn hc trivial (wpIn_mono hwp fun e a w1 hq => ?_))
    obtain ⟨he, Γ1, ht, hd, hM⟩ := hq
    have hlv : LeavesInM Fence.wide 0 cf.P fn a.tmps (Ends base Γ m w (resultA vs) m') a.defers .returning w1 := by
      refine leaves_ok hd hM.rep hs fun w2 hM2 => ?_
      obtain ⟨cv, h1, h2⟩ := results_ok hM2.rep ht hvs
      exact ⟨cv, h1, cv, Γ1, rfl, h2, hM.trans hM2⟩
    rcases hx with rfl | rfl <;> (subst he; exact hlv)
  split at h
  · rename_i hr; exact go (.inl rfl) hr h
  · rename_i hr; exact go (.inr rfl) hr h
  · cases h
theorem call_ok (S : Sound cf base E) (hrec : RecOk cf base E rec) (hle : RecLe rec) {f : FuncId} {args : List AV} {v : AV} (h : callA cf rec f args m = some (v, m')) {cs : List Value} (hl : relL Γ args cs)
    (hst : St cf base E Γ m w) (hF : Fresh Γ m m') : CallGives cf.P base Γ m w f ⟨cs⟩ v m' := by
  unfold callA at h
  split at h
  · rename_i hd hh; exact (S.hd f hd hh _ _ _ _ h).2 Γ w cs hl hst hF
  · exact .inr (body_ok S hrec hle h hl hst hF)
end Go.Proofs.YtijnlbpeckoofaaGreat
