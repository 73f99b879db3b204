/- A machine that runs closed calls: ranges over maps; all effects. -/
import Derived.Test.YtijnlbpeckoofaaGreatEngJ
set_option linter.unusedVariables false
set_option linter.unusedSimpArgs false
namespace Go.Proofs.YtijnlbpeckoofaaGreat
open Go.RowKit
variable {P : Program} {base : Nat} {Γ : Tie} {m : Mem} {w : World} {ev : Operand → Option AV} {ρ : Operand → Value}

theorem efRange_ok (hR : Rep base Γ m.H w) (hev : Evals Γ ev ρ) {t : TypeId} {x : Operand} {v : AV} {m' : Mem} (hF : Fresh Γ m m') (h : efRange P m ev t x = some (v, m')) : Does P base Γ m w ρ (.range t x) v m' := by
  intro dst type pos after guard
  unfold efRange at h
  split at h
  · rename_i k e hu hx
    cases h
    have hx' := hev _ _ hx
    simp only [rel] at hx'
    exact ⟨.value (.pointer (some ⟨w.heap.size, 0, none⟩)), w.alloc (.mapIter none 0 #[] 0), tieA Γ m.next ⟨w.heap.size, 0⟩, _, by simp [execOp, Instr.range, run_underlying hu, hx'], .inl rfl, by simp only [rel]; exact ⟨_, tie_self, rfl⟩,
      Moves.push hR (hF _ (Nat.le_refl _) (Nat.lt_succ_self _)) rfl rfl rfl rfl ⟨0, #[], 0, rfl⟩⟩
  · rename_i k e b hu hx
    split at h
    case h_2 => cases h
    rename_i es clock hb
    cases h
    have hx' := hev _ _ hx
    simp only [rel] at hx'
    obtain ⟨i, hi, ex⟩ := hx'
    obtain ⟨i', es', hi', _, h3, h4⟩ := hR.mapAt hb
    rw [hi] at hi'; cases hi'
    exact ⟨.value (.pointer (some ⟨w.heap.size, 0, none⟩)), w.alloc (.mapIter (some i.blk) clock #[] clock), tieA Γ m.next ⟨w.heap.size, 0⟩, _, by simp [execOp, Instr.range, run_underlying hu, ex, getObj_map (P := P) h3], .inl rfl, by simp only [rel]; exact ⟨_, tie_self, rfl⟩,
      Moves.push hR (hF _ (Nat.le_refl _) (Nat.lt_succ_self _)) rfl rfl rfl rfl ⟨i, hi, rfl⟩⟩
  · cases h
theorem relE.filter {f : AV × AV × Nat → Bool} {g : MapEntry → Bool} : ∀ {es : List (AV × AV × Nat)} {l : List MapEntry}, relE Γ es l → (∀ k v b e, e.born = b → f (k, v, b) = g e) → relE Γ (es.filter f) (l.filter g)
  | [], l, h, hf => by simp only [relE] at h; subst h; exact rfl
  | (k, v, b) :: es, l, h, hf => by
    obtain ⟨e, l', rfl, h1, h2, h3, h4⟩ := h
    simp only [List.filter_cons]
    rw [hf k v b e h3]
    split
    · exact ⟨e, _, rfl, h1, h2, h3, h4.filter hf⟩
    · exact h4.filter hf
theorem relE.all {f : AV × AV × Nat → Bool} {g : MapEntry → Bool} : ∀ {es : List (AV × AV × Nat)} {l : List MapEntry}, relE Γ es l → (∀ k v b e, e.born = b → f (k, v, b) = g e) → es.all f = l.all g
  | [], l, h, hf => by simp only [relE] at h; subst h; rfl
  | (k, v, b) :: es, l, h, hf => by
    obtain ⟨e, l', rfl, h1, h2, h3, h4⟩ := h
    simp only [List.all_cons, hf k v b e h3, h4.all hf]
theorem efNext_ok (hR : Rep base Γ m.H w) (hev : Evals Γ ev ρ) {it : Operand} {v : AV} {m' : Mem} (h : efNext P m ev it = some (v, m')) : Does P base Γ m w ρ (.next it false) v m' := by
  intro dst type pos after guard
  unfold efNext at h
  split at h
  case h_2 => cases h
  rename_i b hit
  have hx' := hev _ _ hit
  simp only [rel] at hx'
  obtain ⟨i, hi, ex⟩ := hx'
  split at h
  · rename_i hb
    cases h
    obtain ⟨i', o', hi', _, h3, a, c, d, rfl⟩ := hR.obj b _ hb
    rw [hi] at hi'; cases hi'
    exact ⟨.value (.tuple #[.bool false]), w, Γ, _, by simp [execOp, Instr.next, ex, getObj_iter (P := P) h3], .inl rfl, by simp only [rel]; exact ⟨[.bool false], rfl, by simp only [relL]; exact ⟨_, _, rfl, by simp only [rel], rfl⟩⟩, Moves.refl hR⟩
  · rename_i mb since seen stepped hb
    split at h
    case h_2 => cases h
    rename_i es clock hmb
    cases hc : (!seen.isEmpty && !es.isEmpty && es.all (fun e => Nat.ble stepped e.2.2)) with
    | true => rw [hc] at h; cases h
    | false =>
      rw [hc] at h
      simp only [cond_false] at h
      obtain ⟨i', o', hi', _, h3, j, hj, rfl⟩ := hR.obj b _ hb
      rw [hi] at hi'; cases hi'
      obtain ⟨j', es', hj', _, h4, h5⟩ := hR.mapAt hmb
      rw [hj] at hj'; cases hj'
      have hcond : (!(⟨seen⟩ : Array Nat).isEmpty && !es'.isEmpty && es'.all (·.born ≥ stepped)) = false := by
        rw [← hc]
        have e1 : (⟨seen⟩ : Array Nat).isEmpty = seen.isEmpty := by cases seen <;> rfl
        have e2 : es'.isEmpty = es.isEmpty := by
          rw [← Array.isEmpty_toList]
          cases hes : es with
          | nil => rw [hes] at h5; simp only [relE] at h5; rw [h5]; rfl
          | cons x xs => rw [hes] at h5; obtain ⟨k, v, b⟩ := x; obtain ⟨e, l', hl, _⟩ := h5; rw [hl]; rfl
        have e3 : es'.all (·.born ≥ stepped) = es.all (fun e => Nat.ble stepped e.2.2) := by
          rw [← Array.all_toList]
          refine (h5.all fun k v b e hb => ?_).symm
          rw [hb, Bool.eq_iff_iff]; simp [Nat.ble_eq]
        rw [e1, e2, e3]
      have hleft : relE Γ (es.filter fun e => !seen.contains e.2.2) (es'.filter fun e => !(⟨seen⟩ : Array Nat).contains e.born).toList := by
        rw [Array.toList_filter]
        exact h5.filter fun k v b e hb => by simp [hb]
      have hold : relE Γ ((es.filter fun e => !seen.contains e.2.2).filter (fun e => Nat.blt e.2.2 since)) ((es'.filter fun e => !(⟨seen⟩ : Array Nat).contains e.born).filter (·.born < since)).toList := by
        rw [Array.toList_filter]
        exact hleft.filter fun k v b e hb => by rw [hb, Bool.eq_iff_iff]; simp [Nat.blt_eq]
      have hnew : relE Γ ((es.filter fun e => !seen.contains e.2.2).filter (fun e => !Nat.blt e.2.2 since)) ((es'.filter fun e => !(⟨seen⟩ : Array Nat).contains e.born).filter (·.born ≥ since)).toList := by
        rw [Array.toList_filter]
        refine hleft.filter fun k v b e hb => ?_
        rw [hb, Bool.eq_iff_iff]
        simp only [Bool.not_eq_true', decide_eq_true_eq, ge_iff_le]
        rw [← Bool.not_eq_true, Nat.blt_eq]; omega
      generalize hO : ((es'.filter fun e => !(⟨seen⟩ : Array Nat).contains e.born).filter (·.born < since)) = O at *
      generalize hN : ((es'.filter fun e => !(⟨seen⟩ : Array Nat).contains e.born).filter (·.born ≥ since)) = N at *
      split at h
      · rename_i q1 q2
        cases h
        rw [q1] at hold; rw [q2] at hnew
        simp only [relE] at hold hnew
        have hO' : O = #[] := by apply Array.ext'; exact hold
        have hN' : N = #[] := by apply Array.ext'; exact hnew
        refine ⟨.value (.tuple #[.bool false]), w, Γ, _, ?_, .inl rfl, by simp only [rel]; exact ⟨[.bool false], rfl, by simp only [relL]; exact ⟨_, _, rfl, by simp only [rel], rfl⟩⟩, Moves.refl hR⟩
        simp only [execOp, Sem.run_bind, Instr.next, ex, getObj_iter (P := P) h3, Result.andThen_ok, getObj_map (P := P) h4, hcond, hO, hN, hO', hN']
        have hcand : ((if (#[] : Array MapEntry).isEmpty = true then #[none] else #[]) ++ Array.map some ((#[] : Array MapEntry) ++ #[])) = #[none] := by simp
        have hch : (choose (.mapNext (#[none] : Array (Option MapEntry)).size)).run P w = .ok 0 w := rfl
        rw [if_neg (by simp), hcand]
        simp only [Sem.run_bind, hch, Result.andThen_ok]
        rfl
      · rename_i k v' born q1 q2
        cases h
        rw [q1] at hold; rw [q2] at hnew
        obtain ⟨e, l', hl, g1, g2, g3, g4⟩ := hold
        simp only [relE] at g4 hnew
        subst g4
        have hO' : O = #[e] := by apply Array.ext'; exact hl
        have hN' : N = #[] := by apply Array.ext'; exact hnew
        refine ⟨.value (.tuple #[.bool true, e.key, e.val]), upd w i.blk (.mapIter (some j.blk) since ((⟨seen⟩ : Array Nat).push e.born) clock), Γ, _, ?_, .inl rfl, ?_, Moves.put hR hb hi rfl rfl rfl rfl rfl ⟨j, hj, by simp [g3]⟩⟩
        · simp only [execOp, Sem.run_bind, Instr.next, ex, getObj_iter (P := P) h3, Result.andThen_ok, getObj_map (P := P) h4, hcond, hO, hN, hO', hN']
          have hset : (setObj i.blk (.mapIter (some j.blk) since ((⟨seen⟩ : Array Nat).push e.born) clock)).run P w = .ok () (upd w i.blk (.mapIter (some j.blk) since ((⟨seen⟩ : Array Nat).push e.born) clock)) := by
            simp [setObj, Sem.run, h3, upd]
          have hcand : ((if (#[e] : Array MapEntry).isEmpty = true then #[none] else #[]) ++ Array.map some ((#[e] : Array MapEntry) ++ #[])) = #[some e] := by simp
          have hch : (choose (.mapNext (#[some e] : Array (Option MapEntry)).size)).run P w = .ok 0 w := rfl
          rw [if_neg (by simp), hcand]
          simp only [Sem.run_bind, hch, Result.andThen_ok]
          have hg : (#[some e] : Array (Option MapEntry))[0]? = some (some e) := rfl
          rw [hg]
          simp only [Sem.run_bind, hset, Result.andThen_ok, Sem.run_pure]
        · simp only [rel]
          refine ⟨[.bool true, e.key, e.val], rfl, ?_⟩
          simp only [relL]
          exact ⟨_, _, rfl, by simp only [rel], _, _, rfl, g1, _, _, rfl, g2, rfl⟩
      · cases h
  · cases h
theorem efCall_ok (hR : Rep base Γ m.H w) (hev : Evals Γ ev ρ) {c : Call} {v : AV} {m' : Mem} (hF : Fresh Γ m m') (h : efCall P m ev c = some (v, m')) : Does P base Γ m w ρ (.call c) v m' := by
  obtain ⟨callee, args, ts⟩ := c
  unfold efCall at h
  split at h
  · rename_i hc; simp only at hc h; subst hc; exact efAppend_ok hR hev hF h
  · rename_i hc; simp only at hc h; subst hc; exact efString_ok hR hev h
  · rename_i hc; simp only at hc h; subst hc; exact efCopy_ok hR hev h
  · cases h
theorem effA_ok (hR : Rep base Γ m.H w) (hev : Evals Γ ev ρ) {op : Op} {v : AV} {m' : Mem} (hF : Fresh Γ m m') (h : effA P m ev op = some (v, m')) : Does P base Γ m w ρ op v m' := by
  unfold effA at h
  split at h
  · exact efStore_ok hR hev h
  · exact (efUpdate_ok hR hev h).1
  · exact (efUpdate_ok hR hev h).2
  · exact efRange_ok hR hev hF h
  · exact efNext_ok hR hev h
  · exact efCall_ok hR hev hF h
  · cases h
end Go.Proofs.YtijnlbpeckoofaaGreat
