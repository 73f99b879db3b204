/- A machine that runs closed calls: maps. -/
import Derived.Test.YtijnlbpeckoofaaGreatEngX
set_option linter.unusedVariables false
set_option linter.unusedSimpArgs false
namespace Go.Proofs.YtijnlbpeckoofaaGreat
open Go.RowKit
variable {P : Program} {base : Nat} {Γ : Tie} {m : Mem} {w : World} {ev : Operand → Option AV} {ρ : Operand → Value}

theorem getObj_map {r : Nat} {es : Array MapEntry} {clock : Nat} (h : w.heap[r]? = some (.map es clock)) : (getObj r).run P w = .ok (.map es clock) w := by
  simp [getObj, Sem.run, h]
theorem forIn_check {β : Type} (f : Field → PUnit → Sem (ForInStep PUnit)) : ∀ (fs : List Field), (∀ g ∈ fs, ∀ u, (f g u).run P w = .ok (.yield ⟨⟩) w) → (forIn fs PUnit.unit f : Sem PUnit).run P w = .ok ⟨⟩ w
  | [], h => rfl
  | g :: fs, h => by
    simp only [List.forIn_cons, Sem.run_bind, h g (by simp), Result.andThen_ok]
    exact forIn_check (β := β) f fs (fun g' hg => h g' (by simp [hg]))
theorem check_plain {t : TypeId} {d : TypeDesc} (h : P.underlying t = some d) (hp : plainType (some d) = true) (e : Bool) (n : Nat) (v : Value) (w : World) : (Instr.checkKey e (n + 1) t v).run P w = .ok () w := by
  unfold plainType at hp
  cases d <;> simp at hp <;> (simp only [Instr.checkKey, Sem.run_bind, run_underlying h, Result.andThen_ok]; cases v <;> rfl)
theorem check_run {kt : TypeId} {kd : TypeDesc} (h : P.underlying kt = some kd) (hp : plainKey P kd = true) {k : AV} (hf : keyFits P kd k = true) {v : Value} (hr : rel Γ k v) (e : Bool) (n : Nat) (w : World) : (Instr.checkKey e (n + 2) kt v).run P w = .ok () w := by
  cases kd with
  | struct fs =>
    unfold keyFits at hf
    split at hf
    case h_2 => cases hf
    case h_3 => rename_i h1 h2; first | exact (h1 _ rfl).elim | exact (h2 _ rfl).elim | (cases hf)
    rename_i fs' xs e1
    cases e1
    simp only [rel] at hr
    obtain ⟨vs, rfl, hl⟩ := hr
    rw [Instr.checkKey]
    simp only [Sem.run_bind, run_underlying h, Result.andThen_ok]
    rw [← Array.forIn_toList]
    refine (congrArg (fun r => Result.andThen r _) (forIn_check (β := Unit) (P := P) (w := w) _ fs.toList ?_)).trans ?_
    · intro g hg u
      have hg1 : plainType (P.underlying g.type) = true := by
        simp only [plainKey, List.all_eq_true] at hp
        exact hp g hg
      have hg2 := List.all_eq_true.1 hf g hg
      split
      · cases hu : P.underlying g.type with
        | none => rw [hu] at hg1; cases hg1
        | some d =>
          rw [hu] at hg1 hg2
          have hd : aggD d = false := by
            unfold plainType at hg1
            cases d <;> first | rfl | simp at hg1
          have : ∃ a, xs[g.offset]? = some a := by
            cases hx : xs[g.offset]? with
            | none => rw [hx] at hg2; cases d <;> simp at hg2
            | some a => exact ⟨a, rfl⟩
          obtain ⟨a, ha⟩ := this
          obtain ⟨c, h1, h2⟩ := part_one hu hd hl ha w
          simp only [Sem.run_bind, h1, Result.andThen_ok, check_plain hu hg1 e n c w, Sem.run_pure]
      · rfl
    · rfl
  | _ =>
    first
    | (rw [Instr.checkKey]; simp only [Sem.run_bind, run_underlying h, Result.andThen_ok]; cases v <;> rfl)
    | exact absurd hp (by simp [plainKey])
def relF (Γ : Tie) : Option (Nat × AV) → Option (Nat × Value) → Prop
  | none, r => r = none
  | some (i, a), r => ∃ v, r = some (i, v) ∧ rel Γ a v
theorem sameKey_now {kt : TypeId} {kd : TypeDesc} {a b : AV} {r : Bool} (h : sameKey P kt kd a b = some r) (hk : ∀ fs, kd ≠ .struct fs) {u v : Value} (ha : rel Γ a u) (hb : rel Γ b v) : Instr.sameNow kd u v = some r := by
  unfold sameKey at h
  split at h
  · simp only [rel] at ha hb; subst ha hb
    split at h
    · rename_i e; subst e; simpa [Instr.sameNow] using h
    · cases h
  · simp only [rel] at ha hb
    obtain ⟨rfl, h1⟩ := ha
    obtain ⟨rfl, h2⟩ := hb
    simp only [Instr.sameNow, beq_toListBytes, strOf_toList, dec_beq h1 h2]
    exact h
  · simp only [rel] at ha hb; subst ha hb
    simpa [Instr.sameNow] using h
  · exact absurd rfl (hk _)
  · cases h
theorem findA_now {kt : TypeId} {kd : TypeDesc} {k : AV} (hk : ∀ fs, kd ≠ .struct fs) {v : Value} (hv : rel Γ k v) : ∀ {es : List (AV × AV × Nat)} {l : List MapEntry} {i : Nat} {r : Option (Nat × AV)}, findA P kt kd k es i = some r → relE Γ es l → ∃ r', Instr.findNow kd v l i = some r' ∧ relF Γ r r'
  | [], l, i, r, h, he => by
    simp only [findA, Option.some.injEq] at h; subst h
    simp only [relE] at he; subst he
    exact ⟨none, rfl, rfl⟩
  | (k', a, b) :: es, l, i, r, h, he => by
    obtain ⟨e, l', rfl, h1, h2, h3, h4⟩ := he
    simp only [findA] at h
    split at h
    · rename_i hs
      cases h
      exact ⟨some (i, e.val), by simp only [Instr.findNow, sameKey_now hs hk hv h1], e.val, rfl, h2⟩
    · rename_i hs
      obtain ⟨r', h5, h6⟩ := findA_now hk hv h h4
      exact ⟨r', by simp only [Instr.findNow, sameKey_now hs hk hv h1]; exact h5, h6⟩
    · cases h
theorem findA_ask {kt : TypeId} {fs : Array Field} {k : AV} {v : Value} (hv : rel Γ k v) (w : World) : ∀ {es : List (AV × AV × Nat)} {l : List MapEntry} {i : Nat} {r : Option (Nat × AV)}, findA P kt (.struct fs) k es i = some r → relE Γ es l → ∃ r', (Instr.findAsking kt v l i).run P w = .ok r' w ∧ relF Γ r r'
  | [], l, i, r, h, he => by
    simp only [findA, Option.some.injEq] at h; subst h
    simp only [relE] at he; subst he
    exact ⟨none, rfl, rfl⟩
  | (k', a, b) :: es, l, i, r, h, he => by
    obtain ⟨e, l', rfl, h1, h2, h3, h4⟩ := he
    have key : ∀ q, sameKey P kt (.struct fs) k k' = some q → (Op.equal kt v e.key).run P w = .ok q w := by
      intro q hq
      unfold sameKey at hq
      split at hq
      · rename_i e1; cases e1
      · rename_i e1; cases e1
      · rename_i e1; cases e1
      · simp only [rel] at hv h1
        obtain ⟨us, rfl, hu⟩ := hv
        obtain ⟨vs, hkey, hw⟩ := h1
        rw [hkey]
        exact eqStruct_run 3 9999 (by omega) kt _ _ _ _ _ hq hu hw
      · cases hq
    simp only [findA] at h
    split at h
    · rename_i hs
      cases h
      exact ⟨some (i, e.val), by simp only [Instr.findAsking, Sem.run_bind, key _ hs, Result.andThen_ok]; rfl, e.val, rfl, h2⟩
    · rename_i hs
      obtain ⟨r', h5, h6⟩ := findA_ask hv w h h4
      exact ⟨r', by simp only [Instr.findAsking, Sem.run_bind, key _ hs, Result.andThen_ok, Bool.false_eq_true, if_false]; exact h5, h6⟩
    · cases h
theorem findA_run {kt : TypeId} {kd : TypeDesc} (hu : P.underlying kt = some kd) {k : AV} {v : Value} (hv : rel Γ k v) {es : List (AV × AV × Nat)} {l : List MapEntry} {r : Option (Nat × AV)} (h : findA P kt kd k es 0 = some r) (he : relE Γ es l) (w : World) :
    ∃ r', (Instr.findKey kt v l).run P w = .ok r' w ∧ relF Γ r r' := by
  by_cases hk : ∀ fs, kd ≠ .struct fs
  · obtain ⟨r', h1, h2⟩ := findA_now hk hv h he
    exact ⟨r', by simp only [Instr.findKey, Sem.run_bind, run_underlying hu, Result.andThen_ok, h1, Sem.run_pure], h2⟩
  · have : ∃ fs, kd = .struct fs := by
      cases kd <;> first | exact ⟨_, rfl⟩ | exact absurd (fun fs => by simp) hk
    obtain ⟨fs, rfl⟩ := this
    obtain ⟨r', h1, h2⟩ := findA_ask hv w h he
    refine ⟨r', ?_, h2⟩
    simp only [Instr.findKey, Sem.run_bind, run_underlying hu, Result.andThen_ok]
    cases l with
    | nil =>
      simp only [Instr.findAsking] at h1
      exact h1
    | cons e l =>
      have : Instr.findNow (.struct fs) v (e :: l) 0 = none := by
        simp only [Instr.findNow]
        have : Instr.sameNow (.struct fs) v e.key = none := by unfold Instr.sameNow; split <;> simp_all
        rw [this]
      rw [this]
      exact h1
/-- A map, as it stands. -/
theorem Rep.mapAt (hR : Rep base Γ m.H w) {b : Nat} {es : List (AV × AV × Nat)} {clock : Nat} (hb : m.H.get b = some (.map es clock)) :
    ∃ i es', Γ b = some i ∧ (base ≤ i.blk ∨ false = true) ∧ w.heap[i.blk]? = some (.map es' clock) ∧ relE Γ es es'.toList := by
  obtain ⟨i, o', h1, h2, h3, es', rfl, h4⟩ := hR.obj b _ hb
  exact ⟨i, es', h1, h2, h3, h4⟩
theorem relE.length {es : List (AV × AV × Nat)} {l : List MapEntry} (h : relE Γ es l) : es.length = l.length := by
  induction es generalizing l with
  | nil => simp only [relE] at h; subst h; rfl
  | cons e es ih => obtain ⟨k, v, b⟩ := e; obtain ⟨e', l', rfl, _, _, _, h4⟩ := h; simp [ih h4]
theorem rdLookup_ok (hR : Rep base Γ m.H w) (hev : Evals Γ ev ρ) {t : TypeId} {x ix : Operand} {ok : Bool} {v : AV} (h : rdLookup P m ev t x ix ok = some v) : Gives P Γ w ρ (.lookup t x ix ok) v := by
  intro dst type pos after guard
  unfold rdLookup at h
  split at h
  case h_2 => cases h
  rename_i a b ha hb
  have hx := hev _ _ ha
  have hi := hev _ _ hb
  suffices ∃ c, (Instr.lookup t (ρ x) (ρ ix) ok).run P w = .ok c w ∧ rel Γ v c by
    obtain ⟨c, h1, h2⟩ := this; exact ⟨c, by simp [execOp, h1], h2⟩
  generalize ρ x = u at *
  generalize ρ ix = k at *
  unfold lookA at h
  split at h
  case h_2 => cases h
  rename_i key elem hu
  split at h
  case h_2 => cases h
  rename_i kd z hk hz
  cases hc : (plainKey P kd && keyFits P kd b) with
  | false => rw [hc] at h; cases h
  | true =>
    rw [hc] at h
    simp only [Bool.and_eq_true] at hc
    simp only [cond_true] at h
    obtain ⟨zc, hz1, hz2⟩ := zeroA_run hz Γ w
    have pair : ∀ {a : AV} {c : Value} (q : Bool), rel Γ a c → rel Γ (if ok then .tuple [a, .bool q] else a) (if ok then .tuple #[c, .bool q] else c) := by
      intro a c q hr
      cases ok
      · exact hr
      · simp only [if_true, rel]; exact ⟨[c, .bool q], rfl, by simp only [relL]; exact ⟨_, _, rfl, hr, _, _, rfl, by simp only [rel], rfl⟩⟩
    split at h
    · cases h
      simp only [rel] at hx; subst hx
      refine ⟨_, ?_, pair false hz2⟩
      have h1 := check_run (P := P) hk hc.1 hc.2 hi true 9998 w
      have h2 : (Instr.findKey key k []).run P w = .ok none w := by simp [Instr.findKey, run_underlying hk, Instr.findNow]
      simp [Instr.lookup, run_underlying hu, h1, h2, hz1]
    · rename_i mb
      split at h
      case h_2 => cases h
      rename_i es clock hmb
      simp only [rel] at hx
      obtain ⟨j, hj, rfl⟩ := hx
      obtain ⟨j', es', hj', _, h3, h4⟩ := hR.mapAt hmb
      rw [hj] at hj'; cases hj'
      have hget := getObj_map (P := P) h3
      have h1 := check_run (P := P) hk hc.1 hc.2 hi es'.isEmpty 9998 w
      split at h
      · rename_i q a hf
        cases h
        obtain ⟨r', h5, c, rfl, h6⟩ := findA_run hk hi hf h4 w
        refine ⟨_, ?_, pair true h6⟩
        simp [Instr.lookup, run_underlying hu, hget, h1, h5]
      · rename_i hf
        cases h
        obtain ⟨r', h5, rfl⟩ := findA_run hk hi hf h4 w
        refine ⟨_, ?_, pair false hz2⟩
        simp [Instr.lookup, run_underlying hu, hget, h1, h5, hz1]
      · cases h
    · cases h
end Go.Proofs.YtijnlbpeckoofaaGreat
