/- A machine that runs closed calls: open orders, the stages of the memory. -/
import Derived.Test.YtijnlbpeckoofaaGreatEngDc
set_option linter.unusedVariables false
set_option linter.unusedSimpArgs false
namespace Go.Proofs.YtijnlbpeckoofaaGreat
open Go.RowKit
variable {cf : Cf} {rec : Rec} {ops : Array Oper} {N : Nat}

structure Tr (cf : Cf) (rec : Rec) (ops : Array Oper) (N : Nat) (σ : Nat → DS) (val : Nat → AV) (m : Mem) (tm : PT AV) : Prop where
  plan : planA ops = true
  le : HdLe cf ∧ RecLe rec
  init : σ 0 = ⟨tm, m.next, ⟨m.H, 0, none⟩, [], [], []⟩
  ok : ∀ (i : Nat) o, ops[i]? = some o → dstOk N o.dst = true
  step : ∀ (i : Nat) o, ops[i]? = some o → Did cf rec ops i o (maskOf ops i) (σ i) (σ (i + 1)) (val i)
abbrev isEff (σ : Nat → DS) (i : Nat) : Prop := (σ (i + 1)).top.e = some i
def cur (σ : Nat → DS) (D : Nat → Bool) : Nat → Stage
  | 0 => (σ 0).top
  | i + 1 => if D i = true ∧ (σ (i + 1)).top.e = some i then (σ (i + 1)).top else cur σ D i
variable {σ : Nat → DS} {val : Nat → AV} {m : Mem} {tm : PT AV} {D : Nat → Bool}
theorem at_oper {i : Nat} (h : i < ops.size) : ∃ o, ops[i]? = some o := ⟨_, Array.getElem?_eq_getElem h⟩
theorem Tr.tops (T : Tr cf rec ops N σ val m tm) {i : Nat} (hi : i < ops.size) : (σ (i + 1)).top = (σ i).top ∧ (σ (i + 1)).old = (σ i).old ∨ isEff σ i ∧ (σ (i + 1)).old = (σ i).top :: (σ i).old := by
  obtain ⟨o, ho⟩ := at_oper hi
  rcases T.step i o ho with ⟨_, _, hS⟩ | ⟨_, _, _, hS⟩ | ⟨_, _, _, hS⟩ | ⟨_, _, _, _, _, hS⟩ | ⟨_, _, _, _, _, _, hS⟩
  · exact .inl (by rw [hS]; exact ⟨rfl, rfl⟩)
  · exact .inl (by rw [hS]; exact ⟨rfl, rfl⟩)
  · exact .inl (by rw [hS]; exact ⟨rfl, rfl⟩)
  · exact .inl (by rw [hS]; exact ⟨rfl, rfl⟩)
  · exact .inr (by unfold isEff; rw [hS]; exact ⟨rfl, rfl⟩)
theorem Tr.top_lt (T : Tr cf rec ops N σ val m tm) : ∀ {i : Nat}, i ≤ ops.size → ∀ p, (σ i).top.e = some p → p < i
  | 0, hi, p, h => by rw [T.init] at h; cases h
  | i + 1, hi, p, h => by
    rcases T.tops hi with ⟨h1, _⟩ | ⟨h1, _⟩
    · rw [h1] at h; have := T.top_lt (by omega) p h; omega
    · rw [h1] at h; cases h; omega
theorem Tr.not_eff (T : Tr cf rec ops N σ val m tm) {i : Nat} (hi : i < ops.size) (h : (σ (i + 1)).top = (σ i).top) : ¬ isEff σ i := fun q => by
  unfold isEff at q
  rw [h] at q
  have := T.top_lt (by omega) i q; omega
theorem Tr.top_cur (T : Tr cf rec ops N σ val m tm) : ∀ {i : Nat}, i ≤ ops.size → (σ i).top = cur σ (fun _ => true) i
  | 0, hi => rfl
  | i + 1, hi => by
    simp only [cur]
    rcases T.tops hi with ⟨h1, _⟩ | ⟨h1, _⟩
    · rw [if_neg (fun q => T.not_eff hi h1 q.2), h1]; exact T.top_cur (by omega)
    · rw [if_pos ⟨trivial, h1⟩]
theorem cur_spec (σ : Nat → DS) (D : Nat → Bool) : ∀ i, (cur σ D i = (σ 0).top ∧ ∀ e, e < i → isEff σ e → D e = false) ∨
    ∃ p, p < i ∧ D p = true ∧ isEff σ p ∧ cur σ D i = (σ (p + 1)).top ∧ ∀ e, p < e → e < i → isEff σ e → D e = false
  | 0 => .inl ⟨rfl, fun e h => by omega⟩
  | i + 1 => by
    simp only [cur]
    by_cases hc : D i = true ∧ (σ (i + 1)).top.e = some i
    · rw [if_pos hc]
      exact .inr ⟨i, by omega, hc.1, hc.2, rfl, fun e h1 h2 => by omega⟩
    · rw [if_neg hc]
      have hi : isEff σ i → D i = false := fun he => by
        cases hd : D i with
        | false => rfl
        | true => exact absurd ⟨hd, he⟩ hc
      rcases cur_spec σ D i with ⟨h1, h2⟩ | ⟨p, h1, h2, h3, h4, h5⟩
      · refine .inl ⟨h1, fun e he hf => ?_⟩
        by_cases q : e = i
        · subst q; exact hi hf
        · exact h2 e (by omega) hf
      · refine .inr ⟨p, by omega, h2, h3, h4, fun e he1 he2 hf => ?_⟩
        by_cases q : e = i
        · subst q; exact hi hf
        · exact h5 e he1 (by omega) hf
theorem cur_congr {D D' : Nat → Bool} : ∀ {i : Nat}, (∀ e, e < i → isEff σ e → D e = D' e) → cur σ D i = cur σ D' i
  | 0, h => rfl
  | i + 1, h => by
    simp only [cur]
    rw [cur_congr (i := i) (fun e he hf => h e (by omega) hf)]
    by_cases he : (σ (i + 1)).top.e = some i
    · simp only [h i (by omega) he]
    · rw [if_neg (fun q => he q.2), if_neg (fun q => he q.2)]
theorem cur_stop {i : Nat} : ∀ {n : Nat}, i ≤ n → (∀ e, i ≤ e → e < n → isEff σ e → D e = false) → cur σ D n = cur σ D i
  | 0, hi, h => by rw [show i = 0 by omega]
  | n + 1, hi, h => by
    by_cases q : i = n + 1
    · rw [q]
    · simp only [cur]
      rw [if_neg (fun c => by have := h n (by omega) (by omega) c.2; rw [c.1] at this; cases this)]
      exact cur_stop (by omega) fun e h1 h2 h3 => h e h1 (by omega) h3
/-- An effect, as it was. -/
theorem Tr.eff (T : Tr cf rec ops N σ val m tm) {i : Nat} {o : Oper} (ho : ops[i]? = some o) (he : isEff σ i) : ∃ m1, guardA ops (σ i).tm o = some true ∧ stops (maskOf ops i) (σ i).top.e = true ∧ Nat.land (maskOf ops i) (σ i).top.abs = (σ i).top.abs ∧
    opA cf rec (evalA cf (σ i).tm) o.op ⟨ovl (maskOf ops i) (σ i).top.abs (σ i).allocs (σ i).top.H, (σ i).next⟩ = some (val i, m1) ∧
    (∀ r ∈ (σ i).reads, (maskOf ops i).testBit r.1 = true ∨ readsAt cf (σ i).allocs r.2.2.2.2 r.2.1 r.2.2.1 r.2.2.2.1 (σ (i + 1)).top = true) ∧
    (σ (i + 1)).top = ⟨m1.H, maskOf ops i, some i⟩ ∧ (σ (i + 1)).next = m1.next ∧ (σ (i + 1)).allocs = (σ i).allocs ∧ (σ (i + 1)).reads = (σ i).reads.filter (fun r => !(maskOf ops i).testBit r.1) ∧ (σ (i + 1)).tm = putA (σ i).tm o.dst (val i) := by
  have hi : i < ops.size := (Array.getElem?_eq_some_iff.1 ho).1
  rcases T.step i o ho with ⟨_, _, hS⟩ | ⟨_, _, _, hS⟩ | ⟨_, _, _, hS⟩ | ⟨_, _, _, _, _, hS⟩ | ⟨h1, m1, h2, h3, h4, h5, hS⟩
  · exact absurd he (T.not_eff hi (by rw [hS]))
  · exact absurd he (T.not_eff hi (by rw [hS]))
  · exact absurd he (T.not_eff hi (by rw [hS]))
  · exact absurd he (T.not_eff hi (by rw [hS]))
  · exact ⟨m1, h1, h2, h3, h4, by rw [hS]; exact h5, by rw [hS], by rw [hS], by rw [hS], by rw [hS], by rw [hS]⟩
theorem Closed.edges (hD : Closed ops D) {i : Nat} {o : Oper} (ho : ops[i]? = some o) (hi : D i = true) : ∀ e ∈ o.after, Region.binds .any e = true → D e.on = true := fun e he hb => hD i o ho hi e he hb
/-- Effects come in the order of the text. -/
theorem Tr.first (T : Tr cf rec ops N σ val m tm) (hD : Closed ops D) : ∀ (e : Nat), e < ops.size → D e = true → isEff σ e → ∀ e', e' < e → isEff σ e' → D e' = true := by
  intro e
  induction e using Nat.strongRecOn with
  | _ e ih =>
    intro he hDe hf e' hlt hf'
    obtain ⟨o, ho⟩ := at_oper he
    obtain ⟨m1, _, hs, _⟩ := T.eff ho hf
    have htop := T.top_cur (i := e) (by omega)
    rcases cur_spec σ (fun _ => true) e with ⟨h1, h2⟩ | ⟨p, h1, h2, h3, h4, h5⟩
    · have := h2 e' hlt hf'; cases this
    · have hp : (σ e).top.e = some p := by rw [htop, h4]; exact h3
      rw [hp] at hs
      have hDp : D p = true := mask_sub hD ho (hD.edges ho hDe) hs
      by_cases q : e' = p
      · rw [q]; exact hDp
      · by_cases q2 : e' < p
        · exact ih p h1 (by omega) hDp h3 e' q2 hf'
        · have := h5 e' (by omega) hlt hf'; cases this
theorem Tr.old_spec (T : Tr cf rec ops N σ val m tm) (D : Nat → Bool) : ∀ {i : Nat}, i ≤ ops.size → ∃ pre post, (σ i).top :: (σ i).old = pre ++ cur σ D i :: post ∧ ∀ s ∈ pre, ∃ e, s.e = some e ∧ e < i ∧ D e = false
  | 0, hi => ⟨[], [], by rw [T.init]; simp [cur, T.init], fun s hs => by cases hs⟩
  | i + 1, hi => by
    obtain ⟨pre, post, h1, h2⟩ := T.old_spec D (i := i) (by omega)
    rcases T.tops hi with ⟨h3, h4⟩ | ⟨h3, h4⟩
    · refine ⟨pre, post, ?_, fun s hs => let ⟨e, a, b, c⟩ := h2 s hs; ⟨e, a, by omega, c⟩⟩
      simp only [cur]
      rw [if_neg (fun q => T.not_eff hi h3 q.2), h3, h4]
      exact h1
    · by_cases hd : D i = true
      · refine ⟨[], (σ i).top :: (σ i).old, ?_, fun s hs => by cases hs⟩
        simp only [cur]
        rw [if_pos ⟨hd, h3⟩, h4]; rfl
      · refine ⟨(σ (i + 1)).top :: pre, post, ?_, fun s hs => ?_⟩
        · simp only [cur]
          rw [if_neg (fun q => hd q.1), h4, h1]; rfl
        · rcases List.mem_cons.1 hs with rfl | hs
          · exact ⟨i, h3, by omega, by simpa using hd⟩
          · obtain ⟨e, a, b, c⟩ := h2 s hs; exact ⟨e, a, by omega, c⟩
theorem readsOld_at {al : List (Nat × Nat × AObj)} {b : Nat} {tm : PT AV} {op : Op} {v : AV} {s : Stage} {post : List Stage} : ∀ {pre : List Stage}, readsOld cf al b tm op v (pre ++ s :: post) = true → (∀ s' ∈ pre, stops b s'.e = false) → readsAt cf al b tm op v s = true
  | [], h, hp => by
    simp only [List.nil_append, readsOld, Bool.and_eq_true] at h
    exact h.1
  | s' :: pre, h, hp => by
    simp only [List.cons_append, readsOld, Bool.and_eq_true] at h
    rw [hp s' List.mem_cons_self, Bool.false_or] at h
    exact readsOld_at h.2 fun x hx => hp x (List.mem_cons_of_mem _ hx)
theorem readsAt_eq {al : List (Nat × Nat × AObj)} {b : Nat} {tm : PT AV} {op : Op} {v : AV} {s : Stage} (h : readsAt cf al b tm op v s = true) : readA cf.P ⟨ovl b s.abs al s.H, 0⟩ (evalA cf tm) op = some v := by
  unfold readsAt at h
  split at h
  · rename_i v' hv
    rw [hv, beqA_eq h]
  · cases h
theorem Tr.next_le (T : Tr cf rec ops N σ val m tm) {i : Nat} (hi : i < ops.size) : (σ i).next ≤ (σ (i + 1)).next := by
  obtain ⟨o, ho⟩ := at_oper hi
  rcases T.step i o ho with ⟨_, _, hS⟩ | ⟨_, _, _, hS⟩ | ⟨_, _, _, hS⟩ | ⟨_, _, _, _, _, hS⟩ | ⟨_, m1, _, _, h4, _, hS⟩
  · rw [hS]; exact Nat.le_refl _
  · rw [hS]; exact Nat.le_refl _
  · rw [hS]; exact Nat.le_refl _
  · rw [hS]; exact Nat.le_succ _
  · rw [hS]
    have := opA_le T.le.1 T.le.2 h4
    exact this
theorem Tr.next_mono (T : Tr cf rec ops N σ val m tm) {i : Nat} : ∀ {j : Nat}, i ≤ j → j ≤ ops.size → (σ i).next ≤ (σ j).next
  | 0, h, hj => by rw [show i = 0 by omega]; exact Nat.le_refl _
  | j + 1, h, hj => by
    by_cases q : i = j + 1
    · rw [q]; exact Nat.le_refl _
    · exact Nat.le_trans (T.next_mono (by omega) (by omega)) (T.next_le hj)
theorem Tr.allocs_step (T : Tr cf rec ops N σ val m tm) {i : Nat} {o : Oper} (ho : ops[i]? = some o) : (σ (i + 1)).allocs = (σ i).allocs ∨ ∃ obj f, allocA cf.P (evalA cf (σ i).tm) o.op = some (obj, f) ∧ (σ (i + 1)).next = (σ i).next + 1 ∧ (σ (i + 1)).allocs = (i, (σ i).next, obj) :: (σ i).allocs := by
  rcases T.step i o ho with ⟨_, _, hS⟩ | ⟨_, _, _, hS⟩ | ⟨_, _, _, hS⟩ | ⟨_, obj, f, ha, _, hS⟩ | ⟨_, m1, _, _, h4, _, hS⟩
  · exact .inl (by rw [hS])
  · exact .inl (by rw [hS])
  · exact .inl (by rw [hS])
  · exact .inr ⟨obj, f, ha, by rw [hS], by rw [hS]⟩
  · exact .inl (by rw [hS])
theorem Tr.allocs_sub (T : Tr cf rec ops N σ val m tm) {i : Nat} : ∀ {j : Nat}, i ≤ j → j ≤ ops.size → ∀ x, x ∈ (σ i).allocs → x ∈ (σ j).allocs
  | 0, h, hj, x, hx => by rw [show i = 0 by omega] at hx; exact hx
  | j + 1, h, hj, x, hx => by
    by_cases q : i = j + 1
    · rw [← q]; exact hx
    · have ih := T.allocs_sub (j := j) (by omega) (by omega) x hx
      obtain ⟨o, ho⟩ := at_oper hj
      rcases T.allocs_step ho with h1 | ⟨obj, f, _, _, h1⟩
      · rw [h1]; exact ih
      · rw [h1]; exact List.mem_cons_of_mem _ ih
/-- Which blocks are laid by which operation. -/
theorem Tr.allocs_spec (T : Tr cf rec ops N σ val m tm) : ∀ {i : Nat}, i ≤ ops.size → ∀ j id obj, (j, id, obj) ∈ (σ i).allocs → j < i ∧ id = (σ j).next ∧ (σ (j + 1)).next = id + 1 ∧ ∃ o f, ops[j]? = some o ∧ allocA cf.P (evalA cf (σ j).tm) o.op = some (obj, f)
  | 0, hi, j, id, obj, h => by rw [T.init] at h; cases h
  | i + 1, hi, j, id, obj, h => by
    have old : (j, id, obj) ∈ (σ i).allocs → j < i + 1 ∧ id = (σ j).next ∧ (σ (j + 1)).next = id + 1 ∧ ∃ o f, ops[j]? = some o ∧ allocA cf.P (evalA cf (σ j).tm) o.op = some (obj, f) := fun h => by
      obtain ⟨h1, h2⟩ := T.allocs_spec (i := i) (by omega) j id obj h
      exact ⟨by omega, h2⟩
    obtain ⟨o, ho⟩ := at_oper hi
    rcases T.allocs_step ho with h1 | ⟨obj', f, ha, hn, h1⟩
    · rw [h1] at h; exact old h
    · rw [h1] at h
      rcases List.mem_cons.1 h with e | h
      · cases e; exact ⟨by omega, rfl, hn, o, f, ho, ha⟩
      · exact old h
theorem Tr.allocs_one (T : Tr cf rec ops N σ val m tm) {i id : Nat} {obj : AObj} (h : (i, id, obj) ∈ (σ ops.size).allocs) : ∀ j o', (j, id, o') ∈ (σ ops.size).allocs → j = i ∧ o' = obj := by
  intro j o' h'
  obtain ⟨h1, h2, h3, o, f, h4, h5⟩ := T.allocs_spec (Nat.le_refl _) i id obj h
  obtain ⟨k1, k2, k3, p, g, k4, k5⟩ := T.allocs_spec (Nat.le_refl _) j id o' h'
  have hij : j = i := by
    rcases Nat.lt_trichotomy i j with q | q | q
    · have := T.next_mono (i := i + 1) (j := j) q (by omega); omega
    · exact q.symm
    · have := T.next_mono (i := j + 1) (j := i) q (by omega); omega
  subst hij
  rw [h4] at k4; cases k4
  rw [h5] at k5; cases k5
  exact ⟨rfl, rfl⟩
/-- A reader stays on the list as long as no effect that is done is behind it. -/
theorem Tr.reads_stay (T : Tr cf rec ops N σ val m tm) (hD : Closed ops D) {r : Nat} {E : Nat × PT AV × Op × AV × Nat} (h1 : E.1 = r) (hr : D r = false) (h0 : E ∈ (σ (r + 1)).reads) : ∀ {i : Nat}, r + 1 ≤ i → i ≤ ops.size →
    (∀ j, r < j → j < i → isEff σ j → D j = true) → E ∈ (σ i).reads
  | 0, hi, hn, hj => by omega
  | i + 1, hi, hn, hj => by
    by_cases q : r = i
    · rw [← q]; exact h0
    · have ih := T.reads_stay hD h1 hr h0 (i := i) (by omega) (by omega) fun j a b c => hj j a (by omega) c
      obtain ⟨o, ho⟩ := at_oper hn
      rcases T.step i o ho with ⟨_, _, hS⟩ | ⟨_, _, _, hS⟩ | ⟨_, _, _, hS⟩ | ⟨_, _, _, _, _, hS⟩ | ⟨_, _, _, _, _, _, hS⟩
      · rw [hS]; exact ih
      · rw [hS]; exact ih
      · rw [hS]; exact List.mem_cons_of_mem _ ih
      · rw [hS]; exact ih
      · have hf : isEff σ i := by unfold isEff; rw [hS]
        rw [hS]
        refine List.mem_filter.2 ⟨ih, ?_⟩
        rw [h1]
        cases hb : (maskOf ops i).testBit r with
        | false => rfl
        | true =>
          have := mask_sub hD ho (hD.edges ho (hj i (by omega) (by omega) hf)) hb
          rw [hr] at this; cases this
/-- What a reader reads when its turn comes. -/
theorem Tr.reader (T : Tr cf rec ops N σ val m tm) (hD : Closed ops D) {r : Nat} {o : Oper} (ho : ops[r]? = some o) (hr : D r = false) (he : ∀ e ∈ o.after, Region.binds .any e = true → D e.on = true)
    (hv : readA cf.P ⟨ovl (maskOf ops r) (σ r).top.abs (σ r).allocs (σ r).top.H, 0⟩ (evalA cf (σ r).tm) o.op = some (val r)) (hs : (stops (maskOf ops r) (σ r).top.e || readsOld cf (σ r).allocs (maskOf ops r) (σ r).tm o.op (val r) (σ r).old) = true)
    (hS : (r, (σ r).tm, o.op, val r, maskOf ops r) ∈ (σ (r + 1)).reads) (hne : ¬ isEff σ r) :
    ∃ al, (∀ x, x ∈ al → x ∈ (σ ops.size).allocs) ∧ readA cf.P ⟨ovl (maskOf ops r) (cur σ D ops.size).abs al (cur σ D ops.size).H, 0⟩ (evalA cf (σ r).tm) o.op = some (val r) := by
  have hn : r < ops.size := (Array.getElem?_eq_some_iff.1 ho).1
  by_cases hc : ∃ e, r < e ∧ e < ops.size ∧ isEff σ e ∧ D e = true
  · -- a later effect is done
    rcases cur_spec σ D ops.size with ⟨_, h2⟩ | ⟨p, h1, h2, h3, h4, h5⟩
    · obtain ⟨e, q1, q2, q3, q4⟩ := hc
      have := h2 e q2 q3
      rw [q4] at this; cases this
    · have hrp : r < p := by
        obtain ⟨e, q1, q2, q3, q4⟩ := hc
        by_cases q : r < p
        · exact q
        · have := h5 e (by omega) q2 q3
          rw [q4] at this; cases this
      obtain ⟨op, hop⟩ := at_oper h1
      obtain ⟨m1, _, _, _, _, hreads, _⟩ := T.eff hop h3
      have hin := T.reads_stay hD rfl hr hS (i := p) (by omega) (by omega) fun j a b c => T.first hD p h1 h2 h3 j b c
      have hb : (maskOf ops p).testBit r = false := by
        cases hb : (maskOf ops p).testBit r with
        | false => rfl
        | true =>
          have := mask_sub hD hop (hD.edges hop h2) hb
          rw [hr] at this; cases this
      rcases hreads _ hin with q | q
      · rw [hb] at q; cases q
      · refine ⟨(σ p).allocs, fun x hx => T.allocs_sub (by omega) (Nat.le_refl _) x hx, ?_⟩
        rw [h4]
        exact readsAt_eq q
  · -- no later one
    have hcur : cur σ D ops.size = cur σ D r := cur_stop (by omega) fun e h1 h2 h3 => by
      by_cases q : e = r
      · subst q; exact hr
      · cases hd : D e with
        | false => rfl
        | true => exact absurd ⟨e, by omega, h2, h3, hd⟩ hc
    rw [hcur]
    refine ⟨(σ r).allocs, fun x hx => T.allocs_sub (by omega) (Nat.le_refl _) x hx, ?_⟩
    obtain ⟨pre, post, h1, h2⟩ := T.old_spec D (i := r) (by omega)
    have hstop : ∀ e, D e = false → stops (maskOf ops r) (some e) = false := fun e hd => by
      simp only [stops]
      cases hb : (maskOf ops r).testBit e with
      | false => rfl
      | true =>
        have := mask_sub hD ho he hb
        rw [hd] at this; cases this
    cases pre with
    | nil =>
      simp only [List.nil_append, List.cons.injEq] at h1
      rw [← h1.1]; exact hv
    | cons s pre =>
      simp only [List.cons_append, List.cons.injEq] at h1
      obtain ⟨rfl, h1⟩ := h1
      obtain ⟨e, q1, q2, q3⟩ := h2 _ List.mem_cons_self
      rw [q1, hstop e q3, Bool.false_or, h1] at hs
      refine readsAt_eq (readsOld_at hs fun s' hs' => ?_)
      obtain ⟨e', k1, k2, k3⟩ := h2 s' (List.mem_cons_of_mem _ hs')
      rw [k1]; exact hstop e' k3
end Go.Proofs.YtijnlbpeckoofaaGreat
