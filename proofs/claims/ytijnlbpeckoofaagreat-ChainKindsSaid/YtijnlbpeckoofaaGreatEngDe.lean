/- A machine that runs closed calls: regions in an open order. -/
import Derived.Test.YtijnlbpeckoofaaGreatEngDd
set_option linter.unusedVariables false
set_option linter.unusedSimpArgs false
namespace Go.Proofs.YtijnlbpeckoofaaGreat
open Go.RowKit
variable {cf : Cf} {rec : Rec} {ops : Array Oper} {N : Nat} {σ : Nat → DS} {val : Nat → AV} {m : Mem} {tm : PT AV} {D : Nat → Bool}

def dstA (ops : Array Oper) (j : Nat) : Option Tmp := (ops[j]?).bind (·.dst)
theorem dstA_eq {j : Nat} {o : Oper} (h : ops[j]? = some o) : dstA ops j = o.dst := by simp [dstA, h]
noncomputable def TD (tm : PT AV) (ops : Array Oper) (val : Nat → AV) (D : Nat → Bool) : Nat → PT AV
  | 0 => tm
  | i + 1 => if D i = true then putA (TD tm ops val D i) (dstA ops i) (val i) else TD tm ops val D i
theorem putA_get {tm : PT AV} {d : Option Tmp} {v : AV} {t : Tmp} : (putA tm d v).get t = if d = some t then some v else tm.get t := by
  cases d with
  | none => simp [putA]
  | some d =>
    simp only [putA, PT.get_set, Option.some.injEq]
    by_cases e : t = d
    · rw [if_pos e, if_pos e.symm]
    · rw [if_neg e, if_neg (fun q => e q.symm)]
theorem TD_congr {D D' : Nat → Bool} {t : Tmp} : ∀ {n : Nat}, (∀ j, j < n → dstA ops j = some t → D j = D' j) → (TD tm ops val D n).get t = (TD tm ops val D' n).get t
  | 0, h => rfl
  | n + 1, h => by
    have ih := TD_congr (D := D) (D' := D') (n := n) fun j hj => h j (by omega)
    simp only [TD]
    by_cases hd : dstA ops n = some t
    · rw [h n (by omega) hd]
      by_cases hD : D' n = true
      · rw [if_pos hD, if_pos hD, putA_get, putA_get, if_pos hd, if_pos hd]
      · rw [if_neg hD, if_neg hD]; exact ih
    · have drop : ∀ D : Nat → Bool, (if D n = true then putA (TD tm ops val D n) (dstA ops n) (val n) else TD tm ops val D n).get t = (TD tm ops val D n).get t := fun D => by
        split
        · rw [putA_get, if_neg hd]
        · rfl
      rw [drop, drop]; exact ih
theorem TD_stop {t : Tmp} {i : Nat} : ∀ {n : Nat}, i ≤ n → (∀ j, i ≤ j → j < n → dstA ops j = some t → D j = false) → (TD tm ops val D n).get t = (TD tm ops val D i).get t
  | 0, hi, h => by rw [show i = 0 by omega]
  | n + 1, hi, h => by
    by_cases q : i = n + 1
    · rw [q]
    · have ih := TD_stop (i := i) (n := n) (by omega) fun j h1 h2 h3 => h j h1 (by omega) h3
      simp only [TD]
      split
      · rename_i hD
        rw [putA_get, if_neg (fun hd => by have := h n (by omega) (by omega) hd; rw [hD] at this; cases this)]; exact ih
      · exact ih
theorem Tr.tm_step (T : Tr cf rec ops N σ val m tm) {i : Nat} {o : Oper} (ho : ops[i]? = some o) : (σ (i + 1)).tm = putA (σ i).tm o.dst (val i) := by
  rcases T.step i o ho with ⟨_, _, hS⟩ | ⟨_, _, _, hS⟩ | ⟨_, _, _, hS⟩ | ⟨_, _, _, _, _, hS⟩ | ⟨_, _, _, _, _, _, hS⟩ <;> rw [hS]
theorem Tr.tm_full (T : Tr cf rec ops N σ val m tm) : ∀ {i : Nat}, i ≤ ops.size → (σ i).tm = TD tm ops val (fun _ => true) i
  | 0, hi => by rw [T.init]; rfl
  | i + 1, hi => by
    obtain ⟨o, ho⟩ := at_oper hi
    rw [T.tm_step ho, T.tm_full (i := i) (by omega)]
    simp only [TD, if_true, dstA_eq ho]
theorem oper_lt {i : Nat} {o : Oper} (ho : ops[i]? = some o) : i < ops.size := (Array.getElem?_eq_some_iff.1 ho).1
theorem dstA_oper {j : Nat} {t : Tmp} (h : dstA ops j = some t) : ∃ p, ops[j]? = some p ∧ p.dst = some t := by
  unfold dstA at h
  cases hp : ops[j]? with
  | none => rw [hp] at h; cases h
  | some p => rw [hp] at h; exact ⟨p, rfl, h⟩
/-- What an operation looks at is there when its turn comes. -/
theorem Tr.tm_at (T : Tr cf rec ops N σ val m tm) (hD : Closed ops D) {i : Nat} {o : Oper} (ho : ops[i]? = some o) (hi : D i = false) (he : ∀ e ∈ o.after, Region.binds .any e = true → D e.on = true) {t : Tmp} (ht : t ∈ looksA ops o) :
    (σ i).tm.get t = (TD tm ops val D ops.size).get t := by
  have hn := oper_lt ho
  rw [T.tm_full (by omega)]
  have h1 : (TD tm ops val D ops.size).get t = (TD tm ops val (fun j => decide (j < i)) ops.size).get t := TD_congr fun j hj hd => by
    obtain ⟨p, hp, hpd⟩ := dstA_oper hd
    by_cases q : i = j
    · subst q; simp [hi]
    · have hap := plan_apart T.plan ho hp q hpd
      rw [if_pos ht] at hap
      by_cases hlt : j < i
      · rw [if_pos hlt] at hap
        have := mask_sub hD ho he hap
        simp [this, hlt]
      · rw [if_neg hlt] at hap
        have : D j = false := by
          cases hDj : D j with
          | false => rfl
          | true =>
            have := mask_sub hD hp (hD.edges hp hDj) hap
            rw [hi] at this; cases this
        simp [this, hlt]
  have h2 : (TD tm ops val (fun j => decide (j < i)) ops.size).get t = (TD tm ops val (fun j => decide (j < i)) i).get t := TD_stop (by omega) fun j h1 h2 h3 => by
    simp only [decide_eq_false_iff_not]; omega
  rw [h1, h2]
  exact TD_congr fun j hj _ => by simp [hj]
def withD (D : Nat → Bool) (i : Nat) : Nat → Bool := fun j => if j = i then true else D j
theorem Tr.tm_add (T : Tr cf rec ops N σ val m tm) (hD : Closed ops D) {i : Nat} {o : Oper} (ho : ops[i]? = some o) (hi : D i = false) (t : Tmp) :
    (TD tm ops val (withD D i) ops.size).get t = (putA (TD tm ops val D ops.size) o.dst (val i)).get t := by
  have hn := oper_lt ho
  rw [putA_get]
  by_cases hd : o.dst = some t
  · rw [if_pos hd, TD_stop (i := i + 1) (by omega) (fun j h1 h2 h3 => ?_)]
    · simp only [TD, withD, if_true, putA_get, dstA_eq ho, hd]
    · obtain ⟨p, hp, hpd⟩ := dstA_oper h3
      simp only [withD]
      rw [if_neg (by omega)]
      have hap := plan_apart T.plan hp ho (by omega) hd
      cases hDj : D j with
      | false => rfl
      | true =>
        split at hap
        · rw [if_pos (by omega)] at hap
          have := mask_sub hD hp (hD.edges hp hDj) hap
          rw [hi] at this; cases this
        · exact absurd hpd hap
  · rw [if_neg hd]
    refine TD_congr fun j hj hdj => ?_
    have : j ≠ i := fun q => by subst q; rw [dstA_eq ho] at hdj; exact hd hdj
    simp [withD, this]
theorem guardA_congr {tm tm' : PT AV} {o : Oper} (h : ∀ t ∈ looksA ops o, tm.get t = tm'.get t) : guardA ops tm o = guardA ops tm' o := by
  unfold guardA
  cases hg : o.guard with
  | none => rfl
  | some gb =>
    obtain ⟨g, b⟩ := gb
    simp only
    cases hx : ops[g]? with
    | none => rfl
    | some x =>
      simp only
      cases hd : x.dst with
      | none => rfl
      | some d =>
        simp only
        rw [h d (by simp [looksA, hg, hx, hd])]
theorem evalA_congr {tm tm' : PT AV} {o : Oper} (h : ∀ t ∈ looksA ops o, tm.get t = tm'.get t) : ∀ x ∈ o.op.operands, evalA cf tm x = evalA cf tm' x := by
  intro x hx
  cases x with
  | tmp t => exact h t (List.mem_append_left _ (List.mem_filterMap.2 ⟨.tmp t, by simpa using hx, rfl⟩))
  | const v => rfl
  | global g => rfl
  | func f => rfl
theorem relT.alike {Γ : Tie} {tm tm' : PT AV} {N : Nat} {tmps : Array Value} (h : relT Γ tm N tmps) (e : ∀ t, tm'.get t = tm.get t) : relT Γ tm' N tmps :=
  ⟨h.1, fun t a ha => h.2 t a (by rw [← e t]; exact ha)⟩
theorem count_set : ∀ (l : List Bool) (i : Nat), l[i]? = some false → (l.set i true).count false + 1 = l.count false
  | [], i, h => by simp at h
  | b :: l, 0, h => by simp at h; subst h; simp
  | b :: l, i + 1, h => by
    have := count_set l i (by simpa using h)
    simp only [List.set_cons_succ, List.count_cons]; omega
abbrev don (listed : Array Bool) : Nat → Bool := fun j => listed.getD j false
theorem don_set {listed : Array Bool} {i : Nat} (h : i < listed.size) : don (listed.setIfInBounds i true) = withD (don listed) i := by
  funext j
  simp only [don, withD, Array.getD_eq_getD_getElem?, Array.getElem?_setIfInBounds]
  by_cases e : i = j
  · subst e; simp [h]
  · rw [if_neg e, if_neg (fun q => e q.symm)]
/-- The memory when so much is done. -/
noncomputable def MD (σ : Nat → DS) (n : Nat) (D : Nat → Bool) : Nat → Option AObj := ovlF (fun j => D j && !(cur σ D n).abs.testBit j) (σ n).allocs (cur σ D n).H.get
structure Mid (cf : Cf) (base : Nat) (ops : Array Oper) (N : Nat) (σ : Nat → DS) (val : Nat → AV) (m : Mem) (tm : PT AV) (Γ : Tie) (w : World) (ds : List Nat) (D : Nat → Bool) (a : Act) (w' : World) (Γ' : Tie) (H : PT AObj) : Prop where
  mem : ∀ x, H.get x = MD σ ops.size D x
  moves : Moves base Γ m w Γ' ⟨H, (σ ops.size).next⟩ w'
  tmps : relT Γ' (TD tm ops val D ops.size) N a.tmps
  defs : relD Γ' ds a.defers
  free : ∀ i, i < ops.size → D i = false → ∀ x, (σ i).next ≤ x → x < (σ (i + 1)).next → Γ' x = none
  apart : ∀ j id o, (j, id, o) ∈ (σ ops.size).allocs → (cur σ D ops.size).abs.testBit j = false → (cur σ D ops.size).H.get id = none
theorem MD_congr {D D' : Nat → Bool} (hc : cur σ D' ops.size = cur σ D ops.size) (h : ∀ j id o, (j, id, o) ∈ (σ ops.size).allocs → D' j = D j) (x : Nat) : MD σ ops.size D' x = MD σ ops.size D x := by
  unfold MD
  rw [hc]
  have : ∀ (l : List (Nat × Nat × AObj)), (∀ j id o, (j, id, o) ∈ l → D' j = D j) → ovlF (fun j => D' j && !(cur σ D ops.size).abs.testBit j) l (cur σ D ops.size).H.get x = ovlF (fun j => D j && !(cur σ D ops.size).abs.testBit j) l (cur σ D ops.size).H.get x := by
    intro l
    induction l with
    | nil => intro _; rfl
    | cons y l ih =>
      obtain ⟨j, id, o⟩ := y
      intro h
      simp only [ovlF]
      rw [ih fun j id o hm => h j id o (List.mem_cons_of_mem _ hm)]
      simp only [h j id o List.mem_cons_self]
  exact this _ h
theorem Tr.cur_add (T : Tr cf rec ops N σ val m tm) {i : Nat} (hne : ¬ isEff σ i) : cur σ (withD D i) ops.size = cur σ D ops.size :=
  cur_congr fun e he hf => by
    have : e ≠ i := fun q => by subst q; exact hne hf
    simp [withD, this]
end Go.Proofs.YtijnlbpeckoofaaGreat
