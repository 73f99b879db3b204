/- A machine that runs closed calls: regions in an open order, done. -/
import Derived.Test.YtijnlbpeckoofaaGreatEngDe
set_option linter.unusedVariables false
set_option linter.unusedSimpArgs false
namespace Go.Proofs.YtijnlbpeckoofaaGreat
open Go.RowKit
variable {cf : Cf} {base : Nat} {E : World → Prop} {rec : Rec} {ops : Array Oper} {N : Nat} {σ : Nat → DS} {val : Nat → AV} {m : Mem} {tm : PT AV} {D : Nat → Bool} {Γ Γ' : Tie} {w w' : World} {ds : List Nat} {a : Act} {H : PT AObj}

theorem ovlF_at {p p' : Nat → Bool} {g : Nat → Option AObj} {x : Nat} : ∀ {l : List (Nat × Nat × AObj)}, (∀ j o, (j, x, o) ∈ l → p j = p' j) → ovlF p l g x = ovlF p' l g x
  | [], h => rfl
  | (j, id, o) :: l, h => by
    simp only [ovlF]
    rw [ovlF_at (l := l) fun j o hm => h j o (List.mem_cons_of_mem _ hm)]
    by_cases e : x = id
    · subst e; simp only [h j o List.mem_cons_self]
    · rw [if_neg (fun q => e q.2), if_neg (fun q => e q.2)]
theorem withD_self (D : Nat → Bool) (i : Nat) : withD D i i = true := if_pos rfl
theorem withD_ne {D : Nat → Bool} {i j : Nat} (h : j ≠ i) : withD D i j = D j := if_neg h
theorem put_defers (a : Act) (d : Option Tmp) (c : Value) : (a.put d c).defers = a.defers := by cases d <;> rfl
theorem Tr.abs_done (T : Tr cf rec ops N σ val m tm) (hD : Closed ops D) {k : Nat} (h : (cur σ D ops.size).abs.testBit k = true) : D k = true := by
  rcases cur_spec σ D ops.size with ⟨h1, _⟩ | ⟨p, h1, h2, h3, h4, _⟩
  · rw [h1, T.init] at h; simp at h
  · obtain ⟨o, ho⟩ := at_oper h1
    obtain ⟨m1, _, _, _, _, _, htop, _⟩ := T.eff ho h3
    rw [h4, htop] at h
    exact mask_sub hD ho (hD.edges ho h2) h
theorem Tr.apart (T : Tr cf rec ops N σ val m tm) {i j x : Nat} (hi : i < ops.size) (hj : j < ops.size) (hij : i ≠ j) (h1 : (σ i).next ≤ x) (h2 : x < (σ (i + 1)).next) (h3 : (σ j).next ≤ x) (h4 : x < (σ (j + 1)).next) : False := by
  by_cases q : i < j
  · have := T.next_mono (i := i + 1) (j := j) q (by omega); omega
  · have := T.next_mono (i := j + 1) (j := i) (by omega) (by omega); omega
/-- An operation that leaves the memory as it is. -/
theorem Mid.still (T : Tr cf rec ops N σ val m tm) (hD : Closed ops D) (h : Mid cf base ops N σ val m tm Γ w ds D a w' Γ' H) {i : Nat} {o : Oper} (ho : ops[i]? = some o) (hi : D i = false) (hne : ¬ isEff σ i) (hn : (σ (i + 1)).next = (σ i).next)
    {c : Value} (hc : rel Γ' (val i) c) : Mid cf base ops N σ val m tm Γ w ds (withD D i) (a.put o.dst c) w' Γ' H where
  mem x := by
    rw [h.mem x]
    refine (MD_congr (T.cur_add hne) (fun j id obj hm => ?_) x).symm
    refine withD_ne fun q => ?_
    subst q
    obtain ⟨_, h2, h3, _⟩ := T.allocs_spec (Nat.le_refl _) j id obj hm
    omega
  moves := h.moves
  tmps := (h.tmps.put (T.ok i o ho) hc).alike fun t => T.tm_add hD ho hi t
  defs := by rw [put_defers]; exact h.defs
  free j hj hd x h1 h2 := by
    by_cases q : j = i
    · subst q; rw [withD_self] at hd; cases hd
    · rw [withD_ne q] at hd; exact h.free j hj hd x h1 h2
  apart j id obj hm hb := by
    rw [T.cur_add hne] at hb ⊢
    exact h.apart j id obj hm hb
/-- An operation that lays a block. -/
theorem Mid.laid (T : Tr cf rec ops N σ val m tm) (hD : Closed ops D) (h : Mid cf base ops N σ val m tm Γ w ds D a w' Γ' H) {i : Nat} {o : Oper} (ho : ops[i]? = some o) (hi : D i = false) (hne : ¬ isEff σ i) {obj : AObj} (hin : (i, (σ i).next, obj) ∈ (σ ops.size).allocs) (hn : (σ (i + 1)).next = (σ i).next + 1)
    {w'' : World} {o' : Obj} {tot : Nat} (h2 : w''.heap = w'.heap.push o') (h3 : w''.os = w'.os) (h4 : w''.tape = w'.tape) (h5 : w''.output = w'.output) (h6 : relO Γ' ⟨w'.heap.size, tot⟩ obj o')
    {c : Value} (hc : rel (tieA Γ' (σ i).next ⟨w'.heap.size, tot⟩) (val i) c) : Mid cf base ops N σ val m tm Γ w ds (withD D i) (a.put o.dst c) w'' (tieA Γ' (σ i).next ⟨w'.heap.size, tot⟩) (H.set (σ i).next (some obj)) := by
  have hlt := oper_lt ho
  have hfree : Γ' (σ i).next = none := h.free i hlt hi _ (Nat.le_refl _) (by omega)
  have hk : Keeps Γ' (tieA Γ' (σ i).next ⟨w'.heap.size, tot⟩) := keeps_tie hfree
  have hB : Moves base Γ' ⟨H, (σ i).next⟩ w' (tieA Γ' (σ i).next ⟨w'.heap.size, tot⟩) ((⟨H, (σ i).next⟩ : Mem).push obj) w'' := Moves.push h.moves.rep hfree h2 h3 h4 h5 h6
  have hm0 : m.next ≤ (σ i).next := by have := T.next_mono (i := 0) (j := i) (by omega) (by omega); rw [T.init] at this; exact this
  have hmn : (σ i).next + 1 ≤ (σ ops.size).next := by rw [← hn]; exact T.next_mono (by omega) (Nat.le_refl _)
  refine ⟨fun x => ?_, Moves.within h.moves hB hm0 hmn (fun x o hx => hx) (fun x o hx => .inl hx), ((h.tmps.keep hk).put (T.ok i o ho) hc).alike fun t => T.tm_add hD ho hi t, by rw [put_defers]; exact h.defs.keep hk, ?_, ?_⟩
  · rw [PT.get_set]
    have hb : (cur σ D ops.size).abs.testBit i = false := by
      cases hb : (cur σ D ops.size).abs.testBit i with
      | false => rfl
      | true => have := T.abs_done hD hb; rw [hi] at this; cases this
    unfold MD
    rw [T.cur_add hne]
    by_cases e : x = (σ i).next
    · rw [if_pos e, e]
      exact (ovlF_mem hin (by rw [withD_self, hb]; rfl) (T.allocs_one hin)).symm
    · rw [if_neg e, h.mem x]
      unfold MD
      refine ovlF_at fun j ob hm => ?_
      have : j ≠ i := fun q => by
        subst q
        obtain ⟨_, h7, _⟩ := T.allocs_spec (Nat.le_refl _) j x ob hm
        exact e h7
      rw [withD_ne this]
  · intro j hj hd x h7 h8
    by_cases q : j = i
    · subst q; rw [withD_self] at hd; cases hd
    · rw [withD_ne q] at hd
      have : x ≠ (σ i).next := fun e => T.apart hlt hj (fun q' => q q'.symm) (x := x) (by omega) (by omega) h7 h8
      unfold tieA
      rw [if_neg this]
      exact h.free j hj hd x h7 h8
  · intro j id ob hm hb
    rw [T.cur_add hne] at hb ⊢
    exact h.apart j id ob hm hb
/-- An effect. -/
theorem Mid.done (T : Tr cf rec ops N σ val m tm) (hD : Closed ops D) (h : Mid cf base ops N σ val m tm Γ w ds D a w' Γ' H) {i : Nat} {o : Oper} (ho : ops[i]? = some o) (hi : D i = false) (he : ∀ e ∈ o.after, Region.binds .any e = true → D e.on = true) (hf : isEff σ i) :
    let Hs := ovl (maskOf ops i) (σ i).top.abs (σ i).allocs (σ i).top.H
    (∀ x ob, Hs.get x = some ob → H.get x = some ob) ∧
    ∀ (m1 : Mem), (σ (i + 1)).top = ⟨m1.H, maskOf ops i, some i⟩ → (σ (i + 1)).next = m1.next → ∀ Γ'' w'' c, rel Γ'' (val i) c → Moves base Γ' ⟨Hs, (σ i).next⟩ w' Γ'' m1 w'' →
      ∃ H', Mid cf base ops N σ val m tm Γ w ds (withD D i) (a.put o.dst c) w'' Γ'' H' := by
  intro Hs
  have hlt := oper_lt ho
  obtain ⟨_, _, hst, hland, _⟩ := T.eff ho hf
  -- all effects ahead are done, none behind
  have hbehind : ∀ e, i ≤ e → e < ops.size → isEff σ e → D e = false := fun e h1 h2 h3 => by
    by_cases q : e = i
    · subst q; exact hi
    · cases hd : D e with
      | false => rfl
      | true => have := T.first hD e h2 hd h3 i (by omega) hf; rw [hi] at this; cases this
  have hahead : ∀ e, e < i → isEff σ e → D e = true := by
    intro e h1 h2
    have htop := T.top_cur (i := i) (by omega)
    rcases cur_spec σ (fun _ => true) i with ⟨_, k2⟩ | ⟨p, k1, k2, k3, k4, k5⟩
    · have := k2 e h1 h2; cases this
    · have hp : (σ i).top.e = some p := by rw [htop, k4]; exact k3
      rw [hp] at hst
      have hDp : D p = true := mask_sub hD ho he hst
      by_cases q : e = p
      · rw [q]; exact hDp
      · by_cases q2 : e < p
        · exact T.first hD p (by omega) hDp k3 e q2 h2
        · have := k5 e (by omega) h1 h2; cases this
  have hcur : cur σ D ops.size = (σ i).top := by
    rw [cur_stop (i := i) (by omega) hbehind, T.top_cur (by omega)]
    exact cur_congr fun e h1 h2 => hahead e h1 h2
  have hsub : ∀ x ob, Hs.get x = some ob → H.get x = some ob := by
    intro x ob hx
    rw [h.mem x]
    unfold MD
    rw [hcur]
    have hx' : ovlF (fun j => (maskOf ops i).testBit j && !(σ i).top.abs.testBit j) (σ i).allocs (σ i).top.H.get x = some ob := by rw [← ovl_get]; exact hx
    rcases ovlF_some hx' with ⟨j, h1, h2⟩ | ⟨h1, h2⟩
    · have hm := T.allocs_sub (j := ops.size) (by omega) (Nat.le_refl _) _ h1
      simp only [Bool.and_eq_true] at h2
      exact ovlF_mem hm (by simp only [Bool.and_eq_true]; exact ⟨mask_sub hD ho he h2.1, h2.2⟩) (T.allocs_one hm)
    · rw [ovlF_out fun j o2 hm => ?_]
      · exact h1
      · cases hb : (σ i).top.abs.testBit j with
        | true => simp
        | false =>
          have := h.apart j x o2 hm (by rw [hcur]; exact hb)
          rw [hcur, h1] at this; cases this
  refine ⟨hsub, fun m1 htop hnext Γ'' w'' c hc hB => ?_⟩
  have hcur' : cur σ (withD D i) ops.size = ⟨m1.H, maskOf ops i, some i⟩ := by
    rw [cur_stop (i := i + 1) (by omega) (fun e h1 h2 h3 => by rw [withD_ne (by omega)]; exact hbehind e (by omega) h2 h3)]
    simp only [cur]
    rw [if_pos ⟨withD_self _ _, hf⟩, htop]
  have hm0 : m.next ≤ (σ i).next := by have := T.next_mono (i := 0) (j := i) (by omega) (by omega); rw [T.init] at this; exact this
  have hmn : m1.next ≤ (σ ops.size).next := by rw [← hnext]; exact T.next_mono (by omega) (Nat.le_refl _)
  -- what is in the memory behind the effect
  have hdomM1 : ∀ j id ob, (j, id, ob) ∈ (σ ops.size).allocs → (maskOf ops i).testBit j = false → m1.H.get id = none := by
    intro j id ob hm hb
    cases hx : m1.H.get id with
    | none => rfl
    | some oo =>
      exfalso
      obtain ⟨k1, k2, k3, p, f, k4, k5⟩ := T.allocs_spec (Nat.le_refl _) j id ob hm
      rcases hB.dom id oo hx with ⟨p', hp⟩ | ⟨h1, h2⟩
      · have hp' : ovlF (fun j => (maskOf ops i).testBit j && !(σ i).top.abs.testBit j) (σ i).allocs (σ i).top.H.get id = some p' := by rw [← ovl_get]; exact hp
        rcases ovlF_some hp' with ⟨j', q1, q2⟩ | ⟨q1, q2⟩
        · have := (T.allocs_one hm j' p' (T.allocs_sub (j := ops.size) (by omega) (Nat.le_refl _) _ q1)).1
          subst this
          rw [hb] at q2; simp at q2
        · have habs : (σ i).top.abs.testBit j = false := by
            rw [← hland]
            have : (Nat.land (maskOf ops i) (σ i).top.abs).testBit j = ((maskOf ops i) &&& (σ i).top.abs).testBit j := rfl
            rw [this, Nat.testBit_and, hb]; rfl
          have := h.apart j id ob hm (by rw [hcur]; exact habs)
          rw [hcur, q1] at this; cases this
      · simp only at h1
        by_cases q : j = i
        · subst q
          rw [ho] at k4; cases k4
          obtain ⟨m2, _, _, _, hop, _⟩ := T.eff ho hf
          have ha : (σ (j + 1)).allocs = (σ j).allocs := by obtain ⟨_, _, _, _, _, _, _, _, ha, _⟩ := T.eff ho hf; exact ha
          -- an effect lays no entry
          have hin : ∀ n, j + 1 ≤ n → n ≤ ops.size → (j, id, ob) ∉ (σ n).allocs := by
            intro n
            induction n with
            | zero => intro h; omega
            | succ n ih =>
              intro q1 q2 q3
              by_cases e : n = j
              · subst e
                rw [ha] at q3
                have := (T.allocs_spec (i := n) (by omega) _ _ _ q3).1; omega
              · obtain ⟨on, hon⟩ := at_oper (ops := ops) (i := n) (by omega)
                rcases T.allocs_step hon with e1 | ⟨ob', f', _, _, e1⟩
                · rw [e1] at q3; exact ih (by omega) (by omega) q3
                · rw [e1] at q3
                  rcases List.mem_cons.1 q3 with e2 | e2
                  · cases e2; omega
                  · exact ih (by omega) (by omega) e2
          exact hin ops.size (by omega) (Nat.le_refl _) hm
        · exact T.apart (i := i) (j := j) hlt k1 (fun e => q e.symm) h1 (by omega) (by omega) (by omega)
  let al := (σ ops.size).allocs
  let H' := ovl (2 ^ ops.size - 1) (maskOf ops i) (al.filter fun y => withD D i y.1) m1.H
  have hget : ∀ x, H'.get x = MD σ ops.size (withD D i) x := by
    intro x
    rw [ovl_get]
    unfold MD
    rw [hcur']
    have : ∀ (l : List (Nat × Nat × AObj)), (∀ y ∈ l, y.1 < ops.size) → ovlF (fun j => (2 ^ ops.size - 1).testBit j && !(maskOf ops i).testBit j) (l.filter fun y => withD D i y.1) m1.H.get x = ovlF (fun j => withD D i j && !(maskOf ops i).testBit j) l m1.H.get x := by
      intro l
      induction l with
      | nil => intro _; rfl
      | cons y l ih =>
        obtain ⟨j, id, ob⟩ := y
        intro hl
        have hj : j < ops.size := hl _ List.mem_cons_self
        have ih' := ih fun y hy => hl y (List.mem_cons_of_mem _ hy)
        cases hd : withD D i j with
        | true =>
          rw [List.filter_cons_of_pos (by simpa using hd)]
          have hb : (2 ^ ops.size - 1).testBit j = true := by rw [Nat.testBit_two_pow_sub_one]; exact decide_eq_true hj
          simp only [ovlF, ih', hb, hd]
        | false =>
          rw [List.filter_cons_of_neg (by simp [hd])]
          simp only [ovlF, ih', hd, Bool.false_and, Bool.false_eq_true, false_and, if_false]
    exact this al fun y hy => by obtain ⟨j, id, ob⟩ := y; exact (T.allocs_spec (Nat.le_refl _) j id ob hy).1
  refine ⟨H', hget, ?_, ((h.tmps.keep hB.keep).put (T.ok i o ho) hc).alike fun t => T.tm_add hD ho hi t, by rw [put_defers]; exact h.defs.keep hB.keep, ?_, ?_⟩
  · refine Moves.within (Hs := Hs) (Hs' := m1.H) (lo := (σ i).next) (hi := m1.next) h.moves hB hm0 hmn hsub fun x ob hx => ?_
    rw [hget x] at hx
    unfold MD at hx
    rw [hcur'] at hx
    rcases ovlF_some hx with ⟨j, q1, q2⟩ | ⟨q1, _⟩
    · simp only [Bool.and_eq_true, Bool.not_eq_true'] at q2
      have hji : j ≠ i := by
        intro e
        subst e
        -- an effect lays no entry
        obtain ⟨k1, k2, k3, p, f, k4, k5⟩ := T.allocs_spec (Nat.le_refl _) j x ob q1
        have ha : (σ (j + 1)).allocs = (σ j).allocs := by obtain ⟨_, _, _, _, _, _, _, _, ha, _⟩ := T.eff ho hf; exact ha
        have hin : ∀ n, j + 1 ≤ n → n ≤ ops.size → (j, x, ob) ∉ (σ n).allocs := by
          intro n
          induction n with
          | zero => intro h; omega
          | succ n ih =>
            intro q1 q2 q3
            by_cases e : n = j
            · subst e
              rw [ha] at q3
              have := (T.allocs_spec (i := n) (by omega) _ _ _ q3).1; omega
            · obtain ⟨on, hon⟩ := at_oper (ops := ops) (i := n) (by omega)
              rcases T.allocs_step hon with e1 | ⟨ob', f', _, _, e1⟩
              · rw [e1] at q3; exact ih (by omega) (by omega) q3
              · rw [e1] at q3
                rcases List.mem_cons.1 q3 with e2 | e2
                · cases e2; omega
                · exact ih (by omega) (by omega) e2
        exact hin ops.size (by omega) (Nat.le_refl _) q1
      rw [withD_ne hji] at q2
      refine .inr ⟨?_, ?_⟩
      · rw [h.mem x]
        unfold MD
        rw [hcur]
        have habs : (σ i).top.abs.testBit j = false := by
          rw [← hland]
          have : (Nat.land (maskOf ops i) (σ i).top.abs).testBit j = ((maskOf ops i) &&& (σ i).top.abs).testBit j := rfl
          rw [this, Nat.testBit_and, q2.2]; rfl
        exact ovlF_mem q1 (by rw [q2.1, habs]; rfl) (T.allocs_one q1)
      · cases hx2 : Hs.get x with
        | none => rfl
        | some p' =>
          exfalso
          have hp' : ovlF (fun j => (maskOf ops i).testBit j && !(σ i).top.abs.testBit j) (σ i).allocs (σ i).top.H.get x = some p' := by rw [← ovl_get]; exact hx2
          have habs : (σ i).top.abs.testBit j = false := by
            rw [← hland]
            have : (Nat.land (maskOf ops i) (σ i).top.abs).testBit j = ((maskOf ops i) &&& (σ i).top.abs).testBit j := rfl
            rw [this, Nat.testBit_and, q2.2]; rfl
          rcases ovlF_some hp' with ⟨j', r1, r2⟩ | ⟨r1, r2⟩
          · have := (T.allocs_one q1 j' p' (T.allocs_sub (j := ops.size) (by omega) (Nat.le_refl _) _ r1)).1
            subst this
            rw [q2.2] at r2; simp at r2
          · have := h.apart j x ob q1 (by rw [hcur]; exact habs)
            rw [hcur, r1] at this; cases this
    · exact .inl q1
  · intro j hj hd x h7 h8
    by_cases q : j = i
    · subst q; rw [withD_self] at hd; cases hd
    · rw [withD_ne q] at hd
      have hout : x < (σ i).next ∨ m1.next ≤ x := by
        by_cases q1 : x < (σ i).next
        · exact .inl q1
        · by_cases q2 : m1.next ≤ x
          · exact .inr q2
          · exact (T.apart hlt hj (fun e => q e.symm) (x := x) (by omega) (by omega) h7 h8).elim
      rw [hB.new x hout]
      exact h.free j hj hd x h7 h8
  · intro j id ob hm hb
    rw [hcur'] at hb ⊢
    exact hdomM1 j id ob hm hb
end Go.Proofs.YtijnlbpeckoofaaGreat
