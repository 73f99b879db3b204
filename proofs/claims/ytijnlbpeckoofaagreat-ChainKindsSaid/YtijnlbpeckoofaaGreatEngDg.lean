/- A machine that runs closed calls: all of it. -/
import Derived.Test.YtijnlbpeckoofaaGreatEngDf
set_option linter.unusedVariables false
set_option linter.unusedSimpArgs false
namespace Go.Proofs.YtijnlbpeckoofaaGreat
open Go.RowKit
variable {cf : Cf} {base : Nat} {E : World → Prop} {rec : Rec} {ops : Array Oper} {N : Nat} {σ : Nat → DS} {val : Nat → AV} {m m' : Mem} {tm : PT AV} {D : Nat → Bool} {Γ Γ' : Tie} {w w' : World} {ds : List Nat} {a : Act} {H : PT AObj}

theorem value_wp {rb : Option Nat} {n : Nat} {P : Program} {o : Oper} {w'' : World} {c : Value} (hnd : ∀ c, o.op ≠ .defer c) (h : (execOp a.eval o).run P w' = .ok (.value c) w'') {K : Act → World → Prop} {Q : Exit → Act → World → Prop} (hK : K (a.put o.dst c) w'') : o.wpIn (Fen rb) n P a w' K Q := by
  refine ⟨fun _ _ => Fen.fn rb _, ?_⟩
  have hsem : o.semAt (Fen rb).round a.eval = execOp a.eval o := by
    rw [Fen.round]
    cases rb with
    | none => exact Oper.semAt_none _ _
    | some l => exact Oper.semAt_some l _ o hnd
  rw [hsem, h, Oper.uponIn_value]
  exact hK
theorem readA_nodefer {P : Program} {m : Mem} {ev : Operand → Option AV} {o : Op} {v : AV} (h : readA P m ev o = some v) (c : Call) : o ≠ .defer c := by
  rintro rfl
  simp only [readA] at h
  cases h
theorem allocA_nodefer {P : Program} {ev : Operand → Option AV} {o : Op} {v : AObj × (Nat → AV)} (h : allocA P ev o = some v) (c : Call) : o ≠ .defer c := by
  rintro rfl
  simp only [allocA] at h
  cases h
/-- One operation of a region in an open order, whenever its turn comes. -/
theorem Mid.step (S : Sound cf base E) (hrec : RecOk cf base E rec) (hle : RecLe rec) (T : Tr cf rec ops N σ val m tm) (hg : Gl cf.g0 Γ) (hE : E w) (hR : Rep base Γ m.H w) {rb : Option Nat} {n : Nat} {K : Act → World → Prop} {Q : Exit → Act → World → Prop}
    (hD : Closed ops D) (h : Mid cf base ops N σ val m tm Γ w ds D a w' Γ' H) {i : Nat} {o : Oper} (ho : ops[i]? = some o) (hi : D i = false) (he : ∀ e ∈ o.after, Region.binds .any e = true → D e.on = true)
    (hK : ∀ a' w'' Γ'' H', Mid cf base ops N σ val m tm Γ w ds (withD D i) a' w'' Γ'' H' → K a' w'') : wpOpIn (Fen rb) n cf.P ops Q i K a w' := by
  have hlt := oper_lt ho
  have hlook : ∀ t ∈ looksA ops o, (σ i).tm.get t = (TD tm ops val D ops.size).get t := fun t ht => T.tm_at hD ho hi he ht
  have hev : Evals Γ' (evalA cf (TD tm ops val D ops.size)) a.eval := evalA_ok h.tmps (hg.keep h.moves.keep)
  have hcg : ∀ x ∈ o.op.operands, evalA cf (σ i).tm x = evalA cf (TD tm ops val D ops.size) x := evalA_congr hlook
  have hgd : guardA ops (σ i).tm o = guardA ops (TD tm ops val D ops.size) o := guardA_congr hlook
  unfold wpOpIn
  simp only [ho]
  have hst : St cf base E Γ' ⟨H, (σ ops.size).next⟩ w' := ⟨h.moves.rep, hg.keep h.moves.keep, S.env _ _ hE (Moves.below hR h.moves)⟩
  rcases T.step i o ho with ⟨hgu, hv, hS⟩ | ⟨hgu, hp, hr, hS⟩ | ⟨hgu, hr, hs, hS⟩ | ⟨hgu, obj, f, ha, hv, hS⟩ | ⟨hgu, m1, hs, hl, hop, hreads, hS⟩
  · -- left out
    have hw := guardA_ok h.tmps (hgd ▸ hgu)
    simp only [hw]
    refine ⟨fun _ _ => Fen.fn rb _, hK _ _ _ _ (h.still T hD ho hi (T.not_eff hlt (by rw [hS])) (by rw [hS]) ?_)⟩
    rw [hv]; exact rel_undef
  · -- reads nothing
    have hw := guardA_ok h.tmps (hgd ▸ hgu)
    simp only [hw, if_true]
    have hr' := readA_pure hp hr ⟨H, (σ ops.size).next⟩
    rw [readA_congr hcg] at hr'
    obtain ⟨c, h1, h2⟩ := readA_ok h.moves.rep hev hr' o.dst o.type o.pos o.after o.guard
    exact value_wp (readA_nodefer hr) h1 (hK _ _ _ _ (h.still T hD ho hi (T.not_eff hlt (by rw [hS])) (by rw [hS]) h2))
  · -- reads
    have hw := guardA_ok h.tmps (hgd ▸ hgu)
    simp only [hw, if_true]
    have hne : ¬ isEff σ i := T.not_eff hlt (by rw [hS])
    obtain ⟨al, hal, hr'⟩ := T.reader hD ho hi he hr hs (by rw [hS]; exact List.mem_cons_self) hne
    rw [readA_congr hcg] at hr'
    have hsub : ∀ x ob, (ovl (maskOf ops i) (cur σ D ops.size).abs al (cur σ D ops.size).H).get x = some ob → H.get x = some ob := by
      intro x ob hx
      rw [ovl_get] at hx
      rw [h.mem x]
      unfold MD
      rcases ovlF_some hx with ⟨j, h1, h2⟩ | ⟨h1, h2⟩
      · have hm := hal _ h1
        simp only [Bool.and_eq_true] at h2
        exact ovlF_mem hm (by simp only [Bool.and_eq_true]; exact ⟨mask_sub hD ho he h2.1, h2.2⟩) (T.allocs_one hm)
      · rw [ovlF_out fun j o2 hm => ?_]
        · exact h1
        · cases hb : (cur σ D ops.size).abs.testBit j with
          | true => simp
          | false =>
            have := h.apart j x o2 hm hb
            rw [h1] at this; cases this
    have hRs : Rep base Γ' (⟨ovl (maskOf ops i) (cur σ D ops.size).abs al (cur σ D ops.size).H, 0⟩ : Mem).H w' := h.moves.rep.sub hsub
    obtain ⟨c, h1, h2⟩ := readA_ok hRs hev hr' o.dst o.type o.pos o.after o.guard
    exact value_wp (readA_nodefer hr) h1 (hK _ _ _ _ (h.still T hD ho hi hne (by rw [hS]) h2))
  · -- lays a block
    have hw := guardA_ok h.tmps (hgd ▸ hgu)
    simp only [hw, if_true]
    have ha' := ha
    rw [allocA_congr hcg] at ha'
    obtain ⟨c, w'', o', tot, h1, h2, h3, h4, h5, h6, h7⟩ := (allocA_ok (P := cf.P) (w := w') hev ha' o.dst o.type o.pos o.after o.guard).out
    have hin : (i, (σ i).next, obj) ∈ (σ ops.size).allocs := T.allocs_sub (i := i + 1) (by omega) (Nat.le_refl _) _ (by rw [hS]; exact List.mem_cons_self)
    exact value_wp (allocA_nodefer ha) h1 (hK _ _ _ _ (h.laid T hD ho hi (T.not_eff hlt (by rw [hS])) hin (by rw [hS]) h2 h3 h4 h5 h6 (by rw [hv]; exact h7 _ _ tie_self)))
  · -- an effect
    have hw := guardA_ok h.tmps (hgd ▸ hgu)
    simp only [hw, if_true]
    have hf : isEff σ i := by unfold isEff; rw [hS]
    have hop' := hop
    rw [opA_congr hcg] at hop'
    obtain ⟨hsub, hdone⟩ := h.done T hD ho hi he hf
    have hsts : St cf base E Γ' ⟨ovl (maskOf ops i) (σ i).top.abs (σ i).allocs (σ i).top.H, (σ i).next⟩ w' := ⟨h.moves.rep.sub hsub, hst.gl, hst.env⟩
    have hF : Fresh Γ' ⟨ovl (maskOf ops i) (σ i).top.abs (σ i).allocs (σ i).top.H, (σ i).next⟩ m1 := fun x h1 h2 => h.free i hlt hi x h1 (by rw [hS]; exact h2)
    refine opA_wp S hrec hle hsts hev hF hop' fun c Γ'' w'' hv hM => ?_
    obtain ⟨H', hmid⟩ := hdone m1 (by rw [hS]) (by rw [hS]) Γ'' w'' c hv hM
    exact hK _ _ _ _ hmid
theorem Mid.any (S : Sound cf base E) (hrec : RecOk cf base E rec) (hle : RecLe rec) (T : Tr cf rec ops N σ val m tm) (hg : Gl cf.g0 Γ) (hE : E w) (hR : Rep base Γ m.H w) {rb : Option Nat} {n : Nat} {Q : Exit → Act → World → Prop}
    (hQ : ∀ a' w' Γ' H, (∀ i, i < ops.size → D i = true) → Mid cf base ops N σ val m tm Γ w ds D a' w' Γ' H → True)
    (hEnd : ∀ D a' w' Γ' H, (∀ i, i < ops.size → D i = true) → Mid cf base ops N σ val m tm Γ w ds D a' w' Γ' H → Q .normal a' w') :
    ∀ (fuel : Nat) (listed : Array Bool) (a : Act) (w' : World) (Γ' : Tie) (H : PT AObj), listed.size = ops.size → listed.toList.count false ≤ fuel → Closed ops (don listed) → Mid cf base ops N σ val m tm Γ w ds (don listed) a w' Γ' H → wpAnyIn (Fen rb) n cf.P .any ops Q fuel listed a w' := by
  have all : ∀ (listed : Array Bool), listed.size = ops.size → Region.ready .any ops listed = [] → ∀ i, i < ops.size → don listed i = true := by
    intro listed hs hr i
    induction i using Nat.strongRecOn with
    | _ i ih =>
      intro hi
      cases hd : don listed i with
      | true => rfl
      | false =>
        exfalso
        obtain ⟨o, ho⟩ := at_oper hi
        have : i ∈ Region.ready .any ops listed := by
          rw [mem_ready]
          refine ⟨?_, o, ho, fun e he hb => ?_⟩
          · simp only [don, Array.getD_eq_getD_getElem?] at hd
            rw [Array.getD_eq_getD_getElem?, Array.getElem?_eq_getElem (by omega)]
            rw [Array.getElem?_eq_getElem (by omega)] at hd
            simpa using hd
          · have hlt := plan_back T.plan ho e he hb
            exact ih e.on hlt (by omega)
        rw [hr] at this; cases this
  intro fuel
  induction fuel with
  | zero =>
    intro listed a w' Γ' H hs hc hD h
    have hr : Region.ready .any ops listed = [] := by
      cases hr : Region.ready .any ops listed with
      | nil => rfl
      | cons j l =>
        exfalso
        have hj : j ∈ Region.ready .any ops listed := by rw [hr]; exact List.mem_cons_self
        obtain ⟨h1, _⟩ := mem_ready.1 hj
        have hpos : 0 < listed.toList.count false := by
          rw [List.count_pos_iff]
          rw [Array.getD_eq_getD_getElem?] at h1
          cases hx : listed[j]? with
          | none => rw [hx] at h1; simp at h1
          | some b =>
            rw [hx] at h1
            simp only [Option.getD_some] at h1
            subst h1
            exact List.mem_of_getElem? (by simpa using hx)
        omega
    exact ⟨hr, hEnd _ a w' Γ' H (all listed hs hr) h⟩
  | succ fuel ih =>
    intro listed a w' Γ' H hs hc hD h
    refine ⟨fun hr => hEnd _ a w' Γ' H (all listed hs hr) h, fun i hi => ?_⟩
    obtain ⟨h1, o, ho, he⟩ := mem_ready.1 hi
    have hlt := oper_lt ho
    have hat : listed[i]? = some false := by
      rw [Array.getD_eq_getD_getElem?] at h1
      rw [Array.getElem?_eq_getElem (by omega)] at h1 ⊢
      simpa using h1
    have hdi : don listed i = false := by simp [don, Array.getD_eq_getD_getElem?, hat]
    have hset := don_set (listed := listed) (i := i) (by omega)
    refine Mid.step S hrec hle T hg hE hR hD h ho hdi he fun a' w'' Γ'' H' hmid => ?_
    refine ih (listed.setIfInBounds i true) a' w'' Γ'' H' (by simpa using hs) ?_ ?_ (by rw [hset]; exact hmid)
    · have := count_set listed.toList i (by simpa using hat)
      simp only [Array.toList_setIfInBounds]
      omega
    · rw [hset]
      intro j p hp hj e he' hb
      by_cases q : j = i
      · subst q
        rw [ho] at hp; cases hp
        have hde : don listed e.on = true := he e he' hb
        unfold withD
        split
        · rfl
        · exact hde
      · rw [withD_ne q] at hj
        have hde := hD j p hp hj e he' hb
        unfold withD
        split
        · rfl
        · exact hde
theorem Moves.drawn {m : Mem} (hR : Rep base Γ m.H w) : Moves base Γ m w Γ m { w with drawn := w.drawn + 1 } :=
  ⟨Nat.le_refl _, Keeps.refl _, fun _ _ => rfl, ⟨hR.base_le, hR.obj, hR.inj⟩, rfl, rfl, rfl, Nat.le_refl _, fun _ _ => rfl, fun _ _ _ => rfl, fun b o i h1 h2 => .inr ⟨b, o, i, h1, h2, rfl⟩, fun b o h => .inl ⟨o, h⟩⟩
theorem draw_ok (S : Sound cf base E) (hrec : RecOk cf base E rec) (hle : RecLe rec) : DrawOk cf base E rec := by
  intro rb n id ops N ds Q tm' tm m m' Γ a w h
  unfold regionA at h
  obtain ⟨hplan, h⟩ := bif_none h
  split at h
  case h_2 => cases h
  rename_i S' hdraw
  cases h
  obtain ⟨σ, h1, h2, h3⟩ := draw_trace hdraw
  rw [rowA_length] at h2
  have hstep : ∀ i : Nat, ∃ v, ∀ o, ops[i]? = some o → dstOk N o.dst = true ∧ Did cf rec ops i o (maskOf ops i) (σ i) (σ (i + 1)) v := fun i => by
    cases ho : ops[i]? with
    | none => exact ⟨.undef, fun o h => by cases h⟩
    | some o =>
      obtain ⟨hd, v, hv⟩ := drawOne_did (h3 i _ (rowA_get ho))
      exact ⟨v, fun o' h => by cases h; exact ⟨hd, hv⟩⟩
  let val : Nat → AV := fun i => Classical.choose (hstep i)
  have T : Tr cf rec ops N σ val m tm := ⟨hplan, ⟨S.le, hle⟩, h1, fun i o ho => (Classical.choose_spec (hstep i) o ho).1, fun i o ho => (Classical.choose_spec (hstep i) o ho).2⟩
  have hle0 : m.next ≤ (σ ops.size).next := by have := T.next_mono (i := 0) (j := ops.size) (by omega) (Nat.le_refl _); rw [T.init] at this; exact this
  rw [← h2]
  refine ⟨hle0, fun hst ht hd hF hQ => ?_⟩
  have hF' : ∀ b, m.next ≤ b → b < (σ ops.size).next → Γ b = none := hF
  have hdr := Moves.drawn (m := m) hst.rep
  refine wpIn_region_any S.mixed ?_
  have hdon0 : don (Array.replicate ops.size false) = fun _ => false := by
    funext j
    simp only [don, Array.getD_eq_getD_getElem?, Array.getElem?_replicate]
    split <;> rfl
  have hc0 : cur σ (fun _ => false) ops.size = ⟨m.H, 0, none⟩ := by
    rw [cur_stop (i := 0) (by omega) fun _ _ _ _ => rfl]
    simp only [cur, T.init]
  have hmem0 : ∀ x, m.H.get x = MD σ ops.size (fun _ => false) x := fun x => by
    unfold MD
    rw [hc0, ovlF_out fun _ _ _ => by rfl]
  have hTD0 : ∀ n, TD tm ops val (fun _ => false) n = tm := fun n => by
    induction n with
    | zero => rfl
    | succ n ih => simp only [TD]; rw [if_neg (by simp)]; exact ih
  have hmid : Mid cf base ops N σ val m tm Γ w ds (don (Array.replicate ops.size false)) a { w with drawn := w.drawn + 1 } Γ m.H := by
    rw [hdon0]
    refine ⟨hmem0, ?_, by rw [hTD0]; exact ht, hd, ?_, ?_⟩
    · exact ⟨hle0, Keeps.refl _, fun _ _ => rfl, hdr.rep, rfl, rfl, rfl, Nat.le_refl _, fun _ _ => rfl, fun _ _ _ => rfl, fun b o i q1 q2 => .inr ⟨b, o, i, q1, q2, rfl⟩, fun b o q => .inl ⟨o, q⟩⟩
    · intro i hi _ x q1 q2
      have q3 := T.next_mono (i := 0) (j := i) (by omega) (by omega)
      have q4 := T.next_mono (i := i + 1) (j := ops.size) (by omega) (Nat.le_refl _)
      rw [T.init] at q3
      exact hF' x (Nat.le_trans q3 q1) (by omega)
    · intro j id' o hm _
      rw [hc0]
      cases hx : m.H.get id' with
      | none => rfl
      | some p =>
        exfalso
        obtain ⟨i', o', q1, _⟩ := hst.rep.obj id' p hx
        obtain ⟨k1, k2, k3, _⟩ := T.allocs_spec (Nat.le_refl _) j id' o hm
        have q3 := T.next_mono (i := 0) (j := j) (by omega) (by omega)
        have q4 := T.next_mono (i := j + 1) (j := ops.size) (by omega) (Nat.le_refl _)
        rw [T.init] at q3
        have q5 : m.next ≤ id' := by rw [k2]; exact q3
        have := hF' id' q5 (by omega)
        rw [this] at q1; cases q1
  refine Mid.any (D := fun _ => false) S hrec hle T hst.gl hst.env hst.rep (fun _ _ _ _ _ _ => trivial) (fun D a' w' Γ' H hall hm => ?_) ops.size (Array.replicate ops.size false) a _ Γ m.H (by simp) (by simp) ?_ hmid
  · have hcur : cur σ D ops.size = (σ ops.size).top := by
      rw [T.top_cur (Nat.le_refl _)]
      exact cur_congr fun e he _ => hall e he
    refine hQ Γ' a' w' ?_ hm.defs (hm.moves.alike fun x => ?_)
    · refine hm.tmps.alike fun t => ?_
      rw [T.tm_full (Nat.le_refl _)]
      exact TD_congr fun j hj _ => (hall j hj).symm
    · rw [hm.mem x, ovl_get]
      unfold MD
      rw [hcur]
      refine ovlF_at fun j o hm' => ?_
      obtain ⟨k1, _⟩ := T.allocs_spec (Nat.le_refl _) j x o hm'
      rw [hall j k1, Nat.testBit_two_pow_sub_one, decide_eq_true k1]
  · rw [hdon0]
    intro j o _ hj
    cases hj
/-- The machine is right. -/
theorem machine_ok (S : Sound cf base E) (n : Nat) {f : FuncId} {args : List AV} {v : AV} (h : callA cf (runA cf n) f args m = some (v, m')) {cs : List Value} (hl : relL Γ args cs) (hst : St cf base E Γ m w) (hF : Fresh Γ m m') : CallGives cf.P base Γ m w f ⟨cs⟩ v m' :=
  let ⟨h1, h2⟩ := run_ok S (fun rec h1 h2 => draw_ok S h1 h2) n
  call_ok S h1 h2 h hl hst hF
end Go.Proofs.YtijnlbpeckoofaaGreat
