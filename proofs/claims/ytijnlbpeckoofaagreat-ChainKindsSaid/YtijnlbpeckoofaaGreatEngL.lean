/- A machine that runs closed calls: what reads, reads what stands there. -/
import Derived.Test.YtijnlbpeckoofaaGreatEngM
set_option linter.unusedVariables false
set_option linter.unusedSimpArgs false
namespace Go.Proofs.YtijnlbpeckoofaaGreat
open Go.RowKit
variable {P : Program} {base : Nat} {Γ : Tie} {m : Mem} {w : World}

theorem cellAt {w : World} {b : Nat} {cs : Array Value} {T : TypeId} {fr : Nat × Nat} (hb : w.heap[b]? = some (.cells cs T fr)) (j : Nat) : w.cell? ⟨b, j, none⟩ = cs[j]? := by
  simp [World.cell?, hb]
theorem nblt {a b : Nat} (h : Nat.blt a b = true) : a < b := by simpa [Nat.blt_eq] using h
theorem sizeA_run {t : TypeId} {s : Nat} (h : sizeA P t = some s) (w : World) : (sizeOf t).run P w = .ok s w := by
  unfold sizeA at h
  split at h
  · rename_i i hi; cases h; simp [sizeOf, typeInfo, hi]
  · cases h
theorem bytesA_run {t : TypeId} {s : Nat} (h : bytesA P t = some s) : ∃ i, P.info? t = some i ∧ i.bytes = s := by
  unfold bytesA at h
  split at h
  · rename_i i hi; cases h; exact ⟨i, hi, rfl⟩
  · cases h
theorem sizeA_info {t : TypeId} {s : Nat} (h : sizeA P t = some s) : ∃ i, P.info? t = some i ∧ i.size = s := by
  unfold sizeA at h
  split at h
  · rename_i i hi; cases h; exact ⟨i, hi, rfl⟩
  · cases h
theorem zeroA_info {t : TypeId} {z : AV} (h : zeroA P t = some z) (Γ : Tie) : ∃ i v, P.info? t = some i ∧ i.zero = some v ∧ rel Γ z v := by
  unfold zeroA at h
  split at h
  · rename_i i hi
    split at h
    · rename_i v hv; exact ⟨i, v, hi, hv, rel_of h⟩
    · cases h
  · cases h
theorem zeroA_run {t : TypeId} {z : AV} (h : zeroA P t = some z) (Γ : Tie) (w : World) : ∃ v, (zeroValue t).run P w = .ok v w ∧ rel Γ z v := by
  obtain ⟨i, v, hi, hv, hr⟩ := zeroA_info h Γ
  exact ⟨v, by simp [zeroValue, typeInfo, hi, hv], hr⟩
theorem aggA_run {t : TypeId} {b : Bool} (h : aggA P t = some b) (w : World) : (isAgg t).run P w = .ok b w := by
  unfold aggA at h
  split at h
  · rename_i fs hu; cases h; simp [isAgg, run_underlying hu]
  · rename_i n e hu; cases h; simp [isAgg, run_underlying hu]
  · rename_i d h1 h2 hu
    cases h
    simp only [isAgg, Sem.run_bind, run_underlying hu, Result.andThen_ok]
    cases d <;> first | rfl | exact absurd rfl (h1 _) | exact absurd rfl (h2 _ _) | (rename_i fs; exact absurd hu (h1 fs)) | simp_all
  · cases h
/-- A row of cells, as it stands. -/
theorem Rep.row (hR : Rep base Γ m.H w) {b n : Nat} {tr : PT AV} {e : TypeId} {opn fz : Bool} (hb : m.H.get b = some (.cells n tr e opn fz)) :
    ∃ i c lo hi, Γ b = some i ∧ (base ≤ i.blk ∨ fz = true) ∧ w.heap[i.blk]? = some (.cells c e (lo, hi)) ∧ c.size = i.tot ∧ n ≤ c.size ∧ (opn = false → c.size = n) ∧
      (∀ j a, j < n → tr.get j = some a → ∃ v, c[j]? = some v ∧ rel Γ a v) ∧ (fz = false → ∀ off, off < c.size → ¬ (lo ≤ off ∧ off < hi)) := by
  obtain ⟨i, o', h1, h2, h3, c, lo, hi, rfl, h4⟩ := hR.obj b _ hb
  exact ⟨i, c, lo, hi, h1, h2, h3, h4⟩
theorem take_rel {c : Array Value} {n : Nat} {tr : PT AV} (hc : ∀ j a, j < n → tr.get j = some a → ∃ v, c[j]? = some v ∧ rel Γ a v) {off s : Nat} (hle : off + s ≤ n) {l : List AV} (hl : tr.take off s = some l) :
    ∃ vs : List Value, vs.length = s ∧ (∀ j v, vs[j]? = some v → c[off + j]? = some v) ∧ relL Γ l vs := by
  obtain ⟨h1, h2⟩ := PT.take_some tr s off l hl
  have hex : ∀ j, j < s → ∃ v, c[off + j]? = some v ∧ ∀ a, l[j]? = some a → rel Γ a v := fun j hj => by
    have hj' : j < l.length := by omega
    have h3 := h2 j hj
    rw [List.getElem?_eq_getElem hj'] at h3
    obtain ⟨v, h4, h5⟩ := hc (off + j) _ (by omega) h3
    exact ⟨v, h4, fun a ha => by rw [List.getElem?_eq_getElem hj'] at ha; cases ha; exact h5⟩
  refine ⟨(List.range s).map fun j => (c[off + j]?).getD undef, by simp, ?_, relL_iff.2 ⟨by simp [h1], ?_⟩⟩
  · intro j v hv
    rw [List.getElem?_map] at hv
    cases hr : (List.range s)[j]? with
    | none => rw [hr] at hv; cases hv
    | some k =>
      rw [hr] at hv
      obtain ⟨hlt, hk⟩ := List.getElem?_eq_some_iff.1 hr
      simp only [List.getElem_range] at hk; subst hk
      simp only [Option.map_some, Option.some.injEq] at hv
      obtain ⟨u, hu, _⟩ := hex j (by simpa using hlt)
      rw [hu] at hv ⊢; simpa using hv
  · intro j a ha
    have hj : j < s := by rw [← h1]; exact (List.getElem?_eq_some_iff.1 ha).1
    obtain ⟨u, hu, hr⟩ := hex j hj
    refine ⟨u, ?_, hr a ha⟩
    rw [List.getElem?_map, List.getElem?_eq_getElem (by simpa using hj)]
    simp [hu]
theorem loadA_run (hR : Rep base Γ m.H w) {t : TypeId} {b off : Nat} {v : AV} (h : loadA P m t b off = some v) {i : BI} (hi : Γ b = some i) :
    ∃ c, (loadVar t ⟨i.blk, off, none⟩).run P w = .ok c w ∧ rel Γ v c := by
  unfold loadA at h
  split at h
  case h_2 => cases h
  rename_i n tr e opn fz hb
  obtain ⟨i', c, lo, hi', h1, h2, h3, h4, h5, h6, h7, h8⟩ := hR.row hb
  rw [hi] at h1; cases h1
  split at h
  · rename_i ha
    split at h
    case h_2 => cases h
    rename_i s hs
    cases hle : Nat.ble (off + s) n with
    | false => rw [hle] at h; simp at h
    | true =>
      rw [hle] at h
      simp only [cond_true] at h
      split at h
      case h_2 => cases h
      rename_i l hl
      cases h
      obtain ⟨vs, h9, h10, h11⟩ := take_rel h7 (Nat.le_of_ble_eq_true hle) hl
      refine ⟨.agg vs.toArray, ?_, by simp only [rel]; exact ⟨vs, rfl, h11⟩⟩
      have hcells := run_loadCells_list (P := P) w ⟨i.blk, off, none⟩ vs (fun j v hv => by
        rw [show (⟨i.blk, off, none⟩ : Addr).add j = ⟨i.blk, off + j, none⟩ by unfold Addr.add; split <;> simp_all, cellAt h3]; exact h10 j v hv)
      rw [h9] at hcells
      simp [loadVar, aggA_run ha, sizeA_run hs, hcells]
  · rename_i ha
    cases hle : Nat.blt off n with
    | false => rw [hle] at h; simp at h
    | true =>
      rw [hle] at h
      simp only [cond_true] at h
      have hlt : off < n := nblt hle
      obtain ⟨x, h9, h10⟩ := h7 off v hlt h
      refine ⟨x, ?_, h10⟩
      simp [loadVar, aggA_run ha, cellAt h3, h9]
  · cases h
theorem partA_run {t : TypeId} {cs : List AV} {off : Nat} {a : AV} {vs : List Value} (h : partA P t cs off = some a) (hr : relL Γ cs vs) (w : World) :
    ∃ c, (part t ⟨vs⟩ off).run P w = .ok c w ∧ rel Γ a c := by
  unfold partA at h
  split at h
  · rename_i ha
    split at h
    case h_2 => cases h
    rename_i s hs
    cases h
    refine ⟨.agg ((⟨vs⟩ : Array Value).extract off (off + s)), by simp [part, aggA_run ha, sizeA_run hs], ?_⟩
    simp only [rel]
    refine ⟨(vs.drop off).take s, ?_, (hr.drop off).take s⟩
    congr 1
    apply Array.ext'
    simp [List.take_drop]
  · rename_i ha
    obtain ⟨x, h1, h2⟩ := hr.get h
    refine ⟨x, ?_, h2⟩
    simp only [part, Sem.run_bind, aggA_run ha, Result.andThen_ok]
    have : (⟨vs⟩ : Array Value)[off]? = some x := by simpa using h1
    simp [this]
  · cases h
theorem evals_rel {ev : Operand → Option AV} {ρ : Operand → Value} (hev : ∀ x a, ev x = some a → rel Γ a (ρ x)) : ∀ {l : List Operand} {as : List AV}, evals ev l = some as → relL Γ as (l.map ρ)
  | [], as, h => by simp only [evals, Option.some.injEq] at h; subst h; simp only [relL, List.map_nil]
  | x :: xs, as, h => by
    simp only [evals] at h
    split at h
    · cases h
    rename_i a ha
    split at h
    · cases h
    rename_i as' has
    cases h
    simp only [List.map_cons, relL]
    exact ⟨_, _, rfl, hev x a ha, evals_rel hev has⟩
def relP (Γ : Tie) : List (Nat × AV) → List (Nat × Value) → Prop
  | [], l => l = []
  | (i, a) :: as, l => ∃ v l', l = (i, v) :: l' ∧ rel Γ a v ∧ relP Γ as l'
theorem evalsP_rel {ev : Operand → Option AV} {ρ : Operand → Value} (hev : ∀ x a, ev x = some a → rel Γ a (ρ x)) : ∀ {l : List (Nat × Operand)} {as : List (Nat × AV)}, evalsP ev l = some as → relP Γ as (l.map fun p => (p.1, ρ p.2))
  | [], as, h => by simp only [evalsP, Option.some.injEq] at h; subst h; simp only [relP, List.map_nil]
  | (i, x) :: xs, as, h => by
    simp only [evalsP] at h
    split at h
    · cases h
    rename_i a ha
    split at h
    · cases h
    rename_i as' has
    cases h
    simp only [List.map_cons, relP]
    exact ⟨_, _, rfl, hev x a ha, evalsP_rel hev has⟩
theorem setAt_rel : ∀ {xs : List AV} {ys : List Value} (cs : List AV) (vs : List Value) (i : Nat), relL Γ xs ys → relL Γ cs vs → relL Γ (setAt cs i xs) (setAt vs i ys)
  | [], ys, cs, vs, i, h, hc => by simp only [relL] at h; subst h; exact hc
  | x :: xs, ys, cs, vs, i, h, hc => by
    simp only [relL] at h
    obtain ⟨y, ys', rfl, h1, h2⟩ := h
    show relL Γ (setAt (cs.set i x) (i + 1) xs) (setAt (vs.set i y) (i + 1) ys')
    exact setAt_rel _ _ _ h2 (hc.set i h1)
theorem setAt_length {α : Type} : ∀ (xs : List α) (cs : List α) (i : Nat), (setAt cs i xs).length = cs.length
  | [], cs, i => rfl
  | x :: xs, cs, i => by simp [setAt, setAt_length xs]
theorem foldl_setAt (off : Nat) : ∀ (ys : List Value) (k : Nat) (cs : Array Value), ((ys.zipIdx k).foldl (fun cs (p : Value × Nat) => cs.setIfInBounds (off + p.2) p.1) cs).toList = setAt cs.toList (off + k) ys
  | [], k, cs => by simp [setAt]
  | y :: ys, k, cs => by
    simp only [List.zipIdx_cons, List.foldl_cons, setAt]
    rw [foldl_setAt off ys (k + 1)]
    simp [Nat.add_assoc]
theorem fillA_run {place : Nat → Option (Nat × Nat)} : ∀ {ps : List (Nat × AV)} {qs : List (Nat × Value)} {cs cs' : List AV} {vs : List Value}, relP Γ ps qs → relL Γ cs vs → fillA place cs ps = some cs' →
    ∃ vs', Instr.fill place ⟨vs⟩ qs = some ⟨vs'⟩ ∧ relL Γ cs' vs'
  | [], qs, cs, cs', vs, hp, hc, h => by
    simp only [relP] at hp; subst hp
    simp only [fillA, Option.some.injEq] at h; subst h
    exact ⟨vs, rfl, hc⟩
  | (i, a) :: ps, qs, cs, cs', vs, hp, hc, h => by
    simp only [relP] at hp
    obtain ⟨v, qs', rfl, h1, h2⟩ := hp
    simp only [fillA] at h
    cases hpl : place i with
    | none => rw [hpl] at h; cases h
    | some p =>
      obtain ⟨off, size⟩ := p
      rw [hpl] at h
      simp only at h
      cases hb : (Nat.beq a.cells.length size && Nat.ble (off + a.cells.length) cs.length) with
      | false => rw [hb] at h; cases h
      | true =>
        rw [hb] at h
        simp only [cond_true] at h
        simp only [Bool.and_eq_true] at hb
        have hsz := Nat.eq_of_beq_eq_true hb.1
        have hle := Nat.le_of_ble_eq_true hb.2
        have hl1 := h1.cells.length
        have hl2 := hc.length
        obtain ⟨vs', h3, h4⟩ := fillA_run h2 (setAt_rel cs vs off h1.cells hc) h
        refine ⟨vs', ?_, h4⟩
        simp only [Instr.fill, hpl]
        have e1 : v.cells.size = size := by rw [← hsz, hl1]; simp
        have e2 : ¬ (off + v.cells.size > (⟨vs⟩ : Array Value).size) := by
          simp only [List.size_toArray]
          have : v.cells.size = v.cells.toList.length := by simp
          omega
        rw [if_neg (by simp [e1]; simp at e2; omega)]
        rw [← h3]
        congr 1
        apply Array.ext'
        have := foldl_setAt off v.cells.toList 0 (⟨vs⟩ : Array Value)
        rw [← Array.foldl_toList, Array.toList_zipIdx]
        simpa using this
end Go.Proofs.YtijnlbpeckoofaaGreat
