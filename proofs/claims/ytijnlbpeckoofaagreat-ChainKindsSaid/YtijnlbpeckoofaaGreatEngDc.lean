/- A machine that runs closed calls: what a region in an open order did, operation by operation. -/
import Derived.Test.YtijnlbpeckoofaaGreatEngDb
set_option linter.unusedVariables false
set_option linter.unusedSimpArgs false
namespace Go.Proofs.YtijnlbpeckoofaaGreat
open Go.RowKit
variable {cf : Cf} {rec : Rec} {ops : Array Oper} {N : Nat}

theorem draw_trace : ∀ {l : List (Nat × Oper × Nat)} {S S' : DS}, drawA cf rec ops N l S = some S' → ∃ σ : Nat → DS, σ 0 = S ∧ σ l.length = S' ∧ ∀ i x, l[i]? = some x → drawOne cf rec ops N x.1 x.2.1 x.2.2 (σ i) = some (σ (i + 1))
  | [], S, S', h => ⟨fun _ => S, rfl, by simpa [drawA] using h, fun i x h => by simp at h⟩
  | x :: l, S, S', h => by
    simp only [drawA] at h
    split at h
    case h_2 => cases h
    rename_i S1 h1
    obtain ⟨σ, h2, h3, h4⟩ := draw_trace h
    refine ⟨fun i => Nat.casesOn i S σ, rfl, h3, fun i y hy => ?_⟩
    cases i with
    | zero =>
      simp only [List.getElem?_cons_zero, Option.some.injEq] at hy
      subst hy
      show drawOne cf rec ops N x.1 x.2.1 x.2.2 S = some (σ 0)
      rw [h1, h2]
    | succ i => exact h4 i y (by simpa using hy)
/-- What one operation did. -/
inductive Did (cf : Cf) (rec : Rec) (ops : Array Oper) (i : Nat) (o : Oper) (b : Nat) (S S' : DS) (v : AV) : Prop
  | quiet (hg : guardA ops S.tm o = some false) (hv : v = .undef) (hS : S' = { S with tm := putA S.tm o.dst v })
  | pure (hg : guardA ops S.tm o = some true) (hp : pureOp o.op = true) (hr : readA cf.P ⟨ovl b S.top.abs S.allocs S.top.H, 0⟩ (evalA cf S.tm) o.op = some v) (hS : S' = { S with tm := putA S.tm o.dst v })
  | read (hg : guardA ops S.tm o = some true) (hr : readA cf.P ⟨ovl b S.top.abs S.allocs S.top.H, 0⟩ (evalA cf S.tm) o.op = some v) (hs : (stops b S.top.e || readsOld cf S.allocs b S.tm o.op v S.old) = true)
      (hS : S' = { S with tm := putA S.tm o.dst v, reads := (i, S.tm, o.op, v, b) :: S.reads })
  | alloc (hg : guardA ops S.tm o = some true) (obj : AObj) (f : Nat → AV) (ha : allocA cf.P (evalA cf S.tm) o.op = some (obj, f)) (hv : v = f S.next) (hS : S' = { S with tm := putA S.tm o.dst v, next := S.next + 1, allocs := (i, S.next, obj) :: S.allocs })
  | eff (hg : guardA ops S.tm o = some true) (m : Mem) (hs : stops b S.top.e = true) (hl : Nat.land b S.top.abs = S.top.abs) (ho : opA cf rec (evalA cf S.tm) o.op ⟨ovl b S.top.abs S.allocs S.top.H, S.next⟩ = some (v, m))
      (hr : ∀ r ∈ S.reads, b.testBit r.1 = true ∨ readsAt cf S.allocs r.2.2.2.2 r.2.1 r.2.2.1 r.2.2.2.1 ⟨m.H, b, some i⟩ = true)
      (hS : S' = { tm := putA S.tm o.dst v, next := m.next, top := ⟨m.H, b, some i⟩, old := S.top :: S.old, allocs := S.allocs, reads := S.reads.filter fun r => !b.testBit r.1 })
theorem drawOne_did {i : Nat} {o : Oper} {b : Nat} {S S' : DS} (h : drawOne cf rec ops N i o b S = some S') : dstOk N o.dst = true ∧ ∃ v, Did cf rec ops i o b S S' v := by
  unfold drawOne at h
  obtain ⟨hd, h⟩ := bif_none h
  refine ⟨hd, ?_⟩
  split at h
  · rename_i hg; cases h; exact ⟨_, .quiet hg rfl rfl⟩
  · rename_i hg
    split at h
    · rename_i v hr
      cases hp : pureOp o.op with
      | true => rw [hp] at h; cases h; exact ⟨v, .pure hg hp hr rfl⟩
      | false =>
        rw [hp] at h
        obtain ⟨hs, h⟩ := bif_none (c := _) h
        cases h; exact ⟨v, .read hg hr hs rfl⟩
    · split at h
      · rename_i obj f ha; cases h; exact ⟨_, .alloc hg obj f ha rfl rfl⟩
      · obtain ⟨hc, h⟩ := bif_none h
        simp only [Bool.and_eq_true] at hc
        split at h
        case h_2 => cases h
        rename_i v m ho
        obtain ⟨hr, h⟩ := bif_none h
        cases h
        refine ⟨v, .eff hg m hc.1 (Nat.eq_of_beq_eq_true hc.2) ho (fun r hm => ?_) rfl⟩
        have := List.all_eq_true.1 hr r hm
        simpa using this
  · cases h
/-- Of an order that is closed under what must be before. -/
def Closed (ops : Array Oper) (D : Nat → Bool) : Prop := ∀ j o, ops[j]? = some o → D j = true → ∀ e ∈ o.after, Region.binds .any e = true → D e.on = true
theorem maskA_bit {acc : PT Nat} : ∀ {l : List Edge} {k : Nat}, (maskA acc l).testBit k = true → ∃ e ∈ l, Region.binds .any e = true ∧ (k = e.on ∨ ∃ x, acc.get e.on = some x ∧ x.testBit k = true)
  | [], k, h => by simp [maskA] at h
  | e :: l, k, h => by
    simp only [maskA] at h
    cases hb : Region.binds .any e with
    | false =>
      rw [hb] at h
      obtain ⟨e', h1, h2⟩ := maskA_bit (l := l) h
      exact ⟨e', List.mem_cons_of_mem _ h1, h2⟩
    | true =>
      rw [hb] at h
      simp only [cond_true] at h
      have h' : (((2 ^ e.on ||| (match acc.get e.on with | some x => x | none => 0)) ||| maskA acc l)).testBit k = true := h
      rw [Nat.testBit_or, Nat.testBit_or, Bool.or_eq_true, Bool.or_eq_true] at h'
      rcases h' with (h' | h') | h'
      · rw [Nat.testBit_two_pow] at h'
        exact ⟨e, List.mem_cons_self, hb, .inl (of_decide_eq_true h').symm⟩
      · cases hx : acc.get e.on with
        | none => rw [hx] at h'; simp at h'
        | some x => rw [hx] at h'; exact ⟨e, List.mem_cons_self, hb, .inr ⟨x, hx, h'⟩⟩
      · obtain ⟨e', h1, h2⟩ := maskA_bit (l := l) h'
        exact ⟨e', List.mem_cons_of_mem _ h1, h2⟩
theorem masks_sub {D : Nat → Bool} (hD : Closed ops D) : ∀ {l : List Oper} {i : Nat} {acc : PT Nat}, (∀ j : Nat, l[j]? = ops[i + j]?) → (∀ j x, acc.get j = some x → D j = true → ∀ k, x.testBit k = true → D k = true) →
    ∀ (j : Nat) o x, l[j]? = some o → (masksA l i acc)[j]? = some x → (∀ e ∈ o.after, Region.binds .any e = true → D e.on = true) → ∀ k, x.testBit k = true → D k = true
  | [], i, acc, hl, ha, j, o, x, hj => by simp at hj
  | o0 :: l, i, acc, hl, ha, j, o, x, hj => by
    intro hx he k hk
    have head : (∀ e ∈ o0.after, Region.binds .any e = true → D e.on = true) → ∀ k, (maskA acc o0.after.toList).testBit k = true → D k = true := by
      intro he k hk
      obtain ⟨e, h1, h2, h3⟩ := maskA_bit hk
      have h4 := he e (by simpa using h1) h2
      rcases h3 with rfl | ⟨y, h5, h6⟩
      · exact h4
      · exact ha _ _ h5 h4 _ h6
    cases j with
    | zero =>
      simp only [List.getElem?_cons_zero, Option.some.injEq] at hj
      simp only [masksA, List.getElem?_cons_zero, Option.some.injEq] at hx
      subst hj hx
      exact head he k hk
    | succ j =>
      refine masks_sub hD (l := l) (i := i + 1) (acc := acc.set i (some (maskA acc o0.after.toList))) (fun j => ?_) (fun j' y hy hDj => ?_) j o x (by simpa using hj) (by simpa [masksA] using hx) he k hk
      · have := hl (j + 1)
        simp only [List.getElem?_cons_succ] at this
        rw [this]; congr 1; omega
      · rw [PT.get_set] at hy
        split at hy
        · rename_i e
          cases hy
          subst e
          have h0 : ops[j']? = some o0 := by have := hl 0; simp at this; exact this.symm
          exact head (fun e he' hb => hD j' o0 h0 hDj e he' hb)
        · exact ha j' y hy hDj
theorem masksA_length : ∀ (l : List Oper) (i : Nat) (acc : PT Nat), (masksA l i acc).length = l.length
  | [], i, acc => rfl
  | o :: l, i, acc => by simp [masksA, masksA_length l]
theorem numbered_get {α : Type} : ∀ (l : List α) (i j : Nat), (numbered l i)[j]? = (l[j]?).map fun x => (i + j, x)
  | [], i, j => by simp [numbered]
  | x :: l, i, j => by
    cases j with
    | zero => simp [numbered]
    | succ j =>
      simp only [numbered, List.getElem?_cons_succ, numbered_get l]
      congr 1; funext x; congr 1; omega
noncomputable def maskOf (ops : Array Oper) (i : Nat) : Nat := (masksA ops.toList 0 .nil).getD i 0
theorem rowA_get {i : Nat} {o : Oper} (h : ops[i]? = some o) : (rowA ops)[i]? = some (i, o, maskOf ops i) := by
  have h1 : ops.toList[i]? = some o := by simpa using h
  have hlt : i < ops.toList.length := (List.getElem?_eq_some_iff.1 h1).1
  have h2 : (masksA ops.toList 0 .nil)[i]? = some (maskOf ops i) := by
    unfold maskOf
    rw [List.getD_eq_getElem?_getD, List.getElem?_eq_getElem (by rw [masksA_length]; exact hlt)]; rfl
  have h3 : (ops.toList.zip (masksA ops.toList 0 .nil))[i]? = some (o, maskOf ops i) := by
    rw [List.getElem?_zip_eq_some]; exact ⟨h1, h2⟩
  simp only [rowA, numbered_get, h3, Option.map_some, Nat.zero_add]
theorem rowA_length : (rowA ops).length = ops.size := by
  have : ∀ {α : Type} (l : List α) (i : Nat), (numbered l i).length = l.length := by
    intro α l
    induction l with
    | nil => intro i; rfl
    | cons x l ih => intro i; simp [numbered, ih]
  simp [rowA, this, masksA_length]
theorem mask_sub {D : Nat → Bool} (hD : Closed ops D) {i : Nat} {o : Oper} (h : ops[i]? = some o) (he : ∀ e ∈ o.after, Region.binds .any e = true → D e.on = true) {k : Nat} (hk : (maskOf ops i).testBit k = true) : D k = true := by
  have h1 : ops.toList[i]? = some o := by simpa using h
  have hlt : i < ops.toList.length := (List.getElem?_eq_some_iff.1 h1).1
  have h2 : (masksA ops.toList 0 .nil)[i]? = some (maskOf ops i) := by
    unfold maskOf
    rw [List.getD_eq_getElem?_getD, List.getElem?_eq_getElem (by rw [masksA_length]; exact hlt)]; rfl
  exact masks_sub hD (l := ops.toList) (i := 0) (acc := .nil) (fun j => by simp) (fun j x hx => by rw [PT.get_nil] at hx; cases hx) i o _ h1 h2 he k hk
theorem plan_back (h : planA ops = true) {i : Nat} {o : Oper} (ho : ops[i]? = some o) : ∀ e ∈ o.after, Region.binds .any e = true → e.on < i := by
  intro e he hb
  have h1 := List.all_eq_true.1 h _ (List.mem_of_getElem? (rowA_get ho))
  simp only [Bool.and_eq_true] at h1
  have h2 := List.all_eq_true.1 h1.1.1 e (by simpa using he)
  rw [hb] at h2
  exact nblt h2
theorem plan_guard (h : planA ops = true) {i : Nat} {o : Oper} (ho : ops[i]? = some o) {g : Nat} {b : Bool} (hg : o.guard = some (g, b)) : (maskOf ops i).testBit g = true := by
  have h1 := List.all_eq_true.1 h _ (List.mem_of_getElem? (rowA_get ho))
  simp only [Bool.and_eq_true, hg] at h1
  exact h1.1.2
theorem plan_apart (h : planA ops = true) {i j : Nat} {o p : Oper} (ho : ops[i]? = some o) (hp : ops[j]? = some p) (hij : i ≠ j) {d : Tmp} (hd : p.dst = some d) :
    if d ∈ looksA ops o then (if j < i then (maskOf ops i).testBit j = true else (maskOf ops j).testBit i = true) else o.dst ≠ some d := by
  have h1 := List.all_eq_true.1 h _ (List.mem_of_getElem? (rowA_get ho))
  simp only [Bool.and_eq_true] at h1
  have h2 := List.all_eq_true.1 h1.2 _ (List.mem_of_getElem? (rowA_get hp))
  simp only [apartA, hd] at h2
  have hb : Nat.beq i j = false := nbeq hij
  rw [hb] at h2
  simp only [cond_false] at h2
  split
  · rename_i hm
    have hc : (looksA ops o).contains d = true := by simpa using hm
    rw [hc] at h2
    simp only [cond_true] at h2
    split
    · rename_i hlt
      have : Nat.blt j i = true := by rw [Nat.blt_eq]; exact hlt
      rw [this] at h2; exact h2
    · rename_i hlt
      have : Nat.blt j i = false := by rw [← Bool.not_eq_true, Nat.blt_eq]; exact hlt
      rw [this] at h2; exact h2
  · rename_i hm
    have hc : (looksA ops o).contains d = false := by simpa using hm
    rw [hc] at h2
    simp only [cond_false] at h2
    intro e
    rw [e] at h2
    simp at h2
end Go.Proofs.YtijnlbpeckoofaaGreat
