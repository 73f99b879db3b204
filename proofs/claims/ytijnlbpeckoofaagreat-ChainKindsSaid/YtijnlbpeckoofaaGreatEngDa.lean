/- A machine that runs closed calls: an operation looks at its operands alone. -/
import Derived.Test.YtijnlbpeckoofaaGreatEngCe
set_option linter.unusedVariables false
set_option linter.unusedSimpArgs false
namespace Go.Proofs.YtijnlbpeckoofaaGreat
open Go.RowKit

theorem evals_congr {ev ev' : Operand → Option AV} : ∀ {l : List Operand}, (∀ x ∈ l, ev x = ev' x) → evals ev l = evals ev' l
  | [], h => rfl
  | x :: l, h => by
    simp only [evals]
    rw [h x List.mem_cons_self, evals_congr fun y hy => h y (List.mem_cons_of_mem _ hy)]
theorem evalsP_congr {ev ev' : Operand → Option AV} : ∀ {l : List (Nat × Operand)}, (∀ x ∈ l.map (·.2), ev x = ev' x) → evalsP ev l = evalsP ev' l
  | [], h => rfl
  | (i, x) :: l, h => by
    simp only [evalsP]
    rw [h x (by simp), evalsP_congr fun y hy => h y (List.mem_cons_of_mem _ hy)]
section
variable {P : Program} {m : Mem} {ev ev' : Operand → Option AV}
theorem readA_congr {o : Op} (h : ∀ x ∈ o.operands, ev x = ev' x) : readA P m ev o = readA P m ev' o := by
  cases o <;> simp only [readA] <;> (try rfl) <;> (try (simp only [Op.operands, List.mem_cons, List.not_mem_nil, or_false, forall_eq_or_imp, forall_eq, List.mem_toArray] at h))
  case move x => exact h
  case assign x => exact h
  case pick c a b => obtain ⟨h1, h2, h3⟩ := h; simp only [rdPick, h1, h2, h3]
  case build t parts => simp only [rdBuild, evalsP_congr (l := parts.toList) (by simpa using h)]
  case load t a => simp only [rdLoad, h]
  case nilCheck x => simp only [rdNil, h]
  case binOp op t x y yt => obtain ⟨h1, h2⟩ := h; simp only [rdBin, h1, h2]
  case unOp op t x => simp only [rdUn, h]
  case convert s t x => simp only [rdConv, h]
  case makeInterface t x => simp only [rdIface, h]
  case makeFunc fn first captured =>
    have h1 : evals ev first.toList = evals ev' first.toList := evals_congr fun x hx => h x (by simp; exact .inl (by simpa using hx))
    have h2 : evals ev captured.toList = evals ev' captured.toList := evals_congr fun x hx => h x (by simp; exact .inr (by simpa using hx))
    cases fn <;> simp only [rdFunc, h1, h2]
  case slice t x lo hi mx =>
    have hx : ev x = ev' x := h x (by simp)
    have hl : ∀ b, lo = some b → ev b = ev' b := fun b e => h b (by simp [e])
    have hh : ∀ b, hi = some b → ev b = ev' b := fun b e => h b (by simp [e])
    have hm : ∀ b, mx = some b → ev b = ev' b := fun b e => h b (by simp [e])
    cases lo with
    | none => cases hi with
      | none => cases mx <;> simp only [rdSlice, hx]
      | some b => cases mx with
        | none => simp only [rdSlice, hx, hh b rfl]
        | some c => simp only [rdSlice, hx, hh b rfl, hm c rfl]
    | some a => cases hi with
      | none => cases mx with
        | none => simp only [rdSlice, hx, hl a rfl]
        | some c => simp only [rdSlice, hx]
      | some b => cases mx with
        | none => simp only [rdSlice, hx, hl a rfl, hh b rfl]
        | some c => simp only [rdSlice, hx, hl a rfl, hh b rfl, hm c rfl]
  case fieldAddr s x f => simp only [rdFieldAddr, h]
  case field t x f => simp only [rdField, h]
  case indexAddr t x ix => obtain ⟨h1, h2⟩ := h; simp only [rdIndexAddr, h1, h2]
  case index t x ix => obtain ⟨h1, h2⟩ := h; simp only [rdIndex, h1, h2]
  case lookup t x ix ok => obtain ⟨h1, h2⟩ := h; simp only [rdLookup, h1, h2]
  case entry it => simp only [rdEntry, h]
  case typeAssert x xt t ok => simp only [rdAssert, h]
  case extract t i => simp only [rdExtract, h]
  case call c =>
    obtain ⟨callee, args, ts⟩ := c
    have h1 : evals ev args.toList = evals ev' args.toList := evals_congr fun x hx => h x (by simp [Call.operands]; exact .inr (by simpa using hx))
    unfold rdCall
    split <;> simp only [rdLen, rdCap, rdMax, rdMin, rdUnsafeSliceData, h1]
theorem allocA_congr {o : Op} (h : ∀ x ∈ o.operands, ev x = ev' x) : allocA P ev o = allocA P ev' o := by
  cases o <;> (try rfl)
  case box t x => simp only [Op.operands, List.mem_toArray, List.mem_cons, List.not_mem_nil, or_false, forall_eq] at h; simp only [allocA, h]
  case buildSlice t len parts => simp only [Op.operands] at h; simp only [allocA, evalsP_congr (l := parts.toList) (by simpa using h)]
  case makeSlice t l c => simp only [Op.operands, List.mem_toArray, List.mem_cons, List.not_mem_nil, or_false, forall_eq_or_imp, forall_eq] at h; obtain ⟨h1, h2⟩ := h; simp only [allocA, h1, h2]
  case convert s t x => simp only [Op.operands, List.mem_toArray, List.mem_cons, List.not_mem_nil, or_false, forall_eq] at h; simp only [allocA, h]
  case makeMap t r => cases r <;> rfl
theorem effA_congr {o : Op} (h : ∀ x ∈ o.operands, ev x = ev' x) : effA P m ev o = effA P m ev' o := by
  cases o <;> (try rfl) <;> (try (simp only [Op.operands, List.mem_toArray, List.mem_cons, List.not_mem_nil, or_false, forall_eq_or_imp, forall_eq] at h))
  case store t a x => obtain ⟨h1, h2⟩ := h; simp only [effA, efStore, h1, h2]
  case mapUpdate t x k v => obtain ⟨h1, h2, h3⟩ := h; simp only [effA, efUpdate, h1, h2, h3]
  case insert t x k v => obtain ⟨h1, h2, h3⟩ := h; simp only [effA, efUpdate, h1, h2, h3]
  case range t x => simp only [effA, efRange, h]
  case next it s => cases s <;> simp only [effA, efNext, h]
  case call c =>
    obtain ⟨callee, args, ts⟩ := c
    have h1 : evals ev args.toList = evals ev' args.toList := evals_congr fun x hx => h x (by simp [Call.operands]; exact .inr (by simpa using hx))
    simp only [effA]
    unfold efCall
    split <;> simp only [efAppend, efString, efCopy, h1]
theorem goalA_congr {c : Call} (h : ∀ x ∈ c.operands, ev x = ev' x) : goalA P ev c = goalA P ev' c := by
  obtain ⟨callee, args, ts⟩ := c
  have h1 : evals ev args.toList = evals ev' args.toList := evals_congr fun x hx => h x (by simp [Call.operands]; exact .inr (by simpa using hx))
  cases callee with
  | value f =>
    have h2 : ev f = ev' f := h f (by simp [Call.operands])
    unfold goalA
    simp only [h1]
    cases evals ev' args.toList <;> simp only [h2]
  | invoke r name =>
    have h2 : ev r = ev' r := h r (by simp [Call.operands])
    unfold goalA
    simp only [h1]
    cases evals ev' args.toList <;> simp only [h2]
  | builtin b => unfold goalA; rfl
theorem opA_congr {cf : Cf} {rec : Rec} {o : Op} (h : ∀ x ∈ o.operands, ev x = ev' x) : opA cf rec ev o m = opA cf rec ev' o m := by
  unfold opA
  rw [readA_congr h, allocA_congr h, effA_congr h]
  cases o with
  | call c =>
    have : goalA cf.P ev c = goalA cf.P ev' c := goalA_congr h
    simp only [this]
  | _ => rfl
end
mutual
theorem beqA_eq : ∀ {a b : AV}, beqA a b = true → a = b
  | .bool a, b, h => by
    cases b <;> simp only [beqA] at h <;> first | cases h | skip
    rw [show a = _ from by simpa using h]
  | .int j a, b, h => by
    cases b <;> simp only [beqA] at h <;> first | cases h | skip
    simp only [Bool.and_eq_true, Bool.if_true_left, Bool.or_false, decide_eq_true_eq] at h
    rw [h.1, h.2]
  | .str n x, b, h => by
    cases b <;> simp only [beqA] at h <;> first | cases h | skip
    simp only [Bool.and_eq_true] at h
    rw [Nat.eq_of_beq_eq_true h.1, Nat.eq_of_beq_eq_true h.2]
  | .nilptr, b, h => by cases b <;> simp only [beqA] at h <;> first | rfl | cases h
  | .ptr x o, b, h => by
    cases b <;> simp only [beqA] at h <;> first | cases h | skip
    simp only [Bool.and_eq_true] at h
    rw [Nat.eq_of_beq_eq_true h.1, Nat.eq_of_beq_eq_true h.2]
  | .nilslice, b, h => by cases b <;> simp only [beqA] at h <;> first | rfl | cases h
  | .slice x o l c e, b, h => by
    cases b <;> simp only [beqA] at h <;> first | cases h | skip
    simp only [Bool.and_eq_true] at h
    obtain ⟨⟨⟨⟨h1, h2⟩, h3⟩, h4⟩, h5⟩ := h
    rw [Nat.eq_of_beq_eq_true h1, Nat.eq_of_beq_eq_true h2, Nat.eq_of_beq_eq_true h3, Nat.eq_of_beq_eq_true h4, Nat.eq_of_beq_eq_true h5]
  | .nilmap, b, h => by cases b <;> simp only [beqA] at h <;> first | rfl | cases h
  | .map x, b, h => by
    cases b <;> simp only [beqA] at h <;> first | cases h | skip
    rw [Nat.eq_of_beq_eq_true h]
  | .nilFunc, b, h => by cases b <;> simp only [beqA] at h <;> first | rfl | cases h
  | .func f x y, b, h => by
    cases b <;> simp only [beqA] at h <;> first | cases h | skip
    simp only [Bool.and_eq_true, Bool.if_true_left, Bool.or_false, decide_eq_true_eq] at h
    obtain ⟨⟨h1, h2⟩, h3⟩ := h
    rw [h1, beqL_eq h2, beqL_eq h3]
  | .iface t v, b, h => by
    cases b <;> simp only [beqA] at h <;> first | cases h | skip
    simp only [Bool.and_eq_true] at h
    rw [Nat.eq_of_beq_eq_true h.1, beqA_eq h.2]
  | .nilIface, b, h => by cases b <;> simp only [beqA] at h <;> first | rfl | cases h
  | .agg l, b, h => by
    cases b <;> simp only [beqA] at h <;> first | cases h | skip
    rw [beqL_eq h]
  | .tuple l, b, h => by
    cases b <;> simp only [beqA] at h <;> first | cases h | skip
    rw [beqL_eq h]
  | .hollow x, b, h => by
    cases b <;> simp only [beqA] at h <;> first | cases h | skip
    rw [Nat.eq_of_beq_eq_true h]
theorem beqL_eq : ∀ {a b : List AV}, beqL a b = true → a = b
  | [], b, h => by cases b <;> simp only [beqL] at h <;> first | rfl | cases h
  | a :: l, b, h => by
    cases b <;> simp only [beqL] at h <;> first | cases h | skip
    simp only [Bool.and_eq_true] at h
    rw [beqA_eq h.1, beqL_eq h.2]
end
end Go.Proofs.YtijnlbpeckoofaaGreat
