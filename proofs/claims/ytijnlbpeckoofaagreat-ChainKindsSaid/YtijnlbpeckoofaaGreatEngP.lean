/- A machine that runs closed calls: equality, parts, indices, maps. -/
import Derived.Test.YtijnlbpeckoofaaGreatEngArr
import Derived.Test.YtijnlbpeckoofaaGreatEngO
import Derived.Laws.StructEq
import Derived.MapKept
set_option linter.unusedVariables false
set_option linter.unusedSimpArgs false
namespace Go.Proofs.YtijnlbpeckoofaaGreat
open Go.RowKit
variable {P : Program} {base : Nat} {Γ : Tie} {m : Mem} {w : World} {ev : Operand → Option AV} {ρ : Operand → Value}

theorem eqIn_int {t : TypeId} {k k' : IntKind} {a b : Int} (h : P.underlying t = some (.int k')) (d : Nat) : (Op.equalIn (d + 1) t (.int k a) (.int k b)).run P w = .ok (a == b) w := by
  simp [Op.equalIn, run_underlying h]
theorem eqIn_bool {t : TypeId} {a b : Bool} (h : P.underlying t = some .bool) (d : Nat) : (Op.equalIn (d + 1) t (.bool a) (.bool b)).run P w = .ok (a == b) w := by
  simp [Op.equalIn, run_underlying h]
theorem eqIn_str {t : TypeId} {n x k y : Nat} (h : P.underlying t = some .string) (hx : x < 256 ^ n) (hy : y < 256 ^ k) (d : Nat) : (Op.equalIn (d + 1) t (.string (strOf n x)) (.string (strOf k y))).run P w = .ok (Nat.beq n k && Nat.beq x y) w := by
  rw [run_equalIn_string w d t _ _ h, strOf_toList, strOf_toList, dec_beq hx hy]
def aggD : TypeDesc → Bool
  | .struct _ | .array _ _ => true
  | _ => false
theorem aggA_of {t : TypeId} {d : TypeDesc} (h : P.underlying t = some d) (hd : aggD d = false) : aggA P t = some false := by
  unfold aggA
  rw [h]
  cases d <;> first | rfl | simp [aggD] at hd
theorem part_one {t : TypeId} {d : TypeDesc} (h : P.underlying t = some d) (hd : aggD d = false) {xs : List AV} {vs : List Value} (hr : relL Γ xs vs) {off : Nat} {a : AV} (ha : xs[off]? = some a) (w : World) :
    ∃ c, (part t ⟨vs⟩ off).run P w = .ok c w ∧ rel Γ a c :=
  partA_run (by unfold partA; rw [aggA_of h hd]; exact ha) hr w
theorem part_struct {t : TypeId} {fs : Array Field} (h : P.underlying t = some (.struct fs)) {s : Nat} (hs : sizeA P t = some s) {xs : List AV} {vs : List Value} (hr : relL Γ xs vs) {off : Nat} (w : World) :
    ∃ us, (part t ⟨vs⟩ off).run P w = .ok (.agg ⟨us⟩) w ∧ relL Γ ((xs.drop off).take s) us := by
  obtain ⟨c, h1, h2⟩ := partA_run (P := P) (t := t) (cs := xs) (off := off) (a := .agg ((xs.drop off).take s)) (by unfold partA aggA; rw [h]; simp only [hs]) hr w
  simp only [rel] at h2
  obtain ⟨us, rfl, h3⟩ := h2
  exact ⟨us, h1, h3⟩
theorem eqCells_run {sub : TypeId → List AV → List AV → Option Bool} {d : Nat}
    (hsub : ∀ t xs ys vs us b, sub t xs ys = some b → relL Γ xs vs → relL Γ ys us → (Op.equalIn (d + 1) t (.agg ⟨vs⟩) (.agg ⟨us⟩)).run P w = .ok b w) :
    ∀ {fs : List Field} {xs ys : List AV} {vs us : List Value} {b : Bool}, eqCells P sub fs xs ys = some b → relL Γ xs vs → relL Γ ys us → (Op.eqFields (d + 1) ⟨vs⟩ ⟨us⟩ fs).run P w = .ok b w
  | [], xs, ys, vs, us, b, h, hx, hy => by simp only [eqCells, Option.some.injEq] at h; subst h; simp [Op.eqFields]
  | f :: fs, xs, ys, vs, us, b, h, hx, hy => by
    simp only [eqCells] at h
    cases hn : (f.name == "_") with
    | true =>
      rw [hn] at h
      have : f.name = "_" := by simpa using hn
      simp only [Op.eqFields, this, ne_eq, not_true_eq_false, if_false]
      exact eqCells_run hsub h hx hy
    | false =>
      rw [hn] at h
      have hne : f.name ≠ "_" := by simpa using hn
      simp only [Op.eqFields, if_pos hne, Sem.run_bind]
      simp only [cond_false] at h
      split at h
      · rename_i k hu
        split at h
        case h_2 => cases h
        rename_i k1 a k2 c hxa hyc
        split at h
        case isFalse => cases h
        rename_i hk; subst hk
        obtain ⟨v1, h1, h2⟩ := part_one hu rfl hx hxa w
        obtain ⟨v2, h3, h4⟩ := part_one hu rfl hy hyc w
        simp only [rel] at h2 h4; subst h2 h4
        simp only [h1, h3, Result.andThen_ok, eqIn_int hu]
        cases e : (a == c) with
        | true => rw [e] at h; simpa using eqCells_run hsub h hx hy
        | false => rw [e] at h; cases h; simp
      · rename_i hu
        split at h
        case h_2 => cases h
        rename_i a c hxa hyc
        obtain ⟨v1, h1, h2⟩ := part_one hu rfl hx hxa w
        obtain ⟨v2, h3, h4⟩ := part_one hu rfl hy hyc w
        simp only [rel] at h2 h4; subst h2 h4
        simp only [h1, h3, Result.andThen_ok, eqIn_bool hu]
        cases e : (a == c) with
        | true => rw [e] at h; simpa using eqCells_run hsub h hx hy
        | false => rw [e] at h; cases h; simp
      · rename_i hu
        split at h
        case h_2 => cases h
        rename_i n x k y hxa hyc
        obtain ⟨v1, h1, h2⟩ := part_one hu rfl hx hxa w
        obtain ⟨v2, h3, h4⟩ := part_one hu rfl hy hyc w
        simp only [rel] at h2 h4
        obtain ⟨rfl, h5⟩ := h2
        obtain ⟨rfl, h6⟩ := h4
        simp only [h1, h3, Result.andThen_ok, eqIn_str hu h5 h6]
        cases e : (Nat.beq n k && Nat.beq x y) with
        | true => rw [e] at h; simpa using eqCells_run hsub h hx hy
        | false => rw [e] at h; cases h; simp
      · rename_i gs hu
        split at h
        case h_2 => cases h
        rename_i s hs
        obtain ⟨v1, h1, h2⟩ := part_struct hu hs hx (off := f.offset) w
        obtain ⟨v2, h3, h4⟩ := part_struct hu hs hy (off := f.offset) w
        simp only [h1, h3, Result.andThen_ok]
        split at h
        · rename_i e
          rw [hsub _ _ _ _ _ _ e h2 h4]
          simpa using eqCells_run hsub h hx hy
        · rename_i e
          rw [hsub _ _ _ _ _ _ e h2 h4]
          cases h; simp
        · cases h
      · cases h
theorem eqStruct_run : ∀ (n d : Nat), n ≤ d → ∀ (t : TypeId) (xs ys : List AV) (vs us : List Value) (b : Bool), eqStruct P n t xs ys = some b → relL Γ xs vs → relL Γ ys us → (Op.equalIn (d + 1) t (.agg ⟨vs⟩) (.agg ⟨us⟩)).run P w = .ok b w
  | 0, d, hd, t, xs, ys, vs, us, b, h, hx, hy => by cases h
  | n + 1, d, hd, t, xs, ys, vs, us, b, h, hx, hy => by
    obtain ⟨d, rfl⟩ : ∃ e, d = e + 1 := ⟨d - 1, by omega⟩
    simp only [eqStruct] at h
    split at h
    · rename_i fs hu
      cases hp : P.stoodInHeld t with
      | true => rw [hp] at h; cases h
      | false =>
        rw [hp] at h
        have hf : P.fieldsOf t = fs := by simp [Program.fieldsOf, hu]
        rw [run_equalIn_struct w (d + 1) t ⟨vs⟩ ⟨us⟩ (by rw [hf]; exact hu) hp, hf]
        exact eqCells_run (fun t xs ys vs us b h1 h2 h3 => eqStruct_run n d (by omega) t xs ys vs us b h1 h2 h3) h hx hy
    · cases h
theorem intsK_ok {k : IntKind} : ∀ {xs : List AV} {as : List Int} {vs : List Value}, intsK k xs = some as → relL Γ xs vs → vs = as.map (Value.int k)
  | [], as, vs, h, hr => by
    simp only [relL] at hr; subst hr
    simp only [intsK, Option.some.injEq] at h; subst h; rfl
  | x :: xs, as, vs, h, hr => by
    simp only [relL] at hr
    obtain ⟨v, vs', rfl, h1, h2⟩ := hr
    unfold intsK at h
    split at h
    · rename_i heq; cases heq
    · rename_i k' a l heq
      cases heq
      split at h
      · rename_i hk; subst hk
        split at h
        · rename_i r hr
          cases h
          simp only [rel] at h1; subst h1
          rw [intsK_ok hr h2]; rfl
        · cases h
      · cases h
    · cases h
theorem eqArray_run {t elem : TypeId} {len : Nat} {xs ys : List AV} {vs us : List Value} {b : Bool} (d : Nat) (ht : P.underlying t = some (.array len elem)) (h : eqArray P len elem xs ys = some b) (hx : relL Γ xs vs) (hy : relL Γ ys us) :
    (Op.equalIn (d + 2) t (.agg ⟨vs⟩) (.agg ⟨us⟩)).run P w = .ok b w := by
  unfold eqArray at h
  split at h
  case h_2 => cases h
  rename_i k s hk hsz
  split at h
  case h_2 => cases h
  rename_i as bs ha hb
  cases hc : (Nat.beq s 1 && Nat.beq as.length len && Nat.beq bs.length len) with
  | false => rw [hc] at h; cases h
  | true =>
    rw [hc] at h; cases h
    simp only [Bool.and_eq_true] at hc
    obtain ⟨⟨c1, c2⟩, c3⟩ := hc
    have e1 := Nat.eq_of_beq_eq_true c1
    obtain ⟨i, hi, his⟩ := sizeA_info hsz
    rw [intsK_ok ha hx, intsK_ok hb hy]
    have hsub : ∀ (xs : List Int), relL Γ (xs.map (AV.int k)) (xs.map (Value.int k)) := fun xs => by
      induction xs with
      | nil => simp only [List.map_nil, relL]
      | cons x xs ih => simp only [List.map_cons, relL, rel]; exact ⟨_, _, rfl, rfl, ih⟩
    refine arr_eq d ht hk (by simp [Go.sizeOf, typeInfo, hi, his, e1]) (Nat.eq_of_beq_eq_true c2) (Nat.eq_of_beq_eq_true c3) fun zs i x hz => ?_
    obtain ⟨c, q1, q2⟩ := part_one (P := P) (Γ := Γ) hk rfl (hsub zs) (off := i) (a := .int k x) (by simp [hz]) w
    simp only [rel] at q2; subst q2
    exact q1
end Go.Proofs.YtijnlbpeckoofaaGreat
