/- A machine that runs closed calls: how its memory stands for the model's. -/
import Derived.Test.YtijnlbpeckoofaaGreatEngR
import Derived.WalkKit
import Derived.OrdersIn
import Derived.LoopNIn
import Derived.RangeFuncIn
set_option linter.unusedVariables false
set_option linter.unusedSimpArgs false
namespace Go.Proofs.YtijnlbpeckoofaaGreat
open Go.RowKit

def Keeps (Γ Γ' : Tie) : Prop := ∀ b i, Γ b = some i → Γ' b = some i
theorem Keeps.refl (Γ : Tie) : Keeps Γ Γ := fun _ _ h => h
theorem Keeps.trans {Γ Γ' Γ'' : Tie} (h : Keeps Γ Γ') (h' : Keeps Γ' Γ'') : Keeps Γ Γ'' := fun b i e => h' b i (h b i e)
theorem relFn.keep {Γ Γ' : Tie} (hk : Keeps Γ Γ') {f g : Fn} (h : relFn Γ f g) : relFn Γ' f g := by
  cases f with
  | yield l => obtain ⟨i, hi, e⟩ := h; exact ⟨i, hk _ _ hi, e⟩
  | _ => exact h
mutual
theorem rel.keep {Γ Γ' : Tie} (hk : Keeps Γ Γ') : ∀ {a : AV} {v : Value}, rel Γ a v → rel Γ' a v
  | .bool _, _, h | .int .., _, h | .str .., _, h | .nilptr, _, h | .nilslice, _, h | .nilmap, _, h | .nilFunc, _, h | .nilIface, _, h => by
    simpa only [rel] using h
  | .hollow b, v, h => by
    simp only [rel] at h ⊢
    obtain ⟨i, o, c, hi, e⟩ := h; exact ⟨i, o, c, hk _ _ hi, e⟩
  | .ptr b off, v, h => by
    simp only [rel] at h ⊢
    obtain ⟨i, hi, e⟩ := h; exact ⟨i, hk _ _ hi, e⟩
  | .slice .., v, h => by
    simp only [rel] at h ⊢
    obtain ⟨i, c, hi, e⟩ := h; exact ⟨i, c, hk _ _ hi, e⟩
  | .map b, v, h => by
    simp only [rel] at h ⊢
    obtain ⟨i, hi, e⟩ := h; exact ⟨i, hk _ _ hi, e⟩
  | .func fn f c, v, h => by
    simp only [rel] at h ⊢
    obtain ⟨fn', f', c', e, h1, h2, h3⟩ := h; exact ⟨fn', f', c', e, h1.keep hk, relL.keep hk h2, relL.keep hk h3⟩
  | .iface t a, v, h => by
    simp only [rel] at h ⊢
    obtain ⟨x, e, h1⟩ := h; exact ⟨x, e, rel.keep hk h1⟩
  | .agg l, v, h => by
    simp only [rel] at h ⊢
    obtain ⟨x, e, h1⟩ := h; exact ⟨x, e, relL.keep hk h1⟩
  | .tuple l, v, h => by
    simp only [rel] at h ⊢
    obtain ⟨x, e, h1⟩ := h; exact ⟨x, e, relL.keep hk h1⟩
theorem relL.keep {Γ Γ' : Tie} (hk : Keeps Γ Γ') : ∀ {l : List AV} {v : List Value}, relL Γ l v → relL Γ' l v
  | [], v, h => by simpa only [relL] using h
  | a :: as, v, h => by
    simp only [relL] at h ⊢
    obtain ⟨x, xs, e, h1, h2⟩ := h; exact ⟨x, xs, e, rel.keep hk h1, relL.keep hk h2⟩
end
theorem relL_iff {Γ : Tie} {l : List AV} {v : List Value} : relL Γ l v ↔ l.length = v.length ∧ ∀ (i : Nat) a, l[i]? = some a → ∃ x, v[i]? = some x ∧ rel Γ a x := by
  induction l generalizing v with
  | nil =>
    simp only [relL]
    constructor
    · rintro rfl; exact ⟨rfl, fun i a h => by simp at h⟩
    · rintro ⟨h, _⟩; exact List.eq_nil_of_length_eq_zero h.symm
  | cons a as ih =>
    simp only [relL]
    constructor
    · rintro ⟨x, xs, rfl, h1, h2⟩
      obtain ⟨h3, h4⟩ := ih.1 h2
      refine ⟨by simp [h3], fun i b hb => ?_⟩
      cases i with
      | zero => simp at hb; subst hb; exact ⟨x, by simp, h1⟩
      | succ i => simpa using h4 i b (by simpa using hb)
    · rintro ⟨h, h'⟩
      cases v with
      | nil => simp at h
      | cons x xs =>
        obtain ⟨y, hy, hr⟩ := h' 0 a rfl
        simp at hy; subst hy
        exact ⟨x, xs, rfl, hr, ih.2 ⟨by simpa using h, fun i b hb => by simpa using h' (i + 1) b (by simpa using hb)⟩⟩
theorem relL.length {Γ : Tie} {l : List AV} {v : List Value} (h : relL Γ l v) : l.length = v.length := (relL_iff.1 h).1
theorem relL.get {Γ : Tie} {l : List AV} {v : List Value} (h : relL Γ l v) {i : Nat} {a : AV} (ha : l[i]? = some a) : ∃ x, v[i]? = some x ∧ rel Γ a x := (relL_iff.1 h).2 i a ha
theorem relL.append {Γ : Tie} {l m : List AV} {v u : List Value} (h : relL Γ l v) (h' : relL Γ m u) : relL Γ (l ++ m) (v ++ u) := by
  induction l generalizing v with
  | nil => simp only [relL] at h; subst h; exact h'
  | cons a as ih => simp only [relL] at h; obtain ⟨x, xs, rfl, h1, h2⟩ := h; simp only [List.cons_append, relL]; exact ⟨x, _, rfl, h1, ih h2⟩
theorem relL.take {Γ : Tie} {l : List AV} {v : List Value} (h : relL Γ l v) (n : Nat) : relL Γ (l.take n) (v.take n) := by
  refine relL_iff.2 ⟨by simp [h.length], fun i a ha => ?_⟩
  rw [List.getElem?_take] at ha ⊢
  split at ha
  · rw [if_pos (by assumption)]; exact h.get ha
  · simp at ha
theorem relL.drop {Γ : Tie} {l : List AV} {v : List Value} (h : relL Γ l v) (n : Nat) : relL Γ (l.drop n) (v.drop n) := by
  refine relL_iff.2 ⟨by simp [h.length], fun i a ha => ?_⟩
  rw [List.getElem?_drop] at ha ⊢
  exact h.get ha
theorem relL.set {Γ : Tie} {l : List AV} {v : List Value} (h : relL Γ l v) (n : Nat) {a : AV} {x : Value} (ha : rel Γ a x) : relL Γ (l.set n a) (v.set n x) := by
  refine relL_iff.2 ⟨by simp [h.length], fun i b hb => ?_⟩
  rw [List.getElem?_set] at hb ⊢
  have hl := h.length
  split at hb
  · rename_i e
    subst e
    rw [if_pos rfl]
    split at hb
    · rename_i hlt; rw [if_pos (by omega)]; simp at hb; subst hb; exact ⟨x, rfl, ha⟩
    · simp at hb
  · rename_i e; rw [if_neg e]; exact h.get hb
theorem rel.cells {Γ : Tie} {a : AV} {v : Value} (h : rel Γ a v) : relL Γ a.cells v.cells.toList := by
  cases a <;> simp only [rel] at h
  case agg l => obtain ⟨x, rfl, h1⟩ := h; exact h1
  case slice => obtain ⟨i, c, h1, rfl, _⟩ := h; simp only [AV.cells, Value.cells, relL]; exact ⟨_, _, rfl, by simp only [rel]; exact ⟨i, c, h1, rfl, by assumption⟩, rfl⟩
  case hollow => obtain ⟨i, o, c, h1, rfl⟩ := h; simp only [AV.cells, Value.cells, relL]; exact ⟨_, _, rfl, by simp only [rel]; exact ⟨i, o, c, h1, rfl⟩, rfl⟩
  case ptr => obtain ⟨i, h1, rfl⟩ := h; simp only [AV.cells, Value.cells, relL]; exact ⟨_, _, rfl, by simp only [rel]; exact ⟨i, h1, rfl⟩, rfl⟩
  case map => obtain ⟨i, h1, rfl⟩ := h; simp only [AV.cells, Value.cells, relL]; exact ⟨_, _, rfl, by simp only [rel]; exact ⟨i, h1, rfl⟩, rfl⟩
  case str => obtain ⟨rfl, h1⟩ := h; simp only [AV.cells, Value.cells, relL]; exact ⟨_, _, rfl, by simp only [rel]; exact ⟨trivial, h1⟩, rfl⟩
  case func => obtain ⟨fn, f, c, rfl, h1⟩ := h; simp only [AV.cells, Value.cells, relL]; exact ⟨_, _, rfl, by simp only [rel]; exact ⟨_, _, _, rfl, h1⟩, rfl⟩
  case iface => obtain ⟨x, rfl, h1⟩ := h; simp only [AV.cells, Value.cells, relL]; exact ⟨_, _, rfl, by simp only [rel]; exact ⟨_, rfl, h1⟩, rfl⟩
  case tuple => obtain ⟨x, rfl, h1⟩ := h; simp only [AV.cells, Value.cells, relL]; exact ⟨_, _, rfl, by simp only [rel]; exact ⟨_, rfl, h1⟩, rfl⟩
  all_goals (subst h; simp only [AV.cells, Value.cells, relL]; exact ⟨_, _, rfl, by simp only [rel], rfl⟩)
mutual
theorem rel_of {Γ : Tie} : ∀ {v : Value} {a : AV}, AV.of v = some a → rel Γ a v
  | .bool b, a, h | .int k n, a, h | .pointer none, a, h | .map none, a, h | .nilFunc, a, h | .nilIface, a, h => by
    simp only [AV.of, Option.some.injEq] at h; subst h; simp only [rel]
  | .string s, a, h => by
    simp only [AV.of, Option.some.injEq] at h; subst h; simp only [rel, strOf, dec_enc]; exact ⟨trivial, enc_lt _⟩
  | .slice none n m, a, h => by
    simp only [AV.of] at h
    cases e : (Nat.beq n 0 && Nat.beq m 0) with
    | false => rw [e] at h; simp at h
    | true =>
      rw [e] at h
      simp only [cond_true, Option.some.injEq] at h; subst h
      simp only [Bool.and_eq_true] at e
      rw [Nat.eq_of_beq_eq_true e.1, Nat.eq_of_beq_eq_true e.2]
      simp only [rel]
  | .agg ⟨l⟩, a, h => by
    simp only [AV.of] at h
    cases e : AV.ofL l with
    | none => rw [e] at h; simp at h
    | some l' => rw [e] at h; simp only [Option.some.injEq] at h; subst h; simp only [rel]; exact ⟨l, rfl, relL_of e⟩
  | .tuple ⟨l⟩, a, h => by
    simp only [AV.of] at h
    cases e : AV.ofL l with
    | none => rw [e] at h; simp at h
    | some l' => rw [e] at h; simp only [Option.some.injEq] at h; subst h; simp only [rel]; exact ⟨l, rfl, relL_of e⟩
  | .float .., a, h | .complex .., a, h | .pointer (some _), a, h | .slice (some _) _ _, a, h | .map (some _), a, h | .chan _, a, h | .func .., a, h | .iface .., a, h => by
    simp only [AV.of] at h; exact absurd h (by simp)
theorem relL_of {Γ : Tie} : ∀ {l : List Value} {l' : List AV}, AV.ofL l = some l' → relL Γ l' l
  | [], l', h => by simp only [AV.ofL, Option.some.injEq] at h; subst h; simp only [relL]
  | v :: vs, l', h => by
    simp only [AV.ofL] at h
    cases e : AV.of v with
    | none => rw [e] at h; simp at h
    | some a =>
      rw [e] at h
      cases e2 : AV.ofL vs with
      | none => rw [e2] at h; simp at h
      | some as => rw [e2] at h; simp only [Option.some.injEq] at h; subst h; simp only [relL]; exact ⟨v, vs, rfl, rel_of e, relL_of e2⟩
end
end Go.Proofs.YtijnlbpeckoofaaGreat
