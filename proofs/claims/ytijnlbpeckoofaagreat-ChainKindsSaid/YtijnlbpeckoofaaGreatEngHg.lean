/- Calls that are known from before: closed calls with plain arguments and plain answers, one behind the other; a table below the calls. -/
import Derived.Test.YtijnlbpeckoofaaGreatEngKb
import Derived.Test.YtijnlbpeckoofaaGreatEngHd
import Derived.Lib.LaidTab
set_option linter.unusedVariables false
set_option linter.unusedSimpArgs false
namespace Go.Proofs.YtijnlbpeckoofaaGreat
open Go.RowKit
variable {cf : Cf} {base : Nat} {E : World → Prop} {Γ : Tie} {m : Mem} {w w' : World} {P : Program} {G : PT AObj}

/-! ### A table of the library's, read and not written -/
noncomputable def tabObj (elem : TypeId) (zs : List Int) : AObj := .cells zs.length (PT.fill .nil 0 (zs.map fun z => .int .u8 z)) elem false true
noncomputable def tabG (g : Nat) (elem : TypeId) (zs : List Int) : PT AObj := PT.nil.set g (some (tabObj elem zs))
theorem rep_tab {W : World} {g g0 : Nat} {e : TypeId} {zs : List Int} {fr : Nat × Nat} (hg0 : g < g0) (hw : W.heap[g]? = some (.cells (zs.map fun z => Value.int .u8 z).toArray e fr)) : Rep W.heap.size (tie0 g0 fun _ => zs.length) (tabG g e zs) W := by
  obtain ⟨cs, hcs⟩ : ∃ cs, cs = (zs.map fun z => Value.int .u8 z).toArray := ⟨_, rfl⟩
  rw [← hcs] at hw
  have hdom : ∀ b o, (tabG g e zs).get b = some o → b = g ∧ o = tabObj e zs := fun b o hb => by
    unfold tabG at hb
    rw [PT.get_set] at hb
    by_cases q : b = g
    · rw [if_pos q] at hb; cases hb; exact ⟨q, rfl⟩
    · rw [if_neg q, PT.get_nil] at hb; cases hb
  refine ⟨Nat.le_refl _, fun b o hb => ?_, fun b c o p i j hb hc _ _ _ => by rw [(hdom b o hb).1, (hdom c p hc).1]⟩
  obtain ⟨rfl, rfl⟩ := hdom b o hb
  refine ⟨⟨b, zs.length⟩, _, if_pos hg0, .inr rfl, hw, ?_⟩
  obtain ⟨lo, hi⟩ := fr
  refine ⟨cs, lo, hi, rfl, by rw [hcs]; simp, by rw [hcs]; simp, fun _ => by rw [hcs]; simp, fun j a hj ha => ?_, fun q => by cases q⟩
  rw [PT.get_fill, if_pos ⟨Nat.zero_le _, by simpa using hj⟩] at ha
  simp only [Nat.sub_zero, List.getElem?_map, Option.map_eq_some_iff] at ha
  obtain ⟨z, hz, rfl⟩ := ha
  exact ⟨.int .u8 z, by rw [hcs]; simp [hz], by simp only [rel]⟩

/-! ### Closed calls -/
noncomputable def isA (x : Option AV) (v : AV) : Bool := match x with
  | some a => beqA a v
  | none => false
theorem isA_eq {x : Option AV} {v : AV} (h : isA x v = true) : x = some v := by
  cases x with
  | none => cases h
  | some a => rw [beqA_eq h]
/-- A closed call with plain arguments that tells a plain answer. -/
theorem calls_of_eval (S : ∀ W, E W → Sound cf W.heap.size E) (R : ∀ W, E W → ∃ tot, Rep W.heap.size (tie0 cf.g0 tot) G W) {n : Nat} {f : FuncId} {args : List AV} {v : AV} {vs : List Value} {u : Value} (hf : cf.hd f = none) (h : isA (evalF cf G n f args) v = true) (ha : valL args = some vs) (hv : valA v = some u) :
    ∀ W, E W → Calls cf.P f ⟨vs⟩ W fun e W' => e = .returned u ∧ Below W.heap.size W W' := fun W hE => by
  obtain ⟨tot, hR⟩ := R W hE
  exact Calls.mono (start_fast (S W hE) hf (isA_eq h) ((valL_ok ha _ _).2 rfl) hR hE) fun e W' ⟨c, Γ', h1, h2, h3⟩ => ⟨by rw [h1, (valA_ok hv _ _).1 h2], h3⟩
noncomputable def hdMemos : List (List AV × AV) → List AV → Mem → Option (AV × Mem)
  | [], _, _ => none
  | p :: ps, args, m => bif beqL args p.1 then some (p.2, m) else hdMemos ps args m
def Known (P : Program) (E : World → Prop) (f : FuncId) (p : List AV × AV) : Prop := ∃ vs u, valL p.1 = some vs ∧ valA p.2 = some u ∧ ∀ W, E W → Calls P f ⟨vs⟩ W fun e W' => e = .returned u ∧ Below W.heap.size W W'
theorem known_of (S : ∀ W, E W → Sound cf W.heap.size E) (R : ∀ W, E W → ∃ tot, Rep W.heap.size (tie0 cf.g0 tot) G W) {n : Nat} {f : FuncId} {p : List AV × AV} (hf : cf.hd f = none) (h : isA (evalF cf G n f p.1) p.2 = true) (ha : (valL p.1).isSome = true) (hv : (valA p.2).isSome = true) : Known cf.P E f p := by
  obtain ⟨vs, h1⟩ := Option.isSome_iff_exists.1 ha
  obtain ⟨u, h2⟩ := Option.isSome_iff_exists.1 hv
  exact ⟨vs, u, h1, h2, calls_of_eval S R hf h h1 h2⟩
theorem memos_ok {f : FuncId} {fn : Func} {c : Code} (hf : cf.P.funcs[f]? = some fn) (hn : (fn.name == "runtime.NumGoroutine") = false) (hb : fn.body = some c) : ∀ {l : List (List AV × AV)}, (∀ p ∈ l, Known cf.P E f p) → HdOk cf base E f (hdMemos l)
  | [], _ => fun args m v m' h => by cases h
  | p :: ps, hl => fun args m v m' h => by
    unfold hdMemos at h
    cases e : beqL args p.1 with
    | true =>
      obtain ⟨vs, u, h1, h2, h3⟩ := hl p (List.mem_cons_self ..)
      exact memo_ok (base := base) rfl hf hn hb h1 h2 h3 args m v m' (by unfold hdMemo; rw [e] at h ⊢; exact h)
    | false =>
      rw [e] at h
      exact memos_ok hf hn hb (fun q hq => hl q (List.mem_cons_of_mem _ hq)) args m v m' h
noncomputable def hdOr (h k : List AV → Mem → Option (AV × Mem)) : List AV → Mem → Option (AV × Mem) := fun args m => match h args m with
  | some r => some r
  | none => k args m
theorem hdOr_ok {f : FuncId} {h k : List AV → Mem → Option (AV × Mem)} (h1 : HdOk cf base E f h) (h2 : HdOk cf base E f k) : HdOk cf base E f (hdOr h k) := fun args m v m' e => by
  unfold hdOr at e
  split at e
  · rename_i r hr; cases e; exact h1 args m v m' hr
  · exact h2 args m v m' e
theorem hdNo_ok {f : FuncId} : HdOk cf base E f (fun _ _ => none) := fun args m v m' e => by cases e
end Go.Proofs.YtijnlbpeckoofaaGreat
