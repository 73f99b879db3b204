/- A machine that runs closed calls: calls. -/
import Derived.Test.YtijnlbpeckoofaaGreatEngK
import Derived.RangeFuncRecord
import Derived.Conc.MuLone
import Derived.Laws.Externs
set_option linter.unusedVariables false
set_option linter.unusedSimpArgs false
namespace Go.Proofs.YtijnlbpeckoofaaGreat
open Go.RowKit

/-! ### Numbers only grow -/
theorem Mem.push_le (m : Mem) (o : AObj) : m.next ≤ (m.push o).next := Nat.le_succ _
theorem bif_none {α : Type} {c : Bool} {x : Option α} {y : α} (h : (bif c then x else none) = some y) : c = true ∧ x = some y := by
  cases c with
  | true => exact ⟨rfl, h⟩
  | false => cases h
theorem bif_some {α : Type} {c : Bool} {x : Option α} {y : α} (h : (bif c then none else x) = some y) : c = false ∧ x = some y := by
  cases c with
  | false => exact ⟨rfl, h⟩
  | true => cases h
theorem bif_or {α : Type} {c : Bool} {x x' : Option α} {y : α} (h : (bif c then x else x') = some y) : x = some y ∨ x' = some y := by
  cases c with
  | false => exact .inr h
  | true => exact .inl h
theorem updateA_le {P : Program} {m m' : Mem} {t : TypeId} {x k v : AV} (h : updateA P m t x k v = some m') : m.next ≤ m'.next := by
  unfold updateA at h
  split at h
  case h_2 => cases h
  split at h
  case h_2 => cases h
  obtain ⟨_, h⟩ := bif_none h
  split at h
  case h_2 => cases h
  split at h
  case h_2 => cases h
  split at h
  · split at h
    case h_2 => cases h
    obtain ⟨_, h⟩ := bif_none h
    cases h; exact Nat.le_refl _
  · cases h; exact Nat.le_refl _
  · cases h
theorem storeA_le {P : Program} {m m' : Mem} {t : TypeId} {b off : Nat} {v : AV} (h : storeA P m t b off v = some m') : m.next ≤ m'.next := by
  unfold storeA at h
  split at h
  case h_2 => cases h
  split at h
  case h_2 => cases h
  obtain ⟨_, h⟩ := bif_none h
  cases h; exact Nat.le_refl _
theorem appendA_le {P : Program} {m m' : Mem} {st xt : TypeId} {s x v : AV} (h : appendA P m st xt s x = some (v, m')) : m.next ≤ m'.next := by
  unfold appendA at h
  split at h
  case h_2 => cases h
  split at h
  case h_2 => cases h
  obtain ⟨_, h⟩ := bif_none h
  split at h
  · rcases bif_or h with h | h
    · cases h; exact Nat.le_refl _
    · obtain ⟨_, h⟩ := bif_none h
      cases h; exact Nat.le_succ _
  · rcases bif_or h with h | h
    · split at h
      case h_2 => cases h
      obtain ⟨_, h⟩ := bif_none h
      cases h; exact Nat.le_refl _
    · obtain ⟨_, h⟩ := bif_none h
      split at h
      case h_2 => cases h
      obtain ⟨_, h⟩ := bif_none h
      split at h
      case h_2 => cases h
      rcases bif_or h with h | h
      · cases h; exact Nat.le_succ _
      · obtain ⟨_, h⟩ := bif_none h
        cases h; exact Nat.le_succ _
  · cases h
theorem efString_le {P : Program} {m m' : Mem} {ev : Operand → Option AV} {args : Array Operand} {ts : Array TypeId} {v : AV} (h : efString P m ev args ts = some (v, m')) : m.next ≤ m'.next := by
  unfold efString at h
  split at h
  · cases h; exact Nat.le_refl _
  · rcases bif_or h with h | h
    · cases h; exact Nat.le_refl _
    · split at h
      case h_2 => cases h
      obtain ⟨_, h⟩ := bif_none h
      split at h
      case h_2 => cases h
      split at h
      case h_2 => cases h
      cases h; exact Nat.le_refl _
  · cases h
theorem efCopy_le {P : Program} {m m' : Mem} {ev : Operand → Option AV} {args : Array Operand} {ts : Array TypeId} {v : AV} (h : efCopy P m ev args ts = some (v, m')) : m.next ≤ m'.next := by
  unfold efCopy at h
  split at h
  case h_2 => cases h
  split at h
  case h_2 => cases h
  split at h
  case h_2 => cases h
  obtain ⟨_, h⟩ := bif_none h
  cases h; exact Nat.le_refl _
theorem efNext_le {P : Program} {m m' : Mem} {ev : Operand → Option AV} {it : Operand} {v : AV} (h : efNext P m ev it = some (v, m')) : m.next ≤ m'.next := by
  unfold efNext at h
  split at h
  case h_2 => cases h
  split at h
  · cases h; exact Nat.le_refl _
  · split at h
    case h_2 => cases h
    obtain ⟨_, h⟩ := bif_some h
    split at h
    · cases h; exact Nat.le_refl _
    · cases h; exact Nat.le_refl _
    · cases h
  · cases h
theorem efUpdate_le {P : Program} {m m' : Mem} {ev : Operand → Option AV} {t : TypeId} {x k u : Operand} {v : AV} (h : efUpdate P m ev t x k u = some (v, m')) : m.next ≤ m'.next := by
  unfold efUpdate at h
  split at h
  case h_2 => cases h
  split at h
  case h_2 => cases h
  rename_i hu
  cases h; exact updateA_le hu
theorem effA_le {P : Program} {m m' : Mem} {ev : Operand → Option AV} {o : Op} {v : AV} (h : effA P m ev o = some (v, m')) : m.next ≤ m'.next := by
  unfold effA at h
  split at h
  · unfold efStore at h
    split at h
    case h_2 => cases h
    split at h
    case h_2 => cases h
    rename_i hs
    cases h; exact storeA_le hs
  · exact efUpdate_le h
  · exact efUpdate_le h
  · unfold efRange at h
    split at h
    · cases h; exact Nat.le_succ _
    · split at h
      case h_2 => cases h
      cases h; exact Nat.le_succ _
    · cases h
  · exact efNext_le h
  · unfold efCall at h
    split at h
    · unfold efAppend at h
      split at h
      case h_2 => cases h
      exact appendA_le h
    · exact efString_le h
    · exact efCopy_le h
    · cases h
  · cases h
/-- Handlers, and what a run comes to, only add numbers. -/
def HdLe (cf : Cf) : Prop := ∀ f h, cf.hd f = some h → ∀ args m v m', h args m = some (v, m') → m.next ≤ m'.next
def RecLe (rec : Rec) : Prop := ∀ ro N c fr m x fr' m', rec ro N c fr m = some (x, fr', m') → m.next ≤ m'.next
variable {cf : Cf} {rec : Rec}
theorem shutDefs_le : ∀ {ds : List Nat} {m m' : Mem}, shutDefs ds m = some m' → m.next = m'.next
  | [], m, m', h => by simp only [shutDefs, Option.some.injEq] at h; rw [h]
  | d :: ds, m, m', h => by
    simp only [shutDefs] at h
    split at h
    · exact shutDefs_le (m := m.put d (.deferred false)) h
    · cases h
theorem bodyA_le (hr : RecLe rec) {f : FuncId} {args : List AV} {m m' : Mem} {v : AV} (h : bodyA cf rec f args m = some (v, m')) : m.next ≤ m'.next := by
  unfold bodyA at h
  split at h
  case h_2 => cases h
  split at h
  case h_2 => cases h
  have go : ∀ {fr : Fr} {m1 : Mem} {rs}, m.next ≤ m1.next → (match shutDefs fr.defs m1 with
      | some m => match resultsA cf.P m fr.tm rs with
        | some rs => some (resultA rs, m)
        | none => none
      | none => none) = some (v, m') → m.next ≤ m'.next := by
    intro fr m1 rs hl h
    split at h
    case h_2 => cases h
    rename_i hs
    split at h
    case h_2 => cases h
    cases h
    rw [← shutDefs_le hs]; exact hl
  split at h
  · rename_i hx; exact go (hr _ _ _ _ _ _ _ _ hx) h
  · rename_i hx; exact go (hr _ _ _ _ _ _ _ _ hx) h
  · cases h
theorem callA_le (hh : HdLe cf) (hr : RecLe rec) {f : FuncId} {args : List AV} {m m' : Mem} {v : AV} (h : callA cf rec f args m = some (v, m')) : m.next ≤ m'.next := by
  unfold callA at h
  split at h
  · rename_i hd; exact hh _ _ hd _ _ _ _ h
  · exact bodyA_le hr h
theorem yieldA_le (hr : RecLe rec) {l : Nat} {args : List AV} {m m' : Mem} {v : AV} (h : yieldA rec l args m = some (v, m')) : m.next ≤ m'.next := by
  unfold yieldA at h
  split at h
  case h_2 => cases h
  obtain ⟨_, h⟩ := bif_none h
  split at h
  case h_2 => cases h
  rename_i h1
  split at h
  case h_2 => cases h
  split at h
  case h_2 => cases h
  rename_i h2
  split at h
  case h_2 => cases h
  split at h
  case h_2 => cases h
  cases h
  have a1 := hr _ _ _ _ _ _ _ _ h1
  have a2 := hr _ _ _ _ _ _ _ _ h2
  exact Nat.le_trans a1 a2
theorem goalRun_le (hh : HdLe cf) (hr : RecLe rec) {g : Goal} {m m' : Mem} {v : AV} (h : goalRun cf rec m g = some (v, m')) : m.next ≤ m'.next := by
  cases g with
  | fn f args => exact callA_le hh hr h
  | yield l args => exact yieldA_le hr h
theorem opA_le (hh : HdLe cf) (hr : RecLe rec) {ev : Operand → Option AV} {o : Op} {m m' : Mem} {v : AV} (h : opA cf rec ev o m = some (v, m')) : m.next ≤ m'.next := by
  unfold opA at h
  split at h
  · cases h; exact Nat.le_refl _
  split at h
  · cases h; exact Nat.le_succ _
  split at h
  · rename_i he; cases h; exact effA_le he
  split at h
  case h_2 => cases h
  split at h
  case h_2 => cases h
  exact goalRun_le hh hr h
theorem seqA_le (hh : HdLe cf) (hr : RecLe rec) {ops : Array Oper} {N : Nat} : ∀ {l : List Oper} {tm tm' : PT AV} {m m' : Mem}, seqA cf rec ops N l tm m = some (tm', m') → m.next ≤ m'.next
  | [], tm, tm', m, m', h => by simp only [seqA, Option.some.injEq, Prod.mk.injEq] at h; rw [h.2]; exact Nat.le_refl _
  | o :: l, tm, tm', m, m', h => by
    simp only [seqA] at h
    obtain ⟨_, h⟩ := bif_none h
    split at h
    · split at h
      case h_2 => cases h
      rename_i ho
      exact Nat.le_trans (opA_le hh hr ho) (seqA_le hh hr h)
    · exact seqA_le hh hr h
    · cases h
end Go.Proofs.YtijnlbpeckoofaaGreat
