/- A machine that runs closed calls: for this program. -/
import Derived.Test.YtijnlbpeckoofaaGreatEngHa
import Derived.Test.YtijnlbpeckoofaaGreatEngHg
set_option linter.unusedVariables false
set_option linter.unusedSimpArgs false
namespace Go.Proofs.YtijnlbpeckoofaaGreat
open Go.RowKit

def spaceTab : List Int := [0, 0, 0, 0, 0, 0, 0, 0, 0, 1, 1, 1, 1, 1, 0, 0, 0, 0, 0, 0, 0, 0, 0, 0, 0, 0, 0, 0, 0, 0, 0, 0, 1, 0, 0, 0, 0, 0, 0, 0, 0, 0, 0, 0, 0, 0, 0, 0, 0, 0, 0, 0, 0, 0, 0, 0, 0, 0, 0, 0, 0, 0, 0, 0, 0, 0, 0, 0, 0, 0, 0, 0, 0, 0, 0, 0, 0, 0, 0, 0, 0, 0, 0, 0, 0, 0, 0, 0, 0, 0, 0, 0, 0, 0, 0, 0, 0, 0, 0, 0, 0, 0, 0, 0, 0, 0, 0, 0, 0, 0, 0, 0, 0, 0, 0, 0, 0, 0, 0, 0, 0, 0, 0, 0, 0, 0, 0, 0, 0, 0, 0, 0, 0, 0, 0, 0, 0, 0, 0, 0, 0, 0, 0, 0, 0, 0, 0, 0, 0, 0, 0, 0, 0, 0, 0, 0, 0, 0, 0, 0, 0, 0, 0, 0, 0, 0, 0, 0, 0, 0, 0, 0, 0, 0, 0, 0, 0, 0, 0, 0, 0, 0, 0, 0, 0, 0, 0, 0, 0, 0, 0, 0, 0, 0, 0, 0, 0, 0, 0, 0, 0, 0, 0, 0, 0, 0, 0, 0, 0, 0, 0, 0, 0, 0, 0, 0, 0, 0, 0, 0, 0, 0, 0, 0, 0, 0, 0, 0, 0, 0, 0, 0, 0, 0, 0, 0, 0, 0, 0, 0, 0, 0, 0, 0, 0, 0, 0, 0, 0, 0, 0, 0, 0, 0, 0, 0]
noncomputable def hd0 : Hd := fun f =>
  bif Nat.beq f 159 then some hdSame else
  none
noncomputable def cf0 : Cf := ⟨Tryz.prog, hd0, 1000⟩
structure Ev (w : World) : Prop where
  any : True
theorem Ev.below {W w w' : World} (h0 : Ev W) (h : Ev w) (hb : Below W.heap.size w w') : Ev w' where
  any := trivial
theorem names_all : (Tryz.prog.funcs.toList.all fun fn => !(fn.name == "runtime.NumGoroutine")) = true := by kernel_rfl
theorem bif_hd {c : Bool} {α : Type} {x y : α} {z : α} (h : (bif c then x else y) = z) : (c = true ∧ x = z) ∨ (c = false ∧ y = z) := by
  cases c with
  | true => exact .inl ⟨rfl, h⟩
  | false => exact .inr ⟨rfl, h⟩
theorem named0 (f : FuncId) (fn : Func) (h : Tryz.prog.funcs[f]? = some fn) : (fn.name == "runtime.NumGoroutine") = false := by
  have h1 := List.all_eq_true.1 names_all fn (List.mem_of_getElem? (i := f) (by simpa using h))
  simpa using h1
theorem hd0_ok {cf : Cf} {base : Nat} (hP : cf.P = Tryz.prog) {f : FuncId} {h : List AV → Mem → Option (AV × Mem)} (hf : hd0 f = some h) : HdOk cf base Ev f h := by
  unfold hd0 at hf
  rcases bif_hd hf with ⟨e, hf⟩ | ⟨_, hf⟩
  · have := Nat.eq_of_beq_eq_true e; subst this; cases hf; exact hdSame_ok hP
  cases hf
/-- The machine is sound with whatever calls are known. -/
theorem sound_of {hd : Hd} (W : World) (he : Ev W) (h : ∀ f k, hd f = some k → HdOk ⟨Tryz.prog, hd, 1000⟩ W.heap.size Ev f k) : Sound ⟨Tryz.prog, hd, 1000⟩ W.heap.size Ev where
  named := named0
  mixed := by kernel_rfl
  env w w' hw hb := he.below hw hb
  hd := h
theorem sound0 (W : World) (he : Ev W) : Sound cf0 W.heap.size Ev := sound_of W he fun f k hf => hd0_ok rfl hf
noncomputable def G0 : PT AObj := .nil
theorem rep0 (W : World) (he : Ev W) : ∃ tot, Rep W.heap.size (tie0 1000 tot) G0 W := ⟨fun _ => 0, rep_nil W _⟩
end Go.Proofs.YtijnlbpeckoofaaGreat
