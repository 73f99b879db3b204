/- What the rows of this seat share: what the library's variables hold, a world for the witness, what is left behind the call. -/
import Derived.Test.YtdpndhodhhhilaaGreatDoorEngHc
import Derived.Test.YtdpndhodhhhilaaGreatDoorRows
import Derived.WalkKit
import Derived.ProofKit
import Derived.OpenShut
import Derived.Deep.DeepHandedRow
import Derived.Lib.LaidTab
set_option linter.unusedVariables false
namespace Go.Proofs.YtdpndhodhhhilaaGreatDoor
open Go.ChangeShapes Go.WideShapes Go.ChangeAt Go.RowKit

theorem own : ownKnob Tryz.prog.godebug = none := by kernel_rfl
theorem ev_of {w : World} (h : w.ShapedOpen Tryz.prog) : Ev w :=
  Go.Proofs.cell_of_shapedOpen_int (zero := #[.int .i64 0]) (t := 3) h (of_decide_eq_true (by kernel_rfl)) (by kernel_rfl) rfl (by kernel_rfl) (by kernel_rfl) Tryz.underlying3

def flatW : Nat → DataW Unit → List Value
  | n + 1, .agg l => l.flatMap (flatW n)
  | _ + 1, .lit (.int k x) => [.int k x]
  | _, _ => []
def put (cs : Array Value) : Obj → Obj
  | .cells _ t frozen => .cells cs t frozen
  | o => o
noncomputable def laidWorld (os : Os) : World :=
  let w0 := World.holding Tryz.prog os ⟨#[], #[], []⟩
  let h3 := w0.heap.modify 4 (put (flatW 3 Rows.laid_unicode_utf8_first).toArray)
  let h4 := h3.modify 5 (put (flatW 3 Rows.laid_unicode_utf8_acceptRanges).toArray)
  let h5 := h4.modify 1 (put (flatW 3 Rows.laid_internal_strconv_uint64pow10).toArray)
  let h6 := h5.modify 2 (put (flatW 3 Rows.laid_math_bits_deBruijn32tab).toArray)
  let h7 := h6.modify 3 (put (flatW 3 Rows.laid_math_bits_deBruijn64tab).toArray)
  { w0 with heap := h7 }

variable {H : Type} {enc : TypeId × Value → H} {P : Program}
theorem post_left {f : Func} {s : ChangeSpec} {apart fresh handsOn : Bool} {W W' : World} {args : Array Value} {v : Value} {ds gs : List (DataW H)} {before pa pv : List MemPlace}
    (hW : DataW.Whole enc P f.params.toList s.vars apart W args.toList ds gs before)
    (hres : ∀ (b : Nat) (sp : Nat → Bool) (hd : Bool), DataW.TrodAll enc P W' b sp hd f.resultTypes.toList (v.resultList f.resultTypes.size) (s.fn H (ds ++ gs)).results [])
    (hargs : ∀ sp : Nat → Bool, (∀ p ∈ before, sp p.block = true) → DataW.TrodAll enc P W' 0 sp true f.params.toList args.toList (s.fn H (ds ++ gs)).args pa)
    (hvars : ∀ sp : Nat → Bool, (∀ p ∈ before, sp p.block = true) → DataW.TrodVars enc P W' sp s.vars (s.fn H (ds ++ gs)).vars pv)
    (hps : before = pa ++ pv) (hk : W.keptBut W' (· ∈ before)) : s.post enc P f apart fresh handsOn false W args v W' := by
  have hold : ∀ p ∈ before, (fun b => decide (b < W.heap.size)) p.block = true := fun p hp => by simpa using hW.lt p hp
  refine ⟨ds, gs, before, [], pa, pv, hW, hres _ _ _, hargs _ hold, hvars _ hold, World.keptBut_mono (fun p hp => ⟨hp, ?_⟩) hk, fun h => by cases h⟩
  rw [hps, List.mem_append] at hp
  exact Or.inr hp
end Go.Proofs.YtdpndhodhhhilaaGreatDoor
