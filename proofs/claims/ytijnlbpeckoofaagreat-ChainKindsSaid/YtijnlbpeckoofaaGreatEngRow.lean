/- What the rows of this seat share: what the library's variables hold, a world for the witness, what is left behind the call. -/
import Derived.Test.YtijnlbpeckoofaaGreatEngHc
import Derived.Test.YtijnlbpeckoofaaGreatRows
import Derived.WalkKit
import Derived.ProofKit
import Derived.OpenShut
import Derived.Deep.DeepHandedRow
import Derived.Lib.LaidTab
set_option linter.unusedVariables false
namespace Go.Proofs.YtijnlbpeckoofaaGreat
open Go.ChangeShapes Go.WideShapes Go.ChangeAt Go.RowKit

theorem own : ownKnob Tryz.prog.godebug = none := by kernel_rfl
theorem ev_of {w : World} (h : w.ShapedOpen Tryz.prog) : Ev w where
  any := trivial

def flatW : Nat → DataW Unit → List Value
  | n + 1, .agg l => l.flatMap (flatW n)
  | _ + 1, .lit (.int k x) => [.int k x]
  | _, _ => []
def put (cs : Array Value) : Obj → Obj
  | .cells _ t frozen => .cells cs t frozen
  | o => o
abbrev synS : ByteArray := ⟨#[105, 110, 118, 97, 108, 105, 100, 32, 115, 121, 110, 116, 97, 120]⟩
abbrev rngS : ByteArray := ⟨#[118, 97, 108, 117, 101, 32, 111, 117, 116, 32, 111, 102, 32, 114, 97, 110, 103, 101]⟩
noncomputable def low : Nat := (World.holding Tryz.prog default ⟨#[], #[], []⟩).heap.size
noncomputable def errBlocks : Array Obj := #[]
def wsRows : DataW Unit → List Value
  | .ptr (.agg (.slice l _ :: _)) => l.flatMap (flatW 3)
  | _ => []
noncomputable def wsBlocks : Array Obj := #[]
noncomputable def laidWorld (os : Os) : World :=
  let w0 := World.holding Tryz.prog os ⟨errBlocks ++ wsBlocks, #[], []⟩
  let h := w0.heap
  { w0 with heap := h }

/-! What is laid: the places are apart, told by a map of the machine's. -/
noncomputable def keyM : MemPlace → Nat
  | .cell b off => Nat.add (Nat.mul b 512) off
  | _ => 0
noncomputable def freshAll (l : List Nat) : PT Unit → Bool := @List.rec Nat (fun _ => PT Unit → Bool) (fun _ => true) (fun k _ ih t => @Option.rec Unit (fun _ => Bool) (ih (t.set k (some ()))) (fun _ => false) (t.get k)) l
theorem freshAll_ok : ∀ {l : List Nat} {t : PT Unit}, freshAll l t = true → l.Nodup ∧ ∀ k ∈ l, t.get k = none
  | [], t, _ => ⟨List.nodup_nil, fun _ h => by cases h⟩
  | k :: l, t, h => by
    have h' : @Option.rec Unit (fun _ => Bool) (freshAll l (t.set k (some ()))) (fun _ => false) (t.get k) = true := h
    cases e : t.get k with
    | some u => rw [e] at h'; cases h'
    | none =>
      rw [e] at h'
      obtain ⟨h1, h2⟩ := freshAll_ok (show freshAll l (t.set k (some ())) = true from h')
      refine ⟨List.nodup_cons.2 ⟨fun hk => ?_, h1⟩, fun j hj => ?_⟩
      · have := h2 k hk
        rw [PT.get_set, if_pos rfl] at this
        cases this
      · rcases List.mem_cons.1 hj with rfl | hj
        · exact e
        · have := h2 j hj
          rw [PT.get_set] at this
          by_cases q : j = k
          · rw [if_pos q] at this; cases this
          · rw [if_neg q] at this; exact this
theorem laidMet_fast {P : Program} {w : World} {l : List (String × DataW Unit)} (fuel : Nat) (h : (DataW.laidRun P w fuel (l.map (·.1))).map (·.1) = some l)
    (hr : (DataW.laidRun P w fuel (l.map (·.1))).map (fun x => freshAll (x.2.map keyM) .nil) = some true) (hr2 : (DataW.laidRun P w fuel (l.map (·.1))).map (fun x => laidRowsB P w x.2) = some true) : laidMet P l w := by
  cases hx : DataW.laidRun P w fuel (l.map (·.1)) with
  | none => simp [hx] at h
  | some x =>
    obtain ⟨l', ps⟩ := x
    simp only [hx, Option.map_some, Option.some.injEq] at h hr hr2
    subst h
    have hn : ps.Nodup := by
      have := (freshAll_ok hr).1
      exact (List.pairwise_map.1 this).imp fun h e => h (by rw [e])
    exact laidMet_of_run fuel hx (decide_eq_true hn) hr2

variable {H : Type} {enc : TypeId × Value → H} {P : Program}
theorem post_left {f : Func} {s : ChangeSpec} {apart fresh handsOn : Bool} {W W' : World} {args : Array Value} {v : Value} {ds gs : List (DataW H)} {before pa pv : List MemPlace}
    (hW : DataW.Whole enc P f.params.toList s.vars apart W args.toList ds gs before)
    (hres : ∀ (b : Nat) (sp : Nat → Bool) (hd : Bool), DataW.TrodAll enc P W' b sp hd f.resultTypes.toList (v.resultList f.resultTypes.size) (s.fn H (ds ++ gs)).results [])
    (hargs : ∀ sp : Nat → Bool, (∀ p ∈ before, sp p.block = true) → DataW.TrodAll enc P W' 0 sp true f.params.toList args.toList (s.fn H (ds ++ gs)).args pa)
    (hvars : ∀ sp : Nat → Bool, (∀ p ∈ before, sp p.block = true) → DataW.TrodVars enc P W' sp s.vars (s.fn H (ds ++ gs)).vars pv)
    (hps : before = pa ++ pv) (hk : W.keptBut W' (· ∈ before)) : s.post enc P f apart fresh handsOn false W args v W' := by
  have hold : ∀ p ∈ before, (fun b => decide (b < W.heap.size)) p.block = true := fun p hp => by simpa using hW.lt p hp
  refine ⟨ds, gs, before, [], pa, pv, hW, hres _ _ _, hargs _ hold, hvars _ hold, World.keptBut_mono (fun p hp => ⟨hp, ?_⟩) hk, fun h => by cases h⟩
  rw [hps, List.mem_append] at hp
  exact Or.inr hp
end Go.Proofs.YtijnlbpeckoofaaGreat
