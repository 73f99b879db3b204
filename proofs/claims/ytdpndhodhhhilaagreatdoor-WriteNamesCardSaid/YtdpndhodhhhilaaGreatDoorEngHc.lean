/- A machine that runs closed calls: for this program. -/
import Derived.Test.YtdpndhodhhhilaaGreatDoorEngHb
import Derived.Test.YtdpndhodhhhilaaGreatDoorEngKb
set_option linter.unusedVariables false
set_option linter.unusedSimpArgs false
namespace Go.Proofs.YtdpndhodhhhilaaGreatDoor
open Go.RowKit

noncomputable def hd0 : Hd := fun f =>
  bif Nat.beq f 321 then some hdByte
  else bif Nat.beq f 287 then some hdSame
  else bif Nat.beq f 140 then some hdIndex
  else bif Nat.beq f 224 then some hdCmp
  else none
noncomputable def cf0 : Cf := ⟨Tryz.prog, hd0, 1000⟩
def Ev (w : World) : Prop := ∃ m, w.cell? ⟨0, 0, none⟩ = some (.int .i64 m)
theorem names_all : (Tryz.prog.funcs.toList.all fun fn => !(fn.name == "runtime.NumGoroutine")) = true := by kernel_rfl
theorem bif_hd {c : Bool} {α : Type} {x y : α} {z : α} (h : (bif c then x else y) = z) : (c = true ∧ x = z) ∨ (c = false ∧ y = z) := by
  cases c with
  | true => exact .inl ⟨rfl, h⟩
  | false => exact .inr ⟨rfl, h⟩
theorem sound0 (W : World) (he : Ev W) : Sound cf0 W.heap.size Ev where
  named f fn h := by
    have h' : Tryz.prog.funcs[f]? = some fn := h
    have h1 := List.all_eq_true.1 names_all fn (List.mem_of_getElem? (i := f) (by simpa using h'))
    simpa using h1
  mixed := by kernel_rfl
  env w w' hw hb := by
    obtain ⟨m0, h0⟩ := he
    obtain ⟨m, hm⟩ := hw
    have hlt := World.block_lt_of_cell? W _ h0
    exact ⟨m, by rw [← hm]; exact hb.cell hlt⟩
  hd f h hf := by
    have hf' : hd0 f = some h := hf
    unfold hd0 at hf'
    rcases bif_hd hf' with ⟨e, hf'⟩ | ⟨_, hf'⟩
    · have := Nat.eq_of_beq_eq_true e; subst this; cases hf'; exact hdByte_ok rfl
    rcases bif_hd hf' with ⟨e, hf'⟩ | ⟨_, hf'⟩
    · have := Nat.eq_of_beq_eq_true e; subst this; cases hf'; exact hdSame_ok rfl
    rcases bif_hd hf' with ⟨e, hf'⟩ | ⟨_, hf'⟩
    · have := Nat.eq_of_beq_eq_true e; subst this; cases hf'; exact hdIndex_ok rfl fun w hw => hw
    rcases bif_hd hf' with ⟨e, hf'⟩ | ⟨_, hf'⟩
    · have := Nat.eq_of_beq_eq_true e; subst this; cases hf'; exact hdCmp_ok rfl
    · cases hf'
noncomputable def yesA : Option AV → Bool
  | some (.bool b) => b
  | _ => false
theorem yesA_eq {x : Option AV} (h : yesA x = true) : x = some (.bool true) := by
  unfold yesA at h
  split at h
  · subst h; rfl
  · cases h
end Go.Proofs.YtdpndhodhhhilaaGreatDoor
