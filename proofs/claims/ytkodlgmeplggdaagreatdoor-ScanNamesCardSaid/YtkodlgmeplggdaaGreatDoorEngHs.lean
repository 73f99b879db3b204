/- Calls that are known from before: slices.Sorted(maps.Keys(m)) at this program, keys of the kind int. -/
import Derived.Test.YtkodlgmeplggdaaGreatDoorEngHe
import Derived.Test.YtkodlgmeplggdaaGreatDoorEngHc
import Derived.Test.YtkodlgmeplggdaaGreatDoorIter
import Derived.Shelf.SlIterI.Sorted
set_option linter.unusedVariables false
namespace Go.Proofs.YtkodlgmeplggdaaGreatDoor
open Go.RowKit Go.Maps Go.Sort Go.Shelf Go.Proofs

theorem sortsA (m : Nat) : AnyZI.SortsIn Tryz.prog Tryz.sortedA_ren Fence.wide m :=
  ⟨fun blk off cap ss W hH hblk hsz => callsIn_wide.2 (AnyM.slices_Sort_int Tryz.sortA blk off cap ss W hH hblk hsz),
   fun p cap W => callsIn_wide.2 (AnyM.slices_Sort_int_none Tryz.sortA p cap W)⟩
theorem sortKeys_any : SortKeysI Tryz.prog 37 81 3 := fun Bm b nn D0 w hBm hm hown hsz => by
  have hseq : SeqGives Fence.wide 2 Tryz.prog 81 #[.pointer (some ⟨Bm, 0, none⟩)] encZ (fun ss => ss.Perm (intKeys D0)) (Maps.size D0) w :=
    AnyZI.keys_gives (ρ := Tryz.keysA_ren) { Tryz.keysA with } Fence.wide _ trivial rfl (by omega) Bm b nn D0 w hBm hm hown
  have cS := AnyZI.sorted_in Tryz.sortedA Fence.wide 5 trivial trivial trivial trivial rfl (by omega) (sortsA _) (enters_of Tryz.func80 (by kernel_rfl) rfl) 81 #[.pointer (some ⟨Bm, 0, none⟩)] trivial (enters_of Tryz.func81 (by kernel_rfl) rfl) _ _ (by unfold maxLen; omega) (by omega) w hseq
  exact callsIn_wide.1 cS
noncomputable def hd1 : Hd := fun f => bif Nat.beq f 37 then some (hdSortI 81 3) else hd0 f
noncomputable def cf1 : Cf := ⟨Tryz.prog, hd1, 1000⟩
theorem hd1_ok {cf : Cf} {base : Nat} (hP : cf.P = Tryz.prog) {f : FuncId} {h : List AV → Mem → Option (AV × Mem)} (hf : hd1 f = some h) : HdOk cf base Ev f h := by
  unfold hd1 at hf
  rcases bif_hd hf with ⟨e, hf⟩ | ⟨_, hf⟩
  · have := Nat.eq_of_beq_eq_true e; subst this; cases hf
    refine hdSortI_ok (fn := Tryz.f37) ?_ ?_ (by kernel_rfl) rfl ?_
    · rw [hP]; exact Tryz.underlying3
    · rw [hP]; exact Tryz.func37
    · rw [hP]; exact sortKeys_any
  · exact hd0_ok hP hf
theorem sound1 (W : World) (he : Ev W) : Sound cf1 W.heap.size Ev := sound_of W he fun f k hf => hd1_ok rfl hf
end Go.Proofs.YtkodlgmeplggdaaGreatDoor
