/- Calls that are known from before: slices.Sorted(maps.Keys(m)) at this program. -/
import Derived.Test.YtijnlbpeckoofaaGreatEngHe
import Derived.Test.YtijnlbpeckoofaaGreatEngHf
import Derived.Test.YtijnlbpeckoofaaGreatEngHc
import Derived.Test.YtijnlbpeckoofaaGreatIter
import Derived.Shelf.SlIter.Sorted
set_option linter.unusedVariables false
namespace Go.Proofs.YtijnlbpeckoofaaGreat
open Go.RowKit Go.Maps Go.Sort Go.Shelf Go.Proofs

theorem sortsS (m : Nat) : AnyZ.SortsIn Tryz.prog Tryz.sortedS_ren Fence.wide m :=
  ⟨fun blk off cap ss W hH hblk hsz => callsIn_wide.2 (AnyM.slices_Sort_string Tryz.sortS blk off cap ss W hH hblk hsz),
   fun p cap W => callsIn_wide.2 (AnyM.slices_Sort_string_none Tryz.sortS p cap W)⟩
theorem sortNames_any : SortKeysS Tryz.prog 13 26 9 := fun Bm b nn D0 w hBm hm hown hsz => by
  have hseq : SeqGives Fence.wide 2 Tryz.prog 26 #[.pointer (some ⟨Bm, 0, none⟩)] encStr (fun ss => ss.Perm (strKeys D0)) (Maps.size D0) w :=
    AnyZ.keys_gives (ρ := Tryz.keysC_ren) { Tryz.keysC with } Fence.wide _ trivial rfl (by omega) Bm b nn D0 w hBm hm hown
  have cS := AnyZ.sorted_in Tryz.sortedS Fence.wide 5 trivial trivial trivial trivial rfl (by omega) (sortsS _) (enters_of Tryz.func25 (by kernel_rfl) rfl) 26 #[.pointer (some ⟨Bm, 0, none⟩)] trivial (enters_of Tryz.func26 (by kernel_rfl) rfl) _ _ (by unfold maxLen; omega) (by omega) w hseq
  exact callsIn_wide.1 cS
noncomputable def hdNo : List AV → Mem → Option (AV × Mem) := fun _ _ => none
noncomputable def hdInts : List AV → Mem → Option (AV × Mem) :=
  hdNo
noncomputable def hdStrs : List AV → Mem → Option (AV × Mem) :=
  hdOr (hdSortS 26 9) <|
  hdNo
noncomputable def hd1 : Hd := fun f =>
  bif Nat.beq f 13 then some hdStrs else
  hd0 f
noncomputable def cf1 : Cf := ⟨Tryz.prog, hd1, 1000⟩
theorem hdStrs_ok {cf : Cf} {base : Nat} (hP : cf.P = Tryz.prog) : HdOk cf base Ev 13 hdStrs := by
  unfold hdStrs
  repeat' first | exact hdNo_ok | refine hdOr_ok ?_ ?_
  · exact hdSortS_ok (fn := Tryz.f13) (by rw [hP]; exact Tryz.underlying9) (by rw [hP]; exact Tryz.func13) (by kernel_rfl) rfl (by rw [hP]; exact sortNames_any)
theorem hd1_ok {cf : Cf} {base : Nat} (hP : cf.P = Tryz.prog) {f : FuncId} {h : List AV → Mem → Option (AV × Mem)} (hf : hd1 f = some h) : HdOk cf base Ev f h := by
  unfold hd1 at hf
  rcases bif_hd hf with ⟨e, hf⟩ | ⟨_, hf⟩
  · have := Nat.eq_of_beq_eq_true e; subst this; cases hf; exact hdStrs_ok hP
  exact hd0_ok hP hf
theorem sound1 (W : World) (he : Ev W) : Sound cf1 W.heap.size Ev := sound_of W he fun f k hf => hd1_ok rfl hf
end Go.Proofs.YtijnlbpeckoofaaGreat
