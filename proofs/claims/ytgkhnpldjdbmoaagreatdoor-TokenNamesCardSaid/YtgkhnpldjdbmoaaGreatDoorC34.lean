/- The walk of token.Join over tokens that may be put. -/
import Derived.Test.YtgkhnpldjdbmoaaGreatDoorC33
import Derived.Deep.RegionHeld3
set_option linter.unusedVariables false
set_option linter.unusedSimpArgs false
namespace Go.Proofs.YtgkhnpldjdbmoaaGreatDoor
open Go.RowKit

theorem index_last (x : Bytes) (d : UInt8) (n : Nat) (hn : x.length = n + 1) (hd : x[n]? = some d) (W : World) : (Instr.index 9 (.string (bs x)) (.int .i64 (n : Int))).run Tryz.prog W = .ok (.int .u8 d.toNat) W := by
  have hlt : n < (bs x).size := by rw [bs_size]; omega
  have h := index_str (bs x) (n : Int) n rfl hlt W
  rw [h]
  have h2 : x[n]? = some (bs x)[n] := by
    have := getElem?_pos x n (by omega)
    rw [this]; rfl
  rw [hd] at h2
  rw [← Option.some.inj h2]

/-- So many bytes may so many tokens have. -/
def Small (k n : Nat) : Prop := n ≤ k * 262147
theorem Small.zero : Small 0 0 := Nat.zero_le _
theorem Small.next {k n m : Nat} (h : Small k n) (hm : m ≤ n + 262147) : Small (k + 1) m := by
  unfold Small at *; rw [Nat.add_mul, Nat.one_mul]; exact Nat.le_trans hm (Nat.add_le_add_right h _)
theorem Small.le {k n : Nat} (h : Small k n) (hk : k ≤ 1000) : n ≤ 262147000 := Nat.le_trans h (Nat.le_trans (Nat.mul_le_mul_right _ hk) (by decide))

set_option maxRecDepth 100000 in
set_option maxHeartbeats 8000000 in
theorem join_any (ts : List RT) (ao : Option Addr) (cap : Nat) (w : World) (hok : ∀ t ∈ ts, t.ok) (hn : ts.length ≤ 1000) (he : EnvP w) (hh : 0 < ts.length → ∃ g, ao = some ⟨g, 0, none⟩ ∧ HoldsR w g ts) :
    Calls Tryz.prog 24 #[.slice ao ts.length cap] w fun e w' => e = .returned (strV ((jfold ts).2, 0)) ∧ Below w.heap.size w w' := by
  have HN := Lib.hid (bld_new w)
  have HH := Lib.hid hh; clear hh
  have HOK := Lib.hid hok; clear hok
  have HE := Lib.hid he; clear he
  go_enter Tryz.func24, Tryz.ntmps24
  go_wp2
  go_loopw [5, 12] (fun c i wr => ∃ (k : Nat) (wn : Bool) (out : Bytes), k ≤ ts.length ∧ i = .int .i64 k ∧ c = .bool wn ∧ jfold (ts.take k) = (wn, out) ∧ Small k out.length ∧ Bld w.heap.size w.heap.size out wr ∧ Below w.heap.size w wr) (fun _ i _ => ts.length - (intOf i).toNat)
  case atStart => exact ⟨0, false, [], by omega, rfl, rfl, rfl, Small.zero, HN.out, (Below.refl _ _).alloc (Nat.le_refl _) _⟩
  case round =>
    obtain ⟨k, wn, out, hk, rfl, rfl, hj, hol, hB, hb⟩ := hrel
    have hsz := hb.size
    have HB := Lib.hid hB; clear hB
    have HJ := Lib.hid hj; clear hj
    by_cases hlt : k < ts.length
    · obtain ⟨g, rfl, hg⟩ := HH.out (by omega)
      obtain ⟨c0, c1, c2, c3, c4⟩ := hg.below hb k hlt
      obtain ⟨o1, o2, o3⟩ := HOK.out ts[k] (List.getElem_mem _)
      have hnx := jfold_succ ts k hlt
      rw [HJ.out] at hnx
      generalize ts[k] = t at *
      obtain ⟨kd, n, s, f, t⟩ := t
      dsimp only at *
      rcases hx : RT.txt ⟨kd, n, s, f, t⟩ with ⟨x, e0⟩
      rw [hx] at o1
      dsimp only at o1
      subst o1
      have hxl : x.length ≤ 262146 := by have := text_len kd n s.data.toList; unfold RT.txt at hx; dsimp only at hx; rw [hx] at this; exact this
      have hT : ∀ W, EnvP W → Calls Tryz.prog 25 #[.agg #[.int .i64 kd, .int .i64 n, .string s, .int .i64 f, .int .i64 t]] W fun e w' => e = .returned (.tuple #[.string (bs x), .int .i64 0]) ∧ Below W.heap.size W w' := fun W hW =>
        (text_any kd n s f t W o2 o3 hW).mono fun e w' h => by
          unfold RT.txt at hx; dsimp only at hx
          rw [hx] at h; exact h
      have HT := Lib.hid hT; clear hT
      have HX := Lib.hid hx; clear hx
      have HNX := Lib.hid hnx; clear hnx
      have g1 : decide ((k : Int) < 0) = false := by simp
      have g2 : decide (ts.length ≤ k) = false := by simp; omega
      have g3 : decide ((ts.length : Int) ≤ (k : Int)) = false := by simp; omega
      have g4 : decide ((k : Int) < (ts.length : Int)) = true := by simp; omega
      have hl0 := World.block_lt_of_cell? _ _ c0
      have hbA : ∀ o, Below w.heap.size w (wr.alloc o) := fun o => hb.alloc hsz o
      have HBA := Lib.hid hbA; clear hbA
      cases x with
      | nil =>
        have HNX2 : Hid (jfold (ts.take (k + 1)) = (wn, out)) := Lib.hid (by rw [HNX.out]; unfold jstep; rw [HX.out]; rfl)
        have hie : (bs ([] : Bytes)).toList.isEmpty = true := by rw [bs_toList]; rfl
        go_wp2_with (go_at_call 25; refine (HT.out _ (HE.out.below (HBA.out _))).mono ?_; rintro e w1 ⟨rfl, hb1⟩)
        go_roundw
        case rel => exact ⟨k + 1, wn, out, by omega, by go_num, rfl, HNX2.out, hol.next (Nat.le_add_right _ _), bld_below (bld_below HB.out ((Below.refl _ _).alloc (Nat.le_refl _) _)) hb1, (HBA.out _).trans (hb1.mono (by simp; omega))⟩
        case measure => simp [intOf]; omega
      | cons c z =>
        obtain ⟨d, hd1, hd2⟩ := last_at (c :: z) (by simp)
        have hd3 : (c :: z)[z.length]? = some d := by simpa using hd2
        have HNX2 : Hid (jfold (ts.take (k + 1)) = ((kd == 3) || isReg d, out ++ glue wn (c :: z) ++ (c :: z))) := Lib.hid (by
          rw [HNX.out]; unfold jstep; rw [HX.out]; rw [if_neg (by simp)]
          unfold lastReg; rw [hd1])
        have i0 := index_first c z
        have i1 := index_last (c :: z) d z.length (by simp) hd3
        have HXL := Lib.hid (bs_list (c :: z))
        have hs1 : (bs (c :: z)).size = z.length + 1 := by rw [bs_size]; rfl
        have hie : (bs (c :: z)).toList.isEmpty = false := by rw [bs_toList]; rfl
        have hzl : z.length ≤ 262145 := by simpa using hxl
        have hwz : IntKind.i64.wrap (z.length : Int) = (z.length : Int) := IntWalk.i64_in _ (by omega)
        clear hd1 hd2 hd3 hxl HX HNX
        generalize hX : bs (c :: z) = X at *
        clear hX
        have hBl := bld_lt HB.out
        have hne : wr.heap.size ≠ w.heap.size := by omega
        have hcase : (wn = true ∧ isReg c = true ∧ glue wn (c :: z) = [32]) ∨ (wn = true ∧ isReg c = false ∧ glue wn (c :: z) = []) ∨ (wn = false ∧ glue wn (c :: z) = []) := by
          cases wn <;> cases hc : isReg c <;> simp [glue, headReg, hc]
        have hkd : ((kd == 3) = true) ∨ ((kd == 3) = false ∧ isReg d = true) ∨ ((kd == 3) = false ∧ isReg d = false) := by
          cases (kd == 3) <;> cases isReg d <;> simp
        have hol2 := hol.le (by omega)
        rcases hcase with ⟨rfl, h2, h3⟩ | ⟨rfl, h2, h3⟩ | ⟨rfl, h3⟩
        · rw [h3] at HNX2
          have HC := Lib.hid h2; clear h2 h3
          rcases hkd with h4 | ⟨h4, h5⟩ | ⟨h4, h5⟩
          · skip
            rw [h4] at HNX2
            go_wp2_with (first
              | (go_at_call 25; refine (HT.out _ (HE.out.below (HBA.out _))).mono ?_; rintro e w1 ⟨rfl, hb1⟩; have K1 := (hb1.block wr.heap.size (by simp)).trans (heap_alloc_last wr _); have hB1 := bld_below (bld_below HB.out ((Below.refl _ _).alloc (Nat.le_refl _) _)) hb1; have hw1 := (HBA.out _).trans (hb1.mono (by simp; omega)))
              | (go_at_call 61; refine (reg_any c _).mono ?_; rintro e w2 ⟨rfl, hb2⟩; rw [HC.out]; have K2 := (hb2.block wr.heap.size (by have := hb1.size; simp at this; omega)).trans K1; have hB2 := bld_below hB1 hb2; have hw2 := hw1.trans (hb2.mono hw1.size))
              | (go_at_call 62; refine (bld_byte w.heap.size w.heap.size out 32 _ hB2 (by omega) hw2.size).mono ?_; rintro e w3 ⟨rfl, hB3, hb3, ho3⟩; have K3 := blk_kept ho3 hne K2; have hw3 := hw2.trans hb3)
              | (go_at_call 63; refine (bld_str w.heap.size w.heap.size (out ++ [32]) X _ hB3 (by simp only [List.length_append, List.length_cons, List.length_nil]; omega) hw3.size).mono ?_; rintro e w4 ⟨rfl, hB4, hb4, ho4⟩; have K4 := blk_kept ho4 hne K3; have hw4 := hw3.trans hb4; have x0 : w4.cell? ⟨wr.heap.size, 0, none⟩ = some (.int .i64 kd) := (by rw [Lib.cell_of_heap K4]; rfl)))
            go_roundw
            case rel =>
              refine ⟨k + 1, _, _, by omega, by go_num, rfl, HNX2.out, hol.next ?_, ?_, hw4⟩
              · simp only [List.length_append, List.length_cons, List.length_nil]; omega
              · have hB5 := hB4
                rw [HXL.out] at hB5
                simpa using hB5
            case measure => simp [intOf]; omega
          · have HD := Lib.hid h5; clear h5
            rw [h4, show isReg d = true from HD.out] at HNX2
            go_wp2_with (first
              | (go_at_call 25; refine (HT.out _ (HE.out.below (HBA.out _))).mono ?_; rintro e w1 ⟨rfl, hb1⟩; have K1 := (hb1.block wr.heap.size (by simp)).trans (heap_alloc_last wr _); have hB1 := bld_below (bld_below HB.out ((Below.refl _ _).alloc (Nat.le_refl _) _)) hb1; have hw1 := (HBA.out _).trans (hb1.mono (by simp; omega)))
              | (go_at_call 61; refine (reg_any c _).mono ?_; rintro e w2 ⟨rfl, hb2⟩; rw [HC.out]; have K2 := (hb2.block wr.heap.size (by have := hb1.size; simp at this; omega)).trans K1; have hB2 := bld_below hB1 hb2; have hw2 := hw1.trans (hb2.mono hw1.size))
              | (go_at_call 62; refine (bld_byte w.heap.size w.heap.size out 32 _ hB2 (by omega) hw2.size).mono ?_; rintro e w3 ⟨rfl, hB3, hb3, ho3⟩; have K3 := blk_kept ho3 hne K2; have hw3 := hw2.trans hb3)
              | (go_at_call 63; refine (bld_str w.heap.size w.heap.size (out ++ [32]) X _ hB3 (by simp only [List.length_append, List.length_cons, List.length_nil]; omega) hw3.size).mono ?_; rintro e w4 ⟨rfl, hB4, hb4, ho4⟩; have K4 := blk_kept ho4 hne K3; have hw4 := hw3.trans hb4; have x0 : w4.cell? ⟨wr.heap.size, 0, none⟩ = some (.int .i64 kd) := (by rw [Lib.cell_of_heap K4]; rfl))
              | (go_at_call 61; refine (reg_any d _).mono ?_; rintro e w5 ⟨rfl, hb5⟩; rw [HD.out]))
            go_roundw
            case rel =>
              refine ⟨k + 1, _, _, by omega, by go_num, rfl, HNX2.out, hol.next ?_, ?_, hw4.trans (hb5.mono hw4.size)⟩
              · simp only [List.length_append, List.length_cons, List.length_nil]; omega
              · have hB5 := (bld_below hB4 hb5)
                rw [HXL.out] at hB5
                simpa using hB5
            case measure => simp [intOf]; omega
          · have HD := Lib.hid h5; clear h5
            rw [h4, show isReg d = false from HD.out] at HNX2
            go_wp2_with (first
              | (go_at_call 25; refine (HT.out _ (HE.out.below (HBA.out _))).mono ?_; rintro e w1 ⟨rfl, hb1⟩; have K1 := (hb1.block wr.heap.size (by simp)).trans (heap_alloc_last wr _); have hB1 := bld_below (bld_below HB.out ((Below.refl _ _).alloc (Nat.le_refl _) _)) hb1; have hw1 := (HBA.out _).trans (hb1.mono (by simp; omega)))
              | (go_at_call 61; refine (reg_any c _).mono ?_; rintro e w2 ⟨rfl, hb2⟩; rw [HC.out]; have K2 := (hb2.block wr.heap.size (by have := hb1.size; simp at this; omega)).trans K1; have hB2 := bld_below hB1 hb2; have hw2 := hw1.trans (hb2.mono hw1.size))
              | (go_at_call 62; refine (bld_byte w.heap.size w.heap.size out 32 _ hB2 (by omega) hw2.size).mono ?_; rintro e w3 ⟨rfl, hB3, hb3, ho3⟩; have K3 := blk_kept ho3 hne K2; have hw3 := hw2.trans hb3)
              | (go_at_call 63; refine (bld_str w.heap.size w.heap.size (out ++ [32]) X _ hB3 (by simp only [List.length_append, List.length_cons, List.length_nil]; omega) hw3.size).mono ?_; rintro e w4 ⟨rfl, hB4, hb4, ho4⟩; have K4 := blk_kept ho4 hne K3; have hw4 := hw3.trans hb4; have x0 : w4.cell? ⟨wr.heap.size, 0, none⟩ = some (.int .i64 kd) := (by rw [Lib.cell_of_heap K4]; rfl))
              | (go_at_call 61; refine (reg_any d _).mono ?_; rintro e w5 ⟨rfl, hb5⟩; rw [HD.out]))
            go_roundw
            case rel =>
              refine ⟨k + 1, _, _, by omega, by go_num, rfl, HNX2.out, hol.next ?_, ?_, hw4.trans (hb5.mono hw4.size)⟩
              · simp only [List.length_append, List.length_cons, List.length_nil]; omega
              · have hB5 := (bld_below hB4 hb5)
                rw [HXL.out] at hB5
                simpa using hB5
            case measure => simp [intOf]; omega
        · rw [h3] at HNX2
          have HC := Lib.hid h2; clear h2 h3
          rcases hkd with h4 | ⟨h4, h5⟩ | ⟨h4, h5⟩
          · skip
            rw [h4] at HNX2
            go_wp2_with (first
              | (go_at_call 25; refine (HT.out _ (HE.out.below (HBA.out _))).mono ?_; rintro e w1 ⟨rfl, hb1⟩; have K1 := (hb1.block wr.heap.size (by simp)).trans (heap_alloc_last wr _); have hB1 := bld_below (bld_below HB.out ((Below.refl _ _).alloc (Nat.le_refl _) _)) hb1; have hw1 := (HBA.out _).trans (hb1.mono (by simp; omega)))
              | (go_at_call 61; refine (reg_any c _).mono ?_; rintro e w2 ⟨rfl, hb2⟩; rw [HC.out]; have K2 := (hb2.block wr.heap.size (by have := hb1.size; simp at this; omega)).trans K1; have hB2 := bld_below hB1 hb2; have hw2 := hw1.trans (hb2.mono hw1.size))
              | (go_at_call 63; refine (bld_str w.heap.size w.heap.size out X _ hB2 (by omega) hw2.size).mono ?_; rintro e w4 ⟨rfl, hB4, hb4, ho4⟩; have K4 := blk_kept ho4 hne K2; have hw4 := hw2.trans hb4; have x0 : w4.cell? ⟨wr.heap.size, 0, none⟩ = some (.int .i64 kd) := (by rw [Lib.cell_of_heap K4]; rfl)))
            go_roundw
            case rel =>
              refine ⟨k + 1, _, _, by omega, by go_num, rfl, HNX2.out, hol.next ?_, ?_, hw4⟩
              · simp only [List.length_append, List.length_cons, List.length_nil]; omega
              · have hB5 := hB4
                rw [HXL.out] at hB5
                simpa using hB5
            case measure => simp [intOf]; omega
          · have HD := Lib.hid h5; clear h5
            rw [h4, show isReg d = true from HD.out] at HNX2
            go_wp2_with (first
              | (go_at_call 25; refine (HT.out _ (HE.out.below (HBA.out _))).mono ?_; rintro e w1 ⟨rfl, hb1⟩; have K1 := (hb1.block wr.heap.size (by simp)).trans (heap_alloc_last wr _); have hB1 := bld_below (bld_below HB.out ((Below.refl _ _).alloc (Nat.le_refl _) _)) hb1; have hw1 := (HBA.out _).trans (hb1.mono (by simp; omega)))
              | (go_at_call 61; refine (reg_any c _).mono ?_; rintro e w2 ⟨rfl, hb2⟩; rw [HC.out]; have K2 := (hb2.block wr.heap.size (by have := hb1.size; simp at this; omega)).trans K1; have hB2 := bld_below hB1 hb2; have hw2 := hw1.trans (hb2.mono hw1.size))
              | (go_at_call 63; refine (bld_str w.heap.size w.heap.size out X _ hB2 (by omega) hw2.size).mono ?_; rintro e w4 ⟨rfl, hB4, hb4, ho4⟩; have K4 := blk_kept ho4 hne K2; have hw4 := hw2.trans hb4; have x0 : w4.cell? ⟨wr.heap.size, 0, none⟩ = some (.int .i64 kd) := (by rw [Lib.cell_of_heap K4]; rfl))
              | (go_at_call 61; refine (reg_any d _).mono ?_; rintro e w5 ⟨rfl, hb5⟩; rw [HD.out]))
            go_roundw
            case rel =>
              refine ⟨k + 1, _, _, by omega, by go_num, rfl, HNX2.out, hol.next ?_, ?_, hw4.trans (hb5.mono hw4.size)⟩
              · simp only [List.length_append, List.length_cons, List.length_nil]; omega
              · have hB5 := (bld_below hB4 hb5)
                rw [HXL.out] at hB5
                simpa using hB5
            case measure => simp [intOf]; omega
          · have HD := Lib.hid h5; clear h5
            rw [h4, show isReg d = false from HD.out] at HNX2
            go_wp2_with (first
              | (go_at_call 25; refine (HT.out _ (HE.out.below (HBA.out _))).mono ?_; rintro e w1 ⟨rfl, hb1⟩; have K1 := (hb1.block wr.heap.size (by simp)).trans (heap_alloc_last wr _); have hB1 := bld_below (bld_below HB.out ((Below.refl _ _).alloc (Nat.le_refl _) _)) hb1; have hw1 := (HBA.out _).trans (hb1.mono (by simp; omega)))
              | (go_at_call 61; refine (reg_any c _).mono ?_; rintro e w2 ⟨rfl, hb2⟩; rw [HC.out]; have K2 := (hb2.block wr.heap.size (by have := hb1.size; simp at this; omega)).trans K1; have hB2 := bld_below hB1 hb2; have hw2 := hw1.trans (hb2.mono hw1.size))
              | (go_at_call 63; refine (bld_str w.heap.size w.heap.size out X _ hB2 (by omega) hw2.size).mono ?_; rintro e w4 ⟨rfl, hB4, hb4, ho4⟩; have K4 := blk_kept ho4 hne K2; have hw4 := hw2.trans hb4; have x0 : w4.cell? ⟨wr.heap.size, 0, none⟩ = some (.int .i64 kd) := (by rw [Lib.cell_of_heap K4]; rfl))
              | (go_at_call 61; refine (reg_any d _).mono ?_; rintro e w5 ⟨rfl, hb5⟩; rw [HD.out]))
            go_roundw
            case rel =>
              refine ⟨k + 1, _, _, by omega, by go_num, rfl, HNX2.out, hol.next ?_, ?_, hw4.trans (hb5.mono hw4.size)⟩
              · simp only [List.length_append, List.length_cons, List.length_nil]; omega
              · have hB5 := (bld_below hB4 hb5)
                rw [HXL.out] at hB5
                simpa using hB5
            case measure => simp [intOf]; omega
        · rw [h3] at HNX2
          clear h3
          rcases hkd with h4 | ⟨h4, h5⟩ | ⟨h4, h5⟩
          · skip
            rw [h4] at HNX2
            go_wp2_with (first
              | (go_at_call 25; refine (HT.out _ (HE.out.below (HBA.out _))).mono ?_; rintro e w1 ⟨rfl, hb1⟩; have K1 := (hb1.block wr.heap.size (by simp)).trans (heap_alloc_last wr _); have hB1 := bld_below (bld_below HB.out ((Below.refl _ _).alloc (Nat.le_refl _) _)) hb1; have hw1 := (HBA.out _).trans (hb1.mono (by simp; omega)))
              | (go_at_call 63; refine (bld_str w.heap.size w.heap.size out X _ hB1 (by omega) hw1.size).mono ?_; rintro e w4 ⟨rfl, hB4, hb4, ho4⟩; have K4 := blk_kept ho4 hne K1; have hw4 := hw1.trans hb4; have x0 : w4.cell? ⟨wr.heap.size, 0, none⟩ = some (.int .i64 kd) := (by rw [Lib.cell_of_heap K4]; rfl)))
            go_roundw
            case rel =>
              refine ⟨k + 1, _, _, by omega, by go_num, rfl, HNX2.out, hol.next ?_, ?_, hw4⟩
              · simp only [List.length_append, List.length_cons, List.length_nil]; omega
              · have hB5 := hB4
                rw [HXL.out] at hB5
                simpa using hB5
            case measure => simp [intOf]; omega
          · have HD := Lib.hid h5; clear h5
            rw [h4, show isReg d = true from HD.out] at HNX2
            go_wp2_with (first
              | (go_at_call 25; refine (HT.out _ (HE.out.below (HBA.out _))).mono ?_; rintro e w1 ⟨rfl, hb1⟩; have K1 := (hb1.block wr.heap.size (by simp)).trans (heap_alloc_last wr _); have hB1 := bld_below (bld_below HB.out ((Below.refl _ _).alloc (Nat.le_refl _) _)) hb1; have hw1 := (HBA.out _).trans (hb1.mono (by simp; omega)))
              | (go_at_call 63; refine (bld_str w.heap.size w.heap.size out X _ hB1 (by omega) hw1.size).mono ?_; rintro e w4 ⟨rfl, hB4, hb4, ho4⟩; have K4 := blk_kept ho4 hne K1; have hw4 := hw1.trans hb4; have x0 : w4.cell? ⟨wr.heap.size, 0, none⟩ = some (.int .i64 kd) := (by rw [Lib.cell_of_heap K4]; rfl))
              | (go_at_call 61; refine (reg_any d _).mono ?_; rintro e w5 ⟨rfl, hb5⟩; rw [HD.out]))
            go_roundw
            case rel =>
              refine ⟨k + 1, _, _, by omega, by go_num, rfl, HNX2.out, hol.next ?_, ?_, hw4.trans (hb5.mono hw4.size)⟩
              · simp only [List.length_append, List.length_cons, List.length_nil]; omega
              · have hB5 := (bld_below hB4 hb5)
                rw [HXL.out] at hB5
                simpa using hB5
            case measure => simp [intOf]; omega
          · have HD := Lib.hid h5; clear h5
            rw [h4, show isReg d = false from HD.out] at HNX2
            go_wp2_with (first
              | (go_at_call 25; refine (HT.out _ (HE.out.below (HBA.out _))).mono ?_; rintro e w1 ⟨rfl, hb1⟩; have K1 := (hb1.block wr.heap.size (by simp)).trans (heap_alloc_last wr _); have hB1 := bld_below (bld_below HB.out ((Below.refl _ _).alloc (Nat.le_refl _) _)) hb1; have hw1 := (HBA.out _).trans (hb1.mono (by simp; omega)))
              | (go_at_call 63; refine (bld_str w.heap.size w.heap.size out X _ hB1 (by omega) hw1.size).mono ?_; rintro e w4 ⟨rfl, hB4, hb4, ho4⟩; have K4 := blk_kept ho4 hne K1; have hw4 := hw1.trans hb4; have x0 : w4.cell? ⟨wr.heap.size, 0, none⟩ = some (.int .i64 kd) := (by rw [Lib.cell_of_heap K4]; rfl))
              | (go_at_call 61; refine (reg_any d _).mono ?_; rintro e w5 ⟨rfl, hb5⟩; rw [HD.out]))
            go_roundw
            case rel =>
              refine ⟨k + 1, _, _, by omega, by go_num, rfl, HNX2.out, hol.next ?_, ?_, hw4.trans (hb5.mono hw4.size)⟩
              · simp only [List.length_append, List.length_cons, List.length_nil]; omega
              · have hB5 := (bld_below hB4 hb5)
                rw [HXL.out] at hB5
                simpa using hB5
            case measure => simp [intOf]; omega
    · obtain rfl : k = ts.length := by omega
      have g4 : decide ((ts.length : Int) < (ts.length : Int)) = false := by simp
      have HT := Lib.hid (show ts.take ts.length = ts from List.take_length)
      go_wp2_with (go_at_call 64; refine (bld_string _ _ _ _ HB.out hsz).mono ?_; rintro e w5 ⟨rfl, hb5⟩)
      go_ret2
      refine ⟨?_, hb.trans hb5⟩
      have := HJ.out; rw [HT.out] at this
      rw [this]; rfl
end Go.Proofs.YtgkhnpldjdbmoaaGreatDoor
