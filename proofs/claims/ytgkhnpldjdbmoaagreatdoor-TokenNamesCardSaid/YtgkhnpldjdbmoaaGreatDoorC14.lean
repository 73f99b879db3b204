/- The walk of text.Hex, its rounds. -/
import Derived.Test.YtgkhnpldjdbmoaaGreatDoorC13
set_option linter.unusedVariables false
set_option linter.unusedSimpArgs false
namespace Go.Proofs.YtgkhnpldjdbmoaaGreatDoor
open Go.RowKit

theorem hexv_byte {b : UInt8} (h : ¬ hexv b < 0) : Value.int .u8 (hexv b) = Value.int .u8 ((UInt8.ofNat (hexv b).toNat).toNat : Int) := by
  have := hexv_range b
  congr 1
  simp; omega
theorem row_keep {w w1 : World} {base : Nat} {e : TypeId} {n : Nat} {v : Value} {xs : List Value} (h : w.ownsRow base e 1 v n xs) (hb : Below w.heap.size w w1) : w1.ownsRow base e 1 v n xs :=
  h.kept (show w.grownBy w1 none from ⟨hb.os, hb.tape, hb.output, hb.size, fun i hi _ => hb.block i hi⟩) (by cases v.ownBlock <;> simp)
theorem row_form {w : World} {base : Nat} {e : TypeId} {n : Nat} {v : Value} {xs : List Value} (h : w.ownsRow base e 1 v n xs) :
    ∃ ao c, v = .slice ao n c ∧ ∀ j, j < n → ∃ g, ao = some ⟨g, 0, none⟩ ∧ w.cell? ⟨g, j, none⟩ = xs[j]? := by
  rcases h.2 with ⟨rfl, h0⟩ | ⟨g, cap, cur, rfl, hh⟩
  · refine ⟨none, 0, ?_, fun j hj => ?_⟩
    · rw [h0]
    · omega
  · exact ⟨_, cap, rfl, fun j hj => ⟨g, rfl, h.cellAt j (by omega)⟩⟩

theorem own_base {w : World} {base : Nat} {e : TypeId} {size n : Nat} {v : Value} {xs : List Value} (h : w.ownsRow base e size v n xs) (k : Nat) (hk : v.ownBlock = some k) : base ≤ k := by
  rcases h.2 with ⟨rfl, _⟩ | ⟨g, cap, cur, rfl, hb, _⟩
  · simp [Value.ownBlock] at hk
  · have : g = k := by simpa [Value.ownBlock] using hk
    omega

theorem bld_int (B b : Nat) (l : List UInt8) (x : Int) (c : UInt8) (hx : x = c.toNat) (w : World) (h : Bld B b l w) (hlen : l.length + 1 ≤ 140737488355328) (hBw : B ≤ w.heap.size) :
    Calls Tryz.prog 62 #[.pointer (some ⟨b, 0, none⟩), .int .u8 x] w fun e w' => e = .returned .nilIface ∧ Bld B b (l ++ [c]) w' ∧ Below B w w' ∧ Lib.OthersKept 5 (some b) w w' := by
  subst hx; exact bld_byte B b l c w h hlen hBw
theorem u8_pair (a b : UInt8) : IntKind.u8.wrap (16 * (a.toNat : Int) % 256 + (b.toNat : Int)) = ((16 * a + b).toNat : Int) := by
  rw [IntKind.wrap_u8]; simp [UInt8.toNat_add, UInt8.toNat_mul]
theorem pairs_take {V : Bytes} {j : Nat} (hj : j + 1 < V.length) (he : j % 2 = 0) : pairs (V.take (j + 2)) = pairs (V.take j) ++ [16 * V[j] + V[j + 1]] := by
  have : ∀ n (j : Nat) (V : Bytes) (hj : j + 1 < V.length), j = n → j % 2 = 0 → pairs (V.take (j + 2)) = pairs (V.take j) ++ [16 * V[j] + V[j + 1]] := by
    intro n
    induction n using Nat.strongRecOn with
    | _ n ih =>
      intro j V hj hn he
      match V, j with
      | [], _ => simp at hj
      | [a], _ => simp at hj
      | a :: b :: V, 0 => simp [pairs]
      | a :: b :: V, 1 => omega
      | a :: b :: V, j + 2 =>
        have := ih j (by omega) j V (by simp at hj; omega) rfl (by omega)
        simp only [List.take_succ_cons, pairs_two, this, List.getElem_cons_succ, List.cons_append]
  exact this j j V hj rfl he

set_option maxRecDepth 100000 in
set_option maxHeartbeats 4000000 in
theorem hex_any2 (s : ByteArray) (k : Nat) (w : World) (hs : s.size ≤ 4000000000) (hk : k < s.size) (h60 : (s[k] == 60) = true) :
    Calls Tryz.prog 120 #[.string s, .int .i64 k] w fun e w' => e = .returned (resV k (hexStr (s.data.toList.drop (k + 1)))) ∧ Below w.heap.size w w' := by
  obtain ⟨R, hR⟩ : ∃ R, hexTo s.data.toList k (k + 1) [] R := ⟨_, rfl⟩
  rw [hexStr_fin s k R hR]
  have HST := Lib.hid hR; clear hR
  have hn60 : (((s[k].toNat : Int)) != 60) = false := by have := is_lit 60 60 rfl h60; simp at this ⊢; exact this
  have ix := index_str s (k : Int) k rfl hk
  have g1 : decide ((k : Int) < 0) = false := by simp
  have g2 : decide (s.size ≤ k) = false := by simp; omega
  have g3 : decide ((s.size : Int) ≤ (k : Int)) = false := by simp; omega
  obtain ⟨i0, hi, hz0, hz1, hz2⟩ := info_parts infoByte
  go_enter Tryz.func120, Tryz.ntmps120
  go_wp2
  clear ix hn60 h60 g1 g2 g3
  go_loopw [1, 7] (fun a l wr => ∃ (p : Nat) (acc : Bytes), k < p ∧ p ≤ s.size ∧ a = .int .i64 p ∧ acc.length ≤ p ∧ wr.ownsRow w.heap.size 5 1 l acc.length (Lib.byteCells acc) ∧ Below w.heap.size w wr ∧ hexTo s.data.toList k p acc R) (fun a _ _ => s.size - (intOf a).toNat)
  case atStart => exact ⟨k + 1, [], by omega, by omega, by go_num, by simp, World.ownsRow_nil _ _ _ _, by (repeat' (first | (with_reducible exact Below.refl _ _) | (with_reducible assumption) | (with_reducible refine Below.alloc ?_ ?_ _) | (with_reducible refine below_drewN ?_ _) | (with_reducible refine Below.drew ?_) | (with_reducible refine Below.setCell ?_ ?_ _) | (with_reducible refine below_trans ?_ (by assumption)) | (with_reducible exact Nat.le_refl _) | (with_reducible exact Below.size (by assumption)) | omega | (simp; omega) | (simp; done))), HST.out⟩
  case round =>
    obtain ⟨p, acc, hkp, hps, rfl, hal, hown, hb, hl⟩ := hrel
    have HL := Lib.hid hl; have HO := Lib.hid hown; clear hl hown
    have zz := hb.size
    by_cases hp : p < s.size
    · have ix := index_str s (p : Int) p rfl hp
      cases h62 : (s[p] == 62) with
      | true =>
        have hr := hex_shut HL.out hp h62
        have HR := Lib.hid hr; clear hr
        have t62 : (((s[p].toNat : Int)) != 62) = false := by have := is_lit 62 62 rfl h62; simp at this ⊢; exact this
        have H62 := Lib.hid h62; clear h62
        have hneq : ((p : Int) == (s.size : Int)) = false := by simp; omega
        obtain ⟨ao, cap, rfl, hcl⟩ := row_form HO.out
        have HCL := Lib.hid hcl; clear hcl
        rcases Nat.mod_two_eq_zero_or_one acc.length with hev | hod
        · have hev2 : (((acc.length : Int) % 2) != 0) = false := by simp; omega
          obtain ⟨W0, hW0⟩ : ∃ W0, W0 = wr := ⟨_, rfl⟩
          subst hW0
          obtain ⟨V, hV⟩ : ∃ V : Bytes, V = acc := ⟨_, rfl⟩
          have HP : Hid (hexFin R = if 65536 < (pairs V).length then .err 3 else .ok (pairs V) (p + 1)) := Lib.hid (by rw [HR.out, hV]; rfl)
          subst hV
          have hVe : V.length % 2 = 0 := hev
          have hVs : V.length ≤ 4000000001 := by omega
          go_wp2
          go_loopw [10] (fun a wr => ∃ j : Nat, j ≤ V.length ∧ j % 2 = 0 ∧ a = .int .i64 j ∧ Bld W0.heap.size W0.heap.size (pairs (V.take j)) wr ∧ Below W0.heap.size W0 wr) (fun a _ => V.length - (intOf a).toNat)
          case atStart => exact ⟨0, by omega, by omega, rfl, bld_new W0, (Below.refl _ _).alloc (Nat.le_refl _) _⟩
          case round =>
            obtain ⟨j, hj, hje, rfl, hB2, hb2⟩ := hrel
            have HB2 := Lib.hid hB2; clear hB2
            have z2 := hb2.size
            by_cases hlt : j < V.length
            · have hlt2 : j + 1 < V.length := by omega
              obtain ⟨g, rfl, hc0⟩ := HCL.out j (by omega)
              obtain ⟨g2, hg2, hc1⟩ := HCL.out (j + 1) (by omega)
              obtain rfl : g = g2 := by simpa using hg2
              have hc00 : W0.cell? ⟨g, j, none⟩ = some (.int .u8 V[j].toNat) := by rw [hc0, Lib.byteCells, List.getElem?_map, List.getElem?_eq_getElem (by omega)]; rfl
              have hgl : g < W0.heap.size := World.block_lt_of_cell? W0 ⟨g, j, none⟩ hc00
              have k0 : wr.cell? ⟨g, j, none⟩ = some (.int .u8 V[j].toNat) := by
                rw [hb2.cell (p := ⟨g, j, none⟩) hgl, hc0, Lib.byteCells, List.getElem?_map, List.getElem?_eq_getElem (by omega)]; rfl
              have k1 : wr.cell? ⟨g, j + 1, none⟩ = some (.int .u8 V[j + 1].toNat) := by
                rw [hb2.cell (p := ⟨g, j + 1, none⟩) hgl, hc1, Lib.byteCells, List.getElem?_map, List.getElem?_eq_getElem (by omega)]; rfl
              have s1 : IntKind.i64.wrap ((j : Int) + 1) = (j : Int) + 1 := IntWalk.i64_in _ (by omega)
              have n1 : ((j : Int) + 1).toNat = j + 1 := by omega
              have p0 : (0 : Int) ≤ (j : Int) + 1 := by omega
              have p1 : (j : Int) + 1 < (V.length : Int) := by omega
              have p2 : (j : Int) < (V.length : Int) := by omega
              have HPT := Lib.hid (pairs_take hlt2 hje)
              have hpl : (pairs (V.take j)).length ≤ 4000000000 := by have := pairs_len (V.take j) (by rw [List.length_take]; omega); rw [List.length_take] at this; omega
              go_wp2_with fail
              go_region_with (refine Calls.mono (bld_int W0.heap.size W0.heap.size (pairs (V.take j)) _ (16 * V[j] + V[j + 1]) ?_ _ ?_ (by omega) ?_) ?_; (focus exact u8_pair _ _); (focus exact HB2.out); (focus exact z2); rintro e w4 ⟨rfl, hB4, hb4, _⟩)
              all_goals
                go_wp2
                go_roundw
                case rel => exact ⟨j + 2, by omega, by omega, by go_num, by rw [HPT.out]; exact hB4, hb2.drew.trans hb4⟩
                case measure => simp [intOf]; omega
            · obtain rfl : j = V.length := by omega
              rw [List.take_length] at HB2
              have hbig : 65536 < (pairs V).length ∨ (pairs V).length ≤ 65536 := by omega
              rcases hbig with hg | hg
              · have hg2 : (65536 : Int) < ((pairs V).length : Int) := by omega
                go_wp2_with (go_at_call 176; refine (bld_len W0.heap.size W0.heap.size (pairs V) _ HB2.out).mono ?_; rintro e w3 ⟨rfl, rfl⟩)
                go_ret3
                exact ⟨by rw [HP.out, if_pos hg]; rfl, hb.trans (hb2.mono hb.size)⟩
              · have hg2 : ((pairs V).length : Int) ≤ 65536 := by omega
                go_wp2_with (first
                  | (go_at_call 176; refine (bld_len W0.heap.size W0.heap.size (pairs V) _ HB2.out).mono ?_; rintro e w3 ⟨rfl, rfl⟩)
                  | (go_at_call 64; refine (bld_string W0.heap.size W0.heap.size (pairs V) _ HB2.out (by omega)).mono ?_; rintro e w3 ⟨rfl, hb3⟩))
                go_ret3
                exact ⟨by rw [HP.out, if_neg (by omega)]; simp [resV], (hb.trans (hb2.mono hb.size)).trans (hb3.mono (by omega))⟩
        · have hod2 : (((acc.length : Int) % 2) != 0) = true := by simp; omega
          obtain ⟨V, hV⟩ : ∃ V : Bytes, V = acc ++ [0] := ⟨_, rfl⟩
          have hVl : acc.length + 1 = V.length := by rw [hV]; simp
          have hVc : Lib.byteCells acc ++ [.int .u8 0] = Lib.byteCells V := by rw [hV, Lib.byteCells_append]; rfl
          have HP : Hid (hexFin R = if 65536 < (pairs V).length then .err 3 else .ok (pairs V) (p + 1)) := Lib.hid (by rw [HR.out, hV, ← pairs_pad acc hod]; rfl)
          have hVe : V.length % 2 = 0 := by omega
          have hVs : V.length ≤ 4000000001 := by omega
          have HVL := Lib.hid hVl; have HVC := Lib.hid hVc; clear hVl hVc hV
          clear HCL
          go_wp2_with (at_builtin; refine wpList_append_own _ rfl _ _ 79 rfl w.heap.size 5 i0 (.int .u8 0) 1 1 Tryz.underlying79 hi hz0 hz1 hz2 rfl (by decide) _ _ _ rfl (HO.out.alloc _) ⟨wr.heap.size, 0, none⟩ 1 1 [.int .u8 0] rfl rfl ?c1 ?c2 ?c3 ?c4 ?c5 ?_)
          case c1 => exact cell_one_new _ _ _
          case c2 => intro u hu; simp at hu; subst hu; rfl
          case c3 => unfold maxLen; omega
          case c4 => omega
          case c5 => simp; omega
          intro v' W0 hown' hgrow _
          have hb0 : Below w.heap.size w W0 := (hb.alloc (by omega) _).grown hgrow (by simp; omega) (fun k hk => own_base HO.out k hk)
          rw [HVL.out, HVC.out] at hown'
          obtain ⟨ao2, cap2, rfl, hcl⟩ := row_form hown'
          have HCL := Lib.hid hcl; clear hcl
          have HO2 := Lib.hid hown'; clear hown'
          clear hb hgrow
          have hb := hb0; clear hb0
          have zz := hb.size
          obtain ⟨u7, hu7⟩ : ∃ u7 : Nat, u7 = 0 := ⟨_, rfl⟩
          clear hu7 u7
          go_wp2
          go_loopw [10] (fun a wr => ∃ j : Nat, j ≤ V.length ∧ j % 2 = 0 ∧ a = .int .i64 j ∧ Bld W0.heap.size W0.heap.size (pairs (V.take j)) wr ∧ Below W0.heap.size W0 wr) (fun a _ => V.length - (intOf a).toNat)
          case atStart => exact ⟨0, by omega, by omega, rfl, bld_new W0, (Below.refl _ _).alloc (Nat.le_refl _) _⟩
          case round =>
            obtain ⟨j, hj, hje, rfl, hB2, hb2⟩ := hrel
            have HB2 := Lib.hid hB2; clear hB2
            have z2 := hb2.size
            by_cases hlt : j < V.length
            · have hlt2 : j + 1 < V.length := by omega
              obtain ⟨g, rfl, hc0⟩ := HCL.out j (by omega)
              obtain ⟨g2, hg2, hc1⟩ := HCL.out (j + 1) (by omega)
              obtain rfl : g = g2 := by simpa using hg2
              have hc00 : W0.cell? ⟨g, j, none⟩ = some (.int .u8 V[j].toNat) := by rw [hc0, Lib.byteCells, List.getElem?_map, List.getElem?_eq_getElem (by omega)]; rfl
              have hgl : g < W0.heap.size := World.block_lt_of_cell? W0 ⟨g, j, none⟩ hc00
              have k0 : wr.cell? ⟨g, j, none⟩ = some (.int .u8 V[j].toNat) := by
                rw [hb2.cell (p := ⟨g, j, none⟩) hgl, hc0, Lib.byteCells, List.getElem?_map, List.getElem?_eq_getElem (by omega)]; rfl
              have k1 : wr.cell? ⟨g, j + 1, none⟩ = some (.int .u8 V[j + 1].toNat) := by
                rw [hb2.cell (p := ⟨g, j + 1, none⟩) hgl, hc1, Lib.byteCells, List.getElem?_map, List.getElem?_eq_getElem (by omega)]; rfl
              have s1 : IntKind.i64.wrap ((j : Int) + 1) = (j : Int) + 1 := IntWalk.i64_in _ (by omega)
              have n1 : ((j : Int) + 1).toNat = j + 1 := by omega
              have p0 : (0 : Int) ≤ (j : Int) + 1 := by omega
              have p1 : (j : Int) + 1 < (V.length : Int) := by omega
              have p2 : (j : Int) < (V.length : Int) := by omega
              have HPT := Lib.hid (pairs_take hlt2 hje)
              have hpl : (pairs (V.take j)).length ≤ 4000000000 := by have := pairs_len (V.take j) (by rw [List.length_take]; omega); rw [List.length_take] at this; omega
              go_wp2_with fail
              go_region_with (refine Calls.mono (bld_int W0.heap.size W0.heap.size (pairs (V.take j)) _ (16 * V[j] + V[j + 1]) ?_ _ ?_ (by omega) ?_) ?_; (focus exact u8_pair _ _); (focus exact HB2.out); (focus exact z2); rintro e w4 ⟨rfl, hB4, hb4, _⟩)
              all_goals
                go_wp2
                go_roundw
                case rel => exact ⟨j + 2, by omega, by omega, by go_num, by rw [HPT.out]; exact hB4, hb2.drew.trans hb4⟩
                case measure => simp [intOf]; omega
            · obtain rfl : j = V.length := by omega
              rw [List.take_length] at HB2
              have hbig : 65536 < (pairs V).length ∨ (pairs V).length ≤ 65536 := by omega
              rcases hbig with hg | hg
              · have hg2 : (65536 : Int) < ((pairs V).length : Int) := by omega
                go_wp2_with (go_at_call 176; refine (bld_len W0.heap.size W0.heap.size (pairs V) _ HB2.out).mono ?_; rintro e w3 ⟨rfl, rfl⟩)
                go_ret3
                exact ⟨by rw [HP.out, if_pos hg]; rfl, hb.trans (hb2.mono hb.size)⟩
              · have hg2 : ((pairs V).length : Int) ≤ 65536 := by omega
                go_wp2_with (first
                  | (go_at_call 176; refine (bld_len W0.heap.size W0.heap.size (pairs V) _ HB2.out).mono ?_; rintro e w3 ⟨rfl, rfl⟩)
                  | (go_at_call 64; refine (bld_string W0.heap.size W0.heap.size (pairs V) _ HB2.out (by omega)).mono ?_; rintro e w3 ⟨rfl, hb3⟩))
                go_ret3
                exact ⟨by rw [HP.out, if_neg (by omega)]; simp [resV], (hb.trans (hb2.mono hb.size)).trans (hb3.mono (by omega))⟩
      | false =>
        have t62 : (((s[p].toNat : Int)) != 62) = true := by have := not_lit 62 62 rfl h62; simp at this ⊢; exact this
        cases hw : isWhite s[p] with
        | true =>
          have hto := hex_white HL.out hp h62 hw
          have HTO := Lib.hid hto; have HW := Lib.hid hw; have H62 := Lib.hid h62; clear hto hw h62
          go_wp2_with (go_at_call 117; refine (white_any _ _).mono ?_; rintro e w1 ⟨rfl, hb1⟩; rw [HW.out])
          go_roundw
          case rel => exact ⟨p + 1, acc, by omega, by omega, by go_num, by omega, row_keep HO.out hb1, hb.trans (hb1.mono hb.size), HTO.out⟩
          case measure => simp [intOf]; omega
        | false =>
          have hxr := hexv_range s[p]
          by_cases hx : hexv s[p] < 0
          · have hr := hex_bad HL.out hp h62 hw hx
            have HR := Lib.hid hr; have HW := Lib.hid hw; have H62 := Lib.hid h62; clear hr hw h62
            go_wp2_with (first
              | (go_at_call 117; refine (white_any _ _).mono ?_; rintro e w1 ⟨rfl, hb1⟩; rw [HW.out])
              | (go_at_call 175; refine (hex_any _ _).mono ?_; rintro e w2 ⟨rfl, rfl⟩))
            go_ret3
            exact ⟨by rw [HR.out]; rfl, hb.trans (hb1.mono hb.size)⟩
          · have hto := hex_digit HL.out hp h62 hw hx
            have hv := hexv_byte hx
            have HV := Lib.hid hv; clear hv
            have HTO := Lib.hid hto; have HW := Lib.hid hw; have H62 := Lib.hid h62; clear hto hw h62
            obtain ⟨hx1, hx2⟩ := hxr
            go_wp2_with (first
              | (go_at_call 117; refine (white_any _ _).mono ?_; rintro e w1 ⟨rfl, hb1⟩; rw [HW.out]; have z1 := hb1.size)
              | (go_at_call 175; refine (hex_any _ _).mono ?_; rintro e w2 ⟨rfl, rfl⟩)
              | (at_builtin; refine wpList_append_own _ rfl _ _ 79 rfl w.heap.size 5 i0 (.int .u8 0) 1 1 Tryz.underlying79 hi hz0 hz1 hz2 rfl (by decide) _ _ _ rfl ((row_keep HO.out hb1).alloc _) ⟨w1.heap.size, 0, none⟩ 1 1 [.int .u8 (hexv s[p])] rfl rfl ?c1 ?c2 ?c3 ?c4 ?c5 ?_))
            case c1 => exact cell_one_new _ _ _
            case c2 => intro u hu; simp at hu; subst hu; rfl
            case c3 => unfold maxLen; omega
            case c4 => omega
            case c5 => simp; omega
            intro v' w3 hown' hgrow _
            obtain ⟨ao, n', cap, rfl⟩ : ∃ ao n' cap, v' = .slice ao n' cap := by
              obtain ⟨ao, c, h, _⟩ := row_form hown'
              exact ⟨ao, _, c, h⟩
            go_wp2
            go_roundw
            case rel =>
              refine ⟨p + 1, acc ++ [UInt8.ofNat (hexv s[p]).toNat], by omega, by omega, by go_num, by simp; omega, ?_, ?_, HTO.out⟩
              · rw [HV.out] at hown'; rw [Lib.byteCells_append]; simpa [Lib.byteCells] using hown'
              · exact ((hb.trans (hb1.mono hb.size)).alloc (by omega) _).grown hgrow (by simp; omega) (fun k hk => own_base HO.out k hk)
            case measure => simp [intOf]; omega
    · have hr := hex_end HL.out (by omega)
      have HR := Lib.hid hr; clear hr
      go_wp2
      go_ret3
      exact ⟨by rw [HR.out]; rfl, hb⟩
end Go.Proofs.YtgkhnpldjdbmoaaGreatDoor
