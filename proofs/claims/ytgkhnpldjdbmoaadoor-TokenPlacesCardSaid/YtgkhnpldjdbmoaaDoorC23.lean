/- The walk of TokenBlanks. -/
import Derived.Test.YtgkhnpldjdbmoaaDoorC22
set_option linter.unusedVariables false
set_option linter.unusedSimpArgs false
namespace Go.Proofs.YtgkhnpldjdbmoaaDoor
open Go.RowKit

theorem spread_append (g l : Bytes) : ∀ (a b : List Tok), spread g l (a ++ b) = spread g l a ++ spread g l b := by
  intro a b
  induction a with
  | nil => rfl
  | cons t a ih => simp [spread, ih]
theorem spread_next (g l : Bytes) (ts : List Tok) (k : Nat) (h : k < ts.length) : spread g l (ts.take (k + 1)) = spread g l (ts.take k) ++ g ++ (l.drop ts[k].from_).take (ts[k].to - ts[k].from_) := by
  rw [List.take_succ_eq_append_getElem h, spread_append]
  simp [spread]
theorem spread_len (g l : Bytes) (hg : g.length ≤ 6) : ∀ ts : List Tok, (spread g l ts).length ≤ ts.length * (6 + l.length) := by
  intro ts
  induction ts with
  | nil => simp [spread]
  | cons t ts ih =>
    have : ((l.drop t.from_).take (t.to - t.from_)).length ≤ l.length := by rw [List.length_take, List.length_drop]; omega
    simp only [spread, List.length_append, List.length_cons, Nat.add_mul, Nat.one_mul]
    omega
theorem extract_tok (s : ByteArray) (a b : Nat) : (s.extract a b).data.toList = (s.data.toList.drop a).take (b - a) := by
  rw [ByteArray.data_extract, Array.toList_extract, List.extract_eq_take_drop]

/-- Where there are tokens, the slice lies in a block that holds them. -/
def HoldsIf (w : World) (ao : Option Addr) (ts : List Tok) : Prop := 0 < ts.length → ∃ g, ao = some ⟨g, 0, none⟩ ∧ Holds w g ts
theorem HoldsIf.below {w w1 : World} {ao : Option Addr} {ts : List Tok} (h : HoldsIf w ao ts) (hb : Below w.heap.size w w1) : HoldsIf w1 ao ts := fun h0 => by
  obtain ⟨g, h1, h2⟩ := h h0
  exact ⟨g, h1, h2.below hb⟩
theorem all_gen (s : ByteArray) (ts : List Tok) (a e0 : Nat) (hs : s.size ≤ 4000000000) (h : all s.data.toList = (ts, a, e0)) (w : World) (he : Env w) :
    Calls Tryd.prog 7 #[.string s] w fun e w' => ∃ ao cap, e = .returned (.tuple #[.slice ao ts.length cap, .int .i64 a, .int .i64 e0]) ∧ HoldsIf w' ao ts ∧ Below w.heap.size w w' := by
  by_cases h0 : 0 < ts.length
  · exact (all_is s ts a e0 hs h h0 w he).mono fun e w' h => by
      obtain ⟨g, cap, rfl, h1, h2, h3, _, h4⟩ := h
      exact ⟨_, cap, rfl, fun _ => ⟨g, rfl, h1⟩, h4⟩
  · obtain rfl : ts = [] := List.eq_nil_of_length_eq_zero (by omega)
    exact (all_none s a e0 hs h w he).mono fun e w' h => by
      obtain ⟨ao, cap, rfl, h4⟩ := h
      exact ⟨ao, cap, rfl, fun h => by simp at h, h4⟩
theorem like_gen (ts us : List Tok) (ht : us.map (·.t) = ts.map (·.t)) (a1 a2 : Option Addr) (c1 c2 : Nat) (w : World) (hn : ts.length ≤ 4000000000) (h1 : HoldsIf w a1 ts) (h2 : HoldsIf w a2 us) :
    Calls Tryd.prog 12 #[.slice a1 ts.length c1, .slice a2 ts.length c2] w fun e w' => e = .returned (.bool true) ∧ Below w.heap.size w w' := by
  have hlen : us.length = ts.length := by have := congrArg List.length ht; simpa using this
  by_cases h0 : 0 < ts.length
  · obtain ⟨g1, rfl, k1⟩ := h1 h0
    obtain ⟨g2, rfl, k2⟩ := h2 (by omega)
    exact like_any ts us ht g1 g2 c1 c2 w hn k1 k2
  · obtain rfl : ts = [] := List.eq_nil_of_length_eq_zero (by omega)
    exact like_none a1 a2 c1 c2 w

set_option maxRecDepth 100000 in
set_option maxHeartbeats 4000000 in
theorem blanks_any (s : ByteArray) (gap : UInt8) (w : World) (he : Env w) :
    Calls Tryd.prog 5 #[.string s, .int .u8 gap.toNat] w fun e w' => e = .returned (.bool true) ∧ Below w.heap.size w w' := by
  have hz := size_list s
  by_cases hbig : 1500 < s.size
  · have hd : decide ((1500 : Int) < (s.size : Int)) = true := by simp; omega
    have hbg : (1500 : Int) < (s.size : Int) := by omega
    clear hz hbig
    go_enter Tryd.func5, Tryd.ntmps5
    go_wp2_with (go_at_call 6; refine (lives_any _ he).mono ?_; rintro e w1 ⟨rfl, hb1⟩)
    go_ret
    exact ⟨rfl, hb1⟩
  · have hd : decide ((1500 : Int) < (s.size : Int)) = false := by simp; omega
    have hbg : ¬ ((1500 : Int) < (s.size : Int)) := by omega
    rcases ha : all s.data.toList with ⟨ts, a, e0⟩
    have htk : Toks s.data.toList 0 ts a e0 := by have := all_toks s.data.toList; rw [ha] at this; exact this
    have hsz : s.size ≤ 1500 := by omega
    have hA := all_gen s ts a e0 (by omega) ha
    have HA := Lib.hid hA; clear hA
    by_cases hbad : e0 = 0
    · have hok : ((e0 : Int) != 0) = false := by simp; omega
      have hto := fun k (hk : k < ts.length) => toks_to htk (by omega) k hk
      have hln : ts.length ≤ 1500 := by have := toks_len htk (by omega); omega
      have HT := Lib.hid hto; have HZ := Lib.hid hz; clear hto hz htk hbig hbad
      have hSP := fun g hg => all_spread s.data.toList g hg
      rw [ha] at hSP
      have HSP := Lib.hid hSP; clear hSP ha
      have hmod : ∃ m : Nat, m < 4 ∧ IntKind.u8.wrap ((gap.toNat : Int).tmod 4) = m ∧ (gap.toNat : Int).tmod 4 = m := by
        have h := Int.tmod_eq_emod_of_nonneg (a := (gap.toNat : Int)) (b := 4) (by omega)
        refine ⟨gap.toNat % 4, by omega, ?_, ?_⟩
        · rw [IntKind.wrap_u8, h]; omega
        · rw [h]; omega
      obtain ⟨m, hm4, hm1, hm2⟩ := hmod
      go_enter Tryd.func5, Tryd.ntmps5
      go_upto_region 8 with (first
        | (go_at_call 6; refine (lives_any _ he).mono ?_; rintro e w1 ⟨rfl, hb1⟩; have he1 := he.below hb1)
        | (go_at_call 7; refine (HA.out _ he1).mono ?_; rintro e w2 ⟨ao, cap, rfl, hh, hb2⟩; have HH := Lib.hid hh; clear hh; have he2 := he1.below hb2))
      go_cut [8] (fun c8 wx => ∃ G : Bytes, Gap G ∧ G.length ≤ 6 ∧ c8 = .string (bs G) ∧ Below w2.heap.size w2 wx)
      case first =>
        have h4 : m = 0 ∨ m = 1 ∨ m = 2 ∨ m = 3 := by omega
        rcases h4 with rfl | rfl | rfl | rfl
        all_goals
          go_wp2
          go_meet
          exact ⟨_, gap_of (by simp), by simp, rfl, (Below.refl _ _).alloc (Nat.le_refl _) _⟩
      case rest =>
      obtain ⟨G, hG, hGl, rfl, hb3⟩ := hcut
      have hW := HH.out.below hb3
      have HW := Lib.hid hW; clear hW
      have hew := he2.below hb3
      obtain ⟨us, a2, e2, hall, hmap⟩ : ∃ us a2 e2, all (spread G s.data.toList ts ++ G) = (us, a2, e2) ∧ e2 = 0 ∧ us.map (·.t) = ts.map (·.t) := by
        have := HSP.out G hG
        rcases hx : all (spread G s.data.toList ts ++ G) with ⟨us, a2, e2⟩
        rw [hx] at this
        exact ⟨us, a2, e2, rfl, this⟩
      obtain ⟨rfl, hmap⟩ := hmap
      have hlen : us.length = ts.length := by have := congrArg List.length hmap; simpa using this
      have hsp := spread_len G s.data.toList hGl ts
      have hspl : (spread G s.data.toList ts).length ≤ 3000000 := by
        have h1 : ts.length * (6 + s.data.toList.length) ≤ 1500 * 1506 := Nat.mul_le_mul hln (by have := HZ.out; omega)
        omega
      have hB := all_gen (bs (spread G s.data.toList ts ++ G)) us a2 0 (by rw [bs_size, List.length_append]; omega) (by rw [bs_list]; exact hall)
      rw [hlen, ← bs_append] at hB
      have HB := Lib.hid hB; clear hB hall
      have hL := fun a1 a2 c1 c2 W => like_gen ts us hmap a1 a2 c1 c2 W (by omega)
      have HL := Lib.hid hL; clear hL hlen hsp
      have HM := Lib.hid hmap; clear hmap
      have HG := Lib.hid hG; clear hG
      go_wp2
      go_loopw [9, 10] (fun t i wr => ∃ k : Nat, k ≤ ts.length ∧ i = .int .i64 k ∧ t = .string (bs (spread G s.data.toList (ts.take k))) ∧ ∃ n, wr = wc.drewN n) (fun _ i _ => ts.length - (intOf i).toNat)
      case atStart => exact ⟨0, by omega, rfl, rfl, 0, rfl⟩
      case round =>
        obtain ⟨k, hk, rfl, rfl, n, rfl⟩ := hrel
        by_cases hlt : k < ts.length
        · obtain ⟨g, rfl, hh⟩ := HW.out (by omega)
          obtain ⟨_, _, _, c3, c4⟩ := hh k hlt
          obtain ⟨hF, hT, hFT⟩ := HT.out k hlt
          have hnx := spread_next G s.data.toList ts k hlt
          have hX : (spread G s.data.toList (ts.take k)).length ≤ 3000000 := by
            have h1 := spread_len G s.data.toList hGl (ts.take k)
            have h2 : (ts.take k).length * (6 + s.data.toList.length) ≤ 1500 * 1506 := Nat.mul_le_mul (by rw [List.length_take]; omega) (by have := HZ.out; omega)
            omega
          generalize spread G s.data.toList (ts.take k) = X at *
          generalize ts[k].from_ = F at *
          generalize ts[k].to = T at *
          have hxe := extract_tok s F T
          have hEQ : bs X ++ bs G ++ s.extract F T = bs (spread G s.data.toList (ts.take (k + 1))) := by
            rw [hnx, ← hxe, ← bs_append, ← bs_append, list_bs]
          have HEQ := Lib.hid hEQ; clear hEQ hnx hxe
          have z1 : (bs X).size ≤ 3000000 := by rw [bs_size]; exact hX
          have z2 : (bs G).size ≤ 6 := by rw [bs_size]; exact hGl
          have hTs : T ≤ s.size := by rw [HZ.out]; exact hT
          have z3 : (s.extract F T).size ≤ 1500 := by rw [ByteArray.size_extract]; omega
          have hFT2 : F ≤ T := by omega
          have hTi : (T : Int) ≤ (s.size : Int) := by omega
          have hFi : (F : Int) ≤ (T : Int) := by omega
          have hF0 : (0 : Int) ≤ (F : Int) := by omega
          have g1 : decide ((k : Int) < 0) = false := by simp
          have g2 : decide (ts.length ≤ k) = false := by simp; omega
          have g3 : decide ((ts.length : Int) ≤ (k : Int)) = false := by simp; omega
          have g4 : decide ((k : Int) < (ts.length : Int)) = true := by simp; omega
          go_upto_region 13 with fail
          go_quiet (fail)
          go_wp2
          go_roundw
          case rel => exact ⟨k + 1, by omega, by go_num, congrArg Value.string HEQ.out, n + nq, by simp [World.drewN_drewN]⟩
          case measure => simp [intOf]; omega
        · obtain rfl : k = ts.length := by omega
          rw [List.take_length]
          have z1 : (bs (spread G s.data.toList ts)).size ≤ 3000000 := by rw [bs_size]; exact hspl
          have z2 : (bs G).size ≤ 6 := by rw [bs_size]; exact hGl
          have hbd : Below wc.heap.size wc (wc.drewN n) := below_drewN (Below.refl _ _) n
          go_wp2_with (first
            | (go_at_call 7; refine (HB.out _ (hew.below hbd)).mono ?_; rintro e w5 ⟨ao2, cap2, rfl, hh5, hb5⟩; have HH5 := Lib.hid hh5; clear hh5)
            | (go_at_call 12; refine (HL.out _ _ _ _ _ ((HW.out.below hbd).below hb5) HH5.out).mono ?_; rintro e w6 ⟨rfl, hb6⟩))
          go_ret
          have q1 := hb1.size; have q2 := hb2.size; have q3 := hb3.size; have q4 := hbd.size; have q5 := hb5.size
          exact ⟨rfl, (((((hb1.trans (hb2.mono q1)).trans (hb3.mono (by omega))).trans (hbd.mono (by omega))).trans (hb5.mono (by omega))).trans (hb6.mono (by omega)))⟩
    · have hok : ((e0 : Int) != 0) = true := by simp; omega
      clear htk ha hbad hz hbig
      go_enter Tryd.func5, Tryd.ntmps5
      go_wp2_with (first
        | (go_at_call 6; refine (lives_any _ he).mono ?_; rintro e w1 ⟨rfl, hb1⟩; have he1 := he.below hb1)
        | (go_at_call 7; refine (HA.out _ he1).mono ?_; rintro e w2 ⟨ao, cap, rfl, hh, hb2⟩))
      go_ret
      exact ⟨rfl, hb1.trans (hb2.mono hb1.size)⟩
end Go.Proofs.YtgkhnpldjdbmoaaDoor
