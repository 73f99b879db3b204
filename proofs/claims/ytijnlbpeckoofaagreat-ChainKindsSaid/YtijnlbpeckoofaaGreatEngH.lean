/- A machine that runs closed calls: append. -/
import Derived.Test.YtijnlbpeckoofaaGreatEngG
set_option linter.unusedVariables false
set_option linter.unusedSimpArgs false
namespace Go.Proofs.YtijnlbpeckoofaaGreat
open Go.RowKit
variable {P : Program} {base : Nat} {Γ : Tie} {m : Mem} {w : World} {ev : Operand → Option AV} {ρ : Operand → Value}

theorem small_fits {need old bytes : Nat} (h : old < need) (hb : need * bytes ≤ small) : Builtin.nextslicecap need old * bytes ≤ 281474976710656 :=
  growslice_fits h (by unfold small at hb; omega)
/-- A row that is new: a slice of it. -/
theorem grown_moves {w' : World} {c : Array Value} {elem : TypeId} {cs : List AV} {need cap size : Nat} {rest : Array Value} {vs : List Value} (hR : Rep base Γ m.H w) (hn : Γ m.next = none) (hc : c = vs.toArray ++ rest) (hr : relL Γ cs vs) (hlen : cs.length = need * size) (hsz : c.size = cap * size) (hcap : need ≤ cap) (hpos : 0 < size)
    (hw : w' = w.drew.alloc (.cells c elem)) :
    ∃ Γ', rel Γ' (.slice m.next 0 need need size) (.slice (some ⟨w.heap.size, 0, none⟩) need cap) ∧ Moves base Γ m w Γ' (m.push (cellsObj cs elem true)) w' := by
  subst hw
  refine ⟨tieA Γ m.next ⟨w.heap.size, c.size⟩, ?_, Moves.push hR hn rfl rfl rfl rfl ?_⟩
  · simp only [rel]
    exact ⟨_, cap, tie_self, rfl, fun _ => ⟨hcap, by simp [hsz]⟩, fun h => by omega⟩
  · have hl := hr.length
    refine ⟨c, 0, 0, rfl, rfl, ?_, (fun h => by cases h), fun j a hj ha => ?_, fun _ off _ => by omega⟩
    · rw [hsz, hlen]; exact Nat.mul_le_mul_right _ hcap
    · rw [PT.get_fill, if_pos ⟨Nat.zero_le _, by simpa using hj⟩] at ha
      obtain ⟨x, h1, h2⟩ := hr.get (by simpa using ha)
      refine ⟨x, ?_, h2⟩
      rw [hc, Array.getElem?_append_left (by simp; omega)]
      simpa using h1
theorem appendA_run (hR : Rep base Γ m.H w) {st xt : TypeId} {s x v : AV} {m' : Mem} (h : appendA P m st xt s x = some (v, m')) (hF : Fresh Γ m m') {sv xv : Value} (hs : rel Γ s sv) (hx : rel Γ x xv) (ty : TypeId) :
    ∃ c w' Γ', (Builtin.append_ #[st, xt] ty #[sv, xv]).run P w = .ok c w' ∧ rel Γ' v c ∧ Moves base Γ m w Γ' m' w' := by
  unfold appendA at h
  split at h
  case h_2 => cases h
  rename_i elem ht
  split at h
  case h_2 => cases h
  rename_i size bytes zz k new hsz hby hzz hnew
  obtain ⟨i, hi, his⟩ := sizeA_info hsz
  obtain ⟨j, hj, hib⟩ := bytesA_run hby
  rw [hi] at hj; cases hj
  obtain ⟨j, z, hj, hz, hzr⟩ := zeroA_info hzz Γ
  rw [hi] at hj; cases hj
  obtain ⟨news, hN, hnr⟩ := newsA_ok hR hnew hx hi
  have hnl : new.length = k * i.size := by rw [hnr.length, hN.len]
  cases hpos : (Nat.blt 0 size && Nat.beq zz.cells.length size) with
  | false => rw [hpos] at h; cases h
  | true =>
  rw [hpos] at h
  simp only [Bool.and_eq_true] at hpos
  have hpos' : 0 < i.size := by rw [his]; exact nblt hpos.1
  have hzs : z.cells.size = i.size := by
    rw [his, ← Nat.eq_of_beq_eq_true hpos.2, hzr.cells.length]; simp
  simp only [cond_true] at h
  split at h
  · simp only [rel] at hs; subst hs
    cases hk0 : Nat.beq k 0 with
    | true =>
      rw [hk0] at h; cases h
      have hk : k = 0 := Nat.eq_of_beq_eq_true hk0
      subst hk
      have hnil : news = [] := List.eq_nil_of_length_eq_zero (by rw [hN.len]; simp)
      subst hnil
      refine ⟨.slice none 0 0, w, Γ, ?_, by simp only [rel], Moves.refl hR⟩
      cases hN with
      | src hs => rcases hs.kind with ⟨e', hk⟩ | hk <;> simp [Builtin.append_, run_underlying ht, run_underlying hk, sizeOf, typeInfo, hi, hs.len, hs.cells]
      | zeros k k' z hk hx hz hs h hn hb one =>
        subst hx
        simp [Builtin.append_, run_underlying ht, run_underlying hk, sizeOf, typeInfo, hi, asInt, asIntOf, IntKind.wrap, IntKind.bits, IntKind.signed]
    | false =>
      rw [hk0] at h
      simp only [cond_false] at h
      have hk : k ≠ 0 := by rintro rfl; cases hk0
      cases hc : (Nat.ble (k * bytes) small && Nat.ble k small) with
      | false => rw [hc] at h; cases h
      | true =>
        rw [hc] at h; cases h
        simp only [Bool.and_eq_true] at hc
        have hb := Nat.le_of_ble_eq_true hc.1
        have hks := Nat.le_of_ble_eq_true hc.2
        have hg := append_grow (P := P) (w := w) (ty := ty) (base := none) (sLen := 0) (sCap := 0) (olds := []) ht hi hz (by simp [Builtin.firstCells]) hN (by omega) (by unfold small at hks; simp; omega) (by rw [hib]; exact small_fits (by omega) (by simpa using hb))
        simp only [Nat.zero_add, List.nil_append] at hg
        have hge := grownCap_ge w k 0 elem
        obtain ⟨Γ', h1, h2⟩ := grown_moves (need := k) (cap := grownCap w k 0 elem) (size := i.size) (elem := elem) (vs := news) (rest := Builtin.zeroCells z.cells (grownCap w k 0 elem - k)) hR (hF _ (Nat.le_refl _) (Nat.lt_succ_self _)) rfl hnr hnl (by
          simp [zeroCells_size, hzs, hN.len, ← Nat.add_mul]; congr 1; omega) hge hpos' rfl
        rw [← his]
        exact ⟨_, _, Γ', hg, h1, h2⟩
  · rename_i b off len cap e
    simp only [rel] at hs
    obtain ⟨bi, c, hbi, rfl, hc1, hc2⟩ := hs
    have hcap : cap ≤ c := by
      by_cases he : e = 0
      · exact Nat.le_of_eq (hc2 he).symm
      · exact (hc1 he).1
    cases hroom : Nat.ble (len + k) cap with
    | true =>
      rw [hroom] at h
      simp only [cond_true] at h
      have hroom' := Nat.le_of_ble_eq_true hroom
      split at h
      case h_2 => cases h
      rename_i n tr el opn fz hb
      cases hcond : (Nat.ble (off + (len + k) * size) n && !fz && new.all one) with
      | false => rw [hcond] at h; cases h
      | true =>
        rw [hcond] at h; cases h
        simp only [Bool.and_eq_true, Bool.not_eq_true'] at hcond
        obtain ⟨⟨h1, h2⟩, h3⟩ := hcond
        subst h2
        have h1' := Nat.le_of_ble_eq_true h1
        rw [← his] at h1'
        obtain ⟨i', cc, lo, hi', g1, g2, g3, g4, g5, g6, g7, g8⟩ := hR.row hb
        rw [hbi] at g1; cases g1
        have hle : off + len * i.size + news.length ≤ cc.size := by
          rw [hN.len]
          have : (len + k) * i.size = len * i.size + k * i.size := Nat.add_mul _ _ _
          omega
        have hst := storeCells_run (P := P) (off := off + len * i.size) news 0 cc w g3 (by simpa using hle) (fun j hj => by simpa using g8 rfl (off + len * i.size + j) (by omega)) hN.allOne
        have hrun := append_room (P := P) (ty := ty) ht hi hN (by omega : len + k ≤ c) hst
        rw [← his]
        refine ⟨_, _, Γ, hrun, ?_, Moves.put hR hb hbi rfl (w' := upd w bi.blk (.cells ⟨setAt cc.toList (off + len * i.size + 0) news⟩ el (lo, hi'))) rfl rfl rfl rfl (relO_write g4 g5 g6 g7 (g8 rfl) hnr hle (.inl rfl))⟩
        simp only [rel]
        exact ⟨bi, c, hbi, rfl, hc1, hc2⟩
    | false =>
      rw [hroom] at h
      simp only [cond_false] at h
      have hroom' : cap < len + k := by
        have : ¬ (len + k ≤ cap) := fun q => by rw [Nat.ble_eq_true_of_le q] at hroom; cases hroom
        omega
      cases hsm : (Nat.ble ((len + k) * bytes) small && Nat.ble (len + k) small) with
      | false => rw [hsm] at h; cases h
      | true =>
      rw [hsm] at h
      simp only [Bool.and_eq_true] at hsm
      have hb8 := Nat.le_of_ble_eq_true hsm.1
      have hks := Nat.le_of_ble_eq_true hsm.2
      simp only [cond_true] at h
      split at h
      case h_2 => cases h
      rename_i n tr el opn fz hb
      cases hle : Nat.ble (off + len * size) n with
      | false => rw [hle] at h; cases h
      | true =>
      rw [hle] at h
      simp only [cond_true] at h
      have hle' := Nat.le_of_ble_eq_true hle
      split at h
      case h_2 => cases h
      rename_i old hold
      obtain ⟨olds, o1, o2, o3⟩ := row_cells hR hb hbi hle' hold
      have hfirst : (Builtin.firstCells i.size len (.slice (some ⟨bi.blk, off, none⟩) len c)).run P w.drew = .ok olds.toArray w.drew :=
        run_firstCells_some w.drew i.size len ⟨bi.blk, off, none⟩ len c olds (by rw [o1, his]) (by simpa using o2)
      have hlen : (old ++ new).length = (len + k) * i.size := by
        rw [List.length_append, o3.length, o1, hnl, his, ← Nat.add_mul]
      have hrl : relL Γ (old ++ new) (olds ++ news) := o3.append hnr
      have grow : c < len + k → ∀ {M : Mem}, Rep base Γ M.H w → Γ M.next = none → ∃ cv w' Γ', (Builtin.append_ #[st, xt] ty #[.slice (some ⟨bi.blk, off, none⟩) len c, xv]).run P w = .ok cv w' ∧ rel Γ' (.slice M.next 0 (len + k) (len + k) i.size) cv ∧ Moves base Γ M w Γ' (M.push (cellsObj (old ++ new) elem true)) w' := by
        intro hlt M hRM hnM
        have hg := append_grow (P := P) (w := w) (ty := ty) ht hi hz hfirst hN hlt (by unfold small at hks; omega) (by rw [hib]; exact small_fits hlt hb8)
        have hge := grownCap_ge w (len + k) c elem
        obtain ⟨Γ', h1, h2⟩ := grown_moves (need := len + k) (cap := grownCap w (len + k) c elem) (size := i.size) (elem := elem) (vs := olds ++ news) (rest := Builtin.zeroCells z.cells (grownCap w (len + k) c elem - (len + k))) hRM hnM rfl hrl hlen (by
          simp only [Array.size_append, List.size_toArray, zeroCells_size, hzs]
          have : (olds ++ news).length = (len + k) * i.size := by rw [← hrl.length, hlen]
          rw [this, ← Nat.add_mul]; congr 1; omega) hge hpos' rfl
        exact ⟨_, _, Γ', hg, h1, h2⟩
      cases he : Nat.beq e 0 with
      | true =>
        rw [he] at h; cases h
        have he0 : e = 0 := Nat.eq_of_beq_eq_true he
        have := hc2 he0
        rw [← his]
        exact grow (by omega) hR (hF _ (Nat.le_refl _) (Nat.lt_succ_self _))
      | false =>
        rw [he] at h
        simp only [cond_false] at h
        have he0 : e ≠ 0 := by rintro rfl; cases he
        cases hcond : (Nat.beq e size && Nat.beq off 0 && Nat.beq el elem && !fz && new.all one) with
        | false => rw [hcond] at h; cases h
        | true =>
        rw [hcond] at h; cases h
        simp only [Bool.and_eq_true, Bool.not_eq_true'] at hcond
        obtain ⟨⟨⟨⟨q1, q2⟩, q3⟩, q4⟩, q5⟩ := hcond
        have q1' : e = i.size := by rw [his]; exact Nat.eq_of_beq_eq_true q1
        have q2' : off = 0 := Nat.eq_of_beq_eq_true q2
        have q3' : el = elem := Nat.eq_of_beq_eq_true q3
        subst q4 q2' q3'
        rw [← his]
        have hn0 : Γ m.next = none := hF _ (Nat.le_refl _) (Nat.lt_succ_self _)
        by_cases hlt : c < len + k
        · have hd := Moves.drop (b := b) hR
          obtain ⟨cv, w', Γ', r1, r2, r3⟩ := grow hlt (M := ⟨m.H.set b none, m.next⟩) hd.rep hn0
          exact ⟨cv, w', Γ', r1, r2, hd.trans r3⟩
        · obtain ⟨i', cc, lo, hi', g1, g2, g3, g4, g5, g6, g7, g8⟩ := hR.row hb
          rw [hbi] at g1; cases g1
          obtain ⟨hc3, hc4⟩ := hc1 he0
          rw [q1'] at hc4
          have hmul : (len + k) * i.size ≤ c * i.size := Nat.mul_le_mul_right _ (by omega)
          have hadd : (len + k) * i.size = len * i.size + k * i.size := Nat.add_mul _ _ _
          have hle2 : 0 + len * i.size + news.length ≤ cc.size := by rw [hN.len]; omega
          have hst := storeCells_run (P := P) (off := 0 + len * i.size) news 0 cc w g3 (by simpa using hle2) (fun j hj => by simpa using g8 rfl (0 + len * i.size + j) (by omega)) hN.allOne
          have hrun := append_room (P := P) (ty := ty) ht hi hN (by omega : len + k ≤ c) hst
          have hsl : (setAt cc.toList (0 + len * i.size + 0) news).length = cc.size := by rw [setAt_length]; simp
          refine ⟨_, _, tieA Γ m.next bi, hrun, ?_, Moves.shift hR hb hbi rfl hn0 ?_⟩
          · simp only [rel]
            exact ⟨bi, c, tie_self, rfl, fun _ => ⟨by omega, by omega⟩, fun h => absurd h (by omega)⟩
          · refine ⟨_, lo, hi', rfl, by simp only [List.size_toArray, hsl]; exact g4, by simp only [List.size_toArray, hsl, hlen]; omega, (fun h => by cases h), fun j a hj ha => ?_, fun _ o ho => g8 rfl o (by simp only [List.size_toArray, hsl] at ho; exact ho)⟩
            rw [PT.get_fill, if_pos ⟨Nat.zero_le _, by simpa using hj⟩] at ha
            obtain ⟨x, x1, x2⟩ := hrl.get (by simpa using ha)
            refine ⟨x, ?_, x2⟩
            have hg : ((⟨setAt cc.toList (0 + len * i.size + 0) news⟩ : Array Value))[j]? = (setAt cc.toList (0 + len * i.size + 0) news)[j]? := by simp
            have ol : olds.length = len * i.size := by rw [o1, his]
            rw [hg, setAt_get news cc.toList _ j (by simpa using hle2)]
            by_cases hjl : j < olds.length
            · rw [if_neg (by omega)]
              rw [List.getElem?_append_left hjl] at x1
              have := o2 j x x1
              rw [addr_add, cellAt g3] at this
              simpa using this
            · rw [List.getElem?_append_right (by omega)] at x1
              have : j - olds.length < news.length := (List.getElem?_eq_some_iff.1 x1).1
              rw [if_pos (by omega)]
              rw [show j - (0 + len * i.size + 0) = j - olds.length by omega]
              exact x1
  · cases h
end Go.Proofs.YtijnlbpeckoofaaGreat
