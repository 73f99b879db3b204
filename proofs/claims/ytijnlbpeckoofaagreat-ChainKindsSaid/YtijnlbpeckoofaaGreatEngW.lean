/- A machine that runs closed calls: places, parts, entries. -/
import Derived.Test.YtijnlbpeckoofaaGreatEngQ
set_option linter.unusedVariables false
set_option linter.unusedSimpArgs false
namespace Go.Proofs.YtijnlbpeckoofaaGreat
open Go.RowKit
variable {P : Program} {base : Nat} {Γ : Tie} {m : Mem} {w : World} {ev : Operand → Option AV} {ρ : Operand → Value}

theorem addr_add (b o n : Nat) : (⟨b, o, none⟩ : Addr).add n = ⟨b, o + n, none⟩ := by
  unfold Addr.add; split <;> simp_all
theorem rdFieldAddr_ok (hev : Evals Γ ev ρ) {s : TypeId} {x : Operand} {f : Nat} {v : AV} (h : rdFieldAddr P m ev s x f = some v) : Gives P Γ w ρ (.fieldAddr s x f) v := by
  intro dst type pos after guard
  unfold rdFieldAddr at h
  split at h
  case h_2 => cases h
  rename_i fs b off hu hx
  split at h
  case h_2 => cases h
  rename_i fd hf
  split at h
  case h_2 => cases h
  rename_i n hn
  cases h0 : Nat.beq n 0 with
  | true => rw [h0] at h; cases h
  | false =>
    rw [h0] at h; cases h
    have hn0 : n ≠ 0 := by rintro rfl; cases h0
    have := hev _ _ hx; simp only [rel] at this
    obtain ⟨i, hi, e⟩ := this
    refine ⟨.pointer (some ⟨i.blk, off + fd.offset, none⟩), ?_, by simp only [rel]; exact ⟨i, hi, rfl⟩⟩
    simp [execOp, Instr.fieldAt, run_underlying hu, hf, Instr.sureAddr, e, fieldPlace, sizeA_run hn, hn0, addr_add]
theorem rdField_ok (hev : Evals Γ ev ρ) {t : TypeId} {x : Operand} {f : Nat} {v : AV} (h : rdField P m ev t x f = some v) : Gives P Γ w ρ (.field t x f) v := by
  intro dst type pos after guard
  unfold rdField at h
  split at h
  case h_2 => cases h
  rename_i fs l hu hx
  split at h
  case h_2 => cases h
  rename_i fd hf
  have := hev _ _ hx; simp only [rel] at this
  obtain ⟨vs, e, hr⟩ := this
  obtain ⟨c, h1, h2⟩ := partA_run h hr w
  exact ⟨c, by simp [execOp, Instr.field, run_underlying hu, hf, e, asAgg, h1], h2⟩
theorem rdIndexAddr_ok (hev : Evals Γ ev ρ) {t : TypeId} {x ix : Operand} {v : AV} (h : rdIndexAddr P m ev t x ix = some v) : Gives P Γ w ρ (.indexAddr t x ix) v := by
  intro dst type pos after guard
  unfold rdIndexAddr at h
  split at h
  · rename_i elem b off len cap e k i hu hx hix
    split at h
    case h_2 => cases h
    rename_i s hs
    cases hlt : Nat.blt i len with
    | false => rw [hlt] at h; cases h
    | true =>
      rw [hlt] at h; cases h
      have h1 := hev _ _ hx; have h2 := hev _ _ hix
      simp only [rel] at h1 h2
      obtain ⟨j, c, hj, e1, _⟩ := h1
      refine ⟨.pointer (some ⟨j.blk, off + i * s, none⟩), ?_, by simp only [rel]; exact ⟨j, hj, rfl⟩⟩
      have := nblt hlt
      simp [execOp, Instr.indexAt, h2, asIntOf, run_underlying hu, e1, sizeA_run hs, addr_add, this]
  · rename_i len elem b off k i hu hx hix
    split at h
    case h_2 => cases h
    rename_i s hs
    cases hlt : Nat.blt i len with
    | false => rw [hlt] at h; cases h
    | true =>
      rw [hlt] at h; cases h
      have h1 := hev _ _ hx; have h2 := hev _ _ hix
      simp only [rel] at h1 h2
      obtain ⟨j, hj, e1⟩ := h1
      refine ⟨.pointer (some ⟨j.blk, off + i * s, none⟩), ?_, by simp only [rel]; exact ⟨j, hj, rfl⟩⟩
      have := nblt hlt
      simp [execOp, Instr.indexAt, h2, asIntOf, run_underlying hu, e1, sizeA_run hs, addr_add, this, Instr.sureAddr]
  · cases h
theorem strOf_get {n x i : Nat} (h : i < n) : (strOf n x)[i]? = some (UInt8.ofNat (x / 256 ^ i % 256)) := by
  have h1 : i < (strOf n x).size := by simp [strOf, ByteArray.size, dec_length]; exact h
  have h2 := dec_get n x i h
  have h3 : (strOf n x)[i]? = some ((strOf n x)[i]'h1) := by simp [h1]
  rw [h3]
  congr 1
  have : (strOf n x)[i]'h1 = (dec n x)[i]'(by rw [dec_length]; exact h) := rfl
  rw [this]
  rw [List.getElem?_eq_getElem (by rw [dec_length]; exact h)] at h2
  exact Option.some.inj h2
theorem rdIndex_ok (hev : Evals Γ ev ρ) {t : TypeId} {x ix : Operand} {v : AV} (h : rdIndex P m ev t x ix = some v) : Gives P Γ w ρ (.index t x ix) v := by
  intro dst type pos after guard
  unfold rdIndex at h
  split at h
  · rename_i len elem l k i hu hx hix
    split at h
    case h_2 => cases h
    rename_i s hs
    cases hlt : Nat.blt i len with
    | false => rw [hlt] at h; cases h
    | true =>
      rw [hlt] at h
      have h1 := hev _ _ hx; have h2 := hev _ _ hix
      simp only [rel] at h1 h2
      obtain ⟨vs, e1, hr⟩ := h1
      obtain ⟨c, h3, h4⟩ := partA_run (P := P) h hr w
      have := nblt hlt
      refine ⟨c, ?_, h4⟩
      simp [execOp, Instr.index, h2, asIntOf, run_underlying hu, e1, sizeA_run hs, this, h3]
  · rename_i n y k i hu hx hix
    cases hlt : Nat.blt i n with
    | false => rw [hlt] at h; cases h
    | true =>
      rw [hlt] at h; cases h
      have h1 := hev _ _ hx; have h2 := hev _ _ hix
      simp only [rel] at h1 h2
      obtain ⟨e1, hlt'⟩ := h1
      refine ⟨.int .u8 (Int.ofNat (y / 256 ^ i % 256)), ?_, by simp only [rel]⟩
      have hg := strOf_get (x := y) (nblt hlt)
      simp [execOp, Instr.index, h2, asIntOf, run_underlying hu, e1, hg]
  · cases h
def relV (Γ : Tie) : Option AV → Option Value → Prop
  | none, v => v = none
  | some a, v => ∃ x, v = some x ∧ rel Γ a x
theorem boundA_some {lim dflt h : Nat} {a : AV} (hb : boundA lim dflt (some a) = some h) {y : Value} (hr : rel Γ a y) {lim' : Nat} (hl : lim ≤ lim') (code : BoundsCode) (w : World) :
    (Instr.sliceBound y lim' code).run P w = .ok h w ∧ h ≤ lim := by
  unfold boundA at hb
  split at hb
  · rename_i e; cases e
  · rename_i k n e
    cases e
    split at hb
    · rename_i i
      cases hle : Nat.ble i lim with
      | false => rw [hle] at hb; cases hb
      | true =>
        rw [hle] at hb; cases hb
        simp only [rel] at hr; subst hr
        have := Nat.le_of_ble_eq_true hle
        exact ⟨by simp [Instr.sliceBound, asIntOf]; omega, this⟩
    · cases hb
  · cases hb
theorem bounds_run {len cap cap' h l : Nat} {hi lo : Option AV} {vh vl : Option Value} (h1 : boundA cap len hi = some h) (h2 : boundA h 0 lo = some l) (hc : cap ≤ cap') (r1 : relV Γ hi vh) (r2 : relV Γ lo vl) (isS : Bool) (w : World) :
    (Instr.sliceBounds isS len cap' vl vh none).run P w = .ok (l, h, cap') w ∧ l ≤ h ∧ (h ≤ cap ∨ h = len) := by
  cases hi with
  | none =>
    simp only [relV] at r1; subst r1
    simp only [boundA, Option.some.injEq] at h1; subst h1
    cases lo with
    | none =>
      simp only [relV] at r2; subst r2
      simp only [boundA, Option.some.injEq] at h2; subst h2
      exact ⟨by simp [Instr.sliceBounds], Nat.zero_le _, .inr rfl⟩
    | some a =>
      obtain ⟨y, rfl, hy⟩ := r2
      obtain ⟨h3, h4⟩ := boundA_some (P := P) h2 hy (Nat.le_refl _) .sliceB w
      exact ⟨by simp [Instr.sliceBounds, h3], h4, .inr rfl⟩
  | some b =>
    obtain ⟨z, rfl, hz⟩ := r1
    obtain ⟨h5, h6⟩ := boundA_some (P := P) h1 hz hc (if isS then .sliceAcap else .sliceAlen) w
    cases lo with
    | none =>
      simp only [relV] at r2; subst r2
      simp only [boundA, Option.some.injEq] at h2; subst h2
      exact ⟨by simp [Instr.sliceBounds, h5], Nat.zero_le _, .inl h6⟩
    | some a =>
      obtain ⟨y, rfl, hy⟩ := r2
      obtain ⟨h3, h4⟩ := boundA_some (P := P) h2 hy (Nat.le_refl _) .sliceB w
      exact ⟨by simp [Instr.sliceBounds, h5, h3], h4, .inl h6⟩
theorem bounds_run3 {len cap cap' k h l : Nat} {mv hv : AV} {lo : Option AV} {vm vh : Value} {vl : Option Value} (h0 : boundA cap 0 (some mv) = some k) (h1 : boundA k 0 (some hv) = some h) (h2 : boundA h 0 lo = some l) (hc : cap ≤ cap') (r0 : rel Γ mv vm) (r1 : rel Γ hv vh) (r2 : relV Γ lo vl) (w : World) :
    (Instr.sliceBounds true len cap' vl (some vh) (some vm)).run P w = .ok (l, h, k) w ∧ l ≤ h ∧ h ≤ k ∧ k ≤ cap := by
  obtain ⟨a1, a2⟩ := boundA_some (P := P) h0 r0 hc .slice3Acap w
  obtain ⟨b1, b2⟩ := boundA_some (P := P) h1 r1 (Nat.le_refl _) .slice3B w
  cases lo with
  | none =>
    simp only [relV] at r2; subst r2
    simp only [boundA, Option.some.injEq] at h2; subst h2
    exact ⟨by simp [Instr.sliceBounds, a1, b1], Nat.zero_le _, b2, a2⟩
  | some a =>
    obtain ⟨y, rfl, hy⟩ := r2
    obtain ⟨h3, h4⟩ := boundA_some (P := P) h2 hy (Nat.le_refl _) .slice3C w
    exact ⟨by simp [Instr.sliceBounds, a1, b1, h3], h4, b2, a2⟩
theorem strOf_extract {n x l h : Nat} (h1 : l ≤ h) (h2 : h ≤ n) : (strOf n x).extract l h = strOf (h - l) (x / 256 ^ l % 256 ^ (h - l)) := by
  apply ByteArray.ext
  apply Array.ext'
  simp only [strOf, ByteArray.data_extract, Array.toList_extract, List.extract_eq_drop_take']
  rw [dec_mod, dec_take h n x h2, dec_drop l h x h1]
theorem sliceA_ok {t : TypeId} {x : AV} {lo hi mx : Option AV} {v : AV} (h : sliceA P t x lo hi mx = some v) {u : Value} (hx : rel Γ x u) {vl vh vm : Option Value} (r1 : relV Γ lo vl) (r2 : relV Γ hi vh) (r3 : relV Γ mx vm) :
    ∃ c, (Instr.sliceAt t u vl vh vm).run P w = .ok c w ∧ rel Γ v c := by
  unfold sliceA at h
  split at h
  · rename_i mv
    obtain ⟨vm', rfl, r3⟩ := r3
    split at h
    case h_2 => cases h
    rename_i elem b off len cap e hv hu
    obtain ⟨vh', rfl, r2⟩ := r2
    split at h
    case h_2 => cases h
    rename_i k hk
    split at h
    case h_2 => cases h
    rename_i h' hh
    split at h
    case h_2 => cases h
    rename_i l s hl hs
    simp only [rel] at hx
    obtain ⟨i, c, hi, rfl, hc1, hc2⟩ := hx
    have hcap : cap ≤ c := by
      by_cases he : e = 0
      · exact Nat.le_of_eq (hc2 he).symm
      · exact (hc1 he).1
    obtain ⟨h3, h4, h5, h6⟩ := bounds_run3 (P := P) (len := len) hk hh hl hcap r3 r2 r1 w
    have hrun : ∀ (ad : Option Addr), (if k = l then some (⟨i.blk, off, none⟩ : Addr) else (some (⟨i.blk, off, none⟩ : Addr)).map (·.add (l * s))) = ad → (Instr.sliceAt t (.slice (some ⟨i.blk, off, none⟩) len c) vl (some vh') (some vm')).run P w = .ok (.slice ad (h' - l) (k - l)) w := by
      rintro ad rfl
      simp [Instr.sliceAt, run_underlying hu, Instr.slice, h3, sizeA_run hs]
    cases hkl : Nat.beq k l with
    | true =>
      rw [hkl] at h; cases h
      have : k = l := Nat.eq_of_beq_eq_true hkl
      subst this
      refine ⟨_, hrun (some ⟨i.blk, off, none⟩) (by simp), ?_⟩
      simp only [rel]
      exact ⟨i, 0, hi, by congr 1; omega, fun h => absurd rfl h, fun _ => rfl⟩
    | false =>
      rw [hkl] at h; cases h
      have : k ≠ l := by rintro rfl; simp at hkl
      refine ⟨_, hrun (some ⟨i.blk, off + l * s, none⟩) (by simp [this, addr_add]), ?_⟩
      simp only [rel]
      exact ⟨i, k - l, hi, rfl, fun h => absurd rfl h, fun _ => rfl⟩
  simp only [relV] at r3; subst r3
  split at h
  · rename_i n y hu
    split at h
    case h_2 => cases h
    rename_i h' hh
    split at h
    case h_2 => cases h
    rename_i l hl
    cases h
    simp only [rel] at hx
    obtain ⟨rfl, hlt⟩ := hx
    obtain ⟨h3, h4, h5⟩ := bounds_run (P := P) hh hl (Nat.le_refl _) r2 r1 false w
    have hs : (strOf n y).size = n := by simp [strOf, ByteArray.size, dec_length]
    have h6 : h' ≤ n := by omega
    refine ⟨.string (strOf (h' - l) (y / 256 ^ l % 256 ^ (h' - l))), ?_, by simp only [rel]; exact ⟨trivial, Nat.mod_lt _ (Nat.pow_pos (by decide))⟩⟩
    simp [Instr.sliceAt, run_underlying hu, Instr.slice, hs, h3, strOf_extract h4 h6]
  · rename_i elem hu
    split at h
    case h_2 => cases h
    rename_i h' hh
    split at h
    case h_2 => cases h
    rename_i l s hl hs
    cases h
    simp only [rel] at hx; subst hx
    obtain ⟨h3, h4, h5⟩ := bounds_run (P := P) hh hl (Nat.le_refl _) r2 r1 true w
    have h6 : h' = 0 := by omega
    have h7 : l = 0 := by omega
    subst h6 h7
    exact ⟨.slice none 0 0, by simp [Instr.sliceAt, run_underlying hu, Instr.slice, h3, sizeA_run hs], by simp only [rel]⟩
  · rename_i elem b off len cap e hu
    split at h
    case h_2 => cases h
    rename_i h' hh
    split at h
    case h_2 => cases h
    rename_i l s hl hs
    simp only [rel] at hx
    obtain ⟨i, c, hi, rfl, hc1, hc2⟩ := hx
    have hcap : cap ≤ c := by
      by_cases he : e = 0
      · exact Nat.le_of_eq (hc2 he).symm
      · exact (hc1 he).1
    obtain ⟨h3, h4, h5⟩ := bounds_run (P := P) (len := len) hh hl hcap r2 r1 true w
    have hrun : ∀ (ad : Option Addr), (if c = l then some (⟨i.blk, off, none⟩ : Addr) else (some (⟨i.blk, off, none⟩ : Addr)).map (·.add (l * s))) = ad → (Instr.sliceAt t (.slice (some ⟨i.blk, off, none⟩) len c) vl vh none).run P w = .ok (.slice ad (h' - l) (c - l)) w := by
      rintro ad rfl
      simp [Instr.sliceAt, run_underlying hu, Instr.slice, h3, sizeA_run hs]
    cases hl0 : Nat.beq l 0 with
    | true =>
      rw [hl0] at h; cases h
      have : l = 0 := Nat.eq_of_beq_eq_true hl0
      subst this
      refine ⟨_, hrun (some ⟨i.blk, off, none⟩) (by simp [addr_add]), ?_⟩
      simp only [rel]
      exact ⟨i, c, hi, by simp, hc1, hc2⟩
    | false =>
      rw [hl0] at h
      have hl0' : l ≠ 0 := by rintro rfl; cases hl0
      simp only [cond_false] at h
      cases he : Nat.beq e 0 with
      | true =>
        rw [he] at h
        have : e = 0 := Nat.eq_of_beq_eq_true he
        subst this
        have hcc := hc2 rfl
        subst hcc
        cases hcl : Nat.beq c l with
        | true =>
          rw [hcl] at h; cases h
          have : c = l := Nat.eq_of_beq_eq_true hcl
          subst this
          refine ⟨_, hrun (some ⟨i.blk, off, none⟩) (by simp), ?_⟩
          simp only [rel]
          exact ⟨i, 0, hi, by congr 1; omega, fun h => absurd rfl h, fun _ => rfl⟩
        | false =>
          rw [hcl] at h; cases h
          have : c ≠ l := by rintro rfl; simp at hcl
          refine ⟨_, hrun (some ⟨i.blk, off + l * s, none⟩) (by simp [this, addr_add]), ?_⟩
          simp only [rel]
          exact ⟨i, c - l, hi, rfl, fun h => absurd rfl h, fun _ => rfl⟩
      | false =>
        rw [he] at h
        have he' : e ≠ 0 := by rintro rfl; cases he
        simp only [cond_false] at h
        obtain ⟨hc3, hc4⟩ := hc1 he'
        cases hb : (Nat.blt l cap && Nat.beq s e) with
        | true =>
          rw [hb] at h; cases h
          simp only [Bool.and_eq_true] at hb
          have h6 := nblt hb.1
          have h7 : s = e := Nat.eq_of_beq_eq_true hb.2
          subst h7
          refine ⟨_, hrun (some ⟨i.blk, off + l * s, none⟩) (by rw [if_neg (by omega)]; simp [addr_add]), ?_⟩
          simp only [rel]
          refine ⟨i, c - l, hi, rfl, fun _ => ⟨by omega, ?_⟩, fun h => absurd h he'⟩
          rw [Nat.sub_mul]
          have : l * s ≤ c * s := Nat.mul_le_mul_right _ (by omega)
          omega
        | false =>
          rw [hb] at h
          simp only [cond_false] at h
          cases hhl : Nat.beq h' l with
          | false => rw [hhl] at h; cases h
          | true =>
            rw [hhl] at h; cases h
            have : h' = l := Nat.eq_of_beq_eq_true hhl
            subst this
            by_cases hcl : c = h'
            · refine ⟨_, hrun (some ⟨i.blk, off, none⟩) (by rw [if_pos hcl]), ?_⟩
              simp only [rel]
              exact ⟨i, off, c - h', hi, by simp⟩
            · refine ⟨_, hrun (some ⟨i.blk, off + h' * s, none⟩) (by rw [if_neg hcl]; simp [addr_add]), ?_⟩
              simp only [rel]
              exact ⟨i, off + h' * s, c - h', hi, by simp⟩
  · rename_i n elem b off hu
    split at h
    case h_2 => cases h
    rename_i h' hh
    split at h
    case h_2 => cases h
    rename_i l s hl hs
    simp only [rel] at hx
    obtain ⟨i, hi, rfl⟩ := hx
    obtain ⟨h3, h4, h5⟩ := bounds_run (P := P) hh hl (Nat.le_refl _) r2 r1 false w
    cases hnl : Nat.beq n l with
    | true =>
      rw [hnl] at h; cases h
      have : n = l := Nat.eq_of_beq_eq_true hnl
      subst this
      refine ⟨.slice (some ⟨i.blk, off, none⟩) (h' - n) (n - n), by simp [Instr.sliceAt, run_underlying hu, Instr.sureAddr, h3, sizeA_run hs], ?_⟩
      simp only [rel]
      exact ⟨i, 0, hi, by congr 1; omega, fun h => absurd rfl h, fun _ => rfl⟩
    | false =>
      rw [hnl] at h; cases h
      have : n ≠ l := by rintro rfl; simp at hnl
      refine ⟨.slice (some ⟨i.blk, off + l * s, none⟩) (h' - l) (n - l), by simp [Instr.sliceAt, run_underlying hu, Instr.sureAddr, h3, sizeA_run hs, this, addr_add], ?_⟩
      simp only [rel]
      exact ⟨i, n - l, hi, rfl, fun h => absurd rfl h, fun _ => rfl⟩
  · cases h
end Go.Proofs.YtijnlbpeckoofaaGreat
