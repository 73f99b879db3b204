/- A machine that runs closed calls: append, whole; copy. -/
import Derived.Test.YtijnlbpeckoofaaGreatEngF
set_option linter.unusedVariables false
set_option linter.unusedSimpArgs false
namespace Go.Proofs.YtijnlbpeckoofaaGreat
open Go.RowKit
variable {P : Program} {base : Nat} {Γ : Tie} {m : Mem} {w : World} {ev : Operand → Option AV} {ρ : Operand → Value}

/-- A row's cells. -/
theorem row_cells (hR : Rep base Γ m.H w) {b off n len : Nat} {tr : PT AV} {el : TypeId} {opn fz : Bool} {l : List AV} {i : BI} (hb : m.H.get b = some (.cells n tr el opn fz)) (hi : Γ b = some i) (hle : off + len ≤ n) (hl : tr.take off len = some l) :
    ∃ vs : List Value, vs.length = len ∧ (∀ j u, vs[j]? = some u → w.cell? ((⟨i.blk, off, none⟩ : Addr).add j) = some u) ∧ relL Γ l vs := by
  obtain ⟨i', c, lo, hi', h1, h2, h3, h4, h5, h6, h7, h8⟩ := hR.row hb
  rw [hi] at h1; cases h1
  obtain ⟨vs, h9, h10, h11⟩ := take_rel h7 hle hl
  exact ⟨vs, h9, fun j u hu => by rw [addr_add, cellAt h3]; exact h10 j u hu, h11⟩
theorem cellsFrom_ok (hR : Rep base Γ m.H w) {size k : Nat} {x : AV} {l : List AV} {xv : Value} (h : cellsFrom m size x = some (k, l)) (h1 : l.all one = true) (hx : rel Γ x xv) {tx e' : TypeId} (hk : P.underlying tx = some (.slice e')) (hstr : ∀ n y, x ≠ .str n y) :
    ∃ news, Src P size tx xv k news w ∧ relL Γ l news := by
  unfold cellsFrom at h
  split at h
  · cases h
    simp only [rel] at hx; subst hx
    exact ⟨[], Src.ofNil w hk 0, by simp only [relL]⟩
  · cases h
    simp only [rel] at hx
    obtain ⟨i, o, c, hi, rfl⟩ := hx
    exact ⟨[], Src.ofSlice w hk _ 0 c [] (by simp) (fun j u hj => by simp at hj) (fun u hu => by cases hu), by simp only [relL]⟩
  · rename_i b off len cap e
    split at h
    case h_2 => cases h
    rename_i n tr el opn fz hb
    cases hle : Nat.ble (off + len * size) n with
    | false => rw [hle] at h; cases h
    | true =>
      rw [hle] at h
      simp only [cond_true] at h
      split at h
      case h_2 => cases h
      rename_i l' hl
      cases h
      simp only [rel] at hx
      obtain ⟨i, c, hi, rfl, _⟩ := hx
      obtain ⟨vs, h2, h3, h4⟩ := row_cells hR hb hi (Nat.le_of_ble_eq_true hle) hl
      exact ⟨vs, Src.ofSlice w hk _ _ c vs h2 h3 (all_one h1 h4), h4⟩
  · exact absurd rfl (hstr _ _)
  · cases h
theorem newsA_ok (hR : Rep base Γ m.H w) {elem xt : TypeId} {x : AV} {k : Nat} {l : List AV} {xv : Value} {i : TypeInfo} (h : newsA P m elem xt x = some (k, l)) (hx : rel Γ x xv) (hi : P.info? elem = some i) :
    ∃ news, News P i xt xv k news w ∧ relL Γ l news := by
  have hsize : ∀ {s}, sizeA P elem = some s → i.size = s := by
    intro s hs; obtain ⟨j, hj, e⟩ := sizeA_info hs; rw [hi] at hj; cases hj; exact e
  unfold newsA at h
  split at h
  · rename_i kk size hu hs
    split at h
    case h_2 => cases h
    rename_i k' n z bytes hz hby
    cases hc : (Nat.ble n small && Nat.ble (n * bytes) small && Nat.beq z.cells.length size && z.cells.all one) with
    | false => rw [hc] at h; cases h
    | true =>
      rw [hc] at h; cases h
      simp only [Bool.and_eq_true] at hc
      obtain ⟨⟨⟨h1, h2⟩, h3⟩, h4⟩ := hc
      obtain ⟨j, zv, hj, hzv, hzr⟩ := zeroA_info hz Γ
      rw [hi] at hj; cases hj
      obtain ⟨j, hj, hjb⟩ := bytesA_run hby
      rw [hi] at hj; cases hj
      simp only [rel] at hx; subst hx
      have hl := hzr.cells.length
      have hzs : zv.cells.size = i.size := by
        rw [hsize hs, ← Nat.eq_of_beq_eq_true h3, hl]; simp
      have hrel : relL Γ ((List.range (k * z.cells.length)).map fun i => z.cells.getD (i % z.cells.length) .undef) (Builtin.zeroCells zv.cells k).toList := by
        have e1 : (⟨zv.cells.toList⟩ : Array Value) = zv.cells := by simp
        have e2 : z.cells.length = zv.cells.size := by rw [hl]; simp
        by_cases h0 : 0 < z.cells.length
        · have := range_map (size := k * z.cells.length) hzr.cells (.inl h0)
          rw [e1] at this
          unfold Builtin.zeroCells
          rw [← e2]
          rw [← e2] at this
          exact this
        · have h00 : z.cells.length = 0 := by omega
          have h01 : zv.cells.size = 0 := by omega
          simp [h00, Builtin.zeroCells, h01, relL]
      have honez : ∀ v ∈ zv.cells.toList, v.oneCell' = true := all_one h4 hzr.cells
      refine ⟨_, .zeros kk k' zv hu rfl hzv hzs rfl (Nat.le_of_ble_eq_true h1) (by rw [hjb]; exact Nat.le_of_ble_eq_true h2) ?_, hrel⟩
      intro u hu'
      unfold Builtin.zeroCells at hu'
      simp only [Array.toList_map, List.mem_map] at hu'
      obtain ⟨q, hq, rfl⟩ := hu'
      have hpos : 0 < zv.cells.size := by
        by_cases h0 : zv.cells.size = 0
        · rw [h0] at hq; simp at hq
        · omega
      have hm : q % zv.cells.size < zv.cells.size := Nat.mod_lt _ hpos
      rw [getElem!_pos zv.cells _ hm]
      exact honez _ (by simp)
  · rename_i e' size hu hs
    split at h
    · cases h
    rename_i hstr
    split at h
    case h_2 => cases h
    rename_i k' l' hcf
    cases h1 : l'.all one with
    | false => rw [h1] at h; cases h
    | true =>
      rw [h1] at h; cases h
      have : size = i.size := (hsize hs).symm
      subst this
      obtain ⟨news, h2, h3⟩ := cellsFrom_ok hR hcf h1 hx hu (fun n y => hstr n y)
      exact ⟨news, .src h2, h3⟩
  · rename_i size hu hs
    split at h
    case h_2 => cases h
    rename_i n y
    cases h1 : Nat.beq size 1 with
    | false => rw [h1] at h; cases h
    | true =>
      rw [h1] at h; cases h
      have e1 := Nat.eq_of_beq_eq_true h1
      have e2 : i.size = 1 := by rw [hsize hs, e1]
      simp only [rel] at hx
      obtain ⟨rfl, _⟩ := hx
      have hsz : (strOf k y).size = k := by simp [strOf, ByteArray.size, dec_length]
      have hsrc := Src.ofString (P := P) w hu (strOf k y)
      rw [hsz] at hsrc
      refine ⟨_, .src (by rw [e2]; exact hsrc), ?_⟩
      unfold byteCells
      exact dec_bytesL Γ k y
  · cases h
end Go.Proofs.YtijnlbpeckoofaaGreat
