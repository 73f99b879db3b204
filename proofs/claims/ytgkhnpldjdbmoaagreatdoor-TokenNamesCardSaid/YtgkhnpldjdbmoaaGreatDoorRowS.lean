/- What the rows with tokens among their arguments share: an argument that is a slice of tokens, opened; the table of the powers of ten out of the row's condition. -/
import Derived.Test.YtgkhnpldjdbmoaaGreatDoorRt
import Derived.Test.YtgkhnpldjdbmoaaGreatDoorRowK
import Derived.Deep.Slices
import Derived.Deep.Fields
import Derived.ChangeSame
import Derived.SizedLaws
import Derived.Stop.LaidErr
set_option linter.unusedVariables false
set_option linter.unusedSimpArgs false
namespace Go.Proofs.YtgkhnpldjdbmoaaGreatDoor
open Go.ChangeShapes Go.WideShapes Go.ChangeAt Go.RowKit Go.Deep

section
variable {H : Type} {enc : TypeId × Value → H} {P : Program} {w : World} {base : Nat} {spare : Nat → Bool} {held : Bool}
theorem open_slice_fields {t e : TypeId} {fs : Array Field} {fuel : Nat} {cs : List Value} {x : DataW H × List MemPlace} (ht : P.underlying t = some (.slice e)) (he : P.underlying e = some (.struct fs))
    (hone : oneCellFields P fs = true) (hC : P.cellsOf e = fs.size) (h : DataW.trod enc P w base spare held fuel t cs = some x) :
    (cs = [.slice none 0 0] ∧ x = (.nil, [])) ∨
    ∃ (a : Addr) (len cap m : Nat) (D : Nat → DataW H) (Pl : Nat → List MemPlace), cs = [.slice (some a) len cap] ∧ len ≤ m ∧
      x = (.slice ((List.range len).map D) ((List.range (m - len)).map fun j => D (len + j)), MemPlace.row a (m * fs.size) ++ (List.range m).flatMap Pl) ∧
      ∀ i, i < m → ∃ (ys : List (DataW H × List MemPlace)) (n : Nat), D i = .agg (ys.map (·.1)) ∧ ys.length = fs.size ∧
        ∀ (j : Nat) (f : Field), fs[j]? = some f → ∃ (v : Value) (y : DataW H × List MemPlace), w.cell? (a.add (i * fs.size + j)) = some v ∧ ys[j]? = some y ∧ DataW.trod enc P w base spare held n f.type [v] = some y := by
  rcases open_slice ht h with h0 | ⟨a, len, cap, m, n, D, Pl, hcs, hb, hl, hm, hmm, hx, hi⟩
  · exact .inl h0
  · refine .inr ⟨a, len, cap, m, D, Pl, hcs, by rw [hmm]; split <;> omega, by rw [hC] at hx; exact hx, fun i him => ?_⟩
    obtain ⟨cs', hc, ht'⟩ := hi i him
    rw [hC] at hc
    obtain ⟨ys, n', hn', hy, hlen, hyl, hf⟩ := DataW.trod_struct he ht'
    obtain ⟨_, hcl, hat⟩ := World.cells?_some hc
    simp only [Prod.mk.injEq] at hy
    refine ⟨ys, n', hy.1, hyl, fun j f hj => ?_⟩
    obtain ⟨ho, hk⟩ := hone_of hone j f hj
    have hjl : j < fs.size := (Array.getElem?_eq_some_iff.1 hj).1
    have hcell := hat j hjl
    have hv : cs'[j]? = some (cs'[j]'(by omega)) := List.getElem?_eq_getElem (by omega)
    have h1 := hf j f hj
    rw [ho, hk] at h1
    have hone' : (cs'.drop j).take 1 = [cs'[j]'(by omega)] := by
      rw [List.drop_eq_getElem_cons (by omega)]
      rfl
    rw [hone'] at h1
    have hys : ys[j]? = some (ys[j]'(by omega)) := List.getElem?_eq_getElem (by omega)
    refine ⟨_, _, ?_, hys, h1.trans hys⟩
    rw [← Go.Deep.add_add, hcell, hv]
theorem weights_mem_all {e : TypeId} : ∀ {l : List (DataW H)} {d : DataW H}, d ∈ l → ∀ n ∈ d.weights P e, n ∈ DataW.weightsAll P e l := by
  intro l
  induction l with
  | nil => intro d h; simp at h
  | cons x l ih =>
    intro d h n hn
    simp only [DataW.weightsAll, List.mem_append]
    rcases List.mem_cons.1 h with rfl | h
    · exact .inl hn
    · exact .inr (ih h n hn)
end

set_option maxRecDepth 100000 in
theorem wf64 {n : Int} (h : (Lit.int .i64 n).wf = true) : -9223372036854775808 ≤ n ∧ n ≤ 9223372036854775807 := by
  have := h
  simp [Lit.wf] at this
  exact this
theorem tokBytes : Tryz.prog.bytesOf 47 = 48 := by kernel_rfl
set_option maxRecDepth 100000 in
theorem tokOne : ∃ fs, Tryz.prog.underlying 47 = some (.struct fs) ∧ oneCellFields Tryz.prog fs = true ∧ Tryz.prog.cellsOf 47 = fs.size ∧ fs.size = 5 ∧
    ∃ f0 f1 f2 f3 f4, fs[0]? = some f0 ∧ fs[1]? = some f1 ∧ fs[2]? = some f2 ∧ fs[3]? = some f3 ∧ fs[4]? = some f4 ∧ f0.type = 3 ∧ f1.type = 2 ∧ f2.type = 9 ∧ f3.type = 3 ∧ f4.type = 3 ∧ fs.toList.map (·.type) = [3, 2, 9, 3, 3] :=
  ⟨_, Tryz.underlying47, by kernel_rfl, by kernel_rfl, rfl, _, _, _, _, _, rfl, rfl, rfl, rfl, rfl, rfl, rfl, rfl, rfl, rfl, rfl⟩

set_option maxRecDepth 100000 in
theorem open_toks {H : Type} {enc : TypeId × Value → H} {W : World} {base : Nat} {v : Value} {d : DataW H} {p : List MemPlace} (hval : Value.okWide Tryz.prog W .any base 50 v)
    (h : DataW.Trod enc Tryz.prog W 0 (fun _ => true) true 50 v d p) (hw : (DataW.weightsEach Tryz.prog [50] [d]).all (· ≤ reachBytes) = true) :
    ∃ (ts : List RT) (ao : Option Addr) (cap : Nat), v = .slice ao ts.length cap ∧ (∀ t ∈ ts, t.fits) ∧ ts.length ≤ 9000000000000000000 ∧ (0 < ts.length → ∃ g o, ao = some ⟨g, o, none⟩ ∧ HoldsO W g o ts) := by
  obtain ⟨av, lv, cv, rfl⟩ := okWide_slice Tryz.underlying50 hval
  obtain ⟨fuel, hf⟩ := h
  obtain ⟨fs, he, hone, hC, h5, f0, f1, f2, f3, f4, e0, e1, e2, e3, e4, t0, t1, t2, t3, t4, htl⟩ := tokOne
  rcases open_slice_fields Tryz.underlying50 he hone hC hf with ⟨hcs, hx⟩ | ⟨a, len, cap, m, D, Pl, hcs, hlm, hx, hall⟩
  · have hcs' : (Value.slice av lv cv) = .slice none 0 0 := by simpa [Value.cells] using hcs
    injection hcs' with ha hl hc
    subst ha hl hc
    exact ⟨[], none, 0, rfl, by simp, by simp, fun h => by simp at h⟩
  · have hcs' : (Value.slice av lv cv) = .slice (some a) len cap := by simpa [Value.cells] using hcs
    injection hcs' with ha hl hc
    subst ha hl hc
    simp only [Prod.mk.injEq] at hx
    obtain ⟨hd, _⟩ := hx
    subst hd
    have hsl := sized_slice hw (j := 0) rfl rfl Tryz.underlying50
    rw [tokBytes] at hsl
    simp only [List.length_map, List.length_range] at hsl
    have hrb := reachBytes_lt
    have key : ∀ i, i < lv → ∃ t : RT, t.fits ∧ W.cell? (a.add (i * 5)) = some (.int .i64 t.k) ∧ W.cell? (a.add (i * 5 + 1)) = some (.int .i64 t.n) ∧ W.cell? (a.add (i * 5 + 2)) = some (.string t.s) ∧ W.cell? (a.add (i * 5 + 3)) = some (.int .i64 t.f) ∧ W.cell? (a.add (i * 5 + 4)) = some (.int .i64 t.t) := fun i hi => by
      obtain ⟨ys, n, hDi, hyl, hfl⟩ := hall i (by omega)
      rw [h5] at hfl hyl
      obtain ⟨v0, y0, c0, k0, r0⟩ := hfl 0 f0 e0
      obtain ⟨v1, y1, c1, k1, r1⟩ := hfl 1 f1 e1
      obtain ⟨v2, y2, c2, k2, r2⟩ := hfl 2 f2 e2
      obtain ⟨v3, y3, c3, k3, r3⟩ := hfl 3 f3 e3
      obtain ⟨v4, y4, c4, k4, r4⟩ := hfl 4 f4 e4
      rw [t0] at r0; rw [t1] at r1; rw [t2] at r2; rw [t3] at r3; rw [t4] at r4
      obtain ⟨z0, q0, -, w0⟩ := DataW.trod_int Tryz.underlying3 r0
      obtain ⟨z1, q1, -, w1⟩ := DataW.trod_int Tryz.underlying2 r1
      obtain ⟨s, q2, x2, w2⟩ := DataW.trod_string Tryz.underlying9 r2
      obtain ⟨z3, q3, -, w3⟩ := DataW.trod_int Tryz.underlying3 r3
      obtain ⟨z4, q4, -, w4⟩ := DataW.trod_int Tryz.underlying3 r4
      simp only [List.cons.injEq, and_true] at q0 q1 q2 q3 q4
      subst q0 q1 q2 q3 q4
      refine ⟨⟨z0, z1, s, z3, z4⟩, ⟨?_, wf64 w1⟩, by simpa using c0, c1, c2, c3, c4⟩
      have hmem : s.data.toList.length ∈ (D i).weights Tryz.prog 47 := by
        rw [hDi]
        simp only [DataW.weights, he, htl]
        exact DataW.weights_mem_each (j := 2) (t := 9) (d := .lit (.string s.data.toList)) rfl (by rw [List.getElem?_map, k2, x2]; rfl) _ (by simp [DataW.weights])
      have h1 : s.data.toList.length ∈ DataW.weightsEach Tryz.prog [50] [.slice ((List.range lv).map D) ((List.range (m - lv)).map fun j => D (lv + j))] := by
        refine DataW.weights_mem_each (j := 0) rfl rfl _ ?_
        simp only [DataW.weights, Tryz.underlying50]
        refine List.mem_cons_of_mem _ (List.mem_append_left _ (weights_mem_all (d := D i) ?_ _ hmem))
        exact List.mem_map.2 ⟨i, List.mem_range.2 hi, rfl⟩
      have h2 := List.all_eq_true.1 hw _ h1
      simp only [decide_eq_true_eq] at h2
      show s.size ≤ _
      have h3 := size_list s
      omega
    let f : Nat → RT := fun i => if h : i < lv then Classical.choose (key i h) else ⟨0, 0, ⟨#[]⟩, 0, 0⟩
    have hfi : ∀ i (h : i < lv), f i = Classical.choose (key i h) := fun i h => by simp only [f]; rw [dif_pos h]
    have hlen : ((List.range lv).map f).length = lv := by simp
    refine ⟨(List.range lv).map f, some a, cv, by rw [hlen], ?_, by rw [hlen]; omega, fun h0 => ?_⟩
    · intro t ht
      obtain ⟨i, hi, rfl⟩ := List.mem_map.1 ht
      have hi' := List.mem_range.1 hi
      rw [hfi i hi']
      exact (Classical.choose_spec (key i hi')).1
    · rw [hlen] at h0
      have hsp : a.spot = none := by
        have := (Classical.choose_spec (key 0 h0)).2.1
        simp only [Nat.zero_mul, Addr.add_zero'] at this
        exact World.cell?_spot this
      obtain ⟨g, o, sp⟩ := a
      dsimp only at hsp
      subst hsp
      refine ⟨g, o, rfl, fun i hi => ?_⟩
      have hi' : i < lv := by rwa [hlen] at hi
      obtain ⟨_, c0, c1, c2, c3, c4⟩ := Classical.choose_spec (key i hi')
      have hti : ((List.range lv).map f)[i] = Classical.choose (key i hi') := by
        rw [List.getElem_map, List.getElem_range, hfi i hi']
      rw [hti]
      generalize Classical.choose (key i hi') = tt at *
      rw [Addr.add_lit] at c0 c1 c2 c3 c4
      exact ⟨c0, by rw [Nat.add_assoc]; exact c1, by rw [Nat.add_assoc]; exact c2, by rw [Nat.add_assoc]; exact c3, by rw [Nat.add_assoc]; exact c4⟩
end Go.Proofs.YtgkhnpldjdbmoaaGreatDoor
