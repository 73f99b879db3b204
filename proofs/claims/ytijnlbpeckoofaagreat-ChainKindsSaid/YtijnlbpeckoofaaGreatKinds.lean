/- chain.names, as the machine tells it; chain.Kind. -/
import Derived.Test.YtijnlbpeckoofaaGreatEngHs
import Derived.Test.YtijnlbpeckoofaaGreatEngHm
import Derived.WalkKit
import Derived.WalkSpells
import Derived.WalkLawsBesides
import Derived.Deep.QuietTactic
import Derived.Deep.WholeRow
import Derived.BigQuiet
import Derived.Lib.Hide
import Derived.Deep.DeepFit
import Derived.Maps.OwnOps
import Derived.Maps.Keyed
set_option linter.unusedVariables false
set_option linter.unusedSimpArgs false
namespace Go.Proofs.YtijnlbpeckoofaaGreat
open Go.RowKit Go.Maps Go.Sort Go.WideElems

def namesL : List (SN × Int) := [((14, 2056480659218213526515526735713089), 1), ((13, 8033127575071127679654108025665), 2), ((15, 526459048759862368729700102178764114), 3), ((9, 1870358263857461811788), 4), ((11, 122575799180162677864492102), 5), ((3, 7882817), 1), ((3, 3487809), 2), ((2, 19538), 3), ((3, 5724748), 4), ((2, 27718), 5)]
set_option maxRecDepth 10000000 in
theorem names_runs : mapIs (evalM cf0 G0 1000 12 []) namesL = true := by kernel_rfl
theorem names_any : ∀ W, Ev W → Calls Tryz.prog 12 #[] W fun e W' => ∃ (b : Nat) (D0 : DataW Unit), e = .returned (.map (some b)) ∧ W'.ownsMap Tryz.prog 9 (plainElem Tryz.prog 3) b 10 (mapSI namesL) ∧ W'.ownsMap Tryz.prog 9 noR b 10 D0 ∧ (strKeys D0).Perm (namesL.map fun p => decP p.1) ∧ Maps.size D0 = 10 ∧ Below W.heap.size W W' :=
  map_of_eval (cf := cf0) Tryz.underlying9 Tryz.underlying3 sound0 rep0 (by kernel_rfl) names_runs
def kindOf (x : List UInt8) : Int := match namesL.find? fun p => decP p.1 == x with
  | some p => p.2
  | none => 0
theorem names_apart : (namesL.map fun p => (Lit.string (decP p.1), (.lit (.int .i64 p.2) : DataW Unit))).Pairwise fun p q => p.1 ≠ q.1 := by
  rw [List.pairwise_map]
  have : (namesL.map fun p => decP p.1).Nodup := by decide +kernel
  exact (List.pairwise_map.1 this).imp fun h e => h (by injection e)
theorem names_at (x : List UInt8) : (mapSI namesL).atKey (.string x) (.lit (.int .i64 0)) = .lit (.int .i64 (kindOf x)) := by
  have hk : WideAt.IsKeyLit (.string x) := by simp [WideAt.IsKeyLit]
  have hp := ((Go.WideShapes.sorted_perm (namesL.map fun p => (Lit.string (decP p.1), (.lit (.int .i64 p.2) : DataW Unit)))).pairwise_iff (fun {_ _} hne => Ne.symm hne)).2 names_apart
  unfold kindOf mapSI
  cases h : namesL.find? fun p => decP p.1 == x with
  | some p =>
    have h1 := List.mem_of_find?_eq_some h
    have h2 : decP p.1 = x := by simpa using List.find?_some h
    subst h2
    exact WideAt.atKey_mem _ hk hp (mem_sorted.2 (List.mem_map.2 ⟨p, h1, rfl⟩))
  | none =>
    refine WideAt.atKey_none _ fun q hq e => ?_
    obtain ⟨p, hp1, rfl⟩ := List.mem_map.1 (mem_sorted.1 hq)
    have := List.find?_eq_none.1 h p hp1
    simp only [beq_iff_eq] at this
    exact this (by injection e)
theorem keyStr (s : ByteArray) (hs : s.size ≤ maxLen) : keyOf Tryz.prog 9 (.string s) = some (.string s.data.toList) := by
  simp [keyOf, mapKey, Tryz.underlying9, hs]
set_option maxRecDepth 100000 in
theorem zeroI (w : World) : (zeroValue 3).run Tryz.prog w = .ok (.int .i64 0) w := by kernel_rfl
theorem look_names {w : World} {b : Nat} (h : w.ownsMap Tryz.prog 9 (plainElem Tryz.prog 3) b 10 (mapSI namesL)) (s : ByteArray) (hs : s.size ≤ maxLen) :
    (Instr.lookup 39 (.map (some b)) (.string s) false).run Tryz.prog w = .ok (.int .i64 (kindOf s.data.toList)) w := by
  obtain ⟨c, hrun, hat, hwc⟩ := h.lookup_int (t := 39) (string_keyed Tryz.underlying9) Tryz.underlying39 Tryz.underlying3 (zeroI w) (keyStr s hs)
  rw [names_at] at hat
  generalize kindOf s.data.toList = q at *
  simp only [DataW.lit.injEq, Lit.int.injEq, true_and] at hat
  rw [hrun, hat]
set_option maxRecDepth 100000 in
set_option maxHeartbeats 1000000 in
theorem kind_is (s : ByteArray) (hs : s.size ≤ 140737488355328) (w : World) (he : Ev w) : Calls Tryz.prog 7 #[.string s] w fun e w' => e = .returned (.int .i64 (kindOf s.data.toList)) ∧ Below w.heap.size w w' := by
  go_enter Tryz.func7, Tryz.ntmps7
  go_wp2_with (go_at_call 12; refine (names_any _ he).mono ?_; rintro e w1 ⟨b, D0, rfl, hown, hown0, hperm, hsz, hb⟩; have hl := look_names hown s (by unfold maxLen; omega))
  go_ret
  exact ⟨rfl, hb⟩
set_option maxRecDepth 100000 in
theorem keys_is (b : Nat) (w : World) : Calls Tryz.prog 14 #[.map (some b)] w fun e w' => e = .returned (.func (.func 26) #[] #[.pointer (some ⟨w.heap.size, 0, none⟩)]) ∧
    w'.cell? ⟨w.heap.size, 0, none⟩ = some (.map (some b)) ∧ w.heap.size < w'.heap.size ∧ Below w.heap.size w w' := by
  go_enter Tryz.func14, Tryz.ntmps14
  go_wp2
  go_ret
  exact ⟨rfl, by simp [World.cell?_alloc_new], by simp, (Below.refl _ _).alloc (Nat.le_refl _) _⟩
theorem om_below {k : TypeId} {R : Value → Option (DataW Unit × List MemPlace)} {w w' : World} {b n : Nat} {D : DataW Unit} (h : w.ownsMap Tryz.prog k R b n D) (hb : Below w.heap.size w w') : w'.ownsMap Tryz.prog k R b n D :=
  h.kept (show w.grownBy w' none from ⟨hb.os, hb.tape, hb.output, hb.size, fun i hi _ => hb.block i hi⟩) (by simp)
/-- Kinds that have no name. -/
theorem kind_far (x : List UInt8) : kindOf x = 0 ∨ (1 ≤ kindOf x ∧ kindOf x ≤ 5) := by
  unfold kindOf
  cases h : namesL.find? fun p => decP p.1 == x with
  | none => exact .inl rfl
  | some p =>
    have h1 := List.mem_of_find?_eq_some h
    have : ∀ q ∈ namesL, 1 ≤ q.2 ∧ q.2 ≤ 5 := by decide
    exact .inr (this p h1)
theorem kind_near {x : List UInt8} (h : x ∈ namesL.map fun p => decP p.1) : 1 ≤ kindOf x ∧ kindOf x ≤ 5 := by
  obtain ⟨p, hp, rfl⟩ := List.mem_map.1 h
  rcases kind_far (decP p.1) with h | h
  · exfalso
    have : ∀ q ∈ namesL, kindOf (decP q.1) ≠ 0 := by decide +kernel
    exact this p hp h
  · exact h
theorem name_len {x : List UInt8} (h : x ∈ namesL.map fun p => decP p.1) : x.length ≤ 15 := by
  have : ∀ q ∈ (namesL.map fun p => decP p.1), q.length ≤ 15 := by decide +kernel
  exact this x h
theorem row_strs {w : World} {B : Nat} {T : TypeId} {v : Value} {l : List (List UInt8)} {n : Nat} (hn : l.length = n) (h : w.ownsRow B T 1 v n (l.map encStr)) (h0 : 0 < n) : ∃ g cap, v = .slice (some ⟨g, 0, none⟩) n cap ∧ n ≤ cap ∧ g < w.heap.size ∧ ∀ i (hi : i < l.length), w.cell? ⟨g, i, none⟩ = some (encStr l[i]) := by
  rcases h.2 with ⟨rfl, h1⟩ | ⟨g, cap, cur, rfl, hb, hgg, hcap, hm, hs, ht⟩
  · omega
  · refine ⟨g, cap, rfl, hcap, (Array.getElem?_eq_some_iff.1 hgg).1, fun i hi => ?_⟩
    rw [h.cellAt i (by omega), List.getElem?_map, List.getElem?_eq_getElem hi]
    rfl
set_option maxRecDepth 100000 in
set_option maxHeartbeats 2000000 in
theorem name_none (k : Int) (hk : k < 1 ∨ 5 < k) (w : World) (he : Ev w) : Calls Tryz.prog 6 #[.int .i64 k] w fun e w' => e = .returned (.string ⟨#[]⟩) ∧ Below w.heap.size w w' := by
  go_enter Tryz.func6, Tryz.ntmps6
  go_wp2_with (first
    | (go_at_call 12; refine (names_any _ he).mono ?_; rintro e w1 ⟨b, D0, rfl, hown, hown0, hperm, hsz, hb⟩)
    | (go_at_call 14; refine (keys_is b w1).mono ?_; rintro e w2 ⟨rfl, hc, hlt, hb2⟩)
    | (go_at_call 13; refine (sortNames_any _ b _ D0 w2 hlt hc (om_below hown0 hb2) (by omega)).mono ?_; rintro e w3 ⟨v, ss, rfl, hp, hrow, hnil, hb3⟩; have hl10 : (ss.mergeSort leB).length = 10 := (by rw [List.length_mergeSort, (hp.trans hperm).length_eq]; rfl); have hmem : ∀ i (hi : i < (ss.mergeSort leB).length), 1 ≤ kindOf (ss.mergeSort leB)[i] ∧ kindOf (ss.mergeSort leB)[i] ≤ 5 := (fun i hi => kind_near (((List.mergeSort_perm ss leB).trans (hp.trans hperm)).mem_iff.1 (List.getElem_mem hi))); have hnm : ∀ i (hi : i < (ss.mergeSort leB).length), (ss.mergeSort leB)[i].length ≤ 15 := (fun i hi => name_len (((List.mergeSort_perm ss leB).trans (hp.trans hperm)).mem_iff.1 (List.getElem_mem hi))); rw [show ss.length = 10 by rw [← hl10, List.length_mergeSort]] at hrow; obtain ⟨g, cap, rfl, hcap, hglt, hcell⟩ := row_strs hl10 hrow (by omega); generalize ss.mergeSort leB = ts at *))
  have hown3 := om_below (om_below hown hb2) hb3
  have hb4 : Below w.heap.size w w3 := (hb.trans (hb2.mono hb.size)).trans (hb3.mono (Nat.le_trans hb.size hb2.size))
  have HC := Lib.hid hcell; have HM := Lib.hid hmem; have HN := Lib.hid hnm; have HO := Lib.hid hown3
  clear hcell hmem hnm hown3 hown hown0 hperm hsz hp hrow hnil hb hb2 hb3 hc hlt D0
  go_loopw [4, 12] (fun l i wl => ∃ j : Nat, j ≤ 10 ∧ i = .int .i64 j ∧ l = .string ⟨#[]⟩ ∧ ∃ n, wl = w3.drewN n) (fun _ i _ => 10 - (intOf i).toNat)
  case atStart => exact ⟨0, by omega, rfl, rfl, 0, rfl⟩
  case round =>
    obtain ⟨j, hj, rfl, rfl, n, rfl⟩ := hrel
    by_cases hlt : j < 10
    · have h1 := HC.out j (by omega)
      have h2 := HM.out j (by omega)
      have hx : (⟨⟨ts[j]⟩⟩ : ByteArray).size ≤ maxLen := by
        show ts[j].length ≤ maxLen
        have := HN.out j (by omega); unfold maxLen; omega
      have h3 : ∀ n, (Instr.lookup 39 (.map (some b)) (.string ⟨⟨ts[j]⟩⟩) false).run Tryz.prog (w3.drewN n) = .ok (.int .i64 (kindOf ts[j])) (w3.drewN n) := fun n => look_names (show (w3.drewN n).ownsMap _ _ _ _ _ _ from HO.out) ⟨⟨ts[j]⟩⟩ hx
      have h1' : ∀ n, (w3.drewN n).cell? ⟨g, j, none⟩ = some (.string ⟨⟨ts[j]⟩⟩) := fun n => h1
      clear h1 hx
      have ne : (kindOf ts[j] == k) = false := by simp only [beq_eq_false_iff_ne, ne_eq]; omega
      generalize kindOf ts[j] = c at *
      generalize (⟨⟨ts[j]⟩⟩ : ByteArray) = x at *
      have g1 : decide ((j : Int) < 0) = false := by simp
      have g2 : decide (10 ≤ j) = false := by simp; omega
      have g3 : decide ((10 : Int) ≤ (j : Int)) = false := by simp; omega
      have g4 : decide ((j : Int) < 10) = true := by simp; omega
      go_wp2
      go_roundw
      case rel => exact ⟨j + 1, by omega, by go_num, rfl, _, rfl⟩
      case measure => simp [intOf]; omega
    · have g4 : decide ((j : Int) < 10) = false := by simp; omega
      go_wp2
      go_ret
      exact ⟨rfl, by (repeat' (first | (with_reducible exact Below.refl _ _) | (with_reducible assumption) | (with_reducible refine Below.alloc ?_ ?_ _) | (with_reducible refine below_drewN ?_ _) | (with_reducible refine Below.drew ?_) | (with_reducible refine Below.setCell ?_ ?_ _) | (with_reducible refine below_trans ?_ (by assumption)) | (with_reducible exact Nat.le_refl _) | (with_reducible exact Below.size (by assumption)) | omega | (simp; omega) | (simp; done)))⟩
end Go.Proofs.YtijnlbpeckoofaaGreat
