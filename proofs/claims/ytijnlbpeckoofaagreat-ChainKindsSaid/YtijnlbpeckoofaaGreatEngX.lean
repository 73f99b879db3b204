/- A machine that runs closed calls: all that reads. -/
import Derived.Test.YtijnlbpeckoofaaGreatEngW
set_option linter.unusedVariables false
set_option linter.unusedSimpArgs false
namespace Go.Proofs.YtijnlbpeckoofaaGreat
open Go.RowKit
variable {P : Program} {base : Nat} {Γ : Tie} {m : Mem} {w : World} {ev : Operand → Option AV} {ρ : Operand → Value}

theorem relV_map (hev : Evals Γ ev ρ) {x : Option Operand} {a : Option AV} (h : ∀ y, x = some y → ∃ b, ev y = some b ∧ a = some b) (hn : x = none → a = none) : relV Γ a (x.map ρ) := by
  cases x with
  | none => rw [hn rfl]; rfl
  | some y => obtain ⟨b, h1, rfl⟩ := h y rfl; exact ⟨ρ y, rfl, hev _ _ h1⟩
theorem rdSlice_ok (hev : Evals Γ ev ρ) {t : TypeId} {x : Operand} {lo hi mx : Option Operand} {v : AV} (h : rdSlice P m ev t x lo hi mx = some v) : Gives P Γ w ρ (.slice t x lo hi mx) v := by
  intro dst type pos after guard
  unfold rdSlice at h
  split at h
  case h_2 => cases h
  rename_i a ha
  have hx := hev _ _ ha
  have fin : ∀ {l h' k' : Option AV}, sliceA P t a l h' k' = some v → relV Γ l (lo.map ρ) → relV Γ h' (hi.map ρ) → relV Γ k' (mx.map ρ) → ∃ c, (execOp ρ ⟨dst, .slice t x lo hi mx, type, pos, after, guard⟩).run P w = .ok (.value c) w ∧ rel Γ v c := by
    intro l h' k' h1 h2 h3 h4
    obtain ⟨c, h5, h6⟩ := sliceA_ok (P := P) (w := w) h1 hx h2 h3 h4
    exact ⟨c, by simp [execOp, h5], h6⟩
  split at h
  · exact fin h rfl rfl rfl
  · split at h
    case h_2 => cases h
    rename_i l hl
    exact fin h ⟨_, rfl, hev _ _ hl⟩ rfl rfl
  · split at h
    case h_2 => cases h
    rename_i l hl
    exact fin h rfl ⟨_, rfl, hev _ _ hl⟩ rfl
  · split at h
    case h_2 => cases h
    rename_i l h' hl hh
    exact fin h ⟨_, rfl, hev _ _ hl⟩ ⟨_, rfl, hev _ _ hh⟩ rfl
  · split at h
    case h_2 => cases h
    rename_i l h' k' hl hh hk
    exact fin h ⟨_, rfl, hev _ _ hl⟩ ⟨_, rfl, hev _ _ hh⟩ ⟨_, rfl, hev _ _ hk⟩
  · split at h
    case h_2 => cases h
    rename_i h' k' hh hk
    exact fin h rfl ⟨_, rfl, hev _ _ hh⟩ ⟨_, rfl, hev _ _ hk⟩
  · cases h
theorem rdExtract_ok (hev : Evals Γ ev ρ) {t : Operand} {i : Nat} {v : AV} (h : rdExtract P m ev t i = some v) : Gives P Γ w ρ (.extract t i) v := by
  intro dst type pos after guard
  unfold rdExtract at h
  split at h
  · rename_i l hl
    have := hev _ _ hl; simp only [rel] at this
    obtain ⟨vs, e, hr⟩ := this
    obtain ⟨c, h1, h2⟩ := hr.get h
    have h3 : (⟨vs⟩ : Array Value)[i]? = some c := by simpa using h1
    exact ⟨c, by simp [execOp, Instr.extract, e, h3], h2⟩
  · cases h
theorem rdAssert_ok (hev : Evals Γ ev ρ) {x : Operand} {xt as : TypeId} {ok : Bool} {v : AV} (h : rdAssert P m ev x xt as ok = some v) : Gives P Γ w ρ (.typeAssert x xt as ok) v := by
  intro dst type pos after guard
  unfold rdAssert at h
  split at h
  · cases h
  · rename_i d t a hni hu hx
    have := hev _ _ hx; simp only [rel] at this
    obtain ⟨z, e, hr⟩ := this
    cases ht : Nat.beq t as with
    | true =>
      rw [ht] at h; cases h
      have : t = as := Nat.eq_of_beq_eq_true ht
      subst this
      refine ⟨if ok then .tuple #[z, .bool true] else z, ?_, ?_⟩
      · simp only [execOp, Sem.run_bind, Instr.typeAssert, run_underlying hu, Result.andThen_ok, e]
        cases d <;> first | exact absurd hu (by intro q; exact hni _ q) | (cases ok <;> simp)
      · cases ok
        · exact hr
        · simp only [if_true, rel]; exact ⟨[z, .bool true], rfl, by simp only [relL]; exact ⟨_, _, rfl, hr, _, _, rfl, by simp only [rel], rfl⟩⟩
    | false =>
      rw [ht] at h
      simp only [cond_false] at h
      cases ok with
      | false => cases h
      | true =>
        simp only [cond_true] at h
        split at h
        case h_2 => cases h
        rename_i zv hz
        cases h
        obtain ⟨zc, hz1, hz2⟩ := zeroA_run hz Γ w
        have hne : t ≠ as := by rintro rfl; simp at ht
        refine ⟨.tuple #[zc, .bool false], ?_, ?_⟩
        · simp only [execOp, Sem.run_bind, Instr.typeAssert, run_underlying hu, Result.andThen_ok, e]
          cases d <;> first | exact absurd hu (by intro q; exact hni _ q) | (simp [hne, hz1])
        · simp only [rel]; exact ⟨[zc, .bool false], rfl, by simp only [relL]; exact ⟨_, _, rfl, hz2, _, _, rfl, by simp only [rel], rfl⟩⟩
  · cases h
theorem bytesOf_run : ∀ {l : List AV} {x : Nat} {vs : List Value}, bytesOf l = some x → relL Γ l vs → x < 256 ^ l.length ∧
    ∀ (f : Value → ByteArray → Sem (ForInStep ByteArray)), (∀ n r, f (.int .u8 n) r = pure (ForInStep.yield (r.push (UInt8.ofNat n.toNat)))) → ∀ (s : ByteArray) (w : World), (forIn vs s f : Sem ByteArray).run P w = .ok ⟨⟨s.data.toList ++ dec l.length x⟩⟩ w
  | [], x, vs, h, hr => by
    simp only [bytesOf, Option.some.injEq] at h; subst h
    simp only [relL] at hr; subst hr
    refine ⟨by simp, fun f hf s w => ?_⟩
    simp [dec]
  | a :: l, x, vs, h, hr => by
    simp only [relL] at hr
    obtain ⟨v, vs', rfl, h1, h2⟩ := hr
    unfold bytesOf at h
    split at h
    · rename_i e; cases e
    · rename_i n l' e
      cases e
      split at h
      · rename_i a y hy
        cases hlt : Nat.blt a 256 with
        | false => rw [hlt] at h; cases h
        | true =>
          rw [hlt] at h; cases h
          have hlt' := nblt hlt
          obtain ⟨h3, h4⟩ := bytesOf_run hy h2
          simp only [rel] at h1; subst h1
          refine ⟨by simp only [List.length_cons, Nat.pow_succ]; omega, fun f hf s w => ?_⟩
          simp only [List.forIn_cons, Sem.run_bind, hf, Sem.run_pure, Result.andThen_ok]
          rw [h4 f hf]
          congr 1
          apply ByteArray.ext
          apply Array.ext'
          simp only [List.length_cons, dec]
          rw [show (a + 256 * y) % 256 = a by omega, show (a + 256 * y) / 256 = y by omega]
          simp [ByteArray.push]
      · cases h
    · cases h
theorem rdConv_ok (hR : Rep base Γ m.H w) (hev : Evals Γ ev ρ) {src dst' : TypeId} {x : Operand} {v : AV} (h : rdConv P m ev src dst' x = some v) : Gives P Γ w ρ (.convert src dst' x) v := by
  intro dst type pos after guard
  unfold rdConv at h
  split at h
  case h_2 => cases h
  rename_i a ha
  have hx := hev _ _ ha
  suffices ∃ c, (convert src dst' (ρ x)).run P w = .ok c w ∧ rel Γ v c by
    obtain ⟨c, h1, h2⟩ := this; exact ⟨c, by simp [execOp, h1], h2⟩
  generalize ρ x = u at *
  unfold convA at h
  split at h
  · rename_i k0 k n j hu hd
    cases h
    simp only [rel] at hx; subst hx
    exact ⟨_, by simp [convert, run_underlying hu, run_underlying hd, Conv.intToInt]; rfl, by simp only [rel]⟩
  · rename_i n y hu hd
    cases h
    simp only [rel] at hx
    obtain ⟨rfl, hlt⟩ := hx
    exact ⟨_, by simp [convert, run_underlying hu, run_underlying hd]; rfl, by simp only [rel]; exact ⟨trivial, hlt⟩⟩
  · rename_i e hu hd
    split at h
    case h_2 => cases h
    rename_i he
    split at h
    · cases h
      simp only [rel] at hx; subst hx
      exact ⟨.string .empty, by simp [convert, run_underlying hu, run_underlying hd, run_underlying he, Conv.bytesToString], by simp only [rel]; exact ⟨rfl, by decide⟩⟩
    · rename_i b off len c o
      split at h
      case h_2 => cases h
      rename_i n tr el op fz hb
      cases hle : Nat.ble (off + len) n with
      | false => rw [hle] at h; cases h
      | true =>
        rw [hle] at h
        simp only [cond_true] at h
        split at h
        case h_2 => cases h
        rename_i l hl
        split at h
        case h_2 => cases h
        rename_i y hy
        cases h
        simp only [rel] at hx
        obtain ⟨i, cp, hi, rfl, _⟩ := hx
        obtain ⟨i', c', lo, hi', h1, h2, h3, h4, h5, h6, h7, h8⟩ := hR.row hb
        rw [hi] at h1; cases h1
        obtain ⟨vs, h9, h10, h11⟩ := take_rel h7 (Nat.le_of_ble_eq_true hle) hl
        have hcells := run_loadCells_list (P := P) w ⟨i.blk, off, none⟩ vs (fun j v hv => by rw [addr_add, cellAt h3]; exact h10 j v hv)
        obtain ⟨hlt, hrun⟩ := bytesOf_run (P := P) hy h11
        have hlen : l.length = len := by rw [h11.length, h9]
        rw [hlen] at hlt hrun
        refine ⟨.string (strOf len y), ?_, by simp only [rel]; exact ⟨trivial, hlt⟩⟩
        simp only [convert, Sem.run_bind, run_underlying hu, run_underlying hd, run_underlying he, Result.andThen_ok, Conv.bytesToString]
        rw [h9] at hcells
        rw [hcells]
        simp only [Result.andThen_ok]
        rw [List.forIn_toArray]
        refine (congrArg (fun r => Result.andThen r _) (hrun _ (fun n r => rfl) .empty w)).trans ?_
        rfl
    · cases h
  · rename_i t hu hd
    cases h
    simp only [rel] at hx; subst hx
    exact ⟨.pointer none, by simp [convert, run_underlying hu, run_underlying hd, Conv.unsafePointer], by simp only [rel]⟩
  · rename_i t b off hu hd
    split at h
    case h_2 => cases h
    rename_i n tr el fz s hb hs
    cases hc : (!(Nat.beq s 0) && Nat.blt off n) with
    | false => rw [hc] at h; cases h
    | true =>
      rw [hc] at h; cases h
      simp only [Bool.and_eq_true, Bool.not_eq_true'] at hc
      have hs0 : s ≠ 0 := by rintro rfl; simp at hc
      have hlt := nblt hc.2
      simp only [rel] at hx
      obtain ⟨i, hi, rfl⟩ := hx
      obtain ⟨i', c', lo, hi', h1, h2, h3, h4, h5, h6, h7, h8⟩ := hR.row hb
      rw [hi] at h1; cases h1
      have hsz := h6 rfl
      have hsh : w.shape? i.blk = some (el, c'.size) := by simp [World.shape?, h3]
      refine ⟨.pointer (some ⟨i.blk, off, none⟩), ?_, by simp only [rel]; exact ⟨i, hi, rfl⟩⟩
      simp [convert, run_underlying hu, run_underlying hd, Conv.unsafePointer, Conv.seenAt, viewAt, hsh, cellsIn, sizeA_run hs, hs0, hsz, Nat.not_le.2 hlt]
  · rename_i t hu hd
    cases h
    simp only [rel] at hx; subst hx
    exact ⟨.pointer none, by simp [convert, run_underlying hu, run_underlying hd, Conv.unsafePointer], by simp only [rel]⟩
  · rename_i u' b off hu hd
    split at h
    case h_2 => cases h
    rename_i n tr el fz s hb hs
    cases hc : liesAt P P.depth el (n / P.cellsOf el) off u' 1 with
    | false => rw [hc] at h; cases h
    | true =>
      rw [hc] at h; cases h
      simp only [rel] at hx
      obtain ⟨i, hi, rfl⟩ := hx
      obtain ⟨i', c', lo, hi', h1, h2, h3, h4, h5, h6, h7, h8⟩ := hR.row hb
      rw [hi] at h1; cases h1
      have hsz := h6 rfl
      have hsh : w.shape? i.blk = some (el, c'.size) := by simp [World.shape?, h3]
      refine ⟨.pointer (some ⟨i.blk, off, none⟩), ?_, by simp only [rel]; exact ⟨i, hi, rfl⟩⟩
      simp [convert, run_underlying hu, run_underlying hd, Conv.unsafePointer, Conv.seenAt, viewAt, hsh, variablesAt, hsz, hc, sizeA_run hs]
  · cases h
end Go.Proofs.YtijnlbpeckoofaaGreat
