/- A machine that runs closed calls: new blocks. -/
import Derived.Test.YtijnlbpeckoofaaGreatEngZ
set_option linter.unusedVariables false
set_option linter.unusedSimpArgs false
namespace Go.Proofs.YtijnlbpeckoofaaGreat
open Go.RowKit
variable {P : Program} {base : Nat} {Γ : Tie} {m : Mem} {w : World} {ev : Operand → Option AV} {ρ : Operand → Value}

theorem relO_cells {cs : List AV} {c : Array Value} (h : relL Γ cs c.toList) (b : Nat) (elem : TypeId) (opn : Bool) : relO Γ ⟨b, c.size⟩ (cellsObj cs elem opn) (.cells c elem (0, 0)) := by
  have hl : cs.length = c.size := by rw [h.length]; simp
  refine ⟨c, 0, 0, rfl, rfl, by rw [hl]; exact Nat.le_refl _, fun _ => hl.symm, fun j a hj ha => ?_, fun _ off _ => by omega⟩
  rw [PT.get_fill, if_pos ⟨Nat.zero_le _, by simpa using hj⟩] at ha
  obtain ⟨x, h1, h2⟩ := h.get (by simpa using ha)
  exact ⟨x, by simpa using h1, h2⟩
/-- An operation that lays one block. -/
structure Lays (P : Program) (Γ : Tie) (w : World) (ρ : Operand → Value) (op : Op) (obj : AObj) (f : Nat → AV) (dst : Option Tmp) (type : TypeId) (pos : String) (after : Array Edge) (guard : Option (Nat × Bool)) : Prop where
  out : ∃ c w' o' tot, (execOp ρ ⟨dst, op, type, pos, after, guard⟩).run P w = .ok (.value c) w' ∧ w'.heap = w.heap.push o' ∧ w'.os = w.os ∧ w'.tape = w.tape ∧ w'.output = w.output ∧
    relO Γ ⟨w.heap.size, tot⟩ obj o' ∧ ∀ (Γ' : Tie) (b : Nat), Γ' b = some ⟨w.heap.size, tot⟩ → rel Γ' (f b) c
theorem range_map {size : Nat} {z : List AV} {vs : List Value} (h : relL Γ z vs) (hz : 0 < z.length ∨ size = 0) : relL Γ ((List.range size).map fun i => z.getD (i % z.length) .undef) ((Array.range size).map fun i => (⟨vs⟩ : Array Value)[i % (⟨vs⟩ : Array Value).size]!).toList := by
  have hl := h.length
  refine relL_iff.2 ⟨by simp, fun i a ha => ?_⟩
  rw [List.getElem?_map] at ha
  cases hr : (List.range size)[i]? with
  | none => rw [hr] at ha; cases ha
  | some k =>
    obtain ⟨hlt, hk⟩ := List.getElem?_eq_some_iff.1 hr
    simp only [List.getElem_range] at hk; subst hk
    rw [hr] at ha
    simp only [Option.map_some, Option.some.injEq] at ha
    have hlt' : i < size := by simpa using hlt
    have hz' : 0 < z.length := by omega
    have hm : i % z.length < z.length := Nat.mod_lt _ hz'
    have hg : z[i % z.length]? = some a := by
      rw [List.getElem?_eq_getElem hm]
      rw [List.getD_eq_getElem?_getD, List.getElem?_eq_getElem hm] at ha
      simpa using ha
    obtain ⟨x, h1, h2⟩ := h.get hg
    refine ⟨x, ?_, h2⟩
    have e1 : ((⟨vs⟩ : Array Value)[i % (⟨vs⟩ : Array Value).size]!) = x := by
      simp only [List.size_toArray]
      rw [← hl, getElem!_def]
      have : (⟨vs⟩ : Array Value)[i % z.length]? = some x := by simpa using h1
      rw [this]
    simp only [Array.toList_map, Array.toList_range, List.getElem?_map, hr, Option.map_some]
    rw [e1]
theorem dec_bytesL (Γ : Tie) : ∀ (n x : Nat), relL Γ (bytesL n x) ((dec n x).map fun b => Value.int .u8 b.toNat)
  | 0, x => by simp [bytesL, dec, relL]
  | n + 1, x => by
    simp only [bytesL, dec, List.map_cons, relL]
    refine ⟨_, _, rfl, ?_, dec_bytesL Γ n (x / 256)⟩
    simp only [rel]
    have : (UInt8.ofNat (x % 256)).toNat = x % 256 := by simp
    rw [this]; rfl
theorem allocA_ok (hev : Evals Γ ev ρ) {op : Op} {obj : AObj} {f : Nat → AV} (h : allocA P ev op = some (obj, f)) (dst : Option Tmp) (type : TypeId) (pos : String) (after : Array Edge) (guard : Option (Nat × Bool)) :
    Lays P Γ w ρ op obj f dst type pos after guard := by
  unfold allocA at h
  split at h
  · rename_i elem
    split at h
    case h_2 => cases h
    rename_i z hz
    cases h
    obtain ⟨zc, h1, h2⟩ := zeroA_run hz Γ w
    exact ⟨.pointer (some ⟨w.heap.size, 0, none⟩), w.alloc (.cells zc.cells elem), .cells zc.cells elem, zc.cells.size, by simp [execOp, Instr.alloc, h1, newVar, newRow], rfl, rfl, rfl, rfl, relO_cells h2.cells _ _ _, fun Γ' b hb => by simp only [rel]; exact ⟨_, hb, rfl⟩⟩
  · rename_i elem x
    split at h
    case h_2 => cases h
    rename_i v hv
    cases h
    have h2 := hev _ _ hv
    exact ⟨.pointer (some ⟨w.heap.size, 0, none⟩), w.alloc (.cells (ρ x).cells elem), .cells (ρ x).cells elem, (ρ x).cells.size, by simp [execOp, Instr.box, newVar, newRow], rfl, rfl, rfl, rfl, relO_cells h2.cells _ _ _, fun Γ' b hb => by simp only [rel]; exact ⟨_, hb, rfl⟩⟩
  · rename_i t len parts
    split at h
    case h_2 => cases h
    rename_i elem hu
    split at h
    case h_2 => cases h
    rename_i size z ps hs hz hps
    cases hle : (Nat.ble (len * size) 16777216 && (Nat.beq (len * size) 0 || Nat.blt 0 z.cells.length)) with
    | false => rw [hle] at h; cases h
    | true =>
      rw [hle] at h
      simp only [cond_true] at h
      split at h
      case h_2 => cases h
      rename_i cs hf
      cases hcl : Nat.beq cs.length (len * size) with
      | false => rw [hcl] at h; cases h
      | true =>
        rw [hcl] at h; cases h
        obtain ⟨zc, h1, h2⟩ := zeroA_run hz Γ w
        have hP := evalsP_rel hev hps
        simp only [Bool.and_eq_true, Bool.or_eq_true] at hle
        have hle' := Nat.le_of_ble_eq_true hle.1
        by_cases hz0 : len * size = 0
        · have e0 : (List.range (len * size)).map (fun i => z.cells.getD (i % z.cells.length) .undef) = [] := by rw [hz0]; rfl
          rw [e0] at hf
          obtain ⟨vs, h3, h4⟩ := fillA_run (vs := []) hP (by simp only [relL]) hf
          refine ⟨.slice (some ⟨w.heap.size, 0, none⟩) len len, w.alloc (.cells ⟨vs⟩ elem), .cells ⟨vs⟩ elem, vs.length, ?_, rfl, rfl, rfl, rfl, relO_cells (c := ⟨vs⟩) h4 _ _ _, fun Γ' b hb => by simp only [rel]; exact ⟨_, len, hb, rfl, fun h => absurd rfl h, fun _ => rfl⟩⟩
          have h3' : Instr.fill (fun i => some (i * size, size)) #[] (parts.toList.map fun p => (p.1, ρ p.2)) = some ⟨vs⟩ := h3
          have hz0' : len = 0 ∨ size = 0 := Nat.mul_eq_zero.1 hz0
          have hr0 : Array.map (fun (_ : Nat) => (default : Value)) (Array.range 0) = #[] := by apply Array.ext'; simp
          simp [hr0, execOp, Instr.buildSlice, run_underlying hu, sizeA_run hs, hz0, hz0', h3', newRow]
        · have hzc : 0 < z.cells.length := by
            rcases hle.2 with h | h
            · exact absurd (Nat.eq_of_beq_eq_true h) hz0
            · exact nblt h
          · have hrel : relL Γ z.cells zc.cells.toList := h2.cells
            have hrm := range_map (size := len * size) hrel (.inl hzc)
            have e1 : (⟨zc.cells.toList⟩ : Array Value) = zc.cells := by simp
            rw [e1] at hrm
            obtain ⟨vs, h3, h4⟩ := fillA_run hP hrm hf
            refine ⟨.slice (some ⟨w.heap.size, 0, none⟩) len len, w.alloc (.cells ⟨vs⟩ elem), .cells ⟨vs⟩ elem, vs.length, ?_, rfl, rfl, rfl, rfl, relO_cells (c := ⟨vs⟩) h4 _ _ _, fun Γ' b hb => by simp only [rel]; exact ⟨_, len, hb, rfl, fun h => absurd rfl h, fun _ => rfl⟩⟩
            have h3' : Instr.fill (fun i => some (i * size, size)) ((Array.range (len * size)).map fun i => zc.cells[i % zc.cells.size]!) (parts.toList.map fun p => (p.1, ρ p.2)) = some ⟨vs⟩ := by
              have e2 : (⟨((Array.range (len * size)).map fun i => zc.cells[i % zc.cells.size]!).toList⟩ : Array Value) = (Array.range (len * size)).map fun i => zc.cells[i % zc.cells.size]! := by apply Array.ext'; rfl
              rw [← e2]; exact h3
            have hz0' : ¬ (len = 0 ∨ size = 0) := fun h => hz0 (Nat.mul_eq_zero.2 h)
            simp [execOp, Instr.buildSlice, run_underlying hu, sizeA_run hs, hz0, hz0', h1, h3', newRow, Nat.not_lt.2 hle']
  · cases h
    exact ⟨.map (some w.heap.size), w.alloc (.map #[] 0), .map #[] 0, 0, by simp [execOp, Instr.makeMap], rfl, rfl, rfl, rfl, ⟨#[], rfl, rfl⟩, fun Γ' b hb => by simp only [rel]; exact ⟨_, hb, rfl⟩⟩
  · rename_i t xl xc
    split at h
    case h_2 => cases h
    rename_i elem k1 l k2 c hu hl hc
    split at h
    case h_2 => cases h
    rename_i size z bytes hs hz hby
    cases hle : (Nat.ble l c && Nat.ble (c * bytes) 1099511627776 && Nat.ble c 1099511627776 && (Nat.beq (c * size) 0 || Nat.blt 0 z.cells.length)) with
    | false => rw [hle] at h; cases h
    | true =>
      rw [hle] at h; cases h
      simp only [Bool.and_eq_true, Bool.or_eq_true] at hle
      obtain ⟨⟨⟨hl1, hl2⟩, hl3⟩, hl4⟩ := hle
      have hl1' := Nat.le_of_ble_eq_true hl1
      have hl2' := Nat.le_of_ble_eq_true hl2
      have hl3' := Nat.le_of_ble_eq_true hl3
      obtain ⟨zc, h1, h2⟩ := zeroA_run hz Γ w
      obtain ⟨i, hi, hib⟩ := bytesA_run hby
      have el := hev _ _ hl
      have ec := hev _ _ hc
      simp only [rel] at el ec
      have hwl : IntKind.i64.wrap (l : Int) = l := by simp [IntKind.wrap, IntKind.bits, IntKind.signed]; omega
      have hwc : IntKind.i64.wrap (c : Int) = c := by simp [IntKind.wrap, IntKind.bits, IntKind.signed]; omega
      have hbig : ¬ ((bytes : Int) * c > 281474976710656) := by
        have h3 : bytes * c ≤ 1099511627776 := by rw [Nat.mul_comm]; exact hl2'
        have h4 : ((bytes * c : Nat) : Int) = (bytes : Int) * c := by push_cast; rfl
        rw [← h4]; omega
      have hroom : ¬ (c * bytes > roomBytes) := by unfold roomBytes; omega
      have hti : (typeInfo elem).run P w = .ok i w := by simp [typeInfo, hi]
      have hge : ¬ ((c : Int) < 0) := by omega
      have hlt : ¬ ((c : Int) < l) := by omega
      have hask : (askRoom (c * bytes)).run P w = .ok () w := by unfold askRoom; rw [if_neg hroom]; rfl
      refine ⟨.slice (some ⟨w.heap.size, 0, none⟩) l c, w.alloc (.cells ((Array.range (c * size)).map fun i => zc.cells[i % zc.cells.size]!) elem), .cells ((Array.range (c * size)).map fun i => zc.cells[i % zc.cells.size]!) elem, _, ?_, rfl, rfl, rfl, rfl, relO_cells ?_ _ _ _, fun Γ' b hb => by simp only [rel]; exact ⟨_, c, hb, rfl, fun h => absurd rfl h, fun _ => rfl⟩⟩
      · have hzero : c * size = 0 → ((Array.range (c * size)).map fun i => (#[] : Array Value)[i % (#[] : Array Value).size]!) = (Array.range (c * size)).map fun i => zc.cells[i % zc.cells.size]! := by
          intro h0; rw [h0]; apply Array.ext'; simp
        simp only [execOp, Sem.run_bind, Instr.makeSlice, run_underlying hu, Result.andThen_ok, el, ec, asInt, asIntOf, Sem.run_pure, hti, hib, hwl, hwc]
        simp only [Int.ofNat_eq_natCast, hwl, hwc]
        have hcond : ¬ ((decide ((c : Int) < 0) || decide ((bytes : Int) * c > 2 ^ 48) || decide ((l : Int) < 0) || decide ((l : Int) > c)) = true) := by
          have e48 : (2 ^ 48 : Int) = 281474976710656 := by decide
          rw [e48]
          simp only [Bool.or_eq_true, decide_eq_true_eq]
          omega
        rw [if_neg hcond]
        simp only [Int.toNat_natCast, Sem.run_bind, hask, sizeA_run hs, Result.andThen_ok]
        by_cases hz0 : c * size = 0
        · rw [if_pos hz0]
          simp only [Sem.run_bind, Sem.run_pure, Result.andThen_ok, newRow, hzero hz0]
          rfl
        · rw [if_neg hz0]
          simp only [Sem.run_bind, h1, Sem.run_pure, Result.andThen_ok, newRow]
          rfl
      · have e1 : (⟨zc.cells.toList⟩ : Array Value) = zc.cells := by simp
        by_cases hz0 : c * size = 0
        · rw [hz0]; simp [relL]
        · have := range_map (size := c * size) h2.cells (.inl (by rcases hl4 with h | h; exact absurd (Nat.eq_of_beq_eq_true h) hz0; exact nblt h))
          rw [e1] at this
          exact this
  · rename_i src dst' x
    split at h
    case h_2 => cases h
    rename_i e n y hs hd hx
    split at h
    case h_2 => cases h
    rename_i he
    cases h
    have hx' := hev _ _ hx
    simp only [rel] at hx'
    obtain ⟨ex, hlt⟩ := hx'
    have hsz : (strOf n y).size = n := by simp [strOf, ByteArray.size, dec_length]
    obtain ⟨cap, hcap, hrun⟩ : ∃ cap, n ≤ cap ∧ (choose (.appendCap n 0 e)).run P w = .ok cap w.drew := ⟨_, Nat.le_add_right _ _, rfl⟩
    let cs : Array Value := ((strOf n y).data.map fun b => Value.int .u8 b.toNat) ++ Array.replicate (cap - n) (.int .u8 0)
    have hcs : cs.size = cap := by simp [cs, dec_length]; omega
    have hnew : (w.drew.alloc (.cells cs e)).heap[w.heap.size]? = some (.cells cs e (0, 0)) := heap_alloc_new w.drew _
    have hsh : (w.drew.alloc (.cells cs e)).shape? w.heap.size = some (e, cap) := by rw [← hcs]; unfold World.shape?; rw [hnew]
    have hfz : ((w.drew.alloc (.cells cs e)).freeze ⟨w.heap.size, cap, none⟩ 1).heap = w.heap.push (.cells cs e (cap, cap + 1)) := by
      apply Array.ext_getElem?
      intro k
      have hf : ((w.drew.alloc (.cells cs e)).freeze ⟨w.heap.size, cap, none⟩ 1).heap = (w.drew.alloc (.cells cs e)).heap.modify w.heap.size fun
        | .cells c elem (lo, hi) => .cells c elem (if lo == hi then (cap, cap + 1) else (min lo cap, max hi (cap + 1)))
        | o => o := rfl
      rw [hf, Array.getElem?_modify, Array.getElem?_push]
      by_cases hk : w.heap.size = k
      · subst hk
        rw [if_pos rfl, if_pos rfl, hnew]; rfl
      · rw [if_neg hk, if_neg (Ne.symm hk)]
        by_cases hlt : k < w.heap.size
        · exact heap_alloc_old w.drew _ hlt
        · have h1 : (w.drew.alloc (.cells cs e)).heap[k]? = none := by
            apply Array.getElem?_eq_none
            have : (w.drew.alloc (.cells cs e)).heap.size = w.heap.size + 1 := by simp
            omega
          rw [h1]; exact (Array.getElem?_eq_none (by omega)).symm
    refine ⟨.slice (some ⟨w.heap.size, 0, none⟩) n cap, (w.drew.alloc (.cells cs e)).freeze ⟨w.heap.size, cap, none⟩ 1, .cells cs e (cap, cap + 1), cap, ?_, hfz, rfl, rfl, rfl, ?_, fun Γ' b hb => by simp only [rel]; exact ⟨_, cap, hb, rfl, fun _ => ⟨hcap, by simp⟩, fun h => by cases h⟩⟩
    · simp only [execOp, Sem.run_bind, convert, run_underlying hs, run_underlying hd, run_underlying he, Result.andThen_ok, ex, Conv.stringToBytes, hsz, hrun]
      have hnr : (newRow e cs).run P w.drew = .ok ⟨w.heap.size, 0, none⟩ (w.drew.alloc (.cells cs e)) := rfl
      have hms : (markStringish ⟨w.heap.size, 0, none⟩).run P (w.drew.alloc (.cells cs e)) = .ok () ((w.drew.alloc (.cells cs e)).freeze ⟨w.heap.size, cap, none⟩ 1) := by
        have e1 : (shape w.heap.size).run P (w.drew.alloc (.cells cs e)) = .ok (some (e, cap)) (w.drew.alloc (.cells cs e)) := by
          show Result.ok ((w.drew.alloc (.cells cs e)).shape? w.heap.size) _ = _
          rw [hsh]
        simp only [markStringish, Sem.run_bind, e1, Result.andThen_ok]
        rfl
      rw [hnr]
      simp only [Result.andThen_ok, hms, Sem.run_pure]
    · refine ⟨cs, cap, cap + 1, rfl, hcs, by omega, (fun h => by cases h), fun q a hq ha => ?_, fun _ off hoff => by omega⟩
      rw [PT.get_fill] at ha
      have hbl : (bytesL n y).length = n := by rw [(dec_bytesL Γ n y).length]; simp [dec_length]
      rw [if_pos ⟨Nat.zero_le _, by omega⟩] at ha
      obtain ⟨v, h1, h2⟩ := (dec_bytesL Γ n y).get (by simpa using ha)
      refine ⟨v, ?_, h2⟩
      have hq' : q < ((strOf n y).data.map fun b => Value.int .u8 b.toNat).size := by simp [dec_length]; exact hq
      show (((strOf n y).data.map fun b => Value.int .u8 b.toNat) ++ Array.replicate (cap - n) (Value.int .u8 0))[q]? = some v
      rw [Array.getElem?_append_left hq']
      simpa using h1
  · cases h
end Go.Proofs.YtijnlbpeckoofaaGreat
