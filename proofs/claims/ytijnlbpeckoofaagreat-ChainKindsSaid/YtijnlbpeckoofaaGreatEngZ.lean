/- A machine that runs closed calls: whatever reads, gives what it tells. -/
import Derived.Test.YtijnlbpeckoofaaGreatEngY
set_option linter.unusedVariables false
set_option linter.unusedSimpArgs false
namespace Go.Proofs.YtijnlbpeckoofaaGreat
open Go.RowKit
variable {P : Program} {base : Nat} {Γ : Tie} {m : Mem} {w : World} {ev : Operand → Option AV} {ρ : Operand → Value}

theorem getObj_iter {r : Nat} {a : Option Nat} {b : Nat} {c : Array Nat} {d : Nat} (h : w.heap[r]? = some (.mapIter a b c d)) : (getObj r).run P w = .ok (.mapIter a b c d) w := by
  simp [getObj, Sem.run, h]
theorem relE.find {stamp : Nat} : ∀ {es : List (AV × AV × Nat)} {l : List MapEntry} {e : AV × AV × Nat}, es.find? (fun e => Nat.beq e.2.2 stamp) = some e → relE Γ es l → ∃ e', l.find? (·.born == stamp) = some e' ∧ rel Γ e.1 e'.key ∧ rel Γ e.2.1 e'.val
  | [], l, e, h, he => by cases h
  | (k, v, b) :: es, l, e, h, he => by
    obtain ⟨e0, l', rfl, h1, h2, h3, h4⟩ := he
    simp only [List.find?_cons] at h ⊢
    have : (e0.born == stamp) = Nat.beq b stamp := by rw [h3, Bool.eq_iff_iff]; simp [Nat.beq_eq]
    rw [this]
    cases hb : Nat.beq b stamp with
    | true => rw [hb] at h; cases h; exact ⟨e0, rfl, h1, h2⟩
    | false => rw [hb] at h; exact relE.find h h4
theorem rdEntry_ok (hR : Rep base Γ m.H w) (hev : Evals Γ ev ρ) {it : Operand} {v : AV} (h : rdEntry P m ev it = some v) : Gives P Γ w ρ (.entry it) v := by
  intro dst type pos after guard
  unfold rdEntry at h
  split at h
  case h_2 => cases h
  rename_i b hit
  split at h
  case h_2 => cases h
  rename_i mb since seen stepped hb
  split at h
  case h_2 => cases h
  rename_i es clock stamp hmb hst
  cases hc : Nat.beq clock stepped with
  | false => rw [hc] at h; cases h
  | true =>
    rw [hc] at h
    simp only [cond_true] at h
    split at h
    case h_2 => cases h
    rename_i e hf
    cases h
    have := Nat.eq_of_beq_eq_true hc
    subst this
    have hx := hev _ _ hit
    simp only [rel] at hx
    obtain ⟨i, hi, e1⟩ := hx
    obtain ⟨i', o', h1, h2, h3, j, hj, rfl⟩ := hR.obj b _ hb
    rw [hi] at h1; cases h1
    obtain ⟨j', es', hj', _, h4, h5⟩ := hR.mapAt hmb
    rw [hj] at hj'; cases hj'
    obtain ⟨e', h6, h7, h8⟩ := h5.find hf
    have h9 : es'.find? (·.born == stamp) = some e' := by rw [← Array.find?_toList]; exact h6
    have h10 : (⟨seen⟩ : Array Nat).back? = some stamp := by rw [Array.back?_eq_getElem?]; simpa [List.getLast?_eq_getElem?] using hst
    refine ⟨.tuple #[e'.key, e'.val], ?_, by simp only [rel]; exact ⟨[e'.key, e'.val], rfl, by simp only [relL]; exact ⟨_, _, rfl, h7, _, _, rfl, h8, rfl⟩⟩⟩
    simp [execOp, Instr.entry, e1, getObj_iter (P := P) h3, h10, getObj_map (P := P) h4, h9]
theorem evals_one (hev : Evals Γ ev ρ) {args : Array Operand} {a : AV} {as : List AV} (h : evals ev args.toList = some (a :: as)) : ∃ v vs, args.map ρ = ⟨v :: vs⟩ ∧ rel Γ a v ∧ relL Γ as vs := by
  have := evals_rel hev h
  simp only [relL] at this
  obtain ⟨v, vs, e, h1, h2⟩ := this
  exact ⟨v, vs, by apply Array.ext'; simp [e], h1, h2⟩
/-- A builtin call that only tells a value. -/
theorem gives_builtin {b : Builtin} {args : Array Operand} {ts : Array TypeId} {v : AV} (h : ∀ type consts, ∃ c, (builtin b ts type consts (args.map ρ)).run P w = .ok (.value c) w ∧ rel Γ v c) : Gives P Γ w ρ (.call { callee := .builtin b, args := args, argTypes := ts }) v := by
  intro dst type pos after guard
  obtain ⟨c, h1, h2⟩ := h type (args.map fun | .const _ => true | _ => false)
  exact ⟨c, by simp only [execOp, resolve, Sem.run_bind, Sem.run_pure, Result.andThen_ok, invoke]; exact h1, h2⟩
theorem toList_cons {α : Type} {x : Array α} {a : α} {l : List α} (h : x.toList = a :: l) : x[0]? = some a := by
  have : x = ⟨a :: l⟩ := by apply Array.ext'; exact h
  subst this; rfl
theorem rdLen_ok (hR : Rep base Γ m.H w) (hev : Evals Γ ev ρ) {args : Array Operand} {ts : Array TypeId} {v : AV} (h : rdLen P m ev args ts = some v) : Gives P Γ w ρ (.call { callee := .builtin .len, args := args, argTypes := ts }) v := by
  refine gives_builtin fun type consts => ?_
  unfold rdLen at h
  split at h
  case h_2 => cases h
  rename_i t tl a al hts hargs
  obtain ⟨u, us, e, hr, _⟩ := evals_one hev hargs
  have ht := toList_cons hts
  have hu : (args.map ρ)[0]? = some u := by rw [e]; rfl
  suffices ∃ c, (Builtin.len_ ts type (args.map ρ)).run P w = .ok c w ∧ rel Γ v c by
    obtain ⟨c, h1, h2⟩ := this; exact ⟨c, by simp [builtin, h1], h2⟩
  unfold Builtin.len_
  simp only [ht, hu]
  clear hu e
  split at h
  · rename_i n x hty
    cases h
    simp only [rel] at hr
    obtain ⟨rfl, _⟩ := hr
    have hs : (strOf n x).size = n := by simp [strOf, ByteArray.size, dec_length]
    exact ⟨.int .i64 n, by simp [run_underlying hty, hs, goInt], by simp only [rel]⟩
  · rename_i e' hty; cases h
    simp only [rel] at hr; subst hr
    exact ⟨.int .i64 0, by simp [run_underlying hty, goInt], by simp only [rel]⟩
  · rename_i e' b off len cap q hty; cases h
    simp only [rel] at hr
    obtain ⟨i, c, hi, rfl, _⟩ := hr
    exact ⟨.int .i64 len, by simp [run_underlying hty, goInt], by simp only [rel]⟩
  · rename_i e' b hty; cases h
    simp only [rel] at hr
    obtain ⟨i, o, c, hi, rfl⟩ := hr
    exact ⟨.int .i64 0, by simp [run_underlying hty, goInt], by simp only [rel]⟩
  · rename_i n e' hty; cases h
    exact ⟨.int .i64 n, by simp [run_underlying hty, goInt], by simp only [rel]⟩
  · rename_i k e' hty; cases h
    simp only [rel] at hr; subst hr
    exact ⟨.int .i64 0, by simp [run_underlying hty, goInt], by simp only [rel]⟩
  · rename_i k e' b hty
    split at h
    case h_2 => cases h
    rename_i es clock hb
    cases h
    simp only [rel] at hr
    obtain ⟨i, hi, rfl⟩ := hr
    obtain ⟨i', es', hi', _, h4, h5⟩ := hR.mapAt hb
    rw [hi] at hi'; cases hi'
    have hl := h5.length
    exact ⟨.int .i64 es.length, by simp [run_underlying hty, getObj_map (P := P) h4, goInt, hl], by simp only [rel]⟩
  · cases h
theorem rdCap_ok (hev : Evals Γ ev ρ) {args : Array Operand} {ts : Array TypeId} {v : AV} (h : rdCap P m ev args ts = some v) : Gives P Γ w ρ (.call { callee := .builtin .cap, args := args, argTypes := ts }) v := by
  refine gives_builtin fun type consts => ?_
  unfold rdCap at h
  split at h
  case h_2 => cases h
  rename_i t tl a al hts hargs
  obtain ⟨u, us, e, hr, _⟩ := evals_one hev hargs
  have ht := toList_cons hts
  have hu : (args.map ρ)[0]? = some u := by rw [e]; rfl
  suffices ∃ c, (Builtin.cap_ ts type (args.map ρ)).run P w = .ok c w ∧ rel Γ v c by
    obtain ⟨c, h1, h2⟩ := this; exact ⟨c, by simp [builtin, h1], h2⟩
  unfold Builtin.cap_
  simp only [ht, hu]
  clear hu e
  split at h
  · rename_i e' hty; cases h
    simp only [rel] at hr; subst hr
    exact ⟨.int .i64 0, by simp [run_underlying hty, goInt], by simp only [rel]⟩
  · rename_i e' b off len cap hty; cases h
    simp only [rel] at hr
    obtain ⟨i, c, hi, rfl, _, hc⟩ := hr
    have := hc trivial
    subst this
    exact ⟨.int .i64 c, by simp [run_underlying hty, goInt], by simp only [rel]⟩
  · cases h
theorem two_args (hev : Evals Γ ev ρ) {args : Array Operand} {k k' : IntKind} {a b : Int} (h : evals ev args.toList = some [.int k a, .int k' b]) : args.map ρ = #[.int k a, .int k' b] := by
  obtain ⟨u, us, e, h1, h2⟩ := evals_one hev h
  simp only [relL] at h2
  obtain ⟨v, vs, rfl, h3, rfl⟩ := h2
  simp only [rel] at h1 h3
  rw [e, h1, h3]
theorem rdMax_ok (hev : Evals Γ ev ρ) {args : Array Operand} {ts : Array TypeId} {v : AV} (h : rdMax P m ev args ts = some v) : Gives P Γ w ρ (.call { callee := .builtin .max, args := args, argTypes := ts }) v := by
  refine gives_builtin fun type consts => ?_
  unfold rdMax at h
  split at h
  case h_2 => cases h
  rename_i k a k' b hargs
  cases h
  rw [two_args hev hargs]
  exact ⟨.int k (if b > a then b else a), by simp [builtin, Builtin.max_, Builtin.max2], by simp only [rel]⟩
theorem rdMin_ok (hev : Evals Γ ev ρ) {args : Array Operand} {ts : Array TypeId} {v : AV} (h : rdMin P m ev args ts = some v) : Gives P Γ w ρ (.call { callee := .builtin .min, args := args, argTypes := ts }) v := by
  refine gives_builtin fun type consts => ?_
  unfold rdMin at h
  split at h
  case h_2 => cases h
  rename_i k a k' b hargs
  cases h
  rw [two_args hev hargs]
  exact ⟨.int k (if b < a then b else a), by simp [builtin, Builtin.min_, Builtin.min2], by simp only [rel]⟩
theorem rdUnsafeSliceData_ok (hev : Evals Γ ev ρ) {args : Array Operand} {ts : Array TypeId} {v : AV} (h : rdUnsafeSliceData P m ev args ts = some v) : Gives P Γ w ρ (.call { callee := .builtin .unsafeSliceData, args := args, argTypes := ts }) v := by
  refine gives_builtin fun type consts => ?_
  unfold rdUnsafeSliceData at h
  split at h
  · rename_i hargs
    cases h
    obtain ⟨u, us, e, hr, h2⟩ := evals_one hev hargs
    simp only [relL] at h2; subst h2
    simp only [rel] at hr; subst hr
    rw [e]
    exact ⟨.pointer none, rfl, by simp only [rel]⟩
  · rename_i b off len cap q hargs
    cases hlt : Nat.blt 0 cap with
    | false => rw [hlt] at h; cases h
    | true =>
      rw [hlt] at h; cases h
      obtain ⟨u, us, e, hr, h2⟩ := evals_one hev hargs
      simp only [relL] at h2; subst h2
      simp only [rel] at hr
      obtain ⟨i, c, hi, rfl, h3, h4⟩ := hr
      have hlt' := nblt hlt
      have hc : c ≠ 0 := by
        by_cases hq : q = 0
        · have := h4 hq; omega
        · have := (h3 hq).1; omega
      rw [e]
      refine ⟨.pointer (some ⟨i.blk, off, none⟩), ?_, by simp only [rel]; exact ⟨i, hi, rfl⟩⟩
      have e2 : Builtin.unsafeSliceData_ ts type #[.slice (some ⟨i.blk, off, none⟩) len c] = pure (.pointer (some ⟨i.blk, off, none⟩)) := by
        show (if c ≠ 0 then pure (.pointer (some (⟨i.blk, off, none⟩ : Addr))) else _ : Sem Value) = _
        rw [if_pos hc]
      simp only [builtin, e2]
      rfl
  · cases h
theorem rdCall_ok (hR : Rep base Γ m.H w) (hev : Evals Γ ev ρ) {c : Call} {v : AV} (h : rdCall P m ev c = some v) : Gives P Γ w ρ (.call c) v := by
  obtain ⟨callee, args, ts⟩ := c
  unfold rdCall at h
  split at h
  · rename_i hc; simp only at hc h; subst hc; exact rdLen_ok hR hev h
  · rename_i hc; simp only at hc h; subst hc; exact rdCap_ok hev h
  · rename_i hc; simp only at hc h; subst hc; exact rdMax_ok hev h
  · rename_i hc; simp only at hc h; subst hc; exact rdMin_ok hev h
  · rename_i hc; simp only at hc h; subst hc; exact rdUnsafeSliceData_ok hev h
  · cases h
/-- Whatever reads, gives what it tells. -/
theorem readA_ok (hR : Rep base Γ m.H w) (hev : Evals Γ ev ρ) {op : Op} {v : AV} (h : readA P m ev op = some v) : Gives P Γ w ρ op v := by
  cases op <;> simp only [readA] at h
  case move x => exact fun _ _ _ _ _ => ⟨ρ x, by simp [execOp], hev _ _ h⟩
  case assign x => exact fun _ _ _ _ _ => ⟨ρ x, by simp [execOp], hev _ _ h⟩
  case pick => exact rdPick_ok hev h
  case build => exact rdBuild_ok hev h
  case load => exact rdLoad_ok hR hev h
  case nilCheck => exact rdNil_ok hev h
  case binOp => exact rdBin_ok hev h
  case unOp => exact rdUn_ok hev h
  case convert => exact rdConv_ok hR hev h
  case makeInterface => exact rdIface_ok hev h
  case makeFunc => exact rdFunc_ok hev h
  case slice => exact rdSlice_ok hev h
  case fieldAddr => exact rdFieldAddr_ok hev h
  case field => exact rdField_ok hev h
  case indexAddr => exact rdIndexAddr_ok hev h
  case index => exact rdIndex_ok hev h
  case lookup => exact rdLookup_ok hR hev h
  case entry => exact rdEntry_ok hR hev h
  case typeAssert => exact rdAssert_ok hev h
  case extract => exact rdExtract_ok hev h
  case call => exact rdCall_ok hR hev h
  all_goals cases h
/-- What is no matter of memory. -/
theorem readA_pure {op : Op} {v : AV} (hp : pureOp op = true) (h : readA P m ev op = some v) (m' : Mem) : readA P m' ev op = some v := by
  cases op <;> simp only [pureOp] at hp <;> first | (cases hp; done) | (simp only [readA] at h ⊢; first | exact h | (simp only [rdPick, rdBuild, rdNil, rdBin, rdUn, rdIface, rdFunc, rdSlice, rdFieldAddr, rdField, rdIndexAddr, rdIndex, rdAssert, rdExtract] at h ⊢; exact h))
end Go.Proofs.YtijnlbpeckoofaaGreat
