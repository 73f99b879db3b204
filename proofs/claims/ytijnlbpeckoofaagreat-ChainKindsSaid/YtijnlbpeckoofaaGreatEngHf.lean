/- Calls that are known from before: a map's keys, sorted; keys that are strings. Generic: the call's contract is a premise. -/
import Derived.Test.YtijnlbpeckoofaaGreatEngHe
import Derived.Sort.KeysCollected
set_option linter.unusedVariables false
set_option linter.unusedSimpArgs false
namespace Go.Proofs.YtijnlbpeckoofaaGreat
open Go.RowKit Go.Maps Go.Sort Go.Proofs Go.ChangeShapes Go.WideShapes Go.WideElems
variable {cf : Cf} {base : Nat} {E : World → Prop} {Γ : Tie} {m : Mem} {w w' : World} {P : Program}

/-! ### Sorted strings -/
abbrev SN := Nat × Nat
def decP (p : SN) : List UInt8 := dec p.1 p.2
theorem bytesLess_eq : ∀ a b : List UInt8, Op.bytesLess a b = decide (a < b)
  | a, [] => by cases a <;> simp [Op.bytesLess]
  | [], b :: bs => by simp [Op.bytesLess]
  | a :: as, b :: bs => by
    rw [show Op.bytesLess (a :: as) (b :: bs) = (a < b || (a == b && Op.bytesLess as bs)) by simp only [Op.bytesLess]]
    rw [bytesLess_eq as bs]
    simp only [List.cons_lt_cons_iff]
    by_cases h1 : a < b
    · simp [h1]
    · by_cases h2 : a = b
      · subst h2; simp
      · simp [h1, h2]
theorem strLt_eq (p q : SN) : strLt p.1 q.1 p.2 q.2 = decide (decP p < decP q) := by
  unfold decP
  rw [← bytesLess_eq, bytesLess_dec]
noncomputable def insS (p : SN) : List SN → List SN
  | [] => [p]
  | q :: qs => bif strLt q.1 p.1 q.2 p.2 then q :: insS p qs else p :: q :: qs
noncomputable def isortS : List SN → List SN
  | [] => []
  | x :: xs => insS x (isortS xs)
theorem insS_perm (x : SN) : ∀ l, (insS x l).Perm (x :: l)
  | [] => List.Perm.refl _
  | y :: ys => by
    unfold insS
    cases strLt y.1 x.1 y.2 x.2 with
    | false => exact List.Perm.refl _
    | true => exact ((insS_perm x ys).cons y).trans (List.Perm.swap x y ys)
theorem isortS_perm : ∀ l, (isortS l).Perm l
  | [] => List.Perm.refl _
  | x :: xs => (insS_perm x _).trans ((isortS_perm xs).cons x)
theorem insS_sorted (x : SN) : ∀ {l : List SN}, l.Pairwise (fun a b => decP a ≤ decP b) → (insS x l).Pairwise (fun a b => decP a ≤ decP b)
  | [], _ => by simp [insS]
  | y :: ys, h => by
    rw [List.pairwise_cons] at h
    unfold insS
    cases e : strLt y.1 x.1 y.2 x.2 with
    | false =>
      rw [strLt_eq] at e
      have e' : decP x ≤ decP y := by simpa using e
      refine List.pairwise_cons.2 ⟨fun z hz => ?_, List.pairwise_cons.2 h⟩
      rcases List.mem_cons.1 hz with rfl | hz
      · exact e'
      · exact List.le_trans e' (h.1 z hz)
    | true =>
      rw [strLt_eq] at e
      have e' : decP y < decP x := by simpa using e
      refine List.pairwise_cons.2 ⟨fun z hz => ?_, insS_sorted x h.2⟩
      rcases List.mem_cons.1 ((insS_perm x ys).mem_iff.1 hz) with rfl | hz
      · exact List.le_of_lt e'
      · exact h.1 z hz
theorem isortS_sorted : ∀ l, (isortS l).Pairwise (fun a b => decP a ≤ decP b)
  | [] => List.Pairwise.nil
  | x :: xs => insS_sorted x (isortS_sorted xs)
theorem isortS_eq {l : List SN} {ss : List (List UInt8)} (h : ss.Perm (l.map decP)) : ss.mergeSort leB = (isortS l).map decP := by
  have tr : ∀ a b c : List UInt8, leB a b = true → leB b c = true → leB a c = true := fun a b c h1 h2 => by simp only [leB, decide_eq_true_eq] at *; exact List.le_trans h1 h2
  have to : ∀ a b : List UInt8, (leB a b || leB b a) = true := fun a b => by simp only [leB, Bool.or_eq_true, decide_eq_true_eq]; exact List.le_total a b
  refine List.Perm.eq_of_pairwise (le := fun a b => leB a b = true) (fun a b _ _ h1 h2 => ?_) (List.pairwise_mergeSort tr to ss) (List.pairwise_map.2 ((isortS_sorted l).imp fun h => by simpa [leB] using h)) (((List.mergeSort_perm ss leB).trans h).trans ((isortS_perm l).map decP).symm)
  simp only [leB, decide_eq_true_eq] at h1 h2
  exact List.le_antisymm h1 h2

/-! ### A map's keys -/
noncomputable def keysS : List (AV × AV × Nat) → Option (List SN)
  | [] => some []
  | (.str n x, _, _) :: es => match keysS es with
    | some l => some ((n, x) :: l)
    | none => none
  | _ => none
theorem keysS_cons {a v : AV} {b : Nat} {es : List (AV × AV × Nat)} {xs : List SN} (h : keysS ((a, v, b) :: es) = some xs) : ∃ n x ys, a = .str n x ∧ keysS es = some ys ∧ xs = (n, x) :: ys := by
  cases a with
  | str n x =>
    cases e : keysS es with
    | none => simp [keysS, e] at h
    | some ys => simp [keysS, e] at h; exact ⟨n, x, ys, rfl, rfl, h.symm⟩
  | _ => simp [keysS] at h
theorem encStr_dec (n x : Nat) : encStr (dec n x) = .string (strOf n x) := rfl
theorem relE_keysS : ∀ {es : List (AV × AV × Nat)} {l : List MapEntry} {xs : List SN}, relE Γ es l → keysS es = some xs → l.map (·.key) = xs.map (fun p => encStr (decP p)) ∧ l.map (·.born) = es.map (·.2.2) ∧ ∀ p ∈ xs, p.2 < 256 ^ p.1
  | [], l, xs, h, hk => by
    simp only [relE] at h; subst h
    cases hk; exact ⟨rfl, rfl, fun _ h => by cases h⟩
  | (a, v, b) :: es, l, xs, h, hk => by
    simp only [relE] at h
    obtain ⟨e, l', rfl, h1, h2, h3, h4⟩ := h
    obtain ⟨n, x, ys, rfl, hy, rfl⟩ := keysS_cons hk
    simp only [rel] at h1
    obtain ⟨q1, q2, q3⟩ := relE_keysS h4 hy
    refine ⟨by simp [h1.1, q1, decP, encStr_dec], by simp [h3, q2], fun p hp => ?_⟩
    rcases List.mem_cons.1 hp with rfl | hp
    · exact h1.2
    · exact q3 p hp
noncomputable def eqS (p q : SN) : Bool := Nat.beq p.1 q.1 && Nat.beq p.2 q.2
theorem decP_inj {p q : SN} (hp : p.2 < 256 ^ p.1) (hq : q.2 < 256 ^ q.1) (h : decP p = decP q) : p = q := by
  have hl : p.1 = q.1 := by have := congrArg List.length h; simpa [decP, dec_length] using this
  obtain ⟨n, x⟩ := p
  obtain ⟨k, y⟩ := q
  simp only at hl; subst hl
  have e := dec_inj n (show x < 256 ^ n from hp) (show y < 256 ^ n from hq) h
  rw [e]
theorem owns_keysS {kT : TypeId} (hk : P.underlying kT = some .string) {es : List (AV × AV × Nat)} {es' : Array MapEntry} {clock b : Nat} {xs : List SN} (hr : relE Γ es es'.toList) (hx : keysS es = some xs) (hs : bornsOk clock es = true) (hd : diffs eqS xs = true) (hw : (xs.all fun p => Nat.ble p.1 1000000) = true) (hl : Nat.ble xs.length 1000000 = true)
    (hb : w.heap[b]? = some (.map es' clock)) : ∃ D0 : DataW Unit, w.ownsMap P kT noR b xs.length D0 ∧ (strKeys D0).Perm (xs.map decP) ∧ Maps.size D0 = xs.length := by
  obtain ⟨h1, h2, h3⟩ := relE_keysS hr hx
  have hlen : es'.toList.length = xs.length := by have := congrArg List.length h1; simpa using this
  have hlen' : es'.size = xs.length := by simpa using hlen
  have hl' := Nat.le_of_ble_eq_true hl
  have hkey : ∀ e ∈ es'.toList, ∃ p ∈ xs, e.key = .string (strOf p.1 p.2) := fun e he => by
    have : e.key ∈ es'.toList.map (·.key) := List.mem_map.2 ⟨e, he, rfl⟩
    rw [h1] at this
    obtain ⟨x, q1, q2⟩ := List.mem_map.1 this
    exact ⟨x, q1, q2.symm⟩
  have hrd : ∀ e ∈ es'.toList, ∀ p ∈ xs, e.key = .string (strOf p.1 p.2) → rd P kT noR e = some (.string (decP p), (.nil : DataW Unit)) := fun e he p hp hx => by
    have hwf := Nat.le_of_ble_eq_true (List.all_eq_true.1 hw p hp)
    obtain ⟨key, val, born⟩ := e
    simp only at hx; subst hx
    have hsz : (strOf p.1 p.2).size ≤ maxLen := by
      have : (strOf p.1 p.2).size = p.1 := by simp [Go.Proofs.YtijnlbpeckoofaaGreat.strOf, ByteArray.size, dec_length]
      rw [this]; unfold maxLen; omega
    exact rd_mk (yv := (.nil, [])) (by simp only [keyOf, hk, mapKey]; rw [if_pos hsz]; rfl) rfl
  simp only [bornsOk, Bool.and_eq_true] at hs
  have hst : MapKept.Stamped es' clock := (MapKept.stamped_iff es' clock).2 ⟨fun e he => ?_, ?_, ?_⟩
  · refine ⟨_, ⟨es', clock, hb, ⟨by rw [hlen']; unfold maxLen; omega, hst, fun e he => ?_⟩, Nat.le_of_eq hlen', rfl⟩, ?_, ?_⟩
    · obtain ⟨x, hx1, hx⟩ := hkey e he
      exact ⟨_, hrd e he x hx1 hx⟩
    · have hp := sorted_perm (es'.toList.map (rg P kT noR))
      refine (hp.map fun p => Go.strOf p.1).trans (List.Perm.of_eq ?_)
      rw [List.map_map]
      have : es'.toList.map ((fun p => Go.strOf p.1) ∘ rg P kT noR) = (es'.toList.map (·.key)).map (fun v => match v with | .string s => s.data.toList | _ => []) := by
        rw [List.map_map]
        refine List.map_congr_left fun e he => ?_
        obtain ⟨x, hx1, hx⟩ := hkey e he
        simp only [Function.comp, rg_of (hrd e he x hx1 hx), hx, Go.strOf]
        rfl
      rw [this, h1, List.map_map]
      exact List.map_congr_left fun _ _ => rfl
    · rw [Maps.size_eq, (sorted_perm _).length_eq, List.length_map, hlen]
  · have : e.born ∈ es'.toList.map (·.born) := List.mem_map.2 ⟨e, he, rfl⟩
    rw [h2] at this
    obtain ⟨y, q1, q2⟩ := List.mem_map.1 this
    rw [← q2]
    exact nblt (List.all_eq_true.1 hs.1 y q1)
  · rw [h2]; exact diffs_ok (fun x => Nat.beq_refl x) hs.2
  · have hnd : (es'.toList.map (·.key)).Nodup := by
      rw [h1]
      have h0 := diffs_ok (eq := eqS) (fun x => by simp only [eqS, Nat.beq_refl, Bool.and_self]) hd
      refine List.pairwise_map.2 (h0.imp_of_mem fun {p q} hp hq hne e => hne ?_)
      have e' : decP p = decP q := encStr_inj e
      exact decP_inj (h3 p hp) (h3 q hq) e'
    exact List.pairwise_map.1 hnd

/-! ### The call -/
/-- slices.Sorted of maps.Keys, at a map that is not nil. -/
def SortKeysS (P : Program) (f K : FuncId) (kT : TypeId) : Prop := ∀ (Bm b nn : Nat) (D0 : DataW Unit) (w : World), Bm < w.heap.size → w.cell? ⟨Bm, 0, none⟩ = some (.map (some b)) → w.ownsMap P kT noR b nn D0 → Maps.size D0 ≤ 1000000 →
  Calls P f #[.func (.func K) #[] #[.pointer (some ⟨Bm, 0, none⟩)]] w fun e w' => ∃ (v : Value) (ss : List (List UInt8)), e = .returned v ∧ ss.Perm (strKeys D0) ∧ w'.ownsRow w.heap.size kT 1 v ss.length ((ss.mergeSort leB).map encStr) ∧ (v = .slice none 0 0 ↔ ss = []) ∧ Below w.heap.size w w'
noncomputable def hdSortS (K : FuncId) (kT : TypeId) : List AV → Mem → Option (AV × Mem) := fun args m => match args with
  | [.func (.func k) [] [.ptr b 0]] => bif Nat.beq k K then (match m.H.get b with
    | some (.cells n tr _ _ _) => match tr.get 0 with
      | some (.map mb) => match m.H.get mb with
        | some (.map es clock) => match keysS es with
          | some xs => bif Nat.blt 0 n && bornsOk clock es && diffs eqS xs && (xs.all fun p => Nat.ble p.1 1000000) && Nat.ble xs.length 1000000 then
              (match xs with
              | [] => some (.nilslice, m)
              | x :: xs => some (.slice m.next 0 (xs.length + 1) (xs.length + 1) 1, m.push (cellsObj ((isortS (x :: xs)).map fun y => .str y.1 y.2) kT true))) else none
          | none => none
        | _ => none
      | _ => none
    | _ => none) else none
  | _ => none
theorem relL_strs (Γ : Tie) : ∀ l : List SN, (∀ p ∈ l, p.2 < 256 ^ p.1) → relL Γ (l.map fun y => AV.str y.1 y.2) ((l.map decP).map encStr)
  | [], _ => by simp only [List.map_nil, relL]
  | x :: l, h => by
    simp only [List.map_cons, relL, rel]
    exact ⟨_, _, rfl, ⟨rfl, h x (List.mem_cons_self ..)⟩, relL_strs Γ l fun p hp => h p (List.mem_cons_of_mem _ hp)⟩
theorem hdSortS_ok {f K : FuncId} {kT : TypeId} {fn : Func} {c : Code} (hk : cf.P.underlying kT = some .string) (hf : cf.P.funcs[f]? = some fn) (hn : (fn.name == "runtime.NumGoroutine") = false) (hb : fn.body = some c) (HC : SortKeysS cf.P f K kT) : HdOk cf base E f (hdSortS K kT) := by
  intro args m v m' h
  unfold hdSortS at h
  split at h
  case h_2 => cases h
  rename_i k b
  have hq := bif_none h; clear h
  obtain ⟨hkK, h⟩ := hq
  have hkK' := Nat.eq_of_beq_eq_true hkK
  subst hkK'
  split at h
  case h_2 => cases h
  rename_i n tr el op fz hbm
  split at h
  case h_2 => cases h
  rename_i mb htr
  split at h
  case h_2 => cases h
  rename_i es clock hmb
  split at h
  case h_2 => cases h
  rename_i xs hxs
  have hq2 := bif_none h; clear h
  obtain ⟨hcond, h⟩ := hq2
  simp only [Bool.and_eq_true] at hcond
  obtain ⟨⟨⟨⟨c1, c2⟩, c3⟩, c4⟩, c5⟩ := hcond
  have main : ∀ Γ w (cs : List Value), relL Γ [.func (.func k) [] [.ptr b 0]] cs → St cf base E Γ m w → ∃ D0 : DataW Unit, (strKeys D0).Perm (xs.map decP) ∧ (∀ p ∈ xs, p.2 < 256 ^ p.1) ∧ (callFunc f ⟨cs⟩).run cf.P w = .ok (.enter f ⟨cs⟩) w ∧
      Calls cf.P f ⟨cs⟩ w fun e w' => ∃ (v : Value) (ss : List (List UInt8)), e = .returned v ∧ ss.Perm (strKeys D0) ∧ w'.ownsRow w.heap.size kT 1 v ss.length ((ss.mergeSort leB).map encStr) ∧ (v = .slice none 0 0 ↔ ss = []) ∧ Below w.heap.size w w' := by
    intro Γ w cs hl hst
    simp only [relL, rel, relFn] at hl
    obtain ⟨a1, l1, rfl, ⟨fn', f', c', rfl, rfl, rfl, ⟨a2, l2, rfl, ⟨i, hi, rfl⟩, rfl⟩⟩, rfl⟩ := hl
    obtain ⟨i', o', hi', _, ho, hro⟩ := hst.rep.obj b _ hbm
    rw [hi] at hi'; cases hi'
    simp only [relO] at hro
    obtain ⟨cc, lo, hi2, rfl, q1, q2, q3, q4, q5⟩ := hro
    obtain ⟨v0, r1, r2⟩ := q4 0 _ (nblt c1) htr
    simp only [rel] at r2
    obtain ⟨j, hj, rfl⟩ := r2
    obtain ⟨j', p', hj', _, hp, hrp⟩ := hst.rep.obj mb _ hmb
    rw [hj] at hj'; cases hj'
    simp only [relO] at hrp
    obtain ⟨es', rfl, hrE⟩ := hrp
    obtain ⟨D0, hown, hperm, hsz⟩ := owns_keysS hk hrE hxs c2 c3 c4 c5 hp
    have hcell : w.cell? ⟨i.blk, 0, none⟩ = some (.map (some j.blk)) := by
      simp only [World.cell?, ho]
      simpa using r1
    have hne : fn.name ≠ "runtime.NumGoroutine" := by simpa using hn
    exact ⟨D0, hperm, (relE_keysS hrE hxs).2.2, by simp [callFunc, hf, hne, hb], HC i.blk j.blk _ D0 w (Array.getElem?_eq_some_iff.1 ho).1 hcell hown (by rw [hsz]; exact Nat.le_of_ble_eq_true c5)⟩
  split at h
  · cases h
    refine ⟨Nat.le_refl _, fun Γ w cs hl hst hF => .inr ?_⟩
    obtain ⟨D0, hperm, _, hent, hcalls⟩ := main Γ w cs hl hst
    refine ⟨hent, Calls.mono hcalls fun e W' ⟨v, ss, q1, q2, q3, q4, q5⟩ => ?_⟩
    have : ss = [] := (q2.trans hperm).eq_nil
    exact ⟨v, Γ, q1, by simp only [rel]; exact q4.2 this, Moves.ofBelow hst.rep q5⟩
  · rename_i x xs
    cases h
    refine ⟨Nat.le_succ _, fun Γ w cs hl hst hF => .inr ?_⟩
    obtain ⟨D0, hperm, hlt, hent, hcalls⟩ := main Γ w cs hl hst
    refine ⟨hent, Calls.mono hcalls fun e W' ⟨v, ss, q1, q2, q3, q4, q5⟩ => ?_⟩
    have hp := q2.trans hperm
    have hlen : ss.length = xs.length + 1 := by rw [hp.length_eq]; simp
    have hsort := isortS_eq hp
    have hil : (isortS (x :: xs)).length = xs.length + 1 := by rw [(isortS_perm _).length_eq]; rfl
    rcases q3.2 with ⟨hv, hz⟩ | ⟨g, cap, cur, rfl, hbase, hgb, r1, r2, r3, r4⟩
    · omega
    · have hcur : cur.toList.take (xs.length + 1) = ((isortS (x :: xs)).map decP).map encStr := by rw [← hsort, ← r4, hlen]; simp
      have hrow : relO (tieA Γ m.next ⟨g, cur.size⟩) ⟨g, cur.size⟩ (cellsObj ((isortS (x :: xs)).map fun y => .str y.1 y.2) kT true) (.cells cur kT (0, 0)) := by
        refine ⟨cur, 0, 0, rfl, rfl, ?_, (fun h => by cases h), fun j a hj ha => ?_, fun _ off _ => by omega⟩
        · rw [List.length_map, hil, r3]; omega
        · rw [List.length_map, hil] at hj
          rw [PT.get_fill, if_pos ⟨Nat.zero_le _, by simpa [hil] using hj⟩] at ha
          obtain ⟨u, u1, u2⟩ := (relL_strs (tieA Γ m.next ⟨g, cur.size⟩) (isortS (x :: xs)) fun p hp => hlt p ((isortS_perm _).mem_iff.1 hp)).get (by simpa using ha)
          refine ⟨u, ?_, u2⟩
          rw [← hcur, List.getElem?_take_of_lt hj] at u1
          simpa using u1
      have hM := Moves.belowPush hst.rep (hF _ (Nat.le_refl _) (Nat.lt_succ_self _)) q5 hbase hgb hrow
      refine ⟨_, _, q1, ?_, hM⟩
      simp only [rel]
      exact ⟨_, cap, tie_self, by rw [hlen], fun _ => ⟨by omega, (by show 0 + cap * 1 ≤ cur.size; omega)⟩, fun h => by cases h⟩
end Go.Proofs.YtijnlbpeckoofaaGreat
