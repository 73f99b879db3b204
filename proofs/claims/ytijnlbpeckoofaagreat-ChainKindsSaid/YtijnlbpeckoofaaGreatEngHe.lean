/- Calls that are known from before: a map's keys, sorted; keys of the kind int. Generic: the call's contract is a premise. -/
import Derived.Test.YtijnlbpeckoofaaGreatEngHd
import Derived.Test.YtijnlbpeckoofaaGreatEngKa
import Derived.Lib.SlKeysI
import Derived.Laws.AppendOwn
import Derived.WideShapes
import Derived.WideKeyElems
import Derived.Maps.Own
set_option linter.unusedVariables false
set_option linter.unusedSimpArgs false
namespace Go.Proofs.YtijnlbpeckoofaaGreat
open Go.RowKit Go.Maps Go.Sort Go.Proofs Go.ChangeShapes Go.WideShapes Go.WideElems
variable {cf : Cf} {base : Nat} {E : World → Prop} {Γ : Tie} {m : Mem} {w w' : World} {P : Program}

/-- Behind a call that has laid one block that is told. -/
theorem Moves.belowPush {o : AObj} {o' : Obj} {g tot : Nat} (hR : Rep base Γ m.H w) (hn : Γ m.next = none) (hb : Below w.heap.size w w') (hg : w.heap.size ≤ g) (ho : w'.heap[g]? = some o') (hr : relO (tieA Γ m.next ⟨g, tot⟩) ⟨g, tot⟩ o o') :
    Moves base Γ m w (tieA Γ m.next ⟨g, tot⟩) (m.push o) w' := by
  have hk : Keeps Γ (tieA Γ m.next ⟨g, tot⟩) := keeps_tie hn
  have htie : ∀ c, c ≠ m.next → tieA Γ m.next ⟨g, tot⟩ c = Γ c := fun c e => if_neg e
  have hdom : ∀ c q, (m.push o).H.get c = some q → (c = m.next ∧ q = o) ∨ (c ≠ m.next ∧ m.H.get c = some q) := fun c q hc => by
    simp only [Mem.push, PT.get_set] at hc
    by_cases e : c = m.next
    · rw [if_pos e] at hc; cases hc; exact .inl ⟨e, rfl⟩
    · rw [if_neg e] at hc; exact .inr ⟨e, hc⟩
  refine ⟨Nat.le_succ _, hk, ?_, ⟨Nat.le_trans hR.base_le hb.size, ?_, ?_⟩, hb.os, hb.tape, hb.output, hb.size, fun x hx => hb.block x (Nat.lt_of_lt_of_le hx hR.base_le), fun x hx _ => hb.block x hx, ?_, ?_⟩
  · intro c hc; simp only [Mem.push] at hc; exact htie c (by omega)
  · intro c q hc
    rcases hdom c q hc with ⟨rfl, rfl⟩ | ⟨e, hc'⟩
    · exact ⟨_, o', tie_self, .inl (Nat.le_trans hR.base_le hg), ho, hr⟩
    · obtain ⟨j, q', h1, h2, h3, h4⟩ := hR.obj c q hc'
      exact ⟨j, q', by rw [htie c e]; exact h1, h2, by rw [hb.block _ (hR.lt hc' h1)]; exact h3, h4.keep hk⟩
  · intro c d q r j k hc hd hj hk' e
    rcases hdom c q hc with ⟨rfl, rfl⟩ | ⟨e1, hc'⟩ <;> rcases hdom d r hd with ⟨rfl, rfl⟩ | ⟨e3, hd'⟩
    · rfl
    · rw [tie_self] at hj; cases hj
      rw [htie d e3] at hk'
      have := hR.lt hd' hk'
      simp only at e; omega
    · rw [tie_self] at hk'; cases hk'
      rw [htie c e1] at hj
      have := hR.lt hc' hj
      simp only at e; omega
    · rw [htie c e1] at hj; rw [htie d e3] at hk'
      exact hR.inj c d q r j k hc' hd' hj hk' e
  · intro c q j hc hj
    rcases hdom c q hc with ⟨rfl, rfl⟩ | ⟨e, hc'⟩
    · rw [tie_self] at hj; cases hj; exact .inl hg
    · rw [htie c e] at hj; exact .inr ⟨c, q, j, hc', hj, rfl⟩
  · intro c q hc
    rcases hdom c q hc with ⟨rfl, rfl⟩ | ⟨e, hc'⟩
    · exact .inr ⟨Nat.le_refl _, Nat.lt_succ_self _⟩
    · exact .inl ⟨q, hc'⟩

/-! ### Sorted numbers -/
noncomputable def insI (x : Int) : List Int → List Int
  | [] => [x]
  | y :: ys => bif ltI y x then y :: insI x ys else x :: y :: ys
noncomputable def isortI : List Int → List Int
  | [] => []
  | x :: xs => insI x (isortI xs)
theorem insI_perm (x : Int) : ∀ l, (insI x l).Perm (x :: l)
  | [] => List.Perm.refl _
  | y :: ys => by
    unfold insI
    cases ltI y x with
    | false => exact List.Perm.refl _
    | true => exact ((insI_perm x ys).cons y).trans (List.Perm.swap x y ys)
theorem isortI_perm : ∀ l, (isortI l).Perm l
  | [] => List.Perm.refl _
  | x :: xs => (insI_perm x _).trans ((isortI_perm xs).cons x)
theorem insI_sorted (x : Int) : ∀ {l : List Int}, l.Pairwise (· ≤ ·) → (insI x l).Pairwise (· ≤ ·)
  | [], _ => by simp [insI]
  | y :: ys, h => by
    rw [List.pairwise_cons] at h
    unfold insI
    cases e : ltI y x with
    | false =>
      rw [ltI_eq] at e
      have e' : x ≤ y := by simpa using e
      refine List.pairwise_cons.2 ⟨fun z hz => ?_, List.pairwise_cons.2 h⟩
      rcases List.mem_cons.1 hz with rfl | hz
      · exact e'
      · exact Int.le_trans e' (h.1 z hz)
    | true =>
      rw [ltI_eq] at e
      have e' : y < x := by simpa using e
      refine List.pairwise_cons.2 ⟨fun z hz => ?_, insI_sorted x h.2⟩
      rcases List.mem_cons.1 ((insI_perm x ys).mem_iff.1 hz) with rfl | hz
      · exact Int.le_of_lt e'
      · exact h.1 z hz
theorem isortI_sorted : ∀ l, (isortI l).Pairwise (· ≤ ·)
  | [] => List.Pairwise.nil
  | x :: xs => insI_sorted x (isortI_sorted xs)
theorem isortI_eq {l ss : List Int} (h : ss.Perm l) : ss.mergeSort leI = isortI l := by
  have tr : ∀ a b c : Int, leI a b = true → leI b c = true → leI a c = true := fun a b c h1 h2 => by simp only [leI, decide_eq_true_eq] at *; exact Int.le_trans h1 h2
  have to : ∀ a b : Int, (leI a b || leI b a) = true := fun a b => by simp only [leI, Bool.or_eq_true, decide_eq_true_eq]; exact Int.le_total a b
  refine List.Perm.eq_of_pairwise (le := fun a b => leI a b = true) (fun a b _ _ h1 h2 => ?_) (List.pairwise_mergeSort tr to ss) ((isortI_sorted l).imp fun h => by simpa [leI] using h) (((List.mergeSort_perm ss leI).trans h).trans (isortI_perm l).symm)
  simp only [leI, decide_eq_true_eq] at h1 h2
  exact Int.le_antisymm h1 h2

/-! ### A map's keys -/
noncomputable def keysI : List (AV × AV × Nat) → Option (List Int)
  | [] => some []
  | (.int .i64 x, _, _) :: es => match keysI es with
    | some l => some (x :: l)
    | none => none
  | _ => none
noncomputable def noneIs {α : Type} (eq : α → α → Bool) (x : α) : List α → Bool
  | [] => true
  | y :: ys => bif eq x y then false else noneIs eq x ys
noncomputable def diffs {α : Type} (eq : α → α → Bool) : List α → Bool
  | [] => true
  | x :: xs => bif noneIs eq x xs then diffs eq xs else false
theorem noneIs_ok {α : Type} {eq : α → α → Bool} (he : ∀ x, eq x x = true) {x : α} : ∀ {l : List α}, noneIs eq x l = true → ∀ y ∈ l, x ≠ y
  | [], _, y, hy => by cases hy
  | z :: l, h, y, hy => by
    unfold noneIs at h
    cases e : eq x z with
    | true => rw [e] at h; cases h
    | false =>
      rw [e] at h
      rcases List.mem_cons.1 hy with rfl | hy
      · rintro rfl; rw [he] at e; cases e
      · exact noneIs_ok he h y hy
theorem diffs_ok {α : Type} {eq : α → α → Bool} (he : ∀ x, eq x x = true) : ∀ {l : List α}, diffs eq l = true → l.Nodup
  | [], _ => List.nodup_nil
  | x :: l, h => by
    unfold diffs at h
    cases e : noneIs eq x l with
    | false => rw [e] at h; cases h
    | true =>
      rw [e] at h
      exact List.nodup_cons.2 ⟨fun hx => noneIs_ok he e x hx rfl, diffs_ok he h⟩
theorem keysI_cons {a v : AV} {b : Nat} {es : List (AV × AV × Nat)} {xs : List Int} (h : keysI ((a, v, b) :: es) = some xs) : ∃ x ys, a = .int .i64 x ∧ keysI es = some ys ∧ xs = x :: ys := by
  cases a with
  | int k x =>
    cases k <;> first | (simp [keysI] at h; done) | skip
    cases e : keysI es with
    | none => simp [keysI, e] at h
    | some ys => simp [keysI, e] at h; exact ⟨x, ys, rfl, rfl, h.symm⟩
  | _ => simp [keysI] at h
theorem relE_keysI : ∀ {es : List (AV × AV × Nat)} {l : List MapEntry} {xs : List Int}, relE Γ es l → keysI es = some xs → l.map (·.key) = xs.map (Value.int .i64) ∧ l.map (·.born) = es.map (·.2.2)
  | [], l, xs, h, hk => by
    simp only [relE] at h; subst h
    cases hk; exact ⟨rfl, rfl⟩
  | (a, v, b) :: es, l, xs, h, hk => by
    simp only [relE] at h
    obtain ⟨e, l', rfl, h1, h2, h3, h4⟩ := h
    obtain ⟨x, ys, rfl, hy, rfl⟩ := keysI_cons hk
    simp only [rel] at h1
    obtain ⟨q1, q2⟩ := relE_keysI h4 hy
    exact ⟨by simp [h1, q1], by simp [h3, q2]⟩
noncomputable def boundsI (x : Int) : Bool := (Lit.int .i64 x).wf
noncomputable def bornsOk (clock : Nat) (es : List (AV × AV × Nat)) : Bool := es.all (fun e => Nat.blt e.2.2 clock) && diffs Nat.beq (es.map (·.2.2))
def noR : Value → Option (DataW Unit × List MemPlace) := fun _ => some (.nil, [])
theorem owns_keysI {kT : TypeId} (hk : P.underlying kT = some (.int .i64)) {es : List (AV × AV × Nat)} {es' : Array MapEntry} {clock b : Nat} {xs : List Int} (hr : relE Γ es es'.toList) (hx : keysI es = some xs) (hs : bornsOk clock es = true) (hd : diffs eqI xs = true) (hw : xs.all boundsI = true) (hl : Nat.ble xs.length 1000000 = true)
    (hb : w.heap[b]? = some (.map es' clock)) : ∃ D0 : DataW Unit, w.ownsMap P kT noR b xs.length D0 ∧ (intKeys D0).Perm xs ∧ Maps.size D0 = xs.length := by
  obtain ⟨h1, h2⟩ := relE_keysI hr hx
  have hlen : es'.toList.length = xs.length := by have := congrArg List.length h1; simpa using this
  have hlen' : es'.size = xs.length := by simpa using hlen
  have hl' := Nat.le_of_ble_eq_true hl
  have hkey : ∀ e ∈ es'.toList, ∃ x ∈ xs, e.key = .int .i64 x := fun e he => by
    have : e.key ∈ es'.toList.map (·.key) := List.mem_map.2 ⟨e, he, rfl⟩
    rw [h1] at this
    obtain ⟨x, q1, q2⟩ := List.mem_map.1 this
    exact ⟨x, q1, q2.symm⟩
  have hrd : ∀ e ∈ es'.toList, ∀ x, e.key = .int .i64 x → rd P kT noR e = some (.int .i64 x, (.nil : DataW Unit)) := fun e he x hx => by
    obtain ⟨y, hy, e2⟩ := hkey e he
    rw [hx] at e2; cases e2
    have hwf := List.all_eq_true.1 hw x hy
    obtain ⟨key, val, born⟩ := e
    simp only at hx; subst hx
    exact rd_mk (yv := (.nil, [])) (by simp only [keyOf, hk, mapKey]; rw [if_pos ⟨trivial, hwf⟩]) rfl
  simp only [bornsOk, Bool.and_eq_true] at hs
  have hst : MapKept.Stamped es' clock := (MapKept.stamped_iff es' clock).2 ⟨fun e he => ?_, ?_, ?_⟩
  · refine ⟨_, ⟨es', clock, hb, ⟨by rw [hlen']; unfold maxLen; omega, hst, fun e he => ?_⟩, Nat.le_of_eq hlen', rfl⟩, ?_, ?_⟩
    · obtain ⟨x, _, hx⟩ := hkey e he
      exact ⟨_, hrd e he x hx⟩
    · have hp := sorted_perm (es'.toList.map (rg P kT noR))
      refine (hp.map fun p => intOf p.1).trans (List.Perm.of_eq ?_)
      rw [List.map_map]
      have : es'.toList.map ((fun p => intOf p.1) ∘ rg P kT noR) = (es'.toList.map (·.key)).map (fun v => match v with | .int _ x => x | _ => 0) := by
        rw [List.map_map]
        refine List.map_congr_left fun e he => ?_
        obtain ⟨x, _, hx⟩ := hkey e he
        simp only [Function.comp, rg_of (hrd e he x hx), hx, intOf]
      rw [this, h1, List.map_map]
      exact (List.map_congr_left fun _ _ => rfl).trans (List.map_id _)
    · rw [Maps.size_eq, (sorted_perm _).length_eq, List.length_map, hlen]
  · have : e.born ∈ es'.toList.map (·.born) := List.mem_map.2 ⟨e, he, rfl⟩
    rw [h2] at this
    obtain ⟨y, q1, q2⟩ := List.mem_map.1 this
    rw [← q2]
    exact nblt (List.all_eq_true.1 hs.1 y q1)
  · rw [h2]; exact diffs_ok (fun x => Nat.beq_refl x) hs.2
  · have hnd : (es'.toList.map (·.key)).Nodup := by
      rw [h1]
      exact (diffs_ok (fun x => by rw [eqI_eq]; exact beq_self_eq_true x) hd).map (Value.int .i64) fun a b hab q => hab (by cases q; rfl)
    exact List.pairwise_map.1 hnd

/-! ### The call -/
/-- slices.Sorted of maps.Keys, at a map that is not nil. -/
def SortKeysI (P : Program) (f K : FuncId) (kT : TypeId) : Prop := ∀ (Bm b nn : Nat) (D0 : DataW Unit) (w : World), Bm < w.heap.size → w.cell? ⟨Bm, 0, none⟩ = some (.map (some b)) → w.ownsMap P kT noR b nn D0 → Maps.size D0 ≤ 1000000 →
  Calls P f #[.func (.func K) #[] #[.pointer (some ⟨Bm, 0, none⟩)]] w fun e w' => ∃ (v : Value) (ss : List Int), e = .returned v ∧ ss.Perm (intKeys D0) ∧ w'.ownsRow w.heap.size kT 1 v ss.length ((ss.mergeSort leI).map encZ) ∧ (v = .slice none 0 0 ↔ ss = []) ∧ Below w.heap.size w w'
noncomputable def hdSortI (K : FuncId) (kT : TypeId) : List AV → Mem → Option (AV × Mem) := fun args m => match args with
  | [.func (.func k) [] [.ptr b 0]] => bif Nat.beq k K then (match m.H.get b with
    | some (.cells n tr _ _ _) => match tr.get 0 with
      | some (.map mb) => match m.H.get mb with
        | some (.map es clock) => match keysI es with
          | some xs => bif Nat.blt 0 n && bornsOk clock es && diffs eqI xs && xs.all boundsI && Nat.ble xs.length 1000000 then
              (match xs with
              | [] => some (.nilslice, m)
              | x :: xs => some (.slice m.next 0 (xs.length + 1) (xs.length + 1) 1, m.push (cellsObj ((isortI (x :: xs)).map fun y => .int .i64 y) kT true))) else none
          | none => none
        | _ => none
      | _ => none
    | _ => none) else none
  | _ => none
theorem relL_ints (Γ : Tie) : ∀ l : List Int, relL Γ (l.map fun y => AV.int .i64 y) (l.map encZ)
  | [] => by simp only [List.map_nil, relL]
  | x :: l => by
    simp only [List.map_cons, relL, rel]
    exact ⟨_, _, rfl, rfl, relL_ints Γ l⟩
theorem hdSortI_ok {f K : FuncId} {kT : TypeId} {fn : Func} {c : Code} (hk : cf.P.underlying kT = some (.int .i64)) (hf : cf.P.funcs[f]? = some fn) (hn : (fn.name == "runtime.NumGoroutine") = false) (hb : fn.body = some c) (HC : SortKeysI cf.P f K kT) : HdOk cf base E f (hdSortI K kT) := by
  intro args m v m' h
  unfold hdSortI at h
  split at h
  case h_2 => cases h
  rename_i k b
  have hq := bif_none h; clear h
  obtain ⟨hkK, h⟩ := hq
  have hkK' := Nat.eq_of_beq_eq_true hkK
  subst hkK'
  split at h
  case h_2 => cases h
  rename_i n tr el op fz hbm
  split at h
  case h_2 => cases h
  rename_i mb htr
  split at h
  case h_2 => cases h
  rename_i es clock hmb
  split at h
  case h_2 => cases h
  rename_i xs hxs
  have hq2 := bif_none h; clear h
  obtain ⟨hcond, h⟩ := hq2
  simp only [Bool.and_eq_true] at hcond
  obtain ⟨⟨⟨⟨c1, c2⟩, c3⟩, c4⟩, c5⟩ := hcond
  have main : ∀ Γ w (cs : List Value), relL Γ [.func (.func k) [] [.ptr b 0]] cs → St cf base E Γ m w → ∃ D0 : DataW Unit, (intKeys D0).Perm xs ∧ (callFunc f ⟨cs⟩).run cf.P w = .ok (.enter f ⟨cs⟩) w ∧
      Calls cf.P f ⟨cs⟩ w fun e w' => ∃ (v : Value) (ss : List Int), e = .returned v ∧ ss.Perm (intKeys D0) ∧ w'.ownsRow w.heap.size kT 1 v ss.length ((ss.mergeSort leI).map encZ) ∧ (v = .slice none 0 0 ↔ ss = []) ∧ Below w.heap.size w w' := by
    intro Γ w cs hl hst
    simp only [relL, rel, relFn] at hl
    obtain ⟨a1, l1, rfl, ⟨fn', f', c', rfl, rfl, rfl, ⟨a2, l2, rfl, ⟨i, hi, rfl⟩, rfl⟩⟩, rfl⟩ := hl
    obtain ⟨i', o', hi', _, ho, hro⟩ := hst.rep.obj b _ hbm
    rw [hi] at hi'; cases hi'
    simp only [relO] at hro
    obtain ⟨cc, lo, hi2, rfl, q1, q2, q3, q4, q5⟩ := hro
    obtain ⟨v0, r1, r2⟩ := q4 0 _ (nblt c1) htr
    simp only [rel] at r2
    obtain ⟨j, hj, rfl⟩ := r2
    obtain ⟨j', p', hj', _, hp, hrp⟩ := hst.rep.obj mb _ hmb
    rw [hj] at hj'; cases hj'
    simp only [relO] at hrp
    obtain ⟨es', rfl, hrE⟩ := hrp
    obtain ⟨D0, hown, hperm, hsz⟩ := owns_keysI hk hrE hxs c2 c3 c4 c5 hp
    have hcell : w.cell? ⟨i.blk, 0, none⟩ = some (.map (some j.blk)) := by
      simp only [World.cell?, ho]
      simpa using r1
    have hne : fn.name ≠ "runtime.NumGoroutine" := by simpa using hn
    exact ⟨D0, hperm, by simp [callFunc, hf, hne, hb], HC i.blk j.blk _ D0 w (Array.getElem?_eq_some_iff.1 ho).1 hcell hown (by rw [hsz]; exact Nat.le_of_ble_eq_true c5)⟩
  split at h
  · cases h
    refine ⟨Nat.le_refl _, fun Γ w cs hl hst hF => .inr ?_⟩
    obtain ⟨D0, hperm, hent, hcalls⟩ := main Γ w cs hl hst
    refine ⟨hent, Calls.mono hcalls fun e W' ⟨v, ss, q1, q2, q3, q4, q5⟩ => ?_⟩
    have : ss = [] := (q2.trans hperm).eq_nil
    exact ⟨v, Γ, q1, by simp only [rel]; exact q4.2 this, Moves.ofBelow hst.rep q5⟩
  · rename_i x xs
    cases h
    refine ⟨Nat.le_succ _, fun Γ w cs hl hst hF => .inr ?_⟩
    obtain ⟨D0, hperm, hent, hcalls⟩ := main Γ w cs hl hst
    refine ⟨hent, Calls.mono hcalls fun e W' ⟨v, ss, q1, q2, q3, q4, q5⟩ => ?_⟩
    have hp := q2.trans hperm
    have hlen : ss.length = xs.length + 1 := by rw [hp.length_eq]; rfl
    have hsort := isortI_eq hp
    have hil : (isortI (x :: xs)).length = xs.length + 1 := by rw [(isortI_perm _).length_eq]; rfl
    rcases q3.2 with ⟨hv, hz⟩ | ⟨g, cap, cur, rfl, hbase, hgb, r1, r2, r3, r4⟩
    · omega
    · have hcur : cur.toList.take (xs.length + 1) = (isortI (x :: xs)).map encZ := by rw [← hsort, ← r4, hlen]; simp
      have hrow : relO (tieA Γ m.next ⟨g, cur.size⟩) ⟨g, cur.size⟩ (cellsObj ((isortI (x :: xs)).map fun y => .int .i64 y) kT true) (.cells cur kT (0, 0)) := by
        refine ⟨cur, 0, 0, rfl, rfl, ?_, (fun h => by cases h), fun j a hj ha => ?_, fun _ off _ => by omega⟩
        · rw [List.length_map, hil, r3]; omega
        · rw [List.length_map, hil] at hj
          rw [PT.get_fill, if_pos ⟨Nat.zero_le _, by simpa [hil] using hj⟩] at ha
          obtain ⟨u, u1, u2⟩ := (relL_ints (tieA Γ m.next ⟨g, cur.size⟩) (isortI (x :: xs))).get (by simpa using ha)
          refine ⟨u, ?_, u2⟩
          rw [← hcur, List.getElem?_take_of_lt hj] at u1
          simpa using u1
      have hM := Moves.belowPush hst.rep (hF _ (Nat.le_refl _) (Nat.lt_succ_self _)) q5 hbase hgb hrow
      refine ⟨_, _, q1, ?_, hM⟩
      simp only [rel]
      exact ⟨_, cap, tie_self, by rw [hlen], fun _ => ⟨by omega, (by show 0 + cap * 1 ≤ cur.size; omega)⟩, fun h => by cases h⟩
end Go.Proofs.YtijnlbpeckoofaaGreat
