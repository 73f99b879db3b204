/- A closed call whose answer is a map: names and whole numbers. -/
import Derived.Test.YtijnlbpeckoofaaGreatEngHf
import Derived.Test.YtijnlbpeckoofaaGreatEngHg
set_option linter.unusedVariables false
set_option linter.unusedSimpArgs false
namespace Go.Proofs.YtijnlbpeckoofaaGreat
open Go.RowKit Go.Maps Go.Sort Go.Proofs Go.ChangeShapes Go.WideShapes Go.WideElems
variable {cf : Cf} {base : Nat} {E : World → Prop} {Γ : Tie} {m : Mem} {w w' : World} {P : Program} {G : PT AObj}

noncomputable def evalM (cf : Cf) (G : PT AObj) (n : Nat) (f : FuncId) (args : List AV) : Option (AV × Mem) := callA cf (runF cf n) f args ⟨G, cf.g0⟩
theorem start_mem {W : World} {n : Nat} {f : FuncId} {args : List AV} {v : AV} {m' : Mem} {vs : List Value} {tot : Nat → Nat} (S : Sound cf W.heap.size E) (hf : cf.hd f = none) (h : evalM cf G n f args = some (v, m'))
    (ha : relL (tie0 cf.g0 tot) args vs) (hG : Rep W.heap.size (tie0 cf.g0 tot) G W) (hE : E W) : Calls cf.P f ⟨vs⟩ W fun e W' => ∃ c Γ', e = .returned c ∧ rel Γ' v c ∧ Rep W.heap.size Γ' m'.H W' ∧ Below W.heap.size W W' := by
  unfold evalM callA at h
  rw [hf] at h
  obtain ⟨h1, h2⟩ := runF_ok S n
  have hst : St cf W.heap.size E (tie0 cf.g0 tot) ⟨G, cf.g0⟩ W := ⟨hG, gl_tie0 _ _, hE⟩
  have hF : Fresh (tie0 cf.g0 tot) ⟨G, cf.g0⟩ m' := fun b hb _ => if_neg (by simp only at hb; omega)
  obtain ⟨_, hcalls⟩ := body_ok S h1 h2 h (cs := vs) ha hst hF
  refine Calls.mono hcalls fun e W' he => ?_
  obtain ⟨c, Γ', rfl, hr, hM⟩ := he
  exact ⟨c, Γ', rfl, hr, hM.rep, Moves.below hG hM⟩
noncomputable def entsSI : List (AV × AV × Nat) → Option (List (SN × Int))
  | [] => some []
  | (.str n x, .int .i64 v, _) :: es => match entsSI es with
    | some l => some (((n, x), v) :: l)
    | none => none
  | _ => none
theorem entsSI_cons {k v : AV} {n : Nat} {es : List (AV × AV × Nat)} {l : List (SN × Int)} (h : entsSI ((k, v, n) :: es) = some l) : ∃ a x c l', k = .str a x ∧ v = .int .i64 c ∧ entsSI es = some l' ∧ l = ((a, x), c) :: l' := by
  unfold entsSI at h
  split at h
  · rename_i heq; cases heq
  · rename_i a x c _ es' heq
    cases heq
    split at h
    · rename_i l' hl; cases h; exact ⟨a, x, c, l', rfl, rfl, hl, rfl⟩
    · cases h
  · cases h
theorem entsSI_keys : ∀ {es : List (AV × AV × Nat)} {l : List (SN × Int)}, entsSI es = some l → keysS es = some (l.map (·.1))
  | [], l, h => by cases h; rfl
  | (k, v, n) :: es, l, h => by
    obtain ⟨a, x, c, l', rfl, rfl, hl, rfl⟩ := entsSI_cons h
    simp only [keysS, entsSI_keys hl, List.map_cons]
theorem relE_entsSI : ∀ {es : List (AV × AV × Nat)} {l : List MapEntry} {xs : List (SN × Int)}, relE Γ es l → entsSI es = some xs → l.map (·.val) = xs.map fun p => Value.int .i64 p.2
  | [], l, xs, h, hk => by
    simp only [relE] at h; subst h
    cases hk; rfl
  | (k, v, b) :: es, l, xs, h, hk => by
    simp only [relE] at h
    obtain ⟨e, l', rfl, h1, h2, h3, h4⟩ := h
    obtain ⟨a, x, c, ys, rfl, rfl, hy, rfl⟩ := entsSI_cons hk
    simp only [rel] at h2
    simp [h2, relE_entsSI h4 hy]
def mapSI (xs : List (SN × Int)) : DataW Unit := .map ((xs.map fun p => (Lit.string (decP p.1), (.lit (.int .i64 p.2) : DataW Unit))).foldr DataW.insert [])
noncomputable def boundSI (p : SN × Int) : Bool := Nat.ble p.1.1 1000000 && boundsI p.2
theorem owns_SI {kT vT : TypeId} (hk : P.underlying kT = some .string) (hv : P.underlying vT = some (.int .i64)) {es : List (AV × AV × Nat)} {es' : Array MapEntry} {clock b : Nat} {xs : List (SN × Int)} (hr : relE Γ es es'.toList) (hx : entsSI es = some xs) (hs : bornsOk clock es = true) (hd : diffs eqS (xs.map (·.1)) = true) (hw : xs.all boundSI = true) (hl : Nat.ble xs.length 1000000 = true)
    (hb : w.heap[b]? = some (.map es' clock)) : w.ownsMap P kT (plainElem P vT) b xs.length (mapSI xs) := by
  obtain ⟨h1, h2, h3⟩ := relE_keysS hr (entsSI_keys hx)
  have h4 := relE_entsSI hr hx
  have hlen : es'.toList.length = xs.length := by have := congrArg List.length h1; simpa using this
  have hlen' : es'.size = xs.length := by simpa using hlen
  have hl' := Nat.le_of_ble_eq_true hl
  have hent : ∀ (i : Nat) (e : MapEntry), es'.toList[i]? = some e → ∃ p, xs[i]? = some p ∧ e.key = .string (strOf p.1.1 p.1.2) ∧ e.val = .int .i64 p.2 := fun i e he => by
    have k1 := congrArg (·[i]?) h1
    have k2 := congrArg (·[i]?) h4
    simp only [List.getElem?_map, he, Option.map_some] at k1 k2
    cases hq : xs[i]? with
    | none => rw [hq] at k1; cases k1
    | some q =>
      rw [hq] at k1 k2
      simp only [Option.map_some, Option.some.injEq] at k1 k2
      exact ⟨q, rfl, k1, k2⟩
  have hrd : ∀ (e : MapEntry) (p : SN × Int), p ∈ xs → e.key = .string (strOf p.1.1 p.1.2) → e.val = .int .i64 p.2 → rd P kT (plainElem P vT) e = some (.string (decP p.1), (.lit (.int .i64 p.2) : DataW Unit)) := fun e p hp hx hv' => by
    have hwf := List.all_eq_true.1 hw p hp
    unfold boundSI at hwf
    simp only [Bool.and_eq_true] at hwf
    have hwf1 := Nat.le_of_ble_eq_true hwf.1
    obtain ⟨key, val, born⟩ := e
    simp only at hx hv'; subst hx; subst hv'
    have hsz : (strOf p.1.1 p.1.2).size ≤ maxLen := by
      have : (strOf p.1.1 p.1.2).size = p.1.1 := by simp [Go.Proofs.YtijnlbpeckoofaaGreat.strOf, ByteArray.size, dec_length]
      rw [this]; unfold maxLen; omega
    exact rd_mk (yv := (.lit (.int .i64 p.2), [])) (by simp only [keyOf, hk, mapKey]; rw [if_pos hsz]; rfl) (plainElem_int hv hwf.2)
  simp only [bornsOk, Bool.and_eq_true] at hs
  have hst : MapKept.Stamped es' clock := (MapKept.stamped_iff es' clock).2 ⟨fun e he => ?_, ?_, ?_⟩
  · have hrg : es'.toList.map (rg P kT (plainElem P vT)) = xs.map fun p => (Lit.string (decP p.1), (.lit (.int .i64 p.2) : DataW Unit)) := by
      apply List.ext_getElem?
      intro i
      simp only [List.getElem?_map]
      cases he : es'.toList[i]? with
      | none =>
        have : xs[i]? = none := by rw [List.getElem?_eq_none_iff] at he ⊢; omega
        rw [this]; rfl
      | some e =>
        obtain ⟨p, h4, h5, h6⟩ := hent i e he
        rw [h4]
        simp only [Option.map_some, Option.some.injEq]
        exact rg_of (hrd e p (List.mem_of_getElem? h4) h5 h6)
    refine ⟨es', clock, hb, ⟨by rw [hlen']; unfold maxLen; omega, hst, fun e he => ?_⟩, Nat.le_of_eq hlen', ?_⟩
    · obtain ⟨i, hi⟩ := List.getElem?_of_mem he
      obtain ⟨p, h4, h5, h6⟩ := hent i e hi
      exact ⟨_, hrd e p (List.mem_of_getElem? h4) h5 h6⟩
    · rw [hrg]; rfl
  · have : e.born ∈ es'.toList.map (·.born) := List.mem_map.2 ⟨e, he, rfl⟩
    rw [h2] at this
    obtain ⟨y, q1, q2⟩ := List.mem_map.1 this
    rw [← q2]
    exact nblt (List.all_eq_true.1 hs.1 y q1)
  · rw [h2]; exact diffs_ok (fun x => Nat.beq_refl x) hs.2
  · have hnd : (es'.toList.map (·.key)).Nodup := by
      rw [h1]
      have h0 := diffs_ok (eq := eqS) (fun x => by simp only [eqS, Nat.beq_refl, Bool.and_self]) hd
      refine List.pairwise_map.2 (h0.imp_of_mem fun {p q} hp hq hne e => hne ?_)
      have e' : decP p = decP q := encStr_inj e
      exact decP_inj (h3 p hp) (h3 q hq) e'
    exact List.pairwise_map.1 hnd
noncomputable def beqSI : List (SN × Int) → List (SN × Int) → Bool
  | [], [] => true
  | x :: xs, y :: ys => eqS x.1 y.1 && eqI x.2 y.2 && beqSI xs ys
  | _, _ => false
theorem eqS_eq {p q : SN} (h : eqS p q = true) : p = q := by
  unfold eqS at h
  simp only [Bool.and_eq_true] at h
  obtain ⟨a, b⟩ := p
  obtain ⟨c, d⟩ := q
  have h1 := Nat.eq_of_beq_eq_true h.1
  have h2 := Nat.eq_of_beq_eq_true h.2
  simp only at h1 h2
  rw [h1, h2]
theorem beqSI_eq : ∀ {x y : List (SN × Int)}, beqSI x y = true → x = y
  | [], [], _ => rfl
  | x :: xs, y :: ys, h => by
    simp only [beqSI, Bool.and_eq_true] at h
    obtain ⟨⟨h1, h2⟩, h3⟩ := h
    rw [beqSI_eq h3]
    obtain ⟨a, b⟩ := x
    obtain ⟨c, d⟩ := y
    have h1' := eqS_eq h1
    rw [eqI_eq] at h2
    have h2' : b = d := by simpa using h2
    simp only at h1'
    rw [h1', h2']
  | [], _ :: _, h => by cases h
  | _ :: _, [], h => by cases h
noncomputable def mapIs (r : Option (AV × Mem)) (xs : List (SN × Int)) : Bool := match r with
  | some (.map mb, m) => match m.H.get mb with
    | some (.map es clock) => match entsSI es with
      | some l => beqSI l xs && bornsOk clock es && diffs eqS (xs.map (·.1)) && xs.all boundSI && Nat.ble xs.length 1000000
      | none => false
    | _ => false
  | _ => false
/-- A closed call that tells a map: it, as its values and as its keys. -/
theorem map_of_eval {kT vT : TypeId} (hk : cf.P.underlying kT = some .string) (hv : cf.P.underlying vT = some (.int .i64)) (S : ∀ W, E W → Sound cf W.heap.size E) (R : ∀ W, E W → ∃ tot, Rep W.heap.size (tie0 cf.g0 tot) G W) {n : Nat} {f : FuncId} {xs : List (SN × Int)} (hf : cf.hd f = none) (h : mapIs (evalM cf G n f []) xs = true) :
    ∀ W, E W → Calls cf.P f #[] W fun e W' => ∃ (b : Nat) (D0 : DataW Unit), e = .returned (.map (some b)) ∧ W'.ownsMap cf.P kT (plainElem cf.P vT) b xs.length (mapSI xs) ∧ W'.ownsMap cf.P kT noR b xs.length D0 ∧ (strKeys D0).Perm (xs.map fun p => decP p.1) ∧ Maps.size D0 = xs.length ∧ Below W.heap.size W W' := fun W hE => by
  obtain ⟨tot, hR⟩ := R W hE
  unfold mapIs at h
  split at h
  case h_2 => cases h
  rename_i mb m' hm
  split at h
  case h_2 => cases h
  rename_i es clock hmb
  split at h
  case h_2 => cases h
  rename_i l hl
  simp only [Bool.and_eq_true] at h
  obtain ⟨⟨⟨⟨h1, h2⟩, h3⟩, h4⟩, h5⟩ := h
  have := beqSI_eq h1
  subst this
  refine Calls.mono (start_mem (S W hE) hf hm (vs := []) (by simp only [relL]) hR hE) fun e W' ⟨c, Γ', q1, q2, q3, q4⟩ => ?_
  simp only [rel] at q2
  obtain ⟨j, hj, rfl⟩ := q2
  obtain ⟨j', p', hj', _, hp, hrp⟩ := q3.obj mb _ hmb
  rw [hj] at hj'; cases hj'
  simp only [relO] at hrp
  obtain ⟨es', rfl, hrE⟩ := hrp
  obtain ⟨D0, k1, k2, k3⟩ := owns_keysS (P := cf.P) hk hrE (entsSI_keys hl) h2 h3 (by
    rw [List.all_eq_true] at h4 ⊢
    intro p hp
    obtain ⟨q, hq, rfl⟩ := List.mem_map.1 hp
    have := h4 q hq
    unfold boundSI at this
    simp only [Bool.and_eq_true] at this
    exact this.1) (by simpa using h5) hp
  rw [List.length_map] at k1 k3
  rw [List.map_map] at k2
  exact ⟨j.blk, D0, q1, owns_SI hk hv hrE hl h2 h3 h4 h5 hp, k1, k2, k3, q4⟩
end Go.Proofs.YtijnlbpeckoofaaGreat
