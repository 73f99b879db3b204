/- The letters' map of text.PutLiteral: what it holds, and how it is filled. -/
import Derived.Test.YtgkhnpldjdbmoaaGreatDoorC27
import Derived.Maps.RangeWalk
import Derived.Maps.Ext
set_option linter.unusedVariables false
set_option linter.unusedSimpArgs false
namespace Go.Proofs.YtgkhnpldjdbmoaaGreatDoor
open Go.RowKit Go.Maps Go.WideShapes

theorem lawB : Keyed Tryz.prog 5 := int_keyed Tryz.underlying5
abbrev OM (w : World) (b n : Nat) (D : DataW Unit) : Prop := w.ownsMap Tryz.prog 5 (plainElem Tryz.prog 5) b n D
abbrev k8 (x : Int) : Lit := .int .u8 x
abbrev d8 (x : Int) : DataW Unit := .lit (.int .u8 x)
theorem zeroB (w : World) : (zeroValue 5).run Tryz.prog w = .ok (.int .u8 0) w := by kernel_rfl
theorem wf8 (c : UInt8) : (Lit.int .u8 (c.toNat : Int)).wf = true := by
  have := c.toNat_lt
  have hmn : IntKind.u8.min = 0 := by decide
  have hmx : IntKind.u8.max = 255 := by decide
  simp [Lit.wf, hmn, hmx]; omega
theorem om_below {w w' : World} {b n B : Nat} {D : DataW Unit} (h : OM w b n D) (hb : Below B w w') (hlt : b < B) : OM w' b n D := by
  obtain ⟨es, clock, hh, r⟩ := h
  exact ⟨es, clock, (hb.block b hlt).trans hh, r⟩
/-- What escapes() reads as. -/
def escD : DataW Unit := .map [(k8 98, d8 8), (k8 102, d8 12), (k8 110, d8 10), (k8 114, d8 13), (k8 116, d8 9)]

theorem own_put (w : World) (es : Array MapEntry) (clock n : Nat) (D : DataW Unit) (h : OM (w.alloc (.map es clock)) w.heap.size n D) (k v : Int) (hk : (Lit.int .u8 k).wf = true) (hv : (Lit.int .u8 v).wf = true)
    (hf : Instr.findNow (.int .u8) (.int .u8 k) es.toList 0 = some none) (hn : n < 5) : OM (w.alloc (.map (es.push ⟨.int .u8 k, .int .u8 v, clock⟩) (clock + 1))) w.heap.size (n + 1) (D.put (k8 k) (d8 v)) := by
  obtain ⟨w', hrun, r1, r2⟩ := h.update (t := 182) lawB Tryz.underlying182 (by unfold maxLen; omega) (keyOf_int_mk Tryz.underlying5 hk) (plainElem_int Tryz.underlying5 hv)
  rw [put_new w es clock k v hf] at hrun
  injection hrun with _ e
  subst e; exact r1
theorem escapes_owns (w : World) : Calls Tryz.prog 182 #[] w fun e w' => e = .returned (.map (some w.heap.size)) ∧ OM w' w.heap.size 5 escD ∧ Below w.heap.size w w' := by
  refine (escapes_any w).mono ?_
  rintro e w' ⟨rfl, rfl⟩
  have h0 : OM (w.alloc (.map #[] 0)) w.heap.size 0 (.map []) := World.ownsMap_made _ _ _ _
  have h1 := own_put w _ _ _ _ h0 110 10 (by decide) (by decide) (by rfl) (by omega)
  have h2 := own_put w _ _ _ _ h1 114 13 (by decide) (by decide) (by rfl) (by omega)
  have h3 := own_put w _ _ _ _ h2 116 9 (by decide) (by decide) (by rfl) (by omega)
  have h4 := own_put w _ _ _ _ h3 98 8 (by decide) (by decide) (by rfl) (by omega)
  have h5 := own_put w _ _ _ _ h4 102 12 (by decide) (by decide) (by rfl) (by omega)
  exact ⟨rfl, h5, (Below.refl _ _).alloc (Nat.le_refl _) _⟩

/-! ### the letters' map, key by key -/
theorem letter_back {c x : UInt8} (h : letterOf c = some x) : escLetter x = some c := by
  have := all_bytes (p := fun c => match letterOf c with | none => true | some x => decide (escLetter x = some c)) (by decide +kernel) c
  simpa [h] using this
theorem letter_inj {c c' x : UInt8} (h : letterOf c = some x) (h' : letterOf c' = some x) : c' = c := by
  have h1 := letter_back h; have h2 := letter_back h'
  rw [h1] at h2; exact (Option.some.inj h2).symm
theorem k8_ne {a b : UInt8} (h : a ≠ b) : k8 (a.toNat : Int) ≠ k8 (b.toNat : Int) := fun e => h (by
  apply UInt8.toNat_inj.1
  injection e with _ e; omega)
/-- The letters' map holds just the entries that have come. -/
def Inv (D : DataW Unit) (left : Lit → Bool) : Prop := ∀ c : UInt8, (Maps.has D (k8 (c.toNat : Int)) = match letterOf c with | some x => !left (k8 (x.toNat : Int)) | none => false) ∧
  ∀ x, letterOf c = some x → left (k8 (x.toNat : Int)) = false → ∀ z, D.atKey (k8 (c.toNat : Int)) z = d8 (x.toNat : Int)
theorem inv_start : Inv (.map []) (Maps.has escD) := fun c => by
  have hk : ∀ x, letterOf c = some x → Maps.has escD (k8 (x.toNat : Int)) = true := fun x h => by
    have := all_bytes (p := fun c => match letterOf c with | none => true | some x => Maps.has escD (k8 (x.toNat : Int))) (by decide +kernel) c
    simpa [h] using this
  refine ⟨?_, fun x h hl => ?_⟩
  · cases h : letterOf c with
    | none => rfl
    | some x => simp [hk x h]; rfl
  · rw [hk x h] at hl; cases hl
theorem inv_step {D : DataW Unit} {left : Lit → Bool} {cb xb : UInt8} (hI : Inv D left) (hm : IsMap D) (hl : letterOf cb = some xb) :
    Inv (D.put (k8 (cb.toNat : Int)) (d8 (xb.toNat : Int))) (fun z => left z && !z.sameKey (k8 (xb.toNat : Int))) := fun c => by
  have hk : ∀ x : Int, WideAt.IsKeyLit (k8 x) := fun x => trivial
  by_cases hc : c = cb
  · subst hc
    refine ⟨?_, fun x h _ z => ?_⟩
    · rw [Maps.has_put_same hm (hk _), hl]
      simp [WideAt.sameKey_self (hk _)]
    · rw [hl] at h; obtain rfl := Option.some.inj h
      exact Maps.atKey_put_same hm (hk _) _ _
  · have hne : k8 (c.toNat : Int) ≠ k8 (cb.toNat : Int) := k8_ne hc
    have hs : ∀ x, letterOf c = some x → (k8 (x.toNat : Int)).sameKey (k8 (xb.toNat : Int)) = false := fun x h =>
      Maps.sameKey_ne (k8_ne (fun e => hc (letter_inj hl (e ▸ h))))
    refine ⟨?_, fun x h hlf z => ?_⟩
    · rw [Maps.has_put_other hne, (hI c).1]
      cases h : letterOf c with
      | none => rfl
      | some x => simp [hs x h]
    · rw [Maps.atKey_put_other hne]
      exact (hI c).2 x h (by simpa [hs x h] using hlf) z
theorem esc_entry {x c : Int} (hat : ∀ zd, escD.atKey (k8 x) zd = d8 c) : ∃ xb cb : UInt8, x = xb.toNat ∧ c = cb.toNat ∧ letterOf cb = some xb := by
  have hh := Maps.has_true_of_atKey hat
  have h2 : (k8 98).sameKey (k8 x) = true ∨ (k8 102).sameKey (k8 x) = true ∨ (k8 110).sameKey (k8 x) = true ∨ (k8 114).sameKey (k8 x) = true ∨ (k8 116).sameKey (k8 x) = true := by
    simpa [escD, Maps.has_eq] using hh
  have key : ∀ n m : Int, (k8 n).sameKey (k8 x) = true → escD.atKey (k8 n) .nil = d8 m → x = n ∧ c = m := fun n m h h3 => by
    have e := WideAt.sameKey_eq h
    injection e with _ e
    subst e
    have := hat .nil
    rw [h3] at this
    injection this with this
    injection this with _ this
    exact ⟨rfl, this.symm⟩
  rcases h2 with h | h | h | h | h
  · obtain ⟨rfl, rfl⟩ := key 98 8 h (by rfl); exact ⟨98, 8, rfl, rfl, rfl⟩
  · obtain ⟨rfl, rfl⟩ := key 102 12 h (by rfl); exact ⟨102, 12, rfl, rfl, rfl⟩
  · obtain ⟨rfl, rfl⟩ := key 110 10 h (by rfl); exact ⟨110, 10, rfl, rfl, rfl⟩
  · obtain ⟨rfl, rfl⟩ := key 114 13 h (by rfl); exact ⟨114, 13, rfl, rfl, rfl⟩
  · obtain ⟨rfl, rfl⟩ := key 116 9 h (by rfl); exact ⟨116, 9, rfl, rfl, rfl⟩
/-- The letters' map as it stands behind its loop. -/
def Full (D : DataW Unit) : Prop := ∀ c : UInt8, (Maps.has D (k8 (c.toNat : Int)) = (letterOf c).isSome) ∧ ∀ x, letterOf c = some x → ∀ z, D.atKey (k8 (c.toNat : Int)) z = d8 (x.toNat : Int)
theorem inv_end {D : DataW Unit} {left : Lit → Bool} (hI : Inv D left) (hl : ∀ k, left k = false) : Full D := fun c => by
  refine ⟨?_, fun x h => (hI c).2 x h (hl _)⟩
  rw [(hI c).1]
  cases letterOf c with
  | none => rfl
  | some x => simp [hl]
end Go.Proofs.YtgkhnpldjdbmoaaGreatDoor
