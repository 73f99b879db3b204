/- Arrays of whole numbers, held against each other. -/
import Derived.Laws.StructEq
import Derived.WalkKit
set_option linter.unusedVariables false
set_option linter.unusedSimpArgs false
namespace Go.Proofs.YtijnlbpeckoofaaGreat
open Go.RowKit
variable {P : Program} {w : World}
theorem arr_eq (d : Nat) {t elem : TypeId} {k : IntKind} {as bs : List Int} {len : Nat} (ht : P.underlying t = some (.array len elem)) (he : P.underlying elem = some (.int k)) (hs : (Go.sizeOf elem).run P w = .ok 1 w) (ha : as.length = len) (hb : bs.length = len)
    (hp : ∀ (xs : List Int) (i : Nat) (x : Int), xs[i]? = some x → (part elem ⟨xs.map (Value.int k)⟩ i).run P w = .ok (.int k x) w) :
    (Op.equalIn (d + 2) t (.agg ⟨as.map (Value.int k)⟩) (.agg ⟨bs.map (Value.int k)⟩)).run P w = .ok (as == bs) w := by
  have key : ∀ (n i : Nat), i + n = len → (∀ j, j < i → as[j]? = bs[j]?) →
      (forIn (List.range' i n) ((none : Option Bool), ()) (fun i __s => do
            let __do_lift ← part elem { toList := List.map (Value.int k) as } (i * 1)
            let __do_lift_1 ← part elem { toList := List.map (Value.int k) bs } (i * 1)
            let __do_lift ← Op.equalIn (d + 1) elem __do_lift __do_lift_1
            if (!__do_lift) = true then pure (ForInStep.done (some false, ())) else pure (ForInStep.yield (none, ()))) : Sem (Option Bool × Unit)).run P w = .ok (if as == bs then (none, ()) else (some false, ())) w := by
    intro n
    induction n with
    | zero =>
      intro i hi hj
      have : as = bs := List.ext_getElem? fun j => by
        by_cases h : j < i
        · exact hj j h
        · rw [List.getElem?_eq_none (by omega), List.getElem?_eq_none (by omega)]
      subst this
      simp
    | succ n ih =>
      intro i hi hj
      obtain ⟨a, hav⟩ : ∃ a, as[i]? = some a := ⟨_, List.getElem?_eq_getElem (by omega)⟩
      obtain ⟨b, hbv⟩ : ∃ b, bs[i]? = some b := ⟨_, List.getElem?_eq_getElem (by omega)⟩
      rw [List.range'_succ, List.forIn_cons]
      simp only [Sem.run_bind, Nat.mul_one, hp as i a hav, hp bs i b hbv, Result.andThen_ok, run_equalIn_int w d elem k k a b he, Sem.run_ite, Sem.run_pure]
      by_cases e : a = b
      · subst e
        simp only [beq_self_eq_true, Bool.not_true, Bool.false_eq_true, if_false, Result.andThen_ok]
        have := ih (i + 1) (by omega) (fun j h => by
          by_cases q : j = i
          · subst q; rw [hav, hbv]
          · exact hj j (by omega))
        simpa using this
      · have h1 : (a == b) = false := by simp [e]
        have h2 : (as == bs) = false := by
          rw [beq_eq_false_iff_ne]; rintro rfl; rw [hav] at hbv; exact e (Option.some.inj hbv)
        simp [h1, h2]
  unfold Op.equalIn
  simp only [Sem.run_bind, run_underlying ht, Result.andThen_ok, hs]
  have k0 := key len 0 (by omega) (fun j h => by omega)
  rw [Std.Legacy.Range.forIn_eq_forIn_range']
  simp only [Std.Legacy.Range.size, Nat.sub_zero, Nat.add_sub_cancel, Nat.div_one]
  rw [k0]
  cases h : as == bs <;> simp [h]
end Go.Proofs.YtijnlbpeckoofaaGreat
