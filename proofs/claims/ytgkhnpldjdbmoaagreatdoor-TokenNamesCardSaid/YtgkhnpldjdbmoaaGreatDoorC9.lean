/- The walks of text.octal, escapes, escaped. -/
import Derived.Test.YtgkhnpldjdbmoaaGreatDoorC3
import Derived.Maps.Own
import Derived.Maps.OwnOps
import Derived.RegionCalls
import Derived.MapKept
set_option linter.unusedVariables false
set_option linter.unusedSimpArgs false
namespace Go.Proofs.YtgkhnpldjdbmoaaGreatDoor
open Go.RowKit Go.Maps

theorem octal_bool (b : UInt8) : isOctal b = decide (48 ≤ b.toNat ∧ b.toNat ≤ 55) := by
  simp [isOctal, UInt8.le_iff_toNat_le]
set_option maxRecDepth 100000 in
set_option maxHeartbeats 2000000 in
theorem octal_any (b : UInt8) (w : World) : Calls Tryz.prog 215 #[.int .u8 b.toNat] w fun e w' => e = .returned (.bool (isOctal b)) ∧ w' = w := by
  by_cases h1 : 48 ≤ (b.toNat : Int)
  · go_enter Tryz.func215, Tryz.ntmps215
    go_wp2
    go_ret
    exact ⟨ret_bool (by rw [octal_bool]; simp [show 48 ≤ b.toNat by omega]; omega), rfl⟩
  · go_enter Tryz.func215, Tryz.ntmps215
    go_wp2
    go_ret
    exact ⟨ret_bool (by rw [octal_bool]; simp; omega), rfl⟩

def escEs : Array MapEntry := #[⟨.int .u8 110, .int .u8 10, 0⟩, ⟨.int .u8 114, .int .u8 13, 1⟩, ⟨.int .u8 116, .int .u8 9, 2⟩, ⟨.int .u8 98, .int .u8 8, 3⟩, ⟨.int .u8 102, .int .u8 12, 4⟩]
theorem set_new (w : World) (o o' : Obj) : { w.alloc o with heap := (w.alloc o).heap.setIfInBounds w.heap.size o' } = w.alloc o' := by
  simp only [World.alloc]
  congr 1
  apply Array.ext_getElem?
  intro i
  rw [Array.getElem?_setIfInBounds]
  by_cases h : w.heap.size = i
  · subst h; simp
  · have h' : ¬ i = w.heap.size := fun e => h e.symm
    simp [h, h', Array.getElem?_push]
theorem put_new (w : World) (es : Array MapEntry) (clock : Nat) (k v : Int) (h : Instr.findNow (.int .u8) (.int .u8 k) es.toList 0 = some none) :
    (Instr.mapUpdate 182 (.map (some w.heap.size)) (.int .u8 k) (.int .u8 v)).run Tryz.prog (w.alloc (.map es clock)) = .ok () (w.alloc (.map (es.push ⟨.int .u8 k, .int .u8 v, clock⟩) (clock + 1))) := by
  have hb : (w.alloc (.map es clock)).heap[w.heap.size]? = some (.map es clock) := heap_alloc_last w _
  have g1 := Go.MapKept.run_getObj_map (P := Tryz.prog) hb
  have g2 := Go.MapKept.run_checkKey (P := Tryz.prog) (w := w.alloc (.map es clock)) (k := .int .u8 k) Tryz.underlying5 (by trivial) false 9999
  have g3 := Go.MapKept.run_findKey (P := Tryz.prog) (w := w.alloc (.map es clock)) Tryz.underlying5 h
  have g4 := Go.MapKept.run_setObj_map (P := Tryz.prog) (.map (es.push ⟨.int .u8 k, .int .u8 v, clock⟩) (clock + 1)) hb
  have g5 := set_new w (.map es clock) (.map (es.push ⟨.int .u8 k, .int .u8 v, clock⟩) (clock + 1))
  unfold Instr.mapUpdate
  simp only [Sem.run_bind, run_underlying Tryz.underlying182, Result.andThen, g1, g2, g3, g4]
  rw [← g5]
set_option maxRecDepth 100000 in
set_option maxHeartbeats 2000000 in
theorem escapes_any (w : World) : Calls Tryz.prog 182 #[] w fun e w' => e = .returned (.map (some w.heap.size)) ∧ w.alloc (.map escEs 5) = w' := by
  have hmm := @run_makeMap Tryz.prog
  have u1 := put_new w #[] 0 110 10 (by rfl)
  have u2 := put_new w #[⟨.int .u8 110, .int .u8 10, 0⟩] 1 114 13 (by rfl)
  have u3 := put_new w #[⟨.int .u8 110, .int .u8 10, 0⟩, ⟨.int .u8 114, .int .u8 13, 1⟩] 2 116 9 (by rfl)
  have u4 := put_new w #[⟨.int .u8 110, .int .u8 10, 0⟩, ⟨.int .u8 114, .int .u8 13, 1⟩, ⟨.int .u8 116, .int .u8 9, 2⟩] 3 98 8 (by rfl)
  have u5 := put_new w #[⟨.int .u8 110, .int .u8 10, 0⟩, ⟨.int .u8 114, .int .u8 13, 1⟩, ⟨.int .u8 116, .int .u8 9, 2⟩, ⟨.int .u8 98, .int .u8 8, 3⟩] 4 102 12 (by rfl)
  go_enter Tryz.func182, Tryz.ntmps182
  go_wp2
  go_ret
  exact ⟨rfl, rfl⟩

/-- What a look at the letters' map answers. -/
def escPair (c : UInt8) : Int × Bool := match escLetter c with | some x => (x.toNat, true) | none => (0, false)
theorem esc_find (c : UInt8) : Instr.findNow (.int .u8) (.int .u8 c.toNat) escEs.toList 0 = some (if c = 110 then some (0, .int .u8 10) else if c = 114 then some (1, .int .u8 13) else if c = 116 then some (2, .int .u8 9) else if c = 98 then some (3, .int .u8 8) else if c = 102 then some (4, .int .u8 12) else none) := by
  by_cases h1 : c = 110
  · subst h1; rfl
  by_cases h2 : c = 114
  · subst h2; rfl
  by_cases h3 : c = 116
  · subst h3; rfl
  by_cases h4 : c = 98
  · subst h4; rfl
  by_cases h5 : c = 102
  · subst h5; rfl
  have n : ∀ (d : UInt8), ¬ c = d → ¬ (c.toNat : Int) = (d.toNat : Int) := fun d h h2 => h (UInt8.toNat_inj.1 (by omega))
  have n1 := n 110 h1; have n2 := n 114 h2; have n3 := n 116 h3; have n4 := n 98 h4; have n5 := n 102 h5
  have m : ∀ (x : Int), ¬ (c.toNat : Int) = x → ((c.toNat : Int) == x) = false := fun x h => by rw [beq_eq_false_iff_ne]; exact h
  have m1 := m 110 n1; have m2 := m 114 n2; have m3 := m 116 n3; have m4 := m 98 n4; have m5 := m 102 n5
  simp only [escEs, Instr.findNow, Instr.sameNow, h1, h2, h3, h4, h5, m1, m2, m3, m4, m5, if_false, if_true]
theorem esc_look (c : UInt8) (b : Nat) (w : World) (hb : w.heap[b]? = some (.map escEs 5)) :
    (Instr.lookup 182 (.map (some b)) (.int .u8 c.toNat) true).run Tryz.prog w = .ok (.tuple #[.int .u8 (escPair c).1, .bool (escPair c).2]) w := by
  have g1 := Go.MapKept.run_getObj_map (P := Tryz.prog) hb
  have g2 : (Instr.checkKey escEs.isEmpty 10000 5 (.int .u8 c.toNat)).run Tryz.prog w = .ok () w := Go.MapKept.run_checkKey (P := Tryz.prog) (w := w) (k := .int .u8 c.toNat) Tryz.underlying5 (by trivial) escEs.isEmpty 9999
  have g3 := Go.MapKept.run_findKey (P := Tryz.prog) (w := w) Tryz.underlying5 (esc_find c)
  have g4 : (zeroValue 5).run Tryz.prog w = .ok (.int .u8 0) w := by kernel_rfl
  unfold Instr.lookup
  simp only [Sem.run_bind, Sem.run_pure, run_underlying Tryz.underlying182, Result.andThen, g1, g2, g3]
  clear g1 g2 g3 hb
  unfold escPair escLetter
  by_cases h1 : c = 110
  · subst h1; simp [Sem.run_bind, Result.andThen]
  by_cases h2 : c = 114
  · subst h2; simp [Sem.run_bind, Result.andThen]
  by_cases h3 : c = 116
  · subst h3; simp [Sem.run_bind, Result.andThen]
  by_cases h4 : c = 98
  · subst h4; simp [Sem.run_bind, Result.andThen]
  by_cases h5 : c = 102
  · subst h5; simp [Sem.run_bind, Result.andThen]
  simp [h1, h2, h3, h4, h5, g4, Result.andThen]
end Go.Proofs.YtgkhnpldjdbmoaaGreatDoor
