/- The walk of token.All. -/
import Derived.Test.YtgkhnpldjdbmoaaGreatDoorC17
import Derived.Deep.RegionLawGrows
set_option linter.unusedVariables false
set_option linter.unusedSimpArgs false
namespace Go.Proofs.YtgkhnpldjdbmoaaGreatDoor
open Go.RowKit

theorem step_append_own {P : Program} {ops : Array Oper} {o : Oper} {a : Act} {w : World} {K : Act → World → Prop} {Q : Exit → Act → World → Prop} {E : Prop}
    (hg : o.guard = none) (s x : Operand) (t : TypeId) (hop : o.op = Op.call { callee := Callee.builtin Builtin.append, args := #[s, x], argTypes := #[t, t] })
    (base : Nat) (e : TypeId) (i : TypeInfo) (z : Value) (size bytes : Nat) (h1 : P.underlying t = some (.slice e)) (h2 : P.info? e = some i) (h3 : i.zero = some z) (h4 : i.size = size) (h5 : i.bytes = bytes) (h6 : z.cells.size = size) (h7 : 0 < size)
    (v : Value) (n : Nat) (xs : List Value) (hs : a.eval s = v) (hown : w.ownsRow base e size v n xs)
    (ad : Addr) (m c : Nat) (news : List Value) (hx : a.eval x = .slice (some ad) m c) (hn : news.length = m * size) (hc : ∀ j u, news[j]? = some u → w.cell? (ad.add j) = some u) (h1c : ∀ u ∈ news, u.oneCell' = true)
    (b1 : n + m ≤ maxLen) (b2 : (n + m) * bytes ≤ 140737488355328) (hbase : base ≤ w.heap.size)
    (hK : ∀ v' w', w'.ownsRow base e size v' (n + m) (xs ++ news) → w.grownBy w' v.ownBlock → K (a.put o.dst v') w') :
    if Region.wanted o (yielded ops a.tmps) = true then Oper.wp P o a w K Q else E := by
  have hw : Region.wanted o (yielded ops a.tmps) = true := by simp [Region.wanted, hg]
  rw [if_pos hw]
  obtain ⟨v', w', hrun, r1, r2, _⟩ := run_append_own (P := P) w base t o.type e i z size bytes h1 h2 h3 h4 h5 h6 h7 v n xs hown ad m c news hn hc h1c b1 b2 hbase
  unfold Oper.wp
  simp [execOp, hop, resolve, invoke, builtin, hs, hx, hrun, Result.andThen]
  exact hK v' w' r1 r2

def tokCells : List Tok → List Value
  | [] => []
  | t :: ts => .int .i64 (t.t.kind : Int) :: .int .i64 t.t.n :: .string (bs t.t.s) :: .int .i64 (t.from_ : Int) :: .int .i64 (t.to : Int) :: tokCells ts
theorem tokCells_append (a b : List Tok) : tokCells (a ++ b) = tokCells a ++ tokCells b := by
  induction a with
  | nil => rfl
  | cons t a ih => simp [tokCells, ih]
theorem infoTok : (Tryz.prog.info? 47).map (fun i => (i.zero, i.size, i.bytes)) = some (some (.agg #[.int .i64 0, .int .i64 0, .string ⟨#[]⟩, .int .i64 0, .int .i64 0]), 5, 48) := by kernel_rfl

theorem tok_info {P : Program} {e : TypeId} {z : Value} {a b : Nat} (h : (P.info? e).map (fun i => (i.zero, i.size, i.bytes)) = some (some z, a, b)) : ∃ i, P.info? e = some i ∧ i.zero = some z ∧ i.size = a ∧ i.bytes = b := by
  cases hi : P.info? e with
  | none => rw [hi] at h; cases h
  | some i => rw [hi] at h; simp at h; exact ⟨i, rfl, h.1, h.2.1, h.2.2⟩

theorem row_shape {w : World} {base : Nat} {e : TypeId} {n size : Nat} {v : Value} {xs : List Value} (h : w.ownsRow base e size v n xs) : ∃ ao c, v = .slice ao n c := by
  rcases h.2 with ⟨rfl, h0⟩ | ⟨g, cap, cur, rfl, hh⟩
  · exact ⟨none, 0, by rw [h0]⟩
  · exact ⟨_, cap, rfl⟩

theorem row_keep' {w w1 : World} {base : Nat} {e : TypeId} {n size : Nat} {v : Value} {xs : List Value} (h : w.ownsRow base e size v n xs) (hb : Below w.heap.size w w1) : w1.ownsRow base e size v n xs :=
  h.kept (show w.grownBy w1 none from ⟨hb.os, hb.tape, hb.output, hb.size, fun i hi _ => hb.block i hi⟩) (by cases v.ownBlock <;> simp)
theorem grown_cell {W W' : World} {row : Option Nat} {b : Nat} (h : W.grownBy W' row) (hb : b < W.heap.size) (hne : row ≠ some b) (j : Nat) : W'.cell? ⟨b, j, none⟩ = W.cell? ⟨b, j, none⟩ := by
  have h5 := h.block b hb (fun x => hne x.symm)
  simp only [World.cell?]
  rw [h5]
theorem own_ne {w : World} {base : Nat} {e : TypeId} {n size : Nat} {v : Value} {xs : List Value} (h : w.ownsRow base e size v n xs) {b : Nat} (hb : w.heap.size ≤ b) : v.ownBlock ≠ some b := fun hk => by
  have := h.lt b hk; omega
theorem own_base5 {w : World} {base : Nat} {e : TypeId} {size n : Nat} {v : Value} {xs : List Value} (h : w.ownsRow base e size v n xs) (k : Nat) (hk : v.ownBlock = some k) : base ≤ k := (h.lt k hk).1
theorem cells5 (w : World) (a b c d f : Value) (T : TypeId) : ∀ j u, [a, b, c, d, f][j]? = some u → (w.alloc (.cells #[a, b, c, d, f] T)).cell? ((⟨w.heap.size, 0, none⟩ : Addr).add j) = some u := by
  intro j u h
  rw [← h]
  match j with
  | 0 | 1 | 2 | 3 | 4 => simp [Addr.add, World.cell?_alloc_new]
  | j + 5 => simp at h
theorem cells5' (w : World) (o : Obj) (a b c d f : Value) (T : TypeId) : ∀ j u, [a, b, c, d, f][j]? = some u → ((w.alloc o).alloc (.cells #[a, b, c, d, f] T)).cell? ((⟨w.heap.size + 1, 0, none⟩ : Addr).add j) = some u := by
  have h : (w.alloc o).heap.size = w.heap.size + 1 := by simp
  intro j u hj
  have := cells5 (w.alloc o) a b c d f T j u hj
  rw [h] at this; exact this

/-- How far All has come. -/
def AllTo (l : Bytes) (k : Nat) (out : List Tok) : Prop := ∃ ts a e, Toks l k ts a e ∧ (all l).2.1 = a ∧ (all l).2.2 = e ∧ out ++ ts = (all l).1
def AllV (B : Nat) (l : Bytes) (w : World) (e : Ending) (w' : World) : Prop := ∃ v, e = .returned (.tuple #[v, .int .i64 ((all l).2.1 : Int), .int .i64 ((all l).2.2 : Int)]) ∧ w'.ownsRow B 47 5 v (all l).1.length (tokCells (all l).1) ∧ Below B w w'

theorem next_is (s : ByteArray) (p : Nat) (t : Tok) (e0 : Nat) (w : World) (hs : s.size ≤ 4000000000) (hp : p ≤ s.size) (he : Env w) (h : nextAt s.data.toList p = (t, e0)) :
    Calls Tryz.prog 22 #[.string s, .int .i64 p] w fun e w' => e = .returned (.tuple #[.agg #[.int .i64 (t.t.kind : Int), .int .i64 t.t.n, .string (bs t.t.s), .int .i64 (t.from_ : Int), .int .i64 (t.to : Int)], .int .i64 (e0 : Int)]) ∧ Below w.heap.size w w' :=
  (next_any s p w hs hp he).mono fun e w' h2 => by rw [h] at h2; exact h2

set_option maxRecDepth 100000 in
set_option maxHeartbeats 4000000 in
theorem all_any (s : ByteArray) (w : World) (hs : s.size ≤ 4000000000) (he : Env w) :
    Calls Tryz.prog 23 #[.string s] w fun e w' => AllV w.heap.size s.data.toList w e w' := by
  have hz := size_list s
  have hst : AllTo s.data.toList 0 [] := ⟨_, _, _, all_toks _, rfl, rfl, by simp⟩
  have HST := Lib.hid hst; clear hst
  obtain ⟨i0, hi, hz0, hz1, hz2⟩ := tok_info infoTok
  have HZ := Lib.hid hz; clear hz
  go_enter Tryz.func23, Tryz.ntmps23
  go_wp2
  go_loopw [2, 3] (fun l a wr => ∃ (k : Nat) (out : List Tok), k ≤ s.size ∧ a = .int .i64 k ∧ out.length ≤ k ∧ wr.ownsRow w.heap.size 47 5 l out.length (tokCells out) ∧ Below w.heap.size w wr ∧ AllTo s.data.toList k out) (fun _ a _ => s.size - (intOf a).toNat)
  case atStart => exact ⟨0, [], by omega, rfl, by simp, World.ownsRow_nil _ _ _ _, Below.refl _ _, HST.out⟩
  case round =>
    obtain ⟨k, out, hk, rfl, hol, hown, hb, ts, a, e, hts, hA, hE, hout⟩ := hrel
    have HA := Lib.hid hA; have HE := Lib.hid hE; have HOUT := Lib.hid hout; clear hA hE hout
    have HO := Lib.hid hown; clear hown
    have hew := he.below hb
    obtain ⟨ao, cap, rfl⟩ := row_shape HO.out
    cases hts with
    | bad h hne =>
      obtain ⟨t, ht⟩ : ∃ t, nextAt s.data.toList k = (t, e) := ⟨(nextAt s.data.toList k).1, by rw [← h]⟩
      have hN := fun W hW => next_is s k t e W hs hk hW ht
      have HN := Lib.hid hN; clear hN
      have hne2 : ((e : Int) != 0) = true := by simp; omega
      have hS : ∀ W, Calls Tryz.prog 59 #[.string s, .int .i64 k] W fun e w' => e = .returned (.int .i64 ((all s.data.toList).2.1 : Int)) ∧ Below W.heap.size W w' := fun W =>
        (skip_any s _ W (by omega)).mono fun e w' h => by rw [place_nat hk] at h; rw [HA.out]; exact h
      have HS := Lib.hid hS; clear hS
      have HOUT2 := Lib.hid ((show out = out ++ [] by simp).trans HOUT.out)
      clear h ht
      go_wp2_with (first
        | (go_at_call 22; refine (HN.out _ hew).mono ?_; rintro e w1 ⟨rfl, hb1⟩)
        | (go_at_call 59; refine (HS.out _).mono ?_; rintro e w2 ⟨rfl, hb2⟩))
      go_ret3
      have hbb := ((hb.trans (hb1.mono hb.size)).alloc (Nat.le_trans hb.size hb1.size) _).trans (hb2.mono (by simp; have := hb.size; have := hb1.size; omega))
      refine ⟨.slice ao out.length cap, by rw [HE.out]; rfl, ?_, hbb⟩
      rw [← HOUT2.out]
      exact row_keep' ((row_keep' HO.out hb1).alloc _) hb2
    | done h hkd =>
      obtain ⟨t, ht, hk0⟩ : ∃ t, nextAt s.data.toList k = (t, 0) ∧ t.t.kind = 0 := ⟨(nextAt s.data.toList k).1, by rw [← h], hkd⟩
      obtain ⟨⟨kd, x, v⟩, f, g⟩ := t
      dsimp only at hk0
      subst hk0
      have hN := fun W hW => next_is s k _ 0 W hs hk hW ht
      have HN := Lib.hid hN; clear hN
      have HOUT2 := Lib.hid ((show out = out ++ [] by simp).trans HOUT.out)
      have HSZ : Hid ((s.size : Int) = ((all s.data.toList).2.1 : Int)) := Lib.hid (by rw [HA.out, HZ.out])
      clear h ht hkd
      go_wp2_with (go_at_call 22; refine (HN.out _ hew).mono ?_; rintro e w1 ⟨rfl, hb1⟩)
      go_ret3
      refine ⟨.slice ao out.length cap, by rw [HE.out, ← HSZ.out]; rfl, ?_, (hb.trans (hb1.mono hb.size)).alloc (Nat.le_trans hb.size hb1.size) _⟩
      rw [← HOUT2.out]
      exact (row_keep' HO.out hb1).alloc _
    | @more _ t ts _ _ h hkd hr =>
      obtain ⟨ff1, f2, f3, ff4⟩ := nextAt_ok h (by rw [← HZ.out]; exact hk) hkd
      have f0 : t.to > k := by omega
      have hN := fun W hW => next_is s k t 0 W hs hk hW h
      have f3' : t.to ≤ s.size := by rw [HZ.out]; exact f3
      have HTS := Lib.hid hr
      have HOUT2 := Lib.hid ((show (out ++ [t]) ++ ts = out ++ t :: ts by simp).trans HOUT.out)
      clear h hr f3 ff1 ff4
      obtain ⟨⟨kd, x, v⟩, f, g⟩ := t
      dsimp only at *
      have HN := Lib.hid hN; clear hN HOUT
      have hkd2 : ((kd : Int) == 0) = false := by simp; omega
      go_upto_region 6 with (go_at_call 22; refine (HN.out _ hew).mono ?_; rintro e w1 ⟨rfl, hb1⟩)
      have hr1 := row_keep' HO.out hb1
      have HR1 := Lib.hid hr1; clear hr1
      have hz1' : w.heap.size ≤ w1.heap.size := Nat.le_trans hb.size hb1.size
      go_region_law (refine step_append_own rfl (.tmp 28) (.tmp 30) 50 rfl w.heap.size 47 i0 _ 5 48 Tryz.underlying50 hi hz0 hz1 hz2 rfl (by decide) (.slice ao out.length cap) out.length (tokCells out) (by simp [Act.eval, Act.put]) ((HR1.out.alloc _).alloc _) ⟨w1.heap.size + 1, 0, none⟩ 1 1 [.int .i64 (kd : Int), .int .i64 x, .string (bs v), .int .i64 (f : Int), .int .i64 (g : Int)] (by simp [Act.eval, Act.put]) rfl ?_ ?_ ?_ ?_ ?_ ?_; (focus exact cells5' _ _ _ _ _ _ _ _); (focus (intro u hu; simp at hu; rcases hu with rfl | rfl | rfl | rfl | rfl <;> rfl)); (focus (unfold maxLen; omega)); (focus omega); (focus (simp; omega)); intro v' w' hown' hgrow; obtain ⟨ao2, cap2, rfl⟩ := row_shape hown'; have ct4 : w'.cell? ⟨w1.heap.size, 4, none⟩ = some (.int .i64 (g : Int)) := (by rw [grown_cell hgrow (by simp; omega) (own_ne HR1.out (Nat.le_refl _))]; go_simp))
      all_goals
        go_simp
        go_roundw
        case rel =>
          repeat apply Exists.intro
          refine And.intro ?_ ?_
          rotate_left
          · rfl
          refine ⟨g, out ++ [⟨⟨kd, x, v⟩, f, g⟩], f3', rfl, by simp; omega, ?_, ?_, ts, a, e, HTS.out, HA.out, HE.out, HOUT2.out⟩
          · rw [tokCells_append, List.length_append]; exact hown'
          · exact ((((hb.trans (hb1.mono hb.size)).alloc (by omega) _).alloc (by simp; omega) _).drew).grown hgrow (by simp; omega) (fun k hk => own_base5 HO.out k hk)
        case measure => simp [intOf]; omega
end Go.Proofs.YtgkhnpldjdbmoaaGreatDoor
