/-
  The middle of what is wide; its count; a block stays: plain.
-/
import Derived.Test.YtphnadpmpcifoaaDoorShowG
namespace Go.Qm
theorem popTo_0 (t : Nat) : popTo 0 t = 0 := rfl
theorem popTo_b (k t : Nat) : popTo (k + 1) t = popTo k t + b2n (t.testBit k) := rfl
theorem spC_at {t X Y : Nat} (h : 4 ≤ X ∧ X < 12 ∧ 4 ≤ Y ∧ Y < 12) : spC t 64 X Y = t.testBit (8 * (Y - 4) + (X - 4)) := by
  unfold spC
  have : 4 ≤ X ∧ X < 12 ∧ 4 ≤ Y ∧ Y < 12 ∧ 8 * (Y - 4) + (X - 4) < 64 := by omega
  rw [decide_eq_true this, Bool.true_and]
theorem spC_no {t X Y : Nat} (h : ¬ (4 ≤ X ∧ X < 12 ∧ 4 ≤ Y ∧ Y < 12)) : spC t 64 X Y = false := by
  unfold spC
  have : ¬ (4 ≤ X ∧ X < 12 ∧ 4 ≤ Y ∧ Y < 12 ∧ 8 * (Y - 4) + (X - 4) < 64) := by omega
  rw [decide_eq_false this, Bool.false_and]
theorem cut_spread {n : Nat} (hn : n < 18446744073709551616) : cutN (fourN (spK n 64 0) (spK n 64 1) (spK n 64 2) (spK n 64 3)) 4 4 8 = n := by
  apply Nat.eq_of_testBit_eq
  intro i
  rw [cutN_bit _ _ _ _ _ (Nat.le_refl 8)]
  by_cases hi : i < 64
  · simp only [hi, decide_true, Bool.true_and, Nat.reduceMul]
    rw [fc_fourN]
    unfold fourC
    by_cases h1 : i % 8 < 4 <;> by_cases h2 : i / 8 < 4
    · rw [tc_in (x := 0) (y := 0) (by omega), tc_out (x := 8) (y := 0) (by omega), tc_out (x := 0) (y := 8) (by omega), tc_out (x := 8) (y := 8) (by omega)]
      simp only [Bool.or_false, Nat.sub_zero]
      rw [spK_bit, spC_at (by omega), decide_eq_true (by omega), Bool.true_and]; congr 1; omega
    · rw [tc_out (x := 0) (y := 0) (by omega), tc_out (x := 8) (y := 0) (by omega), tc_in (x := 0) (y := 8) (by omega), tc_out (x := 8) (y := 8) (by omega)]
      simp only [Bool.or_false, Bool.false_or, Nat.sub_zero]
      rw [spK_bit, spC_at (by omega), decide_eq_true (by omega), Bool.true_and]; congr 1; omega
    · rw [tc_out (x := 0) (y := 0) (by omega), tc_in (x := 8) (y := 0) (by omega), tc_out (x := 0) (y := 8) (by omega), tc_out (x := 8) (y := 8) (by omega)]
      simp only [Bool.or_false, Bool.false_or, Nat.sub_zero]
      rw [spK_bit, spC_at (by omega), decide_eq_true (by omega), Bool.true_and]; congr 1; omega
    · rw [tc_out (x := 0) (y := 0) (by omega), tc_out (x := 8) (y := 0) (by omega), tc_out (x := 0) (y := 8) (by omega), tc_in (x := 8) (y := 8) (by omega)]
      simp only [Bool.or_false, Bool.false_or, Nat.sub_zero]
      rw [spK_bit, spC_at (by omega), decide_eq_true (by omega), Bool.true_and]; congr 1; omega
  · have hp : (2 : Nat) ^ 64 ≤ 2 ^ i := Nat.pow_le_pow_right (by omega) (by omega)
    rw [Nat.testBit_lt_two_pow (Nat.lt_of_lt_of_le hn hp)]
    simp [hi]
theorem ctr_wide {t : T} (ho : t.ok) : T.ctr t.wide.k0 t.wide.k1 t.wide.k2 t.wide.k3 = t := by
  have l3 := t.lev_ge
  unfold T.wide
  split
  · rename_i h
    cases t with
    | node a _ _ _ => have := a.lev_ge; simp [T.lev] at h; omega
    | leaf n =>
      show T.ctr (.leaf _) (.leaf _) (.leaf _) (.leaf _) = _
      unfold T.ctr
      simp only [T.lev, if_true, T.cells]
      rw [cut_spread ho]
  · rename_i h
    cases t with
    | leaf n => simp [T.lev] at h
    | node a b c d =>
      show T.ctr (.node _ _ _ a) (.node _ _ b _) (.node _ c _ _) (.node d _ _ _) = _
      unfold T.ctr
      have := (T.empty ((T.node a b c d).lev - 4)).lev_ge
      rw [if_neg (by simp only [T.lev] at *; omega)]
      rfl
theorem sp_at (n q i : Nat) (hi : i < 64) : (spK n 64 q).testBit i = (decide (4 ≤ 8 * (q % 2) + i % 8 ∧ 8 * (q % 2) + i % 8 < 12 ∧ 4 ≤ 8 * (q / 2) + i / 8 ∧ 8 * (q / 2) + i / 8 < 12) && n.testBit (8 * (8 * (q / 2) + i / 8 - 4) + (8 * (q % 2) + i % 8 - 4))) := by
  rw [spK_bit, decide_eq_true hi, Bool.true_and]
  by_cases h : 4 ≤ 8 * (q % 2) + i % 8 ∧ 8 * (q % 2) + i % 8 < 12 ∧ 4 ≤ 8 * (q / 2) + i / 8 ∧ 8 * (q / 2) + i / 8 < 12
  · rw [spC_at h, decide_eq_true h, Bool.true_and]
  · rw [spC_no h, decide_eq_false h, Bool.false_and]
theorem b2n_false : b2n false = 0 := rfl
/-- Eight bits from a place on. -/
def pop8 (t k : Nat) : Nat := b2n (t.testBit k) + b2n (t.testBit (k + 1)) + b2n (t.testBit (k + 2)) + b2n (t.testBit (k + 3)) + b2n (t.testBit (k + 4)) + b2n (t.testBit (k + 5)) + b2n (t.testBit (k + 6)) + b2n (t.testBit (k + 7))
theorem pop_8 (t : Nat) : pop t = pop8 t 0 + pop8 t 8 + pop8 t 16 + pop8 t 24 + pop8 t 32 + pop8 t 40 + pop8 t 48 + pop8 t 56 := by
  simp only [pop, popTo_b, popTo_0, pop8, Nat.reduceAdd]
  omega
theorem pop_spread (n : Nat) : pop (spK n 64 0) + pop (spK n 64 1) + pop (spK n 64 2) + pop (spK n 64 3) = pop n := by
  rw [pop_8, pop_8, pop_8, pop_8, pop_8]
  simp (disch := decide) only [pop8, Nat.reduceAdd, sp_at, Nat.reduceMod, Nat.reduceDiv, Nat.reduceMul, Nat.reduceSub, Nat.reduceLeDiff, Nat.reduceLT, and_self, and_true, true_and, and_false, false_and, decide_true, decide_false, Bool.true_and, Bool.false_and, b2n_false, Nat.add_zero, Nat.zero_add]
  omega
theorem capsum_zero {x : Int} (hx : 0 ≤ x ∧ x ≤ 4611686018427387904) : capsum 0 x = x := by unfold capsum; omega
theorem capsum_right {x : Int} (hx : 0 ≤ x ∧ x ≤ 4611686018427387904) : capsum x 0 = x := by unfold capsum; omega
theorem many_empty : ∀ k, (T.empty k).many = 0
  | 0 => by decide
  | k + 1 => by simp only [T.empty, T.many, many_empty k]; decide
theorem many_wide {t : T} : t.wide.many = t.many := by
  unfold T.wide
  split
  · rename_i h
    cases t with
    | node a _ _ _ => have := a.lev_ge; simp [T.lev] at h; omega
    | leaf n =>
      have := pop_spread n
      have l0 := popTo_le 64 (spK n 64 0); have l1 := popTo_le 64 (spK n 64 1); have l2 := popTo_le 64 (spK n 64 2); have l3 := popTo_le 64 (spK n 64 3)
      simp only [T.many, T.cells, pop] at *
      unfold capsum
      omega
  · rename_i h
    cases t with
    | leaf n => simp [T.lev] at h
    | node a b c d =>
      have ha := a.many_in; have hb := b.many_in; have hc := c.many_in; have hd := d.many_in
      simp only [T.many, many_empty, T.k0, T.k1, T.k2, T.k3]
      have z : capsum 0 0 = 0 := by decide
      simp only [z, capsum_zero ha, capsum_zero hb, capsum_zero hc, capsum_zero hd, capsum_right hb, capsum_right hc, capsum_right hd]
/-- A block. -/
def blk (X Y : Int) : Plane := fun x y => decide ((x = X ∨ x = X + 1) ∧ (y = Y ∨ y = Y + 1))
theorem blk_move (X Y x y : Int) : blk X Y x y = blk 0 0 (x - X) (y - Y) := by
  unfold blk
  congr 1
  apply propext
  omega
theorem blk_still0 (u v : Int) : gen 8 12 (blk 0 0) u v = blk 0 0 u v := by
  by_cases h : -1 ≤ u ∧ u ≤ 2 ∧ -1 ≤ v ∧ v ≤ 2
  · obtain ⟨h1, h2, h3, h4⟩ := h
    have c1 : u = -1 ∨ u = 0 ∨ u = 1 ∨ u = 2 := by omega
    have c2 : v = -1 ∨ v = 0 ∨ v = 1 ∨ v = 2 := by omega
    rcases c1 with rfl | rfl | rfl | rfl <;> rcases c2 with rfl | rfl | rfl | rfl <;> decide
  · have far : ∀ a b : Int, u - 1 ≤ a → a ≤ u + 1 → v - 1 ≤ b → b ≤ v + 1 → blk 0 0 a b = false := fun a b h1 h2 h3 h4 => by
      unfold blk
      exact decide_eq_false (by omega)
    unfold gen nbr
    rw [far _ _ (by omega) (by omega) (by omega) (by omega), far (u - 1) (v - 1) (by omega) (by omega) (by omega) (by omega), far u (v - 1) (by omega) (by omega) (by omega) (by omega), far (u + 1) (v - 1) (by omega) (by omega) (by omega) (by omega),
      far (u - 1) (v + 1) (by omega) (by omega) (by omega) (by omega), far u (v + 1) (by omega) (by omega) (by omega) (by omega), far (u + 1) (v + 1) (by omega) (by omega) (by omega) (by omega), far (u - 1) v (by omega) (by omega) (by omega) (by omega), far (u + 1) v (by omega) (by omega) (by omega) (by omega)]
    decide
theorem blk_still (X Y : Int) : gen 8 12 (blk X Y) = blk X Y := by
  funext x y
  rw [blk_move, ← blk_still0]
  unfold gen nbr
  simp only [blk_move X Y]
  have e1 : x - 1 - X = x - X - 1 := by omega
  have e2 : x + 1 - X = x - X + 1 := by omega
  have e3 : y - 1 - Y = y - Y - 1 := by omega
  have e4 : y + 1 - Y = y - Y + 1 := by omega
  rw [e1, e2, e3, e4]
theorem blk_stays (X Y : Int) : ∀ n, gens 8 12 (blk X Y) n = blk X Y
  | 0 => rfl
  | n + 1 => by rw [gens, blk_stays X Y n, blk_still]
/-- How much going on makes. -/
def most13 : Nat → Nat | 0 => 1 | k + 1 => 14 + 13 * most13 k
def most4 : Nat → Nat | 0 => 1 | k + 1 => 14 + 4 * most4 k
theorem flats_len {α : Type} (f : Nat → List α) (m : Nat) (h : ∀ i, (f i).length ≤ m) : ∀ n, ((List.range n).flatMap f).length ≤ n * m
  | 0 => by simp
  | n + 1 => by
    have := flats_len f m h n
    have := h n
    rw [List.range_succ, List.flatMap_append]
    simp only [List.length_append, List.flatMap_cons, List.flatMap_nil, List.append_nil]
    rw [Nat.add_mul]; omega
theorem growNew_len (b l : Nat) : ∀ (k : Nat) (t : T) (j : Nat), (T.growNew b l k t j).length ≤ most13 k
  | 0, _, _ => by simp [T.growNew, most13]
  | k + 1, t, j => by
    have h1 := flats_len (fun i => if j = k + 3 then T.nineN t i :: T.growNew b l k (T.nineN t i) (j - 1) else [T.nineC t i]) (1 + most13 k) (fun i => by
      have := growNew_len b l k (T.nineN t i) (j - 1)
      split
      · simp only [List.length_cons]; omega
      · simp only [List.length_singleton]; omega) 9
    have h2 := flats_len (fun i => T.quad (T.mid b l k t j) i :: T.growNew b l k (T.quad (T.mid b l k t j) i) (T.jj k j)) (1 + most13 k) (fun i => by
      have := growNew_len b l k (T.quad (T.mid b l k t j) i) (T.jj k j)
      simp only [List.length_cons]; omega) 4
    simp only [T.growNew, List.length_append, List.length_singleton, most13]
    omega
theorem growNew_len0 (b l : Nat) : ∀ (k : Nat) (t : T), (T.growNew b l k t 0).length ≤ most4 k
  | 0, _ => by simp [T.growNew, most4]
  | k + 1, t => by
    have hn : ¬ (0 = k + 3) := by omega
    have hj : T.jj k 0 = 0 := by unfold T.jj; rw [if_neg hn]
    have h1 := flats_len (fun i => if 0 = k + 3 then T.nineN t i :: T.growNew b l k (T.nineN t i) (0 - 1) else [T.nineC t i]) 1 (fun i => by
      rw [if_neg hn]; simp) 9
    have h2 := flats_len (fun i => T.quad (T.mid b l k t 0) i :: T.growNew b l k (T.quad (T.mid b l k t 0) i) (T.jj k 0)) (1 + most4 k) (fun i => by
      rw [hj]
      have := growNew_len0 b l k (T.quad (T.mid b l k t 0) i)
      simp only [List.length_cons]; omega) 4
    simp only [T.growNew, List.length_append, List.length_singleton, most4]
    omega
end Go.Qm
