/-
  Fields of a tile's rows, cell by cell: plain.
-/
import Derived.Test.YtphnadpmpcifoaaDoorFld
namespace Go.Qm

/-- A cell of rows. -/
def fc (f : List Nat) (x y : Nat) : Bool := (f.getD y 0).testBit x
def bitsOf (c : Nat → Bool) : Nat → Nat
  | 0 => 0
  | k + 1 => bitsOf c k + (if c k then 2 ^ k else 0)
theorem bitsOf_lt (c : Nat → Bool) : ∀ k, bitsOf c k < 2 ^ k
  | 0 => Nat.one_pos
  | k + 1 => by
    have := bitsOf_lt c k
    simp only [bitsOf, Nat.pow_succ]; split <;> omega
theorem bitsOf_bit (c : Nat → Bool) : ∀ k i, (bitsOf c k).testBit i = (decide (i < k) && c i)
  | 0, i => by simp [bitsOf]
  | k + 1, i => by
    have hl := bitsOf_lt c k
    have e : bitsOf c (k + 1) = 2 ^ k * (if c k then 1 else 0) + bitsOf c k := by simp only [bitsOf]; split <;> omega
    rw [e, Nat.testBit_two_pow_mul_add _ hl, bitsOf_bit c k i]
    by_cases hi : i < k
    · have : i < k + 1 := by omega
      simp [hi, this]
    · by_cases he : i = k
      · subst he
        cases hc : c i <;> simp [hc]
      · have h1 : ¬ i < k + 1 := by omega
        simp only [hi, h1, decide_false, Bool.false_and, if_false]
        split
        · rw [show i - k = (i - k - 1) + 1 from by omega]; simp [Nat.testBit_succ]
        · simp
/-- The rows of cells. -/
def fldOf (c : Nat → Nat → Bool) : List Nat := (List.range 24).map fun y => bitsOf (fun x => c x y) 32
theorem fldOf_ok (c : Nat → Nat → Bool) : FldOk (fldOf c) := by
  refine ⟨by simp [fldOf], fun r hr => ?_⟩
  obtain ⟨y, _, rfl⟩ := List.mem_map.1 hr
  exact bitsOf_lt _ 32
theorem fc_fldOf (c : Nat → Nat → Bool) (x y : Nat) : fc (fldOf c) x y = (decide (x < 32 ∧ y < 24) && c x y) := by
  unfold fc fldOf
  rw [List.getD_eq_getElem?_getD, List.getElem?_map]
  by_cases hy : y < 24
  · rw [List.getElem?_range hy]; simp [bitsOf_bit, hy]
  · rw [List.getElem?_eq_none (by simpa using hy)]; simp [hy]
theorem getD_lt {f : List Nat} (h : FldOk f) (i : Nat) : f.getD i 0 < 4294967296 := by
  rw [List.getD_eq_getElem?_getD]
  cases hi : f[i]? with
  | none => simp
  | some q => exact h.2 q (List.mem_of_getElem? hi)
theorem fld_ext {f g : List Nat} (hf : FldOk f) (hg : FldOk g) (h : ∀ x y, x < 32 → y < 24 → fc f x y = fc g x y) : f = g := by
  apply List.ext_getElem (by rw [hf.1, hg.1])
  intro y h1 h2
  have e1 : f.getD y 0 = f[y] := by rw [List.getD_eq_getElem?_getD, List.getElem?_eq_getElem h1]; rfl
  have e2 : g.getD y 0 = g[y] := by rw [List.getD_eq_getElem?_getD, List.getElem?_eq_getElem h2]; rfl
  rw [← e1, ← e2]
  apply Nat.eq_of_testBit_eq
  intro x
  by_cases hx : x < 32
  · exact h x y hx (by rw [← hf.1]; exact h1)
  · have hp : (2 : Nat) ^ 32 ≤ 2 ^ x := Nat.pow_le_pow_right (by omega) (by omega)
    rw [Nat.testBit_lt_two_pow (Nat.lt_of_lt_of_le (getD_lt hf y) hp), Nat.testBit_lt_two_pow (Nat.lt_of_lt_of_le (getD_lt hg y) hp)]
theorem fld_of {f : List Nat} (hf : FldOk f) {c : Nat → Nat → Bool} (h : ∀ x y, x < 32 → y < 24 → fc f x y = c x y) : f = fldOf c :=
  fld_ext hf (fldOf_ok c) fun x y hx hy => by rw [fc_fldOf, h x y hx hy]; simp [hx, hy]

/-- A tile's cell, where it lies. -/
def tc (t x y X Y : Nat) : Bool := decide (x ≤ X ∧ X < x + 8 ∧ y ≤ Y ∧ Y < y + 8) && t.testBit (8 * (Y - y) + (X - x))
theorem fc_set {f : List Nat} {i r : Nat} (hi : i < f.length) (x y : Nat) : fc (f.set i r) x y = if y = i then r.testBit x else fc f x y := by
  unfold fc
  rw [List.getD_eq_getElem?_getD, List.getD_eq_getElem?_getD, List.getElem?_set]
  by_cases h : i = y
  · subst h; simp [hi]
  · rw [if_neg h, if_neg (fun e => h e.symm)]
theorem row_bit (t k x X : Nat) : ((t / 2 ^ (8 * k) % 256) * 2 ^ x).testBit X = (decide (x ≤ X ∧ X < x + 8) && t.testBit (8 * k + (X - x))) := by
  rw [show t / 2 ^ (8 * k) % 256 * 2 ^ x = (t / 2 ^ (8 * k) % 256) <<< x from (Nat.shiftLeft_eq _ _).symm, Nat.testBit_shiftLeft]
  rw [show (256 : Nat) = 2 ^ 8 from rfl, Nat.testBit_mod_two_pow, Nat.testBit_div_two_pow]
  by_cases h1 : x ≤ X
  · by_cases h2 : X < x + 8
    · have : X - x < 8 := by omega
      simp [h1, h2, this, Nat.add_comm]
    · have : ¬ X - x < 8 := by omega
      simp [h1, h2, this]
  · simp [h1]
theorem fc_layN {f : List Nat} (t x y : Nat) (hl : f.length = 24) (hy : y ≤ 16) (X Y : Nat) : ∀ k, k ≤ 8 → fc (layN f t x y k) X Y = (fc f X Y || (decide (x ≤ X ∧ X < x + 8 ∧ y ≤ Y ∧ Y < y + k) && t.testBit (8 * (Y - y) + (X - x))))
  | 0, _ => by
    have : ¬ (x ≤ X ∧ X < x + 8 ∧ y ≤ Y ∧ Y < y + 0) := by omega
    simp only [layN, this, decide_false, Bool.false_and, Bool.or_false]
  | k + 1, hk => by
    have ih := fc_layN t x y hl hy X Y k (by omega)
    rw [layN, fc_set (by rw [layN_len]; omega)]
    by_cases he : Y = y + k
    · subst he
      rw [if_pos rfl, Nat.testBit_or, row_bit]
      have e1 : ((layN f t x y k).getD (y + k) 0).testBit X = fc (layN f t x y k) X (y + k) := rfl
      have h1 : ¬ (x ≤ X ∧ X < x + 8 ∧ y ≤ y + k ∧ y + k < y + k) := by omega
      rw [e1, ih, show y + k - y = k from by omega]
      have h2 : (x ≤ X ∧ X < x + 8 ∧ y ≤ y + k ∧ y + k < y + (k + 1)) ↔ (x ≤ X ∧ X < x + 8) := by omega
      simp only [h1, h2, decide_false, Bool.false_and, Bool.or_false]
    · rw [if_neg he, ih]
      have h2 : (x ≤ X ∧ X < x + 8 ∧ y ≤ Y ∧ Y < y + (k + 1)) ↔ (x ≤ X ∧ X < x + 8 ∧ y ≤ Y ∧ Y < y + k) := by omega
      simp only [h2]
def zeroF : List Nat := List.replicate 24 0
theorem zeroF_ok : FldOk zeroF := ⟨rfl, fun r hr => by rw [List.eq_of_mem_replicate hr]; decide⟩
theorem fc_zero (x y : Nat) : fc zeroF x y = false := by
  unfold fc zeroF
  rw [List.getD_eq_getElem?_getD, List.getElem?_replicate]; split <;> simp
/-- Four tiles' field. -/
def fourN (a b c d : Nat) : List Nat := layN (layN (layN (layN zeroF a 0 0 8) b 8 0 8) c 0 8 8) d 8 8 8
theorem fourN_ok (a b c d : Nat) : FldOk (fourN a b c d) := layN_ok (layN_ok (layN_ok (layN_ok zeroF_ok a 0 (by omega) 8) b 0 (by omega) 8) c 8 (by omega) 8) d 8 (by omega) 8
def fourC (a b c d x y : Nat) : Bool := tc a 0 0 x y || tc b 8 0 x y || tc c 0 8 x y || tc d 8 8 x y
theorem fc_fourN (a b c d x y : Nat) : fc (fourN a b c d) x y = fourC a b c d x y := by
  unfold fourN fourC tc
  rw [fc_layN _ _ _ (by simp [layN_len, zeroF]) (by omega) _ _ _ (Nat.le_refl 8), fc_layN _ _ _ (by simp [layN_len, zeroF]) (by omega) _ _ _ (Nat.le_refl 8), fc_layN _ _ _ (by simp [layN_len, zeroF]) (by omega) _ _ _ (Nat.le_refl 8), fc_layN _ _ _ (by simp [zeroF]) (by omega) _ _ _ (Nat.le_refl 8), fc_zero, Bool.false_or]
/-- A tile cut out of a field. -/
def cutN (f : List Nat) (x y : Nat) : Nat → Nat
  | 0 => 0
  | k + 1 => cutN f x y k ||| (f.getD (y + k) 0 / 2 ^ x % 256) * 2 ^ (8 * k)
theorem cutN_lt (f : List Nat) (x y : Nat) : ∀ k, k ≤ 8 → cutN f x y k < 2 ^ (8 * k)
  | 0, _ => Nat.one_pos
  | k + 1, hk => by
    have ih := cutN_lt f x y k (by omega)
    have h1 : f.getD (y + k) 0 / 2 ^ x % 256 < 256 := Nat.mod_lt _ (by omega)
    refine Nat.or_lt_two_pow (Nat.lt_of_lt_of_le ih (Nat.pow_le_pow_right (by omega) (by omega))) ?_
    rw [show 8 * (k + 1) = 8 + 8 * k from by omega, Nat.pow_add]
    exact Nat.mul_lt_mul_of_pos_right h1 (Nat.pow_pos (by omega))
theorem cutN_bit (f : List Nat) (x y i : Nat) : ∀ k, k ≤ 8 → (cutN f x y k).testBit i = (decide (i < 8 * k) && fc f (x + i % 8) (y + i / 8))
  | 0, _ => by simp [cutN]
  | k + 1, hk => by
    rw [cutN, Nat.testBit_or, cutN_bit f x y i k (by omega)]
    rw [show ∀ q, q * 2 ^ (8 * k) = q <<< (8 * k) from fun q => (Nat.shiftLeft_eq _ _).symm, Nat.testBit_shiftLeft, show (256 : Nat) = 2 ^ 8 from rfl, Nat.testBit_mod_two_pow, Nat.testBit_div_two_pow]
    by_cases h1 : i < 8 * k
    · have h2 : i < 8 * (k + 1) := by omega
      have h3 : ¬ i ≥ 8 * k := by omega
      simp [h1, h2, h3]
    · by_cases h2 : i < 8 * (k + 1)
      · have h3 : i ≥ 8 * k := by omega
        have h4 : i - 8 * k < 8 := by omega
        have e1 : i / 8 = k := by omega
        have e2 : i % 8 = i - 8 * k := by omega
        simp [h1, h2, h3, h4, e1, e2, fc, Nat.add_comm]
      · have h4 : ¬ i - 8 * k < 8 := by omega
        simp [h1, h2, h4]
/-- How many of the cells about one live. -/
def b2n (b : Bool) : Nat := if b then 1 else 0
def nbrF (c : Nat → Nat → Bool) (x y : Nat) : Nat :=
  b2n (c (x - 1) (y - 1)) + b2n (c x (y - 1)) + b2n (c (x + 1) (y - 1)) + (b2n (c (x - 1) (y + 1)) + b2n (c x (y + 1)) + b2n (c (x + 1) (y + 1))) + (b2n (c (x - 1) y) + b2n (c (x + 1) y))
def nextB (b l : Nat) (v : Bool) (n : Nat) : Bool := (if v then l else b).testBit n
def nextC (b l : Nat) (f : List Nat) (x y : Nat) : Bool := decide (1 ≤ x ∧ x < 23 ∧ 1 ≤ y ∧ y < 23) && nextB b l (fc f x y) (nbrF (fc f) x y)
def nextN (b l : Nat) (f : List Nat) : List Nat := fldOf (nextC b l f)
def pop3 (z : Nat) : Nat := z % 2 + z / 2 % 2 + z / 4 % 2
theorem bit_div (r k : Nat) : r / 2 ^ k % 2 = b2n (r.testBit k) := by
  rw [Nat.testBit_eq_decide_div_mod_eq]
  by_cases h : r / 2 ^ k % 2 = 1
  · simp [h, b2n]
  · have : r / 2 ^ k % 2 = 0 := by omega
    simp [this, b2n]
theorem pop3_7 (r x : Nat) (hx : 1 ≤ x) : pop3 (r / 2 ^ (x - 1) % 8) = b2n (r.testBit (x - 1)) + b2n (r.testBit x) + b2n (r.testBit (x + 1)) := by
  obtain ⟨k, rfl⟩ : ∃ k, x = k + 1 := ⟨x - 1, by omega⟩
  simp only [Nat.add_sub_cancel]
  rw [← bit_div, ← bit_div, ← bit_div]
  have e1 : r / 2 ^ (k + 1) = r / 2 ^ k / 2 := by rw [Nat.pow_succ, Nat.div_div_eq_div_mul]
  have e2 : r / 2 ^ (k + 1 + 1) = r / 2 ^ k / 4 := by rw [Nat.pow_succ, Nat.pow_succ, Nat.mul_assoc, Nat.div_div_eq_div_mul]
  rw [e1, e2]
  unfold pop3
  omega
theorem and5 (q : Nat) : q &&& 5 = q % 2 + q / 4 % 2 * 4 := by
  have h : ∀ z, z < 8 → z &&& 5 = z % 2 + z / 4 % 2 * 4 := by decide
  have e : q &&& 5 = (q % 8) &&& 5 := by
    apply Nat.eq_of_testBit_eq
    intro i
    rw [Nat.testBit_and, Nat.testBit_and, show (8 : Nat) = 2 ^ 3 from rfl, Nat.testBit_mod_two_pow]
    by_cases hi : i < 3
    · simp [hi]
    · have h8 : 2 ^ 3 ≤ 2 ^ i := Nat.pow_le_pow_right (by omega) (by omega)
      rw [Nat.testBit_lt_two_pow (x := 5) (i := i) (by omega)]; simp
  rw [e, h _ (Nat.mod_lt _ (by omega))]
  omega
theorem pop3_5 (r x : Nat) (hx : 1 ≤ x) : pop3 (r / 2 ^ (x - 1) &&& 5) = b2n (r.testBit (x - 1)) + b2n (r.testBit (x + 1)) := by
  obtain ⟨k, rfl⟩ : ∃ k, x = k + 1 := ⟨x - 1, by omega⟩
  simp only [Nat.add_sub_cancel]
  rw [← bit_div, ← bit_div, and5]
  have e2 : r / 2 ^ (k + 1 + 1) = r / 2 ^ k / 4 := by rw [Nat.pow_succ, Nat.pow_succ, Nat.mul_assoc, Nat.div_div_eq_div_mul]
  rw [e2]
  unfold pop3
  omega
theorem pop3_le (z : Nat) : pop3 z ≤ 3 := by unfold pop3; omega
theorem and5_lt (q : Nat) : q &&& 5 < 8 := by rw [and5]; omega
theorem b2n_le (b : Bool) : b2n b ≤ 1 := by cases b <;> decide
theorem nbrF_le (c : Nat → Nat → Bool) (x y : Nat) : nbrF c x y ≤ 8 := by
  unfold nbrF
  have := b2n_le (c (x - 1) (y - 1)); have := b2n_le (c x (y - 1)); have := b2n_le (c (x + 1) (y - 1)); have := b2n_le (c (x - 1) (y + 1)); have := b2n_le (c x (y + 1)); have := b2n_le (c (x + 1) (y + 1)); have := b2n_le (c (x - 1) y); have := b2n_le (c (x + 1) y)
  omega
theorem nbrF_pop (f : List Nat) (x y : Nat) (hx : 1 ≤ x) : pop3 (f.getD (y - 1) 0 / 2 ^ (x - 1) % 8) + pop3 (f.getD (y + 1) 0 / 2 ^ (x - 1) % 8) + pop3 (f.getD y 0 / 2 ^ (x - 1) &&& 5) = nbrF (fc f) x y := by
  rw [pop3_7 _ _ hx, pop3_7 _ _ hx, pop3_5 _ _ hx]; rfl
/-- A field half made. -/
def partC (c : Nat → Nat → Bool) (X Y x y : Nat) : Bool := decide (y < Y ∨ y = Y ∧ x < X) && c x y
theorem part_skip {c : Nat → Nat → Bool} {X Y : Nat} (h : c X Y = false) : fldOf (partC c (X + 1) Y) = fldOf (partC c X Y) := by
  unfold fldOf
  refine List.map_congr_left fun y _ => ?_
  congr 1
  funext x
  unfold partC
  by_cases he : x = X ∧ y = Y
  · obtain ⟨rfl, rfl⟩ := he; simp [h]
  · have : (y < Y ∨ y = Y ∧ x < X + 1) ↔ (y < Y ∨ y = Y ∧ x < X) := by omega
    simp only [this]
theorem part_set {c : Nat → Nat → Bool} {X Y : Nat} (hX : X < 32) (hY : Y < 24) (h : c X Y = true) : (fldOf (partC c X Y)).set Y ((fldOf (partC c X Y)).getD Y 0 ||| 2 ^ X) = fldOf (partC c (X + 1) Y) := by
  have hok := fldOf_ok (partC c X Y)
  have hp : 2 ^ X < 2 ^ 32 := Nat.pow_lt_pow_right (by omega) hX
  refine fld_of ⟨by simp [hok.1], fun r hr => ?_⟩ fun x y hx hy => ?_
  · rcases List.mem_or_eq_of_mem_set hr with hr | rfl
    · exact hok.2 r hr
    · exact Nat.or_lt_two_pow (n := 32) (getD_lt hok _) hp
  · rw [fc_set (by rw [hok.1]; exact hY)]
    by_cases he : y = Y
    · subst he
      rw [if_pos rfl, Nat.testBit_or]
      have e1 : ((fldOf (partC c X y)).getD y 0).testBit x = fc (fldOf (partC c X y)) x y := rfl
      rw [e1, fc_fldOf, Nat.testBit_two_pow]
      unfold partC
      by_cases hxx : X = x
      · subst hxx; simp [h]
      · by_cases h3 : x < X
        · have h4 : x < X + 1 := by omega
          simp [hx, hy, hxx, h3, h4]
        · have h4 : ¬ x < X + 1 := by omega
          simp [hx, hy, hxx, h3, h4]
    · rw [if_neg he, fc_fldOf]
      have : (y < Y ∨ y = Y ∧ x < X + 1) ↔ (y < Y ∨ y = Y ∧ x < X) := by omega
      simp [partC, hx, hy, he]
theorem part_row {c : Nat → Nat → Bool} {Y : Nat} (hc : ∀ x y, c x y = true → x < 23 ∧ 1 ≤ x) : fldOf (partC c 1 (Y + 1)) = fldOf (partC c 23 Y) := by
  unfold fldOf
  refine List.map_congr_left fun y _ => ?_
  congr 1
  funext x
  unfold partC
  cases h : c x y with
  | false => simp
  | true =>
    have := hc x y h
    have : (y < Y + 1 ∨ y = Y + 1 ∧ x < 1) ↔ (y < Y ∨ y = Y ∧ x < 23) := by omega
    simp only [this]
theorem part_first {c : Nat → Nat → Bool} (hc : ∀ x y, c x y = true → 1 ≤ x ∧ 1 ≤ y) : fldOf (partC c 1 1) = zeroF := by
  symm
  refine fld_of zeroF_ok fun x y _ _ => ?_
  rw [fc_zero]
  unfold partC
  cases h : c x y with
  | false => simp
  | true =>
    have := hc x y h
    have : ¬ (y < 1 ∨ y = 1 ∧ x < 1) := by omega
    simp only [this, decide_false, Bool.false_and]
theorem part_last {c : Nat → Nat → Bool} (hc : ∀ x y, c x y = true → y < 23) : fldOf (partC c 1 23) = fldOf c := by
  unfold fldOf
  refine List.map_congr_left fun y _ => ?_
  congr 1
  funext x
  unfold partC
  cases h : c x y with
  | false => simp
  | true =>
    have := hc x y h
    have : (y < 23 ∨ y = 23 ∧ x < 1) := by omega
    simp only [this, decide_true, Bool.true_and]
theorem nextC_in {b l : Nat} {f : List Nat} {x y : Nat} (h : nextC b l f x y = true) : 1 ≤ x ∧ x < 23 ∧ 1 ≤ y ∧ y < 23 := by
  unfold nextC at h
  simp only [Bool.and_eq_true, decide_eq_true_eq] at h
  exact h.1
end Go.Qm
