/-
  Squares of twice the width: plain.
-/
import Derived.Test.YtphnadpmpcifoaaDoorLife
namespace Go.Qm
def spC (t k X Y : Nat) : Bool := decide (4 ≤ X ∧ X < 12 ∧ 4 ≤ Y ∧ Y < 12 ∧ 8 * (Y - 4) + (X - 4) < k) && t.testBit (8 * (Y - 4) + (X - 4))
/-- One of four tiles, in whose middle the first cells of a tile are. -/
def spK (t k q : Nat) : Nat := bitsOf (fun i => spC t k (8 * (q % 2) + i % 8) (8 * (q / 2) + i / 8)) 64
theorem spK_lt (t k q : Nat) : spK t k q < 18446744073709551616 := bitsOf_lt _ 64
theorem spK_bit (t k q i : Nat) : (spK t k q).testBit i = (decide (i < 64) && spC t k (8 * (q % 2) + i % 8) (8 * (q / 2) + i / 8)) := bitsOf_bit _ 64 i
theorem spK_zero (t q : Nat) : spK t 0 q = 0 := by
  apply Nat.eq_of_testBit_eq
  intro i
  rw [spK_bit]
  simp [spC]
def spQ (k : Nat) : Nat := (k % 8 + 4) / 8 + (k / 8 + 4) / 8 * 2
def spS (k : Nat) : Nat := 8 * ((k / 8 + 4) % 8) + (k % 8 + 4) % 8
theorem spS_lt (k : Nat) : spS k < 64 := by unfold spS; omega
theorem spQ_lt {k : Nat} (hk : k < 64) : spQ k < 4 := by unfold spQ; omega
theorem sp_else {t k q : Nat} (hk : k < 64) (hq : q < 4) (h : q ≠ spQ k) : spK t (k + 1) q = spK t k q := by
  apply Nat.eq_of_testBit_eq
  intro i
  rw [spK_bit, spK_bit]
  by_cases hi : i < 64
  · simp only [hi, decide_true, Bool.true_and]
    unfold spC
    unfold spQ at h
    have e : (4 ≤ 8 * (q % 2) + i % 8 ∧ 8 * (q % 2) + i % 8 < 12 ∧ 4 ≤ 8 * (q / 2) + i / 8 ∧ 8 * (q / 2) + i / 8 < 12 ∧ 8 * (8 * (q / 2) + i / 8 - 4) + (8 * (q % 2) + i % 8 - 4) < k + 1) ↔ (4 ≤ 8 * (q % 2) + i % 8 ∧ 8 * (q % 2) + i % 8 < 12 ∧ 4 ≤ 8 * (q / 2) + i / 8 ∧ 8 * (q / 2) + i / 8 < 12 ∧ 8 * (8 * (q / 2) + i / 8 - 4) + (8 * (q % 2) + i % 8 - 4) < k) := by
      have : q = 0 ∨ q = 1 ∨ q = 2 ∨ q = 3 := by omega
      rcases this with rfl | rfl | rfl | rfl <;> omega
    simp only [e]
  · simp [hi]
theorem sp_step {t k : Nat} (hk : k < 64) : spK t k (spQ k) ||| (t / 2 ^ k % 2) * 2 ^ spS k = spK t (k + 1) (spQ k) := by
  apply Nat.eq_of_testBit_eq
  intro i
  have hs := spS_lt k
  have hq := spQ_lt hk
  rw [Nat.testBit_or, spK_bit, spK_bit, bit_div]
  have e1 : (b2n (t.testBit k) * 2 ^ spS k).testBit i = (decide (i = spS k) && t.testBit k) := by
    cases t.testBit k
    · simp [b2n]
    · simp only [b2n, if_true, Nat.one_mul, Nat.testBit_two_pow, Bool.and_true]
      by_cases h : i = spS k
      · simp [h]
      · have : ¬ spS k = i := fun e => h e.symm
        simp [h, this]
  rw [e1]
  by_cases hi : i < 64
  · simp only [hi, decide_true, Bool.true_and]
    unfold spC
    generalize hqq : spQ k = q at *
    unfold spQ at hqq
    by_cases he : i = spS k
    · have h2 : 4 ≤ 8 * (q % 2) + i % 8 ∧ 8 * (q % 2) + i % 8 < 12 ∧ 4 ≤ 8 * (q / 2) + i / 8 ∧ 8 * (q / 2) + i / 8 < 12 ∧ 8 * (8 * (q / 2) + i / 8 - 4) + (8 * (q % 2) + i % 8 - 4) = k := by
        unfold spS at he
        have : q = 0 ∨ q = 1 ∨ q = 2 ∨ q = 3 := by omega
        rcases this with rfl | rfl | rfl | rfl <;> omega
      obtain ⟨a1, a2, a3, a4, a5⟩ := h2
      rw [a5]
      simp [he, a1, a2, a3, a4]
      simp [← he, a1, a2, a3, a4]
    · have e : (4 ≤ 8 * (q % 2) + i % 8 ∧ 8 * (q % 2) + i % 8 < 12 ∧ 4 ≤ 8 * (q / 2) + i / 8 ∧ 8 * (q / 2) + i / 8 < 12 ∧ 8 * (8 * (q / 2) + i / 8 - 4) + (8 * (q % 2) + i % 8 - 4) < k + 1) ↔ (4 ≤ 8 * (q % 2) + i % 8 ∧ 8 * (q % 2) + i % 8 < 12 ∧ 4 ≤ 8 * (q / 2) + i / 8 ∧ 8 * (q / 2) + i / 8 < 12 ∧ 8 * (8 * (q / 2) + i / 8 - 4) + (8 * (q % 2) + i % 8 - 4) < k) := by
        unfold spS at he
        have : q = 0 ∨ q = 1 ∨ q = 2 ∨ q = 3 := by omega
        rcases this with rfl | rfl | rfl | rfl <;> omega
      simp only [e, he, decide_false, Bool.false_and, Bool.or_false]
  · have : ¬ i = spS k := by omega
    simp [hi, this]
def spL (t k : Nat) : List Nat := [spK t k 0, spK t k 1, spK t k 2, spK t k 3]
theorem spL_get {t k q : Nat} (hq : q < 4) : (spL t k).getD q 0 = spK t k q := by
  have : q = 0 ∨ q = 1 ∨ q = 2 ∨ q = 3 := by omega
  rcases this with rfl | rfl | rfl | rfl <;> rfl
theorem spL_step {t k : Nat} (hk : k < 64) : (spL t k).set (spQ k) (spK t k (spQ k) ||| (t / 2 ^ k % 2) * 2 ^ spS k) = spL t (k + 1) := by
  have hq := spQ_lt hk
  rw [sp_step hk]
  have e := fun q (h4 : q < 4) (h : q ≠ spQ k) => sp_else (t := t) hk h4 h
  generalize spQ k = q at *
  have : q = 0 ∨ q = 1 ∨ q = 2 ∨ q = 3 := by omega
  rcases this with rfl | rfl | rfl | rfl
  · simp [spL, e 1 (by omega) (by omega), e 2 (by omega) (by omega), e 3 (by omega) (by omega)]
  · simp [spL, e 0 (by omega) (by omega), e 2 (by omega) (by omega), e 3 (by omega) (by omega)]
  · simp [spL, e 0 (by omega) (by omega), e 1 (by omega) (by omega), e 3 (by omega) (by omega)]
  · simp [spL, e 0 (by omega) (by omega), e 1 (by omega) (by omega), e 2 (by omega) (by omega)]
namespace T
/-- Twice as wide. -/
def wide (t : T) : T := if t.lev = 3 then .node (.leaf (spK t.cells 64 0)) (.leaf (spK t.cells 64 1)) (.leaf (spK t.cells 64 2)) (.leaf (spK t.cells 64 3))
  else
    let e := empty (t.lev - 4)
    .node (.node e e e t.k0) (.node e e t.k1 e) (.node e t.k2 e e) (.node t.k3 e e e)
def wideNew (t : T) : List T := if t.lev = 3 then [.leaf (spK t.cells 64 0), .leaf (spK t.cells 64 1), .leaf (spK t.cells 64 2), .leaf (spK t.cells 64 3), wide t]
  else
    let e := empty (t.lev - 4)
    emptyNew (t.lev - 4) ++ [.node e e e t.k0, .node e e t.k1 e, .node e t.k2 e e, .node t.k3 e e e, wide t]
theorem leaf_lt_ok {n : Nat} (h : n < 18446744073709551616) : (T.leaf n).ok := h
attribute [local irreducible] spK T.lev T.k0 T.k1 T.k2 T.k3 T.ok empty
theorem wide_ok {t : T} (ho : t.ok) : (wide t).ok ∧ (wide t).lev = t.lev + 1 := by
  have l3 := t.lev_ge
  unfold wide
  split
  · rename_i h
    exact ⟨node_ok (leaf_lt_ok (spK_lt _ _ _)) (leaf_lt_ok (spK_lt _ _ _)) (leaf_lt_ok (spK_lt _ _ _)) (leaf_lt_ok (spK_lt _ _ _)) (by simp only [lev]) (by simp only [lev]) (by simp only [lev]), by simp only [lev, h]⟩
  · rename_i h
    have h4 : 4 ≤ t.lev := by omega
    obtain ⟨o0, o1, o2, o3⟩ := kid_ok ho h4
    obtain ⟨v0, v1, v2, v3⟩ := kid_lev ho h4
    have eo := empty_ok (t.lev - 4)
    have el : (empty (t.lev - 4)).lev = t.lev - 1 := by rw [empty_lev]; omega
    have w0 : t.k0.lev = (empty (t.lev - 4)).lev := by rw [el]; omega
    have w1 : t.k1.lev = (empty (t.lev - 4)).lev := by rw [el]; omega
    have w2 : t.k2.lev = (empty (t.lev - 4)).lev := by rw [el]; omega
    have w3 : t.k3.lev = (empty (t.lev - 4)).lev := by rw [el]; omega
    refine ⟨node_ok (node_ok eo eo eo o0 rfl rfl w0) (node_ok eo eo o1 eo rfl w1 rfl) (node_ok eo o2 eo eo w2 rfl rfl) (node_ok o3 eo eo eo w3.symm w3.symm w3.symm) (by simp only [lev]) (by simp only [lev]) (by simp only [lev, w3]), ?_⟩
    simp only [lev, el]; omega
end T
end Go.Qm
