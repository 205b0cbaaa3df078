/-
  Cells laid into a square: plain.
-/
import Derived.Test.YtphnadpmpcifoaaDoorLife
namespace Go.Qm
/-- Cells of numbers. -/
def fieldN (z : Nat → Nat) (w : Nat) : Nat → List Bool
  | 0 => List.replicate (w * w) false
  | k + 1 => (fieldN z w k).set (w * (z k / 64 % w) + z k % w) true
theorem fieldN_len (z : Nat → Nat) (w : Nat) : ∀ k, (fieldN z w k).length = w * w
  | 0 => by simp [fieldN]
  | k + 1 => by simp [fieldN, fieldN_len z w k]
theorem field_at (z w : Nat) (hw : 0 < w) : w * (z / 64 % w) + z % w < w * w := by
  have h1 : z / 64 % w < w := Nat.mod_lt _ hw
  have h2 : z % w < w := Nat.mod_lt _ hw
  have h3 : w * (z / 64 % w + 1) ≤ w * w := Nat.mul_le_mul_left _ h1
  rw [Nat.mul_add, Nat.mul_one] at h3
  omega
theorem count_set : ∀ (l : List Bool) (i : Nat), (l.set i true).count true ≤ l.count true + 1
  | [], i => by simp
  | a :: l, 0 => by cases a <;> simp
  | a :: l, i + 1 => by have := count_set l i; cases a <;> simp <;> omega
theorem fieldN_count (z : Nat → Nat) (w : Nat) : ∀ k, (fieldN z w k).count true ≤ k
  | 0 => by simp [fieldN, List.count_replicate]
  | k + 1 => by have := count_set (fieldN z w k) (w * (z k / 64 % w) + z k % w); have := fieldN_count z w k; simp only [fieldN]; omega
/-- A square of cells, m its level, w its width. -/
def laidT (m w : Nat) (c : Nat → Bool) : Nat → T
  | 0 => T.empty (m - 3)
  | i + 1 => if c i then (laidT m w c i).set (i % w) (i / w) true else laidT m w c i
def laidNew (m w : Nat) (c : Nat → Bool) : Nat → List T
  | 0 => T.emptyNew (m - 3)
  | i + 1 => if c i then laidNew m w c i ++ (laidT m w c i).setNew (i % w) (i / w) true else laidNew m w c i
theorem laidT_lev {m w : Nat} (c : Nat → Bool) (hm : 3 ≤ m) (hw : w = 2 ^ m) : ∀ i, i ≤ w * w → (laidT m w c i).lev = m ∧ (laidT m w c i).ok
  | 0, _ => ⟨by rw [laidT, T.empty_lev]; omega, T.empty_ok _⟩
  | i + 1, h => by
    obtain ⟨h1, h2⟩ := laidT_lev c hm hw i (by omega)
    have hw0 : 0 < w := by rw [hw]; exact Nat.pow_pos (by omega)
    rw [laidT]
    split
    · exact ⟨by rw [T.set_lev _ _ _ _ h2, h1], T.set_ok _ _ _ _ h2 (by rw [h1, ← hw]; exact Nat.mod_lt _ hw0) (by rw [h1, ← hw]; exact Nat.div_lt_of_lt_mul h)⟩
    · exact ⟨h1, h2⟩
theorem laid_goods {room : Nat} {U ts : List T} {m w : Nat} (c : Nat → Bool) (h : Inv room U ts) (hm : 3 ≤ m) (hm2 : m ≤ 40) (hw : w = 2 ^ m) : ∀ i, i ≤ w * w → (∀ t ∈ laidNew m w c i, t ∈ U) →
    Inv room U (puts ts (laidNew m w c i)) ∧ laidT m w c i ∈ puts ts (laidNew m w c i)
  | 0, _, hu => by
    obtain ⟨g1, g2⟩ := T.emptyNew_goods h.reg (m - 3) (by omega)
    exact ⟨h.puts hu g1, g2⟩
  | i + 1, hi, hu => by
    have hw0 : 0 < w := by rw [hw]; exact Nat.pow_pos (by omega)
    obtain ⟨hl, _⟩ := laidT_lev c hm hw i (by omega)
    rw [laidNew] at hu ⊢
    rw [laidT]
    split at hu
    · rename_i hc
      obtain ⟨h1, h2⟩ := laid_goods c h hm hm2 hw i (by omega) fun t ht => hu t (List.mem_append_left _ ht)
      rw [if_pos hc, puts_app, if_pos hc]
      obtain ⟨g1, g2⟩ := T.setNew_goods h1.reg true (laidT m w c i) (i % w) (i / w) h2 (by rw [hl, ← hw]; exact Nat.mod_lt _ hw0) (by rw [hl, ← hw]; exact Nat.div_lt_of_lt_mul hi)
      exact ⟨h1.puts (fun t ht => hu t (List.mem_append_right _ ht)) g1, g2⟩
    · rename_i hc
      rw [if_neg hc, if_neg hc]
      exact laid_goods c h hm hm2 hw i (by omega) hu
theorem laidNew_mono {m w : Nat} (c : Nat → Bool) {t : T} : ∀ {j i : Nat}, i ≤ j → t ∈ laidNew m w c i → t ∈ laidNew m w c j
  | 0, i, h, ht => by obtain rfl : i = 0 := by omega
                      exact ht
  | j + 1, i, h, ht => by
    rcases Nat.lt_or_ge i (j + 1) with hj | hj
    · have := laidNew_mono c (j := j) (by omega) ht
      rw [laidNew]
      split
      · exact List.mem_append_left _ this
      · exact this
    · obtain rfl : i = j + 1 := by omega
      exact ht
theorem setNew_len (v : Bool) : ∀ (t : T) (x y : Nat), t.ok → (t.setNew x y v).length + 2 = t.lev
  | .leaf _, _, _, _ => by simp [T.setNew, T.lev]
  | .node a b c d, x, y, ⟨h1, h2, h3, h4, e1, e2, e3⟩ => by
    simp only [T.setNew]
    split <;> split
    · have := setNew_len v a x y h1; simp [T.lev]; omega
    · have := setNew_len v b (x - 2 ^ a.lev) y h2; simp [T.lev]; omega
    · have := setNew_len v c x (y - 2 ^ a.lev) h3; simp [T.lev]; omega
    · have := setNew_len v d (x - 2 ^ a.lev) (y - 2 ^ a.lev) h4; simp [T.lev]; omega
theorem emptyNew_len : ∀ k, (T.emptyNew k).length = k + 1
  | 0 => rfl
  | k + 1 => by simp [T.emptyNew, emptyNew_len k]
theorem laidNew_len {m w : Nat} (l : List Bool) (hm : 3 ≤ m) (hw : w = 2 ^ m) (hl : l.length = w * w) : ∀ i, i ≤ w * w → (laidNew m w (fun i => l.getD i false) i).length ≤ (m - 2) * ((l.take i).count true + 1)
  | 0, _ => by simp [laidNew, emptyNew_len]; omega
  | i + 1, hi => by
    have ih := laidNew_len l hm hw hl i (by omega)
    obtain ⟨h1, h2⟩ := laidT_lev (fun i => l.getD i false) hm hw i (by omega)
    have hlt : i < l.length := by omega
    have e : l.take (i + 1) = l.take i ++ [l[i]] := by rw [List.take_add_one, List.getElem?_eq_getElem hlt]; rfl
    have ec : l.getD i false = l[i] := by rw [List.getD_eq_getElem?_getD, List.getElem?_eq_getElem hlt]; rfl
    rw [laidNew, e]
    simp only [ec]
    split
    · rename_i hc
      have := setNew_len true (laidT m w (fun i => l.getD i false) i) (i % w) (i / w) h2
      rw [hc]
      simp only [List.length_append, List.count_append, List.count_singleton, beq_self_eq_true, if_true]
      rw [h1] at this
      have e2 : (m - 2) * ((l.take i).count true + 1 + 1) = (m - 2) * ((l.take i).count true + 1) + (m - 2) := by rw [Nat.mul_add (m - 2) _ 1, Nat.mul_one]
      omega
    · refine Nat.le_trans ih (Nat.mul_le_mul_left _ ?_)
      rw [List.count_append]
      omega
end Go.Qm
