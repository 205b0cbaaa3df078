/-
  What goes on, as trees: plain.
-/
import Derived.Test.YtphnadpmpcifoaaDoorTOps
import Derived.Test.YtphnadpmpcifoaaDoorFld2
namespace Go.Qm
def genN (b l : Nat) (f : List Nat) : Nat → List Nat
  | 0 => f
  | n + 1 => nextN b l (genN b l f n)
theorem genN_ok {b l : Nat} {f : List Nat} (h : FldOk f) : ∀ n, FldOk (genN b l f n)
  | 0 => h
  | _ + 1 => fldOf_ok _
namespace T
def k0 : T → T | .node a _ _ _ => a | t => t
def k1 : T → T | .node _ b _ _ => b | t => t
def k2 : T → T | .node _ _ c _ => c | t => t
def k3 : T → T | .node _ _ _ d => d | t => t
def cells : T → Nat | .leaf t => t | _ => 0
theorem eta : ∀ {t : T}, 4 ≤ t.lev → t = .node t.k0 t.k1 t.k2 t.k3
  | .leaf _, h => by simp [lev] at h
  | .node _ _ _ _, _ => rfl
theorem eta3 : ∀ {t : T}, t.lev = 3 → t = .leaf t.cells
  | .leaf _, _ => rfl
  | .node a _ _ _, h => by have := a.lev_ge; simp [lev] at h; omega
theorem kid_lev {t : T} (ho : t.ok) (h : 4 ≤ t.lev) : t.k0.lev + 1 = t.lev ∧ t.k1.lev + 1 = t.lev ∧ t.k2.lev + 1 = t.lev ∧ t.k3.lev + 1 = t.lev := by
  cases t with
  | leaf _ => simp [lev] at h
  | node a b c d =>
    obtain ⟨-, -, -, -, e1, e2, e3⟩ := ho
    simp only [k0, k1, k2, k3, lev, e1, e2, e3, and_self]
theorem kid_ok {t : T} (ho : t.ok) (h : 4 ≤ t.lev) : t.k0.ok ∧ t.k1.ok ∧ t.k2.ok ∧ t.k3.ok := by
  cases t with
  | leaf _ => simp [lev] at h
  | node a b c d => exact ⟨ho.1, ho.2.1, ho.2.2.1, ho.2.2.2.1⟩
theorem node_ok {a b c d : T} (ha : a.ok) (hb : b.ok) (hc : c.ok) (hd : d.ok) (e1 : b.lev = a.lev) (e2 : c.lev = a.lev) (e3 : d.lev = a.lev) : (T.node a b c d).ok := ⟨ha, hb, hc, hd, e1, e2, e3⟩
/-- The middle of four. -/
def ctr (a b c d : T) : T := if a.lev = 3 then .leaf (cutN (fourN a.cells b.cells c.cells d.cells) 4 4 8) else .node a.k3 b.k2 c.k1 d.k0
/-- One of a square's four. -/
def kid (t : T) (y x : Nat) : T := if y = 0 then (if x = 0 then t.k0 else t.k1) else (if x = 0 then t.k2 else t.k3)
/-- The squares of a quarter of the width. -/
def gr (t : T) (y x : Nat) : T := kid (kid t (y / 2) (x / 2)) (y % 2) (x % 2)
def nineN (t : T) (i : Nat) : T := .node (gr t (i / 3) (i % 3)) (gr t (i / 3) (i % 3 + 1)) (gr t (i / 3 + 1) (i % 3)) (gr t (i / 3 + 1) (i % 3 + 1))
def nineC (t : T) (i : Nat) : T := ctr (gr t (i / 3) (i % 3)) (gr t (i / 3) (i % 3 + 1)) (gr t (i / 3 + 1) (i % 3)) (gr t (i / 3 + 1) (i % 3 + 1))
def quad (m : Nat → T) (i : Nat) : T := .node (m (i % 2 + i / 2 * 3)) (m (i % 2 + i / 2 * 3 + 1)) (m (i % 2 + i / 2 * 3 + 3)) (m (i % 2 + i / 2 * 3 + 4))
/-- The middle of a square of level k + 4, 2 ^ j generations on. -/
def grow (b l : Nat) : Nat → T → Nat → T
  | 0, t, j => .leaf (cutN (genN b l (fourN t.k0.cells t.k1.cells t.k2.cells t.k3.cells) (2 ^ j)) 4 4 8)
  | k + 1, t, j =>
    let mid := fun i => if j = k + 3 then grow b l k (nineN t i) (j - 1) else nineC t i
    let out := fun i => grow b l k (quad mid i) (if j = k + 3 then j - 1 else j)
    .node (out 0) (out 1) (out 2) (out 3)
def mid (b l k : Nat) (t : T) (j i : Nat) : T := if j = k + 3 then grow b l k (nineN t i) (j - 1) else nineC t i
def jj (k j : Nat) : Nat := if j = k + 3 then j - 1 else j
def out (b l k : Nat) (t : T) (j i : Nat) : T := grow b l k (quad (mid b l k t j) i) (jj k j)
theorem grow_succ (b l k : Nat) (t : T) (j : Nat) : grow b l (k + 1) t j = .node (out b l k t j 0) (out b l k t j 1) (out b l k t j 2) (out b l k t j 3) := rfl
/-- What going on makes. -/
def growNew (b l : Nat) : Nat → T → Nat → List T
  | 0, t, j => [grow b l 0 t j]
  | k + 1, t, j =>
    (List.range 9).flatMap (fun i => if j = k + 3 then nineN t i :: growNew b l k (nineN t i) (j - 1) else [nineC t i])
    ++ (List.range 4).flatMap (fun i => quad (mid b l k t j) i :: growNew b l k (quad (mid b l k t j) i) (jj k j)) ++ [grow b l (k + 1) t j]

attribute [local irreducible] fourN cutN fldOf nextN T.lev T.k0 T.k1 T.k2 T.k3 T.ok
theorem leaf_ok {f : List Nat} : (T.leaf (cutN f 4 4 8)).ok := by
  simp only [ok]
  exact Nat.lt_of_lt_of_le (cutN_lt f 4 4 8 (Nat.le_refl _)) (by decide)
theorem ctr_ok {a b c d : T} (ha : a.ok) (hb : b.ok) (hc : c.ok) (hd : d.ok) (e1 : b.lev = a.lev) (e2 : c.lev = a.lev) (e3 : d.lev = a.lev) : (ctr a b c d).ok ∧ (ctr a b c d).lev = a.lev := by
  unfold ctr
  split
  · rename_i h; exact ⟨leaf_ok, by simp only [lev, h]⟩
  · rename_i h
    have := a.lev_ge
    have a4 : 4 ≤ a.lev := by omega
    have b4 : 4 ≤ b.lev := by omega
    have c4 : 4 ≤ c.lev := by omega
    have d4 : 4 ≤ d.lev := by omega
    have la := (kid_lev ha a4).2.2.2
    have lb := (kid_lev hb b4).2.2.1
    have lc := (kid_lev hc c4).2.1
    have ld := (kid_lev hd d4).1
    refine ⟨node_ok (kid_ok ha a4).2.2.2 (kid_ok hb b4).2.2.1 (kid_ok hc c4).2.1 (kid_ok hd d4).1 ?_ ?_ ?_, ?_⟩
    · omega
    · omega
    · omega
    · simp only [lev]; omega
theorem kid_is {t : T} (ho : t.ok) (h : 4 ≤ t.lev) (y x : Nat) : (kid t y x).ok ∧ (kid t y x).lev + 1 = t.lev := by
  have o := kid_ok ho h; have l := kid_lev ho h
  unfold kid
  split
  · split
    · exact ⟨o.1, l.1⟩
    · exact ⟨o.2.1, l.2.1⟩
  · split
    · exact ⟨o.2.2.1, l.2.2.1⟩
    · exact ⟨o.2.2.2, l.2.2.2⟩
theorem gr_ok {t : T} (ho : t.ok) (h : 5 ≤ t.lev) (y x : Nat) : (gr t y x).ok ∧ (gr t y x).lev + 2 = t.lev := by
  have h1 := kid_is ho (by omega) (y / 2) (x / 2)
  have h2 := kid_is h1.1 (by omega) (y % 2) (x % 2)
  exact ⟨h2.1, by have := h2.2; unfold gr; omega⟩
theorem nineN_ok {t : T} (ho : t.ok) (h : 5 ≤ t.lev) (i : Nat) : (nineN t i).ok ∧ (nineN t i).lev + 1 = t.lev := by
  have g := gr_ok ho h
  have h1 := g (i / 3) (i % 3); have h2 := g (i / 3) (i % 3 + 1); have h3 := g (i / 3 + 1) (i % 3); have h4 := g (i / 3 + 1) (i % 3 + 1)
  exact ⟨node_ok h1.1 h2.1 h3.1 h4.1 (by omega) (by omega) (by omega), by simp only [nineN, lev]; omega⟩
theorem nineC_ok {t : T} (ho : t.ok) (h : 5 ≤ t.lev) (i : Nat) : (nineC t i).ok ∧ (nineC t i).lev + 2 = t.lev := by
  have g := gr_ok ho h
  have h1 := g (i / 3) (i % 3); have h2 := g (i / 3) (i % 3 + 1); have h3 := g (i / 3 + 1) (i % 3); have h4 := g (i / 3 + 1) (i % 3 + 1)
  have := ctr_ok h1.1 h2.1 h3.1 h4.1 (by omega) (by omega) (by omega)
  exact ⟨this.1, by unfold nineC; omega⟩
theorem quad_ok {m : Nat → T} {n : Nat} (h : ∀ i, (m i).ok ∧ (m i).lev = n) (i : Nat) : (quad m i).ok ∧ (quad m i).lev = n + 1 :=
  ⟨node_ok (h _).1 (h _).1 (h _).1 (h _).1 (by rw [(h _).2, (h _).2]) (by rw [(h _).2, (h _).2]) (by rw [(h _).2, (h _).2]), by simp only [quad, lev, (h _).2]⟩
theorem grow_ok (b l : Nat) : ∀ (k : Nat) (t : T) (j : Nat), t.ok → t.lev = k + 4 → (grow b l k t j).ok ∧ (grow b l k t j).lev = k + 3
  | 0, t, j, _, _ => by
    unfold grow
    exact ⟨leaf_ok, by simp only [lev]⟩
  | k + 1, t, j, ho, hl => by
    have hm : ∀ i, (mid b l k t j i).ok ∧ (mid b l k t j i).lev = k + 3 := fun i => by
      unfold mid
      split
      · have := nineN_ok ho (by omega) i
        exact grow_ok b l k _ _ this.1 (by omega)
      · have := nineC_ok ho (by omega) i
        exact ⟨this.1, by omega⟩
    have hq : ∀ i, (out b l k t j i).ok ∧ (out b l k t j i).lev = k + 3 := fun i => by
      have := quad_ok hm i
      exact grow_ok b l k _ _ this.1 (by omega)
    rw [grow_succ]
    exact ⟨node_ok (hq 0).1 (hq 1).1 (hq 2).1 (hq 3).1 (by rw [(hq 1).2, (hq 0).2]) (by rw [(hq 2).2, (hq 0).2]) (by rw [(hq 3).2, (hq 0).2]), by simp only [lev, (hq 0).2]⟩
theorem mid_ok (b l : Nat) {k : Nat} {t : T} (j : Nat) (ho : t.ok) (hl : t.lev = k + 5) (i : Nat) : (mid b l k t j i).ok ∧ (mid b l k t j i).lev = k + 3 := by
  unfold mid
  split
  · have := nineN_ok ho (by omega) i
    exact grow_ok b l k _ _ this.1 (by omega)
  · have := nineC_ok ho (by omega) i
    exact ⟨this.1, by omega⟩
end T
end Go.Qm
