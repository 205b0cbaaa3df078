/-
  GrowGlides is proved: whatever the input, quiltlaw12.GrowGlides answers true, and the input reads as it did. No conditions.
-/
import Derived.Test.YtphnadpmpcifoaaLawW
import Derived.Test.YtphnadpmpcifoaaTLawW
import Derived.Test.YtphnadpmpcifoaaRow
import Derived.Test.YtphnadpmpcifoaaRows
/-
  Where a plane stays as it is: what going on makes lies at few places: plain.
-/
namespace Go.Qm
/-- The nine of a square, and their middles. -/
theorem nine_shows {t : T} {p : Plane} {ox oy : Int} {k w h : Nat} (ho : t.ok) (hl : t.lev = k + 5) (hw : w = 2 ^ (k + 3)) (hwh : w = 2 * h) (hs : Shows t p ox oy) : ∀ i, i < 9 →
    Shows (T.nineN t i) p (ox + (i % 3 * w : Nat)) (oy + (i / 3 * w : Nat)) ∧ Shows (T.nineC t i) p (ox + (i % 3 * w : Nat) + h) (oy + (i / 3 * w : Nat) + h) := fun i hi => by
  have gs := fun {y x : Nat} (hy : y < 4) (hx : x < 4) => shows_gr ho (by omega) hs (w := w) (by rw [hw, hl]; congr 1) hy hx
  have gl := fun y x => T.gr_ok ho (by omega) y x
  have v0 := gl (i / 3) (i % 3); have v1 := gl (i / 3) (i % 3 + 1); have v2 := gl (i / 3 + 1) (i % 3); have v3 := gl (i / 3 + 1) (i % 3 + 1)
  have f1 : (T.gr t (i / 3) (i % 3 + 1)).lev = (T.gr t (i / 3) (i % 3)).lev := by have := v0.2; have := v1.2; omega
  have f2 : (T.gr t (i / 3 + 1) (i % 3)).lev = (T.gr t (i / 3) (i % 3)).lev := by have := v0.2; have := v2.2; omega
  have f3 : (T.gr t (i / 3 + 1) (i % 3 + 1)).lev = (T.gr t (i / 3) (i % 3)).lev := by have := v0.2; have := v3.2; omega
  have fw : 2 ^ (T.gr t (i / 3) (i % 3)).lev = w := by rw [hw]; congr 1; have := v0.2; omega
  have ex : ox + ((i % 3 * w : Nat) : Int) + (w : Int) = ox + (((i % 3 + 1) * w : Nat) : Int) := by rw [Nat.add_mul]; omega
  have ey : oy + ((i / 3 * w : Nat) : Int) + (w : Int) = oy + (((i / 3 + 1) * w : Nat) : Int) := by rw [Nat.add_mul]; omega
  have s0 := gs (y := i / 3) (x := i % 3) (by omega) (by omega)
  have s1 := gs (y := i / 3) (x := i % 3 + 1) (by omega) (by omega)
  have s2 := gs (y := i / 3 + 1) (x := i % 3) (by omega) (by omega)
  have s3 := gs (y := i / 3 + 1) (x := i % 3 + 1) (by omega) (by omega)
  rw [← ex] at s1 s3
  rw [← ey] at s2 s3
  constructor
  · refine (shows_node f1 f2 f3).2 ?_
    rw [fw]
    exact ⟨s0, s1, s2, s3⟩
  · exact ctr_shows v0.1 v1.1 v2.1 v3.1 f1 f2 f3 fw.symm hwh s0 s1 s2 s3
/-- A plane that stays. -/
def Stays (b l : Nat) (p : Plane) : Prop := gen b l p = p
theorem Stays.gens {b l : Nat} {p : Plane} (h : Stays b l p) : ∀ n, gens b l p n = p
  | 0 => rfl
  | n + 1 => by rw [Qm.gens, h.gens n]; exact h
/-- Seen at a quarter's places. -/
def Seen (p : Plane) (m : Nat) (u : T) : Prop := u.ok ∧ u.lev ≤ m ∧ ∃ A B : Int, Shows u p (A * (2 ^ (u.lev - 2) : Nat)) (B * (2 ^ (u.lev - 2) : Nat))
theorem Seen.mono {p : Plane} {m n : Nat} {u : T} (h : Seen p m u) (hmn : m ≤ n) : Seen p n u := ⟨h.1, Nat.le_trans h.2.1 hmn, h.2.2⟩
theorem Seen.at {p : Plane} {m n : Nat} {u : T} {ox oy A B : Int} (ho : u.ok) (hl : u.lev = n + 3) (hm : n + 3 ≤ m) (hs : Shows u p ox oy) (ex : ox = A * (2 ^ (n + 1) : Nat)) (ey : oy = B * (2 ^ (n + 1) : Nat)) : Seen p m u := by
  refine ⟨ho, by omega, A, B, ?_⟩
  rw [hl, show n + 3 - 2 = n + 1 from rfl, ← ex, ← ey]
  exact hs
theorem grow_seen {b l : Nat} {p : Plane} (hp : Stays b l p) : ∀ (k : Nat) (t : T) (j : Nat) (A B : Int), t.ok → t.lev = k + 4 → j ≤ k + 2 → Shows t p (A * (2 ^ (k + 2) : Nat)) (B * (2 ^ (k + 2) : Nat)) → ∀ u ∈ T.growNew b l k t j, Seen p (k + 4) u
  | 0, t, j, A, B, ho, hl, hj, hs, u, hu => by
    simp only [T.growNew, List.mem_singleton] at hu
    subst hu
    have g := T.grow_ok b l 0 t j ho hl
    have s := grow_shows b l 0 t j p _ _ ho hl hj hs
    rw [hp.gens] at s
    exact Seen.at (n := 0) (A := 2 * (A + 1)) (B := 2 * (B + 1)) g.1 g.2 (by omega) s (by simp; omega) (by simp; omega)
  | k + 1, t, j, A, B, ho, hl, hj, hs, u, hu => by
    obtain ⟨w, hw⟩ : ∃ w, w = 2 ^ (k + 3) := ⟨_, rfl⟩
    obtain ⟨h, hh⟩ : ∃ h, h = 2 ^ (k + 2) := ⟨_, rfl⟩
    obtain ⟨q, hq⟩ : ∃ q, q = 2 ^ (k + 1) := ⟨_, rfl⟩
    have hwh : w = 2 * h := by rw [hw, hh, two_pow]
    have hhq : h = 2 * q := by rw [hh, hq, two_pow]
    have hs0 := hs
    rw [show k + 1 + 2 = k + 3 from rfl, ← hw] at hs
    have ns := nine_shows ho hl hw hwh hs
    have mo := T.mid_ok b l j ho (by omega : t.lev = k + 5)
    have nl := fun i => T.nineN_ok ho (by omega : 5 ≤ t.lev) i
    -- places
    have pl : ∀ (C : Int) (a : Nat), C * (w : Int) + ((a * w : Nat) : Int) = (2 * (C + a)) * (h : Int) := fun C a => by
      rw [hwh]; push_cast; rw [Int.mul_add, Int.add_mul]; congr 1
      · rw [← Int.mul_assoc, Int.mul_comm C 2]
      · rw [← Int.mul_assoc, Int.mul_comm (a : Int) 2]
    have pc : ∀ (C : Int) (a : Nat), C * (w : Int) + ((a * w : Nat) : Int) + (h : Int) = (2 * (C + a) + 1) * (h : Int) := fun C a => by rw [pl, Int.add_mul, Int.one_mul]
    have pq : ∀ (C : Int), C * (h : Int) = (2 * C) * (q : Int) := fun C => by rw [hhq]; push_cast; rw [← Int.mul_assoc, Int.mul_comm C 2]
    have ms : ∀ i, i < 9 → Shows (T.mid b l k t j i) p (A * w + (i % 3 * w : Nat) + h) (B * w + (i / 3 * w : Nat) + h) := fun i hi => by
      unfold T.mid
      split
      · have := grow_shows b l k _ (j - 1) p _ _ (nl i).1 (by have := (nl i).2; omega) (by omega) (ns i hi).1
        rw [hp.gens, ← hh] at this
        exact this
      · exact (ns i hi).2
    have mm : ∀ a c : Nat, a < 3 → c < 3 → Shows (T.mid b l k t j (a + c * 3)) p (A * w + (a * w : Nat) + h) (B * w + (c * w : Nat) + h) := fun a c ha hc => by
      have := ms (a + c * 3) (by omega)
      rw [show (a + c * 3) % 3 = a from by omega, show (a + c * 3) / 3 = c from by omega] at this
      exact this
    have qs : ∀ a c : Nat, a < 2 → c < 2 → Shows (.node (T.mid b l k t j (a + c * 3)) (T.mid b l k t j (a + c * 3 + 1)) (T.mid b l k t j (a + c * 3 + 3)) (T.mid b l k t j (a + c * 3 + 4))) p (A * w + (a * w : Nat) + h) (B * w + (c * w : Nat) + h) := fun a c ha hc => by
      have fw : 2 ^ (T.mid b l k t j (a + c * 3)).lev = w := by rw [hw, (mo _).2]
      refine (shows_node ((mo _).2.trans (mo _).2.symm) ((mo _).2.trans (mo _).2.symm) ((mo _).2.trans (mo _).2.symm)).2 ?_
      rw [fw]
      have ex : A * w + ((a * w : Nat) : Int) + (h : Int) + (w : Int) = A * w + (((a + 1) * w : Nat) : Int) + (h : Int) := by rw [Nat.add_mul]; omega
      have ey : B * w + ((c * w : Nat) : Int) + (h : Int) + (w : Int) = B * w + (((c + 1) * w : Nat) : Int) + (h : Int) := by rw [Nat.add_mul]; omega
      rw [ex, ey, show a + c * 3 + 1 = a + 1 + c * 3 from by omega, show a + c * 3 + 3 = a + (c + 1) * 3 from by omega, show a + c * 3 + 4 = a + 1 + (c + 1) * 3 from by omega]
      exact ⟨mm a c (by omega) (by omega), mm (a + 1) c (by omega) (by omega), mm a (c + 1) (by omega) (by omega), mm (a + 1) (c + 1) (by omega) (by omega)⟩
    have jb : T.jj k j ≤ k + 2 := by unfold T.jj; split <;> omega
    have mem : u ∈ T.growNew b l (k + 1) t j := hu
    simp only [T.growNew, List.mem_append, List.mem_flatMap, List.mem_range, List.mem_singleton] at hu
    rcases hu with (⟨i, hi, hu⟩ | ⟨i, hi, hu⟩) | hu
    · have sN := (ns i hi).1
      rw [pl, pl] at sN
      have sC := (ns i hi).2
      rw [pc, pc, pq, pq] at sC
      split at hu
      · rcases List.mem_cons.1 hu with rfl | hu
        · exact Seen.at (n := k + 1) (nl i).1 (by have := (nl i).2; omega) (by omega) sN (by rw [hh]) (by rw [hh])
        · rw [hh] at sN
          exact (grow_seen hp k _ (j - 1) _ _ (nl i).1 (by have := (nl i).2; omega) (by omega) sN u hu).mono (by omega)
      · rw [List.mem_singleton] at hu
        subst hu
        have c := T.nineC_ok ho (by omega : 5 ≤ t.lev) i
        exact Seen.at (n := k) c.1 (by have := c.2; omega) (by omega) sC (by rw [hq]) (by rw [hq])
    · have sQ := qs (i % 2) (i / 2) (by omega) (by omega)
      have sQ : Shows (T.quad (T.mid b l k t j) i) p _ _ := sQ
      rw [pc, pc] at sQ
      have qo := T.quad_ok mo i
      rcases List.mem_cons.1 hu with rfl | hu
      · exact Seen.at (n := k + 1) qo.1 (by rw [qo.2]) (by omega) sQ (by rw [hh]) (by rw [hh])
      · rw [hh] at sQ
        exact (grow_seen hp k _ (T.jj k j) _ _ qo.1 (by rw [qo.2]) jb sQ u hu).mono (by omega)
    · subst hu
      have g := T.grow_ok b l (k + 1) t j ho hl
      have s := grow_shows b l (k + 1) t j p _ _ ho hl hj hs0
      rw [hp.gens, show k + 1 + 2 = k + 3 from rfl, ← hw] at s
      have e : ∀ C : Int, C * (w : Int) + (w : Int) = (2 * (C + 1)) * (h : Int) := fun C => by
        have := pl C 1; rw [Nat.one_mul] at this; exact this
      rw [e, e] at s
      exact Seen.at (n := k + 1) g.1 g.2 (by omega) s (by rw [hh]) (by rw [hh])
/-- The square that shows a plane. -/
def treeOf (p : Plane) : Nat → Int → Int → T
  | 0, ox, oy => .leaf (bitsOf (fun i => p (ox + (i % 8 : Nat)) (oy + (i / 8 : Nat))) 64)
  | n + 1, ox, oy => .node (treeOf p n ox oy) (treeOf p n (ox + (2 ^ (n + 3) : Nat)) oy) (treeOf p n ox (oy + (2 ^ (n + 3) : Nat))) (treeOf p n (ox + (2 ^ (n + 3) : Nat)) (oy + (2 ^ (n + 3) : Nat)))
theorem treeOf_lev (p : Plane) : ∀ n ox oy, (treeOf p n ox oy).lev = n + 3
  | 0, _, _ => rfl
  | n + 1, ox, oy => by simp only [treeOf, T.lev, treeOf_lev p n]
theorem leaf_of_lt {n : Nat} (h : n < 2 ^ 64) : (T.leaf n).ok := h
theorem treeOf_ok (p : Plane) : ∀ n ox oy, (treeOf p n ox oy).ok
  | 0, _, _ => leaf_of_lt (bitsOf_lt _ 64)
  | n + 1, ox, oy => T.node_ok (treeOf_ok p n _ _) (treeOf_ok p n _ _) (treeOf_ok p n _ _) (treeOf_ok p n _ _) (by rw [treeOf_lev, treeOf_lev]) (by rw [treeOf_lev, treeOf_lev]) (by rw [treeOf_lev, treeOf_lev])
theorem treeOf_shows (p : Plane) : ∀ n ox oy, Shows (treeOf p n ox oy) p ox oy
  | 0, ox, oy => by
    intro x y hx hy
    have hx : x < 8 := hx
    have hy : y < 8 := hy
    simp only [treeOf, T.get]
    rw [bitsOf_bit, decide_eq_true (by omega), Bool.true_and, show (8 * y + x) % 8 = x from by omega, show (8 * y + x) / 8 = y from by omega]
  | n + 1, ox, oy => by
    refine (shows_node (by rw [treeOf_lev, treeOf_lev]) (by rw [treeOf_lev, treeOf_lev]) (by rw [treeOf_lev, treeOf_lev])).2 ?_
    rw [treeOf_lev]
    exact ⟨treeOf_shows p n _ _, treeOf_shows p n _ _, treeOf_shows p n _ _, treeOf_shows p n _ _⟩
theorem treeOf_is {t : T} {p : Plane} {n : Nat} {ox oy : Int} (ho : t.ok) (hl : t.lev = n + 3) (hs : Shows t p ox oy) : t = treeOf p n ox oy :=
  shows_ext ho (treeOf_ok p n ox oy) (hl.trans (treeOf_lev p n ox oy).symm) hs (treeOf_shows p n ox oy)
def nowhere : Plane := fun _ _ => false
theorem nowhere_stays {b l : Nat} (hb : b % 2 = 0) : Stays b l nowhere := by
  funext x y
  unfold gen nbr nowhere nextB
  simp [b2n, hb]
theorem shows_nowhere {t : T} {p : Plane} {ox oy ox' oy' : Int} (hs : Shows t p ox oy) (h : ∀ x y : Nat, x < 2 ^ t.lev → y < 2 ^ t.lev → p (ox + x) (oy + y) = false) : Shows t nowhere ox' oy' := fun x y hx hy => by
  rw [hs x y hx hy, h x y hx hy]; rfl
theorem empty_nowhere (k : Nat) (ox oy : Int) : Shows (T.empty k) nowhere ox oy := by
  induction k generalizing ox oy with
  | zero => intro x y _ _; simp [T.empty, T.get, nowhere]
  | succ k ih =>
    exact (shows_node rfl rfl rfl).2 ⟨ih _ _, ih _ _, ih _ _, ih _ _⟩
/-- All squares that a block at X, Y makes, where nothing is besides, up to level m. -/
def blkU (X Y : Int) (m : Nat) : List T :=
  (List.range (m - 2)).flatMap fun n => treeOf nowhere n 0 0 :: (List.range 5).flatMap fun (i : Nat) => (List.range 5).map fun (j : Nat) =>
    treeOf (blk X Y) n ((X / (2 ^ (n + 1) : Nat) - 3 + (i : Int)) * (2 ^ (n + 1) : Nat)) ((Y / (2 ^ (n + 1) : Nat) - 3 + (j : Int)) * (2 ^ (n + 1) : Nat))
theorem blkU_len (X Y : Int) (m : Nat) : (blkU X Y m).length ≤ (m - 2) * 26 := by
  refine flats_len _ 26 (fun n => ?_) (m - 2)
  have := flats_len (fun i : Nat => (List.range 5).map fun j : Nat => treeOf (blk X Y) n ((X / (2 ^ (n + 1) : Nat) - 3 + (i : Int)) * (2 ^ (n + 1) : Nat)) ((Y / (2 ^ (n + 1) : Nat) - 3 + (j : Int)) * (2 ^ (n + 1) : Nat))) 5 (fun i => by simp) 5
  simp only [List.length_cons]
  omega
theorem nowhere_mem {X Y : Int} {m : Nat} {u : T} (h : Seen nowhere m u) : u ∈ blkU X Y m := by
  obtain ⟨ho, hm, A, B, hs⟩ := h
  have := u.lev_ge
  refine List.mem_flatMap.2 ⟨u.lev - 3, List.mem_range.2 (by omega), ?_⟩
  rw [treeOf_is (n := u.lev - 3) (ox := 0) (oy := 0) ho (by omega) (shows_nowhere hs fun _ _ _ _ => rfl)]
  rw [treeOf_lev]
  exact List.mem_cons_self ..
theorem blk_mem {X Y : Int} {m : Nat} {u : T} (h : Seen (blk X Y) m u) : u ∈ blkU X Y m := by
  have h0 := h
  obtain ⟨ho, hm, A, B, hs⟩ := h
  have l3 := u.lev_ge
  obtain ⟨n, hn⟩ : ∃ n, u.lev = n + 3 := ⟨u.lev - 3, by omega⟩
  rw [hn, show n + 3 - 2 = n + 1 from rfl] at hs
  obtain ⟨c, hc⟩ : ∃ c : Nat, c = 2 ^ (n + 1) := ⟨_, rfl⟩
  have c0 : 0 < c := by rw [hc]; exact Nat.pow_pos (by omega)
  have w4 : 2 ^ u.lev = 4 * c := by rw [hn, hc, show n + 3 = n + 1 + 1 + 1 from rfl, two_pow, two_pow]; omega
  rw [← hc] at hs
  -- nothing of the block is in it
  have out : ∀ (C Z : Int), ¬ (Z / c - 3 ≤ C ∧ C ≤ Z / c + 1) → ∀ x : Nat, x < 4 * c → ¬ (C * c + x = Z ∨ C * c + x = Z + 1) := fun C Z hC x hx hx' => by
    have d1 := Int.mul_ediv_add_emod Z c
    have d2 := Int.emod_nonneg Z (show (c : Int) ≠ 0 by omega)
    have d3 := Int.emod_lt_of_pos Z (show (0 : Int) < c by omega)
    generalize Z / (c : Int) = Q at *
    generalize Z % (c : Int) = R at *
    rcases Int.lt_or_le C (Q - 3) with h1 | h1
    · have : (Q - 4) * (c : Int) ≥ C * c := Int.mul_le_mul_of_nonneg_right (by omega) (by omega)
      have e1 : (Q - 4) * (c : Int) = c * Q - 4 * c := by rw [Int.sub_mul, Int.mul_comm]
      omega
    · have : C * (c : Int) ≥ (Q + 2) * c := Int.mul_le_mul_of_nonneg_right (by omega) (by omega)
      have e1 : (Q + 2) * (c : Int) = c * Q + 2 * c := by rw [Int.add_mul, Int.mul_comm]
      omega
  by_cases hA : X / c - 3 ≤ A ∧ A ≤ X / c + 1
  · by_cases hB : Y / c - 3 ≤ B ∧ B ≤ Y / c + 1
    · refine List.mem_flatMap.2 ⟨n, List.mem_range.2 (by omega), List.mem_cons_of_mem _ ?_⟩
      refine List.mem_flatMap.2 ⟨(A - (X / c - 3)).toNat, List.mem_range.2 (by omega), List.mem_map.2 ⟨(B - (Y / c - 3)).toNat, List.mem_range.2 (by omega), ?_⟩⟩
      rw [← hc, show X / (c : Int) - 3 + ((A - (X / (c : Int) - 3)).toNat : Int) = A from by omega, show Y / (c : Int) - 3 + ((B - (Y / (c : Int) - 3)).toNat : Int) = B from by omega]
      exact (treeOf_is ho hn hs).symm
    · refine nowhere_mem ⟨ho, hm, 0, 0, shows_nowhere hs fun x y hx hy => ?_⟩
      have := out B Y hB y (by omega)
      unfold blk
      exact decide_eq_false (fun h => this h.2)
  · refine nowhere_mem ⟨ho, hm, 0, 0, shows_nowhere hs fun x y hx hy => ?_⟩
    have := out A X hA x (by omega)
    unfold blk
    exact decide_eq_false (fun h => this h.1)
end Go.Qm
/-
  A block, set cell by cell, and what GrowStill makes: plain.
-/
namespace Go.Qm
theorem setBit_bit (t n i : Nat) : (setBit t n true).testBit i = (decide (i = n) || t.testBit i) := by
  unfold setBit
  rw [if_pos rfl, Nat.testBit_or, Nat.testBit_two_pow]
  by_cases h : i = n
  · subst h; simp
  · have : ¬ n = i := fun e => h e.symm
    simp [h, this]
theorem get_set : ∀ (t : T) (x y x' y' : Nat), t.ok → x < 2 ^ t.lev → y < 2 ^ t.lev → x' < 2 ^ t.lev → y' < 2 ^ t.lev → (t.set x y true).get x' y' = (decide (x' = x ∧ y' = y) || t.get x' y')
  | .leaf n, x, y, x', y', _, hx, hy, hx', hy' => by
    have hx : x < 8 := hx
    have hx' : x' < 8 := hx'
    simp only [T.set, T.get]
    rw [setBit_bit]
    congr 1
    apply decide_eq_decide.2
    omega
  | .node a b c d, x, y, x', y', ⟨o1, o2, o3, o4, e1, e2, e3⟩, hx, hy, hx', hy' => by
    simp only [T.lev, Nat.pow_succ] at hx hy hx' hy'
    have la := T.set_lev true a x y o1
    by_cases h1 : y < 2 ^ a.lev <;> by_cases h2 : x < 2 ^ a.lev <;> by_cases h3 : y' < 2 ^ a.lev <;> by_cases h4 : x' < 2 ^ a.lev <;> simp only [T.set, T.get, h1, h2, h3, h4, if_true, if_false, la]
    all_goals first
      | (rw [get_set a _ _ _ _ o1] <;> first | omega | (congr 1; apply decide_eq_decide.2; omega))
      | (rw [get_set b _ _ _ _ o2] <;> first | (rw [e1]; omega) | (congr 1; apply decide_eq_decide.2; omega))
      | (rw [get_set c _ _ _ _ o3] <;> first | (rw [e2]; omega) | (congr 1; apply decide_eq_decide.2; omega))
      | (rw [get_set d _ _ _ _ o4] <;> first | (rw [e3]; omega) | (congr 1; apply decide_eq_decide.2; omega))
      | (rw [decide_eq_false (p := x' = x ∧ y' = y) (by omega), Bool.false_or])
def blk1 (m X Y : Nat) : T := (T.empty (m - 3)).set X Y true
def blk2 (m X Y : Nat) : T := (blk1 m X Y).set (X + 1) Y true
def blk3 (m X Y : Nat) : T := (blk2 m X Y).set X (Y + 1) true
def blk4 (m X Y : Nat) : T := (blk3 m X Y).set (X + 1) (Y + 1) true
/-- All that GrowStill makes. -/
def stillU (m X Y : Nat) : List T := T.emptyNew (m - 3) ++ ((T.empty (m - 3)).setNew X Y true ++ ((blk1 m X Y).setNew (X + 1) Y true ++ ((blk2 m X Y).setNew X (Y + 1) true ++ ((blk3 m X Y).setNew (X + 1) (Y + 1) true ++ blkU X Y m))))
theorem blk_are {m X Y : Nat} (hm : 3 ≤ m) (hX : X + 1 < 2 ^ m) (hY : Y + 1 < 2 ^ m) :
    ((T.empty (m - 3)).ok ∧ (T.empty (m - 3)).lev = m) ∧ ((blk1 m X Y).ok ∧ (blk1 m X Y).lev = m) ∧ ((blk2 m X Y).ok ∧ (blk2 m X Y).lev = m) ∧ ((blk3 m X Y).ok ∧ (blk3 m X Y).lev = m) ∧ ((blk4 m X Y).ok ∧ (blk4 m X Y).lev = m) ∧ Shows (blk4 m X Y) (blk X Y) 0 0 := by
  have h0 : (T.empty (m - 3)).ok ∧ (T.empty (m - 3)).lev = m := ⟨T.empty_ok _, by rw [T.empty_lev]; omega⟩
  have st : ∀ {t : T} {x y : Nat}, t.ok ∧ t.lev = m → x < 2 ^ m → y < 2 ^ m → (t.set x y true).ok ∧ (t.set x y true).lev = m := fun {t x y} h hx hy =>
    ⟨T.set_ok true t x y h.1 (by rw [h.2]; exact hx) (by rw [h.2]; exact hy), by rw [T.set_lev _ _ _ _ h.1, h.2]⟩
  have h1 : (blk1 m X Y).ok ∧ (blk1 m X Y).lev = m := st h0 (by omega) (by omega)
  have h2 : (blk2 m X Y).ok ∧ (blk2 m X Y).lev = m := st h1 hX (by omega)
  have h3 : (blk3 m X Y).ok ∧ (blk3 m X Y).lev = m := st h2 (by omega) hY
  have h4 : (blk4 m X Y).ok ∧ (blk4 m X Y).lev = m := st h3 hX hY
  refine ⟨h0, h1, h2, h3, h4, fun x y hx hy => ?_⟩
  rw [h4.2] at hx hy
  have g0 : (T.empty (m - 3)).get x y = false := by rw [empty_nowhere (m - 3) 0 0 x y (by rw [h0.2]; exact hx) (by rw [h0.2]; exact hy)]; rfl
  unfold blk4
  rw [get_set _ _ _ _ _ h3.1 (by rw [h3.2]; exact hX) (by rw [h3.2]; exact hY) (by rw [h3.2]; exact hx) (by rw [h3.2]; exact hy)]
  unfold blk3
  rw [get_set _ _ _ _ _ h2.1 (by rw [h2.2]; omega) (by rw [h2.2]; exact hY) (by rw [h2.2]; exact hx) (by rw [h2.2]; exact hy)]
  unfold blk2
  rw [get_set _ _ _ _ _ h1.1 (by rw [h1.2]; exact hX) (by rw [h1.2]; omega) (by rw [h1.2]; exact hx) (by rw [h1.2]; exact hy)]
  unfold blk1
  rw [get_set _ _ _ _ _ h0.1 (by rw [h0.2]; omega) (by rw [h0.2]; omega) (by rw [h0.2]; exact hx) (by rw [h0.2]; exact hy), g0]
  unfold blk
  simp only [Bool.or_false, ← Bool.decide_or]
  apply decide_eq_decide.2
  omega
theorem stillU_len {m X Y : Nat} (hm : 3 ≤ m) (hm2 : m ≤ 24) (hX : X + 1 < 2 ^ m) (hY : Y + 1 < 2 ^ m) : (stillU m X Y).length ≤ 3000 := by
  obtain ⟨h0, h1, h2, h3, h4, -⟩ := blk_are hm hX hY
  have a0 := setNew_len true _ X Y h0.1
  have a1 := setNew_len true _ (X + 1) Y h1.1
  have a2 := setNew_len true _ X (Y + 1) h2.1
  have a3 := setNew_len true _ (X + 1) (Y + 1) h3.1
  have a4 := blkU_len X Y m
  unfold stillU
  simp only [List.length_append, emptyNew_len]
  have := h0.2; have := h1.2; have := h2.2; have := h3.2
  omega
/-- What stays is, gone on, its middle. -/
theorem grow_still {b l : Nat} {p : Plane} (hp : Stays b l p) {k : Nat} {t : T} {j : Nat} {ox oy : Int} (ho : t.ok) (hl : t.lev = k + 4) (hj : j ≤ k + 2) (hs : Shows t p ox oy) : T.grow b l k t j = T.ctr t.k0 t.k1 t.k2 t.k3 := by
  have g := T.grow_ok b l k t j ho hl
  have s := grow_shows b l k t j p _ _ ho hl hj hs
  rw [hp.gens] at s
  have c := ctr_of ho hl rfl hs
  exact shows_ext g.1 c.1 (g.2.trans c.2.1.symm) s c.2.2
theorem ctr_seen {p : Plane} {k : Nat} {t : T} (ho : t.ok) (hl : t.lev = k + 4) (hs : Shows t p 0 0) : Seen p (k + 4) (T.ctr t.k0 t.k1 t.k2 t.k3) := by
  have c := ctr_of ho hl rfl hs
  have e : (0 : Int) + ((2 ^ (k + 2) : Nat) : Int) = 2 * ((2 ^ (k + 1) : Nat) : Int) := by rw [two_pow]; push_cast; omega
  have s := c.2.2
  rw [e] at s
  exact Seen.at (n := k) (A := 2) (B := 2) c.1 c.2.1 (by omega) s rfl rfl
theorem blk_stays' (X Y : Int) : Stays 8 12 (blk X Y) := blk_still X Y
theorem grow_nowhere {b l : Nat} (hb : b % 2 = 0) {k : Nat} {j : Nat} (hj : j ≤ k + 2) : T.grow b l k (T.empty (k + 1)) j = T.empty k := by
  have ho := T.empty_ok (k + 1)
  have hl : (T.empty (k + 1)).lev = k + 4 := T.empty_lev _
  have g := T.grow_ok b l k _ j ho hl
  have s := grow_shows b l k _ j nowhere 0 0 ho hl hj (empty_nowhere _ _ _)
  rw [(nowhere_stays hb).gens] at s
  exact shows_ext g.1 (T.empty_ok k) (g.2.trans (T.empty_lev k).symm) s (empty_nowhere k _ _)
end Go.Qm
/-
  A square's cells, set one by one, and their number: plain.
-/
namespace Go.Qm
theorem popTo_set {t n : Nat} (h : t.testBit n = false) : ∀ k, popTo k (setBit t n true) = popTo k t + (if n < k then 1 else 0)
  | 0 => rfl
  | k + 1 => by
    rw [popTo_b, popTo_b, popTo_set h k, setBit_bit]
    by_cases hk : k = n
    · subst hk
      rw [h, if_neg (by omega), if_pos (by omega), decide_eq_true rfl]
      rfl
    · rw [decide_eq_false hk, Bool.false_or]
      by_cases hn : n < k
      · rw [if_pos hn, if_pos (by omega)]; omega
      · rw [if_neg hn, if_neg (by omega)]; omega
theorem pop_set {t n : Nat} (h : t.testBit n = false) (hn : n < 64) : pop (setBit t n true) = pop t + 1 := by
  unfold pop
  rw [popTo_set h, if_pos hn]
theorem many_set (t : T) : ∀ (x y : Nat), t.ok → x < 2 ^ t.lev → y < 2 ^ t.lev → t.get x y = false → t.many < 4611686018427387904 → (t.set x y true).many = t.many + 1 := by
  induction t with
  | leaf n =>
    intro x y _ hx hy hg _
    have hx : x < 8 := hx
    have hy : y < 8 := hy
    simp only [T.get] at hg
    simp only [T.set, T.many]
    rw [pop_set hg (by omega), Int.natCast_add, Int.natCast_one]
  | node a b c d ia ib ic id =>
    intro x y ho hx hy hg hm
    obtain ⟨o1, o2, o3, o4, e1, e2, e3⟩ := ho
    simp only [T.lev, Nat.pow_succ] at hx hy
    have ma := a.many_in; have mb := b.many_in; have mc := c.many_in; have md := d.many_in
    simp only [T.many] at hm
    unfold capsum at hm
    by_cases h1 : y < 2 ^ a.lev <;> by_cases h2 : x < 2 ^ a.lev <;> simp only [T.get, h1, h2, if_true, if_false] at hg <;> simp only [T.set, h1, h2, if_true, if_false, T.many]
    · rw [ia x y o1 h2 h1 hg (by omega)]
      unfold capsum; omega
    · rw [ib _ y o2 (by rw [e1]; omega) (by rw [e1]; omega) hg (by omega)]
      unfold capsum; omega
    · rw [ic x _ o3 (by rw [e2]; omega) (by rw [e2]; omega) hg (by omega)]
      unfold capsum; omega
    · rw [id _ _ o4 (by rw [e3]; omega) (by rw [e3]; omega) hg (by omega)]
      unfold capsum; omega
/-- What is known of a square. -/
structure Cells (t : T) (m : Nat) (f : Nat → Nat → Bool) (c : Int) : Prop where
  ok : t.ok
  lev : t.lev = m
  get : ∀ x y, x < 2 ^ m → y < 2 ^ m → t.get x y = f x y
  many : t.many = c
theorem cells_empty {m : Nat} (hm : 3 ≤ m) : Cells (T.empty (m - 3)) m (fun _ _ => false) 0 where
  ok := T.empty_ok _
  lev := by rw [T.empty_lev]; omega
  get := fun x y hx hy => by
    have e : (T.empty (m - 3)).lev = m := by rw [T.empty_lev]; omega
    rw [empty_nowhere (m - 3) 0 0 x y (by rw [e]; exact hx) (by rw [e]; exact hy)]; rfl
  many := many_empty _
theorem Cells.set {t : T} {m : Nat} {f : Nat → Nat → Bool} {c : Int} (h : Cells t m f c) {x y : Nat} (hx : x < 2 ^ m) (hy : y < 2 ^ m) (hf : f x y = false) (hc : c < 100000) : Cells (t.set x y true) m (fun a b => decide (a = x ∧ b = y) || f a b) (c + 1) where
  ok := T.set_ok _ _ _ _ h.ok (by rw [h.lev]; exact hx) (by rw [h.lev]; exact hy)
  lev := by rw [T.set_lev _ _ _ _ h.ok, h.lev]
  get := fun a b ha hb => by
    rw [get_set _ _ _ _ _ h.ok (by rw [h.lev]; exact hx) (by rw [h.lev]; exact hy) (by rw [h.lev]; exact ha) (by rw [h.lev]; exact hb), h.get a b ha hb]
  many := by
    rw [many_set _ _ _ h.ok (by rw [h.lev]; exact hx) (by rw [h.lev]; exact hy) (by rw [h.get x y hx hy]; exact hf) (by rw [h.many]; omega), h.many]
theorem Cells.congr {t : T} {m : Nat} {f f' : Nat → Nat → Bool} {c c' : Int} (h : Cells t m f c) (hf : ∀ x y, x < 2 ^ m → y < 2 ^ m → f x y = f' x y) (hc : c = c') : Cells t m f' c' where
  ok := h.ok
  lev := h.lev
  get := fun x y hx hy => (h.get x y hx hy).trans (hf x y hx hy)
  many := h.many.trans hc
end Go.Qm
/-
  A glider; what going on makes of it lies at few places: plain.
-/
namespace Go.Qm
/-- Cells. -/
def pat (l : List (Int × Int)) : Plane := fun x y => l.any fun q => decide (q.1 = x) && decide (q.2 = y)
def patAt (l : List (Int × Int)) (X Y : Int) : Plane := fun x y => pat l (x - X) (y - Y)
theorem pat_far {l : List (Int × Int)} (hl : ∀ q ∈ l, 0 ≤ q.1 ∧ q.1 ≤ 3 ∧ 0 ≤ q.2 ∧ q.2 ≤ 3) {a b : Int} (h : ¬ (0 ≤ a ∧ a ≤ 3 ∧ 0 ≤ b ∧ b ≤ 3)) : pat l a b = false := by
  unfold pat
  rw [List.any_eq_false]
  intro q hq hc
  simp only [Bool.and_eq_true, decide_eq_true_eq] at hc
  have := hl q hq
  omega
theorem gen_step {l l' : List (Int × Int)} (hl : ∀ q ∈ l, 0 ≤ q.1 ∧ q.1 ≤ 3 ∧ 0 ≤ q.2 ∧ q.2 ≤ 3) (hl' : ∀ q ∈ l', 0 ≤ q.1 ∧ q.1 ≤ 3 ∧ 0 ≤ q.2 ∧ q.2 ≤ 3)
    (h : ∀ u : Nat, u < 6 → ∀ v : Nat, v < 6 → gen 8 12 (pat l) ((u : Int) - 1) ((v : Int) - 1) = pat l' ((u : Int) - 1) ((v : Int) - 1)) : gen 8 12 (pat l) = pat l' := by
  funext x y
  by_cases hb : -1 ≤ x ∧ x ≤ 4 ∧ -1 ≤ y ∧ y ≤ 4
  · have := h (x + 1).toNat (by omega) (y + 1).toNat (by omega)
    rw [show (((x + 1).toNat : Nat) : Int) - 1 = x from by omega, show (((y + 1).toNat : Nat) : Int) - 1 = y from by omega] at this
    exact this
  · rw [pat_far hl' (by omega)]
    have far : ∀ a b : Int, x - 1 ≤ a → a ≤ x + 1 → y - 1 ≤ b → b ≤ y + 1 → pat l a b = false := fun a b h1 h2 h3 h4 => pat_far hl (by omega)
    unfold gen nbr
    rw [far _ _ (by omega) (by omega) (by omega) (by omega), far (x - 1) (y - 1) (by omega) (by omega) (by omega) (by omega), far x (y - 1) (by omega) (by omega) (by omega) (by omega), far (x + 1) (y - 1) (by omega) (by omega) (by omega) (by omega),
      far (x - 1) (y + 1) (by omega) (by omega) (by omega) (by omega), far x (y + 1) (by omega) (by omega) (by omega) (by omega), far (x + 1) (y + 1) (by omega) (by omega) (by omega) (by omega), far (x - 1) y (by omega) (by omega) (by omega) (by omega), far (x + 1) y (by omega) (by omega) (by omega) (by omega)]
    decide
theorem gen_move (b l : Nat) (p : Plane) (X Y : Int) : gen b l (fun x y => p (x - X) (y - Y)) = fun x y => gen b l p (x - X) (y - Y) := by
  funext x y
  unfold gen nbr
  have e1 : x - 1 - X = x - X - 1 := by omega
  have e2 : x + 1 - X = x - X + 1 := by omega
  have e3 : y - 1 - Y = y - Y - 1 := by omega
  have e4 : y + 1 - Y = y - Y + 1 := by omega
  simp only [e1, e2, e3, e4]
theorem gens_move (b l : Nat) (p : Plane) (X Y : Int) : ∀ n, gens b l (fun x y => p (x - X) (y - Y)) n = fun x y => gens b l p n (x - X) (y - Y)
  | 0 => rfl
  | n + 1 => by rw [gens, gens_move b l p X Y n, gen_move]; rfl
def gl0 : List (Int × Int) := [(1, 0), (2, 1), (0, 2), (1, 2), (2, 2)]
def gl1 : List (Int × Int) := [(0, 1), (2, 1), (1, 2), (2, 2), (1, 3)]
def gl2 : List (Int × Int) := [(2, 1), (0, 2), (2, 2), (1, 3), (2, 3)]
def gl3 : List (Int × Int) := [(1, 1), (2, 2), (3, 2), (1, 3), (2, 3)]
def gl4 : List (Int × Int) := [(2, 1), (3, 2), (1, 3), (2, 3), (3, 3)]
/-- A glider. -/
def gli (X Y : Int) : Plane := patAt gl0 X Y
theorem gl_4 : gens 8 12 (pat gl0) 4 = pat gl4 := by
  have e1 : gen 8 12 (pat gl0) = pat gl1 := gen_step (by decide) (by decide) (by decide)
  have e2 : gen 8 12 (pat gl1) = pat gl2 := gen_step (by decide) (by decide) (by decide)
  have e3 : gen 8 12 (pat gl2) = pat gl3 := gen_step (by decide) (by decide) (by decide)
  have e4 : gen 8 12 (pat gl3) = pat gl4 := gen_step (by decide) (by decide) (by decide)
  simp only [gens, e1, e2, e3, e4]
theorem gl4_is (x y : Int) : pat gl4 x y = pat gl0 (x - 1) (y - 1) := by
  unfold pat gl4 gl0
  simp only [List.any_cons, List.any_nil, Bool.or_false]
  have d : ∀ a b : Int, decide (a + 1 = b) = decide (a = b - 1) := fun a b => decide_eq_decide.2 (by omega)
  simp only [← d]
  rfl
theorem gli_4 (X Y : Int) : gens 8 12 (gli X Y) 4 = gli (X + 1) (Y + 1) := by
  unfold gli
  show gens 8 12 (fun x y => pat gl0 (x - X) (y - Y)) 4 = _
  rw [gens_move, gl_4]
  funext x y
  unfold patAt
  rw [gl4_is]
  congr 1 <;> omega
theorem gli_4n (X Y : Int) : ∀ n : Nat, gens 8 12 (gli X Y) (4 * n) = gli (X + n) (Y + n)
  | 0 => by simp [gens]
  | n + 1 => by
    rw [Nat.mul_add, gens_add, gli_4n X Y n, Nat.mul_one, gli_4]
    congr 1 <;> omega
theorem gli_pow (X Y : Int) (j : Nat) : gens 8 12 (gli X Y) (2 ^ (j + 2)) = gli (X + (2 ^ j : Nat)) (Y + (2 ^ j : Nat)) := by
  rw [show 2 ^ (j + 2) = 4 * 2 ^ j from by rw [two_pow, two_pow]; omega, gli_4n]
/-- Seen at a quarter's places, moved along. -/
def SeenF (X Y : Int) (m : Nat) (u : T) : Prop := u.ok ∧ u.lev ≤ m ∧ ∃ A B s : Int, Shows u (gli (X + s) (Y + s)) (A * (2 ^ (u.lev - 2) : Nat)) (B * (2 ^ (u.lev - 2) : Nat)) ∧ ∃ r : Int, s = r * (2 ^ (u.lev - 4) : Nat)
theorem SeenF.mono {X Y : Int} {m n : Nat} {u : T} (h : SeenF X Y m u) (hmn : m ≤ n) : SeenF X Y n u := ⟨h.1, Nat.le_trans h.2.1 hmn, h.2.2⟩
theorem SeenF.at {X Y : Int} {m n : Nat} {u : T} {ox oy A B s r : Int} (ho : u.ok) (hl : u.lev = n + 3) (hm : n + 3 ≤ m) (hs : Shows u (gli (X + s) (Y + s)) ox oy) (ex : ox = A * (2 ^ (n + 1) : Nat)) (ey : oy = B * (2 ^ (n + 1) : Nat)) (hr : s = r * (2 ^ (n - 1) : Nat)) : SeenF X Y m u := by
  refine ⟨ho, by omega, A, B, s, ?_, r, ?_⟩
  · rw [hl, show n + 3 - 2 = n + 1 from rfl, ← ex, ← ey]
    exact hs
  · rw [hl, show n + 3 - 4 = n - 1 from by omega]
    exact hr
/-- The first half's squares, and the second's, of a square gone on fast. -/
theorem halves {b l : Nat} {p p' : Plane} {k : Nat} {t : T} {j : Nat} {ox oy : Int} {w h : Nat} (ho : t.ok) (hl : t.lev = k + 5) (hj : j ≤ k + 3) (hw : w = 2 ^ (k + 3)) (hh : h = 2 ^ (k + 2)) (hs : Shows t p ox oy)
    (hp : p' = if j = k + 3 then gens b l p (2 ^ (j - 1)) else p) :
    (∀ i, i < 9 → Shows (T.nineN t i) p (ox + (i % 3 * w : Nat)) (oy + (i / 3 * w : Nat)) ∧ Shows (T.nineC t i) p (ox + (i % 3 * w : Nat) + h) (oy + (i / 3 * w : Nat) + h)) ∧
    (∀ i, i < 4 → Shows (T.quad (T.mid b l k t j) i) p' (ox + (i % 2 * w : Nat) + h) (oy + (i / 2 * w : Nat) + h)) := by
  have hwh : w = 2 * h := by rw [hw, hh, two_pow]
  have ns := nine_shows ho hl hw hwh hs
  have mo := T.mid_ok b l j ho hl
  have nl := fun i => T.nineN_ok ho (by omega : 5 ≤ t.lev) i
  have ms : ∀ i, i < 9 → Shows (T.mid b l k t j i) p' (ox + (i % 3 * w : Nat) + h) (oy + (i / 3 * w : Nat) + h) := fun i hi => by
    unfold T.mid
    rw [hp]
    split
    · have := grow_shows b l k _ (j - 1) p _ _ (nl i).1 (by have := (nl i).2; omega) (by omega) (ns i hi).1
      rw [← hh] at this
      exact this
    · exact (ns i hi).2
  have mm : ∀ a c : Nat, a < 3 → c < 3 → Shows (T.mid b l k t j (a + c * 3)) p' (ox + (a * w : Nat) + h) (oy + (c * w : Nat) + h) := fun a c ha hc => by
    have := ms (a + c * 3) (by omega)
    rw [show (a + c * 3) % 3 = a from by omega, show (a + c * 3) / 3 = c from by omega] at this
    exact this
  have qs : ∀ a c : Nat, a < 2 → c < 2 → Shows (.node (T.mid b l k t j (a + c * 3)) (T.mid b l k t j (a + c * 3 + 1)) (T.mid b l k t j (a + c * 3 + 3)) (T.mid b l k t j (a + c * 3 + 4))) p' (ox + (a * w : Nat) + h) (oy + (c * w : Nat) + h) := fun a c ha hc => by
    have fw : 2 ^ (T.mid b l k t j (a + c * 3)).lev = w := by rw [hw, (mo _).2]
    refine (shows_node ((mo _).2.trans (mo _).2.symm) ((mo _).2.trans (mo _).2.symm) ((mo _).2.trans (mo _).2.symm)).2 ?_
    rw [fw]
    have ex : ox + ((a * w : Nat) : Int) + (h : Int) + (w : Int) = ox + (((a + 1) * w : Nat) : Int) + (h : Int) := by rw [Nat.add_mul]; omega
    have ey : oy + ((c * w : Nat) : Int) + (h : Int) + (w : Int) = oy + (((c + 1) * w : Nat) : Int) + (h : Int) := by rw [Nat.add_mul]; omega
    rw [ex, ey, show a + c * 3 + 1 = a + 1 + c * 3 from by omega, show a + c * 3 + 3 = a + (c + 1) * 3 from by omega, show a + c * 3 + 4 = a + 1 + (c + 1) * 3 from by omega]
    exact ⟨mm a c (by omega) (by omega), mm (a + 1) c (by omega) (by omega), mm a (c + 1) (by omega) (by omega), mm (a + 1) (c + 1) (by omega) (by omega)⟩
  exact ⟨ns, fun i hi => qs (i % 2) (i / 2) (by omega) (by omega)⟩
theorem place (C : Int) (a : Nat) {w h : Nat} (hwh : w = 2 * h) : C * (w : Int) + ((a * w : Nat) : Int) = (2 * (C + a)) * (h : Int) := by
  rw [hwh]; push_cast; rw [Int.mul_add, Int.add_mul]; congr 1
  · rw [← Int.mul_assoc, Int.mul_comm C 2]
  · rw [← Int.mul_assoc, Int.mul_comm (a : Int) 2]
theorem placeH (C : Int) (a : Nat) {w h : Nat} (hwh : w = 2 * h) : C * (w : Int) + ((a * w : Nat) : Int) + (h : Int) = (2 * (C + a) + 1) * (h : Int) := by
  rw [place C a hwh, Int.add_mul, Int.one_mul]
theorem placeQ (C : Int) {h q : Nat} (hhq : h = 2 * q) : C * (h : Int) = (2 * C) * (q : Int) := by
  rw [hhq]; push_cast; rw [← Int.mul_assoc, Int.mul_comm C 2]
/-- Gone on as far as can be: all at whole moves. -/
theorem fast_seen {X Y : Int} : ∀ (k : Nat) (t : T) (A B s r : Int), t.ok → t.lev = k + 4 → s = r * (2 ^ k : Nat) → Shows t (gli (X + s) (Y + s)) (A * (2 ^ (k + 2) : Nat)) (B * (2 ^ (k + 2) : Nat)) → ∀ u ∈ T.growNew 8 12 k t (k + 2), SeenF X Y (k + 4) u
  | 0, t, A, B, s, r, ho, hl, hr, hs, u, hu => by
    simp only [T.growNew, List.mem_singleton] at hu
    subst hu
    have g := T.grow_ok 8 12 0 t 2 ho hl
    have sh := grow_shows 8 12 0 t 2 _ _ _ ho hl (by omega) hs
    rw [gli_pow _ _ 0, show X + s + ((2 ^ 0 : Nat) : Int) = X + (s + 1) from by simp; omega, show Y + s + ((2 ^ 0 : Nat) : Int) = Y + (s + 1) from by simp; omega] at sh
    exact SeenF.at (n := 0) (A := 2 * (A + 1)) (B := 2 * (B + 1)) (s := s + 1) (r := s + 1) g.1 g.2 (by omega) sh (by simp; omega) (by simp; omega) (by simp)
  | k + 1, t, A, B, s, r, ho, hl, hr, hs, u, hu => by
    obtain ⟨w, hw⟩ : ∃ w, w = 2 ^ (k + 3) := ⟨_, rfl⟩
    obtain ⟨h, hh⟩ : ∃ h, h = 2 ^ (k + 2) := ⟨_, rfl⟩
    obtain ⟨c, hc⟩ : ∃ c, c = 2 ^ k := ⟨_, rfl⟩
    have hwh : w = 2 * h := by rw [hw, hh, two_pow]
    have hr' : s = (2 * r) * (c : Int) := by rw [hr, two_pow, ← hc]; push_cast; rw [← Int.mul_assoc, Int.mul_comm r 2]
    have hs0 := hs
    rw [show k + 1 + 2 = k + 3 from rfl, ← hw] at hs
    have P1 : gens 8 12 (gli (X + s) (Y + s)) (2 ^ (k + 3 - 1)) = gli (X + (s + c)) (Y + (s + c)) := by
      rw [show k + 3 - 1 = k + 2 from rfl, gli_pow, ← hc]; congr 1 <;> omega
    obtain ⟨ns, qs⟩ := halves (b := 8) (l := 12) (p' := gli (X + (s + c)) (Y + (s + c))) ho hl (Nat.le_refl (k + 3)) hw hh hs (by rw [if_pos rfl, P1])
    have mo := T.mid_ok 8 12 (k + 3) ho hl
    have nl := fun i => T.nineN_ok ho (by omega : 5 ≤ t.lev) i
    have hjj : T.jj k (k + 3) = k + 2 := by unfold T.jj; rw [if_pos rfl]; rfl
    simp only [show k + 1 + 2 = k + 3 from rfl, T.growNew, if_true, hjj, List.mem_append, List.mem_flatMap, List.mem_range, List.mem_singleton] at hu
    have d1 : ∀ x : Int, x * (c : Int) = x * ((2 ^ (k + 1 - 1) : Nat) : Int) := fun x => by rw [hc]; rfl
    rcases hu with (⟨i, hi, hu⟩ | ⟨i, hi, hu⟩) | hu
    · have sN := (ns i hi).1
      rw [place _ _ hwh, place _ _ hwh] at sN
      rcases List.mem_cons.1 hu with rfl | hu
      · exact SeenF.at (n := k + 1) (nl i).1 (by have := (nl i).2; omega) (by omega) sN (by rw [hh]) (by rw [hh]) (by rw [hr', d1])
      · rw [hh] at sN
        exact (fast_seen k _ _ _ s (2 * r) (nl i).1 (by have := (nl i).2; omega) (by rw [hr', hc]) sN u hu).mono (by omega)
    · have sQ := qs i hi
      rw [placeH _ _ hwh, placeH _ _ hwh] at sQ
      have qo := T.quad_ok mo i
      have hs2 : s + (c : Int) = (2 * r + 1) * (c : Int) := by rw [hr', Int.add_mul, Int.one_mul]
      rcases List.mem_cons.1 hu with rfl | hu
      · exact SeenF.at (n := k + 1) (s := s + c) qo.1 (by rw [qo.2]) (by omega) sQ (by rw [hh]) (by rw [hh]) (by rw [hs2, d1])
      · rw [hh] at sQ
        exact (fast_seen k _ _ _ (s + c) (2 * r + 1) qo.1 (by rw [qo.2]) (by rw [hs2, hc]) sQ u hu).mono (by omega)
    · subst hu
      have g := T.grow_ok 8 12 (k + 1) t (k + 3) ho hl
      have sh := grow_shows 8 12 (k + 1) t (k + 3) _ _ _ ho hl (by omega) hs0
      rw [show k + 3 = k + 1 + 2 from rfl, gli_pow, show k + 1 + 2 = k + 3 from rfl, ← hw, two_pow, ← hc] at sh
      have e : ∀ C : Int, C * (w : Int) + (w : Int) = (2 * (C + 1)) * (h : Int) := fun C => by
        have := place C 1 hwh; rw [Nat.one_mul] at this; exact this
      rw [e, e, show X + s + ((2 * c : Nat) : Int) = X + (s + 2 * c) from by push_cast; omega, show Y + s + ((2 * c : Nat) : Int) = Y + (s + 2 * c) from by push_cast; omega] at sh
      have hs2 : s + 2 * (c : Int) = (2 * r + 2) * (c : Int) := by rw [hr', Int.add_mul]
      exact SeenF.at (n := k + 1) (s := s + 2 * c) g.1 g.2 (by omega) sh (by rw [hh]) (by rw [hh]) (by rw [hs2, d1])
/-- Gone on less far. -/
theorem slow_seen {X Y : Int} {d : Nat} : ∀ (k : Nat) (t : T) (i : Nat) (A B : Int), t.ok → t.lev = k + 4 → i ≤ k → d = 2 ^ i → Shows t (gli X Y) (A * (2 ^ (k + 2) : Nat)) (B * (2 ^ (k + 2) : Nat)) →
    ∀ u ∈ T.growNew 8 12 k t (i + 2), Seen (gli X Y) (k + 4) u ∨ Seen (gli (X + d) (Y + d)) (k + 4) u ∨ SeenF X Y (k + 4) u
  | k, t, i, A, B, ho, hl, hi, hd, hs, u, hu => by
    rcases Nat.lt_or_ge i k with hik | hik
    · obtain ⟨k, rfl⟩ : ∃ k', k = k' + 1 := ⟨k - 1, by omega⟩
      obtain ⟨w, hw⟩ : ∃ w, w = 2 ^ (k + 3) := ⟨_, rfl⟩
      obtain ⟨h, hh⟩ : ∃ h, h = 2 ^ (k + 2) := ⟨_, rfl⟩
      obtain ⟨q, hq⟩ : ∃ q, q = 2 ^ (k + 1) := ⟨_, rfl⟩
      have hwh : w = 2 * h := by rw [hw, hh, two_pow]
      have hhq : h = 2 * q := by rw [hh, hq, two_pow]
      have hne : ¬ (i + 2 = k + 3) := by omega
      have hs0 := hs
      rw [show k + 1 + 2 = k + 3 from rfl, ← hw] at hs
      obtain ⟨ns, qs⟩ := halves (b := 8) (l := 12) (p' := gli X Y) (j := i + 2) ho hl (by omega) hw hh hs (by rw [if_neg hne])
      have mo := T.mid_ok 8 12 (i + 2) ho hl
      have hjj : T.jj k (i + 2) = i + 2 := by unfold T.jj; rw [if_neg hne]
      simp only [T.growNew, if_neg hne, hjj, List.mem_append, List.mem_flatMap, List.mem_range, List.mem_singleton] at hu
      rcases hu with (⟨a, ha, hu⟩ | ⟨a, ha, hu⟩) | hu
      · subst hu
        have sC := (ns a ha).2
        rw [placeH _ _ hwh, placeH _ _ hwh, placeQ _ hhq, placeQ _ hhq] at sC
        have c := T.nineC_ok ho (by omega : 5 ≤ t.lev) a
        exact .inl (Seen.at (n := k) c.1 (by have := c.2; omega) (by omega) sC (by rw [hq]) (by rw [hq]))
      · have sQ := qs a ha
        rw [placeH _ _ hwh, placeH _ _ hwh] at sQ
        have qo := T.quad_ok mo a
        rcases List.mem_cons.1 hu with rfl | hu
        · exact .inl (Seen.at (n := k + 1) qo.1 (by rw [qo.2]) (by omega) sQ (by rw [hh]) (by rw [hh]))
        · rw [hh] at sQ
          rcases slow_seen k _ i _ _ qo.1 (by rw [qo.2]) (by omega) hd sQ u hu with h1 | h1 | h1
          · exact .inl (h1.mono (by omega))
          · exact .inr (.inl (h1.mono (by omega)))
          · exact .inr (.inr (h1.mono (by omega)))
      · subst hu
        have g := T.grow_ok 8 12 (k + 1) t (i + 2) ho hl
        have sh := grow_shows 8 12 (k + 1) t (i + 2) _ _ _ ho hl (by omega) hs0
        rw [gli_pow, show k + 1 + 2 = k + 3 from rfl, ← hw, ← hd] at sh
        have e : ∀ C : Int, C * (w : Int) + (w : Int) = (2 * (C + 1)) * (h : Int) := fun C => by
          have := place C 1 hwh; rw [Nat.one_mul] at this; exact this
        rw [e, e] at sh
        exact .inr (.inl (Seen.at (n := k + 1) g.1 g.2 (by omega) sh (by rw [hh]) (by rw [hh])))
    · obtain rfl : i = k := by omega
      exact .inr (.inr (fast_seen i t A B 0 0 ho hl (by simp) (by simpa using hs) u hu))
end Go.Qm
/-
  A glider, set cell by cell, counted; all that GrowGlides makes: plain.
-/
namespace Go.Qm
def gt1 (m X Y : Nat) : T := (T.empty (m - 3)).set (X + 1) Y true
def gt2 (m X Y : Nat) : T := (gt1 m X Y).set (X + 2) (Y + 1) true
def gt3 (m X Y : Nat) : T := (gt2 m X Y).set X (Y + 2) true
def gt4 (m X Y : Nat) : T := (gt3 m X Y).set (X + 1) (Y + 2) true
def gt5 (m X Y : Nat) : T := (gt4 m X Y).set (X + 2) (Y + 2) true
theorem gt_are {m X Y : Nat} (hm : 3 ≤ m) (hX : X + 2 < 2 ^ m) (hY : Y + 2 < 2 ^ m) :
    ((T.empty (m - 3)).ok ∧ (T.empty (m - 3)).lev = m) ∧ ((gt1 m X Y).ok ∧ (gt1 m X Y).lev = m) ∧ ((gt2 m X Y).ok ∧ (gt2 m X Y).lev = m) ∧ ((gt3 m X Y).ok ∧ (gt3 m X Y).lev = m) ∧ ((gt4 m X Y).ok ∧ (gt4 m X Y).lev = m) ∧ ((gt5 m X Y).ok ∧ (gt5 m X Y).lev = m) ∧ Shows (gt5 m X Y) (gli X Y) 0 0 ∧ (gt5 m X Y).many = 5 := by
  have c0 := cells_empty hm
  have c1 : Cells (gt1 m X Y) m _ _ := c0.set (x := X + 1) (y := Y) (by omega) (by omega) rfl (by omega)
  have c2 : Cells (gt2 m X Y) m _ _ := c1.set (x := X + 2) (y := Y + 1) (by omega) (by omega) (by simp) (by omega)
  have c3 : Cells (gt3 m X Y) m _ _ := c2.set (x := X) (y := Y + 2) (by omega) (by omega) (by simp) (by omega)
  have c4 : Cells (gt4 m X Y) m _ _ := c3.set (x := X + 1) (y := Y + 2) (by omega) (by omega) (by simp) (by omega)
  have c5 : Cells (gt5 m X Y) m _ _ := c4.set (x := X + 2) (y := Y + 2) (by omega) (by omega) (by simp) (by omega)
  refine ⟨⟨c0.ok, c0.lev⟩, ⟨c1.ok, c1.lev⟩, ⟨c2.ok, c2.lev⟩, ⟨c3.ok, c3.lev⟩, ⟨c4.ok, c4.lev⟩, ⟨c5.ok, c5.lev⟩, fun x y hx hy => ?_, by rw [c5.many]; rfl⟩
  rw [c5.lev] at hx hy
  rw [c5.get x y hx hy]
  unfold gli patAt pat gl0
  simp only [List.any_cons, List.any_nil, Bool.or_false, ← Bool.decide_and, ← Bool.decide_or]
  apply decide_eq_decide.2
  omega
/-- Where a glider is not, nothing is. -/
theorem gli_no {D E x y : Int} (h : ¬ (D ≤ x ∧ x ≤ D + 2 ∧ E ≤ y ∧ y ≤ E + 2)) : gli D E x y = false := by
  unfold gli patAt
  unfold pat gl0
  simp only [List.any_cons, List.any_nil, Bool.or_false, ← Bool.decide_and, ← Bool.decide_or]
  exact decide_eq_false (by omega)
theorem gli_move (D E x y a b : Int) : gli (D + a) (E + b) (x + a) (y + b) = gli D E x y := by
  unfold gli patAt
  congr 1 <;> omega
theorem shows_move {t : T} {X Y ox oy : Int} (h : Shows t (gli X Y) ox oy) (a b : Int) : Shows t (gli (X + a) (Y + b)) (ox + a) (oy + b) := fun x y hx hy => by
  rw [h x y hx hy, ← gli_move X Y (ox + x) (oy + y) a b]
  congr 1 <;> omega
/-- One level's squares: nothing; a glider at D, E of a row of places. -/
def lvlU (X Y : Int) (n c : Nat) : List T :=
  (List.range 19).flatMap fun (i : Nat) => (List.range 6).map fun (j : Nat) =>
    treeOf (gli (X + c * ((-2 - X) / c + (i : Int))) (Y + c * ((-2 - X) / c + (i : Int)) + (2 ^ (n + 1) : Nat) * ((-2 - (Y + c * ((-2 - X) / c + (i : Int)))) / (2 ^ (n + 1) : Nat) + (j : Int)))) n 0 0
theorem lvlU_len (X Y : Int) (n c : Nat) : (lvlU X Y n c).length ≤ 114 :=
  flats_len _ 6 (fun i => by simp) 19
def gliU (X Y : Int) (d m : Nat) : List T :=
  (List.range (m - 2)).flatMap fun n => treeOf nowhere n 0 0 :: (lvlU X Y n (2 ^ (n - 1)) ++ (lvlU X Y n (2 ^ (n + 1)) ++ lvlU (X + d) (Y + d) n (2 ^ (n + 1))))
theorem gliU_len (X Y : Int) (d m : Nat) : (gliU X Y d m).length ≤ (m - 2) * 343 := by
  refine flats_len _ 343 (fun n => ?_) (m - 2)
  have h1 := lvlU_len X Y n (2 ^ (n - 1)); have h2 := lvlU_len X Y n (2 ^ (n + 1)); have h3 := lvlU_len (X + d) (Y + d) n (2 ^ (n + 1))
  simp only [List.length_cons, List.length_append]
  omega
theorem nowhere_gliU {X Y : Int} {d m : Nat} {u : T} (ho : u.ok) (hm : u.lev ≤ m) (hs : Shows u nowhere 0 0) : u ∈ gliU X Y d m := by
  have := u.lev_ge
  refine List.mem_flatMap.2 ⟨u.lev - 3, List.mem_range.2 (by omega), ?_⟩
  rw [treeOf_is (n := u.lev - 3) (ox := 0) (oy := 0) ho (by omega) hs, treeOf_lev]
  exact List.mem_cons_self ..
/-- A square of a level with a glider at a place of the row, or with nothing. -/
theorem lvl_mem {X Y s A B : Int} {u : T} {n c : Nat} (ho : u.ok) (hl : u.lev = n + 3) (hc0 : 0 < c) (hc : 4 * 2 ^ (n + 1) ≤ 16 * c) (hd : ∃ q : Int, s - A * (2 ^ (n + 1) : Nat) = c * q) (hs : Shows u (gli (X + s) (Y + s)) (A * (2 ^ (n + 1) : Nat)) (B * (2 ^ (n + 1) : Nat))) :
    u ∈ lvlU X Y n c ∨ Shows u nowhere 0 0 := by
  obtain ⟨e, he⟩ : ∃ e : Nat, e = 2 ^ (n + 1) := ⟨_, rfl⟩
  have e0 : 0 < e := by rw [he]; exact Nat.pow_pos (by omega)
  have w4 : 2 ^ u.lev = 4 * e := by rw [hl, he, show n + 3 = n + 1 + 1 + 1 from rfl, two_pow, two_pow]; omega
  rw [← he] at hs hd hc
  obtain ⟨q, hq⟩ := hd
  have hs0 := shows_move hs (-(A * e)) (-(B * e))
  obtain ⟨D, hD⟩ : ∃ D, D = X + c * q := ⟨_, rfl⟩
  obtain ⟨E, hE⟩ : ∃ E, E = Y + c * q + e * (A - B) := ⟨_, rfl⟩
  have d1 : X + s + -(A * (e : Int)) = D := by omega
  have d2 : Y + s + -(B * (e : Int)) = E := by
    have : (e : Int) * (A - B) = A * e - B * e := by rw [Int.mul_sub, Int.mul_comm, Int.mul_comm (e : Int) B]
    omega
  rw [d1, d2, Int.add_right_neg, Int.add_right_neg] at hs0
  by_cases hin : -2 ≤ D ∧ D < 4 * e ∧ -2 ≤ E ∧ E < 4 * e
  · left
    have e2 : 2 ≤ e := by rw [he, two_pow]; have := Nat.pow_pos (n := n) (show 0 < 2 by omega); omega
    obtain ⟨F, hF⟩ : ∃ F : Int, F = (-2 - X) / (c : Int) := ⟨_, rfl⟩
    obtain ⟨Z, hZ⟩ : ∃ Z, Z = Y + c * q := ⟨_, rfl⟩
    obtain ⟨G, hG⟩ : ∃ G : Int, G = (-2 - Z) / (e : Int) := ⟨_, rfl⟩
    obtain ⟨r, hr⟩ : ∃ r, r = A - B := ⟨_, rfl⟩
    have F1 := Int.mul_ediv_add_emod (-2 - X) c
    have F2 := Int.emod_nonneg (-2 - X) (show (c : Int) ≠ 0 by omega)
    have F3 := Int.emod_lt_of_pos (-2 - X) (show (0 : Int) < c by omega)
    have G1 := Int.mul_ediv_add_emod (-2 - Z) e
    have G2 := Int.emod_nonneg (-2 - Z) (show (e : Int) ≠ 0 by omega)
    have G3 := Int.emod_lt_of_pos (-2 - Z) (show (0 : Int) < e by omega)
    rw [← hF] at F1; rw [← hG] at G1
    have f1 : F ≤ q := by
      rw [hF]
      exact Int.ediv_le_of_le_mul (by omega) (by rw [Int.mul_comm]; omega)
    have f2 : q - F < 19 := by
      rcases Int.lt_or_le (q - F) 19 with h | h
      · exact h
      · have := Int.mul_le_mul_of_nonneg_left h (show (0 : Int) ≤ c by omega)
        rw [Int.mul_sub] at this
        omega
    have E1 : E = Z + e * r := by rw [hE, hZ, hr]
    have g1 : G ≤ r := by
      rw [hG]
      exact Int.ediv_le_of_le_mul (by omega) (by rw [Int.mul_comm]; omega)
    have g2 : r - G < 6 := by
      rcases Int.lt_or_le (r - G) 6 with h | h
      · exact h
      · have := Int.mul_le_mul_of_nonneg_left h (show (0 : Int) ≤ e by omega)
        rw [Int.mul_sub] at this
        omega
    refine List.mem_flatMap.2 ⟨(q - F).toNat, List.mem_range.2 (by omega), List.mem_map.2 ⟨(r - G).toNat, List.mem_range.2 (by omega), ?_⟩⟩
    rw [← hF, show F + ((q - F).toNat : Int) = q from by omega, ← he, ← hZ, ← hG, show G + ((r - G).toNat : Int) = r from by omega, ← hD, ← E1]
    exact (treeOf_is ho hl hs0).symm
  · right
    refine shows_nowhere hs0 fun x y hx hy => gli_no ?_
    rw [w4] at hx hy
    omega
theorem seen_lvl {X Y : Int} {d m : Nat} {u : T} (h : Seen (gli X Y) m u ∨ Seen (gli (X + d) (Y + d)) m u ∨ SeenF X Y m u) : u ∈ gliU X Y d m := by
  have mem : ∀ {n : Nat}, u.lev = n + 3 → u.lev ≤ m → (u ∈ lvlU X Y n (2 ^ (n - 1)) ∨ u ∈ lvlU X Y n (2 ^ (n + 1)) ∨ u ∈ lvlU (X + d) (Y + d) n (2 ^ (n + 1))) → u ∈ gliU X Y d m := fun {n} hl hm hu => by
    refine List.mem_flatMap.2 ⟨n, List.mem_range.2 (by omega), List.mem_cons_of_mem _ ?_⟩
    simpa only [List.mem_append] using hu
  have pp := fun n : Nat => Nat.pow_pos (n := n) (show 0 < 2 by omega)
  rcases h with h | h | h
  · obtain ⟨ho, hm, A, B, hs⟩ := h
    obtain ⟨n, hn⟩ : ∃ n, u.lev = n + 3 := ⟨u.lev - 3, by have := u.lev_ge; omega⟩
    rw [hn, show n + 3 - 2 = n + 1 from rfl] at hs
    rcases lvl_mem (X := X) (Y := Y) (s := 0) (c := 2 ^ (n + 1)) ho hn (pp _) (by omega) ⟨-A, by rw [Int.mul_neg, Int.zero_sub, Int.mul_comm]⟩ (by rw [Int.add_zero, Int.add_zero]; exact hs) with h | h
    · exact mem hn hm (.inr (.inl h))
    · exact nowhere_gliU ho hm h
  · obtain ⟨ho, hm, A, B, hs⟩ := h
    obtain ⟨n, hn⟩ : ∃ n, u.lev = n + 3 := ⟨u.lev - 3, by have := u.lev_ge; omega⟩
    rw [hn, show n + 3 - 2 = n + 1 from rfl] at hs
    rcases lvl_mem (X := X + d) (Y := Y + d) (s := 0) (c := 2 ^ (n + 1)) ho hn (pp _) (by omega) ⟨-A, by rw [Int.mul_neg, Int.zero_sub, Int.mul_comm]⟩ (by rw [Int.add_zero, Int.add_zero]; exact hs) with h | h
    · exact mem hn hm (.inr (.inr h))
    · exact nowhere_gliU ho hm h
  · obtain ⟨ho, hm, A, B, s, hs, r, hr⟩ := h
    obtain ⟨n, hn⟩ : ∃ n, u.lev = n + 3 := ⟨u.lev - 3, by have := u.lev_ge; omega⟩
    rw [hn, show n + 3 - 2 = n + 1 from rfl] at hs
    rw [hn, show n + 3 - 4 = n - 1 from by omega] at hr
    have hc : ∃ v : Nat, 2 ^ (n + 1) = 2 ^ (n - 1) * v ∧ v ≤ 4 := by
      cases n with
      | zero => exact ⟨2, rfl, by omega⟩
      | succ n => exact ⟨4, by rw [two_pow, two_pow, Nat.add_sub_cancel]; omega, by omega⟩
    obtain ⟨v, hv, hv4⟩ := hc
    rcases lvl_mem (s := s) (c := 2 ^ (n - 1)) ho hn (pp _) (by rw [hv]; have := Nat.mul_le_mul_left (2 ^ (n - 1)) hv4; omega) ⟨r - A * v, by rw [hr, hv]; push_cast; rw [Int.mul_sub, Int.mul_comm r, ← Int.mul_assoc, Int.mul_comm A, Int.mul_assoc, ← Int.mul_assoc]⟩ hs with h | h
    · exact mem hn hm (.inl h)
    · exact nowhere_gliU ho hm h
/-- All that GrowGlides makes. -/
def glU (m X d : Nat) : List T := T.emptyNew (m - 3) ++ ((T.empty (m - 3)).setNew (X + 1) X true ++ ((gt1 m X X).setNew (X + 2) (X + 1) true ++ ((gt2 m X X).setNew X (X + 2) true ++ ((gt3 m X X).setNew (X + 1) (X + 2) true ++ ((gt4 m X X).setNew (X + 2) (X + 2) true ++ gliU X X d m)))))
theorem glU_len {m X d : Nat} (hm : 3 ≤ m) (hm2 : m ≤ 16) (hX : X + 2 < 2 ^ m) : (glU m X d).length ≤ 8000 := by
  obtain ⟨h0, h1, h2, h3, h4, -⟩ := gt_are hm hX hX
  have a0 := setNew_len true _ (X + 1) X h0.1
  have a1 := setNew_len true _ (X + 2) (X + 1) h1.1
  have a2 := setNew_len true _ X (X + 2) h2.1
  have a3 := setNew_len true _ (X + 1) (X + 2) h3.1
  have a5 := setNew_len true _ (X + 2) (X + 2) h4.1
  have a4 := gliU_len X X d m
  unfold glU
  simp only [List.length_append, emptyNew_len]
  have := h0.2; have := h1.2; have := h2.2; have := h3.2; have := h4.2
  omega
theorem glide_out {m X d i : Nat} (hm : 7 ≤ m) (hi : i < m - 4) (hX : X = 2 ^ (m - 2) + 4) (hd : d = 2 ^ i) :
    (∀ u ∈ T.growNew 8 12 (m - 4) (gt5 m X X) (i + 2), u ∈ gliU X X d m) ∧ (T.grow 8 12 (m - 4) (gt5 m X X) (i + 2)).lev = m - 1 ∧ (T.grow 8 12 (m - 4) (gt5 m X X) (i + 2)).many = 5 ∧
      (∀ q ∈ gl0, ∀ x y : Nat, (x : Int) = 4 + d + q.1 → (y : Int) = 4 + d + q.2 → x < 2 ^ (m - 1) → y < 2 ^ (m - 1) → (T.grow 8 12 (m - 4) (gt5 m X X) (i + 2)).get x y = true) := by
  obtain ⟨h, hh⟩ : ∃ h, h = 2 ^ (m - 5) := ⟨_, rfl⟩
  have h4 : 2 ^ 2 ≤ h := by rw [hh]; exact Nat.pow_le_pow_right (by omega) (by omega)
  have w2 : 2 ^ (m - 2) = 8 * h := by rw [show m - 2 = m - 5 + 1 + 1 + 1 from by omega, two_pow, two_pow, two_pow, ← hh]; omega
  have w1 : 2 ^ (m - 1) = 16 * h := by rw [show m - 1 = m - 2 + 1 from by omega, two_pow, w2]; omega
  have w0 : 2 ^ m = 32 * h := by rw [show m = m - 1 + 1 from by omega, two_pow, w1]; omega
  have hdh : d ≤ h := by rw [hd, hh]; exact Nat.pow_le_pow_right (by omega) (by omega)
  obtain ⟨-, -, -, -, -, g5, gs, -⟩ := gt_are (m := m) (X := X) (Y := X) (by omega) (by omega) (by omega)
  have mk : m = m - 4 + 4 := by omega
  have go := T.grow_ok 8 12 (m - 4) _ (i + 2) g5.1 (by rw [g5.2]; exact mk)
  have sh := grow_shows 8 12 (m - 4) _ (i + 2) _ _ _ g5.1 (by rw [g5.2]; exact mk) (by omega) gs
  rw [gli_pow, ← hd, show m - 4 + 2 = m - 2 from by omega] at sh
  have s0 := shows_move sh (-((2 ^ (m - 2) : Nat) : Int)) (-((2 ^ (m - 2) : Nat) : Int))
  rw [show (X : Int) + (d : Int) + -((2 ^ (m - 2) : Nat) : Int) = ((4 + d : Nat) : Int) from by omega, show (0 : Int) + ((2 ^ (m - 2) : Nat) : Int) + -((2 ^ (m - 2) : Nat) : Int) = 0 from by omega] at s0
  obtain ⟨-, -, -, -, -, k5, ks, km⟩ := gt_are (m := m - 1) (X := 4 + d) (Y := 4 + d) (by omega) (by omega) (by omega)
  have el : (T.grow 8 12 (m - 4) (gt5 m X X) (i + 2)).lev = m - 1 := by rw [go.2]; omega
  have e := shows_ext go.1 k5.1 (el.trans k5.2.symm) s0 ks
  refine ⟨fun u hu => seen_lvl ?_, el, by rw [e]; exact km, fun q hq x y hx hy hx1 hy1 => ?_⟩
  · have := slow_seen (m - 4) _ i 0 0 g5.1 (by rw [g5.2]; exact mk) (by omega) hd (by rw [Int.zero_mul]; exact gs) u hu
    rw [← mk] at this
    exact this
  · rw [s0 x y (by rw [el]; exact hx1) (by rw [el]; exact hy1)]
    unfold gli patAt pat
    rw [List.any_eq_true]
    refine ⟨q, hq, ?_⟩
    rw [decide_eq_true (by omega), decide_eq_true (by omega)]
    rfl
end Go.Qm
/-
  The law GrowGlides answers true.
-/
namespace Go.Proofs.Ytphnadpmpcifoaa
open Go.Sq Go.Qm
attribute [local irreducible] SW J T.lev T.ok T.k0 T.k1 T.k2 T.k3 T.cells num T.ctr T.grow T.growNew T.wide T.wideNew T.empty T.emptyNew T.set T.setNew T.many gt1 gt2 gt3 gt4 gt5 glU gliU
set_option maxHeartbeats 8000000
set_option maxRecDepth 10000
theorem growGlides_is {k j : Int} : CallF P 5 [int k, int j] [] (.bool true) [] := by
  obtain ⟨u, cu, hu⟩ := conv_uint k
  obtain ⟨v, cv, hv⟩ := conv_uint j
  obtain ⟨m, hm⟩ : ∃ m, m = 7 + u % 10 := ⟨_, rfl⟩
  have m7 : 7 ≤ m := by omega
  have m16 : m ≤ 16 := by omega
  have f1 : (u : Int) % 10 = ((u % 10 : Nat) : Int) := rfl
  have f2 : ConvE .i64 ((u % 10 : Nat) : Int) ((u % 10 : Nat) : Int) := ⟨wrap_i64 (by omega) (by omega)⟩
  have f3 : IntE .add .i64 7 ((u % 10 : Nat) : Int) (int (m : Int)) := ⟨by simp only [intV]; rw [wrap_i64 (by omega) (by omega)]; congr 2; omega⟩
  obtain ⟨i, hi⟩ : ∃ i, i = v % (m - 4) := ⟨_, rfl⟩
  have him : i < m - 4 := by rw [hi]; exact Nat.mod_lt _ (by omega)
  have e2 : ConvE .u64 ((m : Int) - 4) ((m - 4 : Nat) : Int) := ⟨by
    rw [show (m : Int) - 4 = ((m - 4 : Nat) : Int) from by omega]
    exact wrap_u (k := .u64) rfl (by show m - 4 < 2 ^ 64; omega)⟩
  have r1 : (v : Int) % ((m - 4 : Nat) : Int) = (i : Int) := by rw [hi]; rfl
  have r2 : ConvE .i64 (i : Int) (i : Int) := ⟨wrap_i64 (by omega) (by omega)⟩
  have r3 : IntE .add .i64 2 (i : Int) (int ((i + 2 : Nat) : Int)) := ⟨by simp only [intV]; rw [wrap_i64 (by omega) (by omega)]; congr 2; omega⟩
  obtain ⟨h, hh⟩ : ∃ h, h = 2 ^ (m - 2) := ⟨_, rfl⟩
  have h5 : 2 ^ 5 ≤ h := by rw [hh]; exact Nat.pow_le_pow_right (by omega) (by omega)
  have h14 : h ≤ 2 ^ 14 := by rw [hh]; exact Nat.pow_le_pow_right (by omega) (by omega)
  have hw : 2 ^ m = 4 * h := by rw [hh, show m = m - 2 + 1 + 1 from by omega, two_pow, two_pow, show m - 2 + 1 + 1 - 2 = m - 2 from by omega]; omega
  have hw1 : 2 ^ (m - 1) = 2 * h := by rw [hh, show m - 1 = m - 2 + 1 from by omega, two_pow]
  obtain ⟨d, hd⟩ : ∃ d, d = 2 ^ i := ⟨_, rfl⟩
  have hdh : d ≤ h := by rw [hd, hh]; exact Nat.pow_le_pow_right (by omega) (by omega)
  have f4 : ShlE .i64 1 ((m : Int) - 2) (h : Int) := ⟨by
    rw [hh, show (m : Int) - 2 = ((m - 2 : Nat) : Int) from by omega]
    exact (shl_i64 (a := 1) (by omega) (by rw [← hh]; omega)).trans (by rw [Nat.one_mul])⟩
  have f5 : ShlE .i64 1 (((i + 2 : Nat) : Int) - 2) (d : Int) := ⟨by
    rw [hd, show ((i + 2 : Nat) : Int) - 2 = (i : Int) from by omega]
    exact (shl_i64 (a := 1) (by omega) (by rw [← hd]; omega)).trans (by rw [Nat.one_mul])⟩
  obtain ⟨X, hX⟩ : ∃ X, X = h + 4 := ⟨_, rfl⟩
  obtain ⟨Q, hQ⟩ : ∃ Q, Q = 4 + d := ⟨_, rfl⟩
  have g5 : IntE .add .i64 (h : Int) 4 (int (X : Int)) := ⟨by simp only [intV]; rw [wrap_i64 (by omega) (by omega)]; congr 2; omega⟩
  have g6 : IntE .add .i64 4 (d : Int) (int (Q : Int)) := ⟨by simp only [intV]; rw [wrap_i64 (by omega) (by omega)]; congr 2; omega⟩
  have X0 : IntE .add .i64 (X : Int) 0 (int (X : Int)) := ⟨by simp only [intV, Int.add_zero]; rw [wrap_i64 (by omega) (by omega)]⟩
  have X1 : IntE .add .i64 (X : Int) 1 (int ((X + 1 : Nat) : Int)) := ⟨by simp only [intV]; rw [wrap_i64 (by omega) (by omega)]; congr 2⟩
  have X2 : IntE .add .i64 (X : Int) 2 (int ((X + 2 : Nat) : Int)) := ⟨by simp only [intV]; rw [wrap_i64 (by omega) (by omega)]; congr 2⟩
  have Q0 : IntE .add .i64 (Q : Int) 0 (int (Q : Int)) := ⟨by simp only [intV, Int.add_zero]; rw [wrap_i64 (by omega) (by omega)]⟩
  have Q1 : IntE .add .i64 (Q : Int) 1 (int ((Q + 1 : Nat) : Int)) := ⟨by simp only [intV]; rw [wrap_i64 (by omega) (by omega)]; congr 2⟩
  have Q2 : IntE .add .i64 (Q : Int) 2 (int ((Q + 2 : Nat) : Int)) := ⟨by simp only [intV]; rw [wrap_i64 (by omega) (by omega)]; congr 2⟩
  have hX1 : X + 2 < 2 ^ m := by omega
  obtain ⟨b0, b1, b2, b3, b4, b5, -⟩ := gt_are (m := m) (by omega) hX1 hX1
  obtain ⟨uG0, ol, om, og⟩ := glide_out (X := X) (d := d) m7 him (by rw [hX, hh]) hd
  have i0 : Inv 8000 (glU m X d) [] := inv_nil (glU_len (by omega) m16 hX1) (by omega)
  have hU : ∀ t, (t ∈ T.emptyNew (m - 3) ∨ t ∈ (T.empty (m - 3)).setNew (X + 1) X true ∨ t ∈ (gt1 m X X).setNew (X + 2) (X + 1) true ∨ t ∈ (gt2 m X X).setNew X (X + 2) true ∨ t ∈ (gt3 m X X).setNew (X + 1) (X + 2) true ∨ t ∈ (gt4 m X X).setNew (X + 2) (X + 2) true ∨ t ∈ gliU X X d m) → t ∈ glU m X d := fun t ht => by
    unfold glU; simpa only [List.mem_append] using ht
  have mk : m = m - 4 + 4 := by omega
  have uG : ∀ t ∈ T.growNew 8 12 (m - 4) (gt5 m X X) (i + 2), t ∈ glU m X d := fun t ht => hU t (.inr (.inr (.inr (.inr (.inr (.inr (uG0 t ht)))))))
  have og1 : ∀ dx dy : Nat, ((dx : Int), (dy : Int)) ∈ gl0 → dx ≤ 2 → dy ≤ 2 → (T.grow 8 12 (m - 4) (gt5 m X X) (i + 2)).get (Q + dx) (Q + dy) = true := fun dx dy hq h1 h2 =>
    og _ hq _ _ (by push_cast; omega) (by push_cast; omega) (by omega) (by omega)
  -- the squares
  have hE := fun s => Empty_is (s := s) (k := m - 3) (L := (m : Int)) i0 (by omega) (by omega) (fun t ht => hU t (.inl ht))
  obtain ⟨e3, e4⟩ := T.emptyNew_goods i0.reg (m - 3) (by omega)
  have S0 : Step 8000 (glU m X d) [] (puts [] (T.emptyNew (m - 3))) := ⟨puts_pre _ _, i0.puts (fun t ht => hU t (.inl ht)) e3⟩
  generalize puts [] (T.emptyNew (m - 3)) = ts0 at *
  have j0 := is_num e4
  generalize num ts0 (T.empty (m - 3)) = id0 at *
  have hS1 := fun s => Set_is (s := s) true (T.empty (m - 3)) S0.inv j0 (x := X + 1) (y := X) (by rw [b0.2]; omega) (by rw [b0.2]; omega) (fun t ht => hU t (.inr (.inl ht)))
  obtain ⟨s1, q1⟩ := T.setNew_goods S0.inv.reg true (T.empty (m - 3)) (X + 1) X e4 (by rw [b0.2]; omega) (by rw [b0.2]; omega)
  have S1 : Step 8000 (glU m X d) ts0 (puts ts0 ((T.empty (m - 3)).setNew (X + 1) X true)) := ⟨puts_pre _ _, S0.inv.puts (fun t ht => hU t (.inr (.inl ht))) s1⟩
  rw [show (T.empty (m - 3)).set (X + 1) X true = gt1 m X X from by unfold gt1; rfl] at hS1 q1
  generalize puts ts0 ((T.empty (m - 3)).setNew (X + 1) X true) = ts1 at *
  have j1 := is_num q1
  generalize num ts1 (gt1 m X X) = id1 at *
  have hS2 := fun s => Set_is (s := s) true (gt1 m X X) S1.inv j1 (x := X + 2) (y := X + 1) (by rw [b1.2]; omega) (by rw [b1.2]; omega) (fun t ht => hU t (.inr (.inr (.inl ht))))
  obtain ⟨s2, q2⟩ := T.setNew_goods S1.inv.reg true (gt1 m X X) (X + 2) (X + 1) q1 (by rw [b1.2]; omega) (by rw [b1.2]; omega)
  have S2 : Step 8000 (glU m X d) ts1 (puts ts1 ((gt1 m X X).setNew (X + 2) (X + 1) true)) := ⟨puts_pre _ _, S1.inv.puts (fun t ht => hU t (.inr (.inr (.inl ht)))) s2⟩
  rw [show (gt1 m X X).set (X + 2) (X + 1) true = gt2 m X X from by unfold gt2; rfl] at hS2 q2
  generalize puts ts1 ((gt1 m X X).setNew (X + 2) (X + 1) true) = ts2 at *
  have j2 := is_num q2
  generalize num ts2 (gt2 m X X) = id2 at *
  have hS3 := fun s => Set_is (s := s) true (gt2 m X X) S2.inv j2 (x := X) (y := X + 2) (by rw [b2.2]; omega) (by rw [b2.2]; omega) (fun t ht => hU t (.inr (.inr (.inr (.inl ht)))))
  obtain ⟨s3, q3⟩ := T.setNew_goods S2.inv.reg true (gt2 m X X) X (X + 2) q2 (by rw [b2.2]; omega) (by rw [b2.2]; omega)
  have S3 : Step 8000 (glU m X d) ts2 (puts ts2 ((gt2 m X X).setNew X (X + 2) true)) := ⟨puts_pre _ _, S2.inv.puts (fun t ht => hU t (.inr (.inr (.inr (.inl ht))))) s3⟩
  rw [show (gt2 m X X).set X (X + 2) true = gt3 m X X from by unfold gt3; rfl] at hS3 q3
  generalize puts ts2 ((gt2 m X X).setNew X (X + 2) true) = ts3 at *
  have j3 := is_num q3
  generalize num ts3 (gt3 m X X) = id3 at *
  have hS4 := fun s => Set_is (s := s) true (gt3 m X X) S3.inv j3 (x := X + 1) (y := X + 2) (by rw [b3.2]; omega) (by rw [b3.2]; omega) (fun t ht => hU t (.inr (.inr (.inr (.inr (.inl ht))))))
  obtain ⟨s4, q4⟩ := T.setNew_goods S3.inv.reg true (gt3 m X X) (X + 1) (X + 2) q3 (by rw [b3.2]; omega) (by rw [b3.2]; omega)
  have S4 : Step 8000 (glU m X d) ts3 (puts ts3 ((gt3 m X X).setNew (X + 1) (X + 2) true)) := ⟨puts_pre _ _, S3.inv.puts (fun t ht => hU t (.inr (.inr (.inr (.inr (.inl ht)))))) s4⟩
  rw [show (gt3 m X X).set (X + 1) (X + 2) true = gt4 m X X from by unfold gt4; rfl] at hS4 q4
  generalize puts ts3 ((gt3 m X X).setNew (X + 1) (X + 2) true) = ts4 at *
  have j4 := is_num q4
  generalize num ts4 (gt4 m X X) = id4 at *
  have hS5 := fun s => Set_is (s := s) true (gt4 m X X) S4.inv j4 (x := X + 2) (y := X + 2) (by rw [b4.2]; omega) (by rw [b4.2]; omega) (fun t ht => hU t (.inr (.inr (.inr (.inr (.inr (.inl ht)))))))
  obtain ⟨s5, q5⟩ := T.setNew_goods S4.inv.reg true (gt4 m X X) (X + 2) (X + 2) q4 (by rw [b4.2]; omega) (by rw [b4.2]; omega)
  have S5 : Step 8000 (glU m X d) ts4 (puts ts4 ((gt4 m X X).setNew (X + 2) (X + 2) true)) := ⟨puts_pre _ _, S4.inv.puts (fun t ht => hU t (.inr (.inr (.inr (.inr (.inr (.inl ht))))))) s5⟩
  rw [show (gt4 m X X).set (X + 2) (X + 2) true = gt5 m X X from by unfold gt5; rfl] at hS5 q5
  generalize puts ts4 ((gt4 m X X).setNew (X + 2) (X + 2) true) = ts5 at *
  have j5 := is_num q5
  generalize num ts5 (gt5 m X X) = id5 at *
  have hr8 : RuleOk 8 12 := ⟨by omega, by omega, by omega⟩
  refine callR_of Try.func5 rfl Try.ntmps5 rfl fun σ F => ?_
  repeat' first
    | (show W _ _ _ _ _ (_ :: _) _ _ _; first
      | refine W.remE rfl rfl rfl rfl (by omega) (by omega) f1 ?_
      | refine W.remE rfl rfl rfl rfl (by omega) (by omega) r1 ?_
      | refine W.pure rfl rfl rfl rfl ?_
      | refine W.binE rfl rfl rfl rfl (by assumption) ?_
      | refine W.convE rfl rfl rfl (by assumption) ?_
      | refine W.sub64 rfl rfl rfl rfl (by omega) ?_)
    | refine W.nil ?_
    | refine J.reg ?_
    | refine J.seq ?_
  refine W.call (QNew_is (room := 8000) (by omega) (by omega)) (ks := []) rfl rfl rfl rfl fun v N hh => ?_
  obtain ⟨s, rfl, rfl⟩ := hh
  simp only [List.cons_append, List.nil_append]
  repeat' first
    | refine W.pure rfl rfl rfl rfl ?_
    | refine W.build rfl rfl rfl ?_
    | refine W.nil ?_
    | refine J.reg ?_
    | refine J.seq ?_
  refine W.call (GNew_is (s := s) hr8 (okG 8 12 ts5)) (ks := []) rfl rfl rfl rfl fun v N hh => ?_
  obtain ⟨g, rfl, rfl⟩ := hh
  simp only [List.cons_append, List.nil_append]
  repeat' first
    | (show W _ _ _ _ _ (_ :: _) _ _ _; first
      | refine W.call1 (hE s) rfl rfl rfl ?_
      | refine W.pure rfl rfl rfl rfl ?_
      | refine W.shlE rfl rfl rfl rfl (by omega) (by assumption) ?_
      | refine W.sub64 rfl rfl rfl rfl (by omega) ?_
      | refine W.alloc rfl rfl (fun bq => ?_)
      | refine W.storeA rfl rfl rfl rfl (by rfl) (by rfl) (by simp [Value.oneCell']) ?_
      | refine W.neIfNilT rfl rfl rfl ?_
      | refine W.build rfl rfl rfl ?_)
    | refine W.nil ?_
    | refine J.reg ?_
    | refine J.seq ?_
    | refine J.condF rfl ?_
    | refine J.block ?_
    | refine J.skip ?_
  refine J.rounds 6 ?_
  repeat' first
    | (show W _ _ _ _ _ (_ :: _) _ _ _; first
      | refine W.pure rfl rfl rfl rfl ?_
      | refine W.cmpT rfl rfl rfl rfl (by simp only [cmpP]; first | done | omega) ?_
      | refine W.eqIfNilT rfl rfl rfl ?_)
    | refine W.nil ?_
    | refine J.reg ?_
    | refine J.seq ?_
    | refine J.condT rfl ?_
    | refine J.block ?_
    | refine J.skip ?_
    | refine J.rnd ?_
  refine J.regD [s] mixed (by kernel_rfl) ?_
  repeat' first
    | (show W _ _ _ _ _ (_ :: _) _ _ _; first
      | refine W.call1 (hS1 s) rfl rfl rfl ?_
      | refine W.pure rfl rfl rfl rfl ?_
      | refine W.binE rfl rfl rfl rfl (by assumption) ?_
      | refine W.cmpT rfl rfl rfl rfl (by simp only [cmpP]; first | done | omega) ?_
      | refine W.indexAddrE rfl rfl rfl rfl (by omega) (by simp only [Int.reduceToNat, Int.reduceAdd, Int.reduceMul, Int.reduceSub, Nat.reduceMul, Nat.reduceAdd, Nat.zero_add]; rfl) ?_
      | refine W.ld rfl rfl rfl rfl rfl ?_
      | refine W.add64E rfl rfl rfl rfl (by simp only [Int.reduceAdd, Int.reduceMul]; rfl) (by omega) ?_
      | refine W.eqIfNilT rfl rfl rfl ?_)
    | refine W.nil ?_
    | refine J.reg ?_
    | refine J.seq ?_
    | refine J.condT rfl ?_
    | refine J.block ?_
    | refine J.endBlk ?_
    | refine J.skip ?_
    | refine J.rnd ?_
  refine J.regD [s] mixed (by kernel_rfl) ?_
  repeat' first
    | (show W _ _ _ _ _ (_ :: _) _ _ _; first
      | refine W.call1 (hS2 s) rfl rfl rfl ?_
      | refine W.pure rfl rfl rfl rfl ?_
      | refine W.binE rfl rfl rfl rfl (by assumption) ?_
      | refine W.cmpT rfl rfl rfl rfl (by simp only [cmpP]; first | done | omega) ?_
      | refine W.indexAddrE rfl rfl rfl rfl (by omega) (by simp only [Int.reduceToNat, Int.reduceAdd, Int.reduceMul, Int.reduceSub, Nat.reduceMul, Nat.reduceAdd, Nat.zero_add]; rfl) ?_
      | refine W.ld rfl rfl rfl rfl rfl ?_
      | refine W.add64E rfl rfl rfl rfl (by simp only [Int.reduceAdd, Int.reduceMul]; rfl) (by omega) ?_
      | refine W.eqIfNilT rfl rfl rfl ?_)
    | refine W.nil ?_
    | refine J.reg ?_
    | refine J.seq ?_
    | refine J.condT rfl ?_
    | refine J.block ?_
    | refine J.endBlk ?_
    | refine J.skip ?_
    | refine J.rnd ?_
  refine J.regD [s] mixed (by kernel_rfl) ?_
  repeat' first
    | (show W _ _ _ _ _ (_ :: _) _ _ _; first
      | refine W.call1 (hS3 s) rfl rfl rfl ?_
      | refine W.pure rfl rfl rfl rfl ?_
      | refine W.binE rfl rfl rfl rfl (by assumption) ?_
      | refine W.cmpT rfl rfl rfl rfl (by simp only [cmpP]; first | done | omega) ?_
      | refine W.indexAddrE rfl rfl rfl rfl (by omega) (by simp only [Int.reduceToNat, Int.reduceAdd, Int.reduceMul, Int.reduceSub, Nat.reduceMul, Nat.reduceAdd, Nat.zero_add]; rfl) ?_
      | refine W.ld rfl rfl rfl rfl rfl ?_
      | refine W.add64E rfl rfl rfl rfl (by simp only [Int.reduceAdd, Int.reduceMul]; rfl) (by omega) ?_
      | refine W.eqIfNilT rfl rfl rfl ?_)
    | refine W.nil ?_
    | refine J.reg ?_
    | refine J.seq ?_
    | refine J.condT rfl ?_
    | refine J.block ?_
    | refine J.endBlk ?_
    | refine J.skip ?_
    | refine J.rnd ?_
  refine J.regD [s] mixed (by kernel_rfl) ?_
  repeat' first
    | (show W _ _ _ _ _ (_ :: _) _ _ _; first
      | refine W.call1 (hS4 s) rfl rfl rfl ?_
      | refine W.pure rfl rfl rfl rfl ?_
      | refine W.binE rfl rfl rfl rfl (by assumption) ?_
      | refine W.cmpT rfl rfl rfl rfl (by simp only [cmpP]; first | done | omega) ?_
      | refine W.indexAddrE rfl rfl rfl rfl (by omega) (by simp only [Int.reduceToNat, Int.reduceAdd, Int.reduceMul, Int.reduceSub, Nat.reduceMul, Nat.reduceAdd, Nat.zero_add]; rfl) ?_
      | refine W.ld rfl rfl rfl rfl rfl ?_
      | refine W.add64E rfl rfl rfl rfl (by simp only [Int.reduceAdd, Int.reduceMul]; rfl) (by omega) ?_
      | refine W.eqIfNilT rfl rfl rfl ?_)
    | refine W.nil ?_
    | refine J.reg ?_
    | refine J.seq ?_
    | refine J.condT rfl ?_
    | refine J.block ?_
    | refine J.endBlk ?_
    | refine J.skip ?_
    | refine J.rnd ?_
  refine J.regD [s] mixed (by kernel_rfl) ?_
  repeat' first
    | (show W _ _ _ _ _ (_ :: _) _ _ _; first
      | refine W.call1 (hS5 s) rfl rfl rfl ?_
      | refine W.pure rfl rfl rfl rfl ?_
      | refine W.binE rfl rfl rfl rfl (by assumption) ?_
      | refine W.cmpF rfl rfl rfl rfl (by simp only [cmpN]; first | done | omega) ?_
      | refine W.indexAddrE rfl rfl rfl rfl (by omega) (by simp only [Int.reduceToNat, Int.reduceAdd, Int.reduceMul, Int.reduceSub, Nat.reduceMul, Nat.reduceAdd, Nat.zero_add]; rfl) ?_
      | refine W.ld rfl rfl rfl rfl rfl ?_
      | refine W.add64E rfl rfl rfl rfl (by simp only [Int.reduceAdd, Int.reduceMul]; rfl) (by omega) ?_
      | refine W.skip rfl rfl ?_
      | refine W.neIfNilT rfl rfl rfl ?_)
    | refine W.nil ?_
    | refine J.reg ?_
    | refine J.seq ?_
    | refine J.condF rfl ?_
    | refine J.endBlk ?_
    | refine J.skip ?_
    | refine J.rnd ?_
    | refine J.exit rfl ?_
  have h6 := Grow_is (g := g) (s := s) (n := 0) (Ji := ((i + 2 : Nat) : Int)) (j := i + 2) hr8 S5.inv j5 (by rw [b5.2]; exact mk) rfl (by omega) uG
  repeat' first
    | refine W.gk h6 rfl rfl rfl (fun ts6 o6 n6 S6 j6 z6 => ?_)
    | refine W.pure rfl rfl rfl rfl ?_
    | refine W.nil ?_
    | refine J.reg ?_
    | refine J.seq ?_
  have n9 := Count_T (s := s) S6.inv j6
  rw [om] at n9
  have hG : ∀ dx dy : Nat, ((dx : Int), (dy : Int)) ∈ gl0 → dx ≤ 2 → dy ≤ 2 → CallF P 18 [ptr s, int o6, int ((Q + dx : Nat) : Int), int ((Q + dy : Nat) : Int)] [(s, treeP s 8000 ts6)] (.tuple #[.bool true, .nilIface]) [(s, treeP s 8000 ts6)] := fun dx dy hq h1 h2 => by
    have := Get_is (s := s) (x := Q + dx) (y := Q + dy) S6.inv j6 (by rw [ol]; omega) (by rw [ol]; omega)
    rw [og1 dx dy hq h1 h2] at this
    exact this
  have hG1 := hG 1 0 (by unfold gl0; simp) (by omega) (by omega)
  have hG2 := hG 2 1 (by unfold gl0; simp) (by omega) (by omega)
  have hG3 := hG 0 2 (by unfold gl0; simp) (by omega) (by omega)
  have hG4 := hG 1 2 (by unfold gl0; simp) (by omega) (by omega)
  have hG5 := hG 2 2 (by unfold gl0; simp) (by omega) (by omega)
  rw [Nat.add_zero] at hG1 hG3
  repeat' first
    | (show W _ _ _ _ _ (_ :: _) _ _ _; first
      | refine W.call1 n9 rfl rfl rfl ?_
      | refine W.pure rfl rfl rfl rfl ?_
      | refine W.shlE rfl rfl rfl rfl (by omega) (by assumption) ?_
      | refine W.cmpF rfl rfl rfl rfl (by simp only [cmpN]; first | done | omega) ?_
      | refine W.sub64 rfl rfl rfl rfl (by omega) ?_
      | refine W.neIfNilT rfl rfl rfl ?_)
    | refine W.nil ?_
    | refine J.reg ?_
    | refine J.seq ?_
    | refine J.condF rfl ?_
    | refine J.block ?_
    | refine J.skip ?_
  refine J.rounds 6 ?_
  repeat' first
    | refine W.pure rfl rfl rfl rfl ?_
    | refine W.cmpT rfl rfl rfl rfl (by simp only [cmpP]; first | done | omega) ?_
    | refine W.nil ?_
    | refine J.reg ?_
    | refine J.seq ?_
    | refine J.condT rfl ?_
    | refine J.block ?_
    | refine J.skip ?_
    | refine J.rnd ?_
  refine J.regD [s] mixed (by kernel_rfl) ?_
  repeat' first
    | (show W _ _ _ _ _ (_ :: _) _ _ _; first
      | refine W.call1 hG1 rfl rfl rfl ?_
      | refine W.not rfl rfl rfl ?_
      | refine W.pure rfl rfl rfl rfl ?_
      | refine W.binE rfl rfl rfl rfl (by assumption) ?_
      | refine W.cmpT rfl rfl rfl rfl (by simp only [cmpP]; first | done | omega) ?_
      | refine W.indexAddrE rfl rfl rfl rfl (by omega) (by simp only [Int.reduceToNat, Int.reduceAdd, Int.reduceMul, Int.reduceSub, Nat.reduceMul, Nat.reduceAdd, Nat.zero_add]; rfl) ?_
      | refine W.ld rfl rfl rfl rfl rfl ?_
      | refine W.add64E rfl rfl rfl rfl (by simp only [Int.reduceAdd, Int.reduceMul]; rfl) (by omega) ?_
      | refine W.neIfNilT rfl rfl rfl ?_)
    | refine W.nil ?_
    | refine J.reg ?_
    | refine J.seq ?_
    | refine J.condT rfl ?_
    | refine J.condF rfl ?_
    | refine J.block ?_
    | refine J.endBlk ?_
    | refine J.skip ?_
    | refine J.rnd ?_
  refine J.regD [s] mixed (by kernel_rfl) ?_
  repeat' first
    | (show W _ _ _ _ _ (_ :: _) _ _ _; first
      | refine W.call1 hG2 rfl rfl rfl ?_
      | refine W.not rfl rfl rfl ?_
      | refine W.pure rfl rfl rfl rfl ?_
      | refine W.binE rfl rfl rfl rfl (by assumption) ?_
      | refine W.cmpT rfl rfl rfl rfl (by simp only [cmpP]; first | done | omega) ?_
      | refine W.indexAddrE rfl rfl rfl rfl (by omega) (by simp only [Int.reduceToNat, Int.reduceAdd, Int.reduceMul, Int.reduceSub, Nat.reduceMul, Nat.reduceAdd, Nat.zero_add]; rfl) ?_
      | refine W.ld rfl rfl rfl rfl rfl ?_
      | refine W.add64E rfl rfl rfl rfl (by simp only [Int.reduceAdd, Int.reduceMul]; rfl) (by omega) ?_
      | refine W.neIfNilT rfl rfl rfl ?_)
    | refine W.nil ?_
    | refine J.reg ?_
    | refine J.seq ?_
    | refine J.condT rfl ?_
    | refine J.condF rfl ?_
    | refine J.block ?_
    | refine J.endBlk ?_
    | refine J.skip ?_
    | refine J.rnd ?_
  refine J.regD [s] mixed (by kernel_rfl) ?_
  repeat' first
    | (show W _ _ _ _ _ (_ :: _) _ _ _; first
      | refine W.call1 hG3 rfl rfl rfl ?_
      | refine W.not rfl rfl rfl ?_
      | refine W.pure rfl rfl rfl rfl ?_
      | refine W.binE rfl rfl rfl rfl (by assumption) ?_
      | refine W.cmpT rfl rfl rfl rfl (by simp only [cmpP]; first | done | omega) ?_
      | refine W.indexAddrE rfl rfl rfl rfl (by omega) (by simp only [Int.reduceToNat, Int.reduceAdd, Int.reduceMul, Int.reduceSub, Nat.reduceMul, Nat.reduceAdd, Nat.zero_add]; rfl) ?_
      | refine W.ld rfl rfl rfl rfl rfl ?_
      | refine W.add64E rfl rfl rfl rfl (by simp only [Int.reduceAdd, Int.reduceMul]; rfl) (by omega) ?_
      | refine W.neIfNilT rfl rfl rfl ?_)
    | refine W.nil ?_
    | refine J.reg ?_
    | refine J.seq ?_
    | refine J.condT rfl ?_
    | refine J.condF rfl ?_
    | refine J.block ?_
    | refine J.endBlk ?_
    | refine J.skip ?_
    | refine J.rnd ?_
  refine J.regD [s] mixed (by kernel_rfl) ?_
  repeat' first
    | (show W _ _ _ _ _ (_ :: _) _ _ _; first
      | refine W.call1 hG4 rfl rfl rfl ?_
      | refine W.not rfl rfl rfl ?_
      | refine W.pure rfl rfl rfl rfl ?_
      | refine W.binE rfl rfl rfl rfl (by assumption) ?_
      | refine W.cmpT rfl rfl rfl rfl (by simp only [cmpP]; first | done | omega) ?_
      | refine W.indexAddrE rfl rfl rfl rfl (by omega) (by simp only [Int.reduceToNat, Int.reduceAdd, Int.reduceMul, Int.reduceSub, Nat.reduceMul, Nat.reduceAdd, Nat.zero_add]; rfl) ?_
      | refine W.ld rfl rfl rfl rfl rfl ?_
      | refine W.add64E rfl rfl rfl rfl (by simp only [Int.reduceAdd, Int.reduceMul]; rfl) (by omega) ?_
      | refine W.neIfNilT rfl rfl rfl ?_)
    | refine W.nil ?_
    | refine J.reg ?_
    | refine J.seq ?_
    | refine J.condT rfl ?_
    | refine J.condF rfl ?_
    | refine J.block ?_
    | refine J.endBlk ?_
    | refine J.skip ?_
    | refine J.rnd ?_
  refine J.regD [s] mixed (by kernel_rfl) ?_
  repeat' first
    | (show W _ _ _ _ _ (_ :: _) _ _ _; first
      | refine W.call1 hG5 rfl rfl rfl ?_
      | refine W.not rfl rfl rfl ?_
      | refine W.call0 sure_is rfl rfl rfl ?_
      | refine W.pure rfl rfl rfl rfl ?_
      | refine W.binE rfl rfl rfl rfl (by assumption) ?_
      | refine W.cmpF rfl rfl rfl rfl (by simp only [cmpN]; first | done | omega) ?_
      | refine W.indexAddrE rfl rfl rfl rfl (by omega) (by simp only [Int.reduceToNat, Int.reduceAdd, Int.reduceMul, Int.reduceSub, Nat.reduceMul, Nat.reduceAdd, Nat.zero_add]; rfl) ?_
      | refine W.ld rfl rfl rfl rfl rfl ?_
      | refine W.add64E rfl rfl rfl rfl (by simp only [Int.reduceAdd, Int.reduceMul]; rfl) (by omega) ?_
      | refine W.neIfNilT rfl rfl rfl ?_)
    | refine W.nil ?_
    | refine J.reg ?_
    | refine J.seq ?_
    | refine J.condF rfl ?_
    | refine J.endBlk ?_
    | refine J.skip ?_
    | refine J.rnd ?_
    | refine J.exit rfl ?_
  exact J.retF [] (res1 rfl rfl) rfl
end Go.Proofs.Ytphnadpmpcifoaa
/-
  From a call's contract to a row, where nothing that came in is pointed to.
-/
namespace Go.Proofs.Ytphnadpmpcifoaa
open Go.Sq Go.Qm Go.RowKit
theorem sat_start0 (W : World) : Sat (strOf W) W ([] ++ [(0, restP W 0 0)]) :=
  (sat_start (W := W) (len := 0) (bl := 0) (c := #[]) (T := 0) (fz := (0, 0)) (by omega)).tail
theorem sat_end0 {W W' : World} (hs : Sat (strOf W) W' ([] ++ [(0, restP W 0 0)])) : Below W.heap.size W W' := by
  obtain ⟨e, p, ⟨h3, h4, _, rfl, b, _⟩, hw⟩ := hs
  refine strOf_below e fun k hk => ?_
  have hkk : W.heap[k]? = some W.heap[k] := Array.getElem?_eq_getElem hk
  have b : restP W 0 0 h3 := b
  have hb3 := b k
  rw [if_neg (by omega)] at hb3
  rw [hkk]
  exact hw k _ (un_left (hb3.trans hkk))
end Go.Proofs.Ytphnadpmpcifoaa
namespace Go.Proofs.Ytphnadpmpcifoaa
open Go.Sq Go.Qm Go.ChangeShapes Go.WideShapes Go.ChangeAt Go.RowKit Go.Joins

set_option maxRecDepth 100000 in
theorem growGlides_lifted (os : Os) (started : os.Started) (H : Type) (enc : TypeId × Value → H) :
    ReturnsInHanded {} Try.checked os 5 .any (Rows.growGlidesSpec.pre6 enc Try.prog Try.f5 Rows.growGlidesRow.domain false) (Rows.growGlidesSpec.post enc Try.prog Try.f5 false true false false) := by
  refine returnsInHanded_of_change (C := Try.checked) own started (by kernel_rfl) Try.func5
    (ChangeSpec.witness6 (enc := enc) (C := Try.checked) false ⟨#[], #[.int .i64 0, .int .i64 0], []⟩ 8 (by kernel_rfl) (by kernel_rfl) (by kernel_rfl) (by kernel_rfl)) ?_
  intro W base args ds gs before hval0 hW hcnd _
  have hval : ∀ (j : Nat) t v, Try.f5.params[j]? = some t → args[j]? = some v → Value.okWide Try.prog W .any base t v := hval0
  have hW' := hW
  obtain ⟨p, q, hA0, hV, rfl, hfz, hnd⟩ := hW
  have hA : DataW.TrodAll enc Try.prog W 0 (fun _ => true) true Try.f5.params.toList args.toList ds p := hA0
  rw [Try.params5] at hA hval
  obtain ⟨v0, v1, d0, d1, p0, p1, rfl, rfl, rfl, h0, h1⟩ := trodAll_two hA
  obtain ⟨rfl, rfl⟩ := trodVars_none hV
  have k0 := h0; have k1 := h1
  obtain ⟨k, rfl, rfl, rfl, wk⟩ := open_int Try.underlying3 (hval 0 3 v0 rfl rfl) h0
  obtain ⟨j, rfl, rfl, rfl, wj⟩ := open_int Try.underlying3 (hval 1 3 v1 rfl rfl) h1
  clear hA0 hval0
  simp only [List.append_nil] at hW'
  have hlt := hW'.lt
  refine (growGlides_is (k := k) (j := j) (strOf W) [(0, restP W 0 0)] W (sat_start0 W)).mono fun e W' hh => ?_
  obtain ⟨v, N', ⟨rfl, rfl⟩, rfl, hs⟩ := hh
  have hbe := sat_end0 hs
  have st : ∀ {t : TypeId} {v : Value} {d : DataW H} {ps : List MemPlace} {sp : Nat → Bool}, Try.prog.readableRec t = true → t < Try.prog.types.size → DataW.Trod enc Try.prog W 0 (fun _ => true) true t v d ps → (∀ x ∈ ps, x.block < W.heap.size ∧ sp x.block = true) → DataW.Trod enc Try.prog W' 0 sp true t v d ps :=
    fun h1 h2 h3 h4 => WideElems.Trod_stays laidOut h1 h2 h3 (fun x hx => hbe.same (h4 x hx).1) (fun x hx => (h4 x hx).2)
  exact ⟨_, rfl, post_of_below (pv := []) hW' (fun _ _ _ => trodAll_mk1 (shut_bool Try.underlying4 _))
    (fun sp hsp => trodAll_mk2 (st (by kernel_rfl) (of_decide_eq_true (by kernel_rfl)) k0 (fun x hx => by simp at hx)) (st (by kernel_rfl) (of_decide_eq_true (by kernel_rfl)) k1 (fun x hx => by simp at hx)))
    (fun _ _ => rfl) (by simp) hbe (ok_one (by kernel_rfl) rfl (okWide_bool_mk Try.underlying4 _))⟩

theorem growGlides_holds : Rows.GrowGlidesSaid :=
  OpenClaim.holds_of_wide 5 Try.f5 rfl rfl rfl rfl rfl rfl rfl ⟨rfl, rfl, rfl, rfl, rfl⟩ rfl rfl rfl rfl rfl (by kernel_rfl) Try.func5 (by kernel_rfl)
    (of_decide_eq_true (by kernel_rfl)) (by unfold Func.isWrapper; first | (rw [if_pos (by decide +kernel)]; kernel_rfl) | (rw [if_neg (by decide +kernel)]; exact ⟨rfl, rfl⟩))
    (fun os started H enc _ => growGlides_lifted os started H enc)
#print axioms growGlides_holds
end Go.Proofs.Ytphnadpmpcifoaa
