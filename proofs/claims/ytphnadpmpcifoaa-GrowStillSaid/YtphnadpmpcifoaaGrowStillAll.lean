/-
  GrowStill is proved: whatever the input, quiltlaw12.GrowStill answers true, and the input reads as it did. No conditions.
-/
import Derived.Test.YtphnadpmpcifoaaLawW
import Derived.Test.YtphnadpmpcifoaaRow
import Derived.Test.YtphnadpmpcifoaaTLawW
import Derived.Test.YtphnadpmpcifoaaRows
/-
  Where a plane stays as it is: what going on makes lies at few places: plain.
-/
namespace Go.Qm
/-- The nine of a square, and their middles. -/
theorem nine_shows {t : T} {p : Plane} {ox oy : Int} {k w h : Nat} (ho : t.ok) (hl : t.lev = k + 5) (hw : w = 2 ^ (k + 3)) (hwh : w = 2 * h) (hs : Shows t p ox oy) : ∀ i, i < 9 →
    Shows (T.nineN t i) p (ox + (i % 3 * w : Nat)) (oy + (i / 3 * w : Nat)) ∧ Shows (T.nineC t i) p (ox + (i % 3 * w : Nat) + h) (oy + (i / 3 * w : Nat) + h) := fun i hi => by
  have gs := fun {y x : Nat} (hy : y < 4) (hx : x < 4) => shows_gr ho (by omega) hs (w := w) (by rw [hw, hl]; congr 1) hy hx
  have gl := fun y x => T.gr_ok ho (by omega) y x
  have v0 := gl (i / 3) (i % 3); have v1 := gl (i / 3) (i % 3 + 1); have v2 := gl (i / 3 + 1) (i % 3); have v3 := gl (i / 3 + 1) (i % 3 + 1)
  have f1 : (T.gr t (i / 3) (i % 3 + 1)).lev = (T.gr t (i / 3) (i % 3)).lev := by have := v0.2; have := v1.2; omega
  have f2 : (T.gr t (i / 3 + 1) (i % 3)).lev = (T.gr t (i / 3) (i % 3)).lev := by have := v0.2; have := v2.2; omega
  have f3 : (T.gr t (i / 3 + 1) (i % 3 + 1)).lev = (T.gr t (i / 3) (i % 3)).lev := by have := v0.2; have := v3.2; omega
  have fw : 2 ^ (T.gr t (i / 3) (i % 3)).lev = w := by rw [hw]; congr 1; have := v0.2; omega
  have ex : ox + ((i % 3 * w : Nat) : Int) + (w : Int) = ox + (((i % 3 + 1) * w : Nat) : Int) := by rw [Nat.add_mul]; omega
  have ey : oy + ((i / 3 * w : Nat) : Int) + (w : Int) = oy + (((i / 3 + 1) * w : Nat) : Int) := by rw [Nat.add_mul]; omega
  have s0 := gs (y := i / 3) (x := i % 3) (by omega) (by omega)
  have s1 := gs (y := i / 3) (x := i % 3 + 1) (by omega) (by omega)
  have s2 := gs (y := i / 3 + 1) (x := i % 3) (by omega) (by omega)
  have s3 := gs (y := i / 3 + 1) (x := i % 3 + 1) (by omega) (by omega)
  rw [← ex] at s1 s3
  rw [← ey] at s2 s3
  constructor
  · refine (shows_node f1 f2 f3).2 ?_
    rw [fw]
    exact ⟨s0, s1, s2, s3⟩
  · exact ctr_shows v0.1 v1.1 v2.1 v3.1 f1 f2 f3 fw.symm hwh s0 s1 s2 s3
/-- A plane that stays. -/
def Stays (b l : Nat) (p : Plane) : Prop := gen b l p = p
theorem Stays.gens {b l : Nat} {p : Plane} (h : Stays b l p) : ∀ n, gens b l p n = p
  | 0 => rfl
  | n + 1 => by rw [Qm.gens, h.gens n]; exact h
/-- Seen at a quarter's places. -/
def Seen (p : Plane) (m : Nat) (u : T) : Prop := u.ok ∧ u.lev ≤ m ∧ ∃ A B : Int, Shows u p (A * (2 ^ (u.lev - 2) : Nat)) (B * (2 ^ (u.lev - 2) : Nat))
theorem Seen.mono {p : Plane} {m n : Nat} {u : T} (h : Seen p m u) (hmn : m ≤ n) : Seen p n u := ⟨h.1, Nat.le_trans h.2.1 hmn, h.2.2⟩
theorem Seen.at {p : Plane} {m n : Nat} {u : T} {ox oy A B : Int} (ho : u.ok) (hl : u.lev = n + 3) (hm : n + 3 ≤ m) (hs : Shows u p ox oy) (ex : ox = A * (2 ^ (n + 1) : Nat)) (ey : oy = B * (2 ^ (n + 1) : Nat)) : Seen p m u := by
  refine ⟨ho, by omega, A, B, ?_⟩
  rw [hl, show n + 3 - 2 = n + 1 from rfl, ← ex, ← ey]
  exact hs
theorem grow_seen {b l : Nat} {p : Plane} (hp : Stays b l p) : ∀ (k : Nat) (t : T) (j : Nat) (A B : Int), t.ok → t.lev = k + 4 → j ≤ k + 2 → Shows t p (A * (2 ^ (k + 2) : Nat)) (B * (2 ^ (k + 2) : Nat)) → ∀ u ∈ T.growNew b l k t j, Seen p (k + 4) u
  | 0, t, j, A, B, ho, hl, hj, hs, u, hu => by
    simp only [T.growNew, List.mem_singleton] at hu
    subst hu
    have g := T.grow_ok b l 0 t j ho hl
    have s := grow_shows b l 0 t j p _ _ ho hl hj hs
    rw [hp.gens] at s
    exact Seen.at (n := 0) (A := 2 * (A + 1)) (B := 2 * (B + 1)) g.1 g.2 (by omega) s (by simp; omega) (by simp; omega)
  | k + 1, t, j, A, B, ho, hl, hj, hs, u, hu => by
    obtain ⟨w, hw⟩ : ∃ w, w = 2 ^ (k + 3) := ⟨_, rfl⟩
    obtain ⟨h, hh⟩ : ∃ h, h = 2 ^ (k + 2) := ⟨_, rfl⟩
    obtain ⟨q, hq⟩ : ∃ q, q = 2 ^ (k + 1) := ⟨_, rfl⟩
    have hwh : w = 2 * h := by rw [hw, hh, two_pow]
    have hhq : h = 2 * q := by rw [hh, hq, two_pow]
    have hs0 := hs
    rw [show k + 1 + 2 = k + 3 from rfl, ← hw] at hs
    have ns := nine_shows ho hl hw hwh hs
    have mo := T.mid_ok b l j ho (by omega : t.lev = k + 5)
    have nl := fun i => T.nineN_ok ho (by omega : 5 ≤ t.lev) i
    -- places
    have pl : ∀ (C : Int) (a : Nat), C * (w : Int) + ((a * w : Nat) : Int) = (2 * (C + a)) * (h : Int) := fun C a => by
      rw [hwh]; push_cast; rw [Int.mul_add, Int.add_mul]; congr 1
      · rw [← Int.mul_assoc, Int.mul_comm C 2]
      · rw [← Int.mul_assoc, Int.mul_comm (a : Int) 2]
    have pc : ∀ (C : Int) (a : Nat), C * (w : Int) + ((a * w : Nat) : Int) + (h : Int) = (2 * (C + a) + 1) * (h : Int) := fun C a => by rw [pl, Int.add_mul, Int.one_mul]
    have pq : ∀ (C : Int), C * (h : Int) = (2 * C) * (q : Int) := fun C => by rw [hhq]; push_cast; rw [← Int.mul_assoc, Int.mul_comm C 2]
    have ms : ∀ i, i < 9 → Shows (T.mid b l k t j i) p (A * w + (i % 3 * w : Nat) + h) (B * w + (i / 3 * w : Nat) + h) := fun i hi => by
      unfold T.mid
      split
      · have := grow_shows b l k _ (j - 1) p _ _ (nl i).1 (by have := (nl i).2; omega) (by omega) (ns i hi).1
        rw [hp.gens, ← hh] at this
        exact this
      · exact (ns i hi).2
    have mm : ∀ a c : Nat, a < 3 → c < 3 → Shows (T.mid b l k t j (a + c * 3)) p (A * w + (a * w : Nat) + h) (B * w + (c * w : Nat) + h) := fun a c ha hc => by
      have := ms (a + c * 3) (by omega)
      rw [show (a + c * 3) % 3 = a from by omega, show (a + c * 3) / 3 = c from by omega] at this
      exact this
    have qs : ∀ a c : Nat, a < 2 → c < 2 → Shows (.node (T.mid b l k t j (a + c * 3)) (T.mid b l k t j (a + c * 3 + 1)) (T.mid b l k t j (a + c * 3 + 3)) (T.mid b l k t j (a + c * 3 + 4))) p (A * w + (a * w : Nat) + h) (B * w + (c * w : Nat) + h) := fun a c ha hc => by
      have fw : 2 ^ (T.mid b l k t j (a + c * 3)).lev = w := by rw [hw, (mo _).2]
      refine (shows_node ((mo _).2.trans (mo _).2.symm) ((mo _).2.trans (mo _).2.symm) ((mo _).2.trans (mo _).2.symm)).2 ?_
      rw [fw]
      have ex : A * w + ((a * w : Nat) : Int) + (h : Int) + (w : Int) = A * w + (((a + 1) * w : Nat) : Int) + (h : Int) := by rw [Nat.add_mul]; omega
      have ey : B * w + ((c * w : Nat) : Int) + (h : Int) + (w : Int) = B * w + (((c + 1) * w : Nat) : Int) + (h : Int) := by rw [Nat.add_mul]; omega
      rw [ex, ey, show a + c * 3 + 1 = a + 1 + c * 3 from by omega, show a + c * 3 + 3 = a + (c + 1) * 3 from by omega, show a + c * 3 + 4 = a + 1 + (c + 1) * 3 from by omega]
      exact ⟨mm a c (by omega) (by omega), mm (a + 1) c (by omega) (by omega), mm a (c + 1) (by omega) (by omega), mm (a + 1) (c + 1) (by omega) (by omega)⟩
    have jb : T.jj k j ≤ k + 2 := by unfold T.jj; split <;> omega
    have mem : u ∈ T.growNew b l (k + 1) t j := hu
    simp only [T.growNew, List.mem_append, List.mem_flatMap, List.mem_range, List.mem_singleton] at hu
    rcases hu with (⟨i, hi, hu⟩ | ⟨i, hi, hu⟩) | hu
    · have sN := (ns i hi).1
      rw [pl, pl] at sN
      have sC := (ns i hi).2
      rw [pc, pc, pq, pq] at sC
      split at hu
      · rcases List.mem_cons.1 hu with rfl | hu
        · exact Seen.at (n := k + 1) (nl i).1 (by have := (nl i).2; omega) (by omega) sN (by rw [hh]) (by rw [hh])
        · rw [hh] at sN
          exact (grow_seen hp k _ (j - 1) _ _ (nl i).1 (by have := (nl i).2; omega) (by omega) sN u hu).mono (by omega)
      · rw [List.mem_singleton] at hu
        subst hu
        have c := T.nineC_ok ho (by omega : 5 ≤ t.lev) i
        exact Seen.at (n := k) c.1 (by have := c.2; omega) (by omega) sC (by rw [hq]) (by rw [hq])
    · have sQ := qs (i % 2) (i / 2) (by omega) (by omega)
      have sQ : Shows (T.quad (T.mid b l k t j) i) p _ _ := sQ
      rw [pc, pc] at sQ
      have qo := T.quad_ok mo i
      rcases List.mem_cons.1 hu with rfl | hu
      · exact Seen.at (n := k + 1) qo.1 (by rw [qo.2]) (by omega) sQ (by rw [hh]) (by rw [hh])
      · rw [hh] at sQ
        exact (grow_seen hp k _ (T.jj k j) _ _ qo.1 (by rw [qo.2]) jb sQ u hu).mono (by omega)
    · subst hu
      have g := T.grow_ok b l (k + 1) t j ho hl
      have s := grow_shows b l (k + 1) t j p _ _ ho hl hj hs0
      rw [hp.gens, show k + 1 + 2 = k + 3 from rfl, ← hw] at s
      have e : ∀ C : Int, C * (w : Int) + (w : Int) = (2 * (C + 1)) * (h : Int) := fun C => by
        have := pl C 1; rw [Nat.one_mul] at this; exact this
      rw [e, e] at s
      exact Seen.at (n := k + 1) g.1 g.2 (by omega) s (by rw [hh]) (by rw [hh])
/-- The square that shows a plane. -/
def treeOf (p : Plane) : Nat → Int → Int → T
  | 0, ox, oy => .leaf (bitsOf (fun i => p (ox + (i % 8 : Nat)) (oy + (i / 8 : Nat))) 64)
  | n + 1, ox, oy => .node (treeOf p n ox oy) (treeOf p n (ox + (2 ^ (n + 3) : Nat)) oy) (treeOf p n ox (oy + (2 ^ (n + 3) : Nat))) (treeOf p n (ox + (2 ^ (n + 3) : Nat)) (oy + (2 ^ (n + 3) : Nat)))
theorem treeOf_lev (p : Plane) : ∀ n ox oy, (treeOf p n ox oy).lev = n + 3
  | 0, _, _ => rfl
  | n + 1, ox, oy => by simp only [treeOf, T.lev, treeOf_lev p n]
theorem leaf_of_lt {n : Nat} (h : n < 2 ^ 64) : (T.leaf n).ok := h
theorem treeOf_ok (p : Plane) : ∀ n ox oy, (treeOf p n ox oy).ok
  | 0, _, _ => leaf_of_lt (bitsOf_lt _ 64)
  | n + 1, ox, oy => T.node_ok (treeOf_ok p n _ _) (treeOf_ok p n _ _) (treeOf_ok p n _ _) (treeOf_ok p n _ _) (by rw [treeOf_lev, treeOf_lev]) (by rw [treeOf_lev, treeOf_lev]) (by rw [treeOf_lev, treeOf_lev])
theorem treeOf_shows (p : Plane) : ∀ n ox oy, Shows (treeOf p n ox oy) p ox oy
  | 0, ox, oy => by
    intro x y hx hy
    have hx : x < 8 := hx
    have hy : y < 8 := hy
    simp only [treeOf, T.get]
    rw [bitsOf_bit, decide_eq_true (by omega), Bool.true_and, show (8 * y + x) % 8 = x from by omega, show (8 * y + x) / 8 = y from by omega]
  | n + 1, ox, oy => by
    refine (shows_node (by rw [treeOf_lev, treeOf_lev]) (by rw [treeOf_lev, treeOf_lev]) (by rw [treeOf_lev, treeOf_lev])).2 ?_
    rw [treeOf_lev]
    exact ⟨treeOf_shows p n _ _, treeOf_shows p n _ _, treeOf_shows p n _ _, treeOf_shows p n _ _⟩
theorem treeOf_is {t : T} {p : Plane} {n : Nat} {ox oy : Int} (ho : t.ok) (hl : t.lev = n + 3) (hs : Shows t p ox oy) : t = treeOf p n ox oy :=
  shows_ext ho (treeOf_ok p n ox oy) (hl.trans (treeOf_lev p n ox oy).symm) hs (treeOf_shows p n ox oy)
def nowhere : Plane := fun _ _ => false
theorem nowhere_stays {b l : Nat} (hb : b % 2 = 0) : Stays b l nowhere := by
  funext x y
  unfold gen nbr nowhere nextB
  simp [b2n, hb]
theorem shows_nowhere {t : T} {p : Plane} {ox oy ox' oy' : Int} (hs : Shows t p ox oy) (h : ∀ x y : Nat, x < 2 ^ t.lev → y < 2 ^ t.lev → p (ox + x) (oy + y) = false) : Shows t nowhere ox' oy' := fun x y hx hy => by
  rw [hs x y hx hy, h x y hx hy]; rfl
theorem empty_nowhere (k : Nat) (ox oy : Int) : Shows (T.empty k) nowhere ox oy := by
  induction k generalizing ox oy with
  | zero => intro x y _ _; simp [T.empty, T.get, nowhere]
  | succ k ih =>
    exact (shows_node rfl rfl rfl).2 ⟨ih _ _, ih _ _, ih _ _, ih _ _⟩
/-- All squares that a block at X, Y makes, where nothing is besides, up to level m. -/
def blkU (X Y : Int) (m : Nat) : List T :=
  (List.range (m - 2)).flatMap fun n => treeOf nowhere n 0 0 :: (List.range 5).flatMap fun (i : Nat) => (List.range 5).map fun (j : Nat) =>
    treeOf (blk X Y) n ((X / (2 ^ (n + 1) : Nat) - 3 + (i : Int)) * (2 ^ (n + 1) : Nat)) ((Y / (2 ^ (n + 1) : Nat) - 3 + (j : Int)) * (2 ^ (n + 1) : Nat))
theorem blkU_len (X Y : Int) (m : Nat) : (blkU X Y m).length ≤ (m - 2) * 26 := by
  refine flats_len _ 26 (fun n => ?_) (m - 2)
  have := flats_len (fun i : Nat => (List.range 5).map fun j : Nat => treeOf (blk X Y) n ((X / (2 ^ (n + 1) : Nat) - 3 + (i : Int)) * (2 ^ (n + 1) : Nat)) ((Y / (2 ^ (n + 1) : Nat) - 3 + (j : Int)) * (2 ^ (n + 1) : Nat))) 5 (fun i => by simp) 5
  simp only [List.length_cons]
  omega
theorem nowhere_mem {X Y : Int} {m : Nat} {u : T} (h : Seen nowhere m u) : u ∈ blkU X Y m := by
  obtain ⟨ho, hm, A, B, hs⟩ := h
  have := u.lev_ge
  refine List.mem_flatMap.2 ⟨u.lev - 3, List.mem_range.2 (by omega), ?_⟩
  rw [treeOf_is (n := u.lev - 3) (ox := 0) (oy := 0) ho (by omega) (shows_nowhere hs fun _ _ _ _ => rfl)]
  rw [treeOf_lev]
  exact List.mem_cons_self ..
theorem blk_mem {X Y : Int} {m : Nat} {u : T} (h : Seen (blk X Y) m u) : u ∈ blkU X Y m := by
  have h0 := h
  obtain ⟨ho, hm, A, B, hs⟩ := h
  have l3 := u.lev_ge
  obtain ⟨n, hn⟩ : ∃ n, u.lev = n + 3 := ⟨u.lev - 3, by omega⟩
  rw [hn, show n + 3 - 2 = n + 1 from rfl] at hs
  obtain ⟨c, hc⟩ : ∃ c : Nat, c = 2 ^ (n + 1) := ⟨_, rfl⟩
  have c0 : 0 < c := by rw [hc]; exact Nat.pow_pos (by omega)
  have w4 : 2 ^ u.lev = 4 * c := by rw [hn, hc, show n + 3 = n + 1 + 1 + 1 from rfl, two_pow, two_pow]; omega
  rw [← hc] at hs
  -- nothing of the block is in it
  have out : ∀ (C Z : Int), ¬ (Z / c - 3 ≤ C ∧ C ≤ Z / c + 1) → ∀ x : Nat, x < 4 * c → ¬ (C * c + x = Z ∨ C * c + x = Z + 1) := fun C Z hC x hx hx' => by
    have d1 := Int.mul_ediv_add_emod Z c
    have d2 := Int.emod_nonneg Z (show (c : Int) ≠ 0 by omega)
    have d3 := Int.emod_lt_of_pos Z (show (0 : Int) < c by omega)
    generalize Z / (c : Int) = Q at *
    generalize Z % (c : Int) = R at *
    rcases Int.lt_or_le C (Q - 3) with h1 | h1
    · have : (Q - 4) * (c : Int) ≥ C * c := Int.mul_le_mul_of_nonneg_right (by omega) (by omega)
      have e1 : (Q - 4) * (c : Int) = c * Q - 4 * c := by rw [Int.sub_mul, Int.mul_comm]
      omega
    · have : C * (c : Int) ≥ (Q + 2) * c := Int.mul_le_mul_of_nonneg_right (by omega) (by omega)
      have e1 : (Q + 2) * (c : Int) = c * Q + 2 * c := by rw [Int.add_mul, Int.mul_comm]
      omega
  by_cases hA : X / c - 3 ≤ A ∧ A ≤ X / c + 1
  · by_cases hB : Y / c - 3 ≤ B ∧ B ≤ Y / c + 1
    · refine List.mem_flatMap.2 ⟨n, List.mem_range.2 (by omega), List.mem_cons_of_mem _ ?_⟩
      refine List.mem_flatMap.2 ⟨(A - (X / c - 3)).toNat, List.mem_range.2 (by omega), List.mem_map.2 ⟨(B - (Y / c - 3)).toNat, List.mem_range.2 (by omega), ?_⟩⟩
      rw [← hc, show X / (c : Int) - 3 + ((A - (X / (c : Int) - 3)).toNat : Int) = A from by omega, show Y / (c : Int) - 3 + ((B - (Y / (c : Int) - 3)).toNat : Int) = B from by omega]
      exact (treeOf_is ho hn hs).symm
    · refine nowhere_mem ⟨ho, hm, 0, 0, shows_nowhere hs fun x y hx hy => ?_⟩
      have := out B Y hB y (by omega)
      unfold blk
      exact decide_eq_false (fun h => this h.2)
  · refine nowhere_mem ⟨ho, hm, 0, 0, shows_nowhere hs fun x y hx hy => ?_⟩
    have := out A X hA x (by omega)
    unfold blk
    exact decide_eq_false (fun h => this h.1)
end Go.Qm
/-
  A block, set cell by cell, and what GrowStill makes: plain.
-/
namespace Go.Qm
theorem setBit_bit (t n i : Nat) : (setBit t n true).testBit i = (decide (i = n) || t.testBit i) := by
  unfold setBit
  rw [if_pos rfl, Nat.testBit_or, Nat.testBit_two_pow]
  by_cases h : i = n
  · subst h; simp
  · have : ¬ n = i := fun e => h e.symm
    simp [h, this]
theorem get_set : ∀ (t : T) (x y x' y' : Nat), t.ok → x < 2 ^ t.lev → y < 2 ^ t.lev → x' < 2 ^ t.lev → y' < 2 ^ t.lev → (t.set x y true).get x' y' = (decide (x' = x ∧ y' = y) || t.get x' y')
  | .leaf n, x, y, x', y', _, hx, hy, hx', hy' => by
    have hx : x < 8 := hx
    have hx' : x' < 8 := hx'
    simp only [T.set, T.get]
    rw [setBit_bit]
    congr 1
    apply decide_eq_decide.2
    omega
  | .node a b c d, x, y, x', y', ⟨o1, o2, o3, o4, e1, e2, e3⟩, hx, hy, hx', hy' => by
    simp only [T.lev, Nat.pow_succ] at hx hy hx' hy'
    have la := T.set_lev true a x y o1
    by_cases h1 : y < 2 ^ a.lev <;> by_cases h2 : x < 2 ^ a.lev <;> by_cases h3 : y' < 2 ^ a.lev <;> by_cases h4 : x' < 2 ^ a.lev <;> simp only [T.set, T.get, h1, h2, h3, h4, if_true, if_false, la]
    all_goals first
      | (rw [get_set a _ _ _ _ o1] <;> first | omega | (congr 1; apply decide_eq_decide.2; omega))
      | (rw [get_set b _ _ _ _ o2] <;> first | (rw [e1]; omega) | (congr 1; apply decide_eq_decide.2; omega))
      | (rw [get_set c _ _ _ _ o3] <;> first | (rw [e2]; omega) | (congr 1; apply decide_eq_decide.2; omega))
      | (rw [get_set d _ _ _ _ o4] <;> first | (rw [e3]; omega) | (congr 1; apply decide_eq_decide.2; omega))
      | (rw [decide_eq_false (p := x' = x ∧ y' = y) (by omega), Bool.false_or])
def blk1 (m X Y : Nat) : T := (T.empty (m - 3)).set X Y true
def blk2 (m X Y : Nat) : T := (blk1 m X Y).set (X + 1) Y true
def blk3 (m X Y : Nat) : T := (blk2 m X Y).set X (Y + 1) true
def blk4 (m X Y : Nat) : T := (blk3 m X Y).set (X + 1) (Y + 1) true
/-- All that GrowStill makes. -/
def stillU (m X Y : Nat) : List T := T.emptyNew (m - 3) ++ ((T.empty (m - 3)).setNew X Y true ++ ((blk1 m X Y).setNew (X + 1) Y true ++ ((blk2 m X Y).setNew X (Y + 1) true ++ ((blk3 m X Y).setNew (X + 1) (Y + 1) true ++ blkU X Y m))))
theorem blk_are {m X Y : Nat} (hm : 3 ≤ m) (hX : X + 1 < 2 ^ m) (hY : Y + 1 < 2 ^ m) :
    ((T.empty (m - 3)).ok ∧ (T.empty (m - 3)).lev = m) ∧ ((blk1 m X Y).ok ∧ (blk1 m X Y).lev = m) ∧ ((blk2 m X Y).ok ∧ (blk2 m X Y).lev = m) ∧ ((blk3 m X Y).ok ∧ (blk3 m X Y).lev = m) ∧ ((blk4 m X Y).ok ∧ (blk4 m X Y).lev = m) ∧ Shows (blk4 m X Y) (blk X Y) 0 0 := by
  have h0 : (T.empty (m - 3)).ok ∧ (T.empty (m - 3)).lev = m := ⟨T.empty_ok _, by rw [T.empty_lev]; omega⟩
  have st : ∀ {t : T} {x y : Nat}, t.ok ∧ t.lev = m → x < 2 ^ m → y < 2 ^ m → (t.set x y true).ok ∧ (t.set x y true).lev = m := fun {t x y} h hx hy =>
    ⟨T.set_ok true t x y h.1 (by rw [h.2]; exact hx) (by rw [h.2]; exact hy), by rw [T.set_lev _ _ _ _ h.1, h.2]⟩
  have h1 : (blk1 m X Y).ok ∧ (blk1 m X Y).lev = m := st h0 (by omega) (by omega)
  have h2 : (blk2 m X Y).ok ∧ (blk2 m X Y).lev = m := st h1 hX (by omega)
  have h3 : (blk3 m X Y).ok ∧ (blk3 m X Y).lev = m := st h2 (by omega) hY
  have h4 : (blk4 m X Y).ok ∧ (blk4 m X Y).lev = m := st h3 hX hY
  refine ⟨h0, h1, h2, h3, h4, fun x y hx hy => ?_⟩
  rw [h4.2] at hx hy
  have g0 : (T.empty (m - 3)).get x y = false := by rw [empty_nowhere (m - 3) 0 0 x y (by rw [h0.2]; exact hx) (by rw [h0.2]; exact hy)]; rfl
  unfold blk4
  rw [get_set _ _ _ _ _ h3.1 (by rw [h3.2]; exact hX) (by rw [h3.2]; exact hY) (by rw [h3.2]; exact hx) (by rw [h3.2]; exact hy)]
  unfold blk3
  rw [get_set _ _ _ _ _ h2.1 (by rw [h2.2]; omega) (by rw [h2.2]; exact hY) (by rw [h2.2]; exact hx) (by rw [h2.2]; exact hy)]
  unfold blk2
  rw [get_set _ _ _ _ _ h1.1 (by rw [h1.2]; exact hX) (by rw [h1.2]; omega) (by rw [h1.2]; exact hx) (by rw [h1.2]; exact hy)]
  unfold blk1
  rw [get_set _ _ _ _ _ h0.1 (by rw [h0.2]; omega) (by rw [h0.2]; omega) (by rw [h0.2]; exact hx) (by rw [h0.2]; exact hy), g0]
  unfold blk
  simp only [Bool.or_false, ← Bool.decide_or]
  apply decide_eq_decide.2
  omega
theorem stillU_len {m X Y : Nat} (hm : 3 ≤ m) (hm2 : m ≤ 24) (hX : X + 1 < 2 ^ m) (hY : Y + 1 < 2 ^ m) : (stillU m X Y).length ≤ 3000 := by
  obtain ⟨h0, h1, h2, h3, h4, -⟩ := blk_are hm hX hY
  have a0 := setNew_len true _ X Y h0.1
  have a1 := setNew_len true _ (X + 1) Y h1.1
  have a2 := setNew_len true _ X (Y + 1) h2.1
  have a3 := setNew_len true _ (X + 1) (Y + 1) h3.1
  have a4 := blkU_len X Y m
  unfold stillU
  simp only [List.length_append, emptyNew_len]
  have := h0.2; have := h1.2; have := h2.2; have := h3.2
  omega
/-- What stays is, gone on, its middle. -/
theorem grow_still {b l : Nat} {p : Plane} (hp : Stays b l p) {k : Nat} {t : T} {j : Nat} {ox oy : Int} (ho : t.ok) (hl : t.lev = k + 4) (hj : j ≤ k + 2) (hs : Shows t p ox oy) : T.grow b l k t j = T.ctr t.k0 t.k1 t.k2 t.k3 := by
  have g := T.grow_ok b l k t j ho hl
  have s := grow_shows b l k t j p _ _ ho hl hj hs
  rw [hp.gens] at s
  have c := ctr_of ho hl rfl hs
  exact shows_ext g.1 c.1 (g.2.trans c.2.1.symm) s c.2.2
theorem ctr_seen {p : Plane} {k : Nat} {t : T} (ho : t.ok) (hl : t.lev = k + 4) (hs : Shows t p 0 0) : Seen p (k + 4) (T.ctr t.k0 t.k1 t.k2 t.k3) := by
  have c := ctr_of ho hl rfl hs
  have e : (0 : Int) + ((2 ^ (k + 2) : Nat) : Int) = 2 * ((2 ^ (k + 1) : Nat) : Int) := by rw [two_pow]; push_cast; omega
  have s := c.2.2
  rw [e] at s
  exact Seen.at (n := k) (A := 2) (B := 2) c.1 c.2.1 (by omega) s rfl rfl
theorem blk_stays' (X Y : Int) : Stays 8 12 (blk X Y) := blk_still X Y
theorem grow_nowhere {b l : Nat} (hb : b % 2 = 0) {k : Nat} {j : Nat} (hj : j ≤ k + 2) : T.grow b l k (T.empty (k + 1)) j = T.empty k := by
  have ho := T.empty_ok (k + 1)
  have hl : (T.empty (k + 1)).lev = k + 4 := T.empty_lev _
  have g := T.grow_ok b l k _ j ho hl
  have s := grow_shows b l k _ j nowhere 0 0 ho hl hj (empty_nowhere _ _ _)
  rw [(nowhere_stays hb).gens] at s
  exact shows_ext g.1 (T.empty_ok k) (g.2.trans (T.empty_lev k).symm) s (empty_nowhere k _ _)
end Go.Qm
/-
  From a call's contract to a row, where nothing that came in is pointed to.
-/
namespace Go.Proofs.Ytphnadpmpcifoaa
open Go.Sq Go.Qm Go.RowKit
theorem sat_start0 (W : World) : Sat (strOf W) W ([] ++ [(0, restP W 0 0)]) :=
  (sat_start (W := W) (len := 0) (bl := 0) (c := #[]) (T := 0) (fz := (0, 0)) (by omega)).tail
theorem sat_end0 {W W' : World} (hs : Sat (strOf W) W' ([] ++ [(0, restP W 0 0)])) : Below W.heap.size W W' := by
  obtain ⟨e, p, ⟨h3, h4, _, rfl, b, _⟩, hw⟩ := hs
  refine strOf_below e fun k hk => ?_
  have hkk : W.heap[k]? = some W.heap[k] := Array.getElem?_eq_getElem hk
  have b : restP W 0 0 h3 := b
  have hb3 := b k
  rw [if_neg (by omega)] at hb3
  rw [hkk]
  exact hw k _ (un_left (hb3.trans hkk))
end Go.Proofs.Ytphnadpmpcifoaa
/-
  The law GrowStill answers true.
-/
namespace Go.Proofs.Ytphnadpmpcifoaa
open Go.Sq Go.Qm
attribute [local irreducible] SW J T.lev T.ok T.k0 T.k1 T.k2 T.k3 T.cells num T.ctr T.grow T.growNew T.wide T.wideNew T.empty T.emptyNew T.set T.setNew T.many blk1 blk2 blk3 blk4 stillU
set_option maxHeartbeats 8000000
set_option maxRecDepth 10000
theorem growStill_is {b l : Nat} (hb : b < 65536) (hl : l < 65536) {a0 a1 k : Int} :
    CallF P 4 [ruleV b l, .agg #[int a0, int a1], int k] [] (.bool true) [] := by
  obtain ⟨u, cu, hu⟩ := conv_uint k
  obtain ⟨u0, cu0, hu0⟩ := conv_uint a0
  obtain ⟨u1, cu1, hu1⟩ := conv_uint a1
  obtain ⟨m, hm⟩ : ∃ m, m = 5 + u % 20 := ⟨_, rfl⟩
  have m5 : 5 ≤ m := by omega
  have m24 : m ≤ 24 := by omega
  have f1 : (u : Int) % 20 = ((u % 20 : Nat) : Int) := rfl
  have f2 : ConvE .i64 ((u % 20 : Nat) : Int) ((u % 20 : Nat) : Int) := ⟨wrap_i64 (by omega) (by omega)⟩
  have f3 : IntE .add .i64 5 ((u % 20 : Nat) : Int) (int (m : Int)) := ⟨by simp only [intV]; rw [wrap_i64 (by omega) (by omega)]; congr 2; omega⟩
  obtain ⟨h, hh⟩ : ∃ h, h = 2 ^ (m - 1) := ⟨_, rfl⟩
  have h16 : 2 ^ 4 ≤ h := by rw [hh]; exact Nat.pow_le_pow_right (by omega) (by omega)
  have h24 : h ≤ 2 ^ 23 := by rw [hh]; exact Nat.pow_le_pow_right (by omega) (by omega)
  have hw : 2 ^ m = 2 * h := by rw [hh, show m = m - 1 + 1 from by omega, two_pow, Nat.add_sub_cancel]
  have f4 : ShlE .i64 1 ((m : Int) - 1) (h : Int) := ⟨by
    rw [hh, show (m : Int) - 1 = ((m - 1 : Nat) : Int) from by omega]
    exact (shl_i64 (a := 1) (by omega) (by rw [← hh]; omega)).trans (by rw [Nat.one_mul])⟩
  obtain ⟨X, hX⟩ : ∃ X, X = h - 8 + u0 % 12 := ⟨_, rfl⟩
  obtain ⟨Y, hY⟩ : ∃ Y, Y = h - 8 + u1 % 12 := ⟨_, rfl⟩
  have g1 : (u0 : Int) % 12 = ((u0 % 12 : Nat) : Int) := rfl
  have g2 : (u1 : Int) % 12 = ((u1 % 12 : Nat) : Int) := rfl
  have g3 : ConvE .i64 ((u0 % 12 : Nat) : Int) ((u0 % 12 : Nat) : Int) := ⟨wrap_i64 (by omega) (by omega)⟩
  have g4 : ConvE .i64 ((u1 % 12 : Nat) : Int) ((u1 % 12 : Nat) : Int) := ⟨wrap_i64 (by omega) (by omega)⟩
  have g5 : IntE .add .i64 ((h : Int) - 8) ((u0 % 12 : Nat) : Int) (int (X : Int)) := ⟨by simp only [intV]; rw [wrap_i64 (by omega) (by omega)]; congr 2; omega⟩
  have g6 : IntE .add .i64 ((h : Int) - 8) ((u1 % 12 : Nat) : Int) (int (Y : Int)) := ⟨by simp only [intV]; rw [wrap_i64 (by omega) (by omega)]; congr 2; omega⟩
  have X0 : IntE .add .i64 (X : Int) 0 (int (X : Int)) := ⟨by simp only [intV, Int.add_zero]; rw [wrap_i64 (by omega) (by omega)]⟩
  have Y0 : IntE .add .i64 (Y : Int) 0 (int (Y : Int)) := ⟨by simp only [intV, Int.add_zero]; rw [wrap_i64 (by omega) (by omega)]⟩
  have X1 : IntE .add .i64 (X : Int) 1 (int ((X + 1 : Nat) : Int)) := ⟨by simp only [intV]; rw [wrap_i64 (by omega) (by omega)]; congr 2⟩
  have Y1 : IntE .add .i64 (Y : Int) 1 (int ((Y + 1 : Nat) : Int)) := ⟨by simp only [intV]; rw [wrap_i64 (by omega) (by omega)]; congr 2⟩
  have hX1 : X + 1 < 2 ^ m := by omega
  have hY1 : Y + 1 < 2 ^ m := by omega
  obtain ⟨b0, b1, b2, b3, b4, bs⟩ := blk_are (m := m) (by omega) hX1 hY1
  have i0 : Inv 3000 (stillU m X Y) [] := inv_nil (stillU_len (by omega) m24 hX1 hY1) (by omega)
  have hU : ∀ t, (t ∈ T.emptyNew (m - 3) ∨ t ∈ (T.empty (m - 3)).setNew X Y true ∨ t ∈ (blk1 m X Y).setNew (X + 1) Y true ∨ t ∈ (blk2 m X Y).setNew X (Y + 1) true ∨ t ∈ (blk3 m X Y).setNew (X + 1) (Y + 1) true ∨ t ∈ blkU X Y m) → t ∈ stillU m X Y := fun t ht => by
    unfold stillU; simpa only [List.mem_append] using ht
  have mk : m = m - 4 + 4 := by omega
  have uG : ∀ j, j ≤ m - 4 + 2 → ∀ t ∈ T.growNew 8 12 (m - 4) (blk4 m X Y) j, t ∈ stillU m X Y := fun j hj t ht => hU t (.inr (.inr (.inr (.inr (.inr (blk_mem (by
    have := grow_seen (blk_stays' X Y) (m - 4) (blk4 m X Y) j 0 0 b4.1 (by rw [b4.2]; exact mk) hj (by rw [Int.zero_mul]; exact bs) t ht
    rw [← mk] at this; exact this)))))))
  have uC : T.ctr (blk4 m X Y).k0 (blk4 m X Y).k1 (blk4 m X Y).k2 (blk4 m X Y).k3 ∈ stillU m X Y := hU _ (.inr (.inr (.inr (.inr (.inr (blk_mem (by
    have := ctr_seen b4.1 (by rw [b4.2]; exact mk) bs
    rw [← mk] at this; exact this)))))))
  have gC : ∀ j, j ≤ m - 4 + 2 → T.grow 8 12 (m - 4) (blk4 m X Y) j = T.ctr (blk4 m X Y).k0 (blk4 m X Y).k1 (blk4 m X Y).k2 (blk4 m X Y).k3 := fun j hj => grow_still (blk_stays' X Y) b4.1 (by rw [b4.2]; exact mk) hj bs
  have uE : b % 2 = 0 → ∀ t ∈ T.growNew b l (m - 4) (T.empty (m - 3)) (m - 2), t ∈ stillU m X Y := fun hb0 t ht => hU t (.inr (.inr (.inr (.inr (.inr (nowhere_mem (by
    have := grow_seen (l := l) (nowhere_stays hb0) (m - 4) (T.empty (m - 3)) (m - 2) 0 0 b0.1 (by rw [b0.2]; exact mk) (by omega) (empty_nowhere _ _ _) t ht
    rw [← mk] at this; exact this)))))))
  have gE : b % 2 = 0 → T.grow b l (m - 4) (T.empty (m - 3)) (m - 2) = T.empty (m - 4) := fun hb0 => by
    have := grow_nowhere (l := l) hb0 (k := m - 4) (j := m - 2) (by omega)
    rw [show m - 4 + 1 = m - 3 from by omega] at this
    exact this
  -- the squares
  have hE := fun s => Empty_is (s := s) (k := m - 3) (L := (m : Int)) i0 (by omega) (by omega) (fun t ht => hU t (.inl ht))
  obtain ⟨e1, e2⟩ := T.emptyNew_goods i0.reg (m - 3) (by omega)
  have S0 : Step 3000 (stillU m X Y) [] (puts [] (T.emptyNew (m - 3))) := ⟨puts_pre _ _, i0.puts (fun t ht => hU t (.inl ht)) e1⟩
  generalize puts [] (T.emptyNew (m - 3)) = ts0 at *
  have j0 := is_num e2
  generalize num ts0 (T.empty (m - 3)) = id0 at *
  have hS1 := fun s => Set_is (s := s) true (T.empty (m - 3)) S0.inv j0 (x := X) (y := Y) (by rw [b0.2]; omega) (by rw [b0.2]; omega) (fun t ht => hU t (.inr (.inl ht)))
  obtain ⟨s1, s2⟩ := T.setNew_goods S0.inv.reg true (T.empty (m - 3)) X Y e2 (by rw [b0.2]; omega) (by rw [b0.2]; omega)
  have S1 : Step 3000 (stillU m X Y) ts0 (puts ts0 ((T.empty (m - 3)).setNew X Y true)) := ⟨puts_pre _ _, S0.inv.puts (fun t ht => hU t (.inr (.inl ht))) s1⟩
  rw [show (T.empty (m - 3)).set X Y true = blk1 m X Y from by unfold blk1; rfl] at hS1 s2
  generalize puts ts0 ((T.empty (m - 3)).setNew X Y true) = ts1 at *
  have j1 := is_num s2
  generalize num ts1 (blk1 m X Y) = id1 at *
  have hS2 := fun s => Set_is (s := s) true (blk1 m X Y) S1.inv j1 (x := X + 1) (y := Y) (by rw [b1.2]; omega) (by rw [b1.2]; omega) (fun t ht => hU t (.inr (.inr (.inl ht))))
  obtain ⟨s3, s4⟩ := T.setNew_goods S1.inv.reg true (blk1 m X Y) (X + 1) Y s2 (by rw [b1.2]; omega) (by rw [b1.2]; omega)
  have S2 : Step 3000 (stillU m X Y) ts1 (puts ts1 ((blk1 m X Y).setNew (X + 1) Y true)) := ⟨puts_pre _ _, S1.inv.puts (fun t ht => hU t (.inr (.inr (.inl ht)))) s3⟩
  rw [show (blk1 m X Y).set (X + 1) Y true = blk2 m X Y from by unfold blk2; rfl] at hS2 s4
  generalize puts ts1 ((blk1 m X Y).setNew (X + 1) Y true) = ts2 at *
  have j2 := is_num s4
  generalize num ts2 (blk2 m X Y) = id2 at *
  have hS3 := fun s => Set_is (s := s) true (blk2 m X Y) S2.inv j2 (x := X) (y := Y + 1) (by rw [b2.2]; omega) (by rw [b2.2]; omega) (fun t ht => hU t (.inr (.inr (.inr (.inl ht)))))
  obtain ⟨s5, s6⟩ := T.setNew_goods S2.inv.reg true (blk2 m X Y) X (Y + 1) s4 (by rw [b2.2]; omega) (by rw [b2.2]; omega)
  have S3 : Step 3000 (stillU m X Y) ts2 (puts ts2 ((blk2 m X Y).setNew X (Y + 1) true)) := ⟨puts_pre _ _, S2.inv.puts (fun t ht => hU t (.inr (.inr (.inr (.inl ht))))) s5⟩
  rw [show (blk2 m X Y).set X (Y + 1) true = blk3 m X Y from by unfold blk3; rfl] at hS3 s6
  generalize puts ts2 ((blk2 m X Y).setNew X (Y + 1) true) = ts3 at *
  have j3 := is_num s6
  generalize num ts3 (blk3 m X Y) = id3 at *
  have hS4 := fun s => Set_is (s := s) true (blk3 m X Y) S3.inv j3 (x := X + 1) (y := Y + 1) (by rw [b3.2]; omega) (by rw [b3.2]; omega) (fun t ht => hU t (.inr (.inr (.inr (.inr (.inl ht))))))
  obtain ⟨s7, s8⟩ := T.setNew_goods S3.inv.reg true (blk3 m X Y) (X + 1) (Y + 1) s6 (by rw [b3.2]; omega) (by rw [b3.2]; omega)
  have S4 : Step 3000 (stillU m X Y) ts3 (puts ts3 ((blk3 m X Y).setNew (X + 1) (Y + 1) true)) := ⟨puts_pre _ _, S3.inv.puts (fun t ht => hU t (.inr (.inr (.inr (.inr (.inl ht)))))) s7⟩
  rw [show (blk3 m X Y).set (X + 1) (Y + 1) true = blk4 m X Y from by unfold blk4; rfl] at hS4 s8
  generalize puts ts3 ((blk3 m X Y).setNew (X + 1) (Y + 1) true) = ts4 at *
  have j4 := is_num s8
  generalize num ts4 (blk4 m X Y) = id4 at *
  have S04 : Step 3000 (stillU m X Y) ts0 ts4 := S1.trans (S2.trans (S3.trans S4))
  have hr8 : RuleOk 8 12 := ⟨by omega, by omega, by omega⟩
  refine callR_of Try.func4 rfl Try.ntmps4 rfl fun σ F => ?_
  repeat' first
    | (show W _ _ _ _ _ (_ :: _) _ _ _; first
      | refine W.remE rfl rfl rfl rfl (by omega) (by omega) f1 ?_
      | refine W.pure rfl rfl rfl rfl ?_
      | refine W.binE rfl rfl rfl rfl (by assumption) ?_
      | refine W.convE rfl rfl rfl (by assumption) ?_
      | refine W.boxA rfl rfl rfl (fun bq => ?_))
    | refine W.nil ?_
    | refine J.reg ?_
    | refine J.seq ?_
  refine W.call (QNew_is (room := 3000) (by omega) (by omega)) (ks := []) rfl rfl rfl rfl fun v N hh => ?_
  obtain ⟨s, rfl, rfl⟩ := hh
  simp only [List.cons_append, List.nil_append]
  repeat' first
    | refine W.pure rfl rfl rfl rfl ?_
    | refine W.build rfl rfl rfl ?_
    | refine W.nil ?_
    | refine J.reg ?_
    | refine J.seq ?_
  refine W.call (GNew_is (s := s) hr8 (okG 8 12 ts4)) (ks := []) rfl rfl rfl rfl fun v N hh => ?_
  obtain ⟨g, rfl, rfl⟩ := hh
  simp only [List.cons_append, List.nil_append]
  repeat' first
    | (show W _ _ _ _ _ (_ :: _) _ _ _; first
      | refine W.call1 (hE s) rfl rfl rfl ?_
      | refine W.pure rfl rfl rfl rfl ?_
      | refine W.shlE rfl rfl rfl rfl (by omega) (by assumption) ?_
      | refine W.sub64 rfl rfl rfl rfl (by omega) ?_
      | refine W.neIfNilT rfl rfl rfl ?_)
    | refine W.nil ?_
    | refine J.reg ?_
    | refine J.seq ?_
    | refine J.condF rfl ?_
    | refine J.skip ?_
  rename_i b3
  refine J.regD [] mixed (by kernel_rfl) ?_
  repeat' first
    | (show W _ _ _ _ _ (_ :: _) _ _ _; first
      | refine W.remE rfl rfl rfl rfl (by omega) (by omega) g1 ?_
      | refine W.remE rfl rfl rfl rfl (by omega) (by omega) g2 ?_
      | refine W.pure rfl rfl rfl rfl ?_
      | refine W.binE rfl rfl rfl rfl (by assumption) ?_
      | refine W.convE rfl rfl rfl (by assumption) ?_
      | refine W.indexAddrE rfl rfl rfl rfl (by omega) (by simp only [Int.reduceToNat, Nat.reduceMul, Nat.zero_add]; rfl) ?_
      | refine W.ld rfl rfl rfl rfl rfl ?_
      | refine W.sub64 rfl rfl rfl rfl (by omega) ?_)
    | refine W.nil ?_
    | refine J.reg ?_
    | refine J.seq ?_
    | refine J.block ?_
  refine J.rounds 5 ?_
  repeat' first
    | (show W _ _ _ _ _ (_ :: _) _ _ _; first
      | refine W.call1 (hS1 s) rfl rfl rfl ?_
      | refine W.call1 (hS2 s) rfl rfl rfl ?_
      | refine W.call1 (hS3 s) rfl rfl rfl ?_
      | refine W.call1 (hS4 s) rfl rfl rfl ?_
      | refine W.pure rfl rfl rfl rfl ?_
      | refine W.binE rfl rfl rfl rfl (by assumption) ?_
      | refine W.cmpT rfl rfl rfl rfl (by simp only [cmpP]; first | done | omega) ?_
      | refine W.cmpF rfl rfl rfl rfl (by simp only [cmpN]; first | done | omega) ?_
      | refine W.add64E rfl rfl rfl rfl (by simp only [Int.reduceAdd]; rfl) (by omega) ?_
      | refine W.skip rfl rfl ?_
      | refine W.eqIfNilT rfl rfl rfl ?_
      | refine W.remE rfl rfl rfl rfl (by omega) (by omega) (by simp only [Int.reduceMod]; rfl) ?_
      | refine W.quoE rfl rfl rfl rfl (by omega) (by omega) (by simp only [Int.reduceDiv]; rfl) (by omega) ?_)
    | refine W.nil ?_
    | refine J.reg ?_
    | refine J.seq ?_
    | refine J.condT rfl ?_
    | refine J.condF rfl ?_
    | refine J.block ?_
    | refine J.endBlk ?_
    | refine J.skip ?_
    | refine J.rnd ?_
    | refine J.exit rfl ?_
  refine J.only [g, s, b3] ?_
  refine J.loop (X := Nat × List T × Nat) (fun q => q.1 ≤ m - 1 ∧ Step 3000 (stillU m X Y) ts4 q.2.1) (fun q => m - 1 - q.1)
    (fun q => [(3, ptr b3), (7, int m), (8, ptr s), (10, ptr g), (12, int id4), (13, .nilIface), (14, int id0), (19, int q.1)])
    (fun q => [(g, gwP g s 8 12 q.2.2 q.2.1), (s, treeP s 3000 q.2.1), (b3, pts b3 (.cells #[.int .u16 (b : Int), .int .u16 (l : Int)] 24 (0, 0)))])
    (0, ts4, 0) ⟨by omega, .refl S4.inv⟩ ⟨rfl, rfl, rfl, rfl, rfl, rfl, rfl, rfl, trivial⟩ (.refl _) ?_
  rintro ⟨j, ts, n⟩ ⟨hj, SS⟩
  have hj : j ≤ m - 1 := hj
  have SS : Step 3000 (stillU m X Y) ts4 ts := SS
  by_cases hlt : j < m - 1
  · have h6 := Grow_is (g := g) (s := s) (n := n) (Ji := (j : Int)) (j := j) hr8 SS.inv (j4.mono SS.pre) (by rw [b4.2]; exact mk) rfl (by omega) (uG j (by omega))
    rw [gC j (by omega)] at h6
    repeat' first
      | (show W _ _ _ _ _ (_ :: _) _ _ _; first
        | refine W.gk h6 rfl rfl rfl (fun ts6 o6 n6 S6 j6 z6 => ?_)
        | refine W.pure rfl rfl rfl rfl ?_
        | refine W.cmpT rfl rfl rfl rfl (by simp only [cmpP]; first | done | omega) ?_
        | refine W.sub64 rfl rfl rfl rfl (by omega) ?_
        | refine W.eqIfNilT rfl rfl rfl ?_)
      | refine W.nil ?_
      | refine J.reg ?_
      | refine J.seq ?_
      | refine J.condT rfl ?_
      | refine J.block ?_
      | refine J.skip ?_
    have h7 := Center_is (g := g) (s := s) (b := 8) (l := 12) (n := n6) S6.inv ((j4.mono SS.pre).mono S6.pre) (by rw [b4.2]; omega) uC
    repeat' first
      | refine W.wk h7 rfl rfl rfl (fun ts7 o7 S7 j7 => ?_)
      | refine W.pure rfl rfl rfl rfl ?_
      | refine W.nil ?_
    have e7 : o7 = o6 := j7.inj S7.inv.reg.nodup (j6.mono S7.pre)
    subst e7
    have q7 : IntE .neq .i64 o7 o7 (.bool false) := ⟨by simp [intV]⟩
    repeat' first
      | (show W _ _ _ _ _ (_ :: _) _ _ _; first
        | refine W.pure rfl rfl rfl rfl ?_
        | refine W.binE rfl rfl rfl rfl (by assumption) ?_
        | refine W.add64E rfl rfl rfl rfl (by simp only [Int.reduceAdd]; rfl) (by omega) ?_
        | refine W.neIfNilT rfl rfl rfl ?_)
      | refine W.nil ?_
      | refine J.reg ?_
      | refine J.seq ?_
      | refine J.condF rfl ?_
      | refine J.endBlk ?_
      | refine J.skip ?_
    exact J.again (j + 1, ts7, n6) ⟨by show j + 1 ≤ m - 1; omega, SS.trans (S6.trans S7)⟩ (by show m - 1 - (j + 1) < m - 1 - j; omega) ⟨rfl, rfl, rfl, rfl, rfl, rfl, rfl, rfl, trivial⟩ (.refl _)
  · obtain rfl : j = m - 1 := by omega
    by_cases hr : RuleOk b l
    · have hb0 := hr.2.2
      repeat' first
        | (show W _ _ _ _ _ (_ :: _) _ _ _; first
          | refine W.call0 (May_ok hr) rfl rfl rfl ?_
          | refine W.not rfl rfl rfl ?_
          | refine W.pure rfl rfl rfl rfl ?_
          | refine W.cmpF rfl rfl rfl rfl (by simp only [cmpN]; first | done | omega) ?_
          | refine W.sub64 rfl rfl rfl rfl (by omega) ?_
          | refine W.ldaV rfl rfl rfl rfl rfl rfl ?_
          | refine W.skip rfl rfl ?_)
        | refine W.nil ?_
        | refine J.reg ?_
        | refine J.seq ?_
        | refine J.condF rfl ?_
        | refine J.skip ?_
        | refine J.exit rfl ?_
      refine W.call (GNew_is (s := s) hr (okG b l ts)) (ks := []) rfl rfl rfl rfl fun v N hh => ?_
      obtain ⟨q, rfl, rfl⟩ := hh
      simp only [List.cons_append, List.nil_append]
      have h8 := Grow_is (g := q) (s := s) (n := 0) (Ji := (m : Int) - 2) (j := m - 2) hr SS.inv ((j0.mono S04.pre).mono SS.pre) (by rw [b0.2]; exact mk) (by omega) (by omega) (uE hb0)
      rw [gE hb0] at h8
      repeat' first
        | (show W _ _ _ _ _ (_ :: _) _ _ _; first
          | refine W.gk h8 rfl rfl rfl (fun ts8 o8 n8 S8 j8 z8 => ?_)
          | refine W.pure rfl rfl rfl rfl ?_
          | refine W.sub64 rfl rfl rfl rfl (by omega) ?_
          | refine W.neIfNilT rfl rfl rfl ?_)
        | refine W.nil ?_
        | refine J.reg ?_
        | refine J.seq ?_
        | refine J.condF rfl ?_
        | refine J.skip ?_
      have n9 := Count_T (s := s) S8.inv j8
      rw [many_empty] at n9
      repeat' first
        | (show W _ _ _ _ _ (_ :: _) _ _ _; first
          | refine W.call1 n9 rfl rfl rfl ?_
          | refine W.call0 sure_is rfl rfl rfl ?_
          | refine W.pure rfl rfl rfl rfl ?_
          | refine W.cmpT rfl rfl rfl rfl (by simp only [cmpP]; first | done | omega) ?_
          | refine W.eqIfNilT rfl rfl rfl ?_)
        | refine W.nil ?_
        | refine J.reg ?_
        | refine J.seq ?_
      exact J.retF [] (res1 rfl rfl) rfl
    · repeat' first
        | (show W _ _ _ _ _ (_ :: _) _ _ _; first
          | refine W.call0 (May_no hr) rfl rfl rfl ?_
          | refine W.not rfl rfl rfl ?_
          | refine W.call0 sure_is rfl rfl rfl ?_
          | refine W.pure rfl rfl rfl rfl ?_
          | refine W.cmpF rfl rfl rfl rfl (by simp only [cmpN]; first | done | omega) ?_
          | refine W.sub64 rfl rfl rfl rfl (by omega) ?_
          | refine W.ldaV rfl rfl rfl rfl rfl rfl ?_
          | refine W.skip rfl rfl ?_
          | refine W.eqIfNilT rfl rfl rfl ?_)
        | refine W.nil ?_
        | refine J.reg ?_
        | refine J.seq ?_
        | refine J.condT rfl ?_
        | refine J.condF rfl ?_
        | refine J.exit rfl ?_
      exact J.retF [] (res1 rfl rfl) rfl
end Go.Proofs.Ytphnadpmpcifoaa
namespace Go.Proofs.Ytphnadpmpcifoaa
open Go.Sq Go.Qm Go.ChangeShapes Go.WideShapes Go.ChangeAt Go.RowKit Go.Joins

set_option maxRecDepth 100000 in
theorem growStill_lifted (os : Os) (started : os.Started) (H : Type) (enc : TypeId × Value → H) :
    ReturnsInHanded {} Try.checked os 4 .any (Rows.growStillSpec.pre6 enc Try.prog Try.f4 Rows.growStillRow.domain false) (Rows.growStillSpec.post enc Try.prog Try.f4 false true false false) := by
  refine returnsInHanded_of_change (C := Try.checked) own started (by kernel_rfl) Try.func4
    (ChangeSpec.witness6 (enc := enc) (C := Try.checked) false ⟨#[], #[.agg #[.int .u16 0, .int .u16 0], .agg #[.int .i64 0, .int .i64 0], .int .i64 0], []⟩ 8 (by kernel_rfl) (by kernel_rfl) (by kernel_rfl) (by kernel_rfl)) ?_
  intro W base args ds gs before hval0 hW hcnd _
  have hval : ∀ (j : Nat) t v, Try.f4.params[j]? = some t → args[j]? = some v → Value.okWide Try.prog W .any base t v := hval0
  have hW' := hW
  obtain ⟨p, q, hA0, hV, rfl, hfz, hnd⟩ := hW
  have hA : DataW.TrodAll enc Try.prog W 0 (fun _ => true) true Try.f4.params.toList args.toList ds p := hA0
  rw [Try.params4] at hA hval
  obtain ⟨v0, v1, v2, d0, d1, d2, p0, p1, p2, rfl, rfl, rfl, h0, h1, h2⟩ := trodAll_three hA
  obtain ⟨rfl, rfl⟩ := trodVars_none hV
  have k0 := h0; have k1 := h1; have k2 := h2
  obtain ⟨c0, c1, y0, y1, _, rfl, rfl, rfl, hy0, hy1⟩ := open_agg2 Try.underlying24 (by kernel_rfl) (by kernel_rfl) (hval 0 24 v0 rfl rfl) h0
  obtain ⟨rb, e0, rfl, wb⟩ := DataW.trod_int Try.underlying22 hy0
  obtain ⟨rl, e1, rfl, wl⟩ := DataW.trod_int Try.underlying22 hy1
  simp at e0 e1
  subst e0 e1
  obtain ⟨b, rfl, hb⟩ := u16_open wb
  obtain ⟨l, rfl, hl⟩ := u16_open wl
  obtain ⟨a0, a1, rfl, rfl, rfl, wa, wc⟩ := Go.WideMaps.open_pair ⟨Try.underlying45, by kernel_rfl, by kernel_rfl, by kernel_rfl⟩ Try.underlying3 (hval 1 45 v1 rfl rfl) h1
  obtain ⟨k, rfl, rfl, rfl, wk⟩ := open_int Try.underlying3 (hval 2 3 v2 rfl rfl) h2
  clear hA0 hval0
  simp only [List.append_nil] at hW'
  have hlt := hW'.lt
  refine (growStill_is (a0 := a0) (a1 := a1) (k := k) hb hl (strOf W) [(0, restP W 0 0)] W (sat_start0 W)).mono fun e W' hh => ?_
  obtain ⟨v, N', ⟨rfl, rfl⟩, rfl, hs⟩ := hh
  have hbe := sat_end0 hs
  have st : ∀ {t : TypeId} {v : Value} {d : DataW H} {ps : List MemPlace} {sp : Nat → Bool}, Try.prog.readableRec t = true → t < Try.prog.types.size → DataW.Trod enc Try.prog W 0 (fun _ => true) true t v d ps → (∀ x ∈ ps, x.block < W.heap.size ∧ sp x.block = true) → DataW.Trod enc Try.prog W' 0 sp true t v d ps :=
    fun h1 h2 h3 h4 => WideElems.Trod_stays laidOut h1 h2 h3 (fun x hx => hbe.same (h4 x hx).1) (fun x hx => (h4 x hx).2)
  exact ⟨_, rfl, post_of_below (pv := []) hW' (fun _ _ _ => trodAll_mk1 (shut_bool Try.underlying4 _))
    (fun sp hsp => trodAll_mk3 (st (by kernel_rfl) (of_decide_eq_true (by kernel_rfl)) k0 (fun x hx => by simp at hx)) (st (by kernel_rfl) (of_decide_eq_true (by kernel_rfl)) k1 (fun x hx => by simp at hx)) (st (by kernel_rfl) (of_decide_eq_true (by kernel_rfl)) k2 (fun x hx => by simp at hx)))
    (fun _ _ => rfl) (by simp) hbe (ok_one (by kernel_rfl) rfl (okWide_bool_mk Try.underlying4 _))⟩

theorem growStill_holds : Rows.GrowStillSaid :=
  OpenClaim.holds_of_wide 4 Try.f4 rfl rfl rfl rfl rfl rfl rfl ⟨rfl, rfl, rfl, rfl, rfl⟩ rfl rfl rfl rfl rfl (by kernel_rfl) Try.func4 (by kernel_rfl)
    (of_decide_eq_true (by kernel_rfl)) (by unfold Func.isWrapper; first | (rw [if_pos (by decide +kernel)]; kernel_rfl) | (rw [if_neg (by decide +kernel)]; exact ⟨rfl, rfl⟩))
    (fun os started H enc _ => growStill_lifted os started H enc)
#print axioms growStill_holds
end Go.Proofs.Ytphnadpmpcifoaa
