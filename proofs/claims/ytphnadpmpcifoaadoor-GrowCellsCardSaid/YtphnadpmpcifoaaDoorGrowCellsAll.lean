/-
  The tied card of GrowCells is proved: whatever the input, and the variable errors.errorType laid as the program's text lays it, quiltlaw12.GrowCells answers true, and the input reads as it did. No conditions.
-/
import Derived.Test.YtphnadpmpcifoaaDoorWide2
import Derived.Test.YtphnadpmpcifoaaDoorLaid
import Derived.Test.YtphnadpmpcifoaaDoorTLaid
import Derived.Test.YtphnadpmpcifoaaDoorJud
import Derived.Test.YtphnadpmpcifoaaDoorOps
import Derived.Laws.Small
import Derived.Test.YtphnadpmpcifoaaDoorTRule
import Derived.Laws.Externs
import Derived.LaidEql
import Derived.Test.YtphnadpmpcifoaaDoorRowD
import Derived.Test.YtphnadpmpcifoaaDoorRows
import Derived.ChangeVars
import Derived.JoinedOf
import Derived.LaidLaws
import Derived.LaidHandle
import Derived.Stop.Joined
import Derived.RowKitTokens
import Derived.Test.YtphnadpmpcifoaaDoorTie
import Derived.Test.YtphnadpmpcifoaaDoorCards
import Derived.SevenTiedAt
/-
  What GrowWide says, plain.
-/
namespace Go.Qm
theorem grow_mem (b l : Nat) : ∀ (k : Nat) (t : T) (j : Nat), T.grow b l k t j ∈ T.growNew b l k t j
  | 0, _, _ => by simp [T.growNew]
  | k + 1, t, j => by simp [T.growNew]
theorem ctr_of {t : T} {p : Plane} {ox oy : Int} {h : Nat} {n : Nat} (ho : t.ok) (hl : t.lev = n + 4) (hh : h = 2 ^ (n + 2)) (hs : Shows t p ox oy) :
    (T.ctr t.k0 t.k1 t.k2 t.k3).ok ∧ (T.ctr t.k0 t.k1 t.k2 t.k3).lev = n + 3 ∧ Shows (T.ctr t.k0 t.k1 t.k2 t.k3) p (ox + h) (oy + h) := by
  have k := T.kid_ok ho (by omega)
  have v := T.kid_lev ho (by omega)
  obtain ⟨w, hw⟩ : ∃ w, w = 2 ^ (n + 3) := ⟨_, rfl⟩
  obtain ⟨a0, a1, a2, a3⟩ := shows_kids ho (by omega) hs (w := w) (by rw [hl]; exact hw)
  have v0 : t.k0.lev = n + 3 := by have := v.1; omega
  have v1 : t.k1.lev = t.k0.lev := by have := v.2.1; omega
  have v2 : t.k2.lev = t.k0.lev := by have := v.2.2.1; omega
  have v3 : t.k3.lev = t.k0.lev := by have := v.2.2.2; omega
  have c := T.ctr_ok k.1 k.2.1 k.2.2.1 k.2.2.2 v1 v2 v3
  exact ⟨c.1, c.2.trans v0, ctr_shows (w := w) (h := h) k.1 k.2.1 k.2.2.1 k.2.2.2 v1 v2 v3 (by rw [v0, hw]) (by rw [hw, hh, two_pow]) a0 a1 a2 a3⟩
/-- One generation on, from wide twice, the middle: from wide once. -/
theorem grow_mid (b l : Nat) {k : Nat} {t : T} (ho : t.ok) (hl : t.lev = k + 3) :
    T.ctr (T.grow b l (k + 1) t.wide.wide 0).k0 (T.grow b l (k + 1) t.wide.wide 0).k1 (T.grow b l (k + 1) t.wide.wide 0).k2 (T.grow b l (k + 1) t.wide.wide 0).k3 = T.grow b l k t.wide 0 := by
  have w1 := T.wide_ok ho
  have w2 := T.wide_ok w1.1
  have l1 : t.wide.lev = k + 4 := by rw [w1.2, hl]
  have l2 : t.wide.wide.lev = (k + 1) + 4 := by rw [w2.2, l1]
  have s2 := shows_self t.wide.wide
  have c2 := ctr_of w2.1 l2 rfl s2
  rw [ctr_wide w1.1] at c2
  have u := T.grow_ok b l (k + 1) _ 0 w2.1 l2
  have su := grow_shows b l (k + 1) _ 0 _ _ _ w2.1 l2 (by omega) s2
  have v := T.grow_ok b l k _ 0 w1.1 l1
  have sv := grow_shows b l k _ 0 _ _ _ w1.1 l1 (by omega) c2.2.2
  have cu := ctr_of u.1 (n := k) (by rw [u.2]) rfl su
  exact shows_ext cu.1 v.1 (cu.2.1.trans v.2.symm) cu.2.2 sv
theorem wideNew_len {t : T} (h : t.lev ≤ 40) : (T.wideNew t).length ≤ 42 := by
  unfold T.wideNew
  split
  · simp
  · simp only [List.length_append, List.length_cons, List.length_nil, emptyNew_len]; omega
/-- All that GrowWide makes. -/
def wideU (b l m : Nat) (c : Nat → Bool) : List T :=
  laidNew m (2 ^ m) c (2 ^ m * 2 ^ m) ++ (T.wideNew (laidT m (2 ^ m) c (2 ^ m * 2 ^ m)) ++ (T.wideNew (laidT m (2 ^ m) c (2 ^ m * 2 ^ m)).wide ++ ([laidT m (2 ^ m) c (2 ^ m * 2 ^ m), (laidT m (2 ^ m) c (2 ^ m * 2 ^ m)).wide] ++
    (T.growNew b l (m - 2) (laidT m (2 ^ m) c (2 ^ m * 2 ^ m)).wide.wide 0 ++ T.growNew b l (m - 3) (laidT m (2 ^ m) c (2 ^ m * 2 ^ m)).wide 0))))
theorem wideU_len {b l m : Nat} {f : List Bool} (h1 : 3 ≤ m) (h2 : m ≤ 6) (hl : f.length = 2 ^ m * 2 ^ m) (hc : f.count true ≤ 60) : (wideU b l m (fun i => f.getD i false)).length ≤ 30000 := by
  have a1 := laidNew_len (w := 2 ^ m) f h1 rfl hl (2 ^ m * 2 ^ m) (Nat.le_refl _)
  have a2 : (f.take (2 ^ m * 2 ^ m)).count true ≤ 60 := Nat.le_trans (List.Sublist.count_le _ (List.take_sublist _ _)) hc
  obtain ⟨b1, b2⟩ := laidT_lev (fun i => f.getD i false) h1 rfl (2 ^ m * 2 ^ m) (Nat.le_refl _)
  have w1 := T.wide_ok b2
  have a3 := wideNew_len (t := laidT m (2 ^ m) (fun i => f.getD i false) (2 ^ m * 2 ^ m)) (by omega)
  have a4 := wideNew_len (t := (laidT m (2 ^ m) (fun i => f.getD i false) (2 ^ m * 2 ^ m)).wide) (by omega)
  have a5 := growNew_len0 b l (m - 2) (laidT m (2 ^ m) (fun i => f.getD i false) (2 ^ m * 2 ^ m)).wide.wide
  have a6 := growNew_len0 b l (m - 3) (laidT m (2 ^ m) (fun i => f.getD i false) (2 ^ m * 2 ^ m)).wide
  have a7 : most4 (m - 2) ≤ 1446 ∧ most4 (m - 3) ≤ 1446 := by
    have : m = 3 ∨ m = 4 ∨ m = 5 ∨ m = 6 := by omega
    rcases this with rfl | rfl | rfl | rfl <;> decide
  have a8 : (m - 2) * ((f.take (2 ^ m * 2 ^ m)).count true + 1) ≤ 4 * 61 := Nat.mul_le_mul (by omega) (by omega)
  unfold wideU
  simp only [List.length_append, List.length_cons, List.length_nil]
  omega
end Go.Qm
/-
  Where a plane stays as it is: what going on makes lies at few places: plain.
-/
namespace Go.Qm
/-- The nine of a square, and their middles. -/
theorem nine_shows {t : T} {p : Plane} {ox oy : Int} {k w h : Nat} (ho : t.ok) (hl : t.lev = k + 5) (hw : w = 2 ^ (k + 3)) (hwh : w = 2 * h) (hs : Shows t p ox oy) : ∀ i, i < 9 →
    Shows (T.nineN t i) p (ox + (i % 3 * w : Nat)) (oy + (i / 3 * w : Nat)) ∧ Shows (T.nineC t i) p (ox + (i % 3 * w : Nat) + h) (oy + (i / 3 * w : Nat) + h) := fun i hi => by
  have gs := fun {y x : Nat} (hy : y < 4) (hx : x < 4) => shows_gr ho (by omega) hs (w := w) (by rw [hw, hl]; congr 1) hy hx
  have gl := fun y x => T.gr_ok ho (by omega) y x
  have v0 := gl (i / 3) (i % 3); have v1 := gl (i / 3) (i % 3 + 1); have v2 := gl (i / 3 + 1) (i % 3); have v3 := gl (i / 3 + 1) (i % 3 + 1)
  have f1 : (T.gr t (i / 3) (i % 3 + 1)).lev = (T.gr t (i / 3) (i % 3)).lev := by have := v0.2; have := v1.2; omega
  have f2 : (T.gr t (i / 3 + 1) (i % 3)).lev = (T.gr t (i / 3) (i % 3)).lev := by have := v0.2; have := v2.2; omega
  have f3 : (T.gr t (i / 3 + 1) (i % 3 + 1)).lev = (T.gr t (i / 3) (i % 3)).lev := by have := v0.2; have := v3.2; omega
  have fw : 2 ^ (T.gr t (i / 3) (i % 3)).lev = w := by rw [hw]; congr 1; have := v0.2; omega
  have ex : ox + ((i % 3 * w : Nat) : Int) + (w : Int) = ox + (((i % 3 + 1) * w : Nat) : Int) := by rw [Nat.add_mul]; omega
  have ey : oy + ((i / 3 * w : Nat) : Int) + (w : Int) = oy + (((i / 3 + 1) * w : Nat) : Int) := by rw [Nat.add_mul]; omega
  have s0 := gs (y := i / 3) (x := i % 3) (by omega) (by omega)
  have s1 := gs (y := i / 3) (x := i % 3 + 1) (by omega) (by omega)
  have s2 := gs (y := i / 3 + 1) (x := i % 3) (by omega) (by omega)
  have s3 := gs (y := i / 3 + 1) (x := i % 3 + 1) (by omega) (by omega)
  rw [← ex] at s1 s3
  rw [← ey] at s2 s3
  constructor
  · refine (shows_node f1 f2 f3).2 ?_
    rw [fw]
    exact ⟨s0, s1, s2, s3⟩
  · exact ctr_shows v0.1 v1.1 v2.1 v3.1 f1 f2 f3 fw.symm hwh s0 s1 s2 s3
/-- A plane that stays. -/
def Stays (b l : Nat) (p : Plane) : Prop := gen b l p = p
theorem Stays.gens {b l : Nat} {p : Plane} (h : Stays b l p) : ∀ n, gens b l p n = p
  | 0 => rfl
  | n + 1 => by rw [Qm.gens, h.gens n]; exact h
/-- Seen at a quarter's places. -/
def Seen (p : Plane) (m : Nat) (u : T) : Prop := u.ok ∧ u.lev ≤ m ∧ ∃ A B : Int, Shows u p (A * (2 ^ (u.lev - 2) : Nat)) (B * (2 ^ (u.lev - 2) : Nat))
theorem Seen.mono {p : Plane} {m n : Nat} {u : T} (h : Seen p m u) (hmn : m ≤ n) : Seen p n u := ⟨h.1, Nat.le_trans h.2.1 hmn, h.2.2⟩
theorem Seen.at {p : Plane} {m n : Nat} {u : T} {ox oy A B : Int} (ho : u.ok) (hl : u.lev = n + 3) (hm : n + 3 ≤ m) (hs : Shows u p ox oy) (ex : ox = A * (2 ^ (n + 1) : Nat)) (ey : oy = B * (2 ^ (n + 1) : Nat)) : Seen p m u := by
  refine ⟨ho, by omega, A, B, ?_⟩
  rw [hl, show n + 3 - 2 = n + 1 from rfl, ← ex, ← ey]
  exact hs
theorem grow_seen {b l : Nat} {p : Plane} (hp : Stays b l p) : ∀ (k : Nat) (t : T) (j : Nat) (A B : Int), t.ok → t.lev = k + 4 → j ≤ k + 2 → Shows t p (A * (2 ^ (k + 2) : Nat)) (B * (2 ^ (k + 2) : Nat)) → ∀ u ∈ T.growNew b l k t j, Seen p (k + 4) u
  | 0, t, j, A, B, ho, hl, hj, hs, u, hu => by
    simp only [T.growNew, List.mem_singleton] at hu
    subst hu
    have g := T.grow_ok b l 0 t j ho hl
    have s := grow_shows b l 0 t j p _ _ ho hl hj hs
    rw [hp.gens] at s
    exact Seen.at (n := 0) (A := 2 * (A + 1)) (B := 2 * (B + 1)) g.1 g.2 (by omega) s (by simp; omega) (by simp; omega)
  | k + 1, t, j, A, B, ho, hl, hj, hs, u, hu => by
    obtain ⟨w, hw⟩ : ∃ w, w = 2 ^ (k + 3) := ⟨_, rfl⟩
    obtain ⟨h, hh⟩ : ∃ h, h = 2 ^ (k + 2) := ⟨_, rfl⟩
    obtain ⟨q, hq⟩ : ∃ q, q = 2 ^ (k + 1) := ⟨_, rfl⟩
    have hwh : w = 2 * h := by rw [hw, hh, two_pow]
    have hhq : h = 2 * q := by rw [hh, hq, two_pow]
    have hs0 := hs
    rw [show k + 1 + 2 = k + 3 from rfl, ← hw] at hs
    have ns := nine_shows ho hl hw hwh hs
    have mo := T.mid_ok b l j ho (by omega : t.lev = k + 5)
    have nl := fun i => T.nineN_ok ho (by omega : 5 ≤ t.lev) i
    -- places
    have pl : ∀ (C : Int) (a : Nat), C * (w : Int) + ((a * w : Nat) : Int) = (2 * (C + a)) * (h : Int) := fun C a => by
      rw [hwh]; push_cast; rw [Int.mul_add, Int.add_mul]; congr 1
      · rw [← Int.mul_assoc, Int.mul_comm C 2]
      · rw [← Int.mul_assoc, Int.mul_comm (a : Int) 2]
    have pc : ∀ (C : Int) (a : Nat), C * (w : Int) + ((a * w : Nat) : Int) + (h : Int) = (2 * (C + a) + 1) * (h : Int) := fun C a => by rw [pl, Int.add_mul, Int.one_mul]
    have pq : ∀ (C : Int), C * (h : Int) = (2 * C) * (q : Int) := fun C => by rw [hhq]; push_cast; rw [← Int.mul_assoc, Int.mul_comm C 2]
    have ms : ∀ i, i < 9 → Shows (T.mid b l k t j i) p (A * w + (i % 3 * w : Nat) + h) (B * w + (i / 3 * w : Nat) + h) := fun i hi => by
      unfold T.mid
      split
      · have := grow_shows b l k _ (j - 1) p _ _ (nl i).1 (by have := (nl i).2; omega) (by omega) (ns i hi).1
        rw [hp.gens, ← hh] at this
        exact this
      · exact (ns i hi).2
    have mm : ∀ a c : Nat, a < 3 → c < 3 → Shows (T.mid b l k t j (a + c * 3)) p (A * w + (a * w : Nat) + h) (B * w + (c * w : Nat) + h) := fun a c ha hc => by
      have := ms (a + c * 3) (by omega)
      rw [show (a + c * 3) % 3 = a from by omega, show (a + c * 3) / 3 = c from by omega] at this
      exact this
    have qs : ∀ a c : Nat, a < 2 → c < 2 → Shows (.node (T.mid b l k t j (a + c * 3)) (T.mid b l k t j (a + c * 3 + 1)) (T.mid b l k t j (a + c * 3 + 3)) (T.mid b l k t j (a + c * 3 + 4))) p (A * w + (a * w : Nat) + h) (B * w + (c * w : Nat) + h) := fun a c ha hc => by
      have fw : 2 ^ (T.mid b l k t j (a + c * 3)).lev = w := by rw [hw, (mo _).2]
      refine (shows_node ((mo _).2.trans (mo _).2.symm) ((mo _).2.trans (mo _).2.symm) ((mo _).2.trans (mo _).2.symm)).2 ?_
      rw [fw]
      have ex : A * w + ((a * w : Nat) : Int) + (h : Int) + (w : Int) = A * w + (((a + 1) * w : Nat) : Int) + (h : Int) := by rw [Nat.add_mul]; omega
      have ey : B * w + ((c * w : Nat) : Int) + (h : Int) + (w : Int) = B * w + (((c + 1) * w : Nat) : Int) + (h : Int) := by rw [Nat.add_mul]; omega
      rw [ex, ey, show a + c * 3 + 1 = a + 1 + c * 3 from by omega, show a + c * 3 + 3 = a + (c + 1) * 3 from by omega, show a + c * 3 + 4 = a + 1 + (c + 1) * 3 from by omega]
      exact ⟨mm a c (by omega) (by omega), mm (a + 1) c (by omega) (by omega), mm a (c + 1) (by omega) (by omega), mm (a + 1) (c + 1) (by omega) (by omega)⟩
    have jb : T.jj k j ≤ k + 2 := by unfold T.jj; split <;> omega
    have mem : u ∈ T.growNew b l (k + 1) t j := hu
    simp only [T.growNew, List.mem_append, List.mem_flatMap, List.mem_range, List.mem_singleton] at hu
    rcases hu with (⟨i, hi, hu⟩ | ⟨i, hi, hu⟩) | hu
    · have sN := (ns i hi).1
      rw [pl, pl] at sN
      have sC := (ns i hi).2
      rw [pc, pc, pq, pq] at sC
      split at hu
      · rcases List.mem_cons.1 hu with rfl | hu
        · exact Seen.at (n := k + 1) (nl i).1 (by have := (nl i).2; omega) (by omega) sN (by rw [hh]) (by rw [hh])
        · rw [hh] at sN
          exact (grow_seen hp k _ (j - 1) _ _ (nl i).1 (by have := (nl i).2; omega) (by omega) sN u hu).mono (by omega)
      · rw [List.mem_singleton] at hu
        subst hu
        have c := T.nineC_ok ho (by omega : 5 ≤ t.lev) i
        exact Seen.at (n := k) c.1 (by have := c.2; omega) (by omega) sC (by rw [hq]) (by rw [hq])
    · have sQ := qs (i % 2) (i / 2) (by omega) (by omega)
      have sQ : Shows (T.quad (T.mid b l k t j) i) p _ _ := sQ
      rw [pc, pc] at sQ
      have qo := T.quad_ok mo i
      rcases List.mem_cons.1 hu with rfl | hu
      · exact Seen.at (n := k + 1) qo.1 (by rw [qo.2]) (by omega) sQ (by rw [hh]) (by rw [hh])
      · rw [hh] at sQ
        exact (grow_seen hp k _ (T.jj k j) _ _ qo.1 (by rw [qo.2]) jb sQ u hu).mono (by omega)
    · subst hu
      have g := T.grow_ok b l (k + 1) t j ho hl
      have s := grow_shows b l (k + 1) t j p _ _ ho hl hj hs0
      rw [hp.gens, show k + 1 + 2 = k + 3 from rfl, ← hw] at s
      have e : ∀ C : Int, C * (w : Int) + (w : Int) = (2 * (C + 1)) * (h : Int) := fun C => by
        have := pl C 1; rw [Nat.one_mul] at this; exact this
      rw [e, e] at s
      exact Seen.at (n := k + 1) g.1 g.2 (by omega) s (by rw [hh]) (by rw [hh])
/-- The square that shows a plane. -/
def treeOf (p : Plane) : Nat → Int → Int → T
  | 0, ox, oy => .leaf (bitsOf (fun i => p (ox + (i % 8 : Nat)) (oy + (i / 8 : Nat))) 64)
  | n + 1, ox, oy => .node (treeOf p n ox oy) (treeOf p n (ox + (2 ^ (n + 3) : Nat)) oy) (treeOf p n ox (oy + (2 ^ (n + 3) : Nat))) (treeOf p n (ox + (2 ^ (n + 3) : Nat)) (oy + (2 ^ (n + 3) : Nat)))
theorem treeOf_lev (p : Plane) : ∀ n ox oy, (treeOf p n ox oy).lev = n + 3
  | 0, _, _ => rfl
  | n + 1, ox, oy => by simp only [treeOf, T.lev, treeOf_lev p n]
theorem leaf_of_lt {n : Nat} (h : n < 2 ^ 64) : (T.leaf n).ok := h
theorem treeOf_ok (p : Plane) : ∀ n ox oy, (treeOf p n ox oy).ok
  | 0, _, _ => leaf_of_lt (bitsOf_lt _ 64)
  | n + 1, ox, oy => T.node_ok (treeOf_ok p n _ _) (treeOf_ok p n _ _) (treeOf_ok p n _ _) (treeOf_ok p n _ _) (by rw [treeOf_lev, treeOf_lev]) (by rw [treeOf_lev, treeOf_lev]) (by rw [treeOf_lev, treeOf_lev])
theorem treeOf_shows (p : Plane) : ∀ n ox oy, Shows (treeOf p n ox oy) p ox oy
  | 0, ox, oy => by
    intro x y hx hy
    have hx : x < 8 := hx
    have hy : y < 8 := hy
    simp only [treeOf, T.get]
    rw [bitsOf_bit, decide_eq_true (by omega), Bool.true_and, show (8 * y + x) % 8 = x from by omega, show (8 * y + x) / 8 = y from by omega]
  | n + 1, ox, oy => by
    refine (shows_node (by rw [treeOf_lev, treeOf_lev]) (by rw [treeOf_lev, treeOf_lev]) (by rw [treeOf_lev, treeOf_lev])).2 ?_
    rw [treeOf_lev]
    exact ⟨treeOf_shows p n _ _, treeOf_shows p n _ _, treeOf_shows p n _ _, treeOf_shows p n _ _⟩
theorem treeOf_is {t : T} {p : Plane} {n : Nat} {ox oy : Int} (ho : t.ok) (hl : t.lev = n + 3) (hs : Shows t p ox oy) : t = treeOf p n ox oy :=
  shows_ext ho (treeOf_ok p n ox oy) (hl.trans (treeOf_lev p n ox oy).symm) hs (treeOf_shows p n ox oy)
def nowhere : Plane := fun _ _ => false
theorem nowhere_stays {b l : Nat} (hb : b % 2 = 0) : Stays b l nowhere := by
  funext x y
  unfold gen nbr nowhere nextB
  simp [b2n, hb]
theorem shows_nowhere {t : T} {p : Plane} {ox oy ox' oy' : Int} (hs : Shows t p ox oy) (h : ∀ x y : Nat, x < 2 ^ t.lev → y < 2 ^ t.lev → p (ox + x) (oy + y) = false) : Shows t nowhere ox' oy' := fun x y hx hy => by
  rw [hs x y hx hy, h x y hx hy]; rfl
theorem empty_nowhere (k : Nat) (ox oy : Int) : Shows (T.empty k) nowhere ox oy := by
  induction k generalizing ox oy with
  | zero => intro x y _ _; simp [T.empty, T.get, nowhere]
  | succ k ih =>
    exact (shows_node rfl rfl rfl).2 ⟨ih _ _, ih _ _, ih _ _, ih _ _⟩
/-- All squares that a block at X, Y makes, where nothing is besides, up to level m. -/
def blkU (X Y : Int) (m : Nat) : List T :=
  (List.range (m - 2)).flatMap fun n => treeOf nowhere n 0 0 :: (List.range 5).flatMap fun (i : Nat) => (List.range 5).map fun (j : Nat) =>
    treeOf (blk X Y) n ((X / (2 ^ (n + 1) : Nat) - 3 + (i : Int)) * (2 ^ (n + 1) : Nat)) ((Y / (2 ^ (n + 1) : Nat) - 3 + (j : Int)) * (2 ^ (n + 1) : Nat))
theorem blkU_len (X Y : Int) (m : Nat) : (blkU X Y m).length ≤ (m - 2) * 26 := by
  refine flats_len _ 26 (fun n => ?_) (m - 2)
  have := flats_len (fun i : Nat => (List.range 5).map fun j : Nat => treeOf (blk X Y) n ((X / (2 ^ (n + 1) : Nat) - 3 + (i : Int)) * (2 ^ (n + 1) : Nat)) ((Y / (2 ^ (n + 1) : Nat) - 3 + (j : Int)) * (2 ^ (n + 1) : Nat))) 5 (fun i => by simp) 5
  simp only [List.length_cons]
  omega
theorem nowhere_mem {X Y : Int} {m : Nat} {u : T} (h : Seen nowhere m u) : u ∈ blkU X Y m := by
  obtain ⟨ho, hm, A, B, hs⟩ := h
  have := u.lev_ge
  refine List.mem_flatMap.2 ⟨u.lev - 3, List.mem_range.2 (by omega), ?_⟩
  rw [treeOf_is (n := u.lev - 3) (ox := 0) (oy := 0) ho (by omega) (shows_nowhere hs fun _ _ _ _ => rfl)]
  rw [treeOf_lev]
  exact List.mem_cons_self ..
theorem blk_mem {X Y : Int} {m : Nat} {u : T} (h : Seen (blk X Y) m u) : u ∈ blkU X Y m := by
  have h0 := h
  obtain ⟨ho, hm, A, B, hs⟩ := h
  have l3 := u.lev_ge
  obtain ⟨n, hn⟩ : ∃ n, u.lev = n + 3 := ⟨u.lev - 3, by omega⟩
  rw [hn, show n + 3 - 2 = n + 1 from rfl] at hs
  obtain ⟨c, hc⟩ : ∃ c : Nat, c = 2 ^ (n + 1) := ⟨_, rfl⟩
  have c0 : 0 < c := by rw [hc]; exact Nat.pow_pos (by omega)
  have w4 : 2 ^ u.lev = 4 * c := by rw [hn, hc, show n + 3 = n + 1 + 1 + 1 from rfl, two_pow, two_pow]; omega
  rw [← hc] at hs
  -- nothing of the block is in it
  have out : ∀ (C Z : Int), ¬ (Z / c - 3 ≤ C ∧ C ≤ Z / c + 1) → ∀ x : Nat, x < 4 * c → ¬ (C * c + x = Z ∨ C * c + x = Z + 1) := fun C Z hC x hx hx' => by
    have d1 := Int.mul_ediv_add_emod Z c
    have d2 := Int.emod_nonneg Z (show (c : Int) ≠ 0 by omega)
    have d3 := Int.emod_lt_of_pos Z (show (0 : Int) < c by omega)
    generalize Z / (c : Int) = Q at *
    generalize Z % (c : Int) = R at *
    rcases Int.lt_or_le C (Q - 3) with h1 | h1
    · have : (Q - 4) * (c : Int) ≥ C * c := Int.mul_le_mul_of_nonneg_right (by omega) (by omega)
      have e1 : (Q - 4) * (c : Int) = c * Q - 4 * c := by rw [Int.sub_mul, Int.mul_comm]
      omega
    · have : C * (c : Int) ≥ (Q + 2) * c := Int.mul_le_mul_of_nonneg_right (by omega) (by omega)
      have e1 : (Q + 2) * (c : Int) = c * Q + 2 * c := by rw [Int.add_mul, Int.mul_comm]
      omega
  by_cases hA : X / c - 3 ≤ A ∧ A ≤ X / c + 1
  · by_cases hB : Y / c - 3 ≤ B ∧ B ≤ Y / c + 1
    · refine List.mem_flatMap.2 ⟨n, List.mem_range.2 (by omega), List.mem_cons_of_mem _ ?_⟩
      refine List.mem_flatMap.2 ⟨(A - (X / c - 3)).toNat, List.mem_range.2 (by omega), List.mem_map.2 ⟨(B - (Y / c - 3)).toNat, List.mem_range.2 (by omega), ?_⟩⟩
      rw [← hc, show X / (c : Int) - 3 + ((A - (X / (c : Int) - 3)).toNat : Int) = A from by omega, show Y / (c : Int) - 3 + ((B - (Y / (c : Int) - 3)).toNat : Int) = B from by omega]
      exact (treeOf_is ho hn hs).symm
    · refine nowhere_mem ⟨ho, hm, 0, 0, shows_nowhere hs fun x y hx hy => ?_⟩
      have := out B Y hB y (by omega)
      unfold blk
      exact decide_eq_false (fun h => this h.2)
  · refine nowhere_mem ⟨ho, hm, 0, 0, shows_nowhere hs fun x y hx hy => ?_⟩
    have := out A X hA x (by omega)
    unfold blk
    exact decide_eq_false (fun h => this h.1)
end Go.Qm
/-
  A block, set cell by cell, and what GrowStill makes: plain.
-/
namespace Go.Qm
theorem setBit_bit (t n i : Nat) : (setBit t n true).testBit i = (decide (i = n) || t.testBit i) := by
  unfold setBit
  rw [if_pos rfl, Nat.testBit_or, Nat.testBit_two_pow]
  by_cases h : i = n
  · subst h; simp
  · have : ¬ n = i := fun e => h e.symm
    simp [h, this]
theorem get_set : ∀ (t : T) (x y x' y' : Nat), t.ok → x < 2 ^ t.lev → y < 2 ^ t.lev → x' < 2 ^ t.lev → y' < 2 ^ t.lev → (t.set x y true).get x' y' = (decide (x' = x ∧ y' = y) || t.get x' y')
  | .leaf n, x, y, x', y', _, hx, hy, hx', hy' => by
    have hx : x < 8 := hx
    have hx' : x' < 8 := hx'
    simp only [T.set, T.get]
    rw [setBit_bit]
    congr 1
    apply decide_eq_decide.2
    omega
  | .node a b c d, x, y, x', y', ⟨o1, o2, o3, o4, e1, e2, e3⟩, hx, hy, hx', hy' => by
    simp only [T.lev, Nat.pow_succ] at hx hy hx' hy'
    have la := T.set_lev true a x y o1
    by_cases h1 : y < 2 ^ a.lev <;> by_cases h2 : x < 2 ^ a.lev <;> by_cases h3 : y' < 2 ^ a.lev <;> by_cases h4 : x' < 2 ^ a.lev <;> simp only [T.set, T.get, h1, h2, h3, h4, if_true, if_false, la]
    all_goals first
      | (rw [get_set a _ _ _ _ o1] <;> first | omega | (congr 1; apply decide_eq_decide.2; omega))
      | (rw [get_set b _ _ _ _ o2] <;> first | (rw [e1]; omega) | (congr 1; apply decide_eq_decide.2; omega))
      | (rw [get_set c _ _ _ _ o3] <;> first | (rw [e2]; omega) | (congr 1; apply decide_eq_decide.2; omega))
      | (rw [get_set d _ _ _ _ o4] <;> first | (rw [e3]; omega) | (congr 1; apply decide_eq_decide.2; omega))
      | (rw [decide_eq_false (p := x' = x ∧ y' = y) (by omega), Bool.false_or])
def blk1 (m X Y : Nat) : T := (T.empty (m - 3)).set X Y true
def blk2 (m X Y : Nat) : T := (blk1 m X Y).set (X + 1) Y true
def blk3 (m X Y : Nat) : T := (blk2 m X Y).set X (Y + 1) true
def blk4 (m X Y : Nat) : T := (blk3 m X Y).set (X + 1) (Y + 1) true
/-- All that GrowStill makes. -/
def stillU (m X Y : Nat) : List T := T.emptyNew (m - 3) ++ ((T.empty (m - 3)).setNew X Y true ++ ((blk1 m X Y).setNew (X + 1) Y true ++ ((blk2 m X Y).setNew X (Y + 1) true ++ ((blk3 m X Y).setNew (X + 1) (Y + 1) true ++ blkU X Y m))))
theorem blk_are {m X Y : Nat} (hm : 3 ≤ m) (hX : X + 1 < 2 ^ m) (hY : Y + 1 < 2 ^ m) :
    ((T.empty (m - 3)).ok ∧ (T.empty (m - 3)).lev = m) ∧ ((blk1 m X Y).ok ∧ (blk1 m X Y).lev = m) ∧ ((blk2 m X Y).ok ∧ (blk2 m X Y).lev = m) ∧ ((blk3 m X Y).ok ∧ (blk3 m X Y).lev = m) ∧ ((blk4 m X Y).ok ∧ (blk4 m X Y).lev = m) ∧ Shows (blk4 m X Y) (blk X Y) 0 0 := by
  have h0 : (T.empty (m - 3)).ok ∧ (T.empty (m - 3)).lev = m := ⟨T.empty_ok _, by rw [T.empty_lev]; omega⟩
  have st : ∀ {t : T} {x y : Nat}, t.ok ∧ t.lev = m → x < 2 ^ m → y < 2 ^ m → (t.set x y true).ok ∧ (t.set x y true).lev = m := fun {t x y} h hx hy =>
    ⟨T.set_ok true t x y h.1 (by rw [h.2]; exact hx) (by rw [h.2]; exact hy), by rw [T.set_lev _ _ _ _ h.1, h.2]⟩
  have h1 : (blk1 m X Y).ok ∧ (blk1 m X Y).lev = m := st h0 (by omega) (by omega)
  have h2 : (blk2 m X Y).ok ∧ (blk2 m X Y).lev = m := st h1 hX (by omega)
  have h3 : (blk3 m X Y).ok ∧ (blk3 m X Y).lev = m := st h2 (by omega) hY
  have h4 : (blk4 m X Y).ok ∧ (blk4 m X Y).lev = m := st h3 hX hY
  refine ⟨h0, h1, h2, h3, h4, fun x y hx hy => ?_⟩
  rw [h4.2] at hx hy
  have g0 : (T.empty (m - 3)).get x y = false := by rw [empty_nowhere (m - 3) 0 0 x y (by rw [h0.2]; exact hx) (by rw [h0.2]; exact hy)]; rfl
  unfold blk4
  rw [get_set _ _ _ _ _ h3.1 (by rw [h3.2]; exact hX) (by rw [h3.2]; exact hY) (by rw [h3.2]; exact hx) (by rw [h3.2]; exact hy)]
  unfold blk3
  rw [get_set _ _ _ _ _ h2.1 (by rw [h2.2]; omega) (by rw [h2.2]; exact hY) (by rw [h2.2]; exact hx) (by rw [h2.2]; exact hy)]
  unfold blk2
  rw [get_set _ _ _ _ _ h1.1 (by rw [h1.2]; exact hX) (by rw [h1.2]; omega) (by rw [h1.2]; exact hx) (by rw [h1.2]; exact hy)]
  unfold blk1
  rw [get_set _ _ _ _ _ h0.1 (by rw [h0.2]; omega) (by rw [h0.2]; omega) (by rw [h0.2]; exact hx) (by rw [h0.2]; exact hy), g0]
  unfold blk
  simp only [Bool.or_false, ← Bool.decide_or]
  apply decide_eq_decide.2
  omega
theorem stillU_len {m X Y : Nat} (hm : 3 ≤ m) (hm2 : m ≤ 24) (hX : X + 1 < 2 ^ m) (hY : Y + 1 < 2 ^ m) : (stillU m X Y).length ≤ 3000 := by
  obtain ⟨h0, h1, h2, h3, h4, -⟩ := blk_are hm hX hY
  have a0 := setNew_len true _ X Y h0.1
  have a1 := setNew_len true _ (X + 1) Y h1.1
  have a2 := setNew_len true _ X (Y + 1) h2.1
  have a3 := setNew_len true _ (X + 1) (Y + 1) h3.1
  have a4 := blkU_len X Y m
  unfold stillU
  simp only [List.length_append, emptyNew_len]
  have := h0.2; have := h1.2; have := h2.2; have := h3.2
  omega
/-- What stays is, gone on, its middle. -/
theorem grow_still {b l : Nat} {p : Plane} (hp : Stays b l p) {k : Nat} {t : T} {j : Nat} {ox oy : Int} (ho : t.ok) (hl : t.lev = k + 4) (hj : j ≤ k + 2) (hs : Shows t p ox oy) : T.grow b l k t j = T.ctr t.k0 t.k1 t.k2 t.k3 := by
  have g := T.grow_ok b l k t j ho hl
  have s := grow_shows b l k t j p _ _ ho hl hj hs
  rw [hp.gens] at s
  have c := ctr_of ho hl rfl hs
  exact shows_ext g.1 c.1 (g.2.trans c.2.1.symm) s c.2.2
theorem ctr_seen {p : Plane} {k : Nat} {t : T} (ho : t.ok) (hl : t.lev = k + 4) (hs : Shows t p 0 0) : Seen p (k + 4) (T.ctr t.k0 t.k1 t.k2 t.k3) := by
  have c := ctr_of ho hl rfl hs
  have e : (0 : Int) + ((2 ^ (k + 2) : Nat) : Int) = 2 * ((2 ^ (k + 1) : Nat) : Int) := by rw [two_pow]; push_cast; omega
  have s := c.2.2
  rw [e] at s
  exact Seen.at (n := k) (A := 2) (B := 2) c.1 c.2.1 (by omega) s rfl rfl
theorem blk_stays' (X Y : Int) : Stays 8 12 (blk X Y) := blk_still X Y
theorem grow_nowhere {b l : Nat} (hb : b % 2 = 0) {k : Nat} {j : Nat} (hj : j ≤ k + 2) : T.grow b l k (T.empty (k + 1)) j = T.empty k := by
  have ho := T.empty_ok (k + 1)
  have hl : (T.empty (k + 1)).lev = k + 4 := T.empty_lev _
  have g := T.grow_ok b l k _ j ho hl
  have s := grow_shows b l k _ j nowhere 0 0 ho hl hj (empty_nowhere _ _ _)
  rw [(nowhere_stays hb).gens] at s
  exact shows_ext g.1 (T.empty_ok k) (g.2.trans (T.empty_lev k).symm) s (empty_nowhere k _ _)
end Go.Qm
/-
  A square's cells, set one by one, and their number: plain.
-/
namespace Go.Qm
theorem popTo_set {t n : Nat} (h : t.testBit n = false) : ∀ k, popTo k (setBit t n true) = popTo k t + (if n < k then 1 else 0)
  | 0 => rfl
  | k + 1 => by
    rw [popTo_b, popTo_b, popTo_set h k, setBit_bit]
    by_cases hk : k = n
    · subst hk
      rw [h, if_neg (by omega), if_pos (by omega), decide_eq_true rfl]
      rfl
    · rw [decide_eq_false hk, Bool.false_or]
      by_cases hn : n < k
      · rw [if_pos hn, if_pos (by omega)]; omega
      · rw [if_neg hn, if_neg (by omega)]; omega
theorem pop_set {t n : Nat} (h : t.testBit n = false) (hn : n < 64) : pop (setBit t n true) = pop t + 1 := by
  unfold pop
  rw [popTo_set h, if_pos hn]
theorem many_set (t : T) : ∀ (x y : Nat), t.ok → x < 2 ^ t.lev → y < 2 ^ t.lev → t.get x y = false → t.many < 4611686018427387904 → (t.set x y true).many = t.many + 1 := by
  induction t with
  | leaf n =>
    intro x y _ hx hy hg _
    have hx : x < 8 := hx
    have hy : y < 8 := hy
    simp only [T.get] at hg
    simp only [T.set, T.many]
    rw [pop_set hg (by omega), Int.natCast_add, Int.natCast_one]
  | node a b c d ia ib ic id =>
    intro x y ho hx hy hg hm
    obtain ⟨o1, o2, o3, o4, e1, e2, e3⟩ := ho
    simp only [T.lev, Nat.pow_succ] at hx hy
    have ma := a.many_in; have mb := b.many_in; have mc := c.many_in; have md := d.many_in
    simp only [T.many] at hm
    unfold capsum at hm
    by_cases h1 : y < 2 ^ a.lev <;> by_cases h2 : x < 2 ^ a.lev <;> simp only [T.get, h1, h2, if_true, if_false] at hg <;> simp only [T.set, h1, h2, if_true, if_false, T.many]
    · rw [ia x y o1 h2 h1 hg (by omega)]
      unfold capsum; omega
    · rw [ib _ y o2 (by rw [e1]; omega) (by rw [e1]; omega) hg (by omega)]
      unfold capsum; omega
    · rw [ic x _ o3 (by rw [e2]; omega) (by rw [e2]; omega) hg (by omega)]
      unfold capsum; omega
    · rw [id _ _ o4 (by rw [e3]; omega) (by rw [e3]; omega) hg (by omega)]
      unfold capsum; omega
/-- What is known of a square. -/
structure Cells (t : T) (m : Nat) (f : Nat → Nat → Bool) (c : Int) : Prop where
  ok : t.ok
  lev : t.lev = m
  get : ∀ x y, x < 2 ^ m → y < 2 ^ m → t.get x y = f x y
  many : t.many = c
theorem cells_empty {m : Nat} (hm : 3 ≤ m) : Cells (T.empty (m - 3)) m (fun _ _ => false) 0 where
  ok := T.empty_ok _
  lev := by rw [T.empty_lev]; omega
  get := fun x y hx hy => by
    have e : (T.empty (m - 3)).lev = m := by rw [T.empty_lev]; omega
    rw [empty_nowhere (m - 3) 0 0 x y (by rw [e]; exact hx) (by rw [e]; exact hy)]; rfl
  many := many_empty _
theorem Cells.set {t : T} {m : Nat} {f : Nat → Nat → Bool} {c : Int} (h : Cells t m f c) {x y : Nat} (hx : x < 2 ^ m) (hy : y < 2 ^ m) (hf : f x y = false) (hc : c < 100000) : Cells (t.set x y true) m (fun a b => decide (a = x ∧ b = y) || f a b) (c + 1) where
  ok := T.set_ok _ _ _ _ h.ok (by rw [h.lev]; exact hx) (by rw [h.lev]; exact hy)
  lev := by rw [T.set_lev _ _ _ _ h.ok, h.lev]
  get := fun a b ha hb => by
    rw [get_set _ _ _ _ _ h.ok (by rw [h.lev]; exact hx) (by rw [h.lev]; exact hy) (by rw [h.lev]; exact ha) (by rw [h.lev]; exact hb), h.get a b ha hb]
  many := by
    rw [many_set _ _ _ h.ok (by rw [h.lev]; exact hx) (by rw [h.lev]; exact hy) (by rw [h.get x y hx hy]; exact hf) (by rw [h.many]; omega), h.many]
theorem Cells.congr {t : T} {m : Nat} {f f' : Nat → Nat → Bool} {c c' : Int} (h : Cells t m f c) (hf : ∀ x y, x < 2 ^ m → y < 2 ^ m → f x y = f' x y) (hc : c = c') : Cells t m f' c' where
  ok := h.ok
  lev := h.lev
  get := fun x y hx hy => (h.get x y hx hy).trans (hf x y hx hy)
  many := h.many.trans hc
end Go.Qm
/-
  The document's cells, row by row: what goes on in a square, cell by cell, and a square's cells counted: plain.
-/
namespace Go.Qm
/-- Rows of cells; outside none lives. -/
def plL (w : Nat) (L : List Bool) : Plane := fun x y => decide (0 ≤ x ∧ 0 ≤ y ∧ x < w ∧ y < w) && L.getD (w * y.toNat + x.toNat) false
theorem plL_in {w : Nat} {L : List Bool} {x y : Nat} (hx : x < w) (hy : y < w) : plL w L x y = L.getD (w * y + x) false := by
  unfold plL
  rw [decide_eq_true (by omega), Bool.true_and, Int.toNat_natCast, Int.toNat_natCast]
theorem plL_out {w : Nat} {L : List Bool} {x y : Int} (h : ¬ (0 ≤ x ∧ 0 ≤ y ∧ x < w ∧ y < w)) : plL w L x y = false := by
  unfold plL
  rw [decide_eq_false h, Bool.false_and]
/-- How many of the first i about a place live. -/
def cntN (p : Plane) (x y : Int) : Nat → Nat
  | 0 => 0
  | i + 1 => cntN p x y i + (if i ≠ 4 then b2n (p (x + (i % 3 : Nat) - 1) (y + (i / 3 : Nat) - 1)) else 0)
theorem cntN_9 (p : Plane) (x y : Int) : cntN p x y 9 = nbr p x y := by
  have e0 : ∀ a : Int, a + ((0 : Nat) : Int) - 1 = a - 1 := fun a => by omega
  have e1 : ∀ a : Int, a + ((1 : Nat) : Int) - 1 = a := fun a => by omega
  have e2 : ∀ a : Int, a + ((2 : Nat) : Int) - 1 = a + 1 := fun a => by omega
  simp only [cntN, Nat.reduceMod, Nat.reduceDiv, e0, e1, e2, ne_eq, Nat.reduceEqDiff, not_false_eq_true, if_true, not_true_eq_false, if_false]
  unfold nbr
  omega
theorem cntN_le (p : Plane) (x y : Int) : ∀ i, cntN p x y i ≤ i
  | 0 => Nat.le_refl _
  | i + 1 => by
    have h1 := cntN_le p x y i
    have h2 := b2n_le (p (x + (i % 3 : Nat) - 1) (y + (i / 3 : Nat) - 1))
    rw [cntN]
    split <;> omega
/-- A cell of the next generation. -/
def nextF (b l w : Nat) (L : List Bool) (i : Nat) : Bool := gen b l (plL w L) (i % w : Nat) (i / w : Nat)
def nextG (b l w : Nat) (L : List Bool) : List Bool := (List.range (w * w)).map (nextF b l w L)
def nexts (b l w : Nat) (L : List Bool) : Nat → List Bool
  | 0 => L
  | n + 1 => nextG b l w (nexts b l w L n)
theorem nextG_len (b l w : Nat) (L : List Bool) : (nextG b l w L).length = w * w := by simp [nextG]
theorem nexts_len {b l w : Nat} {L : List Bool} (h : L.length = w * w) : ∀ n, (nexts b l w L n).length = w * w
  | 0 => h
  | _ + 1 => nextG_len ..
theorem range_at (f : Nat → Bool) {n i : Nat} (h : i < n) : ((List.range n).map f).getD i false = f i := by
  rw [List.getD_eq_getElem?_getD, List.getElem?_map, List.getElem?_range h]; rfl
theorem at_lt {w x y : Nat} (hx : x < w) (hy : y < w) : w * y + x < w * w := by
  have := Nat.mul_le_mul_left w (show y + 1 ≤ w from hy)
  rw [Nat.mul_add, Nat.mul_one] at this
  omega
theorem at_mod {w x y : Nat} (hx : x < w) : (w * y + x) % w = x := by rw [Nat.mul_add_mod]; exact Nat.mod_eq_of_lt hx
theorem at_div {w x y : Nat} (hx : x < w) : (w * y + x) / w = y := by rw [Nat.mul_add_div (by omega), Nat.div_eq_of_lt hx]; rfl
theorem plL_next {b l w : Nat} {L : List Bool} {x y : Nat} (hx : x < w) (hy : y < w) : plL w (nextG b l w L) x y = gen b l (plL w L) x y := by
  rw [plL_in hx hy, nextG, range_at _ (at_lt hx hy), nextF, at_mod hx, at_div hx]
theorem cone {b l w : Nat} {L : List Bool} : ∀ n x y : Nat, n ≤ x → x + n < w → n ≤ y → y + n < w → plL w (nexts b l w L n) x y = gens b l (plL w L) n x y
  | 0, _, _, _, _, _, _ => rfl
  | n + 1, x, y, h1, h2, h3, h4 => by
    have ih := cone (b := b) (l := l) (w := w) (L := L) n
    rw [nexts, plL_next (by omega) (by omega), gens]
    unfold gen nbr
    have ex : (x : Int) - 1 = ((x - 1 : Nat) : Int) := by omega
    have ey : (y : Int) - 1 = ((y - 1 : Nat) : Int) := by omega
    have ex1 : (x : Int) + 1 = ((x + 1 : Nat) : Int) := by omega
    have ey1 : (y : Int) + 1 = ((y + 1 : Nat) : Int) := by omega
    rw [ex, ey, ex1, ey1]
    rw [ih x y (by omega) (by omega) (by omega) (by omega), ih (x - 1) (y - 1) (by omega) (by omega) (by omega) (by omega), ih x (y - 1) (by omega) (by omega) (by omega) (by omega), ih (x + 1) (y - 1) (by omega) (by omega) (by omega) (by omega),
      ih (x - 1) (y + 1) (by omega) (by omega) (by omega) (by omega), ih x (y + 1) (by omega) (by omega) (by omega) (by omega), ih (x + 1) (y + 1) (by omega) (by omega) (by omega) (by omega), ih (x - 1) y (by omega) (by omega) (by omega) (by omega), ih (x + 1) y (by omega) (by omega) (by omega) (by omega)]
/-- The middle's cells: q a quarter of the width. -/
def midF (w q : Nat) (L : List Bool) (i : Nat) : Bool := L.getD (w * (q + i / (2 * q)) + (q + i % (2 * q))) false
def midL (w q : Nat) (L : List Bool) : List Bool := (List.range (2 * q * (2 * q))).map (midF w q L)
theorem midL_len (w q : Nat) (L : List Bool) : (midL w q L).length = 2 * q * (2 * q) := by simp [midL]
/-- A square that shows a list's middle. -/
theorem mid_shows {t : T} {w q : Nat} {L : List Bool} {p : Plane} (hq : 2 ^ t.lev = 2 * q) (hw : w = 4 * q) (hs : Shows t p (q : Int) (q : Int)) (hp : ∀ x y : Nat, q ≤ x → x < 3 * q → q ≤ y → y < 3 * q → p x y = plL w L x y) : Shows t (plL (2 * q) (midL w q L)) 0 0 := fun x y hx hy => by
  rw [hq] at hx hy
  rw [hs x y (by rw [hq]; exact hx) (by rw [hq]; exact hy), Int.zero_add, Int.zero_add, plL_in hx hy, midL, range_at _ (at_lt hx hy), midF, at_mod hx, at_div hx]
  rw [← Int.natCast_add, ← Int.natCast_add, hp _ _ (by omega) (by omega) (by omega) (by omega), plL_in (by omega) (by omega)]
/-- Cells laid one by one. -/
theorem laid_cells {m w : Nat} {L : List Bool} (hm : 3 ≤ m) (hm2 : m ≤ 8) (hw : w = 2 ^ m) (hl : L.length = w * w) : ∀ i, i ≤ w * w → Cells (laidT m w (fun i => L.getD i false) i) m (fun x y => decide (w * y + x < i) && L.getD (w * y + x) false) ((L.take i).count true : Nat)
  | 0, _ => (cells_empty hm).congr (fun x y _ _ => by simp) (by simp)
  | i + 1, hi => by
    have ih := laid_cells hm hm2 hw hl i (by omega)
    have hw0 : 0 < w := by rw [hw]; exact Nat.pow_pos (by omega)
    have hw8 : w ≤ 2 ^ 8 := by rw [hw]; exact Nat.pow_le_pow_right (by omega) hm2
    have hww : w * w ≤ 256 * 256 := Nat.mul_le_mul hw8 hw8
    have hlt : i < L.length := by omega
    have e : L.take (i + 1) = L.take i ++ [L[i]] := by rw [List.take_add_one, List.getElem?_eq_getElem hlt]; rfl
    have ec : L.getD i false = L[i] := by rw [List.getD_eq_getElem?_getD, List.getElem?_eq_getElem hlt]; rfl
    have em : w * (i / w) + i % w = i := Nat.div_add_mod i w
    have hx : i % w < 2 ^ m := by rw [← hw]; exact Nat.mod_lt _ hw0
    have hy : i / w < 2 ^ m := by rw [← hw]; exact Nat.div_lt_of_lt_mul hi
    have hcl : (L.take i).count true ≤ i := Nat.le_trans List.count_le_length (by rw [List.length_take]; omega)
    rw [laidT, e, List.count_append]
    by_cases hc : L.getD i false = true
    · rw [if_pos hc]
      refine (ih.set hx hy (by rw [em]; simp) (by omega)).congr (fun x y hx' hy' => ?_) (by rw [← ec, hc]; simp)
      rw [← hw] at hx' hy'
      by_cases ex : x = i % w ∧ y = i / w
      · obtain ⟨rfl, rfl⟩ := ex
        rw [em, hc]
        simp
      · have hne : w * y + x ≠ i := fun h => ex ⟨by rw [← h, at_mod hx'], by rw [← h, at_div hx']⟩
        rw [decide_eq_false ex, Bool.false_or]
        congr 1
        apply decide_eq_decide.2
        omega
    · rw [if_neg hc]
      have hc' : L.getD i false = false := by simpa using hc
      refine ih.congr (fun x y hx' hy' => ?_) (by rw [← ec, hc']; simp)
      by_cases he : w * y + x = i
      · rw [he, hc', Bool.and_false, Bool.and_false]
      · congr 1
        apply decide_eq_decide.2
        omega
theorem laid_shows {m w : Nat} {L : List Bool} (hm : 3 ≤ m) (hm2 : m ≤ 8) (hw : w = 2 ^ m) (hl : L.length = w * w) : (laidT m w (fun i => L.getD i false) (w * w)).ok ∧ (laidT m w (fun i => L.getD i false) (w * w)).lev = m ∧ Shows (laidT m w (fun i => L.getD i false) (w * w)) (plL w L) 0 0 ∧ (laidT m w (fun i => L.getD i false) (w * w)).many = (L.count true : Nat) := by
  have c := laid_cells hm hm2 hw hl (w * w) (Nat.le_refl _)
  refine ⟨c.ok, c.lev, fun x y hx hy => ?_, ?_⟩
  · rw [c.lev] at hx hy
    rw [c.get x y hx hy]
    rw [← hw] at hx hy
    rw [Int.zero_add, Int.zero_add, plL_in hx hy, decide_eq_true (at_lt hx hy), Bool.true_and]
  · rw [c.many, List.take_of_length_le (by omega)]
theorem many_list {t : T} {m w : Nat} {L : List Bool} (ho : t.ok) (hlev : t.lev = m) (hm : 3 ≤ m) (hm2 : m ≤ 8) (hw : w = 2 ^ m) (hl : L.length = w * w) (hs : Shows t (plL w L) 0 0) : t.many = (L.count true : Nat) := by
  obtain ⟨a1, a2, a3, a4⟩ := laid_shows hm hm2 hw hl
  rw [shows_ext ho a1 (hlev.trans a2.symm) hs a3, a4]
/-- All that GrowCells makes. -/
def cellU (b l m w : Nat) (c : Nat → Bool) (j : Nat) : List T := laidNew m w c (w * w) ++ (T.growNew b l (m - 4) (laidT m w c (w * w)) j ++ [T.ctr (laidT m w c (w * w)).k0 (laidT m w c (w * w)).k1 (laidT m w c (w * w)).k2 (laidT m w c (w * w)).k3])
theorem cellU_len {b l m w j : Nat} {L : List Bool} (h1 : 4 ≤ m) (h2 : m ≤ 6) (hw : w = 2 ^ m) (hl : L.length = w * w) (hc : L.count true ≤ 60) : (cellU b l m w (fun i => L.getD i false) j).length ≤ 20000 := by
  have a1 := laidNew_len L (by omega) hw hl (w * w) (Nat.le_refl _)
  have a2 : (L.take (w * w)).count true ≤ 60 := Nat.le_trans (List.Sublist.count_le _ (List.take_sublist _ _)) hc
  have a3 := growNew_len b l (m - 4) (laidT m w (fun i => L.getD i false) (w * w)) j
  have a7 : most13 (m - 4) ≤ 10000 := by
    have : m = 4 ∨ m = 5 ∨ m = 6 := by omega
    rcases this with rfl | rfl | rfl <;> decide
  have a8 : (m - 2) * ((L.take (w * w)).count true + 1) ≤ 4 * 61 := Nat.mul_le_mul (by omega) (by omega)
  unfold cellU
  simp only [List.length_append, List.length_cons, List.length_nil]
  omega
/-- What comes of cells, and their middle. -/
theorem cells_out {b l m w q j : Nat} {L : List Bool} (h1 : 4 ≤ m) (h2 : m ≤ 6) (hw : w = 2 ^ m) (hq : w = 4 * q) (hl : L.length = w * w) (hj : j ≤ m - 2) :
    ((T.grow b l (m - 4) (laidT m w (fun i => L.getD i false) (w * w)) j).lev = m - 1 ∧ Shows (T.grow b l (m - 4) (laidT m w (fun i => L.getD i false) (w * w)) j) (plL (2 * q) (midL w q (nexts b l w L (2 ^ j)))) 0 0 ∧
      (T.grow b l (m - 4) (laidT m w (fun i => L.getD i false) (w * w)) j).many = ((midL w q (nexts b l w L (2 ^ j))).count true : Nat)) ∧
    ((T.ctr (laidT m w (fun i => L.getD i false) (w * w)).k0 (laidT m w (fun i => L.getD i false) (w * w)).k1 (laidT m w (fun i => L.getD i false) (w * w)).k2 (laidT m w (fun i => L.getD i false) (w * w)).k3).lev = m - 1 ∧
      Shows (T.ctr (laidT m w (fun i => L.getD i false) (w * w)).k0 (laidT m w (fun i => L.getD i false) (w * w)).k1 (laidT m w (fun i => L.getD i false) (w * w)).k2 (laidT m w (fun i => L.getD i false) (w * w)).k3) (plL (2 * q) (midL w q L)) 0 0 ∧
      (T.ctr (laidT m w (fun i => L.getD i false) (w * w)).k0 (laidT m w (fun i => L.getD i false) (w * w)).k1 (laidT m w (fun i => L.getD i false) (w * w)).k2 (laidT m w (fun i => L.getD i false) (w * w)).k3).many = ((midL w q L).count true : Nat)) := by
  obtain ⟨a1, a2, a3, -⟩ := laid_shows (by omega) (by omega) hw hl
  generalize laidT m w (fun i => L.getD i false) (w * w) = t at *
  have e1 : m = m - 1 + 1 := by omega
  have e2 : m - 1 = m - 2 + 1 := by omega
  have p1 : 2 ^ (m - 1) = 2 * q := by rw [e1, two_pow] at hw; omega
  have p2 : 2 ^ (m - 2) = q := by rw [e2, two_pow] at p1; omega
  have hl4 : t.lev = m - 4 + 4 := by omega
  have g := T.grow_ok b l (m - 4) t j a1 hl4
  have gs := grow_shows b l (m - 4) t j _ _ _ a1 hl4 (by omega) a3
  have gl : (T.grow b l (m - 4) t j).lev = m - 1 := by rw [g.2]; omega
  have c := ctr_of a1 hl4 rfl a3
  have cl := c.2.1
  have cs := c.2.2
  have hj2 : 2 ^ j ≤ q := by rw [← p2]; exact Nat.pow_le_pow_right (by omega) hj
  rw [show m - 4 + 2 = m - 2 from by omega, p2, Int.zero_add] at gs cs
  have cl' : (T.ctr t.k0 t.k1 t.k2 t.k3).lev = m - 1 := by omega
  have s1 : Shows (T.grow b l (m - 4) t j) (plL (2 * q) (midL w q (nexts b l w L (2 ^ j)))) 0 0 := mid_shows (by rw [gl, p1]) hq gs fun x y hx1 hx2 hy1 hy2 => (cone _ x y (by omega) (by omega) (by omega) (by omega)).symm
  have s2 : Shows (T.ctr t.k0 t.k1 t.k2 t.k3) (plL (2 * q) (midL w q L)) 0 0 := mid_shows (by rw [cl', p1]) hq cs fun x y _ _ _ _ => rfl
  exact ⟨⟨gl, s1, many_list g.1 gl (by omega) (by omega) p1.symm (midL_len ..) s1⟩, ⟨cl', s2, many_list c.1 cl' (by omega) (by omega) p1.symm (midL_len ..) s2⟩⟩
end Go.Qm
/-
  The document's answer, packages quiltref08, quiltref09, quiltref12: what they compute.
-/
namespace Go.Proofs.YtphnadpmpcifoaaDoor
open Go.Sq Go.Qm
attribute [local irreducible] SW J
set_option maxHeartbeats 8000000
set_option maxRecDepth 10000
theorem Has_is {bits n : Nat} (hb : bits < 65536) (hn : n ≤ 9) : CallF P 64 [.int .u16 bits, int n] [] (.bool (bits.testBit n)) [] := by
  refine callR_of Tryd.func64 rfl Tryd.ntmps64 rfl fun σ F => ?_
  repeat' first
    | refine W.pure rfl rfl rfl rfl ?_
    | refine W.nil ?_
    | refine J.reg ?_
    | refine J.seq ?_
    | refine J.block ?_
  refine J.loop (X := Nat) (fun k => k ≤ n) (fun k => n - k) (fun k => [(0, .int .u16 ((bits / 2 ^ k : Nat) : Int)), (1, int n), (5, int k)]) (fun k => []) 0 (by omega) ⟨by rw [Nat.pow_zero, Nat.div_one]; rfl, rfl, rfl, trivial⟩ (.refl _) fun k hk => ?_
  have hk : k ≤ n := hk
  have hd : bits / 2 ^ k < 65536 := Nat.lt_of_le_of_lt (Nat.div_le_self _ _) hb
  by_cases hlt : k < n
  · have e : ((bits / 2 ^ k : Nat) : Int) / 2 = ((bits / 2 ^ (k + 1) : Nat) : Int) := by
      rw [Nat.pow_succ, ← Nat.div_div_eq_div_mul]; rfl
    have q1 : IntKind.u16.wrap (((bits / 2 ^ k : Nat) : Int) / 2) = ((bits / 2 ^ k : Nat) : Int) / 2 := by
      rw [e]
      exact wrap_u (k := .u16) rfl (Nat.lt_of_le_of_lt (Nat.div_le_self _ _) hb)
    repeat' first
      | (show W _ _ _ _ _ (_ :: _) _ _ _; first
        | refine W.quo rfl rfl rfl rfl (Int.natCast_nonneg _) (by omega) q1 ?_
        | refine W.pure rfl rfl rfl rfl ?_
        | refine W.cmpT rfl rfl rfl rfl (by simp only [cmpP]; first | done | omega) ?_
        | refine W.add64 rfl rfl rfl rfl (by omega) ?_)
      | refine W.nil ?_
      | refine J.reg ?_
      | refine J.seq ?_
      | refine J.condT rfl ?_
      | refine J.block ?_
      | refine J.endBlk ?_
      | refine J.skip ?_
    exact J.again (k + 1) (by show k + 1 ≤ n; omega) (by show n - (k + 1) < n - k; omega) ⟨congrArg (fun z => some (Value.int .u16 z)) e, rfl, rfl, trivial⟩ (.refl _)
  · obtain rfl : k = n := by omega
    have r1 : ((bits / 2 ^ k : Nat) : Int) % 2 = ((bits / 2 ^ k % 2 : Nat) : Int) := rfl
    have q1 : IntE .eql .u16 ((bits / 2 ^ k % 2 : Nat) : Int) 1 (.bool (bits.testBit k)) := ⟨by
      simp only [intV, Nat.testBit_eq_decide_div_mod_eq]
      congr 2
      apply decide_eq_decide.2
      omega⟩
    repeat' first
      | (show W _ _ _ _ _ (_ :: _) _ _ _; first
        | refine W.remE rfl rfl rfl rfl (Int.natCast_nonneg _) (by omega) r1 ?_
        | refine W.pure rfl rfl rfl rfl ?_
        | refine W.binE rfl rfl rfl rfl (by assumption) ?_
        | refine W.cmpF rfl rfl rfl rfl (by simp only [cmpN]; first | done | omega) ?_)
      | refine W.nil ?_
      | refine J.reg ?_
      | refine J.seq ?_
      | refine J.condF rfl ?_
      | refine J.exit rfl ?_
    exact J.retF [] (res1 rfl rfl) rfl
theorem RNext_is {b l n : Nat} {v : Bool} (hb : b < 65536) (hl : l < 65536) (hn : n ≤ 9) : CallF P 54 [ruleV b l, .bool v, int n] [] (.bool (nextB b l v n)) [] := by
  have h1 := Has_is hl hn
  have h2 := Has_is hb hn
  refine callR_of Tryd.func54 rfl Tryd.ntmps54 rfl fun σ F => ?_
  cases v
  · repeat' first
      | (show W _ _ _ _ _ (_ :: _) _ _ _; first
        | refine W.call0 h2 rfl rfl rfl ?_
        | refine W.pure rfl rfl rfl rfl ?_
        | refine W.ldV rfl rfl rfl rfl rfl rfl ?_
        | refine W.fieldAddr0 rfl rfl rfl rfl rfl ?_
        | refine W.boxA rfl rfl rfl (fun bq => ?_))
      | refine W.nil ?_
      | refine J.reg ?_
      | refine J.seq ?_
      | refine J.condF rfl ?_
      | refine J.skip ?_
    exact J.retF [] (res1 rfl rfl) rfl
  · repeat' first
      | (show W _ _ _ _ _ (_ :: _) _ _ _; first
        | refine W.call0 h1 rfl rfl rfl ?_
        | refine W.pure rfl rfl rfl rfl ?_
        | refine W.ldV rfl rfl rfl rfl rfl rfl ?_
        | refine W.fieldAddr0 rfl rfl rfl rfl rfl ?_
        | refine W.boxA rfl rfl rfl (fun bq => ?_))
      | refine W.nil ?_
      | refine J.reg ?_
      | refine J.seq ?_
      | refine J.condT rfl ?_
    exact J.retF [] (res1 rfl rfl) rfl
abbrev gridV (w bo cap : Nat) : Value := .agg #[int w, .slice (some ⟨bo, 0, none⟩) (w * w) cap]
theorem gat_is {w : Nat} {L : List Bool} {bo cap : Nat} {c : Array Value} {T0 : TypeId} {fz : Nat × Nat} (hw : w ≤ 64) (hc : ∀ i, i < w * w → c.toList[0 + i * 1]? = some (.bool (L.getD i false))) {x y : Int} :
    CallF P 53 [gridV w bo cap, int x, int y] [(bo, pts bo (.cells c T0 fz))] (.bool (plL w L x y)) [(bo, pts bo (.cells c T0 fz))] := by
  have hww : w * w ≤ 64 * 64 := Nat.mul_le_mul hw hw
  refine callR_of Tryd.func53 rfl Tryd.ntmps53 rfl fun σ F => ?_
  by_cases h1 : 0 ≤ x
  · by_cases h2 : 0 ≤ y
    · by_cases h3 : x < w
      · by_cases h4 : y < w
        · obtain ⟨X, rfl⟩ : ∃ X : Nat, x = X := ⟨x.toNat, by omega⟩
          obtain ⟨Y, rfl⟩ : ∃ Y : Nat, y = Y := ⟨y.toNat, by omega⟩
          have hX : X < w := by omega
          have hY : Y < w := by omega
          have hin := at_lt hX hY
          have hm : w * Y ≤ w * w := Nat.mul_le_mul_left _ (by omega)
          have hcell := hc _ hin
          rw [← plL_in hX hY] at hcell
          have f5 : IntE .mul .i64 (w : Int) (Y : Int) (int ((w * Y : Nat) : Int)) := ⟨by simp only [intV]; rw [← Int.natCast_mul, wrap_i64 (by omega) (by omega)]⟩
          have f6 : IntE .add .i64 ((w * Y : Nat) : Int) (X : Int) (int ((w * Y + X : Nat) : Int)) := ⟨by simp only [intV]; rw [← Int.natCast_add, wrap_i64 (by omega) (by omega)]⟩
          repeat' first
            | (show W _ _ _ _ _ (_ :: _) _ _ _; first
              | refine W.ldV rfl rfl rfl rfl rfl hcell ?_
              | refine W.pure rfl rfl rfl rfl ?_
              | refine W.ldV rfl rfl rfl rfl rfl rfl ?_
              | refine W.binE rfl rfl rfl rfl (by assumption) ?_
              | refine W.cmpT rfl rfl rfl rfl (by simp only [cmpP]; first | done | omega) ?_
              | refine W.fieldAddr0 rfl rfl rfl rfl rfl ?_
              | refine W.boxA rfl rfl rfl (fun bq => ?_)
              | refine W.indexAddrS rfl rfl rfl rfl (by omega) ?_)
            | refine W.nil ?_
            | refine J.reg ?_
            | refine J.seq ?_
          exact J.retF [bo] (res1 rfl rfl) rfl
        · rw [plL_out (by omega)]
          repeat' first
            | (show W _ _ _ _ _ (_ :: _) _ _ _; first
              | refine W.pure rfl rfl rfl rfl ?_
              | refine W.ldV rfl rfl rfl rfl rfl rfl ?_
              | refine W.cmpT rfl rfl rfl rfl (by simp only [cmpP]; first | done | omega) ?_
              | refine W.cmpF rfl rfl rfl rfl (by simp only [cmpN]; first | done | omega) ?_
              | refine W.fieldAddr0 rfl rfl rfl rfl rfl ?_
              | refine W.skip rfl rfl ?_
              | refine W.boxA rfl rfl rfl (fun bq => ?_))
            | refine W.nil ?_
            | refine J.reg ?_
            | refine J.seq ?_
          exact J.retF [bo] (res1 rfl rfl) rfl
      · rw [plL_out (by omega)]
        repeat' first
          | (show W _ _ _ _ _ (_ :: _) _ _ _; first
            | refine W.pure rfl rfl rfl rfl ?_
            | refine W.ldV rfl rfl rfl rfl rfl rfl ?_
            | refine W.cmpT rfl rfl rfl rfl (by simp only [cmpP]; first | done | omega) ?_
            | refine W.cmpF rfl rfl rfl rfl (by simp only [cmpN]; first | done | omega) ?_
            | refine W.fieldAddr0 rfl rfl rfl rfl rfl ?_
            | refine W.skip rfl rfl ?_
            | refine W.boxA rfl rfl rfl (fun bq => ?_))
          | refine W.nil ?_
          | refine J.reg ?_
          | refine J.seq ?_
        exact J.retF [bo] (res1 rfl rfl) rfl
    · rw [plL_out (by omega)]
      repeat' first
        | (show W _ _ _ _ _ (_ :: _) _ _ _; first
          | refine W.pure rfl rfl rfl rfl ?_
          | refine W.cmpT rfl rfl rfl rfl (by simp only [cmpP]; first | done | omega) ?_
          | refine W.cmpF rfl rfl rfl rfl (by simp only [cmpN]; first | done | omega) ?_
          | refine W.skip rfl rfl ?_
          | refine W.boxA rfl rfl rfl (fun bq => ?_))
        | refine W.nil ?_
        | refine J.reg ?_
        | refine J.seq ?_
      exact J.retF [bo] (res1 rfl rfl) rfl
  · rw [plL_out (by omega)]
    repeat' first
      | (show W _ _ _ _ _ (_ :: _) _ _ _; first
        | refine W.pure rfl rfl rfl rfl ?_
        | refine W.cmpF rfl rfl rfl rfl (by simp only [cmpN]; first | done | omega) ?_
        | refine W.skip rfl rfl ?_
        | refine W.boxA rfl rfl rfl (fun bq => ?_))
      | refine W.nil ?_
      | refine J.reg ?_
      | refine J.seq ?_
    exact J.retF [bo] (res1 rfl rfl) rfl
end Go.Proofs.YtphnadpmpcifoaaDoor
/-
  Rounds of a loop whose pieces are found by their keys.
-/
namespace Go.Sq
variable {P : Program} {R : Exit → Act → World → Prop} {n : Nat} {σ : Str} {F : List Ent} {st : List It} {E : Env} {As : List Ent}
theorem J.againK {X : Type _} {ok : X → Prop} {μ : X → Nat} {EX : X → Env} {AX : X → List Ent} {x : X} (y : X) (ks : List Nat) (h0 : ok y) (hlt : μ y < μ x) (hE : E.all (EX y)) {N M : List Ent} [p : PickL As ks N M] (hA : N = AX y) :
    J P R n σ F (.back (fun a w => ∃ y, ok y ∧ μ y < μ x ∧ Agree n a (EX y).get ∧ Sat σ w (AX y ++ F)) :: st) E As :=
  J.only (N := N) (M := M) ks (J.again y h0 hlt hE (by rw [hA]))
/-- A loop begins: its pieces are found by their keys; the others are let go. -/
theorem J.loopK {X : Type _} {c : Code} (ok : X → Prop) (μ : X → Nat) (EX : X → Env) (AX : X → List Ent) (x0 : X) (ks : List Nat) (h0 : ok x0) (hE : E.all (EX x0)) {N M : List Ent} [p : PickL As ks N M] (hA : N = AX x0)
    (round : ∀ x, ok x → J P R n σ F (.code c :: .back (fun a w => ∃ y, ok y ∧ μ y < μ x ∧ Agree n a (EX y).get ∧ Sat σ w (AX y ++ F)) :: st) (EX x) (AX x)) :
    J P R n σ F (.code (.loop c) :: st) E As :=
  J.only (N := N) (M := M) ks (J.loop ok μ EX AX x0 h0 hE (by rw [hA]) round)
end Go.Sq
/-
  The document's answer, packages quiltref09, quiltref12: one generation on, and the middle.
-/
namespace Go.Proofs.YtphnadpmpcifoaaDoor
open Go.Sq Go.Qm
attribute [local irreducible] SW J plL nextF nextG nexts midF midL nextB cntN
set_option maxHeartbeats 8000000
set_option maxRecDepth 10000
def boolsV (f : Nat → Bool) (m : Nat) : List Value := (List.range m).map fun i => Value.bool (f i)
theorem boolsV_succ (f : Nat → Bool) (m : Nat) : boolsV f m ++ [Value.bool (f m)] = boolsV f (m + 1) := by unfold boolsV; rw [List.range_succ, List.map_append]; rfl
theorem boolsV_at (f : Nat → Bool) {m i : Nat} {cur : Array Value} (h : cur.toList.take (m * 1) = boolsV f m) (hi : i < m) : cur.toList[0 + i * 1]? = some (.bool (((List.range m).map f).getD i false)) := by
  have e : (cur.toList.take (m * 1))[i]? = (boolsV f m)[i]? := by rw [h]
  rw [List.getElem?_take_of_lt (by omega)] at e
  rw [show 0 + i * 1 = i from by omega, e, range_at f hi, boolsV, List.getElem?_map, List.getElem?_range hi]
  rfl
instance (v : Bool) : BldS Tryd.prog 49 1 [(0, .bool v)] 4 [.bool v] := ⟨fun w => by kernel_rfl⟩
theorem GNext_is {b l w : Nat} {L : List Bool} {bo cap : Nat} {c : Array Value} {T0 : TypeId} {fz : Nat × Nat} (hb : b < 65536) (hl : l < 65536) (hw0 : 0 < w) (hw : w ≤ 64) (hc : ∀ i, i < w * w → c.toList[0 + i * 1]? = some (.bool (L.getD i false))) :
    CallR P 35 [ruleV b l, gridV w bo cap] [(bo, pts bo (.cells c T0 fz))] fun v N => ∃ b2 cap2 c2, (v = gridV w b2 cap2 ∧ ∀ i, i < w * w → c2.toList[0 + i * 1]? = some (.bool ((nextG b l w L).getD i false))) ∧ N = [(b2, pts b2 (.cells c2 4 (0, 0))), (bo, pts bo (.cells c T0 fz))] := by
  have hww : w * w ≤ 64 * 64 := Nat.mul_le_mul hw hw
  have hww0 : 0 < w * w := Nat.mul_pos hw0 hw0
  refine callR_of Tryd.func35 rfl Tryd.ntmps35 rfl fun σ F => ?_
  repeat' first
    | (show W _ _ _ _ _ (_ :: _) _ _ _; first
      | refine W.pure rfl rfl rfl rfl ?_
      | refine W.ldV rfl rfl rfl rfl rfl rfl ?_
      | refine W.fieldAddr0 rfl rfl rfl rfl rfl ?_
      | refine W.alloc rfl rfl (fun bq => ?_)
      | refine W.boxA rfl rfl rfl (fun bq => ?_)
      | refine W.storeA rfl rfl rfl rfl (by rfl) (by rfl) (by simp [Value.oneCell']) ?_
      | refine W.build rfl rfl rfl ?_)
    | refine W.nil ?_
    | refine J.reg ?_
    | refine J.seq ?_
    | refine J.block ?_
  rename_i b2 b3 b4
  revert bq
  intro b5
  refine J.addNil (b5 + 1) 4 1 ?_
  refine J.loop (X := Nat × Nat × Value) (fun q => q.1 ≤ w) (fun q => w - q.1) (fun q => [(2, ptr b2), (3, ptr b3), (4, ptr b4), (5, ptr b5), (6, int q.1)])
    (fun q => [(q.2.1, rowP q.2.1 4 1 q.2.2 (w * q.1) (boolsV (nextF b l w L) (w * q.1))), (b5, pts b5 (.cells #[int w, q.2.2] 85 (0, 0))), (b4, pts b4 (.cells #[int 0, .slice none 0 0] 85 (0, 0))), (b3, pts b3 (.cells #[int w, .slice (some ⟨bo, 0, none⟩) (w * w) cap] 85 (0, 0))), (b2, pts b2 (.cells #[.int .u16 b, .int .u16 l] 24 (0, 0))), (bo, pts bo (.cells c T0 fz))])
    (0, b5 + 1, .slice none 0 0) (Nat.zero_le _) ⟨rfl, rfl, rfl, rfl, rfl, trivial⟩ (by exact .refl _) ?_
  rintro ⟨y, g, v⟩ hy0
  have hy : y ≤ w := hy0
  clear hy0
  conv => arg 7; dsimp only
  conv => arg 8; dsimp only
  by_cases hyl : y < w
  · have hwy : w * y ≤ w * w := Nat.mul_le_mul_left _ hy
    repeat' first
      | (show W _ _ _ _ _ (_ :: _) _ _ _; first
        | refine W.pure rfl rfl rfl rfl ?_
        | refine W.ldV rfl rfl rfl rfl rfl rfl ?_
        | refine W.cmpT rfl rfl rfl rfl (by simp only [cmpP]; first | done | omega) ?_
        | refine W.fieldAddr0 rfl rfl rfl rfl rfl ?_)
      | refine W.nil ?_
      | refine J.reg ?_
      | refine J.seq ?_
      | refine J.condT rfl ?_
      | refine J.block ?_
      | refine J.skip ?_
    refine J.loop (X := Nat × Nat × Value) (fun q => q.1 ≤ w) (fun q => w - q.1) (fun q => [(2, ptr b2), (3, ptr b3), (4, ptr b4), (5, ptr b5), (6, int y), (7, int q.1)])
      (fun q => [(q.2.1, rowP q.2.1 4 1 q.2.2 (w * y + q.1) (boolsV (nextF b l w L) (w * y + q.1))), (b5, pts b5 (.cells #[int w, q.2.2] 85 (0, 0))), (b4, pts b4 (.cells #[int 0, .slice none 0 0] 85 (0, 0))), (b3, pts b3 (.cells #[int w, .slice (some ⟨bo, 0, none⟩) (w * w) cap] 85 (0, 0))), (b2, pts b2 (.cells #[.int .u16 b, .int .u16 l] 24 (0, 0))), (bo, pts bo (.cells c T0 fz))])
      (0, g, v) (Nat.zero_le _) ⟨rfl, rfl, rfl, rfl, rfl, rfl, trivial⟩ (by exact .refl _) ?_
    rintro ⟨x, g, v⟩ hx0
    have hx : x ≤ w := hx0
    clear hx0
    conv => arg 7; dsimp only
    conv => arg 8; dsimp only
    by_cases hxl : x < w
    · have hin := at_lt hxl hyl
      repeat' first
        | (show W _ _ _ _ _ (_ :: _) _ _ _; first
          | refine W.pure rfl rfl rfl rfl ?_
          | refine W.ldV rfl rfl rfl rfl rfl rfl ?_
          | refine W.cmpT rfl rfl rfl rfl (by simp only [cmpP]; first | done | omega) ?_
          | refine W.fieldAddr0 rfl rfl rfl rfl rfl ?_)
        | refine W.nil ?_
        | refine J.reg ?_
        | refine J.seq ?_
        | refine J.condT rfl ?_
        | refine J.block ?_
        | refine J.skip ?_
      refine J.loop (X := Nat) (fun q => q ≤ 9) (fun q => 9 - q) (fun q => [(2, ptr b2), (3, ptr b3), (4, ptr b4), (5, ptr b5), (6, int y), (7, int x), (8, int (cntN (plL w L) x y q)), (9, int q)])
        (fun q => [(g, rowP g 4 1 v (w * y + x) (boolsV (nextF b l w L) (w * y + x))), (b5, pts b5 (.cells #[int w, v] 85 (0, 0))), (b4, pts b4 (.cells #[int 0, .slice none 0 0] 85 (0, 0))), (b3, pts b3 (.cells #[int w, .slice (some ⟨bo, 0, none⟩) (w * w) cap] 85 (0, 0))), (b2, pts b2 (.cells #[.int .u16 b, .int .u16 l] 24 (0, 0))), (bo, pts bo (.cells c T0 fz))])
        0 (Nat.zero_le _) ⟨rfl, rfl, rfl, rfl, rfl, rfl, by rw [show cntN (plL w L) x y 0 = 0 from by unfold cntN; rfl]; rfl, rfl, trivial⟩ (by exact .refl _) ?_
      intro i hi
      have hi : i ≤ 9 := hi
      have hcl := cntN_le (plL w L) x y i
      by_cases hil : i < 9
      · have r1 : (i : Int) % 3 = ((i % 3 : Nat) : Int) := rfl
        have r2 : (i : Int) / 3 = ((i / 3 : Nat) : Int) := rfl
        have es : cntN (plL w L) x y (i + 1) = cntN (plL w L) x y i + (if i ≠ 4 then b2n (plL w L ((x : Int) + (i % 3 : Nat) - 1) ((y : Int) + (i / 3 : Nat) - 1)) else 0) := by rw [cntN]
        by_cases h4 : i = 4
        · subst h4
          repeat' first
            | (show W _ _ _ _ _ (_ :: _) _ _ _; first
              | refine W.pure rfl rfl rfl rfl ?_
              | refine W.cmpT rfl rfl rfl rfl (by simp only [cmpP]; first | done | omega) ?_
              | refine W.cmpF rfl rfl rfl rfl (by simp only [cmpN]; first | done | omega) ?_
              | refine W.add64 rfl rfl rfl rfl (by omega) ?_
              | refine W.skip rfl rfl ?_)
            | refine W.nil ?_
            | refine J.reg ?_
            | refine J.seq ?_
            | refine J.condT rfl ?_
            | refine J.condF rfl ?_
            | refine J.block ?_
            | refine J.endBlk ?_
            | refine J.skip ?_
          exact J.again 5 (by show 5 ≤ 9; omega) (by show 9 - 5 < 9 - 4; omega) ⟨rfl, rfl, rfl, rfl, rfl, rfl, by rw [es]; rfl, rfl, trivial⟩ (by exact .refl _)
        · have hat := gat_is (bo := bo) (cap := cap) (T0 := T0) (fz := fz) hw hc (x := (x : Int) + (i % 3 : Nat) - 1) (y := (y : Int) + (i / 3 : Nat) - 1)
          rw [if_pos h4] at es
          cases hp : plL w L ((x : Int) + (i % 3 : Nat) - 1) ((y : Int) + (i / 3 : Nat) - 1) with
          | false =>
            rw [hp] at hat es
            repeat' first
              | (show W _ _ _ _ _ (_ :: _) _ _ _; first
                | refine W.remE rfl rfl rfl rfl (by omega) (by omega) r1 ?_
                | refine W.quoE rfl rfl rfl rfl (by omega) (by omega) r2 (by omega) ?_
                | refine W.call1 hat rfl rfl rfl ?_
                | refine W.pure rfl rfl rfl rfl ?_
                | refine W.cmpT rfl rfl rfl rfl (by simp only [cmpP]; first | done | omega) ?_
                | refine W.add64 rfl rfl rfl rfl (by omega) ?_
                | refine W.sub64 rfl rfl rfl rfl (by omega) ?_
                | refine W.ldaV rfl rfl rfl rfl rfl rfl ?_)
              | refine W.nil ?_
              | refine J.reg ?_
              | refine J.seq ?_
              | refine J.condT rfl ?_
              | refine J.condF rfl ?_
              | refine J.block ?_
              | refine J.endBlk ?_
              | refine J.skip ?_
            exact J.again (i + 1) (by show i + 1 ≤ 9; omega) (by show 9 - (i + 1) < 9 - i; omega) ⟨rfl, rfl, rfl, rfl, rfl, rfl, by rw [es]; rfl, rfl, trivial⟩ (by exact List.perm_append_comm (l₁ := [_]))
          | true =>
            rw [hp] at hat es
            repeat' first
              | (show W _ _ _ _ _ (_ :: _) _ _ _; first
                | refine W.remE rfl rfl rfl rfl (by omega) (by omega) r1 ?_
                | refine W.quoE rfl rfl rfl rfl (by omega) (by omega) r2 (by omega) ?_
                | refine W.call1 hat rfl rfl rfl ?_
                | refine W.pure rfl rfl rfl rfl ?_
                | refine W.cmpT rfl rfl rfl rfl (by simp only [cmpP]; first | done | omega) ?_
                | refine W.add64 rfl rfl rfl rfl (by omega) ?_
                | refine W.sub64 rfl rfl rfl rfl (by omega) ?_
                | refine W.ldaV rfl rfl rfl rfl rfl rfl ?_)
              | refine W.nil ?_
              | refine J.reg ?_
              | refine J.seq ?_
              | refine J.condT rfl ?_
              | refine J.block ?_
              | refine J.endBlk ?_
              | refine J.skip ?_
            exact J.again (i + 1) (by show i + 1 ≤ 9; omega) (by show 9 - (i + 1) < 9 - i; omega) ⟨rfl, rfl, rfl, rfl, rfl, rfl, by rw [es]; rfl, rfl, trivial⟩ (by exact List.perm_append_comm (l₁ := [_]))
      · obtain rfl : i = 9 := by omega
        have e9 : cntN (plL w L) x y 9 = nbr (plL w L) x y := cntN_9 _ _ _
        have hat := gat_is (bo := bo) (cap := cap) (T0 := T0) (fz := fz) hw hc (x := (x : Int)) (y := (y : Int))
        have hnx := RNext_is (v := plL w L x y) hb hl hcl
        have ef : nextB b l (plL w L x y) (cntN (plL w L) x y 9) = nextF b l w L (w * y + x) := by
          rw [e9]
          unfold nextF gen
          rw [at_mod hxl, at_div hxl]
        rw [ef] at hnx
        repeat' first
          | refine W.pure rfl rfl rfl rfl ?_
          | refine W.cmpF rfl rfl rfl rfl (by simp only [cmpN]; first | done | omega) ?_
          | refine W.nil ?_
          | refine J.reg ?_
          | refine J.seq ?_
          | refine J.condF rfl ?_
          | refine J.exit rfl ?_
        refine J.regD [g, bo] mixed (by kernel_rfl) ?_
        repeat' first
          | (show W _ _ _ _ _ (_ :: _) _ _ _; first
            | refine W.call1 hat rfl rfl rfl ?_
            | refine W.call0 hnx rfl rfl rfl ?_
            | refine W.pure rfl rfl rfl rfl ?_
            | refine W.fieldAddr0 rfl rfl rfl rfl rfl ?_
            | refine W.ld rfl rfl rfl rfl rfl ?_
            | refine W.lda rfl rfl rfl rfl rfl ?_)
        refine W.buildSlice rfl rfl rfl (fun b9 => ?_)
        skip
        refine W.append rfl rfl rfl rfl g rfl (by rfl) (by rfl) (by simp [Value.oneCell']) (by rfl) (by simp only [maxLen]; omega) (by omega) (fun a2 c2 g2 => ?_)
        rw [boolsV_succ]
        repeat' first
          | refine W.fieldAddr0 rfl rfl rfl rfl rfl ?_
        refine W.store1S rfl rfl rfl rfl (by kernel_rfl) rfl rfl rfl (by simp only [List.set_cons_succ, List.set_cons_zero]; rfl) ?_
        repeat' first
          | refine W.pure rfl rfl rfl rfl ?_
          | refine W.add64 rfl rfl rfl rfl (by omega) ?_
          | refine W.nil ?_
          | refine J.reg ?_
          | refine J.endBlk ?_
        exact J.againK (x + 1, g2, Value.slice a2 (w * y + x + 1) c2) [g2, b5, b4, b3, b2, bo] (by show x + 1 ≤ w; omega) (by show w - (x + 1) < w - x; omega) ⟨rfl, rfl, rfl, rfl, rfl, rfl, trivial⟩ rfl
    · obtain rfl : x = w := by omega
      repeat' first
        | (show W _ _ _ _ _ (_ :: _) _ _ _; first
          | refine W.pure rfl rfl rfl rfl ?_
          | refine W.ldV rfl rfl rfl rfl rfl rfl ?_
          | refine W.cmpF rfl rfl rfl rfl (by simp only [cmpN]; first | done | omega) ?_
          | refine W.fieldAddr0 rfl rfl rfl rfl rfl ?_
          | refine W.add64 rfl rfl rfl rfl (by omega) ?_)
        | refine W.nil ?_
        | refine J.reg ?_
        | refine J.seq ?_
        | refine J.condF rfl ?_
        | refine J.endBlk ?_
        | refine J.exit rfl ?_
      exact J.again (y + 1, g, v) (by show y + 1 ≤ x; omega) (by show x - (y + 1) < x - y; omega) ⟨rfl, rfl, rfl, rfl, rfl, trivial⟩ (by rw [show x * (y + 1) = x * y + x from Nat.mul_succ x y])
  · obtain rfl : y = w := by omega
    refine J.rowAt g rfl hww0 fun cap2 cur c1 c2 c3 c4 hv => ?_
    subst hv
    repeat' first
      | (show W _ _ _ _ _ (_ :: _) _ _ _; first
        | refine W.pure rfl rfl rfl rfl ?_
        | refine W.ldV rfl rfl rfl rfl rfl rfl ?_
        | refine W.cmpF rfl rfl rfl rfl (by simp only [cmpN]; first | done | omega) ?_
        | refine W.fieldAddr0 rfl rfl rfl rfl rfl ?_
        | refine W.ldaV rfl rfl rfl rfl rfl rfl ?_
        | refine W.storeA rfl rfl rfl rfl (by rfl) (by rfl) (by simp [Value.oneCell']) ?_)
      | refine W.nil ?_
      | refine J.reg ?_
      | refine J.seq ?_
      | refine J.condF rfl ?_
      | refine J.exit rfl ?_
    exact J.retR [g, bo] (resc1 rfl rfl rfl rfl) ⟨g, cap2, cur, ⟨rfl, fun i hi => by unfold nextG; exact boolsV_at _ c4 hi⟩, rfl⟩
end Go.Proofs.YtphnadpmpcifoaaDoor
/-
  The document's answer, package quiltref12: the middle, and what it goes on to.
-/
namespace Go.Proofs.YtphnadpmpcifoaaDoor
open Go.Sq Go.Qm
attribute [local irreducible] SW J plL nextF nextG nexts midF midL nextB cntN boolsV
set_option maxHeartbeats 8000000
set_option maxRecDepth 10000
/-- A list of cells in memory. -/
def CellsAt (c : Array Value) (L : List Bool) (m : Nat) : Prop := ∀ i, i < m → c.toList[0 + i * 1]? = some (.bool (L.getD i false))
theorem Mid_is {w q : Nat} {L : List Bool} {bo cap : Nat} {c : Array Value} {T0 : TypeId} {fz : Nat × Nat} (hq : w = 4 * q) (hq0 : 0 < q) (hw : w ≤ 64) (hc : CellsAt c L (w * w)) :
    CallR P 19 [.slice (some ⟨bo, 0, none⟩) (w * w) cap, int w] [(bo, pts bo (.cells c T0 fz))] fun v N => ∃ b2 cap2 c2, (v = .slice (some ⟨b2, 0, none⟩) (2 * q * (2 * q)) cap2 ∧ CellsAt c2 (midL w q L) (2 * q * (2 * q))) ∧ N = [(b2, pts b2 (.cells c2 4 (0, 0))), (bo, pts bo (.cells c T0 fz))] := by
  have hww : w * w ≤ 64 * 64 := Nat.mul_le_mul hw hw
  have hqq : 2 * q * (2 * q) ≤ 64 * 64 := Nat.mul_le_mul (by omega) (by omega)
  have hqq0 : 0 < 2 * q * (2 * q) := Nat.mul_pos (by omega) (by omega)
  have r1 : ((w : Nat) : Int) / 4 = ((q : Nat) : Int) := by omega
  have r2 : (3 * ((w : Nat) : Int)) / 4 = ((3 * q : Nat) : Int) := by omega
  refine callR_of Tryd.func19 rfl Tryd.ntmps19 rfl fun σ F => ?_
  repeat' first
    | refine W.quoE rfl rfl rfl rfl (by omega) (by omega) r1 (by omega) ?_
    | refine W.pure rfl rfl rfl rfl ?_
    | refine W.nil ?_
    | refine J.reg ?_
    | refine J.seq ?_
    | refine J.block ?_
  refine J.addNil (bo + 1) 4 1 ?_
  refine J.loopK (X := Nat × Nat × Value) (fun p => p.1 ≤ 2 * q) (fun p => 2 * q - p.1) (fun p => [(0, .slice (some ⟨bo, 0, none⟩) (w * w) cap), (1, int w), (5, p.2.2), (6, int (q + p.1 : Nat))])
    (fun p => [(p.2.1, rowP p.2.1 4 1 p.2.2 (2 * q * p.1) (boolsV (midF w q L) (2 * q * p.1))), (bo, pts bo (.cells c T0 fz))])
    (0, bo + 1, .slice none 0 0) [bo + 1, bo] (Nat.zero_le _) ⟨rfl, rfl, rfl, rfl, trivial⟩ (by simp only [Nat.mul_zero, boolsV]; rfl) ?_
  rintro ⟨y, g, v⟩ hy0
  have hy : y ≤ 2 * q := hy0
  clear hy0
  conv => arg 7; dsimp only
  conv => arg 8; dsimp only
  by_cases hyl : y < 2 * q
  · have hwy : 2 * q * y ≤ 2 * q * (2 * q) := Nat.mul_le_mul_left _ hy
    repeat' first
      | (show W _ _ _ _ _ (_ :: _) _ _ _; first
        | refine W.quoE rfl rfl rfl rfl (by omega) (by omega) r1 (by omega) ?_
        | refine W.quoE rfl rfl rfl rfl (by omega) (by omega) r2 (by omega) ?_
        | refine W.pure rfl rfl rfl rfl ?_
        | refine W.cmpT rfl rfl rfl rfl (by simp only [cmpP]; first | done | omega) ?_
        | refine W.mul64 rfl rfl rfl rfl (by omega) ?_)
      | refine W.nil ?_
      | refine J.reg ?_
      | refine J.seq ?_
      | refine J.condT rfl ?_
      | refine J.block ?_
      | refine J.skip ?_
    refine J.loopK (X := Nat × Nat × Value) (fun p => p.1 ≤ 2 * q) (fun p => 2 * q - p.1) (fun p => [(0, .slice (some ⟨bo, 0, none⟩) (w * w) cap), (1, int w), (5, p.2.2), (6, int (q + y : Nat)), (7, int (q + p.1 : Nat))])
      (fun p => [(p.2.1, rowP p.2.1 4 1 p.2.2 (2 * q * y + p.1) (boolsV (midF w q L) (2 * q * y + p.1))), (bo, pts bo (.cells c T0 fz))])
      (0, g, v) [g, bo] (Nat.zero_le _) ⟨rfl, rfl, rfl, rfl, rfl, trivial⟩ rfl ?_
    rintro ⟨x, g, v⟩ hx0
    have hx : x ≤ 2 * q := hx0
    clear hx0
    conv => arg 7; dsimp only
    conv => arg 8; dsimp only
    by_cases hxl : x < 2 * q
    · have hin := at_lt hxl hyl
      have hcl := hc (w * (q + y) + (q + x)) (at_lt (by omega) (by omega))
      have hm : w * (q + y) ≤ w * w := Nat.mul_le_mul_left _ (by omega)
      have hlt := at_lt (w := w) (x := q + x) (y := q + y) (by omega) (by omega)
      have ef : L.getD (w * (q + y) + (q + x)) false = midF w q L (2 * q * y + x) := by
        unfold midF
        rw [at_mod hxl, at_div hxl]
      rw [ef] at hcl
      have f5 : IntE .mul .i64 (w : Int) ((q + y : Nat) : Int) (int ((w * (q + y) : Nat) : Int)) := ⟨by simp only [intV]; rw [← Int.natCast_mul, wrap_i64 (by omega) (by omega)]⟩
      have f6 : IntE .add .i64 ((w * (q + y) : Nat) : Int) ((q + x : Nat) : Int) (int ((w * (q + y) + (q + x) : Nat) : Int)) := ⟨by simp only [intV]; rw [← Int.natCast_add, wrap_i64 (by omega) (by omega)]⟩
      have f7 : IntE .add .i64 ((q + x : Nat) : Int) 1 (int ((q + (x + 1) : Nat) : Int)) := ⟨by simp only [intV]; rw [wrap_i64 (by omega) (by omega)]; congr 2⟩
      repeat' first
        | (show W _ _ _ _ _ (_ :: _) _ _ _; first
          | refine W.quoE rfl rfl rfl rfl (by omega) (by omega) r2 (by omega) ?_
          | refine W.ldV rfl rfl rfl rfl rfl hcl ?_
          | refine W.pure rfl rfl rfl rfl ?_
          | refine W.binE rfl rfl rfl rfl (by assumption) ?_
          | refine W.cmpT rfl rfl rfl rfl (by simp only [cmpP]; first | done | omega) ?_
          | refine W.mul64 rfl rfl rfl rfl (by omega) ?_
          | refine W.indexAddrS rfl rfl rfl rfl (by omega) ?_)
        | refine W.nil ?_
        | refine J.reg ?_
        | refine J.seq ?_
        | refine J.condT rfl ?_
        | refine J.block ?_
        | refine J.skip ?_
      refine W.buildSlice rfl rfl rfl (fun b9 => ?_)
      skip
      refine W.append rfl rfl rfl rfl g rfl (by rfl) (by rfl) (by simp [Value.oneCell']) (by rfl) (by simp only [maxLen]; omega) (by omega) (fun a2 c2 g2 => ?_)
      rw [boolsV_succ]
      repeat' first
        | refine W.pure rfl rfl rfl rfl ?_
        | refine W.binE rfl rfl rfl rfl (by assumption) ?_
        | refine W.nil ?_
        | refine J.reg ?_
        | refine J.endBlk ?_
      exact J.againK (x + 1, g2, Value.slice a2 (2 * q * y + x + 1) c2) [g2, bo] (by show x + 1 ≤ 2 * q; omega) (by show 2 * q - (x + 1) < 2 * q - x; omega) ⟨rfl, rfl, rfl, rfl, rfl, trivial⟩ rfl
    · obtain rfl : x = 2 * q := by omega
      have f7 : IntE .add .i64 ((q + y : Nat) : Int) 1 (int ((q + (y + 1) : Nat) : Int)) := ⟨by simp only [intV]; rw [wrap_i64 (by omega) (by omega)]; congr 2⟩
      repeat' first
        | (show W _ _ _ _ _ (_ :: _) _ _ _; first
          | refine W.quoE rfl rfl rfl rfl (by omega) (by omega) r2 (by omega) ?_
          | refine W.pure rfl rfl rfl rfl ?_
          | refine W.binE rfl rfl rfl rfl (by assumption) ?_
          | refine W.cmpF rfl rfl rfl rfl (by simp only [cmpN]; first | done | omega) ?_
          | refine W.mul64 rfl rfl rfl rfl (by omega) ?_)
        | refine W.nil ?_
        | refine J.reg ?_
        | refine J.seq ?_
        | refine J.condF rfl ?_
        | refine J.endBlk ?_
        | refine J.exit rfl ?_
      exact J.againK (y + 1, g, v) [g, bo] (by show y + 1 ≤ 2 * q; omega) (by show 2 * q - (y + 1) < 2 * q - y; omega) ⟨rfl, rfl, rfl, rfl, trivial⟩ (by rw [show 2 * q * (y + 1) = 2 * q * y + 2 * q from Nat.mul_succ _ y])
  · obtain rfl : y = 2 * q := by omega
    refine J.rowAt g rfl hqq0 fun cap2 cur c1 c2 c3 c4 hv => ?_
    subst hv
    repeat' first
      | (show W _ _ _ _ _ (_ :: _) _ _ _; first
        | refine W.quoE rfl rfl rfl rfl (by omega) (by omega) r2 (by omega) ?_
        | refine W.pure rfl rfl rfl rfl ?_
        | refine W.cmpF rfl rfl rfl rfl (by simp only [cmpN]; first | done | omega) ?_
        | refine W.mul64 rfl rfl rfl rfl (by omega) ?_)
      | refine W.nil ?_
      | refine J.reg ?_
      | refine J.seq ?_
      | refine J.condF rfl ?_
      | refine J.exit rfl ?_
    exact J.retR [g, bo] (res1 rfl rfl) ⟨g, cap2, cur, ⟨rfl, fun i hi => by unfold midL; exact boolsV_at _ c4 hi⟩, rfl⟩
end Go.Proofs.YtphnadpmpcifoaaDoor
/-
  Bools that are compared.
-/
namespace Go.Sq
variable {P : Program} {ops : Array Oper} {n : Nat} {bars : Nat → Bool} {K : EnvF → List Ent → List Ent → Prop} {l : List (Nat × Oper)} {E : Env} {St V : List Ent} {i : Nat} {d : Tmp} {ty : TypeId} {pos : String} {aft : Array Edge} {g : Option (Nat × Bool)}
theorem W.neB {T U : TypeId} {x y : Operand} {p q : Bool} (hw : wants ops ⟨some d, .binOp .neq T x y U, ty, pos, aft, g⟩ E.get = some true) (hf : fits n ⟨some d, .binOp .neq T x y U, ty, pos, aft, g⟩ = true) (hx : evO E x = some (.bool p)) (hy : evO E y = some (.bool q)) [hu : Und P T .bool]
    (h : W P ops n bars K l ((d, .bool (!(p == q))) :: E) St V) : W P ops n bars K ((i, ⟨some d, .binOp .neq T x y U, ty, pos, aft, g⟩) :: l) E St V :=
  W.quiet hw hf (k2 hx hy rfl) rfl (fun w => by
    have hg : (eqGuard .neq T x y (.bool p) (.bool q)).run P w = .ok () w := by simp [eqGuard]
    have hb := run_neq_bool (P := P) w T p q hu.out
    simp only [execOp, evO_evf hx, evO_evf hy, Sem.run_bind, hg, Result.andThen_ok, hb, Sem.run_pure]) h
theorem W.eqB {T U : TypeId} {x y : Operand} {p q : Bool} (hw : wants ops ⟨some d, .binOp .eql T x y U, ty, pos, aft, g⟩ E.get = some true) (hf : fits n ⟨some d, .binOp .eql T x y U, ty, pos, aft, g⟩ = true) (hx : evO E x = some (.bool p)) (hy : evO E y = some (.bool q)) [hu : Und P T .bool]
    (h : W P ops n bars K l ((d, .bool (p == q)) :: E) St V) : W P ops n bars K ((i, ⟨some d, .binOp .eql T x y U, ty, pos, aft, g⟩) :: l) E St V :=
  W.quiet hw hf (k2 hx hy rfl) rfl (fun w => by
    have hg : (eqGuard .eql T x y (.bool p) (.bool q)).run P w = .ok () w := by simp [eqGuard]
    have hb := run_eql_bool (P := P) w T p q hu.out
    simp only [execOp, evO_evf hx, evO_evf hy, Sem.run_bind, hg, Result.andThen_ok, hb, Sem.run_pure]) h
/-! ### what a call leaves -/
theorem W.n1 {A : Ent} {M : List Ent} (h : W P ops n bars K l E St (A :: M)) : W P ops n bars K l E St ([A] ++ M) := h
theorem W.n2 {A B : Ent} {M : List Ent} (h : W P ops n bars K l E St (A :: B :: M)) : W P ops n bars K l E St ([A, B] ++ M) := h
theorem W.n3 {A B C : Ent} {M : List Ent} (h : W P ops n bars K l E St (A :: B :: C :: M)) : W P ops n bars K l E St ([A, B, C] ++ M) := h
theorem W.n4 {A B C D : Ent} {M : List Ent} (h : W P ops n bars K l E St (A :: B :: C :: D :: M)) : W P ops n bars K l E St ([A, B, C, D] ++ M) := h
end Go.Sq
/-
  Package grow: how many answers are known.
-/
namespace Go.Proofs.YtphnadpmpcifoaaDoor
open Go.Sq Go.Qm
attribute [local irreducible] SW J
set_option maxHeartbeats 4000000
set_option maxRecDepth 10000
theorem Known_is {g s b l m : Nat} {ok : Int → Int → Int → Prop} : CallF P 11 [ptr g] [(g, growP g s b l m ok)] (int m) [(g, growP g s b l m ok)] := by
  refine callR_of Tryd.func11 rfl Tryd.ntmps11 rfl fun σ F => ?_
  refine J.openG g fun bk es clk h1 h2 => ?_
  repeat' first
    | (show W _ _ _ _ _ (_ :: _) _ _ _; first
      | refine W.pure rfl rfl rfl rfl ?_
      | refine W.ldV rfl rfl rfl rfl rfl rfl ?_
      | refine W.fieldAddr0 rfl rfl rfl rfl rfl ?_
      | refine W.eqPtNil rfl rfl rfl ?_)
    | refine W.nil ?_
    | refine J.reg ?_
    | refine J.seq ?_
    | refine J.condF rfl ?_
    | refine J.skip ?_
  refine W.lenMapV rfl rfl rfl rfl ?_
  repeat' first
    | refine W.pure rfl rfl rfl rfl ?_
    | refine W.nil ?_
  refine J.shutG g bk h1 h2 ?_
  exact J.retF [g] (res1 rfl rfl) (by rw [h2])
theorem Known_nil : CallF P 11 [.pointer none] [] (int 0) [] := by
  refine callR_of Tryd.func11 rfl Tryd.ntmps11 rfl fun σ F => ?_
  repeat' first
    | refine W.pure rfl rfl rfl rfl ?_
    | refine W.eqPtNil rfl rfl rfl ?_
    | refine W.nil ?_
    | refine J.reg ?_
    | refine J.seq ?_
    | refine J.condT rfl ?_
  exact J.retF [] (res1 rfl rfl) rfl
end Go.Proofs.YtphnadpmpcifoaaDoor
/-
  What 'sure' runs: a block: plain.
-/
namespace Go.Qm
def sureZ (i : Nat) : Nat := [455, 456, 519, 520].getD i 0
def sureF : List Bool := fieldN sureZ 32 4
def sureB : T := .node (.node (.leaf 9223372036854775808) (.leaf 72057594037927936) (.leaf 128) (.leaf 1)) (T.empty 1) (T.empty 1) (T.empty 1)
theorem sureB_eq : laidT 5 32 (fun i => sureF.getD i false) 1024 = sureB := by decide +kernel
theorem sureB_ok : sureB.ok := by
  refine ⟨⟨?_, ?_, ?_, ?_, rfl, rfl, rfl⟩, T.empty_ok 1, T.empty_ok 1, T.empty_ok 1, rfl, rfl, rfl⟩ <;> show (_ : Nat) < 18446744073709551616 <;> decide
theorem sureB_lev : sureB.lev = 5 := rfl
theorem sureB_many : sureB.many = 4 := by decide +kernel
theorem sureW_get : ∀ x, x < 64 → ∀ y, y < 64 → sureB.wide.get x y = blk 23 23 x y := by decide +kernel
theorem sureW : Shows sureB.wide (blk 23 23) 0 0 := by
  intro x y hx hy
  have e : sureB.wide.lev = 6 := (T.wide_ok sureB_ok).2
  rw [e] at hx hy
  rw [Int.zero_add, Int.zero_add]
  exact sureW_get x hx y hy
theorem sure_grow : T.grow 8 12 2 sureB.wide 4 = sureB := by
  have w := T.wide_ok sureB_ok
  have hl : sureB.wide.lev = 2 + 4 := w.2
  have g := T.grow_ok 8 12 2 _ 4 w.1 hl
  have s1 := grow_shows 8 12 2 _ 4 _ _ _ w.1 hl (by omega) sureW
  rw [blk_stays] at s1
  have k := T.kid_ok w.1 (by omega)
  have v := T.kid_lev w.1 (by omega)
  obtain ⟨a0, a1, a2, a3⟩ := shows_kids w.1 (by omega) sureW (w := 32) (by rw [hl])
  have v0 : sureB.wide.k0.lev = 5 := by have := v.1; omega
  have v1 : sureB.wide.k1.lev = 5 := by have := v.2.1; omega
  have v2 : sureB.wide.k2.lev = 5 := by have := v.2.2.1; omega
  have v3 : sureB.wide.k3.lev = 5 := by have := v.2.2.2; omega
  have s2 := ctr_shows (w := 32) (h := 16) k.1 k.2.1 k.2.2.1 k.2.2.2 (v1.trans v0.symm) (v2.trans v0.symm) (v3.trans v0.symm) (by rw [v0]) rfl a0 a1 a2 a3
  rw [ctr_wide sureB_ok] at s2
  exact shows_ext g.1 sureB_ok g.2 s1 s2
/-- All that sure makes. -/
def sureU : List T := laidNew 5 32 (fun i => sureF.getD i false) 1024 ++ T.wideNew sureB ++ [sureB] ++ T.growNew 8 12 2 sureB.wide 4
theorem sureU_len : sureU.length ≤ 500 := by
  have h1 := laidNew_len (m := 5) (w := 32) sureF (by omega) rfl (fieldN_len _ _ _) 1024 (Nat.le_refl _)
  have h2 : (sureF.take 1024).count true ≤ 4 := Nat.le_trans (List.Sublist.count_le _ (List.take_sublist _ _)) (fieldN_count sureZ 32 4)
  have h3 := growNew_len 8 12 2 sureB.wide 4
  have h4 : (T.wideNew sureB).length = 7 := rfl
  have h5 : most13 2 = 365 := rfl
  unfold sureU
  simp only [List.length_append, List.length_singleton]
  omega
end Go.Qm
/-
  The laws' own: sure.
-/
namespace Go.Qm
theorem inv_nil {room : Nat} {U : List T} (h : U.length ≤ room) (hr : room ≤ 65536) : Inv room U [] := ⟨⟨List.nodup_nil, by simp, by simp, by simp⟩, by simp, h, hr⟩
end Go.Qm
namespace Go.Proofs.YtphnadpmpcifoaaDoor
open Go.Sq Go.Qm
instance (a0 a1 a2 a3 : Int) : BldS Tryd.prog 45 4 [(0, .int .u64 a0), (1, .int .u64 a1), (2, .int .u64 a2), (3, .int .u64 a3)] 42 [.int .u64 a0, .int .u64 a1, .int .u64 a2, .int .u64 a3] := ⟨fun w => by kernel_rfl⟩
attribute [local irreducible] SW J T.lev T.ok T.k0 T.k1 T.k2 T.k3 T.cells num T.ctr T.grow T.growNew T.wide T.wideNew fieldN laidT laidNew T.empty T.emptyNew T.set T.setNew sureB sureF T.many
set_option maxHeartbeats 8000000
set_option maxRecDepth 10000
theorem sure_is : CallF P 13 [] [] (.bool true) [] := by
  have hr : RuleOk 8 12 := ⟨by omega, by omega, by omega⟩
  have i0 : Inv 500 sureU [] := inv_nil sureU_len (by omega)
  have hL : sureF.length = 32 * 32 := by unfold sureF; exact fieldN_len _ _ _
  have u1 : ∀ t ∈ laidNew 5 32 (fun i => sureF.getD i false) (32 * 32), t ∈ sureU := fun t ht => by
    unfold sureU; exact List.mem_append_left _ (List.mem_append_left _ (List.mem_append_left _ ht))
  have u2 : ∀ t ∈ T.wideNew sureB, t ∈ sureU := fun t ht => by
    unfold sureU; exact List.mem_append_left _ (List.mem_append_left _ (List.mem_append_right _ ht))
  have u3 : sureB ∈ sureU := by
    unfold sureU; exact List.mem_append_left _ (List.mem_append_right _ (List.mem_singleton.2 rfl))
  have u4 : ∀ t ∈ T.growNew 8 12 2 sureB.wide 4, t ∈ sureU := fun t ht => by
    unfold sureU; exact List.mem_append_right _ ht
  obtain ⟨i1, m1⟩ := laid_goods (fun i => sureF.getD i false) i0 (m := 5) (w := 32) (by omega) (by omega) rfl (32 * 32) (Nat.le_refl _) u1
  have hlaid := fun s bo => laid_is (s := s) (bo := bo) i0 (m := 5) (w := 32) (by omega) (by omega) rfl hL u1
  have eB : laidT 5 32 (fun i => sureF.getD i false) (32 * 32) = sureB := sureB_eq
  rw [eB] at m1 hlaid
  have S1 : Step 500 sureU [] (puts [] (laidNew 5 32 (fun i => sureF.getD i false) (32 * 32))) := ⟨puts_pre _ _, i1⟩
  generalize puts [] (laidNew 5 32 (fun i => sureF.getD i false) (32 * 32)) = ts1 at *
  have j1 := is_num m1
  generalize num ts1 sureB = id at *
  have wl := (T.wide_ok sureB_ok).2
  have bl := sureB_lev
  have cw := ctr_wide sureB_ok
  have sg := sure_grow
  have bm := sureB_many
  refine callR_of Tryd.func13 rfl Tryd.ntmps13 rfl fun σ F => ?_
  repeat' first
    | refine W.pure rfl rfl rfl rfl ?_
    | refine W.nil ?_
    | refine J.reg ?_
    | refine J.seq ?_
  refine W.call (QNew_is (room := 500) (by omega) (by omega)) (ks := []) rfl rfl rfl rfl fun v N hh => ?_
  obtain ⟨s, rfl, rfl⟩ := hh
  repeat' first
    | refine W.pure rfl rfl rfl rfl ?_
    | refine W.build rfl rfl rfl ?_
    | refine W.nil ?_
    | refine J.reg ?_
    | refine J.seq ?_
  refine W.call (GNew_is (s := s) hr (okG 8 12 [])) (ks := []) rfl rfl rfl rfl fun v N hh => ?_
  obtain ⟨g, rfl, rfl⟩ := hh
  have hnil : ∀ A : List Ent, A ++ [] = A := fun A => List.append_nil A
  simp only [List.cons_append, List.nil_append]
  repeat' first
    | (show W _ _ _ _ _ (_ :: _) _ _ _; first
      | refine W.buildSlice rfl rfl rfl (fun bs => ?_)
      | refine W.pure rfl rfl rfl rfl ?_
      | refine W.neIfNilT rfl rfl rfl ?_
      | refine W.eqPtNil rfl rfl rfl ?_)
    | refine W.nil ?_
    | refine J.reg ?_
    | refine J.seq ?_
    | refine J.condF rfl ?_
    | refine J.skip ?_
  have hf := field_is (av := some ⟨bs, 0, none⟩) (len := 4) (cap := 4) (bl := bs) (off := 0) (w := 32) (c := #[.int .u64 455, .int .u64 456, .int .u64 519, .int .u64 520]) (T0 := 42) (fz := (0, 0)) (z := sureZ) (fun _ => rfl) (by omega)
    (fun i hi => by
      have : i = 0 ∨ i = 1 ∨ i = 2 ∨ i = 3 := by omega
      rcases this with rfl | rfl | rfl | rfl <;> exact ⟨rfl, by decide⟩) (by omega) (by omega)
  rw [sliP_pos (by omega), show min 4 60 = 4 from rfl, show fieldN sureZ 32 4 = sureF from by unfold sureF; rfl] at hf
  refine W.call hf (ks := [bs]) rfl rfl rfl rfl fun v N hh => ?_
  obtain ⟨bo, rfl, rfl⟩ := hh
  simp only [List.cons_append, List.nil_append]
  repeat' first
    | refine W.call2 (hlaid s bo) rfl rfl rfl ?_
    | refine W.pure rfl rfl rfl rfl ?_
    | refine W.nil ?_
  refine J.weakG (g := g) S1.pre ?_
  repeat' first
    | refine W.wk (Wide_is i1 j1 (by rw [bl]; omega) u2) rfl rfl rfl (fun ts2 a S2 j2 => ?_)
    | refine W.pure rfl rfl rfl rfl ?_
    | refine W.nil ?_
    | refine J.reg ?_
    | refine J.seq ?_
  have hc := Center_is (g := g) (s := s) (b := 8) (l := 12) (n := 0) S2.inv j2 (by rw [wl, bl]; omega) (by rw [cw]; exact u3)
  rw [cw] at hc
  repeat' first
    | refine W.wk hc rfl rfl rfl (fun ts3 c S3 j3 => ?_)
    | refine W.pure rfl rfl rfl rfl ?_
    | refine W.nil ?_
    | refine J.reg ?_
    | refine J.seq ?_
  have hid : c = id := j3.inj S3.inv.reg.nodup ((j1.mono S2.pre).mono S3.pre)
  subst hid
  have hg := Grow_is (g := g) (s := s) (n := 0) (Ji := 4) (j := 4) (k := 2) hr S3.inv (j2.mono S3.pre) (by rw [wl, bl]) rfl (by omega) u4
  rw [sg] at hg
  repeat' first
    | refine W.gk hg rfl rfl rfl (fun ts4 o n4 S4 j4 z4 => ?_)
    | refine W.pure rfl rfl rfl rfl ?_
    | refine W.nil ?_
    | refine J.reg ?_
    | refine J.seq ?_
  have hn := Count_T (s := s) S4.inv j4
  rw [bm] at hn
  repeat' first
    | (show W _ _ _ _ _ (_ :: _) _ _ _; first
      | refine W.call1 hn rfl rfl rfl ?_
      | refine W.call1 Known_is rfl rfl rfl ?_
      | refine W.pure rfl rfl rfl rfl ?_
      | refine W.cmpT rfl rfl rfl rfl (by simp only [cmpP]; first | done | omega) ?_
      | refine W.eqIfNilT rfl rfl rfl ?_)
    | refine W.nil ?_
    | refine J.reg ?_
    | refine J.seq ?_
  exact J.retF [] (res1 rfl rfl) rfl
end Go.Proofs.YtphnadpmpcifoaaDoor
/-
  Package grow: the errors.
-/
namespace Go.Proofs.YtphnadpmpcifoaaDoor
open Go.Sq Go.Qm
attribute [local irreducible] SW J T.lev T.ok T.k0 T.k1 T.k2 T.k3 T.cells num T.ctr T.grow T.growNew T.wide T.wideNew T.empty T.emptyNew T.many
set_option maxHeartbeats 8000000
set_option maxRecDepth 10000
section
variable {s room g b l n : Nat} {U ts : List T}
theorem Center_nil {id : Int} : CallF P 5 [.pointer none, int id] [] (.tuple #[int 0, err 1]) [] := by
  refine callR_of Tryd.func5 rfl Tryd.ntmps5 rfl fun σ F => ?_
  repeat' first
    | (show W _ _ _ _ _ (_ :: _) _ _ _; first
      | refine W.pure rfl rfl rfl rfl ?_
      | refine W.eqPtNil rfl rfl rfl ?_
      | refine W.makeInterface rfl rfl rfl rfl ?_)
    | refine W.nil ?_
    | refine J.reg ?_
    | refine J.seq ?_
    | refine J.condT rfl ?_
  exact J.retF [] (res2 rfl rfl rfl) rfl
theorem Wide_nil {id : Int} : CallF P 7 [.pointer none, int id] [] (.tuple #[int 0, err 1]) [] := by
  refine callR_of Tryd.func7 rfl Tryd.ntmps7 rfl fun σ F => ?_
  repeat' first
    | (show W _ _ _ _ _ (_ :: _) _ _ _; first
      | refine W.pure rfl rfl rfl rfl ?_
      | refine W.eqPtNil rfl rfl rfl ?_
      | refine W.makeInterface rfl rfl rfl rfl ?_)
    | refine W.nil ?_
    | refine J.reg ?_
    | refine J.seq ?_
    | refine J.condT rfl ?_
  exact J.retF [] (res2 rfl rfl rfl) rfl
theorem Grow_nil {id j : Int} : CallF P 6 [.pointer none, int id, int j] [] (.tuple #[int 0, err 1]) [] := by
  refine callR_of Tryd.func6 rfl Tryd.ntmps6 rfl fun σ F => ?_
  repeat' first
    | (show W _ _ _ _ _ (_ :: _) _ _ _; first
      | refine W.pure rfl rfl rfl rfl ?_
      | refine W.eqPtNil rfl rfl rfl ?_
      | refine W.makeInterface rfl rfl rfl rfl ?_)
    | refine W.nil ?_
    | refine J.reg ?_
    | refine J.seq ?_
    | refine J.condT rfl ?_
  exact J.retF [] (res2 rfl rfl rfl) rfl
theorem Center_leaf {id : Int} {t : T} (hi : Is ts id t) (hl : t.lev = 3) : CallF P 5 [ptr g, int id] [(g, gwP g s b l n ts), (s, treeP s room ts)] (.tuple #[int 0, err 1]) [(g, gwP g s b l n ts), (s, treeP s room ts)] := by
  refine callR_of Tryd.func5 rfl Tryd.ntmps5 rfl fun σ F => ?_
  refine J.openG g fun bk es clk h1 h2 => ?_
  repeat' first
    | (show W _ _ _ _ _ (_ :: _) _ _ _; first
      | refine W.call1 (Level_is hi) rfl rfl rfl ?_
      | refine W.pure rfl rfl rfl rfl ?_
      | refine W.ldV rfl rfl rfl rfl rfl rfl ?_
      | refine W.cmpT rfl rfl rfl rfl (by simp only [cmpP]; first | done | omega) ?_
      | refine W.fieldAddr0 rfl rfl rfl rfl rfl ?_
      | refine W.neIfNilT rfl rfl rfl ?_
      | refine W.eqPtNil rfl rfl rfl ?_
      | refine W.makeInterface rfl rfl rfl rfl ?_)
    | refine W.nil ?_
    | refine J.reg ?_
    | refine J.seq ?_
    | refine J.condT rfl ?_
    | refine J.condF rfl ?_
    | refine J.block ?_
    | refine J.skip ?_
  refine J.shutG g bk h1 h2 ?_
  exact J.retF [g, s] (res2 rfl rfl rfl) rfl
theorem Grow_leaf {id j : Int} {t : T} (hi : Is ts id t) (hl : t.lev = 3) : CallF P 6 [ptr g, int id, int j] [(g, gwP g s b l n ts), (s, treeP s room ts)] (.tuple #[int 0, err 1]) [(g, gwP g s b l n ts), (s, treeP s room ts)] := by
  refine callR_of Tryd.func6 rfl Tryd.ntmps6 rfl fun σ F => ?_
  refine J.openG g fun bk es clk h1 h2 => ?_
  repeat' first
    | (show W _ _ _ _ _ (_ :: _) _ _ _; first
      | refine W.call1 (Level_is hi) rfl rfl rfl ?_
      | refine W.pure rfl rfl rfl rfl ?_
      | refine W.ldV rfl rfl rfl rfl rfl rfl ?_
      | refine W.cmpT rfl rfl rfl rfl (by simp only [cmpP]; first | done | omega) ?_
      | refine W.fieldAddr0 rfl rfl rfl rfl rfl ?_
      | refine W.skip rfl rfl ?_
      | refine W.neIfNilT rfl rfl rfl ?_
      | refine W.eqPtNil rfl rfl rfl ?_
      | refine W.makeInterface rfl rfl rfl rfl ?_)
    | refine W.nil ?_
    | refine J.reg ?_
    | refine J.seq ?_
    | refine J.condT rfl ?_
    | refine J.condF rfl ?_
    | refine J.block ?_
    | refine J.skip ?_
  refine J.shutG g bk h1 h2 ?_
  exact J.retF [g, s] (res2 rfl rfl rfl) rfl
theorem Center_isnt {id : Int} (hi : id < 1 ∨ (ts.length : Int) < id) : CallF P 5 [ptr g, int id] [(g, gwP g s b l n ts), (s, treeP s room ts)] (.tuple #[int 0, err 8]) [(g, gwP g s b l n ts), (s, treeP s room ts)] := by
  refine callR_of Tryd.func5 rfl Tryd.ntmps5 rfl fun σ F => ?_
  refine J.openG g fun bk es clk h1 h2 => ?_
  repeat' first
    | (show W _ _ _ _ _ (_ :: _) _ _ _; first
      | refine W.call1 (Level_isnt hi) rfl rfl rfl ?_
      | refine W.pure rfl rfl rfl rfl ?_
      | refine W.ldV rfl rfl rfl rfl rfl rfl ?_
      | refine W.fieldAddr0 rfl rfl rfl rfl rfl ?_
      | refine W.neIfNilF rfl rfl rfl ?_
      | refine W.eqPtNil rfl rfl rfl ?_)
    | refine W.nil ?_
    | refine J.reg ?_
    | refine J.seq ?_
    | refine J.condT rfl ?_
    | refine J.condF rfl ?_
    | refine J.block ?_
    | refine J.skip ?_
  refine J.shutG g bk h1 h2 ?_
  exact J.retF [g, s] (res2 rfl rfl rfl) rfl
theorem Wide_isnt {id : Int} (hi : id < 1 ∨ (ts.length : Int) < id) : CallF P 7 [ptr g, int id] [(g, gwP g s b l n ts), (s, treeP s room ts)] (.tuple #[int 0, err 8]) [(g, gwP g s b l n ts), (s, treeP s room ts)] := by
  refine callR_of Tryd.func7 rfl Tryd.ntmps7 rfl fun σ F => ?_
  refine J.openG g fun bk es clk h1 h2 => ?_
  repeat' first
    | (show W _ _ _ _ _ (_ :: _) _ _ _; first
      | refine W.call1 (Level_isnt hi) rfl rfl rfl ?_
      | refine W.pure rfl rfl rfl rfl ?_
      | refine W.ldV rfl rfl rfl rfl rfl rfl ?_
      | refine W.fieldAddr0 rfl rfl rfl rfl rfl ?_
      | refine W.neIfNilF rfl rfl rfl ?_
      | refine W.eqPtNil rfl rfl rfl ?_)
    | refine W.nil ?_
    | refine J.reg ?_
    | refine J.seq ?_
    | refine J.condT rfl ?_
    | refine J.condF rfl ?_
    | refine J.block ?_
    | refine J.skip ?_
  refine J.shutG g bk h1 h2 ?_
  exact J.retF [g, s] (res2 rfl rfl rfl) rfl
theorem Grow_isnt {id j : Int} (hi : id < 1 ∨ (ts.length : Int) < id) : CallF P 6 [ptr g, int id, int j] [(g, gwP g s b l n ts), (s, treeP s room ts)] (.tuple #[int 0, err 8]) [(g, gwP g s b l n ts), (s, treeP s room ts)] := by
  refine callR_of Tryd.func6 rfl Tryd.ntmps6 rfl fun σ F => ?_
  refine J.openG g fun bk es clk h1 h2 => ?_
  repeat' first
    | (show W _ _ _ _ _ (_ :: _) _ _ _; first
      | refine W.call1 (Level_isnt hi) rfl rfl rfl ?_
      | refine W.pure rfl rfl rfl rfl ?_
      | refine W.ldV rfl rfl rfl rfl rfl rfl ?_
      | refine W.fieldAddr0 rfl rfl rfl rfl rfl ?_
      | refine W.neIfNilF rfl rfl rfl ?_
      | refine W.eqPtNil rfl rfl rfl ?_)
    | refine W.nil ?_
    | refine J.reg ?_
    | refine J.seq ?_
    | refine J.condT rfl ?_
    | refine J.condF rfl ?_
    | refine J.block ?_
    | refine J.skip ?_
  refine J.shutG g bk h1 h2 ?_
  exact J.retF [g, s] (res2 rfl rfl rfl) rfl
end
end Go.Proofs.YtphnadpmpcifoaaDoor
/-
  The document's answer, package quiltref12: what a square goes on to; the law's own: has.
-/
namespace Go.Proofs.YtphnadpmpcifoaaDoor
open Go.Sq Go.Qm
attribute [local irreducible] SW J plL nextF nextG nexts midF midL nextB cntN boolsV T.get T.lev T.many T.ok
set_option maxHeartbeats 8000000
set_option maxRecDepth 10000
def rgOk (b l w N : Nat) (L : List Bool) (p : Nat × Option (Nat × Nat × Array Value)) : Prop := p.1 ≤ N ∧ match p.2 with | none => p.1 = 0 | some (_, _, c2) => 0 < p.1 ∧ CellsAt c2 (nexts b l w L p.1) (w * w)
def rgA (b l w b4 b13 bo cap : Nat) (c : Array Value) (T0 : TypeId) (fz : Nat × Nat) (p : Nat × Option (Nat × Nat × Array Value)) : List Ent := match p.2 with
  | none => [(b13, pts b13 (.cells #[int w, .slice (some ⟨bo, 0, none⟩) (w * w) cap] 85 (0, 0))), (b4, pts b4 (.cells #[.int .u16 b, .int .u16 l] 24 (0, 0))), (bo, pts bo (.cells c T0 fz))]
  | some (b2, cap2, c2) => [(b2, pts b2 (.cells c2 4 (0, 0))), (b13, pts b13 (.cells #[int w, .slice (some ⟨b2, 0, none⟩) (w * w) cap2] 85 (0, 0))), (b4, pts b4 (.cells #[.int .u16 b, .int .u16 l] 24 (0, 0))), (bo, pts bo (.cells c T0 fz))]
theorem RGrow_is {b l k j w q : Nat} {L : List Bool} {bo cap : Nat} {c : Array Value} {T0 : TypeId} {fz : Nat × Nat} (hb : b < 65536) (hl : l < 65536) (hk : k ≤ 6) (hw : w = 2 ^ k) (hj : j ≤ 4) (hq : w = 4 * q) (hq0 : 0 < q) (hc : CellsAt c L (w * w)) :
    CallR P 18 [ruleV b l, .slice (some ⟨bo, 0, none⟩) (w * w) cap, int k, int j] [(bo, pts bo (.cells c T0 fz))] fun v N => ∃ b2 cap2 c2, (v = .slice (some ⟨b2, 0, none⟩) (2 * q * (2 * q)) cap2 ∧ CellsAt c2 (midL w q (nexts b l w L (2 ^ j))) (2 * q * (2 * q))) ∧ N = [(b2, pts b2 (.cells c2 4 (0, 0))), (bo, pts bo (.cells c T0 fz))] := by
  have w64 : w ≤ 64 := by rw [hw]; exact Nat.pow_le_pow_right (n := 2) (by omega) hk
  have j16 : 2 ^ j ≤ 16 := Nat.pow_le_pow_right (n := 2) (by omega) hj
  have j0 : 0 < 2 ^ j := Nat.pow_pos (by omega)
  have hww : w * w ≤ 64 * 64 := Nat.mul_le_mul w64 w64
  have pk : ∀ i, i ≤ k → 2 ^ i ≤ w := fun i hi => by rw [hw]; exact Nat.pow_le_pow_right (by omega) hi
  have pj : ∀ i, i ≤ j → 2 ^ i ≤ 2 ^ j := fun i hi => Nat.pow_le_pow_right (by omega) hi
  have pw : ∀ i, 2 * 2 ^ i = 2 ^ (i + 1) := fun i => by rw [Nat.pow_succ]; omega
  refine callR_of Tryd.func18 rfl Tryd.ntmps18 rfl fun σ F => ?_
  repeat' first
    | refine W.pure rfl rfl rfl rfl ?_
    | refine W.boxA rfl rfl rfl (fun bq => ?_)
    | refine W.nil ?_
    | refine J.reg ?_
    | refine J.seq ?_
    | refine J.block ?_
  revert bq
  intro b4
  refine J.loopK (X := Nat) (fun i => i ≤ k) (fun i => k - i) (fun i => [(1, .slice (some ⟨bo, 0, none⟩) (w * w) cap), (2, int k), (3, int j), (4, ptr b4), (9, int (2 ^ i : Nat)), (10, int 1), (11, int i)])
    (fun _ => [(b4, pts b4 (.cells #[.int .u16 b, .int .u16 l] 24 (0, 0))), (bo, pts bo (.cells c T0 fz))]) 0 [b4, bo] (Nat.zero_le _) ⟨rfl, rfl, rfl, rfl, rfl, rfl, rfl, trivial⟩ rfl fun i hi => ?_
  have hi : i ≤ k := hi
  by_cases hlt : i < k
  · have h1 := pk (i + 1) hlt
    have h2 := pk i hi
    have f1 : IntE .mul .i64 2 ((2 ^ i : Nat) : Int) (int ((2 ^ (i + 1) : Nat) : Int)) := ⟨by
      have e : (2 : Int) * ((2 ^ i : Nat) : Int) = ((2 ^ (i + 1) : Nat) : Int) := by rw [← pw]; omega
      simp only [intV]; rw [e, wrap_i64n (by omega)]⟩
    repeat' first
      | (show W _ _ _ _ _ (_ :: _) _ _ _; first
        | refine W.pure rfl rfl rfl rfl ?_
        | refine W.binE rfl rfl rfl rfl (by assumption) ?_
        | refine W.cmpT rfl rfl rfl rfl (by simp only [cmpP]; first | done | omega) ?_
        | refine W.add64 rfl rfl rfl rfl (by omega) ?_)
      | refine W.nil ?_
      | refine J.reg ?_
      | refine J.seq ?_
      | refine J.condT rfl ?_
      | refine J.block ?_
      | refine J.endBlk ?_
      | refine J.skip ?_
    exact J.againK (i + 1) [b4, bo] (by show i + 1 ≤ k; omega) (by show k - (i + 1) < k - i; omega) ⟨rfl, rfl, rfl, rfl, rfl, rfl, rfl, trivial⟩ rfl
  obtain rfl : i = k := by omega
  clear hlt hi
  repeat' first
    | refine W.pure rfl rfl rfl rfl ?_
    | refine W.cmpF rfl rfl rfl rfl (by simp only [cmpN]; first | done | omega) ?_
    | refine W.nil ?_
    | refine J.reg ?_
    | refine J.seq ?_
    | refine J.condF rfl ?_
    | refine J.block ?_
    | refine J.exit rfl ?_
  refine J.loopK (X := Nat) (fun i => i ≤ j) (fun i => j - i) (fun i => [(1, .slice (some ⟨bo, 0, none⟩) (w * w) cap), (4, ptr b4), (3, int j), (9, int w), (10, int (2 ^ i : Nat)), (12, int i)])
    (fun _ => [(b4, pts b4 (.cells #[.int .u16 b, .int .u16 l] 24 (0, 0))), (bo, pts bo (.cells c T0 fz))]) 0 [b4, bo] (Nat.zero_le _) ⟨rfl, rfl, rfl, by rw [hw]; rfl, rfl, rfl, trivial⟩ rfl fun i hi => ?_
  have hi : i ≤ j := hi
  by_cases hlt : i < j
  · have h1 := pj (i + 1) hlt
    have h2 := pj i hi
    have f1 : IntE .mul .i64 2 ((2 ^ i : Nat) : Int) (int ((2 ^ (i + 1) : Nat) : Int)) := ⟨by
      have e : (2 : Int) * ((2 ^ i : Nat) : Int) = ((2 ^ (i + 1) : Nat) : Int) := by rw [← pw]; omega
      simp only [intV]; rw [e, wrap_i64n (by omega)]⟩
    repeat' first
      | (show W _ _ _ _ _ (_ :: _) _ _ _; first
        | refine W.pure rfl rfl rfl rfl ?_
        | refine W.binE rfl rfl rfl rfl (by assumption) ?_
        | refine W.cmpT rfl rfl rfl rfl (by simp only [cmpP]; first | done | omega) ?_
        | refine W.add64 rfl rfl rfl rfl (by omega) ?_)
      | refine W.nil ?_
      | refine J.reg ?_
      | refine J.seq ?_
      | refine J.condT rfl ?_
      | refine J.block ?_
      | refine J.endBlk ?_
      | refine J.skip ?_
    exact J.againK (i + 1) [b4, bo] (by show i + 1 ≤ j; omega) (by show j - (i + 1) < j - i; omega) ⟨rfl, rfl, rfl, rfl, rfl, rfl, trivial⟩ rfl
  obtain rfl : i = j := by omega
  clear hlt hi
  repeat' first
    | (show W _ _ _ _ _ (_ :: _) _ _ _; first
      | refine W.pure rfl rfl rfl rfl ?_
      | refine W.cmpF rfl rfl rfl rfl (by simp only [cmpN]; first | done | omega) ?_
      | refine W.alloc rfl rfl (fun bq => ?_)
      | refine W.storeA rfl rfl rfl rfl (by rfl) (by rfl) (by simp [Value.oneCell']) ?_
      | refine W.build rfl rfl rfl ?_)
    | refine W.nil ?_
    | refine J.reg ?_
    | refine J.seq ?_
    | refine J.condF rfl ?_
    | refine J.block ?_
    | refine J.exit rfl ?_
  revert bq
  intro b13
  refine J.loopK (rgOk b l w (2 ^ i) L) (fun p => 2 ^ i - p.1)
    (fun p => [(4, ptr b4), (9, int w), (10, int (2 ^ i : Nat)), (13, ptr b13), (14, int p.1)])
    (rgA b l w b4 b13 bo cap c T0 fz)
    (0, none) [b13, b4, bo] ⟨Nat.zero_le _, rfl⟩ ⟨rfl, rfl, rfl, rfl, rfl, trivial⟩ rfl ?_
  rintro ⟨n, _ | ⟨b2, cap2, c2⟩⟩ ⟨hn1, hn2⟩
  · obtain rfl : n = 0 := hn2
    have h0 : (0 : Nat) < 2 ^ i := j0
    conv => arg 8; simp only [rgA]
    repeat' first
      | (show W _ _ _ _ _ (_ :: _) _ _ _; first
        | refine W.pure rfl rfl rfl rfl ?_
        | refine W.cmpT rfl rfl rfl rfl (by simp only [cmpP]; first | done | omega) ?_
        | refine W.ldaV rfl rfl rfl rfl rfl rfl ?_)
      | refine W.nil ?_
      | refine J.reg ?_
      | refine J.seq ?_
      | refine J.condT rfl ?_
      | refine J.block ?_
      | refine J.skip ?_
    refine W.call (GNext_is (w := w) (cap := cap) (T0 := T0) (fz := fz) hb hl (by omega) w64 hc) (ks := [bo]) rfl rfl rfl rfl fun v N hh => ?_
    obtain ⟨b2, cap2, c2, ⟨rfl, hc2⟩, rfl⟩ := hh
    refine W.n2 ?_
    repeat' first
      | (show W _ _ _ _ _ (_ :: _) _ _ _; first
        | refine W.pure rfl rfl rfl rfl ?_
        | refine W.add64E rfl rfl rfl rfl (by simp only [Int.reduceAdd, Int.reduceMul]; rfl) (by omega) ?_
        | refine W.storeA rfl rfl rfl rfl (by rfl) (by rfl) (by simp [Value.oneCell']) ?_)
      | refine W.nil ?_
      | refine J.reg ?_
      | refine J.endBlk ?_
    exact J.againK (1, some (b2, cap2, c2)) [b2, b13, b4, bo] ⟨j0, Nat.one_pos, by rw [show nexts b l w L 1 = nextG b l w L from by simp only [nexts]]; exact hc2⟩ (by show 2 ^ i - 1 < 2 ^ i - 0; omega) ⟨rfl, rfl, rfl, rfl, rfl, trivial⟩ rfl
  · have hn1 : n ≤ 2 ^ i := hn1
    obtain ⟨hn0, hc2⟩ : 0 < n ∧ CellsAt c2 (nexts b l w L n) (w * w) := hn2
    conv => arg 7; dsimp only
    conv => arg 8; simp only [rgA]
    by_cases hlt : n < 2 ^ i
    · repeat' first
        | (show W _ _ _ _ _ (_ :: _) _ _ _; first
          | refine W.pure rfl rfl rfl rfl ?_
          | refine W.cmpT rfl rfl rfl rfl (by simp only [cmpP]; first | done | omega) ?_
          | refine W.ldaV rfl rfl rfl rfl rfl rfl ?_)
        | refine W.nil ?_
        | refine J.reg ?_
        | refine J.seq ?_
        | refine J.condT rfl ?_
        | refine J.block ?_
        | refine J.skip ?_
      refine W.call (GNext_is (w := w) (cap := cap2) (T0 := 4) (fz := (0, 0)) hb hl (by omega) w64 hc2) (ks := [b2]) rfl rfl rfl rfl fun v N hh => ?_
      obtain ⟨b3, cap3, c3, ⟨rfl, hc3⟩, rfl⟩ := hh
      refine W.n2 ?_
      repeat' first
        | (show W _ _ _ _ _ (_ :: _) _ _ _; first
          | refine W.pure rfl rfl rfl rfl ?_
          | refine W.add64 rfl rfl rfl rfl (by omega) ?_
          | refine W.storeA rfl rfl rfl rfl (by rfl) (by rfl) (by simp [Value.oneCell']) ?_)
        | refine W.nil ?_
        | refine J.reg ?_
        | refine J.endBlk ?_
      exact J.againK (n + 1, some (b3, cap3, c3)) [b3, b13, b4, bo] ⟨hlt, Nat.succ_pos _, by rw [show nexts b l w L (n + 1) = nextG b l w (nexts b l w L n) from by simp only [nexts]]; exact hc3⟩ (by show 2 ^ i - (n + 1) < 2 ^ i - n; omega) ⟨rfl, rfl, rfl, rfl, rfl, trivial⟩ rfl
    · obtain rfl : n = 2 ^ i := by omega
      repeat' first
        | (show W _ _ _ _ _ (_ :: _) _ _ _; first
          | refine W.pure rfl rfl rfl rfl ?_
          | refine W.ldV rfl rfl rfl rfl rfl rfl ?_
          | refine W.cmpF rfl rfl rfl rfl (by simp only [cmpN]; first | done | omega) ?_
          | refine W.fieldAddr0 rfl rfl rfl rfl rfl ?_)
        | refine W.nil ?_
        | refine J.reg ?_
        | refine J.seq ?_
        | refine J.condF rfl ?_
        | refine J.exit rfl ?_
      refine W.call (Mid_is (cap := cap2) (T0 := 4) (fz := (0, 0)) hq hq0 w64 hc2) (ks := [b2]) rfl rfl rfl rfl fun v N hh => ?_
      obtain ⟨b3, cap3, c3, ⟨rfl, hc3⟩, rfl⟩ := hh
      refine W.n2 ?_
      repeat' first
        | refine W.pure rfl rfl rfl rfl ?_
        | refine W.nil ?_
      exact J.retR [b3, bo] (res1 rfl rfl) ⟨b3, cap3, c3, ⟨rfl, hc3⟩, rfl⟩
theorem has_is {s room : Nat} {U ts : List T} {id : Int} {t : T} {m w bm cap : Nat} {L : List Bool} {c : Array Value} {T0 : TypeId} {fz : Nat × Nat} (h : Inv room U ts) (hi : Is ts id t) (hlev : t.lev = m) (hm : m ≤ 8) (hw : w = 2 ^ m) (hL : L.length = w * w) (hs : Shows t (plL w L) 0 0) (hmany : t.many = (L.count true : Nat)) (hc : CellsAt c L (w * w)) :
    CallF P 17 [ptr s, int id, .slice (some ⟨bm, 0, none⟩) (w * w) cap, int w] [(bm, pts bm (.cells c T0 fz)), (s, treeP s room ts)] (.bool true) [(bm, pts bm (.cells c T0 fz)), (s, treeP s room ts)] := by
  have w256 : w ≤ 256 := by rw [hw]; exact Nat.pow_le_pow_right (n := 2) (by omega) hm
  have hw0 : 0 < w := by rw [hw]; exact Nat.pow_pos (by omega)
  have hww : w * w ≤ 256 * 256 := Nat.mul_le_mul w256 w256
  have hget : ∀ i, i < w * w → CallF P 34 [ptr s, int id, int ((i % w : Nat) : Int), int ((i / w : Nat) : Int)] [(s, treeP s room ts)] (.tuple #[.bool (L.getD i false), .nilIface]) [(s, treeP s room ts)] := fun i hi' => by
    have b1 : i % w < w := Nat.mod_lt _ hw0
    have b2 : i / w < w := Nat.div_lt_of_lt_mul hi'
    have e := hs (i % w) (i / w) (by rw [hlev, ← hw]; exact b1) (by rw [hlev, ← hw]; exact b2)
    rw [Int.zero_add, Int.zero_add, plL_in b1 b2, Nat.div_add_mod] at e
    have := Get_is (s := s) (x := i % w) (y := i / w) h hi (by rw [hlev, ← hw]; exact b1) (by rw [hlev, ← hw]; exact b2)
    rwa [e] at this
  have hcnt := Count_T (s := s) h hi
  rw [hmany] at hcnt
  have hct : ∀ i, (L.take i).count true ≤ i := fun i => Nat.le_trans List.count_le_length (by rw [List.length_take]; omega)
  refine callR_of Tryd.func17 rfl Tryd.ntmps17 rfl fun σ F => ?_
  repeat' first
    | refine W.pure rfl rfl rfl rfl ?_
    | refine W.nil ?_
    | refine J.reg ?_
    | refine J.seq ?_
    | refine J.block ?_
  refine J.loopK (X := Nat) (fun i => i ≤ w * w) (fun i => w * w - i) (fun i => [(0, ptr s), (1, int id), (2, .slice (some ⟨bm, 0, none⟩) (w * w) cap), (3, int w), (9, int i)])
    (fun _ => [(bm, pts bm (.cells c T0 fz)), (s, treeP s room ts)]) 0 [bm, s] (Nat.zero_le _) ⟨rfl, rfl, rfl, rfl, rfl, trivial⟩ rfl fun i hi => ?_
  have hi : i ≤ w * w := hi
  by_cases hlt : i < w * w
  · have r1 : (i : Int) % (w : Int) = ((i % w : Nat) : Int) := rfl
    have r2 : (i : Int) / (w : Int) = ((i / w : Nat) : Int) := rfl
    have b2 : i / w < w := Nat.div_lt_of_lt_mul hlt
    have b3 : ∀ q : Nat, q < w → -9223372036854775808 ≤ (q : Int) ∧ (q : Int) ≤ 9223372036854775807 := fun q hq => by omega
    have hg := hget i hlt
    have hcl := hc i hlt
    rcases (show L.getD i false = false ∨ L.getD i false = true by cases L.getD i false <;> simp) with hv | hv <;> rw [hv] at hg hcl
    · repeat' first
        | (show W _ _ _ _ _ (_ :: _) _ _ _; first
          | refine W.pure rfl rfl rfl rfl ?_
          | refine W.cmpT rfl rfl rfl rfl (by simp only [cmpP]; first | done | omega) ?_
          | refine W.lenSlice rfl rfl rfl ?_)
        | refine W.nil ?_
        | refine J.reg ?_
        | refine J.seq ?_
        | refine J.condT rfl ?_
        | refine J.block ?_
        | refine J.skip ?_
      refine J.regD [s] mixed (by kernel_rfl) ?_
      repeat' first
        | (show W _ _ _ _ _ (_ :: _) _ _ _; first
          | refine W.remE rfl rfl rfl rfl (by omega) (by omega) r1 ?_
          | refine W.quoE rfl rfl rfl rfl (by omega) (by omega) r2 (b3 _ b2) ?_
          | refine W.call1 hg rfl rfl rfl ?_
          | refine W.ldV rfl rfl rfl rfl rfl hcl ?_
          | refine W.neB rfl rfl rfl rfl ?_
          | refine W.pure rfl rfl rfl rfl ?_
          | refine W.add64 rfl rfl rfl rfl (by omega) ?_
          | refine W.indexAddrS rfl rfl rfl rfl (by omega) ?_
          | refine W.neIfNilT rfl rfl rfl ?_)
        | refine W.nil ?_
        | refine J.reg ?_
        | refine J.seq ?_
        | refine J.condF rfl ?_
        | refine J.endBlk ?_
        | refine J.skip ?_
      exact J.againK (i + 1) [bm, s] (by show i + 1 ≤ w * w; omega) (by show w * w - (i + 1) < w * w - i; omega) ⟨rfl, rfl, rfl, rfl, rfl, trivial⟩ rfl
    · repeat' first
        | (show W _ _ _ _ _ (_ :: _) _ _ _; first
          | refine W.pure rfl rfl rfl rfl ?_
          | refine W.cmpT rfl rfl rfl rfl (by simp only [cmpP]; first | done | omega) ?_
          | refine W.lenSlice rfl rfl rfl ?_)
        | refine W.nil ?_
        | refine J.reg ?_
        | refine J.seq ?_
        | refine J.condT rfl ?_
        | refine J.block ?_
        | refine J.skip ?_
      refine J.regD [s] mixed (by kernel_rfl) ?_
      repeat' first
        | (show W _ _ _ _ _ (_ :: _) _ _ _; first
          | refine W.remE rfl rfl rfl rfl (by omega) (by omega) r1 ?_
          | refine W.quoE rfl rfl rfl rfl (by omega) (by omega) r2 (b3 _ b2) ?_
          | refine W.call1 hg rfl rfl rfl ?_
          | refine W.ldV rfl rfl rfl rfl rfl hcl ?_
          | refine W.neB rfl rfl rfl rfl ?_
          | refine W.pure rfl rfl rfl rfl ?_
          | refine W.add64 rfl rfl rfl rfl (by omega) ?_
          | refine W.indexAddrS rfl rfl rfl rfl (by omega) ?_
          | refine W.neIfNilT rfl rfl rfl ?_)
        | refine W.nil ?_
        | refine J.reg ?_
        | refine J.seq ?_
        | refine J.condF rfl ?_
        | refine J.endBlk ?_
        | refine J.skip ?_
      exact J.againK (i + 1) [bm, s] (by show i + 1 ≤ w * w; omega) (by show w * w - (i + 1) < w * w - i; omega) ⟨rfl, rfl, rfl, rfl, rfl, trivial⟩ rfl
  obtain rfl : i = w * w := by omega
  clear hlt hi
  repeat' first
    | (show W _ _ _ _ _ (_ :: _) _ _ _; first
      | refine W.call1 hcnt rfl rfl rfl ?_
      | refine W.pure rfl rfl rfl rfl ?_
      | refine W.cmpF rfl rfl rfl rfl (by simp only [cmpN]; first | done | omega) ?_
      | refine W.lenSlice rfl rfl rfl ?_)
    | refine W.nil ?_
    | refine J.reg ?_
    | refine J.seq ?_
    | refine J.condF rfl ?_
    | refine J.block ?_
    | refine J.exit rfl ?_
  refine J.loopK (X := Nat) (fun i => i ≤ w * w) (fun i => w * w - i) (fun i => [(2, .slice (some ⟨bm, 0, none⟩) (w * w) cap), (12, int (L.count true : Nat)), (13, .nilIface), (14, int ((L.take i).count true : Nat)), (15, int i)])
    (fun _ => [(bm, pts bm (.cells c T0 fz)), (s, treeP s room ts)]) 0 [bm, s] (Nat.zero_le _) ⟨rfl, rfl, rfl, rfl, rfl, trivial⟩ rfl fun i hi => ?_
  have hi : i ≤ w * w := hi
  by_cases hlt : i < w * w
  · have hcl := hc i hlt
    have hli : i < L.length := by omega
    have hti := hct i
    have e : L.take (i + 1) = L.take i ++ [L[i]] := by rw [List.take_add_one, List.getElem?_eq_getElem hli]; rfl
    have ec : L.getD i false = L[i] := by rw [List.getD_eq_getElem?_getD, List.getElem?_eq_getElem hli]; rfl
    rcases (show L.getD i false = false ∨ L.getD i false = true by cases L.getD i false <;> simp) with hv | hv <;> rw [hv] at hcl
    · repeat' first
        | (show W _ _ _ _ _ (_ :: _) _ _ _; first
          | refine W.ldV rfl rfl rfl rfl rfl hcl ?_
          | refine W.pure rfl rfl rfl rfl ?_
          | refine W.cmpT rfl rfl rfl rfl (by simp only [cmpP]; first | done | omega) ?_
          | refine W.add64 rfl rfl rfl rfl (by omega) ?_
          | refine W.indexAddrS rfl rfl rfl rfl (by omega) ?_
          | refine W.lenSlice rfl rfl rfl ?_)
        | refine W.nil ?_
        | refine J.reg ?_
        | refine J.seq ?_
        | refine J.condT rfl ?_
        | refine J.condF rfl ?_
        | refine J.block ?_
        | refine J.endBlk ?_
        | refine J.skip ?_
      exact J.againK (i + 1) [bm, s] (by show i + 1 ≤ w * w; omega) (by show w * w - (i + 1) < w * w - i; omega) ⟨rfl, rfl, rfl, by rw [e, List.count_append, ← ec, hv]; rfl, rfl, trivial⟩ rfl
    · repeat' first
        | (show W _ _ _ _ _ (_ :: _) _ _ _; first
          | refine W.ldV rfl rfl rfl rfl rfl hcl ?_
          | refine W.pure rfl rfl rfl rfl ?_
          | refine W.cmpT rfl rfl rfl rfl (by simp only [cmpP]; first | done | omega) ?_
          | refine W.add64 rfl rfl rfl rfl (by omega) ?_
          | refine W.indexAddrS rfl rfl rfl rfl (by omega) ?_
          | refine W.lenSlice rfl rfl rfl ?_)
        | refine W.nil ?_
        | refine J.reg ?_
        | refine J.seq ?_
        | refine J.condT rfl ?_
        | refine J.block ?_
        | refine J.endBlk ?_
        | refine J.skip ?_
      exact J.againK (i + 1) [bm, s] (by show i + 1 ≤ w * w; omega) (by show w * w - (i + 1) < w * w - i; omega) ⟨rfl, rfl, rfl, by rw [e, List.count_append, ← ec, hv]; rfl, rfl, trivial⟩ rfl
  obtain rfl : i = w * w := by omega
  have et : (L.take (w * w)).count true = L.count true := by rw [List.take_of_length_le (by omega)]
  repeat' first
    | (show W _ _ _ _ _ (_ :: _) _ _ _; first
      | refine W.pure rfl rfl rfl rfl ?_
      | refine W.cmpT rfl rfl rfl rfl (by simp only [cmpP]; first | done | omega) ?_
      | refine W.cmpF rfl rfl rfl rfl (by simp only [cmpN]; first | done | omega) ?_
      | refine W.lenSlice rfl rfl rfl ?_
      | refine W.eqIfNilT rfl rfl rfl ?_)
    | refine W.nil ?_
    | refine J.reg ?_
    | refine J.seq ?_
    | refine J.condF rfl ?_
    | refine J.exit rfl ?_
  exact J.retF [bm, s] (res1 rfl rfl) rfl
end Go.Proofs.YtphnadpmpcifoaaDoor
/-
  errors.As at an error number; the laws' own: num.
-/

namespace Go.Sq
section
variable {P : Program} {ops : Array Oper} {n : Nat} {bars : Nat → Bool} {K : EnvF → List Ent → List Ent → Prop} {l : List (Nat × Oper)} {E : Env} {St V : List Ent} {i : Nat} {d : Tmp} {ty : TypeId} {pos : String} {aft : Array Edge} {g : Option (Nat × Bool)}
/-- A call that runs at once: a value, and nothing turns. -/
theorem W.ran {op : Op} {v : Value} (hw : wants ops ⟨some d, op, ty, pos, aft, g⟩ E.get = some true) (hf : fits n ⟨some d, op, ty, pos, aft, g⟩ = true) {us : List Value} (hx : evL E op.operands.toList = some us) (hq : kindOf op = .loud)
    (hr : ∀ w, (execOp (evf E.get) ⟨some d, op, ty, pos, aft, g⟩).run P w = .ok (.value v) w) (h : W P ops n bars K l ((d, v) :: E) St V) : W P ops n bars K ((i, ⟨some d, op, ty, pos, aft, g⟩) :: l) E St V := by
  refine W.loud (N := []) (M := V) (R := fun u N' => u = v ∧ N' = []) hw hf (fun t ht => (evL_spec hx).2 t (by simpa using ht)) hq (List.Perm.refl _) ?_ fun u N' ⟨h1, h2⟩ => by subst h1; subst h2; rw [put_get]; exact h
  intro σ F w hs
  rw [hr w]
  exact ⟨_, ⟨rfl, rfl⟩, hs⟩
/-- .. that reads one piece. -/
theorem W.ran1 {op : Op} {v : Value} {b : Nat} {o : Obj} {M : List Ent} (hw : wants ops ⟨some d, op, ty, pos, aft, g⟩ E.get = some true) (hf : fits n ⟨some d, op, ty, pos, aft, g⟩ = true) {us : List Value} (hx : evL E op.operands.toList = some us) (hq : kindOf op = .loud)
    (b0 : Nat) (hb0 : b0 = b) [hp : PickK V b (pts b o) M] (hr : ∀ w, w.heap[b]? = some o → (execOp (evf E.get) ⟨some d, op, ty, pos, aft, g⟩).run P w = .ok (.value v) w) (h : W P ops n bars K l ((d, v) :: E) St V) : W P ops n bars K ((i, ⟨some d, op, ty, pos, aft, g⟩) :: l) E St V := by
  refine W.loud (N := V) (M := []) (R := fun u N' => u = v ∧ N' = V) hw hf (fun t ht => (evL_spec hx).2 t (by simpa using ht)) hq (by simp) ?_ fun u N' ⟨h1, h2⟩ => by subst h1; subst h2; rw [put_get, List.append_nil]; exact h
  intro σ F w hs
  rw [hr w (Sat.block (k := b) (As := M ++ F) (hs.perm (hp.perm.append_right F)))]
  exact ⟨_, ⟨rfl, rfl⟩, hs⟩
/-- .. that makes one piece. -/
theorem W.ranNew {op : Op} {mk : Nat → Value} {ob : Obj} (hw : wants ops ⟨some d, op, ty, pos, aft, g⟩ E.get = some true) (hf : fits n ⟨some d, op, ty, pos, aft, g⟩ = true) {us : List Value} (hx : evL E op.operands.toList = some us) (hq : kindOf op = .loud)
    (hr : ∀ w, (execOp (evf E.get) ⟨some d, op, ty, pos, aft, g⟩).run P w = .ok (.value (mk w.heap.size)) (w.alloc ob)) (h : ∀ b, W P ops n bars K l ((d, mk b) :: E) St ((b, pts b ob) :: V)) : W P ops n bars K ((i, ⟨some d, op, ty, pos, aft, g⟩) :: l) E St V := by
  refine W.loud (N := []) (M := V) (R := fun u N' => ∃ b, u = mk b ∧ N' = [(b, pts b ob)]) hw hf (fun t ht => (evL_spec hx).2 t (by simpa using ht)) hq (List.Perm.refl _) ?_ fun u N' ⟨b, h1, h2⟩ => by subst h1; subst h2; rw [put_get]; exact h b
  intro σ F w hs
  rw [hr w]
  exact ⟨_, ⟨_, rfl, rfl⟩, hs.alloc ob⟩
/-- .. that turns one piece, by another. -/
theorem W.ranSet {op : Op} {v : Value} {b b2 : Nat} {o o' o2 : Obj} {M M2 : List Ent} (hw : wants ops ⟨some d, op, ty, pos, aft, g⟩ E.get = some true) (hf : fits n ⟨some d, op, ty, pos, aft, g⟩ = true) {us : List Value} (hx : evL E op.operands.toList = some us) (hq : kindOf op = .loud)
    (b0 b02 : Nat) (hb0 : b0 = b) (hb02 : b02 = b2) [hp : PickK V b (pts b o) M] [hp2 : PickK M b2 (pts b2 o2) M2]
    (hr : ∀ w, w.heap[b]? = some o → w.heap[b2]? = some o2 → (execOp (evf E.get) ⟨some d, op, ty, pos, aft, g⟩).run P w = .ok (.value v) { w with heap := w.heap.setIfInBounds b o' }) (h : W P ops n bars K l ((d, v) :: E) St ((b, pts b o') :: M)) : W P ops n bars K ((i, ⟨some d, op, ty, pos, aft, g⟩) :: l) E St V := by
  refine W.loud (N := (b, pts b o) :: M) (M := []) (R := fun u N' => u = v ∧ N' = (b, pts b o') :: M) hw hf (fun t ht => (evL_spec hx).2 t (by simpa using ht)) hq (by simpa using hp.perm) ?_ fun u N' ⟨h1, h2⟩ => by subst h1; subst h2; rw [put_get, List.append_nil]; exact h
  intro σ F w hs
  have hb : w.heap[b]? = some o := Sat.block (k := b) (As := M ++ F) hs
  have hb2 : w.heap[b2]? = some o2 := Sat.block (k := b2) (As := M2 ++ F) ((hs.tail).perm (hp2.perm.append_right F))
  rw [hr w hb hb2]
  have hlt := (Array.getElem?_eq_some_iff.1 hb).1
  exact ⟨_, ⟨rfl, rfl⟩, Sat.setObj (o := o) hs rfl (by simp [hlt]) (fun c _ hc => by simp [Array.getElem?_setIfInBounds_ne (Ne.symm hc)])⟩
end
end Go.Sq
namespace Go.Proofs.YtphnadpmpcifoaaDoor
open Go.Sq Go.Qm Go.Extern
abbrev hdl (T : Nat) : Value := .pointer (some ⟨1, T, none⟩)
abbrev rty (T : Nat) : Value := .iface 132 (.agg #[hdl T])
/-! ### the model's entries for reflectlite, where they read or write memory -/
theorem rl_method (z : Sem Value) (f : TypeId → Addr → Nat → Nat → Sem Value) (v : Value) :
    ReflectliteValue.method z f #[v] = (do match ← ReflectliteValue.parts v with | none => z | some (t, a, fl) => f t a fl (fl % 32)) := rfl
theorem rl_set (v x : Value) : ReflectliteValue.set #[v, x] = (do
    let (some (dst, a, fl), some (src, b, _)) := (← ReflectliteValue.parts v, ← ReflectliteValue.parts x)
      | unsupported (.noEntry "extern/(internal/reflectlite.Value).Set.zeroValue")
    if fl / ReflectliteValue.flagAddr % 2 == 0 then unsupported (.noEntry "extern/(internal/reflectlite.Value).Set.unaddressable")
    let val ← loadVar src b
    if ← Rtype.directlyAssignable dst src then storeVar dst a val
    else if ← Rtype.implements dst src then
      if (← Rtype.kind src) == 20 then
        match val with
        | .nilIface => unsupported (.noEntry "extern/reflectlite: a nil value of one interface type handed on as a value of another")
        | _ => storeVar dst a val
      else storeVar dst a (.iface src val)
    else panicString ("reflectlite.Set: value of type " ++ (← Rtype.spelt src) ++ " is not assignable to type " ++ (← Rtype.spelt dst))
    pure (.tuple #[])) := rfl
theorem x_parts (a : Addr) (w : World) : (ReflectliteValue.parts (.agg #[hdl 77, .pointer (some a), .int .u64 150])).run P w = .ok (some (77, a, 150)) w := by kernel_rfl
theorem x_parts2 (a : Addr) (w : World) : (ReflectliteValue.parts (.agg #[hdl 56, .pointer (some a), .int .u64 386])).run P w = .ok (some (56, a, 386)) w := by kernel_rfl
theorem x_parts3 (a : Addr) (w : World) : (ReflectliteValue.parts (.agg #[hdl 56, .pointer (some a), .int .u64 130])).run P w = .ok (some (56, a, 130)) w := by kernel_rfl
theorem x_elemOf (w : World) : (Rtype.elem? 77).run P w = .ok (some 56) w := by kernel_rfl
theorem x_mk (p : Addr) (w : World) : (ReflectliteValue.mk 56 p ReflectliteValue.flagAddr).run P w = .ok (.agg #[hdl 56, .pointer (some p), .int .u64 386]) w := by kernel_rfl
theorem x_direct (w : World) : (Rtype.directlyAssignable 56 56).run P w = .ok true w := by kernel_rfl
theorem x_size (w : World) : (sizeOf 56).run P w = .ok 1 w := by kernel_rfl
theorem cell_at0 {w : World} {b : Nat} {c : Array Value} {T : TypeId} {fz : Nat × Nat} {v : Value} (h : w.heap[b]? = some (.cells c T fz)) (h0 : c[0]? = some v) : w.cell? ⟨b, 0, none⟩ = some v := by
  unfold World.cell?; rw [h]; exact h0
theorem isNil_run {a p : Addr} {w : World} (ha : w.cell? a = some (.pointer (some p))) : (callFunc 47 #[.agg #[hdl 77, .pointer (some a), .int .u64 150]]).run P w = .ok (.value (.bool false)) w := by
  rw [@run_callFunc_extern P 47 _ (ReflectliteValue.method (ReflectliteValue.valueError "reflectlite.Value.IsNil" 0) ReflectliteValue.isNil) Tryd.func47 (by kernel_rfl) (by kernel_rfl) (by kernel_rfl) (by kernel_rfl)]
  rw [rl_method]
  simp only [Sem.run_bind, x_parts, Result.andThen]
  simp [ReflectliteValue.isNil, loadVar, isAgg, underlying, Tryd.underlying77, ha, Result.andThen]
theorem elem_run {a p : Addr} {w : World} (ha : w.cell? a = some (.pointer (some p))) : (callFunc 61 #[.agg #[hdl 77, .pointer (some a), .int .u64 150]]).run P w = .ok (.value (.agg #[hdl 56, .pointer (some p), .int .u64 386])) w := by
  rw [@run_callFunc_extern P 61 _ (ReflectliteValue.method (ReflectliteValue.valueError "reflectlite.Value.Elem" 0) ReflectliteValue.elem) Tryd.func61 (by kernel_rfl) (by kernel_rfl) (by kernel_rfl) (by kernel_rfl)]
  rw [rl_method]
  simp only [Sem.run_bind, x_parts, Result.andThen]
  simp [ReflectliteValue.elem, loadVar, isAgg, underlying, Tryd.underlying77, ha, Result.andThen, x_elemOf, x_mk]
theorem set_run {bn bw : Nat} {n : Int} {old : Value} {w : World} (hb : w.heap[bn]? = some (.cells #[old] 56 (0, 0))) (hw : w.heap[bw]? = some (.cells #[.int .i64 n] 56 (0, 0))) :
    (callFunc 62 #[.agg #[hdl 56, ptr bn, .int .u64 386], .agg #[hdl 56, ptr bw, .int .u64 130]]).run P w = .ok (.value (.tuple #[])) { w with heap := w.heap.setIfInBounds bn (.cells #[.int .i64 n] 56 (0, 0)) } := by
  have h1 : w.cell? ⟨bn, 0, none⟩ = some old := cell_at0 hb rfl
  have h2 : w.cell? ⟨bw, 0, none⟩ = some (.int .i64 n) := cell_at0 hw rfl
  have h3 : w.frozen? ⟨bn, 0, none⟩ = false := by simp [World.frozen?, hb]
  rw [@run_callFunc_extern P 62 _ ReflectliteValue.set Tryd.func62 (by kernel_rfl) (by kernel_rfl) (by kernel_rfl) (by kernel_rfl)]
  rw [rl_set]
  simp only [Sem.run_bind, x_parts2, x_parts3, Result.andThen]
  simp [ReflectliteValue.flagAddr, loadVar, isAgg, underlying, Tryd.underlying56, h2, Result.andThen, x_direct, storeVar, Value.cells, storeCells, Addr.add]
  rw [run_store P w ⟨bn, 0, none⟩ _ _ (by rfl)]
  simp [h1, h3, World.setCell]
  apply Array.ext_getElem?
  intro i
  rw [Array.getElem?_modify, Array.getElem?_setIfInBounds]
  by_cases hi : bn = i
  · subst hi
    have hlt := (Array.getElem?_eq_some_iff.1 hb).1
    have he : w.heap[bn] = .cells #[old] 56 (0, 0) := (Array.getElem?_eq_some_iff.1 hb).2
    simp [hlt, he]
  · simp [hi]
attribute [local irreducible] SW J
set_option maxHeartbeats 8000000
set_option maxRecDepth 10000
theorem errorsas2_is {bn bv n : Nat} :
    CallF P 48 [err n, .iface 77 (ptr bn), .agg #[hdl 77, ptr bv, .int .u64 150], rty 56] [(bn, pts bn (.cells #[.int .i64 0] 56 (0, 0))), (bv, pts bv (.cells #[ptr bn] 77 (0, 0)))]
      (.bool true) [(bn, pts bn (.cells #[.int .i64 n] 56 (0, 0))), (bv, pts bv (.cells #[ptr bn] 77 (0, 0)))] := by
  refine callR_of Tryd.func48 rfl Tryd.ntmps48 rfl fun σ F => ?_
  repeat' first
    | refine W.pure rfl rfl rfl rfl ?_
    | refine W.boxA rfl rfl rfl (fun bq => ?_)
    | refine W.nil ?_
    | refine J.reg ?_
    | refine J.seq ?_
    | refine J.block ?_
  refine J.rounds 2 ?_
  repeat' first
    | refine W.pure rfl rfl rfl rfl ?_
    | refine J.reg ?_
    | refine J.seq ?_
    | refine J.block ?_
    | refine J.rnd ?_
  refine W.ran (v := rty 56) rfl rfl rfl rfl (fun w => by kernel_rfl) ?_
  repeat' first
    | refine W.pure rfl rfl rfl rfl ?_
  refine W.ran (v := .bool true) rfl rfl rfl rfl (fun w => by kernel_rfl) ?_
  repeat' first
    | refine W.ldaV rfl rfl rfl rfl rfl rfl ?_
    | refine W.nil ?_
    | refine J.reg ?_
    | refine J.seq ?_
    | refine J.condT rfl ?_
  refine W.ran1 (b := bv) (o := .cells #[ptr bn] 77 (0, 0)) (v := .agg #[hdl 56, ptr bn, .int .u64 386]) rfl rfl rfl rfl bv rfl (fun w hw => Eq.trans (b := (callFunc 61 #[.agg #[hdl 77, ptr bv, .int .u64 150]]).run P w) (by kernel_rfl) (elem_run (cell_at0 hw rfl))) ?_
  repeat' first
    | refine W.pure rfl rfl rfl rfl ?_
  refine W.ranNew (mk := fun b => .agg #[hdl 56, .pointer (some ⟨b, 0, none⟩), .int .u64 130]) (ob := .cells #[.int .i64 n] 56 (0, 0)) rfl rfl rfl rfl (fun w => by kernel_rfl) (fun bw => ?_)
  skip
  refine W.ranSet (b := bn) (b2 := bw) (o := .cells #[.int .i64 0] 56 (0, 0)) (o' := .cells #[.int .i64 n] 56 (0, 0)) (o2 := .cells #[.int .i64 n] 56 (0, 0)) (v := .tuple #[]) rfl rfl rfl rfl bn bw rfl rfl (fun w hw hw2 => Eq.trans (b := (callFunc 62 #[.agg #[hdl 56, ptr bn, .int .u64 386], .agg #[hdl 56, ptr bw, .int .u64 130]]).run P w) (by kernel_rfl) (set_run hw hw2)) ?_
  repeat' first
    | refine W.pure rfl rfl rfl rfl ?_
    | refine W.nil ?_
    | refine J.reg ?_
    | refine J.seq ?_
  exact J.retF [bn, bv] (res1 rfl rfl) rfl
theorem errorsas_is {bn n : Nat} {cg : Array Value} {Tg : TypeId} {fg : Nat × Nat} (hg : cg.toList[0]? = some (rty 27)) :
    CallR P 29 [err n, .iface 77 (ptr bn)] [(bn, pts bn (.cells #[.int .i64 0] 56 (0, 0))), (0, pts 0 (.cells cg Tg fg))] fun v N => v = .bool true ∧ N = [(bn, pts bn (.cells #[.int .i64 n] 56 (0, 0))), (0, pts 0 (.cells cg Tg fg))] := by
  refine callR_of Tryd.func29 rfl Tryd.ntmps29 rfl fun σ F => ?_
  repeat' first
    | refine W.pure rfl rfl rfl rfl ?_
    | refine W.eqIfNilF rfl rfl rfl ?_
    | refine W.nil ?_
    | refine J.reg ?_
    | refine J.seq ?_
    | refine J.condF rfl ?_
    | refine J.skip ?_
  refine W.ranNew (mk := fun b => .agg #[hdl 77, .pointer (some ⟨b, 0, none⟩), .int .u64 150]) (ob := .cells #[ptr bn] 77 (0, 0)) rfl rfl rfl rfl (fun w => by kernel_rfl) (fun bv => ?_)
  repeat' first
    | (show W _ _ _ _ _ (_ :: _) _ _ _; first
      | refine W.ldaV rfl rfl rfl rfl rfl rfl ?_
      | refine W.alloc rfl rfl (fun bq => ?_)
      | refine W.storeA rfl rfl rfl rfl (by rfl) (by rfl) (by simp [Value.oneCell']) ?_)
    | refine W.nil ?_
    | refine J.reg ?_
    | refine J.seq ?_
  refine W.ran (v := rty 77) rfl rfl rfl rfl (fun w => by kernel_rfl) ?_
  repeat' first
    | refine W.pure rfl rfl rfl rfl ?_
    | refine W.nil ?_
    | refine J.reg ?_
    | refine J.seq ?_
  refine W.ran (v := .int .u8 22) rfl rfl rfl rfl (fun w => by kernel_rfl) ?_
  repeat' first
    | (show W _ _ _ _ _ (_ :: _) _ _ _; first
      | refine W.pure rfl rfl rfl rfl ?_
      | refine W.cmpF rfl rfl rfl rfl (by simp only [cmpN]; first | done | omega) ?_
      | refine W.ldaV rfl rfl rfl rfl rfl rfl ?_)
  refine W.ran1 (b := bv) (o := .cells #[ptr bn] 77 (0, 0)) (v := .bool false) rfl rfl rfl rfl bv rfl (fun w hw => Eq.trans (b := (callFunc 47 #[.agg #[hdl 77, ptr bv, .int .u64 150]]).run P w) (by kernel_rfl) (isNil_run (cell_at0 hw rfl))) ?_
  repeat' first
    | refine W.pure rfl rfl rfl rfl ?_
    | refine W.nil ?_
    | refine J.reg ?_
    | refine J.seq ?_
    | refine J.condF rfl ?_
    | refine J.skip ?_
  refine W.ran (v := rty 56) rfl rfl rfl rfl (fun w => by kernel_rfl) ?_
  repeat' first
    | refine W.pure rfl rfl rfl rfl ?_
    | refine W.nil ?_
    | refine J.reg ?_
    | refine J.seq ?_
  refine W.ran (v := .int .u8 2) rfl rfl rfl rfl (fun w => by kernel_rfl) ?_
  repeat' first
    | (show W _ _ _ _ _ (_ :: _) _ _ _; first
      | refine W.ldV rfl rfl rfl rfl rfl hg ?_
      | refine W.pure rfl rfl rfl rfl ?_
      | refine W.cmpT rfl rfl rfl rfl (by simp only [cmpP]; first | done | omega) ?_)
  refine W.ran (v := .bool true) rfl rfl rfl rfl (fun w => by kernel_rfl) ?_
  repeat' first
    | (show W _ _ _ _ _ (_ :: _) _ _ _; first
      | refine W.not rfl rfl rfl ?_
      | refine W.call2 (errorsas2_is (n := n)) rfl rfl rfl ?_
      | refine W.pure rfl rfl rfl rfl ?_
      | refine W.ldaV rfl rfl rfl rfl rfl rfl ?_)
    | refine W.nil ?_
    | refine J.reg ?_
    | refine J.seq ?_
    | refine J.condF rfl ?_
    | refine J.skip ?_
  exact J.retR [bn, 0] (res1 rfl rfl) ⟨rfl, rfl⟩
theorem num_is {n : Nat} {cg : Array Value} {Tg : TypeId} {fg : Nat × Nat} (hg : cg.toList[0]? = some (rty 27)) : CallF P 10 [err n] [(0, pts 0 (.cells cg Tg fg))] (int n) [(0, pts 0 (.cells cg Tg fg))] := by
  refine callR_of Tryd.func10 rfl Tryd.ntmps10 rfl fun σ F => ?_
  repeat' first
    | (show W _ _ _ _ _ (_ :: _) _ _ _; first
      | refine W.pure rfl rfl rfl rfl ?_
      | refine W.alloc rfl rfl (fun bq => ?_)
      | refine W.eqIfNilF rfl rfl rfl ?_
      | refine W.makeInterface rfl rfl rfl rfl ?_)
    | refine W.nil ?_
    | refine J.reg ?_
    | refine J.seq ?_
    | refine J.condF rfl ?_
    | refine J.skip ?_
  refine W.call (errorsas_is (n := n) hg) (ks := [bq, 0]) rfl rfl rfl rfl fun v N hh => ?_
  obtain ⟨rfl, rfl⟩ := hh
  simp only [List.cons_append, List.nil_append]
  repeat' first
    | refine W.pure rfl rfl rfl rfl ?_
    | refine W.ldV rfl rfl rfl rfl rfl rfl ?_
    | refine W.nil ?_
    | refine J.reg ?_
    | refine J.seq ?_
    | refine J.condT rfl ?_
  exact J.retF [0] (res1 rfl rfl) rfl
end Go.Proofs.YtphnadpmpcifoaaDoor
/-
  A number as one without a sign.
-/
namespace Go.Sq
theorem conv_u (k : Int) : ∃ u : Nat, ConvE .u64 k (u : Int) ∧ u < 18446744073709551616 := by
  refine ⟨(BitVec.ofInt 64 k).toNat, ⟨?_⟩, (BitVec.ofInt 64 k).isLt⟩
  simp [IntKind.wrap, IntKind.signed, IntKind.bits]
  omega
end Go.Sq
/-
  The law GrowCells answers true.
-/
namespace Go.Proofs.YtphnadpmpcifoaaDoor
open Go.Sq Go.Qm
attribute [local irreducible] SW J T.lev T.ok T.k0 T.k1 T.k2 T.k3 T.cells num T.ctr T.grow T.growNew T.wide T.wideNew fieldN laidT laidNew T.empty T.emptyNew T.set T.setNew T.many cellU plL nexts midL
set_option maxHeartbeats 8000000
set_option maxRecDepth 10000
theorem Grow_bad {s room g b l n : Nat} {ts : List T} {id j : Int} {t : T} (hi : Is ts id t) (hl : 4 ≤ t.lev) (h40 : t.lev ≤ 40) (hj : j < 0 ∨ (t.lev : Int) - 2 < j) : CallF P 6 [ptr g, int id, int j] [(g, gwP g s b l n ts), (s, treeP s room ts)] (.tuple #[int 0, err 1]) [(g, gwP g s b l n ts), (s, treeP s room ts)] := by
  refine callR_of Tryd.func6 rfl Tryd.ntmps6 rfl fun σ F => ?_
  refine J.openG g fun bk es clk h1 h2 => ?_
  by_cases h0 : j < 0
  · repeat' first
      | (show W _ _ _ _ _ (_ :: _) _ _ _; first
        | refine W.call1 (Level_is hi) rfl rfl rfl ?_
        | refine W.pure rfl rfl rfl rfl ?_
        | refine W.ldV rfl rfl rfl rfl rfl rfl ?_
        | refine W.cmpT rfl rfl rfl rfl (by simp only [cmpP]; first | done | omega) ?_
        | refine W.cmpF rfl rfl rfl rfl (by simp only [cmpN]; first | done | omega) ?_
        | refine W.fieldAddr0 rfl rfl rfl rfl rfl ?_
        | refine W.skip rfl rfl ?_
        | refine W.neIfNilT rfl rfl rfl ?_
        | refine W.eqPtNil rfl rfl rfl ?_
        | refine W.makeInterface rfl rfl rfl rfl ?_)
      | refine W.nil ?_
      | refine J.reg ?_
      | refine J.seq ?_
      | refine J.condT rfl ?_
      | refine J.condF rfl ?_
      | refine J.block ?_
      | refine J.skip ?_
    refine J.shutG g bk h1 h2 ?_
    exact J.retF [g, s] (res2 rfl rfl rfl) rfl
  · repeat' first
      | (show W _ _ _ _ _ (_ :: _) _ _ _; first
        | refine W.call1 (Level_is hi) rfl rfl rfl ?_
        | refine W.pure rfl rfl rfl rfl ?_
        | refine W.ldV rfl rfl rfl rfl rfl rfl ?_
        | refine W.cmpT rfl rfl rfl rfl (by simp only [cmpP]; first | done | omega) ?_
        | refine W.cmpF rfl rfl rfl rfl (by simp only [cmpN]; first | done | omega) ?_
        | refine W.fieldAddr0 rfl rfl rfl rfl rfl ?_
        | refine W.sub64 rfl rfl rfl rfl (by omega) ?_
        | refine W.neIfNilT rfl rfl rfl ?_
        | refine W.eqPtNil rfl rfl rfl ?_
        | refine W.makeInterface rfl rfl rfl rfl ?_)
      | refine W.nil ?_
      | refine J.reg ?_
      | refine J.seq ?_
      | refine J.condT rfl ?_
      | refine J.condF rfl ?_
      | refine J.block ?_
      | refine J.skip ?_
    refine J.shutG g bk h1 h2 ?_
    exact J.retF [g, s] (res2 rfl rfl rfl) rfl
theorem growCells_is {b l : Nat} (hb : b < 65536) (hl : l < 65536) {av : Option Addr} {len cap bl off : Nat} {c : Array Value} {T0 : TypeId} {fz : Nat × Nat} {z : Nat → Nat} {K Ji : Int} (hv : 0 < len → av = some ⟨bl, off, none⟩) (hlen : len ≤ 9223372036854775807)
    (hc : ∀ i, i < len → c.toList[off + i * 1]? = some (u64v (z i)) ∧ z i < 18446744073709551616) {cg : Array Value} {Tg : TypeId} {fg : Nat × Nat} (hg : cg.toList[0]? = some (rty 27)) :
    CallF P 4 [ruleV b l, .slice av len cap, .agg #[int K, int Ji]] [(bl, sliP len bl c T0 fz), (0, pts 0 (.cells cg Tg fg))] (.bool true) [(bl, sliP len bl c T0 fz), (0, pts 0 (.cells cg Tg fg))] := by
  have n1 := num_is (n := 1) (Tg := Tg) (fg := fg) hg
  refine callR_of Tryd.func4 rfl Tryd.ntmps4 rfl fun σ F => ?_
  by_cases hr : RuleOk b l
  · obtain ⟨u, cu, hu⟩ := conv_u K
    obtain ⟨m, hm⟩ : ∃ m, m = 4 + u % 3 := ⟨_, rfl⟩
    have m4 : 4 ≤ m := by omega
    have m6 : m ≤ 6 := by omega
    have f1 : (u : Int) % 3 = ((u % 3 : Nat) : Int) := rfl
    have f2 : ConvE .i64 ((u % 3 : Nat) : Int) ((u % 3 : Nat) : Int) := ⟨wrap_i64 (by omega) (by omega)⟩
    have f3 : IntE .add .i64 4 ((u % 3 : Nat) : Int) (int (m : Int)) := ⟨by simp only [intV]; rw [wrap_i64 (by omega) (by omega)]; congr 2; omega⟩
    obtain ⟨w, hw⟩ : ∃ w, w = 2 ^ m := ⟨_, rfl⟩
    obtain ⟨q, hq⟩ : ∃ q, q = 2 ^ (m - 2) := ⟨_, rfl⟩
    have wq : w = 4 * q := by rw [hw, hq, show m = m - 2 + 1 + 1 from by omega, two_pow, two_pow, show m - 2 + 1 + 1 - 2 = m - 2 from by omega]; omega
    have q0 : 0 < q := by rw [hq]; exact Nat.pow_pos (by omega)
    have w2 : 2 * q = 2 ^ (m - 1) := by rw [hq, show m - 1 = m - 2 + 1 from by omega, two_pow]
    have w0 : 0 < w := by rw [hw]; exact Nat.pow_pos (by omega)
    have w64 : w ≤ 64 := by rw [hw]; exact Nat.pow_le_pow_right (n := 2) (by omega) m6
    have f4 : ShlE .i64 1 (m : Int) (w : Int) := ⟨by rw [hw]; exact (shl_i64 (a := 1) (by omega) (by rw [← hw]; omega)).trans (by rw [Nat.one_mul])⟩
    have f5 : (w : Int) / 2 = ((2 * q : Nat) : Int) := by omega
    have hf := field_is (cap := cap) (T0 := T0) (fz := fz) (w := w) hv hlen hc w0 w64
    have fl : (fieldN z w (min len 60)).length = w * w := fieldN_len _ _ _
    have fc := fieldN_count z w (min len 60)
    generalize fieldN z w (min len 60) = fd at *
    by_cases hj : 0 ≤ Ji ∧ Ji ≤ (m : Int) - 2
    · obtain ⟨j, rfl⟩ : ∃ j : Nat, Ji = j := ⟨Ji.toNat, by omega⟩
      have hj2 : j ≤ m - 2 := by omega
      have ul := cellU_len (b := b) (l := l) (j := j) m4 m6 hw (by rw [fl]) (by omega)
      have i0 : Inv 20000 (cellU b l m w (fun i => fd.getD i false) j) [] := inv_nil ul (by omega)
      obtain ⟨⟨o1, o2, o3⟩, o4, o5, o6⟩ := cells_out (b := b) (l := l) (j := j) m4 m6 hw wq fl hj2
      have hU : ∀ t, (t ∈ laidNew m w (fun i => fd.getD i false) (w * w) ∨ t ∈ T.growNew b l (m - 4) (laidT m w (fun i => fd.getD i false) (w * w)) j ∨ t = T.ctr (laidT m w (fun i => fd.getD i false) (w * w)).k0 (laidT m w (fun i => fd.getD i false) (w * w)).k1 (laidT m w (fun i => fd.getD i false) (w * w)).k2 (laidT m w (fun i => fd.getD i false) (w * w)).k3) → t ∈ cellU b l m w (fun i => fd.getD i false) j := fun t ht => by
        unfold cellU
        simpa only [List.mem_append, List.mem_cons, List.not_mem_nil, or_false] using ht
      generalize cellU b l m w (fun i => fd.getD i false) j = U at *
      obtain ⟨i1, m1⟩ := laid_goods (fun i => fd.getD i false) i0 (by omega) (by omega) hw (w * w) (Nat.le_refl _) (fun t ht => hU t (.inl ht))
      have hlaid := fun s bo => laid_is (s := s) (bo := bo) i0 (by omega) (by omega) hw fl (fun t ht => hU t (.inl ht))
      obtain ⟨bl1, bo1⟩ := laidT_lev (fun i => fd.getD i false) (by omega) hw (w * w) (Nat.le_refl _)
      have S1 : Step 20000 U [] (puts [] (laidNew m w (fun i => fd.getD i false) (w * w))) := ⟨puts_pre _ _, i1⟩
      generalize laidT m w (fun i => fd.getD i false) (w * w) = B at *
      generalize puts [] (laidNew m w (fun i => fd.getD i false) (w * w)) = ts1 at *
      have j1 := is_num m1
      generalize num ts1 B = id at *
      have yl : B.lev = m - 4 + 4 := by omega
      have hca : CellsAt (fd.map Value.bool).toArray fd (w * w) := fun i hi => by
        have e : 0 + i * 1 = i := by omega
        have hlt : i < fd.length := by omega
        rw [e]
        simp only [List.getElem?_map, List.getD_eq_getElem?_getD, List.getElem?_eq_getElem hlt]
        rfl
      repeat' first
        | (show W _ _ _ _ _ (_ :: _) _ _ _; first
          | refine W.call0 (May_ok hr) rfl rfl rfl ?_
          | refine W.not rfl rfl rfl ?_
          | refine W.remE rfl rfl rfl rfl (by omega) (by omega) f1 ?_
          | refine W.pure rfl rfl rfl rfl ?_
          | refine W.ldV rfl rfl rfl rfl rfl rfl ?_
          | refine W.binE rfl rfl rfl rfl (by assumption) ?_
          | refine W.convE rfl rfl rfl (by assumption) ?_
          | refine W.shlE rfl rfl rfl rfl (by omega) (by assumption) ?_
          | refine W.fieldAddr0 rfl rfl rfl rfl rfl ?_
          | refine W.ldaV rfl rfl rfl rfl rfl rfl ?_
          | refine W.boxA rfl rfl rfl (fun bq => ?_))
        | refine W.nil ?_
        | refine J.reg ?_
        | refine J.seq ?_
        | refine J.condF rfl ?_
        | refine J.skip ?_
      refine W.call (QNew_is (room := 20000) (by omega) (by omega)) (ks := []) rfl rfl rfl rfl fun v N hh => ?_
      obtain ⟨s, rfl, rfl⟩ := hh
      simp only [List.cons_append, List.nil_append]
      repeat' first
        | refine W.pure rfl rfl rfl rfl ?_
        | refine W.ldaV rfl rfl rfl rfl rfl rfl ?_
        | refine W.nil ?_
        | refine J.reg ?_
        | refine J.seq ?_
      refine W.call (GNew_is (s := s) hr (okG b l [])) (ks := []) rfl rfl rfl rfl fun v N hh => ?_
      obtain ⟨g, rfl, rfl⟩ := hh
      simp only [List.cons_append, List.nil_append]
      repeat' first
        | (show W _ _ _ _ _ (_ :: _) _ _ _; first
          | refine W.pure rfl rfl rfl rfl ?_
          | refine W.neIfNilT rfl rfl rfl ?_
          | refine W.eqPtNil rfl rfl rfl ?_)
        | refine W.nil ?_
        | refine J.reg ?_
        | refine J.seq ?_
        | refine J.condF rfl ?_
        | refine J.skip ?_
      refine W.call hf (ks := [bl]) rfl rfl rfl rfl fun v N hh => ?_
      obtain ⟨bo, rfl, rfl⟩ := hh
      simp only [List.cons_append, List.nil_append]
      repeat' first
        | refine W.pure rfl rfl rfl rfl ?_
        | refine W.nil ?_
      repeat' first
        | refine J.seq ?_
      refine J.reg ?_
      repeat' first
        | refine W.call2 (hlaid s bo) rfl rfl rfl ?_
        | refine W.pure rfl rfl rfl rfl ?_
        | refine W.nil ?_
      refine J.weakG (g := g) S1.pre ?_
      repeat' first
        | (show W _ _ _ _ _ (_ :: _) _ _ _; first
          | refine W.gk (Grow_is hr i1 j1 yl rfl (by omega) (fun t ht => hU t (.inr (.inl ht)))) rfl rfl rfl (fun ts2 o n2 S2 j2 z2 => ?_)
          | refine W.wk (Center_is S2.inv (j1.mono S2.pre) (by omega) (hU _ (.inr (.inr rfl)))) rfl rfl rfl (fun ts3 e S3 j3 => ?_)
          | refine W.pure rfl rfl rfl rfl ?_
          | refine W.ldV rfl rfl rfl rfl rfl rfl ?_
          | refine W.cmpF rfl rfl rfl rfl (by simp only [cmpN]; first | done | omega) ?_
          | refine W.fieldAddr0 rfl rfl rfl rfl rfl ?_
          | refine W.sub64 rfl rfl rfl rfl (by omega) ?_
          | refine W.ldaV rfl rfl rfl rfl rfl rfl ?_
          | refine W.eqIfNilT rfl rfl rfl ?_)
        | refine W.nil ?_
        | refine J.reg ?_
        | refine J.seq ?_
        | refine J.condF rfl ?_
        | refine J.skip ?_
      refine W.call (RGrow_is (b := b) (l := l) (k := m) (j := j) (w := w) (q := q) (L := fd) hb hl m6 hw (by omega) wq q0 hca) (ks := [bo]) rfl rfl rfl rfl fun v N hh => ?_
      obtain ⟨b2, cap2, c2, ⟨rfl, hc2⟩, rfl⟩ := hh
      refine W.n2 ?_
      have h1 := has_is (s := s) (bm := b2) (cap := cap2) (T0 := 4) (fz := (0, 0)) S3.inv (j2.mono S3.pre) o1 (by omega) w2 (midL_len _ _ _) o2 o3 hc2
      repeat' first
        | (show W _ _ _ _ _ (_ :: _) _ _ _; first
          | refine W.quoE rfl rfl rfl rfl (by omega) (by omega) f5 (by omega) ?_
          | refine W.call2 h1 rfl rfl rfl ?_
          | refine W.pure rfl rfl rfl rfl ?_)
      refine W.call (Mid_is (w := w) (q := q) (L := fd) wq q0 w64 hca) (ks := [bo]) rfl rfl rfl rfl fun v N hh => ?_
      obtain ⟨b3, cap3, c3, ⟨rfl, hc3⟩, rfl⟩ := hh
      refine W.n2 ?_
      have h2 := has_is (s := s) (bm := b3) (cap := cap3) (T0 := 4) (fz := (0, 0)) S3.inv j3 o4 (by omega) w2 (midL_len _ _ _) o5 o6 hc3
      repeat' first
        | (show W _ _ _ _ _ (_ :: _) _ _ _; first
          | refine W.quoE rfl rfl rfl rfl (by omega) (by omega) f5 (by omega) ?_
          | refine W.call2 h2 rfl rfl rfl ?_
          | refine W.call0 sure_is rfl rfl rfl ?_
          | refine W.pure rfl rfl rfl rfl ?_)
        | refine W.nil ?_
      exact J.retF [bl, 0] (res1 rfl rfl) rfl
    · have ul := cellU_len (b := b) (l := l) (j := 0) m4 m6 hw (by rw [fl]) (by omega)
      have i0 : Inv 20000 (cellU b l m w (fun i => fd.getD i false) 0) [] := inv_nil ul (by omega)
      have hU : ∀ t, (t ∈ laidNew m w (fun i => fd.getD i false) (w * w)) → t ∈ cellU b l m w (fun i => fd.getD i false) 0 := fun t ht => by
        unfold cellU
        exact List.mem_append_left _ ht
      generalize cellU b l m w (fun i => fd.getD i false) 0 = U at *
      obtain ⟨i1, m1⟩ := laid_goods (fun i => fd.getD i false) i0 (by omega) (by omega) hw (w * w) (Nat.le_refl _) (fun t ht => hU t ht)
      have hlaid := fun s bo => laid_is (s := s) (bo := bo) i0 (by omega) (by omega) hw fl (fun t ht => hU t ht)
      obtain ⟨bl1, bo1⟩ := laidT_lev (fun i => fd.getD i false) (by omega) hw (w * w) (Nat.le_refl _)
      have S1 : Step 20000 U [] (puts [] (laidNew m w (fun i => fd.getD i false) (w * w))) := ⟨puts_pre _ _, i1⟩
      generalize laidT m w (fun i => fd.getD i false) (w * w) = B at *
      generalize puts [] (laidNew m w (fun i => fd.getD i false) (w * w)) = ts1 at *
      have j1 := is_num m1
      generalize num ts1 B = id at *
      repeat' first
        | (show W _ _ _ _ _ (_ :: _) _ _ _; first
          | refine W.call0 (May_ok hr) rfl rfl rfl ?_
          | refine W.not rfl rfl rfl ?_
          | refine W.remE rfl rfl rfl rfl (by omega) (by omega) f1 ?_
          | refine W.pure rfl rfl rfl rfl ?_
          | refine W.ldV rfl rfl rfl rfl rfl rfl ?_
          | refine W.binE rfl rfl rfl rfl (by assumption) ?_
          | refine W.convE rfl rfl rfl (by assumption) ?_
          | refine W.shlE rfl rfl rfl rfl (by omega) (by assumption) ?_
          | refine W.fieldAddr0 rfl rfl rfl rfl rfl ?_
          | refine W.ldaV rfl rfl rfl rfl rfl rfl ?_
          | refine W.boxA rfl rfl rfl (fun bq => ?_))
        | refine W.nil ?_
        | refine J.reg ?_
        | refine J.seq ?_
        | refine J.condF rfl ?_
        | refine J.skip ?_
      refine W.call (QNew_is (room := 20000) (by omega) (by omega)) (ks := []) rfl rfl rfl rfl fun v N hh => ?_
      obtain ⟨s, rfl, rfl⟩ := hh
      simp only [List.cons_append, List.nil_append]
      repeat' first
        | refine W.pure rfl rfl rfl rfl ?_
        | refine W.ldaV rfl rfl rfl rfl rfl rfl ?_
        | refine W.nil ?_
        | refine J.reg ?_
        | refine J.seq ?_
      refine W.call (GNew_is (s := s) hr (okG b l [])) (ks := []) rfl rfl rfl rfl fun v N hh => ?_
      obtain ⟨g, rfl, rfl⟩ := hh
      simp only [List.cons_append, List.nil_append]
      repeat' first
        | (show W _ _ _ _ _ (_ :: _) _ _ _; first
          | refine W.pure rfl rfl rfl rfl ?_
          | refine W.neIfNilT rfl rfl rfl ?_
          | refine W.eqPtNil rfl rfl rfl ?_)
        | refine W.nil ?_
        | refine J.reg ?_
        | refine J.seq ?_
        | refine J.condF rfl ?_
        | refine J.skip ?_
      refine W.call hf (ks := [bl]) rfl rfl rfl rfl fun v N hh => ?_
      obtain ⟨bo, rfl, rfl⟩ := hh
      simp only [List.cons_append, List.nil_append]
      repeat' first
        | refine W.pure rfl rfl rfl rfl ?_
        | refine W.nil ?_
      repeat' first
        | refine J.seq ?_
      refine J.reg ?_
      repeat' first
        | refine W.call2 (hlaid s bo) rfl rfl rfl ?_
        | refine W.pure rfl rfl rfl rfl ?_
        | refine W.nil ?_
      refine J.weakG (g := g) S1.pre ?_
      have hbad := Grow_bad (g := g) (s := s) (room := 20000) (b := b) (l := l) (n := 0) (j := Ji) j1 (by omega) (by omega) (by omega)
      by_cases h0 : Ji < 0
      · repeat' first
          | (show W _ _ _ _ _ (_ :: _) _ _ _; first
            | refine W.call2 hbad rfl rfl rfl ?_
            | refine W.call1 n1 rfl rfl rfl ?_
            | refine W.call0 sure_is rfl rfl rfl ?_
            | refine W.pure rfl rfl rfl rfl ?_
            | refine W.ldV rfl rfl rfl rfl rfl rfl ?_
            | refine W.cmpT rfl rfl rfl rfl (by simp only [cmpP]; first | done | omega) ?_
            | refine W.fieldAddr0 rfl rfl rfl rfl rfl ?_
            | refine W.skip rfl rfl ?_)
          | refine W.nil ?_
          | refine J.reg ?_
          | refine J.seq ?_
          | refine J.condT rfl ?_
        exact J.retF [bl, 0] (res1 rfl rfl) rfl
      · repeat' first
          | (show W _ _ _ _ _ (_ :: _) _ _ _; first
            | refine W.call2 hbad rfl rfl rfl ?_
            | refine W.call1 n1 rfl rfl rfl ?_
            | refine W.call0 sure_is rfl rfl rfl ?_
            | refine W.pure rfl rfl rfl rfl ?_
            | refine W.ldV rfl rfl rfl rfl rfl rfl ?_
            | refine W.cmpT rfl rfl rfl rfl (by simp only [cmpP]; first | done | omega) ?_
            | refine W.cmpF rfl rfl rfl rfl (by simp only [cmpN]; first | done | omega) ?_
            | refine W.fieldAddr0 rfl rfl rfl rfl rfl ?_
            | refine W.sub64 rfl rfl rfl rfl (by omega) ?_)
          | refine W.nil ?_
          | refine J.reg ?_
          | refine J.seq ?_
          | refine J.condT rfl ?_
        exact J.retF [bl, 0] (res1 rfl rfl) rfl
  · repeat' first
      | (show W _ _ _ _ _ (_ :: _) _ _ _; first
        | refine W.call0 (May_no hr) rfl rfl rfl ?_
        | refine W.not rfl rfl rfl ?_
        | refine W.call0 sure_is rfl rfl rfl ?_
        | refine W.pure rfl rfl rfl rfl ?_
        | refine W.ldaV rfl rfl rfl rfl rfl rfl ?_
        | refine W.boxA rfl rfl rfl (fun bq => ?_))
      | refine W.nil ?_
      | refine J.reg ?_
      | refine J.seq ?_
      | refine J.condT rfl ?_
    exact J.retF [bl, 0] (res1 rfl rfl) rfl
end Go.Proofs.YtphnadpmpcifoaaDoor
namespace Go.Proofs.YtphnadpmpcifoaaDoor
open Go.Sq Go.Qm Go.ChangeShapes Go.WideShapes Go.ChangeAt Go.RowKit Go.Joins

theorem laid_et : Tryd.prog.globalNamed "errors.errorType" = some 0 := by kernel_rfl
theorem laid_rt : (Tryd.prog.cutTypes.find? (·.1 == "internal/reflectlite.rtype")).map (·.2) = some 132 := by kernel_rfl
theorem laid_oneRow : ((List.range 181).filter fun t => Tryd.prog.rowNamed t [101, 114, 114, 111, 114]) = [27] := by kernel_rfl
theorem laid_size : Tryd.prog.types.size = 181 := by kernel_rfl
theorem handle_of_laid {W : World} (h : laidMetH Tryd.prog [("errors.errorType", Rows.laid_errors_errorType)] W) : W.var? Tryd.prog "errors.errorType" = some #[rty 27] := by
  have h' : laidMet Tryd.prog [] W ∧ handlesMet Tryd.prog [("errors.errorType", Rows.laid_errors_errorType)] W := h
  obtain ⟨name, u, ty, e1, e2, e3, e4, e5⟩ := h'.2 _ (List.mem_singleton.2 rfl)
  have en : name = [101, 114, 114, 111, 114] := (Option.some.inj e1).symm
  subst en
  obtain rfl := Option.some.inj (laid_rt.symm.trans e2)
  have hm : ty ∈ (List.range 181).filter fun t => Tryd.prog.rowNamed t [101, 114, 114, 111, 114] := List.mem_filter.2 ⟨List.mem_range.2 (by rw [← laid_size]; exact e3), e4⟩
  rw [laid_oneRow] at hm
  obtain rfl := List.mem_singleton.1 hm
  have hh : typeHandle Tryd.prog 27 = hdl 27 := by kernel_rfl
  rw [hh] at e5
  exact e5
theorem block_of_laid {W : World} (h : W.var? Tryd.prog "errors.errorType" = some #[rty 27]) : ∃ T fz, W.heap[0]? = some (.cells #[rty 27] T fz) := by
  unfold World.var? at h
  rw [laid_et] at h
  simp only [Option.bind_some] at h
  split at h
  · rename_i cs T fz hb
    simp only [Option.some.injEq] at h
    subst h
    exact ⟨T, fz, hb⟩
  · cases h
noncomputable def laidWorld (os : Os) : World :=
  let w0 := World.holding Tryd.prog os ⟨#[], #[], []⟩
  { w0 with heap := w0.heap.modify 0 fun
      | .cells _ t frozen => .cells #[rty 27] t frozen
      | o => o }
theorem laidWorld_met (os : Os) (args : Array Value) : laidMetH Tryd.prog [("errors.errorType", Rows.laid_errors_errorType)] ((laidWorld os).forCall (fun _ _ => 0) ⟨#[], args, []⟩).memory :=
  laidMetH_of_parts (laidMet_nil _ _) (by kernel_rfl)

set_option maxRecDepth 100000 in
theorem growCells_lifted (os : Os) (started : os.Started) (H : Type) (enc : TypeId × Value → H) :
    ReturnsInHanded {} Tryd.checked os 4 .any (fun w args => (Rows.growCellsSpec.pre enc Tryd.prog Tryd.f4 [] false w args ∧ laidMetH Tryd.prog [("errors.errorType", Rows.laid_errors_errorType)] w) ∧ sizedMet enc Tryd.prog Tryd.f4 (OpenSpec.ofChange Rows.growCellsSpec) false w args)
      (Rows.growCellsSpec.post enc Tryd.prog Tryd.f4 false true false false) := by
  refine returnsInHanded_of_change_and (C := Tryd.checked) (X := fun w _ => laidMetH Tryd.prog [("errors.errorType", Rows.laid_errors_errorType)] w) (fun _ _ _ hh h => h.of_heap hh) own started (by kernel_rfl) Tryd.func4
    (ChangeSpec.witness_at (enc := enc) (C := Tryd.checked) (os := os) (X := fun w _ => laidMetH Tryd.prog [("errors.errorType", Rows.laid_errors_errorType)] w) false (laidWorld os) #[.agg #[.int .u16 0, .int .u16 0], .slice none 0 0, .agg #[.int .i64 0, .int .i64 0]] 8 rfl (by kernel_rfl) (by kernel_rfl) (by kernel_rfl) (by kernel_rfl) (by kernel_rfl) (laidWorld_met os _)) ?_
  intro W base args ds gs before hval0 hW _ _ hL _
  have hval : ∀ (j : Nat) t v, Tryd.f4.params[j]? = some t → args[j]? = some v → Value.okWide Tryd.prog W .any base t v := hval0
  have hW' := hW
  obtain ⟨p, q, hA0, hV, rfl, hfz, hnd⟩ := hW
  have hA : DataW.TrodAll enc Tryd.prog W 0 (fun _ => true) true Tryd.f4.params.toList args.toList ds p := hA0
  rw [Tryd.params4] at hA hval
  obtain ⟨v0, v1, v2, d0, d1, d2, p0, p1, p2, rfl, rfl, rfl, h0, h1, h2⟩ := trodAll_three hA
  obtain ⟨rfl, rfl⟩ := trodVars_none hV
  have k0 := h0
  have k1 := h1
  have k2 := h2
  obtain ⟨c00, c01, y00, y01, _, rfl, rfl, rfl, hy00, hy01⟩ := open_agg2 Tryd.underlying24 (by kernel_rfl) (by kernel_rfl) (hval 0 24 v0 rfl rfl) h0
  obtain ⟨rb, eb, rfl, wb⟩ := DataW.trod_int Tryd.underlying22 hy00
  obtain ⟨rl, el, rfl, wl⟩ := DataW.trod_int Tryd.underlying22 hy01
  simp at eb el
  subst eb el
  obtain ⟨b, rfl, hb⟩ := u16_open wb
  obtain ⟨l, rfl, hl⟩ := u16_open wl
  obtain ⟨av, len, cap, bl, off, c, T0, fz, z, rfl, hv, hlen, hc, hblk⟩ := slice_open (hval 1 45 v1 rfl rfl) h1
  obtain ⟨c20, c21, y20, y21, _, rfl, rfl, rfl, hy20, hy21⟩ := open_agg2 Tryd.underlying47 (by kernel_rfl) (by kernel_rfl) (hval 2 47 v2 rfl rfl) h2
  obtain ⟨x20, e20, rfl, w20⟩ := DataW.trod_int Tryd.underlying3 hy20
  obtain ⟨x21, e21, rfl, w21⟩ := DataW.trod_int Tryd.underlying3 hy21
  simp at e20 e21
  subst e20 e21
  clear hA0 hval0
  simp only [List.append_nil] at hW'
  have hlt := hW'.lt
  have hvar := handle_of_laid hL
  obtain ⟨Tg, fg, hblk0⟩ := block_of_laid hvar
  have hcg : (#[rty 27] : Array Value).toList[0]? = some (rty 27) := rfl
  have hne := not_var hblk hblk0 hc rfl
  have h9 := growCells_is (K := x20) (Ji := x21) (cap := cap) (T0 := T0) (fz := fz) (Tg := Tg) (fg := fg) hb hl hv hlen hc hcg
  refine (h9 (strOf W) [(0, restX W len bl)] W (sat_start2 hblk hblk0 hne)).mono fun e W' hh => ?_
  obtain ⟨v, N', ⟨rfl, rfl⟩, rfl, hs⟩ := hh
  have hbe := sat_end2 hblk hblk0 hne hs
  have st : ∀ {t : TypeId} {v : Value} {d : DataW H} {ps : List MemPlace} {sp : Nat → Bool}, Tryd.prog.readableRec t = true → t < Tryd.prog.types.size → DataW.Trod enc Tryd.prog W 0 (fun _ => true) true t v d ps → (∀ x ∈ ps, x.block < W.heap.size ∧ sp x.block = true) → DataW.Trod enc Tryd.prog W' 0 sp true t v d ps :=
    fun h1 h2 h3 h4 => WideElems.Trod_stays laidOut h1 h2 h3 (fun x hx => hbe.same (h4 x hx).1) (fun x hx => (h4 x hx).2)
  exact ⟨_, rfl, post_of_below (pv := []) hW' (fun _ _ _ => trodAll_mk1 (shut_bool Tryd.underlying4 _))
    (fun sp hsp => trodAll_mk3 (st (by kernel_rfl) (of_decide_eq_true (by kernel_rfl)) k0 (fun x hx => by simp at hx)) (st (by kernel_rfl) (of_decide_eq_true (by kernel_rfl)) k1 (fun x hx => ⟨hlt x (by simp [hx]), hsp x (by simp [hx])⟩)) (st (by kernel_rfl) (of_decide_eq_true (by kernel_rfl)) k2 (fun x hx => by simp at hx)))
    (fun _ _ => rfl) (by simp) hbe (ok_one (by kernel_rfl) rfl (okWide_bool_mk Tryd.underlying4 _))⟩

theorem growCells_row_holds : Rows.GrowCellsSaid :=
  OpenClaim.holds_of_wide 4 Tryd.f4 rfl rfl rfl rfl rfl rfl rfl ⟨rfl, rfl, rfl, rfl, rfl⟩ rfl rfl rfl rfl rfl (by kernel_rfl) Tryd.func4 (by kernel_rfl)
    (of_decide_eq_true (by kernel_rfl)) (by unfold Func.isWrapper; first | (rw [if_pos (by decide +kernel)]; kernel_rfl) | (rw [if_neg (by decide +kernel)]; exact ⟨rfl, rfl⟩))
    (fun os started H enc _ => growCells_lifted os started H enc)
theorem growCellsCard_holds : Rows.GrowCellsCardSaid :=
  Claim7.holds_tied_plain_at .later [] [.handle] true (true, "d95f7b977c0a207e38c62078eb0719dc4707dd34eae90be41a715110abd8c66d") true
    growCells_row_holds (fun _ h => by cases h) (by kernel_rfl) (fun _ h => by cases h) growCells_row_tie rfl ⟨rfl, rfl⟩ (by kernel_rfl) rfl
    (fun f fn hf hfn => by
      obtain rfl : f = 4 := Option.some.inj ((show Tryd.prog.funcNamed "quilt/quiltlaw12.GrowCells" = some 4 by kernel_rfl).symm.trans hf) |>.symm
      obtain rfl : fn = Tryd.f4 := (Option.some.inj (Tryd.func4.symm.trans hfn)).symm
      exact ⟨by kernel_rfl, fun j t ht => by
        rw [Tryd.params4] at ht
        have h3 : t = 24 ∨ t = 45 ∨ t = 47 := by
          rcases j with _ | _ | _ | j
          · left; simpa using ht.symm
          · right; left; simpa using ht.symm
          · right; right; simpa using ht.symm
          · simp at ht
        rcases h3 with rfl | rfl | rfl
        · exact (show Tryd.prog.wantsStandIn 24 = false by kernel_rfl)
        · exact (show Tryd.prog.wantsStandIn 45 = false by kernel_rfl)
        · exact (show Tryd.prog.wantsStandIn 47 = false by kernel_rfl)⟩)
    (by kernel_rfl)
#print axioms growCellsCard_holds
end Go.Proofs.YtphnadpmpcifoaaDoor
