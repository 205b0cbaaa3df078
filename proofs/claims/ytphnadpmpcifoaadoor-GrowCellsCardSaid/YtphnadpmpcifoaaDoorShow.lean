/-
  What squares show of a plane of cells, and what goes on: plain.
-/
import Derived.Test.YtphnadpmpcifoaaDoorLife
import Derived.Test.YtphnadpmpcifoaaDoorWide
namespace Go.Qm
abbrev Plane := Int → Int → Bool
def nbr (p : Plane) (x y : Int) : Nat :=
  b2n (p (x - 1) (y - 1)) + b2n (p x (y - 1)) + b2n (p (x + 1) (y - 1)) + (b2n (p (x - 1) (y + 1)) + b2n (p x (y + 1)) + b2n (p (x + 1) (y + 1))) + (b2n (p (x - 1) y) + b2n (p (x + 1) y))
/-- One generation on. -/
def gen (b l : Nat) (p : Plane) : Plane := fun x y => nextB b l (p x y) (nbr p x y)
def gens (b l : Nat) (p : Plane) : Nat → Plane
  | 0 => p
  | n + 1 => gen b l (gens b l p n)
theorem gens_add (b l : Nat) (p : Plane) (m : Nat) : ∀ n, gens b l p (m + n) = gens b l (gens b l p m) n
  | 0 => rfl
  | n + 1 => by rw [← Nat.add_assoc, gens, gens, gens_add b l p m n]
/-- A square shows a plane's cells from a place on. -/
def Shows (t : T) (p : Plane) (ox oy : Int) : Prop := ∀ x y : Nat, x < 2 ^ t.lev → y < 2 ^ t.lev → t.get x y = p (ox + x) (oy + y)
/-- A square's own cells. -/
def planeOf (t : T) : Plane := fun x y => t.get x.toNat y.toNat
theorem shows_self (t : T) : Shows t (planeOf t) 0 0 := fun x y _ _ => by simp [planeOf]
theorem shows_node {a b c d : T} {p : Plane} {ox oy : Int} (e1 : b.lev = a.lev) (e2 : c.lev = a.lev) (e3 : d.lev = a.lev) :
    Shows (.node a b c d) p ox oy ↔ Shows a p ox oy ∧ Shows b p (ox + (2 ^ a.lev : Nat)) oy ∧ Shows c p ox (oy + (2 ^ a.lev : Nat)) ∧ Shows d p (ox + (2 ^ a.lev : Nat)) (oy + (2 ^ a.lev : Nat)) := by
  have hl : (2 : Nat) ^ (T.node a b c d).lev = 2 * 2 ^ a.lev := by simp only [T.lev, Nat.pow_succ]; omega
  constructor
  · intro h
    refine ⟨fun x y hx hy => ?_, fun x y hx hy => ?_, fun x y hx hy => ?_, fun x y hx hy => ?_⟩
    · have := h x y (by omega) (by omega)
      simp only [T.get, if_pos hx, if_pos hy] at this
      exact this
    · rw [e1] at hx hy
      have := h (2 ^ a.lev + x) y (by omega) (by omega)
      simp only [T.get, if_pos hy] at this
      rw [if_neg (by omega), show 2 ^ a.lev + x - 2 ^ a.lev = x from by omega] at this
      rw [this]; congr 1; omega
    · rw [e2] at hx hy
      have := h x (2 ^ a.lev + y) (by omega) (by omega)
      simp only [T.get, if_pos hx] at this
      rw [if_neg (by omega), show 2 ^ a.lev + y - 2 ^ a.lev = y from by omega] at this
      rw [this]; congr 1; omega
    · rw [e3] at hx hy
      have := h (2 ^ a.lev + x) (2 ^ a.lev + y) (by omega) (by omega)
      simp only [T.get] at this
      rw [if_neg (by omega), if_neg (by omega), show 2 ^ a.lev + y - 2 ^ a.lev = y from by omega, show 2 ^ a.lev + x - 2 ^ a.lev = x from by omega] at this
      rw [this]; congr 1 <;> omega
  · rintro ⟨h0, h1, h2, h3⟩ x y hx hy
    simp only [T.get]
    split <;> split
    · exact h0 x y ‹_› ‹_›
    · rw [h1 (x - 2 ^ a.lev) y (by rw [e1]; omega) (by rw [e1]; omega)]; congr 1; omega
    · rw [h2 x (y - 2 ^ a.lev) (by rw [e2]; omega) (by rw [e2]; omega)]; congr 1; omega
    · rw [h3 (x - 2 ^ a.lev) (y - 2 ^ a.lev) (by rw [e3]; omega) (by rw [e3]; omega)]; congr 1 <;> omega
theorem shows_ext : ∀ {t u : T} {p : Plane} {ox oy : Int}, t.ok → u.ok → t.lev = u.lev → Shows t p ox oy → Shows u p ox oy → t = u
  | .leaf n, .leaf m, p, ox, oy, h1, h2, _, hs, hr => by
    congr 1
    apply Nat.eq_of_testBit_eq
    intro i
    by_cases hi : i < 64
    · have a := hs (i % 8) (i / 8) (by show i % 8 < 8; omega) (by show i / 8 < 8; omega)
      have b := hr (i % 8) (i / 8) (by show i % 8 < 8; omega) (by show i / 8 < 8; omega)
      simp only [T.get] at a b
      rw [show 8 * (i / 8) + i % 8 = i from by omega] at a b
      rw [a, b]
    · have hp : (2 : Nat) ^ 64 ≤ 2 ^ i := Nat.pow_le_pow_right (by omega) (by omega)
      have e1 : n < 2 ^ 64 := h1
      have e2 : m < 2 ^ 64 := h2
      rw [Nat.testBit_lt_two_pow (Nat.lt_of_lt_of_le e1 hp), Nat.testBit_lt_two_pow (Nat.lt_of_lt_of_le e2 hp)]
  | .leaf n, .node a b c d, p, ox, oy, _, _, hl, _, _ => by have := a.lev_ge; simp [T.lev] at hl; omega
  | .node a b c d, .leaf n, p, ox, oy, _, _, hl, _, _ => by have := a.lev_ge; simp [T.lev] at hl; omega
  | .node a b c d, .node a' b' c' d', p, ox, oy, ⟨o1, o2, o3, o4, e1, e2, e3⟩, ⟨o1', o2', o3', o4', e1', e2', e3'⟩, hl, hs, hr => by
    simp only [T.lev] at hl
    have hl : a.lev = a'.lev := by omega
    obtain ⟨s0, s1, s2, s3⟩ := (shows_node e1 e2 e3).1 hs
    obtain ⟨r0, r1, r2, r3⟩ := (shows_node e1' e2' e3').1 hr
    rw [hl] at s1 s2 s3
    rw [shows_ext o1 o1' hl s0 r0, shows_ext o2 o2' (by rw [e1, e1', hl]) s1 r1, shows_ext o3 o3' (by rw [e2, e2', hl]) s2 r2, shows_ext o4 o4' (by rw [e3, e3', hl]) s3 r3]
/-- The four of a square show what they are. -/
theorem shows_kids {t : T} {p : Plane} {ox oy : Int} (ho : t.ok) (h : 4 ≤ t.lev) (hs : Shows t p ox oy) {w : Nat} (hw : w = 2 ^ (t.lev - 1)) :
    Shows t.k0 p ox oy ∧ Shows t.k1 p (ox + w) oy ∧ Shows t.k2 p ox (oy + w) ∧ Shows t.k3 p (ox + w) (oy + w) := by
  cases t with
  | leaf _ => simp [T.lev] at h
  | node a b c d =>
    obtain ⟨-, -, -, -, e1, e2, e3⟩ := ho
    have := (shows_node e1 e2 e3).1 hs
    simp only [T.lev, Nat.add_sub_cancel] at hw
    subst hw
    exact this
theorem shows_kid {t : T} {p : Plane} {ox oy : Int} (ho : t.ok) (h : 4 ≤ t.lev) (hs : Shows t p ox oy) {w : Nat} (hw : w = 2 ^ (t.lev - 1)) {y x : Nat} (hy : y < 2) (hx : x < 2) :
    Shows (t.kid y x) p (ox + (x * w : Nat)) (oy + (y * w : Nat)) := by
  obtain ⟨s0, s1, s2, s3⟩ := shows_kids ho h hs hw
  have c1 : y = 0 ∨ y = 1 := by omega
  have c2 : x = 0 ∨ x = 1 := by omega
  rcases c1 with rfl | rfl <;> rcases c2 with rfl | rfl
  · simpa [T.kid] using s0
  · simpa [T.kid] using s1
  · simpa [T.kid] using s2
  · simpa [T.kid] using s3
theorem shows_gr {t : T} {p : Plane} {ox oy : Int} (ho : t.ok) (h : 5 ≤ t.lev) (hs : Shows t p ox oy) {w : Nat} (hw : w = 2 ^ (t.lev - 2)) {y x : Nat} (hy : y < 4) (hx : x < 4) :
    Shows (t.gr y x) p (ox + (x * w : Nat)) (oy + (y * w : Nat)) := by
  have h1 := shows_kid ho (by omega) hs (w := 2 * w) (by rw [hw, show t.lev - 1 = t.lev - 2 + 1 from by omega, Nat.pow_succ]; omega) (y := y / 2) (x := x / 2) (by omega) (by omega)
  obtain ⟨k1, k2⟩ := T.kid_is ho (by omega) (y / 2) (x / 2)
  have h2 := shows_kid k1 (by omega) h1 (w := w) (by rw [hw]; congr 1; omega) (y := y % 2) (x := x % 2) (by omega) (by omega)
  have e : ∀ q : Nat, q / 2 * (2 * w) + q % 2 * w = q * w := fun q => by
    have : q = q / 2 * 2 + q % 2 := by omega
    conv => rhs; rw [this]
    rw [Nat.add_mul, Nat.mul_assoc]
  have ex : ox + ((x / 2 * (2 * w) : Nat) : Int) + ((x % 2 * w : Nat) : Int) = ox + ((x * w : Nat) : Int) := by rw [← e x]; omega
  have ey : oy + ((y / 2 * (2 * w) : Nat) : Int) + ((y % 2 * w : Nat) : Int) = oy + ((y * w : Nat) : Int) := by rw [← e y]; omega
  rw [ex, ey] at h2
  exact h2
end Go.Qm
