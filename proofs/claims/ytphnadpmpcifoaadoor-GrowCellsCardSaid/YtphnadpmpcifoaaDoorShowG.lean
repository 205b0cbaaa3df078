/-
  What goes on shows what comes of the plane: plain.
-/
import Derived.Test.YtphnadpmpcifoaaDoorShow
namespace Go.Qm
theorem get_leaf {t : T} (h : t.lev = 3) (x y : Nat) : t.get x y = t.cells.testBit (8 * y + x) := by
  cases t with
  | leaf _ => rfl
  | node a _ _ _ => have := a.lev_ge; simp [T.lev] at h; omega
theorem shows_leaf {t : T} {p : Plane} {ox oy : Int} (h : t.lev = 3) (hs : Shows t p ox oy) {x y : Nat} (hx : x < 8) (hy : y < 8) : t.cells.testBit (8 * y + x) = p (ox + x) (oy + y) := by
  rw [← get_leaf h, hs x y (by rw [h]; exact hx) (by rw [h]; exact hy)]
theorem tc_in {t x y X Y : Nat} (h : x ≤ X ∧ X < x + 8 ∧ y ≤ Y ∧ Y < y + 8) : tc t x y X Y = t.testBit (8 * (Y - y) + (X - x)) := by
  unfold tc; rw [decide_eq_true h, Bool.true_and]
theorem tc_out {t x y X Y : Nat} (h : ¬ (x ≤ X ∧ X < x + 8 ∧ y ≤ Y ∧ Y < y + 8)) : tc t x y X Y = false := by
  unfold tc; rw [decide_eq_false h, Bool.false_and]
/-- Four leaves show a plane: so does their field. -/
theorem four_shows {a b c d : T} {p : Plane} {ox oy : Int} (ha : a.lev = 3) (hb : b.lev = 3) (hc : c.lev = 3) (hd : d.lev = 3) (sa : Shows a p ox oy) (sb : Shows b p (ox + 8) oy) (sc : Shows c p ox (oy + 8)) (sd : Shows d p (ox + 8) (oy + 8))
    (x y : Nat) (hx : x < 16) (hy : y < 16) : fc (fourN a.cells b.cells c.cells d.cells) x y = p (ox + x) (oy + y) := by
  rw [fc_fourN]
  unfold fourC
  by_cases h1 : x < 8 <;> by_cases h2 : y < 8
  · rw [tc_in (x := 0) (y := 0) (by omega), tc_out (x := 8) (y := 0) (by omega), tc_out (x := 0) (y := 8) (by omega), tc_out (x := 8) (y := 8) (by omega)]
    simp only [Bool.or_false, Nat.sub_zero]
    exact shows_leaf ha sa h1 h2
  · rw [tc_out (x := 0) (y := 0) (by omega), tc_out (x := 8) (y := 0) (by omega), tc_in (x := 0) (y := 8) (by omega), tc_out (x := 8) (y := 8) (by omega)]
    simp only [Bool.or_false, Bool.false_or, Nat.sub_zero]
    rw [shows_leaf hc sc (x := x) (y := y - 8) h1 (by omega)]; congr 1; omega
  · rw [tc_out (x := 0) (y := 0) (by omega), tc_in (x := 8) (y := 0) (by omega), tc_out (x := 0) (y := 8) (by omega), tc_out (x := 8) (y := 8) (by omega)]
    simp only [Bool.or_false, Bool.false_or, Nat.sub_zero]
    rw [shows_leaf hb sb (x := x - 8) (y := y) (by omega) h2]; congr 1; omega
  · rw [tc_out (x := 0) (y := 0) (by omega), tc_out (x := 8) (y := 0) (by omega), tc_out (x := 0) (y := 8) (by omega), tc_in (x := 8) (y := 8) (by omega)]
    simp only [Bool.or_false, Bool.false_or, Nat.sub_zero]
    rw [shows_leaf hd sd (x := x - 8) (y := y - 8) (by omega) (by omega)]; congr 1 <;> omega
theorem genN_shows {b l : Nat} {f : List Nat} {p : Plane} {ox oy : Int} (h : ∀ x y : Nat, x < 16 → y < 16 → fc f x y = p (ox + x) (oy + y)) : ∀ (n x y : Nat), n ≤ x → x + n < 16 → n ≤ y → y + n < 16 → fc (genN b l f n) x y = gens b l p n (ox + x) (oy + y)
  | 0, x, y, _, h2, _, h4 => h x y (by omega) (by omega)
  | n + 1, x, y, h1, h2, h3, h4 => by
    have ih := genN_shows (b := b) (l := l) h n
    have e : fc (genN b l f (n + 1)) x y = nextC b l (genN b l f n) x y := by
      rw [genN, nextN, fc_fldOf]
      have : x < 32 ∧ y < 24 := by omega
      simp [this]
    have hin : 1 ≤ x ∧ x < 23 ∧ 1 ≤ y ∧ y < 23 := by omega
    rw [e, nextC]
    simp only [hin, and_self, decide_true, Bool.true_and]
    rw [gens]
    unfold gen nbrF nbr
    have ex : ((x - 1 : Nat) : Int) = (x : Int) - 1 := by omega
    have ey : ((y - 1 : Nat) : Int) = (y : Int) - 1 := by omega
    rw [ih x y (by omega) (by omega) (by omega) (by omega), ih (x - 1) (y - 1) (by omega) (by omega) (by omega) (by omega), ih x (y - 1) (by omega) (by omega) (by omega) (by omega), ih (x + 1) (y - 1) (by omega) (by omega) (by omega) (by omega),
      ih (x - 1) (y + 1) (by omega) (by omega) (by omega) (by omega), ih x (y + 1) (by omega) (by omega) (by omega) (by omega), ih (x + 1) (y + 1) (by omega) (by omega) (by omega) (by omega), ih (x - 1) y (by omega) (by omega) (by omega) (by omega), ih (x + 1) y (by omega) (by omega) (by omega) (by omega)]
    rw [ex, ey]
    have a1 : ox + ((x : Int) - 1) = ox + x - 1 := by omega
    have a2 : oy + ((y : Int) - 1) = oy + y - 1 := by omega
    have a3 : ox + ((x + 1 : Nat) : Int) = ox + x + 1 := by omega
    have a4 : oy + ((y + 1 : Nat) : Int) = oy + y + 1 := by omega
    rw [a1, a2, a3, a4]
theorem cut_shows {b l n : Nat} {f : List Nat} {p : Plane} {ox oy : Int} (h : ∀ x y : Nat, x < 16 → y < 16 → fc f x y = p (ox + x) (oy + y)) (hn : n ≤ 4) : Shows (.leaf (cutN (genN b l f n) 4 4 8)) (gens b l p n) (ox + 4) (oy + 4) := by
  intro x y hx hy
  have hx : x < 8 := by simpa only [T.lev] using hx
  have hy : y < 8 := by simpa only [T.lev] using hy
  simp only [T.get]
  rw [cutN_bit _ _ _ _ _ (Nat.le_refl 8), show (8 * y + x) % 8 = x from by omega, show (8 * y + x) / 8 = y from by omega]
  have : 8 * y + x < 8 * 8 := by omega
  simp only [this, decide_true, Bool.true_and]
  rw [genN_shows h n (4 + x) (4 + y) (by omega) (by omega) (by omega) (by omega)]
  congr 1 <;> omega
theorem ctr_shows {a b c d : T} {p : Plane} {ox oy : Int} {w h : Nat} (oa : a.ok) (ob : b.ok) (oc : c.ok) (od : d.ok) (e1 : b.lev = a.lev) (e2 : c.lev = a.lev) (e3 : d.lev = a.lev) (hw : w = 2 ^ a.lev) (hh : w = 2 * h)
    (sa : Shows a p ox oy) (sb : Shows b p (ox + w) oy) (sc : Shows c p ox (oy + w)) (sd : Shows d p (ox + w) (oy + w)) : Shows (T.ctr a b c d) p (ox + h) (oy + h) := by
  unfold T.ctr
  split
  · rename_i h3
    have h8 : w = 8 := by rw [hw, h3]
    have h4 : h = 4 := by omega
    subst h8; subst h4
    have := cut_shows (b := 0) (l := 0) (n := 0) (four_shows h3 (e1.trans h3) (e2.trans h3) (e3.trans h3) sa sb sc sd) (by omega)
    exact this
  · rename_i h3
    have := a.lev_ge
    have a4 : 4 ≤ a.lev := by omega
    have b4 : 4 ≤ b.lev := by omega
    have c4 : 4 ≤ c.lev := by omega
    have d4 : 4 ≤ d.lev := by omega
    have hp : h = 2 ^ (a.lev - 1) := by
      have : 2 ^ a.lev = 2 * 2 ^ (a.lev - 1) := by rw [show a.lev = a.lev - 1 + 1 from by omega, Nat.pow_succ]; simp; omega
      omega
    have va := (T.kid_lev oa a4).2.2.2
    have vb := (T.kid_lev ob b4).2.2.1
    have vc := (T.kid_lev oc c4).2.1
    have vd := (T.kid_lev od d4).1
    have ka := (shows_kids oa a4 sa hp).2.2.2
    have kb := (shows_kids ob b4 sb (w := h) (by rw [hp, e1])).2.2.1
    have kc := (shows_kids oc c4 sc (w := h) (by rw [hp, e2])).2.1
    have kd := (shows_kids od d4 sd (w := h) (by rw [hp, e3])).1
    have w1 : b.k2.lev = a.k3.lev := by omega
    have w2 : c.k1.lev = a.k3.lev := by omega
    have w3 : d.k0.lev = a.k3.lev := by omega
    have hq : 2 ^ a.k3.lev = h := by rw [hp]; congr 1; omega
    refine (shows_node w1 w2 w3).2 ?_
    rw [hq]
    refine ⟨ka, ?_, ?_, ?_⟩
    · rw [show ox + (h : Int) + (h : Int) = ox + (w : Int) from by omega]; exact kb
    · rw [show oy + (h : Int) + (h : Int) = oy + (w : Int) from by omega]; exact kc
    · rw [show ox + (h : Int) + (h : Int) = ox + (w : Int) from by omega, show oy + (h : Int) + (h : Int) = oy + (w : Int) from by omega]; exact kd
theorem two_pow (n : Nat) : 2 ^ (n + 1) = 2 * 2 ^ n := by rw [Nat.pow_succ]; omega
/-- What grow makes shows the plane, 2 ^ j generations on. -/
theorem grow_shows (b l : Nat) : ∀ (k : Nat) (t : T) (j : Nat) (p : Plane) (ox oy : Int), t.ok → t.lev = k + 4 → j ≤ k + 2 → Shows t p ox oy →
    Shows (T.grow b l k t j) (gens b l p (2 ^ j)) (ox + (2 ^ (k + 2) : Nat)) (oy + (2 ^ (k + 2) : Nat))
  | 0, t, j, p, ox, oy, ho, hl, hj, hs => by
    have hv := T.kid_lev ho (by omega)
    have k0 : t.k0.lev = 3 := by have := hv.1; omega
    have k1 : t.k1.lev = 3 := by have := hv.2.1; omega
    have k2 : t.k2.lev = 3 := by have := hv.2.2.1; omega
    have k3 : t.k3.lev = 3 := by have := hv.2.2.2; omega
    obtain ⟨s0, s1, s2, s3⟩ := shows_kids ho (by omega) hs (w := 8) (by rw [hl])
    have hp : 2 ^ j ≤ 2 ^ 2 := Nat.pow_le_pow_right (by omega) hj
    unfold T.grow
    exact cut_shows (four_shows k0 k1 k2 k3 s0 s1 s2 s3) hp
  | k + 1, t, j, p, ox, oy, ho, hl, hj, hs => by
    obtain ⟨w, hw⟩ : ∃ w, w = 2 ^ (k + 3) := ⟨_, rfl⟩
    obtain ⟨h, hh⟩ : ∃ h, h = 2 ^ (k + 2) := ⟨_, rfl⟩
    have hwh : w = 2 * h := by rw [hw, hh, two_pow]
    have gs := fun {y x : Nat} (hy : y < 4) (hx : x < 4) => shows_gr ho (by omega) hs (w := w) (by rw [hw, hl]; congr 1) hy hx
    have gl := fun y x => T.gr_ok ho (by omega) y x
    -- the nine
    have ns : ∀ i, i < 9 → Shows (T.nineN t i) p (ox + (i % 3 * w : Nat)) (oy + (i / 3 * w : Nat)) := fun i hi => by
      have v0 := gl (i / 3) (i % 3); have v1 := gl (i / 3) (i % 3 + 1); have v2 := gl (i / 3 + 1) (i % 3); have v3 := gl (i / 3 + 1) (i % 3 + 1)
      have f1 : (T.gr t (i / 3) (i % 3 + 1)).lev = (T.gr t (i / 3) (i % 3)).lev := by have := v0.2; have := v1.2; omega
      have f2 : (T.gr t (i / 3 + 1) (i % 3)).lev = (T.gr t (i / 3) (i % 3)).lev := by have := v0.2; have := v2.2; omega
      have f3 : (T.gr t (i / 3 + 1) (i % 3 + 1)).lev = (T.gr t (i / 3) (i % 3)).lev := by have := v0.2; have := v3.2; omega
      have fw : 2 ^ (T.gr t (i / 3) (i % 3)).lev = w := by rw [hw]; congr 1; have := v0.2; omega
      refine (shows_node f1 f2 f3).2 ?_
      rw [fw]
      have ex : ox + ((i % 3 * w : Nat) : Int) + (w : Int) = ox + (((i % 3 + 1) * w : Nat) : Int) := by rw [Nat.add_mul]; omega
      have ey : oy + ((i / 3 * w : Nat) : Int) + (w : Int) = oy + (((i / 3 + 1) * w : Nat) : Int) := by rw [Nat.add_mul]; omega
      rw [ex, ey]
      exact ⟨gs (by omega) (by omega), gs (by omega) (by omega), gs (by omega) (by omega), gs (by omega) (by omega)⟩
    have cs : ∀ i, i < 9 → Shows (T.nineC t i) p (ox + (i % 3 * w : Nat) + h) (oy + (i / 3 * w : Nat) + h) := fun i hi => by
      have v0 := gl (i / 3) (i % 3); have v1 := gl (i / 3) (i % 3 + 1); have v2 := gl (i / 3 + 1) (i % 3); have v3 := gl (i / 3 + 1) (i % 3 + 1)
      have f1 : (T.gr t (i / 3) (i % 3 + 1)).lev = (T.gr t (i / 3) (i % 3)).lev := by have := v0.2; have := v1.2; omega
      have f2 : (T.gr t (i / 3 + 1) (i % 3)).lev = (T.gr t (i / 3) (i % 3)).lev := by have := v0.2; have := v2.2; omega
      have f3 : (T.gr t (i / 3 + 1) (i % 3 + 1)).lev = (T.gr t (i / 3) (i % 3)).lev := by have := v0.2; have := v3.2; omega
      have fw : w = 2 ^ (T.gr t (i / 3) (i % 3)).lev := by rw [hw]; congr 1; have := v0.2; omega
      have ex : ox + ((i % 3 * w : Nat) : Int) + (w : Int) = ox + (((i % 3 + 1) * w : Nat) : Int) := by rw [Nat.add_mul]; omega
      have ey : oy + ((i / 3 * w : Nat) : Int) + (w : Int) = oy + (((i / 3 + 1) * w : Nat) : Int) := by rw [Nat.add_mul]; omega
      refine ctr_shows v0.1 v1.1 v2.1 v3.1 f1 f2 f3 fw hwh (gs (by omega) (by omega)) ?_ ?_ ?_
      · rw [ex]; exact gs (by omega) (by omega)
      · rw [ey]; exact gs (by omega) (by omega)
      · rw [ex, ey]; exact gs (by omega) (by omega)
    -- the first half
    obtain ⟨q, hq⟩ : ∃ q, q = (if j = k + 3 then gens b l p (2 ^ (j - 1)) else p) := ⟨_, rfl⟩
    have ms : ∀ i, i < 9 → Shows (T.mid b l k t j i) q (ox + (i % 3 * w : Nat) + h) (oy + (i / 3 * w : Nat) + h) := fun i hi => by
      unfold T.mid
      rw [hq]
      split
      · have n1 := T.nineN_ok ho (by omega) i
        have := grow_shows b l k _ (j - 1) p _ _ n1.1 (by have := n1.2; omega) (by omega) (ns i hi)
        rw [← hh] at this
        exact this
      · exact cs i hi
    have mo := T.mid_ok b l j ho (by omega : t.lev = k + 5)
    have mm : ∀ a c : Nat, a < 3 → c < 3 → Shows (T.mid b l k t j (a + c * 3)) q (ox + (a * w : Nat) + h) (oy + (c * w : Nat) + h) := fun a c ha hc => by
      have := ms (a + c * 3) (by omega)
      rw [show (a + c * 3) % 3 = a from by omega, show (a + c * 3) / 3 = c from by omega] at this
      exact this
    have qs : ∀ a c : Nat, a < 2 → c < 2 → Shows (.node (T.mid b l k t j (a + c * 3)) (T.mid b l k t j (a + c * 3 + 1)) (T.mid b l k t j (a + c * 3 + 3)) (T.mid b l k t j (a + c * 3 + 4))) q (ox + (a * w : Nat) + h) (oy + (c * w : Nat) + h) := fun a c ha hc => by
      have fw : 2 ^ (T.mid b l k t j (a + c * 3)).lev = w := by rw [hw, (mo _).2]
      refine (shows_node ((mo _).2.trans (mo _).2.symm) ((mo _).2.trans (mo _).2.symm) ((mo _).2.trans (mo _).2.symm)).2 ?_
      rw [fw]
      have ex : ox + ((a * w : Nat) : Int) + (h : Int) + (w : Int) = ox + (((a + 1) * w : Nat) : Int) + (h : Int) := by rw [Nat.add_mul]; omega
      have ey : oy + ((c * w : Nat) : Int) + (h : Int) + (w : Int) = oy + (((c + 1) * w : Nat) : Int) + (h : Int) := by rw [Nat.add_mul]; omega
      rw [ex, ey, show a + c * 3 + 1 = a + 1 + c * 3 from by omega, show a + c * 3 + 3 = a + (c + 1) * 3 from by omega, show a + c * 3 + 4 = a + 1 + (c + 1) * 3 from by omega]
      exact ⟨mm a c (by omega) (by omega), mm (a + 1) c (by omega) (by omega), mm a (c + 1) (by omega) (by omega), mm (a + 1) (c + 1) (by omega) (by omega)⟩
    -- the second half
    have hjj : T.jj k j ≤ k + 2 := by unfold T.jj; split <;> omega
    have hgg : gens b l q (2 ^ T.jj k j) = gens b l p (2 ^ j) := by
      rw [hq]
      unfold T.jj
      split
      · rename_i e
        rw [← gens_add]
        congr 1
        rw [e, show k + 3 - 1 = k + 2 from rfl, two_pow (k + 2)]; omega
      · rfl
    have os : ∀ i, i < 4 → Shows (T.out b l k t j i) (gens b l p (2 ^ j)) (ox + (i % 2 * w : Nat) + w) (oy + (i / 2 * w : Nat) + w) := fun i hi => by
      have qo := T.quad_ok mo i
      have := grow_shows b l k _ (T.jj k j) q _ _ qo.1 (by rw [qo.2]) hjj (qs (i % 2) (i / 2) (by omega) (by omega))
      rw [hgg, ← hh] at this
      rw [show ox + ((i % 2 * w : Nat) : Int) + (h : Int) + (h : Int) = ox + ((i % 2 * w : Nat) : Int) + (w : Int) from by omega, show oy + ((i / 2 * w : Nat) : Int) + (h : Int) + (h : Int) = oy + ((i / 2 * w : Nat) : Int) + (w : Int) from by omega] at this
      exact this
    have ol : ∀ i, (T.out b l k t j i).lev = k + 3 := fun i => (T.grow_ok b l k _ _ (T.quad_ok mo i).1 (T.quad_ok mo i).2).2
    have h0 := os 0 (by omega); have h1 := os 1 (by omega); have h2 := os 2 (by omega); have h3 := os 3 (by omega)
    simp only [Nat.zero_mod, Nat.zero_div, Nat.zero_mul, Nat.one_mod, Nat.one_mul, Nat.reduceMod, Nat.reduceDiv, Int.natCast_zero, Int.add_zero] at h0 h1 h2 h3
    rw [T.grow_succ]
    refine (shows_node ((ol 1).trans (ol 0).symm) ((ol 2).trans (ol 0).symm) ((ol 3).trans (ol 0).symm)).2 ?_
    rw [ol 0, ← hw]
    exact ⟨h0, h1, h2, h3⟩
end Go.Qm
