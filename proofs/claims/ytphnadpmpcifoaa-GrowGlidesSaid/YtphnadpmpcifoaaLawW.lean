/-
  What GrowWide says, plain.
-/
import Derived.Test.YtphnadpmpcifoaaWide2
import Derived.Test.YtphnadpmpcifoaaLaid
namespace Go.Qm
theorem grow_mem (b l : Nat) : ∀ (k : Nat) (t : T) (j : Nat), T.grow b l k t j ∈ T.growNew b l k t j
  | 0, _, _ => by simp [T.growNew]
  | k + 1, t, j => by simp [T.growNew]
theorem ctr_of {t : T} {p : Plane} {ox oy : Int} {h : Nat} {n : Nat} (ho : t.ok) (hl : t.lev = n + 4) (hh : h = 2 ^ (n + 2)) (hs : Shows t p ox oy) :
    (T.ctr t.k0 t.k1 t.k2 t.k3).ok ∧ (T.ctr t.k0 t.k1 t.k2 t.k3).lev = n + 3 ∧ Shows (T.ctr t.k0 t.k1 t.k2 t.k3) p (ox + h) (oy + h) := by
  have k := T.kid_ok ho (by omega)
  have v := T.kid_lev ho (by omega)
  obtain ⟨w, hw⟩ : ∃ w, w = 2 ^ (n + 3) := ⟨_, rfl⟩
  obtain ⟨a0, a1, a2, a3⟩ := shows_kids ho (by omega) hs (w := w) (by rw [hl]; exact hw)
  have v0 : t.k0.lev = n + 3 := by have := v.1; omega
  have v1 : t.k1.lev = t.k0.lev := by have := v.2.1; omega
  have v2 : t.k2.lev = t.k0.lev := by have := v.2.2.1; omega
  have v3 : t.k3.lev = t.k0.lev := by have := v.2.2.2; omega
  have c := T.ctr_ok k.1 k.2.1 k.2.2.1 k.2.2.2 v1 v2 v3
  exact ⟨c.1, c.2.trans v0, ctr_shows (w := w) (h := h) k.1 k.2.1 k.2.2.1 k.2.2.2 v1 v2 v3 (by rw [v0, hw]) (by rw [hw, hh, two_pow]) a0 a1 a2 a3⟩
/-- One generation on, from wide twice, the middle: from wide once. -/
theorem grow_mid (b l : Nat) {k : Nat} {t : T} (ho : t.ok) (hl : t.lev = k + 3) :
    T.ctr (T.grow b l (k + 1) t.wide.wide 0).k0 (T.grow b l (k + 1) t.wide.wide 0).k1 (T.grow b l (k + 1) t.wide.wide 0).k2 (T.grow b l (k + 1) t.wide.wide 0).k3 = T.grow b l k t.wide 0 := by
  have w1 := T.wide_ok ho
  have w2 := T.wide_ok w1.1
  have l1 : t.wide.lev = k + 4 := by rw [w1.2, hl]
  have l2 : t.wide.wide.lev = (k + 1) + 4 := by rw [w2.2, l1]
  have s2 := shows_self t.wide.wide
  have c2 := ctr_of w2.1 l2 rfl s2
  rw [ctr_wide w1.1] at c2
  have u := T.grow_ok b l (k + 1) _ 0 w2.1 l2
  have su := grow_shows b l (k + 1) _ 0 _ _ _ w2.1 l2 (by omega) s2
  have v := T.grow_ok b l k _ 0 w1.1 l1
  have sv := grow_shows b l k _ 0 _ _ _ w1.1 l1 (by omega) c2.2.2
  have cu := ctr_of u.1 (n := k) (by rw [u.2]) rfl su
  exact shows_ext cu.1 v.1 (cu.2.1.trans v.2.symm) cu.2.2 sv
theorem wideNew_len {t : T} (h : t.lev ≤ 40) : (T.wideNew t).length ≤ 42 := by
  unfold T.wideNew
  split
  · simp
  · simp only [List.length_append, List.length_cons, List.length_nil, emptyNew_len]; omega
/-- All that GrowWide makes. -/
def wideU (b l m : Nat) (c : Nat → Bool) : List T :=
  laidNew m (2 ^ m) c (2 ^ m * 2 ^ m) ++ (T.wideNew (laidT m (2 ^ m) c (2 ^ m * 2 ^ m)) ++ (T.wideNew (laidT m (2 ^ m) c (2 ^ m * 2 ^ m)).wide ++ ([laidT m (2 ^ m) c (2 ^ m * 2 ^ m), (laidT m (2 ^ m) c (2 ^ m * 2 ^ m)).wide] ++
    (T.growNew b l (m - 2) (laidT m (2 ^ m) c (2 ^ m * 2 ^ m)).wide.wide 0 ++ T.growNew b l (m - 3) (laidT m (2 ^ m) c (2 ^ m * 2 ^ m)).wide 0))))
theorem wideU_len {b l m : Nat} {f : List Bool} (h1 : 3 ≤ m) (h2 : m ≤ 6) (hl : f.length = 2 ^ m * 2 ^ m) (hc : f.count true ≤ 60) : (wideU b l m (fun i => f.getD i false)).length ≤ 30000 := by
  have a1 := laidNew_len (w := 2 ^ m) f h1 rfl hl (2 ^ m * 2 ^ m) (Nat.le_refl _)
  have a2 : (f.take (2 ^ m * 2 ^ m)).count true ≤ 60 := Nat.le_trans (List.Sublist.count_le _ (List.take_sublist _ _)) hc
  obtain ⟨b1, b2⟩ := laidT_lev (fun i => f.getD i false) h1 rfl (2 ^ m * 2 ^ m) (Nat.le_refl _)
  have w1 := T.wide_ok b2
  have a3 := wideNew_len (t := laidT m (2 ^ m) (fun i => f.getD i false) (2 ^ m * 2 ^ m)) (by omega)
  have a4 := wideNew_len (t := (laidT m (2 ^ m) (fun i => f.getD i false) (2 ^ m * 2 ^ m)).wide) (by omega)
  have a5 := growNew_len0 b l (m - 2) (laidT m (2 ^ m) (fun i => f.getD i false) (2 ^ m * 2 ^ m)).wide.wide
  have a6 := growNew_len0 b l (m - 3) (laidT m (2 ^ m) (fun i => f.getD i false) (2 ^ m * 2 ^ m)).wide
  have a7 : most4 (m - 2) ≤ 1446 ∧ most4 (m - 3) ≤ 1446 := by
    have : m = 3 ∨ m = 4 ∨ m = 5 ∨ m = 6 := by omega
    rcases this with rfl | rfl | rfl | rfl <;> decide
  have a8 : (m - 2) * ((f.take (2 ^ m * 2 ^ m)).count true + 1) ≤ 4 * 61 := Nat.mul_le_mul (by omega) (by omega)
  unfold wideU
  simp only [List.length_append, List.length_cons, List.length_nil]
  omega
end Go.Qm
