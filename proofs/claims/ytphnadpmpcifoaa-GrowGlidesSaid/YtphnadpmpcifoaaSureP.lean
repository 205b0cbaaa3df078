/-
  What 'sure' runs: a block: plain.
-/
import Derived.Test.YtphnadpmpcifoaaWide2
import Derived.Test.YtphnadpmpcifoaaLaid
namespace Go.Qm
def sureZ (i : Nat) : Nat := [455, 456, 519, 520].getD i 0
def sureF : List Bool := fieldN sureZ 32 4
def sureB : T := .node (.node (.leaf 9223372036854775808) (.leaf 72057594037927936) (.leaf 128) (.leaf 1)) (T.empty 1) (T.empty 1) (T.empty 1)
theorem sureB_eq : laidT 5 32 (fun i => sureF.getD i false) 1024 = sureB := by decide +kernel
theorem sureB_ok : sureB.ok := by
  refine ⟨⟨?_, ?_, ?_, ?_, rfl, rfl, rfl⟩, T.empty_ok 1, T.empty_ok 1, T.empty_ok 1, rfl, rfl, rfl⟩ <;> show (_ : Nat) < 18446744073709551616 <;> decide
theorem sureB_lev : sureB.lev = 5 := rfl
theorem sureB_many : sureB.many = 4 := by decide +kernel
theorem sureW_get : ∀ x, x < 64 → ∀ y, y < 64 → sureB.wide.get x y = blk 23 23 x y := by decide +kernel
theorem sureW : Shows sureB.wide (blk 23 23) 0 0 := by
  intro x y hx hy
  have e : sureB.wide.lev = 6 := (T.wide_ok sureB_ok).2
  rw [e] at hx hy
  rw [Int.zero_add, Int.zero_add]
  exact sureW_get x hx y hy
theorem sure_grow : T.grow 8 12 2 sureB.wide 4 = sureB := by
  have w := T.wide_ok sureB_ok
  have hl : sureB.wide.lev = 2 + 4 := w.2
  have g := T.grow_ok 8 12 2 _ 4 w.1 hl
  have s1 := grow_shows 8 12 2 _ 4 _ _ _ w.1 hl (by omega) sureW
  rw [blk_stays] at s1
  have k := T.kid_ok w.1 (by omega)
  have v := T.kid_lev w.1 (by omega)
  obtain ⟨a0, a1, a2, a3⟩ := shows_kids w.1 (by omega) sureW (w := 32) (by rw [hl])
  have v0 : sureB.wide.k0.lev = 5 := by have := v.1; omega
  have v1 : sureB.wide.k1.lev = 5 := by have := v.2.1; omega
  have v2 : sureB.wide.k2.lev = 5 := by have := v.2.2.1; omega
  have v3 : sureB.wide.k3.lev = 5 := by have := v.2.2.2; omega
  have s2 := ctr_shows (w := 32) (h := 16) k.1 k.2.1 k.2.2.1 k.2.2.2 (v1.trans v0.symm) (v2.trans v0.symm) (v3.trans v0.symm) (by rw [v0]) rfl a0 a1 a2 a3
  rw [ctr_wide sureB_ok] at s2
  exact shows_ext g.1 sureB_ok g.2 s1 s2
/-- All that sure makes. -/
def sureU : List T := laidNew 5 32 (fun i => sureF.getD i false) 1024 ++ T.wideNew sureB ++ [sureB] ++ T.growNew 8 12 2 sureB.wide 4
theorem sureU_len : sureU.length ≤ 500 := by
  have h1 := laidNew_len (m := 5) (w := 32) sureF (by omega) rfl (fieldN_len _ _ _) 1024 (Nat.le_refl _)
  have h2 : (sureF.take 1024).count true ≤ 4 := Nat.le_trans (List.Sublist.count_le _ (List.take_sublist _ _)) (fieldN_count sureZ 32 4)
  have h3 := growNew_len 8 12 2 sureB.wide 4
  have h4 : (T.wideNew sureB).length = 7 := rfl
  have h5 : most13 2 = 365 := rfl
  unfold sureU
  simp only [List.length_append, List.length_singleton]
  omega
end Go.Qm
