/-
  Fields of a tile's rows: plain.
-/
import Derived.Test.YtphnadpmpcifoaaDoorTOps
namespace Go.Qm

/-- k rows of a tile laid into rows, so far to the right and down. -/
def layN (f : List Nat) (t x y : Nat) : Nat → List Nat
  | 0 => f
  | k + 1 => (layN f t x y k).set (y + k) ((layN f t x y k).getD (y + k) 0 ||| (t / 2 ^ (8 * k) % 256) * 2 ^ x)
def FldOk (f : List Nat) : Prop := f.length = 24 ∧ ∀ r ∈ f, r < 4294967296
theorem layN_len (f : List Nat) (t x y : Nat) : ∀ k, (layN f t x y k).length = f.length
  | 0 => rfl
  | k + 1 => by simp [layN, layN_len f t x y k]
theorem row_lt (t k : Nat) {x : Nat} (hx : x ≤ 24) : (t / 2 ^ (8 * k) % 256) * 2 ^ x < 4294967296 := by
  have h1 : t / 2 ^ (8 * k) % 256 < 256 := Nat.mod_lt _ (by omega)
  have h2 : 2 ^ x ≤ 2 ^ 24 := Nat.pow_le_pow_right (by omega) hx
  calc (t / 2 ^ (8 * k) % 256) * 2 ^ x ≤ 255 * 2 ^ 24 := Nat.mul_le_mul (by omega) h2
    _ < 4294967296 := by decide
theorem layN_ok {f : List Nat} (hf : FldOk f) (t : Nat) {x : Nat} (y : Nat) (hx : x ≤ 24) : ∀ k, FldOk (layN f t x y k)
  | 0 => hf
  | k + 1 => by
    have ih := layN_ok hf t y hx k
    refine ⟨by simp [layN, ih.1], fun r hr => ?_⟩
    simp only [layN] at hr
    rcases List.mem_or_eq_of_mem_set hr with hr | rfl
    · exact ih.2 r hr
    · refine Nat.or_lt_two_pow (n := 32) ?_ (row_lt t k hx)
      rw [List.getD_eq_getElem?_getD]
      cases h : (layN f t x y k)[y + k]? with
      | none => simp
      | some q => exact ih.2 q (List.mem_of_getElem? h)
end Go.Qm
