/-
  Bits of tiles: the calls of packages math/bits, tile (one cell, counting) and rule.
-/
import Derived.Test.YtphnadpmpcifoaaDoorTQuad
import Derived.Test.YtphnadpmpcifoaaDoorBits
namespace Go.Proofs.YtphnadpmpcifoaaDoor
open Go.Sq Go.Qm
attribute [local irreducible] SW J
set_option maxHeartbeats 4000000

abbrev u64v (x : Nat) : Value := .int .u64 (x : Int)
theorem OnesCount64_is {x : Nat} (hx : x < 18446744073709551616) : CallF P 49 [u64v x] [] (int (pop x)) [] := by
  refine callR_of Tryd.func49 rfl Tryd.ntmps49 rfl fun σ F => ?_
  repeat' first
    | (show W _ _ _ _ _ (_ :: _) _ _ _; first
      | refine W.pure rfl rfl rfl rfl ?_
      | refine W.bin rfl rfl rfl rfl rfl ?_
      | refine W.shr rfl rfl rfl rfl (by omega) ?_
      | refine W.conv rfl rfl rfl ?_)
    | refine W.nil ?_
    | refine J.reg ?_
    | refine J.seq ?_
  refine J.retF [] (res1 rfl rfl) ?_
  obtain ⟨h1, h2, h3, h4, h5⟩ := ones_ok hx
  have a1 : shrI .u64 x 1 = ((x / 2 : Nat) : Int) := shr_nat (c := 1) (by decide)
  have a2 : shrI .u64 (o1 x) 2 = ((o1 x / 4 : Nat) : Int) := shr_nat (c := 2) (by decide)
  have a3 : shrI .u64 (o2 (o1 x)) 4 = ((o2 (o1 x) / 16 : Nat) : Int) := shr_nat (c := 4) (by decide)
  have a4 : shrI .u64 (o3 (o2 (o1 x))) 8 = ((o3 (o2 (o1 x)) / 256 : Nat) : Int) := shr_nat (c := 8) (by decide)
  have a5 : shrI .u64 (o4 (o3 (o2 (o1 x)))) 16 = ((o4 (o3 (o2 (o1 x))) / 65536 : Nat) : Int) := shr_nat (c := 16) (by decide)
  have a6 : shrI .u64 (o5 (o4 (o3 (o2 (o1 x))))) 32 = ((o5 (o4 (o3 (o2 (o1 x)))) / 4294967296 : Nat) : Int) := shr_nat (c := 32) (by decide)
  have m1 : ∀ y : Nat, y < 18446744073709551616 → bitI .and .u64 y 6148914691236517205 = ((y &&& 6148914691236517205 : Nat) : Int) := fun y hy => and_u (b := 6148914691236517205) rfl hy (by decide)
  have m2 : ∀ y : Nat, y < 18446744073709551616 → bitI .and .u64 y 3689348814741910323 = ((y &&& 3689348814741910323 : Nat) : Int) := fun y hy => and_u (b := 3689348814741910323) rfl hy (by decide)
  have m3 : ∀ y : Nat, y < 18446744073709551616 → bitI .and .u64 y 1085102592571150095 = ((y &&& 1085102592571150095 : Nat) : Int) := fun y hy => and_u (b := 1085102592571150095) rfl hy (by decide)
  have m7 : ∀ y : Nat, y < 9223372036854775808 → bitI .and .i64 y 127 = ((y % 128 : Nat) : Int) := fun y hy => by
    have := and_i64 (a := y) (b := 127) hy (by decide)
    rw [show (127 : Nat) = 2 ^ 7 - 1 from rfl, Nat.and_two_pow_sub_one_eq_mod] at this
    exact this
  have ad : ∀ y z : Nat, y + z < 18446744073709551616 → IntKind.u64.wrap ((y : Int) + (z : Int)) = ((y + z : Nat) : Int) := fun y z h => by
    rw [← Int.natCast_add]; exact wrap_u (k := .u64) rfl h
  have wi : ∀ y : Nat, y < 9223372036854775808 → IntKind.i64.wrap (y : Int) = y := fun y hy => wrap_i64n hy
  have u1 : o1 x = (x / 2 &&& 6148914691236517205) + (x &&& 6148914691236517205) := rfl
  have u2 : o2 (o1 x) = (o1 x / 4 &&& 3689348814741910323) + (o1 x &&& 3689348814741910323) := rfl
  have u3 : o3 (o2 (o1 x)) = (o2 (o1 x) / 16 + o2 (o1 x)) &&& 1085102592571150095 := rfl
  have u4 : o4 (o3 (o2 (o1 x))) = o3 (o2 (o1 x)) + o3 (o2 (o1 x)) / 256 := rfl
  have u5 : o5 (o4 (o3 (o2 (o1 x)))) = o4 (o3 (o2 (o1 x))) + o4 (o3 (o2 (o1 x))) / 65536 := rfl
  have u6 : o6 (o5 (o4 (o3 (o2 (o1 x))))) = o5 (o4 (o3 (o2 (o1 x)))) + o5 (o4 (o3 (o2 (o1 x)))) / 4294967296 := rfl
  rw [a1, m1 _ (by omega), m1 _ hx, ad _ _ (by omega), ← u1, a2, m2 _ (by omega), m2 _ h1, ad _ _ (by omega), ← u2, a3, ad _ _ h3, m3 _ h3, ← u3, a4, ad _ _ (by omega), ← u4, a5, ad _ _ (by omega), ← u5, a6, ad _ _ (by omega), ← u6, wi _ (by omega), m7 _ (by omega), h5]
theorem Count_is {x : Nat} (hx : x < 18446744073709551616) : CallF P 32 [u64v x] [] (int (pop x)) [] := by
  refine callR_of Tryd.func32 rfl Tryd.ntmps32 rfl fun σ F => ?_
  repeat' first
    | refine W.pure rfl rfl rfl rfl ?_
    | refine W.nil ?_
    | refine J.reg ?_
    | refine J.seq ?_
  refine W.call0 (OnesCount64_is hx) rfl rfl rfl ?_
  repeat' first
    | refine W.pure rfl rfl rfl rfl ?_
    | refine W.nil ?_
  exact J.retF [] (res1 rfl rfl) rfl
theorem away_not {x y : Nat} (hx : x < 8) (hy : y < 8) : CallF P 63 [int x, int y] [] (.bool false) [] := by
  refine callR_of Tryd.func63 rfl Tryd.ntmps63 rfl fun σ F => ?_
  repeat' first
    | refine W.pure rfl rfl rfl rfl ?_
    | refine W.cmpF rfl rfl rfl rfl (by simp only [cmpN]; first | done | omega) ?_
    | refine W.nil ?_
    | refine J.reg ?_
    | refine J.seq ?_
  exact J.retF [] (res1 rfl rfl) rfl
theorem tGet_is {t x y : Nat} (ht : t < 18446744073709551616) (hx : x < 8) (hy : y < 8) : CallF P 52 [u64v t, int x, int y] [] (.tuple #[.bool (t.testBit (8 * y + x)), .nilIface]) [] := by
  refine callR_of Tryd.func52 rfl Tryd.ntmps52 rfl fun σ F => ?_
  repeat' first
    | refine W.pure rfl rfl rfl rfl ?_
    | refine W.nil ?_
    | refine J.reg ?_
    | refine J.seq ?_
  refine W.call0 (away_not hx hy) rfl rfl rfl ?_
  repeat' first
    | (show W _ _ _ _ _ (_ :: _) _ _ _; first
      | refine W.pure rfl rfl rfl rfl ?_
      | refine W.add64 rfl rfl rfl rfl (by omega) ?_
      | refine W.mul64 rfl rfl rfl rfl (by omega) ?_
      | refine W.bin rfl rfl rfl rfl rfl ?_
      | refine W.shr rfl rfl rfl rfl (by omega) ?_)
    | refine W.nil ?_
    | refine J.reg ?_
    | refine J.seq ?_
    | refine J.condF rfl ?_
    | refine J.skip ?_
  refine J.retF [] (res2 rfl rfl rfl) ?_
  have e : (8 : Int) * (y : Int) + (x : Int) = ((8 * y + x : Nat) : Int) := by omega
  rw [e, shr_nat (by show 8 * y + x ≤ 64; omega)]
  have e2 : bitI .and .u64 ((t / 2 ^ (8 * y + x) : Nat) : Int) 1 = ((t / 2 ^ (8 * y + x) &&& 1 : Nat) : Int) := and_u (k := .u64) (b := 1) rfl (Nat.lt_of_le_of_lt (Nat.div_le_self _ _) ht) (by decide)
  rw [e2, Nat.and_one_is_mod]
  have : ((((t / 2 ^ (8 * y + x) % 2 : Nat) : Int)) == 1) = t.testBit (8 * y + x) := by
    rw [Nat.testBit_eq_decide_div_mod_eq]
    by_cases h : t / 2 ^ (8 * y + x) % 2 = 1
    · simp [h]
    · have : t / 2 ^ (8 * y + x) % 2 = 0 := by omega
      simp [this]
  rw [this]
theorem tSet_is {t x y : Nat} (v : Bool) (ht : t < 18446744073709551616) (hx : x < 8) (hy : y < 8) : CallF P 51 [u64v t, int x, int y, .bool v] [] (.tuple #[u64v (setBit t (8 * y + x) v), .nilIface]) [] := by
  have e : (8 : Int) * (y : Int) + (x : Int) = ((8 * y + x : Nat) : Int) := by omega
  have hp : 2 ^ (8 * y + x) < 2 ^ 64 := Nat.pow_lt_pow_right (by omega) (by omega)
  have e1 : shlI .u64 1 ((8 * y + x : Nat) : Int) = ((1 * 2 ^ (8 * y + x) : Nat) : Int) := shl_u (k := .u64) (a := 1) rfl (by show 8 * y + x ≤ 64; omega) (by rw [Nat.one_mul]; exact hp)
  refine callR_of Tryd.func51 rfl Tryd.ntmps51 rfl fun σ F => ?_
  cases v
  · repeat' first
      | refine W.pure rfl rfl rfl rfl ?_
      | refine W.nil ?_
      | refine J.reg ?_
      | refine J.seq ?_
    refine W.call0 (away_not hx hy) rfl rfl rfl ?_
    repeat' first
      | (show W _ _ _ _ _ (_ :: _) _ _ _; first
        | refine W.pure rfl rfl rfl rfl ?_
        | refine W.add64 rfl rfl rfl rfl (by omega) ?_
        | refine W.mul64 rfl rfl rfl rfl (by omega) ?_
        | refine W.bin rfl rfl rfl rfl rfl ?_
        | refine W.shl rfl rfl rfl rfl (by omega) ?_)
      | refine W.nil ?_
      | refine J.reg ?_
      | refine J.seq ?_
      | refine J.condF rfl ?_
      | refine J.skip ?_
    refine J.retF [] (res2 rfl rfl rfl) ?_
    first
    | rw [e, e1, Nat.one_mul, or_u (k := .u64) rfl ht hp]; rfl
    | rw [e, e1, Nat.one_mul, andNot_u (k := .u64) rfl ht hp]; rfl
  · repeat' first
      | refine W.pure rfl rfl rfl rfl ?_
      | refine W.nil ?_
      | refine J.reg ?_
      | refine J.seq ?_
    refine W.call0 (away_not hx hy) rfl rfl rfl ?_
    repeat' first
      | (show W _ _ _ _ _ (_ :: _) _ _ _; first
        | refine W.pure rfl rfl rfl rfl ?_
        | refine W.add64 rfl rfl rfl rfl (by omega) ?_
        | refine W.mul64 rfl rfl rfl rfl (by omega) ?_
        | refine W.bin rfl rfl rfl rfl rfl ?_
        | refine W.shl rfl rfl rfl rfl (by omega) ?_)
      | refine W.nil ?_
      | refine J.reg ?_
      | refine J.seq ?_
      | refine J.condT rfl ?_
      | refine J.condF rfl ?_
      | refine J.skip ?_
    refine J.retF [] (res2 rfl rfl rfl) ?_
    first
    | rw [e, e1, Nat.one_mul, or_u (k := .u64) rfl ht hp]; rfl
    | rw [e, e1, Nat.one_mul, andNot_u (k := .u64) rfl ht hp]; rfl
end Go.Proofs.YtphnadpmpcifoaaDoor
