/-
  Package tile: rows of a tile, laid into a field.
-/
import Derived.Test.YtphnadpmpcifoaaDoorTRule
import Derived.Test.YtphnadpmpcifoaaDoorRng
namespace Go.Proofs.YtphnadpmpcifoaaDoor
open Go.Sq Go.Qm
attribute [local irreducible] SW J
set_option maxHeartbeats 4000000
set_option maxRecDepth 10000

abbrev u32v (x : Nat) : Value := .int .u32 (x : Int)
theorem row_facts {t : Nat} (ht : t < 18446744073709551616) (k : Nat) (hk : k < 8) :
    ShrE .u64 t (8 * k : Nat) ((t / 2 ^ (8 * k) : Nat) : Int) ∧ IntE .and .u64 ((t / 2 ^ (8 * k) : Nat) : Int) 255 (.int .u64 ((t / 2 ^ (8 * k) % 256 : Nat) : Int)) ∧ ConvE .u32 ((t / 2 ^ (8 * k) % 256 : Nat) : Int) ((t / 2 ^ (8 * k) % 256 : Nat) : Int) := by
  refine ⟨⟨shr_nat (by show 8 * k ≤ 64; omega)⟩, ⟨?_⟩, ⟨?_⟩⟩
  · have := and_u (k := .u64) (a := t / 2 ^ (8 * k)) (b := 255) rfl (Nat.lt_of_le_of_lt (Nat.div_le_self _ _) ht) (by decide)
    simp only [intV]
    rw [show ((255 : Int)) = ((255 : Nat) : Int) from rfl, this, show (255 : Nat) = 2 ^ 8 - 1 from rfl, Nat.and_two_pow_sub_one_eq_mod]
  · exact wrap_u (k := .u32) rfl (Nat.lt_of_lt_of_le (Nat.mod_lt _ (by omega)) (by decide))
theorem rows_iter {t : Nat} (ht : t < 18446744073709551616) : Iter P 68 [u64v t] [] 8 fun k => [int k, u32v (t / 2 ^ (8 * k) % 256)] := by
  intro l A hA
  obtain ⟨s0, a0, c0⟩ : ShrE .u64 t (8 * 0 : Int) ((t / 2 ^ (8 * 0) : Nat) : Int) ∧ _ := row_facts ht 0 (by omega)
  obtain ⟨s1, a1, c1⟩ : ShrE .u64 t (8 * 1 : Int) ((t / 2 ^ (8 * 1) : Nat) : Int) ∧ _ := row_facts ht 1 (by omega)
  obtain ⟨s2, a2, c2⟩ : ShrE .u64 t (8 * 2 : Int) ((t / 2 ^ (8 * 2) : Nat) : Int) ∧ _ := row_facts ht 2 (by omega)
  obtain ⟨s3, a3, c3⟩ : ShrE .u64 t (8 * 3 : Int) ((t / 2 ^ (8 * 3) : Nat) : Int) ∧ _ := row_facts ht 3 (by omega)
  obtain ⟨s4, a4, c4⟩ : ShrE .u64 t (8 * 4 : Int) ((t / 2 ^ (8 * 4) : Nat) : Int) ∧ _ := row_facts ht 4 (by omega)
  obtain ⟨s5, a5, c5⟩ : ShrE .u64 t (8 * 5 : Int) ((t / 2 ^ (8 * 5) : Nat) : Int) ∧ _ := row_facts ht 5 (by omega)
  obtain ⟨s6, a6, c6⟩ : ShrE .u64 t (8 * 6 : Int) ((t / 2 ^ (8 * 6) : Nat) : Int) ∧ _ := row_facts ht 6 (by omega)
  obtain ⟨s7, a7, c7⟩ : ShrE .u64 t (8 * 7 : Int) ((t / 2 ^ (8 * 7) : Nat) : Int) ∧ _ := row_facts ht 7 (by omega)
  refine callR_of Tryd.func68 rfl Tryd.ntmps68 rfl fun σ F => ?_
  repeat' first
    | refine W.pure rfl rfl rfl rfl ?_
    | refine W.nil ?_
    | refine J.reg ?_
    | refine J.seq ?_
    | refine J.block ?_
  refine J.rounds 9 ?_
  repeat' first
    | (show W _ _ _ _ _ (_ :: _) _ _ _; first
      | refine W.pure rfl rfl rfl rfl ?_
      | refine W.binE rfl rfl rfl rfl (by assumption) ?_
      | refine W.shrE rfl rfl rfl rfl (by omega) (by assumption) ?_
      | refine W.convE rfl rfl rfl (by assumption) ?_
      | refine W.cmpT rfl rfl rfl rfl (by simp only [cmpP]; first | done | omega) ?_
      | refine W.mul64 rfl rfl rfl rfl (by omega) ?_)
    | refine W.nil ?_
    | refine J.reg ?_
    | refine J.seq ?_
    | refine J.condT rfl ?_
    | refine J.block ?_
    | refine J.skip ?_
    | refine J.rnd ?_
  refine W.yield rfl rfl rfl rfl (hA 0 (by omega)) ?_
  repeat' first
    | (show W _ _ _ _ _ (_ :: _) _ _ _; first
      | refine W.pure rfl rfl rfl rfl ?_
      | refine W.binE rfl rfl rfl rfl (by assumption) ?_
      | refine W.shrE rfl rfl rfl rfl (by omega) (by assumption) ?_
      | refine W.convE rfl rfl rfl (by assumption) ?_
      | refine W.cmpT rfl rfl rfl rfl (by simp only [cmpP]; first | done | omega) ?_
      | refine W.add64E rfl rfl rfl rfl (by simp only [Int.reduceAdd]; rfl) (by omega) ?_
      | refine W.mul64 rfl rfl rfl rfl (by omega) ?_)
    | refine W.nil ?_
    | refine J.reg ?_
    | refine J.seq ?_
    | refine J.condT rfl ?_
    | refine J.condF rfl ?_
    | refine J.block ?_
    | refine J.endBlk ?_
    | refine J.skip ?_
    | refine J.rnd ?_
  skip
  refine W.yield rfl rfl rfl rfl (hA 1 (by omega)) ?_
  repeat' first
    | (show W _ _ _ _ _ (_ :: _) _ _ _; first
      | refine W.pure rfl rfl rfl rfl ?_
      | refine W.binE rfl rfl rfl rfl (by assumption) ?_
      | refine W.shrE rfl rfl rfl rfl (by omega) (by assumption) ?_
      | refine W.convE rfl rfl rfl (by assumption) ?_
      | refine W.cmpT rfl rfl rfl rfl (by simp only [cmpP]; first | done | omega) ?_
      | refine W.add64E rfl rfl rfl rfl (by simp only [Int.reduceAdd]; rfl) (by omega) ?_
      | refine W.mul64 rfl rfl rfl rfl (by omega) ?_)
    | refine W.nil ?_
    | refine J.reg ?_
    | refine J.seq ?_
    | refine J.condT rfl ?_
    | refine J.condF rfl ?_
    | refine J.block ?_
    | refine J.endBlk ?_
    | refine J.skip ?_
    | refine J.rnd ?_
  skip
  refine W.yield rfl rfl rfl rfl (hA 2 (by omega)) ?_
  repeat' first
    | (show W _ _ _ _ _ (_ :: _) _ _ _; first
      | refine W.pure rfl rfl rfl rfl ?_
      | refine W.binE rfl rfl rfl rfl (by assumption) ?_
      | refine W.shrE rfl rfl rfl rfl (by omega) (by assumption) ?_
      | refine W.convE rfl rfl rfl (by assumption) ?_
      | refine W.cmpT rfl rfl rfl rfl (by simp only [cmpP]; first | done | omega) ?_
      | refine W.add64E rfl rfl rfl rfl (by simp only [Int.reduceAdd]; rfl) (by omega) ?_
      | refine W.mul64 rfl rfl rfl rfl (by omega) ?_)
    | refine W.nil ?_
    | refine J.reg ?_
    | refine J.seq ?_
    | refine J.condT rfl ?_
    | refine J.condF rfl ?_
    | refine J.block ?_
    | refine J.endBlk ?_
    | refine J.skip ?_
    | refine J.rnd ?_
  skip
  refine W.yield rfl rfl rfl rfl (hA 3 (by omega)) ?_
  repeat' first
    | (show W _ _ _ _ _ (_ :: _) _ _ _; first
      | refine W.pure rfl rfl rfl rfl ?_
      | refine W.binE rfl rfl rfl rfl (by assumption) ?_
      | refine W.shrE rfl rfl rfl rfl (by omega) (by assumption) ?_
      | refine W.convE rfl rfl rfl (by assumption) ?_
      | refine W.cmpT rfl rfl rfl rfl (by simp only [cmpP]; first | done | omega) ?_
      | refine W.add64E rfl rfl rfl rfl (by simp only [Int.reduceAdd]; rfl) (by omega) ?_
      | refine W.mul64 rfl rfl rfl rfl (by omega) ?_)
    | refine W.nil ?_
    | refine J.reg ?_
    | refine J.seq ?_
    | refine J.condT rfl ?_
    | refine J.condF rfl ?_
    | refine J.block ?_
    | refine J.endBlk ?_
    | refine J.skip ?_
    | refine J.rnd ?_
  skip
  refine W.yield rfl rfl rfl rfl (hA 4 (by omega)) ?_
  repeat' first
    | (show W _ _ _ _ _ (_ :: _) _ _ _; first
      | refine W.pure rfl rfl rfl rfl ?_
      | refine W.binE rfl rfl rfl rfl (by assumption) ?_
      | refine W.shrE rfl rfl rfl rfl (by omega) (by assumption) ?_
      | refine W.convE rfl rfl rfl (by assumption) ?_
      | refine W.cmpT rfl rfl rfl rfl (by simp only [cmpP]; first | done | omega) ?_
      | refine W.add64E rfl rfl rfl rfl (by simp only [Int.reduceAdd]; rfl) (by omega) ?_
      | refine W.mul64 rfl rfl rfl rfl (by omega) ?_)
    | refine W.nil ?_
    | refine J.reg ?_
    | refine J.seq ?_
    | refine J.condT rfl ?_
    | refine J.condF rfl ?_
    | refine J.block ?_
    | refine J.endBlk ?_
    | refine J.skip ?_
    | refine J.rnd ?_
  skip
  refine W.yield rfl rfl rfl rfl (hA 5 (by omega)) ?_
  repeat' first
    | (show W _ _ _ _ _ (_ :: _) _ _ _; first
      | refine W.pure rfl rfl rfl rfl ?_
      | refine W.binE rfl rfl rfl rfl (by assumption) ?_
      | refine W.shrE rfl rfl rfl rfl (by omega) (by assumption) ?_
      | refine W.convE rfl rfl rfl (by assumption) ?_
      | refine W.cmpT rfl rfl rfl rfl (by simp only [cmpP]; first | done | omega) ?_
      | refine W.add64E rfl rfl rfl rfl (by simp only [Int.reduceAdd]; rfl) (by omega) ?_
      | refine W.mul64 rfl rfl rfl rfl (by omega) ?_)
    | refine W.nil ?_
    | refine J.reg ?_
    | refine J.seq ?_
    | refine J.condT rfl ?_
    | refine J.condF rfl ?_
    | refine J.block ?_
    | refine J.endBlk ?_
    | refine J.skip ?_
    | refine J.rnd ?_
  skip
  refine W.yield rfl rfl rfl rfl (hA 6 (by omega)) ?_
  repeat' first
    | (show W _ _ _ _ _ (_ :: _) _ _ _; first
      | refine W.pure rfl rfl rfl rfl ?_
      | refine W.binE rfl rfl rfl rfl (by assumption) ?_
      | refine W.shrE rfl rfl rfl rfl (by omega) (by assumption) ?_
      | refine W.convE rfl rfl rfl (by assumption) ?_
      | refine W.cmpT rfl rfl rfl rfl (by simp only [cmpP]; first | done | omega) ?_
      | refine W.add64E rfl rfl rfl rfl (by simp only [Int.reduceAdd]; rfl) (by omega) ?_
      | refine W.mul64 rfl rfl rfl rfl (by omega) ?_)
    | refine W.nil ?_
    | refine J.reg ?_
    | refine J.seq ?_
    | refine J.condT rfl ?_
    | refine J.condF rfl ?_
    | refine J.block ?_
    | refine J.endBlk ?_
    | refine J.skip ?_
    | refine J.rnd ?_
  skip
  refine W.yield rfl rfl rfl rfl (hA 7 (by omega)) ?_
  repeat' first
    | (show W _ _ _ _ _ (_ :: _) _ _ _; first
      | refine W.pure rfl rfl rfl rfl ?_
      | refine W.cmpF rfl rfl rfl rfl (by simp only [cmpN]; first | done | omega) ?_
      | refine W.add64E rfl rfl rfl rfl (by simp only [Int.reduceAdd]; rfl) (by omega) ?_)
    | refine W.nil ?_
    | refine J.reg ?_
    | refine J.seq ?_
    | refine J.condF rfl ?_
    | refine J.endBlk ?_
    | refine J.skip ?_
    | refine J.rnd ?_
    | refine J.exit rfl ?_
  exact J.endR [0] (res0 rfl) rfl
end Go.Proofs.YtphnadpmpcifoaaDoor
