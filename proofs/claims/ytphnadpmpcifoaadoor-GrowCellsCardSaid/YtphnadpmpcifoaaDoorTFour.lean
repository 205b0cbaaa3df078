/-
  Package tile: a field of four tiles.
-/
import Derived.Test.YtphnadpmpcifoaaDoorTCut

namespace Go.Proofs.YtphnadpmpcifoaaDoor
open Go.Sq Go.Qm
attribute [local irreducible] SW J layN zeroF
set_option maxHeartbeats 400000
set_option maxRecDepth 10000
theorem u32_one (f : List Nat) : ∀ u ∈ ((f.map u32v).toArray).toList, u.oneCell' = true := by
  intro u hu
  simp only [List.mem_map] at hu
  obtain ⟨q, _, rfl⟩ := hu
  rfl
theorem four_is {a b c d : Nat} (ha : a < 18446744073709551616) (hb : b < 18446744073709551616) (hc : c < 18446744073709551616) (hd : d < 18446744073709551616) :
    CallF P 55 [.agg #[u64v a, u64v b, u64v c, u64v d]] [] (.agg ((fourN a b c d).map u32v).toArray) [] := by
  refine callR_of Tryd.func55 rfl Tryd.ntmps55 rfl fun σ F => ?_
  repeat' first
    | (show W _ _ _ _ _ (_ :: _) _ _ _; first
      | refine W.pure rfl rfl rfl rfl ?_
      | refine W.ldaV rfl rfl rfl rfl rfl rfl ?_
      | refine W.alloc rfl rfl (fun bq => ?_)
      | refine W.boxA rfl rfl rfl (fun bq => ?_))
    | refine W.nil ?_
    | refine J.reg ?_
    | refine J.seq ?_
    | refine J.block ?_
  rename_i b1 b2
  refine J.perm (Bs := [(bq, fldP bq zeroF), (b2, fldP b2 zeroF), (b1, pts b1 (.cells #[u64v a, u64v b, u64v c, u64v d] 90 (0, 0)))]) (by unfold zeroF; exact .refl _) ?_
  refine J.rounds 5 ?_
  have ok1 := layN_ok zeroF_ok a (x := 0) 0 (by omega) 8
  have ok2 := layN_ok ok1 b (x := 8) 0 (by omega) 8
  have ok3 := layN_ok ok2 c (x := 0) 8 (by omega) 8
  repeat' first
    | (show W _ _ _ _ _ (_ :: _) _ _ _; first
      | refine W.pure rfl rfl rfl rfl ?_
      | refine W.cmpT rfl rfl rfl rfl (by simp only [cmpP]; first | done | omega) ?_
      | refine W.mul64 rfl rfl rfl rfl (by omega) ?_
      | refine W.indexA1 rfl rfl rfl rfl rfl (by omega) rfl ?_
      | refine W.rem rfl rfl rfl rfl (by omega) (by omega) ?_
      | refine W.quo rfl rfl rfl rfl (by omega) (by omega) (wrap_i64 (by omega) (by omega)) ?_)
    | refine W.nil ?_
    | refine J.reg ?_
    | refine J.seq ?_
    | refine J.condT rfl ?_
    | refine J.block ?_
    | refine J.skip ?_
    | refine J.rnd ?_
  refine W.call1 (lay_is (zeroF_ok) (ha) (x := 0) (y := 0) (by omega) (by omega)) rfl rfl rfl ?_
  repeat' first
    | (show W _ _ _ _ _ (_ :: _) _ _ _; first
      | refine W.pure rfl rfl rfl rfl ?_
      | refine W.cmpT rfl rfl rfl rfl (by simp only [cmpP]; first | done | omega) ?_
      | refine W.add64E rfl rfl rfl rfl (by simp only [Int.reduceAdd]; rfl) (by omega) ?_
      | refine W.mul64 rfl rfl rfl rfl (by omega) ?_
      | refine W.indexA1 rfl rfl rfl rfl rfl (by omega) rfl ?_
      | refine W.rem rfl rfl rfl rfl (by omega) (by omega) ?_
      | refine W.quo rfl rfl rfl rfl (by omega) (by omega) (wrap_i64 (by omega) (by omega)) ?_)
    | refine W.nil ?_
    | refine J.reg ?_
    | refine J.seq ?_
    | refine J.condT rfl ?_
    | refine J.block ?_
    | refine J.endBlk ?_
    | refine J.skip ?_
    | refine J.rnd ?_
  refine W.call1 (lay_is (ok1) (hb) (x := 8) (y := 0) (by omega) (by omega)) rfl rfl rfl ?_
  repeat' first
    | (show W _ _ _ _ _ (_ :: _) _ _ _; first
      | refine W.pure rfl rfl rfl rfl ?_
      | refine W.cmpT rfl rfl rfl rfl (by simp only [cmpP]; first | done | omega) ?_
      | refine W.add64E rfl rfl rfl rfl (by simp only [Int.reduceAdd]; rfl) (by omega) ?_
      | refine W.mul64 rfl rfl rfl rfl (by omega) ?_
      | refine W.indexA1 rfl rfl rfl rfl rfl (by omega) rfl ?_
      | refine W.rem rfl rfl rfl rfl (by omega) (by omega) ?_
      | refine W.quo rfl rfl rfl rfl (by omega) (by omega) (wrap_i64 (by omega) (by omega)) ?_)
    | refine W.nil ?_
    | refine J.reg ?_
    | refine J.seq ?_
    | refine J.condT rfl ?_
    | refine J.block ?_
    | refine J.endBlk ?_
    | refine J.skip ?_
    | refine J.rnd ?_
  refine W.call1 (lay_is (ok2) (hc) (x := 0) (y := 8) (by omega) (by omega)) rfl rfl rfl ?_
  repeat' first
    | (show W _ _ _ _ _ (_ :: _) _ _ _; first
      | refine W.pure rfl rfl rfl rfl ?_
      | refine W.cmpT rfl rfl rfl rfl (by simp only [cmpP]; first | done | omega) ?_
      | refine W.add64E rfl rfl rfl rfl (by simp only [Int.reduceAdd]; rfl) (by omega) ?_
      | refine W.mul64 rfl rfl rfl rfl (by omega) ?_
      | refine W.indexA1 rfl rfl rfl rfl rfl (by omega) rfl ?_
      | refine W.rem rfl rfl rfl rfl (by omega) (by omega) ?_
      | refine W.quo rfl rfl rfl rfl (by omega) (by omega) (wrap_i64 (by omega) (by omega)) ?_)
    | refine W.nil ?_
    | refine J.reg ?_
    | refine J.seq ?_
    | refine J.condT rfl ?_
    | refine J.block ?_
    | refine J.endBlk ?_
    | refine J.skip ?_
    | refine J.rnd ?_
  refine W.call1 (lay_is (ok3) (hd) (x := 8) (y := 8) (by omega) (by omega)) rfl rfl rfl ?_
  have ok4 := layN_ok ok3 d (x := 8) 8 (by omega) 8
  repeat' first
    | (show W _ _ _ _ _ (_ :: _) _ _ _; first
      | refine W.pure rfl rfl rfl rfl ?_
      | refine W.cmpF rfl rfl rfl rfl (by simp only [cmpN]; first | done | omega) ?_
      | refine W.add64E rfl rfl rfl rfl (by simp only [Int.reduceAdd]; rfl) (by omega) ?_)
    | refine W.nil ?_
    | refine J.reg ?_
    | refine J.seq ?_
    | refine J.condF rfl ?_
    | refine J.endBlk ?_
    | refine J.rnd ?_
    | refine J.exit rfl ?_
  refine W.ldaV rfl rfl rfl rfl rfl (by simp [ok4.1]) ?_
  refine W.storeA rfl rfl rfl rfl (by simp [ok4.1]) (by simp [zeroF_ok.1]) (u32_one _) ?_
  repeat' first
    | refine W.nil ?_
  exact J.retF [] (resc1 rfl rfl rfl (by simp [ok4.1])) rfl
end Go.Proofs.YtphnadpmpcifoaaDoor
