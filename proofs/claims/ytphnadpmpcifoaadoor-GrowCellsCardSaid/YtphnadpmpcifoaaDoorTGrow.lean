/-
  Package tile: the middle of four tiles, so many generations on.
-/
import Derived.Test.YtphnadpmpcifoaaDoorTNext
import Derived.Test.YtphnadpmpcifoaaDoorLife
namespace Go.Proofs.YtphnadpmpcifoaaDoor
open Go.Sq Go.Qm
attribute [local irreducible] SW J fldOf zeroF fourN nextN cutN layN genN
set_option maxHeartbeats 4000000
set_option maxRecDepth 10000

theorem Middle_is {a b c d : Nat} (ha : a < 18446744073709551616) (hb : b < 18446744073709551616) (hc : c < 18446744073709551616) (hd : d < 18446744073709551616) :
    CallF P 38 [.agg #[u64v a, u64v b, u64v c, u64v d]] [] (u64v (cutN (fourN a b c d) 4 4 8)) [] := by
  have ok := fourN_ok a b c d
  refine callR_of Tryd.func38 rfl Tryd.ntmps38 rfl fun σ F => ?_
  repeat' first
    | (show W _ _ _ _ _ (_ :: _) _ _ _; first
      | refine W.call0 (four_is ha hb hc hd) rfl rfl rfl ?_
      | refine W.storeA rfl rfl rfl rfl (by simp [ok.1]) (by rfl) (u32_one _) ?_
      | refine W.call1 (cut_is ok (x := 4) (y := 4) (by omega) (by omega)) rfl rfl rfl ?_
      | refine W.pure rfl rfl rfl rfl ?_
      | refine W.ldaV rfl rfl rfl rfl rfl rfl ?_
      | refine W.alloc rfl rfl (fun bq => ?_)
      | refine W.boxA rfl rfl rfl (fun bq => ?_))
    | refine W.nil ?_
    | refine J.reg ?_
    | refine J.seq ?_
  exact J.retF [] (res1 rfl rfl) rfl
theorem tGrow_is {b l n x0 x1 x2 x3 : Nat} (h : RuleOk b l) (hn : n ≤ 4) (h0 : x0 < 18446744073709551616) (h1 : x1 < 18446744073709551616) (h2 : x2 < 18446744073709551616) (h3 : x3 < 18446744073709551616) :
    CallF P 41 [ruleV b l, .agg #[u64v x0, u64v x1, u64v x2, u64v x3], int n] [] (.tuple #[u64v (cutN (genN b l (fourN x0 x1 x2 x3) n) 4 4 8), .nilIface]) [] := by
  have ok := fourN_ok x0 x1 x2 x3
  have g0 : genN b l (fourN x0 x1 x2 x3) 0 = fourN x0 x1 x2 x3 := by unfold genN; rfl
  refine callR_of Tryd.func41 rfl Tryd.ntmps41 rfl fun σ F => ?_
  repeat' first
    | (show W _ _ _ _ _ (_ :: _) _ _ _; first
      | refine W.call0 (Check_ok h) rfl rfl rfl ?_
      | refine W.call0 (four_is h0 h1 h2 h3) rfl rfl rfl ?_
      | refine W.storeA rfl rfl rfl rfl (by simp [ok.1]) (by rfl) (u32_one _) ?_
      | refine W.pure rfl rfl rfl rfl ?_
      | refine W.cmpF rfl rfl rfl rfl (by simp only [cmpN]; first | done | omega) ?_
      | refine W.ldaV rfl rfl rfl rfl rfl rfl ?_
      | refine W.alloc rfl rfl (fun bq => ?_)
      | refine W.boxA rfl rfl rfl (fun bq => ?_)
      | refine W.neIfNilT rfl rfl rfl ?_)
    | refine W.nil ?_
    | refine J.reg ?_
    | refine J.seq ?_
    | refine J.condF rfl ?_
    | refine J.block ?_
    | refine J.skip ?_
  rename_i b3 b4
  refine J.loop (X := Nat) (fun k => k ≤ n) (fun k => n - k) (fun k => [(3, ptr b3), (9, ptr bq), (24, int n), (25, int k)])
    (fun k => [(bq, fldP bq (genN b l (fourN x0 x1 x2 x3) k)), (b4, pts b4 (.cells #[u64v x0, u64v x1, u64v x2, u64v x3] 90 (0, 0))), (b3, pts b3 (.cells #[.int .u16 (b : Int), .int .u16 (l : Int)] 33 (0, 0)))])
    0 (by omega) ⟨rfl, rfl, rfl, rfl, trivial⟩ (by rw [g0]) fun k hk => ?_
  have okk := genN_ok (b := b) (l := l) ok k
  by_cases hlt : k < n
  · have okn := genN_ok (b := b) (l := l) ok (k + 1)
    have e : nextN b l (genN b l (fourN x0 x1 x2 x3) k) = genN b l (fourN x0 x1 x2 x3) (k + 1) := by rw [genN]
    repeat' first
      | (show W _ _ _ _ _ (_ :: _) _ _ _; first
        | refine W.call1 (next_is okk h) rfl rfl rfl ?_
        | refine W.storeA rfl rfl rfl rfl (by simp [e, okn.1]) (by simp [okk.1]) (u32_one _) ?_
        | refine W.pure rfl rfl rfl rfl ?_
        | refine W.cmpT rfl rfl rfl rfl (by simp only [cmpP]; first | done | omega) ?_
        | refine W.add64 rfl rfl rfl rfl (by omega) ?_
        | refine W.ldaV rfl rfl rfl rfl rfl rfl ?_)
      | refine W.nil ?_
      | refine J.reg ?_
      | refine J.seq ?_
      | refine J.condT rfl ?_
      | refine J.block ?_
      | refine J.endBlk ?_
      | refine J.skip ?_
    rw [e]
    exact J.again (k + 1) (by omega) (by omega) ⟨rfl, rfl, rfl, rfl, trivial⟩ (.refl _)
  · obtain rfl : k = n := by omega
    repeat' first
      | (show W _ _ _ _ _ (_ :: _) _ _ _; first
        | refine W.call1 (cut_is okk (x := 4) (y := 4) (by omega) (by omega)) rfl rfl rfl ?_
        | refine W.pure rfl rfl rfl rfl ?_
        | refine W.cmpF rfl rfl rfl rfl (by simp only [cmpN]; first | done | omega) ?_)
      | refine W.nil ?_
      | refine J.reg ?_
      | refine J.seq ?_
      | refine J.condF rfl ?_
      | refine J.exit rfl ?_
    exact J.retF [] (res2 rfl rfl rfl) rfl
end Go.Proofs.YtphnadpmpcifoaaDoor
