/-
  Package grow: nine squares.
-/
import Derived.Test.YtphnadpmpcifoaaDoorTCent
import Derived.Test.YtphnadpmpcifoaaDoorOpsE
namespace Go.Qm
theorem is_eta {ts : List T} {t : T} (hm : t ∈ ts) (h : 4 ≤ t.lev) : Is ts (num ts t) (.node t.k0 t.k1 t.k2 t.k3) := by
  cases t with
  | leaf _ => simp [T.lev] at h
  | node a b c d => exact is_num hm
theorem Is.eta {ts : List T} {id : Int} {t : T} (hi : Is ts id t) (h : 4 ≤ t.lev) : Is ts id (.node t.k0 t.k1 t.k2 t.k3) := by
  cases t with
  | leaf _ => simp [T.lev] at h
  | node a b c d => exact hi
end Go.Qm
namespace Go.Sq
theorem J.envs {P : Program} {R : Exit → Act → World → Prop} {n : Nat} {σ : Str} {F : List Ent} {st : List It} {E : Env} {As : List Ent} (E' : Env) (hE : E.all E') (h : J P R n σ F st E' As) : J P R n σ F st E As := J.env (Env.sub_of_all hE) h
end Go.Sq
namespace Go.Proofs.YtphnadpmpcifoaaDoor
open Go.Sq Go.Qm
/-- Nine times four numbers. -/
def nineR (ts : List T) (t : T) : Nat → List Value
  | 0 => [int (num ts t.k0.k0), int (num ts t.k0.k1), int (num ts t.k0.k2), int (num ts t.k0.k3)]
  | 1 => [int (num ts t.k0.k1), int (num ts t.k1.k0), int (num ts t.k0.k3), int (num ts t.k1.k2)]
  | 2 => [int (num ts t.k1.k0), int (num ts t.k1.k1), int (num ts t.k1.k2), int (num ts t.k1.k3)]
  | 3 => [int (num ts t.k0.k2), int (num ts t.k0.k3), int (num ts t.k2.k0), int (num ts t.k2.k1)]
  | 4 => [int (num ts t.k0.k3), int (num ts t.k1.k2), int (num ts t.k2.k1), int (num ts t.k3.k0)]
  | 5 => [int (num ts t.k1.k2), int (num ts t.k1.k3), int (num ts t.k3.k0), int (num ts t.k3.k1)]
  | 6 => [int (num ts t.k2.k0), int (num ts t.k2.k1), int (num ts t.k2.k2), int (num ts t.k2.k3)]
  | 7 => [int (num ts t.k2.k1), int (num ts t.k3.k0), int (num ts t.k2.k3), int (num ts t.k3.k2)]
  | _ => [int (num ts t.k3.k0), int (num ts t.k3.k1), int (num ts t.k3.k2), int (num ts t.k3.k3)]
def nineL (f : Nat → List Value) (n : Nat) : List Value := (List.range 9).flatMap fun i => if i < n then f i else [int 0, int 0, int 0, int 0]
theorem nineL_one (ts : List T) (t : T) : ∀ u ∈ ((nineL (nineR ts t) 9).toArray).toList, u.oneCell' = true := by
  simp [nineL, nineR, show List.range 9 = [0, 1, 2, 3, 4, 5, 6, 7, 8] from rfl, Value.oneCell']
attribute [local irreducible] SW J T.lev T.ok T.k0 T.k1 T.k2 T.k3 T.cells num
set_option maxHeartbeats 4000000
set_option maxRecDepth 10000
section
variable {s room m : Nat} {U ts : List T}
theorem mnine_is {id : Int} {t : T} (h : Inv room U ts) (hi : Is ts id t) (hl : 5 ≤ t.lev) :
    CallF P 59 [ptr m, int id] [(m, mkP m s), (s, treeP s room ts)] (.agg (nineL (nineR ts t) 9).toArray) [(m, mkP m s), (s, treeP s room ts)] := by
  have ho := h.reg.ok _ hi.mem
  have km := kid_mem h.reg hi.mem (by omega)
  have kl := T.kid_lev ho (by omega)
  have j0 := is_eta km.1 (by omega); have j1 := is_eta km.2.1 (by omega); have j2 := is_eta km.2.2.1 (by omega); have j3 := is_eta km.2.2.2 (by omega)
  have hi := hi.eta (by omega)
  refine callR_of Tryd.func59 rfl Tryd.ntmps59 rfl fun σ F => ?_
  repeat' first
    | (show W _ _ _ _ _ (_ :: _) _ _ _; first
      | refine W.call2 (mkids_is hi) rfl rfl rfl ?_
      | refine W.pure rfl rfl rfl rfl ?_
      | refine W.ldaV rfl rfl rfl rfl rfl rfl ?_
      | refine W.alloc rfl rfl (fun bq => ?_)
      | refine W.storeA rfl rfl rfl rfl (by rfl) (by rfl) (by simp [Value.oneCell']) ?_)
    | refine W.nil ?_
    | refine J.reg ?_
    | refine J.seq ?_
    | refine J.block ?_
  rename_i b4 b5
  revert bq
  intro b6
  refine J.drop [b5] ?_
  refine J.envs [(0, ptr m), (4, ptr b4), (6, ptr b6), (19, .agg #[int (num ts t.k0), int (num ts t.k1), int (num ts t.k2), int (num ts t.k3)]), (20, int 0)] ⟨rfl, rfl, rfl, rfl, rfl, trivial⟩ ?_
  refine J.rounds 5 ?_
  repeat' first
    | (show W _ _ _ _ _ (_ :: _) _ _ _; first
      | refine W.call2 (mkids_is j0) rfl rfl rfl ?_
      | refine W.pure rfl rfl rfl rfl ?_
      | refine W.cmpT rfl rfl rfl rfl (by simp only [cmpP]; first | done | omega) ?_
      | refine W.mul64E rfl rfl rfl rfl (by simp only [Int.reduceMul]; rfl) (by omega) ?_
      | refine W.alloc rfl rfl (fun bq => ?_)
      | refine W.storeA rfl rfl rfl rfl (by rfl) (by rfl) (by simp [Value.oneCell']) ?_
      | refine W.indexA1 rfl rfl rfl rfl rfl (by omega) rfl ?_
      | refine W.remE rfl rfl rfl rfl (by omega) (by omega) (by simp only [Int.reduceMod]; rfl) ?_
      | refine W.quoE rfl rfl rfl rfl (by omega) (by omega) (by simp only [Int.reduceDiv]; rfl) (by omega) ?_)
    | refine W.nil ?_
    | refine J.reg ?_
    | refine J.seq ?_
    | refine J.condT rfl ?_
    | refine J.block ?_
    | refine J.skip ?_
    | refine J.rnd ?_
  refine J.regD [b6] mixed (by kernel_rfl) ?_
  repeat' first
    | (show W _ _ _ _ _ (_ :: _) _ _ _; first
      | refine W.call2 (mkids_is j1) rfl rfl rfl ?_
      | refine W.pure rfl rfl rfl rfl ?_
      | refine W.cmpT rfl rfl rfl rfl (by simp only [cmpP]; first | done | omega) ?_
      | refine W.indexAddrE rfl rfl rfl rfl (by omega) (by simp only [Int.reduceToNat, Nat.reduceMul, Nat.reduceAdd, Nat.zero_add]; rfl) ?_
      | refine W.ld rfl rfl rfl rfl rfl ?_
      | refine W.add64E rfl rfl rfl rfl (by simp only [Int.reduceAdd]; rfl) (by omega) ?_
      | refine W.mul64E rfl rfl rfl rfl (by simp only [Int.reduceMul]; rfl) (by omega) ?_
      | refine W.alloc rfl rfl (fun bq => ?_)
      | refine W.storeA rfl rfl rfl rfl (by rfl) (by rfl) (by simp [Value.oneCell']) ?_
      | refine W.store1 rfl rfl rfl rfl rfl rfl rfl (by simp only [List.set_cons_succ, List.set_cons_zero]; rfl) ?_
      | refine W.indexA1 rfl rfl rfl rfl rfl (by omega) rfl ?_
      | refine W.remE rfl rfl rfl rfl (by omega) (by omega) (by simp only [Int.reduceMod]; rfl) ?_
      | refine W.quoE rfl rfl rfl rfl (by omega) (by omega) (by simp only [Int.reduceDiv]; rfl) (by omega) ?_)
    | refine W.nil ?_
    | refine J.reg ?_
    | refine J.seq ?_
    | refine J.condT rfl ?_
    | refine J.block ?_
    | refine J.endBlk ?_
    | refine J.skip ?_
    | refine J.rnd ?_
  refine J.regD [b6] mixed (by kernel_rfl) ?_
  repeat' first
    | (show W _ _ _ _ _ (_ :: _) _ _ _; first
      | refine W.call2 (mkids_is j2) rfl rfl rfl ?_
      | refine W.pure rfl rfl rfl rfl ?_
      | refine W.cmpT rfl rfl rfl rfl (by simp only [cmpP]; first | done | omega) ?_
      | refine W.indexAddrE rfl rfl rfl rfl (by omega) (by simp only [Int.reduceToNat, Nat.reduceMul, Nat.reduceAdd, Nat.zero_add]; rfl) ?_
      | refine W.ld rfl rfl rfl rfl rfl ?_
      | refine W.add64E rfl rfl rfl rfl (by simp only [Int.reduceAdd]; rfl) (by omega) ?_
      | refine W.mul64E rfl rfl rfl rfl (by simp only [Int.reduceMul]; rfl) (by omega) ?_
      | refine W.alloc rfl rfl (fun bq => ?_)
      | refine W.storeA rfl rfl rfl rfl (by rfl) (by rfl) (by simp [Value.oneCell']) ?_
      | refine W.store1 rfl rfl rfl rfl rfl rfl rfl (by simp only [List.set_cons_succ, List.set_cons_zero]; rfl) ?_
      | refine W.indexA1 rfl rfl rfl rfl rfl (by omega) rfl ?_
      | refine W.remE rfl rfl rfl rfl (by omega) (by omega) (by simp only [Int.reduceMod]; rfl) ?_
      | refine W.quoE rfl rfl rfl rfl (by omega) (by omega) (by simp only [Int.reduceDiv]; rfl) (by omega) ?_)
    | refine W.nil ?_
    | refine J.reg ?_
    | refine J.seq ?_
    | refine J.condT rfl ?_
    | refine J.block ?_
    | refine J.endBlk ?_
    | refine J.skip ?_
    | refine J.rnd ?_
  refine J.regD [b6] mixed (by kernel_rfl) ?_
  repeat' first
    | (show W _ _ _ _ _ (_ :: _) _ _ _; first
      | refine W.call2 (mkids_is j3) rfl rfl rfl ?_
      | refine W.pure rfl rfl rfl rfl ?_
      | refine W.cmpT rfl rfl rfl rfl (by simp only [cmpP]; first | done | omega) ?_
      | refine W.indexAddrE rfl rfl rfl rfl (by omega) (by simp only [Int.reduceToNat, Nat.reduceMul, Nat.reduceAdd, Nat.zero_add]; rfl) ?_
      | refine W.ld rfl rfl rfl rfl rfl ?_
      | refine W.add64E rfl rfl rfl rfl (by simp only [Int.reduceAdd]; rfl) (by omega) ?_
      | refine W.mul64E rfl rfl rfl rfl (by simp only [Int.reduceMul]; rfl) (by omega) ?_
      | refine W.alloc rfl rfl (fun bq => ?_)
      | refine W.storeA rfl rfl rfl rfl (by rfl) (by rfl) (by simp [Value.oneCell']) ?_
      | refine W.store1 rfl rfl rfl rfl rfl rfl rfl (by simp only [List.set_cons_succ, List.set_cons_zero]; rfl) ?_
      | refine W.indexA1 rfl rfl rfl rfl rfl (by omega) rfl ?_
      | refine W.remE rfl rfl rfl rfl (by omega) (by omega) (by simp only [Int.reduceMod]; rfl) ?_
      | refine W.quoE rfl rfl rfl rfl (by omega) (by omega) (by simp only [Int.reduceDiv]; rfl) (by omega) ?_)
    | refine W.nil ?_
    | refine J.reg ?_
    | refine J.seq ?_
    | refine J.condT rfl ?_
    | refine J.block ?_
    | refine J.endBlk ?_
    | refine J.skip ?_
    | refine J.rnd ?_
  refine J.regD [b6] mixed (by kernel_rfl) ?_
  repeat' first
    | (show W _ _ _ _ _ (_ :: _) _ _ _; first
      | refine W.pure rfl rfl rfl rfl ?_
      | refine W.cmpF rfl rfl rfl rfl (by simp only [cmpN]; first | done | omega) ?_
      | refine W.indexAddrE rfl rfl rfl rfl (by omega) (by simp only [Int.reduceToNat, Nat.reduceMul, Nat.reduceAdd, Nat.zero_add]; rfl) ?_
      | refine W.ld rfl rfl rfl rfl rfl ?_
      | refine W.add64E rfl rfl rfl rfl (by simp only [Int.reduceAdd]; rfl) (by omega) ?_
      | refine W.alloc rfl rfl (fun bq => ?_)
      | refine W.store1 rfl rfl rfl rfl rfl rfl rfl (by simp only [List.set_cons_succ, List.set_cons_zero]; rfl) ?_)
    | refine W.nil ?_
    | refine J.reg ?_
    | refine J.seq ?_
    | refine J.condF rfl ?_
    | refine J.block ?_
    | refine J.endBlk ?_
    | refine J.rnd ?_
    | refine J.exit rfl ?_
  refine J.only [bq, b4, b6, m, s] ?_
  refine J.perm (Bs := [(bq, pts bq (.cells (nineL (nineR ts t) 0).toArray 128 (0, 0))), (b4, pts b4 (.cells (nineL (nineR ts t) 0).toArray 128 (0, 0))), (b6, pts b6 (.cells #[int (num ts t.k0.k0), int (num ts t.k0.k1), int (num ts t.k1.k0), int (num ts t.k1.k1), int (num ts t.k0.k2), int (num ts t.k0.k3), int (num ts t.k1.k2), int (num ts t.k1.k3), int (num ts t.k2.k0), int (num ts t.k2.k1), int (num ts t.k3.k0), int (num ts t.k3.k1), int (num ts t.k2.k2), int (num ts t.k2.k3), int (num ts t.k3.k2), int (num ts t.k3.k3)] 151 (0, 0))), (m, mkP m s), (s, treeP s room ts)]) ?_ ?_
  · exact .refl _
  refine J.envs [(4, ptr b4), (6, ptr b6), (12, ptr bq), (62, int 0)] ⟨rfl, rfl, rfl, rfl, trivial⟩ ?_
  refine J.rounds 10 ?_
  repeat' first
    | (show W _ _ _ _ _ (_ :: _) _ _ _; first
      | refine W.pure rfl rfl rfl rfl ?_
      | refine W.cmpT rfl rfl rfl rfl (by simp only [cmpP]; first | done | omega) ?_
      | refine W.remE rfl rfl rfl rfl (by omega) (by omega) (by simp only [Int.reduceMod]; rfl) ?_
      | refine W.quoE rfl rfl rfl rfl (by omega) (by omega) (by simp only [Int.reduceDiv]; rfl) (by omega) ?_)
    | refine W.nil ?_
    | refine J.reg ?_
    | refine J.seq ?_
    | refine J.condT rfl ?_
    | refine J.block ?_
    | refine J.skip ?_
    | refine J.rnd ?_
  refine J.regD [bq] mixed (by kernel_rfl) ?_
  repeat' first
    | (show W _ _ _ _ _ (_ :: _) _ _ _; first
      | refine W.storeE rfl rfl rfl rfl (by rfl) (by simp [Value.oneCell']) rfl (cs := nineL (nineR ts t) 1) rfl ?_
      | refine W.pure rfl rfl rfl rfl ?_
      | refine W.cmpT rfl rfl rfl rfl (by simp only [cmpP]; first | done | omega) ?_
      | refine W.indexAddrE rfl rfl rfl rfl (by omega) (by simp only [Int.reduceToNat, Nat.reduceMul, Nat.reduceAdd, Nat.zero_add]; rfl) ?_
      | refine W.ld rfl rfl rfl rfl rfl ?_
      | refine W.add64E rfl rfl rfl rfl (by simp only [Int.reduceAdd]; rfl) (by omega) ?_
      | refine W.build rfl rfl rfl ?_
      | refine W.remE rfl rfl rfl rfl (by omega) (by omega) (by simp only [Int.reduceMod]; rfl) ?_
      | refine W.quoE rfl rfl rfl rfl (by omega) (by omega) (by simp only [Int.reduceDiv]; rfl) (by omega) ?_)
    | refine W.nil ?_
    | refine J.reg ?_
    | refine J.seq ?_
    | refine J.condT rfl ?_
    | refine J.block ?_
    | refine J.endBlk ?_
    | refine J.skip ?_
    | refine J.rnd ?_
  skip
  refine J.regD [bq] mixed (by kernel_rfl) ?_
  repeat' first
    | (show W _ _ _ _ _ (_ :: _) _ _ _; first
      | refine W.storeE rfl rfl rfl rfl (by rfl) (by simp [Value.oneCell']) rfl (cs := nineL (nineR ts t) 2) rfl ?_
      | refine W.pure rfl rfl rfl rfl ?_
      | refine W.cmpT rfl rfl rfl rfl (by simp only [cmpP]; first | done | omega) ?_
      | refine W.indexAddrE rfl rfl rfl rfl (by omega) (by simp only [Int.reduceToNat, Nat.reduceMul, Nat.reduceAdd, Nat.zero_add]; rfl) ?_
      | refine W.ld rfl rfl rfl rfl rfl ?_
      | refine W.add64E rfl rfl rfl rfl (by simp only [Int.reduceAdd]; rfl) (by omega) ?_
      | refine W.build rfl rfl rfl ?_
      | refine W.remE rfl rfl rfl rfl (by omega) (by omega) (by simp only [Int.reduceMod]; rfl) ?_
      | refine W.quoE rfl rfl rfl rfl (by omega) (by omega) (by simp only [Int.reduceDiv]; rfl) (by omega) ?_)
    | refine W.nil ?_
    | refine J.reg ?_
    | refine J.seq ?_
    | refine J.condT rfl ?_
    | refine J.block ?_
    | refine J.endBlk ?_
    | refine J.skip ?_
    | refine J.rnd ?_
  skip
  refine J.regD [bq] mixed (by kernel_rfl) ?_
  repeat' first
    | (show W _ _ _ _ _ (_ :: _) _ _ _; first
      | refine W.storeE rfl rfl rfl rfl (by rfl) (by simp [Value.oneCell']) rfl (cs := nineL (nineR ts t) 3) rfl ?_
      | refine W.pure rfl rfl rfl rfl ?_
      | refine W.cmpT rfl rfl rfl rfl (by simp only [cmpP]; first | done | omega) ?_
      | refine W.indexAddrE rfl rfl rfl rfl (by omega) (by simp only [Int.reduceToNat, Nat.reduceMul, Nat.reduceAdd, Nat.zero_add]; rfl) ?_
      | refine W.ld rfl rfl rfl rfl rfl ?_
      | refine W.add64E rfl rfl rfl rfl (by simp only [Int.reduceAdd]; rfl) (by omega) ?_
      | refine W.build rfl rfl rfl ?_
      | refine W.remE rfl rfl rfl rfl (by omega) (by omega) (by simp only [Int.reduceMod]; rfl) ?_
      | refine W.quoE rfl rfl rfl rfl (by omega) (by omega) (by simp only [Int.reduceDiv]; rfl) (by omega) ?_)
    | refine W.nil ?_
    | refine J.reg ?_
    | refine J.seq ?_
    | refine J.condT rfl ?_
    | refine J.block ?_
    | refine J.endBlk ?_
    | refine J.skip ?_
    | refine J.rnd ?_
  skip
  refine J.regD [bq] mixed (by kernel_rfl) ?_
  repeat' first
    | (show W _ _ _ _ _ (_ :: _) _ _ _; first
      | refine W.storeE rfl rfl rfl rfl (by rfl) (by simp [Value.oneCell']) rfl (cs := nineL (nineR ts t) 4) rfl ?_
      | refine W.pure rfl rfl rfl rfl ?_
      | refine W.cmpT rfl rfl rfl rfl (by simp only [cmpP]; first | done | omega) ?_
      | refine W.indexAddrE rfl rfl rfl rfl (by omega) (by simp only [Int.reduceToNat, Nat.reduceMul, Nat.reduceAdd, Nat.zero_add]; rfl) ?_
      | refine W.ld rfl rfl rfl rfl rfl ?_
      | refine W.add64E rfl rfl rfl rfl (by simp only [Int.reduceAdd]; rfl) (by omega) ?_
      | refine W.build rfl rfl rfl ?_
      | refine W.remE rfl rfl rfl rfl (by omega) (by omega) (by simp only [Int.reduceMod]; rfl) ?_
      | refine W.quoE rfl rfl rfl rfl (by omega) (by omega) (by simp only [Int.reduceDiv]; rfl) (by omega) ?_)
    | refine W.nil ?_
    | refine J.reg ?_
    | refine J.seq ?_
    | refine J.condT rfl ?_
    | refine J.block ?_
    | refine J.endBlk ?_
    | refine J.skip ?_
    | refine J.rnd ?_
  skip
  refine J.regD [bq] mixed (by kernel_rfl) ?_
  repeat' first
    | (show W _ _ _ _ _ (_ :: _) _ _ _; first
      | refine W.storeE rfl rfl rfl rfl (by rfl) (by simp [Value.oneCell']) rfl (cs := nineL (nineR ts t) 5) rfl ?_
      | refine W.pure rfl rfl rfl rfl ?_
      | refine W.cmpT rfl rfl rfl rfl (by simp only [cmpP]; first | done | omega) ?_
      | refine W.indexAddrE rfl rfl rfl rfl (by omega) (by simp only [Int.reduceToNat, Nat.reduceMul, Nat.reduceAdd, Nat.zero_add]; rfl) ?_
      | refine W.ld rfl rfl rfl rfl rfl ?_
      | refine W.add64E rfl rfl rfl rfl (by simp only [Int.reduceAdd]; rfl) (by omega) ?_
      | refine W.build rfl rfl rfl ?_
      | refine W.remE rfl rfl rfl rfl (by omega) (by omega) (by simp only [Int.reduceMod]; rfl) ?_
      | refine W.quoE rfl rfl rfl rfl (by omega) (by omega) (by simp only [Int.reduceDiv]; rfl) (by omega) ?_)
    | refine W.nil ?_
    | refine J.reg ?_
    | refine J.seq ?_
    | refine J.condT rfl ?_
    | refine J.block ?_
    | refine J.endBlk ?_
    | refine J.skip ?_
    | refine J.rnd ?_
  skip
  refine J.regD [bq] mixed (by kernel_rfl) ?_
  repeat' first
    | (show W _ _ _ _ _ (_ :: _) _ _ _; first
      | refine W.storeE rfl rfl rfl rfl (by rfl) (by simp [Value.oneCell']) rfl (cs := nineL (nineR ts t) 6) rfl ?_
      | refine W.pure rfl rfl rfl rfl ?_
      | refine W.cmpT rfl rfl rfl rfl (by simp only [cmpP]; first | done | omega) ?_
      | refine W.indexAddrE rfl rfl rfl rfl (by omega) (by simp only [Int.reduceToNat, Nat.reduceMul, Nat.reduceAdd, Nat.zero_add]; rfl) ?_
      | refine W.ld rfl rfl rfl rfl rfl ?_
      | refine W.add64E rfl rfl rfl rfl (by simp only [Int.reduceAdd]; rfl) (by omega) ?_
      | refine W.build rfl rfl rfl ?_
      | refine W.remE rfl rfl rfl rfl (by omega) (by omega) (by simp only [Int.reduceMod]; rfl) ?_
      | refine W.quoE rfl rfl rfl rfl (by omega) (by omega) (by simp only [Int.reduceDiv]; rfl) (by omega) ?_)
    | refine W.nil ?_
    | refine J.reg ?_
    | refine J.seq ?_
    | refine J.condT rfl ?_
    | refine J.block ?_
    | refine J.endBlk ?_
    | refine J.skip ?_
    | refine J.rnd ?_
  skip
  refine J.regD [bq] mixed (by kernel_rfl) ?_
  repeat' first
    | (show W _ _ _ _ _ (_ :: _) _ _ _; first
      | refine W.storeE rfl rfl rfl rfl (by rfl) (by simp [Value.oneCell']) rfl (cs := nineL (nineR ts t) 7) rfl ?_
      | refine W.pure rfl rfl rfl rfl ?_
      | refine W.cmpT rfl rfl rfl rfl (by simp only [cmpP]; first | done | omega) ?_
      | refine W.indexAddrE rfl rfl rfl rfl (by omega) (by simp only [Int.reduceToNat, Nat.reduceMul, Nat.reduceAdd, Nat.zero_add]; rfl) ?_
      | refine W.ld rfl rfl rfl rfl rfl ?_
      | refine W.add64E rfl rfl rfl rfl (by simp only [Int.reduceAdd]; rfl) (by omega) ?_
      | refine W.build rfl rfl rfl ?_
      | refine W.remE rfl rfl rfl rfl (by omega) (by omega) (by simp only [Int.reduceMod]; rfl) ?_
      | refine W.quoE rfl rfl rfl rfl (by omega) (by omega) (by simp only [Int.reduceDiv]; rfl) (by omega) ?_)
    | refine W.nil ?_
    | refine J.reg ?_
    | refine J.seq ?_
    | refine J.condT rfl ?_
    | refine J.block ?_
    | refine J.endBlk ?_
    | refine J.skip ?_
    | refine J.rnd ?_
  skip
  refine J.regD [bq] mixed (by kernel_rfl) ?_
  repeat' first
    | (show W _ _ _ _ _ (_ :: _) _ _ _; first
      | refine W.storeE rfl rfl rfl rfl (by rfl) (by simp [Value.oneCell']) rfl (cs := nineL (nineR ts t) 8) rfl ?_
      | refine W.pure rfl rfl rfl rfl ?_
      | refine W.cmpT rfl rfl rfl rfl (by simp only [cmpP]; first | done | omega) ?_
      | refine W.indexAddrE rfl rfl rfl rfl (by omega) (by simp only [Int.reduceToNat, Nat.reduceMul, Nat.reduceAdd, Nat.zero_add]; rfl) ?_
      | refine W.ld rfl rfl rfl rfl rfl ?_
      | refine W.add64E rfl rfl rfl rfl (by simp only [Int.reduceAdd]; rfl) (by omega) ?_
      | refine W.build rfl rfl rfl ?_
      | refine W.remE rfl rfl rfl rfl (by omega) (by omega) (by simp only [Int.reduceMod]; rfl) ?_
      | refine W.quoE rfl rfl rfl rfl (by omega) (by omega) (by simp only [Int.reduceDiv]; rfl) (by omega) ?_)
    | refine W.nil ?_
    | refine J.reg ?_
    | refine J.seq ?_
    | refine J.condT rfl ?_
    | refine J.block ?_
    | refine J.endBlk ?_
    | refine J.skip ?_
    | refine J.rnd ?_
  skip
  refine J.regD [bq] mixed (by kernel_rfl) ?_
  repeat' first
    | (show W _ _ _ _ _ (_ :: _) _ _ _; first
      | refine W.storeA rfl rfl rfl rfl (by rfl) (by rfl) (nineL_one ts t) ?_
      | refine W.storeE rfl rfl rfl rfl (by rfl) (by simp [Value.oneCell']) rfl (cs := nineL (nineR ts t) 9) rfl ?_
      | refine W.pure rfl rfl rfl rfl ?_
      | refine W.cmpF rfl rfl rfl rfl (by simp only [cmpN]; first | done | omega) ?_
      | refine W.indexAddrE rfl rfl rfl rfl (by omega) (by simp only [Int.reduceToNat, Nat.reduceMul, Nat.reduceAdd, Nat.zero_add]; rfl) ?_
      | refine W.ld rfl rfl rfl rfl rfl ?_
      | refine W.add64E rfl rfl rfl rfl (by simp only [Int.reduceAdd]; rfl) (by omega) ?_
      | refine W.ldaV rfl rfl rfl rfl rfl rfl ?_
      | refine W.build rfl rfl rfl ?_)
    | refine W.nil ?_
    | refine J.reg ?_
    | refine J.seq ?_
    | refine J.condF rfl ?_
    | refine J.endBlk ?_
    | refine J.rnd ?_
    | refine J.exit rfl ?_
  exact J.retF [m, s] (resc1 rfl rfl rfl rfl) rfl
end
end Go.Proofs.YtphnadpmpcifoaaDoor
