/-
  Package grow: the maker's calls.
-/
import Derived.Test.YtphnadpmpcifoaaDoorTGrow
namespace Go.Qm
/-- A store grew, and is right. -/
structure Step (room : Nat) (U ts ts' : List T) : Prop where
  pre : ts <+: ts'
  inv : Inv room U ts'
theorem Step.refl {room : Nat} {U ts : List T} (h : Inv room U ts) : Step room U ts ts := ⟨List.prefix_refl _, h⟩
theorem Step.trans {room : Nat} {U ts ts1 ts2 : List T} (h : Step room U ts ts1) (g : Step room U ts1 ts2) : Step room U ts ts2 := ⟨h.pre.trans g.pre, g.inv⟩
end Go.Qm
namespace Go.Proofs.YtphnadpmpcifoaaDoor
open Go.Sq Go.Qm
abbrev mkP (m s : Nat) : HP := pts m (.cells #[ptr s, .nilIface] 62 (0, 0))
/-- A tree was made. -/
def Made (room : Nat) (U ts : List T) (m s : Nat) (t : T) : Value → List Ent → Prop := fun v N => ∃ ts' id, v = int id ∧ N = [(m, mkP m s), (s, treeP s room ts')] ∧ Step room U ts ts' ∧ Is ts' id t
section
variable {ops : Array Oper} {n : Nat} {bars : Nat → Bool} {K : EnvF → List Ent → List Ent → Prop} {l : List (Nat × Oper)} {E : Env} {St V : List Ent} {i : Nat} {d : Tmp} {ty : TypeId} {pos : String} {aft : Array Edge} {g : Option (Nat × Bool)}
theorem W.mk {f : FuncId} {xs : Array Operand} {Ts : Array TypeId} {vs : List Value} {room m s : Nat} {U ts : List T} {t : T} {M M' : List Ent} (hc : CallR P f vs [(m, mkP m s), (s, treeP s room ts)] (Made room U ts m s t))
    [hp : PickK V m (mkP m s) M] [hq : PickK M s (treeP s room ts) M'] [hb : Bod P f]
    (hw : wants ops ⟨some d, .call ⟨.value (.func f), xs, Ts⟩, ty, pos, aft, g⟩ E.get = some true) (hf : fits n ⟨some d, .call ⟨.value (.func f), xs, Ts⟩, ty, pos, aft, g⟩ = true) (hx : evL E xs.toList = some vs)
    (h : ∀ ts' id, Step room U ts ts' → Is ts' id t → W P ops n bars K l ((d, int id) :: E) St ((m, mkP m s) :: (s, treeP s room ts') :: M')) : W P ops n bars K ((i, ⟨some d, .call ⟨.value (.func f), xs, Ts⟩, ty, pos, aft, g⟩) :: l) E St V :=
  W.call hc (ks := [m, s]) rfl (hp := ⟨hp.perm.trans (hq.perm.cons _)⟩) hw hf hx fun v N hh => by
    obtain ⟨ts', id, rfl, rfl, h1, h2⟩ := hh
    exact h ts' id h1 h2
end
attribute [local irreducible] SW J fldOf zeroF fourN nextN cutN layN genN
set_option maxHeartbeats 4000000
set_option maxRecDepth 10000
section
variable {s room m : Nat} {U ts : List T}
theorem mnode_is {ia ib ic id : Int} {a b c d : T} (h : Inv room U ts) (ha : Is ts ia a) (hb : Is ts ib b) (hc : Is ts ic c) (hd : Is ts id d) (hu : T.node a b c d ∈ U) (e1 : b.lev = a.lev) (e2 : c.lev = a.lev) (e3 : d.lev = a.lev) (hl : a.lev < 40) :
    CallR P 27 [ptr m, int ia, int ib, int ic, int id] [(m, mkP m s), (s, treeP s room ts)] (Made room U ts m s (.node a b c d)) := by
  refine callR_of Tryd.func27 rfl Tryd.ntmps27 rfl fun σ F => ?_
  repeat' first
    | (show W _ _ _ _ _ (_ :: _) _ _ _; first
      | refine W.call1 (Node_is h ha hb hc hd hu e1 e2 e3 hl) rfl rfl rfl ?_
      | refine W.pure rfl rfl rfl rfl ?_
      | refine W.ldV rfl rfl rfl rfl rfl rfl ?_
      | refine W.fieldAddr0 rfl rfl rfl rfl rfl ?_
      | refine W.store1 rfl rfl rfl rfl rfl rfl rfl (by simp only [List.set_cons_succ, List.set_cons_zero]; rfl) ?_
      | refine W.neIfNilT rfl rfl rfl ?_
      | refine W.build rfl rfl rfl ?_)
    | refine W.nil ?_
    | refine J.reg ?_
    | refine J.seq ?_
    | refine J.condF rfl ?_
    | refine J.skip ?_
  have ho : (T.node a b c d).ok := ⟨h.reg.ok _ ha.mem, h.reg.ok _ hb.mem, h.reg.ok _ hc.mem, h.reg.ok _ hd.mem, e1, e2, e3⟩
  exact J.retR [m, s] (res1 rfl rfl) ⟨_, _, rfl, rfl, ⟨put_pre, h.put hu ⟨ha.mem, hb.mem, hc.mem, hd.mem⟩ ho (by simp only [T.lev]; omega)⟩, is_num put_mem⟩
theorem mleaf_is {t : Nat} (h : Inv room U ts) (hu : T.leaf t ∈ U) (ht : t < 18446744073709551616) :
    CallR P 37 [ptr m, u64v t] [(m, mkP m s), (s, treeP s room ts)] (Made room U ts m s (.leaf t)) := by
  refine callR_of Tryd.func37 rfl Tryd.ntmps37 rfl fun σ F => ?_
  repeat' first
    | (show W _ _ _ _ _ (_ :: _) _ _ _; first
      | refine W.call1 (Leaf_is h hu ht) rfl rfl rfl ?_
      | refine W.pure rfl rfl rfl rfl ?_
      | refine W.ldV rfl rfl rfl rfl rfl rfl ?_
      | refine W.fieldAddr0 rfl rfl rfl rfl rfl ?_
      | refine W.store1 rfl rfl rfl rfl rfl rfl rfl (by simp only [List.set_cons_succ, List.set_cons_zero]; rfl) ?_
      | refine W.neIfNilT rfl rfl rfl ?_)
    | refine W.nil ?_
    | refine J.reg ?_
    | refine J.seq ?_
    | refine J.condF rfl ?_
    | refine J.skip ?_
  exact J.retR [m, s] (res1 rfl rfl) ⟨_, _, rfl, rfl, ⟨put_pre, h.put hu trivial ht (by simp [T.lev])⟩, is_num put_mem⟩
theorem mkids_is {id : Int} {a b c d : T} (hi : Is ts id (.node a b c d)) :
    CallF P 22 [ptr m, int id] [(m, mkP m s), (s, treeP s room ts)] (.agg #[int (num ts a), int (num ts b), int (num ts c), int (num ts d)]) [(m, mkP m s), (s, treeP s room ts)] := by
  refine callR_of Tryd.func22 rfl Tryd.ntmps22 rfl fun σ F => ?_
  repeat' first
    | (show W _ _ _ _ _ (_ :: _) _ _ _; first
      | refine W.call1 (Kids_is hi) rfl rfl rfl ?_
      | refine W.pure rfl rfl rfl rfl ?_
      | refine W.ldV rfl rfl rfl rfl rfl rfl ?_
      | refine W.fieldAddr0 rfl rfl rfl rfl rfl ?_
      | refine W.ldaV rfl rfl rfl rfl rfl rfl ?_
      | refine W.alloc rfl rfl (fun bq => ?_)
      | refine W.storeA rfl rfl rfl rfl (by rfl) (by rfl) (by simp [Value.oneCell']) ?_
      | refine W.store1 rfl rfl rfl rfl rfl rfl rfl (by simp only [List.set_cons_succ, List.set_cons_zero]; rfl) ?_
      | refine W.neIfNilT rfl rfl rfl ?_)
    | refine W.nil ?_
    | refine J.reg ?_
    | refine J.seq ?_
    | refine J.condF rfl ?_
    | refine J.skip ?_
  exact J.retF [m, s] (resc1 rfl rfl rfl rfl) rfl
theorem mtile_is {id : Int} {t : Nat} (hi : Is ts id (.leaf t)) :
    CallF P 24 [ptr m, int id] [(m, mkP m s), (s, treeP s room ts)] (u64v t) [(m, mkP m s), (s, treeP s room ts)] := by
  refine callR_of Tryd.func24 rfl Tryd.ntmps24 rfl fun σ F => ?_
  repeat' first
    | (show W _ _ _ _ _ (_ :: _) _ _ _; first
      | refine W.call1 (Tile_is hi) rfl rfl rfl ?_
      | refine W.pure rfl rfl rfl rfl ?_
      | refine W.ldV rfl rfl rfl rfl rfl rfl ?_
      | refine W.fieldAddr0 rfl rfl rfl rfl rfl ?_
      | refine W.store1 rfl rfl rfl rfl rfl rfl rfl (by simp only [List.set_cons_succ, List.set_cons_zero]; rfl) ?_
      | refine W.neIfNilT rfl rfl rfl ?_)
    | refine W.nil ?_
    | refine J.reg ?_
    | refine J.seq ?_
    | refine J.condF rfl ?_
    | refine J.skip ?_
  exact J.retF [m, s] (res1 rfl rfl) rfl
theorem mtiles_is {i0 i1 i2 i3 : Int} {t0 t1 t2 t3 : Nat} (h0 : Is ts i0 (.leaf t0)) (h1 : Is ts i1 (.leaf t1)) (h2 : Is ts i2 (.leaf t2)) (h3 : Is ts i3 (.leaf t3)) :
    CallF P 39 [ptr m, .agg #[int i0, int i1, int i2, int i3]] [(m, mkP m s), (s, treeP s room ts)] (.agg #[u64v t0, u64v t1, u64v t2, u64v t3]) [(m, mkP m s), (s, treeP s room ts)] := by
  refine callR_of Tryd.func39 rfl Tryd.ntmps39 rfl fun σ F => ?_
  repeat' first
    | (show W _ _ _ _ _ (_ :: _) _ _ _; first
      | refine W.pure rfl rfl rfl rfl ?_
      | refine W.ldaV rfl rfl rfl rfl rfl rfl ?_
      | refine W.alloc rfl rfl (fun bq => ?_)
      | refine W.boxA rfl rfl rfl (fun bq => ?_))
    | refine W.nil ?_
    | refine J.reg ?_
    | refine J.seq ?_
    | refine J.block ?_
  refine J.rounds 5 ?_
  repeat' first
    | (show W _ _ _ _ _ (_ :: _) _ _ _; first
      | refine W.pure rfl rfl rfl rfl ?_
      | refine W.cmpT rfl rfl rfl rfl (by simp only [cmpP]; first | done | omega) ?_
      | refine W.indexA1 rfl rfl rfl rfl rfl (by omega) rfl ?_)
    | refine W.nil ?_
    | refine J.reg ?_
    | refine J.seq ?_
    | refine J.condT rfl ?_
    | refine J.block ?_
    | refine J.skip ?_
    | refine J.rnd ?_
  refine W.call2 (mtile_is h0) rfl rfl rfl ?_
  repeat' first
    | (show W _ _ _ _ _ (_ :: _) _ _ _; first
      | refine W.pure rfl rfl rfl rfl ?_
      | refine W.cmpT rfl rfl rfl rfl (by simp only [cmpP]; first | done | omega) ?_
      | refine W.indexAddrE rfl rfl rfl rfl (by omega) (by simp only [Int.reduceToNat, Nat.reduceMul, Nat.zero_add]; rfl) ?_
      | refine W.add64E rfl rfl rfl rfl (by simp only [Int.reduceAdd]; rfl) (by omega) ?_
      | refine W.store1 rfl rfl rfl rfl rfl rfl rfl (by simp only [List.set_cons_zero]; rfl) ?_
      | refine W.indexA1 rfl rfl rfl rfl rfl (by omega) rfl ?_)
    | refine W.nil ?_
    | refine J.reg ?_
    | refine J.seq ?_
    | refine J.condT rfl ?_
    | refine J.block ?_
    | refine J.endBlk ?_
    | refine J.skip ?_
    | refine J.rnd ?_
  refine W.call2 (mtile_is h1) rfl rfl rfl ?_
  repeat' first
    | (show W _ _ _ _ _ (_ :: _) _ _ _; first
      | refine W.pure rfl rfl rfl rfl ?_
      | refine W.cmpT rfl rfl rfl rfl (by simp only [cmpP]; first | done | omega) ?_
      | refine W.indexAddrE rfl rfl rfl rfl (by omega) (by simp only [Int.reduceToNat, Nat.reduceMul, Nat.zero_add]; rfl) ?_
      | refine W.add64E rfl rfl rfl rfl (by simp only [Int.reduceAdd]; rfl) (by omega) ?_
      | refine W.store1 rfl rfl rfl rfl rfl rfl rfl (by simp only [List.set_cons_succ, List.set_cons_zero]; rfl) ?_
      | refine W.indexA1 rfl rfl rfl rfl rfl (by omega) rfl ?_)
    | refine W.nil ?_
    | refine J.reg ?_
    | refine J.seq ?_
    | refine J.condT rfl ?_
    | refine J.block ?_
    | refine J.endBlk ?_
    | refine J.skip ?_
    | refine J.rnd ?_
  refine W.call2 (mtile_is h2) rfl rfl rfl ?_
  repeat' first
    | (show W _ _ _ _ _ (_ :: _) _ _ _; first
      | refine W.pure rfl rfl rfl rfl ?_
      | refine W.cmpT rfl rfl rfl rfl (by simp only [cmpP]; first | done | omega) ?_
      | refine W.indexAddrE rfl rfl rfl rfl (by omega) (by simp only [Int.reduceToNat, Nat.reduceMul, Nat.zero_add]; rfl) ?_
      | refine W.add64E rfl rfl rfl rfl (by simp only [Int.reduceAdd]; rfl) (by omega) ?_
      | refine W.store1 rfl rfl rfl rfl rfl rfl rfl (by simp only [List.set_cons_succ, List.set_cons_zero]; rfl) ?_
      | refine W.indexA1 rfl rfl rfl rfl rfl (by omega) rfl ?_)
    | refine W.nil ?_
    | refine J.reg ?_
    | refine J.seq ?_
    | refine J.condT rfl ?_
    | refine J.block ?_
    | refine J.endBlk ?_
    | refine J.skip ?_
    | refine J.rnd ?_
  refine W.call2 (mtile_is h3) rfl rfl rfl ?_
  repeat' first
    | (show W _ _ _ _ _ (_ :: _) _ _ _; first
      | refine W.pure rfl rfl rfl rfl ?_
      | refine W.cmpF rfl rfl rfl rfl (by simp only [cmpN]; first | done | omega) ?_
      | refine W.indexAddrE rfl rfl rfl rfl (by omega) (by simp only [Int.reduceToNat, Nat.reduceMul, Nat.zero_add]; rfl) ?_
      | refine W.add64E rfl rfl rfl rfl (by simp only [Int.reduceAdd]; rfl) (by omega) ?_
      | refine W.ldaV rfl rfl rfl rfl rfl rfl ?_
      | refine W.storeA rfl rfl rfl rfl (by rfl) (by rfl) (by simp [Value.oneCell']) ?_
      | refine W.store1 rfl rfl rfl rfl rfl rfl rfl (by simp only [List.set_cons_succ, List.set_cons_zero]; rfl) ?_)
    | refine W.nil ?_
    | refine J.reg ?_
    | refine J.seq ?_
    | refine J.condF rfl ?_
    | refine J.endBlk ?_
    | refine J.rnd ?_
    | refine J.exit rfl ?_
  exact J.retF [m, s] (resc1 rfl rfl rfl rfl) rfl
end
end Go.Proofs.YtphnadpmpcifoaaDoor
