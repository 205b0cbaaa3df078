/-
  Package quad on trees (2): leaves, nodes, nothing, cells.
-/
import Derived.Test.YtphnadpmpcifoaaDoorTTile
import Derived.Test.YtphnadpmpcifoaaDoorTOps
namespace Go.Proofs.YtphnadpmpcifoaaDoor
open Go.Sq Go.Qm
attribute [local irreducible] SW J
set_option maxHeartbeats 4000000
set_option maxRecDepth 10000

section
variable {s room : Nat} {U ts : List T}
theorem Leaf_is {t : Nat} (h : Inv room U ts) (hu : T.leaf t ∈ U) (ht : t < 18446744073709551616) :
    CallF P 14 [ptr s, u64v t] [(s, treeP s room ts)] (okI (num (put ts (.leaf t)) (.leaf t))) [(s, treeP s room (put ts (.leaf t)))] := by
  refine callR_of Tryd.func14 rfl Tryd.ntmps14 rfl fun σ F => ?_
  repeat' first
    | (show W _ _ _ _ _ (_ :: _) _ _ _; first
      | refine W.pure rfl rfl rfl rfl ?_
      | refine W.eqPtNil rfl rfl rfl ?_
      | refine W.build rfl rfl rfl ?_)
    | refine W.nil ?_
    | refine J.reg ?_
    | refine J.seq ?_
    | refine J.condF rfl ?_
    | refine J.skip ?_
  refine W.call0 (Count_is ht) rfl rfl rfl ?_
  skip
  refine W.call1 (add_is (t := .leaf t) h hu trivial ht (by simp [T.lev])) rfl rfl rfl ?_
  repeat' first
    | refine W.pure rfl rfl rfl rfl ?_
    | refine W.nil ?_
  exact J.retF [s] (res2 rfl rfl rfl) rfl

theorem many_at {id : Int} {t : T} {cur : Array Value} (h : Is ts id t) (hc : cur.toList.take (ts.length * 1) = (ts.map T.many).map (Value.int .i64)) : cur.toList[0 + (id - 1).toNat * 1]? = some (int t.many) := by
  have h1 := h.lt
  have h2 : (cur.toList.take (ts.length * 1))[(id - 1).toNat]? = some (int t.many) := by
    rw [hc]; simp only [List.getElem?_map, h.2, Option.map_some]
  rw [List.getElem?_take] at h2
  split at h2
  · rw [Nat.zero_add, Nat.mul_one]; exact h2
  · cases h2
theorem Node_is {ia ib ic id : Int} {a b c d : T} (h : Inv room U ts) (ha : Is ts ia a) (hb : Is ts ib b) (hc : Is ts ic c) (hd : Is ts id d) (hu : T.node a b c d ∈ U) (e1 : b.lev = a.lev) (e2 : c.lev = a.lev) (e3 : d.lev = a.lev) (hl : a.lev < 40) :
    CallF P 44 [ptr s, .agg #[int ia, int ib, int ic, int id]] [(s, treeP s room ts)] (okI (num (put ts (.node a b c d)) (.node a b c d))) [(s, treeP s room (put ts (.node a b c d)))] := by
  have la := sqOf_lev ts a; have lb := sqOf_lev ts b; have lc := sqOf_lev ts c; have ld := sqOf_lev ts d
  have ma := a.many_in; have mb := b.many_in; have mc := c.many_in; have md := d.many_in
  have bn := h.le; have br := h.room
  have ho : (T.node a b c d).ok := ⟨h.reg.ok _ ha.mem, h.reg.ok _ hb.mem, h.reg.ok _ hc.mem, h.reg.ok _ hd.mem, e1, e2, e3⟩
  have hk : kidsIn ts (T.node a b c d) := ⟨ha.mem, hb.mem, hc.mem, hd.mem⟩
  have na := ha.num h.reg.nodup; have nb := hb.num h.reg.nodup; have nc := hc.num h.reg.nodup; have nd := hd.num h.reg.nodup
  have ra := h.i64 ha; have rb := h.i64 hb; have rc := h.i64 hc; have rd := h.i64 hd
  have fa := ha.lt; have fb := hb.lt; have fc := hc.lt; have fd := hd.lt
  have hlev : IntE .add .i64 (sqOf ts a).lev 1 (int (a.lev + 1)) := ⟨by rw [la]; simp only [intV]; rw [wrap_i64 (by omega) (by omega)]⟩
  refine callR_of Tryd.func44 rfl Tryd.ntmps44 rfl fun σ F => ?_
  repeat' first
    | (show W _ _ _ _ _ (_ :: _) _ _ _; first
      | refine W.pure rfl rfl rfl rfl ?_
      | refine W.ldaV rfl rfl rfl rfl rfl rfl ?_
      | refine W.alloc rfl rfl (fun bq => ?_)
      | refine W.boxA rfl rfl rfl (fun bq => ?_))
    | refine W.nil ?_
    | refine J.reg ?_
    | refine J.seq ?_
    | refine J.block ?_
  refine J.rounds 5 ?_
  repeat' first
    | (show W _ _ _ _ _ (_ :: _) _ _ _; first
      | refine W.pure rfl rfl rfl rfl ?_
      | refine W.cmpT rfl rfl rfl rfl (by simp only [cmpP]; first | done | omega) ?_
      | refine W.indexA1 rfl rfl rfl rfl rfl (by omega) rfl ?_)
    | refine W.nil ?_
    | refine J.reg ?_
    | refine J.seq ?_
    | refine J.condT rfl ?_
    | refine J.block ?_
    | refine J.skip ?_
    | refine J.rnd ?_
  refine W.call1 (at_is ha) rfl rfl rfl ?_
  repeat' first
    | (show W _ _ _ _ _ (_ :: _) _ _ _; first
      | refine W.pure rfl rfl rfl rfl ?_
      | refine W.alloc rfl rfl (fun bq => ?_)
      | refine W.storeA rfl rfl rfl rfl (by rfl) (by rfl) (by simp [Value.oneCell']) ?_)
    | refine W.nil ?_
  repeat' first
    | refine J.seq ?_
  refine J.reg ?_
  repeat' first
    | refine W.pure rfl rfl rfl rfl ?_
    | refine W.neIfNilT rfl rfl rfl ?_
    | refine W.nil ?_
  repeat' first
    | refine J.seq ?_
    | refine J.condF rfl ?_
    | refine J.skip ?_
  refine J.reg ?_
  repeat' first
    | (show W _ _ _ _ _ (_ :: _) _ _ _; first
      | refine W.pure rfl rfl rfl rfl ?_
      | refine W.indexAddrE rfl rfl rfl rfl (by omega) (by simp only [Int.reduceToNat, Nat.reduceMul, Nat.zero_add]; rfl) ?_
      | refine W.ldaV rfl rfl rfl rfl rfl rfl ?_
      | refine W.storeE rfl rfl rfl rfl (by rfl) (by simp [Value.oneCell']) rfl (by simp only [Nat.zero_add, List.drop_succ_cons, List.drop_zero, List.take_zero, List.cons_append, List.nil_append]; rfl) ?_)
    | refine W.nil ?_
  skip
  refine J.openSt s fun rp vl gl vm gm bk => ?_
  refine J.rowAt gm rfl (by simp [stOf]; omega) fun cap cur c1 c2 c3 c4 hv => ?_
  subst hv
  have hmany := many_at ha (by simpa [stOf] using c4)
  refine J.reg ?_
  repeat' first
    | (show W _ _ _ _ _ (_ :: _) _ _ _; first
      | refine W.indexAddrS rfl rfl rfl rfl (by simp only [stOf, List.length_map]; omega) ?_
      | refine W.ldV rfl rfl rfl rfl rfl hmany ?_
      | refine W.pure rfl rfl rfl rfl ?_
      | refine W.ldV rfl rfl rfl rfl rfl rfl ?_
      | refine W.fieldAddr0 rfl rfl rfl rfl rfl ?_
      | refine W.add64 rfl rfl rfl rfl (by omega) ?_
      | refine W.sub64 rfl rfl rfl rfl (by omega) ?_
      | refine W.min2 rfl rfl rfl rfl ?_)
    | refine W.nil ?_
  refine J.rowShut gm rfl c1 c2 c3 c4 ?_
  refine J.shutSt s gl gm bk rp ?_
  clear hmany
  repeat' first
    | (show W _ _ _ _ _ (_ :: _) _ _ _; first
      | refine W.pure rfl rfl rfl rfl ?_
      | refine W.cmpT rfl rfl rfl rfl (by simp only [cmpP]; first | done | omega) ?_
      | refine W.add64E rfl rfl rfl rfl (by simp only [Int.reduceAdd]; rfl) (by omega) ?_
      | refine W.indexA1 rfl rfl rfl rfl rfl (by omega) rfl ?_)
    | refine W.nil ?_
    | refine J.reg ?_
    | refine J.seq ?_
    | refine J.condT rfl ?_
    | refine J.block ?_
    | refine J.endBlk ?_
    | refine J.skip ?_
    | refine J.rnd ?_
  refine W.call1 (at_is hb) rfl rfl rfl ?_
  repeat' first
    | (show W _ _ _ _ _ (_ :: _) _ _ _; first
      | refine W.pure rfl rfl rfl rfl ?_
      | refine W.alloc rfl rfl (fun bq => ?_)
      | refine W.storeA rfl rfl rfl rfl (by rfl) (by rfl) (by simp [Value.oneCell']) ?_)
    | refine W.nil ?_
  repeat' first
    | refine J.seq ?_
  refine J.reg ?_
  repeat' first
    | refine W.pure rfl rfl rfl rfl ?_
    | refine W.neIfNilT rfl rfl rfl ?_
    | refine W.nil ?_
  repeat' first
    | refine J.seq ?_
    | refine J.condF rfl ?_
    | refine J.skip ?_
  refine J.reg ?_
  repeat' first
    | (show W _ _ _ _ _ (_ :: _) _ _ _; first
      | refine W.pure rfl rfl rfl rfl ?_
      | refine W.indexAddrE rfl rfl rfl rfl (by omega) (by simp only [Int.reduceToNat, Nat.reduceMul, Nat.zero_add]; rfl) ?_
      | refine W.ldaV rfl rfl rfl rfl rfl rfl ?_
      | refine W.storeE rfl rfl rfl rfl (by rfl) (by simp [Value.oneCell']) rfl (by simp only [Nat.reduceAdd, List.drop_succ_cons, List.drop_zero, List.take_succ_cons, List.take_zero, List.cons_append, List.nil_append]; rfl) ?_)
    | refine W.nil ?_
  skip
  refine J.openSt s fun rp vl gl vm gm bk => ?_
  refine J.rowAt gm rfl (by simp [stOf]; omega) fun cap cur c1 c2 c3 c4 hv => ?_
  subst hv
  have hmany := many_at hb (by simpa [stOf] using c4)
  refine J.reg ?_
  repeat' first
    | (show W _ _ _ _ _ (_ :: _) _ _ _; first
      | refine W.indexAddrS rfl rfl rfl rfl (by simp only [stOf, List.length_map]; omega) ?_
      | refine W.ldV rfl rfl rfl rfl rfl hmany ?_
      | refine W.pure rfl rfl rfl rfl ?_
      | refine W.ldV rfl rfl rfl rfl rfl rfl ?_
      | refine W.fieldAddr0 rfl rfl rfl rfl rfl ?_
      | refine W.add64 rfl rfl rfl rfl (by omega) ?_
      | refine W.sub64 rfl rfl rfl rfl (by omega) ?_
      | refine W.min2 rfl rfl rfl rfl ?_)
    | refine W.nil ?_
  refine J.rowShut gm rfl c1 c2 c3 c4 ?_
  refine J.shutSt s gl gm bk rp ?_
  clear hmany
  repeat' first
    | (show W _ _ _ _ _ (_ :: _) _ _ _; first
      | refine W.pure rfl rfl rfl rfl ?_
      | refine W.cmpT rfl rfl rfl rfl (by simp only [cmpP]; first | done | omega) ?_
      | refine W.add64E rfl rfl rfl rfl (by simp only [Int.reduceAdd]; rfl) (by omega) ?_
      | refine W.indexA1 rfl rfl rfl rfl rfl (by omega) rfl ?_)
    | refine W.nil ?_
    | refine J.reg ?_
    | refine J.seq ?_
    | refine J.condT rfl ?_
    | refine J.block ?_
    | refine J.endBlk ?_
    | refine J.skip ?_
    | refine J.rnd ?_
  refine W.call1 (at_is hc) rfl rfl rfl ?_
  repeat' first
    | (show W _ _ _ _ _ (_ :: _) _ _ _; first
      | refine W.pure rfl rfl rfl rfl ?_
      | refine W.alloc rfl rfl (fun bq => ?_)
      | refine W.storeA rfl rfl rfl rfl (by rfl) (by rfl) (by simp [Value.oneCell']) ?_)
    | refine W.nil ?_
  repeat' first
    | refine J.seq ?_
  refine J.reg ?_
  repeat' first
    | refine W.pure rfl rfl rfl rfl ?_
    | refine W.neIfNilT rfl rfl rfl ?_
    | refine W.nil ?_
  repeat' first
    | refine J.seq ?_
    | refine J.condF rfl ?_
    | refine J.skip ?_
  refine J.reg ?_
  repeat' first
    | (show W _ _ _ _ _ (_ :: _) _ _ _; first
      | refine W.pure rfl rfl rfl rfl ?_
      | refine W.indexAddrE rfl rfl rfl rfl (by omega) (by simp only [Int.reduceToNat, Nat.reduceMul, Nat.zero_add]; rfl) ?_
      | refine W.ldaV rfl rfl rfl rfl rfl rfl ?_
      | refine W.storeE rfl rfl rfl rfl (by rfl) (by simp [Value.oneCell']) rfl (by simp only [Nat.reduceAdd, List.drop_succ_cons, List.drop_zero, List.take_succ_cons, List.take_zero, List.cons_append, List.nil_append]; rfl) ?_)
    | refine W.nil ?_
  skip
  refine J.openSt s fun rp vl gl vm gm bk => ?_
  refine J.rowAt gm rfl (by simp [stOf]; omega) fun cap cur c1 c2 c3 c4 hv => ?_
  subst hv
  have hmany := many_at hc (by simpa [stOf] using c4)
  refine J.reg ?_
  repeat' first
    | (show W _ _ _ _ _ (_ :: _) _ _ _; first
      | refine W.indexAddrS rfl rfl rfl rfl (by simp only [stOf, List.length_map]; omega) ?_
      | refine W.ldV rfl rfl rfl rfl rfl hmany ?_
      | refine W.pure rfl rfl rfl rfl ?_
      | refine W.ldV rfl rfl rfl rfl rfl rfl ?_
      | refine W.fieldAddr0 rfl rfl rfl rfl rfl ?_
      | refine W.add64 rfl rfl rfl rfl (by omega) ?_
      | refine W.sub64 rfl rfl rfl rfl (by omega) ?_
      | refine W.min2 rfl rfl rfl rfl ?_)
    | refine W.nil ?_
  refine J.rowShut gm rfl c1 c2 c3 c4 ?_
  refine J.shutSt s gl gm bk rp ?_
  clear hmany
  repeat' first
    | (show W _ _ _ _ _ (_ :: _) _ _ _; first
      | refine W.pure rfl rfl rfl rfl ?_
      | refine W.cmpT rfl rfl rfl rfl (by simp only [cmpP]; first | done | omega) ?_
      | refine W.add64E rfl rfl rfl rfl (by simp only [Int.reduceAdd]; rfl) (by omega) ?_
      | refine W.indexA1 rfl rfl rfl rfl rfl (by omega) rfl ?_)
    | refine W.nil ?_
    | refine J.reg ?_
    | refine J.seq ?_
    | refine J.condT rfl ?_
    | refine J.block ?_
    | refine J.endBlk ?_
    | refine J.skip ?_
    | refine J.rnd ?_
  refine W.call1 (at_is hd) rfl rfl rfl ?_
  repeat' first
    | (show W _ _ _ _ _ (_ :: _) _ _ _; first
      | refine W.pure rfl rfl rfl rfl ?_
      | refine W.alloc rfl rfl (fun bq => ?_)
      | refine W.storeA rfl rfl rfl rfl (by rfl) (by rfl) (by simp [Value.oneCell']) ?_)
    | refine W.nil ?_
  repeat' first
    | refine J.seq ?_
  refine J.reg ?_
  repeat' first
    | refine W.pure rfl rfl rfl rfl ?_
    | refine W.neIfNilT rfl rfl rfl ?_
    | refine W.nil ?_
  repeat' first
    | refine J.seq ?_
    | refine J.condF rfl ?_
    | refine J.skip ?_
  refine J.reg ?_
  repeat' first
    | (show W _ _ _ _ _ (_ :: _) _ _ _; first
      | refine W.pure rfl rfl rfl rfl ?_
      | refine W.indexAddrE rfl rfl rfl rfl (by omega) (by simp only [Int.reduceToNat, Nat.reduceMul, Nat.zero_add]; rfl) ?_
      | refine W.ldaV rfl rfl rfl rfl rfl rfl ?_
      | refine W.storeE rfl rfl rfl rfl (by rfl) (by simp [Value.oneCell']) rfl (by simp only [Nat.reduceAdd, List.drop_succ_cons, List.drop_zero, List.take_succ_cons, List.take_zero, List.cons_append, List.nil_append]; rfl) ?_)
    | refine W.nil ?_
  skip
  refine J.openSt s fun rp vl gl vm gm bk => ?_
  refine J.rowAt gm rfl (by simp [stOf]; omega) fun cap cur c1 c2 c3 c4 hv => ?_
  subst hv
  have hmany := many_at hd (by simpa [stOf] using c4)
  refine J.reg ?_
  repeat' first
    | (show W _ _ _ _ _ (_ :: _) _ _ _; first
      | refine W.indexAddrS rfl rfl rfl rfl (by simp only [stOf, List.length_map]; omega) ?_
      | refine W.ldV rfl rfl rfl rfl rfl hmany ?_
      | refine W.pure rfl rfl rfl rfl ?_
      | refine W.ldV rfl rfl rfl rfl rfl rfl ?_
      | refine W.fieldAddr0 rfl rfl rfl rfl rfl ?_
      | refine W.add64 rfl rfl rfl rfl (by omega) ?_
      | refine W.sub64 rfl rfl rfl rfl (by omega) ?_
      | refine W.min2 rfl rfl rfl rfl ?_)
    | refine W.nil ?_
  refine J.rowShut gm rfl c1 c2 c3 c4 ?_
  refine J.shutSt s gl gm bk rp ?_
  clear hmany
  subst na nb nc nd
  repeat' first
    | (show W _ _ _ _ _ (_ :: _) _ _ _; first
      | refine W.pure rfl rfl rfl rfl ?_
      | refine W.cmpF rfl rfl rfl rfl (by simp only [cmpN]; first | done | omega) ?_
      | refine W.add64E rfl rfl rfl rfl (by simp only [Int.reduceAdd]; rfl) (by omega) ?_
      | refine W.ldaV rfl rfl rfl rfl rfl rfl ?_)
    | refine W.nil ?_
    | refine J.reg ?_
    | refine J.seq ?_
    | refine J.condF rfl ?_
    | refine J.block ?_
    | refine J.endBlk ?_
    | refine J.rnd ?_
    | refine J.exit rfl ?_
  refine J.rounds 5 ?_
  repeat' first
    | (show W _ _ _ _ _ (_ :: _) _ _ _; first
      | refine W.pure rfl rfl rfl rfl ?_
      | refine W.ldV rfl rfl rfl rfl rfl rfl ?_
      | refine W.binE rfl rfl rfl rfl (by assumption) ?_
      | refine W.cmpT rfl rfl rfl rfl (by simp only [cmpP]; first | done | omega) ?_
      | refine W.cmpF rfl rfl rfl rfl (by simp only [cmpN]; first | done | omega) ?_
      | refine W.fieldAddr0 rfl rfl rfl rfl rfl ?_
      | refine W.indexAddrE rfl rfl rfl rfl (by omega) (by simp only [Int.reduceToNat, Nat.reduceMul, Nat.zero_add]; rfl) ?_
      | refine W.add64E rfl rfl rfl rfl (by simp only [Int.reduceAdd]; rfl) (by omega) ?_
      | refine W.ldaV rfl rfl rfl rfl rfl rfl ?_
      | refine W.alloc rfl rfl (fun bq => ?_)
      | refine W.storeA rfl rfl rfl rfl (by rfl) (by rfl) (by simp [Value.oneCell']) ?_
      | refine W.indexAnE rfl rfl rfl rfl rfl (by omega) (by simp only [Int.reduceToNat, Nat.reduceMul, List.drop_succ_cons, List.drop_zero, List.take_succ_cons, List.take_zero]; rfl) ?_
      | refine W.build rfl rfl rfl ?_)
    | refine W.nil ?_
    | refine J.reg ?_
    | refine J.seq ?_
    | refine J.condT rfl ?_
    | refine J.condF rfl ?_
    | refine J.block ?_
    | refine J.endBlk ?_
    | refine J.skip ?_
    | refine J.rnd ?_
    | refine J.exit rfl ?_
  refine W.call1 (add_is (t := .node a b c d) h hu hk ho (by simp only [T.lev]; omega)) rfl rfl rfl ?_
  repeat' first
    | refine W.pure rfl rfl rfl rfl ?_
    | refine W.nil ?_
  exact J.retF [s] (res2 rfl rfl rfl) rfl
end
end Go.Proofs.YtphnadpmpcifoaaDoor
