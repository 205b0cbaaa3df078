/-
  Package grow: what is large goes on, given that what is smaller does.
-/
import Derived.Test.YtphnadpmpcifoaaDoorTKnow
namespace Go.Proofs.YtphnadpmpcifoaaDoor
open Go.Sq Go.Qm
attribute [local irreducible] SW J T.lev T.ok T.k0 T.k1 T.k2 T.k3 T.cells num T.ctr T.grow T.nineN T.nineC T.growNew T.mid T.jj
set_option maxHeartbeats 8000000
set_option maxRecDepth 10000
section
variable {s room m g b l n k : Nat} {U ts : List T}
theorem is_lev {ts : List T} (r : Reg ts) {id : Int} {t : T} (hi : Is ts id t) : t.lev ≤ 40 := r.lev _ hi.mem
theorem large_fast {id Ji L : Int} {t : T} {j : Nat} (ih : GrowAt b l k) (h : Inv room U ts) (hi : Is ts id t) (hl : t.lev = k + 5) (hJ : Ji = j) (hj : j = k + 3) (hL : L = k + 5) (hu : ∀ u ∈ T.growNew b l (k + 1) t j, u ∈ U) :
    CallR P 42 [ptr g, ptr m, int id, int Ji, int L] [(m, mkP m s), (g, gwP g s b l n ts), (s, treeP s room ts)] (Larged room U ts g s m b l (T.grow b l (k + 1) t j)) := by
  obtain ⟨u9, u10, uq, ug, ue⟩ := growNew_in hu
  have ho := h.reg.ok _ hi.mem
  have l40 := is_lev h.reg hi
  have ml := fun i => (T.mid_ok b l j ho hl i).2
  have ql : ∀ i, (T.quad (T.mid b l k t j) i).lev = k + 4 := fun i => (T.quad_ok (T.mid_ok b l j ho hl) i).2
  have ol : ∀ i, (T.out b l k t j i).lev = k + 3 := fun i => (T.grow_ok b l k _ _ (T.quad_ok (T.mid_ok b l j ho hl) i).1 (ql i)).2
  have k40 : k + 3 < 40 := by omega
  have me : ∀ i, T.mid b l k t j i = T.grow b l k (T.nineN t i) (j - 1) := fun i => by unfold T.mid; rw [if_pos hj]
  have je : T.jj k j = j - 1 := by unfold T.jj; rw [if_pos hj]
  have u9' : ∀ i, i < 9 → T.nineN t i ∈ U := fun i hi => by have := u9 i hi; rwa [if_pos hj] at this
  have nl : ∀ i, (T.nineN t i).lev = k + 4 := fun i => by have := (T.nineN_ok ho (by omega) i).2; omega
  have hp := mwhole_is (s := s) (m := m) h hi.mem (by omega) u9'
  refine callR_of Tryd.func42 rfl Tryd.ntmps42 rfl fun σ F => ?_
  repeat' first
    | (show W _ _ _ _ _ (_ :: _) _ _ _; first
      | refine W.call2 (mnine_is h hi (by omega)) rfl rfl rfl ?_
      | refine W.mk9 hp rfl rfl rfl (fun tp o0 o1 o2 o3 o4 o5 o6 o7 o8 S i0 i1 i2 i3 i4 i5 i6 i7 i8 => ?_)
      | refine W.pure rfl rfl rfl rfl ?_
      | refine W.cmpT rfl rfl rfl rfl (by simp only [cmpP]; first | done | omega) ?_
      | refine W.sub64 rfl rfl rfl rfl (by omega) ?_
      | refine W.alloc rfl rfl (fun bq => ?_))
    | refine W.nil ?_
    | refine J.reg ?_
    | refine J.seq ?_
    | refine J.block ?_
  refine J.weakG (g := g) S.pre ?_
  refine J.rounds 10 ?_
  repeat' first
    | (show W _ _ _ _ _ (_ :: _) _ _ _; first
      | refine W.gk (ih (J := Ji - 1) (L := L - 1) (jn := j - 1) S.inv i0 (nl 0) (by omega) (by omega) (by omega) (u10 hj 0 (by decide))) rfl rfl rfl (fun ta0 a0 na0 sa0 ma0 za0 => ?_)
      | refine W.pure rfl rfl rfl rfl ?_
      | refine W.ldV rfl rfl rfl rfl rfl rfl ?_
      | refine W.cmpT rfl rfl rfl rfl (by simp only [cmpP]; first | done | omega) ?_
      | refine W.fieldAddr0 rfl rfl rfl rfl rfl ?_
      | refine W.indexAddrE rfl rfl rfl rfl (by omega) (by simp only [Int.reduceToNat, Nat.reduceMul, Nat.zero_add]; rfl) ?_
      | refine W.add64E rfl rfl rfl rfl (by simp only [Int.reduceAdd]; rfl) (by omega) ?_
      | refine W.sub64 rfl rfl rfl rfl (by omega) ?_
      | refine W.store1 rfl rfl rfl rfl rfl rfl rfl (by simp only [List.set_cons_succ, List.set_cons_zero]; rfl) ?_
      | refine W.indexA1 rfl rfl rfl rfl rfl (by omega) rfl ?_
      | refine W.eqIfNilT rfl rfl rfl ?_)
    | refine W.nil ?_
    | refine J.reg ?_
    | refine J.seq ?_
    | refine J.condT rfl ?_
    | refine J.block ?_
    | refine J.skip ?_
    | refine J.rnd ?_
    | refine J.exit rfl ?_
  have S := S.trans sa0
  have i1 := i1.mono sa0.pre
  have i2 := i2.mono sa0.pre
  have i3 := i3.mono sa0.pre
  have i4 := i4.mono sa0.pre
  have i5 := i5.mono sa0.pre
  have i6 := i6.mono sa0.pre
  have i7 := i7.mono sa0.pre
  have i8 := i8.mono sa0.pre
  repeat' first
    | (show W _ _ _ _ _ (_ :: _) _ _ _; first
      | refine W.gk (ih (J := Ji - 1) (L := L - 1) (jn := j - 1) S.inv i1 (nl 1) (by omega) (by omega) (by omega) (u10 hj 1 (by decide))) rfl rfl rfl (fun ta1 a1 na1 sa1 ma1 za1 => ?_)
      | refine W.pure rfl rfl rfl rfl ?_
      | refine W.ldV rfl rfl rfl rfl rfl rfl ?_
      | refine W.cmpT rfl rfl rfl rfl (by simp only [cmpP]; first | done | omega) ?_
      | refine W.fieldAddr0 rfl rfl rfl rfl rfl ?_
      | refine W.indexAddrE rfl rfl rfl rfl (by omega) (by simp only [Int.reduceToNat, Nat.reduceMul, Nat.zero_add]; rfl) ?_
      | refine W.add64E rfl rfl rfl rfl (by simp only [Int.reduceAdd]; rfl) (by omega) ?_
      | refine W.sub64 rfl rfl rfl rfl (by omega) ?_
      | refine W.store1 rfl rfl rfl rfl rfl rfl rfl (by simp only [List.set_cons_succ, List.set_cons_zero]; rfl) ?_
      | refine W.indexA1 rfl rfl rfl rfl rfl (by omega) rfl ?_
      | refine W.eqIfNilT rfl rfl rfl ?_)
    | refine W.nil ?_
    | refine J.reg ?_
    | refine J.seq ?_
    | refine J.condT rfl ?_
    | refine J.block ?_
    | refine J.skip ?_
    | refine J.rnd ?_
    | refine J.exit rfl ?_
  have S := S.trans sa1
  have i2 := i2.mono sa1.pre
  have i3 := i3.mono sa1.pre
  have i4 := i4.mono sa1.pre
  have i5 := i5.mono sa1.pre
  have i6 := i6.mono sa1.pre
  have i7 := i7.mono sa1.pre
  have i8 := i8.mono sa1.pre
  have ma0 := ma0.mono sa1.pre
  repeat' first
    | (show W _ _ _ _ _ (_ :: _) _ _ _; first
      | refine W.gk (ih (J := Ji - 1) (L := L - 1) (jn := j - 1) S.inv i2 (nl 2) (by omega) (by omega) (by omega) (u10 hj 2 (by decide))) rfl rfl rfl (fun ta2 a2 na2 sa2 ma2 za2 => ?_)
      | refine W.pure rfl rfl rfl rfl ?_
      | refine W.ldV rfl rfl rfl rfl rfl rfl ?_
      | refine W.cmpT rfl rfl rfl rfl (by simp only [cmpP]; first | done | omega) ?_
      | refine W.fieldAddr0 rfl rfl rfl rfl rfl ?_
      | refine W.indexAddrE rfl rfl rfl rfl (by omega) (by simp only [Int.reduceToNat, Nat.reduceMul, Nat.zero_add]; rfl) ?_
      | refine W.add64E rfl rfl rfl rfl (by simp only [Int.reduceAdd]; rfl) (by omega) ?_
      | refine W.sub64 rfl rfl rfl rfl (by omega) ?_
      | refine W.store1 rfl rfl rfl rfl rfl rfl rfl (by simp only [List.set_cons_succ, List.set_cons_zero]; rfl) ?_
      | refine W.indexA1 rfl rfl rfl rfl rfl (by omega) rfl ?_
      | refine W.eqIfNilT rfl rfl rfl ?_)
    | refine W.nil ?_
    | refine J.reg ?_
    | refine J.seq ?_
    | refine J.condT rfl ?_
    | refine J.block ?_
    | refine J.skip ?_
    | refine J.rnd ?_
    | refine J.exit rfl ?_
  have S := S.trans sa2
  have i3 := i3.mono sa2.pre
  have i4 := i4.mono sa2.pre
  have i5 := i5.mono sa2.pre
  have i6 := i6.mono sa2.pre
  have i7 := i7.mono sa2.pre
  have i8 := i8.mono sa2.pre
  have ma0 := ma0.mono sa2.pre
  have ma1 := ma1.mono sa2.pre
  repeat' first
    | (show W _ _ _ _ _ (_ :: _) _ _ _; first
      | refine W.gk (ih (J := Ji - 1) (L := L - 1) (jn := j - 1) S.inv i3 (nl 3) (by omega) (by omega) (by omega) (u10 hj 3 (by decide))) rfl rfl rfl (fun ta3 a3 na3 sa3 ma3 za3 => ?_)
      | refine W.pure rfl rfl rfl rfl ?_
      | refine W.ldV rfl rfl rfl rfl rfl rfl ?_
      | refine W.cmpT rfl rfl rfl rfl (by simp only [cmpP]; first | done | omega) ?_
      | refine W.fieldAddr0 rfl rfl rfl rfl rfl ?_
      | refine W.indexAddrE rfl rfl rfl rfl (by omega) (by simp only [Int.reduceToNat, Nat.reduceMul, Nat.zero_add]; rfl) ?_
      | refine W.add64E rfl rfl rfl rfl (by simp only [Int.reduceAdd]; rfl) (by omega) ?_
      | refine W.sub64 rfl rfl rfl rfl (by omega) ?_
      | refine W.store1 rfl rfl rfl rfl rfl rfl rfl (by simp only [List.set_cons_succ, List.set_cons_zero]; rfl) ?_
      | refine W.indexA1 rfl rfl rfl rfl rfl (by omega) rfl ?_
      | refine W.eqIfNilT rfl rfl rfl ?_)
    | refine W.nil ?_
    | refine J.reg ?_
    | refine J.seq ?_
    | refine J.condT rfl ?_
    | refine J.block ?_
    | refine J.skip ?_
    | refine J.rnd ?_
    | refine J.exit rfl ?_
  have S := S.trans sa3
  have i4 := i4.mono sa3.pre
  have i5 := i5.mono sa3.pre
  have i6 := i6.mono sa3.pre
  have i7 := i7.mono sa3.pre
  have i8 := i8.mono sa3.pre
  have ma0 := ma0.mono sa3.pre
  have ma1 := ma1.mono sa3.pre
  have ma2 := ma2.mono sa3.pre
  repeat' first
    | (show W _ _ _ _ _ (_ :: _) _ _ _; first
      | refine W.gk (ih (J := Ji - 1) (L := L - 1) (jn := j - 1) S.inv i4 (nl 4) (by omega) (by omega) (by omega) (u10 hj 4 (by decide))) rfl rfl rfl (fun ta4 a4 na4 sa4 ma4 za4 => ?_)
      | refine W.pure rfl rfl rfl rfl ?_
      | refine W.ldV rfl rfl rfl rfl rfl rfl ?_
      | refine W.cmpT rfl rfl rfl rfl (by simp only [cmpP]; first | done | omega) ?_
      | refine W.fieldAddr0 rfl rfl rfl rfl rfl ?_
      | refine W.indexAddrE rfl rfl rfl rfl (by omega) (by simp only [Int.reduceToNat, Nat.reduceMul, Nat.zero_add]; rfl) ?_
      | refine W.add64E rfl rfl rfl rfl (by simp only [Int.reduceAdd]; rfl) (by omega) ?_
      | refine W.sub64 rfl rfl rfl rfl (by omega) ?_
      | refine W.store1 rfl rfl rfl rfl rfl rfl rfl (by simp only [List.set_cons_succ, List.set_cons_zero]; rfl) ?_
      | refine W.indexA1 rfl rfl rfl rfl rfl (by omega) rfl ?_
      | refine W.eqIfNilT rfl rfl rfl ?_)
    | refine W.nil ?_
    | refine J.reg ?_
    | refine J.seq ?_
    | refine J.condT rfl ?_
    | refine J.block ?_
    | refine J.skip ?_
    | refine J.rnd ?_
    | refine J.exit rfl ?_
  have S := S.trans sa4
  have i5 := i5.mono sa4.pre
  have i6 := i6.mono sa4.pre
  have i7 := i7.mono sa4.pre
  have i8 := i8.mono sa4.pre
  have ma0 := ma0.mono sa4.pre
  have ma1 := ma1.mono sa4.pre
  have ma2 := ma2.mono sa4.pre
  have ma3 := ma3.mono sa4.pre
  repeat' first
    | (show W _ _ _ _ _ (_ :: _) _ _ _; first
      | refine W.gk (ih (J := Ji - 1) (L := L - 1) (jn := j - 1) S.inv i5 (nl 5) (by omega) (by omega) (by omega) (u10 hj 5 (by decide))) rfl rfl rfl (fun ta5 a5 na5 sa5 ma5 za5 => ?_)
      | refine W.pure rfl rfl rfl rfl ?_
      | refine W.ldV rfl rfl rfl rfl rfl rfl ?_
      | refine W.cmpT rfl rfl rfl rfl (by simp only [cmpP]; first | done | omega) ?_
      | refine W.fieldAddr0 rfl rfl rfl rfl rfl ?_
      | refine W.indexAddrE rfl rfl rfl rfl (by omega) (by simp only [Int.reduceToNat, Nat.reduceMul, Nat.zero_add]; rfl) ?_
      | refine W.add64E rfl rfl rfl rfl (by simp only [Int.reduceAdd]; rfl) (by omega) ?_
      | refine W.sub64 rfl rfl rfl rfl (by omega) ?_
      | refine W.store1 rfl rfl rfl rfl rfl rfl rfl (by simp only [List.set_cons_succ, List.set_cons_zero]; rfl) ?_
      | refine W.indexA1 rfl rfl rfl rfl rfl (by omega) rfl ?_
      | refine W.eqIfNilT rfl rfl rfl ?_)
    | refine W.nil ?_
    | refine J.reg ?_
    | refine J.seq ?_
    | refine J.condT rfl ?_
    | refine J.block ?_
    | refine J.skip ?_
    | refine J.rnd ?_
    | refine J.exit rfl ?_
  have S := S.trans sa5
  have i6 := i6.mono sa5.pre
  have i7 := i7.mono sa5.pre
  have i8 := i8.mono sa5.pre
  have ma0 := ma0.mono sa5.pre
  have ma1 := ma1.mono sa5.pre
  have ma2 := ma2.mono sa5.pre
  have ma3 := ma3.mono sa5.pre
  have ma4 := ma4.mono sa5.pre
  repeat' first
    | (show W _ _ _ _ _ (_ :: _) _ _ _; first
      | refine W.gk (ih (J := Ji - 1) (L := L - 1) (jn := j - 1) S.inv i6 (nl 6) (by omega) (by omega) (by omega) (u10 hj 6 (by decide))) rfl rfl rfl (fun ta6 a6 na6 sa6 ma6 za6 => ?_)
      | refine W.pure rfl rfl rfl rfl ?_
      | refine W.ldV rfl rfl rfl rfl rfl rfl ?_
      | refine W.cmpT rfl rfl rfl rfl (by simp only [cmpP]; first | done | omega) ?_
      | refine W.fieldAddr0 rfl rfl rfl rfl rfl ?_
      | refine W.indexAddrE rfl rfl rfl rfl (by omega) (by simp only [Int.reduceToNat, Nat.reduceMul, Nat.zero_add]; rfl) ?_
      | refine W.add64E rfl rfl rfl rfl (by simp only [Int.reduceAdd]; rfl) (by omega) ?_
      | refine W.sub64 rfl rfl rfl rfl (by omega) ?_
      | refine W.store1 rfl rfl rfl rfl rfl rfl rfl (by simp only [List.set_cons_succ, List.set_cons_zero]; rfl) ?_
      | refine W.indexA1 rfl rfl rfl rfl rfl (by omega) rfl ?_
      | refine W.eqIfNilT rfl rfl rfl ?_)
    | refine W.nil ?_
    | refine J.reg ?_
    | refine J.seq ?_
    | refine J.condT rfl ?_
    | refine J.block ?_
    | refine J.skip ?_
    | refine J.rnd ?_
    | refine J.exit rfl ?_
  have S := S.trans sa6
  have i7 := i7.mono sa6.pre
  have i8 := i8.mono sa6.pre
  have ma0 := ma0.mono sa6.pre
  have ma1 := ma1.mono sa6.pre
  have ma2 := ma2.mono sa6.pre
  have ma3 := ma3.mono sa6.pre
  have ma4 := ma4.mono sa6.pre
  have ma5 := ma5.mono sa6.pre
  repeat' first
    | (show W _ _ _ _ _ (_ :: _) _ _ _; first
      | refine W.gk (ih (J := Ji - 1) (L := L - 1) (jn := j - 1) S.inv i7 (nl 7) (by omega) (by omega) (by omega) (u10 hj 7 (by decide))) rfl rfl rfl (fun ta7 a7 na7 sa7 ma7 za7 => ?_)
      | refine W.pure rfl rfl rfl rfl ?_
      | refine W.ldV rfl rfl rfl rfl rfl rfl ?_
      | refine W.cmpT rfl rfl rfl rfl (by simp only [cmpP]; first | done | omega) ?_
      | refine W.fieldAddr0 rfl rfl rfl rfl rfl ?_
      | refine W.indexAddrE rfl rfl rfl rfl (by omega) (by simp only [Int.reduceToNat, Nat.reduceMul, Nat.zero_add]; rfl) ?_
      | refine W.add64E rfl rfl rfl rfl (by simp only [Int.reduceAdd]; rfl) (by omega) ?_
      | refine W.sub64 rfl rfl rfl rfl (by omega) ?_
      | refine W.store1 rfl rfl rfl rfl rfl rfl rfl (by simp only [List.set_cons_succ, List.set_cons_zero]; rfl) ?_
      | refine W.indexA1 rfl rfl rfl rfl rfl (by omega) rfl ?_
      | refine W.eqIfNilT rfl rfl rfl ?_)
    | refine W.nil ?_
    | refine J.reg ?_
    | refine J.seq ?_
    | refine J.condT rfl ?_
    | refine J.block ?_
    | refine J.skip ?_
    | refine J.rnd ?_
    | refine J.exit rfl ?_
  have S := S.trans sa7
  have i8 := i8.mono sa7.pre
  have ma0 := ma0.mono sa7.pre
  have ma1 := ma1.mono sa7.pre
  have ma2 := ma2.mono sa7.pre
  have ma3 := ma3.mono sa7.pre
  have ma4 := ma4.mono sa7.pre
  have ma5 := ma5.mono sa7.pre
  have ma6 := ma6.mono sa7.pre
  repeat' first
    | (show W _ _ _ _ _ (_ :: _) _ _ _; first
      | refine W.gk (ih (J := Ji - 1) (L := L - 1) (jn := j - 1) S.inv i8 (nl 8) (by omega) (by omega) (by omega) (u10 hj 8 (by decide))) rfl rfl rfl (fun ta8 a8 na8 sa8 ma8 za8 => ?_)
      | refine W.pure rfl rfl rfl rfl ?_
      | refine W.cmpF rfl rfl rfl rfl (by simp only [cmpN]; first | done | omega) ?_
      | refine W.fieldAddr0 rfl rfl rfl rfl rfl ?_
      | refine W.indexAddrE rfl rfl rfl rfl (by omega) (by simp only [Int.reduceToNat, Nat.reduceMul, Nat.zero_add]; rfl) ?_
      | refine W.add64E rfl rfl rfl rfl (by simp only [Int.reduceAdd]; rfl) (by omega) ?_
      | refine W.sub64 rfl rfl rfl rfl (by omega) ?_
      | refine W.alloc rfl rfl (fun bq => ?_)
      | refine W.store1 rfl rfl rfl rfl rfl rfl rfl (by simp only [List.set_cons_succ, List.set_cons_zero]; rfl) ?_)
    | refine W.nil ?_
    | refine J.reg ?_
    | refine J.seq ?_
    | refine J.condT rfl ?_
    | refine J.condF rfl ?_
    | refine J.block ?_
    | refine J.rnd ?_
    | refine J.exit rfl ?_
  have S := S.trans sa8
  have ma0 := ma0.mono sa8.pre
  have ma1 := ma1.mono sa8.pre
  have ma2 := ma2.mono sa8.pre
  have ma3 := ma3.mono sa8.pre
  have ma4 := ma4.mono sa8.pre
  have ma5 := ma5.mono sa8.pre
  have ma6 := ma6.mono sa8.pre
  have ma7 := ma7.mono sa8.pre
  rw [← me] at ma0 ma1 ma2 ma3 ma4 ma5 ma6 ma7 ma8
  skip
  refine J.rounds 5 ?_
  repeat' first
    | (show W _ _ _ _ _ (_ :: _) _ _ _; first
      | refine W.pure rfl rfl rfl rfl ?_
      | refine W.cmpT rfl rfl rfl rfl (by simp only [cmpP]; first | done | omega) ?_
      | refine W.add64E rfl rfl rfl rfl (by simp only [Int.reduceAdd]; rfl) (by omega) ?_
      | refine W.mul64E rfl rfl rfl rfl (by simp only [Int.reduceMul]; rfl) (by omega) ?_
      | refine W.remE rfl rfl rfl rfl (by omega) (by omega) (by simp only [Int.reduceMod]; rfl) ?_
      | refine W.quoE rfl rfl rfl rfl (by omega) (by omega) (by simp only [Int.reduceDiv]; rfl) (by omega) ?_)
    | refine W.nil ?_
    | refine J.reg ?_
    | refine J.seq ?_
    | refine J.condT rfl ?_
    | refine J.block ?_
    | refine J.skip ?_
    | refine J.rnd ?_
  refine J.regD [m, s] mixed (by kernel_rfl) ?_
  repeat' first
    | (show W _ _ _ _ _ (_ :: _) _ _ _; first
      | refine W.mk (mnode_is S.inv ma0 ma1 ma3 ma4 (uq 0 (by decide)) ((ml 1).trans (ml 0).symm) ((ml 3).trans (ml 0).symm) ((ml 4).trans (ml 0).symm) (by rw [ml]; exact k40)) rfl rfl rfl (fun tb0 b0 sb0 mb0 => ?_)
      | refine W.pure rfl rfl rfl rfl ?_
      | refine W.indexAddrE rfl rfl rfl rfl (by omega) (by simp only [Int.reduceToNat, Nat.reduceMul, Nat.zero_add]; rfl) ?_
      | refine W.ld rfl rfl rfl rfl rfl ?_
      | refine W.add64E rfl rfl rfl rfl (by simp only [Int.reduceAdd]; rfl) (by omega) ?_)
    | refine W.nil ?_
  have S := S.trans sb0
  have ma0 := ma0.mono sb0.pre
  have ma1 := ma1.mono sb0.pre
  have ma2 := ma2.mono sb0.pre
  have ma3 := ma3.mono sb0.pre
  have ma4 := ma4.mono sb0.pre
  have ma5 := ma5.mono sb0.pre
  have ma6 := ma6.mono sb0.pre
  have ma7 := ma7.mono sb0.pre
  have ma8 := ma8.mono sb0.pre
  refine J.weakG (g := g) sb0.pre ?_
  repeat' first
    | (show W _ _ _ _ _ (_ :: _) _ _ _; first
      | refine W.gk (ih (J := Ji - 1) (L := L - 1) (jn := T.jj k j) S.inv mb0 (ql 0) (by rw [je]; omega) (by rw [je]; omega) (by omega) (ug 0 (by decide))) rfl rfl rfl (fun tc0 c0 nc0 sc0 mc0 zc0 => ?_)
      | refine W.pure rfl rfl rfl rfl ?_
      | refine W.ldV rfl rfl rfl rfl rfl rfl ?_
      | refine W.cmpT rfl rfl rfl rfl (by simp only [cmpP]; first | done | omega) ?_
      | refine W.fieldAddr0 rfl rfl rfl rfl rfl ?_
      | refine W.indexAddrE rfl rfl rfl rfl (by omega) (by simp only [Int.reduceToNat, Nat.reduceMul, Nat.zero_add]; rfl) ?_
      | refine W.add64E rfl rfl rfl rfl (by simp only [Int.reduceAdd]; rfl) (by omega) ?_
      | refine W.sub64 rfl rfl rfl rfl (by omega) ?_
      | refine W.mul64E rfl rfl rfl rfl (by simp only [Int.reduceMul]; rfl) (by omega) ?_
      | refine W.store1 rfl rfl rfl rfl rfl rfl rfl (by simp only [List.set_cons_succ, List.set_cons_zero]; rfl) ?_
      | refine W.eqIfNilT rfl rfl rfl ?_
      | refine W.remE rfl rfl rfl rfl (by omega) (by omega) (by simp only [Int.reduceMod]; rfl) ?_
      | refine W.quoE rfl rfl rfl rfl (by omega) (by omega) (by simp only [Int.reduceDiv]; rfl) (by omega) ?_)
    | refine W.nil ?_
    | refine J.reg ?_
    | refine J.seq ?_
    | refine J.condT rfl ?_
    | refine J.block ?_
    | refine J.endBlk ?_
    | refine J.skip ?_
    | refine J.rnd ?_
  have S := S.trans sc0
  have ma0 := ma0.mono sc0.pre
  have ma1 := ma1.mono sc0.pre
  have ma2 := ma2.mono sc0.pre
  have ma3 := ma3.mono sc0.pre
  have ma4 := ma4.mono sc0.pre
  have ma5 := ma5.mono sc0.pre
  have ma6 := ma6.mono sc0.pre
  have ma7 := ma7.mono sc0.pre
  have ma8 := ma8.mono sc0.pre
  skip
  refine J.regD [m, s] mixed (by kernel_rfl) ?_
  repeat' first
    | (show W _ _ _ _ _ (_ :: _) _ _ _; first
      | refine W.mk (mnode_is S.inv ma1 ma2 ma4 ma5 (uq 1 (by decide)) ((ml 2).trans (ml 1).symm) ((ml 4).trans (ml 1).symm) ((ml 5).trans (ml 1).symm) (by rw [ml]; exact k40)) rfl rfl rfl (fun tb1 b1 sb1 mb1 => ?_)
      | refine W.pure rfl rfl rfl rfl ?_
      | refine W.indexAddrE rfl rfl rfl rfl (by omega) (by simp only [Int.reduceToNat, Nat.reduceMul, Nat.zero_add]; rfl) ?_
      | refine W.ld rfl rfl rfl rfl rfl ?_
      | refine W.add64E rfl rfl rfl rfl (by simp only [Int.reduceAdd]; rfl) (by omega) ?_)
    | refine W.nil ?_
  have S := S.trans sb1
  have ma0 := ma0.mono sb1.pre
  have ma1 := ma1.mono sb1.pre
  have ma2 := ma2.mono sb1.pre
  have ma3 := ma3.mono sb1.pre
  have ma4 := ma4.mono sb1.pre
  have ma5 := ma5.mono sb1.pre
  have ma6 := ma6.mono sb1.pre
  have ma7 := ma7.mono sb1.pre
  have ma8 := ma8.mono sb1.pre
  have mc0 := mc0.mono sb1.pre
  refine J.weakG (g := g) sb1.pre ?_
  repeat' first
    | (show W _ _ _ _ _ (_ :: _) _ _ _; first
      | refine W.gk (ih (J := Ji - 1) (L := L - 1) (jn := T.jj k j) S.inv mb1 (ql 1) (by rw [je]; omega) (by rw [je]; omega) (by omega) (ug 1 (by decide))) rfl rfl rfl (fun tc1 c1 nc1 sc1 mc1 zc1 => ?_)
      | refine W.pure rfl rfl rfl rfl ?_
      | refine W.ldV rfl rfl rfl rfl rfl rfl ?_
      | refine W.cmpT rfl rfl rfl rfl (by simp only [cmpP]; first | done | omega) ?_
      | refine W.fieldAddr0 rfl rfl rfl rfl rfl ?_
      | refine W.indexAddrE rfl rfl rfl rfl (by omega) (by simp only [Int.reduceToNat, Nat.reduceMul, Nat.zero_add]; rfl) ?_
      | refine W.add64E rfl rfl rfl rfl (by simp only [Int.reduceAdd]; rfl) (by omega) ?_
      | refine W.sub64 rfl rfl rfl rfl (by omega) ?_
      | refine W.mul64E rfl rfl rfl rfl (by simp only [Int.reduceMul]; rfl) (by omega) ?_
      | refine W.store1 rfl rfl rfl rfl rfl rfl rfl (by simp only [List.set_cons_succ, List.set_cons_zero]; rfl) ?_
      | refine W.eqIfNilT rfl rfl rfl ?_
      | refine W.remE rfl rfl rfl rfl (by omega) (by omega) (by simp only [Int.reduceMod]; rfl) ?_
      | refine W.quoE rfl rfl rfl rfl (by omega) (by omega) (by simp only [Int.reduceDiv]; rfl) (by omega) ?_)
    | refine W.nil ?_
    | refine J.reg ?_
    | refine J.seq ?_
    | refine J.condT rfl ?_
    | refine J.block ?_
    | refine J.endBlk ?_
    | refine J.skip ?_
    | refine J.rnd ?_
  have S := S.trans sc1
  have ma0 := ma0.mono sc1.pre
  have ma1 := ma1.mono sc1.pre
  have ma2 := ma2.mono sc1.pre
  have ma3 := ma3.mono sc1.pre
  have ma4 := ma4.mono sc1.pre
  have ma5 := ma5.mono sc1.pre
  have ma6 := ma6.mono sc1.pre
  have ma7 := ma7.mono sc1.pre
  have ma8 := ma8.mono sc1.pre
  have mc0 := mc0.mono sc1.pre
  skip
  refine J.regD [m, s] mixed (by kernel_rfl) ?_
  repeat' first
    | (show W _ _ _ _ _ (_ :: _) _ _ _; first
      | refine W.mk (mnode_is S.inv ma3 ma4 ma6 ma7 (uq 2 (by decide)) ((ml 4).trans (ml 3).symm) ((ml 6).trans (ml 3).symm) ((ml 7).trans (ml 3).symm) (by rw [ml]; exact k40)) rfl rfl rfl (fun tb2 b2 sb2 mb2 => ?_)
      | refine W.pure rfl rfl rfl rfl ?_
      | refine W.indexAddrE rfl rfl rfl rfl (by omega) (by simp only [Int.reduceToNat, Nat.reduceMul, Nat.zero_add]; rfl) ?_
      | refine W.ld rfl rfl rfl rfl rfl ?_
      | refine W.add64E rfl rfl rfl rfl (by simp only [Int.reduceAdd]; rfl) (by omega) ?_)
    | refine W.nil ?_
  have S := S.trans sb2
  have ma0 := ma0.mono sb2.pre
  have ma1 := ma1.mono sb2.pre
  have ma2 := ma2.mono sb2.pre
  have ma3 := ma3.mono sb2.pre
  have ma4 := ma4.mono sb2.pre
  have ma5 := ma5.mono sb2.pre
  have ma6 := ma6.mono sb2.pre
  have ma7 := ma7.mono sb2.pre
  have ma8 := ma8.mono sb2.pre
  have mc0 := mc0.mono sb2.pre
  have mc1 := mc1.mono sb2.pre
  refine J.weakG (g := g) sb2.pre ?_
  repeat' first
    | (show W _ _ _ _ _ (_ :: _) _ _ _; first
      | refine W.gk (ih (J := Ji - 1) (L := L - 1) (jn := T.jj k j) S.inv mb2 (ql 2) (by rw [je]; omega) (by rw [je]; omega) (by omega) (ug 2 (by decide))) rfl rfl rfl (fun tc2 c2 nc2 sc2 mc2 zc2 => ?_)
      | refine W.pure rfl rfl rfl rfl ?_
      | refine W.ldV rfl rfl rfl rfl rfl rfl ?_
      | refine W.cmpT rfl rfl rfl rfl (by simp only [cmpP]; first | done | omega) ?_
      | refine W.fieldAddr0 rfl rfl rfl rfl rfl ?_
      | refine W.indexAddrE rfl rfl rfl rfl (by omega) (by simp only [Int.reduceToNat, Nat.reduceMul, Nat.zero_add]; rfl) ?_
      | refine W.add64E rfl rfl rfl rfl (by simp only [Int.reduceAdd]; rfl) (by omega) ?_
      | refine W.sub64 rfl rfl rfl rfl (by omega) ?_
      | refine W.mul64E rfl rfl rfl rfl (by simp only [Int.reduceMul]; rfl) (by omega) ?_
      | refine W.store1 rfl rfl rfl rfl rfl rfl rfl (by simp only [List.set_cons_succ, List.set_cons_zero]; rfl) ?_
      | refine W.eqIfNilT rfl rfl rfl ?_
      | refine W.remE rfl rfl rfl rfl (by omega) (by omega) (by simp only [Int.reduceMod]; rfl) ?_
      | refine W.quoE rfl rfl rfl rfl (by omega) (by omega) (by simp only [Int.reduceDiv]; rfl) (by omega) ?_)
    | refine W.nil ?_
    | refine J.reg ?_
    | refine J.seq ?_
    | refine J.condT rfl ?_
    | refine J.block ?_
    | refine J.endBlk ?_
    | refine J.skip ?_
    | refine J.rnd ?_
  have S := S.trans sc2
  have ma0 := ma0.mono sc2.pre
  have ma1 := ma1.mono sc2.pre
  have ma2 := ma2.mono sc2.pre
  have ma3 := ma3.mono sc2.pre
  have ma4 := ma4.mono sc2.pre
  have ma5 := ma5.mono sc2.pre
  have ma6 := ma6.mono sc2.pre
  have ma7 := ma7.mono sc2.pre
  have ma8 := ma8.mono sc2.pre
  have mc0 := mc0.mono sc2.pre
  have mc1 := mc1.mono sc2.pre
  skip
  refine J.regD [m, s] mixed (by kernel_rfl) ?_
  repeat' first
    | (show W _ _ _ _ _ (_ :: _) _ _ _; first
      | refine W.mk (mnode_is S.inv ma4 ma5 ma7 ma8 (uq 3 (by decide)) ((ml 5).trans (ml 4).symm) ((ml 7).trans (ml 4).symm) ((ml 8).trans (ml 4).symm) (by rw [ml]; exact k40)) rfl rfl rfl (fun tb3 b3 sb3 mb3 => ?_)
      | refine W.pure rfl rfl rfl rfl ?_
      | refine W.indexAddrE rfl rfl rfl rfl (by omega) (by simp only [Int.reduceToNat, Nat.reduceMul, Nat.zero_add]; rfl) ?_
      | refine W.ld rfl rfl rfl rfl rfl ?_
      | refine W.add64E rfl rfl rfl rfl (by simp only [Int.reduceAdd]; rfl) (by omega) ?_)
    | refine W.nil ?_
  have S := S.trans sb3
  have ma0 := ma0.mono sb3.pre
  have ma1 := ma1.mono sb3.pre
  have ma2 := ma2.mono sb3.pre
  have ma3 := ma3.mono sb3.pre
  have ma4 := ma4.mono sb3.pre
  have ma5 := ma5.mono sb3.pre
  have ma6 := ma6.mono sb3.pre
  have ma7 := ma7.mono sb3.pre
  have ma8 := ma8.mono sb3.pre
  have mc0 := mc0.mono sb3.pre
  have mc1 := mc1.mono sb3.pre
  have mc2 := mc2.mono sb3.pre
  refine J.weakG (g := g) sb3.pre ?_
  repeat' first
    | (show W _ _ _ _ _ (_ :: _) _ _ _; first
      | refine W.gk (ih (J := Ji - 1) (L := L - 1) (jn := T.jj k j) S.inv mb3 (ql 3) (by rw [je]; omega) (by rw [je]; omega) (by omega) (ug 3 (by decide))) rfl rfl rfl (fun tc3 c3 nc3 sc3 mc3 zc3 => ?_)
      | refine W.pure rfl rfl rfl rfl ?_
      | refine W.ldV rfl rfl rfl rfl rfl rfl ?_
      | refine W.cmpF rfl rfl rfl rfl (by simp only [cmpN]; first | done | omega) ?_
      | refine W.fieldAddr0 rfl rfl rfl rfl rfl ?_
      | refine W.indexAddrE rfl rfl rfl rfl (by omega) (by simp only [Int.reduceToNat, Nat.reduceMul, Nat.zero_add]; rfl) ?_
      | refine W.add64E rfl rfl rfl rfl (by simp only [Int.reduceAdd]; rfl) (by omega) ?_
      | refine W.sub64 rfl rfl rfl rfl (by omega) ?_
      | refine W.store1 rfl rfl rfl rfl rfl rfl rfl (by simp only [List.set_cons_succ, List.set_cons_zero]; rfl) ?_
      | refine W.eqIfNilT rfl rfl rfl ?_)
    | refine W.nil ?_
    | refine J.reg ?_
    | refine J.seq ?_
    | refine J.condT rfl ?_
    | refine J.condF rfl ?_
    | refine J.endBlk ?_
    | refine J.rnd ?_
    | refine J.exit rfl ?_
  have S := S.trans sc3
  have ma0 := ma0.mono sc3.pre
  have ma1 := ma1.mono sc3.pre
  have ma2 := ma2.mono sc3.pre
  have ma3 := ma3.mono sc3.pre
  have ma4 := ma4.mono sc3.pre
  have ma5 := ma5.mono sc3.pre
  have ma6 := ma6.mono sc3.pre
  have ma7 := ma7.mono sc3.pre
  have ma8 := ma8.mono sc3.pre
  have mc0 := mc0.mono sc3.pre
  have mc1 := mc1.mono sc3.pre
  have mc2 := mc2.mono sc3.pre
  have ue' : T.node (T.out b l k t j 0) (T.out b l k t j 1) (T.out b l k t j 2) (T.out b l k t j 3) ∈ U := by rw [← T.grow_succ]; exact ue
  repeat' first
    | refine W.mk (mnode_is (a := T.out b l k t j 0) (b := T.out b l k t j 1) (c := T.out b l k t j 2) (d := T.out b l k t j 3) S.inv mc0 mc1 mc2 mc3 ue' ((ol 1).trans (ol 0).symm) ((ol 2).trans (ol 0).symm) ((ol 3).trans (ol 0).symm) (by rw [ol]; exact k40)) rfl rfl rfl (fun td dd sd md => ?_)
    | refine W.pure rfl rfl rfl rfl ?_
    | refine W.nil ?_
    | refine J.seq ?_
  rw [← T.grow_succ] at md
  refine J.weakG (g := g) sd.pre ?_
  refine J.regD [] mixed (by kernel_rfl) ?_
  repeat' first
    | (show W _ _ _ _ _ (_ :: _) _ _ _; first
      | refine W.pure rfl rfl rfl rfl ?_
      | refine W.fieldAddr0 rfl rfl rfl rfl rfl ?_
      | refine W.ld rfl rfl rfl rfl rfl ?_)
    | refine W.nil ?_
  exact J.retR [m, g, s] (res2 rfl rfl rfl) ⟨_, _, _, rfl, rfl, S.trans sd, md⟩
theorem large_slow {id Ji L : Int} {t : T} {j : Nat} (ih : GrowAt b l k) (h : Inv room U ts) (hi : Is ts id t) (hl : t.lev = k + 5) (hJ : Ji = j) (hj : j ≤ k + 2) (hL : L = k + 5) (hu : ∀ u ∈ T.growNew b l (k + 1) t j, u ∈ U) :
    CallR P 42 [ptr g, ptr m, int id, int Ji, int L] [(m, mkP m s), (g, gwP g s b l n ts), (s, treeP s room ts)] (Larged room U ts g s m b l (T.grow b l (k + 1) t j)) := by
  obtain ⟨u9, u10, uq, ug, ue⟩ := growNew_in hu
  have ho := h.reg.ok _ hi.mem
  have l40 := is_lev h.reg hi
  have ml := fun i => (T.mid_ok b l j ho hl i).2
  have ql : ∀ i, (T.quad (T.mid b l k t j) i).lev = k + 4 := fun i => (T.quad_ok (T.mid_ok b l j ho hl) i).2
  have ol : ∀ i, (T.out b l k t j i).lev = k + 3 := fun i => (T.grow_ok b l k _ _ (T.quad_ok (T.mid_ok b l j ho hl) i).1 (ql i)).2
  have k40 : k + 3 < 40 := by omega
  have hne : j ≠ k + 3 := by omega
  have me : ∀ i, T.mid b l k t j i = T.nineC t i := fun i => by unfold T.mid; rw [if_neg hne]
  have je : T.jj k j = j := by unfold T.jj; rw [if_neg hne]
  have u9' : ∀ i, i < 9 → T.nineC t i ∈ U := fun i hi => by have := u9 i hi; rwa [if_neg hne] at this
  have hp := mmid_is (s := s) (m := m) h hi.mem (by omega) u9'
  refine callR_of Tryd.func42 rfl Tryd.ntmps42 rfl fun σ F => ?_
  repeat' first
    | (show W _ _ _ _ _ (_ :: _) _ _ _; first
      | refine W.call2 (mnine_is h hi (by omega)) rfl rfl rfl ?_
      | refine W.mk9 hp rfl rfl rfl (fun tp o0 o1 o2 o3 o4 o5 o6 o7 o8 S i0 i1 i2 i3 i4 i5 i6 i7 i8 => ?_)
      | refine W.pure rfl rfl rfl rfl ?_
      | refine W.cmpF rfl rfl rfl rfl (by simp only [cmpN]; first | done | omega) ?_
      | refine W.sub64 rfl rfl rfl rfl (by omega) ?_
      | refine W.alloc rfl rfl (fun bq => ?_))
    | refine W.nil ?_
    | refine J.reg ?_
    | refine J.seq ?_
    | refine J.block ?_
  refine J.weakG (g := g) S.pre ?_
  refine J.rounds 10 ?_
  repeat' first
    | (show W _ _ _ _ _ (_ :: _) _ _ _; first
      | refine W.pure rfl rfl rfl rfl ?_
      | refine W.cmpT rfl rfl rfl rfl (by simp only [cmpP]; first | done | omega) ?_
      | refine W.cmpF rfl rfl rfl rfl (by simp only [cmpN]; first | done | omega) ?_
      | refine W.indexAddrE rfl rfl rfl rfl (by omega) (by simp only [Int.reduceToNat, Nat.reduceMul, Nat.zero_add]; rfl) ?_
      | refine W.add64E rfl rfl rfl rfl (by simp only [Int.reduceAdd]; rfl) (by omega) ?_
      | refine W.skip rfl rfl ?_
      | refine W.alloc rfl rfl (fun bq => ?_)
      | refine W.store1 rfl rfl rfl rfl rfl rfl rfl (by simp only [List.set_cons_succ, List.set_cons_zero]; rfl) ?_
      | refine W.indexA1 rfl rfl rfl rfl rfl (by omega) rfl ?_)
    | refine W.nil ?_
    | refine J.reg ?_
    | refine J.seq ?_
    | refine J.condT rfl ?_
    | refine J.condF rfl ?_
    | refine J.block ?_
    | refine J.endBlk ?_
    | refine J.skip ?_
    | refine J.rnd ?_
    | refine J.exit rfl ?_
  rw [← me] at i0 i1 i2 i3 i4 i5 i6 i7 i8
  refine J.rounds 5 ?_
  repeat' first
    | (show W _ _ _ _ _ (_ :: _) _ _ _; first
      | refine W.pure rfl rfl rfl rfl ?_
      | refine W.cmpT rfl rfl rfl rfl (by simp only [cmpP]; first | done | omega) ?_
      | refine W.add64E rfl rfl rfl rfl (by simp only [Int.reduceAdd]; rfl) (by omega) ?_
      | refine W.mul64E rfl rfl rfl rfl (by simp only [Int.reduceMul]; rfl) (by omega) ?_
      | refine W.remE rfl rfl rfl rfl (by omega) (by omega) (by simp only [Int.reduceMod]; rfl) ?_
      | refine W.quoE rfl rfl rfl rfl (by omega) (by omega) (by simp only [Int.reduceDiv]; rfl) (by omega) ?_)
    | refine W.nil ?_
    | refine J.reg ?_
    | refine J.seq ?_
    | refine J.condT rfl ?_
    | refine J.block ?_
    | refine J.skip ?_
    | refine J.rnd ?_
  refine J.regD [m, s] mixed (by kernel_rfl) ?_
  repeat' first
    | (show W _ _ _ _ _ (_ :: _) _ _ _; first
      | refine W.mk (mnode_is S.inv i0 i1 i3 i4 (uq 0 (by decide)) ((ml 1).trans (ml 0).symm) ((ml 3).trans (ml 0).symm) ((ml 4).trans (ml 0).symm) (by rw [ml]; exact k40)) rfl rfl rfl (fun tb0 b0 sb0 mb0 => ?_)
      | refine W.pure rfl rfl rfl rfl ?_
      | refine W.indexAddrE rfl rfl rfl rfl (by omega) (by simp only [Int.reduceToNat, Nat.reduceMul, Nat.zero_add]; rfl) ?_
      | refine W.ld rfl rfl rfl rfl rfl ?_
      | refine W.add64E rfl rfl rfl rfl (by simp only [Int.reduceAdd]; rfl) (by omega) ?_)
    | refine W.nil ?_
  have S := S.trans sb0
  have i0 := i0.mono sb0.pre
  have i1 := i1.mono sb0.pre
  have i2 := i2.mono sb0.pre
  have i3 := i3.mono sb0.pre
  have i4 := i4.mono sb0.pre
  have i5 := i5.mono sb0.pre
  have i6 := i6.mono sb0.pre
  have i7 := i7.mono sb0.pre
  have i8 := i8.mono sb0.pre
  refine J.weakG (g := g) sb0.pre ?_
  repeat' first
    | (show W _ _ _ _ _ (_ :: _) _ _ _; first
      | refine W.gk (ih (J := Ji) (L := L - 1) (jn := T.jj k j) S.inv mb0 (ql 0) (by rw [je]; omega) (by rw [je]; omega) (by omega) (ug 0 (by decide))) rfl rfl rfl (fun tc0 c0 nc0 sc0 mc0 zc0 => ?_)
      | refine W.pure rfl rfl rfl rfl ?_
      | refine W.ldV rfl rfl rfl rfl rfl rfl ?_
      | refine W.cmpT rfl rfl rfl rfl (by simp only [cmpP]; first | done | omega) ?_
      | refine W.fieldAddr0 rfl rfl rfl rfl rfl ?_
      | refine W.indexAddrE rfl rfl rfl rfl (by omega) (by simp only [Int.reduceToNat, Nat.reduceMul, Nat.zero_add]; rfl) ?_
      | refine W.add64E rfl rfl rfl rfl (by simp only [Int.reduceAdd]; rfl) (by omega) ?_
      | refine W.sub64 rfl rfl rfl rfl (by omega) ?_
      | refine W.mul64E rfl rfl rfl rfl (by simp only [Int.reduceMul]; rfl) (by omega) ?_
      | refine W.store1 rfl rfl rfl rfl rfl rfl rfl (by simp only [List.set_cons_succ, List.set_cons_zero]; rfl) ?_
      | refine W.eqIfNilT rfl rfl rfl ?_
      | refine W.remE rfl rfl rfl rfl (by omega) (by omega) (by simp only [Int.reduceMod]; rfl) ?_
      | refine W.quoE rfl rfl rfl rfl (by omega) (by omega) (by simp only [Int.reduceDiv]; rfl) (by omega) ?_)
    | refine W.nil ?_
    | refine J.reg ?_
    | refine J.seq ?_
    | refine J.condT rfl ?_
    | refine J.block ?_
    | refine J.endBlk ?_
    | refine J.skip ?_
    | refine J.rnd ?_
  have S := S.trans sc0
  have i0 := i0.mono sc0.pre
  have i1 := i1.mono sc0.pre
  have i2 := i2.mono sc0.pre
  have i3 := i3.mono sc0.pre
  have i4 := i4.mono sc0.pre
  have i5 := i5.mono sc0.pre
  have i6 := i6.mono sc0.pre
  have i7 := i7.mono sc0.pre
  have i8 := i8.mono sc0.pre
  skip
  refine J.regD [m, s] mixed (by kernel_rfl) ?_
  repeat' first
    | (show W _ _ _ _ _ (_ :: _) _ _ _; first
      | refine W.mk (mnode_is S.inv i1 i2 i4 i5 (uq 1 (by decide)) ((ml 2).trans (ml 1).symm) ((ml 4).trans (ml 1).symm) ((ml 5).trans (ml 1).symm) (by rw [ml]; exact k40)) rfl rfl rfl (fun tb1 b1 sb1 mb1 => ?_)
      | refine W.pure rfl rfl rfl rfl ?_
      | refine W.indexAddrE rfl rfl rfl rfl (by omega) (by simp only [Int.reduceToNat, Nat.reduceMul, Nat.zero_add]; rfl) ?_
      | refine W.ld rfl rfl rfl rfl rfl ?_
      | refine W.add64E rfl rfl rfl rfl (by simp only [Int.reduceAdd]; rfl) (by omega) ?_)
    | refine W.nil ?_
  have S := S.trans sb1
  have i0 := i0.mono sb1.pre
  have i1 := i1.mono sb1.pre
  have i2 := i2.mono sb1.pre
  have i3 := i3.mono sb1.pre
  have i4 := i4.mono sb1.pre
  have i5 := i5.mono sb1.pre
  have i6 := i6.mono sb1.pre
  have i7 := i7.mono sb1.pre
  have i8 := i8.mono sb1.pre
  have mc0 := mc0.mono sb1.pre
  refine J.weakG (g := g) sb1.pre ?_
  repeat' first
    | (show W _ _ _ _ _ (_ :: _) _ _ _; first
      | refine W.gk (ih (J := Ji) (L := L - 1) (jn := T.jj k j) S.inv mb1 (ql 1) (by rw [je]; omega) (by rw [je]; omega) (by omega) (ug 1 (by decide))) rfl rfl rfl (fun tc1 c1 nc1 sc1 mc1 zc1 => ?_)
      | refine W.pure rfl rfl rfl rfl ?_
      | refine W.ldV rfl rfl rfl rfl rfl rfl ?_
      | refine W.cmpT rfl rfl rfl rfl (by simp only [cmpP]; first | done | omega) ?_
      | refine W.fieldAddr0 rfl rfl rfl rfl rfl ?_
      | refine W.indexAddrE rfl rfl rfl rfl (by omega) (by simp only [Int.reduceToNat, Nat.reduceMul, Nat.zero_add]; rfl) ?_
      | refine W.add64E rfl rfl rfl rfl (by simp only [Int.reduceAdd]; rfl) (by omega) ?_
      | refine W.sub64 rfl rfl rfl rfl (by omega) ?_
      | refine W.mul64E rfl rfl rfl rfl (by simp only [Int.reduceMul]; rfl) (by omega) ?_
      | refine W.store1 rfl rfl rfl rfl rfl rfl rfl (by simp only [List.set_cons_succ, List.set_cons_zero]; rfl) ?_
      | refine W.eqIfNilT rfl rfl rfl ?_
      | refine W.remE rfl rfl rfl rfl (by omega) (by omega) (by simp only [Int.reduceMod]; rfl) ?_
      | refine W.quoE rfl rfl rfl rfl (by omega) (by omega) (by simp only [Int.reduceDiv]; rfl) (by omega) ?_)
    | refine W.nil ?_
    | refine J.reg ?_
    | refine J.seq ?_
    | refine J.condT rfl ?_
    | refine J.block ?_
    | refine J.endBlk ?_
    | refine J.skip ?_
    | refine J.rnd ?_
  have S := S.trans sc1
  have i0 := i0.mono sc1.pre
  have i1 := i1.mono sc1.pre
  have i2 := i2.mono sc1.pre
  have i3 := i3.mono sc1.pre
  have i4 := i4.mono sc1.pre
  have i5 := i5.mono sc1.pre
  have i6 := i6.mono sc1.pre
  have i7 := i7.mono sc1.pre
  have i8 := i8.mono sc1.pre
  have mc0 := mc0.mono sc1.pre
  skip
  refine J.regD [m, s] mixed (by kernel_rfl) ?_
  repeat' first
    | (show W _ _ _ _ _ (_ :: _) _ _ _; first
      | refine W.mk (mnode_is S.inv i3 i4 i6 i7 (uq 2 (by decide)) ((ml 4).trans (ml 3).symm) ((ml 6).trans (ml 3).symm) ((ml 7).trans (ml 3).symm) (by rw [ml]; exact k40)) rfl rfl rfl (fun tb2 b2 sb2 mb2 => ?_)
      | refine W.pure rfl rfl rfl rfl ?_
      | refine W.indexAddrE rfl rfl rfl rfl (by omega) (by simp only [Int.reduceToNat, Nat.reduceMul, Nat.zero_add]; rfl) ?_
      | refine W.ld rfl rfl rfl rfl rfl ?_
      | refine W.add64E rfl rfl rfl rfl (by simp only [Int.reduceAdd]; rfl) (by omega) ?_)
    | refine W.nil ?_
  have S := S.trans sb2
  have i0 := i0.mono sb2.pre
  have i1 := i1.mono sb2.pre
  have i2 := i2.mono sb2.pre
  have i3 := i3.mono sb2.pre
  have i4 := i4.mono sb2.pre
  have i5 := i5.mono sb2.pre
  have i6 := i6.mono sb2.pre
  have i7 := i7.mono sb2.pre
  have i8 := i8.mono sb2.pre
  have mc0 := mc0.mono sb2.pre
  have mc1 := mc1.mono sb2.pre
  refine J.weakG (g := g) sb2.pre ?_
  repeat' first
    | (show W _ _ _ _ _ (_ :: _) _ _ _; first
      | refine W.gk (ih (J := Ji) (L := L - 1) (jn := T.jj k j) S.inv mb2 (ql 2) (by rw [je]; omega) (by rw [je]; omega) (by omega) (ug 2 (by decide))) rfl rfl rfl (fun tc2 c2 nc2 sc2 mc2 zc2 => ?_)
      | refine W.pure rfl rfl rfl rfl ?_
      | refine W.ldV rfl rfl rfl rfl rfl rfl ?_
      | refine W.cmpT rfl rfl rfl rfl (by simp only [cmpP]; first | done | omega) ?_
      | refine W.fieldAddr0 rfl rfl rfl rfl rfl ?_
      | refine W.indexAddrE rfl rfl rfl rfl (by omega) (by simp only [Int.reduceToNat, Nat.reduceMul, Nat.zero_add]; rfl) ?_
      | refine W.add64E rfl rfl rfl rfl (by simp only [Int.reduceAdd]; rfl) (by omega) ?_
      | refine W.sub64 rfl rfl rfl rfl (by omega) ?_
      | refine W.mul64E rfl rfl rfl rfl (by simp only [Int.reduceMul]; rfl) (by omega) ?_
      | refine W.store1 rfl rfl rfl rfl rfl rfl rfl (by simp only [List.set_cons_succ, List.set_cons_zero]; rfl) ?_
      | refine W.eqIfNilT rfl rfl rfl ?_
      | refine W.remE rfl rfl rfl rfl (by omega) (by omega) (by simp only [Int.reduceMod]; rfl) ?_
      | refine W.quoE rfl rfl rfl rfl (by omega) (by omega) (by simp only [Int.reduceDiv]; rfl) (by omega) ?_)
    | refine W.nil ?_
    | refine J.reg ?_
    | refine J.seq ?_
    | refine J.condT rfl ?_
    | refine J.block ?_
    | refine J.endBlk ?_
    | refine J.skip ?_
    | refine J.rnd ?_
  have S := S.trans sc2
  have i0 := i0.mono sc2.pre
  have i1 := i1.mono sc2.pre
  have i2 := i2.mono sc2.pre
  have i3 := i3.mono sc2.pre
  have i4 := i4.mono sc2.pre
  have i5 := i5.mono sc2.pre
  have i6 := i6.mono sc2.pre
  have i7 := i7.mono sc2.pre
  have i8 := i8.mono sc2.pre
  have mc0 := mc0.mono sc2.pre
  have mc1 := mc1.mono sc2.pre
  skip
  refine J.regD [m, s] mixed (by kernel_rfl) ?_
  repeat' first
    | (show W _ _ _ _ _ (_ :: _) _ _ _; first
      | refine W.mk (mnode_is S.inv i4 i5 i7 i8 (uq 3 (by decide)) ((ml 5).trans (ml 4).symm) ((ml 7).trans (ml 4).symm) ((ml 8).trans (ml 4).symm) (by rw [ml]; exact k40)) rfl rfl rfl (fun tb3 b3 sb3 mb3 => ?_)
      | refine W.pure rfl rfl rfl rfl ?_
      | refine W.indexAddrE rfl rfl rfl rfl (by omega) (by simp only [Int.reduceToNat, Nat.reduceMul, Nat.zero_add]; rfl) ?_
      | refine W.ld rfl rfl rfl rfl rfl ?_
      | refine W.add64E rfl rfl rfl rfl (by simp only [Int.reduceAdd]; rfl) (by omega) ?_)
    | refine W.nil ?_
  have S := S.trans sb3
  have i0 := i0.mono sb3.pre
  have i1 := i1.mono sb3.pre
  have i2 := i2.mono sb3.pre
  have i3 := i3.mono sb3.pre
  have i4 := i4.mono sb3.pre
  have i5 := i5.mono sb3.pre
  have i6 := i6.mono sb3.pre
  have i7 := i7.mono sb3.pre
  have i8 := i8.mono sb3.pre
  have mc0 := mc0.mono sb3.pre
  have mc1 := mc1.mono sb3.pre
  have mc2 := mc2.mono sb3.pre
  refine J.weakG (g := g) sb3.pre ?_
  repeat' first
    | (show W _ _ _ _ _ (_ :: _) _ _ _; first
      | refine W.gk (ih (J := Ji) (L := L - 1) (jn := T.jj k j) S.inv mb3 (ql 3) (by rw [je]; omega) (by rw [je]; omega) (by omega) (ug 3 (by decide))) rfl rfl rfl (fun tc3 c3 nc3 sc3 mc3 zc3 => ?_)
      | refine W.pure rfl rfl rfl rfl ?_
      | refine W.ldV rfl rfl rfl rfl rfl rfl ?_
      | refine W.cmpF rfl rfl rfl rfl (by simp only [cmpN]; first | done | omega) ?_
      | refine W.fieldAddr0 rfl rfl rfl rfl rfl ?_
      | refine W.indexAddrE rfl rfl rfl rfl (by omega) (by simp only [Int.reduceToNat, Nat.reduceMul, Nat.zero_add]; rfl) ?_
      | refine W.add64E rfl rfl rfl rfl (by simp only [Int.reduceAdd]; rfl) (by omega) ?_
      | refine W.sub64 rfl rfl rfl rfl (by omega) ?_
      | refine W.store1 rfl rfl rfl rfl rfl rfl rfl (by simp only [List.set_cons_succ, List.set_cons_zero]; rfl) ?_
      | refine W.eqIfNilT rfl rfl rfl ?_)
    | refine W.nil ?_
    | refine J.reg ?_
    | refine J.seq ?_
    | refine J.condT rfl ?_
    | refine J.condF rfl ?_
    | refine J.endBlk ?_
    | refine J.rnd ?_
    | refine J.exit rfl ?_
  have S := S.trans sc3
  have i0 := i0.mono sc3.pre
  have i1 := i1.mono sc3.pre
  have i2 := i2.mono sc3.pre
  have i3 := i3.mono sc3.pre
  have i4 := i4.mono sc3.pre
  have i5 := i5.mono sc3.pre
  have i6 := i6.mono sc3.pre
  have i7 := i7.mono sc3.pre
  have i8 := i8.mono sc3.pre
  have mc0 := mc0.mono sc3.pre
  have mc1 := mc1.mono sc3.pre
  have mc2 := mc2.mono sc3.pre
  have ue' : T.node (T.out b l k t j 0) (T.out b l k t j 1) (T.out b l k t j 2) (T.out b l k t j 3) ∈ U := by rw [← T.grow_succ]; exact ue
  repeat' first
    | refine W.mk (mnode_is (a := T.out b l k t j 0) (b := T.out b l k t j 1) (c := T.out b l k t j 2) (d := T.out b l k t j 3) S.inv mc0 mc1 mc2 mc3 ue' ((ol 1).trans (ol 0).symm) ((ol 2).trans (ol 0).symm) ((ol 3).trans (ol 0).symm) (by rw [ol]; exact k40)) rfl rfl rfl (fun td dd sd md => ?_)
    | refine W.pure rfl rfl rfl rfl ?_
    | refine W.nil ?_
    | refine J.seq ?_
  rw [← T.grow_succ] at md
  refine J.weakG (g := g) sd.pre ?_
  refine J.regD [] mixed (by kernel_rfl) ?_
  repeat' first
    | (show W _ _ _ _ _ (_ :: _) _ _ _; first
      | refine W.pure rfl rfl rfl rfl ?_
      | refine W.fieldAddr0 rfl rfl rfl rfl rfl ?_
      | refine W.ld rfl rfl rfl rfl rfl ?_)
    | refine W.nil ?_
  exact J.retR [m, g, s] (res2 rfl rfl rfl) ⟨_, _, _, rfl, rfl, S.trans sd, md⟩
end
end Go.Proofs.YtphnadpmpcifoaaDoor
