/-
  Package grow: the parts of a square: nine squares, or their middles.
-/
import Derived.Test.YtphnadpmpcifoaaDoorTNine
namespace Go.Qm
theorem grid {ts : List T} (r : Reg ts) {t : T} (hm : t ∈ ts) (h : 5 ≤ t.lev) (y x : Nat) : t.gr y x ∈ ts ∧ (t.gr y x).lev = t.lev - 2 := by
  have := (T.gr_ok (r.ok _ hm) h y x).2
  exact ⟨gr_in r hm h y x, by omega⟩
end Go.Qm
namespace Go.Proofs.YtphnadpmpcifoaaDoor
open Go.Sq Go.Qm
theorem level_eq (t : T) : ((t.lev : Nat) : Int) = t.lev := rfl
/-- Nine trees were made. -/
def Made9 (room : Nat) (U ts : List T) (m s : Nat) (f : Nat → T) : Value → List Ent → Prop := fun v N => ∃ ts' o0 o1 o2 o3 o4 o5 o6 o7 o8, v = .agg #[int o0, int o1, int o2, int o3, int o4, int o5, int o6, int o7, int o8] ∧ N = [(m, mkP m s), (s, treeP s room ts')] ∧ Step room U ts ts' ∧
  Is ts' o0 (f 0) ∧ Is ts' o1 (f 1) ∧ Is ts' o2 (f 2) ∧ Is ts' o3 (f 3) ∧ Is ts' o4 (f 4) ∧ Is ts' o5 (f 5) ∧ Is ts' o6 (f 6) ∧ Is ts' o7 (f 7) ∧ Is ts' o8 (f 8)
attribute [local irreducible] SW J T.lev T.ok T.k0 T.k1 T.k2 T.k3 T.cells num T.ctr
set_option maxHeartbeats 8000000
set_option maxRecDepth 10000
section
variable {s room m : Nat} {U ts : List T}
theorem mwhole_is {t : T} (h : Inv room U ts) (ht : t ∈ ts) (hl : 5 ≤ t.lev) (hu : ∀ i, i < 9 → T.nineN t i ∈ U) :
    CallR P 58 [ptr m, .agg (nineL (nineR ts t) 9).toArray, .bool true] [(m, mkP m s), (s, treeP s room ts)] (Made9 room U ts m s (T.nineN t)) := by
  have l40 : t.lev - 2 < 40 := by have := h.reg.lev _ ht; omega
  have g00 : t.k0.k0 ∈ ts ∧ t.k0.k0.lev = t.lev - 2 := grid h.reg ht hl 0 0
  have g01 : t.k0.k1 ∈ ts ∧ t.k0.k1.lev = t.lev - 2 := grid h.reg ht hl 0 1
  have g02 : t.k1.k0 ∈ ts ∧ t.k1.k0.lev = t.lev - 2 := grid h.reg ht hl 0 2
  have g03 : t.k1.k1 ∈ ts ∧ t.k1.k1.lev = t.lev - 2 := grid h.reg ht hl 0 3
  have g10 : t.k0.k2 ∈ ts ∧ t.k0.k2.lev = t.lev - 2 := grid h.reg ht hl 1 0
  have g11 : t.k0.k3 ∈ ts ∧ t.k0.k3.lev = t.lev - 2 := grid h.reg ht hl 1 1
  have g12 : t.k1.k2 ∈ ts ∧ t.k1.k2.lev = t.lev - 2 := grid h.reg ht hl 1 2
  have g13 : t.k1.k3 ∈ ts ∧ t.k1.k3.lev = t.lev - 2 := grid h.reg ht hl 1 3
  have g20 : t.k2.k0 ∈ ts ∧ t.k2.k0.lev = t.lev - 2 := grid h.reg ht hl 2 0
  have g21 : t.k2.k1 ∈ ts ∧ t.k2.k1.lev = t.lev - 2 := grid h.reg ht hl 2 1
  have g22 : t.k3.k0 ∈ ts ∧ t.k3.k0.lev = t.lev - 2 := grid h.reg ht hl 2 2
  have g23 : t.k3.k1 ∈ ts ∧ t.k3.k1.lev = t.lev - 2 := grid h.reg ht hl 2 3
  have g30 : t.k2.k2 ∈ ts ∧ t.k2.k2.lev = t.lev - 2 := grid h.reg ht hl 3 0
  have g31 : t.k2.k3 ∈ ts ∧ t.k2.k3.lev = t.lev - 2 := grid h.reg ht hl 3 1
  have g32 : t.k3.k2 ∈ ts ∧ t.k3.k2.lev = t.lev - 2 := grid h.reg ht hl 3 2
  have g33 : t.k3.k3 ∈ ts ∧ t.k3.k3.lev = t.lev - 2 := grid h.reg ht hl 3 3
  have u0 : T.node t.k0.k0 t.k0.k1 t.k0.k2 t.k0.k3 ∈ U := hu 0 (by decide)
  have u1 : T.node t.k0.k1 t.k1.k0 t.k0.k3 t.k1.k2 ∈ U := hu 1 (by decide)
  have u2 : T.node t.k1.k0 t.k1.k1 t.k1.k2 t.k1.k3 ∈ U := hu 2 (by decide)
  have u3 : T.node t.k0.k2 t.k0.k3 t.k2.k0 t.k2.k1 ∈ U := hu 3 (by decide)
  have u4 : T.node t.k0.k3 t.k1.k2 t.k2.k1 t.k3.k0 ∈ U := hu 4 (by decide)
  have u5 : T.node t.k1.k2 t.k1.k3 t.k3.k0 t.k3.k1 ∈ U := hu 5 (by decide)
  have u6 : T.node t.k2.k0 t.k2.k1 t.k2.k2 t.k2.k3 ∈ U := hu 6 (by decide)
  have u7 : T.node t.k2.k1 t.k3.k0 t.k2.k3 t.k3.k2 ∈ U := hu 7 (by decide)
  have u8 : T.node t.k3.k0 t.k3.k1 t.k3.k2 t.k3.k3 ∈ U := hu 8 (by decide)
  have st0 := Step.refl h
  refine callR_of Tryd.func58 rfl Tryd.ntmps58 rfl fun σ F => ?_
  repeat' first
    | (show W _ _ _ _ _ (_ :: _) _ _ _; first
      | refine W.pure rfl rfl rfl rfl ?_
      | refine W.ldaV rfl rfl rfl rfl rfl rfl ?_
      | refine W.alloc rfl rfl (fun bq => ?_)
      | refine W.boxA rfl rfl rfl (fun bq => ?_))
    | refine W.nil ?_
    | refine J.reg ?_
    | refine J.seq ?_
    | refine J.block ?_
  refine J.rounds 10 ?_
  have S0 : Step room U ts ts := st0
  have l0 : ∀ u : T, u.lev = t.lev - 2 → u.lev < 40 := fun u hu => by rw [hu]; exact l40
  repeat' first
    | (show W _ _ _ _ _ (_ :: _) _ _ _; first
      | refine W.indexAnE rfl rfl rfl rfl rfl (by omega) (cs := [int (num ts t.k0.k0), int (num ts t.k0.k1), int (num ts t.k0.k2), int (num ts t.k0.k3)]) rfl ?_
      | refine W.indexAnE rfl rfl rfl rfl rfl (by omega) (cs := [int (num ts t.k0.k1), int (num ts t.k1.k0), int (num ts t.k0.k3), int (num ts t.k1.k2)]) rfl ?_
      | refine W.mk (mnode_is S0.inv ((is_num g00.1).mono S0.pre) ((is_num g01.1).mono S0.pre) ((is_num g10.1).mono S0.pre) ((is_num g11.1).mono S0.pre) u0 (g01.2.trans g00.2.symm) (g10.2.trans g00.2.symm) (g11.2.trans g00.2.symm) (l0 _ g00.2)) rfl rfl rfl (fun ts1 o0 st1 is0 => ?_)
      | refine W.pure rfl rfl rfl rfl ?_
      | refine W.ldV rfl rfl rfl rfl rfl rfl ?_
      | refine W.cmpT rfl rfl rfl rfl (by simp only [cmpP]; first | done | omega) ?_
      | refine W.indexAddrE rfl rfl rfl rfl (by omega) (by simp only [Int.reduceToNat, Nat.reduceMul, Nat.zero_add]; rfl) ?_
      | refine W.add64E rfl rfl rfl rfl (by simp only [Int.reduceAdd]; rfl) (by omega) ?_
      | refine W.alloc rfl rfl (fun bq => ?_)
      | refine W.storeA rfl rfl rfl rfl (by rfl) (by rfl) (by simp [Value.oneCell']) ?_
      | refine W.store1 rfl rfl rfl rfl rfl rfl rfl (by simp only [List.set_cons_zero]; rfl) ?_)
    | refine W.nil ?_
    | refine J.reg ?_
    | refine J.seq ?_
    | refine J.condT rfl ?_
    | refine J.block ?_
    | refine J.skip ?_
    | refine J.rnd ?_
    | refine J.exit rfl ?_
  have S1 : Step room U ts ts1 := st1
  repeat' first
    | (show W _ _ _ _ _ (_ :: _) _ _ _; first
      | refine W.indexAnE rfl rfl rfl rfl rfl (by omega) (cs := [int (num ts t.k1.k0), int (num ts t.k1.k1), int (num ts t.k1.k2), int (num ts t.k1.k3)]) rfl ?_
      | refine W.mk (mnode_is S1.inv ((is_num g01.1).mono S1.pre) ((is_num g02.1).mono S1.pre) ((is_num g11.1).mono S1.pre) ((is_num g12.1).mono S1.pre) u1 (g02.2.trans g01.2.symm) (g11.2.trans g01.2.symm) (g12.2.trans g01.2.symm) (l0 _ g01.2)) rfl rfl rfl (fun ts2 o1 st2 is1 => ?_)
      | refine W.pure rfl rfl rfl rfl ?_
      | refine W.ldV rfl rfl rfl rfl rfl rfl ?_
      | refine W.cmpT rfl rfl rfl rfl (by simp only [cmpP]; first | done | omega) ?_
      | refine W.indexAddrE rfl rfl rfl rfl (by omega) (by simp only [Int.reduceToNat, Nat.reduceMul, Nat.zero_add]; rfl) ?_
      | refine W.add64E rfl rfl rfl rfl (by simp only [Int.reduceAdd]; rfl) (by omega) ?_
      | refine W.alloc rfl rfl (fun bq => ?_)
      | refine W.storeA rfl rfl rfl rfl (by rfl) (by rfl) (by simp [Value.oneCell']) ?_
      | refine W.store1 rfl rfl rfl rfl rfl rfl rfl (by simp only [List.set_cons_succ, List.set_cons_zero]; rfl) ?_)
    | refine W.nil ?_
    | refine J.reg ?_
    | refine J.seq ?_
    | refine J.condT rfl ?_
    | refine J.block ?_
    | refine J.skip ?_
    | refine J.rnd ?_
    | refine J.exit rfl ?_
  have S2 : Step room U ts ts2 := S1.trans st2
  repeat' first
    | (show W _ _ _ _ _ (_ :: _) _ _ _; first
      | refine W.indexAnE rfl rfl rfl rfl rfl (by omega) (cs := [int (num ts t.k0.k2), int (num ts t.k0.k3), int (num ts t.k2.k0), int (num ts t.k2.k1)]) rfl ?_
      | refine W.mk (mnode_is S2.inv ((is_num g02.1).mono S2.pre) ((is_num g03.1).mono S2.pre) ((is_num g12.1).mono S2.pre) ((is_num g13.1).mono S2.pre) u2 (g03.2.trans g02.2.symm) (g12.2.trans g02.2.symm) (g13.2.trans g02.2.symm) (l0 _ g02.2)) rfl rfl rfl (fun ts3 o2 st3 is2 => ?_)
      | refine W.pure rfl rfl rfl rfl ?_
      | refine W.ldV rfl rfl rfl rfl rfl rfl ?_
      | refine W.cmpT rfl rfl rfl rfl (by simp only [cmpP]; first | done | omega) ?_
      | refine W.indexAddrE rfl rfl rfl rfl (by omega) (by simp only [Int.reduceToNat, Nat.reduceMul, Nat.zero_add]; rfl) ?_
      | refine W.add64E rfl rfl rfl rfl (by simp only [Int.reduceAdd]; rfl) (by omega) ?_
      | refine W.alloc rfl rfl (fun bq => ?_)
      | refine W.storeA rfl rfl rfl rfl (by rfl) (by rfl) (by simp [Value.oneCell']) ?_
      | refine W.store1 rfl rfl rfl rfl rfl rfl rfl (by simp only [List.set_cons_succ, List.set_cons_zero]; rfl) ?_)
    | refine W.nil ?_
    | refine J.reg ?_
    | refine J.seq ?_
    | refine J.condT rfl ?_
    | refine J.block ?_
    | refine J.skip ?_
    | refine J.rnd ?_
    | refine J.exit rfl ?_
  have S3 : Step room U ts ts3 := S2.trans st3
  repeat' first
    | (show W _ _ _ _ _ (_ :: _) _ _ _; first
      | refine W.indexAnE rfl rfl rfl rfl rfl (by omega) (cs := [int (num ts t.k0.k3), int (num ts t.k1.k2), int (num ts t.k2.k1), int (num ts t.k3.k0)]) rfl ?_
      | refine W.mk (mnode_is S3.inv ((is_num g10.1).mono S3.pre) ((is_num g11.1).mono S3.pre) ((is_num g20.1).mono S3.pre) ((is_num g21.1).mono S3.pre) u3 (g11.2.trans g10.2.symm) (g20.2.trans g10.2.symm) (g21.2.trans g10.2.symm) (l0 _ g10.2)) rfl rfl rfl (fun ts4 o3 st4 is3 => ?_)
      | refine W.pure rfl rfl rfl rfl ?_
      | refine W.ldV rfl rfl rfl rfl rfl rfl ?_
      | refine W.cmpT rfl rfl rfl rfl (by simp only [cmpP]; first | done | omega) ?_
      | refine W.indexAddrE rfl rfl rfl rfl (by omega) (by simp only [Int.reduceToNat, Nat.reduceMul, Nat.zero_add]; rfl) ?_
      | refine W.add64E rfl rfl rfl rfl (by simp only [Int.reduceAdd]; rfl) (by omega) ?_
      | refine W.alloc rfl rfl (fun bq => ?_)
      | refine W.storeA rfl rfl rfl rfl (by rfl) (by rfl) (by simp [Value.oneCell']) ?_
      | refine W.store1 rfl rfl rfl rfl rfl rfl rfl (by simp only [List.set_cons_succ, List.set_cons_zero]; rfl) ?_)
    | refine W.nil ?_
    | refine J.reg ?_
    | refine J.seq ?_
    | refine J.condT rfl ?_
    | refine J.block ?_
    | refine J.skip ?_
    | refine J.rnd ?_
    | refine J.exit rfl ?_
  have S4 : Step room U ts ts4 := S3.trans st4
  repeat' first
    | (show W _ _ _ _ _ (_ :: _) _ _ _; first
      | refine W.indexAnE rfl rfl rfl rfl rfl (by omega) (cs := [int (num ts t.k1.k2), int (num ts t.k1.k3), int (num ts t.k3.k0), int (num ts t.k3.k1)]) rfl ?_
      | refine W.mk (mnode_is S4.inv ((is_num g11.1).mono S4.pre) ((is_num g12.1).mono S4.pre) ((is_num g21.1).mono S4.pre) ((is_num g22.1).mono S4.pre) u4 (g12.2.trans g11.2.symm) (g21.2.trans g11.2.symm) (g22.2.trans g11.2.symm) (l0 _ g11.2)) rfl rfl rfl (fun ts5 o4 st5 is4 => ?_)
      | refine W.pure rfl rfl rfl rfl ?_
      | refine W.ldV rfl rfl rfl rfl rfl rfl ?_
      | refine W.cmpT rfl rfl rfl rfl (by simp only [cmpP]; first | done | omega) ?_
      | refine W.indexAddrE rfl rfl rfl rfl (by omega) (by simp only [Int.reduceToNat, Nat.reduceMul, Nat.zero_add]; rfl) ?_
      | refine W.add64E rfl rfl rfl rfl (by simp only [Int.reduceAdd]; rfl) (by omega) ?_
      | refine W.alloc rfl rfl (fun bq => ?_)
      | refine W.storeA rfl rfl rfl rfl (by rfl) (by rfl) (by simp [Value.oneCell']) ?_
      | refine W.store1 rfl rfl rfl rfl rfl rfl rfl (by simp only [List.set_cons_succ, List.set_cons_zero]; rfl) ?_)
    | refine W.nil ?_
    | refine J.reg ?_
    | refine J.seq ?_
    | refine J.condT rfl ?_
    | refine J.block ?_
    | refine J.skip ?_
    | refine J.rnd ?_
    | refine J.exit rfl ?_
  have S5 : Step room U ts ts5 := S4.trans st5
  repeat' first
    | (show W _ _ _ _ _ (_ :: _) _ _ _; first
      | refine W.indexAnE rfl rfl rfl rfl rfl (by omega) (cs := [int (num ts t.k2.k0), int (num ts t.k2.k1), int (num ts t.k2.k2), int (num ts t.k2.k3)]) rfl ?_
      | refine W.mk (mnode_is S5.inv ((is_num g12.1).mono S5.pre) ((is_num g13.1).mono S5.pre) ((is_num g22.1).mono S5.pre) ((is_num g23.1).mono S5.pre) u5 (g13.2.trans g12.2.symm) (g22.2.trans g12.2.symm) (g23.2.trans g12.2.symm) (l0 _ g12.2)) rfl rfl rfl (fun ts6 o5 st6 is5 => ?_)
      | refine W.pure rfl rfl rfl rfl ?_
      | refine W.ldV rfl rfl rfl rfl rfl rfl ?_
      | refine W.cmpT rfl rfl rfl rfl (by simp only [cmpP]; first | done | omega) ?_
      | refine W.indexAddrE rfl rfl rfl rfl (by omega) (by simp only [Int.reduceToNat, Nat.reduceMul, Nat.zero_add]; rfl) ?_
      | refine W.add64E rfl rfl rfl rfl (by simp only [Int.reduceAdd]; rfl) (by omega) ?_
      | refine W.alloc rfl rfl (fun bq => ?_)
      | refine W.storeA rfl rfl rfl rfl (by rfl) (by rfl) (by simp [Value.oneCell']) ?_
      | refine W.store1 rfl rfl rfl rfl rfl rfl rfl (by simp only [List.set_cons_succ, List.set_cons_zero]; rfl) ?_)
    | refine W.nil ?_
    | refine J.reg ?_
    | refine J.seq ?_
    | refine J.condT rfl ?_
    | refine J.block ?_
    | refine J.skip ?_
    | refine J.rnd ?_
    | refine J.exit rfl ?_
  have S6 : Step room U ts ts6 := S5.trans st6
  repeat' first
    | (show W _ _ _ _ _ (_ :: _) _ _ _; first
      | refine W.indexAnE rfl rfl rfl rfl rfl (by omega) (cs := [int (num ts t.k2.k1), int (num ts t.k3.k0), int (num ts t.k2.k3), int (num ts t.k3.k2)]) rfl ?_
      | refine W.mk (mnode_is S6.inv ((is_num g20.1).mono S6.pre) ((is_num g21.1).mono S6.pre) ((is_num g30.1).mono S6.pre) ((is_num g31.1).mono S6.pre) u6 (g21.2.trans g20.2.symm) (g30.2.trans g20.2.symm) (g31.2.trans g20.2.symm) (l0 _ g20.2)) rfl rfl rfl (fun ts7 o6 st7 is6 => ?_)
      | refine W.pure rfl rfl rfl rfl ?_
      | refine W.ldV rfl rfl rfl rfl rfl rfl ?_
      | refine W.cmpT rfl rfl rfl rfl (by simp only [cmpP]; first | done | omega) ?_
      | refine W.indexAddrE rfl rfl rfl rfl (by omega) (by simp only [Int.reduceToNat, Nat.reduceMul, Nat.zero_add]; rfl) ?_
      | refine W.add64E rfl rfl rfl rfl (by simp only [Int.reduceAdd]; rfl) (by omega) ?_
      | refine W.alloc rfl rfl (fun bq => ?_)
      | refine W.storeA rfl rfl rfl rfl (by rfl) (by rfl) (by simp [Value.oneCell']) ?_
      | refine W.store1 rfl rfl rfl rfl rfl rfl rfl (by simp only [List.set_cons_succ, List.set_cons_zero]; rfl) ?_)
    | refine W.nil ?_
    | refine J.reg ?_
    | refine J.seq ?_
    | refine J.condT rfl ?_
    | refine J.block ?_
    | refine J.skip ?_
    | refine J.rnd ?_
    | refine J.exit rfl ?_
  have S7 : Step room U ts ts7 := S6.trans st7
  repeat' first
    | (show W _ _ _ _ _ (_ :: _) _ _ _; first
      | refine W.indexAnE rfl rfl rfl rfl rfl (by omega) (cs := [int (num ts t.k3.k0), int (num ts t.k3.k1), int (num ts t.k3.k2), int (num ts t.k3.k3)]) rfl ?_
      | refine W.mk (mnode_is S7.inv ((is_num g21.1).mono S7.pre) ((is_num g22.1).mono S7.pre) ((is_num g31.1).mono S7.pre) ((is_num g32.1).mono S7.pre) u7 (g22.2.trans g21.2.symm) (g31.2.trans g21.2.symm) (g32.2.trans g21.2.symm) (l0 _ g21.2)) rfl rfl rfl (fun ts8 o7 st8 is7 => ?_)
      | refine W.pure rfl rfl rfl rfl ?_
      | refine W.ldV rfl rfl rfl rfl rfl rfl ?_
      | refine W.cmpT rfl rfl rfl rfl (by simp only [cmpP]; first | done | omega) ?_
      | refine W.indexAddrE rfl rfl rfl rfl (by omega) (by simp only [Int.reduceToNat, Nat.reduceMul, Nat.zero_add]; rfl) ?_
      | refine W.add64E rfl rfl rfl rfl (by simp only [Int.reduceAdd]; rfl) (by omega) ?_
      | refine W.alloc rfl rfl (fun bq => ?_)
      | refine W.storeA rfl rfl rfl rfl (by rfl) (by rfl) (by simp [Value.oneCell']) ?_
      | refine W.store1 rfl rfl rfl rfl rfl rfl rfl (by simp only [List.set_cons_succ, List.set_cons_zero]; rfl) ?_)
    | refine W.nil ?_
    | refine J.reg ?_
    | refine J.seq ?_
    | refine J.condT rfl ?_
    | refine J.block ?_
    | refine J.skip ?_
    | refine J.rnd ?_
    | refine J.exit rfl ?_
  have S8 : Step room U ts ts8 := S7.trans st8
  repeat' first
    | (show W _ _ _ _ _ (_ :: _) _ _ _; first
      | refine W.mk (mnode_is S8.inv ((is_num g22.1).mono S8.pre) ((is_num g23.1).mono S8.pre) ((is_num g32.1).mono S8.pre) ((is_num g33.1).mono S8.pre) u8 (g23.2.trans g22.2.symm) (g32.2.trans g22.2.symm) (g33.2.trans g22.2.symm) (l0 _ g22.2)) rfl rfl rfl (fun ts9 o8 st9 is8 => ?_)
      | refine W.pure rfl rfl rfl rfl ?_
      | refine W.cmpF rfl rfl rfl rfl (by simp only [cmpN]; first | done | omega) ?_
      | refine W.indexAddrE rfl rfl rfl rfl (by omega) (by simp only [Int.reduceToNat, Nat.reduceMul, Nat.zero_add]; rfl) ?_
      | refine W.add64E rfl rfl rfl rfl (by simp only [Int.reduceAdd]; rfl) (by omega) ?_
      | refine W.ldaV rfl rfl rfl rfl rfl rfl ?_
      | refine W.storeA rfl rfl rfl rfl (by rfl) (by rfl) (by simp [Value.oneCell']) ?_
      | refine W.store1 rfl rfl rfl rfl rfl rfl rfl (by simp only [List.set_cons_succ, List.set_cons_zero]; rfl) ?_)
    | refine W.nil ?_
    | refine J.reg ?_
    | refine J.seq ?_
    | refine J.condF rfl ?_
    | refine J.rnd ?_
    | refine J.exit rfl ?_
  skip
  have S9 := S8.trans st9
  exact J.retR [m, s] (resc1 rfl rfl rfl rfl) ⟨ts9, o0, o1, o2, o3, o4, o5, o6, o7, o8, rfl, rfl, S9, is0.mono (st2.trans (st3.trans (st4.trans (st5.trans (st6.trans (st7.trans (st8.trans st9))))))).pre, is1.mono (st3.trans (st4.trans (st5.trans (st6.trans (st7.trans (st8.trans st9)))))).pre, is2.mono (st4.trans (st5.trans (st6.trans (st7.trans (st8.trans st9))))).pre, is3.mono (st5.trans (st6.trans (st7.trans (st8.trans st9)))).pre, is4.mono (st6.trans (st7.trans (st8.trans st9))).pre, is5.mono (st7.trans (st8.trans st9)).pre, is6.mono (st8.trans st9).pre, is7.mono st9.pre, is8⟩
theorem mmid_is {t : T} (h : Inv room U ts) (ht : t ∈ ts) (hl : 5 ≤ t.lev) (hu : ∀ i, i < 9 → T.nineC t i ∈ U) :
    CallR P 58 [ptr m, .agg (nineL (nineR ts t) 9).toArray, .bool false] [(m, mkP m s), (s, treeP s room ts)] (Made9 room U ts m s (T.nineC t)) := by
  have l40 : t.lev - 2 < 40 := by have := h.reg.lev _ ht; omega
  have g00 : t.k0.k0 ∈ ts ∧ t.k0.k0.lev = t.lev - 2 := grid h.reg ht hl 0 0
  have g01 : t.k0.k1 ∈ ts ∧ t.k0.k1.lev = t.lev - 2 := grid h.reg ht hl 0 1
  have g02 : t.k1.k0 ∈ ts ∧ t.k1.k0.lev = t.lev - 2 := grid h.reg ht hl 0 2
  have g03 : t.k1.k1 ∈ ts ∧ t.k1.k1.lev = t.lev - 2 := grid h.reg ht hl 0 3
  have g10 : t.k0.k2 ∈ ts ∧ t.k0.k2.lev = t.lev - 2 := grid h.reg ht hl 1 0
  have g11 : t.k0.k3 ∈ ts ∧ t.k0.k3.lev = t.lev - 2 := grid h.reg ht hl 1 1
  have g12 : t.k1.k2 ∈ ts ∧ t.k1.k2.lev = t.lev - 2 := grid h.reg ht hl 1 2
  have g13 : t.k1.k3 ∈ ts ∧ t.k1.k3.lev = t.lev - 2 := grid h.reg ht hl 1 3
  have g20 : t.k2.k0 ∈ ts ∧ t.k2.k0.lev = t.lev - 2 := grid h.reg ht hl 2 0
  have g21 : t.k2.k1 ∈ ts ∧ t.k2.k1.lev = t.lev - 2 := grid h.reg ht hl 2 1
  have g22 : t.k3.k0 ∈ ts ∧ t.k3.k0.lev = t.lev - 2 := grid h.reg ht hl 2 2
  have g23 : t.k3.k1 ∈ ts ∧ t.k3.k1.lev = t.lev - 2 := grid h.reg ht hl 2 3
  have g30 : t.k2.k2 ∈ ts ∧ t.k2.k2.lev = t.lev - 2 := grid h.reg ht hl 3 0
  have g31 : t.k2.k3 ∈ ts ∧ t.k2.k3.lev = t.lev - 2 := grid h.reg ht hl 3 1
  have g32 : t.k3.k2 ∈ ts ∧ t.k3.k2.lev = t.lev - 2 := grid h.reg ht hl 3 2
  have g33 : t.k3.k3 ∈ ts ∧ t.k3.k3.lev = t.lev - 2 := grid h.reg ht hl 3 3
  have u0 : T.ctr t.k0.k0 t.k0.k1 t.k0.k2 t.k0.k3 ∈ U := hu 0 (by decide)
  have u1 : T.ctr t.k0.k1 t.k1.k0 t.k0.k3 t.k1.k2 ∈ U := hu 1 (by decide)
  have u2 : T.ctr t.k1.k0 t.k1.k1 t.k1.k2 t.k1.k3 ∈ U := hu 2 (by decide)
  have u3 : T.ctr t.k0.k2 t.k0.k3 t.k2.k0 t.k2.k1 ∈ U := hu 3 (by decide)
  have u4 : T.ctr t.k0.k3 t.k1.k2 t.k2.k1 t.k3.k0 ∈ U := hu 4 (by decide)
  have u5 : T.ctr t.k1.k2 t.k1.k3 t.k3.k0 t.k3.k1 ∈ U := hu 5 (by decide)
  have u6 : T.ctr t.k2.k0 t.k2.k1 t.k2.k2 t.k2.k3 ∈ U := hu 6 (by decide)
  have u7 : T.ctr t.k2.k1 t.k3.k0 t.k2.k3 t.k3.k2 ∈ U := hu 7 (by decide)
  have u8 : T.ctr t.k3.k0 t.k3.k1 t.k3.k2 t.k3.k3 ∈ U := hu 8 (by decide)
  have st0 := Step.refl h
  refine callR_of Tryd.func58 rfl Tryd.ntmps58 rfl fun σ F => ?_
  repeat' first
    | (show W _ _ _ _ _ (_ :: _) _ _ _; first
      | refine W.pure rfl rfl rfl rfl ?_
      | refine W.ldaV rfl rfl rfl rfl rfl rfl ?_
      | refine W.alloc rfl rfl (fun bq => ?_)
      | refine W.boxA rfl rfl rfl (fun bq => ?_))
    | refine W.nil ?_
    | refine J.reg ?_
    | refine J.seq ?_
    | refine J.block ?_
  refine J.rounds 10 ?_
  have S0 : Step room U ts ts := st0
  have l0 : ∀ u : T, u.lev = t.lev - 2 → u.lev < 40 := fun u hu => by rw [hu]; exact l40
  repeat' first
    | (show W _ _ _ _ _ (_ :: _) _ _ _; first
      | refine W.indexAnE rfl rfl rfl rfl rfl (by omega) (cs := [int (num ts t.k0.k0), int (num ts t.k0.k1), int (num ts t.k0.k2), int (num ts t.k0.k3)]) rfl ?_
      | refine W.pure rfl rfl rfl rfl ?_
      | refine W.ldV rfl rfl rfl rfl rfl rfl ?_
      | refine W.cmpT rfl rfl rfl rfl (by simp only [cmpP]; first | done | omega) ?_
      | refine W.fieldAddr0 rfl rfl rfl rfl rfl ?_
      | refine W.alloc rfl rfl (fun bq => ?_)
      | refine W.storeA rfl rfl rfl rfl (by rfl) (by rfl) (by simp [Value.oneCell']) ?_
      | refine W.neIfNilT rfl rfl rfl ?_)
    | refine W.nil ?_
    | refine J.reg ?_
    | refine J.seq ?_
    | refine J.condT rfl ?_
    | refine J.condF rfl ?_
    | refine J.block ?_
    | refine J.skip ?_
    | refine J.rnd ?_
  refine J.regD [s] mixed (by kernel_rfl) ?_
  repeat' first
    | (show W _ _ _ _ _ (_ :: _) _ _ _; first
      | refine W.call1 (Level_is ((is_num g00.1).mono S0.pre)) rfl rfl rfl ?_
      | refine W.pure rfl rfl rfl rfl ?_
      | refine W.fieldAddr0 rfl rfl rfl rfl rfl ?_
      | refine W.indexAddrE rfl rfl rfl rfl (by omega) (by simp only [Int.reduceToNat, Nat.reduceMul, Nat.zero_add]; rfl) ?_
      | refine W.ld rfl rfl rfl rfl rfl ?_
      | refine W.ldaV rfl rfl rfl rfl rfl rfl ?_
      | refine W.neIfNilT rfl rfl rfl ?_)
    | refine W.nil ?_
    | refine J.reg ?_
    | refine J.seq ?_
    | refine J.condF rfl ?_
    | refine J.skip ?_
  repeat' first
    | (show W _ _ _ _ _ (_ :: _) _ _ _; first
      | refine W.indexAnE rfl rfl rfl rfl rfl (by omega) (cs := [int (num ts t.k0.k1), int (num ts t.k1.k0), int (num ts t.k0.k3), int (num ts t.k1.k2)]) rfl ?_
      | refine W.mk (mcenter_is S0.inv ((is_num g00.1).mono S0.pre) ((is_num g01.1).mono S0.pre) ((is_num g10.1).mono S0.pre) ((is_num g11.1).mono S0.pre) rfl (g01.2.trans g00.2.symm) (g10.2.trans g00.2.symm) (g11.2.trans g00.2.symm) u0) rfl rfl rfl (fun ts1 o0 st1 is0 => ?_)
      | refine W.pure rfl rfl rfl rfl ?_
      | refine W.ldV rfl rfl rfl rfl rfl rfl ?_
      | refine W.cmpT rfl rfl rfl rfl (by simp only [cmpP]; first | done | omega) ?_
      | refine W.fieldAddr0 rfl rfl rfl rfl rfl ?_
      | refine W.indexAddrE rfl rfl rfl rfl (by omega) (by simp only [Int.reduceToNat, Nat.reduceMul, Nat.zero_add]; rfl) ?_
      | refine W.add64E rfl rfl rfl rfl (by simp only [Int.reduceAdd]; rfl) (by omega) ?_
      | refine W.alloc rfl rfl (fun bq => ?_)
      | refine W.storeA rfl rfl rfl rfl (by rfl) (by rfl) (by simp [Value.oneCell']) ?_
      | refine W.store1 rfl rfl rfl rfl rfl rfl rfl (by simp only [List.set_cons_zero]; rfl) ?_
      | refine W.neIfNilT rfl rfl rfl ?_)
    | refine W.nil ?_
    | refine J.reg ?_
    | refine J.seq ?_
    | refine J.condT rfl ?_
    | refine J.condF rfl ?_
    | refine J.block ?_
    | refine J.endBlk ?_
    | refine J.skip ?_
    | refine J.rnd ?_
  have S1 : Step room U ts ts1 := st1
  skip
  refine J.regD [s] mixed (by kernel_rfl) ?_
  repeat' first
    | (show W _ _ _ _ _ (_ :: _) _ _ _; first
      | refine W.call1 (Level_is ((is_num g01.1).mono S1.pre)) rfl rfl rfl ?_
      | refine W.pure rfl rfl rfl rfl ?_
      | refine W.fieldAddr0 rfl rfl rfl rfl rfl ?_
      | refine W.indexAddrE rfl rfl rfl rfl (by omega) (by simp only [Int.reduceToNat, Nat.reduceMul, Nat.zero_add]; rfl) ?_
      | refine W.ld rfl rfl rfl rfl rfl ?_
      | refine W.ldaV rfl rfl rfl rfl rfl rfl ?_
      | refine W.neIfNilT rfl rfl rfl ?_)
    | refine W.nil ?_
    | refine J.reg ?_
    | refine J.seq ?_
    | refine J.condF rfl ?_
    | refine J.skip ?_
  repeat' first
    | (show W _ _ _ _ _ (_ :: _) _ _ _; first
      | refine W.indexAnE rfl rfl rfl rfl rfl (by omega) (cs := [int (num ts t.k1.k0), int (num ts t.k1.k1), int (num ts t.k1.k2), int (num ts t.k1.k3)]) rfl ?_
      | refine W.mk (mcenter_is S1.inv ((is_num g01.1).mono S1.pre) ((is_num g02.1).mono S1.pre) ((is_num g11.1).mono S1.pre) ((is_num g12.1).mono S1.pre) rfl (g02.2.trans g01.2.symm) (g11.2.trans g01.2.symm) (g12.2.trans g01.2.symm) u1) rfl rfl rfl (fun ts2 o1 st2 is1 => ?_)
      | refine W.pure rfl rfl rfl rfl ?_
      | refine W.ldV rfl rfl rfl rfl rfl rfl ?_
      | refine W.cmpT rfl rfl rfl rfl (by simp only [cmpP]; first | done | omega) ?_
      | refine W.fieldAddr0 rfl rfl rfl rfl rfl ?_
      | refine W.indexAddrE rfl rfl rfl rfl (by omega) (by simp only [Int.reduceToNat, Nat.reduceMul, Nat.zero_add]; rfl) ?_
      | refine W.add64E rfl rfl rfl rfl (by simp only [Int.reduceAdd]; rfl) (by omega) ?_
      | refine W.alloc rfl rfl (fun bq => ?_)
      | refine W.storeA rfl rfl rfl rfl (by rfl) (by rfl) (by simp [Value.oneCell']) ?_
      | refine W.store1 rfl rfl rfl rfl rfl rfl rfl (by simp only [List.set_cons_succ, List.set_cons_zero]; rfl) ?_
      | refine W.neIfNilT rfl rfl rfl ?_)
    | refine W.nil ?_
    | refine J.reg ?_
    | refine J.seq ?_
    | refine J.condT rfl ?_
    | refine J.condF rfl ?_
    | refine J.block ?_
    | refine J.endBlk ?_
    | refine J.skip ?_
    | refine J.rnd ?_
  have S2 : Step room U ts ts2 := S1.trans st2
  skip
  refine J.regD [s] mixed (by kernel_rfl) ?_
  repeat' first
    | (show W _ _ _ _ _ (_ :: _) _ _ _; first
      | refine W.call1 (Level_is ((is_num g02.1).mono S2.pre)) rfl rfl rfl ?_
      | refine W.pure rfl rfl rfl rfl ?_
      | refine W.fieldAddr0 rfl rfl rfl rfl rfl ?_
      | refine W.indexAddrE rfl rfl rfl rfl (by omega) (by simp only [Int.reduceToNat, Nat.reduceMul, Nat.zero_add]; rfl) ?_
      | refine W.ld rfl rfl rfl rfl rfl ?_
      | refine W.ldaV rfl rfl rfl rfl rfl rfl ?_
      | refine W.neIfNilT rfl rfl rfl ?_)
    | refine W.nil ?_
    | refine J.reg ?_
    | refine J.seq ?_
    | refine J.condF rfl ?_
    | refine J.skip ?_
  repeat' first
    | (show W _ _ _ _ _ (_ :: _) _ _ _; first
      | refine W.indexAnE rfl rfl rfl rfl rfl (by omega) (cs := [int (num ts t.k0.k2), int (num ts t.k0.k3), int (num ts t.k2.k0), int (num ts t.k2.k1)]) rfl ?_
      | refine W.mk (mcenter_is S2.inv ((is_num g02.1).mono S2.pre) ((is_num g03.1).mono S2.pre) ((is_num g12.1).mono S2.pre) ((is_num g13.1).mono S2.pre) rfl (g03.2.trans g02.2.symm) (g12.2.trans g02.2.symm) (g13.2.trans g02.2.symm) u2) rfl rfl rfl (fun ts3 o2 st3 is2 => ?_)
      | refine W.pure rfl rfl rfl rfl ?_
      | refine W.ldV rfl rfl rfl rfl rfl rfl ?_
      | refine W.cmpT rfl rfl rfl rfl (by simp only [cmpP]; first | done | omega) ?_
      | refine W.fieldAddr0 rfl rfl rfl rfl rfl ?_
      | refine W.indexAddrE rfl rfl rfl rfl (by omega) (by simp only [Int.reduceToNat, Nat.reduceMul, Nat.zero_add]; rfl) ?_
      | refine W.add64E rfl rfl rfl rfl (by simp only [Int.reduceAdd]; rfl) (by omega) ?_
      | refine W.alloc rfl rfl (fun bq => ?_)
      | refine W.storeA rfl rfl rfl rfl (by rfl) (by rfl) (by simp [Value.oneCell']) ?_
      | refine W.store1 rfl rfl rfl rfl rfl rfl rfl (by simp only [List.set_cons_succ, List.set_cons_zero]; rfl) ?_
      | refine W.neIfNilT rfl rfl rfl ?_)
    | refine W.nil ?_
    | refine J.reg ?_
    | refine J.seq ?_
    | refine J.condT rfl ?_
    | refine J.condF rfl ?_
    | refine J.block ?_
    | refine J.endBlk ?_
    | refine J.skip ?_
    | refine J.rnd ?_
  have S3 : Step room U ts ts3 := S2.trans st3
  skip
  refine J.regD [s] mixed (by kernel_rfl) ?_
  repeat' first
    | (show W _ _ _ _ _ (_ :: _) _ _ _; first
      | refine W.call1 (Level_is ((is_num g10.1).mono S3.pre)) rfl rfl rfl ?_
      | refine W.pure rfl rfl rfl rfl ?_
      | refine W.fieldAddr0 rfl rfl rfl rfl rfl ?_
      | refine W.indexAddrE rfl rfl rfl rfl (by omega) (by simp only [Int.reduceToNat, Nat.reduceMul, Nat.zero_add]; rfl) ?_
      | refine W.ld rfl rfl rfl rfl rfl ?_
      | refine W.ldaV rfl rfl rfl rfl rfl rfl ?_
      | refine W.neIfNilT rfl rfl rfl ?_)
    | refine W.nil ?_
    | refine J.reg ?_
    | refine J.seq ?_
    | refine J.condF rfl ?_
    | refine J.skip ?_
  repeat' first
    | (show W _ _ _ _ _ (_ :: _) _ _ _; first
      | refine W.indexAnE rfl rfl rfl rfl rfl (by omega) (cs := [int (num ts t.k0.k3), int (num ts t.k1.k2), int (num ts t.k2.k1), int (num ts t.k3.k0)]) rfl ?_
      | refine W.mk (mcenter_is S3.inv ((is_num g10.1).mono S3.pre) ((is_num g11.1).mono S3.pre) ((is_num g20.1).mono S3.pre) ((is_num g21.1).mono S3.pre) rfl (g11.2.trans g10.2.symm) (g20.2.trans g10.2.symm) (g21.2.trans g10.2.symm) u3) rfl rfl rfl (fun ts4 o3 st4 is3 => ?_)
      | refine W.pure rfl rfl rfl rfl ?_
      | refine W.ldV rfl rfl rfl rfl rfl rfl ?_
      | refine W.cmpT rfl rfl rfl rfl (by simp only [cmpP]; first | done | omega) ?_
      | refine W.fieldAddr0 rfl rfl rfl rfl rfl ?_
      | refine W.indexAddrE rfl rfl rfl rfl (by omega) (by simp only [Int.reduceToNat, Nat.reduceMul, Nat.zero_add]; rfl) ?_
      | refine W.add64E rfl rfl rfl rfl (by simp only [Int.reduceAdd]; rfl) (by omega) ?_
      | refine W.alloc rfl rfl (fun bq => ?_)
      | refine W.storeA rfl rfl rfl rfl (by rfl) (by rfl) (by simp [Value.oneCell']) ?_
      | refine W.store1 rfl rfl rfl rfl rfl rfl rfl (by simp only [List.set_cons_succ, List.set_cons_zero]; rfl) ?_
      | refine W.neIfNilT rfl rfl rfl ?_)
    | refine W.nil ?_
    | refine J.reg ?_
    | refine J.seq ?_
    | refine J.condT rfl ?_
    | refine J.condF rfl ?_
    | refine J.block ?_
    | refine J.endBlk ?_
    | refine J.skip ?_
    | refine J.rnd ?_
  have S4 : Step room U ts ts4 := S3.trans st4
  skip
  refine J.regD [s] mixed (by kernel_rfl) ?_
  repeat' first
    | (show W _ _ _ _ _ (_ :: _) _ _ _; first
      | refine W.call1 (Level_is ((is_num g11.1).mono S4.pre)) rfl rfl rfl ?_
      | refine W.pure rfl rfl rfl rfl ?_
      | refine W.fieldAddr0 rfl rfl rfl rfl rfl ?_
      | refine W.indexAddrE rfl rfl rfl rfl (by omega) (by simp only [Int.reduceToNat, Nat.reduceMul, Nat.zero_add]; rfl) ?_
      | refine W.ld rfl rfl rfl rfl rfl ?_
      | refine W.ldaV rfl rfl rfl rfl rfl rfl ?_
      | refine W.neIfNilT rfl rfl rfl ?_)
    | refine W.nil ?_
    | refine J.reg ?_
    | refine J.seq ?_
    | refine J.condF rfl ?_
    | refine J.skip ?_
  repeat' first
    | (show W _ _ _ _ _ (_ :: _) _ _ _; first
      | refine W.indexAnE rfl rfl rfl rfl rfl (by omega) (cs := [int (num ts t.k1.k2), int (num ts t.k1.k3), int (num ts t.k3.k0), int (num ts t.k3.k1)]) rfl ?_
      | refine W.mk (mcenter_is S4.inv ((is_num g11.1).mono S4.pre) ((is_num g12.1).mono S4.pre) ((is_num g21.1).mono S4.pre) ((is_num g22.1).mono S4.pre) rfl (g12.2.trans g11.2.symm) (g21.2.trans g11.2.symm) (g22.2.trans g11.2.symm) u4) rfl rfl rfl (fun ts5 o4 st5 is4 => ?_)
      | refine W.pure rfl rfl rfl rfl ?_
      | refine W.ldV rfl rfl rfl rfl rfl rfl ?_
      | refine W.cmpT rfl rfl rfl rfl (by simp only [cmpP]; first | done | omega) ?_
      | refine W.fieldAddr0 rfl rfl rfl rfl rfl ?_
      | refine W.indexAddrE rfl rfl rfl rfl (by omega) (by simp only [Int.reduceToNat, Nat.reduceMul, Nat.zero_add]; rfl) ?_
      | refine W.add64E rfl rfl rfl rfl (by simp only [Int.reduceAdd]; rfl) (by omega) ?_
      | refine W.alloc rfl rfl (fun bq => ?_)
      | refine W.storeA rfl rfl rfl rfl (by rfl) (by rfl) (by simp [Value.oneCell']) ?_
      | refine W.store1 rfl rfl rfl rfl rfl rfl rfl (by simp only [List.set_cons_succ, List.set_cons_zero]; rfl) ?_
      | refine W.neIfNilT rfl rfl rfl ?_)
    | refine W.nil ?_
    | refine J.reg ?_
    | refine J.seq ?_
    | refine J.condT rfl ?_
    | refine J.condF rfl ?_
    | refine J.block ?_
    | refine J.endBlk ?_
    | refine J.skip ?_
    | refine J.rnd ?_
  have S5 : Step room U ts ts5 := S4.trans st5
  skip
  refine J.regD [s] mixed (by kernel_rfl) ?_
  repeat' first
    | (show W _ _ _ _ _ (_ :: _) _ _ _; first
      | refine W.call1 (Level_is ((is_num g12.1).mono S5.pre)) rfl rfl rfl ?_
      | refine W.pure rfl rfl rfl rfl ?_
      | refine W.fieldAddr0 rfl rfl rfl rfl rfl ?_
      | refine W.indexAddrE rfl rfl rfl rfl (by omega) (by simp only [Int.reduceToNat, Nat.reduceMul, Nat.zero_add]; rfl) ?_
      | refine W.ld rfl rfl rfl rfl rfl ?_
      | refine W.ldaV rfl rfl rfl rfl rfl rfl ?_
      | refine W.neIfNilT rfl rfl rfl ?_)
    | refine W.nil ?_
    | refine J.reg ?_
    | refine J.seq ?_
    | refine J.condF rfl ?_
    | refine J.skip ?_
  repeat' first
    | (show W _ _ _ _ _ (_ :: _) _ _ _; first
      | refine W.indexAnE rfl rfl rfl rfl rfl (by omega) (cs := [int (num ts t.k2.k0), int (num ts t.k2.k1), int (num ts t.k2.k2), int (num ts t.k2.k3)]) rfl ?_
      | refine W.mk (mcenter_is S5.inv ((is_num g12.1).mono S5.pre) ((is_num g13.1).mono S5.pre) ((is_num g22.1).mono S5.pre) ((is_num g23.1).mono S5.pre) rfl (g13.2.trans g12.2.symm) (g22.2.trans g12.2.symm) (g23.2.trans g12.2.symm) u5) rfl rfl rfl (fun ts6 o5 st6 is5 => ?_)
      | refine W.pure rfl rfl rfl rfl ?_
      | refine W.ldV rfl rfl rfl rfl rfl rfl ?_
      | refine W.cmpT rfl rfl rfl rfl (by simp only [cmpP]; first | done | omega) ?_
      | refine W.fieldAddr0 rfl rfl rfl rfl rfl ?_
      | refine W.indexAddrE rfl rfl rfl rfl (by omega) (by simp only [Int.reduceToNat, Nat.reduceMul, Nat.zero_add]; rfl) ?_
      | refine W.add64E rfl rfl rfl rfl (by simp only [Int.reduceAdd]; rfl) (by omega) ?_
      | refine W.alloc rfl rfl (fun bq => ?_)
      | refine W.storeA rfl rfl rfl rfl (by rfl) (by rfl) (by simp [Value.oneCell']) ?_
      | refine W.store1 rfl rfl rfl rfl rfl rfl rfl (by simp only [List.set_cons_succ, List.set_cons_zero]; rfl) ?_
      | refine W.neIfNilT rfl rfl rfl ?_)
    | refine W.nil ?_
    | refine J.reg ?_
    | refine J.seq ?_
    | refine J.condT rfl ?_
    | refine J.condF rfl ?_
    | refine J.block ?_
    | refine J.endBlk ?_
    | refine J.skip ?_
    | refine J.rnd ?_
  have S6 : Step room U ts ts6 := S5.trans st6
  skip
  refine J.regD [s] mixed (by kernel_rfl) ?_
  repeat' first
    | (show W _ _ _ _ _ (_ :: _) _ _ _; first
      | refine W.call1 (Level_is ((is_num g20.1).mono S6.pre)) rfl rfl rfl ?_
      | refine W.pure rfl rfl rfl rfl ?_
      | refine W.fieldAddr0 rfl rfl rfl rfl rfl ?_
      | refine W.indexAddrE rfl rfl rfl rfl (by omega) (by simp only [Int.reduceToNat, Nat.reduceMul, Nat.zero_add]; rfl) ?_
      | refine W.ld rfl rfl rfl rfl rfl ?_
      | refine W.ldaV rfl rfl rfl rfl rfl rfl ?_
      | refine W.neIfNilT rfl rfl rfl ?_)
    | refine W.nil ?_
    | refine J.reg ?_
    | refine J.seq ?_
    | refine J.condF rfl ?_
    | refine J.skip ?_
  repeat' first
    | (show W _ _ _ _ _ (_ :: _) _ _ _; first
      | refine W.indexAnE rfl rfl rfl rfl rfl (by omega) (cs := [int (num ts t.k2.k1), int (num ts t.k3.k0), int (num ts t.k2.k3), int (num ts t.k3.k2)]) rfl ?_
      | refine W.mk (mcenter_is S6.inv ((is_num g20.1).mono S6.pre) ((is_num g21.1).mono S6.pre) ((is_num g30.1).mono S6.pre) ((is_num g31.1).mono S6.pre) rfl (g21.2.trans g20.2.symm) (g30.2.trans g20.2.symm) (g31.2.trans g20.2.symm) u6) rfl rfl rfl (fun ts7 o6 st7 is6 => ?_)
      | refine W.pure rfl rfl rfl rfl ?_
      | refine W.ldV rfl rfl rfl rfl rfl rfl ?_
      | refine W.cmpT rfl rfl rfl rfl (by simp only [cmpP]; first | done | omega) ?_
      | refine W.fieldAddr0 rfl rfl rfl rfl rfl ?_
      | refine W.indexAddrE rfl rfl rfl rfl (by omega) (by simp only [Int.reduceToNat, Nat.reduceMul, Nat.zero_add]; rfl) ?_
      | refine W.add64E rfl rfl rfl rfl (by simp only [Int.reduceAdd]; rfl) (by omega) ?_
      | refine W.alloc rfl rfl (fun bq => ?_)
      | refine W.storeA rfl rfl rfl rfl (by rfl) (by rfl) (by simp [Value.oneCell']) ?_
      | refine W.store1 rfl rfl rfl rfl rfl rfl rfl (by simp only [List.set_cons_succ, List.set_cons_zero]; rfl) ?_
      | refine W.neIfNilT rfl rfl rfl ?_)
    | refine W.nil ?_
    | refine J.reg ?_
    | refine J.seq ?_
    | refine J.condT rfl ?_
    | refine J.condF rfl ?_
    | refine J.block ?_
    | refine J.endBlk ?_
    | refine J.skip ?_
    | refine J.rnd ?_
  have S7 : Step room U ts ts7 := S6.trans st7
  skip
  refine J.regD [s] mixed (by kernel_rfl) ?_
  repeat' first
    | (show W _ _ _ _ _ (_ :: _) _ _ _; first
      | refine W.call1 (Level_is ((is_num g21.1).mono S7.pre)) rfl rfl rfl ?_
      | refine W.pure rfl rfl rfl rfl ?_
      | refine W.fieldAddr0 rfl rfl rfl rfl rfl ?_
      | refine W.indexAddrE rfl rfl rfl rfl (by omega) (by simp only [Int.reduceToNat, Nat.reduceMul, Nat.zero_add]; rfl) ?_
      | refine W.ld rfl rfl rfl rfl rfl ?_
      | refine W.ldaV rfl rfl rfl rfl rfl rfl ?_
      | refine W.neIfNilT rfl rfl rfl ?_)
    | refine W.nil ?_
    | refine J.reg ?_
    | refine J.seq ?_
    | refine J.condF rfl ?_
    | refine J.skip ?_
  repeat' first
    | (show W _ _ _ _ _ (_ :: _) _ _ _; first
      | refine W.indexAnE rfl rfl rfl rfl rfl (by omega) (cs := [int (num ts t.k3.k0), int (num ts t.k3.k1), int (num ts t.k3.k2), int (num ts t.k3.k3)]) rfl ?_
      | refine W.mk (mcenter_is S7.inv ((is_num g21.1).mono S7.pre) ((is_num g22.1).mono S7.pre) ((is_num g31.1).mono S7.pre) ((is_num g32.1).mono S7.pre) rfl (g22.2.trans g21.2.symm) (g31.2.trans g21.2.symm) (g32.2.trans g21.2.symm) u7) rfl rfl rfl (fun ts8 o7 st8 is7 => ?_)
      | refine W.pure rfl rfl rfl rfl ?_
      | refine W.ldV rfl rfl rfl rfl rfl rfl ?_
      | refine W.cmpT rfl rfl rfl rfl (by simp only [cmpP]; first | done | omega) ?_
      | refine W.fieldAddr0 rfl rfl rfl rfl rfl ?_
      | refine W.indexAddrE rfl rfl rfl rfl (by omega) (by simp only [Int.reduceToNat, Nat.reduceMul, Nat.zero_add]; rfl) ?_
      | refine W.add64E rfl rfl rfl rfl (by simp only [Int.reduceAdd]; rfl) (by omega) ?_
      | refine W.alloc rfl rfl (fun bq => ?_)
      | refine W.storeA rfl rfl rfl rfl (by rfl) (by rfl) (by simp [Value.oneCell']) ?_
      | refine W.store1 rfl rfl rfl rfl rfl rfl rfl (by simp only [List.set_cons_succ, List.set_cons_zero]; rfl) ?_
      | refine W.neIfNilT rfl rfl rfl ?_)
    | refine W.nil ?_
    | refine J.reg ?_
    | refine J.seq ?_
    | refine J.condT rfl ?_
    | refine J.condF rfl ?_
    | refine J.block ?_
    | refine J.endBlk ?_
    | refine J.skip ?_
    | refine J.rnd ?_
  have S8 : Step room U ts ts8 := S7.trans st8
  skip
  refine J.regD [s] mixed (by kernel_rfl) ?_
  repeat' first
    | (show W _ _ _ _ _ (_ :: _) _ _ _; first
      | refine W.call1 (Level_is ((is_num g22.1).mono S8.pre)) rfl rfl rfl ?_
      | refine W.pure rfl rfl rfl rfl ?_
      | refine W.fieldAddr0 rfl rfl rfl rfl rfl ?_
      | refine W.indexAddrE rfl rfl rfl rfl (by omega) (by simp only [Int.reduceToNat, Nat.reduceMul, Nat.zero_add]; rfl) ?_
      | refine W.ld rfl rfl rfl rfl rfl ?_
      | refine W.ldaV rfl rfl rfl rfl rfl rfl ?_
      | refine W.neIfNilT rfl rfl rfl ?_)
    | refine W.nil ?_
    | refine J.reg ?_
    | refine J.seq ?_
    | refine J.condF rfl ?_
    | refine J.skip ?_
  repeat' first
    | (show W _ _ _ _ _ (_ :: _) _ _ _; first
      | refine W.mk (mcenter_is S8.inv ((is_num g22.1).mono S8.pre) ((is_num g23.1).mono S8.pre) ((is_num g32.1).mono S8.pre) ((is_num g33.1).mono S8.pre) rfl (g23.2.trans g22.2.symm) (g32.2.trans g22.2.symm) (g33.2.trans g22.2.symm) u8) rfl rfl rfl (fun ts9 o8 st9 is8 => ?_)
      | refine W.pure rfl rfl rfl rfl ?_
      | refine W.cmpF rfl rfl rfl rfl (by simp only [cmpN]; first | done | omega) ?_
      | refine W.indexAddrE rfl rfl rfl rfl (by omega) (by simp only [Int.reduceToNat, Nat.reduceMul, Nat.zero_add]; rfl) ?_
      | refine W.add64E rfl rfl rfl rfl (by simp only [Int.reduceAdd]; rfl) (by omega) ?_
      | refine W.ldaV rfl rfl rfl rfl rfl rfl ?_
      | refine W.storeA rfl rfl rfl rfl (by rfl) (by rfl) (by simp [Value.oneCell']) ?_
      | refine W.store1 rfl rfl rfl rfl rfl rfl rfl (by simp only [List.set_cons_succ, List.set_cons_zero]; rfl) ?_)
    | refine W.nil ?_
    | refine J.reg ?_
    | refine J.seq ?_
    | refine J.condF rfl ?_
    | refine J.endBlk ?_
    | refine J.rnd ?_
    | refine J.exit rfl ?_
  skip
  have S9 := S8.trans st9
  exact J.retR [m, s] (resc1 rfl rfl rfl rfl) ⟨ts9, o0, o1, o2, o3, o4, o5, o6, o7, o8, rfl, rfl, S9, is0.mono (st2.trans (st3.trans (st4.trans (st5.trans (st6.trans (st7.trans (st8.trans st9))))))).pre, is1.mono (st3.trans (st4.trans (st5.trans (st6.trans (st7.trans (st8.trans st9)))))).pre, is2.mono (st4.trans (st5.trans (st6.trans (st7.trans (st8.trans st9))))).pre, is3.mono (st5.trans (st6.trans (st7.trans (st8.trans st9)))).pre, is4.mono (st6.trans (st7.trans (st8.trans st9))).pre, is5.mono (st7.trans (st8.trans st9)).pre, is6.mono (st8.trans st9).pre, is7.mono st9.pre, is8⟩
end
end Go.Proofs.YtphnadpmpcifoaaDoor
