/-
  Package grow: Center, Wide, Grow.
-/
import Derived.Test.YtphnadpmpcifoaaDoorTGrower
import Derived.Test.YtphnadpmpcifoaaDoorWide
namespace Go.Proofs.YtphnadpmpcifoaaDoor
open Go.Sq Go.Qm
theorem ents_mono {b l : Nat} {ts ts' : List T} {es : Array MapEntry} (hes : Ents b l ts es) (hp : ts <+: ts') : Ents b l ts' es := fun e he => by
  obtain ⟨i, j, o, e1, e2, e3, e4, e5⟩ := hes e he
  exact ⟨i, j, o, e1, e2, e3, e4, e5.mono hp⟩
/-- A tree was made by a grower. -/
def Widened (room : Nat) (U ts : List T) (g s b l n : Nat) (u : T) : Value → List Ent → Prop := fun v N => ∃ ts' id, v = okI id ∧ N = [(g, gwP g s b l n ts'), (s, treeP s room ts')] ∧ Step room U ts ts' ∧ Is ts' id u
theorem spL_len (t k : Nat) : (spL t k).length = 4 := rfl
attribute [local irreducible] SW J T.lev T.ok T.k0 T.k1 T.k2 T.k3 T.cells num T.ctr T.grow T.growNew genN fourN cutN spK spQ spS T.empty T.emptyNew
set_option maxHeartbeats 8000000
set_option maxRecDepth 10000
section
variable {s room m g b l n : Nat} {U ts : List T}
theorem mspread_is {t : Nat} (h : Inv room U ts) (ht : t < 18446744073709551616) (h0 : T.leaf (spK t 64 0) ∈ U) (h1 : T.leaf (spK t 64 1) ∈ U) (h2 : T.leaf (spK t 64 2) ∈ U) (h3 : T.leaf (spK t 64 3) ∈ U) (h4 : T.node (.leaf (spK t 64 0)) (.leaf (spK t 64 1)) (.leaf (spK t 64 2)) (.leaf (spK t 64 3)) ∈ U) :
    CallR P 25 [ptr m, u64v t] [(m, mkP m s), (s, treeP s room ts)] (Made room U ts m s (.node (.leaf (spK t 64 0)) (.leaf (spK t 64 1)) (.leaf (spK t 64 2)) (.leaf (spK t 64 3)))) := by
  have lv : ∀ q : Nat, (T.leaf q).lev = 3 := fun q => by simp only [T.lev]
  refine callR_of Tryd.func25 rfl Tryd.ntmps25 rfl fun σ F => ?_
  repeat' first
    | refine W.pure rfl rfl rfl rfl ?_
    | refine W.alloc rfl rfl (fun bq => ?_)
    | refine W.nil ?_
    | refine J.reg ?_
    | refine J.seq ?_
    | refine J.block ?_
  refine J.loop (X := Nat) (fun k => k ≤ 64) (fun k => 64 - k) (fun k => [(0, ptr m), (1, u64v t), (5, ptr bq), (9, int k)])
    (fun k => [(bq, pts bq (.cells ((spL t k).map u64v).toArray 90 (0, 0))), (m, mkP m s), (s, treeP s room ts)]) 0 (by omega) ⟨rfl, rfl, rfl, rfl, trivial⟩ (by simp only [spL, spK_zero]; exact .refl _) fun k hk => ?_
  by_cases hlt : k < 64
  · have hq := spQ_lt hlt
    have hS := spS_lt k
    have e1 : ((k : Int) % 8 + 4) / 8 + ((k : Int) / 8 + 4) / 8 * 2 = (spQ k : Int) := by unfold spQ; omega
    have e2 : 8 * (((k : Int) / 8 + 4) % 8) + ((k : Int) % 8 + 4) % 8 = (spS k : Int) := by unfold spS; omega
    have hcell : ((spL t k).map u64v)[(((k : Int) % 8 + 4) / 8 + ((k : Int) / 8 + 4) / 8 * 2).toNat * 1]? = some (u64v (spK t k (spQ k))) := by
      have e : ((spQ k : Nat) : Int).toNat * 1 = spQ k := by omega
      rw [e1, e, List.getElem?_map, ← spL_get hq, List.getD_eq_getElem?_getD, List.getElem?_eq_getElem (by rw [spL_len]; exact hq)]; rfl
    have f1 : ShrE .u64 (t : Int) (k : Int) ((t / 2 ^ k : Nat) : Int) := ⟨shr_nat (by show k ≤ 64; omega)⟩
    have f2 : IntE .and .u64 ((t / 2 ^ k : Nat) : Int) 1 (u64v (t / 2 ^ k % 2)) := ⟨by
      have := and_u (k := .u64) (a := t / 2 ^ k) (b := 1) rfl (Nat.lt_of_le_of_lt (Nat.div_le_self _ _) ht) (by decide)
      simp only [intV]
      rw [show (1 : Int) = ((1 : Nat) : Int) from rfl, this, Nat.and_one_is_mod]⟩
    have hp : 2 ^ spS k < 2 ^ 64 := Nat.pow_lt_pow_right (by omega) hS
    have h7 : (t / 2 ^ k % 2) * 2 ^ spS k < 2 ^ 64 := by
      have : t / 2 ^ k % 2 = 0 ∨ t / 2 ^ k % 2 = 1 := by omega
      rcases this with e | e <;> rw [e] <;> omega
    have f3 : ShlE .u64 ((t / 2 ^ k % 2 : Nat) : Int) (8 * (((k : Int) / 8 + 4) % 8) + ((k : Int) % 8 + 4) % 8) (((t / 2 ^ k % 2) * 2 ^ spS k : Nat) : Int) := ⟨by rw [e2]; exact shl_u (k := .u64) (c := spS k) rfl (by show spS k ≤ 64; omega) h7⟩
    have f4 : IntE .or .u64 ((spK t k (spQ k) : Nat) : Int) (((t / 2 ^ k % 2) * 2 ^ spS k : Nat) : Int) (u64v (spK t k (spQ k) ||| (t / 2 ^ k % 2) * 2 ^ spS k)) := ⟨by
      simp only [intV]
      rw [or_u (k := .u64) rfl (spK_lt _ _ _) h7]⟩
    have hset : ((spL t k).map u64v).set ((((k : Int) % 8 + 4) / 8 + ((k : Int) / 8 + 4) / 8 * 2).toNat * 1) (u64v (spK t k (spQ k) ||| (t / 2 ^ k % 2) * 2 ^ spS k)) = (spL t (k + 1)).map u64v := by
      have e : ((spQ k : Nat) : Int).toNat * 1 = spQ k := by omega
      rw [e1, e, ← List.map_set, spL_step hlt]
    have hin : Nat.blt ((((k : Int) % 8 + 4) / 8 + ((k : Int) / 8 + 4) / 8 * 2).toNat * 1) ((spL t k).map u64v).toArray.size = true := by
      have e : ((spQ k : Nat) : Int).toNat * 1 = spQ k := by omega
      rw [e1, e, Nat.blt]
      exact Nat.ble_eq_true_of_le hq
    repeat' first
      | (show W _ _ _ _ _ (_ :: _) _ _ _; first
        | refine W.pure rfl rfl rfl rfl ?_
        | refine W.cmpT rfl rfl rfl rfl (by simp only [cmpP]; first | done | omega) ?_
        | refine W.add64 rfl rfl rfl rfl (by omega) ?_
        | refine W.rem rfl rfl rfl rfl (by omega) (by omega) ?_
        | refine W.quo rfl rfl rfl rfl (by omega) (by omega) (wrap_i64 (by omega) (by omega)) ?_)
      | refine W.nil ?_
      | refine J.reg ?_
      | refine J.seq ?_
      | refine J.condT rfl ?_
      | refine J.block ?_
      | refine J.skip ?_
    refine J.regD [] mixed (by kernel_rfl) ?_
    repeat' first
      | (show W _ _ _ _ _ (_ :: _) _ _ _; first
        | refine W.ld rfl rfl rfl rfl hcell ?_
        | refine W.store1S rfl rfl rfl rfl (by kernel_rfl) rfl rfl hin hset ?_
        | refine W.pure rfl rfl rfl rfl ?_
        | refine W.binE rfl rfl rfl rfl (by assumption) ?_
        | refine W.shrE rfl rfl rfl rfl (by omega) (by assumption) ?_
        | refine W.shlE rfl rfl rfl rfl (by omega) (by assumption) ?_
        | refine W.indexAddrE rfl rfl rfl rfl (by omega) (by simp only [Nat.zero_add]; rfl) ?_
        | refine W.add64 rfl rfl rfl rfl (by omega) ?_
        | refine W.mul64 rfl rfl rfl rfl (by omega) ?_
        | refine W.rem rfl rfl rfl rfl (by omega) (by omega) ?_
        | refine W.quo rfl rfl rfl rfl (by omega) (by omega) (wrap_i64 (by omega) (by omega)) ?_)
      | refine W.nil ?_
      | refine J.reg ?_
      | refine J.endBlk ?_
    exact J.again (k + 1) (by omega) (by omega) ⟨rfl, rfl, rfl, rfl, trivial⟩ (.refl _)
  · obtain rfl : k = 64 := by omega
    repeat' first
      | refine W.cmpF rfl rfl rfl rfl (by simp only [cmpN]; first | done | omega) ?_
      | refine W.nil ?_
      | refine J.reg ?_
      | refine J.seq ?_
      | refine J.condF rfl ?_
      | refine J.exit rfl ?_
    refine J.regD [m, s] mixed (by kernel_rfl) ?_
    repeat' first
      | (show W _ _ _ _ _ (_ :: _) _ _ _; first
        | refine W.mk (mleaf_is h h0 (spK_lt _ _ _)) rfl rfl rfl (fun ts1 o1 s1 i1 => ?_)
        | refine W.pure rfl rfl rfl rfl ?_
        | refine W.indexAddrE rfl rfl rfl rfl (by omega) (by simp only [Int.reduceToNat, Nat.reduceMul, Nat.zero_add]; rfl) ?_
        | refine W.ld rfl rfl rfl rfl rfl ?_)
    repeat' first
      | (show W _ _ _ _ _ (_ :: _) _ _ _; first
        | refine W.mk (mleaf_is s1.inv h1 (spK_lt _ _ _)) rfl rfl rfl (fun ts2 o2 s2 i2 => ?_)
        | refine W.pure rfl rfl rfl rfl ?_
        | refine W.indexAddrE rfl rfl rfl rfl (by omega) (by simp only [Int.reduceToNat, Nat.reduceMul, Nat.zero_add]; rfl) ?_
        | refine W.ld rfl rfl rfl rfl rfl ?_)
    repeat' first
      | (show W _ _ _ _ _ (_ :: _) _ _ _; first
        | refine W.mk (mleaf_is s2.inv h2 (spK_lt _ _ _)) rfl rfl rfl (fun ts3 o3 s3 i3 => ?_)
        | refine W.pure rfl rfl rfl rfl ?_
        | refine W.indexAddrE rfl rfl rfl rfl (by omega) (by simp only [Int.reduceToNat, Nat.reduceMul, Nat.zero_add]; rfl) ?_
        | refine W.ld rfl rfl rfl rfl rfl ?_)
    repeat' first
      | refine W.mk (mleaf_is s3.inv h3 (spK_lt _ _ _)) rfl rfl rfl (fun ts4 o4 s4 i4 => ?_)
    repeat' first
      | refine W.mk (mnode_is s4.inv (i1.mono (s2.trans (s3.trans s4)).pre) (i2.mono (s3.trans s4).pre) (i3.mono s4.pre) i4 h4 (by rw [lv, lv]) (by rw [lv, lv]) (by rw [lv, lv]) (by rw [lv]; omega)) rfl rfl rfl (fun ts5 o5 s5 i5 => ?_)
      | refine W.pure rfl rfl rfl rfl ?_
      | refine W.nil ?_
    exact J.retR [m, s] (res1 rfl rfl) ⟨_, _, rfl, rfl, s1.trans (s2.trans (s3.trans (s4.trans s5))), i5⟩
end
end Go.Proofs.YtphnadpmpcifoaaDoor
