/-
  tile.field.lay.
-/
import Derived.Test.YtphnadpmpcifoaaDoorTField
import Derived.Test.YtphnadpmpcifoaaDoorFld2
namespace Go.Proofs.YtphnadpmpcifoaaDoor
open Go.Sq Go.Qm
attribute [local irreducible] SW J
set_option maxHeartbeats 4000000
set_option maxRecDepth 10000

abbrev fldP (b : Nat) (f : List Nat) : HP := pts b (.cells (f.map u32v).toArray 122 (0, 0))
theorem lay_is {f : Nat} {r : List Nat} {t x y : Nat} (hr : FldOk r) (ht : t < 18446744073709551616) (hx : x ≤ 24) (hy : y ≤ 16) :
    CallF P 65 [ptr f, u64v t, int x, int y] [(f, fldP f r)] (.tuple #[]) [(f, fldP f (layN r t x y 8))] := by
  refine callR_ofM Tryd.func65 rfl Tryd.ntmps65 rfl fun σ F => ?_
  repeat' first
    | (show W _ _ _ _ _ (_ :: _) _ _ _; first
      | refine W.pure rfl rfl rfl rfl ?_
      | refine W.boxS rfl rfl rfl rfl (fun bq => ?_)
      | refine W.makeFunc rfl rfl rfl rfl ?_)
    | refine W.nil ?_
    | refine J.reg ?_
    | refine J.seq ?_
    | refine J.block ?_
  rename_i b4 b6
  refine J.range2 (N := 8) (us := fun k => int k) (vs := fun k => u32v (t / 2 ^ (8 * k) % 256)) (bnd := [u64v t]) (cap := [])
    (fun k => [(bq, pts bq (.cells #[int y] 3 (0, 0))), (b6, pts b6 (.cells #[int x] 3 (0, 0))), (b4, pts b4 (.cells #[ptr f] 148 (0, 0))), (f, fldP f (layN r t x y k))])
    (.refl _) rfl inferInstance (rows_iter ht) rfl rfl
    (fun k => [(9, u32v (t / 2 ^ (8 * k) % 256)), (8, int k), (4, ptr b4), (6, ptr b6), (7, ptr bq)]) ?_ ?_ rfl (N0 := [(f, fldP f (layN r t x y 8))]) (M := [(bq, pts bq (.cells #[int y] 3 (0, 0))), (b6, pts b6 (.cells #[int x] 3 (0, 0))), (b4, pts b4 (.cells #[ptr f] 148 (0, 0)))]) ?_ ⟨rfl, rfl⟩
  · intro k hk l σ G a₀ w ha hs K hK
    refine wpIn_seq ?_
    refine wpIn_reg (σ := σ) (F := G) (As := []) ?_ ha hs
    repeat' first
      | refine W.pure rfl rfl rfl rfl ?_
    refine W.nilQ (As := []) fun a w ha hs => ?_
    refine wpIn_reg (σ := σ) (F := G) (As := []) ?_ ha hs
    repeat' first
      | refine W.pure rfl rfl rfl rfl ?_
    refine W.nilQ (As := []) fun a w ha hs => ?_
    exact hK _ _ ⟨ha.1, ha.2.1, fun t' v e => ha.2.2 t' v (Env.sub_of_all (E' := [(9, u32v (t / 2 ^ (8 * k) % 256)), (8, int k), (4, ptr b4), (6, ptr b6), (7, ptr bq)]) (by exact ⟨rfl, rfl, rfl, rfl, rfl, trivial⟩) t' v e)⟩ hs
  · intro k hk l σ G a₁ w ha hs Q' hQ
    have hok := layN_ok hr t y hx k
    have hq : ((layN r t x y k).getD (y + k) 0) < 4294967296 := getD_lt hok _
    have hcell : ((layN r t x y k).map u32v)[((y : Int) + (k : Int)).toNat * 1]? = some (u32v ((layN r t x y k).getD (y + k) 0)) := by
      have e : ((y : Int) + (k : Int)).toNat * 1 = y + k := by omega
      have hlt : y + k < (layN r t x y k).length := by rw [hok.1]; omega
      rw [e, List.getElem?_map, List.getD_eq_getElem?_getD, List.getElem?_eq_getElem hlt]; rfl
    have hsh : ShlE .u32 ((t / 2 ^ (8 * k) % 256 : Nat) : Int) x (((t / 2 ^ (8 * k) % 256) * 2 ^ x : Nat) : Int) := ⟨shl_u (k := .u32) rfl (by show x ≤ 32; omega) (row_lt t k hx)⟩
    have hor : IntE .or .u32 ((((layN r t x y k).getD (y + k) 0) : Nat) : Int) (((t / 2 ^ (8 * k) % 256) * 2 ^ x : Nat) : Int) (u32v ((layN r t x y k).getD (y + k) 0 ||| (t / 2 ^ (8 * k) % 256) * 2 ^ x)) := ⟨by simp only [intV]; rw [or_u (k := .u32) rfl hq (row_lt t k hx)]⟩
    have hset : ((layN r t x y k).map u32v).set (((y : Int) + (k : Int)).toNat * 1) (u32v ((layN r t x y k).getD (y + k) 0 ||| (t / 2 ^ (8 * k) % 256) * 2 ^ x)) = (layN r t x y (k + 1)).map u32v := by
      have e : ((y : Int) + (k : Int)).toNat * 1 = y + k := by omega
      rw [e, layN, List.map_set]
    refine wpIn_block ?_
    refine wpIn_regD (σ := σ) (F := G) [] mixed (by kernel_rfl) ?_ ha hs
    repeat' first
      | (show W _ _ _ _ _ (_ :: _) _ _ _; first
        | refine W.ld rfl rfl rfl rfl hcell ?_
        | refine W.store1S rfl rfl rfl rfl (by kernel_rfl) rfl rfl (by rw [Nat.blt]; exact Nat.ble_eq_true_of_le (by simp only [List.size_toArray, List.length_map, hok.1]; omega)) hset ?_
        | refine W.pure rfl rfl rfl rfl ?_
        | refine W.binE rfl rfl rfl rfl (by assumption) ?_
        | refine W.shlE rfl rfl rfl rfl (by omega) (by assumption) ?_
        | refine W.indexAddrE rfl rfl rfl rfl (by omega) (by simp only [Nat.zero_add]; rfl) ?_
        | refine W.ld rfl rfl rfl rfl rfl ?_
        | refine W.add64 rfl rfl rfl rfl (by omega) ?_)
    refine W.nilQ fun a w ha hs => ?_
    exact hQ _ _ (hs.perm (List.Perm.append_right G (List.perm_append_comm (l₁ := [_]) (l₂ := [_, _, _]))))
  · exact (List.perm_append_comm (l₁ := [_, _, _]) (l₂ := [_]))
end Go.Proofs.YtphnadpmpcifoaaDoor
