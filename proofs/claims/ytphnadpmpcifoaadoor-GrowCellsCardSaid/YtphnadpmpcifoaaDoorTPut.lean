/-
  Package quad on trees (4): a cell is set, or read.
-/
import Derived.Test.YtphnadpmpcifoaaDoorTSet
namespace Go.Proofs.YtphnadpmpcifoaaDoor
open Go.Sq Go.Qm
attribute [local irreducible] SW J
set_option maxHeartbeats 4000000
set_option maxRecDepth 10000

section
variable {s room : Nat} {U : List T}
theorem sub_pow {L : Nat} (hL : L ≤ 39) : IntE .sub .i64 (shlI .i64 1 L) 1 (int (shlI .i64 1 L - 1)) := by
  have h2 : (2 : Nat) ^ L ≤ 2 ^ 39 := Nat.pow_le_pow_right (by omega) hL
  have e : shlI .i64 1 L = ((1 * 2 ^ L : Nat) : Int) := shl_i64 (a := 1) (by omega) (by omega)
  exact ⟨by simp only [intV]; rw [wrap_i64 (by omega) (by omega)]⟩
theorem pow_le {L k : Nat} (h : L ≤ 40) (hx : k < 2 ^ L) : k < 1099511627776 := Nat.lt_of_lt_of_le hx (Nat.pow_le_pow_right (by omega) h)
theorem and_lo {x L : Nat} (hL : L ≤ 39) (hx : x < 2 ^ L) : IntE .and .i64 x (shlI .i64 1 L - 1) (int x) ∧ ShrE .i64 x L 0 := by
  have := pow_le (by omega) hx
  refine ⟨⟨?_⟩, ⟨?_⟩⟩
  · simp only [intV]; rw [and_mask (by omega) (by omega), Nat.mod_eq_of_lt hx]
  · rw [shr_nat (by show L ≤ 64; omega), Nat.div_eq_of_lt hx]; rfl
theorem and_hi {x L : Nat} (hL : L ≤ 39) (hx : x < 2 * 2 ^ L) (hn : ¬ x < 2 ^ L) : IntE .and .i64 x (shlI .i64 1 L - 1) (int ((x - 2 ^ L : Nat) : Int)) ∧ ShrE .i64 x L 1 := by
  have : 2 ^ L ≤ 2 ^ 39 := Nat.pow_le_pow_right (by omega) hL
  refine ⟨⟨?_⟩, ⟨?_⟩⟩
  · simp only [intV]
    rw [and_mask (by omega) (by omega), Nat.mod_eq_sub_mod (by omega), Nat.mod_eq_of_lt (by omega)]
  · rw [shr_nat (by show L ≤ 64; omega)]
    have : x / 2 ^ L = 1 := Nat.div_eq_of_lt_le (by omega) (by omega)
    rw [this]; rfl
theorem Set_is (v : Bool) : ∀ (t : T) {id : Int} {x y : Nat} {ts : List T}, Inv room U ts → Is ts id t → x < 2 ^ t.lev → y < 2 ^ t.lev → (∀ u ∈ t.setNew x y v, u ∈ U) →
    CallF P 33 [ptr s, int id, int x, int y, .bool v] [(s, treeP s room ts)] (okI (num (puts ts (t.setNew x y v)) (t.set x y v))) [(s, treeP s room (puts ts (t.setNew x y v)))]
  | .leaf n, id, x, y, ts, h, hi, hx, hy, hu => by
    have hl : (sqOf ts (.leaf n)).lev = 3 := rfl
    have hn : n < 18446744073709551616 := h.reg.ok _ hi.mem
    have hx8 : x < 8 := hx
    have hy8 : y < 8 := hy
    refine callR_of Tryd.func33 rfl Tryd.ntmps33 rfl fun σ F => ?_
    repeat' first
      | refine W.pure rfl rfl rfl rfl ?_
      | refine W.nil ?_
      | refine J.reg ?_
      | refine J.seq ?_
    refine W.call1 (cell_is hi (by simp [T.lev]) hx hy) rfl rfl rfl ?_
    repeat' first
      | (show W _ _ _ _ _ (_ :: _) _ _ _; first
        | refine W.pure rfl rfl rfl rfl ?_
        | refine W.ldV rfl rfl rfl rfl rfl rfl ?_
        | refine W.cmpT rfl rfl rfl rfl (by simp only [cmpP]; first | done | omega) ?_
        | refine W.fieldAddr0 rfl rfl rfl rfl rfl ?_
        | refine W.alloc rfl rfl (fun bq => ?_)
        | refine W.storeA rfl rfl rfl rfl (by rfl) (by rfl) (by simp [Value.oneCell']) ?_
        | refine W.neIfNilT rfl rfl rfl ?_)
      | refine W.nil ?_
      | refine J.reg ?_
      | refine J.seq ?_
      | refine J.condT rfl ?_
      | refine J.condF rfl ?_
      | refine J.skip ?_
    refine W.call0 (tSet_is (t := n) v hn hx8 hy8) rfl rfl rfl ?_
    repeat' first
      | refine W.pure rfl rfl rfl rfl ?_
      | refine W.neIfNilT rfl rfl rfl ?_
      | refine W.nil ?_
      | refine J.reg ?_
      | refine J.seq ?_
      | refine J.condF rfl ?_
      | refine J.skip ?_
    refine W.call1 (Leaf_is h (hu _ (by simp [T.setNew, T.set])) (setBit_lt v hn (by omega))) rfl rfl rfl ?_
    repeat' first
      | refine W.pure rfl rfl rfl rfl ?_
      | refine W.nil ?_
    exact J.retF [s] (res2 rfl rfl rfl) rfl
  | .node a b c d, id, x, y, ts, h, hi, hx, hy, hu => by
    have ho := h.reg.ok _ hi.mem
    obtain ⟨ka, kb, kc, kd⟩ := h.reg.kids _ hi.mem
    have hlv : a.lev + 1 ≤ 40 := h.reg.lev _ hi.mem
    obtain ⟨oa, ob, oc, od, e1, e2, e3⟩ := (show T.ok (.node a b c d) from ho)
    have hx2 := hx; have hy2 := hy
    simp only [T.lev, Nat.pow_succ, Nat.mul_comm _ 2] at hx2 hy2
    have lt := sqOf_lev ts (.node a b c d)
    have hl3 : (sqOf ts (.node a b c d)).lev ≠ 3 := by have := a.lev_ge; simp only [lt, T.lev]; omega
    have hs : IntE .sub .i64 (sqOf ts (.node a b c d)).lev 1 (int a.lev) := ⟨by simp only [lt, T.lev, intV]; rw [wrap_i64 (by omega) (by omega)]; congr 2; omega⟩
    have hp := sub_pow (L := a.lev) (by omega)
    by_cases hY : y < 2 ^ a.lev <;> by_cases hX : x < 2 ^ a.lev
    · have e1n : T.setNew (.node a b c d) x y v = a.setNew x y v ++ [.node (a.set x y v) b c d] := by simp only [T.setNew, T.set, hX, hY, if_true]
      have e2n : T.set (.node a b c d) x y v = .node (a.set x y v) b c d := by simp only [T.set, hX, hY, if_true]
      rw [e1n, puts_app, puts_one, e2n]
      have hb1 : x < 2 ^ (a).lev := by rw [show (a).lev = a.lev from rfl]; omega
      have hb2 : y < 2 ^ (a).lev := by rw [show (a).lev = a.lev from rfl]; omega
      obtain ⟨px, sx⟩ := and_lo (by omega) hX
      obtain ⟨py, sy⟩ := and_lo (by omega) hY
      have hu1 : ∀ u ∈ (a).setNew x y v, u ∈ U := fun u hm => hu u (by rw [e1n]; exact List.mem_append_left _ hm)
      have hu2 : .node (a.set x y v) b c d ∈ U := hu _ (by rw [e1n]; simp)
      have ih := Set_is v (a) h (is_num ka) hb1 hb2 hu1
      obtain ⟨g1, g2⟩ := T.setNew_goods h.reg v (a) x y ka hb1 hb2
      have h' := h.puts hu1 g1
      have pre := puts_pre ((a).setNew x y v) ts
      have ia := (is_num ka).mono pre; have ib := (is_num kb).mono pre; have ic := (is_num kc).mono pre; have id' := (is_num kd).mono pre
      have ik := is_num g2
      have sl := T.set_lev v (a) x y (h.reg.ok _ ka)
      refine callR_of Tryd.func33 rfl Tryd.ntmps33 rfl fun σ F => ?_
      repeat' first
        | refine W.pure rfl rfl rfl rfl ?_
        | refine W.nil ?_
        | refine J.reg ?_
        | refine J.seq ?_
      refine W.call1 (cell_is hi (by simp only [T.lev]; omega) hx hy) rfl rfl rfl ?_
      repeat' first
        | (show W _ _ _ _ _ (_ :: _) _ _ _; first
          | refine W.pure rfl rfl rfl rfl ?_
          | refine W.ldV rfl rfl rfl rfl rfl rfl ?_
          | refine W.binE rfl rfl rfl rfl (by assumption) ?_
          | refine W.cmpF rfl rfl rfl rfl (by simp only [cmpN]; first | done | omega) ?_
          | refine W.fieldAddr0 rfl rfl rfl rfl rfl ?_
          | refine W.alloc rfl rfl (fun bq => ?_)
          | refine W.storeA rfl rfl rfl rfl (by rfl) (by rfl) (by simp [Value.oneCell']) ?_
          | refine W.neIfNilT rfl rfl rfl ?_)
        | refine W.nil ?_
        | refine J.reg ?_
        | refine J.seq ?_
        | refine J.condF rfl ?_
        | refine J.skip ?_
      refine J.regD [] mixed (by kernel_rfl) ?_
      repeat' first
        | (show W _ _ _ _ _ (_ :: _) _ _ _; first
          | refine W.pure rfl rfl rfl rfl ?_
          | refine W.shrE rfl rfl rfl rfl (by omega) (by assumption) ?_
          | refine W.add64E rfl rfl rfl rfl (by simp only [Int.reduceAdd, Int.reduceMul]; rfl) (by omega) ?_
          | refine W.mul64 rfl rfl rfl rfl (by omega) ?_)
        | refine W.nil ?_
        | refine J.seq ?_
      refine J.regD [s] mixed (by kernel_rfl) ?_
      repeat' first
        | (show W _ _ _ _ _ (_ :: _) _ _ _; first
          | refine W.pure rfl rfl rfl rfl ?_
          | refine W.binE rfl rfl rfl rfl (by assumption) ?_
          | refine W.fieldAddr0 rfl rfl rfl rfl rfl ?_
          | refine W.indexAddrE rfl rfl rfl rfl (by omega) (by simp only [Int.reduceToNat, Nat.reduceMul, Nat.reduceAdd]; rfl) ?_
          | refine W.ld rfl rfl rfl rfl rfl ?_
          | refine W.shl rfl rfl rfl rfl (by omega) ?_)
      refine W.call1 ih rfl rfl rfl ?_
      repeat' first
        | (show W _ _ _ _ _ (_ :: _) _ _ _; first
          | refine W.pure rfl rfl rfl rfl ?_
          | refine W.fieldAddr0 rfl rfl rfl rfl rfl ?_
          | refine W.indexAddrE rfl rfl rfl rfl (by omega) (by simp only [Int.reduceToNat, Nat.reduceMul, Nat.reduceAdd]; rfl) ?_
          | refine W.ldqV rfl rfl rfl rfl rfl rfl (by simp only [List.drop_succ_cons, List.drop_zero, List.take_succ_cons, List.take_zero]; rfl) ?_
          | refine W.store1 rfl rfl rfl rfl rfl rfl rfl (by simp only [List.set_cons_succ, List.set_cons_zero]; rfl) ?_
          | refine W.neIfNilT rfl rfl rfl ?_)
        | refine W.nil ?_
        | refine J.reg ?_
        | refine J.seq ?_
        | refine J.condF rfl ?_
        | refine J.skip ?_
      refine W.call1 (Node_is h' ik ib ic id' hu2 (by omega) (by omega) (by omega) (by omega)) rfl rfl rfl ?_
      repeat' first
        | refine W.pure rfl rfl rfl rfl ?_
        | refine W.nil ?_
      exact J.retF [s] (res2 rfl rfl rfl) rfl
    · have e1n : T.setNew (.node a b c d) x y v = b.setNew (x - 2 ^ a.lev) y v ++ [.node a (b.set (x - 2 ^ a.lev) y v) c d] := by simp only [T.setNew, T.set, hX, hY, if_true, if_false]
      have e2n : T.set (.node a b c d) x y v = .node a (b.set (x - 2 ^ a.lev) y v) c d := by simp only [T.set, hX, hY, if_true, if_false]
      rw [e1n, puts_app, puts_one, e2n]
      have hb1 : (x - 2 ^ a.lev) < 2 ^ (b).lev := by rw [show (b).lev = a.lev from e1]; omega
      have hb2 : y < 2 ^ (b).lev := by rw [show (b).lev = a.lev from e1]; omega
      obtain ⟨px, sx⟩ := and_hi (by omega) hx2 hX
      obtain ⟨py, sy⟩ := and_lo (by omega) hY
      have hu1 : ∀ u ∈ (b).setNew (x - 2 ^ a.lev) y v, u ∈ U := fun u hm => hu u (by rw [e1n]; exact List.mem_append_left _ hm)
      have hu2 : .node a (b.set (x - 2 ^ a.lev) y v) c d ∈ U := hu _ (by rw [e1n]; simp)
      have ih := Set_is v (b) h (is_num kb) hb1 hb2 hu1
      obtain ⟨g1, g2⟩ := T.setNew_goods h.reg v (b) (x - 2 ^ a.lev) y kb hb1 hb2
      have h' := h.puts hu1 g1
      have pre := puts_pre ((b).setNew (x - 2 ^ a.lev) y v) ts
      have ia := (is_num ka).mono pre; have ib := (is_num kb).mono pre; have ic := (is_num kc).mono pre; have id' := (is_num kd).mono pre
      have ik := is_num g2
      have sl := T.set_lev v (b) (x - 2 ^ a.lev) y (h.reg.ok _ kb)
      refine callR_of Tryd.func33 rfl Tryd.ntmps33 rfl fun σ F => ?_
      repeat' first
        | refine W.pure rfl rfl rfl rfl ?_
        | refine W.nil ?_
        | refine J.reg ?_
        | refine J.seq ?_
      refine W.call1 (cell_is hi (by simp only [T.lev]; omega) hx hy) rfl rfl rfl ?_
      repeat' first
        | (show W _ _ _ _ _ (_ :: _) _ _ _; first
          | refine W.pure rfl rfl rfl rfl ?_
          | refine W.ldV rfl rfl rfl rfl rfl rfl ?_
          | refine W.binE rfl rfl rfl rfl (by assumption) ?_
          | refine W.cmpF rfl rfl rfl rfl (by simp only [cmpN]; first | done | omega) ?_
          | refine W.fieldAddr0 rfl rfl rfl rfl rfl ?_
          | refine W.alloc rfl rfl (fun bq => ?_)
          | refine W.storeA rfl rfl rfl rfl (by rfl) (by rfl) (by simp [Value.oneCell']) ?_
          | refine W.neIfNilT rfl rfl rfl ?_)
        | refine W.nil ?_
        | refine J.reg ?_
        | refine J.seq ?_
        | refine J.condF rfl ?_
        | refine J.skip ?_
      refine J.regD [] mixed (by kernel_rfl) ?_
      repeat' first
        | (show W _ _ _ _ _ (_ :: _) _ _ _; first
          | refine W.pure rfl rfl rfl rfl ?_
          | refine W.shrE rfl rfl rfl rfl (by omega) (by assumption) ?_
          | refine W.add64E rfl rfl rfl rfl (by simp only [Int.reduceAdd, Int.reduceMul]; rfl) (by omega) ?_
          | refine W.mul64 rfl rfl rfl rfl (by omega) ?_)
        | refine W.nil ?_
        | refine J.seq ?_
      refine J.regD [s] mixed (by kernel_rfl) ?_
      repeat' first
        | (show W _ _ _ _ _ (_ :: _) _ _ _; first
          | refine W.pure rfl rfl rfl rfl ?_
          | refine W.binE rfl rfl rfl rfl (by assumption) ?_
          | refine W.fieldAddr0 rfl rfl rfl rfl rfl ?_
          | refine W.indexAddrE rfl rfl rfl rfl (by omega) (by simp only [Int.reduceToNat, Nat.reduceMul, Nat.reduceAdd]; rfl) ?_
          | refine W.ld rfl rfl rfl rfl rfl ?_
          | refine W.shl rfl rfl rfl rfl (by omega) ?_)
      refine W.call1 ih rfl rfl rfl ?_
      repeat' first
        | (show W _ _ _ _ _ (_ :: _) _ _ _; first
          | refine W.pure rfl rfl rfl rfl ?_
          | refine W.fieldAddr0 rfl rfl rfl rfl rfl ?_
          | refine W.indexAddrE rfl rfl rfl rfl (by omega) (by simp only [Int.reduceToNat, Nat.reduceMul, Nat.reduceAdd]; rfl) ?_
          | refine W.ldqV rfl rfl rfl rfl rfl rfl (by simp only [List.drop_succ_cons, List.drop_zero, List.take_succ_cons, List.take_zero]; rfl) ?_
          | refine W.store1 rfl rfl rfl rfl rfl rfl rfl (by simp only [List.set_cons_succ, List.set_cons_zero]; rfl) ?_
          | refine W.neIfNilT rfl rfl rfl ?_)
        | refine W.nil ?_
        | refine J.reg ?_
        | refine J.seq ?_
        | refine J.condF rfl ?_
        | refine J.skip ?_
      refine W.call1 (Node_is h' ia ik ic id' hu2 (by omega) (by omega) (by omega) (by omega)) rfl rfl rfl ?_
      repeat' first
        | refine W.pure rfl rfl rfl rfl ?_
        | refine W.nil ?_
      exact J.retF [s] (res2 rfl rfl rfl) rfl
    · have e1n : T.setNew (.node a b c d) x y v = c.setNew x (y - 2 ^ a.lev) v ++ [.node a b (c.set x (y - 2 ^ a.lev) v) d] := by simp only [T.setNew, T.set, hX, hY, if_true, if_false]
      have e2n : T.set (.node a b c d) x y v = .node a b (c.set x (y - 2 ^ a.lev) v) d := by simp only [T.set, hX, hY, if_true, if_false]
      rw [e1n, puts_app, puts_one, e2n]
      have hb1 : x < 2 ^ (c).lev := by rw [show (c).lev = a.lev from e2]; omega
      have hb2 : (y - 2 ^ a.lev) < 2 ^ (c).lev := by rw [show (c).lev = a.lev from e2]; omega
      obtain ⟨px, sx⟩ := and_lo (by omega) hX
      obtain ⟨py, sy⟩ := and_hi (by omega) hy2 hY
      have hu1 : ∀ u ∈ (c).setNew x (y - 2 ^ a.lev) v, u ∈ U := fun u hm => hu u (by rw [e1n]; exact List.mem_append_left _ hm)
      have hu2 : .node a b (c.set x (y - 2 ^ a.lev) v) d ∈ U := hu _ (by rw [e1n]; simp)
      have ih := Set_is v (c) h (is_num kc) hb1 hb2 hu1
      obtain ⟨g1, g2⟩ := T.setNew_goods h.reg v (c) x (y - 2 ^ a.lev) kc hb1 hb2
      have h' := h.puts hu1 g1
      have pre := puts_pre ((c).setNew x (y - 2 ^ a.lev) v) ts
      have ia := (is_num ka).mono pre; have ib := (is_num kb).mono pre; have ic := (is_num kc).mono pre; have id' := (is_num kd).mono pre
      have ik := is_num g2
      have sl := T.set_lev v (c) x (y - 2 ^ a.lev) (h.reg.ok _ kc)
      refine callR_of Tryd.func33 rfl Tryd.ntmps33 rfl fun σ F => ?_
      repeat' first
        | refine W.pure rfl rfl rfl rfl ?_
        | refine W.nil ?_
        | refine J.reg ?_
        | refine J.seq ?_
      refine W.call1 (cell_is hi (by simp only [T.lev]; omega) hx hy) rfl rfl rfl ?_
      repeat' first
        | (show W _ _ _ _ _ (_ :: _) _ _ _; first
          | refine W.pure rfl rfl rfl rfl ?_
          | refine W.ldV rfl rfl rfl rfl rfl rfl ?_
          | refine W.binE rfl rfl rfl rfl (by assumption) ?_
          | refine W.cmpF rfl rfl rfl rfl (by simp only [cmpN]; first | done | omega) ?_
          | refine W.fieldAddr0 rfl rfl rfl rfl rfl ?_
          | refine W.alloc rfl rfl (fun bq => ?_)
          | refine W.storeA rfl rfl rfl rfl (by rfl) (by rfl) (by simp [Value.oneCell']) ?_
          | refine W.neIfNilT rfl rfl rfl ?_)
        | refine W.nil ?_
        | refine J.reg ?_
        | refine J.seq ?_
        | refine J.condF rfl ?_
        | refine J.skip ?_
      refine J.regD [] mixed (by kernel_rfl) ?_
      repeat' first
        | (show W _ _ _ _ _ (_ :: _) _ _ _; first
          | refine W.pure rfl rfl rfl rfl ?_
          | refine W.shrE rfl rfl rfl rfl (by omega) (by assumption) ?_
          | refine W.add64E rfl rfl rfl rfl (by simp only [Int.reduceAdd, Int.reduceMul]; rfl) (by omega) ?_
          | refine W.mul64 rfl rfl rfl rfl (by omega) ?_)
        | refine W.nil ?_
        | refine J.seq ?_
      refine J.regD [s] mixed (by kernel_rfl) ?_
      repeat' first
        | (show W _ _ _ _ _ (_ :: _) _ _ _; first
          | refine W.pure rfl rfl rfl rfl ?_
          | refine W.binE rfl rfl rfl rfl (by assumption) ?_
          | refine W.fieldAddr0 rfl rfl rfl rfl rfl ?_
          | refine W.indexAddrE rfl rfl rfl rfl (by omega) (by simp only [Int.reduceToNat, Nat.reduceMul, Nat.reduceAdd]; rfl) ?_
          | refine W.ld rfl rfl rfl rfl rfl ?_
          | refine W.shl rfl rfl rfl rfl (by omega) ?_)
      refine W.call1 ih rfl rfl rfl ?_
      repeat' first
        | (show W _ _ _ _ _ (_ :: _) _ _ _; first
          | refine W.pure rfl rfl rfl rfl ?_
          | refine W.fieldAddr0 rfl rfl rfl rfl rfl ?_
          | refine W.indexAddrE rfl rfl rfl rfl (by omega) (by simp only [Int.reduceToNat, Nat.reduceMul, Nat.reduceAdd]; rfl) ?_
          | refine W.ldqV rfl rfl rfl rfl rfl rfl (by simp only [List.drop_succ_cons, List.drop_zero, List.take_succ_cons, List.take_zero]; rfl) ?_
          | refine W.store1 rfl rfl rfl rfl rfl rfl rfl (by simp only [List.set_cons_succ, List.set_cons_zero]; rfl) ?_
          | refine W.neIfNilT rfl rfl rfl ?_)
        | refine W.nil ?_
        | refine J.reg ?_
        | refine J.seq ?_
        | refine J.condF rfl ?_
        | refine J.skip ?_
      refine W.call1 (Node_is h' ia ib ik id' hu2 (by omega) (by omega) (by omega) (by omega)) rfl rfl rfl ?_
      repeat' first
        | refine W.pure rfl rfl rfl rfl ?_
        | refine W.nil ?_
      exact J.retF [s] (res2 rfl rfl rfl) rfl
    · have e1n : T.setNew (.node a b c d) x y v = d.setNew (x - 2 ^ a.lev) (y - 2 ^ a.lev) v ++ [.node a b c (d.set (x - 2 ^ a.lev) (y - 2 ^ a.lev) v)] := by simp only [T.setNew, T.set, hX, hY, if_false]
      have e2n : T.set (.node a b c d) x y v = .node a b c (d.set (x - 2 ^ a.lev) (y - 2 ^ a.lev) v) := by simp only [T.set, hX, hY, if_false]
      rw [e1n, puts_app, puts_one, e2n]
      have hb1 : (x - 2 ^ a.lev) < 2 ^ (d).lev := by rw [show (d).lev = a.lev from e3]; omega
      have hb2 : (y - 2 ^ a.lev) < 2 ^ (d).lev := by rw [show (d).lev = a.lev from e3]; omega
      obtain ⟨px, sx⟩ := and_hi (by omega) hx2 hX
      obtain ⟨py, sy⟩ := and_hi (by omega) hy2 hY
      have hu1 : ∀ u ∈ (d).setNew (x - 2 ^ a.lev) (y - 2 ^ a.lev) v, u ∈ U := fun u hm => hu u (by rw [e1n]; exact List.mem_append_left _ hm)
      have hu2 : .node a b c (d.set (x - 2 ^ a.lev) (y - 2 ^ a.lev) v) ∈ U := hu _ (by rw [e1n]; simp)
      have ih := Set_is v (d) h (is_num kd) hb1 hb2 hu1
      obtain ⟨g1, g2⟩ := T.setNew_goods h.reg v (d) (x - 2 ^ a.lev) (y - 2 ^ a.lev) kd hb1 hb2
      have h' := h.puts hu1 g1
      have pre := puts_pre ((d).setNew (x - 2 ^ a.lev) (y - 2 ^ a.lev) v) ts
      have ia := (is_num ka).mono pre; have ib := (is_num kb).mono pre; have ic := (is_num kc).mono pre; have id' := (is_num kd).mono pre
      have ik := is_num g2
      have sl := T.set_lev v (d) (x - 2 ^ a.lev) (y - 2 ^ a.lev) (h.reg.ok _ kd)
      refine callR_of Tryd.func33 rfl Tryd.ntmps33 rfl fun σ F => ?_
      repeat' first
        | refine W.pure rfl rfl rfl rfl ?_
        | refine W.nil ?_
        | refine J.reg ?_
        | refine J.seq ?_
      refine W.call1 (cell_is hi (by simp only [T.lev]; omega) hx hy) rfl rfl rfl ?_
      repeat' first
        | (show W _ _ _ _ _ (_ :: _) _ _ _; first
          | refine W.pure rfl rfl rfl rfl ?_
          | refine W.ldV rfl rfl rfl rfl rfl rfl ?_
          | refine W.binE rfl rfl rfl rfl (by assumption) ?_
          | refine W.cmpF rfl rfl rfl rfl (by simp only [cmpN]; first | done | omega) ?_
          | refine W.fieldAddr0 rfl rfl rfl rfl rfl ?_
          | refine W.alloc rfl rfl (fun bq => ?_)
          | refine W.storeA rfl rfl rfl rfl (by rfl) (by rfl) (by simp [Value.oneCell']) ?_
          | refine W.neIfNilT rfl rfl rfl ?_)
        | refine W.nil ?_
        | refine J.reg ?_
        | refine J.seq ?_
        | refine J.condF rfl ?_
        | refine J.skip ?_
      refine J.regD [] mixed (by kernel_rfl) ?_
      repeat' first
        | (show W _ _ _ _ _ (_ :: _) _ _ _; first
          | refine W.pure rfl rfl rfl rfl ?_
          | refine W.shrE rfl rfl rfl rfl (by omega) (by assumption) ?_
          | refine W.add64E rfl rfl rfl rfl (by simp only [Int.reduceAdd, Int.reduceMul]; rfl) (by omega) ?_
          | refine W.mul64 rfl rfl rfl rfl (by omega) ?_)
        | refine W.nil ?_
        | refine J.seq ?_
      refine J.regD [s] mixed (by kernel_rfl) ?_
      repeat' first
        | (show W _ _ _ _ _ (_ :: _) _ _ _; first
          | refine W.pure rfl rfl rfl rfl ?_
          | refine W.binE rfl rfl rfl rfl (by assumption) ?_
          | refine W.fieldAddr0 rfl rfl rfl rfl rfl ?_
          | refine W.indexAddrE rfl rfl rfl rfl (by omega) (by simp only [Int.reduceToNat, Nat.reduceMul, Nat.reduceAdd]; rfl) ?_
          | refine W.ld rfl rfl rfl rfl rfl ?_
          | refine W.shl rfl rfl rfl rfl (by omega) ?_)
      refine W.call1 ih rfl rfl rfl ?_
      repeat' first
        | (show W _ _ _ _ _ (_ :: _) _ _ _; first
          | refine W.pure rfl rfl rfl rfl ?_
          | refine W.fieldAddr0 rfl rfl rfl rfl rfl ?_
          | refine W.indexAddrE rfl rfl rfl rfl (by omega) (by simp only [Int.reduceToNat, Nat.reduceMul, Nat.reduceAdd]; rfl) ?_
          | refine W.ldqV rfl rfl rfl rfl rfl rfl (by simp only [List.drop_succ_cons, List.drop_zero, List.take_succ_cons, List.take_zero]; rfl) ?_
          | refine W.store1 rfl rfl rfl rfl rfl rfl rfl (by simp only [List.set_cons_succ, List.set_cons_zero]; rfl) ?_
          | refine W.neIfNilT rfl rfl rfl ?_)
        | refine W.nil ?_
        | refine J.reg ?_
        | refine J.seq ?_
        | refine J.condF rfl ?_
        | refine J.skip ?_
      refine W.call1 (Node_is h' ia ib ic ik hu2 (by omega) (by omega) (by omega) (by omega)) rfl rfl rfl ?_
      repeat' first
        | refine W.pure rfl rfl rfl rfl ?_
        | refine W.nil ?_
      exact J.retF [s] (res2 rfl rfl rfl) rfl
end
end Go.Proofs.YtphnadpmpcifoaaDoor
