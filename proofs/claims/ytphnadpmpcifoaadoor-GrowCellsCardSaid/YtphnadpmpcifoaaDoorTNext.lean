/-
  Package tile: a field one generation on.
-/
import Derived.Test.YtphnadpmpcifoaaDoorTFour
namespace Go.Proofs.YtphnadpmpcifoaaDoor
open Go.Sq Go.Qm
attribute [local irreducible] SW J fldOf zeroF
set_option maxHeartbeats 4000000
set_option maxRecDepth 10000

theorem cell_of {r : List Nat} (hr : FldOk r) {m : Int} {k : Nat} (hm : m = k) (hk : k < 24) : (r.map u32v)[m.toNat * 1]? = some (u32v (r.getD k 0)) := by
  have e : m.toNat * 1 = k := by omega
  have hl : k < r.length := by rw [hr.1]; omega
  rw [e, List.getElem?_map, List.getD_eq_getElem?_getD, List.getElem?_eq_getElem hl]; rfl
theorem shr_of {q x : Nat} {m : Int} (hm : m = x) (hx : x ≤ 32) : ShrE .u32 (q : Int) m ((q / 2 ^ x : Nat) : Int) := ⟨by rw [hm]; exact shr_nat (by show x ≤ 32; omega)⟩
theorem and_of {q m : Nat} (hq : q < 4294967296) (hm : m < 4294967296) : IntE .and .u32 (q : Int) (m : Int) (u32v (q &&& m)) := ⟨by simp only [intV]; rw [and_u (k := .u32) rfl hq hm]⟩
theorem eq_of (q x : Nat) : IntE .eql .u32 ((q / 2 ^ x % 2 : Nat) : Int) 1 (.bool (q.testBit x)) := ⟨by
  simp only [intV]
  rw [Nat.testBit_eq_decide_div_mod_eq]
  generalize q / 2 ^ x % 2 = z
  by_cases h : z = 1
  · simp [h]
  · simp [h]; omega⟩
theorem next_is {f b l : Nat} {r : List Nat} (hr : FldOk r) (hb : RuleOk b l) :
    CallF P 57 [ptr f, ruleV b l] [(f, fldP f r)] (.agg ((nextN b l r).map u32v).toArray) [(f, fldP f r)] := by
  have hc := fun x y (h : nextC b l r x y = true) => nextC_in h
  refine callR_of Tryd.func57 rfl Tryd.ntmps57 rfl fun σ F => ?_
  repeat' first
    | (show W _ _ _ _ _ (_ :: _) _ _ _; first
      | refine W.pure rfl rfl rfl rfl ?_
      | refine W.alloc rfl rfl (fun bq => ?_)
      | refine W.boxA rfl rfl rfl (fun bq => ?_))
    | refine W.nil ?_
    | refine J.reg ?_
    | refine J.seq ?_
    | refine J.block ?_
  rename_i b3 b4
  refine J.loop (X := Nat) (fun Y => 1 ≤ Y ∧ Y ≤ 23) (fun Y => 23 - Y) (fun Y => [(0, ptr f), (3, ptr b3), (4, ptr b4), (5, ptr bq), (6, int Y)])
    (fun Y => [(bq, fldP bq (fldOf (partC (nextC b l r) 1 Y))), (b4, fldP b4 zeroF), (b3, pts b3 (.cells #[.int .u16 (b : Int), .int .u16 (l : Int)] 33 (0, 0))), (f, fldP f r)])
    1 ⟨by omega, by omega⟩ ⟨rfl, rfl, rfl, rfl, rfl, trivial⟩ (by rw [part_first fun x y h => ⟨(hc x y h).1, (hc x y h).2.2.1⟩]; unfold zeroF; exact .refl _) ?_
  rintro Y ⟨hY1, hY2⟩
  by_cases hlt : Y < 23
  · repeat' first
      | refine W.pure rfl rfl rfl rfl ?_
      | refine W.cmpT rfl rfl rfl rfl (by simp only [cmpP]; first | done | omega) ?_
      | refine W.nil ?_
      | refine J.reg ?_
      | refine J.seq ?_
      | refine J.condT rfl ?_
      | refine J.block ?_
      | refine J.skip ?_
    refine J.loop (X := Nat) (fun x => 1 ≤ x ∧ x ≤ 23) (fun x => 23 - x) (fun x => [(0, ptr f), (3, ptr b3), (4, ptr b4), (5, ptr bq), (6, int Y), (7, int x)])
      (fun x => [(bq, fldP bq (fldOf (partC (nextC b l r) x Y))), (b4, fldP b4 zeroF), (b3, pts b3 (.cells #[.int .u16 (b : Int), .int .u16 (l : Int)] 33 (0, 0))), (f, fldP f r)])
      1 ⟨by omega, by omega⟩ ⟨rfl, rfl, rfl, rfl, rfl, rfl, trivial⟩ (.refl _) ?_
    rintro x ⟨hx1, hx2⟩
    by_cases hxl : x < 23
    · have hq0 := getD_lt hr (Y - 1); have hq1 := getD_lt hr (Y + 1); have hq2 := getD_lt hr Y
      have c0 := cell_of hr (m := (Y : Int) - 1) (k := Y - 1) (by omega) (by omega)
      have c1 := cell_of hr (m := (Y : Int) + 1) (k := Y + 1) (by omega) (by omega)
      have c2 := cell_of hr (m := (Y : Int)) (k := Y) (by omega) (by omega)
      have s0 := shr_of (q := r.getD (Y - 1) 0) (m := (x : Int) - 1) (x := x - 1) (by omega) (by omega)
      have s1 := shr_of (q := r.getD (Y + 1) 0) (m := (x : Int) - 1) (x := x - 1) (by omega) (by omega)
      have s2 := shr_of (q := r.getD Y 0) (m := (x : Int) - 1) (x := x - 1) (by omega) (by omega)
      have s3 := shr_of (q := r.getD Y 0) (m := (x : Int)) (x := x) (by omega) (by omega)
      have d0 : r.getD (Y - 1) 0 / 2 ^ (x - 1) < 4294967296 := Nat.lt_of_le_of_lt (Nat.div_le_self _ _) hq0
      have d1 : r.getD (Y + 1) 0 / 2 ^ (x - 1) < 4294967296 := Nat.lt_of_le_of_lt (Nat.div_le_self _ _) hq1
      have d2 : r.getD Y 0 / 2 ^ (x - 1) < 4294967296 := Nat.lt_of_le_of_lt (Nat.div_le_self _ _) hq2
      have d3 : r.getD Y 0 / 2 ^ x < 4294967296 := Nat.lt_of_le_of_lt (Nat.div_le_self _ _) hq2
      have a0 : IntE .and .u32 ((r.getD (Y - 1) 0 / 2 ^ (x - 1) : Nat) : Int) 7 _ := and_of (m := 7) d0 (by omega)
      have a1 : IntE .and .u32 ((r.getD (Y + 1) 0 / 2 ^ (x - 1) : Nat) : Int) 7 _ := and_of (m := 7) d1 (by omega)
      have a2 : IntE .and .u32 ((r.getD Y 0 / 2 ^ (x - 1) : Nat) : Int) 5 _ := and_of (m := 5) d2 (by omega)
      have a3 : IntE .and .u32 ((r.getD Y 0 / 2 ^ x : Nat) : Int) 1 _ := and_of (m := 1) d3 (by omega)
      rw [show (7 : Nat) = 2 ^ 3 - 1 from rfl, Nat.and_two_pow_sub_one_eq_mod] at a0 a1
      rw [Nat.and_one_is_mod] at a3
      have e3 := eq_of (r.getD Y 0) x
      have o0 := Ones32_is (z := r.getD (Y - 1) 0 / 2 ^ (x - 1) % 2 ^ 3) (Nat.mod_lt _ (by omega))
      have o1 := Ones32_is (z := r.getD (Y + 1) 0 / 2 ^ (x - 1) % 2 ^ 3) (Nat.mod_lt _ (by omega))
      have o2 := Ones32_is (z := r.getD Y 0 / 2 ^ (x - 1) &&& 5) (and5_lt _)
      have hn := nbrF_pop r x Y hx1
      rw [show (8 : Nat) = 2 ^ 3 from rfl] at hn
      have hp0 := pop3_le (r.getD (Y - 1) 0 / 2 ^ (x - 1) % 2 ^ 3); have hp1 := pop3_le (r.getD (Y + 1) 0 / 2 ^ (x - 1) % 2 ^ 3); have hp2 := pop3_le (r.getD Y 0 / 2 ^ (x - 1) &&& 5)
      have n8 := nbrF_le (fc r) x Y
      generalize pop3 (r.getD (Y - 1) 0 / 2 ^ (x - 1) % 2 ^ 3) = p0 at *
      generalize pop3 (r.getD (Y + 1) 0 / 2 ^ (x - 1) % 2 ^ 3) = p1 at *
      generalize pop3 (r.getD Y 0 / 2 ^ (x - 1) &&& 5) = p2 at *
      have g0 : IntE .add .i64 (p0 : Int) (p1 : Int) (int ((p0 + p1 : Nat) : Int)) := ⟨by simp only [intV]; rw [wrap_i64 (by omega) (by omega)]; simp⟩
      have g1 : IntE .add .i64 ((p0 + p1 : Nat) : Int) (p2 : Int) (int ((nbrF (fc r) x Y : Nat) : Int)) := ⟨by simp only [intV]; rw [show ((p0 + p1 : Nat) : Int) + (p2 : Int) = ((nbrF (fc r) x Y : Nat) : Int) from by omega, wrap_i64 (by omega) (by omega)]⟩
      have nx := Next_is (v := fc r x Y) hb n8
      have hC : nextC b l r x Y = nextB b l (fc r x Y) (nbrF (fc r) x Y) := by
        have : 1 ≤ x ∧ x < 23 ∧ 1 ≤ Y ∧ Y < 23 := ⟨hx1, hxl, hY1, hlt⟩
        simp [nextC, this]
      rw [← hC] at nx
      cases hv : nextC b l r x Y with
      | false =>
        rw [hv] at nx
        repeat' first
          | refine W.pure rfl rfl rfl rfl ?_
          | refine W.cmpT rfl rfl rfl rfl (by simp only [cmpP]; first | done | omega) ?_
          | refine W.nil ?_
          | refine J.reg ?_
          | refine J.seq ?_
          | refine J.condT rfl ?_
          | refine J.block ?_
          | refine J.skip ?_
        refine J.regD [] mixed (by kernel_rfl) ?_
        repeat' first
          | (show W _ _ _ _ _ (_ :: _) _ _ _; first
            | refine W.ld rfl rfl rfl rfl c0 ?_
            | refine W.ld rfl rfl rfl rfl c1 ?_
            | refine W.ld rfl rfl rfl rfl c2 ?_
            | refine W.call0 o0 rfl rfl rfl ?_
            | refine W.call0 o1 rfl rfl rfl ?_
            | refine W.call0 o2 rfl rfl rfl ?_
            | refine W.pure rfl rfl rfl rfl ?_
            | refine W.binE rfl rfl rfl rfl (by assumption) ?_
            | refine W.shrE rfl rfl rfl rfl (by omega) (by assumption) ?_
            | refine W.indexAddrE rfl rfl rfl rfl (by omega) (by simp only [Nat.zero_add]; rfl) ?_
            | refine W.add64 rfl rfl rfl rfl (by omega) ?_
            | refine W.sub64 rfl rfl rfl rfl (by omega) ?_)
          | refine W.nil ?_
          | refine J.seq ?_
        refine J.regD [] mixed (by kernel_rfl) ?_
        repeat' first
          | (show W _ _ _ _ _ (_ :: _) _ _ _; first
            | refine W.ld rfl rfl rfl rfl c2 ?_
            | refine W.call0 nx rfl rfl rfl ?_
            | refine W.pure rfl rfl rfl rfl ?_
            | refine W.binE rfl rfl rfl rfl (by assumption) ?_
            | refine W.shrE rfl rfl rfl rfl (by omega) (by assumption) ?_
            | refine W.indexAddrE rfl rfl rfl rfl (by omega) (by simp only [Nat.zero_add]; rfl) ?_
            | refine W.add64 rfl rfl rfl rfl (by omega) ?_
            | refine W.lda rfl rfl rfl rfl rfl ?_
            | refine W.skip rfl rfl ?_)
          | refine W.nil ?_
          | refine J.reg ?_
          | refine J.seq ?_
          | refine J.condF rfl ?_
          | refine J.endBlk ?_
          | refine J.skip ?_
        exact J.again (x + 1) (by omega) (by omega) ⟨rfl, rfl, rfl, rfl, rfl, rfl, trivial⟩ (by rw [part_skip hv])
      | true =>
        rw [hv] at nx
        have hox := fldOf_ok (partC (nextC b l r) x Y)
        have hpx : 2 ^ x < 2 ^ 32 := Nat.pow_lt_pow_right (by omega) (by omega)
        have co := cell_of hox (m := (Y : Int)) (k := Y) (by omega) (by omega)
        have hsh : ShlE .u32 1 (x : Int) ((2 ^ x : Nat) : Int) := ⟨by rw [show (1 : Int) = ((1 : Nat) : Int) from rfl, shl_u (k := .u32) rfl (by show x ≤ 32; omega) (by rw [Nat.one_mul]; exact hpx), Nat.one_mul]⟩
        have hor : IntE .or .u32 (((fldOf (partC (nextC b l r) x Y)).getD Y 0 : Nat) : Int) ((2 ^ x : Nat) : Int) (u32v ((fldOf (partC (nextC b l r) x Y)).getD Y 0 ||| 2 ^ x)) := ⟨by simp only [intV]; rw [or_u (k := .u32) rfl (getD_lt hox Y) hpx]⟩
        have hset : ((fldOf (partC (nextC b l r) x Y)).map u32v).set ((Y : Int).toNat * 1) (u32v ((fldOf (partC (nextC b l r) x Y)).getD Y 0 ||| 2 ^ x)) = (fldOf (partC (nextC b l r) (x + 1) Y)).map u32v := by
          have e : (Y : Int).toNat * 1 = Y := by omega
          rw [e, ← List.map_set, part_set (by omega) (by omega) hv]
        repeat' first
          | refine W.pure rfl rfl rfl rfl ?_
          | refine W.cmpT rfl rfl rfl rfl (by simp only [cmpP]; first | done | omega) ?_
          | refine W.nil ?_
          | refine J.reg ?_
          | refine J.seq ?_
          | refine J.condT rfl ?_
          | refine J.block ?_
          | refine J.skip ?_
        refine J.regD [] mixed (by kernel_rfl) ?_
        repeat' first
          | (show W _ _ _ _ _ (_ :: _) _ _ _; first
            | refine W.ld rfl rfl rfl rfl c0 ?_
            | refine W.ld rfl rfl rfl rfl c1 ?_
            | refine W.ld rfl rfl rfl rfl c2 ?_
            | refine W.call0 o0 rfl rfl rfl ?_
            | refine W.call0 o1 rfl rfl rfl ?_
            | refine W.call0 o2 rfl rfl rfl ?_
            | refine W.pure rfl rfl rfl rfl ?_
            | refine W.binE rfl rfl rfl rfl (by assumption) ?_
            | refine W.shrE rfl rfl rfl rfl (by omega) (by assumption) ?_
            | refine W.indexAddrE rfl rfl rfl rfl (by omega) (by simp only [Nat.zero_add]; rfl) ?_
            | refine W.add64 rfl rfl rfl rfl (by omega) ?_
            | refine W.sub64 rfl rfl rfl rfl (by omega) ?_)
          | refine W.nil ?_
          | refine J.seq ?_
        refine J.regD [] mixed (by kernel_rfl) ?_
        repeat' first
          | (show W _ _ _ _ _ (_ :: _) _ _ _; first
            | refine W.ld rfl rfl rfl rfl c2 ?_
            | refine W.call0 nx rfl rfl rfl ?_
            | refine W.pure rfl rfl rfl rfl ?_
            | refine W.binE rfl rfl rfl rfl (by assumption) ?_
            | refine W.shrE rfl rfl rfl rfl (by omega) (by assumption) ?_
            | refine W.indexAddrE rfl rfl rfl rfl (by omega) (by simp only [Nat.zero_add]; rfl) ?_
            | refine W.lda rfl rfl rfl rfl rfl ?_
            | refine W.eqIfNilT rfl rfl rfl ?_)
          | refine W.nil ?_
          | refine J.reg ?_
          | refine J.seq ?_
          | refine J.condT rfl ?_
        refine J.regD [] mixed (by kernel_rfl) ?_
        repeat' first
          | (show W _ _ _ _ _ (_ :: _) _ _ _; first
            | refine W.ld rfl rfl rfl rfl co ?_
            | refine W.store1S rfl rfl rfl rfl (by kernel_rfl) rfl rfl (by rw [Nat.blt]; exact Nat.ble_eq_true_of_le (by simp only [List.size_toArray, List.length_map, hox.1]; omega)) hset ?_
            | refine W.pure rfl rfl rfl rfl ?_
            | refine W.binE rfl rfl rfl rfl (by assumption) ?_
            | refine W.shlE rfl rfl rfl rfl (by omega) (by assumption) ?_
            | refine W.indexAddrE rfl rfl rfl rfl (by omega) (by simp only [Nat.zero_add]; rfl) ?_
            | refine W.add64 rfl rfl rfl rfl (by omega) ?_)
          | refine W.nil ?_
          | refine J.reg ?_
          | refine J.endBlk ?_
        exact J.again (x + 1) (by omega) (by omega) ⟨rfl, rfl, rfl, rfl, rfl, rfl, trivial⟩ (.refl _)
    · obtain rfl : x = 23 := by omega
      repeat' first
        | (show W _ _ _ _ _ (_ :: _) _ _ _; first
          | refine W.pure rfl rfl rfl rfl ?_
          | refine W.cmpF rfl rfl rfl rfl (by simp only [cmpN]; first | done | omega) ?_
          | refine W.add64 rfl rfl rfl rfl (by omega) ?_)
        | refine W.nil ?_
        | refine J.reg ?_
        | refine J.seq ?_
        | refine J.condF rfl ?_
        | refine J.endBlk ?_
        | refine J.exit rfl ?_
      exact J.again (Y + 1) (by omega) (by omega) ⟨rfl, rfl, rfl, rfl, rfl, trivial⟩ (by rw [part_row fun x y h => ⟨(hc x y h).2.1, (hc x y h).1⟩])
  · obtain rfl : Y = 23 := by omega
    rw [part_last fun x y h => (hc x y h).2.2.2]
    have hox := fldOf_ok (nextC b l r)
    repeat' first
      | (show W _ _ _ _ _ (_ :: _) _ _ _; first
        | refine W.ldaV rfl rfl rfl rfl rfl (by simp [hox.1]) ?_
        | refine W.storeA rfl rfl rfl rfl (by simp [hox.1]) (by simp [zeroF_ok.1]) (u32_one _) ?_
        | refine W.pure rfl rfl rfl rfl ?_
        | refine W.cmpF rfl rfl rfl rfl (by simp only [cmpN]; first | done | omega) ?_)
      | refine W.nil ?_
      | refine J.reg ?_
      | refine J.seq ?_
      | refine J.condF rfl ?_
      | refine J.exit rfl ?_
    exact J.retF [f] (resc1 rfl rfl rfl (by simp [hox.1])) rfl
end Go.Proofs.YtphnadpmpcifoaaDoor
