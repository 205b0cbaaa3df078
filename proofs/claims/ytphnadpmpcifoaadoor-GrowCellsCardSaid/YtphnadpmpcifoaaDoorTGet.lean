/-
  Package quad on trees (5): a cell is read; counts; new stores.
-/
import Derived.Test.YtphnadpmpcifoaaDoorTPut
namespace Go.Proofs.YtphnadpmpcifoaaDoor
open Go.Sq Go.Qm
attribute [local irreducible] SW J
set_option maxHeartbeats 4000000
set_option maxRecDepth 10000

section
variable {s room : Nat} {U ts : List T}
theorem Count_T {id : Int} {t : T} (h : Inv room U ts) (hi : Is ts id t) : CallF P 30 [ptr s, int id] [(s, treeP s room ts)] (okI t.many) [(s, treeP s room ts)] := by
  have bn := h.le; have br := h.room
  have ra := h.i64 hi
  have fa := hi.lt
  refine callR_of Tryd.func30 rfl Tryd.ntmps30 rfl fun σ F => ?_
  repeat' first
    | refine W.pure rfl rfl rfl rfl ?_
    | refine W.nil ?_
    | refine J.reg ?_
    | refine J.seq ?_
  refine W.call1 (at_is hi) rfl rfl rfl ?_
  repeat' first
    | (show W _ _ _ _ _ (_ :: _) _ _ _; first
      | refine W.pure rfl rfl rfl rfl ?_
      | refine W.alloc rfl rfl (fun bq => ?_)
      | refine W.storeA rfl rfl rfl rfl (by rfl) (by rfl) (by simp [Value.oneCell']) ?_)
    | refine W.nil ?_
  repeat' first
    | refine J.seq ?_
  refine J.reg ?_
  repeat' first
    | refine W.pure rfl rfl rfl rfl ?_
    | refine W.neIfNilT rfl rfl rfl ?_
    | refine W.nil ?_
  repeat' first
    | refine J.seq ?_
    | refine J.condF rfl ?_
    | refine J.skip ?_
  refine J.openSt s fun rp vl gl vm gm bk => ?_
  refine J.rowAt gm rfl (by simp [stOf]; omega) fun cap cur c1 c2 c3 c4 hv => ?_
  subst hv
  have hmany := many_at hi (by simpa [stOf] using c4)
  refine J.reg ?_
  repeat' first
    | (show W _ _ _ _ _ (_ :: _) _ _ _; first
      | refine W.indexAddrS rfl rfl rfl rfl (by simp only [stOf, List.length_map]; omega) ?_
      | refine W.ldV rfl rfl rfl rfl rfl hmany ?_
      | refine W.pure rfl rfl rfl rfl ?_
      | refine W.ldV rfl rfl rfl rfl rfl rfl ?_
      | refine W.fieldAddr0 rfl rfl rfl rfl rfl ?_
      | refine W.sub64 rfl rfl rfl rfl (by omega) ?_)
    | refine W.nil ?_
  refine J.rowShut gm rfl c1 c2 c3 c4 ?_
  refine J.shutSt s gl gm bk rp ?_
  exact J.retF [s] (res2 rfl rfl rfl) rfl

theorem _root_.Go.Sq.W.storeAS {P : Program} {ops : Array Oper} {n : Nat} {bars : Nat → Bool} {K : EnvF → List Ent → List Ent → Prop} {l : List (Nat × Oper)} {E : Env} {St V : List Ent} {i : Nat} {ty : TypeId} {pos : String} {aft : Array Edge} {g : Option (Nat × Bool)} {T : TypeId} {x y : Operand} {b : Nat} {c cs : Array Value} {T0 : TypeId} {sz by_ : Nat} {z : Value} {M : List Ent} (hw : wants ops ⟨none, .store T x y, ty, pos, aft, g⟩ E.get = some true) (hf : fits n ⟨none, .store T x y, ty, pos, aft, g⟩ = true) (hx : evO E x = some (.pointer (some ⟨b, 0, none⟩))) (hy : evO E y = some (.agg cs))
    (hb : bars i = true) [hp : PickK St b (pts b (.cells c T0 (0, 0))) M] [hi : Inf P T sz by_ z] (hs : cs.size = sz) (hc : c.size = sz) (hone : ∀ u ∈ cs.toList, u.oneCell' = true)
    (h : W P ops n bars K l E ((b, pts b (.cells cs T0 (0, 0))) :: M) V) : W P ops n bars K ((i, ⟨none, .store T x y, ty, pos, aft, g⟩) :: l) E St V :=
  W.storeS hw hf hx hy hb (by simpa [Value.cells] using hs) (by simpa [Value.cells] using hone) (by omega) (cs := cs.toList) (by
    simp [setAt, Value.cells, hs, hc]) (by simpa using h)
theorem row_at {id : Int} {t : T} {cur : Array Value} (h : Is ts id t) (hc : cur.toList.take (ts.length * 6) = ((ts.map (sqOf ts)).flatMap Sq.vals)) :
    cur.extract (0 + (id - 1).toNat * 6) (0 + (id - 1).toNat * 6 + 6) = #[.int .i64 (sqOf ts t).lev, .int .u64 (sqOf ts t).tile, .int .i64 (sqOf ts t).k0, .int .i64 (sqOf ts t).k1, .int .i64 (sqOf ts t).k2, .int .i64 (sqOf ts t).k3] := by
  have h1 := h.lt
  refine extract_list (xs := (sqOf ts t).vals) ?_
  rw [show 0 + (id - 1).toNat * 6 + 6 - (0 + (id - 1).toNat * 6) = 6 from by omega, sub_of_take hc (by omega), Nat.zero_add]
  exact flat_drop _ _ _ (by simp only [List.getElem?_map, h.2, Option.map_some])

theorem Get_is {t : T} {id : Int} {x y : Nat} (h : Inv room U ts) (hi : Is ts id t) (hx : x < 2 ^ t.lev) (hy : y < 2 ^ t.lev) :
    CallF P 34 [ptr s, int id, int x, int y] [(s, treeP s room ts)] (.tuple #[.bool (t.get x y), .nilIface]) [(s, treeP s room ts)] := by
  have br := h.room; have bl := h.le
  refine callR_of Tryd.func34 rfl Tryd.ntmps34 rfl fun σ F => ?_
  repeat' first
    | refine W.pure rfl rfl rfl rfl ?_
    | refine W.nil ?_
    | refine J.reg ?_
    | refine J.seq ?_
  refine W.call1 (cell_is hi (h.reg.lev _ hi.mem) hx hy) rfl rfl rfl ?_
  repeat' first
    | (show W _ _ _ _ _ (_ :: _) _ _ _; first
      | refine W.pure rfl rfl rfl rfl ?_
      | refine W.alloc rfl rfl (fun bq => ?_)
      | refine W.storeA rfl rfl rfl rfl (by rfl) (by rfl) (by simp [Value.oneCell']) ?_
      | refine W.neIfNilT rfl rfl rfl ?_)
    | refine W.nil ?_
    | refine J.reg ?_
    | refine J.seq ?_
    | refine J.condF rfl ?_
    | refine J.block ?_
    | refine J.skip ?_
  refine J.loop (X := T × Nat × Nat) (fun q => q.1 ∈ ts ∧ q.2.1 < 2 ^ q.1.lev ∧ q.2.2 < 2 ^ q.1.lev ∧ q.1.get q.2.1 q.2.2 = t.get x y) (fun q => q.1.lev)
    (fun q => [(0, ptr s), (2, int q.2.1), (3, int q.2.2), (9, .nilIface), (10, ptr bq)])
    (fun q => [(bq, pts bq (.cells #[.int .i64 (sqOf ts q.1).lev, .int .u64 (sqOf ts q.1).tile, .int .i64 (sqOf ts q.1).k0, .int .i64 (sqOf ts q.1).k1, .int .i64 (sqOf ts q.1).k2, .int .i64 (sqOf ts q.1).k3] 80 (0, 0))), (s, treeP s room ts)])
    (t, x, y) ⟨hi.mem, hx, hy, rfl⟩ ⟨rfl, rfl, rfl, rfl, rfl, trivial⟩ (.refl _) ?_
  clear hx hy hi
  rintro ⟨u, x', y'⟩ ⟨hu, hx, hy, hg⟩
  cases u with
  | leaf n =>
    have hl : (sqOf ts (.leaf n)).lev = 3 := rfl
    have hn : n < 18446744073709551616 := h.reg.ok _ hu
    repeat' first
      | (show W _ _ _ _ _ (_ :: _) _ _ _; first
        | refine W.pure rfl rfl rfl rfl ?_
        | refine W.ldV rfl rfl rfl rfl rfl rfl ?_
        | refine W.cmpF rfl rfl rfl rfl (by simp only [cmpN]; first | done | omega) ?_
        | refine W.fieldAddr0 rfl rfl rfl rfl rfl ?_)
      | refine W.nil ?_
      | refine J.reg ?_
      | refine J.seq ?_
      | refine J.condF rfl ?_
      | refine J.exit rfl ?_
    refine W.call0 (tGet_is (t := n) hn hx hy) rfl rfl rfl ?_
    repeat' first
      | refine W.pure rfl rfl rfl rfl ?_
      | refine W.nil ?_
    exact J.retF [s] (res2 rfl rfl rfl) (by rw [← hg]; rfl)
  | node a b c d =>
    have ho := h.reg.ok _ hu
    obtain ⟨ka, kb, kc, kd⟩ := h.reg.kids _ hu
    have hlv : a.lev + 1 ≤ 40 := h.reg.lev _ hu
    obtain ⟨oa, ob, oc, od, e1, e2, e3⟩ := (show T.ok (.node a b c d) from ho)
    simp only [T.lev, Nat.pow_succ, Nat.mul_comm _ 2] at hx hy
    have lt := sqOf_lev ts (.node a b c d)
    have hl3 : (sqOf ts (.node a b c d)).lev > 3 := by have := a.lev_ge; simp only [lt, T.lev]; omega
    have hs : IntE .sub .i64 (sqOf ts (.node a b c d)).lev 1 (int a.lev) := ⟨by simp only [lt, T.lev, intV]; rw [wrap_i64 (by omega) (by omega)]; congr 2; omega⟩
    have hp := sub_pow (L := a.lev) (by omega)
    by_cases hY : y' < 2 ^ a.lev <;> by_cases hX : x' < 2 ^ a.lev
    · have hb1 : x' < 2 ^ (a).lev := by rw [show (a).lev = a.lev from rfl]; omega
      have hb2 : y' < 2 ^ (a).lev := by rw [show (a).lev = a.lev from rfl]; omega
      have hgk : (a).get x' y' = t.get x y := by rw [← hg]; simp only [T.get, hX, hY, if_true]
      have ik := is_num ka
      have rk := h.i64 ik
      have lk := ik.lt
      obtain ⟨px, sx⟩ := and_lo (by omega) hX
      obtain ⟨py, sy⟩ := and_lo (by omega) hY
      have hks : IntE .sub .i64 (sqOf ts (.node a b c d)).k0 1 (int (num ts a - 1)) := ⟨by show intV .sub .i64 (num ts a) 1 = _; simp only [intV]; rw [wrap_i64 (by omega) (by omega)]⟩
      repeat' first
        | (show W _ _ _ _ _ (_ :: _) _ _ _; first
          | refine W.pure rfl rfl rfl rfl ?_
          | refine W.ldV rfl rfl rfl rfl rfl rfl ?_
          | refine W.binE rfl rfl rfl rfl (by assumption) ?_
          | refine W.cmpT rfl rfl rfl rfl (by simp only [cmpP]; first | done | omega) ?_
          | refine W.fieldAddr0 rfl rfl rfl rfl rfl ?_)
        | refine W.nil ?_
        | refine J.reg ?_
        | refine J.seq ?_
        | refine J.condT rfl ?_
        | refine J.block ?_
        | refine J.skip ?_
      refine J.openSt s fun rp vl gl vm gm bk => ?_
      refine J.rowAt gl rfl (by simp [stOf]; omega) fun cap cur c1 c2 c3 c4 hv => ?_
      subst hv
      have hrow := row_at ik (by simpa [stOf] using c4)
      refine J.regD [] mixed (by kernel_rfl) ?_
      repeat' first
        | (show W _ _ _ _ _ (_ :: _) _ _ _; first
          | refine W.indexAddrS rfl rfl rfl rfl (by simp only [stOf, List.length_map]; omega) ?_
          | refine W.pure rfl rfl rfl rfl ?_
          | refine W.binE rfl rfl rfl rfl (by assumption) ?_
          | refine W.shrE rfl rfl rfl rfl (by omega) (by assumption) ?_
          | refine W.fieldAddr0 rfl rfl rfl rfl rfl ?_
          | refine W.indexAddrE rfl rfl rfl rfl (by omega) (by simp only [Int.reduceToNat, Nat.reduceMul, Nat.reduceAdd]; rfl) ?_
          | refine W.ld rfl rfl rfl rfl rfl ?_
          | refine W.add64E rfl rfl rfl rfl (by simp only [Int.reduceAdd, Int.reduceMul]; rfl) (by omega) ?_
          | refine W.mul64 rfl rfl rfl rfl (by omega) ?_)
      refine W.ldp rfl rfl rfl rfl (by simp only [stOf, List.length_map] at c1; omega) ?_
      rw [hrow]
      refine W.storeAS rfl rfl rfl rfl (by kernel_rfl) (by rfl) (by rfl) (by simp [Value.oneCell']) ?_
      repeat' first
        | refine W.nil ?_
      refine J.regD [] mixed (by kernel_rfl) ?_
      repeat' first
        | (show W _ _ _ _ _ (_ :: _) _ _ _; first
          | refine W.pure rfl rfl rfl rfl ?_
          | refine W.binE rfl rfl rfl rfl (by assumption) ?_
          | refine W.shl rfl rfl rfl rfl (by omega) ?_)
        | refine W.nil ?_
        | refine J.endBlk ?_
      refine J.rowShut gl rfl c1 c2 c3 c4 ?_
      refine J.shutSt s gl gm bk rp ?_
      exact J.again (a, x', y') ⟨ka, hb1, hb2, hgk⟩ (by show (a).lev < a.lev + 1; rw [show (a).lev = a.lev from rfl]; omega) ⟨rfl, rfl, rfl, rfl, rfl, trivial⟩ (List.Perm.swap _ _ _)
    · have hb1 : (x' - 2 ^ a.lev) < 2 ^ (b).lev := by rw [show (b).lev = a.lev from e1]; omega
      have hb2 : y' < 2 ^ (b).lev := by rw [show (b).lev = a.lev from e1]; omega
      have hgk : (b).get (x' - 2 ^ a.lev) y' = t.get x y := by rw [← hg]; simp only [T.get, hX, hY, if_true, if_false]
      have ik := is_num kb
      have rk := h.i64 ik
      have lk := ik.lt
      obtain ⟨px, sx⟩ := and_hi (by omega) hx hX
      obtain ⟨py, sy⟩ := and_lo (by omega) hY
      have hks : IntE .sub .i64 (sqOf ts (.node a b c d)).k1 1 (int (num ts b - 1)) := ⟨by show intV .sub .i64 (num ts b) 1 = _; simp only [intV]; rw [wrap_i64 (by omega) (by omega)]⟩
      repeat' first
        | (show W _ _ _ _ _ (_ :: _) _ _ _; first
          | refine W.pure rfl rfl rfl rfl ?_
          | refine W.ldV rfl rfl rfl rfl rfl rfl ?_
          | refine W.binE rfl rfl rfl rfl (by assumption) ?_
          | refine W.cmpT rfl rfl rfl rfl (by simp only [cmpP]; first | done | omega) ?_
          | refine W.fieldAddr0 rfl rfl rfl rfl rfl ?_)
        | refine W.nil ?_
        | refine J.reg ?_
        | refine J.seq ?_
        | refine J.condT rfl ?_
        | refine J.block ?_
        | refine J.skip ?_
      refine J.openSt s fun rp vl gl vm gm bk => ?_
      refine J.rowAt gl rfl (by simp [stOf]; omega) fun cap cur c1 c2 c3 c4 hv => ?_
      subst hv
      have hrow := row_at ik (by simpa [stOf] using c4)
      refine J.regD [] mixed (by kernel_rfl) ?_
      repeat' first
        | (show W _ _ _ _ _ (_ :: _) _ _ _; first
          | refine W.indexAddrS rfl rfl rfl rfl (by simp only [stOf, List.length_map]; omega) ?_
          | refine W.pure rfl rfl rfl rfl ?_
          | refine W.binE rfl rfl rfl rfl (by assumption) ?_
          | refine W.shrE rfl rfl rfl rfl (by omega) (by assumption) ?_
          | refine W.fieldAddr0 rfl rfl rfl rfl rfl ?_
          | refine W.indexAddrE rfl rfl rfl rfl (by omega) (by simp only [Int.reduceToNat, Nat.reduceMul, Nat.reduceAdd]; rfl) ?_
          | refine W.ld rfl rfl rfl rfl rfl ?_
          | refine W.add64E rfl rfl rfl rfl (by simp only [Int.reduceAdd, Int.reduceMul]; rfl) (by omega) ?_
          | refine W.mul64 rfl rfl rfl rfl (by omega) ?_)
      refine W.ldp rfl rfl rfl rfl (by simp only [stOf, List.length_map] at c1; omega) ?_
      rw [hrow]
      refine W.storeAS rfl rfl rfl rfl (by kernel_rfl) (by rfl) (by rfl) (by simp [Value.oneCell']) ?_
      repeat' first
        | refine W.nil ?_
      refine J.regD [] mixed (by kernel_rfl) ?_
      repeat' first
        | (show W _ _ _ _ _ (_ :: _) _ _ _; first
          | refine W.pure rfl rfl rfl rfl ?_
          | refine W.binE rfl rfl rfl rfl (by assumption) ?_
          | refine W.shl rfl rfl rfl rfl (by omega) ?_)
        | refine W.nil ?_
        | refine J.endBlk ?_
      refine J.rowShut gl rfl c1 c2 c3 c4 ?_
      refine J.shutSt s gl gm bk rp ?_
      exact J.again (b, (x' - 2 ^ a.lev), y') ⟨kb, hb1, hb2, hgk⟩ (by show (b).lev < a.lev + 1; rw [show (b).lev = a.lev from e1]; omega) ⟨rfl, rfl, rfl, rfl, rfl, trivial⟩ (List.Perm.swap _ _ _)
    · have hb1 : x' < 2 ^ (c).lev := by rw [show (c).lev = a.lev from e2]; omega
      have hb2 : (y' - 2 ^ a.lev) < 2 ^ (c).lev := by rw [show (c).lev = a.lev from e2]; omega
      have hgk : (c).get x' (y' - 2 ^ a.lev) = t.get x y := by rw [← hg]; simp only [T.get, hX, hY, if_true, if_false]
      have ik := is_num kc
      have rk := h.i64 ik
      have lk := ik.lt
      obtain ⟨px, sx⟩ := and_lo (by omega) hX
      obtain ⟨py, sy⟩ := and_hi (by omega) hy hY
      have hks : IntE .sub .i64 (sqOf ts (.node a b c d)).k2 1 (int (num ts c - 1)) := ⟨by show intV .sub .i64 (num ts c) 1 = _; simp only [intV]; rw [wrap_i64 (by omega) (by omega)]⟩
      repeat' first
        | (show W _ _ _ _ _ (_ :: _) _ _ _; first
          | refine W.pure rfl rfl rfl rfl ?_
          | refine W.ldV rfl rfl rfl rfl rfl rfl ?_
          | refine W.binE rfl rfl rfl rfl (by assumption) ?_
          | refine W.cmpT rfl rfl rfl rfl (by simp only [cmpP]; first | done | omega) ?_
          | refine W.fieldAddr0 rfl rfl rfl rfl rfl ?_)
        | refine W.nil ?_
        | refine J.reg ?_
        | refine J.seq ?_
        | refine J.condT rfl ?_
        | refine J.block ?_
        | refine J.skip ?_
      refine J.openSt s fun rp vl gl vm gm bk => ?_
      refine J.rowAt gl rfl (by simp [stOf]; omega) fun cap cur c1 c2 c3 c4 hv => ?_
      subst hv
      have hrow := row_at ik (by simpa [stOf] using c4)
      refine J.regD [] mixed (by kernel_rfl) ?_
      repeat' first
        | (show W _ _ _ _ _ (_ :: _) _ _ _; first
          | refine W.indexAddrS rfl rfl rfl rfl (by simp only [stOf, List.length_map]; omega) ?_
          | refine W.pure rfl rfl rfl rfl ?_
          | refine W.binE rfl rfl rfl rfl (by assumption) ?_
          | refine W.shrE rfl rfl rfl rfl (by omega) (by assumption) ?_
          | refine W.fieldAddr0 rfl rfl rfl rfl rfl ?_
          | refine W.indexAddrE rfl rfl rfl rfl (by omega) (by simp only [Int.reduceToNat, Nat.reduceMul, Nat.reduceAdd]; rfl) ?_
          | refine W.ld rfl rfl rfl rfl rfl ?_
          | refine W.add64E rfl rfl rfl rfl (by simp only [Int.reduceAdd, Int.reduceMul]; rfl) (by omega) ?_
          | refine W.mul64 rfl rfl rfl rfl (by omega) ?_)
      refine W.ldp rfl rfl rfl rfl (by simp only [stOf, List.length_map] at c1; omega) ?_
      rw [hrow]
      refine W.storeAS rfl rfl rfl rfl (by kernel_rfl) (by rfl) (by rfl) (by simp [Value.oneCell']) ?_
      repeat' first
        | refine W.nil ?_
      refine J.regD [] mixed (by kernel_rfl) ?_
      repeat' first
        | (show W _ _ _ _ _ (_ :: _) _ _ _; first
          | refine W.pure rfl rfl rfl rfl ?_
          | refine W.binE rfl rfl rfl rfl (by assumption) ?_
          | refine W.shl rfl rfl rfl rfl (by omega) ?_)
        | refine W.nil ?_
        | refine J.endBlk ?_
      refine J.rowShut gl rfl c1 c2 c3 c4 ?_
      refine J.shutSt s gl gm bk rp ?_
      exact J.again (c, x', (y' - 2 ^ a.lev)) ⟨kc, hb1, hb2, hgk⟩ (by show (c).lev < a.lev + 1; rw [show (c).lev = a.lev from e2]; omega) ⟨rfl, rfl, rfl, rfl, rfl, trivial⟩ (List.Perm.swap _ _ _)
    · have hb1 : (x' - 2 ^ a.lev) < 2 ^ (d).lev := by rw [show (d).lev = a.lev from e3]; omega
      have hb2 : (y' - 2 ^ a.lev) < 2 ^ (d).lev := by rw [show (d).lev = a.lev from e3]; omega
      have hgk : (d).get (x' - 2 ^ a.lev) (y' - 2 ^ a.lev) = t.get x y := by rw [← hg]; simp only [T.get, hX, hY, if_false]
      have ik := is_num kd
      have rk := h.i64 ik
      have lk := ik.lt
      obtain ⟨px, sx⟩ := and_hi (by omega) hx hX
      obtain ⟨py, sy⟩ := and_hi (by omega) hy hY
      have hks : IntE .sub .i64 (sqOf ts (.node a b c d)).k3 1 (int (num ts d - 1)) := ⟨by show intV .sub .i64 (num ts d) 1 = _; simp only [intV]; rw [wrap_i64 (by omega) (by omega)]⟩
      repeat' first
        | (show W _ _ _ _ _ (_ :: _) _ _ _; first
          | refine W.pure rfl rfl rfl rfl ?_
          | refine W.ldV rfl rfl rfl rfl rfl rfl ?_
          | refine W.binE rfl rfl rfl rfl (by assumption) ?_
          | refine W.cmpT rfl rfl rfl rfl (by simp only [cmpP]; first | done | omega) ?_
          | refine W.fieldAddr0 rfl rfl rfl rfl rfl ?_)
        | refine W.nil ?_
        | refine J.reg ?_
        | refine J.seq ?_
        | refine J.condT rfl ?_
        | refine J.block ?_
        | refine J.skip ?_
      refine J.openSt s fun rp vl gl vm gm bk => ?_
      refine J.rowAt gl rfl (by simp [stOf]; omega) fun cap cur c1 c2 c3 c4 hv => ?_
      subst hv
      have hrow := row_at ik (by simpa [stOf] using c4)
      refine J.regD [] mixed (by kernel_rfl) ?_
      repeat' first
        | (show W _ _ _ _ _ (_ :: _) _ _ _; first
          | refine W.indexAddrS rfl rfl rfl rfl (by simp only [stOf, List.length_map]; omega) ?_
          | refine W.pure rfl rfl rfl rfl ?_
          | refine W.binE rfl rfl rfl rfl (by assumption) ?_
          | refine W.shrE rfl rfl rfl rfl (by omega) (by assumption) ?_
          | refine W.fieldAddr0 rfl rfl rfl rfl rfl ?_
          | refine W.indexAddrE rfl rfl rfl rfl (by omega) (by simp only [Int.reduceToNat, Nat.reduceMul, Nat.reduceAdd]; rfl) ?_
          | refine W.ld rfl rfl rfl rfl rfl ?_
          | refine W.add64E rfl rfl rfl rfl (by simp only [Int.reduceAdd, Int.reduceMul]; rfl) (by omega) ?_
          | refine W.mul64 rfl rfl rfl rfl (by omega) ?_)
      refine W.ldp rfl rfl rfl rfl (by simp only [stOf, List.length_map] at c1; omega) ?_
      rw [hrow]
      refine W.storeAS rfl rfl rfl rfl (by kernel_rfl) (by rfl) (by rfl) (by simp [Value.oneCell']) ?_
      repeat' first
        | refine W.nil ?_
      refine J.regD [] mixed (by kernel_rfl) ?_
      repeat' first
        | (show W _ _ _ _ _ (_ :: _) _ _ _; first
          | refine W.pure rfl rfl rfl rfl ?_
          | refine W.binE rfl rfl rfl rfl (by assumption) ?_
          | refine W.shl rfl rfl rfl rfl (by omega) ?_)
        | refine W.nil ?_
        | refine J.endBlk ?_
      refine J.rowShut gl rfl c1 c2 c3 c4 ?_
      refine J.shutSt s gl gm bk rp ?_
      exact J.again (d, (x' - 2 ^ a.lev), (y' - 2 ^ a.lev)) ⟨kd, hb1, hb2, hgk⟩ (by show (d).lev < a.lev + 1; rw [show (d).lev = a.lev from e3]; omega) ⟨rfl, rfl, rfl, rfl, rfl, trivial⟩ (List.Perm.swap _ _ _)
end
end Go.Proofs.YtphnadpmpcifoaaDoor
