/-
  The calls of package quad on stores of trees.
-/
import Derived.Test.YtphnadpmpcifoaaDoorAdd
import Derived.Test.YtphnadpmpcifoaaDoorTree
namespace Go.Proofs.YtphnadpmpcifoaaDoor
open Go.Sq Go.Qm
attribute [local irreducible] SW J
set_option maxHeartbeats 4000000

abbrev treeP (s room : Nat) (ts : List T) : HP := storeP s (stOf room ts)
abbrev ptr (b : Nat) : Value := .pointer (some ⟨b, 0, none⟩)
abbrev int (x : Int) : Value := .int .i64 x
abbrev okI (x : Int) : Value := .tuple #[.int .i64 x, .nilIface]

theorem at_stOf {room : Nat} {ts : List T} {id : Int} {t : T} (h : Is ts id t) : (stOf room ts).at id = some (sqOf ts t) := by
  unfold St.at
  rw [if_pos h.1]
  simp only [stOf, List.getElem?_map, h.2, Option.map_some]
theorem sqOf_lev (ts : List T) (t : T) : (sqOf ts t).lev = t.lev := by cases t <;> simp [sqOf, T.lev]

section
variable {s room : Nat} {U ts : List T} {id : Int} {t : T}
theorem at_is (h : Is ts id t) : CallF P 36 [ptr s, int id] [(s, treeP s room ts)] (.tuple #[(sqOf ts t).val, .nilIface]) [(s, treeP s room ts)] := at_some (at_stOf h)
theorem at_isnt (h : id < 1 ∨ (ts.length : Int) < id) : CallF P 36 [ptr s, int id] [(s, treeP s room ts)] (.tuple #[noSq, err 8]) [(s, treeP s room ts)] := by
  refine at_none ?_
  unfold St.at
  split
  · rw [List.getElem?_eq_none_iff]; simp [stOf]; omega
  · rfl

theorem add_is (h : Inv room U ts) (hu : t ∈ U) (hk : kidsIn ts t) (ho : t.ok) (hl : t.lev ≤ 40) :
    CallF P 31 [ptr s, (sqOf ts t).val, int t.many] [(s, treeP s room ts)] (okI (num (put ts t) t)) [(s, treeP s room (put ts t))] := by
  have hin : (sqOf ts t).In := sqOf_in hk ho hl (by have := h.le; have := h.room; omega)
  unfold put
  split
  · rename_i hm
    have hi := is_num hm
    have e : (stOf room ts).l[ts.idxOf t]? = some (sqOf ts t) := by
      have := List.idxOf_lt_length_of_mem hm
      simp [stOf, this]
    exact add_hit t.many hin e
  · rename_i hm
    have e : sqOf ts t ∉ (stOf room ts).l := by
      intro hq
      obtain ⟨u, hu, e⟩ := List.mem_map.1 hq
      exact hm (sqOf_inj hk e.symm ▸ hu)
    have := add_new (s := s) (m := t.many) hin t.many_in e (by simpa [stOf] using h.lt hu hm)
    unfold treeP
    rw [stOf_push h.reg hk]
    have e2 : num (ts ++ [t]) t = (stOf room ts).l.length + 1 := by
      simp [num, stOf, List.idxOf_append, hm]
    rw [e2]
    exact this

theorem Level_is (h : Is ts id t) : CallF P 20 [ptr s, int id] [(s, treeP s room ts)] (okI t.lev) [(s, treeP s room ts)] := by
  refine callR_of Tryd.func20 rfl Tryd.ntmps20 rfl fun σ F => ?_
  repeat' first
    | refine W.pure rfl rfl rfl rfl ?_
    | refine W.nil ?_
    | refine J.reg ?_
    | refine J.seq ?_
  refine W.call1 (at_is h) rfl rfl rfl ?_
  repeat' first
    | (show W _ _ _ _ _ (_ :: _) _ _ _; first
      | refine W.pure rfl rfl rfl rfl ?_
      | refine W.ldV rfl rfl rfl rfl rfl rfl ?_
      | refine W.fieldAddr0 rfl rfl rfl rfl rfl ?_
      | refine W.alloc rfl rfl (fun bq => ?_)
      | refine W.storeA rfl rfl rfl rfl (by rfl) (by rfl) (by simp [Value.oneCell']) ?_)
    | refine W.nil ?_
    | refine J.reg ?_
    | refine J.seq ?_
  exact J.retF [s] (res2 rfl rfl rfl) (by rw [sqOf_lev])
theorem Level_isnt (h : id < 1 ∨ (ts.length : Int) < id) : CallF P 20 [ptr s, int id] [(s, treeP s room ts)] (.tuple #[int 0, err 8]) [(s, treeP s room ts)] := by
  refine callR_of Tryd.func20 rfl Tryd.ntmps20 rfl fun σ F => ?_
  repeat' first
    | refine W.pure rfl rfl rfl rfl ?_
    | refine W.nil ?_
    | refine J.reg ?_
    | refine J.seq ?_
  refine W.call1 (at_isnt h) rfl rfl rfl ?_
  repeat' first
    | (show W _ _ _ _ _ (_ :: _) _ _ _; first
      | refine W.pure rfl rfl rfl rfl ?_
      | refine W.ldV rfl rfl rfl rfl rfl rfl ?_
      | refine W.fieldAddr0 rfl rfl rfl rfl rfl ?_
      | refine W.alloc rfl rfl (fun bq => ?_)
      | refine W.storeA rfl rfl rfl rfl (by rfl) (by rfl) (by simp [Value.oneCell']) ?_)
    | refine W.nil ?_
    | refine J.reg ?_
    | refine J.seq ?_
  exact J.retF [s] (res2 rfl rfl rfl) rfl
theorem Kids_is {a b c d : T} (h : Is ts id (.node a b c d)) : CallF P 40 [ptr s, int id] [(s, treeP s room ts)] (.tuple #[.agg #[int (num ts a), int (num ts b), int (num ts c), int (num ts d)], .nilIface]) [(s, treeP s room ts)] := by
  have hl : (sqOf ts (.node a b c d)).lev ≠ 3 := by have := a.lev_ge; simp [sqOf_lev, T.lev]; omega
  refine callR_of Tryd.func40 rfl Tryd.ntmps40 rfl fun σ F => ?_
  repeat' first
    | refine W.pure rfl rfl rfl rfl ?_
    | refine W.alloc rfl rfl (fun bq => ?_)
    | refine W.nil ?_
    | refine J.reg ?_
    | refine J.seq ?_
  refine W.call1 (at_is h) rfl rfl rfl ?_
  repeat' first
    | (show W _ _ _ _ _ (_ :: _) _ _ _; first
      | refine W.pure rfl rfl rfl rfl ?_
      | refine W.ldV rfl rfl rfl rfl rfl rfl ?_
      | refine W.cmpF rfl rfl rfl rfl (by simp only [cmpN]; first | done | omega) ?_
      | refine W.fieldAddr0 rfl rfl rfl rfl rfl ?_
      | refine W.ldqV rfl rfl rfl rfl rfl rfl (by simp only [List.drop_succ_cons, List.drop_zero, List.take_succ_cons, List.take_zero]; rfl) ?_
      | refine W.alloc rfl rfl (fun bq => ?_)
      | refine W.storeA rfl rfl rfl rfl (by rfl) (by rfl) (by simp [Value.oneCell']) ?_
      | refine W.eqIfNilT rfl rfl rfl ?_)
    | refine W.nil ?_
    | refine J.reg ?_
    | refine J.seq ?_
    | refine J.condF rfl ?_
    | refine J.skip ?_
  exact J.retF [s] (resc1t1 rfl rfl rfl rfl rfl) rfl
theorem Tile_is {n : Nat} (h : Is ts id (.leaf n)) : CallF P 43 [ptr s, int id] [(s, treeP s room ts)] (.tuple #[.int .u64 n, .nilIface]) [(s, treeP s room ts)] := by
  have hl : (sqOf ts (.leaf n)).lev = 3 := rfl
  refine callR_of Tryd.func43 rfl Tryd.ntmps43 rfl fun σ F => ?_
  repeat' first
    | refine W.pure rfl rfl rfl rfl ?_
    | refine W.nil ?_
    | refine J.reg ?_
    | refine J.seq ?_
  refine W.call1 (at_is h) rfl rfl rfl ?_
  repeat' first
    | (show W _ _ _ _ _ (_ :: _) _ _ _; first
      | refine W.pure rfl rfl rfl rfl ?_
      | refine W.ldV rfl rfl rfl rfl rfl rfl ?_
      | refine W.cmpF rfl rfl rfl rfl (by simp only [cmpN]; first | done | omega) ?_
      | refine W.fieldAddr0 rfl rfl rfl rfl rfl ?_
      | refine W.alloc rfl rfl (fun bq => ?_)
      | refine W.storeA rfl rfl rfl rfl (by rfl) (by rfl) (by simp [Value.oneCell']) ?_
      | refine W.eqIfNilT rfl rfl rfl ?_)
    | refine W.nil ?_
    | refine J.reg ?_
    | refine J.seq ?_
    | refine J.condF rfl ?_
    | refine J.skip ?_
  exact J.retF [s] (res2 rfl rfl rfl) rfl
end
end Go.Proofs.YtphnadpmpcifoaaDoor
