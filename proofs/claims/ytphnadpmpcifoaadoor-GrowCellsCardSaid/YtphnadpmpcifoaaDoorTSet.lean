/-
  Package quad on trees (3): nothing, cells read and set, new stores.
-/
import Derived.Test.YtphnadpmpcifoaaDoorTNode
namespace Go.Proofs.YtphnadpmpcifoaaDoor
open Go.Sq Go.Qm
attribute [local irreducible] SW J
set_option maxHeartbeats 4000000
set_option maxRecDepth 10000

section
variable {s room : Nat} {U ts : List T}
theorem Empty_is {k : Nat} {L : Int} (h : Inv room U ts) (hL : L = 3 + k) (hk : k ≤ 37) (hu : ∀ t ∈ T.emptyNew k, t ∈ U) :
    CallF P 26 [ptr s, int L] [(s, treeP s room ts)] (okI (num (puts ts (T.emptyNew k)) (T.empty k))) [(s, treeP s room (puts ts (T.emptyNew k)))] := by
  have hmem := fun j (hj : j ≤ k) t ht => hu t (T.emptyNew_le hj t ht)
  have e : ∀ j, puts ts (T.emptyNew (j + 1)) = put (puts ts (T.emptyNew j)) (.node (T.empty j) (T.empty j) (T.empty j) (T.empty j)) := fun j => by simp only [T.emptyNew, puts_app, puts_one, T.empty]
  refine callR_of Tryd.func26 rfl Tryd.ntmps26 rfl fun σ F => ?_
  repeat' first
    | (show W _ _ _ _ _ (_ :: _) _ _ _; first
      | refine W.pure rfl rfl rfl rfl ?_
      | refine W.cmpF rfl rfl rfl rfl (by simp only [cmpN]; first | done | omega) ?_
      | refine W.eqPtNil rfl rfl rfl ?_)
    | refine W.nil ?_
    | refine J.reg ?_
    | refine J.seq ?_
    | refine J.condF rfl ?_
    | refine J.skip ?_
  refine W.call1 (Leaf_is (t := 0) h (hmem 0 (by omega) _ (by simp [T.emptyNew])) (by omega)) rfl rfl rfl ?_
  repeat' first
    | refine W.pure rfl rfl rfl rfl ?_
    | refine W.nil ?_
    | refine J.reg ?_
    | refine J.seq ?_
    | refine J.block ?_
  refine J.loop (X := Nat) (fun j => j ≤ k) (fun j => k - j) (fun j => [(0, ptr s), (1, int L), (6, int (num (puts ts (T.emptyNew j)) (T.empty j))), (7, .nilIface), (8, int (3 + j))]) (fun j => [(s, treeP s room (puts ts (T.emptyNew j)))]) 0 (by omega) ⟨rfl, rfl, rfl, rfl, rfl, trivial⟩ (.refl _) fun j hj => ?_
  obtain ⟨g1, g2⟩ := T.emptyNew_goods h.reg j (by omega)
  have hi := h.puts (hmem j hj) g1
  by_cases hlt : j < k
  · repeat' first
      | (show W _ _ _ _ _ (_ :: _) _ _ _; first
        | refine W.pure rfl rfl rfl rfl ?_
        | refine W.cmpT rfl rfl rfl rfl (by simp only [cmpP]; first | done | omega) ?_
        | refine W.eqIfNilT rfl rfl rfl ?_
        | refine W.build rfl rfl rfl ?_)
      | refine W.nil ?_
      | refine J.reg ?_
      | refine J.seq ?_
      | refine J.condT rfl ?_
      | refine J.block ?_
      | refine J.skip ?_
    refine W.call1 (Node_is hi (is_num g2) (is_num g2) (is_num g2) (is_num g2) (hmem (j + 1) (by omega) _ (by simp [T.emptyNew, T.empty])) rfl rfl rfl (by rw [T.empty_lev]; omega)) rfl rfl rfl ?_
    repeat' first
      | refine W.pure rfl rfl rfl rfl ?_
      | refine W.add64 rfl rfl rfl rfl (by omega) ?_
      | refine W.nil ?_
      | refine J.reg ?_
      | refine J.endBlk ?_
    exact J.again (j + 1) (by omega) (by omega) ⟨rfl, rfl, by rw [e]; rfl, rfl, by show some (int (3 + (j : Int) + 1)) = some (int (3 + ((j + 1 : Nat) : Int))); congr 2, trivial⟩ (by rw [e])
  · obtain rfl : j = k := by omega
    repeat' first
      | (show W _ _ _ _ _ (_ :: _) _ _ _; first
        | refine W.pure rfl rfl rfl rfl ?_
        | refine W.cmpF rfl rfl rfl rfl (by simp only [cmpN]; first | done | omega) ?_
        | refine W.skip rfl rfl ?_)
      | refine W.nil ?_
      | refine J.reg ?_
      | refine J.seq ?_
      | refine J.condF rfl ?_
      | refine J.exit rfl ?_
    exact J.retF [s] (res2 rfl rfl rfl) rfl
theorem cell_is {id : Int} {t : T} {x y : Nat} (hi : Is ts id t) (hl : t.lev ≤ 40) (hx : x < 2 ^ t.lev) (hy : y < 2 ^ t.lev) :
    CallF P 50 [ptr s, int id, int x, int y] [(s, treeP s room ts)] (.tuple #[(sqOf ts t).val, .nilIface]) [(s, treeP s room ts)] := by
  have lt := sqOf_lev ts t
  have sx : ShrE .i64 x (sqOf ts t).lev 0 := ⟨by rw [lt, shr_nat (by show t.lev ≤ 64; omega), Nat.div_eq_of_lt hx]; rfl⟩
  have sy : ShrE .i64 y (sqOf ts t).lev 0 := ⟨by rw [lt, shr_nat (by show t.lev ≤ 64; omega), Nat.div_eq_of_lt hy]; rfl⟩
  refine callR_of Tryd.func50 rfl Tryd.ntmps50 rfl fun σ F => ?_
  repeat' first
    | refine W.pure rfl rfl rfl rfl ?_
    | refine W.alloc rfl rfl (fun bq => ?_)
    | refine W.nil ?_
    | refine J.reg ?_
    | refine J.seq ?_
  refine W.call1 (at_is hi) rfl rfl rfl ?_
  repeat' first
    | (show W _ _ _ _ _ (_ :: _) _ _ _; first
      | refine W.pure rfl rfl rfl rfl ?_
      | refine W.ldV rfl rfl rfl rfl rfl rfl ?_
      | refine W.shrE rfl rfl rfl rfl (by omega) (by assumption) ?_
      | refine W.cmpF rfl rfl rfl rfl (by simp only [cmpN]; first | done | omega) ?_
      | refine W.fieldAddr0 rfl rfl rfl rfl rfl ?_
      | refine W.ldaV rfl rfl rfl rfl rfl rfl ?_
      | refine W.alloc rfl rfl (fun bq => ?_)
      | refine W.storeA rfl rfl rfl rfl (by rfl) (by rfl) (by simp [Value.oneCell']) ?_
      | refine W.eqIfNilT rfl rfl rfl ?_)
    | refine W.nil ?_
    | refine J.reg ?_
    | refine J.seq ?_
    | refine J.condF rfl ?_
    | refine J.skip ?_
  exact J.retF [s] (resc1t1 rfl rfl rfl rfl rfl) rfl
end
end Go.Proofs.YtphnadpmpcifoaaDoor
