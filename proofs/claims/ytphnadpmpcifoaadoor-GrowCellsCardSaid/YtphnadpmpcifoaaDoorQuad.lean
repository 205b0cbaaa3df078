/-
  What the calls of package quad do to a store: each function walked once.
-/
import Derived.Test.YtphnadpmpcifoaaDoorTy
import Derived.Test.YtphnadpmpcifoaaDoorMod
import Derived.Test.YtphnadpmpcifoaaDoorKey
namespace Go.Proofs.YtphnadpmpcifoaaDoor
open Go.Sq Go.Qm

noncomputable abbrev P := Tryd.prog
abbrev storeP (s : Nat) (st : St) : HP := storeQ 75 80 3 s st
abbrev err (e : Int) : Value := .iface 56 (.int .i64 e)
def noSq : Value := .agg #[.int .i64 0, .int .u64 0, .int .i64 0, .int .i64 0, .int .i64 0, .int .i64 0]

section
variable {R : Exit → Act → World → Prop} {n : Nat} {σ : Str} {F : List Ent} {stk : List It} {E : Env} {As : List Ent} {s : Nat} {st : St}
theorem J.openSt (s : Nat) {st : St} {M : List Ent} [p : PickK As s (storeP s st) M] (h : st.Rep → ∀ vl gl vm gm bk, J P R n σ F stk E ((s, pts s (.cells #[.int .i64 st.room, vl, vm, .map (some bk)] 75 (0, 0))) :: (gl, rowP gl 80 6 vl st.l.length (st.l.flatMap Sq.vals)) ::
    (gm, rowP gm 3 1 vm st.l.length (st.many.map (Value.int .i64))) :: (bk, pts bk (.map (es st.l) st.l.length)) :: M)) : J P R n σ F stk E As := by
  intro a w ha hs
  obtain ⟨r, vl, gl, vm, gm, bk, hs⟩ := sat_open (hs.perm (p.perm.append_right F))
  exact h r vl gl vm gm bk a w ha hs
theorem J.shutSt (s gl gm bk : Nat) {vl : Value} {vm : Value} {M : List Ent} [p : PickL As [s, gl, gm, bk] [(s, pts s (.cells #[.int .i64 st.room, vl, vm, .map (some bk)] 75 (0, 0))), (gl, rowP gl 80 6 vl st.l.length (st.l.flatMap Sq.vals)),
    (gm, rowP gm 3 1 vm st.l.length (st.many.map (Value.int .i64))), (bk, pts bk (.map (es st.l) st.l.length))] M] (r : st.Rep) (h : J P R n σ F stk E ((s, storeP s st) :: M)) : J P R n σ F stk E As :=
  fun a w ha hs => h a w ha (sat_shut (As := M ++ F) (vl := vl) (gl := gl) (vm := vm) (gm := gm) (bk := bk) r (hs.perm (p.perm.append_right F)))
theorem J.shutNew (s gl gm bk : Nat) {room : Int} {vl vm : Value} {m m' clk : Nat} {xs ys : List Value} {ee : Array MapEntry} {M : List Ent} [p : PickL As [s, gl, gm, bk] [(s, pts s (.cells #[.int .i64 room, vl, vm, .map (some bk)] 75 (0, 0))), (gl, rowP gl 80 6 vl m xs),
    (gm, rowP gm 3 1 vm m' ys), (bk, pts bk (.map ee clk))] M] (h1 : room = st.room) (h2 : m = st.l.length) (h3 : xs = st.l.flatMap Sq.vals) (h4 : m' = st.l.length) (h5 : ys = st.many.map (Value.int .i64)) (h6 : ee = es st.l) (h7 : clk = st.l.length) (r : st.Rep) (h : J P R n σ F stk E ((s, storeP s st) :: M)) : J P R n σ F stk E As := by
  subst h1 h2 h3 h4 h5 h6 h7
  exact J.shutSt s gl gm bk r h
/-- The array of squares is laid open. -/
theorem J.rowAt {k g T sz m : Nat} {v : Value} {xs : List Value} {M : List Ent} (k0 : Nat) (hk : k0 = k) [p : PickK As k (rowP g T sz v m xs) M] (hm : 0 < m)
    (h : ∀ cap cur, m ≤ cap → cap ≤ maxLen → cur.size = cap * sz → cur.toList.take (m * sz) = xs → v = .slice (some ⟨g, 0, none⟩) m cap → J P R n σ F stk E ((k, pts g (.cells cur T (0, 0))) :: M)) : J P R n σ F stk E As := by
  intro a w ha hs
  obtain ⟨cap, cur, ⟨h1, h2, h3, h4, h5, _⟩, hs'⟩ := Sat.rowOpen hm (hs.perm (p.perm.append_right F))
  exact h cap cur h2 h3 h4 h5 h1 a w ha hs'
theorem J.rowShut {k g T sz m cap : Nat} {cur : Array Value} {xs : List Value} {M : List Ent} (k0 : Nat) (hk : k0 = k) [p : PickK As k (pts g (.cells cur T (0, 0))) M] (h1 : m ≤ cap) (h2 : cap ≤ maxLen) (h3 : cur.size = cap * sz) (h4 : cur.toList.take (m * sz) = xs)
    (h : J P R n σ F stk E ((k, rowP g T sz (.slice (some ⟨g, 0, none⟩) m cap) m xs) :: M)) : J P R n σ F stk E As :=
  fun a w ha hs => h a w ha (Sat.rowShut h1 h2 h3 h4 (hs.perm (p.perm.append_right F)))
/-- Also the row's length may be asked. -/
theorem J.rowLen {k g T sz m : Nat} {v : Value} {xs : List Value} {M : List Ent} (k0 : Nat) (hk : k0 = k) [p : PickK As k (rowP g T sz v m xs) M]
    (h : ∀ a c, v = .slice a m c → J P R n σ F stk E As) : J P R n σ F stk E As := by
  intro a w ha hs
  obtain ⟨_, hc⟩ := Sat.rowCases (hs.perm (p.perm.append_right F))
  rcases hc with ⟨h1, h2, _⟩ | ⟨cap, cur, h1, _⟩
  · exact h none 0 (by rw [h1, h2]) a w ha hs
  · exact h _ cap h1 a w ha hs
end

attribute [local irreducible] SW J

theorem at_none {s : Nat} {st : St} {id : Int} (h : st.at id = none) : CallF P 36 [.pointer (some ⟨s, 0, none⟩), .int .i64 id] [(s, storeP s st)] (.tuple #[noSq, err 8]) [(s, storeP s st)] := by
  have h' := St.at_none h
  refine callR_of Tryd.func36 rfl Tryd.ntmps36 rfl fun σ F => ?_
  refine J.openSt s fun r vl gl vm gm bk => ?_
  refine J.rowLen gl rfl fun a c hv => ?_
  subst hv
  by_cases h1 : id < 1
  · repeat' first
      | (show W _ _ _ _ _ (_ :: _) _ _ _; first
        | refine W.pure rfl rfl rfl rfl ?_
        | refine W.cmpT rfl rfl rfl rfl (by simp only [cmpP]; first | done | omega) ?_
        | refine W.skip rfl rfl ?_
        | refine W.alloc rfl rfl (fun bq => ?_)
        | refine W.storeA rfl rfl rfl rfl (by rfl) (by rfl) (by simp [Value.oneCell']) ?_
        | refine W.eqPtNil rfl rfl rfl ?_
        | refine W.build rfl rfl rfl ?_
        | refine W.makeInterface rfl rfl rfl rfl ?_)
      | refine W.nil ?_
      | refine J.reg ?_
      | refine J.seq ?_
      | refine J.condT rfl ?_
      | refine J.condF rfl ?_
      | refine J.block ?_
    refine J.shutSt s gl gm bk r ?_
    exact J.retF [s] (resc1t1 rfl rfl rfl rfl rfl) rfl
  · repeat' first
      | (show W _ _ _ _ _ (_ :: _) _ _ _; first
        | refine W.pure rfl rfl rfl rfl ?_
        | refine W.ldV rfl rfl rfl rfl rfl rfl ?_
        | refine W.cmpT rfl rfl rfl rfl (by simp only [cmpP]; first | done | omega) ?_
        | refine W.cmpF rfl rfl rfl rfl (by simp only [cmpN]; first | done | omega) ?_
        | refine W.fieldAddr0 rfl rfl rfl rfl rfl ?_
        | refine W.alloc rfl rfl (fun bq => ?_)
        | refine W.storeA rfl rfl rfl rfl (by rfl) (by rfl) (by simp [Value.oneCell']) ?_
        | refine W.lenSlice rfl rfl rfl ?_
        | refine W.eqPtNil rfl rfl rfl ?_
        | refine W.build rfl rfl rfl ?_
        | refine W.makeInterface rfl rfl rfl rfl ?_)
      | refine W.nil ?_
      | refine J.reg ?_
      | refine J.seq ?_
      | refine J.condT rfl ?_
      | refine J.condF rfl ?_
      | refine J.block ?_
    refine J.shutSt s gl gm bk r ?_
    exact J.retF [s] (resc1t1 rfl rfl rfl rfl rfl) rfl

theorem at_some {s : Nat} {st : St} {id : Int} {q : Sq} (h : st.at id = some q) : CallF P 36 [.pointer (some ⟨s, 0, none⟩), .int .i64 id] [(s, storeP s st)] (.tuple #[q.val, .nilIface]) [(s, storeP s st)] := by
  obtain ⟨h1, h2, h3⟩ := St.at_some h
  refine callR_of Tryd.func36 rfl Tryd.ntmps36 rfl fun σ F => ?_
  refine J.openSt s fun r vl gl vm gm bk => ?_
  refine J.rowAt gl rfl (by omega) fun cap cur c1 c2 c3 c4 hv => ?_
  subst hv
  have hr := r.room
  have hl := r.le
  have hcur : cur.extract (0 + (id - 1).toNat * 6) (0 + (id - 1).toNat * 6 + 6) = #[.int .i64 q.lev, .int .u64 q.tile, .int .i64 q.k0, .int .i64 q.k1, .int .i64 q.k2, .int .i64 q.k3] := by
    refine extract_list (xs := q.vals) ?_
    rw [show 0 + (id - 1).toNat * 6 + 6 - (0 + (id - 1).toNat * 6) = 6 from by omega, sub_of_take c4 (by omega), Nat.zero_add]
    exact flat_drop _ _ _ h3
  repeat' first
    | (show W _ _ _ _ _ (_ :: _) _ _ _; first
      | refine W.pure rfl rfl rfl rfl ?_
      | refine W.ldV rfl rfl rfl rfl rfl rfl ?_
      | refine W.cmpF rfl rfl rfl rfl (by simp only [cmpN]; first | done | omega) ?_
      | refine W.fieldAddr0 rfl rfl rfl rfl rfl ?_
      | refine W.sub64 rfl rfl rfl rfl (by omega) ?_
      | refine W.alloc rfl rfl (fun bq => ?_)
      | refine W.indexAddrS rfl rfl rfl rfl (by omega) ?_
      | refine W.lenSlice rfl rfl rfl ?_
      | refine W.eqPtNil rfl rfl rfl ?_)
    | refine W.nil ?_
    | refine J.reg ?_
    | refine J.seq ?_
    | refine J.condF rfl ?_
    | refine J.block ?_
    | refine J.endBlk ?_
    | refine J.skip ?_
  refine W.ldpV rfl rfl rfl rfl rfl (by omega) ?_
  rw [hcur]
  repeat' first
    | refine W.pure rfl rfl rfl rfl ?_
    | refine W.storeA rfl rfl rfl rfl (by rfl) (by rfl) (by simp [Value.oneCell']) ?_
    | refine W.nil ?_
  refine J.rowShut gl rfl c1 c2 c3 c4 ?_
  refine J.shutSt s gl gm bk r ?_
  exact J.retF [s] (resc1t1 rfl rfl rfl rfl rfl) rfl
end Go.Proofs.YtphnadpmpcifoaaDoor
