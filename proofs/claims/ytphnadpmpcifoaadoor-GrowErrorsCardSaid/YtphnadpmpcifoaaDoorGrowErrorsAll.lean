/-
  The tied card of GrowErrors is proved: whatever the input, and the variable errors.errorType laid as the program's text lays it, quiltlaw12.GrowErrors answers true, and the input reads as it did. No conditions.
-/
import Derived.Test.YtphnadpmpcifoaaDoorTSure
import Derived.Laws.Externs
import Derived.LaidEql
import Derived.Test.YtphnadpmpcifoaaDoorLawW
import Derived.Test.YtphnadpmpcifoaaDoorTLaid
import Derived.ProofKit
import Derived.Carry
import Derived.Lib.SmallJoins
import Derived.Test.YtphnadpmpcifoaaDoorRows
import Derived.ChangeVars
import Derived.JoinedOf
import Derived.LaidLaws
import Derived.LaidHandle
import Derived.Stop.Joined
import Derived.RowKitTokens
import Derived.Test.YtphnadpmpcifoaaDoorTie
import Derived.Test.YtphnadpmpcifoaaDoorCards
import Derived.SevenTiedAt
/-
  errors.As at an error number; the laws' own: num.
-/

namespace Go.Sq
section
variable {P : Program} {ops : Array Oper} {n : Nat} {bars : Nat → Bool} {K : EnvF → List Ent → List Ent → Prop} {l : List (Nat × Oper)} {E : Env} {St V : List Ent} {i : Nat} {d : Tmp} {ty : TypeId} {pos : String} {aft : Array Edge} {g : Option (Nat × Bool)}
/-- A call that runs at once: a value, and nothing turns. -/
theorem W.ran {op : Op} {v : Value} (hw : wants ops ⟨some d, op, ty, pos, aft, g⟩ E.get = some true) (hf : fits n ⟨some d, op, ty, pos, aft, g⟩ = true) {us : List Value} (hx : evL E op.operands.toList = some us) (hq : kindOf op = .loud)
    (hr : ∀ w, (execOp (evf E.get) ⟨some d, op, ty, pos, aft, g⟩).run P w = .ok (.value v) w) (h : W P ops n bars K l ((d, v) :: E) St V) : W P ops n bars K ((i, ⟨some d, op, ty, pos, aft, g⟩) :: l) E St V := by
  refine W.loud (N := []) (M := V) (R := fun u N' => u = v ∧ N' = []) hw hf (fun t ht => (evL_spec hx).2 t (by simpa using ht)) hq (List.Perm.refl _) ?_ fun u N' ⟨h1, h2⟩ => by subst h1; subst h2; rw [put_get]; exact h
  intro σ F w hs
  rw [hr w]
  exact ⟨_, ⟨rfl, rfl⟩, hs⟩
/-- .. that reads one piece. -/
theorem W.ran1 {op : Op} {v : Value} {b : Nat} {o : Obj} {M : List Ent} (hw : wants ops ⟨some d, op, ty, pos, aft, g⟩ E.get = some true) (hf : fits n ⟨some d, op, ty, pos, aft, g⟩ = true) {us : List Value} (hx : evL E op.operands.toList = some us) (hq : kindOf op = .loud)
    (b0 : Nat) (hb0 : b0 = b) [hp : PickK V b (pts b o) M] (hr : ∀ w, w.heap[b]? = some o → (execOp (evf E.get) ⟨some d, op, ty, pos, aft, g⟩).run P w = .ok (.value v) w) (h : W P ops n bars K l ((d, v) :: E) St V) : W P ops n bars K ((i, ⟨some d, op, ty, pos, aft, g⟩) :: l) E St V := by
  refine W.loud (N := V) (M := []) (R := fun u N' => u = v ∧ N' = V) hw hf (fun t ht => (evL_spec hx).2 t (by simpa using ht)) hq (by simp) ?_ fun u N' ⟨h1, h2⟩ => by subst h1; subst h2; rw [put_get, List.append_nil]; exact h
  intro σ F w hs
  rw [hr w (Sat.block (k := b) (As := M ++ F) (hs.perm (hp.perm.append_right F)))]
  exact ⟨_, ⟨rfl, rfl⟩, hs⟩
/-- .. that makes one piece. -/
theorem W.ranNew {op : Op} {mk : Nat → Value} {ob : Obj} (hw : wants ops ⟨some d, op, ty, pos, aft, g⟩ E.get = some true) (hf : fits n ⟨some d, op, ty, pos, aft, g⟩ = true) {us : List Value} (hx : evL E op.operands.toList = some us) (hq : kindOf op = .loud)
    (hr : ∀ w, (execOp (evf E.get) ⟨some d, op, ty, pos, aft, g⟩).run P w = .ok (.value (mk w.heap.size)) (w.alloc ob)) (h : ∀ b, W P ops n bars K l ((d, mk b) :: E) St ((b, pts b ob) :: V)) : W P ops n bars K ((i, ⟨some d, op, ty, pos, aft, g⟩) :: l) E St V := by
  refine W.loud (N := []) (M := V) (R := fun u N' => ∃ b, u = mk b ∧ N' = [(b, pts b ob)]) hw hf (fun t ht => (evL_spec hx).2 t (by simpa using ht)) hq (List.Perm.refl _) ?_ fun u N' ⟨b, h1, h2⟩ => by subst h1; subst h2; rw [put_get]; exact h b
  intro σ F w hs
  rw [hr w]
  exact ⟨_, ⟨_, rfl, rfl⟩, hs.alloc ob⟩
/-- .. that turns one piece, by another. -/
theorem W.ranSet {op : Op} {v : Value} {b b2 : Nat} {o o' o2 : Obj} {M M2 : List Ent} (hw : wants ops ⟨some d, op, ty, pos, aft, g⟩ E.get = some true) (hf : fits n ⟨some d, op, ty, pos, aft, g⟩ = true) {us : List Value} (hx : evL E op.operands.toList = some us) (hq : kindOf op = .loud)
    (b0 b02 : Nat) (hb0 : b0 = b) (hb02 : b02 = b2) [hp : PickK V b (pts b o) M] [hp2 : PickK M b2 (pts b2 o2) M2]
    (hr : ∀ w, w.heap[b]? = some o → w.heap[b2]? = some o2 → (execOp (evf E.get) ⟨some d, op, ty, pos, aft, g⟩).run P w = .ok (.value v) { w with heap := w.heap.setIfInBounds b o' }) (h : W P ops n bars K l ((d, v) :: E) St ((b, pts b o') :: M)) : W P ops n bars K ((i, ⟨some d, op, ty, pos, aft, g⟩) :: l) E St V := by
  refine W.loud (N := (b, pts b o) :: M) (M := []) (R := fun u N' => u = v ∧ N' = (b, pts b o') :: M) hw hf (fun t ht => (evL_spec hx).2 t (by simpa using ht)) hq (by simpa using hp.perm) ?_ fun u N' ⟨h1, h2⟩ => by subst h1; subst h2; rw [put_get, List.append_nil]; exact h
  intro σ F w hs
  have hb : w.heap[b]? = some o := Sat.block (k := b) (As := M ++ F) hs
  have hb2 : w.heap[b2]? = some o2 := Sat.block (k := b2) (As := M2 ++ F) ((hs.tail).perm (hp2.perm.append_right F))
  rw [hr w hb hb2]
  have hlt := (Array.getElem?_eq_some_iff.1 hb).1
  exact ⟨_, ⟨rfl, rfl⟩, Sat.setObj (o := o) hs rfl (by simp [hlt]) (fun c _ hc => by simp [Array.getElem?_setIfInBounds_ne (Ne.symm hc)])⟩
end
end Go.Sq
namespace Go.Proofs.YtphnadpmpcifoaaDoor
open Go.Sq Go.Qm Go.Extern
abbrev hdl (T : Nat) : Value := .pointer (some ⟨1, T, none⟩)
abbrev rty (T : Nat) : Value := .iface 132 (.agg #[hdl T])
/-! ### the model's entries for reflectlite, where they read or write memory -/
theorem rl_method (z : Sem Value) (f : TypeId → Addr → Nat → Nat → Sem Value) (v : Value) :
    ReflectliteValue.method z f #[v] = (do match ← ReflectliteValue.parts v with | none => z | some (t, a, fl) => f t a fl (fl % 32)) := rfl
theorem rl_set (v x : Value) : ReflectliteValue.set #[v, x] = (do
    let (some (dst, a, fl), some (src, b, _)) := (← ReflectliteValue.parts v, ← ReflectliteValue.parts x)
      | unsupported (.noEntry "extern/(internal/reflectlite.Value).Set.zeroValue")
    if fl / ReflectliteValue.flagAddr % 2 == 0 then unsupported (.noEntry "extern/(internal/reflectlite.Value).Set.unaddressable")
    let val ← loadVar src b
    if ← Rtype.directlyAssignable dst src then storeVar dst a val
    else if ← Rtype.implements dst src then
      if (← Rtype.kind src) == 20 then
        match val with
        | .nilIface => unsupported (.noEntry "extern/reflectlite: a nil value of one interface type handed on as a value of another")
        | _ => storeVar dst a val
      else storeVar dst a (.iface src val)
    else panicString ("reflectlite.Set: value of type " ++ (← Rtype.spelt src) ++ " is not assignable to type " ++ (← Rtype.spelt dst))
    pure (.tuple #[])) := rfl
theorem x_parts (a : Addr) (w : World) : (ReflectliteValue.parts (.agg #[hdl 77, .pointer (some a), .int .u64 150])).run P w = .ok (some (77, a, 150)) w := by kernel_rfl
theorem x_parts2 (a : Addr) (w : World) : (ReflectliteValue.parts (.agg #[hdl 56, .pointer (some a), .int .u64 386])).run P w = .ok (some (56, a, 386)) w := by kernel_rfl
theorem x_parts3 (a : Addr) (w : World) : (ReflectliteValue.parts (.agg #[hdl 56, .pointer (some a), .int .u64 130])).run P w = .ok (some (56, a, 130)) w := by kernel_rfl
theorem x_elemOf (w : World) : (Rtype.elem? 77).run P w = .ok (some 56) w := by kernel_rfl
theorem x_mk (p : Addr) (w : World) : (ReflectliteValue.mk 56 p ReflectliteValue.flagAddr).run P w = .ok (.agg #[hdl 56, .pointer (some p), .int .u64 386]) w := by kernel_rfl
theorem x_direct (w : World) : (Rtype.directlyAssignable 56 56).run P w = .ok true w := by kernel_rfl
theorem x_size (w : World) : (sizeOf 56).run P w = .ok 1 w := by kernel_rfl
theorem cell_at0 {w : World} {b : Nat} {c : Array Value} {T : TypeId} {fz : Nat × Nat} {v : Value} (h : w.heap[b]? = some (.cells c T fz)) (h0 : c[0]? = some v) : w.cell? ⟨b, 0, none⟩ = some v := by
  unfold World.cell?; rw [h]; exact h0
theorem isNil_run {a p : Addr} {w : World} (ha : w.cell? a = some (.pointer (some p))) : (callFunc 47 #[.agg #[hdl 77, .pointer (some a), .int .u64 150]]).run P w = .ok (.value (.bool false)) w := by
  rw [@run_callFunc_extern P 47 _ (ReflectliteValue.method (ReflectliteValue.valueError "reflectlite.Value.IsNil" 0) ReflectliteValue.isNil) Tryd.func47 (by kernel_rfl) (by kernel_rfl) (by kernel_rfl) (by kernel_rfl)]
  rw [rl_method]
  simp only [Sem.run_bind, x_parts, Result.andThen]
  simp [ReflectliteValue.isNil, loadVar, isAgg, underlying, Tryd.underlying77, ha, Result.andThen]
theorem elem_run {a p : Addr} {w : World} (ha : w.cell? a = some (.pointer (some p))) : (callFunc 61 #[.agg #[hdl 77, .pointer (some a), .int .u64 150]]).run P w = .ok (.value (.agg #[hdl 56, .pointer (some p), .int .u64 386])) w := by
  rw [@run_callFunc_extern P 61 _ (ReflectliteValue.method (ReflectliteValue.valueError "reflectlite.Value.Elem" 0) ReflectliteValue.elem) Tryd.func61 (by kernel_rfl) (by kernel_rfl) (by kernel_rfl) (by kernel_rfl)]
  rw [rl_method]
  simp only [Sem.run_bind, x_parts, Result.andThen]
  simp [ReflectliteValue.elem, loadVar, isAgg, underlying, Tryd.underlying77, ha, Result.andThen, x_elemOf, x_mk]
theorem set_run {bn bw : Nat} {n : Int} {old : Value} {w : World} (hb : w.heap[bn]? = some (.cells #[old] 56 (0, 0))) (hw : w.heap[bw]? = some (.cells #[.int .i64 n] 56 (0, 0))) :
    (callFunc 62 #[.agg #[hdl 56, ptr bn, .int .u64 386], .agg #[hdl 56, ptr bw, .int .u64 130]]).run P w = .ok (.value (.tuple #[])) { w with heap := w.heap.setIfInBounds bn (.cells #[.int .i64 n] 56 (0, 0)) } := by
  have h1 : w.cell? ⟨bn, 0, none⟩ = some old := cell_at0 hb rfl
  have h2 : w.cell? ⟨bw, 0, none⟩ = some (.int .i64 n) := cell_at0 hw rfl
  have h3 : w.frozen? ⟨bn, 0, none⟩ = false := by simp [World.frozen?, hb]
  rw [@run_callFunc_extern P 62 _ ReflectliteValue.set Tryd.func62 (by kernel_rfl) (by kernel_rfl) (by kernel_rfl) (by kernel_rfl)]
  rw [rl_set]
  simp only [Sem.run_bind, x_parts2, x_parts3, Result.andThen]
  simp [ReflectliteValue.flagAddr, loadVar, isAgg, underlying, Tryd.underlying56, h2, Result.andThen, x_direct, storeVar, Value.cells, storeCells, Addr.add]
  rw [run_store P w ⟨bn, 0, none⟩ _ _ (by rfl)]
  simp [h1, h3, World.setCell]
  apply Array.ext_getElem?
  intro i
  rw [Array.getElem?_modify, Array.getElem?_setIfInBounds]
  by_cases hi : bn = i
  · subst hi
    have hlt := (Array.getElem?_eq_some_iff.1 hb).1
    have he : w.heap[bn] = .cells #[old] 56 (0, 0) := (Array.getElem?_eq_some_iff.1 hb).2
    simp [hlt, he]
  · simp [hi]
attribute [local irreducible] SW J
set_option maxHeartbeats 8000000
set_option maxRecDepth 10000
theorem errorsas2_is {bn bv n : Nat} :
    CallF P 48 [err n, .iface 77 (ptr bn), .agg #[hdl 77, ptr bv, .int .u64 150], rty 56] [(bn, pts bn (.cells #[.int .i64 0] 56 (0, 0))), (bv, pts bv (.cells #[ptr bn] 77 (0, 0)))]
      (.bool true) [(bn, pts bn (.cells #[.int .i64 n] 56 (0, 0))), (bv, pts bv (.cells #[ptr bn] 77 (0, 0)))] := by
  refine callR_of Tryd.func48 rfl Tryd.ntmps48 rfl fun σ F => ?_
  repeat' first
    | refine W.pure rfl rfl rfl rfl ?_
    | refine W.boxA rfl rfl rfl (fun bq => ?_)
    | refine W.nil ?_
    | refine J.reg ?_
    | refine J.seq ?_
    | refine J.block ?_
  refine J.rounds 2 ?_
  repeat' first
    | refine W.pure rfl rfl rfl rfl ?_
    | refine J.reg ?_
    | refine J.seq ?_
    | refine J.block ?_
    | refine J.rnd ?_
  refine W.ran (v := rty 56) rfl rfl rfl rfl (fun w => by kernel_rfl) ?_
  repeat' first
    | refine W.pure rfl rfl rfl rfl ?_
  refine W.ran (v := .bool true) rfl rfl rfl rfl (fun w => by kernel_rfl) ?_
  repeat' first
    | refine W.ldaV rfl rfl rfl rfl rfl rfl ?_
    | refine W.nil ?_
    | refine J.reg ?_
    | refine J.seq ?_
    | refine J.condT rfl ?_
  refine W.ran1 (b := bv) (o := .cells #[ptr bn] 77 (0, 0)) (v := .agg #[hdl 56, ptr bn, .int .u64 386]) rfl rfl rfl rfl bv rfl (fun w hw => Eq.trans (b := (callFunc 61 #[.agg #[hdl 77, ptr bv, .int .u64 150]]).run P w) (by kernel_rfl) (elem_run (cell_at0 hw rfl))) ?_
  repeat' first
    | refine W.pure rfl rfl rfl rfl ?_
  refine W.ranNew (mk := fun b => .agg #[hdl 56, .pointer (some ⟨b, 0, none⟩), .int .u64 130]) (ob := .cells #[.int .i64 n] 56 (0, 0)) rfl rfl rfl rfl (fun w => by kernel_rfl) (fun bw => ?_)
  skip
  refine W.ranSet (b := bn) (b2 := bw) (o := .cells #[.int .i64 0] 56 (0, 0)) (o' := .cells #[.int .i64 n] 56 (0, 0)) (o2 := .cells #[.int .i64 n] 56 (0, 0)) (v := .tuple #[]) rfl rfl rfl rfl bn bw rfl rfl (fun w hw hw2 => Eq.trans (b := (callFunc 62 #[.agg #[hdl 56, ptr bn, .int .u64 386], .agg #[hdl 56, ptr bw, .int .u64 130]]).run P w) (by kernel_rfl) (set_run hw hw2)) ?_
  repeat' first
    | refine W.pure rfl rfl rfl rfl ?_
    | refine W.nil ?_
    | refine J.reg ?_
    | refine J.seq ?_
  exact J.retF [bn, bv] (res1 rfl rfl) rfl
theorem errorsas_is {bn n : Nat} {cg : Array Value} {Tg : TypeId} {fg : Nat × Nat} (hg : cg.toList[0]? = some (rty 27)) :
    CallR P 29 [err n, .iface 77 (ptr bn)] [(bn, pts bn (.cells #[.int .i64 0] 56 (0, 0))), (0, pts 0 (.cells cg Tg fg))] fun v N => v = .bool true ∧ N = [(bn, pts bn (.cells #[.int .i64 n] 56 (0, 0))), (0, pts 0 (.cells cg Tg fg))] := by
  refine callR_of Tryd.func29 rfl Tryd.ntmps29 rfl fun σ F => ?_
  repeat' first
    | refine W.pure rfl rfl rfl rfl ?_
    | refine W.eqIfNilF rfl rfl rfl ?_
    | refine W.nil ?_
    | refine J.reg ?_
    | refine J.seq ?_
    | refine J.condF rfl ?_
    | refine J.skip ?_
  refine W.ranNew (mk := fun b => .agg #[hdl 77, .pointer (some ⟨b, 0, none⟩), .int .u64 150]) (ob := .cells #[ptr bn] 77 (0, 0)) rfl rfl rfl rfl (fun w => by kernel_rfl) (fun bv => ?_)
  repeat' first
    | (show W _ _ _ _ _ (_ :: _) _ _ _; first
      | refine W.ldaV rfl rfl rfl rfl rfl rfl ?_
      | refine W.alloc rfl rfl (fun bq => ?_)
      | refine W.storeA rfl rfl rfl rfl (by rfl) (by rfl) (by simp [Value.oneCell']) ?_)
    | refine W.nil ?_
    | refine J.reg ?_
    | refine J.seq ?_
  refine W.ran (v := rty 77) rfl rfl rfl rfl (fun w => by kernel_rfl) ?_
  repeat' first
    | refine W.pure rfl rfl rfl rfl ?_
    | refine W.nil ?_
    | refine J.reg ?_
    | refine J.seq ?_
  refine W.ran (v := .int .u8 22) rfl rfl rfl rfl (fun w => by kernel_rfl) ?_
  repeat' first
    | (show W _ _ _ _ _ (_ :: _) _ _ _; first
      | refine W.pure rfl rfl rfl rfl ?_
      | refine W.cmpF rfl rfl rfl rfl (by simp only [cmpN]; first | done | omega) ?_
      | refine W.ldaV rfl rfl rfl rfl rfl rfl ?_)
  refine W.ran1 (b := bv) (o := .cells #[ptr bn] 77 (0, 0)) (v := .bool false) rfl rfl rfl rfl bv rfl (fun w hw => Eq.trans (b := (callFunc 47 #[.agg #[hdl 77, ptr bv, .int .u64 150]]).run P w) (by kernel_rfl) (isNil_run (cell_at0 hw rfl))) ?_
  repeat' first
    | refine W.pure rfl rfl rfl rfl ?_
    | refine W.nil ?_
    | refine J.reg ?_
    | refine J.seq ?_
    | refine J.condF rfl ?_
    | refine J.skip ?_
  refine W.ran (v := rty 56) rfl rfl rfl rfl (fun w => by kernel_rfl) ?_
  repeat' first
    | refine W.pure rfl rfl rfl rfl ?_
    | refine W.nil ?_
    | refine J.reg ?_
    | refine J.seq ?_
  refine W.ran (v := .int .u8 2) rfl rfl rfl rfl (fun w => by kernel_rfl) ?_
  repeat' first
    | (show W _ _ _ _ _ (_ :: _) _ _ _; first
      | refine W.ldV rfl rfl rfl rfl rfl hg ?_
      | refine W.pure rfl rfl rfl rfl ?_
      | refine W.cmpT rfl rfl rfl rfl (by simp only [cmpP]; first | done | omega) ?_)
  refine W.ran (v := .bool true) rfl rfl rfl rfl (fun w => by kernel_rfl) ?_
  repeat' first
    | (show W _ _ _ _ _ (_ :: _) _ _ _; first
      | refine W.not rfl rfl rfl ?_
      | refine W.call2 (errorsas2_is (n := n)) rfl rfl rfl ?_
      | refine W.pure rfl rfl rfl rfl ?_
      | refine W.ldaV rfl rfl rfl rfl rfl rfl ?_)
    | refine W.nil ?_
    | refine J.reg ?_
    | refine J.seq ?_
    | refine J.condF rfl ?_
    | refine J.skip ?_
  exact J.retR [bn, 0] (res1 rfl rfl) ⟨rfl, rfl⟩
theorem num_is {n : Nat} {cg : Array Value} {Tg : TypeId} {fg : Nat × Nat} (hg : cg.toList[0]? = some (rty 27)) : CallF P 10 [err n] [(0, pts 0 (.cells cg Tg fg))] (int n) [(0, pts 0 (.cells cg Tg fg))] := by
  refine callR_of Tryd.func10 rfl Tryd.ntmps10 rfl fun σ F => ?_
  repeat' first
    | (show W _ _ _ _ _ (_ :: _) _ _ _; first
      | refine W.pure rfl rfl rfl rfl ?_
      | refine W.alloc rfl rfl (fun bq => ?_)
      | refine W.eqIfNilF rfl rfl rfl ?_
      | refine W.makeInterface rfl rfl rfl rfl ?_)
    | refine W.nil ?_
    | refine J.reg ?_
    | refine J.seq ?_
    | refine J.condF rfl ?_
    | refine J.skip ?_
  refine W.call (errorsas_is (n := n) hg) (ks := [bq, 0]) rfl rfl rfl rfl fun v N hh => ?_
  obtain ⟨rfl, rfl⟩ := hh
  simp only [List.cons_append, List.nil_append]
  repeat' first
    | refine W.pure rfl rfl rfl rfl ?_
    | refine W.ldV rfl rfl rfl rfl rfl rfl ?_
    | refine W.nil ?_
    | refine J.reg ?_
    | refine J.seq ?_
    | refine J.condT rfl ?_
  exact J.retF [0] (res1 rfl rfl) rfl
end Go.Proofs.YtphnadpmpcifoaaDoor
/-
  Package grow: the errors.
-/
namespace Go.Proofs.YtphnadpmpcifoaaDoor
open Go.Sq Go.Qm
attribute [local irreducible] SW J T.lev T.ok T.k0 T.k1 T.k2 T.k3 T.cells num T.ctr T.grow T.growNew T.wide T.wideNew T.empty T.emptyNew T.many
set_option maxHeartbeats 8000000
set_option maxRecDepth 10000
section
variable {s room g b l n : Nat} {U ts : List T}
theorem Center_nil {id : Int} : CallF P 5 [.pointer none, int id] [] (.tuple #[int 0, err 1]) [] := by
  refine callR_of Tryd.func5 rfl Tryd.ntmps5 rfl fun σ F => ?_
  repeat' first
    | (show W _ _ _ _ _ (_ :: _) _ _ _; first
      | refine W.pure rfl rfl rfl rfl ?_
      | refine W.eqPtNil rfl rfl rfl ?_
      | refine W.makeInterface rfl rfl rfl rfl ?_)
    | refine W.nil ?_
    | refine J.reg ?_
    | refine J.seq ?_
    | refine J.condT rfl ?_
  exact J.retF [] (res2 rfl rfl rfl) rfl
theorem Wide_nil {id : Int} : CallF P 7 [.pointer none, int id] [] (.tuple #[int 0, err 1]) [] := by
  refine callR_of Tryd.func7 rfl Tryd.ntmps7 rfl fun σ F => ?_
  repeat' first
    | (show W _ _ _ _ _ (_ :: _) _ _ _; first
      | refine W.pure rfl rfl rfl rfl ?_
      | refine W.eqPtNil rfl rfl rfl ?_
      | refine W.makeInterface rfl rfl rfl rfl ?_)
    | refine W.nil ?_
    | refine J.reg ?_
    | refine J.seq ?_
    | refine J.condT rfl ?_
  exact J.retF [] (res2 rfl rfl rfl) rfl
theorem Grow_nil {id j : Int} : CallF P 6 [.pointer none, int id, int j] [] (.tuple #[int 0, err 1]) [] := by
  refine callR_of Tryd.func6 rfl Tryd.ntmps6 rfl fun σ F => ?_
  repeat' first
    | (show W _ _ _ _ _ (_ :: _) _ _ _; first
      | refine W.pure rfl rfl rfl rfl ?_
      | refine W.eqPtNil rfl rfl rfl ?_
      | refine W.makeInterface rfl rfl rfl rfl ?_)
    | refine W.nil ?_
    | refine J.reg ?_
    | refine J.seq ?_
    | refine J.condT rfl ?_
  exact J.retF [] (res2 rfl rfl rfl) rfl
theorem Center_leaf {id : Int} {t : T} (hi : Is ts id t) (hl : t.lev = 3) : CallF P 5 [ptr g, int id] [(g, gwP g s b l n ts), (s, treeP s room ts)] (.tuple #[int 0, err 1]) [(g, gwP g s b l n ts), (s, treeP s room ts)] := by
  refine callR_of Tryd.func5 rfl Tryd.ntmps5 rfl fun σ F => ?_
  refine J.openG g fun bk es clk h1 h2 => ?_
  repeat' first
    | (show W _ _ _ _ _ (_ :: _) _ _ _; first
      | refine W.call1 (Level_is hi) rfl rfl rfl ?_
      | refine W.pure rfl rfl rfl rfl ?_
      | refine W.ldV rfl rfl rfl rfl rfl rfl ?_
      | refine W.cmpT rfl rfl rfl rfl (by simp only [cmpP]; first | done | omega) ?_
      | refine W.fieldAddr0 rfl rfl rfl rfl rfl ?_
      | refine W.neIfNilT rfl rfl rfl ?_
      | refine W.eqPtNil rfl rfl rfl ?_
      | refine W.makeInterface rfl rfl rfl rfl ?_)
    | refine W.nil ?_
    | refine J.reg ?_
    | refine J.seq ?_
    | refine J.condT rfl ?_
    | refine J.condF rfl ?_
    | refine J.block ?_
    | refine J.skip ?_
  refine J.shutG g bk h1 h2 ?_
  exact J.retF [g, s] (res2 rfl rfl rfl) rfl
theorem Grow_leaf {id j : Int} {t : T} (hi : Is ts id t) (hl : t.lev = 3) : CallF P 6 [ptr g, int id, int j] [(g, gwP g s b l n ts), (s, treeP s room ts)] (.tuple #[int 0, err 1]) [(g, gwP g s b l n ts), (s, treeP s room ts)] := by
  refine callR_of Tryd.func6 rfl Tryd.ntmps6 rfl fun σ F => ?_
  refine J.openG g fun bk es clk h1 h2 => ?_
  repeat' first
    | (show W _ _ _ _ _ (_ :: _) _ _ _; first
      | refine W.call1 (Level_is hi) rfl rfl rfl ?_
      | refine W.pure rfl rfl rfl rfl ?_
      | refine W.ldV rfl rfl rfl rfl rfl rfl ?_
      | refine W.cmpT rfl rfl rfl rfl (by simp only [cmpP]; first | done | omega) ?_
      | refine W.fieldAddr0 rfl rfl rfl rfl rfl ?_
      | refine W.skip rfl rfl ?_
      | refine W.neIfNilT rfl rfl rfl ?_
      | refine W.eqPtNil rfl rfl rfl ?_
      | refine W.makeInterface rfl rfl rfl rfl ?_)
    | refine W.nil ?_
    | refine J.reg ?_
    | refine J.seq ?_
    | refine J.condT rfl ?_
    | refine J.condF rfl ?_
    | refine J.block ?_
    | refine J.skip ?_
  refine J.shutG g bk h1 h2 ?_
  exact J.retF [g, s] (res2 rfl rfl rfl) rfl
theorem Center_isnt {id : Int} (hi : id < 1 ∨ (ts.length : Int) < id) : CallF P 5 [ptr g, int id] [(g, gwP g s b l n ts), (s, treeP s room ts)] (.tuple #[int 0, err 8]) [(g, gwP g s b l n ts), (s, treeP s room ts)] := by
  refine callR_of Tryd.func5 rfl Tryd.ntmps5 rfl fun σ F => ?_
  refine J.openG g fun bk es clk h1 h2 => ?_
  repeat' first
    | (show W _ _ _ _ _ (_ :: _) _ _ _; first
      | refine W.call1 (Level_isnt hi) rfl rfl rfl ?_
      | refine W.pure rfl rfl rfl rfl ?_
      | refine W.ldV rfl rfl rfl rfl rfl rfl ?_
      | refine W.fieldAddr0 rfl rfl rfl rfl rfl ?_
      | refine W.neIfNilF rfl rfl rfl ?_
      | refine W.eqPtNil rfl rfl rfl ?_)
    | refine W.nil ?_
    | refine J.reg ?_
    | refine J.seq ?_
    | refine J.condT rfl ?_
    | refine J.condF rfl ?_
    | refine J.block ?_
    | refine J.skip ?_
  refine J.shutG g bk h1 h2 ?_
  exact J.retF [g, s] (res2 rfl rfl rfl) rfl
theorem Wide_isnt {id : Int} (hi : id < 1 ∨ (ts.length : Int) < id) : CallF P 7 [ptr g, int id] [(g, gwP g s b l n ts), (s, treeP s room ts)] (.tuple #[int 0, err 8]) [(g, gwP g s b l n ts), (s, treeP s room ts)] := by
  refine callR_of Tryd.func7 rfl Tryd.ntmps7 rfl fun σ F => ?_
  refine J.openG g fun bk es clk h1 h2 => ?_
  repeat' first
    | (show W _ _ _ _ _ (_ :: _) _ _ _; first
      | refine W.call1 (Level_isnt hi) rfl rfl rfl ?_
      | refine W.pure rfl rfl rfl rfl ?_
      | refine W.ldV rfl rfl rfl rfl rfl rfl ?_
      | refine W.fieldAddr0 rfl rfl rfl rfl rfl ?_
      | refine W.neIfNilF rfl rfl rfl ?_
      | refine W.eqPtNil rfl rfl rfl ?_)
    | refine W.nil ?_
    | refine J.reg ?_
    | refine J.seq ?_
    | refine J.condT rfl ?_
    | refine J.condF rfl ?_
    | refine J.block ?_
    | refine J.skip ?_
  refine J.shutG g bk h1 h2 ?_
  exact J.retF [g, s] (res2 rfl rfl rfl) rfl
theorem Grow_isnt {id j : Int} (hi : id < 1 ∨ (ts.length : Int) < id) : CallF P 6 [ptr g, int id, int j] [(g, gwP g s b l n ts), (s, treeP s room ts)] (.tuple #[int 0, err 8]) [(g, gwP g s b l n ts), (s, treeP s room ts)] := by
  refine callR_of Tryd.func6 rfl Tryd.ntmps6 rfl fun σ F => ?_
  refine J.openG g fun bk es clk h1 h2 => ?_
  repeat' first
    | (show W _ _ _ _ _ (_ :: _) _ _ _; first
      | refine W.call1 (Level_isnt hi) rfl rfl rfl ?_
      | refine W.pure rfl rfl rfl rfl ?_
      | refine W.ldV rfl rfl rfl rfl rfl rfl ?_
      | refine W.fieldAddr0 rfl rfl rfl rfl rfl ?_
      | refine W.neIfNilF rfl rfl rfl ?_
      | refine W.eqPtNil rfl rfl rfl ?_)
    | refine W.nil ?_
    | refine J.reg ?_
    | refine J.seq ?_
    | refine J.condT rfl ?_
    | refine J.condF rfl ?_
    | refine J.block ?_
    | refine J.skip ?_
  refine J.shutG g bk h1 h2 ?_
  exact J.retF [g, s] (res2 rfl rfl rfl) rfl
end
end Go.Proofs.YtphnadpmpcifoaaDoor
/-
  The law GrowErrors answers true.
-/
namespace Go.Proofs.YtphnadpmpcifoaaDoor
open Go.Sq Go.Qm
attribute [local irreducible] SW J T.lev T.ok T.k0 T.k1 T.k2 T.k3 T.cells T.ctr T.grow T.growNew T.wide T.wideNew T.empty T.emptyNew T.many
set_option maxHeartbeats 8000000
set_option maxRecDepth 10000
theorem growErrors_is {b l : Nat} (hb : b < 65536) (hl : l < 65536) {id j : Int} (hid : i64 id) {cg : Array Value} {Tg : TypeId} {fg : Nat × Nat} (hg : cg.toList[0]? = some (rty 27)) :
    CallF P 3 [ruleV b l, int id, int j] [(0, pts 0 (.cells cg Tg fg))] (.bool true) [(0, pts 0 (.cells cg Tg fg))] := by
  have n1 := num_is (n := 1) (Tg := Tg) (fg := fg) hg
  have n8 := num_is (n := 8) (Tg := Tg) (fg := fg) hg
  have n11 := num_is (n := 11) (Tg := Tg) (fg := fg) hg
  refine callR_of Tryd.func3 rfl Tryd.ntmps3 rfl fun σ F => ?_
  repeat' first
    | (show W _ _ _ _ _ (_ :: _) _ _ _; first
      | refine W.call0 Center_nil rfl rfl rfl ?_
      | refine W.call0 Grow_nil rfl rfl rfl ?_
      | refine W.call0 Wide_nil rfl rfl rfl ?_
      | refine W.call0 (GNew_nil (b := 0) (l := 0)) rfl rfl rfl ?_
      | refine W.pure rfl rfl rfl rfl ?_
      | refine W.boxA rfl rfl rfl (fun bq => ?_)
      | refine W.build rfl rfl rfl ?_)
    | refine W.nil ?_
    | refine J.reg ?_
    | refine J.seq ?_
  refine W.call (QNew_is (room := 100) (by omega) (by omega)) (ks := []) rfl rfl rfl rfl fun v N hh => ?_
  obtain ⟨s, rfl, rfl⟩ := hh
  simp only [List.cons_append, List.nil_append]
  by_cases hr : RuleOk b l
  · have hlv : (T.leaf 5).lev = 3 := by simp only [T.lev]
    have ul : (T.leaf 5 :: T.wideNew (T.leaf 5)).length ≤ 100 := by
      have := wideNew_len (t := T.leaf 5) (by omega)
      simp only [List.length_cons]; omega
    have i0 : Inv 100 (T.leaf 5 :: T.wideNew (T.leaf 5)) [] := inv_nil ul (by omega)
    have hL := Leaf_is (s := s) (t := 5) i0 (List.mem_cons_self ..) (by omega)
    have i1 : Inv 100 (T.leaf 5 :: T.wideNew (T.leaf 5)) [T.leaf 5] := i0.put (List.mem_cons_self ..) trivial (by simp only [T.ok]; omega) (by omega)
    have e1 : Qm.put [] (T.leaf 5) = [T.leaf 5] := rfl
    have e2 : Qm.num [T.leaf 5] (T.leaf 5) = 1 := by unfold Qm.num; simp
    rw [e1, e2] at hL
    have j1 : Is [T.leaf 5] 1 (.leaf 5) := ⟨by omega, rfl⟩
    repeat' first
      | (show W _ _ _ _ _ (_ :: _) _ _ _; first
        | refine W.call1 n1 rfl rfl rfl ?_
        | refine W.call0 Known_nil rfl rfl rfl ?_
        | refine W.pure rfl rfl rfl rfl ?_
        | refine W.cmpF rfl rfl rfl rfl (by simp only [cmpN]; first | done | omega) ?_
        | refine W.ldaV rfl rfl rfl rfl rfl rfl ?_
        | refine W.neIfNilT rfl rfl rfl ?_)
      | refine W.nil ?_
      | refine J.reg ?_
      | refine J.seq ?_
      | refine J.condF rfl ?_
      | refine J.skip ?_
    refine W.call (GNew_is (s := s) hr (okG b l [T.leaf 5])) (ks := []) rfl rfl rfl rfl fun v N hh => ?_
    obtain ⟨g, rfl, rfl⟩ := hh
    simp only [List.cons_append, List.nil_append]
    have cx := Center_leaf (g := g) (s := s) (room := 100) (b := b) (l := l) (n := 0) j1 hlv
    have gx := Grow_leaf (g := g) (s := s) (room := 100) (b := b) (l := l) (n := 0) (j := j) j1 hlv
    by_cases h1 : id = 1
    · subst h1
      have wx := Wide_is (g := g) (s := s) (b := b) (l := l) (n := 0) i1 j1 (by omega) (fun u hu => List.mem_cons_of_mem _ hu)
      repeat' first
        | (show W _ _ _ _ _ (_ :: _) _ _ _; first
          | refine W.call0 (May_ok hr) rfl rfl rfl ?_
          | refine W.not rfl rfl rfl ?_
          | refine W.call1 hL rfl rfl rfl ?_
          | refine W.call1 Known_is rfl rfl rfl ?_
          | refine W.call2 cx rfl rfl rfl ?_
          | refine W.call2 gx rfl rfl rfl ?_
          | refine W.wk wx rfl rfl rfl (fun ts2 o2 S2 j2 => ?_)
          | refine W.call1 n1 rfl rfl rfl ?_
          | refine W.call0 sure_is rfl rfl rfl ?_
          | refine W.pure rfl rfl rfl rfl ?_
          | refine W.cmpT rfl rfl rfl rfl (by simp only [cmpP]; first | done | omega) ?_
          | refine W.cmpF rfl rfl rfl rfl (by simp only [cmpN]; first | done | omega) ?_
          | refine W.ldaV rfl rfl rfl rfl rfl rfl ?_
          | refine W.neIfNilT rfl rfl rfl ?_
          | refine W.eqIfNilT rfl rfl rfl ?_)
        | refine W.nil ?_
        | refine J.reg ?_
        | refine J.seq ?_
        | refine J.condF rfl ?_
        | refine J.skip ?_
      exact J.retF [0] (res1 rfl rfl) rfl
    · have hn : id < 1 ∨ (([T.leaf 5] : List T).length : Int) < id := by simp; omega
      have ci := Center_isnt (g := g) (s := s) (room := 100) (b := b) (l := l) (n := 0) hn
      have gi := Grow_isnt (g := g) (s := s) (room := 100) (b := b) (l := l) (n := 0) (j := j) hn
      have wi := Wide_isnt (g := g) (s := s) (room := 100) (b := b) (l := l) (n := 0) hn
      repeat' first
        | (show W _ _ _ _ _ (_ :: _) _ _ _; first
          | refine W.call0 (May_ok hr) rfl rfl rfl ?_
          | refine W.not rfl rfl rfl ?_
          | refine W.call1 hL rfl rfl rfl ?_
          | refine W.call1 Known_is rfl rfl rfl ?_
          | refine W.call2 cx rfl rfl rfl ?_
          | refine W.call2 gx rfl rfl rfl ?_
          | refine W.call2 ci rfl rfl rfl ?_
          | refine W.call2 gi rfl rfl rfl ?_
          | refine W.call2 wi rfl rfl rfl ?_
          | refine W.call1 n1 rfl rfl rfl ?_
          | refine W.call1 n8 rfl rfl rfl ?_
          | refine W.call0 sure_is rfl rfl rfl ?_
          | refine W.pure rfl rfl rfl rfl ?_
          | refine W.cmpT rfl rfl rfl rfl (by simp only [cmpP]; first | done | omega) ?_
          | refine W.cmpF rfl rfl rfl rfl (by simp only [cmpN]; first | done | omega) ?_
          | refine W.ldaV rfl rfl rfl rfl rfl rfl ?_
          | refine W.neIfNilT rfl rfl rfl ?_)
        | refine W.nil ?_
        | refine J.reg ?_
        | refine J.seq ?_
        | refine J.condT rfl ?_
        | refine J.condF rfl ?_
        | refine J.skip ?_
      exact J.retF [0] (res1 rfl rfl) rfl
  · repeat' first
      | (show W _ _ _ _ _ (_ :: _) _ _ _; first
        | refine W.call1 n1 rfl rfl rfl ?_
        | refine W.call0 Known_nil rfl rfl rfl ?_
        | refine W.call0 (GNew_bad hb hl hr) rfl rfl rfl ?_
        | refine W.call0 (May_no hr) rfl rfl rfl ?_
        | refine W.not rfl rfl rfl ?_
        | refine W.call1 n11 rfl rfl rfl ?_
        | refine W.call0 sure_is rfl rfl rfl ?_
        | refine W.pure rfl rfl rfl rfl ?_
        | refine W.cmpT rfl rfl rfl rfl (by simp only [cmpP]; first | done | omega) ?_
        | refine W.cmpF rfl rfl rfl rfl (by simp only [cmpN]; first | done | omega) ?_
        | refine W.ldaV rfl rfl rfl rfl rfl rfl ?_
        | refine W.neIfNilT rfl rfl rfl ?_
        | refine W.eqPtNil rfl rfl rfl ?_)
      | refine W.nil ?_
      | refine J.reg ?_
      | refine J.seq ?_
      | refine J.condT rfl ?_
      | refine J.condF rfl ?_
      | refine J.skip ?_
    exact J.retF [0] (res1 rfl rfl) rfl
end Go.Proofs.YtphnadpmpcifoaaDoor
/-
  From a call's contract over symbolic heaps to a row: what came in is as it was.
-/
namespace Go.Sq
open Go.RowKit Go.ChangeShapes
/-- All that came in, but for one block. -/
def restP (W : World) (len bl : Nat) : HP := fun h => ∀ b, h b = if 0 < len ∧ b = bl then none else W.heap[b]?
theorem strOf_below {W W' : World} (hs : strOf W' = strOf W) (hz : ∀ k, k < W.heap.size → W'.heap[k]? = W.heap[k]?) : Below W.heap.size W W' where
  os := by have := congrArg Str.os hs; exact this
  tape := by have := congrArg Str.tape hs; exact this
  output := by have := congrArg Str.output hs; exact this
  size := by
    rcases Nat.eq_zero_or_pos W.heap.size with h | h
    · omega
    · have h1 := hz (W.heap.size - 1) (by omega)
      have h2 : W.heap[W.heap.size - 1]? = some W.heap[W.heap.size - 1] := Array.getElem?_eq_getElem (by omega)
      have := (Array.getElem?_eq_some_iff.1 (h1.trans h2)).1
      omega
  block := hz
end Go.Sq
namespace Go.Proofs.YtphnadpmpcifoaaDoor
open Go.Sq Go.Qm Go.RowKit Go.ChangeShapes
theorem sat_start {W : World} {len bl : Nat} {c : Array Value} {T : TypeId} {fz : Nat × Nat} (h : 0 < len → W.heap[bl]? = some (.cells c T fz)) : Sat (strOf W) W ([(bl, sliP len bl c T fz)] ++ [(0, restP W len bl)]) := by
  refine ⟨rfl, fun b => W.heap[b]?, ?_, fun b o e => e⟩
  refine ⟨fun b => if 0 < len ∧ b = bl then W.heap[b]? else none, fun b => if 0 < len ∧ b = bl then none else W.heap[b]?, fun b => ?_, ?_, ?_, ?_⟩
  · by_cases hb : 0 < len ∧ b = bl
    · right; simp [hb]
    · left; simp [hb]
  · funext b
    unfold Un
    by_cases hb : 0 < len ∧ b = bl
    · simp only [hb, and_self, if_true]
      cases W.heap[bl]? <;> rfl
    · simp only [hb, if_false]
  · show sliP len bl c T fz _
    unfold sliP
    by_cases hl : len = 0
    · rw [if_pos hl]
      intro b
      have : ¬ (0 < len ∧ b = bl) := by omega
      simp [this]
    · rw [if_neg hl]
      intro b
      by_cases hb : b = bl
      · subst hb
        have : 0 < len := by omega
        simp [this, h this]
      · simp [hb]
  · exact ⟨_, fun _ => none, fun _ => .inr rfl, by
      funext b
      unfold Un
      dsimp only
      split
      · rfl
      · cases W.heap[b]? <;> rfl, fun b => rfl, fun _ => rfl⟩
theorem sat_end {W W' : World} {len bl : Nat} {c : Array Value} {T : TypeId} {fz : Nat × Nat} (h : 0 < len → W.heap[bl]? = some (.cells c T fz)) (hs : Sat (strOf W) W' ([(bl, sliP len bl c T fz)] ++ [(0, restP W len bl)])) : Below W.heap.size W W' := by
  obtain ⟨e, p, ⟨h1, h2, _, rfl, a, h3, h4, _, rfl, b, _⟩, hw⟩ := hs
  refine strOf_below e fun k hk => ?_
  have hkk : W.heap[k]? = some W.heap[k] := Array.getElem?_eq_getElem hk
  by_cases hb : 0 < len ∧ k = bl
  · obtain ⟨hl, rfl⟩ := hb
    have a : sliP len k c T fz h1 := a
    unfold sliP at a
    rw [if_neg (by omega)] at a
    have ha := a k
    rw [if_pos rfl] at ha
    rw [h hl]
    exact hw k _ (un_left ha)
  · have b : restP W len bl h3 := b
    have hb3 := b k
    rw [if_neg hb] at hb3
    have ha : h1 k = none := by
      have a : sliP len bl c T fz h1 := a
      unfold sliP at a
      split at a
      · exact a k
      · have := a k
        rw [this, if_neg]
        intro hc
        exact hb ⟨by omega, hc⟩
    rw [hkk]
    refine hw k _ ?_
    rw [un_right ha]
    exact un_left (hb3.trans hkk)
section
variable {H : Type} {enc : TypeId × Value → H} {P : Program}
theorem post_of_below {f : Func} {s : ChangeSpec} {apart fresh handsOn again : Bool} {W W' : World} {args : Array Value} {v : Value} {ds gs : List (DataW H)} {before pa pv : List MemPlace}
    (hW : DataW.Whole enc P f.params.toList s.vars apart W args.toList ds gs before)
    (hres : ∀ (b : Nat) (sp : Nat → Bool) (hd : Bool), DataW.TrodAll enc P W' b sp hd f.resultTypes.toList (v.resultList f.resultTypes.size) (s.fn H (ds ++ gs)).results [])
    (hargs : ∀ sp : Nat → Bool, (∀ p ∈ before, sp p.block = true) → DataW.TrodAll enc P W' 0 sp true f.params.toList args.toList (s.fn H (ds ++ gs)).args pa)
    (hvars : ∀ sp : Nat → Bool, (∀ p ∈ before, sp p.block = true) → DataW.TrodVars enc P W' sp s.vars (s.fn H (ds ++ gs)).vars pv)
    (hps : before = pa ++ pv) (hb : Below W.heap.size W W')
    (hok : ∀ (j : Nat) (t : TypeId) (r : Value), f.resultTypes[j]? = some t → (v.resultList f.resultTypes.size)[j]? = some r → Value.okWide P W' .any 0 t r) :
    s.post enc P f apart fresh handsOn again W args v W' := by
  have hold : ∀ p ∈ before, (fun b => decide (b < W.heap.size)) p.block = true := fun p hp => by simpa using hW.lt p hp
  have hlt := hW.lt
  refine ⟨ds, gs, before, [], pa, pv, hW, hres _ _ _, hargs _ hold, hvars _ hold, World.keptBut_mono (fun p hp => ⟨hp, ?_⟩) (hb.frame (· ∈ before)), fun _ => ?_⟩
  · rw [hps, List.mem_append] at hp
    exact Or.inr hp
  · obtain ⟨_, _, _, _, _, hz, hn⟩ := hW
    refine ⟨hok, _, _, ([] ++ pa) ++ pv, ⟨[] ++ pa, pv, trodAll_append (hargs _ (fun _ _ => rfl)) (hres _ _ _), hvars _ (fun _ _ => rfl), rfl, ?_, ?_⟩, ?_⟩
    · intro b off hp
      have hp' : MemPlace.cell b off ∈ before := by rw [hps]; simpa using hp
      have := hlt _ hp'
      rw [hb.frozen this]
      exact hz b off hp'
    · intro ha
      have := hn ha
      rw [hps] at this
      simpa using this
    · intro p hp _
      rw [hps]
      simpa using hp
theorem cell_block {W : World} {a : Addr} {v : Value} (h : W.cell? a = some v) : ∃ c T fz, W.heap[a.block]? = some (.cells c T fz) ∧ a.spot = none ∧ c[a.off]? = some v := by
  unfold World.cell? at h
  split at h
  · rename_i c T fz hb
    split at h
    · cases h
    · rename_i hs
      exact ⟨c, T, fz, hb, by simpa using hs, h⟩
  · cases h
open Go.WideShapes in
set_option maxRecDepth 100000 in
/-- A slice of numbers that came in. -/
theorem slice_open {W : World} {base : Nat} {v : Value} {d : DataW H} {p : List MemPlace} (hval : Value.okWide Tryd.prog W .any base 45 v) (h : DataW.Trod enc Tryd.prog W 0 (fun _ => true) true 45 v d p) :
    ∃ (av : Option Addr) (len cap bl off : Nat) (c : Array Value) (T0 : TypeId) (fz : Nat × Nat) (z : Nat → Nat), v = .slice av len cap ∧ (0 < len → av = some ⟨bl, off, none⟩) ∧ len ≤ 9223372036854775807 ∧
      (∀ i, i < len → c.toList[off + i * 1]? = some (u64v (z i)) ∧ z i < 18446744073709551616) ∧ (0 < len → W.heap[bl]? = some (.cells c T0 fz)) := by
  obtain ⟨a0, len, cap, rfl⟩ := okWide_slice Tryd.underlying45 hval
  obtain ⟨fuel, hf⟩ := h
  rcases open_ints Tryd.underlying45 Tryd.underlying42 (by kernel_rfl) hf with ⟨hcs, hx⟩ | ⟨a, len', cap', zs, hcs, _, hl, hm, hz, hx, hcell, hwz⟩
  · simp [Value.cells] at hcs
    obtain ⟨rfl, rfl, rfl⟩ := hcs
    exact ⟨none, 0, 0, 0, 0, #[], 0, (0, 0), fun _ => 0, rfl, by omega, by omega, fun i hi => by omega, by omega⟩
  · simp [Value.cells] at hcs
    obtain ⟨rfl, rfl, rfl⟩ := hcs
    simp only [if_true] at hz
    have hml : maxLen ≤ 9223372036854775807 := by unfold maxLen; omega
    by_cases h0 : len = 0
    · subst h0
      exact ⟨some a, 0, cap, 0, 0, #[], 0, (0, 0), fun _ => 0, rfl, by omega, by omega, fun i hi => by omega, by omega⟩
    · have hc0 := hcell 0 (by omega)
      obtain ⟨c, T0, fz, hb, hs, _⟩ := cell_block hc0
      have ha0 : a.add 0 = a := by unfold Addr.add; rfl
      rw [ha0] at hb hs
      refine ⟨some a, len, cap, a.block, a.off, c, T0, fz, fun i => (zs.getD i 0).toNat, rfl, fun _ => by cases a; simp_all, by omega, fun i hi => ?_, fun _ => hb⟩
      have hci := hcell i (by omega)
      obtain ⟨c', T', fz', hb', _, hv⟩ := cell_block hci
      have hblk : (a.add i).block = a.block := by unfold Addr.add; split <;> rfl
      have hoff : (a.add i).off = a.off + i * 1 := by unfold Addr.add; split <;> simp_all
      rw [hblk, hb] at hb'
      obtain ⟨rfl, rfl, rfl⟩ := by simpa using hb'
      rw [hoff] at hv
      have hmem : zs.getD i 0 ∈ zs := by
        rw [List.getD_eq_getElem?_getD, List.getElem?_eq_getElem (by omega)]
        exact List.getElem_mem _
      have hw := hwz _ hmem
      show c.toList[a.off + i * 1]? = some (u64v (zs.getD i 0).toNat) ∧ (zs.getD i 0).toNat < 18446744073709551616
      generalize zs.getD i 0 = n at hv hw ⊢
      simp [Lit.wf, IntKind.min, IntKind.max, IntKind.signed, IntKind.bits] at hw
      have e : ((n.toNat : Nat) : Int) = n := by omega
      refine ⟨?_, by omega⟩
      show c.toList[a.off + i * 1]? = some (Value.int .u64 ((n.toNat : Nat) : Int))
      rw [e, Array.getElem?_toList]
      exact hv
theorem u16_open {n : Int} (h : (Lit.int .u16 n).wf = true) : ∃ m : Nat, n = m ∧ m < 65536 := by
  simp [Lit.wf, IntKind.min, IntKind.max, IntKind.signed, IntKind.bits] at h
  exact ⟨n.toNat, by omega, by omega⟩
theorem own : ownKnob Tryd.prog.godebug = none := by kernel_rfl
theorem laidOut : laidOutB Tryd.prog = true := by kernel_rfl
end
end Go.Proofs.YtphnadpmpcifoaaDoor
namespace Go.Proofs.YtphnadpmpcifoaaDoor
open Go.Sq Go.Qm Go.ChangeShapes Go.WideShapes Go.ChangeAt Go.RowKit Go.Joins

abbrev laidL {H : Type} : List (String × DataW H) := [("errors.errorType", Rows.laid_errors_errorType)]
theorem laid_et : Tryd.prog.globalNamed "errors.errorType" = some 0 := by kernel_rfl
theorem laid_rt : (Tryd.prog.cutTypes.find? (·.1 == "internal/reflectlite.rtype")).map (·.2) = some 132 := by kernel_rfl
theorem laid_oneRow : ((List.range 181).filter fun t => Tryd.prog.rowNamed t [101, 114, 114, 111, 114]) = [27] := by kernel_rfl
theorem laid_size : Tryd.prog.types.size = 181 := by kernel_rfl

theorem handle_of_laid {W : World} (h : laidMetH Tryd.prog [("errors.errorType", Rows.laid_errors_errorType)] W) : W.cell? ⟨0, 0, none⟩ = some (rty 27) := by
  have h' : laidMet Tryd.prog [] W ∧ handlesMet Tryd.prog [("errors.errorType", Rows.laid_errors_errorType)] W := h
  obtain ⟨name, u, ty, e1, e2, e3, e4, e5⟩ := h'.2 _ (List.mem_singleton.2 rfl)
  have en : name = [101, 114, 114, 111, 114] := (Option.some.inj e1).symm
  subst en
  obtain rfl := Option.some.inj (laid_rt.symm.trans e2)
  have hm : ty ∈ (List.range 181).filter fun t => Tryd.prog.rowNamed t [101, 114, 114, 111, 114] := List.mem_filter.2 ⟨List.mem_range.2 (by rw [← laid_size]; exact e3), e4⟩
  rw [laid_oneRow] at hm
  obtain rfl := List.mem_singleton.1 hm
  have hh : typeHandle Tryd.prog 27 = hdl 27 := by kernel_rfl
  rw [hh] at e5
  simpa using World.var?_cell laid_et e5 0

noncomputable def laidWorld (os : Os) : World :=
  let w0 := World.holding Tryd.prog os ⟨#[], #[], []⟩
  { w0 with heap := w0.heap.modify 0 fun
      | .cells _ t frozen => .cells #[rty 27] t frozen
      | o => o }
theorem laidWorld_met (os : Os) (args : Array Value) : laidMetH Tryd.prog [("errors.errorType", Rows.laid_errors_errorType)] ((laidWorld os).forCall (fun _ _ => 0) ⟨#[], args, []⟩).memory :=
  laidMetH_of_parts (laidMet_nil _ _) (by kernel_rfl)

set_option maxRecDepth 100000 in
theorem growErrors_lifted (os : Os) (started : os.Started) (H : Type) (enc : TypeId × Value → H) :
    ReturnsInHanded {} Tryd.checked os 3 .any (fun w args => (Rows.growErrorsSpec.pre enc Tryd.prog Tryd.f3 [] false w args ∧ laidMetH Tryd.prog [("errors.errorType", Rows.laid_errors_errorType)] w) ∧ sizedMet enc Tryd.prog Tryd.f3 (OpenSpec.ofChange Rows.growErrorsSpec) false w args)
      (Rows.growErrorsSpec.post enc Tryd.prog Tryd.f3 false true false false) := by
  refine returnsInHanded_of_change_and (C := Tryd.checked) (X := fun w _ => laidMetH Tryd.prog [("errors.errorType", Rows.laid_errors_errorType)] w) (fun _ _ _ hh h => h.of_heap hh) own started (by kernel_rfl) Tryd.func3
    (ChangeSpec.witness_at (enc := enc) (C := Tryd.checked) (os := os) (X := fun w _ => laidMetH Tryd.prog [("errors.errorType", Rows.laid_errors_errorType)] w) false (laidWorld os) #[.agg #[.int .u16 0, .int .u16 0], .int .i64 0, .int .i64 0] 8 rfl (by kernel_rfl) (by kernel_rfl) (by kernel_rfl) (by kernel_rfl) (by kernel_rfl) (laidWorld_met os _)) ?_
  intro W base args ds gs before hval0 hW _ _ hL _
  have hval : ∀ (j : Nat) t v, Tryd.f3.params[j]? = some t → args[j]? = some v → Value.okWide Tryd.prog W .any base t v := hval0
  have hW' := hW
  obtain ⟨p, q, hA0, hV, rfl, hfz, hnd⟩ := hW
  have hA : DataW.TrodAll enc Tryd.prog W 0 (fun _ => true) true Tryd.f3.params.toList args.toList ds p := hA0
  rw [Tryd.params3] at hA hval
  obtain ⟨v0, v1, v2, d0, d1, d2, p0, p1, p2, rfl, rfl, rfl, h0, h1, h2⟩ := trodAll_three hA
  obtain ⟨rfl, rfl⟩ := trodVars_none hV
  have k0 := h0; have k1 := h1; have k2 := h2
  obtain ⟨c0, c1, y0, y1, _, rfl, rfl, rfl, hy0, hy1⟩ := open_agg2 Tryd.underlying24 (by kernel_rfl) (by kernel_rfl) (hval 0 24 v0 rfl rfl) h0
  obtain ⟨rb, e0, rfl, wb⟩ := DataW.trod_int Tryd.underlying22 hy0
  obtain ⟨rl, e1, rfl, wl⟩ := DataW.trod_int Tryd.underlying22 hy1
  simp at e0 e1
  subst e0 e1
  obtain ⟨b, rfl, hb⟩ := u16_open wb
  obtain ⟨l, rfl, hl⟩ := u16_open wl
  obtain ⟨id, rfl, rfl, rfl, wi⟩ := open_int Tryd.underlying3 (hval 1 3 v1 rfl rfl) h1
  obtain ⟨j, rfl, rfl, rfl, wj⟩ := open_int Tryd.underlying3 (hval 2 3 v2 rfl rfl) h2
  clear hA0 hval0
  simp only [List.append_nil] at hW'
  have hlt := hW'.lt
  have hid : i64 id := by
    simp [Lit.wf, IntKind.min, IntKind.max, IntKind.signed, IntKind.bits] at wi
    exact wi
  obtain ⟨c, T, fz, hblk, _, hcell⟩ := cell_block (handle_of_laid hL)
  have hblk1 : 0 < 1 → W.heap[0]? = some (.cells c T fz) := fun _ => hblk
  have hcg : c.toList[0]? = some (rty 27) := by rw [Array.getElem?_toList]; exact hcell
  have h9 := growErrors_is (j := j) (Tg := T) (fg := fz) hb hl hid hcg
  rw [← sliP_pos (len := 1) (by omega)] at h9
  refine (h9 (strOf W) [(0, restP W 1 0)] W (sat_start hblk1)).mono fun e W' hh => ?_
  obtain ⟨v, N', ⟨rfl, rfl⟩, rfl, hs⟩ := hh
  have hbe := sat_end hblk1 hs
  have st : ∀ {t : TypeId} {v : Value} {d : DataW H} {ps : List MemPlace} {sp : Nat → Bool}, Tryd.prog.readableRec t = true → t < Tryd.prog.types.size → DataW.Trod enc Tryd.prog W 0 (fun _ => true) true t v d ps → (∀ x ∈ ps, x.block < W.heap.size ∧ sp x.block = true) → DataW.Trod enc Tryd.prog W' 0 sp true t v d ps :=
    fun h1 h2 h3 h4 => WideElems.Trod_stays laidOut h1 h2 h3 (fun x hx => hbe.same (h4 x hx).1) (fun x hx => (h4 x hx).2)
  exact ⟨_, rfl, post_of_below (pv := []) hW' (fun _ _ _ => trodAll_mk1 (shut_bool Tryd.underlying4 _))
    (fun sp hsp => trodAll_mk3 (st (by kernel_rfl) (of_decide_eq_true (by kernel_rfl)) k0 (fun x hx => by simp at hx)) (st (by kernel_rfl) (of_decide_eq_true (by kernel_rfl)) k1 (fun x hx => by simp at hx)) (st (by kernel_rfl) (of_decide_eq_true (by kernel_rfl)) k2 (fun x hx => by simp at hx)))
    (fun _ _ => rfl) (by simp) hbe (ok_one (by kernel_rfl) rfl (okWide_bool_mk Tryd.underlying4 _))⟩

theorem growErrors_row_holds : Rows.GrowErrorsSaid :=
  OpenClaim.holds_of_wide 3 Tryd.f3 rfl rfl rfl rfl rfl rfl rfl ⟨rfl, rfl, rfl, rfl, rfl⟩ rfl rfl rfl rfl rfl (by kernel_rfl) Tryd.func3 (by kernel_rfl)
    (of_decide_eq_true (by kernel_rfl)) (by unfold Func.isWrapper; first | (rw [if_pos (by decide +kernel)]; kernel_rfl) | (rw [if_neg (by decide +kernel)]; exact ⟨rfl, rfl⟩))
    (fun os started H enc _ => growErrors_lifted os started H enc)
theorem growErrorsCard_holds : Rows.GrowErrorsCardSaid :=
  Claim7.holds_tied_plain_at .later [] [.handle] true (true, "d95f7b977c0a207e38c62078eb0719dc4707dd34eae90be41a715110abd8c66d") true
    growErrors_row_holds (fun _ h => by cases h) (by kernel_rfl) (fun _ h => by cases h) growErrors_row_tie rfl ⟨rfl, rfl⟩ (by kernel_rfl) rfl
    (fun f fn hf hfn => by
      obtain rfl : f = 3 := Option.some.inj ((show Tryd.prog.funcNamed "quilt/quiltlaw12.GrowErrors" = some 3 by kernel_rfl).symm.trans hf) |>.symm
      obtain rfl : fn = Tryd.f3 := (Option.some.inj (Tryd.func3.symm.trans hfn)).symm
      exact ⟨by kernel_rfl, fun j t ht => by
        rw [Tryd.params3] at ht
        have h3 : t = 24 ∨ t = 3 := by
          rcases j with _ | _ | _ | j
          · left; simpa using ht.symm
          · right; simpa using ht.symm
          · right; simpa using ht.symm
          · simp at ht
        rcases h3 with rfl | rfl
        · exact (show Tryd.prog.wantsStandIn 24 = false by kernel_rfl)
        · exact (show Tryd.prog.wantsStandIn 3 = false by kernel_rfl)⟩)
    (by kernel_rfl)
#print axioms growErrorsCard_holds
end Go.Proofs.YtphnadpmpcifoaaDoor
