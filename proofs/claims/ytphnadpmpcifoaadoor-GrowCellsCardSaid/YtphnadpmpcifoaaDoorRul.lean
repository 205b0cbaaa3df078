/-
  One rule an operation, over symbolic heaps; calls; regions; entering and leaving a function.
-/
import Derived.Test.YtphnadpmpcifoaaDoorJud
namespace Go.Sq

/-- What the program says of a type. -/
class Und (P : Program) (t : TypeId) (d : outParam TypeDesc) : Prop where
  out : P.underlying t = some d
class Inf (P : Program) (t : TypeId) (size bytes : outParam Nat) (z : outParam Value) : Prop where
  out : (P.info? t).map (fun i => (i.size, i.bytes, i.zero)) = some (size, bytes, some z)
def aggD : TypeDesc → Bool
  | .struct _ | .array _ _ => true
  | _ => false

theorem Inf.get {P : Program} {t : TypeId} {s b : Nat} {z : Value} (h : Inf P t s b z) : ∃ i, P.info? t = some i ∧ i.size = s ∧ i.bytes = b ∧ i.zero = some z := by
  have := h.out
  cases hi : P.info? t with
  | none => rw [hi] at this; cases this
  | some i => rw [hi] at this; simp at this; exact ⟨i, rfl, this.1, this.2.1, this.2.2⟩
theorem run_sizeOf {P : Program} {t : TypeId} {s b : Nat} {z : Value} (h : Inf P t s b z) (w : World) : (sizeOf t).run P w = .ok s w := by
  obtain ⟨i, hi, h1, _⟩ := h.get
  simp [sizeOf, typeInfo, hi, h1]
theorem run_zero {P : Program} {t : TypeId} {s b : Nat} {z : Value} (h : Inf P t s b z) (w : World) : (zeroValue t).run P w = .ok z w := by
  obtain ⟨i, hi, _, _, h1⟩ := h.get
  simp [zeroValue, typeInfo, hi, h1]
theorem run_isAgg {P : Program} {t : TypeId} {d : TypeDesc} (h : Und P t d) (w : World) : (isAgg t).run P w = .ok (aggD d) w := by
  unfold isAgg
  rw [Sem.run_bind, run_underlying h.out w]
  cases d <;> rfl

/-! ### calls, entering, leaving -/
def RP (σ : Str) (F : List Ent) (Φ : Value → List Ent → Prop) : Ending → World → Prop := fun e w' => ∃ v N', Φ v N' ∧ e = .returned v ∧ Sat σ w' (N' ++ F)
/-- A call's contract: what it takes of memory, what it hands back, what memory it leaves. -/
def CallR (P : Program) (f : FuncId) (args : List Value) (N : List Ent) (Φ : Value → List Ent → Prop) : Prop :=
  ∀ σ F w, Sat σ w (N ++ F) → Calls P f args.toArray w (RP σ F Φ)
abbrev ΦF (v0 : Value) (N0 : List Ent) : Value → List Ent → Prop := fun v N => v = v0 ∧ N = N0
abbrev CallF (P : Program) (f : FuncId) (args : List Value) (N : List Ent) (v : Value) (N' : List Ent) : Prop := CallR P f args N (ΦF v N')

def argEnv : Nat → List Value → Env
  | _, [] => []
  | k, v :: r => (k, v) :: argEnv (k + 1) r
theorem argEnv_get : ∀ (vs : List Value) (k t : Nat) (v : Value), (argEnv k vs).get t = some v → k ≤ t ∧ vs[t - k]? = some v
  | [], _, t, v, h => by simp [argEnv, Env.get] at h
  | u :: r, k, t, v, h => by
    simp only [argEnv, Env.get] at h
    cases hb : Nat.beq k t with
    | true => rw [hb] at h; have := Nat.eq_of_beq_eq_true hb; subst this; simp at h; simp [h]
    | false =>
      rw [hb] at h
      obtain ⟨h1, h2⟩ := argEnv_get r (k + 1) t v h
      refine ⟨by omega, ?_⟩
      rw [show t - k = (t - (k + 1)) + 1 from by omega, List.getElem?_cons_succ]
      exact h2

theorem callR_of {P : Program} {f : FuncId} {fn : Func} {c : Code} {n : Nat} {args : List Value} {N : List Ent} {Φ : Value → List Ent → Prop} (hf : P.funcs[f]? = some fn) (hb : fn.body = some c) (hn : fn.ntmps = n) (hl : Nat.ble args.length n = true)
    (h : ∀ σ F, J P (bodyPost P fn (RP σ F Φ)) n σ F [.code c] (argEnv 0 args) N) : CallR P f args N Φ := by
  intro σ F w hs
  refine calls_of_wp hf hb (h σ F _ w ⟨rfl, ?_, fun t v ht => ?_⟩ hs)
  · have := Nat.le_of_ble_eq_true hl
    simp; omega
  · obtain ⟨_, h2⟩ := argEnv_get args 0 t v ht
    have hlt := (List.getElem?_eq_some_iff.1 h2).1
    simp at h2 hlt
    simp [Array.getElem?_append, hlt]
    rw [List.getElem?_eq_getElem hlt] at h2
    exact Option.some.inj h2

section
variable {P : Program} {fn : Func} {Φ : Value → List Ent → Prop} {n : Nat} {σ : Str} {F : List Ent} {st : List It} {E : Env} {As : List Ent}

theorem J.retOf {v : Value} (hres : ∀ a w, Agree n a E.get → Sat σ w (As ++ F) → (results fn a.tmps).run P w = .ok v w) {N' M : List Ent} (hp : As.Perm (N' ++ M)) (hΦ : Φ v N') :
    J P (bodyPost P fn (RP σ F Φ)) n σ F (.code .ret :: st) E As :=
  fun a w ha hs => wp_ret (KK_ret (R := bodyPost P fn (RP σ F Φ)) ⟨ha.1, v, hres a w ha hs, v, N', hΦ, rfl, Sat.drop_front (Cs := M) (by
    rw [← List.append_assoc]
    exact hs.perm ((hp.trans List.perm_append_comm).append_right F))⟩ st)
theorem J.endOf {v : Value} (hres : ∀ a w, Agree n a E.get → Sat σ w (As ++ F) → (results fn a.tmps).run P w = .ok v w) {N' M : List Ent} (hp : As.Perm (N' ++ M)) (hΦ : Φ v N') :
    J P (bodyPost P fn (RP σ F Φ)) n σ F [] E As :=
  fun a w ha hs => ⟨ha.1, v, hres a w ha hs, v, N', hΦ, rfl, Sat.drop_front (Cs := M) (by
    rw [← List.append_assoc]
    exact hs.perm ((hp.trans List.perm_append_comm).append_right F))⟩

theorem getD_of {a : Act} {t : Tmp} {v : Value} (ha : Agree n a E.get) (hx : E.get t = some v) : a.tmps.getD t undef = v := by
  have := ha.2.2 t v hx
  simp [this]
theorem res1 {t : Tmp} {v : Value} (hr : fn.results = #[.tmp t]) (hx : E.get t = some v) : ∀ a w, Agree n a E.get → Sat σ w (As ++ F) → (results fn a.tmps).run P w = .ok v w :=
  fun a w ha _ => by rw [results_tmp hr, getD_of ha hx]
theorem res0 (hr : fn.results = #[]) : ∀ a w, Agree n a E.get → Sat σ w (As ++ F) → (results fn a.tmps).run P w = .ok (.tuple #[]) w :=
  fun a w _ _ => by rw [results_none hr]
theorem res2 {t u : Tmp} {v x : Value} (hr : fn.results = #[.tmp t, .tmp u]) (hx : E.get t = some v) (hy : E.get u = some x) : ∀ a w, Agree n a E.get → Sat σ w (As ++ F) → (results fn a.tmps).run P w = .ok (.tuple #[v, x]) w :=
  fun a w ha _ => by rw [results_tmp2 hr, getD_of ha hx, getD_of ha hy]
theorem res3 {t u s : Tmp} {v x y : Value} (hr : fn.results = #[.tmp t, .tmp u, .tmp s]) (hx : E.get t = some v) (hy : E.get u = some x) (hz : E.get s = some y) : ∀ a w, Agree n a E.get → Sat σ w (As ++ F) → (results fn a.tmps).run P w = .ok (.tuple #[v, x, y]) w :=
  fun a w ha _ => by
    have h1 := ha.2.2 t v hx
    have h2 := ha.2.2 u x hy
    have h3 := ha.2.2 s y hz
    simp [results, hr, h1, h2, h3]

/-- A whole variable of a struct or array type is read. -/
theorem run_loadVar_all {T : TypeId} {d : TypeDesc} {sz by_ : Nat} {z : Value} (hu : Und P T d) (hd : aggD d = true) (hi : Inf P T sz by_ z) {w : World} {b : Nat} {c : Array Value} {T0 : TypeId} {fz : Nat × Nat} (hb : w.heap[b]? = some (.cells c T0 fz)) (off : Nat) (hoff : off + sz ≤ c.size) :
    (loadVar T ⟨b, off, none⟩).run P w = .ok (.agg (c.extract off (off + sz))) w := by
  have hl := run_loadCells_list (P := P) w ⟨b, off, none⟩ (c.extract off (off + sz)).toList (fun j v hv => by
    have hadd : (⟨b, off, none⟩ : Addr).add j = ⟨b, off + j, none⟩ := by unfold Addr.add; split <;> simp_all
    rw [hadd, cell_of_block hb]
    simp only [Array.getElem?_toList] at hv
    rw [Array.getElem?_extract] at hv
    split at hv
    · exact hv
    · cases hv)
  have hlen : (c.extract off (off + sz)).toList.length = sz := by simp; omega
  rw [hlen] at hl
  simp only [Array.toArray_toList] at hl
  simp [loadVar, Sem.run_bind, run_isAgg hu, run_sizeOf hi, hd, hl]
theorem extract_self {c : Array Value} {sz : Nat} (h : c.size = sz) : c.extract 0 (0 + sz) = c := by
  subst h; simp
theorem sat_block {b : Nat} {o : Obj} {M : List Ent} {w : World} (hs : Sat σ w (As ++ F)) (p : PickK As b (pts b o) M) : w.heap[b]? = some o :=
  Sat.block (As := M ++ F) (k := b) (by
    have := hs.perm (p.perm.append_right F)
    exact this)
theorem resc1 {p : Tmp} {T : TypeId} {b : Nat} {c : Array Value} {T0 : TypeId} {fz : Nat × Nat} {M : List Ent} {d : TypeDesc} {sz by_ : Nat} {z : Value} (hr : fn.results = #[.cell p T]) (hx : E.get p = some (.pointer (some ⟨b, 0, none⟩)))
    [hp : PickK As b (pts b (.cells c T0 fz)) M] [hu : Und P T d] (hd : aggD d = true) [hi : Inf P T sz by_ z] (hsz : c.size = sz) : ∀ a w, Agree n a E.get → Sat σ w (As ++ F) → (results fn a.tmps).run P w = .ok (.agg c) w :=
  fun a w ha hs => by
    have h1 := ha.2.2 p _ hx
    have hl := run_loadVar_all hu hd hi (sat_block hs hp) 0 (by omega)
    rw [extract_self hsz] at hl
    simp [results, hr, h1, asAddr, hl]
theorem resc1t1 {p t : Tmp} {v : Value} {T : TypeId} {b : Nat} {c : Array Value} {T0 : TypeId} {fz : Nat × Nat} {M : List Ent} {d : TypeDesc} {sz by_ : Nat} {z : Value} (hr : fn.results = #[.cell p T, .tmp t]) (hx : E.get p = some (.pointer (some ⟨b, 0, none⟩))) (ht : E.get t = some v)
    [hp : PickK As b (pts b (.cells c T0 fz)) M] [hu : Und P T d] (hd : aggD d = true) [hi : Inf P T sz by_ z] (hsz : c.size = sz) : ∀ a w, Agree n a E.get → Sat σ w (As ++ F) → (results fn a.tmps).run P w = .ok (.tuple #[.agg c, v]) w :=
  fun a w ha hs => by
    have h1 := ha.2.2 p _ hx
    have h2 := ha.2.2 t _ ht
    have hl := run_loadVar_all hu hd hi (sat_block hs hp) 0 (by omega)
    rw [extract_self hsz] at hl
    simp [results, hr, h1, h2, asAddr, hl]
end

/-! ### regions -/
def nums : Nat → List Oper → List (Nat × Oper)
  | _, [] => []
  | k, o :: l => (k, o) :: nums (k + 1) l
theorem nums_eq : ∀ (l : List Oper) (k : Nat), nums k l = (l.zipIdx k).map fun p => (p.2, p.1)
  | [], _ => rfl
  | o :: l, k => by simp [nums, nums_eq l (k + 1)]
abbrev W (P : Program) (ops : Array Oper) (n : Nat) (bars : Nat → Bool) (K : EnvF → List Ent → List Ent → Prop) (l : List (Nat × Oper)) (E : Env) (St V : List Ent) : Prop := SW P ops n bars K l E.get St V
def KJ (P : Program) (R : Exit → Act → World → Prop) (n : Nat) (σ : Str) (F : List Ent) (st : List It) : EnvF → List Ent → List Ent → Prop :=
  fun e St V => ∀ a w, Agree n a e → Sat σ w (St ++ V ++ F) → KK P R st .normal a w

section
variable {P : Program} {R : Exit → Act → World → Prop} {n : Nat} {σ : Str} {F : List Ent} {st : List It} {E : Env} {As : List Ent}
theorem J.reg {id : Nat} {ops : Array Oper} (h : W P ops n (fun _ => true) (KJ P R n σ F st) (nums 0 ops.toList) E [] As) : J P R n σ F (.code (.region id ops false) :: st) E As :=
  fun a w ha hs => (wpIn_wide (n := 0)).1 (wpIn_region_list (sw_list (ro := none) (K := KJ P R n σ F st) (σ := σ) (F := F) (fun _ _ _ a w (hk : KJ P R n σ F st _ _ _) ha hs => hk a w ha hs) ops.toList 0 E.get [] As a w (by rw [← nums_eq]; exact h) ha (by simpa using hs)))
theorem J.regD {id : Nat} {ops : Array Oper} (ks : List Nat) {V St : List Ent} (hm : P.follows .mixedOrders = true) (hB : drawOk ops = true) [p : PickL As ks V St]
    (h : W P ops n (barAt ops (Region.before ops)) (KJ P R n σ F st) (nums 0 ops.toList) E St V) : J P R n σ F (.code (.region id ops true) :: st) E As :=
  fun a w ha hs => (wpIn_wide (n := 0)).1 (wp_region_sw (ro := none) (K := KJ P R n σ F st) hm hB (fun _ _ _ _ p (hk : KJ P R n σ F st _ _ _) a w ha hs => hk a w ha (hs.perm ((p.symm.append_left _).append_right F))) (fun _ _ _ a w (hk : KJ P R n σ F st _ _ _) ha hs => hk a w ha hs) (by rw [← nums_eq]; exact h) ha
    (hs.perm ((p.perm.trans List.perm_append_comm).append_right F)))
theorem W.nil {ops : Array Oper} {bars : Nat → Bool} {St V : List Ent} [p : Cat St V As] (h : J P R n σ F st E As) : W P ops n bars (KJ P R n σ F st) [] E St V :=
  fun _ a w ha hs => h a w ha (hs.perm (p.perm.append_right F))
end

/-! ### operations that only compute -/
section
variable {P : Program} {ops : Array Oper} {n : Nat} {bars : Nat → Bool} {K : EnvF → List Ent → List Ent → Prop} {l : List (Nat × Oper)} {E : Env} {St V : List Ent} {i : Nat} {d : Tmp} {ty : TypeId} {pos : String} {aft : Array Edge} {g : Option (Nat × Bool)}

theorem W.skip {op : Op} (hw : wants ops ⟨some d, op, ty, pos, aft, g⟩ E.get = some false) (hf : fits n ⟨some d, op, ty, pos, aft, g⟩ = true) (h : W P ops n bars K l ((d, undef) :: E) St V) : W P ops n bars K ((i, ⟨some d, op, ty, pos, aft, g⟩) :: l) E St V :=
  fun _ => ⟨hf, .skip, hw, by show SW P ops n bars K l (upd E.get (some d) undef) St V; rw [put_get]; exact h⟩
theorem W.skip0 {op : Op} (hw : wants ops ⟨none, op, ty, pos, aft, g⟩ E.get = some false) (hf : fits n ⟨none, op, ty, pos, aft, g⟩ = true) (h : W P ops n bars K l E St V) : W P ops n bars K ((i, ⟨none, op, ty, pos, aft, g⟩) :: l) E St V :=
  fun _ => ⟨hf, .skip, hw, h⟩

theorem W.quiet {op : Op} {v : Value} (hw : wants ops ⟨some d, op, ty, pos, aft, g⟩ E.get = some true) (hf : fits n ⟨some d, op, ty, pos, aft, g⟩ = true) (hk : ∀ t, Operand.tmp t ∈ op.operands → E.get t ≠ none) (hq : (kindOf op).quiet = true)
    (hr : ∀ w, (execOp (evf E.get) ⟨some d, op, ty, pos, aft, g⟩).run P w = .ok (.value v) w) (h : W P ops n bars K l ((d, v) :: E) St V) : W P ops n bars K ((i, ⟨some d, op, ty, pos, aft, g⟩) :: l) E St V :=
  fun _ => ⟨hf, .quiet v, ⟨hw, hk, hq, .inl hr⟩, by show SW P ops n bars K l (upd E.get (some d) v) St V; rw [put_get]; exact h⟩

theorem k1 {x : Operand} {v : Value} (hx : evO E x = some v) {op : Op} (ho : op.operands = #[x]) : ∀ t, Operand.tmp t ∈ op.operands → E.get t ≠ none := fun t ht => by
  rw [ho] at ht; simp at ht; subst ht; exact evO_knows hx
theorem k2 {x y : Operand} {v u : Value} (hx : evO E x = some v) (hy : evO E y = some u) {op : Op} (ho : op.operands = #[x, y]) : ∀ t, Operand.tmp t ∈ op.operands → E.get t ≠ none := fun t ht => by
  rw [ho] at ht; simp at ht
  rcases ht with ht | ht
  · subst ht; exact evO_knows hx
  · subst ht; exact evO_knows hy
theorem k3 {x y z : Operand} {v u r : Value} (hx : evO E x = some v) (hy : evO E y = some u) (hz : evO E z = some r) {op : Op} (ho : op.operands = #[x, y, z]) : ∀ t, Operand.tmp t ∈ op.operands → E.get t ≠ none := fun t ht => by
  rw [ho] at ht; simp at ht
  rcases ht with ht | ht | ht
  · subst ht; exact evO_knows hx
  · subst ht; exact evO_knows hy
  · subst ht; exact evO_knows hz

theorem W.move {x : Operand} {v : Value} (hw : wants ops ⟨some d, .move x, ty, pos, aft, g⟩ E.get = some true) (hf : fits n ⟨some d, .move x, ty, pos, aft, g⟩ = true) (hx : evO E x = some v)
    (h : W P ops n bars K l ((d, v) :: E) St V) : W P ops n bars K ((i, ⟨some d, .move x, ty, pos, aft, g⟩) :: l) E St V :=
  W.quiet hw hf (k1 hx rfl) rfl (fun w => by simp [execOp, evO_evf hx]) h
theorem W.assign {x : Operand} {v : Value} (hw : wants ops ⟨some d, .assign x, ty, pos, aft, g⟩ E.get = some true) (hf : fits n ⟨some d, .assign x, ty, pos, aft, g⟩ = true) (hx : evO E x = some v)
    (h : W P ops n bars K l ((d, v) :: E) St V) : W P ops n bars K ((i, ⟨some d, .assign x, ty, pos, aft, g⟩) :: l) E St V :=
  W.quiet hw hf (k1 hx rfl) rfl (fun w => by simp [execOp, evO_evf hx]) h
theorem W.pickT {c x y : Operand} {v u : Value} (hw : wants ops ⟨some d, .pick c x y, ty, pos, aft, g⟩ E.get = some true) (hf : fits n ⟨some d, .pick c x y, ty, pos, aft, g⟩ = true) (hc : evO E c = some (.bool true)) (hx : evO E x = some v) (hy : evO E y = some u)
    (h : W P ops n bars K l ((d, v) :: E) St V) : W P ops n bars K ((i, ⟨some d, .pick c x y, ty, pos, aft, g⟩) :: l) E St V :=
  W.quiet hw hf (k3 hc hx hy rfl) rfl (fun w => by simp [execOp, evO_evf hx, evO_evf hc, asBool]) h
theorem W.pickF {c x y : Operand} {v u : Value} (hw : wants ops ⟨some d, .pick c x y, ty, pos, aft, g⟩ E.get = some true) (hf : fits n ⟨some d, .pick c x y, ty, pos, aft, g⟩ = true) (hc : evO E c = some (.bool false)) (hx : evO E x = some v) (hy : evO E y = some u)
    (h : W P ops n bars K l ((d, u) :: E) St V) : W P ops n bars K ((i, ⟨some d, .pick c x y, ty, pos, aft, g⟩) :: l) E St V :=
  W.quiet hw hf (k3 hc hx hy rfl) rfl (fun w => by simp [execOp, evO_evf hy, evO_evf hc, asBool]) h
theorem W.nilCheck {x : Operand} {a : Addr} (hw : wants ops ⟨some d, .nilCheck x, ty, pos, aft, g⟩ E.get = some true) (hf : fits n ⟨some d, .nilCheck x, ty, pos, aft, g⟩ = true) (hx : evO E x = some (.pointer (some a)))
    (h : W P ops n bars K l ((d, .pointer (some a)) :: E) St V) : W P ops n bars K ((i, ⟨some d, .nilCheck x, ty, pos, aft, g⟩) :: l) E St V :=
  W.quiet hw hf (k1 hx rfl) rfl (fun w => by simp [execOp, evO_evf hx]) h
theorem W.extract {x : Operand} {j : Nat} {vs : Array Value} {v : Value} (hw : wants ops ⟨some d, .extract x j, ty, pos, aft, g⟩ E.get = some true) (hf : fits n ⟨some d, .extract x j, ty, pos, aft, g⟩ = true) (hx : evO E x = some (.tuple vs)) (hv : vs.toList[j]? = some v)
    (h : W P ops n bars K l ((d, v) :: E) St V) : W P ops n bars K ((i, ⟨some d, .extract x j, ty, pos, aft, g⟩) :: l) E St V :=
  W.quiet hw hf (k1 hx rfl) rfl (fun w => by simp only [Array.getElem?_toList] at hv; simp [execOp, evO_evf hx, Instr.extract, hv]) h
theorem W.makeInterface {x : Operand} {T : TypeId} {D : TypeDesc} {v : Value} (hw : wants ops ⟨some d, .makeInterface T x, ty, pos, aft, g⟩ E.get = some true) (hf : fits n ⟨some d, .makeInterface T x, ty, pos, aft, g⟩ = true) (hx : evO E x = some v) [hu : Und P T D] (hi : (match D with | .interface _ => false | _ => true) = true)
    (h : W P ops n bars K l ((d, .iface T v) :: E) St V) : W P ops n bars K ((i, ⟨some d, .makeInterface T x, ty, pos, aft, g⟩) :: l) E St V :=
  W.quiet hw hf (k1 hx rfl) rfl (fun w => by
    simp only [execOp, evO_evf hx, Instr.makeInterface]
    simp only [Sem.run_bind, run_underlying hu.out, Result.andThen_ok]
    cases D <;> simp_all) h
/-- A place within a place: a field. -/
theorem run_fieldAt {T : TypeId} {fs : Array Field} {j : Nat} {nm : String} {ft fo : Nat} {em : Bool} {tg pp : String} {bo : Nat} {sz by_ : Nat} {z : Value} {b off : Nat} (hu : Und P T (.struct fs)) (hj : fs.toList[j]? = some ⟨nm, ft, fo, em, tg, pp, bo⟩) (hi : Inf P ft sz by_ z) (hsz : Nat.blt 0 sz = true) (w : World) :
    (Instr.fieldAt T (.pointer (some ⟨b, off, none⟩)) j).run P w = .ok (.pointer (some ⟨b, off + fo, none⟩)) w := by
  have h0 : ¬ sz = 0 := by have := Nat.le_of_ble_eq_true hsz; omega
  simp only [Array.getElem?_toList] at hj
  simp [Instr.fieldAt, run_underlying hu.out, hj, Instr.sureAddr, fieldPlace, run_sizeOf hi, h0, Addr.add]
theorem W.fieldAddr {x : Operand} {T j : Nat} {fs : Array Field} {nm : String} {ft fo : Nat} {em : Bool} {tg pp : String} {bo sz by_ : Nat} {z : Value} {b off : Nat} (hw : wants ops ⟨some d, .fieldAddr T x j, ty, pos, aft, g⟩ E.get = some true) (hf : fits n ⟨some d, .fieldAddr T x j, ty, pos, aft, g⟩ = true) (hx : evO E x = some (.pointer (some ⟨b, off, none⟩)))
    [hu : Und P T (.struct fs)] (hj : fs.toList[j]? = some ⟨nm, ft, fo, em, tg, pp, bo⟩) [hi : Inf P ft sz by_ z] (hsz : Nat.blt 0 sz = true)
    (h : W P ops n bars K l ((d, .pointer (some ⟨b, off + fo, none⟩)) :: E) St V) : W P ops n bars K ((i, ⟨some d, .fieldAddr T x j, ty, pos, aft, g⟩) :: l) E St V :=
  W.quiet hw hf (k1 hx rfl) rfl (fun w => by simp [execOp, evO_evf hx, run_fieldAt hu hj hi hsz w]) h
end
#print axioms J.regD
end Go.Sq
