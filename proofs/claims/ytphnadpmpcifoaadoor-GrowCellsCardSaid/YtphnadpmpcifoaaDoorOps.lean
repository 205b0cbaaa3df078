/-
  One rule an operation (2): numbers, tests, places, reads, writes, new memory, calls.
-/
import Derived.Test.YtphnadpmpcifoaaDoorRul
namespace Go.Sq

def bitI (op : BinOp) (k : IntKind) (x y : Int) : Int :=
  let a := BitVec.ofInt k.bits x
  let b := BitVec.ofInt k.bits y
  match op with
  | .and => k.wrap (a &&& b).toNat
  | .or => k.wrap (a ||| b).toNat
  | .xor => k.wrap (a ^^^ b).toNat
  | _ => k.wrap (a &&& ~~~b).toNat
def intV (op : BinOp) (k : IntKind) (a b : Int) : Option Value :=
  match op with
  | .add => some (.int k (k.wrap (a + b)))
  | .sub => some (.int k (k.wrap (a - b)))
  | .mul => some (.int k (k.wrap (a * b)))
  | .and => some (.int k (bitI .and k a b))
  | .or => some (.int k (bitI .or k a b))
  | .xor => some (.int k (bitI .xor k a b))
  | .andNot => some (.int k (bitI .andNot k a b))
  | .eql => some (.bool (a == b))
  | .neq => some (.bool (a != b))
  | .lss => some (.bool (decide (a < b)))
  | .leq => some (.bool (decide (a ≤ b)))
  | .gtr => some (.bool (decide (a > b)))
  | .geq => some (.bool (decide (a ≥ b)))
  | _ => none

section
variable {P : Program} {ops : Array Oper} {n : Nat} {bars : Nat → Bool} {K : EnvF → List Ent → List Ent → Prop} {l : List (Nat × Oper)} {E : Env} {St V : List Ent} {i : Nat} {d : Tmp} {ty : TypeId} {pos : String} {aft : Array Edge} {g : Option (Nat × Bool)}

theorem evf_const {e : EnvF} {v : Value} : evf e (.const v) = v := rfl
theorem kq_bin (op : BinOp) (T : TypeId) (x y : Operand) (U : TypeId) : (kindOf (.binOp op T x y U)).quiet = true := by cases op <;> rfl

/-! ### what needs no word on types or memory -/
def pureV (E : Env) : Op → Option Value
  | .move x | .assign x => evO E x
  | .pick c x y => match evO E c with
    | some (.bool true) => evO E x
    | some (.bool false) => evO E y
    | _ => none
  | .nilCheck x => match evO E x with
    | some (.pointer (some a)) => some (.pointer (some a))
    | _ => none
  | .extract x j => match evO E x with
    | some (.tuple vs) => vs.toList[j]?
    | _ => none
  | .unOp .not _ x => match evO E x with
    | some (.bool b) => some (.bool (!b))
    | _ => none
  | _ => none
def seen (E : Env) : List Operand → Bool
  | [] => true
  | .tmp t :: r => match Env.get E t with
    | some _ => seen E r
    | none => false
  | _ :: r => seen E r
theorem seen_spec : ∀ {xs : List Operand}, seen E xs = true → ∀ t, Operand.tmp t ∈ xs → E.get t ≠ none
  | [], _, t, ht => by cases ht
  | x :: r, h, t, ht => by
    rcases List.mem_cons.1 ht with ht | ht
    · subst ht
      simp only [seen] at h
      cases hx : E.get t with
      | none => simp [hx] at h
      | some v => simp
    · refine seen_spec (xs := r) ?_ t ht
      cases x with
      | tmp u =>
        simp only [seen] at h
        cases hx : E.get u with
        | none => simp [hx] at h
        | some v => simpa [hx] using h
      | _ => exact h
theorem W.pure {op : Op} {v : Value} (hw : wants ops ⟨some d, op, ty, pos, aft, g⟩ E.get = some true) (hf : fits n ⟨some d, op, ty, pos, aft, g⟩ = true) (hv : pureV E op = some v) (hs : seen E op.operands.toList = true)
    (h : W P ops n bars K l ((d, v) :: E) St V) : W P ops n bars K ((i, ⟨some d, op, ty, pos, aft, g⟩) :: l) E St V := by
  have hk : ∀ t, Operand.tmp t ∈ op.operands → E.get t ≠ none := fun t ht => seen_spec hs t (by simpa using ht)
  cases op <;> simp only [pureV, reduceCtorEq] at hv
  case move x => exact W.move hw hf hv h
  case assign x => exact W.assign hw hf hv h
  case pick c x y =>
    refine W.quiet hw hf hk rfl (fun w => ?_) h
    cases hc : evO E c with
    | none => simp [hc] at hv
    | some u =>
      cases u <;> simp [hc] at hv
      case bool b => cases b <;> simp at hv <;> simp [execOp, evO_evf hc, evO_evf hv, asBool]
  case nilCheck x =>
    cases hc : evO E x with
    | none => simp [hc] at hv
    | some u =>
      cases u <;> simp [hc] at hv
      case pointer a => cases a <;> simp at hv; subst hv; exact W.nilCheck hw hf hc h
  case extract x j =>
    cases hc : evO E x with
    | none => simp [hc] at hv
    | some u =>
      cases u <;> simp only [hc, reduceCtorEq] at hv
      case tuple vs => exact W.extract hw hf hc hv h
  case unOp u T x =>
    cases u <;> simp only [reduceCtorEq] at hv
    cases hc : evO E x with
    | none => simp [hc] at hv
    | some u =>
      cases u <;> simp [hc] at hv
      case bool b => subst hv; exact W.quiet hw hf hk rfl (fun w => by simp [execOp, evO_evf hc, Op.unary]) h

/-! ### numbers -/
theorem run_guard_int {op : BinOp} {k : IntKind} {a b : Int} {T : TypeId} {x y : Operand} (w : World) : (eqGuard op T x y (.int k a) (.int k b)).run P w = .ok () w := by
  cases op <;> simp [eqGuard]
theorem run_bin_int {op : BinOp} {k : IntKind} {a b : Int} {v : Value} {T : TypeId} (hv : intV op k a b = some v) (w : World) :
    (binOp op T (.int k a) (.int k b)).run P w = .ok v w := by
  cases op <;> simp only [intV, Option.some.injEq, reduceCtorEq] at hv <;> subst hv <;> simp only [binOp] <;> simp [Op.intArith, Op.intBits, Op.intCmp, bitI]
theorem W.bin {op : BinOp} {T U : TypeId} {x y : Operand} {k : IntKind} {a b : Int} {v : Value} (hw : wants ops ⟨some d, .binOp op T x y U, ty, pos, aft, g⟩ E.get = some true) (hf : fits n ⟨some d, .binOp op T x y U, ty, pos, aft, g⟩ = true) (hx : evO E x = some (.int k a)) (hy : evO E y = some (.int k b))
    (hv : intV op k a b = some v) (h : W P ops n bars K l ((d, v) :: E) St V) : W P ops n bars K ((i, ⟨some d, .binOp op T x y U, ty, pos, aft, g⟩) :: l) E St V :=
  W.quiet hw hf (k2 hx hy rfl) (kq_bin ..) (fun w => by simp [execOp, evO_evf hx, evO_evf hy, run_guard_int, run_bin_int hv w]) h

theorem wrap_i64 {a : Int} (h1 : -9223372036854775808 ≤ a) (h2 : a ≤ 9223372036854775807) : IntKind.i64.wrap a = a := IntWalk.i64_in _ ⟨h1, h2⟩
theorem W.add64 {T U : TypeId} {x y : Operand} {a b : Int} (hw : wants ops ⟨some d, .binOp .add T x y U, ty, pos, aft, g⟩ E.get = some true) (hf : fits n ⟨some d, .binOp .add T x y U, ty, pos, aft, g⟩ = true) (hx : evO E x = some (.int .i64 a)) (hy : evO E y = some (.int .i64 b))
    (h1 : -9223372036854775808 ≤ a + b ∧ a + b ≤ 9223372036854775807) (h : W P ops n bars K l ((d, .int .i64 (a + b)) :: E) St V) : W P ops n bars K ((i, ⟨some d, .binOp .add T x y U, ty, pos, aft, g⟩) :: l) E St V :=
  W.bin hw hf hx hy (by simp [intV, wrap_i64 h1.1 h1.2]) h
theorem W.sub64 {T U : TypeId} {x y : Operand} {a b : Int} (hw : wants ops ⟨some d, .binOp .sub T x y U, ty, pos, aft, g⟩ E.get = some true) (hf : fits n ⟨some d, .binOp .sub T x y U, ty, pos, aft, g⟩ = true) (hx : evO E x = some (.int .i64 a)) (hy : evO E y = some (.int .i64 b))
    (h1 : -9223372036854775808 ≤ a - b ∧ a - b ≤ 9223372036854775807) (h : W P ops n bars K l ((d, .int .i64 (a - b)) :: E) St V) : W P ops n bars K ((i, ⟨some d, .binOp .sub T x y U, ty, pos, aft, g⟩) :: l) E St V :=
  W.bin hw hf hx hy (by simp [intV, wrap_i64 h1.1 h1.2]) h
theorem W.mul64 {T U : TypeId} {x y : Operand} {a b : Int} (hw : wants ops ⟨some d, .binOp .mul T x y U, ty, pos, aft, g⟩ E.get = some true) (hf : fits n ⟨some d, .binOp .mul T x y U, ty, pos, aft, g⟩ = true) (hx : evO E x = some (.int .i64 a)) (hy : evO E y = some (.int .i64 b))
    (h1 : -9223372036854775808 ≤ a * b ∧ a * b ≤ 9223372036854775807) (h : W P ops n bars K l ((d, .int .i64 (a * b)) :: E) St V) : W P ops n bars K ((i, ⟨some d, .binOp .mul T x y U, ty, pos, aft, g⟩) :: l) E St V :=
  W.bin hw hf hx hy (by simp [intV, wrap_i64 h1.1 h1.2]) h

/-- Tests that are decided. -/
def cmpP (op : BinOp) (a b : Int) : Prop := match op with
  | .eql => a = b | .neq => a ≠ b | .lss => a < b | .leq => a ≤ b | .gtr => b < a | .geq => b ≤ a | _ => False
def cmpN (op : BinOp) (a b : Int) : Prop := match op with
  | .eql => a ≠ b | .neq => a = b | .lss => b ≤ a | .leq => b < a | .gtr => a ≤ b | .geq => a < b | _ => False
theorem W.cmpT {op : BinOp} {T U : TypeId} {x y : Operand} {k : IntKind} {a b : Int} (hw : wants ops ⟨some d, .binOp op T x y U, ty, pos, aft, g⟩ E.get = some true) (hf : fits n ⟨some d, .binOp op T x y U, ty, pos, aft, g⟩ = true) (hx : evO E x = some (.int k a)) (hy : evO E y = some (.int k b))
    (hc : cmpP op a b) (h : W P ops n bars K l ((d, .bool true) :: E) St V) : W P ops n bars K ((i, ⟨some d, .binOp op T x y U, ty, pos, aft, g⟩) :: l) E St V :=
  W.bin hw hf hx hy (by cases op <;> simp only [cmpP] at hc <;> simp [intV, hc]) h
theorem W.cmpF {op : BinOp} {T U : TypeId} {x y : Operand} {k : IntKind} {a b : Int} (hw : wants ops ⟨some d, .binOp op T x y U, ty, pos, aft, g⟩ E.get = some true) (hf : fits n ⟨some d, .binOp op T x y U, ty, pos, aft, g⟩ = true) (hx : evO E x = some (.int k a)) (hy : evO E y = some (.int k b))
    (hc : cmpN op a b) (h : W P ops n bars K l ((d, .bool false) :: E) St V) : W P ops n bars K ((i, ⟨some d, .binOp op T x y U, ty, pos, aft, g⟩) :: l) E St V :=
  W.bin hw hf hx hy (by cases op <;> simp only [cmpN] at hc <;> simp [intV, hc] <;> omega) h

def shrI (k : IntKind) (a : Int) (y : Int) : Int := a.fdiv (2 ^ (min y.toNat k.bits))
def shlI (k : IntKind) (a : Int) (y : Int) : Int := k.wrap (a * 2 ^ (min y.toNat k.bits))
theorem W.shr {T U : TypeId} {x y : Operand} {k j : IntKind} {a b : Int} (hw : wants ops ⟨some d, .binOp .shr T x y U, ty, pos, aft, g⟩ E.get = some true) (hf : fits n ⟨some d, .binOp .shr T x y U, ty, pos, aft, g⟩ = true) (hx : evO E x = some (.int k a)) (hy : evO E y = some (.int j b))
    (hb : 0 ≤ b) (h : W P ops n bars K l ((d, .int k (shrI k a b)) :: E) St V) : W P ops n bars K ((i, ⟨some d, .binOp .shr T x y U, ty, pos, aft, g⟩) :: l) E St V :=
  W.quiet hw hf (k2 hx hy rfl) rfl (fun w => by simp [execOp, evO_evf hx, evO_evf hy, eqGuard, binOp, Op.shift, shrI, Int.not_lt.2 hb]) h
theorem W.shl {T U : TypeId} {x y : Operand} {k j : IntKind} {a b : Int} (hw : wants ops ⟨some d, .binOp .shl T x y U, ty, pos, aft, g⟩ E.get = some true) (hf : fits n ⟨some d, .binOp .shl T x y U, ty, pos, aft, g⟩ = true) (hx : evO E x = some (.int k a)) (hy : evO E y = some (.int j b))
    (hb : 0 ≤ b) (h : W P ops n bars K l ((d, .int k (shlI k a b)) :: E) St V) : W P ops n bars K ((i, ⟨some d, .binOp .shl T x y U, ty, pos, aft, g⟩) :: l) E St V :=
  W.quiet hw hf (k2 hx hy rfl) rfl (fun w => by simp [execOp, evO_evf hx, evO_evf hy, eqGuard, binOp, Op.shift, shlI, Int.not_lt.2 hb]) h
structure ShrE (k : IntKind) (a b c : Int) : Prop where
  out : shrI k a b = c
structure IntE (op : BinOp) (k : IntKind) (a b : Int) (v : Value) : Prop where
  out : intV op k a b = some v
theorem W.binE {op : BinOp} {T U : TypeId} {x y : Operand} {k : IntKind} {a b : Int} {v : Value} (hw : wants ops ⟨some d, .binOp op T x y U, ty, pos, aft, g⟩ E.get = some true) (hf : fits n ⟨some d, .binOp op T x y U, ty, pos, aft, g⟩ = true) (hx : evO E x = some (.int k a)) (hy : evO E y = some (.int k b))
    (hv : IntE op k a b v) (h : W P ops n bars K l ((d, v) :: E) St V) : W P ops n bars K ((i, ⟨some d, .binOp op T x y U, ty, pos, aft, g⟩) :: l) E St V :=
  W.bin hw hf hx hy hv.out h
theorem W.shrE {T U : TypeId} {x y : Operand} {k j : IntKind} {a b c : Int} (hw : wants ops ⟨some d, .binOp .shr T x y U, ty, pos, aft, g⟩ E.get = some true) (hf : fits n ⟨some d, .binOp .shr T x y U, ty, pos, aft, g⟩ = true) (hx : evO E x = some (.int k a)) (hy : evO E y = some (.int j b))
    (hb : 0 ≤ b) (hc : ShrE k a b c) (h : W P ops n bars K l ((d, .int k c) :: E) St V) : W P ops n bars K ((i, ⟨some d, .binOp .shr T x y U, ty, pos, aft, g⟩) :: l) E St V := by
  obtain ⟨rfl⟩ := hc; exact W.shr hw hf hx hy hb h
theorem W.rem {T U : TypeId} {x y : Operand} {k : IntKind} {a b : Int} (hw : wants ops ⟨some d, .binOp .rem T x y U, ty, pos, aft, g⟩ E.get = some true) (hf : fits n ⟨some d, .binOp .rem T x y U, ty, pos, aft, g⟩ = true) (hx : evO E x = some (.int k a)) (hy : evO E y = some (.int k b))
    (ha : 0 ≤ a) (hb : 0 < b) (h : W P ops n bars K l ((d, .int k (a % b)) :: E) St V) : W P ops n bars K ((i, ⟨some d, .binOp .rem T x y U, ty, pos, aft, g⟩) :: l) E St V :=
  W.quiet hw hf (k2 hx hy rfl) rfl (fun w => by
    have : ¬ b = 0 := by omega
    simp [execOp, evO_evf hx, evO_evf hy, eqGuard, binOp, Op.intDiv, this, Int.tmod_eq_emod_of_nonneg ha]) h
theorem W.quo {T U : TypeId} {x y : Operand} {k : IntKind} {a b : Int} (hw : wants ops ⟨some d, .binOp .quo T x y U, ty, pos, aft, g⟩ E.get = some true) (hf : fits n ⟨some d, .binOp .quo T x y U, ty, pos, aft, g⟩ = true) (hx : evO E x = some (.int k a)) (hy : evO E y = some (.int k b))
    (ha : 0 ≤ a) (hb : 0 < b) (hk : k.wrap (a / b) = a / b) (h : W P ops n bars K l ((d, .int k (a / b)) :: E) St V) : W P ops n bars K ((i, ⟨some d, .binOp .quo T x y U, ty, pos, aft, g⟩) :: l) E St V :=
  W.quiet hw hf (k2 hx hy rfl) rfl (fun w => by
    have : ¬ b = 0 := by omega
    simp [execOp, evO_evf hx, evO_evf hy, eqGuard, binOp, Op.intDiv, this, Int.tdiv_eq_ediv_of_nonneg ha, hk]) h
theorem W.not {x : Operand} {b : Bool} {T : TypeId} (hw : wants ops ⟨some d, .unOp .not T x, ty, pos, aft, g⟩ E.get = some true) (hf : fits n ⟨some d, .unOp .not T x, ty, pos, aft, g⟩ = true) (hx : evO E x = some (.bool b))
    (h : W P ops n bars K l ((d, .bool (!b)) :: E) St V) : W P ops n bars K ((i, ⟨some d, .unOp .not T x, ty, pos, aft, g⟩) :: l) E St V :=
  W.quiet hw hf (k1 hx rfl) rfl (fun w => by simp [execOp, evO_evf hx, Op.unary]) h
theorem W.conv {S T : TypeId} {D : TypeDesc} {x : Operand} {j k : IntKind} {a : Int} (hw : wants ops ⟨some d, .convert S T x, ty, pos, aft, g⟩ E.get = some true) (hf : fits n ⟨some d, .convert S T x, ty, pos, aft, g⟩ = true) (hx : evO E x = some (.int j a)) [hs : Und P S D] [hu : Und P T (.int k)]
    (h : W P ops n bars K l ((d, .int k (k.wrap a)) :: E) St V) : W P ops n bars K ((i, ⟨some d, .convert S T x, ty, pos, aft, g⟩) :: l) E St V :=
  W.quiet hw hf (k1 hx rfl) rfl (fun w => by simp [execOp, evO_evf hx, convert, run_underlying hs.out, run_underlying hu.out, Conv.intToInt]) h

/-! ### nil -/
section
variable {T : TypeId} {w : World}
theorem eqIn_nn {ms : Array (String × TypeId)} (hu : Und P T (.interface ms)) (q : Nat) : (Op.equalIn (q + 1) T .nilIface .nilIface).run P w = .ok true w := by simp [Op.equalIn, run_underlying hu.out]
theorem eqIn_in {ms : Array (String × TypeId)} (hu : Und P T (.interface ms)) (q : Nat) (I : TypeId) (z : Value) : (Op.equalIn (q + 1) T (.iface I z) .nilIface).run P w = .ok false w := by simp [Op.equalIn, run_underlying hu.out]
theorem eqIn_pn {e : TypeId} (hu : Und P T (.pointer e)) (q : Nat) (a : Option Addr) : (Op.equalIn (q + 1) T (.pointer a) (.pointer none)).run P w = .ok a.isNone w := by cases a <;> simp [Op.equalIn, run_underlying hu.out]
theorem bin_nn {ms : Array (String × TypeId)} (hu : Und P T (.interface ms)) : (binOp .eql T .nilIface .nilIface).run P w = .ok (.bool true) w := by
  simp only [binOp]; simp [Op.equal, Op.maxDepth, eqIn_nn hu 9999]
theorem bin_in {ms : Array (String × TypeId)} (hu : Und P T (.interface ms)) (I : TypeId) (z : Value) : (binOp .eql T (.iface I z) .nilIface).run P w = .ok (.bool false) w := by
  simp only [binOp]; simp [Op.equal, Op.maxDepth, eqIn_in hu 9999 I z]
theorem bin_pn {e : TypeId} (hu : Und P T (.pointer e)) (a : Option Addr) : (binOp .eql T (.pointer a) (.pointer none)).run P w = .ok (.bool a.isNone) w := by
  simp only [binOp]; simp [Op.equal, Op.maxDepth, eqIn_pn hu 9999 a]
theorem bin_nn' {ms : Array (String × TypeId)} (hu : Und P T (.interface ms)) : (binOp .neq T .nilIface .nilIface).run P w = .ok (.bool false) w := by
  simp only [binOp]; simp [Op.equal, Op.maxDepth, eqIn_nn hu 9999]
theorem bin_in' {ms : Array (String × TypeId)} (hu : Und P T (.interface ms)) (I : TypeId) (z : Value) : (binOp .neq T (.iface I z) .nilIface).run P w = .ok (.bool true) w := by
  simp only [binOp]; simp [Op.equal, Op.maxDepth, eqIn_in hu 9999 I z]
theorem bin_pn' {e : TypeId} (hu : Und P T (.pointer e)) (a : Option Addr) : (binOp .neq T (.pointer a) (.pointer none)).run P w = .ok (.bool a.isSome) w := by
  simp only [binOp]; cases a <;> simp [Op.equal, Op.maxDepth, eqIn_pn hu 9999]
end
theorem W.eqIfNilT {T U : TypeId} {x : Operand} {ms : Array (String × TypeId)} (hw : wants ops ⟨some d, .binOp .eql T x (.const .nilIface) U, ty, pos, aft, g⟩ E.get = some true) (hf : fits n ⟨some d, .binOp .eql T x (.const .nilIface) U, ty, pos, aft, g⟩ = true) (hx : evO E x = some .nilIface) [hu : Und P T (.interface ms)]
    (h : W P ops n bars K l ((d, .bool true) :: E) St V) : W P ops n bars K ((i, ⟨some d, .binOp .eql T x (.const .nilIface) U, ty, pos, aft, g⟩) :: l) E St V :=
  W.quiet hw hf (k2 hx rfl rfl) rfl (fun w => by
    have hg : (eqGuard .eql T x (.const .nilIface) .nilIface .nilIface).run P w = .ok () w := by simp [eqGuard]
    have hb := bin_nn hu (P := P) (w := w)
    simp only [execOp, evO_evf hx, evf_const, Sem.run_bind, hg, Result.andThen_ok, hb, Sem.run_pure]) h
theorem W.neIfNilT {T U : TypeId} {x : Operand} {ms : Array (String × TypeId)} (hw : wants ops ⟨some d, .binOp .neq T x (.const .nilIface) U, ty, pos, aft, g⟩ E.get = some true) (hf : fits n ⟨some d, .binOp .neq T x (.const .nilIface) U, ty, pos, aft, g⟩ = true) (hx : evO E x = some .nilIface) [hu : Und P T (.interface ms)]
    (h : W P ops n bars K l ((d, .bool false) :: E) St V) : W P ops n bars K ((i, ⟨some d, .binOp .neq T x (.const .nilIface) U, ty, pos, aft, g⟩) :: l) E St V :=
  W.quiet hw hf (k2 hx rfl rfl) rfl (fun w => by
    have hg : (eqGuard .neq T x (.const .nilIface) .nilIface .nilIface).run P w = .ok () w := by simp [eqGuard]
    have hb := bin_nn' hu (P := P) (w := w)
    simp only [execOp, evO_evf hx, evf_const, Sem.run_bind, hg, Result.andThen_ok, hb, Sem.run_pure]) h
theorem W.eqIfNilF {T U : TypeId} {I : TypeId} {z : Value} {x : Operand} {ms : Array (String × TypeId)} (hw : wants ops ⟨some d, .binOp .eql T x (.const .nilIface) U, ty, pos, aft, g⟩ E.get = some true) (hf : fits n ⟨some d, .binOp .eql T x (.const .nilIface) U, ty, pos, aft, g⟩ = true) (hx : evO E x = some (.iface I z)) [hu : Und P T (.interface ms)]
    (h : W P ops n bars K l ((d, .bool false) :: E) St V) : W P ops n bars K ((i, ⟨some d, .binOp .eql T x (.const .nilIface) U, ty, pos, aft, g⟩) :: l) E St V :=
  W.quiet hw hf (k2 hx rfl rfl) rfl (fun w => by
    have hg : (eqGuard .eql T x (.const .nilIface) (.iface I z) .nilIface).run P w = .ok () w := by simp [eqGuard]
    have hb := bin_in hu I z (P := P) (w := w)
    simp only [execOp, evO_evf hx, evf_const, Sem.run_bind, hg, Result.andThen_ok, hb, Sem.run_pure]) h
theorem W.neIfNilF {T U : TypeId} {I : TypeId} {z : Value} {x : Operand} {ms : Array (String × TypeId)} (hw : wants ops ⟨some d, .binOp .neq T x (.const .nilIface) U, ty, pos, aft, g⟩ E.get = some true) (hf : fits n ⟨some d, .binOp .neq T x (.const .nilIface) U, ty, pos, aft, g⟩ = true) (hx : evO E x = some (.iface I z)) [hu : Und P T (.interface ms)]
    (h : W P ops n bars K l ((d, .bool true) :: E) St V) : W P ops n bars K ((i, ⟨some d, .binOp .neq T x (.const .nilIface) U, ty, pos, aft, g⟩) :: l) E St V :=
  W.quiet hw hf (k2 hx rfl rfl) rfl (fun w => by
    have hg : (eqGuard .neq T x (.const .nilIface) (.iface I z) .nilIface).run P w = .ok () w := by simp [eqGuard]
    have hb := bin_in' hu I z (P := P) (w := w)
    simp only [execOp, evO_evf hx, evf_const, Sem.run_bind, hg, Result.andThen_ok, hb, Sem.run_pure]) h
theorem W.eqPtNil {T U e : TypeId} {x : Operand} {a : Option Addr} (hw : wants ops ⟨some d, .binOp .eql T x (.const (.pointer none)) U, ty, pos, aft, g⟩ E.get = some true) (hf : fits n ⟨some d, .binOp .eql T x (.const (.pointer none)) U, ty, pos, aft, g⟩ = true) (hx : evO E x = some (.pointer a)) [hu : Und P T (.pointer e)]
    (h : W P ops n bars K l ((d, .bool a.isNone) :: E) St V) : W P ops n bars K ((i, ⟨some d, .binOp .eql T x (.const (.pointer none)) U, ty, pos, aft, g⟩) :: l) E St V :=
  W.quiet hw hf (k2 hx rfl rfl) rfl (fun w => by
    have hg : (eqGuard .eql T x (.const (.pointer none)) (.pointer a) (.pointer none)).run P w = .ok () w := by simp [eqGuard]
    have hb := bin_pn hu a (P := P) (w := w)
    simp only [execOp, evO_evf hx, evf_const, Sem.run_bind, hg, Result.andThen_ok, hb, Sem.run_pure]) h
theorem W.nePtNil {T U e : TypeId} {x : Operand} {a : Option Addr} (hw : wants ops ⟨some d, .binOp .neq T x (.const (.pointer none)) U, ty, pos, aft, g⟩ E.get = some true) (hf : fits n ⟨some d, .binOp .neq T x (.const (.pointer none)) U, ty, pos, aft, g⟩ = true) (hx : evO E x = some (.pointer a)) [hu : Und P T (.pointer e)]
    (h : W P ops n bars K l ((d, .bool a.isSome) :: E) St V) : W P ops n bars K ((i, ⟨some d, .binOp .neq T x (.const (.pointer none)) U, ty, pos, aft, g⟩) :: l) E St V :=
  W.quiet hw hf (k2 hx rfl rfl) rfl (fun w => by
    have hg : (eqGuard .neq T x (.const (.pointer none)) (.pointer a) (.pointer none)).run P w = .ok () w := by simp [eqGuard]
    have hb := bin_pn' hu a (P := P) (w := w)
    simp only [execOp, evO_evf hx, evf_const, Sem.run_bind, hg, Result.andThen_ok, hb, Sem.run_pure]) h

/-! ### places -/
theorem W.fieldAddr0 {x : Operand} {T j : Nat} {fs : Array Field} {nm : String} {ft fo : Nat} {em : Bool} {tg pp : String} {bo sz by_ : Nat} {z : Value} {b : Nat} (hw : wants ops ⟨some d, .fieldAddr T x j, ty, pos, aft, g⟩ E.get = some true) (hf : fits n ⟨some d, .fieldAddr T x j, ty, pos, aft, g⟩ = true) (hx : evO E x = some (.pointer (some ⟨b, 0, none⟩)))
    [hu : Und P T (.struct fs)] (hj : fs.toList[j]? = some ⟨nm, ft, fo, em, tg, pp, bo⟩) [hi : Inf P ft sz by_ z] (hsz : Nat.blt 0 sz = true)
    (h : W P ops n bars K l ((d, .pointer (some ⟨b, fo, none⟩)) :: E) St V) : W P ops n bars K ((i, ⟨some d, .fieldAddr T x j, ty, pos, aft, g⟩) :: l) E St V :=
  W.fieldAddr hw hf hx hj hsz (by simpa using h)
theorem run_indexAt_array {T e len sz by_ : Nat} {z : Value} {b off : Nat} {k : IntKind} {m : Int} (hu : Und P T (.array len e)) (hi : Inf P e sz by_ z) (h0 : 0 ≤ m) (h1 : m < len) (w : World) :
    (Instr.indexAt T (.pointer (some ⟨b, off, none⟩)) (.int k m)).run P w = .ok (.pointer (some ⟨b, off + m.toNat * sz, none⟩)) w := by
  simp [Instr.indexAt, asIntOf, run_underlying hu.out, Instr.sureAddr, h0, h1, run_sizeOf hi, Addr.add]
theorem W.indexAddrA {x y : Operand} {T e len sz by_ : Nat} {z : Value} {b off : Nat} {k : IntKind} {m : Int} (hw : wants ops ⟨some d, .indexAddr T x y, ty, pos, aft, g⟩ E.get = some true) (hf : fits n ⟨some d, .indexAddr T x y, ty, pos, aft, g⟩ = true) (hx : evO E x = some (.pointer (some ⟨b, off, none⟩))) (hy : evO E y = some (.int k m))
    [hu : Und P T (.array len e)] [hi : Inf P e sz by_ z] (hm : 0 ≤ m ∧ m < len) (h : W P ops n bars K l ((d, .pointer (some ⟨b, off + m.toNat * sz, none⟩)) :: E) St V) : W P ops n bars K ((i, ⟨some d, .indexAddr T x y, ty, pos, aft, g⟩) :: l) E St V :=
  W.quiet hw hf (k2 hx hy rfl) rfl (fun w => by simp [execOp, evO_evf hx, evO_evf hy, run_indexAt_array hu hi hm.1 hm.2 w]) h
theorem run_indexAt_slice {T e len cp sz by_ : Nat} {z : Value} {b off : Nat} {k : IntKind} {m : Int} (hu : Und P T (.slice e)) (hi : Inf P e sz by_ z) (h0 : 0 ≤ m) (h1 : m < len) (w : World) :
    (Instr.indexAt T (.slice (some ⟨b, off, none⟩) len cp) (.int k m)).run P w = .ok (.pointer (some ⟨b, off + m.toNat * sz, none⟩)) w := by
  simp [Instr.indexAt, asIntOf, run_underlying hu.out, h0, h1, run_sizeOf hi, Addr.add]
theorem W.indexAddrS {x y : Operand} {T e len cp sz by_ : Nat} {z : Value} {b off : Nat} {k : IntKind} {m : Int} (hw : wants ops ⟨some d, .indexAddr T x y, ty, pos, aft, g⟩ E.get = some true) (hf : fits n ⟨some d, .indexAddr T x y, ty, pos, aft, g⟩ = true) (hx : evO E x = some (.slice (some ⟨b, off, none⟩) len cp)) (hy : evO E y = some (.int k m))
    [hu : Und P T (.slice e)] [hi : Inf P e sz by_ z] (hm : 0 ≤ m ∧ m < len) (h : W P ops n bars K l ((d, .pointer (some ⟨b, off + m.toNat * sz, none⟩)) :: E) St V) : W P ops n bars K ((i, ⟨some d, .indexAddr T x y, ty, pos, aft, g⟩) :: l) E St V :=
  W.quiet hw hf (k2 hx hy rfl) rfl (fun w => by simp [execOp, evO_evf hx, evO_evf hy, run_indexAt_slice hu hi hm.1 hm.2 w]) h
/-- An array's element, by value. -/
theorem W.indexA1 {x y : Operand} {T e len sz by_ : Nat} {z v : Value} {c : Array Value} {D : TypeDesc} {k : IntKind} {m : Int} (hw : wants ops ⟨some d, .index T x y, ty, pos, aft, g⟩ E.get = some true) (hf : fits n ⟨some d, .index T x y, ty, pos, aft, g⟩ = true) (hx : evO E x = some (.agg c)) (hy : evO E y = some (.int k m))
    [hu : Und P T (.array len e)] [hi : Inf P e sz by_ z] [hd : Und P e D] (ha : aggD D = false) (hm : 0 ≤ m ∧ m < len) (hv : c.toList[m.toNat * sz]? = some v) (h : W P ops n bars K l ((d, v) :: E) St V) : W P ops n bars K ((i, ⟨some d, .index T x y, ty, pos, aft, g⟩) :: l) E St V :=
  W.quiet hw hf (k2 hx hy rfl) rfl (fun w => by
    simp only [Array.getElem?_toList] at hv
    simp [execOp, evO_evf hx, evO_evf hy, Instr.index, asIntOf, run_underlying hu.out, hm.1, hm.2, run_sizeOf hi, part, run_isAgg hd, ha, hv]) h
theorem W.indexAn {x y : Operand} {T e len sz by_ : Nat} {z : Value} {c : Array Value} {D : TypeDesc} {k : IntKind} {m : Int} (hw : wants ops ⟨some d, .index T x y, ty, pos, aft, g⟩ E.get = some true) (hf : fits n ⟨some d, .index T x y, ty, pos, aft, g⟩ = true) (hx : evO E x = some (.agg c)) (hy : evO E y = some (.int k m))
    [hu : Und P T (.array len e)] [hi : Inf P e sz by_ z] [hd : Und P e D] (ha : aggD D = true) (hm : 0 ≤ m ∧ m < len) (h : W P ops n bars K l ((d, .agg (c.extract (m.toNat * sz) (m.toNat * sz + sz))) :: E) St V) : W P ops n bars K ((i, ⟨some d, .index T x y, ty, pos, aft, g⟩) :: l) E St V :=
  W.quiet hw hf (k2 hx hy rfl) rfl (fun w => by
    simp [execOp, evO_evf hx, evO_evf hy, Instr.index, asIntOf, run_underlying hu.out, hm.1, hm.2, run_sizeOf hi, part, run_isAgg hd, ha]) h
theorem W.field1 {x : Operand} {T j : Nat} {fs : Array Field} {nm : String} {ft fo : Nat} {em : Bool} {tg pp : String} {bo : Nat} {D : TypeDesc} {c : Array Value} {v : Value} (hw : wants ops ⟨some d, .field T x j, ty, pos, aft, g⟩ E.get = some true) (hf : fits n ⟨some d, .field T x j, ty, pos, aft, g⟩ = true) (hx : evO E x = some (.agg c))
    [hu : Und P T (.struct fs)] (hj : fs.toList[j]? = some ⟨nm, ft, fo, em, tg, pp, bo⟩) [hd : Und P ft D] (ha : aggD D = false) (hv : c.toList[fo]? = some v) (h : W P ops n bars K l ((d, v) :: E) St V) : W P ops n bars K ((i, ⟨some d, .field T x j, ty, pos, aft, g⟩) :: l) E St V :=
  W.quiet hw hf (k1 hx rfl) rfl (fun w => by
    simp only [Array.getElem?_toList] at hv hj
    simp [execOp, evO_evf hx, Instr.field, run_underlying hu.out, hj, part, run_isAgg hd, ha, hv, asAgg]) h
theorem W.fieldn {x : Operand} {T j : Nat} {fs : Array Field} {nm : String} {ft fo : Nat} {em : Bool} {tg pp : String} {bo sz by_ : Nat} {z : Value} {D : TypeDesc} {c : Array Value} (hw : wants ops ⟨some d, .field T x j, ty, pos, aft, g⟩ E.get = some true) (hf : fits n ⟨some d, .field T x j, ty, pos, aft, g⟩ = true) (hx : evO E x = some (.agg c))
    [hu : Und P T (.struct fs)] (hj : fs.toList[j]? = some ⟨nm, ft, fo, em, tg, pp, bo⟩) [hd : Und P ft D] (ha : aggD D = true) [hi : Inf P ft sz by_ z] (h : W P ops n bars K l ((d, .agg (c.extract fo (fo + sz))) :: E) St V) : W P ops n bars K ((i, ⟨some d, .field T x j, ty, pos, aft, g⟩) :: l) E St V :=
  W.quiet hw hf (k1 hx rfl) rfl (fun w => by
    simp only [Array.getElem?_toList] at hj
    simp [execOp, evO_evf hx, Instr.field, run_underlying hu.out, hj, part, run_isAgg hd, ha, asAgg, run_sizeOf hi]) h

/-! ### struct and array values -/
class Bld (P : Program) (T : TypeId) (parts : List (Nat × Value)) (cs : outParam (List Value)) : Prop where
  out : ∀ w, (Instr.build T parts.toArray).run P w = .ok (.agg cs.toArray) w
def evP (E : Env) : List (Nat × Operand) → Option (List (Nat × Value))
  | [] => some []
  | (j, x) :: r => match evO E x with
    | none => none
    | some v => match evP E r with
      | none => none
      | some vs => some ((j, v) :: vs)
theorem evP_spec : ∀ {ps : List (Nat × Operand)} {vs : List (Nat × Value)}, evP E ps = some vs → ps.map (fun p => (p.1, evf E.get p.2)) = vs ∧ ∀ t, Operand.tmp t ∈ ps.map (·.2) → E.get t ≠ none
  | [], vs, h => by simp [evP] at h; subst h; simp
  | (j, x) :: r, vs, h => by
    simp only [evP] at h
    cases hx : evO E x with
    | none => simp [hx] at h
    | some v =>
      cases hr : evP E r with
      | none => simp [hx, hr] at h
      | some us =>
        simp [hx, hr] at h
        subst h
        obtain ⟨h1, h2⟩ := evP_spec hr
        refine ⟨by rw [List.map_cons, h1, evO_evf hx], fun t ht => ?_⟩
        simp only [List.map_cons, List.mem_cons] at ht
        rcases ht with ht | ht
        · subst ht; exact evO_knows hx
        · exact h2 t ht
theorem W.build {T : TypeId} {ps : Array (Nat × Operand)} {vs : List (Nat × Value)} {cs : List Value} (hw : wants ops ⟨some d, .build T ps, ty, pos, aft, g⟩ E.get = some true) (hf : fits n ⟨some d, .build T ps, ty, pos, aft, g⟩ = true) (hv : evP E ps.toList = some vs) [hb : Bld P T vs cs]
    (h : W P ops n bars K l ((d, .agg cs.toArray) :: E) St V) : W P ops n bars K ((i, ⟨some d, .build T ps, ty, pos, aft, g⟩) :: l) E St V := by
  obtain ⟨h1, h2⟩ := evP_spec hv
  refine W.quiet hw hf (fun t ht => h2 t (by simpa [Op.operands] using ht)) rfl (fun w => ?_) h
  have e1 : (ps.map fun (x : Nat × Operand) => (x.1, evf E.get x.2)) = vs.toArray := by
    apply Array.ext'
    rw [Array.toList_map, h1]
  have := hb.out w
  simp only [execOp]
  rw [e1]
  simp [this]

/-! ### new memory -/
class Zer (P : Program) (T : TypeId) (cs : outParam (Array Value)) : Prop where
  out : ∃ z, z.cells = cs ∧ ∀ w, (zeroValue T).run P w = .ok z w
theorem W.alloc' {op : Op} {ob : Obj} {mk : Nat → Value} (hw : wants ops ⟨some d, op, ty, pos, aft, g⟩ E.get = some true) (hf : fits n ⟨some d, op, ty, pos, aft, g⟩ = true) (hk : ∀ t, Operand.tmp t ∈ op.operands → E.get t ≠ none) (hq : kindOf op = .alloc)
    (hr : ∀ w, (execOp (evf E.get) ⟨some d, op, ty, pos, aft, g⟩).run P w = .ok (.value (mk w.heap.size)) (w.alloc ob)) (h : ∀ b, W P ops n bars K l ((d, mk b) :: E) St ((b, pts b ob) :: V)) : W P ops n bars K ((i, ⟨some d, op, ty, pos, aft, g⟩) :: l) E St V :=
  fun _ => ⟨hf, .alloc ob mk, ⟨hw, hk, hq, hr⟩, fun b => by show SW P ops n bars K l (upd E.get (some d) (mk b)) St _; rw [put_get]; exact h b⟩
theorem W.alloc {T : TypeId} {cs : Array Value} (hw : wants ops ⟨some d, .alloc T, ty, pos, aft, g⟩ E.get = some true) (hf : fits n ⟨some d, .alloc T, ty, pos, aft, g⟩ = true) [hz : Zer P T cs]
    (h : ∀ b, W P ops n bars K l ((d, .pointer (some ⟨b, 0, none⟩)) :: E) St ((b, pts b (.cells cs T (0, 0))) :: V)) : W P ops n bars K ((i, ⟨some d, .alloc T, ty, pos, aft, g⟩) :: l) E St V :=
  W.alloc' (mk := fun b => .pointer (some ⟨b, 0, none⟩)) hw hf (fun t ht => by simp [Op.operands] at ht) rfl (fun w => by
    obtain ⟨z, hc, hz⟩ := hz.out
    simp only [execOp, Instr.alloc, Sem.run_bind, hz w, Result.andThen_ok, newVar, newRow, newObj, hc]
    rfl) h
theorem W.boxA {T : TypeId} {x : Operand} {cs : Array Value} (hw : wants ops ⟨some d, .box T x, ty, pos, aft, g⟩ E.get = some true) (hf : fits n ⟨some d, .box T x, ty, pos, aft, g⟩ = true) (hx : evO E x = some (.agg cs))
    (h : ∀ b, W P ops n bars K l ((d, .pointer (some ⟨b, 0, none⟩)) :: E) St ((b, pts b (.cells cs T (0, 0))) :: V)) : W P ops n bars K ((i, ⟨some d, .box T x, ty, pos, aft, g⟩) :: l) E St V :=
  W.alloc' (mk := fun b => .pointer (some ⟨b, 0, none⟩)) hw hf (k1 hx rfl) rfl (fun w => by
    simp only [execOp, evO_evf hx]
    rfl) h
def plainV : Value → Bool
  | .agg _ => false
  | _ => true
theorem W.boxS {T : TypeId} {x : Operand} {v : Value} (hw : wants ops ⟨some d, .box T x, ty, pos, aft, g⟩ E.get = some true) (hf : fits n ⟨some d, .box T x, ty, pos, aft, g⟩ = true) (hx : evO E x = some v) (hv : plainV v = true)
    (h : ∀ b, W P ops n bars K l ((d, .pointer (some ⟨b, 0, none⟩)) :: E) St ((b, pts b (.cells #[v] T (0, 0))) :: V)) : W P ops n bars K ((i, ⟨some d, .box T x, ty, pos, aft, g⟩) :: l) E St V :=
  W.alloc' (mk := fun b => .pointer (some ⟨b, 0, none⟩)) hw hf (k1 hx rfl) rfl (fun w => by
    have hc : v.cells = #[v] := by cases v <;> first | rfl | cases hv
    simp only [execOp, evO_evf hx, Instr.box, newVar, newRow, newObj, hc]
    rfl) h
theorem W.makeMap0 {T : TypeId} (hw : wants ops ⟨some d, .makeMap T none, ty, pos, aft, g⟩ E.get = some true) (hf : fits n ⟨some d, .makeMap T none, ty, pos, aft, g⟩ = true)
    (h : ∀ b, W P ops n bars K l ((d, .map (some b)) :: E) St ((b, pts b (.map #[] 0)) :: V)) : W P ops n bars K ((i, ⟨some d, .makeMap T none, ty, pos, aft, g⟩) :: l) E St V :=
  W.alloc' (mk := fun b => .map (some b)) hw hf (fun t ht => by simp [Op.operands] at ht) rfl (fun w => rfl) h

/-! ### writes -/
theorem W.loud {op : Op} {dst : Option Tmp} {N M : List Ent} {R : Value → List Ent → Prop} (hw : wants ops ⟨dst, op, ty, pos, aft, g⟩ E.get = some true) (hf : fits n ⟨dst, op, ty, pos, aft, g⟩ = true) (hk : ∀ t, Operand.tmp t ∈ op.operands → E.get t ≠ none) (hq : kindOf op = .loud)
    (hp : V.Perm (N ++ M)) (hr : Tri P E.get ⟨dst, op, ty, pos, aft, g⟩ N R) (h : ∀ v N', R v N' → SW P ops n bars K l (upd E.get dst v) St (N' ++ M)) : W P ops n bars K ((i, ⟨dst, op, ty, pos, aft, g⟩) :: l) E St V :=
  fun _ => ⟨hf, .loud N R, ⟨hw, hk, hq, hr⟩, M, hp, h⟩
theorem W.barS {op : Op} {dst : Option Tmp} {k : Nat} {A : HP} {M : List Ent} {A' : HP} {v : Value} (hw : wants ops ⟨dst, op, ty, pos, aft, g⟩ E.get = some true) (hf : fits n ⟨dst, op, ty, pos, aft, g⟩ = true) (hk : ∀ t, Operand.tmp t ∈ op.operands → E.get t ≠ none) (hq : kindOf op = .loud)
    (hb : bars i = true) (hp : PickK St k A M) (hr : Tri P E.get ⟨dst, op, ty, pos, aft, g⟩ [(k, A)] fun u N => u = v ∧ N = [(k, A')]) (h : SW P ops n bars K l (upd E.get dst v) ((k, A') :: M) V) : W P ops n bars K ((i, ⟨dst, op, ty, pos, aft, g⟩) :: l) E St V :=
  fun _ => ⟨hf, .bar _ _, ⟨hw, hk, hq, hb, hr⟩, M ++ V, by simpa using hp.perm.append_right V, fun u N' ⟨h1, h2⟩ => ⟨(k, A') :: M, V, by subst h2; simp, by subst h1; exact h⟩⟩
theorem run_storeCells_in {P : Program} : ∀ (vs : List Value) (w : World) (b off j : Nat) (c : Array Value) (T0 : TypeId), w.heap[b]? = some (.cells c T0 (0, 0)) → off + j + vs.length ≤ c.size → (∀ v ∈ vs, v.oneCell' = true) →
    ∃ w' c', (storeCells ⟨b, off, none⟩ vs j).run P w = .ok () w' ∧ strOf w' = strOf w ∧ w'.heap[b]? = some (.cells c' T0 (0, 0)) ∧ (∀ k, k ≠ b → w'.heap[k]? = w.heap[k]?) ∧ c'.toList = c.toList.take (off + j) ++ vs ++ c.toList.drop (off + j + vs.length) := by
  intro vs
  induction vs with
  | nil => intro w b off j c T0 hb _ _; exact ⟨w, c, rfl, rfl, hb, fun _ _ => rfl, by simp⟩
  | cons v vs ih =>
    intro w b off j c T0 hb hsz h1
    simp only [List.length_cons] at hsz
    have hadd : (⟨b, off, none⟩ : Addr).add j = ⟨b, off + j, none⟩ := by unfold Addr.add; split <;> simp_all
    have hlt : off + j < c.size := by omega
    have hst : (store ⟨b, off + j, none⟩ v).run P w = .ok () (w.setCell ⟨b, off + j, none⟩ v) := by
      have hc := cell_of_block hb (off + j)
      rw [Array.getElem?_eq_getElem hlt] at hc
      have hv := h1 v (List.mem_cons_self ..)
      have hfz := free_of_block hb (off + j)
      cases v <;> simp [Value.oneCell'] at hv <;> simp [store, Sem.run, hc, hfz]
    have hb' : (w.setCell ⟨b, off + j, none⟩ v).heap[b]? = some (.cells (c.setIfInBounds (off + j) v) T0 (0, 0)) := heap_setCell_same w b _ c T0 v hb
    obtain ⟨w', c', r1, r2, r3, r4, r5⟩ := ih (w.setCell ⟨b, off + j, none⟩ v) b off (j + 1) _ T0 hb' (by simp; omega) (fun u hu => h1 u (List.mem_cons_of_mem _ hu))
    refine ⟨w', c', ?_, r2.trans rfl, r3, fun k hk => (r4 k hk).trans (heap_setCell_other w _ k v hk), ?_⟩
    · simp only [storeCells, Sem.run_bind, hadd, hst, Result.andThen_ok]
      exact r1
    · rw [r5]
      simp only [Array.toList_setIfInBounds]
      rw [show off + (j + 1) = off + j + 1 from by omega]
      have e1 : (c.toList.set (off + j) v).take (off + j + 1) = c.toList.take (off + j) ++ [v] := by
        rw [List.take_add_one, List.take_set_of_le (Nat.le_refl _)]
        simp [hlt]
      rw [e1, List.drop_set, if_pos (by omega)]
      simp [Nat.add_assoc, Nat.add_comm 1]
def setAt (c : List Value) (off : Nat) (vs : List Value) : List Value := c.take off ++ vs ++ c.drop (off + vs.length)
theorem tri_store {T : TypeId} {x y : Operand} {b off : Nat} {c : Array Value} {T0 : TypeId} {v : Value} {sz by_ : Nat} {z : Value} (hx : evO E x = some (.pointer (some ⟨b, off, none⟩))) (hy : evO E y = some v)
    (hi : Inf P T sz by_ z) (hs : v.cells.size = sz) (hone : ∀ u ∈ v.cells.toList, u.oneCell' = true) (hin : off + sz ≤ c.size) (k : Nat) {dst : Option Tmp} :
    Tri P E.get ⟨dst, .store T x y, ty, pos, aft, g⟩ [(k, pts b (.cells c T0 (0, 0)))] fun u N => u = undef ∧ N = [(k, pts b (.cells (setAt c.toList off v.cells.toList).toArray T0 (0, 0)))] := by
  intro σ F w hsat
  have hb : w.heap[b]? = some (.cells c T0 (0, 0)) := Sat.block (k := k) (As := F) hsat
  obtain ⟨w', c', r1, r2, r3, r4, r5⟩ := run_storeCells_in (P := P) v.cells.toList w b off 0 c T0 hb (by simp; omega) hone
  have hrun : (Instr.storeAt T (.pointer (some ⟨b, off, none⟩)) v).run P w = .ok () w' := by
    simp only [Instr.storeAt, Instr.sureAddr, Sem.run_bind, Sem.run_pure, Result.andThen_ok, storeVar, run_sizeOf hi, hs, ne_eq, not_true_eq_false, ite_false]
    exact r1
  simp only [execOp, evO_evf hx, evO_evf hy, Sem.run_bind, hrun, Result.andThen_ok, Sem.run_pure, Outc]
  refine ⟨_, ⟨trivial, rfl⟩, ?_⟩
  refine Sat.setObj (o := .cells c T0 (0, 0)) hsat r2 ?_ (fun k _ hk => r4 k hk)
  rw [r3]
  have : c' = (setAt c.toList off v.cells.toList).toArray := by
    apply Array.ext'
    rw [r5]; simp [setAt]
  rw [this]
theorem W.store {T : TypeId} {x y : Operand} {b off : Nat} {c : Array Value} {T0 : TypeId} {v : Value} {sz by_ : Nat} {z : Value} {M : List Ent} (hw : wants ops ⟨none, .store T x y, ty, pos, aft, g⟩ E.get = some true) (hf : fits n ⟨none, .store T x y, ty, pos, aft, g⟩ = true) (hx : evO E x = some (.pointer (some ⟨b, off, none⟩))) (hy : evO E y = some v)
    [hp : PickK V b (pts b (.cells c T0 (0, 0))) M] [hi : Inf P T sz by_ z] (hs : v.cells.size = sz) (hone : ∀ u ∈ v.cells.toList, u.oneCell' = true) (hin : off + sz ≤ c.size) {cs : List Value} (hc : setAt c.toList off v.cells.toList = cs)
    (h : W P ops n bars K l E St ((b, pts b (.cells cs.toArray T0 (0, 0))) :: M)) : W P ops n bars K ((i, ⟨none, .store T x y, ty, pos, aft, g⟩) :: l) E St V :=
  W.loud hw hf (k2 hx hy rfl) rfl hp.perm (tri_store hx hy hi hs hone hin b) fun u N' ⟨_, h2⟩ => by subst h2; rw [hc]; exact h
/-- A whole struct or array is written. -/
theorem W.storeA {T : TypeId} {x y : Operand} {b : Nat} {c cs : Array Value} {T0 : TypeId} {sz by_ : Nat} {z : Value} {M : List Ent} (hw : wants ops ⟨none, .store T x y, ty, pos, aft, g⟩ E.get = some true) (hf : fits n ⟨none, .store T x y, ty, pos, aft, g⟩ = true) (hx : evO E x = some (.pointer (some ⟨b, 0, none⟩))) (hy : evO E y = some (.agg cs))
    [hp : PickK V b (pts b (.cells c T0 (0, 0))) M] [hi : Inf P T sz by_ z] (hs : cs.size = sz) (hc : c.size = sz) (hone : ∀ u ∈ cs.toList, u.oneCell' = true)
    (h : W P ops n bars K l E St ((b, pts b (.cells cs T0 (0, 0))) :: M)) : W P ops n bars K ((i, ⟨none, .store T x y, ty, pos, aft, g⟩) :: l) E St V :=
  W.store hw hf hx hy (by simpa [Value.cells] using hs) (by simpa [Value.cells] using hone) (by omega) (cs := cs.toList) (by
    simp [setAt, Value.cells, hs, hc]) (by simpa using h)
/-- One cell is written. -/
theorem W.store1 {T : TypeId} {x y : Operand} {b off : Nat} {c : Array Value} {T0 : TypeId} {v : Value} {by_ : Nat} {z : Value} {M : List Ent} (hw : wants ops ⟨none, .store T x y, ty, pos, aft, g⟩ E.get = some true) (hf : fits n ⟨none, .store T x y, ty, pos, aft, g⟩ = true) (hx : evO E x = some (.pointer (some ⟨b, off, none⟩))) (hy : evO E y = some v)
    [hp : PickK V b (pts b (.cells c T0 (0, 0))) M] [hi : Inf P T 1 by_ z] (hv : plainV v = true) (hone : v.oneCell' = true) (hin : Nat.blt off c.size = true) {cs : List Value} (hc : c.toList.set off v = cs)
    (h : W P ops n bars K l E St ((b, pts b (.cells cs.toArray T0 (0, 0))) :: M)) : W P ops n bars K ((i, ⟨none, .store T x y, ty, pos, aft, g⟩) :: l) E St V := by
  have hcells : v.cells = #[v] := by cases v <;> first | rfl | cases hv
  have hlt := Nat.le_of_ble_eq_true hin
  refine W.store hw hf hx hy (by rw [hcells]; rfl) (by rw [hcells]; simpa using hone) (by omega) (cs := cs) ?_ h
  rw [← hc, hcells]
  simp only [setAt, List.length_singleton]
  rw [List.set_eq_take_append_cons_drop, if_pos (by simp; omega)]
  simp
theorem W.storeS {T : TypeId} {x y : Operand} {b off : Nat} {c : Array Value} {T0 : TypeId} {v : Value} {sz by_ : Nat} {z : Value} {M : List Ent} (hw : wants ops ⟨none, .store T x y, ty, pos, aft, g⟩ E.get = some true) (hf : fits n ⟨none, .store T x y, ty, pos, aft, g⟩ = true) (hx : evO E x = some (.pointer (some ⟨b, off, none⟩))) (hy : evO E y = some v)
    (hb : bars i = true) [hp : PickK St b (pts b (.cells c T0 (0, 0))) M] [hi : Inf P T sz by_ z] (hs : v.cells.size = sz) (hone : ∀ u ∈ v.cells.toList, u.oneCell' = true) (hin : off + sz ≤ c.size) {cs : List Value} (hc : setAt c.toList off v.cells.toList = cs)
    (h : W P ops n bars K l E ((b, pts b (.cells cs.toArray T0 (0, 0))) :: M) V) : W P ops n bars K ((i, ⟨none, .store T x y, ty, pos, aft, g⟩) :: l) E St V :=
  W.barS hw hf (k2 hx hy rfl) rfl hb hp (tri_store hx hy hi hs hone hin b) (by rw [hc]; exact h)

theorem W.store1S {T : TypeId} {x y : Operand} {b off : Nat} {c : Array Value} {T0 : TypeId} {v : Value} {by_ : Nat} {z : Value} {M : List Ent} (hw : wants ops ⟨none, .store T x y, ty, pos, aft, g⟩ E.get = some true) (hf : fits n ⟨none, .store T x y, ty, pos, aft, g⟩ = true) (hx : evO E x = some (.pointer (some ⟨b, off, none⟩))) (hy : evO E y = some v)
    (hb : bars i = true) [hp : PickK St b (pts b (.cells c T0 (0, 0))) M] [hi : Inf P T 1 by_ z] (hv : plainV v = true) (hone : v.oneCell' = true) (hin : Nat.blt off c.size = true) {cs : List Value} (hc : c.toList.set off v = cs)
    (h : W P ops n bars K l E ((b, pts b (.cells cs.toArray T0 (0, 0))) :: M) V) : W P ops n bars K ((i, ⟨none, .store T x y, ty, pos, aft, g⟩) :: l) E St V := by
  have hcells : v.cells = #[v] := by cases v <;> first | rfl | cases hv
  have hlt := Nat.le_of_ble_eq_true hin
  refine W.storeS hw hf hx hy hb (by rw [hcells]; rfl) (by rw [hcells]; simpa using hone) (by omega) (cs := cs) ?_ h
  rw [← hc, hcells]
  simp only [setAt, List.length_singleton]
  rw [List.set_eq_take_append_cons_drop, if_pos (by simp; omega)]
  simp

/-! ### calls -/
theorem evL_spec : ∀ {xs : List Operand} {vs : List Value}, evL E xs = some vs → xs.map (evf E.get) = vs ∧ ∀ t, Operand.tmp t ∈ xs → E.get t ≠ none
  | [], vs, h => by simp [evL] at h; subst h; simp
  | x :: r, vs, h => by
    simp only [evL] at h
    cases hx : evO E x with
    | none => simp [hx] at h
    | some v =>
      cases hr : evL E r with
      | none => simp [hx, hr] at h
      | some us =>
        simp [hx, hr] at h
        subst h
        obtain ⟨h1, h2⟩ := evL_spec hr
        refine ⟨by rw [List.map_cons, h1, evO_evf hx], fun t ht => ?_⟩
        rcases List.mem_cons.1 ht with ht | ht
        · subst ht; exact evO_knows hx
        · exact h2 t ht
/-- A named function that has a body. -/
class Bod (P : Program) (f : FuncId) : Prop where
  out : ∃ fn c, P.funcs[f]? = some fn ∧ fn.body = some c ∧ (fn.name == "runtime.NumGoroutine") = false
theorem run_callFunc {f : FuncId} (hf : Bod P f) (args : Array Value) (w : World) : (callFunc f args).run P w = .ok (.enter f args) w := by
  obtain ⟨fn, c, h1, h2, h3⟩ := hf.out
  simp [callFunc, program, Sem.run, h1, h2]
  simpa using h3
theorem tri_call {f : FuncId} {xs : Array Operand} {Ts : Array TypeId} {vs : List Value} {N : List Ent} {Φ : Value → List Ent → Prop} {dst : Option Tmp} (hc : CallR P f vs N Φ) (hx : evL E xs.toList = some vs) (hf : Bod P f) :
    Tri P E.get ⟨dst, .call ⟨.value (.func f), xs, Ts⟩, ty, pos, aft, g⟩ N Φ := by
  intro σ F w hs
  obtain ⟨h1, _⟩ := evL_spec hx
  have e1 : xs.map (evf E.get) = vs.toArray := by
    apply Array.ext'
    rw [Array.toList_map, h1]
  have hrun : (execOp (evf E.get) ⟨dst, .call ⟨.value (.func f), xs, Ts⟩, ty, pos, aft, g⟩).run P w = .ok (.enter f vs.toArray) w := by
    simp [execOp, resolve, e1, evf, Deferred.ofValue, invoke, run_callFunc hf]
  rw [hrun]
  exact (hc σ F w hs).mono fun e w' ⟨v, N', a, b, c⟩ => ⟨v, b, N', a, c⟩
theorem W.call {f : FuncId} {xs : Array Operand} {Ts : Array TypeId} {vs : List Value} {ks : List Nat} {N M : List Ent} {Φ : Value → List Ent → Prop} (hc : CallR P f vs N Φ) (hk : N.map Prod.fst = ks) [hp : PickL V ks N M] [hb : Bod P f]
    (hw : wants ops ⟨some d, .call ⟨.value (.func f), xs, Ts⟩, ty, pos, aft, g⟩ E.get = some true) (hf : fits n ⟨some d, .call ⟨.value (.func f), xs, Ts⟩, ty, pos, aft, g⟩ = true) (hx : evL E xs.toList = some vs)
    (h : ∀ v N', Φ v N' → W P ops n bars K l ((d, v) :: E) St (N' ++ M)) : W P ops n bars K ((i, ⟨some d, .call ⟨.value (.func f), xs, Ts⟩, ty, pos, aft, g⟩) :: l) E St V :=
  W.loud hw hf (fun t ht => (evL_spec hx).2 t (by simpa [Op.operands, Call.operands] using ht)) rfl hp.perm (tri_call hc hx hb) fun v N' hR => by rw [put_get]; exact h v N' hR
/-- .. that hands back a known value, and turns one piece, or none, or two. -/
theorem W.call0 {f : FuncId} {xs : Array Operand} {Ts : Array TypeId} {vs : List Value} {v : Value} (hc : CallF P f vs [] v []) [hb : Bod P f]
    (hw : wants ops ⟨some d, .call ⟨.value (.func f), xs, Ts⟩, ty, pos, aft, g⟩ E.get = some true) (hf : fits n ⟨some d, .call ⟨.value (.func f), xs, Ts⟩, ty, pos, aft, g⟩ = true) (hx : evL E xs.toList = some vs)
    (h : W P ops n bars K l ((d, v) :: E) St V) : W P ops n bars K ((i, ⟨some d, .call ⟨.value (.func f), xs, Ts⟩, ty, pos, aft, g⟩) :: l) E St V :=
  W.call hc rfl (hp := ⟨List.Perm.refl V⟩) hw hf hx fun _ _ ⟨h1, h2⟩ => by subst h1; subst h2; exact h
theorem W.call1 {f : FuncId} {xs : Array Operand} {Ts : Array TypeId} {vs : List Value} {v : Value} {k : Nat} {A A' : HP} {M : List Ent} (hc : CallF P f vs [(k, A)] v [(k, A')]) [hp : PickK V k A M] [hb : Bod P f]
    (hw : wants ops ⟨some d, .call ⟨.value (.func f), xs, Ts⟩, ty, pos, aft, g⟩ E.get = some true) (hf : fits n ⟨some d, .call ⟨.value (.func f), xs, Ts⟩, ty, pos, aft, g⟩ = true) (hx : evL E xs.toList = some vs)
    (h : W P ops n bars K l ((d, v) :: E) St ((k, A') :: M)) : W P ops n bars K ((i, ⟨some d, .call ⟨.value (.func f), xs, Ts⟩, ty, pos, aft, g⟩) :: l) E St V :=
  W.call hc rfl (hp := ⟨hp.perm⟩) hw hf hx fun _ _ ⟨h1, h2⟩ => by subst h1; subst h2; exact h
theorem W.call2 {f : FuncId} {xs : Array Operand} {Ts : Array TypeId} {vs : List Value} {v : Value} {k j : Nat} {A A' B B' : HP} {M M' : List Ent} (hc : CallF P f vs [(k, A), (j, B)] v [(k, A'), (j, B')]) [hp : PickK V k A M] [hq : PickK M j B M'] [hb : Bod P f]
    (hw : wants ops ⟨some d, .call ⟨.value (.func f), xs, Ts⟩, ty, pos, aft, g⟩ E.get = some true) (hf : fits n ⟨some d, .call ⟨.value (.func f), xs, Ts⟩, ty, pos, aft, g⟩ = true) (hx : evL E xs.toList = some vs)
    (h : W P ops n bars K l ((d, v) :: E) St ((k, A') :: (j, B') :: M')) : W P ops n bars K ((i, ⟨some d, .call ⟨.value (.func f), xs, Ts⟩, ty, pos, aft, g⟩) :: l) E St V :=
  W.call hc rfl (hp := ⟨hp.perm.trans (hq.perm.cons _)⟩) hw hf hx fun _ _ ⟨h1, h2⟩ => by subst h1; subst h2; exact h

/-- A guard that is not decided: two ways. -/
theorem W.guard {o : Oper} {gi : Nat} {want c : Bool} {t : Tmp} (hg : o.guard = some (gi, want)) (ht : (ops[gi]?).bind (·.dst) = some t) (hc : E.get t = some (.bool c))
    (h1 : c = true → W P ops n bars K ((i, o) :: l) ((t, .bool true) :: E) St V) (h2 : c = false → W P ops n bars K ((i, o) :: l) ((t, .bool false) :: E) St V) : W P ops n bars K ((i, o) :: l) E St V := by
  have e : ∀ v, E.get t = some v → Env.get ((t, v) :: E) = E.get := fun v hv => by
    funext k
    simp only [Env.get]
    cases hb : Nat.beq t k with
    | true => have := Nat.eq_of_beq_eq_true hb; subst this; simp [hv]
    | false => rfl
  cases c with
  | true => have := h1 rfl; unfold W at this ⊢; rw [e _ hc] at this; exact this
  | false => have := h2 rfl; unfold W at this ⊢; rw [e _ hc] at this; exact this

/-! ### len, min -/
theorem W.lenSlice {T e : TypeId} {x : Operand} {a : Option Addr} {m c : Nat} (hw : wants ops ⟨some d, .call ⟨.builtin .len, #[x], #[T]⟩, ty, pos, aft, g⟩ E.get = some true) (hf : fits n ⟨some d, .call ⟨.builtin .len, #[x], #[T]⟩, ty, pos, aft, g⟩ = true) (hx : evO E x = some (.slice a m c)) [hu : Und P T (.slice e)]
    (h : W P ops n bars K l ((d, .int .i64 m) :: E) St V) : W P ops n bars K ((i, ⟨some d, .call ⟨.builtin .len, #[x], #[T]⟩, ty, pos, aft, g⟩) :: l) E St V :=
  W.quiet hw hf (k1 hx rfl) rfl (fun w => by simp [execOp, resolve, invoke, builtin, evO_evf hx, Builtin.len_, run_underlying hu.out, goInt]) h
theorem W.min2 {Ts : Array TypeId} {x y : Operand} {k j : IntKind} {a b : Int} (hw : wants ops ⟨some d, .call ⟨.builtin .min, #[x, y], Ts⟩, ty, pos, aft, g⟩ E.get = some true) (hf : fits n ⟨some d, .call ⟨.builtin .min, #[x, y], Ts⟩, ty, pos, aft, g⟩ = true) (hx : evO E x = some (.int k a)) (hy : evO E y = some (.int j b))
    (h : W P ops n bars K l ((d, .int k (min a b)) :: E) St V) : W P ops n bars K ((i, ⟨some d, .call ⟨.builtin .min, #[x, y], Ts⟩, ty, pos, aft, g⟩) :: l) E St V :=
  W.quiet hw hf (k2 hx hy rfl) rfl (fun w => by
    have : (if b < a then b else a) = min a b := by omega
    simp [execOp, resolve, invoke, builtin, evO_evf hx, evO_evf hy, Builtin.min_, Builtin.min2, this]) h

/-! ### reads -/
theorem W.quietV {op : Op} {v : Value} (hw : wants ops ⟨some d, op, ty, pos, aft, g⟩ E.get = some true) (hf : fits n ⟨some d, op, ty, pos, aft, g⟩ = true) (hk : ∀ t, Operand.tmp t ∈ op.operands → E.get t ≠ none) (hq : kindOf op = .load) (hb : bars i = true)
    (hr : ∀ σ F w, Sat σ w (St ++ V ++ F) → (execOp (evf E.get) ⟨some d, op, ty, pos, aft, g⟩).run P w = .ok (.value v) w) (h : W P ops n bars K l ((d, v) :: E) St V) : W P ops n bars K ((i, ⟨some d, op, ty, pos, aft, g⟩) :: l) E St V :=
  fun _ => ⟨hf, .quietV v, ⟨hw, hk, hq, hb, hr⟩, by show SW P ops n bars K l (upd E.get (some d) v) St V; rw [put_get]; exact h⟩
theorem W.quietS {op : Op} {v : Value} (hw : wants ops ⟨some d, op, ty, pos, aft, g⟩ E.get = some true) (hf : fits n ⟨some d, op, ty, pos, aft, g⟩ = true) (hk : ∀ t, Operand.tmp t ∈ op.operands → E.get t ≠ none) (hq : kindOf op = .load)
    (hr : ∀ σ F w, Sat σ w (St ++ F) → (execOp (evf E.get) ⟨some d, op, ty, pos, aft, g⟩).run P w = .ok (.value v) w) (h : W P ops n bars K l ((d, v) :: E) St V) : W P ops n bars K ((i, ⟨some d, op, ty, pos, aft, g⟩) :: l) E St V :=
  fun _ => ⟨hf, .quiet v, ⟨hw, hk, by rw [hq]; rfl, .inr ⟨hq, hr⟩⟩, by show SW P ops n bars K l (upd E.get (some d) v) St V; rw [put_get]; exact h⟩
theorem run_load1 {T : TypeId} {D : TypeDesc} {w : World} {b off : Nat} {c : Array Value} {T0 : TypeId} {fz : Nat × Nat} {v : Value} (hd : Und P T D) (ha : aggD D = false) (hb : w.heap[b]? = some (.cells c T0 fz)) (hv : c.toList[off]? = some v) :
    (Instr.loadAt T (.pointer (some ⟨b, off, none⟩))).run P w = .ok v w := by
  simp only [Array.getElem?_toList] at hv
  simp [Instr.loadAt, Instr.sureAddr, loadVar, run_isAgg hd, ha, load, Sem.run, cell_of_block hb, hv]
theorem run_loadA {T : TypeId} {D : TypeDesc} {sz by_ : Nat} {z : Value} {w : World} {b off : Nat} {c : Array Value} {T0 : TypeId} {fz : Nat × Nat} (hd : Und P T D) (ha : aggD D = true) (hi : Inf P T sz by_ z) (hb : w.heap[b]? = some (.cells c T0 fz)) (hs : off + sz ≤ c.size) :
    (Instr.loadAt T (.pointer (some ⟨b, off, none⟩))).run P w = .ok (.agg (c.extract off (off + sz))) w := by
  simp [Instr.loadAt, Instr.sureAddr, run_loadVar_all hd ha hi hb off hs]
theorem sat_blockV {σ : Str} {F : List Ent} {b : Nat} {o : Obj} {M : List Ent} {w : World} (hs : Sat σ w (St ++ V ++ F)) (p : PickK V b (pts b o) M) : w.heap[b]? = some o :=
  sat_block (As := V) (F := St ++ F) (hs.perm (by
    rw [← List.append_assoc]
    exact List.perm_append_comm.append_right F)) p
/-- One cell, out of what stays. -/
theorem W.ld {T : TypeId} {x : Operand} {b off : Nat} {c : Array Value} {T0 : TypeId} {fz : Nat × Nat} {M : List Ent} {D : TypeDesc} {v : Value} (hw : wants ops ⟨some d, .load T x, ty, pos, aft, g⟩ E.get = some true) (hf : fits n ⟨some d, .load T x, ty, pos, aft, g⟩ = true) (hx : evO E x = some (.pointer (some ⟨b, off, none⟩)))
    [hp : PickK St b (pts b (.cells c T0 fz)) M] [hd : Und P T D] (ha : aggD D = false) (hv : c.toList[off]? = some v) (h : W P ops n bars K l ((d, v) :: E) St V) : W P ops n bars K ((i, ⟨some d, .load T x, ty, pos, aft, g⟩) :: l) E St V :=
  W.quietS hw hf (k1 hx rfl) rfl (fun σ F w hs => by simp [execOp, evO_evf hx, run_load1 hd ha (sat_block hs hp) hv]) h
/-- One cell, out of what may turn. -/
theorem W.ldV {T : TypeId} {x : Operand} {b off : Nat} {c : Array Value} {T0 : TypeId} {fz : Nat × Nat} {M : List Ent} {D : TypeDesc} {v : Value} (hw : wants ops ⟨some d, .load T x, ty, pos, aft, g⟩ E.get = some true) (hf : fits n ⟨some d, .load T x, ty, pos, aft, g⟩ = true) (hx : evO E x = some (.pointer (some ⟨b, off, none⟩)))
    (hb : bars i = true) [hp : PickK V b (pts b (.cells c T0 fz)) M] [hd : Und P T D] (ha : aggD D = false) (hv : c.toList[off]? = some v) (h : W P ops n bars K l ((d, v) :: E) St V) : W P ops n bars K ((i, ⟨some d, .load T x, ty, pos, aft, g⟩) :: l) E St V :=
  W.quietV hw hf (k1 hx rfl) rfl hb (fun σ F w hs => by simp [execOp, evO_evf hx, run_load1 hd ha (sat_blockV hs hp) hv]) h
/-- A whole struct or array. -/
theorem W.lda {T : TypeId} {x : Operand} {b : Nat} {c : Array Value} {T0 : TypeId} {fz : Nat × Nat} {M : List Ent} {D : TypeDesc} {sz by_ : Nat} {z : Value} (hw : wants ops ⟨some d, .load T x, ty, pos, aft, g⟩ E.get = some true) (hf : fits n ⟨some d, .load T x, ty, pos, aft, g⟩ = true) (hx : evO E x = some (.pointer (some ⟨b, 0, none⟩)))
    [hp : PickK St b (pts b (.cells c T0 fz)) M] [hd : Und P T D] (ha : aggD D = true) [hi : Inf P T sz by_ z] (hs : c.size = sz) (h : W P ops n bars K l ((d, .agg c) :: E) St V) : W P ops n bars K ((i, ⟨some d, .load T x, ty, pos, aft, g⟩) :: l) E St V :=
  W.quietS hw hf (k1 hx rfl) rfl (fun σ F w hsa => by
    have := run_loadA hd ha hi (sat_block hsa hp) (off := 0) (by omega)
    rw [extract_self hs] at this
    simp [execOp, evO_evf hx, this]) h
theorem W.ldaV {T : TypeId} {x : Operand} {b : Nat} {c : Array Value} {T0 : TypeId} {fz : Nat × Nat} {M : List Ent} {D : TypeDesc} {sz by_ : Nat} {z : Value} (hw : wants ops ⟨some d, .load T x, ty, pos, aft, g⟩ E.get = some true) (hf : fits n ⟨some d, .load T x, ty, pos, aft, g⟩ = true) (hx : evO E x = some (.pointer (some ⟨b, 0, none⟩)))
    (hb : bars i = true) [hp : PickK V b (pts b (.cells c T0 fz)) M] [hd : Und P T D] (ha : aggD D = true) [hi : Inf P T sz by_ z] (hs : c.size = sz) (h : W P ops n bars K l ((d, .agg c) :: E) St V) : W P ops n bars K ((i, ⟨some d, .load T x, ty, pos, aft, g⟩) :: l) E St V :=
  W.quietV hw hf (k1 hx rfl) rfl hb (fun σ F w hsa => by
    have := run_loadA hd ha hi (sat_blockV hsa hp) (off := 0) (by omega)
    rw [extract_self hs] at this
    simp [execOp, evO_evf hx, this]) h
/-- A part. -/
theorem W.ldp {T : TypeId} {x : Operand} {b off : Nat} {c : Array Value} {T0 : TypeId} {fz : Nat × Nat} {M : List Ent} {D : TypeDesc} {sz by_ : Nat} {z : Value} (hw : wants ops ⟨some d, .load T x, ty, pos, aft, g⟩ E.get = some true) (hf : fits n ⟨some d, .load T x, ty, pos, aft, g⟩ = true) (hx : evO E x = some (.pointer (some ⟨b, off, none⟩)))
    [hp : PickK St b (pts b (.cells c T0 fz)) M] [hd : Und P T D] (ha : aggD D = true) [hi : Inf P T sz by_ z] (hs : off + sz ≤ c.size) (h : W P ops n bars K l ((d, .agg (c.extract off (off + sz))) :: E) St V) : W P ops n bars K ((i, ⟨some d, .load T x, ty, pos, aft, g⟩) :: l) E St V :=
  W.quietS hw hf (k1 hx rfl) rfl (fun σ F w hsa => by simp [execOp, evO_evf hx, run_loadA hd ha hi (sat_block hsa hp) hs]) h
theorem W.ldpV {T : TypeId} {x : Operand} {b off : Nat} {c : Array Value} {T0 : TypeId} {fz : Nat × Nat} {M : List Ent} {D : TypeDesc} {sz by_ : Nat} {z : Value} (hw : wants ops ⟨some d, .load T x, ty, pos, aft, g⟩ E.get = some true) (hf : fits n ⟨some d, .load T x, ty, pos, aft, g⟩ = true) (hx : evO E x = some (.pointer (some ⟨b, off, none⟩)))
    (hb : bars i = true) [hp : PickK V b (pts b (.cells c T0 fz)) M] [hd : Und P T D] (ha : aggD D = true) [hi : Inf P T sz by_ z] (hs : off + sz ≤ c.size) (h : W P ops n bars K l ((d, .agg (c.extract off (off + sz))) :: E) St V) : W P ops n bars K ((i, ⟨some d, .load T x, ty, pos, aft, g⟩) :: l) E St V :=
  W.quietV hw hf (k1 hx rfl) rfl hb (fun σ F w hsa => by simp [execOp, evO_evf hx, run_loadA hd ha hi (sat_blockV hsa hp) hs]) h
theorem extract_take {c : Array Value} {off sz : Nat} {cs : List Value} (hc : (c.toList.drop off).take sz = cs) : c.extract off (off + sz) = cs.toArray := by
  apply Array.ext'
  rw [Array.toList_extract, ← hc]
  simp [List.extract]
/-- A part, laid out. -/
theorem W.ldq {T : TypeId} {x : Operand} {b off : Nat} {c : Array Value} {T0 : TypeId} {fz : Nat × Nat} {M : List Ent} {D : TypeDesc} {sz by_ : Nat} {z : Value} {cs : List Value} (hw : wants ops ⟨some d, .load T x, ty, pos, aft, g⟩ E.get = some true) (hf : fits n ⟨some d, .load T x, ty, pos, aft, g⟩ = true) (hx : evO E x = some (.pointer (some ⟨b, off, none⟩)))
    [hp : PickK St b (pts b (.cells c T0 fz)) M] [hd : Und P T D] (ha : aggD D = true) [hi : Inf P T sz by_ z] (hs : Nat.ble (off + sz) c.size = true) (hc : (c.toList.drop off).take sz = cs) (h : W P ops n bars K l ((d, .agg cs.toArray) :: E) St V) : W P ops n bars K ((i, ⟨some d, .load T x, ty, pos, aft, g⟩) :: l) E St V :=
  W.ldp hw hf hx ha (Nat.le_of_ble_eq_true hs) (by rw [extract_take hc]; exact h)
theorem W.ldqV {T : TypeId} {x : Operand} {b off : Nat} {c : Array Value} {T0 : TypeId} {fz : Nat × Nat} {M : List Ent} {D : TypeDesc} {sz by_ : Nat} {z : Value} {cs : List Value} (hw : wants ops ⟨some d, .load T x, ty, pos, aft, g⟩ E.get = some true) (hf : fits n ⟨some d, .load T x, ty, pos, aft, g⟩ = true) (hx : evO E x = some (.pointer (some ⟨b, off, none⟩)))
    (hb : bars i = true) [hp : PickK V b (pts b (.cells c T0 fz)) M] [hd : Und P T D] (ha : aggD D = true) [hi : Inf P T sz by_ z] (hs : Nat.ble (off + sz) c.size = true) (hc : (c.toList.drop off).take sz = cs) (h : W P ops n bars K l ((d, .agg cs.toArray) :: E) St V) : W P ops n bars K ((i, ⟨some d, .load T x, ty, pos, aft, g⟩) :: l) E St V :=
  W.ldpV hw hf hx hb ha (Nat.le_of_ble_eq_true hs) (by rw [extract_take hc]; exact h)
/-! ### the same, of known numbers -/
theorem W.add64E {T U : TypeId} {x y : Operand} {a b c : Int} (hw : wants ops ⟨some d, .binOp .add T x y U, ty, pos, aft, g⟩ E.get = some true) (hf : fits n ⟨some d, .binOp .add T x y U, ty, pos, aft, g⟩ = true) (hx : evO E x = some (.int .i64 a)) (hy : evO E y = some (.int .i64 b))
    (hc : a + b = c) (h1 : -9223372036854775808 ≤ c ∧ c ≤ 9223372036854775807) (h : W P ops n bars K l ((d, .int .i64 c) :: E) St V) : W P ops n bars K ((i, ⟨some d, .binOp .add T x y U, ty, pos, aft, g⟩) :: l) E St V := by
  subst hc; exact W.add64 hw hf hx hy h1 h
theorem W.indexAddrE {x y : Operand} {T e len sz by_ : Nat} {z : Value} {b off o : Nat} {k : IntKind} {m : Int} (hw : wants ops ⟨some d, .indexAddr T x y, ty, pos, aft, g⟩ E.get = some true) (hf : fits n ⟨some d, .indexAddr T x y, ty, pos, aft, g⟩ = true) (hx : evO E x = some (.pointer (some ⟨b, off, none⟩))) (hy : evO E y = some (.int k m))
    [hu : Und P T (.array len e)] [hi : Inf P e sz by_ z] (hm : 0 ≤ m ∧ m < len) (ho : off + m.toNat * sz = o) (h : W P ops n bars K l ((d, .pointer (some ⟨b, o, none⟩)) :: E) St V) : W P ops n bars K ((i, ⟨some d, .indexAddr T x y, ty, pos, aft, g⟩) :: l) E St V := by
  subst ho; exact W.indexAddrA hw hf hx hy hm h
theorem W.indexAnE {x y : Operand} {T e len sz by_ : Nat} {z : Value} {c : Array Value} {D : TypeDesc} {k : IntKind} {m : Int} {cs : List Value} (hw : wants ops ⟨some d, .index T x y, ty, pos, aft, g⟩ E.get = some true) (hf : fits n ⟨some d, .index T x y, ty, pos, aft, g⟩ = true) (hx : evO E x = some (.agg c)) (hy : evO E y = some (.int k m))
    [hu : Und P T (.array len e)] [hi : Inf P e sz by_ z] [hd : Und P e D] (ha : aggD D = true) (hm : 0 ≤ m ∧ m < len) (hc : (c.toList.drop (m.toNat * sz)).take sz = cs) (h : W P ops n bars K l ((d, .agg cs.toArray) :: E) St V) : W P ops n bars K ((i, ⟨some d, .index T x y, ty, pos, aft, g⟩) :: l) E St V :=
  W.indexAn hw hf hx hy ha hm (by rw [extract_take hc]; exact h)
/-- A part is written. -/
theorem W.storeE {T : TypeId} {x y : Operand} {b off : Nat} {c cs' : Array Value} {T0 : TypeId} {sz by_ : Nat} {z : Value} {M : List Ent} (hw : wants ops ⟨none, .store T x y, ty, pos, aft, g⟩ E.get = some true) (hf : fits n ⟨none, .store T x y, ty, pos, aft, g⟩ = true) (hx : evO E x = some (.pointer (some ⟨b, off, none⟩))) (hy : evO E y = some (.agg cs'))
    [hp : PickK V b (pts b (.cells c T0 (0, 0))) M] [hi : Inf P T sz by_ z] (hs : cs'.size = sz) (hone : ∀ u ∈ cs'.toList, u.oneCell' = true) (hin : Nat.ble (off + sz) c.size = true) {cs : List Value} (hc : c.toList.take off ++ cs'.toList ++ c.toList.drop (off + sz) = cs)
    (h : W P ops n bars K l E St ((b, pts b (.cells cs.toArray T0 (0, 0))) :: M)) : W P ops n bars K ((i, ⟨none, .store T x y, ty, pos, aft, g⟩) :: l) E St V :=
  W.store hw hf hx hy (by simpa [Value.cells] using hs) (by simpa [Value.cells] using hone) (Nat.le_of_ble_eq_true hin) (by subst hs; simpa [setAt, Value.cells] using hc) h
structure ConvE (k : IntKind) (a c : Int) : Prop where
  out : k.wrap a = c
theorem W.convE {S T : TypeId} {D : TypeDesc} {x : Operand} {j k : IntKind} {a c : Int} (hw : wants ops ⟨some d, .convert S T x, ty, pos, aft, g⟩ E.get = some true) (hf : fits n ⟨some d, .convert S T x, ty, pos, aft, g⟩ = true) (hx : evO E x = some (.int j a)) [hs : Und P S D] [hu : Und P T (.int k)]
    (hc : ConvE k a c) (h : W P ops n bars K l ((d, .int k c) :: E) St V) : W P ops n bars K ((i, ⟨some d, .convert S T x, ty, pos, aft, g⟩) :: l) E St V := by
  obtain ⟨rfl⟩ := hc; exact W.conv hw hf hx h
structure ShlE (k : IntKind) (a b c : Int) : Prop where
  out : shlI k a b = c
theorem W.shlE {T U : TypeId} {x y : Operand} {k j : IntKind} {a b c : Int} (hw : wants ops ⟨some d, .binOp .shl T x y U, ty, pos, aft, g⟩ E.get = some true) (hf : fits n ⟨some d, .binOp .shl T x y U, ty, pos, aft, g⟩ = true) (hx : evO E x = some (.int k a)) (hy : evO E y = some (.int j b))
    (hb : 0 ≤ b) (hc : ShlE k a b c) (h : W P ops n bars K l ((d, .int k c) :: E) St V) : W P ops n bars K ((i, ⟨some d, .binOp .shl T x y U, ty, pos, aft, g⟩) :: l) E St V := by
  obtain ⟨rfl⟩ := hc; exact W.shl hw hf hx hy hb h
end
end Go.Sq
