/-
  Arithmetic with results worked out.
-/
import Derived.Test.YtphnadpmpcifoaaDoorOps
namespace Go.Sq
variable {P : Program} {ops : Array Oper} {n : Nat} {bars : Nat → Bool} {K : EnvF → List Ent → List Ent → Prop} {l : List (Nat × Oper)} {E : Env} {St V : List Ent} {i : Nat} {d : Tmp} {ty : TypeId} {pos : String} {aft : Array Edge} {g : Option (Nat × Bool)}
theorem W.sub64E {T U : TypeId} {x y : Operand} {a b c : Int} (hw : wants ops ⟨some d, .binOp .sub T x y U, ty, pos, aft, g⟩ E.get = some true) (hf : fits n ⟨some d, .binOp .sub T x y U, ty, pos, aft, g⟩ = true) (hx : evO E x = some (.int .i64 a)) (hy : evO E y = some (.int .i64 b))
    (hc : a - b = c) (h1 : -9223372036854775808 ≤ c ∧ c ≤ 9223372036854775807) (h : W P ops n bars K l ((d, .int .i64 c) :: E) St V) : W P ops n bars K ((i, ⟨some d, .binOp .sub T x y U, ty, pos, aft, g⟩) :: l) E St V := by
  subst hc; exact W.sub64 hw hf hx hy h1 h
theorem W.mul64E {T U : TypeId} {x y : Operand} {a b c : Int} (hw : wants ops ⟨some d, .binOp .mul T x y U, ty, pos, aft, g⟩ E.get = some true) (hf : fits n ⟨some d, .binOp .mul T x y U, ty, pos, aft, g⟩ = true) (hx : evO E x = some (.int .i64 a)) (hy : evO E y = some (.int .i64 b))
    (hc : a * b = c) (h1 : -9223372036854775808 ≤ c ∧ c ≤ 9223372036854775807) (h : W P ops n bars K l ((d, .int .i64 c) :: E) St V) : W P ops n bars K ((i, ⟨some d, .binOp .mul T x y U, ty, pos, aft, g⟩) :: l) E St V := by
  subst hc; exact W.mul64 hw hf hx hy h1 h
theorem W.remE {T U : TypeId} {x y : Operand} {k : IntKind} {a b c : Int} (hw : wants ops ⟨some d, .binOp .rem T x y U, ty, pos, aft, g⟩ E.get = some true) (hf : fits n ⟨some d, .binOp .rem T x y U, ty, pos, aft, g⟩ = true) (hx : evO E x = some (.int k a)) (hy : evO E y = some (.int k b))
    (ha : 0 ≤ a) (hb : 0 < b) (hc : a % b = c) (h : W P ops n bars K l ((d, .int k c) :: E) St V) : W P ops n bars K ((i, ⟨some d, .binOp .rem T x y U, ty, pos, aft, g⟩) :: l) E St V := by
  subst hc; exact W.rem hw hf hx hy ha hb h
theorem W.quoE {T U : TypeId} {x y : Operand} {a b c : Int} (hw : wants ops ⟨some d, .binOp .quo T x y U, ty, pos, aft, g⟩ E.get = some true) (hf : fits n ⟨some d, .binOp .quo T x y U, ty, pos, aft, g⟩ = true) (hx : evO E x = some (.int .i64 a)) (hy : evO E y = some (.int .i64 b))
    (ha : 0 ≤ a) (hb : 0 < b) (hc : a / b = c) (h1 : -9223372036854775808 ≤ c ∧ c ≤ 9223372036854775807) (h : W P ops n bars K l ((d, .int .i64 c) :: E) St V) : W P ops n bars K ((i, ⟨some d, .binOp .quo T x y U, ty, pos, aft, g⟩) :: l) E St V := by
  subst hc; exact W.quo hw hf hx hy ha hb (wrap_i64 h1.1 h1.2) h
end Go.Sq
