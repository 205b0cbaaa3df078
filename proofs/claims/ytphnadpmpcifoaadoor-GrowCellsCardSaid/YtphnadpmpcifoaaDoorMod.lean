/-
  The plain model of a store of squares (package quad): no program in sight.
-/
import Derived.Test.YtphnadpmpcifoaaDoorMem
namespace Go.Qm
open Go.Sq

/-- A square: a tile, or four squares. -/
structure Sq where
  lev : Int
  tile : Int
  k0 : Int
  k1 : Int
  k2 : Int
  k3 : Int
  deriving DecidableEq, Inhabited
def Sq.vals (q : Sq) : List Value := [.int .i64 q.lev, .int .u64 q.tile, .int .i64 q.k0, .int .i64 q.k1, .int .i64 q.k2, .int .i64 q.k3]
/-- A square as a value. -/
abbrev Sq.val (q : Sq) : Value := .agg #[.int .i64 q.lev, .int .u64 q.tile, .int .i64 q.k0, .int .i64 q.k1, .int .i64 q.k2, .int .i64 q.k3]
def i64 (x : Int) : Prop := -9223372036854775808 ≤ x ∧ x ≤ 9223372036854775807
def u64 (x : Int) : Prop := 0 ≤ x ∧ x ≤ 18446744073709551615
structure Sq.In (q : Sq) : Prop where
  lev : i64 q.lev
  tile : u64 q.tile
  k0 : i64 q.k0
  k1 : i64 q.k1
  k2 : i64 q.k2
  k3 : i64 q.k3
/-- A store: its room, its squares, how many cells live in each. -/
structure St where
  room : Nat
  l : List Sq
  many : List Int
structure St.Rep (s : St) : Prop where
  len : s.many.length = s.l.length
  room : s.room ≤ 65536
  le : s.l.length ≤ s.room
  nodup : s.l.Nodup
  ins : ∀ q ∈ s.l, q.In
  many : ∀ m ∈ s.many, 0 ≤ m ∧ m ≤ 4611686018427387904
def St.at (s : St) (id : Int) : Option Sq := if 1 ≤ id then s.l[(id - 1).toNat]? else none
def St.manyAt (s : St) (id : Int) : Int := s.many.getD (id - 1).toNat 0
/-- The number of a square, new or not; none: no room. -/
def St.add (s : St) (q : Sq) (m : Int) : St × Option Int :=
  match s.l.idxOf? q with
  | some i => (s, some (i + 1))
  | none => if s.l.length < s.room then ({ s with l := s.l ++ [q], many := s.many ++ [m] }, some (s.l.length + 1)) else (s, none)

theorem St.at_some {s : St} {id : Int} {q : Sq} (h : s.at id = some q) : 1 ≤ id ∧ id ≤ s.l.length ∧ s.l[(id - 1).toNat]? = some q := by
  unfold St.at at h
  split at h
  · have := (List.getElem?_eq_some_iff.1 h).1
    exact ⟨by omega, by omega, h⟩
  · cases h
theorem St.at_none {s : St} {id : Int} (h : s.at id = none) : id < 1 ∨ (s.l.length : Int) < id := by
  unfold St.at at h
  split at h
  · have := List.getElem?_eq_none_iff.1 h
    omega
  · omega
theorem St.at_isSome {s : St} {id : Int} (h1 : 1 ≤ id) (h2 : id ≤ s.l.length) : ∃ q, s.at id = some q := by
  unfold St.at
  rw [if_pos h1]
  exact ⟨_, List.getElem?_eq_getElem (by omega)⟩

theorem nodupInj {α : Type _} {l : List α} (h : l.Nodup) {i j : Nat} (hi : i < l.length) (hj : j < l.length) (e : l[i] = l[j]) : i = j := by
  have hp := List.pairwise_iff_getElem.1 h
  rcases Nat.lt_trichotomy i j with hl | hl | hl
  · exact absurd e (hp i j hi hj hl)
  · exact hl
  · exact absurd e.symm (hp j i hj hi hl)
/-- What the map of squares holds. -/
def es (l : List Sq) : Array MapEntry := (l.zipIdx.map fun p => ⟨.agg p.1.vals.toArray, .int .i64 (p.2 + 1), p.2⟩).toArray
/-- The store's memory; T0: the store's type, T1: a square's, T2: int. -/
def pieces (T0 T1 T2 : TypeId) (s : Nat) (st : St) (vl : Value) (gl : Nat) (vm : Value) (gm bk : Nat) : List Ent :=
  [(s, pts s (.cells #[.int .i64 st.room, vl, vm, .map (some bk)] T0 (0, 0))), (gl, rowP gl T1 6 vl st.l.length (st.l.flatMap Sq.vals)),
   (gm, rowP gm T2 1 vm st.l.length (st.many.map (Value.int .i64))), (bk, pts bk (.map (es st.l) st.l.length))]
def storeQ (T0 T1 T2 : TypeId) (s : Nat) (st : St) : HP := fun h => st.Rep ∧ ∃ vl gl vm gm bk, Holds (pieces T0 T1 T2 s st vl gl vm gm bk) h

section
variable {T0 T1 T2 : TypeId} {s : Nat} {st : St} {σ : Str} {w : World} {As : List Ent}
theorem sat_open (hs : Sat σ w ((s, storeQ T0 T1 T2 s st) :: As)) : st.Rep ∧ ∃ vl gl vm gm bk, Sat σ w (pieces T0 T1 T2 s st vl gl vm gm bk ++ As) := by
  obtain ⟨h0, _, ⟨h1, h2, d, rfl, ⟨r, vl, gl, vm, gm, bk, a⟩, x⟩, hw⟩ := hs
  exact ⟨r, vl, gl, vm, gm, bk, h0, _, Holds.append.2 ⟨h1, h2, d, rfl, a, x⟩, hw⟩
theorem sat_shut {vl : Value} {gl : Nat} {vm : Value} {gm bk : Nat} (r : st.Rep) (hs : Sat σ w (pieces T0 T1 T2 s st vl gl vm gm bk ++ As)) : Sat σ w ((s, storeQ T0 T1 T2 s st) :: As) := by
  obtain ⟨h0, _, hh, hw⟩ := hs
  obtain ⟨h1, h2, d, rfl, a, x⟩ := Holds.append.1 hh
  exact ⟨h0, _, ⟨h1, h2, d, rfl, ⟨r, vl, gl, vm, gm, bk, a⟩, x⟩, hw⟩
end

theorem flat_len (l : List Sq) : (l.flatMap Sq.vals).length = l.length * 6 := by
  induction l with
  | nil => rfl
  | cons q l ih => simp [Sq.vals, ih]; omega
theorem flat_drop : ∀ (l : List Sq) (i : Nat) (q : Sq), l[i]? = some q → ((l.flatMap Sq.vals).drop (i * 6)).take 6 = q.vals
  | [], i, q, h => by simp at h
  | p :: l, 0, q, h => by simp at h; subst h; simp [Sq.vals]
  | p :: l, i + 1, q, h => by
    have := flat_drop l i q (by simpa using h)
    rw [List.flatMap_cons, show (i + 1) * 6 = p.vals.length + i * 6 from by simp [Sq.vals]; omega, ← List.drop_drop, List.drop_left]
    exact this
theorem sub_of_take {α : Type _} {l xs : List α} {m off k : Nat} (h : l.take m = xs) (hb : off + k ≤ m) : (l.drop off).take k = (xs.drop off).take k := by
  subst h
  rw [List.drop_take, List.take_take, Nat.min_eq_left (by omega)]
theorem extract_list {c : Array Value} {a b : Nat} {xs : List Value} (h : (c.toList.drop a).take (b - a) = xs) : c.extract a b = xs.toArray := by
  apply Array.ext'
  rw [Array.toList_extract]
  simpa [List.extract] using h
end Go.Qm
