/-
  The keys of the two maps: a square; what was asked.
-/
import Derived.Test.YtphnadpmpcifoaaDoorTy
import Derived.Test.YtphnadpmpcifoaaDoorMap
import Derived.Test.YtphnadpmpcifoaaDoorMod
namespace Go.Proofs.YtphnadpmpcifoaaDoor
open Go.Sq Go.Qm

theorem kl_int {P : Program} {t : TypeId} {q : IntKind} (hu : Und P t (.int q)) {n : Int} (h : (Lit.int q n).wf = true) (d : Nat) : P.keyLits (d + 1) t [.int q n] = some [.int q n] := by
  simp [Program.keyLits, hu.out, h]
theorem kl_array {P : Program} {t n e : Nat} (hu : Und P t (.array n e)) {cs : List Value} (hc : cs.length = P.cellsOf t) (d : Nat) : P.keyLits (d + 1) t cs = ((List.range n).mapM fun i => P.keyLits d e ((cs.drop (i * P.cellsOf e)).take (P.cellsOf e))).map List.flatten := by
  rw [Program.keyLits.eq_def]
  simp [hu.out, hc]
theorem kl_struct {P : Program} {t : Nat} {fs : Array Field} (hu : Und P t (.struct fs)) {cs : List Value} (hc : cs.length = P.cellsOf t) (hn : fs.all (·.name != "_") = true) (d : Nat) : P.keyLits (d + 1) t cs = (fs.toList.mapM fun f => P.keyLits d f.type ((cs.drop f.offset).take (P.cellsOf f.type))).map List.flatten := by
  rw [Program.keyLits.eq_def]
  simp only [hu.out, hc, hn, true_and, if_true]
theorem wf_i64 {x : Int} (h : i64 x) : (Lit.int .i64 x).wf = true := by
  have h1 := h.1; have h2 := h.2
  have e1 : IntKind.i64.min = -9223372036854775808 := rfl
  have e2 : IntKind.i64.max = 9223372036854775807 := rfl
  simp only [Lit.wf, e1, e2]; simp; omega
theorem wf_u64 {x : Int} (h : u64 x) : (Lit.int .u64 x).wf = true := by
  have h1 := h.1; have h2 := h.2
  have e1 : IntKind.u64.min = 0 := rfl
  have e2 : IntKind.u64.max = 18446744073709551615 := rfl
  simp only [Lit.wf, e1, e2]; simp; omega
theorem kl_four (d : Nat) {a0 a1 a2 a3 : Int} (h0 : (Lit.int .i64 a0).wf = true) (h1 : (Lit.int .i64 a1).wf = true) (h2 : (Lit.int .i64 a2).wf = true) (h3 : (Lit.int .i64 a3).wf = true) :
   Tryd.prog.keyLits (d + 2) 64 [.int .i64 a0, .int .i64 a1, .int .i64 a2, .int .i64 a3] = some [.int .i64 a0, .int .i64 a1, .int .i64 a2, .int .i64 a3] := by
  have c70 : Tryd.prog.cellsOf 64 = 4 := by kernel_rfl
  have c3 : Tryd.prog.cellsOf 3 = 1 := by kernel_rfl
  rw [kl_array (inferInstance : Und Tryd.prog 64 (.array 4 3)) (by rw [c70]; rfl) (d + 1)]
  simp [c3, List.range, List.range.loop, kl_int (inferInstance : Und Tryd.prog 3 _) h0 d, kl_int (inferInstance : Und Tryd.prog 3 _) h1 d, kl_int (inferInstance : Und Tryd.prog 3 _) h2 d, kl_int (inferInstance : Und Tryd.prog 3 _) h3 d]
theorem types_many : ∃ m, Tryd.prog.types.size + 1 = m + 4 := by
  have h : Nat.ble 3 Tryd.prog.types.size = true := by kernel_rfl
  have := Nat.le_of_ble_eq_true h
  exact ⟨Tryd.prog.types.size - 3, by omega⟩
theorem keySq (q : Sq) (h : q.In) : ∃ lx, keyOf Tryd.prog 80 q.val = some lx := by
  have hk : Tryd.prog.keyType 80 = true := by kernel_rfl
  have c75 : Tryd.prog.cellsOf 80 = 6 := by kernel_rfl
  have c70 : Tryd.prog.cellsOf 64 = 4 := by kernel_rfl
  have c3 : Tryd.prog.cellsOf 3 = 1 := by kernel_rfl
  have c67 : Tryd.prog.cellsOf 43 = 1 := by kernel_rfl
  obtain ⟨m, hn⟩ := types_many
  have hf : Value.formed Tryd.prog 80 q.val = true := by
    obtain ⟨a0, a1, a2, a3, a4, a5⟩ := q
    show Value.formed Tryd.prog 80 (.agg #[.int .i64 a0, .int .u64 a1, .int .i64 a2, .int .i64 a3, .int .i64 a4, .int .i64 a5]) = true
    kernel_rfl
  have hl : Tryd.prog.keyLits (m + 4) 80 [.int .i64 q.lev, .int .u64 q.tile, .int .i64 q.k0, .int .i64 q.k1, .int .i64 q.k2, .int .i64 q.k3] = some [.int .i64 q.lev, .int .u64 q.tile, .int .i64 q.k0, .int .i64 q.k1, .int .i64 q.k2, .int .i64 q.k3] := by
    rw [kl_struct (inferInstance : Und Tryd.prog 80 _) (by rw [c75]; rfl) (by kernel_rfl) (m + 3)]
    simp [c70, c3, c67, kl_int (inferInstance : Und Tryd.prog 3 _) (wf_i64 h.lev) (m + 2), kl_int (inferInstance : Und Tryd.prog 43 _) (wf_u64 h.tile) (m + 2), kl_four (m + 1) (wf_i64 h.k0) (wf_i64 h.k1) (wf_i64 h.k2) (wf_i64 h.k3)]
  refine ⟨.string (keyBytes [.int .i64 q.lev, .int .u64 q.tile, .int .i64 q.k0, .int .i64 q.k1, .int .i64 q.k2, .int .i64 q.k3]), ?_⟩
  unfold keyOf
  rw [Tryd.underlying80]
  simp only [hk, hf, hn, Value.cells, hl, Bool.and_self, if_true]
  rfl
theorem KSq : Maps.Keyed Tryd.prog 80 := Maps.Keyed.of_law (deep_law_laid (m := 5) (by kernel_rfl) (by omega) (Nat.le_of_ble_eq_true (by kernel_rfl)) (by kernel_rfl) (by kernel_rfl))
abbrev askV (a b : Int) : Value := .agg #[.int .i64 a, .int .i64 b]
theorem keyAsk {a b : Int} (ha : i64 a) (hb : i64 b) : ∃ lx, keyOf Tryd.prog 95 (askV a b) = some lx := by
  have hk : Tryd.prog.keyType 95 = true := by kernel_rfl
  have c92 : Tryd.prog.cellsOf 95 = 2 := by kernel_rfl
  have c3 : Tryd.prog.cellsOf 3 = 1 := by kernel_rfl
  obtain ⟨m, hn⟩ := types_many
  have hf : Value.formed Tryd.prog 95 (askV a b) = true := by kernel_rfl
  have hl : Tryd.prog.keyLits (m + 4) 95 [.int .i64 a, .int .i64 b] = some [.int .i64 a, .int .i64 b] := by
    rw [kl_struct (inferInstance : Und Tryd.prog 95 _) (by rw [c92]; rfl) (by kernel_rfl) (m + 3)]
    simp [c3, kl_int (inferInstance : Und Tryd.prog 3 _) (wf_i64 ha) (m + 2), kl_int (inferInstance : Und Tryd.prog 3 _) (wf_i64 hb) (m + 2)]
  refine ⟨.string (keyBytes [.int .i64 a, .int .i64 b]), ?_⟩
  unfold keyOf
  rw [Tryd.underlying95]
  simp only [hk, hf, hn, Value.cells, hl, Bool.and_self, if_true]
  rfl
theorem KAsk : Maps.Keyed Tryd.prog 95 := Maps.Keyed.of_law (deep_law_laid (m := 5) (by kernel_rfl) (by omega) (Nat.le_of_ble_eq_true (by kernel_rfl)) (by kernel_rfl) (by kernel_rfl))
end Go.Proofs.YtphnadpmpcifoaaDoor
