/-
  From a call's contract to a row, where a slice comes in and one package-level variable is read.
-/
import Derived.Test.YtphnadpmpcifoaaDoorRow0
namespace Go.Sq
theorem holds_one {k : Nat} {A : HP} {h : Piece} (ha : A h) : Holds [(k, A)] h := ⟨h, fun _ => none, fun _ => .inr rfl, by funext b; unfold Un; cases h b <;> rfl, ha, fun _ => rfl⟩
theorem holds_one' {k : Nat} {A : HP} {h : Piece} (ha : Holds [(k, A)] h) : A h := by
  obtain ⟨h1, h2, _, rfl, a, e⟩ := ha
  have : Un h1 h2 = h1 := by funext b; unfold Un; rw [e b]; cases h1 b <;> rfl
  rw [this]; exact a
/-- All that came in, but for one block and that of number 0. -/
def restX (W : World) (len bl : Nat) : HP := fun h => ∀ b, h b = if b = 0 ∨ (0 < len ∧ b = bl) then none else W.heap[b]?
theorem rest_split {W : World} {len bl : Nat} {o : Obj} (h0 : W.heap[0]? = some o) (hne : 0 < len → bl ≠ 0) {h : Piece} : restP W len bl h ↔ Holds [(0, pts 0 o), (0, restX W len bl)] h := by
  constructor
  · intro hr
    refine ⟨fun b => if b = 0 then some o else none, fun b => if b = 0 then none else h b, fun b => ?_, ?_, fun _ => rfl, holds_one fun b => ?_⟩
    · by_cases hb : b = 0
      · right; simp [hb]
      · left; simp [hb]
    · funext b
      unfold Un
      by_cases hb : b = 0
      · subst hb
        have := hr 0
        rw [if_neg (by omega), h0] at this
        simp [this]
      · simp [hb]
    · have hrb := hr b
      by_cases hb : b = 0
      · simp [hb]
      · rw [if_neg hb, hrb]
        by_cases hc : 0 < len ∧ b = bl
        · rw [if_pos hc, if_pos (.inr hc)]
        · rw [if_neg hc, if_neg (by omega)]
  · rintro ⟨h1, h2, _, rfl, a, hx⟩ b
    have hx : restX W len bl h2 := holds_one' hx
    have ha := a b
    have hb2 := hx b
    by_cases hb : b = 0
    · subst hb
      rw [if_pos rfl] at ha
      rw [un_left ha, if_neg (by omega), h0]
    · rw [if_neg hb] at ha
      rw [un_right ha, hb2]
      by_cases hc : 0 < len ∧ b = bl
      · rw [if_pos (.inr hc), if_pos hc]
      · rw [if_neg (by omega), if_neg hc]
end Go.Sq
namespace Go.Proofs.YtphnadpmpcifoaaDoor
open Go.Sq Go.Qm Go.RowKit
theorem sat_start2 {W : World} {len bl : Nat} {c cg : Array Value} {T Tg : TypeId} {fz fg : Nat × Nat} (h : 0 < len → W.heap[bl]? = some (.cells c T fz)) (h0 : W.heap[0]? = some (.cells cg Tg fg)) (hne : 0 < len → bl ≠ 0) :
    Sat (strOf W) W ([(bl, sliP len bl c T fz), (0, pts 0 (.cells cg Tg fg))] ++ [(0, restX W len bl)]) := by
  have hs := (sat_start (W := W) (T := T) h).perm (List.Perm.swap _ _ [])
  have hs2 := hs.mono (B := (0, Holds [(0, pts 0 (.cells cg Tg fg)), (0, restX W len bl)])) fun h hh => (rest_split h0 hne).1 hh
  have hs3 : Sat (strOf W) W ([(0, pts 0 (.cells cg Tg fg)), (0, restX W len bl)] ++ [(bl, sliP len bl c T fz)]) := Sat.open_ hs2
  exact hs3.perm (List.perm_append_comm (l₁ := [(0, pts 0 (.cells cg Tg fg)), (0, restX W len bl)]) (l₂ := [(bl, sliP len bl c T fz)]))
theorem sat_end2 {W W' : World} {len bl : Nat} {c cg : Array Value} {T Tg : TypeId} {fz fg : Nat × Nat} (h : 0 < len → W.heap[bl]? = some (.cells c T fz)) (h0 : W.heap[0]? = some (.cells cg Tg fg)) (hne : 0 < len → bl ≠ 0)
    (hs : Sat (strOf W) W' ([(bl, sliP len bl c T fz), (0, pts 0 (.cells cg Tg fg))] ++ [(0, restX W len bl)])) : Below W.heap.size W W' := by
  have hs1 : Sat (strOf W) W' ([(0, pts 0 (.cells cg Tg fg)), (0, restX W len bl)] ++ [(bl, sliP len bl c T fz)]) := hs.perm (List.perm_append_comm (l₁ := [(bl, sliP len bl c T fz)]) (l₂ := [(0, pts 0 (.cells cg Tg fg)), (0, restX W len bl)]))
  have hs2 := (Sat.shut (k := 0) hs1).mono (B := (0, restP W len bl)) fun h hh => (rest_split h0 hne).2 hh
  exact sat_end h (hs2.perm (List.Perm.swap _ _ []))
/-- A slice of numbers is not the variable. -/
theorem not_var {len bl off : Nat} {c cg : Array Value} {T Tg : TypeId} {fz fg : Nat × Nat} {z : Nat → Nat} {W : World} {x : TypeId} {y : Value} (h : 0 < len → W.heap[bl]? = some (.cells c T fz)) (h0 : W.heap[0]? = some (.cells cg Tg fg)) (hc : ∀ i, i < len → c.toList[off + i * 1]? = some (u64v (z i)) ∧ z i < 18446744073709551616)
    (hg : cg = #[.iface x y]) : 0 < len → bl ≠ 0 := by
  rintro hl rfl
  have e := (h hl).symm.trans h0
  simp only [Option.some.injEq, Obj.cells.injEq] at e
  obtain ⟨rfl, -, -⟩ := e
  have := (hc 0 hl).1
  rw [hg] at this
  rcases off with _ | off
  · simp at this
  · simp at this
end Go.Proofs.YtphnadpmpcifoaaDoor
