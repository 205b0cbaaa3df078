/-
  From a call's contract to a row, where nothing that came in is pointed to.
-/
import Derived.Test.YtphnadpmpcifoaaDoorRow
namespace Go.Proofs.YtphnadpmpcifoaaDoor
open Go.Sq Go.Qm Go.RowKit
theorem sat_start0 (W : World) : Sat (strOf W) W ([] ++ [(0, restP W 0 0)]) :=
  (sat_start (W := W) (len := 0) (bl := 0) (c := #[]) (T := 0) (fz := (0, 0)) (by omega)).tail
theorem sat_end0 {W W' : World} (hs : Sat (strOf W) W' ([] ++ [(0, restP W 0 0)])) : Below W.heap.size W W' := by
  obtain ⟨e, p, ⟨h3, h4, _, rfl, b, _⟩, hw⟩ := hs
  refine strOf_below e fun k hk => ?_
  have hkk : W.heap[k]? = some W.heap[k] := Array.getElem?_eq_getElem hk
  have b : restP W 0 0 h3 := b
  have hb3 := b k
  rw [if_neg (by omega)] at hb3
  rw [hkk]
  exact hw k _ (un_left (hb3.trans hkk))
end Go.Proofs.YtphnadpmpcifoaaDoor
