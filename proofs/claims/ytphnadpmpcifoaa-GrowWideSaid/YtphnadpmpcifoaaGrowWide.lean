/-
  GrowWide is proved: whatever the input, quiltlaw12.GrowWide answers true, and the input reads as it did. No conditions.
-/
import Derived.Test.YtphnadpmpcifoaaRow
import Derived.Test.YtphnadpmpcifoaaRows
namespace Go.Proofs.Ytphnadpmpcifoaa
open Go.Sq Go.Qm Go.ChangeShapes Go.WideShapes Go.ChangeAt Go.RowKit Go.Joins

set_option maxRecDepth 100000 in
theorem growWide_lifted (os : Os) (started : os.Started) (H : Type) (enc : TypeId × Value → H) :
    ReturnsInHanded {} Try.checked os 3 .any (Rows.growWideSpec.pre6 enc Try.prog Try.f3 Rows.growWideRow.domain false) (Rows.growWideSpec.post enc Try.prog Try.f3 false true false false) := by
  refine returnsInHanded_of_change (C := Try.checked) own started (by kernel_rfl) Try.func3
    (ChangeSpec.witness6 (enc := enc) (C := Try.checked) false ⟨#[], #[.agg #[.int .u16 0, .int .u16 0], .slice none 0 0, .int .i64 0], []⟩ 8 (by kernel_rfl) (by kernel_rfl) (by kernel_rfl) (by kernel_rfl)) ?_
  intro W base args ds gs before hval0 hW hcnd _
  have hval : ∀ (j : Nat) t v, Try.f3.params[j]? = some t → args[j]? = some v → Value.okWide Try.prog W .any base t v := hval0
  have hW' := hW
  obtain ⟨p, q, hA0, hV, rfl, hfz, hnd⟩ := hW
  have hA : DataW.TrodAll enc Try.prog W 0 (fun _ => true) true Try.f3.params.toList args.toList ds p := hA0
  rw [Try.params3] at hA hval
  obtain ⟨v0, v1, v2, d0, d1, d2, p0, p1, p2, rfl, rfl, rfl, h0, h1, h2⟩ := trodAll_three hA
  obtain ⟨rfl, rfl⟩ := trodVars_none hV
  have k0 := h0; have k1 := h1; have k2 := h2
  obtain ⟨c0, c1, y0, y1, _, rfl, rfl, rfl, hy0, hy1⟩ := open_agg2 Try.underlying24 (by kernel_rfl) (by kernel_rfl) (hval 0 24 v0 rfl rfl) h0
  obtain ⟨rb, e0, rfl, wb⟩ := DataW.trod_int Try.underlying22 hy0
  obtain ⟨rl, e1, rfl, wl⟩ := DataW.trod_int Try.underlying22 hy1
  simp at e0 e1
  subst e0 e1
  obtain ⟨b, rfl, hb⟩ := u16_open wb
  obtain ⟨l, rfl, hl⟩ := u16_open wl
  obtain ⟨av, len, cap, bl, off, c, T0, fz, z, rfl, hv, hlen, hc, hblk⟩ := slice_open (hval 1 25 v1 rfl rfl) h1
  obtain ⟨k, rfl, rfl, rfl, wk⟩ := open_int Try.underlying3 (hval 2 3 v2 rfl rfl) h2
  clear hA0 hval0
  simp only [List.append_nil] at hW'
  have hlt := hW'.lt
  refine (growWide_is (k := k) hb hl hv hlen hc (strOf W) [(0, restP W len bl)] W (sat_start hblk)).mono fun e W' hh => ?_
  obtain ⟨v, N', ⟨rfl, rfl⟩, rfl, hs⟩ := hh
  have hbe := sat_end hblk hs
  have st : ∀ {t : TypeId} {v : Value} {d : DataW H} {ps : List MemPlace} {sp : Nat → Bool}, Try.prog.readableRec t = true → t < Try.prog.types.size → DataW.Trod enc Try.prog W 0 (fun _ => true) true t v d ps → (∀ x ∈ ps, x.block < W.heap.size ∧ sp x.block = true) → DataW.Trod enc Try.prog W' 0 sp true t v d ps :=
    fun h1 h2 h3 h4 => WideElems.Trod_stays laidOut h1 h2 h3 (fun x hx => hbe.same (h4 x hx).1) (fun x hx => (h4 x hx).2)
  exact ⟨_, rfl, post_of_below (pv := []) hW' (fun _ _ _ => trodAll_mk1 (shut_bool Try.underlying4 _))
    (fun sp hsp => trodAll_mk3 (st (by kernel_rfl) (of_decide_eq_true (by kernel_rfl)) k0 (fun x hx => by simp at hx)) (st (by kernel_rfl) (of_decide_eq_true (by kernel_rfl)) k1 (fun x hx => ⟨hlt x (by simp [hx]), hsp x (by simp [hx])⟩)) (st (by kernel_rfl) (of_decide_eq_true (by kernel_rfl)) k2 (fun x hx => by simp at hx)))
    (fun _ _ => rfl) (by simp) hbe (ok_one (by kernel_rfl) rfl (okWide_bool_mk Try.underlying4 _))⟩

theorem growWide_holds : Rows.GrowWideSaid :=
  OpenClaim.holds_of_wide 3 Try.f3 rfl rfl rfl rfl rfl rfl rfl ⟨rfl, rfl, rfl, rfl, rfl⟩ rfl rfl rfl rfl rfl (by kernel_rfl) Try.func3 (by kernel_rfl)
    (of_decide_eq_true (by kernel_rfl)) (by unfold Func.isWrapper; first | (rw [if_pos (by decide +kernel)]; kernel_rfl) | (rw [if_neg (by decide +kernel)]; exact ⟨rfl, rfl⟩))
    (fun os started H enc _ => growWide_lifted os started H enc)
#print axioms growWide_holds
end Go.Proofs.Ytphnadpmpcifoaa
