/-
  The law GrowWide answers true.
-/
import Derived.Test.YtphnadpmpcifoaaTSure
import Derived.Test.YtphnadpmpcifoaaLawW
namespace Go.Proofs.Ytphnadpmpcifoaa
open Go.Sq Go.Qm
attribute [local irreducible] SW J T.lev T.ok T.k0 T.k1 T.k2 T.k3 T.cells num T.ctr T.grow T.growNew T.wide T.wideNew fieldN laidT laidNew T.empty T.emptyNew T.set T.setNew T.many
set_option maxHeartbeats 8000000
set_option maxRecDepth 10000
theorem conv_uint (k : Int) : ∃ u : Nat, ConvE .u64 k (u : Int) ∧ u < 18446744073709551616 := by
  refine ⟨(BitVec.ofInt 64 k).toNat, ⟨?_⟩, (BitVec.ofInt 64 k).isLt⟩
  simp [IntKind.wrap, IntKind.signed, IntKind.bits]
  omega
theorem growWide_is {b l : Nat} (hb : b < 65536) (hl : l < 65536) {av : Option Addr} {len cap bl off : Nat} {c : Array Value} {T0 : TypeId} {fz : Nat × Nat} {z : Nat → Nat} {k : Int} (hv : 0 < len → av = some ⟨bl, off, none⟩) (hlen : len ≤ 9223372036854775807)
    (hc : ∀ i, i < len → c.toList[off + i * 1]? = some (u64v (z i)) ∧ z i < 18446744073709551616) :
    CallF P 3 [ruleV b l, .slice av len cap, int k] [(bl, sliP len bl c T0 fz)] (.bool true) [(bl, sliP len bl c T0 fz)] := by
  refine callR_of Try.func3 rfl Try.ntmps3 rfl fun σ F => ?_
  by_cases hr : RuleOk b l
  · obtain ⟨u, cu, hu⟩ := conv_uint k
    obtain ⟨m, hm⟩ : ∃ m, m = 3 + u % 4 := ⟨_, rfl⟩
    have m3 : 3 ≤ m := by omega
    have m6 : m ≤ 6 := by omega
    have f1 : (u : Int) % 4 = ((u % 4 : Nat) : Int) := rfl
    have f2 : ConvE .i64 ((u % 4 : Nat) : Int) ((u % 4 : Nat) : Int) := ⟨wrap_i64 (by omega) (by omega)⟩
    have f3 : IntE .add .i64 3 ((u % 4 : Nat) : Int) (int (m : Int)) := ⟨by simp only [intV]; rw [wrap_i64 (by omega) (by omega)]; congr 2; omega⟩
    obtain ⟨w, hw⟩ : ∃ w, w = 2 ^ m := ⟨_, rfl⟩
    have w0 : 0 < w := by rw [hw]; exact Nat.pow_pos (by omega)
    have w64 : w ≤ 64 := by rw [hw]; exact Nat.pow_le_pow_right (n := 2) (by omega) m6
    have f4 : ShlE .i64 1 (m : Int) (w : Int) := ⟨by rw [hw]; exact (shl_i64 (a := 1) (by omega) (by rw [← hw]; omega)).trans (by rw [Nat.one_mul])⟩
    have hf := field_is (cap := cap) (T0 := T0) (fz := fz) (w := w) hv hlen hc w0 w64
    have fl : (fieldN z w (min len 60)).length = w * w := fieldN_len _ _ _
    have fc := fieldN_count z w (min len 60)
    generalize fieldN z w (min len 60) = fd at *
    have ul := wideU_len (b := b) (l := l) (f := fd) m3 m6 (by rw [fl, hw]) (by omega)
    have i0 : Inv 30000 (wideU b l m fun i => fd.getD i false) [] := inv_nil ul (by omega)
    have hU : ∀ t, (t ∈ laidNew m (2 ^ m) (fun i => fd.getD i false) (2 ^ m * 2 ^ m) ∨ t ∈ T.wideNew (laidT m (2 ^ m) (fun i => fd.getD i false) (2 ^ m * 2 ^ m)) ∨ t ∈ T.wideNew (laidT m (2 ^ m) (fun i => fd.getD i false) (2 ^ m * 2 ^ m)).wide ∨ (t = laidT m (2 ^ m) (fun i => fd.getD i false) (2 ^ m * 2 ^ m) ∨ t = (laidT m (2 ^ m) (fun i => fd.getD i false) (2 ^ m * 2 ^ m)).wide) ∨
        t ∈ T.growNew b l (m - 2) (laidT m (2 ^ m) (fun i => fd.getD i false) (2 ^ m * 2 ^ m)).wide.wide 0 ∨ t ∈ T.growNew b l (m - 3) (laidT m (2 ^ m) (fun i => fd.getD i false) (2 ^ m * 2 ^ m)).wide 0) → t ∈ wideU b l m fun i => fd.getD i false := fun t ht => by
      unfold wideU
      simpa only [List.mem_append, List.mem_cons, List.not_mem_nil, or_false] using ht
    generalize wideU b l m (fun i => fd.getD i false) = U at *
    rw [← hw] at hU
    obtain ⟨i1, m1⟩ := laid_goods (fun i => fd.getD i false) i0 m3 (by omega) hw (w * w) (Nat.le_refl _) (fun t ht => hU t (.inl ht))
    have hlaid := fun s bo => laid_is (s := s) (bo := bo) i0 m3 (by omega) hw fl (fun t ht => hU t (.inl ht))
    obtain ⟨bl1, bo1⟩ := laidT_lev (fun i => fd.getD i false) m3 hw (w * w) (Nat.le_refl _)
    have S1 : Step 30000 U [] (puts [] (laidNew m w (fun i => fd.getD i false) (w * w))) := ⟨puts_pre _ _, i1⟩
    generalize laidT m w (fun i => fd.getD i false) (w * w) = B at *
    generalize puts [] (laidNew m w (fun i => fd.getD i false) (w * w)) = ts1 at *
    have j1 := is_num m1
    generalize num ts1 B = id at *
    have x1 := T.wide_ok bo1
    have x2 := T.wide_ok x1.1
    have y1 : B.wide.lev = m - 3 + 4 := by rw [x1.2, bl1]; omega
    have y2 : B.wide.wide.lev = m - 2 + 4 := by rw [x2.2, x1.2, bl1]; omega
    have cw1 := ctr_wide bo1
    have cw2 := ctr_wide x1.1
    have mw : B.wide.wide.many = B.many := many_wide.trans many_wide
    have gm := grow_mid b l (k := m - 3) bo1 (by omega)
    rw [show m - 3 + 1 = m - 2 from by omega] at gm
    have gl := T.grow_ok b l (m - 2) _ 0 x2.1 y2
    have gv := grow_mem b l (m - 3) B.wide 0
    repeat' first
      | (show W _ _ _ _ _ (_ :: _) _ _ _; first
        | refine W.call0 (May_ok hr) rfl rfl rfl ?_
        | refine W.not rfl rfl rfl ?_
        | refine W.remE rfl rfl rfl rfl (by omega) (by omega) f1 ?_
        | refine W.pure rfl rfl rfl rfl ?_
        | refine W.binE rfl rfl rfl rfl (by assumption) ?_
        | refine W.convE rfl rfl rfl (by assumption) ?_
        | refine W.shlE rfl rfl rfl rfl (by omega) (by assumption) ?_
        | refine W.ldaV rfl rfl rfl rfl rfl rfl ?_
        | refine W.boxA rfl rfl rfl (fun bq => ?_))
      | refine W.nil ?_
      | refine J.reg ?_
      | refine J.seq ?_
      | refine J.condF rfl ?_
      | refine J.skip ?_
    refine W.call (QNew_is (room := 30000) (by omega) (by omega)) (ks := []) rfl rfl rfl rfl fun v N hh => ?_
    obtain ⟨s, rfl, rfl⟩ := hh
    simp only [List.cons_append, List.nil_append]
    repeat' first
      | refine W.pure rfl rfl rfl rfl ?_
      | refine W.ldaV rfl rfl rfl rfl rfl rfl ?_
      | refine W.nil ?_
      | refine J.reg ?_
      | refine J.seq ?_
    refine W.call (GNew_is (s := s) hr (okG b l [])) (ks := []) rfl rfl rfl rfl fun v N hh => ?_
    obtain ⟨g, rfl, rfl⟩ := hh
    simp only [List.cons_append, List.nil_append]
    repeat' first
      | (show W _ _ _ _ _ (_ :: _) _ _ _; first
        | refine W.pure rfl rfl rfl rfl ?_
        | refine W.neIfNilT rfl rfl rfl ?_
        | refine W.eqPtNil rfl rfl rfl ?_)
      | refine W.nil ?_
      | refine J.reg ?_
      | refine J.seq ?_
      | refine J.condF rfl ?_
      | refine J.skip ?_
    refine W.call hf (ks := [bl]) rfl rfl rfl rfl fun v N hh => ?_
    obtain ⟨bo, rfl, rfl⟩ := hh
    simp only [List.cons_append, List.nil_append]
    repeat' first
      | refine W.call2 (hlaid s bo) rfl rfl rfl ?_
      | refine W.pure rfl rfl rfl rfl ?_
      | refine W.nil ?_
    refine J.weakG (g := g) S1.pre ?_
    repeat' first
      | refine W.wk (Wide_is i1 j1 (by rw [bl1]; omega) (fun t ht => hU t (.inr (.inl ht)))) rfl rfl rfl (fun ts2 a S2 j2 => ?_)
      | refine W.pure rfl rfl rfl rfl ?_
      | refine W.nil ?_
      | refine J.reg ?_
      | refine J.seq ?_
    repeat' first
      | refine W.wk (Wide_is S2.inv j2 (by rw [x1.2, bl1]; omega) (fun t ht => hU t (.inr (.inr (.inl ht))))) rfl rfl rfl (fun ts3 d S3 j3 => ?_)
      | refine W.pure rfl rfl rfl rfl ?_
      | refine W.nil ?_
      | refine J.reg ?_
      | refine J.seq ?_
    have h4 := Center_is (g := g) (s := s) (b := b) (l := l) (n := 0) S3.inv (j2.mono S3.pre) (by rw [y1]; omega) (by rw [cw1]; exact hU _ (.inr (.inr (.inr (.inl (.inl rfl))))))
    rw [cw1] at h4
    repeat' first
      | refine W.wk h4 rfl rfl rfl (fun ts4 e S4 j4 => ?_)
      | refine W.pure rfl rfl rfl rfl ?_
      | refine W.nil ?_
      | refine J.reg ?_
      | refine J.seq ?_
    have e4 : e = id := j4.inj S4.inv.reg.nodup (((j1.mono S2.pre).mono S3.pre).mono S4.pre)
    subst e4
    have h5 := Center_is (g := g) (s := s) (b := b) (l := l) (n := 0) S4.inv (j3.mono S4.pre) (by rw [y2]; omega) (by rw [cw2]; exact hU _ (.inr (.inr (.inr (.inl (.inr rfl))))))
    rw [cw2] at h5
    repeat' first
      | refine W.wk h5 rfl rfl rfl (fun ts5 f S5 j5 => ?_)
      | refine W.pure rfl rfl rfl rfl ?_
      | refine W.nil ?_
      | refine J.reg ?_
      | refine J.seq ?_
    have e5 : f = a := j5.inj S5.inv.reg.nodup (((j2.mono S3.pre).mono S4.pre).mono S5.pre)
    subst e5
    have n1 := Count_T (s := s) S5.inv (j4.mono S5.pre)
    have n2 := Count_T (s := s) S5.inv ((j3.mono S4.pre).mono S5.pre)
    rw [mw] at n2
    have h6 := Grow_is (g := g) (s := s) (n := 0) (Ji := 0) (j := 0) hr S5.inv ((j3.mono S4.pre).mono S5.pre) y2 rfl (by omega) (fun t ht => hU t (.inr (.inr (.inr (.inr (.inl ht))))))
    repeat' first
      | (show W _ _ _ _ _ (_ :: _) _ _ _; first
        | refine W.call1 n1 rfl rfl rfl ?_
        | refine W.call1 n2 rfl rfl rfl ?_
        | refine W.gk h6 rfl rfl rfl (fun ts6 o6 n6 S6 j6 z6 => ?_)
        | refine W.pure rfl rfl rfl rfl ?_
        | refine W.cmpF rfl rfl rfl rfl (by simp only [cmpN]; first | done | omega) ?_
        | refine W.neIfNilT rfl rfl rfl ?_)
      | refine W.nil ?_
      | refine J.reg ?_
      | refine J.seq ?_
      | refine J.condF rfl ?_
      | refine J.skip ?_
    have h7 := Grow_is (g := g) (s := s) (n := n6) (Ji := 0) (j := 0) hr S6.inv (j5.mono S6.pre) y1 rfl (by omega) (fun t ht => hU t (.inr (.inr (.inr (.inr (.inr ht))))))
    repeat' first
      | (show W _ _ _ _ _ (_ :: _) _ _ _; first
        | refine W.gk h7 rfl rfl rfl (fun ts7 o7 n7 S7 j7 z7 => ?_)
        | refine W.pure rfl rfl rfl rfl ?_
        | refine W.neIfNilT rfl rfl rfl ?_)
      | refine W.nil ?_
      | refine J.reg ?_
      | refine J.seq ?_
      | refine J.condF rfl ?_
      | refine J.skip ?_
    have h8 := Center_is (g := g) (s := s) (b := b) (l := l) (n := n7) S7.inv (j6.mono S7.pre) (by rw [gl.2]; omega) (by rw [gm]; exact hU _ (.inr (.inr (.inr (.inr (.inr gv))))))
    rw [gm] at h8
    repeat' first
      | refine W.wk h8 rfl rfl rfl (fun ts8 o8 S8 j8 => ?_)
      | refine W.pure rfl rfl rfl rfl ?_
      | refine W.nil ?_
    have e8 : o8 = o7 := j8.inj S8.inv.reg.nodup (j7.mono S8.pre)
    subst e8
    have q8 : IntE .eql .i64 o8 o8 (.bool true) := ⟨by simp [intV]⟩
    repeat' first
      | (show W _ _ _ _ _ (_ :: _) _ _ _; first
        | refine W.call0 sure_is rfl rfl rfl ?_
        | refine W.pure rfl rfl rfl rfl ?_
        | refine W.binE rfl rfl rfl rfl (by assumption) ?_
        | refine W.eqIfNilT rfl rfl rfl ?_)
      | refine W.nil ?_
      | refine J.reg ?_
      | refine J.seq ?_
    exact J.retF [bl] (res1 rfl rfl) rfl
  · repeat' first
      | (show W _ _ _ _ _ (_ :: _) _ _ _; first
        | refine W.call0 (May_no hr) rfl rfl rfl ?_
        | refine W.not rfl rfl rfl ?_
        | refine W.call0 sure_is rfl rfl rfl ?_
        | refine W.pure rfl rfl rfl rfl ?_
        | refine W.ldaV rfl rfl rfl rfl rfl rfl ?_
        | refine W.boxA rfl rfl rfl (fun bq => ?_))
      | refine W.nil ?_
      | refine J.reg ?_
      | refine J.seq ?_
      | refine J.condT rfl ?_
    exact J.retF [bl] (res1 rfl rfl) rfl
end Go.Proofs.Ytphnadpmpcifoaa
