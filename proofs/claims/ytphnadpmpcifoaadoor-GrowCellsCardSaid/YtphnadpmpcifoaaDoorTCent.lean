/-
  Package grow: the middle of four; nine squares.
-/
import Derived.Test.YtphnadpmpcifoaaDoorTMake
namespace Go.Qm
theorem kid_mem {ts : List T} (r : Reg ts) {t : T} (hm : t ∈ ts) (h : 4 ≤ t.lev) : t.k0 ∈ ts ∧ t.k1 ∈ ts ∧ t.k2 ∈ ts ∧ t.k3 ∈ ts := by
  have := r.kids t hm
  cases t with
  | leaf _ => simp [T.lev] at h
  | node a b c d => exact this
theorem kid_in {ts : List T} (r : Reg ts) {t : T} (hm : t ∈ ts) (h : 4 ≤ t.lev) (y x : Nat) : t.kid y x ∈ ts := by
  have := kid_mem r hm h
  unfold T.kid
  split
  · split
    · exact this.1
    · exact this.2.1
  · split
    · exact this.2.2.1
    · exact this.2.2.2
theorem gr_in {ts : List T} (r : Reg ts) {t : T} (hm : t ∈ ts) (h : 5 ≤ t.lev) (y x : Nat) : t.gr y x ∈ ts := by
  have h1 := kid_in r hm (by omega) (y / 2) (x / 2)
  have h2 := (T.kid_is (r.ok _ hm) (by omega) (y / 2) (x / 2)).2
  exact kid_in r h1 (by omega) _ _
end Go.Qm
namespace Go.Proofs.YtphnadpmpcifoaaDoor
open Go.Sq Go.Qm
attribute [local irreducible] SW J fldOf zeroF fourN nextN cutN layN genN T.lev T.ok T.k0 T.k1 T.k2 T.k3 T.cells
set_option maxHeartbeats 4000000
set_option maxRecDepth 10000
section
variable {s room m : Nat} {U ts : List T}
theorem mcenter_is {i0 i1 i2 i3 L : Int} {t0 t1 t2 t3 : T} (h : Inv room U ts) (h0 : Is ts i0 t0) (h1 : Is ts i1 t1) (h2 : Is ts i2 t2) (h3 : Is ts i3 t3) (hL : L = t0.lev) (e1 : t1.lev = t0.lev) (e2 : t2.lev = t0.lev) (e3 : t3.lev = t0.lev) (hu : T.ctr t0 t1 t2 t3 ∈ U) :
    CallR P 21 [ptr m, .agg #[int i0, int i1, int i2, int i3], int L] [(m, mkP m s), (s, treeP s room ts)] (Made room U ts m s (T.ctr t0 t1 t2 t3)) := by
  have o0 := h.reg.ok _ h0.mem; have o1 := h.reg.ok _ h1.mem; have o2 := h.reg.ok _ h2.mem; have o3 := h.reg.ok _ h3.mem
  have l40 := h.reg.lev _ h0.mem
  refine callR_of Tryd.func21 rfl Tryd.ntmps21 rfl fun σ F => ?_
  by_cases hl : t0.lev = 3
  · have f0 := T.eta3 hl; have f1 := T.eta3 (e1.trans hl); have f2 := T.eta3 (e2.trans hl); have f3 := T.eta3 (e3.trans hl)
    have hL3 : L = 3 := by omega
    subst hL3
    rw [f0] at h0 o0; rw [f1] at h1 o1; rw [f2] at h2 o2; rw [f3] at h3 o3
    simp only [T.ok] at o0 o1 o2 o3
    have e : T.ctr t0 t1 t2 t3 = .leaf (cutN (fourN t0.cells t1.cells t2.cells t3.cells) 4 4 8) := by unfold T.ctr; rw [if_pos hl]
    rw [e] at hu ⊢
    have ho := cutN_lt (fourN t0.cells t1.cells t2.cells t3.cells) 4 4 8 (Nat.le_refl _)
    repeat' first
      | (show W _ _ _ _ _ (_ :: _) _ _ _; first
        | refine W.call2 (mtiles_is h0 h1 h2 h3) rfl rfl rfl ?_
        | refine W.call0 (Middle_is o0 o1 o2 o3) rfl rfl rfl ?_
        | refine W.mk (mleaf_is h hu ho) rfl rfl rfl (fun ts1 j1 st1 js1 => ?_)
        | refine W.pure rfl rfl rfl rfl ?_
        | refine W.cmpT rfl rfl rfl rfl (by simp only [cmpP]; first | done | omega) ?_
        | refine W.ldaV rfl rfl rfl rfl rfl rfl ?_
        | refine W.boxA rfl rfl rfl (fun bq => ?_))
      | refine W.nil ?_
      | refine J.reg ?_
      | refine J.seq ?_
      | refine J.condT rfl ?_
    exact J.retR [m, s] (res1 rfl rfl) ⟨_, _, rfl, rfl, st1, js1⟩
  · have l3 := t0.lev_ge
    have a4 : 4 ≤ t0.lev := by omega
    have b4 : 4 ≤ t1.lev := by omega
    have c4 : 4 ≤ t2.lev := by omega
    have d4 : 4 ≤ t3.lev := by omega
    have m0 := (kid_mem h.reg h0.mem a4).2.2.2; have m1 := (kid_mem h.reg h1.mem b4).2.2.1; have m2 := (kid_mem h.reg h2.mem c4).2.1; have m3 := (kid_mem h.reg h3.mem d4).1
    have v0 := (T.kid_lev o0 a4).2.2.2; have v1 := (T.kid_lev o1 b4).2.2.1; have v2 := (T.kid_lev o2 c4).2.1; have v3 := (T.kid_lev o3 d4).1
    have f0 := T.eta a4; have f1 := T.eta b4; have f2 := T.eta c4; have f3 := T.eta d4
    rw [f0] at h0; rw [f1] at h1; rw [f2] at h2; rw [f3] at h3
    have e : T.ctr t0 t1 t2 t3 = .node t0.k3 t1.k2 t2.k1 t3.k0 := by unfold T.ctr; rw [if_neg hl]
    rw [e] at hu ⊢
    have w1 : t1.k2.lev = t0.k3.lev := by omega
    have w2 : t2.k1.lev = t0.k3.lev := by omega
    have w3 : t3.k0.lev = t0.k3.lev := by omega
    have w4 : t0.k3.lev < 40 := by omega
    have hL3 : L ≠ 3 := by omega
    repeat' first
      | (show W _ _ _ _ _ (_ :: _) _ _ _; first
        | refine W.pure rfl rfl rfl rfl ?_
        | refine W.cmpF rfl rfl rfl rfl (by simp only [cmpN]; first | done | omega) ?_
        | refine W.boxA rfl rfl rfl (fun bq => ?_))
      | refine W.nil ?_
      | refine J.reg ?_
      | refine J.seq ?_
      | refine J.condF rfl ?_
      | refine J.skip ?_
    refine J.regD [m, s] mixed (by kernel_rfl) ?_
    repeat' first
      | (show W _ _ _ _ _ (_ :: _) _ _ _; first
        | refine W.call2 (mkids_is h0) rfl rfl rfl ?_
        | refine W.call2 (mkids_is h1) rfl rfl rfl ?_
        | refine W.call2 (mkids_is h2) rfl rfl rfl ?_
        | refine W.call2 (mkids_is h3) rfl rfl rfl ?_
        | refine W.mk (mnode_is h (is_num m0) (is_num m1) (is_num m2) (is_num m3) hu w1 w2 w3 w4) rfl rfl rfl (fun ts1 j1 st1 js1 => ?_)
        | refine W.pure rfl rfl rfl rfl ?_
        | refine W.ldV rfl rfl rfl rfl rfl rfl ?_
        | refine W.indexAddrE rfl rfl rfl rfl (by omega) (by simp only [Int.reduceToNat, Nat.reduceMul, Nat.zero_add]; rfl) ?_
        | refine W.ld rfl rfl rfl rfl rfl ?_
        | refine W.alloc rfl rfl (fun bq => ?_)
        | refine W.storeA rfl rfl rfl rfl (by rfl) (by rfl) (by simp [Value.oneCell']) ?_)
      | refine W.nil ?_
      | refine J.reg ?_
      | refine J.seq ?_
    exact J.retR [m, s] (res1 rfl rfl) ⟨_, _, rfl, rfl, st1, js1⟩
end
end Go.Proofs.YtphnadpmpcifoaaDoor
