/-
  The laws' own: sure.
-/
import Derived.Test.YtphnadpmpcifoaaTLaid
import Derived.Test.YtphnadpmpcifoaaSureP
namespace Go.Qm
theorem inv_nil {room : Nat} {U : List T} (h : U.length ≤ room) (hr : room ≤ 65536) : Inv room U [] := ⟨⟨List.nodup_nil, by simp, by simp, by simp⟩, by simp, h, hr⟩
end Go.Qm
namespace Go.Proofs.Ytphnadpmpcifoaa
open Go.Sq Go.Qm
instance (a0 a1 a2 a3 : Int) : BldS Try.prog 25 4 [(0, .int .u64 a0), (1, .int .u64 a1), (2, .int .u64 a2), (3, .int .u64 a3)] 52 [.int .u64 a0, .int .u64 a1, .int .u64 a2, .int .u64 a3] := ⟨fun w => by kernel_rfl⟩
attribute [local irreducible] SW J T.lev T.ok T.k0 T.k1 T.k2 T.k3 T.cells num T.ctr T.grow T.growNew T.wide T.wideNew fieldN laidT laidNew T.empty T.emptyNew T.set T.setNew sureB sureF T.many
set_option maxHeartbeats 8000000
set_option maxRecDepth 10000
theorem sure_is : CallF P 7 [] [] (.bool true) [] := by
  have hr : RuleOk 8 12 := ⟨by omega, by omega, by omega⟩
  have i0 : Inv 500 sureU [] := inv_nil sureU_len (by omega)
  have hL : sureF.length = 32 * 32 := by unfold sureF; exact fieldN_len _ _ _
  have u1 : ∀ t ∈ laidNew 5 32 (fun i => sureF.getD i false) (32 * 32), t ∈ sureU := fun t ht => by
    unfold sureU; exact List.mem_append_left _ (List.mem_append_left _ (List.mem_append_left _ ht))
  have u2 : ∀ t ∈ T.wideNew sureB, t ∈ sureU := fun t ht => by
    unfold sureU; exact List.mem_append_left _ (List.mem_append_left _ (List.mem_append_right _ ht))
  have u3 : sureB ∈ sureU := by
    unfold sureU; exact List.mem_append_left _ (List.mem_append_right _ (List.mem_singleton.2 rfl))
  have u4 : ∀ t ∈ T.growNew 8 12 2 sureB.wide 4, t ∈ sureU := fun t ht => by
    unfold sureU; exact List.mem_append_right _ ht
  obtain ⟨i1, m1⟩ := laid_goods (fun i => sureF.getD i false) i0 (m := 5) (w := 32) (by omega) (by omega) rfl (32 * 32) (Nat.le_refl _) u1
  have hlaid := fun s bo => laid_is (s := s) (bo := bo) i0 (m := 5) (w := 32) (by omega) (by omega) rfl hL u1
  have eB : laidT 5 32 (fun i => sureF.getD i false) (32 * 32) = sureB := sureB_eq
  rw [eB] at m1 hlaid
  have S1 : Step 500 sureU [] (puts [] (laidNew 5 32 (fun i => sureF.getD i false) (32 * 32))) := ⟨puts_pre _ _, i1⟩
  generalize puts [] (laidNew 5 32 (fun i => sureF.getD i false) (32 * 32)) = ts1 at *
  have j1 := is_num m1
  generalize num ts1 sureB = id at *
  have wl := (T.wide_ok sureB_ok).2
  have bl := sureB_lev
  have cw := ctr_wide sureB_ok
  have sg := sure_grow
  have bm := sureB_many
  refine callR_of Try.func7 rfl Try.ntmps7 rfl fun σ F => ?_
  repeat' first
    | refine W.pure rfl rfl rfl rfl ?_
    | refine W.nil ?_
    | refine J.reg ?_
    | refine J.seq ?_
  refine W.call (QNew_is (room := 500) (by omega) (by omega)) (ks := []) rfl rfl rfl rfl fun v N hh => ?_
  obtain ⟨s, rfl, rfl⟩ := hh
  repeat' first
    | refine W.pure rfl rfl rfl rfl ?_
    | refine W.build rfl rfl rfl ?_
    | refine W.nil ?_
    | refine J.reg ?_
    | refine J.seq ?_
  refine W.call (GNew_is (s := s) hr (okG 8 12 [])) (ks := []) rfl rfl rfl rfl fun v N hh => ?_
  obtain ⟨g, rfl, rfl⟩ := hh
  have hnil : ∀ A : List Ent, A ++ [] = A := fun A => List.append_nil A
  simp only [List.cons_append, List.nil_append]
  repeat' first
    | (show W _ _ _ _ _ (_ :: _) _ _ _; first
      | refine W.buildSlice rfl rfl rfl (fun bs => ?_)
      | refine W.pure rfl rfl rfl rfl ?_
      | refine W.neIfNilT rfl rfl rfl ?_
      | refine W.eqPtNil rfl rfl rfl ?_)
    | refine W.nil ?_
    | refine J.reg ?_
    | refine J.seq ?_
    | refine J.condF rfl ?_
    | refine J.skip ?_
  have hf := field_is (av := some ⟨bs, 0, none⟩) (len := 4) (cap := 4) (bl := bs) (off := 0) (w := 32) (c := #[.int .u64 455, .int .u64 456, .int .u64 519, .int .u64 520]) (T0 := 52) (fz := (0, 0)) (z := sureZ) (fun _ => rfl) (by omega)
    (fun i hi => by
      have : i = 0 ∨ i = 1 ∨ i = 2 ∨ i = 3 := by omega
      rcases this with rfl | rfl | rfl | rfl <;> exact ⟨rfl, by decide⟩) (by omega) (by omega)
  rw [sliP_pos (by omega), show min 4 60 = 4 from rfl, show fieldN sureZ 32 4 = sureF from by unfold sureF; rfl] at hf
  refine W.call hf (ks := [bs]) rfl rfl rfl rfl fun v N hh => ?_
  obtain ⟨bo, rfl, rfl⟩ := hh
  simp only [List.cons_append, List.nil_append]
  repeat' first
    | refine W.call2 (hlaid s bo) rfl rfl rfl ?_
    | refine W.pure rfl rfl rfl rfl ?_
    | refine W.nil ?_
  refine J.weakG (g := g) S1.pre ?_
  repeat' first
    | refine W.wk (Wide_is i1 j1 (by rw [bl]; omega) u2) rfl rfl rfl (fun ts2 a S2 j2 => ?_)
    | refine W.pure rfl rfl rfl rfl ?_
    | refine W.nil ?_
    | refine J.reg ?_
    | refine J.seq ?_
  have hc := Center_is (g := g) (s := s) (b := 8) (l := 12) (n := 0) S2.inv j2 (by rw [wl, bl]; omega) (by rw [cw]; exact u3)
  rw [cw] at hc
  repeat' first
    | refine W.wk hc rfl rfl rfl (fun ts3 c S3 j3 => ?_)
    | refine W.pure rfl rfl rfl rfl ?_
    | refine W.nil ?_
    | refine J.reg ?_
    | refine J.seq ?_
  have hid : c = id := j3.inj S3.inv.reg.nodup ((j1.mono S2.pre).mono S3.pre)
  subst hid
  have hg := Grow_is (g := g) (s := s) (n := 0) (Ji := 4) (j := 4) (k := 2) hr S3.inv (j2.mono S3.pre) (by rw [wl, bl]) rfl (by omega) u4
  rw [sg] at hg
  repeat' first
    | refine W.gk hg rfl rfl rfl (fun ts4 o n4 S4 j4 z4 => ?_)
    | refine W.pure rfl rfl rfl rfl ?_
    | refine W.nil ?_
    | refine J.reg ?_
    | refine J.seq ?_
  have hn := Count_T (s := s) S4.inv j4
  rw [bm] at hn
  repeat' first
    | (show W _ _ _ _ _ (_ :: _) _ _ _; first
      | refine W.call1 hn rfl rfl rfl ?_
      | refine W.call1 Known_is rfl rfl rfl ?_
      | refine W.pure rfl rfl rfl rfl ?_
      | refine W.cmpT rfl rfl rfl rfl (by simp only [cmpP]; first | done | omega) ?_
      | refine W.eqIfNilT rfl rfl rfl ?_)
    | refine W.nil ?_
    | refine J.reg ?_
    | refine J.seq ?_
  exact J.retF [] (res1 rfl rfl) rfl
end Go.Proofs.Ytphnadpmpcifoaa
