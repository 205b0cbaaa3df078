/-
  Package grow: Center, Wide, Grow.
-/
import Derived.Test.YtphnadpmpcifoaaDoorTWide
namespace Go.Proofs.YtphnadpmpcifoaaDoor
open Go.Sq Go.Qm
section
variable {ops : Array Oper} {n : Nat} {bars : Nat → Bool} {K : EnvF → List Ent → List Ent → Prop} {l : List (Nat × Oper)} {E : Env} {St V : List Ent} {i : Nat} {d : Tmp} {ty : TypeId} {pos : String} {aft : Array Edge} {gu : Option (Nat × Bool)}
theorem W.wk {f : FuncId} {xs : Array Operand} {Ts : Array TypeId} {vs : List Value} {room g s b le n0 n1 : Nat} {U ts : List T} {t : T} {M M' : List Ent} (hc : CallR P f vs [(g, gwP g s b le n0 ts), (s, treeP s room ts)] (Widened room U ts g s b le n1 t))
    [hp : PickK V g (gwP g s b le n0 ts) M] [hq : PickK M s (treeP s room ts) M'] [hb : Bod P f]
    (hw : wants ops ⟨some d, .call ⟨.value (.func f), xs, Ts⟩, ty, pos, aft, gu⟩ E.get = some true) (hf : fits n ⟨some d, .call ⟨.value (.func f), xs, Ts⟩, ty, pos, aft, gu⟩ = true) (hx : evL E xs.toList = some vs)
    (h : ∀ ts' id, Step room U ts ts' → Is ts' id t → W P ops n bars K l ((d, okI id) :: E) St ((g, gwP g s b le n1 ts') :: (s, treeP s room ts') :: M')) : W P ops n bars K ((i, ⟨some d, .call ⟨.value (.func f), xs, Ts⟩, ty, pos, aft, gu⟩) :: l) E St V :=
  W.call hc (ks := [g, s]) rfl (hp := ⟨hp.perm.trans (hq.perm.cons _)⟩) hw hf hx fun v N hh => by
    obtain ⟨ts', id, rfl, rfl, h1, h2⟩ := hh
    exact h ts' id h1 h2
end
attribute [local irreducible] SW J T.lev T.ok T.k0 T.k1 T.k2 T.k3 T.cells num T.ctr T.grow T.growNew genN fourN cutN spK spQ spS T.empty T.emptyNew
set_option maxHeartbeats 8000000
set_option maxRecDepth 10000
section
variable {s room g b l n : Nat} {U ts : List T}
theorem Center_is {id : Int} {t : T} (h : Inv room U ts) (hi : Is ts id t) (hl : 4 ≤ t.lev) (hu : T.ctr t.k0 t.k1 t.k2 t.k3 ∈ U) :
    CallR P 5 [ptr g, int id] [(g, gwP g s b l n ts), (s, treeP s room ts)] (Widened room U ts g s b l n (T.ctr t.k0 t.k1 t.k2 t.k3)) := by
  have l40 := h.reg.lev _ hi.mem
  have km := kid_mem h.reg hi.mem hl
  have kl := T.kid_lev (h.reg.ok _ hi.mem) hl
  have v0 : (t.lev : Int) - 1 = t.k0.lev := by have := kl.1; omega
  have v1 : t.k1.lev = t.k0.lev := by have := kl.1; have := kl.2.1; omega
  have v2 : t.k2.lev = t.k0.lev := by have := kl.1; have := kl.2.2.1; omega
  have v3 : t.k3.lev = t.k0.lev := by have := kl.1; have := kl.2.2.2; omega
  refine callR_of Tryd.func5 rfl Tryd.ntmps5 rfl fun σ F => ?_
  refine J.openG g fun bk es clk h1 h2 => ?_
  repeat' first
    | (show W _ _ _ _ _ (_ :: _) _ _ _; first
      | refine W.call1 (Level_is hi) rfl rfl rfl ?_
      | refine W.call2 (mkids_is (hi.eta hl)) rfl rfl rfl ?_
      | refine W.mk (mcenter_is (L := (t.lev : Int) - 1) h (is_num km.1) (is_num km.2.1) (is_num km.2.2.1) (is_num km.2.2.2) v0 v1 v2 v3 hu) rfl rfl rfl (fun ts1 o1 s1 i1 => ?_)
      | refine W.pure rfl rfl rfl rfl ?_
      | refine W.ldV rfl rfl rfl rfl rfl rfl ?_
      | refine W.cmpF rfl rfl rfl rfl (by simp only [cmpN]; first | done | omega) ?_
      | refine W.fieldAddr0 rfl rfl rfl rfl rfl ?_
      | refine W.sub64 rfl rfl rfl rfl (by omega) ?_
      | refine W.boxA rfl rfl rfl (fun bq => ?_)
      | refine W.neIfNilT rfl rfl rfl ?_
      | refine W.eqPtNil rfl rfl rfl ?_
      | refine W.build rfl rfl rfl ?_)
    | refine W.nil ?_
    | refine J.reg ?_
    | refine J.seq ?_
    | refine J.condF rfl ?_
    | refine J.block ?_
    | refine J.endBlk ?_
    | refine J.skip ?_
  refine J.regD [] mixed (by kernel_rfl) ?_
  repeat' first
    | (show W _ _ _ _ _ (_ :: _) _ _ _; first
      | refine W.pure rfl rfl rfl rfl ?_
      | refine W.fieldAddr0 rfl rfl rfl rfl rfl ?_
      | refine W.ld rfl rfl rfl rfl rfl ?_)
    | refine W.nil ?_
  refine J.shutG (m := n) (ok := okG b l ts1) g bk (ents_mono h1 s1.pre) h2 ?_
  exact J.retR [g, s] (res2 rfl rfl rfl) ⟨ts1, o1, rfl, rfl, s1, i1⟩
theorem Wide_leaf {id : Int} {t : T} (h : Inv room U ts) (hi : Is ts id t) (hl : t.lev = 3) (hu : ∀ u ∈ T.wideNew t, u ∈ U) :
    CallR P 7 [ptr g, int id] [(g, gwP g s b l n ts), (s, treeP s room ts)] (Widened room U ts g s b l n (T.wide t)) := by
  have e : T.wide t = T.node (.leaf (spK t.cells 64 0)) (.leaf (spK t.cells 64 1)) (.leaf (spK t.cells 64 2)) (.leaf (spK t.cells 64 3)) := by unfold T.wide; rw [if_pos hl]
  have hlt := leaf_lt (h.reg.ok _ hi.mem) hl
  unfold T.wideNew at hu
  rw [if_pos hl, e] at hu
  rw [e]
  simp only [List.mem_cons, List.not_mem_nil, or_false] at hu
  have hlf : Is ts id (.leaf t.cells) := by rw [← T.eta3 hl]; exact hi
  refine callR_of Tryd.func7 rfl Tryd.ntmps7 rfl fun σ F => ?_
  refine J.openG g fun bk es clk h1 h2 => ?_
  repeat' first
    | (show W _ _ _ _ _ (_ :: _) _ _ _; first
      | refine W.call1 (Level_is hi) rfl rfl rfl ?_
      | refine W.call2 (mtile_is hlf) rfl rfl rfl ?_
      | refine W.mk (mspread_is h hlt (hu _ (.inl rfl)) (hu _ (.inr (.inl rfl))) (hu _ (.inr (.inr (.inl rfl)))) (hu _ (.inr (.inr (.inr (.inl rfl))))) (hu _ (.inr (.inr (.inr (.inr rfl)))))) rfl rfl rfl (fun ts1 o1 s1 i1 => ?_)
      | refine W.pure rfl rfl rfl rfl ?_
      | refine W.ldV rfl rfl rfl rfl rfl rfl ?_
      | refine W.cmpT rfl rfl rfl rfl (by simp only [cmpP]; first | done | omega) ?_
      | refine W.cmpF rfl rfl rfl rfl (by simp only [cmpN]; first | done | omega) ?_
      | refine W.fieldAddr0 rfl rfl rfl rfl rfl ?_
      | refine W.boxA rfl rfl rfl (fun bq => ?_)
      | refine W.neIfNilT rfl rfl rfl ?_
      | refine W.eqPtNil rfl rfl rfl ?_
      | refine W.build rfl rfl rfl ?_)
    | refine W.nil ?_
    | refine J.reg ?_
    | refine J.seq ?_
    | refine J.condT rfl ?_
    | refine J.condF rfl ?_
    | refine J.block ?_
    | refine J.endBlk ?_
    | refine J.skip ?_
  refine J.regD [] mixed (by kernel_rfl) ?_
  repeat' first
    | (show W _ _ _ _ _ (_ :: _) _ _ _; first
      | refine W.pure rfl rfl rfl rfl ?_
      | refine W.fieldAddr0 rfl rfl rfl rfl rfl ?_
      | refine W.ld rfl rfl rfl rfl rfl ?_)
    | refine W.nil ?_
  refine J.shutG (m := n) (ok := okG b l ts1) g bk (ents_mono h1 s1.pre) h2 ?_
  exact J.retR [g, s] (res2 rfl rfl rfl) ⟨ts1, o1, rfl, rfl, s1, i1⟩
theorem Wide_node {id : Int} {t : T} (h : Inv room U ts) (hi : Is ts id t) (hl : 4 ≤ t.lev) (h40 : t.lev < 40) (hu : ∀ u ∈ T.wideNew t, u ∈ U) :
    CallR P 7 [ptr g, int id] [(g, gwP g s b l n ts), (s, treeP s room ts)] (Widened room U ts g s b l n (T.wide t)) := by
  have hne : ¬ t.lev = 3 := by omega
  have e : T.wide t = .node (.node (T.empty (t.lev - 4)) (T.empty (t.lev - 4)) (T.empty (t.lev - 4)) t.k0) (.node (T.empty (t.lev - 4)) (T.empty (t.lev - 4)) t.k1 (T.empty (t.lev - 4))) (.node (T.empty (t.lev - 4)) t.k2 (T.empty (t.lev - 4)) (T.empty (t.lev - 4))) (.node t.k3 (T.empty (t.lev - 4)) (T.empty (t.lev - 4)) (T.empty (t.lev - 4))) := by
    unfold T.wide; rw [if_neg hne]
  unfold T.wideNew at hu
  rw [if_neg hne, e] at hu
  rw [e]
  have el : (T.empty (t.lev - 4)).lev = t.lev - 1 := by rw [T.empty_lev]; omega
  have ue : ∀ u ∈ T.emptyNew (t.lev - 4), u ∈ U := fun u hm => hu u (List.mem_append_left _ hm)
  have kl := T.kid_lev (h.reg.ok _ hi.mem) hl
  obtain ⟨g1, g2⟩ := T.emptyNew_goods h.reg (t.lev - 4) (by omega)
  have hE := Empty_is (s := s) (L := (t.lev : Int) - 1) h (by omega) (by omega) ue
  have he := is_num g2
  have S0 : Step room U ts (puts ts (T.emptyNew (t.lev - 4))) := ⟨puts_pre _ _, h.puts ue g1⟩
  generalize puts ts (T.emptyNew (t.lev - 4)) = ts0 at *
  generalize num ts0 (T.empty (t.lev - 4)) = ei at *
  generalize T.empty (t.lev - 4) = em at *
  simp only [List.mem_append, List.mem_cons, List.not_mem_nil, or_false] at hu
  have km := kid_mem S0.inv.reg (hi.mono S0.pre).mem hl
  have w0 : t.k0.lev = em.lev := by have := kl.1; omega
  have w1 : t.k1.lev = em.lev := by have := kl.2.1; omega
  have w2 : t.k2.lev = em.lev := by have := kl.2.2.1; omega
  have w3 : t.k3.lev = em.lev := by have := kl.2.2.2; omega
  have e40 : em.lev < 40 := by omega
  have j0 := is_num km.1; have j1 := is_num km.2.1; have j2 := is_num km.2.2.1; have j3 := is_num km.2.2.2
  have lv : ∀ a b c d : T, (T.node a b c d).lev = a.lev + 1 := fun a b c d => by simp only [T.lev]
  refine callR_of Tryd.func7 rfl Tryd.ntmps7 rfl fun σ F => ?_
  refine J.openG g fun bk es clk h1 h2 => ?_
  repeat' first
    | (show W _ _ _ _ _ (_ :: _) _ _ _; first
      | refine W.call1 (Level_is hi) rfl rfl rfl ?_
      | refine W.call1 hE rfl rfl rfl ?_
      | refine W.call2 (mkids_is ((hi.mono S0.pre).eta hl)) rfl rfl rfl ?_
      | refine W.pure rfl rfl rfl rfl ?_
      | refine W.ldV rfl rfl rfl rfl rfl rfl ?_
      | refine W.cmpF rfl rfl rfl rfl (by simp only [cmpN]; first | done | omega) ?_
      | refine W.fieldAddr0 rfl rfl rfl rfl rfl ?_
      | refine W.sub64 rfl rfl rfl rfl (by omega) ?_
      | refine W.alloc rfl rfl (fun bq => ?_)
      | refine W.boxA rfl rfl rfl (fun bq => ?_)
      | refine W.storeA rfl rfl rfl rfl (by rfl) (by rfl) (by simp [Value.oneCell']) ?_
      | refine W.neIfNilT rfl rfl rfl ?_
      | refine W.eqPtNil rfl rfl rfl ?_
      | refine W.build rfl rfl rfl ?_)
    | refine W.nil ?_
    | refine J.reg ?_
    | refine J.seq ?_
    | refine J.condF rfl ?_
    | refine J.block ?_
    | refine J.endBlk ?_
    | refine J.skip ?_
  rename_i bm
  refine J.regD [bm, s] mixed (by kernel_rfl) ?_
  repeat' first
    | (show W _ _ _ _ _ (_ :: _) _ _ _; first
      | refine W.mk (mnode_is S0.inv he he he j0 (hu _ (.inr (.inl rfl))) rfl rfl w0 e40) rfl rfl rfl (fun ts1 o1 s1 i1 => ?_)
      | refine W.pure rfl rfl rfl rfl ?_
      | refine W.indexAddrE rfl rfl rfl rfl (by omega) (by simp only [Int.reduceToNat, Nat.reduceMul, Nat.zero_add]; rfl) ?_
      | refine W.ld rfl rfl rfl rfl rfl ?_)
  have T1 := S0.trans s1
  repeat' first
    | (show W _ _ _ _ _ (_ :: _) _ _ _; first
      | refine W.mk (mnode_is s1.inv (he.mono s1.pre) (he.mono s1.pre) (j1.mono s1.pre) (he.mono s1.pre) (hu _ (.inr (.inr (.inl rfl)))) rfl w1 rfl e40) rfl rfl rfl (fun ts2 o2 s2 i2 => ?_)
      | refine W.pure rfl rfl rfl rfl ?_
      | refine W.indexAddrE rfl rfl rfl rfl (by omega) (by simp only [Int.reduceToNat, Nat.reduceMul, Nat.zero_add]; rfl) ?_
      | refine W.ld rfl rfl rfl rfl rfl ?_)
  have A2 := s1.trans s2
  repeat' first
    | (show W _ _ _ _ _ (_ :: _) _ _ _; first
      | refine W.mk (mnode_is s2.inv (he.mono A2.pre) (j2.mono A2.pre) (he.mono A2.pre) (he.mono A2.pre) (hu _ (.inr (.inr (.inr (.inl rfl))))) w2 rfl rfl e40) rfl rfl rfl (fun ts3 o3 s3 i3 => ?_)
      | refine W.pure rfl rfl rfl rfl ?_
      | refine W.indexAddrE rfl rfl rfl rfl (by omega) (by simp only [Int.reduceToNat, Nat.reduceMul, Nat.zero_add]; rfl) ?_
      | refine W.ld rfl rfl rfl rfl rfl ?_)
  have A3 := A2.trans s3
  repeat' first
    | refine W.mk (mnode_is s3.inv (j3.mono A3.pre) (he.mono A3.pre) (he.mono A3.pre) (he.mono A3.pre) (hu _ (.inr (.inr (.inr (.inr (.inl rfl)))))) w3.symm w3.symm w3.symm (by rw [w3]; exact e40)) rfl rfl rfl (fun ts4 o4 s4 i4 => ?_)
  repeat' first
    | refine W.mk (mnode_is s4.inv (i1.mono (s2.trans (s3.trans s4)).pre) (i2.mono (s3.trans s4).pre) (i3.mono s4.pre) i4 (hu _ (.inr (.inr (.inr (.inr (.inr rfl)))))) (by rw [lv, lv]) (by rw [lv, lv]) (by rw [lv, lv, w3]) (by rw [lv]; omega)) rfl rfl rfl (fun ts5 o5 s5 i5 => ?_)
    | refine W.pure rfl rfl rfl rfl ?_
    | refine W.nil ?_
    | refine J.seq ?_
  refine J.regD [] mixed (by kernel_rfl) ?_
  repeat' first
    | (show W _ _ _ _ _ (_ :: _) _ _ _; first
      | refine W.pure rfl rfl rfl rfl ?_
      | refine W.fieldAddr0 rfl rfl rfl rfl rfl ?_
      | refine W.ld rfl rfl rfl rfl rfl ?_)
    | refine W.nil ?_
  have S5 := (S0.trans A3).trans (s4.trans s5)
  refine J.shutG (m := n) (ok := okG b l ts5) g bk (ents_mono h1 S5.pre) h2 ?_
  exact J.retR [g, s] (res2 rfl rfl rfl) ⟨ts5, o5, rfl, rfl, S5, i5⟩
theorem Wide_is {id : Int} {t : T} (h : Inv room U ts) (hi : Is ts id t) (h40 : t.lev < 40) (hu : ∀ u ∈ T.wideNew t, u ∈ U) :
    CallR P 7 [ptr g, int id] [(g, gwP g s b l n ts), (s, treeP s room ts)] (Widened room U ts g s b l n (T.wide t)) := by
  have := t.lev_ge
  by_cases hl : t.lev = 3
  · exact Wide_leaf h hi hl hu
  · exact Wide_node h hi (by omega) h40 hu
theorem Grow_is {id Ji : Int} {t : T} {j k : Nat} (hr : RuleOk b l) (h : Inv room U ts) (hi : Is ts id t) (hl : t.lev = k + 4) (hJ : Ji = j) (hj : j ≤ k + 2) (hu : ∀ u ∈ T.growNew b l k t j, u ∈ U) :
    CallR P 6 [ptr g, int id, int Ji] [(g, gwP g s b l n ts), (s, treeP s room ts)] (Grown room U ts g s b l (T.grow b l k t j)) := by
  have l40 := h.reg.lev _ hi.mem
  have hg := grow_at hr k (g := g) (s := s) (n := n) (L := (t.lev : Int)) h hi hl hJ hj (by omega) hu
  refine callR_of Tryd.func6 rfl Tryd.ntmps6 rfl fun σ F => ?_
  refine J.openG g fun bk es clk h1 h2 => ?_
  repeat' first
    | refine J.seq ?_
  refine J.reg ?_
  repeat' first
    | refine W.pure rfl rfl rfl rfl ?_
    | refine W.nil ?_
  repeat' first
    | refine J.seq ?_
  refine J.reg ?_
  repeat' first
    | refine W.pure rfl rfl rfl rfl ?_
    | refine W.eqPtNil rfl rfl rfl ?_
    | refine W.nil ?_
  repeat' first
    | refine J.seq ?_
    | refine J.condF rfl ?_
    | refine J.skip ?_
  refine J.reg ?_
  repeat' first
    | (show W _ _ _ _ _ (_ :: _) _ _ _; first
      | refine W.call1 (Level_is hi) rfl rfl rfl ?_
      | refine W.pure rfl rfl rfl rfl ?_
      | refine W.ldV rfl rfl rfl rfl rfl rfl ?_
      | refine W.fieldAddr0 rfl rfl rfl rfl rfl ?_)
    | refine W.nil ?_
  repeat' first
    | refine J.seq ?_
    | refine J.block ?_
  refine J.reg ?_
  repeat' first
    | refine W.pure rfl rfl rfl rfl ?_
    | refine W.neIfNilT rfl rfl rfl ?_
    | refine W.nil ?_
  repeat' first
    | refine J.seq ?_
    | refine J.condF rfl ?_
  refine J.reg ?_
  repeat' first
    | (show W _ _ _ _ _ (_ :: _) _ _ _; first
      | refine W.pure rfl rfl rfl rfl ?_
      | refine W.cmpF rfl rfl rfl rfl (by simp only [cmpN]; first | done | omega) ?_
      | refine W.sub64 rfl rfl rfl rfl (by omega) ?_)
    | refine W.nil ?_
  repeat' first
    | refine J.seq ?_
    | refine J.condF rfl ?_
    | refine J.endBlk ?_
    | refine J.skip ?_
  refine J.shutG g bk h1 h2 ?_
  repeat' first
    | refine W.gk hg rfl rfl rfl (fun ts1 o1 n1 s1 i1 z1 => ?_)
    | refine W.pure rfl rfl rfl rfl ?_
    | refine W.nil ?_
    | refine J.reg ?_
  exact J.retR [g, s] (res2 rfl rfl rfl) ⟨ts1, o1, n1, rfl, rfl, z1, s1, i1⟩
end
end Go.Proofs.YtphnadpmpcifoaaDoor
