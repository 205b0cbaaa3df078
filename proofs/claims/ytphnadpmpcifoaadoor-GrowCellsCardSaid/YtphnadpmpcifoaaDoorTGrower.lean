/-
  Package grow: grow.
-/
import Derived.Test.YtphnadpmpcifoaaDoorTLarge
namespace Go.Qm
theorem leaf_is {ts : List T} {t : T} (hm : t ∈ ts) (h : t.lev = 3) : Is ts (num ts t) (.leaf t.cells) := by
  cases t with
  | leaf _ => exact is_num hm
  | node a _ _ _ => have := a.lev_ge; simp [T.lev] at h; omega
theorem leaf_lt {t : T} (ho : t.ok) (h : t.lev = 3) : t.cells < 18446744073709551616 := by
  cases t with
  | leaf _ => exact ho
  | node a _ _ _ => have := a.lev_ge; simp [T.lev] at h; omega
theorem T.grow_zero (b l : Nat) (t : T) (j : Nat) : T.grow b l 0 t j = .leaf (cutN (genN b l (fourN t.k0.cells t.k1.cells t.k2.cells t.k3.cells) (2 ^ j)) 4 4 8) := rfl
theorem T.growNew_zero (b l : Nat) (t : T) (j : Nat) : T.growNew b l 0 t j = [T.grow b l 0 t j] := rfl
end Go.Qm
namespace Go.Proofs.YtphnadpmpcifoaaDoor
open Go.Sq Go.Qm
abbrev Ents (b l : Nat) (ts : List T) (es : Array MapEntry) : Prop := ∀ e ∈ es.toList, ∃ i j o, e.key = askV i j ∧ i64 i ∧ i64 j ∧ e.val = int o ∧ okG b l ts i j o
theorem ents_keys {b l : Nat} {ts : List T} {es : Array MapEntry} (h : Ents b l ts es) : ∀ e ∈ es.toList, ∃ x, keyOf Tryd.prog 95 e.key = some x := fun e he => by
  obtain ⟨i, j, o, e1, e2, e3, -, -⟩ := h e he
  rw [e1]; exact keyAsk e2 e3
theorem known_hit {b l k : Nat} {ts : List T} {es : Array MapEntry} (r : Reg ts) (hes : Ents b l ts es) {id Ji : Int} {t : T} {jn : Nat} (hi : Is ts id t) (hl : t.lev = k + 4) (hJ : Ji = jn) (h : ∃ e ∈ es.toList, e.key = askV id Ji) :
    ∃ o, Is ts o (T.grow b l k t jn) ∧ ∀ e ∈ es.toList, e.key = askV id Ji → e.val = int o := by
  have one : ∀ e ∈ es.toList, e.key = askV id Ji → ∃ o, e.val = int o ∧ Is ts o (T.grow b l k t jn) := fun e he hk => by
    obtain ⟨i, j, o, e1, e2, e3, e4, k', t', j', h1, h2, h3, h4, h5⟩ := hes e he
    rw [e1] at hk
    simp only [Value.agg.injEq, Array.mk.injEq, List.cons.injEq, Value.int.injEq, true_and, and_true] at hk
    obtain ⟨rfl, rfl⟩ := hk
    have := h2.fun hi
    subst this
    obtain rfl : k' = k := by omega
    obtain rfl : j' = jn := by omega
    exact ⟨o, e4, h5⟩
  obtain ⟨e, he, hk⟩ := h
  obtain ⟨o, h1, h2⟩ := one e he hk
  refine ⟨o, h2, fun e' he' hk' => ?_⟩
  obtain ⟨o', h1', h2'⟩ := one e' he' hk'
  rw [h1', h2'.inj r.nodup h2]
theorem ents_put {b l k : Nat} {ts ts' : List T} {es es' : Array MapEntry} (hes : Ents b l ts es) (hp : ts <+: ts') {id Ji o : Int} {t : T} {jn : Nat} (hi : Is ts' id t) (hl : t.lev = k + 4) (hJ : Ji = jn) (hj : jn ≤ k + 2) (hid : i64 id) (hJi : i64 Ji) (ho : Is ts' o (T.grow b l k t jn))
    (h : ∀ en ∈ es'.toList, en ∈ es.toList ∨ (en.key = askV id Ji ∧ en.val = int o)) : Ents b l ts' es' := fun e he => by
  rcases h e he with h | ⟨h1, h2⟩
  · obtain ⟨i, j, o, e1, e2, e3, e4, e5⟩ := hes e h
    exact ⟨i, j, o, e1, e2, e3, e4, e5.mono hp⟩
  · exact ⟨id, Ji, o, h1, hid, hJi, h2, k, t, jn, hl, hi, hJ, hj, ho⟩
attribute [local irreducible] SW J T.lev T.ok T.k0 T.k1 T.k2 T.k3 T.cells num T.ctr T.grow T.nineN T.nineC T.growNew T.mid T.jj genN fourN cutN
set_option maxHeartbeats 8000000
set_option maxRecDepth 10000
section
variable {b l : Nat}
theorem grow_zero (hr : RuleOk b l) : GrowAt b l 0 := by
  intro g s room n U ts id Ji L t jn h hi hl hJ hj hL hu
  have ra := h.i64 hi
  obtain ⟨lx, hx⟩ := keyAsk (a := id) (b := Ji) ⟨by omega, by omega⟩ ⟨by omega, by omega⟩
  have km := kid_mem h.reg hi.mem (by omega)
  have kl := T.kid_lev (h.reg.ok _ hi.mem) (by omega)
  have ko := T.kid_ok (h.reg.ok _ hi.mem) (by omega)
  have l0 : t.k0.lev = 3 := by have := kl.1; omega
  have l1 : t.k1.lev = 3 := by have := kl.2.1; omega
  have l2 : t.k2.lev = 3 := by have := kl.2.2.1; omega
  have l3 : t.k3.lev = 3 := by have := kl.2.2.2; omega
  have hp : 2 ^ jn ≤ 2 ^ 2 := Nat.pow_le_pow_right (by omega) hj
  have hsh : ShlE .i64 1 Ji ((2 ^ jn : Nat) : Int) := ⟨by rw [hJ]; exact (shl_i64 (a := 1) (by omega) (by omega)).trans (by rw [Nat.one_mul])⟩
  rw [T.growNew_zero, T.grow_zero] at hu
  have hu' := hu _ (List.mem_singleton.2 rfl)
  have ho := cutN_lt (genN b l (fourN t.k0.cells t.k1.cells t.k2.cells t.k3.cells) (2 ^ jn)) 4 4 8 (Nat.le_refl _)
  have hL4 : L = 4 := by omega
  subst hL4
  have i4 := hi.eta (by omega)
  refine callR_of Tryd.func23 rfl Tryd.ntmps23 rfl fun σ F => ?_
  refine J.openG g fun bk es clk h1 h2 => ?_
  by_cases hk : ∃ e ∈ es.toList, e.key = askV id Ji
  · obtain ⟨o, h3, h4⟩ := known_hit h.reg h1 hi hl hJ hk
    repeat' first
      | (show W _ _ _ _ _ (_ :: _) _ _ _; first
        | refine W.pure rfl rfl rfl rfl ?_
        | refine W.alloc rfl rfl (fun bq => ?_)
        | refine W.storeA rfl rfl rfl rfl (by rfl) (by rfl) (by simp [Value.oneCell']) ?_
        | refine W.build rfl rfl rfl ?_)
      | refine W.nil ?_
      | refine J.reg ?_
      | refine J.seq ?_
    refine J.regD [] mixed (by kernel_rfl) ?_
    repeat' first
      | (show W _ _ _ _ _ (_ :: _) _ _ _; first
        | refine W.lookup rfl rfl rfl rfl (fun w hw => lookup_hit KAsk inferInstance hw hx (ents_keys h1) h4 hk) ?_
        | refine W.pure rfl rfl rfl rfl ?_
        | refine W.fieldAddr0 rfl rfl rfl rfl rfl ?_
        | refine W.ld rfl rfl rfl rfl rfl ?_
        | refine W.lda rfl rfl rfl rfl rfl ?_)
      | refine W.nil ?_
      | refine J.reg ?_
      | refine J.seq ?_
      | refine J.condT rfl ?_
    refine J.shutG g bk h1 h2 ?_
    refine J.retR [g, s] (res2 rfl rfl rfl) ⟨ts, o, n, rfl, rfl, ?_, .refl h, h3⟩
    obtain ⟨e, he, -⟩ := hk
    have := List.length_pos_of_mem he
    simp at this; omega
  · have hm : ∀ e ∈ es.toList, e.key ≠ askV id Ji := fun e he hk' => hk ⟨e, he, hk'⟩
    repeat' first
      | (show W _ _ _ _ _ (_ :: _) _ _ _; first
        | refine W.pure rfl rfl rfl rfl ?_
        | refine W.alloc rfl rfl (fun bq => ?_)
        | refine W.storeA rfl rfl rfl rfl (by rfl) (by rfl) (by simp [Value.oneCell']) ?_
        | refine W.build rfl rfl rfl ?_)
      | refine W.nil ?_
      | refine J.reg ?_
      | refine J.seq ?_
    refine J.regD [] mixed (by kernel_rfl) ?_
    repeat' first
      | (show W _ _ _ _ _ (_ :: _) _ _ _; first
        | refine W.lookup rfl rfl rfl rfl (fun w hw => lookup_miss KAsk inferInstance inferInstance hw hx (ents_keys h1) hm) ?_
        | refine W.pure rfl rfl rfl rfl ?_
        | refine W.ldV rfl rfl rfl rfl rfl rfl ?_
        | refine W.cmpT rfl rfl rfl rfl (by simp only [cmpP]; first | done | omega) ?_
        | refine W.fieldAddr0 rfl rfl rfl rfl rfl ?_
        | refine W.ld rfl rfl rfl rfl rfl ?_
        | refine W.lda rfl rfl rfl rfl rfl ?_
        | refine W.boxA rfl rfl rfl (fun bq => ?_)
        | refine W.build rfl rfl rfl ?_)
      | refine W.nil ?_
      | refine J.reg ?_
      | refine J.seq ?_
      | refine J.condT rfl ?_
      | refine J.condF rfl ?_
      | refine J.skip ?_
    rename_i b10
    refine J.regD [bq, s] mixed (by kernel_rfl) ?_
    repeat' first
      | (show W _ _ _ _ _ (_ :: _) _ _ _; first
        | refine W.call2 (mkids_is i4) rfl rfl rfl ?_
        | refine W.call2 (mtiles_is (leaf_is km.1 l0) (leaf_is km.2.1 l1) (leaf_is km.2.2.1 l2) (leaf_is km.2.2.2 l3)) rfl rfl rfl ?_
        | refine W.call0 (tGrow_is hr (n := 2 ^ jn) (by omega) (leaf_lt ko.1 l0) (leaf_lt ko.2.1 l1) (leaf_lt ko.2.2.1 l2) (leaf_lt ko.2.2.2 l3)) rfl rfl rfl ?_
        | refine W.mk (mleaf_is h hu' ho) rfl rfl rfl (fun ts1 o st is => ?_)
        | refine W.pure rfl rfl rfl rfl ?_
        | refine W.ldV rfl rfl rfl rfl rfl rfl ?_
        | refine W.shlE rfl rfl rfl rfl (by omega) (by assumption) ?_
        | refine W.fieldAddr0 rfl rfl rfl rfl rfl ?_
        | refine W.ldq rfl rfl rfl rfl rfl (by simp only [List.drop_succ_cons, List.drop_zero, List.take_succ_cons, List.take_zero]; rfl) ?_
        | refine W.neIfNilT rfl rfl rfl ?_
        | refine W.eqIfNilT rfl rfl rfl ?_)
      | refine W.nil ?_
      | refine J.reg ?_
      | refine J.seq ?_
      | refine J.condT rfl ?_
      | refine J.condF rfl ?_
      | refine J.skip ?_
    rw [← T.grow_zero] at is
    refine J.regD [bk] mixed (by kernel_rfl) ?_
    repeat' first
      | (show W _ _ _ _ _ (_ :: _) _ _ _; first
        | refine W.mapPut KAsk rfl rfl rfl rfl rfl hx (ents_keys h1) (fun es' c' p1 p2 p3 => ?_)
        | refine W.pure rfl rfl rfl rfl ?_
        | refine W.fieldAddr0 rfl rfl rfl rfl rfl ?_
        | refine W.ld rfl rfl rfl rfl rfl ?_
        | refine W.lda rfl rfl rfl rfl rfl ?_)
      | refine W.nil ?_
      | refine J.reg ?_
      | refine J.seq ?_
    refine J.shutG (m := es'.size) (ok := okG b l ts1) g bk (ents_put h1 st.pre (hi.mono st.pre) hl hJ hj ⟨by omega, by omega⟩ ⟨by omega, by omega⟩ is p1) rfl ?_
    exact J.retR [g, s] (res2 rfl rfl rfl) ⟨ts1, o, es'.size, rfl, rfl, p2, st, is⟩
theorem grow_succ {k : Nat} (ih : GrowAt b l k) : GrowAt b l (k + 1) := by
  intro g s room n U ts id Ji L t jn h hi hl hJ hj hL hu
  have ra := h.i64 hi
  have l40 := h.reg.lev _ hi.mem
  obtain ⟨lx, hx⟩ := keyAsk (a := id) (b := Ji) ⟨by omega, by omega⟩ ⟨by omega, by omega⟩
  have lg : ∀ {m n : Nat}, CallR P 42 [ptr g, ptr m, int id, int Ji, int L] [(m, mkP m s), (g, gwP g s b l n ts), (s, treeP s room ts)] (Larged room U ts g s m b l (T.grow b l (k + 1) t jn)) := by
    intro m n
    by_cases hf : jn = k + 3
    · exact large_fast ih h hi (by omega) hJ hf (by omega) hu
    · exact large_slow ih h hi (by omega) hJ (by omega) (by omega) hu
  refine callR_of Tryd.func23 rfl Tryd.ntmps23 rfl fun σ F => ?_
  refine J.openG g fun bk es clk h1 h2 => ?_
  by_cases hk : ∃ e ∈ es.toList, e.key = askV id Ji
  · obtain ⟨o, h3, h4⟩ := known_hit h.reg h1 hi hl hJ hk
    repeat' first
      | (show W _ _ _ _ _ (_ :: _) _ _ _; first
        | refine W.pure rfl rfl rfl rfl ?_
        | refine W.alloc rfl rfl (fun bq => ?_)
        | refine W.storeA rfl rfl rfl rfl (by rfl) (by rfl) (by simp [Value.oneCell']) ?_
        | refine W.build rfl rfl rfl ?_)
      | refine W.nil ?_
      | refine J.reg ?_
      | refine J.seq ?_
    refine J.regD [] mixed (by kernel_rfl) ?_
    repeat' first
      | (show W _ _ _ _ _ (_ :: _) _ _ _; first
        | refine W.lookup rfl rfl rfl rfl (fun w hw => lookup_hit KAsk inferInstance hw hx (ents_keys h1) h4 hk) ?_
        | refine W.pure rfl rfl rfl rfl ?_
        | refine W.fieldAddr0 rfl rfl rfl rfl rfl ?_
        | refine W.ld rfl rfl rfl rfl rfl ?_
        | refine W.lda rfl rfl rfl rfl rfl ?_)
      | refine W.nil ?_
      | refine J.reg ?_
      | refine J.seq ?_
      | refine J.condT rfl ?_
    refine J.shutG g bk h1 h2 ?_
    refine J.retR [g, s] (res2 rfl rfl rfl) ⟨ts, o, n, rfl, rfl, ?_, .refl h, h3⟩
    obtain ⟨e, he, -⟩ := hk
    have := List.length_pos_of_mem he
    simp at this; omega
  · have hm : ∀ e ∈ es.toList, e.key ≠ askV id Ji := fun e he hk' => hk ⟨e, he, hk'⟩
    repeat' first
      | (show W _ _ _ _ _ (_ :: _) _ _ _; first
        | refine W.pure rfl rfl rfl rfl ?_
        | refine W.alloc rfl rfl (fun bq => ?_)
        | refine W.storeA rfl rfl rfl rfl (by rfl) (by rfl) (by simp [Value.oneCell']) ?_
        | refine W.build rfl rfl rfl ?_)
      | refine W.nil ?_
      | refine J.reg ?_
      | refine J.seq ?_
    refine J.regD [] mixed (by kernel_rfl) ?_
    repeat' first
      | (show W _ _ _ _ _ (_ :: _) _ _ _; first
        | refine W.lookup rfl rfl rfl rfl (fun w hw => lookup_miss KAsk inferInstance inferInstance hw hx (ents_keys h1) hm) ?_
        | refine W.pure rfl rfl rfl rfl ?_
        | refine W.fieldAddr0 rfl rfl rfl rfl rfl ?_
        | refine W.ld rfl rfl rfl rfl rfl ?_
        | refine W.lda rfl rfl rfl rfl rfl ?_)
      | refine W.nil ?_
    repeat' first
      | refine J.seq ?_
    refine J.reg ?_
    repeat' first
      | refine W.pure rfl rfl rfl rfl ?_
      | refine W.nil ?_
    repeat' first
      | refine J.seq ?_
      | refine J.condF rfl ?_
      | refine J.skip ?_
    refine J.reg ?_
    repeat' first
      | (show W _ _ _ _ _ (_ :: _) _ _ _; first
        | refine W.pure rfl rfl rfl rfl ?_
        | refine W.ldV rfl rfl rfl rfl rfl rfl ?_
        | refine W.fieldAddr0 rfl rfl rfl rfl rfl ?_
        | refine W.boxA rfl rfl rfl (fun bq => ?_)
        | refine W.build rfl rfl rfl ?_)
      | refine W.nil ?_
    repeat' first
      | refine J.seq ?_
    refine J.reg ?_
    repeat' first
      | refine W.pure rfl rfl rfl rfl ?_
      | refine W.nil ?_
    repeat' first
      | refine J.seq ?_
    refine J.reg ?_
    repeat' first
      | refine W.pure rfl rfl rfl rfl ?_
      | refine W.nil ?_
    repeat' first
      | refine J.seq ?_
    refine J.reg ?_
    repeat' first
      | refine W.pure rfl rfl rfl rfl ?_
      | refine W.cmpF rfl rfl rfl rfl (by simp only [cmpN]; first | done | omega) ?_
      | refine W.nil ?_
    repeat' first
      | refine J.condF rfl ?_
    rename_i b10
    refine J.shutG g bk h1 h2 ?_
    repeat' first
      | (show W _ _ _ _ _ (_ :: _) _ _ _; first
        | refine W.lk lg rfl rfl rfl (fun ts1 o n1 st is => ?_)
        | refine W.pure rfl rfl rfl rfl ?_
        | refine W.ldV rfl rfl rfl rfl rfl rfl ?_
        | refine W.fieldAddr0 rfl rfl rfl rfl rfl ?_
        | refine W.neIfNilT rfl rfl rfl ?_
        | refine W.eqIfNilT rfl rfl rfl ?_)
      | refine W.nil ?_
      | refine J.reg ?_
      | refine J.seq ?_
      | refine J.condT rfl ?_
      | refine J.condF rfl ?_
      | refine J.skip ?_
    refine J.openG g fun bk1 es1 clk1 h5 h6 => ?_
    refine J.regD [bk1] mixed (by kernel_rfl) ?_
    repeat' first
      | (show W _ _ _ _ _ (_ :: _) _ _ _; first
        | refine W.mapPut KAsk rfl rfl rfl rfl rfl hx (ents_keys h5) (fun es' c' p1 p2 p3 => ?_)
        | refine W.pure rfl rfl rfl rfl ?_
        | refine W.fieldAddr0 rfl rfl rfl rfl rfl ?_
        | refine W.ld rfl rfl rfl rfl rfl ?_
        | refine W.lda rfl rfl rfl rfl rfl ?_)
      | refine W.nil ?_
      | refine J.reg ?_
      | refine J.seq ?_
    refine J.shutG (m := es'.size) (ok := okG b l ts1) g bk1 (ents_put h5 (List.prefix_refl _) (hi.mono st.pre) hl hJ hj ⟨by omega, by omega⟩ ⟨by omega, by omega⟩ is p1) rfl ?_
    exact J.retR [g, s] (res2 rfl rfl rfl) ⟨ts1, o, es'.size, rfl, rfl, p2, st, is⟩
theorem grow_at (hr : RuleOk b l) : ∀ k, GrowAt b l k
  | 0 => grow_zero hr
  | k + 1 => grow_succ (grow_at hr k)
end
end Go.Proofs.YtphnadpmpcifoaaDoor
