/-
  Store.add: a square that is there; a new one.
-/
import Derived.Test.YtphnadpmpcifoaaDoorQuad
namespace Go.Proofs.YtphnadpmpcifoaaDoor
open Go.Sq Go.Qm
attribute [local irreducible] SW J
set_option maxHeartbeats 4000000

instance (a0 a1 a2 a3 a4 a5 : Value) : BldS Tryd.prog 72 1 [(0, .agg #[a0, a1, a2, a3, a4, a5])] 80 [a0, a1, a2, a3, a4, a5] := ⟨fun w => by kernel_rfl⟩
instance (a : Int) (k : IntKind) : BldS Tryd.prog 73 1 [(0, .int k a)] 3 [.int k a] := ⟨fun w => by kernel_rfl⟩

theorem es_keys {st : St} (r : st.Rep) : ∀ e ∈ (es st.l).toList, ∃ l, keyOf Tryd.prog 80 e.key = some l := by
  intro e he
  simp only [es, List.mem_map] at he
  obtain ⟨⟨q, i⟩, hq, rfl⟩ := he
  have hm : q ∈ st.l := (List.mem_zipIdx' hq).2 ▸ List.getElem_mem _
  exact keySq q (r.ins q hm)
theorem es_miss {l : List Sq} {q : Sq} (h : q ∉ l) : ∀ e ∈ (es l).toList, e.key ≠ q.val := by
  intro e he hk
  simp only [es, List.mem_map] at he
  obtain ⟨⟨p, i⟩, hp, rfl⟩ := he
  have hm : p ∈ l := (List.mem_zipIdx' hp).2 ▸ List.getElem_mem _
  simp [Sq.vals] at hk
  exact h (by cases p; cases q; simp_all)
theorem es_hit {l : List Sq} (hn : l.Nodup) {q : Sq} {i : Nat} (h : l[i]? = some q) : (∀ e ∈ (es l).toList, e.key = q.val → e.val = .int .i64 (i + 1)) ∧ ∃ e ∈ (es l).toList, e.key = q.val := by
  constructor
  · intro e he hk
    simp only [es, List.mem_map] at he
    obtain ⟨⟨p, j⟩, hp, rfl⟩ := he
    have hm := List.mem_zipIdx' hp
    have hpq : p = q := by
      simp [Sq.vals] at hk
      cases p; cases q; simp_all
    subst hpq
    obtain ⟨hi, hi'⟩ := List.getElem?_eq_some_iff.1 h
    have : j = i := nodupInj hn hm.1 hi (hm.2.symm.trans hi'.symm)
    subst this
    rfl
  · obtain ⟨hi, hi'⟩ := List.getElem?_eq_some_iff.1 h
    refine ⟨⟨.agg q.vals.toArray, .int .i64 (i + 1), i⟩, ?_, by simp [Sq.vals]⟩
    simp only [es, List.mem_map]
    exact ⟨(q, i), List.mk_mem_zipIdx_iff_getElem?.2 (by simpa using h), rfl⟩
theorem es_push {l : List Sq} {q : Sq} : (es l).push ⟨q.val, .int .i64 ((l.length + 1 : Nat) : Int), l.length⟩ = es (l ++ [q]) := by
  simp [es, List.zipIdx_append, Sq.vals]

theorem add_hit {s : Nat} {st : St} {q : Sq} {i : Nat} (m : Int) (hq : q.In) (h : st.l[i]? = some q) :
    CallF P 31 [.pointer (some ⟨s, 0, none⟩), q.val, .int .i64 m] [(s, storeP s st)] (.tuple #[.int .i64 (i + 1), .nilIface]) [(s, storeP s st)] := by
  refine callR_of Tryd.func31 rfl Tryd.ntmps31 rfl fun σ F => ?_
  refine J.openSt s fun r vl gl vm gm bk => ?_
  obtain ⟨lx, hx⟩ := keySq q hq
  repeat' first
    | refine W.pure rfl rfl rfl rfl ?_
    | refine W.boxA rfl rfl rfl (fun bq => ?_)
    | refine W.nil ?_
    | refine J.reg ?_
    | refine J.seq ?_
  refine J.regD [] mixed (by kernel_rfl) ?_
  repeat' first
    | (show W _ _ _ _ _ (_ :: _) _ _ _; first
      | refine W.pure rfl rfl rfl rfl ?_
      | refine W.fieldAddr0 rfl rfl rfl rfl rfl ?_
      | refine W.ld rfl rfl rfl rfl rfl ?_
      | refine W.lda rfl rfl rfl rfl rfl ?_)
  refine W.lookup rfl rfl rfl rfl (fun w hw => lookup_hit KSq inferInstance hw hx (es_keys r) (es_hit r.nodup h).1 (es_hit r.nodup h).2) ?_
  repeat' first
    | refine W.pure rfl rfl rfl rfl ?_
    | refine W.nil ?_
    | refine J.reg ?_
    | refine J.seq ?_
    | refine J.condT rfl ?_
  refine J.shutSt s gl gm bk r ?_
  exact J.retF [s] (res2 rfl rfl rfl) rfl

theorem _root_.Go.Qm.St.Rep.push {st : St} {q : Sq} {m : Int} (r : st.Rep) (hq : q.In) (hm : 0 ≤ m ∧ m ≤ 4611686018427387904) (hn : q ∉ st.l) (hl : st.l.length < st.room) : St.Rep { st with l := st.l ++ [q], many := st.many ++ [m] } where
  len := by simp [r.len]
  room := r.room
  le := by simp; omega
  nodup := List.nodup_append.2 ⟨r.nodup, by simp, fun a ha b hb => by
    rw [List.mem_singleton] at hb; subst hb; rintro rfl; exact hn ha⟩
  ins := by
    intro p hp
    rcases List.mem_append.1 hp with hp | hp
    · exact r.ins p hp
    · rw [List.mem_singleton] at hp; subst hp; exact hq
  many := by
    intro p hp
    rcases List.mem_append.1 hp with hp | hp
    · exact r.many p hp
    · rw [List.mem_singleton] at hp; subst hp; exact hm

theorem add_new {s : Nat} {st : St} {q : Sq} {m : Int} (hq : q.In) (hm : 0 ≤ m ∧ m ≤ 4611686018427387904) (hn : q ∉ st.l) (hl : st.l.length < st.room) :
    CallF P 31 [.pointer (some ⟨s, 0, none⟩), q.val, .int .i64 m] [(s, storeP s st)] (.tuple #[.int .i64 (st.l.length + 1), .nilIface]) [(s, storeP s { st with l := st.l ++ [q], many := st.many ++ [m] })] := by
  refine callR_of Tryd.func31 rfl Tryd.ntmps31 rfl fun σ F => ?_
  refine J.openSt s fun r vl gl vm gm bk => ?_
  refine J.rowLen gl rfl fun a c hv => ?_
  subst hv
  obtain ⟨lx, hx⟩ := keySq q hq
  have hroom := r.room
  repeat' first
    | refine W.pure rfl rfl rfl rfl ?_
    | refine W.boxA rfl rfl rfl (fun bq => ?_)
    | refine W.nil ?_
    | refine J.reg ?_
    | refine J.seq ?_
  refine J.regD [] mixed (by kernel_rfl) ?_
  repeat' first
    | (show W _ _ _ _ _ (_ :: _) _ _ _; first
      | refine W.pure rfl rfl rfl rfl ?_
      | refine W.fieldAddr0 rfl rfl rfl rfl rfl ?_
      | refine W.ld rfl rfl rfl rfl rfl ?_
      | refine W.lda rfl rfl rfl rfl rfl ?_)
  refine W.lookup rfl rfl rfl rfl (fun w hw => lookup_miss KSq inferInstance inferInstance hw hx (es_keys r) (es_miss hn)) ?_
  repeat' first
    | refine W.pure rfl rfl rfl rfl ?_
    | refine W.nil ?_
    | refine J.reg ?_
    | refine J.seq ?_
    | refine J.condF rfl ?_
    | refine J.skip ?_
  refine J.regD [] mixed (by kernel_rfl) ?_
  repeat' first
    | (show W _ _ _ _ _ (_ :: _) _ _ _; first
      | refine W.pure rfl rfl rfl rfl ?_
      | refine W.cmpF rfl rfl rfl rfl (by simp only [cmpN]; first | done | omega) ?_
      | refine W.fieldAddr0 rfl rfl rfl rfl rfl ?_
      | refine W.ld rfl rfl rfl rfl rfl ?_
      | refine W.lenSlice rfl rfl rfl ?_)
    | refine W.nil ?_
    | refine J.seq ?_
    | refine J.condF rfl ?_
    | refine J.skip ?_
  refine J.regD [gl, gm] mixed (by kernel_rfl) ?_
  repeat' first
    | (show W _ _ _ _ _ (_ :: _) _ _ _; first
      | refine W.pure rfl rfl rfl rfl ?_
      | refine W.fieldAddr0 rfl rfl rfl rfl rfl ?_
      | refine W.ld rfl rfl rfl rfl rfl ?_
      | refine W.lda rfl rfl rfl rfl rfl ?_)
  refine W.buildSlice rfl rfl rfl (fun b2 => ?_)
  skip
  refine W.append rfl rfl rfl rfl gl rfl (by rfl) (by rfl) (by simp [Value.oneCell']) (by rfl) (by simp only [maxLen]; omega) (by omega) (fun a2 c2 g2 => ?_)
  repeat' first
    | (show W _ _ _ _ _ (_ :: _) _ _ _; first
      | refine W.pure rfl rfl rfl rfl ?_
      | refine W.fieldAddr0 rfl rfl rfl rfl rfl ?_
      | refine W.ld rfl rfl rfl rfl rfl ?_)
  refine W.buildSlice rfl rfl rfl (fun b3 => ?_)
  skip
  refine W.append rfl rfl rfl rfl gm rfl (by rfl) (by rfl) (by simp [Value.oneCell']) (by rfl) (by simp only [maxLen]; omega) (by omega) (fun a3 c3 g3 => ?_)
  repeat' first
    | refine W.pure rfl rfl rfl rfl ?_
    | refine W.fieldAddr0 rfl rfl rfl rfl rfl ?_
  refine W.store1S rfl rfl rfl rfl (by kernel_rfl) rfl rfl rfl (by simp only [List.set_cons_succ, List.set_cons_zero]; rfl) ?_
  repeat' first
    | refine W.pure rfl rfl rfl rfl ?_
    | refine W.fieldAddr0 rfl rfl rfl rfl rfl ?_
  refine W.store1S rfl rfl rfl rfl (by kernel_rfl) rfl rfl rfl (by simp only [List.set_cons_succ, List.set_cons_zero]; rfl) ?_
  repeat' first
    | refine W.nil ?_
    | refine J.seq ?_
  refine J.regD [bk] mixed (by kernel_rfl) ?_
  repeat' first
    | (show W _ _ _ _ _ (_ :: _) _ _ _; first
      | refine W.pure rfl rfl rfl rfl ?_
      | refine W.fieldAddr0 rfl rfl rfl rfl rfl ?_
      | refine W.ld rfl rfl rfl rfl rfl ?_
      | refine W.lda rfl rfl rfl rfl rfl ?_
      | refine W.lenSlice rfl rfl rfl ?_)
  refine W.mapUpdate rfl rfl rfl rfl rfl (fun w hw => update_miss KSq inferInstance hw hx (es_keys r) (es_miss hn)) ?_
  repeat' first
    | (show W _ _ _ _ _ (_ :: _) _ _ _; first
      | refine W.pure rfl rfl rfl rfl ?_
      | refine W.ldV rfl rfl rfl rfl rfl rfl ?_
      | refine W.fieldAddr0 rfl rfl rfl rfl rfl ?_
      | refine W.lenSlice rfl rfl rfl ?_)
    | refine W.nil ?_
    | refine J.reg ?_
    | refine J.seq ?_
  refine J.shutNew (st := { st with l := st.l ++ [q], many := st.many ++ [m] }) s g2 g3 bk rfl (by simp) (by simp [Sq.vals]) (by simp) (by simp) es_push (by simp) (r.push hq hm hn hl) ?_
  exact J.retF [s] (res2 rfl rfl rfl) (by simp)
end Go.Proofs.YtphnadpmpcifoaaDoor
