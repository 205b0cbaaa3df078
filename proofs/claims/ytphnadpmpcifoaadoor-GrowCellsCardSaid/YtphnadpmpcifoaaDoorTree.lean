/-
  Squares as trees, a store as the list of its trees: plain, no program in sight.
-/
import Derived.Test.YtphnadpmpcifoaaDoorMod
namespace Go.Qm

inductive T where
  | leaf (t : Nat)
  | node (a b c d : T)
  deriving DecidableEq, Inhabited
namespace T
def lev : T → Nat
  | .leaf _ => 3
  | .node a _ _ _ => a.lev + 1
def ok : T → Prop
  | .leaf t => t < 18446744073709551616
  | .node a b c d => a.ok ∧ b.ok ∧ c.ok ∧ d.ok ∧ b.lev = a.lev ∧ c.lev = a.lev ∧ d.lev = a.lev
theorem lev_ge : ∀ t : T, 3 ≤ t.lev
  | .leaf _ => Nat.le_refl _
  | .node a _ _ _ => Nat.le_succ_of_le a.lev_ge
end T
/-- How many bits of a tile are set. -/
def popTo : Nat → Nat → Nat
  | 0, _ => 0
  | k + 1, t => popTo k t + (if t.testBit k then 1 else 0)
def pop (t : Nat) : Nat := popTo 64 t
theorem popTo_le : ∀ k t, popTo k t ≤ k
  | 0, _ => Nat.le_refl _
  | k + 1, t => by have := popTo_le k t; simp only [popTo]; split <;> omega
def capsum (m x : Int) : Int := m + min x (4611686018427387904 - m)
def T.many : T → Int
  | .leaf t => pop t
  | .node a b c d => capsum (capsum (capsum (capsum 0 a.many) b.many) c.many) d.many
theorem capsum_in {m x : Int} (hm : 0 ≤ m ∧ m ≤ 4611686018427387904) (hx : 0 ≤ x) : 0 ≤ capsum m x ∧ capsum m x ≤ 4611686018427387904 := by
  unfold capsum; omega
theorem T.many_in : ∀ t : T, 0 ≤ t.many ∧ t.many ≤ 4611686018427387904
  | .leaf t => by have := popTo_le 64 t; simp only [T.many, pop]; omega
  | .node a b c d => by
    simp only [T.many]
    exact capsum_in (capsum_in (capsum_in (capsum_in (by omega) a.many_in.1) b.many_in.1) c.many_in.1) d.many_in.1

/-- A tree's number. -/
def num (ts : List T) (t : T) : Int := (ts.idxOf t : Int) + 1
def Is (ts : List T) (id : Int) (t : T) : Prop := 1 ≤ id ∧ ts[(id - 1).toNat]? = some t
def sqOf (ts : List T) : T → Sq
  | .leaf t => ⟨3, t, 0, 0, 0, 0⟩
  | .node a b c d => ⟨(a.lev : Int) + 1, 0, num ts a, num ts b, num ts c, num ts d⟩
def kidsIn (ts : List T) : T → Prop
  | .leaf _ => True
  | .node a b c d => a ∈ ts ∧ b ∈ ts ∧ c ∈ ts ∧ d ∈ ts
structure Reg (ts : List T) : Prop where
  nodup : ts.Nodup
  ok : ∀ t ∈ ts, t.ok
  lev : ∀ t ∈ ts, t.lev ≤ 40
  kids : ∀ t ∈ ts, kidsIn ts t
def stOf (room : Nat) (ts : List T) : St := ⟨room, ts.map (sqOf ts), ts.map T.many⟩
def put (ts : List T) (t : T) : List T := if t ∈ ts then ts else ts ++ [t]

theorem idxOf_inj {ts : List T} {t u : T} (h : t ∈ ts) (e : ts.idxOf t = ts.idxOf u) : t = u := by
  have h1 := List.idxOf_lt_length_of_mem h
  have h2 : ts.idxOf u < ts.length := e ▸ h1
  have e1 := List.getElem_idxOf h1
  have e2 := List.getElem_idxOf h2
  rw [← e1, ← e2]
  congr 1
theorem Is.mem {ts : List T} {id : Int} {t : T} (h : Is ts id t) : t ∈ ts := List.mem_of_getElem? h.2
theorem Is.le {ts : List T} {id : Int} {t : T} (h : Is ts id t) : id ≤ ts.length := by
  have := (List.getElem?_eq_some_iff.1 h.2).1
  have := h.1
  omega
theorem Is.lt {ts : List T} {id : Int} {t : T} (h : Is ts id t) : (id - 1).toNat < ts.length := (List.getElem?_eq_some_iff.1 h.2).1
theorem is_num {ts : List T} {t : T} (h : t ∈ ts) : Is ts (num ts t) t := by
  have h1 := List.idxOf_lt_length_of_mem h
  refine ⟨by unfold num; omega, ?_⟩
  have : (num ts t - 1).toNat = ts.idxOf t := by unfold num; omega
  rw [this, List.getElem?_eq_getElem h1, List.getElem_idxOf h1]
theorem Is.num {ts : List T} (hn : ts.Nodup) {id : Int} {t : T} (h : Is ts id t) : id = num ts t := by
  have h1 := is_num h.mem
  obtain ⟨a, ha⟩ := List.getElem?_eq_some_iff.1 h.2
  obtain ⟨b, hb⟩ := List.getElem?_eq_some_iff.1 h1.2
  have := nodupInj hn a b (ha.trans hb.symm)
  have := h.1; have := h1.1
  omega
theorem Is.fun {ts : List T} {id : Int} {t u : T} (h : Is ts id t) (g : Is ts id u) : t = u := Option.some.inj (h.2.symm.trans g.2)
theorem Is.inj {ts : List T} (hn : ts.Nodup) {i j : Int} {t : T} (h : Is ts i t) (g : Is ts j t) : i = j := (h.num hn).trans (g.num hn).symm
theorem num_app {ts ys : List T} {t : T} (h : t ∈ ts) : Qm.num (ts ++ ys) t = Qm.num ts t := by
  unfold Qm.num; rw [List.idxOf_append, if_pos h]
theorem sqOf_app {ts ys : List T} {t : T} (h : kidsIn ts t) : sqOf (ts ++ ys) t = sqOf ts t := by
  cases t with
  | leaf t => rfl
  | node a b c d => simp only [sqOf, num_app h.1, num_app h.2.1, num_app h.2.2.1, num_app h.2.2.2]
theorem num_inj {ts : List T} {t u : T} (h : t ∈ ts) (e : Qm.num ts t = Qm.num ts u) : t = u := idxOf_inj h (by unfold Qm.num at e; omega)
theorem sqOf_inj {ts : List T} {t u : T} (ht : kidsIn ts t) (e : sqOf ts t = sqOf ts u) : t = u := by
  cases t with
  | leaf t =>
    cases u with
    | leaf u => simp [sqOf] at e; congr 1; omega
    | node a b c d => have := a.lev_ge; simp [sqOf] at e; omega
  | node a b c d =>
    cases u with
    | leaf u => have := a.lev_ge; simp [sqOf] at e; omega
    | node a' b' c' d' =>
      simp only [sqOf, Sq.mk.injEq] at e
      rw [num_inj ht.1 e.2.2.1, num_inj ht.2.1 e.2.2.2.1, num_inj ht.2.2.1 e.2.2.2.2.1, num_inj ht.2.2.2 e.2.2.2.2.2]
theorem num_in {ts : List T} {t : T} (h : t ∈ ts) : 1 ≤ Qm.num ts t ∧ Qm.num ts t ≤ ts.length := by
  have := List.idxOf_lt_length_of_mem h
  unfold Qm.num; omega
theorem sqOf_in {ts : List T} {t : T} (hk : kidsIn ts t) (ho : t.ok) (hl : t.lev ≤ 40) (hn : ts.length ≤ 65536) : (sqOf ts t).In := by
  cases t with
  | leaf t =>
    simp only [T.ok] at ho
    constructor <;> simp only [sqOf, i64, u64] <;> omega
  | node a b c d =>
    have h1 := num_in hk.1; have h2 := num_in hk.2.1; have h3 := num_in hk.2.2.1; have h4 := num_in hk.2.2.2
    simp only [T.lev] at hl
    constructor <;> simp only [sqOf, i64, u64] <;> omega
theorem Reg.rep {ts : List T} (r : Reg ts) {room : Nat} (h : ts.length ≤ room) (hr : room ≤ 65536) : (stOf room ts).Rep where
  len := by simp [stOf]
  room := hr
  le := by simpa [stOf] using h
  nodup := by
    show (ts.map (sqOf ts)).Nodup
    unfold List.Nodup
    rw [List.pairwise_map]
    have hp : ts.Pairwise (fun a b => a ∈ ts ∧ a ≠ b) := List.Pairwise.and (List.pairwise_iff_forall_sublist.2 fun {a b} h => h.subset (by simp)) r.nodup
    exact hp.imp fun {a b} ⟨h1, h2⟩ e => h2 (sqOf_inj (r.kids a h1) e)
  ins := by
    intro q hq
    obtain ⟨t, ht, rfl⟩ := List.mem_map.1 hq
    exact sqOf_in (r.kids t ht) (r.ok t ht) (r.lev t ht) (by omega)
  many := by
    intro q hq
    obtain ⟨t, ht, rfl⟩ := List.mem_map.1 hq
    exact t.many_in
theorem kidsIn_app {ts ys : List T} {t : T} (h : kidsIn ts t) : kidsIn (ts ++ ys) t := by
  cases t with
  | leaf t => trivial
  | node a b c d => exact ⟨List.mem_append_left _ h.1, List.mem_append_left _ h.2.1, List.mem_append_left _ h.2.2.1, List.mem_append_left _ h.2.2.2⟩
theorem Reg.push {ts : List T} (r : Reg ts) {t : T} (hn : t ∉ ts) (hk : kidsIn ts t) (ho : t.ok) (hl : t.lev ≤ 40) : Reg (ts ++ [t]) where
  nodup := List.nodup_append.2 ⟨r.nodup, by simp, fun a ha b hb => by
    rw [List.mem_singleton] at hb; subst hb; rintro rfl; exact hn ha⟩
  ok := by
    intro u hu
    rcases List.mem_append.1 hu with hu | hu
    · exact r.ok u hu
    · rw [List.mem_singleton] at hu; subst hu; exact ho
  lev := by
    intro u hu
    rcases List.mem_append.1 hu with hu | hu
    · exact r.lev u hu
    · rw [List.mem_singleton] at hu; subst hu; exact hl
  kids := by
    intro u hu
    rcases List.mem_append.1 hu with hu | hu
    · exact kidsIn_app (r.kids u hu)
    · rw [List.mem_singleton] at hu; subst hu; exact kidsIn_app hk
theorem stOf_push {ts : List T} (r : Reg ts) {room : Nat} {t : T} (hk : kidsIn ts t) : stOf room (ts ++ [t]) = ⟨room, (stOf room ts).l ++ [sqOf ts t], (stOf room ts).many ++ [t.many]⟩ := by
  simp only [stOf, List.map_append, List.map_cons, List.map_nil, sqOf_app hk, St.mk.injEq, true_and, and_true]
  congr 1
  exact List.map_congr_left fun u hu => sqOf_app (r.kids u hu)

/-- A store in whose room all of U fits, and that has none but of U. -/
structure Inv (room : Nat) (U ts : List T) : Prop where
  reg : Reg ts
  sub : ∀ t ∈ ts, t ∈ U
  fit : U.length ≤ room
  room : room ≤ 65536
theorem nodup_len : ∀ {ts U : List T}, ts.Nodup → (∀ t ∈ ts, t ∈ U) → ts.length ≤ U.length
  | [], _, _, _ => Nat.zero_le _
  | t :: ts, U, hn, h => by
    obtain ⟨h1, h2⟩ := List.nodup_cons.1 hn
    have hm := h t (List.mem_cons_self ..)
    have := nodup_len (U := U.erase t) h2 fun u hu => (List.mem_erase_of_ne (by rintro rfl; exact h1 hu)).2 (h u (List.mem_cons_of_mem _ hu))
    have := List.length_erase_of_mem hm
    have := List.length_pos_of_mem hm
    simp only [List.length_cons]
    omega
theorem Inv.le {room : Nat} {U ts : List T} (h : Inv room U ts) : ts.length ≤ room := Nat.le_trans (nodup_len h.reg.nodup h.sub) h.fit
theorem Inv.rep {room : Nat} {U ts : List T} (h : Inv room U ts) : (stOf room ts).Rep := h.reg.rep h.le h.room
theorem Inv.lt {room : Nat} {U ts : List T} (h : Inv room U ts) {t : T} (hu : t ∈ U) (hn : t ∉ ts) : ts.length < room := by
  have := nodup_len (ts := t :: ts) (U := U) (List.nodup_cons.2 ⟨hn, h.reg.nodup⟩) fun u hm => by
    rcases List.mem_cons.1 hm with rfl | hm
    · exact hu
    · exact h.sub u hm
  have := h.fit
  simp only [List.length_cons] at *
  omega
theorem Inv.put {room : Nat} {U ts : List T} (h : Inv room U ts) {t : T} (hu : t ∈ U) (hk : kidsIn ts t) (ho : t.ok) (hl : t.lev ≤ 40) : Inv room U (put ts t) := by
  unfold Qm.put
  split
  · exact h
  · rename_i hn
    exact ⟨h.reg.push hn hk ho hl, fun u hm => by
      rcases List.mem_append.1 hm with hm | hm
      · exact h.sub u hm
      · rw [List.mem_singleton] at hm; subst hm; exact hu, h.fit, h.room⟩
theorem put_mem {ts : List T} {t : T} : t ∈ put ts t := by
  unfold put; split <;> simp_all
theorem put_pre {ts : List T} {t : T} : ts <+: put ts t := by
  unfold put; split
  · exact List.prefix_refl _
  · exact List.prefix_append _ _
theorem Is.mono {ts ts' : List T} (h : ts <+: ts') {id : Int} {t : T} (hi : Is ts id t) : Is ts' id t := by
  obtain ⟨ys, rfl⟩ := h
  refine ⟨hi.1, ?_⟩
  rw [List.getElem?_append_left hi.lt]
  exact hi.2
theorem Inv.i64 {room : Nat} {U ts : List T} (h : Inv room U ts) {id : Int} {t : T} (hi : Is ts id t) : 1 ≤ id ∧ id ≤ 65536 := by
  have := hi.1; have := hi.le; have := h.le; have := h.room
  omega
end Go.Qm
