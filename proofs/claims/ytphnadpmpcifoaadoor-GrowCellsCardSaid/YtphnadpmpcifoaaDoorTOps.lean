/-
  Cells of trees: read, set; none at all; what the calls add to a store. Plain.
-/
import Derived.Test.YtphnadpmpcifoaaDoorBits
namespace Go.Qm

theorem setBit_lt {t n : Nat} (v : Bool) (ht : t < 2 ^ 64) (hn : n < 64) : setBit t n v < 2 ^ 64 := by
  have hp : 2 ^ n < 2 ^ 64 := Nat.pow_lt_pow_right (by omega) hn
  unfold setBit
  split
  · exact Nat.or_lt_two_pow ht hp
  · exact Nat.xor_lt_two_pow ht (Nat.and_lt_two_pow t hp)
namespace T
/-- Does a cell live? -/
def get : T → Nat → Nat → Bool
  | .leaf t, x, y => t.testBit (8 * y + x)
  | .node a b c d, x, y =>
    let w := 2 ^ a.lev
    if y < w then (if x < w then a.get x y else b.get (x - w) y) else (if x < w then c.get x (y - w) else d.get (x - w) (y - w))
def set : T → Nat → Nat → Bool → T
  | .leaf t, x, y, v => .leaf (setBit t (8 * y + x) v)
  | .node a b c d, x, y, v =>
    let w := 2 ^ a.lev
    if y < w then (if x < w then .node (a.set x y v) b c d else .node a (b.set (x - w) y v) c d) else (if x < w then .node a b (c.set x (y - w) v) d else .node a b c (d.set (x - w) (y - w) v))
/-- What setting makes. -/
def setNew : T → Nat → Nat → Bool → List T
  | .leaf t, x, y, v => [T.set (.leaf t) x y v]
  | .node a b c d, x, y, v =>
    let w := 2 ^ a.lev
    (if y < w then (if x < w then a.setNew x y v else b.setNew (x - w) y v) else (if x < w then c.setNew x (y - w) v else d.setNew (x - w) (y - w) v)) ++ [T.set (.node a b c d) x y v]
def empty : Nat → T
  | 0 => .leaf 0
  | k + 1 => .node (empty k) (empty k) (empty k) (empty k)
def emptyNew : Nat → List T
  | 0 => [.leaf 0]
  | k + 1 => emptyNew k ++ [empty (k + 1)]
theorem emptyNew_le : ∀ {k j : Nat}, j ≤ k → ∀ t ∈ emptyNew j, t ∈ emptyNew k
  | 0, j, h, t, ht => by obtain rfl : j = 0 := by omega
                         exact ht
  | k + 1, j, h, t, ht => by
    rcases Nat.lt_or_ge j (k + 1) with hj | hj
    · exact List.mem_append_left _ (emptyNew_le (by omega) t ht)
    · obtain rfl : j = k + 1 := by omega
      exact ht
theorem empty_lev : ∀ k, (empty k).lev = k + 3
  | 0 => rfl
  | k + 1 => by simp only [empty, lev, empty_lev k]
theorem empty_ok : ∀ k, (empty k).ok
  | 0 => by show 0 < 18446744073709551616; omega
  | k + 1 => ⟨empty_ok k, empty_ok k, empty_ok k, empty_ok k, rfl, rfl, rfl⟩
theorem set_lev (v : Bool) : ∀ (t : T) (x y : Nat), t.ok → (t.set x y v).lev = t.lev
  | .leaf _, _, _, _ => rfl
  | .node a b c d, x, y, h => by
    simp only [set]
    split <;> split <;> simp only [lev, set_lev v _ _ _ h.1]
theorem set_ok (v : Bool) : ∀ (t : T) (x y : Nat), t.ok → x < 2 ^ t.lev → y < 2 ^ t.lev → (t.set x y v).ok
  | .leaf t, x, y, h, hx, hy => by
    have hx : x < 8 := hx
    have hy : y < 8 := hy
    exact setBit_lt v h (by omega)
  | .node a b c d, x, y, ⟨h1, h2, h3, h4, e1, e2, e3⟩, hx, hy => by
    simp only [lev, Nat.pow_succ] at hx hy
    simp only [set]
    split <;> split
    · exact ⟨set_ok v a _ _ h1 ‹_› ‹_›, h2, h3, h4, by rw [set_lev v a _ _ h1]; exact e1, by rw [set_lev v a _ _ h1]; exact e2, by rw [set_lev v a _ _ h1]; exact e3⟩
    · exact ⟨h1, set_ok v b _ _ h2 (by rw [e1]; omega) (by rw [e1]; omega), h3, h4, by rw [set_lev v b _ _ h2]; exact e1, e2, e3⟩
    · exact ⟨h1, h2, set_ok v c _ _ h3 (by rw [e2]; omega) (by rw [e2]; omega), h4, e1, by rw [set_lev v c _ _ h3]; exact e2, e3⟩
    · exact ⟨h1, h2, h3, set_ok v d _ _ h4 (by rw [e3]; omega) (by rw [e3]; omega), e1, e2, by rw [set_lev v d _ _ h4]; exact e3⟩
end T
def puts (ts : List T) : List T → List T
  | [] => ts
  | t :: l => puts (put ts t) l
theorem puts_app : ∀ (l m ts : List T), puts ts (l ++ m) = puts (puts ts l) m
  | [], _, _ => rfl
  | _ :: l, m, ts => puts_app l m _
theorem puts_one (ts : List T) (t : T) : puts ts [t] = put ts t := rfl
theorem puts_pre : ∀ (l ts : List T), ts <+: puts ts l
  | [], ts => List.prefix_refl _
  | t :: l, ts => put_pre.trans (puts_pre l _)
/-- Made one after the other, each of what is there. -/
def Goods (ts : List T) : List T → Prop
  | [] => True
  | t :: l => kidsIn ts t ∧ t.ok ∧ t.lev ≤ 40 ∧ Goods (put ts t) l
theorem Inv.puts {room : Nat} {U : List T} : ∀ {l ts : List T}, Inv room U ts → (∀ t ∈ l, t ∈ U) → Goods ts l → Inv room U (puts ts l)
  | [], _, h, _, _ => h
  | t :: l, ts, h, hu, hg => Inv.puts (l := l) (ts := Qm.put ts t) (h.put (hu t (List.mem_cons_self ..)) hg.1 hg.2.1 hg.2.2.1) (fun u hm => hu u (List.mem_cons_of_mem _ hm)) hg.2.2.2
theorem Goods.app : ∀ {l m ts : List T}, Goods ts l → Goods (puts ts l) m → Goods ts (l ++ m)
  | [], _, _, _, h => h
  | _ :: _, _, _, ⟨a, b, c, g⟩, h => ⟨a, b, c, g.app h⟩
theorem Reg.put {ts : List T} (h : Reg ts) {t : T} (hk : kidsIn ts t) (ho : t.ok) (hl : t.lev ≤ 40) : Reg (Qm.put ts t) := by
  unfold Qm.put
  split
  · exact h
  · rename_i hn; exact h.push hn hk ho hl
theorem Reg.puts : ∀ {l ts : List T}, Reg ts → Goods ts l → Reg (Qm.puts ts l)
  | [], _, h, _ => h
  | t :: l, ts, h, hg => Reg.puts (l := l) (ts := Qm.put ts t) (h.put hg.1 hg.2.1 hg.2.2.1) hg.2.2.2
theorem mem_pre {ts ts' : List T} (h : ts <+: ts') {t : T} (ht : t ∈ ts) : t ∈ ts' := h.subset ht
theorem kidsIn_pre {ts ts' : List T} (h : ts <+: ts') {t : T} (ht : kidsIn ts t) : kidsIn ts' t := by
  obtain ⟨ys, rfl⟩ := h; exact kidsIn_app ht
theorem num_pre {ts ts' : List T} (h : ts <+: ts') {t : T} (ht : t ∈ ts) : num ts' t = num ts t := by
  obtain ⟨ys, rfl⟩ := h; exact num_app ht
namespace T
theorem emptyNew_goods {ts : List T} (h : Reg ts) : ∀ k, k + 3 ≤ 40 → Goods ts (emptyNew k) ∧ empty k ∈ puts ts (emptyNew k)
  | 0, _ => ⟨⟨trivial, empty_ok 0, by simp [lev], trivial⟩, put_mem⟩
  | k + 1, hk => by
    obtain ⟨h1, h2⟩ := emptyNew_goods h k (by omega)
    refine ⟨h1.app ⟨⟨h2, h2, h2, h2⟩, empty_ok (k + 1), by rw [empty_lev]; omega, trivial⟩, ?_⟩
    simp only [emptyNew, puts_app]
    exact put_mem
theorem setNew_goods {ts : List T} (h : Reg ts) (v : Bool) : ∀ (t : T) (x y : Nat), t ∈ ts → x < 2 ^ t.lev → y < 2 ^ t.lev → Goods ts (t.setNew x y v) ∧ t.set x y v ∈ puts ts (t.setNew x y v)
  | .leaf t, x, y, hm, hx, hy => ⟨⟨trivial, set_ok v (.leaf t) x y (h.ok _ hm) hx hy, by simp [set, lev], trivial⟩, put_mem⟩
  | .node a b c d, x, y, hm, hx, hy => by
    obtain ⟨ka, kb, kc, kd⟩ := h.kids _ hm
    have ho := h.ok _ hm
    have hl := h.lev _ hm
    obtain ⟨-, -, -, -, e1, e2, e3⟩ := id ho
    have hx' := hx; have hy' := hy
    simp only [lev, Nat.pow_succ] at hx hy
    have hso := set_ok v (.node a b c d) x y ho hx' hy'
    have hsl := set_lev v (.node a b c d) x y ho
    have fin : ∀ {l : List T} {u : T}, Goods ts l ∧ u ∈ puts ts l → kidsIn (puts ts l) (T.set (.node a b c d) x y v) → Goods ts (l ++ [T.set (.node a b c d) x y v]) ∧ T.set (.node a b c d) x y v ∈ puts ts (l ++ [T.set (.node a b c d) x y v]) := fun g hk => by
      refine ⟨g.1.app ⟨hk, hso, by rw [hsl]; exact hl, trivial⟩, ?_⟩
      rw [puts_app]; exact put_mem
    have p : ∀ {l : List T} {u : T}, u ∈ ts → u ∈ puts ts l := fun hu => mem_pre (puts_pre _ _) hu
    simp only [setNew]
    split <;> split
    · have g := setNew_goods h v a x y ka ‹_› ‹_›
      refine fin g ?_
      simp only [set, *, if_true]
      exact ⟨g.2, p kb, p kc, p kd⟩
    · have g := setNew_goods h v b (x - 2 ^ a.lev) y kb (by rw [e1]; omega) (by rw [e1]; omega)
      refine fin g ?_
      simp only [set, *, if_true, if_false]
      exact ⟨p ka, g.2, p kc, p kd⟩
    · have g := setNew_goods h v c x (y - 2 ^ a.lev) kc (by rw [e2]; omega) (by rw [e2]; omega)
      refine fin g ?_
      simp only [set, *, if_true, if_false]
      exact ⟨p ka, p kb, g.2, p kd⟩
    · have g := setNew_goods h v d (x - 2 ^ a.lev) (y - 2 ^ a.lev) kd (by rw [e3]; omega) (by rw [e3]; omega)
      refine fin g ?_
      simp only [set, *, if_false]
      exact ⟨p ka, p kb, p kc, g.2⟩
end T
end Go.Qm
