/-
  Slices that grow and maps: pieces for a slice's array, append, literals of slices, look-ups, stores into maps; leaving by a known value.
-/
import Derived.Test.YtphnadpmpcifoaaDoorOps
namespace Go.Sq

section
variable {P : Program} {fn : Func} {n : Nat} {σ : Str} {F : List Ent} {st : List It} {E : Env} {As : List Ent} {R : Exit → Act → World → Prop}
theorem J.retF {v v0 : Value} {N0 M : List Ent} (ks : List Nat) (hres : ∀ a w, Agree n a E.get → Sat σ w (As ++ F) → (results fn a.tmps).run P w = .ok v w) [p : PickL As ks N0 M] (hv : v = v0) :
    J P (bodyPost P fn (RP σ F (ΦF v0 N0))) n σ F (.code .ret :: st) E As := J.retOf hres p.perm ⟨hv, rfl⟩
theorem J.endF {v v0 : Value} {N0 M : List Ent} (ks : List Nat) (hres : ∀ a w, Agree n a E.get → Sat σ w (As ++ F) → (results fn a.tmps).run P w = .ok v w) [p : PickL As ks N0 M] (hv : v = v0) :
    J P (bodyPost P fn (RP σ F (ΦF v0 N0))) n σ F [] E As := J.endOf hres p.perm ⟨hv, rfl⟩
theorem J.retR {Φ : Value → List Ent → Prop} {v : Value} {N0 M : List Ent} (ks : List Nat) (hres : ∀ a w, Agree n a E.get → Sat σ w (As ++ F) → (results fn a.tmps).run P w = .ok v w) [p : PickL As ks N0 M] (hΦ : Φ v N0) :
    J P (bodyPost P fn (RP σ F Φ)) n σ F (.code .ret :: st) E As := J.retOf hres p.perm hΦ
theorem J.endR {Φ : Value → List Ent → Prop} {v : Value} {N0 M : List Ent} (ks : List Nat) (hres : ∀ a w, Agree n a E.get → Sat σ w (As ++ F) → (results fn a.tmps).run P w = .ok v w) [p : PickL As ks N0 M] (hΦ : Φ v N0) :
    J P (bodyPost P fn (RP σ F Φ)) n σ F [] E As := J.endOf hres p.perm hΦ
/-- A piece is laid open, or shut. -/
theorem J.imp {Bs : List Ent} (hAB : ∀ σ w G, Sat σ w (As ++ G) → Sat σ w (Bs ++ G)) (h : J P R n σ F st E Bs) : J P R n σ F st E As := fun a w ha hs => h a w ha (hAB σ w F hs)
theorem J.impEx {ι : Sort _} {Bs : ι → List Ent} (hAB : ∀ σ w G, Sat σ w (As ++ G) → ∃ i, Sat σ w (Bs i ++ G)) (h : ∀ i, J P R n σ F st E (Bs i)) : J P R n σ F st E As := fun a w ha hs => by
  obtain ⟨i, hi⟩ := hAB σ w F hs
  exact h i a w ha hi
/-- What holds because memory is so. -/
theorem J.know {p : Prop} (hp : ∀ σ w G, Sat σ w (As ++ G) → p) (h : p → J P R n σ F st E As) : J P R n σ F st E As := fun a w ha hs => h (hp σ w F hs) a w ha hs
end

/-- The array of a slice value v of m elements, sz cells each. -/
def rowP (g T sz : Nat) (v : Value) (m : Nat) (xs : List Value) : HP := fun h =>
  xs.length = m * sz ∧ ((v = .slice none 0 0 ∧ m = 0 ∧ ∀ b, h b = none) ∨
    ∃ cap cur, v = .slice (some ⟨g, 0, none⟩) m cap ∧ m ≤ cap ∧ cap ≤ maxLen ∧ cur.size = cap * sz ∧ cur.toList.take (m * sz) = xs ∧ pts g (.cells cur T (0, 0)) h)
theorem rowP_nil (g T sz : Nat) : rowP g T sz (.slice none 0 0) 0 [] (fun _ => none) := ⟨by simp, .inl ⟨rfl, rfl, fun _ => rfl⟩⟩
theorem Sat.addNil {σ : Str} {w : World} {As : List Ent} (g T sz : Nat) (hs : Sat σ w As) : Sat σ w ((g, rowP g T sz (.slice none 0 0) 0 []) :: As) := by
  obtain ⟨h0, h, hh, hw⟩ := hs
  exact ⟨h0, h, ⟨fun _ => none, h, fun _ => .inl rfl, by funext b; simp [Un], rowP_nil g T sz, hh⟩, hw⟩
theorem J.addNil {P : Program} {R : Exit → Act → World → Prop} {n : Nat} {σ : Str} {F : List Ent} {st : List It} {E : Env} {As : List Ent} (g T sz : Nat) (h : J P R n σ F st E ((g, rowP g T sz (.slice none 0 0) 0 []) :: As)) : J P R n σ F st E As :=
  fun a w ha hs => h a w ha (Sat.addNil g T sz hs)
/-- A row that is not empty is a block. -/
theorem Sat.rowOpen {σ : Str} {w : World} {As : List Ent} {k g T sz m : Nat} {v : Value} {xs : List Value} (hm : 0 < m) (hs : Sat σ w ((k, rowP g T sz v m xs) :: As)) :
    ∃ cap cur, (v = .slice (some ⟨g, 0, none⟩) m cap ∧ m ≤ cap ∧ cap ≤ maxLen ∧ cur.size = cap * sz ∧ cur.toList.take (m * sz) = xs ∧ xs.length = m * sz) ∧ Sat σ w ((k, pts g (.cells cur T (0, 0))) :: As) := by
  obtain ⟨h0, _, ⟨h1, h2, d, rfl, ⟨hl, a⟩, x⟩, hw⟩ := hs
  rcases a with ⟨_, h, _⟩ | ⟨cap, cur, a1, a2, a3, a4, a5, a6⟩
  · omega
  · exact ⟨cap, cur, ⟨a1, a2, a3, a4, a5, hl⟩, h0, _, ⟨h1, h2, d, rfl, a6, x⟩, hw⟩
theorem Sat.rowShut {σ : Str} {w : World} {As : List Ent} {k g T sz m cap : Nat} {cur : Array Value} {xs : List Value} (h1 : m ≤ cap) (h2 : cap ≤ maxLen) (h3 : cur.size = cap * sz) (h4 : cur.toList.take (m * sz) = xs) (hs : Sat σ w ((k, pts g (.cells cur T (0, 0))) :: As)) :
    Sat σ w ((k, rowP g T sz (.slice (some ⟨g, 0, none⟩) m cap) m xs) :: As) :=
  hs.mono fun h hh => ⟨by rw [← h4, List.length_take, Array.length_toList, h3]; exact Nat.min_eq_left (Nat.mul_le_mul_right _ h1), .inr ⟨cap, cur, rfl, h1, h2, h3, h4, hh⟩⟩

theorem Sat.rowCases {σ : Str} {w : World} {As : List Ent} {k g T sz m : Nat} {v : Value} {xs : List Value} (hs : Sat σ w ((k, rowP g T sz v m xs) :: As)) :
    xs.length = m * sz ∧ ((v = .slice none 0 0 ∧ m = 0 ∧ Sat σ w As) ∨
    ∃ cap cur, v = .slice (some ⟨g, 0, none⟩) m cap ∧ m ≤ cap ∧ cap ≤ maxLen ∧ cur.size = cap * sz ∧ cur.toList.take (m * sz) = xs ∧ Sat σ w ((k, pts g (.cells cur T (0, 0))) :: As)) := by
  have ht := hs.tail
  obtain ⟨h0, _, ⟨h1, h2, d, rfl, ⟨hl, a⟩, x⟩, hw⟩ := hs
  refine ⟨hl, ?_⟩
  rcases a with ⟨a1, a2, _⟩ | ⟨cap, cur, a1, a2, a3, a4, a5, a6⟩
  · exact .inl ⟨a1, a2, ht⟩
  · exact .inr ⟨cap, cur, a1, a2, a3, a4, a5, h0, _, ⟨h1, h2, d, rfl, a6, x⟩, hw⟩

/-- append(s, x...) of a slice literal. -/
theorem run_append_row {P : Program} {t e sz by_ : Nat} {z : Value} (ht : Und P t (.slice e)) (hi : Inf P e sz by_ z) (hz : z.cells.size = sz) {σ : Str} {w : World} {F : List Ent} {k g m : Nat} {v : Value} {xs : List Value} {j b q c : Nat} {news : List Value} {T0 : TypeId} {ty : TypeId}
    (hs : Sat σ w ((k, rowP g e sz v m xs) :: (j, pts b (.cells news.toArray T0 (0, 0))) :: F)) (hl : news.length = q * sz) (h1 : ∀ u ∈ news, u.oneCell' = true) (hq : 0 < q)
    (h63 : m + q ≤ maxLen) (hby : (m + q) * by_ ≤ 140737488355328) :
    ∃ a cp w' g', (Builtin.append_ #[t, t] ty #[v, .slice (some ⟨b, 0, none⟩) q c]).run P w = .ok (.slice a (m + q) cp) w' ∧ Sat σ w' ((g', rowP g' e sz (.slice a (m + q) cp) (m + q) (xs ++ news)) :: (j, pts b (.cells news.toArray T0 (0, 0))) :: F) := by
  obtain ⟨i, hi1, hi2, hi3, hi4⟩ := hi.get
  subst hi2; subst hi3
  have hb : w.heap[b]? = some (.cells news.toArray T0 (0, 0)) := Sat.block (k := j) hs.tail
  have hnews : ∀ p u, news[p]? = some u → w.cell? ((⟨b, 0, none⟩ : Addr).add p) = some u := fun p u hu => by
    have hadd : (⟨b, 0, none⟩ : Addr).add p = ⟨b, p, none⟩ := by unfold Addr.add; split <;> simp_all
    rw [hadd, cell_of_block hb]; simpa using hu
  have hsmall : m + q ≤ 9223372036854775807 := by simp only [maxLen] at h63; omega
  obtain ⟨hlen, hcase⟩ := hs.rowCases
  have hlenA : (xs ++ news).length = (m + q) * i.size := by rw [List.length_append, hlen, hl, Nat.add_mul]
  have fresh : ∀ (old : Nat), old < m + q →
      Sat σ (w.drew.alloc (.cells (xs.toArray ++ news.toArray ++ Builtin.zeroCells z.cells (grownCap w (m + q) old e - (m + q))) e))
        ((w.heap.size, rowP w.heap.size e i.size (.slice (some ⟨w.heap.size, 0, none⟩) (m + q) (grownCap w (m + q) old e)) (m + q) (xs ++ news)) :: (j, pts b (.cells news.toArray T0 (0, 0))) :: F) := by
    intro old _
    have hge := grownCap_ge w (m + q) old e
    have hs2 : Sat σ (w.drew.alloc (.cells (xs.toArray ++ news.toArray ++ Builtin.zeroCells z.cells (grownCap w (m + q) old e - (m + q))) e)) ((w.drew.heap.size, pts w.drew.heap.size _) :: (j, pts b (.cells news.toArray T0 (0, 0))) :: F) := hs.tail.drew.alloc _
    refine hs2.rowShut hge (grownCap_le_maxLen w (m + q) old e h63) ?_ ?_
    · simp only [Array.size_append, List.size_toArray, size_zeroCells, hz, hlen, hl, ← Nat.add_mul]
      congr 1; omega
    · simp only [Array.toList_append, List.append_assoc]
      rw [← List.append_assoc, ← hlenA]
      exact List.take_left
  rcases hcase with ⟨rfl, rfl, _⟩ | ⟨cap, cur, rfl, hnc, hcm, hcs, htake, hsb⟩
  · have hx : xs = [] := List.eq_nil_of_length_eq_zero (by simpa using hlen)
    subst hx
    have hr := run_append_nil (P := P) w t ty e i z ht.out hi1 hi4 ⟨b, 0, none⟩ q c news hl hnews hq (by omega) (by simp only [Nat.zero_add] at hby; omega)
    refine ⟨_, _, _, w.heap.size, by rw [Nat.zero_add]; exact hr, ?_⟩
    have := fresh 0 (by omega)
    simpa using this
  · have hg := hsb.block
    by_cases hroom : m + q ≤ cap
    · have hfit : m * i.size + news.length ≤ cur.size := by rw [hl, hcs, ← Nat.add_mul]; exact Nat.mul_le_mul_right _ hroom
      have hr := run_append_room (P := P) w t ty e i ht.out hi1 g m cap cur hg ⟨b, 0, none⟩ q c news hl hnews h1 hroom hfit
      refine ⟨_, _, _, g, hr, ?_⟩
      have hs3 := Sat.setObj (o' := .cells (cur.toList.take (m * i.size) ++ news ++ cur.toList.drop (m * i.size + news.length)).toArray e (0, 0)) hsb (w' := w.setRow g (cur.toList.take (m * i.size) ++ news ++ cur.toList.drop (m * i.size + news.length)).toArray) rfl (setRow_heap w g cur _ e _ hg) (fun c _ hc => setRow_other w g c _ hc)
      have hs4 := hs3.rowShut (m := m + q) (sz := i.size) (cap := cap) (xs := xs ++ news) hroom hcm (by
        simp only [List.size_toArray, List.length_append, List.length_take, List.length_drop, Array.length_toList]
        omega) (by
        simp only [htake, ← hlenA]
        exact List.take_left)
      exact hs4
    · have holds : ∀ p u, xs[p]? = some u → w.cell? ((⟨g, 0, none⟩ : Addr).add p) = some u := fun p u hu => by
        have hadd : (⟨g, 0, none⟩ : Addr).add p = ⟨g, p, none⟩ := by unfold Addr.add; split <;> simp_all
        rw [hadd, cell_of_block hg]
        rw [← htake, List.getElem?_take] at hu
        split at hu
        · simpa using hu
        · cases hu
      have hr := run_append_grow (P := P) w t ty e i z ht.out hi1 hi4 ⟨g, 0, none⟩ m cap xs hlen holds ⟨b, 0, none⟩ q c news hl hnews (by omega) (by omega) (growslice_fits (by omega) hby)
      exact ⟨_, _, _, w.heap.size, hr, fresh cap (by omega)⟩

section
variable {P : Program} {ops : Array Oper} {n : Nat} {bars : Nat → Bool} {K : EnvF → List Ent → List Ent → Prop} {l : List (Nat × Oper)} {E : Env} {St V : List Ent} {i : Nat} {d : Tmp} {ty : TypeId} {pos : String} {aft : Array Edge} {g : Option (Nat × Bool)}

theorem W.append {t e sz by_ : Nat} {z : Value} {x y : Operand} {k g' m : Nat} {v : Value} {xs : List Value} {b q c : Nat} {news : List Value} {T0 : TypeId} {M M' : List Ent}
    (hw : wants ops ⟨some d, .call ⟨.builtin .append, #[x, y], #[t, t]⟩, ty, pos, aft, g⟩ E.get = some true) (hf : fits n ⟨some d, .call ⟨.builtin .append, #[x, y], #[t, t]⟩, ty, pos, aft, g⟩ = true) (hx : evO E x = some v) (hy : evO E y = some (.slice (some ⟨b, 0, none⟩) q c))
    [hp : PickK V b (pts b (.cells news.toArray T0 (0, 0))) M] (k0 : Nat) (hk : k0 = k) [hq : PickK M k (rowP g' e sz v m xs) M'] [ht : Und P t (.slice e)] [hi : Inf P e sz by_ z] (hz : z.cells.size = sz) (hl : news.length = q * sz) (h1 : ∀ u ∈ news, u.oneCell' = true) (hq0 : Nat.blt 0 q = true)
    (h63 : m + q ≤ maxLen) (hby : (m + q) * by_ ≤ 140737488355328)
    (h : ∀ a cp g2, W P ops n bars K l ((d, .slice a (m + q) cp) :: E) St ((g2, rowP g2 e sz (.slice a (m + q) cp) (m + q) (xs ++ news)) :: M')) : W P ops n bars K ((i, ⟨some d, .call ⟨.builtin .append, #[x, y], #[t, t]⟩, ty, pos, aft, g⟩) :: l) E St V := by
  refine W.loud (N := [(k, rowP g' e sz v m xs), (b, pts b (.cells news.toArray T0 (0, 0)))]) (M := M') (R := fun v' N' => ∃ a cp g2, v' = .slice a (m + q) cp ∧ N' = [(g2, rowP g2 e sz (.slice a (m + q) cp) (m + q) (xs ++ news))]) hw hf (k2 hx hy rfl) rfl ?_ ?_ ?_
  · exact hp.perm.trans ((hq.perm.cons _).trans (List.Perm.swap _ _ _))
  · intro σ F w hs
    obtain ⟨a, cp, w', g2, hr, hs'⟩ := run_append_row ht hi hz (k := k) (j := b) (T0 := T0) (c := c) (ty := ty) hs hl h1 (Nat.le_of_ble_eq_true hq0) h63 hby
    have hrun : (execOp (evf E.get) ⟨some d, .call ⟨.builtin .append, #[x, y], #[t, t]⟩, ty, pos, aft, g⟩).run P w = .ok (.value (.slice a (m + q) cp)) w' := by
      simp [execOp, resolve, invoke, builtin, evO_evf hx, evO_evf hy, hr]
    rw [hrun]
    refine ⟨_, ⟨a, cp, g2, rfl, rfl⟩, ?_⟩
    exact (hs'.perm (List.Perm.swap _ _ _)).tail
  · rintro v' N' ⟨a, cp, g2, rfl, rfl⟩
    rw [put_get]
    exact h a cp g2

/-- []T{x, ..}. -/
class BldS (P : Program) (T : TypeId) (len : Nat) (parts : List (Nat × Value)) (e : outParam TypeId) (cs : outParam (List Value)) : Prop where
  out : ∀ w, (Instr.buildSlice T len parts.toArray).run P w = .ok (.slice (some ⟨w.heap.size, 0, none⟩) len len) (w.alloc (.cells cs.toArray e))
theorem W.buildSlice {T len : Nat} {ps : Array (Nat × Operand)} {vs : List (Nat × Value)} {e : TypeId} {cs : List Value} (hw : wants ops ⟨some d, .buildSlice T len ps, ty, pos, aft, g⟩ E.get = some true) (hf : fits n ⟨some d, .buildSlice T len ps, ty, pos, aft, g⟩ = true) (hv : evP E ps.toList = some vs) [hb : BldS P T len vs e cs]
    (h : ∀ b, W P ops n bars K l ((d, .slice (some ⟨b, 0, none⟩) len len) :: E) St ((b, pts b (.cells cs.toArray e (0, 0))) :: V)) : W P ops n bars K ((i, ⟨some d, .buildSlice T len ps, ty, pos, aft, g⟩) :: l) E St V := by
  obtain ⟨h1, h2⟩ := evP_spec hv
  refine W.alloc' (mk := fun b => .slice (some ⟨b, 0, none⟩) len len) hw hf (fun t ht => h2 t (by simpa [Op.operands] using ht)) rfl (fun w => ?_) h
  have e1 : (ps.map fun (x : Nat × Operand) => (x.1, evf E.get x.2)) = vs.toArray := by
    apply Array.ext'
    rw [Array.toList_map, h1]
  have := hb.out w
  simp only [execOp]
  rw [e1]
  simp [this]

/-! ### maps -/
theorem W.lookup {T : TypeId} {x y : Operand} {ok : Bool} {b : Nat} {es : Array MapEntry} {clock : Nat} {kv v : Value} {M : List Ent} (hw : wants ops ⟨some d, .lookup T x y ok, ty, pos, aft, g⟩ E.get = some true) (hf : fits n ⟨some d, .lookup T x y ok, ty, pos, aft, g⟩ = true) (hx : evO E x = some (.map (some b))) (hy : evO E y = some kv)
    [hp : PickK St b (pts b (.map es clock)) M] (hr : ∀ w, w.heap[b]? = some (.map es clock) → (Instr.lookup T (.map (some b)) kv ok).run P w = .ok v w) (h : W P ops n bars K l ((d, v) :: E) St V) : W P ops n bars K ((i, ⟨some d, .lookup T x y ok, ty, pos, aft, g⟩) :: l) E St V :=
  W.quietS hw hf (k2 hx hy rfl) rfl (fun σ F w hs => by simp [execOp, evO_evf hx, evO_evf hy, hr w (sat_block hs hp)]) h
theorem W.mapUpdate {T : TypeId} {x y z : Operand} {b : Nat} {es es' : Array MapEntry} {clock clock' : Nat} {kv v : Value} {M : List Ent} (hw : wants ops ⟨none, .mapUpdate T x y z, ty, pos, aft, g⟩ E.get = some true) (hf : fits n ⟨none, .mapUpdate T x y z, ty, pos, aft, g⟩ = true) (hx : evO E x = some (.map (some b))) (hy : evO E y = some kv) (hz : evO E z = some v)
    [hp : PickK V b (pts b (.map es clock)) M] (hr : ∀ w, w.heap[b]? = some (.map es clock) → (Instr.mapUpdate T (.map (some b)) kv v).run P w = .ok () { w with heap := w.heap.setIfInBounds b (.map es' clock') })
    (h : W P ops n bars K l E St ((b, pts b (.map es' clock')) :: M)) : W P ops n bars K ((i, ⟨none, .mapUpdate T x y z, ty, pos, aft, g⟩) :: l) E St V := by
  refine W.loud (N := [(b, pts b (.map es clock))]) (M := M) (R := fun _ N' => N' = [(b, pts b (.map es' clock'))]) hw hf (k3 hx hy hz rfl) rfl hp.perm ?_ (fun _ N' e => by subst e; exact h)
  intro σ F w hs
  have hb : w.heap[b]? = some (.map es clock) := Sat.block (k := b) (As := F) hs
  have hrun : (execOp (evf E.get) ⟨none, .mapUpdate T x y z, ty, pos, aft, g⟩).run P w = .ok .skip { w with heap := w.heap.setIfInBounds b (.map es' clock') } := by
    simp [execOp, evO_evf hx, evO_evf hy, evO_evf hz, hr w hb]
  rw [hrun]
  refine ⟨_, rfl, ?_⟩
  have hlt := (Array.getElem?_eq_some_iff.1 hb).1
  exact Sat.setObj (o := .map es clock) hs rfl (by simp [hlt]) (fun c _ hc => by simp [Array.getElem?_setIfInBounds_ne (Ne.symm hc)])
end
end Go.Sq
