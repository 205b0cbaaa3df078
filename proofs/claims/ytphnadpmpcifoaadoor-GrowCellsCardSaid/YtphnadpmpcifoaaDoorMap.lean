/-
  What maps do: found, not found, written.
-/
import Derived.Test.YtphnadpmpcifoaaDoorMem
import Derived.Maps.Keyed
import Derived.Maps.Own
import Derived.DeepKeys4
namespace Go.Sq

section
variable {P : Program} {T k e : TypeId} {w : World} {b : Nat} {es : Array MapEntry} {clock : Nat} {x v : Value} {lx : Lit}
theorem run_getObj (h : w.heap[b]? = some (.map es clock)) : (getObj b).run P w = .ok (.map es clock) w := by simp [getObj, Sem.run, h]
theorem run_setObj {o : Obj} (h : w.heap[b]? = some (.map es clock)) : (setObj b o).run P w = .ok () { w with heap := w.heap.setIfInBounds b o } := by simp only [setObj, Sem.run, h]
theorem lookup_hit (K : Maps.Keyed P k) (hu : Und P T (.map k e)) (hb : w.heap[b]? = some (.map es clock)) (hx : keyOf P k x = some lx) (hk : ∀ e ∈ es.toList, ∃ l, keyOf P k e.key = some l)
    (hv : ∀ e ∈ es.toList, e.key = x → e.val = v) (hin : ∃ e ∈ es.toList, e.key = x) : (Instr.lookup T (.map (some b)) x true).run P w = .ok (.tuple #[v, .bool true]) w := by
  rcases K.find w hx es.toList hk with ⟨_, h⟩ | ⟨j, en, h, hj, hkey⟩
  · obtain ⟨en, h1, h2⟩ := hin
    exact absurd h2 (h en h1)
  · have := hv en (List.mem_of_getElem? hj) hkey
    simp [Instr.lookup, run_underlying hu.out, run_getObj hb, K.check w _ hx, h, this]
theorem lookup_miss (K : Maps.Keyed P k) (hu : Und P T (.map k e)) {sz by_ : Nat} {z : Value} (hi : Inf P e sz by_ z) (hb : w.heap[b]? = some (.map es clock)) (hx : keyOf P k x = some lx) (hk : ∀ e ∈ es.toList, ∃ l, keyOf P k e.key = some l)
    (hv : ∀ e ∈ es.toList, e.key ≠ x) : (Instr.lookup T (.map (some b)) x true).run P w = .ok (.tuple #[z, .bool false]) w := by
  rcases K.find w hx es.toList hk with ⟨h, _⟩ | ⟨j, en, h, hj, hkey⟩
  · simp [Instr.lookup, run_underlying hu.out, run_getObj hb, K.check w _ hx, h, run_zero hi]
  · exact absurd hkey (hv en (List.mem_of_getElem? hj))
theorem update_miss (K : Maps.Keyed P k) (hu : Und P T (.map k e)) (hb : w.heap[b]? = some (.map es clock)) (hx : keyOf P k x = some lx) (hk : ∀ e ∈ es.toList, ∃ l, keyOf P k e.key = some l)
    (hv : ∀ e ∈ es.toList, e.key ≠ x) : (Instr.mapUpdate T (.map (some b)) x v).run P w = .ok () { w with heap := w.heap.setIfInBounds b (.map (es.push ⟨x, v, clock⟩) (clock + 1)) } := by
  have hlt := (Array.getElem?_eq_some_iff.1 hb).1
  rcases K.find w hx es.toList hk with ⟨h, _⟩ | ⟨j, en, h, hj, hkey⟩
  · simp [Instr.mapUpdate, run_underlying hu.out, run_getObj hb, K.check w _ hx, h, run_setObj hb]
  · exact absurd hkey (hv en (List.mem_of_getElem? hj))
/-- Found or not: the entries afterwards. -/
theorem update_any (K : Maps.Keyed P k) (hu : Und P T (.map k e)) (hb : w.heap[b]? = some (.map es clock)) (hx : keyOf P k x = some lx) (hk : ∀ e ∈ es.toList, ∃ l, keyOf P k e.key = some l) :
    ∃ es' clock', ((∀ en ∈ es'.toList, en ∈ es.toList ∨ (en.key = x ∧ en.val = v)) ∧ 0 < es'.size ∧ es.size ≤ es'.size) ∧
      (Instr.mapUpdate T (.map (some b)) x v).run P w = .ok () { w with heap := w.heap.setIfInBounds b (.map es' clock') } := by
  have hlt := (Array.getElem?_eq_some_iff.1 hb).1
  rcases K.find w hx es.toList hk with ⟨h, _⟩ | ⟨j, en, h, hj, hkey⟩
  · refine ⟨es.push ⟨x, v, clock⟩, clock + 1, ⟨?_, by simp, by simp⟩, ?_⟩
    · intro en hen
      simp only [Array.toList_push, List.mem_append, List.mem_singleton] at hen
      rcases hen with hen | rfl
      · exact .inl hen
      · exact .inr ⟨rfl, rfl⟩
    · simp [Instr.mapUpdate, run_underlying hu.out, run_getObj hb, K.check w _ hx, h, run_setObj hb]
  · have hjl := (List.getElem?_eq_some_iff.1 hj).1
    have hj' : es[j]? = some en := by simpa using hj
    refine ⟨es.modify j fun e => { e with key := x, val := v }, clock, ⟨?_, by simp at hjl ⊢; omega, by simp⟩, ?_⟩
    · intro en' hen
      obtain ⟨i, hi, he⟩ := List.getElem_of_mem hen
      simp only [Array.getElem_toList, Array.getElem_modify] at he
      split at he
      · subst he; exact .inr ⟨rfl, rfl⟩
      · subst he; exact .inl (by simp)
    · have hst := K.stays w hx
      simp [Instr.mapUpdate, run_underlying hu.out, run_getObj hb, K.check w _ hx, h, run_setObj hb, hj', hkey, hst]
end

section
variable {P : Program} {ops : Array Oper} {n : Nat} {bars : Nat → Bool} {K : EnvF → List Ent → List Ent → Prop} {l : List (Nat × Oper)} {E : Env} {St V : List Ent} {i : Nat} {d : Tmp} {ty : TypeId} {pos : String} {aft : Array Edge} {g : Option (Nat × Bool)}
theorem W.mapPut {T kt e : TypeId} (kd : Maps.Keyed P kt) {x y z : Operand} {b : Nat} {es : Array MapEntry} {clock : Nat} {kv v : Value} {lx : Lit} {M : List Ent} (hw : wants ops ⟨none, .mapUpdate T x y z, ty, pos, aft, g⟩ E.get = some true) (hf : fits n ⟨none, .mapUpdate T x y z, ty, pos, aft, g⟩ = true) (hx : evO E x = some (.map (some b))) (hy : evO E y = some kv) (hz : evO E z = some v)
    [hp : PickK V b (pts b (.map es clock)) M] [hu : Und P T (.map kt e)] (hkx : keyOf P kt kv = some lx) (hk : ∀ e ∈ es.toList, ∃ l, keyOf P kt e.key = some l)
    (h : ∀ es' clock', (∀ en ∈ es'.toList, en ∈ es.toList ∨ (en.key = kv ∧ en.val = v)) → 0 < es'.size → es.size ≤ es'.size → W P ops n bars K l E St ((b, pts b (.map es' clock')) :: M)) : W P ops n bars K ((i, ⟨none, .mapUpdate T x y z, ty, pos, aft, g⟩) :: l) E St V := by
  refine W.loud (N := [(b, pts b (.map es clock))]) (M := M) (R := fun _ N' => ∃ es' clock', ((∀ en ∈ es'.toList, en ∈ es.toList ∨ (en.key = kv ∧ en.val = v)) ∧ 0 < es'.size ∧ es.size ≤ es'.size) ∧ N' = [(b, pts b (.map es' clock'))]) hw hf (k3 hx hy hz rfl) rfl hp.perm ?_ (fun _ N' ⟨es', c', ⟨a1, a2, a3⟩, e⟩ => by subst e; exact h es' c' a1 a2 a3)
  intro σ F w hs
  have hb : w.heap[b]? = some (.map es clock) := Sat.block (k := b) (As := F) hs
  obtain ⟨es', c', hpr, hr⟩ := update_any (v := v) kd hu hb hkx hk
  have hrun : (execOp (evf E.get) ⟨none, .mapUpdate T x y z, ty, pos, aft, g⟩).run P w = .ok .skip { w with heap := w.heap.setIfInBounds b (.map es' c') } := by
    simp [execOp, evO_evf hx, evO_evf hy, evO_evf hz, hr]
  rw [hrun]
  refine ⟨_, ⟨es', c', hpr, rfl⟩, ?_⟩
  have hlt := (Array.getElem?_eq_some_iff.1 hb).1
  exact Sat.setObj (o := .map es clock) hs rfl (by simp [hlt]) (fun c _ hc => by simp [Array.getElem?_setIfInBounds_ne (Ne.symm hc)])
theorem W.lenMapV {T k e : TypeId} {x : Operand} {b : Nat} {es : Array MapEntry} {clock : Nat} {M : List Ent} (hw : wants ops ⟨some d, .call ⟨.builtin .len, #[x], #[T]⟩, ty, pos, aft, g⟩ E.get = some true) (hf : fits n ⟨some d, .call ⟨.builtin .len, #[x], #[T]⟩, ty, pos, aft, g⟩ = true) (hx : evO E x = some (.map (some b))) (hb : bars i = true)
    [hp : PickK V b (pts b (.map es clock)) M] [hu : Und P T (.map k e)] (h : W P ops n bars K l ((d, .int .i64 (es.size : Int)) :: E) St V) : W P ops n bars K ((i, ⟨some d, .call ⟨.builtin .len, #[x], #[T]⟩, ty, pos, aft, g⟩) :: l) E St V :=
  W.quietV hw hf (k1 hx rfl) rfl hb (fun σ F w hs => by simp [execOp, resolve, invoke, builtin, evO_evf hx, Builtin.len_, run_underlying hu.out, goInt, run_getObj (sat_blockV hs hp)]) h
theorem W.lookupV {T : TypeId} {x y : Operand} {ok : Bool} {b : Nat} {es : Array MapEntry} {clock : Nat} {kv v : Value} {M : List Ent} (hw : wants ops ⟨some d, .lookup T x y ok, ty, pos, aft, g⟩ E.get = some true) (hf : fits n ⟨some d, .lookup T x y ok, ty, pos, aft, g⟩ = true) (hx : evO E x = some (.map (some b))) (hy : evO E y = some kv)
    (hb : bars i = true) [hp : PickK V b (pts b (.map es clock)) M] (hr : ∀ w, w.heap[b]? = some (.map es clock) → (Instr.lookup T (.map (some b)) kv ok).run P w = .ok v w) (h : W P ops n bars K l ((d, v) :: E) St V) : W P ops n bars K ((i, ⟨some d, .lookup T x y ok, ty, pos, aft, g⟩) :: l) E St V :=
  W.quietV hw hf (k2 hx hy rfl) rfl hb (fun σ F w hs => by simp [execOp, evO_evf hx, evO_evf hy, hr w (sat_blockV hs hp)]) h
end
end Go.Sq
