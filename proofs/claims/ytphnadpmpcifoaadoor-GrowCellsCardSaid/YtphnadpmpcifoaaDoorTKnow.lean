/-
  Package grow: what is known; the contract of grow.
-/
import Derived.Test.YtphnadpmpcifoaaDoorTParts
namespace Go.Qm
theorem growNew_in {b l k : Nat} {t : T} {j : Nat} {U : List T} (h : ∀ u ∈ T.growNew b l (k + 1) t j, u ∈ U) :
    (∀ i, i < 9 → (if j = k + 3 then T.nineN t i else T.nineC t i) ∈ U) ∧ (j = k + 3 → ∀ i, i < 9 → ∀ u ∈ T.growNew b l k (T.nineN t i) (j - 1), u ∈ U) ∧
    (∀ i, i < 4 → T.quad (T.mid b l k t j) i ∈ U) ∧ (∀ i, i < 4 → ∀ u ∈ T.growNew b l k (T.quad (T.mid b l k t j) i) (T.jj k j), u ∈ U) ∧ T.grow b l (k + 1) t j ∈ U := by
  simp only [T.growNew, List.mem_append, List.mem_flatMap, List.mem_range, List.mem_singleton] at h
  refine ⟨fun i hi => h _ (.inl (.inl ⟨i, hi, ?_⟩)), fun hj i hi u hu => h _ (.inl (.inl ⟨i, hi, ?_⟩)), fun i hi => h _ (.inl (.inr ⟨i, hi, List.mem_cons_self ..⟩)), fun i hi u hu => h _ (.inl (.inr ⟨i, hi, List.mem_cons_of_mem _ hu⟩)), h _ (.inr rfl)⟩
  · split <;> simp
  · rw [if_pos hj]; exact List.mem_cons_of_mem _ hu
end Go.Qm
namespace Go.Proofs.YtphnadpmpcifoaaDoor
open Go.Sq Go.Qm
/-- What the memory of answers holds. -/
def okG (b l : Nat) (ts : List T) (i j o : Int) : Prop := ∃ k t jn, T.lev t = k + 4 ∧ Is ts i t ∧ j = (jn : Nat) ∧ jn ≤ k + 2 ∧ Is ts o (T.grow b l k t jn)
theorem okG.mono {b l : Nat} {ts ts' : List T} (h : ts <+: ts') {i j o : Int} : okG b l ts i j o → okG b l ts' i j o := fun ⟨k, t, jn, h1, h2, h3, h4, h5⟩ => ⟨k, t, jn, h1, h2.mono h, h3, h4, h5.mono h⟩
abbrev gwP (g s b l n : Nat) (ts : List T) : HP := growP g s b l n (okG b l ts)
def Grown (room : Nat) (U ts : List T) (g s b l : Nat) (u : T) : Value → List Ent → Prop := fun v N => ∃ ts' id n, v = okI id ∧ N = [(g, gwP g s b l n ts'), (s, treeP s room ts')] ∧ 0 < n ∧ Step room U ts ts' ∧ Is ts' id u
/-- The contract of grow, at level k + 4. -/
def GrowAt (b l k : Nat) : Prop := ∀ {g s room n : Nat} {U ts : List T} {id J L : Int} {t : T} {jn : Nat}, Inv room U ts → Is ts id t → t.lev = k + 4 → J = jn → jn ≤ k + 2 → L = k + 4 → (∀ u ∈ T.growNew b l k t jn, u ∈ U) →
  CallR P 23 [ptr g, int id, int J, int L] [(g, gwP g s b l n ts), (s, treeP s room ts)] (Grown room U ts g s b l (T.grow b l k t jn))
def Larged (room : Nat) (U ts : List T) (g s m b l : Nat) (u : T) : Value → List Ent → Prop := fun v N => ∃ ts' id n, v = okI id ∧ N = [(m, mkP m s), (g, gwP g s b l n ts'), (s, treeP s room ts')] ∧ Step room U ts ts' ∧ Is ts' id u
section
variable {ops : Array Oper} {n : Nat} {bars : Nat → Bool} {K : EnvF → List Ent → List Ent → Prop} {l : List (Nat × Oper)} {E : Env} {St V : List Ent} {i : Nat} {d : Tmp} {ty : TypeId} {pos : String} {aft : Array Edge} {gu : Option (Nat × Bool)}
theorem W.gk {f : FuncId} {xs : Array Operand} {Ts : Array TypeId} {vs : List Value} {room g s b le n0 : Nat} {U ts : List T} {t : T} {M M' : List Ent} (hc : CallR P f vs [(g, gwP g s b le n0 ts), (s, treeP s room ts)] (Grown room U ts g s b le t))
    [hp : PickK V g (gwP g s b le n0 ts) M] [hq : PickK M s (treeP s room ts) M'] [hb : Bod P f]
    (hw : wants ops ⟨some d, .call ⟨.value (.func f), xs, Ts⟩, ty, pos, aft, gu⟩ E.get = some true) (hf : fits n ⟨some d, .call ⟨.value (.func f), xs, Ts⟩, ty, pos, aft, gu⟩ = true) (hx : evL E xs.toList = some vs)
    (h : ∀ ts' id n', Step room U ts ts' → Is ts' id t → 0 < n' → W P ops n bars K l ((d, okI id) :: E) St ((g, gwP g s b le n' ts') :: (s, treeP s room ts') :: M')) : W P ops n bars K ((i, ⟨some d, .call ⟨.value (.func f), xs, Ts⟩, ty, pos, aft, gu⟩) :: l) E St V :=
  W.call hc (ks := [g, s]) rfl (hp := ⟨hp.perm.trans (hq.perm.cons _)⟩) hw hf hx fun v N hh => by
    obtain ⟨ts', id, n', rfl, rfl, h0, h1, h2⟩ := hh
    exact h ts' id n' h1 h2 h0
theorem W.lk {f : FuncId} {xs : Array Operand} {Ts : Array TypeId} {vs : List Value} {room g s m b le n0 : Nat} {U ts : List T} {t : T} {M M' M'' : List Ent} (hc : CallR P f vs [(m, mkP m s), (g, gwP g s b le n0 ts), (s, treeP s room ts)] (Larged room U ts g s m b le t))
    [hr : PickK V m (mkP m s) M] [hp : PickK M g (gwP g s b le n0 ts) M'] [hq : PickK M' s (treeP s room ts) M''] [hb : Bod P f]
    (hw : wants ops ⟨some d, .call ⟨.value (.func f), xs, Ts⟩, ty, pos, aft, gu⟩ E.get = some true) (hf : fits n ⟨some d, .call ⟨.value (.func f), xs, Ts⟩, ty, pos, aft, gu⟩ = true) (hx : evL E xs.toList = some vs)
    (h : ∀ ts' id n', Step room U ts ts' → Is ts' id t → W P ops n bars K l ((d, okI id) :: E) St ((m, mkP m s) :: (g, gwP g s b le n' ts') :: (s, treeP s room ts') :: M'')) : W P ops n bars K ((i, ⟨some d, .call ⟨.value (.func f), xs, Ts⟩, ty, pos, aft, gu⟩) :: l) E St V :=
  W.call hc (ks := [m, g, s]) rfl (hp := ⟨hr.perm.trans ((hp.perm.trans (hq.perm.cons _)).cons _)⟩) hw hf hx fun v N hh => by
    obtain ⟨ts', id, n', rfl, rfl, h1, h2⟩ := hh
    exact h ts' id n' h1 h2
theorem W.mk9 {f : FuncId} {xs : Array Operand} {Ts : Array TypeId} {vs : List Value} {room m s : Nat} {U ts : List T} {fn : Nat → T} {M M' : List Ent} (hc : CallR P f vs [(m, mkP m s), (s, treeP s room ts)] (Made9 room U ts m s fn))
    [hp : PickK V m (mkP m s) M] [hq : PickK M s (treeP s room ts) M'] [hb : Bod P f]
    (hw : wants ops ⟨some d, .call ⟨.value (.func f), xs, Ts⟩, ty, pos, aft, gu⟩ E.get = some true) (hf : fits n ⟨some d, .call ⟨.value (.func f), xs, Ts⟩, ty, pos, aft, gu⟩ = true) (hx : evL E xs.toList = some vs)
    (h : ∀ ts' o0 o1 o2 o3 o4 o5 o6 o7 o8, Step room U ts ts' → Is ts' o0 (fn 0) → Is ts' o1 (fn 1) → Is ts' o2 (fn 2) → Is ts' o3 (fn 3) → Is ts' o4 (fn 4) → Is ts' o5 (fn 5) → Is ts' o6 (fn 6) → Is ts' o7 (fn 7) → Is ts' o8 (fn 8) →
      W P ops n bars K l ((d, .agg #[int o0, int o1, int o2, int o3, int o4, int o5, int o6, int o7, int o8]) :: E) St ((m, mkP m s) :: (s, treeP s room ts') :: M')) : W P ops n bars K ((i, ⟨some d, .call ⟨.value (.func f), xs, Ts⟩, ty, pos, aft, gu⟩) :: l) E St V :=
  W.call hc (ks := [m, s]) rfl (hp := ⟨hp.perm.trans (hq.perm.cons _)⟩) hw hf hx fun v N hh => by
    obtain ⟨ts', o0, o1, o2, o3, o4, o5, o6, o7, o8, rfl, rfl, st, h0, h1, h2, h3, h4, h5, h6, h7, h8⟩ := hh
    exact h ts' o0 o1 o2 o3 o4 o5 o6 o7 o8 st h0 h1 h2 h3 h4 h5 h6 h7 h8
theorem gwP_mono {g s b le n0 : Nat} {ts ts' : List T} (h : ts <+: ts') : ∀ hp, gwP g s b le n0 ts hp → gwP g s b le n0 ts' hp := fun _ ⟨bk, es, clk, ⟨h1, h2⟩, h3⟩ =>
  ⟨bk, es, clk, ⟨fun e he => by
    obtain ⟨i, j, o, e1, e2, e3, e4, e5⟩ := h1 e he
    exact ⟨i, j, o, e1, e2, e3, e4, e5.mono h⟩, h2⟩, h3⟩
theorem J.weakG {R : Exit → Act → World → Prop} {n : Nat} {σ : Str} {F : List Ent} {stk : List It} {E : Env} {As : List Ent} {g s b le n0 : Nat} {ts ts' : List T} {M : List Ent} [p : PickK As g (gwP g s b le n0 ts) M] (h0 : ts <+: ts')
    (h : J P R n σ F stk E ((g, gwP g s b le n0 ts') :: M)) : J P R n σ F stk E As := fun a w ha hs =>
  h a w ha ((hs.perm (p.perm.append_right F)).mono (B := (g, gwP g s b le n0 ts')) (gwP_mono h0))
end
end Go.Proofs.YtphnadpmpcifoaaDoor
