/-
  Ranges over a function: an iterator's contract, and the statement.
-/
import Derived.Test.YtphnadpmpcifoaaDoorMap
import Derived.RangeFuncIn
import Derived.RangeFuncRecord
import Derived.RangeFuncSeq
import Derived.RangeFuncLeaves
namespace Go.Sq

theorem callR_ofM {P : Program} {f : FuncId} {fn : Func} {c : Code} {n : Nat} {args : List Value} {N : List Ent} {Φ : Value → List Ent → Prop} (hf : P.funcs[f]? = some fn) (hb : fn.body = some c) (hn : fn.ntmps = n) (hl : Nat.ble args.length n = true)
    (h : ∀ σ F, J P (bodyPostM Fence.wide 0 P fn (RP σ F Φ)) n σ F [.code c] (argEnv 0 args) N) : CallR P f args N Φ := by
  intro σ F w hs
  refine (callsIn_wide (n := 0)).1 (callsIn_of_wp_marks hf hb trivial (wpIn_wide.2 (h σ F _ w ⟨rfl, ?_, fun t v ht => ?_⟩ hs)))
  · have := Nat.le_of_ble_eq_true hl
    simp; omega
  · obtain ⟨_, h2⟩ := argEnv_get args 0 t v ht
    have hlt := (List.getElem?_eq_some_iff.1 h2).1
    simp at h2 hlt
    simp [Array.getElem?_append, hlt]
    rw [List.getElem?_eq_getElem hlt] at h2
    exact Option.some.inj h2

/-- An iterator: what it hands to yield, round by round; it keeps nothing of its own. -/
def Iter (P : Program) (gf : FuncId) (bnd cap : List Value) (N : Nat) (xs : Nat → List Value) : Prop :=
  ∀ (l : Nat) (A : Nat → HP), (∀ k, k < N → ∀ σ F w, Sat σ w ((0, A k) :: F) → YieldAt Fence.wide 0 P l (xs k).toArray w fun e w' => e = .returned (.bool true) ∧ Sat σ w' ((0, A (k + 1)) :: F)) →
    CallR P gf (bnd ++ [.func (.yield l) #[] #[]] ++ cap) [(0, A 0)] fun _ N' => N' = [(0, A N)]

section
variable {P : Program} {ops : Array Oper} {n : Nat} {bars : Nat → Bool} {K : EnvF → List Ent → List Ent → Prop} {l : List (Nat × Oper)} {E : Env} {St V : List Ent} {i : Nat} {d : Tmp} {ty : TypeId} {pos : String} {aft : Array Edge} {g : Option (Nat × Bool)}
theorem W.makeFunc {fi : Fn} {xs ys : Array Operand} {us vs : List Value} (hw : wants ops ⟨some d, .makeFunc fi xs ys, ty, pos, aft, g⟩ E.get = some true) (hf : fits n ⟨some d, .makeFunc fi xs ys, ty, pos, aft, g⟩ = true) (hx : evL E xs.toList = some us) (hy : evL E ys.toList = some vs)
    (h : W P ops n bars K l ((d, .func fi us.toArray vs.toArray) :: E) St V) : W P ops n bars K ((i, ⟨some d, .makeFunc fi xs ys, ty, pos, aft, g⟩) :: l) E St V := by
  have e1 : xs.map (evf E.get) = us.toArray := by
    apply Array.ext'
    rw [Array.toList_map, (evL_spec hx).1]
  have e2 : ys.map (evf E.get) = vs.toArray := by
    apply Array.ext'
    rw [Array.toList_map, (evL_spec hy).1]
  refine W.quiet hw hf (fun t ht => ?_) rfl (fun w => by simp [execOp, e1, e2, Instr.makeFunc]) h
  simp only [Op.operands, Array.mem_append] at ht
  rcases ht with ht | ht
  · exact (evL_spec hx).2 t (by simpa using ht)
  · exact (evL_spec hy).2 t (by simpa using ht)
theorem W.yield {x : Operand} {ys : Array Operand} {Ts : Array TypeId} {lp : Nat} {vs : List Value} {A A' : HP} {M : List Ent} (hw : wants ops ⟨some d, .call ⟨.value x, ys, Ts⟩, ty, pos, aft, g⟩ E.get = some true) (hf : fits n ⟨some d, .call ⟨.value x, ys, Ts⟩, ty, pos, aft, g⟩ = true) (hx : evO E x = some (.func (.yield lp) #[] #[])) (hy : evL E ys.toList = some vs)
    [hp : PickK V 0 A M] (hyi : ∀ σ F w, Sat σ w ((0, A) :: F) → YieldAt Fence.wide 0 P lp vs.toArray w fun e w' => e = .returned (.bool true) ∧ Sat σ w' ((0, A') :: F))
    (h : W P ops n bars K l ((d, .bool true) :: E) St ((0, A') :: M)) : W P ops n bars K ((i, ⟨some d, .call ⟨.value x, ys, Ts⟩, ty, pos, aft, g⟩) :: l) E St V := by
  refine W.loud (N := [(0, A)]) (M := M) (R := fun v N' => v = .bool true ∧ N' = [(0, A')]) hw hf ?_ rfl hp.perm ?_ ?_
  · intro t ht
    simp only [Op.operands, Call.operands, Array.mem_append] at ht
    rcases ht with ht | ht
    · simp at ht; subst ht; exact evO_knows hx
    · exact (evL_spec hy).2 t (by simpa using ht)
  · intro σ F w hs
    obtain ⟨h1, _⟩ := evL_spec hy
    have e1 : ys.map (evf E.get) = vs.toArray := by
      apply Array.ext'
      rw [Array.toList_map, h1]
    obtain ⟨fn, tmps, assign, body, hr, hround⟩ := hyi σ F w hs
    have hrun : (execOp (evf E.get) ⟨some d, .call ⟨.value x, ys, Ts⟩, ty, pos, aft, g⟩).run P w = .ok (.round lp fn tmps assign body) w := by
      simp [execOp, resolve, e1, evO_evf hx, Deferred.ofValue, invoke, hr]
    rw [hrun]
    exact hround.mono fun e w' ⟨he, hs'⟩ => ⟨_, he, _, ⟨rfl, rfl⟩, hs'⟩
  · rintro v N' ⟨rfl, rfl⟩
    rw [put_get]
    exact h
end

/-- Two loop variables. -/
theorem agree_two {n : Nat} {a : Act} {E : Env} (ha : Agree n a E.get) {p q : Tmp} {u v : Value} (hp : Nat.blt p n = true) (hq : Nat.blt q n = true) :
    Agree n { tmps := ((#[p, q] : Array Tmp).zip #[u, v]).foldl (fun t (x, y) => t.setIfInBounds x y) a.tmps, defers := [] } (Env.get ((q, v) :: (p, u) :: E)) := by
  have h1 : Agree n { a with tmps := a.tmps.setIfInBounds p u } (Env.get ((p, u) :: E)) := by
    have := ha.put (o := ⟨some p, .move (.const u), 0, "", #[], none⟩) (by simpa [fits, notSel] using hp) u
    rw [put_get] at this
    exact this
  have h2 := h1.put (o := ⟨some q, .move (.const v), 0, "", #[], none⟩) (by simpa [fits, notSel] using hq) v
  rw [put_get] at h2
  have e : ((#[p, q] : Array Tmp).zip #[u, v]).foldl (fun t (x, y) => t.setIfInBounds x y) a.tmps = (a.tmps.setIfInBounds p u).setIfInBounds q v := by simp
  rw [e]
  exact ⟨rfl, h2.2.1, h2.2.2⟩

theorem wp_range2 {P : Program} {g : Operand} {p q : Tmp} {assign body : Code} {n : Nat} {E : Env} {a : Act} {w : World} {σ : Str} {F : List Ent} {Q : Exit → Act → World → Prop} {gf : FuncId} {bnd cap : List Value} {N : Nat} {us vs : Nat → Value}
    (I : Nat → List Ent) (ha : Agree n a E.get) (hs : Sat σ w (I 0 ++ F)) (hg : evO E g = some (.func (.func gf) bnd.toArray cap.toArray)) (hb : Bod P gf) (hit : Iter P gf bnd cap N fun k => [us k, vs k]) (hp : Nat.blt p n = true) (hq : Nat.blt q n = true)
    (E2 : Nat → Env)
    (hassign : ∀ k, k < N → ∀ l σ G a₀ w, Agree n a₀ (Env.get ((q, vs k) :: (p, us k) :: E)) → Sat σ w G → ∀ K : Act → World → Prop, (∀ a₁ w', Agree n a₁ (E2 k).get → Sat σ w' G → K a₁ w') → assign.wpIn (FW (some l)) 0 P (Exit.then K fun _ _ _ => False) a₀ w)
    (hbody : ∀ k, k < N → ∀ l σ G a₁ w, Agree n a₁ (E2 k).get → Sat σ w (I k ++ G) → ∀ Q' : Exit → Act → World → Prop, (∀ a' w', Sat σ w' (I (k + 1) ++ G) → Q' .normal a' w') → body.wpIn (FW (some l)) 0 P Q' a₁ w)
    (hend : ∀ D w', Sat σ w' (I N ++ (D, pts D (.deferred (some []))) :: F) → Q .normal { a with defers := [⟨.collected D, #[]⟩] } w') :
    (Code.rangeFunc g #[p, q] assign body).wp P Q a w := by
  refine (wpIn_wide (n := 0)).1 (wpIn_rangeFunc fun fn _ => ?_)
  obtain ⟨r0, h0⟩ : ∃ r0 : Loop, r0 = { state := .ready, pending := none, fn, tmps := a.tmps, params := #[p, q], assign, body, defers := w.heap.size } := ⟨_, rfl⟩
  have hev : a.eval g = .func (.func gf) bnd.toArray cap.toArray := by
    rw [ha.eval fun t ht => by subst ht; exact evO_knows hg]
    exact evO_evf hg
  have hs1 : Sat σ ((w.alloc (.deferred (some []))).alloc (.loop r0)) ((w.heap.size + 1, pts (w.heap.size + 1) (.loop r0)) :: (w.heap.size, pts w.heap.size (.deferred (some []))) :: (I 0 ++ F)) := by
    have := (hs.alloc (.deferred (some []))).alloc (.loop r0)
    have e : (w.alloc (.deferred (some []))).heap.size = w.heap.size + 1 := by simp only [World.alloc, Array.size_push]
    rw [e] at this
    exact this
  -- a round
  let A : Nat → HP := fun k => Holds (I k ++ [(w.heap.size + 1, pts (w.heap.size + 1) (.loop r0))])
  have hcall := hit (w.heap.size + 1) A fun k hk σ' F' w' hs' => by
    have hs2 : Sat σ' w' ((w.heap.size + 1, pts (w.heap.size + 1) (.loop r0)) :: (I k ++ F')) := by
      have := Sat.open_ (Cs := I k ++ [(w.heap.size + 1, pts (w.heap.size + 1) (.loop r0))]) hs'
      refine this.perm ?_
      simp only [List.append_assoc, List.singleton_append]
      exact List.perm_middle
    have hl := hs2.block
    have hy := run_yield (P := P) (args := #[us k, vs k]) hl (by rw [h0]; rfl)
    refine ⟨fn, _, assign, body, by rw [h0] at hy; exact hy, ?_⟩
    have hround : RoundIn (FW none) 0 P (w.heap.size + 1) fn (((#[p, q] : Array Tmp).zip #[us k, vs k]).foldl (fun t (x, y) => t.setIfInBounds x y) a.tmps) assign body w' (fun e w'' => e = .returned (.bool true) ∧ Sat σ' w'' ((0, A (k + 1)) :: F')) := by
      refine roundIn_of_wpIn trivial ?_
      refine hassign k hk (w.heap.size + 1) σ' _ _ w' (agree_two ha hp hq) hs2 _ fun a₁ w4 ha₁ hs2 => ?_
      have hl := hs2.block
      refine ⟨_, run_beginRound hl (by rw [h0]), ?_⟩
      have hs3 : Sat σ' (w4.putObj (w.heap.size + 1) (.loop { r0 with state := .busy })) ((w.heap.size + 1, pts (w.heap.size + 1) (.loop { r0 with state := .busy })) :: (I k ++ F')) := by
        have hlt := hs2.lt
        exact hs2.setObj rfl (World.putObj_heap_same hlt) (fun c _ hc => World.putObj_heap_other hc)
      refine hbody k hk (w.heap.size + 1) σ' ((w.heap.size + 1, pts (w.heap.size + 1) (.loop { r0 with state := .busy })) :: F') a₁ _ ha₁ (hs3.perm List.perm_middle.symm) _ fun a' w'' hs4 => ?_
      have hs5 := hs4.perm (List.perm_middle (l₁ := I (k + 1)))
      have hl5 := hs5.block
      have hr5 := run_endRound (P := P) none hl5
      refine ⟨_, _, hr5, rfl, ?_⟩
      have hs6 : Sat σ' (w''.putObj (w.heap.size + 1) (.loop r0)) ((w.heap.size + 1, pts (w.heap.size + 1) (.loop r0)) :: (I (k + 1) ++ F')) := hs5.setObj rfl (World.putObj_heap_same hs5.lt) (fun c _ hc => World.putObj_heap_other hc)
      have hs7 := Sat.shut (k := 0) (Cs := I (k + 1) ++ [(w.heap.size + 1, pts (w.heap.size + 1) (.loop r0))]) (As := F') (hs6.perm (by
        simp only [List.append_assoc, List.singleton_append]
        exact List.perm_middle.symm))
      have er : ({ { r0 with state := .busy } with state := if (none : Option Code).isNone then .ready else .done, pending := none } : Loop) = r0 := by rw [h0]; rfl
      rw [er]
      exact hs7
    exact hround
  refine ⟨w.heap.size + 1, [⟨.collected w.heap.size, #[]⟩], ((w.alloc (.deferred (some []))).alloc (.loop { state := .ready, pending := none, fn, tmps := a.tmps, params := #[p, q], assign, body, defers := w.heap.size })), { target := .fn (.func gf) cap.toArray, args := bnd.toArray ++ #[Value.func (.yield (w.heap.size + 1)) #[] #[]] }, ((w.alloc (.deferred (some []))).alloc (.loop { state := .ready, pending := none, fn, tmps := a.tmps, params := #[p, q], assign, body, defers := w.heap.size })), gf, (bnd ++ [Value.func (.yield (w.heap.size + 1)) #[] #[]] ++ cap).toArray, ((w.alloc (.deferred (some []))).alloc (.loop { state := .ready, pending := none, fn, tmps := a.tmps, params := #[p, q], assign, body, defers := w.heap.size })), run_enterLoop_outer _ _ _ _ _, ?_, (fun _ _ => trivial), ?_, (fun hd => by simp [Fence.wide] at hd), ?_⟩
  · simp only [resolve, rangeCall, hev]
    simp [Deferred.ofValue, Act.eval]
  · simp [invoke, run_callFunc hb]
  · refine callsIn_wide.2 ((hcall σ ((w.heap.size, pts w.heap.size (.deferred (some []))) :: F) _ ?_).mono ?_)
    · rw [← h0]
      have := Sat.shut (k := 0) (Cs := I 0 ++ [(w.heap.size + 1, pts (w.heap.size + 1) (.loop r0))]) (As := (w.heap.size, pts w.heap.size (.deferred (some []))) :: F) (hs1.perm (by
        simp only [List.append_assoc, List.singleton_append]
        exact ((List.perm_middle (l₁ := I 0)).symm.cons _).trans List.perm_middle.symm))
      exact this
    · rintro e w3 ⟨v, N', rfl, rfl, hs3⟩
      have hs4 := Sat.open_ (Cs := I N ++ [(w.heap.size + 1, pts (w.heap.size + 1) (.loop r0))]) (As := (w.heap.size, pts w.heap.size (.deferred (some []))) :: F) hs3
      have hs5 : Sat σ w3 ((w.heap.size + 1, pts (w.heap.size + 1) (.loop r0)) :: (I N ++ (w.heap.size, pts w.heap.size (.deferred (some []))) :: F)) := hs4.perm (by
        simp only [List.append_assoc, List.singleton_append]
        exact List.perm_middle)
      have hl := hs5.block
      have hpe : r0.pending = none := by rw [h0]
      have hrn := run_endLoop (P := P) hl (by rw [h0]; simp)
      refine ⟨none, _, by rw [hrn, hpe], ?_⟩
      have hs6 : Sat σ (w3.putObj (w.heap.size + 1) (.loop { r0 with state := .exhausted })) ((w.heap.size + 1, pts (w.heap.size + 1) (.loop { r0 with state := .exhausted })) :: (I N ++ (w.heap.size, pts w.heap.size (.deferred (some []))) :: F)) := hs5.setObj rfl (World.putObj_heap_same hs5.lt) (fun c _ hc => World.putObj_heap_other hc)
      have := hend w.heap.size _ hs6.tail
      rw [show [(⟨.collected w.heap.size, #[]⟩ : Deferred)] ++ a.defers = [⟨.collected w.heap.size, #[]⟩] from by rw [ha.1]; rfl]
      simp only [hpe] at this
      exact this

/-- The statement as the last one of a function that hands back nothing. -/
theorem J.range2 {P : Program} {fn : Func} {g : Operand} {p q : Tmp} {assign body : Code} {n : Nat} {E : Env} {σ : Str} {F : List Ent} {id : Nat} {gf : FuncId} {bnd cap : List Value} {N : Nat} {us vs : Nat → Value} {Φ : Value → List Ent → Prop} {N0 M As : List Ent}
    (I : Nat → List Ent) (hA : As.Perm (I 0)) (hg : evO E g = some (.func (.func gf) bnd.toArray cap.toArray)) (hb : Bod P gf) (hit : Iter P gf bnd cap N fun k => [us k, vs k]) (hp : Nat.blt p n = true) (hq : Nat.blt q n = true)
    (E2 : Nat → Env)
    (hassign : ∀ k, k < N → ∀ l σ G a₀ w, Agree n a₀ (Env.get ((q, vs k) :: (p, us k) :: E)) → Sat σ w G → ∀ K : Act → World → Prop, (∀ a₁ w', Agree n a₁ (E2 k).get → Sat σ w' G → K a₁ w') → assign.wpIn (FW (some l)) 0 P (Exit.then K fun _ _ _ => False) a₀ w)
    (hbody : ∀ k, k < N → ∀ l σ G a₁ w, Agree n a₁ (E2 k).get → Sat σ w (I k ++ G) → ∀ Q' : Exit → Act → World → Prop, (∀ a' w', Sat σ w' (I (k + 1) ++ G) → Q' .normal a' w') → body.wpIn (FW (some l)) 0 P Q' a₁ w)
    (hr : fn.results = #[]) (hN : (I N).Perm (N0 ++ M)) (hΦ : Φ (.tuple #[]) N0) :
    J P (bodyPostM Fence.wide 0 P fn (RP σ F Φ)) n σ F [.code (.rangeFunc g #[p, q] assign body), .blk id] E As := by
  intro a w ha hs
  refine wp_range2 I ha (hs.perm (hA.append_right F)) hg hb hit hp hq E2 hassign hbody fun D w' hs' => ?_
  have hsD : Sat σ w' ((D, pts D (.deferred (some []))) :: (I N ++ F)) := hs'.perm List.perm_middle
  refine ⟨by simp, .inl ⟨D, _, rfl, run_takeDeferred hsD.block, ?_⟩⟩
  have hs2 : Sat σ (w'.putObj D (.deferred none)) ((D, pts D (.deferred none)) :: (I N ++ F)) := hsD.setObj rfl (World.putObj_heap_same hsD.lt) (fun c _ hc => World.putObj_heap_other hc)
  refine ⟨.tuple #[], ?_, .tuple #[], N0, hΦ, rfl, ?_⟩
  · simp [results, hr]
  · have := hs2.tail
    refine Sat.drop_front (Cs := M) ?_
    rw [← List.append_assoc]
    exact this.perm ((hN.trans List.perm_append_comm).append_right F)

/-! ### regions of a round -/
def KQ (Q : Exit → Act → World → Prop) (n : Nat) (σ : Str) (F : List Ent) : EnvF → List Ent → List Ent → Prop :=
  fun e St V => ∀ a w, Agree n a e → Sat σ w (St ++ V ++ F) → Q .normal a w
section
variable {P : Program} {Q : Exit → Act → World → Prop} {n : Nat} {σ : Str} {F : List Ent} {E : Env} {As : List Ent} {ro : Option Nat} {a : Act} {w : World} {id : Nat} {ops : Array Oper}
theorem wpIn_reg (h : W P ops n (fun _ => true) (KQ Q n σ F) (nums 0 ops.toList) E [] As) (ha : Agree n a E.get) (hs : Sat σ w (As ++ F)) : (Code.region id ops false).wpIn (FW ro) 0 P Q a w :=
  wpIn_region_list (sw_list (ro := ro) (K := KQ Q n σ F) (σ := σ) (F := F) (fun _ _ _ a w (hk : KQ Q n σ F _ _ _) ha hs => hk a w ha hs) ops.toList 0 E.get [] As a w (by rw [← nums_eq]; exact h) ha (by simpa using hs))
theorem wpIn_regD (ks : List Nat) {V St : List Ent} (hm : P.follows .mixedOrders = true) (hB : drawOk ops = true) [p : PickL As ks V St]
    (h : W P ops n (barAt ops (Region.before ops)) (KQ Q n σ F) (nums 0 ops.toList) E St V) (ha : Agree n a E.get) (hs : Sat σ w (As ++ F)) : (Code.region id ops true).wpIn (FW ro) 0 P Q a w :=
  wp_region_sw (ro := ro) (K := KQ Q n σ F) hm hB (fun _ _ _ _ p (hk : KQ Q n σ F _ _ _) a w ha hs => hk a w ha (hs.perm ((p.symm.append_left _).append_right F))) (fun _ _ _ a w (hk : KQ Q n σ F _ _ _) ha hs => hk a w ha hs) (by rw [← nums_eq]; exact h) ha
    (hs.perm ((p.perm.trans List.perm_append_comm).append_right F))
theorem W.nilQ {bars : Nat → Bool} {St V : List Ent} [p : Cat St V As] (h : ∀ a w, Agree n a E.get → Sat σ w (As ++ F) → Q .normal a w) : W P ops n bars (KQ Q n σ F) [] E St V :=
  fun _ a w ha hs => h a w ha (hs.perm (p.perm.append_right F))
end
end Go.Sq
