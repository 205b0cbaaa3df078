/-
  One walk of a region, operation by operation, over a symbolic heap; and the theorem that this walk, in the text's order, serves every order that the region's edges allow.
-/
import Derived.Test.YtphnadpmpcifoaaDoorSat
import Derived.OrdersIn
import Derived.TacticsIn
import Derived.RangeFuncCalls
namespace Go.Sq

abbrev EnvF := Nat → Option Value
def upd (e : EnvF) (d : Option Tmp) (v : Value) : EnvF :=
  match d with
  | none => e
  | some t => fun k => if k = t then some v else e k
def evf (e : EnvF) : Operand → Value
  | .tmp t => (e t).getD undef
  | .const v => v
  | .global g => .pointer (some ⟨g, 0, none⟩)
  | .func f => .func (.func f) #[] #[]
/-- A frame holds what the environment says. -/
def Agree (n : Nat) (a : Act) (e : EnvF) : Prop := a.defers = [] ∧ a.tmps.size = n ∧ ∀ t v, e t = some v → a.tmps[t]? = some v

def knows (e : EnvF) (o : Oper) : Prop := ∀ t, Operand.tmp t ∈ o.op.operands → e t ≠ none
def notSel : Op → Bool
  | .select .. => false
  | .defer _ => false
  | _ => true
def fits (n : Nat) (o : Oper) : Bool := notSel o.op && (match o.dst with | some d => Nat.blt d n | none => true)

theorem Agree.eval {n : Nat} {a : Act} {e : EnvF} (h : Agree n a e) {x : Operand} (hx : ∀ t, x = .tmp t → e t ≠ none) : a.eval x = evf e x := by
  cases x with
  | tmp t =>
    obtain ⟨v, hv⟩ := Option.ne_none_iff_exists'.1 (hx t rfl)
    have := h.2.2 t v hv
    simp [Act.eval, evf, hv, this]
  | _ => rfl

theorem Agree.exec {n : Nat} {a : Act} {e : EnvF} (h : Agree n a e) {o : Oper} (hk : knows e o) (hs : notSel o.op = true) : execOp a.eval o = execOp (evf e) o :=
  execOp_congr o (fun cs b e => by rw [e] at hs; cases hs) fun x hx => h.eval fun t ht => hk t (ht ▸ hx)

theorem Agree.put {n : Nat} {a : Act} {e : EnvF} (h : Agree n a e) {o : Oper} (hf : fits n o = true) (v : Value) : Agree n (a.put o.dst v) (upd e o.dst v) := by
  obtain ⟨h1, h2, h3⟩ := h
  cases hd : o.dst with
  | none => exact ⟨h1, h2, h3⟩
  | some d =>
    have hlt : d < n := by
      simp only [fits, hd, Bool.and_eq_true] at hf
      exact Nat.le_of_ble_eq_true hf.2
    refine ⟨h1, by simpa [Act.put] using h2, fun t u ht => ?_⟩
    simp only [upd] at ht
    simp only [Act.put]
    by_cases e : t = d
    · subst e
      simp at ht
      subst ht
      rw [Array.getElem?_setIfInBounds_self, if_pos (by rw [h2]; exact hlt)]
    · simp [e] at ht
      rw [Array.getElem?_setIfInBounds_ne (Ne.symm e)]
      exact h3 t u ht

/-- Is the operation carried out, by its guard? -/
def wants (ops : Array Oper) (o : Oper) (e : EnvF) : Option Bool :=
  match o.guard with
  | none => some true
  | some (g, want) =>
    match (ops[g]?).bind (·.dst) with
    | none => some false
    | some t => match e t with
      | some (.bool b) => some (b == want)
      | some _ => some false
      | none => none

theorem wants_wanted {n : Nat} {ops : Array Oper} {o : Oper} {a : Act} {e : EnvF} {b : Bool} (h : Agree n a e) (hw : wants ops o e = some b) : Region.wanted o (yielded ops a.tmps) = b := by
  unfold wants at hw
  unfold Region.wanted
  cases hg : o.guard with
  | none => simp [hg] at hw; simpa using hw
  | some gw =>
    obtain ⟨g, want⟩ := gw
    simp only [hg] at hw ⊢
    unfold yielded
    cases hd : (ops[g]?).bind (·.dst) with
    | none => simp only [hd] at hw; cases hw; rfl
    | some t =>
      simp only [hd] at hw
      cases he : e t with
      | none => simp [he] at hw
      | some v =>
        have hv := h.2.2 t v he
        simp only [Option.bind_some, hv]
        cases v <;> simp only [he] at hw <;> cases hw <;> rfl

inductive Kind where
  | pure | load | alloc | loud
  deriving DecidableEq
def kindOf : Op → Kind
  | .move _ | .assign _ | .pick .. | .nilCheck _ | .unOp .. | .fieldAddr .. | .field .. | .indexAddr .. | .index .. | .slice .. | .extract .. | .build .. | .makeInterface .. | .makeFunc .. => .pure
  | .binOp op .. => match op with | .eql | .neq => .load | _ => .pure
  | .load .. | .lookup .. | .convert .. | .typeAssert .. => .load
  | .call { callee := .builtin b, .. } => match b with | .len | .cap | .min | .max => .load | _ => .loud
  | .alloc _ | .box .. | .buildSlice .. | .makeMap .. | .makeSlice .. => .alloc
  | _ => .loud
def Kind.quiet : Kind → Bool
  | .pure | .load => true
  | _ => false

/-- What one operation's run comes to. -/
def Outc (P : Program) (Φ : Value → World → Prop) : Result Next → Prop
  | .ok (.value v) w' => Φ v w'
  | .ok .skip w' => Φ undef w'
  | .ok (.enter f args) w' => Calls P f args w' fun e w'' => ∃ v, e = .returned v ∧ Φ v w''
  | .ok (.round l f tmps assign body) w' => RoundIn Fence.wide 0 P l f tmps assign body w' fun e w'' => ∃ v, e = .returned v ∧ Φ v w''
  | _ => False
/-- The wide fence, in a round or in none. -/
def FW (ro : Option Nat) : Fence := { Fence.wide with round := ro }
theorem callsIn_FW {ro : Option Nat} {n : Nat} {P : Program} {f : FuncId} {args : Array Value} {w : World} {R : Ending → World → Prop} (h : Calls P f args w R) : CallsIn (FW ro) n P f args w R := by
  have := callsIn_wide (n := n).2 h
  exact this

theorem Outc.upon {ro : Option Nat} {P : Program} {o : Oper} {a : Act} {Φ : Value → World → Prop} {K : Act → World → Prop} {Q : Exit → Act → World → Prop} {r : Result Next}
    (h : Outc P Φ r) (hk : ∀ v w', Φ v w' → K (a.put o.dst v) w') : o.uponIn (FW ro) 0 P a K Q r := by
  cases r with
  | ok x w' =>
    cases x <;> simp only [Outc] at h <;> simp only [Oper.uponIn]
    case value v => exact hk _ _ h
    case skip => exact hk _ _ h
    case enter f args => exact ⟨fun hd => by simp [FW, Fence.wide] at hd, (callsIn_FW h).mono fun e w'' ⟨v, he, hv⟩ => by subst he; exact hk _ _ hv⟩
    case round l f tmps assign body =>
      have h2 : RoundIn (FW ro) 0 P l f tmps assign body w' fun e w'' => ∃ v, e = .returned v ∧ Φ v w'' := h
      exact ⟨fun hd => by simp [FW, Fence.wide] at hd, h2.mono fun e w'' ⟨v, he, hv⟩ => by subst he; exact hk _ _ hv⟩
  | halt x w' => simp only [Outc] at h

theorem Outc.some {P : Program} {Φ : Value → World → Prop} {r : Result Next} (h : Outc P Φ r) : ∃ v w, Φ v w := by
  cases r with
  | ok x w' =>
    cases x <;> simp only [Outc] at h
    case value v => exact ⟨_, _, h⟩
    case skip => exact ⟨_, _, h⟩
    case enter f args =>
      obtain ⟨_, w'', _, ⟨v, _, hv⟩, _⟩ := h []
      exact ⟨v, w'', hv⟩
    case round l f tmps assign body =>
      obtain ⟨_, w'', ⟨v, _, hv⟩, _⟩ := h.2 default [] (room_wide _)
      exact ⟨v, w'', hv⟩
  | halt x w' => simp only [Outc] at h

def Tri (P : Program) (e : EnvF) (o : Oper) (N : List Ent) (R : Value → List Ent → Prop) : Prop :=
  ∀ σ F w, Sat σ w (N ++ F) → Outc P (fun v w' => ∃ N', R v N' ∧ Sat σ w' (N' ++ F)) ((execOp (evf e) o).run P w)

/-- How an operation goes. -/
inductive Mode where
  | skip
  | quiet (v : Value)
  | quietV (v : Value)
  | alloc (ob : Obj) (mk : Nat → Value)
  | loud (N : List Ent) (R : Value → List Ent → Prop)
  | bar (N : List Ent) (R : Value → List Ent → Prop)

def ModeOk (P : Program) (ops : Array Oper) (bars : Bool) (o : Oper) (e : EnvF) (St V : List Ent) : Mode → Prop
  | .skip => wants ops o e = some false
  | .quiet v => wants ops o e = some true ∧ knows e o ∧ (kindOf o.op).quiet = true ∧
      ((∀ w, (execOp (evf e) o).run P w = .ok (.value v) w) ∨ kindOf o.op = .load ∧ ∀ σ F w, Sat σ w (St ++ F) → (execOp (evf e) o).run P w = .ok (.value v) w)
  | .quietV v => wants ops o e = some true ∧ knows e o ∧ kindOf o.op = .load ∧ bars = true ∧ ∀ σ F w, Sat σ w (St ++ V ++ F) → (execOp (evf e) o).run P w = .ok (.value v) w
  | .alloc ob mk => wants ops o e = some true ∧ knows e o ∧ kindOf o.op = .alloc ∧ ∀ w, (execOp (evf e) o).run P w = .ok (.value (mk w.heap.size)) (w.alloc ob)
  | .loud N R => wants ops o e = some true ∧ knows e o ∧ kindOf o.op = .loud ∧ Tri P e o N R
  | .bar N R => wants ops o e = some true ∧ knows e o ∧ kindOf o.op = .loud ∧ bars = true ∧ Tri P e o N R

def Goes (o : Oper) (next : EnvF → List Ent → List Ent → Prop) (e : EnvF) (St V : List Ent) : Mode → Prop
  | .skip => next (upd e o.dst undef) St V
  | .quiet v => next (upd e o.dst v) St V
  | .quietV v => next (upd e o.dst v) St V
  | .alloc ob mk => ∀ b, next (upd e o.dst (mk b)) St ((b, pts b ob) :: V)
  | .loud N R => ∃ M, V.Perm (N ++ M) ∧ ∀ v N', R v N' → next (upd e o.dst v) St (N' ++ M)
  | .bar N R => ∃ M, (St ++ V).Perm (N ++ M) ∧ ∀ v N', R v N' → ∃ St' V', (St' ++ V').Perm (N' ++ M) ∧ next (upd e o.dst v) St' V'

def Live (St V : List Ent) : Prop := ∃ σ F w, Sat σ w (St ++ V ++ F)

/-- The walk: 'bars i': may operation i turn what others read? -/
def SW (P : Program) (ops : Array Oper) (n : Nat) (bars : Nat → Bool) (K : EnvF → List Ent → List Ent → Prop) : List (Nat × Oper) → EnvF → List Ent → List Ent → Prop
  | [], e, St, V => Live St V → K e St V
  | (i, o) :: l, e, St, V => Live St V → fits n o = true ∧ ∃ m, ModeOk P ops (bars i) o e St V m ∧ Goes o (SW P ops n bars K l) e St V m

section
variable {P : Program} {ops : Array Oper} {n : Nat} {bars : Nat → Bool} {K : EnvF → List Ent → List Ent → Prop}

theorem Live.perm {St V V' : List Ent} (p : V.Perm V') (h : Live St V) : Live St V' := by
  obtain ⟨σ, F, w, hs⟩ := h
  exact ⟨σ, F, w, hs.perm ((p.append_left St).append_right F)⟩

theorem ModeOk.permV {b : Bool} {o : Oper} {e : EnvF} {St V V' : List Ent} {m : Mode} (p : V.Perm V') (h : ModeOk P ops b o e St V m) : ModeOk P ops b o e St V' m := by
  cases m with
  | quietV v =>
    obtain ⟨h1, h2, h3, h4, h5⟩ := h
    exact ⟨h1, h2, h3, h4, fun σ F w hs => h5 σ F w (hs.perm ((p.symm.append_left St).append_right F))⟩
  | _ => exact h

theorem SW.permV (hK : ∀ e St V V', V.Perm V' → K e St V → K e St V') : ∀ (l : List (Nat × Oper)) (e : EnvF) (St V V' : List Ent), V.Perm V' → SW P ops n bars K l e St V → SW P ops n bars K l e St V' := by
  intro l
  induction l with
  | nil => intro e St V V' p h hl; exact hK _ _ _ _ p (h (hl.perm p.symm))
  | cons x l ih =>
    obtain ⟨i, o⟩ := x
    intro e St V V' p h hl
    obtain ⟨hf, m, hm, hg⟩ := h (hl.perm p.symm)
    refine ⟨hf, m, hm.permV p, ?_⟩
    cases m with
    | skip => exact ih _ _ _ _ p hg
    | quiet v => exact ih _ _ _ _ p hg
    | quietV v => exact ih _ _ _ _ p hg
    | alloc ob mk => exact fun b => ih _ _ _ _ (p.cons _) (hg b)
    | loud N R => obtain ⟨M, q, hh⟩ := hg; exact ⟨M, p.symm.trans q, hh⟩
    | bar N R => obtain ⟨M, q, hh⟩ := hg; exact ⟨M, (p.symm.append_left St).trans q, hh⟩

/-! ### One step, in a world -/
theorem wpIn_exec {ro : Option Nat} {o : Oper} {a : Act} {w : World} {K : Act → World → Prop} {Q : Exit → Act → World → Prop} (hs : notSel o.op = true) (h : o.uponIn (FW ro) 0 P a K Q ((execOp a.eval o).run P w)) : o.wpIn (FW ro) 0 P a w K Q := by
  refine ⟨fun _ _ => trivial, ?_⟩
  rw [Oper.semAt_eq _ _ _ (fun c hc => by rw [hc] at hs; cases hs)]
  exact h
theorem step_wp {ro : Option Nat} {o : Oper} {b : Bool} {next : EnvF → List Ent → List Ent → Prop} {e : EnvF} {St V : List Ent} {m : Mode} (hf : fits n o = true) (hm : ModeOk P ops b o e St V m) (hg : Goes o next e St V m)
    {σ : Str} {F : List Ent} {a : Act} {w : World} (ha : Agree n a e) (hs : Sat σ w (St ++ V ++ F)) {K' : Act → World → Prop} {Q : Exit → Act → World → Prop}
    (hK : ∀ e' St' V' a' w', next e' St' V' → Agree n a' e' → Sat σ w' (St' ++ V' ++ F) → K' a' w') :
    if Region.wanted o (yielded ops a.tmps) then o.wpIn (FW ro) 0 P a w K' Q else (∀ f, o.about P w a.eval = some f → (FW ro).fn f) ∧ K' (a.put o.dst undef) w := by
  have hsel : notSel o.op = true := by simp only [fits, Bool.and_eq_true] at hf; exact hf.1
  cases m with
  | skip =>
    rw [wants_wanted ha hm]
    exact ⟨fun _ _ => trivial, hK _ _ _ _ _ hg (ha.put hf _) hs⟩
  | quiet v =>
    obtain ⟨h1, h2, _, h4⟩ := hm
    rw [wants_wanted ha h1, if_pos rfl]
    have hr : (execOp (evf e) o).run P w = .ok (.value v) w := by
      rcases h4 with h4 | ⟨_, h4⟩
      · exact h4 w
      · exact h4 σ (V ++ F) w (by rw [List.append_assoc] at hs; exact hs)
    refine wpIn_exec hsel ?_
    rw [ha.exec h2 hsel, hr]
    exact hK _ _ _ _ _ hg (ha.put hf _) hs
  | quietV v =>
    obtain ⟨h1, h2, _, _, h4⟩ := hm
    rw [wants_wanted ha h1, if_pos rfl]
    refine wpIn_exec hsel ?_
    rw [ha.exec h2 hsel, h4 σ F w hs]
    exact hK _ _ _ _ _ hg (ha.put hf _) hs
  | alloc ob mk =>
    obtain ⟨h1, h2, _, h4⟩ := hm
    rw [wants_wanted ha h1, if_pos rfl]
    refine wpIn_exec hsel ?_
    rw [ha.exec h2 hsel, h4 w]
    refine hK _ _ _ _ _ (hg w.heap.size) (ha.put hf _) ?_
    refine (hs.alloc ob).perm ?_
    simp only [List.append_assoc, List.cons_append]
    exact List.perm_middle.symm
  | loud N R =>
    obtain ⟨h1, h2, _, h4⟩ := hm
    obtain ⟨M, p, hg⟩ := hg
    rw [wants_wanted ha h1, if_pos rfl]
    refine wpIn_exec hsel ?_
    rw [ha.exec h2 hsel]
    have hs' : Sat σ w (N ++ (M ++ St ++ F)) := hs.perm (by
      have e1 : (St ++ V ++ F).Perm (V ++ (St ++ F)) := by
        rw [← List.append_assoc]
        exact (List.perm_append_comm).append_right F
      refine e1.trans ((p.append_right _).trans ?_)
      simp only [List.append_assoc]
      exact List.Perm.refl _)
    refine (h4 σ _ w hs').upon fun v w' ⟨N', hR, hs2⟩ => hK _ _ _ _ _ (hg v N' hR) (ha.put hf _) (hs2.perm ?_)
    rw [← List.append_assoc, ← List.append_assoc, ← List.append_assoc]
    refine List.Perm.append_right F ?_
    rw [List.append_assoc St]
    exact List.perm_append_comm
  | bar N R =>
    obtain ⟨h1, h2, _, _, h4⟩ := hm
    obtain ⟨M, p, hg⟩ := hg
    rw [wants_wanted ha h1, if_pos rfl]
    refine wpIn_exec hsel ?_
    rw [ha.exec h2 hsel]
    have hs' : Sat σ w (N ++ (M ++ F)) := hs.perm (by
      rw [← List.append_assoc N]
      exact p.append_right F)
    refine (h4 σ _ w hs').upon fun v w' ⟨N', hR, hs2⟩ => ?_
    obtain ⟨St', V', q, hn⟩ := hg v N' hR
    refine hK _ _ _ _ _ hn (ha.put hf _) (hs2.perm ?_)
    rw [← List.append_assoc]
    exact q.symm.append_right F

/-- A region in the text's order. -/
theorem sw_list {ro : Option Nat} {Q : Exit → Act → World → Prop} {σ : Str} {F : List Ent}
    (hK : ∀ e St V a w, K e St V → Agree n a e → Sat σ w (St ++ V ++ F) → Q .normal a w) : ∀ (l : List Oper) (k : Nat) (e : EnvF) (St V : List Ent) (a : Act) (w : World),
    SW P ops n bars K ((l.zipIdx k).map fun p => (p.2, p.1)) e St V → Agree n a e → Sat σ w (St ++ V ++ F) → wpListIn (FW ro) 0 P ops Q l a w := by
  intro l
  induction l with
  | nil => intro k e St V a w h ha hs; exact hK _ _ _ _ _ (h ⟨σ, F, w, hs⟩) ha hs
  | cons o l ih =>
    intro k e St V a w h ha hs
    obtain ⟨hf, m, hm, hg⟩ := h ⟨σ, F, w, hs⟩
    refine wpListIn_step fun K' hK' => ?_
    exact step_wp hf hm hg ha hs fun e' St' V' a' w' hn ha' hs' => hK' _ _ (ih _ _ _ _ _ _ hn ha' hs')
end

#print axioms sw_list
end Go.Sq
