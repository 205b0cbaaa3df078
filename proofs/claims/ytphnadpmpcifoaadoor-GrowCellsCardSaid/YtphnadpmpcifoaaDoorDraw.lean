/-
  The walk of a region in the text's order serves every order that its edges allow.
-/
import Derived.Test.YtphnadpmpcifoaaDoorReg
namespace Go.Sq

theorem upd_comm (e : EnvF) {d d' : Option Tmp} (h : ∀ t, d = some t → d' ≠ some t) (v u : Value) : upd (upd e d v) d' u = upd (upd e d' u) d v := by
  cases d with
  | none => rfl
  | some t =>
    cases d' with
    | none => rfl
    | some t' =>
      have hne : t' ≠ t := fun x => h t rfl (by rw [x])
      funext k
      simp only [upd]
      by_cases h1 : k = t' <;> by_cases h2 : k = t
      · exact absurd (h1.symm.trans h2) hne
      · simp [h1, hne]
      · simp [h1, h2, Ne.symm hne]
      · simp [h1, h2]

section
variable {P : Program} {ops : Array Oper} {n : Nat} {bars : Nat → Bool} {K : EnvF → List Ent → List Ent → Prop} {e : EnvF} {St V : List Ent}

theorem upd_ne {d : Option Tmp} {v : Value} {t : Tmp} (h : d ≠ some t) : upd e d v t = e t := by
  cases d with
  | none => rfl
  | some d => simp only [upd]; rw [if_neg (fun x => h (by rw [x]))]

theorem wants_upd {q : Oper} {d : Option Tmp} {v : Value} (h : ∀ t, d = some t → t ∉ q.looksAt ops) : wants ops q (upd e d v) = wants ops q e := by
  unfold wants
  cases hg : q.guard with
  | none => rfl
  | some gw =>
    obtain ⟨g, want⟩ := gw
    simp only
    cases hd : (ops[g]?).bind (·.dst) with
    | none => rfl
    | some t =>
      have : upd e d v t = e t := upd_ne fun x => h t x (by simp [Oper.looksAt, hg, hd])
      simp only [this]

theorem knows_upd {q : Oper} {d : Option Tmp} {v : Value} (h : ∀ t, d = some t → t ∉ q.looksAt ops) : knows (upd e d v) q ↔ knows e q := by
  have : ∀ t, Operand.tmp t ∈ q.op.operands → upd e d v t = e t := fun t ht => upd_ne fun x => h t x (by
    unfold Oper.looksAt
    exact List.mem_append_left _ (List.mem_filterMap.2 ⟨.tmp t, by simpa using ht, rfl⟩))
  exact ⟨fun k t ht => by rw [← this t ht]; exact k t ht, fun k t ht => by rw [this t ht]; exact k t ht⟩

theorem exec_upd {q : Oper} {d : Option Tmp} {v : Value} (h : ∀ t, d = some t → t ∉ q.looksAt ops) (hs : notSel q.op = true) : execOp (evf (upd e d v)) q = execOp (evf e) q :=
  execOp_congr q (fun cs b x => by rw [x] at hs; cases hs) fun x hx => by
    cases x with
    | tmp t =>
      have : upd e d v t = e t := upd_ne fun y => h t y (by
        unfold Oper.looksAt
        exact List.mem_append_left _ (List.mem_filterMap.2 ⟨.tmp t, by simpa using hx, rfl⟩))
      simp [evf, this]
    | _ => rfl

theorem modeOk_upd {q : Oper} {d : Option Tmp} {v : Value} {b : Bool} (h : ∀ t, d = some t → t ∉ q.looksAt ops) (hs : notSel q.op = true) (m : Mode) :
    ModeOk P ops b q (upd e d v) St V m ↔ ModeOk P ops b q e St V m := by
  cases m <;> simp only [ModeOk, wants_upd h, knows_upd h, exec_upd h hs, Tri]

theorem ModeOk.anySt {q : Oper} {b : Bool} {m : Mode} {St' V' : List Ent} (h : ModeOk P ops b q e St V m) (hl : kindOf q.op ≠ .load) : ModeOk P ops b q e St' V' m := by
  cases m with
  | quietV v => exact absurd h.2.2.1 hl
  | quiet v =>
    obtain ⟨a, c, d, x⟩ := h
    exact ⟨a, c, d, x.elim .inl fun y => absurd y.1 hl⟩
  | _ => exact h

theorem push_inj {w : World} {a b : Obj} (h : w.alloc a = w.alloc b) : a = b := by
  have : (w.heap.push a) = w.heap.push b := congrArg World.heap h
  exact (Array.push_inj_right).1 this

theorem ModeOk.anyV {q : Oper} {b : Bool} {m : Mode} {V' : List Ent} (h : ModeOk P ops b q e St V m) (hl : b = true → kindOf q.op ≠ .load) : ModeOk P ops b q e St V' m := by
  cases m with
  | quietV v => exact absurd h.2.2.1 (hl h.2.2.2.1)
  | _ => exact h

/-- Of an operation that writes nothing old there is one way to go. -/
theorem mode_unique {q : Oper} {b : Bool} {m m' : Mode} (hq : kindOf q.op ≠ .loud) (hb : b = true → kindOf q.op ≠ .load) {σ : Str} {F : List Ent} {w : World} {V' : List Ent} (hs : Sat σ w (St ++ F)) (h : ModeOk P ops b q e St V m) (h' : ModeOk P ops b q e St V' m') : m = m' := by
  cases m with
  | skip =>
    cases m' with
    | skip => rfl
    | quiet v => exact absurd (h.symm.trans h'.1) (by simp)
    | quietV v => exact absurd h'.2.2.1 (hb h'.2.2.2.1)
    | alloc ob mk => exact absurd (h.symm.trans h'.1) (by simp)
    | loud N R => exact absurd h'.2.2.1 hq
    | bar N R => exact absurd h'.2.2.1 hq
  | quiet v =>
    cases m' with
    | skip => exact absurd (h'.symm.trans h.1) (by simp)
    | quiet v' =>
      obtain ⟨_, _, _, x⟩ := h
      obtain ⟨_, _, _, y⟩ := h'
      have rx : (execOp (evf e) q).run P w = .ok (.value v) w := x.elim (fun z => z w) fun z => z.2 σ F w hs
      have ry : (execOp (evf e) q).run P w = .ok (.value v') w := y.elim (fun z => z w) fun z => z.2 σ F w hs
      rw [rx] at ry
      simp at ry
      rw [ry]
    | quietV v => exact absurd h'.2.2.1 (hb h'.2.2.2.1)
    | alloc ob mk => have := h.2.2.1; rw [h'.2.2.1] at this; cases this
    | loud N R => exact absurd h'.2.2.1 hq
    | bar N R => exact absurd h'.2.2.1 hq
  | quietV v => exact absurd h.2.2.1 (hb h.2.2.2.1)
  | alloc ob mk =>
    cases m' with
    | skip => exact absurd (h'.symm.trans h.1) (by simp)
    | quiet v => have := h'.2.2.1; rw [h.2.2.1] at this; cases this
    | quietV v => exact absurd h'.2.2.1 (hb h'.2.2.2.1)
    | alloc ob' mk' =>
      obtain ⟨_, _, _, x⟩ := h
      obtain ⟨_, _, _, y⟩ := h'
      have e1 : ob = ob' := by
        have := (x w).symm.trans (y w)
        simp only [Result.ok.injEq] at this
        exact push_inj this.2
      have e2 : mk = mk' := by
        funext k
        let w0 : World := { w with heap := Array.replicate k (.cells #[] 0) }
        have := (x w0).symm.trans (y w0)
        simp only [Result.ok.injEq, Next.value.injEq] at this
        simpa [w0] using this.1
      rw [e1, e2]
    | loud N R => exact absurd h'.2.2.1 hq
    | bar N R => exact absurd h'.2.2.1 hq
  | loud N R => exact absurd h.2.2.1 hq
  | bar N R => exact absurd h.2.2.1 hq

theorem Live.drop {A : Ent} (h : Live St (A :: V)) : Live St V := by
  obtain ⟨σ, F, w, hs⟩ := h
  refine ⟨σ, F, w, (hs.perm ?_).tail (A := A)⟩
  simp only [List.append_assoc, List.cons_append]
  exact List.perm_middle

theorem Live.sat (h : Live St V) : ∃ σ F w, Sat σ w (St ++ F) := by
  obtain ⟨σ, F, w, hs⟩ := h
  exact ⟨σ, V ++ F, w, by rw [← List.append_assoc]; exact hs⟩

theorem sw_live {l : List (Nat × Oper)} (h : Live St V → SW P ops n bars K l e St V) : SW P ops n bars K l e St V := by
  cases l <;> exact fun hl => h hl hl

/-- Two neighbours that may come in either order. -/
theorem sw_swap (hK : ∀ e St V V', V.Perm V' → K e St V → K e St V') {i j : Nat} {o q : Oper} {l : List (Nat × Oper)} (hap : o.apart ops q = true)
    (k1 : ¬ (kindOf o.op = .loud ∧ kindOf q.op = .loud)) (k2 : ¬ (kindOf o.op = .alloc ∧ kindOf q.op = .loud)) (b1 : bars i = true → kindOf q.op ≠ .load) (b2 : bars j = true → kindOf o.op ≠ .load)
    (b3 : bars j = true → kindOf q.op = .load → kindOf o.op = .pure) (b4 : bars i = true → kindOf o.op = .load → kindOf q.op = .pure)
    (h : SW P ops n bars K ((i, o) :: (j, q) :: l) e St V) : SW P ops n bars K ((j, q) :: (i, o) :: l) e St V := by
  obtain ⟨a1, a2, a3⟩ := Oper.apart_spec hap
  intro hl
  obtain ⟨fo, m, hm, hg⟩ := h hl
  have so : notSel o.op = true := by simp only [fits, Bool.and_eq_true] at fo; exact fo.1
  have two : ∀ (v u : Value), upd (upd e o.dst v) q.dst u = upd (upd e q.dst u) o.dst v := fun v u => upd_comm e a2 v u
  -- o has one outcome: v, and leaves St, V
  have single : ∀ v, SW P ops n bars K ((j, q) :: l) (upd e o.dst v) St V → (∀ (u : Value) (St' V' : List Ent), SW P ops n bars K l (upd (upd e o.dst v) q.dst u) St' V' → (∀ b, bars j = b → b = true ∨ St' = St) → (kindOf q.op = .pure → St' = St ∧ V' = V) →
      SW P ops n bars K ((i, o) :: l) (upd e q.dst u) St' V') → fits n q = true ∧ ∃ m, ModeOk P ops (bars j) q e St V m ∧ Goes q (SW P ops n bars K ((i, o) :: l)) e St V m := by
    intro v hv hn
    obtain ⟨fq, m2, hm2, hg2⟩ := hv hl
    have sq : notSel q.op = true := by simp only [fits, Bool.and_eq_true] at fq; exact fq.1
    refine ⟨fq, m2, (modeOk_upd a1 sq m2).1 hm2, ?_⟩
    cases m2 with
    | skip => exact hn _ _ _ hg2 (fun _ _ => .inr rfl) (fun _ => ⟨rfl, rfl⟩)
    | quiet u => exact hn _ _ _ hg2 (fun _ _ => .inr rfl) (fun _ => ⟨rfl, rfl⟩)
    | quietV u => exact hn _ _ _ hg2 (fun _ _ => .inr rfl) (fun _ => ⟨rfl, rfl⟩)
    | alloc ob mk => exact fun b => hn _ _ _ (hg2 b) (fun _ _ => .inr rfl) (fun x => by have := hm2.2.2.1; rw [x] at this; cases this)
    | loud N R => obtain ⟨M, p, hh⟩ := hg2; exact ⟨M, p, fun u N' hR => hn _ _ _ (hh u N' hR) (fun _ _ => .inr rfl) (fun x => by have := hm2.2.2.1; rw [x] at this; cases this)⟩
    | bar N R =>
      obtain ⟨M, p, hh⟩ := hg2
      refine ⟨M, p, fun u N' hR => ?_⟩
      obtain ⟨St', V', p', hx⟩ := hh u N' hR
      exact ⟨St', V', p', hn _ _ _ hx (fun b hb => .inl (hb ▸ hm2.2.2.2.1)) (fun x => by have := hm2.2.2.1; rw [x] at this; cases this)⟩
  cases m with
  | skip =>
    exact single _ hg fun u St' V' hx _ _ _ => ⟨fo, .skip, (wants_upd a3).trans hm, by show SW P ops n bars K l (upd (upd e q.dst u) o.dst undef) St' V'; rw [← two]; exact hx⟩
  | quiet v =>
    refine single _ hg fun u St' V' hx hb _ _ => ⟨fo, .quiet v, ?_, by show SW P ops n bars K l (upd (upd e q.dst u) o.dst v) St' V'; rw [← two]; exact hx⟩
    refine (modeOk_upd a3 so _).2 ?_
    rcases hb _ rfl with hb | hb
    · exact hm.anySt (b2 hb)
    · rw [hb]; exact hm
  | quietV v =>
    refine single _ hg fun u St' V' hx _ hb _ => ⟨fo, .quietV v, ?_, by show SW P ops n bars K l (upd (upd e q.dst u) o.dst v) St' V'; rw [← two]; exact hx⟩
    refine (modeOk_upd a3 so _).2 ?_
    obtain ⟨e1, e2⟩ := hb (b4 hm.2.2.2.1 hm.2.2.1)
    rw [e1, e2]; exact hm
  | alloc ob mk =>
    have hq : kindOf q.op ≠ .loud := fun x => k2 ⟨hm.2.2.1, x⟩
    have hqb : bars j = true → kindOf q.op ≠ .load := fun x y => by have := b3 x y; rw [hm.2.2.1] at this; cases this
    obtain ⟨σ, F, w, hs⟩ := hl
    have hlive : Live St ((w.heap.size, pts w.heap.size ob) :: V) := ⟨σ, F, w.alloc ob, (hs.alloc ob).perm (by
      simp only [List.append_assoc, List.cons_append]
      exact List.perm_middle.symm)⟩
    obtain ⟨fq, m2, hm2, _⟩ := hg w.heap.size hlive
    have sq : notSel q.op = true := by simp only [fits, Bool.and_eq_true] at fq; exact fq.1
    have hm2' := (modeOk_upd a1 sq m2).1 hm2
    refine ⟨fq, m2, hm2'.anyV hqb, ?_⟩
    have all : ∀ b, Live St ((b, pts b ob) :: V) → Goes q (SW P ops n bars K l) (upd e o.dst (mk b)) St ((b, pts b ob) :: V) m2 := fun b hlb => by
      obtain ⟨_, m3, hm3, hg3⟩ := hg b hlb
      obtain ⟨σ', F', w', hs'⟩ := hlb.sat
      have := mode_unique hq hqb hs' hm2' ((modeOk_upd a1 sq m3).1 hm3)
      rw [this]; exact hg3
    have om : ∀ u, ∀ V', ModeOk P ops (bars i) o (upd e q.dst u) St V' (.alloc ob mk) := fun u _ => (modeOk_upd a3 so _).2 hm
    cases m2 with
    | skip => exact fun _ => ⟨fo, _, om _ _, fun b => sw_live fun hb => by rw [← two]; exact all b hb⟩
    | quietV u => exact absurd hm2.2.2.1 (hqb hm2.2.2.2.1)
    | quiet u => exact fun _ => ⟨fo, _, om _ _, fun b => sw_live fun hb => by rw [← two]; exact all b hb⟩
    | alloc ob2 mk2 =>
      refine fun b2 => fun _ => ⟨fo, _, om _ _, fun b => sw_live fun hb => ?_⟩
      rw [← two]
      have hb' : Live St ((b2, pts b2 ob2) :: (b, pts b ob) :: V) := hb.perm (List.Perm.swap _ _ _)
      exact SW.permV hK _ _ _ _ _ (List.Perm.swap _ _ _) (all b hb'.drop b2)
    | loud N R => exact absurd hm2.2.2.1 hq
    | bar N R => exact absurd hm2.2.2.1 hq
  | loud N R =>
    have hq : kindOf q.op ≠ .loud := fun x => k1 ⟨hm.2.2.1, x⟩
    have hqb : bars j = true → kindOf q.op ≠ .load := fun x y => by have := b3 x y; rw [hm.2.2.1] at this; cases this
    obtain ⟨M, p, hg⟩ := hg
    have out : ∃ v N', R v N' ∧ Live St (N' ++ M) := by
      obtain ⟨σ, F, w, hs⟩ := hl
      have hs' : Sat σ w (N ++ (M ++ St ++ F)) := hs.perm (by
        have e1 : (St ++ V ++ F).Perm (V ++ (St ++ F)) := by
          rw [← List.append_assoc]
          exact (List.perm_append_comm).append_right F
        refine e1.trans ((p.append_right _).trans ?_)
        simp only [List.append_assoc]
        exact List.Perm.refl _)
      obtain ⟨v, w', N', hR, hs2⟩ := (hm.2.2.2 σ _ w hs').some
      refine ⟨v, N', hR, σ, F, w', hs2.perm ?_⟩
      rw [← List.append_assoc, ← List.append_assoc, ← List.append_assoc]
      refine List.Perm.append_right F ?_
      rw [List.append_assoc St]
      exact List.perm_append_comm
    obtain ⟨v0, N0, hR0, hl0⟩ := out
    obtain ⟨fq, m2, hm2, _⟩ := hg v0 N0 hR0 hl0
    have sq : notSel q.op = true := by simp only [fits, Bool.and_eq_true] at fq; exact fq.1
    have hm2' := (modeOk_upd a1 sq m2).1 hm2
    refine ⟨fq, m2, hm2'.anyV hqb, ?_⟩
    have all : ∀ v N', R v N' → Live St (N' ++ M) → Goes q (SW P ops n bars K l) (upd e o.dst v) St (N' ++ M) m2 := fun v N' hR hlb => by
      obtain ⟨_, m3, hm3, hg3⟩ := hg v N' hR hlb
      obtain ⟨σ', F', w', hs'⟩ := hlb.sat
      have := mode_unique hq hqb hs' hm2' ((modeOk_upd a1 sq m3).1 hm3)
      rw [this]; exact hg3
    have om : ∀ u, ∀ V', ModeOk P ops (bars i) o (upd e q.dst u) St V' (.loud N R) := fun u _ => (modeOk_upd a3 so _).2 hm
    cases m2 with
    | skip => exact fun _ => ⟨fo, _, om _ _, M, p, fun v N' hR => sw_live fun hb => by rw [← two]; exact all v N' hR hb⟩
    | quietV u => exact absurd hm2.2.2.1 (hqb hm2.2.2.2.1)
    | quiet u => exact fun _ => ⟨fo, _, om _ _, M, p, fun v N' hR => sw_live fun hb => by rw [← two]; exact all v N' hR hb⟩
    | alloc ob2 mk2 =>
      refine fun b2 => fun _ => ⟨fo, _, om _ _, (b2, pts b2 ob2) :: M, (p.cons _).trans List.perm_middle.symm, fun v N' hR => sw_live fun hb => ?_⟩
      rw [← two]
      have hb' : Live St ((b2, pts b2 ob2) :: (N' ++ M)) := hb.perm List.perm_middle
      exact SW.permV hK _ _ _ _ _ List.perm_middle.symm (all v N' hR hb'.drop b2)
    | loud N R => exact absurd hm2.2.2.1 hq
    | bar N R => exact absurd hm2.2.2.1 hq
  | bar N R =>
    have hq : kindOf q.op ≠ .loud := fun x => k1 ⟨hm.2.2.1, x⟩
    have hqb : bars j = true → kindOf q.op ≠ .load := fun x y => by have := b3 x y; rw [hm.2.2.1] at this; cases this
    have hq2 : kindOf q.op ≠ .load := b1 hm.2.2.2.1
    obtain ⟨M, p, hg⟩ := hg
    have out : ∃ v N', R v N' ∧ ∀ St' V', (St' ++ V').Perm (N' ++ M) → Live St' V' := by
      obtain ⟨σ, F, w, hs⟩ := hl
      have hs' : Sat σ w (N ++ (M ++ F)) := hs.perm (by
        rw [← List.append_assoc N]
        exact p.append_right F)
      obtain ⟨v, w', N', hR, hs2⟩ := (hm.2.2.2.2 σ _ w hs').some
      refine ⟨v, N', hR, fun St' V' x => ⟨σ, F, w', hs2.perm ?_⟩⟩
      rw [← List.append_assoc]
      exact x.symm.append_right F
    obtain ⟨v0, N0, hR0, hl0⟩ := out
    obtain ⟨St0, V0, p0, hx0⟩ := hg v0 N0 hR0
    obtain ⟨fq, m2, hm2, _⟩ := hx0 (hl0 _ _ p0)
    have sq : notSel q.op = true := by simp only [fits, Bool.and_eq_true] at fq; exact fq.1
    have hm2' := (modeOk_upd a1 sq m2).1 hm2
    refine ⟨fq, m2, hm2'.anySt hq2, ?_⟩
    have all : ∀ v St' V', SW P ops n bars K ((j, q) :: l) (upd e o.dst v) St' V' → Live St' V' → Goes q (SW P ops n bars K l) (upd e o.dst v) St' V' m2 := fun v St' V' hx hlb => by
      obtain ⟨_, m3, hm3, hg3⟩ := hx hlb
      obtain ⟨σ', F', w', hs'⟩ := hlb.sat
      have := mode_unique hq hqb hs' (hm2'.anySt (V' := V') hq2) ((modeOk_upd a1 sq m3).1 hm3)
      rw [this]; exact hg3
    have om : ∀ u, ∀ V', ModeOk P ops (bars i) o (upd e q.dst u) St V' (.bar N R) := fun u _ => (modeOk_upd a3 so _).2 hm
    cases m2 with
    | skip =>
      refine fun _ => ⟨fo, _, om _ _, M, p, fun v N' hR => ?_⟩
      obtain ⟨St', V', p', hx⟩ := hg v N' hR
      exact ⟨St', V', p', sw_live fun hb => by rw [← two]; exact all _ _ _ hx hb⟩
    | quietV u => exact absurd hm2.2.2.1 (hqb hm2.2.2.2.1)
    | quiet u =>
      refine fun _ => ⟨fo, _, om _ _, M, p, fun v N' hR => ?_⟩
      obtain ⟨St', V', p', hx⟩ := hg v N' hR
      exact ⟨St', V', p', sw_live fun hb => by rw [← two]; exact all _ _ _ hx hb⟩
    | alloc ob2 mk2 =>
      refine fun b2 => fun _ => ⟨fo, _, om _ _, (b2, pts b2 ob2) :: M, ?_, fun v N' hR => ?_⟩
      · exact List.perm_middle.trans ((p.cons _).trans List.perm_middle.symm)
      · obtain ⟨St', V', p', hx⟩ := hg v N' hR
        refine ⟨St', (b2, pts b2 ob2) :: V', List.perm_middle.trans ((p'.cons _).trans List.perm_middle.symm), sw_live fun hb => ?_⟩
        rw [← two]
        exact all _ _ _ hx hb.drop b2
    | loud N R => exact absurd hm2.2.2.1 hq
    | bar N R => exact absurd hm2.2.2.1 hq

/-! ### Which pairs may change places -/
/-- i comes ahead of j by the edges. -/
def ordB (ms : Array Nat) (i j : Nat) : Bool := (ms.getD j 0).testBit i
def loudish (k : Kind) : Bool := match k with | .load | .loud => true | _ => false
def kindAt (ops : Array Oper) (i : Nat) : Kind := match ops[i]? with | some o => kindOf o.op | none => .pure
/-- Operation i is in order with every load and every loud one. -/
def barAt (ops : Array Oper) (ms : Array Nat) (i : Nat) : Bool :=
  (List.range ops.size).all fun j => j == i || !(loudish (kindAt ops j) || (kindAt ops i == .load && kindAt ops j == .alloc)) || ordB ms i j || ordB ms j i
def pairOk (ops : Array Oper) (i j : Nat) : Bool :=
  match ops[i]?, ops[j]? with
  | some o, some q => o.apart ops q && !(kindOf o.op == .loud && kindOf q.op == .loud) && !(kindOf o.op == .alloc && kindOf q.op == .loud)
  | _, _ => false
def drawOkWith (ops : Array Oper) (ms : Array Nat) : Bool :=
  (List.range ops.size).all fun j =>
    (match ops[j]? with | some o => o.after.all fun e => !Region.binds .any e || Nat.blt e.on j | none => false) &&
    (List.range j).all fun i => ordB ms i j || pairOk ops i j
def drawOk (ops : Array Oper) : Bool := drawOkWith ops (Region.before ops)

inductive Path (ops : Array Oper) : Nat → Nat → Prop
  | direct {i : Nat} {o : Oper} {e : Edge} : ops[i]? = some o → e ∈ o.after → Region.binds .any e = true → Path ops e.on i
  | step {x i : Nat} {o : Oper} {e : Edge} : ops[i]? = some o → e ∈ o.after → Region.binds .any e = true → Path ops x e.on → Path ops x i

theorem before_sound (ops : Array Oper) {i j : Nat} (h : ordB (Region.before ops) i j = true) : Path ops i j := by
  have inner : ∀ (acc : Array Nat) (k : Nat) (o : Oper), ops[k]? = some o → (∀ j x, (acc.getD j 0).testBit x = true → Path ops x j) →
      ∀ (l : List Edge) (s : Nat), (∀ e ∈ l, e ∈ o.after) → (∀ x, s.testBit x = true → Path ops x k) →
      ∀ x, (l.foldl (fun s e => if Region.binds .any e then s ||| 2 ^ e.on ||| acc.getD e.on 0 else s) s).testBit x = true → Path ops x k := by
    intro acc k o ho hacc l
    induction l with
    | nil => intro s _ hs x hx; exact hs x hx
    | cons e l ih =>
      intro s hl hs x hx
      refine ih _ (fun e he => hl e (List.mem_cons_of_mem _ he)) ?_ x hx
      intro y hy
      dsimp only at hy
      split at hy
      · rename_i hb
        rw [Nat.testBit_or, Nat.testBit_or, Bool.or_eq_true, Bool.or_eq_true] at hy
        rcases hy with (hy | hy) | hy
        · exact hs y hy
        · rw [Nat.testBit_two_pow] at hy
          have : e.on = y := by simpa using hy
          exact this ▸ Path.direct ho (hl e (List.mem_cons_self ..)) hb
        · exact Path.step ho (hl e (List.mem_cons_self ..)) hb (hacc _ _ hy)
      · exact hs y hy
  have outer : ∀ (l : List Oper) (acc : Array Nat), (∀ k, l[k]? = ops[acc.size + k]?) → (∀ j x, (acc.getD j 0).testBit x = true → Path ops x j) →
      ∀ j x, ((l.foldl (fun (acc : Array Nat) (o : Oper) => acc.push (o.after.toList.foldl (fun s e => if Region.binds .any e then s ||| 2 ^ e.on ||| acc.getD e.on 0 else s) 0)) acc).getD j 0).testBit x = true → Path ops x j := by
    intro l
    induction l with
    | nil => intro acc _ h j x hx; exact h j x hx
    | cons o l ih =>
      intro acc hl hacc j x hx
      refine ih _ ?_ ?_ j x hx
      · intro k
        have := hl (k + 1)
        simp only [List.getElem?_cons_succ] at this
        rw [this, Array.size_push]
        congr 1
        omega
      · intro j' x' hx'
        have ho : ops[acc.size]? = some o := by simpa using (hl 0).symm
        rw [Array.getD_eq_getD_getElem?] at hx'
        rw [Array.getElem?_push] at hx'
        split at hx'
        · rename_i e
          subst e
          exact inner acc acc.size o ho hacc o.after.toList 0 (fun e he => by simpa using he) (fun x h => by simp at h) x' (by simpa using hx')
        · exact hacc j' x' (by rw [Array.getD_eq_getD_getElem?]; exact hx')
  unfold ordB Region.before at h
  rw [← Array.foldl_toList] at h
  simp only [← Array.foldl_toList] at h
  exact outer ops.toList #[] (fun k => by simp) (fun j x h => by simp at h) j i h

/-- The operations that have not come up yet, in the text's order. -/
def Rem (ops : Array Oper) (listed : Array Bool) (l : List (Nat × Oper)) : Prop :=
  l.Pairwise (fun p q => p.1 < q.1) ∧ ∀ i o, (i, o) ∈ l ↔ ops[i]? = some o ∧ listed.getD i true = false
def Closed (ops : Array Oper) (listed : Array Bool) : Prop :=
  ∀ j o, ops[j]? = some o → listed.getD j false = true → ∀ e ∈ o.after, Region.binds .any e = true → listed.getD e.on false = true

theorem path_listed {listed : Array Bool} (hc : Closed ops listed) {x i : Nat} (p : Path ops x i) : ∀ {o : Oper}, ops[i]? = some o → (∀ e ∈ o.after, Region.binds .any e = true → listed.getD e.on false = true) → listed.getD x false = true := by
  induction p with
  | direct ho he hb => intro o' ho' hr; rw [ho] at ho'; cases ho'; exact hr _ he hb
  | step ho he hb p ih =>
    intro o' ho' hr
    rw [ho] at ho'; cases ho'
    have hl := hr _ he hb
    -- the edge's end is listed: so it is an operation, or nothing follows
    rename_i x i o e
    cases hq : ops[e.on]? with
    | some q => exact ih hq (fun e' he' hb' => hc e.on q hq hl e' he' hb')
    | none =>
      exfalso
      cases p with
      | direct ho2 _ _ => rw [hq] at ho2; cases ho2
      | step ho2 _ _ _ => rw [hq] at ho2; cases ho2

theorem Goes.mono {o : Oper} {next next' : EnvF → List Ent → List Ent → Prop} {m : Mode} (h : ∀ e St V, next e St V → next' e St V) (hg : Goes o next e St V m) : Goes o next' e St V m := by
  cases m with
  | skip => exact h _ _ _ hg
  | quiet v => exact h _ _ _ hg
  | quietV v => exact h _ _ _ hg
  | alloc ob mk => exact fun b => h _ _ _ (hg b)
  | loud N R => obtain ⟨M, p, hh⟩ := hg; exact ⟨M, p, fun v N' hR => h _ _ _ (hh v N' hR)⟩
  | bar N R =>
    obtain ⟨M, p, hh⟩ := hg
    refine ⟨M, p, fun v N' hR => ?_⟩
    obtain ⟨St', V', q, hx⟩ := hh v N' hR
    exact ⟨St', V', q, h _ _ _ hx⟩

theorem sw_bubble (hK : ∀ e St V V', V.Perm V' → K e St V → K e St V') {i : Nat} {o : Oper} {l2 : List (Nat × Oper)} : ∀ (l1 : List (Nat × Oper)) (e : EnvF) (St V : List Ent),
    (∀ x ∈ l1, x.2.apart ops o = true ∧ ¬ (kindOf x.2.op = .loud ∧ kindOf o.op = .loud) ∧ ¬ (kindOf x.2.op = .alloc ∧ kindOf o.op = .loud) ∧ (bars x.1 = true → kindOf o.op ≠ .load) ∧ (bars i = true → kindOf x.2.op ≠ .load) ∧ (bars i = true → kindOf o.op = .load → kindOf x.2.op = .pure) ∧ (bars x.1 = true → kindOf x.2.op = .load → kindOf o.op = .pure)) →
    SW P ops n bars K (l1 ++ (i, o) :: l2) e St V → SW P ops n bars K ((i, o) :: (l1 ++ l2)) e St V := by
  intro l1
  induction l1 with
  | nil => intro e St V _ h; exact h
  | cons x l1 ih =>
    intro e St V hx h
    obtain ⟨j, q⟩ := x
    obtain ⟨c1, c2, c3, c4, c5, c6, c7⟩ := hx _ (List.mem_cons_self ..)
    have h2 : SW P ops n bars K ((j, q) :: (i, o) :: (l1 ++ l2)) e St V := fun hl => by
      obtain ⟨hf, m, hm, hg⟩ := h hl
      exact ⟨hf, m, hm, hg.mono fun e St V => ih e St V fun x hx' => hx x (List.mem_cons_of_mem _ hx')⟩
    exact sw_swap hK c1 c2 c3 c4 c5 c6 c7 h2

theorem sw_any {ro : Option Nat} {Q : Exit → Act → World → Prop} {σ : Str} {F : List Ent} (hB : drawOk ops = true)
    (hK' : ∀ e St V V', V.Perm V' → K e St V → K e St V') (hK : ∀ e St V a w, K e St V → Agree n a e → Sat σ w (St ++ V ++ F) → Q .normal a w) :
    ∀ (fuel : Nat) (l : List (Nat × Oper)) (listed : Array Bool) (e : EnvF) (St V : List Ent) (a : Act) (w : World), l.length = fuel → listed.size = ops.size → Rem ops listed l → Closed ops listed →
      SW P ops n (barAt ops (Region.before ops)) K l e St V → Agree n a e → Sat σ w (St ++ V ++ F) → wpAnyIn (FW ro) 0 P .any ops Q fuel listed a w := by
  have hok : ∀ j o, ops[j]? = some o → (∀ e ∈ o.after, Region.binds .any e = true → e.on < j) ∧ ∀ i, i < j → ordB (Region.before ops) i j = true ∨ pairOk ops i j = true := by
    intro j o ho
    have hj := (Array.getElem?_eq_some_iff.1 ho).1
    have := (List.all_eq_true.1 hB) j (List.mem_range.2 hj)
    simp only [ho, Bool.and_eq_true, List.all_eq_true, List.mem_range, Bool.or_eq_true] at this
    refine ⟨fun e he hb => ?_, fun i hi => this.2 i hi⟩
    have := Array.all_eq_true_iff_forall_mem.1 this.1 e he
    simp only [hb, Bool.not_true, Bool.false_or] at this
    exact Nat.le_of_ble_eq_true this
  intro fuel
  induction fuel with
  | zero =>
    intro l listed e St V a w hl _ hR _ h ha hs
    have hnil : l = [] := List.eq_nil_of_length_eq_zero hl
    subst hnil
    refine ⟨?_, hK _ _ _ _ _ (h ⟨σ, F, w, hs⟩) ha hs⟩
    refine List.eq_nil_iff_forall_not_mem.2 fun i hi => ?_
    obtain ⟨h0, o, ho, _⟩ := mem_ready.1 hi
    exact absurd ((hR.2 i o).2 ⟨ho, h0⟩) (by simp)
  | succ fuel ih =>
    intro l listed e St V a w hl hsz hR hC h ha hs
    refine ⟨fun hnone => ?_, fun i hi => ?_⟩
    · exfalso
      cases l with
      | nil => simp at hl
      | cons p l =>
        obtain ⟨i, o⟩ := p
        obtain ⟨ho, hn⟩ := (hR.2 i o).1 (List.mem_cons_self ..)
        have : i ∈ Region.ready .any ops listed := mem_ready.2 ⟨hn, o, ho, fun e he hb => by
          have hlt := (hok i o ho).1 e he hb
          have hi := (Array.getElem?_eq_some_iff.1 ho).1
          cases hx : listed.getD e.on false with
          | true => rfl
          | false =>
            exfalso
            have hlt2 : e.on < ops.size := by omega
            have hq : ops[e.on]? = some ops[e.on] := Array.getElem?_eq_getElem hlt2
            have hm : (e.on, ops[e.on]) ∈ (i, o) :: l := (hR.2 _ _).2 ⟨hq, by
              have hls : e.on < listed.size := by omega
              simpa [Array.getD_eq_getD_getElem?, Array.getElem?_eq_getElem hls] using hx⟩
            rcases List.mem_cons.1 hm with hm | hm
            · have := congrArg Prod.fst hm; simp at this; omega
            · have := List.rel_of_pairwise_cons hR.1 hm; simp at this; omega⟩
        rw [hnone] at this
        cases this
    · obtain ⟨h0, o, ho, hall⟩ := mem_ready.1 hi
      have hm := (hR.2 i o).2 ⟨ho, h0⟩
      obtain ⟨l1, l2, rfl⟩ := List.append_of_mem hm
      have hpw := hR.1
      have before1 : ∀ x ∈ l1, x.1 < i := fun x hx => by
        have := List.pairwise_append.1 hpw
        exact this.2.2 x hx (i, o) (List.mem_cons_self ..)
      have conds : ∀ x ∈ l1, x.2.apart ops o = true ∧ ¬ (kindOf x.2.op = .loud ∧ kindOf o.op = .loud) ∧ ¬ (kindOf x.2.op = .alloc ∧ kindOf o.op = .loud) ∧ (barAt ops (Region.before ops) x.1 = true → kindOf o.op ≠ .load) ∧ (barAt ops (Region.before ops) i = true → kindOf x.2.op ≠ .load) ∧ (barAt ops (Region.before ops) i = true → kindOf o.op = .load → kindOf x.2.op = .pure) ∧ (barAt ops (Region.before ops) x.1 = true → kindOf x.2.op = .load → kindOf o.op = .pure) := by
        intro x hx
        obtain ⟨j, q⟩ := x
        obtain ⟨hq, hjn⟩ := (hR.2 j q).1 (List.mem_append_left _ hx)
        have hji := before1 _ hx
        have hno : ordB (Region.before ops) j i = false := by
          cases hx2 : ordB (Region.before ops) j i with
          | false => rfl
          | true =>
            exfalso
            have := path_listed hC (before_sound ops hx2) ho hall
            have hls : j < listed.size := by have := (Array.getElem?_eq_some_iff.1 hq).1; omega
            simp [Array.getD_eq_getD_getElem?, Array.getElem?_eq_getElem hls] at this hjn
            rw [this] at hjn; cases hjn
        have hno2 : ordB (Region.before ops) i j = false := by
          cases hx2 : ordB (Region.before ops) i j with
          | false => rfl
          | true =>
            exfalso
            have up : ∀ {x k : Nat}, Path ops x k → x < k := fun {x k} p => by
              induction p with
              | direct ho he hb => exact (hok _ _ ho).1 _ he hb
              | step ho he hb _ ih => exact Nat.lt_trans ih ((hok _ _ ho).1 _ he hb)
            have := up (before_sound ops hx2)
            simp at hji
            omega
        have hp := ((hok i o ho).2 j hji).resolve_left (by rw [hno]; simp)
        simp only [pairOk, hq, ho, Bool.and_eq_true, Bool.not_eq_true', Bool.and_eq_false_iff] at hp
        obtain ⟨⟨p1, p2⟩, p3⟩ := hp
        have hi' := (Array.getElem?_eq_some_iff.1 ho).1
        have hj' := (Array.getElem?_eq_some_iff.1 hq).1
        have hne1 : ¬ i = j := by simp at hji; omega
        have hne2 : ¬ j = i := fun x => hne1 x.symm
        refine ⟨p1, fun c => ?_, fun c => ?_, fun hb hk => ?_, fun hb hk => ?_, fun hb hk => ?_, fun hb hk => ?_⟩
        · rcases p2 with y | y <;> simp [c.1, c.2] at y
        · rcases p3 with y | y <;> simp [c.1, c.2] at y
        · have := (List.all_eq_true.1 hb) i (List.mem_range.2 hi')
          simp only [kindAt, ho, hq, hk, loudish, hno, hno2] at this
          simp [hne1] at this
        · have := (List.all_eq_true.1 hb) j (List.mem_range.2 hj')
          have hk' : kindOf q.op = .load := hk
          simp only [kindAt, ho, hq, hk', loudish, hno, hno2] at this
          simp [hne2] at this
        · have := (List.all_eq_true.1 hb) j (List.mem_range.2 hj')
          simp only [kindAt, ho, hq, hk, hno, hno2] at this
          show kindOf q.op = .pure
          cases hx : kindOf q.op <;> rw [hx] at this <;> simp [loudish, hne2] at this ⊢
        · have := (List.all_eq_true.1 hb) i (List.mem_range.2 hi')
          have hk' : kindOf q.op = .load := hk
          simp only [kindAt, ho, hq, hk', hno, hno2] at this
          cases hx : kindOf o.op <;> rw [hx] at this <;> simp [loudish, hne1] at this ⊢
      have hb := sw_bubble hK' l1 e St V conds h
      obtain ⟨hf, m, hm, hg⟩ := hb ⟨σ, F, w, hs⟩
      have hlen : (l1 ++ l2).length = fuel := by simp at hl ⊢; omega
      have hR' : Rem ops (listed.setIfInBounds i true) (l1 ++ l2) := by
        refine ⟨?_, fun k q => ?_⟩
        · have := List.pairwise_append.1 hpw
          exact List.pairwise_append.2 ⟨this.1, (List.pairwise_cons.1 this.2.1).2, fun x hx y hy => this.2.2 x hx y (List.mem_cons_of_mem _ hy)⟩
        · by_cases hk : k = i
          · subst hk
            have hls : k < listed.size := by have := (Array.getElem?_eq_some_iff.1 ho).1; omega
            constructor
            · intro hx
              exfalso
              rcases List.mem_append.1 hx with hx | hx
              · have := before1 _ hx; simp at this
              · have := List.rel_of_pairwise_cons (List.pairwise_append.1 hpw).2.1 hx; simp at this
            · rintro ⟨_, hx⟩
              simp [hls] at hx
          · rw [getD_set_ne true (Ne.symm hk), ← hR.2 k q]
            simp [hk]
      have hC' : Closed ops (listed.setIfInBounds i true) := by
        intro j q hq hj e' he' hb'
        by_cases hk : j = i
        · subst hk
          rw [ho] at hq; cases hq
          exact getD_set_true (hall e' he' hb')
        · rw [getD_set_ne false (Ne.symm hk)] at hj
          exact getD_set_true (hC j q hq hj e' he' hb')
      have := step_wp (Q := Q) hf hm hg ha hs (ro := ro) (K' := wpAnyIn (FW ro) 0 P .any ops Q fuel (listed.setIfInBounds i true))
        fun e' St' V' a' w' hn ha' hs' => ih _ _ _ _ _ _ _ hlen (by simpa using hsz) hR' hC' hn ha' hs'
      unfold wpOpIn
      rw [ho]
      show if Region.wanted o (yielded ops a.tmps) = true then _ else _
      split
      · rename_i hw; rw [if_pos hw] at this; exact this
      · rename_i hw; rw [if_neg hw] at this; exact this

/-- **A region that draws its order.** -/
theorem wp_region_sw {ro : Option Nat} {id : Nat} {Q : Exit → Act → World → Prop} {σ : Str} {F : List Ent} {a : Act} {w : World} (hm : P.follows .mixedOrders = true) (hB : drawOk ops = true)
    (hK' : ∀ e St V V', V.Perm V' → K e St V → K e St V') (hK : ∀ e St V a w, K e St V → Agree n a e → Sat σ w (St ++ V ++ F) → Q .normal a w)
    (h : SW P ops n (barAt ops (Region.before ops)) K (ops.toList.zipIdx.map fun p => (p.2, p.1)) e St V) (ha : Agree n a e) (hs : Sat σ w (St ++ V ++ F)) : (Code.region id ops true).wpIn (FW ro) 0 P Q a w := by
  refine wpIn_region_any hm (sw_any hB hK' hK _ _ _ e St V a _ (by simp) (by simp) ⟨?_, ?_⟩ ?_ h ha hs)
  · rw [List.pairwise_map]
    refine List.pairwise_iff_getElem.2 fun i j hi hj hij => ?_
    simp
    exact hij
  · intro i o
    simp only [List.mem_map, Prod.mk.injEq, Prod.exists]
    constructor
    · rintro ⟨o', i', hm, rfl, rfl⟩
      have := List.mk_mem_zipIdx_iff_getElem?.1 hm
      have hlt := (List.getElem?_eq_some_iff.1 this).1
      simp at this hlt
      exact ⟨this, by simp [hlt]⟩
    · rintro ⟨ho, _⟩
      exact ⟨o, i, List.mk_mem_zipIdx_iff_getElem?.2 (by simpa using ho), rfl, rfl⟩
  · intro j o _ hj
    rw [Array.getD_eq_getD_getElem?, Array.getElem?_replicate] at hj
    split at hj <;> simp at hj
end
#print axioms wp_region_sw
end Go.Sq
