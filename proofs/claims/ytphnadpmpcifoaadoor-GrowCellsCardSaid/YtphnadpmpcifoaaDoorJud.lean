/-
  Judgements on code over a symbolic heap: environments as lists, the stack of what is left to do, entering and leaving a function, tests, blocks, loops.
-/
import Derived.Test.YtphnadpmpcifoaaDoorDraw
namespace Go.Sq

abbrev Env := List (Nat × Value)
def Env.get : Env → EnvF
  | [], _ => none
  | (k, v) :: r, t => bif Nat.beq k t then some v else Env.get r t
def evO (E : Env) : Operand → Option Value
  | .tmp t => Env.get E t
  | .const v => some v
  | .global g => some (.pointer (some ⟨g, 0, none⟩))
  | .func f => some (.func (.func f) #[] #[])
def evL (E : Env) : List Operand → Option (List Value)
  | [] => some []
  | x :: r => match evO E x with
    | none => none
    | some v => match evL E r with
      | none => none
      | some vs => some (v :: vs)

theorem evO_evf {E : Env} {x : Operand} {v : Value} (h : evO E x = some v) : evf E.get x = v := by
  cases x <;> simp [evO] at h <;> simp [evf, h]
theorem evO_knows {E : Env} {t : Tmp} {v : Value} (h : evO E (.tmp t) = some v) : E.get t ≠ none := by
  simp [evO] at h; simp [h]
theorem put_get {E : Env} {d : Tmp} {v : Value} : upd E.get (some d) v = Env.get ((d, v) :: E) := by
  funext t
  simp only [upd, Env.get]
  by_cases h : t = d
  · subst h; simp [Nat.beq_eq]
  · have : Nat.beq d t = false := by
      cases hx : Nat.beq d t with
      | false => rfl
      | true => exact absurd (Nat.eq_of_beq_eq_true hx).symm h
    simp [h, this]

/-! ### finding pieces -/
class PickK (V : List Ent) (k : Nat) (A : outParam HP) (M : outParam (List Ent)) : Prop where
  perm : V.Perm ((k, A) :: M)
instance (priority := 1100) pickHere {k : Nat} {A : HP} {M : List Ent} : PickK ((k, A) :: M) k A M := ⟨List.Perm.refl _⟩
instance pickThere {V M : List Ent} {k : Nat} {A : HP} {B : Ent} [h : PickK V k A M] : PickK (B :: V) k A (B :: M) := ⟨(h.perm.cons B).trans (List.Perm.swap _ _ _)⟩
class PickL (V : List Ent) (ks : List Nat) (N : outParam (List Ent)) (M : outParam (List Ent)) : Prop where
  perm : V.Perm (N ++ M)
instance pickNil {V : List Ent} : PickL V [] [] V := ⟨List.Perm.refl _⟩
instance pickCons {V V1 N M : List Ent} {k : Nat} {ks : List Nat} {A : HP} [h : PickK V k A V1] [g : PickL V1 ks N M] : PickL V (k :: ks) ((k, A) :: N) M := ⟨h.perm.trans (g.perm.cons _)⟩
class Cat (St V : List Ent) (As : outParam (List Ent)) : Prop where
  perm : (St ++ V).Perm As
instance catNil {V : List Ent} : Cat [] V V := ⟨List.Perm.refl _⟩
instance catCons {St V As : List Ent} {A : Ent} [h : Cat St V As] : Cat (A :: St) V (A :: As) := ⟨h.perm.cons A⟩

/-! ### what is left to do -/
inductive It where
  | code (c : Code)
  | blk (id : Nat)
  | back (I : Act → World → Prop)
def KK (P : Program) (R : Exit → Act → World → Prop) : List It → Exit → Act → World → Prop
  | [] => R
  | .code c :: st => Exit.then (fun a w => c.wp P (KK P R st) a w) (KK P R st)
  | .blk id :: st => Exit.inBlock id (KK P R st)
  | .back I :: st => Exit.then I (KK P R st)

/-- From every frame and world that are like this, what is left to do ends well. -/
def J (P : Program) (R : Exit → Act → World → Prop) (n : Nat) (σ : Str) (F : List Ent) (st : List It) (E : Env) (As : List Ent) : Prop :=
  ∀ a w, Agree n a E.get → Sat σ w (As ++ F) → KK P R st .normal a w

section
variable {P : Program} {R : Exit → Act → World → Prop} {n : Nat} {σ : Str} {F : List Ent} {st : List It} {E : Env} {As : List Ent}

theorem J.seq {x y : Code} (h : J P R n σ F (.code x :: .code y :: st) E As) : J P R n σ F (.code (.seq x y) :: st) E As :=
  fun a w ha hs => wp_seq (h a w ha hs)
theorem J.skip (h : J P R n σ F st E As) : J P R n σ F (.code .skip :: st) E As := fun a w ha hs => wp_skip (h a w ha hs)
theorem J.block {id : Nat} {c : Code} (h : J P R n σ F (.code c :: .blk id :: st) E As) : J P R n σ F (.code (.block id c) :: st) E As :=
  fun a w ha hs => wp_block (h a w ha hs)
theorem J.endBlk {id : Nat} (h : J P R n σ F st E As) : J P R n σ F (.blk id :: st) E As := h
theorem J.condT {c : Operand} {x y : Code} (hc : evO E c = some (.bool true)) (h : J P R n σ F (.code x :: st) E As) : J P R n σ F (.code (.cond c x y) :: st) E As :=
  fun a w ha hs => wp_cond (t := true) ((ha.eval (fun t ht => by subst ht; exact evO_knows hc)).trans (evO_evf hc)) (h a w ha hs)
theorem J.condF {c : Operand} {x y : Code} (hc : evO E c = some (.bool false)) (h : J P R n σ F (.code y :: st) E As) : J P R n σ F (.code (.cond c x y) :: st) E As :=
  fun a w ha hs => wp_cond (t := false) ((ha.eval (fun t ht => by subst ht; exact evO_knows hc)).trans (evO_evf hc)) (h a w ha hs)
theorem J.cond {c : Operand} {x y : Code} {b : Bool} (hc : evO E c = some (.bool b)) (ht : b = true → J P R n σ F (.code x :: st) E As) (hf : b = false → J P R n σ F (.code y :: st) E As) : J P R n σ F (.code (.cond c x y) :: st) E As := by
  cases b
  · exact J.condF hc (hf rfl)
  · exact J.condT hc (ht rfl)

/-- Where an exit goes. -/
def popTo (id : Nat) : List It → Option (List It)
  | [] => none
  | .blk i :: st => bif Nat.beq id i then some st else popTo id st
  | _ :: st => popTo id st
theorem KK_exit {id : Nat} {a : Act} {w : World} : ∀ {st st' : List It}, popTo id st = some st' → KK P R st' .normal a w → KK P R st (.exit id) a w
  | [], _, h, _ => by simp [popTo] at h
  | .code c :: st, st', h, k => by simp only [popTo] at h; exact KK_exit (st := st) h k
  | .back I :: st, st', h, k => by simp only [popTo] at h; exact KK_exit (st := st) h k
  | .blk i :: st, st', h, k => by
    simp only [popTo] at h
    show (if id = i then KK P R st .normal a w else KK P R st (.exit id) a w)
    cases hb : Nat.beq id i with
    | true =>
      rw [if_pos (Nat.eq_of_beq_eq_true hb)]
      simp [hb] at h
      subst h
      exact k
    | false =>
      rw [if_neg (fun e => by subst e; simp [Nat.beq_eq] at hb)]
      simp [hb] at h
      exact KK_exit (st := st) h k
theorem KK_ret {a : Act} {w : World} (h : R .ret a w) : ∀ st : List It, KK P R st .ret a w
  | [] => h
  | .code _ :: st => KK_ret h st
  | .back _ :: st => KK_ret h st
  | .blk _ :: st => KK_ret h st
theorem J.exit {id : Nat} {st' : List It} (hp : popTo id st = some st') (h : J P R n σ F st' E As) : J P R n σ F (.code (.exit id) :: st) E As :=
  fun a w ha hs => wp_exit (KK_exit hp (h a w ha hs))

theorem J.perm {Bs : List Ent} (p : As.Perm Bs) (h : J P R n σ F st E Bs) : J P R n σ F st E As := fun a w ha hs => h a w ha (hs.perm (p.append_right F))
/-- Forget pieces. -/
theorem J.drop (ks : List Nat) {N M : List Ent} [p : PickL As ks N M] (h : J P R n σ F st E M) : J P R n σ F st E As :=
  fun a w ha hs => h a w ha (Sat.drop_front (Cs := N) (by
    rw [← List.append_assoc]
    exact hs.perm (p.perm.append_right F)))
theorem J.only (ks : List Nat) {N M : List Ent} [p : PickL As ks N M] (h : J P R n σ F st E N) : J P R n σ F st E As :=
  fun a w ha hs => h a w ha (Sat.drop_front (Cs := M) (by
    rw [← List.append_assoc]
    exact hs.perm ((p.perm.trans List.perm_append_comm).append_right F)))
/-- Another environment: each slot of it is as it says. -/
def Env.sub (E' : Env) (E : Env) : Prop := ∀ t v, E'.get t = some v → E.get t = some v
theorem J.env {E' : Env} (hE : E'.sub E) (h : J P R n σ F st E' As) : J P R n σ F st E As := fun a w ha hs => h a w ⟨ha.1, ha.2.1, fun t v e => ha.2.2 t v (hE t v e)⟩ hs
def Env.keep (ks : List Nat) (E : Env) : Env :=
  match ks with
  | [] => []
  | k :: ks => match E.get k with
    | some v => (k, v) :: Env.keep ks E
    | none => Env.keep ks E
theorem Env.keep_sub : ∀ (ks : List Nat) (E : Env), (Env.keep ks E).sub E
  | [], _, t, v, h => by simp [Env.keep, Env.get] at h
  | k :: ks, E, t, v, h => by
    simp only [Env.keep] at h
    cases hk : E.get k with
    | none => rw [hk] at h; exact Env.keep_sub ks E t v h
    | some u =>
      rw [hk] at h
      simp only [Env.get] at h
      cases hb : Nat.beq k t with
      | true => rw [hb] at h; have := Nat.eq_of_beq_eq_true hb; subst this; rw [hk]; exact h
      | false => rw [hb] at h; exact Env.keep_sub ks E t v h
theorem J.keep (ks : List Nat) {E' : Env} (hE : Env.keep ks E = E') (h : J P R n σ F st E' As) : J P R n σ F st E As := J.env (hE ▸ Env.keep_sub ks E) h
/-- The environment checked slot by slot. -/
def Env.all (E : Env) : Env → Prop
  | [] => True
  | (k, v) :: r => E.get k = some v ∧ Env.all E r
theorem Env.sub_of_all {E : Env} : ∀ {E' : Env}, E.all E' → E'.sub E
  | [], _, t, v, h => by simp [Env.get] at h
  | (k, u) :: r, ⟨h1, h2⟩, t, v, h => by
    simp only [Env.get] at h
    cases hb : Nat.beq k t with
    | true => rw [hb] at h; have := Nat.eq_of_beq_eq_true hb; subst this; simp at h; rw [h1, h]
    | false => rw [hb] at h; exact Env.sub_of_all h2 t v h

/-- A loop: X is what its rounds differ in. -/
theorem J.loop {X : Type _} {c : Code} (ok : X → Prop) (μ : X → Nat) (EX : X → Env) (AX : X → List Ent) (x0 : X) (h0 : ok x0) (hE : E.all (EX x0)) (hA : As.Perm (AX x0))
    (round : ∀ x, ok x → J P R n σ F (.code c :: .back (fun a w => ∃ y, ok y ∧ μ y < μ x ∧ Agree n a (EX y).get ∧ Sat σ w (AX y ++ F)) :: st) (EX x) (AX x)) :
    J P R n σ F (.code (.loop c) :: st) E As := by
  intro a w ha hs b k cs
  have key : ∀ m x a w, μ x = m → ok x → Agree n a (EX x).get → Sat σ w (AX x ++ F) →
      ∃ e a' w', KK P R st e a' w' ∧ Arrives P (lone (b.at a (.code c :: .inLoop c :: k)) cs w) b k cs e a' w' := by
    intro m
    induction m using Nat.strongRecOn with
    | _ m ih =>
      intro x a w hm hok ha hs
      obtain ⟨e, a₁, w₁, hq, harr⟩ := round x hok a w ha hs b (.inLoop c :: k) cs
      cases e with
      | normal =>
        obtain ⟨y, hy, hlt, ha', hs'⟩ := hq
        obtain ⟨e₂, a₂, w₂, hq₂, harr₂⟩ := ih (μ y) (hm ▸ hlt) y a₁ w₁ rfl hy ha' hs'
        exact ⟨e₂, a₂, w₂, hq₂, .of_steps (Steps.trans harr (.one step_inLoop)) harr₂⟩
      | exit id => exact ⟨_, a₁, w₁, hq, .pass (x := .inLoop c) rfl (fun _ _ => .inl (by simp)) harr⟩
      | goto l => exact ⟨_, a₁, w₁, hq, .pass (x := .inLoop c) rfl (fun _ _ => .inl (by simp)) harr⟩
      | ret => exact ⟨_, a₁, w₁, hq, .pass (x := .inLoop c) rfl (fun _ _ => .inl (by simp)) harr⟩
      | panic ch => exact ⟨_, a₁, w₁, hq, .pass (x := .inLoop c) rfl (fun _ _ => .inl (by simp)) harr⟩
      | outgrown => exact ⟨_, a₁, w₁, hq, .pass (x := .inLoop c) rfl (fun _ _ => .inl (by simp)) harr⟩
  obtain ⟨e, a', w', hq, harr⟩ := key _ x0 a w rfl h0 ⟨ha.1, ha.2.1, fun t v e => ha.2.2 t v (Env.sub_of_all hE t v e)⟩ (hs.perm (hA.append_right F))
  exact ⟨e, a', w', hq, .of_steps (.one step_loop) harr⟩

/-- A round's end. -/
theorem J.again {X : Type _} {ok : X → Prop} {μ : X → Nat} {EX : X → Env} {AX : X → List Ent} {x : X} (y : X) (h0 : ok y) (hlt : μ y < μ x) (hE : E.all (EX y)) (hA : As.Perm (AX y)) :
    J P R n σ F (.back (fun a w => ∃ y, ok y ∧ μ y < μ x ∧ Agree n a (EX y).get ∧ Sat σ w (AX y ++ F)) :: st) E As :=
  fun _ _ ha hs => ⟨y, h0, hlt, ⟨ha.1, ha.2.1, fun t v e => ha.2.2 t v (Env.sub_of_all hE t v e)⟩, hs.perm (hA.append_right F)⟩

/-- Rounds laid out: for loops of few rounds. -/
theorem J.rounds (m : Nat) {c : Code} (h : J P R n σ F (.back (Code.rounds P c (KK P R st) m) :: st) E As) : J P R n σ F (.code (.loop c) :: st) E As :=
  fun a w ha hs => wp_loop_rounds m (h a w ha hs)
theorem J.rnd {m : Nat} {c : Code} (h : J P R n σ F (.code c :: .back (Code.rounds P c (KK P R st) m) :: st) E As) : J P R n σ F (.back (Code.rounds P c (KK P R st) (m + 1)) :: st) E As := h
end
end Go.Sq
