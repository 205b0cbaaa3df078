/-
  Symbolic heaps: what a world owns, as a list of pieces that share no block; laws on how the pieces turn. No program in sight.
-/
import Derived.WalkKit
import Derived.WalkSpells
import Derived.WalkLawsBesides
namespace Go.Sq

/-- A piece of memory: some blocks, each with what it holds. -/
abbrev Piece := Nat → Option Obj
abbrev HP := Piece → Prop
/-- A piece's assertion, with the block by which it is found. -/
abbrev Ent := Nat × HP

/-- One block. -/
def pts (b : Nat) (o : Obj) : HP := fun h => ∀ k, h k = if k = b then some o else none
abbrev cel (b : Nat) (c : Array Value) (T : TypeId) : Ent := (b, pts b (.cells c T (0, 0)))

structure Str where
  os : Os
  tape : Nat → Question → Nat
  output : Array (Nat × ByteArray)
def strOf (w : World) : Str := ⟨w.os, w.tape, w.output⟩

def Disj (h1 h2 : Piece) : Prop := ∀ b, h1 b = none ∨ h2 b = none
def Un (h1 h2 : Piece) : Piece := fun b => match h1 b with | some o => some o | none => h2 b
def Holds : List Ent → Piece → Prop
  | [], h => ∀ b, h b = none
  | A :: As, h => ∃ h1 h2, Disj h1 h2 ∧ h = Un h1 h2 ∧ A.2 h1 ∧ Holds As h2

/-- The world holds these pieces, no two of which share a block; its streams are these. -/
def Sat (σ : Str) (w : World) (As : List Ent) : Prop :=
  strOf w = σ ∧ ∃ h, Holds As h ∧ ∀ b o, h b = some o → w.heap[b]? = some o

theorem un_left {h1 h2 : Piece} {b : Nat} {o : Obj} (h : h1 b = some o) : Un h1 h2 b = some o := by simp [Un, h]
theorem un_right {h1 h2 : Piece} {b : Nat} (h : h1 b = none) : Un h1 h2 b = h2 b := by simp [Un, h]
theorem un_comm {h1 h2 : Piece} (d : Disj h1 h2) : Un h1 h2 = Un h2 h1 := by
  funext b
  unfold Un
  rcases d b with h | h
  · rw [h]; cases h2 b <;> rfl
  · rw [h]; cases h1 b <;> rfl
theorem un_assoc (h1 h2 h3 : Piece) : Un (Un h1 h2) h3 = Un h1 (Un h2 h3) := by
  funext b
  unfold Un
  cases h1 b <;> cases h2 b <;> rfl
theorem un_none {h1 h2 : Piece} {b : Nat} : Un h1 h2 b = none ↔ h1 b = none ∧ h2 b = none := by
  unfold Un
  cases h1 b <;> cases h2 b <;> simp
theorem disj_un {h1 h2 h3 : Piece} : Disj h1 (Un h2 h3) ↔ Disj h1 h2 ∧ Disj h1 h3 := by
  constructor
  · intro d
    exact ⟨fun b => (d b).imp id fun h => (un_none.1 h).1, fun b => (d b).imp id fun h => (un_none.1 h).2⟩
  · rintro ⟨d, e⟩ b
    rcases d b with h | h
    · exact .inl h
    · rcases e b with h' | h'
      · exact .inl h'
      · exact .inr (un_none.2 ⟨h, h'⟩)
theorem Disj.symm {h1 h2 : Piece} (d : Disj h1 h2) : Disj h2 h1 := fun b => (d b).symm

theorem Holds.perm {As Bs : List Ent} (p : As.Perm Bs) : ∀ {h : Piece}, Holds As h → Holds Bs h := by
  induction p with
  | nil => intro h H; exact H
  | cons x _ ih => rintro h ⟨h1, h2, d, rfl, a, b⟩; exact ⟨h1, h2, d, rfl, a, ih b⟩
  | swap x y l =>
    rintro h ⟨h1, _, d, rfl, a, h2, h3, e, rfl, b, c⟩
    obtain ⟨d1, d2⟩ := disj_un.1 d
    refine ⟨h2, Un h1 h3, disj_un.2 ⟨d1.symm, e⟩, ?_, b, h1, h3, d2, rfl, a, c⟩
    rw [← un_assoc, ← un_assoc, un_comm d1]
  | trans _ _ ih1 ih2 => intro h H; exact ih2 (ih1 H)

theorem Holds.append {As Bs : List Ent} : ∀ {h : Piece}, Holds (As ++ Bs) h ↔ ∃ h1 h2, Disj h1 h2 ∧ h = Un h1 h2 ∧ Holds As h1 ∧ Holds Bs h2 := by
  induction As with
  | nil =>
    intro h
    constructor
    · intro H; exact ⟨fun _ => none, h, fun _ => .inl rfl, by funext b; simp [Un], fun _ => rfl, H⟩
    · rintro ⟨h1, h2, _, rfl, e, H⟩
      have : Un h1 h2 = h2 := by funext b; exact un_right (e b)
      rw [this]; exact H
  | cons A As ih =>
    intro h
    constructor
    · rintro ⟨h1, h2, d, rfl, a, H⟩
      obtain ⟨h3, h4, e, rfl, x, y⟩ := ih.1 H
      obtain ⟨d1, d2⟩ := disj_un.1 d
      exact ⟨Un h1 h3, h4, (disj_un.2 ⟨d2.symm, e.symm⟩).symm, (un_assoc _ _ _).symm, ⟨h1, h3, d1, rfl, a, x⟩, y⟩
    · rintro ⟨_, h4, d, rfl, ⟨h1, h3, e, rfl, a, x⟩, y⟩
      obtain ⟨d1, d2⟩ := disj_un.1 d.symm
      exact ⟨h1, Un h3 h4, disj_un.2 ⟨e, d1.symm⟩, un_assoc _ _ _, a, ih.2 ⟨h3, h4, d2.symm, rfl, x, y⟩⟩

variable {σ : Str} {w w' : World} {As Bs : List Ent}

theorem Sat.perm (hs : Sat σ w As) (p : As.Perm Bs) : Sat σ w Bs := ⟨hs.1, hs.2.imp fun _ h => ⟨h.1.perm p, h.2⟩⟩
theorem Sat.drew (hs : Sat σ w As) : Sat σ w.drew As := hs
theorem Sat.drewN (hs : Sat σ w As) (n : Nat) : Sat σ (w.drewN n) As := hs
theorem Sat.str (hs : Sat σ w As) : strOf w = σ := hs.1

/-- The one law on change: the first pieces turn from Cs to Bs; other old blocks stay; what Bs holds beyond Cs's blocks is new. -/
theorem Sat.update {Cs : List Ent} (hs : Sat σ w (Cs ++ As)) (hstr : strOf w' = strOf w)
    (H : ∀ h, Holds Cs h → (∀ b o, h b = some o → w.heap[b]? = some o) →
      ∃ h', Holds Bs h' ∧ (∀ b o, h' b = some o → w'.heap[b]? = some o) ∧ (∀ b, h' b ≠ none → h b ≠ none ∨ w.heap.size ≤ b) ∧
        ∀ b, b < w.heap.size → h b = none → w'.heap[b]? = w.heap[b]?) : Sat σ w' (Bs ++ As) := by
  obtain ⟨h0, h, hh, hw⟩ := hs
  obtain ⟨h1, h2, d, rfl, a, y⟩ := Holds.append.1 hh
  obtain ⟨h', b1, b2, b3, b4⟩ := H h1 a (fun b o e => hw b o (un_left e))
  have lt2 : ∀ b, h2 b ≠ none → b < w.heap.size ∧ h1 b = none := fun b hb => by
    have h1n : h1 b = none := (d b).resolve_right hb
    obtain ⟨o, ho⟩ := Option.ne_none_iff_exists'.1 hb
    exact ⟨(Array.getElem?_eq_some_iff.1 (hw b o (by rw [un_right h1n]; exact ho))).1, h1n⟩
  refine ⟨hstr.trans h0, Un h' h2, Holds.append.2 ⟨h', h2, ?_, rfl, b1, y⟩, ?_⟩
  · intro b
    by_cases e : h' b = none
    · exact .inl e
    · refine .inr ?_
      rcases b3 b e with hh | hh
      · exact (d b).resolve_left hh
      · by_cases e2 : h2 b = none
        · exact e2
        · have := (lt2 b e2).1; omega
  · intro b o hb
    by_cases e : h' b = none
    · rw [un_right e] at hb
      have h2n : h2 b ≠ none := by rw [hb]; exact Option.some_ne_none _
      obtain ⟨l, n1⟩ := lt2 b h2n
      rw [b4 b l n1]
      exact hw b o (by rw [un_right n1]; exact hb)
    · obtain ⟨o', ho'⟩ := Option.ne_none_iff_exists'.1 e
      rw [un_left ho'] at hb
      cases hb
      exact b2 b _ ho'

theorem Sat.update1 {C B : Ent} (hs : Sat σ w (C :: As)) (hstr : strOf w' = strOf w)
    (H : ∀ h, C.2 h → (∀ b o, h b = some o → w.heap[b]? = some o) →
      ∃ h', B.2 h' ∧ (∀ b o, h' b = some o → w'.heap[b]? = some o) ∧ (∀ b, h' b ≠ none → h b ≠ none ∨ w.heap.size ≤ b) ∧
        ∀ b, b < w.heap.size → h b = none → w'.heap[b]? = w.heap[b]?) : Sat σ w' (B :: As) := by
  refine Sat.update (Cs := [C]) (Bs := [B]) hs hstr ?_
  rintro h ⟨h1, h2, _, rfl, c, e⟩ hb
  have e1 : Un h1 h2 = h1 := by funext b; unfold Un; rw [e b]; cases h1 b <;> rfl
  rw [e1] at hb ⊢
  obtain ⟨h', x, y⟩ := H h1 c hb
  exact ⟨h', ⟨h', fun _ => none, fun _ => .inr rfl, by funext b; unfold Un; cases h' b <;> rfl, x, fun _ => rfl⟩, y⟩

theorem Sat.alloc (hs : Sat σ w As) (o : Obj) : Sat σ (w.alloc o) ((w.heap.size, pts w.heap.size o) :: As) := by
  refine Sat.update (Cs := []) (Bs := [_]) hs rfl ?_
  intro h e hb
  refine ⟨fun k => if k = w.heap.size then some o else none, ⟨_, fun _ => none, fun _ => .inr rfl, ?_, fun _ => rfl, fun _ => rfl⟩, ?_, ?_, ?_⟩
  · funext b; unfold Un; split <;> simp_all
  · intro b o' hb
    by_cases e : b = w.heap.size
    · subst e; simp at hb; subst hb; exact heap_alloc_new w _
    · simp [e] at hb
  · intro b hb
    by_cases e : b = w.heap.size
    · omega
    · simp [e] at hb
  · intro b hb _; exact heap_alloc_old w o hb

theorem Sat.tail {A : Ent} (hs : Sat σ w (A :: As)) : Sat σ w As := by
  obtain ⟨h0, _, ⟨h1, h2, d, rfl, _, x⟩, hw⟩ := hs
  exact ⟨h0, h2, x, fun b o hb => hw b o (by rw [un_right ((d b).resolve_right (by rw [hb]; exact Option.some_ne_none _))]; exact hb)⟩
theorem Sat.drop_front {Cs : List Ent} (hs : Sat σ w (Cs ++ As)) : Sat σ w As := by
  induction Cs with
  | nil => exact hs
  | cons A Cs ih => exact ih hs.tail
theorem Sat.front {Cs : List Ent} (hs : Sat σ w (Cs ++ As)) : Sat σ w Cs := (hs.perm List.perm_append_comm).drop_front

theorem Sat.mono {A B : Ent} (hs : Sat σ w (A :: As)) (hAB : ∀ h, A.2 h → B.2 h) : Sat σ w (B :: As) := by
  obtain ⟨h0, _, ⟨h1, h2, d, rfl, a, x⟩, hw⟩ := hs
  exact ⟨h0, _, ⟨h1, h2, d, rfl, hAB _ a, x⟩, hw⟩

/-- A piece that is made of pieces. -/
theorem Sat.open_ {k : Nat} {Cs : List Ent} (hs : Sat σ w ((k, Holds Cs) :: As)) : Sat σ w (Cs ++ As) := by
  obtain ⟨h0, _, ⟨h1, h2, d, rfl, a, x⟩, hw⟩ := hs
  exact ⟨h0, _, Holds.append.2 ⟨h1, h2, d, rfl, a, x⟩, hw⟩
theorem Sat.shut {k : Nat} {Cs : List Ent} (hs : Sat σ w (Cs ++ As)) : Sat σ w ((k, Holds Cs) :: As) := by
  obtain ⟨h0, _, hh, hw⟩ := hs
  obtain ⟨h1, h2, d, rfl, a, x⟩ := Holds.append.1 hh
  exact ⟨h0, _, ⟨h1, h2, d, rfl, a, x⟩, hw⟩
theorem Sat.ex {k : Nat} {ι : Sort _} {A : ι → HP} (hs : Sat σ w ((k, fun h => ∃ i, A i h) :: As)) : ∃ i, Sat σ w ((k, A i) :: As) := by
  obtain ⟨h0, _, ⟨h1, h2, d, rfl, ⟨i, a⟩, x⟩, hw⟩ := hs
  exact ⟨i, h0, _, ⟨h1, h2, d, rfl, a, x⟩, hw⟩
theorem Sat.pure_ {k : Nat} {p : Prop} {A : HP} (hs : Sat σ w ((k, fun h => p ∧ A h) :: As)) : p ∧ Sat σ w ((k, A) :: As) := by
  obtain ⟨h0, _, ⟨h1, h2, d, rfl, ⟨i, a⟩, x⟩, hw⟩ := hs
  exact ⟨i, h0, _, ⟨h1, h2, d, rfl, a, x⟩, hw⟩

theorem Sat.block {b : Nat} {o : Obj} {k : Nat} (hs : Sat σ w ((k, pts b o) :: As)) : w.heap[b]? = some o := by
  obtain ⟨_, _, ⟨h1, h2, d, rfl, a, _⟩, hw⟩ := hs
  exact hw b o (un_left (by rw [a b]; simp))
theorem Sat.lt {b : Nat} {o : Obj} {k : Nat} (hs : Sat σ w ((k, pts b o) :: As)) : b < w.heap.size :=
  (Array.getElem?_eq_some_iff.1 hs.block).1

theorem cell_of_block {b : Nat} {c : Array Value} {T : TypeId} {fz : Nat × Nat} (h : w.heap[b]? = some (.cells c T fz)) (i : Nat) : w.cell? ⟨b, i, none⟩ = c[i]? := by
  simp [World.cell?, h]
theorem free_of_block {b : Nat} {c : Array Value} {T : TypeId} (h : w.heap[b]? = some (.cells c T (0, 0))) (i : Nat) : w.frozen? ⟨b, i, none⟩ = false := by
  simp [World.frozen?, h]

/-- One block turns. -/
theorem Sat.setObj {b : Nat} {o o' : Obj} {k : Nat} (hs : Sat σ w ((k, pts b o) :: As)) (hstr : strOf w' = strOf w) (hb : w'.heap[b]? = some o') (ho : ∀ c, c < w.heap.size → c ≠ b → w'.heap[c]? = w.heap[c]?) :
    Sat σ w' ((k, pts b o') :: As) := by
  refine hs.update1 hstr ?_
  intro h hc _
  refine ⟨fun k => if k = b then some o' else none, fun _ => rfl, ?_, ?_, ?_⟩
  · intro c x hx
    by_cases e : c = b
    · subst e; simp at hx; subst hx; exact hb
    · simp [e] at hx
  · intro c hx
    by_cases e : c = b
    · exact .inl (by rw [hc c]; simp [e])
    · simp [e] at hx
  · intro c hl hn
    refine ho c hl ?_
    rintro rfl
    have h0 := hc c
    rw [hn] at h0
    simp at h0

theorem Sat.setCell {b i : Nat} {c : Array Value} {T : TypeId} {fz : Nat × Nat} {k : Nat} (hs : Sat σ w ((k, pts b (.cells c T fz)) :: As)) (v : Value) :
    Sat σ (w.setCell ⟨b, i, none⟩ v) ((k, pts b (.cells (c.setIfInBounds i v) T fz)) :: As) := by
  refine hs.setObj rfl ?_ (fun c _ hne => heap_setCell_other w _ c v hne)
  simp [World.setCell, Array.getElem?_modify, hs.block]

end Go.Sq
