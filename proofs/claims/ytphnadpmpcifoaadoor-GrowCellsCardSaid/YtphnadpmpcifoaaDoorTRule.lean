/-
  Package rule; new stores and growers.
-/
import Derived.Test.YtphnadpmpcifoaaDoorTGet
import Derived.Test.YtphnadpmpcifoaaDoorFld2
namespace Go.Proofs.YtphnadpmpcifoaaDoor
open Go.Sq Go.Qm
set_option maxHeartbeats 4000000
set_option maxRecDepth 10000
/-- A grower's memory: its store's place, its rule, how many answers; what is known of them. -/
def growP (g s b l m : Nat) (ok : Int → Int → Int → Prop) : HP := fun h => ∃ bk es clk, ((∀ e ∈ (es : Array MapEntry).toList, ∃ i j o, e.key = askV i j ∧ i64 i ∧ i64 j ∧ e.val = int o ∧ ok i j o) ∧ es.size = m) ∧
  Holds [(g, pts g (.cells #[ptr s, .int .u16 (b : Int), .int .u16 (l : Int), .map (some bk)] 59 (0, 0))), (bk, pts bk (.map es clk))] h
section
variable {R : Exit → Act → World → Prop} {n : Nat} {σ : Str} {F : List Ent} {stk : List It} {E : Env} {As : List Ent} {g s b l m : Nat} {ok : Int → Int → Int → Prop}
theorem J.openG (g : Nat) {M : List Ent} [p : PickK As g (growP g s b l m ok) M] (h : ∀ bk es clk, (∀ e ∈ (es : Array MapEntry).toList, ∃ i j o, e.key = askV i j ∧ i64 i ∧ i64 j ∧ e.val = int o ∧ ok i j o) → es.size = m →
    J P R n σ F stk E ((g, pts g (.cells #[ptr s, .int .u16 (b : Int), .int .u16 (l : Int), .map (some bk)] 59 (0, 0))) :: (bk, pts bk (.map es clk)) :: M)) : J P R n σ F stk E As := by
  intro a w ha hs
  obtain ⟨bk, hs⟩ := Sat.ex (hs.perm (p.perm.append_right F))
  obtain ⟨es, hs⟩ := Sat.ex hs
  obtain ⟨clk, hs⟩ := Sat.ex hs
  obtain ⟨⟨h1, h2⟩, hs⟩ := Sat.pure_ hs
  exact h bk es clk h1 h2 a w ha (Sat.open_ (Cs := [(g, pts g (.cells #[ptr s, .int .u16 (b : Int), .int .u16 (l : Int), .map (some bk)] 59 (0, 0))), (bk, pts bk (.map es clk))]) (As := M ++ F) hs)
theorem J.shutG (g bk : Nat) {es : Array MapEntry} {clk : Nat} {M : List Ent} [p : PickL As [g, bk] [(g, pts g (.cells #[ptr s, .int .u16 (b : Int), .int .u16 (l : Int), .map (some bk)] 59 (0, 0))), (bk, pts bk (.map es clk))] M]
    (h1 : ∀ e ∈ es.toList, ∃ i j o, e.key = askV i j ∧ i64 i ∧ i64 j ∧ e.val = int o ∧ ok i j o) (h2 : es.size = m) (h : J P R n σ F stk E ((g, growP g s b l m ok) :: M)) : J P R n σ F stk E As := by
  intro a w ha hs
  have hs2 := Sat.shut (k := g) (Cs := [(g, pts g (.cells #[ptr s, .int .u16 (b : Int), .int .u16 (l : Int), .map (some bk)] 59 (0, 0))), (bk, pts bk (.map es clk))]) (As := M ++ F) (by simpa using hs.perm (p.perm.append_right F))
  exact h a w ha (hs2.mono (B := (g, growP g s b l m ok)) fun h hh => ⟨bk, es, clk, ⟨h1, h2⟩, hh⟩)
end
attribute [local irreducible] SW J

/-- A rule, as a value; one that may be. -/
abbrev ruleV (b l : Nat) : Value := .agg #[.int .u16 (b : Int), .int .u16 (l : Int)]
def RuleOk (b l : Nat) : Prop := b < 512 ∧ l < 512 ∧ b % 2 = 0
theorem not511 {b : Nat} (h : b < 65536) : IntE .andNot .u16 b 511 (.int .u16 ((b ^^^ (b % 512) : Nat) : Int)) := by
  refine ⟨?_⟩
  have := andNot_u (k := .u16) (a := b) (b := 511) rfl h (by decide)
  simp only [intV]
  rw [show ((511 : Int)) = ((511 : Nat) : Int) from rfl, this, show (511 : Nat) = 2 ^ 9 - 1 from rfl, Nat.and_two_pow_sub_one_eq_mod]
theorem not511_lo {b : Nat} (h : b < 512) : b ^^^ (b % 512) = 0 := by rw [Nat.mod_eq_of_lt h, Nat.xor_self]
theorem not511_hi {b : Nat} (h : ¬ b < 512) : b ^^^ (b % 512) ≠ 0 := by
  intro he
  have : b = b % 512 := Nat.eq_of_testBit_eq fun i => by
    have := congrArg (fun q => q.testBit i) he
    simp only [Nat.testBit_xor, Nat.zero_testBit] at this
    cases h1 : b.testBit i <;> cases h2 : (b % 512).testBit i <;> simp_all
  omega
theorem and1 {b : Nat} (h : b < 65536) : IntE .and .u16 b 1 (.int .u16 ((b % 2 : Nat) : Int)) := by
  refine ⟨?_⟩
  have := and_u (k := .u16) (a := b) (b := 1) rfl h (by decide)
  simp only [intV]
  rw [show ((1 : Int)) = ((1 : Nat) : Int) from rfl, this, Nat.and_one_is_mod]
theorem Check_ok {b l : Nat} (h : RuleOk b l) : CallF P 28 [ruleV b l] [] .nilIface [] := by
  obtain ⟨h1, h2, h3⟩ := h
  have i1 := not511 (b := b) (by omega); have i2 := not511 (b := l) (by omega); have i3 := and1 (b := b) (by omega)
  rw [not511_lo h1] at i1; rw [not511_lo h2] at i2; rw [h3] at i3
  refine callR_of Tryd.func28 rfl Tryd.ntmps28 rfl fun σ F => ?_
  repeat' first
    | (show W _ _ _ _ _ (_ :: _) _ _ _; first
      | refine W.pure rfl rfl rfl rfl ?_
      | refine W.ldV rfl rfl rfl rfl rfl rfl ?_
      | refine W.binE rfl rfl rfl rfl (by assumption) ?_
      | refine W.cmpF rfl rfl rfl rfl (by simp only [cmpN]; first | done | omega) ?_
      | refine W.fieldAddr0 rfl rfl rfl rfl rfl ?_
      | refine W.boxA rfl rfl rfl (fun bq => ?_))
    | refine W.nil ?_
    | refine J.reg ?_
    | refine J.seq ?_
    | refine J.condF rfl ?_
    | refine J.skip ?_
  exact J.retF [] (res1 rfl rfl) rfl
theorem Check_bad {b l : Nat} (hb : b < 65536) (hl : l < 65536) (h : ¬ RuleOk b l) : CallF P 28 [ruleV b l] [] (err 11) [] := by
  have i1 := not511 hb; have i2 := not511 hl; have i3 := and1 hb
  refine callR_of Tryd.func28 rfl Tryd.ntmps28 rfl fun σ F => ?_
  by_cases h1 : b < 512
  · rw [not511_lo h1] at i1
    by_cases h2 : l < 512
    · rw [not511_lo h2] at i2
      have h3 : b % 2 = 1 := by unfold RuleOk at h; omega
      rw [h3] at i3
      repeat' first
        | (show W _ _ _ _ _ (_ :: _) _ _ _; first
          | refine W.pure rfl rfl rfl rfl ?_
          | refine W.ldV rfl rfl rfl rfl rfl rfl ?_
          | refine W.binE rfl rfl rfl rfl (by assumption) ?_
          | refine W.cmpT rfl rfl rfl rfl (by simp only [cmpP]; first | done | omega) ?_
          | refine W.cmpF rfl rfl rfl rfl (by simp only [cmpN]; first | done | omega) ?_
          | refine W.fieldAddr0 rfl rfl rfl rfl rfl ?_
          | refine W.boxA rfl rfl rfl (fun bq => ?_)
          | refine W.makeInterface rfl rfl rfl rfl ?_)
        | refine W.nil ?_
        | refine J.reg ?_
        | refine J.seq ?_
        | refine J.condT rfl ?_
      exact J.retF [] (res1 rfl rfl) rfl
    · have := not511_hi h2
      repeat' first
        | (show W _ _ _ _ _ (_ :: _) _ _ _; first
          | refine W.pure rfl rfl rfl rfl ?_
          | refine W.ldV rfl rfl rfl rfl rfl rfl ?_
          | refine W.binE rfl rfl rfl rfl (by assumption) ?_
          | refine W.cmpT rfl rfl rfl rfl (by simp only [cmpP]; first | done | omega) ?_
          | refine W.cmpF rfl rfl rfl rfl (by simp only [cmpN]; first | done | omega) ?_
          | refine W.fieldAddr0 rfl rfl rfl rfl rfl ?_
          | refine W.skip rfl rfl ?_
          | refine W.boxA rfl rfl rfl (fun bq => ?_)
          | refine W.makeInterface rfl rfl rfl rfl ?_)
        | refine W.nil ?_
        | refine J.reg ?_
        | refine J.seq ?_
        | refine J.condT rfl ?_
      exact J.retF [] (res1 rfl rfl) rfl
  · have := not511_hi h1
    repeat' first
      | (show W _ _ _ _ _ (_ :: _) _ _ _; first
        | refine W.pure rfl rfl rfl rfl ?_
        | refine W.ldV rfl rfl rfl rfl rfl rfl ?_
        | refine W.binE rfl rfl rfl rfl (by assumption) ?_
        | refine W.cmpT rfl rfl rfl rfl (by simp only [cmpP]; first | done | omega) ?_
        | refine W.fieldAddr0 rfl rfl rfl rfl rfl ?_
        | refine W.skip rfl rfl ?_
        | refine W.boxA rfl rfl rfl (fun bq => ?_)
        | refine W.makeInterface rfl rfl rfl rfl ?_)
      | refine W.nil ?_
      | refine J.reg ?_
      | refine J.seq ?_
      | refine J.condT rfl ?_
    exact J.retF [] (res1 rfl rfl) rfl
theorem and1' {b n : Nat} (h : b < 65536) : bitI .and .u16 ((b / 2 ^ n : Nat) : Int) 1 = ((b / 2 ^ n % 2 : Nat) : Int) := by
  have := and_u (k := .u16) (a := b / 2 ^ n) (b := 1) rfl (Nat.lt_of_le_of_lt (Nat.div_le_self _ _) h) (by decide)
  rw [show ((1 : Int)) = ((1 : Nat) : Int) from rfl, this, Nat.and_one_is_mod]
theorem Next_is {b l n : Nat} {v : Bool} (h : RuleOk b l) (hn : n ≤ 8) : CallF P 67 [ruleV b l, .bool v, int n] [] (.tuple #[.bool (nextB b l v n), .nilIface]) [] := by
  have hb := h.1; have hl := h.2.1
  have tb : ∀ q, ((((q / 2 ^ n % 2 : Nat) : Int)) == 1) = q.testBit n := fun q => by
    rw [Nat.testBit_eq_decide_div_mod_eq]
    by_cases h : q / 2 ^ n % 2 = 1
    · simp [h]
    · have : q / 2 ^ n % 2 = 0 := by omega
      simp [this]
  refine callR_of Tryd.func67 rfl Tryd.ntmps67 rfl fun σ F => ?_
  cases v
  · repeat' first
      | (show W _ _ _ _ _ (_ :: _) _ _ _; first
        | refine W.pure rfl rfl rfl rfl ?_
        | refine W.ldaV rfl rfl rfl rfl rfl rfl ?_
        | refine W.boxA rfl rfl rfl (fun bq => ?_))
      | refine W.nil ?_
      | refine J.reg ?_
      | refine J.seq ?_
    refine W.call0 (Check_ok h) rfl rfl rfl ?_
    repeat' first
      | (show W _ _ _ _ _ (_ :: _) _ _ _; first
        | refine W.pure rfl rfl rfl rfl ?_
        | refine W.ldV rfl rfl rfl rfl rfl rfl ?_
        | refine W.cmpF rfl rfl rfl rfl (by simp only [cmpN]; first | done | omega) ?_
        | refine W.fieldAddr0 rfl rfl rfl rfl rfl ?_
        | refine W.bin rfl rfl rfl rfl rfl ?_
        | refine W.shr rfl rfl rfl rfl (by omega) ?_
        | refine W.neIfNilT rfl rfl rfl ?_)
      | refine W.nil ?_
      | refine J.reg ?_
      | refine J.seq ?_
      | refine J.condF rfl ?_
      | refine J.skip ?_
    refine J.retF [] (res2 rfl rfl rfl) ?_
    rw [shr_nat (by show n ≤ 16; omega), and1' (by omega), tb]; rfl
  · repeat' first
      | (show W _ _ _ _ _ (_ :: _) _ _ _; first
        | refine W.pure rfl rfl rfl rfl ?_
        | refine W.ldaV rfl rfl rfl rfl rfl rfl ?_
        | refine W.boxA rfl rfl rfl (fun bq => ?_))
      | refine W.nil ?_
      | refine J.reg ?_
      | refine J.seq ?_
    refine W.call0 (Check_ok h) rfl rfl rfl ?_
    repeat' first
      | (show W _ _ _ _ _ (_ :: _) _ _ _; first
        | refine W.pure rfl rfl rfl rfl ?_
        | refine W.ldV rfl rfl rfl rfl rfl rfl ?_
        | refine W.cmpF rfl rfl rfl rfl (by simp only [cmpN]; first | done | omega) ?_
        | refine W.fieldAddr0 rfl rfl rfl rfl rfl ?_
        | refine W.bin rfl rfl rfl rfl rfl ?_
        | refine W.shr rfl rfl rfl rfl (by omega) ?_
        | refine W.neIfNilT rfl rfl rfl ?_)
      | refine W.nil ?_
      | refine J.reg ?_
      | refine J.seq ?_
      | refine J.condT rfl ?_
      | refine J.condF rfl ?_
      | refine J.skip ?_
    refine J.retF [] (res2 rfl rfl rfl) ?_
    rw [shr_nat (by show n ≤ 16; omega), and1' (by omega), tb]; rfl

theorem QNew_is {room : Nat} (h1 : 1 ≤ room) (h2 : room ≤ 65536) : CallR P 9 [int room] [] fun v N => ∃ s, v = .tuple #[ptr s, .nilIface] ∧ N = [(s, treeP s room [])] := by
  refine callR_of Tryd.func9 rfl Tryd.ntmps9 rfl fun σ F => ?_
  repeat' first
    | (show W _ _ _ _ _ (_ :: _) _ _ _; first
      | refine W.pure rfl rfl rfl rfl ?_
      | refine W.cmpF rfl rfl rfl rfl (by simp only [cmpN]; first | done | omega) ?_
      | refine W.boxA rfl rfl rfl (fun bq => ?_)
      | refine W.build rfl rfl rfl ?_
      | refine W.makeMap0 rfl rfl (fun bm => ?_))
    | refine W.nil ?_
    | refine J.reg ?_
    | refine J.seq ?_
    | refine J.condF rfl ?_
    | refine J.skip ?_
  refine J.addNil (bq + 1) 80 6 ?_
  refine J.addNil (bq + 2) 3 1 ?_
  refine J.shutNew (st := stOf room []) bq (bq + 1) (bq + 2) bm rfl rfl rfl rfl rfl rfl rfl ?_ ?_
  · exact Reg.rep ⟨List.nodup_nil, by simp, by simp, by simp⟩ (by simp) h2
  exact J.retR [bq] (res2 rfl rfl rfl) ⟨bq, rfl, rfl⟩
theorem GNew_is {s b l : Nat} (h : RuleOk b l) (ok : Int → Int → Int → Prop) : CallR P 8 [ptr s, ruleV b l] [] fun v N => ∃ g, v = .tuple #[ptr g, .nilIface] ∧ N = [(g, growP g s b l 0 ok)] := by
  refine callR_of Tryd.func8 rfl Tryd.ntmps8 rfl fun σ F => ?_
  repeat' first
    | (show W _ _ _ _ _ (_ :: _) _ _ _; first
      | refine W.pure rfl rfl rfl rfl ?_
      | refine W.ldaV rfl rfl rfl rfl rfl rfl ?_
      | refine W.boxA rfl rfl rfl (fun bq => ?_)
      | refine W.eqPtNil rfl rfl rfl ?_)
    | refine W.nil ?_
    | refine J.reg ?_
    | refine J.seq ?_
    | refine J.condF rfl ?_
    | refine J.skip ?_
  refine W.call0 (Check_ok h) rfl rfl rfl ?_
  repeat' first
    | (show W _ _ _ _ _ (_ :: _) _ _ _; first
      | refine W.pure rfl rfl rfl rfl ?_
      | refine W.ldaV rfl rfl rfl rfl rfl rfl ?_
      | refine W.boxA rfl rfl rfl (fun bq => ?_)
      | refine W.neIfNilT rfl rfl rfl ?_
      | refine W.build rfl rfl rfl ?_
      | refine W.makeMap0 rfl rfl (fun bm => ?_))
    | refine W.nil ?_
    | refine J.reg ?_
    | refine J.seq ?_
    | refine J.condF rfl ?_
    | refine J.skip ?_
  refine J.shutG (m := 0) (ok := ok) bq bm (by simp) rfl ?_
  exact J.retR [bq] (res2 rfl rfl rfl) ⟨bq, rfl, rfl⟩
theorem GNew_bad {s b l : Nat} (hb : b < 65536) (hl : l < 65536) (h : ¬ RuleOk b l) : CallF P 8 [ptr s, ruleV b l] [] (.tuple #[.pointer none, err 11]) [] := by
  refine callR_of Tryd.func8 rfl Tryd.ntmps8 rfl fun σ F => ?_
  repeat' first
    | (show W _ _ _ _ _ (_ :: _) _ _ _; first
      | refine W.pure rfl rfl rfl rfl ?_
      | refine W.ldaV rfl rfl rfl rfl rfl rfl ?_
      | refine W.boxA rfl rfl rfl (fun bq => ?_)
      | refine W.eqPtNil rfl rfl rfl ?_)
    | refine W.nil ?_
    | refine J.reg ?_
    | refine J.seq ?_
    | refine J.condF rfl ?_
    | refine J.skip ?_
  refine W.call0 (Check_bad hb hl h) rfl rfl rfl ?_
  repeat' first
    | refine W.pure rfl rfl rfl rfl ?_
    | refine W.neIfNilF rfl rfl rfl ?_
    | refine W.nil ?_
    | refine J.reg ?_
    | refine J.seq ?_
    | refine J.condT rfl ?_
  exact J.retF [] (res2 rfl rfl rfl) rfl
theorem GNew_nil {b l : Nat} : CallF P 8 [.pointer none, ruleV b l] [] (.tuple #[.pointer none, err 1]) [] := by
  refine callR_of Tryd.func8 rfl Tryd.ntmps8 rfl fun σ F => ?_
  repeat' first
    | (show W _ _ _ _ _ (_ :: _) _ _ _; first
      | refine W.pure rfl rfl rfl rfl ?_
      | refine W.boxA rfl rfl rfl (fun bq => ?_)
      | refine W.eqPtNil rfl rfl rfl ?_
      | refine W.makeInterface rfl rfl rfl rfl ?_)
    | refine W.nil ?_
    | refine J.reg ?_
    | refine J.seq ?_
    | refine J.condT rfl ?_
  exact J.retF [] (res2 rfl rfl rfl) rfl
end Go.Proofs.YtphnadpmpcifoaaDoor
