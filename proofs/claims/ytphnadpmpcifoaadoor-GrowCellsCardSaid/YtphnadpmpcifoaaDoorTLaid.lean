/-
  The laws' own: May, field, laid.
-/
import Derived.Test.YtphnadpmpcifoaaDoorTDo
import Derived.Test.YtphnadpmpcifoaaDoorLaid
namespace Go.Sq
variable {P : Program} {ops : Array Oper} {n : Nat} {bars : Nat → Bool} {K : EnvF → List Ent → List Ent → Prop} {l : List (Nat × Oper)} {E : Env} {St V : List Ent} {i : Nat} {d : Tmp} {ty : TypeId} {pos : String} {aft : Array Edge} {g : Option (Nat × Bool)}
theorem W.makeRow {T : TypeId} {x : Operand} {e by_ m : Nat} {z : Value} (hw : wants ops ⟨some d, .makeSlice T x x, ty, pos, aft, g⟩ E.get = some true) (hf : fits n ⟨some d, .makeSlice T x x, ty, pos, aft, g⟩ = true) (hx : evO E x = some (.int .i64 (m : Int)))
    [hu : Und P T (.slice e)] [hi : Inf P e 1 by_ z] (hz : z.cells = #[z]) (h0 : 0 < m) (hm : m ≤ 65536) (hb : by_ ≤ 64)
    (h : ∀ b, W P ops n bars K l ((d, .slice (some ⟨b, 0, none⟩) m m) :: E) St ((b, pts b (.cells (List.replicate m z).toArray e (0, 0))) :: V)) : W P ops n bars K ((i, ⟨some d, .makeSlice T x x, ty, pos, aft, g⟩) :: l) E St V := by
  refine W.alloc' (mk := fun b => .slice (some ⟨b, 0, none⟩) m m) hw hf (k2 hx hx rfl) rfl (fun w => ?_) h
  obtain ⟨inf, i1, i2, i3, i4⟩ := hi.get
  have e1 : IntKind.i64.wrap (m : Int) = m := wrap_i64 (by omega) (by omega)
  have h1 : by_ * m ≤ 64 * 65536 := Nat.mul_le_mul hb hm
  have h2 : m * by_ ≤ 64 * 65536 := by rw [Nat.mul_comm]; exact h1
  have h3 : ¬ (281474976710656 < (by_ : Int) * (m : Int)) := by
    have : ((by_ * m : Nat) : Int) ≤ ((64 * 65536 : Nat) : Int) := Int.ofNat_le.2 h1
    rw [Int.natCast_mul] at this
    omega
  have h4 : ¬ (m * by_ > roomBytes) := by unfold roomBytes; omega
  have h5 : ¬ (m = 0) := by omega
  have h6 : ¬ ((m : Int) < 0) := by omega
  have h7 : (Array.range m).map (fun _ : Nat => z) = (List.replicate m z).toArray := by
    apply Array.ext
    · simp
    · intro i a1 a2; simp
  simp [execOp, evO_evf hx, Instr.makeSlice, run_underlying hu.out, asInt, asIntOf, typeInfo, Nat.mod_one, h7, i1, i3, e1, h3, h6, askRoom, run_sizeOf hi, h5, run_zero hi, hz, newRow, newObj]
  rfl
end Go.Sq
namespace Go.Proofs.YtphnadpmpcifoaaDoor
open Go.Sq Go.Qm
attribute [local irreducible] SW J T.lev T.ok T.k0 T.k1 T.k2 T.k3 T.cells num T.ctr T.grow T.growNew fieldN laidT laidNew T.empty T.emptyNew T.set T.setNew
set_option maxHeartbeats 8000000
set_option maxRecDepth 10000
theorem May_ok {b l : Nat} (h : RuleOk b l) : CallF P 12 [ruleV b l] [] (.bool true) [] := by
  obtain ⟨h1, h2, h3⟩ := h
  refine callR_of Tryd.func12 rfl Tryd.ntmps12 rfl fun σ F => ?_
  repeat' first
    | (show W _ _ _ _ _ (_ :: _) _ _ _; first
      | refine W.pure rfl rfl rfl rfl ?_
      | refine W.ldV rfl rfl rfl rfl rfl rfl ?_
      | refine W.cmpT rfl rfl rfl rfl (by simp only [cmpP]; first | done | omega) ?_
      | refine W.fieldAddr0 rfl rfl rfl rfl rfl ?_
      | refine W.boxA rfl rfl rfl (fun bq => ?_)
      | refine W.rem rfl rfl rfl rfl (by omega) (by omega) ?_)
    | refine W.nil ?_
    | refine J.reg ?_
    | refine J.seq ?_
  exact J.retF [] (res1 rfl rfl) rfl
theorem May_no {b l : Nat} (h : ¬ RuleOk b l) : CallF P 12 [ruleV b l] [] (.bool false) [] := by
  refine callR_of Tryd.func12 rfl Tryd.ntmps12 rfl fun σ F => ?_
  by_cases h1 : b < 512
  · by_cases h2 : l < 512
    · have h3 : b % 2 = 1 := by unfold RuleOk at h; omega
      repeat' first
        | (show W _ _ _ _ _ (_ :: _) _ _ _; first
          | refine W.pure rfl rfl rfl rfl ?_
          | refine W.ldV rfl rfl rfl rfl rfl rfl ?_
          | refine W.cmpT rfl rfl rfl rfl (by simp only [cmpP]; first | done | omega) ?_
          | refine W.cmpF rfl rfl rfl rfl (by simp only [cmpN]; first | done | omega) ?_
          | refine W.fieldAddr0 rfl rfl rfl rfl rfl ?_
          | refine W.boxA rfl rfl rfl (fun bq => ?_)
          | refine W.rem rfl rfl rfl rfl (by omega) (by omega) ?_)
        | refine W.nil ?_
        | refine J.reg ?_
        | refine J.seq ?_
      exact J.retF [] (res1 rfl rfl) rfl
    · repeat' first
        | (show W _ _ _ _ _ (_ :: _) _ _ _; first
          | refine W.pure rfl rfl rfl rfl ?_
          | refine W.ldV rfl rfl rfl rfl rfl rfl ?_
          | refine W.cmpT rfl rfl rfl rfl (by simp only [cmpP]; first | done | omega) ?_
          | refine W.cmpF rfl rfl rfl rfl (by simp only [cmpN]; first | done | omega) ?_
          | refine W.fieldAddr0 rfl rfl rfl rfl rfl ?_
          | refine W.skip rfl rfl ?_
          | refine W.boxA rfl rfl rfl (fun bq => ?_))
        | refine W.nil ?_
        | refine J.reg ?_
        | refine J.seq ?_
      exact J.retF [] (res1 rfl rfl) rfl
  · repeat' first
      | (show W _ _ _ _ _ (_ :: _) _ _ _; first
        | refine W.pure rfl rfl rfl rfl ?_
        | refine W.ldV rfl rfl rfl rfl rfl rfl ?_
        | refine W.cmpF rfl rfl rfl rfl (by simp only [cmpN]; first | done | omega) ?_
        | refine W.fieldAddr0 rfl rfl rfl rfl rfl ?_
        | refine W.skip rfl rfl ?_
        | refine W.boxA rfl rfl rfl (fun bq => ?_))
      | refine W.nil ?_
      | refine J.reg ?_
      | refine J.seq ?_
    exact J.retF [] (res1 rfl rfl) rfl
/-- What a slice of numbers points to. -/
def sliP (len bl : Nat) (c : Array Value) (T : TypeId) (fz : Nat × Nat) : HP := fun h => if len = 0 then (∀ b, h b = none) else pts bl (.cells c T fz) h
theorem sliP_pos {len bl : Nat} {c : Array Value} {T : TypeId} {fz : Nat × Nat} (h : 0 < len) : sliP len bl c T fz = pts bl (.cells c T fz) := by
  funext x; unfold sliP; rw [if_neg (by omega)]
abbrev boolP (b : Nat) (l : List Bool) : HP := pts b (.cells (l.map Value.bool).toArray 4 (0, 0))
theorem field_is {av : Option Addr} {len cap bl off w : Nat} {c : Array Value} {T0 : TypeId} {fz : Nat × Nat} {z : Nat → Nat} (hv : 0 < len → av = some ⟨bl, off, none⟩) (hlen : len ≤ 9223372036854775807) (hc : ∀ i, i < len → c.toList[off + i * 1]? = some (u64v (z i)) ∧ z i < 18446744073709551616) (h0 : 0 < w) (hw : w ≤ 64) :
    CallR P 15 [.slice av len cap, int w] [(bl, sliP len bl c T0 fz)] fun v N => ∃ b, v = .slice (some ⟨b, 0, none⟩) (w * w) (w * w) ∧ N = [(b, boolP b (fieldN z w (min len 60))), (bl, sliP len bl c T0 fz)] := by
  have hw2 : w * w ≤ 64 * 64 := Nat.mul_le_mul hw hw
  have hw0 : 0 < w * w := Nat.mul_pos h0 h0
  have f1 : IntE .mul .i64 (w : Int) (w : Int) (int ((w * w : Nat) : Int)) := ⟨by simp only [intV]; rw [← Int.natCast_mul, wrap_i64 (by omega) (by omega)]⟩
  have f2 : ConvE .u64 (w : Int) (w : Int) := ⟨wrap_u (k := .u64) rfl (Nat.lt_of_le_of_lt hw (by decide))⟩
  refine callR_of Tryd.func15 rfl Tryd.ntmps15 rfl fun σ F => ?_
  repeat' first
    | (show W _ _ _ _ _ (_ :: _) _ _ _; first
      | refine W.makeRow rfl rfl rfl rfl hw0 (by omega) (by omega) (fun bo => ?_)
      | refine W.pure rfl rfl rfl rfl ?_
      | refine W.binE rfl rfl rfl rfl (by assumption) ?_)
    | refine W.nil ?_
    | refine J.reg ?_
    | refine J.seq ?_
    | refine J.block ?_
  have z0 : (List.replicate (w * w) (Value.bool false)) = (fieldN z w 0).map Value.bool := by unfold fieldN; rw [List.map_replicate]
  rw [z0]
  refine J.loop (X := Nat) (fun k => k ≤ len ∧ k ≤ 60) (fun k => len - k) (fun k => [(0, .slice av len cap), (1, int w), (5, .slice (some ⟨bo, 0, none⟩) (w * w) (w * w)), (6, int k)])
    (fun k => [(bo, boolP bo (fieldN z w k)), (bl, sliP len bl c T0 fz)]) 0 ⟨by omega, by omega⟩ ⟨rfl, rfl, rfl, rfl, trivial⟩ (.refl _) fun k hk => ?_
  obtain ⟨hk1, hk2⟩ := hk
  by_cases hlt : k < len ∧ k < 60
  · obtain ⟨hl1, hl2⟩ := hlt
    have hs : sliP len bl c T0 fz = pts bl (.cells c T0 fz) := sliP_pos (by omega)
    obtain ⟨hcell, hz⟩ := hc k hl1
    have hav := hv (by omega)
    subst hav
    have m1 : z k % w < w := Nat.mod_lt _ h0
    have m2 : z k / 64 % w < w := Nat.mod_lt _ h0
    have r1 : ((z k : Nat) : Int) % (w : Int) = ((z k % w : Nat) : Int) := rfl
    have r2 : ((z k : Nat) : Int) / 64 = ((z k / 64 : Nat) : Int) := rfl
    have r3 : ((z k / 64 : Nat) : Int) % (w : Int) = ((z k / 64 % w : Nat) : Int) := rfl
    have q1 : IntKind.u64.wrap (((z k : Nat) : Int) / 64) = ((z k : Nat) : Int) / 64 := by rw [r2]; exact wrap_u (k := .u64) rfl (Nat.lt_of_le_of_lt (Nat.div_le_self _ _) hz)
    have f3 : ConvE .i64 ((z k % w : Nat) : Int) ((z k % w : Nat) : Int) := ⟨wrap_i64 (by omega) (by omega)⟩
    have f4 : ConvE .i64 ((z k / 64 % w : Nat) : Int) ((z k / 64 % w : Nat) : Int) := ⟨wrap_i64 (by omega) (by omega)⟩
    have hat := field_at (z k) w h0
    have hm : w * (z k / 64 % w) ≤ w * w := Nat.mul_le_mul_left _ (by omega)
    have f5 : IntE .mul .i64 (w : Int) ((z k / 64 % w : Nat) : Int) (int ((w * (z k / 64 % w) : Nat) : Int)) := ⟨by simp only [intV]; rw [← Int.natCast_mul, wrap_i64 (by omega) (by omega)]⟩
    have f6 : IntE .add .i64 ((w * (z k / 64 % w) : Nat) : Int) ((z k % w : Nat) : Int) (int ((w * (z k / 64 % w) + z k % w : Nat) : Int)) := ⟨by simp only [intV]; rw [← Int.natCast_add, wrap_i64 (by omega) (by omega)]⟩
    have hlen2 := fieldN_len z w k
    have hin : Nat.blt (0 + ((w * (z k / 64 % w) + z k % w : Nat) : Int).toNat * 1) ((fieldN z w k).map Value.bool).toArray.size = true := by
      rw [Nat.blt]
      refine Nat.ble_eq_true_of_le ?_
      simp only [List.size_toArray, List.length_map, hlen2]
      omega
    have hset : (((fieldN z w k).map Value.bool).toArray.toList.set (0 + ((w * (z k / 64 % w) + z k % w : Nat) : Int).toNat * 1) (.bool true)) = (fieldN z w (k + 1)).map Value.bool := by
      have e : 0 + ((w * (z k / 64 % w) + z k % w : Nat) : Int).toNat * 1 = w * (z k / 64 % w) + z k % w := by omega
      rw [e, fieldN, List.map_set]
    rw [hs]
    repeat' first
      | (show W _ _ _ _ _ (_ :: _) _ _ _; first
        | refine W.pure rfl rfl rfl rfl ?_
        | refine W.cmpT rfl rfl rfl rfl (by simp only [cmpP]; first | done | omega) ?_
        | refine W.lenSlice rfl rfl rfl ?_)
      | refine W.nil ?_
      | refine J.reg ?_
      | refine J.seq ?_
      | refine J.condT rfl ?_
      | refine J.block ?_
      | refine J.skip ?_
    refine J.regD [] mixed (by kernel_rfl) ?_
    repeat' first
      | (show W _ _ _ _ _ (_ :: _) _ _ _; first
        | refine W.ld rfl rfl rfl rfl hcell ?_
        | refine W.remE rfl rfl rfl rfl (by omega) (by omega) r1 ?_
        | refine W.remE rfl rfl rfl rfl (by omega) (by omega) r3 ?_
        | refine W.quo rfl rfl rfl rfl (by omega) (by omega) q1 ?_
        | refine W.store1 rfl rfl rfl rfl rfl rfl hin hset ?_
        | refine W.pure rfl rfl rfl rfl ?_
        | refine W.binE rfl rfl rfl rfl (by assumption) ?_
        | refine W.convE rfl rfl rfl (by assumption) ?_
        | refine W.add64 rfl rfl rfl rfl (by omega) ?_
        | refine W.indexAddrS rfl rfl rfl rfl (by omega) ?_)
      | refine W.nil ?_
      | refine J.reg ?_
      | refine J.endBlk ?_
    exact J.again (k + 1) ⟨by omega, by omega⟩ (by omega) ⟨rfl, rfl, rfl, rfl, trivial⟩ (.refl _)
  · by_cases hl1 : k < len
    · obtain rfl : k = 60 := by omega
      repeat' first
        | (show W _ _ _ _ _ (_ :: _) _ _ _; first
          | refine W.pure rfl rfl rfl rfl ?_
          | refine W.cmpT rfl rfl rfl rfl (by simp only [cmpP]; first | done | omega) ?_
          | refine W.cmpF rfl rfl rfl rfl (by simp only [cmpN]; first | done | omega) ?_
          | refine W.lenSlice rfl rfl rfl ?_)
        | refine W.nil ?_
        | refine J.reg ?_
        | refine J.seq ?_
        | refine J.condF rfl ?_
        | refine J.exit rfl ?_
      exact J.retR [bo, bl] (res1 rfl rfl) ⟨bo, rfl, by rw [Nat.min_eq_right hk1]⟩
    · obtain rfl : k = len := by omega
      repeat' first
        | (show W _ _ _ _ _ (_ :: _) _ _ _; first
          | refine W.pure rfl rfl rfl rfl ?_
          | refine W.cmpF rfl rfl rfl rfl (by simp only [cmpN]; first | done | omega) ?_
          | refine W.skip rfl rfl ?_
          | refine W.lenSlice rfl rfl rfl ?_)
        | refine W.nil ?_
        | refine J.reg ?_
        | refine J.seq ?_
        | refine J.condF rfl ?_
        | refine J.exit rfl ?_
      exact J.retR [bo, bl] (res1 rfl rfl) ⟨bo, rfl, by rw [Nat.min_eq_left hk2]⟩
theorem laid_is {s room m w : Nat} {U ts : List T} {bo : Nat} {l : List Bool} (h : Inv room U ts) (hm : 3 ≤ m) (hm2 : m ≤ 12) (hw : w = 2 ^ m) (hl : l.length = w * w) (hu : ∀ t ∈ laidNew m w (fun i => l.getD i false) (w * w), t ∈ U) :
    CallF P 16 [ptr s, .slice (some ⟨bo, 0, none⟩) (w * w) (w * w), int w] [(bo, boolP bo l), (s, treeP s room ts)]
      (int (num (puts ts (laidNew m w (fun i => l.getD i false) (w * w))) (laidT m w (fun i => l.getD i false) (w * w)))) [(bo, boolP bo l), (s, treeP s room (puts ts (laidNew m w (fun i => l.getD i false) (w * w))))] := by
  have hwle : w ≤ 2 ^ 12 := by rw [hw]; exact Nat.pow_le_pow_right (by omega) hm2
  have hw0 : 0 < w := by rw [hw]; exact Nat.pow_pos (by omega)
  have hww : w * w ≤ 4096 * 4096 := Nat.mul_le_mul hwle hwle
  have p40 : ∀ k, k ≤ m → 2 ^ k ≤ w := fun k hk => by rw [hw]; exact Nat.pow_le_pow_right (by omega) hk
  have plt : ∀ k, k < m → 2 ^ k < w := fun k hk => by rw [hw]; exact Nat.pow_lt_pow_right (by omega) hk
  have lg := fun i (hi : i ≤ w * w) => laid_goods (fun i => l.getD i false) h hm (by omega) hw i hi fun t ht => hu t (laidNew_mono _ hi ht)
  have lv := fun i (hi : i ≤ w * w) => laidT_lev (fun i => l.getD i false) hm hw i hi
  refine callR_of Tryd.func16 rfl Tryd.ntmps16 rfl fun σ F => ?_
  repeat' first
    | refine W.pure rfl rfl rfl rfl ?_
    | refine W.nil ?_
    | refine J.reg ?_
    | refine J.seq ?_
    | refine J.block ?_
  refine J.loop (X := Nat) (fun k => k ≤ m) (fun k => m - k) (fun k => [(0, ptr s), (1, .slice (some ⟨bo, 0, none⟩) (w * w) (w * w)), (2, int w), (7, int k), (8, int ((2 ^ k : Nat) : Int))])
    (fun _ => [(bo, boolP bo l), (s, treeP s room ts)]) 0 (by omega) ⟨rfl, rfl, rfl, rfl, rfl, trivial⟩ (.refl _) fun k hk => ?_
  by_cases hlt : k < m
  · have := plt k hlt
    have e : (2 : Int) * ((2 ^ k : Nat) : Int) = ((2 ^ (k + 1) : Nat) : Int) := by rw [Nat.pow_succ]; omega
    have f1 : IntE .mul .i64 2 ((2 ^ k : Nat) : Int) (int ((2 ^ (k + 1) : Nat) : Int)) := ⟨by
      have := p40 (k + 1) hlt
      simp only [intV]; rw [e, wrap_i64n (by omega)]⟩
    repeat' first
      | (show W _ _ _ _ _ (_ :: _) _ _ _; first
        | refine W.pure rfl rfl rfl rfl ?_
        | refine W.binE rfl rfl rfl rfl (by assumption) ?_
        | refine W.cmpT rfl rfl rfl rfl (by simp only [cmpP]; first | done | omega) ?_
        | refine W.add64 rfl rfl rfl rfl (by omega) ?_)
      | refine W.nil ?_
      | refine J.reg ?_
      | refine J.seq ?_
      | refine J.condT rfl ?_
      | refine J.block ?_
      | refine J.endBlk ?_
      | refine J.skip ?_
    exact J.again (k + 1) (by omega) (by omega) ⟨rfl, rfl, rfl, rfl, rfl, trivial⟩ (.refl _)
  · obtain rfl : k = m := by omega
    have hwk : ¬ (2 ^ k < w) := by omega
    have e0 : laidNew k w (fun i => l.getD i false) 0 = T.emptyNew (k - 3) := by rw [laidNew]
    have t0 : laidT k w (fun i => l.getD i false) 0 = T.empty (k - 3) := by rw [laidT]
    have hE := Empty_is (s := s) (k := k - 3) (L := (k : Int)) h (by omega) (by omega) (fun t ht => hu t (laidNew_mono _ (Nat.zero_le _) (by rw [e0]; exact ht)))
    rw [← e0, ← t0] at hE
    repeat' first
      | (show W _ _ _ _ _ (_ :: _) _ _ _; first
        | refine W.call1 hE rfl rfl rfl ?_
        | refine W.pure rfl rfl rfl rfl ?_
        | refine W.cmpF rfl rfl rfl rfl (by simp only [cmpN]; first | done | omega) ?_)
      | refine W.nil ?_
      | refine J.reg ?_
      | refine J.seq ?_
      | refine J.condF rfl ?_
      | refine J.block ?_
      | refine J.exit rfl ?_
    refine J.loop (X := Nat) (fun i => i ≤ w * w) (fun i => w * w - i) (fun i => [(0, ptr s), (1, .slice (some ⟨bo, 0, none⟩) (w * w) (w * w)), (2, int w), (9, int (num (puts ts (laidNew k w (fun i => l.getD i false) i)) (laidT k w (fun i => l.getD i false) i))), (10, .nilIface), (11, int i)])
      (fun i => [(bo, boolP bo l), (s, treeP s room (puts ts (laidNew k w (fun i => l.getD i false) i)))]) 0 (by omega) ⟨rfl, rfl, rfl, rfl, rfl, rfl, trivial⟩ (.swap _ _ _) fun i hi => ?_
    by_cases hil : i < w * w
    · have hcell : (l.map Value.bool)[0 + (i : Int).toNat * 1]? = some (.bool (l.getD i false)) := by
        have e : 0 + (i : Int).toNat * 1 = i := by omega
        have hlt : i < l.length := by omega
        rw [e, List.getElem?_map, List.getD_eq_getElem?_getD, List.getElem?_eq_getElem hlt]; rfl
      obtain ⟨g1, g2⟩ := lg i hi
      obtain ⟨v1, v2⟩ := lv i hi
      cases hc : l.getD i false with
      | false =>
        rw [hc] at hcell
        have e1 : laidNew k w (fun i => l.getD i false) (i + 1) = laidNew k w (fun i => l.getD i false) i := by rw [laidNew]; simp only [hc]; rfl
        have e2 : laidT k w (fun i => l.getD i false) (i + 1) = laidT k w (fun i => l.getD i false) i := by rw [laidT]; simp only [hc]; rfl
        repeat' first
          | (show W _ _ _ _ _ (_ :: _) _ _ _; first
            | refine W.ldV rfl rfl rfl rfl rfl hcell ?_
            | refine W.pure rfl rfl rfl rfl ?_
            | refine W.cmpT rfl rfl rfl rfl (by simp only [cmpP]; first | done | omega) ?_
            | refine W.add64 rfl rfl rfl rfl (by omega) ?_
            | refine W.indexAddrS rfl rfl rfl rfl (by omega) ?_
            | refine W.lenSlice rfl rfl rfl ?_
            | refine W.eqIfNilT rfl rfl rfl ?_)
          | refine W.nil ?_
          | refine J.reg ?_
          | refine J.seq ?_
          | refine J.condT rfl ?_
          | refine J.condF rfl ?_
          | refine J.block ?_
          | refine J.endBlk ?_
          | refine J.skip ?_
        exact J.again (i + 1) (by omega) (by omega) ⟨rfl, rfl, rfl, by rw [e1, e2]; rfl, rfl, rfl, trivial⟩ (by rw [e1])
      | true =>
        rw [hc] at hcell
        have e1 : laidNew k w (fun i => l.getD i false) (i + 1) = laidNew k w (fun i => l.getD i false) i ++ (laidT k w (fun i => l.getD i false) i).setNew (i % w) (i / w) true := by rw [laidNew]; simp only [hc]; rfl
        have e2 : laidT k w (fun i => l.getD i false) (i + 1) = (laidT k w (fun i => l.getD i false) i).set (i % w) (i / w) true := by rw [laidT]; simp only [hc]; rfl
        have r1 : (i : Int) % (w : Int) = ((i % w : Nat) : Int) := rfl
        have r2 : (i : Int) / (w : Int) = ((i / w : Nat) : Int) := rfl
        have b1 : i % w < w := Nat.mod_lt _ hw0
        have b2 : i / w < w := Nat.div_lt_of_lt_mul hil
        have b3 : ∀ q : Nat, q < w → -9223372036854775808 ≤ (q : Int) ∧ (q : Int) ≤ 9223372036854775807 := fun q hq => by omega
        have hS := Set_is (s := s) true (laidT k w (fun i => l.getD i false) i) g1 (is_num g2) (x := i % w) (y := i / w) (by rw [v1, ← hw]; exact b1) (by rw [v1, ← hw]; exact b2) (fun u hm => hu u (laidNew_mono _ (i := i + 1) hil (by rw [e1]; exact List.mem_append_right _ hm)))
        rw [← puts_app, ← e1, ← e2] at hS
        repeat' first
          | (show W _ _ _ _ _ (_ :: _) _ _ _; first
            | refine W.ldV rfl rfl rfl rfl rfl hcell ?_
            | refine W.pure rfl rfl rfl rfl ?_
            | refine W.cmpT rfl rfl rfl rfl (by simp only [cmpP]; first | done | omega) ?_
            | refine W.indexAddrS rfl rfl rfl rfl (by omega) ?_
            | refine W.lenSlice rfl rfl rfl ?_
            | refine W.eqIfNilT rfl rfl rfl ?_)
          | refine W.nil ?_
          | refine J.reg ?_
          | refine J.seq ?_
          | refine J.condT rfl ?_
          | refine J.block ?_
          | refine J.skip ?_
        refine J.regD [s] mixed (by kernel_rfl) ?_
        repeat' first
          | (show W _ _ _ _ _ (_ :: _) _ _ _; first
            | refine W.remE rfl rfl rfl rfl (by omega) (by omega) r1 ?_
            | refine W.quoE rfl rfl rfl rfl (by omega) (by omega) r2 (b3 _ b2) ?_
            | refine W.call1 hS rfl rfl rfl ?_
            | refine W.pure rfl rfl rfl rfl ?_
            | refine W.add64 rfl rfl rfl rfl (by omega) ?_)
          | refine W.nil ?_
          | refine J.reg ?_
          | refine J.endBlk ?_
        exact J.again (i + 1) (by omega) (by omega) ⟨rfl, rfl, rfl, rfl, rfl, rfl, trivial⟩ (by first | exact .refl _ | exact .swap _ _ _)
    · obtain rfl : i = w * w := by omega
      repeat' first
        | (show W _ _ _ _ _ (_ :: _) _ _ _; first
          | refine W.pure rfl rfl rfl rfl ?_
          | refine W.cmpF rfl rfl rfl rfl (by simp only [cmpN]; first | done | omega) ?_
          | refine W.skip rfl rfl ?_
          | refine W.lenSlice rfl rfl rfl ?_
          | refine W.neIfNilT rfl rfl rfl ?_)
        | refine W.nil ?_
        | refine J.reg ?_
        | refine J.seq ?_
        | refine J.condF rfl ?_
        | refine J.skip ?_
        | refine J.exit rfl ?_
      exact J.retF [bo, s] (res1 rfl rfl) rfl
end Go.Proofs.YtphnadpmpcifoaaDoor
