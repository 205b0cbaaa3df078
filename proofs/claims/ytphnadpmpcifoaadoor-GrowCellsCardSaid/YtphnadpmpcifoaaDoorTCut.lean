/-
  Package tile: a field of four tiles; a tile cut out; small counts.
-/
import Derived.Test.YtphnadpmpcifoaaDoorTLay
namespace Go.Sq
variable {P : Program} {ops : Array Oper} {n : Nat} {bars : Nat → Bool} {K : EnvF → List Ent → List Ent → Prop} {l : List (Nat × Oper)} {E : Env} {St V : List Ent} {i : Nat} {d : Tmp} {ty : TypeId} {pos : String} {aft : Array Edge} {g : Option (Nat × Bool)}
theorem W.indexStr {x y : Operand} {T : TypeId} {s : ByteArray} {k : IntKind} {m : Int} {c : UInt8} (hw : wants ops ⟨some d, .index T x y, ty, pos, aft, g⟩ E.get = some true) (hf : fits n ⟨some d, .index T x y, ty, pos, aft, g⟩ = true) (hx : evO E x = some (.string s)) (hy : evO E y = some (.int k m))
    [hu : Und P T .string] (hm : 0 ≤ m) (hc : s[m.toNat]? = some c) (h : W P ops n bars K l ((d, .int .u8 c.toNat) :: E) St V) : W P ops n bars K ((i, ⟨some d, .index T x y, ty, pos, aft, g⟩) :: l) E St V :=
  W.quiet hw hf (k2 hx hy rfl) rfl (fun w => by simp [execOp, evO_evf hx, evO_evf hy, Instr.index, asIntOf, run_underlying hu.out, hm, hc]) h
end Go.Sq
namespace Go.Proofs.YtphnadpmpcifoaaDoor
open Go.Sq Go.Qm
attribute [local irreducible] SW J
set_option maxHeartbeats 4000000
set_option maxRecDepth 10000

theorem Ones32_is {z : Nat} (hz : z < 8) : CallF P 66 [u32v z] [] (int (pop3 z)) [] := by
  match z, hz with
  | 0, _ =>
    refine callR_of Tryd.func66 rfl Tryd.ntmps66 rfl fun σ F => ?_
    repeat' first
      | refine W.pure rfl rfl rfl rfl ?_
      | refine W.nil ?_
      | refine J.reg ?_
      | refine J.seq ?_
    refine J.regD [] mixed (by kernel_rfl) ?_
    repeat' first
      | (show W _ _ _ _ _ (_ :: _) _ _ _; first
        | refine W.indexStr (c := 0) rfl rfl rfl rfl (by decide) (by decide +kernel) ?_
        | refine W.pure rfl rfl rfl rfl ?_
        | refine W.bin rfl rfl rfl rfl rfl ?_
        | refine W.shr rfl rfl rfl rfl (by omega) ?_
        | refine W.conv rfl rfl rfl ?_)
      | refine W.nil ?_
    skip
    exact J.retF [] (res1 rfl rfl) (by kernel_rfl)
  | 1, _ =>
    refine callR_of Tryd.func66 rfl Tryd.ntmps66 rfl fun σ F => ?_
    repeat' first
      | refine W.pure rfl rfl rfl rfl ?_
      | refine W.nil ?_
      | refine J.reg ?_
      | refine J.seq ?_
    refine J.regD [] mixed (by kernel_rfl) ?_
    repeat' first
      | (show W _ _ _ _ _ (_ :: _) _ _ _; first
        | refine W.indexStr (c := 0) rfl rfl rfl rfl (by decide) (by decide +kernel) ?_
        | refine W.indexStr (c := 1) rfl rfl rfl rfl (by decide) (by decide +kernel) ?_
        | refine W.pure rfl rfl rfl rfl ?_
        | refine W.bin rfl rfl rfl rfl rfl ?_
        | refine W.shr rfl rfl rfl rfl (by omega) ?_
        | refine W.conv rfl rfl rfl ?_)
      | refine W.nil ?_
    skip
    exact J.retF [] (res1 rfl rfl) (by kernel_rfl)
  | 2, _ =>
    refine callR_of Tryd.func66 rfl Tryd.ntmps66 rfl fun σ F => ?_
    repeat' first
      | refine W.pure rfl rfl rfl rfl ?_
      | refine W.nil ?_
      | refine J.reg ?_
      | refine J.seq ?_
    refine J.regD [] mixed (by kernel_rfl) ?_
    repeat' first
      | (show W _ _ _ _ _ (_ :: _) _ _ _; first
        | refine W.indexStr (c := 0) rfl rfl rfl rfl (by decide) (by decide +kernel) ?_
        | refine W.indexStr (c := 1) rfl rfl rfl rfl (by decide) (by decide +kernel) ?_
        | refine W.pure rfl rfl rfl rfl ?_
        | refine W.bin rfl rfl rfl rfl rfl ?_
        | refine W.shr rfl rfl rfl rfl (by omega) ?_
        | refine W.conv rfl rfl rfl ?_)
      | refine W.nil ?_
    skip
    exact J.retF [] (res1 rfl rfl) (by kernel_rfl)
  | 3, _ =>
    refine callR_of Tryd.func66 rfl Tryd.ntmps66 rfl fun σ F => ?_
    repeat' first
      | refine W.pure rfl rfl rfl rfl ?_
      | refine W.nil ?_
      | refine J.reg ?_
      | refine J.seq ?_
    refine J.regD [] mixed (by kernel_rfl) ?_
    repeat' first
      | (show W _ _ _ _ _ (_ :: _) _ _ _; first
        | refine W.indexStr (c := 0) rfl rfl rfl rfl (by decide) (by decide +kernel) ?_
        | refine W.indexStr (c := 2) rfl rfl rfl rfl (by decide) (by decide +kernel) ?_
        | refine W.pure rfl rfl rfl rfl ?_
        | refine W.bin rfl rfl rfl rfl rfl ?_
        | refine W.shr rfl rfl rfl rfl (by omega) ?_
        | refine W.conv rfl rfl rfl ?_)
      | refine W.nil ?_
    skip
    exact J.retF [] (res1 rfl rfl) (by kernel_rfl)
  | 4, _ =>
    refine callR_of Tryd.func66 rfl Tryd.ntmps66 rfl fun σ F => ?_
    repeat' first
      | refine W.pure rfl rfl rfl rfl ?_
      | refine W.nil ?_
      | refine J.reg ?_
      | refine J.seq ?_
    refine J.regD [] mixed (by kernel_rfl) ?_
    repeat' first
      | (show W _ _ _ _ _ (_ :: _) _ _ _; first
        | refine W.indexStr (c := 0) rfl rfl rfl rfl (by decide) (by decide +kernel) ?_
        | refine W.indexStr (c := 1) rfl rfl rfl rfl (by decide) (by decide +kernel) ?_
        | refine W.pure rfl rfl rfl rfl ?_
        | refine W.bin rfl rfl rfl rfl rfl ?_
        | refine W.shr rfl rfl rfl rfl (by omega) ?_
        | refine W.conv rfl rfl rfl ?_)
      | refine W.nil ?_
    skip
    exact J.retF [] (res1 rfl rfl) (by kernel_rfl)
  | 5, _ =>
    refine callR_of Tryd.func66 rfl Tryd.ntmps66 rfl fun σ F => ?_
    repeat' first
      | refine W.pure rfl rfl rfl rfl ?_
      | refine W.nil ?_
      | refine J.reg ?_
      | refine J.seq ?_
    refine J.regD [] mixed (by kernel_rfl) ?_
    repeat' first
      | (show W _ _ _ _ _ (_ :: _) _ _ _; first
        | refine W.indexStr (c := 0) rfl rfl rfl rfl (by decide) (by decide +kernel) ?_
        | refine W.indexStr (c := 2) rfl rfl rfl rfl (by decide) (by decide +kernel) ?_
        | refine W.pure rfl rfl rfl rfl ?_
        | refine W.bin rfl rfl rfl rfl rfl ?_
        | refine W.shr rfl rfl rfl rfl (by omega) ?_
        | refine W.conv rfl rfl rfl ?_)
      | refine W.nil ?_
    skip
    exact J.retF [] (res1 rfl rfl) (by kernel_rfl)
  | 6, _ =>
    refine callR_of Tryd.func66 rfl Tryd.ntmps66 rfl fun σ F => ?_
    repeat' first
      | refine W.pure rfl rfl rfl rfl ?_
      | refine W.nil ?_
      | refine J.reg ?_
      | refine J.seq ?_
    refine J.regD [] mixed (by kernel_rfl) ?_
    repeat' first
      | (show W _ _ _ _ _ (_ :: _) _ _ _; first
        | refine W.indexStr (c := 0) rfl rfl rfl rfl (by decide) (by decide +kernel) ?_
        | refine W.indexStr (c := 2) rfl rfl rfl rfl (by decide) (by decide +kernel) ?_
        | refine W.pure rfl rfl rfl rfl ?_
        | refine W.bin rfl rfl rfl rfl rfl ?_
        | refine W.shr rfl rfl rfl rfl (by omega) ?_
        | refine W.conv rfl rfl rfl ?_)
      | refine W.nil ?_
    skip
    exact J.retF [] (res1 rfl rfl) (by kernel_rfl)
  | 7, _ =>
    refine callR_of Tryd.func66 rfl Tryd.ntmps66 rfl fun σ F => ?_
    repeat' first
      | refine W.pure rfl rfl rfl rfl ?_
      | refine W.nil ?_
      | refine J.reg ?_
      | refine J.seq ?_
    refine J.regD [] mixed (by kernel_rfl) ?_
    repeat' first
      | (show W _ _ _ _ _ (_ :: _) _ _ _; first
        | refine W.indexStr (c := 0) rfl rfl rfl rfl (by decide) (by decide +kernel) ?_
        | refine W.indexStr (c := 3) rfl rfl rfl rfl (by decide) (by decide +kernel) ?_
        | refine W.pure rfl rfl rfl rfl ?_
        | refine W.bin rfl rfl rfl rfl rfl ?_
        | refine W.shr rfl rfl rfl rfl (by omega) ?_
        | refine W.conv rfl rfl rfl ?_)
      | refine W.nil ?_
    skip
    exact J.retF [] (res1 rfl rfl) (by kernel_rfl)
theorem cut_is {f : Nat} {r : List Nat} {x y : Nat} (hr : FldOk r) (hx : x ≤ 24) (hy : y ≤ 16) :
    CallF P 56 [ptr f, int x, int y] [(f, fldP f r)] (u64v (cutN r x y 8)) [(f, fldP f r)] := by
  refine callR_of Tryd.func56 rfl Tryd.ntmps56 rfl fun σ F => ?_
  repeat' first
    | refine W.pure rfl rfl rfl rfl ?_
    | refine W.nil ?_
    | refine J.reg ?_
    | refine J.seq ?_
    | refine J.block ?_
  refine J.loop (X := Nat) (fun k => k ≤ 8) (fun k => 8 - k) (fun k => [(0, ptr f), (1, int x), (2, int y), (7, u64v (cutN r x y k)), (9, int k)]) (fun _ => [(f, fldP f r)]) 0 (by omega) ⟨rfl, rfl, rfl, rfl, rfl, trivial⟩ (.refl _) fun k hk => ?_
  by_cases hlt : k < 8
  · have hq := getD_lt hr (y + k)
    have hcell : (r.map u32v)[((y : Int) + (k : Int)).toNat * 1]? = some (u32v (r.getD (y + k) 0)) := by
      have e : ((y : Int) + (k : Int)).toNat * 1 = y + k := by omega
      have hl : y + k < r.length := by rw [hr.1]; omega
      rw [e, List.getElem?_map, List.getD_eq_getElem?_getD, List.getElem?_eq_getElem hl]; rfl
    have h1 : ShrE .u32 ((r.getD (y + k) 0 : Nat) : Int) x ((r.getD (y + k) 0 / 2 ^ x : Nat) : Int) := ⟨shr_nat (by show x ≤ 32; omega)⟩
    have h2 : IntE .and .u32 ((r.getD (y + k) 0 / 2 ^ x : Nat) : Int) 255 (u32v (r.getD (y + k) 0 / 2 ^ x % 256)) := ⟨by
      have := and_u (k := .u32) (a := r.getD (y + k) 0 / 2 ^ x) (b := 255) rfl (Nat.lt_of_le_of_lt (Nat.div_le_self _ _) hq) (by decide)
      simp only [intV]
      rw [show ((255 : Int)) = ((255 : Nat) : Int) from rfl, this, show (255 : Nat) = 2 ^ 8 - 1 from rfl, Nat.and_two_pow_sub_one_eq_mod]⟩
    have h6 : r.getD (y + k) 0 / 2 ^ x % 256 < 256 := Nat.mod_lt _ (by omega)
    have h3 : ConvE .u64 ((r.getD (y + k) 0 / 2 ^ x % 256 : Nat) : Int) ((r.getD (y + k) 0 / 2 ^ x % 256 : Nat) : Int) := ⟨wrap_u (k := .u64) rfl (Nat.lt_of_lt_of_le h6 (by decide))⟩
    have h7 : (r.getD (y + k) 0 / 2 ^ x % 256) * 2 ^ (8 * k) < 2 ^ 64 := by
      have : 2 ^ (8 * k) ≤ 2 ^ 56 := Nat.pow_le_pow_right (by omega) (by omega)
      exact Nat.lt_of_le_of_lt (Nat.mul_le_mul (Nat.le_of_lt_succ h6) this) (by decide)
    have h4 : ShlE .u64 ((r.getD (y + k) 0 / 2 ^ x % 256 : Nat) : Int) (8 * (k : Int)) (((r.getD (y + k) 0 / 2 ^ x % 256) * 2 ^ (8 * k) : Nat) : Int) := ⟨shl_u (k := .u64) (c := 8 * k) rfl (by show 8 * k ≤ 64; omega) h7⟩
    have h5 : IntE .or .u64 ((cutN r x y k : Nat) : Int) (((r.getD (y + k) 0 / 2 ^ x % 256) * 2 ^ (8 * k) : Nat) : Int) (u64v (cutN r x y (k + 1))) := ⟨by
      simp only [intV]
      rw [or_u (k := .u64) rfl (Nat.lt_of_lt_of_le (cutN_lt r x y k (by omega)) (Nat.pow_le_pow_right (by omega) (by show 8 * k ≤ 64; omega))) h7]; rfl⟩
    repeat' first
      | (show W _ _ _ _ _ (_ :: _) _ _ _; first
        | refine W.ldV rfl rfl rfl rfl rfl hcell ?_
        | refine W.pure rfl rfl rfl rfl ?_
        | refine W.binE rfl rfl rfl rfl (by assumption) ?_
        | refine W.shrE rfl rfl rfl rfl (by omega) (by assumption) ?_
        | refine W.convE rfl rfl rfl (by assumption) ?_
        | refine W.shlE rfl rfl rfl rfl (by omega) (by assumption) ?_
        | refine W.cmpT rfl rfl rfl rfl (by simp only [cmpP]; first | done | omega) ?_
        | refine W.indexAddrE rfl rfl rfl rfl (by omega) (by simp only [Nat.zero_add]; rfl) ?_
        | refine W.add64 rfl rfl rfl rfl (by omega) ?_
        | refine W.mul64 rfl rfl rfl rfl (by omega) ?_)
      | refine W.nil ?_
      | refine J.reg ?_
      | refine J.seq ?_
      | refine J.condT rfl ?_
      | refine J.block ?_
      | refine J.endBlk ?_
      | refine J.skip ?_
    exact J.again (k + 1) (by omega) (by omega) ⟨rfl, rfl, rfl, rfl, rfl, trivial⟩ (.refl _)
  · obtain rfl : k = 8 := by omega
    repeat' first
      | refine W.pure rfl rfl rfl rfl ?_
      | refine W.cmpF rfl rfl rfl rfl (by simp only [cmpN]; first | done | omega) ?_
      | refine W.nil ?_
      | refine J.reg ?_
      | refine J.seq ?_
      | refine J.condF rfl ?_
      | refine J.exit rfl ?_
    exact J.retF [f] (res1 rfl rfl) rfl
end Go.Proofs.YtphnadpmpcifoaaDoor
