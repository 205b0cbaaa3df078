/-
  Bits: the model's operations on whole numbers that are natural; how many bits of a number are set.
-/
import Derived.Test.YtphnadpmpcifoaaDoorTree
namespace Go.Qm
open Go.Sq

theorem ofInt_nat {n m : Nat} (h : m < 2 ^ n) : (BitVec.ofInt n (m : Int)).toNat = m := by
  rw [BitVec.ofInt_natCast, BitVec.toNat_ofNat, Nat.mod_eq_of_lt h]
theorem wrap_u {k : IntKind} (hk : k.signed = false) {n : Nat} (h : n < 2 ^ k.bits) : k.wrap (n : Int) = n := by
  unfold IntKind.wrap
  simp only [hk, Bool.false_and, Bool.false_eq_true, if_false]
  have : ((2 : Int) ^ k.bits) = ((2 ^ k.bits : Nat) : Int) := by push_cast; rfl
  rw [this, ← Int.natCast_emod, Nat.mod_eq_of_lt h]
theorem wrap_i64n {n : Nat} (h : n < 2 ^ 63) : IntKind.i64.wrap (n : Int) = n := wrap_i64 (by omega) (by omega)
theorem and_u {k : IntKind} (hk : k.signed = false) {a b : Nat} (ha : a < 2 ^ k.bits) (hb : b < 2 ^ k.bits) : bitI .and k a b = ((a &&& b : Nat) : Int) := by
  simp only [bitI, BitVec.toNat_and, ofInt_nat ha, ofInt_nat hb]
  exact wrap_u hk (Nat.and_lt_two_pow a hb)
theorem or_u {k : IntKind} (hk : k.signed = false) {a b : Nat} (ha : a < 2 ^ k.bits) (hb : b < 2 ^ k.bits) : bitI .or k a b = ((a ||| b : Nat) : Int) := by
  simp only [bitI, BitVec.toNat_or, ofInt_nat ha, ofInt_nat hb]
  exact wrap_u hk (Nat.or_lt_two_pow ha hb)
theorem andNot_u {k : IntKind} (hk : k.signed = false) {a b : Nat} (ha : a < 2 ^ k.bits) (hb : b < 2 ^ k.bits) : bitI .andNot k a b = ((a ^^^ (a &&& b) : Nat) : Int) := by
  have e : (BitVec.ofInt k.bits (a : Int) &&& ~~~(BitVec.ofInt k.bits (b : Int))) = BitVec.ofInt k.bits (a : Int) ^^^ (BitVec.ofInt k.bits (a : Int) &&& BitVec.ofInt k.bits (b : Int)) := by
    apply BitVec.eq_of_getLsbD_eq
    intro i hi
    simp only [BitVec.getLsbD_and, BitVec.getLsbD_not, BitVec.getLsbD_xor, hi, decide_true, Bool.true_and]
    cases (BitVec.ofInt k.bits (a : Int)).getLsbD i <;> cases (BitVec.ofInt k.bits (b : Int)).getLsbD i <;> rfl
  simp only [bitI]
  rw [e, BitVec.toNat_xor, BitVec.toNat_and, ofInt_nat ha, ofInt_nat hb]
  exact wrap_u hk (Nat.xor_lt_two_pow ha (Nat.and_lt_two_pow a hb))
theorem and_i64 {a b : Nat} (ha : a < 2 ^ 63) (hb : b < 2 ^ 63) : bitI .and .i64 a b = ((a &&& b : Nat) : Int) := by
  simp only [bitI, BitVec.toNat_and, ofInt_nat (n := IntKind.i64.bits) (Nat.lt_trans ha (by decide)), ofInt_nat (n := IntKind.i64.bits) (Nat.lt_trans hb (by decide))]
  exact wrap_i64n (Nat.and_lt_two_pow a hb)
theorem shr_nat {k : IntKind} {a c : Nat} (hc : c ≤ k.bits) : shrI k a c = ((a / 2 ^ c : Nat) : Int) := by
  simp only [shrI, Int.toNat_natCast, Nat.min_eq_left hc]
  have : ((2 : Int) ^ c) = ((2 ^ c : Nat) : Int) := by push_cast; rfl
  rw [this, Int.fdiv_eq_ediv_of_nonneg _ (Int.natCast_nonneg _), ← Int.natCast_ediv]
theorem shl_u {k : IntKind} (hk : k.signed = false) {a c : Nat} (hc : c ≤ k.bits) (h : a * 2 ^ c < 2 ^ k.bits) : shlI k a c = ((a * 2 ^ c : Nat) : Int) := by
  simp only [shlI, Int.toNat_natCast, Nat.min_eq_left hc]
  have : ((2 : Int) ^ c) = ((2 ^ c : Nat) : Int) := by push_cast; rfl
  rw [this, ← Int.natCast_mul]
  exact wrap_u hk h
theorem shl_u' {k : IntKind} (hk : k.signed = false) {a c : Nat} (hc : c ≤ k.bits) : shlI k a c = ((a * 2 ^ c % 2 ^ k.bits : Nat) : Int) := by
  simp only [shlI, Int.toNat_natCast, Nat.min_eq_left hc, IntKind.wrap, hk, Bool.false_and, Bool.false_eq_true, if_false]
  push_cast
  rfl
theorem shl_i64 {a c : Nat} (hc : c ≤ 64) (h : a * 2 ^ c < 2 ^ 63) : shlI .i64 a c = ((a * 2 ^ c : Nat) : Int) := by
  simp only [shlI, Int.toNat_natCast, Nat.min_eq_left (show c ≤ IntKind.i64.bits from hc)]
  have : ((2 : Int) ^ c) = ((2 ^ c : Nat) : Int) := by push_cast; rfl
  rw [this, ← Int.natCast_mul]
  exact wrap_i64n h
theorem and_mask {x c : Nat} (hx : x < 2 ^ 63) (hc : c ≤ 62) : bitI .and .i64 x (shlI .i64 1 c - 1) = ((x % 2 ^ c : Nat) : Int) := by
  have h2 : (2 : Nat) ^ c ≤ 2 ^ 62 := Nat.pow_le_pow_right (by omega) hc
  have hp : 0 < 2 ^ c := Nat.two_pow_pos c
  have e1 : shlI .i64 1 c = ((1 * 2 ^ c : Nat) : Int) := shl_i64 (a := 1) (by omega) (by omega)
  have e : shlI .i64 1 c - 1 = ((2 ^ c - 1 : Nat) : Int) := by omega
  rw [e, and_i64 hx (by omega), Nat.and_two_pow_sub_one_eq_mod]

/-! ### counting bits -/
theorem popTo_add (j k t : Nat) : popTo (j + k) t = popTo j t + popTo k (t / 2 ^ j) := by
  induction k with
  | zero => rfl
  | succ k ih =>
    rw [← Nat.add_assoc]
    simp only [popTo, ih, Nat.testBit_div_two_pow]
    rw [Nat.add_comm k j, Nat.add_assoc]
theorem popTo_mod (k t : Nat) {m : Nat} (h : k ≤ m) : popTo k (t % 2 ^ m) = popTo k t := by
  induction k with
  | zero => rfl
  | succ k ih =>
    simp only [popTo, ih (by omega), Nat.testBit_mod_two_pow, show k < m from by omega, decide_true, Bool.true_and]
theorem and_split {k a m y M : Nat} (ha : a < 2 ^ k) (hm : m < 2 ^ k) : (a + 2 ^ k * y) &&& (m + 2 ^ k * M) = (a &&& m) + 2 ^ k * (y &&& M) := by
  apply Nat.eq_of_testBit_eq
  intro j
  rw [Nat.testBit_and, Nat.add_comm a, Nat.add_comm m, Nat.add_comm (a &&& m), Nat.testBit_two_pow_mul_add _ ha, Nat.testBit_two_pow_mul_add _ hm, Nat.testBit_two_pow_mul_add _ (Nat.and_lt_two_pow a hm)]
  split <;> simp
/-- Eight bytes. -/
def b8 (a b c d e f g h : Nat) : Nat := a + 256 * (b + 256 * (c + 256 * (d + 256 * (e + 256 * (f + 256 * (g + 256 * h))))))
theorem b8_of {x : Nat} (hx : x < 2 ^ 64) : ∃ a b c d e f g h, (a < 256 ∧ b < 256 ∧ c < 256 ∧ d < 256 ∧ e < 256 ∧ f < 256 ∧ g < 256 ∧ h < 256) ∧ x = b8 a b c d e f g h := by
  refine ⟨x % 256, x / 256 % 256, x / 65536 % 256, x / 16777216 % 256, x / 4294967296 % 256, x / 1099511627776 % 256, x / 281474976710656 % 256, x / 72057594037927936, ?_, ?_⟩
  · omega
  · unfold b8; omega
theorem and_b8 {a b c d e f g h m : Nat} (ha : a < 256) (hb : b < 256) (hc : c < 256) (hd : d < 256) (he : e < 256) (hf : f < 256) (hg : g < 256) (hm : m < 256) :
    b8 a b c d e f g h &&& b8 m m m m m m m m = b8 (a &&& m) (b &&& m) (c &&& m) (d &&& m) (e &&& m) (f &&& m) (g &&& m) (h &&& m) := by
  unfold b8
  have e8 : (256 : Nat) = 2 ^ 8 := rfl
  rw [e8] at *
  rw [and_split ha hm, and_split hb hm, and_split hc hm, and_split hd hm, and_split he hm, and_split hf hm, and_split hg hm]
theorem pop_b8 {a b c d e f g h : Nat} (ha : a < 256) (hb : b < 256) (hc : c < 256) (hd : d < 256) (he : e < 256) (hf : f < 256) (hg : g < 256) (hh : h < 256) :
    pop (b8 a b c d e f g h) = popTo 8 a + (popTo 8 b + (popTo 8 c + (popTo 8 d + (popTo 8 e + (popTo 8 f + (popTo 8 g + popTo 8 h)))))) := by
  have key : ∀ (k x y : Nat), x < 256 → popTo (8 + k) (x + 256 * y) = popTo 8 x + popTo k y := fun k x y hx => by
    rw [popTo_add, ← popTo_mod 8 (x + 256 * y) (Nat.le_refl 8)]
    have e1 : (x + 256 * y) % 2 ^ 8 = x := by omega
    have e2 : (x + 256 * y) / 2 ^ 8 = y := by omega
    rw [e1, e2]
  unfold pop b8
  rw [key 56 _ _ ha, key 48 _ _ hb, key 40 _ _ hc, key 32 _ _ hd, key 24 _ _ he, key 16 _ _ hf, key 8 _ _ hg]
/-- The steps on one byte. -/
def sw1 (b : Nat) : Nat := (b / 2 &&& 85) + (b &&& 85)
def sw2 (b : Nat) : Nat := (b / 4 &&& 51) + (b &&& 51)
def sw3 (b : Nat) : Nat := (b / 16 + b) &&& 15
theorem sw_ok : ∀ b, b < 256 → (b / 2 &&& 85) ≤ 85 ∧ (∀ q, q < 2 → (b / 2 + 128 * q) &&& 85 = b / 2 &&& 85) ∧ sw1 b < 256 ∧ (∀ q, q < 4 → (sw1 b / 4 + 64 * q) &&& 51 = sw1 b / 4 &&& 51) ∧ sw2 (sw1 b) % 16 ≤ 4 ∧ sw2 (sw1 b) / 16 ≤ 4 ∧
    sw2 (sw1 b) % 16 + sw2 (sw1 b) / 16 = popTo 8 b ∧ popTo 8 b ≤ 8 := by decide +kernel
theorem b8_add {a b c d e f g h a' b' c' d' e' f' g' h' : Nat} : b8 a b c d e f g h + b8 a' b' c' d' e' f' g' h' = b8 (a + a') (b + b') (c + c') (d + d') (e + e') (f + f') (g + g') (h + h') := by
  unfold b8; omega
theorem b8_lt {a b c d e f g h : Nat} (ha : a < 256) (hb : b < 256) (hc : c < 256) (hd : d < 256) (he : e < 256) (hf : f < 256) (hg : g < 256) (hh : h < 256) : b8 a b c d e f g h < 18446744073709551616 := by
  unfold b8; omega
theorem b8_2 {a b c d e f g h : Nat} : b8 a b c d e f g h / 2 = b8 (a / 2 + 128 * (b % 2)) (b / 2 + 128 * (c % 2)) (c / 2 + 128 * (d % 2)) (d / 2 + 128 * (e % 2)) (e / 2 + 128 * (f % 2)) (f / 2 + 128 * (g % 2)) (g / 2 + 128 * (h % 2)) (h / 2 + 128 * 0) := by
  unfold b8; omega
theorem b8_4 {a b c d e f g h : Nat} : b8 a b c d e f g h / 4 = b8 (a / 4 + 64 * (b % 4)) (b / 4 + 64 * (c % 4)) (c / 4 + 64 * (d % 4)) (d / 4 + 64 * (e % 4)) (e / 4 + 64 * (f % 4)) (f / 4 + 64 * (g % 4)) (g / 4 + 64 * (h % 4)) (h / 4 + 64 * 0) := by
  unfold b8; omega
theorem b8_16 {a b c d e f g h : Nat} : b8 a b c d e f g h / 16 = b8 (a / 16 + 16 * (b % 16)) (b / 16 + 16 * (c % 16)) (c / 16 + 16 * (d % 16)) (d / 16 + 16 * (e % 16)) (e / 16 + 16 * (f % 16)) (f / 16 + 16 * (g % 16)) (g / 16 + 16 * (h % 16)) (h / 16 + 16 * 0) := by
  unfold b8; omega
def o1 (x : Nat) : Nat := (x / 2 &&& 6148914691236517205) + (x &&& 6148914691236517205)
def o2 (x : Nat) : Nat := (x / 4 &&& 3689348814741910323) + (x &&& 3689348814741910323)
def o3 (x : Nat) : Nat := (x / 16 + x) &&& 1085102592571150095
def o4 (x : Nat) : Nat := x + x / 256
def o5 (x : Nat) : Nat := x + x / 65536
def o6 (x : Nat) : Nat := x + x / 4294967296
theorem ones_ok {x : Nat} (hx : x < 18446744073709551616) : o1 x < 18446744073709551616 ∧ o2 (o1 x) < 18446744073709551616 ∧ o2 (o1 x) / 16 + o2 (o1 x) < 18446744073709551616 ∧ o3 (o2 (o1 x)) < 1157442765409226769 ∧
    o6 (o5 (o4 (o3 (o2 (o1 x))))) % 128 = pop x := by
  obtain ⟨a, b, c, d, e, f, g, h, ⟨ha, hb, hc, hd, he, hf, hg, hh⟩, rfl⟩ := b8_of hx
  have A := sw_ok a ha; have B := sw_ok b hb; have C := sw_ok c hc; have D := sw_ok d hd; have E := sw_ok e he; have F := sw_ok f hf; have G := sw_ok g hg; have H := sw_ok h hh
  have e1 : o1 (b8 a b c d e f g h) = b8 (sw1 a) (sw1 b) (sw1 c) (sw1 d) (sw1 e) (sw1 f) (sw1 g) (sw1 h) := by
    unfold o1
    rw [b8_2, show (6148914691236517205 : Nat) = b8 85 85 85 85 85 85 85 85 from rfl]
    rw [and_b8 (m := 85) (by omega) (by omega) (by omega) (by omega) (by omega) (by omega) (by omega) (by omega), and_b8 (m := 85) ha hb hc hd he hf hg (by omega), b8_add]
    rw [A.2.1 _ (by omega), B.2.1 _ (by omega), C.2.1 _ (by omega), D.2.1 _ (by omega), E.2.1 _ (by omega), F.2.1 _ (by omega), G.2.1 _ (by omega), H.2.1 _ (by omega)]
    rfl
  have e2 : o2 (o1 (b8 a b c d e f g h)) = b8 (sw2 (sw1 a)) (sw2 (sw1 b)) (sw2 (sw1 c)) (sw2 (sw1 d)) (sw2 (sw1 e)) (sw2 (sw1 f)) (sw2 (sw1 g)) (sw2 (sw1 h)) := by
    rw [e1]
    unfold o2
    rw [b8_4, show (3689348814741910323 : Nat) = b8 51 51 51 51 51 51 51 51 from rfl]
    rw [and_b8 (m := 51) (by omega) (by omega) (by omega) (by omega) (by omega) (by omega) (by omega) (by omega), and_b8 (m := 51) A.2.2.1 B.2.2.1 C.2.2.1 D.2.2.1 E.2.2.1 F.2.2.1 G.2.2.1 (by omega), b8_add]
    rw [A.2.2.2.1 _ (by omega), B.2.2.2.1 _ (by omega), C.2.2.2.1 _ (by omega), D.2.2.2.1 _ (by omega), E.2.2.2.1 _ (by omega), F.2.2.2.1 _ (by omega), G.2.2.2.1 _ (by omega), H.2.2.2.1 _ (by omega)]
    rfl
  have e3 : o2 (o1 (b8 a b c d e f g h)) / 16 + o2 (o1 (b8 a b c d e f g h)) < 18446744073709551616 ∧ o3 (o2 (o1 (b8 a b c d e f g h))) = b8 (popTo 8 a) (popTo 8 b) (popTo 8 c) (popTo 8 d) (popTo 8 e) (popTo 8 f) (popTo 8 g) (popTo 8 h) := by
    rw [e2]
    unfold o3
    obtain ⟨-, -, -, -, A5, A6, A7, A8⟩ := A; obtain ⟨-, -, -, -, B5, B6, B7, B8⟩ := B; obtain ⟨-, -, -, -, C5, C6, C7, C8⟩ := C; obtain ⟨-, -, -, -, D5, D6, D7, D8⟩ := D
    obtain ⟨-, -, -, -, E5, E6, E7, E8⟩ := E; obtain ⟨-, -, -, -, F5, F6, F7, F8⟩ := F; obtain ⟨-, -, -, -, G5, G6, G7, G8⟩ := G; obtain ⟨-, -, -, -, H5, H6, H7, H8⟩ := H
    rw [b8_16, b8_add]
    refine ⟨b8_lt (by omega) (by omega) (by omega) (by omega) (by omega) (by omega) (by omega) (by omega), ?_⟩
    rw [show (1085102592571150095 : Nat) = b8 15 15 15 15 15 15 15 15 from rfl, and_b8 (m := 15) (by omega) (by omega) (by omega) (by omega) (by omega) (by omega) (by omega) (by omega)]
    simp only [show (15 : Nat) = 2 ^ 4 - 1 from rfl, Nat.and_two_pow_sub_one_eq_mod]
    congr 1 <;> omega
  have P := pop_b8 ha hb hc hd he hf hg hh
  rw [P]
  refine ⟨by rw [e1]; exact b8_lt A.2.2.1 B.2.2.1 C.2.2.1 D.2.2.1 E.2.2.1 F.2.2.1 G.2.2.1 H.2.2.1, ?_, e3.1, ?_, ?_⟩
  · have := e3.1; omega
  · rw [e3.2]
    have := A.2.2.2.2.2.2.2; have := B.2.2.2.2.2.2.2; have := C.2.2.2.2.2.2.2; have := D.2.2.2.2.2.2.2; have := E.2.2.2.2.2.2.2; have := F.2.2.2.2.2.2.2; have := G.2.2.2.2.2.2.2; have := H.2.2.2.2.2.2.2
    unfold b8; omega
  · rw [e3.2]
    have := A.2.2.2.2.2.2.2; have := B.2.2.2.2.2.2.2; have := C.2.2.2.2.2.2.2; have := D.2.2.2.2.2.2.2; have := E.2.2.2.2.2.2.2; have := F.2.2.2.2.2.2.2; have := G.2.2.2.2.2.2.2; have := H.2.2.2.2.2.2.2
    clear A B C D E F G H e1 e2 e3 P
    generalize popTo 8 a = p1 at *; generalize popTo 8 b = p2 at *; generalize popTo 8 c = p3 at *; generalize popTo 8 d = p4 at *
    generalize popTo 8 e = p5 at *; generalize popTo 8 f = p6 at *; generalize popTo 8 g = p7 at *; generalize popTo 8 h = p8 at *
    have d1 : ∀ {a b c d e f g h : Nat}, a < 256 → b8 a b c d e f g h / 256 = b8 b c d e f g h 0 := by intros; unfold b8; omega
    have d2 : ∀ {a b c d e f g h : Nat}, a < 256 → b < 256 → b8 a b c d e f g h / 65536 = b8 c d e f g h 0 0 := by intros; unfold b8; omega
    have d4 : ∀ {a b c d e f g h : Nat}, a < 256 → b < 256 → c < 256 → d < 256 → b8 a b c d e f g h / 4294967296 = b8 e f g h 0 0 0 0 := by intros; unfold b8; omega
    have dm : ∀ {a b c d e f g h : Nat}, a < 128 → b8 a b c d e f g h % 128 = a := by intros; unfold b8; omega
    unfold o6 o5 o4
    rw [d1 (by omega), b8_add, d2 (by omega) (by omega), b8_add, d4 (by omega) (by omega) (by omega) (by omega), b8_add, dm (by omega)]
    omega
def setBit (t n : Nat) (v : Bool) : Nat := if v then t ||| 2 ^ n else t ^^^ (t &&& 2 ^ n)
end Go.Qm
