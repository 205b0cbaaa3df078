/-
  From a call's contract over symbolic heaps to a row: what came in is as it was.
-/
import Derived.Test.YtphnadpmpcifoaaDoorTLaid
import Derived.ProofKit
import Derived.Carry
import Derived.Lib.SmallJoins
namespace Go.Sq
open Go.RowKit Go.ChangeShapes
/-- All that came in, but for one block. -/
def restP (W : World) (len bl : Nat) : HP := fun h => ∀ b, h b = if 0 < len ∧ b = bl then none else W.heap[b]?
theorem strOf_below {W W' : World} (hs : strOf W' = strOf W) (hz : ∀ k, k < W.heap.size → W'.heap[k]? = W.heap[k]?) : Below W.heap.size W W' where
  os := by have := congrArg Str.os hs; exact this
  tape := by have := congrArg Str.tape hs; exact this
  output := by have := congrArg Str.output hs; exact this
  size := by
    rcases Nat.eq_zero_or_pos W.heap.size with h | h
    · omega
    · have h1 := hz (W.heap.size - 1) (by omega)
      have h2 : W.heap[W.heap.size - 1]? = some W.heap[W.heap.size - 1] := Array.getElem?_eq_getElem (by omega)
      have := (Array.getElem?_eq_some_iff.1 (h1.trans h2)).1
      omega
  block := hz
end Go.Sq
namespace Go.Proofs.YtphnadpmpcifoaaDoor
open Go.Sq Go.Qm Go.RowKit Go.ChangeShapes
theorem sat_start {W : World} {len bl : Nat} {c : Array Value} {T : TypeId} {fz : Nat × Nat} (h : 0 < len → W.heap[bl]? = some (.cells c T fz)) : Sat (strOf W) W ([(bl, sliP len bl c T fz)] ++ [(0, restP W len bl)]) := by
  refine ⟨rfl, fun b => W.heap[b]?, ?_, fun b o e => e⟩
  refine ⟨fun b => if 0 < len ∧ b = bl then W.heap[b]? else none, fun b => if 0 < len ∧ b = bl then none else W.heap[b]?, fun b => ?_, ?_, ?_, ?_⟩
  · by_cases hb : 0 < len ∧ b = bl
    · right; simp [hb]
    · left; simp [hb]
  · funext b
    unfold Un
    by_cases hb : 0 < len ∧ b = bl
    · simp only [hb, and_self, if_true]
      cases W.heap[bl]? <;> rfl
    · simp only [hb, if_false]
  · show sliP len bl c T fz _
    unfold sliP
    by_cases hl : len = 0
    · rw [if_pos hl]
      intro b
      have : ¬ (0 < len ∧ b = bl) := by omega
      simp [this]
    · rw [if_neg hl]
      intro b
      by_cases hb : b = bl
      · subst hb
        have : 0 < len := by omega
        simp [this, h this]
      · simp [hb]
  · exact ⟨_, fun _ => none, fun _ => .inr rfl, by
      funext b
      unfold Un
      dsimp only
      split
      · rfl
      · cases W.heap[b]? <;> rfl, fun b => rfl, fun _ => rfl⟩
theorem sat_end {W W' : World} {len bl : Nat} {c : Array Value} {T : TypeId} {fz : Nat × Nat} (h : 0 < len → W.heap[bl]? = some (.cells c T fz)) (hs : Sat (strOf W) W' ([(bl, sliP len bl c T fz)] ++ [(0, restP W len bl)])) : Below W.heap.size W W' := by
  obtain ⟨e, p, ⟨h1, h2, _, rfl, a, h3, h4, _, rfl, b, _⟩, hw⟩ := hs
  refine strOf_below e fun k hk => ?_
  have hkk : W.heap[k]? = some W.heap[k] := Array.getElem?_eq_getElem hk
  by_cases hb : 0 < len ∧ k = bl
  · obtain ⟨hl, rfl⟩ := hb
    have a : sliP len k c T fz h1 := a
    unfold sliP at a
    rw [if_neg (by omega)] at a
    have ha := a k
    rw [if_pos rfl] at ha
    rw [h hl]
    exact hw k _ (un_left ha)
  · have b : restP W len bl h3 := b
    have hb3 := b k
    rw [if_neg hb] at hb3
    have ha : h1 k = none := by
      have a : sliP len bl c T fz h1 := a
      unfold sliP at a
      split at a
      · exact a k
      · have := a k
        rw [this, if_neg]
        intro hc
        exact hb ⟨by omega, hc⟩
    rw [hkk]
    refine hw k _ ?_
    rw [un_right ha]
    exact un_left (hb3.trans hkk)
section
variable {H : Type} {enc : TypeId × Value → H} {P : Program}
theorem post_of_below {f : Func} {s : ChangeSpec} {apart fresh handsOn again : Bool} {W W' : World} {args : Array Value} {v : Value} {ds gs : List (DataW H)} {before pa pv : List MemPlace}
    (hW : DataW.Whole enc P f.params.toList s.vars apart W args.toList ds gs before)
    (hres : ∀ (b : Nat) (sp : Nat → Bool) (hd : Bool), DataW.TrodAll enc P W' b sp hd f.resultTypes.toList (v.resultList f.resultTypes.size) (s.fn H (ds ++ gs)).results [])
    (hargs : ∀ sp : Nat → Bool, (∀ p ∈ before, sp p.block = true) → DataW.TrodAll enc P W' 0 sp true f.params.toList args.toList (s.fn H (ds ++ gs)).args pa)
    (hvars : ∀ sp : Nat → Bool, (∀ p ∈ before, sp p.block = true) → DataW.TrodVars enc P W' sp s.vars (s.fn H (ds ++ gs)).vars pv)
    (hps : before = pa ++ pv) (hb : Below W.heap.size W W')
    (hok : ∀ (j : Nat) (t : TypeId) (r : Value), f.resultTypes[j]? = some t → (v.resultList f.resultTypes.size)[j]? = some r → Value.okWide P W' .any 0 t r) :
    s.post enc P f apart fresh handsOn again W args v W' := by
  have hold : ∀ p ∈ before, (fun b => decide (b < W.heap.size)) p.block = true := fun p hp => by simpa using hW.lt p hp
  have hlt := hW.lt
  refine ⟨ds, gs, before, [], pa, pv, hW, hres _ _ _, hargs _ hold, hvars _ hold, World.keptBut_mono (fun p hp => ⟨hp, ?_⟩) (hb.frame (· ∈ before)), fun _ => ?_⟩
  · rw [hps, List.mem_append] at hp
    exact Or.inr hp
  · obtain ⟨_, _, _, _, _, hz, hn⟩ := hW
    refine ⟨hok, _, _, ([] ++ pa) ++ pv, ⟨[] ++ pa, pv, trodAll_append (hargs _ (fun _ _ => rfl)) (hres _ _ _), hvars _ (fun _ _ => rfl), rfl, ?_, ?_⟩, ?_⟩
    · intro b off hp
      have hp' : MemPlace.cell b off ∈ before := by rw [hps]; simpa using hp
      have := hlt _ hp'
      rw [hb.frozen this]
      exact hz b off hp'
    · intro ha
      have := hn ha
      rw [hps] at this
      simpa using this
    · intro p hp _
      rw [hps]
      simpa using hp
theorem cell_block {W : World} {a : Addr} {v : Value} (h : W.cell? a = some v) : ∃ c T fz, W.heap[a.block]? = some (.cells c T fz) ∧ a.spot = none ∧ c[a.off]? = some v := by
  unfold World.cell? at h
  split at h
  · rename_i c T fz hb
    split at h
    · cases h
    · rename_i hs
      exact ⟨c, T, fz, hb, by simpa using hs, h⟩
  · cases h
open Go.WideShapes in
set_option maxRecDepth 100000 in
/-- A slice of numbers that came in. -/
theorem slice_open {W : World} {base : Nat} {v : Value} {d : DataW H} {p : List MemPlace} (hval : Value.okWide Tryd.prog W .any base 45 v) (h : DataW.Trod enc Tryd.prog W 0 (fun _ => true) true 45 v d p) :
    ∃ (av : Option Addr) (len cap bl off : Nat) (c : Array Value) (T0 : TypeId) (fz : Nat × Nat) (z : Nat → Nat), v = .slice av len cap ∧ (0 < len → av = some ⟨bl, off, none⟩) ∧ len ≤ 9223372036854775807 ∧
      (∀ i, i < len → c.toList[off + i * 1]? = some (u64v (z i)) ∧ z i < 18446744073709551616) ∧ (0 < len → W.heap[bl]? = some (.cells c T0 fz)) := by
  obtain ⟨a0, len, cap, rfl⟩ := okWide_slice Tryd.underlying45 hval
  obtain ⟨fuel, hf⟩ := h
  rcases open_ints Tryd.underlying45 Tryd.underlying42 (by kernel_rfl) hf with ⟨hcs, hx⟩ | ⟨a, len', cap', zs, hcs, _, hl, hm, hz, hx, hcell, hwz⟩
  · simp [Value.cells] at hcs
    obtain ⟨rfl, rfl, rfl⟩ := hcs
    exact ⟨none, 0, 0, 0, 0, #[], 0, (0, 0), fun _ => 0, rfl, by omega, by omega, fun i hi => by omega, by omega⟩
  · simp [Value.cells] at hcs
    obtain ⟨rfl, rfl, rfl⟩ := hcs
    simp only [if_true] at hz
    have hml : maxLen ≤ 9223372036854775807 := by unfold maxLen; omega
    by_cases h0 : len = 0
    · subst h0
      exact ⟨some a, 0, cap, 0, 0, #[], 0, (0, 0), fun _ => 0, rfl, by omega, by omega, fun i hi => by omega, by omega⟩
    · have hc0 := hcell 0 (by omega)
      obtain ⟨c, T0, fz, hb, hs, _⟩ := cell_block hc0
      have ha0 : a.add 0 = a := by unfold Addr.add; rfl
      rw [ha0] at hb hs
      refine ⟨some a, len, cap, a.block, a.off, c, T0, fz, fun i => (zs.getD i 0).toNat, rfl, fun _ => by cases a; simp_all, by omega, fun i hi => ?_, fun _ => hb⟩
      have hci := hcell i (by omega)
      obtain ⟨c', T', fz', hb', _, hv⟩ := cell_block hci
      have hblk : (a.add i).block = a.block := by unfold Addr.add; split <;> rfl
      have hoff : (a.add i).off = a.off + i * 1 := by unfold Addr.add; split <;> simp_all
      rw [hblk, hb] at hb'
      obtain ⟨rfl, rfl, rfl⟩ := by simpa using hb'
      rw [hoff] at hv
      have hmem : zs.getD i 0 ∈ zs := by
        rw [List.getD_eq_getElem?_getD, List.getElem?_eq_getElem (by omega)]
        exact List.getElem_mem _
      have hw := hwz _ hmem
      show c.toList[a.off + i * 1]? = some (u64v (zs.getD i 0).toNat) ∧ (zs.getD i 0).toNat < 18446744073709551616
      generalize zs.getD i 0 = n at hv hw ⊢
      simp [Lit.wf, IntKind.min, IntKind.max, IntKind.signed, IntKind.bits] at hw
      have e : ((n.toNat : Nat) : Int) = n := by omega
      refine ⟨?_, by omega⟩
      show c.toList[a.off + i * 1]? = some (Value.int .u64 ((n.toNat : Nat) : Int))
      rw [e, Array.getElem?_toList]
      exact hv
theorem u16_open {n : Int} (h : (Lit.int .u16 n).wf = true) : ∃ m : Nat, n = m ∧ m < 65536 := by
  simp [Lit.wf, IntKind.min, IntKind.max, IntKind.signed, IntKind.bits] at h
  exact ⟨n.toNat, by omega, by omega⟩
theorem own : ownKnob Tryd.prog.godebug = none := by kernel_rfl
theorem laidOut : laidOutB Tryd.prog = true := by kernel_rfl
end
end Go.Proofs.YtphnadpmpcifoaaDoor
