/-
  No cell of these rows narrows 'for every input' (looked for: loops, veiled, ifaces, maps, wideKeys, modest, calm, conditions, laid).
  DERIVED. THE GIVEN ROWS OF THIS SEAT. 3 by the template 'for every input the law returns true; each argument reads behind the call as it read before'; 0 by the template 'total and deterministic' (their statements: YtphnadpmpcifoaaTotals.lean).
  GIVEN WITH THE SEED: the statements are not yours to turn. If you find one false, say at which input.
  Laid BY PROGRAM, IN A SANDBOX (cutbox-rows.mjs): the forced cells as the released guide's own fill.sh prints them over the translation 5b674833291523e8… (all of the seat's roots in one cut). By AI agents, Wed Nov 11 2026. No macro, syntax, notation, axiom, sorry.
-/
import Derived.Test.YtphnadpmpcifoaaChecked
import GoSem.Claim
import GoSem.ClaimJoined
import GoSem.ClaimMapViews
import Derived.JoinedTies
import Derived.KernelRfl
namespace Go.Proofs.Ytphnadpmpcifoaa
/- THE CELL 'sum', in the pinned program and in every row, IS THE sha256 OF THE DUMP (.gsa) THAT YtphnadpmpcifoaaProg.lean LOADS. Nothing in Lean hashes anything: it is a label: what it is worth is what the hold of that sum in a sandbox is worth. -/
noncomputable def Try.pinned : Pinned := { name := "ytphnadpmpcifoaa", sum := "5b674833291523e87ac2f9b70a57f25c7aee99c2f61f4c54aabf58c76895a605", checked := Try.checked }
namespace Rows
def none {H : Type} : Left H := { results := [], args := [] }

/-- 'quiltlaw12.GrowWide': WHATEVER THE INPUT: true; the input reads as it did. -/
def growWideSpec : ChangeSpec := { name := "growWide", fn := fun _ => fun
  | [d1, d2, d3] => { results := [.lit (.bool true)], args := [d1, d2, d3] }
  | _ => none }
def growWideRow : OpenClaim := { program := "ytphnadpmpcifoaa", sum := "5b674833291523e87ac2f9b70a57f25c7aee99c2f61f4c54aabf58c76895a605", func := "quilt/quiltlaw12.GrowWide", spec := "growWide", unfollowed := true, recurses := true, plainKeys := false, apart := false }
def GrowWideSaid : Prop := growWideRow.holds Try.pinned (OpenSpec.ofChange growWideSpec)

/-- ITS FALSE NEIGHBOUR: 'it returns false'. Refute it at one input. -/
def growWideWrong : ChangeSpec := { name := "growWide", fn := fun _ => fun
  | [d1, d2, d3] => { results := [.lit (.bool false)], args := [d1, d2, d3] }
  | _ => none }
def GrowWideWrongFalsely : Prop := growWideRow.holds Try.pinned (OpenSpec.ofChange growWideWrong)

/-- 'quiltlaw12.GrowStill': WHATEVER THE INPUT: true; the input reads as it did. -/
def growStillSpec : ChangeSpec := { name := "growStill", fn := fun _ => fun
  | [d1, d2, d3] => { results := [.lit (.bool true)], args := [d1, d2, d3] }
  | _ => none }
def growStillRow : OpenClaim := { program := "ytphnadpmpcifoaa", sum := "5b674833291523e87ac2f9b70a57f25c7aee99c2f61f4c54aabf58c76895a605", func := "quilt/quiltlaw12.GrowStill", spec := "growStill", unfollowed := true, recurses := true, plainKeys := false, apart := false }
def GrowStillSaid : Prop := growStillRow.holds Try.pinned (OpenSpec.ofChange growStillSpec)

/-- ITS FALSE NEIGHBOUR: 'it returns false'. Refute it at one input. -/
def growStillWrong : ChangeSpec := { name := "growStill", fn := fun _ => fun
  | [d1, d2, d3] => { results := [.lit (.bool false)], args := [d1, d2, d3] }
  | _ => none }
def GrowStillWrongFalsely : Prop := growStillRow.holds Try.pinned (OpenSpec.ofChange growStillWrong)

/-- 'quiltlaw12.GrowGlides': WHATEVER THE INPUT: true; the input reads as it did. -/
def growGlidesSpec : ChangeSpec := { name := "growGlides", fn := fun _ => fun
  | [d1, d2] => { results := [.lit (.bool true)], args := [d1, d2] }
  | _ => none }
def growGlidesRow : OpenClaim := { program := "ytphnadpmpcifoaa", sum := "5b674833291523e87ac2f9b70a57f25c7aee99c2f61f4c54aabf58c76895a605", func := "quilt/quiltlaw12.GrowGlides", spec := "growGlides", unfollowed := true, recurses := true, plainKeys := false, apart := false }
def GrowGlidesSaid : Prop := growGlidesRow.holds Try.pinned (OpenSpec.ofChange growGlidesSpec)

/-- ITS FALSE NEIGHBOUR: 'it returns false'. Refute it at one input. -/
def growGlidesWrong : ChangeSpec := { name := "growGlides", fn := fun _ => fun
  | [d1, d2] => { results := [.lit (.bool false)], args := [d1, d2] }
  | _ => none }
def GrowGlidesWrongFalsely : Prop := growGlidesRow.holds Try.pinned (OpenSpec.ofChange growGlidesWrong)

/- THE SECOND FORM. 'bulk': how many values and letters a reading holds, each counted each time it is reached (what is shared counts as often as it is met; a slice's spare places count too). A statement '..UptoSaid' is the law's where the arguments, and the package variables that the reading takes, are together of bulk at most 1048576: NARROWER than '..Said'. Prove '..Said' where nothing that the law and all that it calls make is longer than what came in: it says more and counts as full. Else prove '..UptoSaid'. A law counts once. -/
mutual
def uptoBulk {H : Type} : DataW H → Nat
  | .lit (.string bytes) => bytes.length + 1
  | .lit _ => 1
  | .nil => 1
  | .ptr d => uptoBulk d + 1
  | .slice elems spare => uptoBulkAll elems + uptoBulkAll spare + 1
  | .agg parts => uptoBulkAll parts + 1
  | .iface _ d => uptoBulk d + 1
  | .map entries => uptoBulkEntries entries + 1
  | .held _ => 1
def uptoBulkAll {H : Type} : List (DataW H) → Nat
  | [] => 0
  | d :: r => uptoBulk d + uptoBulkAll r
def uptoBulkEntries {H : Type} : List (Lit × DataW H) → Nat
  | [] => 0
  | x :: r => uptoBulkEntry x + uptoBulkEntries r
def uptoBulkEntry {H : Type} : Lit × DataW H → Nat
  | (.string bytes, d) => bytes.length + uptoBulk d + 1
  | (_, d) => uptoBulk d + 1
 end
def uptoSmall : (H : Type) → List (DataW H) → Bool := fun _ ds => decide (uptoBulkAll ds ≤ 1048576)
def OpenSpec.upto (s : _root_.Go.ChangeSpec) : _root_.Go.OpenSpec := { _root_.Go.OpenSpec.ofChange s with cond := some uptoSmall }

/-- 'quiltlaw12.GrowWide', WHERE WHAT IT READS IS OF BULK AT MOST 1048576: true; the input reads as it did. -/
def growWideUptoRow : OpenClaim := { program := "ytphnadpmpcifoaa", sum := "5b674833291523e87ac2f9b70a57f25c7aee99c2f61f4c54aabf58c76895a605", func := "quilt/quiltlaw12.GrowWide", spec := "growWide", unfollowed := true, recurses := true, plainKeys := false, apart := false, narrowed := true }
def GrowWideUptoSaid : Prop := growWideUptoRow.holds Try.pinned (OpenSpec.upto growWideSpec)

/-- 'quiltlaw12.GrowStill', WHERE WHAT IT READS IS OF BULK AT MOST 1048576: true; the input reads as it did. -/
def growStillUptoRow : OpenClaim := { program := "ytphnadpmpcifoaa", sum := "5b674833291523e87ac2f9b70a57f25c7aee99c2f61f4c54aabf58c76895a605", func := "quilt/quiltlaw12.GrowStill", spec := "growStill", unfollowed := true, recurses := true, plainKeys := false, apart := false, narrowed := true }
def GrowStillUptoSaid : Prop := growStillUptoRow.holds Try.pinned (OpenSpec.upto growStillSpec)

/-- 'quiltlaw12.GrowGlides', WHERE WHAT IT READS IS OF BULK AT MOST 1048576: true; the input reads as it did. -/
def growGlidesUptoRow : OpenClaim := { program := "ytphnadpmpcifoaa", sum := "5b674833291523e87ac2f9b70a57f25c7aee99c2f61f4c54aabf58c76895a605", func := "quilt/quiltlaw12.GrowGlides", spec := "growGlides", unfollowed := true, recurses := true, plainKeys := false, apart := false, narrowed := true }
def GrowGlidesUptoSaid : Prop := growGlidesUptoRow.holds Try.pinned (OpenSpec.upto growGlidesSpec)

end Rows
end Go.Proofs.Ytphnadpmpcifoaa
