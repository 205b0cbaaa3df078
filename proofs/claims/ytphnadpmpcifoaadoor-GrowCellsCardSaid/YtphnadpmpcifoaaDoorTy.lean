/-
  What the program says of its types and functions, as instances for the rules. Written by gen.py.
-/
import Derived.Test.YtphnadpmpcifoaaDoorProg
import Derived.Test.YtphnadpmpcifoaaDoorOps
import Derived.KernelRfl
namespace Go.Proofs
open Go.Sq
set_option maxRecDepth 100000
instance : Inf Tryd.prog 0 1 0 (.tuple #[]) := ⟨by kernel_rfl⟩
instance : Zer Tryd.prog 0 #[.tuple #[]] := ⟨_, rfl, fun w => run_zero (inferInstance : Inf Tryd.prog 0 _ _ _) w⟩
instance : Inf Tryd.prog 1 1 8 (.nilFunc) := ⟨by kernel_rfl⟩
instance : Zer Tryd.prog 1 #[.nilFunc] := ⟨_, rfl, fun w => run_zero (inferInstance : Inf Tryd.prog 1 _ _ _) w⟩
instance : Und Tryd.prog 2 (.int .i64) := ⟨Tryd.underlying2⟩
instance : Inf Tryd.prog 2 1 8 (.int .i64 0) := ⟨by kernel_rfl⟩
instance : Zer Tryd.prog 2 #[.int .i64 0] := ⟨_, rfl, fun w => run_zero (inferInstance : Inf Tryd.prog 2 _ _ _) w⟩
instance : Und Tryd.prog 3 (.int .i64) := ⟨Tryd.underlying3⟩
instance : Inf Tryd.prog 3 1 8 (.int .i64 0) := ⟨by kernel_rfl⟩
instance : Zer Tryd.prog 3 #[.int .i64 0] := ⟨_, rfl, fun w => run_zero (inferInstance : Inf Tryd.prog 3 _ _ _) w⟩
instance : Und Tryd.prog 4 (.bool) := ⟨Tryd.underlying4⟩
instance : Inf Tryd.prog 4 1 1 (.bool false) := ⟨by kernel_rfl⟩
instance : Zer Tryd.prog 4 #[.bool false] := ⟨_, rfl, fun w => run_zero (inferInstance : Inf Tryd.prog 4 _ _ _) w⟩
instance : Und Tryd.prog 5 (.int .u8) := ⟨Tryd.underlying5⟩
instance : Inf Tryd.prog 5 1 1 (.int .u8 0) := ⟨by kernel_rfl⟩
instance : Zer Tryd.prog 5 #[.int .u8 0] := ⟨_, rfl, fun w => run_zero (inferInstance : Inf Tryd.prog 5 _ _ _) w⟩
instance : Und Tryd.prog 6 (.int .u8) := ⟨Tryd.underlying6⟩
instance : Inf Tryd.prog 6 1 1 (.int .u8 0) := ⟨by kernel_rfl⟩
instance : Zer Tryd.prog 6 #[.int .u8 0] := ⟨_, rfl, fun w => run_zero (inferInstance : Inf Tryd.prog 6 _ _ _) w⟩
instance : Und Tryd.prog 7 (.struct #[⟨ "x", 2, 0, false, "", "runtime", 0⟩, ⟨ "y", 3, 1, false, "", "runtime", 8⟩, ⟨ "signed", 4, 2, false, "", "runtime", 16⟩, ⟨ "code", 6, 3, false, "", "runtime", 17⟩]) := ⟨Tryd.underlying7⟩
instance : Inf Tryd.prog 7 4 24 (.agg #[.int .i64 0, .int .i64 0, .bool false, .int .u8 0]) := ⟨by kernel_rfl⟩
instance : Zer Tryd.prog 7 #[.int .i64 0, .int .i64 0, .bool false, .int .u8 0] := ⟨_, rfl, fun w => run_zero (inferInstance : Inf Tryd.prog 7 _ _ _) w⟩
instance : Und Tryd.prog 8 (.struct #[⟨ "x", 2, 0, false, "", "runtime", 0⟩, ⟨ "y", 3, 1, false, "", "runtime", 8⟩, ⟨ "signed", 4, 2, false, "", "runtime", 16⟩, ⟨ "code", 6, 3, false, "", "runtime", 17⟩]) := ⟨Tryd.underlying8⟩
instance : Inf Tryd.prog 8 4 24 (.agg #[.int .i64 0, .int .i64 0, .bool false, .int .u8 0]) := ⟨by kernel_rfl⟩
instance : Zer Tryd.prog 8 #[.int .i64 0, .int .i64 0, .bool false, .int .u8 0] := ⟨_, rfl, fun w => run_zero (inferInstance : Inf Tryd.prog 8 _ _ _) w⟩
instance : Und Tryd.prog 9 (.string) := ⟨Tryd.underlying9⟩
instance : Inf Tryd.prog 9 1 16 (.string ⟨#[]⟩) := ⟨by kernel_rfl⟩
instance : Zer Tryd.prog 9 #[.string ⟨#[]⟩] := ⟨_, rfl, fun w => run_zero (inferInstance : Inf Tryd.prog 9 _ _ _) w⟩
instance : Und Tryd.prog 10 (.string) := ⟨Tryd.underlying10⟩
instance : Inf Tryd.prog 10 1 16 (.string ⟨#[]⟩) := ⟨by kernel_rfl⟩
instance : Zer Tryd.prog 10 #[.string ⟨#[]⟩] := ⟨_, rfl, fun w => run_zero (inferInstance : Inf Tryd.prog 10 _ _ _) w⟩
instance : Und Tryd.prog 11 (.string) := ⟨Tryd.underlying11⟩
instance : Inf Tryd.prog 11 1 16 (.string ⟨#[]⟩) := ⟨by kernel_rfl⟩
instance : Zer Tryd.prog 11 #[.string ⟨#[]⟩] := ⟨_, rfl, fun w => run_zero (inferInstance : Inf Tryd.prog 11 _ _ _) w⟩
instance : Und Tryd.prog 12 (.int .u64) := ⟨Tryd.underlying12⟩
instance : Inf Tryd.prog 12 1 8 (.int .u64 0) := ⟨by kernel_rfl⟩
instance : Zer Tryd.prog 12 #[.int .u64 0] := ⟨_, rfl, fun w => run_zero (inferInstance : Inf Tryd.prog 12 _ _ _) w⟩
instance : Und Tryd.prog 13 (.struct #[⟨ "msg", 9, 0, false, "", "runtime", 0⟩, ⟨ "addr", 12, 1, false, "", "runtime", 16⟩]) := ⟨Tryd.underlying13⟩
instance : Inf Tryd.prog 13 2 24 (.agg #[.string ⟨#[]⟩, .int .u64 0]) := ⟨by kernel_rfl⟩
instance : Zer Tryd.prog 13 #[.string ⟨#[]⟩, .int .u64 0] := ⟨_, rfl, fun w => run_zero (inferInstance : Inf Tryd.prog 13 _ _ _) w⟩
instance : Und Tryd.prog 14 (.struct #[⟨ "msg", 9, 0, false, "", "runtime", 0⟩, ⟨ "addr", 12, 1, false, "", "runtime", 16⟩]) := ⟨Tryd.underlying14⟩
instance : Inf Tryd.prog 14 2 24 (.agg #[.string ⟨#[]⟩, .int .u64 0]) := ⟨by kernel_rfl⟩
instance : Zer Tryd.prog 14 #[.string ⟨#[]⟩, .int .u64 0] := ⟨_, rfl, fun w => run_zero (inferInstance : Inf Tryd.prog 14 _ _ _) w⟩
instance : Und Tryd.prog 15 (.pointer 156) := ⟨Tryd.underlying15⟩
instance : Inf Tryd.prog 15 1 8 (.pointer none) := ⟨by kernel_rfl⟩
instance : Zer Tryd.prog 15 #[.pointer none] := ⟨_, rfl, fun w => run_zero (inferInstance : Inf Tryd.prog 15 _ _ _) w⟩
instance : Und Tryd.prog 16 (.pointer 159) := ⟨Tryd.underlying16⟩
instance : Inf Tryd.prog 16 1 8 (.pointer none) := ⟨by kernel_rfl⟩
instance : Zer Tryd.prog 16 #[.pointer none] := ⟨_, rfl, fun w => run_zero (inferInstance : Inf Tryd.prog 16 _ _ _) w⟩
instance : Und Tryd.prog 17 (.pointer 167) := ⟨Tryd.underlying17⟩
instance : Inf Tryd.prog 17 1 8 (.pointer none) := ⟨by kernel_rfl⟩
instance : Zer Tryd.prog 17 #[.pointer none] := ⟨_, rfl, fun w => run_zero (inferInstance : Inf Tryd.prog 17 _ _ _) w⟩
instance : Und Tryd.prog 18 (.struct #[⟨ "typ", 17, 0, false, "", "internal/runtime/maps", 0⟩]) := ⟨Tryd.underlying18⟩
instance : Inf Tryd.prog 18 1 8 (.agg #[.pointer none]) := ⟨by kernel_rfl⟩
instance : Zer Tryd.prog 18 #[.pointer none] := ⟨_, rfl, fun w => run_zero (inferInstance : Inf Tryd.prog 18 _ _ _) w⟩
instance : Und Tryd.prog 19 (.struct #[⟨ "typ", 17, 0, false, "", "internal/runtime/maps", 0⟩]) := ⟨Tryd.underlying19⟩
instance : Inf Tryd.prog 19 1 8 (.agg #[.pointer none]) := ⟨by kernel_rfl⟩
instance : Zer Tryd.prog 19 #[.pointer none] := ⟨_, rfl, fun w => run_zero (inferInstance : Inf Tryd.prog 19 _ _ _) w⟩
instance : Und Tryd.prog 20 (.interface #[]) := ⟨Tryd.underlying20⟩
instance : Inf Tryd.prog 20 1 16 (.nilIface) := ⟨by kernel_rfl⟩
instance : Zer Tryd.prog 20 #[.nilIface] := ⟨_, rfl, fun w => run_zero (inferInstance : Inf Tryd.prog 20 _ _ _) w⟩
instance : Und Tryd.prog 21 (.int .i32) := ⟨Tryd.underlying21⟩
instance : Inf Tryd.prog 21 1 4 (.int .i32 0) := ⟨by kernel_rfl⟩
instance : Zer Tryd.prog 21 #[.int .i32 0] := ⟨_, rfl, fun w => run_zero (inferInstance : Inf Tryd.prog 21 _ _ _) w⟩
instance : Und Tryd.prog 22 (.int .u16) := ⟨Tryd.underlying22⟩
instance : Inf Tryd.prog 22 1 2 (.int .u16 0) := ⟨by kernel_rfl⟩
instance : Zer Tryd.prog 22 #[.int .u16 0] := ⟨_, rfl, fun w => run_zero (inferInstance : Inf Tryd.prog 22 _ _ _) w⟩
instance : Und Tryd.prog 23 (.struct #[⟨ "Born", 22, 0, false, "", "", 0⟩, ⟨ "Live", 22, 1, false, "", "", 2⟩]) := ⟨Tryd.underlying23⟩
instance : Inf Tryd.prog 23 2 4 (.agg #[.int .u16 0, .int .u16 0]) := ⟨by kernel_rfl⟩
instance : Zer Tryd.prog 23 #[.int .u16 0, .int .u16 0] := ⟨_, rfl, fun w => run_zero (inferInstance : Inf Tryd.prog 23 _ _ _) w⟩
instance : Und Tryd.prog 24 (.struct #[⟨ "Born", 22, 0, false, "", "", 0⟩, ⟨ "Live", 22, 1, false, "", "", 2⟩]) := ⟨Tryd.underlying24⟩
instance : Inf Tryd.prog 24 2 4 (.agg #[.int .u16 0, .int .u16 0]) := ⟨by kernel_rfl⟩
instance : Zer Tryd.prog 24 #[.int .u16 0, .int .u16 0] := ⟨_, rfl, fun w => run_zero (inferInstance : Inf Tryd.prog 24 _ _ _) w⟩
instance : Und Tryd.prog 25 (.pointer 59) := ⟨Tryd.underlying25⟩
instance : Inf Tryd.prog 25 1 8 (.pointer none) := ⟨by kernel_rfl⟩
instance : Zer Tryd.prog 25 #[.pointer none] := ⟨_, rfl, fun w => run_zero (inferInstance : Inf Tryd.prog 25 _ _ _) w⟩
instance : Und Tryd.prog 26 (.interface #[("Error", 154)]) := ⟨Tryd.underlying26⟩
instance : Inf Tryd.prog 26 1 16 (.nilIface) := ⟨by kernel_rfl⟩
instance : Zer Tryd.prog 26 #[.nilIface] := ⟨_, rfl, fun w => run_zero (inferInstance : Inf Tryd.prog 26 _ _ _) w⟩
instance : Und Tryd.prog 27 (.interface #[("Error", 154)]) := ⟨Tryd.underlying27⟩
instance : Inf Tryd.prog 27 1 16 (.nilIface) := ⟨by kernel_rfl⟩
instance : Zer Tryd.prog 27 #[.nilIface] := ⟨_, rfl, fun w => run_zero (inferInstance : Inf Tryd.prog 27 _ _ _) w⟩
instance : Inf Tryd.prog 28 1 0 (.tuple #[.int .i64 0, .nilIface]) := ⟨by kernel_rfl⟩
instance : Zer Tryd.prog 28 #[.tuple #[.int .i64 0, .nilIface]] := ⟨_, rfl, fun w => run_zero (inferInstance : Inf Tryd.prog 28 _ _ _) w⟩
instance : Inf Tryd.prog 29 1 8 (.nilFunc) := ⟨by kernel_rfl⟩
instance : Zer Tryd.prog 29 #[.nilFunc] := ⟨_, rfl, fun w => run_zero (inferInstance : Inf Tryd.prog 29 _ _ _) w⟩
instance : Inf Tryd.prog 30 1 8 (.nilFunc) := ⟨by kernel_rfl⟩
instance : Zer Tryd.prog 30 #[.nilFunc] := ⟨_, rfl, fun w => run_zero (inferInstance : Inf Tryd.prog 30 _ _ _) w⟩
instance : Inf Tryd.prog 31 1 0 (.tuple #[.pointer none, .nilIface]) := ⟨by kernel_rfl⟩
instance : Zer Tryd.prog 31 #[.tuple #[.pointer none, .nilIface]] := ⟨_, rfl, fun w => run_zero (inferInstance : Inf Tryd.prog 31 _ _ _) w⟩
instance : Inf Tryd.prog 32 1 8 (.nilFunc) := ⟨by kernel_rfl⟩
instance : Zer Tryd.prog 32 #[.nilFunc] := ⟨_, rfl, fun w => run_zero (inferInstance : Inf Tryd.prog 32 _ _ _) w⟩
instance : Und Tryd.prog 33 (.struct #[⟨ "Born", 22, 0, false, "", "", 0⟩, ⟨ "Live", 22, 1, false, "", "", 2⟩]) := ⟨Tryd.underlying33⟩
instance : Inf Tryd.prog 33 2 4 (.agg #[.int .u16 0, .int .u16 0]) := ⟨by kernel_rfl⟩
instance : Zer Tryd.prog 33 #[.int .u16 0, .int .u16 0] := ⟨_, rfl, fun w => run_zero (inferInstance : Inf Tryd.prog 33 _ _ _) w⟩
instance : Und Tryd.prog 34 (.pointer 75) := ⟨Tryd.underlying34⟩
instance : Inf Tryd.prog 34 1 8 (.pointer none) := ⟨by kernel_rfl⟩
instance : Zer Tryd.prog 34 #[.pointer none] := ⟨_, rfl, fun w => run_zero (inferInstance : Inf Tryd.prog 34 _ _ _) w⟩
instance : Inf Tryd.prog 35 1 0 (.tuple #[.pointer none, .nilIface]) := ⟨by kernel_rfl⟩
instance : Zer Tryd.prog 35 #[.tuple #[.pointer none, .nilIface]] := ⟨_, rfl, fun w => run_zero (inferInstance : Inf Tryd.prog 35 _ _ _) w⟩
instance : Inf Tryd.prog 36 1 8 (.nilFunc) := ⟨by kernel_rfl⟩
instance : Zer Tryd.prog 36 #[.nilFunc] := ⟨_, rfl, fun w => run_zero (inferInstance : Inf Tryd.prog 36 _ _ _) w⟩
instance : Inf Tryd.prog 37 1 8 (.nilFunc) := ⟨by kernel_rfl⟩
instance : Zer Tryd.prog 37 #[.nilFunc] := ⟨_, rfl, fun w => run_zero (inferInstance : Inf Tryd.prog 37 _ _ _) w⟩
instance : Inf Tryd.prog 38 1 8 (.nilFunc) := ⟨by kernel_rfl⟩
instance : Zer Tryd.prog 38 #[.nilFunc] := ⟨_, rfl, fun w => run_zero (inferInstance : Inf Tryd.prog 38 _ _ _) w⟩
instance : Inf Tryd.prog 39 1 8 (.nilFunc) := ⟨by kernel_rfl⟩
instance : Zer Tryd.prog 39 #[.nilFunc] := ⟨_, rfl, fun w => run_zero (inferInstance : Inf Tryd.prog 39 _ _ _) w⟩
instance : Inf Tryd.prog 40 1 8 (.nilFunc) := ⟨by kernel_rfl⟩
instance : Zer Tryd.prog 40 #[.nilFunc] := ⟨_, rfl, fun w => run_zero (inferInstance : Inf Tryd.prog 40 _ _ _) w⟩
instance : Inf Tryd.prog 41 1 8 (.nilFunc) := ⟨by kernel_rfl⟩
instance : Zer Tryd.prog 41 #[.nilFunc] := ⟨_, rfl, fun w => run_zero (inferInstance : Inf Tryd.prog 41 _ _ _) w⟩
instance : Und Tryd.prog 42 (.int .u64) := ⟨Tryd.underlying42⟩
instance : Inf Tryd.prog 42 1 8 (.int .u64 0) := ⟨by kernel_rfl⟩
instance : Zer Tryd.prog 42 #[.int .u64 0] := ⟨_, rfl, fun w => run_zero (inferInstance : Inf Tryd.prog 42 _ _ _) w⟩
instance : Und Tryd.prog 43 (.int .u64) := ⟨Tryd.underlying43⟩
instance : Inf Tryd.prog 43 1 8 (.int .u64 0) := ⟨by kernel_rfl⟩
instance : Zer Tryd.prog 43 #[.int .u64 0] := ⟨_, rfl, fun w => run_zero (inferInstance : Inf Tryd.prog 43 _ _ _) w⟩
instance : Inf Tryd.prog 44 1 8 (.nilFunc) := ⟨by kernel_rfl⟩
instance : Zer Tryd.prog 44 #[.nilFunc] := ⟨_, rfl, fun w => run_zero (inferInstance : Inf Tryd.prog 44 _ _ _) w⟩
instance : Und Tryd.prog 45 (.slice 42) := ⟨Tryd.underlying45⟩
instance : Inf Tryd.prog 45 1 24 (.slice none 0 0) := ⟨by kernel_rfl⟩
instance : Zer Tryd.prog 45 #[.slice none 0 0] := ⟨_, rfl, fun w => run_zero (inferInstance : Inf Tryd.prog 45 _ _ _) w⟩
instance : Und Tryd.prog 46 (.struct #[⟨ "K", 3, 0, false, "", "", 0⟩, ⟨ "J", 3, 1, false, "", "", 8⟩]) := ⟨Tryd.underlying46⟩
instance : Inf Tryd.prog 46 2 16 (.agg #[.int .i64 0, .int .i64 0]) := ⟨by kernel_rfl⟩
instance : Zer Tryd.prog 46 #[.int .i64 0, .int .i64 0] := ⟨_, rfl, fun w => run_zero (inferInstance : Inf Tryd.prog 46 _ _ _) w⟩
instance : Und Tryd.prog 47 (.struct #[⟨ "K", 3, 0, false, "", "", 0⟩, ⟨ "J", 3, 1, false, "", "", 8⟩]) := ⟨Tryd.underlying47⟩
instance : Inf Tryd.prog 47 2 16 (.agg #[.int .i64 0, .int .i64 0]) := ⟨by kernel_rfl⟩
instance : Zer Tryd.prog 47 #[.int .i64 0, .int .i64 0] := ⟨_, rfl, fun w => run_zero (inferInstance : Inf Tryd.prog 47 _ _ _) w⟩
instance : Und Tryd.prog 48 (.int .u64) := ⟨Tryd.underlying48⟩
instance : Inf Tryd.prog 48 1 8 (.int .u64 0) := ⟨by kernel_rfl⟩
instance : Zer Tryd.prog 48 #[.int .u64 0] := ⟨_, rfl, fun w => run_zero (inferInstance : Inf Tryd.prog 48 _ _ _) w⟩
instance : Und Tryd.prog 49 (.slice 4) := ⟨Tryd.underlying49⟩
instance : Inf Tryd.prog 49 1 24 (.slice none 0 0) := ⟨by kernel_rfl⟩
instance : Zer Tryd.prog 49 #[.slice none 0 0] := ⟨_, rfl, fun w => run_zero (inferInstance : Inf Tryd.prog 49 _ _ _) w⟩
instance : Inf Tryd.prog 50 1 8 (.nilFunc) := ⟨by kernel_rfl⟩
instance : Zer Tryd.prog 50 #[.nilFunc] := ⟨_, rfl, fun w => run_zero (inferInstance : Inf Tryd.prog 50 _ _ _) w⟩
instance : Inf Tryd.prog 51 1 8 (.nilFunc) := ⟨by kernel_rfl⟩
instance : Zer Tryd.prog 51 #[.nilFunc] := ⟨_, rfl, fun w => run_zero (inferInstance : Inf Tryd.prog 51 _ _ _) w⟩
instance : Inf Tryd.prog 52 1 8 (.nilFunc) := ⟨by kernel_rfl⟩
instance : Zer Tryd.prog 52 #[.nilFunc] := ⟨_, rfl, fun w => run_zero (inferInstance : Inf Tryd.prog 52 _ _ _) w⟩
instance : Inf Tryd.prog 53 1 8 (.nilFunc) := ⟨by kernel_rfl⟩
instance : Zer Tryd.prog 53 #[.nilFunc] := ⟨_, rfl, fun w => run_zero (inferInstance : Inf Tryd.prog 53 _ _ _) w⟩
instance : Inf Tryd.prog 54 1 8 (.nilFunc) := ⟨by kernel_rfl⟩
instance : Zer Tryd.prog 54 #[.nilFunc] := ⟨_, rfl, fun w => run_zero (inferInstance : Inf Tryd.prog 54 _ _ _) w⟩
instance : Inf Tryd.prog 55 1 8 (.nilFunc) := ⟨by kernel_rfl⟩
instance : Zer Tryd.prog 55 #[.nilFunc] := ⟨_, rfl, fun w => run_zero (inferInstance : Inf Tryd.prog 55 _ _ _) w⟩
instance : Und Tryd.prog 56 (.int .i64) := ⟨Tryd.underlying56⟩
instance : Inf Tryd.prog 56 1 8 (.int .i64 0) := ⟨by kernel_rfl⟩
instance : Zer Tryd.prog 56 #[.int .i64 0] := ⟨_, rfl, fun w => run_zero (inferInstance : Inf Tryd.prog 56 _ _ _) w⟩
instance : Und Tryd.prog 57 (.map 95 3) := ⟨Tryd.underlying57⟩
instance : Inf Tryd.prog 57 1 8 (.map none) := ⟨by kernel_rfl⟩
instance : Zer Tryd.prog 57 #[.map none] := ⟨_, rfl, fun w => run_zero (inferInstance : Inf Tryd.prog 57 _ _ _) w⟩
instance : Und Tryd.prog 58 (.struct #[⟨ "s", 34, 0, false, "", "quilt/grow", 0⟩, ⟨ "r", 33, 1, false, "", "quilt/grow", 8⟩, ⟨ "known", 57, 3, false, "", "quilt/grow", 16⟩]) := ⟨Tryd.underlying58⟩
instance : Inf Tryd.prog 58 4 24 (.agg #[.pointer none, .int .u16 0, .int .u16 0, .map none]) := ⟨by kernel_rfl⟩
instance : Zer Tryd.prog 58 #[.pointer none, .int .u16 0, .int .u16 0, .map none] := ⟨_, rfl, fun w => run_zero (inferInstance : Inf Tryd.prog 58 _ _ _) w⟩
instance : Und Tryd.prog 59 (.struct #[⟨ "s", 34, 0, false, "", "quilt/grow", 0⟩, ⟨ "r", 33, 1, false, "", "quilt/grow", 8⟩, ⟨ "known", 57, 3, false, "", "quilt/grow", 16⟩]) := ⟨Tryd.underlying59⟩
instance : Inf Tryd.prog 59 4 24 (.agg #[.pointer none, .int .u16 0, .int .u16 0, .map none]) := ⟨by kernel_rfl⟩
instance : Zer Tryd.prog 59 #[.pointer none, .int .u16 0, .int .u16 0, .map none] := ⟨_, rfl, fun w => run_zero (inferInstance : Inf Tryd.prog 59 _ _ _) w⟩
instance : Und Tryd.prog 60 (.pointer 62) := ⟨Tryd.underlying60⟩
instance : Inf Tryd.prog 60 1 8 (.pointer none) := ⟨by kernel_rfl⟩
instance : Zer Tryd.prog 60 #[.pointer none] := ⟨_, rfl, fun w => run_zero (inferInstance : Inf Tryd.prog 60 _ _ _) w⟩
instance : Und Tryd.prog 61 (.struct #[⟨ "Store", 34, 0, true, "", "", 0⟩, ⟨ "err", 27, 1, false, "", "quilt/grow", 8⟩]) := ⟨Tryd.underlying61⟩
instance : Inf Tryd.prog 61 2 24 (.agg #[.pointer none, .nilIface]) := ⟨by kernel_rfl⟩
instance : Zer Tryd.prog 61 #[.pointer none, .nilIface] := ⟨_, rfl, fun w => run_zero (inferInstance : Inf Tryd.prog 61 _ _ _) w⟩
instance : Und Tryd.prog 62 (.struct #[⟨ "Store", 34, 0, true, "", "", 0⟩, ⟨ "err", 27, 1, false, "", "quilt/grow", 8⟩]) := ⟨Tryd.underlying62⟩
instance : Inf Tryd.prog 62 2 24 (.agg #[.pointer none, .nilIface]) := ⟨by kernel_rfl⟩
instance : Zer Tryd.prog 62 #[.pointer none, .nilIface] := ⟨_, rfl, fun w => run_zero (inferInstance : Inf Tryd.prog 62 _ _ _) w⟩
instance : Inf Tryd.prog 63 1 8 (.nilFunc) := ⟨by kernel_rfl⟩
instance : Zer Tryd.prog 63 #[.nilFunc] := ⟨_, rfl, fun w => run_zero (inferInstance : Inf Tryd.prog 63 _ _ _) w⟩
instance : Und Tryd.prog 64 (.array 4 3) := ⟨Tryd.underlying64⟩
instance : Inf Tryd.prog 64 4 32 (.agg #[.int .i64 0, .int .i64 0, .int .i64 0, .int .i64 0]) := ⟨by kernel_rfl⟩
instance : Zer Tryd.prog 64 #[.int .i64 0, .int .i64 0, .int .i64 0, .int .i64 0] := ⟨_, rfl, fun w => run_zero (inferInstance : Inf Tryd.prog 64 _ _ _) w⟩
instance : Inf Tryd.prog 65 1 8 (.nilFunc) := ⟨by kernel_rfl⟩
instance : Zer Tryd.prog 65 #[.nilFunc] := ⟨_, rfl, fun w => run_zero (inferInstance : Inf Tryd.prog 65 _ _ _) w⟩
instance : Inf Tryd.prog 66 1 8 (.nilFunc) := ⟨by kernel_rfl⟩
instance : Zer Tryd.prog 66 #[.nilFunc] := ⟨_, rfl, fun w => run_zero (inferInstance : Inf Tryd.prog 66 _ _ _) w⟩
instance : Inf Tryd.prog 67 1 8 (.nilFunc) := ⟨by kernel_rfl⟩
instance : Zer Tryd.prog 67 #[.nilFunc] := ⟨_, rfl, fun w => run_zero (inferInstance : Inf Tryd.prog 67 _ _ _) w⟩
instance : Inf Tryd.prog 68 1 8 (.nilFunc) := ⟨by kernel_rfl⟩
instance : Zer Tryd.prog 68 #[.nilFunc] := ⟨_, rfl, fun w => run_zero (inferInstance : Inf Tryd.prog 68 _ _ _) w⟩
instance : Inf Tryd.prog 69 1 8 (.nilFunc) := ⟨by kernel_rfl⟩
instance : Zer Tryd.prog 69 #[.nilFunc] := ⟨_, rfl, fun w => run_zero (inferInstance : Inf Tryd.prog 69 _ _ _) w⟩
instance : Inf Tryd.prog 70 1 8 (.nilFunc) := ⟨by kernel_rfl⟩
instance : Zer Tryd.prog 70 #[.nilFunc] := ⟨_, rfl, fun w => run_zero (inferInstance : Inf Tryd.prog 70 _ _ _) w⟩
instance : Und Tryd.prog 71 (.map 80 3) := ⟨Tryd.underlying71⟩
instance : Inf Tryd.prog 71 1 8 (.map none) := ⟨by kernel_rfl⟩
instance : Zer Tryd.prog 71 #[.map none] := ⟨_, rfl, fun w => run_zero (inferInstance : Inf Tryd.prog 71 _ _ _) w⟩
instance : Und Tryd.prog 72 (.slice 80) := ⟨Tryd.underlying72⟩
instance : Inf Tryd.prog 72 1 24 (.slice none 0 0) := ⟨by kernel_rfl⟩
instance : Zer Tryd.prog 72 #[.slice none 0 0] := ⟨_, rfl, fun w => run_zero (inferInstance : Inf Tryd.prog 72 _ _ _) w⟩
instance : Und Tryd.prog 73 (.slice 3) := ⟨Tryd.underlying73⟩
instance : Inf Tryd.prog 73 1 24 (.slice none 0 0) := ⟨by kernel_rfl⟩
instance : Zer Tryd.prog 73 #[.slice none 0 0] := ⟨_, rfl, fun w => run_zero (inferInstance : Inf Tryd.prog 73 _ _ _) w⟩
instance : Und Tryd.prog 74 (.struct #[⟨ "room", 3, 0, false, "", "quilt/quad", 0⟩, ⟨ "l", 72, 1, false, "", "quilt/quad", 8⟩, ⟨ "many", 73, 2, false, "", "quilt/quad", 32⟩, ⟨ "known", 71, 3, false, "", "quilt/quad", 56⟩]) := ⟨Tryd.underlying74⟩
instance : Inf Tryd.prog 74 4 64 (.agg #[.int .i64 0, .slice none 0 0, .slice none 0 0, .map none]) := ⟨by kernel_rfl⟩
instance : Zer Tryd.prog 74 #[.int .i64 0, .slice none 0 0, .slice none 0 0, .map none] := ⟨_, rfl, fun w => run_zero (inferInstance : Inf Tryd.prog 74 _ _ _) w⟩
instance : Und Tryd.prog 75 (.struct #[⟨ "room", 3, 0, false, "", "quilt/quad", 0⟩, ⟨ "l", 72, 1, false, "", "quilt/quad", 8⟩, ⟨ "many", 73, 2, false, "", "quilt/quad", 32⟩, ⟨ "known", 71, 3, false, "", "quilt/quad", 56⟩]) := ⟨Tryd.underlying75⟩
instance : Inf Tryd.prog 75 4 64 (.agg #[.int .i64 0, .slice none 0 0, .slice none 0 0, .map none]) := ⟨by kernel_rfl⟩
instance : Zer Tryd.prog 75 #[.int .i64 0, .slice none 0 0, .slice none 0 0, .map none] := ⟨_, rfl, fun w => run_zero (inferInstance : Inf Tryd.prog 75 _ _ _) w⟩
instance : Inf Tryd.prog 76 1 8 (.nilFunc) := ⟨by kernel_rfl⟩
instance : Zer Tryd.prog 76 #[.nilFunc] := ⟨_, rfl, fun w => run_zero (inferInstance : Inf Tryd.prog 76 _ _ _) w⟩
instance : Und Tryd.prog 77 (.pointer 56) := ⟨Tryd.underlying77⟩
instance : Inf Tryd.prog 77 1 8 (.pointer none) := ⟨by kernel_rfl⟩
instance : Zer Tryd.prog 77 #[.pointer none] := ⟨_, rfl, fun w => run_zero (inferInstance : Inf Tryd.prog 77 _ _ _) w⟩
instance : Inf Tryd.prog 78 1 8 (.nilFunc) := ⟨by kernel_rfl⟩
instance : Zer Tryd.prog 78 #[.nilFunc] := ⟨_, rfl, fun w => run_zero (inferInstance : Inf Tryd.prog 78 _ _ _) w⟩
instance : Und Tryd.prog 79 (.struct #[⟨ "level", 3, 0, false, "", "quilt/quad", 0⟩, ⟨ "tile", 43, 1, false, "", "quilt/quad", 8⟩, ⟨ "kids", 64, 2, false, "", "quilt/quad", 16⟩]) := ⟨Tryd.underlying79⟩
instance : Inf Tryd.prog 79 6 48 (.agg #[.int .i64 0, .int .u64 0, .int .i64 0, .int .i64 0, .int .i64 0, .int .i64 0]) := ⟨by kernel_rfl⟩
instance : Zer Tryd.prog 79 #[.int .i64 0, .int .u64 0, .int .i64 0, .int .i64 0, .int .i64 0, .int .i64 0] := ⟨_, rfl, fun w => run_zero (inferInstance : Inf Tryd.prog 79 _ _ _) w⟩
instance : Und Tryd.prog 80 (.struct #[⟨ "level", 3, 0, false, "", "quilt/quad", 0⟩, ⟨ "tile", 43, 1, false, "", "quilt/quad", 8⟩, ⟨ "kids", 64, 2, false, "", "quilt/quad", 16⟩]) := ⟨Tryd.underlying80⟩
instance : Inf Tryd.prog 80 6 48 (.agg #[.int .i64 0, .int .u64 0, .int .i64 0, .int .i64 0, .int .i64 0, .int .i64 0]) := ⟨by kernel_rfl⟩
instance : Zer Tryd.prog 80 #[.int .i64 0, .int .u64 0, .int .i64 0, .int .i64 0, .int .i64 0, .int .i64 0] := ⟨_, rfl, fun w => run_zero (inferInstance : Inf Tryd.prog 80 _ _ _) w⟩
instance : Inf Tryd.prog 81 1 8 (.nilFunc) := ⟨by kernel_rfl⟩
instance : Zer Tryd.prog 81 #[.nilFunc] := ⟨_, rfl, fun w => run_zero (inferInstance : Inf Tryd.prog 81 _ _ _) w⟩
instance : Inf Tryd.prog 82 1 0 (.tuple #[.bool false, .nilIface]) := ⟨by kernel_rfl⟩
instance : Zer Tryd.prog 82 #[.tuple #[.bool false, .nilIface]] := ⟨_, rfl, fun w => run_zero (inferInstance : Inf Tryd.prog 82 _ _ _) w⟩
instance : Inf Tryd.prog 83 1 8 (.nilFunc) := ⟨by kernel_rfl⟩
instance : Zer Tryd.prog 83 #[.nilFunc] := ⟨_, rfl, fun w => run_zero (inferInstance : Inf Tryd.prog 83 _ _ _) w⟩
instance : Und Tryd.prog 84 (.struct #[⟨ "N", 3, 0, false, "", "", 0⟩, ⟨ "L", 49, 1, false, "", "", 8⟩]) := ⟨Tryd.underlying84⟩
instance : Inf Tryd.prog 84 2 32 (.agg #[.int .i64 0, .slice none 0 0]) := ⟨by kernel_rfl⟩
instance : Zer Tryd.prog 84 #[.int .i64 0, .slice none 0 0] := ⟨_, rfl, fun w => run_zero (inferInstance : Inf Tryd.prog 84 _ _ _) w⟩
instance : Und Tryd.prog 85 (.struct #[⟨ "N", 3, 0, false, "", "", 0⟩, ⟨ "L", 49, 1, false, "", "", 8⟩]) := ⟨Tryd.underlying85⟩
instance : Inf Tryd.prog 85 2 32 (.agg #[.int .i64 0, .slice none 0 0]) := ⟨by kernel_rfl⟩
instance : Zer Tryd.prog 85 #[.int .i64 0, .slice none 0 0] := ⟨_, rfl, fun w => run_zero (inferInstance : Inf Tryd.prog 85 _ _ _) w⟩
instance : Inf Tryd.prog 86 1 8 (.nilFunc) := ⟨by kernel_rfl⟩
instance : Zer Tryd.prog 86 #[.nilFunc] := ⟨_, rfl, fun w => run_zero (inferInstance : Inf Tryd.prog 86 _ _ _) w⟩
instance : Inf Tryd.prog 87 1 0 (.tuple #[.agg #[.int .i64 0, .int .u64 0, .int .i64 0, .int .i64 0, .int .i64 0, .int .i64 0], .nilIface]) := ⟨by kernel_rfl⟩
instance : Zer Tryd.prog 87 #[.tuple #[.agg #[.int .i64 0, .int .u64 0, .int .i64 0, .int .i64 0, .int .i64 0, .int .i64 0], .nilIface]] := ⟨_, rfl, fun w => run_zero (inferInstance : Inf Tryd.prog 87 _ _ _) w⟩
instance : Inf Tryd.prog 88 1 8 (.nilFunc) := ⟨by kernel_rfl⟩
instance : Zer Tryd.prog 88 #[.nilFunc] := ⟨_, rfl, fun w => run_zero (inferInstance : Inf Tryd.prog 88 _ _ _) w⟩
instance : Inf Tryd.prog 89 1 8 (.nilFunc) := ⟨by kernel_rfl⟩
instance : Zer Tryd.prog 89 #[.nilFunc] := ⟨_, rfl, fun w => run_zero (inferInstance : Inf Tryd.prog 89 _ _ _) w⟩
instance : Und Tryd.prog 90 (.array 4 43) := ⟨Tryd.underlying90⟩
instance : Inf Tryd.prog 90 4 32 (.agg #[.int .u64 0, .int .u64 0, .int .u64 0, .int .u64 0]) := ⟨by kernel_rfl⟩
instance : Zer Tryd.prog 90 #[.int .u64 0, .int .u64 0, .int .u64 0, .int .u64 0] := ⟨_, rfl, fun w => run_zero (inferInstance : Inf Tryd.prog 90 _ _ _) w⟩
instance : Inf Tryd.prog 91 1 8 (.nilFunc) := ⟨by kernel_rfl⟩
instance : Zer Tryd.prog 91 #[.nilFunc] := ⟨_, rfl, fun w => run_zero (inferInstance : Inf Tryd.prog 91 _ _ _) w⟩
instance : Inf Tryd.prog 92 1 0 (.tuple #[.agg #[.int .i64 0, .int .i64 0, .int .i64 0, .int .i64 0], .nilIface]) := ⟨by kernel_rfl⟩
instance : Zer Tryd.prog 92 #[.tuple #[.agg #[.int .i64 0, .int .i64 0, .int .i64 0, .int .i64 0], .nilIface]] := ⟨_, rfl, fun w => run_zero (inferInstance : Inf Tryd.prog 92 _ _ _) w⟩
instance : Inf Tryd.prog 93 1 8 (.nilFunc) := ⟨by kernel_rfl⟩
instance : Zer Tryd.prog 93 #[.nilFunc] := ⟨_, rfl, fun w => run_zero (inferInstance : Inf Tryd.prog 93 _ _ _) w⟩
instance : Und Tryd.prog 94 (.struct #[⟨ "id", 3, 0, false, "", "quilt/grow", 0⟩, ⟨ "j", 3, 1, false, "", "quilt/grow", 8⟩]) := ⟨Tryd.underlying94⟩
instance : Inf Tryd.prog 94 2 16 (.agg #[.int .i64 0, .int .i64 0]) := ⟨by kernel_rfl⟩
instance : Zer Tryd.prog 94 #[.int .i64 0, .int .i64 0] := ⟨_, rfl, fun w => run_zero (inferInstance : Inf Tryd.prog 94 _ _ _) w⟩
instance : Und Tryd.prog 95 (.struct #[⟨ "id", 3, 0, false, "", "quilt/grow", 0⟩, ⟨ "j", 3, 1, false, "", "quilt/grow", 8⟩]) := ⟨Tryd.underlying95⟩
instance : Inf Tryd.prog 95 2 16 (.agg #[.int .i64 0, .int .i64 0]) := ⟨by kernel_rfl⟩
instance : Zer Tryd.prog 95 #[.int .i64 0, .int .i64 0] := ⟨_, rfl, fun w => run_zero (inferInstance : Inf Tryd.prog 95 _ _ _) w⟩
instance : Inf Tryd.prog 96 1 0 (.tuple #[.int .i64 0, .bool false]) := ⟨by kernel_rfl⟩
instance : Zer Tryd.prog 96 #[.tuple #[.int .i64 0, .bool false]] := ⟨_, rfl, fun w => run_zero (inferInstance : Inf Tryd.prog 96 _ _ _) w⟩
instance : Inf Tryd.prog 97 1 0 (.tuple #[.int .u64 0, .nilIface]) := ⟨by kernel_rfl⟩
instance : Zer Tryd.prog 97 #[.tuple #[.int .u64 0, .nilIface]] := ⟨_, rfl, fun w => run_zero (inferInstance : Inf Tryd.prog 97 _ _ _) w⟩
instance : Inf Tryd.prog 98 1 8 (.nilFunc) := ⟨by kernel_rfl⟩
instance : Zer Tryd.prog 98 #[.nilFunc] := ⟨_, rfl, fun w => run_zero (inferInstance : Inf Tryd.prog 98 _ _ _) w⟩
instance : Inf Tryd.prog 99 1 8 (.nilFunc) := ⟨by kernel_rfl⟩
instance : Zer Tryd.prog 99 #[.nilFunc] := ⟨_, rfl, fun w => run_zero (inferInstance : Inf Tryd.prog 99 _ _ _) w⟩
instance : Inf Tryd.prog 100 1 8 (.nilFunc) := ⟨by kernel_rfl⟩
instance : Zer Tryd.prog 100 #[.nilFunc] := ⟨_, rfl, fun w => run_zero (inferInstance : Inf Tryd.prog 100 _ _ _) w⟩
instance : Inf Tryd.prog 101 1 8 (.nilFunc) := ⟨by kernel_rfl⟩
instance : Zer Tryd.prog 101 #[.nilFunc] := ⟨_, rfl, fun w => run_zero (inferInstance : Inf Tryd.prog 101 _ _ _) w⟩
instance : Inf Tryd.prog 102 1 8 (.pointer none) := ⟨by kernel_rfl⟩
instance : Zer Tryd.prog 102 #[.pointer none] := ⟨_, rfl, fun w => run_zero (inferInstance : Inf Tryd.prog 102 _ _ _) w⟩
instance : Und Tryd.prog 103 (.int .u64) := ⟨Tryd.underlying103⟩
instance : Inf Tryd.prog 103 1 8 (.int .u64 0) := ⟨by kernel_rfl⟩
instance : Zer Tryd.prog 103 #[.int .u64 0] := ⟨_, rfl, fun w => run_zero (inferInstance : Inf Tryd.prog 103 _ _ _) w⟩
instance : Und Tryd.prog 104 (.struct #[⟨ "typ_", 17, 0, false, "", "internal/reflectlite", 0⟩, ⟨ "ptr", 102, 1, false, "", "internal/reflectlite", 8⟩, ⟨ "flag", 103, 2, true, "", "internal/reflectlite", 16⟩]) := ⟨Tryd.underlying104⟩
instance : Inf Tryd.prog 104 3 24 (.agg #[.pointer none, .pointer none, .int .u64 0]) := ⟨by kernel_rfl⟩
instance : Zer Tryd.prog 104 #[.pointer none, .pointer none, .int .u64 0] := ⟨_, rfl, fun w => run_zero (inferInstance : Inf Tryd.prog 104 _ _ _) w⟩
instance : Und Tryd.prog 105 (.struct #[⟨ "typ_", 17, 0, false, "", "internal/reflectlite", 0⟩, ⟨ "ptr", 102, 1, false, "", "internal/reflectlite", 8⟩, ⟨ "flag", 103, 2, true, "", "internal/reflectlite", 16⟩]) := ⟨Tryd.underlying105⟩
instance : Inf Tryd.prog 105 3 24 (.agg #[.pointer none, .pointer none, .int .u64 0]) := ⟨by kernel_rfl⟩
instance : Zer Tryd.prog 105 #[.pointer none, .pointer none, .int .u64 0] := ⟨_, rfl, fun w => run_zero (inferInstance : Inf Tryd.prog 105 _ _ _) w⟩
instance : Inf Tryd.prog 106 1 8 (.nilFunc) := ⟨by kernel_rfl⟩
instance : Zer Tryd.prog 106 #[.nilFunc] := ⟨_, rfl, fun w => run_zero (inferInstance : Inf Tryd.prog 106 _ _ _) w⟩
instance : Und Tryd.prog 107 (.interface #[("AssignableTo", 112), ("Comparable", 40), ("Elem", 109), ("Implements", 112), ("Kind", 111), ("Name", 154), ("PkgPath", 154), ("Size", 168), ("String", 154), ("internal/reflectlite.common", 160), ("internal/reflectlite.uncommon", 169)]) := ⟨Tryd.underlying107⟩
instance : Inf Tryd.prog 107 1 16 (.nilIface) := ⟨by kernel_rfl⟩
instance : Zer Tryd.prog 107 #[.nilIface] := ⟨_, rfl, fun w => run_zero (inferInstance : Inf Tryd.prog 107 _ _ _) w⟩
instance : Und Tryd.prog 108 (.interface #[("AssignableTo", 112), ("Comparable", 40), ("Elem", 109), ("Implements", 112), ("Kind", 111), ("Name", 154), ("PkgPath", 154), ("Size", 168), ("String", 154), ("internal/reflectlite.common", 160), ("internal/reflectlite.uncommon", 169)]) := ⟨Tryd.underlying108⟩
instance : Inf Tryd.prog 108 1 16 (.nilIface) := ⟨by kernel_rfl⟩
instance : Zer Tryd.prog 108 #[.nilIface] := ⟨_, rfl, fun w => run_zero (inferInstance : Inf Tryd.prog 108 _ _ _) w⟩
instance : Inf Tryd.prog 109 1 8 (.nilFunc) := ⟨by kernel_rfl⟩
instance : Zer Tryd.prog 109 #[.nilFunc] := ⟨_, rfl, fun w => run_zero (inferInstance : Inf Tryd.prog 109 _ _ _) w⟩
instance : Und Tryd.prog 110 (.int .u8) := ⟨Tryd.underlying110⟩
instance : Inf Tryd.prog 110 1 1 (.int .u8 0) := ⟨by kernel_rfl⟩
instance : Zer Tryd.prog 110 #[.int .u8 0] := ⟨_, rfl, fun w => run_zero (inferInstance : Inf Tryd.prog 110 _ _ _) w⟩
instance : Inf Tryd.prog 111 1 8 (.nilFunc) := ⟨by kernel_rfl⟩
instance : Zer Tryd.prog 111 #[.nilFunc] := ⟨_, rfl, fun w => run_zero (inferInstance : Inf Tryd.prog 111 _ _ _) w⟩
instance : Inf Tryd.prog 112 1 8 (.nilFunc) := ⟨by kernel_rfl⟩
instance : Zer Tryd.prog 112 #[.nilFunc] := ⟨_, rfl, fun w => run_zero (inferInstance : Inf Tryd.prog 112 _ _ _) w⟩
instance : Inf Tryd.prog 113 1 8 (.nilFunc) := ⟨by kernel_rfl⟩
instance : Zer Tryd.prog 113 #[.nilFunc] := ⟨_, rfl, fun w => run_zero (inferInstance : Inf Tryd.prog 113 _ _ _) w⟩
instance : Inf Tryd.prog 114 1 8 (.nilFunc) := ⟨by kernel_rfl⟩
instance : Zer Tryd.prog 114 #[.nilFunc] := ⟨_, rfl, fun w => run_zero (inferInstance : Inf Tryd.prog 114 _ _ _) w⟩
instance : Inf Tryd.prog 115 1 8 (.nilFunc) := ⟨by kernel_rfl⟩
instance : Zer Tryd.prog 115 #[.nilFunc] := ⟨_, rfl, fun w => run_zero (inferInstance : Inf Tryd.prog 115 _ _ _) w⟩
instance : Inf Tryd.prog 116 1 8 (.nilFunc) := ⟨by kernel_rfl⟩
instance : Zer Tryd.prog 116 #[.nilFunc] := ⟨_, rfl, fun w => run_zero (inferInstance : Inf Tryd.prog 116 _ _ _) w⟩
instance : Inf Tryd.prog 117 1 8 (.nilFunc) := ⟨by kernel_rfl⟩
instance : Zer Tryd.prog 117 #[.nilFunc] := ⟨_, rfl, fun w => run_zero (inferInstance : Inf Tryd.prog 117 _ _ _) w⟩
instance : Inf Tryd.prog 118 1 8 (.nilFunc) := ⟨by kernel_rfl⟩
instance : Zer Tryd.prog 118 #[.nilFunc] := ⟨_, rfl, fun w => run_zero (inferInstance : Inf Tryd.prog 118 _ _ _) w⟩
instance : Inf Tryd.prog 119 1 8 (.nilFunc) := ⟨by kernel_rfl⟩
instance : Zer Tryd.prog 119 #[.nilFunc] := ⟨_, rfl, fun w => run_zero (inferInstance : Inf Tryd.prog 119 _ _ _) w⟩
instance : Und Tryd.prog 120 (.int .u32) := ⟨Tryd.underlying120⟩
instance : Inf Tryd.prog 120 1 4 (.int .u32 0) := ⟨by kernel_rfl⟩
instance : Zer Tryd.prog 120 #[.int .u32 0] := ⟨_, rfl, fun w => run_zero (inferInstance : Inf Tryd.prog 120 _ _ _) w⟩
instance : Und Tryd.prog 121 (.array 24 120) := ⟨Tryd.underlying121⟩
instance : Inf Tryd.prog 121 24 96 (.agg #[.int .u32 0, .int .u32 0, .int .u32 0, .int .u32 0, .int .u32 0, .int .u32 0, .int .u32 0, .int .u32 0, .int .u32 0, .int .u32 0, .int .u32 0, .int .u32 0, .int .u32 0, .int .u32 0, .int .u32 0, .int .u32 0, .int .u32 0, .int .u32 0, .int .u32 0, .int .u32 0, .int .u32 0, .int .u32 0, .int .u32 0, .int .u32 0]) := ⟨by kernel_rfl⟩
instance : Zer Tryd.prog 121 #[.int .u32 0, .int .u32 0, .int .u32 0, .int .u32 0, .int .u32 0, .int .u32 0, .int .u32 0, .int .u32 0, .int .u32 0, .int .u32 0, .int .u32 0, .int .u32 0, .int .u32 0, .int .u32 0, .int .u32 0, .int .u32 0, .int .u32 0, .int .u32 0, .int .u32 0, .int .u32 0, .int .u32 0, .int .u32 0, .int .u32 0, .int .u32 0] := ⟨_, rfl, fun w => run_zero (inferInstance : Inf Tryd.prog 121 _ _ _) w⟩
instance : Und Tryd.prog 122 (.array 24 120) := ⟨Tryd.underlying122⟩
instance : Inf Tryd.prog 122 24 96 (.agg #[.int .u32 0, .int .u32 0, .int .u32 0, .int .u32 0, .int .u32 0, .int .u32 0, .int .u32 0, .int .u32 0, .int .u32 0, .int .u32 0, .int .u32 0, .int .u32 0, .int .u32 0, .int .u32 0, .int .u32 0, .int .u32 0, .int .u32 0, .int .u32 0, .int .u32 0, .int .u32 0, .int .u32 0, .int .u32 0, .int .u32 0, .int .u32 0]) := ⟨by kernel_rfl⟩
instance : Zer Tryd.prog 122 #[.int .u32 0, .int .u32 0, .int .u32 0, .int .u32 0, .int .u32 0, .int .u32 0, .int .u32 0, .int .u32 0, .int .u32 0, .int .u32 0, .int .u32 0, .int .u32 0, .int .u32 0, .int .u32 0, .int .u32 0, .int .u32 0, .int .u32 0, .int .u32 0, .int .u32 0, .int .u32 0, .int .u32 0, .int .u32 0, .int .u32 0, .int .u32 0] := ⟨_, rfl, fun w => run_zero (inferInstance : Inf Tryd.prog 122 _ _ _) w⟩
instance : Inf Tryd.prog 123 1 8 (.nilFunc) := ⟨by kernel_rfl⟩
instance : Zer Tryd.prog 123 #[.nilFunc] := ⟨_, rfl, fun w => run_zero (inferInstance : Inf Tryd.prog 123 _ _ _) w⟩
instance : Inf Tryd.prog 124 1 8 (.nilFunc) := ⟨by kernel_rfl⟩
instance : Zer Tryd.prog 124 #[.nilFunc] := ⟨_, rfl, fun w => run_zero (inferInstance : Inf Tryd.prog 124 _ _ _) w⟩
instance : Inf Tryd.prog 125 1 8 (.nilFunc) := ⟨by kernel_rfl⟩
instance : Zer Tryd.prog 125 #[.nilFunc] := ⟨_, rfl, fun w => run_zero (inferInstance : Inf Tryd.prog 125 _ _ _) w⟩
instance : Und Tryd.prog 126 (.array 9 3) := ⟨Tryd.underlying126⟩
instance : Inf Tryd.prog 126 9 72 (.agg #[.int .i64 0, .int .i64 0, .int .i64 0, .int .i64 0, .int .i64 0, .int .i64 0, .int .i64 0, .int .i64 0, .int .i64 0]) := ⟨by kernel_rfl⟩
instance : Zer Tryd.prog 126 #[.int .i64 0, .int .i64 0, .int .i64 0, .int .i64 0, .int .i64 0, .int .i64 0, .int .i64 0, .int .i64 0, .int .i64 0] := ⟨_, rfl, fun w => run_zero (inferInstance : Inf Tryd.prog 126 _ _ _) w⟩
instance : Inf Tryd.prog 127 1 8 (.nilFunc) := ⟨by kernel_rfl⟩
instance : Zer Tryd.prog 127 #[.nilFunc] := ⟨_, rfl, fun w => run_zero (inferInstance : Inf Tryd.prog 127 _ _ _) w⟩
instance : Und Tryd.prog 128 (.array 9 64) := ⟨Tryd.underlying128⟩
instance : Inf Tryd.prog 128 36 288 (.agg #[.int .i64 0, .int .i64 0, .int .i64 0, .int .i64 0, .int .i64 0, .int .i64 0, .int .i64 0, .int .i64 0, .int .i64 0, .int .i64 0, .int .i64 0, .int .i64 0, .int .i64 0, .int .i64 0, .int .i64 0, .int .i64 0, .int .i64 0, .int .i64 0, .int .i64 0, .int .i64 0, .int .i64 0, .int .i64 0, .int .i64 0, .int .i64 0, .int .i64 0, .int .i64 0, .int .i64 0, .int .i64 0, .int .i64 0, .int .i64 0, .int .i64 0, .int .i64 0, .int .i64 0, .int .i64 0, .int .i64 0, .int .i64 0]) := ⟨by kernel_rfl⟩
instance : Zer Tryd.prog 128 #[.int .i64 0, .int .i64 0, .int .i64 0, .int .i64 0, .int .i64 0, .int .i64 0, .int .i64 0, .int .i64 0, .int .i64 0, .int .i64 0, .int .i64 0, .int .i64 0, .int .i64 0, .int .i64 0, .int .i64 0, .int .i64 0, .int .i64 0, .int .i64 0, .int .i64 0, .int .i64 0, .int .i64 0, .int .i64 0, .int .i64 0, .int .i64 0, .int .i64 0, .int .i64 0, .int .i64 0, .int .i64 0, .int .i64 0, .int .i64 0, .int .i64 0, .int .i64 0, .int .i64 0, .int .i64 0, .int .i64 0, .int .i64 0] := ⟨_, rfl, fun w => run_zero (inferInstance : Inf Tryd.prog 128 _ _ _) w⟩
instance : Inf Tryd.prog 129 1 8 (.nilFunc) := ⟨by kernel_rfl⟩
instance : Zer Tryd.prog 129 #[.nilFunc] := ⟨_, rfl, fun w => run_zero (inferInstance : Inf Tryd.prog 129 _ _ _) w⟩
instance : Und Tryd.prog 130 (.array 4 80) := ⟨Tryd.underlying130⟩
instance : Inf Tryd.prog 130 24 192 (.agg #[.int .i64 0, .int .u64 0, .int .i64 0, .int .i64 0, .int .i64 0, .int .i64 0, .int .i64 0, .int .u64 0, .int .i64 0, .int .i64 0, .int .i64 0, .int .i64 0, .int .i64 0, .int .u64 0, .int .i64 0, .int .i64 0, .int .i64 0, .int .i64 0, .int .i64 0, .int .u64 0, .int .i64 0, .int .i64 0, .int .i64 0, .int .i64 0]) := ⟨by kernel_rfl⟩
instance : Zer Tryd.prog 130 #[.int .i64 0, .int .u64 0, .int .i64 0, .int .i64 0, .int .i64 0, .int .i64 0, .int .i64 0, .int .u64 0, .int .i64 0, .int .i64 0, .int .i64 0, .int .i64 0, .int .i64 0, .int .u64 0, .int .i64 0, .int .i64 0, .int .i64 0, .int .i64 0, .int .i64 0, .int .u64 0, .int .i64 0, .int .i64 0, .int .i64 0, .int .i64 0] := ⟨_, rfl, fun w => run_zero (inferInstance : Inf Tryd.prog 130 _ _ _) w⟩
instance : Und Tryd.prog 131 (.struct #[⟨ "Type", 17, 0, true, "", "", 0⟩]) := ⟨Tryd.underlying131⟩
instance : Inf Tryd.prog 131 1 8 (.agg #[.pointer none]) := ⟨by kernel_rfl⟩
instance : Zer Tryd.prog 131 #[.pointer none] := ⟨_, rfl, fun w => run_zero (inferInstance : Inf Tryd.prog 131 _ _ _) w⟩
instance : Und Tryd.prog 132 (.struct #[⟨ "Type", 17, 0, true, "", "", 0⟩]) := ⟨Tryd.underlying132⟩
instance : Inf Tryd.prog 132 1 8 (.agg #[.pointer none]) := ⟨by kernel_rfl⟩
instance : Zer Tryd.prog 132 #[.pointer none] := ⟨_, rfl, fun w => run_zero (inferInstance : Inf Tryd.prog 132 _ _ _) w⟩
instance : Und Tryd.prog 133 (.pointer 171) := ⟨Tryd.underlying133⟩
instance : Inf Tryd.prog 133 1 8 (.pointer none) := ⟨by kernel_rfl⟩
instance : Zer Tryd.prog 133 #[.pointer none] := ⟨_, rfl, fun w => run_zero (inferInstance : Inf Tryd.prog 133 _ _ _) w⟩
instance : Inf Tryd.prog 134 1 8 (.nilFunc) := ⟨by kernel_rfl⟩
instance : Zer Tryd.prog 134 #[.nilFunc] := ⟨_, rfl, fun w => run_zero (inferInstance : Inf Tryd.prog 134 _ _ _) w⟩
instance : Inf Tryd.prog 135 1 8 (.nilFunc) := ⟨by kernel_rfl⟩
instance : Zer Tryd.prog 135 #[.nilFunc] := ⟨_, rfl, fun w => run_zero (inferInstance : Inf Tryd.prog 135 _ _ _) w⟩
instance : Inf Tryd.prog 136 1 8 (.nilFunc) := ⟨by kernel_rfl⟩
instance : Zer Tryd.prog 136 #[.nilFunc] := ⟨_, rfl, fun w => run_zero (inferInstance : Inf Tryd.prog 136 _ _ _) w⟩
instance : Und Tryd.prog 137 (.interface #[("As", 139)]) := ⟨Tryd.underlying137⟩
instance : Inf Tryd.prog 137 1 16 (.nilIface) := ⟨by kernel_rfl⟩
instance : Zer Tryd.prog 137 #[.nilIface] := ⟨_, rfl, fun w => run_zero (inferInstance : Inf Tryd.prog 137 _ _ _) w⟩
instance : Inf Tryd.prog 138 1 0 (.tuple #[.nilIface, .bool false]) := ⟨by kernel_rfl⟩
instance : Zer Tryd.prog 138 #[.tuple #[.nilIface, .bool false]] := ⟨_, rfl, fun w => run_zero (inferInstance : Inf Tryd.prog 138 _ _ _) w⟩
instance : Inf Tryd.prog 139 1 8 (.nilFunc) := ⟨by kernel_rfl⟩
instance : Zer Tryd.prog 139 #[.nilFunc] := ⟨_, rfl, fun w => run_zero (inferInstance : Inf Tryd.prog 139 _ _ _) w⟩
instance : Und Tryd.prog 140 (.interface #[("Unwrap", 141)]) := ⟨Tryd.underlying140⟩
instance : Inf Tryd.prog 140 1 16 (.nilIface) := ⟨by kernel_rfl⟩
instance : Zer Tryd.prog 140 #[.nilIface] := ⟨_, rfl, fun w => run_zero (inferInstance : Inf Tryd.prog 140 _ _ _) w⟩
instance : Inf Tryd.prog 141 1 8 (.nilFunc) := ⟨by kernel_rfl⟩
instance : Zer Tryd.prog 141 #[.nilFunc] := ⟨_, rfl, fun w => run_zero (inferInstance : Inf Tryd.prog 141 _ _ _) w⟩
instance : Und Tryd.prog 142 (.interface #[("Unwrap", 144)]) := ⟨Tryd.underlying142⟩
instance : Inf Tryd.prog 142 1 16 (.nilIface) := ⟨by kernel_rfl⟩
instance : Zer Tryd.prog 142 #[.nilIface] := ⟨_, rfl, fun w => run_zero (inferInstance : Inf Tryd.prog 142 _ _ _) w⟩
instance : Und Tryd.prog 143 (.slice 27) := ⟨Tryd.underlying143⟩
instance : Inf Tryd.prog 143 1 24 (.slice none 0 0) := ⟨by kernel_rfl⟩
instance : Zer Tryd.prog 143 #[.slice none 0 0] := ⟨_, rfl, fun w => run_zero (inferInstance : Inf Tryd.prog 143 _ _ _) w⟩
instance : Inf Tryd.prog 144 1 8 (.nilFunc) := ⟨by kernel_rfl⟩
instance : Zer Tryd.prog 144 #[.nilFunc] := ⟨_, rfl, fun w => run_zero (inferInstance : Inf Tryd.prog 144 _ _ _) w⟩
instance : Inf Tryd.prog 145 1 8 (.nilFunc) := ⟨by kernel_rfl⟩
instance : Zer Tryd.prog 145 #[.nilFunc] := ⟨_, rfl, fun w => run_zero (inferInstance : Inf Tryd.prog 145 _ _ _) w⟩
instance : Inf Tryd.prog 146 1 8 (.nilFunc) := ⟨by kernel_rfl⟩
instance : Zer Tryd.prog 146 #[.nilFunc] := ⟨_, rfl, fun w => run_zero (inferInstance : Inf Tryd.prog 146 _ _ _) w⟩
instance : Inf Tryd.prog 147 1 8 (.nilFunc) := ⟨by kernel_rfl⟩
instance : Zer Tryd.prog 147 #[.nilFunc] := ⟨_, rfl, fun w => run_zero (inferInstance : Inf Tryd.prog 147 _ _ _) w⟩
instance : Und Tryd.prog 148 (.pointer 122) := ⟨Tryd.underlying148⟩
instance : Inf Tryd.prog 148 1 8 (.pointer none) := ⟨by kernel_rfl⟩
instance : Zer Tryd.prog 148 #[.pointer none] := ⟨_, rfl, fun w => run_zero (inferInstance : Inf Tryd.prog 148 _ _ _) w⟩
instance : Inf Tryd.prog 149 1 8 (.nilFunc) := ⟨by kernel_rfl⟩
instance : Zer Tryd.prog 149 #[.nilFunc] := ⟨_, rfl, fun w => run_zero (inferInstance : Inf Tryd.prog 149 _ _ _) w⟩
instance : Inf Tryd.prog 150 1 8 (.nilFunc) := ⟨by kernel_rfl⟩
instance : Zer Tryd.prog 150 #[.nilFunc] := ⟨_, rfl, fun w => run_zero (inferInstance : Inf Tryd.prog 150 _ _ _) w⟩
instance : Und Tryd.prog 151 (.array 4 64) := ⟨Tryd.underlying151⟩
instance : Inf Tryd.prog 151 16 128 (.agg #[.int .i64 0, .int .i64 0, .int .i64 0, .int .i64 0, .int .i64 0, .int .i64 0, .int .i64 0, .int .i64 0, .int .i64 0, .int .i64 0, .int .i64 0, .int .i64 0, .int .i64 0, .int .i64 0, .int .i64 0, .int .i64 0]) := ⟨by kernel_rfl⟩
instance : Zer Tryd.prog 151 #[.int .i64 0, .int .i64 0, .int .i64 0, .int .i64 0, .int .i64 0, .int .i64 0, .int .i64 0, .int .i64 0, .int .i64 0, .int .i64 0, .int .i64 0, .int .i64 0, .int .i64 0, .int .i64 0, .int .i64 0, .int .i64 0] := ⟨_, rfl, fun w => run_zero (inferInstance : Inf Tryd.prog 151 _ _ _) w⟩
instance : Inf Tryd.prog 152 1 8 (.nilFunc) := ⟨by kernel_rfl⟩
instance : Zer Tryd.prog 152 #[.nilFunc] := ⟨_, rfl, fun w => run_zero (inferInstance : Inf Tryd.prog 152 _ _ _) w⟩
instance : Inf Tryd.prog 153 1 8 (.nilFunc) := ⟨by kernel_rfl⟩
instance : Zer Tryd.prog 153 #[.nilFunc] := ⟨_, rfl, fun w => run_zero (inferInstance : Inf Tryd.prog 153 _ _ _) w⟩
instance : Inf Tryd.prog 154 1 8 (.nilFunc) := ⟨by kernel_rfl⟩
instance : Zer Tryd.prog 154 #[.nilFunc] := ⟨_, rfl, fun w => run_zero (inferInstance : Inf Tryd.prog 154 _ _ _) w⟩
instance : Und Tryd.prog 155 (.struct #[⟨ "_interface", 17, 0, false, "", "runtime", 0⟩, ⟨ "concrete", 17, 1, false, "", "runtime", 8⟩, ⟨ "asserted", 17, 2, false, "", "runtime", 16⟩, ⟨ "missingMethod", 9, 3, false, "", "runtime", 24⟩]) := ⟨Tryd.underlying155⟩
instance : Inf Tryd.prog 155 4 40 (.agg #[.pointer none, .pointer none, .pointer none, .string ⟨#[]⟩]) := ⟨by kernel_rfl⟩
instance : Zer Tryd.prog 155 #[.pointer none, .pointer none, .pointer none, .string ⟨#[]⟩] := ⟨_, rfl, fun w => run_zero (inferInstance : Inf Tryd.prog 155 _ _ _) w⟩
instance : Und Tryd.prog 156 (.struct #[⟨ "_interface", 17, 0, false, "", "runtime", 0⟩, ⟨ "concrete", 17, 1, false, "", "runtime", 8⟩, ⟨ "asserted", 17, 2, false, "", "runtime", 16⟩, ⟨ "missingMethod", 9, 3, false, "", "runtime", 24⟩]) := ⟨Tryd.underlying156⟩
instance : Inf Tryd.prog 156 4 40 (.agg #[.pointer none, .pointer none, .pointer none, .string ⟨#[]⟩]) := ⟨by kernel_rfl⟩
instance : Zer Tryd.prog 156 #[.pointer none, .pointer none, .pointer none, .string ⟨#[]⟩] := ⟨_, rfl, fun w => run_zero (inferInstance : Inf Tryd.prog 156 _ _ _) w⟩
instance : Und Tryd.prog 157 (.array 0 16) := ⟨Tryd.underlying157⟩
instance : Inf Tryd.prog 157 0 0 (.agg #[]) := ⟨by kernel_rfl⟩
instance : Zer Tryd.prog 157 #[] := ⟨_, rfl, fun w => run_zero (inferInstance : Inf Tryd.prog 157 _ _ _) w⟩
instance : Und Tryd.prog 158 (.struct #[⟨ "_", 157, 0, false, "", "runtime", 0⟩]) := ⟨Tryd.underlying158⟩
instance : Inf Tryd.prog 158 0 0 (.agg #[]) := ⟨by kernel_rfl⟩
instance : Zer Tryd.prog 158 #[] := ⟨_, rfl, fun w => run_zero (inferInstance : Inf Tryd.prog 158 _ _ _) w⟩
instance : Und Tryd.prog 159 (.struct #[⟨ "_", 157, 0, false, "", "runtime", 0⟩]) := ⟨Tryd.underlying159⟩
instance : Inf Tryd.prog 159 0 0 (.agg #[]) := ⟨by kernel_rfl⟩
instance : Zer Tryd.prog 159 #[] := ⟨_, rfl, fun w => run_zero (inferInstance : Inf Tryd.prog 159 _ _ _) w⟩
instance : Inf Tryd.prog 160 1 8 (.nilFunc) := ⟨by kernel_rfl⟩
instance : Zer Tryd.prog 160 #[.nilFunc] := ⟨_, rfl, fun w => run_zero (inferInstance : Inf Tryd.prog 160 _ _ _) w⟩
instance : Und Tryd.prog 161 (.int .u8) := ⟨Tryd.underlying161⟩
instance : Inf Tryd.prog 161 1 1 (.int .u8 0) := ⟨by kernel_rfl⟩
instance : Zer Tryd.prog 161 #[.int .u8 0] := ⟨_, rfl, fun w => run_zero (inferInstance : Inf Tryd.prog 161 _ _ _) w⟩
instance : Inf Tryd.prog 162 1 8 (.nilFunc) := ⟨by kernel_rfl⟩
instance : Zer Tryd.prog 162 #[.nilFunc] := ⟨_, rfl, fun w => run_zero (inferInstance : Inf Tryd.prog 162 _ _ _) w⟩
instance : Und Tryd.prog 163 (.pointer 5) := ⟨Tryd.underlying163⟩
instance : Inf Tryd.prog 163 1 8 (.pointer none) := ⟨by kernel_rfl⟩
instance : Zer Tryd.prog 163 #[.pointer none] := ⟨_, rfl, fun w => run_zero (inferInstance : Inf Tryd.prog 163 _ _ _) w⟩
instance : Und Tryd.prog 164 (.int .i32) := ⟨Tryd.underlying164⟩
instance : Inf Tryd.prog 164 1 4 (.int .i32 0) := ⟨by kernel_rfl⟩
instance : Zer Tryd.prog 164 #[.int .i32 0] := ⟨_, rfl, fun w => run_zero (inferInstance : Inf Tryd.prog 164 _ _ _) w⟩
instance : Und Tryd.prog 165 (.int .i32) := ⟨Tryd.underlying165⟩
instance : Inf Tryd.prog 165 1 4 (.int .i32 0) := ⟨by kernel_rfl⟩
instance : Zer Tryd.prog 165 #[.int .i32 0] := ⟨_, rfl, fun w => run_zero (inferInstance : Inf Tryd.prog 165 _ _ _) w⟩
instance : Und Tryd.prog 166 (.struct #[⟨ "Size_", 12, 0, false, "", "", 0⟩, ⟨ "PtrBytes", 12, 1, false, "", "", 8⟩, ⟨ "Hash", 120, 2, false, "", "", 16⟩, ⟨ "TFlag", 161, 3, false, "", "", 20⟩, ⟨ "Align_", 5, 4, false, "", "", 21⟩, ⟨ "FieldAlign_", 5, 5, false, "", "", 22⟩, ⟨ "Kind_", 110, 6, false, "", "", 23⟩, ⟨ "Equal", 162, 7, false, "", "", 24⟩, ⟨ "GCData", 163, 8, false, "", "", 32⟩, ⟨ "Str", 164, 9, false, "", "", 40⟩, ⟨ "PtrToThis", 165, 10, false, "", "", 44⟩]) := ⟨Tryd.underlying166⟩
instance : Inf Tryd.prog 166 11 48 (.agg #[.int .u64 0, .int .u64 0, .int .u32 0, .int .u8 0, .int .u8 0, .int .u8 0, .int .u8 0, .nilFunc, .pointer none, .int .i32 0, .int .i32 0]) := ⟨by kernel_rfl⟩
instance : Zer Tryd.prog 166 #[.int .u64 0, .int .u64 0, .int .u32 0, .int .u8 0, .int .u8 0, .int .u8 0, .int .u8 0, .nilFunc, .pointer none, .int .i32 0, .int .i32 0] := ⟨_, rfl, fun w => run_zero (inferInstance : Inf Tryd.prog 166 _ _ _) w⟩
instance : Und Tryd.prog 167 (.struct #[⟨ "Size_", 12, 0, false, "", "", 0⟩, ⟨ "PtrBytes", 12, 1, false, "", "", 8⟩, ⟨ "Hash", 120, 2, false, "", "", 16⟩, ⟨ "TFlag", 161, 3, false, "", "", 20⟩, ⟨ "Align_", 5, 4, false, "", "", 21⟩, ⟨ "FieldAlign_", 5, 5, false, "", "", 22⟩, ⟨ "Kind_", 110, 6, false, "", "", 23⟩, ⟨ "Equal", 162, 7, false, "", "", 24⟩, ⟨ "GCData", 163, 8, false, "", "", 32⟩, ⟨ "Str", 164, 9, false, "", "", 40⟩, ⟨ "PtrToThis", 165, 10, false, "", "", 44⟩]) := ⟨Tryd.underlying167⟩
instance : Inf Tryd.prog 167 11 48 (.agg #[.int .u64 0, .int .u64 0, .int .u32 0, .int .u8 0, .int .u8 0, .int .u8 0, .int .u8 0, .nilFunc, .pointer none, .int .i32 0, .int .i32 0]) := ⟨by kernel_rfl⟩
instance : Zer Tryd.prog 167 #[.int .u64 0, .int .u64 0, .int .u32 0, .int .u8 0, .int .u8 0, .int .u8 0, .int .u8 0, .nilFunc, .pointer none, .int .i32 0, .int .i32 0] := ⟨_, rfl, fun w => run_zero (inferInstance : Inf Tryd.prog 167 _ _ _) w⟩
instance : Inf Tryd.prog 168 1 8 (.nilFunc) := ⟨by kernel_rfl⟩
instance : Zer Tryd.prog 168 #[.nilFunc] := ⟨_, rfl, fun w => run_zero (inferInstance : Inf Tryd.prog 168 _ _ _) w⟩
instance : Inf Tryd.prog 169 1 8 (.nilFunc) := ⟨by kernel_rfl⟩
instance : Zer Tryd.prog 169 #[.nilFunc] := ⟨_, rfl, fun w => run_zero (inferInstance : Inf Tryd.prog 169 _ _ _) w⟩
instance : Und Tryd.prog 170 (.struct #[⟨ "Method", 9, 0, false, "", "", 0⟩, ⟨ "Kind", 110, 1, false, "", "", 16⟩]) := ⟨Tryd.underlying170⟩
instance : Inf Tryd.prog 170 2 24 (.agg #[.string ⟨#[]⟩, .int .u8 0]) := ⟨by kernel_rfl⟩
instance : Zer Tryd.prog 170 #[.string ⟨#[]⟩, .int .u8 0] := ⟨_, rfl, fun w => run_zero (inferInstance : Inf Tryd.prog 170 _ _ _) w⟩
instance : Und Tryd.prog 171 (.struct #[⟨ "Method", 9, 0, false, "", "", 0⟩, ⟨ "Kind", 110, 1, false, "", "", 16⟩]) := ⟨Tryd.underlying171⟩
instance : Inf Tryd.prog 171 2 24 (.agg #[.string ⟨#[]⟩, .int .u8 0]) := ⟨by kernel_rfl⟩
instance : Zer Tryd.prog 171 #[.string ⟨#[]⟩, .int .u8 0] := ⟨_, rfl, fun w => run_zero (inferInstance : Inf Tryd.prog 171 _ _ _) w⟩
instance : Und Tryd.prog 172 (.pointer 175) := ⟨Tryd.underlying172⟩
instance : Inf Tryd.prog 172 1 8 (.pointer none) := ⟨by kernel_rfl⟩
instance : Zer Tryd.prog 172 #[.pointer none] := ⟨_, rfl, fun w => run_zero (inferInstance : Inf Tryd.prog 172 _ _ _) w⟩
instance : Inf Tryd.prog 173 1 8 (.nilFunc) := ⟨by kernel_rfl⟩
instance : Zer Tryd.prog 173 #[.nilFunc] := ⟨_, rfl, fun w => run_zero (inferInstance : Inf Tryd.prog 173 _ _ _) w⟩
instance : Und Tryd.prog 174 (.struct #[⟨ "PkgPath", 164, 0, false, "", "", 0⟩, ⟨ "Mcount", 22, 1, false, "", "", 4⟩, ⟨ "Xcount", 22, 2, false, "", "", 6⟩, ⟨ "Moff", 120, 3, false, "", "", 8⟩, ⟨ "_", 120, 4, false, "", "internal/abi", 12⟩]) := ⟨Tryd.underlying174⟩
instance : Inf Tryd.prog 174 5 16 (.agg #[.int .i32 0, .int .u16 0, .int .u16 0, .int .u32 0, .int .u32 0]) := ⟨by kernel_rfl⟩
instance : Zer Tryd.prog 174 #[.int .i32 0, .int .u16 0, .int .u16 0, .int .u32 0, .int .u32 0] := ⟨_, rfl, fun w => run_zero (inferInstance : Inf Tryd.prog 174 _ _ _) w⟩
instance : Und Tryd.prog 175 (.struct #[⟨ "PkgPath", 164, 0, false, "", "", 0⟩, ⟨ "Mcount", 22, 1, false, "", "", 4⟩, ⟨ "Xcount", 22, 2, false, "", "", 6⟩, ⟨ "Moff", 120, 3, false, "", "", 8⟩, ⟨ "_", 120, 4, false, "", "internal/abi", 12⟩]) := ⟨Tryd.underlying175⟩
instance : Inf Tryd.prog 175 5 16 (.agg #[.int .i32 0, .int .u16 0, .int .u16 0, .int .u32 0, .int .u32 0]) := ⟨by kernel_rfl⟩
instance : Zer Tryd.prog 175 #[.int .i32 0, .int .u16 0, .int .u16 0, .int .u32 0, .int .u32 0] := ⟨_, rfl, fun w => run_zero (inferInstance : Inf Tryd.prog 175 _ _ _) w⟩
instance : Und Tryd.prog 176 (.slice 179) := ⟨Tryd.underlying176⟩
instance : Inf Tryd.prog 176 1 24 (.slice none 0 0) := ⟨by kernel_rfl⟩
instance : Zer Tryd.prog 176 #[.slice none 0 0] := ⟨_, rfl, fun w => run_zero (inferInstance : Inf Tryd.prog 176 _ _ _) w⟩
instance : Und Tryd.prog 177 (.int .i32) := ⟨Tryd.underlying177⟩
instance : Inf Tryd.prog 177 1 4 (.int .i32 0) := ⟨by kernel_rfl⟩
instance : Zer Tryd.prog 177 #[.int .i32 0] := ⟨_, rfl, fun w => run_zero (inferInstance : Inf Tryd.prog 177 _ _ _) w⟩
instance : Und Tryd.prog 178 (.struct #[⟨ "Name", 164, 0, false, "", "", 0⟩, ⟨ "Mtyp", 165, 1, false, "", "", 4⟩, ⟨ "Ifn", 177, 2, false, "", "", 8⟩, ⟨ "Tfn", 177, 3, false, "", "", 12⟩]) := ⟨Tryd.underlying178⟩
instance : Inf Tryd.prog 178 4 16 (.agg #[.int .i32 0, .int .i32 0, .int .i32 0, .int .i32 0]) := ⟨by kernel_rfl⟩
instance : Zer Tryd.prog 178 #[.int .i32 0, .int .i32 0, .int .i32 0, .int .i32 0] := ⟨_, rfl, fun w => run_zero (inferInstance : Inf Tryd.prog 178 _ _ _) w⟩
instance : Und Tryd.prog 179 (.struct #[⟨ "Name", 164, 0, false, "", "", 0⟩, ⟨ "Mtyp", 165, 1, false, "", "", 4⟩, ⟨ "Ifn", 177, 2, false, "", "", 8⟩, ⟨ "Tfn", 177, 3, false, "", "", 12⟩]) := ⟨Tryd.underlying179⟩
instance : Inf Tryd.prog 179 4 16 (.agg #[.int .i32 0, .int .i32 0, .int .i32 0, .int .i32 0]) := ⟨by kernel_rfl⟩
instance : Zer Tryd.prog 179 #[.int .i32 0, .int .i32 0, .int .i32 0, .int .i32 0] := ⟨_, rfl, fun w => run_zero (inferInstance : Inf Tryd.prog 179 _ _ _) w⟩
instance : Und Tryd.prog 180 (.pointer 27) := ⟨Tryd.underlying180⟩
instance : Inf Tryd.prog 180 1 8 (.pointer none) := ⟨by kernel_rfl⟩
instance : Zer Tryd.prog 180 #[.pointer none] := ⟨_, rfl, fun w => run_zero (inferInstance : Inf Tryd.prog 180 _ _ _) w⟩
instance : Bod Tryd.prog 2 := ⟨_, _, Tryd.func2, rfl, by kernel_rfl⟩
instance : Bod Tryd.prog 3 := ⟨_, _, Tryd.func3, rfl, by kernel_rfl⟩
instance : Bod Tryd.prog 4 := ⟨_, _, Tryd.func4, rfl, by kernel_rfl⟩
instance : Bod Tryd.prog 5 := ⟨_, _, Tryd.func5, rfl, by kernel_rfl⟩
instance : Bod Tryd.prog 6 := ⟨_, _, Tryd.func6, rfl, by kernel_rfl⟩
instance : Bod Tryd.prog 7 := ⟨_, _, Tryd.func7, rfl, by kernel_rfl⟩
instance : Bod Tryd.prog 8 := ⟨_, _, Tryd.func8, rfl, by kernel_rfl⟩
instance : Bod Tryd.prog 9 := ⟨_, _, Tryd.func9, rfl, by kernel_rfl⟩
instance : Bod Tryd.prog 10 := ⟨_, _, Tryd.func10, rfl, by kernel_rfl⟩
instance : Bod Tryd.prog 11 := ⟨_, _, Tryd.func11, rfl, by kernel_rfl⟩
instance : Bod Tryd.prog 12 := ⟨_, _, Tryd.func12, rfl, by kernel_rfl⟩
instance : Bod Tryd.prog 13 := ⟨_, _, Tryd.func13, rfl, by kernel_rfl⟩
instance : Bod Tryd.prog 14 := ⟨_, _, Tryd.func14, rfl, by kernel_rfl⟩
instance : Bod Tryd.prog 15 := ⟨_, _, Tryd.func15, rfl, by kernel_rfl⟩
instance : Bod Tryd.prog 16 := ⟨_, _, Tryd.func16, rfl, by kernel_rfl⟩
instance : Bod Tryd.prog 17 := ⟨_, _, Tryd.func17, rfl, by kernel_rfl⟩
instance : Bod Tryd.prog 18 := ⟨_, _, Tryd.func18, rfl, by kernel_rfl⟩
instance : Bod Tryd.prog 19 := ⟨_, _, Tryd.func19, rfl, by kernel_rfl⟩
instance : Bod Tryd.prog 20 := ⟨_, _, Tryd.func20, rfl, by kernel_rfl⟩
instance : Bod Tryd.prog 21 := ⟨_, _, Tryd.func21, rfl, by kernel_rfl⟩
instance : Bod Tryd.prog 22 := ⟨_, _, Tryd.func22, rfl, by kernel_rfl⟩
instance : Bod Tryd.prog 23 := ⟨_, _, Tryd.func23, rfl, by kernel_rfl⟩
instance : Bod Tryd.prog 24 := ⟨_, _, Tryd.func24, rfl, by kernel_rfl⟩
instance : Bod Tryd.prog 25 := ⟨_, _, Tryd.func25, rfl, by kernel_rfl⟩
instance : Bod Tryd.prog 26 := ⟨_, _, Tryd.func26, rfl, by kernel_rfl⟩
instance : Bod Tryd.prog 27 := ⟨_, _, Tryd.func27, rfl, by kernel_rfl⟩
instance : Bod Tryd.prog 28 := ⟨_, _, Tryd.func28, rfl, by kernel_rfl⟩
instance : Bod Tryd.prog 29 := ⟨_, _, Tryd.func29, rfl, by kernel_rfl⟩
instance : Bod Tryd.prog 30 := ⟨_, _, Tryd.func30, rfl, by kernel_rfl⟩
instance : Bod Tryd.prog 31 := ⟨_, _, Tryd.func31, rfl, by kernel_rfl⟩
instance : Bod Tryd.prog 32 := ⟨_, _, Tryd.func32, rfl, by kernel_rfl⟩
instance : Bod Tryd.prog 33 := ⟨_, _, Tryd.func33, rfl, by kernel_rfl⟩
instance : Bod Tryd.prog 34 := ⟨_, _, Tryd.func34, rfl, by kernel_rfl⟩
instance : Bod Tryd.prog 35 := ⟨_, _, Tryd.func35, rfl, by kernel_rfl⟩
instance : Bod Tryd.prog 36 := ⟨_, _, Tryd.func36, rfl, by kernel_rfl⟩
instance : Bod Tryd.prog 37 := ⟨_, _, Tryd.func37, rfl, by kernel_rfl⟩
instance : Bod Tryd.prog 38 := ⟨_, _, Tryd.func38, rfl, by kernel_rfl⟩
instance : Bod Tryd.prog 39 := ⟨_, _, Tryd.func39, rfl, by kernel_rfl⟩
instance : Bod Tryd.prog 40 := ⟨_, _, Tryd.func40, rfl, by kernel_rfl⟩
instance : Bod Tryd.prog 41 := ⟨_, _, Tryd.func41, rfl, by kernel_rfl⟩
instance : Bod Tryd.prog 42 := ⟨_, _, Tryd.func42, rfl, by kernel_rfl⟩
instance : Bod Tryd.prog 43 := ⟨_, _, Tryd.func43, rfl, by kernel_rfl⟩
instance : Bod Tryd.prog 44 := ⟨_, _, Tryd.func44, rfl, by kernel_rfl⟩
instance : Bod Tryd.prog 48 := ⟨_, _, Tryd.func48, rfl, by kernel_rfl⟩
instance : Bod Tryd.prog 49 := ⟨_, _, Tryd.func49, rfl, by kernel_rfl⟩
instance : Bod Tryd.prog 50 := ⟨_, _, Tryd.func50, rfl, by kernel_rfl⟩
instance : Bod Tryd.prog 51 := ⟨_, _, Tryd.func51, rfl, by kernel_rfl⟩
instance : Bod Tryd.prog 52 := ⟨_, _, Tryd.func52, rfl, by kernel_rfl⟩
instance : Bod Tryd.prog 53 := ⟨_, _, Tryd.func53, rfl, by kernel_rfl⟩
instance : Bod Tryd.prog 54 := ⟨_, _, Tryd.func54, rfl, by kernel_rfl⟩
instance : Bod Tryd.prog 55 := ⟨_, _, Tryd.func55, rfl, by kernel_rfl⟩
instance : Bod Tryd.prog 56 := ⟨_, _, Tryd.func56, rfl, by kernel_rfl⟩
instance : Bod Tryd.prog 57 := ⟨_, _, Tryd.func57, rfl, by kernel_rfl⟩
instance : Bod Tryd.prog 58 := ⟨_, _, Tryd.func58, rfl, by kernel_rfl⟩
instance : Bod Tryd.prog 59 := ⟨_, _, Tryd.func59, rfl, by kernel_rfl⟩
instance : Bod Tryd.prog 63 := ⟨_, _, Tryd.func63, rfl, by kernel_rfl⟩
instance : Bod Tryd.prog 64 := ⟨_, _, Tryd.func64, rfl, by kernel_rfl⟩
instance : Bod Tryd.prog 65 := ⟨_, _, Tryd.func65, rfl, by kernel_rfl⟩
instance : Bod Tryd.prog 66 := ⟨_, _, Tryd.func66, rfl, by kernel_rfl⟩
instance : Bod Tryd.prog 67 := ⟨_, _, Tryd.func67, rfl, by kernel_rfl⟩
instance : Bod Tryd.prog 68 := ⟨_, _, Tryd.func68, rfl, by kernel_rfl⟩
instance : Bod Tryd.prog 106 := ⟨_, _, Tryd.func106, rfl, by kernel_rfl⟩
instance  : Bld Tryd.prog 33 [] [.int .u16 0, .int .u16 0] := ⟨fun w => by kernel_rfl⟩
instance (a0 : Int) (a1 : Int) : Bld Tryd.prog 33 [(0, .int .u16 a0), (1, .int .u16 a1)] [.int .u16 a0, .int .u16 a1] := ⟨fun w => by kernel_rfl⟩
instance (a0 : Option Addr) (a1_0 a1_1 : Value) (a2 : Option Nat) : Bld Tryd.prog 59 [(0, .pointer a0), (1, .agg #[a1_0, a1_1]), (2, .map a2)] [.pointer a0, a1_0, a1_1, .map a2] := ⟨fun w => by kernel_rfl⟩
instance (a0 : Option Addr) : Bld Tryd.prog 62 [(0, .pointer a0)] [.pointer a0, .nilIface] := ⟨fun w => by kernel_rfl⟩
instance  : Bld Tryd.prog 64 [] [.int .i64 0, .int .i64 0, .int .i64 0, .int .i64 0] := ⟨fun w => by kernel_rfl⟩
instance (a0 : Int) (a1 : Int) (a2 : Int) (a3 : Int) : Bld Tryd.prog 64 [(0, .int .i64 a0), (1, .int .i64 a1), (2, .int .i64 a2), (3, .int .i64 a3)] [.int .i64 a0, .int .i64 a1, .int .i64 a2, .int .i64 a3] := ⟨fun w => by kernel_rfl⟩
instance (a0 : Int) (a3 : Option Nat) : Bld Tryd.prog 75 [(0, .int .i64 a0), (3, .map a3)] [.int .i64 a0, .slice none 0 0, .slice none 0 0, .map a3] := ⟨fun w => by kernel_rfl⟩
instance  : Bld Tryd.prog 80 [] [.int .i64 0, .int .u64 0, .int .i64 0, .int .i64 0, .int .i64 0, .int .i64 0] := ⟨fun w => by kernel_rfl⟩
instance (a0 : Int) (a1 : Int) : Bld Tryd.prog 80 [(0, .int .i64 a0), (1, .int .u64 a1)] [.int .i64 a0, .int .u64 a1, .int .i64 0, .int .i64 0, .int .i64 0, .int .i64 0] := ⟨fun w => by kernel_rfl⟩
instance (a0 : Int) (a2_0 a2_1 a2_2 a2_3 : Value) : Bld Tryd.prog 80 [(0, .int .i64 a0), (2, .agg #[a2_0, a2_1, a2_2, a2_3])] [.int .i64 a0, .int .u64 0, a2_0, a2_1, a2_2, a2_3] := ⟨fun w => by kernel_rfl⟩
instance (a0 : Int) : Bld Tryd.prog 85 [(0, .int .i64 a0)] [.int .i64 a0, .slice none 0 0] := ⟨fun w => by kernel_rfl⟩
instance (a0 : Int) (a1 : Option Addr) (a1l a1c : Nat) : Bld Tryd.prog 85 [(0, .int .i64 a0), (1, .slice a1 a1l a1c)] [.int .i64 a0, .slice a1 a1l a1c] := ⟨fun w => by kernel_rfl⟩
instance (a0 : Int) (a1 : Int) : Bld Tryd.prog 95 [(0, .int .i64 a0), (1, .int .i64 a1)] [.int .i64 a0, .int .i64 a1] := ⟨fun w => by kernel_rfl⟩
theorem mixed : Tryd.prog.follows .mixedOrders = true := by kernel_rfl
end Go.Proofs
