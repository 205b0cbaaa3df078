/-
  What the program says of its types and functions, as instances for the rules. Written by gen.py.
-/
import Derived.Test.YtphnadpmpcifoaaProg
import Derived.Test.YtphnadpmpcifoaaOps
import Derived.KernelRfl
namespace Go.Proofs
open Go.Sq
set_option maxRecDepth 100000
instance : Inf Try.prog 0 1 0 (.tuple #[]) := ⟨by kernel_rfl⟩
instance : Zer Try.prog 0 #[.tuple #[]] := ⟨_, rfl, fun w => run_zero (inferInstance : Inf Try.prog 0 _ _ _) w⟩
instance : Inf Try.prog 1 1 8 (.nilFunc) := ⟨by kernel_rfl⟩
instance : Zer Try.prog 1 #[.nilFunc] := ⟨_, rfl, fun w => run_zero (inferInstance : Inf Try.prog 1 _ _ _) w⟩
instance : Und Try.prog 2 (.int .i64) := ⟨Try.underlying2⟩
instance : Inf Try.prog 2 1 8 (.int .i64 0) := ⟨by kernel_rfl⟩
instance : Zer Try.prog 2 #[.int .i64 0] := ⟨_, rfl, fun w => run_zero (inferInstance : Inf Try.prog 2 _ _ _) w⟩
instance : Und Try.prog 3 (.int .i64) := ⟨Try.underlying3⟩
instance : Inf Try.prog 3 1 8 (.int .i64 0) := ⟨by kernel_rfl⟩
instance : Zer Try.prog 3 #[.int .i64 0] := ⟨_, rfl, fun w => run_zero (inferInstance : Inf Try.prog 3 _ _ _) w⟩
instance : Und Try.prog 4 (.bool) := ⟨Try.underlying4⟩
instance : Inf Try.prog 4 1 1 (.bool false) := ⟨by kernel_rfl⟩
instance : Zer Try.prog 4 #[.bool false] := ⟨_, rfl, fun w => run_zero (inferInstance : Inf Try.prog 4 _ _ _) w⟩
instance : Und Try.prog 5 (.int .u8) := ⟨Try.underlying5⟩
instance : Inf Try.prog 5 1 1 (.int .u8 0) := ⟨by kernel_rfl⟩
instance : Zer Try.prog 5 #[.int .u8 0] := ⟨_, rfl, fun w => run_zero (inferInstance : Inf Try.prog 5 _ _ _) w⟩
instance : Und Try.prog 6 (.int .u8) := ⟨Try.underlying6⟩
instance : Inf Try.prog 6 1 1 (.int .u8 0) := ⟨by kernel_rfl⟩
instance : Zer Try.prog 6 #[.int .u8 0] := ⟨_, rfl, fun w => run_zero (inferInstance : Inf Try.prog 6 _ _ _) w⟩
instance : Und Try.prog 7 (.struct #[⟨ "x", 2, 0, false, "", "runtime", 0⟩, ⟨ "y", 3, 1, false, "", "runtime", 8⟩, ⟨ "signed", 4, 2, false, "", "runtime", 16⟩, ⟨ "code", 6, 3, false, "", "runtime", 17⟩]) := ⟨Try.underlying7⟩
instance : Inf Try.prog 7 4 24 (.agg #[.int .i64 0, .int .i64 0, .bool false, .int .u8 0]) := ⟨by kernel_rfl⟩
instance : Zer Try.prog 7 #[.int .i64 0, .int .i64 0, .bool false, .int .u8 0] := ⟨_, rfl, fun w => run_zero (inferInstance : Inf Try.prog 7 _ _ _) w⟩
instance : Und Try.prog 8 (.struct #[⟨ "x", 2, 0, false, "", "runtime", 0⟩, ⟨ "y", 3, 1, false, "", "runtime", 8⟩, ⟨ "signed", 4, 2, false, "", "runtime", 16⟩, ⟨ "code", 6, 3, false, "", "runtime", 17⟩]) := ⟨Try.underlying8⟩
instance : Inf Try.prog 8 4 24 (.agg #[.int .i64 0, .int .i64 0, .bool false, .int .u8 0]) := ⟨by kernel_rfl⟩
instance : Zer Try.prog 8 #[.int .i64 0, .int .i64 0, .bool false, .int .u8 0] := ⟨_, rfl, fun w => run_zero (inferInstance : Inf Try.prog 8 _ _ _) w⟩
instance : Und Try.prog 9 (.string) := ⟨Try.underlying9⟩
instance : Inf Try.prog 9 1 16 (.string ⟨#[]⟩) := ⟨by kernel_rfl⟩
instance : Zer Try.prog 9 #[.string ⟨#[]⟩] := ⟨_, rfl, fun w => run_zero (inferInstance : Inf Try.prog 9 _ _ _) w⟩
instance : Und Try.prog 10 (.string) := ⟨Try.underlying10⟩
instance : Inf Try.prog 10 1 16 (.string ⟨#[]⟩) := ⟨by kernel_rfl⟩
instance : Zer Try.prog 10 #[.string ⟨#[]⟩] := ⟨_, rfl, fun w => run_zero (inferInstance : Inf Try.prog 10 _ _ _) w⟩
instance : Und Try.prog 11 (.string) := ⟨Try.underlying11⟩
instance : Inf Try.prog 11 1 16 (.string ⟨#[]⟩) := ⟨by kernel_rfl⟩
instance : Zer Try.prog 11 #[.string ⟨#[]⟩] := ⟨_, rfl, fun w => run_zero (inferInstance : Inf Try.prog 11 _ _ _) w⟩
instance : Und Try.prog 12 (.int .u64) := ⟨Try.underlying12⟩
instance : Inf Try.prog 12 1 8 (.int .u64 0) := ⟨by kernel_rfl⟩
instance : Zer Try.prog 12 #[.int .u64 0] := ⟨_, rfl, fun w => run_zero (inferInstance : Inf Try.prog 12 _ _ _) w⟩
instance : Und Try.prog 13 (.struct #[⟨ "msg", 9, 0, false, "", "runtime", 0⟩, ⟨ "addr", 12, 1, false, "", "runtime", 16⟩]) := ⟨Try.underlying13⟩
instance : Inf Try.prog 13 2 24 (.agg #[.string ⟨#[]⟩, .int .u64 0]) := ⟨by kernel_rfl⟩
instance : Zer Try.prog 13 #[.string ⟨#[]⟩, .int .u64 0] := ⟨_, rfl, fun w => run_zero (inferInstance : Inf Try.prog 13 _ _ _) w⟩
instance : Und Try.prog 14 (.struct #[⟨ "msg", 9, 0, false, "", "runtime", 0⟩, ⟨ "addr", 12, 1, false, "", "runtime", 16⟩]) := ⟨Try.underlying14⟩
instance : Inf Try.prog 14 2 24 (.agg #[.string ⟨#[]⟩, .int .u64 0]) := ⟨by kernel_rfl⟩
instance : Zer Try.prog 14 #[.string ⟨#[]⟩, .int .u64 0] := ⟨_, rfl, fun w => run_zero (inferInstance : Inf Try.prog 14 _ _ _) w⟩
instance : Und Try.prog 15 (.pointer 118) := ⟨Try.underlying15⟩
instance : Inf Try.prog 15 1 8 (.pointer none) := ⟨by kernel_rfl⟩
instance : Zer Try.prog 15 #[.pointer none] := ⟨_, rfl, fun w => run_zero (inferInstance : Inf Try.prog 15 _ _ _) w⟩
instance : Und Try.prog 16 (.pointer 121) := ⟨Try.underlying16⟩
instance : Inf Try.prog 16 1 8 (.pointer none) := ⟨by kernel_rfl⟩
instance : Zer Try.prog 16 #[.pointer none] := ⟨_, rfl, fun w => run_zero (inferInstance : Inf Try.prog 16 _ _ _) w⟩
instance : Und Try.prog 17 (.pointer 129) := ⟨Try.underlying17⟩
instance : Inf Try.prog 17 1 8 (.pointer none) := ⟨by kernel_rfl⟩
instance : Zer Try.prog 17 #[.pointer none] := ⟨_, rfl, fun w => run_zero (inferInstance : Inf Try.prog 17 _ _ _) w⟩
instance : Und Try.prog 18 (.struct #[⟨ "typ", 17, 0, false, "", "internal/runtime/maps", 0⟩]) := ⟨Try.underlying18⟩
instance : Inf Try.prog 18 1 8 (.agg #[.pointer none]) := ⟨by kernel_rfl⟩
instance : Zer Try.prog 18 #[.pointer none] := ⟨_, rfl, fun w => run_zero (inferInstance : Inf Try.prog 18 _ _ _) w⟩
instance : Und Try.prog 19 (.struct #[⟨ "typ", 17, 0, false, "", "internal/runtime/maps", 0⟩]) := ⟨Try.underlying19⟩
instance : Inf Try.prog 19 1 8 (.agg #[.pointer none]) := ⟨by kernel_rfl⟩
instance : Zer Try.prog 19 #[.pointer none] := ⟨_, rfl, fun w => run_zero (inferInstance : Inf Try.prog 19 _ _ _) w⟩
instance : Und Try.prog 20 (.interface #[]) := ⟨Try.underlying20⟩
instance : Inf Try.prog 20 1 16 (.nilIface) := ⟨by kernel_rfl⟩
instance : Zer Try.prog 20 #[.nilIface] := ⟨_, rfl, fun w => run_zero (inferInstance : Inf Try.prog 20 _ _ _) w⟩
instance : Und Try.prog 21 (.int .i32) := ⟨Try.underlying21⟩
instance : Inf Try.prog 21 1 4 (.int .i32 0) := ⟨by kernel_rfl⟩
instance : Zer Try.prog 21 #[.int .i32 0] := ⟨_, rfl, fun w => run_zero (inferInstance : Inf Try.prog 21 _ _ _) w⟩
instance : Und Try.prog 22 (.int .u16) := ⟨Try.underlying22⟩
instance : Inf Try.prog 22 1 2 (.int .u16 0) := ⟨by kernel_rfl⟩
instance : Zer Try.prog 22 #[.int .u16 0] := ⟨_, rfl, fun w => run_zero (inferInstance : Inf Try.prog 22 _ _ _) w⟩
instance : Und Try.prog 23 (.struct #[⟨ "Born", 22, 0, false, "", "", 0⟩, ⟨ "Live", 22, 1, false, "", "", 2⟩]) := ⟨Try.underlying23⟩
instance : Inf Try.prog 23 2 4 (.agg #[.int .u16 0, .int .u16 0]) := ⟨by kernel_rfl⟩
instance : Zer Try.prog 23 #[.int .u16 0, .int .u16 0] := ⟨_, rfl, fun w => run_zero (inferInstance : Inf Try.prog 23 _ _ _) w⟩
instance : Und Try.prog 24 (.struct #[⟨ "Born", 22, 0, false, "", "", 0⟩, ⟨ "Live", 22, 1, false, "", "", 2⟩]) := ⟨Try.underlying24⟩
instance : Inf Try.prog 24 2 4 (.agg #[.int .u16 0, .int .u16 0]) := ⟨by kernel_rfl⟩
instance : Zer Try.prog 24 #[.int .u16 0, .int .u16 0] := ⟨_, rfl, fun w => run_zero (inferInstance : Inf Try.prog 24 _ _ _) w⟩
instance : Und Try.prog 25 (.slice 52) := ⟨Try.underlying25⟩
instance : Inf Try.prog 25 1 24 (.slice none 0 0) := ⟨by kernel_rfl⟩
instance : Zer Try.prog 25 #[.slice none 0 0] := ⟨_, rfl, fun w => run_zero (inferInstance : Inf Try.prog 25 _ _ _) w⟩
instance : Inf Try.prog 26 1 8 (.nilFunc) := ⟨by kernel_rfl⟩
instance : Zer Try.prog 26 #[.nilFunc] := ⟨_, rfl, fun w => run_zero (inferInstance : Inf Try.prog 26 _ _ _) w⟩
instance : Inf Try.prog 27 1 8 (.nilFunc) := ⟨by kernel_rfl⟩
instance : Zer Try.prog 27 #[.nilFunc] := ⟨_, rfl, fun w => run_zero (inferInstance : Inf Try.prog 27 _ _ _) w⟩
instance : Und Try.prog 28 (.int .u64) := ⟨Try.underlying28⟩
instance : Inf Try.prog 28 1 8 (.int .u64 0) := ⟨by kernel_rfl⟩
instance : Zer Try.prog 28 #[.int .u64 0] := ⟨_, rfl, fun w => run_zero (inferInstance : Inf Try.prog 28 _ _ _) w⟩
instance : Und Try.prog 29 (.pointer 59) := ⟨Try.underlying29⟩
instance : Inf Try.prog 29 1 8 (.pointer none) := ⟨by kernel_rfl⟩
instance : Zer Try.prog 29 #[.pointer none] := ⟨_, rfl, fun w => run_zero (inferInstance : Inf Try.prog 29 _ _ _) w⟩
instance : Und Try.prog 30 (.interface #[("Error", 116)]) := ⟨Try.underlying30⟩
instance : Inf Try.prog 30 1 16 (.nilIface) := ⟨by kernel_rfl⟩
instance : Zer Try.prog 30 #[.nilIface] := ⟨_, rfl, fun w => run_zero (inferInstance : Inf Try.prog 30 _ _ _) w⟩
instance : Und Try.prog 31 (.interface #[("Error", 116)]) := ⟨Try.underlying31⟩
instance : Inf Try.prog 31 1 16 (.nilIface) := ⟨by kernel_rfl⟩
instance : Zer Try.prog 31 #[.nilIface] := ⟨_, rfl, fun w => run_zero (inferInstance : Inf Try.prog 31 _ _ _) w⟩
instance : Inf Try.prog 32 1 0 (.tuple #[.pointer none, .nilIface]) := ⟨by kernel_rfl⟩
instance : Zer Try.prog 32 #[.tuple #[.pointer none, .nilIface]] := ⟨_, rfl, fun w => run_zero (inferInstance : Inf Try.prog 32 _ _ _) w⟩
instance : Inf Try.prog 33 1 8 (.nilFunc) := ⟨by kernel_rfl⟩
instance : Zer Try.prog 33 #[.nilFunc] := ⟨_, rfl, fun w => run_zero (inferInstance : Inf Try.prog 33 _ _ _) w⟩
instance : Und Try.prog 34 (.pointer 63) := ⟨Try.underlying34⟩
instance : Inf Try.prog 34 1 8 (.pointer none) := ⟨by kernel_rfl⟩
instance : Zer Try.prog 34 #[.pointer none] := ⟨_, rfl, fun w => run_zero (inferInstance : Inf Try.prog 34 _ _ _) w⟩
instance : Inf Try.prog 35 1 0 (.tuple #[.pointer none, .nilIface]) := ⟨by kernel_rfl⟩
instance : Zer Try.prog 35 #[.tuple #[.pointer none, .nilIface]] := ⟨_, rfl, fun w => run_zero (inferInstance : Inf Try.prog 35 _ _ _) w⟩
instance : Inf Try.prog 36 1 8 (.nilFunc) := ⟨by kernel_rfl⟩
instance : Zer Try.prog 36 #[.nilFunc] := ⟨_, rfl, fun w => run_zero (inferInstance : Inf Try.prog 36 _ _ _) w⟩
instance : Und Try.prog 37 (.struct #[⟨ "Born", 22, 0, false, "", "", 0⟩, ⟨ "Live", 22, 1, false, "", "", 2⟩]) := ⟨Try.underlying37⟩
instance : Inf Try.prog 37 2 4 (.agg #[.int .u16 0, .int .u16 0]) := ⟨by kernel_rfl⟩
instance : Zer Try.prog 37 #[.int .u16 0, .int .u16 0] := ⟨_, rfl, fun w => run_zero (inferInstance : Inf Try.prog 37 _ _ _) w⟩
instance : Inf Try.prog 38 1 8 (.nilFunc) := ⟨by kernel_rfl⟩
instance : Zer Try.prog 38 #[.nilFunc] := ⟨_, rfl, fun w => run_zero (inferInstance : Inf Try.prog 38 _ _ _) w⟩
instance : Und Try.prog 39 (.slice 4) := ⟨Try.underlying39⟩
instance : Inf Try.prog 39 1 24 (.slice none 0 0) := ⟨by kernel_rfl⟩
instance : Zer Try.prog 39 #[.slice none 0 0] := ⟨_, rfl, fun w => run_zero (inferInstance : Inf Try.prog 39 _ _ _) w⟩
instance : Inf Try.prog 40 1 8 (.nilFunc) := ⟨by kernel_rfl⟩
instance : Zer Try.prog 40 #[.nilFunc] := ⟨_, rfl, fun w => run_zero (inferInstance : Inf Try.prog 40 _ _ _) w⟩
instance : Inf Try.prog 41 1 0 (.tuple #[.int .i64 0, .nilIface]) := ⟨by kernel_rfl⟩
instance : Zer Try.prog 41 #[.tuple #[.int .i64 0, .nilIface]] := ⟨_, rfl, fun w => run_zero (inferInstance : Inf Try.prog 41 _ _ _) w⟩
instance : Inf Try.prog 42 1 8 (.nilFunc) := ⟨by kernel_rfl⟩
instance : Zer Try.prog 42 #[.nilFunc] := ⟨_, rfl, fun w => run_zero (inferInstance : Inf Try.prog 42 _ _ _) w⟩
instance : Inf Try.prog 43 1 8 (.nilFunc) := ⟨by kernel_rfl⟩
instance : Zer Try.prog 43 #[.nilFunc] := ⟨_, rfl, fun w => run_zero (inferInstance : Inf Try.prog 43 _ _ _) w⟩
instance : Inf Try.prog 44 1 8 (.nilFunc) := ⟨by kernel_rfl⟩
instance : Zer Try.prog 44 #[.nilFunc] := ⟨_, rfl, fun w => run_zero (inferInstance : Inf Try.prog 44 _ _ _) w⟩
instance : Und Try.prog 45 (.array 2 3) := ⟨Try.underlying45⟩
instance : Inf Try.prog 45 2 16 (.agg #[.int .i64 0, .int .i64 0]) := ⟨by kernel_rfl⟩
instance : Zer Try.prog 45 #[.int .i64 0, .int .i64 0] := ⟨_, rfl, fun w => run_zero (inferInstance : Inf Try.prog 45 _ _ _) w⟩
instance : Inf Try.prog 46 1 8 (.nilFunc) := ⟨by kernel_rfl⟩
instance : Zer Try.prog 46 #[.nilFunc] := ⟨_, rfl, fun w => run_zero (inferInstance : Inf Try.prog 46 _ _ _) w⟩
instance : Inf Try.prog 47 1 8 (.nilFunc) := ⟨by kernel_rfl⟩
instance : Zer Try.prog 47 #[.nilFunc] := ⟨_, rfl, fun w => run_zero (inferInstance : Inf Try.prog 47 _ _ _) w⟩
instance : Und Try.prog 48 (.array 5 45) := ⟨Try.underlying48⟩
instance : Inf Try.prog 48 10 80 (.agg #[.int .i64 0, .int .i64 0, .int .i64 0, .int .i64 0, .int .i64 0, .int .i64 0, .int .i64 0, .int .i64 0, .int .i64 0, .int .i64 0]) := ⟨by kernel_rfl⟩
instance : Zer Try.prog 48 #[.int .i64 0, .int .i64 0, .int .i64 0, .int .i64 0, .int .i64 0, .int .i64 0, .int .i64 0, .int .i64 0, .int .i64 0, .int .i64 0] := ⟨_, rfl, fun w => run_zero (inferInstance : Inf Try.prog 48 _ _ _) w⟩
instance : Inf Try.prog 49 1 0 (.tuple #[.bool false, .nilIface]) := ⟨by kernel_rfl⟩
instance : Zer Try.prog 49 #[.tuple #[.bool false, .nilIface]] := ⟨_, rfl, fun w => run_zero (inferInstance : Inf Try.prog 49 _ _ _) w⟩
instance : Inf Try.prog 50 1 8 (.nilFunc) := ⟨by kernel_rfl⟩
instance : Zer Try.prog 50 #[.nilFunc] := ⟨_, rfl, fun w => run_zero (inferInstance : Inf Try.prog 50 _ _ _) w⟩
instance : Inf Try.prog 51 1 8 (.nilFunc) := ⟨by kernel_rfl⟩
instance : Zer Try.prog 51 #[.nilFunc] := ⟨_, rfl, fun w => run_zero (inferInstance : Inf Try.prog 51 _ _ _) w⟩
instance : Und Try.prog 52 (.int .u64) := ⟨Try.underlying52⟩
instance : Inf Try.prog 52 1 8 (.int .u64 0) := ⟨by kernel_rfl⟩
instance : Zer Try.prog 52 #[.int .u64 0] := ⟨_, rfl, fun w => run_zero (inferInstance : Inf Try.prog 52 _ _ _) w⟩
instance : Inf Try.prog 53 1 8 (.nilFunc) := ⟨by kernel_rfl⟩
instance : Zer Try.prog 53 #[.nilFunc] := ⟨_, rfl, fun w => run_zero (inferInstance : Inf Try.prog 53 _ _ _) w⟩
instance : Und Try.prog 54 (.int .i64) := ⟨Try.underlying54⟩
instance : Inf Try.prog 54 1 8 (.int .i64 0) := ⟨by kernel_rfl⟩
instance : Zer Try.prog 54 #[.int .i64 0] := ⟨_, rfl, fun w => run_zero (inferInstance : Inf Try.prog 54 _ _ _) w⟩
instance : Und Try.prog 55 (.map 75 3) := ⟨Try.underlying55⟩
instance : Inf Try.prog 55 1 8 (.map none) := ⟨by kernel_rfl⟩
instance : Zer Try.prog 55 #[.map none] := ⟨_, rfl, fun w => run_zero (inferInstance : Inf Try.prog 55 _ _ _) w⟩
instance : Und Try.prog 56 (.slice 75) := ⟨Try.underlying56⟩
instance : Inf Try.prog 56 1 24 (.slice none 0 0) := ⟨by kernel_rfl⟩
instance : Zer Try.prog 56 #[.slice none 0 0] := ⟨_, rfl, fun w => run_zero (inferInstance : Inf Try.prog 56 _ _ _) w⟩
instance : Und Try.prog 57 (.slice 3) := ⟨Try.underlying57⟩
instance : Inf Try.prog 57 1 24 (.slice none 0 0) := ⟨by kernel_rfl⟩
instance : Zer Try.prog 57 #[.slice none 0 0] := ⟨_, rfl, fun w => run_zero (inferInstance : Inf Try.prog 57 _ _ _) w⟩
instance : Und Try.prog 58 (.struct #[⟨ "room", 3, 0, false, "", "quilt/quad", 0⟩, ⟨ "l", 56, 1, false, "", "quilt/quad", 8⟩, ⟨ "many", 57, 2, false, "", "quilt/quad", 32⟩, ⟨ "known", 55, 3, false, "", "quilt/quad", 56⟩]) := ⟨Try.underlying58⟩
instance : Inf Try.prog 58 4 64 (.agg #[.int .i64 0, .slice none 0 0, .slice none 0 0, .map none]) := ⟨by kernel_rfl⟩
instance : Zer Try.prog 58 #[.int .i64 0, .slice none 0 0, .slice none 0 0, .map none] := ⟨_, rfl, fun w => run_zero (inferInstance : Inf Try.prog 58 _ _ _) w⟩
instance : Und Try.prog 59 (.struct #[⟨ "room", 3, 0, false, "", "quilt/quad", 0⟩, ⟨ "l", 56, 1, false, "", "quilt/quad", 8⟩, ⟨ "many", 57, 2, false, "", "quilt/quad", 32⟩, ⟨ "known", 55, 3, false, "", "quilt/quad", 56⟩]) := ⟨Try.underlying59⟩
instance : Inf Try.prog 59 4 64 (.agg #[.int .i64 0, .slice none 0 0, .slice none 0 0, .map none]) := ⟨by kernel_rfl⟩
instance : Zer Try.prog 59 #[.int .i64 0, .slice none 0 0, .slice none 0 0, .map none] := ⟨_, rfl, fun w => run_zero (inferInstance : Inf Try.prog 59 _ _ _) w⟩
instance : Inf Try.prog 60 1 8 (.nilFunc) := ⟨by kernel_rfl⟩
instance : Zer Try.prog 60 #[.nilFunc] := ⟨_, rfl, fun w => run_zero (inferInstance : Inf Try.prog 60 _ _ _) w⟩
instance : Und Try.prog 61 (.map 92 3) := ⟨Try.underlying61⟩
instance : Inf Try.prog 61 1 8 (.map none) := ⟨by kernel_rfl⟩
instance : Zer Try.prog 61 #[.map none] := ⟨_, rfl, fun w => run_zero (inferInstance : Inf Try.prog 61 _ _ _) w⟩
instance : Und Try.prog 62 (.struct #[⟨ "s", 29, 0, false, "", "quilt/grow", 0⟩, ⟨ "r", 37, 1, false, "", "quilt/grow", 8⟩, ⟨ "known", 61, 3, false, "", "quilt/grow", 16⟩]) := ⟨Try.underlying62⟩
instance : Inf Try.prog 62 4 24 (.agg #[.pointer none, .int .u16 0, .int .u16 0, .map none]) := ⟨by kernel_rfl⟩
instance : Zer Try.prog 62 #[.pointer none, .int .u16 0, .int .u16 0, .map none] := ⟨_, rfl, fun w => run_zero (inferInstance : Inf Try.prog 62 _ _ _) w⟩
instance : Und Try.prog 63 (.struct #[⟨ "s", 29, 0, false, "", "quilt/grow", 0⟩, ⟨ "r", 37, 1, false, "", "quilt/grow", 8⟩, ⟨ "known", 61, 3, false, "", "quilt/grow", 16⟩]) := ⟨Try.underlying63⟩
instance : Inf Try.prog 63 4 24 (.agg #[.pointer none, .int .u16 0, .int .u16 0, .map none]) := ⟨by kernel_rfl⟩
instance : Zer Try.prog 63 #[.pointer none, .int .u16 0, .int .u16 0, .map none] := ⟨_, rfl, fun w => run_zero (inferInstance : Inf Try.prog 63 _ _ _) w⟩
instance : Und Try.prog 64 (.pointer 66) := ⟨Try.underlying64⟩
instance : Inf Try.prog 64 1 8 (.pointer none) := ⟨by kernel_rfl⟩
instance : Zer Try.prog 64 #[.pointer none] := ⟨_, rfl, fun w => run_zero (inferInstance : Inf Try.prog 64 _ _ _) w⟩
instance : Und Try.prog 65 (.struct #[⟨ "Store", 29, 0, true, "", "", 0⟩, ⟨ "err", 31, 1, false, "", "quilt/grow", 8⟩]) := ⟨Try.underlying65⟩
instance : Inf Try.prog 65 2 24 (.agg #[.pointer none, .nilIface]) := ⟨by kernel_rfl⟩
instance : Zer Try.prog 65 #[.pointer none, .nilIface] := ⟨_, rfl, fun w => run_zero (inferInstance : Inf Try.prog 65 _ _ _) w⟩
instance : Und Try.prog 66 (.struct #[⟨ "Store", 29, 0, true, "", "", 0⟩, ⟨ "err", 31, 1, false, "", "quilt/grow", 8⟩]) := ⟨Try.underlying66⟩
instance : Inf Try.prog 66 2 24 (.agg #[.pointer none, .nilIface]) := ⟨by kernel_rfl⟩
instance : Zer Try.prog 66 #[.pointer none, .nilIface] := ⟨_, rfl, fun w => run_zero (inferInstance : Inf Try.prog 66 _ _ _) w⟩
instance : Und Try.prog 67 (.int .u64) := ⟨Try.underlying67⟩
instance : Inf Try.prog 67 1 8 (.int .u64 0) := ⟨by kernel_rfl⟩
instance : Zer Try.prog 67 #[.int .u64 0] := ⟨_, rfl, fun w => run_zero (inferInstance : Inf Try.prog 67 _ _ _) w⟩
instance : Inf Try.prog 68 1 8 (.nilFunc) := ⟨by kernel_rfl⟩
instance : Zer Try.prog 68 #[.nilFunc] := ⟨_, rfl, fun w => run_zero (inferInstance : Inf Try.prog 68 _ _ _) w⟩
instance : Inf Try.prog 69 1 8 (.nilFunc) := ⟨by kernel_rfl⟩
instance : Zer Try.prog 69 #[.nilFunc] := ⟨_, rfl, fun w => run_zero (inferInstance : Inf Try.prog 69 _ _ _) w⟩
instance : Und Try.prog 70 (.array 4 3) := ⟨Try.underlying70⟩
instance : Inf Try.prog 70 4 32 (.agg #[.int .i64 0, .int .i64 0, .int .i64 0, .int .i64 0]) := ⟨by kernel_rfl⟩
instance : Zer Try.prog 70 #[.int .i64 0, .int .i64 0, .int .i64 0, .int .i64 0] := ⟨_, rfl, fun w => run_zero (inferInstance : Inf Try.prog 70 _ _ _) w⟩
instance : Inf Try.prog 71 1 8 (.nilFunc) := ⟨by kernel_rfl⟩
instance : Zer Try.prog 71 #[.nilFunc] := ⟨_, rfl, fun w => run_zero (inferInstance : Inf Try.prog 71 _ _ _) w⟩
instance : Inf Try.prog 72 1 8 (.nilFunc) := ⟨by kernel_rfl⟩
instance : Zer Try.prog 72 #[.nilFunc] := ⟨_, rfl, fun w => run_zero (inferInstance : Inf Try.prog 72 _ _ _) w⟩
instance : Inf Try.prog 73 1 8 (.nilFunc) := ⟨by kernel_rfl⟩
instance : Zer Try.prog 73 #[.nilFunc] := ⟨_, rfl, fun w => run_zero (inferInstance : Inf Try.prog 73 _ _ _) w⟩
instance : Und Try.prog 74 (.struct #[⟨ "level", 3, 0, false, "", "quilt/quad", 0⟩, ⟨ "tile", 67, 1, false, "", "quilt/quad", 8⟩, ⟨ "kids", 70, 2, false, "", "quilt/quad", 16⟩]) := ⟨Try.underlying74⟩
instance : Inf Try.prog 74 6 48 (.agg #[.int .i64 0, .int .u64 0, .int .i64 0, .int .i64 0, .int .i64 0, .int .i64 0]) := ⟨by kernel_rfl⟩
instance : Zer Try.prog 74 #[.int .i64 0, .int .u64 0, .int .i64 0, .int .i64 0, .int .i64 0, .int .i64 0] := ⟨_, rfl, fun w => run_zero (inferInstance : Inf Try.prog 74 _ _ _) w⟩
instance : Und Try.prog 75 (.struct #[⟨ "level", 3, 0, false, "", "quilt/quad", 0⟩, ⟨ "tile", 67, 1, false, "", "quilt/quad", 8⟩, ⟨ "kids", 70, 2, false, "", "quilt/quad", 16⟩]) := ⟨Try.underlying75⟩
instance : Inf Try.prog 75 6 48 (.agg #[.int .i64 0, .int .u64 0, .int .i64 0, .int .i64 0, .int .i64 0, .int .i64 0]) := ⟨by kernel_rfl⟩
instance : Zer Try.prog 75 #[.int .i64 0, .int .u64 0, .int .i64 0, .int .i64 0, .int .i64 0, .int .i64 0] := ⟨_, rfl, fun w => run_zero (inferInstance : Inf Try.prog 75 _ _ _) w⟩
instance : Inf Try.prog 76 1 0 (.tuple #[.agg #[.int .i64 0, .int .u64 0, .int .i64 0, .int .i64 0, .int .i64 0, .int .i64 0], .nilIface]) := ⟨by kernel_rfl⟩
instance : Zer Try.prog 76 #[.tuple #[.agg #[.int .i64 0, .int .u64 0, .int .i64 0, .int .i64 0, .int .i64 0, .int .i64 0], .nilIface]] := ⟨_, rfl, fun w => run_zero (inferInstance : Inf Try.prog 76 _ _ _) w⟩
instance : Inf Try.prog 77 1 8 (.nilFunc) := ⟨by kernel_rfl⟩
instance : Zer Try.prog 77 #[.nilFunc] := ⟨_, rfl, fun w => run_zero (inferInstance : Inf Try.prog 77 _ _ _) w⟩
instance : Inf Try.prog 78 1 8 (.nilFunc) := ⟨by kernel_rfl⟩
instance : Zer Try.prog 78 #[.nilFunc] := ⟨_, rfl, fun w => run_zero (inferInstance : Inf Try.prog 78 _ _ _) w⟩
instance : Inf Try.prog 79 1 8 (.nilFunc) := ⟨by kernel_rfl⟩
instance : Zer Try.prog 79 #[.nilFunc] := ⟨_, rfl, fun w => run_zero (inferInstance : Inf Try.prog 79 _ _ _) w⟩
instance : Inf Try.prog 80 1 8 (.nilFunc) := ⟨by kernel_rfl⟩
instance : Zer Try.prog 80 #[.nilFunc] := ⟨_, rfl, fun w => run_zero (inferInstance : Inf Try.prog 80 _ _ _) w⟩
instance : Inf Try.prog 81 1 8 (.nilFunc) := ⟨by kernel_rfl⟩
instance : Zer Try.prog 81 #[.nilFunc] := ⟨_, rfl, fun w => run_zero (inferInstance : Inf Try.prog 81 _ _ _) w⟩
instance : Inf Try.prog 82 1 0 (.tuple #[.int .u64 0, .nilIface]) := ⟨by kernel_rfl⟩
instance : Zer Try.prog 82 #[.tuple #[.int .u64 0, .nilIface]] := ⟨_, rfl, fun w => run_zero (inferInstance : Inf Try.prog 82 _ _ _) w⟩
instance : Inf Try.prog 83 1 8 (.nilFunc) := ⟨by kernel_rfl⟩
instance : Zer Try.prog 83 #[.nilFunc] := ⟨_, rfl, fun w => run_zero (inferInstance : Inf Try.prog 83 _ _ _) w⟩
instance : Inf Try.prog 84 1 8 (.nilFunc) := ⟨by kernel_rfl⟩
instance : Zer Try.prog 84 #[.nilFunc] := ⟨_, rfl, fun w => run_zero (inferInstance : Inf Try.prog 84 _ _ _) w⟩
instance : Inf Try.prog 85 1 8 (.nilFunc) := ⟨by kernel_rfl⟩
instance : Zer Try.prog 85 #[.nilFunc] := ⟨_, rfl, fun w => run_zero (inferInstance : Inf Try.prog 85 _ _ _) w⟩
instance : Und Try.prog 86 (.array 4 67) := ⟨Try.underlying86⟩
instance : Inf Try.prog 86 4 32 (.agg #[.int .u64 0, .int .u64 0, .int .u64 0, .int .u64 0]) := ⟨by kernel_rfl⟩
instance : Zer Try.prog 86 #[.int .u64 0, .int .u64 0, .int .u64 0, .int .u64 0] := ⟨_, rfl, fun w => run_zero (inferInstance : Inf Try.prog 86 _ _ _) w⟩
instance : Inf Try.prog 87 1 0 (.tuple #[.agg #[.int .i64 0, .int .i64 0, .int .i64 0, .int .i64 0], .nilIface]) := ⟨by kernel_rfl⟩
instance : Zer Try.prog 87 #[.tuple #[.agg #[.int .i64 0, .int .i64 0, .int .i64 0, .int .i64 0], .nilIface]] := ⟨_, rfl, fun w => run_zero (inferInstance : Inf Try.prog 87 _ _ _) w⟩
instance : Inf Try.prog 88 1 8 (.nilFunc) := ⟨by kernel_rfl⟩
instance : Zer Try.prog 88 #[.nilFunc] := ⟨_, rfl, fun w => run_zero (inferInstance : Inf Try.prog 88 _ _ _) w⟩
instance : Inf Try.prog 89 1 8 (.nilFunc) := ⟨by kernel_rfl⟩
instance : Zer Try.prog 89 #[.nilFunc] := ⟨_, rfl, fun w => run_zero (inferInstance : Inf Try.prog 89 _ _ _) w⟩
instance : Inf Try.prog 90 1 8 (.nilFunc) := ⟨by kernel_rfl⟩
instance : Zer Try.prog 90 #[.nilFunc] := ⟨_, rfl, fun w => run_zero (inferInstance : Inf Try.prog 90 _ _ _) w⟩
instance : Und Try.prog 91 (.struct #[⟨ "id", 3, 0, false, "", "quilt/grow", 0⟩, ⟨ "j", 3, 1, false, "", "quilt/grow", 8⟩]) := ⟨Try.underlying91⟩
instance : Inf Try.prog 91 2 16 (.agg #[.int .i64 0, .int .i64 0]) := ⟨by kernel_rfl⟩
instance : Zer Try.prog 91 #[.int .i64 0, .int .i64 0] := ⟨_, rfl, fun w => run_zero (inferInstance : Inf Try.prog 91 _ _ _) w⟩
instance : Und Try.prog 92 (.struct #[⟨ "id", 3, 0, false, "", "quilt/grow", 0⟩, ⟨ "j", 3, 1, false, "", "quilt/grow", 8⟩]) := ⟨Try.underlying92⟩
instance : Inf Try.prog 92 2 16 (.agg #[.int .i64 0, .int .i64 0]) := ⟨by kernel_rfl⟩
instance : Zer Try.prog 92 #[.int .i64 0, .int .i64 0] := ⟨_, rfl, fun w => run_zero (inferInstance : Inf Try.prog 92 _ _ _) w⟩
instance : Inf Try.prog 93 1 0 (.tuple #[.int .i64 0, .bool false]) := ⟨by kernel_rfl⟩
instance : Zer Try.prog 93 #[.tuple #[.int .i64 0, .bool false]] := ⟨_, rfl, fun w => run_zero (inferInstance : Inf Try.prog 93 _ _ _) w⟩
instance : Inf Try.prog 94 1 8 (.nilFunc) := ⟨by kernel_rfl⟩
instance : Zer Try.prog 94 #[.nilFunc] := ⟨_, rfl, fun w => run_zero (inferInstance : Inf Try.prog 94 _ _ _) w⟩
instance : Inf Try.prog 95 1 8 (.nilFunc) := ⟨by kernel_rfl⟩
instance : Zer Try.prog 95 #[.nilFunc] := ⟨_, rfl, fun w => run_zero (inferInstance : Inf Try.prog 95 _ _ _) w⟩
instance : Inf Try.prog 96 1 8 (.nilFunc) := ⟨by kernel_rfl⟩
instance : Zer Try.prog 96 #[.nilFunc] := ⟨_, rfl, fun w => run_zero (inferInstance : Inf Try.prog 96 _ _ _) w⟩
instance : Und Try.prog 97 (.array 4 75) := ⟨Try.underlying97⟩
instance : Inf Try.prog 97 24 192 (.agg #[.int .i64 0, .int .u64 0, .int .i64 0, .int .i64 0, .int .i64 0, .int .i64 0, .int .i64 0, .int .u64 0, .int .i64 0, .int .i64 0, .int .i64 0, .int .i64 0, .int .i64 0, .int .u64 0, .int .i64 0, .int .i64 0, .int .i64 0, .int .i64 0, .int .i64 0, .int .u64 0, .int .i64 0, .int .i64 0, .int .i64 0, .int .i64 0]) := ⟨by kernel_rfl⟩
instance : Zer Try.prog 97 #[.int .i64 0, .int .u64 0, .int .i64 0, .int .i64 0, .int .i64 0, .int .i64 0, .int .i64 0, .int .u64 0, .int .i64 0, .int .i64 0, .int .i64 0, .int .i64 0, .int .i64 0, .int .u64 0, .int .i64 0, .int .i64 0, .int .i64 0, .int .i64 0, .int .i64 0, .int .u64 0, .int .i64 0, .int .i64 0, .int .i64 0, .int .i64 0] := ⟨_, rfl, fun w => run_zero (inferInstance : Inf Try.prog 97 _ _ _) w⟩
instance : Und Try.prog 98 (.int .u32) := ⟨Try.underlying98⟩
instance : Inf Try.prog 98 1 4 (.int .u32 0) := ⟨by kernel_rfl⟩
instance : Zer Try.prog 98 #[.int .u32 0] := ⟨_, rfl, fun w => run_zero (inferInstance : Inf Try.prog 98 _ _ _) w⟩
instance : Und Try.prog 99 (.array 24 98) := ⟨Try.underlying99⟩
instance : Inf Try.prog 99 24 96 (.agg #[.int .u32 0, .int .u32 0, .int .u32 0, .int .u32 0, .int .u32 0, .int .u32 0, .int .u32 0, .int .u32 0, .int .u32 0, .int .u32 0, .int .u32 0, .int .u32 0, .int .u32 0, .int .u32 0, .int .u32 0, .int .u32 0, .int .u32 0, .int .u32 0, .int .u32 0, .int .u32 0, .int .u32 0, .int .u32 0, .int .u32 0, .int .u32 0]) := ⟨by kernel_rfl⟩
instance : Zer Try.prog 99 #[.int .u32 0, .int .u32 0, .int .u32 0, .int .u32 0, .int .u32 0, .int .u32 0, .int .u32 0, .int .u32 0, .int .u32 0, .int .u32 0, .int .u32 0, .int .u32 0, .int .u32 0, .int .u32 0, .int .u32 0, .int .u32 0, .int .u32 0, .int .u32 0, .int .u32 0, .int .u32 0, .int .u32 0, .int .u32 0, .int .u32 0, .int .u32 0] := ⟨_, rfl, fun w => run_zero (inferInstance : Inf Try.prog 99 _ _ _) w⟩
instance : Und Try.prog 100 (.array 24 98) := ⟨Try.underlying100⟩
instance : Inf Try.prog 100 24 96 (.agg #[.int .u32 0, .int .u32 0, .int .u32 0, .int .u32 0, .int .u32 0, .int .u32 0, .int .u32 0, .int .u32 0, .int .u32 0, .int .u32 0, .int .u32 0, .int .u32 0, .int .u32 0, .int .u32 0, .int .u32 0, .int .u32 0, .int .u32 0, .int .u32 0, .int .u32 0, .int .u32 0, .int .u32 0, .int .u32 0, .int .u32 0, .int .u32 0]) := ⟨by kernel_rfl⟩
instance : Zer Try.prog 100 #[.int .u32 0, .int .u32 0, .int .u32 0, .int .u32 0, .int .u32 0, .int .u32 0, .int .u32 0, .int .u32 0, .int .u32 0, .int .u32 0, .int .u32 0, .int .u32 0, .int .u32 0, .int .u32 0, .int .u32 0, .int .u32 0, .int .u32 0, .int .u32 0, .int .u32 0, .int .u32 0, .int .u32 0, .int .u32 0, .int .u32 0, .int .u32 0] := ⟨_, rfl, fun w => run_zero (inferInstance : Inf Try.prog 100 _ _ _) w⟩
instance : Inf Try.prog 101 1 8 (.nilFunc) := ⟨by kernel_rfl⟩
instance : Zer Try.prog 101 #[.nilFunc] := ⟨_, rfl, fun w => run_zero (inferInstance : Inf Try.prog 101 _ _ _) w⟩
instance : Inf Try.prog 102 1 8 (.nilFunc) := ⟨by kernel_rfl⟩
instance : Zer Try.prog 102 #[.nilFunc] := ⟨_, rfl, fun w => run_zero (inferInstance : Inf Try.prog 102 _ _ _) w⟩
instance : Inf Try.prog 103 1 8 (.nilFunc) := ⟨by kernel_rfl⟩
instance : Zer Try.prog 103 #[.nilFunc] := ⟨_, rfl, fun w => run_zero (inferInstance : Inf Try.prog 103 _ _ _) w⟩
instance : Und Try.prog 104 (.array 9 3) := ⟨Try.underlying104⟩
instance : Inf Try.prog 104 9 72 (.agg #[.int .i64 0, .int .i64 0, .int .i64 0, .int .i64 0, .int .i64 0, .int .i64 0, .int .i64 0, .int .i64 0, .int .i64 0]) := ⟨by kernel_rfl⟩
instance : Zer Try.prog 104 #[.int .i64 0, .int .i64 0, .int .i64 0, .int .i64 0, .int .i64 0, .int .i64 0, .int .i64 0, .int .i64 0, .int .i64 0] := ⟨_, rfl, fun w => run_zero (inferInstance : Inf Try.prog 104 _ _ _) w⟩
instance : Inf Try.prog 105 1 8 (.nilFunc) := ⟨by kernel_rfl⟩
instance : Zer Try.prog 105 #[.nilFunc] := ⟨_, rfl, fun w => run_zero (inferInstance : Inf Try.prog 105 _ _ _) w⟩
instance : Und Try.prog 106 (.array 9 70) := ⟨Try.underlying106⟩
instance : Inf Try.prog 106 36 288 (.agg #[.int .i64 0, .int .i64 0, .int .i64 0, .int .i64 0, .int .i64 0, .int .i64 0, .int .i64 0, .int .i64 0, .int .i64 0, .int .i64 0, .int .i64 0, .int .i64 0, .int .i64 0, .int .i64 0, .int .i64 0, .int .i64 0, .int .i64 0, .int .i64 0, .int .i64 0, .int .i64 0, .int .i64 0, .int .i64 0, .int .i64 0, .int .i64 0, .int .i64 0, .int .i64 0, .int .i64 0, .int .i64 0, .int .i64 0, .int .i64 0, .int .i64 0, .int .i64 0, .int .i64 0, .int .i64 0, .int .i64 0, .int .i64 0]) := ⟨by kernel_rfl⟩
instance : Zer Try.prog 106 #[.int .i64 0, .int .i64 0, .int .i64 0, .int .i64 0, .int .i64 0, .int .i64 0, .int .i64 0, .int .i64 0, .int .i64 0, .int .i64 0, .int .i64 0, .int .i64 0, .int .i64 0, .int .i64 0, .int .i64 0, .int .i64 0, .int .i64 0, .int .i64 0, .int .i64 0, .int .i64 0, .int .i64 0, .int .i64 0, .int .i64 0, .int .i64 0, .int .i64 0, .int .i64 0, .int .i64 0, .int .i64 0, .int .i64 0, .int .i64 0, .int .i64 0, .int .i64 0, .int .i64 0, .int .i64 0, .int .i64 0, .int .i64 0] := ⟨_, rfl, fun w => run_zero (inferInstance : Inf Try.prog 106 _ _ _) w⟩
instance : Inf Try.prog 107 1 8 (.nilFunc) := ⟨by kernel_rfl⟩
instance : Zer Try.prog 107 #[.nilFunc] := ⟨_, rfl, fun w => run_zero (inferInstance : Inf Try.prog 107 _ _ _) w⟩
instance : Inf Try.prog 108 1 8 (.nilFunc) := ⟨by kernel_rfl⟩
instance : Zer Try.prog 108 #[.nilFunc] := ⟨_, rfl, fun w => run_zero (inferInstance : Inf Try.prog 108 _ _ _) w⟩
instance : Inf Try.prog 109 1 8 (.nilFunc) := ⟨by kernel_rfl⟩
instance : Zer Try.prog 109 #[.nilFunc] := ⟨_, rfl, fun w => run_zero (inferInstance : Inf Try.prog 109 _ _ _) w⟩
instance : Und Try.prog 110 (.pointer 100) := ⟨Try.underlying110⟩
instance : Inf Try.prog 110 1 8 (.pointer none) := ⟨by kernel_rfl⟩
instance : Zer Try.prog 110 #[.pointer none] := ⟨_, rfl, fun w => run_zero (inferInstance : Inf Try.prog 110 _ _ _) w⟩
instance : Inf Try.prog 111 1 8 (.nilFunc) := ⟨by kernel_rfl⟩
instance : Zer Try.prog 111 #[.nilFunc] := ⟨_, rfl, fun w => run_zero (inferInstance : Inf Try.prog 111 _ _ _) w⟩
instance : Inf Try.prog 112 1 8 (.nilFunc) := ⟨by kernel_rfl⟩
instance : Zer Try.prog 112 #[.nilFunc] := ⟨_, rfl, fun w => run_zero (inferInstance : Inf Try.prog 112 _ _ _) w⟩
instance : Und Try.prog 113 (.array 4 70) := ⟨Try.underlying113⟩
instance : Inf Try.prog 113 16 128 (.agg #[.int .i64 0, .int .i64 0, .int .i64 0, .int .i64 0, .int .i64 0, .int .i64 0, .int .i64 0, .int .i64 0, .int .i64 0, .int .i64 0, .int .i64 0, .int .i64 0, .int .i64 0, .int .i64 0, .int .i64 0, .int .i64 0]) := ⟨by kernel_rfl⟩
instance : Zer Try.prog 113 #[.int .i64 0, .int .i64 0, .int .i64 0, .int .i64 0, .int .i64 0, .int .i64 0, .int .i64 0, .int .i64 0, .int .i64 0, .int .i64 0, .int .i64 0, .int .i64 0, .int .i64 0, .int .i64 0, .int .i64 0, .int .i64 0] := ⟨_, rfl, fun w => run_zero (inferInstance : Inf Try.prog 113 _ _ _) w⟩
instance : Inf Try.prog 114 1 8 (.nilFunc) := ⟨by kernel_rfl⟩
instance : Zer Try.prog 114 #[.nilFunc] := ⟨_, rfl, fun w => run_zero (inferInstance : Inf Try.prog 114 _ _ _) w⟩
instance : Inf Try.prog 115 1 8 (.nilFunc) := ⟨by kernel_rfl⟩
instance : Zer Try.prog 115 #[.nilFunc] := ⟨_, rfl, fun w => run_zero (inferInstance : Inf Try.prog 115 _ _ _) w⟩
instance : Inf Try.prog 116 1 8 (.nilFunc) := ⟨by kernel_rfl⟩
instance : Zer Try.prog 116 #[.nilFunc] := ⟨_, rfl, fun w => run_zero (inferInstance : Inf Try.prog 116 _ _ _) w⟩
instance : Und Try.prog 117 (.struct #[⟨ "_interface", 17, 0, false, "", "runtime", 0⟩, ⟨ "concrete", 17, 1, false, "", "runtime", 8⟩, ⟨ "asserted", 17, 2, false, "", "runtime", 16⟩, ⟨ "missingMethod", 9, 3, false, "", "runtime", 24⟩]) := ⟨Try.underlying117⟩
instance : Inf Try.prog 117 4 40 (.agg #[.pointer none, .pointer none, .pointer none, .string ⟨#[]⟩]) := ⟨by kernel_rfl⟩
instance : Zer Try.prog 117 #[.pointer none, .pointer none, .pointer none, .string ⟨#[]⟩] := ⟨_, rfl, fun w => run_zero (inferInstance : Inf Try.prog 117 _ _ _) w⟩
instance : Und Try.prog 118 (.struct #[⟨ "_interface", 17, 0, false, "", "runtime", 0⟩, ⟨ "concrete", 17, 1, false, "", "runtime", 8⟩, ⟨ "asserted", 17, 2, false, "", "runtime", 16⟩, ⟨ "missingMethod", 9, 3, false, "", "runtime", 24⟩]) := ⟨Try.underlying118⟩
instance : Inf Try.prog 118 4 40 (.agg #[.pointer none, .pointer none, .pointer none, .string ⟨#[]⟩]) := ⟨by kernel_rfl⟩
instance : Zer Try.prog 118 #[.pointer none, .pointer none, .pointer none, .string ⟨#[]⟩] := ⟨_, rfl, fun w => run_zero (inferInstance : Inf Try.prog 118 _ _ _) w⟩
instance : Und Try.prog 119 (.array 0 16) := ⟨Try.underlying119⟩
instance : Inf Try.prog 119 0 0 (.agg #[]) := ⟨by kernel_rfl⟩
instance : Zer Try.prog 119 #[] := ⟨_, rfl, fun w => run_zero (inferInstance : Inf Try.prog 119 _ _ _) w⟩
instance : Und Try.prog 120 (.struct #[⟨ "_", 119, 0, false, "", "runtime", 0⟩]) := ⟨Try.underlying120⟩
instance : Inf Try.prog 120 0 0 (.agg #[]) := ⟨by kernel_rfl⟩
instance : Zer Try.prog 120 #[] := ⟨_, rfl, fun w => run_zero (inferInstance : Inf Try.prog 120 _ _ _) w⟩
instance : Und Try.prog 121 (.struct #[⟨ "_", 119, 0, false, "", "runtime", 0⟩]) := ⟨Try.underlying121⟩
instance : Inf Try.prog 121 0 0 (.agg #[]) := ⟨by kernel_rfl⟩
instance : Zer Try.prog 121 #[] := ⟨_, rfl, fun w => run_zero (inferInstance : Inf Try.prog 121 _ _ _) w⟩
instance : Und Try.prog 122 (.int .u8) := ⟨Try.underlying122⟩
instance : Inf Try.prog 122 1 1 (.int .u8 0) := ⟨by kernel_rfl⟩
instance : Zer Try.prog 122 #[.int .u8 0] := ⟨_, rfl, fun w => run_zero (inferInstance : Inf Try.prog 122 _ _ _) w⟩
instance : Und Try.prog 123 (.int .u8) := ⟨Try.underlying123⟩
instance : Inf Try.prog 123 1 1 (.int .u8 0) := ⟨by kernel_rfl⟩
instance : Zer Try.prog 123 #[.int .u8 0] := ⟨_, rfl, fun w => run_zero (inferInstance : Inf Try.prog 123 _ _ _) w⟩
instance : Inf Try.prog 124 1 8 (.nilFunc) := ⟨by kernel_rfl⟩
instance : Zer Try.prog 124 #[.nilFunc] := ⟨_, rfl, fun w => run_zero (inferInstance : Inf Try.prog 124 _ _ _) w⟩
instance : Und Try.prog 125 (.pointer 5) := ⟨Try.underlying125⟩
instance : Inf Try.prog 125 1 8 (.pointer none) := ⟨by kernel_rfl⟩
instance : Zer Try.prog 125 #[.pointer none] := ⟨_, rfl, fun w => run_zero (inferInstance : Inf Try.prog 125 _ _ _) w⟩
instance : Und Try.prog 126 (.int .i32) := ⟨Try.underlying126⟩
instance : Inf Try.prog 126 1 4 (.int .i32 0) := ⟨by kernel_rfl⟩
instance : Zer Try.prog 126 #[.int .i32 0] := ⟨_, rfl, fun w => run_zero (inferInstance : Inf Try.prog 126 _ _ _) w⟩
instance : Und Try.prog 127 (.int .i32) := ⟨Try.underlying127⟩
instance : Inf Try.prog 127 1 4 (.int .i32 0) := ⟨by kernel_rfl⟩
instance : Zer Try.prog 127 #[.int .i32 0] := ⟨_, rfl, fun w => run_zero (inferInstance : Inf Try.prog 127 _ _ _) w⟩
instance : Und Try.prog 128 (.struct #[⟨ "Size_", 12, 0, false, "", "", 0⟩, ⟨ "PtrBytes", 12, 1, false, "", "", 8⟩, ⟨ "Hash", 98, 2, false, "", "", 16⟩, ⟨ "TFlag", 122, 3, false, "", "", 20⟩, ⟨ "Align_", 5, 4, false, "", "", 21⟩, ⟨ "FieldAlign_", 5, 5, false, "", "", 22⟩, ⟨ "Kind_", 123, 6, false, "", "", 23⟩, ⟨ "Equal", 124, 7, false, "", "", 24⟩, ⟨ "GCData", 125, 8, false, "", "", 32⟩, ⟨ "Str", 126, 9, false, "", "", 40⟩, ⟨ "PtrToThis", 127, 10, false, "", "", 44⟩]) := ⟨Try.underlying128⟩
instance : Inf Try.prog 128 11 48 (.agg #[.int .u64 0, .int .u64 0, .int .u32 0, .int .u8 0, .int .u8 0, .int .u8 0, .int .u8 0, .nilFunc, .pointer none, .int .i32 0, .int .i32 0]) := ⟨by kernel_rfl⟩
instance : Zer Try.prog 128 #[.int .u64 0, .int .u64 0, .int .u32 0, .int .u8 0, .int .u8 0, .int .u8 0, .int .u8 0, .nilFunc, .pointer none, .int .i32 0, .int .i32 0] := ⟨_, rfl, fun w => run_zero (inferInstance : Inf Try.prog 128 _ _ _) w⟩
instance : Und Try.prog 129 (.struct #[⟨ "Size_", 12, 0, false, "", "", 0⟩, ⟨ "PtrBytes", 12, 1, false, "", "", 8⟩, ⟨ "Hash", 98, 2, false, "", "", 16⟩, ⟨ "TFlag", 122, 3, false, "", "", 20⟩, ⟨ "Align_", 5, 4, false, "", "", 21⟩, ⟨ "FieldAlign_", 5, 5, false, "", "", 22⟩, ⟨ "Kind_", 123, 6, false, "", "", 23⟩, ⟨ "Equal", 124, 7, false, "", "", 24⟩, ⟨ "GCData", 125, 8, false, "", "", 32⟩, ⟨ "Str", 126, 9, false, "", "", 40⟩, ⟨ "PtrToThis", 127, 10, false, "", "", 44⟩]) := ⟨Try.underlying129⟩
instance : Inf Try.prog 129 11 48 (.agg #[.int .u64 0, .int .u64 0, .int .u32 0, .int .u8 0, .int .u8 0, .int .u8 0, .int .u8 0, .nilFunc, .pointer none, .int .i32 0, .int .i32 0]) := ⟨by kernel_rfl⟩
instance : Zer Try.prog 129 #[.int .u64 0, .int .u64 0, .int .u32 0, .int .u8 0, .int .u8 0, .int .u8 0, .int .u8 0, .nilFunc, .pointer none, .int .i32 0, .int .i32 0] := ⟨_, rfl, fun w => run_zero (inferInstance : Inf Try.prog 129 _ _ _) w⟩
instance : Inf Try.prog 130 1 8 (.pointer none) := ⟨by kernel_rfl⟩
instance : Zer Try.prog 130 #[.pointer none] := ⟨_, rfl, fun w => run_zero (inferInstance : Inf Try.prog 130 _ _ _) w⟩
instance : Bod Try.prog 2 := ⟨_, _, Try.func2, rfl, by kernel_rfl⟩
instance : Bod Try.prog 3 := ⟨_, _, Try.func3, rfl, by kernel_rfl⟩
instance : Bod Try.prog 4 := ⟨_, _, Try.func4, rfl, by kernel_rfl⟩
instance : Bod Try.prog 5 := ⟨_, _, Try.func5, rfl, by kernel_rfl⟩
instance : Bod Try.prog 6 := ⟨_, _, Try.func6, rfl, by kernel_rfl⟩
instance : Bod Try.prog 7 := ⟨_, _, Try.func7, rfl, by kernel_rfl⟩
instance : Bod Try.prog 8 := ⟨_, _, Try.func8, rfl, by kernel_rfl⟩
instance : Bod Try.prog 9 := ⟨_, _, Try.func9, rfl, by kernel_rfl⟩
instance : Bod Try.prog 10 := ⟨_, _, Try.func10, rfl, by kernel_rfl⟩
instance : Bod Try.prog 11 := ⟨_, _, Try.func11, rfl, by kernel_rfl⟩
instance : Bod Try.prog 12 := ⟨_, _, Try.func12, rfl, by kernel_rfl⟩
instance : Bod Try.prog 13 := ⟨_, _, Try.func13, rfl, by kernel_rfl⟩
instance : Bod Try.prog 14 := ⟨_, _, Try.func14, rfl, by kernel_rfl⟩
instance : Bod Try.prog 15 := ⟨_, _, Try.func15, rfl, by kernel_rfl⟩
instance : Bod Try.prog 16 := ⟨_, _, Try.func16, rfl, by kernel_rfl⟩
instance : Bod Try.prog 17 := ⟨_, _, Try.func17, rfl, by kernel_rfl⟩
instance : Bod Try.prog 18 := ⟨_, _, Try.func18, rfl, by kernel_rfl⟩
instance : Bod Try.prog 19 := ⟨_, _, Try.func19, rfl, by kernel_rfl⟩
instance : Bod Try.prog 20 := ⟨_, _, Try.func20, rfl, by kernel_rfl⟩
instance : Bod Try.prog 21 := ⟨_, _, Try.func21, rfl, by kernel_rfl⟩
instance : Bod Try.prog 22 := ⟨_, _, Try.func22, rfl, by kernel_rfl⟩
instance : Bod Try.prog 23 := ⟨_, _, Try.func23, rfl, by kernel_rfl⟩
instance : Bod Try.prog 24 := ⟨_, _, Try.func24, rfl, by kernel_rfl⟩
instance : Bod Try.prog 25 := ⟨_, _, Try.func25, rfl, by kernel_rfl⟩
instance : Bod Try.prog 26 := ⟨_, _, Try.func26, rfl, by kernel_rfl⟩
instance : Bod Try.prog 27 := ⟨_, _, Try.func27, rfl, by kernel_rfl⟩
instance : Bod Try.prog 28 := ⟨_, _, Try.func28, rfl, by kernel_rfl⟩
instance : Bod Try.prog 29 := ⟨_, _, Try.func29, rfl, by kernel_rfl⟩
instance : Bod Try.prog 30 := ⟨_, _, Try.func30, rfl, by kernel_rfl⟩
instance : Bod Try.prog 31 := ⟨_, _, Try.func31, rfl, by kernel_rfl⟩
instance : Bod Try.prog 32 := ⟨_, _, Try.func32, rfl, by kernel_rfl⟩
instance : Bod Try.prog 33 := ⟨_, _, Try.func33, rfl, by kernel_rfl⟩
instance : Bod Try.prog 34 := ⟨_, _, Try.func34, rfl, by kernel_rfl⟩
instance : Bod Try.prog 35 := ⟨_, _, Try.func35, rfl, by kernel_rfl⟩
instance : Bod Try.prog 36 := ⟨_, _, Try.func36, rfl, by kernel_rfl⟩
instance : Bod Try.prog 37 := ⟨_, _, Try.func37, rfl, by kernel_rfl⟩
instance : Bod Try.prog 38 := ⟨_, _, Try.func38, rfl, by kernel_rfl⟩
instance : Bod Try.prog 39 := ⟨_, _, Try.func39, rfl, by kernel_rfl⟩
instance : Bod Try.prog 40 := ⟨_, _, Try.func40, rfl, by kernel_rfl⟩
instance : Bod Try.prog 41 := ⟨_, _, Try.func41, rfl, by kernel_rfl⟩
instance : Bod Try.prog 42 := ⟨_, _, Try.func42, rfl, by kernel_rfl⟩
instance : Bod Try.prog 43 := ⟨_, _, Try.func43, rfl, by kernel_rfl⟩
instance : Bod Try.prog 44 := ⟨_, _, Try.func44, rfl, by kernel_rfl⟩
instance : Bod Try.prog 45 := ⟨_, _, Try.func45, rfl, by kernel_rfl⟩
instance : Bod Try.prog 46 := ⟨_, _, Try.func46, rfl, by kernel_rfl⟩
instance : Bod Try.prog 47 := ⟨_, _, Try.func47, rfl, by kernel_rfl⟩
instance : Bod Try.prog 48 := ⟨_, _, Try.func48, rfl, by kernel_rfl⟩
instance : Bod Try.prog 49 := ⟨_, _, Try.func49, rfl, by kernel_rfl⟩
instance : Bod Try.prog 50 := ⟨_, _, Try.func50, rfl, by kernel_rfl⟩
instance : Bod Try.prog 51 := ⟨_, _, Try.func51, rfl, by kernel_rfl⟩
instance : Bod Try.prog 52 := ⟨_, _, Try.func52, rfl, by kernel_rfl⟩
instance : Bod Try.prog 53 := ⟨_, _, Try.func53, rfl, by kernel_rfl⟩
instance (a0 : Int) (a1 : Int) : Bld Try.prog 37 [(0, .int .u16 a0), (1, .int .u16 a1)] [.int .u16 a0, .int .u16 a1] := ⟨fun w => by kernel_rfl⟩
instance (a0 : Int) (a1 : Int) : Bld Try.prog 45 [(0, .int .i64 a0), (1, .int .i64 a1)] [.int .i64 a0, .int .i64 a1] := ⟨fun w => by kernel_rfl⟩
instance (a0_0 a0_1 : Value) (a1_0 a1_1 : Value) (a2_0 a2_1 : Value) (a3_0 a3_1 : Value) (a4_0 a4_1 : Value) : Bld Try.prog 48 [(0, .agg #[a0_0, a0_1]), (1, .agg #[a1_0, a1_1]), (2, .agg #[a2_0, a2_1]), (3, .agg #[a3_0, a3_1]), (4, .agg #[a4_0, a4_1])] [a0_0, a0_1, a1_0, a1_1, a2_0, a2_1, a3_0, a3_1, a4_0, a4_1] := ⟨fun w => by kernel_rfl⟩
instance (a0 : Int) (a3 : Option Nat) : Bld Try.prog 59 [(0, .int .i64 a0), (3, .map a3)] [.int .i64 a0, .slice none 0 0, .slice none 0 0, .map a3] := ⟨fun w => by kernel_rfl⟩
instance (a0 : Option Addr) (a1_0 a1_1 : Value) (a2 : Option Nat) : Bld Try.prog 63 [(0, .pointer a0), (1, .agg #[a1_0, a1_1]), (2, .map a2)] [.pointer a0, a1_0, a1_1, .map a2] := ⟨fun w => by kernel_rfl⟩
instance (a0 : Option Addr) : Bld Try.prog 66 [(0, .pointer a0)] [.pointer a0, .nilIface] := ⟨fun w => by kernel_rfl⟩
instance  : Bld Try.prog 70 [] [.int .i64 0, .int .i64 0, .int .i64 0, .int .i64 0] := ⟨fun w => by kernel_rfl⟩
instance (a0 : Int) (a1 : Int) (a2 : Int) (a3 : Int) : Bld Try.prog 70 [(0, .int .i64 a0), (1, .int .i64 a1), (2, .int .i64 a2), (3, .int .i64 a3)] [.int .i64 a0, .int .i64 a1, .int .i64 a2, .int .i64 a3] := ⟨fun w => by kernel_rfl⟩
instance  : Bld Try.prog 75 [] [.int .i64 0, .int .u64 0, .int .i64 0, .int .i64 0, .int .i64 0, .int .i64 0] := ⟨fun w => by kernel_rfl⟩
instance (a0 : Int) (a1 : Int) : Bld Try.prog 75 [(0, .int .i64 a0), (1, .int .u64 a1)] [.int .i64 a0, .int .u64 a1, .int .i64 0, .int .i64 0, .int .i64 0, .int .i64 0] := ⟨fun w => by kernel_rfl⟩
instance (a0 : Int) (a2_0 a2_1 a2_2 a2_3 : Value) : Bld Try.prog 75 [(0, .int .i64 a0), (2, .agg #[a2_0, a2_1, a2_2, a2_3])] [.int .i64 a0, .int .u64 0, a2_0, a2_1, a2_2, a2_3] := ⟨fun w => by kernel_rfl⟩
instance (a0 : Int) (a1 : Int) : Bld Try.prog 92 [(0, .int .i64 a0), (1, .int .i64 a1)] [.int .i64 a0, .int .i64 a1] := ⟨fun w => by kernel_rfl⟩
theorem mixed : Try.prog.follows .mixedOrders = true := by kernel_rfl
end Go.Proofs
