/- The types of this translation, as a table that Lean holds against the loaded program; no conditions. -/
import Derived.Test.YtfmfflfnkjoopaaAm9
import Derived.Test.YtfmfflfnkjoopaaProg
set_option linter.unusedVariables false
namespace Go.Proofs.Ytfmfflfnkjoopaa
namespace AM
open Go
def tab : List (Nat × TI) := [(2, ⟨false, 1, 8, none, [], 3, some .i64⟩),
  (3, ⟨false, 1, 8, none, [], 3, some .i64⟩),
  (4, ⟨false, 1, 1, none, [], 1, none⟩),
  (5, ⟨false, 1, 1, none, [], 3, some .u8⟩),
  (6, ⟨false, 1, 1, none, [], 3, some .u8⟩),
  (7, ⟨true, 4, 24, none, [some (0, 1, false), some (1, 1, false), some (2, 1, false), some (3, 1, false)], 5, none⟩),
  (8, ⟨true, 4, 24, none, [some (0, 1, false), some (1, 1, false), some (2, 1, false), some (3, 1, false)], 5, none⟩),
  (9, ⟨false, 1, 16, none, [], 2, none⟩),
  (10, ⟨false, 1, 16, none, [], 2, none⟩),
  (11, ⟨false, 1, 16, none, [], 2, none⟩),
  (12, ⟨false, 1, 8, none, [], 3, some .u64⟩),
  (13, ⟨true, 2, 24, none, [some (0, 1, false), some (1, 1, false)], 5, none⟩),
  (14, ⟨true, 2, 24, none, [some (0, 1, false), some (1, 1, false)], 5, none⟩),
  (18, ⟨true, 1, 8, none, [some (0, 1, false)], 5, none⟩),
  (19, ⟨true, 1, 8, none, [some (0, 1, false)], 5, none⟩),
  (21, ⟨false, 1, 4, none, [], 3, some .i32⟩),
  (22, ⟨false, 1, 24, some 9, [], 4, none⟩),
  (28, ⟨false, 1, 24, some 5, [], 4, none⟩),
  (31, ⟨false, 1, 24, some 33, [], 4, none⟩),
  (32, ⟨true, 3, 40, none, [some (0, 1, false), some (1, 1, false), some (2, 1, false)], 5, none⟩),
  (33, ⟨true, 3, 40, none, [some (0, 1, false), some (1, 1, false), some (2, 1, false)], 5, none⟩),
  (35, ⟨false, 1, 24, some 54, [], 4, none⟩),
  (37, ⟨false, 1, 24, some 39, [], 4, none⟩),
  (38, ⟨true, 3, 40, none, [some (0, 1, false), some (1, 1, false), some (2, 1, false)], 5, none⟩),
  (39, ⟨true, 3, 40, none, [some (0, 1, false), some (1, 1, false), some (2, 1, false)], 5, none⟩),
  (46, ⟨true, 7, 88, none, [some (0, 1, false), some (1, 3, true), some (4, 3, true)], 5, none⟩),
  (47, ⟨true, 7, 88, none, [some (0, 1, false), some (1, 3, true), some (4, 3, true)], 5, none⟩),
  (50, ⟨true, 7, 88, none, [some (0, 1, false), some (1, 3, true), some (4, 3, true)], 5, none⟩),
  (51, ⟨true, 7, 88, none, [some (0, 1, false), some (1, 3, true), some (4, 3, true)], 5, none⟩),
  (54, ⟨false, 1, 24, some 3, [], 4, none⟩),
  (61, ⟨false, 1, 24, some 47, [], 4, none⟩),
  (62, ⟨true, 1, 24, none, [some (0, 1, false)], 5, none⟩),
  (63, ⟨true, 1, 24, none, [some (0, 1, false)], 5, none⟩),
  (66, ⟨false, 1, 24, some 51, [], 4, none⟩),
  (67, ⟨true, 1, 24, none, [some (0, 1, false)], 5, none⟩),
  (68, ⟨true, 1, 24, none, [some (0, 1, false)], 5, none⟩),
  (71, ⟨false, 1, 24, some 103, [], 4, none⟩),
  (74, ⟨false, 1, 24, some 104, [], 4, none⟩),
  (102, ⟨true, 3, 32, none, [some (0, 1, false), some (1, 1, false), some (2, 1, false)], 5, none⟩),
  (103, ⟨true, 3, 32, none, [some (0, 1, false), some (1, 1, false), some (2, 1, false)], 5, none⟩),
  (104, ⟨true, 3, 32, none, [some (0, 1, false), some (1, 1, false), some (2, 1, false)], 5, none⟩),
  (109, ⟨true, 3, 40, none, [some (0, 1, false), some (1, 1, false), some (2, 1, false)], 5, none⟩),
  (110, ⟨true, 3, 40, none, [some (0, 1, false), some (1, 1, false), some (2, 1, false)], 5, none⟩),
  (116, ⟨false, 1, 8, none, [], 3, some .u64⟩),
  (117, ⟨true, 2, 16, some 3, [], 12, none⟩),
  (118, ⟨false, 1, 24, some 117, [], 4, none⟩),
  (120, ⟨true, 4, 40, none, [some (0, 1, false), some (1, 1, false), some (2, 1, false), some (3, 1, false)], 5, none⟩),
  (121, ⟨true, 4, 40, none, [some (0, 1, false), some (1, 1, false), some (2, 1, false), some (3, 1, false)], 5, none⟩),
  (122, ⟨true, 0, 0, some 16, [], 10, none⟩),
  (123, ⟨true, 0, 0, none, [some (0, 0, true)], 5, none⟩),
  (124, ⟨true, 0, 0, none, [some (0, 0, true)], 5, none⟩),
  (126, ⟨false, 1, 4, none, [], 3, some .u32⟩),
  (127, ⟨false, 1, 1, none, [], 3, some .u8⟩),
  (128, ⟨false, 1, 1, none, [], 3, some .u8⟩),
  (131, ⟨false, 1, 4, none, [], 3, some .i32⟩),
  (132, ⟨false, 1, 4, none, [], 3, some .i32⟩),
  (133, ⟨true, 11, 48, none, [some (0, 1, false), some (1, 1, false), some (2, 1, false), some (3, 1, false), some (4, 1, false), some (5, 1, false), some (6, 1, false), some (7, 1, false), some (8, 1, false), some (9, 1, false), some (10, 1, false)], 5, none⟩),
  (134, ⟨true, 11, 48, none, [some (0, 1, false), some (1, 1, false), some (2, 1, false), some (3, 1, false), some (4, 1, false), some (5, 1, false), some (6, 1, false), some (7, 1, false), some (8, 1, false), some (9, 1, false), some (10, 1, false)], 5, none⟩)]
theorem tabOk : TabOk Try.prog tab := TabOk.of (by kernel_rfl)
theorem mixed : Try.prog.follows .mixedOrders = true := by kernel_rfl
theorem z2 : ZeroOk Try.prog 2 1 8 [.d (.int .i64 0)] := ZeroOk.of (zv := .int .i64 0) (by kernel_rfl) rfl rfl
theorem z3 : ZeroOk Try.prog 3 1 8 [.d (.int .i64 0)] := ZeroOk.of (zv := .int .i64 0) (by kernel_rfl) rfl rfl
theorem z4 : ZeroOk Try.prog 4 1 1 [.d (.bool false)] := ZeroOk.of (zv := .bool false) (by kernel_rfl) rfl rfl
theorem z5 : ZeroOk Try.prog 5 1 1 [.d (.int .u8 0)] := ZeroOk.of (zv := .int .u8 0) (by kernel_rfl) rfl rfl
theorem z6 : ZeroOk Try.prog 6 1 1 [.d (.int .u8 0)] := ZeroOk.of (zv := .int .u8 0) (by kernel_rfl) rfl rfl
theorem z7 : ZeroOk Try.prog 7 4 24 [.d (.int .i64 0), .d (.int .i64 0), .d (.bool false), .d (.int .u8 0)] := ZeroOk.of (zv := .agg #[(.int .i64 0), (.int .i64 0), (.bool false), (.int .u8 0)]) (by kernel_rfl) rfl rfl
theorem z8 : ZeroOk Try.prog 8 4 24 [.d (.int .i64 0), .d (.int .i64 0), .d (.bool false), .d (.int .u8 0)] := ZeroOk.of (zv := .agg #[(.int .i64 0), (.int .i64 0), (.bool false), (.int .u8 0)]) (by kernel_rfl) rfl rfl
theorem z9 : ZeroOk Try.prog 9 1 16 [.d (.str ⟨#[]⟩)] := ZeroOk.of (zv := .string ⟨#[]⟩) (by kernel_rfl) rfl rfl
theorem z10 : ZeroOk Try.prog 10 1 16 [.d (.str ⟨#[]⟩)] := ZeroOk.of (zv := .string ⟨#[]⟩) (by kernel_rfl) rfl rfl
theorem z11 : ZeroOk Try.prog 11 1 16 [.d (.str ⟨#[]⟩)] := ZeroOk.of (zv := .string ⟨#[]⟩) (by kernel_rfl) rfl rfl
theorem z12 : ZeroOk Try.prog 12 1 8 [.d (.int .u64 0)] := ZeroOk.of (zv := .int .u64 0) (by kernel_rfl) rfl rfl
theorem z13 : ZeroOk Try.prog 13 2 24 [.d (.str ⟨#[]⟩), .d (.int .u64 0)] := ZeroOk.of (zv := .agg #[(.string ⟨#[]⟩), (.int .u64 0)]) (by kernel_rfl) rfl rfl
theorem z14 : ZeroOk Try.prog 14 2 24 [.d (.str ⟨#[]⟩), .d (.int .u64 0)] := ZeroOk.of (zv := .agg #[(.string ⟨#[]⟩), (.int .u64 0)]) (by kernel_rfl) rfl rfl
theorem z21 : ZeroOk Try.prog 21 1 4 [.d (.int .i32 0)] := ZeroOk.of (zv := .int .i32 0) (by kernel_rfl) rfl rfl
theorem z22 : ZeroOk Try.prog 22 1 24 [.e0] := ZeroOk.of (zv := .slice none 0 0) (by kernel_rfl) rfl rfl
theorem z28 : ZeroOk Try.prog 28 1 24 [.e0] := ZeroOk.of (zv := .slice none 0 0) (by kernel_rfl) rfl rfl
theorem z31 : ZeroOk Try.prog 31 1 24 [.e0] := ZeroOk.of (zv := .slice none 0 0) (by kernel_rfl) rfl rfl
theorem z32 : ZeroOk Try.prog 32 3 40 [.d (.int .i64 0), .d (.int .i64 0), .e0] := ZeroOk.of (zv := .agg #[(.int .i64 0), (.int .i64 0), (.slice none 0 0)]) (by kernel_rfl) rfl rfl
theorem z33 : ZeroOk Try.prog 33 3 40 [.d (.int .i64 0), .d (.int .i64 0), .e0] := ZeroOk.of (zv := .agg #[(.int .i64 0), (.int .i64 0), (.slice none 0 0)]) (by kernel_rfl) rfl rfl
theorem z35 : ZeroOk Try.prog 35 1 24 [.e0] := ZeroOk.of (zv := .slice none 0 0) (by kernel_rfl) rfl rfl
theorem z37 : ZeroOk Try.prog 37 1 24 [.e0] := ZeroOk.of (zv := .slice none 0 0) (by kernel_rfl) rfl rfl
theorem z38 : ZeroOk Try.prog 38 3 40 [.d (.int .i64 0), .d (.int .i64 0), .e0] := ZeroOk.of (zv := .agg #[(.int .i64 0), (.int .i64 0), (.slice none 0 0)]) (by kernel_rfl) rfl rfl
theorem z39 : ZeroOk Try.prog 39 3 40 [.d (.int .i64 0), .d (.int .i64 0), .e0] := ZeroOk.of (zv := .agg #[(.int .i64 0), (.int .i64 0), (.slice none 0 0)]) (by kernel_rfl) rfl rfl
theorem z46 : ZeroOk Try.prog 46 7 88 [.d (.bool false), .d (.int .i64 0), .d (.int .i64 0), .e0, .d (.int .i64 0), .d (.int .i64 0), .e0] := ZeroOk.of (zv := .agg #[(.bool false), (.int .i64 0), (.int .i64 0), (.slice none 0 0), (.int .i64 0), (.int .i64 0), (.slice none 0 0)]) (by kernel_rfl) rfl rfl
theorem z47 : ZeroOk Try.prog 47 7 88 [.d (.bool false), .d (.int .i64 0), .d (.int .i64 0), .e0, .d (.int .i64 0), .d (.int .i64 0), .e0] := ZeroOk.of (zv := .agg #[(.bool false), (.int .i64 0), (.int .i64 0), (.slice none 0 0), (.int .i64 0), (.int .i64 0), (.slice none 0 0)]) (by kernel_rfl) rfl rfl
theorem z50 : ZeroOk Try.prog 50 7 88 [.d (.bool false), .d (.int .i64 0), .d (.int .i64 0), .e0, .d (.int .i64 0), .d (.int .i64 0), .e0] := ZeroOk.of (zv := .agg #[(.bool false), (.int .i64 0), (.int .i64 0), (.slice none 0 0), (.int .i64 0), (.int .i64 0), (.slice none 0 0)]) (by kernel_rfl) rfl rfl
theorem z51 : ZeroOk Try.prog 51 7 88 [.d (.bool false), .d (.int .i64 0), .d (.int .i64 0), .e0, .d (.int .i64 0), .d (.int .i64 0), .e0] := ZeroOk.of (zv := .agg #[(.bool false), (.int .i64 0), (.int .i64 0), (.slice none 0 0), (.int .i64 0), (.int .i64 0), (.slice none 0 0)]) (by kernel_rfl) rfl rfl
theorem z54 : ZeroOk Try.prog 54 1 24 [.e0] := ZeroOk.of (zv := .slice none 0 0) (by kernel_rfl) rfl rfl
theorem z61 : ZeroOk Try.prog 61 1 24 [.e0] := ZeroOk.of (zv := .slice none 0 0) (by kernel_rfl) rfl rfl
theorem z62 : ZeroOk Try.prog 62 1 24 [.e0] := ZeroOk.of (zv := .agg #[(.slice none 0 0)]) (by kernel_rfl) rfl rfl
theorem z63 : ZeroOk Try.prog 63 1 24 [.e0] := ZeroOk.of (zv := .agg #[(.slice none 0 0)]) (by kernel_rfl) rfl rfl
theorem z66 : ZeroOk Try.prog 66 1 24 [.e0] := ZeroOk.of (zv := .slice none 0 0) (by kernel_rfl) rfl rfl
theorem z67 : ZeroOk Try.prog 67 1 24 [.e0] := ZeroOk.of (zv := .agg #[(.slice none 0 0)]) (by kernel_rfl) rfl rfl
theorem z68 : ZeroOk Try.prog 68 1 24 [.e0] := ZeroOk.of (zv := .agg #[(.slice none 0 0)]) (by kernel_rfl) rfl rfl
theorem z71 : ZeroOk Try.prog 71 1 24 [.e0] := ZeroOk.of (zv := .slice none 0 0) (by kernel_rfl) rfl rfl
theorem z74 : ZeroOk Try.prog 74 1 24 [.e0] := ZeroOk.of (zv := .slice none 0 0) (by kernel_rfl) rfl rfl
theorem z102 : ZeroOk Try.prog 102 3 32 [.d (.str ⟨#[]⟩), .d (.int .i64 0), .d (.bool false)] := ZeroOk.of (zv := .agg #[(.string ⟨#[]⟩), (.int .i64 0), (.bool false)]) (by kernel_rfl) rfl rfl
theorem z103 : ZeroOk Try.prog 103 3 32 [.d (.str ⟨#[]⟩), .d (.int .i64 0), .d (.bool false)] := ZeroOk.of (zv := .agg #[(.string ⟨#[]⟩), (.int .i64 0), (.bool false)]) (by kernel_rfl) rfl rfl
theorem z104 : ZeroOk Try.prog 104 3 32 [.d (.str ⟨#[]⟩), .d (.int .i64 0), .d (.bool false)] := ZeroOk.of (zv := .agg #[(.string ⟨#[]⟩), (.int .i64 0), (.bool false)]) (by kernel_rfl) rfl rfl
theorem z109 : ZeroOk Try.prog 109 3 40 [.e0, .d (.int .i64 0), .d (.int .i64 0)] := ZeroOk.of (zv := .agg #[(.slice none 0 0), (.int .i64 0), (.int .i64 0)]) (by kernel_rfl) rfl rfl
theorem z110 : ZeroOk Try.prog 110 3 40 [.e0, .d (.int .i64 0), .d (.int .i64 0)] := ZeroOk.of (zv := .agg #[(.slice none 0 0), (.int .i64 0), (.int .i64 0)]) (by kernel_rfl) rfl rfl
theorem z116 : ZeroOk Try.prog 116 1 8 [.d (.int .u64 0)] := ZeroOk.of (zv := .int .u64 0) (by kernel_rfl) rfl rfl
theorem z117 : ZeroOk Try.prog 117 2 16 [.d (.int .i64 0), .d (.int .i64 0)] := ZeroOk.of (zv := .agg #[(.int .i64 0), (.int .i64 0)]) (by kernel_rfl) rfl rfl
theorem z118 : ZeroOk Try.prog 118 1 24 [.e0] := ZeroOk.of (zv := .slice none 0 0) (by kernel_rfl) rfl rfl
theorem z126 : ZeroOk Try.prog 126 1 4 [.d (.int .u32 0)] := ZeroOk.of (zv := .int .u32 0) (by kernel_rfl) rfl rfl
theorem z127 : ZeroOk Try.prog 127 1 1 [.d (.int .u8 0)] := ZeroOk.of (zv := .int .u8 0) (by kernel_rfl) rfl rfl
theorem z128 : ZeroOk Try.prog 128 1 1 [.d (.int .u8 0)] := ZeroOk.of (zv := .int .u8 0) (by kernel_rfl) rfl rfl
theorem z131 : ZeroOk Try.prog 131 1 4 [.d (.int .i32 0)] := ZeroOk.of (zv := .int .i32 0) (by kernel_rfl) rfl rfl
theorem z132 : ZeroOk Try.prog 132 1 4 [.d (.int .i32 0)] := ZeroOk.of (zv := .int .i32 0) (by kernel_rfl) rfl rfl
end AM
end Go.Proofs.Ytfmfflfnkjoopaa
