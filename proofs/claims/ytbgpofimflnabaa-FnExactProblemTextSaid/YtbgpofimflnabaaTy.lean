/- The types of this translation, as a table that Lean holds against the loaded program; no conditions. -/
import Derived.Test.YtbgpofimflnabaaAm9
import Derived.Test.YtbgpofimflnabaaProg
set_option linter.unusedVariables false
namespace Go.Proofs.Ytbgpofimflnabaa
namespace AM
open Go
def tab : List (Nat × TI) := [(2, ⟨false, 1, 8, none, [], 3, some .i64⟩),
  (3, ⟨false, 1, 8, none, [], 3, some .i64⟩),
  (4, ⟨false, 1, 1, none, [], 1, none⟩),
  (5, ⟨false, 1, 1, none, [], 3, some .u8⟩),
  (6, ⟨false, 1, 1, none, [], 3, some .u8⟩),
  (7, ⟨true, 4, 24, none, [some (0, 1, false), some (1, 1, false), some (2, 1, false), some (3, 1, false)], 5, none⟩),
  (8, ⟨true, 4, 24, none, [some (0, 1, false), some (1, 1, false), some (2, 1, false), some (3, 1, false)], 5, none⟩),
  (9, ⟨false, 1, 16, none, [], 2, none⟩),
  (10, ⟨false, 1, 16, none, [], 2, none⟩),
  (11, ⟨false, 1, 16, none, [], 2, none⟩),
  (12, ⟨false, 1, 8, none, [], 3, some .u64⟩),
  (13, ⟨true, 2, 24, none, [some (0, 1, false), some (1, 1, false)], 5, none⟩),
  (14, ⟨true, 2, 24, none, [some (0, 1, false), some (1, 1, false)], 5, none⟩),
  (18, ⟨true, 1, 8, none, [some (0, 1, false)], 5, none⟩),
  (19, ⟨true, 1, 8, none, [some (0, 1, false)], 5, none⟩),
  (21, ⟨false, 1, 4, none, [], 3, some .i32⟩),
  (22, ⟨false, 1, 24, some 110, [], 4, none⟩),
  (23, ⟨false, 1, 24, some 25, [], 4, none⟩),
  (24, ⟨true, 3, 40, none, [some (0, 1, false), some (1, 1, false), some (2, 1, false)], 5, none⟩),
  (25, ⟨true, 3, 40, none, [some (0, 1, false), some (1, 1, false), some (2, 1, false)], 5, none⟩),
  (26, ⟨true, 7, 88, none, [some (0, 1, false), some (1, 3, true), some (4, 3, true)], 5, none⟩),
  (27, ⟨true, 7, 88, none, [some (0, 1, false), some (1, 3, true), some (4, 3, true)], 5, none⟩),
  (31, ⟨false, 1, 24, some 113, [], 4, none⟩),
  (33, ⟨false, 1, 24, some 35, [], 4, none⟩),
  (34, ⟨true, 3, 40, none, [some (0, 1, false), some (1, 1, false), some (2, 1, false)], 5, none⟩),
  (35, ⟨true, 3, 40, none, [some (0, 1, false), some (1, 1, false), some (2, 1, false)], 5, none⟩),
  (36, ⟨true, 7, 88, none, [some (0, 1, false), some (1, 3, true), some (4, 3, true)], 5, none⟩),
  (37, ⟨true, 7, 88, none, [some (0, 1, false), some (1, 3, true), some (4, 3, true)], 5, none⟩),
  (43, ⟨false, 1, 24, some 3, [], 4, none⟩),
  (44, ⟨false, 1, 24, some 153, [], 4, none⟩),
  (45, ⟨false, 1, 24, some 27, [], 4, none⟩),
  (46, ⟨true, 1, 24, none, [some (0, 1, false)], 5, none⟩),
  (47, ⟨true, 1, 24, none, [some (0, 1, false)], 5, none⟩),
  (48, ⟨true, 11, 128, none, [some (0, 1, false), some (1, 1, false), some (2, 1, false), some (3, 1, false), some (4, 1, false), some (5, 1, false), some (6, 1, false), some (7, 1, false), some (8, 1, false), some (9, 1, false), some (10, 1, true)], 5, none⟩),
  (49, ⟨true, 11, 128, none, [some (0, 1, false), some (1, 1, false), some (2, 1, false), some (3, 1, false), some (4, 1, false), some (5, 1, false), some (6, 1, false), some (7, 1, false), some (8, 1, false), some (9, 1, false), some (10, 1, true)], 5, none⟩),
  (52, ⟨false, 1, 24, some 156, [], 4, none⟩),
  (53, ⟨false, 1, 24, some 37, [], 4, none⟩),
  (54, ⟨true, 1, 24, none, [some (0, 1, false)], 5, none⟩),
  (55, ⟨true, 1, 24, none, [some (0, 1, false)], 5, none⟩),
  (56, ⟨true, 11, 128, none, [some (0, 1, false), some (1, 1, false), some (2, 1, false), some (3, 1, false), some (4, 1, false), some (5, 1, false), some (6, 1, false), some (7, 1, false), some (8, 1, false), some (9, 1, false), some (10, 1, true)], 5, none⟩),
  (57, ⟨true, 11, 128, none, [some (0, 1, false), some (1, 1, false), some (2, 1, false), some (3, 1, false), some (4, 1, false), some (5, 1, false), some (6, 1, false), some (7, 1, false), some (8, 1, false), some (9, 1, false), some (10, 1, true)], 5, none⟩),
  (61, ⟨false, 1, 24, some 49, [], 4, none⟩),
  (64, ⟨false, 1, 24, some 57, [], 4, none⟩),
  (74, ⟨false, 1, 24, some 47, [], 4, none⟩),
  (77, ⟨false, 1, 24, some 55, [], 4, none⟩),
  (81, ⟨true, 6, 128, none, [some (0, 1, false), some (1, 1, false), some (2, 1, false), some (3, 1, false), some (4, 1, false), some (5, 1, false)], 5, none⟩),
  (82, ⟨true, 6, 128, none, [some (0, 1, false), some (1, 1, false), some (2, 1, false), some (3, 1, false), some (4, 1, false), some (5, 1, false)], 5, none⟩),
  (85, ⟨true, 6, 128, none, [some (0, 1, false), some (1, 1, false), some (2, 1, false), some (3, 1, false), some (4, 1, false), some (5, 1, false)], 5, none⟩),
  (86, ⟨true, 6, 128, none, [some (0, 1, false), some (1, 1, false), some (2, 1, false), some (3, 1, false), some (4, 1, false), some (5, 1, false)], 5, none⟩),
  (91, ⟨true, 6, 80, none, [some (0, 3, true), some (3, 3, true)], 5, none⟩),
  (92, ⟨true, 6, 80, none, [some (0, 3, true), some (3, 3, true)], 5, none⟩),
  (95, ⟨true, 6, 80, none, [some (0, 3, true), some (3, 3, true)], 5, none⟩),
  (96, ⟨true, 6, 80, none, [some (0, 3, true), some (3, 3, true)], 5, none⟩),
  (109, ⟨true, 3, 32, none, [some (0, 1, false), some (1, 1, false), some (2, 1, false)], 5, none⟩),
  (110, ⟨true, 3, 32, none, [some (0, 1, false), some (1, 1, false), some (2, 1, false)], 5, none⟩),
  (113, ⟨true, 3, 32, none, [some (0, 1, false), some (1, 1, false), some (2, 1, false)], 5, none⟩),
  (120, ⟨false, 1, 24, some 9, [], 4, none⟩),
  (152, ⟨true, 4, 48, none, [some (0, 1, false), some (1, 3, true)], 5, none⟩),
  (153, ⟨true, 4, 48, none, [some (0, 1, false), some (1, 3, true)], 5, none⟩),
  (154, ⟨false, 1, 24, some 5, [], 4, none⟩),
  (155, ⟨true, 4, 48, none, [some (0, 1, false), some (1, 3, true)], 5, none⟩),
  (156, ⟨true, 4, 48, none, [some (0, 1, false), some (1, 3, true)], 5, none⟩),
  (160, ⟨true, 2, 32, none, [some (0, 1, false), some (1, 1, false)], 5, none⟩),
  (161, ⟨true, 2, 32, none, [some (0, 1, false), some (1, 1, false)], 5, none⟩),
  (173, ⟨false, 1, 24, some 43, [], 4, none⟩),
  (178, ⟨true, 2, 16, some 3, [], 12, none⟩),
  (179, ⟨false, 1, 24, some 178, [], 4, none⟩),
  (189, ⟨true, 4, 40, none, [some (0, 1, false), some (1, 1, false), some (2, 1, false), some (3, 1, false)], 5, none⟩),
  (190, ⟨true, 4, 40, none, [some (0, 1, false), some (1, 1, false), some (2, 1, false), some (3, 1, false)], 5, none⟩),
  (191, ⟨true, 0, 0, some 16, [], 10, none⟩),
  (192, ⟨true, 0, 0, none, [some (0, 0, true)], 5, none⟩),
  (193, ⟨true, 0, 0, none, [some (0, 0, true)], 5, none⟩),
  (195, ⟨false, 1, 4, none, [], 3, some .u32⟩),
  (196, ⟨false, 1, 1, none, [], 3, some .u8⟩),
  (197, ⟨false, 1, 1, none, [], 3, some .u8⟩),
  (199, ⟨false, 1, 4, none, [], 3, some .i32⟩),
  (200, ⟨false, 1, 4, none, [], 3, some .i32⟩),
  (201, ⟨true, 11, 48, none, [some (0, 1, false), some (1, 1, false), some (2, 1, false), some (3, 1, false), some (4, 1, false), some (5, 1, false), some (6, 1, false), some (7, 1, false), some (8, 1, false), some (9, 1, false), some (10, 1, false)], 5, none⟩),
  (202, ⟨true, 11, 48, none, [some (0, 1, false), some (1, 1, false), some (2, 1, false), some (3, 1, false), some (4, 1, false), some (5, 1, false), some (6, 1, false), some (7, 1, false), some (8, 1, false), some (9, 1, false), some (10, 1, false)], 5, none⟩)]
theorem tabOk : TabOk Try.prog tab := TabOk.of (by kernel_rfl)
theorem mixed : Try.prog.follows .mixedOrders = true := by kernel_rfl
theorem z2 : ZeroOk Try.prog 2 1 8 [.d (.int .i64 0)] := ZeroOk.of (zv := .int .i64 0) (by kernel_rfl) rfl rfl
theorem z3 : ZeroOk Try.prog 3 1 8 [.d (.int .i64 0)] := ZeroOk.of (zv := .int .i64 0) (by kernel_rfl) rfl rfl
theorem z4 : ZeroOk Try.prog 4 1 1 [.d (.bool false)] := ZeroOk.of (zv := .bool false) (by kernel_rfl) rfl rfl
theorem z5 : ZeroOk Try.prog 5 1 1 [.d (.int .u8 0)] := ZeroOk.of (zv := .int .u8 0) (by kernel_rfl) rfl rfl
theorem z6 : ZeroOk Try.prog 6 1 1 [.d (.int .u8 0)] := ZeroOk.of (zv := .int .u8 0) (by kernel_rfl) rfl rfl
theorem z7 : ZeroOk Try.prog 7 4 24 [.d (.int .i64 0), .d (.int .i64 0), .d (.bool false), .d (.int .u8 0)] := ZeroOk.of (zv := .agg #[(.int .i64 0), (.int .i64 0), (.bool false), (.int .u8 0)]) (by kernel_rfl) rfl rfl
theorem z8 : ZeroOk Try.prog 8 4 24 [.d (.int .i64 0), .d (.int .i64 0), .d (.bool false), .d (.int .u8 0)] := ZeroOk.of (zv := .agg #[(.int .i64 0), (.int .i64 0), (.bool false), (.int .u8 0)]) (by kernel_rfl) rfl rfl
theorem z9 : ZeroOk Try.prog 9 1 16 [.d (.str ⟨#[]⟩)] := ZeroOk.of (zv := .string ⟨#[]⟩) (by kernel_rfl) rfl rfl
theorem z10 : ZeroOk Try.prog 10 1 16 [.d (.str ⟨#[]⟩)] := ZeroOk.of (zv := .string ⟨#[]⟩) (by kernel_rfl) rfl rfl
theorem z11 : ZeroOk Try.prog 11 1 16 [.d (.str ⟨#[]⟩)] := ZeroOk.of (zv := .string ⟨#[]⟩) (by kernel_rfl) rfl rfl
theorem z12 : ZeroOk Try.prog 12 1 8 [.d (.int .u64 0)] := ZeroOk.of (zv := .int .u64 0) (by kernel_rfl) rfl rfl
theorem z13 : ZeroOk Try.prog 13 2 24 [.d (.str ⟨#[]⟩), .d (.int .u64 0)] := ZeroOk.of (zv := .agg #[(.string ⟨#[]⟩), (.int .u64 0)]) (by kernel_rfl) rfl rfl
theorem z14 : ZeroOk Try.prog 14 2 24 [.d (.str ⟨#[]⟩), .d (.int .u64 0)] := ZeroOk.of (zv := .agg #[(.string ⟨#[]⟩), (.int .u64 0)]) (by kernel_rfl) rfl rfl
theorem z21 : ZeroOk Try.prog 21 1 4 [.d (.int .i32 0)] := ZeroOk.of (zv := .int .i32 0) (by kernel_rfl) rfl rfl
theorem z22 : ZeroOk Try.prog 22 1 24 [.e0] := ZeroOk.of (zv := .slice none 0 0) (by kernel_rfl) rfl rfl
theorem z23 : ZeroOk Try.prog 23 1 24 [.e0] := ZeroOk.of (zv := .slice none 0 0) (by kernel_rfl) rfl rfl
theorem z24 : ZeroOk Try.prog 24 3 40 [.d (.int .i64 0), .d (.int .i64 0), .e0] := ZeroOk.of (zv := .agg #[(.int .i64 0), (.int .i64 0), (.slice none 0 0)]) (by kernel_rfl) rfl rfl
theorem z25 : ZeroOk Try.prog 25 3 40 [.d (.int .i64 0), .d (.int .i64 0), .e0] := ZeroOk.of (zv := .agg #[(.int .i64 0), (.int .i64 0), (.slice none 0 0)]) (by kernel_rfl) rfl rfl
theorem z26 : ZeroOk Try.prog 26 7 88 [.d (.bool false), .d (.int .i64 0), .d (.int .i64 0), .e0, .d (.int .i64 0), .d (.int .i64 0), .e0] := ZeroOk.of (zv := .agg #[(.bool false), (.int .i64 0), (.int .i64 0), (.slice none 0 0), (.int .i64 0), (.int .i64 0), (.slice none 0 0)]) (by kernel_rfl) rfl rfl
theorem z27 : ZeroOk Try.prog 27 7 88 [.d (.bool false), .d (.int .i64 0), .d (.int .i64 0), .e0, .d (.int .i64 0), .d (.int .i64 0), .e0] := ZeroOk.of (zv := .agg #[(.bool false), (.int .i64 0), (.int .i64 0), (.slice none 0 0), (.int .i64 0), (.int .i64 0), (.slice none 0 0)]) (by kernel_rfl) rfl rfl
theorem z31 : ZeroOk Try.prog 31 1 24 [.e0] := ZeroOk.of (zv := .slice none 0 0) (by kernel_rfl) rfl rfl
theorem z33 : ZeroOk Try.prog 33 1 24 [.e0] := ZeroOk.of (zv := .slice none 0 0) (by kernel_rfl) rfl rfl
theorem z34 : ZeroOk Try.prog 34 3 40 [.d (.int .i64 0), .d (.int .i64 0), .e0] := ZeroOk.of (zv := .agg #[(.int .i64 0), (.int .i64 0), (.slice none 0 0)]) (by kernel_rfl) rfl rfl
theorem z35 : ZeroOk Try.prog 35 3 40 [.d (.int .i64 0), .d (.int .i64 0), .e0] := ZeroOk.of (zv := .agg #[(.int .i64 0), (.int .i64 0), (.slice none 0 0)]) (by kernel_rfl) rfl rfl
theorem z36 : ZeroOk Try.prog 36 7 88 [.d (.bool false), .d (.int .i64 0), .d (.int .i64 0), .e0, .d (.int .i64 0), .d (.int .i64 0), .e0] := ZeroOk.of (zv := .agg #[(.bool false), (.int .i64 0), (.int .i64 0), (.slice none 0 0), (.int .i64 0), (.int .i64 0), (.slice none 0 0)]) (by kernel_rfl) rfl rfl
theorem z37 : ZeroOk Try.prog 37 7 88 [.d (.bool false), .d (.int .i64 0), .d (.int .i64 0), .e0, .d (.int .i64 0), .d (.int .i64 0), .e0] := ZeroOk.of (zv := .agg #[(.bool false), (.int .i64 0), (.int .i64 0), (.slice none 0 0), (.int .i64 0), (.int .i64 0), (.slice none 0 0)]) (by kernel_rfl) rfl rfl
theorem z43 : ZeroOk Try.prog 43 1 24 [.e0] := ZeroOk.of (zv := .slice none 0 0) (by kernel_rfl) rfl rfl
theorem z44 : ZeroOk Try.prog 44 1 24 [.e0] := ZeroOk.of (zv := .slice none 0 0) (by kernel_rfl) rfl rfl
theorem z45 : ZeroOk Try.prog 45 1 24 [.e0] := ZeroOk.of (zv := .slice none 0 0) (by kernel_rfl) rfl rfl
theorem z46 : ZeroOk Try.prog 46 1 24 [.e0] := ZeroOk.of (zv := .agg #[(.slice none 0 0)]) (by kernel_rfl) rfl rfl
theorem z47 : ZeroOk Try.prog 47 1 24 [.e0] := ZeroOk.of (zv := .agg #[(.slice none 0 0)]) (by kernel_rfl) rfl rfl
theorem z48 : ZeroOk Try.prog 48 11 128 [.d (.int .i64 0), .d (.int .i64 0), .d (.int .i64 0), .d (.int .i64 0), .d (.int .i64 0), .d (.bool false), .d (.bool false), .e0, .d (.bool false), .e0, .e0] := ZeroOk.of (zv := .agg #[(.int .i64 0), (.int .i64 0), (.int .i64 0), (.int .i64 0), (.int .i64 0), (.bool false), (.bool false), (.slice none 0 0), (.bool false), (.slice none 0 0), (.slice none 0 0)]) (by kernel_rfl) rfl rfl
theorem z49 : ZeroOk Try.prog 49 11 128 [.d (.int .i64 0), .d (.int .i64 0), .d (.int .i64 0), .d (.int .i64 0), .d (.int .i64 0), .d (.bool false), .d (.bool false), .e0, .d (.bool false), .e0, .e0] := ZeroOk.of (zv := .agg #[(.int .i64 0), (.int .i64 0), (.int .i64 0), (.int .i64 0), (.int .i64 0), (.bool false), (.bool false), (.slice none 0 0), (.bool false), (.slice none 0 0), (.slice none 0 0)]) (by kernel_rfl) rfl rfl
theorem z52 : ZeroOk Try.prog 52 1 24 [.e0] := ZeroOk.of (zv := .slice none 0 0) (by kernel_rfl) rfl rfl
theorem z53 : ZeroOk Try.prog 53 1 24 [.e0] := ZeroOk.of (zv := .slice none 0 0) (by kernel_rfl) rfl rfl
theorem z54 : ZeroOk Try.prog 54 1 24 [.e0] := ZeroOk.of (zv := .agg #[(.slice none 0 0)]) (by kernel_rfl) rfl rfl
theorem z55 : ZeroOk Try.prog 55 1 24 [.e0] := ZeroOk.of (zv := .agg #[(.slice none 0 0)]) (by kernel_rfl) rfl rfl
theorem z56 : ZeroOk Try.prog 56 11 128 [.d (.int .i64 0), .d (.int .i64 0), .d (.int .i64 0), .d (.int .i64 0), .d (.int .i64 0), .d (.bool false), .d (.bool false), .e0, .d (.bool false), .e0, .e0] := ZeroOk.of (zv := .agg #[(.int .i64 0), (.int .i64 0), (.int .i64 0), (.int .i64 0), (.int .i64 0), (.bool false), (.bool false), (.slice none 0 0), (.bool false), (.slice none 0 0), (.slice none 0 0)]) (by kernel_rfl) rfl rfl
theorem z57 : ZeroOk Try.prog 57 11 128 [.d (.int .i64 0), .d (.int .i64 0), .d (.int .i64 0), .d (.int .i64 0), .d (.int .i64 0), .d (.bool false), .d (.bool false), .e0, .d (.bool false), .e0, .e0] := ZeroOk.of (zv := .agg #[(.int .i64 0), (.int .i64 0), (.int .i64 0), (.int .i64 0), (.int .i64 0), (.bool false), (.bool false), (.slice none 0 0), (.bool false), (.slice none 0 0), (.slice none 0 0)]) (by kernel_rfl) rfl rfl
theorem z61 : ZeroOk Try.prog 61 1 24 [.e0] := ZeroOk.of (zv := .slice none 0 0) (by kernel_rfl) rfl rfl
theorem z64 : ZeroOk Try.prog 64 1 24 [.e0] := ZeroOk.of (zv := .slice none 0 0) (by kernel_rfl) rfl rfl
theorem z74 : ZeroOk Try.prog 74 1 24 [.e0] := ZeroOk.of (zv := .slice none 0 0) (by kernel_rfl) rfl rfl
theorem z77 : ZeroOk Try.prog 77 1 24 [.e0] := ZeroOk.of (zv := .slice none 0 0) (by kernel_rfl) rfl rfl
theorem z81 : ZeroOk Try.prog 81 6 128 [.e0, .e0, .e0, .e0, .e0, .d (.bool false)] := ZeroOk.of (zv := .agg #[(.slice none 0 0), (.slice none 0 0), (.slice none 0 0), (.slice none 0 0), (.slice none 0 0), (.bool false)]) (by kernel_rfl) rfl rfl
theorem z82 : ZeroOk Try.prog 82 6 128 [.e0, .e0, .e0, .e0, .e0, .d (.bool false)] := ZeroOk.of (zv := .agg #[(.slice none 0 0), (.slice none 0 0), (.slice none 0 0), (.slice none 0 0), (.slice none 0 0), (.bool false)]) (by kernel_rfl) rfl rfl
theorem z85 : ZeroOk Try.prog 85 6 128 [.e0, .e0, .e0, .e0, .e0, .d (.bool false)] := ZeroOk.of (zv := .agg #[(.slice none 0 0), (.slice none 0 0), (.slice none 0 0), (.slice none 0 0), (.slice none 0 0), (.bool false)]) (by kernel_rfl) rfl rfl
theorem z86 : ZeroOk Try.prog 86 6 128 [.e0, .e0, .e0, .e0, .e0, .d (.bool false)] := ZeroOk.of (zv := .agg #[(.slice none 0 0), (.slice none 0 0), (.slice none 0 0), (.slice none 0 0), (.slice none 0 0), (.bool false)]) (by kernel_rfl) rfl rfl
theorem z91 : ZeroOk Try.prog 91 6 80 [.d (.int .i64 0), .d (.int .i64 0), .e0, .d (.int .i64 0), .d (.int .i64 0), .e0] := ZeroOk.of (zv := .agg #[(.int .i64 0), (.int .i64 0), (.slice none 0 0), (.int .i64 0), (.int .i64 0), (.slice none 0 0)]) (by kernel_rfl) rfl rfl
theorem z92 : ZeroOk Try.prog 92 6 80 [.d (.int .i64 0), .d (.int .i64 0), .e0, .d (.int .i64 0), .d (.int .i64 0), .e0] := ZeroOk.of (zv := .agg #[(.int .i64 0), (.int .i64 0), (.slice none 0 0), (.int .i64 0), (.int .i64 0), (.slice none 0 0)]) (by kernel_rfl) rfl rfl
theorem z95 : ZeroOk Try.prog 95 6 80 [.d (.int .i64 0), .d (.int .i64 0), .e0, .d (.int .i64 0), .d (.int .i64 0), .e0] := ZeroOk.of (zv := .agg #[(.int .i64 0), (.int .i64 0), (.slice none 0 0), (.int .i64 0), (.int .i64 0), (.slice none 0 0)]) (by kernel_rfl) rfl rfl
theorem z96 : ZeroOk Try.prog 96 6 80 [.d (.int .i64 0), .d (.int .i64 0), .e0, .d (.int .i64 0), .d (.int .i64 0), .e0] := ZeroOk.of (zv := .agg #[(.int .i64 0), (.int .i64 0), (.slice none 0 0), (.int .i64 0), (.int .i64 0), (.slice none 0 0)]) (by kernel_rfl) rfl rfl
theorem z109 : ZeroOk Try.prog 109 3 32 [.d (.str ⟨#[]⟩), .d (.int .i64 0), .d (.bool false)] := ZeroOk.of (zv := .agg #[(.string ⟨#[]⟩), (.int .i64 0), (.bool false)]) (by kernel_rfl) rfl rfl
theorem z110 : ZeroOk Try.prog 110 3 32 [.d (.str ⟨#[]⟩), .d (.int .i64 0), .d (.bool false)] := ZeroOk.of (zv := .agg #[(.string ⟨#[]⟩), (.int .i64 0), (.bool false)]) (by kernel_rfl) rfl rfl
theorem z113 : ZeroOk Try.prog 113 3 32 [.d (.str ⟨#[]⟩), .d (.int .i64 0), .d (.bool false)] := ZeroOk.of (zv := .agg #[(.string ⟨#[]⟩), (.int .i64 0), (.bool false)]) (by kernel_rfl) rfl rfl
theorem z120 : ZeroOk Try.prog 120 1 24 [.e0] := ZeroOk.of (zv := .slice none 0 0) (by kernel_rfl) rfl rfl
theorem z152 : ZeroOk Try.prog 152 4 48 [.d (.int .i64 0), .d (.int .i64 0), .d (.int .i64 0), .e0] := ZeroOk.of (zv := .agg #[(.int .i64 0), (.int .i64 0), (.int .i64 0), (.slice none 0 0)]) (by kernel_rfl) rfl rfl
theorem z153 : ZeroOk Try.prog 153 4 48 [.d (.int .i64 0), .d (.int .i64 0), .d (.int .i64 0), .e0] := ZeroOk.of (zv := .agg #[(.int .i64 0), (.int .i64 0), (.int .i64 0), (.slice none 0 0)]) (by kernel_rfl) rfl rfl
theorem z154 : ZeroOk Try.prog 154 1 24 [.e0] := ZeroOk.of (zv := .slice none 0 0) (by kernel_rfl) rfl rfl
theorem z155 : ZeroOk Try.prog 155 4 48 [.d (.int .i64 0), .d (.int .i64 0), .d (.int .i64 0), .e0] := ZeroOk.of (zv := .agg #[(.int .i64 0), (.int .i64 0), (.int .i64 0), (.slice none 0 0)]) (by kernel_rfl) rfl rfl
theorem z156 : ZeroOk Try.prog 156 4 48 [.d (.int .i64 0), .d (.int .i64 0), .d (.int .i64 0), .e0] := ZeroOk.of (zv := .agg #[(.int .i64 0), (.int .i64 0), (.int .i64 0), (.slice none 0 0)]) (by kernel_rfl) rfl rfl
theorem z173 : ZeroOk Try.prog 173 1 24 [.e0] := ZeroOk.of (zv := .slice none 0 0) (by kernel_rfl) rfl rfl
theorem z178 : ZeroOk Try.prog 178 2 16 [.d (.int .i64 0), .d (.int .i64 0)] := ZeroOk.of (zv := .agg #[(.int .i64 0), (.int .i64 0)]) (by kernel_rfl) rfl rfl
theorem z179 : ZeroOk Try.prog 179 1 24 [.e0] := ZeroOk.of (zv := .slice none 0 0) (by kernel_rfl) rfl rfl
theorem z195 : ZeroOk Try.prog 195 1 4 [.d (.int .u32 0)] := ZeroOk.of (zv := .int .u32 0) (by kernel_rfl) rfl rfl
theorem z196 : ZeroOk Try.prog 196 1 1 [.d (.int .u8 0)] := ZeroOk.of (zv := .int .u8 0) (by kernel_rfl) rfl rfl
theorem z197 : ZeroOk Try.prog 197 1 1 [.d (.int .u8 0)] := ZeroOk.of (zv := .int .u8 0) (by kernel_rfl) rfl rfl
theorem z199 : ZeroOk Try.prog 199 1 4 [.d (.int .i32 0)] := ZeroOk.of (zv := .int .i32 0) (by kernel_rfl) rfl rfl
theorem z200 : ZeroOk Try.prog 200 1 4 [.d (.int .i32 0)] := ZeroOk.of (zv := .int .i32 0) (by kernel_rfl) rfl rfl
end AM
end Go.Proofs.Ytbgpofimflnabaa
