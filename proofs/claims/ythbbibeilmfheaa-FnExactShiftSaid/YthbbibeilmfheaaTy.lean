/- The types of this translation, as a table that Lean holds against the loaded program; no conditions. -/
import Derived.Test.YthbbibeilmfheaaAm9
import Derived.Test.YthbbibeilmfheaaProg
set_option linter.unusedVariables false
namespace Go.Proofs.Ythbbibeilmfheaa
namespace AM
open Go
def tab : List (Nat × TI) := [(2, ⟨false, 1, 8, none, [], 3, some .i64⟩),
  (3, ⟨false, 1, 8, none, [], 3, some .i64⟩),
  (4, ⟨false, 1, 1, none, [], 1, none⟩),
  (5, ⟨false, 1, 1, none, [], 3, some .u8⟩),
  (6, ⟨false, 1, 1, none, [], 3, some .u8⟩),
  (7, ⟨true, 4, 24, none, [some (0, 1, false), some (1, 1, false), some (2, 1, false), some (3, 1, false)], 5, none⟩),
  (8, ⟨true, 4, 24, none, [some (0, 1, false), some (1, 1, false), some (2, 1, false), some (3, 1, false)], 5, none⟩),
  (9, ⟨false, 1, 16, none, [], 2, none⟩),
  (10, ⟨false, 1, 16, none, [], 2, none⟩),
  (11, ⟨false, 1, 16, none, [], 2, none⟩),
  (12, ⟨false, 1, 8, none, [], 3, some .u64⟩),
  (13, ⟨true, 2, 24, none, [some (0, 1, false), some (1, 1, false)], 5, none⟩),
  (14, ⟨true, 2, 24, none, [some (0, 1, false), some (1, 1, false)], 5, none⟩),
  (18, ⟨true, 1, 8, none, [some (0, 1, false)], 5, none⟩),
  (19, ⟨true, 1, 8, none, [some (0, 1, false)], 5, none⟩),
  (21, ⟨false, 1, 4, none, [], 3, some .i32⟩),
  (22, ⟨false, 1, 24, some 114, [], 4, none⟩),
  (23, ⟨false, 1, 24, some 102, [], 4, none⟩),
  (24, ⟨true, 1, 24, none, [some (0, 1, false)], 5, none⟩),
  (25, ⟨true, 1, 24, none, [some (0, 1, false)], 5, none⟩),
  (28, ⟨false, 1, 24, some 90, [], 4, none⟩),
  (29, ⟨true, 1, 24, none, [some (0, 1, false)], 5, none⟩),
  (30, ⟨true, 1, 24, none, [some (0, 1, false)], 5, none⟩),
  (32, ⟨false, 1, 24, some 117, [], 4, none⟩),
  (40, ⟨false, 1, 24, some 42, [], 4, none⟩),
  (41, ⟨true, 3, 40, none, [some (0, 1, false), some (1, 1, false), some (2, 1, false)], 5, none⟩),
  (42, ⟨true, 3, 40, none, [some (0, 1, false), some (1, 1, false), some (2, 1, false)], 5, none⟩),
  (43, ⟨true, 6, 80, none, [some (0, 3, true), some (3, 3, true)], 5, none⟩),
  (44, ⟨true, 6, 80, none, [some (0, 3, true), some (3, 3, true)], 5, none⟩),
  (47, ⟨false, 1, 24, some 49, [], 4, none⟩),
  (48, ⟨true, 3, 40, none, [some (0, 1, false), some (1, 1, false), some (2, 1, false)], 5, none⟩),
  (49, ⟨true, 3, 40, none, [some (0, 1, false), some (1, 1, false), some (2, 1, false)], 5, none⟩),
  (50, ⟨true, 6, 80, none, [some (0, 3, true), some (3, 3, true)], 5, none⟩),
  (51, ⟨true, 6, 80, none, [some (0, 3, true), some (3, 3, true)], 5, none⟩),
  (55, ⟨false, 1, 24, some 3, [], 4, none⟩),
  (60, ⟨false, 1, 24, some 139, [], 4, none⟩),
  (63, ⟨false, 1, 24, some 142, [], 4, none⟩),
  (68, ⟨false, 1, 24, some 9, [], 4, none⟩),
  (75, ⟨false, 1, 24, some 55, [], 4, none⟩),
  (89, ⟨true, 7, 88, none, [some (0, 1, false), some (1, 3, true), some (4, 3, true)], 5, none⟩),
  (90, ⟨true, 7, 88, none, [some (0, 1, false), some (1, 3, true), some (4, 3, true)], 5, none⟩),
  (100, ⟨false, 1, 24, some 165, [], 4, none⟩),
  (101, ⟨true, 7, 88, none, [some (0, 1, false), some (1, 3, true), some (4, 3, true)], 5, none⟩),
  (102, ⟨true, 7, 88, none, [some (0, 1, false), some (1, 3, true), some (4, 3, true)], 5, none⟩),
  (106, ⟨false, 1, 24, some 168, [], 4, none⟩),
  (113, ⟨true, 3, 32, none, [some (0, 1, false), some (1, 1, false), some (2, 1, false)], 5, none⟩),
  (114, ⟨true, 3, 32, none, [some (0, 1, false), some (1, 1, false), some (2, 1, false)], 5, none⟩),
  (117, ⟨true, 3, 32, none, [some (0, 1, false), some (1, 1, false), some (2, 1, false)], 5, none⟩),
  (138, ⟨true, 11, 128, none, [some (0, 1, false), some (1, 1, false), some (2, 1, false), some (3, 1, false), some (4, 1, false), some (5, 1, false), some (6, 1, false), some (7, 1, false), some (8, 1, false), some (9, 1, false), some (10, 1, true)], 5, none⟩),
  (139, ⟨true, 11, 128, none, [some (0, 1, false), some (1, 1, false), some (2, 1, false), some (3, 1, false), some (4, 1, false), some (5, 1, false), some (6, 1, false), some (7, 1, false), some (8, 1, false), some (9, 1, false), some (10, 1, true)], 5, none⟩),
  (141, ⟨true, 11, 128, none, [some (0, 1, false), some (1, 1, false), some (2, 1, false), some (3, 1, false), some (4, 1, false), some (5, 1, false), some (6, 1, false), some (7, 1, false), some (8, 1, false), some (9, 1, false), some (10, 1, true)], 5, none⟩),
  (142, ⟨true, 11, 128, none, [some (0, 1, false), some (1, 1, false), some (2, 1, false), some (3, 1, false), some (4, 1, false), some (5, 1, false), some (6, 1, false), some (7, 1, false), some (8, 1, false), some (9, 1, false), some (10, 1, true)], 5, none⟩),
  (164, ⟨true, 4, 48, none, [some (0, 1, false), some (1, 3, true)], 5, none⟩),
  (165, ⟨true, 4, 48, none, [some (0, 1, false), some (1, 3, true)], 5, none⟩),
  (167, ⟨true, 4, 48, none, [some (0, 1, false), some (1, 3, true)], 5, none⟩),
  (168, ⟨true, 4, 48, none, [some (0, 1, false), some (1, 3, true)], 5, none⟩),
  (173, ⟨false, 1, 24, some 5, [], 4, none⟩),
  (188, ⟨true, 2, 16, some 3, [], 12, none⟩),
  (189, ⟨false, 1, 24, some 188, [], 4, none⟩),
  (200, ⟨false, 1, 8, none, [], 3, some .u64⟩),
  (202, ⟨true, 4, 40, none, [some (0, 1, false), some (1, 1, false), some (2, 1, false), some (3, 1, false)], 5, none⟩),
  (203, ⟨true, 4, 40, none, [some (0, 1, false), some (1, 1, false), some (2, 1, false), some (3, 1, false)], 5, none⟩),
  (204, ⟨true, 0, 0, some 16, [], 10, none⟩),
  (205, ⟨true, 0, 0, none, [some (0, 0, true)], 5, none⟩),
  (206, ⟨true, 0, 0, none, [some (0, 0, true)], 5, none⟩),
  (208, ⟨false, 1, 4, none, [], 3, some .u32⟩),
  (209, ⟨false, 1, 1, none, [], 3, some .u8⟩),
  (210, ⟨false, 1, 1, none, [], 3, some .u8⟩),
  (213, ⟨false, 1, 4, none, [], 3, some .i32⟩),
  (214, ⟨false, 1, 4, none, [], 3, some .i32⟩),
  (215, ⟨true, 11, 48, none, [some (0, 1, false), some (1, 1, false), some (2, 1, false), some (3, 1, false), some (4, 1, false), some (5, 1, false), some (6, 1, false), some (7, 1, false), some (8, 1, false), some (9, 1, false), some (10, 1, false)], 5, none⟩),
  (216, ⟨true, 11, 48, none, [some (0, 1, false), some (1, 1, false), some (2, 1, false), some (3, 1, false), some (4, 1, false), some (5, 1, false), some (6, 1, false), some (7, 1, false), some (8, 1, false), some (9, 1, false), some (10, 1, false)], 5, none⟩)]
theorem tabOk : TabOk Try.prog tab := TabOk.of (by kernel_rfl)
theorem mixed : Try.prog.follows .mixedOrders = true := by kernel_rfl
theorem z2 : ZeroOk Try.prog 2 1 8 [.d (.int .i64 0)] := ZeroOk.of (zv := .int .i64 0) (by kernel_rfl) rfl rfl
theorem z3 : ZeroOk Try.prog 3 1 8 [.d (.int .i64 0)] := ZeroOk.of (zv := .int .i64 0) (by kernel_rfl) rfl rfl
theorem z4 : ZeroOk Try.prog 4 1 1 [.d (.bool false)] := ZeroOk.of (zv := .bool false) (by kernel_rfl) rfl rfl
theorem z5 : ZeroOk Try.prog 5 1 1 [.d (.int .u8 0)] := ZeroOk.of (zv := .int .u8 0) (by kernel_rfl) rfl rfl
theorem z6 : ZeroOk Try.prog 6 1 1 [.d (.int .u8 0)] := ZeroOk.of (zv := .int .u8 0) (by kernel_rfl) rfl rfl
theorem z7 : ZeroOk Try.prog 7 4 24 [.d (.int .i64 0), .d (.int .i64 0), .d (.bool false), .d (.int .u8 0)] := ZeroOk.of (zv := .agg #[(.int .i64 0), (.int .i64 0), (.bool false), (.int .u8 0)]) (by kernel_rfl) rfl rfl
theorem z8 : ZeroOk Try.prog 8 4 24 [.d (.int .i64 0), .d (.int .i64 0), .d (.bool false), .d (.int .u8 0)] := ZeroOk.of (zv := .agg #[(.int .i64 0), (.int .i64 0), (.bool false), (.int .u8 0)]) (by kernel_rfl) rfl rfl
theorem z9 : ZeroOk Try.prog 9 1 16 [.d (.str ⟨#[]⟩)] := ZeroOk.of (zv := .string ⟨#[]⟩) (by kernel_rfl) rfl rfl
theorem z10 : ZeroOk Try.prog 10 1 16 [.d (.str ⟨#[]⟩)] := ZeroOk.of (zv := .string ⟨#[]⟩) (by kernel_rfl) rfl rfl
theorem z11 : ZeroOk Try.prog 11 1 16 [.d (.str ⟨#[]⟩)] := ZeroOk.of (zv := .string ⟨#[]⟩) (by kernel_rfl) rfl rfl
theorem z12 : ZeroOk Try.prog 12 1 8 [.d (.int .u64 0)] := ZeroOk.of (zv := .int .u64 0) (by kernel_rfl) rfl rfl
theorem z13 : ZeroOk Try.prog 13 2 24 [.d (.str ⟨#[]⟩), .d (.int .u64 0)] := ZeroOk.of (zv := .agg #[(.string ⟨#[]⟩), (.int .u64 0)]) (by kernel_rfl) rfl rfl
theorem z14 : ZeroOk Try.prog 14 2 24 [.d (.str ⟨#[]⟩), .d (.int .u64 0)] := ZeroOk.of (zv := .agg #[(.string ⟨#[]⟩), (.int .u64 0)]) (by kernel_rfl) rfl rfl
theorem z21 : ZeroOk Try.prog 21 1 4 [.d (.int .i32 0)] := ZeroOk.of (zv := .int .i32 0) (by kernel_rfl) rfl rfl
theorem z22 : ZeroOk Try.prog 22 1 24 [.e0] := ZeroOk.of (zv := .slice none 0 0) (by kernel_rfl) rfl rfl
theorem z23 : ZeroOk Try.prog 23 1 24 [.e0] := ZeroOk.of (zv := .slice none 0 0) (by kernel_rfl) rfl rfl
theorem z24 : ZeroOk Try.prog 24 1 24 [.e0] := ZeroOk.of (zv := .agg #[(.slice none 0 0)]) (by kernel_rfl) rfl rfl
theorem z25 : ZeroOk Try.prog 25 1 24 [.e0] := ZeroOk.of (zv := .agg #[(.slice none 0 0)]) (by kernel_rfl) rfl rfl
theorem z28 : ZeroOk Try.prog 28 1 24 [.e0] := ZeroOk.of (zv := .slice none 0 0) (by kernel_rfl) rfl rfl
theorem z29 : ZeroOk Try.prog 29 1 24 [.e0] := ZeroOk.of (zv := .agg #[(.slice none 0 0)]) (by kernel_rfl) rfl rfl
theorem z30 : ZeroOk Try.prog 30 1 24 [.e0] := ZeroOk.of (zv := .agg #[(.slice none 0 0)]) (by kernel_rfl) rfl rfl
theorem z32 : ZeroOk Try.prog 32 1 24 [.e0] := ZeroOk.of (zv := .slice none 0 0) (by kernel_rfl) rfl rfl
theorem z40 : ZeroOk Try.prog 40 1 24 [.e0] := ZeroOk.of (zv := .slice none 0 0) (by kernel_rfl) rfl rfl
theorem z41 : ZeroOk Try.prog 41 3 40 [.d (.int .i64 0), .d (.int .i64 0), .e0] := ZeroOk.of (zv := .agg #[(.int .i64 0), (.int .i64 0), (.slice none 0 0)]) (by kernel_rfl) rfl rfl
theorem z42 : ZeroOk Try.prog 42 3 40 [.d (.int .i64 0), .d (.int .i64 0), .e0] := ZeroOk.of (zv := .agg #[(.int .i64 0), (.int .i64 0), (.slice none 0 0)]) (by kernel_rfl) rfl rfl
theorem z43 : ZeroOk Try.prog 43 6 80 [.d (.int .i64 0), .d (.int .i64 0), .e0, .d (.int .i64 0), .d (.int .i64 0), .e0] := ZeroOk.of (zv := .agg #[(.int .i64 0), (.int .i64 0), (.slice none 0 0), (.int .i64 0), (.int .i64 0), (.slice none 0 0)]) (by kernel_rfl) rfl rfl
theorem z44 : ZeroOk Try.prog 44 6 80 [.d (.int .i64 0), .d (.int .i64 0), .e0, .d (.int .i64 0), .d (.int .i64 0), .e0] := ZeroOk.of (zv := .agg #[(.int .i64 0), (.int .i64 0), (.slice none 0 0), (.int .i64 0), (.int .i64 0), (.slice none 0 0)]) (by kernel_rfl) rfl rfl
theorem z47 : ZeroOk Try.prog 47 1 24 [.e0] := ZeroOk.of (zv := .slice none 0 0) (by kernel_rfl) rfl rfl
theorem z48 : ZeroOk Try.prog 48 3 40 [.d (.int .i64 0), .d (.int .i64 0), .e0] := ZeroOk.of (zv := .agg #[(.int .i64 0), (.int .i64 0), (.slice none 0 0)]) (by kernel_rfl) rfl rfl
theorem z49 : ZeroOk Try.prog 49 3 40 [.d (.int .i64 0), .d (.int .i64 0), .e0] := ZeroOk.of (zv := .agg #[(.int .i64 0), (.int .i64 0), (.slice none 0 0)]) (by kernel_rfl) rfl rfl
theorem z50 : ZeroOk Try.prog 50 6 80 [.d (.int .i64 0), .d (.int .i64 0), .e0, .d (.int .i64 0), .d (.int .i64 0), .e0] := ZeroOk.of (zv := .agg #[(.int .i64 0), (.int .i64 0), (.slice none 0 0), (.int .i64 0), (.int .i64 0), (.slice none 0 0)]) (by kernel_rfl) rfl rfl
theorem z51 : ZeroOk Try.prog 51 6 80 [.d (.int .i64 0), .d (.int .i64 0), .e0, .d (.int .i64 0), .d (.int .i64 0), .e0] := ZeroOk.of (zv := .agg #[(.int .i64 0), (.int .i64 0), (.slice none 0 0), (.int .i64 0), (.int .i64 0), (.slice none 0 0)]) (by kernel_rfl) rfl rfl
theorem z55 : ZeroOk Try.prog 55 1 24 [.e0] := ZeroOk.of (zv := .slice none 0 0) (by kernel_rfl) rfl rfl
theorem z60 : ZeroOk Try.prog 60 1 24 [.e0] := ZeroOk.of (zv := .slice none 0 0) (by kernel_rfl) rfl rfl
theorem z63 : ZeroOk Try.prog 63 1 24 [.e0] := ZeroOk.of (zv := .slice none 0 0) (by kernel_rfl) rfl rfl
theorem z68 : ZeroOk Try.prog 68 1 24 [.e0] := ZeroOk.of (zv := .slice none 0 0) (by kernel_rfl) rfl rfl
theorem z75 : ZeroOk Try.prog 75 1 24 [.e0] := ZeroOk.of (zv := .slice none 0 0) (by kernel_rfl) rfl rfl
theorem z89 : ZeroOk Try.prog 89 7 88 [.d (.bool false), .d (.int .i64 0), .d (.int .i64 0), .e0, .d (.int .i64 0), .d (.int .i64 0), .e0] := ZeroOk.of (zv := .agg #[(.bool false), (.int .i64 0), (.int .i64 0), (.slice none 0 0), (.int .i64 0), (.int .i64 0), (.slice none 0 0)]) (by kernel_rfl) rfl rfl
theorem z90 : ZeroOk Try.prog 90 7 88 [.d (.bool false), .d (.int .i64 0), .d (.int .i64 0), .e0, .d (.int .i64 0), .d (.int .i64 0), .e0] := ZeroOk.of (zv := .agg #[(.bool false), (.int .i64 0), (.int .i64 0), (.slice none 0 0), (.int .i64 0), (.int .i64 0), (.slice none 0 0)]) (by kernel_rfl) rfl rfl
theorem z100 : ZeroOk Try.prog 100 1 24 [.e0] := ZeroOk.of (zv := .slice none 0 0) (by kernel_rfl) rfl rfl
theorem z101 : ZeroOk Try.prog 101 7 88 [.d (.bool false), .d (.int .i64 0), .d (.int .i64 0), .e0, .d (.int .i64 0), .d (.int .i64 0), .e0] := ZeroOk.of (zv := .agg #[(.bool false), (.int .i64 0), (.int .i64 0), (.slice none 0 0), (.int .i64 0), (.int .i64 0), (.slice none 0 0)]) (by kernel_rfl) rfl rfl
theorem z102 : ZeroOk Try.prog 102 7 88 [.d (.bool false), .d (.int .i64 0), .d (.int .i64 0), .e0, .d (.int .i64 0), .d (.int .i64 0), .e0] := ZeroOk.of (zv := .agg #[(.bool false), (.int .i64 0), (.int .i64 0), (.slice none 0 0), (.int .i64 0), (.int .i64 0), (.slice none 0 0)]) (by kernel_rfl) rfl rfl
theorem z106 : ZeroOk Try.prog 106 1 24 [.e0] := ZeroOk.of (zv := .slice none 0 0) (by kernel_rfl) rfl rfl
theorem z113 : ZeroOk Try.prog 113 3 32 [.d (.str ⟨#[]⟩), .d (.int .i64 0), .d (.bool false)] := ZeroOk.of (zv := .agg #[(.string ⟨#[]⟩), (.int .i64 0), (.bool false)]) (by kernel_rfl) rfl rfl
theorem z114 : ZeroOk Try.prog 114 3 32 [.d (.str ⟨#[]⟩), .d (.int .i64 0), .d (.bool false)] := ZeroOk.of (zv := .agg #[(.string ⟨#[]⟩), (.int .i64 0), (.bool false)]) (by kernel_rfl) rfl rfl
theorem z117 : ZeroOk Try.prog 117 3 32 [.d (.str ⟨#[]⟩), .d (.int .i64 0), .d (.bool false)] := ZeroOk.of (zv := .agg #[(.string ⟨#[]⟩), (.int .i64 0), (.bool false)]) (by kernel_rfl) rfl rfl
theorem z138 : ZeroOk Try.prog 138 11 128 [.d (.int .i64 0), .d (.int .i64 0), .d (.int .i64 0), .d (.int .i64 0), .d (.int .i64 0), .d (.bool false), .d (.bool false), .e0, .d (.bool false), .e0, .e0] := ZeroOk.of (zv := .agg #[(.int .i64 0), (.int .i64 0), (.int .i64 0), (.int .i64 0), (.int .i64 0), (.bool false), (.bool false), (.slice none 0 0), (.bool false), (.slice none 0 0), (.slice none 0 0)]) (by kernel_rfl) rfl rfl
theorem z139 : ZeroOk Try.prog 139 11 128 [.d (.int .i64 0), .d (.int .i64 0), .d (.int .i64 0), .d (.int .i64 0), .d (.int .i64 0), .d (.bool false), .d (.bool false), .e0, .d (.bool false), .e0, .e0] := ZeroOk.of (zv := .agg #[(.int .i64 0), (.int .i64 0), (.int .i64 0), (.int .i64 0), (.int .i64 0), (.bool false), (.bool false), (.slice none 0 0), (.bool false), (.slice none 0 0), (.slice none 0 0)]) (by kernel_rfl) rfl rfl
theorem z141 : ZeroOk Try.prog 141 11 128 [.d (.int .i64 0), .d (.int .i64 0), .d (.int .i64 0), .d (.int .i64 0), .d (.int .i64 0), .d (.bool false), .d (.bool false), .e0, .d (.bool false), .e0, .e0] := ZeroOk.of (zv := .agg #[(.int .i64 0), (.int .i64 0), (.int .i64 0), (.int .i64 0), (.int .i64 0), (.bool false), (.bool false), (.slice none 0 0), (.bool false), (.slice none 0 0), (.slice none 0 0)]) (by kernel_rfl) rfl rfl
theorem z142 : ZeroOk Try.prog 142 11 128 [.d (.int .i64 0), .d (.int .i64 0), .d (.int .i64 0), .d (.int .i64 0), .d (.int .i64 0), .d (.bool false), .d (.bool false), .e0, .d (.bool false), .e0, .e0] := ZeroOk.of (zv := .agg #[(.int .i64 0), (.int .i64 0), (.int .i64 0), (.int .i64 0), (.int .i64 0), (.bool false), (.bool false), (.slice none 0 0), (.bool false), (.slice none 0 0), (.slice none 0 0)]) (by kernel_rfl) rfl rfl
theorem z164 : ZeroOk Try.prog 164 4 48 [.d (.int .i64 0), .d (.int .i64 0), .d (.int .i64 0), .e0] := ZeroOk.of (zv := .agg #[(.int .i64 0), (.int .i64 0), (.int .i64 0), (.slice none 0 0)]) (by kernel_rfl) rfl rfl
theorem z165 : ZeroOk Try.prog 165 4 48 [.d (.int .i64 0), .d (.int .i64 0), .d (.int .i64 0), .e0] := ZeroOk.of (zv := .agg #[(.int .i64 0), (.int .i64 0), (.int .i64 0), (.slice none 0 0)]) (by kernel_rfl) rfl rfl
theorem z167 : ZeroOk Try.prog 167 4 48 [.d (.int .i64 0), .d (.int .i64 0), .d (.int .i64 0), .e0] := ZeroOk.of (zv := .agg #[(.int .i64 0), (.int .i64 0), (.int .i64 0), (.slice none 0 0)]) (by kernel_rfl) rfl rfl
theorem z168 : ZeroOk Try.prog 168 4 48 [.d (.int .i64 0), .d (.int .i64 0), .d (.int .i64 0), .e0] := ZeroOk.of (zv := .agg #[(.int .i64 0), (.int .i64 0), (.int .i64 0), (.slice none 0 0)]) (by kernel_rfl) rfl rfl
theorem z173 : ZeroOk Try.prog 173 1 24 [.e0] := ZeroOk.of (zv := .slice none 0 0) (by kernel_rfl) rfl rfl
theorem z188 : ZeroOk Try.prog 188 2 16 [.d (.int .i64 0), .d (.int .i64 0)] := ZeroOk.of (zv := .agg #[(.int .i64 0), (.int .i64 0)]) (by kernel_rfl) rfl rfl
theorem z189 : ZeroOk Try.prog 189 1 24 [.e0] := ZeroOk.of (zv := .slice none 0 0) (by kernel_rfl) rfl rfl
theorem z200 : ZeroOk Try.prog 200 1 8 [.d (.int .u64 0)] := ZeroOk.of (zv := .int .u64 0) (by kernel_rfl) rfl rfl
theorem z208 : ZeroOk Try.prog 208 1 4 [.d (.int .u32 0)] := ZeroOk.of (zv := .int .u32 0) (by kernel_rfl) rfl rfl
theorem z209 : ZeroOk Try.prog 209 1 1 [.d (.int .u8 0)] := ZeroOk.of (zv := .int .u8 0) (by kernel_rfl) rfl rfl
theorem z210 : ZeroOk Try.prog 210 1 1 [.d (.int .u8 0)] := ZeroOk.of (zv := .int .u8 0) (by kernel_rfl) rfl rfl
theorem z213 : ZeroOk Try.prog 213 1 4 [.d (.int .i32 0)] := ZeroOk.of (zv := .int .i32 0) (by kernel_rfl) rfl rfl
theorem z214 : ZeroOk Try.prog 214 1 4 [.d (.int .i32 0)] := ZeroOk.of (zv := .int .i32 0) (by kernel_rfl) rfl rfl
end AM
end Go.Proofs.Ythbbibeilmfheaa
