/- The types of this translation, as a table that Lean holds against the loaded program; no conditions. -/
import Derived.Test.YtflfopedammhoaaAm9
import Derived.Test.YtflfopedammhoaaProg
set_option linter.unusedVariables false
namespace Go.Proofs.Ytflfopedammhoaa
namespace AM
open Go
def tab : List (Nat × TI) := [(2, ⟨false, 1, 8, none, [], 3, some .i64⟩),
  (3, ⟨false, 1, 8, none, [], 3, some .i64⟩),
  (4, ⟨false, 1, 1, none, [], 1, none⟩),
  (5, ⟨false, 1, 1, none, [], 3, some .u8⟩),
  (6, ⟨false, 1, 1, none, [], 3, some .u8⟩),
  (7, ⟨true, 4, 24, none, [some (0, 1, false), some (1, 1, false), some (2, 1, false), some (3, 1, false)], 5, none⟩),
  (8, ⟨true, 4, 24, none, [some (0, 1, false), some (1, 1, false), some (2, 1, false), some (3, 1, false)], 5, none⟩),
  (9, ⟨false, 1, 16, none, [], 2, none⟩),
  (10, ⟨false, 1, 16, none, [], 2, none⟩),
  (11, ⟨false, 1, 16, none, [], 2, none⟩),
  (12, ⟨false, 1, 8, none, [], 3, some .u64⟩),
  (13, ⟨true, 2, 24, none, [some (0, 1, false), some (1, 1, false)], 5, none⟩),
  (14, ⟨true, 2, 24, none, [some (0, 1, false), some (1, 1, false)], 5, none⟩),
  (18, ⟨true, 1, 8, none, [some (0, 1, false)], 5, none⟩),
  (19, ⟨true, 1, 8, none, [some (0, 1, false)], 5, none⟩),
  (21, ⟨false, 1, 4, none, [], 3, some .i32⟩),
  (22, ⟨false, 1, 24, some 24, [], 4, none⟩),
  (23, ⟨true, 3, 40, none, [some (0, 1, false), some (1, 1, false), some (2, 1, false)], 5, none⟩),
  (24, ⟨true, 3, 40, none, [some (0, 1, false), some (1, 1, false), some (2, 1, false)], 5, none⟩),
  (26, ⟨false, 1, 24, some 55, [], 4, none⟩),
  (28, ⟨false, 1, 24, some 30, [], 4, none⟩),
  (29, ⟨true, 3, 40, none, [some (0, 1, false), some (1, 1, false), some (2, 1, false)], 5, none⟩),
  (30, ⟨true, 3, 40, none, [some (0, 1, false), some (1, 1, false), some (2, 1, false)], 5, none⟩),
  (37, ⟨false, 1, 24, some 117, [], 4, none⟩),
  (38, ⟨false, 1, 24, some 83, [], 4, none⟩),
  (39, ⟨true, 1, 24, none, [some (0, 1, false)], 5, none⟩),
  (40, ⟨true, 1, 24, none, [some (0, 1, false)], 5, none⟩),
  (43, ⟨false, 1, 24, some 61, [], 4, none⟩),
  (44, ⟨true, 1, 24, none, [some (0, 1, false)], 5, none⟩),
  (45, ⟨true, 1, 24, none, [some (0, 1, false)], 5, none⟩),
  (47, ⟨false, 1, 24, some 119, [], 4, none⟩),
  (55, ⟨false, 1, 24, some 3, [], 4, none⟩),
  (60, ⟨true, 7, 88, none, [some (0, 1, false), some (1, 3, true), some (4, 3, true)], 5, none⟩),
  (61, ⟨true, 7, 88, none, [some (0, 1, false), some (1, 3, true), some (4, 3, true)], 5, none⟩),
  (69, ⟨true, 6, 80, none, [some (0, 3, true), some (3, 3, true)], 5, none⟩),
  (70, ⟨true, 6, 80, none, [some (0, 3, true), some (3, 3, true)], 5, none⟩),
  (72, ⟨true, 6, 80, none, [some (0, 3, true), some (3, 3, true)], 5, none⟩),
  (73, ⟨true, 6, 80, none, [some (0, 3, true), some (3, 3, true)], 5, none⟩),
  (81, ⟨false, 1, 24, some 146, [], 4, none⟩),
  (82, ⟨true, 7, 88, none, [some (0, 1, false), some (1, 3, true), some (4, 3, true)], 5, none⟩),
  (83, ⟨true, 7, 88, none, [some (0, 1, false), some (1, 3, true), some (4, 3, true)], 5, none⟩),
  (87, ⟨false, 1, 24, some 149, [], 4, none⟩),
  (99, ⟨false, 1, 24, some 157, [], 4, none⟩),
  (102, ⟨false, 1, 24, some 160, [], 4, none⟩),
  (116, ⟨true, 3, 32, none, [some (0, 1, false), some (1, 1, false), some (2, 1, false)], 5, none⟩),
  (117, ⟨true, 3, 32, none, [some (0, 1, false), some (1, 1, false), some (2, 1, false)], 5, none⟩),
  (119, ⟨true, 3, 32, none, [some (0, 1, false), some (1, 1, false), some (2, 1, false)], 5, none⟩),
  (145, ⟨true, 4, 48, none, [some (0, 1, false), some (1, 3, true)], 5, none⟩),
  (146, ⟨true, 4, 48, none, [some (0, 1, false), some (1, 3, true)], 5, none⟩),
  (148, ⟨true, 4, 48, none, [some (0, 1, false), some (1, 3, true)], 5, none⟩),
  (149, ⟨true, 4, 48, none, [some (0, 1, false), some (1, 3, true)], 5, none⟩),
  (156, ⟨true, 11, 128, none, [some (0, 1, false), some (1, 1, false), some (2, 1, false), some (3, 1, false), some (4, 1, false), some (5, 1, false), some (6, 1, false), some (7, 1, false), some (8, 1, false), some (9, 1, false), some (10, 1, true)], 5, none⟩),
  (157, ⟨true, 11, 128, none, [some (0, 1, false), some (1, 1, false), some (2, 1, false), some (3, 1, false), some (4, 1, false), some (5, 1, false), some (6, 1, false), some (7, 1, false), some (8, 1, false), some (9, 1, false), some (10, 1, true)], 5, none⟩),
  (159, ⟨true, 11, 128, none, [some (0, 1, false), some (1, 1, false), some (2, 1, false), some (3, 1, false), some (4, 1, false), some (5, 1, false), some (6, 1, false), some (7, 1, false), some (8, 1, false), some (9, 1, false), some (10, 1, true)], 5, none⟩),
  (160, ⟨true, 11, 128, none, [some (0, 1, false), some (1, 1, false), some (2, 1, false), some (3, 1, false), some (4, 1, false), some (5, 1, false), some (6, 1, false), some (7, 1, false), some (8, 1, false), some (9, 1, false), some (10, 1, true)], 5, none⟩),
  (168, ⟨false, 1, 24, some 5, [], 4, none⟩),
  (184, ⟨true, 2, 16, some 3, [], 12, none⟩),
  (185, ⟨false, 1, 24, some 184, [], 4, none⟩),
  (199, ⟨false, 1, 8, none, [], 3, some .u64⟩),
  (202, ⟨true, 4, 40, none, [some (0, 1, false), some (1, 1, false), some (2, 1, false), some (3, 1, false)], 5, none⟩),
  (203, ⟨true, 4, 40, none, [some (0, 1, false), some (1, 1, false), some (2, 1, false), some (3, 1, false)], 5, none⟩),
  (204, ⟨true, 0, 0, some 16, [], 10, none⟩),
  (205, ⟨true, 0, 0, none, [some (0, 0, true)], 5, none⟩),
  (206, ⟨true, 0, 0, none, [some (0, 0, true)], 5, none⟩),
  (208, ⟨false, 1, 4, none, [], 3, some .u32⟩),
  (209, ⟨false, 1, 1, none, [], 3, some .u8⟩),
  (210, ⟨false, 1, 1, none, [], 3, some .u8⟩),
  (213, ⟨false, 1, 4, none, [], 3, some .i32⟩),
  (214, ⟨false, 1, 4, none, [], 3, some .i32⟩),
  (215, ⟨true, 11, 48, none, [some (0, 1, false), some (1, 1, false), some (2, 1, false), some (3, 1, false), some (4, 1, false), some (5, 1, false), some (6, 1, false), some (7, 1, false), some (8, 1, false), some (9, 1, false), some (10, 1, false)], 5, none⟩),
  (216, ⟨true, 11, 48, none, [some (0, 1, false), some (1, 1, false), some (2, 1, false), some (3, 1, false), some (4, 1, false), some (5, 1, false), some (6, 1, false), some (7, 1, false), some (8, 1, false), some (9, 1, false), some (10, 1, false)], 5, none⟩)]
theorem tabOk : TabOk Try.prog tab := TabOk.of (by kernel_rfl)
theorem mixed : Try.prog.follows .mixedOrders = true := by kernel_rfl
theorem z2 : ZeroOk Try.prog 2 1 8 [.d (.int .i64 0)] := ZeroOk.of (zv := .int .i64 0) (by kernel_rfl) rfl rfl
theorem z3 : ZeroOk Try.prog 3 1 8 [.d (.int .i64 0)] := ZeroOk.of (zv := .int .i64 0) (by kernel_rfl) rfl rfl
theorem z4 : ZeroOk Try.prog 4 1 1 [.d (.bool false)] := ZeroOk.of (zv := .bool false) (by kernel_rfl) rfl rfl
theorem z5 : ZeroOk Try.prog 5 1 1 [.d (.int .u8 0)] := ZeroOk.of (zv := .int .u8 0) (by kernel_rfl) rfl rfl
theorem z6 : ZeroOk Try.prog 6 1 1 [.d (.int .u8 0)] := ZeroOk.of (zv := .int .u8 0) (by kernel_rfl) rfl rfl
theorem z7 : ZeroOk Try.prog 7 4 24 [.d (.int .i64 0), .d (.int .i64 0), .d (.bool false), .d (.int .u8 0)] := ZeroOk.of (zv := .agg #[(.int .i64 0), (.int .i64 0), (.bool false), (.int .u8 0)]) (by kernel_rfl) rfl rfl
theorem z8 : ZeroOk Try.prog 8 4 24 [.d (.int .i64 0), .d (.int .i64 0), .d (.bool false), .d (.int .u8 0)] := ZeroOk.of (zv := .agg #[(.int .i64 0), (.int .i64 0), (.bool false), (.int .u8 0)]) (by kernel_rfl) rfl rfl
theorem z9 : ZeroOk Try.prog 9 1 16 [.d (.str ⟨#[]⟩)] := ZeroOk.of (zv := .string ⟨#[]⟩) (by kernel_rfl) rfl rfl
theorem z10 : ZeroOk Try.prog 10 1 16 [.d (.str ⟨#[]⟩)] := ZeroOk.of (zv := .string ⟨#[]⟩) (by kernel_rfl) rfl rfl
theorem z11 : ZeroOk Try.prog 11 1 16 [.d (.str ⟨#[]⟩)] := ZeroOk.of (zv := .string ⟨#[]⟩) (by kernel_rfl) rfl rfl
theorem z12 : ZeroOk Try.prog 12 1 8 [.d (.int .u64 0)] := ZeroOk.of (zv := .int .u64 0) (by kernel_rfl) rfl rfl
theorem z13 : ZeroOk Try.prog 13 2 24 [.d (.str ⟨#[]⟩), .d (.int .u64 0)] := ZeroOk.of (zv := .agg #[(.string ⟨#[]⟩), (.int .u64 0)]) (by kernel_rfl) rfl rfl
theorem z14 : ZeroOk Try.prog 14 2 24 [.d (.str ⟨#[]⟩), .d (.int .u64 0)] := ZeroOk.of (zv := .agg #[(.string ⟨#[]⟩), (.int .u64 0)]) (by kernel_rfl) rfl rfl
theorem z21 : ZeroOk Try.prog 21 1 4 [.d (.int .i32 0)] := ZeroOk.of (zv := .int .i32 0) (by kernel_rfl) rfl rfl
theorem z22 : ZeroOk Try.prog 22 1 24 [.e0] := ZeroOk.of (zv := .slice none 0 0) (by kernel_rfl) rfl rfl
theorem z23 : ZeroOk Try.prog 23 3 40 [.d (.int .i64 0), .d (.int .i64 0), .e0] := ZeroOk.of (zv := .agg #[(.int .i64 0), (.int .i64 0), (.slice none 0 0)]) (by kernel_rfl) rfl rfl
theorem z24 : ZeroOk Try.prog 24 3 40 [.d (.int .i64 0), .d (.int .i64 0), .e0] := ZeroOk.of (zv := .agg #[(.int .i64 0), (.int .i64 0), (.slice none 0 0)]) (by kernel_rfl) rfl rfl
theorem z26 : ZeroOk Try.prog 26 1 24 [.e0] := ZeroOk.of (zv := .slice none 0 0) (by kernel_rfl) rfl rfl
theorem z28 : ZeroOk Try.prog 28 1 24 [.e0] := ZeroOk.of (zv := .slice none 0 0) (by kernel_rfl) rfl rfl
theorem z29 : ZeroOk Try.prog 29 3 40 [.d (.int .i64 0), .d (.int .i64 0), .e0] := ZeroOk.of (zv := .agg #[(.int .i64 0), (.int .i64 0), (.slice none 0 0)]) (by kernel_rfl) rfl rfl
theorem z30 : ZeroOk Try.prog 30 3 40 [.d (.int .i64 0), .d (.int .i64 0), .e0] := ZeroOk.of (zv := .agg #[(.int .i64 0), (.int .i64 0), (.slice none 0 0)]) (by kernel_rfl) rfl rfl
theorem z37 : ZeroOk Try.prog 37 1 24 [.e0] := ZeroOk.of (zv := .slice none 0 0) (by kernel_rfl) rfl rfl
theorem z38 : ZeroOk Try.prog 38 1 24 [.e0] := ZeroOk.of (zv := .slice none 0 0) (by kernel_rfl) rfl rfl
theorem z39 : ZeroOk Try.prog 39 1 24 [.e0] := ZeroOk.of (zv := .agg #[(.slice none 0 0)]) (by kernel_rfl) rfl rfl
theorem z40 : ZeroOk Try.prog 40 1 24 [.e0] := ZeroOk.of (zv := .agg #[(.slice none 0 0)]) (by kernel_rfl) rfl rfl
theorem z43 : ZeroOk Try.prog 43 1 24 [.e0] := ZeroOk.of (zv := .slice none 0 0) (by kernel_rfl) rfl rfl
theorem z44 : ZeroOk Try.prog 44 1 24 [.e0] := ZeroOk.of (zv := .agg #[(.slice none 0 0)]) (by kernel_rfl) rfl rfl
theorem z45 : ZeroOk Try.prog 45 1 24 [.e0] := ZeroOk.of (zv := .agg #[(.slice none 0 0)]) (by kernel_rfl) rfl rfl
theorem z47 : ZeroOk Try.prog 47 1 24 [.e0] := ZeroOk.of (zv := .slice none 0 0) (by kernel_rfl) rfl rfl
theorem z55 : ZeroOk Try.prog 55 1 24 [.e0] := ZeroOk.of (zv := .slice none 0 0) (by kernel_rfl) rfl rfl
theorem z60 : ZeroOk Try.prog 60 7 88 [.d (.bool false), .d (.int .i64 0), .d (.int .i64 0), .e0, .d (.int .i64 0), .d (.int .i64 0), .e0] := ZeroOk.of (zv := .agg #[(.bool false), (.int .i64 0), (.int .i64 0), (.slice none 0 0), (.int .i64 0), (.int .i64 0), (.slice none 0 0)]) (by kernel_rfl) rfl rfl
theorem z61 : ZeroOk Try.prog 61 7 88 [.d (.bool false), .d (.int .i64 0), .d (.int .i64 0), .e0, .d (.int .i64 0), .d (.int .i64 0), .e0] := ZeroOk.of (zv := .agg #[(.bool false), (.int .i64 0), (.int .i64 0), (.slice none 0 0), (.int .i64 0), (.int .i64 0), (.slice none 0 0)]) (by kernel_rfl) rfl rfl
theorem z69 : ZeroOk Try.prog 69 6 80 [.d (.int .i64 0), .d (.int .i64 0), .e0, .d (.int .i64 0), .d (.int .i64 0), .e0] := ZeroOk.of (zv := .agg #[(.int .i64 0), (.int .i64 0), (.slice none 0 0), (.int .i64 0), (.int .i64 0), (.slice none 0 0)]) (by kernel_rfl) rfl rfl
theorem z70 : ZeroOk Try.prog 70 6 80 [.d (.int .i64 0), .d (.int .i64 0), .e0, .d (.int .i64 0), .d (.int .i64 0), .e0] := ZeroOk.of (zv := .agg #[(.int .i64 0), (.int .i64 0), (.slice none 0 0), (.int .i64 0), (.int .i64 0), (.slice none 0 0)]) (by kernel_rfl) rfl rfl
theorem z72 : ZeroOk Try.prog 72 6 80 [.d (.int .i64 0), .d (.int .i64 0), .e0, .d (.int .i64 0), .d (.int .i64 0), .e0] := ZeroOk.of (zv := .agg #[(.int .i64 0), (.int .i64 0), (.slice none 0 0), (.int .i64 0), (.int .i64 0), (.slice none 0 0)]) (by kernel_rfl) rfl rfl
theorem z73 : ZeroOk Try.prog 73 6 80 [.d (.int .i64 0), .d (.int .i64 0), .e0, .d (.int .i64 0), .d (.int .i64 0), .e0] := ZeroOk.of (zv := .agg #[(.int .i64 0), (.int .i64 0), (.slice none 0 0), (.int .i64 0), (.int .i64 0), (.slice none 0 0)]) (by kernel_rfl) rfl rfl
theorem z81 : ZeroOk Try.prog 81 1 24 [.e0] := ZeroOk.of (zv := .slice none 0 0) (by kernel_rfl) rfl rfl
theorem z82 : ZeroOk Try.prog 82 7 88 [.d (.bool false), .d (.int .i64 0), .d (.int .i64 0), .e0, .d (.int .i64 0), .d (.int .i64 0), .e0] := ZeroOk.of (zv := .agg #[(.bool false), (.int .i64 0), (.int .i64 0), (.slice none 0 0), (.int .i64 0), (.int .i64 0), (.slice none 0 0)]) (by kernel_rfl) rfl rfl
theorem z83 : ZeroOk Try.prog 83 7 88 [.d (.bool false), .d (.int .i64 0), .d (.int .i64 0), .e0, .d (.int .i64 0), .d (.int .i64 0), .e0] := ZeroOk.of (zv := .agg #[(.bool false), (.int .i64 0), (.int .i64 0), (.slice none 0 0), (.int .i64 0), (.int .i64 0), (.slice none 0 0)]) (by kernel_rfl) rfl rfl
theorem z87 : ZeroOk Try.prog 87 1 24 [.e0] := ZeroOk.of (zv := .slice none 0 0) (by kernel_rfl) rfl rfl
theorem z99 : ZeroOk Try.prog 99 1 24 [.e0] := ZeroOk.of (zv := .slice none 0 0) (by kernel_rfl) rfl rfl
theorem z102 : ZeroOk Try.prog 102 1 24 [.e0] := ZeroOk.of (zv := .slice none 0 0) (by kernel_rfl) rfl rfl
theorem z116 : ZeroOk Try.prog 116 3 32 [.d (.str ⟨#[]⟩), .d (.int .i64 0), .d (.bool false)] := ZeroOk.of (zv := .agg #[(.string ⟨#[]⟩), (.int .i64 0), (.bool false)]) (by kernel_rfl) rfl rfl
theorem z117 : ZeroOk Try.prog 117 3 32 [.d (.str ⟨#[]⟩), .d (.int .i64 0), .d (.bool false)] := ZeroOk.of (zv := .agg #[(.string ⟨#[]⟩), (.int .i64 0), (.bool false)]) (by kernel_rfl) rfl rfl
theorem z119 : ZeroOk Try.prog 119 3 32 [.d (.str ⟨#[]⟩), .d (.int .i64 0), .d (.bool false)] := ZeroOk.of (zv := .agg #[(.string ⟨#[]⟩), (.int .i64 0), (.bool false)]) (by kernel_rfl) rfl rfl
theorem z145 : ZeroOk Try.prog 145 4 48 [.d (.int .i64 0), .d (.int .i64 0), .d (.int .i64 0), .e0] := ZeroOk.of (zv := .agg #[(.int .i64 0), (.int .i64 0), (.int .i64 0), (.slice none 0 0)]) (by kernel_rfl) rfl rfl
theorem z146 : ZeroOk Try.prog 146 4 48 [.d (.int .i64 0), .d (.int .i64 0), .d (.int .i64 0), .e0] := ZeroOk.of (zv := .agg #[(.int .i64 0), (.int .i64 0), (.int .i64 0), (.slice none 0 0)]) (by kernel_rfl) rfl rfl
theorem z148 : ZeroOk Try.prog 148 4 48 [.d (.int .i64 0), .d (.int .i64 0), .d (.int .i64 0), .e0] := ZeroOk.of (zv := .agg #[(.int .i64 0), (.int .i64 0), (.int .i64 0), (.slice none 0 0)]) (by kernel_rfl) rfl rfl
theorem z149 : ZeroOk Try.prog 149 4 48 [.d (.int .i64 0), .d (.int .i64 0), .d (.int .i64 0), .e0] := ZeroOk.of (zv := .agg #[(.int .i64 0), (.int .i64 0), (.int .i64 0), (.slice none 0 0)]) (by kernel_rfl) rfl rfl
theorem z156 : ZeroOk Try.prog 156 11 128 [.d (.int .i64 0), .d (.int .i64 0), .d (.int .i64 0), .d (.int .i64 0), .d (.int .i64 0), .d (.bool false), .d (.bool false), .e0, .d (.bool false), .e0, .e0] := ZeroOk.of (zv := .agg #[(.int .i64 0), (.int .i64 0), (.int .i64 0), (.int .i64 0), (.int .i64 0), (.bool false), (.bool false), (.slice none 0 0), (.bool false), (.slice none 0 0), (.slice none 0 0)]) (by kernel_rfl) rfl rfl
theorem z157 : ZeroOk Try.prog 157 11 128 [.d (.int .i64 0), .d (.int .i64 0), .d (.int .i64 0), .d (.int .i64 0), .d (.int .i64 0), .d (.bool false), .d (.bool false), .e0, .d (.bool false), .e0, .e0] := ZeroOk.of (zv := .agg #[(.int .i64 0), (.int .i64 0), (.int .i64 0), (.int .i64 0), (.int .i64 0), (.bool false), (.bool false), (.slice none 0 0), (.bool false), (.slice none 0 0), (.slice none 0 0)]) (by kernel_rfl) rfl rfl
theorem z159 : ZeroOk Try.prog 159 11 128 [.d (.int .i64 0), .d (.int .i64 0), .d (.int .i64 0), .d (.int .i64 0), .d (.int .i64 0), .d (.bool false), .d (.bool false), .e0, .d (.bool false), .e0, .e0] := ZeroOk.of (zv := .agg #[(.int .i64 0), (.int .i64 0), (.int .i64 0), (.int .i64 0), (.int .i64 0), (.bool false), (.bool false), (.slice none 0 0), (.bool false), (.slice none 0 0), (.slice none 0 0)]) (by kernel_rfl) rfl rfl
theorem z160 : ZeroOk Try.prog 160 11 128 [.d (.int .i64 0), .d (.int .i64 0), .d (.int .i64 0), .d (.int .i64 0), .d (.int .i64 0), .d (.bool false), .d (.bool false), .e0, .d (.bool false), .e0, .e0] := ZeroOk.of (zv := .agg #[(.int .i64 0), (.int .i64 0), (.int .i64 0), (.int .i64 0), (.int .i64 0), (.bool false), (.bool false), (.slice none 0 0), (.bool false), (.slice none 0 0), (.slice none 0 0)]) (by kernel_rfl) rfl rfl
theorem z168 : ZeroOk Try.prog 168 1 24 [.e0] := ZeroOk.of (zv := .slice none 0 0) (by kernel_rfl) rfl rfl
theorem z184 : ZeroOk Try.prog 184 2 16 [.d (.int .i64 0), .d (.int .i64 0)] := ZeroOk.of (zv := .agg #[(.int .i64 0), (.int .i64 0)]) (by kernel_rfl) rfl rfl
theorem z185 : ZeroOk Try.prog 185 1 24 [.e0] := ZeroOk.of (zv := .slice none 0 0) (by kernel_rfl) rfl rfl
theorem z199 : ZeroOk Try.prog 199 1 8 [.d (.int .u64 0)] := ZeroOk.of (zv := .int .u64 0) (by kernel_rfl) rfl rfl
theorem z208 : ZeroOk Try.prog 208 1 4 [.d (.int .u32 0)] := ZeroOk.of (zv := .int .u32 0) (by kernel_rfl) rfl rfl
theorem z209 : ZeroOk Try.prog 209 1 1 [.d (.int .u8 0)] := ZeroOk.of (zv := .int .u8 0) (by kernel_rfl) rfl rfl
theorem z210 : ZeroOk Try.prog 210 1 1 [.d (.int .u8 0)] := ZeroOk.of (zv := .int .u8 0) (by kernel_rfl) rfl rfl
theorem z213 : ZeroOk Try.prog 213 1 4 [.d (.int .i32 0)] := ZeroOk.of (zv := .int .i32 0) (by kernel_rfl) rfl rfl
theorem z214 : ZeroOk Try.prog 214 1 4 [.d (.int .i32 0)] := ZeroOk.of (zv := .int .i32 0) (by kernel_rfl) rfl rfl
end AM
end Go.Proofs.Ytflfopedammhoaa
