/- The types of this translation, as a table that Lean holds against the loaded program; no conditions. -/
import Derived.Test.YtajcoogpmockiaaAm9
import Derived.Test.YtajcoogpmockiaaProg
set_option linter.unusedVariables false
namespace Go.Proofs.Ytajcoogpmockiaa
namespace AM
open Go
def tab : List (Nat × TI) := [(2, ⟨false, 1, 8, none, [], 3, some .i64⟩),
  (3, ⟨false, 1, 8, none, [], 3, some .i64⟩),
  (4, ⟨false, 1, 1, none, [], 1, none⟩),
  (5, ⟨false, 1, 1, none, [], 3, some .u8⟩),
  (6, ⟨false, 1, 1, none, [], 3, some .u8⟩),
  (7, ⟨true, 4, 24, none, [some (0, 1, false), some (1, 1, false), some (2, 1, false), some (3, 1, false)], 5, none⟩),
  (8, ⟨true, 4, 24, none, [some (0, 1, false), some (1, 1, false), some (2, 1, false), some (3, 1, false)], 5, none⟩),
  (9, ⟨false, 1, 16, none, [], 2, none⟩),
  (10, ⟨false, 1, 16, none, [], 2, none⟩),
  (11, ⟨false, 1, 16, none, [], 2, none⟩),
  (12, ⟨false, 1, 8, none, [], 3, some .u64⟩),
  (13, ⟨true, 2, 24, none, [some (0, 1, false), some (1, 1, false)], 5, none⟩),
  (14, ⟨true, 2, 24, none, [some (0, 1, false), some (1, 1, false)], 5, none⟩),
  (18, ⟨true, 1, 8, none, [some (0, 1, false)], 5, none⟩),
  (19, ⟨true, 1, 8, none, [some (0, 1, false)], 5, none⟩),
  (21, ⟨false, 1, 4, none, [], 3, some .i32⟩),
  (22, ⟨false, 1, 24, some 93, [], 4, none⟩),
  (23, ⟨false, 1, 24, some 25, [], 4, none⟩),
  (24, ⟨true, 3, 40, none, [some (0, 1, false), some (1, 1, false), some (2, 1, false)], 5, none⟩),
  (25, ⟨true, 3, 40, none, [some (0, 1, false), some (1, 1, false), some (2, 1, false)], 5, none⟩),
  (26, ⟨false, 1, 24, some 3, [], 4, none⟩),
  (29, ⟨false, 1, 24, some 31, [], 4, none⟩),
  (30, ⟨true, 3, 40, none, [some (0, 1, false), some (1, 1, false), some (2, 1, false)], 5, none⟩),
  (31, ⟨true, 3, 40, none, [some (0, 1, false), some (1, 1, false), some (2, 1, false)], 5, none⟩),
  (33, ⟨false, 1, 24, some 99, [], 4, none⟩),
  (44, ⟨true, 6, 80, none, [some (0, 3, true), some (3, 3, true)], 5, none⟩),
  (45, ⟨true, 6, 80, none, [some (0, 3, true), some (3, 3, true)], 5, none⟩),
  (47, ⟨true, 6, 80, none, [some (0, 3, true), some (3, 3, true)], 5, none⟩),
  (48, ⟨true, 6, 80, none, [some (0, 3, true), some (3, 3, true)], 5, none⟩),
  (55, ⟨false, 1, 24, some 113, [], 4, none⟩),
  (56, ⟨true, 7, 88, none, [some (0, 1, false), some (1, 3, true), some (4, 3, true)], 5, none⟩),
  (57, ⟨true, 7, 88, none, [some (0, 1, false), some (1, 3, true), some (4, 3, true)], 5, none⟩),
  (60, ⟨true, 7, 88, none, [some (0, 1, false), some (1, 3, true), some (4, 3, true)], 5, none⟩),
  (61, ⟨true, 7, 88, none, [some (0, 1, false), some (1, 3, true), some (4, 3, true)], 5, none⟩),
  (63, ⟨false, 1, 24, some 117, [], 4, none⟩),
  (71, ⟨false, 1, 24, some 57, [], 4, none⟩),
  (73, ⟨false, 1, 24, some 61, [], 4, none⟩),
  (74, ⟨true, 1, 24, none, [some (0, 1, false)], 5, none⟩),
  (75, ⟨true, 1, 24, none, [some (0, 1, false)], 5, none⟩),
  (83, ⟨true, 1, 24, none, [some (0, 1, false)], 5, none⟩),
  (84, ⟨true, 1, 24, none, [some (0, 1, false)], 5, none⟩),
  (92, ⟨true, 3, 32, none, [some (0, 1, false), some (1, 1, false), some (2, 1, false)], 5, none⟩),
  (93, ⟨true, 3, 32, none, [some (0, 1, false), some (1, 1, false), some (2, 1, false)], 5, none⟩),
  (99, ⟨true, 3, 32, none, [some (0, 1, false), some (1, 1, false), some (2, 1, false)], 5, none⟩),
  (112, ⟨true, 4, 48, none, [some (0, 1, false), some (1, 3, true)], 5, none⟩),
  (113, ⟨true, 4, 48, none, [some (0, 1, false), some (1, 3, true)], 5, none⟩),
  (116, ⟨true, 4, 48, none, [some (0, 1, false), some (1, 3, true)], 5, none⟩),
  (117, ⟨true, 4, 48, none, [some (0, 1, false), some (1, 3, true)], 5, none⟩),
  (132, ⟨false, 1, 24, some 5, [], 4, none⟩),
  (142, ⟨true, 2, 16, some 3, [], 12, none⟩),
  (143, ⟨false, 1, 24, some 142, [], 4, none⟩),
  (148, ⟨false, 1, 24, some 26, [], 4, none⟩),
  (158, ⟨false, 1, 8, none, [], 3, some .u64⟩),
  (162, ⟨true, 4, 40, none, [some (0, 1, false), some (1, 1, false), some (2, 1, false), some (3, 1, false)], 5, none⟩),
  (163, ⟨true, 4, 40, none, [some (0, 1, false), some (1, 1, false), some (2, 1, false), some (3, 1, false)], 5, none⟩),
  (164, ⟨true, 0, 0, some 16, [], 10, none⟩),
  (165, ⟨true, 0, 0, none, [some (0, 0, true)], 5, none⟩),
  (166, ⟨true, 0, 0, none, [some (0, 0, true)], 5, none⟩),
  (168, ⟨false, 1, 4, none, [], 3, some .u32⟩),
  (169, ⟨false, 1, 1, none, [], 3, some .u8⟩),
  (170, ⟨false, 1, 1, none, [], 3, some .u8⟩),
  (173, ⟨false, 1, 4, none, [], 3, some .i32⟩),
  (174, ⟨false, 1, 4, none, [], 3, some .i32⟩),
  (175, ⟨true, 11, 48, none, [some (0, 1, false), some (1, 1, false), some (2, 1, false), some (3, 1, false), some (4, 1, false), some (5, 1, false), some (6, 1, false), some (7, 1, false), some (8, 1, false), some (9, 1, false), some (10, 1, false)], 5, none⟩),
  (176, ⟨true, 11, 48, none, [some (0, 1, false), some (1, 1, false), some (2, 1, false), some (3, 1, false), some (4, 1, false), some (5, 1, false), some (6, 1, false), some (7, 1, false), some (8, 1, false), some (9, 1, false), some (10, 1, false)], 5, none⟩)]
theorem tabOk : TabOk Try.prog tab := TabOk.of (by kernel_rfl)
theorem mixed : Try.prog.follows .mixedOrders = true := by kernel_rfl
theorem z2 : ZeroOk Try.prog 2 1 8 [.d (.int .i64 0)] := ZeroOk.of (zv := .int .i64 0) (by kernel_rfl) rfl rfl
theorem z3 : ZeroOk Try.prog 3 1 8 [.d (.int .i64 0)] := ZeroOk.of (zv := .int .i64 0) (by kernel_rfl) rfl rfl
theorem z4 : ZeroOk Try.prog 4 1 1 [.d (.bool false)] := ZeroOk.of (zv := .bool false) (by kernel_rfl) rfl rfl
theorem z5 : ZeroOk Try.prog 5 1 1 [.d (.int .u8 0)] := ZeroOk.of (zv := .int .u8 0) (by kernel_rfl) rfl rfl
theorem z6 : ZeroOk Try.prog 6 1 1 [.d (.int .u8 0)] := ZeroOk.of (zv := .int .u8 0) (by kernel_rfl) rfl rfl
theorem z7 : ZeroOk Try.prog 7 4 24 [.d (.int .i64 0), .d (.int .i64 0), .d (.bool false), .d (.int .u8 0)] := ZeroOk.of (zv := .agg #[(.int .i64 0), (.int .i64 0), (.bool false), (.int .u8 0)]) (by kernel_rfl) rfl rfl
theorem z8 : ZeroOk Try.prog 8 4 24 [.d (.int .i64 0), .d (.int .i64 0), .d (.bool false), .d (.int .u8 0)] := ZeroOk.of (zv := .agg #[(.int .i64 0), (.int .i64 0), (.bool false), (.int .u8 0)]) (by kernel_rfl) rfl rfl
theorem z9 : ZeroOk Try.prog 9 1 16 [.d (.str ⟨#[]⟩)] := ZeroOk.of (zv := .string ⟨#[]⟩) (by kernel_rfl) rfl rfl
theorem z10 : ZeroOk Try.prog 10 1 16 [.d (.str ⟨#[]⟩)] := ZeroOk.of (zv := .string ⟨#[]⟩) (by kernel_rfl) rfl rfl
theorem z11 : ZeroOk Try.prog 11 1 16 [.d (.str ⟨#[]⟩)] := ZeroOk.of (zv := .string ⟨#[]⟩) (by kernel_rfl) rfl rfl
theorem z12 : ZeroOk Try.prog 12 1 8 [.d (.int .u64 0)] := ZeroOk.of (zv := .int .u64 0) (by kernel_rfl) rfl rfl
theorem z13 : ZeroOk Try.prog 13 2 24 [.d (.str ⟨#[]⟩), .d (.int .u64 0)] := ZeroOk.of (zv := .agg #[(.string ⟨#[]⟩), (.int .u64 0)]) (by kernel_rfl) rfl rfl
theorem z14 : ZeroOk Try.prog 14 2 24 [.d (.str ⟨#[]⟩), .d (.int .u64 0)] := ZeroOk.of (zv := .agg #[(.string ⟨#[]⟩), (.int .u64 0)]) (by kernel_rfl) rfl rfl
theorem z21 : ZeroOk Try.prog 21 1 4 [.d (.int .i32 0)] := ZeroOk.of (zv := .int .i32 0) (by kernel_rfl) rfl rfl
theorem z22 : ZeroOk Try.prog 22 1 24 [.e0] := ZeroOk.of (zv := .slice none 0 0) (by kernel_rfl) rfl rfl
theorem z23 : ZeroOk Try.prog 23 1 24 [.e0] := ZeroOk.of (zv := .slice none 0 0) (by kernel_rfl) rfl rfl
theorem z24 : ZeroOk Try.prog 24 3 40 [.d (.int .i64 0), .d (.int .i64 0), .e0] := ZeroOk.of (zv := .agg #[(.int .i64 0), (.int .i64 0), (.slice none 0 0)]) (by kernel_rfl) rfl rfl
theorem z25 : ZeroOk Try.prog 25 3 40 [.d (.int .i64 0), .d (.int .i64 0), .e0] := ZeroOk.of (zv := .agg #[(.int .i64 0), (.int .i64 0), (.slice none 0 0)]) (by kernel_rfl) rfl rfl
theorem z26 : ZeroOk Try.prog 26 1 24 [.e0] := ZeroOk.of (zv := .slice none 0 0) (by kernel_rfl) rfl rfl
theorem z29 : ZeroOk Try.prog 29 1 24 [.e0] := ZeroOk.of (zv := .slice none 0 0) (by kernel_rfl) rfl rfl
theorem z30 : ZeroOk Try.prog 30 3 40 [.d (.int .i64 0), .d (.int .i64 0), .e0] := ZeroOk.of (zv := .agg #[(.int .i64 0), (.int .i64 0), (.slice none 0 0)]) (by kernel_rfl) rfl rfl
theorem z31 : ZeroOk Try.prog 31 3 40 [.d (.int .i64 0), .d (.int .i64 0), .e0] := ZeroOk.of (zv := .agg #[(.int .i64 0), (.int .i64 0), (.slice none 0 0)]) (by kernel_rfl) rfl rfl
theorem z33 : ZeroOk Try.prog 33 1 24 [.e0] := ZeroOk.of (zv := .slice none 0 0) (by kernel_rfl) rfl rfl
theorem z44 : ZeroOk Try.prog 44 6 80 [.d (.int .i64 0), .d (.int .i64 0), .e0, .d (.int .i64 0), .d (.int .i64 0), .e0] := ZeroOk.of (zv := .agg #[(.int .i64 0), (.int .i64 0), (.slice none 0 0), (.int .i64 0), (.int .i64 0), (.slice none 0 0)]) (by kernel_rfl) rfl rfl
theorem z45 : ZeroOk Try.prog 45 6 80 [.d (.int .i64 0), .d (.int .i64 0), .e0, .d (.int .i64 0), .d (.int .i64 0), .e0] := ZeroOk.of (zv := .agg #[(.int .i64 0), (.int .i64 0), (.slice none 0 0), (.int .i64 0), (.int .i64 0), (.slice none 0 0)]) (by kernel_rfl) rfl rfl
theorem z47 : ZeroOk Try.prog 47 6 80 [.d (.int .i64 0), .d (.int .i64 0), .e0, .d (.int .i64 0), .d (.int .i64 0), .e0] := ZeroOk.of (zv := .agg #[(.int .i64 0), (.int .i64 0), (.slice none 0 0), (.int .i64 0), (.int .i64 0), (.slice none 0 0)]) (by kernel_rfl) rfl rfl
theorem z48 : ZeroOk Try.prog 48 6 80 [.d (.int .i64 0), .d (.int .i64 0), .e0, .d (.int .i64 0), .d (.int .i64 0), .e0] := ZeroOk.of (zv := .agg #[(.int .i64 0), (.int .i64 0), (.slice none 0 0), (.int .i64 0), (.int .i64 0), (.slice none 0 0)]) (by kernel_rfl) rfl rfl
theorem z55 : ZeroOk Try.prog 55 1 24 [.e0] := ZeroOk.of (zv := .slice none 0 0) (by kernel_rfl) rfl rfl
theorem z56 : ZeroOk Try.prog 56 7 88 [.d (.bool false), .d (.int .i64 0), .d (.int .i64 0), .e0, .d (.int .i64 0), .d (.int .i64 0), .e0] := ZeroOk.of (zv := .agg #[(.bool false), (.int .i64 0), (.int .i64 0), (.slice none 0 0), (.int .i64 0), (.int .i64 0), (.slice none 0 0)]) (by kernel_rfl) rfl rfl
theorem z57 : ZeroOk Try.prog 57 7 88 [.d (.bool false), .d (.int .i64 0), .d (.int .i64 0), .e0, .d (.int .i64 0), .d (.int .i64 0), .e0] := ZeroOk.of (zv := .agg #[(.bool false), (.int .i64 0), (.int .i64 0), (.slice none 0 0), (.int .i64 0), (.int .i64 0), (.slice none 0 0)]) (by kernel_rfl) rfl rfl
theorem z60 : ZeroOk Try.prog 60 7 88 [.d (.bool false), .d (.int .i64 0), .d (.int .i64 0), .e0, .d (.int .i64 0), .d (.int .i64 0), .e0] := ZeroOk.of (zv := .agg #[(.bool false), (.int .i64 0), (.int .i64 0), (.slice none 0 0), (.int .i64 0), (.int .i64 0), (.slice none 0 0)]) (by kernel_rfl) rfl rfl
theorem z61 : ZeroOk Try.prog 61 7 88 [.d (.bool false), .d (.int .i64 0), .d (.int .i64 0), .e0, .d (.int .i64 0), .d (.int .i64 0), .e0] := ZeroOk.of (zv := .agg #[(.bool false), (.int .i64 0), (.int .i64 0), (.slice none 0 0), (.int .i64 0), (.int .i64 0), (.slice none 0 0)]) (by kernel_rfl) rfl rfl
theorem z63 : ZeroOk Try.prog 63 1 24 [.e0] := ZeroOk.of (zv := .slice none 0 0) (by kernel_rfl) rfl rfl
theorem z71 : ZeroOk Try.prog 71 1 24 [.e0] := ZeroOk.of (zv := .slice none 0 0) (by kernel_rfl) rfl rfl
theorem z73 : ZeroOk Try.prog 73 1 24 [.e0] := ZeroOk.of (zv := .slice none 0 0) (by kernel_rfl) rfl rfl
theorem z74 : ZeroOk Try.prog 74 1 24 [.e0] := ZeroOk.of (zv := .agg #[(.slice none 0 0)]) (by kernel_rfl) rfl rfl
theorem z75 : ZeroOk Try.prog 75 1 24 [.e0] := ZeroOk.of (zv := .agg #[(.slice none 0 0)]) (by kernel_rfl) rfl rfl
theorem z83 : ZeroOk Try.prog 83 1 24 [.e0] := ZeroOk.of (zv := .agg #[(.slice none 0 0)]) (by kernel_rfl) rfl rfl
theorem z84 : ZeroOk Try.prog 84 1 24 [.e0] := ZeroOk.of (zv := .agg #[(.slice none 0 0)]) (by kernel_rfl) rfl rfl
theorem z92 : ZeroOk Try.prog 92 3 32 [.d (.str ⟨#[]⟩), .d (.int .i64 0), .d (.bool false)] := ZeroOk.of (zv := .agg #[(.string ⟨#[]⟩), (.int .i64 0), (.bool false)]) (by kernel_rfl) rfl rfl
theorem z93 : ZeroOk Try.prog 93 3 32 [.d (.str ⟨#[]⟩), .d (.int .i64 0), .d (.bool false)] := ZeroOk.of (zv := .agg #[(.string ⟨#[]⟩), (.int .i64 0), (.bool false)]) (by kernel_rfl) rfl rfl
theorem z99 : ZeroOk Try.prog 99 3 32 [.d (.str ⟨#[]⟩), .d (.int .i64 0), .d (.bool false)] := ZeroOk.of (zv := .agg #[(.string ⟨#[]⟩), (.int .i64 0), (.bool false)]) (by kernel_rfl) rfl rfl
theorem z112 : ZeroOk Try.prog 112 4 48 [.d (.int .i64 0), .d (.int .i64 0), .d (.int .i64 0), .e0] := ZeroOk.of (zv := .agg #[(.int .i64 0), (.int .i64 0), (.int .i64 0), (.slice none 0 0)]) (by kernel_rfl) rfl rfl
theorem z113 : ZeroOk Try.prog 113 4 48 [.d (.int .i64 0), .d (.int .i64 0), .d (.int .i64 0), .e0] := ZeroOk.of (zv := .agg #[(.int .i64 0), (.int .i64 0), (.int .i64 0), (.slice none 0 0)]) (by kernel_rfl) rfl rfl
theorem z116 : ZeroOk Try.prog 116 4 48 [.d (.int .i64 0), .d (.int .i64 0), .d (.int .i64 0), .e0] := ZeroOk.of (zv := .agg #[(.int .i64 0), (.int .i64 0), (.int .i64 0), (.slice none 0 0)]) (by kernel_rfl) rfl rfl
theorem z117 : ZeroOk Try.prog 117 4 48 [.d (.int .i64 0), .d (.int .i64 0), .d (.int .i64 0), .e0] := ZeroOk.of (zv := .agg #[(.int .i64 0), (.int .i64 0), (.int .i64 0), (.slice none 0 0)]) (by kernel_rfl) rfl rfl
theorem z132 : ZeroOk Try.prog 132 1 24 [.e0] := ZeroOk.of (zv := .slice none 0 0) (by kernel_rfl) rfl rfl
theorem z142 : ZeroOk Try.prog 142 2 16 [.d (.int .i64 0), .d (.int .i64 0)] := ZeroOk.of (zv := .agg #[(.int .i64 0), (.int .i64 0)]) (by kernel_rfl) rfl rfl
theorem z143 : ZeroOk Try.prog 143 1 24 [.e0] := ZeroOk.of (zv := .slice none 0 0) (by kernel_rfl) rfl rfl
theorem z148 : ZeroOk Try.prog 148 1 24 [.e0] := ZeroOk.of (zv := .slice none 0 0) (by kernel_rfl) rfl rfl
theorem z158 : ZeroOk Try.prog 158 1 8 [.d (.int .u64 0)] := ZeroOk.of (zv := .int .u64 0) (by kernel_rfl) rfl rfl
theorem z168 : ZeroOk Try.prog 168 1 4 [.d (.int .u32 0)] := ZeroOk.of (zv := .int .u32 0) (by kernel_rfl) rfl rfl
theorem z169 : ZeroOk Try.prog 169 1 1 [.d (.int .u8 0)] := ZeroOk.of (zv := .int .u8 0) (by kernel_rfl) rfl rfl
theorem z170 : ZeroOk Try.prog 170 1 1 [.d (.int .u8 0)] := ZeroOk.of (zv := .int .u8 0) (by kernel_rfl) rfl rfl
theorem z173 : ZeroOk Try.prog 173 1 4 [.d (.int .i32 0)] := ZeroOk.of (zv := .int .i32 0) (by kernel_rfl) rfl rfl
theorem z174 : ZeroOk Try.prog 174 1 4 [.d (.int .i32 0)] := ZeroOk.of (zv := .int .i32 0) (by kernel_rfl) rfl rfl
end AM
end Go.Proofs.Ytajcoogpmockiaa
