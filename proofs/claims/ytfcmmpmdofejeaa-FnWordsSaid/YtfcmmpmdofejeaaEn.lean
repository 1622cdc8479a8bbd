/- What the walk by computation knows of this translation, held against the loaded program; no conditions. -/
import Derived.Test.YtfcmmpmdofejeaaEv7
import Derived.Test.YtfcmmpmdofejeaaTy
set_option linter.unusedVariables false
namespace Go.Proofs.Ytfcmmpmdofejeaa
namespace AM
open Go
def ZerL (P : Program) : List (Nat × (Nat × Nat × List At)) → Prop
  | [] => True
  | (t, z) :: r => ZeroOk P t z.1 z.2.1 z.2.2 ∧ ZerL P r
theorem ZerL.spec {P : Program} : ∀ {l : List (Nat × (Nat × Nat × List At))}, ZerL P l → ∀ t z, look l t = some z → ZeroOk P t z.1 z.2.1 z.2.2
  | [], _, t, z, h => by simp [look] at h
  | (k, y) :: r, hl, t, z, h => by
    simp only [look] at h
    split at h
    · rename_i e; simp at e h; subst e; subst h; exact hl.1
    · exact ZerL.spec hl.2 t z h
def zer : List (Nat × (Nat × Nat × List At)) := [(2, (1, 8, [.d (.int .i64 0)])),
  (3, (1, 8, [.d (.int .i64 0)])),
  (4, (1, 1, [.d (.bool false)])),
  (5, (1, 1, [.d (.int .u8 0)])),
  (6, (1, 1, [.d (.int .u8 0)])),
  (7, (4, 24, [.d (.int .i64 0), .d (.int .i64 0), .d (.bool false), .d (.int .u8 0)])),
  (8, (4, 24, [.d (.int .i64 0), .d (.int .i64 0), .d (.bool false), .d (.int .u8 0)])),
  (9, (1, 16, [.d (.str ⟨#[]⟩)])),
  (10, (1, 16, [.d (.str ⟨#[]⟩)])),
  (11, (1, 16, [.d (.str ⟨#[]⟩)])),
  (12, (1, 8, [.d (.int .u64 0)])),
  (13, (2, 24, [.d (.str ⟨#[]⟩), .d (.int .u64 0)])),
  (14, (2, 24, [.d (.str ⟨#[]⟩), .d (.int .u64 0)])),
  (21, (1, 4, [.d (.int .i32 0)])),
  (22, (1, 24, [.e0])),
  (25, (1, 24, [.e0])),
  (37, (3, 40, [.e0, .d (.int .i64 0), .d (.int .i64 0)])),
  (38, (3, 40, [.e0, .d (.int .i64 0), .d (.int .i64 0)])),
  (41, (1, 8, [.d (.int .u64 0)])),
  (49, (1, 4, [.d (.int .u32 0)])),
  (50, (1, 1, [.d (.int .u8 0)])),
  (51, (1, 1, [.d (.int .u8 0)])),
  (54, (1, 4, [.d (.int .i32 0)])),
  (55, (1, 4, [.d (.int .i32 0)]))]
theorem zerOk : ZerL Try.prog zer := ⟨z2, z3, z4, z5, z6, z7, z8, z9, z10, z11, z12, z13, z14, z21, z22, z25, z37, z38, z41, z49, z50, z51, z54, z55, trivial⟩
def cks : List (Nat × List CK) := [(1, [.f]),
  (2, [.i .i64]),
  (3, [.i .i64]),
  (4, [.b]),
  (5, [.i .u8]),
  (6, [.i .u8]),
  (7, [.i .i64, .i .i64, .b, .i .u8]),
  (8, [.i .i64, .i .i64, .b, .i .u8]),
  (9, [.s]),
  (10, [.s]),
  (11, [.s]),
  (12, [.i .u64]),
  (13, [.s, .i .u64]),
  (14, [.s, .i .u64]),
  (21, [.i .i32]),
  (22, [.l]),
  (23, [.f]),
  (24, [.f]),
  (25, [.l]),
  (27, [.f]),
  (29, [.f]),
  (30, [.f]),
  (31, [.f]),
  (32, [.f]),
  (33, [.f]),
  (34, [.f]),
  (35, [.f]),
  (36, [.f]),
  (37, [.l, .i .i64, .i .i64]),
  (38, [.l, .i .i64, .i .i64]),
  (39, [.f]),
  (40, [.f]),
  (41, [.i .u64]),
  (42, [.f]),
  (48, [.f]),
  (49, [.i .u32]),
  (50, [.i .u8]),
  (51, [.i .u8]),
  (52, [.f]),
  (54, [.i .i32]),
  (55, [.i .i32])]
def sigs : List (Nat × RS) := [(2, .t []),
  (3, .c .b),
  (4, .c .b),
  (5, .c .s),
  (6, .t [.o 9 1, .c (.i .i64)]),
  (7, .t [.o 9 1, .c (.i .i64)]),
  (8, .p [.k .l, .k (.i .i64), .k (.i .i64)]),
  (9, .c .s),
  (10, .c (.i .i64)),
  (11, .c .b),
  (12, .c .s),
  (13, .c .b),
  (14, .c .b),
  (15, .c (.i .i64)),
  (16, .c .b),
  (17, .c .l),
  (18, .c (.i .i64)),
  (19, .c .b),
  (20, .c .b),
  (21, .c .b),
  (22, .c (.i .i64))]
def fnsB : List Nat := [2, 3, 4, 5, 6, 7, 8, 9, 10, 11, 12, 13, 14, 15, 16, 17, 18, 19, 20, 21, 22]
def objB : List Nat := []
def extB : List Nat := [23]
def eqtB : List (Nat × List CK) := []
def tknB : List (Nat × Nat) := []
def arrB : List Nat := []
def genB : List Nat := []
def ovlB : List Nat := []
def anyK : CK → CK
  | .l => .a
  | c => c
def cksA : List (Nat × List CK) := [(1, [.f]),
  (2, [.i .i64]),
  (3, [.i .i64]),
  (4, [.b]),
  (5, [.i .u8]),
  (6, [.i .u8]),
  (7, [.i .i64, .i .i64, .b, .i .u8]),
  (8, [.i .i64, .i .i64, .b, .i .u8]),
  (9, [.s]),
  (10, [.s]),
  (11, [.s]),
  (12, [.i .u64]),
  (13, [.s, .i .u64]),
  (14, [.s, .i .u64]),
  (21, [.i .i32]),
  (22, [.a]),
  (23, [.f]),
  (24, [.f]),
  (25, [.a]),
  (27, [.f]),
  (29, [.f]),
  (30, [.f]),
  (31, [.f]),
  (32, [.f]),
  (33, [.f]),
  (34, [.f]),
  (35, [.f]),
  (36, [.f]),
  (37, [.a, .i .i64, .i .i64]),
  (38, [.a, .i .i64, .i .i64]),
  (39, [.f]),
  (40, [.f]),
  (41, [.i .u64]),
  (42, [.f]),
  (48, [.f]),
  (49, [.i .u32]),
  (50, [.i .u8]),
  (51, [.i .u8]),
  (52, [.f]),
  (54, [.i .i32]),
  (55, [.i .i32])]
def env : Env := ⟨tab, zer, cks, sigs, fnsB, objB, extB, eqtB, false, [], [], tknB, ovlB⟩
def envA : Env := { env with cks := cksA }
def envL : Env := { env with lw := true }
theorem envOk : EnvOk Try.prog env := ⟨tabOk, zerOk.spec, by kernel_rfl, by
  intro f hf
  simp only [env, extB, List.mem_cons, List.not_mem_nil, or_false] at hf
  subst hf
  exact ⟨_, Try.func23, by kernel_rfl, by kernel_rfl, by kernel_rfl, by kernel_rfl⟩, by kernel_rfl, by simp [env, ovlB]⟩
theorem envLOk : EnvOk Try.prog envL := ⟨envOk.tab, envOk.zer, envOk.fns, envOk.ext, envOk.eqt, envOk.ovl⟩
theorem envAOk : EnvOk Try.prog envA := ⟨envOk.tab, envOk.zer, envOk.fns, envOk.ext, envOk.eqt, envOk.ovl⟩
end AM
end Go.Proofs.Ytfcmmpmdofejeaa
