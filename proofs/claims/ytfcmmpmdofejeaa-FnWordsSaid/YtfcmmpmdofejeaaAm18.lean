/- Bytes made a string; no conditions. -/
import Derived.Test.YtfcmmpmdofejeaaAm17
import Derived.Laws.BytesArg
set_option linter.unusedSimpArgs false
set_option linter.unusedVariables false
namespace Go.Proofs.Ytfcmmpmdofejeaa
namespace AM
open Go

theorem strOfNums_len (ns : List Int) : (strOfNums ns).size = ns.length := by
  simp [strOfNums, ByteArray.size]
theorem nums_flat (ns : List Int) : (ns.map fun n => [Da.int .u8 n]).flatten = ns.map (Da.int .u8) := by induction ns <;> simp_all
theorem nums_vals {w : World} {S : Nat → Prop} : ∀ {ns : List Int} {vs : List Value}, RepDs w S (ns.map (Da.int .u8)) vs → vs = ns.map (Value.int .u8)
  | [], vs, h => h.nil_inv
  | n :: ns, vs, h => by
    obtain ⟨v, vs', rfl, h1, h2⟩ := RepDs.cons_inv h
    rw [h1.int_inv, nums_vals h2]; rfl
section
variable {P : Program} {o : Oper} {av : Operand → Option AV} {x : Operand} {src dst : TypeId}
theorem opP_bytesO {k E : Nat} {ns : List Int} {e : TypeId} (ho : o.op = .convert src dst x) (hs : P.underlying src = some (.slice e)) (he : P.underlying e = some (.int .u8)) (hd : P.underlying dst = some .string) (hx : av x = some (.one (.ol k))) :
    OpP P o av [(k, .lst E 1 (ns.map fun n => [.int .u8 n]))] (T (strOfNums ns)) [] := by
  refine opP_val fun a w S β _ hr hu => ?_
  have h := (hr x _ hx (by simp [ho, Op.operands])).one_inv
  rcases hu (k, .lst E 1 (ns.map fun n => [.int .u8 n])) (by simp) with ⟨hob, hsm, _, vs, hown, hrep⟩ | ⟨_, h0, ad, hz0⟩
  rotate_left
  · have hn : ns = [] := by simpa using h0
    subst hn
    generalize hv : a.eval x = v at h
    cases h
    refine ⟨.string ByteArray.empty, ?_, RepV.str _ (by decide)⟩
    dsimp only at hz0
    have := run_convert_bytes_string (P := P) w src dst e ad 0 0 hs he hd
    have e2 : (Conv.bytesToString (.slice ad 0 0)).run P w = .ok (.string ByteArray.empty) w := by
      cases ad with
      | none => simp [Conv.bytesToString]
      | some b => simp [Conv.bytesToString, loadCells, loadCellsFrom]
    rw [e2] at this
    simp [execOp, ho, hv, hz0, this]
  simp only [nums_flat] at hrep
  have hvs := nums_vals hrep
  subst hvs
  generalize hv : a.eval x = v at h
  cases h
  refine ⟨.string (strOfNums ns), ?_, RepV.str _ (by rw [strOfNums_len]; simpa using hsm)⟩
  have hlen : (ns.map fun n => [Da.int .u8 n]).length = ns.length := by simp
  rcases hown.2 with ⟨hsv, h0⟩ | ⟨g, cap, cur, hsv, _⟩
  · have hn : ns = [] := by rw [hlen] at h0; exact List.length_eq_zero_iff.1 h0
    subst hn
    have := run_convert_bytes_nil (P := P) w src e hs he 0 0 dst hd
    dsimp only at hsv
    simp [execOp, ho, hv, hsv, this]
    rfl
  · dsimp only at hsv
    have hown' : w.ownsRow 0 E 1 (.slice (some ⟨g, 0, none⟩) (ns.map fun n => [Da.int .u8 n]).length cap) (ns.map fun n => [Da.int .u8 n]).length (ns.map (Value.int .u8)) := by rw [← hsv]; exact hown
    have hc := World.ownsRow.cells hown' (g := g) rfl
    have := run_convert_bytes_arg (P := P) w src e hs he g 0 ns.length cap ns rfl (fun i hi => by
      have := hc i (.int .u8 ns[i]) (by simp [hi])
      rw [add_lit] at this
      rw [this]; simp [List.getD, hi]) dst hd
    rw [hlen] at hsv
    simp [execOp, ho, hv, hsv, this]
end
section
variable {P : Program} {tab : List (Nat × TI)} {o : Oper} {s s0 : St} {x : Operand} {i i2 i3 : TI} {src dst : TypeId}
theorem os_bytesO (hT : TabOk P tab) {tr : Bool} {k E e : Nat} {ns : List Int} (ho : o.op = .convert src dst x) (hx : s.ev x = some (.one (.ol k))) (hk : s0.gob k = some (mkL tr E 1 (ns.map fun n => [.int .u8 n]))) (hs : look tab src = some i) (hp : i.pr = 4) (he : i.el = some e) (h2 : look tab e = some i2) (hik : i2.ik = some .u8) (hd : look tab dst = some i3) (hp3 : i3.pr = 2) : OpS P o s s0 (T (strOfNums ns)) [] := by
  obtain ⟨d1, j1, hd1, hj1, a1, a2, a3, a4, a5, a6, a7⟩ := tiOf_some (hT src i hs)
  obtain ⟨d2, j2, hd2, hj2, b1, b2, b3, b4, b5, b6, b7⟩ := tiOf_some (hT e i2 h2)
  obtain ⟨d3, j3, hd3, hj3, c1, c2, c3, c4, c5, c6, c7⟩ := tiOf_some (hT dst i3 hd)
  have := slice_of (a4.trans he) (a6.trans hp); subst this
  have := int_of (b7.trans hik); subst this
  have := string_of (c6.trans hp3); subst this
  exact ⟨_, (opP_bytesO ho hd1 hd2 hd3 hx).tr, hk, trivial⟩
end

end AM
end Go.Proofs.Ytfcmmpmdofejeaa
