/- Operations of arrays, and further rules; no conditions. -/
import Derived.Test.YtfcmmpmdofejeaaAm10
set_option linter.unusedSimpArgs false
set_option linter.unusedVariables false
namespace Go.Proofs.Ytfcmmpmdofejeaa
namespace AM
open Go

section
variable {P : Program} {o : Oper} {av : Operand → Option AV} {t : TypeId} {x z : Operand}
theorem opP_buildA {ps : List (Nat × Operand)} {n : Nat} {e : TypeId} {i je : TypeInfo} {zv : Value} {cs out : List At} {zs : List (Nat × List At)} (ho : o.op = .build t ps.toArray) (ht : P.underlying t = some (.array n e)) (hi : P.info? t = some i) (hz : i.zero = some zv) (hje : P.info? e = some je)
    (hc : constAts zv.cells.toList = some cs) (has : partsA av ps = some zs) (hf : fillA (fun q => some (q * je.size, je.size)) cs zs = some out) : OpP P o av [] (mkAgg out) [] := by
  refine opP_val fun a w S β _ hr _ => ?_
  have h1 := evalParts (w := w) (S := S) (β := β) (ρ := a.eval) ps zs (fun p hp X hX => hr p.2 X hX (by simp [ho, Op.operands]; exact ⟨p.1, hp⟩)) (partsA_spec ps zs has)
  obtain ⟨ov, hov, hrep⟩ := fill_rep zs _ cs zv.cells out (constAts_rep hc) h1 hf
  refine ⟨.agg ov, ?_, by have := hrep.mk; simpa using this⟩
  have hs : (sizeOf e).run P w = .ok je.size w := by simp [sizeOf, typeInfo, hje]
  simp only [execOp, ho, Instr.build, zeroValue, typeInfo, program, Sem.run_bind, Sem.run, Result.andThen_ok, hi, hz, Sem.run_pure, run_underlying ht, hs, List.map_toArray, hov]
theorem opP_indexA {k' off n : Nat} {k : IntKind} {e : TypeId} {m : Nat} {j : TypeInfo} (ho : o.op = .indexAddr t x z) (ht : P.underlying t = some (.array m e)) (hj : P.info? e = some j) (hx : av x = some (.one (.op k' off))) (hz : av z = some (I k (n : Int))) (hn : n < m) : OpP P o av [] (.one (.op k' (off + n * j.size))) [] := by
  refine opP_val fun a w S β _ hr _ => ?_
  have h := (hr x _ hx (by simp [ho, Op.operands])).one_inv
  have h2 := (hr z _ hz (by simp [ho, Op.operands])).int_inv
  generalize hv : a.eval x = v at h
  cases h
  refine ⟨.pointer (some ⟨(β k').blk, off + n * j.size, none⟩), ?_, RepV.one .op⟩
  have hs : (sizeOf e).run P w = .ok j.size w := by simp [sizeOf, typeInfo, hj]
  have : (⟨(β k').blk, off, none⟩ : Addr).add (n * j.size) = ⟨(β k').blk, off + n * j.size, none⟩ := by unfold Addr.add; split <;> simp_all
  have hlt : 0 ≤ (n : Int) ∧ (n : Int) < (m : Int) := by omega
  simp [execOp, ho, hv, h2, Instr.indexAt, asIntOf, run_underlying ht, Instr.sureAddr, hlt, hs, this, hn]
end

section
variable {P : Program} {tab : List (Nat × TI)} {o : Oper} {s s0 : St} {y : AV} {nob : List (Nat × Ob)} {t : TypeId} {x z : Operand} {i : TI}
theorem os_buildA {n b e m : Nat} {i2 : TI} {ps : List (Nat × Operand)} {cs out : List At} {zs : List (Nat × List At)} (hT : TabOk P tab) (hz : ZeroOk P t n b cs) (ho : o.op = .build t ps.toArray) (ht : look tab t = some i) (he : i.el = some e) (hp : i.pr = 10 + m) (ht2 : look tab e = some i2) (has : partsA s.ev ps = some zs)
    (hf : fillA (fun q => some (q * i2.n, i2.n)) cs zs = some out) : OpS P o s s0 (mkAgg out) [] := by
  obtain ⟨j, zv, h1, h2, h3, h4, h5, h6⟩ := hz
  obtain ⟨d1, j1, hd, hj, g1, g2, g3, g4, g5, g6, g7⟩ := tiOf_some (hT t i ht)
  obtain ⟨d2, j2, hd2, hj2, f1, f2, f3, _⟩ := tiOf_some (hT e i2 ht2)
  have := array_of (g4.trans he) (g6.trans hp); subst this
  rw [← f2] at hf
  exact opS_of (opP_buildA ho hd h1 h4 hj2 h6 has hf)
theorem os_indexA {e m k' off n : Nat} {k : IntKind} {i2 : TI} (hT : TabOk P tab) (ho : o.op = .indexAddr t x z) (ht : look tab t = some i) (he : i.el = some e) (hp : i.pr = 10 + m) (ht2 : look tab e = some i2) (hx : s.ev x = some (.one (.op k' off))) (hz : s.ev z = some (I k (n : Int))) (hn : n < m) : OpS P o s s0 (.one (.op k' (off + n * i2.n))) [] := by
  obtain ⟨d1, j1, hd, hj, g1, g2, g3, g4, g5, g6, g7⟩ := tiOf_some (hT t i ht)
  obtain ⟨d2, j2, hd2, hj2, f1, f2, f3, _⟩ := tiOf_some (hT e i2 ht2)
  have := array_of (g4.trans he) (g6.trans hp); subst this
  rw [← f2]
  exact opS_of (opP_indexA ho hd hj2 hx hz hn)
end

theorem ev_c0 {s : St} {k : IntKind} : s.ev (.const (.int k 0)) = some (I k ((0 : Nat) : Int)) := rfl
theorem ev_c1 {s : St} {k : IntKind} : s.ev (.const (.int k 1)) = some (I k ((1 : Nat) : Int)) := rfl

end AM
end Go.Proofs.Ytfcmmpmdofejeaa
