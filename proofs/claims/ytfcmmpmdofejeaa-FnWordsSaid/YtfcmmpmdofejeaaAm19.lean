/- A library function without a body: the first place of a byte; no conditions. -/
import Derived.Test.YtfcmmpmdofejeaaAm18
import Derived.Laws.Externs
set_option linter.unusedSimpArgs false
set_option linter.unusedVariables false
namespace Go.Proofs.Ytfcmmpmdofejeaa
namespace AM
open Go

theorem opP_indexByte {P : Program} {o : Oper} {av : Operand → Option AV} {x z : Operand} {ts : Array TypeId} {f : FuncId} {fn : Func} {q : ByteArray} {c : Int} (ho : o.op = .call { callee := .value (.func f), args := #[x, z], argTypes := ts }) (hf : P.funcs[f]? = some fn)
    (hname : (fn.name == "runtime.NumGoroutine") = false) (hb : fn.body.isNone = true) (hn : Extern.findNext fn = none) (he : Extern.find fn = some Extern.BytealgIndexByte.indexByte) (hx : av x = some (T q)) (hz : av z = some (I .u8 c)) : OpP P o av [] (Z (firstIdx q c.toNat.toUInt8)) [] := by
  refine opP_val fun a w S β _ hr _ => ⟨.int .i64 (firstIdx q c.toNat.toUInt8), ?_, RepV.int _ _⟩
  have h1 := (hr x _ hx (by simp [ho, Op.operands, Call.operands])).str_inv.1
  have h2 := (hr z _ hz (by simp [ho, Op.operands, Call.operands])).int_inv
  have hfe : a.eval (.func f) = .func (.func f) #[] #[] := rfl
  simp only [execOp, ho, resolve, hfe, Deferred.ofValue, Sem.run_bind, Sem.run_pure, Result.andThen_ok, invoke]
  rw [show (#[] : Array Value) ++ Array.map a.eval #[x, z] ++ #[] = #[.string q, .int .u8 c] by simp [h1, h2]]
  rw [run_callFunc_extern hf hname hb hn he, run_indexByte_string]
  rfl

end AM
end Go.Proofs.Ytfcmmpmdofejeaa
