/- Ranges over a function: the loop's record. -/
import Derived.Test.YtgmehadpfighbaaRangeF
import Derived.Test.YtgmehadpfighbaaRe
import Derived.Shelf.Abstract
set_option linter.unusedVariables false
set_option linter.unusedSimpArgs false
namespace Go.Proofs.Ytgmehadpfighbaa
open Go Go.RowKit

/-- The loop's record. -/
def recA (fn : FuncId) (tm : Array Value) (p : Tmp) (asg bd : Code) (D : Nat) (st : LoopState) (pe : Option Code) : Loop := { state := st, pending := pe, fn, tmps := tm, params := #[p], assign := asg, body := bd, defers := D }
/-- The two codes of a function's one range over a function. -/
def asgOf (f : Func) : Code := match f.body with
  | some (.seq _ (.seq (.seq _ (.block _ (.rangeFunc _ _ a _))) _)) => a
  | _ => .skip
def bdOf (f : Func) : Code := match f.body with
  | some (.seq _ (.seq (.seq _ (.block _ (.rangeFunc _ _ _ b))) _)) => b
  | _ => .skip
theorem run_putObj {w : World} (g : Nat) (o : Obj) : w.putObj g o = { w with heap := w.heap.setIfInBounds g o } := rfl
theorem fits_tmps {N : Nat} {e : Env} {a : Act} (h : Fits N e a) {t : Nat} {v : Value} (ht : e.get t = some v) : a.tmps.getD t undef = v := (h.slots t v ht).1
end Go.Proofs.Ytgmehadpfighbaa
