/- The row of LogElder: what is handed in. By this session. -/
import Derived.Test.YtilmfhpoiejmfaaGye
import Derived.Test.YtilmfhpoiejmfaaGx
namespace Go.Proofs.Ytilmfhpoiejmfaa.Gk
open Go.Proofs.Ytilmfhpoiejmfaa.Lh Go.RowKit Go.Proofs.Ytilmfhpoiejmfaa.Lg Go.ChangeShapes Go.WideShapes Go.ChangeAt
set_option linter.unusedSectionVars false
variable [Fz]
theorem lLogElder {H : Type} {d : DataW H} (f : ByteArray) (wf : f.size ≤ 140737488351232) (a : List Lg.Bs) (h : StrsOk a d) (n : ByteArray) (wn : n.size ≤ 140737488351232) : LCalls Try.prog 10 (.cons (.str f) (.cons (strsV a) (.cons (.str n) .nil))) [] HoldsE :=
  (LogElder f.data.toList a n.data.toList (by simpa using wf) h.1 h.2 (by simpa using wn)).mono fun _ _ h => h.1
end Go.Proofs.Ytilmfhpoiejmfaa.Gk
