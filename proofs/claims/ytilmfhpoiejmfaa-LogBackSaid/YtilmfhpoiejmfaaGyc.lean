/- The row of LogBack: what is handed in. By this session. -/
import Derived.Test.YtilmfhpoiejmfaaGyb
import Derived.Test.YtilmfhpoiejmfaaGx
namespace Go.Proofs.Ytilmfhpoiejmfaa.Gk
open Go.Proofs.Ytilmfhpoiejmfaa.Lh Go.RowKit Go.Proofs.Ytilmfhpoiejmfaa.Lg Go.ChangeShapes Go.WideShapes Go.ChangeAt
set_option linter.unusedSectionVars false
variable [Fz]
theorem u32_of {a : Int} (h : (Lit.int .u32 a).wf = true) : ∃ n : Nat, n < 4294967296 ∧ a = (n : Int) := by
  simp [Lit.wf, IntKind.min, IntKind.max, IntKind.bits, IntKind.signed] at h
  exact ⟨a.toNat, by omega, by omega⟩
theorem lLogBack {H : Type} {d : DataW H} (a : List Lg.Bs) (h : StrsOk a d) (e : Int) (we : (Lit.int .u32 e).wf = true) (o : Int) (wo : (Lit.int .u32 o).wf = true) : LCalls Try.prog 9 (.cons (strsV a) (.cons (.int .u32 e) (.cons (.int .u32 o) .nil))) [] HoldsE := by
  obtain ⟨n, hn, rfl⟩ := u32_of we
  obtain ⟨k, hk, rfl⟩ := u32_of wo
  exact (LogBack a h.1 h.2 n k hn hk).mono fun _ _ h => h.1
end Go.Proofs.Ytilmfhpoiejmfaa.Gk
