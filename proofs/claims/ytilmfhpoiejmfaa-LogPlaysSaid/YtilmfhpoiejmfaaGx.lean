/- The log: what the rows hand in. By this session. -/
import Derived.Test.YtilmfhpoiejmfaaGr
import Derived.Test.YtilmfhpoiejmfaaRows
import Derived.Test.YtilmfhpoiejmfaaLr
import Derived.ProofKit
namespace Go.Proofs.Ytilmfhpoiejmfaa.Gk
open Go.Proofs.Ytilmfhpoiejmfaa.Lh Go.RowKit Go.Proofs.Ytilmfhpoiejmfaa.Lg Go.ChangeShapes Go.WideShapes Go.ChangeAt
set_option maxRecDepth 100000
set_option linter.unusedSimpArgs false
set_option linter.unusedSectionVars false
set_option linter.unusedVariables false
variable [Fz]
def HoldsE (e : LEnd) (_ : LHeap) : Prop := e = .ret (.bool true)
section
variable {W : World} {H : Type} {enc : TypeId × Value → H} {base : Nat} {held : Bool}
def StrsOk (l : List Lg.Bs) (d : DataW H) : Prop := l.length ≤ 140737488351232 ∧ ∀ i, (l.getD i []).length ≤ 140737488351232
theorem open_strs (fuel : Nat) (p : Option Addr) (len cap : Nat) (x : DataW H × List MemPlace) (h : DataW.trod enc Try.prog W base (fun _ => true) held fuel 55 [.slice p len cap] = some x) (hk : ∀ k ∈ x.1.weights Try.prog 55, k ≤ reachBytes) :
    ∃ l : List Lg.Bs, StrsOk l x.1 ∧ PV (ρi W) (strsV l) (.slice p len cap) := by
  obtain ⟨l, h1, h2, h3⟩ := open_rslB (fun s : Lg.Bs => .one (.str (bs s)) .nil) (fun s d => s.length ≤ 140737488351232) (m := 1) (by kernel_rfl) Try.underlying55 (by decide) (fun n _ cs x h hk => by
    obtain ⟨a, rfl, rfl, _⟩ := DataW.trod_string Try.underlying9 h
    refine ⟨a.data.toList, ?_, _, _, rfl, rfl, rfl, rfl⟩
    have := hk a.data.toList.length (by simp [DataW.weights])
    exact this) h hk
  have hb : Try.prog.bytesOf 9 = 16 := by kernel_rfl
  have hr : reachBytes = 140737488351232 := rfl
  rw [hb] at h1
  refine ⟨l, ⟨by omega, fun i => ?_⟩, h3⟩
  by_cases c : i < l.length
  · obtain ⟨es, sp, d, e1, e2, e3, q⟩ := h2 i c
    exact q
  · rw [List.getD_eq_getElem?_getD, List.getElem?_eq_none (by omega)]
    simp
end
end Go.Proofs.Ytilmfhpoiejmfaa.Gk
