/- Acts of the disk that are handed in. By this session. -/
import Derived.Test.YtilmfhpoiejmfaaDw
import Derived.Test.YtilmfhpoiejmfaaLr
namespace Go.Proofs.Ytilmfhpoiejmfaa.Dk
open Go.Proofs.Ytilmfhpoiejmfaa.Lh
set_option maxRecDepth 100000
set_option linter.unusedSectionVars false
variable [Fz]
section
variable {W : World} {H : Type} {enc : TypeId × Value → H} {base : Nat} {held : Bool}
def actOk (a : Act) : Prop := a.nb ≤ 140737488351232
theorem opens_act : Opens enc Try.prog W base held 52 actS actOk := by
  intro n cs x h hk
  have u := Try.underlying52
  have hl : cs.length = 4 := (DataW.trod_struct u h).elim fun xs q => q.elim fun m q => q.2.2.1
  obtain ⟨a0, _, h0⟩ := opens_field u h hk (i := 0) rfl (opens_int Try.underlying3)
  obtain ⟨a1, _, h1⟩ := opens_field u h hk (i := 1) rfl (opens_int Try.underlying3)
  obtain ⟨a2, k2, h2⟩ := opens_field u h hk (i := 2) rfl (opens_slice (opens_int Try.underlying5) (m := 1) (by kernel_rfl) Try.underlying29 (by decide))
  obtain ⟨a3, _, h3⟩ := opens_field u h hk (i := 3) rfl (opens_slice (opens_bool Try.underlying4) (m := 1) (by kernel_rfl) Try.underlying22 (by decide))
  refine ⟨⟨a0, a1, a2.length, fun i => a2.getD i default, a3.length, fun i => a3.getD i default⟩, ?_, ?_⟩
  · have hb : Try.prog.bytesOf 5 = 1 := by kernel_rfl
    have := k2.1
    rw [hb] at this
    have hr : reachBytes = 140737488351232 := rfl
    show a2.length ≤ _
    omega
  · have e : cs = (cs.drop 0).take 1 ++ ((cs.drop 1).take 1 ++ ((cs.drop 2).take 1 ++ (cs.drop 3).take 1)) := by
      match cs, hl with
      | [p, q, r, s], _ => rfl
    rw [e]
    exact PS.app _ _ _ _ h0 (PS.app _ _ _ _ h1 (PS.app _ _ _ _ h2 h3))
theorem acts_ok {l : List Act} (h1 : l.length * Try.prog.bytesOf 52 ≤ reachBytes) (h2 : ∀ i, i < l.length → actOk (l.getD i default)) : ActsOk l := by
  have hb : Try.prog.bytesOf 52 = 64 := by kernel_rfl
  have hr : reachBytes = 140737488351232 := rfl
  rw [hb] at h1
  refine ⟨by omega, fun i => ?_⟩
  by_cases c : i < l.length
  · exact h2 i c
  · rw [List.getD_eq_getElem?_getD, List.getElem?_eq_none (by omega)]
    exact Nat.zero_le _
end
end Go.Proofs.Ytilmfhpoiejmfaa.Dk
