/- The row of LogPlays: what is handed in. By this session. -/
import Derived.Test.YtilmfhpoiejmfaaJl
import Derived.Test.YtilmfhpoiejmfaaGx
namespace Go.Proofs.Ytilmfhpoiejmfaa.Gk
open Go.Proofs.Ytilmfhpoiejmfaa.Lh Go.RowKit Go.Proofs.Ytilmfhpoiejmfaa.Lg Go.ChangeShapes Go.WideShapes Go.ChangeAt
set_option maxRecDepth 100000
set_option linter.unusedSectionVars false
set_option linter.unusedVariables false
variable [Fz]
theorem u32_in {a : Int} (h : (Lit.int .u32 a).wf = true) : 0 ≤ a ∧ a < 4294967296 := by
  simp [Lit.wf, IntKind.min, IntKind.max, IntKind.bits, IntKind.signed] at h
  omega
section
variable {W : World} {H : Type} {enc : TypeId × Value → H} {base : Nat} {held : Bool}
theorem opens_deed : Opens enc Try.prog W base held 68 deedS DeedR := by
  intro n cs x h hk
  have u := Try.underlying68
  have hl : cs.length = 7 := (DataW.trod_struct u h).elim fun xs q => q.elim fun m q => q.2.2.1
  obtain ⟨a0, _, h0⟩ := opens_field u h hk (i := 0) rfl (opens_int Try.underlying3)
  obtain ⟨a1, _, h1⟩ := opens_field u h hk (i := 1) rfl (opens_int Try.underlying3)
  obtain ⟨a2, _, h2⟩ := opens_field u h hk (i := 2) rfl (opens_int Try.underlying3)
  obtain ⟨a3, k3, h3⟩ := opens_field u h hk (i := 3) rfl (opens_string Try.underlying9)
  obtain ⟨a4, k4, h4⟩ := opens_field u h hk (i := 4) rfl (opens_int Try.underlying56)
  obtain ⟨a5, k5, h5⟩ := opens_field u h hk (i := 5) rfl (opens_int Try.underlying56)
  obtain ⟨a6, _, h6⟩ := opens_field u h hk (i := 6) rfl (opens_slice (opens_bool Try.underlying4) (m := 1) (by kernel_rfl) Try.underlying22 (by decide))
  refine ⟨⟨a0, a1, a2, a3.data.toList, a4, a5, a6.length, fun i => a6.getD i default⟩, ⟨?_, u32_in k4, u32_in k5⟩, ?_⟩
  · show a3.data.toList.length ≤ 140737488351232
    have hr : reachBytes = 140737488351232 := rfl
    rw [hr] at k3
    simpa using k3
  · have e : cs = (cs.drop 0).take 1 ++ ((cs.drop 1).take 1 ++ ((cs.drop 2).take 1 ++ ((cs.drop 3).take 1 ++ ((cs.drop 4).take 1 ++ ((cs.drop 5).take 1 ++ (cs.drop 6).take 1))))) := by
      match cs, hl with
      | [p, q, r, s, t, u, v], _ => rfl
    rw [e]
    exact PS.app _ _ _ _ h0 (PS.app _ _ _ _ h1 (PS.app _ _ _ _ h2 (PS.app _ _ _ _ h3 (PS.app _ _ _ _ h4 (PS.app _ _ _ _ h5 h6)))))
theorem lLogPlays (n first count e : Int) (we : (Lit.int .u32 e).wf = true) (l : List Deed) (h1 : l.length * Try.prog.bytesOf 68 ≤ reachBytes) (h2 : ∀ i, i < l.length → DeedR (l.getD i default)) : LCalls Try.prog 13 (.cons (.int .i64 n) (.cons (.int .i64 first) (.cons (.int .i64 count) (.cons (.int .u32 e) (.cons (deedsV l) .nil))))) [] HoldsE := by
  have hb : Try.prog.bytesOf 68 = 72 := by kernel_rfl
  have hr : reachBytes = 140737488351232 := rfl
  have hl : l.length ≤ 140737488351232 := by
    rw [hr, hb] at h1
    omega
  obtain ⟨ep, rfl⟩ : ∃ k : Nat, e = k := ⟨e.toNat, by have := u32_in we; omega⟩
  exact (LogPlays n first count ep (by have := u32_in we; omega) l hl h2).mono fun _ _ h => h.1
end
end Go.Proofs.Ytilmfhpoiejmfaa.Gk
