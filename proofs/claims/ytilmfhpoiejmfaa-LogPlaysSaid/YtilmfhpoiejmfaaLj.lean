/- The facts of a row that speak of the program alone: proved once for a seat. By this session. -/
import Derived.Test.YtilmfhpoiejmfaaRows
import Derived.JoinedOf
import Derived.ProofKit
namespace Go.Proofs.Ytilmfhpoiejmfaa.Lh
theorem seat_stopsHeard : Try.checked.prog.stopsHeard = true := by kernel_rfl
theorem seat_mayEnter : Try.checked.prog.mayEnter = true := by kernel_rfl
theorem seat_lifts : Try.checked.prog.liftsFinal = false := by kernel_rfl
theorem seat_make : Try.checked.prog.make = some .cut := by kernel_rfl
theorem seat_laid : laidOutB Try.checked.prog = true := by kernel_rfl
theorem seat_rowed : mapsRowed Try.checked.prog = true := by kernel_rfl
def joinedRest (P : Program) (f : FuncId) (fn : Func) (s : ChangeSpec) (c : OpenClaim) : Bool :=
  c.wf (OpenSpec.ofChange s) && fn.params.all (P.readableRec ·) && namedTie P c.named s.vars && (c.stops == []) && (P.stops == []) && (c.knobs == []) && (P.stopKnobs == []) &&
  (c.inPlace == P.inPlace f) && (c.unfollowed == P.unfollowed f) && (c.recurses == P.recurses f) && (c.named == P.varsNamed f) &&
  (c.maps == (fn.params.toList ++ s.plain.varTypes P).any (P.mapsRec ·)) && (c.ifaces == (fn.params.toList ++ s.plain.varTypes P).any (P.ifacesRec ·)) && (c.mapsOut == P.mapsAmong fn.resultTypes.toList) &&
  (c.loops == (fn.params.toList ++ s.plain.varTypes P).any (P.loopsFrom ·)) && (c.wideKeys == (fn.params.toList ++ s.plain.varTypes P ++ fn.resultTypes.toList).any (P.wideKeysFrom ·)) &&
  s.vars.all (P.varReadable ·) && fn.resultTypes.all (fun t => P.readableRec t && decide (t < P.types.size)) && (c.ifacesOut == fn.resultTypes.toList.any (P.ifacesRec ·)) && (c.loopsOut == fn.resultTypes.toList.any (P.loopsFrom ·)) && (c.plainKeys == P.plainKeys) && c.shortTexts.isNone && (c.lifted == false) && (some c.make == some Make.cut) && (c.kinds == (if c.domain.isEmpty then [] else fn.params.toList.map fun t => match P.underlying t with | some (.int k) => some k | _ => none)) && (c.pinned == c.pinnedBy) &&
  (c.veiled == (fn.params.toList ++ s.plain.varTypes P ++ fn.resultTypes.toList).any (P.veiledRec ·)) && c.veiledFits P fn.params.toList (fn.params.toList ++ s.plain.varTypes P ++ fn.resultTypes.toList)
theorem joined_of {P : Program} {f : FuncId} {fn : Func} {s : ChangeSpec} {c : OpenClaim} (h1 : P.stopsHeard = true) (h2 : P.mayEnter = true) (h3 : P.liftsFinal = false) (h4 : P.make = some .cut) (h5 : laidOutB P = true) (h6 : mapsRowed P = true) (h : joinedRest P f fn s c = true) : joinedFacts P f fn s c = true := by
  simp only [joinedRest, Bool.and_eq_true] at h
  obtain ⟨⟨⟨⟨⟨⟨⟨⟨⟨⟨⟨⟨⟨⟨⟨⟨⟨⟨⟨⟨⟨⟨⟨⟨⟨⟨⟨k1, k4⟩, k5⟩, k6⟩, k7⟩, k8⟩, k9⟩, k10⟩, k11⟩, k12⟩, k13⟩, k14⟩, k15⟩, k16⟩, k17⟩, k17b⟩, k18⟩, k19⟩, k20⟩, k21⟩, k22⟩, k23⟩, k24b⟩, k24c⟩, k25⟩, k26⟩, k27⟩, k28⟩ := h
  rw [← h3] at k24b
  have k24c := (congrArg (· == some c.make) h4).trans (by rw [beq_iff_eq] at k24c ⊢; exact k24c.symm)
  simp only [joinedFacts, Bool.and_eq_true]
  exact ⟨⟨⟨⟨⟨⟨⟨⟨⟨⟨⟨⟨⟨⟨⟨⟨⟨⟨⟨⟨⟨⟨⟨⟨⟨⟨⟨⟨⟨⟨⟨k1, h5⟩, h6⟩, k4⟩, k5⟩, k6⟩, k7⟩, k8⟩, k9⟩, k10⟩, k11⟩, k12⟩, k13⟩, k14⟩, k15⟩, k16⟩, k17⟩, k17b⟩, k18⟩, k19⟩, k20⟩, k21⟩, k22⟩, k23⟩, h1⟩, h2⟩, k24b⟩, k24c⟩, k25⟩, k26⟩, k27⟩, k28⟩
end Go.Proofs.Ytilmfhpoiejmfaa.Lh
