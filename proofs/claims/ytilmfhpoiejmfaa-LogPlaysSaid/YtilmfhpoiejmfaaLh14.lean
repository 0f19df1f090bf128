/- A contract over the world, of a call that leaves all that lay as it lay, as one on the heap of the mind. Over any program. -/
import Derived.Test.YtilmfhpoiejmfaaLh13
import Derived.Below
namespace Go.Proofs.Ytilmfhpoiejmfaa.Lh
open Go.RowKit
variable [Fz]
theorem Sim.below {T : Nat → Nat → Prop} {w0 : World} {ρ : Pl} {h : LHeap} {w w' : World} (s : Sim T w0 ρ h w) (b : Below w.heap.size w w') : Sim T w0 ρ h w' := by
  have old : ∀ k o, w.heap[k]? = some o → w'.heap[k]? = some o := fun k o hk => (b.block k (Array.getElem?_eq_some_iff.1 hk).1).trans hk
  refine ⟨fun i o hi => ?_, s.inj, fun i g b' n hi => Nat.lt_of_lt_of_le (s.lt i g b' n hi) b.size, b.os.trans s.os, b.tape.trans s.tape, b.output.trans s.output, Nat.le_trans s.size b.size, fun k hk => ?_, s.new, s.apart, fun k o hk => old k o (s.fz k o hk), s.fzT, s.nofz, s.glob, s.tks, s.res.imp fun Fs r => ?_⟩
  · rcases s.obj i o hi with ⟨g, b', n, ob, h1, h2, h3⟩ | h1
    · exact .inl ⟨g, b', n, ob, h1, old g ob h2, h3⟩
    · exact .inr h1
  · rcases Nat.lt_or_ge k w.heap.size with c | c
    · exact (b.block k c).trans (s.kept k hk)
    · exact absurd (s.new k (Nat.le_trans s.size c)) hk
  · exact r.keep (.refl ρ) b.size (fun _ _ _ h _ => h) (fun i o A k hi hA hk => have m := r.mine i o A k hi hA hk; ⟨b.block k m.2.2, m.2.1, Nat.lt_of_lt_of_le m.2.2 b.size⟩) (fun i j oi oj A g b' n hi hA _ hj hρ => r.off i j oi oj A g b' n hi hA hj hρ)
/-- A pure call by the world's contract: its arguments and its result are values that hold no block. -/
theorem LCalls.ofBelow {P : Program} {f : FuncId} {args : LVals} {v : LVal} (hb : hasBody P f = true) {l : List Value} {x : Value} (ha : ∀ ρ l', PVs ρ args l' → l' = l) (hv : ∀ ρ, PV ρ v x)
    (c : ∀ w, Calls P f l.toArray w fun e w' => e = .returned x ∧ Below w.heap.size w w') : LCalls P f args [] (fun e h' => e = .ret v ∧ h' = []) := by
  refine ⟨hb, fun T w0 ρ w l' hs hf hp => ?_⟩
  obtain rfl := ha ρ l' hp
  refine (c w).mono fun e w' h => ?_
  obtain ⟨rfl, b⟩ := h
  exact ⟨.ret v, [], ρ, ⟨rfl, rfl⟩, hv ρ, Ext.refl ρ, fun _ _ => rfl, hs.below b, hf, Nat.le_refl _⟩
end Go.Proofs.Ytilmfhpoiejmfaa.Lh
