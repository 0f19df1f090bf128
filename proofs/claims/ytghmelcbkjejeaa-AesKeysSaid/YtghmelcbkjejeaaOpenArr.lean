/- A parameter that is an array of bytes, opened: its cells are a function of the place. -/
import Derived.Test.YtghmelcbkjejeaaMem
import Derived.OpenShut
import Derived.WideShapes
import Derived.ProofKit
namespace Go.Proofs.Ytghmelcbkjejeaa.Mem
open Go.RowKit Go.ChangeShapes Go.WideShapes Go.ChangeAt
section
variable {P : Program} {w : World} {H : Type} {enc : TypeId × Value → H} {base b0 : Nat} {spare : Bool} {t e : TypeId} {r : Reach} {n : Nat} {v : Value}
theorem okWide_array (ht : P.underlying t = some (.array n e)) (h : Value.okWide P w r b0 t v) : ∃ cs, v = .agg cs ∧ cs.size = P.cellsOf t := by
  simp only [Value.okWide, ht] at h
  obtain ⟨cs, h1, h2, _⟩ := h
  exact ⟨cs, h1, h2⟩
def byteAt (cs : Array Value) (i : Nat) : Nat := match cs[i]? with | some (.int _ z) => z.toNat % 256 | _ => 0
theorem byteAt_lt (cs : Array Value) (i : Nat) : byteAt cs i < 256 := by
  unfold byteAt
  split
  · exact Nat.mod_lt _ (by decide)
  · decide
theorem open_arr {held} {d : DataW H} {ps : List MemPlace} (ht : P.underlying t = some (.array n e)) (he : P.underlying e = some (.int .u8)) (hc : P.cellsOf e = 1) (hn : P.cellsOf t = n) (hval : Value.okWide P w r b0 t v) (hd : DataW.Trod enc P w base held spare t v d ps) :
    ∃ f : Nat → Nat, v = .agg (arr .u8 n f) ∧ ∀ i, f i < 256 := by
  obtain ⟨cs, rfl, hs⟩ := okWide_array ht hval
  obtain ⟨fuel, hf⟩ := hd
  obtain ⟨xs, m, _, _, _, hl, hx⟩ := DataW.trod_array ht hf
  refine ⟨byteAt cs, ?_, byteAt_lt cs⟩
  congr 1
  apply Array.ext_getElem?
  intro i
  by_cases hi : i < n
  · have h := hx i hi
    rw [List.getElem?_eq_getElem (by omega)] at h
    obtain ⟨z, h1, _, h3⟩ := DataW.trod_int he h
    rw [hc, Nat.mul_one] at h1
    have hci : cs[i]? = some (.int .u8 z) := by
      have hz : (List.take 1 (List.drop i (Value.agg cs).cells.toList))[0]? = some (.int .u8 z) := by rw [h1]; rfl
      rw [List.getElem?_take_of_lt (by decide), List.getElem?_drop, Nat.add_zero] at hz
      simpa [Value.cells] using hz
    rw [hci, arr_get _ i hi]
    have hw : 0 ≤ z ∧ z < 256 := by
      simp only [Lit.wf, Bool.and_eq_true, decide_eq_true_eq, show IntKind.u8.min = 0 from rfl, show IntKind.u8.max = 255 from rfl] at h3
      omega
    congr 2
    unfold byteAt
    rw [hci]
    show z = ((z.toNat % 256 : Nat) : Int)
    omega
  · rw [arr_out _ i hi, Array.getElem?_eq_none (by omega)]
end
end Go.Proofs.Ytghmelcbkjejeaa.Mem
