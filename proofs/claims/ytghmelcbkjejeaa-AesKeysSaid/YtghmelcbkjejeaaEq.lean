/- '==' of arrays of integers, and of arrays of such, over arrays told as functions of the place. Over any program; no condition. -/
import Derived.Test.YtghmelcbkjejeaaMem
import Derived.ChangeKeysEq
import Derived.Laws.StructEq
namespace Go.Proofs.Ytghmelcbkjejeaa.Mem
open Go.RowKit
def eqN (n : Nat) (f g : Nat → Nat) : Bool := decide (∀ i, i < n → f i = g i)
theorem eqN_iff {n : Nat} {f g : Nat → Nat} : eqN n f g = true ↔ ∀ i, i < n → f i = g i := decide_eq_true_iff
theorem eqN_comm (n : Nat) (f g : Nat → Nat) : eqN n f g = eqN n g f := by
  rw [Bool.eq_iff_iff, eqN_iff, eqN_iff]
  exact ⟨fun h i hi => (h i hi).symm, fun h i hi => (h i hi).symm⟩
theorem eqN_true {n : Nat} {f g : Nat → Nat} (h : ∀ i, i < n → f i = g i) : eqN n f g = true := eqN_iff.2 h
section
variable {P : Program} {w : World} {k : IntKind} {n : Nat} {t e : TypeId}
theorem run_eqItems_arr (d : Nat) (he : P.underlying e = some (.int k)) (hc : P.cellsOf e = 1) (f g : Nat → Nat) : ∀ (m s : Nat), s + m ≤ n →
    (Op.eqItems (d + 1) e (P.cellsOf e) (arr k n f) (arr k n g) (List.range' s m)).run P w = .ok (eqN m (fun i => f (s + i)) (fun i => g (s + i))) w := by
  have hp : P.plainKey e = true := by simp [Program.plainKey, he]
  intro m
  induction m with
  | zero =>
    intro s _
    rw [eqN_true (fun i hi => by omega)]
    rfl
  | succ m ih =>
    intro s hs
    rw [List.range'_succ]
    have h1 : (arr k n f)[s * P.cellsOf e]? = some (.int k (f s : Int)) := by rw [hc, Nat.mul_one]; exact arr_get f s (by omega)
    have h2 : (arr k n g)[s * P.cellsOf e]? = some (.int k (g s : Int)) := by rw [hc, Nat.mul_one]; exact arr_get g s (by omega)
    simp only [Op.eqItems, Sem.run_bind, run_part_plain w hp h1, run_part_plain w hp h2, run_equalIn_int w d e k k _ _ he, Result.andThen_ok]
    by_cases hfg : f s = g s
    · rw [show ((f s : Int) == (g s : Int)) = true from by rw [hfg]; exact beq_self_eq_true _]
      simp only [Bool.not_true, Bool.false_eq_true, if_false]
      rw [ih (s + 1) (by omega)]
      congr 1
      rw [Bool.eq_iff_iff, eqN_iff, eqN_iff]
      constructor
      · intro h i hi
        by_cases h0 : i = 0
        · rw [h0]; exact hfg
        · have := h (i - 1) (by omega)
          rw [show s + 1 + (i - 1) = s + i by omega] at this
          exact this
      · intro h i hi
        have := h (i + 1) (by omega)
        rw [show s + (i + 1) = s + 1 + i by omega] at this
        exact this
    · rw [show ((f s : Int) == (g s : Int)) = false from by rw [beq_eq_false_iff_ne]; omega]
      simp only [Bool.not_false, if_true, Sem.run_pure]
      have e0 : eqN (m + 1) (fun i => f (s + i)) (fun i => g (s + i)) = false := by
        rw [Bool.eq_false_iff, ne_eq, eqN_iff]
        intro h
        exact hfg (h 0 (by omega))
      rw [e0]
theorem run_equalIn_arr (d : Nat) {i : TypeInfo} (hu : P.underlying t = some (.array n e)) (hi : P.info? e = some i) (he : P.underlying e = some (.int k)) (hc : P.cellsOf e = 1) (f g : Nat → Nat) :
    (Op.equalIn (d + 2) t (.agg (arr k n f)) (.agg (arr k n g))).run P w = .ok (eqN n f g) w := by
  rw [run_equalIn_array w (d + 1) _ _ hu hi, List.range_eq_range', run_eqItems_arr d he hc f g n 0 (by omega)]
  congr 1
  simp only [Nat.zero_add]
theorem run_eql_arr {i : TypeInfo} (hu : P.underlying t = some (.array n e)) (hi : P.info? e = some i) (he : P.underlying e = some (.int k)) (hc : P.cellsOf e = 1) (f g : Nat → Nat) :
    (binOp .eql t (.agg (arr k n f)) (.agg (arr k n g))).run P w = .ok (.bool (eqN n f g)) w := by
  rw [run_eql_struct, run_equalIn_arr 9998 hu hi he hc]
  rfl
end
end Go.Proofs.Ytghmelcbkjejeaa.Mem
