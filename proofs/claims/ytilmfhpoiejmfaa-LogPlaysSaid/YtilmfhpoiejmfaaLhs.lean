/- What the states' comparisons say, in short. Over any program. -/
import Derived.Test.YtilmfhpoiejmfaaLh14
namespace Go.Proofs.Ytilmfhpoiejmfaa.Lh
set_option linter.unusedVariables false
/-! What the states' comparisons say, in short. -/
theorem sh0 {a b : Nat} (h : Nat.ble a b = true) : a ≤ b := Nat.le_of_ble_eq_true h
theorem sh1 {α β γ : Type} {a : α} {b : β} {c : γ} {n : Nat} {h h' : Option Nat} {k l : Nat} (e : h' = none ∨ h' = h) (e2 : Nat.ble (l + 1) k = true) : a = a ∧ b = b ∧ c = c ∧ n = n ∧ n ≤ n ∧ n ≤ n ∧ (h' = none ∨ h' = h) ∧ l < k :=
  ⟨rfl, rfl, rfl, rfl, Nat.le_refl _, Nat.le_refl _, e, Nat.le_of_ble_eq_true e2⟩
theorem sh2 {α β γ : Type} {a : α} {b : β} {c : γ} {n n' m m' : Nat} {h h' : Option Nat} {k l : Nat} (e0 : n = n' ∧ n' ≤ m' ∧ m' ≤ m) (e : h' = none ∨ h' = h) (e2 : Nat.ble (l + 1) k = true) : a = a ∧ b = b ∧ c = c ∧ n = n' ∧ n' ≤ m' ∧ m' ≤ m ∧ (h' = none ∨ h' = h) ∧ l < k :=
  ⟨rfl, rfl, rfl, e0.1, e0.2.1, e0.2.2, e, Nat.le_of_ble_eq_true e2⟩
theorem shA {α β γ : Type} {a : α} {b : β} {c : γ} {n : Nat} {h h' : Option Nat} {k l : Nat} (e : h' = none ∨ h' = h := by first | exact .inr rfl | exact .inl rfl) (e2 : Nat.ble (l + 1) k = true := by rfl) : a = a ∧ b = b ∧ c = c ∧ n = n ∧ n ≤ n ∧ n ≤ n ∧ (h' = none ∨ h' = h) ∧ l < k := sh1 e e2
theorem shB {α β γ : Type} {a : α} {b : β} {c : γ} {n n' m m' : Nat} {h h' : Option Nat} {k l : Nat} (e0 : n = n' := by first | omega | simp; done | simp; omega) (e1 : n' ≤ m' := by first | omega | simp; done | simp; omega) (e3 : m' ≤ m := by first | omega | simp; done | simp; omega) (e : h' = none ∨ h' = h := by first | exact .inr rfl | exact .inl rfl) (e2 : Nat.ble (l + 1) k = true := by rfl) : a = a ∧ b = b ∧ c = c ∧ n = n' ∧ n' ≤ m' ∧ m' ≤ m ∧ (h' = none ∨ h' = h) ∧ l < k := sh2 ⟨e0, e1, e3⟩ e e2
end Go.Proofs.Ytilmfhpoiejmfaa.Lh
