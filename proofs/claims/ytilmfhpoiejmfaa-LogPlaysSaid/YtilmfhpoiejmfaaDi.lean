/- The disk: what holds of it all the way. By this session. -/
import Derived.Test.YtilmfhpoiejmfaaDq
namespace Go.Proofs.Ytilmfhpoiejmfaa.Dk
open Go.Proofs.Ytilmfhpoiejmfaa.Lh
set_option maxRecDepth 100000
set_option linter.unusedSimpArgs false
set_option linter.unusedSectionVars false
set_option linter.unusedVariables false
variable [Fz]
structure Inv (x : Disk) : Prop extends Wf x where
  eq : x.now = wrote x.last x.pend
theorem Inv_fresh (n : Nat) : Inv (fresh n) := ⟨⟨by simp [fresh], fun k hk => absurd hk (Nat.not_lt_zero _), Nat.zero_le _⟩, rfl⟩
theorem Inv_went {x : Disk} (h : Inv x) : Inv (went x) := by
  obtain ⟨h1, h2, h3⟩ := went_same x
  exact ⟨⟨by rw [h2, h1]; exact h.len, by rw [h3, h1]; exact h.at_, by rw [h3]; exact h.few⟩, by rw [h1, h2, h3]; exact h.eq⟩
theorem Inv_wrS {x : Disk} (h : Inv x) (n : Nat) (b : Nat → Int) (m : Nat) (hn : n < x.now.length) (hp : x.pend.length < 1000000) : Inv (wrS x n b m) := by
  refine ⟨⟨by simp [wrS, h.len], fun k hk => ?_, by simp [wrS]; omega⟩, ?_⟩
  · simp only [wrS, List.length_append, List.length_cons, List.length_nil, List.length_set] at hk ⊢
    by_cases c : k < x.pend.length
    · rw [List.getD_eq_getElem?_getD, List.getElem?_append_left c, ← List.getD_eq_getElem?_getD]
      exact h.at_ k c
    · have : k = x.pend.length := by omega
      subst this
      simp
      exact hn
  · show x.now.set n (cut b m) = wrote x.last (x.pend ++ [((n : Int), cut b m)])
    rw [wrote_app, ← h.eq]
    rfl
theorem Inv_wrD {x : Disk} (h : Inv x) (n : Int) (b : Nat → Int) (m : Nat) (hp : x.pend.length < 1000000) : Inv (wrD x n b m) := by
  unfold wrD
  split
  · rename_i hw
    obtain ⟨h1, h2, h3, h4⟩ := wrE_ok hw
    obtain ⟨k, rfl, h5⟩ := hasB_nat h2
    obtain ⟨w1, w2, w3⟩ := went_same x
    exact Inv_wrS (Inv_went h) _ b m (by rw [w1]; exact h5) (by rw [w3]; exact hp)
  · unfold wrN
    split
    · exact Inv_went h
    · exact h
theorem Inv_flD {x : Disk} (h : Inv x) : Inv (flD x) := by
  unfold flD
  split
  · exact h
  · split
    · have := Inv_went h
      exact ⟨⟨by show (wrote _ _).length = _; rw [wrote_len]; exact this.len, fun k hk => absurd hk (Nat.not_lt_zero _), Nat.zero_le _⟩, this.eq⟩
    · exact Inv_went h
theorem Inv_armed {x : Disk} (h : Inv x) (n : Int) : Inv (armed x n) := by
  unfold armed
  split
  · exact ⟨⟨h.len, h.at_, h.few⟩, h.eq⟩
  · exact h
theorem Inv_crashed {x : Disk} (h : Inv x) (q : Nat → Bool) : Inv (crashed x q) := ⟨⟨rfl, fun k hk => absurd hk (Nat.not_lt_zero _), Nat.zero_le _⟩, rfl⟩
theorem went_pend (x : Disk) : (went x).pend.length = x.pend.length := by rw [(went_same x).2.2]
theorem wrD_pend (x : Disk) (n : Int) (b : Nat → Int) (m : Nat) : (wrD x n b m).pend.length ≤ x.pend.length + 1 := by
  unfold wrD
  split
  · simp [wrS, went_pend]
  · unfold wrN
    split
    · rw [went_pend]; omega
    · omega
theorem wrD_len (x : Disk) (n : Int) (b : Nat → Int) (m : Nat) : (wrD x n b m).now.length = x.now.length := by
  unfold wrD
  split
  · simp [wrS, (went_same x).1]
  · unfold wrN
    split
    · rw [(went_same x).1]
    · rfl
end Go.Proofs.Ytilmfhpoiejmfaa.Dk
