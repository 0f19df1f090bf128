/- Frames: what is said, in plain Lean. By this session. -/
import Derived.Test.YtbojbofakmihmaaPb
namespace Go.Proofs.Ytbojbofakmihmaa.Bp
/-- How many bytes the frame has with which the text begins; the error. -/
def longP (s : Bs) : Nat × Int := if s ≠ [] ∧ s.getD 0 0 ≠ 48 then (0, 100) else match headP s with
  | (_, ct, hl, e) => if e = 0 ∧ s.length < hl + ct then (0, 92) else if e = 0 ∨ e = 92 then (hl + ct, e) else (0, 100)
/-- The frames; what is left; whether it is no frame. -/
def cutF : Nat → Bs → List Bs × Bs × Bool
  | 0, s => ([], s, false)
  | f + 1, s => match longP s with
    | (n, e) => if e = 0 then (match cutF f (s.drop n) with | (l, r, d) => (s.take n :: l, r, d)) else ([], s, decide (e = 100))
def cut (s : Bs) : List Bs × Bs × Bool := cutF (s.length + 1) s
/-- A chunk's answer: the frames, the error, what waits, dead. -/
def feedP (w : Bs) (d : Bool) (c : Bs) : List Bs × Int × Bs × Bool := if d = true then ([], 100, w, true) else match cut (w ++ c) with
  | (l, r, d) => if d = true then (l, 100, [], true) else (l, 0, r, false)
theorem head_cases (s : Bs) : (∃ t n h, headP s = (t, n, h, 0)) ∨ (headP s = (0, 0, 0, 92) ∧ s.length < 4) ∨ headP s = (0, 0, 0, 90) ∨ headP s = (0, 0, 0, 2) := by
  unfold headP
  match s with
  | [] => exact .inr (.inl ⟨rfl, by simp⟩)
  | [a] =>
    simp only
    split
    · exact .inr (.inr (.inl rfl))
    · exact .inr (.inl ⟨rfl, by simp⟩)
  | [a, b] =>
    simp only
    split
    · exact .inr (.inr (.inl rfl))
    · split
      · exact .inl ⟨_, _, _, rfl⟩
      · split
        · exact .inr (.inl ⟨rfl, by simp⟩)
        · split
          · exact .inr (.inl ⟨rfl, by simp⟩)
          · exact .inr (.inr (.inl rfl))
  | [a, b, c] =>
    simp only
    split
    · exact .inr (.inr (.inl rfl))
    · split
      · exact .inl ⟨_, _, _, rfl⟩
      · split
        · split
          · exact .inr (.inr (.inl rfl))
          · exact .inl ⟨_, _, _, rfl⟩
        · split
          · exact .inr (.inl ⟨rfl, by simp⟩)
          · exact .inr (.inr (.inl rfl))
  | a :: b :: c :: d :: r =>
    simp only
    split
    · exact .inr (.inr (.inl rfl))
    · split
      · exact .inl ⟨_, _, _, rfl⟩
      · split
        · split
          · exact .inr (.inr (.inl rfl))
          · exact .inl ⟨_, _, _, rfl⟩
        · split
          · split
            · exact .inr (.inr (.inl rfl))
            · split
              · exact .inr (.inr (.inr rfl))
              · exact .inl ⟨_, _, _, rfl⟩
          · exact .inr (.inr (.inl rfl))
/-- What 'long' says. -/
theorem long_cases (s : Bs) : (∃ n, longP s = (n, 0) ∧ 2 ≤ n ∧ n ≤ s.length ∧ n ≤ 4004 ∧ s.getD 0 0 = 48 ∧ ∃ t c h, headP s = (t, c, h, 0) ∧ n = h + c) ∨ (longP s = (0, 92) ∧ s.length ≤ 4004) ∨ (longP s = (0, 100)) := by
  unfold longP
  split
  · exact .inr (.inr rfl)
  · rename_i h48
    rcases head_cases s with ⟨t, n, h, e⟩ | ⟨e, hl⟩ | e | e
    · have hr := head_read e
      have h3 := lenB_len n
      have hne : s ≠ [] := fun c => by rw [c] at e; cases e
      rw [e]
      simp only [true_and, true_or, if_true]
      split
      · refine .inr (.inl ⟨rfl, ?_⟩)
        split at h3 <;> (try split at h3) <;> omega
      · refine .inl ⟨_, rfl, ?_, by omega, ?_, ?_, _, _, _, rfl, rfl⟩
        · split at h3 <;> (try split at h3) <;> omega
        · split at h3 <;> (try split at h3) <;> omega
        · exact Classical.byContradiction fun c => h48 ⟨hne, c⟩
    · rw [e]
      exact .inr (.inl ⟨by simp, by omega⟩)
    · rw [e]
      exact .inr (.inr (by simp))
    · rw [e]
      exact .inr (.inr (by simp))
theorem cutF_eq : ∀ (f g : Nat) (s : Bs), s.length < f → s.length < g → cutF f s = cutF g s
  | 0, _, _, h, _ => by omega
  | _, 0, _, _, h => by omega
  | f + 1, g + 1, s, h1, h2 => by
    unfold cutF
    rcases long_cases s with ⟨n, e, hn, hn2, _⟩ | ⟨e, _⟩ | e
    · rw [e]
      simp only [if_true]
      rw [cutF_eq f g (s.drop n) (by rw [List.length_drop]; omega) (by rw [List.length_drop]; omega)]
    · rw [e]; simp
    · rw [e]; simp
theorem cut_eq {f : Nat} {s : Bs} (h : s.length < f) : cutF f s = cut s := cutF_eq _ _ _ h (Nat.lt_succ_self _)
/-- One frame, and so on. -/
theorem cut_step {s : Bs} {n : Nat} (h : longP s = (n, 0)) : cut s = (s.take n :: (cut (s.drop n)).1, (cut (s.drop n)).2.1, (cut (s.drop n)).2.2) := by
  rcases long_cases s with ⟨n', e, hn, hn2, _⟩ | ⟨e, _⟩ | e
  · rw [h] at e
    cases e
    rw [← cut_eq (f := s.length) (s := s.drop n) (by rw [List.length_drop]; omega)]
    conv => lhs; unfold cut cutF
    rw [h]
    rfl
  · rw [h] at e; cases e
  · rw [h] at e; cases e
theorem cut_stop {s : Bs} {n : Nat} {e : Int} (h : longP s = (n, e)) (he : e ≠ 0) : cut s = ([], s, decide (e = 100)) := by
  unfold cut cutF
  rw [h]
  simp only [if_neg he]
end Go.Proofs.Ytbojbofakmihmaa.Bp
