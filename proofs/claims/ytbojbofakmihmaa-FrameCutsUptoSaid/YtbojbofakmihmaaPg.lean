/- Frames: laws, in plain Lean. By this session. -/
import Derived.Test.YtbojbofakmihmaaPf
namespace Go.Proofs.Ytbojbofakmihmaa.Bp
set_option maxRecDepth 20000
theorem cut_rest (s : Bs) : (cut s).2.2 = false → (cut s).2.1.length ≤ 4004 := by
  induction h : s.length using Nat.strongRecOn generalizing s with
  | _ n ih =>
    rcases long_cases s with ⟨m, e, hm, hm2, _⟩ | ⟨e, hl⟩ | e
    · rw [cut_step e]
      exact ih (s.drop m).length (by rw [List.length_drop]; omega) _ rfl
    · rw [cut_stop e (by decide)]
      exact fun _ => hl
    · rw [cut_stop e (by decide)]
      intro c
      simp at c
theorem feed_rest {w c : Bs} {d : Bool} (hw : w.length ≤ 4004) : (feedP w d c).2.2.1.length ≤ 4004 := by
  unfold feedP
  split
  · exact hw
  · have := cut_rest (w ++ c)
    revert this
    rcases cut (w ++ c) with ⟨l, r, d⟩
    intro this
    cases d with
    | true => simp
    | false => exact this rfl
/-- The frames and what is left are what came. -/
theorem cut_all (s : Bs) : (cut s).1.flatten ++ (cut s).2.1 = s ∧ ∀ x ∈ (cut s).1, 2 ≤ x.length ∧ x.getD 0 0 = 48 := by
  induction h : s.length using Nat.strongRecOn generalizing s with
  | _ n ih =>
    rcases long_cases s with ⟨m, e, hm, hm2, _, h48, _⟩ | ⟨e, hl⟩ | e
    · rw [cut_step e]
      obtain ⟨h1, h2⟩ := ih (s.drop m).length (by rw [List.length_drop]; omega) _ rfl
      refine ⟨?_, fun x hx => ?_⟩
      · show (s.take m :: (cut (s.drop m)).1).flatten ++ (cut (s.drop m)).2.1 = s
        rw [List.flatten_cons, List.append_assoc, h1, List.take_append_drop]
      · rcases List.mem_cons.1 hx with rfl | hx
        · refine ⟨by rw [List.length_take]; omega, ?_⟩
          rw [← h48, List.getD_eq_getElem?_getD, List.getElem?_take_of_lt (by omega), List.getD_eq_getElem?_getD]
        · exact h2 x hx
    · rw [cut_stop e (by decide)]
      exact ⟨rfl, fun x hx => by cases hx⟩
    · rw [cut_stop e (by decide)]
      exact ⟨rfl, fun x hx => by cases hx⟩
theorem flat_len : ∀ (l : List Bs), (∀ x ∈ l, 2 ≤ x.length ∧ x.getD 0 0 = 48) → l.length ≤ l.flatten.length
  | [], _ => Nat.le_refl _
  | x :: r, h => by
    have h1 := h x List.mem_cons_self
    have h2 := flat_len r (fun y hy => h y (List.mem_cons_of_mem _ hy))
    rw [List.flatten_cons, List.length_append, List.length_cons]
    omega
theorem cut_few (s : Bs) : (cut s).1.length ≤ s.length := by
  obtain ⟨h1, h2⟩ := cut_all s
  have h3 := flat_len _ h2
  have := congrArg List.length h1
  rw [List.length_append] at this
  omega
theorem feed_few (w c : Bs) (d : Bool) : (feedP w d c).1.length ≤ w.length + c.length := by
  unfold feedP
  split
  · exact Nat.zero_le _
  · have := cut_few (w ++ c)
    rw [List.length_append] at this
    revert this
    rcases cut (w ++ c) with ⟨l, r, d⟩
    intro this
    cases d <;> exact this
theorem feed_all {w c : Bs} {l : List Bs} {e : Int} {w' : Bs} {d' : Bool} (h : feedP w false c = (l, e, w', d')) :
    ((d' = false ∧ e = 0 ∧ l.flatten ++ w' = w ++ c) ∨ (d' = true ∧ e = 100 ∧ w' = [] ∧ ∃ r, l.flatten ++ r = w ++ c)) ∧ ∀ x ∈ l, 2 ≤ x.length ∧ x.getD 0 0 = 48 := by
  have q := cut_all (w ++ c)
  revert q h
  unfold feedP
  rw [if_neg (by decide)]
  rcases cut (w ++ c) with ⟨l0, r, d⟩
  intro h q
  cases d with
  | true =>
    have h : (l0, (100 : Int), ([] : Bs), true) = _ := h
    cases h
    exact ⟨.inr ⟨rfl, rfl, rfl, r, q.1⟩, q.2⟩
  | false =>
    have h : (l0, (0 : Int), r, false) = _ := h
    cases h
    exact ⟨.inl ⟨rfl, rfl, q.1⟩, q.2⟩
theorem take_flat {l : List Bs} {i : Nat} (h : i < l.length) : (l.take (i + 1)).flatten = (l.take i).flatten ++ l.getD i [] := by
  rw [List.take_add_one, List.flatten_append, List.getD_eq_getElem?_getD, List.getElem?_eq_getElem h]
  simp
theorem flat_le {l : List Bs} {i : Nat} (h : i < l.length) : ((l.take i).flatten).length + (l.getD i []).length ≤ l.flatten.length := by
  have h1 : l.flatten = (l.take (i + 1)).flatten ++ (l.drop (i + 1)).flatten := by rw [← List.flatten_append, List.take_append_drop]
  rw [h1, List.length_append, take_flat h, List.length_append]
  omega
/-! More bytes. -/
theorem head_more {s : Bs} (x : Bs) (h : (headP s).2.2.2 ≠ 92) : headP (s ++ x) = headP s := by
  match s with
  | [] => exact absurd rfl h
  | [a] =>
    by_cases c : tagB a.toNat = false
    · cases x with
      | nil => rfl
      | cons b r => simp [headP, c]
    · exact absurd (by simp [headP, c]) h
  | [a, b] =>
    by_cases c : tagB a.toNat = false
    · simp [headP, c]
    · by_cases c1 : b.toNat < 128
      · simp [headP, c, c1]
      · by_cases c2 : b.toNat = 129
        · exact absurd (by simp [headP, c, c2]) h
        · by_cases c3 : b.toNat = 130
          · exact absurd (by simp [headP, c, c3]) h
          · simp [headP, c, c1, c2, c3]
  | [a, b, c0] =>
    by_cases c : tagB a.toNat = false
    · simp [headP, c]
    · by_cases c1 : b.toNat < 128
      · simp [headP, c, c1]
      · by_cases c2 : b.toNat = 129
        · simp [headP, c, c2]
        · by_cases c3 : b.toNat = 130
          · exact absurd (by simp [headP, c, c3]) h
          · simp [headP, c, c1, c2, c3]
  | a :: b :: c0 :: d0 :: r => simp [headP]
theorem long_more {s : Bs} (x : Bs) {n : Nat} (h : longP s = (n, 0)) : longP (s ++ x) = (n, 0) ∧ (s ++ x).take n = s.take n ∧ (s ++ x).drop n = s.drop n ++ x := by
  rcases long_cases s with ⟨m, e, hm, hm2, _, h48, t, c, hd, he, hn⟩ | ⟨e, hl⟩ | e
  · rw [h] at e
    cases e
    have hh : headP (s ++ x) = (t, c, hd, 0) := by rw [head_more x (by rw [he]; show (0 : Int) ≠ 92; decide), he]
    have h0 : (s ++ x).getD 0 0 = 48 := by
      rw [← h48, List.getD_eq_getElem?_getD, List.getElem?_append_left (by omega), List.getD_eq_getElem?_getD]
    refine ⟨?_, by rw [List.take_append_of_le_length hm2], by rw [List.drop_append_of_le_length hm2]⟩
    unfold longP
    rw [if_neg (fun q => q.2 h0), hh]
    simp only [true_and, true_or, if_true]
    rw [if_neg (by rw [List.length_append]; omega), hn]
  · rw [h] at e; cases e
  · rw [h] at e; cases e
theorem long_dead {s : Bs} (x : Bs) {n : Nat} (h : longP s = (n, 100)) : ∃ m, longP (s ++ x) = (m, 100) := by
  have hne : s ≠ [] := fun c => by rw [c] at h; cases h
  by_cases c : s.getD 0 0 ≠ 48
  · refine ⟨0, ?_⟩
    unfold longP
    refine if_pos ⟨by simp [hne], ?_⟩
    rw [List.getD_eq_getElem?_getD, List.getElem?_append_left (by cases s with | nil => exact absurd rfl hne | cons a r => simp), ← List.getD_eq_getElem?_getD]
    exact c
  · have hl : longP s = match headP s with
        | (_, ct, hl, e) => if e = 0 ∧ s.length < hl + ct then (0, 92) else if e = 0 ∨ e = 92 then (hl + ct, e) else (0, 100) := by
      conv => lhs; unfold longP
      exact if_neg fun x => c x.2
    have c : s.getD 0 0 = 48 := Classical.byContradiction fun x => c x
    have h0 : (s ++ x).getD 0 0 = 48 := by
      rw [← c, List.getD_eq_getElem?_getD, List.getElem?_append_left (by cases s with | nil => exact absurd rfl hne | cons a r => simp), List.getD_eq_getElem?_getD]
    refine ⟨0, ?_⟩
    rw [h] at hl
    rcases head_cases s with ⟨t, n', h', e⟩ | ⟨e, _⟩ | e | e
    · rw [e] at hl
      simp only [true_and, true_or, if_true] at hl
      split at hl <;> cases hl
    · rw [e] at hl
      simp at hl
    · unfold longP
      rw [if_neg (fun q => q.2 h0), head_more x (by rw [e]; show (90 : Int) ≠ 92; decide), e]
      simp
    · unfold longP
      rw [if_neg (fun q => q.2 h0), head_more x (by rw [e]; show (2 : Int) ≠ 92; decide), e]
      simp
/-- What was cut does not matter: alive. -/
theorem cut_more (s x : Bs) : (cut s).2.2 = false → cut (s ++ x) = ((cut s).1 ++ (cut ((cut s).2.1 ++ x)).1, (cut ((cut s).2.1 ++ x)).2.1, (cut ((cut s).2.1 ++ x)).2.2) := by
  induction h : s.length using Nat.strongRecOn generalizing s with
  | _ n ih =>
    rcases long_cases s with ⟨m, e, hm, hm2, _⟩ | ⟨e, hl⟩ | e
    · obtain ⟨h1, h2, h3⟩ := long_more x e
      rw [cut_step e, cut_step h1, h2, h3]
      intro hd
      rw [ih (s.drop m).length (by rw [List.length_drop]; omega) _ rfl hd]
      rfl
    · rw [cut_stop e (by decide)]
      exact fun _ => rfl
    · rw [cut_stop e (by decide)]
      intro c
      simp at c
theorem cut_dead (s x : Bs) : (cut s).2.2 = true → (cut (s ++ x)).1 = (cut s).1 ∧ (cut (s ++ x)).2.2 = true := by
  induction h : s.length using Nat.strongRecOn generalizing s with
  | _ n ih =>
    rcases long_cases s with ⟨m, e, hm, hm2, _⟩ | ⟨e, hl⟩ | e
    · obtain ⟨h1, h2, h3⟩ := long_more x e
      rw [cut_step e, cut_step h1, h2, h3]
      intro hd
      obtain ⟨q1, q2⟩ := ih (s.drop m).length (by rw [List.length_drop]; omega) _ rfl hd
      exact ⟨by simp only [q1], q2⟩
    · rw [cut_stop e (by decide)]
      intro c
      simp at c
    · obtain ⟨m, h1⟩ := long_dead x e
      rw [cut_stop e (by decide), cut_stop h1 (by decide)]
      exact fun _ => ⟨rfl, rfl⟩
/-- The answer to the one chunk and then to the other is the answer to both. -/
theorem feed_more (w a b : Bs) (d : Bool) : feedP w d (a ++ b) = ((feedP w d a).1 ++ (feedP (feedP w d a).2.2.1 (feedP w d a).2.2.2 b).1, (feedP (feedP w d a).2.2.1 (feedP w d a).2.2.2 b).2) ∨ (d = true ∧ w ≠ []) := by
  cases d with
  | true =>
    by_cases hw : w = []
    · subst hw
      exact .inl rfl
    · exact .inr ⟨rfl, hw⟩
  | false =>
    left
    have hl : ∀ w c, feedP w false c = if (cut (w ++ c)).2.2 = true then ((cut (w ++ c)).1, 100, [], true) else ((cut (w ++ c)).1, 0, (cut (w ++ c)).2.1, false) := fun w c => by
      unfold feedP
      exact if_neg (by decide)
    have e : w ++ (a ++ b) = w ++ a ++ b := (List.append_assoc _ _ _).symm
    cases hd : (cut (w ++ a)).2.2 with
    | true =>
      obtain ⟨h1, h2⟩ := cut_dead _ b hd
      rw [hl, e, if_pos h2, hl, if_pos hd, h1]
      show _ = ((cut (w ++ a)).1 ++ [], _)
      rw [List.append_nil]
      rfl
    | false =>
      have h1 := cut_more _ b hd
      rw [hl w a, if_neg (by rw [hd]; decide)]
      show _ = (_ ++ (feedP (cut (w ++ a)).2.1 false b).1, (feedP (cut (w ++ a)).2.1 false b).2)
      rw [hl, hl, e, h1]
      split <;> rfl
end Go.Proofs.Ytbojbofakmihmaa.Bp
