/- A record of so many bytes has as many sectors as the document says, for any number. No condition. -/
import Derived.Test.YtkfkjdofefhglaaPLogSectorsx1
namespace Go.Proofs.Ytkfkjdofefhglaa.Pure
open Go.RowKit Go.Proofs.Ytkfkjdofefhglaa.PLogSectors Go.Proofs.YtkfkjdofefhglaaW.PrintWords Go.Proofs.YtkfkjdofefhglaaW.PrintLast Go.Proofs.YtkfkjdofefhglaaW.PrintMore

theorem w64 (x : Int) (h : -9223372036854775808 ≤ x) (h2 : x ≤ 9223372036854775807) : wrap64 x = x := by unfold wrap64; omega
theorem wf_i64 {a : Int} (h : (Lit.int .i64 a).wf = true) : -9223372036854775808 ≤ a ∧ a ≤ 9223372036854775807 := by
  simp [Lit.wf, IntKind.min, IntKind.max, IntKind.bits, IntKind.signed] at h
  omega
/-- The reference's loop: d rounds are left. -/
theorem ref_l0 (d : Nat) : ∀ (k : Nat) (a n : Int), d < k → (a ≤ 48 → d = 0) → (48 < a → (a - 1) / 48 = d) → -9223372036854775808 ≤ a → a ≤ 16777216 → 1 ≤ n → n + d ≤ 1000000 →
    palatineref03_Sectors.l0 k a n = some (n + d) := by
  induction d with
  | zero =>
    intro k a n hk h1 h2 _ _ _ _
    obtain ⟨k, rfl⟩ : ∃ m, k = m + 1 := ⟨k - 1, by omega⟩
    simp only [palatineref03_Sectors.l0]
    rw [if_neg (by omega)]
    simp
  | succ d ih =>
    intro k a n hk h1 h2 l1 l2 l3 l4
    obtain ⟨k, rfl⟩ : ∃ m, k = m + 1 := ⟨k - 1, by omega⟩
    have hgt : a > 48 := by omega
    have e1 : wrap64 (n + 1) = n + 1 := w64 _ (by omega) (by omega)
    have e2 : wrap64 (a - 48) = a - 48 := w64 _ (by omega) (by omega)
    simp only [palatineref03_Sectors.l0, e1, e2]
    clear e1 e2
    rw [if_pos hgt, ih k _ _ (by omega) (by omega) (by omega) (by omega) (by omega) (by omega) (by omega)]
    congr 1
    omega
theorem LogSectors : palatinelaw03_LogSectors.Pure := by
  intro a h
  obtain ⟨l, u⟩ := wf_i64 h
  refine ⟨400000, ?_⟩
  unfold palatinelaw03_LogSectors.f
  obtain ⟨r, hr⟩ : ∃ r, log_Sectors.f a = some r := by unfold log_Sectors.f; split <;> exact ⟨_, rfl⟩
  rw [hr, Option.bind_some]
  unfold log_Sectors.f at hr
  by_cases c : a ≤ 48
  · rw [if_pos c] at hr
    rw [if_neg (by omega)]
    unfold palatineref03_Sectors.f
    rw [ref_l0 0 400000 a 1 (by decide) (fun _ => rfl) (by omega) l (by omega) (by decide) (by decide)]
    obtain rfl := Option.some.inj hr
    rfl
  · rw [if_neg c] at hr
    obtain rfl := Option.some.inj hr
    by_cases c2 : a > 16777216
    · rw [if_pos c2]
      simp
    · rw [if_neg c2]
      unfold palatineref03_Sectors.f
      have e1 : wrap64 (a - 1) = a - 1 := w64 _ (by omega) (by omega)
      have e2 : Int.tdiv (a - 1) 48 = (a - 1) / 48 := Int.tdiv_eq_ediv_of_nonneg (by omega)
      rw [e1, e2]
      clear e1 e2
      have e3 : wrap64 ((a - 1) / 48) = (a - 1) / 48 := w64 _ (by omega) (by omega)
      have e4 : wrap64 ((a - 1) / 48 + 1) = (a - 1) / 48 + 1 := w64 _ (by omega) (by omega)
      rw [e3, e4]
      clear e3 e4
      obtain ⟨d, hd⟩ : ∃ d : Nat, (a - 1) / 48 = d := ⟨((a - 1) / 48).toNat, by omega⟩
      rw [ref_l0 d 400000 a 1 (by omega) (by omega) (fun _ => hd) l (by omega) (by decide) (by omega), hd]
      simp
      omega

end Go.Proofs.Ytkfkjdofefhglaa.Pure
