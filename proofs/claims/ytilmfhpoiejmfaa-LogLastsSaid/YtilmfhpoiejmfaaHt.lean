/- The log: appends and flushes of a life, in plain Lean. By this session. -/
import Derived.Test.YtilmfhpoiejmfaaHs
namespace Go.Proofs.Ytilmfhpoiejmfaa.Gk
open Go.Proofs.Ytilmfhpoiejmfaa.Lg
open Go.Proofs.Ytilmfhpoiejmfaa.Dk (Disk Sec nought wrE wrD wrN wrS flE flD rdE hasB goesB went flushed armed armE crashed picked picked_mem fresh cut wrote wrote_len keepQ wrD_pend wrD_len went_same went_pend Inv Inv_wrS Inv_went)
set_option linter.unusedVariables false
set_option linter.unusedSimpArgs false
set_option linter.unusedSectionVars false
variable [Lh.Fz]
section
variable {x : Disk} {L : LgS} {F : Nat → F8} {q0 qs : Nat} {S R : List Bs}
theorem apW_live {r : Bs} (hs1 : L.first + L.count ≤ 4096) : ∀ (k i : Nat) {x : Disk}, Live x L F q0 S R [r] qs i → i + k = secN r.length → x.pend.length + k < 1000000 → ((apW L r (secN r.length) k i x).2 = 0 ∧ Live (apW L r (secN r.length) k i x).1 L F q0 S R [r] qs (secN r.length)) ∨ ((apW L r (secN r.length) k i x).2 = 10 ∧ ∃ j, j < secN r.length ∧ Live (apW L r (secN r.length) k i x).1 L F q0 S R [r] qs j ∧ (apW L r (secN r.length) k i x).1.down = true)
  | 0, i, x, h, hk, hp => .inl ⟨rfl, by rw [← hk]; exact h⟩
  | k + 1, i, x, h, hk, hp => by
    have hend := h.end_
    rw [secs_app, secs_one] at hend
    have hnx := h.next
    have hreg := h.reg
    rw [apW]
    have hst := St_wrD h.st ((L.first + (L.next + i) : Nat) : Int) (apS_lt L r (secN r.length) i) (by omega)
    rcases wr_cases (x := x) (n := L.first + (L.next + i)) (by omega) (toS (apS L r (secN r.length) i)) with ⟨e1, e2, _, _⟩ | ⟨e1, e2, e3, e4, e5⟩
    · rw [if_pos e1, e2]
      exact apW_live hs1 k (i + 1) (h.wrote (by omega) (by omega)) (by omega) (by
        have := wrD_pend x ((L.first + (L.next + i) : Nat) : Int) (toS (apS L r (secN r.length) i)) 64
        rw [e2] at this
        omega)
    · rw [if_neg (by rw [e1]; decide)]
      exact .inr ⟨e1, i, by omega, h.same hst e2 e3 e4, e5⟩
/-- An append. -/
theorem Live.appends (h : Live x L F q0 S R [] qs 0) (r : Bs) (hp : x.pend.length + 50 < 1000000) : (appP x L r = (x, L, 2) ∧ 2000 < r.length) ∨ (appP x L r = (x, L, 3) ∧ r.length ≤ 2000 ∧ L.count - L.next < secN r.length) ∨ (∃ y, appP x L r = (y, { L with next := L.next + secN r.length }, 0) ∧ r.length ≤ 2000 ∧ secN r.length ≤ L.count - L.next ∧ Live y { L with next := L.next + secN r.length } F q0 S (R ++ [r]) [] qs 0) ∨ ∃ y j, appP x L r = (y, L, 10) ∧ j < secN r.length ∧ Live y L F q0 S R [r] qs j ∧ y.down = true := by
  rcases appP_cases x L r with e | e | ⟨h1, h2, h3, e⟩ | ⟨h1, h2, h3, e⟩
  · exact .inl e
  · exact .inr (.inl e)
  · have hsn := secN_le h1
    rcases apW_live h.ok.fc (secN r.length) 0 (h.begin_ h1 h2) (Nat.zero_add _) (by omega) with ⟨c1, c2⟩ | ⟨c1, _⟩
    · exact .inr (.inr (.inl ⟨_, e, h1, h2, c2.done⟩))
    · rw [c1] at h3; cases h3
  · have hsn := secN_le h1
    rcases apW_live h.ok.fc (secN r.length) 0 (h.begin_ h1 h2) (Nat.zero_add _) (by omega) with ⟨c1, c2⟩ | ⟨c1, j, c2, c3, c4⟩
    · exact absurd c1 h3
    · rw [c1] at e
      exact .inr (.inr (.inr ⟨_, j, e, c2, c3, c4⟩))
theorem wrD_down {n : Int} {b : Nat → Int} (hd : x.down = true) : wrE x n 64 = 10 ∧ wrD x n b 64 = x := by
  have e : wrE x n 64 = 10 := by simp [wrE, hd]
  refine ⟨e, ?_⟩
  unfold wrD
  rw [if_neg (by rw [e]; decide), wrN, if_neg (by rw [hd]; simp)]
/-- An append to a disk that is down. -/
theorem app_down (hd : x.down = true) (r : Bs) : ∃ e, e ≠ 0 ∧ appP x L r = (x, L, e) := by
  rcases appP_cases x L r with ⟨e, _⟩ | ⟨e, _⟩ | ⟨h1, h2, h3, e⟩ | ⟨h1, h2, h3, e⟩
  · exact ⟨2, by decide, e⟩
  · exact ⟨3, by decide, e⟩
  all_goals
    have hsn := secN_le h1
    obtain ⟨n, hn⟩ : ∃ n, secN r.length = n + 1 := ⟨secN r.length - 1, by omega⟩
    have hw : apW L r (secN r.length) (secN r.length) 0 x = (x, 10) := by
      rw [show apW L r (secN r.length) (secN r.length) 0 x = apW L r (secN r.length) (n + 1) 0 x by rw [hn], apW, if_neg (by rw [(wrD_down (b := fun _ => 0) hd).1]; decide), (wrD_down hd).2, (wrD_down (b := fun _ => 0) hd).1]
    rw [hw] at h3 e
  · cases h3
  · exact ⟨10, by decide, e⟩
/-- A flush. -/
theorem Live.syncs (h : Live x L F q0 S R [] qs 0) : (flE x = 0 ∧ Live (flD x) L F q0 S R [] L.next 0 ∧ (flD x).pend = []) ∨ (flE x = 10 ∧ Live (flD x) L F q0 S R [] qs 0 ∧ (flD x).down = true) := by
  rcases fl_cases x with ⟨e1, e2, _⟩ | ⟨e1, e2, e3, e4, e5⟩
  · exact .inl ⟨e1, by rw [e2]; exact h.synced, by rw [e2]; rfl⟩
  · exact .inr ⟨e1, h.same (St_flD h.st) e2 e3 e4, e5⟩
theorem fl_down (hd : x.down = true) : flE x = 10 ∧ flD x = x := ⟨by simp [flE, hd], by simp [flD, hd]⟩
/-- Openings of a disk that is not armed go well. -/
theorem Dead.opens_up {first count ep h : Nat} (hd : Dead x first count ep h S) (h4 : first + count ≤ 4096) (hh : h < 4294967295) (hu : Up x) : ∃ y L F q0, openP x (first : Int) (count : Int) ep = ⟨0, y, L, S⟩ ∧ L.first = first ∧ L.count = count ∧ L.epoch = ep ∧ L.life = h + 1 ∧ y.pend = [] ∧ Up y ∧ F = (fun p => cF y.now first count p) ∧ (∀ p, 1 ≤ p → cF y.now first count p = cF x.now first count p) ∧ y.now.length = x.now.length ∧ q0 = (rdL (cF y.now first count) ep h (count - 1) 1 rd0).next ∧ Live y L F q0 S [] [] q0 0 := by
  rcases hd.opens h4 hh with ⟨y, L, F, q0, e, a1, a2, a3, a4, a5, a6, a7, a8, a9, a10, a11, a12⟩ | ⟨y, L, l, e, _⟩
  · exact ⟨y, L, F, q0, e, a1, a2, a3, a4, a5, ⟨a6, a7 hu.left⟩, a8, a9, a10, a11, a12⟩
  · exfalso
    have hreg := hd.reg
    have hc2 := hd.c2
    have hhead : headOf (regF x first 0) = h := by rw [← cF_reg (x := x) (count := count) (by omega)]; exact hd.head
    have hu2 : openP x (first : Int) (count : Int) ep = op1h x first count ep h := by
      unfold openP
      rw [if_neg (by omega), if_neg (by omega), if_neg (by omega), if_neg (by omega), Int.toNat_natCast, Int.toNat_natCast, op1, if_neg (by rw [hd.up]; decide), hhead]
    rw [hu2, op1h, if_neg (by omega), if_neg (by rw [wrE_up hu (by omega) (by decide)]; decide), wrD_up hu _ (by omega) (by decide), op2, if_neg (by rw [flE_up (hu.wrS _ _ _)]; decide)] at e
    have := congrArg OpR.err e
    cases this
end
end Go.Proofs.Ytilmfhpoiejmfaa.Gk
