/- The log: LogBack and LogElder, in plain Lean. By this session. -/
import Derived.Test.YtilmfhpoiejmfaaHt
namespace Go.Proofs.Ytilmfhpoiejmfaa.Gk
open Go.Proofs.Ytilmfhpoiejmfaa.Lg
open Go.Proofs.Ytilmfhpoiejmfaa.Dk (Disk Sec nought wrE wrD wrN wrS flE flD rdE hasB goesB went flushed armed armE crashed picked picked_mem fresh cut wrote wrote_len keepQ wrD_pend wrD_len went_same went_pend Inv Inv_wrS Inv_went)
set_option linter.unusedVariables false
set_option linter.unusedSimpArgs false
set_option linter.unusedSectionVars false
variable [Lh.Fz]
theorem fresh_cF (n first count p : Nat) : cF (fresh n).now first count p = zF := by
  unfold cF
  split
  · rw [fresh_at, byt_nought]; rfl
  · rfl
theorem fresh_dead {n first count ep : Nat} (hn : n ≤ 4096) (hc : first + count ≤ n) (h2 : 2 ≤ count) (hep : ep < 4294967296) : Dead (fresh n) first count ep 0 [] := by
  have hF : cF (fresh n).now first count = fun _ => zF := funext fun p => fresh_cF n first count p
  refine ⟨St_fresh hn, by simp [fresh]; omega, h2, hep, rfl, rfl, ?_, ?_, ?_⟩
  · rw [hF]
    unfold headOf
    rw [zF_wrong]
    rfl
  · rw [hF]
    intro p _ h1
    rw [zF_wrong] at h1
    cases h1
  · rw [hF, rdL_stop (by unfold okS; rw [zF_wrong]; simp)]
    rfl
section
variable {x : Disk} {L : LgS} {F : Nat → F8} {q0 qs : Nat} {S R : List Bs}
/-- An append where the power is not to fail. -/
theorem Live.appends_up (h : Live x L F q0 S R [] qs 0) (u : Up x) (r : Bs) (hp : x.pend.length + 50 < 1000000) : (appP x L r = (x, L, 2) ∧ 2000 < r.length) ∨ (appP x L r = (x, L, 3) ∧ r.length ≤ 2000 ∧ L.count - L.next < secN r.length) ∨ (∃ y, appP x L r = (y, { L with next := L.next + secN r.length }, 0) ∧ r.length ≤ 2000 ∧ secN r.length ≤ L.count - L.next ∧ Up y ∧ Live y { L with next := L.next + secN r.length } F q0 S (R ++ [r]) [] qs 0) := by
  rcases app_up u h.ok h.reg r with e | e | ⟨h1, h2, h3, e⟩
  · exact .inl e
  · exact .inr (.inl e)
  · rcases h.appends r hp with ⟨e2, _⟩ | ⟨e2, _⟩ | ⟨y, e2, _, _, l⟩ | ⟨y, j, e2, _⟩
    · rw [e] at e2; cases (Prod.mk.inj (Prod.mk.inj e2).2).2
    · rw [e] at e2; cases (Prod.mk.inj (Prod.mk.inj e2).2).2
    · have : y = apU L r (secN r.length) (secN r.length) 0 x := by rw [e] at e2; exact (Prod.mk.inj e2).1.symm
      exact .inr (.inr ⟨y, e2, h1, h2, by rw [this]; exact h3, l⟩)
    · rw [e] at e2
      have := (Prod.mk.inj (Prod.mk.inj e2).2).2
      cases this
theorem wrong_rd {G : Nat → F8} {ep most k : Nat} (h : rightB (G 1) = true → leN (G 1) 4 4 ≠ ep) : rdL G ep most k 1 rd0 = rd0 := by
  refine rdL_stop ?_ k
  cases c : okS (G 1) ep most 1 rd0.last rd0.inside
  · rfl
  · obtain ⟨q1, q2, _⟩ := okS_parts c
    exact absurd q2 (h q1)
/-- What was appended and made to last is told again; in another epoch nothing is. -/
theorem back_end (h : Live x L F q0 [] R [] qs 0) (u : Up x) (hF : ∀ p, 1 ≤ p → rightB (F p) = false) (hl : L.life < 4294967294) (q : Nat → Bool) (other : Nat) (ho : other < 4294967296) : ∃ y1 L1, openP (crashed (flD x) q) (L.first : Int) (L.count : Int) L.epoch = ⟨0, y1, L1, R⟩ ∧ St (crashed (flD x) q) ∧ St y1 ∧ y1.pend = [] ∧ ∃ y2 L2 S2, openP y1 (L.first : Int) (L.count : Int) other = ⟨0, y2, L2, S2⟩ ∧ (L.epoch = other ∨ S2 = []) := by
  obtain ⟨k1, k2, k3, k4⟩ := h.ok
  have hq1 := h.q1
  have hc2 := h.c2
  rcases h.syncs with ⟨e1, l1, pe⟩ | ⟨e1, _⟩
  · obtain ⟨T, hd, B, hB⟩ := l1.crash q (Rs := R) (Rt := []) (List.append_nil R).symm h.next (.inl rfl)
    have hT : T = [] := (List.append_eq_nil_iff.1 hB.symm).1
    subst hT
    rw [List.nil_append, List.append_nil] at hd
    have hst := hd.st
    obtain ⟨y1, L1, F1, q1, o1, a1, a2, a3, a4, a5, a6, a7, a8, a9, _, l2⟩ := hd.opens_up k1 (by omega) (Up.crashed _ q)
    refine ⟨y1, L1, o1, hst, l2.st, a5, ?_⟩
    -- what stands there is right in this epoch alone
    have hnow : (crashed (flD x) q).now = (flD x).now := by
      show wrote (flD x).last (picked q (flD x).pend) = _
      have := l1.st.inv.eq
      rw [pe] at this ⊢
      exact this.symm
    have hep : ∀ p, 1 ≤ p → rightB (cF y1.now L.first L.count p) = true → leN (cF y1.now L.first L.count p) 4 4 = L.epoch := by
      intro p hp hr
      rw [a8 p hp, hnow] at hr ⊢
      by_cases c : p < L.count
      · rw [l1.now p c, if_neg (by omega)] at hr ⊢
        by_cases d : q0 ≤ p ∧ p < L.next + 0
        · rw [if_pos d] at hr ⊢
          obtain ⟨r, _, i, e⟩ := lay_sec (F := F) (ep := L.epoch) (li := L.life) (R ++ []) q0 p d.1 (by rw [List.append_nil]; have := h.next; omega)
          rw [e]
          exact enc_ep k3
        · rw [if_neg d, hF p hp] at hr
          cases hr
      · rw [cF_hi (by omega), zF_wrong] at hr
        cases hr
    have hl0 : (crashed (flD x) q).now.length = x.now.length := by rw [hnow, flD_len]
    have hhead : headOf (cF y1.now L.first L.count 0) = L.life + 1 := by
      have := l2.now 0 (by rw [a2]; omega)
      rw [a1, a2, if_pos rfl, a4] at this
      rw [this, show L.life + 1 - 1 = L.life by omega]
      exact head_hdS (by omega)
    have hold : Old (cF y1.now L.first L.count) other (L.life + 1) := by
      intro p hp r1 r2 r3
      by_cases c : other = L.epoch
      · have := l2.old p hp
        rw [a7, a3, a4] at this
        rw [c] at r2
        have := this r1 r2 r3
        dsimp only at this
        omega
      · exact absurd (r2.symm.trans (hep p hp r1)) c
    have hd2 : Dead y1 L.first L.count other (L.life + 1) (rdL (cF y1.now L.first L.count) other (L.life + 1) (L.count - 1) 1 rd0).recs := ⟨l2.st, by rw [a9, hl0]; exact h.reg, hc2, ho, a5, a6.up, hhead, hold, rfl⟩
    obtain ⟨y2, L2, _, _, o2, _⟩ := hd2.opens_up k1 (by omega) a6
    refine ⟨y2, L2, _, o2, ?_⟩
    by_cases c : L.epoch = other
    · exact .inl c
    · right
      rw [wrong_rd fun r => by rw [hep 1 (Nat.le_refl 1) r]; exact c]
      rfl
  · rw [flE_up u] at e1; cases e1
theorem picked_idx {q : Nat → Bool} {p : List (Int × Sec)} {e : Int × Sec} (h : e ∈ picked q p) : ∃ k, k < p.length ∧ p[k]? = some e ∧ q k = true := by
  unfold picked at h
  obtain ⟨z, hz, rfl⟩ := List.mem_map.1 h
  obtain ⟨h1, h2⟩ := List.mem_filter.1 hz
  obtain ⟨v, i⟩ := z
  have h3 := List.mem_zipIdx_iff_getElem?.1 h1
  exact ⟨i, (List.getElem?_eq_some_iff.1 h3).1, h3, h2⟩
/-- The first record lost: nothing is told, and the next life begins at the first place. -/
theorem elder_end (h : Live x L F 1 [] R [] 1 0) (u : Up x) (hF : ∀ p, 1 ≤ p → rightB (F p) = false) (hl : L.life < 4294967294) (q : Nat → Bool) (hq : q 0 = false) : ∃ y1 L1 F1, openP (crashed x q) (L.first : Int) (L.count : Int) L.epoch = ⟨0, y1, L1, []⟩ ∧ St (crashed x q) ∧ y1.pend = [] ∧ Up y1 ∧ L1.first = L.first ∧ L1.count = L.count ∧ L1.epoch = L.epoch ∧ L1.life = L.life + 1 ∧ L1.next = 1 ∧ Live y1 L1 F1 1 [] [] [] 1 0 := by
  obtain ⟨k1, k2, k3, k4⟩ := h.ok
  have hc2 := h.c2
  obtain ⟨T, hd, _⟩ := h.crash q (Rs := []) (Rt := R) rfl rfl (.inl rfl)
  rw [List.nil_append, List.nil_append] at hd
  have hw : rightB (cF (crashed x q).now L.first L.count 1) = false := by
    have hlast := h.last 1 (by omega)
    rw [if_neg (by decide), if_neg (by omega)] at hlast
    have e : cF (crashed x q).now L.first L.count 1 = cF x.last L.first L.count 1 := by
      unfold cF
      rw [if_pos (by omega), if_pos (by omega)]
      show byt ((wrote x.last (picked q x.pend)).getD (L.first + 1) nought) = _
      rcases wrote_or (picked q x.pend) (L.first + 1) x.last with c | ⟨e, e1, e2, e3⟩
      · rw [c]
      · exfalso
        obtain ⟨k, hk, hk2, hk3⟩ := picked_idx e1
        rw [h.pend, List.length_map, List.length_range] at hk
        rw [h.pend, List.getElem?_map, List.getElem?_range hk] at hk2
        cases hk2
        have e2 : (((L.first + (1 + k) : Nat) : Int)).toNat = L.first + 1 := e2
        obtain rfl : k = 0 := by omega
        rw [hq] at hk3
        cases hk3
    rw [e, hlast]
    exact hF 1 (Nat.le_refl 1)
  have hrd : ∀ (ep most k : Nat) (G : Nat → F8), G 1 = cF (crashed x q).now L.first L.count 1 → rdL G ep most k 1 rd0 = rd0 := fun ep most k G hG => wrong_rd fun r => by rw [hG, hw] at r; cases r
  have hT : T = [] := by
    have := hd.recs
    rw [hrd _ _ _ _ rfl] at this
    exact this.symm
  subst hT
  obtain ⟨y1, L1, F1, q1, o1, a1, a2, a3, a4, a5, a6, a7, a8, a9, a10, l2⟩ := hd.opens_up k1 (by omega) (Up.crashed _ q)
  rw [hrd _ _ _ _ (a8 1 (Nat.le_refl 1))] at a10
  obtain rfl : q1 = 1 := a10
  exact ⟨y1, L1, F1, o1, hd.st, a5, a6, a1, a2, a3, a4, l2.next, l2⟩
/-- What was appended and made to last is told at the next opening. -/
theorem last_end (h : Live x L F q0 [] R [] qs 0) (u : Up x) (hl : L.life < 4294967294) (q : Nat → Bool) : ∃ y1 L1, openP (crashed (flD x) q) (L.first : Int) (L.count : Int) L.epoch = ⟨0, y1, L1, R⟩ ∧ St (crashed (flD x) q) := by
  obtain ⟨k1, k2, k3, k4⟩ := h.ok
  rcases h.syncs with ⟨e1, l1, pe⟩ | ⟨e1, _⟩
  · obtain ⟨T, hd, B, hB⟩ := l1.crash q (Rs := R) (Rt := []) (List.append_nil R).symm h.next (.inl rfl)
    obtain rfl : T = [] := (List.append_eq_nil_iff.1 hB.symm).1
    rw [List.nil_append, List.append_nil] at hd
    obtain ⟨y1, L1, F1, q1, o1, _⟩ := hd.opens_up k1 (by omega) (Up.crashed _ q)
    exact ⟨y1, L1, o1, hd.st⟩
  · rw [flE_up u] at e1; cases e1
end
end Go.Proofs.Ytilmfhpoiejmfaa.Gk
