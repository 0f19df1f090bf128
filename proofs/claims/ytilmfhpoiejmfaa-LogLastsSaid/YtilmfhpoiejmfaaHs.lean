/- The log: openings, appends and flushes of a region, in plain Lean. By this session. -/
import Derived.Test.YtilmfhpoiejmfaaHr
namespace Go.Proofs.Ytilmfhpoiejmfaa.Gk
open Go.Proofs.Ytilmfhpoiejmfaa.Lg
open Go.Proofs.Ytilmfhpoiejmfaa.Dk (Disk Sec nought wrE wrD wrN wrS flE flD rdE hasB goesB went flushed armed armE crashed picked picked_mem fresh cut wrote wrote_len keepQ wrD_pend wrD_len went_same went_pend Inv Inv_wrS Inv_went)
set_option linter.unusedVariables false
set_option linter.unusedSimpArgs false
set_option linter.unusedSectionVars false
variable [Lh.Fz]
theorem dead_of {x y : Disk} {first count ep h h' : Nat} {S : List Bs} (hd : Dead x first count ep h S) (st : St y) (len : y.now.length = x.now.length) (pe : y.pend = []) (up : y.down = false) (hc : ∀ p, 1 ≤ p → cF y.now first count p = cF x.now first count p) (hh : h ≤ h') (head : headOf (cF y.now first count 0) = h') : Dead y first count ep h' S := by
  refine ⟨st, by rw [len]; exact hd.reg, hd.c2, hd.epl, pe, up, head, fun p hp r1 r2 r3 => ?_, ?_⟩
  · rw [hc p hp] at r1 r2 r3 ⊢
    exact Nat.le_trans (hd.old p hp r1 r2 r3) hh
  · rw [rdL_congr (G := cF x.now first count) (count - 1) 1 rd0 fun i hi => hc (1 + i) (by omega), rdL_most hd.old hh (Nat.le_refl h) _ _ _ (Nat.le_refl 1)]
    exact hd.recs
/-- No log is open: whatever a crash keeps, the same is told. -/
structure Gone (x : Disk) (first count ep H : Nat) (S : List Bs) : Prop where
  st : St x
  dead : ∀ q, ∃ h, h ≤ H ∧ Dead (crashed x q) first count ep h S
theorem Dead.last {x : Disk} {first count ep h : Nat} {S : List Bs} (hd : Dead x first count ep h S) : x.last = x.now := by
  have := hd.st.inv.eq
  rw [hd.pend] at this
  exact this.symm
theorem still {x y : Disk} {first count ep h : Nat} {S : List Bs} (hd : Dead x first count ep h S) (st : St y) (e1 : y.last = x.last) (e2 : y.pend = []) (q : Nat → Bool) : Dead (crashed y q) first count ep h S := by
  have e : (crashed y q).now = x.now := by
    show wrote y.last (picked q y.pend) = x.now
    rw [e2, e1, hd.last]
    rfl
  exact dead_of hd (St_crashed st q) (by rw [e]) rfl rfl (fun p _ => by rw [e]) (Nat.le_refl h) (by rw [e]; exact hd.head)
theorem Dead.gone {x : Disk} {first count ep h : Nat} {S : List Bs} (hd : Dead x first count ep h S) : Gone x first count ep h S := ⟨hd.st, fun q => ⟨h, Nat.le_refl h, still hd hd.st rfl hd.pend q⟩⟩
theorem Gone.armed {x : Disk} {first count ep H : Nat} {S : List Bs} (hd : Gone x first count ep H S) (n : Int) : Gone (armed x n) first count ep H S := by
  refine ⟨St_armed hd.st n, fun q => ?_⟩
  have e : crashed (Dk.armed x n) q = crashed x q := by unfold Dk.armed; split <;> rfl
  rw [e]
  exact hd.dead q
theorem Gone.more {x : Disk} {first count ep H H' : Nat} {S : List Bs} (hd : Gone x first count ep H S) (h : H ≤ H') : Gone x first count ep H' S := ⟨hd.st, fun q => by
  obtain ⟨h1, h2, h3⟩ := hd.dead q
  exact ⟨h1, by omega, h3⟩⟩
theorem Dead.armed {x : Disk} {first count ep h : Nat} {S : List Bs} (hd : Dead x first count ep h S) (n : Int) : Dead (armed x n) first count ep h S := by
  have e : (Dk.armed x n).now = x.now ∧ (Dk.armed x n).pend = x.pend ∧ (Dk.armed x n).down = x.down := by unfold Dk.armed; split <;> exact ⟨rfl, rfl, rfl⟩
  exact dead_of hd (St_armed hd.st n) (by rw [e.1]) (e.2.1.trans hd.pend) (e.2.2.trans hd.up) (fun p _ => by rw [e.1]) (Nat.le_refl h) (by rw [e.1]; exact hd.head)
theorem Live.armed {x : Disk} {L : LgS} {F : Nat → F8} {q0 qs i : Nat} {S R Q : List Bs} (h : Live x L F q0 S R Q qs i) (n : Int) : Live (armed x n) L F q0 S R Q qs i := by
  have e : (Dk.armed x n).now = x.now ∧ (Dk.armed x n).last = x.last ∧ (Dk.armed x n).pend = x.pend := by unfold Dk.armed; split <;> exact ⟨rfl, rfl, rfl⟩
  exact h.same (St_armed h.st n) e.1 e.2.1 e.2.2
/-- An opening. -/
theorem Dead.opens {x : Disk} {first count ep h : Nat} {S : List Bs} (hd : Dead x first count ep h S) (h4 : first + count ≤ 4096) (hh : h < 4294967295) : (∃ y L F q0, openP x (first : Int) (count : Int) ep = ⟨0, y, L, S⟩ ∧ L.first = first ∧ L.count = count ∧ L.epoch = ep ∧ L.life = h + 1 ∧ y.pend = [] ∧ y.down = false ∧ (x.left < 0 → y.left < 0) ∧ F = (fun p => cF y.now first count p) ∧ (∀ p, 1 ≤ p → cF y.now first count p = cF x.now first count p) ∧ y.now.length = x.now.length ∧ q0 = (rdL (cF y.now first count) ep h (count - 1) 1 rd0).next ∧ Live y L F q0 S [] [] q0 0) ∨ ∃ y L l, openP x (first : Int) (count : Int) ep = ⟨10, y, L, l⟩ ∧ Gone y first count ep (h + 1) S := by
  have hreg := hd.reg
  have hc2 := hd.c2
  have hfew := hd.st.few
  have hhead : headOf (regF x first 0) = h := by rw [← cF_reg (x := x) (count := count) (by omega)]; exact hd.head
  have hu : openP x (first : Int) (count : Int) ep = op1h x first count ep h := by
    unfold openP
    rw [if_neg (by omega), if_neg (by omega), if_neg (by omega), if_neg (by omega), Int.toNat_natCast, Int.toNat_natCast, op1, if_neg (by rw [hd.up]; decide), hhead]
  rw [hu, op1h, if_neg (by omega)]
  have hsh : Short (hdS h) := short_enc
  rcases wr_cases (x := x) (n := first) (by omega) (toS (hdS h)) with ⟨e1, e2, _, e3⟩ | ⟨e1, e2, e3, e4, e5⟩
  · -- the head is written
    rw [if_neg (by rw [e1]; decide), e2]
    obtain ⟨w1, w2, w3⟩ := went_same x
    have hst : St (wrD x (first : Int) (toS (hdS h)) 64) := St_wrD hd.st (first : Int) (hdS_lt h) (by rw [hd.pend]; decide)
    rw [e2] at hst
    obtain ⟨y1, hy1⟩ : ∃ y1, y1 = wrS (went x) first (toS (hdS h)) 64 := ⟨_, rfl⟩
    have n1 : y1.now = x.now.set first (toS (hdS h)) := by rw [hy1]; show (went x).now.set first (cut _ 64) = _; rw [cut_toS hsh, w1]
    have l1 : y1.last = x.last := by rw [hy1]; exact w2
    have p1 : y1.pend = [((first : Int), toS (hdS h))] := by rw [hy1]; show (went x).pend ++ [((first : Int), cut _ 64)] = _; rw [cut_toS hsh, w3, hd.pend]; rfl
    have d1 : y1.down = false := by rw [hy1]; exact e3
    have lf1 : y1.left = (went x).left := by rw [hy1]; rfl
    rw [← hy1] at hst ⊢
    have hset : ∀ p, cF (x.now.set first (toS (hdS h))) first count p = if p = 0 then hdS h else cF x.now first count p := fun p => cF_set (q := 0) hreg (by omega) p
    have leq : ∀ z : Disk, z.left < 0 → (went z).left < 0 := fun z c => by
      unfold went
      rw [if_pos c]
      exact c
    rcases fl_cases y1 with ⟨f1, f2, f3⟩ | ⟨f1, f2, f3, f4, f5⟩
    · -- and lasts
      left
      obtain ⟨g1, g2, g3, g4⟩ := flD_ok f1
      have hy2 : St (flD y1) := St_flD hst
      rw [op2, if_neg (by rw [f1]; decide)]
      have g3' : (flD y1).now = x.now.set first (toS (hdS h)) := g3.trans n1
      obtain ⟨y, hy⟩ : ∃ y, y = flD y1 := ⟨_, rfl⟩
      rw [← hy] at g2 g3' g4 hy2 ⊢
      have hlast : y.last = y.now := by
        have := hy2.inv.eq
        rw [g4] at this
        exact this.symm
      have hcy : ∀ p, cF y.now first count p = if p = 0 then hdS h else cF x.now first count p := fun p => by rw [g3']; exact hset p
      have hcy1 : ∀ p, 1 ≤ p → cF y.now first count p = cF x.now first count p := fun p hp => by rw [hcy, if_neg (by omega)]
      have hold : Old (cF y.now first count) ep h := fun p hp r1 r2 r3 => by
        rw [hcy1 p hp] at r1 r2 r3 ⊢
        exact hd.old p hp r1 r2 r3
      have hrd : rdL (regF y first) ep h (count - 1) 1 rd0 = rdL (cF y.now first count) ep h (count - 1) 1 rd0 := rdL_congr _ _ _ fun i hi => (cF_reg (by omega)).symm
      have hrS : (rdL (cF y.now first count) ep h (count - 1) 1 rd0).recs = S := by
        rw [rdL_congr (G := cF x.now first count) (count - 1) 1 rd0 fun i hi => hcy1 (1 + i) (by omega)]
        exact hd.recs
      obtain ⟨ν, q, a1, a2, a3, a4, a5, a6⟩ := rd_first (k := count - 1) hold
      rw [hrd, hrS, ← a1]
      rw [hrS] at a5 a6
      have hleft : y.left = (went y1).left := by rw [hy, g1]; rfl
      have q1 := leq y1
      have q2 := leq x
      refine ⟨y, ⟨first, count, ep, h + 1, q⟩, _, q, rfl, rfl, rfl, rfl, rfl, g4, g2, fun c => by rw [hleft]; exact q1 (by rw [lf1]; exact q2 c), rfl, hcy1, by rw [g3', List.length_set], a1, ?_⟩
      have elen : y.now.length = x.now.length := by rw [g3', List.length_set]
      exact { st := hy2, ok := ⟨h4, by dsimp only; omega, hd.epl, by dsimp only; omega⟩, reg := by rw [elen]; exact hreg, c2 := hc2, life1 := Nat.succ_le_succ (Nat.zero_le h), q1 := a2, qs0 := Nat.le_refl _, qs1 := Nat.le_refl _, next := rfl, end_ := by show q + 0 ≤ count; omega, i_le := Nat.le_refl _, small := fun r hr => (by cases hr), F0 := fun p hp => cF_hi hp, old := hold, rd := ⟨ν, a4, fun G most m1 m2 => by have := a5 G most m1 m2; rw [show count - 1 + 1 - q = count - q by omega] at this; exact this, fun most m1 => by have := a6 most m1; rw [show count - 1 + 1 - q = count - q by omega] at this; exact this⟩, last := fun p hp => (by
          rw [hlast, hcy p]
          by_cases c : p = 0
          · rw [if_pos c, if_pos c]; rfl
          · rw [if_neg c, if_neg c, if_neg (show ¬ (q ≤ p ∧ p < q) by omega)]), now := fun p hp => (by
          rw [hcy p]
          by_cases c : p = 0
          · rw [if_pos c, if_pos c]; rfl
          · rw [if_neg c, if_neg c, if_neg (show ¬ (q ≤ p ∧ p < q + 0) by omega)]), pend := (by
          rw [g4]
          show [] = (List.range (q + 0 - q)).map _
          rw [show q + 0 - q = 0 by omega]; rfl) }
    · right
      rw [op2, if_pos (by rw [f1]; decide), f1]
      refine ⟨_, _, _, rfl, St_flD hst, fun k => ?_⟩
      have hg : (crashed (flD y1) k).now = x.now ∨ (crashed (flD y1) k).now = x.now.set first (toS (hdS h)) := by
        show wrote (flD y1).last (picked k (flD y1).pend) = _ ∨ wrote (flD y1).last (picked k (flD y1).pend) = _
        rw [f3, f4, l1, p1, hd.last]
        unfold picked
        by_cases c : k 0 = true
        · right
          simp [List.zipIdx, c]
          rfl
        · left
          simp [List.zipIdx, c]
          rfl
      have hsc := St_crashed (St_flD hst) k
      rcases hg with e | e
      · exact ⟨h, Nat.le_succ h, dead_of hd hsc (by rw [e]) rfl rfl (fun p _ => by rw [e]) (Nat.le_refl h) (by rw [e]; exact hd.head)⟩
      · exact ⟨h + 1, Nat.le_refl _, dead_of hd hsc (by rw [e, List.length_set]) rfl rfl (fun p hp => by rw [e, hset, if_neg (by omega)]) (Nat.le_succ h) (by rw [e, hset, if_pos rfl]; exact head_hdS (by omega))⟩
  · right
    rw [if_pos (by rw [e1]; decide), e1]
    have hst : St (wrD x (first : Int) (toS (hdS h)) 64) := St_wrD hd.st (first : Int) (hdS_lt h) (by rw [hd.pend]; decide)
    exact ⟨_, _, _, rfl, hst, fun k => ⟨h, Nat.le_succ h, still hd hst e3 (e4.trans hd.pend) k⟩⟩
end Go.Proofs.Ytilmfhpoiejmfaa.Gk
