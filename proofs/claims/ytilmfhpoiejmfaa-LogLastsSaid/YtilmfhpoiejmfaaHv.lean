/- The log: LogLasts, in plain Lean. By this session. -/
import Derived.Test.YtilmfhpoiejmfaaHu
namespace Go.Proofs.Ytilmfhpoiejmfaa.Gk
open Go.Proofs.Ytilmfhpoiejmfaa.Lg
open Go.Proofs.Ytilmfhpoiejmfaa.Dk (Disk Sec nought wrE wrD wrN wrS flE flD rdE hasB goesB went flushed armed armE crashed picked picked_mem fresh cut wrote wrote_len keepQ wrD_pend wrD_len went_same went_pend Inv Inv_wrS Inv_went)
set_option linter.unusedVariables false
set_option linter.unusedSimpArgs false
set_option linter.unusedSectionVars false
variable [Lh.Fz]
/-- What stands between two acts: no log, or one; what is safe, and all that was appended. -/
structure RunS (x : Disk) (L : LgS) (n H : Nat) (safe all : List Bs) : Prop where
  first : L.first = 0
  count : L.count = n
  epoch : L.epoch = 7
  life : L.life ≤ H
  run : ∃ F q0 S Rs Rt Q qs j, Live x L F q0 S (Rs ++ Rt) Q qs j ∧ qs = q0 + secs Rs ∧ safe = S ++ Rs ∧ all = S ++ (Rs ++ Rt) ∧ ((Q = [] ∧ j = 0) ∨ ∃ r, Q = [r] ∧ j < secN r.length ∧ x.down = true)
def NoneS (x : Disk) (n H : Nat) (safe all : List Bs) : Prop := ∃ S A B, Gone x 0 n 7 H S ∧ S = safe ++ A ∧ all = S ++ B
def DeadS (x : Disk) (n H : Nat) (safe all S : List Bs) : Prop := (∃ h, h ≤ H ∧ Dead x 0 n 7 h S) ∧ (∃ A, S = safe ++ A) ∧ ∃ B, all = S ++ B
section
variable {x : Disk} {L : LgS} {n H : Nat} {safe all : List Bs}
theorem RunS.st (h : RunS x L n H safe all) : St x := by
  obtain ⟨F, q0, S, Rs, Rt, Q, qs, j, l, _⟩ := h.run
  exact l.st
theorem RunS.ok (h : RunS x L n H safe all) : LgOk L := by
  obtain ⟨F, q0, S, Rs, Rt, Q, qs, j, l, _⟩ := h.run
  exact l.ok
theorem RunS.more {H' : Nat} (h : RunS x L n H safe all) (hh : H ≤ H') : RunS x L n H' safe all := { h with life := Nat.le_trans h.life hh }
theorem NoneS.more {H' : Nat} (h : NoneS x n H safe all) (hh : H ≤ H') : NoneS x n H' safe all := by
  obtain ⟨S, A, B, h1, h2, h3⟩ := h
  exact ⟨S, A, B, h1.more hh, h2, h3⟩
/-- An append. -/
theorem RunS.app (h : RunS x L n H safe all) (r : Bs) (hp : x.pend.length + 50 < 1000000) : ∃ y L' c, appP x L r = (y, L', c) ∧ ((c = 0 ∧ RunS y L' n H safe (all ++ [r])) ∨ (c ≠ 0 ∧ RunS y L' n H safe all)) := by
  obtain ⟨F, q0, S, Rs, Rt, Q, qs, j, l, e1, e2, e3, hQ⟩ := h.run
  rcases hQ with ⟨rfl, rfl⟩ | ⟨r0, rfl, hj, hd⟩
  · rcases l.appends r hp with ⟨e, _⟩ | ⟨e, _⟩ | ⟨y, e, _, _, l2⟩ | ⟨y, k, e, k1, l2, k2⟩
    · exact ⟨_, _, _, e, .inr ⟨by decide, h⟩⟩
    · exact ⟨_, _, _, e, .inr ⟨by decide, h⟩⟩
    · exact ⟨_, _, _, e, .inl ⟨rfl, h.first, h.count, h.epoch, h.life, F, q0, S, Rs, Rt ++ [r], [], qs, 0, by rw [← List.append_assoc]; exact l2, e1, e2, by rw [e3]; simp only [List.append_assoc], .inl ⟨rfl, rfl⟩⟩⟩
    · exact ⟨_, _, _, e, .inr ⟨by decide, h.first, h.count, h.epoch, h.life, F, q0, S, Rs, Rt, [r], qs, k, l2, e1, e2, e3, .inr ⟨r, rfl, k1, k2⟩⟩⟩
  · obtain ⟨c, hc, e⟩ := app_down (L := L) hd r
    exact ⟨_, _, _, e, .inr ⟨hc, h⟩⟩
/-- A flush. -/
theorem RunS.sync (h : RunS x L n H safe all) : (flE x = 0 ∧ RunS (flD x) L n H all all) ∨ (flE x ≠ 0 ∧ RunS (flD x) L n H safe all) := by
  obtain ⟨F, q0, S, Rs, Rt, Q, qs, j, l, e1, e2, e3, hQ⟩ := h.run
  rcases hQ with ⟨rfl, rfl⟩ | ⟨r0, rfl, hj, hd⟩
  · rcases l.syncs with ⟨f1, l2, _⟩ | ⟨f1, l2, f2⟩
    · exact .inl ⟨f1, h.first, h.count, h.epoch, h.life, F, q0, S, Rs ++ Rt, [], [], L.next, 0, by rw [List.append_nil]; exact l2, l.next, e3, by rw [List.append_nil]; exact e3, .inl ⟨rfl, rfl⟩⟩
    · exact .inr ⟨by rw [f1]; decide, h.first, h.count, h.epoch, h.life, F, q0, S, Rs, Rt, [], qs, 0, l2, e1, e2, e3, .inl ⟨rfl, rfl⟩⟩
  · obtain ⟨f1, f2⟩ := fl_down hd
    exact .inr ⟨by rw [f1]; decide, by rw [f2]; exact h⟩
theorem RunS.arm (h : RunS x L n H safe all) (m : Int) : RunS (armed x m) L n H safe all := by
  obtain ⟨F, q0, S, Rs, Rt, Q, qs, j, l, e1, e2, e3, hQ⟩ := h.run
  refine ⟨h.first, h.count, h.epoch, h.life, F, q0, S, Rs, Rt, Q, qs, j, l.armed m, e1, e2, e3, hQ.imp id fun ⟨r, a, b, c⟩ => ⟨r, a, b, ?_⟩⟩
  unfold armed
  split
  · exact c
  · exact c
theorem NoneS.arm (h : NoneS x n H safe all) (m : Int) : NoneS (armed x m) n H safe all := by
  obtain ⟨S, A, B, h1, h2, h3⟩ := h
  exact ⟨S, A, B, h1.armed m, h2, h3⟩
/-- A crash. -/
theorem RunS.crash (h : RunS x L n H safe all) (q : Nat → Bool) : ∃ S, DeadS (crashed x q) n H safe all S := by
  obtain ⟨F, q0, S, Rs, Rt, Q, qs, j, l, e1, e2, e3, hQ⟩ := h.run
  obtain ⟨T, hd, B, hB⟩ := l.crash q rfl e1 (hQ.imp And.left fun ⟨r, a, b, _⟩ => ⟨r, a, b⟩)
  rw [h.first, h.count, h.epoch] at hd
  refine ⟨S ++ (Rs ++ T), ⟨L.life, h.life, hd⟩, ⟨T, by rw [e2, List.append_assoc]⟩, B, ?_⟩
  rw [e3, hB]
  simp only [List.append_assoc]
theorem NoneS.crash (h : NoneS x n H safe all) (q : Nat → Bool) : ∃ S, DeadS (crashed x q) n H safe all S := by
  obtain ⟨S, A, B, h1, h2, h3⟩ := h
  exact ⟨S, h1.dead q, ⟨A, h2⟩, B, h3⟩
theorem DeadS.st {S : List Bs} (h : DeadS x n H safe all S) : St x := by
  obtain ⟨⟨k, _, hd⟩, _⟩ := h
  exact hd.st
theorem DeadS.arm {S : List Bs} (h : DeadS x n H safe all S) (m : Int) : DeadS (armed x m) n H safe all S := by
  obtain ⟨⟨k, h1, hd⟩, h2, h3⟩ := h
  exact ⟨⟨k, h1, hd.armed m⟩, h2, h3⟩
theorem DeadS.pend {S : List Bs} (h : DeadS x n H safe all S) : x.pend = [] := by
  obtain ⟨⟨k, _, hd⟩, _⟩ := h
  exact hd.pend
/-- An opening. -/
theorem DeadS.open_ {S : List Bs} (h : DeadS x n H safe all S) (hn : n ≤ 4096) (hH : H < 4294967295) : (∃ y L, openP x ((0 : Nat) : Int) (n : Int) 7 = ⟨0, y, L, S⟩ ∧ RunS y L n (H + 1) S S) ∨ ∃ y L l, openP x ((0 : Nat) : Int) (n : Int) 7 = ⟨10, y, L, l⟩ ∧ NoneS y n (H + 1) safe all := by
  obtain ⟨⟨k, h1, hd⟩, ⟨A, h2⟩, B, h3⟩ := h
  rcases hd.opens (by omega) (by omega) with ⟨y, L, F, q0, e, a1, a2, a3, a4, a5, a6, a7, a8, a9, a10, a11, l⟩ | ⟨y, L, l, e, hg⟩
  · exact .inl ⟨y, L, e, a1, a2, a3, by rw [a4]; omega, F, q0, S, [], [], [], q0, 0, l, rfl, (List.append_nil S).symm, (List.append_nil S).symm, .inl ⟨rfl, rfl⟩⟩
  · exact .inr ⟨y, L, l, e, S, A, B, hg.more (by omega), h2, h3⟩
theorem fresh_run {n : Nat} (hn : n ≤ 4096) (h2 : 2 ≤ n) : ∃ y L, openP (fresh n) ((0 : Nat) : Int) (n : Int) 7 = ⟨0, y, L, []⟩ ∧ RunS y L n 1 [] [] := by
  have d0 := fresh_dead (n := n) (first := 0) (count := n) (ep := 7) hn (by omega) h2 (by decide)
  obtain ⟨y, L, F, q0, e, a1, a2, a3, a4, a5, a6, a7, a8, a9, a10, l⟩ := d0.opens_up (by omega) (by omega) (Up.fresh n)
  exact ⟨y, L, e, a1, a2, a3, by rw [a4]; exact Nat.le_refl _, F, q0, [], [], [], [], q0, 0, l, rfl, rfl, rfl, .inl ⟨rfl, rfl⟩⟩
end
end Go.Proofs.Ytilmfhpoiejmfaa.Gk
