/- The laws of the log: LogPlays. By this session. -/
import Derived.Test.YtilmfhpoiejmfaaJk
namespace Go.Proofs.Ytilmfhpoiejmfaa.Gk
open Go.Proofs.Ytilmfhpoiejmfaa.Lh Go.RowKit Go.Proofs.Ytilmfhpoiejmfaa.Lg Go.Proofs.Ytilmfhpoiejmfaa.Gdk
open Go.Proofs.Ytilmfhpoiejmfaa.Dk (Disk Sec nought diskR wrE wrD wrS flE flD flushed rdE crashed picked fresh armed armE arm' new_ok' New_err rNew_ok rNew_err crash' keepQ boolS refO rsO rpO Inv Inv_fresh Inv_crashed)
set_option maxRecDepth 100000
set_option linter.unusedSimpArgs false
set_option linter.unusedSectionVars false
set_option linter.unusedVariables false
variable [Fz]
theorem op_first {x : Disk} (h : St x) {first count : Int} {ep : Nat} (he : (openP x first count ep).err = 0) : 0 ≤ first ∧ first ≤ 4096 := by
  have hn := h.few
  by_cases c : first < 0 ∨ (x.now.length : Int) < first
  · exfalso
    unfold openP at he
    by_cases c1 : first < 0
    · rw [if_pos c1] at he
      exact absurd (show (1 : Int) = 0 from he) (by decide)
    rw [if_neg c1] at he
    by_cases c2 : count < 2
    · rw [if_pos c2] at he
      exact absurd (show (1 : Int) = 0 from he) (by decide)
    rw [if_neg c2, if_pos (by omega)] at he
    exact absurd (show (1 : Int) = 0 from he) (by decide)
  · omega
theorem deed_neg (dd : Deed) (hd : DeedR dd) : DeedR { dd with a := 0 } := ⟨hd.r, hd.ep, hd.li⟩
set_option maxHeartbeats 2000000 in
theorem LogPlays (n first count : Int) (ep : Nat) (hep : ep < 4294967296) (l : List Deed) (hl : l.length ≤ 140737488351232) (hs : ∀ i, i < l.length → DeedR (l.getD i default)) : LCalls Try.prog 13 (.cons (.int .i64 n) (.cons (.int .i64 first) (.cons (.int .i64 count) (.cons (wN ep) (.cons (deedsV l) .nil))))) [] (fun e h' => e = .ret (.bool true) ∧ h' = []) := by
  refine LCalls.tell ?_; refine enter13 rfl ?_; conv => whnf
  refine LCalls.use awake [] rfl rfl trivial ?_
  rintro _ _ ⟨rfl, rfl⟩
  conv => whnf
  by_cases h1 : 1 ≤ n ∧ n ≤ 4096
  case neg =>
    refine LCalls.use (New_err n h1) [] rfl rfl trivial ?_
    rintro _ _ ⟨rfl, rfl⟩
    conv => whnf
    refine LCalls.use (rNew_err n h1) [] rfl rfl trivial ?_
    rintro _ _ ⟨rfl, rfl⟩
    conv => whnf
    refine ⟨[], _, _, rfl, rfl, ?_, ?_, rfl, rfl⟩
    · (repeat' first | exact trivial | exact rfl | exact sh0 rfl | exact Nat.le_refl _ | exact .inl shA | exact .inr ⟨rfl, rfl, rfl, rfl, rfl⟩ | exact .inl shB | exact fun h => h | refine ⟨?_, ?_, ?_, .inl ?_⟩ | refine ⟨?_, ?_⟩ | refine fun ii hii => ?_ | omega | fail)
    · (repeat' first | exact trivial | exact rfl | exact sh0 rfl | exact Nat.le_refl _ | exact .inl shA | exact .inr ⟨rfl, rfl, rfl, rfl, rfl⟩ | exact .inl shB | exact fun h => h | refine ⟨?_, ?_, ?_, .inl ?_⟩ | refine ⟨?_, ?_⟩ | refine fun ii hii => ?_ | omega | fail)
  obtain ⟨n, rfl⟩ : ∃ m : Nat, n = m := ⟨n.toNat, by omega⟩
  have hn0 : 1 ≤ n := by omega
  have hn1 : n ≤ 4096 := by omega
  refine LCalls.use (new_ok' n hn0 hn1) [] rfl rfl trivial ?_
  rintro _ _ ⟨τ, rfl, rfl⟩
  conv => whnf
  refine LCalls.use (rNew_ok n hn0 hn1) [] rfl rfl trivial ?_
  rintro _ _ ⟨rfl, rfl⟩
  conv => whnf
  have s0 := St_fresh (n := n) hn1
  have p0 : (fresh n).pend.length = 0 := rfl
  obtain ⟨x, hx⟩ : ∃ x, x = fresh n := ⟨_, rfl⟩
  rw [← hx] at s0 p0 ⊢
  have oo := op_ok s0 first count hep (by omega)
  have po := oo.pend
  refine LCalls.pre [0, 1, 2, 3, 4, 98, 99] (.cons (.ptr ⟨4, [], 0⟩) .nil) (nilA τ first count ep x) rfl rfl ?_ ?_ ?_
  · (repeat' first | exact trivial | exact rfl | exact sh0 rfl | exact Nat.le_refl _ | exact .inl shA | exact .inr ⟨rfl, rfl, rfl, rfl, rfl⟩ | exact .inl shB | exact fun h => h | refine ⟨?_, ?_, ?_, .inl ?_⟩ | refine ⟨?_, ?_⟩ | refine fun ii hii => ?_ | omega | fail)
  · (repeat' first | exact trivial | exact rfl | exact sh0 rfl | exact Nat.le_refl _ | exact .inl shA | exact .inr ⟨rfl, rfl, rfl, rfl, rfl⟩ | exact .inl shB | exact fun h => h | refine ⟨?_, ?_, ?_, .inl ?_⟩ | refine ⟨?_, ?_⟩ | refine fun ii hii => ?_ | omega | fail)
  refine LCalls.use (opened τ x s0 first count ep hep (by omega) .nilp .nilp none none) [0, 1, 2, 3, 4, 5, 6] rfl rfl ⟨rfl, rfl, rfl, rfl, rfl, trivial, trivial, trivial⟩ ?_
  rintro _ _ ⟨rfl, (⟨h0, rfl⟩ | rfl | rfl)⟩
  rotate_left
  · conv => whnf
    refine ⟨[], _, _, rfl, rfl, ?_, ?_, rfl, rfl⟩
    · (repeat' first | exact trivial | exact rfl | exact sh0 rfl | exact Nat.le_refl _ | exact .inl shA | exact .inr ⟨rfl, rfl, rfl, rfl, rfl⟩ | exact .inl shB | exact fun h => h | refine ⟨?_, ?_, ?_, .inl ?_⟩ | refine ⟨?_, ?_⟩ | refine fun ii hii => ?_ | omega | fail)
    · (repeat' first | exact trivial | exact rfl | exact sh0 rfl | exact Nat.le_refl _ | exact .inl shA | exact .inr ⟨rfl, rfl, rfl, rfl, rfl⟩ | exact .inl shB | exact fun h => h | refine ⟨?_, ?_, ?_, .inl ?_⟩ | refine ⟨?_, ?_⟩ | refine fun ii hii => ?_ | omega | fail)
  · conv => whnf
    refine ⟨[], _, _, rfl, rfl, ?_, ?_, rfl, rfl⟩
    · (repeat' first | exact trivial | exact rfl | exact sh0 rfl | exact Nat.le_refl _ | exact .inl shA | exact .inr ⟨rfl, rfl, rfl, rfl, rfl⟩ | exact .inl shB | exact fun h => h | refine ⟨?_, ?_, ?_, .inl ?_⟩ | refine ⟨?_, ?_⟩ | refine fun ii hii => ?_ | omega | fail)
    · (repeat' first | exact trivial | exact rfl | exact sh0 rfl | exact Nat.le_refl _ | exact .inl shA | exact .inr ⟨rfl, rfl, rfl, rfl, rfl⟩ | exact .inl shB | exact fun h => h | refine ⟨?_, ?_, ?_, .inl ?_⟩ | refine ⟨?_, ?_⟩ | refine fun ii hii => ?_ | omega | fail)
  have hf := op_first s0 h0
  have ok0 := oo.ok h0
  have st0 := oo.st
  obtain ⟨y, hy⟩ : ∃ y, y = (openP x first count ep).y := ⟨_, rfl⟩
  obtain ⟨L, hL⟩ : ∃ L, L = (openP x first count ep).L := ⟨_, rfl⟩
  rw [← hy] at st0 po ⊢
  rw [← hL] at ok0 ⊢
  conv => whnf
  refine Loop.inv (lwp_mono _) (fun m t1 h => ∃ (i : Nat) (y : Disk), i ≤ 100 ∧ St y ∧ y.pend.length ≤ 50 * i + 1 ∧ m = 100 - i ∧ t1 = [.any, .any, .any, .any, deedsV l, .any, .any, .any, .any, .any, .any, .bool true, .any, .any, .any, .any, .ptr ⟨4, [], 0⟩, .any, .int .i64 (i : Int), .any, .any, .any, .any, .any, .any, .any, .any, .any, .any, .any, .any, .any, .any, .any, .any, .any, .any, .any, .any, .any, .any, .any, .any, .any, .any, .any, .any, .any, .any, .any, .any, .any, .any, .any, .any, .any, .any, .any, .any, .any, .any, .any, .any, .any, .any, .any, .any, .any, .any, .any, .any, .any, .any, .any, .any, .any, .any, .any, .any, .any, .any, .any, .any, .any, .any, .any, .any, .any, .any, .any, .any, .any, .any, .any, .any, .any, .any] ∧ ((∃ L, LgOk L ∧ h = sA τ first count ep y L) ∨ h = nilA τ first count ep y)) ?_ ?_
  · refine ⟨_, _, _, ⟨[], trivial, [0, 1, 2, 7, 4, 8, 9], rfl, rfl, ?_, ?_⟩, 0, y, by omega, st0, by omega, rfl, rfl, .inl ⟨L, ok0, rfl⟩⟩
    · (repeat' first | exact trivial | exact rfl | exact sh0 rfl | exact Nat.le_refl _ | exact .inl shA | exact .inr ⟨rfl, rfl, rfl, rfl, rfl⟩ | exact .inl shB | exact fun h => h | refine ⟨?_, ?_, ?_, .inl ?_⟩ | refine ⟨?_, ?_⟩ | refine fun ii hii => ?_ | omega | fail)
    · (repeat' first | exact trivial | exact rfl | exact sh0 rfl | exact Nat.le_refl _ | exact .inl shA | exact .inr ⟨rfl, rfl, rfl, rfl, rfl⟩ | exact .inl shB | exact fun h => h | refine ⟨?_, ?_, ?_, .inl ?_⟩ | refine ⟨?_, ?_⟩ | refine fun ii hii => ?_ | omega | fail)
  · rintro m _ _ ⟨i, y, hi, st, hp, rfl, rfl, (⟨L, ok, rfl⟩ | rfl)⟩
    · unfold sA
      conv => whnf
      by_cases h3 : i < l.length
      case neg =>
        rewrite [show decide ((i : Int) < (l.length : Int)) = false from decide_eq_false (by omega)]
        conv => whnf
        refine ⟨[], _, _, rfl, rfl, ?_, ?_, rfl, rfl⟩
        · (repeat' first | exact trivial | exact rfl | exact sh0 rfl | exact Nat.le_refl _ | exact .inl shA | exact .inr ⟨rfl, rfl, rfl, rfl, rfl⟩ | exact .inl shB | exact fun h => h | refine ⟨?_, ?_, ?_, .inl ?_⟩ | refine ⟨?_, ?_⟩ | refine fun ii hii => ?_ | omega | fail)
        · (repeat' first | exact trivial | exact rfl | exact sh0 rfl | exact Nat.le_refl _ | exact .inl shA | exact .inr ⟨rfl, rfl, rfl, rfl, rfl⟩ | exact .inl shB | exact fun h => h | refine ⟨?_, ?_, ?_, .inl ?_⟩ | refine ⟨?_, ?_⟩ | refine fun ii hii => ?_ | omega | fail)
      rewrite [show decide ((i : Int) < (l.length : Int)) = true from decide_eq_true (by omega)]
      conv => whnf
      by_cases h4 : i < 100
      case neg =>
        rewrite [show decide ((i : Int) < 100) = false from decide_eq_false (by omega)]
        conv => whnf
        refine ⟨[], _, _, rfl, rfl, ?_, ?_, rfl, rfl⟩
        · (repeat' first | exact trivial | exact rfl | exact sh0 rfl | exact Nat.le_refl _ | exact .inl shA | exact .inr ⟨rfl, rfl, rfl, rfl, rfl⟩ | exact .inl shB | exact fun h => h | refine ⟨?_, ?_, ?_, .inl ?_⟩ | refine ⟨?_, ?_⟩ | refine fun ii hii => ?_ | omega | fail)
        · (repeat' first | exact trivial | exact rfl | exact sh0 rfl | exact Nat.le_refl _ | exact .inl shA | exact .inr ⟨rfl, rfl, rfl, rfl, rfl⟩ | exact .inl shB | exact fun h => h | refine ⟨?_, ?_, ?_, .inl ?_⟩ | refine ⟨?_, ?_⟩ | refine fun ii hii => ?_ | omega | fail)
      rewrite [show decide ((i : Int) < 100) = true from decide_eq_true (by omega)]
      conv => whnf
      refine ⟨⟨by omega, by omega⟩, ?_⟩
      rewrite [Int.toNat_natCast]
      conv => whnf
      have hd := hs i h3
      obtain ⟨dd, hdd⟩ : ∃ dd, dd = l.getD i default := ⟨_, rfl⟩
      rw [← hdd] at hd
      rewrite [show l.getD i default = dd from hdd.symm]
      by_cases h5 : dd.a < 0
      · rewrite [show decide (dd.a < 0) = true from decide_eq_true h5]
        conv => whnf
        refine LCalls.use (doesS τ y st L ok first count hf ep hep (by omega) { dd with a := 0 } (deed_neg dd hd) (Int.le_refl 0)) [0, 1, 2, 3, 4, 5, 6] rfl rfl ⟨rfl, rfl, rfl, rfl, rfl, rfl, rfl, trivial⟩ ?_
        rintro _ _ ⟨rfl, y2, s2, p2, (⟨L2, k2, (rfl | rfl | rfl)⟩ | rfl | rfl)⟩
        · conv => whnf
          refine LCalls.use (sameS τ y2 first count ep L2 k2) [0, 1, 2, 3, 4, 5, 6] rfl rfl ⟨rfl, rfl, rfl, rfl, rfl, rfl, rfl, trivial⟩ ?_
          rintro _ _ ⟨rfl, rfl⟩
          conv => whnf
          rewrite [w64 (n := (i : Int) + 1) (by omega)]
          refine ⟨_, _, _, ?_, ⟨[], trivial, [0, 1, 2, 3, 4, 5, 6], rfl, rfl, ?_, ?_⟩, i + 1, y2, by omega, s2, by omega, rfl, rfl, .inl ⟨L2, k2, rfl⟩⟩
          · omega
          · (repeat' first | exact trivial | exact rfl | exact sh0 rfl | exact Nat.le_refl _ | exact .inl shA | exact .inr ⟨rfl, rfl, rfl, rfl, rfl⟩ | exact .inl shB | exact fun h => h | refine ⟨?_, ?_, ?_, .inl ?_⟩ | refine ⟨?_, ?_⟩ | refine fun ii hii => ?_ | omega | fail)
          · (repeat' first | exact trivial | exact rfl | exact sh0 rfl | exact Nat.le_refl _ | exact .inl shA | exact .inr ⟨rfl, rfl, rfl, rfl, rfl⟩ | exact .inl shB | exact fun h => h | refine ⟨?_, ?_, ?_, .inl ?_⟩ | refine ⟨?_, ?_⟩ | refine fun ii hii => ?_ | omega | fail)
        · conv => whnf
          refine LCalls.use (sameS τ y2 first count ep L2 k2) [0, 1, 2, 8, 4, 5, 6] rfl rfl ⟨rfl, rfl, rfl, rfl, rfl, rfl, rfl, trivial⟩ ?_
          rintro _ _ ⟨rfl, rfl⟩
          conv => whnf
          rewrite [w64 (n := (i : Int) + 1) (by omega)]
          refine ⟨_, _, _, ?_, ⟨[], trivial, [0, 1, 2, 8, 4, 5, 6], rfl, rfl, ?_, ?_⟩, i + 1, y2, by omega, s2, by omega, rfl, rfl, .inl ⟨L2, k2, rfl⟩⟩
          · omega
          · (repeat' first | exact trivial | exact rfl | exact sh0 rfl | exact Nat.le_refl _ | exact .inl shA | exact .inr ⟨rfl, rfl, rfl, rfl, rfl⟩ | exact .inl shB | exact fun h => h | refine ⟨?_, ?_, ?_, .inl ?_⟩ | refine ⟨?_, ?_⟩ | refine fun ii hii => ?_ | omega | fail)
          · (repeat' first | exact trivial | exact rfl | exact sh0 rfl | exact Nat.le_refl _ | exact .inl shA | exact .inr ⟨rfl, rfl, rfl, rfl, rfl⟩ | exact .inl shB | exact fun h => h | refine ⟨?_, ?_, ?_, .inl ?_⟩ | refine ⟨?_, ?_⟩ | refine fun ii hii => ?_ | omega | fail)
        · conv => whnf
          refine LCalls.use (sameS τ y2 first count ep L2 k2) [0, 1, 2, 8, 4, 9, 10] rfl rfl ⟨rfl, rfl, rfl, rfl, rfl, rfl, rfl, trivial⟩ ?_
          rintro _ _ ⟨rfl, rfl⟩
          conv => whnf
          rewrite [w64 (n := (i : Int) + 1) (by omega)]
          refine ⟨_, _, _, ?_, ⟨[], trivial, [0, 1, 2, 8, 4, 9, 10], rfl, rfl, ?_, ?_⟩, i + 1, y2, by omega, s2, by omega, rfl, rfl, .inl ⟨L2, k2, rfl⟩⟩
          · omega
          · (repeat' first | exact trivial | exact rfl | exact sh0 rfl | exact Nat.le_refl _ | exact .inl shA | exact .inr ⟨rfl, rfl, rfl, rfl, rfl⟩ | exact .inl shB | exact fun h => h | refine ⟨?_, ?_, ?_, .inl ?_⟩ | refine ⟨?_, ?_⟩ | refine fun ii hii => ?_ | omega | fail)
          · (repeat' first | exact trivial | exact rfl | exact sh0 rfl | exact Nat.le_refl _ | exact .inl shA | exact .inr ⟨rfl, rfl, rfl, rfl, rfl⟩ | exact .inl shB | exact fun h => h | refine ⟨?_, ?_, ?_, .inl ?_⟩ | refine ⟨?_, ?_⟩ | refine fun ii hii => ?_ | omega | fail)
        · conv => whnf
          refine LCalls.use (sameN τ y2 first count ep) [0, 1, 2, 3, 4] rfl rfl ⟨rfl, rfl, rfl, rfl, rfl, trivial⟩ ?_
          rintro _ _ ⟨rfl, rfl⟩
          conv => whnf
          rewrite [w64 (n := (i : Int) + 1) (by omega)]
          refine ⟨_, _, _, ?_, ⟨[], trivial, [0, 1, 2, 3, 4, 5, 6], rfl, rfl, ?_, ?_⟩, i + 1, y2, by omega, s2, by omega, rfl, rfl, .inr rfl⟩
          · omega
          · (repeat' first | exact trivial | exact rfl | exact sh0 rfl | exact Nat.le_refl _ | exact .inl shA | exact .inr ⟨rfl, rfl, rfl, rfl, rfl⟩ | exact .inl shB | exact fun h => h | refine ⟨?_, ?_, ?_, .inl ?_⟩ | refine ⟨?_, ?_⟩ | refine fun ii hii => ?_ | omega | fail)
          · (repeat' first | exact trivial | exact rfl | exact sh0 rfl | exact Nat.le_refl _ | exact .inl shA | exact .inr ⟨rfl, rfl, rfl, rfl, rfl⟩ | exact .inl shB | exact fun h => h | refine ⟨?_, ?_, ?_, .inl ?_⟩ | refine ⟨?_, ?_⟩ | refine fun ii hii => ?_ | omega | fail)
        · conv => whnf
          refine LCalls.use (sameN τ y2 first count ep) [0, 1, 2, 8, 4] rfl rfl ⟨rfl, rfl, rfl, rfl, rfl, trivial⟩ ?_
          rintro _ _ ⟨rfl, rfl⟩
          conv => whnf
          rewrite [w64 (n := (i : Int) + 1) (by omega)]
          refine ⟨_, _, _, ?_, ⟨[], trivial, [0, 1, 2, 8, 4, 5, 6], rfl, rfl, ?_, ?_⟩, i + 1, y2, by omega, s2, by omega, rfl, rfl, .inr rfl⟩
          · omega
          · (repeat' first | exact trivial | exact rfl | exact sh0 rfl | exact Nat.le_refl _ | exact .inl shA | exact .inr ⟨rfl, rfl, rfl, rfl, rfl⟩ | exact .inl shB | exact fun h => h | refine ⟨?_, ?_, ?_, .inl ?_⟩ | refine ⟨?_, ?_⟩ | refine fun ii hii => ?_ | omega | fail)
          · (repeat' first | exact trivial | exact rfl | exact sh0 rfl | exact Nat.le_refl _ | exact .inl shA | exact .inr ⟨rfl, rfl, rfl, rfl, rfl⟩ | exact .inl shB | exact fun h => h | refine ⟨?_, ?_, ?_, .inl ?_⟩ | refine ⟨?_, ?_⟩ | refine fun ii hii => ?_ | omega | fail)
      · rewrite [show decide (dd.a < 0) = false from decide_eq_false h5]
        conv => whnf
        refine LCalls.use (doesS τ y st L ok first count hf ep hep (by omega) dd hd (by omega)) [0, 1, 2, 3, 4, 5, 6] rfl rfl ⟨rfl, rfl, rfl, rfl, rfl, rfl, rfl, trivial⟩ ?_
        rintro _ _ ⟨rfl, y2, s2, p2, (⟨L2, k2, (rfl | rfl | rfl)⟩ | rfl | rfl)⟩
        · conv => whnf
          refine LCalls.use (sameS τ y2 first count ep L2 k2) [0, 1, 2, 3, 4, 5, 6] rfl rfl ⟨rfl, rfl, rfl, rfl, rfl, rfl, rfl, trivial⟩ ?_
          rintro _ _ ⟨rfl, rfl⟩
          conv => whnf
          rewrite [w64 (n := (i : Int) + 1) (by omega)]
          refine ⟨_, _, _, ?_, ⟨[], trivial, [0, 1, 2, 3, 4, 5, 6], rfl, rfl, ?_, ?_⟩, i + 1, y2, by omega, s2, by omega, rfl, rfl, .inl ⟨L2, k2, rfl⟩⟩
          · omega
          · (repeat' first | exact trivial | exact rfl | exact sh0 rfl | exact Nat.le_refl _ | exact .inl shA | exact .inr ⟨rfl, rfl, rfl, rfl, rfl⟩ | exact .inl shB | exact fun h => h | refine ⟨?_, ?_, ?_, .inl ?_⟩ | refine ⟨?_, ?_⟩ | refine fun ii hii => ?_ | omega | fail)
          · (repeat' first | exact trivial | exact rfl | exact sh0 rfl | exact Nat.le_refl _ | exact .inl shA | exact .inr ⟨rfl, rfl, rfl, rfl, rfl⟩ | exact .inl shB | exact fun h => h | refine ⟨?_, ?_, ?_, .inl ?_⟩ | refine ⟨?_, ?_⟩ | refine fun ii hii => ?_ | omega | fail)
        · conv => whnf
          refine LCalls.use (sameS τ y2 first count ep L2 k2) [0, 1, 2, 8, 4, 5, 6] rfl rfl ⟨rfl, rfl, rfl, rfl, rfl, rfl, rfl, trivial⟩ ?_
          rintro _ _ ⟨rfl, rfl⟩
          conv => whnf
          rewrite [w64 (n := (i : Int) + 1) (by omega)]
          refine ⟨_, _, _, ?_, ⟨[], trivial, [0, 1, 2, 8, 4, 5, 6], rfl, rfl, ?_, ?_⟩, i + 1, y2, by omega, s2, by omega, rfl, rfl, .inl ⟨L2, k2, rfl⟩⟩
          · omega
          · (repeat' first | exact trivial | exact rfl | exact sh0 rfl | exact Nat.le_refl _ | exact .inl shA | exact .inr ⟨rfl, rfl, rfl, rfl, rfl⟩ | exact .inl shB | exact fun h => h | refine ⟨?_, ?_, ?_, .inl ?_⟩ | refine ⟨?_, ?_⟩ | refine fun ii hii => ?_ | omega | fail)
          · (repeat' first | exact trivial | exact rfl | exact sh0 rfl | exact Nat.le_refl _ | exact .inl shA | exact .inr ⟨rfl, rfl, rfl, rfl, rfl⟩ | exact .inl shB | exact fun h => h | refine ⟨?_, ?_, ?_, .inl ?_⟩ | refine ⟨?_, ?_⟩ | refine fun ii hii => ?_ | omega | fail)
        · conv => whnf
          refine LCalls.use (sameS τ y2 first count ep L2 k2) [0, 1, 2, 8, 4, 9, 10] rfl rfl ⟨rfl, rfl, rfl, rfl, rfl, rfl, rfl, trivial⟩ ?_
          rintro _ _ ⟨rfl, rfl⟩
          conv => whnf
          rewrite [w64 (n := (i : Int) + 1) (by omega)]
          refine ⟨_, _, _, ?_, ⟨[], trivial, [0, 1, 2, 8, 4, 9, 10], rfl, rfl, ?_, ?_⟩, i + 1, y2, by omega, s2, by omega, rfl, rfl, .inl ⟨L2, k2, rfl⟩⟩
          · omega
          · (repeat' first | exact trivial | exact rfl | exact sh0 rfl | exact Nat.le_refl _ | exact .inl shA | exact .inr ⟨rfl, rfl, rfl, rfl, rfl⟩ | exact .inl shB | exact fun h => h | refine ⟨?_, ?_, ?_, .inl ?_⟩ | refine ⟨?_, ?_⟩ | refine fun ii hii => ?_ | omega | fail)
          · (repeat' first | exact trivial | exact rfl | exact sh0 rfl | exact Nat.le_refl _ | exact .inl shA | exact .inr ⟨rfl, rfl, rfl, rfl, rfl⟩ | exact .inl shB | exact fun h => h | refine ⟨?_, ?_, ?_, .inl ?_⟩ | refine ⟨?_, ?_⟩ | refine fun ii hii => ?_ | omega | fail)
        · conv => whnf
          refine LCalls.use (sameN τ y2 first count ep) [0, 1, 2, 3, 4] rfl rfl ⟨rfl, rfl, rfl, rfl, rfl, trivial⟩ ?_
          rintro _ _ ⟨rfl, rfl⟩
          conv => whnf
          rewrite [w64 (n := (i : Int) + 1) (by omega)]
          refine ⟨_, _, _, ?_, ⟨[], trivial, [0, 1, 2, 3, 4, 5, 6], rfl, rfl, ?_, ?_⟩, i + 1, y2, by omega, s2, by omega, rfl, rfl, .inr rfl⟩
          · omega
          · (repeat' first | exact trivial | exact rfl | exact sh0 rfl | exact Nat.le_refl _ | exact .inl shA | exact .inr ⟨rfl, rfl, rfl, rfl, rfl⟩ | exact .inl shB | exact fun h => h | refine ⟨?_, ?_, ?_, .inl ?_⟩ | refine ⟨?_, ?_⟩ | refine fun ii hii => ?_ | omega | fail)
          · (repeat' first | exact trivial | exact rfl | exact sh0 rfl | exact Nat.le_refl _ | exact .inl shA | exact .inr ⟨rfl, rfl, rfl, rfl, rfl⟩ | exact .inl shB | exact fun h => h | refine ⟨?_, ?_, ?_, .inl ?_⟩ | refine ⟨?_, ?_⟩ | refine fun ii hii => ?_ | omega | fail)
        · conv => whnf
          refine LCalls.use (sameN τ y2 first count ep) [0, 1, 2, 8, 4] rfl rfl ⟨rfl, rfl, rfl, rfl, rfl, trivial⟩ ?_
          rintro _ _ ⟨rfl, rfl⟩
          conv => whnf
          rewrite [w64 (n := (i : Int) + 1) (by omega)]
          refine ⟨_, _, _, ?_, ⟨[], trivial, [0, 1, 2, 8, 4, 5, 6], rfl, rfl, ?_, ?_⟩, i + 1, y2, by omega, s2, by omega, rfl, rfl, .inr rfl⟩
          · omega
          · (repeat' first | exact trivial | exact rfl | exact sh0 rfl | exact Nat.le_refl _ | exact .inl shA | exact .inr ⟨rfl, rfl, rfl, rfl, rfl⟩ | exact .inl shB | exact fun h => h | refine ⟨?_, ?_, ?_, .inl ?_⟩ | refine ⟨?_, ?_⟩ | refine fun ii hii => ?_ | omega | fail)
          · (repeat' first | exact trivial | exact rfl | exact sh0 rfl | exact Nat.le_refl _ | exact .inl shA | exact .inr ⟨rfl, rfl, rfl, rfl, rfl⟩ | exact .inl shB | exact fun h => h | refine ⟨?_, ?_, ?_, .inl ?_⟩ | refine ⟨?_, ?_⟩ | refine fun ii hii => ?_ | omega | fail)
    · unfold nilA
      conv => whnf
      by_cases h3 : i < l.length
      case neg =>
        rewrite [show decide ((i : Int) < (l.length : Int)) = false from decide_eq_false (by omega)]
        conv => whnf
        refine ⟨[], _, _, rfl, rfl, ?_, ?_, rfl, rfl⟩
        · (repeat' first | exact trivial | exact rfl | exact sh0 rfl | exact Nat.le_refl _ | exact .inl shA | exact .inr ⟨rfl, rfl, rfl, rfl, rfl⟩ | exact .inl shB | exact fun h => h | refine ⟨?_, ?_, ?_, .inl ?_⟩ | refine ⟨?_, ?_⟩ | refine fun ii hii => ?_ | omega | fail)
        · (repeat' first | exact trivial | exact rfl | exact sh0 rfl | exact Nat.le_refl _ | exact .inl shA | exact .inr ⟨rfl, rfl, rfl, rfl, rfl⟩ | exact .inl shB | exact fun h => h | refine ⟨?_, ?_, ?_, .inl ?_⟩ | refine ⟨?_, ?_⟩ | refine fun ii hii => ?_ | omega | fail)
      rewrite [show decide ((i : Int) < (l.length : Int)) = true from decide_eq_true (by omega)]
      conv => whnf
      by_cases h4 : i < 100
      case neg =>
        rewrite [show decide ((i : Int) < 100) = false from decide_eq_false (by omega)]
        conv => whnf
        refine ⟨[], _, _, rfl, rfl, ?_, ?_, rfl, rfl⟩
        · (repeat' first | exact trivial | exact rfl | exact sh0 rfl | exact Nat.le_refl _ | exact .inl shA | exact .inr ⟨rfl, rfl, rfl, rfl, rfl⟩ | exact .inl shB | exact fun h => h | refine ⟨?_, ?_, ?_, .inl ?_⟩ | refine ⟨?_, ?_⟩ | refine fun ii hii => ?_ | omega | fail)
        · (repeat' first | exact trivial | exact rfl | exact sh0 rfl | exact Nat.le_refl _ | exact .inl shA | exact .inr ⟨rfl, rfl, rfl, rfl, rfl⟩ | exact .inl shB | exact fun h => h | refine ⟨?_, ?_, ?_, .inl ?_⟩ | refine ⟨?_, ?_⟩ | refine fun ii hii => ?_ | omega | fail)
      rewrite [show decide ((i : Int) < 100) = true from decide_eq_true (by omega)]
      conv => whnf
      refine ⟨⟨by omega, by omega⟩, ?_⟩
      rewrite [Int.toNat_natCast]
      conv => whnf
      have hd := hs i h3
      obtain ⟨dd, hdd⟩ : ∃ dd, dd = l.getD i default := ⟨_, rfl⟩
      rw [← hdd] at hd
      rewrite [show l.getD i default = dd from hdd.symm]
      by_cases h5 : dd.a < 0
      · rewrite [show decide (dd.a < 0) = true from decide_eq_true h5]
        conv => whnf
        refine LCalls.use (doesN τ y st first count hf ep hep (by omega) { dd with a := 0 } (deed_neg dd hd) (Int.le_refl 0)) [0, 1, 2, 3, 4, 5, 6] rfl rfl ⟨rfl, rfl, rfl, rfl, rfl, trivial, trivial, trivial⟩ ?_
        rintro _ _ ⟨rfl, y2, s2, p2, (⟨L2, k2, (rfl | rfl | rfl)⟩ | rfl | rfl)⟩
        · conv => whnf
          refine LCalls.use (sameS τ y2 first count ep L2 k2) [0, 1, 2, 3, 4, 5, 6] rfl rfl ⟨rfl, rfl, rfl, rfl, rfl, rfl, rfl, trivial⟩ ?_
          rintro _ _ ⟨rfl, rfl⟩
          conv => whnf
          rewrite [w64 (n := (i : Int) + 1) (by omega)]
          refine ⟨_, _, _, ?_, ⟨[], trivial, [0, 1, 2, 3, 4, 5, 6], rfl, rfl, ?_, ?_⟩, i + 1, y2, by omega, s2, by omega, rfl, rfl, .inl ⟨L2, k2, rfl⟩⟩
          · omega
          · (repeat' first | exact trivial | exact rfl | exact sh0 rfl | exact Nat.le_refl _ | exact .inl shA | exact .inr ⟨rfl, rfl, rfl, rfl, rfl⟩ | exact .inl shB | exact fun h => h | refine ⟨?_, ?_, ?_, .inl ?_⟩ | refine ⟨?_, ?_⟩ | refine fun ii hii => ?_ | omega | fail)
          · (repeat' first | exact trivial | exact rfl | exact sh0 rfl | exact Nat.le_refl _ | exact .inl shA | exact .inr ⟨rfl, rfl, rfl, rfl, rfl⟩ | exact .inl shB | exact fun h => h | refine ⟨?_, ?_, ?_, .inl ?_⟩ | refine ⟨?_, ?_⟩ | refine fun ii hii => ?_ | omega | fail)
        · conv => whnf
          refine LCalls.use (sameS τ y2 first count ep L2 k2) [0, 1, 2, 8, 4, 5, 6] rfl rfl ⟨rfl, rfl, rfl, rfl, rfl, rfl, rfl, trivial⟩ ?_
          rintro _ _ ⟨rfl, rfl⟩
          conv => whnf
          rewrite [w64 (n := (i : Int) + 1) (by omega)]
          refine ⟨_, _, _, ?_, ⟨[], trivial, [0, 1, 2, 8, 4, 5, 6], rfl, rfl, ?_, ?_⟩, i + 1, y2, by omega, s2, by omega, rfl, rfl, .inl ⟨L2, k2, rfl⟩⟩
          · omega
          · (repeat' first | exact trivial | exact rfl | exact sh0 rfl | exact Nat.le_refl _ | exact .inl shA | exact .inr ⟨rfl, rfl, rfl, rfl, rfl⟩ | exact .inl shB | exact fun h => h | refine ⟨?_, ?_, ?_, .inl ?_⟩ | refine ⟨?_, ?_⟩ | refine fun ii hii => ?_ | omega | fail)
          · (repeat' first | exact trivial | exact rfl | exact sh0 rfl | exact Nat.le_refl _ | exact .inl shA | exact .inr ⟨rfl, rfl, rfl, rfl, rfl⟩ | exact .inl shB | exact fun h => h | refine ⟨?_, ?_, ?_, .inl ?_⟩ | refine ⟨?_, ?_⟩ | refine fun ii hii => ?_ | omega | fail)
        · conv => whnf
          refine LCalls.use (sameS τ y2 first count ep L2 k2) [0, 1, 2, 8, 4, 9, 10] rfl rfl ⟨rfl, rfl, rfl, rfl, rfl, rfl, rfl, trivial⟩ ?_
          rintro _ _ ⟨rfl, rfl⟩
          conv => whnf
          rewrite [w64 (n := (i : Int) + 1) (by omega)]
          refine ⟨_, _, _, ?_, ⟨[], trivial, [0, 1, 2, 8, 4, 9, 10], rfl, rfl, ?_, ?_⟩, i + 1, y2, by omega, s2, by omega, rfl, rfl, .inl ⟨L2, k2, rfl⟩⟩
          · omega
          · (repeat' first | exact trivial | exact rfl | exact sh0 rfl | exact Nat.le_refl _ | exact .inl shA | exact .inr ⟨rfl, rfl, rfl, rfl, rfl⟩ | exact .inl shB | exact fun h => h | refine ⟨?_, ?_, ?_, .inl ?_⟩ | refine ⟨?_, ?_⟩ | refine fun ii hii => ?_ | omega | fail)
          · (repeat' first | exact trivial | exact rfl | exact sh0 rfl | exact Nat.le_refl _ | exact .inl shA | exact .inr ⟨rfl, rfl, rfl, rfl, rfl⟩ | exact .inl shB | exact fun h => h | refine ⟨?_, ?_, ?_, .inl ?_⟩ | refine ⟨?_, ?_⟩ | refine fun ii hii => ?_ | omega | fail)
        · conv => whnf
          refine LCalls.use (sameN τ y2 first count ep) [0, 1, 2, 3, 4] rfl rfl ⟨rfl, rfl, rfl, rfl, rfl, trivial⟩ ?_
          rintro _ _ ⟨rfl, rfl⟩
          conv => whnf
          rewrite [w64 (n := (i : Int) + 1) (by omega)]
          refine ⟨_, _, _, ?_, ⟨[], trivial, [0, 1, 2, 3, 4, 5, 6], rfl, rfl, ?_, ?_⟩, i + 1, y2, by omega, s2, by omega, rfl, rfl, .inr rfl⟩
          · omega
          · (repeat' first | exact trivial | exact rfl | exact sh0 rfl | exact Nat.le_refl _ | exact .inl shA | exact .inr ⟨rfl, rfl, rfl, rfl, rfl⟩ | exact .inl shB | exact fun h => h | refine ⟨?_, ?_, ?_, .inl ?_⟩ | refine ⟨?_, ?_⟩ | refine fun ii hii => ?_ | omega | fail)
          · (repeat' first | exact trivial | exact rfl | exact sh0 rfl | exact Nat.le_refl _ | exact .inl shA | exact .inr ⟨rfl, rfl, rfl, rfl, rfl⟩ | exact .inl shB | exact fun h => h | refine ⟨?_, ?_, ?_, .inl ?_⟩ | refine ⟨?_, ?_⟩ | refine fun ii hii => ?_ | omega | fail)
        · conv => whnf
          refine LCalls.use (sameN τ y2 first count ep) [0, 1, 2, 8, 4] rfl rfl ⟨rfl, rfl, rfl, rfl, rfl, trivial⟩ ?_
          rintro _ _ ⟨rfl, rfl⟩
          conv => whnf
          rewrite [w64 (n := (i : Int) + 1) (by omega)]
          refine ⟨_, _, _, ?_, ⟨[], trivial, [0, 1, 2, 8, 4, 5, 6], rfl, rfl, ?_, ?_⟩, i + 1, y2, by omega, s2, by omega, rfl, rfl, .inr rfl⟩
          · omega
          · (repeat' first | exact trivial | exact rfl | exact sh0 rfl | exact Nat.le_refl _ | exact .inl shA | exact .inr ⟨rfl, rfl, rfl, rfl, rfl⟩ | exact .inl shB | exact fun h => h | refine ⟨?_, ?_, ?_, .inl ?_⟩ | refine ⟨?_, ?_⟩ | refine fun ii hii => ?_ | omega | fail)
          · (repeat' first | exact trivial | exact rfl | exact sh0 rfl | exact Nat.le_refl _ | exact .inl shA | exact .inr ⟨rfl, rfl, rfl, rfl, rfl⟩ | exact .inl shB | exact fun h => h | refine ⟨?_, ?_, ?_, .inl ?_⟩ | refine ⟨?_, ?_⟩ | refine fun ii hii => ?_ | omega | fail)
      · rewrite [show decide (dd.a < 0) = false from decide_eq_false h5]
        conv => whnf
        refine LCalls.use (doesN τ y st first count hf ep hep (by omega) dd hd (by omega)) [0, 1, 2, 3, 4, 5, 6] rfl rfl ⟨rfl, rfl, rfl, rfl, rfl, trivial, trivial, trivial⟩ ?_
        rintro _ _ ⟨rfl, y2, s2, p2, (⟨L2, k2, (rfl | rfl | rfl)⟩ | rfl | rfl)⟩
        · conv => whnf
          refine LCalls.use (sameS τ y2 first count ep L2 k2) [0, 1, 2, 3, 4, 5, 6] rfl rfl ⟨rfl, rfl, rfl, rfl, rfl, rfl, rfl, trivial⟩ ?_
          rintro _ _ ⟨rfl, rfl⟩
          conv => whnf
          rewrite [w64 (n := (i : Int) + 1) (by omega)]
          refine ⟨_, _, _, ?_, ⟨[], trivial, [0, 1, 2, 3, 4, 5, 6], rfl, rfl, ?_, ?_⟩, i + 1, y2, by omega, s2, by omega, rfl, rfl, .inl ⟨L2, k2, rfl⟩⟩
          · omega
          · (repeat' first | exact trivial | exact rfl | exact sh0 rfl | exact Nat.le_refl _ | exact .inl shA | exact .inr ⟨rfl, rfl, rfl, rfl, rfl⟩ | exact .inl shB | exact fun h => h | refine ⟨?_, ?_, ?_, .inl ?_⟩ | refine ⟨?_, ?_⟩ | refine fun ii hii => ?_ | omega | fail)
          · (repeat' first | exact trivial | exact rfl | exact sh0 rfl | exact Nat.le_refl _ | exact .inl shA | exact .inr ⟨rfl, rfl, rfl, rfl, rfl⟩ | exact .inl shB | exact fun h => h | refine ⟨?_, ?_, ?_, .inl ?_⟩ | refine ⟨?_, ?_⟩ | refine fun ii hii => ?_ | omega | fail)
        · conv => whnf
          refine LCalls.use (sameS τ y2 first count ep L2 k2) [0, 1, 2, 8, 4, 5, 6] rfl rfl ⟨rfl, rfl, rfl, rfl, rfl, rfl, rfl, trivial⟩ ?_
          rintro _ _ ⟨rfl, rfl⟩
          conv => whnf
          rewrite [w64 (n := (i : Int) + 1) (by omega)]
          refine ⟨_, _, _, ?_, ⟨[], trivial, [0, 1, 2, 8, 4, 5, 6], rfl, rfl, ?_, ?_⟩, i + 1, y2, by omega, s2, by omega, rfl, rfl, .inl ⟨L2, k2, rfl⟩⟩
          · omega
          · (repeat' first | exact trivial | exact rfl | exact sh0 rfl | exact Nat.le_refl _ | exact .inl shA | exact .inr ⟨rfl, rfl, rfl, rfl, rfl⟩ | exact .inl shB | exact fun h => h | refine ⟨?_, ?_, ?_, .inl ?_⟩ | refine ⟨?_, ?_⟩ | refine fun ii hii => ?_ | omega | fail)
          · (repeat' first | exact trivial | exact rfl | exact sh0 rfl | exact Nat.le_refl _ | exact .inl shA | exact .inr ⟨rfl, rfl, rfl, rfl, rfl⟩ | exact .inl shB | exact fun h => h | refine ⟨?_, ?_, ?_, .inl ?_⟩ | refine ⟨?_, ?_⟩ | refine fun ii hii => ?_ | omega | fail)
        · conv => whnf
          refine LCalls.use (sameS τ y2 first count ep L2 k2) [0, 1, 2, 8, 4, 9, 10] rfl rfl ⟨rfl, rfl, rfl, rfl, rfl, rfl, rfl, trivial⟩ ?_
          rintro _ _ ⟨rfl, rfl⟩
          conv => whnf
          rewrite [w64 (n := (i : Int) + 1) (by omega)]
          refine ⟨_, _, _, ?_, ⟨[], trivial, [0, 1, 2, 8, 4, 9, 10], rfl, rfl, ?_, ?_⟩, i + 1, y2, by omega, s2, by omega, rfl, rfl, .inl ⟨L2, k2, rfl⟩⟩
          · omega
          · (repeat' first | exact trivial | exact rfl | exact sh0 rfl | exact Nat.le_refl _ | exact .inl shA | exact .inr ⟨rfl, rfl, rfl, rfl, rfl⟩ | exact .inl shB | exact fun h => h | refine ⟨?_, ?_, ?_, .inl ?_⟩ | refine ⟨?_, ?_⟩ | refine fun ii hii => ?_ | omega | fail)
          · (repeat' first | exact trivial | exact rfl | exact sh0 rfl | exact Nat.le_refl _ | exact .inl shA | exact .inr ⟨rfl, rfl, rfl, rfl, rfl⟩ | exact .inl shB | exact fun h => h | refine ⟨?_, ?_, ?_, .inl ?_⟩ | refine ⟨?_, ?_⟩ | refine fun ii hii => ?_ | omega | fail)
        · conv => whnf
          refine LCalls.use (sameN τ y2 first count ep) [0, 1, 2, 3, 4] rfl rfl ⟨rfl, rfl, rfl, rfl, rfl, trivial⟩ ?_
          rintro _ _ ⟨rfl, rfl⟩
          conv => whnf
          rewrite [w64 (n := (i : Int) + 1) (by omega)]
          refine ⟨_, _, _, ?_, ⟨[], trivial, [0, 1, 2, 3, 4, 5, 6], rfl, rfl, ?_, ?_⟩, i + 1, y2, by omega, s2, by omega, rfl, rfl, .inr rfl⟩
          · omega
          · (repeat' first | exact trivial | exact rfl | exact sh0 rfl | exact Nat.le_refl _ | exact .inl shA | exact .inr ⟨rfl, rfl, rfl, rfl, rfl⟩ | exact .inl shB | exact fun h => h | refine ⟨?_, ?_, ?_, .inl ?_⟩ | refine ⟨?_, ?_⟩ | refine fun ii hii => ?_ | omega | fail)
          · (repeat' first | exact trivial | exact rfl | exact sh0 rfl | exact Nat.le_refl _ | exact .inl shA | exact .inr ⟨rfl, rfl, rfl, rfl, rfl⟩ | exact .inl shB | exact fun h => h | refine ⟨?_, ?_, ?_, .inl ?_⟩ | refine ⟨?_, ?_⟩ | refine fun ii hii => ?_ | omega | fail)
        · conv => whnf
          refine LCalls.use (sameN τ y2 first count ep) [0, 1, 2, 8, 4] rfl rfl ⟨rfl, rfl, rfl, rfl, rfl, trivial⟩ ?_
          rintro _ _ ⟨rfl, rfl⟩
          conv => whnf
          rewrite [w64 (n := (i : Int) + 1) (by omega)]
          refine ⟨_, _, _, ?_, ⟨[], trivial, [0, 1, 2, 8, 4, 5, 6], rfl, rfl, ?_, ?_⟩, i + 1, y2, by omega, s2, by omega, rfl, rfl, .inr rfl⟩
          · omega
          · (repeat' first | exact trivial | exact rfl | exact sh0 rfl | exact Nat.le_refl _ | exact .inl shA | exact .inr ⟨rfl, rfl, rfl, rfl, rfl⟩ | exact .inl shB | exact fun h => h | refine ⟨?_, ?_, ?_, .inl ?_⟩ | refine ⟨?_, ?_⟩ | refine fun ii hii => ?_ | omega | fail)
          · (repeat' first | exact trivial | exact rfl | exact sh0 rfl | exact Nat.le_refl _ | exact .inl shA | exact .inr ⟨rfl, rfl, rfl, rfl, rfl⟩ | exact .inl shB | exact fun h => h | refine ⟨?_, ?_, ?_, .inl ?_⟩ | refine ⟨?_, ?_⟩ | refine fun ii hii => ?_ | omega | fail)
end Go.Proofs.Ytilmfhpoiejmfaa.Gk
