/- The document's log: it is opened. By this session. -/
import Derived.Test.YtilmfhpoiejmfaaJd
import Derived.Test.YtilmfhpoiejmfaaGs
namespace Go.Proofs.Ytilmfhpoiejmfaa.Gk
open Go.Proofs.Ytilmfhpoiejmfaa.Lh Go.RowKit Go.Proofs.Ytilmfhpoiejmfaa.Lg
open Go.Proofs.Ytilmfhpoiejmfaa.Dk (Disk Sec nought diskR wrE wrD wrN wrS flE flD rdE hasB goesB went secV bytesV byteR refO rsO rpO refH rRead_x rWrite_ok rWrite_no rFlush_x Inv Inv_wrD wrD_len wrE_ok)
set_option maxRecDepth 100000
set_option linter.unusedSimpArgs false
set_option linter.unusedSectionVars false
set_option linter.unusedVariables false
variable [Fz]
/-- The document's disk behind a write: what waits lies in a new block. -/
def movH (y : Disk) : LHeap := [refO 1 3 y, rsO y.last, none, rpO y.pend]
def OpenR (r : OpR) (e : LEnd) (h' : LHeap) : Prop :=
  (r.err = 0 ∧ e = .ret (.tup (.cons (.ptr ⟨4, [], 0⟩) (.cons (strsV r.recs) (.cons (.int .i64 0) .nil)))) ∧ h' = [refO 1 3 r.y, rsO r.y.last, none, rpO r.y.pend, rlgO 0 r.L])
  ∨ (r.err ≠ 0 ∧ e = .ret (.tup (.cons .nilp (.cons (.slice ⟨0, [], 0⟩ 0 0 0 0 (some 0)) (.cons (.int .i64 r.err) .nil)))) ∧ (h' = refH r.y ∨ h' = movH r.y))
theorem op_bad {x : Disk} {first count : Int} {ep : Nat} (hn : x.now.length ≤ 4096) (h : first < 0 ∨ count < 2 ∨ count > 4096 ∨ first > 4096 ∨ first + count > x.now.length) : openP x first count ep = ⟨1, x, lg0, []⟩ := by
  unfold openP
  split
  · rfl
  split
  · rfl
  split
  · rfl
  split
  · rfl
  omega
set_option maxHeartbeats 4000000 in
theorem rOpen (x : Disk) (hi : Inv x) (hb : ByteD x) (hn : x.now.length ≤ 4096) (first count : Int) (ep : Nat) (hep : ep < 4294967296) (hp : x.pend.length + 1 < 1000000) : LCalls Try.prog 77 (.cons (.ptr ⟨0, [], 0⟩) (.cons (.int .i64 first) (.cons (.int .i64 count) (.cons (wN ep) .nil)))) (refH x) (OpenR (openP x first count ep)) := by
  have hl := hi.len
  unfold wN refH
  refine LCalls.tell ?_; refine enter77 rfl ?_; conv => whnf
  by_cases c1 : first < 0
  case pos =>
    have hne : (1 : Int) ≠ 0 := by decide
    rewrite [show decide (first < 0) = true from decide_eq_true (by omega)]
    rw [show openP x first count ep = ⟨1, x, lg0, []⟩ from op_bad hn (by omega)]
    conv => whnf
    refine ⟨[0, 1, 2], _, _, rfl, rfl, ?_, ?_, .inr ⟨hne, rfl, .inl rfl⟩⟩
    · (repeat' first | exact trivial | exact rfl | exact sh0 rfl | exact Nat.le_refl _ | exact .inl shA | exact .inr ⟨rfl, rfl, rfl, rfl, rfl⟩ | exact .inl shB | exact fun h => h | refine ⟨?_, ?_, ?_, .inl ?_⟩ | refine ⟨?_, ?_⟩ | refine fun ii hii => ?_ | omega | fail)
    · (repeat' first | exact trivial | exact rfl | exact sh0 rfl | exact Nat.le_refl _ | exact .inl shA | exact .inr ⟨rfl, rfl, rfl, rfl, rfl⟩ | exact .inl shB | exact fun h => h | refine ⟨?_, ?_, ?_, .inl ?_⟩ | refine ⟨?_, ?_⟩ | refine fun ii hii => ?_ | omega | fail)
  rewrite [show decide (first < 0) = false from decide_eq_false (by omega)]
  conv => whnf
  by_cases c2 : count < 2
  case pos =>
    have hne : (1 : Int) ≠ 0 := by decide
    rewrite [show decide (count < 2) = true from decide_eq_true (by omega)]
    rw [show openP x first count ep = ⟨1, x, lg0, []⟩ from op_bad hn (by omega)]
    conv => whnf
    refine ⟨[0, 1, 2], _, _, rfl, rfl, ?_, ?_, .inr ⟨hne, rfl, .inl rfl⟩⟩
    · (repeat' first | exact trivial | exact rfl | exact sh0 rfl | exact Nat.le_refl _ | exact .inl shA | exact .inr ⟨rfl, rfl, rfl, rfl, rfl⟩ | exact .inl shB | exact fun h => h | refine ⟨?_, ?_, ?_, .inl ?_⟩ | refine ⟨?_, ?_⟩ | refine fun ii hii => ?_ | omega | fail)
    · (repeat' first | exact trivial | exact rfl | exact sh0 rfl | exact Nat.le_refl _ | exact .inl shA | exact .inr ⟨rfl, rfl, rfl, rfl, rfl⟩ | exact .inl shB | exact fun h => h | refine ⟨?_, ?_, ?_, .inl ?_⟩ | refine ⟨?_, ?_⟩ | refine fun ii hii => ?_ | omega | fail)
  rewrite [show decide (count < 2) = false from decide_eq_false (by omega)]
  conv => whnf
  by_cases c3 : count > 4096
  case pos =>
    have hne : (1 : Int) ≠ 0 := by decide
    rewrite [show decide (count > 4096) = true from decide_eq_true (by omega)]
    rw [show openP x first count ep = ⟨1, x, lg0, []⟩ from op_bad hn (by omega)]
    conv => whnf
    refine ⟨[0, 1, 2], _, _, rfl, rfl, ?_, ?_, .inr ⟨hne, rfl, .inl rfl⟩⟩
    · (repeat' first | exact trivial | exact rfl | exact sh0 rfl | exact Nat.le_refl _ | exact .inl shA | exact .inr ⟨rfl, rfl, rfl, rfl, rfl⟩ | exact .inl shB | exact fun h => h | refine ⟨?_, ?_, ?_, .inl ?_⟩ | refine ⟨?_, ?_⟩ | refine fun ii hii => ?_ | omega | fail)
    · (repeat' first | exact trivial | exact rfl | exact sh0 rfl | exact Nat.le_refl _ | exact .inl shA | exact .inr ⟨rfl, rfl, rfl, rfl, rfl⟩ | exact .inl shB | exact fun h => h | refine ⟨?_, ?_, ?_, .inl ?_⟩ | refine ⟨?_, ?_⟩ | refine fun ii hii => ?_ | omega | fail)
  rewrite [show decide (count > 4096) = false from decide_eq_false (by omega)]
  conv => whnf
  by_cases c4 : first > 4096
  case pos =>
    have hne : (1 : Int) ≠ 0 := by decide
    rewrite [show decide (first > 4096) = true from decide_eq_true (by omega)]
    rw [show openP x first count ep = ⟨1, x, lg0, []⟩ from op_bad hn (by omega)]
    conv => whnf
    refine ⟨[0, 1, 2], _, _, rfl, rfl, ?_, ?_, .inr ⟨hne, rfl, .inl rfl⟩⟩
    · (repeat' first | exact trivial | exact rfl | exact sh0 rfl | exact Nat.le_refl _ | exact .inl shA | exact .inr ⟨rfl, rfl, rfl, rfl, rfl⟩ | exact .inl shB | exact fun h => h | refine ⟨?_, ?_, ?_, .inl ?_⟩ | refine ⟨?_, ?_⟩ | refine fun ii hii => ?_ | omega | fail)
    · (repeat' first | exact trivial | exact rfl | exact sh0 rfl | exact Nat.le_refl _ | exact .inl shA | exact .inr ⟨rfl, rfl, rfl, rfl, rfl⟩ | exact .inl shB | exact fun h => h | refine ⟨?_, ?_, ?_, .inl ?_⟩ | refine ⟨?_, ?_⟩ | refine fun ii hii => ?_ | omega | fail)
  rewrite [show decide (first > 4096) = false from decide_eq_false (by omega)]
  conv => whnf
  rewrite [w64 (n := first + count) (by omega)]
  by_cases c5 : first + count > (x.now.length : Int)
  case pos =>
    have hne : (1 : Int) ≠ 0 := by decide
    rewrite [show decide (first + count > (x.last.length : Int)) = true from decide_eq_true (by omega)]
    rw [show openP x first count ep = ⟨1, x, lg0, []⟩ from op_bad hn (by omega)]
    conv => whnf
    refine ⟨[0, 1, 2], _, _, rfl, rfl, ?_, ?_, .inr ⟨hne, rfl, .inl rfl⟩⟩
    · (repeat' first | exact trivial | exact rfl | exact sh0 rfl | exact Nat.le_refl _ | exact .inl shA | exact .inr ⟨rfl, rfl, rfl, rfl, rfl⟩ | exact .inl shB | exact fun h => h | refine ⟨?_, ?_, ?_, .inl ?_⟩ | refine ⟨?_, ?_⟩ | refine fun ii hii => ?_ | omega | fail)
    · (repeat' first | exact trivial | exact rfl | exact sh0 rfl | exact Nat.le_refl _ | exact .inl shA | exact .inr ⟨rfl, rfl, rfl, rfl, rfl⟩ | exact .inl shB | exact fun h => h | refine ⟨?_, ?_, ?_, .inl ?_⟩ | refine ⟨?_, ?_⟩ | refine fun ii hii => ?_ | omega | fail)
  rewrite [show decide (first + count > (x.last.length : Int)) = false from decide_eq_false (by omega)]
  obtain ⟨n, rfl⟩ : ∃ n : Nat, first = n := ⟨first.toNat, by omega⟩
  obtain ⟨m, rfl⟩ : ∃ m : Nat, count = m := ⟨count.toNat, by omega⟩
  have hu : openP x (n : Int) (m : Int) ep = op1 x n m ep := by
    unfold openP
    rw [if_neg (by omega), if_neg (by omega), if_neg (by omega), if_neg (by omega), Int.toNat_natCast, Int.toNat_natCast]
  rw [hu]
  unfold op1
  have hr := rRead_x x hi (n : Int)
  by_cases hd : x.down = true
  case pos =>
    have hne : (10 : Int) ≠ 0 := by decide
    rw [show rdE x (n : Int) = 10 by simp [rdE, hd]] at hr
    rw [if_pos hd]
    conv => whnf
    refine LCalls.use hr [0, 1, 2] rfl rfl ⟨rfl, rfl, rfl, trivial⟩ ?_
    rintro _ _ ⟨rfl, rfl⟩
    conv => whnf
    refine ⟨[0, 1, 2], _, _, rfl, rfl, ?_, ?_, .inr ⟨hne, rfl, .inl rfl⟩⟩
    · (repeat' first | exact trivial | exact rfl | exact sh0 rfl | exact Nat.le_refl _ | exact .inl shA | exact .inr ⟨rfl, rfl, rfl, rfl, rfl⟩ | exact .inl shB | exact fun h => h | refine ⟨?_, ?_, ?_, .inl ?_⟩ | refine ⟨?_, ?_⟩ | refine fun ii hii => ?_ | omega | fail)
    · (repeat' first | exact trivial | exact rfl | exact sh0 rfl | exact Nat.le_refl _ | exact .inl shA | exact .inr ⟨rfl, rfl, rfl, rfl, rfl⟩ | exact .inl shB | exact fun h => h | refine ⟨?_, ?_, ?_, .inl ?_⟩ | refine ⟨?_, ?_⟩ | refine fun ii hii => ?_ | omega | fail)
  rw [if_neg hd]
  have hd' : x.down = false := by simpa using hd
  rw [rdE_ok hd' (by omega), Int.toNat_natCast, ← toS_byt (by_getD hb.now n)] at hr
  have hfl := byt_lt (by_getD hb.now n)
  have hF0 : regF x n 0 = byt (x.now.getD n nought) := rfl
  obtain ⟨f, hff⟩ : ∃ f, f = byt (x.now.getD n nought) := ⟨_, rfl⟩
  rw [← hff] at hr hfl hF0
  rw [hF0]
  conv => whnf
  refine LCalls.use (P := Try.prog) hr [0, 1, 2] rfl rfl ⟨rfl, rfl, rfl, trivial⟩ ?_
  rintro _ _ ⟨rfl, rfl⟩
  conv => whnf
  obtain ⟨e, li, pl, fl, ln, rb, g, hdec, hhd, hli, hpl, hfl8⟩ : ∃ (e li pl fl ln : Nat) (rb : Bool) (g : Nat → Nat), LCalls Try.prog 103 (.cons (bV 64 f) .nil) [] (fun e' h' => e' = .ret (.agg (.one (.bool rb) (.one (.int .u32 (e : Int)) (.one (.int .u32 (li : Int)) (.one (.int .i64 (pl : Int)) (.one (.int .i64 (fl : Int)) (.one (.int .i64 (ln : Int)) (.one (bV (min ln 48) g) .nil)))))))) ∧ h' = [])
      ∧ headOf f = (if rb && (fl == 4) && (pl == 0) then li else 0) ∧ li < 4294967296 ∧ pl < 65536 ∧ fl < 256 := ⟨leN f 4 4, leN f 8 4, leN f 12 2, f 14, f 15, rightB f, fun i => f (16 + i), Look f hfl, rfl, leN_lt hfl 8 4, leN_lt hfl 12 2, hfl 14⟩
  refine LCalls.use hdec [] rfl rfl trivial ?_
  rintro _ _ ⟨rfl, rfl⟩
  conv => whnf
  cases rb with
  | false =>
    have hH : headOf f = 0 := by rw [hhd]; rfl
    rw [hH]
    unfold op1h
    rw [if_neg (show ¬ ((0 : Nat) = 4294967295) by decide)]
    conv => whnf
    rewrite [show IntKind.u32.wrap (0 + 1) = ((0 + 1 : Nat) : Int) from rfl]
    refine LCalls.pre [0, 1, 2, 3, 4] (.cons (wN 0) (.cons (wN (0 + 1)) (.cons (.int .i64 0) (.cons (.int .i64 4) (.cons (bV 0 (fB [])) .nil))))) [refO 1 2 x, rsO x.last, rpO x.pend, none, rlgO 0 ⟨n, m, ep, 0 + 1, 1⟩] rfl rfl ?_ ?_ ?_
    · exact ⟨⟨rfl, rfl⟩, ⟨rfl, rfl⟩, ⟨rfl, rfl⟩, ⟨rfl, rfl⟩, .inl ⟨rfl, rfl⟩, trivial⟩
    · (repeat' first | exact trivial | exact rfl | exact sh0 rfl | exact Nat.le_refl _ | exact .inl shA | exact .inr ⟨rfl, rfl, rfl, rfl, rfl⟩ | exact .inl shB | exact fun h => h | refine ⟨?_, ?_, ?_, .inl ?_⟩ | refine ⟨?_, ?_⟩ | refine fun ii hii => ?_ | omega | fail)
    refine LCalls.use (Made 0 (0 + 1) 0 4 [] (by decide) (by decide) (by decide) (by decide)) [] rfl rfl trivial ?_
    rintro _ _ ⟨rfl, rfl⟩
    conv => whnf
    by_cases c6 : wrE x (n : Int) 64 = 0
    case neg =>
      have hne : wrE x (n : Int) 64 ≠ 0 := c6
      rw [if_pos hne]
      have ey : wrD x (n : Int) (toS (hdS 0)) 64 = wrN x (n : Int) 64 := by unfold Dk.wrD; rw [if_neg c6]
      rw [ey]
      refine LCalls.use (rWrite_no x hi.len (n : Int) (toS (hdS 0)) 64 c6) [0, 1, 2] rfl rfl ⟨rfl, rfl, rfl, trivial⟩ ?_
      rintro _ _ ⟨rfl, rfl⟩
      conv => whnf
      rewrite [show (wrE x (n : Int) 64 != 0) = true from bne_iff_ne.2 c6]
      conv => whnf
      refine ⟨[0, 1, 2], _, _, rfl, rfl, ?_, ?_, .inr ⟨hne, rfl, .inl rfl⟩⟩
      · (repeat' first | exact trivial | exact rfl | exact sh0 rfl | exact Nat.le_refl _ | exact .inl shA | exact .inr ⟨rfl, rfl, rfl, rfl, rfl⟩ | exact .inl shB | exact fun h => h | refine ⟨?_, ?_, ?_, .inl ?_⟩ | refine ⟨?_, ?_⟩ | refine fun ii hii => ?_ | omega | fail)
      · (repeat' first | exact trivial | exact rfl | exact sh0 rfl | exact Nat.le_refl _ | exact .inl shA | exact .inr ⟨rfl, rfl, rfl, rfl, rfl⟩ | exact .inl shB | exact fun h => h | refine ⟨?_, ?_, ?_, .inl ?_⟩ | refine ⟨?_, ?_⟩ | refine fun ii hii => ?_ | omega | fail)
    rw [if_neg (show ¬ (wrE x (n : Int) 64 ≠ 0) by rw [c6]; decide)]
    obtain ⟨g1, g2, g3, g4⟩ := wrE_ok c6
    refine LCalls.use (rWrite_ok x n (toS (hdS 0)) 64 g1 (by rw [hi.len]; omega) g3 g4 (by omega)) [0, 1, 2] rfl rfl ⟨rfl, rfl, rfl, trivial⟩ ?_
    rintro _ _ ⟨rfl, rfl⟩
    have ey : wrD x (n : Int) (toS (hdS 0)) 64 = wrS (went x) n (toS (hdS 0)) 64 := by unfold Dk.wrD; rw [if_pos c6, Int.toNat_natCast]
    have hyl := wrD_len x (n : Int) (toS (hdS 0)) 64
    have hyb := by_wrD hb (n : Int) (b := toS (hdS 0)) (m := 64) (fun i hi => by_toS (hdS_lt 0) i 64 hi)
    have hyi := Inv_wrD hi (n : Int) (toS (hdS 0)) 64 (by omega)
    rw [ey] at hyl hyb hyi ⊢
    obtain ⟨y, hy⟩ : ∃ y, y = wrS (went x) n (toS (hdS 0)) 64 := ⟨_, rfl⟩
    rw [← hy] at hyl hyb hyi ⊢
    unfold op2
    conv => whnf
    refine LCalls.use (rFlush_x y hyi.toWf) [0, 1, 5] rfl rfl ⟨rfl, rfl, rfl, trivial⟩ ?_
    rintro _ _ ⟨rfl, rfl⟩
    conv => whnf
    by_cases c7 : flE y = 0
    case neg =>
      have hne : flE y ≠ 0 := c7
      rewrite [show (flE y != 0) = true from bne_iff_ne.2 c7]
      rw [if_pos hne]
      conv => whnf
      refine ⟨[0, 1, 2, 5], _, _, rfl, rfl, ?_, ?_, .inr ⟨hne, rfl, .inr rfl⟩⟩
      · (repeat' first | exact trivial | exact rfl | exact sh0 rfl | exact Nat.le_refl _ | exact .inl shA | exact .inr ⟨rfl, rfl, rfl, rfl, rfl⟩ | exact .inl shB | exact fun h => h | refine ⟨?_, ?_, ?_, .inl ?_⟩ | refine ⟨?_, ?_⟩ | refine fun ii hii => ?_ | omega | fail)
      · (repeat' first | exact trivial | exact rfl | exact sh0 rfl | exact Nat.le_refl _ | exact .inl shA | exact .inr ⟨rfl, rfl, rfl, rfl, rfl⟩ | exact .inl shB | exact fun h => h | refine ⟨?_, ?_, ?_, .inl ?_⟩ | refine ⟨?_, ?_⟩ | refine fun ii hii => ?_ | omega | fail)
    rw [if_neg (show ¬ (flE y ≠ 0) by rw [c7]; decide)]
    rewrite [c7]
    obtain ⟨_, z1, z2, _⟩ := flD_ok c7
    have hzb := by_flD hyb
    have hzi := Dk.Inv_flD hyi
    obtain ⟨z, hz⟩ : ∃ z, z = flD y := ⟨_, rfl⟩
    rw [← hz] at z1 z2 hzb hzi ⊢
    conv => whnf
    refine LCalls.use (reads z hzi ⟨n, m, ep, 0 + 1, 1⟩ ⟨by dsimp only; omega, by dsimp only; omega, hep, by dsimp only; omega⟩ rfl (regF z n) (At_reg hzb (by rw [z2]; dsimp only; omega)) z1 0 (by decide)) [0, 1, 5, 4] rfl rfl ⟨rfl, rfl, rfl, rfl, trivial⟩ ?_
    rintro _ _ ⟨rfl, rfl⟩
    conv => whnf
    refine ⟨[0, 1, 2, 5, 4], _, _, rfl, rfl, ?_, ?_, .inl ⟨rfl, rfl, rfl⟩⟩
    · (repeat' first | exact trivial | exact rfl | exact sh0 rfl | exact Nat.le_refl _ | exact .inl shA | exact .inr ⟨rfl, rfl, rfl, rfl, rfl⟩ | exact .inl shB | exact fun h => h | refine ⟨?_, ?_, ?_, .inl ?_⟩ | refine ⟨?_, ?_⟩ | refine fun ii hii => ?_ | omega | fail)
    · (repeat' first | exact trivial | exact rfl | exact sh0 rfl | exact Nat.le_refl _ | exact .inl shA | exact .inr ⟨rfl, rfl, rfl, rfl, rfl⟩ | exact .inl shB | exact fun h => h | refine ⟨?_, ?_, ?_, .inl ?_⟩ | refine ⟨?_, ?_⟩ | refine fun ii hii => ?_ | omega | fail)
  | true =>
    conv => whnf
    by_cases c8 : fl = 4
    case neg =>
      have hH : headOf f = 0 := by rw [hhd]; simp [c8]
      rewrite [show ((fl : Int) == 4) = false from beq_eq_false_iff_ne.2 (by omega)]
      rw [hH]
      unfold op1h
      rw [if_neg (show ¬ ((0 : Nat) = 4294967295) by decide)]
      conv => whnf
      rewrite [show IntKind.u32.wrap (0 + 1) = ((0 + 1 : Nat) : Int) from rfl]
      refine LCalls.pre [0, 1, 2, 3, 4] (.cons (wN 0) (.cons (wN (0 + 1)) (.cons (.int .i64 0) (.cons (.int .i64 4) (.cons (bV 0 (fB [])) .nil))))) [refO 1 2 x, rsO x.last, rpO x.pend, none, rlgO 0 ⟨n, m, ep, 0 + 1, 1⟩] rfl rfl ?_ ?_ ?_
      · exact ⟨⟨rfl, rfl⟩, ⟨rfl, rfl⟩, ⟨rfl, rfl⟩, ⟨rfl, rfl⟩, .inl ⟨rfl, rfl⟩, trivial⟩
      · (repeat' first | exact trivial | exact rfl | exact sh0 rfl | exact Nat.le_refl _ | exact .inl shA | exact .inr ⟨rfl, rfl, rfl, rfl, rfl⟩ | exact .inl shB | exact fun h => h | refine ⟨?_, ?_, ?_, .inl ?_⟩ | refine ⟨?_, ?_⟩ | refine fun ii hii => ?_ | omega | fail)
      refine LCalls.use (Made 0 (0 + 1) 0 4 [] (by decide) (by decide) (by decide) (by decide)) [] rfl rfl trivial ?_
      rintro _ _ ⟨rfl, rfl⟩
      conv => whnf
      by_cases c6 : wrE x (n : Int) 64 = 0
      case neg =>
        have hne : wrE x (n : Int) 64 ≠ 0 := c6
        rw [if_pos hne]
        have ey : wrD x (n : Int) (toS (hdS 0)) 64 = wrN x (n : Int) 64 := by unfold Dk.wrD; rw [if_neg c6]
        rw [ey]
        refine LCalls.use (rWrite_no x hi.len (n : Int) (toS (hdS 0)) 64 c6) [0, 1, 2] rfl rfl ⟨rfl, rfl, rfl, trivial⟩ ?_
        rintro _ _ ⟨rfl, rfl⟩
        conv => whnf
        rewrite [show (wrE x (n : Int) 64 != 0) = true from bne_iff_ne.2 c6]
        conv => whnf
        refine ⟨[0, 1, 2], _, _, rfl, rfl, ?_, ?_, .inr ⟨hne, rfl, .inl rfl⟩⟩
        · (repeat' first | exact trivial | exact rfl | exact sh0 rfl | exact Nat.le_refl _ | exact .inl shA | exact .inr ⟨rfl, rfl, rfl, rfl, rfl⟩ | exact .inl shB | exact fun h => h | refine ⟨?_, ?_, ?_, .inl ?_⟩ | refine ⟨?_, ?_⟩ | refine fun ii hii => ?_ | omega | fail)
        · (repeat' first | exact trivial | exact rfl | exact sh0 rfl | exact Nat.le_refl _ | exact .inl shA | exact .inr ⟨rfl, rfl, rfl, rfl, rfl⟩ | exact .inl shB | exact fun h => h | refine ⟨?_, ?_, ?_, .inl ?_⟩ | refine ⟨?_, ?_⟩ | refine fun ii hii => ?_ | omega | fail)
      rw [if_neg (show ¬ (wrE x (n : Int) 64 ≠ 0) by rw [c6]; decide)]
      obtain ⟨g1, g2, g3, g4⟩ := wrE_ok c6
      refine LCalls.use (rWrite_ok x n (toS (hdS 0)) 64 g1 (by rw [hi.len]; omega) g3 g4 (by omega)) [0, 1, 2] rfl rfl ⟨rfl, rfl, rfl, trivial⟩ ?_
      rintro _ _ ⟨rfl, rfl⟩
      have ey : wrD x (n : Int) (toS (hdS 0)) 64 = wrS (went x) n (toS (hdS 0)) 64 := by unfold Dk.wrD; rw [if_pos c6, Int.toNat_natCast]
      have hyl := wrD_len x (n : Int) (toS (hdS 0)) 64
      have hyb := by_wrD hb (n : Int) (b := toS (hdS 0)) (m := 64) (fun i hi => by_toS (hdS_lt 0) i 64 hi)
      have hyi := Inv_wrD hi (n : Int) (toS (hdS 0)) 64 (by omega)
      rw [ey] at hyl hyb hyi ⊢
      obtain ⟨y, hy⟩ : ∃ y, y = wrS (went x) n (toS (hdS 0)) 64 := ⟨_, rfl⟩
      rw [← hy] at hyl hyb hyi ⊢
      unfold op2
      conv => whnf
      refine LCalls.use (rFlush_x y hyi.toWf) [0, 1, 5] rfl rfl ⟨rfl, rfl, rfl, trivial⟩ ?_
      rintro _ _ ⟨rfl, rfl⟩
      conv => whnf
      by_cases c7 : flE y = 0
      case neg =>
        have hne : flE y ≠ 0 := c7
        rewrite [show (flE y != 0) = true from bne_iff_ne.2 c7]
        rw [if_pos hne]
        conv => whnf
        refine ⟨[0, 1, 2, 5], _, _, rfl, rfl, ?_, ?_, .inr ⟨hne, rfl, .inr rfl⟩⟩
        · (repeat' first | exact trivial | exact rfl | exact sh0 rfl | exact Nat.le_refl _ | exact .inl shA | exact .inr ⟨rfl, rfl, rfl, rfl, rfl⟩ | exact .inl shB | exact fun h => h | refine ⟨?_, ?_, ?_, .inl ?_⟩ | refine ⟨?_, ?_⟩ | refine fun ii hii => ?_ | omega | fail)
        · (repeat' first | exact trivial | exact rfl | exact sh0 rfl | exact Nat.le_refl _ | exact .inl shA | exact .inr ⟨rfl, rfl, rfl, rfl, rfl⟩ | exact .inl shB | exact fun h => h | refine ⟨?_, ?_, ?_, .inl ?_⟩ | refine ⟨?_, ?_⟩ | refine fun ii hii => ?_ | omega | fail)
      rw [if_neg (show ¬ (flE y ≠ 0) by rw [c7]; decide)]
      rewrite [c7]
      obtain ⟨_, z1, z2, _⟩ := flD_ok c7
      have hzb := by_flD hyb
      have hzi := Dk.Inv_flD hyi
      obtain ⟨z, hz⟩ : ∃ z, z = flD y := ⟨_, rfl⟩
      rw [← hz] at z1 z2 hzb hzi ⊢
      conv => whnf
      refine LCalls.use (reads z hzi ⟨n, m, ep, 0 + 1, 1⟩ ⟨by dsimp only; omega, by dsimp only; omega, hep, by dsimp only; omega⟩ rfl (regF z n) (At_reg hzb (by rw [z2]; dsimp only; omega)) z1 0 (by decide)) [0, 1, 5, 4] rfl rfl ⟨rfl, rfl, rfl, rfl, trivial⟩ ?_
      rintro _ _ ⟨rfl, rfl⟩
      conv => whnf
      refine ⟨[0, 1, 2, 5, 4], _, _, rfl, rfl, ?_, ?_, .inl ⟨rfl, rfl, rfl⟩⟩
      · (repeat' first | exact trivial | exact rfl | exact sh0 rfl | exact Nat.le_refl _ | exact .inl shA | exact .inr ⟨rfl, rfl, rfl, rfl, rfl⟩ | exact .inl shB | exact fun h => h | refine ⟨?_, ?_, ?_, .inl ?_⟩ | refine ⟨?_, ?_⟩ | refine fun ii hii => ?_ | omega | fail)
      · (repeat' first | exact trivial | exact rfl | exact sh0 rfl | exact Nat.le_refl _ | exact .inl shA | exact .inr ⟨rfl, rfl, rfl, rfl, rfl⟩ | exact .inl shB | exact fun h => h | refine ⟨?_, ?_, ?_, .inl ?_⟩ | refine ⟨?_, ?_⟩ | refine fun ii hii => ?_ | omega | fail)
    rewrite [show ((fl : Int) == 4) = true from beq_iff_eq.2 (by omega)]
    conv => whnf
    by_cases c9 : pl = 0
    case neg =>
      have hH : headOf f = 0 := by rw [hhd]; simp [c9]
      rewrite [show ((pl : Int) == 0) = false from beq_eq_false_iff_ne.2 (by omega)]
      rw [hH]
      unfold op1h
      rw [if_neg (show ¬ ((0 : Nat) = 4294967295) by decide)]
      conv => whnf
      rewrite [show IntKind.u32.wrap (0 + 1) = ((0 + 1 : Nat) : Int) from rfl]
      refine LCalls.pre [0, 1, 2, 3, 4] (.cons (wN 0) (.cons (wN (0 + 1)) (.cons (.int .i64 0) (.cons (.int .i64 4) (.cons (bV 0 (fB [])) .nil))))) [refO 1 2 x, rsO x.last, rpO x.pend, none, rlgO 0 ⟨n, m, ep, 0 + 1, 1⟩] rfl rfl ?_ ?_ ?_
      · exact ⟨⟨rfl, rfl⟩, ⟨rfl, rfl⟩, ⟨rfl, rfl⟩, ⟨rfl, rfl⟩, .inl ⟨rfl, rfl⟩, trivial⟩
      · (repeat' first | exact trivial | exact rfl | exact sh0 rfl | exact Nat.le_refl _ | exact .inl shA | exact .inr ⟨rfl, rfl, rfl, rfl, rfl⟩ | exact .inl shB | exact fun h => h | refine ⟨?_, ?_, ?_, .inl ?_⟩ | refine ⟨?_, ?_⟩ | refine fun ii hii => ?_ | omega | fail)
      refine LCalls.use (Made 0 (0 + 1) 0 4 [] (by decide) (by decide) (by decide) (by decide)) [] rfl rfl trivial ?_
      rintro _ _ ⟨rfl, rfl⟩
      conv => whnf
      by_cases c6 : wrE x (n : Int) 64 = 0
      case neg =>
        have hne : wrE x (n : Int) 64 ≠ 0 := c6
        rw [if_pos hne]
        have ey : wrD x (n : Int) (toS (hdS 0)) 64 = wrN x (n : Int) 64 := by unfold Dk.wrD; rw [if_neg c6]
        rw [ey]
        refine LCalls.use (rWrite_no x hi.len (n : Int) (toS (hdS 0)) 64 c6) [0, 1, 2] rfl rfl ⟨rfl, rfl, rfl, trivial⟩ ?_
        rintro _ _ ⟨rfl, rfl⟩
        conv => whnf
        rewrite [show (wrE x (n : Int) 64 != 0) = true from bne_iff_ne.2 c6]
        conv => whnf
        refine ⟨[0, 1, 2], _, _, rfl, rfl, ?_, ?_, .inr ⟨hne, rfl, .inl rfl⟩⟩
        · (repeat' first | exact trivial | exact rfl | exact sh0 rfl | exact Nat.le_refl _ | exact .inl shA | exact .inr ⟨rfl, rfl, rfl, rfl, rfl⟩ | exact .inl shB | exact fun h => h | refine ⟨?_, ?_, ?_, .inl ?_⟩ | refine ⟨?_, ?_⟩ | refine fun ii hii => ?_ | omega | fail)
        · (repeat' first | exact trivial | exact rfl | exact sh0 rfl | exact Nat.le_refl _ | exact .inl shA | exact .inr ⟨rfl, rfl, rfl, rfl, rfl⟩ | exact .inl shB | exact fun h => h | refine ⟨?_, ?_, ?_, .inl ?_⟩ | refine ⟨?_, ?_⟩ | refine fun ii hii => ?_ | omega | fail)
      rw [if_neg (show ¬ (wrE x (n : Int) 64 ≠ 0) by rw [c6]; decide)]
      obtain ⟨g1, g2, g3, g4⟩ := wrE_ok c6
      refine LCalls.use (rWrite_ok x n (toS (hdS 0)) 64 g1 (by rw [hi.len]; omega) g3 g4 (by omega)) [0, 1, 2] rfl rfl ⟨rfl, rfl, rfl, trivial⟩ ?_
      rintro _ _ ⟨rfl, rfl⟩
      have ey : wrD x (n : Int) (toS (hdS 0)) 64 = wrS (went x) n (toS (hdS 0)) 64 := by unfold Dk.wrD; rw [if_pos c6, Int.toNat_natCast]
      have hyl := wrD_len x (n : Int) (toS (hdS 0)) 64
      have hyb := by_wrD hb (n : Int) (b := toS (hdS 0)) (m := 64) (fun i hi => by_toS (hdS_lt 0) i 64 hi)
      have hyi := Inv_wrD hi (n : Int) (toS (hdS 0)) 64 (by omega)
      rw [ey] at hyl hyb hyi ⊢
      obtain ⟨y, hy⟩ : ∃ y, y = wrS (went x) n (toS (hdS 0)) 64 := ⟨_, rfl⟩
      rw [← hy] at hyl hyb hyi ⊢
      unfold op2
      conv => whnf
      refine LCalls.use (rFlush_x y hyi.toWf) [0, 1, 5] rfl rfl ⟨rfl, rfl, rfl, trivial⟩ ?_
      rintro _ _ ⟨rfl, rfl⟩
      conv => whnf
      by_cases c7 : flE y = 0
      case neg =>
        have hne : flE y ≠ 0 := c7
        rewrite [show (flE y != 0) = true from bne_iff_ne.2 c7]
        rw [if_pos hne]
        conv => whnf
        refine ⟨[0, 1, 2, 5], _, _, rfl, rfl, ?_, ?_, .inr ⟨hne, rfl, .inr rfl⟩⟩
        · (repeat' first | exact trivial | exact rfl | exact sh0 rfl | exact Nat.le_refl _ | exact .inl shA | exact .inr ⟨rfl, rfl, rfl, rfl, rfl⟩ | exact .inl shB | exact fun h => h | refine ⟨?_, ?_, ?_, .inl ?_⟩ | refine ⟨?_, ?_⟩ | refine fun ii hii => ?_ | omega | fail)
        · (repeat' first | exact trivial | exact rfl | exact sh0 rfl | exact Nat.le_refl _ | exact .inl shA | exact .inr ⟨rfl, rfl, rfl, rfl, rfl⟩ | exact .inl shB | exact fun h => h | refine ⟨?_, ?_, ?_, .inl ?_⟩ | refine ⟨?_, ?_⟩ | refine fun ii hii => ?_ | omega | fail)
      rw [if_neg (show ¬ (flE y ≠ 0) by rw [c7]; decide)]
      rewrite [c7]
      obtain ⟨_, z1, z2, _⟩ := flD_ok c7
      have hzb := by_flD hyb
      have hzi := Dk.Inv_flD hyi
      obtain ⟨z, hz⟩ : ∃ z, z = flD y := ⟨_, rfl⟩
      rw [← hz] at z1 z2 hzb hzi ⊢
      conv => whnf
      refine LCalls.use (reads z hzi ⟨n, m, ep, 0 + 1, 1⟩ ⟨by dsimp only; omega, by dsimp only; omega, hep, by dsimp only; omega⟩ rfl (regF z n) (At_reg hzb (by rw [z2]; dsimp only; omega)) z1 0 (by decide)) [0, 1, 5, 4] rfl rfl ⟨rfl, rfl, rfl, rfl, trivial⟩ ?_
      rintro _ _ ⟨rfl, rfl⟩
      conv => whnf
      refine ⟨[0, 1, 2, 5, 4], _, _, rfl, rfl, ?_, ?_, .inl ⟨rfl, rfl, rfl⟩⟩
      · (repeat' first | exact trivial | exact rfl | exact sh0 rfl | exact Nat.le_refl _ | exact .inl shA | exact .inr ⟨rfl, rfl, rfl, rfl, rfl⟩ | exact .inl shB | exact fun h => h | refine ⟨?_, ?_, ?_, .inl ?_⟩ | refine ⟨?_, ?_⟩ | refine fun ii hii => ?_ | omega | fail)
      · (repeat' first | exact trivial | exact rfl | exact sh0 rfl | exact Nat.le_refl _ | exact .inl shA | exact .inr ⟨rfl, rfl, rfl, rfl, rfl⟩ | exact .inl shB | exact fun h => h | refine ⟨?_, ?_, ?_, .inl ?_⟩ | refine ⟨?_, ?_⟩ | refine fun ii hii => ?_ | omega | fail)
    have hH : headOf f = li := by rw [hhd]; simp [c8, c9]
    rewrite [show ((pl : Int) == 0) = true from beq_iff_eq.2 (by omega)]
    conv => whnf
    rw [hH]
    unfold op1h
    by_cases c5 : li = 4294967295
    case pos =>
      rewrite [show ((li : Int) == 4294967295) = true from beq_iff_eq.2 (by omega)]
      rw [if_pos c5]
      have hne : (3 : Int) ≠ 0 := by decide
      conv => whnf
      refine ⟨[0, 1, 2], _, _, rfl, rfl, ?_, ?_, .inr ⟨hne, rfl, .inl rfl⟩⟩
      · (repeat' first | exact trivial | exact rfl | exact sh0 rfl | exact Nat.le_refl _ | exact .inl shA | exact .inr ⟨rfl, rfl, rfl, rfl, rfl⟩ | exact .inl shB | exact fun h => h | refine ⟨?_, ?_, ?_, .inl ?_⟩ | refine ⟨?_, ?_⟩ | refine fun ii hii => ?_ | omega | fail)
      · (repeat' first | exact trivial | exact rfl | exact sh0 rfl | exact Nat.le_refl _ | exact .inl shA | exact .inr ⟨rfl, rfl, rfl, rfl, rfl⟩ | exact .inl shB | exact fun h => h | refine ⟨?_, ?_, ?_, .inl ?_⟩ | refine ⟨?_, ?_⟩ | refine fun ii hii => ?_ | omega | fail)
    rewrite [show ((li : Int) == 4294967295) = false from beq_eq_false_iff_ne.2 (by omega)]
    rw [if_neg c5]
    conv => whnf
    rewrite [show IntKind.u32.wrap ((li : Int) + 1) = ((li + 1 : Nat) : Int) from w32 (n := li + 1) (by omega)]
    refine LCalls.pre [0, 1, 2, 3, 4] (.cons (wN 0) (.cons (wN (li + 1)) (.cons (.int .i64 0) (.cons (.int .i64 4) (.cons (bV 0 (fB [])) .nil))))) [refO 1 2 x, rsO x.last, rpO x.pend, none, rlgO 0 ⟨n, m, ep, li + 1, 1⟩] rfl rfl ?_ ?_ ?_
    · exact ⟨⟨rfl, rfl⟩, ⟨rfl, rfl⟩, ⟨rfl, rfl⟩, ⟨rfl, rfl⟩, .inl ⟨rfl, rfl⟩, trivial⟩
    · (repeat' first | exact trivial | exact rfl | exact sh0 rfl | exact Nat.le_refl _ | exact .inl shA | exact .inr ⟨rfl, rfl, rfl, rfl, rfl⟩ | exact .inl shB | exact fun h => h | refine ⟨?_, ?_, ?_, .inl ?_⟩ | refine ⟨?_, ?_⟩ | refine fun ii hii => ?_ | omega | fail)
    refine LCalls.use (Made 0 (li + 1) 0 4 [] (by decide) (by omega) (by decide) (by decide)) [] rfl rfl trivial ?_
    rintro _ _ ⟨rfl, rfl⟩
    conv => whnf
    by_cases c6 : wrE x (n : Int) 64 = 0
    case neg =>
      have hne : wrE x (n : Int) 64 ≠ 0 := c6
      rw [if_pos hne]
      have ey : wrD x (n : Int) (toS (hdS li)) 64 = wrN x (n : Int) 64 := by unfold Dk.wrD; rw [if_neg c6]
      rw [ey]
      refine LCalls.use (rWrite_no x hi.len (n : Int) (toS (hdS li)) 64 c6) [0, 1, 2] rfl rfl ⟨rfl, rfl, rfl, trivial⟩ ?_
      rintro _ _ ⟨rfl, rfl⟩
      conv => whnf
      rewrite [show (wrE x (n : Int) 64 != 0) = true from bne_iff_ne.2 c6]
      conv => whnf
      refine ⟨[0, 1, 2], _, _, rfl, rfl, ?_, ?_, .inr ⟨hne, rfl, .inl rfl⟩⟩
      · (repeat' first | exact trivial | exact rfl | exact sh0 rfl | exact Nat.le_refl _ | exact .inl shA | exact .inr ⟨rfl, rfl, rfl, rfl, rfl⟩ | exact .inl shB | exact fun h => h | refine ⟨?_, ?_, ?_, .inl ?_⟩ | refine ⟨?_, ?_⟩ | refine fun ii hii => ?_ | omega | fail)
      · (repeat' first | exact trivial | exact rfl | exact sh0 rfl | exact Nat.le_refl _ | exact .inl shA | exact .inr ⟨rfl, rfl, rfl, rfl, rfl⟩ | exact .inl shB | exact fun h => h | refine ⟨?_, ?_, ?_, .inl ?_⟩ | refine ⟨?_, ?_⟩ | refine fun ii hii => ?_ | omega | fail)
    rw [if_neg (show ¬ (wrE x (n : Int) 64 ≠ 0) by rw [c6]; decide)]
    obtain ⟨g1, g2, g3, g4⟩ := wrE_ok c6
    refine LCalls.use (rWrite_ok x n (toS (hdS li)) 64 g1 (by rw [hi.len]; omega) g3 g4 (by omega)) [0, 1, 2] rfl rfl ⟨rfl, rfl, rfl, trivial⟩ ?_
    rintro _ _ ⟨rfl, rfl⟩
    have ey : wrD x (n : Int) (toS (hdS li)) 64 = wrS (went x) n (toS (hdS li)) 64 := by unfold Dk.wrD; rw [if_pos c6, Int.toNat_natCast]
    have hyl := wrD_len x (n : Int) (toS (hdS li)) 64
    have hyb := by_wrD hb (n : Int) (b := toS (hdS li)) (m := 64) (fun i hi => by_toS (hdS_lt li) i 64 hi)
    have hyi := Inv_wrD hi (n : Int) (toS (hdS li)) 64 (by omega)
    rw [ey] at hyl hyb hyi ⊢
    obtain ⟨y, hy⟩ : ∃ y, y = wrS (went x) n (toS (hdS li)) 64 := ⟨_, rfl⟩
    rw [← hy] at hyl hyb hyi ⊢
    unfold op2
    conv => whnf
    refine LCalls.use (rFlush_x y hyi.toWf) [0, 1, 5] rfl rfl ⟨rfl, rfl, rfl, trivial⟩ ?_
    rintro _ _ ⟨rfl, rfl⟩
    conv => whnf
    by_cases c7 : flE y = 0
    case neg =>
      have hne : flE y ≠ 0 := c7
      rewrite [show (flE y != 0) = true from bne_iff_ne.2 c7]
      rw [if_pos hne]
      conv => whnf
      refine ⟨[0, 1, 2, 5], _, _, rfl, rfl, ?_, ?_, .inr ⟨hne, rfl, .inr rfl⟩⟩
      · (repeat' first | exact trivial | exact rfl | exact sh0 rfl | exact Nat.le_refl _ | exact .inl shA | exact .inr ⟨rfl, rfl, rfl, rfl, rfl⟩ | exact .inl shB | exact fun h => h | refine ⟨?_, ?_, ?_, .inl ?_⟩ | refine ⟨?_, ?_⟩ | refine fun ii hii => ?_ | omega | fail)
      · (repeat' first | exact trivial | exact rfl | exact sh0 rfl | exact Nat.le_refl _ | exact .inl shA | exact .inr ⟨rfl, rfl, rfl, rfl, rfl⟩ | exact .inl shB | exact fun h => h | refine ⟨?_, ?_, ?_, .inl ?_⟩ | refine ⟨?_, ?_⟩ | refine fun ii hii => ?_ | omega | fail)
    rw [if_neg (show ¬ (flE y ≠ 0) by rw [c7]; decide)]
    rewrite [c7]
    obtain ⟨_, z1, z2, _⟩ := flD_ok c7
    have hzb := by_flD hyb
    have hzi := Dk.Inv_flD hyi
    obtain ⟨z, hz⟩ : ∃ z, z = flD y := ⟨_, rfl⟩
    rw [← hz] at z1 z2 hzb hzi ⊢
    conv => whnf
    refine LCalls.use (reads z hzi ⟨n, m, ep, li + 1, 1⟩ ⟨by dsimp only; omega, by dsimp only; omega, hep, by dsimp only; omega⟩ rfl (regF z n) (At_reg hzb (by rw [z2]; dsimp only; omega)) z1 li (by omega)) [0, 1, 5, 4] rfl rfl ⟨rfl, rfl, rfl, rfl, trivial⟩ ?_
    rintro _ _ ⟨rfl, rfl⟩
    conv => whnf
    refine ⟨[0, 1, 2, 5, 4], _, _, rfl, rfl, ?_, ?_, .inl ⟨rfl, rfl, rfl⟩⟩
    · (repeat' first | exact trivial | exact rfl | exact sh0 rfl | exact Nat.le_refl _ | exact .inl shA | exact .inr ⟨rfl, rfl, rfl, rfl, rfl⟩ | exact .inl shB | exact fun h => h | refine ⟨?_, ?_, ?_, .inl ?_⟩ | refine ⟨?_, ?_⟩ | refine fun ii hii => ?_ | omega | fail)
    · (repeat' first | exact trivial | exact rfl | exact sh0 rfl | exact Nat.le_refl _ | exact .inl shA | exact .inr ⟨rfl, rfl, rfl, rfl, rfl⟩ | exact .inl shB | exact fun h => h | refine ⟨?_, ?_, ?_, .inl ?_⟩ | refine ⟨?_, ?_⟩ | refine fun ii hii => ?_ | omega | fail)
end Go.Proofs.Ytilmfhpoiejmfaa.Gk
