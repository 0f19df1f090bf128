/- The log on the heap of the mind: a log is opened, and made to last. By this session. -/
import Derived.Test.YtilmfhpoiejmfaaGq
namespace Go.Proofs.Ytilmfhpoiejmfaa.Gk
open Go.Proofs.Ytilmfhpoiejmfaa.Lh Go.RowKit Go.Proofs.Ytilmfhpoiejmfaa.Lg
open Go.Proofs.Ytilmfhpoiejmfaa.Dk (Disk Sec nought diskR wrE wrD flE flD rdE hasB secV bytesV byteR writeR' read' flush' sectors' wrD_pend Inv Inv_wrD wrD_len)
set_option maxRecDepth 100000
set_option linter.unusedSimpArgs false
set_option linter.unusedSectionVars false
set_option linter.unusedVariables false
variable [Fz]
theorem openV_no {e : Int} {y : Disk} {L : LgS} {r : List Lg.Bs} (h : e ≠ 0) : openV ⟨e, y, L, r⟩ = .tup (.cons .nilp (.cons (.slice ⟨0, [], 0⟩ 0 0 0 0 (some 0)) (.cons (.int .i64 e) .nil))) := if_neg h
theorem openH_no {τ : Nat} {e : Int} {y : Disk} {L : LgS} {r : List Lg.Bs} (h : e ≠ 0) : openH τ ⟨e, y, L, r⟩ = [diskR τ y] := if_neg h
theorem openV_ok {y : Disk} {L : LgS} {r : List Lg.Bs} : openV ⟨0, y, L, r⟩ = .tup (.cons (.ptr ⟨1, [], 0⟩) (.cons (strsV r) (.cons (.int .i64 0) .nil))) := if_pos rfl
theorem openH_ok {τ : Nat} {y : Disk} {L : LgS} {r : List Lg.Bs} : openH τ ⟨0, y, L, r⟩ = [diskR τ y, lgO τ L] := if_pos rfl
set_option maxHeartbeats 1000000 in
theorem Open (τ : Nat) (x : Disk) (hi : Inv x) (hb : ByteD x) (hn : x.now.length ≤ 4096) (first count : Int) (ep : Nat) (hep : ep < 4294967296) (hp : x.pend.length + 1 < 1000000) : LCalls Try.prog 37 (.cons (.tok τ) (.cons (.int .i64 first) (.cons (.int .i64 count) (.cons (wN ep) .nil)))) [diskR τ x] (fun e h' => e = .ret (openV (openP x first count ep)) ∧ h' = openH τ (openP x first count ep)) := by
  unfold wN openP
  refine LCalls.tell ?_; refine enter37 rfl ?_; conv => whnf
  by_cases c1 : first < 0
  case pos =>
    rewrite [show decide (first < 0) = true from decide_eq_true c1]
    rw [if_pos c1, openV_no (by decide), openH_no (by decide)]
    conv => whnf
    refine ⟨[0], _, _, rfl, rfl, ?_, ?_, rfl, rfl⟩
    · (repeat' first | exact trivial | exact rfl | exact sh0 rfl | exact Nat.le_refl _ | exact .inl shA | exact .inr ⟨rfl, rfl, rfl, rfl, rfl⟩ | exact .inl shB | exact fun h => h | refine ⟨?_, ?_, ?_, .inl ?_⟩ | refine ⟨?_, ?_⟩ | refine fun ii hii => ?_ | omega | fail)
    · (repeat' first | exact trivial | exact rfl | exact sh0 rfl | exact Nat.le_refl _ | exact .inl shA | exact .inr ⟨rfl, rfl, rfl, rfl, rfl⟩ | exact .inl shB | exact fun h => h | refine ⟨?_, ?_, ?_, .inl ?_⟩ | refine ⟨?_, ?_⟩ | refine fun ii hii => ?_ | omega | fail)
  rewrite [show decide (first < 0) = false from decide_eq_false c1]
  rw [if_neg c1]
  conv => whnf
  by_cases c2 : count < 2
  case pos =>
    rewrite [show decide (count < 2) = true from decide_eq_true c2]
    rw [if_pos c2, openV_no (by decide), openH_no (by decide)]
    conv => whnf
    refine ⟨[0], _, _, rfl, rfl, ?_, ?_, rfl, rfl⟩
    · (repeat' first | exact trivial | exact rfl | exact sh0 rfl | exact Nat.le_refl _ | exact .inl shA | exact .inr ⟨rfl, rfl, rfl, rfl, rfl⟩ | exact .inl shB | exact fun h => h | refine ⟨?_, ?_, ?_, .inl ?_⟩ | refine ⟨?_, ?_⟩ | refine fun ii hii => ?_ | omega | fail)
    · (repeat' first | exact trivial | exact rfl | exact sh0 rfl | exact Nat.le_refl _ | exact .inl shA | exact .inr ⟨rfl, rfl, rfl, rfl, rfl⟩ | exact .inl shB | exact fun h => h | refine ⟨?_, ?_, ?_, .inl ?_⟩ | refine ⟨?_, ?_⟩ | refine fun ii hii => ?_ | omega | fail)
  rewrite [show decide (count < 2) = false from decide_eq_false c2]
  rw [if_neg c2]
  obtain ⟨n, rfl⟩ : ∃ n : Nat, first = n := ⟨first.toNat, by omega⟩
  obtain ⟨m, rfl⟩ : ∃ m : Nat, count = m := ⟨count.toNat, by omega⟩
  rw [Int.toNat_natCast, Int.toNat_natCast]
  conv => whnf
  refine LCalls.use (sectors' τ x) [0] rfl rfl ⟨rfl, trivial⟩ ?_
  rintro _ _ ⟨rfl, rfl⟩
  conv => whnf
  by_cases c3 : (x.now.length : Int) < (n : Int)
  case pos =>
    rewrite [show decide ((n : Int) > (x.now.length : Int)) = true from decide_eq_true c3]
    rw [if_pos c3, openV_no (by decide), openH_no (by decide)]
    conv => whnf
    refine ⟨[0], _, _, rfl, rfl, ?_, ?_, rfl, rfl⟩
    · (repeat' first | exact trivial | exact rfl | exact sh0 rfl | exact Nat.le_refl _ | exact .inl shA | exact .inr ⟨rfl, rfl, rfl, rfl, rfl⟩ | exact .inl shB | exact fun h => h | refine ⟨?_, ?_, ?_, .inl ?_⟩ | refine ⟨?_, ?_⟩ | refine fun ii hii => ?_ | omega | fail)
    · (repeat' first | exact trivial | exact rfl | exact sh0 rfl | exact Nat.le_refl _ | exact .inl shA | exact .inr ⟨rfl, rfl, rfl, rfl, rfl⟩ | exact .inl shB | exact fun h => h | refine ⟨?_, ?_, ?_, .inl ?_⟩ | refine ⟨?_, ?_⟩ | refine fun ii hii => ?_ | omega | fail)
  rewrite [show decide ((n : Int) > (x.now.length : Int)) = false from decide_eq_false c3]
  rw [if_neg c3]
  conv => whnf
  refine LCalls.use (sectors' τ x) [0] rfl rfl ⟨rfl, trivial⟩ ?_
  rintro _ _ ⟨rfl, rfl⟩
  conv => whnf
  rewrite [w64 (n := (x.now.length : Int) - (n : Int)) (by omega)]
  by_cases c4 : (x.now.length : Int) - (n : Int) < (m : Int)
  case pos =>
    rewrite [show decide ((m : Int) > (x.now.length : Int) - (n : Int)) = true from decide_eq_true c4]
    rw [if_pos c4, openV_no (by decide), openH_no (by decide)]
    conv => whnf
    refine ⟨[0], _, _, rfl, rfl, ?_, ?_, rfl, rfl⟩
    · (repeat' first | exact trivial | exact rfl | exact sh0 rfl | exact Nat.le_refl _ | exact .inl shA | exact .inr ⟨rfl, rfl, rfl, rfl, rfl⟩ | exact .inl shB | exact fun h => h | refine ⟨?_, ?_, ?_, .inl ?_⟩ | refine ⟨?_, ?_⟩ | refine fun ii hii => ?_ | omega | fail)
    · (repeat' first | exact trivial | exact rfl | exact sh0 rfl | exact Nat.le_refl _ | exact .inl shA | exact .inr ⟨rfl, rfl, rfl, rfl, rfl⟩ | exact .inl shB | exact fun h => h | refine ⟨?_, ?_, ?_, .inl ?_⟩ | refine ⟨?_, ?_⟩ | refine fun ii hii => ?_ | omega | fail)
  rewrite [show decide ((m : Int) > (x.now.length : Int) - (n : Int)) = false from decide_eq_false c4]
  rw [if_neg c4]
  unfold op1
  have hr := read' τ x (n : Int)
  by_cases hd : x.down = true
  case pos =>
    rw [show rdE x (n : Int) = 10 by simp [rdE, hd]] at hr
    rw [if_pos hd, openV_no (by decide), openH_no (by decide)]
    conv => whnf
    refine LCalls.use hr [0] rfl rfl ⟨rfl, trivial⟩ ?_
    rintro _ _ ⟨rfl, rfl⟩
    conv => whnf
    refine ⟨[0], _, _, rfl, rfl, ?_, ?_, rfl, rfl⟩
    · (repeat' first | exact trivial | exact rfl | exact sh0 rfl | exact Nat.le_refl _ | exact .inl shA | exact .inr ⟨rfl, rfl, rfl, rfl, rfl⟩ | exact .inl shB | exact fun h => h | refine ⟨?_, ?_, ?_, .inl ?_⟩ | refine ⟨?_, ?_⟩ | refine fun ii hii => ?_ | omega | fail)
    · (repeat' first | exact trivial | exact rfl | exact sh0 rfl | exact Nat.le_refl _ | exact .inl shA | exact .inr ⟨rfl, rfl, rfl, rfl, rfl⟩ | exact .inl shB | exact fun h => h | refine ⟨?_, ?_, ?_, .inl ?_⟩ | refine ⟨?_, ?_⟩ | refine fun ii hii => ?_ | omega | fail)
  rw [if_neg hd]
  have hd' : x.down = false := by simpa using hd
  rw [rdE_ok hd' (by omega), Int.toNat_natCast, ← toS_byt (by_getD hb.now n)] at hr
  have hfl := byt_lt (by_getD hb.now n)
  have hF0 : regF x n 0 = byt (x.now.getD n nought) := rfl
  obtain ⟨f, hff⟩ : ∃ f, f = byt (x.now.getD n nought) := ⟨_, rfl⟩
  rw [← hff] at hr hfl hF0
  rw [hF0]
  conv => whnf
  refine LCalls.use (P := Try.prog) hr [0] rfl rfl ⟨rfl, trivial⟩ ?_
  rintro _ _ ⟨rfl, rfl⟩
  conv => whnf
  obtain ⟨e, li, pl, fl, ln, rb, g, hdec, hhd, hli, hpl, hfl8⟩ : ∃ (e li pl fl ln : Nat) (rb : Bool) (g : Nat → Nat), LCalls Try.prog 74 (.cons (bV 64 f) .nil) [] (fun e' h' => e' = .ret (.tup (.cons (.agg (.one (.int .u32 (e : Int)) (.one (.int .u32 (li : Int)) (.one (.int .i64 (pl : Int)) (.one (.int .u8 (fl : Int)) (.one (.int .i64 (ln : Int)) (.one (bV (min ln 48) g) .nil))))))) (.cons (.bool rb) .nil))) ∧ h' = [])
      ∧ headOf f = (if rb && (fl == 4) && (pl == 0) then li else 0) ∧ li < 4294967296 ∧ pl < 65536 ∧ fl < 256 := ⟨leN f 4 4, leN f 8 4, leN f 12 2, f 14, f 15, rightB f, fun i => f (16 + i), decode f hfl, rfl, leN_lt hfl 8 4, leN_lt hfl 12 2, hfl 14⟩
  refine LCalls.use hdec [] rfl rfl trivial ?_
  rintro _ _ ⟨rfl, rfl⟩
  conv => whnf
  cases rb with
  | false =>
    have hH : headOf f = 0 := by rw [hhd]; rfl
    rw [hH]
    unfold op1h
    rw [if_neg (show ¬ ((0 : Nat) = 4294967295) by decide)]
    conv => whnf
    rewrite [show IntKind.u32.wrap (0 + 1) = ((0 + 1 : Nat) : Int) from rfl]
    refine LCalls.pre [0, 1, 2] (.cons (sctA 0 (0 + 1) 0 4 0 []) .nil) [diskR τ x, lgO τ ⟨n, m, ep, 0 + 1, 1⟩, none] rfl rfl ?_ ?_ ?_
    · exact ⟨⟨⟨rfl, rfl⟩, ⟨rfl, rfl⟩, ⟨rfl, rfl⟩, ⟨rfl, rfl⟩, ⟨rfl, rfl⟩, .inl ⟨rfl, rfl⟩, trivial⟩, trivial⟩
    · (repeat' first | exact trivial | exact rfl | exact sh0 rfl | exact Nat.le_refl _ | exact .inl shA | exact .inr ⟨rfl, rfl, rfl, rfl, rfl⟩ | exact .inl shB | exact fun h => h | refine ⟨?_, ?_, ?_, .inl ?_⟩ | refine ⟨?_, ?_⟩ | refine fun ii hii => ?_ | omega | fail)
    refine LCalls.use (encode 0 (0 + 1) 0 4 0 [] (by decide) (by decide) (by decide) (by decide) (by decide) (by decide)) [] rfl rfl trivial ?_
    rintro _ _ ⟨rfl, rfl⟩
    conv => whnf
    refine LCalls.use (writeR' τ x (n : Int) (toS (hdS 0)) 64 (by omega)) [0] rfl rfl ⟨rfl, trivial⟩ ?_
    rintro _ _ ⟨rfl, rfl⟩
    conv => whnf
    by_cases c6 : wrE x (n : Int) 64 = 0
    case neg =>
      rewrite [show (wrE x (n : Int) 64 != 0) = true from bne_iff_ne.2 c6]
      rw [if_pos c6, openV_no c6, openH_no c6]
      conv => whnf
      refine ⟨[0], _, _, rfl, rfl, ?_, ?_, rfl, rfl⟩
      · (repeat' first | exact trivial | exact rfl | exact sh0 rfl | exact Nat.le_refl _ | exact .inl shA | exact .inr ⟨rfl, rfl, rfl, rfl, rfl⟩ | exact .inl shB | exact fun h => h | refine ⟨?_, ?_, ?_, .inl ?_⟩ | refine ⟨?_, ?_⟩ | refine fun ii hii => ?_ | omega | fail)
      · (repeat' first | exact trivial | exact rfl | exact sh0 rfl | exact Nat.le_refl _ | exact .inl shA | exact .inr ⟨rfl, rfl, rfl, rfl, rfl⟩ | exact .inl shB | exact fun h => h | refine ⟨?_, ?_, ?_, .inl ?_⟩ | refine ⟨?_, ?_⟩ | refine fun ii hii => ?_ | omega | fail)
    rw [if_neg (by rw [c6]; decide)]
    rewrite [c6]
    have hyl := wrD_len x (n : Int) (toS (hdS 0)) 64
    have hyb := by_wrD hb (n : Int) (b := toS (hdS 0)) (m := 64) (fun i hi => by_toS (hdS_lt 0) i 64 hi)
    have hyi := Inv_wrD hi (n : Int) (toS (hdS 0)) 64 (by omega)
    obtain ⟨y, hy⟩ : ∃ y, y = wrD x (n : Int) (toS (hdS 0)) 64 := ⟨_, rfl⟩
    rw [← hy] at hyl hyb hyi ⊢
    unfold op2
    conv => whnf
    refine LCalls.use (flush' τ y hyi.toWf) [0] rfl rfl ⟨rfl, trivial⟩ ?_
    rintro _ _ ⟨rfl, rfl⟩
    conv => whnf
    by_cases c7 : flE y = 0
    case neg =>
      rewrite [show (flE y != 0) = true from bne_iff_ne.2 c7]
      rw [if_pos c7, openV_no c7, openH_no c7]
      conv => whnf
      refine ⟨[0], _, _, rfl, rfl, ?_, ?_, rfl, rfl⟩
      · (repeat' first | exact trivial | exact rfl | exact sh0 rfl | exact Nat.le_refl _ | exact .inl shA | exact .inr ⟨rfl, rfl, rfl, rfl, rfl⟩ | exact .inl shB | exact fun h => h | refine ⟨?_, ?_, ?_, .inl ?_⟩ | refine ⟨?_, ?_⟩ | refine fun ii hii => ?_ | omega | fail)
      · (repeat' first | exact trivial | exact rfl | exact sh0 rfl | exact Nat.le_refl _ | exact .inl shA | exact .inr ⟨rfl, rfl, rfl, rfl, rfl⟩ | exact .inl shB | exact fun h => h | refine ⟨?_, ?_, ?_, .inl ?_⟩ | refine ⟨?_, ?_⟩ | refine fun ii hii => ?_ | omega | fail)
    rw [if_neg (by rw [c7]; decide), openV_ok, openH_ok]
    rewrite [c7]
    obtain ⟨_, z1, z2, _⟩ := flD_ok c7
    have hzb := by_flD hyb
    obtain ⟨z, hz⟩ : ∃ z, z = flD y := ⟨_, rfl⟩
    rw [← hz] at z1 z2 hzb ⊢
    conv => whnf
    refine LCalls.use (read τ z ⟨n, m, ep, 0 + 1, 1⟩ ⟨by dsimp only; omega, by dsimp only; omega, hep, by dsimp only; omega⟩ rfl (regF z n) (At_reg hzb (by rw [z2]; dsimp only; omega)) z1 0 (by decide)) [0, 1] rfl rfl ⟨rfl, rfl, trivial⟩ ?_
    rintro _ _ ⟨rfl, rfl⟩
    conv => whnf
    refine ⟨[0, 1], _, _, rfl, rfl, ?_, ?_, rfl, rfl⟩
    · (repeat' first | exact trivial | exact rfl | exact sh0 rfl | exact Nat.le_refl _ | exact .inl shA | exact .inr ⟨rfl, rfl, rfl, rfl, rfl⟩ | exact .inl shB | exact fun h => h | refine ⟨?_, ?_, ?_, .inl ?_⟩ | refine ⟨?_, ?_⟩ | refine fun ii hii => ?_ | omega | fail)
    · (repeat' first | exact trivial | exact rfl | exact sh0 rfl | exact Nat.le_refl _ | exact .inl shA | exact .inr ⟨rfl, rfl, rfl, rfl, rfl⟩ | exact .inl shB | exact fun h => h | refine ⟨?_, ?_, ?_, .inl ?_⟩ | refine ⟨?_, ?_⟩ | refine fun ii hii => ?_ | omega | fail)
  | true =>
    conv => whnf
    by_cases c8 : fl = 4
    case neg =>
      have hH : headOf f = 0 := by rw [hhd]; simp [c8]
      rewrite [show ((fl : Int) == 4) = false from beq_eq_false_iff_ne.2 (by omega)]
      rw [hH]
      unfold op1h
      rw [if_neg (show ¬ ((0 : Nat) = 4294967295) by decide)]
      conv => whnf
      rewrite [show IntKind.u32.wrap (0 + 1) = ((0 + 1 : Nat) : Int) from rfl]
      refine LCalls.pre [0, 1, 2] (.cons (sctA 0 (0 + 1) 0 4 0 []) .nil) [diskR τ x, lgO τ ⟨n, m, ep, 0 + 1, 1⟩, none] rfl rfl ?_ ?_ ?_
      · exact ⟨⟨⟨rfl, rfl⟩, ⟨rfl, rfl⟩, ⟨rfl, rfl⟩, ⟨rfl, rfl⟩, ⟨rfl, rfl⟩, .inl ⟨rfl, rfl⟩, trivial⟩, trivial⟩
      · (repeat' first | exact trivial | exact rfl | exact sh0 rfl | exact Nat.le_refl _ | exact .inl shA | exact .inr ⟨rfl, rfl, rfl, rfl, rfl⟩ | exact .inl shB | exact fun h => h | refine ⟨?_, ?_, ?_, .inl ?_⟩ | refine ⟨?_, ?_⟩ | refine fun ii hii => ?_ | omega | fail)
      refine LCalls.use (encode 0 (0 + 1) 0 4 0 [] (by decide) (by decide) (by decide) (by decide) (by decide) (by decide)) [] rfl rfl trivial ?_
      rintro _ _ ⟨rfl, rfl⟩
      conv => whnf
      refine LCalls.use (writeR' τ x (n : Int) (toS (hdS 0)) 64 (by omega)) [0] rfl rfl ⟨rfl, trivial⟩ ?_
      rintro _ _ ⟨rfl, rfl⟩
      conv => whnf
      by_cases c6 : wrE x (n : Int) 64 = 0
      case neg =>
        rewrite [show (wrE x (n : Int) 64 != 0) = true from bne_iff_ne.2 c6]
        rw [if_pos c6, openV_no c6, openH_no c6]
        conv => whnf
        refine ⟨[0], _, _, rfl, rfl, ?_, ?_, rfl, rfl⟩
        · (repeat' first | exact trivial | exact rfl | exact sh0 rfl | exact Nat.le_refl _ | exact .inl shA | exact .inr ⟨rfl, rfl, rfl, rfl, rfl⟩ | exact .inl shB | exact fun h => h | refine ⟨?_, ?_, ?_, .inl ?_⟩ | refine ⟨?_, ?_⟩ | refine fun ii hii => ?_ | omega | fail)
        · (repeat' first | exact trivial | exact rfl | exact sh0 rfl | exact Nat.le_refl _ | exact .inl shA | exact .inr ⟨rfl, rfl, rfl, rfl, rfl⟩ | exact .inl shB | exact fun h => h | refine ⟨?_, ?_, ?_, .inl ?_⟩ | refine ⟨?_, ?_⟩ | refine fun ii hii => ?_ | omega | fail)
      rw [if_neg (by rw [c6]; decide)]
      rewrite [c6]
      have hyl := wrD_len x (n : Int) (toS (hdS 0)) 64
      have hyb := by_wrD hb (n : Int) (b := toS (hdS 0)) (m := 64) (fun i hi => by_toS (hdS_lt 0) i 64 hi)
      have hyi := Inv_wrD hi (n : Int) (toS (hdS 0)) 64 (by omega)
      obtain ⟨y, hy⟩ : ∃ y, y = wrD x (n : Int) (toS (hdS 0)) 64 := ⟨_, rfl⟩
      rw [← hy] at hyl hyb hyi ⊢
      unfold op2
      conv => whnf
      refine LCalls.use (flush' τ y hyi.toWf) [0] rfl rfl ⟨rfl, trivial⟩ ?_
      rintro _ _ ⟨rfl, rfl⟩
      conv => whnf
      by_cases c7 : flE y = 0
      case neg =>
        rewrite [show (flE y != 0) = true from bne_iff_ne.2 c7]
        rw [if_pos c7, openV_no c7, openH_no c7]
        conv => whnf
        refine ⟨[0], _, _, rfl, rfl, ?_, ?_, rfl, rfl⟩
        · (repeat' first | exact trivial | exact rfl | exact sh0 rfl | exact Nat.le_refl _ | exact .inl shA | exact .inr ⟨rfl, rfl, rfl, rfl, rfl⟩ | exact .inl shB | exact fun h => h | refine ⟨?_, ?_, ?_, .inl ?_⟩ | refine ⟨?_, ?_⟩ | refine fun ii hii => ?_ | omega | fail)
        · (repeat' first | exact trivial | exact rfl | exact sh0 rfl | exact Nat.le_refl _ | exact .inl shA | exact .inr ⟨rfl, rfl, rfl, rfl, rfl⟩ | exact .inl shB | exact fun h => h | refine ⟨?_, ?_, ?_, .inl ?_⟩ | refine ⟨?_, ?_⟩ | refine fun ii hii => ?_ | omega | fail)
      rw [if_neg (by rw [c7]; decide), openV_ok, openH_ok]
      rewrite [c7]
      obtain ⟨_, z1, z2, _⟩ := flD_ok c7
      have hzb := by_flD hyb
      obtain ⟨z, hz⟩ : ∃ z, z = flD y := ⟨_, rfl⟩
      rw [← hz] at z1 z2 hzb ⊢
      conv => whnf
      refine LCalls.use (read τ z ⟨n, m, ep, 0 + 1, 1⟩ ⟨by dsimp only; omega, by dsimp only; omega, hep, by dsimp only; omega⟩ rfl (regF z n) (At_reg hzb (by rw [z2]; dsimp only; omega)) z1 0 (by decide)) [0, 1] rfl rfl ⟨rfl, rfl, trivial⟩ ?_
      rintro _ _ ⟨rfl, rfl⟩
      conv => whnf
      refine ⟨[0, 1], _, _, rfl, rfl, ?_, ?_, rfl, rfl⟩
      · (repeat' first | exact trivial | exact rfl | exact sh0 rfl | exact Nat.le_refl _ | exact .inl shA | exact .inr ⟨rfl, rfl, rfl, rfl, rfl⟩ | exact .inl shB | exact fun h => h | refine ⟨?_, ?_, ?_, .inl ?_⟩ | refine ⟨?_, ?_⟩ | refine fun ii hii => ?_ | omega | fail)
      · (repeat' first | exact trivial | exact rfl | exact sh0 rfl | exact Nat.le_refl _ | exact .inl shA | exact .inr ⟨rfl, rfl, rfl, rfl, rfl⟩ | exact .inl shB | exact fun h => h | refine ⟨?_, ?_, ?_, .inl ?_⟩ | refine ⟨?_, ?_⟩ | refine fun ii hii => ?_ | omega | fail)
    rewrite [show ((fl : Int) == 4) = true from beq_iff_eq.2 (by omega)]
    conv => whnf
    by_cases c9 : pl = 0
    case neg =>
      have hH : headOf f = 0 := by rw [hhd]; simp [c9]
      rewrite [show ((pl : Int) == 0) = false from beq_eq_false_iff_ne.2 (by omega)]
      rw [hH]
      unfold op1h
      rw [if_neg (show ¬ ((0 : Nat) = 4294967295) by decide)]
      conv => whnf
      rewrite [show IntKind.u32.wrap (0 + 1) = ((0 + 1 : Nat) : Int) from rfl]
      refine LCalls.pre [0, 1, 2] (.cons (sctA 0 (0 + 1) 0 4 0 []) .nil) [diskR τ x, lgO τ ⟨n, m, ep, 0 + 1, 1⟩, none] rfl rfl ?_ ?_ ?_
      · exact ⟨⟨⟨rfl, rfl⟩, ⟨rfl, rfl⟩, ⟨rfl, rfl⟩, ⟨rfl, rfl⟩, ⟨rfl, rfl⟩, .inl ⟨rfl, rfl⟩, trivial⟩, trivial⟩
      · (repeat' first | exact trivial | exact rfl | exact sh0 rfl | exact Nat.le_refl _ | exact .inl shA | exact .inr ⟨rfl, rfl, rfl, rfl, rfl⟩ | exact .inl shB | exact fun h => h | refine ⟨?_, ?_, ?_, .inl ?_⟩ | refine ⟨?_, ?_⟩ | refine fun ii hii => ?_ | omega | fail)
      refine LCalls.use (encode 0 (0 + 1) 0 4 0 [] (by decide) (by decide) (by decide) (by decide) (by decide) (by decide)) [] rfl rfl trivial ?_
      rintro _ _ ⟨rfl, rfl⟩
      conv => whnf
      refine LCalls.use (writeR' τ x (n : Int) (toS (hdS 0)) 64 (by omega)) [0] rfl rfl ⟨rfl, trivial⟩ ?_
      rintro _ _ ⟨rfl, rfl⟩
      conv => whnf
      by_cases c6 : wrE x (n : Int) 64 = 0
      case neg =>
        rewrite [show (wrE x (n : Int) 64 != 0) = true from bne_iff_ne.2 c6]
        rw [if_pos c6, openV_no c6, openH_no c6]
        conv => whnf
        refine ⟨[0], _, _, rfl, rfl, ?_, ?_, rfl, rfl⟩
        · (repeat' first | exact trivial | exact rfl | exact sh0 rfl | exact Nat.le_refl _ | exact .inl shA | exact .inr ⟨rfl, rfl, rfl, rfl, rfl⟩ | exact .inl shB | exact fun h => h | refine ⟨?_, ?_, ?_, .inl ?_⟩ | refine ⟨?_, ?_⟩ | refine fun ii hii => ?_ | omega | fail)
        · (repeat' first | exact trivial | exact rfl | exact sh0 rfl | exact Nat.le_refl _ | exact .inl shA | exact .inr ⟨rfl, rfl, rfl, rfl, rfl⟩ | exact .inl shB | exact fun h => h | refine ⟨?_, ?_, ?_, .inl ?_⟩ | refine ⟨?_, ?_⟩ | refine fun ii hii => ?_ | omega | fail)
      rw [if_neg (by rw [c6]; decide)]
      rewrite [c6]
      have hyl := wrD_len x (n : Int) (toS (hdS 0)) 64
      have hyb := by_wrD hb (n : Int) (b := toS (hdS 0)) (m := 64) (fun i hi => by_toS (hdS_lt 0) i 64 hi)
      have hyi := Inv_wrD hi (n : Int) (toS (hdS 0)) 64 (by omega)
      obtain ⟨y, hy⟩ : ∃ y, y = wrD x (n : Int) (toS (hdS 0)) 64 := ⟨_, rfl⟩
      rw [← hy] at hyl hyb hyi ⊢
      unfold op2
      conv => whnf
      refine LCalls.use (flush' τ y hyi.toWf) [0] rfl rfl ⟨rfl, trivial⟩ ?_
      rintro _ _ ⟨rfl, rfl⟩
      conv => whnf
      by_cases c7 : flE y = 0
      case neg =>
        rewrite [show (flE y != 0) = true from bne_iff_ne.2 c7]
        rw [if_pos c7, openV_no c7, openH_no c7]
        conv => whnf
        refine ⟨[0], _, _, rfl, rfl, ?_, ?_, rfl, rfl⟩
        · (repeat' first | exact trivial | exact rfl | exact sh0 rfl | exact Nat.le_refl _ | exact .inl shA | exact .inr ⟨rfl, rfl, rfl, rfl, rfl⟩ | exact .inl shB | exact fun h => h | refine ⟨?_, ?_, ?_, .inl ?_⟩ | refine ⟨?_, ?_⟩ | refine fun ii hii => ?_ | omega | fail)
        · (repeat' first | exact trivial | exact rfl | exact sh0 rfl | exact Nat.le_refl _ | exact .inl shA | exact .inr ⟨rfl, rfl, rfl, rfl, rfl⟩ | exact .inl shB | exact fun h => h | refine ⟨?_, ?_, ?_, .inl ?_⟩ | refine ⟨?_, ?_⟩ | refine fun ii hii => ?_ | omega | fail)
      rw [if_neg (by rw [c7]; decide), openV_ok, openH_ok]
      rewrite [c7]
      obtain ⟨_, z1, z2, _⟩ := flD_ok c7
      have hzb := by_flD hyb
      obtain ⟨z, hz⟩ : ∃ z, z = flD y := ⟨_, rfl⟩
      rw [← hz] at z1 z2 hzb ⊢
      conv => whnf
      refine LCalls.use (read τ z ⟨n, m, ep, 0 + 1, 1⟩ ⟨by dsimp only; omega, by dsimp only; omega, hep, by dsimp only; omega⟩ rfl (regF z n) (At_reg hzb (by rw [z2]; dsimp only; omega)) z1 0 (by decide)) [0, 1] rfl rfl ⟨rfl, rfl, trivial⟩ ?_
      rintro _ _ ⟨rfl, rfl⟩
      conv => whnf
      refine ⟨[0, 1], _, _, rfl, rfl, ?_, ?_, rfl, rfl⟩
      · (repeat' first | exact trivial | exact rfl | exact sh0 rfl | exact Nat.le_refl _ | exact .inl shA | exact .inr ⟨rfl, rfl, rfl, rfl, rfl⟩ | exact .inl shB | exact fun h => h | refine ⟨?_, ?_, ?_, .inl ?_⟩ | refine ⟨?_, ?_⟩ | refine fun ii hii => ?_ | omega | fail)
      · (repeat' first | exact trivial | exact rfl | exact sh0 rfl | exact Nat.le_refl _ | exact .inl shA | exact .inr ⟨rfl, rfl, rfl, rfl, rfl⟩ | exact .inl shB | exact fun h => h | refine ⟨?_, ?_, ?_, .inl ?_⟩ | refine ⟨?_, ?_⟩ | refine fun ii hii => ?_ | omega | fail)
    have hH : headOf f = li := by rw [hhd]; simp [c8, c9]
    rewrite [show ((pl : Int) == 0) = true from beq_iff_eq.2 (by omega)]
    conv => whnf
    rw [hH]
    unfold op1h
    by_cases c5 : li = 4294967295
    case pos =>
      rewrite [show ((li : Int) == 4294967295) = true from beq_iff_eq.2 (by omega)]
      rw [if_pos c5, openV_no (by decide), openH_no (by decide)]
      conv => whnf
      refine ⟨[0], _, _, rfl, rfl, ?_, ?_, rfl, rfl⟩
      · (repeat' first | exact trivial | exact rfl | exact sh0 rfl | exact Nat.le_refl _ | exact .inl shA | exact .inr ⟨rfl, rfl, rfl, rfl, rfl⟩ | exact .inl shB | exact fun h => h | refine ⟨?_, ?_, ?_, .inl ?_⟩ | refine ⟨?_, ?_⟩ | refine fun ii hii => ?_ | omega | fail)
      · (repeat' first | exact trivial | exact rfl | exact sh0 rfl | exact Nat.le_refl _ | exact .inl shA | exact .inr ⟨rfl, rfl, rfl, rfl, rfl⟩ | exact .inl shB | exact fun h => h | refine ⟨?_, ?_, ?_, .inl ?_⟩ | refine ⟨?_, ?_⟩ | refine fun ii hii => ?_ | omega | fail)
    rewrite [show ((li : Int) == 4294967295) = false from beq_eq_false_iff_ne.2 (by omega)]
    rw [if_neg c5]
    conv => whnf
    rewrite [show IntKind.u32.wrap ((li : Int) + 1) = ((li + 1 : Nat) : Int) from w32 (n := li + 1) (by omega)]
    refine LCalls.pre [0, 1, 2] (.cons (sctA 0 (li + 1) 0 4 0 []) .nil) [diskR τ x, lgO τ ⟨n, m, ep, li + 1, 1⟩, none] rfl rfl ?_ ?_ ?_
    · exact ⟨⟨⟨rfl, rfl⟩, ⟨rfl, rfl⟩, ⟨rfl, rfl⟩, ⟨rfl, rfl⟩, ⟨rfl, rfl⟩, .inl ⟨rfl, rfl⟩, trivial⟩, trivial⟩
    · (repeat' first | exact trivial | exact rfl | exact sh0 rfl | exact Nat.le_refl _ | exact .inl shA | exact .inr ⟨rfl, rfl, rfl, rfl, rfl⟩ | exact .inl shB | exact fun h => h | refine ⟨?_, ?_, ?_, .inl ?_⟩ | refine ⟨?_, ?_⟩ | refine fun ii hii => ?_ | omega | fail)
    refine LCalls.use (encode 0 (li + 1) 0 4 0 [] (by decide) (by omega) (by decide) (by decide) (by decide) (by decide)) [] rfl rfl trivial ?_
    rintro _ _ ⟨rfl, rfl⟩
    conv => whnf
    refine LCalls.use (writeR' τ x (n : Int) (toS (hdS li)) 64 (by omega)) [0] rfl rfl ⟨rfl, trivial⟩ ?_
    rintro _ _ ⟨rfl, rfl⟩
    conv => whnf
    by_cases c6 : wrE x (n : Int) 64 = 0
    case neg =>
      rewrite [show (wrE x (n : Int) 64 != 0) = true from bne_iff_ne.2 c6]
      rw [if_pos c6, openV_no c6, openH_no c6]
      conv => whnf
      refine ⟨[0], _, _, rfl, rfl, ?_, ?_, rfl, rfl⟩
      · (repeat' first | exact trivial | exact rfl | exact sh0 rfl | exact Nat.le_refl _ | exact .inl shA | exact .inr ⟨rfl, rfl, rfl, rfl, rfl⟩ | exact .inl shB | exact fun h => h | refine ⟨?_, ?_, ?_, .inl ?_⟩ | refine ⟨?_, ?_⟩ | refine fun ii hii => ?_ | omega | fail)
      · (repeat' first | exact trivial | exact rfl | exact sh0 rfl | exact Nat.le_refl _ | exact .inl shA | exact .inr ⟨rfl, rfl, rfl, rfl, rfl⟩ | exact .inl shB | exact fun h => h | refine ⟨?_, ?_, ?_, .inl ?_⟩ | refine ⟨?_, ?_⟩ | refine fun ii hii => ?_ | omega | fail)
    rw [if_neg (by rw [c6]; decide)]
    rewrite [c6]
    have hyl := wrD_len x (n : Int) (toS (hdS li)) 64
    have hyb := by_wrD hb (n : Int) (b := toS (hdS li)) (m := 64) (fun i hi => by_toS (hdS_lt li) i 64 hi)
    have hyi := Inv_wrD hi (n : Int) (toS (hdS li)) 64 (by omega)
    obtain ⟨y, hy⟩ : ∃ y, y = wrD x (n : Int) (toS (hdS li)) 64 := ⟨_, rfl⟩
    rw [← hy] at hyl hyb hyi ⊢
    unfold op2
    conv => whnf
    refine LCalls.use (flush' τ y hyi.toWf) [0] rfl rfl ⟨rfl, trivial⟩ ?_
    rintro _ _ ⟨rfl, rfl⟩
    conv => whnf
    by_cases c7 : flE y = 0
    case neg =>
      rewrite [show (flE y != 0) = true from bne_iff_ne.2 c7]
      rw [if_pos c7, openV_no c7, openH_no c7]
      conv => whnf
      refine ⟨[0], _, _, rfl, rfl, ?_, ?_, rfl, rfl⟩
      · (repeat' first | exact trivial | exact rfl | exact sh0 rfl | exact Nat.le_refl _ | exact .inl shA | exact .inr ⟨rfl, rfl, rfl, rfl, rfl⟩ | exact .inl shB | exact fun h => h | refine ⟨?_, ?_, ?_, .inl ?_⟩ | refine ⟨?_, ?_⟩ | refine fun ii hii => ?_ | omega | fail)
      · (repeat' first | exact trivial | exact rfl | exact sh0 rfl | exact Nat.le_refl _ | exact .inl shA | exact .inr ⟨rfl, rfl, rfl, rfl, rfl⟩ | exact .inl shB | exact fun h => h | refine ⟨?_, ?_, ?_, .inl ?_⟩ | refine ⟨?_, ?_⟩ | refine fun ii hii => ?_ | omega | fail)
    rw [if_neg (by rw [c7]; decide), openV_ok, openH_ok]
    rewrite [c7]
    obtain ⟨_, z1, z2, _⟩ := flD_ok c7
    have hzb := by_flD hyb
    obtain ⟨z, hz⟩ : ∃ z, z = flD y := ⟨_, rfl⟩
    rw [← hz] at z1 z2 hzb ⊢
    conv => whnf
    refine LCalls.use (read τ z ⟨n, m, ep, li + 1, 1⟩ ⟨by dsimp only; omega, by dsimp only; omega, hep, by dsimp only; omega⟩ rfl (regF z n) (At_reg hzb (by rw [z2]; dsimp only; omega)) z1 li (by omega)) [0, 1] rfl rfl ⟨rfl, rfl, trivial⟩ ?_
    rintro _ _ ⟨rfl, rfl⟩
    conv => whnf
    refine ⟨[0, 1], _, _, rfl, rfl, ?_, ?_, rfl, rfl⟩
    · (repeat' first | exact trivial | exact rfl | exact sh0 rfl | exact Nat.le_refl _ | exact .inl shA | exact .inr ⟨rfl, rfl, rfl, rfl, rfl⟩ | exact .inl shB | exact fun h => h | refine ⟨?_, ?_, ?_, .inl ?_⟩ | refine ⟨?_, ?_⟩ | refine fun ii hii => ?_ | omega | fail)
    · (repeat' first | exact trivial | exact rfl | exact sh0 rfl | exact Nat.le_refl _ | exact .inl shA | exact .inr ⟨rfl, rfl, rfl, rfl, rfl⟩ | exact .inl shB | exact fun h => h | refine ⟨?_, ?_, ?_, .inl ?_⟩ | refine ⟨?_, ?_⟩ | refine fun ii hii => ?_ | omega | fail)
theorem Sync (τ : Nat) (x : Disk) (hi : Inv x) (L : LgS) : LCalls Try.prog 41 (.cons (.ptr ⟨1, [], 0⟩) .nil) [diskR τ x, lgO τ L] (fun e h' => e = .ret (.int .i64 (flE x)) ∧ h' = [diskR τ (flD x), lgO τ L]) := by
  refine LCalls.tell ?_; refine enter41 rfl ?_; conv => whnf
  refine LCalls.use (flush' τ x hi.toWf) [0] rfl rfl ⟨rfl, trivial⟩ ?_
  rintro _ _ ⟨rfl, rfl⟩
  conv => whnf
  refine ⟨[0, 1], _, _, rfl, rfl, ?_, ?_, rfl, rfl⟩
  · (repeat' first | exact trivial | exact rfl | exact sh0 rfl | exact Nat.le_refl _ | exact .inl shA | exact .inr ⟨rfl, rfl, rfl, rfl, rfl⟩ | exact .inl shB | exact fun h => h | refine ⟨?_, ?_, ?_, .inl ?_⟩ | refine ⟨?_, ?_⟩ | refine fun ii hii => ?_ | omega | fail)
  · (repeat' first | exact trivial | exact rfl | exact sh0 rfl | exact Nat.le_refl _ | exact .inl shA | exact .inr ⟨rfl, rfl, rfl, rfl, rfl⟩ | exact .inl shB | exact fun h => h | refine ⟨?_, ?_, ?_, .inl ?_⟩ | refine ⟨?_, ?_⟩ | refine fun ii hii => ?_ | omega | fail)
end Go.Proofs.Ytilmfhpoiejmfaa.Gk
