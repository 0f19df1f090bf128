/- The log on the heap of the mind: a sector is written down. By this session. -/
import Derived.Test.YtilmfhpoiejmfaaGb
import Derived.Test.YtilmfhpoiejmfaaLr
namespace Go.Proofs.Ytilmfhpoiejmfaa.Gk
open Go.Proofs.Ytilmfhpoiejmfaa.Lh Go.RowKit Go.Proofs.Ytilmfhpoiejmfaa.Lg
set_option maxRecDepth 100000
set_option linter.unusedSimpArgs false
set_option linter.unusedSectionVars false
set_option linter.unusedVariables false
variable [Fz]
def secB (f : F8) : Option LObj := some ⟨.rows 64 1 (bSeg8 f) .nil, 5, false, false⟩
def boxS : Option LObj := some ⟨.one (.slice ⟨1, [], 0⟩ 0 1 64 64 (some 64)) .nil, 29, false, false⟩
def putF (f : F8) (a w c : Nat) : F8 := fun i => if a ≤ i ∧ i < a + c then leB w (i - a) else f i
theorem shr8 {w k : Nat} (hw : w < 4294967296) (hk : k < 4) : IntKind.u8.wrap (((w : Int)).fdiv (2 ^ min (8 * (k : Int)).toNat IntKind.u32.bits)) = ((leB w k : Nat) : Int) := by
  have e : min (8 * (k : Int)).toNat IntKind.u32.bits = 8 * k := by
    rw [show (8 * (k : Int)).toNat = 8 * k by omega]
    exact Nat.min_eq_left (by show 8 * k ≤ 32; omega)
  have e2 : ((2 : Int) ^ (8 * k)) = ((256 ^ k : Nat) : Int) := by rw [Int.pow_mul]; norm_cast
  rw [e, e2, Int.fdiv_eq_ediv_of_nonneg _ (Int.natCast_nonneg _), ← Int.natCast_ediv, w8]
  rfl
theorem put (f : F8) (a w c : Nat) (hw : w < 4294967296) (hc : c ≤ 4) (ha : a + c ≤ 64) : LCalls Try.prog 102 (.cons (.int .i64 (a : Int)) (.cons (wN w) (.cons (.int .i64 (c : Int)) (.cons (.ptr ⟨0, [], 0⟩) .nil)))) [boxS, secB f] (fun e h' => e = .ret .undef ∧ h' = [boxS, secB (putF f a w c)]) := by
  unfold wN
  refine LCalls.tell ?_; refine enter102 rfl ?_; conv => whnf
  refine Loop.inv (lwp_mono _) (fun n t1 h => ∃ (k : Nat), k ≤ c ∧ n = c - k ∧ t1 = [.int .i64 (a : Int), wN w, .any, .ptr ⟨0, [], 0⟩, .any, .any, .any, .any, .int .i64 (c : Int), .int .i64 (k : Int), .any, .any, .any, .any, .any, .any, .any, .any, .any, .any, .any, .any, .any] ∧ h = [boxS, secB (putF f a w k)]) ?_ ?_
  · refine ⟨_, _, _, ⟨[], trivial, [0, 1], rfl, rfl, ?_, ?_⟩, 0, Nat.zero_le _, rfl, rfl, rfl⟩
    · (repeat' first | exact trivial | exact rfl | exact sh0 rfl | exact Nat.le_refl _ | exact .inl shA | exact .inr ⟨rfl, rfl, rfl, rfl, rfl⟩ | exact .inl shB | exact fun h => h | refine ⟨?_, ?_, ?_, .inl ?_⟩ | refine ⟨?_, ?_⟩ | refine fun ii hii => ?_ | omega | fail)
    · (repeat' first | exact trivial | exact rfl | exact sh0 rfl | exact Nat.le_refl _ | exact .inl shA | exact .inr ⟨rfl, rfl, rfl, rfl, rfl⟩ | exact .inl shB | exact fun h => h | refine ⟨?_, ?_, ?_, .inl ?_⟩ | refine ⟨?_, ?_⟩ | refine fun ii hii => ?_ | omega | fail)
      exact (by unfold putF; rw [if_neg (by omega)])
  · rintro n _ _ ⟨k, hk, rfl, rfl, rfl⟩
    conv => whnf
    by_cases hkc : k < c
    · rewrite [show decide ((k : Int) < (c : Int)) = true from decide_eq_true (by omega)]
      conv => whnf
      rewrite [w64 (n := (a : Int) + (k : Int)) (by omega), show (a : Int) + (k : Int) = ((a + k : Nat) : Int) by omega, w64 (n := 8 * (k : Int)) (by omega)]
      refine ⟨by omega, ?_⟩
      conv => whnf
      rewrite [shr8 hw (by omega)]
      refine ⟨⟨by omega, by omega⟩, ?_⟩
      rewrite [Int.toNat_natCast, Nat.zero_add]
      conv => whnf
      refine ⟨by omega, ?_⟩
      conv => whnf
      refine ⟨_, _, _, ?_, ⟨[], trivial, [0, 1], rfl, rfl, ?_, ?_⟩, k + 1, by omega, rfl, rfl, rfl⟩
      · omega
      · (repeat' first | exact trivial | exact rfl | exact sh0 rfl | exact Nat.le_refl _ | exact .inl shA | exact .inr ⟨rfl, rfl, rfl, rfl, rfl⟩ | exact .inl shB | exact fun h => h | refine ⟨?_, ?_, ?_, .inl ?_⟩ | refine ⟨?_, ?_⟩ | refine fun ii hii => ?_ | omega | fail)
        all_goals exact w64 (by omega)
      · (repeat' first | exact trivial | exact rfl | exact sh0 rfl | exact Nat.le_refl _ | exact .inl shA | exact .inr ⟨rfl, rfl, rfl, rfl, rfl⟩ | exact .inl shB | exact fun h => h | refine ⟨?_, ?_, ?_, .inl ?_⟩ | refine ⟨?_, ?_⟩ | refine fun ii hii => ?_ | omega | fail)
        refine sh_ite (fun c => ⟨⟨rfl, ?_⟩, trivial⟩) (fun c => ⟨⟨rfl, ?_⟩, trivial⟩)
        · unfold putF
          rw [if_pos (by omega), c, Nat.add_sub_cancel_left]
        · unfold putF
          by_cases c2 : a ≤ ii ∧ ii < a + k
          · rw [if_pos c2, if_pos (by omega)]
          · rw [if_neg c2, if_neg (by omega)]
    · rewrite [show decide ((k : Int) < (c : Int)) = false from decide_eq_false (by omega)]
      obtain rfl : k = c := by omega
      conv => whnf
      refine ⟨[0, 1], _, _, rfl, rfl, ?_, ?_, rfl, rfl⟩
      · (repeat' first | exact trivial | exact rfl | exact sh0 rfl | exact Nat.le_refl _ | exact .inl shA | exact .inr ⟨rfl, rfl, rfl, rfl, rfl⟩ | exact .inl shB | exact fun h => h | refine ⟨?_, ?_, ?_, .inl ?_⟩ | refine ⟨?_, ?_⟩ | refine fun ii hii => ?_ | omega | fail)
      · (repeat' first | exact trivial | exact rfl | exact sh0 rfl | exact Nat.le_refl _ | exact .inl shA | exact .inr ⟨rfl, rfl, rfl, rfl, rfl⟩ | exact .inl shB | exact fun h => h | refine ⟨?_, ?_, ?_, .inl ?_⟩ | refine ⟨?_, ?_⟩ | refine fun ii hii => ?_ | omega | fail)
theorem body_hi {ep li pl fl ln : Nat} {l : Bs} {i : Nat} (h : 16 ≤ i) (h64 : i < 64) : body ep li pl fl ln l i = fB l (i - 16) := by
  unfold body
  rw [if_neg (by omega), if_neg (by omega), if_neg (by omega), if_neg (by omega), if_neg (by omega), if_neg (by omega), if_pos h64]
theorem body_lo {ep li pl fl ln : Nat} {l : Bs} {i : Nat} (h : ¬ (16 ≤ i ∧ i < 16 + l.length ∧ i < 64)) (h15 : i ≠ 15) (h14 : i ≠ 14) (h64 : i < 64) : putF (putF (putF (fun _ => 0) 4 ep 4) 8 li 4) 12 pl 2 i = body ep li pl fl ln l i := by
  by_cases c : 16 ≤ i
  · rw [body_hi c h64]
    unfold putF fB
    rw [if_neg (by omega), if_neg (by omega), if_neg (by omega), List.getD_eq_getElem?_getD, List.getElem?_eq_none (by omega)]
    rfl
  · unfold putF body
    rcases (show i < 4 ∨ (4 ≤ i ∧ i < 8) ∨ (8 ≤ i ∧ i < 12) ∨ (12 ≤ i ∧ i < 14) by omega) with d | d | d | d
    · rw [if_neg (by omega), if_neg (by omega), if_neg (by omega), if_pos d]
    · rw [if_neg (by omega), if_neg (by omega), if_pos (by omega), if_neg (by omega), if_pos (by omega)]
    · rw [if_neg (by omega), if_pos (by omega), if_neg (by omega), if_neg (by omega), if_pos (by omega)]
    · rw [if_pos (by omega), if_neg (by omega), if_neg (by omega), if_neg (by omega), if_pos (by omega)]
theorem sumOwn (f : F8) (hf : ∀ i, f i < 256) : LCalls Try.prog 101 (.cons (.slice ⟨0, [], 0⟩ 4 1 60 60 (some 60)) .nil) [secB f] (fun e h' => e = .ret (wN (sumN 60 fun k => f (4 + k))) ∧ h' = [secB f]) := by
  have h1 : frzOK [secB f] [] [(0, 64, 1, bSeg8 f)] := ⟨⟨rfl, Nat.le_refl _, rfl, fun i hi => ⟨⟨rfl, rfl⟩, trivial⟩⟩, rfl, trivial⟩
  have h2 : shVs 0 (frzAll [] [(0, 64, 1, bSeg8 f)]) (.cons (.slice ⟨0, [], 0⟩ 4 1 60 60 (some 60)) .nil) (.cons (bV 60 fun k => f (4 + k)) .nil) := ⟨.inr ⟨rfl, rfl, rfl, rfl, rfl, (show 4 + 60 ≤ 64 by decide), fun i hi => by show bSeg8 f (offs 4 i) = bSeg8 f (4 + i); rw [show offs 4 i = 4 + i from rfl]⟩, trivial⟩
  have h3 : LCalls Try.prog 101 (.cons (bV 60 fun k => f (4 + k)) .nil) [] (fun e _ => ∃ v, e = .ret v ∧ closedV v = true ∧ v = wN (sumN 60 fun k => f (4 + k))) := (sumSum 60 _ (fun i => hf _) (by omega)).mono fun _ _ h => ⟨_, h.1, rfl, rfl⟩
  refine (LCalls.lend _ h1 h2 h3).mono ?_
  rintro _ _ ⟨_, rfl, rfl, rfl⟩
  exact ⟨rfl, rfl⟩
def sctA (ep li pl fl ln : Nat) (l : Bs) : LVal := .agg (.one (wN ep) (.one (wN li) (.one (.int .i64 (pl : Int)) (.one (bN fl) (.one (.int .i64 (ln : Int)) (.one (bV l.length (fB l)) .nil))))))
theorem encode (ep li pl fl ln : Nat) (l : Bs) (h1 : ep < 4294967296) (h2 : li < 4294967296) (h3 : pl < 65536) (h4 : fl < 256) (h5 : ln < 256) (hl : l.length ≤ 48) : LCalls Try.prog 75 (.cons (sctA ep li pl fl ln l) .nil) [] (fun e h' => e = .ret (bV 64 (enc ep li pl fl ln l)) ∧ h' = []) := by
  refine LCalls.tellF ?_
  refine enter75 rfl ?_
  (conv => whnf); (repeat (refine And.intro (by first | omega | (dsimp only; omega)) ?_; conv => whnf))
  refine LCalls.use (put (fun _ => 0) 4 ep 4 h1 (by omega) (by omega)) [2, 1] rfl rfl ⟨rfl, rfl, trivial⟩ ?_
  rintro _ _ ⟨rfl, rfl⟩
  generalize hA : putF (fun _ => 0) 4 ep 4 = A
  conv => whnf
  refine LCalls.use (put A 8 li 4 h2 (by omega) (by omega)) [2, 1] rfl rfl ⟨rfl, rfl, trivial⟩ ?_
  rintro _ _ ⟨rfl, rfl⟩
  generalize hB : putF A 8 li 4 = B
  conv => whnf
  rewrite [w32 (n := pl) (by omega)]
  refine LCalls.use (put B 12 pl 2 (by omega) (by omega) (by omega)) [2, 1] rfl rfl ⟨rfl, rfl, trivial⟩ ?_
  rintro _ _ ⟨rfl, rfl⟩
  generalize hC : putF B 12 pl 2 = C
  (conv => whnf); (repeat (refine And.intro (by first | omega | (dsimp only; omega)) ?_; conv => whnf))
  rewrite [w8 (n := ln), Nat.mod_eq_of_lt h5]
  (repeat (refine And.intro (by first | omega | (dsimp only; omega)) ?_; conv => whnf))
  refine LCalls.pre [0, 1, 2] (.cons (.slice ⟨1, [], 0⟩ 4 1 60 60 (some 60)) .nil) [none, secB (body ep li pl fl ln l), some ⟨.one (.slice ⟨1, [], 0⟩ 0 1 64 64 (some 64)) .nil, 29, false, false⟩] rfl rfl ?_ ?_ ?_
  · (repeat' first | exact trivial | exact rfl | exact sh0 rfl | exact Nat.le_refl _ | exact .inl shA | exact .inr ⟨rfl, rfl, rfl, rfl, rfl⟩ | exact .inl shB | exact fun h => h | refine ⟨?_, ?_, ?_, .inl ?_⟩ | refine ⟨?_, ?_⟩ | refine fun ii hii => ?_ | omega | fail)
  · (repeat' first | exact trivial | exact rfl | exact sh0 rfl | exact Nat.le_refl _ | exact .inl shA | exact .inr ⟨rfl, rfl, rfl, rfl, rfl⟩ | exact .inl shB | exact fun h => h | refine ⟨?_, ?_, ?_, .inl ?_⟩ | refine ⟨?_, ?_⟩ | refine fun ii hii => ?_ | omega | fail)
    have h64 : ii < 64 := hii
    refine sh_ite (fun c => ⟨⟨rfl, ?_⟩, trivial⟩) (fun c => sh_ite (fun c2 => ⟨⟨rfl, ?_⟩, trivial⟩) (fun c2 => sh_ite (fun c3 => ⟨⟨rfl, ?_⟩, trivial⟩) (fun c3 => ⟨⟨rfl, ?_⟩, trivial⟩)))
    · show ((fB l (ii - (0 + 16)) : Nat) : Int) = ((body ep li pl fl ln l ii : Nat) : Int)
      have c : 0 + 16 ≤ ii ∧ ii < 0 + 16 + min l.length (64 - 16) := c
      rw [body_hi (by omega) h64, Nat.zero_add]
    · have c2 : ii = 0 + 15 := c2
      rw [c2]; rfl
    · have c3 : ii = 0 + 14 := c3
      rw [c3]; rfl
    · show ((C ii : Nat) : Int) = ((body ep li pl fl ln l ii : Nat) : Int)
      have c : ¬ (0 + 16 ≤ ii ∧ ii < 0 + 16 + min l.length (64 - 16)) := c
      have c2 : ¬ ii = 0 + 15 := c2
      have c3 : ¬ ii = 0 + 14 := c3
      rw [← hC, ← hB, ← hA, body_lo (fl := fl) (ln := ln) (l := l) (by omega) (by omega) (by omega) h64]
  refine LCalls.use (sumOwn (body ep li pl fl ln l) (fun i => body_lt h4 h5 i)) [1] rfl rfl ⟨rfl, trivial⟩ ?_
  rintro _ _ ⟨rfl, rfl⟩
  have hs : sumN 60 (fun k => body ep li pl fl ln l (4 + k)) < 4294967296 := sumN_lt fun i => body_lt h4 h5 _
  have henc : putF (body ep li pl fl ln l) 0 (sumN 60 fun k => body ep li pl fl ln l (4 + k)) 4 = enc ep li pl fl ln l := funext fun i => by
    unfold putF enc
    by_cases c : i < 4
    · rw [if_pos (by omega), if_pos c, Nat.sub_zero]
    · rw [if_neg (by omega), if_neg c]
  generalize sumN 60 (fun k => body ep li pl fl ln l (4 + k)) = S at hs henc
  conv => whnf
  refine LCalls.use (put (body ep li pl fl ln l) 0 S 4 hs (by omega) (by omega)) [2, 1] rfl rfl ⟨rfl, rfl, trivial⟩ ?_
  rintro _ _ ⟨rfl, rfl⟩
  rw [henc]
  conv => whnf
  refine ⟨[(1, 64, 1, bSeg8 (enc ep li pl fl ln l))], ⟨⟨rfl, Nat.le_refl _, rfl, fun i hi => ⟨⟨rfl, rfl⟩, trivial⟩⟩, rfl, trivial⟩, [], _, _, rfl, rfl, ?_, ?_, rfl, rfl⟩
  · (repeat' first | exact trivial | exact rfl | exact sh0 rfl | exact Nat.le_refl _ | exact .inl shA | exact .inr ⟨rfl, rfl, rfl, rfl, rfl⟩ | exact .inl shB | exact fun h => h | refine ⟨?_, ?_, ?_, .inl ?_⟩ | refine ⟨?_, ?_⟩ | refine fun ii hii => ?_ | omega | fail)
    exact .inr ⟨rfl, rfl, rfl, rfl, rfl, Nat.le_refl _, fun i hi => by show bSeg8 (enc ep li pl fl ln l) (offs 0 i) = bSeg8 (enc ep li pl fl ln l) i; rfl⟩
  · (repeat' first | exact trivial | exact rfl | exact sh0 rfl | exact Nat.le_refl _ | exact .inl shA | exact .inr ⟨rfl, rfl, rfl, rfl, rfl⟩ | exact .inl shB | exact fun h => h | refine ⟨?_, ?_, ?_, .inl ?_⟩ | refine ⟨?_, ?_⟩ | refine fun ii hii => ?_ | omega | fail)
end Go.Proofs.Ytilmfhpoiejmfaa.Gk
