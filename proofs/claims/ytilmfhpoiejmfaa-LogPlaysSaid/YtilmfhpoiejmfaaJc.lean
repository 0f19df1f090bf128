/- The document's sector of a log, made. By this session. -/
import Derived.Test.YtilmfhpoiejmfaaJb
namespace Go.Proofs.Ytilmfhpoiejmfaa.Gk
open Go.Proofs.Ytilmfhpoiejmfaa.Lh Go.RowKit Go.Proofs.Ytilmfhpoiejmfaa.Lg
set_option maxRecDepth 100000
set_option linter.unusedSimpArgs false
set_option linter.unusedSectionVars false
set_option linter.unusedVariables false
variable [Fz]
theorem rSumOwn (m : Nat) (f : F8) (hf : ∀ i, f i < 256) (hm : m ≤ 1000000) : LCalls Try.prog 106 (.cons (.slice ⟨0, [], 0⟩ 0 1 m m none) .nil) [byO m f] (fun e h' => e = .ret (wN (sumN m f)) ∧ h' = [byO m f]) := by
  have h1 : frzOK [byO m f] [] [(0, m, 1, bSeg8 f)] := ⟨⟨rfl, Nat.le_refl _, rfl, fun i hi => ⟨⟨rfl, rfl⟩, trivial⟩⟩, rfl, trivial⟩
  have h2 : shVs 0 (frzAll [] [(0, m, 1, bSeg8 f)]) (.cons (.slice ⟨0, [], 0⟩ 0 1 m m none) .nil) (.cons (bV m f) .nil) := ⟨.inr ⟨rfl, rfl, rfl, rfl, rfl, by simp, fun i hi => by show bSeg8 f (offs 0 i) = bSeg8 f i; rfl⟩, trivial⟩
  have h3 : LCalls Try.prog 106 (.cons (bV m f) .nil) [] (fun e _ => ∃ v, e = .ret v ∧ closedV v = true ∧ v = wN (sumN m f)) := (rSum m f hf hm).mono fun _ _ h => ⟨_, h.1, rfl, rfl⟩
  refine (LCalls.lend _ h1 h2 h3).mono ?_
  rintro _ _ ⟨_, rfl, rfl, rfl⟩
  exact ⟨rfl, rfl⟩
theorem snoc_zero (g : F8) (m : Nat) (h : g m = 0) (i : Nat) (hi : i < m + 1) : shS 1000000 (frzAll [] []) (if i < m then bSeg8 g (0 + i) else if 0 + (i - m) = 0 then .one (.int .u8 0) .nil else .one (.int .u8 0) .nil) (bSeg8 g i) := by
  refine sh_ite (fun c => ⟨⟨rfl, ?_⟩, trivial⟩) (fun c => sh_ite (fun c2 => ⟨⟨rfl, ?_⟩, trivial⟩) (fun c2 => ⟨⟨rfl, ?_⟩, trivial⟩))
  · show ((g (0 + i) : Nat) : Int) = ((g i : Nat) : Int)
    rw [Nat.zero_add]
  · show (0 : Int) = ((g i : Nat) : Int)
    rw [show i = m by omega, h]
    rfl
  · omega
theorem enc_row (ep li p q : Nat) (l : Bs) (i : Nat) (hi : i < 64) {k : Nat} {F : Fzl} : shS k F (if i < 4 then bSeg8 (leB (sumN 60 fun k => body ep li p q l.length l (4 + k))) (0 + i) else bSeg8 (fun i => body ep li p q l.length l (4 + i)) (0 + (i - 4))) (bSeg8 (enc ep li p q l.length l) i) := by
  refine sh_ite (fun c => ⟨⟨rfl, ?_⟩, trivial⟩) (fun c => ⟨⟨rfl, ?_⟩, trivial⟩)
  · show ((leB _ (0 + i) : Nat) : Int) = ((enc ep li p q l.length l i : Nat) : Int)
    unfold enc
    rw [if_pos c, Nat.zero_add]
  · show ((body ep li p q l.length l (4 + (0 + (i - 4))) : Nat) : Int) = ((enc ep li p q l.length l i : Nat) : Int)
    unfold enc
    rw [if_neg c, show 4 + (0 + (i - 4)) = i by omega]
set_option maxHeartbeats 1000000 in
theorem Made (ep li : Nat) (pl fl : Int) (l : Bs) (h1 : ep < 4294967296) (h2 : li < 4294967296) (hpl : 0 ≤ pl ∧ pl < 65536) (hl : l.length ≤ 48) : LCalls Try.prog 79 (.cons (wN ep) (.cons (wN li) (.cons (.int .i64 pl) (.cons (.int .i64 fl) (.cons (bV l.length (fB l)) .nil))))) [] (fun e h' => e = .ret (bV 64 (enc ep li pl.toNat (fl % 256).toNat l.length l)) ∧ h' = []) := by
  refine LCalls.tellF ?_
  refine enter79 rfl ?_
  conv => whnf
  refine LCalls.use (puts ep 4 h1 (by omega)) [] rfl rfl trivial ?_
  rintro _ _ ⟨rfl, rfl⟩
  conv => whnf
  refine LCalls.use (puts li 4 h2 (by omega)) [] rfl rfl trivial ?_
  rintro _ _ ⟨rfl, rfl⟩
  conv => whnf
  refine ⟨by first | omega | (dsimp only; omega), ?_⟩
  conv => whnf
  refine ⟨by first | omega | (dsimp only; omega), ?_⟩
  conv => whnf
  obtain ⟨p, rfl⟩ : ∃ p : Nat, pl = p := ⟨pl.toNat, by omega⟩
  rewrite [w32 (n := p) (by omega)]
  refine LCalls.use (puts p 2 (by omega) (by omega)) [] rfl rfl trivial ?_
  rintro _ _ ⟨rfl, rfl⟩
  conv => whnf
  refine ⟨by first | omega | (dsimp only; omega), ?_⟩
  conv => whnf
  refine ⟨by first | omega | (dsimp only; omega), ?_⟩
  conv => whnf
  obtain ⟨q, hq, hq2⟩ : ∃ q : Nat, IntKind.u8.wrap fl = (q : Int) ∧ q = (fl % 256).toNat := ⟨(fl % 256).toNat, by simp [IntKind.wrap, IntKind.bits, IntKind.signed]; omega, rfl⟩
  have hq3 : q < 256 := by omega
  rw [Int.toNat_natCast, ← hq2]
  rewrite [hq]
  refine ⟨by first | omega | (dsimp only; omega), ?_⟩
  conv => whnf
  refine ⟨by first | omega | (dsimp only; omega), ?_⟩
  conv => whnf
  rewrite [w8 (n := l.length), Nat.mod_eq_of_lt (show l.length < 256 by omega)]
  refine ⟨by first | omega | (dsimp only; omega), ?_⟩
  conv => whnf
  refine ⟨by first | omega | (dsimp only; omega), ?_⟩
  conv => whnf
  refine ⟨by first | omega | (dsimp only; omega), ?_⟩
  conv => whnf
  refine Loop.inv (lwp_mono _) (fun n t1 h => ∃ (m : Nat), 12 + l.length ≤ m ∧ m ≤ 60 ∧ n = 60 - m ∧ t1 = [.any, .any, .any, .any, .any, .any, .any, .any, .any, .any, .any, .slice ⟨0, [], 0⟩ 0 1 m m none, .any, .any, .any, .any, .any, .any, .any, .any, .any, .any, .any, .any, .any, .any, .any, .any, .any, .any, .any, .any, .any, .any, .any, .any, .any, .any, .any, .any, .any, .any, .any, .any, .any, .any, .any, .any, .any, .any] ∧ h = [byO m (fun i => body ep li p q l.length l (4 + i))]) ?_ ?_
  · refine ⟨_, _, _, ⟨[], trivial, [9], rfl, rfl, ?_, ?_⟩, 12 + l.length, Nat.le_refl _, by omega, rfl, rfl, rfl⟩
    · (repeat' first | exact trivial | exact rfl | exact sh0 rfl | exact Nat.le_refl _ | exact .inl shA | exact .inr ⟨rfl, rfl, rfl, rfl, rfl⟩ | exact .inl shB | exact fun h => h | refine ⟨?_, ?_, ?_, .inl ?_⟩ | refine ⟨?_, ?_⟩ | refine fun ii hii => ?_ | omega | fail)
    · (repeat' first | exact trivial | exact rfl | exact sh0 rfl | exact Nat.le_refl _ | exact .inl shA | exact .inr ⟨rfl, rfl, rfl, rfl, rfl⟩ | exact .inl shB | exact fun h => h | refine ⟨?_, ?_, ?_, .inl ?_⟩ | refine ⟨?_, ?_⟩ | refine fun ii hii => ?_ | omega | fail)
      all_goals (repeat' (refine sh_ite (fun cc => ?_) (fun cc => ?_)))
      all_goals refine ⟨⟨rfl, ?_⟩, trivial⟩
      all_goals show (_ : Int) = ((body ep li p q l.length l (4 + ii) : Nat) : Int)
      all_goals unfold body
      all_goals (repeat' split)
      all_goals first
        | (exfalso; omega)
        | (congr 2; omega)
        | rfl
  · rintro n _ _ ⟨m, hm1, hm2, rfl, rfl, rfl⟩
    conv => whnf
    by_cases hm : m < 60
    · rewrite [show decide ((m : Int) < 60) = true from decide_eq_true (by omega)]
      conv => whnf
      refine ⟨by first | omega | (dsimp only; omega), ?_⟩
      conv => whnf
      refine ⟨by first | omega | (dsimp only; omega), ?_⟩
      conv => whnf
      have hz : body ep li p q l.length l (4 + m) = 0 := by
        rw [body_hi (by omega) (by omega)]
        unfold fB
        rw [List.getD_eq_getElem?_getD, List.getElem?_eq_none (by omega)]
        rfl
      have snocRow := snoc_zero (fun i => body ep li p q l.length l (4 + i)) m hz
      refine ⟨_, _, _, ?_, ⟨[], trivial, [2], rfl, rfl, ?_, ?_⟩, m + 1, by omega, by omega, rfl, rfl, rfl⟩
      · omega
      · (repeat' first | exact trivial | exact rfl | exact sh0 rfl | exact Nat.le_refl _ | exact .inl shA | exact .inr ⟨rfl, rfl, rfl, rfl, rfl⟩ | exact .inl shB | exact fun h => h | refine ⟨?_, ?_, ?_, .inl ?_⟩ | refine ⟨?_, ?_⟩ | refine fun ii hii => ?_ | omega | fail)
      · (repeat' first | exact trivial | exact rfl | exact sh0 rfl | exact Nat.le_refl _ | exact .inl shA | exact .inr ⟨rfl, rfl, rfl, rfl, rfl⟩ | exact .inl shB | exact fun h => h | refine ⟨?_, ?_, ?_, .inl ?_⟩ | refine ⟨?_, ?_⟩ | refine fun ii hii => ?_ | omega | fail)
        all_goals exact snocRow ii hii
    · rewrite [show decide ((m : Int) < 60) = false from decide_eq_false (by omega)]
      obtain rfl : m = 60 := by omega
      conv => whnf
      refine LCalls.use (rSumOwn 60 (fun i => body ep li p q l.length l (4 + i)) (fun i => body_lt hq3 (by omega) _) (by omega)) [0] rfl rfl ⟨rfl, trivial⟩ ?_
      rintro _ _ ⟨rfl, rfl⟩
      conv => whnf
      have hS : sumN 60 (fun k => body ep li p q l.length l (4 + k)) < 4294967296 := sumN_lt fun i => body_lt hq3 (by omega) _
      have hrow := enc_row ep li p q l
      obtain ⟨S, hSd⟩ : ∃ S, S = sumN 60 (fun k => body ep li p q l.length l (4 + k)) := ⟨_, rfl⟩
      rw [← hSd] at hS hrow ⊢
      refine LCalls.use (puts S 4 hS (by omega)) [] rfl rfl trivial ?_
      rintro _ _ ⟨rfl, rfl⟩
      conv => whnf
      refine ⟨by first | omega | (dsimp only; omega), ?_⟩
      conv => whnf
      refine ⟨by first | omega | (dsimp only; omega), ?_⟩
      conv => whnf
      refine ⟨[(2, 64, 1, bSeg8 (enc ep li p q l.length l))], ⟨⟨rfl, Nat.le_refl _, rfl, fun i hi => hrow i hi⟩, rfl, trivial⟩, [], _, _, rfl, rfl, ?_, ?_, rfl, rfl⟩
      · (repeat' first | exact trivial | exact rfl | exact sh0 rfl | exact Nat.le_refl _ | exact .inl shA | exact .inr ⟨rfl, rfl, rfl, rfl, rfl⟩ | exact .inl shB | exact fun h => h | refine ⟨?_, ?_, ?_, .inl ?_⟩ | refine ⟨?_, ?_⟩ | refine fun ii hii => ?_ | omega | fail)
        all_goals exact .inr ⟨rfl, rfl, rfl, rfl, rfl, by simp, fun i hi => by show bSeg8 (enc ep li p q l.length l) (offs 0 i) = bSeg8 (enc ep li p q l.length l) i; rfl⟩
      · (repeat' first | exact trivial | exact rfl | exact sh0 rfl | exact Nat.le_refl _ | exact .inl shA | exact .inr ⟨rfl, rfl, rfl, rfl, rfl⟩ | exact .inl shB | exact fun h => h | refine ⟨?_, ?_, ?_, .inl ?_⟩ | refine ⟨?_, ?_⟩ | refine fun ii hii => ?_ | omega | fail)
end Go.Proofs.Ytilmfhpoiejmfaa.Gk
