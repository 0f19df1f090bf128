/- The log on the heap of the mind: a record is appended. By this session. -/
import Derived.Test.YtilmfhpoiejmfaaGm
namespace Go.Proofs.Ytilmfhpoiejmfaa.Gk
open Go.Proofs.Ytilmfhpoiejmfaa.Lh Go.RowKit Go.Proofs.Ytilmfhpoiejmfaa.Lg
open Go.Proofs.Ytilmfhpoiejmfaa.Dk (Disk Sec nought diskR wrE wrD flE flD rdE secV bytesV byteR writeR' read' flush' sectors' wrD_pend)
set_option maxRecDepth 100000
set_option linter.unusedSimpArgs false
set_option linter.unusedSectionVars false
set_option linter.unusedVariables false
variable [Fz]
theorem apW_pend (L : LgS) (l : Lg.Bs) (n : Nat) : ∀ (k i : Nat) (x : Disk), (apW L l n k i x).1.pend.length ≤ x.pend.length + k
  | 0, _, x => Nat.le_refl _
  | k + 1, i, x => by
    rw [apW]
    have h := wrD_pend x ((L.first + (L.next + i) : Nat) : Int) (toS (apS L l n i)) 64
    split
    · exact Nat.le_trans (apW_pend L l n k (i + 1) _) (by omega)
    · exact Nat.le_trans h (by omega)
theorem secN_le {m : Nat} (h : m ≤ 2000) : 1 ≤ secN m ∧ secN m ≤ 42 ∧ 48 * (secN m - 1) ≤ m ∧ m ≤ 48 * secN m := by
  unfold secN
  split <;> omega
theorem chunk_len (l : Lg.Bs) (i : Nat) : (chunk l i).length = min 48 (l.length - 48 * i) := by
  unfold chunk
  rw [List.length_take, List.length_drop]
set_option maxHeartbeats 1000000 in
theorem Append (τ : Nat) (x : Disk) (L : LgS) (ok : LgOk L) (l : Lg.Bs) (hl : l.length ≤ 4611686018427387904) (hp : x.pend.length + 50 < 1000000) : LCalls Try.prog 39 (.cons (.ptr ⟨1, [], 0⟩) (.cons (.str (bs l)) .nil)) [diskR τ x, lgO τ L] (fun e h' => e = .ret (.int .i64 (appP x L l).2.2) ∧ h' = [diskR τ (appP x L l).1, lgO τ (appP x L l).2.1]) := by
  obtain ⟨k1, k2, k3, k4⟩ := ok
  refine LCalls.tell ?_; refine enter39 rfl ?_; conv => whnf
  rewrite [bs_size]
  refine LCalls.use (Sectors l.length hl) [] rfl rfl trivial ?_
  rintro _ _ ⟨rfl, rfl⟩
  conv => whnf
  rewrite [bs_size]
  by_cases h2 : 2000 < l.length
  · rewrite [show decide ((l.length : Int) > 2000) = true from decide_eq_true (by omega)]
    rw [show appP x L l = (x, L, 2) from if_pos h2]
    conv => whnf
    refine ⟨[0, 1], _, _, rfl, rfl, ?_, ?_, rfl, rfl⟩
    · (repeat' first | exact trivial | exact rfl | exact sh0 rfl | exact Nat.le_refl _ | exact .inl shA | exact .inr ⟨rfl, rfl, rfl, rfl, rfl⟩ | exact .inl shB | exact fun h => h | refine ⟨?_, ?_, ?_, .inl ?_⟩ | refine ⟨?_, ?_⟩ | refine fun ii hii => ?_ | omega | fail)
    · (repeat' first | exact trivial | exact rfl | exact sh0 rfl | exact Nat.le_refl _ | exact .inl shA | exact .inr ⟨rfl, rfl, rfl, rfl, rfl⟩ | exact .inl shB | exact fun h => h | refine ⟨?_, ?_, ?_, .inl ?_⟩ | refine ⟨?_, ?_⟩ | refine fun ii hii => ?_ | omega | fail)
  · rewrite [show decide ((l.length : Int) > 2000) = false from decide_eq_false (by omega)]
    have happ : appP x L l = _ := if_neg h2
    have hsn := secN_le (m := l.length) (by omega)
    rw [happ]
    generalize secN l.length = n at hsn
    conv => whnf
    refine LCalls.use (Room τ L ⟨k1, k2, k3, k4⟩) [1] rfl rfl ⟨rfl, trivial⟩ ?_
    rintro _ _ ⟨rfl, rfl⟩
    conv => whnf
    by_cases h3 : L.count - L.next < n
    · rewrite [show decide ((n : Int) > ((L.count - L.next : Nat) : Int)) = true from decide_eq_true (by omega)]
      rw [if_pos h3]
      conv => whnf
      refine ⟨[0, 1], _, _, rfl, rfl, ?_, ?_, rfl, rfl⟩
      · (repeat' first | exact trivial | exact rfl | exact sh0 rfl | exact Nat.le_refl _ | exact .inl shA | exact .inr ⟨rfl, rfl, rfl, rfl, rfl⟩ | exact .inl shB | exact fun h => h | refine ⟨?_, ?_, ?_, .inl ?_⟩ | refine ⟨?_, ?_⟩ | refine fun ii hii => ?_ | omega | fail)
      · (repeat' first | exact trivial | exact rfl | exact sh0 rfl | exact Nat.le_refl _ | exact .inl shA | exact .inr ⟨rfl, rfl, rfl, rfl, rfl⟩ | exact .inl shB | exact fun h => h | refine ⟨?_, ?_, ?_, .inl ?_⟩ | refine ⟨?_, ?_⟩ | refine fun ii hii => ?_ | omega | fail)
    · rewrite [show decide ((n : Int) > ((L.count - L.next : Nat) : Int)) = false from decide_eq_false (by omega)]
      rw [if_neg h3]
      conv => whnf
      refine Loop.inv (lwp_mono _) (fun m t1 h => ∃ (i : Nat) (y : Disk), i ≤ n ∧ apW L l n n 0 x = apW L l n (n - i) i y ∧ y.pend.length ≤ x.pend.length + i ∧ m = n - i ∧ t1 = [.ptr ⟨1, [], 0⟩, .str (bs l), .any, .any, .any, .int .i64 (n : Int), .any, .any, .any, .any, .any, .any, .any, .any, .any, .any, .any, .any, .any, .any, .any, .int .i64 (n : Int), .int .i64 (i : Int), .any, .any, .any, .any, .any, .any, .any, .any, .any, .any, .any, .any, .any, .any, .any, .any, .any, .any, .any, .any, .any, .any, .any, .any, .any, .any, .any, .any, .any, .any, .any, .any, .any, .any, .any, .any, .any, .any, .any, .any, .any, .any, .any, .any, .any, .any, .any, .any, .any, .any, .any, .any, .any, .any, .any, .any, .any, .any, .any, .any, .any, .any, .any, .any, .any, .any, .any, .any, .any, .any, .any, .any, .any] ∧ h = [diskR τ y, lgO τ L]) ?_ ?_
      · refine ⟨_, _, _, ⟨[], trivial, [0, 1], rfl, rfl, ?_, ?_⟩, 0, x, Nat.zero_le _, by rw [Nat.sub_zero], by omega, rfl, rfl, rfl⟩
        · (repeat' first | exact trivial | exact rfl | exact sh0 rfl | exact Nat.le_refl _ | exact .inl shA | exact .inr ⟨rfl, rfl, rfl, rfl, rfl⟩ | exact .inl shB | exact fun h => h | refine ⟨?_, ?_, ?_, .inl ?_⟩ | refine ⟨?_, ?_⟩ | refine fun ii hii => ?_ | omega | fail)
        · (repeat' first | exact trivial | exact rfl | exact sh0 rfl | exact Nat.le_refl _ | exact .inl shA | exact .inr ⟨rfl, rfl, rfl, rfl, rfl⟩ | exact .inl shB | exact fun h => h | refine ⟨?_, ?_, ?_, .inl ?_⟩ | refine ⟨?_, ?_⟩ | refine fun ii hii => ?_ | omega | fail)
      · rintro m _ _ ⟨i, y, hi, hap, hpe, rfl, rfl, rfl⟩
        rw [hap]
        conv => whnf
        by_cases hin : i < n
        · rewrite [show decide ((i : Int) < (n : Int)) = true from decide_eq_true (by omega)]
          conv => whnf
          have hmul : IntKind.i64.wrap ((i : Int) * 48) = ((48 * i : Nat) : Int) := by rw [w64 (by omega)]; omega
          have hmul2 : IntKind.i64.wrap (IntKind.i64.wrap ((i : Int) + 1) * 48) = ((48 * (i + 1) : Nat) : Int) := by rw [w64 (n := (i : Int) + 1) (by omega), w64 (by omega)]; omega
          have hmin : (if ((48 * (i + 1) : Nat) : Int) < (l.length : Int) then ((48 * (i + 1) : Nat) : Int) else (l.length : Int)) = ((min l.length (48 * (i + 1)) : Nat) : Int) := by
            split <;> omega
          have hpl : IntKind.i64.wrap ((L.next : Int) + (i : Int)) = ((L.next + i : Nat) : Int) := by rw [w64 (by omega)]; omega
          have hchk : (l.drop (48 * i)).take (min l.length (48 * (i + 1)) - 48 * i) = chunk l i := by
            unfold chunk
            by_cases c : 48 * (i + 1) ≤ l.length
            · rw [Nat.min_eq_right c, show 48 * (i + 1) - 48 * i = 48 by omega]
            · rw [Nat.min_eq_left (by omega), List.take_of_length_le (by rw [List.length_drop]; omega), List.take_of_length_le (by rw [List.length_drop]; omega)]
          have hcl := chunk_len l i
          have hfp : IntKind.i64.wrap ((L.first : Int) + ((L.next + i : Nat) : Int)) = ((L.first + (L.next + i) : Nat) : Int) := by rw [w64 (by omega)]; omega
          have hstep : i < n → apW L l n (n - i) i y = if wrE y ((L.first + (L.next + i) : Nat) : Int) 64 = 0 then apW L l n (n - i - 1) (i + 1) (wrD y ((L.first + (L.next + i) : Nat) : Int) (toS (apS L l n i)) 64)
    else (wrD y ((L.first + (L.next + i) : Nat) : Int) (toS (apS L l n i)) 64, wrE y ((L.first + (L.next + i) : Nat) : Int) 64) := fun h => by
            rw [show n - i = (n - i - 1) + 1 by omega, apW, Nat.add_sub_cancel]
          by_cases c0 : i = 0
          · by_cases c1 : i + 1 = n
            · rewrite [show ((i : Int) == 0) = true by rw [c0]; rfl]
              conv => whnf
              rewrite [w64 (n := (n : Int) - 1) (by omega)]
              rewrite [show ((i : Int) == (n : Int) - 1) = true from beq_iff_eq.2 (by omega)]
              conv => whnf
              have hfl : flg i n = 3 := by unfold flg; rw [if_pos c0, if_pos c1]
              rewrite [hmul, hmul2, bs_size, hmin, hpl, show IntKind.u8.wrap ((BitVec.ofInt IntKind.u8.bits (IntKind.u8.wrap ((BitVec.ofInt IntKind.u8.bits 0 ||| BitVec.ofInt IntKind.u8.bits 1).toNat : Int)) ||| BitVec.ofInt IntKind.u8.bits 2).toNat : Int) = ((3 : Nat) : Int) from rfl]
              refine ⟨by omega, ?_⟩
              rewrite [Int.toNat_natCast]
              conv => whnf
              refine ⟨by omega, ?_⟩
              rewrite [Int.toNat_natCast]
              conv => whnf
              refine ⟨⟨by omega, by omega⟩, ?_⟩
              rewrite [bs_extract, hchk]
              conv => whnf
              rewrite [hfp]
              refine .inr ⟨_, [(18, none)], [18], ⟨⟨_, _, _, _, encodeS L.epoch L.life (L.next + i) 3 (chunk l i).length (chunk l i) k3 k4 (by omega) (by decide) (by omega) (by omega), fun _ => rfl, fun _ => rfl, rfl, fun _ => ⟨rfl, trivial⟩, rfl, rfl, fun _ => rfl⟩⟩, ?_⟩; conv => whnf
              have hS : apS L l n i = enc L.epoch L.life (L.next + i) 3 (chunk l i).length (chunk l i) := by unfold apS; rw [hfl]
              rewrite [← hS]
              refine .inr ⟨_, [(0, diskR τ (wrD y ((L.first + (L.next + i) : Nat) : Int) (toS (apS L l n i)) 64))], [0], ⟨⟨_, _, _, _, writeR' τ y ((L.first + (L.next + i) : Nat) : Int) (toS (apS L l n i)) 64 (by omega), fun _ => rfl, fun _ => rfl, rfl, fun _ => ⟨rfl, trivial⟩, rfl, rfl, fun _ => rfl⟩⟩, ?_⟩; conv => whnf
              have hw := wrD_pend y ((L.first + (L.next + i) : Nat) : Int) (toS (apS L l n i)) 64
              by_cases he : wrE y ((L.first + (L.next + i) : Nat) : Int) 64 = 0
              · rewrite [he]
                have hap2 := (hstep hin).trans (if_pos he)
                conv => whnf
                refine ⟨_, _, _, ?_, ⟨[], trivial, [0, 1], rfl, rfl, ?_, ?_⟩, i + 1, wrD y ((L.first + (L.next + i) : Nat) : Int) (toS (apS L l n i)) 64, by omega, hap2.trans (by rw [Nat.sub_sub]), by omega, rfl, rfl, rfl⟩
                · omega
                · (repeat' first | exact trivial | exact rfl | exact sh0 rfl | exact Nat.le_refl _ | exact .inl shA | exact .inr ⟨rfl, rfl, rfl, rfl, rfl⟩ | exact .inl shB | exact fun h => h | refine ⟨?_, ?_, ?_, .inl ?_⟩ | refine ⟨?_, ?_⟩ | refine fun ii hii => ?_ | omega | fail)
                  all_goals exact w64 (by omega)
                · (repeat' first | exact trivial | exact rfl | exact sh0 rfl | exact Nat.le_refl _ | exact .inl shA | exact .inr ⟨rfl, rfl, rfl, rfl, rfl⟩ | exact .inl shB | exact fun h => h | refine ⟨?_, ?_, ?_, .inl ?_⟩ | refine ⟨?_, ?_⟩ | refine fun ii hii => ?_ | omega | fail)
              · have hap2 := (hstep hin).trans (if_neg he)
                rewrite [show (wrE y ((L.first + (L.next + i) : Nat) : Int) 64 != 0) = true from bne_iff_ne.2 he]
                rw [hap2]
                dsimp only
                rw [if_neg he]
                conv => whnf
                refine ⟨[0, 1], _, _, rfl, rfl, ?_, ?_, rfl, rfl⟩
                · (repeat' first | exact trivial | exact rfl | exact sh0 rfl | exact Nat.le_refl _ | exact .inl shA | exact .inr ⟨rfl, rfl, rfl, rfl, rfl⟩ | exact .inl shB | exact fun h => h | refine ⟨?_, ?_, ?_, .inl ?_⟩ | refine ⟨?_, ?_⟩ | refine fun ii hii => ?_ | omega | fail)
                · (repeat' first | exact trivial | exact rfl | exact sh0 rfl | exact Nat.le_refl _ | exact .inl shA | exact .inr ⟨rfl, rfl, rfl, rfl, rfl⟩ | exact .inl shB | exact fun h => h | refine ⟨?_, ?_, ?_, .inl ?_⟩ | refine ⟨?_, ?_⟩ | refine fun ii hii => ?_ | omega | fail)
            · rewrite [show ((i : Int) == 0) = true by rw [c0]; rfl]
              conv => whnf
              rewrite [w64 (n := (n : Int) - 1) (by omega)]
              rewrite [show ((i : Int) == (n : Int) - 1) = false from beq_eq_false_iff_ne.2 (by omega)]
              conv => whnf
              have hfl : flg i n = 1 := by unfold flg; rw [if_pos c0, if_neg c1]
              rewrite [hmul, hmul2, bs_size, hmin, hpl, show IntKind.u8.wrap ((BitVec.ofInt IntKind.u8.bits 0 ||| BitVec.ofInt IntKind.u8.bits 1).toNat : Int) = ((1 : Nat) : Int) from rfl]
              refine ⟨by omega, ?_⟩
              rewrite [Int.toNat_natCast]
              conv => whnf
              refine ⟨by omega, ?_⟩
              rewrite [Int.toNat_natCast]
              conv => whnf
              refine ⟨⟨by omega, by omega⟩, ?_⟩
              rewrite [bs_extract, hchk]
              conv => whnf
              rewrite [hfp]
              refine .inr ⟨_, [(18, none)], [18], ⟨⟨_, _, _, _, encodeS L.epoch L.life (L.next + i) 1 (chunk l i).length (chunk l i) k3 k4 (by omega) (by decide) (by omega) (by omega), fun _ => rfl, fun _ => rfl, rfl, fun _ => ⟨rfl, trivial⟩, rfl, rfl, fun _ => rfl⟩⟩, ?_⟩; conv => whnf
              have hS : apS L l n i = enc L.epoch L.life (L.next + i) 1 (chunk l i).length (chunk l i) := by unfold apS; rw [hfl]
              rewrite [← hS]
              refine .inr ⟨_, [(0, diskR τ (wrD y ((L.first + (L.next + i) : Nat) : Int) (toS (apS L l n i)) 64))], [0], ⟨⟨_, _, _, _, writeR' τ y ((L.first + (L.next + i) : Nat) : Int) (toS (apS L l n i)) 64 (by omega), fun _ => rfl, fun _ => rfl, rfl, fun _ => ⟨rfl, trivial⟩, rfl, rfl, fun _ => rfl⟩⟩, ?_⟩; conv => whnf
              have hw := wrD_pend y ((L.first + (L.next + i) : Nat) : Int) (toS (apS L l n i)) 64
              by_cases he : wrE y ((L.first + (L.next + i) : Nat) : Int) 64 = 0
              · rewrite [he]
                have hap2 := (hstep hin).trans (if_pos he)
                conv => whnf
                refine ⟨_, _, _, ?_, ⟨[], trivial, [0, 1], rfl, rfl, ?_, ?_⟩, i + 1, wrD y ((L.first + (L.next + i) : Nat) : Int) (toS (apS L l n i)) 64, by omega, hap2.trans (by rw [Nat.sub_sub]), by omega, rfl, rfl, rfl⟩
                · omega
                · (repeat' first | exact trivial | exact rfl | exact sh0 rfl | exact Nat.le_refl _ | exact .inl shA | exact .inr ⟨rfl, rfl, rfl, rfl, rfl⟩ | exact .inl shB | exact fun h => h | refine ⟨?_, ?_, ?_, .inl ?_⟩ | refine ⟨?_, ?_⟩ | refine fun ii hii => ?_ | omega | fail)
                  all_goals exact w64 (by omega)
                · (repeat' first | exact trivial | exact rfl | exact sh0 rfl | exact Nat.le_refl _ | exact .inl shA | exact .inr ⟨rfl, rfl, rfl, rfl, rfl⟩ | exact .inl shB | exact fun h => h | refine ⟨?_, ?_, ?_, .inl ?_⟩ | refine ⟨?_, ?_⟩ | refine fun ii hii => ?_ | omega | fail)
              · have hap2 := (hstep hin).trans (if_neg he)
                rewrite [show (wrE y ((L.first + (L.next + i) : Nat) : Int) 64 != 0) = true from bne_iff_ne.2 he]
                rw [hap2]
                dsimp only
                rw [if_neg he]
                conv => whnf
                refine ⟨[0, 1], _, _, rfl, rfl, ?_, ?_, rfl, rfl⟩
                · (repeat' first | exact trivial | exact rfl | exact sh0 rfl | exact Nat.le_refl _ | exact .inl shA | exact .inr ⟨rfl, rfl, rfl, rfl, rfl⟩ | exact .inl shB | exact fun h => h | refine ⟨?_, ?_, ?_, .inl ?_⟩ | refine ⟨?_, ?_⟩ | refine fun ii hii => ?_ | omega | fail)
                · (repeat' first | exact trivial | exact rfl | exact sh0 rfl | exact Nat.le_refl _ | exact .inl shA | exact .inr ⟨rfl, rfl, rfl, rfl, rfl⟩ | exact .inl shB | exact fun h => h | refine ⟨?_, ?_, ?_, .inl ?_⟩ | refine ⟨?_, ?_⟩ | refine fun ii hii => ?_ | omega | fail)
          · by_cases c1 : i + 1 = n
            · rewrite [show ((i : Int) == 0) = false from beq_eq_false_iff_ne.2 (by omega)]
              conv => whnf
              rewrite [w64 (n := (n : Int) - 1) (by omega)]
              rewrite [show ((i : Int) == (n : Int) - 1) = true from beq_iff_eq.2 (by omega)]
              conv => whnf
              have hfl : flg i n = 2 := by unfold flg; rw [if_neg c0, if_pos c1]
              rewrite [hmul, hmul2, bs_size, hmin, hpl, show IntKind.u8.wrap ((BitVec.ofInt IntKind.u8.bits 0 ||| BitVec.ofInt IntKind.u8.bits 2).toNat : Int) = ((2 : Nat) : Int) from rfl]
              refine ⟨by omega, ?_⟩
              rewrite [Int.toNat_natCast]
              conv => whnf
              refine ⟨by omega, ?_⟩
              rewrite [Int.toNat_natCast]
              conv => whnf
              refine ⟨⟨by omega, by omega⟩, ?_⟩
              rewrite [bs_extract, hchk]
              conv => whnf
              rewrite [hfp]
              refine .inr ⟨_, [(18, none)], [18], ⟨⟨_, _, _, _, encodeS L.epoch L.life (L.next + i) 2 (chunk l i).length (chunk l i) k3 k4 (by omega) (by decide) (by omega) (by omega), fun _ => rfl, fun _ => rfl, rfl, fun _ => ⟨rfl, trivial⟩, rfl, rfl, fun _ => rfl⟩⟩, ?_⟩; conv => whnf
              have hS : apS L l n i = enc L.epoch L.life (L.next + i) 2 (chunk l i).length (chunk l i) := by unfold apS; rw [hfl]
              rewrite [← hS]
              refine .inr ⟨_, [(0, diskR τ (wrD y ((L.first + (L.next + i) : Nat) : Int) (toS (apS L l n i)) 64))], [0], ⟨⟨_, _, _, _, writeR' τ y ((L.first + (L.next + i) : Nat) : Int) (toS (apS L l n i)) 64 (by omega), fun _ => rfl, fun _ => rfl, rfl, fun _ => ⟨rfl, trivial⟩, rfl, rfl, fun _ => rfl⟩⟩, ?_⟩; conv => whnf
              have hw := wrD_pend y ((L.first + (L.next + i) : Nat) : Int) (toS (apS L l n i)) 64
              by_cases he : wrE y ((L.first + (L.next + i) : Nat) : Int) 64 = 0
              · rewrite [he]
                have hap2 := (hstep hin).trans (if_pos he)
                conv => whnf
                refine ⟨_, _, _, ?_, ⟨[], trivial, [0, 1], rfl, rfl, ?_, ?_⟩, i + 1, wrD y ((L.first + (L.next + i) : Nat) : Int) (toS (apS L l n i)) 64, by omega, hap2.trans (by rw [Nat.sub_sub]), by omega, rfl, rfl, rfl⟩
                · omega
                · (repeat' first | exact trivial | exact rfl | exact sh0 rfl | exact Nat.le_refl _ | exact .inl shA | exact .inr ⟨rfl, rfl, rfl, rfl, rfl⟩ | exact .inl shB | exact fun h => h | refine ⟨?_, ?_, ?_, .inl ?_⟩ | refine ⟨?_, ?_⟩ | refine fun ii hii => ?_ | omega | fail)
                  all_goals exact w64 (by omega)
                · (repeat' first | exact trivial | exact rfl | exact sh0 rfl | exact Nat.le_refl _ | exact .inl shA | exact .inr ⟨rfl, rfl, rfl, rfl, rfl⟩ | exact .inl shB | exact fun h => h | refine ⟨?_, ?_, ?_, .inl ?_⟩ | refine ⟨?_, ?_⟩ | refine fun ii hii => ?_ | omega | fail)
              · have hap2 := (hstep hin).trans (if_neg he)
                rewrite [show (wrE y ((L.first + (L.next + i) : Nat) : Int) 64 != 0) = true from bne_iff_ne.2 he]
                rw [hap2]
                dsimp only
                rw [if_neg he]
                conv => whnf
                refine ⟨[0, 1], _, _, rfl, rfl, ?_, ?_, rfl, rfl⟩
                · (repeat' first | exact trivial | exact rfl | exact sh0 rfl | exact Nat.le_refl _ | exact .inl shA | exact .inr ⟨rfl, rfl, rfl, rfl, rfl⟩ | exact .inl shB | exact fun h => h | refine ⟨?_, ?_, ?_, .inl ?_⟩ | refine ⟨?_, ?_⟩ | refine fun ii hii => ?_ | omega | fail)
                · (repeat' first | exact trivial | exact rfl | exact sh0 rfl | exact Nat.le_refl _ | exact .inl shA | exact .inr ⟨rfl, rfl, rfl, rfl, rfl⟩ | exact .inl shB | exact fun h => h | refine ⟨?_, ?_, ?_, .inl ?_⟩ | refine ⟨?_, ?_⟩ | refine fun ii hii => ?_ | omega | fail)
            · rewrite [show ((i : Int) == 0) = false from beq_eq_false_iff_ne.2 (by omega)]
              conv => whnf
              rewrite [w64 (n := (n : Int) - 1) (by omega)]
              rewrite [show ((i : Int) == (n : Int) - 1) = false from beq_eq_false_iff_ne.2 (by omega)]
              conv => whnf
              have hfl : flg i n = 0 := by unfold flg; rw [if_neg c0, if_neg c1]
              rewrite [hmul, hmul2, bs_size, hmin, hpl]
              refine ⟨by omega, ?_⟩
              rewrite [Int.toNat_natCast]
              conv => whnf
              refine ⟨by omega, ?_⟩
              rewrite [Int.toNat_natCast]
              conv => whnf
              refine ⟨⟨by omega, by omega⟩, ?_⟩
              rewrite [bs_extract, hchk]
              conv => whnf
              rewrite [hfp]
              refine .inr ⟨_, [(18, none)], [18], ⟨⟨_, _, _, _, encodeS L.epoch L.life (L.next + i) 0 (chunk l i).length (chunk l i) k3 k4 (by omega) (by decide) (by omega) (by omega), fun _ => rfl, fun _ => rfl, rfl, fun _ => ⟨rfl, trivial⟩, rfl, rfl, fun _ => rfl⟩⟩, ?_⟩; conv => whnf
              have hS : apS L l n i = enc L.epoch L.life (L.next + i) 0 (chunk l i).length (chunk l i) := by unfold apS; rw [hfl]
              rewrite [← hS]
              refine .inr ⟨_, [(0, diskR τ (wrD y ((L.first + (L.next + i) : Nat) : Int) (toS (apS L l n i)) 64))], [0], ⟨⟨_, _, _, _, writeR' τ y ((L.first + (L.next + i) : Nat) : Int) (toS (apS L l n i)) 64 (by omega), fun _ => rfl, fun _ => rfl, rfl, fun _ => ⟨rfl, trivial⟩, rfl, rfl, fun _ => rfl⟩⟩, ?_⟩; conv => whnf
              have hw := wrD_pend y ((L.first + (L.next + i) : Nat) : Int) (toS (apS L l n i)) 64
              by_cases he : wrE y ((L.first + (L.next + i) : Nat) : Int) 64 = 0
              · rewrite [he]
                have hap2 := (hstep hin).trans (if_pos he)
                conv => whnf
                refine ⟨_, _, _, ?_, ⟨[], trivial, [0, 1], rfl, rfl, ?_, ?_⟩, i + 1, wrD y ((L.first + (L.next + i) : Nat) : Int) (toS (apS L l n i)) 64, by omega, hap2.trans (by rw [Nat.sub_sub]), by omega, rfl, rfl, rfl⟩
                · omega
                · (repeat' first | exact trivial | exact rfl | exact sh0 rfl | exact Nat.le_refl _ | exact .inl shA | exact .inr ⟨rfl, rfl, rfl, rfl, rfl⟩ | exact .inl shB | exact fun h => h | refine ⟨?_, ?_, ?_, .inl ?_⟩ | refine ⟨?_, ?_⟩ | refine fun ii hii => ?_ | omega | fail)
                  all_goals exact w64 (by omega)
                · (repeat' first | exact trivial | exact rfl | exact sh0 rfl | exact Nat.le_refl _ | exact .inl shA | exact .inr ⟨rfl, rfl, rfl, rfl, rfl⟩ | exact .inl shB | exact fun h => h | refine ⟨?_, ?_, ?_, .inl ?_⟩ | refine ⟨?_, ?_⟩ | refine fun ii hii => ?_ | omega | fail)
              · have hap2 := (hstep hin).trans (if_neg he)
                rewrite [show (wrE y ((L.first + (L.next + i) : Nat) : Int) 64 != 0) = true from bne_iff_ne.2 he]
                rw [hap2]
                dsimp only
                rw [if_neg he]
                conv => whnf
                refine ⟨[0, 1], _, _, rfl, rfl, ?_, ?_, rfl, rfl⟩
                · (repeat' first | exact trivial | exact rfl | exact sh0 rfl | exact Nat.le_refl _ | exact .inl shA | exact .inr ⟨rfl, rfl, rfl, rfl, rfl⟩ | exact .inl shB | exact fun h => h | refine ⟨?_, ?_, ?_, .inl ?_⟩ | refine ⟨?_, ?_⟩ | refine fun ii hii => ?_ | omega | fail)
                · (repeat' first | exact trivial | exact rfl | exact sh0 rfl | exact Nat.le_refl _ | exact .inl shA | exact .inr ⟨rfl, rfl, rfl, rfl, rfl⟩ | exact .inl shB | exact fun h => h | refine ⟨?_, ?_, ?_, .inl ?_⟩ | refine ⟨?_, ?_⟩ | refine fun ii hii => ?_ | omega | fail)
        · rewrite [show decide ((i : Int) < (n : Int)) = false from decide_eq_false (by omega)]
          obtain rfl : i = n := by omega
          rw [Nat.sub_self, apW]
          dsimp only
          rw [if_pos rfl]
          conv => whnf
          rewrite [w64 (n := (L.next : Int) + (i : Int)) (by omega), show (L.next : Int) + (i : Int) = ((L.next + i : Nat) : Int) by omega]
          conv => whnf
          refine ⟨[0, 1], _, _, rfl, rfl, ?_, ?_, rfl, rfl⟩
          · (repeat' first | exact trivial | exact rfl | exact sh0 rfl | exact Nat.le_refl _ | exact .inl shA | exact .inr ⟨rfl, rfl, rfl, rfl, rfl⟩ | exact .inl shB | exact fun h => h | refine ⟨?_, ?_, ?_, .inl ?_⟩ | refine ⟨?_, ?_⟩ | refine fun ii hii => ?_ | omega | fail)
          · (repeat' first | exact trivial | exact rfl | exact sh0 rfl | exact Nat.le_refl _ | exact .inl shA | exact .inr ⟨rfl, rfl, rfl, rfl, rfl⟩ | exact .inl shB | exact fun h => h | refine ⟨?_, ?_, ?_, .inl ?_⟩ | refine ⟨?_, ?_⟩ | refine fun ii hii => ?_ | omega | fail)
end Go.Proofs.Ytilmfhpoiejmfaa.Gk
