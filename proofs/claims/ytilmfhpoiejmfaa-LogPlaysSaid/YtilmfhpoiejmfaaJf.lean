/- The document's log: a record is appended. By this session. -/
import Derived.Test.YtilmfhpoiejmfaaJe
import Derived.Test.YtilmfhpoiejmfaaGn
import Derived.Test.YtilmfhpoiejmfaaGya
import Derived.Test.YtilmfhpoiejmfaaGh
namespace Go.Proofs.Ytilmfhpoiejmfaa.Gk
open Go.Proofs.Ytilmfhpoiejmfaa.Lh Go.RowKit Go.Proofs.Ytilmfhpoiejmfaa.Lg
open Go.Proofs.Ytilmfhpoiejmfaa.Dk (Disk Sec nought diskR wrE wrD wrN wrS flE flD rdE hasB hasB_nat goesB went secV bytesV byteR refO rsO rpO refH rRead_x rWrite_ok rWrite_no rFlush_x Inv Inv_wrD wrD_len wrE_ok wrD_pend)
set_option maxRecDepth 100000
set_option linter.unusedSimpArgs false
set_option linter.unusedSectionVars false
set_option linter.unusedVariables false
variable [Fz]
theorem MadeS (ep li : Nat) (pl fl : Int) (l : Bs) (h1 : ep < 4294967296) (h2 : li < 4294967296) (hpl : 0 ≤ pl ∧ pl < 65536) (hl : l.length ≤ 48) : LCalls Try.prog 79 (.cons (wN ep) (.cons (wN li) (.cons (.int .i64 pl) (.cons (.int .i64 fl) (.cons (.slice ⟨0, [], 0⟩ 0 1 l.length l.length none) .nil))))) [byO l.length (fB l)] (fun e h' => e = .ret (bV 64 (enc ep li pl.toNat (fl % 256).toNat l.length l)) ∧ h' = [none]) := by
  refine LCalls.preF [(0, l.length, 1, bSeg8 (fB l))] ⟨⟨rfl, Nat.le_refl _, rfl, fun i hi => ⟨⟨rfl, rfl⟩, trivial⟩⟩, rfl, trivial⟩ [0] (.cons (wN ep) (.cons (wN li) (.cons (.int .i64 pl) (.cons (.int .i64 fl) (.cons (bV l.length (fB l)) .nil))))) [none] rfl rfl ?_ ?_ ?_
  · exact ⟨⟨rfl, rfl⟩, ⟨rfl, rfl⟩, ⟨rfl, rfl⟩, ⟨rfl, rfl⟩, .inr ⟨rfl, rfl, rfl, rfl, rfl, by simp, fun i hi => by show bSeg8 (fB l) (offs 0 i) = bSeg8 (fB l) i; rfl⟩, trivial⟩
  · (repeat' first | exact trivial | exact rfl | exact sh0 rfl | exact Nat.le_refl _ | exact .inl shA | exact .inr ⟨rfl, rfl, rfl, rfl, rfl⟩ | exact .inl shB | exact fun h => h | refine ⟨?_, ?_, ?_, .inl ?_⟩ | refine ⟨?_, ?_⟩ | refine fun ii hii => ?_ | omega | fail)
  refine (LCalls.frame (H := [none]) (Made ep li pl fl l h1 h2 hpl hl) [] rfl trivial).mono ?_
  rintro _ _ ⟨_, _, ⟨rfl, rfl⟩, rfl, rfl⟩
  exact ⟨rfl, rfl⟩
/-- What is left: where what waits lies. -/
def lgA (y : Disk) (L : LgS) : LHeap := [refO 1 2 y, rsO y.last, rpO y.pend, rlgO 0 L]
def lgB (y : Disk) (L : LgS) : LHeap := [refO 1 4 y, rsO y.last, none, rlgO 0 L, rpO y.pend]
def AppR (r : Disk × LgS × Int) (e : LEnd) (h' : LHeap) : Prop := e = .ret (.int .i64 r.2.2) ∧ (h' = lgA r.1 r.2.1 ∨ h' = lgB r.1 r.2.1)
set_option maxHeartbeats 2000000 in
theorem rAppend (x : Disk) (hi0 : Inv x) (L : LgS) (ok : LgOk L) (l : Lg.Bs) (hl : l.length ≤ 4611686018427387904) (hp : x.pend.length + 50 < 1000000) : LCalls Try.prog 78 (.cons (.ptr ⟨3, [], 0⟩) (.cons (.str (bs l)) .nil)) (lgA x L) (AppR (appP x L l)) := by
  obtain ⟨k1, k2, k3, k4⟩ := ok
  unfold lgA
  refine LCalls.tell ?_; refine enter78 rfl ?_; conv => whnf
  rewrite [bs_size]
  refine LCalls.use (rSectors l.length hl) [] rfl rfl trivial ?_
  rintro _ _ ⟨rfl, rfl⟩
  conv => whnf
  rewrite [bs_size]
  by_cases h2 : 2000 < l.length
  · rewrite [show decide ((l.length : Int) > 2000) = true from decide_eq_true (by omega)]
    rw [show appP x L l = (x, L, 2) from if_pos h2]
    conv => whnf
    refine ⟨[0, 1, 2, 3], _, _, rfl, rfl, ?_, ?_, rfl, .inl rfl⟩
    · (repeat' first | exact trivial | exact rfl | exact sh0 rfl | exact Nat.le_refl _ | exact .inl shA | exact .inr ⟨rfl, rfl, rfl, rfl, rfl⟩ | exact .inl shB | exact fun h => h | refine ⟨?_, ?_, ?_, .inl ?_⟩ | refine ⟨?_, ?_⟩ | refine fun ii hii => ?_ | omega | fail)
    · (repeat' first | exact trivial | exact rfl | exact sh0 rfl | exact Nat.le_refl _ | exact .inl shA | exact .inr ⟨rfl, rfl, rfl, rfl, rfl⟩ | exact .inl shB | exact fun h => h | refine ⟨?_, ?_, ?_, .inl ?_⟩ | refine ⟨?_, ?_⟩ | refine fun ii hii => ?_ | omega | fail)
  rewrite [show decide ((l.length : Int) > 2000) = false from decide_eq_false (by omega)]
  have happ : appP x L l = _ := if_neg h2
  have hsn := secN_le (m := l.length) (by omega)
  rw [happ]
  obtain ⟨n, hnn⟩ : ∃ n, n = secN l.length := ⟨_, rfl⟩
  rw [← hnn] at hsn ⊢
  conv => whnf
  rewrite [w64 (n := (L.next : Int) + (n : Int)) (by omega)]
  by_cases h3 : L.count - L.next < n
  · rewrite [show decide ((L.next : Int) + (n : Int) > (L.count : Int)) = true from decide_eq_true (by omega)]
    rw [if_pos h3]
    conv => whnf
    refine ⟨[0, 1, 2, 3], _, _, rfl, rfl, ?_, ?_, rfl, .inl rfl⟩
    · (repeat' first | exact trivial | exact rfl | exact sh0 rfl | exact Nat.le_refl _ | exact .inl shA | exact .inr ⟨rfl, rfl, rfl, rfl, rfl⟩ | exact .inl shB | exact fun h => h | refine ⟨?_, ?_, ?_, .inl ?_⟩ | refine ⟨?_, ?_⟩ | refine fun ii hii => ?_ | omega | fail)
    · (repeat' first | exact trivial | exact rfl | exact sh0 rfl | exact Nat.le_refl _ | exact .inl shA | exact .inr ⟨rfl, rfl, rfl, rfl, rfl⟩ | exact .inl shB | exact fun h => h | refine ⟨?_, ?_, ?_, .inl ?_⟩ | refine ⟨?_, ?_⟩ | refine fun ii hii => ?_ | omega | fail)
  rewrite [show decide ((L.next : Int) + (n : Int) > (L.count : Int)) = false from decide_eq_false (by omega)]
  rw [if_neg h3]
  conv => whnf
  refine Loop.inv (lwp_mono _) (fun m t1 h => ∃ (i : Nat) (y : Disk), i ≤ n ∧ Inv y ∧ apW L l n n 0 x = apW L l n (n - i) i y ∧ y.pend.length ≤ x.pend.length + i ∧ m = n - i ∧ t1 = [.ptr ⟨3, [], 0⟩, .str (bs l), .any, .any, .any, .int .i64 (n : Int), .int .i64 (i : Int), .any, .any, .any, .any, .any, .any, .any, .any, .any, .any, .any, .any, .any, .any, .any, .any, .any, .any, .any, .any, .any, .any, .any, .any, .any, .any, .any, .any, .any, .any, .any, .any, .any, .any, .any, .any, .any, .any, .any, .any, .any, .any, .any, .any, .any, .any, .any, .any, .any, .any, .any, .any, .any, .any, .any, .any, .any, .any, .any, .any, .any, .any, .any, .any, .any, .any, .any, .any, .any, .any, .any, .any, .any, .any, .any, .any, .any, .any, .any, .any, .any, .any, .any, .any, .any, .any, .any, .any, .any] ∧ ((i = 0 ∧ h = lgA y L) ∨ (0 < i ∧ h = lgB y L))) ?_ ?_
  · refine ⟨_, _, _, ⟨[], trivial, [0, 1, 2, 3], rfl, rfl, ?_, ?_⟩, 0, x, Nat.zero_le _, hi0, by rw [Nat.sub_zero], by omega, rfl, rfl, .inl ⟨rfl, rfl⟩⟩
    · (repeat' first | exact trivial | exact rfl | exact sh0 rfl | exact Nat.le_refl _ | exact .inl shA | exact .inr ⟨rfl, rfl, rfl, rfl, rfl⟩ | exact .inl shB | exact fun h => h | refine ⟨?_, ?_, ?_, .inl ?_⟩ | refine ⟨?_, ?_⟩ | refine fun ii hii => ?_ | omega | fail)
    · (repeat' first | exact trivial | exact rfl | exact sh0 rfl | exact Nat.le_refl _ | exact .inl shA | exact .inr ⟨rfl, rfl, rfl, rfl, rfl⟩ | exact .inl shB | exact fun h => h | refine ⟨?_, ?_, ?_, .inl ?_⟩ | refine ⟨?_, ?_⟩ | refine fun ii hii => ?_ | omega | fail)
  rintro m _ _ ⟨i, y, hi, hiy, hap, hpe, rfl, rfl, hh⟩
  have hstep : i < n → apW L l n (n - i) i y = if wrE y ((L.first + (L.next + i) : Nat) : Int) 64 = 0 then apW L l n (n - i - 1) (i + 1) (wrD y ((L.first + (L.next + i) : Nat) : Int) (toS (apS L l n i)) 64)
    else (wrD y ((L.first + (L.next + i) : Nat) : Int) (toS (apS L l n i)) 64, wrE y ((L.first + (L.next + i) : Nat) : Int) 64) := fun h => by
    rw [show n - i = (n - i - 1) + 1 by omega, apW, Nat.add_sub_cancel]
  have hchk : (l.drop (48 * i)).take (min l.length (48 * (i + 1)) - 48 * i) = chunk l i := by
    unfold chunk
    by_cases c : 48 * (i + 1) ≤ l.length
    · rw [Nat.min_eq_right c, show 48 * (i + 1) - 48 * i = 48 by omega]
    · rw [Nat.min_eq_left (by omega), List.take_of_length_le (by rw [List.length_drop]; omega), List.take_of_length_le (by rw [List.length_drop]; omega)]
  have hmin : (if ((48 * (i + 1) : Nat) : Int) < (l.length : Int) then ((48 * (i + 1) : Nat) : Int) else (l.length : Int)) = ((min l.length (48 * (i + 1)) : Nat) : Int) := by
    split <;> omega
  have hcl := chunk_len l i
  rw [hap]
  rcases hh with ⟨c0, rfl⟩ | ⟨c0, rfl⟩
  · unfold lgA
    have hin : i < n := by omega
    have hmul : IntKind.i64.wrap (48 * (i : Int)) = ((48 * i : Nat) : Int) := by rw [w64 (by omega)]; omega
    have hmul2 : IntKind.i64.wrap (((48 * i : Nat) : Int) + 48) = ((48 * (i + 1) : Nat) : Int) := by rw [w64 (by omega)]; omega
    have hpl : IntKind.i64.wrap ((L.next : Int) + (i : Int)) = ((L.next + i : Nat) : Int) := by rw [w64 (by omega)]; omega
    have hfp1 : IntKind.i64.wrap ((L.first : Int) + (L.next : Int)) = ((L.first + L.next : Nat) : Int) := by rw [w64 (by omega)]; omega
    have hfp : IntKind.i64.wrap (((L.first + L.next : Nat) : Int) + (i : Int)) = ((L.first + (L.next + i) : Nat) : Int) := by rw [w64 (by omega)]; omega
    conv => whnf
    rewrite [show decide ((i : Int) < (n : Int)) = true from decide_eq_true (by omega)]
    conv => whnf
    rewrite [show ((i : Int) == 0) = true from beq_iff_eq.2 (by omega)]
    conv => whnf
    rewrite [w64 (n := (n : Int) - 1) (by omega)]
    by_cases c1 : i + 1 = n
    · rewrite [show ((i : Int) == (n : Int) - 1) = true from beq_iff_eq.2 (by omega)]
      conv => whnf
      have hfl : flg i n = 3 := by unfold flg; rw [if_pos c0, if_pos c1]
      rewrite [hmul, hmul2, bs_size, hmin]
      refine ⟨by omega, ?_⟩
      rewrite [Int.toNat_natCast]
      conv => whnf
      refine ⟨by omega, ?_⟩
      rewrite [Int.toNat_natCast]
      conv => whnf
      refine ⟨⟨by omega, by omega⟩, ?_⟩
      rewrite [bs_extract, hchk]
      conv => whnf
      rewrite [hpl]
      refine .inr ⟨_, [(44, none)], [44], ⟨⟨_, _, _, _, MadeS L.epoch L.life ((L.next + i : Nat) : Int) 3 (chunk l i) k3 k4 (by omega) (by omega), fun _ => rfl, fun _ => rfl, rfl, fun _ => ⟨rfl, trivial⟩, rfl, rfl, fun _ => rfl⟩⟩, ?_⟩; conv => whnf
      have hS : apS L l n i = enc L.epoch L.life ((L.next + i : Nat) : Int).toNat (((3 : Int) % 256).toNat) (chunk l i).length (chunk l i) := by unfold apS; rw [hfl, Int.toNat_natCast]; rfl
      rewrite [← hS, hfp1, hfp]
      have hw := wrD_pend y ((L.first + (L.next + i) : Nat) : Int) (toS (apS L l n i)) 64
      by_cases he : wrE y ((L.first + (L.next + i) : Nat) : Int) 64 = 0
      case neg =>
        have hap2 := (hstep hin).trans (if_neg he)
        rw [hap2]
        dsimp only
        rw [if_neg he]
        have ey : wrD y ((L.first + (L.next + i) : Nat) : Int) (toS (apS L l n i)) 64 = wrN y ((L.first + (L.next + i) : Nat) : Int) 64 := by unfold Dk.wrD; rw [if_neg he]
        rw [ey]
        refine LCalls.use (rWrite_no y hiy.len ((L.first + (L.next + i) : Nat) : Int) (toS (apS L l n i)) 64 he) [0, 1, 2] rfl rfl ⟨rfl, rfl, rfl, trivial⟩ ?_
        rintro _ _ ⟨rfl, rfl⟩
        conv => whnf
        rewrite [show (wrE y ((L.first + (L.next + i) : Nat) : Int) 64 != 0) = true from bne_iff_ne.2 he]
        conv => whnf
        refine ⟨[0, 1, 2, 3], _, _, rfl, rfl, ?_, ?_, rfl, .inl rfl⟩
        · (repeat' first | exact trivial | exact rfl | exact sh0 rfl | exact Nat.le_refl _ | exact .inl shA | exact .inr ⟨rfl, rfl, rfl, rfl, rfl⟩ | exact .inl shB | exact fun h => h | refine ⟨?_, ?_, ?_, .inl ?_⟩ | refine ⟨?_, ?_⟩ | refine fun ii hii => ?_ | omega | fail)
        · (repeat' first | exact trivial | exact rfl | exact sh0 rfl | exact Nat.le_refl _ | exact .inl shA | exact .inr ⟨rfl, rfl, rfl, rfl, rfl⟩ | exact .inl shB | exact fun h => h | refine ⟨?_, ?_, ?_, .inl ?_⟩ | refine ⟨?_, ?_⟩ | refine fun ii hii => ?_ | omega | fail)
      have hap2 := (hstep hin).trans (if_pos he)
      obtain ⟨g1, g2, g3, g4⟩ := wrE_ok he
      obtain ⟨kk, hkk, h5⟩ := hasB_nat g2
      have hiz := Inv_wrD hiy ((L.first + (L.next + i) : Nat) : Int) (toS (apS L l n i)) 64 (by omega)
      have ey : wrD y ((L.first + (L.next + i) : Nat) : Int) (toS (apS L l n i)) 64 = wrS (went y) (L.first + (L.next + i)) (toS (apS L l n i)) 64 := by unfold Dk.wrD; rw [if_pos he, Int.toNat_natCast]
      refine LCalls.use (rWrite_ok y (L.first + (L.next + i)) (toS (apS L l n i)) 64 g1 (by rw [hiy.len]; omega) g3 g4 (by omega)) [0, 1, 2] rfl rfl ⟨rfl, rfl, rfl, trivial⟩ ?_
      rintro _ _ ⟨rfl, rfl⟩
      rw [ey] at hap2 hw hiz
      obtain ⟨v, hv⟩ : ∃ v, v = wrS (went y) (L.first + (L.next + i)) (toS (apS L l n i)) 64 := ⟨_, rfl⟩
      rw [← hv] at hap2 hw hiz ⊢
      conv => whnf
      refine ⟨_, _, _, ?_, ⟨[], trivial, [0, 1, 2, 3, 45], rfl, rfl, ?_, ?_⟩, i + 1, v, by omega, hiz, hap2.trans (by rw [Nat.sub_sub]), by omega, rfl, rfl, .inr ⟨by omega, rfl⟩⟩
      · omega
      · (repeat' first | exact trivial | exact rfl | exact sh0 rfl | exact Nat.le_refl _ | exact .inl shA | exact .inr ⟨rfl, rfl, rfl, rfl, rfl⟩ | exact .inl shB | exact fun h => h | refine ⟨?_, ?_, ?_, .inl ?_⟩ | refine ⟨?_, ?_⟩ | refine fun ii hii => ?_ | omega | fail)
        all_goals exact w64 (by omega)
      · (repeat' first | exact trivial | exact rfl | exact sh0 rfl | exact Nat.le_refl _ | exact .inl shA | exact .inr ⟨rfl, rfl, rfl, rfl, rfl⟩ | exact .inl shB | exact fun h => h | refine ⟨?_, ?_, ?_, .inl ?_⟩ | refine ⟨?_, ?_⟩ | refine fun ii hii => ?_ | omega | fail)
    · rewrite [show ((i : Int) == (n : Int) - 1) = false from beq_eq_false_iff_ne.2 (by omega)]
      conv => whnf
      have hfl : flg i n = 1 := by unfold flg; rw [if_pos c0, if_neg c1]
      rewrite [hmul, hmul2, bs_size, hmin]
      refine ⟨by omega, ?_⟩
      rewrite [Int.toNat_natCast]
      conv => whnf
      refine ⟨by omega, ?_⟩
      rewrite [Int.toNat_natCast]
      conv => whnf
      refine ⟨⟨by omega, by omega⟩, ?_⟩
      rewrite [bs_extract, hchk]
      conv => whnf
      rewrite [hpl]
      refine .inr ⟨_, [(44, none)], [44], ⟨⟨_, _, _, _, MadeS L.epoch L.life ((L.next + i : Nat) : Int) 1 (chunk l i) k3 k4 (by omega) (by omega), fun _ => rfl, fun _ => rfl, rfl, fun _ => ⟨rfl, trivial⟩, rfl, rfl, fun _ => rfl⟩⟩, ?_⟩; conv => whnf
      have hS : apS L l n i = enc L.epoch L.life ((L.next + i : Nat) : Int).toNat (((1 : Int) % 256).toNat) (chunk l i).length (chunk l i) := by unfold apS; rw [hfl, Int.toNat_natCast]; rfl
      rewrite [← hS, hfp1, hfp]
      have hw := wrD_pend y ((L.first + (L.next + i) : Nat) : Int) (toS (apS L l n i)) 64
      by_cases he : wrE y ((L.first + (L.next + i) : Nat) : Int) 64 = 0
      case neg =>
        have hap2 := (hstep hin).trans (if_neg he)
        rw [hap2]
        dsimp only
        rw [if_neg he]
        have ey : wrD y ((L.first + (L.next + i) : Nat) : Int) (toS (apS L l n i)) 64 = wrN y ((L.first + (L.next + i) : Nat) : Int) 64 := by unfold Dk.wrD; rw [if_neg he]
        rw [ey]
        refine LCalls.use (rWrite_no y hiy.len ((L.first + (L.next + i) : Nat) : Int) (toS (apS L l n i)) 64 he) [0, 1, 2] rfl rfl ⟨rfl, rfl, rfl, trivial⟩ ?_
        rintro _ _ ⟨rfl, rfl⟩
        conv => whnf
        rewrite [show (wrE y ((L.first + (L.next + i) : Nat) : Int) 64 != 0) = true from bne_iff_ne.2 he]
        conv => whnf
        refine ⟨[0, 1, 2, 3], _, _, rfl, rfl, ?_, ?_, rfl, .inl rfl⟩
        · (repeat' first | exact trivial | exact rfl | exact sh0 rfl | exact Nat.le_refl _ | exact .inl shA | exact .inr ⟨rfl, rfl, rfl, rfl, rfl⟩ | exact .inl shB | exact fun h => h | refine ⟨?_, ?_, ?_, .inl ?_⟩ | refine ⟨?_, ?_⟩ | refine fun ii hii => ?_ | omega | fail)
        · (repeat' first | exact trivial | exact rfl | exact sh0 rfl | exact Nat.le_refl _ | exact .inl shA | exact .inr ⟨rfl, rfl, rfl, rfl, rfl⟩ | exact .inl shB | exact fun h => h | refine ⟨?_, ?_, ?_, .inl ?_⟩ | refine ⟨?_, ?_⟩ | refine fun ii hii => ?_ | omega | fail)
      have hap2 := (hstep hin).trans (if_pos he)
      obtain ⟨g1, g2, g3, g4⟩ := wrE_ok he
      obtain ⟨kk, hkk, h5⟩ := hasB_nat g2
      have hiz := Inv_wrD hiy ((L.first + (L.next + i) : Nat) : Int) (toS (apS L l n i)) 64 (by omega)
      have ey : wrD y ((L.first + (L.next + i) : Nat) : Int) (toS (apS L l n i)) 64 = wrS (went y) (L.first + (L.next + i)) (toS (apS L l n i)) 64 := by unfold Dk.wrD; rw [if_pos he, Int.toNat_natCast]
      refine LCalls.use (rWrite_ok y (L.first + (L.next + i)) (toS (apS L l n i)) 64 g1 (by rw [hiy.len]; omega) g3 g4 (by omega)) [0, 1, 2] rfl rfl ⟨rfl, rfl, rfl, trivial⟩ ?_
      rintro _ _ ⟨rfl, rfl⟩
      rw [ey] at hap2 hw hiz
      obtain ⟨v, hv⟩ : ∃ v, v = wrS (went y) (L.first + (L.next + i)) (toS (apS L l n i)) 64 := ⟨_, rfl⟩
      rw [← hv] at hap2 hw hiz ⊢
      conv => whnf
      refine ⟨_, _, _, ?_, ⟨[], trivial, [0, 1, 2, 3, 45], rfl, rfl, ?_, ?_⟩, i + 1, v, by omega, hiz, hap2.trans (by rw [Nat.sub_sub]), by omega, rfl, rfl, .inr ⟨by omega, rfl⟩⟩
      · omega
      · (repeat' first | exact trivial | exact rfl | exact sh0 rfl | exact Nat.le_refl _ | exact .inl shA | exact .inr ⟨rfl, rfl, rfl, rfl, rfl⟩ | exact .inl shB | exact fun h => h | refine ⟨?_, ?_, ?_, .inl ?_⟩ | refine ⟨?_, ?_⟩ | refine fun ii hii => ?_ | omega | fail)
        all_goals exact w64 (by omega)
      · (repeat' first | exact trivial | exact rfl | exact sh0 rfl | exact Nat.le_refl _ | exact .inl shA | exact .inr ⟨rfl, rfl, rfl, rfl, rfl⟩ | exact .inl shB | exact fun h => h | refine ⟨?_, ?_, ?_, .inl ?_⟩ | refine ⟨?_, ?_⟩ | refine fun ii hii => ?_ | omega | fail)
  · unfold lgB
    conv => whnf
    by_cases hin : i < n
    · rewrite [show decide ((i : Int) < (n : Int)) = true from decide_eq_true (by omega)]
      have hmul : IntKind.i64.wrap (48 * (i : Int)) = ((48 * i : Nat) : Int) := by rw [w64 (by omega)]; omega
      have hmul2 : IntKind.i64.wrap (((48 * i : Nat) : Int) + 48) = ((48 * (i + 1) : Nat) : Int) := by rw [w64 (by omega)]; omega
      have hpl : IntKind.i64.wrap ((L.next : Int) + (i : Int)) = ((L.next + i : Nat) : Int) := by rw [w64 (by omega)]; omega
      have hfp1 : IntKind.i64.wrap ((L.first : Int) + (L.next : Int)) = ((L.first + L.next : Nat) : Int) := by rw [w64 (by omega)]; omega
      have hfp : IntKind.i64.wrap (((L.first + L.next : Nat) : Int) + (i : Int)) = ((L.first + (L.next + i) : Nat) : Int) := by rw [w64 (by omega)]; omega
      conv => whnf
      rewrite [show ((i : Int) == 0) = false from beq_eq_false_iff_ne.2 (by omega)]
      conv => whnf
      rewrite [w64 (n := (n : Int) - 1) (by omega)]
      by_cases c1 : i + 1 = n
      · rewrite [show ((i : Int) == (n : Int) - 1) = true from beq_iff_eq.2 (by omega)]
        conv => whnf
        have hfl : flg i n = 2 := by unfold flg; rw [if_neg (by omega), if_pos c1]
        rewrite [hmul, hmul2, bs_size, hmin]
        refine ⟨by omega, ?_⟩
        rewrite [Int.toNat_natCast]
        conv => whnf
        refine ⟨by omega, ?_⟩
        rewrite [Int.toNat_natCast]
        conv => whnf
        refine ⟨⟨by omega, by omega⟩, ?_⟩
        rewrite [bs_extract, hchk]
        conv => whnf
        rewrite [hpl]
        refine .inr ⟨_, [(45, none)], [45], ⟨⟨_, _, _, _, MadeS L.epoch L.life ((L.next + i : Nat) : Int) 2 (chunk l i) k3 k4 (by omega) (by omega), fun _ => rfl, fun _ => rfl, rfl, fun _ => ⟨rfl, trivial⟩, rfl, rfl, fun _ => rfl⟩⟩, ?_⟩; conv => whnf
        have hS : apS L l n i = enc L.epoch L.life ((L.next + i : Nat) : Int).toNat (((2 : Int) % 256).toNat) (chunk l i).length (chunk l i) := by unfold apS; rw [hfl, Int.toNat_natCast]; rfl
        rewrite [← hS, hfp1, hfp]
        have hw := wrD_pend y ((L.first + (L.next + i) : Nat) : Int) (toS (apS L l n i)) 64
        by_cases he : wrE y ((L.first + (L.next + i) : Nat) : Int) 64 = 0
        case neg =>
          have hap2 := (hstep hin).trans (if_neg he)
          rw [hap2]
          dsimp only
          rw [if_neg he]
          have ey : wrD y ((L.first + (L.next + i) : Nat) : Int) (toS (apS L l n i)) 64 = wrN y ((L.first + (L.next + i) : Nat) : Int) 64 := by unfold Dk.wrD; rw [if_neg he]
          rw [ey]
          refine LCalls.use (rWrite_no y hiy.len ((L.first + (L.next + i) : Nat) : Int) (toS (apS L l n i)) 64 he) [0, 1, 4] rfl rfl ⟨rfl, rfl, rfl, trivial⟩ ?_
          rintro _ _ ⟨rfl, rfl⟩
          conv => whnf
          rewrite [show (wrE y ((L.first + (L.next + i) : Nat) : Int) 64 != 0) = true from bne_iff_ne.2 he]
          conv => whnf
          refine ⟨[0, 1, 2, 3, 4], _, _, rfl, rfl, ?_, ?_, rfl, .inr rfl⟩
          · (repeat' first | exact trivial | exact rfl | exact sh0 rfl | exact Nat.le_refl _ | exact .inl shA | exact .inr ⟨rfl, rfl, rfl, rfl, rfl⟩ | exact .inl shB | exact fun h => h | refine ⟨?_, ?_, ?_, .inl ?_⟩ | refine ⟨?_, ?_⟩ | refine fun ii hii => ?_ | omega | fail)
          · (repeat' first | exact trivial | exact rfl | exact sh0 rfl | exact Nat.le_refl _ | exact .inl shA | exact .inr ⟨rfl, rfl, rfl, rfl, rfl⟩ | exact .inl shB | exact fun h => h | refine ⟨?_, ?_, ?_, .inl ?_⟩ | refine ⟨?_, ?_⟩ | refine fun ii hii => ?_ | omega | fail)
        have hap2 := (hstep hin).trans (if_pos he)
        obtain ⟨g1, g2, g3, g4⟩ := wrE_ok he
        obtain ⟨kk, hkk, h5⟩ := hasB_nat g2
        have hiz := Inv_wrD hiy ((L.first + (L.next + i) : Nat) : Int) (toS (apS L l n i)) 64 (by omega)
        have ey : wrD y ((L.first + (L.next + i) : Nat) : Int) (toS (apS L l n i)) 64 = wrS (went y) (L.first + (L.next + i)) (toS (apS L l n i)) 64 := by unfold Dk.wrD; rw [if_pos he, Int.toNat_natCast]
        refine LCalls.use (rWrite_ok y (L.first + (L.next + i)) (toS (apS L l n i)) 64 g1 (by rw [hiy.len]; omega) g3 g4 (by omega)) [0, 1, 4] rfl rfl ⟨rfl, rfl, rfl, trivial⟩ ?_
        rintro _ _ ⟨rfl, rfl⟩
        rw [ey] at hap2 hw hiz
        obtain ⟨v, hv⟩ : ∃ v, v = wrS (went y) (L.first + (L.next + i)) (toS (apS L l n i)) 64 := ⟨_, rfl⟩
        rw [← hv] at hap2 hw hiz ⊢
        conv => whnf
        refine ⟨_, _, _, ?_, ⟨[], trivial, [0, 1, 2, 3, 46], rfl, rfl, ?_, ?_⟩, i + 1, v, by omega, hiz, hap2.trans (by rw [Nat.sub_sub]), by omega, rfl, rfl, .inr ⟨by omega, rfl⟩⟩
        · omega
        · (repeat' first | exact trivial | exact rfl | exact sh0 rfl | exact Nat.le_refl _ | exact .inl shA | exact .inr ⟨rfl, rfl, rfl, rfl, rfl⟩ | exact .inl shB | exact fun h => h | refine ⟨?_, ?_, ?_, .inl ?_⟩ | refine ⟨?_, ?_⟩ | refine fun ii hii => ?_ | omega | fail)
          all_goals exact w64 (by omega)
        · (repeat' first | exact trivial | exact rfl | exact sh0 rfl | exact Nat.le_refl _ | exact .inl shA | exact .inr ⟨rfl, rfl, rfl, rfl, rfl⟩ | exact .inl shB | exact fun h => h | refine ⟨?_, ?_, ?_, .inl ?_⟩ | refine ⟨?_, ?_⟩ | refine fun ii hii => ?_ | omega | fail)
      · rewrite [show ((i : Int) == (n : Int) - 1) = false from beq_eq_false_iff_ne.2 (by omega)]
        conv => whnf
        have hfl : flg i n = 0 := by unfold flg; rw [if_neg (by omega), if_neg c1]
        rewrite [hmul, hmul2, bs_size, hmin]
        refine ⟨by omega, ?_⟩
        rewrite [Int.toNat_natCast]
        conv => whnf
        refine ⟨by omega, ?_⟩
        rewrite [Int.toNat_natCast]
        conv => whnf
        refine ⟨⟨by omega, by omega⟩, ?_⟩
        rewrite [bs_extract, hchk]
        conv => whnf
        rewrite [hpl]
        refine .inr ⟨_, [(45, none)], [45], ⟨⟨_, _, _, _, MadeS L.epoch L.life ((L.next + i : Nat) : Int) 0 (chunk l i) k3 k4 (by omega) (by omega), fun _ => rfl, fun _ => rfl, rfl, fun _ => ⟨rfl, trivial⟩, rfl, rfl, fun _ => rfl⟩⟩, ?_⟩; conv => whnf
        have hS : apS L l n i = enc L.epoch L.life ((L.next + i : Nat) : Int).toNat (((0 : Int) % 256).toNat) (chunk l i).length (chunk l i) := by unfold apS; rw [hfl, Int.toNat_natCast]; rfl
        rewrite [← hS, hfp1, hfp]
        have hw := wrD_pend y ((L.first + (L.next + i) : Nat) : Int) (toS (apS L l n i)) 64
        by_cases he : wrE y ((L.first + (L.next + i) : Nat) : Int) 64 = 0
        case neg =>
          have hap2 := (hstep hin).trans (if_neg he)
          rw [hap2]
          dsimp only
          rw [if_neg he]
          have ey : wrD y ((L.first + (L.next + i) : Nat) : Int) (toS (apS L l n i)) 64 = wrN y ((L.first + (L.next + i) : Nat) : Int) 64 := by unfold Dk.wrD; rw [if_neg he]
          rw [ey]
          refine LCalls.use (rWrite_no y hiy.len ((L.first + (L.next + i) : Nat) : Int) (toS (apS L l n i)) 64 he) [0, 1, 4] rfl rfl ⟨rfl, rfl, rfl, trivial⟩ ?_
          rintro _ _ ⟨rfl, rfl⟩
          conv => whnf
          rewrite [show (wrE y ((L.first + (L.next + i) : Nat) : Int) 64 != 0) = true from bne_iff_ne.2 he]
          conv => whnf
          refine ⟨[0, 1, 2, 3, 4], _, _, rfl, rfl, ?_, ?_, rfl, .inr rfl⟩
          · (repeat' first | exact trivial | exact rfl | exact sh0 rfl | exact Nat.le_refl _ | exact .inl shA | exact .inr ⟨rfl, rfl, rfl, rfl, rfl⟩ | exact .inl shB | exact fun h => h | refine ⟨?_, ?_, ?_, .inl ?_⟩ | refine ⟨?_, ?_⟩ | refine fun ii hii => ?_ | omega | fail)
          · (repeat' first | exact trivial | exact rfl | exact sh0 rfl | exact Nat.le_refl _ | exact .inl shA | exact .inr ⟨rfl, rfl, rfl, rfl, rfl⟩ | exact .inl shB | exact fun h => h | refine ⟨?_, ?_, ?_, .inl ?_⟩ | refine ⟨?_, ?_⟩ | refine fun ii hii => ?_ | omega | fail)
        have hap2 := (hstep hin).trans (if_pos he)
        obtain ⟨g1, g2, g3, g4⟩ := wrE_ok he
        obtain ⟨kk, hkk, h5⟩ := hasB_nat g2
        have hiz := Inv_wrD hiy ((L.first + (L.next + i) : Nat) : Int) (toS (apS L l n i)) 64 (by omega)
        have ey : wrD y ((L.first + (L.next + i) : Nat) : Int) (toS (apS L l n i)) 64 = wrS (went y) (L.first + (L.next + i)) (toS (apS L l n i)) 64 := by unfold Dk.wrD; rw [if_pos he, Int.toNat_natCast]
        refine LCalls.use (rWrite_ok y (L.first + (L.next + i)) (toS (apS L l n i)) 64 g1 (by rw [hiy.len]; omega) g3 g4 (by omega)) [0, 1, 4] rfl rfl ⟨rfl, rfl, rfl, trivial⟩ ?_
        rintro _ _ ⟨rfl, rfl⟩
        rw [ey] at hap2 hw hiz
        obtain ⟨v, hv⟩ : ∃ v, v = wrS (went y) (L.first + (L.next + i)) (toS (apS L l n i)) 64 := ⟨_, rfl⟩
        rw [← hv] at hap2 hw hiz ⊢
        conv => whnf
        refine ⟨_, _, _, ?_, ⟨[], trivial, [0, 1, 2, 3, 46], rfl, rfl, ?_, ?_⟩, i + 1, v, by omega, hiz, hap2.trans (by rw [Nat.sub_sub]), by omega, rfl, rfl, .inr ⟨by omega, rfl⟩⟩
        · omega
        · (repeat' first | exact trivial | exact rfl | exact sh0 rfl | exact Nat.le_refl _ | exact .inl shA | exact .inr ⟨rfl, rfl, rfl, rfl, rfl⟩ | exact .inl shB | exact fun h => h | refine ⟨?_, ?_, ?_, .inl ?_⟩ | refine ⟨?_, ?_⟩ | refine fun ii hii => ?_ | omega | fail)
          all_goals exact w64 (by omega)
        · (repeat' first | exact trivial | exact rfl | exact sh0 rfl | exact Nat.le_refl _ | exact .inl shA | exact .inr ⟨rfl, rfl, rfl, rfl, rfl⟩ | exact .inl shB | exact fun h => h | refine ⟨?_, ?_, ?_, .inl ?_⟩ | refine ⟨?_, ?_⟩ | refine fun ii hii => ?_ | omega | fail)
    · rewrite [show decide ((i : Int) < (n : Int)) = false from decide_eq_false (by omega)]
      obtain rfl : i = n := by omega
      rw [Nat.sub_self, apW]
      dsimp only
      rw [if_pos rfl]
      conv => whnf
      rewrite [w64 (n := (L.next : Int) + (i : Int)) (by omega), show (L.next : Int) + (i : Int) = ((L.next + i : Nat) : Int) by omega]
      conv => whnf
      refine ⟨[0, 1, 2, 3, 4], _, _, rfl, rfl, ?_, ?_, rfl, .inr rfl⟩
      · (repeat' first | exact trivial | exact rfl | exact sh0 rfl | exact Nat.le_refl _ | exact .inl shA | exact .inr ⟨rfl, rfl, rfl, rfl, rfl⟩ | exact .inl shB | exact fun h => h | refine ⟨?_, ?_, ?_, .inl ?_⟩ | refine ⟨?_, ?_⟩ | refine fun ii hii => ?_ | omega | fail)
      · (repeat' first | exact trivial | exact rfl | exact sh0 rfl | exact Nat.le_refl _ | exact .inl shA | exact .inr ⟨rfl, rfl, rfl, rfl, rfl⟩ | exact .inl shB | exact fun h => h | refine ⟨?_, ?_, ?_, .inl ?_⟩ | refine ⟨?_, ?_⟩ | refine fun ii hii => ?_ | omega | fail)
end Go.Proofs.Ytilmfhpoiejmfaa.Gk
