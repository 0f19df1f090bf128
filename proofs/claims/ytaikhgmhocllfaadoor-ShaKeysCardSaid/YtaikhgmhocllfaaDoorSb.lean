/- Digests on the heap of the mind: padded bytes. By this session. -/
import Derived.Test.YtaikhgmhocllfaaDoorSa
namespace Go.Proofs.YtaikhgmhocllfaaDoor.Sk
open Go.Proofs.YtaikhgmhocllfaaDoor.Lh Go.RowKit Go.Proofs.YtaikhgmhocllfaaDoor.Sp
set_option maxRecDepth 100000
set_option linter.unusedSimpArgs false
set_option linter.unusedSectionVars false
set_option linter.unusedVariables false
variable [Fz]
def bySeg (l : Sp.Bs) (i : Nat) : Segs := .one (.int .u8 ((l.getD i 0).toNat : Int)) .nil
def bysV (l : Sp.Bs) : LVal := .rsl l.length 1 (bySeg l)
def arrB (l : Sp.Bs) : Option LObj := some ⟨.rows l.length 1 (bySeg l) .nil, 5, true, false⟩
theorem sh_ite {k : Nat} {F : Fzl} {p : Prop} [Decidable p] {x y z : Segs} (hx : p → shS k F x z) (hy : ¬ p → shS k F y z) : shS k F (if p then x else y) z := by
  by_cases h : p
  · rw [if_pos h]; exact hx h
  · rw [if_neg h]; exact hy h
theorem by_app {K : Nat} {F : Fzl} {g : Nat → Nat} {l : Sp.Bs} {v : UInt8} {n : Int} {ii : Nat} {X : Segs} (hn : n = (v.toNat : Int)) (hii : ii < l.length + 1) : shS K F (if ii < l.length then bySeg l (0 + ii) else (if 0 + (ii - l.length) = 0 then .one (.int .u8 n) .nil else X)) (renS g (bySeg (l ++ [v]) ii)) := by
  refine sh_ite (fun c => ⟨⟨rfl, by rw [Nat.zero_add, List.getD_eq_getElem?_getD, List.getD_eq_getElem?_getD, List.getElem?_append_left c]⟩, trivial⟩) (fun c => ?_)
  obtain rfl : ii = l.length := by omega
  exact sh_ite (fun _ => ⟨⟨rfl, by rw [hn, List.getD_eq_getElem?_getD, List.getElem?_append_right (Nat.le_refl _)]; simp⟩, trivial⟩) (fun c2 => absurd (by omega) c2)
theorem by_app0 {K : Nat} {F : Fzl} {g : Nat → Nat} {l : Sp.Bs} {v : UInt8} {ii : Nat} {X Y : Segs} (hii : ii < l.length + 1) : shS K F (if ii < 0 + l.length then (if 0 + ii < 0 then X else bySeg l (0 + ii - 0)) else (if 0 + (ii - (0 + l.length)) = 0 then .one (.int .u8 (v.toNat : Int)) .nil else Y)) (renS g (bySeg (l ++ [v] ++ List.replicate 0 0) ii)) := by
  rw [List.replicate_zero, List.append_nil]
  refine sh_ite (fun c => sh_ite (fun c2 => absurd c2 (Nat.not_lt_zero _)) (fun _ => ⟨⟨rfl, by rw [Nat.zero_add, Nat.sub_zero, List.getD_eq_getElem?_getD, List.getD_eq_getElem?_getD, List.getElem?_append_left (by omega)]⟩, trivial⟩)) (fun c => ?_)
  obtain rfl : ii = l.length := by omega
  exact sh_ite (fun _ => ⟨⟨rfl, by rw [List.getD_eq_getElem?_getD, List.getElem?_append_right (Nat.le_refl _)]; simp⟩, trivial⟩) (fun c2 => absurd (by omega) c2)
theorem zeros_fit (n j : Nat) (h : j ≤ zerosN n) : (n + 1 + j) % 64 = 56 ↔ j = zerosN n := by
  unfold zerosN at *
  omega
theorem be8_take {n k : Nat} (hk : k < 8) : (be8 n).take (k + 1) = (be8 n).take k ++ [UInt8.ofNat (n / 256 ^ (7 - k))] := by
  rw [List.take_add_one]
  congr 1
  unfold be8
  rw [List.getElem?_map, List.getElem?_range hk]
  rfl
theorem byteK (k : Nat) (hk : k < 8) (n : Nat) : IntKind.u8.wrap (((n : Int)).fdiv (2 ^ min (8 * (7 - (k : Int))).toNat IntKind.u64.bits)) = ((UInt8.ofNat (n / 256 ^ (7 - k))).toNat : Int) := by
  have e1 : min (8 * (7 - (k : Int))).toNat IntKind.u64.bits = 8 * (7 - k) := by
    rw [show (8 * (7 - (k : Int))).toNat = 8 * (7 - k) by omega]
    exact Nat.min_eq_left (by show 8 * (7 - k) ≤ 64; omega)
  have e2 : ((2 : Int) ^ (8 * (7 - k))) = ((256 ^ (7 - k) : Nat) : Int) := by rw [Int.pow_mul]; norm_cast
  rw [e1, e2, Int.fdiv_eq_ediv_of_nonneg _ (Int.natCast_nonneg _), ← Int.natCast_ediv]
  generalize n / 256 ^ (7 - k) = m
  rw [UInt8.toNat_ofNat']
  simp [IntKind.wrap, IntKind.bits, IntKind.signed]
theorem Padded (b : Sp.Bs) (hb : b.length ≤ 1073741824) : LCalls Tryd.prog 34 (.cons (bysV b) .nil) [] (fun e h' => e = .ret (bysV (padded b)) ∧ h' = []) := by
  unfold bysV
  refine LCalls.tellF ?_
  refine enter34 rfl ?_
  conv => whnf
  refine ⟨⟨by omega, by omega, by omega⟩, ?_⟩
  conv => whnf
  refine ⟨Nat.le_refl 1, ?_⟩
  conv => whnf
  refine ⟨⟨by omega, by omega, by omega⟩, ?_⟩
  conv => whnf
  refine Loop.inv (lwp_mono _) (fun m t1 h => ∃ (j : Nat), j ≤ zerosN b.length ∧ m = zerosN b.length - j ∧ t1 = [.rsl b.length 1 (bySeg b), .any, .any, .slice ⟨0, [], 0⟩ 0 1 (b ++ [128] ++ List.replicate j 0).length (b ++ [128] ++ List.replicate j 0).length none, .any, .any, .any, .any, .any, .any, .any, .any, .any, .any, .any, .any, .any, .any, .any, .any, .any, .any, .any, .any, .any, .any, .any, .any, .any, .any, .any, .any, .any, .any, .any, .any] ∧ h = [arrB (b ++ [128] ++ List.replicate j 0)]) ?_ ?_
  · have hl0 : (b ++ [128] ++ List.replicate 0 (0 : UInt8)).length = 0 + b.length + 1 := by simp
    refine ⟨_, _, _, ⟨[], trivial, [3], rfl, rfl, ?_, ?_⟩, 0, Nat.zero_le _, rfl, rfl, rfl⟩
    · rewrite [hl0]
      (repeat' first | exact trivial | exact rfl | exact Nat.le_of_ble_eq_true rfl | exact Nat.le_refl _ | exact .inl ⟨rfl, rfl, rfl, rfl, Nat.le_refl _, Nat.le_refl _, .inr rfl, Nat.le_of_ble_eq_true rfl⟩ | exact .inl ⟨rfl, rfl, rfl, rfl, Nat.le_refl _, Nat.le_refl _, .inl rfl, Nat.le_of_ble_eq_true rfl⟩ | exact .inr ⟨rfl, rfl, rfl, rfl, rfl⟩ | exact .inl ⟨rfl, rfl, rfl, (by first | omega | (simp; done) | (simp; omega)), (by first | omega | (simp; done) | (simp; omega)), (by first | omega | (simp; done) | (simp; omega)), .inr rfl, Nat.le_of_ble_eq_true rfl⟩ | exact .inl ⟨rfl, rfl, rfl, (by first | omega | (simp; done) | (simp; omega)), (by first | omega | (simp; done) | (simp; omega)), (by first | omega | (simp; done) | (simp; omega)), .inl rfl, Nat.le_of_ble_eq_true rfl⟩ | exact fun h => h | refine ⟨?_, ?_, ?_, .inl ?_⟩ | refine ⟨?_, ?_⟩ | refine fun ii hii => ?_ | omega | fail)
    · unfold arrB
      rewrite [hl0]
      (repeat' first | exact trivial | exact rfl | exact Nat.le_of_ble_eq_true rfl | exact Nat.le_refl _ | exact .inl ⟨rfl, rfl, rfl, rfl, Nat.le_refl _, Nat.le_refl _, .inr rfl, Nat.le_of_ble_eq_true rfl⟩ | exact .inl ⟨rfl, rfl, rfl, rfl, Nat.le_refl _, Nat.le_refl _, .inl rfl, Nat.le_of_ble_eq_true rfl⟩ | exact .inr ⟨rfl, rfl, rfl, rfl, rfl⟩ | exact .inl ⟨rfl, rfl, rfl, (by first | omega | (simp; done) | (simp; omega)), (by first | omega | (simp; done) | (simp; omega)), (by first | omega | (simp; done) | (simp; omega)), .inr rfl, Nat.le_of_ble_eq_true rfl⟩ | exact .inl ⟨rfl, rfl, rfl, (by first | omega | (simp; done) | (simp; omega)), (by first | omega | (simp; done) | (simp; omega)), (by first | omega | (simp; done) | (simp; omega)), .inl rfl, Nat.le_of_ble_eq_true rfl⟩ | exact fun h => h | refine ⟨?_, ?_, ?_, .inl ?_⟩ | refine ⟨?_, ?_⟩ | refine fun ii hii => ?_ | omega | fail)
      have hii : ii < 0 + b.length + 1 := hii
      exact by_app0 (l := b) (v := 128) (by omega)
  · rintro m _ _ ⟨j, hj, rfl, rfl, rfl⟩
    have hlj : (b ++ [128] ++ List.replicate j (0 : UInt8)).length = b.length + 1 + j := by simp; omega
    have hz := zeros_fit b.length j hj
    have hz2 : zerosN b.length < 64 := by unfold zerosN; omega
    conv => whnf
    refine ⟨by decide, ?_⟩
    rewrite [hlj, show (((b.length + 1 + j : Nat) : Int)).tmod 64 = (((b.length + 1 + j) % 64 : Nat) : Int) from rfl]
    conv => whnf
    by_cases hc : j = zerosN b.length
    · rewrite [show ((((b.length + 1 + j) % 64 : Nat) : Int) != 56) = false by rw [show (b.length + 1 + j) % 64 = 56 from hz.2 hc]; rfl]
      conv => whnf
      subst hc
      generalize hP : b ++ [128] ++ List.replicate (zerosN b.length) (0 : UInt8) = P at *
      refine Loop.inv (lwp_mono _) (fun m t1 h => ∃ (k : Nat), k ≤ 8 ∧ m = 8 - k ∧ t1 = [.rsl b.length 1 (bySeg b), .any, .any, .slice ⟨0, [], 0⟩ 0 1 (P ++ (be8 (b.length * 8)).take k).length (P ++ (be8 (b.length * 8)).take k).length none, .int .u64 ((b.length * 8 : Nat) : Int), .int .i64 (7 - (k : Int)), .any, .any, .any, .any, .any, .any, .any, .any, .any, .any, .any, .any, .any, .any, .any, .any, .any, .any, .any, .any, .any, .any, .any, .any, .any, .any, .any, .any, .any, .any] ∧ h = [arrB (P ++ (be8 (b.length * 8)).take k)]) ?_ ?_
      · refine ⟨_, _, _, ⟨[], trivial, [0], rfl, rfl, ?_, ?_⟩, 0, Nat.zero_le _, rfl, rfl, rfl⟩
        · rewrite [List.take_zero, List.append_nil, hlj]
          (repeat' first | exact trivial | exact rfl | exact Nat.le_of_ble_eq_true rfl | exact Nat.le_refl _ | exact .inl ⟨rfl, rfl, rfl, rfl, Nat.le_refl _, Nat.le_refl _, .inr rfl, Nat.le_of_ble_eq_true rfl⟩ | exact .inl ⟨rfl, rfl, rfl, rfl, Nat.le_refl _, Nat.le_refl _, .inl rfl, Nat.le_of_ble_eq_true rfl⟩ | exact .inr ⟨rfl, rfl, rfl, rfl, rfl⟩ | exact .inl ⟨rfl, rfl, rfl, (by first | omega | (simp; done) | (simp; omega)), (by first | omega | (simp; done) | (simp; omega)), (by first | omega | (simp; done) | (simp; omega)), .inr rfl, Nat.le_of_ble_eq_true rfl⟩ | exact .inl ⟨rfl, rfl, rfl, (by first | omega | (simp; done) | (simp; omega)), (by first | omega | (simp; done) | (simp; omega)), (by first | omega | (simp; done) | (simp; omega)), .inl rfl, Nat.le_of_ble_eq_true rfl⟩ | exact fun h => h | refine ⟨?_, ?_, ?_, .inl ?_⟩ | refine ⟨?_, ?_⟩ | refine fun ii hii => ?_ | omega | fail)
          all_goals exact (by rw [wrapN (n := b.length) (by omega), show ((b.length : Int)) * 8 = ((b.length * 8 : Nat) : Int) by omega, wrapN (by omega)])
        · rewrite [List.take_zero, List.append_nil]
          unfold arrB
          rewrite [hlj]
          (repeat' first | exact trivial | exact rfl | exact Nat.le_of_ble_eq_true rfl | exact Nat.le_refl _ | exact .inl ⟨rfl, rfl, rfl, rfl, Nat.le_refl _, Nat.le_refl _, .inr rfl, Nat.le_of_ble_eq_true rfl⟩ | exact .inl ⟨rfl, rfl, rfl, rfl, Nat.le_refl _, Nat.le_refl _, .inl rfl, Nat.le_of_ble_eq_true rfl⟩ | exact .inr ⟨rfl, rfl, rfl, rfl, rfl⟩ | exact .inl ⟨rfl, rfl, rfl, (by first | omega | (simp; done) | (simp; omega)), (by first | omega | (simp; done) | (simp; omega)), (by first | omega | (simp; done) | (simp; omega)), .inr rfl, Nat.le_of_ble_eq_true rfl⟩ | exact .inl ⟨rfl, rfl, rfl, (by first | omega | (simp; done) | (simp; omega)), (by first | omega | (simp; done) | (simp; omega)), (by first | omega | (simp; done) | (simp; omega)), .inl rfl, Nat.le_of_ble_eq_true rfl⟩ | exact fun h => h | refine ⟨?_, ?_, ?_, .inl ?_⟩ | refine ⟨?_, ?_⟩ | refine fun ii hii => ?_ | omega | fail)
          all_goals done
      · rintro m _ _ ⟨k, hk, rfl, rfl, rfl⟩
        conv => whnf
        by_cases hk8 : k < 8
        · rewrite [show decide (7 - (k : Int) ≥ 0) = true from decide_eq_true (by omega)]
          conv => whnf
          rewrite [wrapI (n := 8 * (7 - (k : Int))) (by omega)]
          refine ⟨by omega, ?_⟩
          conv => whnf
          rewrite [byteK k hk8 (b.length * 8)]
          refine ⟨Nat.le_refl 1, ?_⟩
          conv => whnf
          have hlk : (P ++ (be8 (b.length * 8)).take k).length ≤ 1073745000 := by rw [List.length_append, List.length_take, hlj]; omega
          refine ⟨⟨by omega, by omega, by omega⟩, ?_⟩
          conv => whnf
          rewrite [wrapI (n := 7 - (k : Int) - 1) (by omega), show 7 - (k : Int) - 1 = 7 - ((k + 1 : Nat) : Int) by omega]
          have hrep : P ++ (be8 (b.length * 8)).take (k + 1) = (P ++ (be8 (b.length * 8)).take k) ++ [UInt8.ofNat (b.length * 8 / 256 ^ (7 - k))] := by
            rw [List.append_assoc, be8_take hk8]
          refine ⟨_, _, _, ?_, ⟨[], trivial, [2], rfl, rfl, ?_, ?_⟩, k + 1, by omega, rfl, rfl, rfl⟩
          · omega
          · rewrite [hrep]
            (repeat' first | exact trivial | exact rfl | exact Nat.le_of_ble_eq_true rfl | exact Nat.le_refl _ | exact .inl ⟨rfl, rfl, rfl, rfl, Nat.le_refl _, Nat.le_refl _, .inr rfl, Nat.le_of_ble_eq_true rfl⟩ | exact .inl ⟨rfl, rfl, rfl, rfl, Nat.le_refl _, Nat.le_refl _, .inl rfl, Nat.le_of_ble_eq_true rfl⟩ | exact .inr ⟨rfl, rfl, rfl, rfl, rfl⟩ | exact .inl ⟨rfl, rfl, rfl, (by first | omega | (simp; done) | (simp; omega)), (by first | omega | (simp; done) | (simp; omega)), (by first | omega | (simp; done) | (simp; omega)), .inr rfl, Nat.le_of_ble_eq_true rfl⟩ | exact .inl ⟨rfl, rfl, rfl, (by first | omega | (simp; done) | (simp; omega)), (by first | omega | (simp; done) | (simp; omega)), (by first | omega | (simp; done) | (simp; omega)), .inl rfl, Nat.le_of_ble_eq_true rfl⟩ | exact fun h => h | refine ⟨?_, ?_, ?_, .inl ?_⟩ | refine ⟨?_, ?_⟩ | refine fun ii hii => ?_ | omega | fail)
            all_goals exact (by simp only [List.length_append, List.length_singleton])
          · rewrite [hrep]
            (repeat' first | exact trivial | exact rfl | exact Nat.le_of_ble_eq_true rfl | exact Nat.le_refl _ | exact .inl ⟨rfl, rfl, rfl, rfl, Nat.le_refl _, Nat.le_refl _, .inr rfl, Nat.le_of_ble_eq_true rfl⟩ | exact .inl ⟨rfl, rfl, rfl, rfl, Nat.le_refl _, Nat.le_refl _, .inl rfl, Nat.le_of_ble_eq_true rfl⟩ | exact .inr ⟨rfl, rfl, rfl, rfl, rfl⟩ | exact .inl ⟨rfl, rfl, rfl, (by first | omega | (simp; done) | (simp; omega)), (by first | omega | (simp; done) | (simp; omega)), (by first | omega | (simp; done) | (simp; omega)), .inr rfl, Nat.le_of_ble_eq_true rfl⟩ | exact .inl ⟨rfl, rfl, rfl, (by first | omega | (simp; done) | (simp; omega)), (by first | omega | (simp; done) | (simp; omega)), (by first | omega | (simp; done) | (simp; omega)), .inl rfl, Nat.le_of_ble_eq_true rfl⟩ | exact fun h => h | refine ⟨?_, ?_, ?_, .inl ?_⟩ | refine ⟨?_, ?_⟩ | refine fun ii hii => ?_ | omega | fail)
            all_goals first
              | exact by_app rfl hii
              | (simp only [List.length_append, List.length_singleton]; done)
        · rewrite [show decide (7 - (k : Int) ≥ 0) = false from decide_eq_false (by omega)]
          obtain rfl : k = 8 := by omega
          have hpd : P ++ (be8 (b.length * 8)).take 8 = padded b := by
            rw [← hP, List.take_of_length_le (by simp [be8])]; rfl
          rewrite [hpd]
          conv => whnf
          refine ⟨[(0, (padded b).length, 1, bySeg (padded b))], ⟨⟨rfl, Nat.le_refl _, rfl, fun i hi => ⟨⟨rfl, rfl⟩, trivial⟩⟩, rfl, trivial⟩, [], _, _, rfl, rfl, ?_, ?_, rfl, rfl⟩
          · (repeat' first | exact trivial | exact rfl | exact Nat.le_of_ble_eq_true rfl | exact Nat.le_refl _ | exact .inl ⟨rfl, rfl, rfl, rfl, Nat.le_refl _, Nat.le_refl _, .inr rfl, Nat.le_of_ble_eq_true rfl⟩ | exact .inl ⟨rfl, rfl, rfl, rfl, Nat.le_refl _, Nat.le_refl _, .inl rfl, Nat.le_of_ble_eq_true rfl⟩ | exact .inr ⟨rfl, rfl, rfl, rfl, rfl⟩ | exact .inl ⟨rfl, rfl, rfl, (by first | omega | (simp; done) | (simp; omega)), (by first | omega | (simp; done) | (simp; omega)), (by first | omega | (simp; done) | (simp; omega)), .inr rfl, Nat.le_of_ble_eq_true rfl⟩ | exact .inl ⟨rfl, rfl, rfl, (by first | omega | (simp; done) | (simp; omega)), (by first | omega | (simp; done) | (simp; omega)), (by first | omega | (simp; done) | (simp; omega)), .inl rfl, Nat.le_of_ble_eq_true rfl⟩ | exact fun h => h | refine ⟨?_, ?_, ?_, .inl ?_⟩ | refine ⟨?_, ?_⟩ | refine fun ii hii => ?_ | omega | fail)
            exact .inr ⟨rfl, rfl, rfl, rfl, rfl, by simp, fun i hi => by show bySeg (padded b) (offs 0 i) = bySeg (padded b) i; rfl⟩
          · (repeat' first | exact trivial | exact rfl | exact Nat.le_of_ble_eq_true rfl | exact Nat.le_refl _ | exact .inl ⟨rfl, rfl, rfl, rfl, Nat.le_refl _, Nat.le_refl _, .inr rfl, Nat.le_of_ble_eq_true rfl⟩ | exact .inl ⟨rfl, rfl, rfl, rfl, Nat.le_refl _, Nat.le_refl _, .inl rfl, Nat.le_of_ble_eq_true rfl⟩ | exact .inr ⟨rfl, rfl, rfl, rfl, rfl⟩ | exact .inl ⟨rfl, rfl, rfl, (by first | omega | (simp; done) | (simp; omega)), (by first | omega | (simp; done) | (simp; omega)), (by first | omega | (simp; done) | (simp; omega)), .inr rfl, Nat.le_of_ble_eq_true rfl⟩ | exact .inl ⟨rfl, rfl, rfl, (by first | omega | (simp; done) | (simp; omega)), (by first | omega | (simp; done) | (simp; omega)), (by first | omega | (simp; done) | (simp; omega)), .inl rfl, Nat.le_of_ble_eq_true rfl⟩ | exact fun h => h | refine ⟨?_, ?_, ?_, .inl ?_⟩ | refine ⟨?_, ?_⟩ | refine fun ii hii => ?_ | omega | fail)
    · rewrite [show ((((b.length + 1 + j) % 64 : Nat) : Int) != 56) = true from bne_iff_ne.2 (fun x => hc (hz.1 (by omega)))]
      conv => whnf
      refine ⟨Nat.le_refl 1, ?_⟩
      conv => whnf
      refine ⟨⟨by omega, by omega, by omega⟩, ?_⟩
      conv => whnf
      have hrep : b ++ [128] ++ List.replicate (j + 1) (0 : UInt8) = (b ++ [128] ++ List.replicate j 0) ++ [0] := by rw [List.replicate_succ', List.append_assoc (b ++ [128])]
      refine ⟨_, _, _, ?_, ⟨[], trivial, [2], rfl, rfl, ?_, ?_⟩, j + 1, by omega, rfl, rfl, rfl⟩
      · omega
      · rewrite [hrep]
        (repeat' first | exact trivial | exact rfl | exact Nat.le_of_ble_eq_true rfl | exact Nat.le_refl _ | exact .inl ⟨rfl, rfl, rfl, rfl, Nat.le_refl _, Nat.le_refl _, .inr rfl, Nat.le_of_ble_eq_true rfl⟩ | exact .inl ⟨rfl, rfl, rfl, rfl, Nat.le_refl _, Nat.le_refl _, .inl rfl, Nat.le_of_ble_eq_true rfl⟩ | exact .inr ⟨rfl, rfl, rfl, rfl, rfl⟩ | exact .inl ⟨rfl, rfl, rfl, (by first | omega | (simp; done) | (simp; omega)), (by first | omega | (simp; done) | (simp; omega)), (by first | omega | (simp; done) | (simp; omega)), .inr rfl, Nat.le_of_ble_eq_true rfl⟩ | exact .inl ⟨rfl, rfl, rfl, (by first | omega | (simp; done) | (simp; omega)), (by first | omega | (simp; done) | (simp; omega)), (by first | omega | (simp; done) | (simp; omega)), .inl rfl, Nat.le_of_ble_eq_true rfl⟩ | exact fun h => h | refine ⟨?_, ?_, ?_, .inl ?_⟩ | refine ⟨?_, ?_⟩ | refine fun ii hii => ?_ | omega | fail)
        all_goals exact (by rw [List.length_append, hlj]; rfl)
      · rewrite [hrep]
        (repeat' first | exact trivial | exact rfl | exact Nat.le_of_ble_eq_true rfl | exact Nat.le_refl _ | exact .inl ⟨rfl, rfl, rfl, rfl, Nat.le_refl _, Nat.le_refl _, .inr rfl, Nat.le_of_ble_eq_true rfl⟩ | exact .inl ⟨rfl, rfl, rfl, rfl, Nat.le_refl _, Nat.le_refl _, .inl rfl, Nat.le_of_ble_eq_true rfl⟩ | exact .inr ⟨rfl, rfl, rfl, rfl, rfl⟩ | exact .inl ⟨rfl, rfl, rfl, (by first | omega | (simp; done) | (simp; omega)), (by first | omega | (simp; done) | (simp; omega)), (by first | omega | (simp; done) | (simp; omega)), .inr rfl, Nat.le_of_ble_eq_true rfl⟩ | exact .inl ⟨rfl, rfl, rfl, (by first | omega | (simp; done) | (simp; omega)), (by first | omega | (simp; done) | (simp; omega)), (by first | omega | (simp; done) | (simp; omega)), .inl rfl, Nat.le_of_ble_eq_true rfl⟩ | exact fun h => h | refine ⟨?_, ?_, ?_, .inl ?_⟩ | refine ⟨?_, ?_⟩ | refine fun ii hii => ?_ | omega | fail)
        all_goals first
          | exact (by rw [List.length_append, hlj]; rfl)
          | (have q := by_app (l := b ++ [128] ++ List.replicate j 0) (v := 0) (n := 0) (K := 1000000) (F := frzAll [] []) (g := embF [2] 1000000) (ii := ii) (X := .one (.int .u8 0) .nil) rfl (by rw [hlj]; exact hii)
             rw [hlj] at q
             exact q)
end Go.Proofs.YtaikhgmhocllfaaDoor.Sk
