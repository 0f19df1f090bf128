/- Digests on the heap of the mind: the document's digest. By this session. -/
import Derived.Test.YtaikhgmhocllfaaDoorSh
namespace Go.Proofs.YtaikhgmhocllfaaDoor.Sk
open Go.Proofs.YtaikhgmhocllfaaDoor.Lh Go.RowKit Go.Proofs.YtaikhgmhocllfaaDoor.Sp
set_option maxRecDepth 100000
set_option linter.unusedSimpArgs false
set_option linter.unusedSectionVars false
set_option linter.unusedVariables false
theorem wNotS (x : B) : IntKind.u32.wrap ((4294967295 : Int) - (x.toNat : Int)) = ((~~~ x).toNat : Int) := by
  rw [wNot]; exact wrap_lt (~~~ x).isLt
theorem absorb_succ : ∀ (q : Nat) (h : List B) (m : Sp.Bs), absorb (q + 1) h m = compress (absorb q h m) ((m.drop (64 * q)).take 64)
  | 0, h, m => rfl
  | q + 1, h, m => by
    rw [absorb, absorb_succ q, absorb, List.drop_drop, show 64 + 64 * q = 64 * (q + 1) by omega]
theorem word_add {a b c d : Nat} (ha : a < 256) (hb : b < 256) (hc : c < 256) (hd : d < 256) : BitVec.ofNat 32 a <<< 24 + BitVec.ofNat 32 b <<< 16 + BitVec.ofNat 32 c <<< 8 + BitVec.ofNat 32 d = BitVec.ofNat 32 (a * 16777216 + b * 65536 + c * 256 + d) := by
  apply BitVec.eq_of_toNat_eq
  simp only [BitVec.toNat_add, BitVec.toNat_shiftLeft, BitVec.toNat_ofNat, Nat.shiftLeft_eq]
  omega
theorem blk_get {P : Sp.Bs} {q i : Nat} (hi : i < 64) : ((P.drop (64 * q)).take 64).getD i 0 = P.getD (64 * q + i) 0 := by
  rw [List.getD_eq_getElem?_getD, List.getD_eq_getElem?_getD, List.getElem?_take_of_lt hi, List.getElem?_drop]
set_option maxHeartbeats 4000000 in
theorem refSum (b : Sp.Bs) (hb : b.length ≤ 1073741824) : LCalls Tryd.prog 14 (.cons (bysV b) .nil) [] (fun e h' => e = .ret (.agg (.rows 32 1 (bySeg (digest b)) .nil)) ∧ h' = []) := by
  have hPm := padded_len b
  have hPl : (padded b).length ≤ 1073741824 + 128 := by unfold padded be8 zerosN; simp; omega
  have hdg : digest b = outOf (absorb ((padded b).length / 64) firstL (padded b)) := rfl
  refine LCalls.tell ?_; refine enter14 rfl ?_; conv => whnf
  refine LCalls.use (Padded b hb) [] rfl rfl trivial ?_
  rintro _ _ ⟨rfl, rfl⟩
  generalize padded b = P at hPm hPl hdg
  conv => whnf
  refine LCalls.use refFirst [] rfl rfl trivial ?_
  rintro _ _ ⟨rfl, rfl⟩
  conv => whnf
  refine LCalls.use refConst [] rfl rfl trivial ?_
  rintro _ _ ⟨rfl, rfl⟩
  conv => whnf
  refine Loop.inv (lwp_mono _) (fun n t1 h => ∃ (q : Nat), q ≤ P.length / 64 ∧ n = P.length / 64 - q ∧ t1 = [.any, .any, .ptr ⟨0, [], 0⟩, bysV P, .ptr ⟨1, [], 0⟩, .ptr ⟨2, [], 0⟩, .int .i64 ((64 * q : Nat) : Int), .any, .any, .any, .any, .any, .any, .any, .any, .any, .any, .any, .any, .any, .any, .any, .any, .any, .any, .any, .any, .any, .any, .any, .any, .any, .any, .any, .any, .any, .any, .any, .any, .any, .any, .any, .any, .any, .any, .any, .any, .any, .any, .any, .any, .any, .any, .any, .any, .any, .any, .any, .any, .any, .any, .any, .any, .any, .any, .any, .any, .any, .any, .any, .any, .any, .any, .any, .any, .any, .any, .any, .any, .any, .any, .any, .any, .any, .any, .any, .any, .any, .any, .any, .any, .any, .any, .any, .any, .any, .any, .any, .any, .any, .any, .any, .any, .any, .any, .any, .any, .any, .any, .any, .any, .any, .any, .any, .any, .any, .any, .any, .any, .any, .any, .any, .any, .any, .any, .any, .any, .any, .any, .any, .any, .any, .any, .any, .any, .any, .any, .any, .any, .any, .any, .any, .any, .any, .any, .any, .any, .any, .any, .any, .any, .any, .any, .any, .any, .any, .any, .any, .any, .any, .any, .any, .any, .any, .any, .any, .any, .any, .any, .any, .any, .any, .any, .any, .any, .any, .any, .any, .any, .any, .any, .any, .any, .any, .any, .any, .any, .any, .any, .any, .any, .any, .any, .any, .any, .any, .any, .any, .any, .any, .any, .any, .any, .any, .any, .any, .any, .any, .any, .any, .any, .any, .any, .any, .any, .any, .any, .any, .any, .any, .any, .any, .any, .any, .any, .any, .any, .any, .any, .any, .any, .any, .any, .any, .any, .any, .any, .any, .any, .any, .any, .any, .any] ∧ h = [z32 [], sO (absorb q firstL P), wO constL]) ?_ ?_
  · refine ⟨_, _, _, ⟨[], trivial, [0, 1, 2], rfl, rfl, ?_, ?_⟩, 0, Nat.zero_le _, rfl, rfl, rfl⟩
    · (repeat' first | exact trivial | exact rfl | exact Nat.le_of_ble_eq_true rfl | exact Nat.le_refl _ | exact .inl ⟨rfl, rfl, rfl, rfl, Nat.le_refl _, Nat.le_refl _, .inr rfl, Nat.le_of_ble_eq_true rfl⟩ | exact .inl ⟨rfl, rfl, rfl, rfl, Nat.le_refl _, Nat.le_refl _, .inl rfl, Nat.le_of_ble_eq_true rfl⟩ | exact .inr ⟨rfl, rfl, rfl, rfl, rfl⟩ | exact .inl ⟨rfl, rfl, rfl, (by first | omega | (simp; done) | (simp; omega)), (by first | omega | (simp; done) | (simp; omega)), (by first | omega | (simp; done) | (simp; omega)), .inr rfl, Nat.le_of_ble_eq_true rfl⟩ | exact .inl ⟨rfl, rfl, rfl, (by first | omega | (simp; done) | (simp; omega)), (by first | omega | (simp; done) | (simp; omega)), (by first | omega | (simp; done) | (simp; omega)), .inl rfl, Nat.le_of_ble_eq_true rfl⟩ | exact fun h => h | refine ⟨?_, ?_, ?_, .inl ?_⟩ | refine ⟨?_, ?_⟩ | refine fun ii hii => ?_ | omega | fail)
    · (repeat' first | exact trivial | exact rfl | exact Nat.le_of_ble_eq_true rfl | exact Nat.le_refl _ | exact .inl ⟨rfl, rfl, rfl, rfl, Nat.le_refl _, Nat.le_refl _, .inr rfl, Nat.le_of_ble_eq_true rfl⟩ | exact .inl ⟨rfl, rfl, rfl, rfl, Nat.le_refl _, Nat.le_refl _, .inl rfl, Nat.le_of_ble_eq_true rfl⟩ | exact .inr ⟨rfl, rfl, rfl, rfl, rfl⟩ | exact .inl ⟨rfl, rfl, rfl, (by first | omega | (simp; done) | (simp; omega)), (by first | omega | (simp; done) | (simp; omega)), (by first | omega | (simp; done) | (simp; omega)), .inr rfl, Nat.le_of_ble_eq_true rfl⟩ | exact .inl ⟨rfl, rfl, rfl, (by first | omega | (simp; done) | (simp; omega)), (by first | omega | (simp; done) | (simp; omega)), (by first | omega | (simp; done) | (simp; omega)), .inl rfl, Nat.le_of_ble_eq_true rfl⟩ | exact fun h => h | refine ⟨?_, ?_, ?_, .inl ?_⟩ | refine ⟨?_, ?_⟩ | refine fun ii hii => ?_ | omega | fail)
  · rintro n _ _ ⟨q, hq, rfl, rfl, rfl⟩
    conv => whnf
    by_cases hq2 : q < P.length / 64
    · rewrite [show decide (((64 * q : Nat) : Int) < (P.length : Int)) = true from decide_eq_true (by omega)]
      have habs := absorb_succ q firstL P
      generalize hX : (P.drop (64 * q)).take 64 = X at habs
      have hg : ∀ i, i < 64 → X.getD i 0 = P.getD (64 * q + i) 0 := fun i hi => by rw [← hX, blk_get hi]
      generalize hA : absorb q firstL P = A at habs
      conv => whnf
      refine Loop.inv (lwp_mono _) (fun n t1 h => ∃ (k : Nat), k ≤ 16 ∧ n = 16 - k ∧ t1 = [.any, .any, .ptr ⟨0, [], 0⟩, bysV P, .ptr ⟨1, [], 0⟩, .ptr ⟨2, [], 0⟩, .int .i64 ((64 * q : Nat) : Int), .ptr ⟨3, [], 0⟩, .int .i64 (k : Int), .any, .any, .any, .any, .any, .any, .any, .any, .any, .any, .any, .any, .any, .any, .any, .any, .any, .any, .any, .any, .any, .any, .any, .any, .any, .any, .any, .any, .any, .any, .any, .any, .any, .any, .any, .any, .any, .any, .any, .any, .any, .any, .any, .any, .any, .any, .any, .any, .any, .any, .any, .any, .any, .any, .any, .any, .any, .any, .any, .any, .any, .any, .any, .any, .any, .any, .any, .any, .any, .any, .any, .any, .any, .any, .any, .any, .any, .any, .any, .any, .any, .any, .any, .any, .any, .any, .any, .any, .any, .any, .any, .any, .any, .any, .any, .any, .any, .any, .any, .any, .any, .any, .any, .any, .any, .any, .any, .any, .any, .any, .any, .any, .any, .any, .any, .any, .any, .any, .any, .any, .any, .any, .any, .any, .any, .any, .any, .any, .any, .any, .any, .any, .any, .any, .any, .any, .any, .any, .any, .any, .any, .any, .any, .any, .any, .any, .any, .any, .any, .any, .any, .any, .any, .any, .any, .any, .any, .any, .any, .any, .any, .any, .any, .any, .any, .any, .any, .any, .any, .any, .any, .any, .any, .any, .any, .any, .any, .any, .any, .any, .any, .any, .any, .any, .any, .any, .any, .any, .any, .any, .any, .any, .any, .any, .any, .any, .any, .any, .any, .any, .any, .any, .any, .any, .any, .any, .any, .any, .any, .any, .any, .any, .any, .any, .any, .any, .any, .any, .any, .any, .any, .any, .any, .any, .any, .any, .any, .any, .any, .any, .any, .any, .any, .any] ∧ h = [z32 [], sO A, wO constL, wO (sched X k)]) ?_ ?_
      · refine ⟨_, _, _, ⟨[], trivial, [0, 1, 2, 3], rfl, rfl, ?_, ?_⟩, 0, Nat.zero_le _, rfl, rfl, rfl⟩
        · (repeat' first | exact trivial | exact rfl | exact Nat.le_of_ble_eq_true rfl | exact Nat.le_refl _ | exact .inl ⟨rfl, rfl, rfl, rfl, Nat.le_refl _, Nat.le_refl _, .inr rfl, Nat.le_of_ble_eq_true rfl⟩ | exact .inl ⟨rfl, rfl, rfl, rfl, Nat.le_refl _, Nat.le_refl _, .inl rfl, Nat.le_of_ble_eq_true rfl⟩ | exact .inr ⟨rfl, rfl, rfl, rfl, rfl⟩ | exact .inl ⟨rfl, rfl, rfl, (by first | omega | (simp; done) | (simp; omega)), (by first | omega | (simp; done) | (simp; omega)), (by first | omega | (simp; done) | (simp; omega)), .inr rfl, Nat.le_of_ble_eq_true rfl⟩ | exact .inl ⟨rfl, rfl, rfl, (by first | omega | (simp; done) | (simp; omega)), (by first | omega | (simp; done) | (simp; omega)), (by first | omega | (simp; done) | (simp; omega)), .inl rfl, Nat.le_of_ble_eq_true rfl⟩ | exact fun h => h | refine ⟨?_, ?_, ?_, .inl ?_⟩ | refine ⟨?_, ?_⟩ | refine fun ii hii => ?_ | omega | fail)
        · (repeat' first | exact trivial | exact rfl | exact Nat.le_of_ble_eq_true rfl | exact Nat.le_refl _ | exact .inl ⟨rfl, rfl, rfl, rfl, Nat.le_refl _, Nat.le_refl _, .inr rfl, Nat.le_of_ble_eq_true rfl⟩ | exact .inl ⟨rfl, rfl, rfl, rfl, Nat.le_refl _, Nat.le_refl _, .inl rfl, Nat.le_of_ble_eq_true rfl⟩ | exact .inr ⟨rfl, rfl, rfl, rfl, rfl⟩ | exact .inl ⟨rfl, rfl, rfl, (by first | omega | (simp; done) | (simp; omega)), (by first | omega | (simp; done) | (simp; omega)), (by first | omega | (simp; done) | (simp; omega)), .inr rfl, Nat.le_of_ble_eq_true rfl⟩ | exact .inl ⟨rfl, rfl, rfl, (by first | omega | (simp; done) | (simp; omega)), (by first | omega | (simp; done) | (simp; omega)), (by first | omega | (simp; done) | (simp; omega)), .inl rfl, Nat.le_of_ble_eq_true rfl⟩ | exact fun h => h | refine ⟨?_, ?_, ?_, .inl ?_⟩ | refine ⟨?_, ?_⟩ | refine fun ii hii => ?_ | omega | fail)
      · rintro n _ _ ⟨k, hk, rfl, rfl, rfl⟩
        conv => whnf
        by_cases hk16 : k < 16
        · rewrite [show decide ((k : Int) < 16) = true from decide_eq_true (by omega)]
          conv => whnf
          rewrite [wrapI (n := 4 * (k : Int)) (by omega), wrapI (n := ((64 * q : Nat) : Int) + 4 * (k : Int)) (by omega), show ((64 * q : Nat) : Int) + 4 * (k : Int) = ((64 * q + 4 * k : Nat) : Int) by omega]
          refine ⟨⟨by omega, by omega⟩, ?_⟩
          conv => whnf
          rewrite [wrapI (n := 4 * (k : Int)) (by omega), wrapI (n := ((64 * q : Nat) : Int) + 4 * (k : Int)) (by omega), wrapI (n := ((64 * q : Nat) : Int) + 4 * (k : Int) + 1) (by omega), show ((64 * q : Nat) : Int) + 4 * (k : Int) + 1 = ((64 * q + (4 * k + 1) : Nat) : Int) by omega]
          refine ⟨⟨by omega, by omega⟩, ?_⟩
          conv => whnf
          rewrite [wrapI (n := 4 * (k : Int)) (by omega), wrapI (n := ((64 * q : Nat) : Int) + 4 * (k : Int)) (by omega), wrapI (n := ((64 * q : Nat) : Int) + 4 * (k : Int) + 2) (by omega), show ((64 * q : Nat) : Int) + 4 * (k : Int) + 2 = ((64 * q + (4 * k + 2) : Nat) : Int) by omega]
          refine ⟨⟨by omega, by omega⟩, ?_⟩
          conv => whnf
          rewrite [wrapI (n := 4 * (k : Int)) (by omega), wrapI (n := ((64 * q : Nat) : Int) + 4 * (k : Int)) (by omega), wrapI (n := ((64 * q : Nat) : Int) + 4 * (k : Int) + 3) (by omega), show ((64 * q : Nat) : Int) + 4 * (k : Int) + 3 = ((64 * q + (4 * k + 3) : Nat) : Int) by omega]
          refine ⟨⟨by omega, by omega⟩, ?_⟩
          conv => whnf
          refine ⟨⟨by omega, by omega⟩, ?_⟩
          conv => whnf
          rewrite [Int.toNat_natCast]
          refine ⟨by omega, ?_⟩
          conv => whnf
          refine ⟨_, _, _, ?_, ⟨[], trivial, [0, 1, 2, 3], rfl, rfl, ?_, ?_⟩, k + 1, by omega, rfl, rfl, rfl⟩
          · omega
          · (repeat' first | exact trivial | exact rfl | exact Nat.le_of_ble_eq_true rfl | exact Nat.le_refl _ | exact .inl ⟨rfl, rfl, rfl, rfl, Nat.le_refl _, Nat.le_refl _, .inr rfl, Nat.le_of_ble_eq_true rfl⟩ | exact .inl ⟨rfl, rfl, rfl, rfl, Nat.le_refl _, Nat.le_refl _, .inl rfl, Nat.le_of_ble_eq_true rfl⟩ | exact .inr ⟨rfl, rfl, rfl, rfl, rfl⟩ | exact .inl ⟨rfl, rfl, rfl, (by first | omega | (simp; done) | (simp; omega)), (by first | omega | (simp; done) | (simp; omega)), (by first | omega | (simp; done) | (simp; omega)), .inr rfl, Nat.le_of_ble_eq_true rfl⟩ | exact .inl ⟨rfl, rfl, rfl, (by first | omega | (simp; done) | (simp; omega)), (by first | omega | (simp; done) | (simp; omega)), (by first | omega | (simp; done) | (simp; omega)), .inl rfl, Nat.le_of_ble_eq_true rfl⟩ | exact fun h => h | refine ⟨?_, ?_, ?_, .inl ?_⟩ | refine ⟨?_, ?_⟩ | refine fun ii hii => ?_ | omega | fail)
            all_goals exact wrapI (by omega)
          · (repeat' first | exact trivial | exact rfl | exact Nat.le_of_ble_eq_true rfl | exact Nat.le_refl _ | exact .inl ⟨rfl, rfl, rfl, rfl, Nat.le_refl _, Nat.le_refl _, .inr rfl, Nat.le_of_ble_eq_true rfl⟩ | exact .inl ⟨rfl, rfl, rfl, rfl, Nat.le_refl _, Nat.le_refl _, .inl rfl, Nat.le_of_ble_eq_true rfl⟩ | exact .inr ⟨rfl, rfl, rfl, rfl, rfl⟩ | exact .inl ⟨rfl, rfl, rfl, (by first | omega | (simp; done) | (simp; omega)), (by first | omega | (simp; done) | (simp; omega)), (by first | omega | (simp; done) | (simp; omega)), .inr rfl, Nat.le_of_ble_eq_true rfl⟩ | exact .inl ⟨rfl, rfl, rfl, (by first | omega | (simp; done) | (simp; omega)), (by first | omega | (simp; done) | (simp; omega)), (by first | omega | (simp; done) | (simp; omega)), .inl rfl, Nat.le_of_ble_eq_true rfl⟩ | exact fun h => h | refine ⟨?_, ?_, ?_, .inl ?_⟩ | refine ⟨?_, ?_⟩ | refine fun ii hii => ?_ | omega | fail)
            rewrite [Int.toNat_natCast, Int.toNat_natCast, Int.toNat_natCast, Int.toNat_natCast, show P.getD (64 * q + 4 * k) 0 = X.getD (4 * k) 0 from (hg (4 * k) (by omega)).symm, ← hg (4 * k + 1) (by omega), ← hg (4 * k + 2) (by omega), ← hg (4 * k + 3) (by omega)]
            have hwn : wNext X (sched X k) = wordAt X k := by rw [wNext, sched_len, if_pos hk16]
            rewrite [wrapB (UInt8.toNat_lt _), wrapB (UInt8.toNat_lt _), wrapB (UInt8.toNat_lt _), wrapB (UInt8.toNat_lt _), shB _ 24 16777216 rfl, shB _ 16 65536 rfl, shB _ 8 256 rfl, wAdd, wAdd, wAdd, word_add (UInt8.toNat_lt _) (UInt8.toNat_lt _) (UInt8.toNat_lt _) (UInt8.toNat_lt _)]
            exact w_put hwn
        · rewrite [show decide ((k : Int) < 16) = false from decide_eq_false (by omega)]
          obtain rfl : k = 16 := by omega
          conv => whnf
          refine Loop.inv (lwp_mono _) (fun n t1 h => ∃ (k : Nat), 16 ≤ k ∧ k ≤ 64 ∧ n = 64 - k ∧ t1 = [.any, .any, .ptr ⟨0, [], 0⟩, bysV P, .ptr ⟨1, [], 0⟩, .ptr ⟨2, [], 0⟩, .int .i64 ((64 * q : Nat) : Int), .ptr ⟨3, [], 0⟩, .any, .int .i64 (k : Int), .any, .any, .any, .any, .any, .any, .any, .any, .any, .any, .any, .any, .any, .any, .any, .any, .any, .any, .any, .any, .any, .any, .any, .any, .any, .any, .any, .any, .any, .any, .any, .any, .any, .any, .any, .any, .any, .any, .any, .any, .any, .any, .any, .any, .any, .any, .any, .any, .any, .any, .any, .any, .any, .any, .any, .any, .any, .any, .any, .any, .any, .any, .any, .any, .any, .any, .any, .any, .any, .any, .any, .any, .any, .any, .any, .any, .any, .any, .any, .any, .any, .any, .any, .any, .any, .any, .any, .any, .any, .any, .any, .any, .any, .any, .any, .any, .any, .any, .any, .any, .any, .any, .any, .any, .any, .any, .any, .any, .any, .any, .any, .any, .any, .any, .any, .any, .any, .any, .any, .any, .any, .any, .any, .any, .any, .any, .any, .any, .any, .any, .any, .any, .any, .any, .any, .any, .any, .any, .any, .any, .any, .any, .any, .any, .any, .any, .any, .any, .any, .any, .any, .any, .any, .any, .any, .any, .any, .any, .any, .any, .any, .any, .any, .any, .any, .any, .any, .any, .any, .any, .any, .any, .any, .any, .any, .any, .any, .any, .any, .any, .any, .any, .any, .any, .any, .any, .any, .any, .any, .any, .any, .any, .any, .any, .any, .any, .any, .any, .any, .any, .any, .any, .any, .any, .any, .any, .any, .any, .any, .any, .any, .any, .any, .any, .any, .any, .any, .any, .any, .any, .any, .any, .any, .any, .any, .any, .any, .any, .any, .any, .any, .any, .any] ∧ h = [z32 [], sO A, wO constL, wO (sched X k)]) ?_ ?_
          · refine ⟨_, _, _, ⟨[], trivial, [0, 1, 2, 3], rfl, rfl, ?_, ?_⟩, 16, Nat.le_refl _, by omega, rfl, rfl, rfl⟩
            · (repeat' first | exact trivial | exact rfl | exact Nat.le_of_ble_eq_true rfl | exact Nat.le_refl _ | exact .inl ⟨rfl, rfl, rfl, rfl, Nat.le_refl _, Nat.le_refl _, .inr rfl, Nat.le_of_ble_eq_true rfl⟩ | exact .inl ⟨rfl, rfl, rfl, rfl, Nat.le_refl _, Nat.le_refl _, .inl rfl, Nat.le_of_ble_eq_true rfl⟩ | exact .inr ⟨rfl, rfl, rfl, rfl, rfl⟩ | exact .inl ⟨rfl, rfl, rfl, (by first | omega | (simp; done) | (simp; omega)), (by first | omega | (simp; done) | (simp; omega)), (by first | omega | (simp; done) | (simp; omega)), .inr rfl, Nat.le_of_ble_eq_true rfl⟩ | exact .inl ⟨rfl, rfl, rfl, (by first | omega | (simp; done) | (simp; omega)), (by first | omega | (simp; done) | (simp; omega)), (by first | omega | (simp; done) | (simp; omega)), .inl rfl, Nat.le_of_ble_eq_true rfl⟩ | exact fun h => h | refine ⟨?_, ?_, ?_, .inl ?_⟩ | refine ⟨?_, ?_⟩ | refine fun ii hii => ?_ | omega | fail)
            · (repeat' first | exact trivial | exact rfl | exact Nat.le_of_ble_eq_true rfl | exact Nat.le_refl _ | exact .inl ⟨rfl, rfl, rfl, rfl, Nat.le_refl _, Nat.le_refl _, .inr rfl, Nat.le_of_ble_eq_true rfl⟩ | exact .inl ⟨rfl, rfl, rfl, rfl, Nat.le_refl _, Nat.le_refl _, .inl rfl, Nat.le_of_ble_eq_true rfl⟩ | exact .inr ⟨rfl, rfl, rfl, rfl, rfl⟩ | exact .inl ⟨rfl, rfl, rfl, (by first | omega | (simp; done) | (simp; omega)), (by first | omega | (simp; done) | (simp; omega)), (by first | omega | (simp; done) | (simp; omega)), .inr rfl, Nat.le_of_ble_eq_true rfl⟩ | exact .inl ⟨rfl, rfl, rfl, (by first | omega | (simp; done) | (simp; omega)), (by first | omega | (simp; done) | (simp; omega)), (by first | omega | (simp; done) | (simp; omega)), .inl rfl, Nat.le_of_ble_eq_true rfl⟩ | exact fun h => h | refine ⟨?_, ?_, ?_, .inl ?_⟩ | refine ⟨?_, ?_⟩ | refine fun ii hii => ?_ | omega | fail)
          · rintro n _ _ ⟨k, hk1, hk, rfl, rfl, rfl⟩
            conv => whnf
            by_cases hk64 : k < 64
            · rewrite [show decide ((k : Int) < 64) = true from decide_eq_true (by omega)]
              conv => whnf
              rewrite [wrapI (n := (k : Int) - 15) (by omega), show ((k : Int) - 15).toNat = k - 15 by omega]
              refine ⟨⟨by omega, by omega⟩, ?_⟩
              conv => whnf
              refine ⟨by omega, ?_⟩
              conv => whnf
              rewrite [wrapI (n := (k : Int) - 2) (by omega), show ((k : Int) - 2).toNat = k - 2 by omega]
              refine ⟨⟨by omega, by omega⟩, ?_⟩
              conv => whnf
              refine ⟨by omega, ?_⟩
              conv => whnf
              generalize hp : (sched X k).getD (k - 15) 0 = p
              generalize hq : (sched X k).getD (k - 2) 0 = w
              rewrite [wrapI (n := (k : Int) - 16) (by omega), show ((k : Int) - 16).toNat = k - 16 by omega]
              refine ⟨⟨by omega, by omega⟩, ?_⟩
              conv => whnf
              refine ⟨by omega, ?_⟩
              conv => whnf
              rewrite [wrapI (n := (k : Int) - 7) (by omega), show ((k : Int) - 7).toNat = k - 7 by omega]
              refine ⟨⟨by omega, by omega⟩, ?_⟩
              conv => whnf
              refine ⟨by omega, ?_⟩
              conv => whnf
              refine ⟨_, [], ⟨⟨_, _, _, refR p 7 (by decide) (by decide), fun _ => rfl, fun _ => rfl, rfl, fun _ => trivial, rfl⟩⟩, ?_⟩; conv => whnf
              refine ⟨_, [], ⟨⟨_, _, _, refR p 18 (by decide) (by decide), fun _ => rfl, fun _ => rfl, rfl, fun _ => trivial, rfl⟩⟩, ?_⟩; conv => whnf
              refine ⟨_, [], ⟨⟨_, _, _, refR w 17 (by decide) (by decide), fun _ => rfl, fun _ => rfl, rfl, fun _ => trivial, rfl⟩⟩, ?_⟩; conv => whnf
              refine ⟨_, [], ⟨⟨_, _, _, refR w 19 (by decide) (by decide), fun _ => rfl, fun _ => rfl, rfl, fun _ => trivial, rfl⟩⟩, ?_⟩; conv => whnf
              refine ⟨⟨by omega, by omega⟩, ?_⟩
              conv => whnf
              refine ⟨by show (k : Int).toNat < 64; omega, ?_⟩
              conv => whnf
              refine ⟨_, _, _, ?_, ⟨[], trivial, [0, 1, 2, 3], rfl, rfl, ?_, ?_⟩, k + 1, by omega, by omega, rfl, rfl, rfl⟩
              · omega
              · (repeat' first | exact trivial | exact rfl | exact Nat.le_of_ble_eq_true rfl | exact Nat.le_refl _ | exact .inl ⟨rfl, rfl, rfl, rfl, Nat.le_refl _, Nat.le_refl _, .inr rfl, Nat.le_of_ble_eq_true rfl⟩ | exact .inl ⟨rfl, rfl, rfl, rfl, Nat.le_refl _, Nat.le_refl _, .inl rfl, Nat.le_of_ble_eq_true rfl⟩ | exact .inr ⟨rfl, rfl, rfl, rfl, rfl⟩ | exact .inl ⟨rfl, rfl, rfl, (by first | omega | (simp; done) | (simp; omega)), (by first | omega | (simp; done) | (simp; omega)), (by first | omega | (simp; done) | (simp; omega)), .inr rfl, Nat.le_of_ble_eq_true rfl⟩ | exact .inl ⟨rfl, rfl, rfl, (by first | omega | (simp; done) | (simp; omega)), (by first | omega | (simp; done) | (simp; omega)), (by first | omega | (simp; done) | (simp; omega)), .inl rfl, Nat.le_of_ble_eq_true rfl⟩ | exact fun h => h | refine ⟨?_, ?_, ?_, .inl ?_⟩ | refine ⟨?_, ?_⟩ | refine fun ii hii => ?_ | omega | fail)
                all_goals exact wrapI (by omega)
              · (repeat' first | exact trivial | exact rfl | exact Nat.le_of_ble_eq_true rfl | exact Nat.le_refl _ | exact .inl ⟨rfl, rfl, rfl, rfl, Nat.le_refl _, Nat.le_refl _, .inr rfl, Nat.le_of_ble_eq_true rfl⟩ | exact .inl ⟨rfl, rfl, rfl, rfl, Nat.le_refl _, Nat.le_refl _, .inl rfl, Nat.le_of_ble_eq_true rfl⟩ | exact .inr ⟨rfl, rfl, rfl, rfl, rfl⟩ | exact .inl ⟨rfl, rfl, rfl, (by first | omega | (simp; done) | (simp; omega)), (by first | omega | (simp; done) | (simp; omega)), (by first | omega | (simp; done) | (simp; omega)), .inr rfl, Nat.le_of_ble_eq_true rfl⟩ | exact .inl ⟨rfl, rfl, rfl, (by first | omega | (simp; done) | (simp; omega)), (by first | omega | (simp; done) | (simp; omega)), (by first | omega | (simp; done) | (simp; omega)), .inl rfl, Nat.le_of_ble_eq_true rfl⟩ | exact fun h => h | refine ⟨?_, ?_, ?_, .inl ?_⟩ | refine ⟨?_, ?_⟩ | refine fun ii hii => ?_ | omega | fail)
                refine sh_of (?_ : _ = _) (w_put (x := wNext X (sched X k)) rfl)
                dsimp only
                rw [shD p 3 8 rfl, shD w 10 1024 rfl, wXor, wXor, wXor, wXor, wAdd, wAdd, wAdd, wNext, sched_len, if_neg (show ¬ k < 16 by omega), hp, hq]
                rfl
            · rewrite [show decide ((k : Int) < 64) = false from decide_eq_false (by omega)]
              obtain rfl : k = 64 := by omega
              conv => whnf
              refine Loop.inv (lwp_mono _) (fun n t1 h => ∃ (j : Nat), j ≤ 64 ∧ n = 64 - j ∧ t1 = [.any, .any, .ptr ⟨0, [], 0⟩, bysV P, .ptr ⟨1, [], 0⟩, .ptr ⟨2, [], 0⟩, .int .i64 ((64 * q : Nat) : Int), .ptr ⟨3, [], 0⟩, .any, .any, .any, .any, .ptr ⟨4, [], 0⟩, .int .i64 (j : Int), .any, .any, .any, .any, .any, .any, .any, .any, .any, .any, .any, .any, .any, .any, .any, .any, .any, .any, .any, .any, .any, .any, .any, .any, .any, .any, .any, .any, .any, .any, .any, .any, .any, .any, .any, .any, .any, .any, .any, .any, .any, .any, .any, .any, .any, .any, .any, .any, .any, .any, .any, .any, .any, .any, .any, .any, .any, .any, .any, .any, .any, .any, .any, .any, .any, .any, .any, .any, .any, .any, .any, .any, .any, .any, .any, .any, .any, .any, .any, .any, .any, .any, .any, .any, .any, .any, .any, .any, .any, .any, .any, .any, .any, .any, .any, .any, .any, .any, .any, .any, .any, .any, .any, .any, .any, .any, .any, .any, .any, .any, .any, .any, .any, .any, .any, .any, .any, .any, .any, .any, .any, .any, .any, .any, .any, .any, .any, .any, .any, .any, .any, .any, .any, .any, .any, .any, .any, .any, .any, .any, .any, .any, .any, .any, .any, .any, .any, .any, .any, .any, .any, .any, .any, .any, .any, .any, .any, .any, .any, .any, .any, .any, .any, .any, .any, .any, .any, .any, .any, .any, .any, .any, .any, .any, .any, .any, .any, .any, .any, .any, .any, .any, .any, .any, .any, .any, .any, .any, .any, .any, .any, .any, .any, .any, .any, .any, .any, .any, .any, .any, .any, .any, .any, .any, .any, .any, .any, .any, .any, .any, .any, .any, .any, .any, .any, .any, .any, .any, .any, .any, .any, .any, .any, .any, .any, .any, .any, .any, .any] ∧ h = [z32 [], sO A, wO constL, wO (sched X 64), sO (rounds X A j)]) ?_ ?_
              · refine ⟨_, _, _, ⟨[], trivial, [0, 1, 2, 3, 4], rfl, rfl, ?_, ?_⟩, 0, Nat.zero_le _, rfl, rfl, rfl⟩
                · (repeat' first | exact trivial | exact rfl | exact Nat.le_of_ble_eq_true rfl | exact Nat.le_refl _ | exact .inl ⟨rfl, rfl, rfl, rfl, Nat.le_refl _, Nat.le_refl _, .inr rfl, Nat.le_of_ble_eq_true rfl⟩ | exact .inl ⟨rfl, rfl, rfl, rfl, Nat.le_refl _, Nat.le_refl _, .inl rfl, Nat.le_of_ble_eq_true rfl⟩ | exact .inr ⟨rfl, rfl, rfl, rfl, rfl⟩ | exact .inl ⟨rfl, rfl, rfl, (by first | omega | (simp; done) | (simp; omega)), (by first | omega | (simp; done) | (simp; omega)), (by first | omega | (simp; done) | (simp; omega)), .inr rfl, Nat.le_of_ble_eq_true rfl⟩ | exact .inl ⟨rfl, rfl, rfl, (by first | omega | (simp; done) | (simp; omega)), (by first | omega | (simp; done) | (simp; omega)), (by first | omega | (simp; done) | (simp; omega)), .inl rfl, Nat.le_of_ble_eq_true rfl⟩ | exact fun h => h | refine ⟨?_, ?_, ?_, .inl ?_⟩ | refine ⟨?_, ?_⟩ | refine fun ii hii => ?_ | omega | fail)
                · (repeat' first | exact trivial | exact rfl | exact Nat.le_of_ble_eq_true rfl | exact Nat.le_refl _ | exact .inl ⟨rfl, rfl, rfl, rfl, Nat.le_refl _, Nat.le_refl _, .inr rfl, Nat.le_of_ble_eq_true rfl⟩ | exact .inl ⟨rfl, rfl, rfl, rfl, Nat.le_refl _, Nat.le_refl _, .inl rfl, Nat.le_of_ble_eq_true rfl⟩ | exact .inr ⟨rfl, rfl, rfl, rfl, rfl⟩ | exact .inl ⟨rfl, rfl, rfl, (by first | omega | (simp; done) | (simp; omega)), (by first | omega | (simp; done) | (simp; omega)), (by first | omega | (simp; done) | (simp; omega)), .inr rfl, Nat.le_of_ble_eq_true rfl⟩ | exact .inl ⟨rfl, rfl, rfl, (by first | omega | (simp; done) | (simp; omega)), (by first | omega | (simp; done) | (simp; omega)), (by first | omega | (simp; done) | (simp; omega)), .inl rfl, Nat.le_of_ble_eq_true rfl⟩ | exact fun h => h | refine ⟨?_, ?_, ?_, .inl ?_⟩ | refine ⟨?_, ?_⟩ | refine fun ii hii => ?_ | omega | fail)
              · rintro n _ _ ⟨j, hj, rfl, rfl, rfl⟩
                conv => whnf
                by_cases hj64 : j < 64
                · rewrite [show decide ((j : Int) < 64) = true from decide_eq_true (by omega)]
                  (conv => whnf); (repeat (refine And.intro (by first | omega | (dsimp only; omega)) ?_; conv => whnf))
                  refine ⟨_, [], ⟨⟨_, _, _, refR ((rounds X A j).getD 4 0) 6 (by decide) (by decide), fun _ => rfl, fun _ => rfl, rfl, fun _ => trivial, rfl⟩⟩, ?_⟩; conv => whnf
                  (repeat (refine And.intro (by first | omega | (dsimp only; omega)) ?_; conv => whnf))
                  refine ⟨_, [], ⟨⟨_, _, _, refR ((rounds X A j).getD 4 0) 11 (by decide) (by decide), fun _ => rfl, fun _ => rfl, rfl, fun _ => trivial, rfl⟩⟩, ?_⟩; conv => whnf
                  (repeat (refine And.intro (by first | omega | (dsimp only; omega)) ?_; conv => whnf))
                  refine ⟨_, [], ⟨⟨_, _, _, refR ((rounds X A j).getD 4 0) 25 (by decide) (by decide), fun _ => rfl, fun _ => rfl, rfl, fun _ => trivial, rfl⟩⟩, ?_⟩; conv => whnf
                  (repeat (refine And.intro (by first | omega | (dsimp only; omega)) ?_; conv => whnf))
                  refine ⟨_, [], ⟨⟨_, _, _, refR ((rounds X A j).getD 0 0) 2 (by decide) (by decide), fun _ => rfl, fun _ => rfl, rfl, fun _ => trivial, rfl⟩⟩, ?_⟩; conv => whnf
                  (repeat (refine And.intro (by first | omega | (dsimp only; omega)) ?_; conv => whnf))
                  refine ⟨_, [], ⟨⟨_, _, _, refR ((rounds X A j).getD 0 0) 13 (by decide) (by decide), fun _ => rfl, fun _ => rfl, rfl, fun _ => trivial, rfl⟩⟩, ?_⟩; conv => whnf
                  (repeat (refine And.intro (by first | omega | (dsimp only; omega)) ?_; conv => whnf))
                  refine ⟨_, [], ⟨⟨_, _, _, refR ((rounds X A j).getD 0 0) 22 (by decide) (by decide), fun _ => rfl, fun _ => rfl, rfl, fun _ => trivial, rfl⟩⟩, ?_⟩; conv => whnf
                  (repeat (refine And.intro (by first | omega | (dsimp only; omega)) ?_; conv => whnf))
                  refine ⟨_, _, _, ?_, ⟨[], trivial, [0, 1, 2, 3, 4], rfl, rfl, ?_, ?_⟩, j + 1, by omega, rfl, rfl, rfl⟩
                  · omega
                  · (repeat' first | exact trivial | exact rfl | exact Nat.le_of_ble_eq_true rfl | exact Nat.le_refl _ | exact .inl ⟨rfl, rfl, rfl, rfl, Nat.le_refl _, Nat.le_refl _, .inr rfl, Nat.le_of_ble_eq_true rfl⟩ | exact .inl ⟨rfl, rfl, rfl, rfl, Nat.le_refl _, Nat.le_refl _, .inl rfl, Nat.le_of_ble_eq_true rfl⟩ | exact .inr ⟨rfl, rfl, rfl, rfl, rfl⟩ | exact .inl ⟨rfl, rfl, rfl, (by first | omega | (simp; done) | (simp; omega)), (by first | omega | (simp; done) | (simp; omega)), (by first | omega | (simp; done) | (simp; omega)), .inr rfl, Nat.le_of_ble_eq_true rfl⟩ | exact .inl ⟨rfl, rfl, rfl, (by first | omega | (simp; done) | (simp; omega)), (by first | omega | (simp; done) | (simp; omega)), (by first | omega | (simp; done) | (simp; omega)), .inl rfl, Nat.le_of_ble_eq_true rfl⟩ | exact fun h => h | refine ⟨?_, ?_, ?_, .inl ?_⟩ | refine ⟨?_, ?_⟩ | refine fun ii hii => ?_ | omega | fail)
                    all_goals exact wrapI (by omega)
                  · (repeat' first | exact trivial | exact rfl | exact Nat.le_of_ble_eq_true rfl | exact Nat.le_refl _ | exact .inl ⟨rfl, rfl, rfl, rfl, Nat.le_refl _, Nat.le_refl _, .inr rfl, Nat.le_of_ble_eq_true rfl⟩ | exact .inl ⟨rfl, rfl, rfl, rfl, Nat.le_refl _, Nat.le_refl _, .inl rfl, Nat.le_of_ble_eq_true rfl⟩ | exact .inr ⟨rfl, rfl, rfl, rfl, rfl⟩ | exact .inl ⟨rfl, rfl, rfl, (by first | omega | (simp; done) | (simp; omega)), (by first | omega | (simp; done) | (simp; omega)), (by first | omega | (simp; done) | (simp; omega)), .inr rfl, Nat.le_of_ble_eq_true rfl⟩ | exact .inl ⟨rfl, rfl, rfl, (by first | omega | (simp; done) | (simp; omega)), (by first | omega | (simp; done) | (simp; omega)), (by first | omega | (simp; done) | (simp; omega)), .inl rfl, Nat.le_of_ble_eq_true rfl⟩ | exact fun h => h | refine ⟨?_, ?_, ?_, .inl ?_⟩ | refine ⟨?_, ?_⟩ | refine fun ii hii => ?_ | omega | fail)
                    have hs := sched_at X 64 j hj64
                    rcases (show ii = 0 ∨ ii = 1 ∨ ii = 2 ∨ ii = 3 ∨ ii = 4 ∨ ii = 5 ∨ ii = 6 ∨ ii = 7 by omega) with rfl | rfl | rfl | rfl | rfl | rfl | rfl | rfl
                    · refine ⟨⟨rfl, ?_⟩, trivial⟩
                      simp only [tn0, tn1, tn2, tn3, tn4, tn5, tn6, tn7, Int.toNat_natCast, wNotS, wXor, wAnd, wAdd, hs]
                      rfl
                    · exact ⟨⟨rfl, rfl⟩, trivial⟩
                    · exact ⟨⟨rfl, rfl⟩, trivial⟩
                    · exact ⟨⟨rfl, rfl⟩, trivial⟩
                    · refine ⟨⟨rfl, ?_⟩, trivial⟩
                      simp only [tn0, tn1, tn2, tn3, tn4, tn5, tn6, tn7, Int.toNat_natCast, wNotS, wXor, wAnd, wAdd, hs]
                      rfl
                    · exact ⟨⟨rfl, rfl⟩, trivial⟩
                    · exact ⟨⟨rfl, rfl⟩, trivial⟩
                    · exact ⟨⟨rfl, rfl⟩, trivial⟩
                · rewrite [show decide ((j : Int) < 64) = false from decide_eq_false (by omega)]
                  obtain rfl : j = 64 := by omega
                  conv => whnf
                  refine Loop.inv (lwp_mono _) (fun n t1 h => ∃ (i : Nat), i ≤ 8 ∧ n = 8 - i ∧ t1 = [.any, .any, .ptr ⟨0, [], 0⟩, bysV P, .ptr ⟨1, [], 0⟩, .ptr ⟨2, [], 0⟩, .int .i64 ((64 * q : Nat) : Int), .any, .any, .any, .any, .any, .ptr ⟨3, [], 0⟩, .any, .any, .any, .int .i64 (i : Int), .any, .any, .any, .any, .any, .any, .any, .any, .any, .any, .any, .any, .any, .any, .any, .any, .any, .any, .any, .any, .any, .any, .any, .any, .any, .any, .any, .any, .any, .any, .any, .any, .any, .any, .any, .any, .any, .any, .any, .any, .any, .any, .any, .any, .any, .any, .any, .any, .any, .any, .any, .any, .any, .any, .any, .any, .any, .any, .any, .any, .any, .any, .any, .any, .any, .any, .any, .any, .any, .any, .any, .any, .any, .any, .any, .any, .any, .any, .any, .any, .any, .any, .any, .any, .any, .any, .any, .any, .any, .any, .any, .any, .any, .any, .any, .any, .any, .any, .any, .any, .any, .any, .any, .any, .any, .any, .any, .any, .any, .any, .any, .any, .any, .any, .any, .any, .any, .any, .any, .any, .any, .any, .any, .any, .any, .any, .any, .any, .any, .any, .any, .any, .any, .any, .any, .any, .any, .any, .any, .any, .any, .any, .any, .any, .any, .any, .any, .any, .any, .any, .any, .any, .any, .any, .any, .any, .any, .any, .any, .any, .any, .any, .any, .any, .any, .any, .any, .any, .any, .any, .any, .any, .any, .any, .any, .any, .any, .any, .any, .any, .any, .any, .any, .any, .any, .any, .any, .any, .any, .any, .any, .any, .any, .any, .any, .any, .any, .any, .any, .any, .any, .any, .any, .any, .any, .any, .any, .any, .any, .any, .any, .any, .any, .any, .any, .any, .any, .any, .any, .any, .any, .any, .any, .any, .any, .any] ∧ h = [z32 [], sO (addUpto A (rounds X A 64) i), wO constL, sO (rounds X A 64)]) ?_ ?_
                  · refine ⟨_, _, _, ⟨[], trivial, [0, 1, 2, 4], rfl, rfl, ?_, ?_⟩, 0, Nat.zero_le _, rfl, rfl, rfl⟩
                    · (repeat' first | exact trivial | exact rfl | exact Nat.le_of_ble_eq_true rfl | exact Nat.le_refl _ | exact .inl ⟨rfl, rfl, rfl, rfl, Nat.le_refl _, Nat.le_refl _, .inr rfl, Nat.le_of_ble_eq_true rfl⟩ | exact .inl ⟨rfl, rfl, rfl, rfl, Nat.le_refl _, Nat.le_refl _, .inl rfl, Nat.le_of_ble_eq_true rfl⟩ | exact .inr ⟨rfl, rfl, rfl, rfl, rfl⟩ | exact .inl ⟨rfl, rfl, rfl, (by first | omega | (simp; done) | (simp; omega)), (by first | omega | (simp; done) | (simp; omega)), (by first | omega | (simp; done) | (simp; omega)), .inr rfl, Nat.le_of_ble_eq_true rfl⟩ | exact .inl ⟨rfl, rfl, rfl, (by first | omega | (simp; done) | (simp; omega)), (by first | omega | (simp; done) | (simp; omega)), (by first | omega | (simp; done) | (simp; omega)), .inl rfl, Nat.le_of_ble_eq_true rfl⟩ | exact fun h => h | refine ⟨?_, ?_, ?_, .inl ?_⟩ | refine ⟨?_, ?_⟩ | refine fun ii hii => ?_ | omega | fail)
                    · (repeat' first | exact trivial | exact rfl | exact Nat.le_of_ble_eq_true rfl | exact Nat.le_refl _ | exact .inl ⟨rfl, rfl, rfl, rfl, Nat.le_refl _, Nat.le_refl _, .inr rfl, Nat.le_of_ble_eq_true rfl⟩ | exact .inl ⟨rfl, rfl, rfl, rfl, Nat.le_refl _, Nat.le_refl _, .inl rfl, Nat.le_of_ble_eq_true rfl⟩ | exact .inr ⟨rfl, rfl, rfl, rfl, rfl⟩ | exact .inl ⟨rfl, rfl, rfl, (by first | omega | (simp; done) | (simp; omega)), (by first | omega | (simp; done) | (simp; omega)), (by first | omega | (simp; done) | (simp; omega)), .inr rfl, Nat.le_of_ble_eq_true rfl⟩ | exact .inl ⟨rfl, rfl, rfl, (by first | omega | (simp; done) | (simp; omega)), (by first | omega | (simp; done) | (simp; omega)), (by first | omega | (simp; done) | (simp; omega)), .inl rfl, Nat.le_of_ble_eq_true rfl⟩ | exact fun h => h | refine ⟨?_, ?_, ?_, .inl ?_⟩ | refine ⟨?_, ?_⟩ | refine fun ii hii => ?_ | omega | fail)
                      exact (by rw [add_at hii, if_neg (Nat.not_lt_zero _)])
                  · rintro n _ _ ⟨i, hi, rfl, rfl, rfl⟩
                    conv => whnf
                    by_cases hi8 : i < 8
                    · rewrite [show decide ((i : Int) < 8) = true from decide_eq_true (by omega)]
                      (conv => whnf); (repeat (refine And.intro (by first | omega | (dsimp only; omega)) ?_; conv => whnf))
                      refine ⟨_, _, _, ?_, ⟨[], trivial, [0, 1, 2, 3], rfl, rfl, ?_, ?_⟩, i + 1, by omega, rfl, rfl, rfl⟩
                      · omega
                      · (repeat' first | exact trivial | exact rfl | exact Nat.le_of_ble_eq_true rfl | exact Nat.le_refl _ | exact .inl ⟨rfl, rfl, rfl, rfl, Nat.le_refl _, Nat.le_refl _, .inr rfl, Nat.le_of_ble_eq_true rfl⟩ | exact .inl ⟨rfl, rfl, rfl, rfl, Nat.le_refl _, Nat.le_refl _, .inl rfl, Nat.le_of_ble_eq_true rfl⟩ | exact .inr ⟨rfl, rfl, rfl, rfl, rfl⟩ | exact .inl ⟨rfl, rfl, rfl, (by first | omega | (simp; done) | (simp; omega)), (by first | omega | (simp; done) | (simp; omega)), (by first | omega | (simp; done) | (simp; omega)), .inr rfl, Nat.le_of_ble_eq_true rfl⟩ | exact .inl ⟨rfl, rfl, rfl, (by first | omega | (simp; done) | (simp; omega)), (by first | omega | (simp; done) | (simp; omega)), (by first | omega | (simp; done) | (simp; omega)), .inl rfl, Nat.le_of_ble_eq_true rfl⟩ | exact fun h => h | refine ⟨?_, ?_, ?_, .inl ?_⟩ | refine ⟨?_, ?_⟩ | refine fun ii hii => ?_ | omega | fail)
                        all_goals exact wrapI (by omega)
                      · (repeat' first | exact trivial | exact rfl | exact Nat.le_of_ble_eq_true rfl | exact Nat.le_refl _ | exact .inl ⟨rfl, rfl, rfl, rfl, Nat.le_refl _, Nat.le_refl _, .inr rfl, Nat.le_of_ble_eq_true rfl⟩ | exact .inl ⟨rfl, rfl, rfl, rfl, Nat.le_refl _, Nat.le_refl _, .inl rfl, Nat.le_of_ble_eq_true rfl⟩ | exact .inr ⟨rfl, rfl, rfl, rfl, rfl⟩ | exact .inl ⟨rfl, rfl, rfl, (by first | omega | (simp; done) | (simp; omega)), (by first | omega | (simp; done) | (simp; omega)), (by first | omega | (simp; done) | (simp; omega)), .inr rfl, Nat.le_of_ble_eq_true rfl⟩ | exact .inl ⟨rfl, rfl, rfl, (by first | omega | (simp; done) | (simp; omega)), (by first | omega | (simp; done) | (simp; omega)), (by first | omega | (simp; done) | (simp; omega)), .inl rfl, Nat.le_of_ble_eq_true rfl⟩ | exact fun h => h | refine ⟨?_, ?_, ?_, .inl ?_⟩ | refine ⟨?_, ?_⟩ | refine fun ii hii => ?_ | omega | fail)
                        rw [Int.toNat_natCast, wAdd, add_at hi8, if_neg (Nat.lt_irrefl i)]
                        refine sh_ite (fun c => ⟨⟨rfl, by rw [c, add_at hi8, if_pos (Nat.lt_succ_self i)]⟩, trivial⟩) (fun c => ⟨⟨rfl, ?_⟩, trivial⟩)
                        rw [add_at hii, add_at hii]
                        by_cases c2 : ii < i
                        · rw [if_pos c2, if_pos (by omega)]
                        · rw [if_neg c2, if_neg (by omega)]
                    · rewrite [show decide ((i : Int) < 8) = false from decide_eq_false (by omega)]
                      obtain rfl : i = 8 := by omega
                      rw [add_8, show addAll A (rounds X A 64) = absorb (q + 1) firstL P from habs.symm]
                      conv => whnf
                      refine ⟨_, _, _, ?_, ⟨[], trivial, [0, 1, 2], rfl, rfl, ?_, ?_⟩, q + 1, by omega, rfl, rfl, rfl⟩
                      · omega
                      · (repeat' first | exact trivial | exact rfl | exact Nat.le_of_ble_eq_true rfl | exact Nat.le_refl _ | exact .inl ⟨rfl, rfl, rfl, rfl, Nat.le_refl _, Nat.le_refl _, .inr rfl, Nat.le_of_ble_eq_true rfl⟩ | exact .inl ⟨rfl, rfl, rfl, rfl, Nat.le_refl _, Nat.le_refl _, .inl rfl, Nat.le_of_ble_eq_true rfl⟩ | exact .inr ⟨rfl, rfl, rfl, rfl, rfl⟩ | exact .inl ⟨rfl, rfl, rfl, (by first | omega | (simp; done) | (simp; omega)), (by first | omega | (simp; done) | (simp; omega)), (by first | omega | (simp; done) | (simp; omega)), .inr rfl, Nat.le_of_ble_eq_true rfl⟩ | exact .inl ⟨rfl, rfl, rfl, (by first | omega | (simp; done) | (simp; omega)), (by first | omega | (simp; done) | (simp; omega)), (by first | omega | (simp; done) | (simp; omega)), .inl rfl, Nat.le_of_ble_eq_true rfl⟩ | exact fun h => h | refine ⟨?_, ?_, ?_, .inl ?_⟩ | refine ⟨?_, ?_⟩ | refine fun ii hii => ?_ | omega | fail)
                        all_goals exact (by rw [wrapI (by omega)]; omega)
                      · (repeat' first | exact trivial | exact rfl | exact Nat.le_of_ble_eq_true rfl | exact Nat.le_refl _ | exact .inl ⟨rfl, rfl, rfl, rfl, Nat.le_refl _, Nat.le_refl _, .inr rfl, Nat.le_of_ble_eq_true rfl⟩ | exact .inl ⟨rfl, rfl, rfl, rfl, Nat.le_refl _, Nat.le_refl _, .inl rfl, Nat.le_of_ble_eq_true rfl⟩ | exact .inr ⟨rfl, rfl, rfl, rfl, rfl⟩ | exact .inl ⟨rfl, rfl, rfl, (by first | omega | (simp; done) | (simp; omega)), (by first | omega | (simp; done) | (simp; omega)), (by first | omega | (simp; done) | (simp; omega)), .inr rfl, Nat.le_of_ble_eq_true rfl⟩ | exact .inl ⟨rfl, rfl, rfl, (by first | omega | (simp; done) | (simp; omega)), (by first | omega | (simp; done) | (simp; omega)), (by first | omega | (simp; done) | (simp; omega)), .inl rfl, Nat.le_of_ble_eq_true rfl⟩ | exact fun h => h | refine ⟨?_, ?_, ?_, .inl ?_⟩ | refine ⟨?_, ?_⟩ | refine fun ii hii => ?_ | omega | fail)
    · rewrite [show decide (((64 * q : Nat) : Int) < (P.length : Int)) = false from decide_eq_false (by omega)]
      obtain rfl : q = P.length / 64 := by omega
      generalize absorb (P.length / 64) firstL P = A at hdg
      conv => whnf
      refine Loop.inv (lwp_mono _) (fun n t1 h => ∃ (i : Nat), i ≤ 32 ∧ n = 32 - i ∧ t1 = [.any, .any, .ptr ⟨0, [], 0⟩, .any, .ptr ⟨1, [], 0⟩, .any, .any, .any, .any, .any, .any, .any, .any, .any, .any, .any, .any, .ptr ⟨2, [], 0⟩, .int .i64 (i : Int), .any, .any, .any, .any, .any, .any, .any, .any, .any, .any, .any, .any, .any, .any, .any, .any, .any, .any, .any, .any, .any, .any, .any, .any, .any, .any, .any, .any, .any, .any, .any, .any, .any, .any, .any, .any, .any, .any, .any, .any, .any, .any, .any, .any, .any, .any, .any, .any, .any, .any, .any, .any, .any, .any, .any, .any, .any, .any, .any, .any, .any, .any, .any, .any, .any, .any, .any, .any, .any, .any, .any, .any, .any, .any, .any, .any, .any, .any, .any, .any, .any, .any, .any, .any, .any, .any, .any, .any, .any, .any, .any, .any, .any, .any, .any, .any, .any, .any, .any, .any, .any, .any, .any, .any, .any, .any, .any, .any, .any, .any, .any, .any, .any, .any, .any, .any, .any, .any, .any, .any, .any, .any, .any, .any, .any, .any, .any, .any, .any, .any, .any, .any, .any, .any, .any, .any, .any, .any, .any, .any, .any, .any, .any, .any, .any, .any, .any, .any, .any, .any, .any, .any, .any, .any, .any, .any, .any, .any, .any, .any, .any, .any, .any, .any, .any, .any, .any, .any, .any, .any, .any, .any, .any, .any, .any, .any, .any, .any, .any, .any, .any, .any, .any, .any, .any, .any, .any, .any, .any, .any, .any, .any, .any, .any, .any, .any, .any, .any, .any, .any, .any, .any, .any, .any, .any, .any, .any, .any, .any, .any, .any, .any, .any, .any, .any, .any, .any, .any, .any, .any, .any, .any, .any, .any] ∧ h = [z32 [], sO A, z32 ((digest b).take i)]) ?_ ?_
      · refine ⟨_, _, _, ⟨[], trivial, [0, 1, 3], rfl, rfl, ?_, ?_⟩, 0, Nat.zero_le _, rfl, rfl, rfl⟩
        · (repeat' first | exact trivial | exact rfl | exact Nat.le_of_ble_eq_true rfl | exact Nat.le_refl _ | exact .inl ⟨rfl, rfl, rfl, rfl, Nat.le_refl _, Nat.le_refl _, .inr rfl, Nat.le_of_ble_eq_true rfl⟩ | exact .inl ⟨rfl, rfl, rfl, rfl, Nat.le_refl _, Nat.le_refl _, .inl rfl, Nat.le_of_ble_eq_true rfl⟩ | exact .inr ⟨rfl, rfl, rfl, rfl, rfl⟩ | exact .inl ⟨rfl, rfl, rfl, (by first | omega | (simp; done) | (simp; omega)), (by first | omega | (simp; done) | (simp; omega)), (by first | omega | (simp; done) | (simp; omega)), .inr rfl, Nat.le_of_ble_eq_true rfl⟩ | exact .inl ⟨rfl, rfl, rfl, (by first | omega | (simp; done) | (simp; omega)), (by first | omega | (simp; done) | (simp; omega)), (by first | omega | (simp; done) | (simp; omega)), .inl rfl, Nat.le_of_ble_eq_true rfl⟩ | exact fun h => h | refine ⟨?_, ?_, ?_, .inl ?_⟩ | refine ⟨?_, ?_⟩ | refine fun ii hii => ?_ | omega | fail)
        · (repeat' first | exact trivial | exact rfl | exact Nat.le_of_ble_eq_true rfl | exact Nat.le_refl _ | exact .inl ⟨rfl, rfl, rfl, rfl, Nat.le_refl _, Nat.le_refl _, .inr rfl, Nat.le_of_ble_eq_true rfl⟩ | exact .inl ⟨rfl, rfl, rfl, rfl, Nat.le_refl _, Nat.le_refl _, .inl rfl, Nat.le_of_ble_eq_true rfl⟩ | exact .inr ⟨rfl, rfl, rfl, rfl, rfl⟩ | exact .inl ⟨rfl, rfl, rfl, (by first | omega | (simp; done) | (simp; omega)), (by first | omega | (simp; done) | (simp; omega)), (by first | omega | (simp; done) | (simp; omega)), .inr rfl, Nat.le_of_ble_eq_true rfl⟩ | exact .inl ⟨rfl, rfl, rfl, (by first | omega | (simp; done) | (simp; omega)), (by first | omega | (simp; done) | (simp; omega)), (by first | omega | (simp; done) | (simp; omega)), .inl rfl, Nat.le_of_ble_eq_true rfl⟩ | exact fun h => h | refine ⟨?_, ?_, ?_, .inl ?_⟩ | refine ⟨?_, ?_⟩ | refine fun ii hii => ?_ | omega | fail)
      · rintro n _ _ ⟨i, hi, rfl, rfl, rfl⟩
        conv => whnf
        by_cases hi32 : i < 32
        · rewrite [show decide ((i : Int) < 32) = true from decide_eq_true (by omega)]
          conv => whnf
          refine ⟨by decide, ?_⟩
          conv => whnf
          rewrite [show ((i : Int)).tdiv 4 = ((i / 4 : Nat) : Int) from rfl, wrapI (n := ((i / 4 : Nat) : Int)) (by omega), Int.toNat_natCast]
          refine ⟨⟨by omega, by omega⟩, ?_⟩
          conv => whnf
          refine ⟨by omega, ?_⟩
          conv => whnf
          refine ⟨by decide, ?_⟩
          rewrite [show ((i : Int)).tmod 4 = ((i % 4 : Nat) : Int) from rfl]
          conv => whnf
          rewrite [wrapI (n := ((i % 4 : Nat) : Int) * 8) (by omega), wrapI (n := 24 - ((i % 4 : Nat) : Int) * 8) (by omega)]
          refine ⟨by omega, ?_⟩
          conv => whnf
          rewrite [byteW _ (i % 4) (by omega)]
          refine ⟨⟨by omega, by omega⟩, ?_⟩
          conv => whnf
          refine ⟨by show (i : Int).toNat < 32; omega, ?_⟩
          conv => whnf
          refine ⟨_, _, _, ?_, ⟨[], trivial, [0, 1, 2], rfl, rfl, ?_, ?_⟩, i + 1, by omega, rfl, rfl, rfl⟩
          · omega
          · (repeat' first | exact trivial | exact rfl | exact Nat.le_of_ble_eq_true rfl | exact Nat.le_refl _ | exact .inl ⟨rfl, rfl, rfl, rfl, Nat.le_refl _, Nat.le_refl _, .inr rfl, Nat.le_of_ble_eq_true rfl⟩ | exact .inl ⟨rfl, rfl, rfl, rfl, Nat.le_refl _, Nat.le_refl _, .inl rfl, Nat.le_of_ble_eq_true rfl⟩ | exact .inr ⟨rfl, rfl, rfl, rfl, rfl⟩ | exact .inl ⟨rfl, rfl, rfl, (by first | omega | (simp; done) | (simp; omega)), (by first | omega | (simp; done) | (simp; omega)), (by first | omega | (simp; done) | (simp; omega)), .inr rfl, Nat.le_of_ble_eq_true rfl⟩ | exact .inl ⟨rfl, rfl, rfl, (by first | omega | (simp; done) | (simp; omega)), (by first | omega | (simp; done) | (simp; omega)), (by first | omega | (simp; done) | (simp; omega)), .inl rfl, Nat.le_of_ble_eq_true rfl⟩ | exact fun h => h | refine ⟨?_, ?_, ?_, .inl ?_⟩ | refine ⟨?_, ?_⟩ | refine fun ii hii => ?_ | omega | fail)
            all_goals exact wrapI (by omega)
          · (repeat' first | exact trivial | exact rfl | exact Nat.le_of_ble_eq_true rfl | exact Nat.le_refl _ | exact .inl ⟨rfl, rfl, rfl, rfl, Nat.le_refl _, Nat.le_refl _, .inr rfl, Nat.le_of_ble_eq_true rfl⟩ | exact .inl ⟨rfl, rfl, rfl, rfl, Nat.le_refl _, Nat.le_refl _, .inl rfl, Nat.le_of_ble_eq_true rfl⟩ | exact .inr ⟨rfl, rfl, rfl, rfl, rfl⟩ | exact .inl ⟨rfl, rfl, rfl, (by first | omega | (simp; done) | (simp; omega)), (by first | omega | (simp; done) | (simp; omega)), (by first | omega | (simp; done) | (simp; omega)), .inr rfl, Nat.le_of_ble_eq_true rfl⟩ | exact .inl ⟨rfl, rfl, rfl, (by first | omega | (simp; done) | (simp; omega)), (by first | omega | (simp; done) | (simp; omega)), (by first | omega | (simp; done) | (simp; omega)), .inl rfl, Nat.le_of_ble_eq_true rfl⟩ | exact fun h => h | refine ⟨?_, ?_, ?_, .inl ?_⟩ | refine ⟨?_, ?_⟩ | refine fun ii hii => ?_ | omega | fail)
            rw [hdg]
            exact out_put hi32 rfl
        · rewrite [show decide ((i : Int) < 32) = false from decide_eq_false (by omega)]
          obtain rfl : i = 32 := by omega
          conv => whnf
          rewrite [show (digest b).take 32 = digest b from List.take_of_length_le (by rw [hdg, outOf_len]; omega)]
          conv => whnf
          refine ⟨[], _, _, rfl, rfl, ?_, ?_, rfl, rfl⟩
          · (repeat' first | exact trivial | exact rfl | exact Nat.le_of_ble_eq_true rfl | exact Nat.le_refl _ | exact .inl ⟨rfl, rfl, rfl, rfl, Nat.le_refl _, Nat.le_refl _, .inr rfl, Nat.le_of_ble_eq_true rfl⟩ | exact .inl ⟨rfl, rfl, rfl, rfl, Nat.le_refl _, Nat.le_refl _, .inl rfl, Nat.le_of_ble_eq_true rfl⟩ | exact .inr ⟨rfl, rfl, rfl, rfl, rfl⟩ | exact .inl ⟨rfl, rfl, rfl, (by first | omega | (simp; done) | (simp; omega)), (by first | omega | (simp; done) | (simp; omega)), (by first | omega | (simp; done) | (simp; omega)), .inr rfl, Nat.le_of_ble_eq_true rfl⟩ | exact .inl ⟨rfl, rfl, rfl, (by first | omega | (simp; done) | (simp; omega)), (by first | omega | (simp; done) | (simp; omega)), (by first | omega | (simp; done) | (simp; omega)), .inl rfl, Nat.le_of_ble_eq_true rfl⟩ | exact fun h => h | refine ⟨?_, ?_, ?_, .inl ?_⟩ | refine ⟨?_, ?_⟩ | refine fun ii hii => ?_ | omega | fail)
          · (repeat' first | exact trivial | exact rfl | exact Nat.le_of_ble_eq_true rfl | exact Nat.le_refl _ | exact .inl ⟨rfl, rfl, rfl, rfl, Nat.le_refl _, Nat.le_refl _, .inr rfl, Nat.le_of_ble_eq_true rfl⟩ | exact .inl ⟨rfl, rfl, rfl, rfl, Nat.le_refl _, Nat.le_refl _, .inl rfl, Nat.le_of_ble_eq_true rfl⟩ | exact .inr ⟨rfl, rfl, rfl, rfl, rfl⟩ | exact .inl ⟨rfl, rfl, rfl, (by first | omega | (simp; done) | (simp; omega)), (by first | omega | (simp; done) | (simp; omega)), (by first | omega | (simp; done) | (simp; omega)), .inr rfl, Nat.le_of_ble_eq_true rfl⟩ | exact .inl ⟨rfl, rfl, rfl, (by first | omega | (simp; done) | (simp; omega)), (by first | omega | (simp; done) | (simp; omega)), (by first | omega | (simp; done) | (simp; omega)), .inl rfl, Nat.le_of_ble_eq_true rfl⟩ | exact fun h => h | refine ⟨?_, ?_, ?_, .inl ?_⟩ | refine ⟨?_, ?_⟩ | refine fun ii hii => ?_ | omega | fail)
end Go.Proofs.YtaikhgmhocllfaaDoor.Sk
