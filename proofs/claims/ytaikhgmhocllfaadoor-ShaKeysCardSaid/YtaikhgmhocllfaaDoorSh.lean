/- Digests on the heap of the mind: the digest of what was written. By this session. -/
import Derived.Test.YtaikhgmhocllfaaDoorSg
namespace Go.Proofs.YtaikhgmhocllfaaDoor.Sk
open Go.Proofs.YtaikhgmhocllfaaDoor.Lh Go.RowKit Go.Proofs.YtaikhgmhocllfaaDoor.Sp
set_option maxRecDepth 100000
set_option linter.unusedSimpArgs false
set_option linter.unusedSectionVars false
set_option linter.unusedVariables false
def bO (t : TypeId) (l : Sp.Bs) : Option LObj := some ⟨.rows l.length 1 (bySeg l) .nil, t, false, false⟩
theorem WriteS (t : TypeId) (m ob b : Sp.Bs) (hok : HashOk m ob) (hb : m.length + b.length ≤ 4611686018427387904) : LCalls Tryd.prog 18 (.cons (.ptr ⟨0, [], 0⟩) (.cons (.slice ⟨1, [], 0⟩ 0 1 b.length b.length (some b.length)) .nil)) [hashO m ob, bO t b] (fun e h' => ∃ ob', HashOk (m ++ b) ob' ∧ e = .ret .undef ∧ h' = [hashO (m ++ b) ob', none]) := by
  refine LCalls.preF [(1, b.length, 1, bySeg b)] ⟨⟨rfl, Nat.le_refl _, rfl, fun i hi => ?_⟩, rfl, trivial⟩ [0, 1] (.cons (.ptr ⟨0, [], 0⟩) (.cons (bysV b) .nil)) [hashO m ob, none] rfl rfl ?_ ?_ ?_
  · exact ⟨⟨rfl, rfl⟩, trivial⟩
  · exact ⟨⟨rfl, Nat.le_of_ble_eq_true rfl⟩, .inr ⟨rfl, rfl, rfl, rfl, rfl, by simp, fun i hi => by show bySeg b (offs 0 i) = bySeg b i; rfl⟩, trivial⟩
  · (repeat' first | exact trivial | exact rfl | exact Nat.le_of_ble_eq_true rfl | exact Nat.le_refl _ | exact .inl ⟨rfl, rfl, rfl, rfl, Nat.le_refl _, Nat.le_refl _, .inr rfl, Nat.le_of_ble_eq_true rfl⟩ | exact .inl ⟨rfl, rfl, rfl, rfl, Nat.le_refl _, Nat.le_refl _, .inl rfl, Nat.le_of_ble_eq_true rfl⟩ | exact .inr ⟨rfl, rfl, rfl, rfl, rfl⟩ | exact .inl ⟨rfl, rfl, rfl, (by first | omega | (simp; done) | (simp; omega)), (by first | omega | (simp; done) | (simp; omega)), (by first | omega | (simp; done) | (simp; omega)), .inr rfl, Nat.le_of_ble_eq_true rfl⟩ | exact .inl ⟨rfl, rfl, rfl, (by first | omega | (simp; done) | (simp; omega)), (by first | omega | (simp; done) | (simp; omega)), (by first | omega | (simp; done) | (simp; omega)), .inl rfl, Nat.le_of_ble_eq_true rfl⟩ | exact fun h => h | refine ⟨?_, ?_, ?_, .inl ?_⟩ | refine ⟨?_, ?_⟩ | refine fun ii hii => ?_ | omega | fail)
  refine (LCalls.frame (H := [hashO m ob, none]) (Write m ob b hok hb) [0] rfl ⟨rfl, trivial⟩).mono ?_
  rintro _ _ ⟨_, _, ⟨ob', h1, rfl, rfl⟩, rfl, rfl⟩
  exact ⟨ob', h1, rfl, rfl⟩
theorem lit1 (v : UInt8) {n : Int} (h : n = (v.toNat : Int)) : (fun j => if j = 0 then Segs.one (.int .u8 n) .nil else (fun (_ : Nat) => Segs.one (.int .u8 0) .nil) j) = bySeg [v] := funext fun j => by
  unfold bySeg
  cases j with
  | zero => rw [if_pos rfl, h]; rfl
  | succ j => rw [if_neg (Nat.succ_ne_zero j)]; rfl
theorem get_app_last {l : Sp.Bs} {v : UInt8} {j : Nat} : (l ++ [v]).getD j 0 = if j = l.length then v else l.getD j 0 := by
  rw [List.getD_eq_getElem?_getD, List.getD_eq_getElem?_getD]
  rcases Nat.lt_trichotomy j l.length with c | c | c
  · rw [if_neg (by omega), List.getElem?_append_left c]
  · rw [if_pos c, List.getElem?_append_right (by omega), c, Nat.sub_self]; rfl
  · rw [if_neg (by omega), List.getElem?_eq_none (by rw [List.length_append, List.length_singleton]; omega), List.getElem?_eq_none (by omega)]
theorem outOf_take {h : List B} {k : Nat} (hk : k < 32) : (outOf h).take (k + 1) = (outOf h).take k ++ [UInt8.ofNat ((h.getD (k / 4) 0).toNat / 256 ^ (3 - k % 4))] := by
  rw [List.take_add_one]
  congr 1
  unfold outOf
  rw [List.getElem?_map, List.getElem?_range hk]
  rfl
theorem outOf_len (h : List B) : (outOf h).length = 32 := by simp [outOf]
theorem byteW (x : B) (k : Nat) (hk : k < 4) : IntKind.u8.wrap (((x.toNat : Int)).fdiv (2 ^ min (24 - (k : Int) * 8).toNat IntKind.u32.bits)) = ((UInt8.ofNat (x.toNat / 256 ^ (3 - k))).toNat : Int) := by
  have e1 : min (24 - (k : Int) * 8).toNat IntKind.u32.bits = 8 * (3 - k) := by
    rw [show (24 - (k : Int) * 8).toNat = 8 * (3 - k) by omega]
    exact Nat.min_eq_left (by show 8 * (3 - k) ≤ 32; omega)
  have e2 : ((2 : Int) ^ (8 * (3 - k))) = ((256 ^ (3 - k) : Nat) : Int) := by rw [Int.pow_mul]; norm_cast
  rw [e1, e2, Int.fdiv_eq_ediv_of_nonneg _ (Int.natCast_nonneg _), ← Int.natCast_ediv]
  generalize x.toNat / 256 ^ (3 - k) = m
  rw [UInt8.toNat_ofNat']
  simp [IntKind.wrap, IntKind.bits, IntKind.signed]
theorem out_put {K : Nat} {F : Fzl} {g : Nat → Nat} {h : List B} {k j : Nat} {n : Int} (hk : k < 32) (hn : n = ((UInt8.ofNat ((h.getD (k / 4) 0).toNat / 256 ^ (3 - k % 4))).toNat : Int)) : shS K F (if j = (k : Int).toNat then .one (.int .u8 n) .nil else bySeg ((outOf h).take k) j) (renS g (bySeg ((outOf h).take (k + 1)) j)) := by
  have hl : ((outOf h).take k).length = k := by rw [List.length_take, outOf_len]; omega
  rw [Int.toNat_natCast, outOf_take hk]
  exact sh_ite (fun c => ⟨⟨rfl, by rw [get_app_last, hl, if_pos c, hn]⟩, trivial⟩) (fun c => ⟨⟨rfl, by rw [get_app_last, hl, if_neg c]⟩, trivial⟩)
def z32 (l : Sp.Bs) : Option LObj := some ⟨.rows 32 1 (bySeg l) .nil, 24, false, false⟩
set_option maxHeartbeats 2000000 in
theorem Sum (m ob : Sp.Bs) (hok : HashOk m ob) (hb : m.length ≤ 1152921504606846976) : LCalls Tryd.prog 19 (.cons (.ptr ⟨0, [], 0⟩) .nil) [hashO m ob] (fun e h' => e = .ret (.agg (.rows 32 1 (bySeg (digest m)) .nil)) ∧ h' = [hashO m ob]) := by
  refine LCalls.tell ?_; refine enter19 rfl ?_; conv => whnf
  rewrite [lit1 (n := 128) 128 rfl]
  refine LCalls.use (WriteS 5 m ob [128] hok (by simp; omega)) [2, 3] rfl rfl ⟨rfl, rfl, trivial⟩ ?_
  rintro _ _ ⟨ob1, hok1, rfl, rfl⟩
  conv => whnf
  refine Loop.inv (lwp_mono _) (fun q t1 h => ∃ (j : Nat) (ob' : Sp.Bs), j ≤ zerosN m.length ∧ HashOk (m ++ [128] ++ List.replicate j 0) ob' ∧ q = zerosN m.length - j ∧ t1 = [.ptr ⟨0, [], 0⟩, .any, .ptr ⟨1, [], 0⟩, .ptr ⟨2, [], 0⟩, .int .u64 ((m.length * 8 : Nat) : Int), .any, .any, .any, .any, .any, .any, .any, .any, .any, .any, .any, .any, .any, .any, .any, .any, .any, .any, .any, .any, .any, .any, .any, .any, .any, .any, .any, .any, .any, .any, .any, .any, .any, .any, .any, .any, .any, .any, .any, .any, .any, .any, .any, .any, .any, .any, .any, .any] ∧ h = [hashO m ob, z32 [], hashO (m ++ [128] ++ List.replicate j 0) ob']) ?_ ?_
  · refine ⟨_, _, _, ⟨[], trivial, [0, 1, 2], rfl, rfl, ?_, ?_⟩, 0, ob1, Nat.zero_le _, (by rw [List.replicate_zero, List.append_nil]; exact hok1), rfl, rfl, rfl⟩
    · (repeat' first | exact trivial | exact rfl | exact Nat.le_of_ble_eq_true rfl | exact Nat.le_refl _ | exact .inl ⟨rfl, rfl, rfl, rfl, Nat.le_refl _, Nat.le_refl _, .inr rfl, Nat.le_of_ble_eq_true rfl⟩ | exact .inl ⟨rfl, rfl, rfl, rfl, Nat.le_refl _, Nat.le_refl _, .inl rfl, Nat.le_of_ble_eq_true rfl⟩ | exact .inr ⟨rfl, rfl, rfl, rfl, rfl⟩ | exact .inl ⟨rfl, rfl, rfl, (by first | omega | (simp; done) | (simp; omega)), (by first | omega | (simp; done) | (simp; omega)), (by first | omega | (simp; done) | (simp; omega)), .inr rfl, Nat.le_of_ble_eq_true rfl⟩ | exact .inl ⟨rfl, rfl, rfl, (by first | omega | (simp; done) | (simp; omega)), (by first | omega | (simp; done) | (simp; omega)), (by first | omega | (simp; done) | (simp; omega)), .inl rfl, Nat.le_of_ble_eq_true rfl⟩ | exact fun h => h | refine ⟨?_, ?_, ?_, .inl ?_⟩ | refine ⟨?_, ?_⟩ | refine fun ii hii => ?_ | omega | fail)
      all_goals exact (by rw [wrapN (n := m.length) (by omega), show ((m.length : Int)) * 8 = ((m.length * 8 : Nat) : Int) by omega, wrapN (by omega)])
    · rewrite [List.replicate_zero, List.append_nil]
      (repeat' first | exact trivial | exact rfl | exact Nat.le_of_ble_eq_true rfl | exact Nat.le_refl _ | exact .inl ⟨rfl, rfl, rfl, rfl, Nat.le_refl _, Nat.le_refl _, .inr rfl, Nat.le_of_ble_eq_true rfl⟩ | exact .inl ⟨rfl, rfl, rfl, rfl, Nat.le_refl _, Nat.le_refl _, .inl rfl, Nat.le_of_ble_eq_true rfl⟩ | exact .inr ⟨rfl, rfl, rfl, rfl, rfl⟩ | exact .inl ⟨rfl, rfl, rfl, (by first | omega | (simp; done) | (simp; omega)), (by first | omega | (simp; done) | (simp; omega)), (by first | omega | (simp; done) | (simp; omega)), .inr rfl, Nat.le_of_ble_eq_true rfl⟩ | exact .inl ⟨rfl, rfl, rfl, (by first | omega | (simp; done) | (simp; omega)), (by first | omega | (simp; done) | (simp; omega)), (by first | omega | (simp; done) | (simp; omega)), .inl rfl, Nat.le_of_ble_eq_true rfl⟩ | exact fun h => h | refine ⟨?_, ?_, ?_, .inl ?_⟩ | refine ⟨?_, ?_⟩ | refine fun ii hii => ?_ | omega | fail)
  · rintro q _ _ ⟨j, ob', hj, hok', rfl, rfl, rfl⟩
    generalize hM : m ++ [128] ++ List.replicate j (0 : UInt8) = M at hok' ⊢
    have hlj : M.length = m.length + 1 + j := by rw [← hM]; simp; omega
    have hz := zeros_fit m.length j hj
    have hz2 : zerosN m.length < 64 := by unfold zerosN; omega
    conv => whnf
    refine ⟨by decide, ?_⟩
    rewrite [tmodN]
    conv => whnf
    by_cases hc : j = zerosN m.length
    · rewrite [show (((M.length % 64 : Nat) : Int) != 56) = false by rw [hlj, show (m.length + 1 + j) % 64 = 56 from hz.2 hc]; rfl]
      conv => whnf
      subst hc
      refine Loop.inv (lwp_mono _) (fun q t1 h => ∃ (k : Nat) (ob' : Sp.Bs), k ≤ 8 ∧ HashOk (M ++ (be8 (m.length * 8)).take k) ob' ∧ q = 8 - k ∧ t1 = [.ptr ⟨0, [], 0⟩, .any, .ptr ⟨1, [], 0⟩, .ptr ⟨2, [], 0⟩, .int .u64 ((m.length * 8 : Nat) : Int), .any, .any, .any, .any, .any, .any, .any, .any, .any, .any, .any, .any, .any, .any, .any, .any, .any, .any, .int .i64 (k : Int), .any, .any, .any, .any, .any, .any, .any, .any, .any, .any, .any, .any, .any, .any, .any, .any, .any, .any, .any, .any, .any, .any, .any, .any, .any, .any, .any, .any, .any] ∧ h = [hashO m ob, z32 [], hashO (M ++ (be8 (m.length * 8)).take k) ob']) ?_ ?_
      · refine ⟨_, _, _, ⟨[], trivial, [0, 1, 2], rfl, rfl, ?_, ?_⟩, 0, ob', Nat.zero_le _, (by rw [List.take_zero, List.append_nil]; exact hok'), rfl, rfl, rfl⟩
        · (repeat' first | exact trivial | exact rfl | exact Nat.le_of_ble_eq_true rfl | exact Nat.le_refl _ | exact .inl ⟨rfl, rfl, rfl, rfl, Nat.le_refl _, Nat.le_refl _, .inr rfl, Nat.le_of_ble_eq_true rfl⟩ | exact .inl ⟨rfl, rfl, rfl, rfl, Nat.le_refl _, Nat.le_refl _, .inl rfl, Nat.le_of_ble_eq_true rfl⟩ | exact .inr ⟨rfl, rfl, rfl, rfl, rfl⟩ | exact .inl ⟨rfl, rfl, rfl, (by first | omega | (simp; done) | (simp; omega)), (by first | omega | (simp; done) | (simp; omega)), (by first | omega | (simp; done) | (simp; omega)), .inr rfl, Nat.le_of_ble_eq_true rfl⟩ | exact .inl ⟨rfl, rfl, rfl, (by first | omega | (simp; done) | (simp; omega)), (by first | omega | (simp; done) | (simp; omega)), (by first | omega | (simp; done) | (simp; omega)), .inl rfl, Nat.le_of_ble_eq_true rfl⟩ | exact fun h => h | refine ⟨?_, ?_, ?_, .inl ?_⟩ | refine ⟨?_, ?_⟩ | refine fun ii hii => ?_ | omega | fail)
        · rewrite [List.take_zero, List.append_nil]
          (repeat' first | exact trivial | exact rfl | exact Nat.le_of_ble_eq_true rfl | exact Nat.le_refl _ | exact .inl ⟨rfl, rfl, rfl, rfl, Nat.le_refl _, Nat.le_refl _, .inr rfl, Nat.le_of_ble_eq_true rfl⟩ | exact .inl ⟨rfl, rfl, rfl, rfl, Nat.le_refl _, Nat.le_refl _, .inl rfl, Nat.le_of_ble_eq_true rfl⟩ | exact .inr ⟨rfl, rfl, rfl, rfl, rfl⟩ | exact .inl ⟨rfl, rfl, rfl, (by first | omega | (simp; done) | (simp; omega)), (by first | omega | (simp; done) | (simp; omega)), (by first | omega | (simp; done) | (simp; omega)), .inr rfl, Nat.le_of_ble_eq_true rfl⟩ | exact .inl ⟨rfl, rfl, rfl, (by first | omega | (simp; done) | (simp; omega)), (by first | omega | (simp; done) | (simp; omega)), (by first | omega | (simp; done) | (simp; omega)), .inl rfl, Nat.le_of_ble_eq_true rfl⟩ | exact fun h => h | refine ⟨?_, ?_, ?_, .inl ?_⟩ | refine ⟨?_, ?_⟩ | refine fun ii hii => ?_ | omega | fail)
      · rintro q _ _ ⟨k, ob3, hk, hok3, rfl, rfl, rfl⟩
        generalize hN : M ++ (be8 (m.length * 8)).take k = N at hok3 ⊢
        have hNl : N.length ≤ m.length + 1 + zerosN m.length + 8 := by rw [← hN, List.length_append, List.length_take, hlj]; omega
        conv => whnf
        by_cases hk8 : k < 8
        · rewrite [show decide ((k : Int) < 8) = true from decide_eq_true (by omega)]
          conv => whnf
          rewrite [wrapI (n := 8 * (k : Int)) (by omega), wrapI (n := 56 - 8 * (k : Int)) (by omega), show 56 - 8 * (k : Int) = 8 * (7 - (k : Int)) by omega]
          refine ⟨by omega, ?_⟩
          conv => whnf
          rewrite [byteK k hk8 (m.length * 8), lit1 (UInt8.ofNat (m.length * 8 / 256 ^ (7 - k))) rfl]
          refine LCalls.use (WriteS 5 N ob3 [UInt8.ofNat (m.length * 8 / 256 ^ (7 - k))] hok3 (by simp; omega)) [2, 3] rfl rfl ⟨rfl, rfl, trivial⟩ ?_
          rintro _ _ ⟨ob4, hok4, rfl, rfl⟩
          conv => whnf
          have hrep : M ++ (be8 (m.length * 8)).take (k + 1) = N ++ [UInt8.ofNat (m.length * 8 / 256 ^ (7 - k))] := by rw [be8_take hk8, ← List.append_assoc, hN]
          refine ⟨_, _, _, ?_, ⟨[], trivial, [0, 1, 2], rfl, rfl, ?_, ?_⟩, k + 1, ob4, by omega, (by rw [hrep]; exact hok4), rfl, rfl, rfl⟩
          · omega
          · (repeat' first | exact trivial | exact rfl | exact Nat.le_of_ble_eq_true rfl | exact Nat.le_refl _ | exact .inl ⟨rfl, rfl, rfl, rfl, Nat.le_refl _, Nat.le_refl _, .inr rfl, Nat.le_of_ble_eq_true rfl⟩ | exact .inl ⟨rfl, rfl, rfl, rfl, Nat.le_refl _, Nat.le_refl _, .inl rfl, Nat.le_of_ble_eq_true rfl⟩ | exact .inr ⟨rfl, rfl, rfl, rfl, rfl⟩ | exact .inl ⟨rfl, rfl, rfl, (by first | omega | (simp; done) | (simp; omega)), (by first | omega | (simp; done) | (simp; omega)), (by first | omega | (simp; done) | (simp; omega)), .inr rfl, Nat.le_of_ble_eq_true rfl⟩ | exact .inl ⟨rfl, rfl, rfl, (by first | omega | (simp; done) | (simp; omega)), (by first | omega | (simp; done) | (simp; omega)), (by first | omega | (simp; done) | (simp; omega)), .inl rfl, Nat.le_of_ble_eq_true rfl⟩ | exact fun h => h | refine ⟨?_, ?_, ?_, .inl ?_⟩ | refine ⟨?_, ?_⟩ | refine fun ii hii => ?_ | omega | fail)
            all_goals exact wrapI (by omega)
          · rewrite [hrep]
            (repeat' first | exact trivial | exact rfl | exact Nat.le_of_ble_eq_true rfl | exact Nat.le_refl _ | exact .inl ⟨rfl, rfl, rfl, rfl, Nat.le_refl _, Nat.le_refl _, .inr rfl, Nat.le_of_ble_eq_true rfl⟩ | exact .inl ⟨rfl, rfl, rfl, rfl, Nat.le_refl _, Nat.le_refl _, .inl rfl, Nat.le_of_ble_eq_true rfl⟩ | exact .inr ⟨rfl, rfl, rfl, rfl, rfl⟩ | exact .inl ⟨rfl, rfl, rfl, (by first | omega | (simp; done) | (simp; omega)), (by first | omega | (simp; done) | (simp; omega)), (by first | omega | (simp; done) | (simp; omega)), .inr rfl, Nat.le_of_ble_eq_true rfl⟩ | exact .inl ⟨rfl, rfl, rfl, (by first | omega | (simp; done) | (simp; omega)), (by first | omega | (simp; done) | (simp; omega)), (by first | omega | (simp; done) | (simp; omega)), .inl rfl, Nat.le_of_ble_eq_true rfl⟩ | exact fun h => h | refine ⟨?_, ?_, ?_, .inl ?_⟩ | refine ⟨?_, ?_⟩ | refine fun ii hii => ?_ | omega | fail)
        · rewrite [show decide ((k : Int) < 8) = false from decide_eq_false (by omega)]
          obtain rfl : k = 8 := by omega
          have hpd : N = padded m := by rw [← hN, ← hM, List.take_of_length_le (by simp [be8])]; rfl
          subst hpd
          have hdg : digest m = outOf (stateOf (padded m)) := rfl
          conv => whnf
          refine Loop.inv (lwp_mono _) (fun q t1 h => ∃ (i : Nat), i ≤ 32 ∧ q = 32 - i ∧ t1 = [.ptr ⟨0, [], 0⟩, .any, .ptr ⟨1, [], 0⟩, .ptr ⟨2, [], 0⟩, .any, .any, .ptr ⟨3, [], 0⟩, .any, .any, .any, .any, .any, .any, .any, .any, .any, .any, .any, .any, .any, .any, .any, .any, .any, .any, .any, .any, .any, .any, .any, .any, .any, .any, .any, .any, .int .i64 (i : Int), .any, .any, .any, .any, .any, .any, .any, .any, .any, .any, .any, .any, .any, .any, .any, .any, .any] ∧ h = [hashO m ob, z32 [], hashO (padded m) ob3, z32 ((digest m).take i)]) ?_ ?_
          · refine ⟨_, _, _, ⟨[], trivial, [0, 1, 2, 3], rfl, rfl, ?_, ?_⟩, 0, Nat.zero_le _, rfl, rfl, rfl⟩
            · (repeat' first | exact trivial | exact rfl | exact Nat.le_of_ble_eq_true rfl | exact Nat.le_refl _ | exact .inl ⟨rfl, rfl, rfl, rfl, Nat.le_refl _, Nat.le_refl _, .inr rfl, Nat.le_of_ble_eq_true rfl⟩ | exact .inl ⟨rfl, rfl, rfl, rfl, Nat.le_refl _, Nat.le_refl _, .inl rfl, Nat.le_of_ble_eq_true rfl⟩ | exact .inr ⟨rfl, rfl, rfl, rfl, rfl⟩ | exact .inl ⟨rfl, rfl, rfl, (by first | omega | (simp; done) | (simp; omega)), (by first | omega | (simp; done) | (simp; omega)), (by first | omega | (simp; done) | (simp; omega)), .inr rfl, Nat.le_of_ble_eq_true rfl⟩ | exact .inl ⟨rfl, rfl, rfl, (by first | omega | (simp; done) | (simp; omega)), (by first | omega | (simp; done) | (simp; omega)), (by first | omega | (simp; done) | (simp; omega)), .inl rfl, Nat.le_of_ble_eq_true rfl⟩ | exact fun h => h | refine ⟨?_, ?_, ?_, .inl ?_⟩ | refine ⟨?_, ?_⟩ | refine fun ii hii => ?_ | omega | fail)
            · (repeat' first | exact trivial | exact rfl | exact Nat.le_of_ble_eq_true rfl | exact Nat.le_refl _ | exact .inl ⟨rfl, rfl, rfl, rfl, Nat.le_refl _, Nat.le_refl _, .inr rfl, Nat.le_of_ble_eq_true rfl⟩ | exact .inl ⟨rfl, rfl, rfl, rfl, Nat.le_refl _, Nat.le_refl _, .inl rfl, Nat.le_of_ble_eq_true rfl⟩ | exact .inr ⟨rfl, rfl, rfl, rfl, rfl⟩ | exact .inl ⟨rfl, rfl, rfl, (by first | omega | (simp; done) | (simp; omega)), (by first | omega | (simp; done) | (simp; omega)), (by first | omega | (simp; done) | (simp; omega)), .inr rfl, Nat.le_of_ble_eq_true rfl⟩ | exact .inl ⟨rfl, rfl, rfl, (by first | omega | (simp; done) | (simp; omega)), (by first | omega | (simp; done) | (simp; omega)), (by first | omega | (simp; done) | (simp; omega)), .inl rfl, Nat.le_of_ble_eq_true rfl⟩ | exact fun h => h | refine ⟨?_, ?_, ?_, .inl ?_⟩ | refine ⟨?_, ?_⟩ | refine fun ii hii => ?_ | omega | fail)
          · rintro q _ _ ⟨i, hi, rfl, rfl, rfl⟩
            conv => whnf
            by_cases hi32 : i < 32
            · rewrite [show decide ((i : Int) < 32) = true from decide_eq_true (by omega)]
              conv => whnf
              refine ⟨by decide, ?_⟩
              conv => whnf
              rewrite [show ((i : Int)).tdiv 4 = ((i / 4 : Nat) : Int) from rfl, wrapI (n := ((i / 4 : Nat) : Int)) (by omega), Int.toNat_natCast]
              refine ⟨⟨by omega, by omega⟩, ?_⟩
              conv => whnf
              refine ⟨by omega, ?_⟩
              conv => whnf
              refine ⟨by decide, ?_⟩
              rewrite [show ((i : Int)).tmod 4 = ((i % 4 : Nat) : Int) from rfl]
              conv => whnf
              rewrite [wrapI (n := ((i % 4 : Nat) : Int) * 8) (by omega), wrapI (n := 24 - ((i % 4 : Nat) : Int) * 8) (by omega)]
              refine ⟨by omega, ?_⟩
              conv => whnf
              rewrite [byteW _ (i % 4) (by omega)]
              refine ⟨⟨by omega, by omega⟩, ?_⟩
              conv => whnf
              refine ⟨by show (i : Int).toNat < 32; omega, ?_⟩
              conv => whnf
              refine ⟨_, _, _, ?_, ⟨[], trivial, [0, 1, 2, 3], rfl, rfl, ?_, ?_⟩, i + 1, by omega, rfl, rfl, rfl⟩
              · omega
              · (repeat' first | exact trivial | exact rfl | exact Nat.le_of_ble_eq_true rfl | exact Nat.le_refl _ | exact .inl ⟨rfl, rfl, rfl, rfl, Nat.le_refl _, Nat.le_refl _, .inr rfl, Nat.le_of_ble_eq_true rfl⟩ | exact .inl ⟨rfl, rfl, rfl, rfl, Nat.le_refl _, Nat.le_refl _, .inl rfl, Nat.le_of_ble_eq_true rfl⟩ | exact .inr ⟨rfl, rfl, rfl, rfl, rfl⟩ | exact .inl ⟨rfl, rfl, rfl, (by first | omega | (simp; done) | (simp; omega)), (by first | omega | (simp; done) | (simp; omega)), (by first | omega | (simp; done) | (simp; omega)), .inr rfl, Nat.le_of_ble_eq_true rfl⟩ | exact .inl ⟨rfl, rfl, rfl, (by first | omega | (simp; done) | (simp; omega)), (by first | omega | (simp; done) | (simp; omega)), (by first | omega | (simp; done) | (simp; omega)), .inl rfl, Nat.le_of_ble_eq_true rfl⟩ | exact fun h => h | refine ⟨?_, ?_, ?_, .inl ?_⟩ | refine ⟨?_, ?_⟩ | refine fun ii hii => ?_ | omega | fail)
                all_goals exact wrapI (by omega)
              · (repeat' first | exact trivial | exact rfl | exact Nat.le_of_ble_eq_true rfl | exact Nat.le_refl _ | exact .inl ⟨rfl, rfl, rfl, rfl, Nat.le_refl _, Nat.le_refl _, .inr rfl, Nat.le_of_ble_eq_true rfl⟩ | exact .inl ⟨rfl, rfl, rfl, rfl, Nat.le_refl _, Nat.le_refl _, .inl rfl, Nat.le_of_ble_eq_true rfl⟩ | exact .inr ⟨rfl, rfl, rfl, rfl, rfl⟩ | exact .inl ⟨rfl, rfl, rfl, (by first | omega | (simp; done) | (simp; omega)), (by first | omega | (simp; done) | (simp; omega)), (by first | omega | (simp; done) | (simp; omega)), .inr rfl, Nat.le_of_ble_eq_true rfl⟩ | exact .inl ⟨rfl, rfl, rfl, (by first | omega | (simp; done) | (simp; omega)), (by first | omega | (simp; done) | (simp; omega)), (by first | omega | (simp; done) | (simp; omega)), .inl rfl, Nat.le_of_ble_eq_true rfl⟩ | exact fun h => h | refine ⟨?_, ?_, ?_, .inl ?_⟩ | refine ⟨?_, ?_⟩ | refine fun ii hii => ?_ | omega | fail)
                rw [hdg]
                exact out_put hi32 rfl
            · rewrite [show decide ((i : Int) < 32) = false from decide_eq_false (by omega)]
              obtain rfl : i = 32 := by omega
              conv => whnf
              rewrite [show (digest m).take 32 = digest m from List.take_of_length_le (by rw [hdg, outOf_len]; omega)]
              conv => whnf
              refine ⟨[0], _, _, rfl, rfl, ?_, ?_, rfl, rfl⟩
              · (repeat' first | exact trivial | exact rfl | exact Nat.le_of_ble_eq_true rfl | exact Nat.le_refl _ | exact .inl ⟨rfl, rfl, rfl, rfl, Nat.le_refl _, Nat.le_refl _, .inr rfl, Nat.le_of_ble_eq_true rfl⟩ | exact .inl ⟨rfl, rfl, rfl, rfl, Nat.le_refl _, Nat.le_refl _, .inl rfl, Nat.le_of_ble_eq_true rfl⟩ | exact .inr ⟨rfl, rfl, rfl, rfl, rfl⟩ | exact .inl ⟨rfl, rfl, rfl, (by first | omega | (simp; done) | (simp; omega)), (by first | omega | (simp; done) | (simp; omega)), (by first | omega | (simp; done) | (simp; omega)), .inr rfl, Nat.le_of_ble_eq_true rfl⟩ | exact .inl ⟨rfl, rfl, rfl, (by first | omega | (simp; done) | (simp; omega)), (by first | omega | (simp; done) | (simp; omega)), (by first | omega | (simp; done) | (simp; omega)), .inl rfl, Nat.le_of_ble_eq_true rfl⟩ | exact fun h => h | refine ⟨?_, ?_, ?_, .inl ?_⟩ | refine ⟨?_, ?_⟩ | refine fun ii hii => ?_ | omega | fail)
              · (repeat' first | exact trivial | exact rfl | exact Nat.le_of_ble_eq_true rfl | exact Nat.le_refl _ | exact .inl ⟨rfl, rfl, rfl, rfl, Nat.le_refl _, Nat.le_refl _, .inr rfl, Nat.le_of_ble_eq_true rfl⟩ | exact .inl ⟨rfl, rfl, rfl, rfl, Nat.le_refl _, Nat.le_refl _, .inl rfl, Nat.le_of_ble_eq_true rfl⟩ | exact .inr ⟨rfl, rfl, rfl, rfl, rfl⟩ | exact .inl ⟨rfl, rfl, rfl, (by first | omega | (simp; done) | (simp; omega)), (by first | omega | (simp; done) | (simp; omega)), (by first | omega | (simp; done) | (simp; omega)), .inr rfl, Nat.le_of_ble_eq_true rfl⟩ | exact .inl ⟨rfl, rfl, rfl, (by first | omega | (simp; done) | (simp; omega)), (by first | omega | (simp; done) | (simp; omega)), (by first | omega | (simp; done) | (simp; omega)), .inl rfl, Nat.le_of_ble_eq_true rfl⟩ | exact fun h => h | refine ⟨?_, ?_, ?_, .inl ?_⟩ | refine ⟨?_, ?_⟩ | refine fun ii hii => ?_ | omega | fail)
    · rewrite [show (((M.length % 64 : Nat) : Int) != 56) = true from bne_iff_ne.2 (fun x => hc (hz.1 (by omega)))]
      conv => whnf
      rewrite [lit1 (n := 0) 0 rfl]
      refine LCalls.use (WriteS 5 M ob' [0] hok' (by simp; omega)) [2, 3] rfl rfl ⟨rfl, rfl, trivial⟩ ?_
      rintro _ _ ⟨ob2, hok2, rfl, rfl⟩
      conv => whnf
      have hrep : m ++ [128] ++ List.replicate (j + 1) (0 : UInt8) = M ++ [0] := by rw [List.replicate_succ', ← List.append_assoc, hM]
      refine ⟨_, _, _, ?_, ⟨[], trivial, [0, 1, 2], rfl, rfl, ?_, ?_⟩, j + 1, ob2, by omega, (by rw [hrep]; exact hok2), rfl, rfl, rfl⟩
      · omega
      · (repeat' first | exact trivial | exact rfl | exact Nat.le_of_ble_eq_true rfl | exact Nat.le_refl _ | exact .inl ⟨rfl, rfl, rfl, rfl, Nat.le_refl _, Nat.le_refl _, .inr rfl, Nat.le_of_ble_eq_true rfl⟩ | exact .inl ⟨rfl, rfl, rfl, rfl, Nat.le_refl _, Nat.le_refl _, .inl rfl, Nat.le_of_ble_eq_true rfl⟩ | exact .inr ⟨rfl, rfl, rfl, rfl, rfl⟩ | exact .inl ⟨rfl, rfl, rfl, (by first | omega | (simp; done) | (simp; omega)), (by first | omega | (simp; done) | (simp; omega)), (by first | omega | (simp; done) | (simp; omega)), .inr rfl, Nat.le_of_ble_eq_true rfl⟩ | exact .inl ⟨rfl, rfl, rfl, (by first | omega | (simp; done) | (simp; omega)), (by first | omega | (simp; done) | (simp; omega)), (by first | omega | (simp; done) | (simp; omega)), .inl rfl, Nat.le_of_ble_eq_true rfl⟩ | exact fun h => h | refine ⟨?_, ?_, ?_, .inl ?_⟩ | refine ⟨?_, ?_⟩ | refine fun ii hii => ?_ | omega | fail)
      · rewrite [hrep]
        (repeat' first | exact trivial | exact rfl | exact Nat.le_of_ble_eq_true rfl | exact Nat.le_refl _ | exact .inl ⟨rfl, rfl, rfl, rfl, Nat.le_refl _, Nat.le_refl _, .inr rfl, Nat.le_of_ble_eq_true rfl⟩ | exact .inl ⟨rfl, rfl, rfl, rfl, Nat.le_refl _, Nat.le_refl _, .inl rfl, Nat.le_of_ble_eq_true rfl⟩ | exact .inr ⟨rfl, rfl, rfl, rfl, rfl⟩ | exact .inl ⟨rfl, rfl, rfl, (by first | omega | (simp; done) | (simp; omega)), (by first | omega | (simp; done) | (simp; omega)), (by first | omega | (simp; done) | (simp; omega)), .inr rfl, Nat.le_of_ble_eq_true rfl⟩ | exact .inl ⟨rfl, rfl, rfl, (by first | omega | (simp; done) | (simp; omega)), (by first | omega | (simp; done) | (simp; omega)), (by first | omega | (simp; done) | (simp; omega)), .inl rfl, Nat.le_of_ble_eq_true rfl⟩ | exact fun h => h | refine ⟨?_, ?_, ?_, .inl ?_⟩ | refine ⟨?_, ?_⟩ | refine fun ii hii => ?_ | omega | fail)
end Go.Proofs.YtaikhgmhocllfaaDoor.Sk
