/- Digests on the heap of the mind: the document's tags. By this session. -/
import Derived.Test.YtaikhgmhocllfaaDoorSi
import Derived.Test.YtaikhgmhocllfaaDoorSj
namespace Go.Proofs.YtaikhgmhocllfaaDoor.Sk
open Go.Proofs.YtaikhgmhocllfaaDoor.Lh Go.RowKit Go.Proofs.YtaikhgmhocllfaaDoor.Sp
set_option maxRecDepth 100000
set_option linter.unusedSimpArgs false
set_option linter.unusedSectionVars false
set_option linter.unusedVariables false
theorem refSumS (l : Sp.Bs) (hb : l.length ≤ 1073741824) : LCalls Tryd.prog 14 (.cons (.slice ⟨0, [], 0⟩ 0 1 l.length l.length none) .nil) [arrB l] (fun e h' => e = .ret (dV (digest l)) ∧ h' = [none]) := by
  refine LCalls.preF [(0, l.length, 1, bySeg l)] ⟨⟨rfl, Nat.le_refl _, rfl, fun i hi => ?_⟩, rfl, trivial⟩ [0] (.cons (bysV l) .nil) [none] rfl rfl ?_ ?_ ?_
  · exact ⟨⟨rfl, rfl⟩, trivial⟩
  · exact ⟨.inr ⟨rfl, rfl, rfl, rfl, rfl, by simp, fun i hi => by show bySeg l (offs 0 i) = bySeg l i; rfl⟩, trivial⟩
  · (repeat' first | exact trivial | exact rfl | exact Nat.le_of_ble_eq_true rfl | exact Nat.le_refl _ | exact .inl ⟨rfl, rfl, rfl, rfl, Nat.le_refl _, Nat.le_refl _, .inr rfl, Nat.le_of_ble_eq_true rfl⟩ | exact .inl ⟨rfl, rfl, rfl, rfl, Nat.le_refl _, Nat.le_refl _, .inl rfl, Nat.le_of_ble_eq_true rfl⟩ | exact .inr ⟨rfl, rfl, rfl, rfl, rfl⟩ | exact .inl ⟨rfl, rfl, rfl, (by first | omega | (simp; done) | (simp; omega)), (by first | omega | (simp; done) | (simp; omega)), (by first | omega | (simp; done) | (simp; omega)), .inr rfl, Nat.le_of_ble_eq_true rfl⟩ | exact .inl ⟨rfl, rfl, rfl, (by first | omega | (simp; done) | (simp; omega)), (by first | omega | (simp; done) | (simp; omega)), (by first | omega | (simp; done) | (simp; omega)), .inl rfl, Nat.le_of_ble_eq_true rfl⟩ | exact fun h => h | refine ⟨?_, ?_, ?_, .inl ?_⟩ | refine ⟨?_, ?_⟩ | refine fun ii hii => ?_ | omega | fail)
  refine (LCalls.frame (H := [none]) (refSum l hb) [] rfl trivial).mono ?_
  rintro _ _ ⟨_, _, ⟨rfl, rfl⟩, rfl, rfl⟩
  exact ⟨rfl, rfl⟩
theorem app_rows (l b : Sp.Bs) {n : Nat} (hn : n = l.length) : (fun i => if i < n then bySeg l (0 + i) else bySeg b (i - n)) = bySeg (l ++ b) := funext fun i => by
  unfold bySeg
  rw [List.getD_eq_getElem?_getD, List.getD_eq_getElem?_getD, List.getD_eq_getElem?_getD, Nat.zero_add]
  split
  · rw [List.getElem?_append_left (by omega)]
  · rw [List.getElem?_append_right (by omega), hn]
theorem app_rows2 (l b : Sp.Bs) : (fun i => if i < l.length then bySeg l (0 + i) else bySeg b (0 + (i - l.length))) = bySeg (l ++ b) := by
  rw [← app_rows l b rfl]
  funext i
  rw [Nat.zero_add (i - l.length)]
theorem app_rows0 (b : Sp.Bs) : (fun i => if i < 0 then (fun (_ : Nat) => Segs.one (.int .u8 0) .nil) (0 + i) else bySeg b (i - 0)) = bySeg b := funext fun i => by rw [if_neg (Nat.not_lt_zero _)]; rfl
theorem app_rows1 (b : Sp.Bs) : (fun i => if i < 0 then (fun (_ : Nat) => Segs.one (.int .u8 0) .nil) (0 + i) else bySeg b (0 + (i - 0))) = bySeg b := funext fun i => by rw [if_neg (Nat.not_lt_zero _), Nat.zero_add]; rfl
def pad64 (l : Sp.Bs) : Sp.Bs := l ++ List.replicate (64 - l.length) 0
theorem refMac (key b : Sp.Bs) (hk : key.length ≤ 1073741824) (hb : b.length ≤ 1073741000) : LCalls Tryd.prog 16 (.cons (bysV key) (.cons (bysV b) .nil)) [] (fun e h' => e = .ret (dV (mac key b)) ∧ h' = []) := by
  refine LCalls.tell ?_; refine enter16 rfl ?_; conv => whnf
  refine ⟨⟨by omega, by omega, by omega⟩, ?_⟩
  rewrite [show (fun i => if i < 0 then (fun (_ : Nat) => Segs.one (.int .u8 0) .nil) (0 + i) else bySeg key (i - 0)) = bySeg key from app_rows0 key, Nat.zero_add]
  conv => whnf
  by_cases h64 : 64 < key.length
  · rewrite [show decide ((key.length : Int) > 64) = true from decide_eq_true (by omega)]
    conv => whnf
    refine LCalls.use (refSum key (by omega)) [] rfl rfl trivial ?_
    rintro _ _ ⟨rfl, rfl⟩
    have hKK : keyP key = digest key := if_pos h64
    have hkl := digest_len key
    generalize digest key = KP at hKK hkl
    (conv => whnf); (repeat (refine And.intro (by first | omega | (dsimp only; omega)) ?_; conv => whnf))
    refine Loop.inv (lwp_mono _) (fun n t1 h => ∃ (j : Nat), j ≤ 64 - KP.length ∧ n = 64 - KP.length - j ∧ t1 = [.any, bysV b, .any, .any, .ptr ⟨0, [], 0⟩, .slice ⟨1, [], 0⟩ 0 1 (KP ++ List.replicate j 0).length (KP ++ List.replicate j 0).length none, .any, .any, .any, .any, .any, .any, .any, .any, .any, .any, .any, .any, .any, .any, .any, .any, .any, .any, .any, .any, .any, .any, .any, .any, .any, .any, .any, .any, .any, .any, .any, .any, .any, .any, .any, .any, .any, .any, .any, .any, .any, .any, .any, .any, .any, .any, .any, .any, .any, .any, .any, .any] ∧ h = [z32 [], arrB (KP ++ List.replicate j 0)]) ?_ ?_
    · refine ⟨_, _, _, ⟨[], trivial, [0, 5], rfl, rfl, ?_, ?_⟩, 0, Nat.zero_le _, rfl, rfl, rfl⟩
      · rewrite [List.replicate_zero, List.append_nil, hkl]
        (repeat' first | exact trivial | exact rfl | exact Nat.le_of_ble_eq_true rfl | exact Nat.le_refl _ | exact .inl ⟨rfl, rfl, rfl, rfl, Nat.le_refl _, Nat.le_refl _, .inr rfl, Nat.le_of_ble_eq_true rfl⟩ | exact .inl ⟨rfl, rfl, rfl, rfl, Nat.le_refl _, Nat.le_refl _, .inl rfl, Nat.le_of_ble_eq_true rfl⟩ | exact .inr ⟨rfl, rfl, rfl, rfl, rfl⟩ | exact .inl ⟨rfl, rfl, rfl, (by first | omega | (simp; done) | (simp; omega)), (by first | omega | (simp; done) | (simp; omega)), (by first | omega | (simp; done) | (simp; omega)), .inr rfl, Nat.le_of_ble_eq_true rfl⟩ | exact .inl ⟨rfl, rfl, rfl, (by first | omega | (simp; done) | (simp; omega)), (by first | omega | (simp; done) | (simp; omega)), (by first | omega | (simp; done) | (simp; omega)), .inl rfl, Nat.le_of_ble_eq_true rfl⟩ | exact fun h => h | refine ⟨?_, ?_, ?_, .inl ?_⟩ | refine ⟨?_, ?_⟩ | refine fun ii hii => ?_ | omega | fail)
      · rewrite [List.replicate_zero, List.append_nil]
        unfold arrB
        rewrite [hkl]
        (repeat' first | exact trivial | exact rfl | exact Nat.le_of_ble_eq_true rfl | exact Nat.le_refl _ | exact .inl ⟨rfl, rfl, rfl, rfl, Nat.le_refl _, Nat.le_refl _, .inr rfl, Nat.le_of_ble_eq_true rfl⟩ | exact .inl ⟨rfl, rfl, rfl, rfl, Nat.le_refl _, Nat.le_refl _, .inl rfl, Nat.le_of_ble_eq_true rfl⟩ | exact .inr ⟨rfl, rfl, rfl, rfl, rfl⟩ | exact .inl ⟨rfl, rfl, rfl, (by first | omega | (simp; done) | (simp; omega)), (by first | omega | (simp; done) | (simp; omega)), (by first | omega | (simp; done) | (simp; omega)), .inr rfl, Nat.le_of_ble_eq_true rfl⟩ | exact .inl ⟨rfl, rfl, rfl, (by first | omega | (simp; done) | (simp; omega)), (by first | omega | (simp; done) | (simp; omega)), (by first | omega | (simp; done) | (simp; omega)), .inl rfl, Nat.le_of_ble_eq_true rfl⟩ | exact fun h => h | refine ⟨?_, ?_, ?_, .inl ?_⟩ | refine ⟨?_, ?_⟩ | refine fun ii hii => ?_ | omega | fail)
        all_goals exact (by rw [Nat.zero_add, Nat.sub_zero])
    · rintro n _ _ ⟨j, hj, rfl, rfl, rfl⟩
      have hlj : (KP ++ List.replicate j (0 : UInt8)).length = KP.length + j := by simp
      conv => whnf
      by_cases hc : j = 64 - KP.length
      · rewrite [show decide (((KP ++ List.replicate j (0 : UInt8)).length : Int) < 64) = false from decide_eq_false (by omega)]
        generalize hM : KP ++ List.replicate j (0 : UInt8) = M at hlj
        have hMl : M.length = 64 := by omega
        have hMg : ∀ i, M.getD i 0 = KP.getD i 0 := fun i => by
          rw [← hM, List.getD_eq_getElem?_getD, List.getD_eq_getElem?_getD]
          rcases Nat.lt_or_ge i KP.length with c | c
          · rw [List.getElem?_append_left c]
          · rw [List.getElem?_append_right c, List.getElem?_eq_none c]
            rcases Nat.lt_or_ge (i - KP.length) j with c2 | c2
            · rw [List.getElem?_replicate, if_pos c2]; rfl
            · rw [List.getElem?_replicate, if_neg (by omega)]
        conv => whnf
        refine Loop.inv (lwp_mono _) (fun n t1 h => ∃ (i : Nat), i ≤ 64 ∧ n = 64 - i ∧ t1 = [.any, bysV b, .any, .any, .ptr ⟨0, [], 0⟩, .slice ⟨1, [], 0⟩ 0 1 M.length M.length none, .any, .slice ⟨2, [], 0⟩ 0 1 ((padKey key 54).take i).length ((padKey key 54).take i).length none, .slice ⟨3, [], 0⟩ 0 1 ((padKey key 92).take i).length ((padKey key 92).take i).length none, .int .i64 (i : Int), .any, .any, .any, .any, .any, .any, .any, .any, .any, .any, .any, .any, .any, .any, .any, .any, .any, .any, .any, .any, .any, .any, .any, .any, .any, .any, .any, .any, .any, .any, .any, .any, .any, .any, .any, .any, .any, .any, .any, .any, .any, .any, .any, .any, .any, .any, .any, .any] ∧ h = [z32 [], arrB M, arrB ((padKey key 54).take i), arrB ((padKey key 92).take i)]) ?_ ?_
        · refine ⟨_, _, _, ⟨[], trivial, [0, 1, 98, 99], rfl, rfl, ?_, ?_⟩, 0, Nat.zero_le _, rfl, rfl, rfl⟩
          · rewrite [List.take_zero, List.take_zero]
            (repeat' first | exact trivial | exact rfl | exact Nat.le_of_ble_eq_true rfl | exact Nat.le_refl _ | exact .inl ⟨rfl, rfl, rfl, rfl, Nat.le_refl _, Nat.le_refl _, .inr rfl, Nat.le_of_ble_eq_true rfl⟩ | exact .inl ⟨rfl, rfl, rfl, rfl, Nat.le_refl _, Nat.le_refl _, .inl rfl, Nat.le_of_ble_eq_true rfl⟩ | exact .inr ⟨rfl, rfl, rfl, rfl, rfl⟩ | exact .inl ⟨rfl, rfl, rfl, (by first | omega | (simp; done) | (simp; omega)), (by first | omega | (simp; done) | (simp; omega)), (by first | omega | (simp; done) | (simp; omega)), .inr rfl, Nat.le_of_ble_eq_true rfl⟩ | exact .inl ⟨rfl, rfl, rfl, (by first | omega | (simp; done) | (simp; omega)), (by first | omega | (simp; done) | (simp; omega)), (by first | omega | (simp; done) | (simp; omega)), .inl rfl, Nat.le_of_ble_eq_true rfl⟩ | exact fun h => h | refine ⟨?_, ?_, ?_, .inl ?_⟩ | refine ⟨?_, ?_⟩ | refine fun ii hii => ?_ | omega | fail)
          · rewrite [List.take_zero, List.take_zero]
            unfold arrB
            (repeat' first | exact trivial | exact rfl | exact Nat.le_of_ble_eq_true rfl | exact Nat.le_refl _ | exact .inl ⟨rfl, rfl, rfl, rfl, Nat.le_refl _, Nat.le_refl _, .inr rfl, Nat.le_of_ble_eq_true rfl⟩ | exact .inl ⟨rfl, rfl, rfl, rfl, Nat.le_refl _, Nat.le_refl _, .inl rfl, Nat.le_of_ble_eq_true rfl⟩ | exact .inr ⟨rfl, rfl, rfl, rfl, rfl⟩ | exact .inl ⟨rfl, rfl, rfl, (by first | omega | (simp; done) | (simp; omega)), (by first | omega | (simp; done) | (simp; omega)), (by first | omega | (simp; done) | (simp; omega)), .inr rfl, Nat.le_of_ble_eq_true rfl⟩ | exact .inl ⟨rfl, rfl, rfl, (by first | omega | (simp; done) | (simp; omega)), (by first | omega | (simp; done) | (simp; omega)), (by first | omega | (simp; done) | (simp; omega)), .inl rfl, Nat.le_of_ble_eq_true rfl⟩ | exact fun h => h | refine ⟨?_, ?_, ?_, .inl ?_⟩ | refine ⟨?_, ?_⟩ | refine fun ii hii => ?_ | omega | fail)
            all_goals exact ⟨rfl, trivial⟩
        · rintro n _ _ ⟨i, hi, rfl, rfl, rfl⟩
          have hl1 : ((padKey key 54).take i).length = i := by rw [List.length_take, padKey_len]; omega
          have hl2 : ((padKey key 92).take i).length = i := by rw [List.length_take, padKey_len]; omega
          conv => whnf
          by_cases hi64 : i < 64
          · rewrite [show decide ((i : Int) < 64) = true from decide_eq_true (by omega)]
            have hs1 := padKey_take key 54 hi64
            have hs2 := padKey_take key 92 hi64
            rewrite [hKK, ← hMg] at hs1 hs2
            conv => whnf
            refine ⟨⟨by omega, by omega⟩, ?_⟩
            conv => whnf
            refine ⟨by omega, ?_⟩
            conv => whnf
            rewrite [Int.toNat_natCast, Nat.zero_add i, show IntKind.u8.wrap ((BitVec.ofInt IntKind.u8.bits ((M.getD i 0).toNat : Int) ^^^ BitVec.ofInt IntKind.u8.bits 54).toNat : Int) = ((M.getD i 0 ^^^ 54).toNat : Int) from bXor _ 54]
            refine ⟨Nat.le_refl 1, ?_⟩
            conv => whnf
            refine ⟨⟨by omega, by omega, by omega⟩, ?_⟩
            conv => whnf
            refine ⟨⟨by omega, by omega⟩, ?_⟩
            conv => whnf
            refine ⟨by omega, ?_⟩
            conv => whnf
            rewrite [Int.toNat_natCast, Nat.zero_add i, show IntKind.u8.wrap ((BitVec.ofInt IntKind.u8.bits ((M.getD i 0).toNat : Int) ^^^ BitVec.ofInt IntKind.u8.bits 92).toNat : Int) = ((M.getD i 0 ^^^ 92).toNat : Int) from bXor _ 92]
            refine ⟨Nat.le_refl 1, ?_⟩
            conv => whnf
            refine ⟨⟨by omega, by omega, by omega⟩, ?_⟩
            conv => whnf
            refine ⟨_, _, _, ?_, ⟨[], trivial, [0, 1, 5, 7], rfl, rfl, ?_, ?_⟩, i + 1, by omega, rfl, rfl, rfl⟩
            · omega
            · rewrite [hs1, hs2]
              (repeat' first | exact trivial | exact rfl | exact Nat.le_of_ble_eq_true rfl | exact Nat.le_refl _ | exact .inl ⟨rfl, rfl, rfl, rfl, Nat.le_refl _, Nat.le_refl _, .inr rfl, Nat.le_of_ble_eq_true rfl⟩ | exact .inl ⟨rfl, rfl, rfl, rfl, Nat.le_refl _, Nat.le_refl _, .inl rfl, Nat.le_of_ble_eq_true rfl⟩ | exact .inr ⟨rfl, rfl, rfl, rfl, rfl⟩ | exact .inl ⟨rfl, rfl, rfl, (by first | omega | (simp; done) | (simp; omega)), (by first | omega | (simp; done) | (simp; omega)), (by first | omega | (simp; done) | (simp; omega)), .inr rfl, Nat.le_of_ble_eq_true rfl⟩ | exact .inl ⟨rfl, rfl, rfl, (by first | omega | (simp; done) | (simp; omega)), (by first | omega | (simp; done) | (simp; omega)), (by first | omega | (simp; done) | (simp; omega)), .inl rfl, Nat.le_of_ble_eq_true rfl⟩ | exact fun h => h | refine ⟨?_, ?_, ?_, .inl ?_⟩ | refine ⟨?_, ?_⟩ | refine fun ii hii => ?_ | omega | fail)
              all_goals first
                | exact wrapI (by omega)
                | exact (by rw [List.length_append]; rfl)
            · rewrite [hs1, hs2]
              unfold arrB
              (repeat' first | exact trivial | exact rfl | exact Nat.le_of_ble_eq_true rfl | exact Nat.le_refl _ | exact .inl ⟨rfl, rfl, rfl, rfl, Nat.le_refl _, Nat.le_refl _, .inr rfl, Nat.le_of_ble_eq_true rfl⟩ | exact .inl ⟨rfl, rfl, rfl, rfl, Nat.le_refl _, Nat.le_refl _, .inl rfl, Nat.le_of_ble_eq_true rfl⟩ | exact .inr ⟨rfl, rfl, rfl, rfl, rfl⟩ | exact .inl ⟨rfl, rfl, rfl, (by first | omega | (simp; done) | (simp; omega)), (by first | omega | (simp; done) | (simp; omega)), (by first | omega | (simp; done) | (simp; omega)), .inr rfl, Nat.le_of_ble_eq_true rfl⟩ | exact .inl ⟨rfl, rfl, rfl, (by first | omega | (simp; done) | (simp; omega)), (by first | omega | (simp; done) | (simp; omega)), (by first | omega | (simp; done) | (simp; omega)), .inl rfl, Nat.le_of_ble_eq_true rfl⟩ | exact fun h => h | refine ⟨?_, ?_, ?_, .inl ?_⟩ | refine ⟨?_, ?_⟩ | refine fun ii hii => ?_ | omega | fail)
              all_goals first
                | exact (by rw [List.length_append]; rfl)
                | exact by_app rfl (by rw [List.length_append] at hii; exact hii)
                | exact by_app rfl hii
          · rewrite [show decide ((i : Int) < 64) = false from decide_eq_false (by omega)]
            obtain rfl : i = 64 := by omega
            rewrite [show (padKey key 54).take 64 = padKey key 54 from List.take_of_length_le (by rw [padKey_len]; omega), show (padKey key 92).take 64 = padKey key 92 from List.take_of_length_le (by rw [padKey_len]; omega)]
            have hp1 := padKey_len key 54
            have hp2 := padKey_len key 92
            conv => whnf
            refine ⟨⟨by omega, by omega, by omega⟩, ?_⟩
            rewrite [app_rows (padKey key 54) b rfl, ← List.length_append]
            conv => whnf
            refine LCalls.use (refSumS (padKey key 54 ++ b) (by rw [List.length_append]; omega)) [4] rfl rfl ⟨rfl, trivial⟩ ?_
            rintro _ _ ⟨rfl, rfl⟩
            have hl := digest_len (padKey key 0x36 ++ b)
            have hm : mac key b = digest (padKey key 0x5c ++ digest (padKey key 0x36 ++ b)) := rfl
            generalize digest (padKey key 0x36 ++ b) = D at hl hm
            (conv => whnf); (repeat (refine And.intro (by first | omega | (dsimp only; omega)) ?_; conv => whnf))
            show LCalls _ _ (.cons (.slice ⟨6, [], 0⟩ 0 1 ((padKey key 92).length + (32 - 0)) ((padKey key 92).length + (32 - 0)) none) .nil) [z32 [], arrB M, none, none, none, z32 D, some ⟨.rows ((padKey key 92).length + (32 - 0)) 1 (fun i => if i < (padKey key 92).length then bySeg (padKey key 92) (0 + i) else bySeg D (0 + (i - (padKey key 92).length))) .nil, 5, true, false⟩] _
            rewrite [app_rows2 (padKey key 92) D, show (padKey key 92).length + (32 - 0) = (padKey key 92 ++ D).length by rw [List.length_append, hl]]
            refine LCalls.use (refSumS (padKey key 92 ++ D) (by rw [List.length_append]; omega)) [6] rfl rfl ⟨rfl, trivial⟩ ?_
            rintro _ _ ⟨rfl, rfl⟩
            rw [hm]
            conv => whnf
            refine ⟨[], _, _, rfl, rfl, ?_, ?_, rfl, rfl⟩
            · (repeat' first | exact trivial | exact rfl | exact Nat.le_of_ble_eq_true rfl | exact Nat.le_refl _ | exact .inl ⟨rfl, rfl, rfl, rfl, Nat.le_refl _, Nat.le_refl _, .inr rfl, Nat.le_of_ble_eq_true rfl⟩ | exact .inl ⟨rfl, rfl, rfl, rfl, Nat.le_refl _, Nat.le_refl _, .inl rfl, Nat.le_of_ble_eq_true rfl⟩ | exact .inr ⟨rfl, rfl, rfl, rfl, rfl⟩ | exact .inl ⟨rfl, rfl, rfl, (by first | omega | (simp; done) | (simp; omega)), (by first | omega | (simp; done) | (simp; omega)), (by first | omega | (simp; done) | (simp; omega)), .inr rfl, Nat.le_of_ble_eq_true rfl⟩ | exact .inl ⟨rfl, rfl, rfl, (by first | omega | (simp; done) | (simp; omega)), (by first | omega | (simp; done) | (simp; omega)), (by first | omega | (simp; done) | (simp; omega)), .inl rfl, Nat.le_of_ble_eq_true rfl⟩ | exact fun h => h | refine ⟨?_, ?_, ?_, .inl ?_⟩ | refine ⟨?_, ?_⟩ | refine fun ii hii => ?_ | omega | fail)
            · (repeat' first | exact trivial | exact rfl | exact Nat.le_of_ble_eq_true rfl | exact Nat.le_refl _ | exact .inl ⟨rfl, rfl, rfl, rfl, Nat.le_refl _, Nat.le_refl _, .inr rfl, Nat.le_of_ble_eq_true rfl⟩ | exact .inl ⟨rfl, rfl, rfl, rfl, Nat.le_refl _, Nat.le_refl _, .inl rfl, Nat.le_of_ble_eq_true rfl⟩ | exact .inr ⟨rfl, rfl, rfl, rfl, rfl⟩ | exact .inl ⟨rfl, rfl, rfl, (by first | omega | (simp; done) | (simp; omega)), (by first | omega | (simp; done) | (simp; omega)), (by first | omega | (simp; done) | (simp; omega)), .inr rfl, Nat.le_of_ble_eq_true rfl⟩ | exact .inl ⟨rfl, rfl, rfl, (by first | omega | (simp; done) | (simp; omega)), (by first | omega | (simp; done) | (simp; omega)), (by first | omega | (simp; done) | (simp; omega)), .inl rfl, Nat.le_of_ble_eq_true rfl⟩ | exact fun h => h | refine ⟨?_, ?_, ?_, .inl ?_⟩ | refine ⟨?_, ?_⟩ | refine fun ii hii => ?_ | omega | fail)
      · rewrite [show decide (((KP ++ List.replicate j (0 : UInt8)).length : Int) < 64) = true from decide_eq_true (by omega)]
        conv => whnf
        refine ⟨Nat.le_refl 1, ?_⟩
        conv => whnf
        refine ⟨⟨by omega, by omega, by omega⟩, ?_⟩
        conv => whnf
        have hrep : KP ++ List.replicate (j + 1) (0 : UInt8) = (KP ++ List.replicate j 0) ++ [0] := by rw [List.replicate_succ', ← List.append_assoc]
        refine ⟨_, _, _, ?_, ⟨[], trivial, [0, 3], rfl, rfl, ?_, ?_⟩, j + 1, by omega, rfl, rfl, rfl⟩
        · omega
        · rewrite [hrep]
          (repeat' first | exact trivial | exact rfl | exact Nat.le_of_ble_eq_true rfl | exact Nat.le_refl _ | exact .inl ⟨rfl, rfl, rfl, rfl, Nat.le_refl _, Nat.le_refl _, .inr rfl, Nat.le_of_ble_eq_true rfl⟩ | exact .inl ⟨rfl, rfl, rfl, rfl, Nat.le_refl _, Nat.le_refl _, .inl rfl, Nat.le_of_ble_eq_true rfl⟩ | exact .inr ⟨rfl, rfl, rfl, rfl, rfl⟩ | exact .inl ⟨rfl, rfl, rfl, (by first | omega | (simp; done) | (simp; omega)), (by first | omega | (simp; done) | (simp; omega)), (by first | omega | (simp; done) | (simp; omega)), .inr rfl, Nat.le_of_ble_eq_true rfl⟩ | exact .inl ⟨rfl, rfl, rfl, (by first | omega | (simp; done) | (simp; omega)), (by first | omega | (simp; done) | (simp; omega)), (by first | omega | (simp; done) | (simp; omega)), .inl rfl, Nat.le_of_ble_eq_true rfl⟩ | exact fun h => h | refine ⟨?_, ?_, ?_, .inl ?_⟩ | refine ⟨?_, ?_⟩ | refine fun ii hii => ?_ | omega | fail)
          all_goals exact (by rw [List.length_append (bs := [0])]; rfl)
        · rewrite [hrep]
          unfold arrB
          (repeat' first | exact trivial | exact rfl | exact Nat.le_of_ble_eq_true rfl | exact Nat.le_refl _ | exact .inl ⟨rfl, rfl, rfl, rfl, Nat.le_refl _, Nat.le_refl _, .inr rfl, Nat.le_of_ble_eq_true rfl⟩ | exact .inl ⟨rfl, rfl, rfl, rfl, Nat.le_refl _, Nat.le_refl _, .inl rfl, Nat.le_of_ble_eq_true rfl⟩ | exact .inr ⟨rfl, rfl, rfl, rfl, rfl⟩ | exact .inl ⟨rfl, rfl, rfl, (by first | omega | (simp; done) | (simp; omega)), (by first | omega | (simp; done) | (simp; omega)), (by first | omega | (simp; done) | (simp; omega)), .inr rfl, Nat.le_of_ble_eq_true rfl⟩ | exact .inl ⟨rfl, rfl, rfl, (by first | omega | (simp; done) | (simp; omega)), (by first | omega | (simp; done) | (simp; omega)), (by first | omega | (simp; done) | (simp; omega)), .inl rfl, Nat.le_of_ble_eq_true rfl⟩ | exact fun h => h | refine ⟨?_, ?_, ?_, .inl ?_⟩ | refine ⟨?_, ?_⟩ | refine fun ii hii => ?_ | omega | fail)
          all_goals first
            | exact (by rw [List.length_append (bs := [0])]; rfl)
            | exact by_app rfl hii
  · rewrite [show decide ((key.length : Int) > 64) = false from decide_eq_false (by omega)]
    have hKK0 : keyP key = key := if_neg h64
    obtain ⟨KP, hk2⟩ : ∃ KP, KP = key := ⟨_, rfl⟩
    have hKK : keyP key = KP := hKK0.trans hk2.symm
    have hkl : KP.length ≤ 64 := by rw [hk2]; omega
    rewrite [show bySeg key = bySeg KP by rw [hk2], show key.length = KP.length by rw [hk2]]
    conv => whnf
    refine Loop.inv (lwp_mono _) (fun n t1 h => ∃ (j : Nat), j ≤ 64 - KP.length ∧ n = 64 - KP.length - j ∧ t1 = [.any, bysV b, .any, .any, .ptr ⟨0, [], 0⟩, .slice ⟨1, [], 0⟩ 0 1 (KP ++ List.replicate j 0).length (KP ++ List.replicate j 0).length none, .any, .any, .any, .any, .any, .any, .any, .any, .any, .any, .any, .any, .any, .any, .any, .any, .any, .any, .any, .any, .any, .any, .any, .any, .any, .any, .any, .any, .any, .any, .any, .any, .any, .any, .any, .any, .any, .any, .any, .any, .any, .any, .any, .any, .any, .any, .any, .any, .any, .any, .any, .any] ∧ h = [z32 [], arrB (KP ++ List.replicate j 0)]) ?_ ?_
    · refine ⟨_, _, _, ⟨[], trivial, [0, 2], rfl, rfl, ?_, ?_⟩, 0, Nat.zero_le _, rfl, rfl, rfl⟩
      · rewrite [List.replicate_zero, List.append_nil]
        (repeat' first | exact trivial | exact rfl | exact Nat.le_of_ble_eq_true rfl | exact Nat.le_refl _ | exact .inl ⟨rfl, rfl, rfl, rfl, Nat.le_refl _, Nat.le_refl _, .inr rfl, Nat.le_of_ble_eq_true rfl⟩ | exact .inl ⟨rfl, rfl, rfl, rfl, Nat.le_refl _, Nat.le_refl _, .inl rfl, Nat.le_of_ble_eq_true rfl⟩ | exact .inr ⟨rfl, rfl, rfl, rfl, rfl⟩ | exact .inl ⟨rfl, rfl, rfl, (by first | omega | (simp; done) | (simp; omega)), (by first | omega | (simp; done) | (simp; omega)), (by first | omega | (simp; done) | (simp; omega)), .inr rfl, Nat.le_of_ble_eq_true rfl⟩ | exact .inl ⟨rfl, rfl, rfl, (by first | omega | (simp; done) | (simp; omega)), (by first | omega | (simp; done) | (simp; omega)), (by first | omega | (simp; done) | (simp; omega)), .inl rfl, Nat.le_of_ble_eq_true rfl⟩ | exact fun h => h | refine ⟨?_, ?_, ?_, .inl ?_⟩ | refine ⟨?_, ?_⟩ | refine fun ii hii => ?_ | omega | fail)
      · rewrite [List.replicate_zero, List.append_nil]
        unfold arrB
        (repeat' first | exact trivial | exact rfl | exact Nat.le_of_ble_eq_true rfl | exact Nat.le_refl _ | exact .inl ⟨rfl, rfl, rfl, rfl, Nat.le_refl _, Nat.le_refl _, .inr rfl, Nat.le_of_ble_eq_true rfl⟩ | exact .inl ⟨rfl, rfl, rfl, rfl, Nat.le_refl _, Nat.le_refl _, .inl rfl, Nat.le_of_ble_eq_true rfl⟩ | exact .inr ⟨rfl, rfl, rfl, rfl, rfl⟩ | exact .inl ⟨rfl, rfl, rfl, (by first | omega | (simp; done) | (simp; omega)), (by first | omega | (simp; done) | (simp; omega)), (by first | omega | (simp; done) | (simp; omega)), .inr rfl, Nat.le_of_ble_eq_true rfl⟩ | exact .inl ⟨rfl, rfl, rfl, (by first | omega | (simp; done) | (simp; omega)), (by first | omega | (simp; done) | (simp; omega)), (by first | omega | (simp; done) | (simp; omega)), .inl rfl, Nat.le_of_ble_eq_true rfl⟩ | exact fun h => h | refine ⟨?_, ?_, ?_, .inl ?_⟩ | refine ⟨?_, ?_⟩ | refine fun ii hii => ?_ | omega | fail)
    · rintro n _ _ ⟨j, hj, rfl, rfl, rfl⟩
      have hlj : (KP ++ List.replicate j (0 : UInt8)).length = KP.length + j := by simp
      conv => whnf
      by_cases hc : j = 64 - KP.length
      · rewrite [show decide (((KP ++ List.replicate j (0 : UInt8)).length : Int) < 64) = false from decide_eq_false (by omega)]
        generalize hM : KP ++ List.replicate j (0 : UInt8) = M at hlj
        have hMl : M.length = 64 := by omega
        have hMg : ∀ i, M.getD i 0 = KP.getD i 0 := fun i => by
          rw [← hM, List.getD_eq_getElem?_getD, List.getD_eq_getElem?_getD]
          rcases Nat.lt_or_ge i KP.length with c | c
          · rw [List.getElem?_append_left c]
          · rw [List.getElem?_append_right c, List.getElem?_eq_none c]
            rcases Nat.lt_or_ge (i - KP.length) j with c2 | c2
            · rw [List.getElem?_replicate, if_pos c2]; rfl
            · rw [List.getElem?_replicate, if_neg (by omega)]
        conv => whnf
        refine Loop.inv (lwp_mono _) (fun n t1 h => ∃ (i : Nat), i ≤ 64 ∧ n = 64 - i ∧ t1 = [.any, bysV b, .any, .any, .ptr ⟨0, [], 0⟩, .slice ⟨1, [], 0⟩ 0 1 M.length M.length none, .any, .slice ⟨2, [], 0⟩ 0 1 ((padKey key 54).take i).length ((padKey key 54).take i).length none, .slice ⟨3, [], 0⟩ 0 1 ((padKey key 92).take i).length ((padKey key 92).take i).length none, .int .i64 (i : Int), .any, .any, .any, .any, .any, .any, .any, .any, .any, .any, .any, .any, .any, .any, .any, .any, .any, .any, .any, .any, .any, .any, .any, .any, .any, .any, .any, .any, .any, .any, .any, .any, .any, .any, .any, .any, .any, .any, .any, .any, .any, .any, .any, .any, .any, .any, .any, .any] ∧ h = [z32 [], arrB M, arrB ((padKey key 54).take i), arrB ((padKey key 92).take i)]) ?_ ?_
        · refine ⟨_, _, _, ⟨[], trivial, [0, 1, 98, 99], rfl, rfl, ?_, ?_⟩, 0, Nat.zero_le _, rfl, rfl, rfl⟩
          · rewrite [List.take_zero, List.take_zero]
            (repeat' first | exact trivial | exact rfl | exact Nat.le_of_ble_eq_true rfl | exact Nat.le_refl _ | exact .inl ⟨rfl, rfl, rfl, rfl, Nat.le_refl _, Nat.le_refl _, .inr rfl, Nat.le_of_ble_eq_true rfl⟩ | exact .inl ⟨rfl, rfl, rfl, rfl, Nat.le_refl _, Nat.le_refl _, .inl rfl, Nat.le_of_ble_eq_true rfl⟩ | exact .inr ⟨rfl, rfl, rfl, rfl, rfl⟩ | exact .inl ⟨rfl, rfl, rfl, (by first | omega | (simp; done) | (simp; omega)), (by first | omega | (simp; done) | (simp; omega)), (by first | omega | (simp; done) | (simp; omega)), .inr rfl, Nat.le_of_ble_eq_true rfl⟩ | exact .inl ⟨rfl, rfl, rfl, (by first | omega | (simp; done) | (simp; omega)), (by first | omega | (simp; done) | (simp; omega)), (by first | omega | (simp; done) | (simp; omega)), .inl rfl, Nat.le_of_ble_eq_true rfl⟩ | exact fun h => h | refine ⟨?_, ?_, ?_, .inl ?_⟩ | refine ⟨?_, ?_⟩ | refine fun ii hii => ?_ | omega | fail)
          · rewrite [List.take_zero, List.take_zero]
            unfold arrB
            (repeat' first | exact trivial | exact rfl | exact Nat.le_of_ble_eq_true rfl | exact Nat.le_refl _ | exact .inl ⟨rfl, rfl, rfl, rfl, Nat.le_refl _, Nat.le_refl _, .inr rfl, Nat.le_of_ble_eq_true rfl⟩ | exact .inl ⟨rfl, rfl, rfl, rfl, Nat.le_refl _, Nat.le_refl _, .inl rfl, Nat.le_of_ble_eq_true rfl⟩ | exact .inr ⟨rfl, rfl, rfl, rfl, rfl⟩ | exact .inl ⟨rfl, rfl, rfl, (by first | omega | (simp; done) | (simp; omega)), (by first | omega | (simp; done) | (simp; omega)), (by first | omega | (simp; done) | (simp; omega)), .inr rfl, Nat.le_of_ble_eq_true rfl⟩ | exact .inl ⟨rfl, rfl, rfl, (by first | omega | (simp; done) | (simp; omega)), (by first | omega | (simp; done) | (simp; omega)), (by first | omega | (simp; done) | (simp; omega)), .inl rfl, Nat.le_of_ble_eq_true rfl⟩ | exact fun h => h | refine ⟨?_, ?_, ?_, .inl ?_⟩ | refine ⟨?_, ?_⟩ | refine fun ii hii => ?_ | omega | fail)
            all_goals exact ⟨rfl, trivial⟩
        · rintro n _ _ ⟨i, hi, rfl, rfl, rfl⟩
          have hl1 : ((padKey key 54).take i).length = i := by rw [List.length_take, padKey_len]; omega
          have hl2 : ((padKey key 92).take i).length = i := by rw [List.length_take, padKey_len]; omega
          conv => whnf
          by_cases hi64 : i < 64
          · rewrite [show decide ((i : Int) < 64) = true from decide_eq_true (by omega)]
            have hs1 := padKey_take key 54 hi64
            have hs2 := padKey_take key 92 hi64
            rewrite [hKK, ← hMg] at hs1 hs2
            conv => whnf
            refine ⟨⟨by omega, by omega⟩, ?_⟩
            conv => whnf
            refine ⟨by omega, ?_⟩
            conv => whnf
            rewrite [Int.toNat_natCast, Nat.zero_add i, show IntKind.u8.wrap ((BitVec.ofInt IntKind.u8.bits ((M.getD i 0).toNat : Int) ^^^ BitVec.ofInt IntKind.u8.bits 54).toNat : Int) = ((M.getD i 0 ^^^ 54).toNat : Int) from bXor _ 54]
            refine ⟨Nat.le_refl 1, ?_⟩
            conv => whnf
            refine ⟨⟨by omega, by omega, by omega⟩, ?_⟩
            conv => whnf
            refine ⟨⟨by omega, by omega⟩, ?_⟩
            conv => whnf
            refine ⟨by omega, ?_⟩
            conv => whnf
            rewrite [Int.toNat_natCast, Nat.zero_add i, show IntKind.u8.wrap ((BitVec.ofInt IntKind.u8.bits ((M.getD i 0).toNat : Int) ^^^ BitVec.ofInt IntKind.u8.bits 92).toNat : Int) = ((M.getD i 0 ^^^ 92).toNat : Int) from bXor _ 92]
            refine ⟨Nat.le_refl 1, ?_⟩
            conv => whnf
            refine ⟨⟨by omega, by omega, by omega⟩, ?_⟩
            conv => whnf
            refine ⟨_, _, _, ?_, ⟨[], trivial, [0, 1, 5, 7], rfl, rfl, ?_, ?_⟩, i + 1, by omega, rfl, rfl, rfl⟩
            · omega
            · rewrite [hs1, hs2]
              (repeat' first | exact trivial | exact rfl | exact Nat.le_of_ble_eq_true rfl | exact Nat.le_refl _ | exact .inl ⟨rfl, rfl, rfl, rfl, Nat.le_refl _, Nat.le_refl _, .inr rfl, Nat.le_of_ble_eq_true rfl⟩ | exact .inl ⟨rfl, rfl, rfl, rfl, Nat.le_refl _, Nat.le_refl _, .inl rfl, Nat.le_of_ble_eq_true rfl⟩ | exact .inr ⟨rfl, rfl, rfl, rfl, rfl⟩ | exact .inl ⟨rfl, rfl, rfl, (by first | omega | (simp; done) | (simp; omega)), (by first | omega | (simp; done) | (simp; omega)), (by first | omega | (simp; done) | (simp; omega)), .inr rfl, Nat.le_of_ble_eq_true rfl⟩ | exact .inl ⟨rfl, rfl, rfl, (by first | omega | (simp; done) | (simp; omega)), (by first | omega | (simp; done) | (simp; omega)), (by first | omega | (simp; done) | (simp; omega)), .inl rfl, Nat.le_of_ble_eq_true rfl⟩ | exact fun h => h | refine ⟨?_, ?_, ?_, .inl ?_⟩ | refine ⟨?_, ?_⟩ | refine fun ii hii => ?_ | omega | fail)
              all_goals first
                | exact wrapI (by omega)
                | exact (by rw [List.length_append]; rfl)
            · rewrite [hs1, hs2]
              unfold arrB
              (repeat' first | exact trivial | exact rfl | exact Nat.le_of_ble_eq_true rfl | exact Nat.le_refl _ | exact .inl ⟨rfl, rfl, rfl, rfl, Nat.le_refl _, Nat.le_refl _, .inr rfl, Nat.le_of_ble_eq_true rfl⟩ | exact .inl ⟨rfl, rfl, rfl, rfl, Nat.le_refl _, Nat.le_refl _, .inl rfl, Nat.le_of_ble_eq_true rfl⟩ | exact .inr ⟨rfl, rfl, rfl, rfl, rfl⟩ | exact .inl ⟨rfl, rfl, rfl, (by first | omega | (simp; done) | (simp; omega)), (by first | omega | (simp; done) | (simp; omega)), (by first | omega | (simp; done) | (simp; omega)), .inr rfl, Nat.le_of_ble_eq_true rfl⟩ | exact .inl ⟨rfl, rfl, rfl, (by first | omega | (simp; done) | (simp; omega)), (by first | omega | (simp; done) | (simp; omega)), (by first | omega | (simp; done) | (simp; omega)), .inl rfl, Nat.le_of_ble_eq_true rfl⟩ | exact fun h => h | refine ⟨?_, ?_, ?_, .inl ?_⟩ | refine ⟨?_, ?_⟩ | refine fun ii hii => ?_ | omega | fail)
              all_goals first
                | exact (by rw [List.length_append]; rfl)
                | exact by_app rfl (by rw [List.length_append] at hii; exact hii)
                | exact by_app rfl hii
          · rewrite [show decide ((i : Int) < 64) = false from decide_eq_false (by omega)]
            obtain rfl : i = 64 := by omega
            rewrite [show (padKey key 54).take 64 = padKey key 54 from List.take_of_length_le (by rw [padKey_len]; omega), show (padKey key 92).take 64 = padKey key 92 from List.take_of_length_le (by rw [padKey_len]; omega)]
            have hp1 := padKey_len key 54
            have hp2 := padKey_len key 92
            conv => whnf
            refine ⟨⟨by omega, by omega, by omega⟩, ?_⟩
            rewrite [app_rows (padKey key 54) b rfl, ← List.length_append]
            conv => whnf
            refine LCalls.use (refSumS (padKey key 54 ++ b) (by rw [List.length_append]; omega)) [4] rfl rfl ⟨rfl, trivial⟩ ?_
            rintro _ _ ⟨rfl, rfl⟩
            have hl := digest_len (padKey key 0x36 ++ b)
            have hm : mac key b = digest (padKey key 0x5c ++ digest (padKey key 0x36 ++ b)) := rfl
            generalize digest (padKey key 0x36 ++ b) = D at hl hm
            (conv => whnf); (repeat (refine And.intro (by first | omega | (dsimp only; omega)) ?_; conv => whnf))
            show LCalls _ _ (.cons (.slice ⟨6, [], 0⟩ 0 1 ((padKey key 92).length + (32 - 0)) ((padKey key 92).length + (32 - 0)) none) .nil) [z32 [], arrB M, none, none, none, z32 D, some ⟨.rows ((padKey key 92).length + (32 - 0)) 1 (fun i => if i < (padKey key 92).length then bySeg (padKey key 92) (0 + i) else bySeg D (0 + (i - (padKey key 92).length))) .nil, 5, true, false⟩] _
            rewrite [app_rows2 (padKey key 92) D, show (padKey key 92).length + (32 - 0) = (padKey key 92 ++ D).length by rw [List.length_append, hl]]
            refine LCalls.use (refSumS (padKey key 92 ++ D) (by rw [List.length_append]; omega)) [6] rfl rfl ⟨rfl, trivial⟩ ?_
            rintro _ _ ⟨rfl, rfl⟩
            rw [hm]
            conv => whnf
            refine ⟨[], _, _, rfl, rfl, ?_, ?_, rfl, rfl⟩
            · (repeat' first | exact trivial | exact rfl | exact Nat.le_of_ble_eq_true rfl | exact Nat.le_refl _ | exact .inl ⟨rfl, rfl, rfl, rfl, Nat.le_refl _, Nat.le_refl _, .inr rfl, Nat.le_of_ble_eq_true rfl⟩ | exact .inl ⟨rfl, rfl, rfl, rfl, Nat.le_refl _, Nat.le_refl _, .inl rfl, Nat.le_of_ble_eq_true rfl⟩ | exact .inr ⟨rfl, rfl, rfl, rfl, rfl⟩ | exact .inl ⟨rfl, rfl, rfl, (by first | omega | (simp; done) | (simp; omega)), (by first | omega | (simp; done) | (simp; omega)), (by first | omega | (simp; done) | (simp; omega)), .inr rfl, Nat.le_of_ble_eq_true rfl⟩ | exact .inl ⟨rfl, rfl, rfl, (by first | omega | (simp; done) | (simp; omega)), (by first | omega | (simp; done) | (simp; omega)), (by first | omega | (simp; done) | (simp; omega)), .inl rfl, Nat.le_of_ble_eq_true rfl⟩ | exact fun h => h | refine ⟨?_, ?_, ?_, .inl ?_⟩ | refine ⟨?_, ?_⟩ | refine fun ii hii => ?_ | omega | fail)
            · (repeat' first | exact trivial | exact rfl | exact Nat.le_of_ble_eq_true rfl | exact Nat.le_refl _ | exact .inl ⟨rfl, rfl, rfl, rfl, Nat.le_refl _, Nat.le_refl _, .inr rfl, Nat.le_of_ble_eq_true rfl⟩ | exact .inl ⟨rfl, rfl, rfl, rfl, Nat.le_refl _, Nat.le_refl _, .inl rfl, Nat.le_of_ble_eq_true rfl⟩ | exact .inr ⟨rfl, rfl, rfl, rfl, rfl⟩ | exact .inl ⟨rfl, rfl, rfl, (by first | omega | (simp; done) | (simp; omega)), (by first | omega | (simp; done) | (simp; omega)), (by first | omega | (simp; done) | (simp; omega)), .inr rfl, Nat.le_of_ble_eq_true rfl⟩ | exact .inl ⟨rfl, rfl, rfl, (by first | omega | (simp; done) | (simp; omega)), (by first | omega | (simp; done) | (simp; omega)), (by first | omega | (simp; done) | (simp; omega)), .inl rfl, Nat.le_of_ble_eq_true rfl⟩ | exact fun h => h | refine ⟨?_, ?_, ?_, .inl ?_⟩ | refine ⟨?_, ?_⟩ | refine fun ii hii => ?_ | omega | fail)
      · rewrite [show decide (((KP ++ List.replicate j (0 : UInt8)).length : Int) < 64) = true from decide_eq_true (by omega)]
        conv => whnf
        refine ⟨Nat.le_refl 1, ?_⟩
        conv => whnf
        refine ⟨⟨by omega, by omega, by omega⟩, ?_⟩
        conv => whnf
        have hrep : KP ++ List.replicate (j + 1) (0 : UInt8) = (KP ++ List.replicate j 0) ++ [0] := by rw [List.replicate_succ', ← List.append_assoc]
        refine ⟨_, _, _, ?_, ⟨[], trivial, [0, 3], rfl, rfl, ?_, ?_⟩, j + 1, by omega, rfl, rfl, rfl⟩
        · omega
        · rewrite [hrep]
          (repeat' first | exact trivial | exact rfl | exact Nat.le_of_ble_eq_true rfl | exact Nat.le_refl _ | exact .inl ⟨rfl, rfl, rfl, rfl, Nat.le_refl _, Nat.le_refl _, .inr rfl, Nat.le_of_ble_eq_true rfl⟩ | exact .inl ⟨rfl, rfl, rfl, rfl, Nat.le_refl _, Nat.le_refl _, .inl rfl, Nat.le_of_ble_eq_true rfl⟩ | exact .inr ⟨rfl, rfl, rfl, rfl, rfl⟩ | exact .inl ⟨rfl, rfl, rfl, (by first | omega | (simp; done) | (simp; omega)), (by first | omega | (simp; done) | (simp; omega)), (by first | omega | (simp; done) | (simp; omega)), .inr rfl, Nat.le_of_ble_eq_true rfl⟩ | exact .inl ⟨rfl, rfl, rfl, (by first | omega | (simp; done) | (simp; omega)), (by first | omega | (simp; done) | (simp; omega)), (by first | omega | (simp; done) | (simp; omega)), .inl rfl, Nat.le_of_ble_eq_true rfl⟩ | exact fun h => h | refine ⟨?_, ?_, ?_, .inl ?_⟩ | refine ⟨?_, ?_⟩ | refine fun ii hii => ?_ | omega | fail)
          all_goals exact (by rw [List.length_append (bs := [0])]; rfl)
        · rewrite [hrep]
          unfold arrB
          (repeat' first | exact trivial | exact rfl | exact Nat.le_of_ble_eq_true rfl | exact Nat.le_refl _ | exact .inl ⟨rfl, rfl, rfl, rfl, Nat.le_refl _, Nat.le_refl _, .inr rfl, Nat.le_of_ble_eq_true rfl⟩ | exact .inl ⟨rfl, rfl, rfl, rfl, Nat.le_refl _, Nat.le_refl _, .inl rfl, Nat.le_of_ble_eq_true rfl⟩ | exact .inr ⟨rfl, rfl, rfl, rfl, rfl⟩ | exact .inl ⟨rfl, rfl, rfl, (by first | omega | (simp; done) | (simp; omega)), (by first | omega | (simp; done) | (simp; omega)), (by first | omega | (simp; done) | (simp; omega)), .inr rfl, Nat.le_of_ble_eq_true rfl⟩ | exact .inl ⟨rfl, rfl, rfl, (by first | omega | (simp; done) | (simp; omega)), (by first | omega | (simp; done) | (simp; omega)), (by first | omega | (simp; done) | (simp; omega)), .inl rfl, Nat.le_of_ble_eq_true rfl⟩ | exact fun h => h | refine ⟨?_, ?_, ?_, .inl ?_⟩ | refine ⟨?_, ?_⟩ | refine fun ii hii => ?_ | omega | fail)
          all_goals first
            | exact (by rw [List.length_append (bs := [0])]; rfl)
            | exact by_app rfl hii
end Go.Proofs.YtaikhgmhocllfaaDoor.Sk
