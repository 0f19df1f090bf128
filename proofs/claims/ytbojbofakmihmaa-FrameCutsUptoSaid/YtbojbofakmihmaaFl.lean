/- The laws of frames, walked: cuts do not matter. By this session. -/
import Derived.Test.YtbojbofakmihmaaFj
namespace Go.Proofs.Ytbojbofakmihmaa.Fk
open Go.Proofs.Ytbojbofakmihmaa.Lh Go.RowKit Go.Proofs.Ytbojbofakmihmaa.Bp
open Go.Proofs.Ytbojbofakmihmaa.Bk (shS_ite bs bs_size bs_beq bs_nil bs_app bs_extract bs_at wrapS headV nne eqq lendR TrueE)
set_option maxRecDepth 100000
set_option linter.unusedSimpArgs false
set_option linter.unusedSectionVars false
set_option linter.unusedVariables false
variable [Fz]
theorem arrs_app {K : Nat} {F : Fzl} {g : Nat → Nat} {fr l : List Bp.Bs} {ii : Nat} (hii : ii < fr.length + l.length) : shS K F (if ii < fr.length then strS fr (0 + ii) else strS l (ii - fr.length)) (renS g (strS (fr ++ l) ii)) := by
  refine shS_ite (fun c => ⟨by show bs (fr.getD (0 + ii) []) = bs ((fr ++ l).getD ii []); rw [Nat.zero_add, List.getD_eq_getElem?_getD, List.getD_eq_getElem?_getD, List.getElem?_append_left c], trivial⟩) (fun c => ⟨by show bs (l.getD (ii - fr.length) []) = bs ((fr ++ l).getD ii []); rw [List.getD_eq_getElem?_getD, List.getD_eq_getElem?_getD, List.getElem?_append_right (by omega)], trivial⟩)
theorem two_app {K : Nat} {F : Fzl} {l1 l2 : List Bp.Bs} {X : Segs} {i : Nat} (hi : i < l1.length + l2.length) : shS K F (if i < 0 + l1.length then (if 0 + i < 0 then X else strS l1 (0 + i - 0)) else strS l2 (i - (0 + l1.length))) (strS (l1 ++ l2) i) := by
  refine shS_ite (fun c => shS_ite (fun c2 => absurd c2 (Nat.not_lt_zero _)) (fun _ => ⟨?_, trivial⟩)) (fun c => ⟨?_, trivial⟩)
  · show bs (l1.getD (0 + i - 0) []) = bs ((l1 ++ l2).getD i [])
    rw [Nat.zero_add, Nat.sub_zero, List.getD_eq_getElem?_getD, List.getD_eq_getElem?_getD, List.getElem?_append_left (by omega)]
  · show bs (l2.getD (i - (0 + l1.length)) []) = bs ((l1 ++ l2).getD i [])
    rw [Nat.zero_add, List.getD_eq_getElem?_getD, List.getD_eq_getElem?_getD, List.getElem?_append_right (by omega)]
theorem FrameCuts (s : Bp.Bs) (hs : s.length ≤ 1048576) (at_ : Int) : LCalls Try.prog 4 (.cons (.str (bs s)) (.cons (.int .i64 at_) .nil)) [] TrueE := by
  refine LCalls.tell ?_; refine enter4 rfl ?_; conv => whnf
  refine LCalls.use (awake) [] rfl rfl trivial ?_; rintro _ _ ⟨rfl, rfl⟩; conv => whnf
  refine LCalls.use (New) [] rfl rfl trivial ?_; rintro _ _ ⟨rfl, rfl⟩; conv => whnf
  refine LCalls.use (New) [] rfl rfl trivial ?_; rintro _ _ ⟨rfl, rfl⟩; conv => whnf
  refine LCalls.use (New) [] rfl rfl trivial ?_; rintro _ _ ⟨rfl, rfl⟩; conv => whnf
  cases c1 : decide (at_ < 0) with
  | true =>
    conv => whnf
    obtain ⟨m, htn, hm⟩ : ∃ m : Nat, Int.toNat 0 = m ∧ m ≤ s.length := ⟨0, rfl, Nat.zero_le _⟩
    rcases hO : feedP [] false (s.take m) with ⟨l1, e1, w1, d1⟩
    rcases hT : feedP w1 d1 (s.drop m) with ⟨l2, e2, w2, d2⟩
    have hrO := feed_rest (w := []) (c := s.take m) (d := false) (by simp)
    rw [hO] at hrO
    simp only at hrO
    have hmore : feedP [] false s = (l1 ++ l2, e2, w2, d2) := by
      have := (feed_more [] (s.take m) (s.drop m) false).resolve_right (fun x => by cases x.1)
      rw [List.take_append_drop, hO, hT] at this
      exact this
    have hfw := feed_few [] s false
    rw [hmore, List.length_append] at hfw
    simp only [List.length_nil, Nat.zero_add] at hfw
    refine LCalls.use (feedE hmore (by simp) hs) [0] rfl rfl ⟨rfl, trivial⟩ ?_; rintro _ _ ⟨rfl, rfl⟩; conv => whnf
    refine ⟨by omega, ?_⟩
    rewrite [htn]
    conv => whnf
    refine ⟨⟨Nat.zero_le _, by rw [bs_size]; omega⟩, ?_⟩
    rewrite [bs_extract, Nat.sub_zero, List.drop_zero]
    conv => whnf
    refine LCalls.use (feedE hO (by simp) (by rw [List.length_take]; omega)) [1] rfl rfl ⟨rfl, trivial⟩ ?_; rintro _ _ ⟨rfl, rfl⟩; conv => whnf
    refine ⟨by omega, ?_⟩
    rewrite [htn]
    conv => whnf
    refine ⟨⟨by rw [bs_size]; omega, Nat.le_refl _⟩, ?_⟩
    rewrite [bs_extract, bs_size, show (s.drop m).take (s.length - m) = s.drop m from List.take_of_length_le (by rw [List.length_drop]; omega)]
    conv => whnf
    refine LCalls.use (feedE hT hrO (by rw [List.length_drop]; omega)) [1] rfl rfl ⟨rfl, trivial⟩ ?_; rintro _ _ ⟨rfl, rfl⟩; conv => whnf
    refine Loop.inv (lwp_mono _) (fun j t1 h => ∃ (k : Nat) (fr : List Bp.Bs) (e : Int) (w : Bp.Bs) (d : Bool), k ≤ s.length ∧ k ≤ 3000 ∧ j = s.length - k ∧ feedP [] false (s.take k) = (fr, e, w, d) ∧ t1 = [.str (bs s), .any, .any, .any, .bool false, .bool true, .ptr ⟨0, [], 0⟩, .ptr ⟨1, [], 0⟩, .ptr ⟨2, [], 0⟩, .rsl (l1 ++ l2).length 1 (strS (l1 ++ l2)), .int .i64 e2, .rsl l1.length 1 (strS l1), .any, .rsl l2.length 1 (strS l2), .int .i64 e2, .slice ⟨3, [], 0⟩ 0 1 fr.length fr.length none, .int .i64 e, .int .i64 k, .any, .any, .any, .any, .any, .any, .any, .any, .any, .any, .any, .any, .any, .any, .any, .any, .any, .any, .any, .any, .any, .any, .any, .any, .any, .any, .any, .any, .any, .any, .any, .any, .any, .any, .any, .any, .any, .any, .any, .any, .any, .any, .any, .any, .any, .any, .any, .any, .any, .any, .any, .any, .any, .any, .any, .any, .any, .any, .any, .any, .any, .any, .any, .any, .any, .any, .any, .any, .any, .any, .any, .any, .any, .any, .any, .any, .any, .any, .any, .any, .any, .any, .any, .any, .any, .any, .any, .any, .any, .any, .any, .any, .any, .any, .any, .any, .any, .any, .any, .any, .any, .any, .any, .any] ∧ h = [fO w2 d2, fO w2 d2, fO w d, arrO fr]) ?_ ?_
    · refine ⟨_, _, _, ⟨[], trivial, [0, 1, 2, 99], rfl, rfl, ?_, ?_⟩, 0, [], 0, [], false, Nat.zero_le _, Nat.zero_le _, rfl, rfl, rfl, rfl⟩
      · (repeat' first | exact trivial | exact rfl | exact Nat.le_of_ble_eq_true rfl | exact Nat.le_refl _ | exact .inl ⟨rfl, rfl, rfl, rfl, Nat.le_refl _, Nat.le_refl _, .inr rfl, Nat.le_of_ble_eq_true rfl⟩ | exact .inl ⟨rfl, rfl, rfl, rfl, Nat.le_refl _, Nat.le_refl _, .inl rfl, Nat.le_of_ble_eq_true rfl⟩ | exact .inr ⟨rfl, rfl, rfl, rfl, rfl⟩ | exact .inl ⟨rfl, rfl, rfl, (by first | omega | (simp; done) | (simp; omega)), (by first | omega | (simp; done) | (simp; omega)), (by first | omega | (simp; done) | (simp; omega)), .inr rfl, Nat.le_of_ble_eq_true rfl⟩ | exact .inl ⟨rfl, rfl, rfl, (by first | omega | (simp; done) | (simp; omega)), (by first | omega | (simp; done) | (simp; omega)), (by first | omega | (simp; done) | (simp; omega)), .inl rfl, Nat.le_of_ble_eq_true rfl⟩ | exact fun h => h | refine ⟨?_, ?_, ?_, .inl ?_⟩ | refine ⟨?_, ?_⟩ | refine fun ii hii => ?_ | omega | fail)
        done
      · (repeat' first | exact trivial | exact rfl | exact Nat.le_of_ble_eq_true rfl | exact Nat.le_refl _ | exact .inl ⟨rfl, rfl, rfl, rfl, Nat.le_refl _, Nat.le_refl _, .inr rfl, Nat.le_of_ble_eq_true rfl⟩ | exact .inl ⟨rfl, rfl, rfl, rfl, Nat.le_refl _, Nat.le_refl _, .inl rfl, Nat.le_of_ble_eq_true rfl⟩ | exact .inr ⟨rfl, rfl, rfl, rfl, rfl⟩ | exact .inl ⟨rfl, rfl, rfl, (by first | omega | (simp; done) | (simp; omega)), (by first | omega | (simp; done) | (simp; omega)), (by first | omega | (simp; done) | (simp; omega)), .inr rfl, Nat.le_of_ble_eq_true rfl⟩ | exact .inl ⟨rfl, rfl, rfl, (by first | omega | (simp; done) | (simp; omega)), (by first | omega | (simp; done) | (simp; omega)), (by first | omega | (simp; done) | (simp; omega)), .inl rfl, Nat.le_of_ble_eq_true rfl⟩ | exact fun h => h | refine ⟨?_, ?_, ?_, .inl ?_⟩ | refine ⟨?_, ?_⟩ | refine fun ii hii => ?_ | omega | fail)
        done
    · rintro j _ _ ⟨k, fr, e, w, d, hk, hk3, rfl, hp, rfl, rfl⟩
      conv => whnf
      rewrite [bs_size]
      cases hb1 : decide ((k : Int) < (s.length : Int)) with
      | false =>
        have hb1 := of_decide_eq_false hb1
        obtain rfl : k = s.length := by omega
        rw [List.take_length, hmore] at hp
        have hfr : l1 ++ l2 = fr := congrArg (fun x => x.1) hp
        have hee : e2 = e := congrArg (fun x => x.2.1) hp
        conv => whnf
        refine ⟨⟨by omega, by omega, by omega⟩, ?_⟩
        conv => whnf
        refine ⟨⟨by omega, by omega, by omega⟩, ?_⟩
        conv => whnf
        refine (lendR [(6, (l1 ++ l2).length, 1, strS (l1 ++ l2))] ?_ (args' := .cons (strsV (l1 ++ l2)) (.cons (strsV (l1 ++ l2)) .nil)) ?_ rfl (texts _ _ (by rw [List.length_append]; omega))).mono ?_
        · refine ⟨⟨rfl, by show (l1 ++ l2).length ≤ 0 + l1.length + l2.length; rw [List.length_append]; omega, rfl, fun i hi => ?_⟩, rfl, trivial⟩
          have hi : i < (l1 ++ l2).length := hi
          rw [List.length_append] at hi
          exact two_app hi
        · exact ⟨⟨rfl, rfl, fun i hi => ⟨rfl, trivial⟩⟩, .inr ⟨rfl, rfl, rfl, rfl, by show 0 + l1.length + l2.length = (l1 ++ l2).length; rw [List.length_append]; omega, by show 0 + (0 + l1.length + l2.length) ≤ (l1 ++ l2).length; rw [List.length_append]; omega, fun i hi => rfl⟩, trivial⟩
        rintro _ _ ⟨rfl, rfl⟩
        rewrite [show decide (l1 ++ l2 = l1 ++ l2) = true from decide_eq_true rfl]
        conv => whnf
        refine (lendR [(3, fr.length, 1, strS fr)] ?_ (args' := .cons (strsV (l1 ++ l2)) (.cons (strsV fr) .nil)) ?_ rfl (texts _ _ (by rw [List.length_append]; omega))).mono ?_
        · exact ⟨⟨rfl, Nat.le_refl _, rfl, fun i hi => ⟨rfl, trivial⟩⟩, rfl, trivial⟩
        · exact ⟨⟨rfl, rfl, fun i hi => ⟨rfl, trivial⟩⟩, .inr ⟨rfl, rfl, rfl, rfl, rfl, by simp, fun i hi => rfl⟩, trivial⟩
        rintro _ _ ⟨rfl, rfl⟩
        conv => whnf
        rewrite [eqq e2]
        conv => whnf
        rewrite [bs_size]
        rewrite [show decide ((s.length : Int) > 3000) = false from decide_eq_false (by omega), show decide (l1 ++ l2 = fr) = true from decide_eq_true hfr]
        conv => whnf
        rewrite [show (e2 == e) = true by rw [hee, eqq]]
        conv => whnf
        refine ⟨[], _, _, rfl, rfl, ?_, ?_, rfl, rfl⟩
        · (repeat' first | exact trivial | exact rfl | exact Nat.le_of_ble_eq_true rfl | exact Nat.le_refl _ | exact .inl ⟨rfl, rfl, rfl, rfl, Nat.le_refl _, Nat.le_refl _, .inr rfl, Nat.le_of_ble_eq_true rfl⟩ | exact .inl ⟨rfl, rfl, rfl, rfl, Nat.le_refl _, Nat.le_refl _, .inl rfl, Nat.le_of_ble_eq_true rfl⟩ | exact .inr ⟨rfl, rfl, rfl, rfl, rfl⟩ | exact .inl ⟨rfl, rfl, rfl, (by first | omega | (simp; done) | (simp; omega)), (by first | omega | (simp; done) | (simp; omega)), (by first | omega | (simp; done) | (simp; omega)), .inr rfl, Nat.le_of_ble_eq_true rfl⟩ | exact .inl ⟨rfl, rfl, rfl, (by first | omega | (simp; done) | (simp; omega)), (by first | omega | (simp; done) | (simp; omega)), (by first | omega | (simp; done) | (simp; omega)), .inl rfl, Nat.le_of_ble_eq_true rfl⟩ | exact fun h => h | refine ⟨?_, ?_, ?_, .inl ?_⟩ | refine ⟨?_, ?_⟩ | refine fun ii hii => ?_ | omega | fail)
        · (repeat' first | exact trivial | exact rfl | exact Nat.le_of_ble_eq_true rfl | exact Nat.le_refl _ | exact .inl ⟨rfl, rfl, rfl, rfl, Nat.le_refl _, Nat.le_refl _, .inr rfl, Nat.le_of_ble_eq_true rfl⟩ | exact .inl ⟨rfl, rfl, rfl, rfl, Nat.le_refl _, Nat.le_refl _, .inl rfl, Nat.le_of_ble_eq_true rfl⟩ | exact .inr ⟨rfl, rfl, rfl, rfl, rfl⟩ | exact .inl ⟨rfl, rfl, rfl, (by first | omega | (simp; done) | (simp; omega)), (by first | omega | (simp; done) | (simp; omega)), (by first | omega | (simp; done) | (simp; omega)), .inr rfl, Nat.le_of_ble_eq_true rfl⟩ | exact .inl ⟨rfl, rfl, rfl, (by first | omega | (simp; done) | (simp; omega)), (by first | omega | (simp; done) | (simp; omega)), (by first | omega | (simp; done) | (simp; omega)), .inl rfl, Nat.le_of_ble_eq_true rfl⟩ | exact fun h => h | refine ⟨?_, ?_, ?_, .inl ?_⟩ | refine ⟨?_, ?_⟩ | refine fun ii hii => ?_ | omega | fail)
      | true =>
      conv => whnf
      cases hb2 : decide ((k : Int) < 3000) with
      | false =>
        have hb1 := of_decide_eq_true hb1
        have hb2 := of_decide_eq_false hb2
        conv => whnf
        refine ⟨⟨by omega, by omega, by omega⟩, ?_⟩
        conv => whnf
        refine ⟨⟨by omega, by omega, by omega⟩, ?_⟩
        conv => whnf
        refine (lendR [(6, (l1 ++ l2).length, 1, strS (l1 ++ l2))] ?_ (args' := .cons (strsV (l1 ++ l2)) (.cons (strsV (l1 ++ l2)) .nil)) ?_ rfl (texts _ _ (by rw [List.length_append]; omega))).mono ?_
        · refine ⟨⟨rfl, by show (l1 ++ l2).length ≤ 0 + l1.length + l2.length; rw [List.length_append]; omega, rfl, fun i hi => ?_⟩, rfl, trivial⟩
          have hi : i < (l1 ++ l2).length := hi
          rw [List.length_append] at hi
          exact two_app hi
        · exact ⟨⟨rfl, rfl, fun i hi => ⟨rfl, trivial⟩⟩, .inr ⟨rfl, rfl, rfl, rfl, by show 0 + l1.length + l2.length = (l1 ++ l2).length; rw [List.length_append]; omega, by show 0 + (0 + l1.length + l2.length) ≤ (l1 ++ l2).length; rw [List.length_append]; omega, fun i hi => rfl⟩, trivial⟩
        rintro _ _ ⟨rfl, rfl⟩
        rewrite [show decide (l1 ++ l2 = l1 ++ l2) = true from decide_eq_true rfl]
        conv => whnf
        refine (lendR [(3, fr.length, 1, strS fr)] ?_ (args' := .cons (strsV (l1 ++ l2)) (.cons (strsV fr) .nil)) ?_ rfl (texts _ _ (by rw [List.length_append]; omega))).mono ?_
        · exact ⟨⟨rfl, Nat.le_refl _, rfl, fun i hi => ⟨rfl, trivial⟩⟩, rfl, trivial⟩
        · exact ⟨⟨rfl, rfl, fun i hi => ⟨rfl, trivial⟩⟩, .inr ⟨rfl, rfl, rfl, rfl, rfl, by simp, fun i hi => rfl⟩, trivial⟩
        rintro _ _ ⟨rfl, rfl⟩
        conv => whnf
        rewrite [eqq e2]
        conv => whnf
        rewrite [bs_size]
        rewrite [show decide ((s.length : Int) > 3000) = true from decide_eq_true (by omega)]
        conv => whnf
        refine ⟨[], _, _, rfl, rfl, ?_, ?_, rfl, rfl⟩
        · (repeat' first | exact trivial | exact rfl | exact Nat.le_of_ble_eq_true rfl | exact Nat.le_refl _ | exact .inl ⟨rfl, rfl, rfl, rfl, Nat.le_refl _, Nat.le_refl _, .inr rfl, Nat.le_of_ble_eq_true rfl⟩ | exact .inl ⟨rfl, rfl, rfl, rfl, Nat.le_refl _, Nat.le_refl _, .inl rfl, Nat.le_of_ble_eq_true rfl⟩ | exact .inr ⟨rfl, rfl, rfl, rfl, rfl⟩ | exact .inl ⟨rfl, rfl, rfl, (by first | omega | (simp; done) | (simp; omega)), (by first | omega | (simp; done) | (simp; omega)), (by first | omega | (simp; done) | (simp; omega)), .inr rfl, Nat.le_of_ble_eq_true rfl⟩ | exact .inl ⟨rfl, rfl, rfl, (by first | omega | (simp; done) | (simp; omega)), (by first | omega | (simp; done) | (simp; omega)), (by first | omega | (simp; done) | (simp; omega)), .inl rfl, Nat.le_of_ble_eq_true rfl⟩ | exact fun h => h | refine ⟨?_, ?_, ?_, .inl ?_⟩ | refine ⟨?_, ?_⟩ | refine fun ii hii => ?_ | omega | fail)
        · (repeat' first | exact trivial | exact rfl | exact Nat.le_of_ble_eq_true rfl | exact Nat.le_refl _ | exact .inl ⟨rfl, rfl, rfl, rfl, Nat.le_refl _, Nat.le_refl _, .inr rfl, Nat.le_of_ble_eq_true rfl⟩ | exact .inl ⟨rfl, rfl, rfl, rfl, Nat.le_refl _, Nat.le_refl _, .inl rfl, Nat.le_of_ble_eq_true rfl⟩ | exact .inr ⟨rfl, rfl, rfl, rfl, rfl⟩ | exact .inl ⟨rfl, rfl, rfl, (by first | omega | (simp; done) | (simp; omega)), (by first | omega | (simp; done) | (simp; omega)), (by first | omega | (simp; done) | (simp; omega)), .inr rfl, Nat.le_of_ble_eq_true rfl⟩ | exact .inl ⟨rfl, rfl, rfl, (by first | omega | (simp; done) | (simp; omega)), (by first | omega | (simp; done) | (simp; omega)), (by first | omega | (simp; done) | (simp; omega)), .inl rfl, Nat.le_of_ble_eq_true rfl⟩ | exact fun h => h | refine ⟨?_, ?_, ?_, .inl ?_⟩ | refine ⟨?_, ?_⟩ | refine fun ii hii => ?_ | omega | fail)
      | true =>
      have hb1 := of_decide_eq_true hb1
      have hb2 := of_decide_eq_true hb2
      rcases hst : feedP w d ((s.drop k).take (k + 1 - k)) with ⟨l, e', w', d'⟩
      have hrk := feed_rest (w := []) (c := s.take k) (d := false) (by simp)
      rw [hp] at hrk
      simp only at hrk
      have hmk : feedP [] false (s.take (k + 1)) = (fr ++ l, e', w', d') := by
        have := (feed_more [] (s.take k) ((s.drop k).take (k + 1 - k)) false).resolve_right (fun x => by cases x.1)
        rw [hp, hst, show s.take k ++ (s.drop k).take (k + 1 - k) = s.take (k + 1) by rw [show k + 1 - k = 1 by omega, List.take_add]] at this
        exact this
      have hfk := feed_few [] (s.take (k + 1)) false
      rw [hmk, List.length_append, List.length_take] at hfk
      simp only [List.length_nil, Nat.zero_add] at hfk
      have hl1 : ((s.drop k).take (k + 1 - k)).length ≤ 1 := by rw [List.length_take]; omega
      conv => whnf
      rewrite [wrapS (n := (k : Int) + 1) (by omega)]
      refine ⟨by omega, ?_⟩
      rewrite [show ((k : Int) + 1).toNat = k + 1 by omega]
      conv => whnf
      refine ⟨by omega, ?_⟩
      rewrite [show (k : Int).toNat = k from rfl]
      conv => whnf
      refine ⟨⟨by omega, by rw [bs_size]; omega⟩, ?_⟩
      rewrite [bs_extract]
      conv => whnf
      refine LCalls.use (feedE hst hrk (by omega)) [2] rfl rfl ⟨rfl, trivial⟩ ?_; rintro _ _ ⟨rfl, rfl⟩; conv => whnf
      refine ⟨⟨by omega, by omega, by omega⟩, ?_⟩
      conv => whnf
      rewrite [wrapS (n := (k : Int) + 1) (by omega)]
      refine ⟨_, _, _, ?_, ⟨[], trivial, [0, 1, 2, 4], rfl, rfl, ?_, ?_⟩, k + 1, fr ++ l, e', w', d', by omega, by omega, rfl, hmk, rfl, rfl⟩
      · omega
      · (repeat' first | exact trivial | exact rfl | exact Nat.le_of_ble_eq_true rfl | exact Nat.le_refl _ | exact .inl ⟨rfl, rfl, rfl, rfl, Nat.le_refl _, Nat.le_refl _, .inr rfl, Nat.le_of_ble_eq_true rfl⟩ | exact .inl ⟨rfl, rfl, rfl, rfl, Nat.le_refl _, Nat.le_refl _, .inl rfl, Nat.le_of_ble_eq_true rfl⟩ | exact .inr ⟨rfl, rfl, rfl, rfl, rfl⟩ | exact .inl ⟨rfl, rfl, rfl, (by first | omega | (simp; done) | (simp; omega)), (by first | omega | (simp; done) | (simp; omega)), (by first | omega | (simp; done) | (simp; omega)), .inr rfl, Nat.le_of_ble_eq_true rfl⟩ | exact .inl ⟨rfl, rfl, rfl, (by first | omega | (simp; done) | (simp; omega)), (by first | omega | (simp; done) | (simp; omega)), (by first | omega | (simp; done) | (simp; omega)), .inl rfl, Nat.le_of_ble_eq_true rfl⟩ | exact fun h => h | refine ⟨?_, ?_, ?_, .inl ?_⟩ | refine ⟨?_, ?_⟩ | refine fun ii hii => ?_ | omega | fail)
        all_goals exact List.length_append.symm
      · (repeat' first | exact trivial | exact rfl | exact Nat.le_of_ble_eq_true rfl | exact Nat.le_refl _ | exact .inl ⟨rfl, rfl, rfl, rfl, Nat.le_refl _, Nat.le_refl _, .inr rfl, Nat.le_of_ble_eq_true rfl⟩ | exact .inl ⟨rfl, rfl, rfl, rfl, Nat.le_refl _, Nat.le_refl _, .inl rfl, Nat.le_of_ble_eq_true rfl⟩ | exact .inr ⟨rfl, rfl, rfl, rfl, rfl⟩ | exact .inl ⟨rfl, rfl, rfl, (by first | omega | (simp; done) | (simp; omega)), (by first | omega | (simp; done) | (simp; omega)), (by first | omega | (simp; done) | (simp; omega)), .inr rfl, Nat.le_of_ble_eq_true rfl⟩ | exact .inl ⟨rfl, rfl, rfl, (by first | omega | (simp; done) | (simp; omega)), (by first | omega | (simp; done) | (simp; omega)), (by first | omega | (simp; done) | (simp; omega)), .inl rfl, Nat.le_of_ble_eq_true rfl⟩ | exact fun h => h | refine ⟨?_, ?_, ?_, .inl ?_⟩ | refine ⟨?_, ?_⟩ | refine fun ii hii => ?_ | omega | fail)
        all_goals first
          | exact List.length_append.symm
          | exact arrs_app hii
  | false =>
    have c1 := of_decide_eq_false c1
    obtain ⟨m, rfl⟩ := Int.eq_ofNat_of_zero_le (show 0 ≤ at_ by omega)
    conv => whnf
    rewrite [bs_size]
    cases c2 : decide ((m : Int) > (s.length : Int)) with
    | true =>
      obtain ⟨m, htn, hm⟩ : ∃ m : Nat, Int.toNat 0 = m ∧ m ≤ s.length := ⟨0, rfl, Nat.zero_le _⟩
      conv => whnf
      rcases hO : feedP [] false (s.take m) with ⟨l1, e1, w1, d1⟩
      rcases hT : feedP w1 d1 (s.drop m) with ⟨l2, e2, w2, d2⟩
      have hrO := feed_rest (w := []) (c := s.take m) (d := false) (by simp)
      rw [hO] at hrO
      simp only at hrO
      have hmore : feedP [] false s = (l1 ++ l2, e2, w2, d2) := by
        have := (feed_more [] (s.take m) (s.drop m) false).resolve_right (fun x => by cases x.1)
        rw [List.take_append_drop, hO, hT] at this
        exact this
      have hfw := feed_few [] s false
      rw [hmore, List.length_append] at hfw
      simp only [List.length_nil, Nat.zero_add] at hfw
      refine LCalls.use (feedE hmore (by simp) hs) [0] rfl rfl ⟨rfl, trivial⟩ ?_; rintro _ _ ⟨rfl, rfl⟩; conv => whnf
      refine ⟨by omega, ?_⟩
      rewrite [htn]
      conv => whnf
      refine ⟨⟨Nat.zero_le _, by rw [bs_size]; omega⟩, ?_⟩
      rewrite [bs_extract, Nat.sub_zero, List.drop_zero]
      conv => whnf
      refine LCalls.use (feedE hO (by simp) (by rw [List.length_take]; omega)) [1] rfl rfl ⟨rfl, trivial⟩ ?_; rintro _ _ ⟨rfl, rfl⟩; conv => whnf
      refine ⟨by omega, ?_⟩
      rewrite [htn]
      conv => whnf
      refine ⟨⟨by rw [bs_size]; omega, Nat.le_refl _⟩, ?_⟩
      rewrite [bs_extract, bs_size, show (s.drop m).take (s.length - m) = s.drop m from List.take_of_length_le (by rw [List.length_drop]; omega)]
      conv => whnf
      refine LCalls.use (feedE hT hrO (by rw [List.length_drop]; omega)) [1] rfl rfl ⟨rfl, trivial⟩ ?_; rintro _ _ ⟨rfl, rfl⟩; conv => whnf
      refine Loop.inv (lwp_mono _) (fun j t1 h => ∃ (k : Nat) (fr : List Bp.Bs) (e : Int) (w : Bp.Bs) (d : Bool), k ≤ s.length ∧ k ≤ 3000 ∧ j = s.length - k ∧ feedP [] false (s.take k) = (fr, e, w, d) ∧ t1 = [.str (bs s), .any, .any, .any, .bool false, .bool true, .ptr ⟨0, [], 0⟩, .ptr ⟨1, [], 0⟩, .ptr ⟨2, [], 0⟩, .rsl (l1 ++ l2).length 1 (strS (l1 ++ l2)), .int .i64 e2, .rsl l1.length 1 (strS l1), .any, .rsl l2.length 1 (strS l2), .int .i64 e2, .slice ⟨3, [], 0⟩ 0 1 fr.length fr.length none, .int .i64 e, .int .i64 k, .any, .any, .any, .any, .any, .any, .any, .any, .any, .any, .any, .any, .any, .any, .any, .any, .any, .any, .any, .any, .any, .any, .any, .any, .any, .any, .any, .any, .any, .any, .any, .any, .any, .any, .any, .any, .any, .any, .any, .any, .any, .any, .any, .any, .any, .any, .any, .any, .any, .any, .any, .any, .any, .any, .any, .any, .any, .any, .any, .any, .any, .any, .any, .any, .any, .any, .any, .any, .any, .any, .any, .any, .any, .any, .any, .any, .any, .any, .any, .any, .any, .any, .any, .any, .any, .any, .any, .any, .any, .any, .any, .any, .any, .any, .any, .any, .any, .any, .any, .any, .any, .any, .any, .any] ∧ h = [fO w2 d2, fO w2 d2, fO w d, arrO fr]) ?_ ?_
      · refine ⟨_, _, _, ⟨[], trivial, [0, 1, 2, 99], rfl, rfl, ?_, ?_⟩, 0, [], 0, [], false, Nat.zero_le _, Nat.zero_le _, rfl, rfl, rfl, rfl⟩
        · (repeat' first | exact trivial | exact rfl | exact Nat.le_of_ble_eq_true rfl | exact Nat.le_refl _ | exact .inl ⟨rfl, rfl, rfl, rfl, Nat.le_refl _, Nat.le_refl _, .inr rfl, Nat.le_of_ble_eq_true rfl⟩ | exact .inl ⟨rfl, rfl, rfl, rfl, Nat.le_refl _, Nat.le_refl _, .inl rfl, Nat.le_of_ble_eq_true rfl⟩ | exact .inr ⟨rfl, rfl, rfl, rfl, rfl⟩ | exact .inl ⟨rfl, rfl, rfl, (by first | omega | (simp; done) | (simp; omega)), (by first | omega | (simp; done) | (simp; omega)), (by first | omega | (simp; done) | (simp; omega)), .inr rfl, Nat.le_of_ble_eq_true rfl⟩ | exact .inl ⟨rfl, rfl, rfl, (by first | omega | (simp; done) | (simp; omega)), (by first | omega | (simp; done) | (simp; omega)), (by first | omega | (simp; done) | (simp; omega)), .inl rfl, Nat.le_of_ble_eq_true rfl⟩ | exact fun h => h | refine ⟨?_, ?_, ?_, .inl ?_⟩ | refine ⟨?_, ?_⟩ | refine fun ii hii => ?_ | omega | fail)
          done
        · (repeat' first | exact trivial | exact rfl | exact Nat.le_of_ble_eq_true rfl | exact Nat.le_refl _ | exact .inl ⟨rfl, rfl, rfl, rfl, Nat.le_refl _, Nat.le_refl _, .inr rfl, Nat.le_of_ble_eq_true rfl⟩ | exact .inl ⟨rfl, rfl, rfl, rfl, Nat.le_refl _, Nat.le_refl _, .inl rfl, Nat.le_of_ble_eq_true rfl⟩ | exact .inr ⟨rfl, rfl, rfl, rfl, rfl⟩ | exact .inl ⟨rfl, rfl, rfl, (by first | omega | (simp; done) | (simp; omega)), (by first | omega | (simp; done) | (simp; omega)), (by first | omega | (simp; done) | (simp; omega)), .inr rfl, Nat.le_of_ble_eq_true rfl⟩ | exact .inl ⟨rfl, rfl, rfl, (by first | omega | (simp; done) | (simp; omega)), (by first | omega | (simp; done) | (simp; omega)), (by first | omega | (simp; done) | (simp; omega)), .inl rfl, Nat.le_of_ble_eq_true rfl⟩ | exact fun h => h | refine ⟨?_, ?_, ?_, .inl ?_⟩ | refine ⟨?_, ?_⟩ | refine fun ii hii => ?_ | omega | fail)
          done
      · rintro j _ _ ⟨k, fr, e, w, d, hk, hk3, rfl, hp, rfl, rfl⟩
        conv => whnf
        rewrite [bs_size]
        cases hb1 : decide ((k : Int) < (s.length : Int)) with
        | false =>
          have hb1 := of_decide_eq_false hb1
          obtain rfl : k = s.length := by omega
          rw [List.take_length, hmore] at hp
          have hfr : l1 ++ l2 = fr := congrArg (fun x => x.1) hp
          have hee : e2 = e := congrArg (fun x => x.2.1) hp
          conv => whnf
          refine ⟨⟨by omega, by omega, by omega⟩, ?_⟩
          conv => whnf
          refine ⟨⟨by omega, by omega, by omega⟩, ?_⟩
          conv => whnf
          refine (lendR [(6, (l1 ++ l2).length, 1, strS (l1 ++ l2))] ?_ (args' := .cons (strsV (l1 ++ l2)) (.cons (strsV (l1 ++ l2)) .nil)) ?_ rfl (texts _ _ (by rw [List.length_append]; omega))).mono ?_
          · refine ⟨⟨rfl, by show (l1 ++ l2).length ≤ 0 + l1.length + l2.length; rw [List.length_append]; omega, rfl, fun i hi => ?_⟩, rfl, trivial⟩
            have hi : i < (l1 ++ l2).length := hi
            rw [List.length_append] at hi
            exact two_app hi
          · exact ⟨⟨rfl, rfl, fun i hi => ⟨rfl, trivial⟩⟩, .inr ⟨rfl, rfl, rfl, rfl, by show 0 + l1.length + l2.length = (l1 ++ l2).length; rw [List.length_append]; omega, by show 0 + (0 + l1.length + l2.length) ≤ (l1 ++ l2).length; rw [List.length_append]; omega, fun i hi => rfl⟩, trivial⟩
          rintro _ _ ⟨rfl, rfl⟩
          rewrite [show decide (l1 ++ l2 = l1 ++ l2) = true from decide_eq_true rfl]
          conv => whnf
          refine (lendR [(3, fr.length, 1, strS fr)] ?_ (args' := .cons (strsV (l1 ++ l2)) (.cons (strsV fr) .nil)) ?_ rfl (texts _ _ (by rw [List.length_append]; omega))).mono ?_
          · exact ⟨⟨rfl, Nat.le_refl _, rfl, fun i hi => ⟨rfl, trivial⟩⟩, rfl, trivial⟩
          · exact ⟨⟨rfl, rfl, fun i hi => ⟨rfl, trivial⟩⟩, .inr ⟨rfl, rfl, rfl, rfl, rfl, by simp, fun i hi => rfl⟩, trivial⟩
          rintro _ _ ⟨rfl, rfl⟩
          conv => whnf
          rewrite [eqq e2]
          conv => whnf
          rewrite [bs_size]
          rewrite [show decide ((s.length : Int) > 3000) = false from decide_eq_false (by omega), show decide (l1 ++ l2 = fr) = true from decide_eq_true hfr]
          conv => whnf
          rewrite [show (e2 == e) = true by rw [hee, eqq]]
          conv => whnf
          refine ⟨[], _, _, rfl, rfl, ?_, ?_, rfl, rfl⟩
          · (repeat' first | exact trivial | exact rfl | exact Nat.le_of_ble_eq_true rfl | exact Nat.le_refl _ | exact .inl ⟨rfl, rfl, rfl, rfl, Nat.le_refl _, Nat.le_refl _, .inr rfl, Nat.le_of_ble_eq_true rfl⟩ | exact .inl ⟨rfl, rfl, rfl, rfl, Nat.le_refl _, Nat.le_refl _, .inl rfl, Nat.le_of_ble_eq_true rfl⟩ | exact .inr ⟨rfl, rfl, rfl, rfl, rfl⟩ | exact .inl ⟨rfl, rfl, rfl, (by first | omega | (simp; done) | (simp; omega)), (by first | omega | (simp; done) | (simp; omega)), (by first | omega | (simp; done) | (simp; omega)), .inr rfl, Nat.le_of_ble_eq_true rfl⟩ | exact .inl ⟨rfl, rfl, rfl, (by first | omega | (simp; done) | (simp; omega)), (by first | omega | (simp; done) | (simp; omega)), (by first | omega | (simp; done) | (simp; omega)), .inl rfl, Nat.le_of_ble_eq_true rfl⟩ | exact fun h => h | refine ⟨?_, ?_, ?_, .inl ?_⟩ | refine ⟨?_, ?_⟩ | refine fun ii hii => ?_ | omega | fail)
          · (repeat' first | exact trivial | exact rfl | exact Nat.le_of_ble_eq_true rfl | exact Nat.le_refl _ | exact .inl ⟨rfl, rfl, rfl, rfl, Nat.le_refl _, Nat.le_refl _, .inr rfl, Nat.le_of_ble_eq_true rfl⟩ | exact .inl ⟨rfl, rfl, rfl, rfl, Nat.le_refl _, Nat.le_refl _, .inl rfl, Nat.le_of_ble_eq_true rfl⟩ | exact .inr ⟨rfl, rfl, rfl, rfl, rfl⟩ | exact .inl ⟨rfl, rfl, rfl, (by first | omega | (simp; done) | (simp; omega)), (by first | omega | (simp; done) | (simp; omega)), (by first | omega | (simp; done) | (simp; omega)), .inr rfl, Nat.le_of_ble_eq_true rfl⟩ | exact .inl ⟨rfl, rfl, rfl, (by first | omega | (simp; done) | (simp; omega)), (by first | omega | (simp; done) | (simp; omega)), (by first | omega | (simp; done) | (simp; omega)), .inl rfl, Nat.le_of_ble_eq_true rfl⟩ | exact fun h => h | refine ⟨?_, ?_, ?_, .inl ?_⟩ | refine ⟨?_, ?_⟩ | refine fun ii hii => ?_ | omega | fail)
        | true =>
        conv => whnf
        cases hb2 : decide ((k : Int) < 3000) with
        | false =>
          have hb1 := of_decide_eq_true hb1
          have hb2 := of_decide_eq_false hb2
          conv => whnf
          refine ⟨⟨by omega, by omega, by omega⟩, ?_⟩
          conv => whnf
          refine ⟨⟨by omega, by omega, by omega⟩, ?_⟩
          conv => whnf
          refine (lendR [(6, (l1 ++ l2).length, 1, strS (l1 ++ l2))] ?_ (args' := .cons (strsV (l1 ++ l2)) (.cons (strsV (l1 ++ l2)) .nil)) ?_ rfl (texts _ _ (by rw [List.length_append]; omega))).mono ?_
          · refine ⟨⟨rfl, by show (l1 ++ l2).length ≤ 0 + l1.length + l2.length; rw [List.length_append]; omega, rfl, fun i hi => ?_⟩, rfl, trivial⟩
            have hi : i < (l1 ++ l2).length := hi
            rw [List.length_append] at hi
            exact two_app hi
          · exact ⟨⟨rfl, rfl, fun i hi => ⟨rfl, trivial⟩⟩, .inr ⟨rfl, rfl, rfl, rfl, by show 0 + l1.length + l2.length = (l1 ++ l2).length; rw [List.length_append]; omega, by show 0 + (0 + l1.length + l2.length) ≤ (l1 ++ l2).length; rw [List.length_append]; omega, fun i hi => rfl⟩, trivial⟩
          rintro _ _ ⟨rfl, rfl⟩
          rewrite [show decide (l1 ++ l2 = l1 ++ l2) = true from decide_eq_true rfl]
          conv => whnf
          refine (lendR [(3, fr.length, 1, strS fr)] ?_ (args' := .cons (strsV (l1 ++ l2)) (.cons (strsV fr) .nil)) ?_ rfl (texts _ _ (by rw [List.length_append]; omega))).mono ?_
          · exact ⟨⟨rfl, Nat.le_refl _, rfl, fun i hi => ⟨rfl, trivial⟩⟩, rfl, trivial⟩
          · exact ⟨⟨rfl, rfl, fun i hi => ⟨rfl, trivial⟩⟩, .inr ⟨rfl, rfl, rfl, rfl, rfl, by simp, fun i hi => rfl⟩, trivial⟩
          rintro _ _ ⟨rfl, rfl⟩
          conv => whnf
          rewrite [eqq e2]
          conv => whnf
          rewrite [bs_size]
          rewrite [show decide ((s.length : Int) > 3000) = true from decide_eq_true (by omega)]
          conv => whnf
          refine ⟨[], _, _, rfl, rfl, ?_, ?_, rfl, rfl⟩
          · (repeat' first | exact trivial | exact rfl | exact Nat.le_of_ble_eq_true rfl | exact Nat.le_refl _ | exact .inl ⟨rfl, rfl, rfl, rfl, Nat.le_refl _, Nat.le_refl _, .inr rfl, Nat.le_of_ble_eq_true rfl⟩ | exact .inl ⟨rfl, rfl, rfl, rfl, Nat.le_refl _, Nat.le_refl _, .inl rfl, Nat.le_of_ble_eq_true rfl⟩ | exact .inr ⟨rfl, rfl, rfl, rfl, rfl⟩ | exact .inl ⟨rfl, rfl, rfl, (by first | omega | (simp; done) | (simp; omega)), (by first | omega | (simp; done) | (simp; omega)), (by first | omega | (simp; done) | (simp; omega)), .inr rfl, Nat.le_of_ble_eq_true rfl⟩ | exact .inl ⟨rfl, rfl, rfl, (by first | omega | (simp; done) | (simp; omega)), (by first | omega | (simp; done) | (simp; omega)), (by first | omega | (simp; done) | (simp; omega)), .inl rfl, Nat.le_of_ble_eq_true rfl⟩ | exact fun h => h | refine ⟨?_, ?_, ?_, .inl ?_⟩ | refine ⟨?_, ?_⟩ | refine fun ii hii => ?_ | omega | fail)
          · (repeat' first | exact trivial | exact rfl | exact Nat.le_of_ble_eq_true rfl | exact Nat.le_refl _ | exact .inl ⟨rfl, rfl, rfl, rfl, Nat.le_refl _, Nat.le_refl _, .inr rfl, Nat.le_of_ble_eq_true rfl⟩ | exact .inl ⟨rfl, rfl, rfl, rfl, Nat.le_refl _, Nat.le_refl _, .inl rfl, Nat.le_of_ble_eq_true rfl⟩ | exact .inr ⟨rfl, rfl, rfl, rfl, rfl⟩ | exact .inl ⟨rfl, rfl, rfl, (by first | omega | (simp; done) | (simp; omega)), (by first | omega | (simp; done) | (simp; omega)), (by first | omega | (simp; done) | (simp; omega)), .inr rfl, Nat.le_of_ble_eq_true rfl⟩ | exact .inl ⟨rfl, rfl, rfl, (by first | omega | (simp; done) | (simp; omega)), (by first | omega | (simp; done) | (simp; omega)), (by first | omega | (simp; done) | (simp; omega)), .inl rfl, Nat.le_of_ble_eq_true rfl⟩ | exact fun h => h | refine ⟨?_, ?_, ?_, .inl ?_⟩ | refine ⟨?_, ?_⟩ | refine fun ii hii => ?_ | omega | fail)
        | true =>
        have hb1 := of_decide_eq_true hb1
        have hb2 := of_decide_eq_true hb2
        rcases hst : feedP w d ((s.drop k).take (k + 1 - k)) with ⟨l, e', w', d'⟩
        have hrk := feed_rest (w := []) (c := s.take k) (d := false) (by simp)
        rw [hp] at hrk
        simp only at hrk
        have hmk : feedP [] false (s.take (k + 1)) = (fr ++ l, e', w', d') := by
          have := (feed_more [] (s.take k) ((s.drop k).take (k + 1 - k)) false).resolve_right (fun x => by cases x.1)
          rw [hp, hst, show s.take k ++ (s.drop k).take (k + 1 - k) = s.take (k + 1) by rw [show k + 1 - k = 1 by omega, List.take_add]] at this
          exact this
        have hfk := feed_few [] (s.take (k + 1)) false
        rw [hmk, List.length_append, List.length_take] at hfk
        simp only [List.length_nil, Nat.zero_add] at hfk
        have hl1 : ((s.drop k).take (k + 1 - k)).length ≤ 1 := by rw [List.length_take]; omega
        conv => whnf
        rewrite [wrapS (n := (k : Int) + 1) (by omega)]
        refine ⟨by omega, ?_⟩
        rewrite [show ((k : Int) + 1).toNat = k + 1 by omega]
        conv => whnf
        refine ⟨by omega, ?_⟩
        rewrite [show (k : Int).toNat = k from rfl]
        conv => whnf
        refine ⟨⟨by omega, by rw [bs_size]; omega⟩, ?_⟩
        rewrite [bs_extract]
        conv => whnf
        refine LCalls.use (feedE hst hrk (by omega)) [2] rfl rfl ⟨rfl, trivial⟩ ?_; rintro _ _ ⟨rfl, rfl⟩; conv => whnf
        refine ⟨⟨by omega, by omega, by omega⟩, ?_⟩
        conv => whnf
        rewrite [wrapS (n := (k : Int) + 1) (by omega)]
        refine ⟨_, _, _, ?_, ⟨[], trivial, [0, 1, 2, 4], rfl, rfl, ?_, ?_⟩, k + 1, fr ++ l, e', w', d', by omega, by omega, rfl, hmk, rfl, rfl⟩
        · omega
        · (repeat' first | exact trivial | exact rfl | exact Nat.le_of_ble_eq_true rfl | exact Nat.le_refl _ | exact .inl ⟨rfl, rfl, rfl, rfl, Nat.le_refl _, Nat.le_refl _, .inr rfl, Nat.le_of_ble_eq_true rfl⟩ | exact .inl ⟨rfl, rfl, rfl, rfl, Nat.le_refl _, Nat.le_refl _, .inl rfl, Nat.le_of_ble_eq_true rfl⟩ | exact .inr ⟨rfl, rfl, rfl, rfl, rfl⟩ | exact .inl ⟨rfl, rfl, rfl, (by first | omega | (simp; done) | (simp; omega)), (by first | omega | (simp; done) | (simp; omega)), (by first | omega | (simp; done) | (simp; omega)), .inr rfl, Nat.le_of_ble_eq_true rfl⟩ | exact .inl ⟨rfl, rfl, rfl, (by first | omega | (simp; done) | (simp; omega)), (by first | omega | (simp; done) | (simp; omega)), (by first | omega | (simp; done) | (simp; omega)), .inl rfl, Nat.le_of_ble_eq_true rfl⟩ | exact fun h => h | refine ⟨?_, ?_, ?_, .inl ?_⟩ | refine ⟨?_, ?_⟩ | refine fun ii hii => ?_ | omega | fail)
          all_goals exact List.length_append.symm
        · (repeat' first | exact trivial | exact rfl | exact Nat.le_of_ble_eq_true rfl | exact Nat.le_refl _ | exact .inl ⟨rfl, rfl, rfl, rfl, Nat.le_refl _, Nat.le_refl _, .inr rfl, Nat.le_of_ble_eq_true rfl⟩ | exact .inl ⟨rfl, rfl, rfl, rfl, Nat.le_refl _, Nat.le_refl _, .inl rfl, Nat.le_of_ble_eq_true rfl⟩ | exact .inr ⟨rfl, rfl, rfl, rfl, rfl⟩ | exact .inl ⟨rfl, rfl, rfl, (by first | omega | (simp; done) | (simp; omega)), (by first | omega | (simp; done) | (simp; omega)), (by first | omega | (simp; done) | (simp; omega)), .inr rfl, Nat.le_of_ble_eq_true rfl⟩ | exact .inl ⟨rfl, rfl, rfl, (by first | omega | (simp; done) | (simp; omega)), (by first | omega | (simp; done) | (simp; omega)), (by first | omega | (simp; done) | (simp; omega)), .inl rfl, Nat.le_of_ble_eq_true rfl⟩ | exact fun h => h | refine ⟨?_, ?_, ?_, .inl ?_⟩ | refine ⟨?_, ?_⟩ | refine fun ii hii => ?_ | omega | fail)
          all_goals first
            | exact List.length_append.symm
            | exact arrs_app hii
    | false =>
      have c2 := of_decide_eq_false c2
      have htn : Int.toNat (m : Int) = m := rfl
      have hm : m ≤ s.length := by omega
      conv => whnf
      rcases hO : feedP [] false (s.take m) with ⟨l1, e1, w1, d1⟩
      rcases hT : feedP w1 d1 (s.drop m) with ⟨l2, e2, w2, d2⟩
      have hrO := feed_rest (w := []) (c := s.take m) (d := false) (by simp)
      rw [hO] at hrO
      simp only at hrO
      have hmore : feedP [] false s = (l1 ++ l2, e2, w2, d2) := by
        have := (feed_more [] (s.take m) (s.drop m) false).resolve_right (fun x => by cases x.1)
        rw [List.take_append_drop, hO, hT] at this
        exact this
      have hfw := feed_few [] s false
      rw [hmore, List.length_append] at hfw
      simp only [List.length_nil, Nat.zero_add] at hfw
      refine LCalls.use (feedE hmore (by simp) hs) [0] rfl rfl ⟨rfl, trivial⟩ ?_; rintro _ _ ⟨rfl, rfl⟩; conv => whnf
      refine ⟨by omega, ?_⟩
      rewrite [htn]
      conv => whnf
      refine ⟨⟨Nat.zero_le _, by rw [bs_size]; omega⟩, ?_⟩
      rewrite [bs_extract, Nat.sub_zero, List.drop_zero]
      conv => whnf
      refine LCalls.use (feedE hO (by simp) (by rw [List.length_take]; omega)) [1] rfl rfl ⟨rfl, trivial⟩ ?_; rintro _ _ ⟨rfl, rfl⟩; conv => whnf
      refine ⟨by omega, ?_⟩
      rewrite [htn]
      conv => whnf
      refine ⟨⟨by rw [bs_size]; omega, Nat.le_refl _⟩, ?_⟩
      rewrite [bs_extract, bs_size, show (s.drop m).take (s.length - m) = s.drop m from List.take_of_length_le (by rw [List.length_drop]; omega)]
      conv => whnf
      refine LCalls.use (feedE hT hrO (by rw [List.length_drop]; omega)) [1] rfl rfl ⟨rfl, trivial⟩ ?_; rintro _ _ ⟨rfl, rfl⟩; conv => whnf
      refine Loop.inv (lwp_mono _) (fun j t1 h => ∃ (k : Nat) (fr : List Bp.Bs) (e : Int) (w : Bp.Bs) (d : Bool), k ≤ s.length ∧ k ≤ 3000 ∧ j = s.length - k ∧ feedP [] false (s.take k) = (fr, e, w, d) ∧ t1 = [.str (bs s), .any, .any, .any, .bool false, .bool true, .ptr ⟨0, [], 0⟩, .ptr ⟨1, [], 0⟩, .ptr ⟨2, [], 0⟩, .rsl (l1 ++ l2).length 1 (strS (l1 ++ l2)), .int .i64 e2, .rsl l1.length 1 (strS l1), .any, .rsl l2.length 1 (strS l2), .int .i64 e2, .slice ⟨3, [], 0⟩ 0 1 fr.length fr.length none, .int .i64 e, .int .i64 k, .any, .any, .any, .any, .any, .any, .any, .any, .any, .any, .any, .any, .any, .any, .any, .any, .any, .any, .any, .any, .any, .any, .any, .any, .any, .any, .any, .any, .any, .any, .any, .any, .any, .any, .any, .any, .any, .any, .any, .any, .any, .any, .any, .any, .any, .any, .any, .any, .any, .any, .any, .any, .any, .any, .any, .any, .any, .any, .any, .any, .any, .any, .any, .any, .any, .any, .any, .any, .any, .any, .any, .any, .any, .any, .any, .any, .any, .any, .any, .any, .any, .any, .any, .any, .any, .any, .any, .any, .any, .any, .any, .any, .any, .any, .any, .any, .any, .any, .any, .any, .any, .any, .any, .any] ∧ h = [fO w2 d2, fO w2 d2, fO w d, arrO fr]) ?_ ?_
      · refine ⟨_, _, _, ⟨[], trivial, [0, 1, 2, 99], rfl, rfl, ?_, ?_⟩, 0, [], 0, [], false, Nat.zero_le _, Nat.zero_le _, rfl, rfl, rfl, rfl⟩
        · (repeat' first | exact trivial | exact rfl | exact Nat.le_of_ble_eq_true rfl | exact Nat.le_refl _ | exact .inl ⟨rfl, rfl, rfl, rfl, Nat.le_refl _, Nat.le_refl _, .inr rfl, Nat.le_of_ble_eq_true rfl⟩ | exact .inl ⟨rfl, rfl, rfl, rfl, Nat.le_refl _, Nat.le_refl _, .inl rfl, Nat.le_of_ble_eq_true rfl⟩ | exact .inr ⟨rfl, rfl, rfl, rfl, rfl⟩ | exact .inl ⟨rfl, rfl, rfl, (by first | omega | (simp; done) | (simp; omega)), (by first | omega | (simp; done) | (simp; omega)), (by first | omega | (simp; done) | (simp; omega)), .inr rfl, Nat.le_of_ble_eq_true rfl⟩ | exact .inl ⟨rfl, rfl, rfl, (by first | omega | (simp; done) | (simp; omega)), (by first | omega | (simp; done) | (simp; omega)), (by first | omega | (simp; done) | (simp; omega)), .inl rfl, Nat.le_of_ble_eq_true rfl⟩ | exact fun h => h | refine ⟨?_, ?_, ?_, .inl ?_⟩ | refine ⟨?_, ?_⟩ | refine fun ii hii => ?_ | omega | fail)
          done
        · (repeat' first | exact trivial | exact rfl | exact Nat.le_of_ble_eq_true rfl | exact Nat.le_refl _ | exact .inl ⟨rfl, rfl, rfl, rfl, Nat.le_refl _, Nat.le_refl _, .inr rfl, Nat.le_of_ble_eq_true rfl⟩ | exact .inl ⟨rfl, rfl, rfl, rfl, Nat.le_refl _, Nat.le_refl _, .inl rfl, Nat.le_of_ble_eq_true rfl⟩ | exact .inr ⟨rfl, rfl, rfl, rfl, rfl⟩ | exact .inl ⟨rfl, rfl, rfl, (by first | omega | (simp; done) | (simp; omega)), (by first | omega | (simp; done) | (simp; omega)), (by first | omega | (simp; done) | (simp; omega)), .inr rfl, Nat.le_of_ble_eq_true rfl⟩ | exact .inl ⟨rfl, rfl, rfl, (by first | omega | (simp; done) | (simp; omega)), (by first | omega | (simp; done) | (simp; omega)), (by first | omega | (simp; done) | (simp; omega)), .inl rfl, Nat.le_of_ble_eq_true rfl⟩ | exact fun h => h | refine ⟨?_, ?_, ?_, .inl ?_⟩ | refine ⟨?_, ?_⟩ | refine fun ii hii => ?_ | omega | fail)
          done
      · rintro j _ _ ⟨k, fr, e, w, d, hk, hk3, rfl, hp, rfl, rfl⟩
        conv => whnf
        rewrite [bs_size]
        cases hb1 : decide ((k : Int) < (s.length : Int)) with
        | false =>
          have hb1 := of_decide_eq_false hb1
          obtain rfl : k = s.length := by omega
          rw [List.take_length, hmore] at hp
          have hfr : l1 ++ l2 = fr := congrArg (fun x => x.1) hp
          have hee : e2 = e := congrArg (fun x => x.2.1) hp
          conv => whnf
          refine ⟨⟨by omega, by omega, by omega⟩, ?_⟩
          conv => whnf
          refine ⟨⟨by omega, by omega, by omega⟩, ?_⟩
          conv => whnf
          refine (lendR [(6, (l1 ++ l2).length, 1, strS (l1 ++ l2))] ?_ (args' := .cons (strsV (l1 ++ l2)) (.cons (strsV (l1 ++ l2)) .nil)) ?_ rfl (texts _ _ (by rw [List.length_append]; omega))).mono ?_
          · refine ⟨⟨rfl, by show (l1 ++ l2).length ≤ 0 + l1.length + l2.length; rw [List.length_append]; omega, rfl, fun i hi => ?_⟩, rfl, trivial⟩
            have hi : i < (l1 ++ l2).length := hi
            rw [List.length_append] at hi
            exact two_app hi
          · exact ⟨⟨rfl, rfl, fun i hi => ⟨rfl, trivial⟩⟩, .inr ⟨rfl, rfl, rfl, rfl, by show 0 + l1.length + l2.length = (l1 ++ l2).length; rw [List.length_append]; omega, by show 0 + (0 + l1.length + l2.length) ≤ (l1 ++ l2).length; rw [List.length_append]; omega, fun i hi => rfl⟩, trivial⟩
          rintro _ _ ⟨rfl, rfl⟩
          rewrite [show decide (l1 ++ l2 = l1 ++ l2) = true from decide_eq_true rfl]
          conv => whnf
          refine (lendR [(3, fr.length, 1, strS fr)] ?_ (args' := .cons (strsV (l1 ++ l2)) (.cons (strsV fr) .nil)) ?_ rfl (texts _ _ (by rw [List.length_append]; omega))).mono ?_
          · exact ⟨⟨rfl, Nat.le_refl _, rfl, fun i hi => ⟨rfl, trivial⟩⟩, rfl, trivial⟩
          · exact ⟨⟨rfl, rfl, fun i hi => ⟨rfl, trivial⟩⟩, .inr ⟨rfl, rfl, rfl, rfl, rfl, by simp, fun i hi => rfl⟩, trivial⟩
          rintro _ _ ⟨rfl, rfl⟩
          conv => whnf
          rewrite [eqq e2]
          conv => whnf
          rewrite [bs_size]
          rewrite [show decide ((s.length : Int) > 3000) = false from decide_eq_false (by omega), show decide (l1 ++ l2 = fr) = true from decide_eq_true hfr]
          conv => whnf
          rewrite [show (e2 == e) = true by rw [hee, eqq]]
          conv => whnf
          refine ⟨[], _, _, rfl, rfl, ?_, ?_, rfl, rfl⟩
          · (repeat' first | exact trivial | exact rfl | exact Nat.le_of_ble_eq_true rfl | exact Nat.le_refl _ | exact .inl ⟨rfl, rfl, rfl, rfl, Nat.le_refl _, Nat.le_refl _, .inr rfl, Nat.le_of_ble_eq_true rfl⟩ | exact .inl ⟨rfl, rfl, rfl, rfl, Nat.le_refl _, Nat.le_refl _, .inl rfl, Nat.le_of_ble_eq_true rfl⟩ | exact .inr ⟨rfl, rfl, rfl, rfl, rfl⟩ | exact .inl ⟨rfl, rfl, rfl, (by first | omega | (simp; done) | (simp; omega)), (by first | omega | (simp; done) | (simp; omega)), (by first | omega | (simp; done) | (simp; omega)), .inr rfl, Nat.le_of_ble_eq_true rfl⟩ | exact .inl ⟨rfl, rfl, rfl, (by first | omega | (simp; done) | (simp; omega)), (by first | omega | (simp; done) | (simp; omega)), (by first | omega | (simp; done) | (simp; omega)), .inl rfl, Nat.le_of_ble_eq_true rfl⟩ | exact fun h => h | refine ⟨?_, ?_, ?_, .inl ?_⟩ | refine ⟨?_, ?_⟩ | refine fun ii hii => ?_ | omega | fail)
          · (repeat' first | exact trivial | exact rfl | exact Nat.le_of_ble_eq_true rfl | exact Nat.le_refl _ | exact .inl ⟨rfl, rfl, rfl, rfl, Nat.le_refl _, Nat.le_refl _, .inr rfl, Nat.le_of_ble_eq_true rfl⟩ | exact .inl ⟨rfl, rfl, rfl, rfl, Nat.le_refl _, Nat.le_refl _, .inl rfl, Nat.le_of_ble_eq_true rfl⟩ | exact .inr ⟨rfl, rfl, rfl, rfl, rfl⟩ | exact .inl ⟨rfl, rfl, rfl, (by first | omega | (simp; done) | (simp; omega)), (by first | omega | (simp; done) | (simp; omega)), (by first | omega | (simp; done) | (simp; omega)), .inr rfl, Nat.le_of_ble_eq_true rfl⟩ | exact .inl ⟨rfl, rfl, rfl, (by first | omega | (simp; done) | (simp; omega)), (by first | omega | (simp; done) | (simp; omega)), (by first | omega | (simp; done) | (simp; omega)), .inl rfl, Nat.le_of_ble_eq_true rfl⟩ | exact fun h => h | refine ⟨?_, ?_, ?_, .inl ?_⟩ | refine ⟨?_, ?_⟩ | refine fun ii hii => ?_ | omega | fail)
        | true =>
        conv => whnf
        cases hb2 : decide ((k : Int) < 3000) with
        | false =>
          have hb1 := of_decide_eq_true hb1
          have hb2 := of_decide_eq_false hb2
          conv => whnf
          refine ⟨⟨by omega, by omega, by omega⟩, ?_⟩
          conv => whnf
          refine ⟨⟨by omega, by omega, by omega⟩, ?_⟩
          conv => whnf
          refine (lendR [(6, (l1 ++ l2).length, 1, strS (l1 ++ l2))] ?_ (args' := .cons (strsV (l1 ++ l2)) (.cons (strsV (l1 ++ l2)) .nil)) ?_ rfl (texts _ _ (by rw [List.length_append]; omega))).mono ?_
          · refine ⟨⟨rfl, by show (l1 ++ l2).length ≤ 0 + l1.length + l2.length; rw [List.length_append]; omega, rfl, fun i hi => ?_⟩, rfl, trivial⟩
            have hi : i < (l1 ++ l2).length := hi
            rw [List.length_append] at hi
            exact two_app hi
          · exact ⟨⟨rfl, rfl, fun i hi => ⟨rfl, trivial⟩⟩, .inr ⟨rfl, rfl, rfl, rfl, by show 0 + l1.length + l2.length = (l1 ++ l2).length; rw [List.length_append]; omega, by show 0 + (0 + l1.length + l2.length) ≤ (l1 ++ l2).length; rw [List.length_append]; omega, fun i hi => rfl⟩, trivial⟩
          rintro _ _ ⟨rfl, rfl⟩
          rewrite [show decide (l1 ++ l2 = l1 ++ l2) = true from decide_eq_true rfl]
          conv => whnf
          refine (lendR [(3, fr.length, 1, strS fr)] ?_ (args' := .cons (strsV (l1 ++ l2)) (.cons (strsV fr) .nil)) ?_ rfl (texts _ _ (by rw [List.length_append]; omega))).mono ?_
          · exact ⟨⟨rfl, Nat.le_refl _, rfl, fun i hi => ⟨rfl, trivial⟩⟩, rfl, trivial⟩
          · exact ⟨⟨rfl, rfl, fun i hi => ⟨rfl, trivial⟩⟩, .inr ⟨rfl, rfl, rfl, rfl, rfl, by simp, fun i hi => rfl⟩, trivial⟩
          rintro _ _ ⟨rfl, rfl⟩
          conv => whnf
          rewrite [eqq e2]
          conv => whnf
          rewrite [bs_size]
          rewrite [show decide ((s.length : Int) > 3000) = true from decide_eq_true (by omega)]
          conv => whnf
          refine ⟨[], _, _, rfl, rfl, ?_, ?_, rfl, rfl⟩
          · (repeat' first | exact trivial | exact rfl | exact Nat.le_of_ble_eq_true rfl | exact Nat.le_refl _ | exact .inl ⟨rfl, rfl, rfl, rfl, Nat.le_refl _, Nat.le_refl _, .inr rfl, Nat.le_of_ble_eq_true rfl⟩ | exact .inl ⟨rfl, rfl, rfl, rfl, Nat.le_refl _, Nat.le_refl _, .inl rfl, Nat.le_of_ble_eq_true rfl⟩ | exact .inr ⟨rfl, rfl, rfl, rfl, rfl⟩ | exact .inl ⟨rfl, rfl, rfl, (by first | omega | (simp; done) | (simp; omega)), (by first | omega | (simp; done) | (simp; omega)), (by first | omega | (simp; done) | (simp; omega)), .inr rfl, Nat.le_of_ble_eq_true rfl⟩ | exact .inl ⟨rfl, rfl, rfl, (by first | omega | (simp; done) | (simp; omega)), (by first | omega | (simp; done) | (simp; omega)), (by first | omega | (simp; done) | (simp; omega)), .inl rfl, Nat.le_of_ble_eq_true rfl⟩ | exact fun h => h | refine ⟨?_, ?_, ?_, .inl ?_⟩ | refine ⟨?_, ?_⟩ | refine fun ii hii => ?_ | omega | fail)
          · (repeat' first | exact trivial | exact rfl | exact Nat.le_of_ble_eq_true rfl | exact Nat.le_refl _ | exact .inl ⟨rfl, rfl, rfl, rfl, Nat.le_refl _, Nat.le_refl _, .inr rfl, Nat.le_of_ble_eq_true rfl⟩ | exact .inl ⟨rfl, rfl, rfl, rfl, Nat.le_refl _, Nat.le_refl _, .inl rfl, Nat.le_of_ble_eq_true rfl⟩ | exact .inr ⟨rfl, rfl, rfl, rfl, rfl⟩ | exact .inl ⟨rfl, rfl, rfl, (by first | omega | (simp; done) | (simp; omega)), (by first | omega | (simp; done) | (simp; omega)), (by first | omega | (simp; done) | (simp; omega)), .inr rfl, Nat.le_of_ble_eq_true rfl⟩ | exact .inl ⟨rfl, rfl, rfl, (by first | omega | (simp; done) | (simp; omega)), (by first | omega | (simp; done) | (simp; omega)), (by first | omega | (simp; done) | (simp; omega)), .inl rfl, Nat.le_of_ble_eq_true rfl⟩ | exact fun h => h | refine ⟨?_, ?_, ?_, .inl ?_⟩ | refine ⟨?_, ?_⟩ | refine fun ii hii => ?_ | omega | fail)
        | true =>
        have hb1 := of_decide_eq_true hb1
        have hb2 := of_decide_eq_true hb2
        rcases hst : feedP w d ((s.drop k).take (k + 1 - k)) with ⟨l, e', w', d'⟩
        have hrk := feed_rest (w := []) (c := s.take k) (d := false) (by simp)
        rw [hp] at hrk
        simp only at hrk
        have hmk : feedP [] false (s.take (k + 1)) = (fr ++ l, e', w', d') := by
          have := (feed_more [] (s.take k) ((s.drop k).take (k + 1 - k)) false).resolve_right (fun x => by cases x.1)
          rw [hp, hst, show s.take k ++ (s.drop k).take (k + 1 - k) = s.take (k + 1) by rw [show k + 1 - k = 1 by omega, List.take_add]] at this
          exact this
        have hfk := feed_few [] (s.take (k + 1)) false
        rw [hmk, List.length_append, List.length_take] at hfk
        simp only [List.length_nil, Nat.zero_add] at hfk
        have hl1 : ((s.drop k).take (k + 1 - k)).length ≤ 1 := by rw [List.length_take]; omega
        conv => whnf
        rewrite [wrapS (n := (k : Int) + 1) (by omega)]
        refine ⟨by omega, ?_⟩
        rewrite [show ((k : Int) + 1).toNat = k + 1 by omega]
        conv => whnf
        refine ⟨by omega, ?_⟩
        rewrite [show (k : Int).toNat = k from rfl]
        conv => whnf
        refine ⟨⟨by omega, by rw [bs_size]; omega⟩, ?_⟩
        rewrite [bs_extract]
        conv => whnf
        refine LCalls.use (feedE hst hrk (by omega)) [2] rfl rfl ⟨rfl, trivial⟩ ?_; rintro _ _ ⟨rfl, rfl⟩; conv => whnf
        refine ⟨⟨by omega, by omega, by omega⟩, ?_⟩
        conv => whnf
        rewrite [wrapS (n := (k : Int) + 1) (by omega)]
        refine ⟨_, _, _, ?_, ⟨[], trivial, [0, 1, 2, 4], rfl, rfl, ?_, ?_⟩, k + 1, fr ++ l, e', w', d', by omega, by omega, rfl, hmk, rfl, rfl⟩
        · omega
        · (repeat' first | exact trivial | exact rfl | exact Nat.le_of_ble_eq_true rfl | exact Nat.le_refl _ | exact .inl ⟨rfl, rfl, rfl, rfl, Nat.le_refl _, Nat.le_refl _, .inr rfl, Nat.le_of_ble_eq_true rfl⟩ | exact .inl ⟨rfl, rfl, rfl, rfl, Nat.le_refl _, Nat.le_refl _, .inl rfl, Nat.le_of_ble_eq_true rfl⟩ | exact .inr ⟨rfl, rfl, rfl, rfl, rfl⟩ | exact .inl ⟨rfl, rfl, rfl, (by first | omega | (simp; done) | (simp; omega)), (by first | omega | (simp; done) | (simp; omega)), (by first | omega | (simp; done) | (simp; omega)), .inr rfl, Nat.le_of_ble_eq_true rfl⟩ | exact .inl ⟨rfl, rfl, rfl, (by first | omega | (simp; done) | (simp; omega)), (by first | omega | (simp; done) | (simp; omega)), (by first | omega | (simp; done) | (simp; omega)), .inl rfl, Nat.le_of_ble_eq_true rfl⟩ | exact fun h => h | refine ⟨?_, ?_, ?_, .inl ?_⟩ | refine ⟨?_, ?_⟩ | refine fun ii hii => ?_ | omega | fail)
          all_goals exact List.length_append.symm
        · (repeat' first | exact trivial | exact rfl | exact Nat.le_of_ble_eq_true rfl | exact Nat.le_refl _ | exact .inl ⟨rfl, rfl, rfl, rfl, Nat.le_refl _, Nat.le_refl _, .inr rfl, Nat.le_of_ble_eq_true rfl⟩ | exact .inl ⟨rfl, rfl, rfl, rfl, Nat.le_refl _, Nat.le_refl _, .inl rfl, Nat.le_of_ble_eq_true rfl⟩ | exact .inr ⟨rfl, rfl, rfl, rfl, rfl⟩ | exact .inl ⟨rfl, rfl, rfl, (by first | omega | (simp; done) | (simp; omega)), (by first | omega | (simp; done) | (simp; omega)), (by first | omega | (simp; done) | (simp; omega)), .inr rfl, Nat.le_of_ble_eq_true rfl⟩ | exact .inl ⟨rfl, rfl, rfl, (by first | omega | (simp; done) | (simp; omega)), (by first | omega | (simp; done) | (simp; omega)), (by first | omega | (simp; done) | (simp; omega)), .inl rfl, Nat.le_of_ble_eq_true rfl⟩ | exact fun h => h | refine ⟨?_, ?_, ?_, .inl ?_⟩ | refine ⟨?_, ?_⟩ | refine fun ii hii => ?_ | omega | fail)
          all_goals first
            | exact List.length_append.symm
            | exact arrs_app hii
end Go.Proofs.Ytbojbofakmihmaa.Fk
