/- The laws of frames, walked: what was written. By this session. -/
import Derived.Test.YtbojbofakmihmaaFj
namespace Go.Proofs.Ytbojbofakmihmaa.Fk
open Go.Proofs.Ytbojbofakmihmaa.Lh Go.RowKit Go.Proofs.Ytbojbofakmihmaa.Bp
open Go.Proofs.Ytbojbofakmihmaa.Bk (shS_ite bs bs_size bs_beq bs_nil bs_app bs_extract bs_at wrapS headV nne eqq lendR TrueE nodeV nodeS nodesS nodesS_at nodeV_mk encE encode Small)
set_option maxRecDepth 100000
set_option linter.unusedSimpArgs false
set_option linter.unusedSectionVars false
set_option linter.unusedVariables false
variable [Fz]
def bodyN (b : Bp.Bs) : Nd := .mk 48 [] [.mk 4 b []]
theorem body_small (b : Bp.Bs) : Small (bodyN b) := .mk (by simp) fun k hk => by
  rcases List.mem_cons.1 hk with rfl | hk
  · exact .mk (by simp) fun k hk => by cases hk
  · cases hk
theorem body_cut {b x : Bp.Bs} (h : encP (bodyN b) = (x, 0)) : cut x = ([x], [], false) ∧ x.length ≤ 4004 := by
  obtain ⟨_, _, hw⟩ := enc_ok h rfl
  have hlen := (Bk.wrP_len hw).2
  obtain ⟨c, h1, h2, h3⟩ := wr_some hw
  refine ⟨?_, hlen⟩
  have hh := head_write (t := 48) (by decide) h2 (([] : Bp.Bs) ++ c)
  rw [← h3] at hh
  have h0 : x.getD 0 0 = 48 := by rw [h3]; rfl
  have hl : x.length = 1 + (lenB (([] : Bp.Bs) ++ c).length).length + (([] : Bp.Bs) ++ c).length := by
    conv => lhs; rw [h3]
    rw [List.length_cons, List.length_append]
    omega
  have hp : longP x = (x.length, 0) := by
    unfold longP
    rw [if_neg (fun q => q.2 h0), hh]
    simp only [true_and, true_or, if_true]
    rw [if_neg (by omega), hl]
  rw [cut_step hp, List.take_length, List.drop_length]
  rfl
theorem FrameBack (cs : List Bp.Bs) (hn : cs.length ≤ 140737488351232) : LCalls Try.prog 6 (.cons (strsV cs) .nil) [] TrueE := by
  unfold strsV
  refine LCalls.tell ?_; refine enter6 rfl ?_; conv => whnf
  refine LCalls.use (awake) [] rfl rfl trivial ?_; rintro _ _ ⟨rfl, rfl⟩; conv => whnf
  refine LCalls.use (New) [] rfl rfl trivial ?_; rintro _ _ ⟨rfl, rfl⟩; conv => whnf
  refine Loop.inv (lwp_mono _) (fun j t1 h => ∃ (k : Nat) (s : Bp.Bs) (fr : List Bp.Bs), k ≤ cs.length ∧ k ≤ 30 ∧ j = cs.length - k ∧ cut s = (fr, [], false) ∧ s.length ≤ k * 4004 ∧ fr.length ≤ k ∧ t1 = [.rsl cs.length 1 (strS cs), .any, .bool false, .bool true, .ptr ⟨0, [], 0⟩, .str (bs s), .slice ⟨1, [], 0⟩ 0 1 fr.length fr.length none, .int .i64 k, .any, .any, .any, .any, .any, .any, .any, .any, .any, .any, .any, .any, .any, .any, .any, .any, .any, .any, .any, .any, .any, .any, .any, .any, .any, .any, .any, .any, .any, .any, .any, .any, .any, .any, .any, .any, .any, .any, .any, .any, .any, .any, .any, .any, .any, .any, .any, .any, .any, .any, .any, .any, .any, .any, .any, .any, .any, .any, .any, .any, .any, .any, .any] ∧ h = [fO [] false, arrO fr]) ?_ ?_
  · refine ⟨_, _, _, ⟨[], trivial, [0, 99], rfl, rfl, ?_, ?_⟩, 0, [], [], Nat.zero_le _, Nat.zero_le _, rfl, cut_nil, by simp, by simp, rfl, rfl⟩
    · (repeat' first | exact trivial | exact rfl | exact Nat.le_of_ble_eq_true rfl | exact Nat.le_refl _ | exact .inl ⟨rfl, rfl, rfl, rfl, Nat.le_refl _, Nat.le_refl _, .inr rfl, Nat.le_of_ble_eq_true rfl⟩ | exact .inl ⟨rfl, rfl, rfl, rfl, Nat.le_refl _, Nat.le_refl _, .inl rfl, Nat.le_of_ble_eq_true rfl⟩ | exact .inr ⟨rfl, rfl, rfl, rfl, rfl⟩ | exact .inl ⟨rfl, rfl, rfl, (by first | omega | (simp; done) | (simp; omega)), (by first | omega | (simp; done) | (simp; omega)), (by first | omega | (simp; done) | (simp; omega)), .inr rfl, Nat.le_of_ble_eq_true rfl⟩ | exact .inl ⟨rfl, rfl, rfl, (by first | omega | (simp; done) | (simp; omega)), (by first | omega | (simp; done) | (simp; omega)), (by first | omega | (simp; done) | (simp; omega)), .inl rfl, Nat.le_of_ble_eq_true rfl⟩ | exact fun h => h | refine ⟨?_, ?_, ?_, .inl ?_⟩ | refine ⟨?_, ?_⟩ | refine fun ii hii => ?_ | omega | fail)
    · (repeat' first | exact trivial | exact rfl | exact Nat.le_of_ble_eq_true rfl | exact Nat.le_refl _ | exact .inl ⟨rfl, rfl, rfl, rfl, Nat.le_refl _, Nat.le_refl _, .inr rfl, Nat.le_of_ble_eq_true rfl⟩ | exact .inl ⟨rfl, rfl, rfl, rfl, Nat.le_refl _, Nat.le_refl _, .inl rfl, Nat.le_of_ble_eq_true rfl⟩ | exact .inr ⟨rfl, rfl, rfl, rfl, rfl⟩ | exact .inl ⟨rfl, rfl, rfl, (by first | omega | (simp; done) | (simp; omega)), (by first | omega | (simp; done) | (simp; omega)), (by first | omega | (simp; done) | (simp; omega)), .inr rfl, Nat.le_of_ble_eq_true rfl⟩ | exact .inl ⟨rfl, rfl, rfl, (by first | omega | (simp; done) | (simp; omega)), (by first | omega | (simp; done) | (simp; omega)), (by first | omega | (simp; done) | (simp; omega)), .inl rfl, Nat.le_of_ble_eq_true rfl⟩ | exact fun h => h | refine ⟨?_, ?_, ?_, .inl ?_⟩ | refine ⟨?_, ?_⟩ | refine fun ii hii => ?_ | omega | fail)
  · rintro j _ _ ⟨k, s, fr, hk, hk30, rfl, hcut, hsl, hfl, rfl, rfl⟩
    conv => whnf
    cases hb1 : decide ((k : Int) < (cs.length : Int)) with
    | false =>
      have hfd : feedP [] false s = (fr, 0, [], false) := by rw [feed_live, List.nil_append, hcut]; rfl
      conv => whnf
      refine LCalls.use (feedE hfd (by simp) (by omega)) [0] rfl rfl ⟨rfl, trivial⟩ ?_; rintro _ _ ⟨rfl, rfl⟩; conv => whnf
      refine (lendR [(1, fr.length, 1, strS fr)] ?_ (args' := .cons (strsV fr) (.cons (strsV fr) .nil)) ?_ rfl (texts _ _ (by omega))).mono ?_
      · exact ⟨⟨rfl, Nat.le_refl _, rfl, fun i hi => ⟨rfl, trivial⟩⟩, rfl, trivial⟩
      · exact ⟨⟨rfl, rfl, fun i hi => ⟨rfl, trivial⟩⟩, .inr ⟨rfl, rfl, rfl, rfl, rfl, by simp, fun i hi => rfl⟩, trivial⟩
      rintro _ _ ⟨rfl, rfl⟩
      conv => whnf
      refine LCalls.use (Waiting [] false) [0] rfl rfl ⟨rfl, trivial⟩ ?_; rintro _ _ ⟨rfl, rfl⟩; conv => whnf
      rewrite [show decide (fr = fr) = true from decide_eq_true rfl]
      conv => whnf
      refine ⟨[], _, _, rfl, rfl, ?_, ?_, rfl, rfl⟩
      · (repeat' first | exact trivial | exact rfl | exact Nat.le_of_ble_eq_true rfl | exact Nat.le_refl _ | exact .inl ⟨rfl, rfl, rfl, rfl, Nat.le_refl _, Nat.le_refl _, .inr rfl, Nat.le_of_ble_eq_true rfl⟩ | exact .inl ⟨rfl, rfl, rfl, rfl, Nat.le_refl _, Nat.le_refl _, .inl rfl, Nat.le_of_ble_eq_true rfl⟩ | exact .inr ⟨rfl, rfl, rfl, rfl, rfl⟩ | exact .inl ⟨rfl, rfl, rfl, (by first | omega | (simp; done) | (simp; omega)), (by first | omega | (simp; done) | (simp; omega)), (by first | omega | (simp; done) | (simp; omega)), .inr rfl, Nat.le_of_ble_eq_true rfl⟩ | exact .inl ⟨rfl, rfl, rfl, (by first | omega | (simp; done) | (simp; omega)), (by first | omega | (simp; done) | (simp; omega)), (by first | omega | (simp; done) | (simp; omega)), .inl rfl, Nat.le_of_ble_eq_true rfl⟩ | exact fun h => h | refine ⟨?_, ?_, ?_, .inl ?_⟩ | refine ⟨?_, ?_⟩ | refine fun ii hii => ?_ | omega | fail)
      · (repeat' first | exact trivial | exact rfl | exact Nat.le_of_ble_eq_true rfl | exact Nat.le_refl _ | exact .inl ⟨rfl, rfl, rfl, rfl, Nat.le_refl _, Nat.le_refl _, .inr rfl, Nat.le_of_ble_eq_true rfl⟩ | exact .inl ⟨rfl, rfl, rfl, rfl, Nat.le_refl _, Nat.le_refl _, .inl rfl, Nat.le_of_ble_eq_true rfl⟩ | exact .inr ⟨rfl, rfl, rfl, rfl, rfl⟩ | exact .inl ⟨rfl, rfl, rfl, (by first | omega | (simp; done) | (simp; omega)), (by first | omega | (simp; done) | (simp; omega)), (by first | omega | (simp; done) | (simp; omega)), .inr rfl, Nat.le_of_ble_eq_true rfl⟩ | exact .inl ⟨rfl, rfl, rfl, (by first | omega | (simp; done) | (simp; omega)), (by first | omega | (simp; done) | (simp; omega)), (by first | omega | (simp; done) | (simp; omega)), .inl rfl, Nat.le_of_ble_eq_true rfl⟩ | exact fun h => h | refine ⟨?_, ?_, ?_, .inl ?_⟩ | refine ⟨?_, ?_⟩ | refine fun ii hii => ?_ | omega | fail)
    | true =>
    conv => whnf
    cases hb2 : decide ((k : Int) < 30) with
    | false =>
      have hfd : feedP [] false s = (fr, 0, [], false) := by rw [feed_live, List.nil_append, hcut]; rfl
      conv => whnf
      refine LCalls.use (feedE hfd (by simp) (by omega)) [0] rfl rfl ⟨rfl, trivial⟩ ?_; rintro _ _ ⟨rfl, rfl⟩; conv => whnf
      refine (lendR [(1, fr.length, 1, strS fr)] ?_ (args' := .cons (strsV fr) (.cons (strsV fr) .nil)) ?_ rfl (texts _ _ (by omega))).mono ?_
      · exact ⟨⟨rfl, Nat.le_refl _, rfl, fun i hi => ⟨rfl, trivial⟩⟩, rfl, trivial⟩
      · exact ⟨⟨rfl, rfl, fun i hi => ⟨rfl, trivial⟩⟩, .inr ⟨rfl, rfl, rfl, rfl, rfl, by simp, fun i hi => rfl⟩, trivial⟩
      rintro _ _ ⟨rfl, rfl⟩
      conv => whnf
      refine LCalls.use (Waiting [] false) [0] rfl rfl ⟨rfl, trivial⟩ ?_; rintro _ _ ⟨rfl, rfl⟩; conv => whnf
      rewrite [show decide (fr = fr) = true from decide_eq_true rfl]
      conv => whnf
      refine ⟨[], _, _, rfl, rfl, ?_, ?_, rfl, rfl⟩
      · (repeat' first | exact trivial | exact rfl | exact Nat.le_of_ble_eq_true rfl | exact Nat.le_refl _ | exact .inl ⟨rfl, rfl, rfl, rfl, Nat.le_refl _, Nat.le_refl _, .inr rfl, Nat.le_of_ble_eq_true rfl⟩ | exact .inl ⟨rfl, rfl, rfl, rfl, Nat.le_refl _, Nat.le_refl _, .inl rfl, Nat.le_of_ble_eq_true rfl⟩ | exact .inr ⟨rfl, rfl, rfl, rfl, rfl⟩ | exact .inl ⟨rfl, rfl, rfl, (by first | omega | (simp; done) | (simp; omega)), (by first | omega | (simp; done) | (simp; omega)), (by first | omega | (simp; done) | (simp; omega)), .inr rfl, Nat.le_of_ble_eq_true rfl⟩ | exact .inl ⟨rfl, rfl, rfl, (by first | omega | (simp; done) | (simp; omega)), (by first | omega | (simp; done) | (simp; omega)), (by first | omega | (simp; done) | (simp; omega)), .inl rfl, Nat.le_of_ble_eq_true rfl⟩ | exact fun h => h | refine ⟨?_, ?_, ?_, .inl ?_⟩ | refine ⟨?_, ?_⟩ | refine fun ii hii => ?_ | omega | fail)
      · (repeat' first | exact trivial | exact rfl | exact Nat.le_of_ble_eq_true rfl | exact Nat.le_refl _ | exact .inl ⟨rfl, rfl, rfl, rfl, Nat.le_refl _, Nat.le_refl _, .inr rfl, Nat.le_of_ble_eq_true rfl⟩ | exact .inl ⟨rfl, rfl, rfl, rfl, Nat.le_refl _, Nat.le_refl _, .inl rfl, Nat.le_of_ble_eq_true rfl⟩ | exact .inr ⟨rfl, rfl, rfl, rfl, rfl⟩ | exact .inl ⟨rfl, rfl, rfl, (by first | omega | (simp; done) | (simp; omega)), (by first | omega | (simp; done) | (simp; omega)), (by first | omega | (simp; done) | (simp; omega)), .inr rfl, Nat.le_of_ble_eq_true rfl⟩ | exact .inl ⟨rfl, rfl, rfl, (by first | omega | (simp; done) | (simp; omega)), (by first | omega | (simp; done) | (simp; omega)), (by first | omega | (simp; done) | (simp; omega)), .inl rfl, Nat.le_of_ble_eq_true rfl⟩ | exact fun h => h | refine ⟨?_, ?_, ?_, .inl ?_⟩ | refine ⟨?_, ?_⟩ | refine fun ii hii => ?_ | omega | fail)
    | true =>
    have hb1 := of_decide_eq_true hb1
    have hb2 := of_decide_eq_true hb2
    conv => whnf
    refine ⟨⟨by omega, by omega⟩, ?_⟩
    rewrite [show (k : Int).toNat = k from rfl]
    have hrow : strS cs k = .one (.str (bs (cs.getD k []))) .nil := rfl
    generalize cs.getD k [] = b at *
    rewrite [hrow]
    conv => whnf
    have he := encode (bodyN b) (body_small b)
    have hbc := fun x => body_cut (b := b) (x := x)
    rcases hp : encP (bodyN b) with ⟨x, e⟩
    unfold encE at he
    rw [hp] at he
    simp only at he
    refine (lendR [(2, 1, 3, nodesS [.mk 4 b []])] ?_ (args' := .cons (nodeV (bodyN b)) .nil) ?_ rfl he).mono ?_
    · refine ⟨⟨rfl, Nat.le_refl _, rfl, fun i hi => ?_⟩, rfl, trivial⟩
      have hi : i < 1 := hi
      obtain rfl : i = 0 := by omega
      show shS 0 [] _ (nodesS [.mk 4 b []] 0)
      rw [nodesS_at _ _ (by simp)]
      show shS 0 [] _ (nodeS (.mk 4 b []))
      rw [nodeS]
      exact ⟨⟨rfl, rfl⟩, rfl, .inl ⟨rfl, rfl⟩, trivial⟩
    · show shVs 0 _ _ (.cons (nodeV (.mk 48 [] [.mk 4 b []])) .nil)
      rw [nodeV_mk]
      exact ⟨⟨⟨rfl, rfl⟩, rfl, .inr ⟨rfl, rfl, rfl, rfl, rfl, by simp, fun i hi => rfl⟩, trivial⟩, trivial⟩
    rintro _ _ ⟨rfl, rfl⟩
    by_cases h0 : e = 0
    · subst h0
      obtain ⟨hxc, hxl⟩ := hbc _ hp
      conv => whnf
      rewrite [bs_app]
      refine ⟨by rw [show IntKind.max .i64 = 9223372036854775807 from rfl, bs_size, bs_size]; omega, ?_⟩
      conv => whnf
      refine ⟨Nat.le_refl 1, ?_⟩
      conv => whnf
      refine ⟨⟨by omega, by omega, by omega⟩, ?_⟩
      conv => whnf
      rewrite [wrapS (n := (k : Int) + 1) (by omega)]
      have hc2 : cut (s ++ x) = (fr ++ [x], [], false) := by
        rw [cut_more s x (by rw [hcut]), hcut, List.nil_append, hxc]
      refine ⟨_, _, _, ?_, ⟨[], trivial, [0, 4], rfl, rfl, ?_, ?_⟩, k + 1, s ++ x, fr ++ [x], by omega, by omega, rfl, hc2, by rw [List.length_append]; omega, by rw [List.length_append, List.length_singleton]; omega, rfl, rfl⟩
      · omega
      · (repeat' first | exact trivial | exact rfl | exact Nat.le_of_ble_eq_true rfl | exact Nat.le_refl _ | exact .inl ⟨rfl, rfl, rfl, rfl, Nat.le_refl _, Nat.le_refl _, .inr rfl, Nat.le_of_ble_eq_true rfl⟩ | exact .inl ⟨rfl, rfl, rfl, rfl, Nat.le_refl _, Nat.le_refl _, .inl rfl, Nat.le_of_ble_eq_true rfl⟩ | exact .inr ⟨rfl, rfl, rfl, rfl, rfl⟩ | exact .inl ⟨rfl, rfl, rfl, (by first | omega | (simp; done) | (simp; omega)), (by first | omega | (simp; done) | (simp; omega)), (by first | omega | (simp; done) | (simp; omega)), .inr rfl, Nat.le_of_ble_eq_true rfl⟩ | exact .inl ⟨rfl, rfl, rfl, (by first | omega | (simp; done) | (simp; omega)), (by first | omega | (simp; done) | (simp; omega)), (by first | omega | (simp; done) | (simp; omega)), .inl rfl, Nat.le_of_ble_eq_true rfl⟩ | exact fun h => h | refine ⟨?_, ?_, ?_, .inl ?_⟩ | refine ⟨?_, ?_⟩ | refine fun ii hii => ?_ | omega | fail)
        all_goals exact (by rw [List.length_append]; rfl)
      · (repeat' first | exact trivial | exact rfl | exact Nat.le_of_ble_eq_true rfl | exact Nat.le_refl _ | exact .inl ⟨rfl, rfl, rfl, rfl, Nat.le_refl _, Nat.le_refl _, .inr rfl, Nat.le_of_ble_eq_true rfl⟩ | exact .inl ⟨rfl, rfl, rfl, rfl, Nat.le_refl _, Nat.le_refl _, .inl rfl, Nat.le_of_ble_eq_true rfl⟩ | exact .inr ⟨rfl, rfl, rfl, rfl, rfl⟩ | exact .inl ⟨rfl, rfl, rfl, (by first | omega | (simp; done) | (simp; omega)), (by first | omega | (simp; done) | (simp; omega)), (by first | omega | (simp; done) | (simp; omega)), .inr rfl, Nat.le_of_ble_eq_true rfl⟩ | exact .inl ⟨rfl, rfl, rfl, (by first | omega | (simp; done) | (simp; omega)), (by first | omega | (simp; done) | (simp; omega)), (by first | omega | (simp; done) | (simp; omega)), .inl rfl, Nat.le_of_ble_eq_true rfl⟩ | exact fun h => h | refine ⟨?_, ?_, ?_, .inl ?_⟩ | refine ⟨?_, ?_⟩ | refine fun ii hii => ?_ | omega | fail)
        all_goals first
          | exact (by rw [List.length_append]; rfl)
          | exact arr_app (by simpa using hii)
    · conv => whnf
      rewrite [show (e == 0) = false from beq_eq_false_iff_ne.2 h0]
      conv => whnf
      rewrite [wrapS (n := (k : Int) + 1) (by omega)]
      refine ⟨_, _, _, ?_, ⟨[], trivial, [0, 1], rfl, rfl, ?_, ?_⟩, k + 1, s, fr, by omega, by omega, rfl, hcut, by omega, by omega, rfl, rfl⟩
      · omega
      · (repeat' first | exact trivial | exact rfl | exact Nat.le_of_ble_eq_true rfl | exact Nat.le_refl _ | exact .inl ⟨rfl, rfl, rfl, rfl, Nat.le_refl _, Nat.le_refl _, .inr rfl, Nat.le_of_ble_eq_true rfl⟩ | exact .inl ⟨rfl, rfl, rfl, rfl, Nat.le_refl _, Nat.le_refl _, .inl rfl, Nat.le_of_ble_eq_true rfl⟩ | exact .inr ⟨rfl, rfl, rfl, rfl, rfl⟩ | exact .inl ⟨rfl, rfl, rfl, (by first | omega | (simp; done) | (simp; omega)), (by first | omega | (simp; done) | (simp; omega)), (by first | omega | (simp; done) | (simp; omega)), .inr rfl, Nat.le_of_ble_eq_true rfl⟩ | exact .inl ⟨rfl, rfl, rfl, (by first | omega | (simp; done) | (simp; omega)), (by first | omega | (simp; done) | (simp; omega)), (by first | omega | (simp; done) | (simp; omega)), .inl rfl, Nat.le_of_ble_eq_true rfl⟩ | exact fun h => h | refine ⟨?_, ?_, ?_, .inl ?_⟩ | refine ⟨?_, ?_⟩ | refine fun ii hii => ?_ | omega | fail)
      · (repeat' first | exact trivial | exact rfl | exact Nat.le_of_ble_eq_true rfl | exact Nat.le_refl _ | exact .inl ⟨rfl, rfl, rfl, rfl, Nat.le_refl _, Nat.le_refl _, .inr rfl, Nat.le_of_ble_eq_true rfl⟩ | exact .inl ⟨rfl, rfl, rfl, rfl, Nat.le_refl _, Nat.le_refl _, .inl rfl, Nat.le_of_ble_eq_true rfl⟩ | exact .inr ⟨rfl, rfl, rfl, rfl, rfl⟩ | exact .inl ⟨rfl, rfl, rfl, (by first | omega | (simp; done) | (simp; omega)), (by first | omega | (simp; done) | (simp; omega)), (by first | omega | (simp; done) | (simp; omega)), .inr rfl, Nat.le_of_ble_eq_true rfl⟩ | exact .inl ⟨rfl, rfl, rfl, (by first | omega | (simp; done) | (simp; omega)), (by first | omega | (simp; done) | (simp; omega)), (by first | omega | (simp; done) | (simp; omega)), .inl rfl, Nat.le_of_ble_eq_true rfl⟩ | exact fun h => h | refine ⟨?_, ?_, ?_, .inl ?_⟩ | refine ⟨?_, ?_⟩ | refine fun ii hii => ?_ | omega | fail)
end Go.Proofs.Ytbojbofakmihmaa.Fk
