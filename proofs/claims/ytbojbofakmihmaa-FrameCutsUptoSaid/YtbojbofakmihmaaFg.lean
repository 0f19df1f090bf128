/- Frames on the heap of the mind: the document's. By this session. -/
import Derived.Test.YtbojbofakmihmaaFf
namespace Go.Proofs.Ytbojbofakmihmaa.Fk
open Go.Proofs.Ytbojbofakmihmaa.Lh Go.RowKit Go.Proofs.Ytbojbofakmihmaa.Bp
open Go.Proofs.Ytbojbofakmihmaa.Bk (shS_ite bs bs_size bs_beq bs_nil bs_app bs_extract bs_at wrapS headV nne eqq)
set_option maxRecDepth 100000
set_option linter.unusedSimpArgs false
set_option linter.unusedSectionVars false
set_option linter.unusedVariables false
variable [Fz]
theorem New : LCalls Try.prog 19 .nil [] (fun e h' => e = .ret (.ptr ⟨0, [], 0⟩) ∧ h' = [fO [] false]) := by
  refine LCalls.tell ?_; refine enter19 rfl ?_; conv => whnf
  refine ⟨[0], _, _, rfl, rfl, ?_, ?_, rfl, rfl⟩
  · (repeat' first | exact trivial | exact rfl | exact Nat.le_of_ble_eq_true rfl | exact Nat.le_refl _ | exact .inl ⟨rfl, rfl, rfl, rfl, Nat.le_refl _, Nat.le_refl _, .inr rfl, Nat.le_of_ble_eq_true rfl⟩ | exact .inl ⟨rfl, rfl, rfl, rfl, Nat.le_refl _, Nat.le_refl _, .inl rfl, Nat.le_of_ble_eq_true rfl⟩ | exact .inr ⟨rfl, rfl, rfl, rfl, rfl⟩ | exact .inl ⟨rfl, rfl, rfl, (by first | omega | (simp; done) | (simp; omega)), (by first | omega | (simp; done) | (simp; omega)), (by first | omega | (simp; done) | (simp; omega)), .inr rfl, Nat.le_of_ble_eq_true rfl⟩ | exact .inl ⟨rfl, rfl, rfl, (by first | omega | (simp; done) | (simp; omega)), (by first | omega | (simp; done) | (simp; omega)), (by first | omega | (simp; done) | (simp; omega)), .inl rfl, Nat.le_of_ble_eq_true rfl⟩ | exact fun h => h | refine ⟨?_, ?_, ?_, .inl ?_⟩ | refine ⟨?_, ?_⟩ | refine fun ii hii => ?_ | omega | fail)
  · (repeat' first | exact trivial | exact rfl | exact Nat.le_of_ble_eq_true rfl | exact Nat.le_refl _ | exact .inl ⟨rfl, rfl, rfl, rfl, Nat.le_refl _, Nat.le_refl _, .inr rfl, Nat.le_of_ble_eq_true rfl⟩ | exact .inl ⟨rfl, rfl, rfl, rfl, Nat.le_refl _, Nat.le_refl _, .inl rfl, Nat.le_of_ble_eq_true rfl⟩ | exact .inr ⟨rfl, rfl, rfl, rfl, rfl⟩ | exact .inl ⟨rfl, rfl, rfl, (by first | omega | (simp; done) | (simp; omega)), (by first | omega | (simp; done) | (simp; omega)), (by first | omega | (simp; done) | (simp; omega)), .inr rfl, Nat.le_of_ble_eq_true rfl⟩ | exact .inl ⟨rfl, rfl, rfl, (by first | omega | (simp; done) | (simp; omega)), (by first | omega | (simp; done) | (simp; omega)), (by first | omega | (simp; done) | (simp; omega)), .inl rfl, Nat.le_of_ble_eq_true rfl⟩ | exact fun h => h | refine ⟨?_, ?_, ?_, .inl ?_⟩ | refine ⟨?_, ?_⟩ | refine fun ii hii => ?_ | omega | fail)
theorem Waiting (w : Bp.Bs) (d : Bool) : LCalls Try.prog 23 (.cons (.ptr ⟨0, [], 0⟩) .nil) [fO w d] (fun e h' => e = .ret (.int .i64 w.length) ∧ h' = [fO w d]) := by
  refine LCalls.tell ?_; refine enter23 rfl ?_; conv => whnf
  rewrite [bs_size]
  refine ⟨[0], _, _, rfl, rfl, ?_, ?_, rfl, rfl⟩
  · (repeat' first | exact trivial | exact rfl | exact Nat.le_of_ble_eq_true rfl | exact Nat.le_refl _ | exact .inl ⟨rfl, rfl, rfl, rfl, Nat.le_refl _, Nat.le_refl _, .inr rfl, Nat.le_of_ble_eq_true rfl⟩ | exact .inl ⟨rfl, rfl, rfl, rfl, Nat.le_refl _, Nat.le_refl _, .inl rfl, Nat.le_of_ble_eq_true rfl⟩ | exact .inr ⟨rfl, rfl, rfl, rfl, rfl⟩ | exact .inl ⟨rfl, rfl, rfl, (by first | omega | (simp; done) | (simp; omega)), (by first | omega | (simp; done) | (simp; omega)), (by first | omega | (simp; done) | (simp; omega)), .inr rfl, Nat.le_of_ble_eq_true rfl⟩ | exact .inl ⟨rfl, rfl, rfl, (by first | omega | (simp; done) | (simp; omega)), (by first | omega | (simp; done) | (simp; omega)), (by first | omega | (simp; done) | (simp; omega)), .inl rfl, Nat.le_of_ble_eq_true rfl⟩ | exact fun h => h | refine ⟨?_, ?_, ?_, .inl ?_⟩ | refine ⟨?_, ?_⟩ | refine fun ii hii => ?_ | omega | fail)
  · (repeat' first | exact trivial | exact rfl | exact Nat.le_of_ble_eq_true rfl | exact Nat.le_refl _ | exact .inl ⟨rfl, rfl, rfl, rfl, Nat.le_refl _, Nat.le_refl _, .inr rfl, Nat.le_of_ble_eq_true rfl⟩ | exact .inl ⟨rfl, rfl, rfl, rfl, Nat.le_refl _, Nat.le_refl _, .inl rfl, Nat.le_of_ble_eq_true rfl⟩ | exact .inr ⟨rfl, rfl, rfl, rfl, rfl⟩ | exact .inl ⟨rfl, rfl, rfl, (by first | omega | (simp; done) | (simp; omega)), (by first | omega | (simp; done) | (simp; omega)), (by first | omega | (simp; done) | (simp; omega)), .inr rfl, Nat.le_of_ble_eq_true rfl⟩ | exact .inl ⟨rfl, rfl, rfl, (by first | omega | (simp; done) | (simp; omega)), (by first | omega | (simp; done) | (simp; omega)), (by first | omega | (simp; done) | (simp; omega)), .inl rfl, Nat.le_of_ble_eq_true rfl⟩ | exact fun h => h | refine ⟨?_, ?_, ?_, .inl ?_⟩ | refine ⟨?_, ?_⟩ | refine fun ii hii => ?_ | omega | fail)
theorem Dead (w : Bp.Bs) (d : Bool) : LCalls Try.prog 24 (.cons (.ptr ⟨0, [], 0⟩) .nil) [fO w d] (fun e h' => e = .ret (.bool d) ∧ h' = [fO w d]) := by
  refine LCalls.tell ?_; refine enter24 rfl ?_; conv => whnf
  refine ⟨[0], _, _, rfl, rfl, ?_, ?_, rfl, rfl⟩
  · (repeat' first | exact trivial | exact rfl | exact Nat.le_of_ble_eq_true rfl | exact Nat.le_refl _ | exact .inl ⟨rfl, rfl, rfl, rfl, Nat.le_refl _, Nat.le_refl _, .inr rfl, Nat.le_of_ble_eq_true rfl⟩ | exact .inl ⟨rfl, rfl, rfl, rfl, Nat.le_refl _, Nat.le_refl _, .inl rfl, Nat.le_of_ble_eq_true rfl⟩ | exact .inr ⟨rfl, rfl, rfl, rfl, rfl⟩ | exact .inl ⟨rfl, rfl, rfl, (by first | omega | (simp; done) | (simp; omega)), (by first | omega | (simp; done) | (simp; omega)), (by first | omega | (simp; done) | (simp; omega)), .inr rfl, Nat.le_of_ble_eq_true rfl⟩ | exact .inl ⟨rfl, rfl, rfl, (by first | omega | (simp; done) | (simp; omega)), (by first | omega | (simp; done) | (simp; omega)), (by first | omega | (simp; done) | (simp; omega)), .inl rfl, Nat.le_of_ble_eq_true rfl⟩ | exact fun h => h | refine ⟨?_, ?_, ?_, .inl ?_⟩ | refine ⟨?_, ?_⟩ | refine fun ii hii => ?_ | omega | fail)
  · (repeat' first | exact trivial | exact rfl | exact Nat.le_of_ble_eq_true rfl | exact Nat.le_refl _ | exact .inl ⟨rfl, rfl, rfl, rfl, Nat.le_refl _, Nat.le_refl _, .inr rfl, Nat.le_of_ble_eq_true rfl⟩ | exact .inl ⟨rfl, rfl, rfl, rfl, Nat.le_refl _, Nat.le_refl _, .inl rfl, Nat.le_of_ble_eq_true rfl⟩ | exact .inr ⟨rfl, rfl, rfl, rfl, rfl⟩ | exact .inl ⟨rfl, rfl, rfl, (by first | omega | (simp; done) | (simp; omega)), (by first | omega | (simp; done) | (simp; omega)), (by first | omega | (simp; done) | (simp; omega)), .inr rfl, Nat.le_of_ble_eq_true rfl⟩ | exact .inl ⟨rfl, rfl, rfl, (by first | omega | (simp; done) | (simp; omega)), (by first | omega | (simp; done) | (simp; omega)), (by first | omega | (simp; done) | (simp; omega)), .inl rfl, Nat.le_of_ble_eq_true rfl⟩ | exact fun h => h | refine ⟨?_, ?_, ?_, .inl ?_⟩ | refine ⟨?_, ?_⟩ | refine fun ii hii => ?_ | omega | fail)
def rO (w : Bp.Bs) (d : Bool) : Option LObj := some ⟨.one (.str (bs w)) (.one (.bool d) .nil), 28, false, false⟩
theorem long_head {s : Bp.Bs} (h : s ≠ []) : (∃ t n h, headP s = (t, n, h, 0) ∧ s.getD 0 0 = 48 ∧ h + n ≤ s.length ∧ longP s = (h + n, 0)) ∨ (∃ t n h, headP s = (t, n, h, 0) ∧ s.getD 0 0 = 48 ∧ s.length < h + n ∧ longP s = (0, 92)) ∨ (headP s = (0, 0, 0, 92) ∧ s.getD 0 0 = 48 ∧ longP s = (0, 92)) ∨ (longP s = (0, 100) ∧ ∃ t n h e, headP s = (t, n, h, e) ∧ (s.getD 0 0 ≠ 48 ∨ (e ≠ 0 ∧ e ≠ 92))) := by
  by_cases c : s.getD 0 0 ≠ 48
  · refine .inr (.inr (.inr ⟨?_, _, _, _, _, rfl, .inl c⟩))
    unfold longP
    exact if_pos ⟨h, c⟩
  · have hl : longP s = match headP s with
        | (_, ct, hl, e) => if e = 0 ∧ s.length < hl + ct then (0, 92) else if e = 0 ∨ e = 92 then (hl + ct, e) else (0, 100) := by
      conv => lhs; unfold longP
      exact if_neg fun x => c x.2
    have c : s.getD 0 0 = 48 := Classical.byContradiction fun x => c x
    rcases head_cases s with ⟨t, n, h, e⟩ | ⟨e, _⟩ | e | e
    · rw [e] at hl
      simp only [true_and, true_or, if_true] at hl
      by_cases c2 : s.length < h + n
      · rw [if_pos c2] at hl
        exact .inr (.inl ⟨t, n, h, e, c, c2, hl⟩)
      · rw [if_neg c2] at hl
        exact .inl ⟨t, n, h, e, c, by omega, hl⟩
    · rw [e] at hl
      exact .inr (.inr (.inl ⟨e, c, by rw [hl]; simp⟩))
    · rw [e] at hl
      exact .inr (.inr (.inr ⟨by rw [hl]; simp, _, _, _, _, e, .inr ⟨by decide, by decide⟩⟩))
    · rw [e] at hl
      exact .inr (.inr (.inr ⟨by rw [hl]; simp, _, _, _, _, e, .inr ⟨by decide, by decide⟩⟩))
theorem feed_live (w c : Bp.Bs) : feedP w false c = match cut (w ++ c) with
    | (l, r, d) => if d = true then (l, 100, [], true) else (l, 0, r, false) := by unfold feedP; exact if_neg (by decide)
theorem cut_nil : cut [] = ([], [], false) := by rfl
theorem arr_app {K : Nat} {F : Fzl} {g : Nat → Nat} {fr : List Bp.Bs} {s : Bp.Bs} {ii : Nat} {X : Segs} (hii : ii < fr.length + 1) : shS K F (if ii < fr.length then strS fr (0 + ii) else (if 0 + (ii - fr.length) = 0 then .one (.str (bs s)) .nil else X)) (renS g (strS (fr ++ [s]) ii)) := by
  refine shS_ite (fun c => ⟨by show bs (fr.getD (0 + ii) []) = bs ((fr ++ [s]).getD ii []); rw [Nat.zero_add, List.getD_eq_getElem?_getD, List.getD_eq_getElem?_getD, List.getElem?_append_left c], trivial⟩) (fun c => ?_)
  obtain rfl : ii = fr.length := by omega
  exact shS_ite (fun _ => ⟨by show bs s = bs ((fr ++ [s]).getD fr.length []); rw [List.getD_eq_getElem?_getD, List.getElem?_append_right (Nat.le_refl _)]; simp, trivial⟩) (fun c2 => absurd (by omega) c2)
theorem RFeed (w c : Bp.Bs) (d : Bool) (hw : w.length ≤ 4004) (hc : c.length ≤ 1048576) : LCalls Try.prog 21 (.cons (.ptr ⟨0, [], 0⟩) (.cons (.str (bs c)) .nil)) [rO w d] (fun e h' => e = .ret (feedV (feedP w d c)) ∧ h' = [rO (feedP w d c).2.2.1 (feedP w d c).2.2.2]) := by
  refine LCalls.tellF ?_
  refine enter21 rfl ?_
  conv => whnf
  cases d with
  | true =>
    conv => whnf
    refine ⟨[], trivial, [0], _, _, rfl, rfl, ?_, ?_, rfl, rfl⟩
    · (repeat' first | exact trivial | exact rfl | exact Nat.le_of_ble_eq_true rfl | exact Nat.le_refl _ | exact .inl ⟨rfl, rfl, rfl, rfl, Nat.le_refl _, Nat.le_refl _, .inr rfl, Nat.le_of_ble_eq_true rfl⟩ | exact .inl ⟨rfl, rfl, rfl, rfl, Nat.le_refl _, Nat.le_refl _, .inl rfl, Nat.le_of_ble_eq_true rfl⟩ | exact .inr ⟨rfl, rfl, rfl, rfl, rfl⟩ | exact .inl ⟨rfl, rfl, rfl, (by first | omega | (simp; done) | (simp; omega)), (by first | omega | (simp; done) | (simp; omega)), (by first | omega | (simp; done) | (simp; omega)), .inr rfl, Nat.le_of_ble_eq_true rfl⟩ | exact .inl ⟨rfl, rfl, rfl, (by first | omega | (simp; done) | (simp; omega)), (by first | omega | (simp; done) | (simp; omega)), (by first | omega | (simp; done) | (simp; omega)), .inl rfl, Nat.le_of_ble_eq_true rfl⟩ | exact fun h => h | refine ⟨?_, ?_, ?_, .inl ?_⟩ | refine ⟨?_, ?_⟩ | refine fun ii hii => ?_ | omega | fail)
      exact .inl ⟨rfl, rfl⟩
    · (repeat' first | exact trivial | exact rfl | exact Nat.le_of_ble_eq_true rfl | exact Nat.le_refl _ | exact .inl ⟨rfl, rfl, rfl, rfl, Nat.le_refl _, Nat.le_refl _, .inr rfl, Nat.le_of_ble_eq_true rfl⟩ | exact .inl ⟨rfl, rfl, rfl, rfl, Nat.le_refl _, Nat.le_refl _, .inl rfl, Nat.le_of_ble_eq_true rfl⟩ | exact .inr ⟨rfl, rfl, rfl, rfl, rfl⟩ | exact .inl ⟨rfl, rfl, rfl, (by first | omega | (simp; done) | (simp; omega)), (by first | omega | (simp; done) | (simp; omega)), (by first | omega | (simp; done) | (simp; omega)), .inr rfl, Nat.le_of_ble_eq_true rfl⟩ | exact .inl ⟨rfl, rfl, rfl, (by first | omega | (simp; done) | (simp; omega)), (by first | omega | (simp; done) | (simp; omega)), (by first | omega | (simp; done) | (simp; omega)), .inl rfl, Nat.le_of_ble_eq_true rfl⟩ | exact fun h => h | refine ⟨?_, ?_, ?_, .inl ?_⟩ | refine ⟨?_, ?_⟩ | refine fun ii hii => ?_ | omega | fail)
  | false =>
    conv => whnf
    rewrite [bs_app]
    refine ⟨by rw [show IntKind.max .i64 = 9223372036854775807 from rfl, bs_size, bs_size]; omega, ?_⟩
    have hwc : (w ++ c).length ≤ 1060000 := by rw [List.length_append]; omega
    conv => whnf
    refine Loop.inv (lwp_mono _) (fun j t1 h => ∃ (r : Bp.Bs) (fr : List Bp.Bs), j = r.length ∧ fr.length + r.length ≤ (w ++ c).length ∧ cut (w ++ c) = (fr ++ (cut r).1, (cut r).2.1, (cut r).2.2) ∧ t1 = [.ptr ⟨0, [], 0⟩, .any, .any, .any, .any, .any, .str (bs r), .slice ⟨1, [], 0⟩ 0 1 fr.length fr.length none, .any, .any, .any, .any, .any, .any, .any, .any, .any, .any, .any, .any, .any, .any, .any, .any, .any, .any, .any, .any, .any, .any, .any, .any, .any, .any, .any, .any, .any, .any, .any, .any, .any, .any, .any, .any, .any, .any, .any, .any, .any, .any, .any, .any, .any, .any, .any, .any, .any, .any, .any, .any, .any, .any, .any, .any, .any, .any, .any, .any, .any, .any, .any, .any, .any, .any, .any, .any, .any, .any, .any, .any, .any, .any] ∧ h = [rO w false, arrO fr]) ?_ ?_
    · refine ⟨_, _, _, ⟨[], trivial, [0, 99], rfl, rfl, ?_, ?_⟩, w ++ c, [], rfl, by simp, rfl, rfl, rfl⟩
      · (repeat' first | exact trivial | exact rfl | exact Nat.le_of_ble_eq_true rfl | exact Nat.le_refl _ | exact .inl ⟨rfl, rfl, rfl, rfl, Nat.le_refl _, Nat.le_refl _, .inr rfl, Nat.le_of_ble_eq_true rfl⟩ | exact .inl ⟨rfl, rfl, rfl, rfl, Nat.le_refl _, Nat.le_refl _, .inl rfl, Nat.le_of_ble_eq_true rfl⟩ | exact .inr ⟨rfl, rfl, rfl, rfl, rfl⟩ | exact .inl ⟨rfl, rfl, rfl, (by first | omega | (simp; done) | (simp; omega)), (by first | omega | (simp; done) | (simp; omega)), (by first | omega | (simp; done) | (simp; omega)), .inr rfl, Nat.le_of_ble_eq_true rfl⟩ | exact .inl ⟨rfl, rfl, rfl, (by first | omega | (simp; done) | (simp; omega)), (by first | omega | (simp; done) | (simp; omega)), (by first | omega | (simp; done) | (simp; omega)), .inl rfl, Nat.le_of_ble_eq_true rfl⟩ | exact fun h => h | refine ⟨?_, ?_, ?_, .inl ?_⟩ | refine ⟨?_, ?_⟩ | refine fun ii hii => ?_ | omega | fail)
      · (repeat' first | exact trivial | exact rfl | exact Nat.le_of_ble_eq_true rfl | exact Nat.le_refl _ | exact .inl ⟨rfl, rfl, rfl, rfl, Nat.le_refl _, Nat.le_refl _, .inr rfl, Nat.le_of_ble_eq_true rfl⟩ | exact .inl ⟨rfl, rfl, rfl, rfl, Nat.le_refl _, Nat.le_refl _, .inl rfl, Nat.le_of_ble_eq_true rfl⟩ | exact .inr ⟨rfl, rfl, rfl, rfl, rfl⟩ | exact .inl ⟨rfl, rfl, rfl, (by first | omega | (simp; done) | (simp; omega)), (by first | omega | (simp; done) | (simp; omega)), (by first | omega | (simp; done) | (simp; omega)), .inr rfl, Nat.le_of_ble_eq_true rfl⟩ | exact .inl ⟨rfl, rfl, rfl, (by first | omega | (simp; done) | (simp; omega)), (by first | omega | (simp; done) | (simp; omega)), (by first | omega | (simp; done) | (simp; omega)), .inl rfl, Nat.le_of_ble_eq_true rfl⟩ | exact fun h => h | refine ⟨?_, ?_, ?_, .inl ?_⟩ | refine ⟨?_, ?_⟩ | refine fun ii hii => ?_ | omega | fail)
    · rintro j _ _ ⟨r, fr, rfl, hlen, he, rfl, rfl⟩
      rw [feed_live, he]
      cases r with
      | nil =>
        rw [cut_nil]
        conv => whnf
        rewrite [List.append_nil]
        refine ⟨[(1, fr.length, 1, strS fr)], ⟨⟨rfl, Nat.le_refl _, rfl, fun i hi => ?_⟩, rfl, trivial⟩, [0], _, _, rfl, rfl, ?_, ?_, rfl, rfl⟩
        · exact ⟨rfl, trivial⟩
        · (repeat' first | exact trivial | exact rfl | exact Nat.le_of_ble_eq_true rfl | exact Nat.le_refl _ | exact .inl ⟨rfl, rfl, rfl, rfl, Nat.le_refl _, Nat.le_refl _, .inr rfl, Nat.le_of_ble_eq_true rfl⟩ | exact .inl ⟨rfl, rfl, rfl, rfl, Nat.le_refl _, Nat.le_refl _, .inl rfl, Nat.le_of_ble_eq_true rfl⟩ | exact .inr ⟨rfl, rfl, rfl, rfl, rfl⟩ | exact .inl ⟨rfl, rfl, rfl, (by first | omega | (simp; done) | (simp; omega)), (by first | omega | (simp; done) | (simp; omega)), (by first | omega | (simp; done) | (simp; omega)), .inr rfl, Nat.le_of_ble_eq_true rfl⟩ | exact .inl ⟨rfl, rfl, rfl, (by first | omega | (simp; done) | (simp; omega)), (by first | omega | (simp; done) | (simp; omega)), (by first | omega | (simp; done) | (simp; omega)), .inl rfl, Nat.le_of_ble_eq_true rfl⟩ | exact fun h => h | refine ⟨?_, ?_, ?_, .inl ?_⟩ | refine ⟨?_, ?_⟩ | refine fun ii hii => ?_ | omega | fail)
          exact .inr ⟨rfl, rfl, rfl, rfl, rfl, by simp, fun i hi => by show strS fr (offs 0 i) = strS fr i; rfl⟩
        · (repeat' first | exact trivial | exact rfl | exact Nat.le_of_ble_eq_true rfl | exact Nat.le_refl _ | exact .inl ⟨rfl, rfl, rfl, rfl, Nat.le_refl _, Nat.le_refl _, .inr rfl, Nat.le_of_ble_eq_true rfl⟩ | exact .inl ⟨rfl, rfl, rfl, rfl, Nat.le_refl _, Nat.le_refl _, .inl rfl, Nat.le_of_ble_eq_true rfl⟩ | exact .inr ⟨rfl, rfl, rfl, rfl, rfl⟩ | exact .inl ⟨rfl, rfl, rfl, (by first | omega | (simp; done) | (simp; omega)), (by first | omega | (simp; done) | (simp; omega)), (by first | omega | (simp; done) | (simp; omega)), .inr rfl, Nat.le_of_ble_eq_true rfl⟩ | exact .inl ⟨rfl, rfl, rfl, (by first | omega | (simp; done) | (simp; omega)), (by first | omega | (simp; done) | (simp; omega)), (by first | omega | (simp; done) | (simp; omega)), .inl rfl, Nat.le_of_ble_eq_true rfl⟩ | exact fun h => h | refine ⟨?_, ?_, ?_, .inl ?_⟩ | refine ⟨?_, ?_⟩ | refine fun ii hii => ?_ | omega | fail)
      | cons a0 r0 =>
      generalize hr0 : a0 :: r0 = r at *
      have hne : r ≠ [] := by rw [← hr0]; simp
      have hpos : 0 < r.length := by rw [← hr0]; simp
      have hh := Bk.rHead r
      unfold headV at hh
      conv => whnf
      rewrite [bs_size, show decide ((r.length : Int) > 0) = true from decide_eq_true (by omega)]
      conv => whnf
      rcases long_head hne with ⟨t, n, h, e, h48, hle, hp⟩ | ⟨t, n, h, e, h48, hle, hp⟩ | ⟨e, h48, hp⟩ | ⟨hp, t, n, h, e', e, h48⟩
      · rw [e] at hh
        simp only at hh
        have hst := cut_step hp
        obtain ⟨hr1, hr2, hr3, _⟩ := head_read e
        have hl3 := lenB_len n
        have hh2 : 2 ≤ h := by split at hl3 <;> (try split at hl3) <;> omega
        refine LCalls.use hh [] rfl rfl trivial ?_
        rintro _ _ ⟨rfl, rfl⟩
        conv => whnf
        refine ⟨⟨by omega, by rw [bs_size]; omega⟩, ?_⟩
        conv => whnf
        rewrite [bs_at, u8_ne, show decide (r.getD (Int.toNat 0) 0 ≠ 48) = false from decide_eq_false (fun x => x h48)]
        conv => whnf
        rewrite [bs_size, wrapS (n := (h : Int) + (n : Int)) (by omega), show decide ((r.length : Int) < (h : Int) + (n : Int)) = false from decide_eq_false (by omega)]
        conv => whnf
        rewrite [wrapS (n := (h : Int) + (n : Int)) (by omega)]
        refine ⟨by omega, ?_⟩
        rewrite [show ((h : Int) + (n : Int)).toNat = h + n by omega]
        conv => whnf
        refine ⟨⟨Nat.zero_le _, by rw [bs_size]; omega⟩, ?_⟩
        rewrite [bs_extract, Nat.sub_zero, List.drop_zero]
        conv => whnf
        refine ⟨Nat.le_refl 1, ?_⟩
        conv => whnf
        refine ⟨⟨by omega, by omega, by omega⟩, ?_⟩
        conv => whnf
        rewrite [wrapS (n := (h : Int) + (n : Int)) (by omega)]
        refine ⟨by omega, ?_⟩
        rewrite [show ((h : Int) + (n : Int)).toNat = h + n by omega]
        conv => whnf
        refine ⟨⟨by rw [bs_size]; omega, Nat.le_refl _⟩, ?_⟩
        rewrite [bs_extract, bs_size, show (r.drop (h + n)).take (r.length - (h + n)) = r.drop (h + n) from List.take_of_length_le (by rw [List.length_drop]; omega)]
        conv => whnf
        refine ⟨_, _, (r.drop (h + n)).length, ?_, ⟨[], trivial, [0, 3], rfl, rfl, ?_, ?_⟩, r.drop (h + n), fr ++ [r.take (h + n)], rfl, ?_, ?_, rfl, rfl⟩
        · rw [List.length_drop]; omega
        · (repeat' first | exact trivial | exact rfl | exact Nat.le_of_ble_eq_true rfl | exact Nat.le_refl _ | exact .inl ⟨rfl, rfl, rfl, rfl, Nat.le_refl _, Nat.le_refl _, .inr rfl, Nat.le_of_ble_eq_true rfl⟩ | exact .inl ⟨rfl, rfl, rfl, rfl, Nat.le_refl _, Nat.le_refl _, .inl rfl, Nat.le_of_ble_eq_true rfl⟩ | exact .inr ⟨rfl, rfl, rfl, rfl, rfl⟩ | exact .inl ⟨rfl, rfl, rfl, (by first | omega | (simp; done) | (simp; omega)), (by first | omega | (simp; done) | (simp; omega)), (by first | omega | (simp; done) | (simp; omega)), .inr rfl, Nat.le_of_ble_eq_true rfl⟩ | exact .inl ⟨rfl, rfl, rfl, (by first | omega | (simp; done) | (simp; omega)), (by first | omega | (simp; done) | (simp; omega)), (by first | omega | (simp; done) | (simp; omega)), .inl rfl, Nat.le_of_ble_eq_true rfl⟩ | exact fun h => h | refine ⟨?_, ?_, ?_, .inl ?_⟩ | refine ⟨?_, ?_⟩ | refine fun ii hii => ?_ | omega | fail)
          all_goals exact (by rw [List.length_append]; rfl)
        · (repeat' first | exact trivial | exact rfl | exact Nat.le_of_ble_eq_true rfl | exact Nat.le_refl _ | exact .inl ⟨rfl, rfl, rfl, rfl, Nat.le_refl _, Nat.le_refl _, .inr rfl, Nat.le_of_ble_eq_true rfl⟩ | exact .inl ⟨rfl, rfl, rfl, rfl, Nat.le_refl _, Nat.le_refl _, .inl rfl, Nat.le_of_ble_eq_true rfl⟩ | exact .inr ⟨rfl, rfl, rfl, rfl, rfl⟩ | exact .inl ⟨rfl, rfl, rfl, (by first | omega | (simp; done) | (simp; omega)), (by first | omega | (simp; done) | (simp; omega)), (by first | omega | (simp; done) | (simp; omega)), .inr rfl, Nat.le_of_ble_eq_true rfl⟩ | exact .inl ⟨rfl, rfl, rfl, (by first | omega | (simp; done) | (simp; omega)), (by first | omega | (simp; done) | (simp; omega)), (by first | omega | (simp; done) | (simp; omega)), .inl rfl, Nat.le_of_ble_eq_true rfl⟩ | exact fun h => h | refine ⟨?_, ?_, ?_, .inl ?_⟩ | refine ⟨?_, ?_⟩ | refine fun ii hii => ?_ | omega | fail)
          all_goals first
            | exact (by rw [List.length_append]; rfl)
            | exact arr_app (by simpa using hii)
        · rw [List.length_append, List.length_drop, List.length_singleton]; omega
        · rw [hst, List.append_assoc]; rfl
      · rw [e] at hh
        simp only at hh
        have hst := cut_stop hp (by decide)
        refine LCalls.use hh [] rfl rfl trivial ?_
        rintro _ _ ⟨rfl, rfl⟩
        conv => whnf
        refine ⟨⟨by omega, by rw [bs_size]; omega⟩, ?_⟩
        conv => whnf
        rewrite [bs_at, u8_ne, show decide (r.getD (Int.toNat 0) 0 ≠ 48) = false from decide_eq_false (fun x => x h48)]
        conv => whnf
        obtain ⟨hr1, hr2, hr3, _⟩ := head_read e
        have hl3 := lenB_len n
        rewrite [bs_size, wrapS (n := (h : Int) + (n : Int)) (by split at hl3 <;> (try split at hl3) <;> omega), show decide ((r.length : Int) < (h : Int) + (n : Int)) = true from decide_eq_true (by omega)]
        rw [hst]
        conv => whnf
        rewrite [List.append_nil]
        refine ⟨[(1, fr.length, 1, strS fr)], ⟨⟨rfl, Nat.le_refl _, rfl, fun i hi => ?_⟩, rfl, trivial⟩, [0], _, _, rfl, rfl, ?_, ?_, rfl, rfl⟩
        · exact ⟨rfl, trivial⟩
        · (repeat' first | exact trivial | exact rfl | exact Nat.le_of_ble_eq_true rfl | exact Nat.le_refl _ | exact .inl ⟨rfl, rfl, rfl, rfl, Nat.le_refl _, Nat.le_refl _, .inr rfl, Nat.le_of_ble_eq_true rfl⟩ | exact .inl ⟨rfl, rfl, rfl, rfl, Nat.le_refl _, Nat.le_refl _, .inl rfl, Nat.le_of_ble_eq_true rfl⟩ | exact .inr ⟨rfl, rfl, rfl, rfl, rfl⟩ | exact .inl ⟨rfl, rfl, rfl, (by first | omega | (simp; done) | (simp; omega)), (by first | omega | (simp; done) | (simp; omega)), (by first | omega | (simp; done) | (simp; omega)), .inr rfl, Nat.le_of_ble_eq_true rfl⟩ | exact .inl ⟨rfl, rfl, rfl, (by first | omega | (simp; done) | (simp; omega)), (by first | omega | (simp; done) | (simp; omega)), (by first | omega | (simp; done) | (simp; omega)), .inl rfl, Nat.le_of_ble_eq_true rfl⟩ | exact fun h => h | refine ⟨?_, ?_, ?_, .inl ?_⟩ | refine ⟨?_, ?_⟩ | refine fun ii hii => ?_ | omega | fail)
          exact .inr ⟨rfl, rfl, rfl, rfl, rfl, by simp, fun i hi => by show strS fr (offs 0 i) = strS fr i; rfl⟩
        · (repeat' first | exact trivial | exact rfl | exact Nat.le_of_ble_eq_true rfl | exact Nat.le_refl _ | exact .inl ⟨rfl, rfl, rfl, rfl, Nat.le_refl _, Nat.le_refl _, .inr rfl, Nat.le_of_ble_eq_true rfl⟩ | exact .inl ⟨rfl, rfl, rfl, rfl, Nat.le_refl _, Nat.le_refl _, .inl rfl, Nat.le_of_ble_eq_true rfl⟩ | exact .inr ⟨rfl, rfl, rfl, rfl, rfl⟩ | exact .inl ⟨rfl, rfl, rfl, (by first | omega | (simp; done) | (simp; omega)), (by first | omega | (simp; done) | (simp; omega)), (by first | omega | (simp; done) | (simp; omega)), .inr rfl, Nat.le_of_ble_eq_true rfl⟩ | exact .inl ⟨rfl, rfl, rfl, (by first | omega | (simp; done) | (simp; omega)), (by first | omega | (simp; done) | (simp; omega)), (by first | omega | (simp; done) | (simp; omega)), .inl rfl, Nat.le_of_ble_eq_true rfl⟩ | exact fun h => h | refine ⟨?_, ?_, ?_, .inl ?_⟩ | refine ⟨?_, ?_⟩ | refine fun ii hii => ?_ | omega | fail)
      · rw [e] at hh
        simp only at hh
        have hst := cut_stop hp (by decide)
        refine LCalls.use hh [] rfl rfl trivial ?_
        rintro _ _ ⟨rfl, rfl⟩
        conv => whnf
        refine ⟨⟨by omega, by rw [bs_size]; omega⟩, ?_⟩
        conv => whnf
        rewrite [bs_at, u8_ne, show decide (r.getD (Int.toNat 0) 0 ≠ 48) = false from decide_eq_false (fun x => x h48)]
        conv => whnf
        rw [hst]
        conv => whnf
        rewrite [List.append_nil]
        refine ⟨[(1, fr.length, 1, strS fr)], ⟨⟨rfl, Nat.le_refl _, rfl, fun i hi => ?_⟩, rfl, trivial⟩, [0], _, _, rfl, rfl, ?_, ?_, rfl, rfl⟩
        · exact ⟨rfl, trivial⟩
        · (repeat' first | exact trivial | exact rfl | exact Nat.le_of_ble_eq_true rfl | exact Nat.le_refl _ | exact .inl ⟨rfl, rfl, rfl, rfl, Nat.le_refl _, Nat.le_refl _, .inr rfl, Nat.le_of_ble_eq_true rfl⟩ | exact .inl ⟨rfl, rfl, rfl, rfl, Nat.le_refl _, Nat.le_refl _, .inl rfl, Nat.le_of_ble_eq_true rfl⟩ | exact .inr ⟨rfl, rfl, rfl, rfl, rfl⟩ | exact .inl ⟨rfl, rfl, rfl, (by first | omega | (simp; done) | (simp; omega)), (by first | omega | (simp; done) | (simp; omega)), (by first | omega | (simp; done) | (simp; omega)), .inr rfl, Nat.le_of_ble_eq_true rfl⟩ | exact .inl ⟨rfl, rfl, rfl, (by first | omega | (simp; done) | (simp; omega)), (by first | omega | (simp; done) | (simp; omega)), (by first | omega | (simp; done) | (simp; omega)), .inl rfl, Nat.le_of_ble_eq_true rfl⟩ | exact fun h => h | refine ⟨?_, ?_, ?_, .inl ?_⟩ | refine ⟨?_, ?_⟩ | refine fun ii hii => ?_ | omega | fail)
          exact .inr ⟨rfl, rfl, rfl, rfl, rfl, by simp, fun i hi => by show strS fr (offs 0 i) = strS fr i; rfl⟩
        · (repeat' first | exact trivial | exact rfl | exact Nat.le_of_ble_eq_true rfl | exact Nat.le_refl _ | exact .inl ⟨rfl, rfl, rfl, rfl, Nat.le_refl _, Nat.le_refl _, .inr rfl, Nat.le_of_ble_eq_true rfl⟩ | exact .inl ⟨rfl, rfl, rfl, rfl, Nat.le_refl _, Nat.le_refl _, .inl rfl, Nat.le_of_ble_eq_true rfl⟩ | exact .inr ⟨rfl, rfl, rfl, rfl, rfl⟩ | exact .inl ⟨rfl, rfl, rfl, (by first | omega | (simp; done) | (simp; omega)), (by first | omega | (simp; done) | (simp; omega)), (by first | omega | (simp; done) | (simp; omega)), .inr rfl, Nat.le_of_ble_eq_true rfl⟩ | exact .inl ⟨rfl, rfl, rfl, (by first | omega | (simp; done) | (simp; omega)), (by first | omega | (simp; done) | (simp; omega)), (by first | omega | (simp; done) | (simp; omega)), .inl rfl, Nat.le_of_ble_eq_true rfl⟩ | exact fun h => h | refine ⟨?_, ?_, ?_, .inl ?_⟩ | refine ⟨?_, ?_⟩ | refine fun ii hii => ?_ | omega | fail)
      · rw [e] at hh
        simp only at hh
        have hst := cut_stop hp (by decide)
        refine LCalls.use hh [] rfl rfl trivial ?_
        rintro _ _ ⟨rfl, rfl⟩
        rw [hst]
        conv => whnf
        refine ⟨⟨by omega, by rw [bs_size]; omega⟩, ?_⟩
        conv => whnf
        rewrite [bs_at, u8_ne]
        rcases h48 with h48 | ⟨ha, hb⟩
        · rewrite [show decide (r.getD (Int.toNat 0) 0 ≠ 48) = true from decide_eq_true h48]
          conv => whnf
          rewrite [List.append_nil]
          refine ⟨[(1, fr.length, 1, strS fr)], ⟨⟨rfl, Nat.le_refl _, rfl, fun i hi => ?_⟩, rfl, trivial⟩, [0], _, _, rfl, rfl, ?_, ?_, rfl, rfl⟩
          · exact ⟨rfl, trivial⟩
          · (repeat' first | exact trivial | exact rfl | exact Nat.le_of_ble_eq_true rfl | exact Nat.le_refl _ | exact .inl ⟨rfl, rfl, rfl, rfl, Nat.le_refl _, Nat.le_refl _, .inr rfl, Nat.le_of_ble_eq_true rfl⟩ | exact .inl ⟨rfl, rfl, rfl, rfl, Nat.le_refl _, Nat.le_refl _, .inl rfl, Nat.le_of_ble_eq_true rfl⟩ | exact .inr ⟨rfl, rfl, rfl, rfl, rfl⟩ | exact .inl ⟨rfl, rfl, rfl, (by first | omega | (simp; done) | (simp; omega)), (by first | omega | (simp; done) | (simp; omega)), (by first | omega | (simp; done) | (simp; omega)), .inr rfl, Nat.le_of_ble_eq_true rfl⟩ | exact .inl ⟨rfl, rfl, rfl, (by first | omega | (simp; done) | (simp; omega)), (by first | omega | (simp; done) | (simp; omega)), (by first | omega | (simp; done) | (simp; omega)), .inl rfl, Nat.le_of_ble_eq_true rfl⟩ | exact fun h => h | refine ⟨?_, ?_, ?_, .inl ?_⟩ | refine ⟨?_, ?_⟩ | refine fun ii hii => ?_ | omega | fail)
            exact .inr ⟨rfl, rfl, rfl, rfl, rfl, by simp, fun i hi => by show strS fr (offs 0 i) = strS fr i; rfl⟩
          · (repeat' first | exact trivial | exact rfl | exact Nat.le_of_ble_eq_true rfl | exact Nat.le_refl _ | exact .inl ⟨rfl, rfl, rfl, rfl, Nat.le_refl _, Nat.le_refl _, .inr rfl, Nat.le_of_ble_eq_true rfl⟩ | exact .inl ⟨rfl, rfl, rfl, rfl, Nat.le_refl _, Nat.le_refl _, .inl rfl, Nat.le_of_ble_eq_true rfl⟩ | exact .inr ⟨rfl, rfl, rfl, rfl, rfl⟩ | exact .inl ⟨rfl, rfl, rfl, (by first | omega | (simp; done) | (simp; omega)), (by first | omega | (simp; done) | (simp; omega)), (by first | omega | (simp; done) | (simp; omega)), .inr rfl, Nat.le_of_ble_eq_true rfl⟩ | exact .inl ⟨rfl, rfl, rfl, (by first | omega | (simp; done) | (simp; omega)), (by first | omega | (simp; done) | (simp; omega)), (by first | omega | (simp; done) | (simp; omega)), .inl rfl, Nat.le_of_ble_eq_true rfl⟩ | exact fun h => h | refine ⟨?_, ?_, ?_, .inl ?_⟩ | refine ⟨?_, ?_⟩ | refine fun ii hii => ?_ | omega | fail)
        · cases hd48 : decide (r.getD (Int.toNat 0) 0 ≠ 48) with
          | true =>
            conv => whnf
            rewrite [List.append_nil]
            refine ⟨[(1, fr.length, 1, strS fr)], ⟨⟨rfl, Nat.le_refl _, rfl, fun i hi => ?_⟩, rfl, trivial⟩, [0], _, _, rfl, rfl, ?_, ?_, rfl, rfl⟩
            · exact ⟨rfl, trivial⟩
            · (repeat' first | exact trivial | exact rfl | exact Nat.le_of_ble_eq_true rfl | exact Nat.le_refl _ | exact .inl ⟨rfl, rfl, rfl, rfl, Nat.le_refl _, Nat.le_refl _, .inr rfl, Nat.le_of_ble_eq_true rfl⟩ | exact .inl ⟨rfl, rfl, rfl, rfl, Nat.le_refl _, Nat.le_refl _, .inl rfl, Nat.le_of_ble_eq_true rfl⟩ | exact .inr ⟨rfl, rfl, rfl, rfl, rfl⟩ | exact .inl ⟨rfl, rfl, rfl, (by first | omega | (simp; done) | (simp; omega)), (by first | omega | (simp; done) | (simp; omega)), (by first | omega | (simp; done) | (simp; omega)), .inr rfl, Nat.le_of_ble_eq_true rfl⟩ | exact .inl ⟨rfl, rfl, rfl, (by first | omega | (simp; done) | (simp; omega)), (by first | omega | (simp; done) | (simp; omega)), (by first | omega | (simp; done) | (simp; omega)), .inl rfl, Nat.le_of_ble_eq_true rfl⟩ | exact fun h => h | refine ⟨?_, ?_, ?_, .inl ?_⟩ | refine ⟨?_, ?_⟩ | refine fun ii hii => ?_ | omega | fail)
              exact .inr ⟨rfl, rfl, rfl, rfl, rfl, by simp, fun i hi => by show strS fr (offs 0 i) = strS fr i; rfl⟩
            · (repeat' first | exact trivial | exact rfl | exact Nat.le_of_ble_eq_true rfl | exact Nat.le_refl _ | exact .inl ⟨rfl, rfl, rfl, rfl, Nat.le_refl _, Nat.le_refl _, .inr rfl, Nat.le_of_ble_eq_true rfl⟩ | exact .inl ⟨rfl, rfl, rfl, rfl, Nat.le_refl _, Nat.le_refl _, .inl rfl, Nat.le_of_ble_eq_true rfl⟩ | exact .inr ⟨rfl, rfl, rfl, rfl, rfl⟩ | exact .inl ⟨rfl, rfl, rfl, (by first | omega | (simp; done) | (simp; omega)), (by first | omega | (simp; done) | (simp; omega)), (by first | omega | (simp; done) | (simp; omega)), .inr rfl, Nat.le_of_ble_eq_true rfl⟩ | exact .inl ⟨rfl, rfl, rfl, (by first | omega | (simp; done) | (simp; omega)), (by first | omega | (simp; done) | (simp; omega)), (by first | omega | (simp; done) | (simp; omega)), .inl rfl, Nat.le_of_ble_eq_true rfl⟩ | exact fun h => h | refine ⟨?_, ?_, ?_, .inl ?_⟩ | refine ⟨?_, ?_⟩ | refine fun ii hii => ?_ | omega | fail)
          | false =>
            conv => whnf
            rewrite [show (e' != 0) = true from bne_iff_ne.2 ha]
            conv => whnf
            rewrite [show (e' != 92) = true from bne_iff_ne.2 hb]
            conv => whnf
            rewrite [List.append_nil]
            refine ⟨[(1, fr.length, 1, strS fr)], ⟨⟨rfl, Nat.le_refl _, rfl, fun i hi => ?_⟩, rfl, trivial⟩, [0], _, _, rfl, rfl, ?_, ?_, rfl, rfl⟩
            · exact ⟨rfl, trivial⟩
            · (repeat' first | exact trivial | exact rfl | exact Nat.le_of_ble_eq_true rfl | exact Nat.le_refl _ | exact .inl ⟨rfl, rfl, rfl, rfl, Nat.le_refl _, Nat.le_refl _, .inr rfl, Nat.le_of_ble_eq_true rfl⟩ | exact .inl ⟨rfl, rfl, rfl, rfl, Nat.le_refl _, Nat.le_refl _, .inl rfl, Nat.le_of_ble_eq_true rfl⟩ | exact .inr ⟨rfl, rfl, rfl, rfl, rfl⟩ | exact .inl ⟨rfl, rfl, rfl, (by first | omega | (simp; done) | (simp; omega)), (by first | omega | (simp; done) | (simp; omega)), (by first | omega | (simp; done) | (simp; omega)), .inr rfl, Nat.le_of_ble_eq_true rfl⟩ | exact .inl ⟨rfl, rfl, rfl, (by first | omega | (simp; done) | (simp; omega)), (by first | omega | (simp; done) | (simp; omega)), (by first | omega | (simp; done) | (simp; omega)), .inl rfl, Nat.le_of_ble_eq_true rfl⟩ | exact fun h => h | refine ⟨?_, ?_, ?_, .inl ?_⟩ | refine ⟨?_, ?_⟩ | refine fun ii hii => ?_ | omega | fail)
              exact .inr ⟨rfl, rfl, rfl, rfl, rfl, by simp, fun i hi => by show strS fr (offs 0 i) = strS fr i; rfl⟩
            · (repeat' first | exact trivial | exact rfl | exact Nat.le_of_ble_eq_true rfl | exact Nat.le_refl _ | exact .inl ⟨rfl, rfl, rfl, rfl, Nat.le_refl _, Nat.le_refl _, .inr rfl, Nat.le_of_ble_eq_true rfl⟩ | exact .inl ⟨rfl, rfl, rfl, rfl, Nat.le_refl _, Nat.le_refl _, .inl rfl, Nat.le_of_ble_eq_true rfl⟩ | exact .inr ⟨rfl, rfl, rfl, rfl, rfl⟩ | exact .inl ⟨rfl, rfl, rfl, (by first | omega | (simp; done) | (simp; omega)), (by first | omega | (simp; done) | (simp; omega)), (by first | omega | (simp; done) | (simp; omega)), .inr rfl, Nat.le_of_ble_eq_true rfl⟩ | exact .inl ⟨rfl, rfl, rfl, (by first | omega | (simp; done) | (simp; omega)), (by first | omega | (simp; done) | (simp; omega)), (by first | omega | (simp; done) | (simp; omega)), .inl rfl, Nat.le_of_ble_eq_true rfl⟩ | exact fun h => h | refine ⟨?_, ?_, ?_, .inl ?_⟩ | refine ⟨?_, ?_⟩ | refine fun ii hii => ?_ | omega | fail)
end Go.Proofs.Ytbojbofakmihmaa.Fk
