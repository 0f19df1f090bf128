/- The document's net: what its functions do, on the heap of the mind. By this session. -/
import Derived.Test.YtnmbbkhjbflojaaNt
namespace Go.Proofs.Ytnmbbkhjbflojaa.Net
open Go.Proofs.Ytnmbbkhjbflojaa.Lh
set_option maxRecDepth 100000
def refO (b : Nat) (x : Net) : Option LObj := some ⟨.one (.int .i64 x.nodes) (.one (sl b x.way.length) (.one (.int .i64 x.sent) (.one (.int .i64 x.doubled) (.one (.int .i64 x.delivered) (.one (.int .i64 x.lost) .nil))))), 31, false, false⟩
theorem RSend (x : Net) (a : Letter) : LCalls Try.prog 16 (.cons (.ptr ⟨0, [], 0⟩) (.cons (.agg (ls a)) .nil)) [refO 1 x, wayO x.way] (fun e h' => (sendE x a = 0 ∧ e = .ret (.int .i64 0) ∧ h' = [refO 2 (sent x a), none, wayO (sent x a).way]) ∨ (sendE x a ≠ 0 ∧ e = .ret (.int .i64 (sendE x a)) ∧ h' = [refO 1 x, wayO x.way])) := by
  refine LCalls.tell ?_
  refine enter16 rfl ?_
  conv => whnf
  refine iteP_intro (fun hb => ?_) (fun hb => ?_)
  · rewrite [hb]
    conv => whnf
    have e : sendE x a = 200 := by have := of_decide_eq_true hb; simp [sendE, node]; omega
    refine ⟨[0, 1], _, _, rfl, rfl, ?_, ?_, .inr ⟨by rw [e]; decide, rfl, rfl⟩⟩
    · rw [e]; (repeat' first | exact trivial | exact rfl | exact Nat.le_of_ble_eq_true rfl | exact Nat.le_refl _ | exact .inl ⟨rfl, rfl, rfl, rfl, Nat.le_refl _, Nat.le_refl _, .inr rfl, Nat.le_of_ble_eq_true rfl⟩ | exact .inl ⟨rfl, rfl, rfl, rfl, Nat.le_refl _, Nat.le_refl _, .inl rfl, Nat.le_of_ble_eq_true rfl⟩ | exact .inr ⟨rfl, rfl, rfl, rfl, rfl⟩ | exact .inl ⟨rfl, rfl, rfl, (by first | omega | (simp; done) | (simp; omega)), (by first | omega | (simp; done) | (simp; omega)), (by first | omega | (simp; done) | (simp; omega)), .inr rfl, Nat.le_of_ble_eq_true rfl⟩ | exact .inl ⟨rfl, rfl, rfl, (by first | omega | (simp; done) | (simp; omega)), (by first | omega | (simp; done) | (simp; omega)), (by first | omega | (simp; done) | (simp; omega)), .inl rfl, Nat.le_of_ble_eq_true rfl⟩ | exact fun h => h | refine ⟨?_, ?_, ?_, .inl ?_⟩ | refine ⟨?_, ?_⟩ | refine fun ii hii => ?_ | omega | fail)
    · (repeat' first | exact trivial | exact rfl | exact Nat.le_of_ble_eq_true rfl | exact Nat.le_refl _ | exact .inl ⟨rfl, rfl, rfl, rfl, Nat.le_refl _, Nat.le_refl _, .inr rfl, Nat.le_of_ble_eq_true rfl⟩ | exact .inl ⟨rfl, rfl, rfl, rfl, Nat.le_refl _, Nat.le_refl _, .inl rfl, Nat.le_of_ble_eq_true rfl⟩ | exact .inr ⟨rfl, rfl, rfl, rfl, rfl⟩ | exact .inl ⟨rfl, rfl, rfl, (by first | omega | (simp; done) | (simp; omega)), (by first | omega | (simp; done) | (simp; omega)), (by first | omega | (simp; done) | (simp; omega)), .inr rfl, Nat.le_of_ble_eq_true rfl⟩ | exact .inl ⟨rfl, rfl, rfl, (by first | omega | (simp; done) | (simp; omega)), (by first | omega | (simp; done) | (simp; omega)), (by first | omega | (simp; done) | (simp; omega)), .inl rfl, Nat.le_of_ble_eq_true rfl⟩ | exact fun h => h | refine ⟨?_, ?_, ?_, .inl ?_⟩ | refine ⟨?_, ?_⟩ | refine fun ii hii => ?_ | omega | fail)
  rewrite [hb]
  have h1 := of_decide_eq_false hb
  conv => whnf
  refine iteP_intro (fun hb => ?_) (fun hb => ?_)
  · rewrite [hb]
    conv => whnf
    have e : sendE x a = 200 := by have := of_decide_eq_true hb; simp [sendE, node]; omega
    refine ⟨[0, 1], _, _, rfl, rfl, ?_, ?_, .inr ⟨by rw [e]; decide, rfl, rfl⟩⟩
    · rw [e]; (repeat' first | exact trivial | exact rfl | exact Nat.le_of_ble_eq_true rfl | exact Nat.le_refl _ | exact .inl ⟨rfl, rfl, rfl, rfl, Nat.le_refl _, Nat.le_refl _, .inr rfl, Nat.le_of_ble_eq_true rfl⟩ | exact .inl ⟨rfl, rfl, rfl, rfl, Nat.le_refl _, Nat.le_refl _, .inl rfl, Nat.le_of_ble_eq_true rfl⟩ | exact .inr ⟨rfl, rfl, rfl, rfl, rfl⟩ | exact .inl ⟨rfl, rfl, rfl, (by first | omega | (simp; done) | (simp; omega)), (by first | omega | (simp; done) | (simp; omega)), (by first | omega | (simp; done) | (simp; omega)), .inr rfl, Nat.le_of_ble_eq_true rfl⟩ | exact .inl ⟨rfl, rfl, rfl, (by first | omega | (simp; done) | (simp; omega)), (by first | omega | (simp; done) | (simp; omega)), (by first | omega | (simp; done) | (simp; omega)), .inl rfl, Nat.le_of_ble_eq_true rfl⟩ | exact fun h => h | refine ⟨?_, ?_, ?_, .inl ?_⟩ | refine ⟨?_, ?_⟩ | refine fun ii hii => ?_ | omega | fail)
    · (repeat' first | exact trivial | exact rfl | exact Nat.le_of_ble_eq_true rfl | exact Nat.le_refl _ | exact .inl ⟨rfl, rfl, rfl, rfl, Nat.le_refl _, Nat.le_refl _, .inr rfl, Nat.le_of_ble_eq_true rfl⟩ | exact .inl ⟨rfl, rfl, rfl, rfl, Nat.le_refl _, Nat.le_refl _, .inl rfl, Nat.le_of_ble_eq_true rfl⟩ | exact .inr ⟨rfl, rfl, rfl, rfl, rfl⟩ | exact .inl ⟨rfl, rfl, rfl, (by first | omega | (simp; done) | (simp; omega)), (by first | omega | (simp; done) | (simp; omega)), (by first | omega | (simp; done) | (simp; omega)), .inr rfl, Nat.le_of_ble_eq_true rfl⟩ | exact .inl ⟨rfl, rfl, rfl, (by first | omega | (simp; done) | (simp; omega)), (by first | omega | (simp; done) | (simp; omega)), (by first | omega | (simp; done) | (simp; omega)), .inl rfl, Nat.le_of_ble_eq_true rfl⟩ | exact fun h => h | refine ⟨?_, ?_, ?_, .inl ?_⟩ | refine ⟨?_, ?_⟩ | refine fun ii hii => ?_ | omega | fail)
  rewrite [hb]
  have h2 := of_decide_eq_false hb
  conv => whnf
  refine iteP_intro (fun hb => ?_) (fun hb => ?_)
  · rewrite [hb]
    conv => whnf
    have e : sendE x a = 200 := by have := of_decide_eq_true hb; simp [sendE, node]; omega
    refine ⟨[0, 1], _, _, rfl, rfl, ?_, ?_, .inr ⟨by rw [e]; decide, rfl, rfl⟩⟩
    · rw [e]; (repeat' first | exact trivial | exact rfl | exact Nat.le_of_ble_eq_true rfl | exact Nat.le_refl _ | exact .inl ⟨rfl, rfl, rfl, rfl, Nat.le_refl _, Nat.le_refl _, .inr rfl, Nat.le_of_ble_eq_true rfl⟩ | exact .inl ⟨rfl, rfl, rfl, rfl, Nat.le_refl _, Nat.le_refl _, .inl rfl, Nat.le_of_ble_eq_true rfl⟩ | exact .inr ⟨rfl, rfl, rfl, rfl, rfl⟩ | exact .inl ⟨rfl, rfl, rfl, (by first | omega | (simp; done) | (simp; omega)), (by first | omega | (simp; done) | (simp; omega)), (by first | omega | (simp; done) | (simp; omega)), .inr rfl, Nat.le_of_ble_eq_true rfl⟩ | exact .inl ⟨rfl, rfl, rfl, (by first | omega | (simp; done) | (simp; omega)), (by first | omega | (simp; done) | (simp; omega)), (by first | omega | (simp; done) | (simp; omega)), .inl rfl, Nat.le_of_ble_eq_true rfl⟩ | exact fun h => h | refine ⟨?_, ?_, ?_, .inl ?_⟩ | refine ⟨?_, ?_⟩ | refine fun ii hii => ?_ | omega | fail)
    · (repeat' first | exact trivial | exact rfl | exact Nat.le_of_ble_eq_true rfl | exact Nat.le_refl _ | exact .inl ⟨rfl, rfl, rfl, rfl, Nat.le_refl _, Nat.le_refl _, .inr rfl, Nat.le_of_ble_eq_true rfl⟩ | exact .inl ⟨rfl, rfl, rfl, rfl, Nat.le_refl _, Nat.le_refl _, .inl rfl, Nat.le_of_ble_eq_true rfl⟩ | exact .inr ⟨rfl, rfl, rfl, rfl, rfl⟩ | exact .inl ⟨rfl, rfl, rfl, (by first | omega | (simp; done) | (simp; omega)), (by first | omega | (simp; done) | (simp; omega)), (by first | omega | (simp; done) | (simp; omega)), .inr rfl, Nat.le_of_ble_eq_true rfl⟩ | exact .inl ⟨rfl, rfl, rfl, (by first | omega | (simp; done) | (simp; omega)), (by first | omega | (simp; done) | (simp; omega)), (by first | omega | (simp; done) | (simp; omega)), .inl rfl, Nat.le_of_ble_eq_true rfl⟩ | exact fun h => h | refine ⟨?_, ?_, ?_, .inl ?_⟩ | refine ⟨?_, ?_⟩ | refine fun ii hii => ?_ | omega | fail)
  rewrite [hb]
  have h3 := of_decide_eq_false hb
  conv => whnf
  refine iteP_intro (fun hb => ?_) (fun hb => ?_)
  · rewrite [hb]
    conv => whnf
    have e : sendE x a = 200 := by have := of_decide_eq_true hb; simp [sendE, node]; omega
    refine ⟨[0, 1], _, _, rfl, rfl, ?_, ?_, .inr ⟨by rw [e]; decide, rfl, rfl⟩⟩
    · rw [e]; (repeat' first | exact trivial | exact rfl | exact Nat.le_of_ble_eq_true rfl | exact Nat.le_refl _ | exact .inl ⟨rfl, rfl, rfl, rfl, Nat.le_refl _, Nat.le_refl _, .inr rfl, Nat.le_of_ble_eq_true rfl⟩ | exact .inl ⟨rfl, rfl, rfl, rfl, Nat.le_refl _, Nat.le_refl _, .inl rfl, Nat.le_of_ble_eq_true rfl⟩ | exact .inr ⟨rfl, rfl, rfl, rfl, rfl⟩ | exact .inl ⟨rfl, rfl, rfl, (by first | omega | (simp; done) | (simp; omega)), (by first | omega | (simp; done) | (simp; omega)), (by first | omega | (simp; done) | (simp; omega)), .inr rfl, Nat.le_of_ble_eq_true rfl⟩ | exact .inl ⟨rfl, rfl, rfl, (by first | omega | (simp; done) | (simp; omega)), (by first | omega | (simp; done) | (simp; omega)), (by first | omega | (simp; done) | (simp; omega)), .inl rfl, Nat.le_of_ble_eq_true rfl⟩ | exact fun h => h | refine ⟨?_, ?_, ?_, .inl ?_⟩ | refine ⟨?_, ?_⟩ | refine fun ii hii => ?_ | omega | fail)
    · (repeat' first | exact trivial | exact rfl | exact Nat.le_of_ble_eq_true rfl | exact Nat.le_refl _ | exact .inl ⟨rfl, rfl, rfl, rfl, Nat.le_refl _, Nat.le_refl _, .inr rfl, Nat.le_of_ble_eq_true rfl⟩ | exact .inl ⟨rfl, rfl, rfl, rfl, Nat.le_refl _, Nat.le_refl _, .inl rfl, Nat.le_of_ble_eq_true rfl⟩ | exact .inr ⟨rfl, rfl, rfl, rfl, rfl⟩ | exact .inl ⟨rfl, rfl, rfl, (by first | omega | (simp; done) | (simp; omega)), (by first | omega | (simp; done) | (simp; omega)), (by first | omega | (simp; done) | (simp; omega)), .inr rfl, Nat.le_of_ble_eq_true rfl⟩ | exact .inl ⟨rfl, rfl, rfl, (by first | omega | (simp; done) | (simp; omega)), (by first | omega | (simp; done) | (simp; omega)), (by first | omega | (simp; done) | (simp; omega)), .inl rfl, Nat.le_of_ble_eq_true rfl⟩ | exact fun h => h | refine ⟨?_, ?_, ?_, .inl ?_⟩ | refine ⟨?_, ?_⟩ | refine fun ii hii => ?_ | omega | fail)
  rewrite [hb]
  have h4 := of_decide_eq_false hb
  conv => whnf
  refine iteP_intro (fun hb => ?_) (fun hb => ?_)
  · rewrite [hb]
    conv => whnf
    have e : sendE x a = 200 := by have := eq_of_beq hb; simp [sendE, this]
    refine ⟨[0, 1], _, _, rfl, rfl, ?_, ?_, .inr ⟨by rw [e]; decide, rfl, rfl⟩⟩
    · rw [e]; (repeat' first | exact trivial | exact rfl | exact Nat.le_of_ble_eq_true rfl | exact Nat.le_refl _ | exact .inl ⟨rfl, rfl, rfl, rfl, Nat.le_refl _, Nat.le_refl _, .inr rfl, Nat.le_of_ble_eq_true rfl⟩ | exact .inl ⟨rfl, rfl, rfl, rfl, Nat.le_refl _, Nat.le_refl _, .inl rfl, Nat.le_of_ble_eq_true rfl⟩ | exact .inr ⟨rfl, rfl, rfl, rfl, rfl⟩ | exact .inl ⟨rfl, rfl, rfl, (by first | omega | (simp; done) | (simp; omega)), (by first | omega | (simp; done) | (simp; omega)), (by first | omega | (simp; done) | (simp; omega)), .inr rfl, Nat.le_of_ble_eq_true rfl⟩ | exact .inl ⟨rfl, rfl, rfl, (by first | omega | (simp; done) | (simp; omega)), (by first | omega | (simp; done) | (simp; omega)), (by first | omega | (simp; done) | (simp; omega)), .inl rfl, Nat.le_of_ble_eq_true rfl⟩ | exact fun h => h | refine ⟨?_, ?_, ?_, .inl ?_⟩ | refine ⟨?_, ?_⟩ | refine fun ii hii => ?_ | omega | fail)
    · (repeat' first | exact trivial | exact rfl | exact Nat.le_of_ble_eq_true rfl | exact Nat.le_refl _ | exact .inl ⟨rfl, rfl, rfl, rfl, Nat.le_refl _, Nat.le_refl _, .inr rfl, Nat.le_of_ble_eq_true rfl⟩ | exact .inl ⟨rfl, rfl, rfl, rfl, Nat.le_refl _, Nat.le_refl _, .inl rfl, Nat.le_of_ble_eq_true rfl⟩ | exact .inr ⟨rfl, rfl, rfl, rfl, rfl⟩ | exact .inl ⟨rfl, rfl, rfl, (by first | omega | (simp; done) | (simp; omega)), (by first | omega | (simp; done) | (simp; omega)), (by first | omega | (simp; done) | (simp; omega)), .inr rfl, Nat.le_of_ble_eq_true rfl⟩ | exact .inl ⟨rfl, rfl, rfl, (by first | omega | (simp; done) | (simp; omega)), (by first | omega | (simp; done) | (simp; omega)), (by first | omega | (simp; done) | (simp; omega)), .inl rfl, Nat.le_of_ble_eq_true rfl⟩ | exact fun h => h | refine ⟨?_, ?_, ?_, .inl ?_⟩ | refine ⟨?_, ?_⟩ | refine fun ii hii => ?_ | omega | fail)
  rewrite [hb]
  have h5 : ¬ a.fr = a.to := by simpa using hb
  have g1 : node x a.fr = true := by simp [node]; omega
  have g2 : node x a.to = true := by simp [node]; omega
  conv => whnf
  refine iteP_intro (fun hb => ?_) (fun hb => ?_)
  · rewrite [hb]
    have hb := of_decide_eq_true hb
    conv => whnf
    have e : sendE x a = 2 := by simp [sendE, g1, g2, h5, hb]
    refine ⟨[0, 1], _, _, rfl, rfl, ?_, ?_, .inr ⟨by rw [e]; decide, rfl, rfl⟩⟩
    · rw [e]; (repeat' first | exact trivial | exact rfl | exact Nat.le_of_ble_eq_true rfl | exact Nat.le_refl _ | exact .inl ⟨rfl, rfl, rfl, rfl, Nat.le_refl _, Nat.le_refl _, .inr rfl, Nat.le_of_ble_eq_true rfl⟩ | exact .inl ⟨rfl, rfl, rfl, rfl, Nat.le_refl _, Nat.le_refl _, .inl rfl, Nat.le_of_ble_eq_true rfl⟩ | exact .inr ⟨rfl, rfl, rfl, rfl, rfl⟩ | exact .inl ⟨rfl, rfl, rfl, (by first | omega | (simp; done) | (simp; omega)), (by first | omega | (simp; done) | (simp; omega)), (by first | omega | (simp; done) | (simp; omega)), .inr rfl, Nat.le_of_ble_eq_true rfl⟩ | exact .inl ⟨rfl, rfl, rfl, (by first | omega | (simp; done) | (simp; omega)), (by first | omega | (simp; done) | (simp; omega)), (by first | omega | (simp; done) | (simp; omega)), .inl rfl, Nat.le_of_ble_eq_true rfl⟩ | exact fun h => h | refine ⟨?_, ?_, ?_, .inl ?_⟩ | refine ⟨?_, ?_⟩ | refine fun ii hii => ?_ | omega | fail)
    · (repeat' first | exact trivial | exact rfl | exact Nat.le_of_ble_eq_true rfl | exact Nat.le_refl _ | exact .inl ⟨rfl, rfl, rfl, rfl, Nat.le_refl _, Nat.le_refl _, .inr rfl, Nat.le_of_ble_eq_true rfl⟩ | exact .inl ⟨rfl, rfl, rfl, rfl, Nat.le_refl _, Nat.le_refl _, .inl rfl, Nat.le_of_ble_eq_true rfl⟩ | exact .inr ⟨rfl, rfl, rfl, rfl, rfl⟩ | exact .inl ⟨rfl, rfl, rfl, (by first | omega | (simp; done) | (simp; omega)), (by first | omega | (simp; done) | (simp; omega)), (by first | omega | (simp; done) | (simp; omega)), .inr rfl, Nat.le_of_ble_eq_true rfl⟩ | exact .inl ⟨rfl, rfl, rfl, (by first | omega | (simp; done) | (simp; omega)), (by first | omega | (simp; done) | (simp; omega)), (by first | omega | (simp; done) | (simp; omega)), .inl rfl, Nat.le_of_ble_eq_true rfl⟩ | exact fun h => h | refine ⟨?_, ?_, ?_, .inl ?_⟩ | refine ⟨?_, ?_⟩ | refine fun ii hii => ?_ | omega | fail)
  rewrite [hb]
  have h6 := of_decide_eq_false hb
  conv => whnf
  refine iteP_intro (fun hb => ?_) (fun hb => ?_)
  · rewrite [hb]
    have hb := of_decide_eq_true hb
    conv => whnf
    have e : sendE x a = 3 := by simp [sendE, g1, g2, h5, h6, hb]
    refine ⟨[0, 1], _, _, rfl, rfl, ?_, ?_, .inr ⟨by rw [e]; decide, rfl, rfl⟩⟩
    · rw [e]; (repeat' first | exact trivial | exact rfl | exact Nat.le_of_ble_eq_true rfl | exact Nat.le_refl _ | exact .inl ⟨rfl, rfl, rfl, rfl, Nat.le_refl _, Nat.le_refl _, .inr rfl, Nat.le_of_ble_eq_true rfl⟩ | exact .inl ⟨rfl, rfl, rfl, rfl, Nat.le_refl _, Nat.le_refl _, .inl rfl, Nat.le_of_ble_eq_true rfl⟩ | exact .inr ⟨rfl, rfl, rfl, rfl, rfl⟩ | exact .inl ⟨rfl, rfl, rfl, (by first | omega | (simp; done) | (simp; omega)), (by first | omega | (simp; done) | (simp; omega)), (by first | omega | (simp; done) | (simp; omega)), .inr rfl, Nat.le_of_ble_eq_true rfl⟩ | exact .inl ⟨rfl, rfl, rfl, (by first | omega | (simp; done) | (simp; omega)), (by first | omega | (simp; done) | (simp; omega)), (by first | omega | (simp; done) | (simp; omega)), .inl rfl, Nat.le_of_ble_eq_true rfl⟩ | exact fun h => h | refine ⟨?_, ?_, ?_, .inl ?_⟩ | refine ⟨?_, ?_⟩ | refine fun ii hii => ?_ | omega | fail)
    · (repeat' first | exact trivial | exact rfl | exact Nat.le_of_ble_eq_true rfl | exact Nat.le_refl _ | exact .inl ⟨rfl, rfl, rfl, rfl, Nat.le_refl _, Nat.le_refl _, .inr rfl, Nat.le_of_ble_eq_true rfl⟩ | exact .inl ⟨rfl, rfl, rfl, rfl, Nat.le_refl _, Nat.le_refl _, .inl rfl, Nat.le_of_ble_eq_true rfl⟩ | exact .inr ⟨rfl, rfl, rfl, rfl, rfl⟩ | exact .inl ⟨rfl, rfl, rfl, (by first | omega | (simp; done) | (simp; omega)), (by first | omega | (simp; done) | (simp; omega)), (by first | omega | (simp; done) | (simp; omega)), .inr rfl, Nat.le_of_ble_eq_true rfl⟩ | exact .inl ⟨rfl, rfl, rfl, (by first | omega | (simp; done) | (simp; omega)), (by first | omega | (simp; done) | (simp; omega)), (by first | omega | (simp; done) | (simp; omega)), .inl rfl, Nat.le_of_ble_eq_true rfl⟩ | exact fun h => h | refine ⟨?_, ?_, ?_, .inl ?_⟩ | refine ⟨?_, ?_⟩ | refine fun ii hii => ?_ | omega | fail)
  rewrite [hb]
  have h7 := of_decide_eq_false hb
  have h7' : x.way.length < 100 := by omega
  have e : sendE x a = 0 := by simp [sendE, g1, g2, h5, h6, h7]
  (conv => whnf); (repeat (refine ⟨by omega, ?_⟩; conv => whnf))
  refine ⟨[0, 1, 10], _, _, rfl, rfl, ?_, ?_, .inl ⟨e, rfl, rfl⟩⟩
  · (repeat' first | exact trivial | exact rfl | exact Nat.le_of_ble_eq_true rfl | exact Nat.le_refl _ | exact .inl ⟨rfl, rfl, rfl, rfl, Nat.le_refl _, Nat.le_refl _, .inr rfl, Nat.le_of_ble_eq_true rfl⟩ | exact .inl ⟨rfl, rfl, rfl, rfl, Nat.le_refl _, Nat.le_refl _, .inl rfl, Nat.le_of_ble_eq_true rfl⟩ | exact .inr ⟨rfl, rfl, rfl, rfl, rfl⟩ | exact .inl ⟨rfl, rfl, rfl, (by first | omega | (simp; done) | (simp; omega)), (by first | omega | (simp; done) | (simp; omega)), (by first | omega | (simp; done) | (simp; omega)), .inr rfl, Nat.le_of_ble_eq_true rfl⟩ | exact .inl ⟨rfl, rfl, rfl, (by first | omega | (simp; done) | (simp; omega)), (by first | omega | (simp; done) | (simp; omega)), (by first | omega | (simp; done) | (simp; omega)), .inl rfl, Nat.le_of_ble_eq_true rfl⟩ | exact fun h => h | refine ⟨?_, ?_, ?_, .inl ?_⟩ | refine ⟨?_, ?_⟩ | refine fun ii hii => ?_ | omega | fail)
  · simp only [Nat.zero_add, sent]
    (repeat' first | exact trivial | exact rfl | exact Nat.le_of_ble_eq_true rfl | exact Nat.le_refl _ | exact .inl ⟨rfl, rfl, rfl, rfl, Nat.le_refl _, Nat.le_refl _, .inr rfl, Nat.le_of_ble_eq_true rfl⟩ | exact .inl ⟨rfl, rfl, rfl, rfl, Nat.le_refl _, Nat.le_refl _, .inl rfl, Nat.le_of_ble_eq_true rfl⟩ | exact .inr ⟨rfl, rfl, rfl, rfl, rfl⟩ | exact .inl ⟨rfl, rfl, rfl, (by first | omega | (simp; done) | (simp; omega)), (by first | omega | (simp; done) | (simp; omega)), (by first | omega | (simp; done) | (simp; omega)), .inr rfl, Nat.le_of_ble_eq_true rfl⟩ | exact .inl ⟨rfl, rfl, rfl, (by first | omega | (simp; done) | (simp; omega)), (by first | omega | (simp; done) | (simp; omega)), (by first | omega | (simp; done) | (simp; omega)), .inl rfl, Nat.le_of_ble_eq_true rfl⟩ | exact fun h => h | refine ⟨?_, ?_, ?_, .inl ?_⟩ | refine ⟨?_, ?_⟩ | refine fun ii hii => ?_ | omega | fail)
    · simp
    · refine shS_ite (fun c => ?_) (fun c => ?_)
      · exact shLs (x.way.getD ii default) ((x.way ++ [a]).getD ii default) rfl rfl (by simp [List.getElem?_append, c])
      · have : ii = x.way.length := by omega
        subst this
        exact shLs a ((x.way ++ [a]).getD x.way.length default) (by simp [ls]) rfl (by simp)
theorem RTake_no (x : Net) (at_ : Int) (h : got x at_ = false) : LCalls Try.prog 25 (.cons (.ptr ⟨0, [], 0⟩) (.cons (.int .i64 at_) .nil)) [refO 1 x, wayO x.way] (fun e h' => e = .ret (.tup (.cons (.agg (ls zeroL)) (.cons (.bool false) .nil))) ∧ h' = [refO 1 x, wayO x.way]) := by
  refine LCalls.tell ?_
  refine enter25 rfl ?_
  conv => whnf
  refine iteP_intro (fun hb => ?_) (fun hb => ?_)
  · rewrite [hb]
    conv => whnf
    refine ⟨[0, 1], _, _, rfl, rfl, ?_, ?_, rfl, rfl⟩
    · (repeat' first | exact trivial | exact rfl | exact Nat.le_of_ble_eq_true rfl | exact Nat.le_refl _ | exact .inl ⟨rfl, rfl, rfl, rfl, Nat.le_refl _, Nat.le_refl _, .inr rfl, Nat.le_of_ble_eq_true rfl⟩ | exact .inl ⟨rfl, rfl, rfl, rfl, Nat.le_refl _, Nat.le_refl _, .inl rfl, Nat.le_of_ble_eq_true rfl⟩ | exact .inr ⟨rfl, rfl, rfl, rfl, rfl⟩ | exact .inl ⟨rfl, rfl, rfl, (by first | omega | (simp; done) | (simp; omega)), (by first | omega | (simp; done) | (simp; omega)), (by first | omega | (simp; done) | (simp; omega)), .inr rfl, Nat.le_of_ble_eq_true rfl⟩ | exact .inl ⟨rfl, rfl, rfl, (by first | omega | (simp; done) | (simp; omega)), (by first | omega | (simp; done) | (simp; omega)), (by first | omega | (simp; done) | (simp; omega)), .inl rfl, Nat.le_of_ble_eq_true rfl⟩ | exact fun h => h | refine ⟨?_, ?_, ?_, .inl ?_⟩ | refine ⟨?_, ?_⟩ | refine fun ii hii => ?_ | omega | fail)
    · (repeat' first | exact trivial | exact rfl | exact Nat.le_of_ble_eq_true rfl | exact Nat.le_refl _ | exact .inl ⟨rfl, rfl, rfl, rfl, Nat.le_refl _, Nat.le_refl _, .inr rfl, Nat.le_of_ble_eq_true rfl⟩ | exact .inl ⟨rfl, rfl, rfl, rfl, Nat.le_refl _, Nat.le_refl _, .inl rfl, Nat.le_of_ble_eq_true rfl⟩ | exact .inr ⟨rfl, rfl, rfl, rfl, rfl⟩ | exact .inl ⟨rfl, rfl, rfl, (by first | omega | (simp; done) | (simp; omega)), (by first | omega | (simp; done) | (simp; omega)), (by first | omega | (simp; done) | (simp; omega)), .inr rfl, Nat.le_of_ble_eq_true rfl⟩ | exact .inl ⟨rfl, rfl, rfl, (by first | omega | (simp; done) | (simp; omega)), (by first | omega | (simp; done) | (simp; omega)), (by first | omega | (simp; done) | (simp; omega)), .inl rfl, Nat.le_of_ble_eq_true rfl⟩ | exact fun h => h | refine ⟨?_, ?_, ?_, .inl ?_⟩ | refine ⟨?_, ?_⟩ | refine fun ii hii => ?_ | omega | fail)
  · rewrite [hb]
    have e2 : decide (at_ ≥ (x.way.length : Int)) = true := by
      have h1 := of_decide_eq_false hb
      simp only [got, Bool.and_eq_false_iff, decide_eq_false_iff_not] at h
      exact decide_eq_true (by omega)
    conv => whnf
    rewrite [e2]
    conv => whnf
    refine ⟨[0, 1], _, _, rfl, rfl, ?_, ?_, rfl, rfl⟩
    · (repeat' first | exact trivial | exact rfl | exact Nat.le_of_ble_eq_true rfl | exact Nat.le_refl _ | exact .inl ⟨rfl, rfl, rfl, rfl, Nat.le_refl _, Nat.le_refl _, .inr rfl, Nat.le_of_ble_eq_true rfl⟩ | exact .inl ⟨rfl, rfl, rfl, rfl, Nat.le_refl _, Nat.le_refl _, .inl rfl, Nat.le_of_ble_eq_true rfl⟩ | exact .inr ⟨rfl, rfl, rfl, rfl, rfl⟩ | exact .inl ⟨rfl, rfl, rfl, (by first | omega | (simp; done) | (simp; omega)), (by first | omega | (simp; done) | (simp; omega)), (by first | omega | (simp; done) | (simp; omega)), .inr rfl, Nat.le_of_ble_eq_true rfl⟩ | exact .inl ⟨rfl, rfl, rfl, (by first | omega | (simp; done) | (simp; omega)), (by first | omega | (simp; done) | (simp; omega)), (by first | omega | (simp; done) | (simp; omega)), .inl rfl, Nat.le_of_ble_eq_true rfl⟩ | exact fun h => h | refine ⟨?_, ?_, ?_, .inl ?_⟩ | refine ⟨?_, ?_⟩ | refine fun ii hii => ?_ | omega | fail)
    · (repeat' first | exact trivial | exact rfl | exact Nat.le_of_ble_eq_true rfl | exact Nat.le_refl _ | exact .inl ⟨rfl, rfl, rfl, rfl, Nat.le_refl _, Nat.le_refl _, .inr rfl, Nat.le_of_ble_eq_true rfl⟩ | exact .inl ⟨rfl, rfl, rfl, rfl, Nat.le_refl _, Nat.le_refl _, .inl rfl, Nat.le_of_ble_eq_true rfl⟩ | exact .inr ⟨rfl, rfl, rfl, rfl, rfl⟩ | exact .inl ⟨rfl, rfl, rfl, (by first | omega | (simp; done) | (simp; omega)), (by first | omega | (simp; done) | (simp; omega)), (by first | omega | (simp; done) | (simp; omega)), .inr rfl, Nat.le_of_ble_eq_true rfl⟩ | exact .inl ⟨rfl, rfl, rfl, (by first | omega | (simp; done) | (simp; omega)), (by first | omega | (simp; done) | (simp; omega)), (by first | omega | (simp; done) | (simp; omega)), .inl rfl, Nat.le_of_ble_eq_true rfl⟩ | exact fun h => h | refine ⟨?_, ?_, ?_, .inl ?_⟩ | refine ⟨?_, ?_⟩ | refine fun ii hii => ?_ | omega | fail)
theorem RTake_ok (x : Net) (i : Nat) (hi : i < x.way.length) (hl : x.way.length < 1000) : LCalls Try.prog 25 (.cons (.ptr ⟨0, [], 0⟩) (.cons (.int .i64 i) .nil)) [refO 1 x, wayO x.way] (fun e h' => e = .ret (.tup (.cons (.agg (ls (x.way.getD i default))) (.cons (.bool true) .nil))) ∧ h' = [refO 2 { x with way := x.way.eraseIdx i }, none, wayO (x.way.eraseIdx i)]) := by
  refine LCalls.tell ?_
  refine enter25 rfl ?_
  have e1 : decide ((i : Int) < 0) = false := decide_eq_false (by omega)
  have e2 : decide ((i : Int) ≥ (x.way.length : Int)) = false := decide_eq_false (by omega)
  have e3 : IntKind.i64.wrap ((i : Int) + 1) = ((i + 1 : Nat) : Int) := wr _ (by omega) (by omega)
  (conv => whnf); (repeat (refine ⟨by omega, ?_⟩; conv => whnf))
  rewrite [e2]
  (conv => whnf); (repeat (refine ⟨by omega, ?_⟩; conv => whnf))
  rewrite [e3]
  (conv => whnf); (repeat (refine ⟨by omega, ?_⟩; conv => whnf))
  have e4 : 0 + (i : Int).toNat + (x.way.length - ((i + 1 : Nat) : Int).toNat) = (x.way.eraseIdx i).length := by rw [List.length_eraseIdx, if_pos hi]; omega
  have e5 : (x.way.eraseIdx i).length = x.way.length - 1 := by rw [List.length_eraseIdx, if_pos hi]
  rewrite [e4]
  refine ⟨[0, 1, 6], _, _, rfl, rfl, ?_, ?_, rfl, rfl⟩
  · simp only [Nat.zero_add, Int.toNat_natCast]
    (repeat' first | exact trivial | exact rfl | exact Nat.le_of_ble_eq_true rfl | exact Nat.le_refl _ | exact .inl ⟨rfl, rfl, rfl, rfl, Nat.le_refl _, Nat.le_refl _, .inr rfl, Nat.le_of_ble_eq_true rfl⟩ | exact .inl ⟨rfl, rfl, rfl, rfl, Nat.le_refl _, Nat.le_refl _, .inl rfl, Nat.le_of_ble_eq_true rfl⟩ | exact .inr ⟨rfl, rfl, rfl, rfl, rfl⟩ | exact .inl ⟨rfl, rfl, rfl, (by first | omega | (simp; done) | (simp; omega)), (by first | omega | (simp; done) | (simp; omega)), (by first | omega | (simp; done) | (simp; omega)), .inr rfl, Nat.le_of_ble_eq_true rfl⟩ | exact .inl ⟨rfl, rfl, rfl, (by first | omega | (simp; done) | (simp; omega)), (by first | omega | (simp; done) | (simp; omega)), (by first | omega | (simp; done) | (simp; omega)), .inl rfl, Nat.le_of_ble_eq_true rfl⟩ | exact fun h => h | refine ⟨?_, ?_, ?_, .inl ?_⟩ | refine ⟨?_, ?_⟩ | refine fun ii hii => ?_ | omega | fail)
  · (repeat' first | exact trivial | exact rfl | exact Nat.le_of_ble_eq_true rfl | exact Nat.le_refl _ | exact .inl ⟨rfl, rfl, rfl, rfl, Nat.le_refl _, Nat.le_refl _, .inr rfl, Nat.le_of_ble_eq_true rfl⟩ | exact .inl ⟨rfl, rfl, rfl, rfl, Nat.le_refl _, Nat.le_refl _, .inl rfl, Nat.le_of_ble_eq_true rfl⟩ | exact .inr ⟨rfl, rfl, rfl, rfl, rfl⟩ | exact .inl ⟨rfl, rfl, rfl, (by first | omega | (simp; done) | (simp; omega)), (by first | omega | (simp; done) | (simp; omega)), (by first | omega | (simp; done) | (simp; omega)), .inr rfl, Nat.le_of_ble_eq_true rfl⟩ | exact .inl ⟨rfl, rfl, rfl, (by first | omega | (simp; done) | (simp; omega)), (by first | omega | (simp; done) | (simp; omega)), (by first | omega | (simp; done) | (simp; omega)), .inl rfl, Nat.le_of_ble_eq_true rfl⟩ | exact fun h => h | refine ⟨?_, ?_, ?_, .inl ?_⟩ | refine ⟨?_, ?_⟩ | refine fun ii hii => ?_ | omega | fail)
    refine shS_ite (fun c => ?_) (fun c => ?_)
    · refine shLs (x.way.getD (0 + (0 + ii - 0)) default) ((x.way.eraseIdx i).getD ii default) rfl rfl ?_
      have e2 : 0 + (0 + ii - 0) = ii := by omega
      rw [e2, List.getD_eq_getElem?_getD, List.getD_eq_getElem?_getD, List.getElem?_eraseIdx, if_pos (by omega)]
    · refine shLs (x.way.getD (0 + ((i + 1 : Nat) : Int).toNat + (ii - (0 + (i : Int).toNat))) default) ((x.way.eraseIdx i).getD ii default) rfl rfl ?_
      have e2 : 0 + ((i + 1 : Nat) : Int).toNat + (ii - (0 + (i : Int).toNat)) = ii + 1 := by omega
      rw [e2, List.getD_eq_getElem?_getD, List.getD_eq_getElem?_getD, List.getElem?_eraseIdx, if_neg (by omega)]
theorem RDeliver_no (x : Net) (at_ : Int) (h : got x at_ = false) : LCalls Try.prog 17 (.cons (.ptr ⟨0, [], 0⟩) (.cons (.int .i64 at_) .nil)) [refO 1 x, wayO x.way] (fun e h' => e = .ret (.tup (.cons (.agg (ls zeroL)) (.cons (.bool false) .nil))) ∧ h' = [refO 1 x, wayO x.way]) := by
  refine LCalls.tell ?_
  refine enter17 rfl ?_
  conv => whnf
  refine LCalls.use (RTake_no x at_ h) [0, 1] rfl rfl ⟨rfl, rfl, trivial⟩ ?_
  rintro _ _ ⟨rfl, rfl⟩
  conv => whnf
  refine ⟨[0, 1], _, _, rfl, rfl, ?_, ?_, rfl, rfl⟩
  · (repeat' first | exact trivial | exact rfl | exact Nat.le_of_ble_eq_true rfl | exact Nat.le_refl _ | exact .inl ⟨rfl, rfl, rfl, rfl, Nat.le_refl _, Nat.le_refl _, .inr rfl, Nat.le_of_ble_eq_true rfl⟩ | exact .inl ⟨rfl, rfl, rfl, rfl, Nat.le_refl _, Nat.le_refl _, .inl rfl, Nat.le_of_ble_eq_true rfl⟩ | exact .inr ⟨rfl, rfl, rfl, rfl, rfl⟩ | exact .inl ⟨rfl, rfl, rfl, (by first | omega | (simp; done) | (simp; omega)), (by first | omega | (simp; done) | (simp; omega)), (by first | omega | (simp; done) | (simp; omega)), .inr rfl, Nat.le_of_ble_eq_true rfl⟩ | exact .inl ⟨rfl, rfl, rfl, (by first | omega | (simp; done) | (simp; omega)), (by first | omega | (simp; done) | (simp; omega)), (by first | omega | (simp; done) | (simp; omega)), .inl rfl, Nat.le_of_ble_eq_true rfl⟩ | exact fun h => h | refine ⟨?_, ?_, ?_, .inl ?_⟩ | refine ⟨?_, ?_⟩ | refine fun ii hii => ?_ | omega | fail)
  · (repeat' first | exact trivial | exact rfl | exact Nat.le_of_ble_eq_true rfl | exact Nat.le_refl _ | exact .inl ⟨rfl, rfl, rfl, rfl, Nat.le_refl _, Nat.le_refl _, .inr rfl, Nat.le_of_ble_eq_true rfl⟩ | exact .inl ⟨rfl, rfl, rfl, rfl, Nat.le_refl _, Nat.le_refl _, .inl rfl, Nat.le_of_ble_eq_true rfl⟩ | exact .inr ⟨rfl, rfl, rfl, rfl, rfl⟩ | exact .inl ⟨rfl, rfl, rfl, (by first | omega | (simp; done) | (simp; omega)), (by first | omega | (simp; done) | (simp; omega)), (by first | omega | (simp; done) | (simp; omega)), .inr rfl, Nat.le_of_ble_eq_true rfl⟩ | exact .inl ⟨rfl, rfl, rfl, (by first | omega | (simp; done) | (simp; omega)), (by first | omega | (simp; done) | (simp; omega)), (by first | omega | (simp; done) | (simp; omega)), .inl rfl, Nat.le_of_ble_eq_true rfl⟩ | exact fun h => h | refine ⟨?_, ?_, ?_, .inl ?_⟩ | refine ⟨?_, ?_⟩ | refine fun ii hii => ?_ | omega | fail)
theorem RDeliver_ok (x : Net) (i : Nat) (hi : i < x.way.length) (hl : x.way.length < 1000) : LCalls Try.prog 17 (.cons (.ptr ⟨0, [], 0⟩) (.cons (.int .i64 i) .nil)) [refO 1 x, wayO x.way] (fun e h' => e = .ret (.tup (.cons (.agg (ls (x.way.getD i default))) (.cons (.bool true) .nil))) ∧ h' = [refO 2 (tookD x i), none, wayO (tookD x i).way]) := by
  refine LCalls.tell ?_
  refine enter17 rfl ?_
  conv => whnf
  refine LCalls.use (RTake_ok x i hi hl) [0, 1] rfl rfl ⟨rfl, rfl, trivial⟩ ?_
  rintro _ _ ⟨rfl, rfl⟩
  conv => whnf
  refine ⟨[0, 1, 3], _, _, rfl, rfl, ?_, ?_, rfl, rfl⟩
  · (repeat' first | exact trivial | exact rfl | exact Nat.le_of_ble_eq_true rfl | exact Nat.le_refl _ | exact .inl ⟨rfl, rfl, rfl, rfl, Nat.le_refl _, Nat.le_refl _, .inr rfl, Nat.le_of_ble_eq_true rfl⟩ | exact .inl ⟨rfl, rfl, rfl, rfl, Nat.le_refl _, Nat.le_refl _, .inl rfl, Nat.le_of_ble_eq_true rfl⟩ | exact .inr ⟨rfl, rfl, rfl, rfl, rfl⟩ | exact .inl ⟨rfl, rfl, rfl, (by first | omega | (simp; done) | (simp; omega)), (by first | omega | (simp; done) | (simp; omega)), (by first | omega | (simp; done) | (simp; omega)), .inr rfl, Nat.le_of_ble_eq_true rfl⟩ | exact .inl ⟨rfl, rfl, rfl, (by first | omega | (simp; done) | (simp; omega)), (by first | omega | (simp; done) | (simp; omega)), (by first | omega | (simp; done) | (simp; omega)), .inl rfl, Nat.le_of_ble_eq_true rfl⟩ | exact fun h => h | refine ⟨?_, ?_, ?_, .inl ?_⟩ | refine ⟨?_, ?_⟩ | refine fun ii hii => ?_ | omega | fail)
  · (repeat' first | exact trivial | exact rfl | exact Nat.le_of_ble_eq_true rfl | exact Nat.le_refl _ | exact .inl ⟨rfl, rfl, rfl, rfl, Nat.le_refl _, Nat.le_refl _, .inr rfl, Nat.le_of_ble_eq_true rfl⟩ | exact .inl ⟨rfl, rfl, rfl, rfl, Nat.le_refl _, Nat.le_refl _, .inl rfl, Nat.le_of_ble_eq_true rfl⟩ | exact .inr ⟨rfl, rfl, rfl, rfl, rfl⟩ | exact .inl ⟨rfl, rfl, rfl, (by first | omega | (simp; done) | (simp; omega)), (by first | omega | (simp; done) | (simp; omega)), (by first | omega | (simp; done) | (simp; omega)), .inr rfl, Nat.le_of_ble_eq_true rfl⟩ | exact .inl ⟨rfl, rfl, rfl, (by first | omega | (simp; done) | (simp; omega)), (by first | omega | (simp; done) | (simp; omega)), (by first | omega | (simp; done) | (simp; omega)), .inl rfl, Nat.le_of_ble_eq_true rfl⟩ | exact fun h => h | refine ⟨?_, ?_, ?_, .inl ?_⟩ | refine ⟨?_, ?_⟩ | refine fun ii hii => ?_ | omega | fail)
theorem RLose_no (x : Net) (at_ : Int) (h : got x at_ = false) : LCalls Try.prog 18 (.cons (.ptr ⟨0, [], 0⟩) (.cons (.int .i64 at_) .nil)) [refO 1 x, wayO x.way] (fun e h' => e = .ret (.bool false) ∧ h' = [refO 1 x, wayO x.way]) := by
  refine LCalls.tell ?_
  refine enter18 rfl ?_
  conv => whnf
  refine LCalls.use (RTake_no x at_ h) [0, 1] rfl rfl ⟨rfl, rfl, trivial⟩ ?_
  rintro _ _ ⟨rfl, rfl⟩
  conv => whnf
  refine ⟨[0, 1], _, _, rfl, rfl, ?_, ?_, rfl, rfl⟩
  · (repeat' first | exact trivial | exact rfl | exact Nat.le_of_ble_eq_true rfl | exact Nat.le_refl _ | exact .inl ⟨rfl, rfl, rfl, rfl, Nat.le_refl _, Nat.le_refl _, .inr rfl, Nat.le_of_ble_eq_true rfl⟩ | exact .inl ⟨rfl, rfl, rfl, rfl, Nat.le_refl _, Nat.le_refl _, .inl rfl, Nat.le_of_ble_eq_true rfl⟩ | exact .inr ⟨rfl, rfl, rfl, rfl, rfl⟩ | exact .inl ⟨rfl, rfl, rfl, (by first | omega | (simp; done) | (simp; omega)), (by first | omega | (simp; done) | (simp; omega)), (by first | omega | (simp; done) | (simp; omega)), .inr rfl, Nat.le_of_ble_eq_true rfl⟩ | exact .inl ⟨rfl, rfl, rfl, (by first | omega | (simp; done) | (simp; omega)), (by first | omega | (simp; done) | (simp; omega)), (by first | omega | (simp; done) | (simp; omega)), .inl rfl, Nat.le_of_ble_eq_true rfl⟩ | exact fun h => h | refine ⟨?_, ?_, ?_, .inl ?_⟩ | refine ⟨?_, ?_⟩ | refine fun ii hii => ?_ | omega | fail)
  · (repeat' first | exact trivial | exact rfl | exact Nat.le_of_ble_eq_true rfl | exact Nat.le_refl _ | exact .inl ⟨rfl, rfl, rfl, rfl, Nat.le_refl _, Nat.le_refl _, .inr rfl, Nat.le_of_ble_eq_true rfl⟩ | exact .inl ⟨rfl, rfl, rfl, rfl, Nat.le_refl _, Nat.le_refl _, .inl rfl, Nat.le_of_ble_eq_true rfl⟩ | exact .inr ⟨rfl, rfl, rfl, rfl, rfl⟩ | exact .inl ⟨rfl, rfl, rfl, (by first | omega | (simp; done) | (simp; omega)), (by first | omega | (simp; done) | (simp; omega)), (by first | omega | (simp; done) | (simp; omega)), .inr rfl, Nat.le_of_ble_eq_true rfl⟩ | exact .inl ⟨rfl, rfl, rfl, (by first | omega | (simp; done) | (simp; omega)), (by first | omega | (simp; done) | (simp; omega)), (by first | omega | (simp; done) | (simp; omega)), .inl rfl, Nat.le_of_ble_eq_true rfl⟩ | exact fun h => h | refine ⟨?_, ?_, ?_, .inl ?_⟩ | refine ⟨?_, ?_⟩ | refine fun ii hii => ?_ | omega | fail)
theorem RLose_ok (x : Net) (i : Nat) (hi : i < x.way.length) (hl : x.way.length < 1000) : LCalls Try.prog 18 (.cons (.ptr ⟨0, [], 0⟩) (.cons (.int .i64 i) .nil)) [refO 1 x, wayO x.way] (fun e h' => e = .ret (.bool true) ∧ h' = [refO 2 (tookL x i), none, wayO (tookL x i).way]) := by
  refine LCalls.tell ?_
  refine enter18 rfl ?_
  conv => whnf
  refine LCalls.use (RTake_ok x i hi hl) [0, 1] rfl rfl ⟨rfl, rfl, trivial⟩ ?_
  rintro _ _ ⟨rfl, rfl⟩
  conv => whnf
  refine ⟨[0, 1, 2], _, _, rfl, rfl, ?_, ?_, rfl, rfl⟩
  · (repeat' first | exact trivial | exact rfl | exact Nat.le_of_ble_eq_true rfl | exact Nat.le_refl _ | exact .inl ⟨rfl, rfl, rfl, rfl, Nat.le_refl _, Nat.le_refl _, .inr rfl, Nat.le_of_ble_eq_true rfl⟩ | exact .inl ⟨rfl, rfl, rfl, rfl, Nat.le_refl _, Nat.le_refl _, .inl rfl, Nat.le_of_ble_eq_true rfl⟩ | exact .inr ⟨rfl, rfl, rfl, rfl, rfl⟩ | exact .inl ⟨rfl, rfl, rfl, (by first | omega | (simp; done) | (simp; omega)), (by first | omega | (simp; done) | (simp; omega)), (by first | omega | (simp; done) | (simp; omega)), .inr rfl, Nat.le_of_ble_eq_true rfl⟩ | exact .inl ⟨rfl, rfl, rfl, (by first | omega | (simp; done) | (simp; omega)), (by first | omega | (simp; done) | (simp; omega)), (by first | omega | (simp; done) | (simp; omega)), .inl rfl, Nat.le_of_ble_eq_true rfl⟩ | exact fun h => h | refine ⟨?_, ?_, ?_, .inl ?_⟩ | refine ⟨?_, ?_⟩ | refine fun ii hii => ?_ | omega | fail)
  · (repeat' first | exact trivial | exact rfl | exact Nat.le_of_ble_eq_true rfl | exact Nat.le_refl _ | exact .inl ⟨rfl, rfl, rfl, rfl, Nat.le_refl _, Nat.le_refl _, .inr rfl, Nat.le_of_ble_eq_true rfl⟩ | exact .inl ⟨rfl, rfl, rfl, rfl, Nat.le_refl _, Nat.le_refl _, .inl rfl, Nat.le_of_ble_eq_true rfl⟩ | exact .inr ⟨rfl, rfl, rfl, rfl, rfl⟩ | exact .inl ⟨rfl, rfl, rfl, (by first | omega | (simp; done) | (simp; omega)), (by first | omega | (simp; done) | (simp; omega)), (by first | omega | (simp; done) | (simp; omega)), .inr rfl, Nat.le_of_ble_eq_true rfl⟩ | exact .inl ⟨rfl, rfl, rfl, (by first | omega | (simp; done) | (simp; omega)), (by first | omega | (simp; done) | (simp; omega)), (by first | omega | (simp; done) | (simp; omega)), .inl rfl, Nat.le_of_ble_eq_true rfl⟩ | exact fun h => h | refine ⟨?_, ?_, ?_, .inl ?_⟩ | refine ⟨?_, ?_⟩ | refine fun ii hii => ?_ | omega | fail)
theorem RDouble_no (x : Net) (at_ : Int) (h : got x at_ = false) : LCalls Try.prog 19 (.cons (.ptr ⟨0, [], 0⟩) (.cons (.int .i64 at_) .nil)) [refO 1 x, wayO x.way] (fun e h' => e = .ret (.int .i64 1) ∧ h' = [refO 1 x, wayO x.way]) := by
  refine LCalls.tell ?_
  refine enter19 rfl ?_
  conv => whnf
  refine iteP_intro (fun hb => ?_) (fun hb => ?_)
  · rewrite [hb]
    conv => whnf
    refine ⟨[0, 1], _, _, rfl, rfl, ?_, ?_, rfl, rfl⟩
    · (repeat' first | exact trivial | exact rfl | exact Nat.le_of_ble_eq_true rfl | exact Nat.le_refl _ | exact .inl ⟨rfl, rfl, rfl, rfl, Nat.le_refl _, Nat.le_refl _, .inr rfl, Nat.le_of_ble_eq_true rfl⟩ | exact .inl ⟨rfl, rfl, rfl, rfl, Nat.le_refl _, Nat.le_refl _, .inl rfl, Nat.le_of_ble_eq_true rfl⟩ | exact .inr ⟨rfl, rfl, rfl, rfl, rfl⟩ | exact .inl ⟨rfl, rfl, rfl, (by first | omega | (simp; done) | (simp; omega)), (by first | omega | (simp; done) | (simp; omega)), (by first | omega | (simp; done) | (simp; omega)), .inr rfl, Nat.le_of_ble_eq_true rfl⟩ | exact .inl ⟨rfl, rfl, rfl, (by first | omega | (simp; done) | (simp; omega)), (by first | omega | (simp; done) | (simp; omega)), (by first | omega | (simp; done) | (simp; omega)), .inl rfl, Nat.le_of_ble_eq_true rfl⟩ | exact fun h => h | refine ⟨?_, ?_, ?_, .inl ?_⟩ | refine ⟨?_, ?_⟩ | refine fun ii hii => ?_ | omega | fail)
    · (repeat' first | exact trivial | exact rfl | exact Nat.le_of_ble_eq_true rfl | exact Nat.le_refl _ | exact .inl ⟨rfl, rfl, rfl, rfl, Nat.le_refl _, Nat.le_refl _, .inr rfl, Nat.le_of_ble_eq_true rfl⟩ | exact .inl ⟨rfl, rfl, rfl, rfl, Nat.le_refl _, Nat.le_refl _, .inl rfl, Nat.le_of_ble_eq_true rfl⟩ | exact .inr ⟨rfl, rfl, rfl, rfl, rfl⟩ | exact .inl ⟨rfl, rfl, rfl, (by first | omega | (simp; done) | (simp; omega)), (by first | omega | (simp; done) | (simp; omega)), (by first | omega | (simp; done) | (simp; omega)), .inr rfl, Nat.le_of_ble_eq_true rfl⟩ | exact .inl ⟨rfl, rfl, rfl, (by first | omega | (simp; done) | (simp; omega)), (by first | omega | (simp; done) | (simp; omega)), (by first | omega | (simp; done) | (simp; omega)), .inl rfl, Nat.le_of_ble_eq_true rfl⟩ | exact fun h => h | refine ⟨?_, ?_, ?_, .inl ?_⟩ | refine ⟨?_, ?_⟩ | refine fun ii hii => ?_ | omega | fail)
  · rewrite [hb]
    have e2 : decide (at_ ≥ (x.way.length : Int)) = true := by
      have h1 := of_decide_eq_false hb
      simp only [got, Bool.and_eq_false_iff, decide_eq_false_iff_not] at h
      exact decide_eq_true (by omega)
    conv => whnf
    rewrite [e2]
    conv => whnf
    refine ⟨[0, 1], _, _, rfl, rfl, ?_, ?_, rfl, rfl⟩
    · (repeat' first | exact trivial | exact rfl | exact Nat.le_of_ble_eq_true rfl | exact Nat.le_refl _ | exact .inl ⟨rfl, rfl, rfl, rfl, Nat.le_refl _, Nat.le_refl _, .inr rfl, Nat.le_of_ble_eq_true rfl⟩ | exact .inl ⟨rfl, rfl, rfl, rfl, Nat.le_refl _, Nat.le_refl _, .inl rfl, Nat.le_of_ble_eq_true rfl⟩ | exact .inr ⟨rfl, rfl, rfl, rfl, rfl⟩ | exact .inl ⟨rfl, rfl, rfl, (by first | omega | (simp; done) | (simp; omega)), (by first | omega | (simp; done) | (simp; omega)), (by first | omega | (simp; done) | (simp; omega)), .inr rfl, Nat.le_of_ble_eq_true rfl⟩ | exact .inl ⟨rfl, rfl, rfl, (by first | omega | (simp; done) | (simp; omega)), (by first | omega | (simp; done) | (simp; omega)), (by first | omega | (simp; done) | (simp; omega)), .inl rfl, Nat.le_of_ble_eq_true rfl⟩ | exact fun h => h | refine ⟨?_, ?_, ?_, .inl ?_⟩ | refine ⟨?_, ?_⟩ | refine fun ii hii => ?_ | omega | fail)
    · (repeat' first | exact trivial | exact rfl | exact Nat.le_of_ble_eq_true rfl | exact Nat.le_refl _ | exact .inl ⟨rfl, rfl, rfl, rfl, Nat.le_refl _, Nat.le_refl _, .inr rfl, Nat.le_of_ble_eq_true rfl⟩ | exact .inl ⟨rfl, rfl, rfl, rfl, Nat.le_refl _, Nat.le_refl _, .inl rfl, Nat.le_of_ble_eq_true rfl⟩ | exact .inr ⟨rfl, rfl, rfl, rfl, rfl⟩ | exact .inl ⟨rfl, rfl, rfl, (by first | omega | (simp; done) | (simp; omega)), (by first | omega | (simp; done) | (simp; omega)), (by first | omega | (simp; done) | (simp; omega)), .inr rfl, Nat.le_of_ble_eq_true rfl⟩ | exact .inl ⟨rfl, rfl, rfl, (by first | omega | (simp; done) | (simp; omega)), (by first | omega | (simp; done) | (simp; omega)), (by first | omega | (simp; done) | (simp; omega)), .inl rfl, Nat.le_of_ble_eq_true rfl⟩ | exact fun h => h | refine ⟨?_, ?_, ?_, .inl ?_⟩ | refine ⟨?_, ?_⟩ | refine fun ii hii => ?_ | omega | fail)
theorem RDouble_full (x : Net) (i : Nat) (hi : i < x.way.length) (hl : 100 ≤ x.way.length) : LCalls Try.prog 19 (.cons (.ptr ⟨0, [], 0⟩) (.cons (.int .i64 i) .nil)) [refO 1 x, wayO x.way] (fun e h' => e = .ret (.int .i64 3) ∧ h' = [refO 1 x, wayO x.way]) := by
  refine LCalls.tell ?_
  refine enter19 rfl ?_
  have e2 : decide ((i : Int) ≥ (x.way.length : Int)) = false := decide_eq_false (by omega)
  have e3 : decide ((x.way.length : Int) ≥ 100) = true := decide_eq_true (by omega)
  (conv => whnf); (repeat (refine ⟨by omega, ?_⟩; conv => whnf))
  rewrite [e2]
  (conv => whnf); (repeat (refine ⟨by omega, ?_⟩; conv => whnf))
  rewrite [e3]
  conv => whnf
  refine ⟨[0, 1], _, _, rfl, rfl, ?_, ?_, rfl, rfl⟩
  · (repeat' first | exact trivial | exact rfl | exact Nat.le_of_ble_eq_true rfl | exact Nat.le_refl _ | exact .inl ⟨rfl, rfl, rfl, rfl, Nat.le_refl _, Nat.le_refl _, .inr rfl, Nat.le_of_ble_eq_true rfl⟩ | exact .inl ⟨rfl, rfl, rfl, rfl, Nat.le_refl _, Nat.le_refl _, .inl rfl, Nat.le_of_ble_eq_true rfl⟩ | exact .inr ⟨rfl, rfl, rfl, rfl, rfl⟩ | exact .inl ⟨rfl, rfl, rfl, (by first | omega | (simp; done) | (simp; omega)), (by first | omega | (simp; done) | (simp; omega)), (by first | omega | (simp; done) | (simp; omega)), .inr rfl, Nat.le_of_ble_eq_true rfl⟩ | exact .inl ⟨rfl, rfl, rfl, (by first | omega | (simp; done) | (simp; omega)), (by first | omega | (simp; done) | (simp; omega)), (by first | omega | (simp; done) | (simp; omega)), .inl rfl, Nat.le_of_ble_eq_true rfl⟩ | exact fun h => h | refine ⟨?_, ?_, ?_, .inl ?_⟩ | refine ⟨?_, ?_⟩ | refine fun ii hii => ?_ | omega | fail)
  · (repeat' first | exact trivial | exact rfl | exact Nat.le_of_ble_eq_true rfl | exact Nat.le_refl _ | exact .inl ⟨rfl, rfl, rfl, rfl, Nat.le_refl _, Nat.le_refl _, .inr rfl, Nat.le_of_ble_eq_true rfl⟩ | exact .inl ⟨rfl, rfl, rfl, rfl, Nat.le_refl _, Nat.le_refl _, .inl rfl, Nat.le_of_ble_eq_true rfl⟩ | exact .inr ⟨rfl, rfl, rfl, rfl, rfl⟩ | exact .inl ⟨rfl, rfl, rfl, (by first | omega | (simp; done) | (simp; omega)), (by first | omega | (simp; done) | (simp; omega)), (by first | omega | (simp; done) | (simp; omega)), .inr rfl, Nat.le_of_ble_eq_true rfl⟩ | exact .inl ⟨rfl, rfl, rfl, (by first | omega | (simp; done) | (simp; omega)), (by first | omega | (simp; done) | (simp; omega)), (by first | omega | (simp; done) | (simp; omega)), .inl rfl, Nat.le_of_ble_eq_true rfl⟩ | exact fun h => h | refine ⟨?_, ?_, ?_, .inl ?_⟩ | refine ⟨?_, ?_⟩ | refine fun ii hii => ?_ | omega | fail)
theorem RDouble_ok (x : Net) (i : Nat) (hi : i < x.way.length) (hl : x.way.length < 100) : LCalls Try.prog 19 (.cons (.ptr ⟨0, [], 0⟩) (.cons (.int .i64 i) .nil)) [refO 1 x, wayO x.way] (fun e h' => e = .ret (.int .i64 0) ∧ h' = [refO 2 (dbl x i), none, wayO (dbl x i).way]) := by
  refine LCalls.tell ?_
  refine enter19 rfl ?_
  have e2 : decide ((i : Int) ≥ (x.way.length : Int)) = false := decide_eq_false (by omega)
  have e3 : decide ((x.way.length : Int) ≥ 100) = false := decide_eq_false (by omega)
  (conv => whnf); (repeat (refine ⟨by omega, ?_⟩; conv => whnf))
  rewrite [e2]
  (conv => whnf); (repeat (refine ⟨by omega, ?_⟩; conv => whnf))
  rewrite [e3]
  (conv => whnf); (repeat (refine ⟨by omega, ?_⟩; conv => whnf))
  refine ⟨[0, 1, 15], _, _, rfl, rfl, ?_, ?_, rfl, rfl⟩
  · (repeat' first | exact trivial | exact rfl | exact Nat.le_of_ble_eq_true rfl | exact Nat.le_refl _ | exact .inl ⟨rfl, rfl, rfl, rfl, Nat.le_refl _, Nat.le_refl _, .inr rfl, Nat.le_of_ble_eq_true rfl⟩ | exact .inl ⟨rfl, rfl, rfl, rfl, Nat.le_refl _, Nat.le_refl _, .inl rfl, Nat.le_of_ble_eq_true rfl⟩ | exact .inr ⟨rfl, rfl, rfl, rfl, rfl⟩ | exact .inl ⟨rfl, rfl, rfl, (by first | omega | (simp; done) | (simp; omega)), (by first | omega | (simp; done) | (simp; omega)), (by first | omega | (simp; done) | (simp; omega)), .inr rfl, Nat.le_of_ble_eq_true rfl⟩ | exact .inl ⟨rfl, rfl, rfl, (by first | omega | (simp; done) | (simp; omega)), (by first | omega | (simp; done) | (simp; omega)), (by first | omega | (simp; done) | (simp; omega)), .inl rfl, Nat.le_of_ble_eq_true rfl⟩ | exact fun h => h | refine ⟨?_, ?_, ?_, .inl ?_⟩ | refine ⟨?_, ?_⟩ | refine fun ii hii => ?_ | omega | fail)
  · simp only [Nat.zero_add, Int.toNat_natCast, dbl]
    (repeat' first | exact trivial | exact rfl | exact Nat.le_of_ble_eq_true rfl | exact Nat.le_refl _ | exact .inl ⟨rfl, rfl, rfl, rfl, Nat.le_refl _, Nat.le_refl _, .inr rfl, Nat.le_of_ble_eq_true rfl⟩ | exact .inl ⟨rfl, rfl, rfl, rfl, Nat.le_refl _, Nat.le_refl _, .inl rfl, Nat.le_of_ble_eq_true rfl⟩ | exact .inr ⟨rfl, rfl, rfl, rfl, rfl⟩ | exact .inl ⟨rfl, rfl, rfl, (by first | omega | (simp; done) | (simp; omega)), (by first | omega | (simp; done) | (simp; omega)), (by first | omega | (simp; done) | (simp; omega)), .inr rfl, Nat.le_of_ble_eq_true rfl⟩ | exact .inl ⟨rfl, rfl, rfl, (by first | omega | (simp; done) | (simp; omega)), (by first | omega | (simp; done) | (simp; omega)), (by first | omega | (simp; done) | (simp; omega)), .inl rfl, Nat.le_of_ble_eq_true rfl⟩ | exact fun h => h | refine ⟨?_, ?_, ?_, .inl ?_⟩ | refine ⟨?_, ?_⟩ | refine fun ii hii => ?_ | omega | fail)
    · simp
    · refine shS_ite (fun c => ?_) (fun c => ?_)
      · exact shLs (x.way.getD ii default) ((x.way ++ [x.way.getD i default]).getD ii default) rfl rfl (by simp [List.getElem?_append, c])
      · have : ii = x.way.length := by omega
        subst this
        exact shLs (x.way.getD i default) ((x.way ++ [x.way.getD i default]).getD x.way.length default) (by simp [ls]) rfl (by simp)
end Go.Proofs.Ytnmbbkhjbflojaa.Net
