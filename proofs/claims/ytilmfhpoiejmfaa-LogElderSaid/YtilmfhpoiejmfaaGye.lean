/- The laws of the log: LogElder. By this session. -/
import Derived.Test.YtilmfhpoiejmfaaGya
import Derived.Test.YtilmfhpoiejmfaaHu
import Derived.Test.YtilmfhpoiejmfaaGde
namespace Go.Proofs.Ytilmfhpoiejmfaa.Gk
open Go.Proofs.Ytilmfhpoiejmfaa.Lh Go.RowKit Go.Proofs.Ytilmfhpoiejmfaa.Lg Go.Proofs.Ytilmfhpoiejmfaa.Gdk
open Go.Proofs.Ytilmfhpoiejmfaa.Dk (Disk Sec nought diskR wrE wrD wrS flE flD flushed rdE crashed picked fresh new_ok' New_err crash' keepQ boolS Inv Inv_fresh Inv_crashed)
set_option maxRecDepth 100000
set_option linter.unusedSimpArgs false
set_option linter.unusedSectionVars false
set_option linter.unusedVariables false
variable [Fz]
def kp : Nat → Bool := fun i => !(i == 0)
def kpS (i : Nat) : Segs := .one (.bool (kp i)) .nil
def boO (n : Nat) : Option LObj := some ⟨.rows n 1 kpS .nil, 4, true, false⟩
theorem kp_first (i : Nat) (hi : i < 1) : shS 1000000 (frzAll [] []) (if i = 0 then .one (.bool false) .nil else .one (.bool false) .nil) (kpS i) := by
  obtain rfl : i = 0 := by omega
  exact ⟨rfl, trivial⟩
theorem kp_row (k i : Nat) (hi : i < 1 + k + 1) : shS 1000000 (frzAll [] []) (if i < 1 + k then kpS (0 + i) else if 0 + (i - (1 + k)) = 0 then .one (.bool true) .nil else .one (.bool false) .nil) (kpS i) := by
  refine sh_ite (fun c => ⟨?_, trivial⟩) (fun c => sh_ite (fun c2 => ⟨?_, trivial⟩) (fun c2 => ⟨?_, trivial⟩))
  · show kp (0 + i) = kp i
    rw [Nat.zero_add]
  · show true = kp i
    unfold kp
    simp
    omega
  · omega
theorem crashK (n : Nat) (τ : Nat) (x : Disk) (hi : Inv x) : LCalls Try.prog 27 (.cons (.tok τ) (.cons (.slice ⟨1, [], 0⟩ 0 1 n n none) .nil)) [diskR τ x, boO n] (fun e h' => e = .ret (.int .i64 (picked (keepQ n kp) x.pend).length) ∧ h' = [diskR τ (crashed x (keepQ n kp)), none]) := by
  refine LCalls.preF [(1, n, 1, kpS)] ⟨⟨rfl, Nat.le_refl _, rfl, fun i hi => ⟨rfl, trivial⟩⟩, rfl, trivial⟩ [0, 1] (.cons (.tok τ) (.cons (boolS n kp) .nil)) [diskR τ x, none] rfl rfl ?_ ?_ ?_
  · refine ⟨rfl, .inr ⟨rfl, rfl, rfl, rfl, rfl, by simp, fun i hi => by show kpS (offs 0 i) = kpS i; rfl⟩, trivial⟩
  · (repeat' first | exact trivial | exact rfl | exact Nat.le_of_ble_eq_true rfl | exact Nat.le_refl _ | exact .inl ⟨rfl, rfl, rfl, rfl, Nat.le_refl _, Nat.le_refl _, .inr rfl, Nat.le_of_ble_eq_true rfl⟩ | exact .inl ⟨rfl, rfl, rfl, rfl, Nat.le_refl _, Nat.le_refl _, .inl rfl, Nat.le_of_ble_eq_true rfl⟩ | exact .inr ⟨rfl, rfl, rfl, rfl, rfl⟩ | exact .inl ⟨rfl, rfl, rfl, (by first | omega | (simp; done) | (simp; omega)), (by first | omega | (simp; done) | (simp; omega)), (by first | omega | (simp; done) | (simp; omega)), .inr rfl, Nat.le_of_ble_eq_true rfl⟩ | exact .inl ⟨rfl, rfl, rfl, (by first | omega | (simp; done) | (simp; omega)), (by first | omega | (simp; done) | (simp; omega)), (by first | omega | (simp; done) | (simp; omega)), .inl rfl, Nat.le_of_ble_eq_true rfl⟩ | exact fun h => h | refine ⟨?_, ?_, ?_, .inl ?_⟩ | refine ⟨?_, ?_⟩ | refine fun ii hii => ?_ | omega | fail)
  refine (LCalls.frame (H := [diskR τ x, none]) (crash' τ x hi.toWf n kp) [0] rfl ⟨rfl, trivial⟩).mono ?_
  rintro _ _ ⟨_, _, ⟨rfl, rfl⟩, rfl, rfl⟩
  exact ⟨rfl, rfl⟩
set_option maxHeartbeats 1000000 in
theorem LogElder (f : Lg.Bs) (a : List Lg.Bs) (nw : Lg.Bs) (hfl : f.length ≤ 140737488351232) (ha : a.length ≤ 140737488351232) (hs : ∀ i, (a.getD i []).length ≤ 140737488351232) (hnl : nw.length ≤ 140737488351232) : LCalls Try.prog 10 (.cons (.str (bs f)) (.cons (strsV a) (.cons (.str (bs nw)) .nil))) [] (fun e h' => e = .ret (.bool true) ∧ h' = []) := by
  refine LCalls.tell ?_; refine enter10 rfl ?_; conv => whnf
  refine LCalls.use awake [] rfl rfl trivial ?_
  rintro _ _ ⟨rfl, rfl⟩
  conv => whnf
  refine LCalls.use (new_ok' 300 (by omega) (by omega)) [] rfl rfl trivial ?_
  rintro _ _ ⟨τ, rfl, rfl⟩
  conv => whnf
  have d0 := fresh_dead (n := 300) (first := 0) (count := 300) (ep := 1) (by omega) (by omega) (by omega) (by decide)
  obtain ⟨y, L0, F, q0, e1, a1, a2, a3, a4, a5, a6, a7, a8, a9, a10, l0⟩ := d0.opens_up (by omega) (by omega) (Up.fresh 300)
  have s0 := St_fresh (n := 300) (by omega)
  have hcz : cF y.now 0 300 1 = zF := by rw [a8 1 (by omega), fresh_cF]
  rw [wrong_rd fun r => by rw [hcz, zF_wrong] at r; cases r] at a10
  obtain rfl : q0 = 1 := a10
  have hn0 : L0.next = 1 := l0.next
  have hF : ∀ p, 1 ≤ p → rightB (F p) = false := fun p hp => by
    rw [a7]
    show rightB (cF y.now 0 300 p) = false
    rw [a8 p hp, fresh_cF, zF_wrong]
  refine LCalls.use (OpenOk τ (fresh 300) s0 ((0 : Nat) : Int) ((300 : Nat) : Int) 1 (by decide) (by simp [fresh]) e1) [0] rfl rfl ⟨rfl, trivial⟩ ?_
  rintro _ _ ⟨rfl, rfl⟩
  conv => whnf
  rewrite [bs_size]
  by_cases h1 : f.length ≤ 48
  case neg =>
    rewrite [show decide ((f.length : Int) > 48) = true from decide_eq_true (by omega)]
    conv => whnf
    refine ⟨[], _, _, rfl, rfl, ?_, ?_, rfl, rfl⟩
    · (repeat' first | exact trivial | exact rfl | exact Nat.le_of_ble_eq_true rfl | exact Nat.le_refl _ | exact .inl ⟨rfl, rfl, rfl, rfl, Nat.le_refl _, Nat.le_refl _, .inr rfl, Nat.le_of_ble_eq_true rfl⟩ | exact .inl ⟨rfl, rfl, rfl, rfl, Nat.le_refl _, Nat.le_refl _, .inl rfl, Nat.le_of_ble_eq_true rfl⟩ | exact .inr ⟨rfl, rfl, rfl, rfl, rfl⟩ | exact .inl ⟨rfl, rfl, rfl, (by first | omega | (simp; done) | (simp; omega)), (by first | omega | (simp; done) | (simp; omega)), (by first | omega | (simp; done) | (simp; omega)), .inr rfl, Nat.le_of_ble_eq_true rfl⟩ | exact .inl ⟨rfl, rfl, rfl, (by first | omega | (simp; done) | (simp; omega)), (by first | omega | (simp; done) | (simp; omega)), (by first | omega | (simp; done) | (simp; omega)), .inl rfl, Nat.le_of_ble_eq_true rfl⟩ | exact fun h => h | refine ⟨?_, ?_, ?_, .inl ?_⟩ | refine ⟨?_, ?_⟩ | refine fun ii hii => ?_ | omega | fail)
    · (repeat' first | exact trivial | exact rfl | exact Nat.le_of_ble_eq_true rfl | exact Nat.le_refl _ | exact .inl ⟨rfl, rfl, rfl, rfl, Nat.le_refl _, Nat.le_refl _, .inr rfl, Nat.le_of_ble_eq_true rfl⟩ | exact .inl ⟨rfl, rfl, rfl, rfl, Nat.le_refl _, Nat.le_refl _, .inl rfl, Nat.le_of_ble_eq_true rfl⟩ | exact .inr ⟨rfl, rfl, rfl, rfl, rfl⟩ | exact .inl ⟨rfl, rfl, rfl, (by first | omega | (simp; done) | (simp; omega)), (by first | omega | (simp; done) | (simp; omega)), (by first | omega | (simp; done) | (simp; omega)), .inr rfl, Nat.le_of_ble_eq_true rfl⟩ | exact .inl ⟨rfl, rfl, rfl, (by first | omega | (simp; done) | (simp; omega)), (by first | omega | (simp; done) | (simp; omega)), (by first | omega | (simp; done) | (simp; omega)), .inl rfl, Nat.le_of_ble_eq_true rfl⟩ | exact fun h => h | refine ⟨?_, ?_, ?_, .inl ?_⟩ | refine ⟨?_, ?_⟩ | refine fun ii hii => ?_ | omega | fail)
  rewrite [show decide ((f.length : Int) > 48) = false from decide_eq_false (by omega)]
  conv => whnf
  rewrite [bs_size]
  by_cases hnw : nw.length ≤ 48
  case neg =>
    rewrite [show decide ((nw.length : Int) > 48) = true from decide_eq_true (by omega)]
    conv => whnf
    refine ⟨[], _, _, rfl, rfl, ?_, ?_, rfl, rfl⟩
    · (repeat' first | exact trivial | exact rfl | exact Nat.le_of_ble_eq_true rfl | exact Nat.le_refl _ | exact .inl ⟨rfl, rfl, rfl, rfl, Nat.le_refl _, Nat.le_refl _, .inr rfl, Nat.le_of_ble_eq_true rfl⟩ | exact .inl ⟨rfl, rfl, rfl, rfl, Nat.le_refl _, Nat.le_refl _, .inl rfl, Nat.le_of_ble_eq_true rfl⟩ | exact .inr ⟨rfl, rfl, rfl, rfl, rfl⟩ | exact .inl ⟨rfl, rfl, rfl, (by first | omega | (simp; done) | (simp; omega)), (by first | omega | (simp; done) | (simp; omega)), (by first | omega | (simp; done) | (simp; omega)), .inr rfl, Nat.le_of_ble_eq_true rfl⟩ | exact .inl ⟨rfl, rfl, rfl, (by first | omega | (simp; done) | (simp; omega)), (by first | omega | (simp; done) | (simp; omega)), (by first | omega | (simp; done) | (simp; omega)), .inl rfl, Nat.le_of_ble_eq_true rfl⟩ | exact fun h => h | refine ⟨?_, ?_, ?_, .inl ?_⟩ | refine ⟨?_, ?_⟩ | refine fun ii hii => ?_ | omega | fail)
    · (repeat' first | exact trivial | exact rfl | exact Nat.le_of_ble_eq_true rfl | exact Nat.le_refl _ | exact .inl ⟨rfl, rfl, rfl, rfl, Nat.le_refl _, Nat.le_refl _, .inr rfl, Nat.le_of_ble_eq_true rfl⟩ | exact .inl ⟨rfl, rfl, rfl, rfl, Nat.le_refl _, Nat.le_refl _, .inl rfl, Nat.le_of_ble_eq_true rfl⟩ | exact .inr ⟨rfl, rfl, rfl, rfl, rfl⟩ | exact .inl ⟨rfl, rfl, rfl, (by first | omega | (simp; done) | (simp; omega)), (by first | omega | (simp; done) | (simp; omega)), (by first | omega | (simp; done) | (simp; omega)), .inr rfl, Nat.le_of_ble_eq_true rfl⟩ | exact .inl ⟨rfl, rfl, rfl, (by first | omega | (simp; done) | (simp; omega)), (by first | omega | (simp; done) | (simp; omega)), (by first | omega | (simp; done) | (simp; omega)), .inl rfl, Nat.le_of_ble_eq_true rfl⟩ | exact fun h => h | refine ⟨?_, ?_, ?_, .inl ?_⟩ | refine ⟨?_, ?_⟩ | refine fun ii hii => ?_ | omega | fail)
  rewrite [show decide ((nw.length : Int) > 48) = false from decide_eq_false (by omega)]
  conv => whnf
  rcases l0.appends_up a6 f (by rw [a5]; decide) with ⟨_, c1⟩ | ⟨_, _, c1⟩ | ⟨y1, e2, _, _, u1, l1⟩
  · omega
  · rw [a2, hn0, show secN f.length = 1 from if_pos h1] at c1
    omega
  have AO := app_ok l0.st l0.ok f (by rw [a5]; decide)
  have AO3 := AO.pend
  rw [e2, a5] at AO3
  obtain ⟨L1, hL1⟩ : ∃ L1 : LgS, L1 = { L0 with next := L0.next + secN f.length } := ⟨_, rfl⟩
  rw [← hL1] at e2 l1
  have g1 : L1.first = 0 := by rw [hL1]; exact a1
  have g2 : L1.count = 300 := by rw [hL1]; exact a2
  have g3 : L1.epoch = 1 := by rw [hL1]; exact a3
  have g4 : L1.life = 1 := by rw [hL1]; exact a4
  refine LCalls.use (AppE τ y L0 l0.ok f (by omega) (by rw [a5]; decide) e2) [0, 1] rfl rfl ⟨rfl, rfl, trivial⟩ ?_
  rintro _ _ ⟨rfl, rfl⟩
  conv => whnf
  refine Loop.inv (lwp_mono _) (fun m t1 h => ∃ (i : Nat) (x : Disk) (L : LgS) (R : List Lg.Bs), i ≤ 40 ∧ Live x L F 1 [] R [] 1 0 ∧ Up x ∧ L.first = 0 ∧ L.count = 300 ∧ L.epoch = 1 ∧ L.life = 1 ∧ x.pend.length ≤ 42 * (i + 1) ∧ m = 40 - i ∧ t1 = [.any, strsV a, .str (bs nw), .any, .any, .any, .any, .bool true, .tok τ, .any, .ptr ⟨1, [], 0⟩, .any, .any, .int .i64 0, .slice ⟨2, [], 0⟩ 0 1 1 1 none, .int .i64 (i : Int), .any, .any, .any, .any, .any, .any, .any, .any, .any, .any, .any, .any, .any, .any, .any, .any, .any, .any, .any, .any, .any, .any, .any, .any, .any, .any, .any, .any, .any, .any, .any, .any, .any, .any, .any, .any, .any, .any, .any, .any, .any, .any, .any, .any, .any, .any, .any, .any, .any, .any, .any, .any, .any, .any, .any, .any, .any, .any, .any, .any, .any, .any, .any, .any, .any, .any, .any, .any, .any, .any, .any, .any, .any, .any, .any, .any, .any, .any, .any, .any, .any, .any, .any, .any, .any, .any, .any, .any, .any, .any, .any, .any, .any, .any, .any, .any, .any, .any, .any, .any, .any, .any, .any, .any, .any, .any, .any, .any, .any, .any, .any, .any, .any, .any, .any, .any, .any, .any, .any, .any, .any, .any, .any, .any, .any, .any, .any, .any, .any, .any, .any, .any, .any, .any, .any, .any] ∧ h = [diskR τ x, lgO τ L, boO 1]) ?_ ?_
  · refine ⟨_, _, _, ⟨[], trivial, [0, 1, 2], rfl, rfl, ?_, ?_⟩, 0, y1, L1, [] ++ [f], by omega, l1, u1, g1, g2, g3, g4, by exact AO3, rfl, rfl, rfl⟩
    · (repeat' first | exact trivial | exact rfl | exact Nat.le_of_ble_eq_true rfl | exact Nat.le_refl _ | exact .inl ⟨rfl, rfl, rfl, rfl, Nat.le_refl _, Nat.le_refl _, .inr rfl, Nat.le_of_ble_eq_true rfl⟩ | exact .inl ⟨rfl, rfl, rfl, rfl, Nat.le_refl _, Nat.le_refl _, .inl rfl, Nat.le_of_ble_eq_true rfl⟩ | exact .inr ⟨rfl, rfl, rfl, rfl, rfl⟩ | exact .inl ⟨rfl, rfl, rfl, (by first | omega | (simp; done) | (simp; omega)), (by first | omega | (simp; done) | (simp; omega)), (by first | omega | (simp; done) | (simp; omega)), .inr rfl, Nat.le_of_ble_eq_true rfl⟩ | exact .inl ⟨rfl, rfl, rfl, (by first | omega | (simp; done) | (simp; omega)), (by first | omega | (simp; done) | (simp; omega)), (by first | omega | (simp; done) | (simp; omega)), .inl rfl, Nat.le_of_ble_eq_true rfl⟩ | exact fun h => h | refine ⟨?_, ?_, ?_, .inl ?_⟩ | refine ⟨?_, ?_⟩ | refine fun ii hii => ?_ | omega | fail)
    · (repeat' first | exact trivial | exact rfl | exact Nat.le_of_ble_eq_true rfl | exact Nat.le_refl _ | exact .inl ⟨rfl, rfl, rfl, rfl, Nat.le_refl _, Nat.le_refl _, .inr rfl, Nat.le_of_ble_eq_true rfl⟩ | exact .inl ⟨rfl, rfl, rfl, rfl, Nat.le_refl _, Nat.le_refl _, .inl rfl, Nat.le_of_ble_eq_true rfl⟩ | exact .inr ⟨rfl, rfl, rfl, rfl, rfl⟩ | exact .inl ⟨rfl, rfl, rfl, (by first | omega | (simp; done) | (simp; omega)), (by first | omega | (simp; done) | (simp; omega)), (by first | omega | (simp; done) | (simp; omega)), .inr rfl, Nat.le_of_ble_eq_true rfl⟩ | exact .inl ⟨rfl, rfl, rfl, (by first | omega | (simp; done) | (simp; omega)), (by first | omega | (simp; done) | (simp; omega)), (by first | omega | (simp; done) | (simp; omega)), .inl rfl, Nat.le_of_ble_eq_true rfl⟩ | exact fun h => h | refine ⟨?_, ?_, ?_, .inl ?_⟩ | refine ⟨?_, ?_⟩ | refine fun ii hii => ?_ | omega | fail)
      all_goals first
        | exact fun _ => rfl
        | exact kp_first ii hii
  · rintro m _ _ ⟨i, x, L, R, hi, lv, ux, hf, hc, he, hli, hp, rfl, rfl, rfl⟩
    conv => whnf
    by_cases h3 : i < a.length
    case neg =>
      rewrite [show decide ((i : Int) < (a.length : Int)) = false from decide_eq_false (by omega)]
      conv => whnf
      refine Loop.inv (lwp_mono _) (fun m t1 h => ∃ (k : Nat), k ≤ 300 ∧ m = 300 - k ∧ t1 = [.any, .any, .str (bs nw), .any, .any, .any, .any, .bool true, .tok τ, .any, .any, .any, .any, .int .i64 0, .slice ⟨2, [], 0⟩ 0 1 (1 + k) (1 + k) none, .any, .int .i64 (k : Int), .any, .any, .any, .any, .any, .any, .any, .any, .any, .any, .any, .any, .any, .any, .any, .any, .any, .any, .any, .any, .any, .any, .any, .any, .any, .any, .any, .any, .any, .any, .any, .any, .any, .any, .any, .any, .any, .any, .any, .any, .any, .any, .any, .any, .any, .any, .any, .any, .any, .any, .any, .any, .any, .any, .any, .any, .any, .any, .any, .any, .any, .any, .any, .any, .any, .any, .any, .any, .any, .any, .any, .any, .any, .any, .any, .any, .any, .any, .any, .any, .any, .any, .any, .any, .any, .any, .any, .any, .any, .any, .any, .any, .any, .any, .any, .any, .any, .any, .any, .any, .any, .any, .any, .any, .any, .any, .any, .any, .any, .any, .any, .any, .any, .any, .any, .any, .any, .any, .any, .any, .any, .any, .any, .any, .any, .any, .any, .any, .any, .any, .any, .any, .any, .any, .any] ∧ h = [diskR τ x, lgO τ L, boO (1 + k)]) ?_ ?_
      · refine ⟨_, _, _, ⟨[], trivial, [0, 1, 2], rfl, rfl, ?_, ?_⟩, 0, by omega, rfl, rfl, rfl⟩
        · (repeat' first | exact trivial | exact rfl | exact Nat.le_of_ble_eq_true rfl | exact Nat.le_refl _ | exact .inl ⟨rfl, rfl, rfl, rfl, Nat.le_refl _, Nat.le_refl _, .inr rfl, Nat.le_of_ble_eq_true rfl⟩ | exact .inl ⟨rfl, rfl, rfl, rfl, Nat.le_refl _, Nat.le_refl _, .inl rfl, Nat.le_of_ble_eq_true rfl⟩ | exact .inr ⟨rfl, rfl, rfl, rfl, rfl⟩ | exact .inl ⟨rfl, rfl, rfl, (by first | omega | (simp; done) | (simp; omega)), (by first | omega | (simp; done) | (simp; omega)), (by first | omega | (simp; done) | (simp; omega)), .inr rfl, Nat.le_of_ble_eq_true rfl⟩ | exact .inl ⟨rfl, rfl, rfl, (by first | omega | (simp; done) | (simp; omega)), (by first | omega | (simp; done) | (simp; omega)), (by first | omega | (simp; done) | (simp; omega)), .inl rfl, Nat.le_of_ble_eq_true rfl⟩ | exact fun h => h | refine ⟨?_, ?_, ?_, .inl ?_⟩ | refine ⟨?_, ?_⟩ | refine fun ii hii => ?_ | omega | fail)
        · (repeat' first | exact trivial | exact rfl | exact Nat.le_of_ble_eq_true rfl | exact Nat.le_refl _ | exact .inl ⟨rfl, rfl, rfl, rfl, Nat.le_refl _, Nat.le_refl _, .inr rfl, Nat.le_of_ble_eq_true rfl⟩ | exact .inl ⟨rfl, rfl, rfl, rfl, Nat.le_refl _, Nat.le_refl _, .inl rfl, Nat.le_of_ble_eq_true rfl⟩ | exact .inr ⟨rfl, rfl, rfl, rfl, rfl⟩ | exact .inl ⟨rfl, rfl, rfl, (by first | omega | (simp; done) | (simp; omega)), (by first | omega | (simp; done) | (simp; omega)), (by first | omega | (simp; done) | (simp; omega)), .inr rfl, Nat.le_of_ble_eq_true rfl⟩ | exact .inl ⟨rfl, rfl, rfl, (by first | omega | (simp; done) | (simp; omega)), (by first | omega | (simp; done) | (simp; omega)), (by first | omega | (simp; done) | (simp; omega)), .inl rfl, Nat.le_of_ble_eq_true rfl⟩ | exact fun h => h | refine ⟨?_, ?_, ?_, .inl ?_⟩ | refine ⟨?_, ?_⟩ | refine fun ii hii => ?_ | omega | fail)
      · rintro m _ _ ⟨k, hk, rfl, rfl, rfl⟩
        conv => whnf
        by_cases hk3 : k < 300
        · rewrite [show decide ((k : Int) < 300) = true from decide_eq_true (by omega)]
          conv => whnf
          refine ⟨by first | omega | (dsimp only; omega), ?_⟩
          conv => whnf
          refine ⟨by first | omega | (dsimp only; omega), ?_⟩
          conv => whnf
          rewrite [w64 (n := (k : Int) + 1) (by omega)]
          have kpRow := kp_row k
          refine ⟨_, _, _, ?_, ⟨[], trivial, [0, 1, 4], rfl, rfl, ?_, ?_⟩, k + 1, by omega, rfl, rfl, rfl⟩
          · omega
          · (repeat' first | exact trivial | exact rfl | exact Nat.le_of_ble_eq_true rfl | exact Nat.le_refl _ | exact .inl ⟨rfl, rfl, rfl, rfl, Nat.le_refl _, Nat.le_refl _, .inr rfl, Nat.le_of_ble_eq_true rfl⟩ | exact .inl ⟨rfl, rfl, rfl, rfl, Nat.le_refl _, Nat.le_refl _, .inl rfl, Nat.le_of_ble_eq_true rfl⟩ | exact .inr ⟨rfl, rfl, rfl, rfl, rfl⟩ | exact .inl ⟨rfl, rfl, rfl, (by first | omega | (simp; done) | (simp; omega)), (by first | omega | (simp; done) | (simp; omega)), (by first | omega | (simp; done) | (simp; omega)), .inr rfl, Nat.le_of_ble_eq_true rfl⟩ | exact .inl ⟨rfl, rfl, rfl, (by first | omega | (simp; done) | (simp; omega)), (by first | omega | (simp; done) | (simp; omega)), (by first | omega | (simp; done) | (simp; omega)), .inl rfl, Nat.le_of_ble_eq_true rfl⟩ | exact fun h => h | refine ⟨?_, ?_, ?_, .inl ?_⟩ | refine ⟨?_, ?_⟩ | refine fun ii hii => ?_ | omega | fail)
          · (repeat' first | exact trivial | exact rfl | exact Nat.le_of_ble_eq_true rfl | exact Nat.le_refl _ | exact .inl ⟨rfl, rfl, rfl, rfl, Nat.le_refl _, Nat.le_refl _, .inr rfl, Nat.le_of_ble_eq_true rfl⟩ | exact .inl ⟨rfl, rfl, rfl, rfl, Nat.le_refl _, Nat.le_refl _, .inl rfl, Nat.le_of_ble_eq_true rfl⟩ | exact .inr ⟨rfl, rfl, rfl, rfl, rfl⟩ | exact .inl ⟨rfl, rfl, rfl, (by first | omega | (simp; done) | (simp; omega)), (by first | omega | (simp; done) | (simp; omega)), (by first | omega | (simp; done) | (simp; omega)), .inr rfl, Nat.le_of_ble_eq_true rfl⟩ | exact .inl ⟨rfl, rfl, rfl, (by first | omega | (simp; done) | (simp; omega)), (by first | omega | (simp; done) | (simp; omega)), (by first | omega | (simp; done) | (simp; omega)), .inl rfl, Nat.le_of_ble_eq_true rfl⟩ | exact fun h => h | refine ⟨?_, ?_, ?_, .inl ?_⟩ | refine ⟨?_, ?_⟩ | refine fun ii hii => ?_ | omega | fail)
            all_goals exact kpRow ii hii
        · rewrite [show decide ((k : Int) < 300) = false from decide_eq_false (by omega)]
          obtain rfl : k = 300 := by omega
          conv => whnf
          have sx := lv.st
          obtain ⟨y1, L1, F1, o1, st0, pe1, u1, b1, b2, b3, b4, b5, lv1⟩ := elder_end lv ux hF (by omega) (keepQ 301 kp) (by decide)
          rw [hf, hc, he] at o1
          rw [hf] at b1
          rw [hc] at b2
          rw [he] at b3
          rw [hli] at b4
          refine LCalls.use (crashK 301 τ x sx.inv) [0, 2] rfl rfl ⟨rfl, rfl, trivial⟩ ?_
          rintro _ _ ⟨rfl, rfl⟩
          conv => whnf
          refine LCalls.use (OpenOk τ _ st0 ((0 : Nat) : Int) ((300 : Nat) : Int) 1 (by decide) (by show 0 + 1 < 1000000; decide) o1) [0] rfl rfl ⟨rfl, trivial⟩ ?_
          rintro _ _ ⟨rfl, rfl⟩
          conv => whnf
          rcases lv1.appends_up u1 nw (by rw [pe1]; decide) with ⟨_, c1⟩ | ⟨_, _, c1⟩ | ⟨x2, e2, _, _, u2, lv2⟩
          · omega
          · rw [b2, b5, show secN nw.length = 1 from if_pos hnw] at c1
            omega
          obtain ⟨L2, hL2⟩ : ∃ L2 : LgS, L2 = { L1 with next := L1.next + secN nw.length } := ⟨_, rfl⟩
          rw [← hL2] at e2 lv2
          have g1 : L2.first = 0 := by rw [hL2]; exact b1
          have g2 : L2.count = 300 := by rw [hL2]; exact b2
          have g3 : L2.epoch = 1 := by rw [hL2]; exact b3
          have g4 : L2.life = 2 := by rw [hL2]; exact b4
          obtain ⟨y3, L3, o3, st3⟩ := last_end lv2 u2 (by omega) (keepQ 0 fun _ => false)
          rw [g1, g2, g3, List.nil_append] at o3
          refine LCalls.use (AppE τ y1 L1 lv1.ok nw (by omega) (by rw [pe1]; decide) e2) [0, 3] rfl rfl ⟨rfl, rfl, trivial⟩ ?_
          rintro _ _ ⟨rfl, rfl⟩
          conv => whnf
          refine LCalls.use (Sync τ x2 lv2.st.inv L2) [0, 3] rfl rfl ⟨rfl, rfl, trivial⟩ ?_
          rintro _ _ ⟨rfl, rfl⟩
          conv => whnf
          rewrite [flE_up u2]
          refine LCalls.use (crashN τ (flD x2) (St_flD lv2.st).inv) [0] rfl rfl ⟨rfl, trivial⟩ ?_
          rintro _ _ ⟨rfl, rfl⟩
          conv => whnf
          refine LCalls.use (OpenOk τ _ st3 ((0 : Nat) : Int) ((300 : Nat) : Int) 1 (by decide) (by show 0 + 1 < 1000000; decide) o3) [0] rfl rfl ⟨rfl, trivial⟩ ?_
          rintro _ _ ⟨rfl, rfl⟩
          conv => whnf
          refine ⟨⟨Int.le_refl _, by show (0 : Int) < ((1 : Nat) : Int); decide⟩, ?_⟩
          conv => whnf
          rewrite [show (bs ([nw].getD (Int.toNat 0) []) == bs nw) = true from str_self _]
          conv => whnf
          refine ⟨[], _, _, rfl, rfl, ?_, ?_, rfl, rfl⟩
          · (repeat' first | exact trivial | exact rfl | exact Nat.le_of_ble_eq_true rfl | exact Nat.le_refl _ | exact .inl ⟨rfl, rfl, rfl, rfl, Nat.le_refl _, Nat.le_refl _, .inr rfl, Nat.le_of_ble_eq_true rfl⟩ | exact .inl ⟨rfl, rfl, rfl, rfl, Nat.le_refl _, Nat.le_refl _, .inl rfl, Nat.le_of_ble_eq_true rfl⟩ | exact .inr ⟨rfl, rfl, rfl, rfl, rfl⟩ | exact .inl ⟨rfl, rfl, rfl, (by first | omega | (simp; done) | (simp; omega)), (by first | omega | (simp; done) | (simp; omega)), (by first | omega | (simp; done) | (simp; omega)), .inr rfl, Nat.le_of_ble_eq_true rfl⟩ | exact .inl ⟨rfl, rfl, rfl, (by first | omega | (simp; done) | (simp; omega)), (by first | omega | (simp; done) | (simp; omega)), (by first | omega | (simp; done) | (simp; omega)), .inl rfl, Nat.le_of_ble_eq_true rfl⟩ | exact fun h => h | refine ⟨?_, ?_, ?_, .inl ?_⟩ | refine ⟨?_, ?_⟩ | refine fun ii hii => ?_ | omega | fail)
          · (repeat' first | exact trivial | exact rfl | exact Nat.le_of_ble_eq_true rfl | exact Nat.le_refl _ | exact .inl ⟨rfl, rfl, rfl, rfl, Nat.le_refl _, Nat.le_refl _, .inr rfl, Nat.le_of_ble_eq_true rfl⟩ | exact .inl ⟨rfl, rfl, rfl, rfl, Nat.le_refl _, Nat.le_refl _, .inl rfl, Nat.le_of_ble_eq_true rfl⟩ | exact .inr ⟨rfl, rfl, rfl, rfl, rfl⟩ | exact .inl ⟨rfl, rfl, rfl, (by first | omega | (simp; done) | (simp; omega)), (by first | omega | (simp; done) | (simp; omega)), (by first | omega | (simp; done) | (simp; omega)), .inr rfl, Nat.le_of_ble_eq_true rfl⟩ | exact .inl ⟨rfl, rfl, rfl, (by first | omega | (simp; done) | (simp; omega)), (by first | omega | (simp; done) | (simp; omega)), (by first | omega | (simp; done) | (simp; omega)), .inl rfl, Nat.le_of_ble_eq_true rfl⟩ | exact fun h => h | refine ⟨?_, ?_, ?_, .inl ?_⟩ | refine ⟨?_, ?_⟩ | refine fun ii hii => ?_ | omega | fail)
    rewrite [show decide ((i : Int) < (a.length : Int)) = true from decide_eq_true (by omega)]
    conv => whnf
    by_cases h4 : i < 40
    case neg =>
      rewrite [show decide ((i : Int) < 40) = false from decide_eq_false (by omega)]
      conv => whnf
      refine Loop.inv (lwp_mono _) (fun m t1 h => ∃ (k : Nat), k ≤ 300 ∧ m = 300 - k ∧ t1 = [.any, .any, .str (bs nw), .any, .any, .any, .any, .bool true, .tok τ, .any, .any, .any, .any, .int .i64 0, .slice ⟨2, [], 0⟩ 0 1 (1 + k) (1 + k) none, .any, .int .i64 (k : Int), .any, .any, .any, .any, .any, .any, .any, .any, .any, .any, .any, .any, .any, .any, .any, .any, .any, .any, .any, .any, .any, .any, .any, .any, .any, .any, .any, .any, .any, .any, .any, .any, .any, .any, .any, .any, .any, .any, .any, .any, .any, .any, .any, .any, .any, .any, .any, .any, .any, .any, .any, .any, .any, .any, .any, .any, .any, .any, .any, .any, .any, .any, .any, .any, .any, .any, .any, .any, .any, .any, .any, .any, .any, .any, .any, .any, .any, .any, .any, .any, .any, .any, .any, .any, .any, .any, .any, .any, .any, .any, .any, .any, .any, .any, .any, .any, .any, .any, .any, .any, .any, .any, .any, .any, .any, .any, .any, .any, .any, .any, .any, .any, .any, .any, .any, .any, .any, .any, .any, .any, .any, .any, .any, .any, .any, .any, .any, .any, .any, .any, .any, .any, .any, .any, .any] ∧ h = [diskR τ x, lgO τ L, boO (1 + k)]) ?_ ?_
      · refine ⟨_, _, _, ⟨[], trivial, [0, 1, 2], rfl, rfl, ?_, ?_⟩, 0, by omega, rfl, rfl, rfl⟩
        · (repeat' first | exact trivial | exact rfl | exact Nat.le_of_ble_eq_true rfl | exact Nat.le_refl _ | exact .inl ⟨rfl, rfl, rfl, rfl, Nat.le_refl _, Nat.le_refl _, .inr rfl, Nat.le_of_ble_eq_true rfl⟩ | exact .inl ⟨rfl, rfl, rfl, rfl, Nat.le_refl _, Nat.le_refl _, .inl rfl, Nat.le_of_ble_eq_true rfl⟩ | exact .inr ⟨rfl, rfl, rfl, rfl, rfl⟩ | exact .inl ⟨rfl, rfl, rfl, (by first | omega | (simp; done) | (simp; omega)), (by first | omega | (simp; done) | (simp; omega)), (by first | omega | (simp; done) | (simp; omega)), .inr rfl, Nat.le_of_ble_eq_true rfl⟩ | exact .inl ⟨rfl, rfl, rfl, (by first | omega | (simp; done) | (simp; omega)), (by first | omega | (simp; done) | (simp; omega)), (by first | omega | (simp; done) | (simp; omega)), .inl rfl, Nat.le_of_ble_eq_true rfl⟩ | exact fun h => h | refine ⟨?_, ?_, ?_, .inl ?_⟩ | refine ⟨?_, ?_⟩ | refine fun ii hii => ?_ | omega | fail)
        · (repeat' first | exact trivial | exact rfl | exact Nat.le_of_ble_eq_true rfl | exact Nat.le_refl _ | exact .inl ⟨rfl, rfl, rfl, rfl, Nat.le_refl _, Nat.le_refl _, .inr rfl, Nat.le_of_ble_eq_true rfl⟩ | exact .inl ⟨rfl, rfl, rfl, rfl, Nat.le_refl _, Nat.le_refl _, .inl rfl, Nat.le_of_ble_eq_true rfl⟩ | exact .inr ⟨rfl, rfl, rfl, rfl, rfl⟩ | exact .inl ⟨rfl, rfl, rfl, (by first | omega | (simp; done) | (simp; omega)), (by first | omega | (simp; done) | (simp; omega)), (by first | omega | (simp; done) | (simp; omega)), .inr rfl, Nat.le_of_ble_eq_true rfl⟩ | exact .inl ⟨rfl, rfl, rfl, (by first | omega | (simp; done) | (simp; omega)), (by first | omega | (simp; done) | (simp; omega)), (by first | omega | (simp; done) | (simp; omega)), .inl rfl, Nat.le_of_ble_eq_true rfl⟩ | exact fun h => h | refine ⟨?_, ?_, ?_, .inl ?_⟩ | refine ⟨?_, ?_⟩ | refine fun ii hii => ?_ | omega | fail)
      · rintro m _ _ ⟨k, hk, rfl, rfl, rfl⟩
        conv => whnf
        by_cases hk3 : k < 300
        · rewrite [show decide ((k : Int) < 300) = true from decide_eq_true (by omega)]
          conv => whnf
          refine ⟨by first | omega | (dsimp only; omega), ?_⟩
          conv => whnf
          refine ⟨by first | omega | (dsimp only; omega), ?_⟩
          conv => whnf
          rewrite [w64 (n := (k : Int) + 1) (by omega)]
          have kpRow := kp_row k
          refine ⟨_, _, _, ?_, ⟨[], trivial, [0, 1, 4], rfl, rfl, ?_, ?_⟩, k + 1, by omega, rfl, rfl, rfl⟩
          · omega
          · (repeat' first | exact trivial | exact rfl | exact Nat.le_of_ble_eq_true rfl | exact Nat.le_refl _ | exact .inl ⟨rfl, rfl, rfl, rfl, Nat.le_refl _, Nat.le_refl _, .inr rfl, Nat.le_of_ble_eq_true rfl⟩ | exact .inl ⟨rfl, rfl, rfl, rfl, Nat.le_refl _, Nat.le_refl _, .inl rfl, Nat.le_of_ble_eq_true rfl⟩ | exact .inr ⟨rfl, rfl, rfl, rfl, rfl⟩ | exact .inl ⟨rfl, rfl, rfl, (by first | omega | (simp; done) | (simp; omega)), (by first | omega | (simp; done) | (simp; omega)), (by first | omega | (simp; done) | (simp; omega)), .inr rfl, Nat.le_of_ble_eq_true rfl⟩ | exact .inl ⟨rfl, rfl, rfl, (by first | omega | (simp; done) | (simp; omega)), (by first | omega | (simp; done) | (simp; omega)), (by first | omega | (simp; done) | (simp; omega)), .inl rfl, Nat.le_of_ble_eq_true rfl⟩ | exact fun h => h | refine ⟨?_, ?_, ?_, .inl ?_⟩ | refine ⟨?_, ?_⟩ | refine fun ii hii => ?_ | omega | fail)
          · (repeat' first | exact trivial | exact rfl | exact Nat.le_of_ble_eq_true rfl | exact Nat.le_refl _ | exact .inl ⟨rfl, rfl, rfl, rfl, Nat.le_refl _, Nat.le_refl _, .inr rfl, Nat.le_of_ble_eq_true rfl⟩ | exact .inl ⟨rfl, rfl, rfl, rfl, Nat.le_refl _, Nat.le_refl _, .inl rfl, Nat.le_of_ble_eq_true rfl⟩ | exact .inr ⟨rfl, rfl, rfl, rfl, rfl⟩ | exact .inl ⟨rfl, rfl, rfl, (by first | omega | (simp; done) | (simp; omega)), (by first | omega | (simp; done) | (simp; omega)), (by first | omega | (simp; done) | (simp; omega)), .inr rfl, Nat.le_of_ble_eq_true rfl⟩ | exact .inl ⟨rfl, rfl, rfl, (by first | omega | (simp; done) | (simp; omega)), (by first | omega | (simp; done) | (simp; omega)), (by first | omega | (simp; done) | (simp; omega)), .inl rfl, Nat.le_of_ble_eq_true rfl⟩ | exact fun h => h | refine ⟨?_, ?_, ?_, .inl ?_⟩ | refine ⟨?_, ?_⟩ | refine fun ii hii => ?_ | omega | fail)
            all_goals exact kpRow ii hii
        · rewrite [show decide ((k : Int) < 300) = false from decide_eq_false (by omega)]
          obtain rfl : k = 300 := by omega
          conv => whnf
          have sx := lv.st
          obtain ⟨y1, L1, F1, o1, st0, pe1, u1, b1, b2, b3, b4, b5, lv1⟩ := elder_end lv ux hF (by omega) (keepQ 301 kp) (by decide)
          rw [hf, hc, he] at o1
          rw [hf] at b1
          rw [hc] at b2
          rw [he] at b3
          rw [hli] at b4
          refine LCalls.use (crashK 301 τ x sx.inv) [0, 2] rfl rfl ⟨rfl, rfl, trivial⟩ ?_
          rintro _ _ ⟨rfl, rfl⟩
          conv => whnf
          refine LCalls.use (OpenOk τ _ st0 ((0 : Nat) : Int) ((300 : Nat) : Int) 1 (by decide) (by show 0 + 1 < 1000000; decide) o1) [0] rfl rfl ⟨rfl, trivial⟩ ?_
          rintro _ _ ⟨rfl, rfl⟩
          conv => whnf
          rcases lv1.appends_up u1 nw (by rw [pe1]; decide) with ⟨_, c1⟩ | ⟨_, _, c1⟩ | ⟨x2, e2, _, _, u2, lv2⟩
          · omega
          · rw [b2, b5, show secN nw.length = 1 from if_pos hnw] at c1
            omega
          obtain ⟨L2, hL2⟩ : ∃ L2 : LgS, L2 = { L1 with next := L1.next + secN nw.length } := ⟨_, rfl⟩
          rw [← hL2] at e2 lv2
          have g1 : L2.first = 0 := by rw [hL2]; exact b1
          have g2 : L2.count = 300 := by rw [hL2]; exact b2
          have g3 : L2.epoch = 1 := by rw [hL2]; exact b3
          have g4 : L2.life = 2 := by rw [hL2]; exact b4
          obtain ⟨y3, L3, o3, st3⟩ := last_end lv2 u2 (by omega) (keepQ 0 fun _ => false)
          rw [g1, g2, g3, List.nil_append] at o3
          refine LCalls.use (AppE τ y1 L1 lv1.ok nw (by omega) (by rw [pe1]; decide) e2) [0, 3] rfl rfl ⟨rfl, rfl, trivial⟩ ?_
          rintro _ _ ⟨rfl, rfl⟩
          conv => whnf
          refine LCalls.use (Sync τ x2 lv2.st.inv L2) [0, 3] rfl rfl ⟨rfl, rfl, trivial⟩ ?_
          rintro _ _ ⟨rfl, rfl⟩
          conv => whnf
          rewrite [flE_up u2]
          refine LCalls.use (crashN τ (flD x2) (St_flD lv2.st).inv) [0] rfl rfl ⟨rfl, trivial⟩ ?_
          rintro _ _ ⟨rfl, rfl⟩
          conv => whnf
          refine LCalls.use (OpenOk τ _ st3 ((0 : Nat) : Int) ((300 : Nat) : Int) 1 (by decide) (by show 0 + 1 < 1000000; decide) o3) [0] rfl rfl ⟨rfl, trivial⟩ ?_
          rintro _ _ ⟨rfl, rfl⟩
          conv => whnf
          refine ⟨⟨Int.le_refl _, by show (0 : Int) < ((1 : Nat) : Int); decide⟩, ?_⟩
          conv => whnf
          rewrite [show (bs ([nw].getD (Int.toNat 0) []) == bs nw) = true from str_self _]
          conv => whnf
          refine ⟨[], _, _, rfl, rfl, ?_, ?_, rfl, rfl⟩
          · (repeat' first | exact trivial | exact rfl | exact Nat.le_of_ble_eq_true rfl | exact Nat.le_refl _ | exact .inl ⟨rfl, rfl, rfl, rfl, Nat.le_refl _, Nat.le_refl _, .inr rfl, Nat.le_of_ble_eq_true rfl⟩ | exact .inl ⟨rfl, rfl, rfl, rfl, Nat.le_refl _, Nat.le_refl _, .inl rfl, Nat.le_of_ble_eq_true rfl⟩ | exact .inr ⟨rfl, rfl, rfl, rfl, rfl⟩ | exact .inl ⟨rfl, rfl, rfl, (by first | omega | (simp; done) | (simp; omega)), (by first | omega | (simp; done) | (simp; omega)), (by first | omega | (simp; done) | (simp; omega)), .inr rfl, Nat.le_of_ble_eq_true rfl⟩ | exact .inl ⟨rfl, rfl, rfl, (by first | omega | (simp; done) | (simp; omega)), (by first | omega | (simp; done) | (simp; omega)), (by first | omega | (simp; done) | (simp; omega)), .inl rfl, Nat.le_of_ble_eq_true rfl⟩ | exact fun h => h | refine ⟨?_, ?_, ?_, .inl ?_⟩ | refine ⟨?_, ?_⟩ | refine fun ii hii => ?_ | omega | fail)
          · (repeat' first | exact trivial | exact rfl | exact Nat.le_of_ble_eq_true rfl | exact Nat.le_refl _ | exact .inl ⟨rfl, rfl, rfl, rfl, Nat.le_refl _, Nat.le_refl _, .inr rfl, Nat.le_of_ble_eq_true rfl⟩ | exact .inl ⟨rfl, rfl, rfl, rfl, Nat.le_refl _, Nat.le_refl _, .inl rfl, Nat.le_of_ble_eq_true rfl⟩ | exact .inr ⟨rfl, rfl, rfl, rfl, rfl⟩ | exact .inl ⟨rfl, rfl, rfl, (by first | omega | (simp; done) | (simp; omega)), (by first | omega | (simp; done) | (simp; omega)), (by first | omega | (simp; done) | (simp; omega)), .inr rfl, Nat.le_of_ble_eq_true rfl⟩ | exact .inl ⟨rfl, rfl, rfl, (by first | omega | (simp; done) | (simp; omega)), (by first | omega | (simp; done) | (simp; omega)), (by first | omega | (simp; done) | (simp; omega)), .inl rfl, Nat.le_of_ble_eq_true rfl⟩ | exact fun h => h | refine ⟨?_, ?_, ?_, .inl ?_⟩ | refine ⟨?_, ?_⟩ | refine fun ii hii => ?_ | omega | fail)
    rewrite [show decide ((i : Int) < 40) = true from decide_eq_true (by omega)]
    conv => whnf
    refine ⟨⟨by omega, by omega⟩, ?_⟩
    rewrite [Int.toNat_natCast]
    conv => whnf
    have hb := hs i
    obtain ⟨b, hbd⟩ : ∃ b, b = a.getD i [] := ⟨_, rfl⟩
    rw [← hbd] at hb
    rewrite [show a.getD i [] = b from hbd.symm]
    have ok := lv.ok
    have BO := app_ok lv.st ok b (by omega)
    have BO3 := BO.pend
    obtain ⟨x2, L2, c, R2, e3, lv2, u2, q1, q2, q3, q4⟩ : ∃ (x2 : Disk) (L2 : LgS) (c : Int) (R2 : List Lg.Bs), appP x L b = (x2, L2, c) ∧ Live x2 L2 F 1 [] R2 [] 1 0 ∧ Up x2 ∧ L2.first = 0 ∧ L2.count = 300 ∧ L2.epoch = 1 ∧ L2.life = 1 := by
      rcases lv.appends_up ux b (by omega) with ⟨e, _⟩ | ⟨e, _⟩ | ⟨x2, e, _, _, u2, lv2⟩
      · exact ⟨x, L, 2, R, e, lv, ux, hf, hc, he, hli⟩
      · exact ⟨x, L, 3, R, e, lv, ux, hf, hc, he, hli⟩
      · exact ⟨x2, _, 0, R ++ [b], e, lv2, u2, hf, hc, he, hli⟩
    rw [e3] at BO3
    dsimp only at BO3
    refine LCalls.use (AppE τ x L ok b (by omega) (by omega) e3) [0, 1] rfl rfl ⟨rfl, rfl, trivial⟩ ?_
    rintro _ _ ⟨rfl, rfl⟩
    conv => whnf
    rewrite [w64 (n := (i : Int) + 1) (by omega)]
    refine ⟨_, _, _, ?_, ⟨[], trivial, [0, 1, 2], rfl, rfl, ?_, ?_⟩, i + 1, x2, L2, R2, by omega, lv2, u2, q1, q2, q3, q4, by omega, rfl, rfl, rfl⟩
    · omega
    · (repeat' first | exact trivial | exact rfl | exact Nat.le_of_ble_eq_true rfl | exact Nat.le_refl _ | exact .inl ⟨rfl, rfl, rfl, rfl, Nat.le_refl _, Nat.le_refl _, .inr rfl, Nat.le_of_ble_eq_true rfl⟩ | exact .inl ⟨rfl, rfl, rfl, rfl, Nat.le_refl _, Nat.le_refl _, .inl rfl, Nat.le_of_ble_eq_true rfl⟩ | exact .inr ⟨rfl, rfl, rfl, rfl, rfl⟩ | exact .inl ⟨rfl, rfl, rfl, (by first | omega | (simp; done) | (simp; omega)), (by first | omega | (simp; done) | (simp; omega)), (by first | omega | (simp; done) | (simp; omega)), .inr rfl, Nat.le_of_ble_eq_true rfl⟩ | exact .inl ⟨rfl, rfl, rfl, (by first | omega | (simp; done) | (simp; omega)), (by first | omega | (simp; done) | (simp; omega)), (by first | omega | (simp; done) | (simp; omega)), .inl rfl, Nat.le_of_ble_eq_true rfl⟩ | exact fun h => h | refine ⟨?_, ?_, ?_, .inl ?_⟩ | refine ⟨?_, ?_⟩ | refine fun ii hii => ?_ | omega | fail)
    · (repeat' first | exact trivial | exact rfl | exact Nat.le_of_ble_eq_true rfl | exact Nat.le_refl _ | exact .inl ⟨rfl, rfl, rfl, rfl, Nat.le_refl _, Nat.le_refl _, .inr rfl, Nat.le_of_ble_eq_true rfl⟩ | exact .inl ⟨rfl, rfl, rfl, rfl, Nat.le_refl _, Nat.le_refl _, .inl rfl, Nat.le_of_ble_eq_true rfl⟩ | exact .inr ⟨rfl, rfl, rfl, rfl, rfl⟩ | exact .inl ⟨rfl, rfl, rfl, (by first | omega | (simp; done) | (simp; omega)), (by first | omega | (simp; done) | (simp; omega)), (by first | omega | (simp; done) | (simp; omega)), .inr rfl, Nat.le_of_ble_eq_true rfl⟩ | exact .inl ⟨rfl, rfl, rfl, (by first | omega | (simp; done) | (simp; omega)), (by first | omega | (simp; done) | (simp; omega)), (by first | omega | (simp; done) | (simp; omega)), .inl rfl, Nat.le_of_ble_eq_true rfl⟩ | exact fun h => h | refine ⟨?_, ?_, ?_, .inl ?_⟩ | refine ⟨?_, ?_⟩ | refine fun ii hii => ?_ | omega | fail)
end Go.Proofs.Ytilmfhpoiejmfaa.Gk
