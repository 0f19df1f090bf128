/- The laws of the log: LogBack. By this session. -/
import Derived.Test.YtilmfhpoiejmfaaGya
import Derived.Test.YtilmfhpoiejmfaaHu
import Derived.Test.YtilmfhpoiejmfaaGdb
namespace Go.Proofs.Ytilmfhpoiejmfaa.Gk
open Go.Proofs.Ytilmfhpoiejmfaa.Lh Go.RowKit Go.Proofs.Ytilmfhpoiejmfaa.Lg Go.Proofs.Ytilmfhpoiejmfaa.Gdk
open Go.Proofs.Ytilmfhpoiejmfaa.Dk (Disk Sec nought diskR wrE wrD wrS flE flD flushed rdE crashed picked fresh new_ok' New_err crash' keepQ boolS Inv Inv_fresh Inv_crashed)
set_option maxRecDepth 100000
set_option linter.unusedSimpArgs false
set_option linter.unusedSectionVars false
set_option linter.unusedVariables false
variable [Fz]
set_option maxHeartbeats 1000000 in
theorem LogBack (a : List Lg.Bs) (ha : a.length ≤ 140737488351232) (hs : ∀ i, (a.getD i []).length ≤ 140737488351232) (ep other : Nat) (hep : ep < 4294967296) (ho : other < 4294967296) : LCalls Try.prog 9 (.cons (strsV a) (.cons (wN ep) (.cons (wN other) .nil))) [] (fun e h' => e = .ret (.bool true) ∧ h' = []) := by
  unfold wN
  refine LCalls.tell ?_; refine enter9 rfl ?_; conv => whnf
  refine LCalls.use awake [] rfl rfl trivial ?_
  rintro _ _ ⟨rfl, rfl⟩
  conv => whnf
  refine LCalls.use (new_ok' 300 (by omega) (by omega)) [] rfl rfl trivial ?_
  rintro _ _ ⟨τ, rfl, rfl⟩
  conv => whnf
  have d0 := fresh_dead (n := 300) (first := 50) (count := 200) (ep := ep) (by omega) (by omega) (by omega) hep
  obtain ⟨y, L0, F, q0, e1, a1, a2, a3, a4, a5, a6, a7, a8, a9, l0⟩ := d0.opens_up (by omega) (by omega) (Up.fresh 300)
  have s0 := St_fresh (n := 300) (by omega)
  have hF : ∀ p, 1 ≤ p → rightB (F p) = false := fun p hp => by
    rw [a7]
    show rightB (cF y.now 50 200 p) = false
    rw [a8 p hp, fresh_cF, zF_wrong]
  refine LCalls.use (OpenOk τ (fresh 300) s0 ((50 : Nat) : Int) ((200 : Nat) : Int) ep hep (by simp [fresh]) e1) [0] rfl rfl ⟨rfl, trivial⟩ ?_
  rintro _ _ ⟨rfl, rfl⟩
  conv => whnf
  refine Loop.inv (lwp_mono _) (fun m t1 h => ∃ (i : Nat) (x : Disk) (L : LgS) (R : List Lg.Bs), i ≤ 100 ∧ Live x L F q0 [] R [] q0 0 ∧ Up x ∧ L.first = 50 ∧ L.count = 200 ∧ L.epoch = ep ∧ L.life = 1 ∧ x.pend.length ≤ 42 * i ∧ R.length ≤ i ∧ m = 100 - i ∧ t1 = [strsV a, .int .u32 (ep : Int), .int .u32 (other : Int), .any, .any, .any, .any, .bool true, .tok τ, .any, .ptr ⟨1, [], 0⟩, .any, .any, .slice ⟨2, [], 0⟩ 0 1 R.length R.length none, .int .i64 (i : Int), .any, .any, .any, .any, .any, .any, .any, .any, .any, .any, .any, .any, .any, .any, .any, .any, .any, .any, .any, .any, .any, .any, .any, .any, .any, .any, .any, .any, .any, .any, .any, .any, .any, .any, .any, .any, .any, .any, .any, .any, .any, .any, .any, .any, .any, .any, .any, .any, .any, .any, .any, .any, .any, .any, .any, .any, .any, .any, .any, .any, .any, .any, .any, .any, .any, .any, .any, .any, .any, .any, .any, .any, .any, .any, .any, .any, .any, .any, .any, .any, .any, .any, .any, .any, .any, .any, .any, .any, .any, .any, .any, .any, .any, .any, .any, .any, .any, .any, .any, .any, .any, .any, .any, .any, .any, .any, .any, .any, .any, .any, .any, .any, .any, .any, .any, .any, .any, .any, .any, .any, .any, .any, .any, .any, .any, .any, .any, .any, .any, .any, .any, .any, .any, .any, .any, .any, .any, .any, .any, .any, .any] ∧ h = [diskR τ x, lgO τ L, strO R]) ?_ ?_
  · refine ⟨_, _, _, ⟨[], trivial, [0, 1, 98], rfl, rfl, ?_, ?_⟩, 0, y, L0, [], by omega, l0, a6, a1, a2, a3, a4, by rw [a5]; decide, Nat.le_refl _, rfl, rfl, rfl⟩
    · (repeat' first | exact trivial | exact rfl | exact Nat.le_of_ble_eq_true rfl | exact Nat.le_refl _ | exact .inl ⟨rfl, rfl, rfl, rfl, Nat.le_refl _, Nat.le_refl _, .inr rfl, Nat.le_of_ble_eq_true rfl⟩ | exact .inl ⟨rfl, rfl, rfl, rfl, Nat.le_refl _, Nat.le_refl _, .inl rfl, Nat.le_of_ble_eq_true rfl⟩ | exact .inr ⟨rfl, rfl, rfl, rfl, rfl⟩ | exact .inl ⟨rfl, rfl, rfl, (by first | omega | (simp; done) | (simp; omega)), (by first | omega | (simp; done) | (simp; omega)), (by first | omega | (simp; done) | (simp; omega)), .inr rfl, Nat.le_of_ble_eq_true rfl⟩ | exact .inl ⟨rfl, rfl, rfl, (by first | omega | (simp; done) | (simp; omega)), (by first | omega | (simp; done) | (simp; omega)), (by first | omega | (simp; done) | (simp; omega)), .inl rfl, Nat.le_of_ble_eq_true rfl⟩ | exact fun h => h | refine ⟨?_, ?_, ?_, .inl ?_⟩ | refine ⟨?_, ?_⟩ | refine fun ii hii => ?_ | omega | fail)
    · (repeat' first | exact trivial | exact rfl | exact Nat.le_of_ble_eq_true rfl | exact Nat.le_refl _ | exact .inl ⟨rfl, rfl, rfl, rfl, Nat.le_refl _, Nat.le_refl _, .inr rfl, Nat.le_of_ble_eq_true rfl⟩ | exact .inl ⟨rfl, rfl, rfl, rfl, Nat.le_refl _, Nat.le_refl _, .inl rfl, Nat.le_of_ble_eq_true rfl⟩ | exact .inr ⟨rfl, rfl, rfl, rfl, rfl⟩ | exact .inl ⟨rfl, rfl, rfl, (by first | omega | (simp; done) | (simp; omega)), (by first | omega | (simp; done) | (simp; omega)), (by first | omega | (simp; done) | (simp; omega)), .inr rfl, Nat.le_of_ble_eq_true rfl⟩ | exact .inl ⟨rfl, rfl, rfl, (by first | omega | (simp; done) | (simp; omega)), (by first | omega | (simp; done) | (simp; omega)), (by first | omega | (simp; done) | (simp; omega)), .inl rfl, Nat.le_of_ble_eq_true rfl⟩ | exact fun h => h | refine ⟨?_, ?_, ?_, .inl ?_⟩ | refine ⟨?_, ?_⟩ | refine fun ii hii => ?_ | omega | fail)
      all_goals exact ⟨rfl, trivial⟩
  · rintro m _ _ ⟨i, x, L, R, hi, lv, ux, hf, hc, he, hli, hp, hR, rfl, rfl, rfl⟩
    conv => whnf
    by_cases h3 : i < a.length
    case neg =>
      rewrite [show decide ((i : Int) < (a.length : Int)) = false from decide_eq_false (by omega)]
      conv => whnf
      refine LCalls.use (Sync τ x lv.st.inv L) [0, 1] rfl rfl ⟨rfl, rfl, trivial⟩ ?_
      rintro _ _ ⟨rfl, rfl⟩
      conv => whnf
      rewrite [flE_up ux]
      obtain ⟨y1, L1, o1, st0, st1, pe1, y2, L2, S2, o2, hS2⟩ := back_end lv ux hF (by omega) (keepQ 3 tt3) other ho
      rw [hf, hc, he] at o1
      rw [hf, hc] at o2
      refine LCalls.use (crash3 τ (flD x) (St_flD lv.st).inv) [0, 3] rfl rfl ⟨rfl, (congrArg some (o3t_ren _)).symm, trivial⟩ ?_
      rintro _ _ ⟨rfl, rfl⟩
      conv => whnf
      refine LCalls.use (OpenOk τ _ st0 ((50 : Nat) : Int) ((200 : Nat) : Int) ep hep (by show 0 + 1 < 1000000; decide) o1) [0] rfl rfl ⟨rfl, trivial⟩ ?_
      rintro _ _ ⟨rfl, rfl⟩
      conv => whnf
      refine LCalls.use (TextsO R (by omega)) [2] rfl rfl ⟨rfl, trivial⟩ ?_
      rintro _ _ ⟨rfl, rfl⟩
      conv => whnf
      refine LCalls.use (OpenOk τ y1 st1 ((50 : Nat) : Int) ((200 : Nat) : Int) other ho (by rw [pe1]; decide) o2) [0] rfl rfl ⟨rfl, trivial⟩ ?_
      rintro _ _ ⟨rfl, rfl⟩
      conv => whnf
      by_cases heo : ep = other
      · rewrite [show ((ep : Int) == (other : Int)) = true from beq_iff_eq.2 (by omega)]
        conv => whnf
        refine ⟨[], _, _, rfl, rfl, ?_, ?_, rfl, rfl⟩
        · (repeat' first | exact trivial | exact rfl | exact Nat.le_of_ble_eq_true rfl | exact Nat.le_refl _ | exact .inl ⟨rfl, rfl, rfl, rfl, Nat.le_refl _, Nat.le_refl _, .inr rfl, Nat.le_of_ble_eq_true rfl⟩ | exact .inl ⟨rfl, rfl, rfl, rfl, Nat.le_refl _, Nat.le_refl _, .inl rfl, Nat.le_of_ble_eq_true rfl⟩ | exact .inr ⟨rfl, rfl, rfl, rfl, rfl⟩ | exact .inl ⟨rfl, rfl, rfl, (by first | omega | (simp; done) | (simp; omega)), (by first | omega | (simp; done) | (simp; omega)), (by first | omega | (simp; done) | (simp; omega)), .inr rfl, Nat.le_of_ble_eq_true rfl⟩ | exact .inl ⟨rfl, rfl, rfl, (by first | omega | (simp; done) | (simp; omega)), (by first | omega | (simp; done) | (simp; omega)), (by first | omega | (simp; done) | (simp; omega)), .inl rfl, Nat.le_of_ble_eq_true rfl⟩ | exact fun h => h | refine ⟨?_, ?_, ?_, .inl ?_⟩ | refine ⟨?_, ?_⟩ | refine fun ii hii => ?_ | omega | fail)
        · (repeat' first | exact trivial | exact rfl | exact Nat.le_of_ble_eq_true rfl | exact Nat.le_refl _ | exact .inl ⟨rfl, rfl, rfl, rfl, Nat.le_refl _, Nat.le_refl _, .inr rfl, Nat.le_of_ble_eq_true rfl⟩ | exact .inl ⟨rfl, rfl, rfl, rfl, Nat.le_refl _, Nat.le_refl _, .inl rfl, Nat.le_of_ble_eq_true rfl⟩ | exact .inr ⟨rfl, rfl, rfl, rfl, rfl⟩ | exact .inl ⟨rfl, rfl, rfl, (by first | omega | (simp; done) | (simp; omega)), (by first | omega | (simp; done) | (simp; omega)), (by first | omega | (simp; done) | (simp; omega)), .inr rfl, Nat.le_of_ble_eq_true rfl⟩ | exact .inl ⟨rfl, rfl, rfl, (by first | omega | (simp; done) | (simp; omega)), (by first | omega | (simp; done) | (simp; omega)), (by first | omega | (simp; done) | (simp; omega)), .inl rfl, Nat.le_of_ble_eq_true rfl⟩ | exact fun h => h | refine ⟨?_, ?_, ?_, .inl ?_⟩ | refine ⟨?_, ?_⟩ | refine fun ii hii => ?_ | omega | fail)
      · rewrite [show ((ep : Int) == (other : Int)) = false from beq_eq_false_iff_ne.2 (by omega)]
        obtain rfl : S2 = [] := hS2.resolve_left (by rw [he]; exact heo)
        conv => whnf
        refine ⟨[], _, _, rfl, rfl, ?_, ?_, rfl, rfl⟩
        · (repeat' first | exact trivial | exact rfl | exact Nat.le_of_ble_eq_true rfl | exact Nat.le_refl _ | exact .inl ⟨rfl, rfl, rfl, rfl, Nat.le_refl _, Nat.le_refl _, .inr rfl, Nat.le_of_ble_eq_true rfl⟩ | exact .inl ⟨rfl, rfl, rfl, rfl, Nat.le_refl _, Nat.le_refl _, .inl rfl, Nat.le_of_ble_eq_true rfl⟩ | exact .inr ⟨rfl, rfl, rfl, rfl, rfl⟩ | exact .inl ⟨rfl, rfl, rfl, (by first | omega | (simp; done) | (simp; omega)), (by first | omega | (simp; done) | (simp; omega)), (by first | omega | (simp; done) | (simp; omega)), .inr rfl, Nat.le_of_ble_eq_true rfl⟩ | exact .inl ⟨rfl, rfl, rfl, (by first | omega | (simp; done) | (simp; omega)), (by first | omega | (simp; done) | (simp; omega)), (by first | omega | (simp; done) | (simp; omega)), .inl rfl, Nat.le_of_ble_eq_true rfl⟩ | exact fun h => h | refine ⟨?_, ?_, ?_, .inl ?_⟩ | refine ⟨?_, ?_⟩ | refine fun ii hii => ?_ | omega | fail)
        · (repeat' first | exact trivial | exact rfl | exact Nat.le_of_ble_eq_true rfl | exact Nat.le_refl _ | exact .inl ⟨rfl, rfl, rfl, rfl, Nat.le_refl _, Nat.le_refl _, .inr rfl, Nat.le_of_ble_eq_true rfl⟩ | exact .inl ⟨rfl, rfl, rfl, rfl, Nat.le_refl _, Nat.le_refl _, .inl rfl, Nat.le_of_ble_eq_true rfl⟩ | exact .inr ⟨rfl, rfl, rfl, rfl, rfl⟩ | exact .inl ⟨rfl, rfl, rfl, (by first | omega | (simp; done) | (simp; omega)), (by first | omega | (simp; done) | (simp; omega)), (by first | omega | (simp; done) | (simp; omega)), .inr rfl, Nat.le_of_ble_eq_true rfl⟩ | exact .inl ⟨rfl, rfl, rfl, (by first | omega | (simp; done) | (simp; omega)), (by first | omega | (simp; done) | (simp; omega)), (by first | omega | (simp; done) | (simp; omega)), .inl rfl, Nat.le_of_ble_eq_true rfl⟩ | exact fun h => h | refine ⟨?_, ?_, ?_, .inl ?_⟩ | refine ⟨?_, ?_⟩ | refine fun ii hii => ?_ | omega | fail)
    rewrite [show decide ((i : Int) < (a.length : Int)) = true from decide_eq_true (by omega)]
    conv => whnf
    by_cases h4 : i < 100
    case neg =>
      rewrite [show decide ((i : Int) < 100) = false from decide_eq_false (by omega)]
      conv => whnf
      refine LCalls.use (Sync τ x lv.st.inv L) [0, 1] rfl rfl ⟨rfl, rfl, trivial⟩ ?_
      rintro _ _ ⟨rfl, rfl⟩
      conv => whnf
      rewrite [flE_up ux]
      obtain ⟨y1, L1, o1, st0, st1, pe1, y2, L2, S2, o2, hS2⟩ := back_end lv ux hF (by omega) (keepQ 3 tt3) other ho
      rw [hf, hc, he] at o1
      rw [hf, hc] at o2
      refine LCalls.use (crash3 τ (flD x) (St_flD lv.st).inv) [0, 3] rfl rfl ⟨rfl, (congrArg some (o3t_ren _)).symm, trivial⟩ ?_
      rintro _ _ ⟨rfl, rfl⟩
      conv => whnf
      refine LCalls.use (OpenOk τ _ st0 ((50 : Nat) : Int) ((200 : Nat) : Int) ep hep (by show 0 + 1 < 1000000; decide) o1) [0] rfl rfl ⟨rfl, trivial⟩ ?_
      rintro _ _ ⟨rfl, rfl⟩
      conv => whnf
      refine LCalls.use (TextsO R (by omega)) [2] rfl rfl ⟨rfl, trivial⟩ ?_
      rintro _ _ ⟨rfl, rfl⟩
      conv => whnf
      refine LCalls.use (OpenOk τ y1 st1 ((50 : Nat) : Int) ((200 : Nat) : Int) other ho (by rw [pe1]; decide) o2) [0] rfl rfl ⟨rfl, trivial⟩ ?_
      rintro _ _ ⟨rfl, rfl⟩
      conv => whnf
      by_cases heo : ep = other
      · rewrite [show ((ep : Int) == (other : Int)) = true from beq_iff_eq.2 (by omega)]
        conv => whnf
        refine ⟨[], _, _, rfl, rfl, ?_, ?_, rfl, rfl⟩
        · (repeat' first | exact trivial | exact rfl | exact Nat.le_of_ble_eq_true rfl | exact Nat.le_refl _ | exact .inl ⟨rfl, rfl, rfl, rfl, Nat.le_refl _, Nat.le_refl _, .inr rfl, Nat.le_of_ble_eq_true rfl⟩ | exact .inl ⟨rfl, rfl, rfl, rfl, Nat.le_refl _, Nat.le_refl _, .inl rfl, Nat.le_of_ble_eq_true rfl⟩ | exact .inr ⟨rfl, rfl, rfl, rfl, rfl⟩ | exact .inl ⟨rfl, rfl, rfl, (by first | omega | (simp; done) | (simp; omega)), (by first | omega | (simp; done) | (simp; omega)), (by first | omega | (simp; done) | (simp; omega)), .inr rfl, Nat.le_of_ble_eq_true rfl⟩ | exact .inl ⟨rfl, rfl, rfl, (by first | omega | (simp; done) | (simp; omega)), (by first | omega | (simp; done) | (simp; omega)), (by first | omega | (simp; done) | (simp; omega)), .inl rfl, Nat.le_of_ble_eq_true rfl⟩ | exact fun h => h | refine ⟨?_, ?_, ?_, .inl ?_⟩ | refine ⟨?_, ?_⟩ | refine fun ii hii => ?_ | omega | fail)
        · (repeat' first | exact trivial | exact rfl | exact Nat.le_of_ble_eq_true rfl | exact Nat.le_refl _ | exact .inl ⟨rfl, rfl, rfl, rfl, Nat.le_refl _, Nat.le_refl _, .inr rfl, Nat.le_of_ble_eq_true rfl⟩ | exact .inl ⟨rfl, rfl, rfl, rfl, Nat.le_refl _, Nat.le_refl _, .inl rfl, Nat.le_of_ble_eq_true rfl⟩ | exact .inr ⟨rfl, rfl, rfl, rfl, rfl⟩ | exact .inl ⟨rfl, rfl, rfl, (by first | omega | (simp; done) | (simp; omega)), (by first | omega | (simp; done) | (simp; omega)), (by first | omega | (simp; done) | (simp; omega)), .inr rfl, Nat.le_of_ble_eq_true rfl⟩ | exact .inl ⟨rfl, rfl, rfl, (by first | omega | (simp; done) | (simp; omega)), (by first | omega | (simp; done) | (simp; omega)), (by first | omega | (simp; done) | (simp; omega)), .inl rfl, Nat.le_of_ble_eq_true rfl⟩ | exact fun h => h | refine ⟨?_, ?_, ?_, .inl ?_⟩ | refine ⟨?_, ?_⟩ | refine fun ii hii => ?_ | omega | fail)
      · rewrite [show ((ep : Int) == (other : Int)) = false from beq_eq_false_iff_ne.2 (by omega)]
        obtain rfl : S2 = [] := hS2.resolve_left (by rw [he]; exact heo)
        conv => whnf
        refine ⟨[], _, _, rfl, rfl, ?_, ?_, rfl, rfl⟩
        · (repeat' first | exact trivial | exact rfl | exact Nat.le_of_ble_eq_true rfl | exact Nat.le_refl _ | exact .inl ⟨rfl, rfl, rfl, rfl, Nat.le_refl _, Nat.le_refl _, .inr rfl, Nat.le_of_ble_eq_true rfl⟩ | exact .inl ⟨rfl, rfl, rfl, rfl, Nat.le_refl _, Nat.le_refl _, .inl rfl, Nat.le_of_ble_eq_true rfl⟩ | exact .inr ⟨rfl, rfl, rfl, rfl, rfl⟩ | exact .inl ⟨rfl, rfl, rfl, (by first | omega | (simp; done) | (simp; omega)), (by first | omega | (simp; done) | (simp; omega)), (by first | omega | (simp; done) | (simp; omega)), .inr rfl, Nat.le_of_ble_eq_true rfl⟩ | exact .inl ⟨rfl, rfl, rfl, (by first | omega | (simp; done) | (simp; omega)), (by first | omega | (simp; done) | (simp; omega)), (by first | omega | (simp; done) | (simp; omega)), .inl rfl, Nat.le_of_ble_eq_true rfl⟩ | exact fun h => h | refine ⟨?_, ?_, ?_, .inl ?_⟩ | refine ⟨?_, ?_⟩ | refine fun ii hii => ?_ | omega | fail)
        · (repeat' first | exact trivial | exact rfl | exact Nat.le_of_ble_eq_true rfl | exact Nat.le_refl _ | exact .inl ⟨rfl, rfl, rfl, rfl, Nat.le_refl _, Nat.le_refl _, .inr rfl, Nat.le_of_ble_eq_true rfl⟩ | exact .inl ⟨rfl, rfl, rfl, rfl, Nat.le_refl _, Nat.le_refl _, .inl rfl, Nat.le_of_ble_eq_true rfl⟩ | exact .inr ⟨rfl, rfl, rfl, rfl, rfl⟩ | exact .inl ⟨rfl, rfl, rfl, (by first | omega | (simp; done) | (simp; omega)), (by first | omega | (simp; done) | (simp; omega)), (by first | omega | (simp; done) | (simp; omega)), .inr rfl, Nat.le_of_ble_eq_true rfl⟩ | exact .inl ⟨rfl, rfl, rfl, (by first | omega | (simp; done) | (simp; omega)), (by first | omega | (simp; done) | (simp; omega)), (by first | omega | (simp; done) | (simp; omega)), .inl rfl, Nat.le_of_ble_eq_true rfl⟩ | exact fun h => h | refine ⟨?_, ?_, ?_, .inl ?_⟩ | refine ⟨?_, ?_⟩ | refine fun ii hii => ?_ | omega | fail)
    rewrite [show decide ((i : Int) < 100) = true from decide_eq_true (by omega)]
    conv => whnf
    have ok := lv.ok
    refine LCalls.use (Room τ L ok) [1] rfl rfl ⟨rfl, trivial⟩ ?_
    rintro _ _ ⟨rfl, rfl⟩
    conv => whnf
    refine ⟨⟨by omega, by omega⟩, ?_⟩
    rewrite [Int.toNat_natCast]
    conv => whnf
    have hb := hs i
    obtain ⟨b, hbd⟩ : ∃ b, b = a.getD i [] := ⟨_, rfl⟩
    rw [← hbd] at hb
    rewrite [show a.getD i [] = b from hbd.symm]
    have hsz : (bs (a.getD i [])).size = b.length := by rw [hbd]; rfl
    have AO := app_ok lv.st ok b (by omega)
    rcases lv.appends_up ux b (by omega) with ⟨e2, h5⟩ | ⟨e2, h5, h6⟩ | ⟨x2, e2, h5, h6, u2, lv2⟩
    · -- too long
      refine LCalls.use (AppE τ x L ok b (by omega) (by omega) e2) [0, 1] rfl rfl ⟨rfl, rfl, trivial⟩ ?_
      rintro _ _ ⟨rfl, rfl⟩
      conv => whnf
      refine ⟨⟨by omega, by omega⟩, ?_⟩
      rewrite [Int.toNat_natCast]
      conv => whnf
      rewrite [hsz, show decide ((b.length : Int) > 2000) = true from decide_eq_true (by omega)]
      conv => whnf
      rewrite [w64 (n := (i : Int) + 1) (by omega)]
      refine ⟨_, _, _, ?_, ⟨[], trivial, [0, 1, 2], rfl, rfl, ?_, ?_⟩, i + 1, x, L, R, by omega, lv, ux, hf, hc, he, hli, by omega, by omega, rfl, rfl, rfl⟩
      · omega
      · (repeat' first | exact trivial | exact rfl | exact Nat.le_of_ble_eq_true rfl | exact Nat.le_refl _ | exact .inl ⟨rfl, rfl, rfl, rfl, Nat.le_refl _, Nat.le_refl _, .inr rfl, Nat.le_of_ble_eq_true rfl⟩ | exact .inl ⟨rfl, rfl, rfl, rfl, Nat.le_refl _, Nat.le_refl _, .inl rfl, Nat.le_of_ble_eq_true rfl⟩ | exact .inr ⟨rfl, rfl, rfl, rfl, rfl⟩ | exact .inl ⟨rfl, rfl, rfl, (by first | omega | (simp; done) | (simp; omega)), (by first | omega | (simp; done) | (simp; omega)), (by first | omega | (simp; done) | (simp; omega)), .inr rfl, Nat.le_of_ble_eq_true rfl⟩ | exact .inl ⟨rfl, rfl, rfl, (by first | omega | (simp; done) | (simp; omega)), (by first | omega | (simp; done) | (simp; omega)), (by first | omega | (simp; done) | (simp; omega)), .inl rfl, Nat.le_of_ble_eq_true rfl⟩ | exact fun h => h | refine ⟨?_, ?_, ?_, .inl ?_⟩ | refine ⟨?_, ?_⟩ | refine fun ii hii => ?_ | omega | fail)
      · (repeat' first | exact trivial | exact rfl | exact Nat.le_of_ble_eq_true rfl | exact Nat.le_refl _ | exact .inl ⟨rfl, rfl, rfl, rfl, Nat.le_refl _, Nat.le_refl _, .inr rfl, Nat.le_of_ble_eq_true rfl⟩ | exact .inl ⟨rfl, rfl, rfl, rfl, Nat.le_refl _, Nat.le_refl _, .inl rfl, Nat.le_of_ble_eq_true rfl⟩ | exact .inr ⟨rfl, rfl, rfl, rfl, rfl⟩ | exact .inl ⟨rfl, rfl, rfl, (by first | omega | (simp; done) | (simp; omega)), (by first | omega | (simp; done) | (simp; omega)), (by first | omega | (simp; done) | (simp; omega)), .inr rfl, Nat.le_of_ble_eq_true rfl⟩ | exact .inl ⟨rfl, rfl, rfl, (by first | omega | (simp; done) | (simp; omega)), (by first | omega | (simp; done) | (simp; omega)), (by first | omega | (simp; done) | (simp; omega)), .inl rfl, Nat.le_of_ble_eq_true rfl⟩ | exact fun h => h | refine ⟨?_, ?_, ?_, .inl ?_⟩ | refine ⟨?_, ?_⟩ | refine fun ii hii => ?_ | omega | fail)
    · -- no room
      refine LCalls.use (AppE τ x L ok b (by omega) (by omega) e2) [0, 1] rfl rfl ⟨rfl, rfl, trivial⟩ ?_
      rintro _ _ ⟨rfl, rfl⟩
      conv => whnf
      refine ⟨⟨by omega, by omega⟩, ?_⟩
      rewrite [Int.toNat_natCast]
      conv => whnf
      rewrite [hsz, show decide ((b.length : Int) > 2000) = false from decide_eq_false (by omega)]
      conv => whnf
      refine ⟨⟨by omega, by omega⟩, ?_⟩
      rewrite [Int.toNat_natCast]
      conv => whnf
      rewrite [hsz]
      refine LCalls.use (rSectors b.length (by omega)) [] rfl rfl trivial ?_
      rintro _ _ ⟨rfl, rfl⟩
      conv => whnf
      rewrite [show decide ((secN b.length : Int) ≤ ((L.count - L.next : Nat) : Int)) = false from decide_eq_false (by omega)]
      conv => whnf
      rewrite [w64 (n := (i : Int) + 1) (by omega)]
      refine ⟨_, _, _, ?_, ⟨[], trivial, [0, 1, 2], rfl, rfl, ?_, ?_⟩, i + 1, x, L, R, by omega, lv, ux, hf, hc, he, hli, by omega, by omega, rfl, rfl, rfl⟩
      · omega
      · (repeat' first | exact trivial | exact rfl | exact Nat.le_of_ble_eq_true rfl | exact Nat.le_refl _ | exact .inl ⟨rfl, rfl, rfl, rfl, Nat.le_refl _, Nat.le_refl _, .inr rfl, Nat.le_of_ble_eq_true rfl⟩ | exact .inl ⟨rfl, rfl, rfl, rfl, Nat.le_refl _, Nat.le_refl _, .inl rfl, Nat.le_of_ble_eq_true rfl⟩ | exact .inr ⟨rfl, rfl, rfl, rfl, rfl⟩ | exact .inl ⟨rfl, rfl, rfl, (by first | omega | (simp; done) | (simp; omega)), (by first | omega | (simp; done) | (simp; omega)), (by first | omega | (simp; done) | (simp; omega)), .inr rfl, Nat.le_of_ble_eq_true rfl⟩ | exact .inl ⟨rfl, rfl, rfl, (by first | omega | (simp; done) | (simp; omega)), (by first | omega | (simp; done) | (simp; omega)), (by first | omega | (simp; done) | (simp; omega)), .inl rfl, Nat.le_of_ble_eq_true rfl⟩ | exact fun h => h | refine ⟨?_, ?_, ?_, .inl ?_⟩ | refine ⟨?_, ?_⟩ | refine fun ii hii => ?_ | omega | fail)
      · (repeat' first | exact trivial | exact rfl | exact Nat.le_of_ble_eq_true rfl | exact Nat.le_refl _ | exact .inl ⟨rfl, rfl, rfl, rfl, Nat.le_refl _, Nat.le_refl _, .inr rfl, Nat.le_of_ble_eq_true rfl⟩ | exact .inl ⟨rfl, rfl, rfl, rfl, Nat.le_refl _, Nat.le_refl _, .inl rfl, Nat.le_of_ble_eq_true rfl⟩ | exact .inr ⟨rfl, rfl, rfl, rfl, rfl⟩ | exact .inl ⟨rfl, rfl, rfl, (by first | omega | (simp; done) | (simp; omega)), (by first | omega | (simp; done) | (simp; omega)), (by first | omega | (simp; done) | (simp; omega)), .inr rfl, Nat.le_of_ble_eq_true rfl⟩ | exact .inl ⟨rfl, rfl, rfl, (by first | omega | (simp; done) | (simp; omega)), (by first | omega | (simp; done) | (simp; omega)), (by first | omega | (simp; done) | (simp; omega)), .inl rfl, Nat.le_of_ble_eq_true rfl⟩ | exact fun h => h | refine ⟨?_, ?_, ?_, .inl ?_⟩ | refine ⟨?_, ?_⟩ | refine fun ii hii => ?_ | omega | fail)
    · -- well
      have AO3 := AO.pend
      rw [e2] at AO3
      dsimp only at AO3
      obtain ⟨Ln, hLn⟩ : ∃ Ln : LgS, Ln = { L with next := L.next + secN b.length } := ⟨_, rfl⟩
      have g1 : Ln.first = 50 := by rw [hLn]; exact hf
      have g2 : Ln.count = 200 := by rw [hLn]; exact hc
      have g3 : Ln.epoch = ep := by rw [hLn]; exact he
      have g4 : Ln.life = 1 := by rw [hLn]; exact hli
      rw [← hLn] at e2 lv2
      refine LCalls.use (AppE τ x L ok b (by omega) (by omega) e2) [0, 1] rfl rfl ⟨rfl, rfl, trivial⟩ ?_
      rintro _ _ ⟨rfl, rfl⟩
      conv => whnf
      refine ⟨⟨by omega, by omega⟩, ?_⟩
      rewrite [Int.toNat_natCast]
      conv => whnf
      rewrite [hsz, show decide ((b.length : Int) > 2000) = false from decide_eq_false (by omega)]
      conv => whnf
      refine ⟨⟨by omega, by omega⟩, ?_⟩
      rewrite [Int.toNat_natCast]
      conv => whnf
      rewrite [hsz]
      refine LCalls.use (rSectors b.length (by omega)) [] rfl rfl trivial ?_
      rintro _ _ ⟨rfl, rfl⟩
      conv => whnf
      rewrite [show decide ((secN b.length : Int) ≤ ((L.count - L.next : Nat) : Int)) = true from decide_eq_true (by omega)]
      conv => whnf
      refine ⟨⟨by omega, by omega⟩, ?_⟩
      rewrite [Int.toNat_natCast]
      conv => whnf
      refine ⟨by first | omega | (dsimp only; omega), ?_⟩
      conv => whnf
      refine ⟨by first | omega | (dsimp only; omega), ?_⟩
      conv => whnf
      rewrite [show a.getD i [] = b from hbd.symm, w64 (n := (i : Int) + 1) (by omega)]
      have hrl1 : (R ++ [b]).length = R.length + 1 := by simp
      have recRow := rec_row R b
      refine ⟨_, _, _, ?_, ⟨[], trivial, [0, 1, 4], rfl, rfl, ?_, ?_⟩, i + 1, x2, Ln, R ++ [b], by omega, lv2, u2, g1, g2, g3, g4, by omega, by omega, rfl, rfl, rfl⟩
      · omega
      · (repeat' first | exact trivial | exact rfl | exact Nat.le_of_ble_eq_true rfl | exact Nat.le_refl _ | exact .inl ⟨rfl, rfl, rfl, rfl, Nat.le_refl _, Nat.le_refl _, .inr rfl, Nat.le_of_ble_eq_true rfl⟩ | exact .inl ⟨rfl, rfl, rfl, rfl, Nat.le_refl _, Nat.le_refl _, .inl rfl, Nat.le_of_ble_eq_true rfl⟩ | exact .inr ⟨rfl, rfl, rfl, rfl, rfl⟩ | exact .inl ⟨rfl, rfl, rfl, (by first | omega | (simp; done) | (simp; omega)), (by first | omega | (simp; done) | (simp; omega)), (by first | omega | (simp; done) | (simp; omega)), .inr rfl, Nat.le_of_ble_eq_true rfl⟩ | exact .inl ⟨rfl, rfl, rfl, (by first | omega | (simp; done) | (simp; omega)), (by first | omega | (simp; done) | (simp; omega)), (by first | omega | (simp; done) | (simp; omega)), .inl rfl, Nat.le_of_ble_eq_true rfl⟩ | exact fun h => h | refine ⟨?_, ?_, ?_, .inl ?_⟩ | refine ⟨?_, ?_⟩ | refine fun ii hii => ?_ | omega | fail)
        all_goals exact .inl ⟨rfl, rfl, rfl, hrl1.symm, (by dsimp only; omega), (by dsimp only; omega), .inl rfl, Nat.le_of_ble_eq_true rfl⟩
      · (repeat' first | exact trivial | exact rfl | exact Nat.le_of_ble_eq_true rfl | exact Nat.le_refl _ | exact .inl ⟨rfl, rfl, rfl, rfl, Nat.le_refl _, Nat.le_refl _, .inr rfl, Nat.le_of_ble_eq_true rfl⟩ | exact .inl ⟨rfl, rfl, rfl, rfl, Nat.le_refl _, Nat.le_refl _, .inl rfl, Nat.le_of_ble_eq_true rfl⟩ | exact .inr ⟨rfl, rfl, rfl, rfl, rfl⟩ | exact .inl ⟨rfl, rfl, rfl, (by first | omega | (simp; done) | (simp; omega)), (by first | omega | (simp; done) | (simp; omega)), (by first | omega | (simp; done) | (simp; omega)), .inr rfl, Nat.le_of_ble_eq_true rfl⟩ | exact .inl ⟨rfl, rfl, rfl, (by first | omega | (simp; done) | (simp; omega)), (by first | omega | (simp; done) | (simp; omega)), (by first | omega | (simp; done) | (simp; omega)), .inl rfl, Nat.le_of_ble_eq_true rfl⟩ | exact fun h => h | refine ⟨?_, ?_, ?_, .inl ?_⟩ | refine ⟨?_, ?_⟩ | refine fun ii hii => ?_ | omega | fail)
        all_goals first
          | exact hrl1.symm
          | exact recRow ii hii
end Go.Proofs.Ytilmfhpoiejmfaa.Gk
