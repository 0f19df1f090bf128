/- The laws of the disk: acts, the chapter's examples. By this session. -/
import Derived.Test.YtilmfhpoiejmfaaDu
namespace Go.Proofs.Ytilmfhpoiejmfaa.Dk
open Go.Proofs.Ytilmfhpoiejmfaa.Lh
set_option maxRecDepth 100000
set_option linter.unusedSimpArgs false
set_option linter.unusedSectionVars false
set_option linter.unusedVariables false
variable [Fz]
def run (x : Disk) (l : List Act) : Disk := l.foldl step x
theorem run_succ (x : Disk) (l : List Act) (k : Nat) (hk : k < l.length) : run x (l.take (k + 1)) = step (run x (l.take k)) (l.getD k default) := by
  unfold run
  rw [List.take_add_one, List.foldl_append, List.getD_eq_getElem?_getD, List.getElem?_eq_getElem hk]
  rfl
theorem run_ok {x : Disk} (h : Inv x) (l : List Act) : ∀ k, k + x.pend.length ≤ 1000000 → Inv (run x (l.take k)) ∧ (run x (l.take k)).pend.length ≤ k + x.pend.length ∧ (run x (l.take k)).now.length = x.now.length
  | 0, _ => ⟨h, by simp [run], rfl⟩
  | k + 1, hk => by
    obtain ⟨h1, h2, h3⟩ := run_ok h l k (by omega)
    by_cases c : k < l.length
    · rw [run_succ x l k c]
      have := step_pend (run x (l.take k)) (l.getD k default)
      exact ⟨Inv_step h1 _ (by omega), by omega, (step_len h1 _).trans h3⟩
    · rw [List.take_of_length_le (by omega)] at h1 h2 h3 ⊢
      exact ⟨h1, by omega, h3⟩
def actsV (l : List Act) : LVal := .rsl l.length 4 (fun i => actS (l.getD i default))
def ActsOk (l : List Act) : Prop := l.length ≤ 140737488351232 ∧ ∀ i, (l.getD i default).nb ≤ 140737488351232
def played (l : List Act) : Disk := run (fresh 4) (l.take (min l.length 200))
theorem Played (l : List Act) (ha : ActsOk l) : LCalls Try.prog 29 (.cons (.int .i64 4) (.cons (actsV l) .nil)) [] (fun e h' => ∃ τ σ, e = .ret (.tup (.cons (.tok τ) (.cons (.tok σ) .nil))) ∧ h' = [diskR τ (played l), refR σ (played l)]) := by
  obtain ⟨ha1, ha2⟩ := ha
  refine LCalls.tell ?_; refine enter29 rfl ?_; conv => whnf
  refine LCalls.use (new_ok' 4 (by omega) (by omega)) [] rfl rfl trivial ?_
  rintro _ _ ⟨τ, rfl, rfl⟩
  conv => whnf
  refine LCalls.use (rnew_ok' 4 (by omega) (by omega)) [] rfl rfl trivial ?_
  rintro _ _ ⟨σ, rfl, rfl⟩
  conv => whnf
  refine Loop.inv (lwp_mono _) (fun j t h => ∃ (k : Nat), k ≤ 200 ∧ k ≤ l.length ∧ j = 200 - k ∧ t = [.any, actsV l, .any, .any, .any, .any, .tok τ, .any, .tok σ, .any, .int .i64 k, .any, .any, .any, .any, .any, .any, .any, .any, .any, .any, .any, .any, .any, .any, .any, .any, .any, .any, .any, .any, .any, .any, .any, .any, .any, .any, .any, .any, .any, .any, .any, .any, .any, .any, .any, .any, .any] ∧ h = [diskR τ (run (fresh 4) (l.take k)), refR σ (run (fresh 4) (l.take k))]) ?_ ?_
  · refine ⟨_, _, _, ⟨[], trivial, [0, 1], rfl, rfl, ?_, ?_⟩, 0, by omega, Nat.zero_le _, rfl, rfl, rfl⟩
    · (repeat' first | exact trivial | exact rfl | exact Nat.le_of_ble_eq_true rfl | exact Nat.le_refl _ | exact .inl ⟨rfl, rfl, rfl, rfl, Nat.le_refl _, Nat.le_refl _, .inr rfl, Nat.le_of_ble_eq_true rfl⟩ | exact .inl ⟨rfl, rfl, rfl, rfl, Nat.le_refl _, Nat.le_refl _, .inl rfl, Nat.le_of_ble_eq_true rfl⟩ | exact .inr ⟨rfl, rfl, rfl, rfl, rfl⟩ | exact .inl ⟨rfl, rfl, rfl, (by first | omega | (simp; done) | (simp; omega)), (by first | omega | (simp; done) | (simp; omega)), (by first | omega | (simp; done) | (simp; omega)), .inr rfl, Nat.le_of_ble_eq_true rfl⟩ | exact .inl ⟨rfl, rfl, rfl, (by first | omega | (simp; done) | (simp; omega)), (by first | omega | (simp; done) | (simp; omega)), (by first | omega | (simp; done) | (simp; omega)), .inl rfl, Nat.le_of_ble_eq_true rfl⟩ | exact fun h => h | refine ⟨?_, ?_, ?_, .inl ?_⟩ | refine ⟨?_, ?_⟩ | refine fun ii hii => ?_ | omega | fail)
    · (repeat' first | exact trivial | exact rfl | exact Nat.le_of_ble_eq_true rfl | exact Nat.le_refl _ | exact .inl ⟨rfl, rfl, rfl, rfl, Nat.le_refl _, Nat.le_refl _, .inr rfl, Nat.le_of_ble_eq_true rfl⟩ | exact .inl ⟨rfl, rfl, rfl, rfl, Nat.le_refl _, Nat.le_refl _, .inl rfl, Nat.le_of_ble_eq_true rfl⟩ | exact .inr ⟨rfl, rfl, rfl, rfl, rfl⟩ | exact .inl ⟨rfl, rfl, rfl, (by first | omega | (simp; done) | (simp; omega)), (by first | omega | (simp; done) | (simp; omega)), (by first | omega | (simp; done) | (simp; omega)), .inr rfl, Nat.le_of_ble_eq_true rfl⟩ | exact .inl ⟨rfl, rfl, rfl, (by first | omega | (simp; done) | (simp; omega)), (by first | omega | (simp; done) | (simp; omega)), (by first | omega | (simp; done) | (simp; omega)), .inl rfl, Nat.le_of_ble_eq_true rfl⟩ | exact fun h => h | refine ⟨?_, ?_, ?_, .inl ?_⟩ | refine ⟨?_, ?_⟩ | refine fun ii hii => ?_ | omega | fail)
  · rintro j _ _ ⟨k, hk8, hk, rfl, rfl, rfl⟩
    have hok := run_ok (Inv_fresh 4) l k (by simp [fresh]; omega)
    rw [show (fresh 4).pend.length = 0 from rfl] at hok
    conv => whnf
    refine iteP_intro (fun hb => ?_) (fun hb => ?_)
    · rewrite [hb]
      have hb3 := of_decide_eq_true hb
      conv => whnf
      refine iteP_intro (fun hc => ?_) (fun hc => ?_)
      · rewrite [hc]
        have hc3 := of_decide_eq_true hc
        (conv => whnf); (repeat (refine And.intro (by first | omega | (dsimp only; omega)) ?_; conv => whnf))
        rewrite [show (k : Int).toNat = k by omega]
        refine LCalls.use (does τ σ (run (fresh 4) (l.take k)) hok.1 (l.getD k default) (by omega) (ha2 k)) [0, 1] rfl rfl ⟨rfl, rfl, trivial⟩ ?_
        rintro _ _ ⟨rfl, rfl⟩
        conv => whnf
        rewrite [wrapS (by omega), ← run_succ _ l k (by omega)]
        refine ⟨_, _, _, ?_, ⟨[], trivial, [0, 1], rfl, rfl, ?_, ?_⟩, k + 1, by omega, by omega, rfl, rfl, rfl⟩
        · omega
        · (repeat' first | exact trivial | exact rfl | exact Nat.le_of_ble_eq_true rfl | exact Nat.le_refl _ | exact .inl ⟨rfl, rfl, rfl, rfl, Nat.le_refl _, Nat.le_refl _, .inr rfl, Nat.le_of_ble_eq_true rfl⟩ | exact .inl ⟨rfl, rfl, rfl, rfl, Nat.le_refl _, Nat.le_refl _, .inl rfl, Nat.le_of_ble_eq_true rfl⟩ | exact .inr ⟨rfl, rfl, rfl, rfl, rfl⟩ | exact .inl ⟨rfl, rfl, rfl, (by first | omega | (simp; done) | (simp; omega)), (by first | omega | (simp; done) | (simp; omega)), (by first | omega | (simp; done) | (simp; omega)), .inr rfl, Nat.le_of_ble_eq_true rfl⟩ | exact .inl ⟨rfl, rfl, rfl, (by first | omega | (simp; done) | (simp; omega)), (by first | omega | (simp; done) | (simp; omega)), (by first | omega | (simp; done) | (simp; omega)), .inl rfl, Nat.le_of_ble_eq_true rfl⟩ | exact fun h => h | refine ⟨?_, ?_, ?_, .inl ?_⟩ | refine ⟨?_, ?_⟩ | refine fun ii hii => ?_ | omega | fail)
        · (repeat' first | exact trivial | exact rfl | exact Nat.le_of_ble_eq_true rfl | exact Nat.le_refl _ | exact .inl ⟨rfl, rfl, rfl, rfl, Nat.le_refl _, Nat.le_refl _, .inr rfl, Nat.le_of_ble_eq_true rfl⟩ | exact .inl ⟨rfl, rfl, rfl, rfl, Nat.le_refl _, Nat.le_refl _, .inl rfl, Nat.le_of_ble_eq_true rfl⟩ | exact .inr ⟨rfl, rfl, rfl, rfl, rfl⟩ | exact .inl ⟨rfl, rfl, rfl, (by first | omega | (simp; done) | (simp; omega)), (by first | omega | (simp; done) | (simp; omega)), (by first | omega | (simp; done) | (simp; omega)), .inr rfl, Nat.le_of_ble_eq_true rfl⟩ | exact .inl ⟨rfl, rfl, rfl, (by first | omega | (simp; done) | (simp; omega)), (by first | omega | (simp; done) | (simp; omega)), (by first | omega | (simp; done) | (simp; omega)), .inl rfl, Nat.le_of_ble_eq_true rfl⟩ | exact fun h => h | refine ⟨?_, ?_, ?_, .inl ?_⟩ | refine ⟨?_, ?_⟩ | refine fun ii hii => ?_ | omega | fail)
      · rewrite [hc]
        have hc3 := of_decide_eq_false hc
        have e : run (fresh 4) (l.take k) = played l := by
          unfold played
          congr 2
          omega
        rewrite [e]
        conv => whnf
        refine ⟨[0, 1], _, _, rfl, rfl, ?_, ?_, τ, σ, rfl, rfl⟩
        · (repeat' first | exact trivial | exact rfl | exact Nat.le_of_ble_eq_true rfl | exact Nat.le_refl _ | exact .inl ⟨rfl, rfl, rfl, rfl, Nat.le_refl _, Nat.le_refl _, .inr rfl, Nat.le_of_ble_eq_true rfl⟩ | exact .inl ⟨rfl, rfl, rfl, rfl, Nat.le_refl _, Nat.le_refl _, .inl rfl, Nat.le_of_ble_eq_true rfl⟩ | exact .inr ⟨rfl, rfl, rfl, rfl, rfl⟩ | exact .inl ⟨rfl, rfl, rfl, (by first | omega | (simp; done) | (simp; omega)), (by first | omega | (simp; done) | (simp; omega)), (by first | omega | (simp; done) | (simp; omega)), .inr rfl, Nat.le_of_ble_eq_true rfl⟩ | exact .inl ⟨rfl, rfl, rfl, (by first | omega | (simp; done) | (simp; omega)), (by first | omega | (simp; done) | (simp; omega)), (by first | omega | (simp; done) | (simp; omega)), .inl rfl, Nat.le_of_ble_eq_true rfl⟩ | exact fun h => h | refine ⟨?_, ?_, ?_, .inl ?_⟩ | refine ⟨?_, ?_⟩ | refine fun ii hii => ?_ | omega | fail)
        · (repeat' first | exact trivial | exact rfl | exact Nat.le_of_ble_eq_true rfl | exact Nat.le_refl _ | exact .inl ⟨rfl, rfl, rfl, rfl, Nat.le_refl _, Nat.le_refl _, .inr rfl, Nat.le_of_ble_eq_true rfl⟩ | exact .inl ⟨rfl, rfl, rfl, rfl, Nat.le_refl _, Nat.le_refl _, .inl rfl, Nat.le_of_ble_eq_true rfl⟩ | exact .inr ⟨rfl, rfl, rfl, rfl, rfl⟩ | exact .inl ⟨rfl, rfl, rfl, (by first | omega | (simp; done) | (simp; omega)), (by first | omega | (simp; done) | (simp; omega)), (by first | omega | (simp; done) | (simp; omega)), .inr rfl, Nat.le_of_ble_eq_true rfl⟩ | exact .inl ⟨rfl, rfl, rfl, (by first | omega | (simp; done) | (simp; omega)), (by first | omega | (simp; done) | (simp; omega)), (by first | omega | (simp; done) | (simp; omega)), .inl rfl, Nat.le_of_ble_eq_true rfl⟩ | exact fun h => h | refine ⟨?_, ?_, ?_, .inl ?_⟩ | refine ⟨?_, ?_⟩ | refine fun ii hii => ?_ | omega | fail)
    · rewrite [hb]
      have hb3 := of_decide_eq_false hb
      have e : run (fresh 4) (l.take k) = played l := by
        unfold played
        congr 2
        omega
      rewrite [e]
      conv => whnf
      refine ⟨[0, 1], _, _, rfl, rfl, ?_, ?_, τ, σ, rfl, rfl⟩
      · (repeat' first | exact trivial | exact rfl | exact Nat.le_of_ble_eq_true rfl | exact Nat.le_refl _ | exact .inl ⟨rfl, rfl, rfl, rfl, Nat.le_refl _, Nat.le_refl _, .inr rfl, Nat.le_of_ble_eq_true rfl⟩ | exact .inl ⟨rfl, rfl, rfl, rfl, Nat.le_refl _, Nat.le_refl _, .inl rfl, Nat.le_of_ble_eq_true rfl⟩ | exact .inr ⟨rfl, rfl, rfl, rfl, rfl⟩ | exact .inl ⟨rfl, rfl, rfl, (by first | omega | (simp; done) | (simp; omega)), (by first | omega | (simp; done) | (simp; omega)), (by first | omega | (simp; done) | (simp; omega)), .inr rfl, Nat.le_of_ble_eq_true rfl⟩ | exact .inl ⟨rfl, rfl, rfl, (by first | omega | (simp; done) | (simp; omega)), (by first | omega | (simp; done) | (simp; omega)), (by first | omega | (simp; done) | (simp; omega)), .inl rfl, Nat.le_of_ble_eq_true rfl⟩ | exact fun h => h | refine ⟨?_, ?_, ?_, .inl ?_⟩ | refine ⟨?_, ?_⟩ | refine fun ii hii => ?_ | omega | fail)
      · (repeat' first | exact trivial | exact rfl | exact Nat.le_of_ble_eq_true rfl | exact Nat.le_refl _ | exact .inl ⟨rfl, rfl, rfl, rfl, Nat.le_refl _, Nat.le_refl _, .inr rfl, Nat.le_of_ble_eq_true rfl⟩ | exact .inl ⟨rfl, rfl, rfl, rfl, Nat.le_refl _, Nat.le_refl _, .inl rfl, Nat.le_of_ble_eq_true rfl⟩ | exact .inr ⟨rfl, rfl, rfl, rfl, rfl⟩ | exact .inl ⟨rfl, rfl, rfl, (by first | omega | (simp; done) | (simp; omega)), (by first | omega | (simp; done) | (simp; omega)), (by first | omega | (simp; done) | (simp; omega)), .inr rfl, Nat.le_of_ble_eq_true rfl⟩ | exact .inl ⟨rfl, rfl, rfl, (by first | omega | (simp; done) | (simp; omega)), (by first | omega | (simp; done) | (simp; omega)), (by first | omega | (simp; done) | (simp; omega)), .inl rfl, Nat.le_of_ble_eq_true rfl⟩ | exact fun h => h | refine ⟨?_, ?_, ?_, .inl ?_⟩ | refine ⟨?_, ?_⟩ | refine fun ii hii => ?_ | omega | fail)
theorem played_ok (l : List Act) : Inv (played l) ∧ (played l).pend.length ≤ 200 ∧ (played l).now.length = 4 := by
  have := run_ok (Inv_fresh 4) l (min l.length 200) (by simp [fresh]; omega)
  rw [show (fresh 4).pend.length = 0 from rfl] at this
  exact ⟨this.1, by have := this.2.1; unfold played; omega, this.2.2⟩
/-- A write of one byte. -/
def o1 (v : Int) : LObj := ⟨.rows 1 1 (fun j => if j = 0 then .one (.int .u8 v) .nil else .one (.int .u8 0) .nil) .nil, 5, false, false⟩
theorem o1_ren (v : Int) (g : Nat → Nat) : (o1 v).ren g = o1 v := by
  unfold o1 LObj.ren
  simp only [renS]
  congr 2
  funext j
  split <;> rfl
def one1 (v : Int) : Option LObj := some (o1 v)
theorem wlit (τ : Nat) (x : Disk) (n v : Int) (hp : x.pend.length < 1000000) : LCalls Try.prog 26 (.cons (.tok τ) (.cons (.int .i64 n) (.cons (.slice ⟨1, [], 0⟩ 0 1 1 1 (some 1)) .nil))) [diskR τ x, one1 v] (fun e h' => e = .ret (.int .i64 (wrE x n 1)) ∧ h' = [diskR τ (wrD x n (fun _ => v) 1), none]) := by
  refine LCalls.preF [(1, 1, 1, byteR (fun _ => v))] ⟨⟨rfl, Nat.le_refl _, rfl, fun i hi => ?_⟩, rfl, trivial⟩ [0, 1] (.cons (.tok τ) (.cons (.int .i64 n) (.cons (bytesV 1 (fun _ => v)) .nil))) [diskR τ x, none] rfl rfl ?_ ?_ ?_
  · have hi : i < 1 := hi
    have : i = 0 := by omega
    subst this
    exact ⟨⟨rfl, rfl⟩, trivial⟩
  · exact ⟨rfl, ⟨rfl, rfl⟩, .inr ⟨rfl, rfl, rfl, rfl, rfl, Nat.le_refl _, fun i hi => rfl⟩, trivial⟩
  · (repeat' first | exact trivial | exact rfl | exact Nat.le_of_ble_eq_true rfl | exact Nat.le_refl _ | exact .inl ⟨rfl, rfl, rfl, rfl, Nat.le_refl _, Nat.le_refl _, .inr rfl, Nat.le_of_ble_eq_true rfl⟩ | exact .inl ⟨rfl, rfl, rfl, rfl, Nat.le_refl _, Nat.le_refl _, .inl rfl, Nat.le_of_ble_eq_true rfl⟩ | exact .inr ⟨rfl, rfl, rfl, rfl, rfl⟩ | exact .inl ⟨rfl, rfl, rfl, (by first | omega | (simp; done) | (simp; omega)), (by first | omega | (simp; done) | (simp; omega)), (by first | omega | (simp; done) | (simp; omega)), .inr rfl, Nat.le_of_ble_eq_true rfl⟩ | exact .inl ⟨rfl, rfl, rfl, (by first | omega | (simp; done) | (simp; omega)), (by first | omega | (simp; done) | (simp; omega)), (by first | omega | (simp; done) | (simp; omega)), .inl rfl, Nat.le_of_ble_eq_true rfl⟩ | exact fun h => h | refine ⟨?_, ?_, ?_, .inl ?_⟩ | refine ⟨?_, ?_⟩ | refine fun ii hii => ?_ | omega | fail)
  refine (LCalls.frame (H := [diskR τ x, none]) (writeR' τ x n (fun _ => v) 1 hp) [0] rfl ⟨rfl, trivial⟩).mono ?_
  rintro _ _ ⟨_, _, ⟨rfl, rfl⟩, rfl, rfl⟩
  exact ⟨rfl, rfl⟩
def lit3 : Nat → Bool := fun i => !(i == 1)
def o3 : LObj := ⟨.rows 3 1 (fun j => if j = 2 then .one (.bool true) .nil else if j = 1 then .one (.bool false) .nil else if j = 0 then .one (.bool true) .nil else .one (.bool false) .nil) .nil, 4, false, false⟩
theorem o3_ren (g : Nat → Nat) : o3.ren g = o3 := by
  unfold o3 LObj.ren
  simp only [renS]
  congr 2
  funext j
  repeat' split
  all_goals rfl
def bools3 : Option LObj := some o3
theorem clit (τ : Nat) (x : Disk) (hw : Wf x) : LCalls Try.prog 27 (.cons (.tok τ) (.cons (.slice ⟨1, [], 0⟩ 0 1 3 3 (some 3)) .nil)) [diskR τ x, bools3] (fun e h' => e = .ret (.int .i64 (picked (keepQ 3 lit3) x.pend).length) ∧ h' = [diskR τ (crashed x (keepQ 3 lit3)), none]) := by
  refine LCalls.preF [(1, 3, 1, fun i => .one (.bool (lit3 i)) .nil)] ⟨⟨rfl, Nat.le_refl _, rfl, fun i hi => ?_⟩, rfl, trivial⟩ [0, 1] (.cons (.tok τ) (.cons (boolS 3 lit3) .nil)) [diskR τ x, none] rfl rfl ?_ ?_ ?_
  · have hi : i < 3 := hi
    match i, hi with
    | 0, _ => exact ⟨rfl, trivial⟩
    | 1, _ => exact ⟨rfl, trivial⟩
    | 2, _ => exact ⟨rfl, trivial⟩
  · exact ⟨rfl, .inr ⟨rfl, rfl, rfl, rfl, rfl, Nat.le_refl _, fun i hi => rfl⟩, trivial⟩
  · (repeat' first | exact trivial | exact rfl | exact Nat.le_of_ble_eq_true rfl | exact Nat.le_refl _ | exact .inl ⟨rfl, rfl, rfl, rfl, Nat.le_refl _, Nat.le_refl _, .inr rfl, Nat.le_of_ble_eq_true rfl⟩ | exact .inl ⟨rfl, rfl, rfl, rfl, Nat.le_refl _, Nat.le_refl _, .inl rfl, Nat.le_of_ble_eq_true rfl⟩ | exact .inr ⟨rfl, rfl, rfl, rfl, rfl⟩ | exact .inl ⟨rfl, rfl, rfl, (by first | omega | (simp; done) | (simp; omega)), (by first | omega | (simp; done) | (simp; omega)), (by first | omega | (simp; done) | (simp; omega)), .inr rfl, Nat.le_of_ble_eq_true rfl⟩ | exact .inl ⟨rfl, rfl, rfl, (by first | omega | (simp; done) | (simp; omega)), (by first | omega | (simp; done) | (simp; omega)), (by first | omega | (simp; done) | (simp; omega)), .inl rfl, Nat.le_of_ble_eq_true rfl⟩ | exact fun h => h | refine ⟨?_, ?_, ?_, .inl ?_⟩ | refine ⟨?_, ?_⟩ | refine fun ii hii => ?_ | omega | fail)
  refine (LCalls.frame (H := [diskR τ x, none]) (crash' τ x hw 3 lit3) [0] rfl ⟨rfl, trivial⟩).mono ?_
  rintro _ _ ⟨_, _, ⟨rfl, rfl⟩, rfl, rfl⟩
  exact ⟨rfl, rfl⟩
def z1 : Disk := wrD (fresh 2) 0 (fun _ => 1) 1
def z2 : Disk := wrD z1 0 (fun _ => 2) 1
def z3 : Disk := wrD z2 1 (fun _ => 3) 1
def z4 : Disk := crashed z3 (keepQ 3 lit3)
def z5 : Disk := armed z4 1
def z6 : Disk := wrD z5 1 (fun _ => 5) 1
def z7 : Disk := flD z6
theorem z_ok : Inv z1 ∧ Inv z2 ∧ Inv z3 ∧ Inv z4 ∧ Inv z5 ∧ Inv z6 ∧ z1.pend.length ≤ 1 ∧ z2.pend.length ≤ 2 ∧ z3.pend.length ≤ 3 ∧ z5.pend.length ≤ 3 := by
  have p1 : z1.pend.length ≤ 1 := wrD_pend _ _ _ _
  have p2 : z2.pend.length ≤ 2 := Nat.le_trans (wrD_pend _ _ _ _) (by omega)
  have p3 : z3.pend.length ≤ 3 := Nat.le_trans (wrD_pend _ _ _ _) (by omega)
  have i1 : Inv z1 := Inv_wrD (Inv_fresh 2) _ _ _ (by simp [fresh])
  have i2 : Inv z2 := Inv_wrD i1 _ _ _ (by omega)
  have i3 : Inv z3 := Inv_wrD i2 _ _ _ (by omega)
  have i4 : Inv z4 := Inv_crashed i3 _
  have i5 : Inv z5 := Inv_armed i4 _
  have p5 : z5.pend.length ≤ 3 := by
    unfold z5 armed
    split <;> exact Nat.zero_le _
  exact ⟨i1, i2, i3, i4, i5, Inv_wrD i5 _ _ _ (by omega), p1, p2, p3, p5⟩
theorem awake : LCalls Try.prog 21 .nil [] (fun e h' => e = .ret (.bool true) ∧ h' = []) := by
  obtain ⟨i1, i2, i3, i4, i5, i6, p1, p2, p3, p5⟩ := z_ok
  refine LCalls.tell ?_; refine enter21 rfl ?_; conv => whnf
  refine LCalls.use (new_ok' 2 (by omega) (by omega)) [] rfl rfl trivial ?_
  rintro _ _ ⟨τ, rfl, rfl⟩
  conv => whnf
  refine LCalls.use (wlit τ (fresh 2) 0 1 (by simp [fresh])) [0, 1] rfl rfl ⟨rfl, (congrArg some (o1_ren 1 _)).symm, trivial⟩ ?_; rintro _ _ ⟨rfl, rfl⟩; conv => whnf
  refine LCalls.use (wlit τ z1 0 2 (by omega)) [0, 2] rfl rfl ⟨rfl, (congrArg some (o1_ren 2 _)).symm, trivial⟩ ?_; rintro _ _ ⟨rfl, rfl⟩; conv => whnf
  refine LCalls.use (wlit τ z2 1 3 (by omega)) [0, 3] rfl rfl ⟨rfl, (congrArg some (o1_ren 3 _)).symm, trivial⟩ ?_; rintro _ _ ⟨rfl, rfl⟩; conv => whnf
  refine LCalls.use (pending' τ z3) [0] rfl rfl ⟨rfl, trivial⟩ ?_; rintro _ _ ⟨rfl, rfl⟩; conv => whnf
  refine LCalls.use (clit τ z3 i3.toWf) [0, 4] rfl rfl ⟨rfl, (congrArg some (o3_ren _)).symm, trivial⟩ ?_; rintro _ _ ⟨rfl, rfl⟩; conv => whnf
  refine LCalls.use (read' τ z4 0) [0] rfl rfl ⟨rfl, trivial⟩ ?_; rintro _ _ ⟨rfl, rfl⟩; conv => whnf
  refine LCalls.use (read' τ z4 1) [0] rfl rfl ⟨rfl, trivial⟩ ?_; rintro _ _ ⟨rfl, rfl⟩; conv => whnf
  refine LCalls.use (arm' τ z4 1) [0] rfl rfl ⟨rfl, trivial⟩ ?_; rintro _ _ ⟨rfl, rfl⟩; conv => whnf
  refine LCalls.use (wlit τ z5 1 5 (by omega)) [0, 5] rfl rfl ⟨rfl, (congrArg some (o1_ren 5 _)).symm, trivial⟩ ?_; rintro _ _ ⟨rfl, rfl⟩; conv => whnf
  refine LCalls.use (flush' τ z6 i6.toWf) [0] rfl rfl ⟨rfl, trivial⟩ ?_; rintro _ _ ⟨rfl, rfl⟩; conv => whnf
  refine LCalls.use (up' τ z7) [0] rfl rfl ⟨rfl, trivial⟩ ?_; rintro _ _ ⟨rfl, rfl⟩; conv => whnf
  refine LCalls.use (read' τ z7 1) [0] rfl rfl ⟨rfl, trivial⟩ ?_; rintro _ _ ⟨rfl, rfl⟩; conv => whnf
  refine LCalls.use (New_err 0 (by omega)) [] rfl rfl trivial ?_
  rintro _ _ ⟨rfl, rfl⟩
  conv => whnf
  repeat (refine And.intro (by decide) ?_; conv => whnf)
  refine ⟨[], _, _, rfl, rfl, ?_, ?_, rfl, rfl⟩
  · (repeat' first | exact trivial | exact rfl | exact Nat.le_of_ble_eq_true rfl | exact Nat.le_refl _ | exact .inl ⟨rfl, rfl, rfl, rfl, Nat.le_refl _, Nat.le_refl _, .inr rfl, Nat.le_of_ble_eq_true rfl⟩ | exact .inl ⟨rfl, rfl, rfl, rfl, Nat.le_refl _, Nat.le_refl _, .inl rfl, Nat.le_of_ble_eq_true rfl⟩ | exact .inr ⟨rfl, rfl, rfl, rfl, rfl⟩ | exact .inl ⟨rfl, rfl, rfl, (by first | omega | (simp; done) | (simp; omega)), (by first | omega | (simp; done) | (simp; omega)), (by first | omega | (simp; done) | (simp; omega)), .inr rfl, Nat.le_of_ble_eq_true rfl⟩ | exact .inl ⟨rfl, rfl, rfl, (by first | omega | (simp; done) | (simp; omega)), (by first | omega | (simp; done) | (simp; omega)), (by first | omega | (simp; done) | (simp; omega)), .inl rfl, Nat.le_of_ble_eq_true rfl⟩ | exact fun h => h | refine ⟨?_, ?_, ?_, .inl ?_⟩ | refine ⟨?_, ?_⟩ | refine fun ii hii => ?_ | omega | fail)
  · (repeat' first | exact trivial | exact rfl | exact Nat.le_of_ble_eq_true rfl | exact Nat.le_refl _ | exact .inl ⟨rfl, rfl, rfl, rfl, Nat.le_refl _, Nat.le_refl _, .inr rfl, Nat.le_of_ble_eq_true rfl⟩ | exact .inl ⟨rfl, rfl, rfl, rfl, Nat.le_refl _, Nat.le_refl _, .inl rfl, Nat.le_of_ble_eq_true rfl⟩ | exact .inr ⟨rfl, rfl, rfl, rfl, rfl⟩ | exact .inl ⟨rfl, rfl, rfl, (by first | omega | (simp; done) | (simp; omega)), (by first | omega | (simp; done) | (simp; omega)), (by first | omega | (simp; done) | (simp; omega)), .inr rfl, Nat.le_of_ble_eq_true rfl⟩ | exact .inl ⟨rfl, rfl, rfl, (by first | omega | (simp; done) | (simp; omega)), (by first | omega | (simp; done) | (simp; omega)), (by first | omega | (simp; done) | (simp; omega)), .inl rfl, Nat.le_of_ble_eq_true rfl⟩ | exact fun h => h | refine ⟨?_, ?_, ?_, .inl ?_⟩ | refine ⟨?_, ?_⟩ | refine fun ii hii => ?_ | omega | fail)
end Go.Proofs.Ytilmfhpoiejmfaa.Dk
