-- PRINTED BY print.sh 35421559b90ae4d0a3588c463048766b98c2df88dd9212a6774a882060cdf62d: not written by this session
import Derived.Test.YtkfkjdofefhglaaPLogSectorsx0
namespace Go.Proofs.Ytkfkjdofefhglaa.PLogSectors
open Go.RowKit Go.Proofs.YtkfkjdofefhglaaW.PrintWords Go.Proofs.YtkfkjdofefhglaaW.PrintLast Go.Proofs.YtkfkjdofefhglaaW.PrintMore
attribute [local go_sem] max2_int min2_int max_two min_two max_three min_three max_four min_four   -- for this text's walks alone
set_option linter.unusedVariables false
set_option linter.unusedSimpArgs false

/-! ### log_Sectors: function 9 -/
def log_Sectors.f (a0 : Int) : Option (Int) := if a0 ≤ 48 then (some 1) else (some (wrap64 ((wrap64 (Int.tdiv (wrap64 (a0 - 1)) 48)) + 1)))
set_option maxHeartbeats 8000000 in
set_option maxRecDepth 100000 in
theorem log_Sectors.calls (a0 : Int) (r : Int) (w : World) (h : log_Sectors.f a0 = some r) :
    Calls Try.prog 9 #[.int .i64 a0] w fun e w' => e = .returned (.int .i64 r) ∧ Drawn0 w w' := by
  have H : (if a0 ≤ 48 then (some 1) else (some (wrap64 ((wrap64 (Int.tdiv (wrap64 (a0 - 1)) 48)) + 1)))) = some r := h
  clear h
  by_cases c2 : a0 ≤ 48
  · rw [if_pos c2] at H
    have c2b0 : decide (a0 ≤ 48) = true := decide_eq_true c2
    clear c2
    obtain rfl := Option.some.inj H
    go_enter Try.func9, Try.ntmps9
    go_wp2
    go_ret
    exact ⟨by first | rfl | (simp; done) | (simp [*]; done), by repeat (first | exact Drawn0.refl _ | apply Drawn0.step)⟩
  · rw [if_neg c2] at H
    have c2b0 : decide (a0 ≤ 48) = false := decide_eq_false c2
    clear c2
    obtain rfl := Option.some.inj H
    go_enter Try.func9, Try.ntmps9
    go_wp2
    go_ret
    exact ⟨by first | rfl | (simp; done) | (simp [*]; done), by repeat (first | exact Drawn0.refl _ | apply Drawn0.step)⟩

/-! ### palatineref03_Sectors: function 10 -/
def palatineref03_Sectors.l0 : Nat → Int → Int → Option (Int)
  | 0, _, _ => none
  | k + 1, x0, x3 => if x0 > 48 then (palatineref03_Sectors.l0 k (wrap64 (x0 - 48)) (wrap64 (x3 + 1))) else (some x3)
def palatineref03_Sectors.f (k : Nat) (a0 : Int) : Option (Int) := palatineref03_Sectors.l0 k a0 1
theorem palatineref03_Sectors.mono_l : ∀ k, (∀ y0 y1, LeO (palatineref03_Sectors.l0 k y0 y1) (palatineref03_Sectors.l0 (k + 1) y0 y1))
  | 0 => fun _ _ r h => by simp [palatineref03_Sectors.l0] at h
  | k + 1 => by
    have ih0 := palatineref03_Sectors.mono_l k
    · intro y0 y1
      unfold palatineref03_Sectors.l0
      repeat' first
      | (with_reducible exact ih0 _ _)
      | (with_reducible exact LeO.refl _)
      | (with_reducible exact LeO.none _)
      | (with_reducible refine LeO.ite ?_ ?_)
      | (with_reducible refine LeO.bind ?_ (fun _ => ?_))
      | exact ih0 _ _
      | exact LeO.none _
      | refine LeO.ite ?_ ?_
      | refine LeO.bind ?_ (fun _ => ?_)
theorem palatineref03_Sectors.mono : ∀ a0 k, LeO (palatineref03_Sectors.f k a0) (palatineref03_Sectors.f (k + 1) a0) := by
  intro a0 k
  have ih0 := palatineref03_Sectors.mono_l k
  unfold palatineref03_Sectors.f
  repeat' first
      | (with_reducible exact ih0 _ _)
      | (with_reducible exact LeO.refl _)
      | (with_reducible exact LeO.none _)
      | (with_reducible refine LeO.ite ?_ ?_)
      | (with_reducible refine LeO.bind ?_ (fun _ => ?_))
      | exact ih0 _ _
      | exact LeO.none _
      | refine LeO.ite ?_ ?_
      | refine LeO.bind ?_ (fun _ => ?_)
set_option maxHeartbeats 8000000 in
set_option maxRecDepth 100000 in
theorem palatineref03_Sectors.calls (k : Nat) (a0 : Int) (r : Int) (w : World) (h : palatineref03_Sectors.f k a0 = some r) :
    Calls Try.prog 10 #[.int .i64 a0] w fun e w' => e = .returned (.int .i64 r) ∧ Drawn0 w w' := by
  have H : (palatineref03_Sectors.l0 k a0 1) = some r := h
  clear h
  have H' := Aside0.mk H
  clear H
  go_enter Try.func10, Try.ntmps10
  go_wp2
  go_loopg [0, 3] k (fun kq v0 v3 w' => ∃ (x0_1 : Int) (x3_1 : Int), v0 = .int .i64 x0_1 ∧ v3 = .int .i64 x3_1 ∧ Aside0 (palatineref03_Sectors.l0 kq x0_1 x3_1 = some r) ∧ Aside0 (kq ≤ k) ∧ Drawn0 w w')
  case atStart => exact ⟨(a0), (1), (by first | rfl | (simp; done) | (simp [*]; done)), (by first | rfl | (simp; done) | (simp [*]; done)), H', ⟨Nat.le_refl _⟩, by repeat (first | exact Drawn0.refl _ | apply Drawn0.step)⟩
  case round =>
    clear H'
    try clear c1
    obtain ⟨x0_1, x3_1, rfl, rfl, HA, HK1, ⟨m1, rfl⟩⟩ := hrel
    cases gk with
    | zero => exact absurd HA.out (by simp [palatineref03_Sectors.l0])
    | succ k1 =>
      have H := HA.out
      clear HA
      simp only [palatineref03_Sectors.l0] at H
      by_cases c2 : x0_1 > 48
      · rw [if_pos c2] at H
        have c2b0 : decide (48 < x0_1) = true := decide_eq_true c2
        clear c2
        have H' := Aside0.mk H
        clear H
        go_wp2
        go_roundg k1
        case measure => have := HK1.out; omega
        case rel => exact ⟨(wrap64 (x0_1 - 48)), (wrap64 (x3_1 + 1)), (by first | rfl | (simp; done) | (simp [*]; done)), (by first | rfl | (simp; done) | (simp [*]; done)), H', ⟨by have := HK1.out; omega⟩, by repeat (first | exact Drawn0.refl _ | apply Drawn0.step)⟩
      · rw [if_neg c2] at H
        have c2b0 : decide (48 < x0_1) = false := decide_eq_false c2
        clear c2
        obtain rfl := Option.some.inj H
        go_wp2
        go_ret
        exact ⟨by first | rfl | (simp; done) | (simp [*]; done), by repeat (first | exact Drawn0.refl _ | apply Drawn0.step)⟩

/-! ### palatinelaw03_LogSectors: function 3 -/
def palatinelaw03_LogSectors.f (k : Nat) (a0 : Int) : Option (Bool) := (log_Sectors.f a0).bind fun t101 => (if a0 > 16777216 then (some (t101 == (wrap64 ((wrap64 (Int.tdiv (wrap64 (a0 - 1)) 48)) + 1)))) else ((palatineref03_Sectors.f k a0).bind fun t102 => (some (t101 == t102))))
theorem palatinelaw03_LogSectors.mono : ∀ a0 k, LeO (palatinelaw03_LogSectors.f k a0) (palatinelaw03_LogSectors.f (k + 1) a0) := by
  intro a0 k
  unfold palatinelaw03_LogSectors.f
  repeat' first
      | (with_reducible exact palatineref03_Sectors.mono _ _)
      | (with_reducible exact LeO.refl _)
      | (with_reducible exact LeO.none _)
      | (with_reducible refine LeO.ite ?_ ?_)
      | (with_reducible refine LeO.bind ?_ (fun _ => ?_))
      | exact palatineref03_Sectors.mono _ _
      | exact LeO.none _
      | refine LeO.ite ?_ ?_
      | refine LeO.bind ?_ (fun _ => ?_)
set_option maxHeartbeats 8000000 in
set_option maxRecDepth 100000 in
theorem palatinelaw03_LogSectors.calls (k : Nat) (a0 : Int) (r : Bool) (w : World) (h : palatinelaw03_LogSectors.f k a0 = some r) :
    Calls Try.prog 3 #[.int .i64 a0] w fun e w' => e = .returned (.bool r) ∧ Drawn0 w w' := by
  have H : ((log_Sectors.f a0).bind fun t101 => (if a0 > 16777216 then (some (t101 == (wrap64 ((wrap64 (Int.tdiv (wrap64 (a0 - 1)) 48)) + 1)))) else ((palatineref03_Sectors.f k a0).bind fun t102 => (some (t101 == t102))))) = some r := h
  clear h
  replace H := Option.bind_eq_some_iff.mp H
  obtain ⟨t101, A20, H⟩ := H
  replace H : (if a0 > 16777216 then (some (t101 == (wrap64 ((wrap64 (Int.tdiv (wrap64 (a0 - 1)) 48)) + 1)))) else ((palatineref03_Sectors.f k a0).bind fun t102 => (some (t101 == t102)))) = some r := H
  have A2 := Aside0.mk A20
  clear A20
  by_cases c3 : a0 > 16777216
  · rw [if_pos c3] at H
    have c3b0 : decide (16777216 < a0) = true := decide_eq_true c3
    clear c3
    obtain rfl := Option.some.inj H
    go_enter Try.func3, Try.ntmps3
    go_wp2_with (first | ((with_reducible refine gate_callee (f := 9) rfl ?_); refine goesL_ (some 5) rfl rfl Try.func9 (by kernel_rfl) rfl #[.int .i64 a0] rfl (by (try simp only [List.map_toArray, List.map_cons, List.map_nil]); first | done | rfl | (simp only [List.length_drop, List.length_take]; rfl)) ?_; (with_reducible refine (log_Sectors.calls a0 t101 _ A2.out).mono ?_); rintro e w' ⟨rfl, ⟨nd, rfl⟩⟩; refine ⟨_, rfl, ?_⟩))
    go_ret
    exact ⟨by first | rfl | (simp; done) | (simp [*]; done), by repeat (first | exact Drawn0.refl _ | apply Drawn0.step)⟩
  · rw [if_neg c3] at H
    have c3b0 : decide (16777216 < a0) = false := decide_eq_false c3
    clear c3
    replace H := Option.bind_eq_some_iff.mp H
    obtain ⟨t102, A40, H⟩ := H
    replace H : (some (t101 == t102)) = some r := H
    have A4 := Aside0.mk A40
    clear A40
    obtain rfl := Option.some.inj H
    go_enter Try.func3, Try.ntmps3
    go_wp2_with (first | ((with_reducible refine gate_callee (f := 9) rfl ?_); refine goesL_ (some 5) rfl rfl Try.func9 (by kernel_rfl) rfl #[.int .i64 a0] rfl (by (try simp only [List.map_toArray, List.map_cons, List.map_nil]); first | done | rfl | (simp only [List.length_drop, List.length_take]; rfl)) ?_; (with_reducible refine (log_Sectors.calls a0 t101 _ A2.out).mono ?_); rintro e w' ⟨rfl, ⟨nd, rfl⟩⟩; refine ⟨_, rfl, ?_⟩) | ((with_reducible refine gate_callee (f := 10) rfl ?_); refine goesL_ (some 16) rfl rfl Try.func10 (by kernel_rfl) rfl #[.int .i64 a0] rfl (by (try simp only [List.map_toArray, List.map_cons, List.map_nil]); first | done | rfl | (simp only [List.length_drop, List.length_take]; rfl)) ?_; (with_reducible refine (palatineref03_Sectors.calls k a0 t102 _ A4.out).mono ?_); rintro e w' ⟨rfl, ⟨nd, rfl⟩⟩; refine ⟨_, rfl, ?_⟩))
    go_ret
    exact ⟨by first | rfl | (simp; done) | (simp [*]; done), by repeat (first | exact Drawn0.refl _ | apply Drawn0.step)⟩

/-- THE ONE PURE STATEMENT of palatinelaw03_LogSectors: yours. -/
def palatinelaw03_LogSectors.Pure : Prop := ∀ (a0 : Int), (Lit.int .i64 a0).wf = true → ∃ k, palatinelaw03_LogSectors.f k a0 = some true
theorem palatinelaw03_LogSectors.walk (P : palatinelaw03_LogSectors.Pure) (a0 : Int) (w : World) (w0 : (Lit.int .i64 a0).wf = true) :
    Calls Try.prog 3 #[.int .i64 a0] w fun e w' => e = .returned (.bool true) ∧ Below w.heap.size w w' := by
  obtain ⟨k, h⟩ := P a0 w0
  refine (palatinelaw03_LogSectors.calls k a0 true w h).mono ?_
  rintro e w' ⟨rfl, hd⟩
  exact ⟨rfl, hd.below⟩

end Go.Proofs.Ytkfkjdofefhglaa.PLogSectors
