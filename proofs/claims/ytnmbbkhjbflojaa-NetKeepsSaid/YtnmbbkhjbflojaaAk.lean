/- The chapter's examples. By this session. -/
import Derived.Test.YtnmbbkhjbflojaaDt
namespace Go.Proofs.Ytnmbbkhjbflojaa.Net
open Go.Proofs.Ytnmbbkhjbflojaa.Lh
set_option maxRecDepth 100000
set_option linter.unusedSimpArgs false
theorem Send_ok (x : Net) (a : Letter) (h : sendE x a = 0) : LCalls Try.prog 12 (.cons (.ptr ⟨0, [], 0⟩) (.cons (.agg (ls a)) .nil)) [netO 1 x, wayO x.way] (fun e h' => e = .ret (.int .i64 0) ∧ h' = [netO 2 (sent x a), none, wayO (sent x a).way]) :=
  (Send x a).mono fun _ _ q => q.elim (fun q => q.2) (fun q => absurd h q.1)
theorem Send_err (x : Net) (a : Letter) (n : Int) (h : sendE x a = n) (hn : n ≠ 0) : LCalls Try.prog 12 (.cons (.ptr ⟨0, [], 0⟩) (.cons (.agg (ls a)) .nil)) [netO 1 x, wayO x.way] (fun e h' => e = .ret (.int .i64 n) ∧ h' = [netO 1 x, wayO x.way]) :=
  (Send x a).mono fun _ _ q => q.elim (fun q => absurd (h ▸ q.1) hn) (fun q => ⟨by rw [q.2.1, h], q.2.2⟩)
def la : Letter := ⟨0, 1, ⟨#[97]⟩⟩
def lb : Letter := ⟨1, 0, ⟨#[98]⟩⟩
def n1 : Net := sent (netNew 2) la
def n2 : Net := sent n1 lb
def n3 : Net := dbl n2 0
def n4 : Net := tookD n3 1
def n5 : Net := tookL n4 0
def n6 : Net := tookD n5 0
theorem Awake : LCalls Try.prog 7 .nil [] (fun e h' => e = .ret (.bool true) ∧ h' = []) := by
  refine LCalls.tell ?_
  refine enter7 rfl ?_
  conv => whnf
  refine LCalls.use (New_ok 2 (by decide) (by decide)) [] rfl rfl trivial ?_
  rintro _ _ ⟨rfl, rfl⟩
  conv => whnf
  refine LCalls.use (Send_ok (netNew 2) la (by decide)) [0, 1] rfl rfl ⟨rfl, rfl, trivial⟩ ?_
  rintro _ _ ⟨rfl, rfl⟩
  conv => whnf
  refine LCalls.use (Send_ok n1 lb (by decide)) [0, 2] rfl rfl ⟨rfl, rfl, trivial⟩ ?_
  rintro _ _ ⟨rfl, rfl⟩
  conv => whnf
  refine LCalls.use (Double_ok n2 0 (by decide) (by decide)) [0, 3] rfl rfl ⟨rfl, rfl, trivial⟩ ?_
  rintro _ _ ⟨rfl, rfl⟩
  conv => whnf
  refine LCalls.use (Way n3 (by decide)) [0, 4] rfl rfl ⟨rfl, rfl, trivial⟩ ?_
  rintro _ _ ⟨rfl, rfl⟩
  conv => whnf
  refine LCalls.use (Deliver_ok n3 1 (by decide) (by decide)) [0, 4] rfl rfl ⟨rfl, rfl, trivial⟩ ?_
  rintro _ _ ⟨rfl, rfl⟩
  conv => whnf
  refine LCalls.use (Lose_ok n4 0 (by decide) (by decide)) [0, 4] rfl rfl ⟨rfl, rfl, trivial⟩ ?_
  rintro _ _ ⟨rfl, rfl⟩
  conv => whnf
  refine LCalls.use (Deliver_ok n5 0 (by decide) (by decide)) [0, 4] rfl rfl ⟨rfl, rfl, trivial⟩ ?_
  rintro _ _ ⟨rfl, rfl⟩
  conv => whnf
  refine LCalls.use (Deliver_no n6 0 (by decide)) [0, 4] rfl rfl ⟨rfl, rfl, trivial⟩ ?_
  rintro _ _ ⟨rfl, rfl⟩
  conv => whnf
  refine LCalls.use (Send_err n6 zeroL 200 (by decide) (by decide)) [0, 4] rfl rfl ⟨rfl, rfl, trivial⟩ ?_
  rintro _ _ ⟨rfl, rfl⟩
  conv => whnf
  refine LCalls.use (Counts n6) [0, 4] rfl rfl ⟨rfl, rfl, trivial⟩ ?_
  rintro _ _ ⟨rfl, rfl⟩
  conv => whnf
  refine ⟨by decide, ?_⟩
  conv => whnf
  refine ⟨by decide, ?_⟩
  conv => whnf
  refine ⟨[], _, [], rfl, rfl, ?_, trivial, rfl, rfl⟩
  exact (show (n6.lost == 1) = true by decide)
end Go.Proofs.Ytnmbbkhjbflojaa.Net
