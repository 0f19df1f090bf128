/- The log on the heap of the mind: the chapter's examples. By this session. -/
import Derived.Test.YtilmfhpoiejmfaaGt
import Derived.Test.YtilmfhpoiejmfaaGd
namespace Go.Proofs.Ytilmfhpoiejmfaa.Gk
open Go.Proofs.Ytilmfhpoiejmfaa.Lh Go.RowKit Go.Proofs.Ytilmfhpoiejmfaa.Lg Go.Proofs.Ytilmfhpoiejmfaa.Gdk
open Go.Proofs.Ytilmfhpoiejmfaa.Dk (Disk Sec nought diskR wrE wrD flE flD rdE crashed picked fresh new_ok' crash' keepQ boolS Inv Inv_fresh Inv_crashed)
set_option maxRecDepth 100000
set_option linter.unusedSimpArgs false
set_option linter.unusedSectionVars false
set_option linter.unusedVariables false
theorem opr_eta (r : OpR) {l : List Lg.Bs} (he : r.err = 0) (hr : r.recs = l) : r = ⟨0, r.y, r.L, l⟩ := by
  cases r; cases he; cases hr; rfl
theorem app_eta (r : Disk × LgS × Int) {e : Int} (he : r.2.2 = e) : r = (r.1, r.2.1, e) := by
  cases r; cases he; rfl
variable [Fz]
theorem OpenOk (τ : Nat) (x : Disk) (h : St x) (first count : Int) (ep : Nat) (hep : ep < 4294967296) (hp : x.pend.length + 1 < 1000000) {y : Disk} {L : LgS} {l : List Lg.Bs} (he : openP x first count ep = ⟨0, y, L, l⟩) : LCalls Try.prog 37 (.cons (.tok τ) (.cons (.int .i64 first) (.cons (.int .i64 count) (.cons (wN ep) .nil)))) [diskR τ x] (fun e h' => e = .ret (.tup (.cons (.ptr ⟨1, [], 0⟩) (.cons (strsV l) (.cons (.int .i64 0) .nil)))) ∧ h' = [diskR τ y, lgO τ L]) := by
  have := Open τ x h.inv h.by_ h.few first count ep hep hp
  rw [he, openV_ok, openH_ok] at this
  exact this
theorem OpenNo (τ : Nat) (x : Disk) (h : St x) (first count : Int) (ep : Nat) (hep : ep < 4294967296) (hp : x.pend.length + 1 < 1000000) {c : Int} {y : Disk} {L : LgS} {l : List Lg.Bs} (hc : c ≠ 0) (he : openP x first count ep = ⟨c, y, L, l⟩) : LCalls Try.prog 37 (.cons (.tok τ) (.cons (.int .i64 first) (.cons (.int .i64 count) (.cons (wN ep) .nil)))) [diskR τ x] (fun e h' => e = .ret (.tup (.cons .nilp (.cons (.slice ⟨0, [], 0⟩ 0 0 0 0 (some 0)) (.cons (.int .i64 c) .nil)))) ∧ h' = [diskR τ y]) := by
  have := Open τ x h.inv h.by_ h.few first count ep hep hp
  rw [he, openV_no hc, openH_no hc] at this
  exact this
theorem AppE (τ : Nat) (x : Disk) (L : LgS) (ok : LgOk L) (l : Lg.Bs) (hl : l.length ≤ 4611686018427387904) (hp : x.pend.length + 50 < 1000000) {y : Disk} {L' : LgS} {c : Int} (he : appP x L l = (y, L', c)) : LCalls Try.prog 39 (.cons (.ptr ⟨1, [], 0⟩) (.cons (.str (bs l)) .nil)) [diskR τ x, lgO τ L] (fun e h' => e = .ret (.int .i64 c) ∧ h' = [diskR τ y, lgO τ L']) := by
  have := Append τ x L ok l hl hp
  rw [he] at this
  exact this
def r1 : OpR := openP (fresh 8) 0 8 1
def a1 := appP r1.y r1.L [97, 98]
def a2 := appP a1.1 a1.2.1 (List.replicate 100 0)
def a3 := appP (flD a2.1) a2.2.1 [99]
def x4 : Disk := crashed a3.1 (keepQ 0 fun _ => false)
def r2 : OpR := openP x4 0 8 1
def a4 := appP r2.y r2.L [100]
def a5 := appP a4.1 a4.2.1 [101]
def pk2 : Nat → Bool := fun i => i == 1
def x5 : Disk := crashed a5.1 (keepQ 2 pk2)
def r3 : OpR := openP x5 0 8 1
def r4 : OpR := openP r3.y 0 8 2
theorem r1_is : r1.err = 0 ∧ r1.recs = [] := by decide +kernel
theorem a1_is : a1.2.2 = 0 := by decide +kernel
theorem a2_is : a2.2.2 = 0 ∧ a2.2.1.next = 5 := by decide +kernel
theorem fl_is : flE a2.1 = 0 := by decide +kernel
theorem a3_is : a3.2.2 = 0 := by decide +kernel
theorem r2_is : r2.err = 0 ∧ r2.recs = [[97, 98], List.replicate 100 0] := by decide +kernel
theorem a4_is : a4.2.2 = 0 := by decide +kernel
theorem a5_is : a5.2.2 = 0 := by decide +kernel
theorem r3_is : r3.err = 0 ∧ r3.recs = [[97, 98], List.replicate 100 0] ∧ r3.L.life = 3 := by decide +kernel
theorem r4_is : r4.err = 0 ∧ r4.recs = [] := by decide +kernel
structure Aw (y1 : Disk) (L1 : LgS) (y2 : Disk) (L2 : LgS) (y3 : Disk) (L3 : LgS) (y4 : Disk) (L4 : LgS) (z : Disk) (M1 : LgS) (z1 : Disk) (M2 : LgS) (z2 : Disk) (M3 : LgS) (w : Disk) (N1 : LgS) (v : Disk) (N2 : LgS) : Prop where
  s1 : St y1 ∧ y1.pend.length ≤ 1 ∧ LgOk L1 ∧ openP (fresh 8) 0 8 1 = ⟨0, y1, L1, []⟩
  s2 : St y2 ∧ y2.pend.length ≤ 43 ∧ LgOk L2 ∧ appP y1 L1 [97, 98] = (y2, L2, 0)
  s3 : St y3 ∧ y3.pend.length ≤ 85 ∧ LgOk L3 ∧ appP y2 L2 (List.replicate 100 0) = (y3, L3, 0) ∧ L3.next = 5 ∧ flE y3 = 0 ∧ St (flD y3) ∧ (flD y3).pend.length ≤ 85
  s4 : St y4 ∧ LgOk L4 ∧ appP (flD y3) L3 [99] = (y4, L4, 0)
  s5 : St (crashed y4 (keepQ 0 fun _ => false)) ∧ St z ∧ z.pend.length ≤ 1 ∧ LgOk M1 ∧ openP (crashed y4 (keepQ 0 fun _ => false)) 0 8 1 = ⟨0, z, M1, [[97, 98], List.replicate 100 0]⟩
  s6 : St z1 ∧ z1.pend.length ≤ 43 ∧ LgOk M2 ∧ appP z M1 [100] = (z1, M2, 0)
  s7 : St z2 ∧ LgOk M3 ∧ appP z1 M2 [101] = (z2, M3, 0)
  s8 : St (crashed z2 (keepQ 2 pk2)) ∧ St w ∧ w.pend.length ≤ 1 ∧ openP (crashed z2 (keepQ 2 pk2)) 0 8 1 = ⟨0, w, N1, [[97, 98], List.replicate 100 0]⟩ ∧ N1.life = 3
  s9 : openP w 0 8 2 = ⟨0, v, N2, []⟩
theorem aw : ∃ y1 L1 y2 L2 y3 L3 y4 L4 z M1 z1 M2 z2 M3 w N1 v N2, Aw y1 L1 y2 L2 y3 L3 y4 L4 z M1 z1 M2 z2 M3 w N1 v N2 := by
  have s0 := St_fresh (n := 8) (by decide)
  have o1 := op_ok s0 0 8 (ep := 1) (by decide) (by simp [fresh])
  have k1 := o1.ok r1_is.1
  have p1 : r1.y.pend.length ≤ 1 := Nat.le_trans o1.pend (by simp [fresh])
  have o2 := app_ok o1.st k1 [97, 98] (by have : r1.y.pend.length ≤ 1 := p1; exact (by omega : r1.y.pend.length + 50 < 1000000))
  have p2 : a1.1.pend.length ≤ 43 := Nat.le_trans o2.pend (Nat.add_le_add_right p1 42)
  have o3 := app_ok o2.st o2.ok (List.replicate 100 0) (by exact (by omega : a1.1.pend.length + 50 < 1000000))
  have p3 : a2.1.pend.length ≤ 85 := Nat.le_trans o3.pend (Nat.add_le_add_right p2 42)
  have f3 := St_flD o3.st
  have p4 : (flD a2.1).pend.length ≤ 85 := Nat.le_trans (flD_pend _) p3
  have o4 := app_ok f3 o3.ok [99] (by exact (by omega : (flD a2.1).pend.length + 50 < 1000000))
  have f4 := St_crashed o4.st (keepQ 0 fun _ => false)
  have o5 := op_ok f4 0 8 (ep := 1) (by decide) (by show 0 + 1 < 1000000; decide)
  have k5 := o5.ok r2_is.1
  have p5 : r2.y.pend.length ≤ 1 := o5.pend
  have o6 := app_ok o5.st k5 [100] (by exact (by omega : r2.y.pend.length + 50 < 1000000))
  have p6 : a4.1.pend.length ≤ 43 := Nat.le_trans o6.pend (Nat.add_le_add_right p5 42)
  have o7 := app_ok o6.st o6.ok [101] (by exact (by omega : a4.1.pend.length + 50 < 1000000))
  have f7 := St_crashed o7.st (keepQ 2 pk2)
  have o8 := op_ok f7 0 8 (ep := 1) (by decide) (by show 0 + 1 < 1000000; decide)
  have p8 : r3.y.pend.length ≤ 1 := o8.pend
  exact ⟨r1.y, r1.L, a1.1, a1.2.1, a2.1, a2.2.1, a3.1, a3.2.1, r2.y, r2.L, a4.1, a4.2.1, a5.1, a5.2.1, r3.y, r3.L, r4.y, r4.L,
    ⟨o1.st, p1, k1, opr_eta r1 r1_is.1 r1_is.2⟩, ⟨o2.st, p2, o2.ok, app_eta a1 a1_is⟩, ⟨o3.st, p3, o3.ok, app_eta a2 a2_is.1, a2_is.2, fl_is, f3, p4⟩, ⟨o4.st, o4.ok, app_eta a3 a3_is⟩,
    ⟨f4, o5.st, p5, k5, opr_eta r2 r2_is.1 r2_is.2⟩, ⟨o6.st, p6, o6.ok, app_eta a4 a4_is⟩, ⟨o7.st, o7.ok, app_eta a5 a5_is⟩, ⟨f7, o8.st, p8, opr_eta r3 r3_is.1 r3_is.2.1, r3_is.2.2⟩, opr_eta r4 r4_is.1 r4_is.2⟩
def o2b : LObj := ⟨.rows 2 1 (fun j => if j = 1 then .one (.bool true) .nil else if j = 0 then .one (.bool false) .nil else .one (.bool false) .nil) .nil, 4, false, false⟩
theorem o2b_ren (g : Nat → Nat) : o2b.ren g = o2b := by
  unfold o2b LObj.ren
  simp only [renS]
  congr 2
  funext j
  repeat' split
  all_goals rfl
theorem crash2 (τ : Nat) (x : Disk) (hi : Inv x) : LCalls Try.prog 27 (.cons (.tok τ) (.cons (.slice ⟨1, [], 0⟩ 0 1 2 2 (some 2)) .nil)) [diskR τ x, some o2b] (fun e h' => e = .ret (.int .i64 (picked (keepQ 2 pk2) x.pend).length) ∧ h' = [diskR τ (crashed x (keepQ 2 pk2)), none]) := by
  refine LCalls.preF [(1, 2, 1, fun i => .one (.bool (pk2 i)) .nil)] ⟨⟨rfl, Nat.le_refl _, rfl, fun i hi => ?_⟩, rfl, trivial⟩ [0, 1] (.cons (.tok τ) (.cons (boolS 2 pk2) .nil)) [diskR τ x, none] rfl rfl ?_ ?_ ?_
  · have hi : i < 2 := hi
    match i, hi with
    | 0, _ => exact ⟨rfl, trivial⟩
    | 1, _ => exact ⟨rfl, trivial⟩
  · exact ⟨rfl, .inr ⟨rfl, rfl, rfl, rfl, rfl, Nat.le_refl _, fun i hi => rfl⟩, trivial⟩
  · (repeat' first | exact trivial | exact rfl | exact sh0 rfl | exact Nat.le_refl _ | exact .inl shA | exact .inr ⟨rfl, rfl, rfl, rfl, rfl⟩ | exact .inl shB | exact fun h => h | refine ⟨?_, ?_, ?_, .inl ?_⟩ | refine ⟨?_, ?_⟩ | refine fun ii hii => ?_ | omega | fail)
  refine (LCalls.frame (H := [diskR τ x, none]) (crash' τ x hi.toWf 2 pk2) [0] rfl ⟨rfl, trivial⟩).mono ?_
  rintro _ _ ⟨_, _, ⟨rfl, rfl⟩, rfl, rfl⟩
  exact ⟨rfl, rfl⟩
theorem zeros_bytes : Lh.bytesOf (fun i => (fun _ => .one (.int .u8 0) .nil) (0 + i)) 100 = bs (List.replicate 100 0) := rfl
set_option maxHeartbeats 1000000 in
theorem awake : LCalls Try.prog 36 .nil [] (fun e h' => e = .ret (.bool true) ∧ h' = []) := by
  obtain ⟨y1, L1, y2, L2, y3, L3, y4, L4, z, M1, z1, M2, z2, M3, w, N1, v, N2, ⟨s1, p1, k1, e1⟩, ⟨s2, p2, k2, e2⟩, ⟨s3, p3, k3, e3, n3, fl3, g3, p3'⟩, ⟨s4, k4, e4⟩, ⟨s5, s5', p5, k5, e5⟩, ⟨s6, p6, k6, e6⟩, ⟨s7, k7, e7⟩, ⟨s8, s8', p8, e8, n8⟩, e9⟩ := aw
  refine LCalls.tell ?_; refine enter36 rfl ?_; conv => whnf
  refine LCalls.use (new_ok' 8 (by omega) (by omega)) [] rfl rfl trivial ?_
  rintro _ _ ⟨τ, rfl, rfl⟩
  conv => whnf
  refine LCalls.use (OpenOk τ (fresh 8) (St_fresh (by omega)) 0 8 1 (by decide) (by simp [fresh]) e1) [0] rfl rfl ⟨rfl, trivial⟩ ?_
  rintro _ _ ⟨rfl, rfl⟩
  conv => whnf
  refine LCalls.use (AppE τ y1 L1 k1 [97, 98] (by decide) (by omega) e2) [0, 1] rfl rfl ⟨rfl, rfl, trivial⟩ ?_
  rintro _ _ ⟨rfl, rfl⟩
  conv => whnf
  refine ⟨by decide, ?_⟩
  conv => whnf
  refine ⟨by decide, ?_⟩
  conv => whnf
  refine ⟨fun i _ => rfl, ?_⟩
  conv => whnf
  refine LCalls.use (AppE τ y2 L2 k2 (List.replicate 100 0) (by decide) (by omega) e3) [0, 1] rfl rfl ⟨rfl, rfl, trivial⟩ ?_
  rintro _ _ ⟨rfl, rfl⟩
  conv => whnf
  refine LCalls.use (Next τ L3) [1] rfl rfl ⟨rfl, trivial⟩ ?_
  rintro _ _ ⟨rfl, rfl⟩
  conv => whnf
  refine LCalls.use (Sync τ y3 s3.inv L3) [0, 1] rfl rfl ⟨rfl, rfl, trivial⟩ ?_
  rintro _ _ ⟨rfl, rfl⟩
  conv => whnf
  rewrite [fl3]
  refine LCalls.use (AppE τ (flD y3) L3 k3 [99] (by decide) (by omega) e4) [0, 1] rfl rfl ⟨rfl, rfl, trivial⟩ ?_
  rintro _ _ ⟨rfl, rfl⟩
  conv => whnf
  refine LCalls.use (crashN τ y4 s4.inv) [0] rfl rfl ⟨rfl, trivial⟩ ?_
  rintro _ _ ⟨rfl, rfl⟩
  conv => whnf
  refine LCalls.use (OpenOk τ _ s5 0 8 1 (by decide) (by show 0 + 1 < 1000000; decide) e5) [0] rfl rfl ⟨rfl, trivial⟩ ?_
  rintro _ _ ⟨rfl, rfl⟩
  conv => whnf
  refine LCalls.use (AppE τ z M1 k5 [100] (by decide) (by omega) e6) [0, 3] rfl rfl ⟨rfl, rfl, trivial⟩ ?_
  rintro _ _ ⟨rfl, rfl⟩
  conv => whnf
  refine LCalls.use (AppE τ z1 M2 k6 [101] (by decide) (by omega) e7) [0, 3] rfl rfl ⟨rfl, rfl, trivial⟩ ?_
  rintro _ _ ⟨rfl, rfl⟩
  conv => whnf
  refine LCalls.use (crash2 τ z2 s7.inv) [0, 4] rfl rfl ⟨rfl, (congrArg some (o2b_ren _)).symm, trivial⟩ ?_
  rintro _ _ ⟨rfl, rfl⟩
  conv => whnf
  refine LCalls.use (OpenOk τ _ s8 0 8 1 (by decide) (by show 0 + 1 < 1000000; decide) e8) [0] rfl rfl ⟨rfl, trivial⟩ ?_
  rintro _ _ ⟨rfl, rfl⟩
  conv => whnf
  refine LCalls.use (Life τ N1) [5] rfl rfl ⟨rfl, trivial⟩ ?_
  rintro _ _ ⟨rfl, rfl⟩
  conv => whnf
  rewrite [n8]
  refine LCalls.use (OpenOk τ w s8' 0 8 2 (by decide) (by omega) e9) [0] rfl rfl ⟨rfl, trivial⟩ ?_
  rintro _ _ ⟨rfl, rfl⟩
  conv => whnf
  rewrite [n3]
  conv => whnf
  refine ⟨by decide, ?_⟩
  conv => whnf
  refine ⟨by decide, ?_⟩
  conv => whnf
  refine ⟨[], _, _, rfl, rfl, ?_, ?_, rfl, rfl⟩
  · (repeat' first | exact trivial | exact rfl | exact sh0 rfl | exact Nat.le_refl _ | exact .inl shA | exact .inr ⟨rfl, rfl, rfl, rfl, rfl⟩ | exact .inl shB | exact fun h => h | refine ⟨?_, ?_, ?_, .inl ?_⟩ | refine ⟨?_, ?_⟩ | refine fun ii hii => ?_ | omega | fail)
  · (repeat' first | exact trivial | exact rfl | exact sh0 rfl | exact Nat.le_refl _ | exact .inl shA | exact .inr ⟨rfl, rfl, rfl, rfl, rfl⟩ | exact .inl shB | exact fun h => h | refine ⟨?_, ?_, ?_, .inl ?_⟩ | refine ⟨?_, ?_⟩ | refine fun ii hii => ?_ | omega | fail)
end Go.Proofs.Ytilmfhpoiejmfaa.Gk
