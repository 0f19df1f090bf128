/- The laws of the log: an act by both. By this session. -/
import Derived.Test.YtilmfhpoiejmfaaJi
namespace Go.Proofs.Ytilmfhpoiejmfaa.Gk
open Go.Proofs.Ytilmfhpoiejmfaa.Lh Go.RowKit Go.Proofs.Ytilmfhpoiejmfaa.Lg Go.Proofs.Ytilmfhpoiejmfaa.Gdk
open Go.Proofs.Ytilmfhpoiejmfaa.Dk (Disk Sec nought diskR wrE wrD wrN wrS wrE_ok hasB_nat flE flD goesB went went_same went_pend crashed picked armed armE arm' rArm_x crash' rCrash_x keepQ boolS bytesV byteR bytesO refO rsO rpO refH rFlush_x rWrite_ok rWrite_no writeS' writeR' wrD_pend wrD_len Inv Inv_wrD)
set_option maxRecDepth 100000
set_option linter.unusedSimpArgs false
set_option linter.unusedSectionVars false
set_option linter.unusedVariables false
structure Deed where
  d : Int
  a : Int
  n : Int
  r : Lg.Bs
  ep : Int
  li : Int
  nk : Nat
  k : Nat → Bool
instance : Inhabited Deed := ⟨⟨0, 0, 0, [], 0, 0, 0, fun _ => false⟩⟩
theorem fB_lt (l : Bs) (i : Nat) : fB l i < 256 := (l.getD i 0).toNat_lt
variable [Fz]
theorem St_wrM {x : Disk} (h : St x) (n : Int) {f : F8} (hf : ∀ i, f i < 256) (m : Nat) (hp : x.pend.length < 1000000) : St (wrD x n (toS f) m) :=
  ⟨Inv_wrD h.inv n _ m hp, by_wrD h.by_ n (fun i hi => by_toS hf i m hi), by rw [wrD_len]; exact h.few⟩
def deedS (a : Deed) : Segs := .one (.int .i64 a.d) (.one (.int .i64 a.a) (.one (.int .i64 a.n) (.one (.str (bs a.r)) (.one (.int .u32 a.ep) (.one (.int .u32 a.li) (.one (boolS a.nk a.k) .nil))))))
def deedsV (l : List Deed) : LVal := .rsl l.length 7 (fun i => deedS (l.getD i default))
structure DeedR (a : Deed) : Prop where
  r : a.r.length ≤ 140737488351232
  ep : 0 ≤ a.ep ∧ a.ep < 4294967296
  li : 0 ≤ a.li ∧ a.li < 4294967296
section
variable (τ : Nat) (first count : Int) (ep : Nat)
def sA (y : Disk) (L : LgS) : LHeap := [diskR τ y, refO 2 3 y, rsO y.last, rpO y.pend, bothO τ first count ep (.ptr ⟨5, [], 0⟩) (.ptr ⟨6, [], 0⟩), lgO τ L, rlgO 1 L]
def sB (y : Disk) (L : LgS) : LHeap := [diskR τ y, refO 2 7 y, rsO y.last, none, bothO τ first count ep (.ptr ⟨5, [], 0⟩) (.ptr ⟨6, [], 0⟩), lgO τ L, rlgO 1 L, rpO y.pend]
def DoesR (k : Nat) (e : LEnd) (h' : LHeap) : Prop := e = .ret (.bool true) ∧ ∃ y, St y ∧ y.pend.length ≤ k ∧ ((∃ L, LgOk L ∧ (h' = sA τ first count ep y L ∨ h' = sB τ first count ep y L ∨ h' = opnH τ first count ep y L)) ∨ h' = nilA τ first count ep y ∨ h' = nilB τ first count ep y)
end
set_option maxHeartbeats 2000000 in
theorem doesS (τ : Nat) (x : Disk) (st : St x) (L : LgS) (ok : LgOk L) (first count : Int) (hf : 0 ≤ first ∧ first ≤ 4096) (ep : Nat) (hep : ep < 4294967296) (hp : x.pend.length + 60 < 1000000) (dd : Deed) (hd : DeedR dd) (ha : 0 ≤ dd.a) : LCalls Try.prog 47 (.cons (.ptr ⟨4, [], 0⟩) (.cons (.agg (deedS dd)) .nil)) (sA τ first count ep x L) (DoesR τ first count ep (x.pend.length + 50)) := by
  have hb := hd.r
  unfold sA
  refine LCalls.tell ?_; refine enter47 rfl ?_; conv => whnf
  by_cases d1 : dd.d = 1
  · rewrite [show (dd.d == 1) = true from beq_iff_eq.2 (by omega)]
    conv => whnf
    rewrite [show (dd.d == 1) = true from beq_iff_eq.2 (by omega)]
    conv => whnf
    obtain ⟨y, L2, c, e2⟩ : ∃ y L2 c, appP x L dd.r = (y, L2, c) := ⟨_, _, _, rfl⟩
    have AO := app_ok st ok dd.r (by omega)
    have AO1 := AO.st
    have AO2 := AO.ok
    have AO3 := AO.pend
    have key := rAppend x st.inv L ok dd.r (by omega) (by omega)
    rw [e2] at AO1 AO2 AO3 key
    dsimp only at AO1 AO2 AO3
    refine LCalls.use (AppE τ x L ok dd.r (by omega) (by omega) e2) [0, 5] rfl rfl ⟨rfl, rfl, trivial⟩ ?_
    rintro _ _ ⟨rfl, rfl⟩
    conv => whnf
    refine LCalls.use key [1, 2, 3, 6] rfl rfl ⟨rfl, rfl, rfl, rfl, trivial⟩ ?_
    rintro _ _ ⟨rfl, (rfl | rfl)⟩
    · conv => whnf
      rewrite [show (c == c) = true from by simp]
      refine ⟨[0, 1, 2, 3, 4, 5, 6], _, _, rfl, rfl, ?_, ?_, rfl, y, AO1, by omega, .inl ⟨L2, AO2, .inl rfl⟩⟩
      · (repeat' first | exact trivial | exact rfl | exact sh0 rfl | exact Nat.le_refl _ | exact .inl shA | exact .inr ⟨rfl, rfl, rfl, rfl, rfl⟩ | exact .inl shB | exact fun h => h | refine ⟨?_, ?_, ?_, .inl ?_⟩ | refine ⟨?_, ?_⟩ | refine fun ii hii => ?_ | omega | fail)
      · (repeat' first | exact trivial | exact rfl | exact sh0 rfl | exact Nat.le_refl _ | exact .inl shA | exact .inr ⟨rfl, rfl, rfl, rfl, rfl⟩ | exact .inl shB | exact fun h => h | refine ⟨?_, ?_, ?_, .inl ?_⟩ | refine ⟨?_, ?_⟩ | refine fun ii hii => ?_ | omega | fail)
    · conv => whnf
      rewrite [show (c == c) = true from by simp]
      refine ⟨[0, 1, 2, 3, 4, 5, 6, 8], _, _, rfl, rfl, ?_, ?_, rfl, y, AO1, by omega, .inl ⟨L2, AO2, .inr (.inl rfl)⟩⟩
      · (repeat' first | exact trivial | exact rfl | exact sh0 rfl | exact Nat.le_refl _ | exact .inl shA | exact .inr ⟨rfl, rfl, rfl, rfl, rfl⟩ | exact .inl shB | exact fun h => h | refine ⟨?_, ?_, ?_, .inl ?_⟩ | refine ⟨?_, ?_⟩ | refine fun ii hii => ?_ | omega | fail)
      · (repeat' first | exact trivial | exact rfl | exact sh0 rfl | exact Nat.le_refl _ | exact .inl shA | exact .inr ⟨rfl, rfl, rfl, rfl, rfl⟩ | exact .inl shB | exact fun h => h | refine ⟨?_, ?_, ?_, .inl ?_⟩ | refine ⟨?_, ?_⟩ | refine fun ii hii => ?_ | omega | fail)
  rewrite [show (dd.d == 1) = false from beq_eq_false_iff_ne.2 (by omega)]
  conv => whnf
  by_cases d2 : dd.d = 2
  · rewrite [show (dd.d == 2) = true from beq_iff_eq.2 (by omega)]
    conv => whnf
    rewrite [show (dd.d == 1) = false from beq_eq_false_iff_ne.2 (by omega)]
    conv => whnf
    have fp := flD_pend x
    refine LCalls.use (Sync τ x st.inv L) [0, 5] rfl rfl ⟨rfl, rfl, trivial⟩ ?_
    rintro _ _ ⟨rfl, rfl⟩
    conv => whnf
    refine LCalls.use (rFlush_x x st.inv.toWf) [1, 2, 3] rfl rfl ⟨rfl, rfl, rfl, trivial⟩ ?_
    rintro _ _ ⟨rfl, rfl⟩
    conv => whnf
    rewrite [show (flE x == flE x) = true from by simp]
    refine ⟨[0, 1, 2, 3, 4, 5, 6], _, _, rfl, rfl, ?_, ?_, rfl, flD x, St_flD st, by omega, .inl ⟨L, ok, .inl rfl⟩⟩
    · (repeat' first | exact trivial | exact rfl | exact sh0 rfl | exact Nat.le_refl _ | exact .inl shA | exact .inr ⟨rfl, rfl, rfl, rfl, rfl⟩ | exact .inl shB | exact fun h => h | refine ⟨?_, ?_, ?_, .inl ?_⟩ | refine ⟨?_, ?_⟩ | refine fun ii hii => ?_ | omega | fail)
    · (repeat' first | exact trivial | exact rfl | exact sh0 rfl | exact Nat.le_refl _ | exact .inl shA | exact .inr ⟨rfl, rfl, rfl, rfl, rfl⟩ | exact .inl shB | exact fun h => h | refine ⟨?_, ?_, ?_, .inl ?_⟩ | refine ⟨?_, ?_⟩ | refine fun ii hii => ?_ | omega | fail)
  rewrite [show (dd.d == 2) = false from beq_eq_false_iff_ne.2 (by omega)]
  conv => whnf
  by_cases d3 : dd.d = 3
  · rewrite [show (dd.d == 3) = true from beq_iff_eq.2 (by omega)]
    conv => whnf
    refine LCalls.use (crash' τ x st.inv.toWf dd.nk dd.k) [0] rfl rfl ⟨rfl, trivial⟩ ?_
    rintro _ _ ⟨rfl, rfl⟩
    conv => whnf
    refine LCalls.use (rCrash_x x st.inv.toWf dd.nk dd.k) [1, 2, 3] rfl rfl ⟨rfl, rfl, rfl, trivial⟩ ?_
    rintro _ _ ⟨rfl, rfl⟩
    conv => whnf
    rewrite [show (((picked (keepQ dd.nk dd.k) x.pend).length : Int) != ((picked (keepQ dd.nk dd.k) x.pend).length : Int)) = false from by simp]
    conv => whnf
    rewrite [show (dd.d == 3) = true from beq_iff_eq.2 (by omega)]
    conv => whnf
    obtain ⟨zz, hzz⟩ : ∃ zz, zz = crashed x (keepQ dd.nk dd.k) := ⟨_, rfl⟩
    have sz := St_crashed st (keepQ dd.nk dd.k)
    have pz : (crashed x (keepQ dd.nk dd.k)).pend.length = 0 := rfl
    rw [← hzz] at sz pz ⊢
    have oo := op_ok sz first count hep (by omega)
    have po := oo.pend
    refine LCalls.use (opened τ zz sz first count ep hep (by omega) (.ptr ⟨5, [], 0⟩) (.ptr ⟨6, [], 0⟩) (lgO τ L) (rlgO 1 L)) [0, 1, 2, 3, 4, 5, 6] rfl rfl ⟨rfl, rfl, rfl, rfl, rfl, rfl, rfl, trivial⟩ ?_
    rintro _ _ ⟨rfl, (⟨h0, rfl⟩ | rfl | rfl)⟩
    · conv => whnf
      refine ⟨[0, 1, 2, 3, 4, 5, 6, 8, 9, 10], _, _, rfl, rfl, ?_, ?_, rfl, (openP zz first count ep).y, oo.st, by omega, .inl ⟨(openP zz first count ep).L, oo.ok h0, .inr (.inr rfl)⟩⟩
      · (repeat' first | exact trivial | exact rfl | exact sh0 rfl | exact Nat.le_refl _ | exact .inl shA | exact .inr ⟨rfl, rfl, rfl, rfl, rfl⟩ | exact .inl shB | exact fun h => h | refine ⟨?_, ?_, ?_, .inl ?_⟩ | refine ⟨?_, ?_⟩ | refine fun ii hii => ?_ | omega | fail)
      · (repeat' first | exact trivial | exact rfl | exact sh0 rfl | exact Nat.le_refl _ | exact .inl shA | exact .inr ⟨rfl, rfl, rfl, rfl, rfl⟩ | exact .inl shB | exact fun h => h | refine ⟨?_, ?_, ?_, .inl ?_⟩ | refine ⟨?_, ?_⟩ | refine fun ii hii => ?_ | omega | fail)
    · conv => whnf
      refine ⟨[0, 1, 2, 3, 4, 5, 6], _, _, rfl, rfl, ?_, ?_, rfl, (openP zz first count ep).y, oo.st, by omega, .inr (.inl rfl)⟩
      · (repeat' first | exact trivial | exact rfl | exact sh0 rfl | exact Nat.le_refl _ | exact .inl shA | exact .inr ⟨rfl, rfl, rfl, rfl, rfl⟩ | exact .inl shB | exact fun h => h | refine ⟨?_, ?_, ?_, .inl ?_⟩ | refine ⟨?_, ?_⟩ | refine fun ii hii => ?_ | omega | fail)
      · (repeat' first | exact trivial | exact rfl | exact sh0 rfl | exact Nat.le_refl _ | exact .inl shA | exact .inr ⟨rfl, rfl, rfl, rfl, rfl⟩ | exact .inl shB | exact fun h => h | refine ⟨?_, ?_, ?_, .inl ?_⟩ | refine ⟨?_, ?_⟩ | refine fun ii hii => ?_ | omega | fail)
    · conv => whnf
      refine ⟨[0, 1, 2, 3, 4, 5, 6, 8], _, _, rfl, rfl, ?_, ?_, rfl, (openP zz first count ep).y, oo.st, by omega, .inr (.inr rfl)⟩
      · (repeat' first | exact trivial | exact rfl | exact sh0 rfl | exact Nat.le_refl _ | exact .inl shA | exact .inr ⟨rfl, rfl, rfl, rfl, rfl⟩ | exact .inl shB | exact fun h => h | refine ⟨?_, ?_, ?_, .inl ?_⟩ | refine ⟨?_, ?_⟩ | refine fun ii hii => ?_ | omega | fail)
      · (repeat' first | exact trivial | exact rfl | exact sh0 rfl | exact Nat.le_refl _ | exact .inl shA | exact .inr ⟨rfl, rfl, rfl, rfl, rfl⟩ | exact .inl shB | exact fun h => h | refine ⟨?_, ?_, ?_, .inl ?_⟩ | refine ⟨?_, ?_⟩ | refine fun ii hii => ?_ | omega | fail)
  rewrite [show (dd.d == 3) = false from beq_eq_false_iff_ne.2 (by omega)]
  conv => whnf
  by_cases d4 : dd.d = 4
  · rewrite [show (dd.d == 4) = true from beq_iff_eq.2 (by omega)]
    conv => whnf
    refine LCalls.use (crash' τ x st.inv.toWf dd.nk dd.k) [0] rfl rfl ⟨rfl, trivial⟩ ?_
    rintro _ _ ⟨rfl, rfl⟩
    conv => whnf
    refine LCalls.use (rCrash_x x st.inv.toWf dd.nk dd.k) [1, 2, 3] rfl rfl ⟨rfl, rfl, rfl, trivial⟩ ?_
    rintro _ _ ⟨rfl, rfl⟩
    conv => whnf
    rewrite [show (((picked (keepQ dd.nk dd.k) x.pend).length : Int) != ((picked (keepQ dd.nk dd.k) x.pend).length : Int)) = false from by simp]
    conv => whnf
    rewrite [show (dd.d == 3) = false from beq_eq_false_iff_ne.2 (by omega)]
    conv => whnf
    refine ⟨[0, 1, 2, 3, 4, 5, 6], _, _, rfl, rfl, ?_, ?_, rfl, crashed x (keepQ dd.nk dd.k), St_crashed st _, Nat.zero_le _, .inl ⟨L, ok, .inl rfl⟩⟩
    · (repeat' first | exact trivial | exact rfl | exact sh0 rfl | exact Nat.le_refl _ | exact .inl shA | exact .inr ⟨rfl, rfl, rfl, rfl, rfl⟩ | exact .inl shB | exact fun h => h | refine ⟨?_, ?_, ?_, .inl ?_⟩ | refine ⟨?_, ?_⟩ | refine fun ii hii => ?_ | omega | fail)
    · (repeat' first | exact trivial | exact rfl | exact sh0 rfl | exact Nat.le_refl _ | exact .inl shA | exact .inr ⟨rfl, rfl, rfl, rfl, rfl⟩ | exact .inl shB | exact fun h => h | refine ⟨?_, ?_, ?_, .inl ?_⟩ | refine ⟨?_, ?_⟩ | refine fun ii hii => ?_ | omega | fail)
  rewrite [show (dd.d == 4) = false from beq_eq_false_iff_ne.2 (by omega)]
  conv => whnf
  by_cases d5 : dd.d = 5
  · rewrite [show (dd.d == 5) = true from beq_iff_eq.2 (by omega)]
    conv => whnf
    have ap := (armed_len x dd.n).2
    refine LCalls.use (arm' τ x dd.n) [0] rfl rfl ⟨rfl, trivial⟩ ?_
    rintro _ _ ⟨rfl, rfl⟩
    conv => whnf
    refine LCalls.use (rArm_x x dd.n) [1, 2, 3] rfl rfl ⟨rfl, rfl, rfl, trivial⟩ ?_
    rintro _ _ ⟨rfl, rfl⟩
    conv => whnf
    rewrite [show (armE x dd.n == armE x dd.n) = true from by simp]
    refine ⟨[0, 1, 2, 3, 4, 5, 6], _, _, rfl, rfl, ?_, ?_, rfl, armed x dd.n, St_armed st _, by omega, .inl ⟨L, ok, .inl rfl⟩⟩
    · (repeat' first | exact trivial | exact rfl | exact sh0 rfl | exact Nat.le_refl _ | exact .inl shA | exact .inr ⟨rfl, rfl, rfl, rfl, rfl⟩ | exact .inl shB | exact fun h => h | refine ⟨?_, ?_, ?_, .inl ?_⟩ | refine ⟨?_, ?_⟩ | refine fun ii hii => ?_ | omega | fail)
    · (repeat' first | exact trivial | exact rfl | exact sh0 rfl | exact Nat.le_refl _ | exact .inl shA | exact .inr ⟨rfl, rfl, rfl, rfl, rfl⟩ | exact .inl shB | exact fun h => h | refine ⟨?_, ?_, ?_, .inl ?_⟩ | refine ⟨?_, ?_⟩ | refine fun ii hii => ?_ | omega | fail)
  rewrite [show (dd.d == 5) = false from beq_eq_false_iff_ne.2 (by omega)]
  conv => whnf
  by_cases d6 : dd.d = 6
  · rewrite [show (dd.d == 6) = true from beq_iff_eq.2 (by omega)]
    conv => whnf
    refine LCalls.use (writeS' τ x dd.a (toS (fB dd.r)) dd.r.length (by omega)) [0, 16] rfl rfl ⟨rfl, rfl, trivial⟩ ?_
    rintro _ _ ⟨rfl, rfl⟩
    conv => whnf
    have hw := wrD_pend x dd.a (toS (fB dd.r)) dd.r.length
    have hz := St_wrM st dd.a (fB_lt dd.r) dd.r.length (by omega)
    by_cases he : wrE x dd.a dd.r.length = 0
    case neg =>
      have ey : wrD x dd.a (toS (fB dd.r)) dd.r.length = wrN x dd.a dd.r.length := by unfold Dk.wrD; rw [if_neg he]
      rw [ey] at hw hz ⊢
      refine LCalls.use (rWriteS_no x st.inv.len dd.a (toS (fB dd.r)) dd.r.length he) [1, 2, 3, 25] rfl rfl ⟨rfl, rfl, rfl, rfl, trivial⟩ ?_
      rintro _ _ ⟨rfl, rfl⟩
      conv => whnf
      rewrite [show (wrE x dd.a dd.r.length == wrE x dd.a dd.r.length) = true from by simp]
      refine ⟨[0, 1, 2, 3, 4, 5, 6], _, _, rfl, rfl, ?_, ?_, rfl, wrN x dd.a dd.r.length, hz, by omega, .inl ⟨L, ok, .inl rfl⟩⟩
      · (repeat' first | exact trivial | exact rfl | exact sh0 rfl | exact Nat.le_refl _ | exact .inl shA | exact .inr ⟨rfl, rfl, rfl, rfl, rfl⟩ | exact .inl shB | exact fun h => h | refine ⟨?_, ?_, ?_, .inl ?_⟩ | refine ⟨?_, ?_⟩ | refine fun ii hii => ?_ | omega | fail)
      · (repeat' first | exact trivial | exact rfl | exact sh0 rfl | exact Nat.le_refl _ | exact .inl shA | exact .inr ⟨rfl, rfl, rfl, rfl, rfl⟩ | exact .inl shB | exact fun h => h | refine ⟨?_, ?_, ?_, .inl ?_⟩ | refine ⟨?_, ?_⟩ | refine fun ii hii => ?_ | omega | fail)
    obtain ⟨g1, g2, g3, g4⟩ := wrE_ok he
    obtain ⟨kk, hkk, h5⟩ := hasB_nat g2
    have ey : wrD x dd.a (toS (fB dd.r)) dd.r.length = wrS (went x) kk (toS (fB dd.r)) dd.r.length := by unfold Dk.wrD; rw [if_pos he, hkk, Int.toNat_natCast]
    rw [ey] at hw hz ⊢
    rewrite [he]
    have key := rWriteS_ok x kk (toS (fB dd.r)) dd.r.length g1 (by rw [st.inv.len]; exact h5) g3 g4 (by omega)
    obtain ⟨v, hv⟩ : ∃ v, v = wrS (went x) kk (toS (fB dd.r)) dd.r.length := ⟨_, rfl⟩
    rw [← hv] at hw hz key ⊢
    rw [← hkk] at key
    refine LCalls.use key [1, 2, 3, 25] rfl rfl ⟨rfl, rfl, rfl, rfl, trivial⟩ ?_
    rintro _ _ ⟨rfl, rfl⟩
    conv => whnf
    refine ⟨[0, 1, 2, 3, 4, 5, 6, 26], _, _, rfl, rfl, ?_, ?_, rfl, v, hz, by omega, .inl ⟨L, ok, .inr (.inl rfl)⟩⟩
    · (repeat' first | exact trivial | exact rfl | exact sh0 rfl | exact Nat.le_refl _ | exact .inl shA | exact .inr ⟨rfl, rfl, rfl, rfl, rfl⟩ | exact .inl shB | exact fun h => h | refine ⟨?_, ?_, ?_, .inl ?_⟩ | refine ⟨?_, ?_⟩ | refine fun ii hii => ?_ | omega | fail)
    · (repeat' first | exact trivial | exact rfl | exact sh0 rfl | exact Nat.le_refl _ | exact .inl shA | exact .inr ⟨rfl, rfl, rfl, rfl, rfl⟩ | exact .inl shB | exact fun h => h | refine ⟨?_, ?_, ?_, .inl ?_⟩ | refine ⟨?_, ?_⟩ | refine fun ii hii => ?_ | omega | fail)
  rewrite [show (dd.d == 6) = false from beq_eq_false_iff_ne.2 (by omega)]
  conv => whnf
  by_cases d7 : dd.d = 7
  · rewrite [show (dd.d == 7) = true from beq_iff_eq.2 (by omega)]
    conv => whnf
    obtain ⟨e7, he7, hl7⟩ : ∃ e : Nat, dd.ep = e ∧ e < 4294967296 := ⟨dd.ep.toNat, by have := hd.ep; omega, by have := hd.ep; omega⟩
    obtain ⟨i7, hi7, hj7⟩ : ∃ e : Nat, dd.li = e ∧ e < 4294967296 := ⟨dd.li.toNat, by have := hd.li; omega, by have := hd.li; omega⟩
    obtain ⟨a7, ha7⟩ : ∃ e : Nat, dd.a = e := ⟨dd.a.toNat, by omega⟩
    obtain ⟨f7, hf7⟩ : ∃ e : Nat, first = e := ⟨first.toNat, by omega⟩
    have hrem : ((a7 : Int)).tmod 4096 = ((a7 % 4096 : Nat) : Int) := rfl
    have hsum : IntKind.i64.wrap (first + ((a7 % 4096 : Nat) : Int)) = ((f7 + a7 % 4096 : Nat) : Int) := by rw [w64 (by omega)]; omega
    have hmin : (if (48 : Int) < (dd.r.length : Int) then (48 : Int) else (dd.r.length : Int)) = ((min dd.r.length 48 : Nat) : Int) := by split <;> omega
    have hlen : (dd.r.take (min dd.r.length 48)).length ≤ 48 := by rw [List.length_take]; omega
    rewrite [ha7, hrem]
    refine ⟨by decide, ?_⟩
    conv => whnf
    rewrite [bs_size, hmin]
    refine ⟨by omega, ?_⟩
    rewrite [Int.toNat_natCast]
    conv => whnf
    refine ⟨⟨by omega, by omega⟩, ?_⟩
    rewrite [bs_extract, List.drop_zero, Nat.sub_zero]
    conv => whnf
    obtain ⟨q, hq⟩ : ∃ q, q = dd.r.take (min dd.r.length 48) := ⟨_, rfl⟩
    rw [← hq] at hlen ⊢
    rewrite [he7, hi7]
    refine LCalls.use (MadeS e7 i7 ((a7 % 4096 : Nat) : Int) dd.n q hl7 hj7 ⟨by omega, by omega⟩ hlen) [24] rfl rfl ⟨rfl, trivial⟩ ?_
    rintro _ _ ⟨rfl, rfl⟩
    conv => whnf
    have hflt : ∀ i, enc e7 i7 ((a7 % 4096 : Nat) : Int).toNat ((dd.n % 256).toNat) q.length q i < 256 := fun i => enc_lt (by omega) (by omega) i
    obtain ⟨f, hff⟩ : ∃ f, f = enc e7 i7 ((a7 % 4096 : Nat) : Int).toNat ((dd.n % 256).toNat) q.length q := ⟨_, rfl⟩
    rw [← hff] at hflt ⊢
    rewrite [ha7, hrem]
    refine ⟨by decide, ?_⟩
    conv => whnf
    rewrite [hsum]
    refine LCalls.use (writeR' τ x ((f7 + a7 % 4096 : Nat) : Int) (toS f) 64 (by omega)) [0] rfl rfl ⟨rfl, trivial⟩ ?_
    rintro _ _ ⟨rfl, rfl⟩
    conv => whnf
    rewrite [ha7, hrem]
    refine ⟨by decide, ?_⟩
    conv => whnf
    rewrite [hsum]
    have hw := wrD_pend x ((f7 + a7 % 4096 : Nat) : Int) (toS f) 64
    have hz := St_wrD st ((f7 + a7 % 4096 : Nat) : Int) hflt (by omega)
    by_cases he : wrE x ((f7 + a7 % 4096 : Nat) : Int) 64 = 0
    case neg =>
      have ey : wrD x ((f7 + a7 % 4096 : Nat) : Int) (toS f) 64 = wrN x ((f7 + a7 % 4096 : Nat) : Int) 64 := by unfold Dk.wrD; rw [if_neg he]
      rw [ey] at hw hz ⊢
      refine LCalls.use (rWrite_no x st.inv.len ((f7 + a7 % 4096 : Nat) : Int) (toS f) 64 he) [1, 2, 3] rfl rfl ⟨rfl, rfl, rfl, trivial⟩ ?_
      rintro _ _ ⟨rfl, rfl⟩
      conv => whnf
      rewrite [show (wrE x ((f7 + a7 % 4096 : Nat) : Int) 64 == wrE x ((f7 + a7 % 4096 : Nat) : Int) 64) = true from by simp]
      refine ⟨[0, 1, 2, 3, 4, 5, 6], _, _, rfl, rfl, ?_, ?_, rfl, wrN x ((f7 + a7 % 4096 : Nat) : Int) 64, hz, by omega, .inl ⟨L, ok, .inl rfl⟩⟩
      · (repeat' first | exact trivial | exact rfl | exact sh0 rfl | exact Nat.le_refl _ | exact .inl shA | exact .inr ⟨rfl, rfl, rfl, rfl, rfl⟩ | exact .inl shB | exact fun h => h | refine ⟨?_, ?_, ?_, .inl ?_⟩ | refine ⟨?_, ?_⟩ | refine fun ii hii => ?_ | omega | fail)
      · (repeat' first | exact trivial | exact rfl | exact sh0 rfl | exact Nat.le_refl _ | exact .inl shA | exact .inr ⟨rfl, rfl, rfl, rfl, rfl⟩ | exact .inl shB | exact fun h => h | refine ⟨?_, ?_, ?_, .inl ?_⟩ | refine ⟨?_, ?_⟩ | refine fun ii hii => ?_ | omega | fail)
    obtain ⟨g1, g2, g3, g4⟩ := wrE_ok he
    obtain ⟨kk, hkk, h5⟩ := hasB_nat g2
    have ey : wrD x ((f7 + a7 % 4096 : Nat) : Int) (toS f) 64 = wrS (went x) kk (toS f) 64 := by unfold Dk.wrD; rw [if_pos he, hkk, Int.toNat_natCast]
    rw [ey] at hw hz ⊢
    rewrite [he]
    have key := rWrite_ok x kk (toS f) 64 g1 (by rw [st.inv.len]; exact h5) g3 g4 (by omega)
    obtain ⟨v, hv⟩ : ∃ v, v = wrS (went x) kk (toS f) 64 := ⟨_, rfl⟩
    rw [← hv] at hw hz key ⊢
    rw [← hkk] at key
    refine LCalls.use key [1, 2, 3] rfl rfl ⟨rfl, rfl, rfl, trivial⟩ ?_
    rintro _ _ ⟨rfl, rfl⟩
    conv => whnf
    refine ⟨[0, 1, 2, 3, 4, 5, 6, 25], _, _, rfl, rfl, ?_, ?_, rfl, v, hz, by omega, .inl ⟨L, ok, .inr (.inl rfl)⟩⟩
    · (repeat' first | exact trivial | exact rfl | exact sh0 rfl | exact Nat.le_refl _ | exact .inl shA | exact .inr ⟨rfl, rfl, rfl, rfl, rfl⟩ | exact .inl shB | exact fun h => h | refine ⟨?_, ?_, ?_, .inl ?_⟩ | refine ⟨?_, ?_⟩ | refine fun ii hii => ?_ | omega | fail)
    · (repeat' first | exact trivial | exact rfl | exact sh0 rfl | exact Nat.le_refl _ | exact .inl shA | exact .inr ⟨rfl, rfl, rfl, rfl, rfl⟩ | exact .inl shB | exact fun h => h | refine ⟨?_, ?_, ?_, .inl ?_⟩ | refine ⟨?_, ?_⟩ | refine fun ii hii => ?_ | omega | fail)
  rewrite [show (dd.d == 7) = false from beq_eq_false_iff_ne.2 (by omega)]
  conv => whnf
  refine ⟨[0, 1, 2, 3, 4, 5, 6], _, _, rfl, rfl, ?_, ?_, rfl, x, st, by omega, .inl ⟨L, ok, .inl rfl⟩⟩
  · (repeat' first | exact trivial | exact rfl | exact sh0 rfl | exact Nat.le_refl _ | exact .inl shA | exact .inr ⟨rfl, rfl, rfl, rfl, rfl⟩ | exact .inl shB | exact fun h => h | refine ⟨?_, ?_, ?_, .inl ?_⟩ | refine ⟨?_, ?_⟩ | refine fun ii hii => ?_ | omega | fail)
  · (repeat' first | exact trivial | exact rfl | exact sh0 rfl | exact Nat.le_refl _ | exact .inl shA | exact .inr ⟨rfl, rfl, rfl, rfl, rfl⟩ | exact .inl shB | exact fun h => h | refine ⟨?_, ?_, ?_, .inl ?_⟩ | refine ⟨?_, ?_⟩ | refine fun ii hii => ?_ | omega | fail)
set_option maxHeartbeats 2000000 in
theorem doesN (τ : Nat) (x : Disk) (st : St x) (first count : Int) (hf : 0 ≤ first ∧ first ≤ 4096) (ep : Nat) (hep : ep < 4294967296) (hp : x.pend.length + 60 < 1000000) (dd : Deed) (hd : DeedR dd) (ha : 0 ≤ dd.a) : LCalls Try.prog 47 (.cons (.ptr ⟨4, [], 0⟩) (.cons (.agg (deedS dd)) .nil)) (nilA τ first count ep x) (DoesR τ first count ep (x.pend.length + 50)) := by
  have hb := hd.r
  unfold nilA
  refine LCalls.tell ?_; refine enter47 rfl ?_; conv => whnf
  by_cases d1 : dd.d = 1
  · rewrite [show (dd.d == 1) = true from beq_iff_eq.2 (by omega)]
    conv => whnf
    refine ⟨[0, 1, 2, 3, 4, 5, 6], _, _, rfl, rfl, ?_, ?_, rfl, x, st, by omega, .inr (.inl rfl)⟩
    · (repeat' first | exact trivial | exact rfl | exact sh0 rfl | exact Nat.le_refl _ | exact .inl shA | exact .inr ⟨rfl, rfl, rfl, rfl, rfl⟩ | exact .inl shB | exact fun h => h | refine ⟨?_, ?_, ?_, .inl ?_⟩ | refine ⟨?_, ?_⟩ | refine fun ii hii => ?_ | omega | fail)
    · (repeat' first | exact trivial | exact rfl | exact sh0 rfl | exact Nat.le_refl _ | exact .inl shA | exact .inr ⟨rfl, rfl, rfl, rfl, rfl⟩ | exact .inl shB | exact fun h => h | refine ⟨?_, ?_, ?_, .inl ?_⟩ | refine ⟨?_, ?_⟩ | refine fun ii hii => ?_ | omega | fail)
  rewrite [show (dd.d == 1) = false from beq_eq_false_iff_ne.2 (by omega)]
  conv => whnf
  by_cases d2 : dd.d = 2
  · rewrite [show (dd.d == 2) = true from beq_iff_eq.2 (by omega)]
    conv => whnf
    refine ⟨[0, 1, 2, 3, 4, 5, 6], _, _, rfl, rfl, ?_, ?_, rfl, x, st, by omega, .inr (.inl rfl)⟩
    · (repeat' first | exact trivial | exact rfl | exact sh0 rfl | exact Nat.le_refl _ | exact .inl shA | exact .inr ⟨rfl, rfl, rfl, rfl, rfl⟩ | exact .inl shB | exact fun h => h | refine ⟨?_, ?_, ?_, .inl ?_⟩ | refine ⟨?_, ?_⟩ | refine fun ii hii => ?_ | omega | fail)
    · (repeat' first | exact trivial | exact rfl | exact sh0 rfl | exact Nat.le_refl _ | exact .inl shA | exact .inr ⟨rfl, rfl, rfl, rfl, rfl⟩ | exact .inl shB | exact fun h => h | refine ⟨?_, ?_, ?_, .inl ?_⟩ | refine ⟨?_, ?_⟩ | refine fun ii hii => ?_ | omega | fail)
  rewrite [show (dd.d == 2) = false from beq_eq_false_iff_ne.2 (by omega)]
  conv => whnf
  by_cases d3 : dd.d = 3
  · rewrite [show (dd.d == 3) = true from beq_iff_eq.2 (by omega)]
    conv => whnf
    refine LCalls.use (crash' τ x st.inv.toWf dd.nk dd.k) [0] rfl rfl ⟨rfl, trivial⟩ ?_
    rintro _ _ ⟨rfl, rfl⟩
    conv => whnf
    refine LCalls.use (rCrash_x x st.inv.toWf dd.nk dd.k) [1, 2, 3] rfl rfl ⟨rfl, rfl, rfl, trivial⟩ ?_
    rintro _ _ ⟨rfl, rfl⟩
    conv => whnf
    rewrite [show (((picked (keepQ dd.nk dd.k) x.pend).length : Int) != ((picked (keepQ dd.nk dd.k) x.pend).length : Int)) = false from by simp]
    conv => whnf
    rewrite [show (dd.d == 3) = true from beq_iff_eq.2 (by omega)]
    conv => whnf
    obtain ⟨zz, hzz⟩ : ∃ zz, zz = crashed x (keepQ dd.nk dd.k) := ⟨_, rfl⟩
    have sz := St_crashed st (keepQ dd.nk dd.k)
    have pz : (crashed x (keepQ dd.nk dd.k)).pend.length = 0 := rfl
    rw [← hzz] at sz pz ⊢
    have oo := op_ok sz first count hep (by omega)
    have po := oo.pend
    refine LCalls.use (opened τ zz sz first count ep hep (by omega) .nilp .nilp none none) [0, 1, 2, 3, 4, 5, 6] rfl rfl ⟨rfl, rfl, rfl, rfl, rfl, trivial, trivial, trivial⟩ ?_
    rintro _ _ ⟨rfl, (⟨h0, rfl⟩ | rfl | rfl)⟩
    · conv => whnf
      refine ⟨[0, 1, 2, 3, 4, 5, 6, 8, 9, 10], _, _, rfl, rfl, ?_, ?_, rfl, (openP zz first count ep).y, oo.st, by omega, .inl ⟨(openP zz first count ep).L, oo.ok h0, .inr (.inr rfl)⟩⟩
      · (repeat' first | exact trivial | exact rfl | exact sh0 rfl | exact Nat.le_refl _ | exact .inl shA | exact .inr ⟨rfl, rfl, rfl, rfl, rfl⟩ | exact .inl shB | exact fun h => h | refine ⟨?_, ?_, ?_, .inl ?_⟩ | refine ⟨?_, ?_⟩ | refine fun ii hii => ?_ | omega | fail)
      · (repeat' first | exact trivial | exact rfl | exact sh0 rfl | exact Nat.le_refl _ | exact .inl shA | exact .inr ⟨rfl, rfl, rfl, rfl, rfl⟩ | exact .inl shB | exact fun h => h | refine ⟨?_, ?_, ?_, .inl ?_⟩ | refine ⟨?_, ?_⟩ | refine fun ii hii => ?_ | omega | fail)
    · conv => whnf
      refine ⟨[0, 1, 2, 3, 4, 5, 6], _, _, rfl, rfl, ?_, ?_, rfl, (openP zz first count ep).y, oo.st, by omega, .inr (.inl rfl)⟩
      · (repeat' first | exact trivial | exact rfl | exact sh0 rfl | exact Nat.le_refl _ | exact .inl shA | exact .inr ⟨rfl, rfl, rfl, rfl, rfl⟩ | exact .inl shB | exact fun h => h | refine ⟨?_, ?_, ?_, .inl ?_⟩ | refine ⟨?_, ?_⟩ | refine fun ii hii => ?_ | omega | fail)
      · (repeat' first | exact trivial | exact rfl | exact sh0 rfl | exact Nat.le_refl _ | exact .inl shA | exact .inr ⟨rfl, rfl, rfl, rfl, rfl⟩ | exact .inl shB | exact fun h => h | refine ⟨?_, ?_, ?_, .inl ?_⟩ | refine ⟨?_, ?_⟩ | refine fun ii hii => ?_ | omega | fail)
    · conv => whnf
      refine ⟨[0, 1, 2, 3, 4, 5, 6, 8], _, _, rfl, rfl, ?_, ?_, rfl, (openP zz first count ep).y, oo.st, by omega, .inr (.inr rfl)⟩
      · (repeat' first | exact trivial | exact rfl | exact sh0 rfl | exact Nat.le_refl _ | exact .inl shA | exact .inr ⟨rfl, rfl, rfl, rfl, rfl⟩ | exact .inl shB | exact fun h => h | refine ⟨?_, ?_, ?_, .inl ?_⟩ | refine ⟨?_, ?_⟩ | refine fun ii hii => ?_ | omega | fail)
      · (repeat' first | exact trivial | exact rfl | exact sh0 rfl | exact Nat.le_refl _ | exact .inl shA | exact .inr ⟨rfl, rfl, rfl, rfl, rfl⟩ | exact .inl shB | exact fun h => h | refine ⟨?_, ?_, ?_, .inl ?_⟩ | refine ⟨?_, ?_⟩ | refine fun ii hii => ?_ | omega | fail)
  rewrite [show (dd.d == 3) = false from beq_eq_false_iff_ne.2 (by omega)]
  conv => whnf
  by_cases d4 : dd.d = 4
  · rewrite [show (dd.d == 4) = true from beq_iff_eq.2 (by omega)]
    conv => whnf
    refine LCalls.use (crash' τ x st.inv.toWf dd.nk dd.k) [0] rfl rfl ⟨rfl, trivial⟩ ?_
    rintro _ _ ⟨rfl, rfl⟩
    conv => whnf
    refine LCalls.use (rCrash_x x st.inv.toWf dd.nk dd.k) [1, 2, 3] rfl rfl ⟨rfl, rfl, rfl, trivial⟩ ?_
    rintro _ _ ⟨rfl, rfl⟩
    conv => whnf
    rewrite [show (((picked (keepQ dd.nk dd.k) x.pend).length : Int) != ((picked (keepQ dd.nk dd.k) x.pend).length : Int)) = false from by simp]
    conv => whnf
    rewrite [show (dd.d == 3) = false from beq_eq_false_iff_ne.2 (by omega)]
    conv => whnf
    refine ⟨[0, 1, 2, 3, 4, 5, 6], _, _, rfl, rfl, ?_, ?_, rfl, crashed x (keepQ dd.nk dd.k), St_crashed st _, Nat.zero_le _, .inr (.inl rfl)⟩
    · (repeat' first | exact trivial | exact rfl | exact sh0 rfl | exact Nat.le_refl _ | exact .inl shA | exact .inr ⟨rfl, rfl, rfl, rfl, rfl⟩ | exact .inl shB | exact fun h => h | refine ⟨?_, ?_, ?_, .inl ?_⟩ | refine ⟨?_, ?_⟩ | refine fun ii hii => ?_ | omega | fail)
    · (repeat' first | exact trivial | exact rfl | exact sh0 rfl | exact Nat.le_refl _ | exact .inl shA | exact .inr ⟨rfl, rfl, rfl, rfl, rfl⟩ | exact .inl shB | exact fun h => h | refine ⟨?_, ?_, ?_, .inl ?_⟩ | refine ⟨?_, ?_⟩ | refine fun ii hii => ?_ | omega | fail)
  rewrite [show (dd.d == 4) = false from beq_eq_false_iff_ne.2 (by omega)]
  conv => whnf
  by_cases d5 : dd.d = 5
  · rewrite [show (dd.d == 5) = true from beq_iff_eq.2 (by omega)]
    conv => whnf
    have ap := (armed_len x dd.n).2
    refine LCalls.use (arm' τ x dd.n) [0] rfl rfl ⟨rfl, trivial⟩ ?_
    rintro _ _ ⟨rfl, rfl⟩
    conv => whnf
    refine LCalls.use (rArm_x x dd.n) [1, 2, 3] rfl rfl ⟨rfl, rfl, rfl, trivial⟩ ?_
    rintro _ _ ⟨rfl, rfl⟩
    conv => whnf
    rewrite [show (armE x dd.n == armE x dd.n) = true from by simp]
    refine ⟨[0, 1, 2, 3, 4, 5, 6], _, _, rfl, rfl, ?_, ?_, rfl, armed x dd.n, St_armed st _, by omega, .inr (.inl rfl)⟩
    · (repeat' first | exact trivial | exact rfl | exact sh0 rfl | exact Nat.le_refl _ | exact .inl shA | exact .inr ⟨rfl, rfl, rfl, rfl, rfl⟩ | exact .inl shB | exact fun h => h | refine ⟨?_, ?_, ?_, .inl ?_⟩ | refine ⟨?_, ?_⟩ | refine fun ii hii => ?_ | omega | fail)
    · (repeat' first | exact trivial | exact rfl | exact sh0 rfl | exact Nat.le_refl _ | exact .inl shA | exact .inr ⟨rfl, rfl, rfl, rfl, rfl⟩ | exact .inl shB | exact fun h => h | refine ⟨?_, ?_, ?_, .inl ?_⟩ | refine ⟨?_, ?_⟩ | refine fun ii hii => ?_ | omega | fail)
  rewrite [show (dd.d == 5) = false from beq_eq_false_iff_ne.2 (by omega)]
  conv => whnf
  by_cases d6 : dd.d = 6
  · rewrite [show (dd.d == 6) = true from beq_iff_eq.2 (by omega)]
    conv => whnf
    refine LCalls.use (writeS' τ x dd.a (toS (fB dd.r)) dd.r.length (by omega)) [0, 16] rfl rfl ⟨rfl, rfl, trivial⟩ ?_
    rintro _ _ ⟨rfl, rfl⟩
    conv => whnf
    have hw := wrD_pend x dd.a (toS (fB dd.r)) dd.r.length
    have hz := St_wrM st dd.a (fB_lt dd.r) dd.r.length (by omega)
    by_cases he : wrE x dd.a dd.r.length = 0
    case neg =>
      have ey : wrD x dd.a (toS (fB dd.r)) dd.r.length = wrN x dd.a dd.r.length := by unfold Dk.wrD; rw [if_neg he]
      rw [ey] at hw hz ⊢
      refine LCalls.use (rWriteS_no x st.inv.len dd.a (toS (fB dd.r)) dd.r.length he) [1, 2, 3, 25] rfl rfl ⟨rfl, rfl, rfl, rfl, trivial⟩ ?_
      rintro _ _ ⟨rfl, rfl⟩
      conv => whnf
      rewrite [show (wrE x dd.a dd.r.length == wrE x dd.a dd.r.length) = true from by simp]
      refine ⟨[0, 1, 2, 3, 4, 5, 6], _, _, rfl, rfl, ?_, ?_, rfl, wrN x dd.a dd.r.length, hz, by omega, .inr (.inl rfl)⟩
      · (repeat' first | exact trivial | exact rfl | exact sh0 rfl | exact Nat.le_refl _ | exact .inl shA | exact .inr ⟨rfl, rfl, rfl, rfl, rfl⟩ | exact .inl shB | exact fun h => h | refine ⟨?_, ?_, ?_, .inl ?_⟩ | refine ⟨?_, ?_⟩ | refine fun ii hii => ?_ | omega | fail)
      · (repeat' first | exact trivial | exact rfl | exact sh0 rfl | exact Nat.le_refl _ | exact .inl shA | exact .inr ⟨rfl, rfl, rfl, rfl, rfl⟩ | exact .inl shB | exact fun h => h | refine ⟨?_, ?_, ?_, .inl ?_⟩ | refine ⟨?_, ?_⟩ | refine fun ii hii => ?_ | omega | fail)
    obtain ⟨g1, g2, g3, g4⟩ := wrE_ok he
    obtain ⟨kk, hkk, h5⟩ := hasB_nat g2
    have ey : wrD x dd.a (toS (fB dd.r)) dd.r.length = wrS (went x) kk (toS (fB dd.r)) dd.r.length := by unfold Dk.wrD; rw [if_pos he, hkk, Int.toNat_natCast]
    rw [ey] at hw hz ⊢
    rewrite [he]
    have key := rWriteS_ok x kk (toS (fB dd.r)) dd.r.length g1 (by rw [st.inv.len]; exact h5) g3 g4 (by omega)
    obtain ⟨v, hv⟩ : ∃ v, v = wrS (went x) kk (toS (fB dd.r)) dd.r.length := ⟨_, rfl⟩
    rw [← hv] at hw hz key ⊢
    rw [← hkk] at key
    refine LCalls.use key [1, 2, 3, 25] rfl rfl ⟨rfl, rfl, rfl, rfl, trivial⟩ ?_
    rintro _ _ ⟨rfl, rfl⟩
    conv => whnf
    refine ⟨[0, 1, 2, 3, 4, 5, 6, 26], _, _, rfl, rfl, ?_, ?_, rfl, v, hz, by omega, .inr (.inr rfl)⟩
    · (repeat' first | exact trivial | exact rfl | exact sh0 rfl | exact Nat.le_refl _ | exact .inl shA | exact .inr ⟨rfl, rfl, rfl, rfl, rfl⟩ | exact .inl shB | exact fun h => h | refine ⟨?_, ?_, ?_, .inl ?_⟩ | refine ⟨?_, ?_⟩ | refine fun ii hii => ?_ | omega | fail)
    · (repeat' first | exact trivial | exact rfl | exact sh0 rfl | exact Nat.le_refl _ | exact .inl shA | exact .inr ⟨rfl, rfl, rfl, rfl, rfl⟩ | exact .inl shB | exact fun h => h | refine ⟨?_, ?_, ?_, .inl ?_⟩ | refine ⟨?_, ?_⟩ | refine fun ii hii => ?_ | omega | fail)
  rewrite [show (dd.d == 6) = false from beq_eq_false_iff_ne.2 (by omega)]
  conv => whnf
  by_cases d7 : dd.d = 7
  · rewrite [show (dd.d == 7) = true from beq_iff_eq.2 (by omega)]
    conv => whnf
    obtain ⟨e7, he7, hl7⟩ : ∃ e : Nat, dd.ep = e ∧ e < 4294967296 := ⟨dd.ep.toNat, by have := hd.ep; omega, by have := hd.ep; omega⟩
    obtain ⟨i7, hi7, hj7⟩ : ∃ e : Nat, dd.li = e ∧ e < 4294967296 := ⟨dd.li.toNat, by have := hd.li; omega, by have := hd.li; omega⟩
    obtain ⟨a7, ha7⟩ : ∃ e : Nat, dd.a = e := ⟨dd.a.toNat, by omega⟩
    obtain ⟨f7, hf7⟩ : ∃ e : Nat, first = e := ⟨first.toNat, by omega⟩
    have hrem : ((a7 : Int)).tmod 4096 = ((a7 % 4096 : Nat) : Int) := rfl
    have hsum : IntKind.i64.wrap (first + ((a7 % 4096 : Nat) : Int)) = ((f7 + a7 % 4096 : Nat) : Int) := by rw [w64 (by omega)]; omega
    have hmin : (if (48 : Int) < (dd.r.length : Int) then (48 : Int) else (dd.r.length : Int)) = ((min dd.r.length 48 : Nat) : Int) := by split <;> omega
    have hlen : (dd.r.take (min dd.r.length 48)).length ≤ 48 := by rw [List.length_take]; omega
    rewrite [ha7, hrem]
    refine ⟨by decide, ?_⟩
    conv => whnf
    rewrite [bs_size, hmin]
    refine ⟨by omega, ?_⟩
    rewrite [Int.toNat_natCast]
    conv => whnf
    refine ⟨⟨by omega, by omega⟩, ?_⟩
    rewrite [bs_extract, List.drop_zero, Nat.sub_zero]
    conv => whnf
    obtain ⟨q, hq⟩ : ∃ q, q = dd.r.take (min dd.r.length 48) := ⟨_, rfl⟩
    rw [← hq] at hlen ⊢
    rewrite [he7, hi7]
    refine LCalls.use (MadeS e7 i7 ((a7 % 4096 : Nat) : Int) dd.n q hl7 hj7 ⟨by omega, by omega⟩ hlen) [24] rfl rfl ⟨rfl, trivial⟩ ?_
    rintro _ _ ⟨rfl, rfl⟩
    conv => whnf
    have hflt : ∀ i, enc e7 i7 ((a7 % 4096 : Nat) : Int).toNat ((dd.n % 256).toNat) q.length q i < 256 := fun i => enc_lt (by omega) (by omega) i
    obtain ⟨f, hff⟩ : ∃ f, f = enc e7 i7 ((a7 % 4096 : Nat) : Int).toNat ((dd.n % 256).toNat) q.length q := ⟨_, rfl⟩
    rw [← hff] at hflt ⊢
    rewrite [ha7, hrem]
    refine ⟨by decide, ?_⟩
    conv => whnf
    rewrite [hsum]
    refine LCalls.use (writeR' τ x ((f7 + a7 % 4096 : Nat) : Int) (toS f) 64 (by omega)) [0] rfl rfl ⟨rfl, trivial⟩ ?_
    rintro _ _ ⟨rfl, rfl⟩
    conv => whnf
    rewrite [ha7, hrem]
    refine ⟨by decide, ?_⟩
    conv => whnf
    rewrite [hsum]
    have hw := wrD_pend x ((f7 + a7 % 4096 : Nat) : Int) (toS f) 64
    have hz := St_wrD st ((f7 + a7 % 4096 : Nat) : Int) hflt (by omega)
    by_cases he : wrE x ((f7 + a7 % 4096 : Nat) : Int) 64 = 0
    case neg =>
      have ey : wrD x ((f7 + a7 % 4096 : Nat) : Int) (toS f) 64 = wrN x ((f7 + a7 % 4096 : Nat) : Int) 64 := by unfold Dk.wrD; rw [if_neg he]
      rw [ey] at hw hz ⊢
      refine LCalls.use (rWrite_no x st.inv.len ((f7 + a7 % 4096 : Nat) : Int) (toS f) 64 he) [1, 2, 3] rfl rfl ⟨rfl, rfl, rfl, trivial⟩ ?_
      rintro _ _ ⟨rfl, rfl⟩
      conv => whnf
      rewrite [show (wrE x ((f7 + a7 % 4096 : Nat) : Int) 64 == wrE x ((f7 + a7 % 4096 : Nat) : Int) 64) = true from by simp]
      refine ⟨[0, 1, 2, 3, 4, 5, 6], _, _, rfl, rfl, ?_, ?_, rfl, wrN x ((f7 + a7 % 4096 : Nat) : Int) 64, hz, by omega, .inr (.inl rfl)⟩
      · (repeat' first | exact trivial | exact rfl | exact sh0 rfl | exact Nat.le_refl _ | exact .inl shA | exact .inr ⟨rfl, rfl, rfl, rfl, rfl⟩ | exact .inl shB | exact fun h => h | refine ⟨?_, ?_, ?_, .inl ?_⟩ | refine ⟨?_, ?_⟩ | refine fun ii hii => ?_ | omega | fail)
      · (repeat' first | exact trivial | exact rfl | exact sh0 rfl | exact Nat.le_refl _ | exact .inl shA | exact .inr ⟨rfl, rfl, rfl, rfl, rfl⟩ | exact .inl shB | exact fun h => h | refine ⟨?_, ?_, ?_, .inl ?_⟩ | refine ⟨?_, ?_⟩ | refine fun ii hii => ?_ | omega | fail)
    obtain ⟨g1, g2, g3, g4⟩ := wrE_ok he
    obtain ⟨kk, hkk, h5⟩ := hasB_nat g2
    have ey : wrD x ((f7 + a7 % 4096 : Nat) : Int) (toS f) 64 = wrS (went x) kk (toS f) 64 := by unfold Dk.wrD; rw [if_pos he, hkk, Int.toNat_natCast]
    rw [ey] at hw hz ⊢
    rewrite [he]
    have key := rWrite_ok x kk (toS f) 64 g1 (by rw [st.inv.len]; exact h5) g3 g4 (by omega)
    obtain ⟨v, hv⟩ : ∃ v, v = wrS (went x) kk (toS f) 64 := ⟨_, rfl⟩
    rw [← hv] at hw hz key ⊢
    rw [← hkk] at key
    refine LCalls.use key [1, 2, 3] rfl rfl ⟨rfl, rfl, rfl, trivial⟩ ?_
    rintro _ _ ⟨rfl, rfl⟩
    conv => whnf
    refine ⟨[0, 1, 2, 3, 4, 5, 6, 25], _, _, rfl, rfl, ?_, ?_, rfl, v, hz, by omega, .inr (.inr rfl)⟩
    · (repeat' first | exact trivial | exact rfl | exact sh0 rfl | exact Nat.le_refl _ | exact .inl shA | exact .inr ⟨rfl, rfl, rfl, rfl, rfl⟩ | exact .inl shB | exact fun h => h | refine ⟨?_, ?_, ?_, .inl ?_⟩ | refine ⟨?_, ?_⟩ | refine fun ii hii => ?_ | omega | fail)
    · (repeat' first | exact trivial | exact rfl | exact sh0 rfl | exact Nat.le_refl _ | exact .inl shA | exact .inr ⟨rfl, rfl, rfl, rfl, rfl⟩ | exact .inl shB | exact fun h => h | refine ⟨?_, ?_, ?_, .inl ?_⟩ | refine ⟨?_, ?_⟩ | refine fun ii hii => ?_ | omega | fail)
  rewrite [show (dd.d == 7) = false from beq_eq_false_iff_ne.2 (by omega)]
  conv => whnf
  refine ⟨[0, 1, 2, 3, 4, 5, 6], _, _, rfl, rfl, ?_, ?_, rfl, x, st, by omega, .inr (.inl rfl)⟩
  · (repeat' first | exact trivial | exact rfl | exact sh0 rfl | exact Nat.le_refl _ | exact .inl shA | exact .inr ⟨rfl, rfl, rfl, rfl, rfl⟩ | exact .inl shB | exact fun h => h | refine ⟨?_, ?_, ?_, .inl ?_⟩ | refine ⟨?_, ?_⟩ | refine fun ii hii => ?_ | omega | fail)
  · (repeat' first | exact trivial | exact rfl | exact sh0 rfl | exact Nat.le_refl _ | exact .inl shA | exact .inr ⟨rfl, rfl, rfl, rfl, rfl⟩ | exact .inl shB | exact fun h => h | refine ⟨?_, ?_, ?_, .inl ?_⟩ | refine ⟨?_, ?_⟩ | refine fun ii hii => ?_ | omega | fail)
end Go.Proofs.Ytilmfhpoiejmfaa.Gk
