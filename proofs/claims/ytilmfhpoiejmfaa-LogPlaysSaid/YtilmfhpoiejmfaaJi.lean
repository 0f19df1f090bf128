/- Texts of this session, merged. -/
import Derived.Test.YtilmfhpoiejmfaaJf
import Derived.Test.YtilmfhpoiejmfaaGdp
/- The laws of the log: both, opened. By this session. -/
namespace Go.Proofs.Ytilmfhpoiejmfaa.Gk
open Go.Proofs.Ytilmfhpoiejmfaa.Lh Go.RowKit Go.Proofs.Ytilmfhpoiejmfaa.Lg Go.Proofs.Ytilmfhpoiejmfaa.Gdk
open Go.Proofs.Ytilmfhpoiejmfaa.Dk (Disk Sec nought diskR wrE wrD wrN wrS flE flD rdE hasB hasB_nat goesB went secV bytesV byteR refO rsO rpO refH rRead_x rWrite_ok rWrite_no rFlush_x Inv Inv_wrD wrD_len wrE_ok wrD_pend)
set_option maxRecDepth 100000
set_option linter.unusedSimpArgs false
set_option linter.unusedSectionVars false
set_option linter.unusedVariables false
theorem rdL_recs (S : Nat → F8) (ep most : Nat) : ∀ (k p : Nat) (s : RS), (rdL S ep most k p s).recs.length ≤ s.recs.length + k
  | 0, _, s => Nat.le_refl _
  | k + 1, p, s => by
    unfold rdL
    split
    · refine Nat.le_trans (rdL_recs S ep most k (p + 1) _) ?_
      have : (stepS (S p) p s).recs.length ≤ s.recs.length + 1 := by
        unfold stepS
        split
        · simp
        · exact Nat.le_succ _
      omega
    · omega
theorem op_recs {x : Disk} (hn : x.now.length ≤ 4096) (first count : Int) (ep : Nat) : (openP x first count ep).recs.length ≤ 4096 := by
  have no : ∀ (e : Int) (y : Disk), (OpR.mk e y lg0 []).recs.length ≤ 4096 := fun _ _ => Nat.zero_le _
  unfold openP
  split
  · exact no ..
  split
  · exact no ..
  split
  · exact no ..
  split
  · exact no ..
  unfold op1
  split
  · exact no ..
  unfold op1h
  split
  · exact no ..
  split
  · exact no ..
  unfold op2
  split
  · exact no ..
  refine Nat.le_trans (rdL_recs _ _ _ _ _ _) ?_
  show 0 + _ ≤ 4096
  omega
variable [Fz]
def bothO (τ : Nat) (first count : Int) (ep : Nat) (l m : LVal) : Option LObj := some ⟨.one (.tok τ) (.one l (.one (.ptr ⟨1, [], 0⟩) (.one m (.one (.int .i64 first) (.one (.int .i64 count) (.one (wN ep) .nil)))))), 73, false, false⟩
/-- Both stand alike, behind an opening. -/
def opnH (τ : Nat) (first count : Int) (ep : Nat) (y : Disk) (L : LgS) : LHeap := [diskR τ y, refO 2 7 y, rsO y.last, none, bothO τ first count ep (.ptr ⟨8, [], 0⟩) (.ptr ⟨9, [], 0⟩), none, none, rpO y.pend, lgO τ L, rlgO 1 L]
def nilA (τ : Nat) (first count : Int) (ep : Nat) (y : Disk) : LHeap := [diskR τ y, refO 2 3 y, rsO y.last, rpO y.pend, bothO τ first count ep .nilp .nilp, none, none]
def nilB (τ : Nat) (first count : Int) (ep : Nat) (y : Disk) : LHeap := [diskR τ y, refO 2 7 y, rsO y.last, none, bothO τ first count ep .nilp .nilp, none, none, rpO y.pend]
def OpdR (τ : Nat) (first count : Int) (ep : Nat) (r : OpR) (e : LEnd) (h' : LHeap) : Prop := e = .ret (.bool true) ∧ ((r.err = 0 ∧ h' = opnH τ first count ep r.y r.L) ∨ h' = nilA τ first count ep r.y ∨ h' = nilB τ first count ep r.y)
set_option maxHeartbeats 1000000 in
theorem opened (τ : Nat) (x : Disk) (h : St x) (first count : Int) (ep : Nat) (hep : ep < 4294967296) (hp : x.pend.length + 1 < 1000000) (l0 m0 : LVal) (o5 o6 : Option LObj) : LCalls Try.prog 46 (.cons (.ptr ⟨4, [], 0⟩) .nil) [diskR τ x, refO 2 3 x, rsO x.last, rpO x.pend, bothO τ first count ep l0 m0, o5, o6] (OpdR τ first count ep (openP x first count ep)) := by
  have key := rOpen x h.inv h.by_ h.few first count ep hep hp
  have hrec := op_recs h.few first count ep
  obtain ⟨c, y, L, recs, hr⟩ : ∃ c y L recs, openP x first count ep = ⟨c, y, L, recs⟩ := ⟨_, _, _, _, rfl⟩
  rw [hr] at key hrec ⊢
  have hrec : recs.length ≤ 4096 := hrec
  refine LCalls.tell ?_; refine enter46 rfl ?_; conv => whnf
  by_cases hc : c = 0
  · subst hc
    refine LCalls.use (OpenOk τ x h first count ep hep hp hr) [0] rfl rfl ⟨rfl, trivial⟩ ?_
    rintro _ _ ⟨rfl, rfl⟩
    conv => whnf
    refine LCalls.use key [1, 2, 3] rfl rfl ⟨rfl, rfl, rfl, trivial⟩ ?_
    rintro _ _ (⟨_, rfl, rfl⟩ | ⟨hne, _⟩)
    · conv => whnf
      refine LCalls.use (Texts recs (by omega)) [] rfl rfl trivial ?_; rintro _ _ ⟨rfl, rfl⟩; conv => whnf
      refine ⟨[0, 1, 2, 3, 4, 5, 6, 8, 7, 9], _, _, rfl, rfl, ?_, ?_, rfl, .inl ⟨rfl, rfl⟩⟩
      · (repeat' first | exact trivial | exact rfl | exact sh0 rfl | exact Nat.le_refl _ | exact .inl shA | exact .inr ⟨rfl, rfl, rfl, rfl, rfl⟩ | exact .inl shB | exact fun h => h | refine ⟨?_, ?_, ?_, .inl ?_⟩ | refine ⟨?_, ?_⟩ | refine fun ii hii => ?_ | omega | fail)
      · (repeat' first | exact trivial | exact rfl | exact sh0 rfl | exact Nat.le_refl _ | exact .inl shA | exact .inr ⟨rfl, rfl, rfl, rfl, rfl⟩ | exact .inl shB | exact fun h => h | refine ⟨?_, ?_, ?_, .inl ?_⟩ | refine ⟨?_, ?_⟩ | refine fun ii hii => ?_ | omega | fail)
    · exact absurd rfl hne
  · refine LCalls.use (OpenNo τ x h first count ep hep hp hc hr) [0] rfl rfl ⟨rfl, trivial⟩ ?_
    rintro _ _ ⟨rfl, rfl⟩
    conv => whnf
    refine LCalls.use key [1, 2, 3] rfl rfl ⟨rfl, rfl, rfl, trivial⟩ ?_
    rintro _ _ (⟨he, _⟩ | ⟨_, rfl, (rfl | rfl)⟩)
    · exact absurd he hc
    · conv => whnf
      refine LCalls.pre [0, 1, 2, 3, 4, 5, 6] (.cons (strsV []) (.cons (strsV []) .nil)) [diskR τ y, refO 2 3 y, rsO y.last, rpO y.pend, bothO τ first count ep .any .any, none, none] rfl rfl ?_ ?_ ?_
      · exact ⟨.inl ⟨rfl, rfl⟩, .inl ⟨rfl, rfl⟩, trivial⟩
      · (repeat' first | exact trivial | exact rfl | exact sh0 rfl | exact Nat.le_refl _ | exact .inl shA | exact .inr ⟨rfl, rfl, rfl, rfl, rfl⟩ | exact .inl shB | exact fun h => h | refine ⟨?_, ?_, ?_, .inl ?_⟩ | refine ⟨?_, ?_⟩ | refine fun ii hii => ?_ | omega | fail)
        · cases l0 <;> exact trivial
        · cases m0 <;> exact trivial
      refine LCalls.use (Texts [] (by simp)) [] rfl rfl trivial ?_; rintro _ _ ⟨rfl, rfl⟩; conv => whnf
      rewrite [show (c != c) = false from by simp]
      conv => whnf
      refine ⟨[0, 1, 2, 3, 4, 5, 6], _, _, rfl, rfl, ?_, ?_, rfl, .inr (.inl rfl)⟩
      · (repeat' first | exact trivial | exact rfl | exact sh0 rfl | exact Nat.le_refl _ | exact .inl shA | exact .inr ⟨rfl, rfl, rfl, rfl, rfl⟩ | exact .inl shB | exact fun h => h | refine ⟨?_, ?_, ?_, .inl ?_⟩ | refine ⟨?_, ?_⟩ | refine fun ii hii => ?_ | omega | fail)
      · (repeat' first | exact trivial | exact rfl | exact sh0 rfl | exact Nat.le_refl _ | exact .inl shA | exact .inr ⟨rfl, rfl, rfl, rfl, rfl⟩ | exact .inl shB | exact fun h => h | refine ⟨?_, ?_, ?_, .inl ?_⟩ | refine ⟨?_, ?_⟩ | refine fun ii hii => ?_ | omega | fail)
    · conv => whnf
      refine LCalls.pre [0, 1, 2, 3, 4, 5, 6, 7] (.cons (strsV []) (.cons (strsV []) .nil)) [diskR τ y, refO 2 7 y, rsO y.last, none, bothO τ first count ep .any .any, none, none, rpO y.pend] rfl rfl ?_ ?_ ?_
      · exact ⟨.inl ⟨rfl, rfl⟩, .inl ⟨rfl, rfl⟩, trivial⟩
      · (repeat' first | exact trivial | exact rfl | exact sh0 rfl | exact Nat.le_refl _ | exact .inl shA | exact .inr ⟨rfl, rfl, rfl, rfl, rfl⟩ | exact .inl shB | exact fun h => h | refine ⟨?_, ?_, ?_, .inl ?_⟩ | refine ⟨?_, ?_⟩ | refine fun ii hii => ?_ | omega | fail)
        · cases l0 <;> exact trivial
        · cases m0 <;> exact trivial
      refine LCalls.use (Texts [] (by simp)) [] rfl rfl trivial ?_; rintro _ _ ⟨rfl, rfl⟩; conv => whnf
      rewrite [show (c != c) = false from by simp]
      conv => whnf
      refine ⟨[0, 1, 2, 3, 4, 5, 6, 7], _, _, rfl, rfl, ?_, ?_, rfl, .inr (.inr rfl)⟩
      · (repeat' first | exact trivial | exact rfl | exact sh0 rfl | exact Nat.le_refl _ | exact .inl shA | exact .inr ⟨rfl, rfl, rfl, rfl, rfl⟩ | exact .inl shB | exact fun h => h | refine ⟨?_, ?_, ?_, .inl ?_⟩ | refine ⟨?_, ?_⟩ | refine fun ii hii => ?_ | omega | fail)
      · (repeat' first | exact trivial | exact rfl | exact sh0 rfl | exact Nat.le_refl _ | exact .inl shA | exact .inr ⟨rfl, rfl, rfl, rfl, rfl⟩ | exact .inl shB | exact fun h => h | refine ⟨?_, ?_, ?_, .inl ?_⟩ | refine ⟨?_, ?_⟩ | refine fun ii hii => ?_ | omega | fail)
end Go.Proofs.Ytilmfhpoiejmfaa.Gk

/- The laws of the log: do both stand alike? By this session. -/
namespace Go.Proofs.Ytilmfhpoiejmfaa.Gk
open Go.Proofs.Ytilmfhpoiejmfaa.Lh Go.RowKit Go.Proofs.Ytilmfhpoiejmfaa.Lg Go.Proofs.Ytilmfhpoiejmfaa.Gdk
open Go.Proofs.Ytilmfhpoiejmfaa.Dk (Disk Sec nought diskR refO rsO rpO refH Inv pending' up')
set_option maxRecDepth 100000
set_option linter.unusedSimpArgs false
set_option linter.unusedSectionVars false
set_option linter.unusedVariables false
variable [Fz]
theorem same_up (b : Bool) : ((!b) == b) = false := by cases b <;> rfl
theorem sameN (τ : Nat) (x : Disk) (first count : Int) (ep : Nat) : LCalls Try.prog 48 (.cons (.ptr ⟨4, [], 0⟩) .nil) [diskR τ x, refO 2 3 x, rsO x.last, rpO x.pend, bothO τ first count ep .nilp .nilp] (fun e h' => e = .ret (.bool true) ∧ h' = [diskR τ x, refO 2 3 x, rsO x.last, rpO x.pend, bothO τ first count ep .nilp .nilp]) := by
  refine LCalls.tell ?_; refine enter48 rfl ?_; conv => whnf
  refine LCalls.use (pending' τ x) [0] rfl rfl ⟨rfl, trivial⟩ ?_; rintro _ _ ⟨rfl, rfl⟩; conv => whnf
  refine LCalls.use (up' τ x) [0] rfl rfl ⟨rfl, trivial⟩ ?_; rintro _ _ ⟨rfl, rfl⟩; conv => whnf
  rewrite [show ((x.pend.length : Int) != (x.pend.length : Int)) = false from by simp]
  conv => whnf
  rewrite [same_up]
  conv => whnf
  refine ⟨[0, 1, 2, 3, 4], _, _, rfl, rfl, ?_, ?_, rfl, rfl⟩
  · (repeat' first | exact trivial | exact rfl | exact sh0 rfl | exact Nat.le_refl _ | exact .inl shA | exact .inr ⟨rfl, rfl, rfl, rfl, rfl⟩ | exact .inl shB | exact fun h => h | refine ⟨?_, ?_, ?_, .inl ?_⟩ | refine ⟨?_, ?_⟩ | refine fun ii hii => ?_ | omega | fail)
  · (repeat' first | exact trivial | exact rfl | exact sh0 rfl | exact Nat.le_refl _ | exact .inl shA | exact .inr ⟨rfl, rfl, rfl, rfl, rfl⟩ | exact .inl shB | exact fun h => h | refine ⟨?_, ?_, ?_, .inl ?_⟩ | refine ⟨?_, ?_⟩ | refine fun ii hii => ?_ | omega | fail)
theorem sameS (τ : Nat) (x : Disk) (first count : Int) (ep : Nat) (L : LgS) (ok : LgOk L) : LCalls Try.prog 48 (.cons (.ptr ⟨4, [], 0⟩) .nil) [diskR τ x, refO 2 3 x, rsO x.last, rpO x.pend, bothO τ first count ep (.ptr ⟨5, [], 0⟩) (.ptr ⟨6, [], 0⟩), lgO τ L, rlgO 1 L] (fun e h' => e = .ret (.bool true) ∧ h' = [diskR τ x, refO 2 3 x, rsO x.last, rpO x.pend, bothO τ first count ep (.ptr ⟨5, [], 0⟩) (.ptr ⟨6, [], 0⟩), lgO τ L, rlgO 1 L]) := by
  have k1 := ok.fc
  have k2 := ok.nc
  refine LCalls.tell ?_; refine enter48 rfl ?_; conv => whnf
  refine LCalls.use (pending' τ x) [0] rfl rfl ⟨rfl, trivial⟩ ?_; rintro _ _ ⟨rfl, rfl⟩; conv => whnf
  refine LCalls.use (up' τ x) [0] rfl rfl ⟨rfl, trivial⟩ ?_; rintro _ _ ⟨rfl, rfl⟩; conv => whnf
  rewrite [show ((x.pend.length : Int) != (x.pend.length : Int)) = false from by simp]
  conv => whnf
  rewrite [same_up]
  conv => whnf
  refine LCalls.use (Next τ L) [5] rfl rfl ⟨rfl, trivial⟩ ?_; rintro _ _ ⟨rfl, rfl⟩; conv => whnf
  refine LCalls.use (Room τ L ok) [5] rfl rfl ⟨rfl, trivial⟩ ?_; rintro _ _ ⟨rfl, rfl⟩; conv => whnf
  refine LCalls.use (Life τ L) [5] rfl rfl ⟨rfl, trivial⟩ ?_; rintro _ _ ⟨rfl, rfl⟩; conv => whnf
  rewrite [show ((L.next : Int) == (L.next : Int)) = true from by simp]
  conv => whnf
  rewrite [w64 (n := (L.count : Int) - (L.next : Int)) (by omega), show (L.count : Int) - (L.next : Int) = ((L.count - L.next : Nat) : Int) by omega]
  rewrite [show (((L.count - L.next : Nat) : Int) == ((L.count - L.next : Nat) : Int)) = true from by simp]
  conv => whnf
  rewrite [show ((L.life : Int) == (L.life : Int)) = true from by simp]
  refine ⟨[0, 1, 2, 3, 4, 5, 6], _, _, rfl, rfl, ?_, ?_, rfl, rfl⟩
  · (repeat' first | exact trivial | exact rfl | exact sh0 rfl | exact Nat.le_refl _ | exact .inl shA | exact .inr ⟨rfl, rfl, rfl, rfl, rfl⟩ | exact .inl shB | exact fun h => h | refine ⟨?_, ?_, ?_, .inl ?_⟩ | refine ⟨?_, ?_⟩ | refine fun ii hii => ?_ | omega | fail)
  · (repeat' first | exact trivial | exact rfl | exact sh0 rfl | exact Nat.le_refl _ | exact .inl shA | exact .inr ⟨rfl, rfl, rfl, rfl, rfl⟩ | exact .inl shB | exact fun h => h | refine ⟨?_, ?_, ?_, .inl ?_⟩ | refine ⟨?_, ?_⟩ | refine fun ii hii => ?_ | omega | fail)
end Go.Proofs.Ytilmfhpoiejmfaa.Gk

/- The document's disk: bytes in a block of their own are written. By this session. -/
namespace Go.Proofs.Ytilmfhpoiejmfaa.Gk
open Go.Proofs.Ytilmfhpoiejmfaa.Lh Go.RowKit Go.Proofs.Ytilmfhpoiejmfaa.Lg Go.Proofs.Ytilmfhpoiejmfaa.Gdk
open Go.Proofs.Ytilmfhpoiejmfaa.Dk (Disk Sec nought diskR wrE wrD wrN wrS goesB went bytesV byteR bytesO refO rsO rpO refH rWrite_ok rWrite_no Inv)
set_option maxRecDepth 100000
set_option linter.unusedSimpArgs false
set_option linter.unusedSectionVars false
set_option linter.unusedVariables false
variable [Fz]
theorem LCalls.ret {P : Program} {f : FuncId} {args : LVals} {h H' : LHeap} {v : LVal} (c : callK P f args h (fun w h' => w = v ∧ h' = H') (fun _ _ => False)) : LCalls P f args h (fun e h' => e = .ret v ∧ h' = H') := by
  refine Lh.LCalls.mono c ?_
  rintro (w | w) h' h
  · exact ⟨congrArg _ h.1, h.2⟩
  · exact h.elim
theorem rWriteS_no (x : Disk) (hl : x.last.length = x.now.length) (n : Int) (b : Nat → Int) (m : Nat) (h : wrE x n m ≠ 0) : LCalls Try.prog 68 (.cons (.ptr ⟨0, [], 0⟩) (.cons (.int .i64 n) (.cons (.slice ⟨3, [], 0⟩ 0 1 m m none) .nil))) [refO 1 2 x, rsO x.last, rpO x.pend, bytesO m b] (fun e h' => e = .ret (.int .i64 (wrE x n m)) ∧ h' = [refO 1 2 (wrN x n m), rsO (wrN x n m).last, rpO (wrN x n m).pend, none]) := by
  refine LCalls.preF [(3, m, 1, byteR b)] ⟨⟨rfl, Nat.le_refl _, rfl, fun i hi => ⟨⟨rfl, rfl⟩, trivial⟩⟩, rfl, trivial⟩ [0, 1, 2, 3] (.cons (.ptr ⟨0, [], 0⟩) (.cons (.int .i64 n) (.cons (bytesV m b) .nil))) [refO 1 2 x, rsO x.last, rpO x.pend, none] rfl rfl ?_ ?_ ?_
  · refine ⟨(by (repeat' first | exact trivial | exact rfl | exact sh0 rfl | exact Nat.le_refl _ | exact .inl shA | exact .inr ⟨rfl, rfl, rfl, rfl, rfl⟩ | exact .inl shB | exact fun h => h | refine ⟨?_, ?_, ?_, .inl ?_⟩ | refine ⟨?_, ?_⟩ | refine fun ii hii => ?_ | omega | fail)), ⟨rfl, rfl⟩, .inr ⟨rfl, rfl, rfl, rfl, rfl, by simp, fun i hi => by show byteR b (offs 0 i) = byteR b i; rfl⟩, trivial⟩
  · (repeat' first | exact trivial | exact rfl | exact sh0 rfl | exact Nat.le_refl _ | exact .inl shA | exact .inr ⟨rfl, rfl, rfl, rfl, rfl⟩ | exact .inl shB | exact fun h => h | refine ⟨?_, ?_, ?_, .inl ?_⟩ | refine ⟨?_, ?_⟩ | refine fun ii hii => ?_ | omega | fail)
  refine LCalls.ret ?_
  refine LCalls.use (rWrite_no x hl n b m h) [0, 1, 2] rfl rfl ⟨rfl, rfl, rfl, trivial⟩ ?_
  rintro _ _ ⟨rfl, rfl⟩
  exact ⟨rfl, rfl⟩
theorem rWriteS_ok (x : Disk) (n : Nat) (b : Nat → Int) (m : Nat) (h0 : x.down = false) (h1 : n < x.last.length) (h2 : m ≤ 64) (hg : goesB x = true) (hp : x.pend.length < 1000000) : LCalls Try.prog 68 (.cons (.ptr ⟨0, [], 0⟩) (.cons (.int .i64 n) (.cons (.slice ⟨3, [], 0⟩ 0 1 m m none) .nil))) [refO 1 2 x, rsO x.last, rpO x.pend, bytesO m b] (fun e h' => e = .ret (.int .i64 0) ∧ h' = [refO 1 4 (wrS (went x) n b m), rsO (wrS (went x) n b m).last, none, none, rpO (wrS (went x) n b m).pend]) := by
  have c := rWrite_ok x n b m h0 h1 h2 hg hp
  obtain ⟨y, hy⟩ : ∃ y, y = wrS (went x) n b m := ⟨_, rfl⟩
  rw [← hy] at c ⊢
  have n0 := n
  obtain ⟨n, hn⟩ : ∃ k : Int, k = (n : Int) := ⟨_, rfl⟩
  rw [← hn] at c ⊢
  refine LCalls.preF [(3, m, 1, byteR b)] ⟨⟨rfl, Nat.le_refl _, rfl, fun i hi => ⟨⟨rfl, rfl⟩, trivial⟩⟩, rfl, trivial⟩ [0, 1, 2, 3] (.cons (.ptr ⟨0, [], 0⟩) (.cons (.int .i64 n) (.cons (bytesV m b) .nil))) [refO 1 2 x, rsO x.last, rpO x.pend, none] rfl rfl ?_ ?_ ?_
  · refine ⟨(by (repeat' first | exact trivial | exact rfl | exact sh0 rfl | exact Nat.le_refl _ | exact .inl shA | exact .inr ⟨rfl, rfl, rfl, rfl, rfl⟩ | exact .inl shB | exact fun h => h | refine ⟨?_, ?_, ?_, .inl ?_⟩ | refine ⟨?_, ?_⟩ | refine fun ii hii => ?_ | omega | fail)), ⟨rfl, rfl⟩, .inr ⟨rfl, rfl, rfl, rfl, rfl, by simp, fun i hi => by show byteR b (offs 0 i) = byteR b i; rfl⟩, trivial⟩
  · (repeat' first | exact trivial | exact rfl | exact sh0 rfl | exact Nat.le_refl _ | exact .inl shA | exact .inr ⟨rfl, rfl, rfl, rfl, rfl⟩ | exact .inl shB | exact fun h => h | refine ⟨?_, ?_, ?_, .inl ?_⟩ | refine ⟨?_, ?_⟩ | refine fun ii hii => ?_ | omega | fail)
  refine LCalls.ret ?_
  refine LCalls.use c [0, 1, 2] rfl rfl ⟨rfl, rfl, rfl, trivial⟩ ?_
  rintro _ _ ⟨rfl, rfl⟩
  exact ⟨rfl, rfl⟩
end Go.Proofs.Ytilmfhpoiejmfaa.Gk
