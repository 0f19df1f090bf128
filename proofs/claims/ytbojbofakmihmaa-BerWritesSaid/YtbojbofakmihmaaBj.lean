/- ber's awake. By this session. -/
import Derived.Test.YtbojbofakmihmaaBh
import Derived.Test.YtbojbofakmihmaaLr
namespace Go.Proofs.Ytbojbofakmihmaa.Bk
open Go.Proofs.Ytbojbofakmihmaa.Lh Go.RowKit Go.Proofs.Ytbojbofakmihmaa.Bp
set_option maxRecDepth 100000
set_option linter.unusedSimpArgs false
set_option linter.unusedSectionVars false
set_option linter.unusedVariables false
variable [Fz]
theorem lendR {P : Program} {f : FuncId} {args args' : LVals} {h : LHeap} {v : LVal} (F : Fzl) (hF : frzOK h [] F) (hv : shVs 0 (frzAll [] F) args args') (hc : closedV v = true) (c : LCalls P f args' [] (fun e h' => e = .ret v ∧ h' = [])) :
    LCalls P f args h (fun e h' => e = .ret v ∧ h' = h) := by
  refine (LCalls.lend (R := fun u => u = v) F hF hv (c.mono ?_)).mono ?_
  · rintro _ _ ⟨rfl, _⟩
    exact ⟨_, rfl, hc, rfl⟩
  · rintro _ _ ⟨_, rfl, rfl, rfl⟩
    exact ⟨rfl, rfl⟩
def nA : Nd := .mk 2 [5] []
def nB : Nd := .mk 4 [97, 98] []
def nC : Nd := .mk 48 [] [nA, nB]
theorem nC_small : Small nC := by
  have h : ∀ t b, Small (.mk t b []) := fun t b => .mk (by simp) fun k hk => by cases hk
  refine .mk (by decide) fun k hk => ?_
  rcases List.mem_cons.1 hk with rfl | hk
  · exact h _ _
  · rcases List.mem_cons.1 hk with rfl | hk
    · exact h _ _
    · cases hk
theorem nC_enc : encP nC = ([48, 7, 2, 1, 5, 4, 2, 97, 98], 0) := by decide
theorem nC_dec : decP [48, 7, 2, 1, 5, 4, 2, 97, 98, 120] = (nC, 9, 0) := dec_enc nC_enc [120]
theorem dec_a : decP [48, 3, 2, 1] = (default, 0, 92) := by rfl
theorem dec_b : decP [48, 3, 2, 2, 5] = (default, 0, 90) := by rfl
theorem int_a : intP 7 128 = [0, 128] := by decide
theorem num_a : numP [0, 128] = (128, true) := by decide
theorem encC : LCalls Try.prog 25 (.cons (nodeV nC) .nil) [] (fun e h' => e = .ret (.tup (.cons (.str (bs [48, 7, 2, 1, 5, 4, 2, 97, 98])) (.cons (.int .i64 0) .nil))) ∧ h' = []) := by
  have h := encode nC nC_small
  unfold encE at h
  rw [nC_enc] at h
  exact h
theorem decV_mk {t : Int} {b : Bp.Bs} {ks : List Nd} {u : Nat} {e : Int} : decV (.mk t b ks, u, e) = .tup (.cons (.agg (.one (.int .i64 t) (.one (.str (bs b)) (.one (.rsl ks.length 3 (nodesS ks)) .nil)))) (.cons (.int .i64 u) (.cons (.int .i64 e) .nil))) := by
  unfold decV
  rw [nodeV_mk]
theorem awake : LCalls Try.prog 26 .nil [] (fun e h' => e = .ret (.bool true) ∧ h' = []) := by
  refine LCalls.tell ?_; refine enter26 rfl ?_; conv => whnf
  refine (lendR [(0, 2, 3, nodesS [nA, nB])] ?_ (args' := .cons (nodeV nC) .nil) ?_ rfl encC).mono ?_
  · refine ⟨⟨rfl, Nat.le_refl _, rfl, fun i hi => ?_⟩, rfl, trivial⟩
    rcases i with _ | _ | i
    · show shS 0 [] _ (nodesS [nA, nB] 0)
      rw [nodesS_at _ _ (by decide)]
      show shS 0 [] _ (nodeS (.mk 2 [5] []))
      rw [nodeS]
      exact ⟨⟨rfl, rfl⟩, rfl, .inl ⟨rfl, rfl⟩, trivial⟩
    · show shS 0 [] _ (nodesS [nA, nB] 1)
      rw [nodesS_at _ _ (by decide)]
      show shS 0 [] _ (nodeS (.mk 4 [97, 98] []))
      rw [nodeS]
      exact ⟨⟨rfl, rfl⟩, rfl, .inl ⟨rfl, rfl⟩, trivial⟩
    · have hi : i + 1 + 1 < 2 := hi
      omega
  · show shVs 0 _ _ (.cons (nodeV (.mk 48 [] [nA, nB])) .nil)
    rw [nodeV_mk]
    exact ⟨⟨⟨rfl, rfl⟩, rfl, .inr ⟨rfl, rfl, rfl, rfl, rfl, by simp, fun i hi => rfl⟩, trivial⟩, trivial⟩
  rintro _ _ ⟨rfl, rfl⟩
  conv => whnf
  rewrite [show bs [48, 7, 2, 1, 5, 4, 2, 97, 98] ++ ⟨#[120]⟩ = bs [48, 7, 2, 1, 5, 4, 2, 97, 98, 120] from rfl]
  refine ⟨by decide, ?_⟩
  conv => whnf
  have hd := decode [48, 7, 2, 1, 5, 4, 2, 97, 98, 120] (by decide)
  rw [nC_dec, show nC = .mk 48 [] [nA, nB] from rfl, decV_mk] at hd
  refine LCalls.use hd [] rfl rfl trivial ?_
  rintro _ _ ⟨rfl, rfl⟩
  conv => whnf
  have hs := same nC nC_small.fits
  refine (lendR [(0, 2, 3, nodesS [nA, nB])] ?_ (args' := .cons (nodeV nC) (.cons (nodeV nC) .nil)) ?_ rfl hs).mono ?_
  · refine ⟨⟨rfl, Nat.le_refl _, rfl, fun i hi => ?_⟩, rfl, trivial⟩
    rcases i with _ | _ | i
    · show shS 0 [] _ (nodesS [nA, nB] 0)
      rw [nodesS_at _ _ (by decide)]
      show shS 0 [] _ (nodeS (.mk 2 [5] []))
      rw [nodeS]
      exact ⟨⟨rfl, rfl⟩, rfl, .inl ⟨rfl, rfl⟩, trivial⟩
    · show shS 0 [] _ (nodesS [nA, nB] 1)
      rw [nodesS_at _ _ (by decide)]
      show shS 0 [] _ (nodeS (.mk 4 [97, 98] []))
      rw [nodeS]
      exact ⟨⟨rfl, rfl⟩, rfl, .inl ⟨rfl, rfl⟩, trivial⟩
    · have hi : i + 1 + 1 < 2 := hi
      omega
  · show shVs 0 _ _ (.cons (nodeV (.mk 48 [] [nA, nB])) (.cons (nodeV (.mk 48 [] [nA, nB])) .nil))
    rw [nodeV_mk]
    exact ⟨⟨⟨rfl, rfl⟩, rfl, .inr ⟨rfl, rfl, rfl, rfl, rfl, by simp, fun i hi => rfl⟩, trivial⟩, ⟨⟨rfl, rfl⟩, rfl, ⟨rfl, rfl, fun i hi => sh_nodes hi⟩, trivial⟩, trivial⟩
  rintro _ _ ⟨rfl, rfl⟩
  conv => whnf
  have hd := decode [48, 3, 2, 1] (by decide)
  rw [dec_a, show (default : Nd) = .mk 0 [] [] from rfl, decV_mk] at hd
  refine LCalls.use hd [] rfl rfl trivial ?_
  rintro _ _ ⟨rfl, rfl⟩
  conv => whnf
  have hd := decode [48, 3, 2, 2, 5] (by decide)
  rw [dec_b, show (default : Nd) = .mk 0 [] [] from rfl, decV_mk] at hd
  refine LCalls.use hd [] rfl rfl trivial ?_
  rintro _ _ ⟨rfl, rfl⟩
  conv => whnf
  have hi := intB 128 (by decide) (by decide)
  rw [int_a] at hi
  refine LCalls.use hi [] rfl rfl trivial ?_
  rintro _ _ ⟨rfl, rfl⟩
  conv => whnf
  have hn := number [0, 128]
  rw [num_a] at hn
  unfold numV at hn
  refine LCalls.use hn [] rfl rfl trivial ?_
  rintro _ _ ⟨rfl, rfl⟩
  conv => whnf
  refine ⟨[], _, _, rfl, rfl, ?_, ?_, rfl, rfl⟩
  · (repeat' first | exact trivial | exact rfl | exact Nat.le_of_ble_eq_true rfl | exact Nat.le_refl _ | exact .inl ⟨rfl, rfl, rfl, rfl, Nat.le_refl _, Nat.le_refl _, .inr rfl, Nat.le_of_ble_eq_true rfl⟩ | exact .inl ⟨rfl, rfl, rfl, rfl, Nat.le_refl _, Nat.le_refl _, .inl rfl, Nat.le_of_ble_eq_true rfl⟩ | exact .inr ⟨rfl, rfl, rfl, rfl, rfl⟩ | exact .inl ⟨rfl, rfl, rfl, (by first | omega | (simp; done) | (simp; omega)), (by first | omega | (simp; done) | (simp; omega)), (by first | omega | (simp; done) | (simp; omega)), .inr rfl, Nat.le_of_ble_eq_true rfl⟩ | exact .inl ⟨rfl, rfl, rfl, (by first | omega | (simp; done) | (simp; omega)), (by first | omega | (simp; done) | (simp; omega)), (by first | omega | (simp; done) | (simp; omega)), .inl rfl, Nat.le_of_ble_eq_true rfl⟩ | exact fun h => h | refine ⟨?_, ?_, ?_, .inl ?_⟩ | refine ⟨?_, ?_⟩ | refine fun ii hii => ?_ | omega | fail)
  · (repeat' first | exact trivial | exact rfl | exact Nat.le_of_ble_eq_true rfl | exact Nat.le_refl _ | exact .inl ⟨rfl, rfl, rfl, rfl, Nat.le_refl _, Nat.le_refl _, .inr rfl, Nat.le_of_ble_eq_true rfl⟩ | exact .inl ⟨rfl, rfl, rfl, rfl, Nat.le_refl _, Nat.le_refl _, .inl rfl, Nat.le_of_ble_eq_true rfl⟩ | exact .inr ⟨rfl, rfl, rfl, rfl, rfl⟩ | exact .inl ⟨rfl, rfl, rfl, (by first | omega | (simp; done) | (simp; omega)), (by first | omega | (simp; done) | (simp; omega)), (by first | omega | (simp; done) | (simp; omega)), .inr rfl, Nat.le_of_ble_eq_true rfl⟩ | exact .inl ⟨rfl, rfl, rfl, (by first | omega | (simp; done) | (simp; omega)), (by first | omega | (simp; done) | (simp; omega)), (by first | omega | (simp; done) | (simp; omega)), .inl rfl, Nat.le_of_ble_eq_true rfl⟩ | exact fun h => h | refine ⟨?_, ?_, ?_, .inl ?_⟩ | refine ⟨?_, ?_⟩ | refine fun ii hii => ?_ | omega | fail)
theorem wrL_small : ∀ (ks : List Nd) (c : Bp.Bs), wrL ks = some c → 2 * ks.length ≤ c.length ∧ ∀ k ∈ ks, ∃ b, wrP k = some b
  | [], c, _ => ⟨Nat.zero_le _, fun k hk => by cases hk⟩
  | k :: r, c, h => by
    rw [wrL] at h
    cases hk : wrP k with
    | none => rw [hk] at h; cases h
    | some b =>
      rw [hk] at h
      cases hr : wrL r with
      | none => rw [hr] at h; cases h
      | some c' =>
        rw [hr] at h
        cases h
        obtain ⟨h1, h2⟩ := wrL_small r c' hr
        have := wrP_len hk
        refine ⟨by simp only [List.length_cons, List.length_append]; omega, fun x hx => ?_⟩
        rcases List.mem_cons.1 hx with rfl | hx
        · exact ⟨b, hk⟩
        · exact h2 x hx
theorem wr_small (n : Nd) : ∀ b, wrP n = some b → Small n := by
  refine Nd.ind (p := fun n => ∀ b, wrP n = some b → Small n) (fun t b0 ks ih b h => ?_) n
  obtain ⟨c, h1, h2, _⟩ := wr_some h
  obtain ⟨h3, h4⟩ := wrL_small ks c h1
  rw [List.length_append] at h2
  exact .mk (by omega) fun k hk => (h4 k hk).elim fun b hb => ih k hk b hb
theorem small0 : Small default := .mk (by simp) fun k hk => by cases hk
theorem dec_small (s : Bp.Bs) : Small (decP s).1 := by
  unfold decP
  cases h : rdP 8 s with
  | error e => exact small0
  | ok p =>
    obtain ⟨n, u⟩ := p
    exact wr_small n _ (wr_rd 8 s n u h).2.2.2.2
end Go.Proofs.Ytbojbofakmihmaa.Bk
