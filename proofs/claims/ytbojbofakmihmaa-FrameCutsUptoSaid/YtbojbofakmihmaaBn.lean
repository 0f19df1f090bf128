/- Pieces of bytes on the heap of the mind: tags, depth, shape, lengths. By this session. -/
import Derived.Test.YtbojbofakmihmaaBl
import Derived.Test.YtbojbofakmihmaaPn
namespace Go.Proofs.Ytbojbofakmihmaa.Bk
open Go.Proofs.Ytbojbofakmihmaa.Lh Go.RowKit Go.Proofs.Ytbojbofakmihmaa.Bp
set_option maxRecDepth 100000
set_option linter.unusedSimpArgs false
set_option linter.unusedSectionVars false
set_option linter.unusedVariables false
variable [Fz]
def noneS : Segs := .one (.int .i64 0) (.one (.str (bs [])) (.one (.rsl 0 3 (fun _ => .nil)) .nil))
mutual
def nodeS : Nd → Segs
  | .mk t b ks => .one (.int .i64 t) (.one (.str (bs b)) (.one (.rsl ks.length 3 (nodesS ks)) .nil))
def nodesS : List Nd → Nat → Segs
  | [], _ => noneS
  | k :: _, 0 => nodeS k
  | _ :: r, i + 1 => nodesS r i
end
def nodeV (n : Nd) : LVal := .agg (nodeS n)
def nodesV (ks : List Nd) : LVal := .rsl ks.length 3 (nodesS ks)
theorem nodesS_at : ∀ (ks : List Nd) (i : Nat), i < ks.length → nodesS ks i = nodeS (ks.getD i default)
  | [], i, h => by simp at h
  | k :: r, 0, h => by rw [nodesS]; rfl
  | k :: r, i + 1, h => by
    rw [nodesS, nodesS_at r i (by simpa using h)]
    rfl
mutual
theorem Nd.ind {p : Nd → Prop} (h : ∀ t b ks, (∀ k ∈ ks, p k) → p (.mk t b ks)) : ∀ n, p n
  | .mk t b ks => h t b ks (Nd.inds h ks)
theorem Nd.inds {p : Nd → Prop} (h : ∀ t b ks, (∀ k ∈ ks, p k) → p (.mk t b ks)) : ∀ (ks : List Nd) (k : Nd), k ∈ ks → p k
  | [], k, hk => by cases hk
  | x :: r, k, hk => by
    rcases List.mem_cons.1 hk with e | hk
    · exact e ▸ Nd.ind h x
    · exact Nd.inds h r k hk
end
theorem getD_mem {ks : List Nd} {i : Nat} (h : i < ks.length) : ks.getD i default ∈ ks := by
  rw [List.getD_eq_getElem?_getD, List.getElem?_eq_getElem h]
  exact List.getElem_mem h
theorem ex_mk (n : Nd) : ∃ t b ks, n = .mk t b ks := by cases n; exact ⟨_, _, _, rfl⟩
theorem wrapS {n : Int} (h : -9223372036854775808 ≤ n ∧ n ≤ 9223372036854775807) : IntKind.i64.wrap n = n := by
  simp [IntKind.wrap, IntKind.bits, IntKind.signed]
  omega
theorem and31 {n : Int} (h : 0 ≤ n) (h2 : n < 256) : IntKind.i64.wrap (BitVec.ofInt IntKind.i64.bits n &&& BitVec.ofInt IntKind.i64.bits 31).toNat = n % 32 := by
  obtain ⟨m, rfl⟩ := Int.eq_ofNat_of_zero_le h
  have h2 : m < 256 := by omega
  have key : ∀ m : Fin 256, IntKind.i64.wrap (BitVec.ofInt IntKind.i64.bits ((m.val : Nat) : Int) &&& BitVec.ofInt IntKind.i64.bits 31).toNat = ((m.val : Nat) : Int) % 32 := by decide +kernel
  exact key ⟨m, h2⟩
theorem and32 {n : Int} (h : 0 ≤ n) (h2 : n < 256) : (IntKind.i64.wrap (BitVec.ofInt IntKind.i64.bits n &&& BitVec.ofInt IntKind.i64.bits 32).toNat != 0) = kidB n := by
  obtain ⟨m, rfl⟩ := Int.eq_ofNat_of_zero_le h
  have h2 : m < 256 := by omega
  have key : ∀ m : Fin 256, (IntKind.i64.wrap (BitVec.ofInt IntKind.i64.bits ((m.val : Nat) : Int) &&& BitVec.ofInt IntKind.i64.bits 32).toNat != 0) = kidB ((m.val : Nat) : Int) := by decide +kernel
  exact key ⟨m, h2⟩
theorem isTag (n : Int) : LCalls Try.prog 51 (.cons (.int .i64 n) .nil) [] (fun e h' => e = .ret (.bool (tagB n)) ∧ h' = []) := by
  refine LCalls.tell ?_; refine enter51 rfl ?_; conv => whnf
  refine iteP_intro (fun hb => ?_) (fun hb => ?_)
  · have hb3 := of_decide_eq_true hb
    rewrite [hb]
    conv => whnf
    refine iteP_intro (fun hc => ?_) (fun hc => ?_)
    · have hc3 := of_decide_eq_true hc
      rewrite [hc]
      conv => whnf
      rewrite [and31 (by omega) (by omega), show (n % 32 != 31) = tagB n by
        simp only [tagB, decide_eq_true (show 0 ≤ n by omega), decide_eq_true (show n < 256 by omega), Bool.true_and]
        by_cases c : n % 32 = 31 <;> simp [c]]
      refine ⟨[], _, _, rfl, rfl, ?_, ?_, rfl, rfl⟩
      · (repeat' first | exact trivial | exact rfl | exact Nat.le_of_ble_eq_true rfl | exact Nat.le_refl _ | exact .inl ⟨rfl, rfl, rfl, rfl, Nat.le_refl _, Nat.le_refl _, .inr rfl, Nat.le_of_ble_eq_true rfl⟩ | exact .inl ⟨rfl, rfl, rfl, rfl, Nat.le_refl _, Nat.le_refl _, .inl rfl, Nat.le_of_ble_eq_true rfl⟩ | exact .inr ⟨rfl, rfl, rfl, rfl, rfl⟩ | exact .inl ⟨rfl, rfl, rfl, (by first | omega | (simp; done) | (simp; omega)), (by first | omega | (simp; done) | (simp; omega)), (by first | omega | (simp; done) | (simp; omega)), .inr rfl, Nat.le_of_ble_eq_true rfl⟩ | exact .inl ⟨rfl, rfl, rfl, (by first | omega | (simp; done) | (simp; omega)), (by first | omega | (simp; done) | (simp; omega)), (by first | omega | (simp; done) | (simp; omega)), .inl rfl, Nat.le_of_ble_eq_true rfl⟩ | exact fun h => h | refine ⟨?_, ?_, ?_, .inl ?_⟩ | refine ⟨?_, ?_⟩ | refine fun ii hii => ?_ | omega | fail)
      · (repeat' first | exact trivial | exact rfl | exact Nat.le_of_ble_eq_true rfl | exact Nat.le_refl _ | exact .inl ⟨rfl, rfl, rfl, rfl, Nat.le_refl _, Nat.le_refl _, .inr rfl, Nat.le_of_ble_eq_true rfl⟩ | exact .inl ⟨rfl, rfl, rfl, rfl, Nat.le_refl _, Nat.le_refl _, .inl rfl, Nat.le_of_ble_eq_true rfl⟩ | exact .inr ⟨rfl, rfl, rfl, rfl, rfl⟩ | exact .inl ⟨rfl, rfl, rfl, (by first | omega | (simp; done) | (simp; omega)), (by first | omega | (simp; done) | (simp; omega)), (by first | omega | (simp; done) | (simp; omega)), .inr rfl, Nat.le_of_ble_eq_true rfl⟩ | exact .inl ⟨rfl, rfl, rfl, (by first | omega | (simp; done) | (simp; omega)), (by first | omega | (simp; done) | (simp; omega)), (by first | omega | (simp; done) | (simp; omega)), .inl rfl, Nat.le_of_ble_eq_true rfl⟩ | exact fun h => h | refine ⟨?_, ?_, ?_, .inl ?_⟩ | refine ⟨?_, ?_⟩ | refine fun ii hii => ?_ | omega | fail)
    · have hc3 := of_decide_eq_false hc
      rewrite [hc, show tagB n = false by simp only [tagB, decide_eq_false (show ¬ n < 256 by omega), Bool.false_and, Bool.and_false]]
      conv => whnf
      refine ⟨[], _, _, rfl, rfl, ?_, ?_, rfl, rfl⟩
      · (repeat' first | exact trivial | exact rfl | exact Nat.le_of_ble_eq_true rfl | exact Nat.le_refl _ | exact .inl ⟨rfl, rfl, rfl, rfl, Nat.le_refl _, Nat.le_refl _, .inr rfl, Nat.le_of_ble_eq_true rfl⟩ | exact .inl ⟨rfl, rfl, rfl, rfl, Nat.le_refl _, Nat.le_refl _, .inl rfl, Nat.le_of_ble_eq_true rfl⟩ | exact .inr ⟨rfl, rfl, rfl, rfl, rfl⟩ | exact .inl ⟨rfl, rfl, rfl, (by first | omega | (simp; done) | (simp; omega)), (by first | omega | (simp; done) | (simp; omega)), (by first | omega | (simp; done) | (simp; omega)), .inr rfl, Nat.le_of_ble_eq_true rfl⟩ | exact .inl ⟨rfl, rfl, rfl, (by first | omega | (simp; done) | (simp; omega)), (by first | omega | (simp; done) | (simp; omega)), (by first | omega | (simp; done) | (simp; omega)), .inl rfl, Nat.le_of_ble_eq_true rfl⟩ | exact fun h => h | refine ⟨?_, ?_, ?_, .inl ?_⟩ | refine ⟨?_, ?_⟩ | refine fun ii hii => ?_ | omega | fail)
      · (repeat' first | exact trivial | exact rfl | exact Nat.le_of_ble_eq_true rfl | exact Nat.le_refl _ | exact .inl ⟨rfl, rfl, rfl, rfl, Nat.le_refl _, Nat.le_refl _, .inr rfl, Nat.le_of_ble_eq_true rfl⟩ | exact .inl ⟨rfl, rfl, rfl, rfl, Nat.le_refl _, Nat.le_refl _, .inl rfl, Nat.le_of_ble_eq_true rfl⟩ | exact .inr ⟨rfl, rfl, rfl, rfl, rfl⟩ | exact .inl ⟨rfl, rfl, rfl, (by first | omega | (simp; done) | (simp; omega)), (by first | omega | (simp; done) | (simp; omega)), (by first | omega | (simp; done) | (simp; omega)), .inr rfl, Nat.le_of_ble_eq_true rfl⟩ | exact .inl ⟨rfl, rfl, rfl, (by first | omega | (simp; done) | (simp; omega)), (by first | omega | (simp; done) | (simp; omega)), (by first | omega | (simp; done) | (simp; omega)), .inl rfl, Nat.le_of_ble_eq_true rfl⟩ | exact fun h => h | refine ⟨?_, ?_, ?_, .inl ?_⟩ | refine ⟨?_, ?_⟩ | refine fun ii hii => ?_ | omega | fail)
  · have hb3 := of_decide_eq_false hb
    rewrite [hb, show tagB n = false by simp only [tagB, decide_eq_false (show ¬ 0 ≤ n by omega), Bool.false_and]]
    conv => whnf
    refine ⟨[], _, _, rfl, rfl, ?_, ?_, rfl, rfl⟩
    · (repeat' first | exact trivial | exact rfl | exact Nat.le_of_ble_eq_true rfl | exact Nat.le_refl _ | exact .inl ⟨rfl, rfl, rfl, rfl, Nat.le_refl _, Nat.le_refl _, .inr rfl, Nat.le_of_ble_eq_true rfl⟩ | exact .inl ⟨rfl, rfl, rfl, rfl, Nat.le_refl _, Nat.le_refl _, .inl rfl, Nat.le_of_ble_eq_true rfl⟩ | exact .inr ⟨rfl, rfl, rfl, rfl, rfl⟩ | exact .inl ⟨rfl, rfl, rfl, (by first | omega | (simp; done) | (simp; omega)), (by first | omega | (simp; done) | (simp; omega)), (by first | omega | (simp; done) | (simp; omega)), .inr rfl, Nat.le_of_ble_eq_true rfl⟩ | exact .inl ⟨rfl, rfl, rfl, (by first | omega | (simp; done) | (simp; omega)), (by first | omega | (simp; done) | (simp; omega)), (by first | omega | (simp; done) | (simp; omega)), .inl rfl, Nat.le_of_ble_eq_true rfl⟩ | exact fun h => h | refine ⟨?_, ?_, ?_, .inl ?_⟩ | refine ⟨?_, ?_⟩ | refine fun ii hii => ?_ | omega | fail)
    · (repeat' first | exact trivial | exact rfl | exact Nat.le_of_ble_eq_true rfl | exact Nat.le_refl _ | exact .inl ⟨rfl, rfl, rfl, rfl, Nat.le_refl _, Nat.le_refl _, .inr rfl, Nat.le_of_ble_eq_true rfl⟩ | exact .inl ⟨rfl, rfl, rfl, rfl, Nat.le_refl _, Nat.le_refl _, .inl rfl, Nat.le_of_ble_eq_true rfl⟩ | exact .inr ⟨rfl, rfl, rfl, rfl, rfl⟩ | exact .inl ⟨rfl, rfl, rfl, (by first | omega | (simp; done) | (simp; omega)), (by first | omega | (simp; done) | (simp; omega)), (by first | omega | (simp; done) | (simp; omega)), .inr rfl, Nat.le_of_ble_eq_true rfl⟩ | exact .inl ⟨rfl, rfl, rfl, (by first | omega | (simp; done) | (simp; omega)), (by first | omega | (simp; done) | (simp; omega)), (by first | omega | (simp; done) | (simp; omega)), .inl rfl, Nat.le_of_ble_eq_true rfl⟩ | exact fun h => h | refine ⟨?_, ?_, ?_, .inl ?_⟩ | refine ⟨?_, ?_⟩ | refine fun ii hii => ?_ | omega | fail)
def boxI (n : Int) : Option LObj := some ⟨.one (.int .i64 n) .nil, 3, false, false⟩
def idxP (p : Nd → Bool) : List Nd → Nat → Int
  | [], _ => -1
  | k :: r, i => if p k then i else idxP p r (i + 1)
theorem idxP_ge (p : Nd → Bool) : ∀ (ks : List Nd) (i : Nat), decide (idxP p ks i ≥ 0) = ks.any p
  | [], i => rfl
  | k :: r, i => by
    unfold idxP
    cases hp : p k with
    | true => simp [hp]
    | false => simp only [Bool.false_eq_true, if_false, List.any_cons, hp, Bool.false_or]; exact idxP_ge p r (i + 1)
theorem drop_cons {ks : List Nd} {i : Nat} (h : i < ks.length) : ks.drop i = ks.getD i default :: ks.drop (i + 1) := by
  rw [List.getD_eq_getElem?_getD, List.getElem?_eq_getElem h]
  exact List.drop_eq_getElem_cons h
theorem sh_node {K : Nat} {F : Fzl} : ∀ n, shS K F (nodeS n) (nodeS n) :=
  Nd.ind fun t b ks ih => by
    rw [nodeS]
    refine ⟨⟨rfl, rfl⟩, rfl, ⟨rfl, rfl, fun i hi => ?_⟩, trivial⟩
    rw [nodesS_at ks i hi]
    exact ih _ (getD_mem hi)
theorem sh_nodes {K : Nat} {F : Fzl} {ks : List Nd} {i : Nat} (hi : i < ks.length) : shS K F (nodesS ks i) (nodesS ks i) := by
  rw [nodesS_at ks i hi]
  exact sh_node _
theorem node_at {ks : List Nd} {k : Nat} (hk : k < ks.length) : ∃ t b ks', ks.getD k default = .mk t b ks' ∧ nodesS ks k = .one (.int .i64 t) (.one (.str (bs b)) (.one (.rsl ks'.length 3 (nodesS ks')) .nil)) := by
  obtain ⟨t, b, ks', e⟩ := ex_mk (ks.getD k default)
  exact ⟨t, b, ks', e, by rw [nodesS_at ks k hk, e, nodeS]⟩
theorem nodeV_mk {t : Int} {b : Bp.Bs} {ks : List Nd} : nodeV (.mk t b ks) = .agg (.one (.int .i64 t) (.one (.str (bs b)) (.one (.rsl ks.length 3 (nodesS ks)) .nil))) := by rw [nodeV, nodeS]
/-- Kids' rows, by what is known of them. -/
theorem nodes_abs (ks : List Nd) : ∃ f : Nat → Segs, nodesS ks = f ∧ (∀ k, k < ks.length → ∃ t b ks', ks.getD k default = .mk t b ks' ∧ f k = .one (.int .i64 t) (.one (.str (bs b)) (.one (.rsl ks'.length 3 (nodesS ks')) .nil))) ∧ ∀ (K : Nat) (F : Fzl) (i : Nat), i < ks.length → shS K F (f i) (f i) :=
  ⟨nodesS ks, rfl, fun k hk => node_at hk, fun K F i hi => sh_nodes hi⟩
theorem IndexFunc (ks : List Nd) (hks : ks.length ≤ 140737488351232) (f : FuncId) (d : Int) (p : Nd → Bool) (hc : ∀ k ∈ ks, LCalls Try.prog f (.cons (nodeV k) (.cons (.ptr ⟨0, [], 0⟩) .nil)) [boxI d] (fun e h' => e = .ret (.bool (p k)) ∧ h' = [boxI d])) :
    LCalls Try.prog 93 (.cons (nodesV ks) (.cons (.func f (.cons (.ptr ⟨0, [], 0⟩) .nil)) .nil)) [boxI d] (fun e h' => e = .ret (.int .i64 (idxP p ks 0)) ∧ h' = [boxI d]) := by
  refine LCalls.tell ?_; refine enter93 rfl ?_; conv => whnf
  refine Loop.inv (lwp_mono _) (fun j t h => ∃ (k : Nat), k ≤ ks.length ∧ j = ks.length - k ∧ idxP p ks 0 = idxP p (ks.drop k) k ∧ t = [nodesV ks, .func f (.cons (.ptr ⟨0, [], 0⟩) .nil), .any, .any, .any, .any, .any, .int .i64 ks.length, .int .i64 k, .any, .any, .any, .any, .any, .any, .any, .any, .any, .any] ∧ h = [boxI d]) ?_ ?_
  · refine ⟨_, _, _, ⟨[], trivial, [0], rfl, rfl, ?_, ?_⟩, 0, Nat.zero_le _, rfl, rfl, rfl, rfl⟩
    · (repeat' first | exact trivial | exact rfl | exact Nat.le_of_ble_eq_true rfl | exact Nat.le_refl _ | exact .inl ⟨rfl, rfl, rfl, rfl, Nat.le_refl _, Nat.le_refl _, .inr rfl, Nat.le_of_ble_eq_true rfl⟩ | exact .inl ⟨rfl, rfl, rfl, rfl, Nat.le_refl _, Nat.le_refl _, .inl rfl, Nat.le_of_ble_eq_true rfl⟩ | exact .inr ⟨rfl, rfl, rfl, rfl, rfl⟩ | exact .inl ⟨rfl, rfl, rfl, (by first | omega | (simp; done) | (simp; omega)), (by first | omega | (simp; done) | (simp; omega)), (by first | omega | (simp; done) | (simp; omega)), .inr rfl, Nat.le_of_ble_eq_true rfl⟩ | exact .inl ⟨rfl, rfl, rfl, (by first | omega | (simp; done) | (simp; omega)), (by first | omega | (simp; done) | (simp; omega)), (by first | omega | (simp; done) | (simp; omega)), .inl rfl, Nat.le_of_ble_eq_true rfl⟩ | exact fun h => h | refine ⟨?_, ?_, ?_, .inl ?_⟩ | refine ⟨?_, ?_⟩ | refine fun ii hii => ?_ | omega | fail)
      all_goals exact sh_nodes hii
    · (repeat' first | exact trivial | exact rfl | exact Nat.le_of_ble_eq_true rfl | exact Nat.le_refl _ | exact .inl ⟨rfl, rfl, rfl, rfl, Nat.le_refl _, Nat.le_refl _, .inr rfl, Nat.le_of_ble_eq_true rfl⟩ | exact .inl ⟨rfl, rfl, rfl, rfl, Nat.le_refl _, Nat.le_refl _, .inl rfl, Nat.le_of_ble_eq_true rfl⟩ | exact .inr ⟨rfl, rfl, rfl, rfl, rfl⟩ | exact .inl ⟨rfl, rfl, rfl, (by first | omega | (simp; done) | (simp; omega)), (by first | omega | (simp; done) | (simp; omega)), (by first | omega | (simp; done) | (simp; omega)), .inr rfl, Nat.le_of_ble_eq_true rfl⟩ | exact .inl ⟨rfl, rfl, rfl, (by first | omega | (simp; done) | (simp; omega)), (by first | omega | (simp; done) | (simp; omega)), (by first | omega | (simp; done) | (simp; omega)), .inl rfl, Nat.le_of_ble_eq_true rfl⟩ | exact fun h => h | refine ⟨?_, ?_, ?_, .inl ?_⟩ | refine ⟨?_, ?_⟩ | refine fun ii hii => ?_ | omega | fail)
  · rintro j _ _ ⟨k, hk, rfl, he, rfl, rfl⟩
    conv => whnf
    refine iteP_intro (fun hb => ?_) (fun hb => ?_)
    · rewrite [hb]
      have hb3 := of_decide_eq_true hb
      have hk2 : k < ks.length := by omega
      obtain ⟨t', b', ks', e1, e2⟩ := node_at hk2
      (conv => whnf); (repeat (refine And.intro (by first | omega | (dsimp only; omega)) ?_; conv => whnf))
      rewrite [show (k : Int).toNat = k by omega, e2]
      conv => whnf
      have hc1 := hc _ (getD_mem hk2)
      rw [e1, nodeV_mk] at hc1
      rw [drop_cons hk2, idxP, e1] at he
      refine LCalls.use (hc1) [0] rfl rfl ⟨rfl, trivial⟩ ?_; rintro _ _ ⟨rfl, rfl⟩; conv => whnf
      cases hp : p (.mk t' b' ks') with
      | true =>
        rw [hp, if_pos rfl] at he
        conv => whnf
        refine ⟨[0], _, _, rfl, rfl, ?_, ?_, rfl, rfl⟩
        · exact ⟨rfl, he.symm⟩
        · (repeat' first | exact trivial | exact rfl | exact Nat.le_of_ble_eq_true rfl | exact Nat.le_refl _ | exact .inl ⟨rfl, rfl, rfl, rfl, Nat.le_refl _, Nat.le_refl _, .inr rfl, Nat.le_of_ble_eq_true rfl⟩ | exact .inl ⟨rfl, rfl, rfl, rfl, Nat.le_refl _, Nat.le_refl _, .inl rfl, Nat.le_of_ble_eq_true rfl⟩ | exact .inr ⟨rfl, rfl, rfl, rfl, rfl⟩ | exact .inl ⟨rfl, rfl, rfl, (by first | omega | (simp; done) | (simp; omega)), (by first | omega | (simp; done) | (simp; omega)), (by first | omega | (simp; done) | (simp; omega)), .inr rfl, Nat.le_of_ble_eq_true rfl⟩ | exact .inl ⟨rfl, rfl, rfl, (by first | omega | (simp; done) | (simp; omega)), (by first | omega | (simp; done) | (simp; omega)), (by first | omega | (simp; done) | (simp; omega)), .inl rfl, Nat.le_of_ble_eq_true rfl⟩ | exact fun h => h | refine ⟨?_, ?_, ?_, .inl ?_⟩ | refine ⟨?_, ?_⟩ | refine fun ii hii => ?_ | omega | fail)
      | false =>
        rw [hp, if_neg (by decide)] at he
        conv => whnf
        rewrite [wrapS (by omega)]
        refine ⟨_, _, _, ?_, ⟨[], trivial, [0], rfl, rfl, ?_, ?_⟩, k + 1, by omega, rfl, he, rfl, rfl⟩
        · omega
        · (repeat' first | exact trivial | exact rfl | exact Nat.le_of_ble_eq_true rfl | exact Nat.le_refl _ | exact .inl ⟨rfl, rfl, rfl, rfl, Nat.le_refl _, Nat.le_refl _, .inr rfl, Nat.le_of_ble_eq_true rfl⟩ | exact .inl ⟨rfl, rfl, rfl, rfl, Nat.le_refl _, Nat.le_refl _, .inl rfl, Nat.le_of_ble_eq_true rfl⟩ | exact .inr ⟨rfl, rfl, rfl, rfl, rfl⟩ | exact .inl ⟨rfl, rfl, rfl, (by first | omega | (simp; done) | (simp; omega)), (by first | omega | (simp; done) | (simp; omega)), (by first | omega | (simp; done) | (simp; omega)), .inr rfl, Nat.le_of_ble_eq_true rfl⟩ | exact .inl ⟨rfl, rfl, rfl, (by first | omega | (simp; done) | (simp; omega)), (by first | omega | (simp; done) | (simp; omega)), (by first | omega | (simp; done) | (simp; omega)), .inl rfl, Nat.le_of_ble_eq_true rfl⟩ | exact fun h => h | refine ⟨?_, ?_, ?_, .inl ?_⟩ | refine ⟨?_, ?_⟩ | refine fun ii hii => ?_ | omega | fail)
          all_goals exact sh_nodes hii
        · (repeat' first | exact trivial | exact rfl | exact Nat.le_of_ble_eq_true rfl | exact Nat.le_refl _ | exact .inl ⟨rfl, rfl, rfl, rfl, Nat.le_refl _, Nat.le_refl _, .inr rfl, Nat.le_of_ble_eq_true rfl⟩ | exact .inl ⟨rfl, rfl, rfl, rfl, Nat.le_refl _, Nat.le_refl _, .inl rfl, Nat.le_of_ble_eq_true rfl⟩ | exact .inr ⟨rfl, rfl, rfl, rfl, rfl⟩ | exact .inl ⟨rfl, rfl, rfl, (by first | omega | (simp; done) | (simp; omega)), (by first | omega | (simp; done) | (simp; omega)), (by first | omega | (simp; done) | (simp; omega)), .inr rfl, Nat.le_of_ble_eq_true rfl⟩ | exact .inl ⟨rfl, rfl, rfl, (by first | omega | (simp; done) | (simp; omega)), (by first | omega | (simp; done) | (simp; omega)), (by first | omega | (simp; done) | (simp; omega)), .inl rfl, Nat.le_of_ble_eq_true rfl⟩ | exact fun h => h | refine ⟨?_, ?_, ?_, .inl ?_⟩ | refine ⟨?_, ?_⟩ | refine fun ii hii => ?_ | omega | fail)
    · rewrite [hb]
      have hb3 := of_decide_eq_false hb
      have hk2 : k = ks.length := by omega
      subst hk2
      rw [List.drop_length, idxP] at he
      conv => whnf
      refine ⟨[0], _, _, rfl, rfl, ?_, ?_, rfl, rfl⟩
      · exact ⟨rfl, he.symm⟩
      · (repeat' first | exact trivial | exact rfl | exact Nat.le_of_ble_eq_true rfl | exact Nat.le_refl _ | exact .inl ⟨rfl, rfl, rfl, rfl, Nat.le_refl _, Nat.le_refl _, .inr rfl, Nat.le_of_ble_eq_true rfl⟩ | exact .inl ⟨rfl, rfl, rfl, rfl, Nat.le_refl _, Nat.le_refl _, .inl rfl, Nat.le_of_ble_eq_true rfl⟩ | exact .inr ⟨rfl, rfl, rfl, rfl, rfl⟩ | exact .inl ⟨rfl, rfl, rfl, (by first | omega | (simp; done) | (simp; omega)), (by first | omega | (simp; done) | (simp; omega)), (by first | omega | (simp; done) | (simp; omega)), .inr rfl, Nat.le_of_ble_eq_true rfl⟩ | exact .inl ⟨rfl, rfl, rfl, (by first | omega | (simp; done) | (simp; omega)), (by first | omega | (simp; done) | (simp; omega)), (by first | omega | (simp; done) | (simp; omega)), .inl rfl, Nat.le_of_ble_eq_true rfl⟩ | exact fun h => h | refine ⟨?_, ?_, ?_, .inl ?_⟩ | refine ⟨?_, ?_⟩ | refine fun ii hii => ?_ | omega | fail)
theorem ContainsFunc (ks : List Nd) (hks : ks.length ≤ 140737488351232) (f : FuncId) (d : Int) (p : Nd → Bool) (hc : ∀ k ∈ ks, LCalls Try.prog f (.cons (nodeV k) (.cons (.ptr ⟨0, [], 0⟩) .nil)) [boxI d] (fun e h' => e = .ret (.bool (p k)) ∧ h' = [boxI d])) :
    LCalls Try.prog 70 (.cons (nodesV ks) (.cons (.func f (.cons (.ptr ⟨0, [], 0⟩) .nil)) .nil)) [boxI d] (fun e h' => e = .ret (.bool (ks.any p)) ∧ h' = [boxI d]) := by
  rw [← idxP_ge p ks 0]
  refine LCalls.tell ?_; refine enter70 rfl ?_; conv => whnf
  refine LCalls.use (IndexFunc ks hks f d p hc) [0] rfl rfl ⟨rfl, trivial⟩ ?_; rintro _ _ ⟨rfl, rfl⟩; conv => whnf
  refine ⟨[0], _, _, rfl, rfl, ?_, ?_, rfl, rfl⟩
  · (repeat' first | exact trivial | exact rfl | exact Nat.le_of_ble_eq_true rfl | exact Nat.le_refl _ | exact .inl ⟨rfl, rfl, rfl, rfl, Nat.le_refl _, Nat.le_refl _, .inr rfl, Nat.le_of_ble_eq_true rfl⟩ | exact .inl ⟨rfl, rfl, rfl, rfl, Nat.le_refl _, Nat.le_refl _, .inl rfl, Nat.le_of_ble_eq_true rfl⟩ | exact .inr ⟨rfl, rfl, rfl, rfl, rfl⟩ | exact .inl ⟨rfl, rfl, rfl, (by first | omega | (simp; done) | (simp; omega)), (by first | omega | (simp; done) | (simp; omega)), (by first | omega | (simp; done) | (simp; omega)), .inr rfl, Nat.le_of_ble_eq_true rfl⟩ | exact .inl ⟨rfl, rfl, rfl, (by first | omega | (simp; done) | (simp; omega)), (by first | omega | (simp; done) | (simp; omega)), (by first | omega | (simp; done) | (simp; omega)), .inl rfl, Nat.le_of_ble_eq_true rfl⟩ | exact fun h => h | refine ⟨?_, ?_, ?_, .inl ?_⟩ | refine ⟨?_, ?_⟩ | refine fun ii hii => ?_ | omega | fail)
  · (repeat' first | exact trivial | exact rfl | exact Nat.le_of_ble_eq_true rfl | exact Nat.le_refl _ | exact .inl ⟨rfl, rfl, rfl, rfl, Nat.le_refl _, Nat.le_refl _, .inr rfl, Nat.le_of_ble_eq_true rfl⟩ | exact .inl ⟨rfl, rfl, rfl, rfl, Nat.le_refl _, Nat.le_refl _, .inl rfl, Nat.le_of_ble_eq_true rfl⟩ | exact .inr ⟨rfl, rfl, rfl, rfl, rfl⟩ | exact .inl ⟨rfl, rfl, rfl, (by first | omega | (simp; done) | (simp; omega)), (by first | omega | (simp; done) | (simp; omega)), (by first | omega | (simp; done) | (simp; omega)), .inr rfl, Nat.le_of_ble_eq_true rfl⟩ | exact .inl ⟨rfl, rfl, rfl, (by first | omega | (simp; done) | (simp; omega)), (by first | omega | (simp; done) | (simp; omega)), (by first | omega | (simp; done) | (simp; omega)), .inl rfl, Nat.le_of_ble_eq_true rfl⟩ | exact fun h => h | refine ⟨?_, ?_, ?_, .inl ?_⟩ | refine ⟨?_, ?_⟩ | refine fun ii hii => ?_ | omega | fail)
/-- So many kids a piece may have (else what is written might not fit into memory). -/
inductive Fits : Nd → Prop where
  | mk {t : Int} {b : Bp.Bs} {ks : List Nd} (h : ks.length ≤ 140737488351232) (hk : ∀ k ∈ ks, Fits k) : Fits (.mk t b ks)
theorem deepL_any (ks : List Nd) (d : Nat) : deepL ks d = !ks.any (fun k => !deepP k d) := by
  induction ks with
  | nil => rfl
  | cons k r ih => rw [deepL, ih, List.any_cons]; cases deepP k d <;> rfl
theorem deep (n : Nd) : Fits n → ∀ d : Nat, d ≤ 100 → LCalls Try.prog 44 (.cons (nodeV n) (.cons (.int .i64 d) .nil)) [] (fun e h' => e = .ret (.bool (deepP n d)) ∧ h' = []) := by
  refine Nd.ind (p := fun n => Fits n → ∀ d : Nat, d ≤ 100 → LCalls Try.prog 44 (.cons (nodeV n) (.cons (.int .i64 d) .nil)) [] (fun e h' => e = .ret (.bool (deepP n d)) ∧ h' = [])) (fun t b ks ih hf d hd => ?_) n
  obtain ⟨hl, hk⟩ := hf
  rw [nodeV_mk]
  cases d with
  | zero =>
    rw [deepP]
    refine LCalls.tell ?_; refine enter44 rfl ?_; conv => whnf
    refine ⟨[], _, _, rfl, rfl, ?_, ?_, rfl, rfl⟩
    · (repeat' first | exact trivial | exact rfl | exact Nat.le_of_ble_eq_true rfl | exact Nat.le_refl _ | exact .inl ⟨rfl, rfl, rfl, rfl, Nat.le_refl _, Nat.le_refl _, .inr rfl, Nat.le_of_ble_eq_true rfl⟩ | exact .inl ⟨rfl, rfl, rfl, rfl, Nat.le_refl _, Nat.le_refl _, .inl rfl, Nat.le_of_ble_eq_true rfl⟩ | exact .inr ⟨rfl, rfl, rfl, rfl, rfl⟩ | exact .inl ⟨rfl, rfl, rfl, (by first | omega | (simp; done) | (simp; omega)), (by first | omega | (simp; done) | (simp; omega)), (by first | omega | (simp; done) | (simp; omega)), .inr rfl, Nat.le_of_ble_eq_true rfl⟩ | exact .inl ⟨rfl, rfl, rfl, (by first | omega | (simp; done) | (simp; omega)), (by first | omega | (simp; done) | (simp; omega)), (by first | omega | (simp; done) | (simp; omega)), .inl rfl, Nat.le_of_ble_eq_true rfl⟩ | exact fun h => h | refine ⟨?_, ?_, ?_, .inl ?_⟩ | refine ⟨?_, ?_⟩ | refine fun ii hii => ?_ | omega | fail)
    · (repeat' first | exact trivial | exact rfl | exact Nat.le_of_ble_eq_true rfl | exact Nat.le_refl _ | exact .inl ⟨rfl, rfl, rfl, rfl, Nat.le_refl _, Nat.le_refl _, .inr rfl, Nat.le_of_ble_eq_true rfl⟩ | exact .inl ⟨rfl, rfl, rfl, rfl, Nat.le_refl _, Nat.le_refl _, .inl rfl, Nat.le_of_ble_eq_true rfl⟩ | exact .inr ⟨rfl, rfl, rfl, rfl, rfl⟩ | exact .inl ⟨rfl, rfl, rfl, (by first | omega | (simp; done) | (simp; omega)), (by first | omega | (simp; done) | (simp; omega)), (by first | omega | (simp; done) | (simp; omega)), .inr rfl, Nat.le_of_ble_eq_true rfl⟩ | exact .inl ⟨rfl, rfl, rfl, (by first | omega | (simp; done) | (simp; omega)), (by first | omega | (simp; done) | (simp; omega)), (by first | omega | (simp; done) | (simp; omega)), .inl rfl, Nat.le_of_ble_eq_true rfl⟩ | exact fun h => h | refine ⟨?_, ?_, ?_, .inl ?_⟩ | refine ⟨?_, ?_⟩ | refine fun ii hii => ?_ | omega | fail)
  | succ d =>
    rw [deepP, deepL_any]
    have hc : ∀ k ∈ ks, LCalls Try.prog 71 (.cons (nodeV k) (.cons (.ptr ⟨0, [], 0⟩) .nil)) [boxI ((d + 1 : Nat) : Int)] (fun e h' => e = .ret (.bool (!deepP k d)) ∧ h' = [boxI ((d + 1 : Nat) : Int)]) := by
      intro k hkm
      have hi := ih k hkm (hk k hkm) d (by omega)
      obtain ⟨t', b', ks'⟩ := k
      rw [nodeV_mk] at hi ⊢
      refine LCalls.tell ?_; refine enter71 rfl ?_; conv => whnf
      rewrite [show IntKind.i64.wrap (((d + 1 : Nat) : Int) - 1) = (d : Int) by rw [wrapS (by omega)]; omega]
      refine LCalls.use (hi) [] rfl rfl trivial ?_; rintro _ _ ⟨rfl, rfl⟩; conv => whnf
      refine ⟨[0], _, _, rfl, rfl, ?_, ?_, rfl, rfl⟩
      · (repeat' first | exact trivial | exact rfl | exact Nat.le_of_ble_eq_true rfl | exact Nat.le_refl _ | exact .inl ⟨rfl, rfl, rfl, rfl, Nat.le_refl _, Nat.le_refl _, .inr rfl, Nat.le_of_ble_eq_true rfl⟩ | exact .inl ⟨rfl, rfl, rfl, rfl, Nat.le_refl _, Nat.le_refl _, .inl rfl, Nat.le_of_ble_eq_true rfl⟩ | exact .inr ⟨rfl, rfl, rfl, rfl, rfl⟩ | exact .inl ⟨rfl, rfl, rfl, (by first | omega | (simp; done) | (simp; omega)), (by first | omega | (simp; done) | (simp; omega)), (by first | omega | (simp; done) | (simp; omega)), .inr rfl, Nat.le_of_ble_eq_true rfl⟩ | exact .inl ⟨rfl, rfl, rfl, (by first | omega | (simp; done) | (simp; omega)), (by first | omega | (simp; done) | (simp; omega)), (by first | omega | (simp; done) | (simp; omega)), .inl rfl, Nat.le_of_ble_eq_true rfl⟩ | exact fun h => h | refine ⟨?_, ?_, ?_, .inl ?_⟩ | refine ⟨?_, ?_⟩ | refine fun ii hii => ?_ | omega | fail)
      · (repeat' first | exact trivial | exact rfl | exact Nat.le_of_ble_eq_true rfl | exact Nat.le_refl _ | exact .inl ⟨rfl, rfl, rfl, rfl, Nat.le_refl _, Nat.le_refl _, .inr rfl, Nat.le_of_ble_eq_true rfl⟩ | exact .inl ⟨rfl, rfl, rfl, rfl, Nat.le_refl _, Nat.le_refl _, .inl rfl, Nat.le_of_ble_eq_true rfl⟩ | exact .inr ⟨rfl, rfl, rfl, rfl, rfl⟩ | exact .inl ⟨rfl, rfl, rfl, (by first | omega | (simp; done) | (simp; omega)), (by first | omega | (simp; done) | (simp; omega)), (by first | omega | (simp; done) | (simp; omega)), .inr rfl, Nat.le_of_ble_eq_true rfl⟩ | exact .inl ⟨rfl, rfl, rfl, (by first | omega | (simp; done) | (simp; omega)), (by first | omega | (simp; done) | (simp; omega)), (by first | omega | (simp; done) | (simp; omega)), .inl rfl, Nat.le_of_ble_eq_true rfl⟩ | exact fun h => h | refine ⟨?_, ?_, ?_, .inl ?_⟩ | refine ⟨?_, ?_⟩ | refine fun ii hii => ?_ | omega | fail)
    refine LCalls.tell ?_; refine enter44 rfl ?_; conv => whnf
    refine iteP_intro (fun hb => ?_) (fun hb => ?_)
    · rewrite [hb]
      conv => whnf
      refine LCalls.use (ContainsFunc ks hl _ _ _ hc) [1] rfl rfl ⟨rfl, trivial⟩ ?_; rintro _ _ ⟨rfl, rfl⟩; conv => whnf
      refine ⟨[], _, _, rfl, rfl, ?_, ?_, rfl, rfl⟩
      · (repeat' first | exact trivial | exact rfl | exact Nat.le_of_ble_eq_true rfl | exact Nat.le_refl _ | exact .inl ⟨rfl, rfl, rfl, rfl, Nat.le_refl _, Nat.le_refl _, .inr rfl, Nat.le_of_ble_eq_true rfl⟩ | exact .inl ⟨rfl, rfl, rfl, rfl, Nat.le_refl _, Nat.le_refl _, .inl rfl, Nat.le_of_ble_eq_true rfl⟩ | exact .inr ⟨rfl, rfl, rfl, rfl, rfl⟩ | exact .inl ⟨rfl, rfl, rfl, (by first | omega | (simp; done) | (simp; omega)), (by first | omega | (simp; done) | (simp; omega)), (by first | omega | (simp; done) | (simp; omega)), .inr rfl, Nat.le_of_ble_eq_true rfl⟩ | exact .inl ⟨rfl, rfl, rfl, (by first | omega | (simp; done) | (simp; omega)), (by first | omega | (simp; done) | (simp; omega)), (by first | omega | (simp; done) | (simp; omega)), .inl rfl, Nat.le_of_ble_eq_true rfl⟩ | exact fun h => h | refine ⟨?_, ?_, ?_, .inl ?_⟩ | refine ⟨?_, ?_⟩ | refine fun ii hii => ?_ | omega | fail)
      · (repeat' first | exact trivial | exact rfl | exact Nat.le_of_ble_eq_true rfl | exact Nat.le_refl _ | exact .inl ⟨rfl, rfl, rfl, rfl, Nat.le_refl _, Nat.le_refl _, .inr rfl, Nat.le_of_ble_eq_true rfl⟩ | exact .inl ⟨rfl, rfl, rfl, rfl, Nat.le_refl _, Nat.le_refl _, .inl rfl, Nat.le_of_ble_eq_true rfl⟩ | exact .inr ⟨rfl, rfl, rfl, rfl, rfl⟩ | exact .inl ⟨rfl, rfl, rfl, (by first | omega | (simp; done) | (simp; omega)), (by first | omega | (simp; done) | (simp; omega)), (by first | omega | (simp; done) | (simp; omega)), .inr rfl, Nat.le_of_ble_eq_true rfl⟩ | exact .inl ⟨rfl, rfl, rfl, (by first | omega | (simp; done) | (simp; omega)), (by first | omega | (simp; done) | (simp; omega)), (by first | omega | (simp; done) | (simp; omega)), .inl rfl, Nat.le_of_ble_eq_true rfl⟩ | exact fun h => h | refine ⟨?_, ?_, ?_, .inl ?_⟩ | refine ⟨?_, ?_⟩ | refine fun ii hii => ?_ | omega | fail)
    · have hb3 := of_decide_eq_false hb
      exact absurd (show (((d + 1 : Nat)) : Int) > 0 by omega) hb3
end Go.Proofs.Ytbojbofakmihmaa.Bk
