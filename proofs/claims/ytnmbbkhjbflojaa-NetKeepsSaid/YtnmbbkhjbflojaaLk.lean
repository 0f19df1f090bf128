/- NetKeeps. Written by a program of this session. -/
import Derived.Test.YtnmbbkhjbflojaaLa
namespace Go.Proofs.Ytnmbbkhjbflojaa.Net
open Go.Proofs.Ytnmbbkhjbflojaa.Lh
set_option maxRecDepth 100000
set_option linter.unusedSimpArgs false
set_option linter.unusedVariables false
structure G (k : Nat) (x : Net) (S : List Letter) : Prop where
  le : x.way.length ≤ 100
  sent : x.sent = S.length
  sle : S.length ≤ k
  d0 : 0 ≤ x.doubled
  d1 : x.doubled ≤ k
  v0 : 0 ≤ x.delivered
  v1 : x.delivered ≤ k
  l0 : 0 ≤ x.lost
  l1 : x.lost ≤ k
  sum : x.sent + x.doubled = x.delivered + x.lost + x.way.length
  mem : ∀ a ∈ x.way, a ∈ S
theorem w1_eq (n : Int) (h1 : 0 ≤ n) (h2 : n ≤ 1000) : w1 n = n + 1 := wr _ (by omega) (by omega)
theorem Gsame {k : Nat} {x : Net} {S : List Letter} (g : G k x S) : G (k + 1) x S :=
  ⟨g.le, g.sent, by have := g.sle; omega, g.d0, by have := g.d1; omega, g.v0, by have := g.v1; omega, g.l0, by have := g.l1; omega, g.sum, g.mem⟩
theorem Gsend {k : Nat} {x : Net} {S : List Letter} (g : G k x S) (hk : k < 200) (a : Letter) (h : sendE x a = 0) : G (k + 1) (sent x a) (S ++ [a]) := by
  have q1 := g.sent; have q2 := g.sle; have q9 := g.sum
  have e : (sent x a).sent = x.sent + 1 := w1_eq _ (by omega) (by omega)
  refine ⟨sent_le x a g.le h, ?_, ?_, g.d0, ?_, g.v0, ?_, g.l0, ?_, ?_, ?_⟩
  · rw [e, List.length_append, q1]; simp
  · rw [List.length_append]; simp; omega
  · have := g.d1; show x.doubled ≤ _; omega
  · have := g.v1; show x.delivered ≤ _; omega
  · have := g.l1; show x.lost ≤ _; omega
  · rw [e]
    show x.sent + 1 + x.doubled = x.delivered + x.lost + ((x.way ++ [a]).length : Int)
    rw [List.length_append]; simp; omega
  · intro b hb
    have hb : b ∈ x.way ++ [a] := hb
    rcases List.mem_append.1 hb with hb | hb
    · exact List.mem_append.2 (.inl (g.mem b hb))
    · exact List.mem_append.2 (.inr hb)
theorem Gdel {k : Nat} {x : Net} {S : List Letter} (g : G k x S) (hk : k < 200) (i : Nat) (hi : i < x.way.length) : G (k + 1) (tookD x i) S := by
  have q5 := g.v0; have q6 := g.v1; have q9 := g.sum
  have e : (tookD x i).delivered = x.delivered + 1 := w1_eq _ (by omega) (by omega)
  have el : (x.way.eraseIdx i).length = x.way.length - 1 := by rw [List.length_eraseIdx, if_pos hi]
  refine ⟨?_, g.sent, by have := g.sle; omega, g.d0, ?_, ?_, ?_, g.l0, ?_, ?_, fun a ha => g.mem a (List.mem_of_mem_eraseIdx ha)⟩
  · show (x.way.eraseIdx i).length ≤ 100
    have := g.le; omega
  · have := g.d1; show x.doubled ≤ _; omega
  · rw [e]; omega
  · rw [e]; omega
  · have := g.l1; show x.lost ≤ _; omega
  · rw [e]
    show x.sent + x.doubled = x.delivered + 1 + x.lost + ((x.way.eraseIdx i).length : Int)
    omega
theorem Glose {k : Nat} {x : Net} {S : List Letter} (g : G k x S) (hk : k < 200) (i : Nat) (hi : i < x.way.length) : G (k + 1) (tookL x i) S := by
  have q5 := g.l0; have q6 := g.l1; have q9 := g.sum
  have e : (tookL x i).lost = x.lost + 1 := w1_eq _ (by omega) (by omega)
  have el : (x.way.eraseIdx i).length = x.way.length - 1 := by rw [List.length_eraseIdx, if_pos hi]
  refine ⟨?_, g.sent, by have := g.sle; omega, g.d0, ?_, g.v0, ?_, ?_, ?_, ?_, fun a ha => g.mem a (List.mem_of_mem_eraseIdx ha)⟩
  · show (x.way.eraseIdx i).length ≤ 100
    have := g.le; omega
  · have := g.d1; show x.doubled ≤ _; omega
  · have := g.v1; show x.delivered ≤ _; omega
  · rw [e]; omega
  · rw [e]; omega
  · rw [e]
    show x.sent + x.doubled = x.delivered + (x.lost + 1) + ((x.way.eraseIdx i).length : Int)
    omega
theorem Gdbl {k : Nat} {x : Net} {S : List Letter} (g : G k x S) (hk : k < 200) (i : Nat) (hi : i < x.way.length) (hl : x.way.length < 100) : G (k + 1) (dbl x i) S := by
  have q5 := g.d0; have q6 := g.d1; have q9 := g.sum
  have e : (dbl x i).doubled = x.doubled + 1 := w1_eq _ (by omega) (by omega)
  refine ⟨?_, g.sent, by have := g.sle; omega, ?_, ?_, g.v0, ?_, g.l0, ?_, ?_, ?_⟩
  · show (x.way ++ [x.way.getD i default]).length ≤ 100
    rw [List.length_append]; simp; omega
  · rw [e]; omega
  · rw [e]; omega
  · have := g.v1; show x.delivered ≤ _; omega
  · have := g.l1; show x.lost ≤ _; omega
  · rw [e]
    show x.sent + (x.doubled + 1) = x.delivered + x.lost + ((x.way ++ [x.way.getD i default]).length : Int)
    rw [List.length_append]; simp; omega
  · intro b hb
    have hb : b ∈ x.way ++ [x.way.getD i default] := hb
    rcases List.mem_append.1 hb with hb | hb
    · exact g.mem b hb
    · have : b = x.way.getD i default := by simpa using hb
      subst this
      refine g.mem _ ?_
      rw [List.getD_eq_getElem?_getD, List.getElem?_eq_getElem hi]
      exact List.getElem_mem hi
/-- Is it among the first j? -/
def among (S : List Letter) (y : Letter) (j : Nat) : Bool := (S.take j).any (fun s => leq s y)
theorem among_succ (S : List Letter) (y : Letter) (j : Nat) (hj : j < S.length) : among S y (j + 1) = (among S y j || leq (S.getD j default) y) := by
  unfold among
  rw [List.take_add_one, List.any_append, List.getD_eq_getElem?_getD, List.getElem?_eq_getElem hj]
  simp
theorem among_all (S : List Letter) (y : Letter) (h : y ∈ S) : among S y S.length = true := by
  unfold among
  rw [List.take_length, List.any_eq_true]
  exact ⟨y, h, leq_self y⟩
set_option maxHeartbeats 8000000 in
theorem Keeps (ty : TypeId) (l : List Act) : LCalls Try.prog 4 (.cons (inSl 0 5 l.length) .nil) [actO ty l] (fun e h' => e = .ret (.bool true) ∧ h' = [actO ty l]) := by
  refine LCalls.tell ?_
  refine enter4 rfl ?_
  conv => whnf
  refine LCalls.use Awake [] rfl rfl trivial ?_
  rintro _ _ ⟨rfl, rfl⟩
  conv => whnf
  refine LCalls.use (New_ok 4 (by decide) (by decide)) [] rfl rfl trivial ?_
  rintro _ _ ⟨rfl, rfl⟩
  conv => whnf
  refine Loop.inv (lwp_mono _) (fun n t h => ∃ (k : Nat) (x : Net) (S : List Letter), k ≤ l.length ∧ n = l.length - k ∧ G k x S ∧ t = [inSl 0 5 l.length, .any, .any, .bool true, .ptr ⟨1, [], 0⟩, .any, sl 3 S.length, .int .i64 k, .any, .any, .any, .any, .any, .any, .any, .any, .any, .any, .any, .any, .any, .any, .any, .any, .any, .any, .any, .any, .any, .any, .any, .any, .any, .any, .any, .any, .any, .any, .any, .any, .any, .any, .any, .any, .any, .any, .any, .any, .any, .any, .any, .any, .any, .any, .any, .any, .any, .any, .any, .any, .any, .any, .any, .any, .any, .any, .any, .any, .any, .any, .any, .any, .any, .any, .any, .any, .any, .any, .any, .any, .any, .any, .any, .any, .any, .any, .any, .any, .any, .any, .any, .any, .any, .any, .any, .any, .any, .any, .any, .any, .any, .any, .any, .any, .any, .any, .any, .any, .any, .any, .any, .any, .any, .any, .any, .any, .any, .any, .any, .any, .any, .any, .any, .any, .any, .any, .any] ∧ h = [actO ty l, netO 2 x, wayO x.way, wayO S]) ?_ ?_
  · refine ⟨_, _, _, ⟨[0, 1, 2, 99], rfl, rfl, ?_, ?_⟩, 0, netNew 4, [], Nat.zero_le _, rfl, ⟨by decide, by decide, by decide, by decide, by decide, by decide, by decide, by decide, by decide, by decide, fun a h => by cases h⟩, rfl, rfl⟩
    · (repeat' first | exact trivial | exact rfl | exact Nat.le_of_ble_eq_true rfl | exact Nat.le_refl _ | exact .inl ⟨rfl, rfl, rfl, rfl, Nat.le_refl _, Nat.le_refl _, .inr rfl, Nat.le_of_ble_eq_true rfl⟩ | exact .inl ⟨rfl, rfl, rfl, rfl, Nat.le_refl _, Nat.le_refl _, .inl rfl, Nat.le_of_ble_eq_true rfl⟩ | exact .inr ⟨rfl, rfl, rfl, rfl, rfl⟩ | exact .inl ⟨rfl, rfl, rfl, (by first | omega | (simp; done) | (simp; omega)), (by first | omega | (simp; done) | (simp; omega)), (by first | omega | (simp; done) | (simp; omega)), .inr rfl, Nat.le_of_ble_eq_true rfl⟩ | exact .inl ⟨rfl, rfl, rfl, (by first | omega | (simp; done) | (simp; omega)), (by first | omega | (simp; done) | (simp; omega)), (by first | omega | (simp; done) | (simp; omega)), .inl rfl, Nat.le_of_ble_eq_true rfl⟩ | exact fun h => h | refine ⟨?_, ?_, ?_, .inl ?_⟩ | refine ⟨?_, ?_⟩ | refine fun ii hii => ?_ | omega | fail)
    · (repeat' first | exact trivial | exact rfl | exact Nat.le_of_ble_eq_true rfl | exact Nat.le_refl _ | exact .inl ⟨rfl, rfl, rfl, rfl, Nat.le_refl _, Nat.le_refl _, .inr rfl, Nat.le_of_ble_eq_true rfl⟩ | exact .inl ⟨rfl, rfl, rfl, rfl, Nat.le_refl _, Nat.le_refl _, .inl rfl, Nat.le_of_ble_eq_true rfl⟩ | exact .inr ⟨rfl, rfl, rfl, rfl, rfl⟩ | exact .inl ⟨rfl, rfl, rfl, (by first | omega | (simp; done) | (simp; omega)), (by first | omega | (simp; done) | (simp; omega)), (by first | omega | (simp; done) | (simp; omega)), .inr rfl, Nat.le_of_ble_eq_true rfl⟩ | exact .inl ⟨rfl, rfl, rfl, (by first | omega | (simp; done) | (simp; omega)), (by first | omega | (simp; done) | (simp; omega)), (by first | omega | (simp; done) | (simp; omega)), .inl rfl, Nat.le_of_ble_eq_true rfl⟩ | exact fun h => h | refine ⟨?_, ?_, ?_, .inl ?_⟩ | refine ⟨?_, ?_⟩ | refine fun ii hii => ?_ | omega | fail)
  · rintro n _ _ ⟨k, x, S, hk, rfl, g0, rfl, rfl⟩
    conv => whnf
    by_cases hc : k < l.length ∧ k < 200
    · rewrite [show decide ((k : Int) < (l.length : Int)) = true from decide_eq_true (by omega)]
      conv => whnf
      rewrite [show decide ((k : Int) < 200) = true from decide_eq_true (by omega)]
      (conv => whnf); (repeat (refine ⟨by omega, ?_⟩; conv => whnf))
      rewrite [show 0 + (k : Int).toNat = k by omega]
      generalize l.getD k default = a
      obtain ⟨d, at_, y⟩ := a
      refine iteP_intro (fun hb => ?_) (fun hb => ?_)
      · rewrite [hb]
        conv => whnf
        refine LCalls.use (Send x y) [1, 2] rfl rfl ⟨rfl, rfl, trivial⟩ ?_
        rintro _ _ (⟨h2, rfl, rfl⟩ | ⟨h2, rfl, rfl⟩)
        · have p2 := g0.sle
          (conv => whnf); (repeat (refine ⟨by omega, ?_⟩; conv => whnf))
          have g := Gsend g0 hc.2 y h2
          refine LCalls.use (Counts (sent x y)) [1, 5] rfl rfl ⟨rfl, rfl, trivial⟩ ?_
          rintro _ _ ⟨rfl, rfl⟩
          conv => whnf
          refine LCalls.use (Way (sent x y) (by have := g.le; omega)) [1, 5] rfl rfl ⟨rfl, rfl, trivial⟩ ?_
          rintro _ _ ⟨rfl, rfl⟩
          conv => whnf
          have q1 := g.sent; have q2 := g.sle; have q3 := g.d0; have q4 := g.d1; have q5 := g.v0; have q6 := g.v1; have q7 := g.l0; have q8 := g.l1; have q9 := g.sum; have q10 := g.le
          rw [List.length_append] at q1 q2
          simp only [List.length_cons, List.length_nil] at q1 q2
          refine iteP_intro (fun hb => absurd (bne_iff_ne.1 hb) (fun hn => hn (by omega))) (fun hb => ?_)
          rewrite [hb]
          conv => whnf
          rewrite [wr ((sent x y).sent + (sent x y).doubled) (by omega) (by omega), wr ((sent x y).delivered + (sent x y).lost) (by omega) (by omega), wr ((sent x y).delivered + (sent x y).lost + ((sent x y).way.length : Int)) (by omega) (by omega)]
          refine iteP_intro (fun hb => absurd (bne_iff_ne.1 hb) (fun hn => hn (by omega))) (fun hb => ?_)
          rewrite [hb]
          conv => whnf
          refine iteP_intro (fun hb => absurd (of_decide_eq_true hb) (by omega)) (fun hb => ?_)
          rewrite [hb]
          conv => whnf
          rewrite [show IntKind.i64.wrap ((k : Int) + 1) = ((k + 1 : Nat) : Int) from wr _ (by omega) (by omega)]
          refine ⟨_, _, _, ?_, ⟨[0, 1, 5, 7], rfl, rfl, ?_, ?_⟩, k + 1, sent x y, S ++ [y], by omega, rfl, g, rfl, rfl⟩
          · omega
          · (repeat' first | exact trivial | exact rfl | exact Nat.le_of_ble_eq_true rfl | exact Nat.le_refl _ | exact .inl ⟨rfl, rfl, rfl, rfl, Nat.le_refl _, Nat.le_refl _, .inr rfl, Nat.le_of_ble_eq_true rfl⟩ | exact .inl ⟨rfl, rfl, rfl, rfl, Nat.le_refl _, Nat.le_refl _, .inl rfl, Nat.le_of_ble_eq_true rfl⟩ | exact .inr ⟨rfl, rfl, rfl, rfl, rfl⟩ | exact .inl ⟨rfl, rfl, rfl, (by first | omega | (simp; done) | (simp; omega)), (by first | omega | (simp; done) | (simp; omega)), (by first | omega | (simp; done) | (simp; omega)), .inr rfl, Nat.le_of_ble_eq_true rfl⟩ | exact .inl ⟨rfl, rfl, rfl, (by first | omega | (simp; done) | (simp; omega)), (by first | omega | (simp; done) | (simp; omega)), (by first | omega | (simp; done) | (simp; omega)), .inl rfl, Nat.le_of_ble_eq_true rfl⟩ | exact fun h => h | refine ⟨?_, ?_, ?_, .inl ?_⟩ | refine ⟨?_, ?_⟩ | refine fun ii hii => ?_ | omega | fail)
          · (repeat' first | exact trivial | exact rfl | exact Nat.le_of_ble_eq_true rfl | exact Nat.le_refl _ | exact .inl ⟨rfl, rfl, rfl, rfl, Nat.le_refl _, Nat.le_refl _, .inr rfl, Nat.le_of_ble_eq_true rfl⟩ | exact .inl ⟨rfl, rfl, rfl, rfl, Nat.le_refl _, Nat.le_refl _, .inl rfl, Nat.le_of_ble_eq_true rfl⟩ | exact .inr ⟨rfl, rfl, rfl, rfl, rfl⟩ | exact .inl ⟨rfl, rfl, rfl, (by first | omega | (simp; done) | (simp; omega)), (by first | omega | (simp; done) | (simp; omega)), (by first | omega | (simp; done) | (simp; omega)), .inr rfl, Nat.le_of_ble_eq_true rfl⟩ | exact .inl ⟨rfl, rfl, rfl, (by first | omega | (simp; done) | (simp; omega)), (by first | omega | (simp; done) | (simp; omega)), (by first | omega | (simp; done) | (simp; omega)), .inl rfl, Nat.le_of_ble_eq_true rfl⟩ | exact fun h => h | refine ⟨?_, ?_, ?_, .inl ?_⟩ | refine ⟨?_, ?_⟩ | refine fun ii hii => ?_ | omega | fail)
            · simp
            · refine shS_ite (fun c => ?_) (fun c => ?_)
              · exact shLs (S.getD (0 + ii) default) ((S ++ [y]).getD ii default) rfl rfl (by simp [List.getElem?_append, c])
              · have : ii = S.length := by omega
                subst this
                exact shLs y ((S ++ [y]).getD S.length default) (by simp [ls]) rfl (by simp)
        · conv => whnf
          rewrite [show (sendE x y == 0) = false from by simpa using h2]
          conv => whnf
          have g := Gsame g0
          refine LCalls.use (Counts (x)) [1, 2] rfl rfl ⟨rfl, rfl, trivial⟩ ?_
          rintro _ _ ⟨rfl, rfl⟩
          conv => whnf
          refine LCalls.use (Way (x) (by have := g.le; omega)) [1, 2] rfl rfl ⟨rfl, rfl, trivial⟩ ?_
          rintro _ _ ⟨rfl, rfl⟩
          conv => whnf
          have q1 := g.sent; have q2 := g.sle; have q3 := g.d0; have q4 := g.d1; have q5 := g.v0; have q6 := g.v1; have q7 := g.l0; have q8 := g.l1; have q9 := g.sum; have q10 := g.le
          refine iteP_intro (fun hb => absurd (bne_iff_ne.1 hb) (fun hn => hn (by omega))) (fun hb => ?_)
          rewrite [hb]
          conv => whnf
          rewrite [wr ((x).sent + (x).doubled) (by omega) (by omega), wr ((x).delivered + (x).lost) (by omega) (by omega), wr ((x).delivered + (x).lost + ((x).way.length : Int)) (by omega) (by omega)]
          refine iteP_intro (fun hb => absurd (bne_iff_ne.1 hb) (fun hn => hn (by omega))) (fun hb => ?_)
          rewrite [hb]
          conv => whnf
          refine iteP_intro (fun hb => absurd (of_decide_eq_true hb) (by omega)) (fun hb => ?_)
          rewrite [hb]
          conv => whnf
          rewrite [show IntKind.i64.wrap ((k : Int) + 1) = ((k + 1 : Nat) : Int) from wr _ (by omega) (by omega)]
          refine ⟨_, _, _, ?_, ⟨[0, 1, 2, 3], rfl, rfl, ?_, ?_⟩, k + 1, x, S, by omega, rfl, g, rfl, rfl⟩
          · omega
          · (repeat' first | exact trivial | exact rfl | exact Nat.le_of_ble_eq_true rfl | exact Nat.le_refl _ | exact .inl ⟨rfl, rfl, rfl, rfl, Nat.le_refl _, Nat.le_refl _, .inr rfl, Nat.le_of_ble_eq_true rfl⟩ | exact .inl ⟨rfl, rfl, rfl, rfl, Nat.le_refl _, Nat.le_refl _, .inl rfl, Nat.le_of_ble_eq_true rfl⟩ | exact .inr ⟨rfl, rfl, rfl, rfl, rfl⟩ | exact .inl ⟨rfl, rfl, rfl, (by first | omega | (simp; done) | (simp; omega)), (by first | omega | (simp; done) | (simp; omega)), (by first | omega | (simp; done) | (simp; omega)), .inr rfl, Nat.le_of_ble_eq_true rfl⟩ | exact .inl ⟨rfl, rfl, rfl, (by first | omega | (simp; done) | (simp; omega)), (by first | omega | (simp; done) | (simp; omega)), (by first | omega | (simp; done) | (simp; omega)), .inl rfl, Nat.le_of_ble_eq_true rfl⟩ | exact fun h => h | refine ⟨?_, ?_, ?_, .inl ?_⟩ | refine ⟨?_, ?_⟩ | refine fun ii hii => ?_ | omega | fail)
          · (repeat' first | exact trivial | exact rfl | exact Nat.le_of_ble_eq_true rfl | exact Nat.le_refl _ | exact .inl ⟨rfl, rfl, rfl, rfl, Nat.le_refl _, Nat.le_refl _, .inr rfl, Nat.le_of_ble_eq_true rfl⟩ | exact .inl ⟨rfl, rfl, rfl, rfl, Nat.le_refl _, Nat.le_refl _, .inl rfl, Nat.le_of_ble_eq_true rfl⟩ | exact .inr ⟨rfl, rfl, rfl, rfl, rfl⟩ | exact .inl ⟨rfl, rfl, rfl, (by first | omega | (simp; done) | (simp; omega)), (by first | omega | (simp; done) | (simp; omega)), (by first | omega | (simp; done) | (simp; omega)), .inr rfl, Nat.le_of_ble_eq_true rfl⟩ | exact .inl ⟨rfl, rfl, rfl, (by first | omega | (simp; done) | (simp; omega)), (by first | omega | (simp; done) | (simp; omega)), (by first | omega | (simp; done) | (simp; omega)), .inl rfl, Nat.le_of_ble_eq_true rfl⟩ | exact fun h => h | refine ⟨?_, ?_, ?_, .inl ?_⟩ | refine ⟨?_, ?_⟩ | refine fun ii hii => ?_ | omega | fail)
      rewrite [hb]
      conv => whnf
      refine iteP_intro (fun hb => ?_) (fun hb => ?_)
      · rewrite [hb]
        cases hg : got x at_
        · conv => whnf
          refine LCalls.use (Deliver_no x at_ hg) [1, 2] rfl rfl ⟨rfl, rfl, trivial⟩ ?_
          rintro _ _ ⟨rfl, rfl⟩
          conv => whnf
          refine Loop.inv (lwp_mono _) (fun n t h => ∃ (j : Nat), j ≤ S.length ∧ n = S.length - j ∧ t = [inSl 0 5 l.length, .any, .any, .bool true, .ptr ⟨1, [], 0⟩, .any, sl 3 S.length, .int .i64 k, .any, .any, .ptr ⟨4, [], 0⟩, .bool false, .bool (among S (zeroL) j), .int .i64 j, .any, .any, .any, .any, .any, .any, .any, .any, .any, .any, .any, .any, .any, .any, .any, .any, .any, .any, .any, .any, .any, .any, .any, .any, .any, .any, .any, .any, .any, .any, .any, .any, .any, .any, .any, .any, .any, .any, .any, .any, .any, .any, .any, .any, .any, .any, .any, .any, .any, .any, .any, .any, .any, .any, .any, .any, .any, .any, .any, .any, .any, .any, .any, .any, .any, .any, .any, .any, .any, .any, .any, .any, .any, .any, .any, .any, .any, .any, .any, .any, .any, .any, .any, .any, .any, .any, .any, .any, .any, .any, .any, .any, .any, .any, .any, .any, .any, .any, .any, .any, .any, .any, .any, .any, .any, .any, .any, .any, .any, .any, .any, .any, .any] ∧ h = [actO ty l, netO 2 (x), wayO (x).way, wayO S, some ⟨ls (zeroL), 34, false, false⟩]) ?_ ?_
          · refine ⟨_, _, _, ⟨[0, 1, 2, 3, 5], rfl, rfl, ?_, ?_⟩, 0, Nat.zero_le _, rfl, rfl, rfl⟩
            · (repeat' first | exact trivial | exact rfl | exact Nat.le_of_ble_eq_true rfl | exact Nat.le_refl _ | exact .inl ⟨rfl, rfl, rfl, rfl, Nat.le_refl _, Nat.le_refl _, .inr rfl, Nat.le_of_ble_eq_true rfl⟩ | exact .inl ⟨rfl, rfl, rfl, rfl, Nat.le_refl _, Nat.le_refl _, .inl rfl, Nat.le_of_ble_eq_true rfl⟩ | exact .inr ⟨rfl, rfl, rfl, rfl, rfl⟩ | exact .inl ⟨rfl, rfl, rfl, (by first | omega | (simp; done) | (simp; omega)), (by first | omega | (simp; done) | (simp; omega)), (by first | omega | (simp; done) | (simp; omega)), .inr rfl, Nat.le_of_ble_eq_true rfl⟩ | exact .inl ⟨rfl, rfl, rfl, (by first | omega | (simp; done) | (simp; omega)), (by first | omega | (simp; done) | (simp; omega)), (by first | omega | (simp; done) | (simp; omega)), .inl rfl, Nat.le_of_ble_eq_true rfl⟩ | exact fun h => h | refine ⟨?_, ?_, ?_, .inl ?_⟩ | refine ⟨?_, ?_⟩ | refine fun ii hii => ?_ | omega | fail)
            · (repeat' first | exact trivial | exact rfl | exact Nat.le_of_ble_eq_true rfl | exact Nat.le_refl _ | exact .inl ⟨rfl, rfl, rfl, rfl, Nat.le_refl _, Nat.le_refl _, .inr rfl, Nat.le_of_ble_eq_true rfl⟩ | exact .inl ⟨rfl, rfl, rfl, rfl, Nat.le_refl _, Nat.le_refl _, .inl rfl, Nat.le_of_ble_eq_true rfl⟩ | exact .inr ⟨rfl, rfl, rfl, rfl, rfl⟩ | exact .inl ⟨rfl, rfl, rfl, (by first | omega | (simp; done) | (simp; omega)), (by first | omega | (simp; done) | (simp; omega)), (by first | omega | (simp; done) | (simp; omega)), .inr rfl, Nat.le_of_ble_eq_true rfl⟩ | exact .inl ⟨rfl, rfl, rfl, (by first | omega | (simp; done) | (simp; omega)), (by first | omega | (simp; done) | (simp; omega)), (by first | omega | (simp; done) | (simp; omega)), .inl rfl, Nat.le_of_ble_eq_true rfl⟩ | exact fun h => h | refine ⟨?_, ?_, ?_, .inl ?_⟩ | refine ⟨?_, ?_⟩ | refine fun ii hii => ?_ | omega | fail)
          · rintro n _ _ ⟨j, hj, rfl, rfl, rfl⟩
            have p2 := g0.sle
            conv => whnf
            refine iteP_intro (fun hb => ?_) (fun hb => ?_)
            · rewrite [hb]
              have hb3 := of_decide_eq_true hb
              cases hf : among S (zeroL) j
              · (conv => whnf); (repeat (refine ⟨by omega, ?_⟩; conv => whnf))
                rewrite [show IntKind.i64.wrap ((j : Int) + 1) = ((j + 1 : Nat) : Int) from wr _ (by omega) (by omega)]
                refine ⟨_, _, _, ?_, ⟨[0, 1, 2, 3, 4], rfl, rfl, ?_, ?_⟩, j + 1, by omega, rfl, rfl, rfl⟩
                · omega
                · rw [among_succ S (zeroL) j (by omega), hf, Bool.false_or]
                  simp only [Nat.zero_add, Int.toNat_natCast]
                  (repeat' first | exact trivial | exact rfl | exact Nat.le_of_ble_eq_true rfl | exact Nat.le_refl _ | exact .inl ⟨rfl, rfl, rfl, rfl, Nat.le_refl _, Nat.le_refl _, .inr rfl, Nat.le_of_ble_eq_true rfl⟩ | exact .inl ⟨rfl, rfl, rfl, rfl, Nat.le_refl _, Nat.le_refl _, .inl rfl, Nat.le_of_ble_eq_true rfl⟩ | exact .inr ⟨rfl, rfl, rfl, rfl, rfl⟩ | exact .inl ⟨rfl, rfl, rfl, (by first | omega | (simp; done) | (simp; omega)), (by first | omega | (simp; done) | (simp; omega)), (by first | omega | (simp; done) | (simp; omega)), .inr rfl, Nat.le_of_ble_eq_true rfl⟩ | exact .inl ⟨rfl, rfl, rfl, (by first | omega | (simp; done) | (simp; omega)), (by first | omega | (simp; done) | (simp; omega)), (by first | omega | (simp; done) | (simp; omega)), .inl rfl, Nat.le_of_ble_eq_true rfl⟩ | exact fun h => h | refine ⟨?_, ?_, ?_, .inl ?_⟩ | refine ⟨?_, ?_⟩ | refine fun ii hii => ?_ | omega | fail)
                · (repeat' first | exact trivial | exact rfl | exact Nat.le_of_ble_eq_true rfl | exact Nat.le_refl _ | exact .inl ⟨rfl, rfl, rfl, rfl, Nat.le_refl _, Nat.le_refl _, .inr rfl, Nat.le_of_ble_eq_true rfl⟩ | exact .inl ⟨rfl, rfl, rfl, rfl, Nat.le_refl _, Nat.le_refl _, .inl rfl, Nat.le_of_ble_eq_true rfl⟩ | exact .inr ⟨rfl, rfl, rfl, rfl, rfl⟩ | exact .inl ⟨rfl, rfl, rfl, (by first | omega | (simp; done) | (simp; omega)), (by first | omega | (simp; done) | (simp; omega)), (by first | omega | (simp; done) | (simp; omega)), .inr rfl, Nat.le_of_ble_eq_true rfl⟩ | exact .inl ⟨rfl, rfl, rfl, (by first | omega | (simp; done) | (simp; omega)), (by first | omega | (simp; done) | (simp; omega)), (by first | omega | (simp; done) | (simp; omega)), .inl rfl, Nat.le_of_ble_eq_true rfl⟩ | exact fun h => h | refine ⟨?_, ?_, ?_, .inl ?_⟩ | refine ⟨?_, ?_⟩ | refine fun ii hii => ?_ | omega | fail)
              · (conv => whnf); (repeat (refine ⟨by omega, ?_⟩; conv => whnf))
                rewrite [show IntKind.i64.wrap ((j : Int) + 1) = ((j + 1 : Nat) : Int) from wr _ (by omega) (by omega)]
                refine ⟨_, _, _, ?_, ⟨[0, 1, 2, 3, 4], rfl, rfl, ?_, ?_⟩, j + 1, by omega, rfl, rfl, rfl⟩
                · omega
                · rw [among_succ S (zeroL) j (by omega), hf, Bool.true_or]
                  (repeat' first | exact trivial | exact rfl | exact Nat.le_of_ble_eq_true rfl | exact Nat.le_refl _ | exact .inl ⟨rfl, rfl, rfl, rfl, Nat.le_refl _, Nat.le_refl _, .inr rfl, Nat.le_of_ble_eq_true rfl⟩ | exact .inl ⟨rfl, rfl, rfl, rfl, Nat.le_refl _, Nat.le_refl _, .inl rfl, Nat.le_of_ble_eq_true rfl⟩ | exact .inr ⟨rfl, rfl, rfl, rfl, rfl⟩ | exact .inl ⟨rfl, rfl, rfl, (by first | omega | (simp; done) | (simp; omega)), (by first | omega | (simp; done) | (simp; omega)), (by first | omega | (simp; done) | (simp; omega)), .inr rfl, Nat.le_of_ble_eq_true rfl⟩ | exact .inl ⟨rfl, rfl, rfl, (by first | omega | (simp; done) | (simp; omega)), (by first | omega | (simp; done) | (simp; omega)), (by first | omega | (simp; done) | (simp; omega)), .inl rfl, Nat.le_of_ble_eq_true rfl⟩ | exact fun h => h | refine ⟨?_, ?_, ?_, .inl ?_⟩ | refine ⟨?_, ?_⟩ | refine fun ii hii => ?_ | omega | fail)
                · (repeat' first | exact trivial | exact rfl | exact Nat.le_of_ble_eq_true rfl | exact Nat.le_refl _ | exact .inl ⟨rfl, rfl, rfl, rfl, Nat.le_refl _, Nat.le_refl _, .inr rfl, Nat.le_of_ble_eq_true rfl⟩ | exact .inl ⟨rfl, rfl, rfl, rfl, Nat.le_refl _, Nat.le_refl _, .inl rfl, Nat.le_of_ble_eq_true rfl⟩ | exact .inr ⟨rfl, rfl, rfl, rfl, rfl⟩ | exact .inl ⟨rfl, rfl, rfl, (by first | omega | (simp; done) | (simp; omega)), (by first | omega | (simp; done) | (simp; omega)), (by first | omega | (simp; done) | (simp; omega)), .inr rfl, Nat.le_of_ble_eq_true rfl⟩ | exact .inl ⟨rfl, rfl, rfl, (by first | omega | (simp; done) | (simp; omega)), (by first | omega | (simp; done) | (simp; omega)), (by first | omega | (simp; done) | (simp; omega)), .inl rfl, Nat.le_of_ble_eq_true rfl⟩ | exact fun h => h | refine ⟨?_, ?_, ?_, .inl ?_⟩ | refine ⟨?_, ?_⟩ | refine fun ii hii => ?_ | omega | fail)
            · rewrite [hb]
              have hb3 := of_decide_eq_false hb
              have hj2 : j = S.length := by omega
              subst hj2
              conv => whnf
              have g := Gsame g0
              refine LCalls.use (Counts (x)) [1, 2] rfl rfl ⟨rfl, rfl, trivial⟩ ?_
              rintro _ _ ⟨rfl, rfl⟩
              conv => whnf
              refine LCalls.use (Way (x) (by have := g.le; omega)) [1, 2] rfl rfl ⟨rfl, rfl, trivial⟩ ?_
              rintro _ _ ⟨rfl, rfl⟩
              conv => whnf
              have q1 := g.sent; have q2 := g.sle; have q3 := g.d0; have q4 := g.d1; have q5 := g.v0; have q6 := g.v1; have q7 := g.l0; have q8 := g.l1; have q9 := g.sum; have q10 := g.le
              refine iteP_intro (fun hb => absurd (bne_iff_ne.1 hb) (fun hn => hn (by omega))) (fun hb => ?_)
              rewrite [hb]
              conv => whnf
              rewrite [wr ((x).sent + (x).doubled) (by omega) (by omega), wr ((x).delivered + (x).lost) (by omega) (by omega), wr ((x).delivered + (x).lost + ((x).way.length : Int)) (by omega) (by omega)]
              refine iteP_intro (fun hb => absurd (bne_iff_ne.1 hb) (fun hn => hn (by omega))) (fun hb => ?_)
              rewrite [hb]
              conv => whnf
              refine iteP_intro (fun hb => absurd (of_decide_eq_true hb) (by omega)) (fun hb => ?_)
              rewrite [hb]
              conv => whnf
              rewrite [show IntKind.i64.wrap ((k : Int) + 1) = ((k + 1 : Nat) : Int) from wr _ (by omega) (by omega)]
              refine ⟨_, _, _, ?_, ⟨[0, 1, 2, 3], rfl, rfl, ?_, ?_⟩, k + 1, x, S, by omega, rfl, g, rfl, rfl⟩
              · omega
              · (repeat' first | exact trivial | exact rfl | exact Nat.le_of_ble_eq_true rfl | exact Nat.le_refl _ | exact .inl ⟨rfl, rfl, rfl, rfl, Nat.le_refl _, Nat.le_refl _, .inr rfl, Nat.le_of_ble_eq_true rfl⟩ | exact .inl ⟨rfl, rfl, rfl, rfl, Nat.le_refl _, Nat.le_refl _, .inl rfl, Nat.le_of_ble_eq_true rfl⟩ | exact .inr ⟨rfl, rfl, rfl, rfl, rfl⟩ | exact .inl ⟨rfl, rfl, rfl, (by first | omega | (simp; done) | (simp; omega)), (by first | omega | (simp; done) | (simp; omega)), (by first | omega | (simp; done) | (simp; omega)), .inr rfl, Nat.le_of_ble_eq_true rfl⟩ | exact .inl ⟨rfl, rfl, rfl, (by first | omega | (simp; done) | (simp; omega)), (by first | omega | (simp; done) | (simp; omega)), (by first | omega | (simp; done) | (simp; omega)), .inl rfl, Nat.le_of_ble_eq_true rfl⟩ | exact fun h => h | refine ⟨?_, ?_, ?_, .inl ?_⟩ | refine ⟨?_, ?_⟩ | refine fun ii hii => ?_ | omega | fail)
              · (repeat' first | exact trivial | exact rfl | exact Nat.le_of_ble_eq_true rfl | exact Nat.le_refl _ | exact .inl ⟨rfl, rfl, rfl, rfl, Nat.le_refl _, Nat.le_refl _, .inr rfl, Nat.le_of_ble_eq_true rfl⟩ | exact .inl ⟨rfl, rfl, rfl, rfl, Nat.le_refl _, Nat.le_refl _, .inl rfl, Nat.le_of_ble_eq_true rfl⟩ | exact .inr ⟨rfl, rfl, rfl, rfl, rfl⟩ | exact .inl ⟨rfl, rfl, rfl, (by first | omega | (simp; done) | (simp; omega)), (by first | omega | (simp; done) | (simp; omega)), (by first | omega | (simp; done) | (simp; omega)), .inr rfl, Nat.le_of_ble_eq_true rfl⟩ | exact .inl ⟨rfl, rfl, rfl, (by first | omega | (simp; done) | (simp; omega)), (by first | omega | (simp; done) | (simp; omega)), (by first | omega | (simp; done) | (simp; omega)), .inl rfl, Nat.le_of_ble_eq_true rfl⟩ | exact fun h => h | refine ⟨?_, ?_, ?_, .inl ?_⟩ | refine ⟨?_, ?_⟩ | refine fun ii hii => ?_ | omega | fail)
        · obtain ⟨i, rfl, hi2⟩ := got_nat hg
          conv => whnf
          refine LCalls.use (Deliver_ok x i hi2 (by have := g0.le; omega)) [1, 2] rfl rfl ⟨rfl, rfl, trivial⟩ ?_
          rintro _ _ ⟨rfl, rfl⟩
          conv => whnf
          refine Loop.inv (lwp_mono _) (fun n t h => ∃ (j : Nat), j ≤ S.length ∧ n = S.length - j ∧ t = [inSl 0 5 l.length, .any, .any, .bool true, .ptr ⟨1, [], 0⟩, .any, sl 3 S.length, .int .i64 k, .any, .any, .ptr ⟨4, [], 0⟩, .bool true, .bool (among S (x.way.getD i default) j), .int .i64 j, .any, .any, .any, .any, .any, .any, .any, .any, .any, .any, .any, .any, .any, .any, .any, .any, .any, .any, .any, .any, .any, .any, .any, .any, .any, .any, .any, .any, .any, .any, .any, .any, .any, .any, .any, .any, .any, .any, .any, .any, .any, .any, .any, .any, .any, .any, .any, .any, .any, .any, .any, .any, .any, .any, .any, .any, .any, .any, .any, .any, .any, .any, .any, .any, .any, .any, .any, .any, .any, .any, .any, .any, .any, .any, .any, .any, .any, .any, .any, .any, .any, .any, .any, .any, .any, .any, .any, .any, .any, .any, .any, .any, .any, .any, .any, .any, .any, .any, .any, .any, .any, .any, .any, .any, .any, .any, .any, .any, .any, .any, .any, .any, .any] ∧ h = [actO ty l, netO 2 (tookD x i), wayO (tookD x i).way, wayO S, some ⟨ls (x.way.getD i default), 34, false, false⟩]) ?_ ?_
          · refine ⟨_, _, _, ⟨[0, 1, 2, 3, 5], rfl, rfl, ?_, ?_⟩, 0, Nat.zero_le _, rfl, rfl, rfl⟩
            · (repeat' first | exact trivial | exact rfl | exact Nat.le_of_ble_eq_true rfl | exact Nat.le_refl _ | exact .inl ⟨rfl, rfl, rfl, rfl, Nat.le_refl _, Nat.le_refl _, .inr rfl, Nat.le_of_ble_eq_true rfl⟩ | exact .inl ⟨rfl, rfl, rfl, rfl, Nat.le_refl _, Nat.le_refl _, .inl rfl, Nat.le_of_ble_eq_true rfl⟩ | exact .inr ⟨rfl, rfl, rfl, rfl, rfl⟩ | exact .inl ⟨rfl, rfl, rfl, (by first | omega | (simp; done) | (simp; omega)), (by first | omega | (simp; done) | (simp; omega)), (by first | omega | (simp; done) | (simp; omega)), .inr rfl, Nat.le_of_ble_eq_true rfl⟩ | exact .inl ⟨rfl, rfl, rfl, (by first | omega | (simp; done) | (simp; omega)), (by first | omega | (simp; done) | (simp; omega)), (by first | omega | (simp; done) | (simp; omega)), .inl rfl, Nat.le_of_ble_eq_true rfl⟩ | exact fun h => h | refine ⟨?_, ?_, ?_, .inl ?_⟩ | refine ⟨?_, ?_⟩ | refine fun ii hii => ?_ | omega | fail)
            · (repeat' first | exact trivial | exact rfl | exact Nat.le_of_ble_eq_true rfl | exact Nat.le_refl _ | exact .inl ⟨rfl, rfl, rfl, rfl, Nat.le_refl _, Nat.le_refl _, .inr rfl, Nat.le_of_ble_eq_true rfl⟩ | exact .inl ⟨rfl, rfl, rfl, rfl, Nat.le_refl _, Nat.le_refl _, .inl rfl, Nat.le_of_ble_eq_true rfl⟩ | exact .inr ⟨rfl, rfl, rfl, rfl, rfl⟩ | exact .inl ⟨rfl, rfl, rfl, (by first | omega | (simp; done) | (simp; omega)), (by first | omega | (simp; done) | (simp; omega)), (by first | omega | (simp; done) | (simp; omega)), .inr rfl, Nat.le_of_ble_eq_true rfl⟩ | exact .inl ⟨rfl, rfl, rfl, (by first | omega | (simp; done) | (simp; omega)), (by first | omega | (simp; done) | (simp; omega)), (by first | omega | (simp; done) | (simp; omega)), .inl rfl, Nat.le_of_ble_eq_true rfl⟩ | exact fun h => h | refine ⟨?_, ?_, ?_, .inl ?_⟩ | refine ⟨?_, ?_⟩ | refine fun ii hii => ?_ | omega | fail)
          · rintro n _ _ ⟨j, hj, rfl, rfl, rfl⟩
            have p2 := g0.sle
            conv => whnf
            refine iteP_intro (fun hb => ?_) (fun hb => ?_)
            · rewrite [hb]
              have hb3 := of_decide_eq_true hb
              cases hf : among S (x.way.getD i default) j
              · (conv => whnf); (repeat (refine ⟨by omega, ?_⟩; conv => whnf))
                rewrite [show IntKind.i64.wrap ((j : Int) + 1) = ((j + 1 : Nat) : Int) from wr _ (by omega) (by omega)]
                refine ⟨_, _, _, ?_, ⟨[0, 1, 2, 3, 4], rfl, rfl, ?_, ?_⟩, j + 1, by omega, rfl, rfl, rfl⟩
                · omega
                · rw [among_succ S (x.way.getD i default) j (by omega), hf, Bool.false_or]
                  simp only [Nat.zero_add, Int.toNat_natCast]
                  (repeat' first | exact trivial | exact rfl | exact Nat.le_of_ble_eq_true rfl | exact Nat.le_refl _ | exact .inl ⟨rfl, rfl, rfl, rfl, Nat.le_refl _, Nat.le_refl _, .inr rfl, Nat.le_of_ble_eq_true rfl⟩ | exact .inl ⟨rfl, rfl, rfl, rfl, Nat.le_refl _, Nat.le_refl _, .inl rfl, Nat.le_of_ble_eq_true rfl⟩ | exact .inr ⟨rfl, rfl, rfl, rfl, rfl⟩ | exact .inl ⟨rfl, rfl, rfl, (by first | omega | (simp; done) | (simp; omega)), (by first | omega | (simp; done) | (simp; omega)), (by first | omega | (simp; done) | (simp; omega)), .inr rfl, Nat.le_of_ble_eq_true rfl⟩ | exact .inl ⟨rfl, rfl, rfl, (by first | omega | (simp; done) | (simp; omega)), (by first | omega | (simp; done) | (simp; omega)), (by first | omega | (simp; done) | (simp; omega)), .inl rfl, Nat.le_of_ble_eq_true rfl⟩ | exact fun h => h | refine ⟨?_, ?_, ?_, .inl ?_⟩ | refine ⟨?_, ?_⟩ | refine fun ii hii => ?_ | omega | fail)
                · (repeat' first | exact trivial | exact rfl | exact Nat.le_of_ble_eq_true rfl | exact Nat.le_refl _ | exact .inl ⟨rfl, rfl, rfl, rfl, Nat.le_refl _, Nat.le_refl _, .inr rfl, Nat.le_of_ble_eq_true rfl⟩ | exact .inl ⟨rfl, rfl, rfl, rfl, Nat.le_refl _, Nat.le_refl _, .inl rfl, Nat.le_of_ble_eq_true rfl⟩ | exact .inr ⟨rfl, rfl, rfl, rfl, rfl⟩ | exact .inl ⟨rfl, rfl, rfl, (by first | omega | (simp; done) | (simp; omega)), (by first | omega | (simp; done) | (simp; omega)), (by first | omega | (simp; done) | (simp; omega)), .inr rfl, Nat.le_of_ble_eq_true rfl⟩ | exact .inl ⟨rfl, rfl, rfl, (by first | omega | (simp; done) | (simp; omega)), (by first | omega | (simp; done) | (simp; omega)), (by first | omega | (simp; done) | (simp; omega)), .inl rfl, Nat.le_of_ble_eq_true rfl⟩ | exact fun h => h | refine ⟨?_, ?_, ?_, .inl ?_⟩ | refine ⟨?_, ?_⟩ | refine fun ii hii => ?_ | omega | fail)
              · (conv => whnf); (repeat (refine ⟨by omega, ?_⟩; conv => whnf))
                rewrite [show IntKind.i64.wrap ((j : Int) + 1) = ((j + 1 : Nat) : Int) from wr _ (by omega) (by omega)]
                refine ⟨_, _, _, ?_, ⟨[0, 1, 2, 3, 4], rfl, rfl, ?_, ?_⟩, j + 1, by omega, rfl, rfl, rfl⟩
                · omega
                · rw [among_succ S (x.way.getD i default) j (by omega), hf, Bool.true_or]
                  (repeat' first | exact trivial | exact rfl | exact Nat.le_of_ble_eq_true rfl | exact Nat.le_refl _ | exact .inl ⟨rfl, rfl, rfl, rfl, Nat.le_refl _, Nat.le_refl _, .inr rfl, Nat.le_of_ble_eq_true rfl⟩ | exact .inl ⟨rfl, rfl, rfl, rfl, Nat.le_refl _, Nat.le_refl _, .inl rfl, Nat.le_of_ble_eq_true rfl⟩ | exact .inr ⟨rfl, rfl, rfl, rfl, rfl⟩ | exact .inl ⟨rfl, rfl, rfl, (by first | omega | (simp; done) | (simp; omega)), (by first | omega | (simp; done) | (simp; omega)), (by first | omega | (simp; done) | (simp; omega)), .inr rfl, Nat.le_of_ble_eq_true rfl⟩ | exact .inl ⟨rfl, rfl, rfl, (by first | omega | (simp; done) | (simp; omega)), (by first | omega | (simp; done) | (simp; omega)), (by first | omega | (simp; done) | (simp; omega)), .inl rfl, Nat.le_of_ble_eq_true rfl⟩ | exact fun h => h | refine ⟨?_, ?_, ?_, .inl ?_⟩ | refine ⟨?_, ?_⟩ | refine fun ii hii => ?_ | omega | fail)
                · (repeat' first | exact trivial | exact rfl | exact Nat.le_of_ble_eq_true rfl | exact Nat.le_refl _ | exact .inl ⟨rfl, rfl, rfl, rfl, Nat.le_refl _, Nat.le_refl _, .inr rfl, Nat.le_of_ble_eq_true rfl⟩ | exact .inl ⟨rfl, rfl, rfl, rfl, Nat.le_refl _, Nat.le_refl _, .inl rfl, Nat.le_of_ble_eq_true rfl⟩ | exact .inr ⟨rfl, rfl, rfl, rfl, rfl⟩ | exact .inl ⟨rfl, rfl, rfl, (by first | omega | (simp; done) | (simp; omega)), (by first | omega | (simp; done) | (simp; omega)), (by first | omega | (simp; done) | (simp; omega)), .inr rfl, Nat.le_of_ble_eq_true rfl⟩ | exact .inl ⟨rfl, rfl, rfl, (by first | omega | (simp; done) | (simp; omega)), (by first | omega | (simp; done) | (simp; omega)), (by first | omega | (simp; done) | (simp; omega)), .inl rfl, Nat.le_of_ble_eq_true rfl⟩ | exact fun h => h | refine ⟨?_, ?_, ?_, .inl ?_⟩ | refine ⟨?_, ?_⟩ | refine fun ii hii => ?_ | omega | fail)
            · rewrite [hb]
              have hb3 := of_decide_eq_false hb
              have hj2 : j = S.length := by omega
              subst hj2
              conv => whnf
              rewrite [show among S (x.way.getD i default) S.length = true from among_all S _ (g0.mem _ (by rw [List.getD_eq_getElem?_getD, List.getElem?_eq_getElem hi2]; exact List.getElem_mem hi2))]
              conv => whnf
              have g := Gdel g0 hc.2 i hi2
              refine LCalls.use (Counts (tookD x i)) [1, 2] rfl rfl ⟨rfl, rfl, trivial⟩ ?_
              rintro _ _ ⟨rfl, rfl⟩
              conv => whnf
              refine LCalls.use (Way (tookD x i) (by have := g.le; omega)) [1, 2] rfl rfl ⟨rfl, rfl, trivial⟩ ?_
              rintro _ _ ⟨rfl, rfl⟩
              conv => whnf
              have q1 := g.sent; have q2 := g.sle; have q3 := g.d0; have q4 := g.d1; have q5 := g.v0; have q6 := g.v1; have q7 := g.l0; have q8 := g.l1; have q9 := g.sum; have q10 := g.le
              refine iteP_intro (fun hb => absurd (bne_iff_ne.1 hb) (fun hn => hn (by omega))) (fun hb => ?_)
              rewrite [hb]
              conv => whnf
              rewrite [wr ((tookD x i).sent + (tookD x i).doubled) (by omega) (by omega), wr ((tookD x i).delivered + (tookD x i).lost) (by omega) (by omega), wr ((tookD x i).delivered + (tookD x i).lost + ((tookD x i).way.length : Int)) (by omega) (by omega)]
              refine iteP_intro (fun hb => absurd (bne_iff_ne.1 hb) (fun hn => hn (by omega))) (fun hb => ?_)
              rewrite [hb]
              conv => whnf
              refine iteP_intro (fun hb => absurd (of_decide_eq_true hb) (by omega)) (fun hb => ?_)
              rewrite [hb]
              conv => whnf
              rewrite [show IntKind.i64.wrap ((k : Int) + 1) = ((k + 1 : Nat) : Int) from wr _ (by omega) (by omega)]
              refine ⟨_, _, _, ?_, ⟨[0, 1, 2, 3], rfl, rfl, ?_, ?_⟩, k + 1, tookD x i, S, by omega, rfl, g, rfl, rfl⟩
              · omega
              · (repeat' first | exact trivial | exact rfl | exact Nat.le_of_ble_eq_true rfl | exact Nat.le_refl _ | exact .inl ⟨rfl, rfl, rfl, rfl, Nat.le_refl _, Nat.le_refl _, .inr rfl, Nat.le_of_ble_eq_true rfl⟩ | exact .inl ⟨rfl, rfl, rfl, rfl, Nat.le_refl _, Nat.le_refl _, .inl rfl, Nat.le_of_ble_eq_true rfl⟩ | exact .inr ⟨rfl, rfl, rfl, rfl, rfl⟩ | exact .inl ⟨rfl, rfl, rfl, (by first | omega | (simp; done) | (simp; omega)), (by first | omega | (simp; done) | (simp; omega)), (by first | omega | (simp; done) | (simp; omega)), .inr rfl, Nat.le_of_ble_eq_true rfl⟩ | exact .inl ⟨rfl, rfl, rfl, (by first | omega | (simp; done) | (simp; omega)), (by first | omega | (simp; done) | (simp; omega)), (by first | omega | (simp; done) | (simp; omega)), .inl rfl, Nat.le_of_ble_eq_true rfl⟩ | exact fun h => h | refine ⟨?_, ?_, ?_, .inl ?_⟩ | refine ⟨?_, ?_⟩ | refine fun ii hii => ?_ | omega | fail)
              · (repeat' first | exact trivial | exact rfl | exact Nat.le_of_ble_eq_true rfl | exact Nat.le_refl _ | exact .inl ⟨rfl, rfl, rfl, rfl, Nat.le_refl _, Nat.le_refl _, .inr rfl, Nat.le_of_ble_eq_true rfl⟩ | exact .inl ⟨rfl, rfl, rfl, rfl, Nat.le_refl _, Nat.le_refl _, .inl rfl, Nat.le_of_ble_eq_true rfl⟩ | exact .inr ⟨rfl, rfl, rfl, rfl, rfl⟩ | exact .inl ⟨rfl, rfl, rfl, (by first | omega | (simp; done) | (simp; omega)), (by first | omega | (simp; done) | (simp; omega)), (by first | omega | (simp; done) | (simp; omega)), .inr rfl, Nat.le_of_ble_eq_true rfl⟩ | exact .inl ⟨rfl, rfl, rfl, (by first | omega | (simp; done) | (simp; omega)), (by first | omega | (simp; done) | (simp; omega)), (by first | omega | (simp; done) | (simp; omega)), .inl rfl, Nat.le_of_ble_eq_true rfl⟩ | exact fun h => h | refine ⟨?_, ?_, ?_, .inl ?_⟩ | refine ⟨?_, ?_⟩ | refine fun ii hii => ?_ | omega | fail)
      rewrite [hb]
      conv => whnf
      refine iteP_intro (fun hb => ?_) (fun hb => ?_)
      · rewrite [hb]
        cases hg : got x at_
        · conv => whnf
          refine LCalls.use (Lose_no x at_ hg) [1, 2] rfl rfl ⟨rfl, rfl, trivial⟩ ?_
          rintro _ _ ⟨rfl, rfl⟩
          conv => whnf
          have g := Gsame g0
          refine LCalls.use (Counts (x)) [1, 2] rfl rfl ⟨rfl, rfl, trivial⟩ ?_
          rintro _ _ ⟨rfl, rfl⟩
          conv => whnf
          refine LCalls.use (Way (x) (by have := g.le; omega)) [1, 2] rfl rfl ⟨rfl, rfl, trivial⟩ ?_
          rintro _ _ ⟨rfl, rfl⟩
          conv => whnf
          have q1 := g.sent; have q2 := g.sle; have q3 := g.d0; have q4 := g.d1; have q5 := g.v0; have q6 := g.v1; have q7 := g.l0; have q8 := g.l1; have q9 := g.sum; have q10 := g.le
          refine iteP_intro (fun hb => absurd (bne_iff_ne.1 hb) (fun hn => hn (by omega))) (fun hb => ?_)
          rewrite [hb]
          conv => whnf
          rewrite [wr ((x).sent + (x).doubled) (by omega) (by omega), wr ((x).delivered + (x).lost) (by omega) (by omega), wr ((x).delivered + (x).lost + ((x).way.length : Int)) (by omega) (by omega)]
          refine iteP_intro (fun hb => absurd (bne_iff_ne.1 hb) (fun hn => hn (by omega))) (fun hb => ?_)
          rewrite [hb]
          conv => whnf
          refine iteP_intro (fun hb => absurd (of_decide_eq_true hb) (by omega)) (fun hb => ?_)
          rewrite [hb]
          conv => whnf
          rewrite [show IntKind.i64.wrap ((k : Int) + 1) = ((k + 1 : Nat) : Int) from wr _ (by omega) (by omega)]
          refine ⟨_, _, _, ?_, ⟨[0, 1, 2, 3], rfl, rfl, ?_, ?_⟩, k + 1, x, S, by omega, rfl, g, rfl, rfl⟩
          · omega
          · (repeat' first | exact trivial | exact rfl | exact Nat.le_of_ble_eq_true rfl | exact Nat.le_refl _ | exact .inl ⟨rfl, rfl, rfl, rfl, Nat.le_refl _, Nat.le_refl _, .inr rfl, Nat.le_of_ble_eq_true rfl⟩ | exact .inl ⟨rfl, rfl, rfl, rfl, Nat.le_refl _, Nat.le_refl _, .inl rfl, Nat.le_of_ble_eq_true rfl⟩ | exact .inr ⟨rfl, rfl, rfl, rfl, rfl⟩ | exact .inl ⟨rfl, rfl, rfl, (by first | omega | (simp; done) | (simp; omega)), (by first | omega | (simp; done) | (simp; omega)), (by first | omega | (simp; done) | (simp; omega)), .inr rfl, Nat.le_of_ble_eq_true rfl⟩ | exact .inl ⟨rfl, rfl, rfl, (by first | omega | (simp; done) | (simp; omega)), (by first | omega | (simp; done) | (simp; omega)), (by first | omega | (simp; done) | (simp; omega)), .inl rfl, Nat.le_of_ble_eq_true rfl⟩ | exact fun h => h | refine ⟨?_, ?_, ?_, .inl ?_⟩ | refine ⟨?_, ?_⟩ | refine fun ii hii => ?_ | omega | fail)
          · (repeat' first | exact trivial | exact rfl | exact Nat.le_of_ble_eq_true rfl | exact Nat.le_refl _ | exact .inl ⟨rfl, rfl, rfl, rfl, Nat.le_refl _, Nat.le_refl _, .inr rfl, Nat.le_of_ble_eq_true rfl⟩ | exact .inl ⟨rfl, rfl, rfl, rfl, Nat.le_refl _, Nat.le_refl _, .inl rfl, Nat.le_of_ble_eq_true rfl⟩ | exact .inr ⟨rfl, rfl, rfl, rfl, rfl⟩ | exact .inl ⟨rfl, rfl, rfl, (by first | omega | (simp; done) | (simp; omega)), (by first | omega | (simp; done) | (simp; omega)), (by first | omega | (simp; done) | (simp; omega)), .inr rfl, Nat.le_of_ble_eq_true rfl⟩ | exact .inl ⟨rfl, rfl, rfl, (by first | omega | (simp; done) | (simp; omega)), (by first | omega | (simp; done) | (simp; omega)), (by first | omega | (simp; done) | (simp; omega)), .inl rfl, Nat.le_of_ble_eq_true rfl⟩ | exact fun h => h | refine ⟨?_, ?_, ?_, .inl ?_⟩ | refine ⟨?_, ?_⟩ | refine fun ii hii => ?_ | omega | fail)
        · obtain ⟨i, rfl, hi2⟩ := got_nat hg
          conv => whnf
          refine LCalls.use (Lose_ok x i hi2 (by have := g0.le; omega)) [1, 2] rfl rfl ⟨rfl, rfl, trivial⟩ ?_
          rintro _ _ ⟨rfl, rfl⟩
          conv => whnf
          have g := Glose g0 hc.2 i hi2
          refine LCalls.use (Counts (tookL x i)) [1, 2] rfl rfl ⟨rfl, rfl, trivial⟩ ?_
          rintro _ _ ⟨rfl, rfl⟩
          conv => whnf
          refine LCalls.use (Way (tookL x i) (by have := g.le; omega)) [1, 2] rfl rfl ⟨rfl, rfl, trivial⟩ ?_
          rintro _ _ ⟨rfl, rfl⟩
          conv => whnf
          have q1 := g.sent; have q2 := g.sle; have q3 := g.d0; have q4 := g.d1; have q5 := g.v0; have q6 := g.v1; have q7 := g.l0; have q8 := g.l1; have q9 := g.sum; have q10 := g.le
          refine iteP_intro (fun hb => absurd (bne_iff_ne.1 hb) (fun hn => hn (by omega))) (fun hb => ?_)
          rewrite [hb]
          conv => whnf
          rewrite [wr ((tookL x i).sent + (tookL x i).doubled) (by omega) (by omega), wr ((tookL x i).delivered + (tookL x i).lost) (by omega) (by omega), wr ((tookL x i).delivered + (tookL x i).lost + ((tookL x i).way.length : Int)) (by omega) (by omega)]
          refine iteP_intro (fun hb => absurd (bne_iff_ne.1 hb) (fun hn => hn (by omega))) (fun hb => ?_)
          rewrite [hb]
          conv => whnf
          refine iteP_intro (fun hb => absurd (of_decide_eq_true hb) (by omega)) (fun hb => ?_)
          rewrite [hb]
          conv => whnf
          rewrite [show IntKind.i64.wrap ((k : Int) + 1) = ((k + 1 : Nat) : Int) from wr _ (by omega) (by omega)]
          refine ⟨_, _, _, ?_, ⟨[0, 1, 2, 3], rfl, rfl, ?_, ?_⟩, k + 1, tookL x i, S, by omega, rfl, g, rfl, rfl⟩
          · omega
          · (repeat' first | exact trivial | exact rfl | exact Nat.le_of_ble_eq_true rfl | exact Nat.le_refl _ | exact .inl ⟨rfl, rfl, rfl, rfl, Nat.le_refl _, Nat.le_refl _, .inr rfl, Nat.le_of_ble_eq_true rfl⟩ | exact .inl ⟨rfl, rfl, rfl, rfl, Nat.le_refl _, Nat.le_refl _, .inl rfl, Nat.le_of_ble_eq_true rfl⟩ | exact .inr ⟨rfl, rfl, rfl, rfl, rfl⟩ | exact .inl ⟨rfl, rfl, rfl, (by first | omega | (simp; done) | (simp; omega)), (by first | omega | (simp; done) | (simp; omega)), (by first | omega | (simp; done) | (simp; omega)), .inr rfl, Nat.le_of_ble_eq_true rfl⟩ | exact .inl ⟨rfl, rfl, rfl, (by first | omega | (simp; done) | (simp; omega)), (by first | omega | (simp; done) | (simp; omega)), (by first | omega | (simp; done) | (simp; omega)), .inl rfl, Nat.le_of_ble_eq_true rfl⟩ | exact fun h => h | refine ⟨?_, ?_, ?_, .inl ?_⟩ | refine ⟨?_, ?_⟩ | refine fun ii hii => ?_ | omega | fail)
          · (repeat' first | exact trivial | exact rfl | exact Nat.le_of_ble_eq_true rfl | exact Nat.le_refl _ | exact .inl ⟨rfl, rfl, rfl, rfl, Nat.le_refl _, Nat.le_refl _, .inr rfl, Nat.le_of_ble_eq_true rfl⟩ | exact .inl ⟨rfl, rfl, rfl, rfl, Nat.le_refl _, Nat.le_refl _, .inl rfl, Nat.le_of_ble_eq_true rfl⟩ | exact .inr ⟨rfl, rfl, rfl, rfl, rfl⟩ | exact .inl ⟨rfl, rfl, rfl, (by first | omega | (simp; done) | (simp; omega)), (by first | omega | (simp; done) | (simp; omega)), (by first | omega | (simp; done) | (simp; omega)), .inr rfl, Nat.le_of_ble_eq_true rfl⟩ | exact .inl ⟨rfl, rfl, rfl, (by first | omega | (simp; done) | (simp; omega)), (by first | omega | (simp; done) | (simp; omega)), (by first | omega | (simp; done) | (simp; omega)), .inl rfl, Nat.le_of_ble_eq_true rfl⟩ | exact fun h => h | refine ⟨?_, ?_, ?_, .inl ?_⟩ | refine ⟨?_, ?_⟩ | refine fun ii hii => ?_ | omega | fail)
      rewrite [hb]
      conv => whnf
      refine iteP_intro (fun hb => ?_) (fun hb => ?_)
      · rewrite [hb]
        cases hg : got x at_
        · conv => whnf
          refine LCalls.use (Double_no x at_ hg) [1, 2] rfl rfl ⟨rfl, rfl, trivial⟩ ?_
          rintro _ _ ⟨rfl, rfl⟩
          conv => whnf
          have g := Gsame g0
          refine LCalls.use (Counts (x)) [1, 2] rfl rfl ⟨rfl, rfl, trivial⟩ ?_
          rintro _ _ ⟨rfl, rfl⟩
          conv => whnf
          refine LCalls.use (Way (x) (by have := g.le; omega)) [1, 2] rfl rfl ⟨rfl, rfl, trivial⟩ ?_
          rintro _ _ ⟨rfl, rfl⟩
          conv => whnf
          have q1 := g.sent; have q2 := g.sle; have q3 := g.d0; have q4 := g.d1; have q5 := g.v0; have q6 := g.v1; have q7 := g.l0; have q8 := g.l1; have q9 := g.sum; have q10 := g.le
          refine iteP_intro (fun hb => absurd (bne_iff_ne.1 hb) (fun hn => hn (by omega))) (fun hb => ?_)
          rewrite [hb]
          conv => whnf
          rewrite [wr ((x).sent + (x).doubled) (by omega) (by omega), wr ((x).delivered + (x).lost) (by omega) (by omega), wr ((x).delivered + (x).lost + ((x).way.length : Int)) (by omega) (by omega)]
          refine iteP_intro (fun hb => absurd (bne_iff_ne.1 hb) (fun hn => hn (by omega))) (fun hb => ?_)
          rewrite [hb]
          conv => whnf
          refine iteP_intro (fun hb => absurd (of_decide_eq_true hb) (by omega)) (fun hb => ?_)
          rewrite [hb]
          conv => whnf
          rewrite [show IntKind.i64.wrap ((k : Int) + 1) = ((k + 1 : Nat) : Int) from wr _ (by omega) (by omega)]
          refine ⟨_, _, _, ?_, ⟨[0, 1, 2, 3], rfl, rfl, ?_, ?_⟩, k + 1, x, S, by omega, rfl, g, rfl, rfl⟩
          · omega
          · (repeat' first | exact trivial | exact rfl | exact Nat.le_of_ble_eq_true rfl | exact Nat.le_refl _ | exact .inl ⟨rfl, rfl, rfl, rfl, Nat.le_refl _, Nat.le_refl _, .inr rfl, Nat.le_of_ble_eq_true rfl⟩ | exact .inl ⟨rfl, rfl, rfl, rfl, Nat.le_refl _, Nat.le_refl _, .inl rfl, Nat.le_of_ble_eq_true rfl⟩ | exact .inr ⟨rfl, rfl, rfl, rfl, rfl⟩ | exact .inl ⟨rfl, rfl, rfl, (by first | omega | (simp; done) | (simp; omega)), (by first | omega | (simp; done) | (simp; omega)), (by first | omega | (simp; done) | (simp; omega)), .inr rfl, Nat.le_of_ble_eq_true rfl⟩ | exact .inl ⟨rfl, rfl, rfl, (by first | omega | (simp; done) | (simp; omega)), (by first | omega | (simp; done) | (simp; omega)), (by first | omega | (simp; done) | (simp; omega)), .inl rfl, Nat.le_of_ble_eq_true rfl⟩ | exact fun h => h | refine ⟨?_, ?_, ?_, .inl ?_⟩ | refine ⟨?_, ?_⟩ | refine fun ii hii => ?_ | omega | fail)
          · (repeat' first | exact trivial | exact rfl | exact Nat.le_of_ble_eq_true rfl | exact Nat.le_refl _ | exact .inl ⟨rfl, rfl, rfl, rfl, Nat.le_refl _, Nat.le_refl _, .inr rfl, Nat.le_of_ble_eq_true rfl⟩ | exact .inl ⟨rfl, rfl, rfl, rfl, Nat.le_refl _, Nat.le_refl _, .inl rfl, Nat.le_of_ble_eq_true rfl⟩ | exact .inr ⟨rfl, rfl, rfl, rfl, rfl⟩ | exact .inl ⟨rfl, rfl, rfl, (by first | omega | (simp; done) | (simp; omega)), (by first | omega | (simp; done) | (simp; omega)), (by first | omega | (simp; done) | (simp; omega)), .inr rfl, Nat.le_of_ble_eq_true rfl⟩ | exact .inl ⟨rfl, rfl, rfl, (by first | omega | (simp; done) | (simp; omega)), (by first | omega | (simp; done) | (simp; omega)), (by first | omega | (simp; done) | (simp; omega)), .inl rfl, Nat.le_of_ble_eq_true rfl⟩ | exact fun h => h | refine ⟨?_, ?_, ?_, .inl ?_⟩ | refine ⟨?_, ?_⟩ | refine fun ii hii => ?_ | omega | fail)
        · obtain ⟨i, rfl, hi2⟩ := got_nat hg
          by_cases hf : x.way.length < 100
          · conv => whnf
            refine LCalls.use (Double_ok x i hi2 hf) [1, 2] rfl rfl ⟨rfl, rfl, trivial⟩ ?_
            rintro _ _ ⟨rfl, rfl⟩
            conv => whnf
            have g := Gdbl g0 hc.2 i hi2 hf
            refine LCalls.use (Counts (dbl x i)) [1, 5] rfl rfl ⟨rfl, rfl, trivial⟩ ?_
            rintro _ _ ⟨rfl, rfl⟩
            conv => whnf
            refine LCalls.use (Way (dbl x i) (by have := g.le; omega)) [1, 5] rfl rfl ⟨rfl, rfl, trivial⟩ ?_
            rintro _ _ ⟨rfl, rfl⟩
            conv => whnf
            have q1 := g.sent; have q2 := g.sle; have q3 := g.d0; have q4 := g.d1; have q5 := g.v0; have q6 := g.v1; have q7 := g.l0; have q8 := g.l1; have q9 := g.sum; have q10 := g.le
            refine iteP_intro (fun hb => absurd (bne_iff_ne.1 hb) (fun hn => hn (by omega))) (fun hb => ?_)
            rewrite [hb]
            conv => whnf
            rewrite [wr ((dbl x i).sent + (dbl x i).doubled) (by omega) (by omega), wr ((dbl x i).delivered + (dbl x i).lost) (by omega) (by omega), wr ((dbl x i).delivered + (dbl x i).lost + ((dbl x i).way.length : Int)) (by omega) (by omega)]
            refine iteP_intro (fun hb => absurd (bne_iff_ne.1 hb) (fun hn => hn (by omega))) (fun hb => ?_)
            rewrite [hb]
            conv => whnf
            refine iteP_intro (fun hb => absurd (of_decide_eq_true hb) (by omega)) (fun hb => ?_)
            rewrite [hb]
            conv => whnf
            rewrite [show IntKind.i64.wrap ((k : Int) + 1) = ((k + 1 : Nat) : Int) from wr _ (by omega) (by omega)]
            refine ⟨_, _, _, ?_, ⟨[0, 1, 5, 3], rfl, rfl, ?_, ?_⟩, k + 1, dbl x i, S, by omega, rfl, g, rfl, rfl⟩
            · omega
            · (repeat' first | exact trivial | exact rfl | exact Nat.le_of_ble_eq_true rfl | exact Nat.le_refl _ | exact .inl ⟨rfl, rfl, rfl, rfl, Nat.le_refl _, Nat.le_refl _, .inr rfl, Nat.le_of_ble_eq_true rfl⟩ | exact .inl ⟨rfl, rfl, rfl, rfl, Nat.le_refl _, Nat.le_refl _, .inl rfl, Nat.le_of_ble_eq_true rfl⟩ | exact .inr ⟨rfl, rfl, rfl, rfl, rfl⟩ | exact .inl ⟨rfl, rfl, rfl, (by first | omega | (simp; done) | (simp; omega)), (by first | omega | (simp; done) | (simp; omega)), (by first | omega | (simp; done) | (simp; omega)), .inr rfl, Nat.le_of_ble_eq_true rfl⟩ | exact .inl ⟨rfl, rfl, rfl, (by first | omega | (simp; done) | (simp; omega)), (by first | omega | (simp; done) | (simp; omega)), (by first | omega | (simp; done) | (simp; omega)), .inl rfl, Nat.le_of_ble_eq_true rfl⟩ | exact fun h => h | refine ⟨?_, ?_, ?_, .inl ?_⟩ | refine ⟨?_, ?_⟩ | refine fun ii hii => ?_ | omega | fail)
            · (repeat' first | exact trivial | exact rfl | exact Nat.le_of_ble_eq_true rfl | exact Nat.le_refl _ | exact .inl ⟨rfl, rfl, rfl, rfl, Nat.le_refl _, Nat.le_refl _, .inr rfl, Nat.le_of_ble_eq_true rfl⟩ | exact .inl ⟨rfl, rfl, rfl, rfl, Nat.le_refl _, Nat.le_refl _, .inl rfl, Nat.le_of_ble_eq_true rfl⟩ | exact .inr ⟨rfl, rfl, rfl, rfl, rfl⟩ | exact .inl ⟨rfl, rfl, rfl, (by first | omega | (simp; done) | (simp; omega)), (by first | omega | (simp; done) | (simp; omega)), (by first | omega | (simp; done) | (simp; omega)), .inr rfl, Nat.le_of_ble_eq_true rfl⟩ | exact .inl ⟨rfl, rfl, rfl, (by first | omega | (simp; done) | (simp; omega)), (by first | omega | (simp; done) | (simp; omega)), (by first | omega | (simp; done) | (simp; omega)), .inl rfl, Nat.le_of_ble_eq_true rfl⟩ | exact fun h => h | refine ⟨?_, ?_, ?_, .inl ?_⟩ | refine ⟨?_, ?_⟩ | refine fun ii hii => ?_ | omega | fail)
          · conv => whnf
            refine LCalls.use (Double_full x i hi2 (by omega)) [1, 2] rfl rfl ⟨rfl, rfl, trivial⟩ ?_
            rintro _ _ ⟨rfl, rfl⟩
            conv => whnf
            have g := Gsame g0
            refine LCalls.use (Counts (x)) [1, 2] rfl rfl ⟨rfl, rfl, trivial⟩ ?_
            rintro _ _ ⟨rfl, rfl⟩
            conv => whnf
            refine LCalls.use (Way (x) (by have := g.le; omega)) [1, 2] rfl rfl ⟨rfl, rfl, trivial⟩ ?_
            rintro _ _ ⟨rfl, rfl⟩
            conv => whnf
            have q1 := g.sent; have q2 := g.sle; have q3 := g.d0; have q4 := g.d1; have q5 := g.v0; have q6 := g.v1; have q7 := g.l0; have q8 := g.l1; have q9 := g.sum; have q10 := g.le
            refine iteP_intro (fun hb => absurd (bne_iff_ne.1 hb) (fun hn => hn (by omega))) (fun hb => ?_)
            rewrite [hb]
            conv => whnf
            rewrite [wr ((x).sent + (x).doubled) (by omega) (by omega), wr ((x).delivered + (x).lost) (by omega) (by omega), wr ((x).delivered + (x).lost + ((x).way.length : Int)) (by omega) (by omega)]
            refine iteP_intro (fun hb => absurd (bne_iff_ne.1 hb) (fun hn => hn (by omega))) (fun hb => ?_)
            rewrite [hb]
            conv => whnf
            refine iteP_intro (fun hb => absurd (of_decide_eq_true hb) (by omega)) (fun hb => ?_)
            rewrite [hb]
            conv => whnf
            rewrite [show IntKind.i64.wrap ((k : Int) + 1) = ((k + 1 : Nat) : Int) from wr _ (by omega) (by omega)]
            refine ⟨_, _, _, ?_, ⟨[0, 1, 2, 3], rfl, rfl, ?_, ?_⟩, k + 1, x, S, by omega, rfl, g, rfl, rfl⟩
            · omega
            · (repeat' first | exact trivial | exact rfl | exact Nat.le_of_ble_eq_true rfl | exact Nat.le_refl _ | exact .inl ⟨rfl, rfl, rfl, rfl, Nat.le_refl _, Nat.le_refl _, .inr rfl, Nat.le_of_ble_eq_true rfl⟩ | exact .inl ⟨rfl, rfl, rfl, rfl, Nat.le_refl _, Nat.le_refl _, .inl rfl, Nat.le_of_ble_eq_true rfl⟩ | exact .inr ⟨rfl, rfl, rfl, rfl, rfl⟩ | exact .inl ⟨rfl, rfl, rfl, (by first | omega | (simp; done) | (simp; omega)), (by first | omega | (simp; done) | (simp; omega)), (by first | omega | (simp; done) | (simp; omega)), .inr rfl, Nat.le_of_ble_eq_true rfl⟩ | exact .inl ⟨rfl, rfl, rfl, (by first | omega | (simp; done) | (simp; omega)), (by first | omega | (simp; done) | (simp; omega)), (by first | omega | (simp; done) | (simp; omega)), .inl rfl, Nat.le_of_ble_eq_true rfl⟩ | exact fun h => h | refine ⟨?_, ?_, ?_, .inl ?_⟩ | refine ⟨?_, ?_⟩ | refine fun ii hii => ?_ | omega | fail)
            · (repeat' first | exact trivial | exact rfl | exact Nat.le_of_ble_eq_true rfl | exact Nat.le_refl _ | exact .inl ⟨rfl, rfl, rfl, rfl, Nat.le_refl _, Nat.le_refl _, .inr rfl, Nat.le_of_ble_eq_true rfl⟩ | exact .inl ⟨rfl, rfl, rfl, rfl, Nat.le_refl _, Nat.le_refl _, .inl rfl, Nat.le_of_ble_eq_true rfl⟩ | exact .inr ⟨rfl, rfl, rfl, rfl, rfl⟩ | exact .inl ⟨rfl, rfl, rfl, (by first | omega | (simp; done) | (simp; omega)), (by first | omega | (simp; done) | (simp; omega)), (by first | omega | (simp; done) | (simp; omega)), .inr rfl, Nat.le_of_ble_eq_true rfl⟩ | exact .inl ⟨rfl, rfl, rfl, (by first | omega | (simp; done) | (simp; omega)), (by first | omega | (simp; done) | (simp; omega)), (by first | omega | (simp; done) | (simp; omega)), .inl rfl, Nat.le_of_ble_eq_true rfl⟩ | exact fun h => h | refine ⟨?_, ?_, ?_, .inl ?_⟩ | refine ⟨?_, ?_⟩ | refine fun ii hii => ?_ | omega | fail)
      rewrite [hb]
      conv => whnf
      have g := Gsame g0
      refine LCalls.use (Counts (x)) [1, 2] rfl rfl ⟨rfl, rfl, trivial⟩ ?_
      rintro _ _ ⟨rfl, rfl⟩
      conv => whnf
      refine LCalls.use (Way (x) (by have := g.le; omega)) [1, 2] rfl rfl ⟨rfl, rfl, trivial⟩ ?_
      rintro _ _ ⟨rfl, rfl⟩
      conv => whnf
      have q1 := g.sent; have q2 := g.sle; have q3 := g.d0; have q4 := g.d1; have q5 := g.v0; have q6 := g.v1; have q7 := g.l0; have q8 := g.l1; have q9 := g.sum; have q10 := g.le
      refine iteP_intro (fun hb => absurd (bne_iff_ne.1 hb) (fun hn => hn (by omega))) (fun hb => ?_)
      rewrite [hb]
      conv => whnf
      rewrite [wr ((x).sent + (x).doubled) (by omega) (by omega), wr ((x).delivered + (x).lost) (by omega) (by omega), wr ((x).delivered + (x).lost + ((x).way.length : Int)) (by omega) (by omega)]
      refine iteP_intro (fun hb => absurd (bne_iff_ne.1 hb) (fun hn => hn (by omega))) (fun hb => ?_)
      rewrite [hb]
      conv => whnf
      refine iteP_intro (fun hb => absurd (of_decide_eq_true hb) (by omega)) (fun hb => ?_)
      rewrite [hb]
      conv => whnf
      rewrite [show IntKind.i64.wrap ((k : Int) + 1) = ((k + 1 : Nat) : Int) from wr _ (by omega) (by omega)]
      refine ⟨_, _, _, ?_, ⟨[0, 1, 2, 3], rfl, rfl, ?_, ?_⟩, k + 1, x, S, by omega, rfl, g, rfl, rfl⟩
      · omega
      · (repeat' first | exact trivial | exact rfl | exact Nat.le_of_ble_eq_true rfl | exact Nat.le_refl _ | exact .inl ⟨rfl, rfl, rfl, rfl, Nat.le_refl _, Nat.le_refl _, .inr rfl, Nat.le_of_ble_eq_true rfl⟩ | exact .inl ⟨rfl, rfl, rfl, rfl, Nat.le_refl _, Nat.le_refl _, .inl rfl, Nat.le_of_ble_eq_true rfl⟩ | exact .inr ⟨rfl, rfl, rfl, rfl, rfl⟩ | exact .inl ⟨rfl, rfl, rfl, (by first | omega | (simp; done) | (simp; omega)), (by first | omega | (simp; done) | (simp; omega)), (by first | omega | (simp; done) | (simp; omega)), .inr rfl, Nat.le_of_ble_eq_true rfl⟩ | exact .inl ⟨rfl, rfl, rfl, (by first | omega | (simp; done) | (simp; omega)), (by first | omega | (simp; done) | (simp; omega)), (by first | omega | (simp; done) | (simp; omega)), .inl rfl, Nat.le_of_ble_eq_true rfl⟩ | exact fun h => h | refine ⟨?_, ?_, ?_, .inl ?_⟩ | refine ⟨?_, ?_⟩ | refine fun ii hii => ?_ | omega | fail)
      · (repeat' first | exact trivial | exact rfl | exact Nat.le_of_ble_eq_true rfl | exact Nat.le_refl _ | exact .inl ⟨rfl, rfl, rfl, rfl, Nat.le_refl _, Nat.le_refl _, .inr rfl, Nat.le_of_ble_eq_true rfl⟩ | exact .inl ⟨rfl, rfl, rfl, rfl, Nat.le_refl _, Nat.le_refl _, .inl rfl, Nat.le_of_ble_eq_true rfl⟩ | exact .inr ⟨rfl, rfl, rfl, rfl, rfl⟩ | exact .inl ⟨rfl, rfl, rfl, (by first | omega | (simp; done) | (simp; omega)), (by first | omega | (simp; done) | (simp; omega)), (by first | omega | (simp; done) | (simp; omega)), .inr rfl, Nat.le_of_ble_eq_true rfl⟩ | exact .inl ⟨rfl, rfl, rfl, (by first | omega | (simp; done) | (simp; omega)), (by first | omega | (simp; done) | (simp; omega)), (by first | omega | (simp; done) | (simp; omega)), .inl rfl, Nat.le_of_ble_eq_true rfl⟩ | exact fun h => h | refine ⟨?_, ?_, ?_, .inl ?_⟩ | refine ⟨?_, ?_⟩ | refine fun ii hii => ?_ | omega | fail)
    · by_cases hc2 : k < l.length
      · rewrite [show decide ((k : Int) < (l.length : Int)) = true from decide_eq_true (by omega)]
        conv => whnf
        rewrite [show decide ((k : Int) < 200) = false from decide_eq_false (by omega)]
        conv => whnf
        refine ⟨[0], _, _, rfl, rfl, ?_, ?_, rfl, rfl⟩
        · (repeat' first | exact trivial | exact rfl | exact Nat.le_of_ble_eq_true rfl | exact Nat.le_refl _ | exact .inl ⟨rfl, rfl, rfl, rfl, Nat.le_refl _, Nat.le_refl _, .inr rfl, Nat.le_of_ble_eq_true rfl⟩ | exact .inl ⟨rfl, rfl, rfl, rfl, Nat.le_refl _, Nat.le_refl _, .inl rfl, Nat.le_of_ble_eq_true rfl⟩ | exact .inr ⟨rfl, rfl, rfl, rfl, rfl⟩ | exact .inl ⟨rfl, rfl, rfl, (by first | omega | (simp; done) | (simp; omega)), (by first | omega | (simp; done) | (simp; omega)), (by first | omega | (simp; done) | (simp; omega)), .inr rfl, Nat.le_of_ble_eq_true rfl⟩ | exact .inl ⟨rfl, rfl, rfl, (by first | omega | (simp; done) | (simp; omega)), (by first | omega | (simp; done) | (simp; omega)), (by first | omega | (simp; done) | (simp; omega)), .inl rfl, Nat.le_of_ble_eq_true rfl⟩ | exact fun h => h | refine ⟨?_, ?_, ?_, .inl ?_⟩ | refine ⟨?_, ?_⟩ | refine fun ii hii => ?_ | omega | fail)
        · (repeat' first | exact trivial | exact rfl | exact Nat.le_of_ble_eq_true rfl | exact Nat.le_refl _ | exact .inl ⟨rfl, rfl, rfl, rfl, Nat.le_refl _, Nat.le_refl _, .inr rfl, Nat.le_of_ble_eq_true rfl⟩ | exact .inl ⟨rfl, rfl, rfl, rfl, Nat.le_refl _, Nat.le_refl _, .inl rfl, Nat.le_of_ble_eq_true rfl⟩ | exact .inr ⟨rfl, rfl, rfl, rfl, rfl⟩ | exact .inl ⟨rfl, rfl, rfl, (by first | omega | (simp; done) | (simp; omega)), (by first | omega | (simp; done) | (simp; omega)), (by first | omega | (simp; done) | (simp; omega)), .inr rfl, Nat.le_of_ble_eq_true rfl⟩ | exact .inl ⟨rfl, rfl, rfl, (by first | omega | (simp; done) | (simp; omega)), (by first | omega | (simp; done) | (simp; omega)), (by first | omega | (simp; done) | (simp; omega)), .inl rfl, Nat.le_of_ble_eq_true rfl⟩ | exact fun h => h | refine ⟨?_, ?_, ?_, .inl ?_⟩ | refine ⟨?_, ?_⟩ | refine fun ii hii => ?_ | omega | fail)
      · rewrite [show decide ((k : Int) < (l.length : Int)) = false from decide_eq_false (by omega)]
        conv => whnf
        refine ⟨[0], _, _, rfl, rfl, ?_, ?_, rfl, rfl⟩
        · (repeat' first | exact trivial | exact rfl | exact Nat.le_of_ble_eq_true rfl | exact Nat.le_refl _ | exact .inl ⟨rfl, rfl, rfl, rfl, Nat.le_refl _, Nat.le_refl _, .inr rfl, Nat.le_of_ble_eq_true rfl⟩ | exact .inl ⟨rfl, rfl, rfl, rfl, Nat.le_refl _, Nat.le_refl _, .inl rfl, Nat.le_of_ble_eq_true rfl⟩ | exact .inr ⟨rfl, rfl, rfl, rfl, rfl⟩ | exact .inl ⟨rfl, rfl, rfl, (by first | omega | (simp; done) | (simp; omega)), (by first | omega | (simp; done) | (simp; omega)), (by first | omega | (simp; done) | (simp; omega)), .inr rfl, Nat.le_of_ble_eq_true rfl⟩ | exact .inl ⟨rfl, rfl, rfl, (by first | omega | (simp; done) | (simp; omega)), (by first | omega | (simp; done) | (simp; omega)), (by first | omega | (simp; done) | (simp; omega)), .inl rfl, Nat.le_of_ble_eq_true rfl⟩ | exact fun h => h | refine ⟨?_, ?_, ?_, .inl ?_⟩ | refine ⟨?_, ?_⟩ | refine fun ii hii => ?_ | omega | fail)
        · (repeat' first | exact trivial | exact rfl | exact Nat.le_of_ble_eq_true rfl | exact Nat.le_refl _ | exact .inl ⟨rfl, rfl, rfl, rfl, Nat.le_refl _, Nat.le_refl _, .inr rfl, Nat.le_of_ble_eq_true rfl⟩ | exact .inl ⟨rfl, rfl, rfl, rfl, Nat.le_refl _, Nat.le_refl _, .inl rfl, Nat.le_of_ble_eq_true rfl⟩ | exact .inr ⟨rfl, rfl, rfl, rfl, rfl⟩ | exact .inl ⟨rfl, rfl, rfl, (by first | omega | (simp; done) | (simp; omega)), (by first | omega | (simp; done) | (simp; omega)), (by first | omega | (simp; done) | (simp; omega)), .inr rfl, Nat.le_of_ble_eq_true rfl⟩ | exact .inl ⟨rfl, rfl, rfl, (by first | omega | (simp; done) | (simp; omega)), (by first | omega | (simp; done) | (simp; omega)), (by first | omega | (simp; done) | (simp; omega)), .inl rfl, Nat.le_of_ble_eq_true rfl⟩ | exact fun h => h | refine ⟨?_, ?_, ?_, .inl ?_⟩ | refine ⟨?_, ?_⟩ | refine fun ii hii => ?_ | omega | fail)
end Go.Proofs.Ytnmbbkhjbflojaa.Net
