/- Ranges over functions. Over any program. -/
import Derived.Test.YtilmfhpoiejmfaaLh15
import Derived.RangeFuncIn
import Derived.RangeFuncRecord
import Derived.RangeFuncLeaves
namespace Go.Proofs.Ytilmfhpoiejmfaa.Lh
set_option linter.unusedSimpArgs false
set_option linter.unusedVariables false
set_option linter.unusedSectionVars false
open Go.RowKit
variable [Fz]
/-- A loop's record and the block of its rounds' deferred calls. -/
def recA (l d : Nat) (r : Go.Loop) : Asn where
  holds _ w F := (∀ k, F k ↔ k = l ∨ k = d) ∧ w.heap[l]? = some (.loop r) ∧ w.heap[d]? = some (.deferred (some []))
  ext _ h := h
  loc _ hk h := ⟨h.1, (hk l ((h.1 l).2 (.inl rfl))).trans h.2.1, (hk d ((h.1 d).2 (.inr rfl))).trans h.2.2⟩
/-- The same, of which nothing is known any more. -/
def goneA (l d : Nat) : Asn where
  holds _ _ F := ∀ k, F k ↔ k = l ∨ k = d
  ext _ h := h
  loc _ _ h := h
section
variable {T : Nat → Nat → Prop} {w0 : World} {P : Program}
theorem res_none {ρ : Pl} {h : LHeap} {w : World} (s : Sim T w0 ρ h w) {j : Nat} {A : Asn} (hj : hget h j = resO A) : ρ j = none := by
  rcases s.obj j _ hj with ⟨g, b, n, ob, h1, h2, h3, h4⟩ | ⟨h1, _⟩
  · obtain ⟨pre, l, ex, fr, q1, q2, q3⟩ := h3
    exact (show False from q2).elim
  · exact h1
/-- An assertion's part of the world is turned. -/
theorem Sim.reres {ρ : Pl} {h : LHeap} {w w' : World} (s : Sim T w0 ρ h w) {j : Nat} {A B : Asn} (hj : hget h j = resO A) (hc : ∀ F, A.holds ρ w F → (∀ k, F k → k < w.heap.size) → B.holds ρ w' F ∧ ∀ k, ¬ F k → w'.heap[k]? = w.heap[k]?) (hsz : w'.heap.size = w.heap.size) (e1 : w'.os = w.os) (e2 : w'.tape = w.tape) (e3 : w'.output = w.output) : Sim T w0 ρ (hset h j (resO B)) w' := by
  have hn := res_none s hj
  obtain ⟨Fs, r⟩ := s.res
  obtain ⟨hB, hout⟩ := hc _ (r.holds j _ A hj rfl) (fun k hk => (r.mine j _ A k hj rfl hk).2.2)
  have old : ∀ i o, i ≠ j → hget (hset h j (resO B)) i = some o → hget h i = some o := fun i o hi h1 => by rw [hget_hset, if_neg hi] at h1; exact h1
  have new : ∀ o, hget (hset h j (resO B)) j = some o → o = ⟨.res B, 0, false, true⟩ := fun o h1 => by rw [hget_hset, if_pos rfl] at h1; exact (Option.some.inj h1).symm
  have any : ∀ i o, hget (hset h j (resO B)) i = some o → ∃ o', hget h i = some o' := fun i o h1 => by
    by_cases c : i = j
    · subst c; exact ⟨_, hj⟩
    · exact ⟨_, old i o c h1⟩
  refine ⟨fun i o hi => ?_, fun i k oi ok g b n b' m hi hk h1 h2 => ?_, fun i g b n h1 => by rw [hsz]; exact s.lt i g b n h1, e1.trans s.os, e2.trans s.tape, e3.trans s.output, by rw [hsz]; exact s.size, fun k hk => ?_, s.new, s.apart, fun k o hk => ?_, s.fzT, fun i o g b n hi hr h1 => ?_, s.glob, s.tks, Fs, ?_, ?_, ?_, ?_⟩
  · by_cases c : i = j
    · subst c
      rw [new o hi]
      exact .inr ⟨hn, .inr ⟨rfl, B, rfl⟩⟩
    · rcases s.obj i o (old i o c hi) with ⟨g, b, n, ob, h1, h2, h3, h4⟩ | h1
      · exact .inl ⟨g, b, n, ob, h1, (hout g (r.off j i _ o A g b n hj rfl (old i o c hi) h1)).trans h2, h3, h4⟩
      · exact .inr h1
  · obtain ⟨oi', hi'⟩ := any i oi hi
    obtain ⟨ok', hk'⟩ := any k ok hk
    exact s.inj i k oi' ok' g b n b' m hi' hk' h1 h2
  · rw [hout k (fun hF => hk (r.mine j _ A k hj rfl hF).1)]
    exact s.kept k hk
  · rw [hout k (fun hF => by rw [(r.mine j _ A k hj rfl hF).2.1] at hk; cases hk)]
    exact s.fz k o hk
  · by_cases c : i = j
    · subst c; rw [hn] at h1; cases h1
    · exact s.nofz i o g b n (old i o c hi) hr h1
  · intro i o A' hi hA
    by_cases c : i = j
    · subst c
      rw [new o hi] at hA
      cases hA
      exact hB
    · exact A'.loc (by rw [hsz]; exact Nat.le_refl _) (fun k hk => hout k (fun hF => c (r.apart i j o _ A' A k (old i o c hi) hA hj rfl hk hF))) (r.holds i o A' (old i o c hi) hA)
  · intro i o A' k hi hA hk
    by_cases c : i = j
    · subst c
      obtain ⟨a1, a2, a3⟩ := r.mine i _ A k hj rfl hk
      exact ⟨a1, a2, by rw [hsz]; exact a3⟩
    · obtain ⟨a1, a2, a3⟩ := r.mine i o A' k (old i o c hi) hA hk
      exact ⟨a1, a2, by rw [hsz]; exact a3⟩
  · intro i k oi ok A1 A2 x hi h1 hk h2 hx1 hx2
    obtain ⟨B1, q1, p1⟩ : ∃ B1, (∃ o, hget h i = some o ∧ o.segs = .res B1) ∧ True := by
      by_cases c : i = j
      · subst c; exact ⟨A, ⟨_, hj, rfl⟩, trivial⟩
      · exact ⟨A1, ⟨oi, old i oi c hi, h1⟩, trivial⟩
    obtain ⟨B2, q2, p2⟩ : ∃ B2, (∃ o, hget h k = some o ∧ o.segs = .res B2) ∧ True := by
      by_cases c : k = j
      · subst c; exact ⟨A, ⟨_, hj, rfl⟩, trivial⟩
      · exact ⟨A2, ⟨ok, old k ok c hk, h2⟩, trivial⟩
    obtain ⟨o1, a1, a2⟩ := q1
    obtain ⟨o2, b1, b2⟩ := q2
    exact r.apart i k o1 o2 B1 B2 x a1 a2 b1 b2 hx1 hx2
  · intro i k oi ok A1 g b n hi h1 hk h2
    obtain ⟨B1, o1, a1, a2⟩ : ∃ B1 o, hget h i = some o ∧ o.segs = .res B1 := by
      by_cases c : i = j
      · subst c; exact ⟨A, _, hj, rfl⟩
      · exact ⟨A1, oi, old i oi c hi, h1⟩
    obtain ⟨ok', hk'⟩ := any k ok hk
    exact r.off i k o1 ok' B1 g b n a1 a2 hk' h2
/-- An assertion more, of new blocks. -/
theorem Sim.addRes {ρ : Pl} {h : LHeap} {w w' : World} (s : Sim T w0 ρ h w) (b : Below w.heap.size w w') {n : Nat} (hh : hget h n = none) (hn : ρ n = none) {A : Asn} {F : Nat → Prop} (hA : A.holds ρ w' F) (hF : ∀ k, F k → w.heap.size ≤ k ∧ k < w'.heap.size) : Sim T w0 ρ (hset h n (resO A)) w' := by
  have s' := s.below b
  have old : ∀ i o, i ≠ n → hget (hset h n (resO A)) i = some o → hget h i = some o := fun i o hi h1 => by rw [hget_hset, if_neg hi] at h1; exact h1
  have new : ∀ o, hget (hset h n (resO A)) n = some o → o = ⟨.res A, 0, false, true⟩ := fun o h1 => by rw [hget_hset, if_pos rfl] at h1; exact (Option.some.inj h1).symm
  obtain ⟨Fs, r⟩ := s.res
  have nfz : ∀ k, w.heap.size ≤ k → ρ.fz k = none := fun k hk => by
    cases hq : ρ.fz k with
    | none => rfl
    | some ob => have := s.flt hq; omega
  refine ⟨fun i o hi => ?_, fun i k oi ok g b' m b'' m' hi hk h1 h2 hT => ?_, s'.lt, s'.os, s'.tape, s'.output, s'.size, s'.kept, s'.new, s'.apart, s'.fz, s'.fzT, fun i o g b' m hi hr h1 => ?_, s'.glob, s'.tks, fun i => if i = n then F else Fs i, ?_, ?_, ?_, ?_⟩
  · by_cases c : i = n
    · subst c; rw [new o hi]; exact .inr ⟨hn, .inr ⟨rfl, A, rfl⟩⟩
    · exact s'.obj i o (old i o c hi)
  · have ci : i ≠ n := fun c => by subst c; rw [hn] at h1; cases h1
    have ck : k ≠ n := fun c => by subst c; rw [hn] at h2; cases h2
    exact s'.inj i k oi ok g b' m b'' m' (old i oi ci hi) (old k ok ck hk) h1 h2 hT
  · have ci : i ≠ n := fun c => by subst c; rw [hn] at h1; cases h1
    exact s'.nofz i o g b' m (old i o ci hi) hr h1
  · intro i o A' hi hA'
    by_cases c : i = n
    · subst c
      rw [new o hi] at hA'
      cases hA'
      rw [if_pos rfl]
      exact hA
    · rw [if_neg c]
      exact A'.loc b.size (fun k hk => b.block k (r.mine i o A' k (old i o c hi) hA' hk).2.2) (r.holds i o A' (old i o c hi) hA')
  · intro i o A' k hi hA' hk
    by_cases c : i = n
    · rw [if_pos c] at hk
      obtain ⟨a1, a2⟩ := hF k hk
      exact ⟨s.new k (Nat.le_trans s.size a1), nfz k a1, a2⟩
    · rw [if_neg c] at hk
      obtain ⟨a1, a2, a3⟩ := r.mine i o A' k (old i o c hi) hA' hk
      exact ⟨a1, a2, Nat.lt_of_lt_of_le a3 b.size⟩
  · intro i j oi oj A1 A2 k hi h1 hj h2 hk1 hk2
    by_cases ci : i = n <;> by_cases cj : j = n
    · rw [ci, cj]
    · rw [if_pos ci] at hk1; rw [if_neg cj] at hk2
      have := (hF k hk1).1
      have := (r.mine j oj A2 k (old j oj cj hj) h2 hk2).2.2
      omega
    · rw [if_neg ci] at hk1; rw [if_pos cj] at hk2
      have := (hF k hk2).1
      have := (r.mine i oi A1 k (old i oi ci hi) h1 hk1).2.2
      omega
    · rw [if_neg ci] at hk1; rw [if_neg cj] at hk2
      exact r.apart i j oi oj A1 A2 k (old i oi ci hi) h1 (old j oj cj hj) h2 hk1 hk2
  · intro i j oi oj A1 g b' m hi h1 hj h2 hk
    have cj : j ≠ n := fun c => by subst c; rw [hn] at h2; cases h2
    by_cases ci : i = n
    · rw [if_pos ci] at hk
      have := (hF g hk).1
      have := s.lt j g b' m h2
      omega
    · rw [if_neg ci] at hk
      exact r.off i j oi oj A1 g b' m (old i oi ci hi) h1 (old j oj cj hj) h2 hk
/-! One round. -/
def psK : List Nat → LVals → List LVal → (List LVal → Prop) → Prop
  | [], .nil, t, K => K t
  | p :: ps, .cons v r, t, K => setK t p v fun t => psK ps r t K
  | _, _, _, _ => False
theorem psK_sim {ρ : Pl} : ∀ (ps : List Nat) (vs : LVals) (l : List Value) (t : List LVal) (tm : Array Value) {K : List LVal → Prop}, psK ps vs t K → PVs ρ vs l → TSim ρ t { tmps := tm, defers := [] } →
    ∃ t', K t' ∧ TSim ρ t' { tmps := (ps.zip l).foldl (fun tm (p : Nat × Value) => tm.setIfInBounds p.1 p.2) tm, defers := [] }
  | [], .nil, l, t, tm, K, hk, hv, ht => by
    have : l = [] := hv
    subst this
    exact ⟨t, hk, ht⟩
  | [], .cons _ _, l, t, tm, K, hk, hv, ht => hk.elim
  | _ :: _, .nil, l, t, tm, K, hk, hv, ht => hk.elim
  | p :: ps, .cons v r, l, t, tm, K, hk, hv, ht => by
    obtain ⟨x, l', rfl, h1, h2⟩ := hv
    simp only [psK, setK_eq] at hk
    exact psK_sim ps r l' _ _ hk h2 (ht.set p h1)
theorem PVs_app {ρ : Pl} : ∀ (a b : LVals) (l : List Value), PVs ρ (appVs a b) l → ∃ l1 l2, l = l1 ++ l2 ∧ PVs ρ a l1 ∧ PVs ρ b l2
  | .nil, b, l, h => ⟨[], l, rfl, rfl, h⟩
  | .cons v r, b, l, h => by
    obtain ⟨x, l', rfl, h1, h2⟩ := h
    obtain ⟨l1, l2, rfl, h3, h4⟩ := PVs_app r b l' h2
    exact ⟨x :: l1, l2, rfl, ⟨x, l1, rfl, h1, h3⟩, h4⟩
def lvsOf : List LVal → LVals
  | [] => .nil
  | v :: r => .cons v (lvsOf r)
theorem lvsOf_PVs {ρ : Pl} : ∀ (t : List LVal) (l : List Value), t.length = l.length → (∀ i, PV ρ (lget t i) (l.getD i undef)) → PVs ρ (lvsOf t) l
  | [], [], _, _ => rfl
  | v :: r, x :: l, hl, h => ⟨x, l, rfl, h 0, lvsOf_PVs r l (by simpa using hl) (fun i => h (i + 1))⟩
theorem PVs_TSim {ρ : Pl} : ∀ (ts : LVals) (l : List Value), PVs ρ ts l → ∀ K : List LVal → Prop, initK ts 0 K → ∃ t, K t ∧ TSim ρ t { tmps := l.toArray, defers := [] } := by
  intro ts l h K hK
  rw [initK_eq] at hK
  obtain ⟨h1, h2⟩ := init_PV ts l 0 h
  refine ⟨_, hK, by simpa using h1, fun i => ?_⟩
  have := h2 i
  simp only [List.replicate_zero, List.append_nil] at this
  rw [List.getD_eq_getElem?_getD] at this
  rw [Array.getD_eq_getD_getElem?]
  simpa using this
theorem putObj_rec {ρ : Pl} {h : LHeap} {w : World} (s : Sim T w0 ρ h w) {j l d : Nat} {r r' : Go.Loop} (hld : l ≠ d) (hj : hget h j = resO (recA l d r)) : w.heap[l]? = some (.loop r) ∧ Sim T w0 ρ (hset h j (resO (recA l d r'))) (w.putObj l (.loop r')) := by
  obtain ⟨Fs, q⟩ := s.res
  have hq := q.holds j _ _ hj rfl
  refine ⟨hq.2.1, s.reres hj (fun F hF hlt => ⟨⟨hF.1, World.putObj_heap_same (hlt l ((hF.1 l).2 (.inl rfl))), (World.putObj_heap_other (fun e => hld e.symm)).trans hF.2.2⟩, fun k hk => World.putObj_heap_other (fun e => hk ((hF.1 k).2 (.inl e)))⟩) World.putObj_size rfl rfl rfl⟩
def roundQ (h' : LEnd → LHeap → Prop) (j : Nat) (A B : Asn) : LExit → List LVal → LHeap → Prop
  | .normal, _, h => hget h j = resO B ∧ hsetK h j (resO A) fun h => h' (.ret (.bool true)) h
  | _, _, _ => False
/-- A round: what stands for the loop's record is A ahead of it and behind it, B meanwhile. -/
def roundW (P : Program) (ps : List Nat) (la lb : LCode) (j : Nat) (A B : Asn) (args ts : LVals) (h : LHeap) (R : LEnd → LHeap → Prop) : Prop :=
  hget h j = resO A ∧ initK ts 0 fun t => psK ps args t fun t => lwp P h.length la (fun e t h => match e with
    | .normal => hget h j = resO A ∧ hsetK h j (resO B) fun h2 => lwp P h2.length lb (roundQ R j A B) t h2
    | _ => False) t h
theorem LRound.of_body {fn : FuncId} {ps : Array Tmp} {asg body : Code} {la lb : LCode} (hla : compileC P asg = some la) (hlb : compileC P body = some lb) {l d : Nat} (hld : l ≠ d) {tm : List Value} {j : Nat} {args ts : LVals} {h : LHeap} {R : LEnd → LHeap → Prop} (hn : lvsLen args = ps.size)
    (hw : roundW P ps.toList la lb j (recA l d { state := .ready, pending := none, fn := fn, tmps := tm.toArray, params := ps, assign := asg, body := body, defers := d }) (recA l d { state := .busy, pending := none, fn := fn, tmps := tm.toArray, params := ps, assign := asg, body := body, defers := d }) args ts h R) : LRound P l (lvsLen args) tm (appVs args ts) h R := by
  refine ⟨fun T w0 ρ w L hs hf hv => ?_⟩
  intro hL
  obtain ⟨l1, l2, rfl, hv1, hv2⟩ := PVs_app _ _ _ hv
  have hlen := PVs.len _ _ hv1
  rw [← hlen, List.drop_left] at hL
  subst hL
  rw [← hlen, List.take_left]
  obtain ⟨hj, hw⟩ := hw
  obtain ⟨g1, _⟩ := putObj_rec (r' := default) hs hld hj
  have hy := run_yield (P := P) (args := l1.toArray) g1 (by simp [hlen, hn])
  refine ⟨_, _, _, _, hy, ?_⟩
  obtain ⟨t0, hw, ht0⟩ := PVs_TSim _ _ hv2 _ hw
  obtain ⟨t1, hw, ht1⟩ := psK_sim _ _ _ _ _ hw hv1 ht0
  refine roundIn_of_wpIn trivial ?_
  have e : ((ps.zip l1.toArray).foldl (fun tmps (t, a) => tmps.setIfInBounds t a) l2.toArray) = (ps.toList.zip l1).foldl (fun tm (p : Nat × Value) => tm.setIfInBounds p.1 p.2) l2.toArray := by
    rw [← Array.foldl_toList, Array.toList_zip]
  show asg.wpIn (FW (some l)) 0 P _ { tmps := ((ps.zip l1.toArray).foldl (fun tmps (t, a) => tmps.setIfInBounds t a) l2.toArray), defers := [] } w
  rw [e]
  refine wpIn_mono (code_wp (κ := some l) (D := []) asg la hla (Nat.le_refl _) hs hf ht1 rfl hw) ?_
  rintro e a w1 ⟨le, t2, h2, ρ2, q1, q2, q3, q4, q5⟩
  cases le <;> cases e <;> try first | exact q1.elim | exact q2.elim
  obtain ⟨hj2, q1⟩ := q1
  rw [hsetK_eq] at q1
  obtain ⟨g2, s2⟩ := putObj_rec (r' := { state := .busy, pending := none, fn := fn, tmps := l2.toArray, params := ps, assign := asg, body := body, defers := d }) q4.sim hld hj2
  refine ⟨_, run_beginRound g2 rfl, ?_⟩
  have hlen2 : (hset h2 j (resO (recA l d { state := .busy, pending := none, fn := fn, tmps := l2.toArray, params := ps, assign := asg, body := body, defers := d }))).length = h2.length := hset_len _ _ _ (hget_lt hj2)
  refine wpIn_mono (code_wp (κ := some l) (D := []) body lb hlb (Nat.le_refl _) s2 (fun i hi => q4.fresh i (by omega)) q3 q5 q1) ?_
  rintro e a' w2 ⟨le, t3, h3, ρ3, p1, p2, p3, p4, p5⟩
  cases le <;> cases e <;> try first | exact p1.elim | exact p2.elim
  obtain ⟨hj3, p1⟩ := p1
  rw [hsetK_eq] at p1
  obtain ⟨g3, s3⟩ := putObj_rec (r' := { state := .ready, pending := none, fn := fn, tmps := l2.toArray, params := ps, assign := asg, body := body, defers := d }) p4.sim hld hj3
  refine ⟨_, _, run_endRound none g3, .ret (.bool true), _, ρ3, p1, rfl, ?_, ?_, s3, ?_, ?_⟩
  · refine ⟨fun b x hb => ?_, q4.r.trans p4.r⟩
    have hbl : b < h.length := by
      rcases Nat.lt_or_ge b h.length with c | c
      · exact c
      · rw [hf b c] at hb; cases hb
    rw [p4.keep b (by have := q4.len; omega), q4.keep b hbl]
    exact hb
  · intro i hi
    rw [p4.keep i (by have := q4.len; omega), q4.keep i hi]
  · intro i hi
    rw [hset_len _ _ _ (hget_lt hj3)] at hi
    exact p4.fresh i hi
  · rw [hset_len _ _ _ (hget_lt hj3)]
    have := q4.len
    have := p4.len
    omega
/-! The statement, at a body's top. -/
inductive LBodyR where
  | code (c : LCode)
  | seq (c : LCode) (b : LBodyR)
  | range (g : LOpd) (ps : List Nat) (la lb : LCode) (b : LBodyR)
abbrev LMarks := List (Nat × Asn)
/-- The function that is ranged over, called with yield; what follows. -/
structure RangeK (P : Program) (f : FuncId) (cap : LVals) (ps : List Nat) (la lb : LCode) (t : List LVal) (h : LHeap) (K : Asn → LHeap → Prop) : Prop where
  run : ∀ (l : Nat) (tm : List Value) (A B C : Asn), (∀ (j : Nat) (args ts : LVals) (h2 : LHeap) (R : LEnd → LHeap → Prop), lvsLen args = ps.length → roundW P ps la lb j A B args ts h2 R → LRound P l (lvsLen args) tm (appVs args ts) h2 R) →
    LCalls P f (.cons (.yld l tm (lvsOf t)) cap) (h ++ [resO A]) fun e h' => (∃ v, e = .ret v) ∧ hget h' h.length = resO A ∧ hsetK h' h.length (resO C) fun h' => K C h'
def bwpR (P : Program) (L : Nat) (M : LMarks) : LBodyR → (LMarks → LExit → List LVal → LHeap → Prop) → List LVal → LHeap → Prop
  | .code c, Q, t, h => lwp P L c (Q M) t h
  | .seq c b, Q, t, h => lwp P L c (fun e t h => match e with
    | .normal => bwpR P L M b Q t h
    | e => Q M e t h) t h
  | .range g ps la lb b, Q, t, h => opdK t g fun v => match v with
    | .func f cap => RangeK P f cap ps la lb t h fun C h' => bwpR P L ((h.length, C) :: M) b Q t h'
    | _ => False
def compileBR (P : Program) : Code → Option LBodyR
  | .seq x y => match x with
    | .rangeFunc g ps asg body => withO (compileOpd g) fun g => withO (compileC P asg) fun la => withO (compileC P body) fun lb => withO (compileBR P y) fun b => some (.range g ps.toList la lb b)
    | x => withO (compileC P x) fun c => withO (compileBR P y) fun b => some (.seq c b)
  | .rangeFunc g ps asg body => withO (compileOpd g) fun g => withO (compileC P asg) fun la => withO (compileC P body) fun lb => some (.range g ps.toList la lb (.code .skip))
  | c => withO (compileC P c) fun c => some (.code c)
inductive MarksPV : LMarks → List Deferred → Prop where
  | nil : MarksPV [] []
  | cons {j : Nat} {A : Asn} {M : LMarks} {d : Deferred} {ds : List Deferred} (h : ∃ l r rec, l ≠ r ∧ A = recA l r rec ∧ d.target = .collected r) (hM : MarksPV M ds) : MarksPV ((j, A) :: M) (d :: ds)
def endR (lr : List LRes) (R : LEnd → LHeap → Prop) : LMarks → LMode → List LVal → LHeap → Prop
  | [], .returning, t, h => resK t h lr fun vs => retK vs fun v => R (.ret v) h
  | [], .panicking v, _, h => R (.panic v) h
  | (j, A) :: M, u, t, h => hget h j = resO A ∧ hsetK h j none fun h => endR lr R M u t h
def endQR (lr : List LRes) (R : LEnd → LHeap → Prop) (M : LMarks) : LExit → List LVal → LHeap → Prop
  | .normal, t, h => endR lr R M .returning t h
  | .ret, t, h => endR lr R M .returning t h
  | .panic v, t, h => endR lr R M (.panicking v) t h
  | .exit _, _, _ => False
def PQM (T : Nat → Nat → Prop) (w0 : World) (ρ : Pl) (L : Nat) (Q : LMarks → LExit → List LVal → LHeap → Prop) (e : Exit) (a : Act) (w : World) : Prop :=
  ∃ M le t' h' ρ', Q M le t' h' ∧ ExitPV ρ' le e ∧ TSim ρ' t' a ∧ StpL T w0 ρ L ρ' h' w ∧ MarksPV M a.defers
theorem PQM.step {ρ ρ1 : Pl} {h1 : LHeap} {w1 : World} {L : Nat} {Q : LMarks → LExit → List LVal → LHeap → Prop} (s : StpL T w0 ρ L ρ1 h1 w1) {e : Exit} {a : Act} {w : World} (q : PQM T w0 ρ1 L Q e a w) : PQM T w0 ρ L Q e a w :=
  let ⟨M, le, t', h', ρ', q1, q2, q3, q4, q5⟩ := q
  ⟨M, le, t', h', ρ', q1, q2, q3, s.trans q4, q5⟩
theorem range_wp {g : Operand} {ps : Array Tmp} {asg body : Code} {g' : LOpd} {la lb : LCode} (hg : compileOpd g = some g') (hla : compileC P asg = some la) (hlb : compileC P body = some lb) {L : Nat} {M : LMarks} {b : LBodyR} {Q : LMarks → LExit → List LVal → LHeap → Prop} {ρ : Pl} {t : List LVal} {h : LHeap} {a : Act} {w : World} {X : Exit → Act → World → Prop}
    (hL : L ≤ h.length) (hs : Sim T w0 ρ h w) (hf : ∀ i, h.length ≤ i → ρ i = none) (ht : TSim ρ t a) (hM : MarksPV M a.defers) (hw : bwpR P L M (.range g' ps.toList la lb b) Q t h)
    (hX : ∀ M' a' w' ρ' h', MarksPV M' a'.defers → TSim ρ' t a' → StpL T w0 ρ L ρ' h' w' → bwpR P L M' b Q t h' → X .normal a' w') : (Code.rangeFunc g ps asg body).wpIn (FW none) 0 P X a w := by
  obtain ⟨v, hv, hw⟩ := opdK_wp ht hg hw
  cases v <;> try exact hw.elim
  rename_i f cap
  obtain ⟨cl, hcl, hev⟩ := hv
  refine wpIn_rangeFunc ?_
  intro fn _
  obtain ⟨rec, hrec⟩ : ∃ rec : LoopState → Go.Loop, rec = fun st => { state := st, pending := none, fn := fn, tmps := a.tmps, params := ps, assign := asg, body := body, defers := w.heap.size } := ⟨_, rfl⟩
  obtain ⟨w1, hw1⟩ : ∃ w1, (w.alloc (.deferred (some []))).alloc (.loop (rec .ready)) = w1 := ⟨_, rfl⟩
  have hl1 : w1.heap[w.heap.size + 1]? = some (.loop (rec .ready)) := by
    rw [← hw1]; have := World.alloc_heap_new (w.alloc (.deferred (some []))) (.loop (rec .ready)); rwa [World.size_alloc] at this
  have hd1 : w1.heap[w.heap.size]? = some (.deferred (some [])) := by
    rw [← hw1]; exact (Below.heap_alloc _ _ _ (by simp)).trans (World.alloc_heap_new w _)
  have hb1 : Below w.heap.size w w1 := by
    rw [← hw1]; exact ((Below.refl _ w).alloc (Nat.le_refl _) _).alloc (by simp) _
  have hsz1 : w1.heap.size = w.heap.size + 2 := by rw [← hw1]; simp
  have hld : w.heap.size + 1 ≠ w.heap.size := by omega
  have s1 : Sim T w0 ρ (h ++ [resO (recA (w.heap.size + 1) w.heap.size (rec .ready))]) w1 := by
    have := hs.addRes hb1 (n := h.length) (hget_out _ _ (Nat.le_refl _)) (hf _ (Nat.le_refl _)) (A := recA (w.heap.size + 1) w.heap.size (rec .ready)) (F := fun k => k = w.heap.size + 1 ∨ k = w.heap.size) ⟨fun k => Iff.rfl, hl1, hd1⟩ (fun k hk => by rcases hk with rfl | rfl <;> omega)
    have e : ∀ (h : LHeap) (o : Option LObj), hset h h.length o = h ++ [o] := by
      intro h o
      induction h with
      | nil => rfl
      | cons x r ih => simp [hset, ih]
    rw [e] at this
    exact this
  have hf1 : ∀ i, (h ++ [resO (recA (w.heap.size + 1) w.heap.size (rec .ready))]).length ≤ i → ρ i = none := fun i hi => hf i (by simp at hi; omega)
  have hts : PVs ρ (lvsOf t) a.tmps.toList := lvsOf_PVs t _ (by rw [ht.1]; rfl) (fun i => by
    have := ht.2 i
    rw [Array.getD_eq_getD_getElem?] at this
    rw [List.getD_eq_getElem?_getD]
    simpa using this)
  have hc := hw.run (w.heap.size + 1) a.tmps.toList (recA (w.heap.size + 1) w.heap.size (rec .ready)) (recA (w.heap.size + 1) w.heap.size (rec .busy)) (recA (w.heap.size + 1) w.heap.size (rec .exhausted)) (fun j args ts h2 R hn hr => by
    subst hrec
    exact LRound.of_body (fn := fn) hla hlb hld (by rw [hn]; rfl) hr)
  refine ⟨w.heap.size + 1, [{ target := .collected w.heap.size, args := #[] }], w1, { target := .fn (.func f) cl.toArray, args := #[.func (.yield (w.heap.size + 1)) #[] #[]] }, w1, f, #[.func (.yield (w.heap.size + 1)) #[] #[]] ++ cl.toArray, w1, ?_, ?_, fun _ _ => trivial, ?_, fun h => (by cases h), ?_⟩
  · rw [← hw1, hrec]; exact run_enterLoop_outer _ _ _ _ _
  · simp only [resolve, hev, Sem.run_bind, Sem.run_pure, Result.andThen_ok, Deferred.ofValue]
    simp [Act.eval]
  · have := run_callFunc hc.has (#[.func (.yield (w.heap.size + 1)) #[] #[]] ++ cl.toArray) w1
    simpa [invoke] using this
  · have hargs : PVs ρ (.cons (.yld (w.heap.size + 1) a.tmps.toList (lvsOf t)) cap) (.func (.yield (w.heap.size + 1)) #[] #[] :: cl) := ⟨_, _, rfl, ⟨rfl, hts⟩, hcl⟩
    have := hc.run T w0 ρ w1 _ s1 hf1 hargs
    have e : (Value.func (.yield (w.heap.size + 1)) #[] #[] :: cl).toArray = #[.func (.yield (w.heap.size + 1)) #[] #[]] ++ cl.toArray := by simp
    rw [e] at this
    refine callsFW none _ (this.mono ?_)
    rintro e w2 ⟨r, h', ρ', ⟨⟨v, rfl⟩, q2, q3⟩, p1, p2, p3, p4, p5, p6⟩
    cases e <;> try exact p1.elim
    rw [hsetK_eq] at q3
    obtain ⟨g2, s2⟩ := putObj_rec (r' := rec .exhausted) p4 hld q2
    have hend := run_endLoop (P := P) g2 (by rw [hrec]; simp)
    rw [hrec] at hend
    refine ⟨_, _, hend, ?_⟩
    show X .normal _ _
    have hm : MarksPV ((h.length, recA (w.heap.size + 1) w.heap.size (rec .exhausted)) :: M) ({ target := .collected w.heap.size, args := #[] } :: a.defers) := MarksPV.cons ⟨_, _, _, hld, rfl, rfl⟩ hM
    refine hX _ { a with defers := [{ target := .collected w.heap.size, args := #[] }] ++ a.defers } _ ρ' _ hm ⟨ht.1, fun i => PV.ext p2 _ _ (ht.2 i)⟩ ⟨fun i hi => p3 i (by simp; omega), ?_, ?_, ?_, p2.r⟩ q3
    · rw [hrec] at s2; rw [hrec]; exact s2
    · intro i hi
      rw [hset_len _ _ _ (hget_lt q2)] at hi
      exact p5 i hi
    · rw [hset_len _ _ _ (hget_lt q2)]
      simp at p6
      omega
theorem plain_codeR {c : Code} {c' : LCode} (hc : compileC P c = some c')
    {L : Nat} {M : LMarks} {Q : LMarks → LExit → List LVal → LHeap → Prop} {ρ : Pl} {t : List LVal} {h : LHeap} {a : Act} {w : World} (hL : L ≤ h.length) (hs : Sim T w0 ρ h w) (hf : ∀ i, h.length ≤ i → ρ i = none) (ht : TSim ρ t a) (hD : MarksPV M a.defers) (hw : bwpR P L M (.code c') Q t h) : c.wpIn (FW none) 0 P (PQM T w0 ρ L Q) a w := by
  refine wpIn_mono (code_wp (κ := none) (D := a.defers) c c' hc hL hs hf ht rfl hw) ?_
  rintro e a' w' ⟨le, t', h', ρ', q1, q2, q3, q4, q5⟩
  exact ⟨M, le, t', h', ρ', q1, q2, q3, q4, by rw [q5]; exact hD⟩
theorem bodyR_wp : ∀ (c : Code) (b : LBodyR), compileBR P c = some b → ∀ {L : Nat} {M : LMarks} {Q : LMarks → LExit → List LVal → LHeap → Prop} {ρ : Pl} {t : List LVal} {h : LHeap} {a : Act} {w : World}, L ≤ h.length → Sim T w0 ρ h w → (∀ i, h.length ≤ i → ρ i = none) → TSim ρ t a → MarksPV M a.defers → bwpR P L M b Q t h → c.wpIn (FW none) 0 P (PQM T w0 ρ L Q) a w := by
  intro c
  induction c with
  | seq x y ihx ihy =>
    clear ihx
    intro b hb L M Q ρ t h a w hL hs hf ht hD hw
    simp only [compileBR] at hb
    split at hb
    · rename_i g ps asg body
      obtain ⟨g', h1, hb⟩ := withO_some hb
      obtain ⟨la, h2, hb⟩ := withO_some hb
      obtain ⟨lb, h3, hb⟩ := withO_some hb
      obtain ⟨b', h4, hb⟩ := withO_some hb
      cases hb
      refine wpIn_seq (range_wp h1 h2 h3 hL hs hf ht hD hw (fun M' a' w' ρ' h' k1 k2 k3 k4 => ?_))
      exact wpIn_mono (ihy b' h4 k3.len k3.sim k3.fresh k2 k1 k4) (fun e a w q => PQM.step k3 q)
    · obtain ⟨x', hx, hb⟩ := withO_some hb
      obtain ⟨b', hb', hb⟩ := withO_some hb
      cases hb
      refine wpIn_seq (wpIn_mono (code_wp (κ := none) (D := a.defers) x x' hx hL hs hf ht rfl hw) ?_)
      rintro e a' w' ⟨le, t', h', ρ', q1, q2, q3, q4, q5⟩
      have hD' : MarksPV M a'.defers := by rw [q5]; exact hD
      cases le <;> cases e <;> try exact q2.elim
      · exact wpIn_mono (ihy b' hb' q4.len q4.sim q4.fresh q3 hD' q1) (fun e a w q => PQM.step q4 q)
      · exact ⟨M, _, t', h', ρ', q1, q2, q3, q4, hD'⟩
      · exact ⟨M, _, t', h', ρ', q1, q2, q3, q4, hD'⟩
      · exact ⟨M, _, t', h', ρ', q1, q2, q3, q4, hD'⟩
  | rangeFunc g ps asg body _ _ =>
    intro b hb L M Q ρ t h a w hL hs hf ht hD hw
    simp only [compileBR] at hb
    obtain ⟨g', h1, hb⟩ := withO_some hb
    obtain ⟨la, h2, hb⟩ := withO_some hb
    obtain ⟨lb, h3, hb⟩ := withO_some hb
    cases hb
    refine range_wp h1 h2 h3 hL hs hf ht hD hw (fun M' a' w' ρ' h' k1 k2 k3 k4 => ?_)
    exact ⟨M', .normal, t, h', ρ', k4, trivial, k2, k3, k1⟩
  | _ =>
    intro b hb L M Q ρ t h a w hL hs hf ht hD hw
    obtain ⟨c', hc, hb⟩ := withO_some hb
    cases hb
    exact plain_codeR hc hL hs hf ht hD hw
theorem endR_leaves {fn : Func} {lr : List LRes} (hr : compileRes P fn.results.toList = some lr) : ∀ (M : LMarks) (ds : List Deferred) {ρ : Pl} {h : LHeap} {w : World} {u : LMode} {um : FrameMode} {t : List LVal} {a : Act} {R : LEnd → LHeap → Prop}, endR lr R M u t h → MarksPV M ds → ModePV ρ u um → Sim T w0 ρ h w → (∀ i, h.length ≤ i → ρ i = none) → TSim ρ t a →
    LeavesInM (FW none) 0 P fn a.tmps (fun e w' => ∃ r h' ρ', R r h' ∧ EndPV ρ' r e ∧ Ext ρ ρ' ∧ (∀ i, i < h.length → ρ' i = ρ i) ∧ Sim T w0 ρ' h' w' ∧ (∀ i, h'.length ≤ i → ρ' i = none) ∧ h.length ≤ h'.length) ds um w
  | [], ds, ρ, h, w, u, um, t, a, R, hE, hD, hm, hs, hf, ht => by
    cases hD
    cases u with
    | returning =>
      have : um = .returning := hm
      subst this
      obtain ⟨vs, l', r1, r2, r3⟩ := res_run hs ht _ _ hr hE
      obtain ⟨v, r4, r5⟩ := retK_spec r2 r1
      exact ⟨_, results_run r3, .ret v, h, ρ, r4, r5, Ext.refl ρ, fun _ _ => rfl, hs, hf, Nat.le_refl _⟩
    | panicking v =>
      obtain ⟨x, rfl, hx⟩ := hm
      exact ⟨.panic v, h, ρ, hE, ⟨x, rfl, hx⟩, Ext.refl ρ, fun _ _ => rfl, hs, hf, Nat.le_refl _⟩
  | (j, A) :: M, ds, ρ, h, w, u, um, t, a, R, hE, hD, hm, hs, hf, ht => by
    cases hD with
    | cons hd hD =>
      rename_i d ds
      obtain ⟨l, r, rec, hlr, rfl, hd⟩ := hd
      obtain ⟨hj, hE⟩ := hE
      rw [hsetK_eq] at hE
      obtain ⟨Fs, q⟩ := hs.res
      have hq := q.holds j _ _ hj rfl
      have s2 := (hs.reres (B := goneA l r) (w' := w.putObj r (.deferred none)) hj (fun F hF hlt => ⟨hF.1, fun k hk => World.putObj_heap_other (fun e => hk ((hF.1 k).2 (.inr e)))⟩) World.putObj_size rfl rfl rfl).kill j
      have e : hset (hset h j (resO (goneA l r))) j none = hset h j none := hset_hset h j _ _
      rw [e] at s2
      have hl := hset_len h j none (hget_lt hj)
      refine ⟨hm.ne, .inl ⟨r, _, hd, run_takeDeferred hq.2.2, ?_⟩⟩
      have := endR_leaves hr M ds hE hD hm s2 (fun i hi => hf i (by omega)) ht
      rw [hl] at this
      exact this
theorem bodyPostM_mono {fn : Func} {R R' : Ending → World → Prop} (hR : ∀ e w, R e w → R' e w) {tmps : Array Value} : ∀ (ds : List Deferred) (u : FrameMode) (w : World), (∀ d ∈ ds, ∃ r, d.target = .collected r) → LeavesInM (FW none) 0 P fn tmps R ds u w → LeavesInM (FW none) 0 P fn tmps R' ds u w
  | [], .returning, w, _, ⟨v, h1, h2⟩ => ⟨v, h1, hR _ _ h2⟩
  | [], .panicking chain, w, _, h => hR _ _ h
  | [], .run, _, _, h => h
  | d :: ds, u, w, hd, ⟨h1, h2⟩ => ⟨h1, by
      rcases h2 with ⟨r, w', a1, a2, a3⟩ | ⟨_, fv, cap, f, args, a1, _⟩
      · exact .inl ⟨r, w', a1, a2, bodyPostM_mono hR ds u w' (fun d hd' => hd d (List.mem_cons_of_mem _ hd')) a3⟩
      · obtain ⟨r, e⟩ := hd d List.mem_cons_self
        rw [a1] at e; cases e⟩
theorem MarksPV.mem : ∀ {M : LMarks} {ds : List Deferred}, MarksPV M ds → ∀ d ∈ ds, ∃ r, d.target = .collected r
  | _, [], _, d, hd => by cases hd
  | _, _ :: _, .cons ⟨l, r, rec, _, _, e⟩ h, d, hd => by
    rcases List.mem_cons.1 hd with rfl | hd
    · exact ⟨r, e⟩
    · exact MarksPV.mem h d hd
/-- A function whose body ranges over functions. -/
theorem LCalls.of_bodyR {f : FuncId} {fn : Func} {c : Code} {lb : LBodyR} {lr : List LRes} {args : LVals} {h : LHeap} {R : LEnd → LHeap → Prop} (hfn : P.funcs[f]? = some fn) (hb : fn.body = some c) (hhas : hasBody P f = true) (hc : compileBR P c = some lb) (hr : compileRes P fn.results.toList = some lr) (k : Nat) (hk : fn.ntmps - lvsLen args = k)
    (hw : initK args k fun t => bwpR P h.length [] lb (endQR lr R) t h) : LCalls P f args h R := by
  refine ⟨hhas, fun T w0 ρ w l hs hf hv => ?_⟩
  rw [initK_eq] at hw
  suffices hq : CallsIn (FW none) 0 P f l.toArray w _ from callsIn_wide.1 hq
  refine callsIn_of_wp_marks hfn hb trivial (wpIn_mono (bodyR_wp (T := T) (w0 := w0) (M := []) c lb hc (Nat.le_refl _) hs hf (init_TSim hv hk []) .nil hw) ?_)
  rintro e a w' ⟨D, le, t', h', ρ', q1, q2, q3, q4, q5⟩
  have hext := q4.ext hf
  have out : ∀ e' w'', (∃ r h'' ρ'', R r h'' ∧ EndPV ρ'' r e' ∧ Ext ρ' ρ'' ∧ (∀ i, i < h'.length → ρ'' i = ρ' i) ∧ Sim T w0 ρ'' h'' w'' ∧ (∀ i, h''.length ≤ i → ρ'' i = none) ∧ h'.length ≤ h''.length) →
      ∃ r h'' ρ'', R r h'' ∧ EndPV ρ'' r e' ∧ Ext ρ ρ'' ∧ (∀ i, i < h.length → ρ'' i = ρ i) ∧ Sim T w0 ρ'' h'' w'' ∧ (∀ i, h''.length ≤ i → ρ'' i = none) ∧ h.length ≤ h''.length := by
    rintro e' w'' ⟨r, h'', ρ'', s1, s2, s3, s4, s5, s6, s7⟩
    have := q4.len
    exact ⟨r, h'', ρ'', s1, s2, hext.trans s3, fun i hi => (s4 i (by omega)).trans (q4.keep i hi), s5, s6, by omega⟩
  cases le <;> cases e <;> try exact q2.elim
  · exact bodyPostM_mono out _ _ _ q5.mem (endR_leaves hr D a.defers q1 q5 rfl q4.sim q4.fresh q3)
  · exact q1.elim
  · exact bodyPostM_mono out _ _ _ q5.mem (endR_leaves hr D a.defers q1 q5 rfl q4.sim q4.fresh q3)
  · obtain ⟨x, rfl, hx⟩ := q2
    exact bodyPostM_mono out _ _ _ q5.mem (endR_leaves hr D a.defers q1 q5 ⟨x, rfl, hx⟩ q4.sim q4.fresh q3)
theorem LCalls.enterRg {f : FuncId} {fn : Func} {lb : LBodyR} {lr : List LRes} {args : LVals} {h : LHeap} {R : LEnd → LHeap → Prop} (hfn : P.funcs[f]? = some fn) (hb : fn.body.bind (compileBR P) = some lb) (hhas : hasBody P f = true) (hr : compileRes P fn.results.toList = some lr) (k : Nat) (hk : fn.ntmps - lvsLen args = k)
    (hw : initK args k fun t => bwpR P h.length [] lb (endQR lr R) t h) : LCalls P f args h R := by
  cases hc : fn.body with
  | none => rw [hc] at hb; cases hb
  | some c =>
    rw [hc] at hb
    exact LCalls.of_bodyR hfn hc hhas hb hr k hk hw
/-- A round's contract used: the places of its blocks, its arguments; what follows. -/
theorem LRound.use {l n : Nat} {tm : List Value} {args : LVals} {h : LHeap} {R : LEnd → LHeap → Prop} (c : LRound P l n tm args h R) (emb : List Nat) {H : LHeap} {vs : LVals} {K X : LVal → LHeap → Prop} (hap : apart H.length emb = true) (hv : vs = rens (embF emb H.length) args) (he : Emb (embF emb H.length) H emb h)
    (hk : ∀ r h', R r h' → graftK (embF emb H.length) H 0 h' fun H' => match r with
      | .ret v => renK (embF emb H.length) v fun v => K v H'
      | .panic v => renK (embF emb H.length) v fun v => X v H') : roundK P l n tm vs H K X := by
  subst hv
  refine (c.frame emb hap he).mono ?_
  rintro e H' ⟨r, h', h1, rfl, rfl⟩
  have := hk r h' h1
  rw [graftK_eq] at this
  cases r with
  | ret v => simp only [renK_eq] at this; exact this
  | panic v => simp only [renK_eq] at this; exact this
end
end Go.Proofs.Ytilmfhpoiejmfaa.Lh
