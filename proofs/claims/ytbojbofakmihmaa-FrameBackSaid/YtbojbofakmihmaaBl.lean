/- strings.Builder on the heap of the mind. By this session. -/
import Derived.Test.YtbojbofakmihmaaBb
import Derived.Test.YtbojbofakmihmaaBc
namespace Go.Proofs.Ytbojbofakmihmaa.Bk
open Go.Proofs.Ytbojbofakmihmaa.Lh Go.RowKit
set_option maxRecDepth 100000
set_option linter.unusedSimpArgs false
set_option linter.unusedSectionVars false
set_option linter.unusedVariables false
variable [Fz]
abbrev Bs := List UInt8
def bs (l : Bs) : ByteArray := ⟨⟨l⟩⟩
def bytesO (l : Bs) : Option LObj := some ⟨.rows l.length 1 (byteSeg (bs l)) .nil, 5, true, false⟩
def adV : Bool → LVal
  | true => .ptr ⟨0, [], 0⟩
  | false => .nilp
def bO (used : Bool) (buf : LVal) : Option LObj := some ⟨.one (adV used) (.one buf .nil), 110, false, false⟩
def bufVk (k : Nat) (l : Bs) : LVal := .slice ⟨k, [], 0⟩ 0 1 l.length l.length none
def bufV (l : Bs) : LVal := bufVk 1 l
def bldH (used : Bool) (l : Bs) : LHeap := [bO used (bufV l), bytesO l]
section
variable {T : Nat → Nat → Prop} {w0 : World}
/-- A block is known no more; it may be turned. -/
theorem Sim.lose {ρ : Pl} {h : LHeap} {w w' : World} (s : Sim T w0 ρ h w) {n : Nat} {o : LObj} (ho : hget h n = some o) (hro : o.ro = false) {g b m : Nat} (hp : ρ n = some (g, b, m)) (hk : ∀ k, k ≠ g → w'.heap[k]? = w.heap[k]?) (hsz : w'.heap.size = w.heap.size) (e1 : w'.os = w.os) (e2 : w'.tape = w.tape) (e3 : w'.output = w.output) : Sim T w0 ρ (hset h n none) w' := by
  have hT : T 0 g := by
    rcases s.obj n o ho with ⟨g', b', n', ob, h1, h2, h3, h4⟩ | ⟨h1, _⟩
    · rw [hp] at h1; cases h1; rw [hro] at h4; exact h4
    · rw [hp] at h1; cases h1
  have hnf : ρ.fz g = none := s.nofz n o g b m ho hro hp
  have back : ∀ i oi, hget (hset h n none) i = some oi → i ≠ n ∧ hget h i = some oi := by
    intro i o hi
    rw [hget_hset] at hi
    by_cases c : i = n
    · rw [if_pos c] at hi; cases hi
    · rw [if_neg c] at hi; exact ⟨c, hi⟩
  refine ⟨fun i oi hi => ?_, fun i j oi oj g1 b1 n1 b2 n2 hi hj => s.inj i j oi oj g1 b1 n1 b2 n2 (back _ _ hi).2 (back _ _ hj).2, fun i g1 b1 n1 h1 => by rw [hsz]; exact s.lt i g1 b1 n1 h1, e1.trans s.os, e2.trans s.tape, e3.trans s.output, by rw [hsz]; exact s.size, fun k hk' => ?_, s.new, s.apart, fun k ob hk' => ?_, s.fzT, fun i oi g1 b1 n1 hi => s.nofz i oi g1 b1 n1 (back _ _ hi).2, s.glob, s.tks, ?_⟩
  · obtain ⟨c, hi⟩ := back i oi hi
    rcases s.obj i oi hi with ⟨g', b', n', ob, h1, h2, h3, h4⟩ | h1
    · refine .inl ⟨g', b', n', ob, h1, ?_, h3, h4⟩
      rw [hk g' (by intro e; subst e; exact c (s.inj i n oi o g' b' n' b m hi ho h1 hp hT))]
      exact h2
    · exact .inr h1
  · rw [hk k (by intro e; subst e; exact hk' hT)]
    exact s.kept k hk'
  · rw [hk k (by intro e; subst e; rw [hnf] at hk'; cases hk')]
    exact s.fz k ob hk'
  · obtain ⟨Fs, r⟩ := s.res
    refine ⟨Fs, r.keep (.refl _) (by rw [hsz]; exact Nat.le_refl _) (fun i oi A hi _ => (back _ _ hi).2) (fun i oi A k hi hA hk' => ?_) (fun i j oi oj A g1 b1 n1 hi hA hi0 hj h1 => r.off i j oi oj A g1 b1 n1 hi0 hA (back _ _ hj).2 h1)⟩
    obtain ⟨_, h2, h3⟩ := r.mine i oi A k hi hA hk'
    exact ⟨hk k (by intro c; subst c; exact r.off i n oi o A k b m hi hA ho hp hk'), h2, by rw [hsz]; exact h3⟩
end
/-- The builder's cells. -/
theorem bO_at {T : Nat → Nat → Prop} {w0 : World} {ρ : Pl} {w : World} {u : Bool} {buf : LVal} {o1 : Option LObj} (s : Sim T w0 ρ [bO u buf, o1] w) : ∃ g m x y fr, ρ 0 = some (g, 0, m) ∧ w.heap[g]? = some (.cells #[x, y] 110 fr) ∧ PV ρ (adV u) x ∧ PV ρ buf y ∧ notAgg y ∧ m = 2 ∧ unfrozen fr 2 := by
  rcases s.obj 0 _ rfl with ⟨g, b, n, ob, h1, h2, h3, h4⟩ | ⟨_, h2⟩
  · obtain ⟨pre, l, ex, fr, q1, q2, q3, q4, q5, q6⟩ := h3
    obtain ⟨rfl, rfl⟩ := q3 rfl
    obtain ⟨x, l', rfl, a1, a2, a3⟩ := q2
    obtain ⟨y, l'', rfl, a4, a5, a6⟩ := a3
    have a6 : l'' = [] := a6
    subst a6
    subst q1
    have : b = 0 := by rw [← q4]; rfl
    subst this
    refine ⟨g, n, x, y, fr, h1, by simpa using h2, a1, a4, a5, by rw [q5]; rfl, by simpa using q6 rfl⟩
  · rcases h2 with h2 | ⟨h2, _⟩
    · obtain ⟨x, l', e, _⟩ := h2; cases e
    · cases h2
theorem CopyCheck (u : Bool) (buf : LVal) (o1 : Option LObj) : LCalls Try.prog 94 (.cons (.ptr ⟨0, [], 0⟩) .nil) [bO u buf, o1] (fun e h' => e = .ret .undef ∧ h' = [bO true buf, o1]) := by
  refine ⟨by kernel_rfl, fun T w0 ρ w l hs hf hv => ?_⟩
  obtain ⟨p, l', rfl, ⟨g', b', n', hp, rfl⟩, hl'⟩ := hv
  have hl' : l' = [] := hl'
  subst hl'
  obtain ⟨g, m, x, y, fr, h1, h2, h3, h4, h5, h6, h7⟩ := bO_at hs
  obtain ⟨e1, e2⟩ := Prod.mk.inj (Option.some.inj (h1.symm.trans hp))
  obtain ⟨e3, e4⟩ := Prod.mk.inj e2
  subst e1 e3 e4
  have e0 : (0 : Nat) + LAddr.cell ⟨0, [], 0⟩ = 0 := rfl
  rw [e0]
  cases u with
  | true =>
    obtain ⟨g2, b2, n2, hp2, hx⟩ := h3
    obtain ⟨e1, e2⟩ := Prod.mk.inj (Option.some.inj (h1.symm.trans hp2))
    obtain ⟨e3, e4⟩ := Prod.mk.inj e2
    subst e1 e3 e4
    rw [e0] at hx
    refine (Bb.copyCheck_used g w (by simp [World.cell?, h2, hx])).mono ?_
    rintro e w' ⟨rfl, rfl⟩
    exact ⟨.ret .undef, _, ρ, ⟨rfl, rfl⟩, rfl, Ext.refl ρ, fun _ _ => rfl, hs, hf, Nat.le_refl _⟩
  | false =>
    have hx : x = .pointer none := h3
    have hfz : w.frozen? ⟨g, 0, none⟩ = false := by
      have := h7 0 (by omega)
      simp only [World.frozen?, h2]
      simpa using this
    refine (Bb.copyCheck_fresh g w (by simp [World.cell?, h2, hx]) (by simp [World.shape?, h2]) hfz).mono ?_
    rintro e w' ⟨rfl, rfl⟩
    have hlt : g < w.heap.size := (Array.getElem?_eq_some_iff.1 h2).1
    have hg' : (w.setCell ⟨g, 0, none⟩ (.pointer (some ⟨g, 0, none⟩))).heap[g]? = some (.cells #[.pointer (some ⟨g, 0, none⟩), y] 110 fr) := by
      have he : w.heap[g] = .cells #[x, y] 110 fr := (Array.getElem?_eq_some_iff.1 h2).2
      show (w.heap.modify g _)[g]? = _
      rw [Array.getElem?_eq_getElem (by rw [Array.size_modify]; exact hlt), Array.getElem_modify_self, he]
      rfl
    refine ⟨.ret .undef, _, ρ, ⟨rfl, rfl⟩, rfl, Ext.refl ρ, fun _ _ => rfl, ?_, hf, Nat.le_refl _⟩
    refine hs.turn (n := 0) (o := (bO false buf).get rfl) (o' := (bO true buf).get rfl) rfl rfl rfl h1 (ob' := .cells #[.pointer (some ⟨g, 0, none⟩), y] 110 fr) ?_ hg' (by simp [World.setCell]) (fun k hk => ?_) rfl rfl rfl
    · refine ⟨[], [.pointer (some ⟨g, 0, none⟩), y], [], fr, rfl, ⟨_, _, rfl, ⟨g, 0, m, h1, rfl⟩, rfl, _, _, rfl, h4, h5, rfl⟩, fun _ => ⟨rfl, rfl⟩, rfl, by rw [h6]; rfl, fun _ => h7⟩
    · exact Below.heap_setCell _ _ _ k hk
theorem bs_size (l : Bs) : (bs l).size = l.length := rfl
theorem shS_ite {k : Nat} {F : Fzl} {p : Prop} [Decidable p] {x y z : Segs} (hx : p → shS k F x z) (hy : ¬ p → shS k F y z) : shS k F (if p then x else y) z := by
  split
  · exact hx ‹_›
  · exact hy ‹_›
theorem byteSeg_app (l t : Bs) (i : Nat) : shS 1000000 [] (if i < l.length then byteSeg (bs l) (0 + i) else byteSeg (bs t) (i - l.length)) (byteSeg (bs (l ++ t)) i) := by
  refine shS_ite (fun c => ?_) (fun c => ?_)
  · refine ⟨⟨rfl, ?_⟩, trivial⟩
    show (((l.getD (0 + i) 0).toNat : Nat) : Int) = ((((l ++ t).getD i 0).toNat : Nat) : Int)
    rw [Nat.zero_add, List.getD_eq_getElem?_getD, List.getD_eq_getElem?_getD, List.getElem?_append_left c]
  · refine ⟨⟨rfl, ?_⟩, trivial⟩
    show (((t.getD (i - l.length) 0).toNat : Nat) : Int) = ((((l ++ t).getD i 0).toNat : Nat) : Int)
    rw [List.getD_eq_getElem?_getD, List.getD_eq_getElem?_getD, List.getElem?_append_right (by omega)]
theorem WriteString (u : Bool) (l t : Bs) (hb : l.length + t.length ≤ 140737488351232) : LCalls Try.prog 72 (.cons (.ptr ⟨0, [], 0⟩) (.cons (.str (bs t)) .nil)) (bldH u l) (fun e h' => e = .ret (.tup (.cons (.int .i64 t.length) (.cons .nilI .nil))) ∧ h' = [bO true (bufVk 2 (l ++ t)), none, bytesO (l ++ t)]) := by
  cases u
  · refine LCalls.tell ?_; refine enter72 rfl ?_; conv => whnf
    refine LCalls.use (CopyCheck false (bufV l) (bytesO l)) [0, 1] rfl rfl ⟨rfl, rfl, trivial⟩ ?_; rintro _ _ ⟨rfl, rfl⟩; conv => whnf
    refine ⟨⟨by omega, by rw [bs_size]; omega, by rw [bs_size]; omega⟩, ?_⟩
    conv => whnf
    refine ⟨[0, 1, 2], _, _, rfl, rfl, ?_, ?_, rfl, rfl⟩
    · (repeat' first | exact trivial | exact rfl | exact Nat.le_of_ble_eq_true rfl | exact Nat.le_refl _ | exact .inl ⟨rfl, rfl, rfl, rfl, Nat.le_refl _, Nat.le_refl _, .inr rfl, Nat.le_of_ble_eq_true rfl⟩ | exact .inl ⟨rfl, rfl, rfl, rfl, Nat.le_refl _, Nat.le_refl _, .inl rfl, Nat.le_of_ble_eq_true rfl⟩ | exact .inr ⟨rfl, rfl, rfl, rfl, rfl⟩ | exact .inl ⟨rfl, rfl, rfl, (by first | omega | (simp; done) | (simp; omega)), (by first | omega | (simp; done) | (simp; omega)), (by first | omega | (simp; done) | (simp; omega)), .inr rfl, Nat.le_of_ble_eq_true rfl⟩ | exact .inl ⟨rfl, rfl, rfl, (by first | omega | (simp; done) | (simp; omega)), (by first | omega | (simp; done) | (simp; omega)), (by first | omega | (simp; done) | (simp; omega)), .inl rfl, Nat.le_of_ble_eq_true rfl⟩ | exact fun h => h | refine ⟨?_, ?_, ?_, .inl ?_⟩ | refine ⟨?_, ?_⟩ | refine fun ii hii => ?_ | omega | fail)
    · (repeat' first | exact trivial | exact rfl | exact Nat.le_of_ble_eq_true rfl | exact Nat.le_refl _ | exact .inl ⟨rfl, rfl, rfl, rfl, Nat.le_refl _, Nat.le_refl _, .inr rfl, Nat.le_of_ble_eq_true rfl⟩ | exact .inl ⟨rfl, rfl, rfl, rfl, Nat.le_refl _, Nat.le_refl _, .inl rfl, Nat.le_of_ble_eq_true rfl⟩ | exact .inr ⟨rfl, rfl, rfl, rfl, rfl⟩ | exact .inl ⟨rfl, rfl, rfl, (by first | omega | (simp; done) | (simp; omega)), (by first | omega | (simp; done) | (simp; omega)), (by first | omega | (simp; done) | (simp; omega)), .inr rfl, Nat.le_of_ble_eq_true rfl⟩ | exact .inl ⟨rfl, rfl, rfl, (by first | omega | (simp; done) | (simp; omega)), (by first | omega | (simp; done) | (simp; omega)), (by first | omega | (simp; done) | (simp; omega)), .inl rfl, Nat.le_of_ble_eq_true rfl⟩ | exact fun h => h | refine ⟨?_, ?_, ?_, .inl ?_⟩ | refine ⟨?_, ?_⟩ | refine fun ii hii => ?_ | omega | fail)
      all_goals first
        | exact byteSeg_app l t _
        | (rw [bs_size]; simp; done)
        | exact .inl ⟨rfl, rfl, rfl, by rw [bs_size]; simp, by simp, by rw [bs_size]; simp, .inl rfl, Nat.le_of_ble_eq_true rfl⟩
  · refine LCalls.tell ?_; refine enter72 rfl ?_; conv => whnf
    refine LCalls.use (CopyCheck true (bufV l) (bytesO l)) [0, 1] rfl rfl ⟨rfl, rfl, trivial⟩ ?_; rintro _ _ ⟨rfl, rfl⟩; conv => whnf
    refine ⟨⟨by omega, by rw [bs_size]; omega, by rw [bs_size]; omega⟩, ?_⟩
    conv => whnf
    refine ⟨[0, 1, 2], _, _, rfl, rfl, ?_, ?_, rfl, rfl⟩
    · (repeat' first | exact trivial | exact rfl | exact Nat.le_of_ble_eq_true rfl | exact Nat.le_refl _ | exact .inl ⟨rfl, rfl, rfl, rfl, Nat.le_refl _, Nat.le_refl _, .inr rfl, Nat.le_of_ble_eq_true rfl⟩ | exact .inl ⟨rfl, rfl, rfl, rfl, Nat.le_refl _, Nat.le_refl _, .inl rfl, Nat.le_of_ble_eq_true rfl⟩ | exact .inr ⟨rfl, rfl, rfl, rfl, rfl⟩ | exact .inl ⟨rfl, rfl, rfl, (by first | omega | (simp; done) | (simp; omega)), (by first | omega | (simp; done) | (simp; omega)), (by first | omega | (simp; done) | (simp; omega)), .inr rfl, Nat.le_of_ble_eq_true rfl⟩ | exact .inl ⟨rfl, rfl, rfl, (by first | omega | (simp; done) | (simp; omega)), (by first | omega | (simp; done) | (simp; omega)), (by first | omega | (simp; done) | (simp; omega)), .inl rfl, Nat.le_of_ble_eq_true rfl⟩ | exact fun h => h | refine ⟨?_, ?_, ?_, .inl ?_⟩ | refine ⟨?_, ?_⟩ | refine fun ii hii => ?_ | omega | fail)
    · (repeat' first | exact trivial | exact rfl | exact Nat.le_of_ble_eq_true rfl | exact Nat.le_refl _ | exact .inl ⟨rfl, rfl, rfl, rfl, Nat.le_refl _, Nat.le_refl _, .inr rfl, Nat.le_of_ble_eq_true rfl⟩ | exact .inl ⟨rfl, rfl, rfl, rfl, Nat.le_refl _, Nat.le_refl _, .inl rfl, Nat.le_of_ble_eq_true rfl⟩ | exact .inr ⟨rfl, rfl, rfl, rfl, rfl⟩ | exact .inl ⟨rfl, rfl, rfl, (by first | omega | (simp; done) | (simp; omega)), (by first | omega | (simp; done) | (simp; omega)), (by first | omega | (simp; done) | (simp; omega)), .inr rfl, Nat.le_of_ble_eq_true rfl⟩ | exact .inl ⟨rfl, rfl, rfl, (by first | omega | (simp; done) | (simp; omega)), (by first | omega | (simp; done) | (simp; omega)), (by first | omega | (simp; done) | (simp; omega)), .inl rfl, Nat.le_of_ble_eq_true rfl⟩ | exact fun h => h | refine ⟨?_, ?_, ?_, .inl ?_⟩ | refine ⟨?_, ?_⟩ | refine fun ii hii => ?_ | omega | fail)
      all_goals first
        | exact byteSeg_app l t _
        | (rw [bs_size]; simp; done)
        | exact .inl ⟨rfl, rfl, rfl, by rw [bs_size]; simp, by simp, by rw [bs_size]; simp, .inl rfl, Nat.le_of_ble_eq_true rfl⟩
/-- The bytes, as a text: the buffer is given away. -/
theorem BString (u : Bool) (l : Bs) (h0 : l ≠ []) (hlen : l.length ≤ 140737488351232) : LCalls Try.prog 73 (.cons (.ptr ⟨0, [], 0⟩) .nil) (bldH u l) (fun e h' => e = .ret (.str (bs l)) ∧ h' = [bO u (bufV l), none]) := by
  refine ⟨by kernel_rfl, fun T w0 ρ w l' hs hf hv => ?_⟩
  obtain ⟨p, l', rfl, ⟨g', b', n', hp, rfl⟩, hl'⟩ := hv
  have hl' : l' = [] := hl'
  subst hl'
  obtain ⟨g, m, x, y, fr, h1, h2, h3, h4, h5, h6, h7⟩ := bO_at hs
  obtain ⟨e1, e2⟩ := Prod.mk.inj (Option.some.inj (h1.symm.trans hp))
  obtain ⟨e3, e4⟩ := Prod.mk.inj e2
  subst e1 e3 e4
  have e0 : (0 : Nat) + LAddr.cell ⟨0, [], 0⟩ = 0 := rfl
  rw [e0]
  have hl0 : l.length ≠ 0 := by simpa using h0
  obtain ⟨q, cap, rfl, ⟨c, _⟩ | ⟨k, o, c, hp1, rfl, c1, c2, _, c3⟩⟩ := h4
  · exact absurd c hl0
  have e5 : o + (LAddr.cell ⟨1, [], 0⟩ + 0 * 1) = o := rfl
  rw [e5] at h2
  rcases hs.obj 1 _ rfl with ⟨k2, o2, c', ob, a1, a2, a3, a4⟩ | ⟨a1, _⟩
  rotate_left
  · rw [hp1] at a1; cases a1
  obtain ⟨e6, e7⟩ := Prod.mk.inj (Option.some.inj (hp1.symm.trans a1))
  obtain ⟨e8, e9⟩ := Prod.mk.inj e7
  subst e6 e8 e9
  obtain ⟨pre, lc, ex, fr2, rfl, q2, q3, q4, q5, q6⟩ := a3
  obtain ⟨d1, d2, rfl, hd, hd2⟩ := rows_chunks q2
  have hd2 : d2 = [] := hd2
  subst hd2 q4
  have hcell : ∀ j x, l[j]? = some x → w.cell? ((⟨k, pre.length, none⟩ : Addr).add j) = some (.int .u8 x.toNat) := by
    intro j x hx
    have hj : j < l.length := (List.getElem?_eq_some_iff.1 hx).1
    obtain ⟨v, l2, e, hv, _, _⟩ := hd.2 j hj
    have hv : v = _ := hv
    have e10 : d1[j]? = some v := by
      have := congrArg (fun z => z[0]?) e
      simp only [Nat.mul_one, List.getElem?_take_of_lt (show 0 < 1 by omega), List.getElem?_drop, Nat.add_zero, List.getElem?_cons_zero] at this
      exact this
    rw [Addr.add_mid, cell_at a2 (l1 := pre) (l2 := d1 ++ ex) (by simp) j, List.getElem?_append_left (List.getElem?_eq_some_iff.1 e10).1, e10, hv]
    congr 3
    show (l.getD j 0).toNat = _
    rw [List.getD_eq_getElem?_getD, hx]; rfl
  have hd1 := hd.1
  refine (Bb.string_at g k pre.length cap x l w fr fr2 _ h0 h2 a2 (by omega) (by simp; omega) hlen hcell).mono ?_
  rintro e w' ⟨rfl, rfl⟩
  refine ⟨.ret (.str (bs l)), _, ρ, ⟨rfl, rfl⟩, rfl, Ext.refl ρ, fun _ _ => rfl, ?_, hf, Nat.le_refl _⟩
  refine Sim.lose (h := bldH u l) (n := 1) hs (o := (bytesO l).get rfl) rfl rfl hp1 (fun k' hk' => ?_) ?_ ?_ ?_ ?_
  all_goals unfold World.freeze; split
  all_goals try rfl
  · show (w.heap.modify k _)[k']? = _
    simp [Array.getElem?_modify, Ne.symm hk']
  · show (w.heap.modify k _).size = _
    rw [Array.size_modify]
end Go.Proofs.Ytbojbofakmihmaa.Bk
