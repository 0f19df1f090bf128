/- Slices: cut, made, grown, copied. Over any program. -/
import Derived.Test.YtilmfhpoiejmfaaLh5
namespace Go.Proofs.Ytilmfhpoiejmfaa.Lh
set_option linter.unusedSimpArgs false
set_option linter.unusedVariables false
set_option linter.unusedSectionVars false
open Go.RowKit
variable [Fz]
section
variable {ρ : Pl} {w : Nat}
theorem chunks_sub {n st m : Nat} {f : Nat → Segs} {l : List Value} (h : Chunks ρ w n f l) (hm : st + m ≤ n) : Chunks ρ w m (fun i => f (st + i)) ((l.drop (st * w)).take (m * w)) := by
  have e : (st + m) * w ≤ n * w := Nat.mul_le_mul_right w hm
  rw [Nat.add_mul] at e
  refine ⟨by simp only [List.length_take, List.length_drop, h.1]; omega, fun i hi => ?_⟩
  have := h.2 (st + i) (by omega)
  have e2 := mul_lt w hi
  rw [List.drop_take, List.drop_drop, List.take_take, Nat.min_eq_left (by omega)]
  rw [Nat.add_mul] at this
  exact this
theorem chunks_append {n m : Nat} {f g : Nat → Segs} {l l' : List Value} (h : Chunks ρ w n f l) (h' : Chunks ρ w m g l') : Chunks ρ w (n + m) (fun i => if i < n then f i else g (i - n)) (l ++ l') := by
  refine ⟨by rw [List.length_append, h.1, h'.1, Nat.add_mul], fun i hi => ?_⟩
  by_cases c : i < n
  · have e := mul_lt w c
    show PS ρ (if i < n then f i else g (i - n)) _
    rw [if_pos c, List.drop_append_of_le_length (by rw [h.1]; omega), List.take_append_of_le_length (by rw [List.length_drop, h.1]; omega)]
    exact h.2 i c
  · show PS ρ (if i < n then f i else g (i - n)) _
    have e : i * w = n * w + (i - n) * w := by rw [← Nat.add_mul]; congr 1; omega
    rw [if_neg c, e, ← h.1, List.drop_length_add_append]
    exact h'.2 (i - n) (by omega)
theorem chunks_congr {n : Nat} {f g : Nat → Segs} {l : List Value} (h : Chunks ρ w n f l) (e : ∀ i, i < n → f i = g i) : Chunks ρ w n g l := ⟨h.1, fun i hi => by rw [← e i hi]; exact h.2 i hi⟩
theorem chunks_over {n k m : Nat} {f g : Nat → Segs} {l l' : List Value} (h : Chunks ρ w n f l) (h' : Chunks ρ w m g l') (hk : k + m ≤ n) :
    Chunks ρ w n (fun j => if k ≤ j ∧ j < k + m then g (j - k) else f j) (l.take (k * w) ++ l' ++ l.drop (k * w + m * w)) := by
  have e : (k + m) * w ≤ n * w := Nat.mul_le_mul_right w hk
  rw [Nat.add_mul] at e
  have h1 : Chunks ρ w k f (l.take (k * w)) := by
    have := chunks_sub (st := 0) (m := k) h (by omega)
    simp only [Nat.zero_mul, List.drop_zero, Nat.zero_add] at this
    exact this
  have h3 : Chunks ρ w (n - (k + m)) (fun i => f (k + m + i)) (l.drop (k * w + m * w)) := by
    have := chunks_sub (st := k + m) (m := n - (k + m)) h (by omega)
    rw [Nat.add_mul, List.take_of_length_le] at this
    · exact this
    · rw [List.length_drop, h.1, Nat.sub_mul, Nat.add_mul]; omega
  have h4 := chunks_append (chunks_append h1 h') h3
  rw [show k + m + (n - (k + m)) = n by omega] at h4
  refine chunks_congr h4 (fun i hi => ?_)
  by_cases c1 : i < k
  · rw [if_pos (by omega), if_pos c1, if_neg (by omega)]
  · by_cases c2 : i < k + m
    · rw [if_pos c2, if_neg c1, if_pos (by omega)]
    · rw [if_neg c2, if_neg (by omega)]
      congr 1; omega
theorem chunks_const {n : Nat} {z : Segs} {l : List Value} (hz : PS ρ z l) (hl : l.length = w) : Chunks ρ w n (fun _ => z) (List.replicate n l).flatten := by
  induction n with
  | zero => exact ⟨by simp, fun i hi => by omega⟩
  | succ n ih =>
    have h1 : Chunks ρ w 1 (fun _ => z) l := ⟨by omega, fun i hi => by
      have : i = 0 := by omega
      subst this
      rw [Nat.zero_mul, List.drop_zero, List.take_of_length_le (by omega)]; exact hz⟩
    have := chunks_append h1 ih
    rw [List.replicate_succ, List.flatten_cons, Nat.add_comm n 1]
    exact chunks_congr this (fun i _ => by split <;> rfl)
theorem madeCells_eq (z : Array Value) (n : Nat) : (madeCells z (n * z.size)).toList = (List.replicate n z.toList).flatten := by
  induction n with
  | zero => simp [madeCells]
  | succ n ih =>
    have e : (n + 1) * z.size = n * z.size + z.size := by rw [Nat.add_mul]; omega
    rw [List.replicate_succ', List.flatten_append, ← ih, e]
    unfold madeCells
    simp only [Array.toList_map, Array.toList_range, List.range_add, List.map_append, List.map_map, List.flatten_cons, List.flatten_nil, List.append_nil]
    congr 1
    apply List.ext_getElem?
    intro i
    rw [List.getElem?_map]
    by_cases hi : i < z.size
    · rw [List.getElem?_range hi]
      simp only [Option.map_some, Function.comp, Array.getElem?_toList]
      rw [Nat.mul_add_mod_self_right, Nat.mod_eq_of_lt hi, Array.getElem?_eq_getElem hi]
      simp [getElem!_pos, hi]
    · rw [List.getElem?_eq_none (by simpa using hi), Array.getElem?_toList, Array.getElem?_eq_none (by omega)]
      rfl
end
section
variable {T : Nat → Nat → Prop} {w0 : World} {ρ : Pl} {h : LHeap} {w : World} {t : List LVal} {a : Act} {Φ : LVal → List (Nat × Option LObj) → Option LObj → Prop} {P : Program} {n : Nat}
def optNat (x : Option LVal) (d : Nat) (K : Nat → Rd) : Rd :=
  match x with
  | none => K d
  | some v => match v with
    | .int _ i => .need (0 ≤ i) (K i.toNat)
    | _ => .fail
def OptPV (ρ : Pl) : Option LVal → Option Value → Prop
  | none, none => True
  | some v, some x => PV ρ v x
  | _, _ => False
theorem optNat_wp {x : Option LVal} {X : Option Value} {d : Nat} {K : Nat → Rd} (hx : OptPV ρ x X) (hw : (optNat x d K).wp t h Φ) :
    ∃ j, (K j).wp t h Φ ∧ ∀ (y : Nat) (c : BoundsCode), j ≤ y → (X = none ∧ j = d) ∨ (∃ v, X = some v ∧ (Instr.sliceBound v y c).run P w = .ok j w) := by
  cases x with
  | none =>
    cases X with
    | none => exact ⟨d, hw, fun _ _ _ => .inl ⟨rfl, rfl⟩⟩
    | some X => exact hx.elim
  | some v =>
    cases X with
    | none => exact hx.elim
    | some X =>
      cases v <;> try exact hw.elim
      rename_i k i
      obtain ⟨h0, hw⟩ := hw
      have e : X = .int k i := hx
      subst e
      refine ⟨i.toNat, hw, fun y c hy => .inr ⟨_, rfl, ?_⟩⟩
      have : 0 ≤ i ∧ i ≤ (y : Int) := ⟨h0, by omega⟩
      simp [Instr.sliceBound, asIntOf, this]
/-- A slice's end is told. -/
def subHi (h : Option Nat) (i : Nat) (K : Option Nat → Rd) : Rd :=
  match h with
  | none => K none
  | some c => K (some (c - i))
theorem subHi_wp {c : Option Nat} {i : Nat} {K : Option Nat → Rd} (hw : (subHi c i K).wp t h Φ) : ∃ c', (K c').wp t h Φ ∧ ∀ cap, (∀ x, c = some x → cap ≤ x) → ∀ x, c' = some x → cap - i ≤ x := by
  cases c with
  | none => exact ⟨none, hw, fun _ _ _ e => by cases e⟩
  | some c => exact ⟨_, hw, fun cap hc x e => by cases e; have := hc c rfl; omega⟩
def slStrRd (lo hi : Option LVal) : LVal → Rd
  | .str s => optNat hi s.size fun j => optNat lo 0 fun i => .need (i ≤ j ∧ j ≤ s.size) (one (.str (s.extract i j)))
  | _ => .fail
def slSlRd (w : Nat) (lo hi : Option LVal) : LVal → Rd
  | .slice p st w' len l0 h0 => match Nat.beq w w' with
    | false => .fail
    | true => optNat hi len fun j => match lo with
      | none => .need (j ≤ l0) (one (.slice p st w j l0 h0))
      | some v => optNat (some v) 0 fun i => .need (i ≤ j ∧ j ≤ l0) (subHi h0 i fun c => one (.slice p (st + i) w (j - i) (l0 - i) c))
  | .rsl n w' f => match Nat.beq w w' with
    | false => .fail
    | true => optNat hi n fun j => match lo with
      | none => .need (j ≤ n) (one (.rsl j w f))
      | some v => optNat (some v) 0 fun i => .need (i ≤ j ∧ j ≤ n) (one (.rsl (j - i) w (fun k => f (i + k))))
  | _ => .fail
theorem bounds2 {isSlice : Bool} {len cap : Nat} {lo hi : Option Value} {i j : Nat} (hj : ∀ y c, j ≤ y → (hi = none ∧ j = len) ∨ (∃ v, hi = some v ∧ (Instr.sliceBound v y c).run P w = .ok j w)) (hi' : ∀ y c, i ≤ y → (lo = none ∧ i = 0) ∨ (∃ v, lo = some v ∧ (Instr.sliceBound v y c).run P w = .ok i w)) (h1 : i ≤ j) (h2 : j ≤ cap) :
    (Instr.sliceBounds isSlice len cap lo hi none).run P w = .ok (i, j, cap) w := by
  rcases hj cap (if isSlice then .sliceAcap else .sliceAlen) h2 with ⟨rfl, rfl⟩ | ⟨v, rfl, e1⟩
  · rcases hi' j .sliceB h1 with ⟨rfl, rfl⟩ | ⟨u, rfl, e2⟩
    · simp [Instr.sliceBounds]
    · simp [Instr.sliceBounds, e2]
  · rcases hi' j .sliceB h1 with ⟨rfl, rfl⟩ | ⟨u, rfl, e2⟩
    · simp [Instr.sliceBounds, e1]
    · simp [Instr.sliceBounds, e1, e2]
theorem slStr_sound (ty : TypeId) (X : Operand) (L H : Option Operand) (o : Oper) (ho : o.op = .slice ty X L H none) (hd : P.underlying ty = some .string) (hs : Sim T w0 ρ h w) {v : LVal} {lo hi : Option LVal} (hv : PV ρ v (a.eval X)) (hl : OptPV ρ lo (L.map a.eval)) (hh : OptPV ρ hi (H.map a.eval)) (hw : (slStrRd lo hi v).wp t h Φ) : Res P o a w T w0 ρ h n Φ := by
  cases v <;> try exact hw.elim
  rename_i s
  have ex : a.eval X = .string s := hv
  simp only [slStrRd] at hw
  obtain ⟨j, h1, e1⟩ := optNat_wp (P := P) (w := w) hh hw
  obtain ⟨i, h2, e2⟩ := optNat_wp (P := P) (w := w) hl h1
  obtain ⟨h0, h3⟩ := h2
  refine Res.quiet hs h3 (x := .string (s.extract i j)) ?_ rfl
  unfold execOp
  simp [ho, ex, Instr.sliceAt, Instr.slice, run_underlying hd, bounds2 (isSlice := false) e1 e2 h0.1 h0.2]
theorem slSl_sound (ty : TypeId) (X : Operand) (L H : Option Operand) (o : Oper) (ho : o.op = .slice ty X L H none) (e : TypeId) (i : TypeInfo) (hd : P.underlying ty = some (.slice e)) (hi : P.info? e = some i) (hs : Sim T w0 ρ h w) {v : LVal} {lo hi' : Option LVal} (hv : PV ρ v (a.eval X)) (hl : OptPV ρ lo (L.map a.eval)) (hh : OptPV ρ hi' (H.map a.eval)) (hw : (slSlRd i.size lo hi' v).wp t h Φ) : Res P o a w T w0 ρ h n Φ := by
  cases v <;> try exact hw.elim
  rotate_left
  · rename_i m w' f
    simp only [slSlRd] at hw
    split at hw
    · exact hw.elim
    · rename_i hb
      have hb := Nat.eq_of_beq_eq_true hb
      subst hb
      obtain ⟨q, cap, ex, hcap, hc⟩ := hv
      obtain ⟨j, h1, e1⟩ := optNat_wp (P := P) (w := w) hh hw
      have run : ∀ k, k ≤ j → j ≤ cap → (∀ y c, k ≤ y → (L.map a.eval = none ∧ k = 0) ∨ (∃ v, L.map a.eval = some v ∧ (Instr.sliceBound v y c).run P w = .ok k w)) →
          (execOp a.eval o).run P w = .ok (.value (.slice (if cap = k then q else q.map (·.add (k * i.size))) (j - k) (cap - k))) w := by
        intro k h2 h3 h4
        unfold execOp
        simp [ho, ex, Instr.sliceAt, Instr.slice, run_underlying hd, bounds2 (isSlice := true) e1 h4 h2 h3, sizeOf, typeInfo, hi]
      have part : ∀ k, k ≤ j → j ≤ m → PV ρ (.rsl (j - k) i.size (fun x => f (k + x))) (.slice (if cap = k then q else q.map (·.add (k * i.size))) (j - k) (cap - k)) := by
        intro k h2 h3
        refine ⟨_, _, rfl, by omega, ?_⟩
        by_cases c0 : j - k = 0
        · exact .inl c0
        · rcases hc with hc | ⟨g, off, l, rfl, hf, hl, hps⟩
          · omega
          · right
            have m1 : k * i.size + (j - k) * i.size = j * i.size := by rw [← Nat.add_mul]; congr 1; omega
            have m2 : j * i.size ≤ m * i.size := Nat.mul_le_mul_right _ h3
            refine ⟨g, off + k * i.size, (l.drop (k * i.size)).take ((j - k) * i.size), ?_, hf.sub _ _ (by omega), ?_, fun x hx => ?_⟩
            · rw [if_neg (by omega)]
              simp only [Option.map_some, Addr.add_mid]
            · rw [List.length_take, List.length_drop, Nat.min_eq_left (by omega)]
            · have m3 := mul_lt i.size hx
              have := hps (k + x) (by omega)
              rw [List.drop_take, List.drop_drop, List.take_take, Nat.min_eq_left (by omega), ← Nat.add_mul]
              exact this
      cases lo with
      | none =>
        have hL : L.map a.eval = none := by
          cases hq : L.map a.eval with
          | none => rfl
          | some x => rw [hq] at hl; exact hl.elim
        obtain ⟨h2, h3⟩ := h1
        refine Res.quiet hs h3 (run 0 (by omega) (by omega) (fun _ _ _ => .inl ⟨hL, rfl⟩)) ?_
        have := part 0 (by omega) h2
        simpa using this
      | some u =>
        obtain ⟨k, h2, e2⟩ := optNat_wp (P := P) (w := w) hl h1
        obtain ⟨h3, h4⟩ := h2
        exact Res.quiet hs h4 (run k h3.1 (by omega) e2) (part k h3.1 h3.2)
  rename_i p st w' len l0 h0
  simp only [slSlRd] at hw
  split at hw
  · exact hw.elim
  · rename_i hb
    have hb := Nat.eq_of_beq_eq_true hb
    subst hb
    obtain ⟨q, cap, ex, hc⟩ := hv
    obtain ⟨j, h1, e1⟩ := optNat_wp (P := P) (w := w) hh hw
    have hl0 : l0 ≤ cap := by rcases hc with ⟨_, h2, h3⟩ | ⟨_, _, _, _, _, _, h2, _⟩ <;> omega
    have run : ∀ k, k ≤ j → j ≤ cap → (∀ y c, k ≤ y → (L.map a.eval = none ∧ k = 0) ∨ (∃ v, L.map a.eval = some v ∧ (Instr.sliceBound v y c).run P w = .ok k w)) →
        (execOp a.eval o).run P w = .ok (.value (.slice (if cap = k then q else q.map (·.add (k * i.size))) (j - k) (cap - k))) w := by
      intro k h2 h3 h4
      unfold execOp
      simp [ho, ex, Instr.sliceAt, Instr.slice, run_underlying hd, bounds2 (isSlice := true) e1 h4 h2 h3, sizeOf, typeInfo, hi]
    cases lo with
    | none =>
      have hL : L.map a.eval = none := by
        cases hq : L.map a.eval with
        | none => rfl
        | some x => rw [hq] at hl; exact hl.elim
      obtain ⟨h2, h3⟩ := h1
      refine Res.quiet hs h3 (run 0 (by omega) (by omega) (fun _ _ _ => .inl ⟨hL, rfl⟩)) ?_
      refine ⟨_, _, rfl, ?_⟩
      rcases hc with ⟨r1, r2, r3⟩ | ⟨g, b, m, r1, rfl, r2, r3, r4, r5⟩
      · exact .inl ⟨by omega, r2, by omega⟩
      · by_cases c0 : cap = 0
        · exact .inl ⟨by omega, by omega, by omega⟩
        · refine .inr ⟨g, b, m, r1, by rw [if_neg c0]; simp [Addr.add], by omega, by omega, fun x hx => by have := r4 x hx; omega, by simpa using r5⟩
    | some u =>
      obtain ⟨k, h2, e2⟩ := optNat_wp (P := P) (w := w) hl h1
      obtain ⟨h3, h4⟩ := h2
      obtain ⟨c', h5, e5⟩ := subHi_wp h4
      refine Res.quiet hs h5 (run k h3.1 (by omega) e2) ?_
      refine ⟨_, _, rfl, ?_⟩
      by_cases c0 : cap = k
      · exact .inl ⟨by omega, by omega, by omega⟩
      · rcases hc with ⟨r1, r2, r3⟩ | ⟨g, b, m, r1, rfl, r2, r3, r4, r5⟩
        · exact .inl ⟨by omega, by omega, by omega⟩
        · refine .inr ⟨g, b, m, r1, ?_, by omega, by omega, e5 cap r4, ?_⟩
          · rw [if_neg c0]
            simp only [Option.map_some, Addr.add_mid, Nat.add_mul]
            congr 2; omega
          · rw [show st + k + (cap - k) = st + cap by omega]; exact r5
def slArrRd (w m : Nat) (lo hi : Option LVal) : LVal → Rd
  | .ptr p => rdAt p fun s => match s with
    | .rows m' w' _ _ => match Nat.beq m m', Nat.beq w w' with
      | true, true => optNat hi m fun j => optNat lo 0 fun i => .need (i ≤ j ∧ j ≤ m) (one (.slice p i w (j - i) (m - i) (some (m - i))))
      | _, _ => .fail
    | _ => .fail
  | _ => .fail
theorem slArr_sound (ty : TypeId) (X : Operand) (L H : Option Operand) (o : Oper) (ho : o.op = .slice ty X L H none) (e : TypeId) (len : Nat) (i : TypeInfo) (hd : P.underlying ty = some (.array len e) ∨ ∃ q, P.underlying ty = some (.pointer q) ∧ P.underlying q = some (.array len e)) (hi : P.info? e = some i) (hs : Sim T w0 ρ h w) {v : LVal} {lo hi' : Option LVal} (hv : PV ρ v (a.eval X)) (hl : OptPV ρ lo (L.map a.eval)) (hh : OptPV ρ hi' (H.map a.eval)) (hw : (slArrRd i.size len lo hi' v).wp t h Φ) : Res P o a w T w0 ρ h n Φ := by
  cases v <;> try exact hw.elim
  rename_i p
  obtain ⟨g, b, m, hp, hx⟩ := hv
  obtain ⟨s, C, ty', fr, l1, l2, h1, h2, h3, h4, ⟨l3, l4, rfl, h5⟩, _⟩ := read_wp hs hp hw
  have hsz : ∃ ob, hget h p.blk = some ob := by
    simp only [slArrRd, rdAt, Rd.wp, hgetK_eq] at hw
    cases hg : hget h p.blk with
    | none => simp [hg] at hw
    | some ob => exact ⟨ob, rfl⟩
  obtain ⟨ob, hob⟩ := hsz
  cases s <;> try exact h1.elim
  rename_i m' w' f q
  simp only at h1
  split at h1
  · rename_i hb1 hb2
    have hb1 := Nat.eq_of_beq_eq_true hb1
    have hb2 := Nat.eq_of_beq_eq_true hb2
    subst hb1 hb2
    obtain ⟨j, h6, e1⟩ := optNat_wp (P := P) (w := w) hh h1
    obtain ⟨k, h7, e2⟩ := optNat_wp (P := P) (w := w) hl h6
    obtain ⟨h0, h8⟩ := h7
    have hlen3 := PS.length _ _ h5
    simp only [segW] at hlen3
    -- the window is as long as what is there
    have hwin : p.cell + len * i.size ≤ m := by
      rcases hs.obj _ _ hob with ⟨g', b', m', obj, r1, r2, r3, _⟩ | ⟨r1, _⟩
      · rw [hp] at r1; cases r1
        simp only [slArrRd, rdAt, Rd.wp, hgetK_eq, hob] at hw
        obtain ⟨pre, l, ex, fr', rfl, hl', _, hb', hn', _⟩ := r3
        rw [h2] at r2
        cases r2
        obtain ⟨s1, q1, q2⟩ := path_wp _ _ hw
        obtain ⟨s2, q3, q4⟩ := skip_wp _ _ q1
        obtain ⟨a1, a2, a3, rfl, f1, f2⟩ := q2 ρ l hl'
        obtain ⟨b1, b2, rfl, f3, f4⟩ := q4 ρ a2 f2
        cases s2 <;> try exact q3.elim
        simp only at q3
        split at q3
        · rename_i hc1 hc2
          have hc1 := Nat.eq_of_beq_eq_true hc1
          have hc2 := Nat.eq_of_beq_eq_true hc2
          subst hc1 hc2
          have := PS.length _ _ f4
          simp only [segW] at this
          rw [hn']
          simp only [List.length_append, LAddr.cell]
          omega
        · exact q3.elim
      · rw [hp] at r1; cases r1
    refine Res.quiet hs h8 (x := .slice (some (if len = k then ⟨g, b + p.cell, none⟩ else (⟨g, b + p.cell, none⟩ : Addr).add (k * i.size))) (j - k) (len - k)) ?_ ?_
    · unfold execOp
      rcases hd with hd | ⟨qq, hd, hd2⟩
      · simp [ho, hx, Instr.sliceAt, run_underlying hd, Instr.sureAddr, bounds2 (isSlice := false) e1 e2 h0.1 h0.2, sizeOf, typeInfo, hi]
      · simp [ho, hx, Instr.sliceAt, Instr.slice, run_underlying hd, run_underlying hd2, asAddr, bounds2 (isSlice := false) e1 e2 h0.1 h0.2, sizeOf, typeInfo, hi]
    · refine ⟨_, _, rfl, ?_⟩
      by_cases c0 : len = k
      · exact .inl ⟨by omega, by omega, by omega⟩
      · refine .inr ⟨g, b, m, hp, ?_, by omega, by omega, fun x hx => by cases hx; omega, ?_⟩
        · rw [if_neg c0, Addr.add_mid]; congr 2; omega
        · rw [show k + (len - k) = len by omega]; exact hwin
  · exact h1.elim
/-- s[:0:0]: nothing, and no room. -/
def slNoneRd : LVal → Rd
  | .slice _ _ _ _ _ _ => one (.slice ⟨0, [], 0⟩ 0 0 0 0 (some 0))
  | _ => .fail
theorem slNone_sound (ty : TypeId) (X : Operand) (k1 k2 k3 : IntKind) (L : Option Operand) (hL : L = none ∨ L = some (.const (.int k1 0))) (o : Oper) (ho : o.op = .slice ty X L (some (.const (.int k2 0))) (some (.const (.int k3 0)))) (e : TypeId) (i : TypeInfo) (hd : P.underlying ty = some (.slice e)) (hi : P.info? e = some i) (hs : Sim T w0 ρ h w) {v : LVal} (hv : PV ρ v (a.eval X)) (hw : (slNoneRd v).wp t h Φ) : Res P o a w T w0 ρ h n Φ := by
  cases v <;> try exact hw.elim
  rename_i p st w' len l0 h0
  obtain ⟨q, cap, ex, hc⟩ := hv
  refine Res.quiet hs hw (x := .slice q 0 0) ?_ ⟨q, 0, rfl, .inl ⟨rfl, rfl, rfl⟩⟩
  have e1 : a.eval (.const (.int k1 0)) = .int k1 0 := rfl
  have e2 : a.eval (.const (.int k2 0)) = .int k2 0 := rfl
  have e3 : a.eval (.const (.int k3 0)) = .int k3 0 := rfl
  unfold execOp
  rcases hL with rfl | rfl <;> simp [ho, ex, e1, e2, e3, Instr.sliceAt, Instr.slice, run_underlying hd, Instr.sliceBounds, Instr.sliceBound, asIntOf, sizeOf, typeInfo, hi]
def makeRd (n w bytes : Nat) (e : TypeId) (z : Segs) : LVal → LVal → Rd
  | .int _ l, .int _ c => .need (0 ≤ l ∧ l ≤ c ∧ c ≤ 140737488351232 ∧ c * (bytes : Int) ≤ 140737488351232) (.ret (.slice ⟨n, [], 0⟩ 0 w l.toNat c.toNat (some c.toNat)) [] (some ⟨.rows c.toNat w (fun _ => z) .nil, e, false, false⟩))
  | _, _ => .fail
theorem make_sound (ty : TypeId) (X Y : Operand) (o : Oper) (ho : o.op = .makeSlice ty X Y) (e : TypeId) (i : TypeInfo) (z : Value) (hd : P.underlying ty = some (.slice e)) (hi : P.info? e = some i) (hz : i.zero = some z) (s : Segs) (hf : flatEq s z.cells.toList = true) (hsz : z.cells.size = i.size) (hs : Sim T w0 ρ h w) (hn : ρ n = none) (hh : hget h n = none) {v y : LVal} (hv : PV ρ v (a.eval X)) (hy : PV ρ y (a.eval Y))
    (hw : (makeRd n i.size i.bytes e s v y).wp t h Φ) : Res P o a w T w0 ρ h n Φ := by
  cases v <;> try exact hw.elim
  cases y <;> try exact hw.elim
  rename_i k1 l k2 c
  have ex : a.eval X = .int k1 l := hv
  have ey : a.eval Y = .int k2 c := hy
  obtain ⟨⟨h0, h1, h2, h3⟩, hw⟩ := hw
  have hch : Chunks ρ i.size c.toNat (fun _ => s) (madeCells z.cells (c.toNat * i.size)).toList := by
    rw [← hsz, madeCells_eq]
    exact chunks_const (flatEq_spec hf ρ) (by simp)
  have hcs : (madeCells z.cells (c.toNat * i.size)).toList.length = c.toNat * i.size := hch.1
  refine Res.new (ob := ⟨.rows c.toNat i.size (fun _ => s) .nil, e, false, false⟩) (c := madeCells z.cells (c.toNat * i.size)) (l := (madeCells z.cells (c.toNat * i.size)).toList) (ex := []) (x := .slice (some ⟨w.heap.size, 0, none⟩) l.toNat c.toNat) hs hn hh (.inl rfl) rfl (by simp) (chunks_rows hch) (fun _ => rfl) (unfrozen0 _) hw ?_ ?_
  · unfold execOp
    simp only [ho, ex, ey, Sem.run_bind]
    rw [run_make w ty e i z hd hi hz k1 k2 l c h0 h1 (by rw [Int.mul_comm]; omega) (by omega)]
    rfl
  · refine ⟨_, _, rfl, .inr ⟨w.heap.size, 0, ((madeCells z.cells (c.toNat * i.size)).toList ++ []).length, by simp [Pl.put], by simp [LAddr.cell, pathSum], by omega, Nat.le_refl _, fun x hx => by cases hx; exact Nat.le_refl _, ?_⟩⟩
    simp [LAddr.cell, pathSum, hcs]
end
end Go.Proofs.Ytilmfhpoiejmfaa.Lh
