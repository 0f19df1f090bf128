/- Further operations: new variables, places, tests, conversions. Over any program. -/
import Derived.Test.YtilmfhpoiejmfaaLh4
namespace Go.Proofs.Ytilmfhpoiejmfaa.Lh
set_option linter.unusedSimpArgs false
set_option linter.unusedVariables false
set_option linter.unusedSectionVars false
open Go.RowKit
variable [Fz]
/-- Is a value what a constant is? -/
def cEq : LVal → Value → Bool
  | .bool b, .bool c => b == c
  | .int k n, .int k' m => kEq k k' && n == m
  | .str s, .string s' => s.data.toList == s'.data.toList
  | .nilp, .pointer none => true
  | .slice _ _ _ 0 0 _, .slice none 0 0 => true
  | .nilf, .nilFunc => true
  | .nilI, .nilIface => true
  | _, _ => false
theorem cEq_spec {v : LVal} {x : Value} (h : cEq v x = true) (ρ : Pl) : PV ρ v x ∧ notAgg x := by
  unfold cEq at h
  split at h
  · have := eq_of_beq h; subst this; exact ⟨rfl, rfl⟩
  · simp only [Bool.and_eq_true] at h
    have h1 := kEq_spec h.1
    have h2 := eq_of_beq h.2
    subst h1 h2; exact ⟨rfl, rfl⟩
  · rename_i s s'
    have h := eq_of_beq h
    have : s = s' := by cases s; cases s'; simpa [← Array.toList_inj] using h
    subst this; exact ⟨rfl, rfl⟩
  · exact ⟨rfl, rfl⟩
  · exact ⟨⟨none, 0, rfl, .inl ⟨rfl, rfl, rfl⟩⟩, rfl⟩
  · exact ⟨rfl, rfl⟩
  · exact ⟨rfl, rfl⟩
  · cases h
/-- The cells of pieces that are constants. -/
def flatC : Segs → (List Value → Option (List Value)) 
  | .nil, l => some l
  | .one v r, x :: l => if cEq v x then flatC r l else none
  | .one _ _, [] => none
  | .rows n w f r, l => if (List.range n).all (fun i => decide ((l.drop (i * w)).length ≥ w) && (match flatC (f i) ((l.drop (i * w)).take w) with | some [] => true | _ => false)) then flatC r (l.drop (n * w)) else none
  | .res _, _ => none
theorem rows_of {ρ : Pl} {w : Nat} {f : Nat → Segs} {q : Segs} : ∀ (n : Nat) (l l' : List Value), n * w ≤ l.length → (∀ i, i < n → PS ρ (f i) ((l.drop (i * w)).take w)) → PS ρ q l' → PS ρ (.rows n w f q) (l.take (n * w) ++ l') := by
  intro n l l' hl hf hq
  refine ⟨(List.range n).map fun i => (l.drop (i * w)).take w, l', ?_, by simp, fun i hi => ?_, hq⟩
  · congr 1
    clear hf hq
    induction n with
    | zero => simp
    | succ n ih =>
      have e : (n + 1) * w = n * w + w := by rw [Nat.add_mul]; omega
      rw [List.range_succ, List.map_append, List.flatten_append, ← ih (by omega), e, List.take_add]
      simp
  · refine ⟨_, by rw [List.getElem?_map, List.getElem?_range hi]; rfl, ?_, hf i hi⟩
    have h1 : (i + 1) * w ≤ n * w := Nat.mul_le_mul_right w hi
    have e : (i + 1) * w = i * w + w := by rw [Nat.add_mul]; omega
    simp only [List.length_take, List.length_drop]
    omega
theorem flatC_spec {ρ : Pl} : ∀ (s : Segs) (l r : List Value), flatC s l = some r → ∃ l1, l = l1 ++ r ∧ PS ρ s l1
  | .nil, l, r, h => by
    simp [flatC] at h
    subst h
    exact ⟨[], rfl, rfl⟩
  | .one v q, [], r, h => by simp [flatC] at h
  | .one v q, x :: l, r, h => by
    unfold flatC at h
    split at h
    · rename_i hc
      obtain ⟨l1, rfl, h1⟩ := flatC_spec q l r h
      exact ⟨x :: l1, rfl, x, l1, rfl, (cEq_spec hc ρ).1, (cEq_spec hc ρ).2, h1⟩
    · cases h
  | .rows n w f q, l, r, h => by
    unfold flatC at h
    split at h
    · rename_i hc
      obtain ⟨l1, h1, h2⟩ := flatC_spec q _ r h
      simp only [List.all_eq_true, List.mem_range, Bool.and_eq_true, decide_eq_true_eq] at hc
      have hlen : n * w ≤ l.length := by
        rcases Nat.eq_zero_or_pos n with h0 | h0
        · subst h0; simp
        · have := (hc (n - 1) (by omega)).1
          rw [List.length_drop] at this
          have e : n * w = (n - 1) * w + w := by
            rw [show n * w = (n - 1 + 1) * w by congr 1; omega, Nat.add_mul]; omega
          by_cases hw : w = 0
          · subst hw; simp
          · omega
      refine ⟨l.take (n * w) ++ l1, ?_, rows_of n l l1 hlen (fun i hi => ?_) h2⟩
      · rw [List.append_assoc, ← h1, List.take_append_drop]
      · have h3 := (hc i hi).2
        split at h3
        · rename_i h4
          obtain ⟨m, h5, h6⟩ := flatC_spec (f i) _ [] h4
          rw [h5, List.append_nil]
          exact h6
        · cases h3
    · cases h
  | .res _, l, r, h => by
    unfold flatC at h
    cases h
def flatEq (s : Segs) (l : List Value) : Bool := match flatC s l with
  | some [] => true
  | _ => false
theorem flatEq_spec {s : Segs} {l : List Value} (h : flatEq s l = true) (ρ : Pl) : PS ρ s l := by
  unfold flatEq at h
  split at h
  · rename_i hc
    obtain ⟨l1, h1, h2⟩ := flatC_spec (ρ := ρ) s l [] hc
    rw [h1, List.append_nil]
    exact h2
  · cases h
def Chunks (ρ : Pl) (w n : Nat) (f : Nat → Segs) (l : List Value) : Prop := l.length = n * w ∧ ∀ i, i < n → PS ρ (f i) ((l.drop (i * w)).take w)
section
variable {ρ : Pl} {w : Nat}
theorem chunks_rows {n : Nat} {f : Nat → Segs} {l : List Value} (h : Chunks ρ w n f l) : PS ρ (.rows n w f .nil) l := by
  have := rows_of (ρ := ρ) (w := w) (f := f) (q := .nil) n l [] (by rw [h.1]; omega) h.2 rfl
  rw [List.append_nil, List.take_of_length_le (by rw [h.1]; omega)] at this
  exact this
theorem rows_chunks : ∀ {n : Nat} {f : Nat → Segs} {q : Segs} {l : List Value}, PS ρ (.rows n w f q) l → ∃ l1 l2, l = l1 ++ l2 ∧ Chunks ρ w n f l1 ∧ PS ρ q l2 := by
  intro n f q l h
  have h0 := h
  obtain ⟨ls, l', rfl, h2, h3, h4⟩ := h
  have hf := flatten_length_const (w := w) ls (fun i hi => by
    obtain ⟨y, hy, hw, _⟩ := h3 i (by omega)
    exact ⟨y, hy, hw⟩)
  refine ⟨ls.flatten, l', rfl, ⟨by rw [hf, h2], fun i hi => ?_⟩, h4⟩
  obtain ⟨y, hy, hw, hp⟩ := h3 i hi
  obtain ⟨a, b, e1, e2, _⟩ := flatten_split (w := w) ls i y (fun k hk => by
    obtain ⟨y, hy, hw, _⟩ := h3 k (by omega)
    exact ⟨y, hy, hw⟩) hy
  rw [e1, List.append_assoc, ← e2, List.drop_left, ← hw, List.take_left]
  exact hp
end
theorem unfrozen0 (n : Nat) : unfrozen (0, 0) n := fun i _ h => by omega
section
variable {T : Nat → Nat → Prop} {w0 : World} {ρ : Pl} {h : LHeap} {w : World} {t : List LVal} {a : Act} {Φ : LVal → List (Nat × Option LObj) → Option LObj → Prop} {P : Program} {n : Nat}
/-- What a new block leaves. -/
theorem Res.new {o : Oper} {v : LVal} {x : Value} {ob : LObj} {l ex : List Value} {c : Array Value} {fr : Nat × Nat} {w1 w' : World} (hs : Sim T w0 ρ h w) (hn : ρ n = none) (hh : hget h n = none) (hw1 : w1 = w ∨ w1 = w.drew) (hw' : w' = w1.alloc (.cells c ob.ty fr)) (hc : c = (l ++ ex).toArray) (hl : PS ρ ob.segs l) (hm : ob.more = false → ex = []) (hf : unfrozen fr (l ++ ex).length)
    (hΦ : Φ v [] (some ob)) (hr : (execOp a.eval o).run P w = .ok (.value x) w') (hv : PV (ρ.put n (w.heap.size, 0, (l ++ ex).length)) v x) (hro : ob.ro = false := by rfl) : Res P o a w T w0 ρ h n Φ := by
  have hs1 : Sim T w0 ρ h w1 := by
    rcases hw1 with e | e
    · rw [e]; exact hs
    · rw [e]; exact hs.drew
  have hz : w1.heap.size = w.heap.size := by
    rcases hw1 with e | e
    · rw [e]
    · rw [e]; rfl
  refine ⟨v, [], some ob, x, _, w', hΦ, .inl hr, Pl.put_ext hn _, fun i hi => by rw [Pl.put_at, if_neg (hi.resolve_right (by simp))], hv, ?_⟩
  subst hw'
  rw [← hz]
  exact hs1.alloc hn hh hro hc hl hm hf
def newPtr (n : Nat) : LVal := .ptr ⟨n, [], 0⟩
theorem newPtr_PV {ρ : Pl} {n g m : Nat} : PV (ρ.put n (g, 0, m)) (newPtr n) (.pointer (some ⟨g, 0, none⟩)) := ⟨g, 0, m, by simp [Pl.put], rfl⟩
theorem alloc_sound (ty : TypeId) (o : Oper) (ho : o.op = .alloc ty) (i : TypeInfo) (z : Value) (hi : P.info? ty = some i) (hz : i.zero = some z) (s : Segs) (hf : flatEq s z.cells.toList = true) (hs : Sim T w0 ρ h w) (hn : ρ n = none) (hh : hget h n = none)
    (hw : (Rd.ret (newPtr n) [] (some ⟨s, ty, false, false⟩)).wp t h Φ) : Res P o a w T w0 ρ h n Φ := by
  refine Res.new (ob := ⟨s, ty, false, false⟩) (c := z.cells) (l := z.cells.toList) (ex := []) (x := .pointer (some ⟨w.heap.size, 0, none⟩)) hs hn hh (.inl rfl) rfl (by simp) (flatEq_spec hf ρ) (fun _ => rfl) (unfrozen0 _) hw ?_ newPtr_PV
  unfold execOp
  simp [ho, Instr.alloc, zeroValue, typeInfo, hi, hz, newVar, newRow]
theorem box_sound (ty : TypeId) (X : Operand) (o : Oper) (ho : o.op = .box ty X) (m : Nat) (hs : Sim T w0 ρ h w) (hn : ρ n = none) (hh : hget h n = none) {v : LVal} (hv : PV ρ v (a.eval X))
    (hw : (cellsK v m fun s => Rd.ret (newPtr n) [] (some ⟨s, ty, false, false⟩)).wp t h Φ) : Res P o a w T w0 ρ h n Φ := by
  obtain ⟨s, h1, h2, _⟩ := cells_wp hv hw
  refine Res.new (ob := ⟨s, ty, false, false⟩) (c := (a.eval X).cells) (l := (a.eval X).cells.toList) (ex := []) (x := .pointer (some ⟨w.heap.size, 0, none⟩)) hs hn hh (.inl rfl) rfl (by simp) h2 (fun _ => rfl) (unfrozen0 _) h1 ?_ newPtr_PV
  unfold execOp
  simp [ho, Instr.box, newVar, newRow]
def shcRd (left : Bool) (p : Int) (kx : IntKind) : LVal → Rd
  | .int k a => match kEq k kx with
    | true => match left with
      | true => one (.int k (k.wrap (a * p)))
      | false => one (.int k (a / p))
    | false => .fail
  | _ => .fail
theorem shc_sound (op : BinOp) (left : Bool) (hop : op = if left then .shl else .shr) (xT yT : TypeId) (X : Operand) (k' : IntKind) (c : Nat) (kx : IntKind) (o : Oper) (ho : o.op = .binOp op xT X (.const (.int k' (c : Int))) yT) (hc : c ≤ kx.bits) (hs : Sim T w0 ρ h w) {v : LVal} (hv : PV ρ v (a.eval X)) (hw : (shcRd left ((2 ^ c : Nat) : Int) kx v).wp t h Φ) : Res P o a w T w0 ρ h n Φ := by
  cases v <;> try exact hw.elim
  rename_i k m
  have ex : a.eval X = .int k m := hv
  simp only [shcRd] at hw
  split at hw
  · rename_i hk
    have := kEq_spec hk
    subst this
    have ey : a.eval (.const (.int k' (c : Int))) = .int k' (c : Int) := rfl
    have hmin : min c k.bits = c := Nat.min_eq_left hc
    have hnn : ¬ ((c : Int) < 0) := by omega
    cases left
    · subst hop
      refine Res.quiet hs hw (x := .int k (m / ((2 ^ c : Nat) : Int))) ?_ rfl
      unfold execOp
      simp [ho, ex, ey, eqGuard, binOp, Op.shift, hnn, hmin, Int.fdiv_eq_ediv_of_nonneg m (by exact_mod_cast (Nat.zero_le (2 ^ c)) : (0 : Int) ≤ 2 ^ c)]
    · subst hop
      refine Res.quiet hs hw (x := .int k (k.wrap (m * ((2 ^ c : Nat) : Int)))) ?_ rfl
      unfold execOp
      simp [ho, ex, ey, eqGuard, binOp, Op.shift, hnn, hmin]
  · exact hw.elim
def fieldRd (off : Nat) : LVal → Rd
  | .ptr p => one (.ptr ⟨p.blk, p.path, p.off + off⟩)
  | .rptr s => skipK s off (fun s' => one (.rptr s')) .fail
  | _ => .fail
theorem field_sound (ty : TypeId) (X : Operand) (k : Nat) (o : Oper) (ho : o.op = .fieldAddr ty X k) (fs : Array Field) (f : Field) (i : TypeInfo) (hd : P.underlying ty = some (.struct fs)) (hk : fs[k]? = some f) (hi : P.info? f.type = some i) (h0 : i.size ≠ 0) (hs : Sim T w0 ρ h w) {v : LVal} (hv : PV ρ v (a.eval X))
    (hw : (fieldRd f.offset v).wp t h Φ) : Res P o a w T w0 ρ h n Φ := by
  cases v <;> try exact hw.elim
  · rename_i p
    obtain ⟨g, b, m, hp, hx⟩ := hv
    refine Res.quiet hs hw (x := .pointer (some ⟨g, b + p.cell + f.offset, none⟩)) ?_ ⟨g, b, m, hp, by simp only [LAddr.cell]; congr 3; omega⟩
    unfold execOp
    simp [ho, hx, Instr.fieldAt, run_underlying hd, hk, Instr.sureAddr, fieldPlace, sizeOf, typeInfo, hi, h0, Addr.add_mid]
  · rename_i s
    obtain ⟨g, off, l, hx, hf, h5⟩ := hv
    obtain ⟨s2, h6, h7⟩ := skip_wp _ _ hw
    obtain ⟨b1, b2, rfl, h8, h9⟩ := h7 ρ.clo l h5
    have hf2 := hf.sub f.offset b2.length (by simp; omega)
    rw [← h8, List.drop_left, List.take_length] at hf2
    refine Res.quiet hs h6 (x := .pointer (some ⟨g, off + f.offset, none⟩)) ?_ ⟨g, off + f.offset, b2, rfl, by rw [← h8]; exact hf2, h9⟩
    unfold execOp
    simp [ho, hx, Instr.fieldAt, run_underlying hd, hk, Instr.sureAddr, fieldPlace, sizeOf, typeInfo, hi, h0, Addr.add_mid]
def idxArrRd (w n : Nat) : LVal → LVal → Rd
  | .ptr p, .int _ i => .need (0 ≤ i ∧ i < (n : Int)) (one (.ptr ⟨p.blk, p.path ++ [(p.off, i.toNat, w)], 0⟩))
  | .rptr s, .int _ i => match s with
    | .rows k w' f _ => match Nat.beq w w', Nat.beq n k with
      | true, true => .need (0 ≤ i ∧ i < (n : Int)) (one (.rptr (f i.toNat)))
      | _, _ => .fail
    | _ => .fail
  | _, _ => .fail
def idxSlRd (w : Nat) : LVal → LVal → Rd
  | .slice p st w' len _ _, .int _ i => match Nat.beq w w' with
    | true => .need (0 ≤ i ∧ i < (len : Int)) (one (.ptr ⟨p.blk, p.path ++ [(p.off, st + i.toNat, w)], 0⟩))
    | false => .fail
  | .rsl n w' f, .int _ i => match Nat.beq w w' with
    | true => .need (0 ≤ i ∧ i < (n : Int)) (one (.rptr (f i.toNat)))
    | false => .fail
  | _, _ => .fail
theorem pathSum_snoc (p : List (Nat × Nat × Nat)) (o i w : Nat) : pathSum (p ++ [(o, i, w)]) = pathSum p + (o + i * w) := by
  induction p with
  | nil => simp [pathSum]
  | cons x r ih => obtain ⟨a, b, c⟩ := x; simp only [List.cons_append, pathSum, ih]; omega
theorem idxArr_sound (ty : TypeId) (X Y : Operand) (o : Oper) (ho : o.op = .indexAddr ty X Y) (len : Nat) (e : TypeId) (i : TypeInfo) (hd : P.underlying ty = some (.array len e)) (hi : P.info? e = some i) (hs : Sim T w0 ρ h w) {v y : LVal} (hv : PV ρ v (a.eval X)) (hy : PV ρ y (a.eval Y))
    (hw : (idxArrRd i.size len v y).wp t h Φ) : Res P o a w T w0 ρ h n Φ := by
  cases v <;> try exact hw.elim
  rotate_left
  · rename_i s
    cases y <;> try exact hw.elim
    rename_i k j
    simp only [idxArrRd] at hw
    cases s <;> try exact hw.elim
    rename_i n' w' f q
    simp only at hw
    split at hw <;> try exact hw.elim
    rename_i hb1 hb2
    have hb1 := Nat.eq_of_beq_eq_true hb1
    have hb2 := Nat.eq_of_beq_eq_true hb2
    subst hb1 hb2
    obtain ⟨h0, hw⟩ := hw
    have ey : a.eval Y = .int k j := hy
    obtain ⟨g, off, l, hx, hf, h5⟩ := hv
    obtain ⟨d1, d2, rfl, hch, _⟩ := rows_chunks h5
    have hj : j.toNat < len := by omega
    have hmul := mul_lt i.size hj
    have hf2 := hf.sub (j.toNat * i.size) i.size (by rw [List.length_append, hch.1]; omega)
    rw [List.drop_append_of_le_length (by rw [hch.1]; omega), List.take_append_of_le_length (by rw [List.length_drop, hch.1]; omega)] at hf2
    refine Res.quiet hs hw (x := .pointer (some ⟨g, off + j.toNat * i.size, none⟩)) ?_ ⟨g, _, _, rfl, hf2, hch.2 _ hj⟩
    unfold execOp
    simp [ho, hx, ey, Instr.indexAt, asIntOf, run_underlying hd, Instr.sureAddr, h0, sizeOf, typeInfo, hi, Addr.add_mid]
  cases y <;> try exact hw.elim
  rename_i p k j
  obtain ⟨g, b, m, hp, hx⟩ := hv
  obtain ⟨h0, hw⟩ := hw
  have ey : a.eval Y = .int k j := hy
  refine Res.quiet hs hw (x := .pointer (some ⟨g, b + p.cell + j.toNat * i.size, none⟩)) ?_ ⟨g, b, m, hp, by simp only [LAddr.cell, pathSum_snoc]; congr 3; omega⟩
  unfold execOp
  simp [ho, hx, ey, Instr.indexAt, asIntOf, run_underlying hd, Instr.sureAddr, h0, sizeOf, typeInfo, hi, Addr.add_mid]
theorem idxSl_sound (ty : TypeId) (X Y : Operand) (o : Oper) (ho : o.op = .indexAddr ty X Y) (e : TypeId) (i : TypeInfo) (hd : P.underlying ty = some (.slice e)) (hi : P.info? e = some i) (hs : Sim T w0 ρ h w) {v y : LVal} (hv : PV ρ v (a.eval X)) (hy : PV ρ y (a.eval Y))
    (hw : (idxSlRd i.size v y).wp t h Φ) : Res P o a w T w0 ρ h n Φ := by
  cases v <;> try exact hw.elim
  rotate_left
  · cases y <;> try exact hw.elim
    rename_i m w' f k j
    simp only [idxSlRd] at hw
    split at hw
    · rename_i hb
      have hb := Nat.eq_of_beq_eq_true hb
      subst hb
      obtain ⟨h0, hw⟩ := hw
      have ey : a.eval Y = .int k j := hy
      obtain ⟨q, cap, hx, hcap, h1 | ⟨g, off, l, rfl, hf, hl, hps⟩⟩ := hv
      · omega
      · have hj : j.toNat < m := by omega
        have hmul := mul_lt i.size hj
        have hf2 := hf.sub (j.toNat * i.size) i.size (by omega)
        refine Res.quiet hs hw (x := .pointer (some ⟨g, off + j.toNat * i.size, none⟩)) ?_ ⟨g, _, _, rfl, hf2, hps _ hj⟩
        unfold execOp
        simp [ho, hx, ey, Instr.indexAt, asIntOf, run_underlying hd, h0, sizeOf, typeInfo, hi, Addr.add_mid]
    · exact hw.elim
  cases y <;> try exact hw.elim
  rename_i p st w' len lo hi' k j
  simp only [idxSlRd] at hw
  split at hw
  · rename_i hb
    have hb := Nat.eq_of_beq_eq_true hb
    subst hb
    obtain ⟨h0, hw⟩ := hw
    have ey : a.eval Y = .int k j := hy
    obtain ⟨q, cap, hx, h1 | ⟨g, b, m, hp, rfl, _⟩⟩ := hv
    · omega
    · refine Res.quiet hs hw (x := .pointer (some ⟨g, b + (p.cell + st * i.size) + j.toNat * i.size, none⟩)) ?_ ⟨g, b, m, hp, by simp only [LAddr.cell, pathSum_snoc, Nat.add_mul]; congr 3; omega⟩
      unfold execOp
      simp [ho, hx, ey, Instr.indexAt, asIntOf, run_underlying hd, h0, sizeOf, typeInfo, hi, Addr.add_mid]
  · exact hw.elim
def nilRd : LVal → Rd
  | .ptr p => one (.ptr p)
  | .rptr s => one (.rptr s)
  | .func f c => one (.func f c)
  | .iface t v => one (.iface t v)
  | .tok k => one (.tok k)
  | _ => .fail
theorem nil_sound (X : Operand) (o : Oper) (ho : o.op = .nilCheck X) (hs : Sim T w0 ρ h w) {v : LVal} (hv : PV ρ v (a.eval X)) (hw : (nilRd v).wp t h Φ) : Res P o a w T w0 ρ h n Φ := by
  cases v <;> try exact hw.elim
  · rename_i p
    refine Res.quiet hs hw ?_ hv
    obtain ⟨g, b, m, hp, hx⟩ := hv
    unfold execOp
    simp [ho, hx]
  · rename_i f c
    refine Res.quiet hs hw ?_ hv
    obtain ⟨l, hl, hx⟩ := hv
    unfold execOp
    simp [ho, hx]
  · rename_i ty x
    refine Res.quiet hs hw ?_ hv
    obtain ⟨y, hl, hx⟩ := hv
    unfold execOp
    simp [ho, hx]
  · rename_i s
    refine Res.quiet hs hw ?_ hv
    obtain ⟨g, off, l, hx, _⟩ := hv
    unfold execOp
    simp [ho, hx]
  · rename_i k
    refine Res.quiet hs hw ?_ hv
    obtain ⟨g, _, hx⟩ := hv
    unfold execOp
    simp [ho, hx]
theorem move_sound (X : Operand) (o : Oper) (ho : o.op = .move X ∨ o.op = .assign X) (hs : Sim T w0 ρ h w) {v : LVal} (hv : PV ρ v (a.eval X)) (hw : (one v).wp t h Φ) : Res P o a w T w0 ρ h n Φ := by
  refine Res.quiet hs hw ?_ hv
  unfold execOp
  rcases ho with ho | ho <;> simp [ho]
def pickRd : LVal → (Rd → Rd → Rd)
  | .bool b, x, y => .ite b x y
  | _, _, _ => .fail
theorem ite_wp {b : Bool} {x y : Rd} (hw : (Rd.ite b x y).wp t h Φ) : (if b then x else y).wp t h Φ := by
  cases b <;> exact hw
theorem pick_sound (C X Y : Operand) (o : Oper) (ho : o.op = .pick C X Y) (hs : Sim T w0 ρ h w) (ht : TSim ρ t a) {c : LVal} (hc : PV ρ c (a.eval C)) {x y : LOpd} (hx : compileOpd X = some x) (hy : compileOpd Y = some y) (hw : (pickRd c (x.rd one) (y.rd one)).wp t h Φ) : Res P o a w T w0 ρ h n Φ := by
  cases c <;> try exact hw.elim
  rename_i b
  have ec : a.eval C = .bool b := hc
  cases b
  · obtain ⟨v, hv, h1⟩ := opd_wp hy ht (ite_wp hw)
    refine Res.quiet hs h1 ?_ hv
    unfold execOp
    simp [ho, ec, asBool]
  · obtain ⟨v, hv, h1⟩ := opd_wp hx ht (ite_wp hw)
    refine Res.quiet hs h1 ?_ hv
    unfold execOp
    simp [ho, ec, asBool]
def unRd (op : UnOp) : LVal → Rd
  | .int k n => match op with
    | .neg => one (.int k (k.wrap (0 - n)))
    | .xor => one (.int k (k.wrap (BitVec.ofInt k.bits (if k.signed then -1 else k.max) ^^^ BitVec.ofInt k.bits n).toNat))
    | _ => .fail
  | .bool b => match op with
    | .not => one (.bool (!b))
    | _ => .fail
  | _ => .fail
theorem un_sound (op : UnOp) (ty : TypeId) (X : Operand) (o : Oper) (ho : o.op = .unOp op ty X) (hs : Sim T w0 ρ h w) {v : LVal} (hv : PV ρ v (a.eval X)) (hw : (unRd op v).wp t h Φ) : Res P o a w T w0 ρ h n Φ := by
  have main : ∀ v x, Φ v [] none → (Op.unary op (a.eval X)).run P w = .ok x w → PV ρ v x → Res P o a w T w0 ρ h n Φ := by
    intro v x h1 h2 h3
    refine Res.quiet hs h1 ?_ h3
    unfold execOp
    simp only [ho, Sem.run_bind, h2, Result.andThen_ok, Sem.run_pure]
  unfold unRd at hw
  split at hw
  · rename_i k m
    have ex : a.eval X = .int k m := hv
    rw [ex] at main
    split at hw
    · exact main _ _ hw (by simp [Op.unary, Op.intArith]) rfl
    · exact main _ _ hw (by simp [Op.unary, Op.intBits]) rfl
    · exact hw.elim
  · rename_i b
    have ex : a.eval X = .bool b := hv
    rw [ex] at main
    split at hw
    · exact main _ _ hw (by simp [Op.unary]) rfl
    · exact hw.elim
  · exact hw.elim
def toIntRd (k : IntKind) : LVal → Rd
  | .int _ n => one (.int k (k.wrap n))
  | _ => .fail
theorem toInt_sound (src dst : TypeId) (X : Operand) (o : Oper) (ho : o.op = .convert src dst X) (d : TypeDesc) (k : IntKind) (h1 : P.underlying src = some d) (h2 : P.underlying dst = some (.int k)) (hs : Sim T w0 ρ h w) {v : LVal} (hv : PV ρ v (a.eval X)) (hw : (toIntRd k v).wp t h Φ) : Res P o a w T w0 ρ h n Φ := by
  cases v <;> try exact hw.elim
  rename_i k' m
  have ex : a.eval X = .int k' m := hv
  refine Res.quiet hs hw (x := .int k (k.wrap m)) ?_ rfl
  unfold execOp
  simp [ho, ex, convert, run_underlying h1, run_underlying h2, Conv.intToInt]
def strRd : LVal → Rd
  | .str s => one (.str s)
  | _ => .fail
theorem strStr_sound (src dst : TypeId) (X : Operand) (o : Oper) (ho : o.op = .convert src dst X) (d : TypeDesc) (h1 : P.underlying src = some d) (h2 : P.underlying dst = some .string) (hs : Sim T w0 ρ h w) {v : LVal} (hv : PV ρ v (a.eval X)) (hw : (strRd v).wp t h Φ) : Res P o a w T w0 ρ h n Φ := by
  cases v <;> try exact hw.elim
  rename_i s
  have ex : a.eval X = .string s := hv
  refine Res.quiet hs hw (x := .string s) ?_ rfl
  unfold execOp
  simp [ho, ex, convert, run_underlying h1, run_underlying h2]
def notIface : TypeDesc → Bool
  | .interface _ => false
  | _ => true
theorem iface_sound (ty : TypeId) (X : Operand) (o : Oper) (ho : o.op = .makeInterface ty X) (d : TypeDesc) (h1 : P.underlying ty = some d) (hd : notIface d = true) (hs : Sim T w0 ρ h w) {v : LVal} (hv : PV ρ v (a.eval X)) (hw : (one (.iface ty v)).wp t h Φ) : Res P o a w T w0 ρ h n Φ := by
  refine Res.quiet hs hw (x := .iface ty (a.eval X)) ?_ ⟨_, hv, rfl⟩
  unfold execOp
  simp only [ho, Instr.makeInterface, Sem.run_bind, run_underlying h1, Result.andThen_ok]
  cases d <;> first | (simp [notIface] at hd; done) | rfl
/-- Several operands. -/
def rdList : List LOpd → (LVals → Rd) → Rd
  | [], K => K .nil
  | x :: r, K => x.rd fun v => rdList r fun vs => K (.cons v vs)
def compileOpds : List Operand → Option (List LOpd)
  | [] => some []
  | x :: r => match compileOpd x, compileOpds r with
    | some y, some s => some (y :: s)
    | _, _ => none
theorem opds_wp (ht : TSim ρ t a) : ∀ {X : List Operand} {x : List LOpd} (_ : compileOpds X = some x) {k : LVals → Rd} (_ : (rdList x k).wp t h Φ), ∃ vs, PVs ρ vs (X.map a.eval) ∧ (k vs).wp t h Φ
  | [], x, hx, k, hw => by
    simp [compileOpds] at hx
    subst hx
    exact ⟨.nil, rfl, hw⟩
  | X :: R, x, hx, k, hw => by
    unfold compileOpds at hx
    split at hx
    · rename_i y s h1 h2
      simp at hx
      subst hx
      obtain ⟨v, hv, h3⟩ := opd_wp h1 ht hw
      obtain ⟨vs, hvs, h4⟩ := opds_wp ht h2 h3
      exact ⟨.cons v vs, ⟨_, _, rfl, hv, hvs⟩, h4⟩
    · cases hx
theorem func_sound (f : FuncId) (C : Array Operand) (o : Oper) (ho : o.op = .makeFunc (.func f) #[] C) (hs : Sim T w0 ρ h w) {vs : LVals} (hv : PVs ρ vs (C.toList.map a.eval)) (hw : (one (.func f vs)).wp t h Φ) : Res P o a w T w0 ρ h n Φ := by
  refine Res.quiet hs hw (x := .func (.func f) #[] (C.map a.eval)) ?_ ⟨_, hv, by rw [← Array.toList_map]⟩
  unfold execOp
  simp [ho, Instr.makeFunc]
def lvs : LVals → Nat → (LVal → Rd) → Rd
  | .nil, _, _ => .fail
  | .cons v _, 0, K => K v
  | .cons _ r, n + 1, K => lvs r n K
theorem lvs_wp {K : LVal → Rd} : ∀ (vs : LVals) (i : Nat) (l : List Value), PVs ρ vs l → (lvs vs i K).wp t h Φ → ∃ v x, l[i]? = some x ∧ PV ρ v x ∧ (K v).wp t h Φ
  | .nil, _, _, _, hw => hw.elim
  | .cons v r, 0, l, hl, hw => by
    obtain ⟨x, l', rfl, h1, _⟩ := hl
    exact ⟨v, x, rfl, h1, hw⟩
  | .cons v r, i + 1, l, hl, hw => by
    obtain ⟨x, l', rfl, h1, h2⟩ := hl
    obtain ⟨u, y, h3, h4, h5⟩ := lvs_wp r i l' h2 hw
    exact ⟨u, y, by simpa using h3, h4, h5⟩
def extRd (i : Nat) : LVal → Rd
  | .tup vs => lvs vs i one
  | _ => .fail
theorem ext_sound (X : Operand) (i : Nat) (o : Oper) (ho : o.op = .extract X i) (hs : Sim T w0 ρ h w) {v : LVal} (hv : PV ρ v (a.eval X)) (hw : (extRd i v).wp t h Φ) : Res P o a w T w0 ρ h n Φ := by
  cases v <;> try exact hw.elim
  rename_i vs
  obtain ⟨l, hl, hx⟩ := hv
  obtain ⟨u, y, h3, h4, h5⟩ := lvs_wp vs i l hl hw
  refine Res.quiet hs h5 (x := y) ?_ h4
  unfold execOp
  simp [ho, hx, Instr.extract, h3]
def idxStrRd : LVal → LVal → Rd
  | .str s, .int _ i => .need (0 ≤ i ∧ i < (s.size : Int)) (one (.int .u8 ((s.data.toList.getD i.toNat 0).toNat : Int)))
  | _, _ => .fail
theorem idxStr_sound (ty : TypeId) (X Y : Operand) (o : Oper) (ho : o.op = .index ty X Y) (hd : P.underlying ty = some .string) (hs : Sim T w0 ρ h w) {v y : LVal} (hv : PV ρ v (a.eval X)) (hy : PV ρ y (a.eval Y)) (hw : (idxStrRd v y).wp t h Φ) : Res P o a w T w0 ρ h n Φ := by
  cases v <;> try exact hw.elim
  cases y <;> try exact hw.elim
  rename_i s k i
  obtain ⟨h0, hw⟩ := hw
  have ex : a.eval X = .string s := hv
  have ey : a.eval Y = .int k i := hy
  refine Res.quiet hs hw (x := .int .u8 ((s.data.toList.getD i.toNat 0).toNat : Int)) ?_ rfl
  have hlt : i.toNat < s.size := by omega
  have hg : s[i.toNat]? = some (s.data.toList.getD i.toNat 0) := by
    rw [getElem?_pos s i.toNat hlt]
    congr 1
    have hd' : i.toNat < s.data.toList.length := by simpa using hlt
    rw [List.getD_eq_getElem?_getD, List.getElem?_eq_getElem hd']
    rfl
  unfold execOp
  simp only [ho, ex, ey, Instr.index, asIntOf, Sem.run_bind, Sem.run_pure, Result.andThen_ok, run_underlying hd, if_pos h0.1, hg]
def lenStrRd : LVal → Rd
  | .str s => one (.int .i64 s.size)
  | _ => .fail
def lenSlRd : LVal → Rd
  | .slice _ _ _ len _ _ => one (.int .i64 len)
  | .rsl n _ _ => one (.int .i64 n)
  | _ => .fail
theorem lenStr_sound (X : Operand) (ts : Array TypeId) (ty : TypeId) (o : Oper) (ho : o.op = .call ⟨.builtin .len, #[X], ts⟩) (hty : ts[0]? = some ty) (hd : P.underlying ty = some .string) (hs : Sim T w0 ρ h w) {v : LVal} (hv : PV ρ v (a.eval X)) (hw : (lenStrRd v).wp t h Φ) : Res P o a w T w0 ρ h n Φ := by
  cases v <;> try exact hw.elim
  rename_i s
  have ex : a.eval X = .string s := hv
  refine Res.quiet hs hw (x := .int .i64 s.size) ?_ rfl
  unfold execOp
  simp [ho, resolve, invoke, builtin, ex, Builtin.len_, hty, run_underlying hd, goInt]
theorem lenSl_sound (X : Operand) (ts : Array TypeId) (ty e : TypeId) (o : Oper) (ho : o.op = .call ⟨.builtin .len, #[X], ts⟩) (hty : ts[0]? = some ty) (hd : P.underlying ty = some (.slice e)) (hs : Sim T w0 ρ h w) {v : LVal} (hv : PV ρ v (a.eval X)) (hw : (lenSlRd v).wp t h Φ) : Res P o a w T w0 ρ h n Φ := by
  cases v <;> try exact hw.elim
  · rename_i p st w' len lo hi
    obtain ⟨q, cap, ex, _⟩ := hv
    refine Res.quiet hs hw (x := .int .i64 len) ?_ rfl
    unfold execOp
    simp [ho, resolve, invoke, builtin, ex, Builtin.len_, hty, run_underlying hd, goInt]
  · rename_i m w' f
    obtain ⟨q, cap, ex, _⟩ := hv
    refine Res.quiet hs hw (x := .int .i64 m) ?_ rfl
    unfold execOp
    simp [ho, resolve, invoke, builtin, ex, Builtin.len_, hty, run_underlying hd, goInt]
def lenArrRd (n : Nat) : LVal → Rd
  | _ => one (.int .i64 n)
theorem lenArr_sound (X : Operand) (ts : Array TypeId) (ty e : TypeId) (m : Nat) (o : Oper) (ho : o.op = .call ⟨.builtin .len, #[X], ts⟩) (hty : ts[0]? = some ty) (hd : P.underlying ty = some (.array m e)) (hs : Sim T w0 ρ h w) {v : LVal} (hw : (lenArrRd m v).wp t h Φ) : Res P o a w T w0 ρ h n Φ := by
  refine Res.quiet hs hw (x := .int .i64 m) ?_ rfl
  unfold execOp
  simp [ho, resolve, invoke, builtin, Builtin.len_, hty, run_underlying hd, goInt]
/-- Slices of strings, slices, arrays. -/
def boundK (b : Option LVal) (d : Nat) (K : Prop → Nat → Rd) : Rd :=
  match b with
  | none => K True d
  | some (.int _ i) => K (0 ≤ i) i.toNat
  | _ => .fail
end
end Go.Proofs.Ytilmfhpoiejmfaa.Lh
