/- Composites; copy, clear; bytes and strings; equality. Over any program. -/
import Derived.Test.YtilmfhpoiejmfaaLh7
import Derived.Laws.BytesArg
namespace Go.Proofs.Ytilmfhpoiejmfaa.Lh
set_option linter.unusedSimpArgs false
set_option linter.unusedVariables false
set_option linter.unusedSectionVars false
open Go.RowKit
variable [Fz]
theorem foldl_set (off : Nat) : ∀ (vs : List Value) (k : Nat) (cells : Array Value), off + k + vs.length ≤ cells.size →
    ((vs.zipIdx k).foldl (fun cs (x : Value × Nat) => cs.setIfInBounds (off + x.2) x.1) cells).toList = cells.toList.take (off + k) ++ vs ++ cells.toList.drop (off + k + vs.length)
  | [], k, cells, _ => by simp
  | v :: vs, k, cells, h => by
    simp only [List.length_cons] at h
    rw [List.zipIdx_cons, List.foldl_cons]
    rw [foldl_set off vs (k + 1) _ (by simp; omega)]
    apply List.ext_getElem?
    intro i
    simp only [Array.toList_setIfInBounds, List.getElem?_append, List.length_append, List.length_take, List.length_set, Array.length_toList, List.getElem?_take, List.getElem?_set, List.getElem?_drop, List.length_cons, List.getElem?_cons]
    have hm1 : min (off + (k + 1)) cells.size = off + k + 1 := by omega
    have hm2 : min (off + k) cells.size = off + k := by omega
    rw [hm1, hm2]
    by_cases c1 : i < off + k
    · rw [if_pos (by omega), if_pos (by omega), if_pos (by omega), if_neg (by omega), if_pos (by omega), if_pos (by omega), if_pos (by omega)]
    · by_cases c2 : i = off + k
      · subst c2
        rw [if_pos (by omega), if_pos (by omega), if_pos (by omega), if_pos rfl, if_pos (by omega), if_pos (by omega), if_neg (by omega), if_pos (by omega)]
      · by_cases c3 : i < off + k + 1 + vs.length
        · rw [if_pos (by omega), if_neg (by omega), if_pos (by omega), if_neg (by omega), if_neg (by omega)]
          congr 1 <;> omega
        · rw [if_neg (by omega), if_neg (by omega), if_neg (by omega)]
          congr 1 <;> omega
theorem fill_cons {place : Nat → Option (Nat × Nat)} {cells : Array Value} {i off size : Nat} {v : Value} {rest : List (Nat × Value)} (hp : place i = some (off, size)) (hv : v.cells.size = size) (hb : off + size ≤ cells.size) :
    ∃ c2, Instr.fill place cells ((i, v) :: rest) = Instr.fill place c2 rest ∧ c2.toList = cells.toList.take off ++ v.cells.toList ++ cells.toList.drop (off + size) := by
  refine ⟨v.cells.zipIdx.foldl (fun cs (c, j) => cs.setIfInBounds (off + j) c) cells, ?_, ?_⟩
  · simp only [Instr.fill, hp]
    rw [if_neg]
    simp only [Bool.or_eq_true, decide_eq_true_eq, bne_iff_ne, ne_eq, not_or]
    omega
  · rw [← Array.foldl_toList, Array.toList_zipIdx]
    have := foldl_set off v.cells.toList 0 cells (by rw [Array.length_toList]; omega)
    rw [Nat.add_zero] at this
    rw [Array.length_toList, hv] at this
    rw [← this]
section
variable {T : Nat → Nat → Prop} {w0 : World} {ρ : Pl} {h : LHeap} {w : World} {t : List LVal} {a : Act} {Φ : LVal → List (Nat × Option LObj) → Option LObj → Prop} {P : Program} {n : Nat}
/-- Parts, by their places, into rows. -/
def partsRd (w : Nat) : List (Nat × LOpd) → (Nat → Segs) → ((Nat → Segs) → Rd) → Rd
  | [], f, K => K f
  | (i, x) :: r, f, K => x.rd fun v => cellsK v w fun s => partsRd w r (fun j => if j = i then s else f j) K
def compileParts : List (Nat × Operand) → Option (List (Nat × LOpd))
  | [] => some []
  | (i, x) :: r => match compileOpd x, compileParts r with
    | some y, some s => some ((i, y) :: s)
    | _, _ => none
theorem parts_wp (ht : TSim ρ t a) {w m : Nat} : ∀ (X : List (Nat × Operand)) (x : List (Nat × LOpd)), compileParts X = some x → (∀ p ∈ X, p.1 < m) → ∀ (f : Nat → Segs) (cells : Array Value) {K : (Nat → Segs) → Rd}, Chunks ρ w m f cells.toList → (partsRd w x f K).wp t h Φ →
    ∃ f' cells', (K f').wp t h Φ ∧ Instr.fill (fun i => some (i * w, w)) cells (X.map fun (i, x) => (i, a.eval x)) = some cells' ∧ Chunks ρ w m f' cells'.toList
  | [], x, hx, _, f, cells, K, hch, hw => by
    simp [compileParts] at hx
    subst hx
    exact ⟨f, cells, hw, rfl, hch⟩
  | (i, X) :: R, x, hx, hb, f, cells, K, hch, hw => by
    unfold compileParts at hx
    split at hx
    · rename_i y s h1 h2
      simp at hx
      subst hx
      obtain ⟨v, hv, h3⟩ := opd_wp h1 ht hw
      obtain ⟨sg, h4, h5, h6⟩ := cells_wp hv h3
      have hi : i < m := hb (i, X) (by simp)
      have e1 := mul_lt w hi
      have hl := hch.1
      obtain ⟨c2, h7, h8⟩ := fill_cons (place := fun i => some (i * w, w)) (cells := cells) (i := i) (rest := R.map fun (i, x) => (i, a.eval x)) rfl h6 (by rw [Array.length_toList] at hl; omega)
      have h9 : Chunks ρ w 1 (fun _ => sg) (a.eval X).cells.toList := ⟨by rw [Array.length_toList, h6]; omega, fun k hk => by
        have : k = 0 := by omega
        subst this
        rw [Nat.zero_mul, List.drop_zero, List.take_of_length_le (by rw [Array.length_toList]; omega)]
        exact h5⟩
      have h10 := chunks_over (k := i) hch h9 (by omega)
      rw [Nat.one_mul, ← h8] at h10
      obtain ⟨f', cells', h11, h12, h13⟩ := parts_wp ht R s h2 (fun p hp => hb p (by simp [hp])) _ c2 (chunks_congr h10 (fun j _ => by
        show _ = if j = i then sg else f j
        by_cases c : j = i
        · rw [if_pos (by omega), if_pos c]
        · rw [if_neg (by omega), if_neg c])) h4
      exact ⟨f', cells', h11, by rw [List.map_cons, h7]; exact h12, h13⟩
    · cases hx
theorem zeros_chunks {i : TypeInfo} {z : Value} {s : Segs} (hf : flatEq s z.cells.toList = true) (hsz : z.cells.size = i.size) (m : Nat) : Chunks ρ i.size m (fun _ => s) ((Array.range (m * i.size)).map (z.cells[· % z.cells.size]!)).toList := by
  have := madeCells_eq z.cells m
  rw [hsz] at this
  unfold madeCells at this
  rw [hsz] at this ⊢
  rw [this]
  exact chunks_const (flatEq_spec hf ρ) (by simp [hsz])
theorem buildSl_sound (ty : TypeId) (m : Nat) (X : Array (Nat × Operand)) (o : Oper) (ho : o.op = .buildSlice ty m X) (e : TypeId) (i : TypeInfo) (z : Value) (s : Segs) (hd : P.underlying ty = some (.slice e)) (hi : P.info? e = some i) (hz : i.zero = some z) (hf : flatEq s z.cells.toList = true) (hsz : z.cells.size = i.size) (hm : m * i.size ≤ 16777216) (h0 : i.size ≠ 0) (hb : ∀ p ∈ X.toList, p.1 < m) {x : List (Nat × LOpd)} (hx : compileParts X.toList = some x) (hs : Sim T w0 ρ h w) (ht : TSim ρ t a) (hn : ρ n = none) (hh : hget h n = none)
    (hw : (partsRd i.size x (fun _ => s) fun f => .ret (.slice ⟨n, [], 0⟩ 0 i.size m m (some m)) [] (some ⟨.rows m i.size f .nil, e, false, false⟩)).wp t h Φ) : Res P o a w T w0 ρ h n Φ := by
  obtain ⟨f, cells, h1, h2, h3⟩ := parts_wp ht X.toList x hx hb _ _ (zeros_chunks hf hsz m) hw
  have hl := h3.1
  have hzero : (if m * i.size = 0 then (pure #[] : Sem (Array Value)) else do pure (← zeroValue e).cells).run P w = .ok (if m * i.size = 0 then #[] else z.cells) w := by
    split <;> simp [zeroValue, typeInfo, hi, hz]
  refine Res.new (ob := ⟨.rows m i.size f .nil, e, false, false⟩) (c := cells) (l := cells.toList) (ex := []) (x := .slice (some ⟨w.heap.size, 0, none⟩) m m) hs hn hh (.inl rfl) rfl (by simp) (chunks_rows h3) (fun _ => rfl) (unfrozen0 _) h1 ?_ ?_
  · have e1 : ((X.map fun (i, x) => (i, a.eval x)).toList) = X.toList.map fun (i, x) => (i, a.eval x) := by simp
    unfold execOp
    simp only [ho, Instr.buildSlice, Sem.run_bind, run_underlying hd, Result.andThen_ok, sizeOf, typeInfo, run_program, hi, Sem.run_pure]
    rw [if_neg (by omega)]
    simp only [Sem.run_bind, hzero, Result.andThen_ok, e1]
    by_cases hm0 : m * i.size = 0
    · have hm1 : m = 0 := by
        rcases Nat.eq_zero_or_pos m with c | c
        · exact c
        · have := Nat.mul_pos c (Nat.pos_of_ne_zero h0); omega
      subst hm1
      have hX : X.toList = [] := by
        cases hq : X.toList with
        | nil => rfl
        | cons p r => exact absurd (hb p (by rw [hq]; simp)) (by omega)
      have hc : cells = #[] := by
        have : cells.toList = [] := List.eq_nil_of_length_eq_zero (by rw [hl]; simp)
        simpa using this
      subst hc
      have e9 : ∀ g : Nat → Value, Array.map g (Array.range 0) = #[] := fun g => by simp
      simp [hX, Instr.fill, newRow, e9]
    · rw [if_neg hm0]
      have hz2 : (zeroValue e).run P w = .ok z w := by simp [zeroValue, typeInfo, hi, hz]
      simp only [Sem.run_bind, hz2, Result.andThen_ok, Sem.run_pure, h2]
      simp [newRow]
  · refine ⟨_, _, rfl, .inr ⟨w.heap.size, 0, (cells.toList ++ []).length, by simp [Pl.put], by simp [LAddr.cell, pathSum], Nat.le_refl _, Nat.le_refl _, fun x hx => by cases hx; exact Nat.le_refl _, ?_⟩⟩
    simp only [LAddr.cell, pathSum, List.append_nil, hl, Nat.zero_add]
    exact Nat.le_refl _
theorem buildArr_sound (ty : TypeId) (m : Nat) (X : Array (Nat × Operand)) (o : Oper) (ho : o.op = .build ty X) (e : TypeId) (i it : TypeInfo) (z zt : Value) (s : Segs) (hd : P.underlying ty = some (.array m e)) (hi : P.info? e = some i) (hz : i.zero = some z) (hf : flatEq s z.cells.toList = true) (hsz : z.cells.size = i.size) (hit : P.info? ty = some it) (hzt : it.zero = some zt) (hft : flatEq (.rows m i.size (fun _ => s) .nil) zt.cells.toList = true) (hb : ∀ p ∈ X.toList, p.1 < m) {x : List (Nat × LOpd)} (hx : compileParts X.toList = some x) (hs : Sim T w0 ρ h w) (ht : TSim ρ t a)
    (hw : (partsRd i.size x (fun _ => s) fun f => one (.agg (.rows m i.size f .nil))).wp t h Φ) : Res P o a w T w0 ρ h n Φ := by
  obtain ⟨l1, l2, e1, h3, h4⟩ := rows_chunks (flatEq_spec hft ρ)
  have h4 : l2 = [] := h4
  subst h4
  rw [List.append_nil] at e1
  rw [← e1] at h3
  obtain ⟨f, cells, h1, h2, h5⟩ := parts_wp ht X.toList x hx hb _ _ h3 hw
  refine Res.quiet hs h1 (x := .agg cells) ?_ ⟨cells.toList, chunks_rows h5, rfl⟩
  have e1 : ((X.map fun (i, x) => (i, a.eval x)).toList) = X.toList.map fun (i, x) => (i, a.eval x) := by simp
  unfold execOp
  simp [ho, Instr.build, zeroValue, typeInfo, hit, hzt, run_underlying hd, sizeOf, hi, e1, h2]
/-- A struct's parts. -/
def fieldsRd : List (Nat × Nat × LOpd) → Segs → (Segs → Rd) → Rd
  | [], s, K => K s
  | (off, m, x) :: r, s, K => x.rd fun v => cellsK v m fun y => atK s off (fun s1 K1 => skipK s1 m (fun q => appK y q K1) .fail) (fun s' => fieldsRd r s' K) .fail
def compileFields (P : Program) (fs : Array Field) : List (Nat × Operand) → Option (List (Nat × Nat × LOpd))
  | [] => some []
  | (i, x) :: r => match fs[i]? with
    | some f => match P.info? f.type, compileOpd x, compileFields P fs r with
      | some ti, some y, some s => some ((f.offset, ti.size, y) :: s)
      | _, _, _ => none
    | none => none
theorem fields_wp (ht : TSim ρ t a) (fs : Array Field) (places : Array (Nat × Nat)) (hpl : ∀ (i : Nat) (f : Field), fs[i]? = some f → ∀ ti, P.info? f.type = some ti → places[i]? = some (f.offset, ti.size)) : ∀ (X : List (Nat × Operand)) (x : List (Nat × Nat × LOpd)), compileFields P fs X = some x → ∀ (s : Segs) (cells : Array Value) {K : Segs → Rd}, PS ρ s cells.toList → (fieldsRd x s K).wp t h Φ →
    ∃ s' cells', (K s').wp t h Φ ∧ Instr.fill (places[·]?) cells (X.map fun (i, x) => (i, a.eval x)) = some cells' ∧ PS ρ s' cells'.toList
  | [], x, hx, s, cells, K, hp, hw => by
    simp [compileFields] at hx
    subst hx
    exact ⟨s, cells, hw, rfl, hp⟩
  | (i, X) :: R, x, hx, s, cells, K, hp, hw => by
    unfold compileFields at hx
    split at hx
    · rename_i f hf
      split at hx
      · rename_i ti y r h1 h2 h3
        simp at hx
        subst hx
        obtain ⟨v, hv, h4⟩ := opd_wp h2 ht hw
        obtain ⟨sg, h5, h6, h7⟩ := cells_wp hv h4
        obtain ⟨s1, rb, h8, h9⟩ := at_wp _ _ _ h5
        obtain ⟨s2, h10, h11⟩ := skip_wp _ _ h8
        obtain ⟨s3, h12, h13⟩ := app_wp _ _ _ h10
        obtain ⟨b1, b2, e1, e2, e3, e4⟩ := h9 ρ _ hp
        obtain ⟨c1, c2, rfl, e5, e6⟩ := h11 ρ b2 e3
        have hsz : cells.size = b1.length + c1.length + c2.length := by
          rw [← Array.length_toList, e1]; simp; omega
        obtain ⟨cc, h14, h15⟩ := fill_cons (place := (places[·]?)) (cells := cells) (i := i) (rest := R.map fun (i, x) => (i, a.eval x)) (hpl i f hf ti h1) h7 (by omega)
        have h16 := e4 ρ _ _ (Ext.refl ρ) (h13 ρ _ _ h6 e6)
        have h17 : cc.toList = b1 ++ ((a.eval X).cells.toList ++ c2) := by
          rw [h15, e1]
          have := splice (A := b1) (B := c1) (C := c2) (Y := (a.eval X).cells.toList) (by rw [Array.length_toList]; omega) (k := f.offset) e2.symm
          rw [Array.length_toList, h7] at this
          exact this
        rw [← h17] at h16
        obtain ⟨s', cells', h18, h19, h20⟩ := fields_wp ht fs places hpl R r h3 _ cc h16 h12
        exact ⟨s', cells', h18, by rw [List.map_cons, h14]; exact h19, h20⟩
      · cases hx
    · cases hx
theorem buildSt_sound (ty : TypeId) (X : Array (Nat × Operand)) (o : Oper) (ho : o.op = .build ty X) (fs : Array Field) (it : TypeInfo) (zt : Value) (s : Segs) (hd : P.underlying ty = some (.struct fs)) (hit : P.info? ty = some it) (hzt : it.zero = some zt) (hf : flatEq s zt.cells.toList = true) (hall : ∀ f ∈ fs.toList, (P.info? f.type).isSome = true) {x : List (Nat × Nat × LOpd)} (hx : compileFields P fs X.toList = some x) (hs : Sim T w0 ρ h w) (ht : TSim ρ t a)
    (hw : (fieldsRd x s fun s' => one (.agg s')).wp t h Φ) : Res P o a w T w0 ρ h n Φ := by
  have e1 : ((X.map fun (i, x) => (i, a.eval x)).toList) = X.toList.map fun (i, x) => (i, a.eval x) := by simp
  have hmap : ∀ l : List Field, (∀ f ∈ l, (P.info? f.type).isSome = true) → (List.mapM (fun f => do pure (f.offset, ← sizeOf f.type) : Field → Sem (Nat × Nat)) l).run P w = .ok (l.map fun f => (f.offset, ((P.info? f.type).map (·.size)).getD 0)) w := by
    intro l
    induction l with
    | nil => intro _; simp
    | cons f r ih =>
      intro hl
      obtain ⟨ti, hti⟩ := Option.isSome_iff_exists.1 (hl f (by simp))
      have h1 : (do pure (f.offset, ← sizeOf f.type) : Sem (Nat × Nat)).run P w = .ok (f.offset, ti.size) w := by simp [sizeOf, typeInfo, hti]
      rw [List.mapM_cons, Sem.run_bind, h1]
      simp only [Result.andThen_ok, Sem.run_bind, ih (fun g hg => hl g (by simp [hg])), Sem.run_pure]
      simp [hti]
  have hpl : ∀ (i : Nat) (f : Field), fs[i]? = some f → ∀ ti, P.info? f.type = some ti → ((fs.toList.map fun f => (f.offset, ((P.info? f.type).map (·.size)).getD 0)).toArray)[i]? = some (f.offset, ti.size) := by
    intro i f hf ti hti
    simp [hf, hti]
  obtain ⟨s', cells, h1, h2, h3⟩ := fields_wp ht fs _ hpl X.toList x hx s zt.cells (flatEq_spec hf ρ) hw
  refine Res.quiet hs h1 (x := .agg cells) ?_ ⟨cells.toList, h3, rfl⟩
  unfold execOp
  simp only [ho, Instr.build, zeroValue, typeInfo, Sem.run_bind, run_program, Result.andThen_ok, hit, hzt, run_underlying hd, Sem.run_pure, e1]
  rw [Array.mapM_eq_mapM_toList, Sem.run_map, hmap fs.toList hall]
  simp only [Result.andThen_ok]
  rw [h2]
  rfl
/-- Copy. -/
def copyRd (w : Nat) (x y : LVal) : Rd :=
  match x with
  | .slice p st w' len _ _ => srcK w y fun m g _ => match Nat.beq w' 0 with
    | true => match Nat.beq len 0 with
      | true => one (.int .i64 0)
      | false => .fail
    | false => match Nat.beq w w' with
      | false => .fail
      | true => .obj p.blk fun o => match o.ro with
        | true => .fail
        | false => pmodK p.path o.segs (fun s K => atK s p.off (fun s1 K1 => match s1 with
          | .rows k w2 f q => match Nat.beq w w2 with
            | true => .need (st + len ≤ k) (K1 (.rows k w (fun j => if st ≤ j ∧ j < st + min m len then g (j - st) else f j) q))
            | false => .fail
          | _ => .fail) K .fail) fun s' => .ret (.int .i64 ((min m len : Nat) : Int)) [(p.blk, some ⟨s', o.ty, o.more, false⟩)] none
  | _ => .fail
theorem copy_sound (X Y : Operand) (tS tX e : TypeId) (i : TypeInfo) (o : Oper) (ho : o.op = .call ⟨.builtin .copy, #[X, Y], #[tS, tX]⟩) (ht : P.underlying tS = some (.slice e)) (hi : P.info? e = some i)
    (hs : Sim T w0 ρ h w) {v y : LVal} (hv : PV ρ v (a.eval X)) (hy : PV ρ y (a.eval Y)) (hw : (copyRd i.size v y).wp t h Φ) : Res P o a w T w0 ρ h n Φ := by
  cases v <;> try exact hw.elim
  rename_i p st w' len lo hi'
  obtain ⟨q, cap, ex, hc⟩ := hv
  simp only [copyRd] at hw
  obtain ⟨m, g, yb, l, h1, hch, hlen, hfc, _, hyb⟩ := src_wp (P := P) hs hy hw
  have hl := hch.1
  have exec : ∀ {v : Value} {w1 : World}, (Builtin.copy_ #[tS, tX] o.type #[a.eval X, a.eval Y]).run P w = .ok v w1 → (execOp a.eval o).run P w = .ok (.value v) w1 := by
    intro v w1 hr
    unfold execOp
    simp [ho, resolve, invoke, builtin, hr]
  have hfc' := hfc (min m len) (by omega) w rfl
  have none_ : min m len = 0 → (Builtin.copy_ #[tS, tX] o.type #[a.eval X, a.eval Y]).run P w = .ok (.int .i64 0) w := by
    intro h0
    rw [h0, Nat.zero_mul, List.take_zero] at hfc'
    rw [ex]
    cases q <;> simp [Builtin.copy_, run_underlying ht, hlen, h0, sizeOf, typeInfo, hi, hfc', goInt, storeCells, Nat.min_eq_min]
  split at h1
  · split at h1
    · rename_i hb1 hb2
      have hb2 := Nat.eq_of_beq_eq_true hb2
      subst hb2
      exact Res.quiet hs h1 (exec (none_ (by omega))) rfl
    · exact h1.elim
  · split at h1
    · exact h1.elim
    · rename_i hb0 hb1
      have hb1 := Nat.eq_of_beq_eq_true hb1
      subst hb1
      simp only [Rd.wp, hgetK_eq] at h1
      cases hg : hget h p.blk with
      | none => simp [hg] at h1
      | some ob =>
        simp only [hg] at h1
        split at h1
        · exact h1.elim
        rename_i hro
        obtain ⟨s1, rb, h2, h3⟩ := pmod_wp _ _ _ h1
        obtain ⟨s2, rb2, h4, h5⟩ := at_wp _ _ _ h2
        cases s2 <;> try exact h4.elim
        rename_i k w2 f qq
        simp only at h4
        split at h4
        · rename_i hb
          have hb := Nat.eq_of_beq_eq_true hb
          subst hb
          obtain ⟨h6, h8⟩ := h4
          have hsub : Chunks ρ i.size (min m len) g (l.take (min m len * i.size)) := by
            have := chunks_sub (st := 0) (m := min m len) hch (by omega)
            simp only [Nat.zero_mul, List.drop_zero, Nat.zero_add] at this
            exact this
          have h7 : st + min m len ≤ k := by omega
          by_cases h0 : min m len = 0
          · -- nothing is copied
            have hnil : l.take (min m len * i.size) = [] := by rw [h0]; simp
            refine ⟨_, _, _, .int .i64 0, ρ, w, h8, .inl (exec (none_ h0)), Ext.refl ρ, fun _ _ => rfl, by rw [h0]; rfl, ?_⟩
            simp only [applyU, updU]
            rcases hs.obj _ _ hg with ⟨g2, b2, n2, obj, e1, e2, e3, hT⟩ | ⟨e1, e2⟩
            · obtain ⟨pre, lr, exx, fr, rfl, hlr, hmore, hpre, hn2, hfr⟩ := e3
              obtain ⟨x1, x2, x3, rfl, _, f2, f3⟩ := over_PS (at_ := st) (m := min m len) h3 h5 hsub h7 hlr
              rw [hnil] at f2 f3
              have f2 : x2 = [] := List.eq_nil_of_length_eq_zero (by simpa using f2)
              subst f2
              exact hs.turn (o' := ⟨_, ob.ty, ob.more, false⟩) hro rfl hg e1 ⟨pre, _, exx, fr, rfl, f3, hmore, hpre, hn2, fun _ => hfr hro⟩ e2 rfl (fun _ _ => rfl) rfl rfl rfl
            · obtain ⟨x1, x2, x3, f1, _, f2, f3⟩ := over_PS (at_ := st) (m := min m len) h3 h5 hsub h7 (e2.ps hro)
              rw [hnil] at f2 f3
              have f2 : x2 = [] := List.eq_nil_of_length_eq_zero (by simpa using f2)
              subst f2
              have f1 := f1.symm
              rw [f1] at f3
              have := (hs.kill p.blk).empty e1 (by rw [hget_hset, if_pos rfl]) (o := ⟨_, ob.ty, ob.more, false⟩) f3
              rw [hset_hset] at this
              exact this
          · rcases hc with ⟨c1, c2, c3⟩ | ⟨g', b, n', r1, rfl, r2, r3, r4, r5⟩
            · omega
            · rcases hs.obj _ _ hg with ⟨g2, b2, n2, obj, e1, e2, e3, hT⟩ | ⟨e1, _⟩
              · rw [r1] at e1
                cases e1
                obtain ⟨pre, lr, exx, fr, rfl, hlr, hmore, hpre, hn2, hfr⟩ := e3
                obtain ⟨x1, x2, x3, rfl, f1, f2, f3⟩ := over_PS (at_ := st) (m := min m len) h3 h5 hsub h7 hlr
                generalize hlc : l.take (min m len * i.size) = lc at *
                have hone := PS.oneCells _ _ (chunks_rows hsub)
                have hoff : (pre ++ x1).length = b + (p.cell + st * i.size) := by
                  rw [List.length_append, hpre, f1]; simp only [LAddr.cell] <;> omega
                have hC : (pre ++ (x1 ++ (x2 ++ x3)) ++ exx).toArray.toList = (pre ++ x1) ++ (x2 ++ (x3 ++ exx)) := by simp
                have hCs : (pre ++ (x1 ++ (x2 ++ x3)) ++ exx).toArray.size = (pre ++ x1).length + x2.length + x3.length + exx.length := by simp; omega
                obtain ⟨k1, k2, k3, k4, k5, k6⟩ := setCells_heap g' lc w (b + (p.cell + st * i.size)) _ _ _ e2 (by rw [hCs, hoff]; omega)
                rw [hC, splice f2.symm hoff.symm] at k1
                have hth : ∀ j, j < lc.length → (w.cell? ⟨g', b + (p.cell + st * i.size) + 0 + j, none⟩).isSome = true ∧ w.frozen? ⟨g', b + (p.cell + st * i.size) + 0 + j, none⟩ = false := by
                  intro j hj
                  have hj2 : b + (p.cell + st * i.size) + 0 + j < (pre ++ (x1 ++ (x2 ++ x3)) ++ exx).toArray.size := by rw [hCs, hoff]; omega
                  refine ⟨?_, unfrozen_at e2 (by simpa using hfr hro) hj2⟩
                  rw [cell_of_row w g' _ _ _ _ e2, Array.getElem?_eq_getElem hj2]
                  rfl
                have hst := run_storeCells_cells (P := P) g' (b + (p.cell + st * i.size)) lc 0 w (fun j hj => (hth j hj).1) (fun j hj => (hth j hj).2) hone
                simp only [Nat.add_zero] at hst
                refine ⟨_, _, _, .int .i64 ((min m len : Nat) : Int), ρ, _, h8, .inl (exec (w1 := w.setCells g' (b + (p.cell + st * i.size)) lc) ?_), Ext.refl ρ, fun _ _ => rfl, rfl, ?_⟩
                · rw [ex]
                  simp [Builtin.copy_, run_underlying ht, hlen, sizeOf, typeInfo, hi, Nat.min_eq_min, hfc', goInt, hst]
                · simp only [applyU, updU]
                  refine hs.turn hro rfl hg r1 ?_ k1 k2 k3 k4 k5 k6
                  refine ⟨pre, x1 ++ (lc ++ x3), exx, fr, by simp, f3, hmore, hpre, ?_, ?_⟩
                  · rw [hn2]; simp [f2]
                  · intro _ y hy'; exact hfr hro y (by simp only [List.length_append, f2] at hy' ⊢; omega)
              · rw [r1] at e1; cases e1
        · exact h4.elim
/-- Bytes as a string. -/
def segInt : Segs → Int
  | .one (.int _ n) _ => n
  | _ => 0
def isByte : Segs → Bool
  | .one (.int k _) .nil => kEq k .u8
  | _ => false
def bytesOf (g : Nat → Segs) (m : Nat) : ByteArray := ⟨((List.range m).map fun i => UInt8.ofNat (segInt (g i)).toNat).toArray⟩
def toStrRd (y : LVal) : Rd :=
  match y with
  | .slice p st w' len lo hi => srcK 1 (.slice p st w' len lo hi) fun m g _ => .need (∀ i, i < m → isByte (g i) = true) (one (.str (bytesOf g m)))
  | .rsl n w f => srcK 1 (.rsl n w f) fun m g _ => .need (∀ i, i < m → isByte (g i) = true) (one (.str (bytesOf g m)))
  | _ => .fail
theorem toStr_sound (src dst : TypeId) (X : Operand) (o : Oper) (ho : o.op = .convert src dst X) (e : TypeId) (h1 : P.underlying src = some (.slice e)) (h2 : P.underlying dst = some .string) (h3 : P.underlying e = some (.int .u8)) (hs : Sim T w0 ρ h w) {v : LVal} (hv : PV ρ v (a.eval X)) (hw : (toStrRd v).wp t h Φ) : Res P o a w T w0 ρ h n Φ := by
  obtain ⟨q, len, cap, ex, hc, hw⟩ : ∃ q len cap, a.eval X = .slice q len cap ∧ (q = none → len = 0) ∧ (srcK 1 v fun m g _ => .need (∀ i, i < m → isByte (g i) = true) (one (.str (bytesOf g m)))).wp t h Φ := by
    cases v <;> try exact hw.elim
    · obtain ⟨q, cap, ex, hc⟩ := hv
      refine ⟨q, _, cap, ex, fun hq => ?_, hw⟩
      rcases hc with ⟨c1, _, _⟩ | ⟨_, _, _, _, c, _⟩
      · exact c1
      · rw [hq] at c; cases c
    · obtain ⟨q, cap, ex, _, hc⟩ := hv
      refine ⟨q, _, cap, ex, fun hq => ?_, hw⟩
      rcases hc with c1 | ⟨_, _, _, c, _⟩
      · exact c1
      · rw [hq] at c; cases c
  obtain ⟨m, g, yb, l, h4, hch, hlen, hfc, _, hyb⟩ := src_wp (P := P) hs hv hw
  obtain ⟨hb, h5⟩ := h4
  have hm : len = m := by
    have := hlen w
    rw [ex] at this
    simpa [Builtin.lenOf] using this
  subst hm
  have hl := hch.1
  rw [Nat.mul_one] at hl
  have hall := hfc len (Nat.le_refl _) w rfl
  rw [ex, Nat.mul_one, List.take_of_length_le (by omega)] at hall
  -- each cell is a byte
  have hlist : l = ((List.range len).map fun i => segInt (g i)).map (Value.int .u8) := by
    apply List.ext_getElem?
    intro i
    rw [List.getElem?_map, List.getElem?_map]
    by_cases hi : i < len
    · rw [List.getElem?_range hi]
      have h6 := hch.2 i hi
      have h7 := hb i hi
      cases hgi : g i with
      | nil => rw [hgi] at h7; cases h7
      | res A => rw [hgi] at h7; cases h7
      | rows a b c d => rw [hgi] at h7; cases h7
      | one u r =>
        rw [hgi] at h7 h6
        cases u <;> try (cases h7; done)
        rename_i kk k
        cases r <;> try (cases h7; done)
        have hk := kEq_spec h7
        subst hk
        obtain ⟨x, l', e1, e2, _, e3⟩ := h6
        have e2 : x = .int .u8 k := e2
        subst e2
        have := congrArg (fun z => z[0]?) e1
        simp only [List.getElem?_cons_zero, List.getElem?_take, Nat.lt_one_iff, if_pos, List.getElem?_drop, Nat.mul_one, Nat.add_zero] at this
        simpa [segInt, hgi] using this
    · rw [List.getElem?_eq_none (by omega), List.getElem?_eq_none (by simpa using hi)]
      rfl
  refine Res.quiet hs h5 (x := .string (bytesOf g len)) ?_ rfl
  have hconv : (Conv.bytesToString (.slice q len cap)).run P w = .ok (.string (bytesOf g len)) w := by
    cases q with
    | none =>
      have c1 := hc rfl
      subst c1
      simp [Conv.bytesToString, bytesOf]
      rfl
    | some p =>
      have hall' : (loadCells p len).run P w = .ok l.toArray w := by
        simpa [Builtin.firstCells] using hall
      rw [hlist] at hall'
      rw [run_bytesToString w p len cap _ hall', foldl_push_bytes]
      congr 2
      unfold bytesOf
      congr 1
      show (#[] : Array UInt8) ++ _ = _
      simp
  unfold execOp
  simp only [ho, ex, convert, run_underlying h1, run_underlying h2, run_underlying h3, Sem.run_bind, Result.andThen_ok, hconv, Sem.run_pure]
/-- A string as bytes. -/
def toBytesRd (n : Nat) (e : TypeId) : LVal → Rd
  | .str s => .ret (.slice ⟨n, [], 0⟩ 0 1 s.size s.size none) [] (some ⟨.rows s.size 1 (byteSeg s) .nil, e, true, false⟩)
  | _ => .fail
theorem toBytes_sound (src dst : TypeId) (X : Operand) (o : Oper) (ho : o.op = .convert src dst X) (e : TypeId) (h1 : P.underlying src = some .string) (h2 : P.underlying dst = some (.slice e)) (h3 : P.underlying e = some (.int .u8)) (hs : Sim T w0 ρ h w) (hn : ρ n = none) (hh : hget h n = none) {v : LVal} (hv : PV ρ v (a.eval X)) (hw : (toBytesRd n e v).wp t h Φ) : Res P o a w T w0 ρ h n Φ := by
  cases v <;> try exact hw.elim
  rename_i s
  have ex : a.eval X = .string s := hv
  have hch : Chunks ρ 1 s.size (byteSeg s) (s.data.toList.map fun b => Value.int .u8 b.toNat) := by
    refine ⟨by simp, fun i hi => ?_⟩
    have hi' : i < s.data.toList.length := by simpa using hi
    rw [Nat.mul_one, List.drop_eq_getElem_cons (by simpa using hi'), List.take_succ_cons, List.take_zero]
    refine ⟨_, [], rfl, ?_, by rw [List.getElem_map]; rfl, rfl⟩
    show _ = _
    rw [List.getElem_map, List.getD_eq_getElem?_getD, List.getElem?_eq_getElem hi']
    rfl
  generalize hc : (Question.appendCap s.size 0 e).cut (w.tape w.drawn (.appendCap s.size 0 e)) = c
  have hcs : s.size ≤ c := by rw [← hc]; exact grownCap_ge w s.size 0 e
  have hcells : (s.data.map (fun b => Value.int .u8 b.toNat) ++ Array.replicate (c - s.size) (Value.int .u8 0)) = ((s.data.toList.map fun b => Value.int .u8 b.toNat) ++ List.replicate (c - s.size) (Value.int .u8 0)).toArray := by
    apply Array.ext'
    simp
  have hsz : ((s.data.toList.map fun b => Value.int .u8 b.toNat) ++ List.replicate (c - s.size) (Value.int .u8 0)).length = c := by
    simp; omega
  refine Res.new (ob := ⟨.rows s.size 1 (byteSeg s) .nil, e, true, false⟩) (c := ((s.data.toList.map fun b => Value.int .u8 b.toNat) ++ List.replicate (c - s.size) (Value.int .u8 0)).toArray) (fr := (c, c + 1)) (x := .slice (some ⟨w.heap.size, 0, none⟩) s.size c) hs hn hh (.inr rfl) rfl rfl (chunks_rows hch) (fun x => by cases x) ?_ hw ?_ ?_
  · intro i hi
    rw [hsz] at hi
    omega
  · unfold execOp
    simp only [ho, ex, convert, run_underlying h1, run_underlying h2, run_underlying h3, Sem.run_bind, Result.andThen_ok, Conv.stringToBytes, run_choose]
    rw [if_neg (by simp [Question.forced])]
    simp only [Result.andThen_ok, hc, hcells, newRow, Sem.run_bind, run_newObj, Sem.run_pure, markStringish, run_shape]
    have hshape : ({ w with drawn := w.drawn + 1, heap := w.heap.push (Obj.cells ((s.data.toList.map fun b => Value.int .u8 b.toNat) ++ List.replicate (c - s.size) (Value.int .u8 0)).toArray e) } : World).shape? w.heap.size = some (e, c) := by
      simp only [World.shape?, Array.getElem?_push_size, List.size_toArray, hsz]
    simp only [hshape, run_freeze, Result.andThen_ok, Sem.run_pure, Sem.run_bind]
    congr 1
    unfold World.freeze World.alloc World.drew
    rw [if_neg (by decide)]
    congr 1
    apply Array.ext_getElem?
    intro i
    rw [Array.getElem?_modify, Array.getElem?_push, Array.getElem?_push]
    by_cases ci : w.heap.size = i
    · subst ci
      simp
    · rw [if_neg ci, if_neg (fun e => ci e.symm), if_neg (fun e => ci e.symm)]
  · refine ⟨_, _, rfl, .inr ⟨w.heap.size, 0, _, by simp only [Pl.put, if_pos]; rfl, by simp [LAddr.cell, pathSum], Nat.le_refl _, hcs, (fun x hx => by cases hx), ?_⟩⟩
    rw [hsz]
    simp [LAddr.cell, pathSum]
end
end Go.Proofs.Ytilmfhpoiejmfaa.Lh
