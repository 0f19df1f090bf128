/- Pieces of blocks: gone into, taken, replaced; a reader of the heap of the mind. Over any program. -/
import Derived.Test.YtilmfhpoiejmfaaLh1
namespace Go.Proofs.Ytilmfhpoiejmfaa.Lh
set_option linter.unusedSimpArgs false
set_option linter.unusedVariables false
set_option linter.unusedSectionVars false
variable [Fz]
def segW : Segs → Nat
  | .nil => 0
  | .one _ r => 1 + segW r
  | .rows n w _ r => n * w + segW r
  | .res _ => 0
theorem flatten_length_const {w : Nat} : ∀ (ls : List (List Value)), (∀ i, i < ls.length → ∃ y, ls[i]? = some y ∧ y.length = w) → ls.flatten.length = ls.length * w
  | [], _ => by simp
  | x :: ls, h => by
    have h0 := h 0 (by simp)
    obtain ⟨y, hy, hw⟩ := h0
    simp at hy
    subst hy
    have := flatten_length_const ls (fun i hi => by
      obtain ⟨y, hy, hw'⟩ := h (i + 1) (by simpa using hi)
      exact ⟨y, by simpa using hy, hw'⟩)
    simp only [List.flatten_cons, List.length_append, List.length_cons, this, hw]
    rw [Nat.add_mul]; omega
theorem PS.length {ρ : Pl} : ∀ (s : Segs) (l : List Value), PS ρ s l → l.length = segW s
  | .nil, l, h => by
    have : l = [] := h
    subst this; rfl
  | .one v r, l, h => by
    obtain ⟨x, l', rfl, _, _, h4⟩ := h
    have := PS.length r l' h4
    simp only [segW, List.length_cons, this]; omega
  | .rows n w f r, l, h => by
    obtain ⟨ls, l', rfl, h2, h3, h4⟩ := h
    have := PS.length r l' h4
    have hf := flatten_length_const (w := w) ls (fun i hi => by
      obtain ⟨y, hy, hw, _⟩ := h3 i (by omega)
      exact ⟨y, hy, hw⟩)
    simp only [segW, List.length_append, this, hf, h2]
  | .res _, l, h => False.elim h
/-- What is read, asked and done. -/
inductive Rd where
  | ret (v : LVal) (u : List (Nat × Option LObj)) (nw : Option LObj)
  | tmp (i : Nat) (k : LVal → Rd)
  | obj (b : Nat) (k : LObj → Rd)
  | need (p : Prop) (k : Rd)
  | ite (b : Bool) (x y : Rd)
  | allB (p : Bool → Prop) (k : Bool → Rd)
  | fail
section
variable {α : Type}
def getK : List LVal → Nat → (LVal → α) → α
  | [], _, K => K .undef
  | x :: _, 0, K => K x
  | _ :: r, n + 1, K => getK r n K
def hgetK : LHeap → Nat → (LObj → α) → α → α
  | [], _, _, F => F
  | none :: _, 0, _, F => F
  | some o :: _, 0, K, _ => K o
  | _ :: r, n + 1, K, F => hgetK r n K F
def setK : List LVal → Nat → LVal → (List LVal → α) → α
  | [], _, _, K => K []
  | _ :: r, 0, v, K => K (v :: r)
  | x :: r, n + 1, v, K => setK r n v (fun r' => K (x :: r'))
def hsetK : LHeap → Nat → Option LObj → (LHeap → α) → α
  | [], 0, o, K => K [o]
  | [], n + 1, o, K => hsetK [] n o (fun r => K (none :: r))
  | _ :: r, 0, o, K => K (o :: r)
  | x :: r, n + 1, o, K => hsetK r n o (fun r' => K (x :: r'))
def updK : LHeap → List (Nat × Option LObj) → (LHeap → α) → α
  | h, [], K => K h
  | h, (i, o) :: r, K => hsetK h i o (fun h' => updK h' r K)
def applyK (h : LHeap) (u : List (Nat × Option LObj)) (n : Nat) (nw : Option LObj) (K : LHeap → α) : α :=
  updK h u fun h' => match nw with
    | none => K h'
    | some o => hsetK h' n (some o) K
def natKs : List Nat → Nat → (Nat → α) → α
  | [], n, K => K n
  | m :: r, n, K => match Nat.beq n m with
    | true => K m
    | false => natKs r n K
/-- A number, worked out. -/
def natK (n : Nat) (K : Nat → α) : α := natKs [0, 1, 2, 3, 4, 5, 6, 7, 8, 9, 10, 11, 12, 13, 14, 15, 16, 17, 18, 19, 20, 21, 22, 23, 24, 25, 26, 27, 28, 29, 30, 31, 32, 33, 34, 35, 36, 37, 38, 39, 40, 41, 42, 43, 44, 45, 46, 47, 48, 49, 50, 51, 52, 53, 54, 55, 56, 57, 58, 59, 60, 61, 62, 63] n K
theorem natKs_eq (l : List Nat) (n : Nat) (K : Nat → α) : natKs l n K = K n := by
  induction l with
  | nil => rfl
  | cons m r ih =>
    unfold natKs
    split
    · rename_i hb
      rw [Nat.eq_of_beq_eq_true hb]
    · exact ih
theorem natK_eq (n : Nat) (K : Nat → α) : natK n K = K n := natKs_eq _ n K
def lenK : LHeap → Nat → (Nat → α) → α
  | [], n, K => natK n K
  | _ :: r, n, K => lenK r (n + 1) K
def lget : List LVal → Nat → LVal
  | [], _ => .undef
  | x :: _, 0 => x
  | _ :: r, n + 1 => lget r n
def lset : List LVal → Nat → LVal → List LVal
  | [], _, _ => []
  | _ :: r, 0, v => v :: r
  | x :: r, n + 1, v => x :: lset r n v
theorem getK_eq (t : List LVal) (i : Nat) (K : LVal → α) : getK t i K = K (lget t i) := by
  induction t generalizing i with
  | nil => rfl
  | cons x r ih => cases i <;> simp [getK, lget, ih]
theorem setK_eq (t : List LVal) (i : Nat) (v : LVal) (K : List LVal → α) : setK t i v K = K (lset t i v) := by
  induction t generalizing i K with
  | nil => rfl
  | cons x r ih => cases i <;> simp [setK, lset, ih]
theorem hgetK_eq (h : LHeap) (i : Nat) (K : LObj → α) (F : α) : hgetK h i K F = match hget h i with | some o => K o | none => F := by
  induction h generalizing i with
  | nil => rfl
  | cons x r ih => cases i <;> cases x <;> simp [hgetK, hget, ih]
theorem hsetK_eq (h : LHeap) (i : Nat) (o : Option LObj) (K : LHeap → α) : hsetK h i o K = K (hset h i o) := by
  induction i generalizing h K with
  | zero => cases h <;> rfl
  | succ n ih => cases h <;> simp [hsetK, hset, ih]
def updU : LHeap → List (Nat × Option LObj) → LHeap
  | h, [] => h
  | h, (i, o) :: r => updU (hset h i o) r
def applyU (h : LHeap) (u : List (Nat × Option LObj)) (n : Nat) (nw : Option LObj) : LHeap :=
  match nw with
  | none => updU h u
  | some o => hset (updU h u) n (some o)
theorem updK_eq (h : LHeap) (u : List (Nat × Option LObj)) (K : LHeap → α) : updK h u K = K (updU h u) := by
  induction u generalizing h with
  | nil => rfl
  | cons x r ih => obtain ⟨i, o⟩ := x; simp [updK, updU, hsetK_eq, ih]
theorem applyK_eq (h : LHeap) (u : List (Nat × Option LObj)) (n : Nat) (nw : Option LObj) (K : LHeap → α) : applyK h u n nw K = K (applyU h u n nw) := by
  unfold applyK applyU
  rw [updK_eq]
  cases nw <;> simp [hsetK_eq]
theorem lenK_eq (h : LHeap) (n : Nat) (K : Nat → α) : lenK h n K = K (n + h.length) := by
  induction h generalizing n with
  | nil => exact natK_eq n K
  | cons x r ih => simp only [lenK, ih, List.length_cons]; congr 1; omega
def skipK : Segs → Nat → (Segs → α) → α → α
  | s, 0, K, _ => K s
  | .one _ r, o + 1, K, F => skipK r o K F
  | .rows n w _ r, o + 1, K, F => match Nat.ble (n * w) (o + 1) with
    | true => skipK r (o + 1 - n * w) K F
    | false => F
  | .nil, _ + 1, _, F => F
  | .res _, _ + 1, _, F => F
def takeK : Segs → Nat → (Segs → α) → α → α
  | _, 0, K, _ => K .nil
  | .one v r, m + 1, K, F => takeK r m (fun x => K (.one v x)) F
  | .rows n w f r, m + 1, K, F => match Nat.ble (n * w) (m + 1) with
    | true => takeK r (m + 1 - n * w) (fun x => K (.rows n w f x)) F
    | false => F
  | .nil, _ + 1, _, F => F
  | .res _, _ + 1, _, F => F
def appK : Segs → Segs → (Segs → α) → α
  | .nil, y, K => K y
  | .res _, y, K => K y
  | .one v r, y, K => appK r y (fun x => K (.one v x))
  | .rows n w f r, y, K => appK r y (fun x => K (.rows n w f x))
def atK : Segs → Nat → (Segs → (Segs → α) → α) → (Segs → α) → α → α
  | s, 0, h, K, _ => h s K
  | .one v r, o + 1, h, K, F => atK r o h (fun x => K (.one v x)) F
  | .rows n w f r, o + 1, h, K, F => match Nat.ble (n * w) (o + 1) with
    | true => atK r (o + 1 - n * w) h (fun x => K (.rows n w f x)) F
    | false => F
  | .nil, _ + 1, _, _, F => F
  | .res _, _ + 1, _, _, F => F
end
/-- Rows gone into. -/
def pathK : List (Nat × Nat × Nat) → Segs → (Segs → Rd) → Rd
  | [], s, K => K s
  | (o, i, w) :: r, s, K => skipK s o (fun s1 => match s1 with
    | .rows n w' f _ => match Nat.beq w w' with
      | true => .need (i < n) (pathK r (f i) K)
      | false => .fail
    | _ => .fail) .fail
/-- Rows gone into, and what is there replaced. -/
def pmodK : List (Nat × Nat × Nat) → Segs → (Segs → (Segs → Rd) → Rd) → (Segs → Rd) → Rd
  | [], s, g, K => g s K
  | (o, i, w) :: r, s, g, K => atK s o (fun s1 put => match s1 with
    | .rows n w' f q => match Nat.beq w w' with
      | true => .need (i < n) (pmodK r (f i) g (fun y => put (.rows n w (fun j => if j = i then y else f j) q)))
      | false => .fail
    | _ => .fail) K .fail
def Rd.wp : Rd → List LVal → LHeap → (LVal → List (Nat × Option LObj) → Option LObj → Prop) → Prop
  | .ret v u nw, _, _, K => K v u nw
  | .tmp i k, t, h, K => getK t i fun v => (k v).wp t h K
  | .obj b k, t, h, K => hgetK h b (fun o => (k o).wp t h K) False
  | .need p k, t, h, K => p ∧ k.wp t h K
  | .ite b x y, t, h, K => match b with
    | true => x.wp t h K
    | false => y.wp t h K
  | .allB p k, t, h, K => ∀ b, p b → (k b).wp t h K
  | .fail, _, _, _ => False
section
variable {t : List LVal} {h : LHeap} {Φ : LVal → List (Nat × Option LObj) → Option LObj → Prop}
theorem skip_wp {K : Segs → Rd} : ∀ (s : Segs) (o : Nat), (skipK s o K .fail).wp t h Φ → ∃ s', (K s').wp t h Φ ∧ ∀ ρ l, PS ρ s l → ∃ l1 l2, l = l1 ++ l2 ∧ l1.length = o ∧ PS ρ s' l2
  | .nil, 0, hw => ⟨_, hw, fun _ l hl => ⟨[], l, rfl, rfl, hl⟩⟩
  | .one v r, 0, hw => ⟨_, hw, fun _ l hl => ⟨[], l, rfl, rfl, hl⟩⟩
  | .rows n w f r, 0, hw => ⟨_, hw, fun _ l hl => ⟨[], l, rfl, rfl, hl⟩⟩
  | .nil, o + 1, hw => hw.elim
  | .res A, 0, hw => ⟨_, hw, fun _ l hl => False.elim hl⟩
  | .res A, o + 1, hw => hw.elim
  | .one v r, o + 1, hw => by
    obtain ⟨s', h1, h2⟩ := skip_wp r o hw
    refine ⟨s', h1, fun ρ l hl => ?_⟩
    obtain ⟨x, l', rfl, _, _, h4⟩ := hl
    obtain ⟨l1, l2, rfl, h6, h7⟩ := h2 ρ l' h4
    exact ⟨x :: l1, l2, rfl, by simp [h6], h7⟩
  | .rows n w f r, o + 1, hw => by
    unfold skipK at hw
    split at hw
    · rename_i hb
      have hb := Nat.le_of_ble_eq_true hb
      obtain ⟨s', h1, h2⟩ := skip_wp r _ hw
      refine ⟨s', h1, fun ρ l hl => ?_⟩
      have hll := PS.length _ _ hl
      obtain ⟨ls, l', rfl, h3, h4, h5⟩ := hl
      have hl' := PS.length _ _ h5
      obtain ⟨l1, l2, rfl, h6, h7⟩ := h2 ρ l' h5
      refine ⟨ls.flatten ++ l1, l2, by simp, ?_, h7⟩
      simp only [segW, List.length_append] at hll hl' ⊢
      omega
    · exact hw.elim
theorem take_wp : ∀ (s : Segs) (m : Nat) (K : Segs → Rd), (takeK s m K .fail).wp t h Φ → ∃ s', (K s').wp t h Φ ∧ ∀ ρ l, PS ρ s l → ∃ l1 l2, l = l1 ++ l2 ∧ l1.length = m ∧ PS ρ s' l1
  | .nil, 0, K, hw => ⟨_, hw, fun _ l hl => ⟨[], l, rfl, rfl, rfl⟩⟩
  | .one v r, 0, K, hw => ⟨_, hw, fun _ l hl => ⟨[], l, rfl, rfl, rfl⟩⟩
  | .rows n w f r, 0, K, hw => ⟨_, hw, fun _ l hl => ⟨[], l, rfl, rfl, rfl⟩⟩
  | .nil, m + 1, K, hw => hw.elim
  | .res A, 0, K, hw => ⟨_, hw, fun _ l hl => False.elim hl⟩
  | .res A, m + 1, K, hw => hw.elim
  | .one v r, m + 1, K, hw => by
    obtain ⟨s', h1, h2⟩ := take_wp r m _ hw
    refine ⟨_, h1, fun ρ l hl => ?_⟩
    obtain ⟨x, l', rfl, h3, h5, h4⟩ := hl
    obtain ⟨l1, l2, rfl, h6, h7⟩ := h2 ρ l' h4
    exact ⟨x :: l1, l2, rfl, by simp [h6], x, l1, rfl, h3, h5, h7⟩
  | .rows n w f r, m + 1, K, hw => by
    unfold takeK at hw
    split at hw
    · rename_i hb
      have hb := Nat.le_of_ble_eq_true hb
      obtain ⟨s', h1, h2⟩ := take_wp r _ _ hw
      refine ⟨_, h1, fun ρ l hl => ?_⟩
      have hll := PS.length _ _ hl
      obtain ⟨ls, l', rfl, h3, h4, h5⟩ := hl
      have hl' := PS.length _ _ h5
      obtain ⟨l1, l2, rfl, h6, h7⟩ := h2 ρ l' h5
      refine ⟨ls.flatten ++ l1, l2, by simp, ?_, ls, l1, rfl, h3, h4, h7⟩
      simp only [segW, List.length_append] at hll hl' ⊢
      omega
    · exact hw.elim
theorem app_wp : ∀ (s y : Segs) (K : Segs → Rd), (appK s y K).wp t h Φ → ∃ s', (K s').wp t h Φ ∧ ∀ ρ l m, PS ρ s l → PS ρ y m → PS ρ s' (l ++ m)
  | .res A, y, K, hw => ⟨y, hw, fun ρ l m hl hm => False.elim hl⟩
  | .nil, y, K, hw => ⟨_, hw, fun ρ l m hl hm => by
    have : l = [] := hl
    subst this; exact hm⟩
  | .one v r, y, K, hw => by
    obtain ⟨s', h1, h2⟩ := app_wp r y _ hw
    refine ⟨_, h1, fun ρ l m hl hm => ?_⟩
    obtain ⟨x, l', rfl, h3, h5, h4⟩ := hl
    exact ⟨x, l' ++ m, rfl, h3, h5, h2 ρ l' m h4 hm⟩
  | .rows n w f r, y, K, hw => by
    obtain ⟨s', h1, h2⟩ := app_wp r y _ hw
    refine ⟨_, h1, fun ρ l m hl hm => ?_⟩
    obtain ⟨ls, l', rfl, h3, h4, h5⟩ := hl
    exact ⟨ls, l' ++ m, by simp, h3, h4, h2 ρ l' m h5 hm⟩
/-- A piece may be replaced. -/
def Repl (s : Segs) (o : Nat) (s1 : Segs) (rb : Segs → Segs) : Prop :=
  ∀ ρ l, PS ρ s l → ∃ l1 l2, l = l1 ++ l2 ∧ l1.length = o ∧ PS ρ s1 l2 ∧ ∀ ρ' x lx, Ext ρ ρ' → PS ρ' x lx → PS ρ' (rb x) (l1 ++ lx)
theorem at_wp {g : Segs → (Segs → Rd) → Rd} : ∀ (s : Segs) (o : Nat) (K : Segs → Rd), (atK s o g K .fail).wp t h Φ → ∃ s1 rb, (g s1 (fun x => K (rb x))).wp t h Φ ∧ Repl s o s1 rb
  | .nil, 0, K, hw => ⟨.nil, fun x => x, hw, fun ρ l hl => ⟨[], l, rfl, rfl, hl, fun _ _ _ _ hx => hx⟩⟩
  | .one v r, 0, K, hw => ⟨.one v r, fun x => x, hw, fun ρ l hl => ⟨[], l, rfl, rfl, hl, fun _ _ _ _ hx => hx⟩⟩
  | .rows n w f r, 0, K, hw => ⟨.rows n w f r, fun x => x, hw, fun ρ l hl => ⟨[], l, rfl, rfl, hl, fun _ _ _ _ hx => hx⟩⟩
  | .nil, o + 1, K, hw => hw.elim
  | .res A, 0, K, hw => ⟨.res A, fun x => x, hw, fun ρ l hl => False.elim hl⟩
  | .res A, o + 1, K, hw => hw.elim
  | .one v r, o + 1, K, hw => by
    obtain ⟨s1, rb, h1, h2⟩ := at_wp r o _ hw
    refine ⟨s1, fun x => .one v (rb x), h1, fun ρ l hl => ?_⟩
    obtain ⟨x, l', rfl, h3, h5, h4⟩ := hl
    obtain ⟨l1, l2, rfl, h6, h7, h8⟩ := h2 ρ l' h4
    exact ⟨x :: l1, l2, rfl, by simp [h6], h7, fun ρ' y ly e hy => ⟨x, l1 ++ ly, rfl, PV.ext e _ _ h3, h5, h8 ρ' y ly e hy⟩⟩
  | .rows n w f r, o + 1, K, hw => by
    unfold atK at hw
    split at hw
    · rename_i hb
      have hb := Nat.le_of_ble_eq_true hb
      obtain ⟨s1, rb, h1, h2⟩ := at_wp r _ _ hw
      refine ⟨s1, fun x => .rows n w f (rb x), h1, fun ρ l hl => ?_⟩
      have hll := PS.length _ _ hl
      obtain ⟨ls, l', rfl, h3, h4, h5⟩ := hl
      have hl' := PS.length _ _ h5
      obtain ⟨l1, l2, rfl, h6, h7, h8⟩ := h2 ρ l' h5
      refine ⟨ls.flatten ++ l1, l2, by simp, ?_, h7, fun ρ' y ly e hy => ⟨ls, l1 ++ ly, by simp, h3, fun i hi => ?_, h8 ρ' y ly e hy⟩⟩
      · simp only [segW, List.length_append] at hll hl' ⊢
        omega
      · obtain ⟨z, hz, hz2, hz3⟩ := h4 i hi
        exact ⟨z, hz, hz2, PS.ext e _ _ hz3⟩
    · exact hw.elim
theorem flatten_split {w : Nat} : ∀ (ls : List (List Value)) (i : Nat) (y : List Value), (∀ i, i < ls.length → ∃ y, ls[i]? = some y ∧ y.length = w) → ls[i]? = some y →
    ∃ a b, ls.flatten = a ++ y ++ b ∧ a.length = i * w ∧ ∀ z, (ls.set i z).flatten = a ++ z ++ b
  | [], i, y, _, h => by simp at h
  | x :: ls, 0, y, hall, h => by
    simp at h
    subst h
    exact ⟨[], ls.flatten, by simp, by simp, fun z => by simp⟩
  | x :: ls, i + 1, y, hall, h => by
    have h' : ls[i]? = some y := by simpa using h
    obtain ⟨a, b, h1, h2, h3⟩ := flatten_split ls i y (fun i hi => by
      obtain ⟨y, hy, hw'⟩ := hall (i + 1) (by simpa using hi)
      exact ⟨y, by simpa using hy, hw'⟩) h'
    obtain ⟨y0, hy0, hw0⟩ := hall 0 (by simp)
    simp at hy0
    subst hy0
    refine ⟨x ++ a, b, by simp [h1], ?_, fun z => by simp [h3]⟩
    simp only [List.length_append, h2, hw0]
    rw [Nat.add_mul]; omega
theorem rows_split {ρ : Pl} {n w : Nat} {f : Nat → Segs} {q : Segs} {l : List Value} (hl : PS ρ (.rows n w f q) l) {i : Nat} (hi : i < n) :
    ∃ l1 l2 l3, l = l1 ++ l2 ++ l3 ∧ l1.length = i * w ∧ l2.length = w ∧ PS ρ (f i) l2 ∧
      ∀ ρ' y ly, Ext ρ ρ' → PS ρ' y ly → ly.length = w → PS ρ' (.rows n w (fun j => if j = i then y else f j) q) (l1 ++ ly ++ l3) := by
  obtain ⟨ls, l', rfl, h2, h3, h4⟩ := hl
  obtain ⟨y, hy, hw, hp⟩ := h3 i hi
  obtain ⟨a, b, e1, e2, e3⟩ := flatten_split (w := w) ls i y (fun k hk => by
    obtain ⟨y, hy, hw, _⟩ := h3 k (by omega)
    exact ⟨y, hy, hw⟩) hy
  refine ⟨a, y, b ++ l', by rw [e1]; simp, e2, hw, hp, fun ρ' z lz e hz hzl => ?_⟩
  refine ⟨ls.set i lz, l', by rw [e3]; simp, by simp [h2], fun k hk => ?_, PS.ext e _ _ h4⟩
  by_cases c : k = i
  · subst c
    refine ⟨lz, by rw [List.getElem?_set_self (by omega)], hzl, ?_⟩
    show PS ρ' (if k = k then z else f k) lz
    rw [if_pos rfl]; exact hz
  · obtain ⟨u, hu, hu2, hu3⟩ := h3 k hk
    refine ⟨u, by rw [List.getElem?_set_ne (fun e => c e.symm)]; exact hu, hu2, ?_⟩
    show PS ρ' (if k = i then z else f k) u
    rw [if_neg c]
    exact PS.ext e _ _ hu3
theorem path_wp {K : Segs → Rd} : ∀ (p : List (Nat × Nat × Nat)) (s : Segs), (pathK p s K).wp t h Φ → ∃ s', (K s').wp t h Φ ∧ ∀ ρ l, PS ρ s l → ∃ l1 l2 l3, l = l1 ++ l2 ++ l3 ∧ l1.length = pathSum p ∧ PS ρ s' l2
  | [], s, hw => ⟨s, hw, fun ρ l hl => ⟨[], l, [], by simp, rfl, hl⟩⟩
  | (o, i, w) :: r, s, hw => by
    obtain ⟨s1, h1, h2⟩ := skip_wp s o hw
    cases s1 with
    | nil => exact h1.elim
    | res A => exact h1.elim
    | one v q => exact h1.elim
    | rows n w' f q =>
      simp only at h1
      split at h1
      · rename_i hb
        have hb := Nat.eq_of_beq_eq_true hb
        subst hb
        obtain ⟨hi, h1⟩ := h1
        obtain ⟨s', h3, h4⟩ := path_wp r (f i) h1
        refine ⟨s', h3, fun ρ l hl => ?_⟩
        obtain ⟨a, b, rfl, ha, hb⟩ := h2 ρ l hl
        obtain ⟨b1, b2, b3, rfl, hb1, hb2, hb3, _⟩ := rows_split hb hi
        obtain ⟨c1, c2, c3, rfl, hc1, hc2⟩ := h4 ρ b2 hb3
        refine ⟨a ++ b1 ++ c1, c2, c3 ++ b3, by simp, ?_, hc2⟩
        simp only [List.length_append, pathSum, ha, hb1, hc1]
      · exact h1.elim
/-- A piece within rows may be replaced. -/
def PRepl (s : Segs) (p : List (Nat × Nat × Nat)) (s1 : Segs) (rb : Segs → Segs) : Prop :=
  ∀ ρ l, PS ρ s l → ∃ l1 l2 l3, l = l1 ++ l2 ++ l3 ∧ l1.length = pathSum p ∧ PS ρ s1 l2 ∧ ∀ ρ' x lx, Ext ρ ρ' → PS ρ' x lx → lx.length = l2.length → PS ρ' (rb x) (l1 ++ lx ++ l3)
theorem pmod_wp {g : Segs → (Segs → Rd) → Rd} : ∀ (p : List (Nat × Nat × Nat)) (s : Segs) (K : Segs → Rd), (pmodK p s g K).wp t h Φ → ∃ s1 rb, (g s1 (fun x => K (rb x))).wp t h Φ ∧ PRepl s p s1 rb
  | [], s, K, hw => ⟨s, fun x => x, hw, fun ρ l hl => ⟨[], l, [], by simp, rfl, hl, fun _ _ _ _ hx _ => by simpa using hx⟩⟩
  | (o, i, w) :: r, s, K, hw => by
    obtain ⟨s1, rb, h1, h2⟩ := at_wp s o _ hw
    cases s1 with
    | nil => exact h1.elim
    | res A => exact h1.elim
    | one v q => exact h1.elim
    | rows n w' f q =>
      simp only at h1
      split at h1
      · rename_i hb
        have hb := Nat.eq_of_beq_eq_true hb
        subst hb
        obtain ⟨hi, h1⟩ := h1
        obtain ⟨s2, rb2, h3, h4⟩ := pmod_wp r (f i) _ h1
        refine ⟨s2, _, h3, fun ρ l hl => ?_⟩
        obtain ⟨a, b, rfl, ha, hb, hrb⟩ := h2 ρ l hl
        obtain ⟨b1, b2, b3, rfl, hb1, hb2, hb3, hput⟩ := rows_split hb hi
        obtain ⟨c1, c2, c3, rfl, hc1, hc2, hc3⟩ := h4 ρ b2 hb3
        refine ⟨a ++ b1 ++ c1, c2, c3 ++ b3, by simp, ?_, hc2, fun ρ' x lx e hx hxl => ?_⟩
        · simp only [List.length_append, pathSum, ha, hb1, hc1]
        · have := hrb ρ' _ _ e (hput ρ' _ _ e (hc3 ρ' x lx e hx hxl) (by simp only [List.length_append] at hb2 ⊢; omega))
          simpa using this
      · exact h1.elim
end
end Go.Proofs.Ytilmfhpoiejmfaa.Lh
