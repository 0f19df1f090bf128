/- Texts of this session, merged. -/
import Derived.Test.YtilmfhpoiejmfaaLh1
import Derived.Deep.MidRow
import Derived.Laws.IdiomCopy
import Derived.Laws.LoneSync
import Derived.KernelRfl
import Derived.Laws.BytesArg
import Derived.ChangeKeysEq
import Derived.Laws.StructEq
/- Pieces of blocks: gone into, taken, replaced; a reader of the heap of the mind. Over any program. -/
namespace Go.Proofs.Ytilmfhpoiejmfaa.Lh
set_option linter.unusedSimpArgs false
set_option linter.unusedVariables false
set_option linter.unusedSectionVars false
variable [Fz]
def segW : Segs → Nat
  | .nil => 0
  | .one _ r => 1 + segW r
  | .rows n w _ r => n * w + segW r
  | .res _ => 0
theorem flatten_length_const {w : Nat} : ∀ (ls : List (List Value)), (∀ i, i < ls.length → ∃ y, ls[i]? = some y ∧ y.length = w) → ls.flatten.length = ls.length * w
  | [], _ => by simp
  | x :: ls, h => by
    have h0 := h 0 (by simp)
    obtain ⟨y, hy, hw⟩ := h0
    simp at hy
    subst hy
    have := flatten_length_const ls (fun i hi => by
      obtain ⟨y, hy, hw'⟩ := h (i + 1) (by simpa using hi)
      exact ⟨y, by simpa using hy, hw'⟩)
    simp only [List.flatten_cons, List.length_append, List.length_cons, this, hw]
    rw [Nat.add_mul]; omega
theorem PS.length {ρ : Pl} : ∀ (s : Segs) (l : List Value), PS ρ s l → l.length = segW s
  | .nil, l, h => by
    have : l = [] := h
    subst this; rfl
  | .one v r, l, h => by
    obtain ⟨x, l', rfl, _, _, h4⟩ := h
    have := PS.length r l' h4
    simp only [segW, List.length_cons, this]; omega
  | .rows n w f r, l, h => by
    obtain ⟨ls, l', rfl, h2, h3, h4⟩ := h
    have := PS.length r l' h4
    have hf := flatten_length_const (w := w) ls (fun i hi => by
      obtain ⟨y, hy, hw, _⟩ := h3 i (by omega)
      exact ⟨y, hy, hw⟩)
    simp only [segW, List.length_append, this, hf, h2]
  | .res _, l, h => False.elim h
/-- What is read, asked and done. -/
inductive Rd where
  | ret (v : LVal) (u : List (Nat × Option LObj)) (nw : Option LObj)
  | tmp (i : Nat) (k : LVal → Rd)
  | obj (b : Nat) (k : LObj → Rd)
  | need (p : Prop) (k : Rd)
  | ite (b : Bool) (x y : Rd)
  | allB (p : Bool → Prop) (k : Bool → Rd)
  | fail
section
variable {α : Type}
def getK : List LVal → Nat → (LVal → α) → α
  | [], _, K => K .undef
  | x :: _, 0, K => K x
  | _ :: r, n + 1, K => getK r n K
def hgetK : LHeap → Nat → (LObj → α) → α → α
  | [], _, _, F => F
  | none :: _, 0, _, F => F
  | some o :: _, 0, K, _ => K o
  | _ :: r, n + 1, K, F => hgetK r n K F
def setK : List LVal → Nat → LVal → (List LVal → α) → α
  | [], _, _, K => K []
  | _ :: r, 0, v, K => K (v :: r)
  | x :: r, n + 1, v, K => setK r n v (fun r' => K (x :: r'))
def hsetK : LHeap → Nat → Option LObj → (LHeap → α) → α
  | [], 0, o, K => K [o]
  | [], n + 1, o, K => hsetK [] n o (fun r => K (none :: r))
  | _ :: r, 0, o, K => K (o :: r)
  | x :: r, n + 1, o, K => hsetK r n o (fun r' => K (x :: r'))
def updK : LHeap → List (Nat × Option LObj) → (LHeap → α) → α
  | h, [], K => K h
  | h, (i, o) :: r, K => hsetK h i o (fun h' => updK h' r K)
def applyK (h : LHeap) (u : List (Nat × Option LObj)) (n : Nat) (nw : Option LObj) (K : LHeap → α) : α :=
  updK h u fun h' => match nw with
    | none => K h'
    | some o => hsetK h' n (some o) K
def natKs : List Nat → Nat → (Nat → α) → α
  | [], n, K => K n
  | m :: r, n, K => match Nat.beq n m with
    | true => K m
    | false => natKs r n K
/-- A number, worked out. -/
def natK (n : Nat) (K : Nat → α) : α := natKs [0, 1, 2, 3, 4, 5, 6, 7, 8, 9, 10, 11, 12, 13, 14, 15, 16, 17, 18, 19, 20, 21, 22, 23, 24, 25, 26, 27, 28, 29, 30, 31, 32, 33, 34, 35, 36, 37, 38, 39, 40, 41, 42, 43, 44, 45, 46, 47, 48, 49, 50, 51, 52, 53, 54, 55, 56, 57, 58, 59, 60, 61, 62, 63] n K
theorem natKs_eq (l : List Nat) (n : Nat) (K : Nat → α) : natKs l n K = K n := by
  induction l with
  | nil => rfl
  | cons m r ih =>
    unfold natKs
    split
    · rename_i hb
      rw [Nat.eq_of_beq_eq_true hb]
    · exact ih
theorem natK_eq (n : Nat) (K : Nat → α) : natK n K = K n := natKs_eq _ n K
def lenK : LHeap → Nat → (Nat → α) → α
  | [], n, K => natK n K
  | _ :: r, n, K => lenK r (n + 1) K
def lget : List LVal → Nat → LVal
  | [], _ => .undef
  | x :: _, 0 => x
  | _ :: r, n + 1 => lget r n
def lset : List LVal → Nat → LVal → List LVal
  | [], _, _ => []
  | _ :: r, 0, v => v :: r
  | x :: r, n + 1, v => x :: lset r n v
theorem getK_eq (t : List LVal) (i : Nat) (K : LVal → α) : getK t i K = K (lget t i) := by
  induction t generalizing i with
  | nil => rfl
  | cons x r ih => cases i <;> simp [getK, lget, ih]
theorem setK_eq (t : List LVal) (i : Nat) (v : LVal) (K : List LVal → α) : setK t i v K = K (lset t i v) := by
  induction t generalizing i K with
  | nil => rfl
  | cons x r ih => cases i <;> simp [setK, lset, ih]
theorem hgetK_eq (h : LHeap) (i : Nat) (K : LObj → α) (F : α) : hgetK h i K F = match hget h i with | some o => K o | none => F := by
  induction h generalizing i with
  | nil => rfl
  | cons x r ih => cases i <;> cases x <;> simp [hgetK, hget, ih]
theorem hsetK_eq (h : LHeap) (i : Nat) (o : Option LObj) (K : LHeap → α) : hsetK h i o K = K (hset h i o) := by
  induction i generalizing h K with
  | zero => cases h <;> rfl
  | succ n ih => cases h <;> simp [hsetK, hset, ih]
def updU : LHeap → List (Nat × Option LObj) → LHeap
  | h, [] => h
  | h, (i, o) :: r => updU (hset h i o) r
def applyU (h : LHeap) (u : List (Nat × Option LObj)) (n : Nat) (nw : Option LObj) : LHeap :=
  match nw with
  | none => updU h u
  | some o => hset (updU h u) n (some o)
theorem updK_eq (h : LHeap) (u : List (Nat × Option LObj)) (K : LHeap → α) : updK h u K = K (updU h u) := by
  induction u generalizing h with
  | nil => rfl
  | cons x r ih => obtain ⟨i, o⟩ := x; simp [updK, updU, hsetK_eq, ih]
theorem applyK_eq (h : LHeap) (u : List (Nat × Option LObj)) (n : Nat) (nw : Option LObj) (K : LHeap → α) : applyK h u n nw K = K (applyU h u n nw) := by
  unfold applyK applyU
  rw [updK_eq]
  cases nw <;> simp [hsetK_eq]
theorem lenK_eq (h : LHeap) (n : Nat) (K : Nat → α) : lenK h n K = K (n + h.length) := by
  induction h generalizing n with
  | nil => exact natK_eq n K
  | cons x r ih => simp only [lenK, ih, List.length_cons]; congr 1; omega
def skipK : Segs → Nat → (Segs → α) → α → α
  | s, 0, K, _ => K s
  | .one _ r, o + 1, K, F => skipK r o K F
  | .rows n w _ r, o + 1, K, F => match Nat.ble (n * w) (o + 1) with
    | true => skipK r (o + 1 - n * w) K F
    | false => F
  | .nil, _ + 1, _, F => F
  | .res _, _ + 1, _, F => F
def takeK : Segs → Nat → (Segs → α) → α → α
  | _, 0, K, _ => K .nil
  | .one v r, m + 1, K, F => takeK r m (fun x => K (.one v x)) F
  | .rows n w f r, m + 1, K, F => match Nat.ble (n * w) (m + 1) with
    | true => takeK r (m + 1 - n * w) (fun x => K (.rows n w f x)) F
    | false => F
  | .nil, _ + 1, _, F => F
  | .res _, _ + 1, _, F => F
def appK : Segs → Segs → (Segs → α) → α
  | .nil, y, K => K y
  | .res _, y, K => K y
  | .one v r, y, K => appK r y (fun x => K (.one v x))
  | .rows n w f r, y, K => appK r y (fun x => K (.rows n w f x))
def atK : Segs → Nat → (Segs → (Segs → α) → α) → (Segs → α) → α → α
  | s, 0, h, K, _ => h s K
  | .one v r, o + 1, h, K, F => atK r o h (fun x => K (.one v x)) F
  | .rows n w f r, o + 1, h, K, F => match Nat.ble (n * w) (o + 1) with
    | true => atK r (o + 1 - n * w) h (fun x => K (.rows n w f x)) F
    | false => F
  | .nil, _ + 1, _, _, F => F
  | .res _, _ + 1, _, _, F => F
end
/-- Rows gone into. -/
def pathK : List (Nat × Nat × Nat) → Segs → (Segs → Rd) → Rd
  | [], s, K => K s
  | (o, i, w) :: r, s, K => skipK s o (fun s1 => match s1 with
    | .rows n w' f _ => match Nat.beq w w' with
      | true => .need (i < n) (pathK r (f i) K)
      | false => .fail
    | _ => .fail) .fail
/-- Rows gone into, and what is there replaced. -/
def pmodK : List (Nat × Nat × Nat) → Segs → (Segs → (Segs → Rd) → Rd) → (Segs → Rd) → Rd
  | [], s, g, K => g s K
  | (o, i, w) :: r, s, g, K => atK s o (fun s1 put => match s1 with
    | .rows n w' f q => match Nat.beq w w' with
      | true => .need (i < n) (pmodK r (f i) g (fun y => put (.rows n w (fun j => if j = i then y else f j) q)))
      | false => .fail
    | _ => .fail) K .fail
def Rd.wp : Rd → List LVal → LHeap → (LVal → List (Nat × Option LObj) → Option LObj → Prop) → Prop
  | .ret v u nw, _, _, K => K v u nw
  | .tmp i k, t, h, K => getK t i fun v => (k v).wp t h K
  | .obj b k, t, h, K => hgetK h b (fun o => (k o).wp t h K) False
  | .need p k, t, h, K => p ∧ k.wp t h K
  | .ite b x y, t, h, K => match b with
    | true => x.wp t h K
    | false => y.wp t h K
  | .allB p k, t, h, K => ∀ b, p b → (k b).wp t h K
  | .fail, _, _, _ => False
section
variable {t : List LVal} {h : LHeap} {Φ : LVal → List (Nat × Option LObj) → Option LObj → Prop}
theorem skip_wp {K : Segs → Rd} : ∀ (s : Segs) (o : Nat), (skipK s o K .fail).wp t h Φ → ∃ s', (K s').wp t h Φ ∧ ∀ ρ l, PS ρ s l → ∃ l1 l2, l = l1 ++ l2 ∧ l1.length = o ∧ PS ρ s' l2
  | .nil, 0, hw => ⟨_, hw, fun _ l hl => ⟨[], l, rfl, rfl, hl⟩⟩
  | .one v r, 0, hw => ⟨_, hw, fun _ l hl => ⟨[], l, rfl, rfl, hl⟩⟩
  | .rows n w f r, 0, hw => ⟨_, hw, fun _ l hl => ⟨[], l, rfl, rfl, hl⟩⟩
  | .nil, o + 1, hw => hw.elim
  | .res A, 0, hw => ⟨_, hw, fun _ l hl => False.elim hl⟩
  | .res A, o + 1, hw => hw.elim
  | .one v r, o + 1, hw => by
    obtain ⟨s', h1, h2⟩ := skip_wp r o hw
    refine ⟨s', h1, fun ρ l hl => ?_⟩
    obtain ⟨x, l', rfl, _, _, h4⟩ := hl
    obtain ⟨l1, l2, rfl, h6, h7⟩ := h2 ρ l' h4
    exact ⟨x :: l1, l2, rfl, by simp [h6], h7⟩
  | .rows n w f r, o + 1, hw => by
    unfold skipK at hw
    split at hw
    · rename_i hb
      have hb := Nat.le_of_ble_eq_true hb
      obtain ⟨s', h1, h2⟩ := skip_wp r _ hw
      refine ⟨s', h1, fun ρ l hl => ?_⟩
      have hll := PS.length _ _ hl
      obtain ⟨ls, l', rfl, h3, h4, h5⟩ := hl
      have hl' := PS.length _ _ h5
      obtain ⟨l1, l2, rfl, h6, h7⟩ := h2 ρ l' h5
      refine ⟨ls.flatten ++ l1, l2, by simp, ?_, h7⟩
      simp only [segW, List.length_append] at hll hl' ⊢
      omega
    · exact hw.elim
theorem take_wp : ∀ (s : Segs) (m : Nat) (K : Segs → Rd), (takeK s m K .fail).wp t h Φ → ∃ s', (K s').wp t h Φ ∧ ∀ ρ l, PS ρ s l → ∃ l1 l2, l = l1 ++ l2 ∧ l1.length = m ∧ PS ρ s' l1
  | .nil, 0, K, hw => ⟨_, hw, fun _ l hl => ⟨[], l, rfl, rfl, rfl⟩⟩
  | .one v r, 0, K, hw => ⟨_, hw, fun _ l hl => ⟨[], l, rfl, rfl, rfl⟩⟩
  | .rows n w f r, 0, K, hw => ⟨_, hw, fun _ l hl => ⟨[], l, rfl, rfl, rfl⟩⟩
  | .nil, m + 1, K, hw => hw.elim
  | .res A, 0, K, hw => ⟨_, hw, fun _ l hl => False.elim hl⟩
  | .res A, m + 1, K, hw => hw.elim
  | .one v r, m + 1, K, hw => by
    obtain ⟨s', h1, h2⟩ := take_wp r m _ hw
    refine ⟨_, h1, fun ρ l hl => ?_⟩
    obtain ⟨x, l', rfl, h3, h5, h4⟩ := hl
    obtain ⟨l1, l2, rfl, h6, h7⟩ := h2 ρ l' h4
    exact ⟨x :: l1, l2, rfl, by simp [h6], x, l1, rfl, h3, h5, h7⟩
  | .rows n w f r, m + 1, K, hw => by
    unfold takeK at hw
    split at hw
    · rename_i hb
      have hb := Nat.le_of_ble_eq_true hb
      obtain ⟨s', h1, h2⟩ := take_wp r _ _ hw
      refine ⟨_, h1, fun ρ l hl => ?_⟩
      have hll := PS.length _ _ hl
      obtain ⟨ls, l', rfl, h3, h4, h5⟩ := hl
      have hl' := PS.length _ _ h5
      obtain ⟨l1, l2, rfl, h6, h7⟩ := h2 ρ l' h5
      refine ⟨ls.flatten ++ l1, l2, by simp, ?_, ls, l1, rfl, h3, h4, h7⟩
      simp only [segW, List.length_append] at hll hl' ⊢
      omega
    · exact hw.elim
theorem app_wp : ∀ (s y : Segs) (K : Segs → Rd), (appK s y K).wp t h Φ → ∃ s', (K s').wp t h Φ ∧ ∀ ρ l m, PS ρ s l → PS ρ y m → PS ρ s' (l ++ m)
  | .res A, y, K, hw => ⟨y, hw, fun ρ l m hl hm => False.elim hl⟩
  | .nil, y, K, hw => ⟨_, hw, fun ρ l m hl hm => by
    have : l = [] := hl
    subst this; exact hm⟩
  | .one v r, y, K, hw => by
    obtain ⟨s', h1, h2⟩ := app_wp r y _ hw
    refine ⟨_, h1, fun ρ l m hl hm => ?_⟩
    obtain ⟨x, l', rfl, h3, h5, h4⟩ := hl
    exact ⟨x, l' ++ m, rfl, h3, h5, h2 ρ l' m h4 hm⟩
  | .rows n w f r, y, K, hw => by
    obtain ⟨s', h1, h2⟩ := app_wp r y _ hw
    refine ⟨_, h1, fun ρ l m hl hm => ?_⟩
    obtain ⟨ls, l', rfl, h3, h4, h5⟩ := hl
    exact ⟨ls, l' ++ m, by simp, h3, h4, h2 ρ l' m h5 hm⟩
/-- A piece may be replaced. -/
def Repl (s : Segs) (o : Nat) (s1 : Segs) (rb : Segs → Segs) : Prop :=
  ∀ ρ l, PS ρ s l → ∃ l1 l2, l = l1 ++ l2 ∧ l1.length = o ∧ PS ρ s1 l2 ∧ ∀ ρ' x lx, Ext ρ ρ' → PS ρ' x lx → PS ρ' (rb x) (l1 ++ lx)
theorem at_wp {g : Segs → (Segs → Rd) → Rd} : ∀ (s : Segs) (o : Nat) (K : Segs → Rd), (atK s o g K .fail).wp t h Φ → ∃ s1 rb, (g s1 (fun x => K (rb x))).wp t h Φ ∧ Repl s o s1 rb
  | .nil, 0, K, hw => ⟨.nil, fun x => x, hw, fun ρ l hl => ⟨[], l, rfl, rfl, hl, fun _ _ _ _ hx => hx⟩⟩
  | .one v r, 0, K, hw => ⟨.one v r, fun x => x, hw, fun ρ l hl => ⟨[], l, rfl, rfl, hl, fun _ _ _ _ hx => hx⟩⟩
  | .rows n w f r, 0, K, hw => ⟨.rows n w f r, fun x => x, hw, fun ρ l hl => ⟨[], l, rfl, rfl, hl, fun _ _ _ _ hx => hx⟩⟩
  | .nil, o + 1, K, hw => hw.elim
  | .res A, 0, K, hw => ⟨.res A, fun x => x, hw, fun ρ l hl => False.elim hl⟩
  | .res A, o + 1, K, hw => hw.elim
  | .one v r, o + 1, K, hw => by
    obtain ⟨s1, rb, h1, h2⟩ := at_wp r o _ hw
    refine ⟨s1, fun x => .one v (rb x), h1, fun ρ l hl => ?_⟩
    obtain ⟨x, l', rfl, h3, h5, h4⟩ := hl
    obtain ⟨l1, l2, rfl, h6, h7, h8⟩ := h2 ρ l' h4
    exact ⟨x :: l1, l2, rfl, by simp [h6], h7, fun ρ' y ly e hy => ⟨x, l1 ++ ly, rfl, PV.ext e _ _ h3, h5, h8 ρ' y ly e hy⟩⟩
  | .rows n w f r, o + 1, K, hw => by
    unfold atK at hw
    split at hw
    · rename_i hb
      have hb := Nat.le_of_ble_eq_true hb
      obtain ⟨s1, rb, h1, h2⟩ := at_wp r _ _ hw
      refine ⟨s1, fun x => .rows n w f (rb x), h1, fun ρ l hl => ?_⟩
      have hll := PS.length _ _ hl
      obtain ⟨ls, l', rfl, h3, h4, h5⟩ := hl
      have hl' := PS.length _ _ h5
      obtain ⟨l1, l2, rfl, h6, h7, h8⟩ := h2 ρ l' h5
      refine ⟨ls.flatten ++ l1, l2, by simp, ?_, h7, fun ρ' y ly e hy => ⟨ls, l1 ++ ly, by simp, h3, fun i hi => ?_, h8 ρ' y ly e hy⟩⟩
      · simp only [segW, List.length_append] at hll hl' ⊢
        omega
      · obtain ⟨z, hz, hz2, hz3⟩ := h4 i hi
        exact ⟨z, hz, hz2, PS.ext e _ _ hz3⟩
    · exact hw.elim
theorem flatten_split {w : Nat} : ∀ (ls : List (List Value)) (i : Nat) (y : List Value), (∀ i, i < ls.length → ∃ y, ls[i]? = some y ∧ y.length = w) → ls[i]? = some y →
    ∃ a b, ls.flatten = a ++ y ++ b ∧ a.length = i * w ∧ ∀ z, (ls.set i z).flatten = a ++ z ++ b
  | [], i, y, _, h => by simp at h
  | x :: ls, 0, y, hall, h => by
    simp at h
    subst h
    exact ⟨[], ls.flatten, by simp, by simp, fun z => by simp⟩
  | x :: ls, i + 1, y, hall, h => by
    have h' : ls[i]? = some y := by simpa using h
    obtain ⟨a, b, h1, h2, h3⟩ := flatten_split ls i y (fun i hi => by
      obtain ⟨y, hy, hw'⟩ := hall (i + 1) (by simpa using hi)
      exact ⟨y, by simpa using hy, hw'⟩) h'
    obtain ⟨y0, hy0, hw0⟩ := hall 0 (by simp)
    simp at hy0
    subst hy0
    refine ⟨x ++ a, b, by simp [h1], ?_, fun z => by simp [h3]⟩
    simp only [List.length_append, h2, hw0]
    rw [Nat.add_mul]; omega
theorem rows_split {ρ : Pl} {n w : Nat} {f : Nat → Segs} {q : Segs} {l : List Value} (hl : PS ρ (.rows n w f q) l) {i : Nat} (hi : i < n) :
    ∃ l1 l2 l3, l = l1 ++ l2 ++ l3 ∧ l1.length = i * w ∧ l2.length = w ∧ PS ρ (f i) l2 ∧
      ∀ ρ' y ly, Ext ρ ρ' → PS ρ' y ly → ly.length = w → PS ρ' (.rows n w (fun j => if j = i then y else f j) q) (l1 ++ ly ++ l3) := by
  obtain ⟨ls, l', rfl, h2, h3, h4⟩ := hl
  obtain ⟨y, hy, hw, hp⟩ := h3 i hi
  obtain ⟨a, b, e1, e2, e3⟩ := flatten_split (w := w) ls i y (fun k hk => by
    obtain ⟨y, hy, hw, _⟩ := h3 k (by omega)
    exact ⟨y, hy, hw⟩) hy
  refine ⟨a, y, b ++ l', by rw [e1]; simp, e2, hw, hp, fun ρ' z lz e hz hzl => ?_⟩
  refine ⟨ls.set i lz, l', by rw [e3]; simp, by simp [h2], fun k hk => ?_, PS.ext e _ _ h4⟩
  by_cases c : k = i
  · subst c
    refine ⟨lz, by rw [List.getElem?_set_self (by omega)], hzl, ?_⟩
    show PS ρ' (if k = k then z else f k) lz
    rw [if_pos rfl]; exact hz
  · obtain ⟨u, hu, hu2, hu3⟩ := h3 k hk
    refine ⟨u, by rw [List.getElem?_set_ne (fun e => c e.symm)]; exact hu, hu2, ?_⟩
    show PS ρ' (if k = i then z else f k) u
    rw [if_neg c]
    exact PS.ext e _ _ hu3
theorem path_wp {K : Segs → Rd} : ∀ (p : List (Nat × Nat × Nat)) (s : Segs), (pathK p s K).wp t h Φ → ∃ s', (K s').wp t h Φ ∧ ∀ ρ l, PS ρ s l → ∃ l1 l2 l3, l = l1 ++ l2 ++ l3 ∧ l1.length = pathSum p ∧ PS ρ s' l2
  | [], s, hw => ⟨s, hw, fun ρ l hl => ⟨[], l, [], by simp, rfl, hl⟩⟩
  | (o, i, w) :: r, s, hw => by
    obtain ⟨s1, h1, h2⟩ := skip_wp s o hw
    cases s1 with
    | nil => exact h1.elim
    | res A => exact h1.elim
    | one v q => exact h1.elim
    | rows n w' f q =>
      simp only at h1
      split at h1
      · rename_i hb
        have hb := Nat.eq_of_beq_eq_true hb
        subst hb
        obtain ⟨hi, h1⟩ := h1
        obtain ⟨s', h3, h4⟩ := path_wp r (f i) h1
        refine ⟨s', h3, fun ρ l hl => ?_⟩
        obtain ⟨a, b, rfl, ha, hb⟩ := h2 ρ l hl
        obtain ⟨b1, b2, b3, rfl, hb1, hb2, hb3, _⟩ := rows_split hb hi
        obtain ⟨c1, c2, c3, rfl, hc1, hc2⟩ := h4 ρ b2 hb3
        refine ⟨a ++ b1 ++ c1, c2, c3 ++ b3, by simp, ?_, hc2⟩
        simp only [List.length_append, pathSum, ha, hb1, hc1]
      · exact h1.elim
/-- A piece within rows may be replaced. -/
def PRepl (s : Segs) (p : List (Nat × Nat × Nat)) (s1 : Segs) (rb : Segs → Segs) : Prop :=
  ∀ ρ l, PS ρ s l → ∃ l1 l2 l3, l = l1 ++ l2 ++ l3 ∧ l1.length = pathSum p ∧ PS ρ s1 l2 ∧ ∀ ρ' x lx, Ext ρ ρ' → PS ρ' x lx → lx.length = l2.length → PS ρ' (rb x) (l1 ++ lx ++ l3)
theorem pmod_wp {g : Segs → (Segs → Rd) → Rd} : ∀ (p : List (Nat × Nat × Nat)) (s : Segs) (K : Segs → Rd), (pmodK p s g K).wp t h Φ → ∃ s1 rb, (g s1 (fun x => K (rb x))).wp t h Φ ∧ PRepl s p s1 rb
  | [], s, K, hw => ⟨s, fun x => x, hw, fun ρ l hl => ⟨[], l, [], by simp, rfl, hl, fun _ _ _ _ hx _ => by simpa using hx⟩⟩
  | (o, i, w) :: r, s, K, hw => by
    obtain ⟨s1, rb, h1, h2⟩ := at_wp s o _ hw
    cases s1 with
    | nil => exact h1.elim
    | res A => exact h1.elim
    | one v q => exact h1.elim
    | rows n w' f q =>
      simp only at h1
      split at h1
      · rename_i hb
        have hb := Nat.eq_of_beq_eq_true hb
        subst hb
        obtain ⟨hi, h1⟩ := h1
        obtain ⟨s2, rb2, h3, h4⟩ := pmod_wp r (f i) _ h1
        refine ⟨s2, _, h3, fun ρ l hl => ?_⟩
        obtain ⟨a, b, rfl, ha, hb, hrb⟩ := h2 ρ l hl
        obtain ⟨b1, b2, b3, rfl, hb1, hb2, hb3, hput⟩ := rows_split hb hi
        obtain ⟨c1, c2, c3, rfl, hc1, hc2, hc3⟩ := h4 ρ b2 hb3
        refine ⟨a ++ b1 ++ c1, c2, c3 ++ b3, by simp, ?_, hc2, fun ρ' x lx e hx hxl => ?_⟩
        · simp only [List.length_append, pathSum, ha, hb1, hc1]
        · have := hrb ρ' _ _ e (hput ρ' _ _ e (hc3 ρ' x lx e hx hxl) (by simp only [List.length_append] at hb2 ⊢; omega))
          simpa using this
      · exact h1.elim
end
end Go.Proofs.Ytilmfhpoiejmfaa.Lh

/- Operations on the heap of the mind that make no block and turn none; and that the world's operations do the same. Over any program. -/
namespace Go.Proofs.Ytilmfhpoiejmfaa.Lh
set_option linter.unusedSimpArgs false
set_option linter.unusedVariables false
set_option linter.unusedSectionVars false
open Go.RowKit
variable [Fz]
section
variable {α β : Type}
def withO (x : Option α) (K : α → Option β) : Option β :=
  match x with
  | some y => K y
  | none => none
def when_ (b : Bool) (K : Option β) : Option β :=
  match b with
  | true => K
  | false => none
theorem withO_some {x : Option α} {K : α → Option β} {r : β} (h : withO x K = some r) : ∃ y, x = some y ∧ K y = some r := by
  cases x with
  | none => cases h
  | some y => exact ⟨y, rfl, h⟩
theorem when_some {b : Bool} {K : Option β} {r : β} (h : when_ b K = some r) : b = true ∧ K = some r := by
  cases b with
  | false => cases h
  | true => exact ⟨rfl, h⟩
end
inductive LOpd where
  | tmp (i : Nat)
  | const (v : LVal)
def constS : Value → Option LVal
  | .bool b => some (.bool b)
  | .int k n => some (.int k n)
  | .string s => some (.str s)
  | .pointer none => some .nilp
  | .slice none 0 0 => some (.slice ⟨0, [], 0⟩ 0 0 0 0 (some 0))
  | .nilFunc => some .nilf
  | .nilIface => some .nilI
  | _ => none
def constOnes : List Value → Option Segs
  | [] => some .nil
  | v :: r => match constS v, constOnes r with
    | some x, some s => some (.one x s)
    | _, _ => none
def constL : Value → Option LVal
  | .agg cs => (constOnes cs.toList).map .agg
  | .tuple cs => match cs.toList with
    | [] => some .undef
    | _ => none
  | v => constS v
theorem constS_spec {v : Value} {x : LVal} (h : constS v = some x) (ρ : Pl) : PV ρ x v ∧ notAgg v := by
  unfold constS at h
  split at h <;> simp at h <;> subst h
  all_goals first
    | exact ⟨rfl, rfl⟩
    | exact ⟨⟨none, 0, rfl, .inl ⟨rfl, rfl, rfl⟩⟩, rfl⟩
theorem constOnes_spec : ∀ {l : List Value} {s : Segs}, constOnes l = some s → ∀ ρ, PS ρ s l
  | [], s, h, ρ => by
    simp [constOnes] at h
    subst h
    rfl
  | v :: r, s, h, ρ => by
    unfold constOnes at h
    split at h
    · rename_i x s' hx hs
      simp at h
      subst h
      exact ⟨v, r, rfl, (constS_spec hx ρ).1, (constS_spec hx ρ).2, constOnes_spec hs ρ⟩
    · simp at h
theorem constL_spec {v : Value} {x : LVal} (h : constL v = some x) (ρ : Pl) : PV ρ x v := by
  unfold constL at h
  split at h
  · rename_i cs
    cases hc : constOnes cs.toList with
    | none => simp [hc] at h
    | some s =>
      simp [hc] at h
      subst h
      exact ⟨cs.toList, constOnes_spec hc ρ, by simp⟩
  · rename_i cs
    split at h
    · rename_i he
      simp at h
      subst h
      have : cs = #[] := by simpa using he
      subst this
      rfl
    · simp at h
  · exact (constS_spec h ρ).1
def compileOpd : Operand → Option LOpd
  | .tmp i => some (.tmp i)
  | .const v => (constL v).map .const
  | .func f => some (.const (.func f .nil))
  | .global g => some (.const (.gl g))
def LOpd.rd : LOpd → (LVal → Rd) → Rd
  | .tmp i, k => .tmp i k
  | .const v, k => k v
def TSim (ρ : Pl) (t : List LVal) (a : Act) : Prop := t.length = a.tmps.size ∧ ∀ i, PV ρ (lget t i) (a.tmps.getD i undef)
section
variable {T : Nat → Nat → Prop} {w0 : World} {ρ : Pl} {h : LHeap} {w : World} {t : List LVal} {a : Act} {Φ : LVal → List (Nat × Option LObj) → Option LObj → Prop} {P : Program} {n : Nat}
theorem opd_wp {X : Operand} {x : LOpd} (hx : compileOpd X = some x) (ht : TSim ρ t a) {k : LVal → Rd} (hw : (x.rd k).wp t h Φ) : ∃ v, PV ρ v (a.eval X) ∧ (k v).wp t h Φ := by
  cases X with
  | tmp i =>
    simp [compileOpd] at hx
    subst hx
    simp only [LOpd.rd, Rd.wp, getK_eq] at hw
    exact ⟨lget t i, ht.2 i, hw⟩
  | const v =>
    simp only [compileOpd] at hx
    cases hc : constL v with
    | none => simp [hc] at hx
    | some c =>
      simp [hc] at hx
      subst hx
      exact ⟨c, constL_spec hc ρ, hw⟩
  | func f =>
    simp [compileOpd] at hx
    subst hx
    exact ⟨.func f .nil, ⟨[], rfl, rfl⟩, hw⟩
  | global g =>
    simp [compileOpd] at hx
    subst hx
    exact ⟨.gl g, rfl, hw⟩
/-- An operation's run: a value, or none. -/
def Done (P : Program) (o : Oper) (a : Act) (w : World) (x : Value) (w' : World) : Prop :=
  (execOp a.eval o).run P w = .ok (.value x) w' ∨ ((execOp a.eval o).run P w = .ok .skip w' ∧ x = undef)
def Res (P : Program) (o : Oper) (a : Act) (w : World) (T : Nat → Nat → Prop) (w0 : World) (ρ : Pl) (h : LHeap) (n : Nat) (Φ : LVal → List (Nat × Option LObj) → Option LObj → Prop) : Prop :=
  ∃ v u nw x ρ' w', Φ v u nw ∧ Done P o a w x w' ∧ Ext ρ ρ' ∧ (∀ i, (i ≠ n ∨ nw = none) → ρ' i = ρ i) ∧ PV ρ' v x ∧ Sim T w0 ρ' (applyU h u n nw) w'
theorem Res.quiet {o : Oper} {v : LVal} {x : Value} (hs : Sim T w0 ρ h w) (hΦ : Φ v [] none) (hr : (execOp a.eval o).run P w = .ok (.value x) w) (hv : PV ρ v x) : Res P o a w T w0 ρ h n Φ :=
  ⟨v, [], none, x, ρ, w, hΦ, .inl hr, Ext.refl ρ, fun _ _ => rfl, hv, hs⟩
end
def IntKind.num : IntKind → Nat
  | .i8 => 0 | .i16 => 1 | .i32 => 2 | .i64 => 3 | .u8 => 4 | .u16 => 5 | .u32 => 6 | .u64 => 7
def kEq (k k' : IntKind) : Bool := Nat.beq (IntKind.num k) (IntKind.num k')
theorem kEq_spec {k k' : IntKind} (h : kEq k k' = true) : k = k' := by
  cases k <;> cases k' <;> first | rfl | (exact absurd h (by decide))
def one (v : LVal) : Rd := .ret v [] none
def binRd (op : BinOp) : LVal → LVal → Rd
  | .int k a, .int k' b => match op with
    | .shl => .need (0 ≤ b) (one (.int k (k.wrap (a * 2 ^ (min b.toNat k.bits)))))
    | .shr => .need (0 ≤ b) (one (.int k (a.fdiv (2 ^ (min b.toNat k.bits)))))
    | op => match kEq k k' with
      | false => .fail
      | true => match op with
        | .add => one (.int k (k.wrap (a + b)))
        | .sub => one (.int k (k.wrap (a - b)))
        | .mul => one (.int k (k.wrap (a * b)))
        | .quo => .need (b ≠ 0) (one (.int k (k.wrap (a.tdiv b))))
        | .rem => .need (b ≠ 0) (one (.int k (a.tmod b)))
        | .and => one (.int k (k.wrap (BitVec.ofInt k.bits a &&& BitVec.ofInt k.bits b).toNat))
        | .or => one (.int k (k.wrap (BitVec.ofInt k.bits a ||| BitVec.ofInt k.bits b).toNat))
        | .xor => one (.int k (k.wrap (BitVec.ofInt k.bits a ^^^ BitVec.ofInt k.bits b).toNat))
        | .andNot => one (.int k (k.wrap (BitVec.ofInt k.bits a &&& ~~~BitVec.ofInt k.bits b).toNat))
        | .eql => one (.bool (a == b))
        | .neq => one (.bool (a != b))
        | .lss => one (.bool (a < b))
        | .leq => one (.bool (a ≤ b))
        | .gtr => one (.bool (a > b))
        | .geq => one (.bool (a ≥ b))
        | _ => .fail
  | .str x, .str y => match op with
    | .add => .need (((x.size + y.size : Nat) : Int) ≤ IntKind.i64.max) (one (.str (x ++ y)))
    | .eql => one (.bool (x == y))
    | .neq => one (.bool (!(x == y)))
    | .lss => one (.bool (Op.bytesLess x.toList y.toList))
    | .leq => one (.bool (Op.bytesLess x.toList y.toList || x == y))
    | .gtr => one (.bool (!(Op.bytesLess x.toList y.toList || x == y)))
    | .geq => one (.bool (!Op.bytesLess x.toList y.toList))
    | _ => .fail
  | _, _ => .fail
theorem kwrap {k : IntKind} {n : Nat} : k.wrap ((n : Nat) : Int) = k.wrap (n : Int) := rfl
section
variable {T : Nat → Nat → Prop} {w0 : World} {ρ : Pl} {h : LHeap} {w : World} {t : List LVal} {a : Act} {Φ : LVal → List (Nat × Option LObj) → Option LObj → Prop} {P : Program} {n : Nat}
theorem bin_sound (op : BinOp) (xT yT : TypeId) (X Y : Operand) (o : Oper) (ho : o.op = .binOp op xT X Y yT) (hs : Sim T w0 ρ h w) {vx vy : LVal} (hx : PV ρ vx (a.eval X)) (hy : PV ρ vy (a.eval Y)) (hw : (binRd op vx vy).wp t h Φ) : Res P o a w T w0 ρ h n Φ := by
  have main : ∀ v x, Φ v [] none → (eqGuard op xT X Y (a.eval X) (a.eval Y)).run P w = .ok () w → (binOp op xT (a.eval X) (a.eval Y)).run P w = .ok x w → PV ρ v x → Res P o a w T w0 ρ h n Φ := by
    intro v x h1 h2 h3 h4
    refine Res.quiet hs h1 ?_ h4
    unfold execOp
    simp only [ho, Sem.run_bind, h2, h3, Result.andThen_ok, Sem.run_pure]
  have hg : ∀ x y : Value, notAgg x → x ≠ .nilIface → (eqGuard op xT X Y x y).run P w = .ok () w := by
    intro x y h1 h2
    unfold eqGuard
    cases op <;> first | rfl | (cases x <;> first | rfl | exact absurd rfl h2 | exact absurd h1 (by simp [notAgg, Value.oneCell']))
  unfold binRd at hw
  split at hw
  · rename_i k n k' m
    have ex : a.eval X = .int k n := hx
    have ey : a.eval Y = .int k' m := hy
    have g := hg (.int k n) (.int k' m) rfl (by simp)
    rw [ex, ey] at main
    split at hw
    · obtain ⟨h0, hw⟩ := hw
      exact main _ _ hw g (by simp [binOp, Op.shift, Int.not_lt.2 h0]) rfl
    · obtain ⟨h0, hw⟩ := hw
      exact main _ _ hw g (by simp [binOp, Op.shift, Int.not_lt.2 h0]) rfl
    · rename_i n1 n2
      split at hw
      · exact hw.elim
      · rename_i hk
        have := kEq_spec hk
        subst this
        split at hw
        case h_4 => exact main _ _ hw.2 g (by simp [binOp, Op.intDiv, hw.1]) rfl
        case h_5 => exact main _ _ hw.2 g (by simp [binOp, Op.intDiv, hw.1]) rfl
        all_goals first
          | exact hw.elim
          | exact main _ _ hw g (by simp [binOp, Op.intArith, Op.intBits, Op.intCmp]) rfl
  · rename_i x y
    have ex : a.eval X = .string x := hx
    have ey : a.eval Y = .string y := hy
    have g := hg (.string x) (.string y) rfl (by simp)
    rw [ex, ey] at main
    split at hw
    · obtain ⟨h0, hw⟩ := hw
      exact main _ _ hw g (by simp only [binOp, Op.stringOp]; rw [if_neg (by omega)]; rfl) rfl
    all_goals first
      | exact hw.elim
      | exact main _ _ hw g (by simp [binOp, Op.stringOp, beq_toListBytes]) rfl
  · exact hw.elim
end
end Go.Proofs.Ytilmfhpoiejmfaa.Lh

/- Loads, stores, places; quiet operations. Over any program. -/
namespace Go.Proofs.Ytilmfhpoiejmfaa.Lh
set_option linter.unusedSimpArgs false
set_option linter.unusedVariables false
set_option linter.unusedSectionVars false
open Go.RowKit
variable [Fz]
section
variable {T : Nat → Nat → Prop} {w0 : World} {ρ : Pl} {h : LHeap} {w : World} {t : List LVal} {a : Act} {Φ : LVal → List (Nat × Option LObj) → Option LObj → Prop} {P : Program} {n : Nat}
def rdAt (p : LAddr) (K : Segs → Rd) : Rd := .obj p.blk fun o => pathK p.path o.segs fun s => skipK s p.off K .fail
theorem read_wp (hs : Sim T w0 ρ h w) {p : LAddr} {K : Segs → Rd} {g b m : Nat} (hp : ρ p.blk = some (g, b, m)) (hw : (rdAt p K).wp t h Φ) :
    ∃ s' C ty fr l1 l2, (K s').wp t h Φ ∧ w.heap[g]? = some (.cells C ty fr) ∧ C.toList = l1 ++ l2 ∧ l1.length = b + p.cell ∧ (∃ l3 l4, l2 = l3 ++ l4 ∧ PS ρ s' l3) ∧ True ∧ True := by
  simp only [rdAt, Rd.wp, hgetK_eq] at hw
  cases hg : hget h p.blk with
  | none => simp [hg] at hw
  | some o =>
    simp only [hg] at hw
    rcases hs.obj _ _ hg with ⟨g', b', m', ob, h1, h2, h3, hT⟩ | ⟨h1, _⟩
    · rw [hp] at h1
      cases h1
      obtain ⟨pre, l, ex, fr, rfl, hl, _, hb, _, hf⟩ := h3
      obtain ⟨s1, h4, h5⟩ := path_wp _ _ hw
      obtain ⟨s2, h6, h7⟩ := skip_wp _ _ h4
      obtain ⟨a1, a2, a3, rfl, e1, e2⟩ := h5 ρ l hl
      obtain ⟨b1, b2, rfl, e3, e4⟩ := h7 ρ a2 e2
      refine ⟨s2, _, _, fr, pre ++ a1 ++ b1, b2 ++ a3 ++ ex, h6, h2, by simp, ?_, ⟨b2, a3 ++ ex, by simp, e4⟩, trivial, trivial⟩
      simp only [List.length_append, LAddr.cell, hb, e1, e3]; omega
    · rw [hp] at h1; cases h1
theorem cell_at {w : World} {g : Nat} {C : Array Value} {ty : TypeId} {fr : Nat × Nat} (hg : w.heap[g]? = some (.cells C ty fr)) {l1 l2 : List Value} (hC : C.toList = l1 ++ l2) (j : Nat) : w.cell? ⟨g, l1.length + j, none⟩ = l2[j]? := by
  rw [cell_of_row w g _ C ty fr hg, ← Array.getElem?_toList, hC, List.getElem?_append_right (by omega)]
  congr 1 <;> omega
theorem splice {A B C Y : List Value} (h : Y.length = B.length) {k : Nat} (hk : k = A.length) : (A ++ (B ++ C)).take k ++ Y ++ (A ++ (B ++ C)).drop (k + Y.length) = A ++ (Y ++ C) := by
  subst hk
  rw [List.take_left, show A.length + Y.length = (A ++ B).length by simp [h], ← List.append_assoc A B C, List.drop_left, List.append_assoc]
/-- What a store makes of a block. -/
theorem setCells_heap (g : Nat) : ∀ (vs : List Value) (w : World) (o : Nat) (C : Array Value) (ty : TypeId) (fr : Nat × Nat), w.heap[g]? = some (.cells C ty fr) → o + vs.length ≤ C.size →
    (w.setCells g o vs).heap[g]? = some (.cells (C.toList.take o ++ vs ++ C.toList.drop (o + vs.length)).toArray ty fr) ∧ (w.setCells g o vs).heap.size = w.heap.size ∧ (∀ k, k ≠ g → (w.setCells g o vs).heap[k]? = w.heap[k]?) ∧
      (w.setCells g o vs).os = w.os ∧ (w.setCells g o vs).tape = w.tape ∧ (w.setCells g o vs).output = w.output
  | [], w, o, C, ty, fr, h, _ => by
    refine ⟨?_, rfl, fun _ _ => rfl, rfl, rfl, rfl⟩
    rw [List.append_nil, List.length_nil, Nat.add_zero, List.take_append_drop]
    exact h
  | v :: vs, w, o, C, ty, fr, h, hl => by
    have h1 : (w.setCell ⟨g, o, none⟩ v).heap[g]? = some (.cells (C.setIfInBounds o v) ty fr) := by
      simp [World.setCell, Array.getElem?_modify, h]
    have ho : o < C.size := by simp only [List.length_cons] at hl; omega
    obtain ⟨e1, e2, e3, e4, e5, e6⟩ := setCells_heap g vs _ (o + 1) _ ty fr h1 (by simp only [List.length_cons] at hl; simp; omega)
    refine ⟨?_, by rw [World.setCells, e2, World.size_setCell], fun k hk => by rw [World.setCells, e3 k hk]; exact Below.heap_setCell w ⟨g, o, none⟩ v k hk, e4, e5, e6⟩
    rw [World.setCells, e1]
    congr 3
    apply List.ext_getElem?
    intro i
    simp only [Array.toList_setIfInBounds, List.getElem?_append, List.length_append, List.length_take, List.length_set, Array.length_toList, List.getElem?_take, List.getElem?_set, List.getElem?_drop, List.length_cons, List.getElem?_cons]
    have hm1 : min (o + 1) C.size = o + 1 := by omega
    have hm2 : min o C.size = o := by omega
    rw [hm1, hm2]
    by_cases c1 : i < o
    · rw [if_pos (by omega), if_pos (by omega), if_pos (by omega), if_neg (by omega), if_pos (by omega), if_pos (by omega), if_pos (by omega)]
    · by_cases c2 : i = o
      · subst c2
        rw [if_pos (by omega), if_pos (by omega), if_pos (by omega), if_pos rfl, if_pos (by simpa using ho), if_pos (by omega), if_neg (by omega), if_pos (by omega)]
      · by_cases c3 : i < o + 1 + vs.length
        · rw [if_pos (by omega), if_neg (by omega), if_pos (by omega), if_neg (by omega), if_neg (by omega)]
          congr 1 <;> omega
        · rw [if_neg (by omega), if_neg (by omega), if_neg (by omega)]
          congr 1 <;> omega
theorem unfrozen_at {w : World} {g : Nat} {C : Array Value} {ty : TypeId} {fr : Nat × Nat} (hg : w.heap[g]? = some (.cells C ty fr)) (hf : unfrozen fr C.size) {i : Nat} (hi : i < C.size) : w.frozen? ⟨g, i, none⟩ = false := by
  have := hf.1 i hi
  simp only [World.frozen?, hg]
  simpa [Bool.and_eq_false_iff, Nat.not_le, Nat.not_lt] using (by omega : fr.1 ≤ i → fr.2 ≤ i)
theorem PS.oneCells {ρ : Pl} : ∀ (s : Segs) (l : List Value), PS ρ s l → ∀ x ∈ l, x.oneCell' = true
  | .nil, l, h, x, hx => by
    have : l = [] := h
    subst this; cases hx
  | .one v r, l, h, x, hx => by
    obtain ⟨y, l', rfl, _, h3, h4⟩ := h
    rcases List.mem_cons.1 hx with rfl | hx
    · exact h3
    · exact PS.oneCells r l' h4 x hx
  | .rows n w f r, l, h, x, hx => by
    obtain ⟨ls, l', rfl, h2, h3, h4⟩ := h
    rcases List.mem_append.1 hx with hx | hx
    · obtain ⟨y, hy, hxy⟩ := List.mem_flatten.1 hx
      obtain ⟨i, hi, rfl⟩ := List.mem_iff_getElem.1 hy
      obtain ⟨z, hz, _, hp⟩ := h3 i (by omega)
      rw [List.getElem?_eq_getElem hi] at hz
      cases hz
      exact PS.oneCells (f i) _ hp x hxy
    · exact PS.oneCells r l' h4 x hx
/-- A value's cells. -/
def cellsK (v : LVal) (w : Nat) (K : Segs → Rd) : Rd :=
  match v with
  | .agg s => match Nat.beq (segW s) w with
    | true => K s
    | false => .fail
  | .undef => .fail
  | .any => .fail
  | .tup _ => .fail
  | v => match Nat.beq w 1 with
    | true => K (.one v .nil)
    | false => .fail
theorem cells_wp {v : LVal} {x : Value} {m : Nat} {K : Segs → Rd} (hv : PV ρ v x) (hw : (cellsK v m K).wp t h Φ) : ∃ s, (K s).wp t h Φ ∧ PS ρ s x.cells.toList ∧ x.cells.size = m := by
  unfold cellsK at hw
  split at hw
  · rename_i s
    split at hw
    · rename_i hb
      have hb := Nat.eq_of_beq_eq_true hb
      obtain ⟨l, hl, rfl⟩ := hv
      refine ⟨s, hw, by simpa [Value.cells] using hl, ?_⟩
      have := PS.length _ _ hl
      simp [Value.cells]; omega
    · exact hw.elim
  · exact hw.elim
  · exact hw.elim
  · exact hw.elim
  · rename_i h1 h2 h2' h3
    split at hw
    · rename_i hb
      have hb := Nat.eq_of_beq_eq_true hb
      have key : x.oneCell' = true ∧ x.cells = #[x] := by
        cases v <;> first
          | exact absurd rfl (h1 _)
          | exact absurd rfl h2
          | exact absurd rfl h2'
          | exact absurd rfl (h3 _)
          | (have e : x = _ := hv; subst e; exact ⟨rfl, rfl⟩)
          | (obtain ⟨_, _, e, _⟩ := hv; subst e; exact ⟨rfl, rfl⟩)
          | (obtain ⟨_, _, _, e, _⟩ := hv; subst e; exact ⟨rfl, rfl⟩)
          | (obtain ⟨_, _, _, _, e⟩ := hv; subst e; exact ⟨rfl, rfl⟩)
          | (obtain ⟨_, _, e⟩ := hv; subst e; exact ⟨rfl, rfl⟩)
          | (have e := And.left hv; subst e; exact ⟨rfl, rfl⟩)
      refine ⟨.one v .nil, hw, ?_, by rw [key.2, hb]; rfl⟩
      rw [key.2]
      exact ⟨x, [], rfl, hv, key.1, rfl⟩
    · exact hw.elim
def loadS (w : Option Nat) (s : Segs) : Rd := match w with
  | none => match s with
    | .one v _ => Rd.ret v [] none
    | _ => .fail
  | some m => takeK s m (fun x => .ret (.agg x) [] none) .fail
def loadRd (w : Option Nat) : LVal → Rd
  | .ptr p => rdAt p fun s => loadS w s
  | .rptr s => loadS w s
  | _ => .fail
theorem load_core (ty : TypeId) (d : TypeDesc) (i : TypeInfo) (hd : P.underlying ty = some d) (hi : P.info? ty = some i) {s : Segs} {g o : Nat} {C : Array Value} {ty' : TypeId} {fr : Nat × Nat} {l1 l3 l4 : List Value} (h1 : (loadS (if d.isRow then some i.size else none) s).wp t h Φ) (h2 : w.heap[g]? = some (.cells C ty' fr)) (h3 : C.toList = l1 ++ (l3 ++ l4)) (h4 : l1.length = o) (h5 : PS ρ s l3) :
    ∃ v' x', Φ v' [] none ∧ (loadVar ty ⟨g, o, none⟩).run P w = .ok x' w ∧ PV ρ v' x' := by
  by_cases c : d.isRow = true
  · simp only [loadS, c, if_true] at h1
    obtain ⟨s', h6, h7⟩ := take_wp _ _ _ h1
    obtain ⟨c1, c2, rfl, h8, h9⟩ := h7 ρ l3 h5
    refine ⟨_, .agg c1.toArray, h6, ?_, c1, h9, rfl⟩
    refine run_loadVar_mid w g _ ty c1 d ?_ hd c (by rw [hi]; simp [h8])
    intro j v hj
    rw [← h4, cell_at h2 h3 j, List.append_assoc, List.getElem?_append_left ((List.getElem?_eq_some_iff.1 hj).1)]
    exact hj
  · simp only [loadS, c] at h1
    cases s <;> try exact h1.elim
    rename_i v r
    obtain ⟨x, l', rfl, h6, h7, _⟩ := h5
    have hcell : w.cell? ⟨g, o, none⟩ = some x := by
      have := cell_at h2 h3 0
      rw [h4] at this
      simpa using this
    refine ⟨_, x, h1, ?_, h6⟩
    have hagg : (isAgg ty).run P w = .ok false w := by
      unfold isAgg
      rw [Sem.run_bind, run_underlying hd w]
      cases d <;> simp_all
    simp [loadVar, Sem.run_bind, hagg, hcell]
theorem load_run (ty : TypeId) (d : TypeDesc) (i : TypeInfo) (hd : P.underlying ty = some d) (hi : P.info? ty = some i) (hs : Sim T w0 ρ h w) {v : LVal} {x : Value} (hv : PV ρ v x) (hw : (loadRd (if d.isRow then some i.size else none) v).wp t h Φ) :
    ∃ p v' x', x = .pointer (some p) ∧ Φ v' [] none ∧ (loadVar ty p).run P w = .ok x' w ∧ PV ρ v' x' := by
  cases v <;> try exact hw.elim
  · rename_i p
    obtain ⟨g, b, m, hp, hx⟩ := hv
    obtain ⟨s, C, ty', fr, l1, l2, h1, h2, h3, h4, ⟨l3, l4, rfl, h5⟩, _⟩ := read_wp hs hp hw
    obtain ⟨v', x', q1, q2, q3⟩ := load_core ty d i hd hi h1 h2 h3 h4 h5
    exact ⟨_, v', x', hx, q1, q2, q3⟩
  · rename_i s
    obtain ⟨g, off, l, hx, hf, h5⟩ := hv
    obtain ⟨C, ty', fr, l1, l4, h2, h3, h4⟩ := hf.heap hs
    obtain ⟨v', x', q1, q2, q3⟩ := load_core ty d i hd hi hw h2 h3 h4 (PS.ext (ext0 ρ) _ _ h5)
    exact ⟨_, v', x', hx, q1, q2, q3⟩
theorem load_sound (ty : TypeId) (X : Operand) (o : Oper) (ho : o.op = .load ty X) (d : TypeDesc) (i : TypeInfo) (hd : P.underlying ty = some d) (hi : P.info? ty = some i) (hs : Sim T w0 ρ h w) {v : LVal} (hv : PV ρ v (a.eval X))
    (hw : (loadRd (if d.isRow then some i.size else none) v).wp t h Φ) : Res P o a w T w0 ρ h n Φ := by
  obtain ⟨p, v', x', h1, h2, h3, h4⟩ := load_run (P := P) (w := w) ty d i hd hi hs hv hw
  refine Res.quiet hs h2 (x := x') ?_ h4
  unfold execOp
  simp only [ho, h1, Instr.loadAt, Instr.sureAddr, Sem.run_bind, Sem.run_pure, Result.andThen_ok, h3]
/-- Cells put at a place; what is told of it: 'r'. -/
def putRd (m : Nat) (p : LAddr) (y : Segs) (r : LVal) : Rd := .obj p.blk fun o => match o.ro with
    | true => .fail
    | false => pmodK p.path o.segs (fun s K => atK s p.off (fun s1 K1 => skipK s1 m (fun r => appK y r K1) .fail) K .fail) fun s' => .ret r [(p.blk, some ⟨s', o.ty, o.more, false⟩)] none
def storeRd (m : Nat) : LVal → LVal → Rd
  | .ptr p, v => cellsK v m fun y => putRd m p y .undef
  | _, _ => .fail
theorem put_run (hs : Sim T w0 ρ h w) {p : LAddr} {g b m' : Nat} (hp : ρ p.blk = some (g, b, m')) {m : Nat} {sy : Segs} {yl : List Value} (hsy : PS ρ sy yl) (hlen : yl.length = m) {r : LVal} (h1 : (putRd m p sy r).wp t h Φ) :
    ∃ o', Φ r [(p.blk, some o')] none ∧ Sim T w0 ρ (hset h p.blk (some o')) (w.setCells g (b + p.cell) yl) ∧ (∀ j, j < yl.length → (w.cell? ⟨g, b + p.cell + j, none⟩).isSome = true) ∧ (∀ j, j < yl.length → w.frozen? ⟨g, b + p.cell + j, none⟩ = false) := by
  simp only [putRd, Rd.wp, hgetK_eq] at h1
  cases hg : hget h p.blk with
  | none => simp [hg] at h1
  | some ob =>
    simp only [hg] at h1
    split at h1
    · exact h1.elim
    rename_i hro
    rcases hs.obj _ _ hg with ⟨g', b', m'', obj, e1, e2, e3, hT⟩ | ⟨e1, _⟩
    · rw [hp] at e1
      cases e1
      obtain ⟨s1, rb, h2, h3⟩ := pmod_wp _ _ _ h1
      obtain ⟨s2, rb2, h4, h5⟩ := at_wp _ _ _ h2
      obtain ⟨s3, h6, h7⟩ := skip_wp _ _ h4
      obtain ⟨s4, h8, h9⟩ := app_wp _ _ _ h6
      obtain ⟨pre, l, ex, fr, rfl, hl, hm, hb, hn, hf⟩ := e3
      obtain ⟨a1, a2, a3, rfl, f1, f2, f3⟩ := h3 ρ l hl
      obtain ⟨b1, b2, rfl, g1, g2, g3⟩ := h5 ρ a2 f2
      obtain ⟨c1, c2, rfl, k1, k2⟩ := h7 ρ b2 g2
      have hlen : yl.length = c1.length := by rw [hlen, k1]
      have q1 := h9 ρ _ _ hsy k2
      have q2 := g3 ρ _ _ (Ext.refl ρ) q1
      have q3 := f3 ρ _ _ (Ext.refl ρ) q2 (by simp only [List.length_append, hlen])
      have hoff : pre.length + a1.length + b1.length = b + p.cell := by simp only [LAddr.cell, hb, f1, g1]; omega
      have hCsz : (pre ++ (a1 ++ (b1 ++ (c1 ++ c2)) ++ a3) ++ ex).toArray.size = pre.length + a1.length + b1.length + c1.length + c2.length + a3.length + ex.length := by simp; omega
      obtain ⟨r1, r2, r3, r4, r5, r6⟩ := setCells_heap g yl w (b + p.cell) _ _ _ e2 (by rw [hCsz]; omega)
      have hdisp : (List.take (b + p.cell) (pre ++ (a1 ++ (b1 ++ (c1 ++ c2)) ++ a3) ++ ex).toArray.toList ++ yl ++ List.drop (b + p.cell + yl.length) (pre ++ (a1 ++ (b1 ++ (c1 ++ c2)) ++ a3) ++ ex).toArray.toList) = pre ++ (a1 ++ (b1 ++ (yl ++ c2)) ++ a3) ++ ex := by
        have e : pre ++ (a1 ++ (b1 ++ (c1 ++ c2)) ++ a3) ++ ex = (pre ++ a1 ++ b1) ++ (c1 ++ (c2 ++ a3 ++ ex)) := by simp
        have e' : pre ++ (a1 ++ (b1 ++ (yl ++ c2)) ++ a3) ++ ex = (pre ++ a1 ++ b1) ++ (yl ++ (c2 ++ a3 ++ ex)) := by simp
        rw [show (pre ++ (a1 ++ (b1 ++ (c1 ++ c2)) ++ a3) ++ ex).toArray.toList = pre ++ (a1 ++ (b1 ++ (c1 ++ c2)) ++ a3) ++ ex from rfl, e, e']
        exact splice hlen (by simp only [List.length_append]; omega)
      rw [hdisp] at r1
      refine ⟨_, h8, ?_, ?_, ?_⟩
      · refine hs.turn hro rfl hg hp ?_ r1 r2 r3 r4 r5 r6
        refine ⟨pre, _, ex, fr, rfl, q3, hm, hb, ?_, ?_⟩
        · rw [hn]; simp [hlen]
        · exact fun _ => ⟨fun k hk => (hf hro).1 k (by simp only [List.length_append, hlen] at hk ⊢; omega), (hf hro).2⟩
      · intro j hj
        rw [cell_of_row w g _ _ _ _ e2, Array.getElem?_eq_getElem (by rw [hCsz]; omega)]
        rfl
      · intro j hj
        exact unfrozen_at e2 (by simpa using hf hro) (by rw [hCsz]; omega)
    · rw [hp] at e1; cases e1
theorem store_sound (ty : TypeId) (X Y : Operand) (o : Oper) (ho : o.op = .store ty X Y) (i : TypeInfo) (hi : P.info? ty = some i) (hs : Sim T w0 ρ h w) {v y : LVal} (hv : PV ρ v (a.eval X)) (hy : PV ρ y (a.eval Y))
    (hw : (storeRd i.size v y).wp t h Φ) : Res P o a w T w0 ρ h n Φ := by
  cases v <;> try exact hw.elim
  rename_i p
  obtain ⟨g, b, m, hp, hx⟩ := hv
  obtain ⟨sy, h1, hsy, hsz⟩ := cells_wp hy hw
  obtain ⟨o', h2, h3, h4, h5⟩ := put_run hs hp hsy (by rw [Array.length_toList, hsz]) h1
  have hone := PS.oneCells _ _ hsy
  generalize hyl : (a.eval Y).cells.toList = yl at *
  refine ⟨.undef, _, _, undef, ρ, w.setCells g (b + p.cell) yl, h2, .inr ⟨?_, rfl⟩, Ext.refl ρ, fun _ _ => rfl, rfl, h3⟩
  have hst : (storeVar ty ⟨g, b + p.cell, none⟩ (a.eval Y)).run P w = .ok () (w.setCells g (b + p.cell) yl) := by
    have := run_storeCells_cells (P := P) g (b + p.cell) yl 0 w (fun j hj => by rw [Nat.add_zero]; exact h4 j hj) (fun j hj => by rw [Nat.add_zero]; exact h5 j hj) hone
    simp only [Nat.add_zero] at this
    simp [storeVar, sizeOf, typeInfo, hi, hsz, hyl, this]
  unfold execOp
  simp only [ho, hx, Instr.storeAt, Instr.sureAddr, Sem.run_bind, Sem.run_pure, Result.andThen_ok, hst]
/- Package sync/atomic's, of an int64. -/
def atLoadRd : LVal → Rd
  | .ptr p => rdAt p fun s => match s with
    | .one (.int k n) _ => (match kEq k .i64 with
      | true => .ret (.int .i64 n) [] none
      | false => .fail)
    | _ => .fail
  | _ => .fail
def atAddRd : LVal → LVal → Rd
  | .ptr p, .int k y => rdAt p fun s => match s with
    | .one (.int k' n) _ => (match kEq k' .i64, kEq k .i64 with
      | true, true => putRd 1 p (.one (.int .i64 (IntKind.i64.wrap (n + y))) .nil) (.int .i64 (IntKind.i64.wrap (n + y)))
      | _, _ => .fail)
    | _ => .fail
  | _, _ => .fail
def atStoreRd : LVal → LVal → Rd
  | .ptr p, .int k y => putRd 1 p (.one (.int k y) .nil) (.tup .nil)
  | _, _ => .fail
def atomicOf (P : Program) (f : FuncId) : Option Nat :=
  match P.funcs[f]? with
  | none => none
  | some fn => match fn.body.isNone && (fn.origin == "" || fn.origin == fn.name) with
    | false => none
    | true => match fn.name == "sync/atomic.LoadInt64" with
      | true => some 0
      | false => match fn.name == "sync/atomic.AddInt64" with
        | true => some 1
        | false => match fn.name == "sync/atomic.StoreInt64" with
          | true => some 2
          | false => none
theorem find_at (fn : Func) (ho : fn.origin = "" ∨ fn.origin = fn.name) : (fn.name = "sync/atomic.LoadInt64" → Extern.find fn = some (Extern.Atomic.loadT (.int .i64)) ∧ Extern.findNext fn = none) ∧ (fn.name = "sync/atomic.AddInt64" → Extern.find fn = some (Extern.Atomic.update (Op.intArith .add) .i64 true) ∧ Extern.findNext fn = none) ∧ (fn.name = "sync/atomic.StoreInt64" → Extern.find fn = some (Extern.Atomic.storeT) ∧ Extern.findNext fn = none) := by
  have h5 : Extern.allNextRows.lookup "" = none := by kernel_rfl
  refine ⟨fun h => ?_, fun h => ?_, fun h => ?_⟩
  · have h1 : Extern.allGenericRows.lookup "sync/atomic.LoadInt64" = none := by kernel_rfl
    have h2 : Extern.allTypedRows.lookup "sync/atomic.LoadInt64" = none := by kernel_rfl
    have h3 : Extern.allRows.lookup "sync/atomic.LoadInt64" = some (Extern.Atomic.loadT (.int .i64)) := by kernel_rfl
    have h4 : Extern.allNextRows.lookup "sync/atomic.LoadInt64" = none := by kernel_rfl
    refine ⟨?_, ?_⟩
    · unfold Extern.find
      rw [h]
      simp [h1, h2, h3]
    · unfold Extern.findNext
      rcases ho with ho | ho
      · rw [h, ho]
        simp only [h4, h5]
        rfl
      · rw [ho, h]
        simp only [h4]
        rfl
  · have h1 : Extern.allGenericRows.lookup "sync/atomic.AddInt64" = none := by kernel_rfl
    have h2 : Extern.allTypedRows.lookup "sync/atomic.AddInt64" = none := by kernel_rfl
    have h3 : Extern.allRows.lookup "sync/atomic.AddInt64" = some (Extern.Atomic.update (Op.intArith .add) .i64 true) := by kernel_rfl
    have h4 : Extern.allNextRows.lookup "sync/atomic.AddInt64" = none := by kernel_rfl
    refine ⟨?_, ?_⟩
    · unfold Extern.find
      rw [h]
      simp [h1, h2, h3]
    · unfold Extern.findNext
      rcases ho with ho | ho
      · rw [h, ho]
        simp only [h4, h5]
        rfl
      · rw [ho, h]
        simp only [h4]
        rfl
  · have h1 : Extern.allGenericRows.lookup "sync/atomic.StoreInt64" = none := by kernel_rfl
    have h2 : Extern.allTypedRows.lookup "sync/atomic.StoreInt64" = none := by kernel_rfl
    have h3 : Extern.allRows.lookup "sync/atomic.StoreInt64" = some (Extern.Atomic.storeT) := by kernel_rfl
    have h4 : Extern.allNextRows.lookup "sync/atomic.StoreInt64" = none := by kernel_rfl
    refine ⟨?_, ?_⟩
    · unfold Extern.find
      rw [h]
      simp [h1, h2, h3]
    · unfold Extern.findNext
      rcases ho with ho | ho
      · rw [h, ho]
        simp only [h4, h5]
        rfl
      · rw [ho, h]
        simp only [h4]
        rfl
theorem atomicOf_spec {f : FuncId} {k : Nat} (h : atomicOf P f = some k) : ∃ fn, P.funcs[f]? = some fn ∧ (fn.name == "runtime.NumGoroutine") = false ∧ fn.body.isNone = true ∧ Extern.findNext fn = none ∧
    ((k = 0 ∧ Extern.find fn = some (Extern.Atomic.loadT (.int .i64))) ∨ (k = 1 ∧ Extern.find fn = some (Extern.Atomic.update (Op.intArith .add) .i64 true)) ∨ (k = 2 ∧ Extern.find fn = some (Extern.Atomic.storeT))) := by
  unfold atomicOf at h
  split at h
  · cases h
  · rename_i fn hf
    split at h
    · cases h
    · rename_i hb
      simp only [Bool.and_eq_true, Bool.or_eq_true, beq_iff_eq] at hb
      obtain ⟨hb, ho⟩ := hb
      obtain ⟨g1, g2, g3⟩ := find_at fn ho
      split at h
      · rename_i hn
        have hn := eq_of_beq hn
        cases h
        refine ⟨fn, hf, by rw [hn]; rfl, hb, (g1 hn).2, .inl ⟨rfl, (g1 hn).1⟩⟩
      · split at h
        · rename_i hn
          have hn := eq_of_beq hn
          cases h
          refine ⟨fn, hf, by rw [hn]; rfl, hb, (g2 hn).2, .inr (.inl ⟨rfl, (g2 hn).1⟩)⟩
        · split at h
          · rename_i hn
            have hn := eq_of_beq hn
            cases h
            refine ⟨fn, hf, by rw [hn]; rfl, hb, (g3 hn).2, .inr (.inr ⟨rfl, (g3 hn).1⟩)⟩
          · cases h
theorem fcall_exec {o : Oper} {f : FuncId} {args : Array Operand} {tys : Array TypeId} (ho : o.op = .call ⟨.value (.func f), args, tys⟩) {v : Value} {w' : World} (h : (callFunc f (args.map a.eval)).run P w = .ok (.value v) w') : (execOp a.eval o).run P w = .ok (.value v) w' := by
  have e : a.eval (.func f) = .func (.func f) #[] #[] := rfl
  unfold execOp
  simp [ho, resolve, invoke, Deferred.ofValue, e, h]
theorem atLoad_sound {f : FuncId} {X : Operand} {tys : Array TypeId} {o : Oper} (ho : o.op = .call ⟨.value (.func f), #[X], tys⟩) (hf : atomicOf P f = some 0) (hs : Sim T w0 ρ h w) {v : LVal} (hv : PV ρ v (a.eval X)) (hw : (atLoadRd v).wp t h Φ) : Res P o a w T w0 ρ h n Φ := by
  obtain ⟨fn, q1, q2, q3, q4, ⟨_, q5⟩ | ⟨q, _⟩ | ⟨q, _⟩⟩ := atomicOf_spec hf
  · cases v <;> try exact hw.elim
    rename_i p
    obtain ⟨g, b, m, hp, hx⟩ := hv
    obtain ⟨s, C, ty', fr, l1, l2, h1, h2, h3, h4, ⟨l3, l4, rfl, h5⟩, _⟩ := read_wp hs hp hw
    split at h1 <;> try exact h1.elim
    split at h1 <;> try exact h1.elim
    rename_i k nn r _ hk
    have hk := kEq_spec hk
    subst hk
    obtain ⟨x, l', rfl, h6, h7, _⟩ := h5
    have h6 : x = .int .i64 nn := h6
    subst h6
    have hcell : w.cell? ⟨g, b + p.cell, none⟩ = some (.int .i64 nn) := by
      have := cell_at h2 h3 0
      rw [h4] at this
      simpa using this
    refine Res.quiet hs h1 (x := .int .i64 nn) (fcall_exec ho ?_) rfl
    have e : (#[X].map a.eval) = #[.pointer (some ⟨g, b + p.cell, none⟩)] := by simp [hx]
    rw [e]
    exact run_call_load q1 q2 q3 q4 .i64 q5 hcell
  · cases q
  · cases q
theorem atAdd_sound {f : FuncId} {X Y : Operand} {tys : Array TypeId} {o : Oper} (ho : o.op = .call ⟨.value (.func f), #[X, Y], tys⟩) (hf : atomicOf P f = some 1) (hs : Sim T w0 ρ h w) {v y : LVal} (hv : PV ρ v (a.eval X)) (hy : PV ρ y (a.eval Y)) (hw : (atAddRd v y).wp t h Φ) : Res P o a w T w0 ρ h n Φ := by
  obtain ⟨fn, q1, q2, q3, q4, ⟨q, _⟩ | ⟨_, q5⟩ | ⟨q, _⟩⟩ := atomicOf_spec hf
  · cases q
  · cases v <;> try exact hw.elim
    cases y <;> try exact hw.elim
    rename_i p k y
    obtain ⟨g, b, m, hp, hx⟩ := hv
    have hy : a.eval Y = .int k y := hy
    obtain ⟨s, C, ty', fr, l1, l2, h1, h2, h3, h4, ⟨l3, l4, rfl, h5⟩, _⟩ := read_wp hs hp hw
    split at h1 <;> try exact h1.elim
    split at h1 <;> try exact h1.elim
    rename_i k' nn r _ _ hk' hk
    have hk' := kEq_spec hk'
    have hk := kEq_spec hk
    subst hk' hk
    obtain ⟨x, l', rfl, h6, h7, _⟩ := h5
    have h6 : x = .int .i64 nn := h6
    subst h6
    have hcell : w.cell? ⟨g, b + p.cell, none⟩ = some (.int .i64 nn) := by
      have := cell_at h2 h3 0
      rw [h4] at this
      simpa using this
    obtain ⟨o', k2, k3, k4, k5⟩ := put_run hs hp (sy := .one (.int .i64 (IntKind.i64.wrap (nn + y))) .nil) (yl := [.int .i64 (IntKind.i64.wrap (nn + y))]) ⟨_, [], rfl, rfl, rfl, rfl⟩ rfl h1
    refine ⟨_, _, _, .int .i64 (IntKind.i64.wrap (nn + y)), ρ, _, k2, .inl (fcall_exec ho ?_), Ext.refl ρ, fun _ _ => rfl, rfl, k3⟩
    have e : (#[X, Y].map a.eval) = #[.pointer (some ⟨g, b + p.cell, none⟩), .int .i64 y] := by simp [hx, hy]
    rw [e]
    exact run_call_add q1 q2 q3 q4 .i64 q5 hcell (k5 0 (by simp)) (by simp [Op.intArith])
  · cases q
theorem atStore_sound {f : FuncId} {X Y : Operand} {tys : Array TypeId} {o : Oper} (ho : o.op = .call ⟨.value (.func f), #[X, Y], tys⟩) (hf : atomicOf P f = some 2) (hs : Sim T w0 ρ h w) {v y : LVal} (hv : PV ρ v (a.eval X)) (hy : PV ρ y (a.eval Y)) (hw : (atStoreRd v y).wp t h Φ) : Res P o a w T w0 ρ h n Φ := by
  obtain ⟨fn, q1, q2, q3, q4, ⟨q, _⟩ | ⟨q, _⟩ | ⟨_, q5⟩⟩ := atomicOf_spec hf
  · cases q
  · cases q
  · cases v <;> try exact hw.elim
    cases y <;> try exact hw.elim
    rename_i p k y
    obtain ⟨g, b, m, hp, hx⟩ := hv
    have hy : a.eval Y = .int k y := hy
    obtain ⟨o', k2, k3, k4, k5⟩ := put_run hs hp (sy := .one (.int k y) .nil) (yl := [.int k y]) ⟨_, [], rfl, rfl, rfl, rfl⟩ rfl hw
    obtain ⟨u, hu⟩ := Option.isSome_iff_exists.1 (k4 0 (by simp))
    refine ⟨_, _, _, .tuple #[], ρ, _, k2, .inl (fcall_exec ho ?_), Ext.refl ρ, fun _ _ => rfl, ⟨[], rfl, rfl⟩, k3⟩
    have e : (#[X, Y].map a.eval) = #[.pointer (some ⟨g, b + p.cell, none⟩), .int k y] := by simp [hx, hy]
    rw [e]
    exact run_call_store q1 q2 q3 q4 q5 hu (k5 0 (by simp))
end
end Go.Proofs.Ytilmfhpoiejmfaa.Lh

/- Further operations: new variables, places, tests, conversions. Over any program. -/
namespace Go.Proofs.Ytilmfhpoiejmfaa.Lh
set_option linter.unusedSimpArgs false
set_option linter.unusedVariables false
set_option linter.unusedSectionVars false
open Go.RowKit
variable [Fz]
/-- Is a value what a constant is? -/
def cEq : LVal → Value → Bool
  | .bool b, .bool c => b == c
  | .int k n, .int k' m => kEq k k' && n == m
  | .str s, .string s' => s.data.toList == s'.data.toList
  | .nilp, .pointer none => true
  | .slice _ _ _ 0 0 _, .slice none 0 0 => true
  | .nilf, .nilFunc => true
  | .nilI, .nilIface => true
  | _, _ => false
theorem cEq_spec {v : LVal} {x : Value} (h : cEq v x = true) (ρ : Pl) : PV ρ v x ∧ notAgg x := by
  unfold cEq at h
  split at h
  · have := eq_of_beq h; subst this; exact ⟨rfl, rfl⟩
  · simp only [Bool.and_eq_true] at h
    have h1 := kEq_spec h.1
    have h2 := eq_of_beq h.2
    subst h1 h2; exact ⟨rfl, rfl⟩
  · rename_i s s'
    have h := eq_of_beq h
    have : s = s' := by cases s; cases s'; simpa [← Array.toList_inj] using h
    subst this; exact ⟨rfl, rfl⟩
  · exact ⟨rfl, rfl⟩
  · exact ⟨⟨none, 0, rfl, .inl ⟨rfl, rfl, rfl⟩⟩, rfl⟩
  · exact ⟨rfl, rfl⟩
  · exact ⟨rfl, rfl⟩
  · cases h
/-- The cells of pieces that are constants. -/
def flatC : Segs → (List Value → Option (List Value)) 
  | .nil, l => some l
  | .one v r, x :: l => if cEq v x then flatC r l else none
  | .one _ _, [] => none
  | .rows n w f r, l => if (List.range n).all (fun i => decide ((l.drop (i * w)).length ≥ w) && (match flatC (f i) ((l.drop (i * w)).take w) with | some [] => true | _ => false)) then flatC r (l.drop (n * w)) else none
  | .res _, _ => none
theorem rows_of {ρ : Pl} {w : Nat} {f : Nat → Segs} {q : Segs} : ∀ (n : Nat) (l l' : List Value), n * w ≤ l.length → (∀ i, i < n → PS ρ (f i) ((l.drop (i * w)).take w)) → PS ρ q l' → PS ρ (.rows n w f q) (l.take (n * w) ++ l') := by
  intro n l l' hl hf hq
  refine ⟨(List.range n).map fun i => (l.drop (i * w)).take w, l', ?_, by simp, fun i hi => ?_, hq⟩
  · congr 1
    clear hf hq
    induction n with
    | zero => simp
    | succ n ih =>
      have e : (n + 1) * w = n * w + w := by rw [Nat.add_mul]; omega
      rw [List.range_succ, List.map_append, List.flatten_append, ← ih (by omega), e, List.take_add]
      simp
  · refine ⟨_, by rw [List.getElem?_map, List.getElem?_range hi]; rfl, ?_, hf i hi⟩
    have h1 : (i + 1) * w ≤ n * w := Nat.mul_le_mul_right w hi
    have e : (i + 1) * w = i * w + w := by rw [Nat.add_mul]; omega
    simp only [List.length_take, List.length_drop]
    omega
theorem flatC_spec {ρ : Pl} : ∀ (s : Segs) (l r : List Value), flatC s l = some r → ∃ l1, l = l1 ++ r ∧ PS ρ s l1
  | .nil, l, r, h => by
    simp [flatC] at h
    subst h
    exact ⟨[], rfl, rfl⟩
  | .one v q, [], r, h => by simp [flatC] at h
  | .one v q, x :: l, r, h => by
    unfold flatC at h
    split at h
    · rename_i hc
      obtain ⟨l1, rfl, h1⟩ := flatC_spec q l r h
      exact ⟨x :: l1, rfl, x, l1, rfl, (cEq_spec hc ρ).1, (cEq_spec hc ρ).2, h1⟩
    · cases h
  | .rows n w f q, l, r, h => by
    unfold flatC at h
    split at h
    · rename_i hc
      obtain ⟨l1, h1, h2⟩ := flatC_spec q _ r h
      simp only [List.all_eq_true, List.mem_range, Bool.and_eq_true, decide_eq_true_eq] at hc
      have hlen : n * w ≤ l.length := by
        rcases Nat.eq_zero_or_pos n with h0 | h0
        · subst h0; simp
        · have := (hc (n - 1) (by omega)).1
          rw [List.length_drop] at this
          have e : n * w = (n - 1) * w + w := by
            rw [show n * w = (n - 1 + 1) * w by congr 1; omega, Nat.add_mul]; omega
          by_cases hw : w = 0
          · subst hw; simp
          · omega
      refine ⟨l.take (n * w) ++ l1, ?_, rows_of n l l1 hlen (fun i hi => ?_) h2⟩
      · rw [List.append_assoc, ← h1, List.take_append_drop]
      · have h3 := (hc i hi).2
        split at h3
        · rename_i h4
          obtain ⟨m, h5, h6⟩ := flatC_spec (f i) _ [] h4
          rw [h5, List.append_nil]
          exact h6
        · cases h3
    · cases h
  | .res _, l, r, h => by
    unfold flatC at h
    cases h
def flatEq (s : Segs) (l : List Value) : Bool := match flatC s l with
  | some [] => true
  | _ => false
theorem flatEq_spec {s : Segs} {l : List Value} (h : flatEq s l = true) (ρ : Pl) : PS ρ s l := by
  unfold flatEq at h
  split at h
  · rename_i hc
    obtain ⟨l1, h1, h2⟩ := flatC_spec (ρ := ρ) s l [] hc
    rw [h1, List.append_nil]
    exact h2
  · cases h
def Chunks (ρ : Pl) (w n : Nat) (f : Nat → Segs) (l : List Value) : Prop := l.length = n * w ∧ ∀ i, i < n → PS ρ (f i) ((l.drop (i * w)).take w)
section
variable {ρ : Pl} {w : Nat}
theorem chunks_rows {n : Nat} {f : Nat → Segs} {l : List Value} (h : Chunks ρ w n f l) : PS ρ (.rows n w f .nil) l := by
  have := rows_of (ρ := ρ) (w := w) (f := f) (q := .nil) n l [] (by rw [h.1]; omega) h.2 rfl
  rw [List.append_nil, List.take_of_length_le (by rw [h.1]; omega)] at this
  exact this
theorem rows_chunks : ∀ {n : Nat} {f : Nat → Segs} {q : Segs} {l : List Value}, PS ρ (.rows n w f q) l → ∃ l1 l2, l = l1 ++ l2 ∧ Chunks ρ w n f l1 ∧ PS ρ q l2 := by
  intro n f q l h
  have h0 := h
  obtain ⟨ls, l', rfl, h2, h3, h4⟩ := h
  have hf := flatten_length_const (w := w) ls (fun i hi => by
    obtain ⟨y, hy, hw, _⟩ := h3 i (by omega)
    exact ⟨y, hy, hw⟩)
  refine ⟨ls.flatten, l', rfl, ⟨by rw [hf, h2], fun i hi => ?_⟩, h4⟩
  obtain ⟨y, hy, hw, hp⟩ := h3 i hi
  obtain ⟨a, b, e1, e2, _⟩ := flatten_split (w := w) ls i y (fun k hk => by
    obtain ⟨y, hy, hw, _⟩ := h3 k (by omega)
    exact ⟨y, hy, hw⟩) hy
  rw [e1, List.append_assoc, ← e2, List.drop_left, ← hw, List.take_left]
  exact hp
end
theorem unfrozen0 (n : Nat) : unfrozen (0, 0) n := ⟨fun i _ h => by omega, Nat.le_refl _⟩
section
variable {T : Nat → Nat → Prop} {w0 : World} {ρ : Pl} {h : LHeap} {w : World} {t : List LVal} {a : Act} {Φ : LVal → List (Nat × Option LObj) → Option LObj → Prop} {P : Program} {n : Nat}
/-- What a new block leaves. -/
theorem Res.new {o : Oper} {v : LVal} {x : Value} {ob : LObj} {l ex : List Value} {c : Array Value} {fr : Nat × Nat} {w1 w' : World} (hs : Sim T w0 ρ h w) (hn : ρ n = none) (hh : hget h n = none) (hw1 : w1 = w ∨ w1 = w.drew) (hw' : w' = w1.alloc (.cells c ob.ty fr)) (hc : c = (l ++ ex).toArray) (hl : PS ρ ob.segs l) (hm : ob.more = false → ex = []) (hf : unfrozen fr (l ++ ex).length)
    (hΦ : Φ v [] (some ob)) (hr : (execOp a.eval o).run P w = .ok (.value x) w') (hv : PV (ρ.put n (w.heap.size, 0, (l ++ ex).length)) v x) (hro : ob.ro = false := by rfl) : Res P o a w T w0 ρ h n Φ := by
  have hs1 : Sim T w0 ρ h w1 := by
    rcases hw1 with e | e
    · rw [e]; exact hs
    · rw [e]; exact hs.drew
  have hz : w1.heap.size = w.heap.size := by
    rcases hw1 with e | e
    · rw [e]
    · rw [e]; rfl
  refine ⟨v, [], some ob, x, _, w', hΦ, .inl hr, Pl.put_ext hn _, fun i hi => by rw [Pl.put_at, if_neg (hi.resolve_right (by simp))], hv, ?_⟩
  subst hw'
  rw [← hz]
  exact hs1.alloc hn hh hro hc hl hm hf
def newPtr (n : Nat) : LVal := .ptr ⟨n, [], 0⟩
theorem newPtr_PV {ρ : Pl} {n g m : Nat} : PV (ρ.put n (g, 0, m)) (newPtr n) (.pointer (some ⟨g, 0, none⟩)) := ⟨g, 0, m, by simp [Pl.put], rfl⟩
theorem alloc_sound (ty : TypeId) (o : Oper) (ho : o.op = .alloc ty) (i : TypeInfo) (z : Value) (hi : P.info? ty = some i) (hz : i.zero = some z) (s : Segs) (hf : flatEq s z.cells.toList = true) (hs : Sim T w0 ρ h w) (hn : ρ n = none) (hh : hget h n = none)
    (hw : (Rd.ret (newPtr n) [] (some ⟨s, ty, false, false⟩)).wp t h Φ) : Res P o a w T w0 ρ h n Φ := by
  refine Res.new (ob := ⟨s, ty, false, false⟩) (c := z.cells) (l := z.cells.toList) (ex := []) (x := .pointer (some ⟨w.heap.size, 0, none⟩)) hs hn hh (.inl rfl) rfl (by simp) (flatEq_spec hf ρ) (fun _ => rfl) (unfrozen0 _) hw ?_ newPtr_PV
  unfold execOp
  simp [ho, Instr.alloc, zeroValue, typeInfo, hi, hz, newVar, newRow]
theorem box_sound (ty : TypeId) (X : Operand) (o : Oper) (ho : o.op = .box ty X) (m : Nat) (hs : Sim T w0 ρ h w) (hn : ρ n = none) (hh : hget h n = none) {v : LVal} (hv : PV ρ v (a.eval X))
    (hw : (cellsK v m fun s => Rd.ret (newPtr n) [] (some ⟨s, ty, false, false⟩)).wp t h Φ) : Res P o a w T w0 ρ h n Φ := by
  obtain ⟨s, h1, h2, _⟩ := cells_wp hv hw
  refine Res.new (ob := ⟨s, ty, false, false⟩) (c := (a.eval X).cells) (l := (a.eval X).cells.toList) (ex := []) (x := .pointer (some ⟨w.heap.size, 0, none⟩)) hs hn hh (.inl rfl) rfl (by simp) h2 (fun _ => rfl) (unfrozen0 _) h1 ?_ newPtr_PV
  unfold execOp
  simp [ho, Instr.box, newVar, newRow]
def shcRd (left : Bool) (p : Int) (kx : IntKind) : LVal → Rd
  | .int k a => match kEq k kx with
    | true => match left with
      | true => one (.int k (k.wrap (a * p)))
      | false => one (.int k (a / p))
    | false => .fail
  | _ => .fail
theorem shc_sound (op : BinOp) (left : Bool) (hop : op = if left then .shl else .shr) (xT yT : TypeId) (X : Operand) (k' : IntKind) (c : Nat) (kx : IntKind) (o : Oper) (ho : o.op = .binOp op xT X (.const (.int k' (c : Int))) yT) (hc : c ≤ kx.bits) (hs : Sim T w0 ρ h w) {v : LVal} (hv : PV ρ v (a.eval X)) (hw : (shcRd left ((2 ^ c : Nat) : Int) kx v).wp t h Φ) : Res P o a w T w0 ρ h n Φ := by
  cases v <;> try exact hw.elim
  rename_i k m
  have ex : a.eval X = .int k m := hv
  simp only [shcRd] at hw
  split at hw
  · rename_i hk
    have := kEq_spec hk
    subst this
    have ey : a.eval (.const (.int k' (c : Int))) = .int k' (c : Int) := rfl
    have hmin : min c k.bits = c := Nat.min_eq_left hc
    have hnn : ¬ ((c : Int) < 0) := by omega
    cases left
    · subst hop
      refine Res.quiet hs hw (x := .int k (m / ((2 ^ c : Nat) : Int))) ?_ rfl
      unfold execOp
      simp [ho, ex, ey, eqGuard, binOp, Op.shift, hnn, hmin, Int.fdiv_eq_ediv_of_nonneg m (by exact_mod_cast (Nat.zero_le (2 ^ c)) : (0 : Int) ≤ 2 ^ c)]
    · subst hop
      refine Res.quiet hs hw (x := .int k (k.wrap (m * ((2 ^ c : Nat) : Int)))) ?_ rfl
      unfold execOp
      simp [ho, ex, ey, eqGuard, binOp, Op.shift, hnn, hmin]
  · exact hw.elim
def fieldRd (off : Nat) : LVal → Rd
  | .ptr p => one (.ptr ⟨p.blk, p.path, p.off + off⟩)
  | .rptr s => skipK s off (fun s' => one (.rptr s')) .fail
  | _ => .fail
theorem field_sound (ty : TypeId) (X : Operand) (k : Nat) (o : Oper) (ho : o.op = .fieldAddr ty X k) (fs : Array Field) (f : Field) (i : TypeInfo) (hd : P.underlying ty = some (.struct fs)) (hk : fs[k]? = some f) (hi : P.info? f.type = some i) (h0 : i.size ≠ 0) (hs : Sim T w0 ρ h w) {v : LVal} (hv : PV ρ v (a.eval X))
    (hw : (fieldRd f.offset v).wp t h Φ) : Res P o a w T w0 ρ h n Φ := by
  cases v <;> try exact hw.elim
  · rename_i p
    obtain ⟨g, b, m, hp, hx⟩ := hv
    refine Res.quiet hs hw (x := .pointer (some ⟨g, b + p.cell + f.offset, none⟩)) ?_ ⟨g, b, m, hp, by simp only [LAddr.cell]; congr 3; omega⟩
    unfold execOp
    simp [ho, hx, Instr.fieldAt, run_underlying hd, hk, Instr.sureAddr, fieldPlace, sizeOf, typeInfo, hi, h0, Addr.add_mid]
  · rename_i s
    obtain ⟨g, off, l, hx, hf, h5⟩ := hv
    obtain ⟨s2, h6, h7⟩ := skip_wp _ _ hw
    obtain ⟨b1, b2, rfl, h8, h9⟩ := h7 ρ.clo l h5
    have hf2 := hf.sub f.offset b2.length (by simp; omega)
    rw [← h8, List.drop_left, List.take_length] at hf2
    refine Res.quiet hs h6 (x := .pointer (some ⟨g, off + f.offset, none⟩)) ?_ ⟨g, off + f.offset, b2, rfl, by rw [← h8]; exact hf2, h9⟩
    unfold execOp
    simp [ho, hx, Instr.fieldAt, run_underlying hd, hk, Instr.sureAddr, fieldPlace, sizeOf, typeInfo, hi, h0, Addr.add_mid]
def idxArrRd (w n : Nat) : LVal → LVal → Rd
  | .ptr p, .int _ i => .need (0 ≤ i ∧ i < (n : Int)) (one (.ptr ⟨p.blk, p.path ++ [(p.off, i.toNat, w)], 0⟩))
  | .rptr s, .int _ i => match s with
    | .rows k w' f _ => match Nat.beq w w', Nat.beq n k with
      | true, true => .need (0 ≤ i ∧ i < (n : Int)) (one (.rptr (f i.toNat)))
      | _, _ => .fail
    | _ => .fail
  | _, _ => .fail
def idxSlRd (w : Nat) : LVal → LVal → Rd
  | .slice p st w' len _ _, .int _ i => match Nat.beq w w' with
    | true => .need (0 ≤ i ∧ i < (len : Int)) (one (.ptr ⟨p.blk, p.path ++ [(p.off, st + i.toNat, w)], 0⟩))
    | false => .fail
  | .rsl n w' f, .int _ i => match Nat.beq w w' with
    | true => .need (0 ≤ i ∧ i < (n : Int)) (one (.rptr (f i.toNat)))
    | false => .fail
  | _, _ => .fail
theorem pathSum_snoc (p : List (Nat × Nat × Nat)) (o i w : Nat) : pathSum (p ++ [(o, i, w)]) = pathSum p + (o + i * w) := by
  induction p with
  | nil => simp [pathSum]
  | cons x r ih => obtain ⟨a, b, c⟩ := x; simp only [List.cons_append, pathSum, ih]; omega
theorem idxArr_sound (ty : TypeId) (X Y : Operand) (o : Oper) (ho : o.op = .indexAddr ty X Y) (len : Nat) (e : TypeId) (i : TypeInfo) (hd : P.underlying ty = some (.array len e)) (hi : P.info? e = some i) (hs : Sim T w0 ρ h w) {v y : LVal} (hv : PV ρ v (a.eval X)) (hy : PV ρ y (a.eval Y))
    (hw : (idxArrRd i.size len v y).wp t h Φ) : Res P o a w T w0 ρ h n Φ := by
  cases v <;> try exact hw.elim
  rotate_left
  · rename_i s
    cases y <;> try exact hw.elim
    rename_i k j
    simp only [idxArrRd] at hw
    cases s <;> try exact hw.elim
    rename_i n' w' f q
    simp only at hw
    split at hw <;> try exact hw.elim
    rename_i hb1 hb2
    have hb1 := Nat.eq_of_beq_eq_true hb1
    have hb2 := Nat.eq_of_beq_eq_true hb2
    subst hb1 hb2
    obtain ⟨h0, hw⟩ := hw
    have ey : a.eval Y = .int k j := hy
    obtain ⟨g, off, l, hx, hf, h5⟩ := hv
    obtain ⟨d1, d2, rfl, hch, _⟩ := rows_chunks h5
    have hj : j.toNat < len := by omega
    have hmul := mul_lt i.size hj
    have hf2 := hf.sub (j.toNat * i.size) i.size (by rw [List.length_append, hch.1]; omega)
    rw [List.drop_append_of_le_length (by rw [hch.1]; omega), List.take_append_of_le_length (by rw [List.length_drop, hch.1]; omega)] at hf2
    refine Res.quiet hs hw (x := .pointer (some ⟨g, off + j.toNat * i.size, none⟩)) ?_ ⟨g, _, _, rfl, hf2, hch.2 _ hj⟩
    unfold execOp
    simp [ho, hx, ey, Instr.indexAt, asIntOf, run_underlying hd, Instr.sureAddr, h0, sizeOf, typeInfo, hi, Addr.add_mid]
  cases y <;> try exact hw.elim
  rename_i p k j
  obtain ⟨g, b, m, hp, hx⟩ := hv
  obtain ⟨h0, hw⟩ := hw
  have ey : a.eval Y = .int k j := hy
  refine Res.quiet hs hw (x := .pointer (some ⟨g, b + p.cell + j.toNat * i.size, none⟩)) ?_ ⟨g, b, m, hp, by simp only [LAddr.cell, pathSum_snoc]; congr 3; omega⟩
  unfold execOp
  simp [ho, hx, ey, Instr.indexAt, asIntOf, run_underlying hd, Instr.sureAddr, h0, sizeOf, typeInfo, hi, Addr.add_mid]
theorem idxSl_sound (ty : TypeId) (X Y : Operand) (o : Oper) (ho : o.op = .indexAddr ty X Y) (e : TypeId) (i : TypeInfo) (hd : P.underlying ty = some (.slice e)) (hi : P.info? e = some i) (hs : Sim T w0 ρ h w) {v y : LVal} (hv : PV ρ v (a.eval X)) (hy : PV ρ y (a.eval Y))
    (hw : (idxSlRd i.size v y).wp t h Φ) : Res P o a w T w0 ρ h n Φ := by
  cases v <;> try exact hw.elim
  rotate_left
  · cases y <;> try exact hw.elim
    rename_i m w' f k j
    simp only [idxSlRd] at hw
    split at hw
    · rename_i hb
      have hb := Nat.eq_of_beq_eq_true hb
      subst hb
      obtain ⟨h0, hw⟩ := hw
      have ey : a.eval Y = .int k j := hy
      obtain ⟨q, cap, hx, hcap, h1 | ⟨g, off, l, rfl, hf, hl, hps⟩⟩ := hv
      · omega
      · have hj : j.toNat < m := by omega
        have hmul := mul_lt i.size hj
        have hf2 := hf.sub (j.toNat * i.size) i.size (by omega)
        refine Res.quiet hs hw (x := .pointer (some ⟨g, off + j.toNat * i.size, none⟩)) ?_ ⟨g, _, _, rfl, hf2, hps _ hj⟩
        unfold execOp
        simp [ho, hx, ey, Instr.indexAt, asIntOf, run_underlying hd, h0, sizeOf, typeInfo, hi, Addr.add_mid]
    · exact hw.elim
  cases y <;> try exact hw.elim
  rename_i p st w' len lo hi' k j
  simp only [idxSlRd] at hw
  split at hw
  · rename_i hb
    have hb := Nat.eq_of_beq_eq_true hb
    subst hb
    obtain ⟨h0, hw⟩ := hw
    have ey : a.eval Y = .int k j := hy
    obtain ⟨q, cap, hx, h1 | ⟨g, b, m, hp, rfl, _⟩⟩ := hv
    · omega
    · refine Res.quiet hs hw (x := .pointer (some ⟨g, b + (p.cell + st * i.size) + j.toNat * i.size, none⟩)) ?_ ⟨g, b, m, hp, by simp only [LAddr.cell, pathSum_snoc, Nat.add_mul]; congr 3; omega⟩
      unfold execOp
      simp [ho, hx, ey, Instr.indexAt, asIntOf, run_underlying hd, h0, sizeOf, typeInfo, hi, Addr.add_mid]
  · exact hw.elim
def nilRd : LVal → Rd
  | .ptr p => one (.ptr p)
  | .rptr s => one (.rptr s)
  | .func f c => one (.func f c)
  | .iface t v => one (.iface t v)
  | .tok k => one (.tok k)
  | _ => .fail
theorem nil_sound (X : Operand) (o : Oper) (ho : o.op = .nilCheck X) (hs : Sim T w0 ρ h w) {v : LVal} (hv : PV ρ v (a.eval X)) (hw : (nilRd v).wp t h Φ) : Res P o a w T w0 ρ h n Φ := by
  cases v <;> try exact hw.elim
  · rename_i p
    refine Res.quiet hs hw ?_ hv
    obtain ⟨g, b, m, hp, hx⟩ := hv
    unfold execOp
    simp [ho, hx]
  · rename_i f c
    refine Res.quiet hs hw ?_ hv
    obtain ⟨l, hl, hx⟩ := hv
    unfold execOp
    simp [ho, hx]
  · rename_i ty x
    refine Res.quiet hs hw ?_ hv
    obtain ⟨y, hl, hx⟩ := hv
    unfold execOp
    simp [ho, hx]
  · rename_i s
    refine Res.quiet hs hw ?_ hv
    obtain ⟨g, off, l, hx, _⟩ := hv
    unfold execOp
    simp [ho, hx]
  · rename_i k
    refine Res.quiet hs hw ?_ hv
    obtain ⟨g, _, hx⟩ := hv
    unfold execOp
    simp [ho, hx]
theorem move_sound (X : Operand) (o : Oper) (ho : o.op = .move X ∨ o.op = .assign X) (hs : Sim T w0 ρ h w) {v : LVal} (hv : PV ρ v (a.eval X)) (hw : (one v).wp t h Φ) : Res P o a w T w0 ρ h n Φ := by
  refine Res.quiet hs hw ?_ hv
  unfold execOp
  rcases ho with ho | ho <;> simp [ho]
def pickRd : LVal → (Rd → Rd → Rd)
  | .bool b, x, y => .ite b x y
  | _, _, _ => .fail
theorem ite_wp {b : Bool} {x y : Rd} (hw : (Rd.ite b x y).wp t h Φ) : (if b then x else y).wp t h Φ := by
  cases b <;> exact hw
theorem pick_sound (C X Y : Operand) (o : Oper) (ho : o.op = .pick C X Y) (hs : Sim T w0 ρ h w) (ht : TSim ρ t a) {c : LVal} (hc : PV ρ c (a.eval C)) {x y : LOpd} (hx : compileOpd X = some x) (hy : compileOpd Y = some y) (hw : (pickRd c (x.rd one) (y.rd one)).wp t h Φ) : Res P o a w T w0 ρ h n Φ := by
  cases c <;> try exact hw.elim
  rename_i b
  have ec : a.eval C = .bool b := hc
  cases b
  · obtain ⟨v, hv, h1⟩ := opd_wp hy ht (ite_wp hw)
    refine Res.quiet hs h1 ?_ hv
    unfold execOp
    simp [ho, ec, asBool]
  · obtain ⟨v, hv, h1⟩ := opd_wp hx ht (ite_wp hw)
    refine Res.quiet hs h1 ?_ hv
    unfold execOp
    simp [ho, ec, asBool]
def unRd (op : UnOp) : LVal → Rd
  | .int k n => match op with
    | .neg => one (.int k (k.wrap (0 - n)))
    | .xor => one (.int k (k.wrap (BitVec.ofInt k.bits (if k.signed then -1 else k.max) ^^^ BitVec.ofInt k.bits n).toNat))
    | _ => .fail
  | .bool b => match op with
    | .not => one (.bool (!b))
    | _ => .fail
  | _ => .fail
theorem un_sound (op : UnOp) (ty : TypeId) (X : Operand) (o : Oper) (ho : o.op = .unOp op ty X) (hs : Sim T w0 ρ h w) {v : LVal} (hv : PV ρ v (a.eval X)) (hw : (unRd op v).wp t h Φ) : Res P o a w T w0 ρ h n Φ := by
  have main : ∀ v x, Φ v [] none → (Op.unary op (a.eval X)).run P w = .ok x w → PV ρ v x → Res P o a w T w0 ρ h n Φ := by
    intro v x h1 h2 h3
    refine Res.quiet hs h1 ?_ h3
    unfold execOp
    simp only [ho, Sem.run_bind, h2, Result.andThen_ok, Sem.run_pure]
  unfold unRd at hw
  split at hw
  · rename_i k m
    have ex : a.eval X = .int k m := hv
    rw [ex] at main
    split at hw
    · exact main _ _ hw (by simp [Op.unary, Op.intArith]) rfl
    · exact main _ _ hw (by simp [Op.unary, Op.intBits]) rfl
    · exact hw.elim
  · rename_i b
    have ex : a.eval X = .bool b := hv
    rw [ex] at main
    split at hw
    · exact main _ _ hw (by simp [Op.unary]) rfl
    · exact hw.elim
  · exact hw.elim
def toIntRd (k : IntKind) : LVal → Rd
  | .int _ n => one (.int k (k.wrap n))
  | _ => .fail
theorem toInt_sound (src dst : TypeId) (X : Operand) (o : Oper) (ho : o.op = .convert src dst X) (d : TypeDesc) (k : IntKind) (h1 : P.underlying src = some d) (h2 : P.underlying dst = some (.int k)) (hs : Sim T w0 ρ h w) {v : LVal} (hv : PV ρ v (a.eval X)) (hw : (toIntRd k v).wp t h Φ) : Res P o a w T w0 ρ h n Φ := by
  cases v <;> try exact hw.elim
  rename_i k' m
  have ex : a.eval X = .int k' m := hv
  refine Res.quiet hs hw (x := .int k (k.wrap m)) ?_ rfl
  unfold execOp
  simp [ho, ex, convert, run_underlying h1, run_underlying h2, Conv.intToInt]
def strRd : LVal → Rd
  | .str s => one (.str s)
  | _ => .fail
theorem strStr_sound (src dst : TypeId) (X : Operand) (o : Oper) (ho : o.op = .convert src dst X) (d : TypeDesc) (h1 : P.underlying src = some d) (h2 : P.underlying dst = some .string) (hs : Sim T w0 ρ h w) {v : LVal} (hv : PV ρ v (a.eval X)) (hw : (strRd v).wp t h Φ) : Res P o a w T w0 ρ h n Φ := by
  cases v <;> try exact hw.elim
  rename_i s
  have ex : a.eval X = .string s := hv
  refine Res.quiet hs hw (x := .string s) ?_ rfl
  unfold execOp
  simp [ho, ex, convert, run_underlying h1, run_underlying h2]
def notIface : TypeDesc → Bool
  | .interface _ => false
  | _ => true
theorem iface_sound (ty : TypeId) (X : Operand) (o : Oper) (ho : o.op = .makeInterface ty X) (d : TypeDesc) (h1 : P.underlying ty = some d) (hd : notIface d = true) (hs : Sim T w0 ρ h w) {v : LVal} (hv : PV ρ v (a.eval X)) (hw : (one (.iface ty v)).wp t h Φ) : Res P o a w T w0 ρ h n Φ := by
  refine Res.quiet hs hw (x := .iface ty (a.eval X)) ?_ ⟨_, hv, rfl⟩
  unfold execOp
  simp only [ho, Instr.makeInterface, Sem.run_bind, run_underlying h1, Result.andThen_ok]
  cases d <;> first | (simp [notIface] at hd; done) | rfl
/-- Several operands. -/
def rdList : List LOpd → (LVals → Rd) → Rd
  | [], K => K .nil
  | x :: r, K => x.rd fun v => rdList r fun vs => K (.cons v vs)
def compileOpds : List Operand → Option (List LOpd)
  | [] => some []
  | x :: r => match compileOpd x, compileOpds r with
    | some y, some s => some (y :: s)
    | _, _ => none
theorem opds_wp (ht : TSim ρ t a) : ∀ {X : List Operand} {x : List LOpd} (_ : compileOpds X = some x) {k : LVals → Rd} (_ : (rdList x k).wp t h Φ), ∃ vs, PVs ρ vs (X.map a.eval) ∧ (k vs).wp t h Φ
  | [], x, hx, k, hw => by
    simp [compileOpds] at hx
    subst hx
    exact ⟨.nil, rfl, hw⟩
  | X :: R, x, hx, k, hw => by
    unfold compileOpds at hx
    split at hx
    · rename_i y s h1 h2
      simp at hx
      subst hx
      obtain ⟨v, hv, h3⟩ := opd_wp h1 ht hw
      obtain ⟨vs, hvs, h4⟩ := opds_wp ht h2 h3
      exact ⟨.cons v vs, ⟨_, _, rfl, hv, hvs⟩, h4⟩
    · cases hx
theorem func_sound (f : FuncId) (C : Array Operand) (o : Oper) (ho : o.op = .makeFunc (.func f) #[] C) (hs : Sim T w0 ρ h w) {vs : LVals} (hv : PVs ρ vs (C.toList.map a.eval)) (hw : (one (.func f vs)).wp t h Φ) : Res P o a w T w0 ρ h n Φ := by
  refine Res.quiet hs hw (x := .func (.func f) #[] (C.map a.eval)) ?_ ⟨_, hv, by rw [← Array.toList_map]⟩
  unfold execOp
  simp [ho, Instr.makeFunc]
def lvs : LVals → Nat → (LVal → Rd) → Rd
  | .nil, _, _ => .fail
  | .cons v _, 0, K => K v
  | .cons _ r, n + 1, K => lvs r n K
theorem lvs_wp {K : LVal → Rd} : ∀ (vs : LVals) (i : Nat) (l : List Value), PVs ρ vs l → (lvs vs i K).wp t h Φ → ∃ v x, l[i]? = some x ∧ PV ρ v x ∧ (K v).wp t h Φ
  | .nil, _, _, _, hw => hw.elim
  | .cons v r, 0, l, hl, hw => by
    obtain ⟨x, l', rfl, h1, _⟩ := hl
    exact ⟨v, x, rfl, h1, hw⟩
  | .cons v r, i + 1, l, hl, hw => by
    obtain ⟨x, l', rfl, h1, h2⟩ := hl
    obtain ⟨u, y, h3, h4, h5⟩ := lvs_wp r i l' h2 hw
    exact ⟨u, y, by simpa using h3, h4, h5⟩
def extRd (i : Nat) : LVal → Rd
  | .tup vs => lvs vs i one
  | _ => .fail
theorem ext_sound (X : Operand) (i : Nat) (o : Oper) (ho : o.op = .extract X i) (hs : Sim T w0 ρ h w) {v : LVal} (hv : PV ρ v (a.eval X)) (hw : (extRd i v).wp t h Φ) : Res P o a w T w0 ρ h n Φ := by
  cases v <;> try exact hw.elim
  rename_i vs
  obtain ⟨l, hl, hx⟩ := hv
  obtain ⟨u, y, h3, h4, h5⟩ := lvs_wp vs i l hl hw
  refine Res.quiet hs h5 (x := y) ?_ h4
  unfold execOp
  simp [ho, hx, Instr.extract, h3]
def idxStrRd : LVal → LVal → Rd
  | .str s, .int _ i => .need (0 ≤ i ∧ i < (s.size : Int)) (one (.int .u8 ((s.data.toList.getD i.toNat 0).toNat : Int)))
  | _, _ => .fail
theorem idxStr_sound (ty : TypeId) (X Y : Operand) (o : Oper) (ho : o.op = .index ty X Y) (hd : P.underlying ty = some .string) (hs : Sim T w0 ρ h w) {v y : LVal} (hv : PV ρ v (a.eval X)) (hy : PV ρ y (a.eval Y)) (hw : (idxStrRd v y).wp t h Φ) : Res P o a w T w0 ρ h n Φ := by
  cases v <;> try exact hw.elim
  cases y <;> try exact hw.elim
  rename_i s k i
  obtain ⟨h0, hw⟩ := hw
  have ex : a.eval X = .string s := hv
  have ey : a.eval Y = .int k i := hy
  refine Res.quiet hs hw (x := .int .u8 ((s.data.toList.getD i.toNat 0).toNat : Int)) ?_ rfl
  have hlt : i.toNat < s.size := by omega
  have hg : s[i.toNat]? = some (s.data.toList.getD i.toNat 0) := by
    rw [getElem?_pos s i.toNat hlt]
    congr 1
    have hd' : i.toNat < s.data.toList.length := by simpa using hlt
    rw [List.getD_eq_getElem?_getD, List.getElem?_eq_getElem hd']
    rfl
  unfold execOp
  simp only [ho, ex, ey, Instr.index, asIntOf, Sem.run_bind, Sem.run_pure, Result.andThen_ok, run_underlying hd, if_pos h0.1, hg]
def lenStrRd : LVal → Rd
  | .str s => one (.int .i64 s.size)
  | _ => .fail
def lenSlRd : LVal → Rd
  | .slice _ _ _ len _ _ => one (.int .i64 len)
  | .rsl n _ _ => one (.int .i64 n)
  | _ => .fail
theorem lenStr_sound (X : Operand) (ts : Array TypeId) (ty : TypeId) (o : Oper) (ho : o.op = .call ⟨.builtin .len, #[X], ts⟩) (hty : ts[0]? = some ty) (hd : P.underlying ty = some .string) (hs : Sim T w0 ρ h w) {v : LVal} (hv : PV ρ v (a.eval X)) (hw : (lenStrRd v).wp t h Φ) : Res P o a w T w0 ρ h n Φ := by
  cases v <;> try exact hw.elim
  rename_i s
  have ex : a.eval X = .string s := hv
  refine Res.quiet hs hw (x := .int .i64 s.size) ?_ rfl
  unfold execOp
  simp [ho, resolve, invoke, builtin, ex, Builtin.len_, hty, run_underlying hd, goInt]
theorem lenSl_sound (X : Operand) (ts : Array TypeId) (ty e : TypeId) (o : Oper) (ho : o.op = .call ⟨.builtin .len, #[X], ts⟩) (hty : ts[0]? = some ty) (hd : P.underlying ty = some (.slice e)) (hs : Sim T w0 ρ h w) {v : LVal} (hv : PV ρ v (a.eval X)) (hw : (lenSlRd v).wp t h Φ) : Res P o a w T w0 ρ h n Φ := by
  cases v <;> try exact hw.elim
  · rename_i p st w' len lo hi
    obtain ⟨q, cap, ex, _⟩ := hv
    refine Res.quiet hs hw (x := .int .i64 len) ?_ rfl
    unfold execOp
    simp [ho, resolve, invoke, builtin, ex, Builtin.len_, hty, run_underlying hd, goInt]
  · rename_i m w' f
    obtain ⟨q, cap, ex, _⟩ := hv
    refine Res.quiet hs hw (x := .int .i64 m) ?_ rfl
    unfold execOp
    simp [ho, resolve, invoke, builtin, ex, Builtin.len_, hty, run_underlying hd, goInt]
def lenArrRd (n : Nat) : LVal → Rd
  | _ => one (.int .i64 n)
theorem lenArr_sound (X : Operand) (ts : Array TypeId) (ty e : TypeId) (m : Nat) (o : Oper) (ho : o.op = .call ⟨.builtin .len, #[X], ts⟩) (hty : ts[0]? = some ty) (hd : P.underlying ty = some (.array m e)) (hs : Sim T w0 ρ h w) {v : LVal} (hw : (lenArrRd m v).wp t h Φ) : Res P o a w T w0 ρ h n Φ := by
  refine Res.quiet hs hw (x := .int .i64 m) ?_ rfl
  unfold execOp
  simp [ho, resolve, invoke, builtin, Builtin.len_, hty, run_underlying hd, goInt]
/-- Slices of strings, slices, arrays. -/
def boundK (b : Option LVal) (d : Nat) (K : Prop → Nat → Rd) : Rd :=
  match b with
  | none => K True d
  | some (.int _ i) => K (0 ≤ i) i.toNat
  | _ => .fail
end
end Go.Proofs.Ytilmfhpoiejmfaa.Lh

/- Slices: cut, made, grown, copied. Over any program. -/
namespace Go.Proofs.Ytilmfhpoiejmfaa.Lh
set_option linter.unusedSimpArgs false
set_option linter.unusedVariables false
set_option linter.unusedSectionVars false
open Go.RowKit
variable [Fz]
section
variable {ρ : Pl} {w : Nat}
theorem chunks_sub {n st m : Nat} {f : Nat → Segs} {l : List Value} (h : Chunks ρ w n f l) (hm : st + m ≤ n) : Chunks ρ w m (fun i => f (st + i)) ((l.drop (st * w)).take (m * w)) := by
  have e : (st + m) * w ≤ n * w := Nat.mul_le_mul_right w hm
  rw [Nat.add_mul] at e
  refine ⟨by simp only [List.length_take, List.length_drop, h.1]; omega, fun i hi => ?_⟩
  have := h.2 (st + i) (by omega)
  have e2 := mul_lt w hi
  rw [List.drop_take, List.drop_drop, List.take_take, Nat.min_eq_left (by omega)]
  rw [Nat.add_mul] at this
  exact this
theorem chunks_append {n m : Nat} {f g : Nat → Segs} {l l' : List Value} (h : Chunks ρ w n f l) (h' : Chunks ρ w m g l') : Chunks ρ w (n + m) (fun i => if i < n then f i else g (i - n)) (l ++ l') := by
  refine ⟨by rw [List.length_append, h.1, h'.1, Nat.add_mul], fun i hi => ?_⟩
  by_cases c : i < n
  · have e := mul_lt w c
    show PS ρ (if i < n then f i else g (i - n)) _
    rw [if_pos c, List.drop_append_of_le_length (by rw [h.1]; omega), List.take_append_of_le_length (by rw [List.length_drop, h.1]; omega)]
    exact h.2 i c
  · show PS ρ (if i < n then f i else g (i - n)) _
    have e : i * w = n * w + (i - n) * w := by rw [← Nat.add_mul]; congr 1; omega
    rw [if_neg c, e, ← h.1, List.drop_length_add_append]
    exact h'.2 (i - n) (by omega)
theorem chunks_congr {n : Nat} {f g : Nat → Segs} {l : List Value} (h : Chunks ρ w n f l) (e : ∀ i, i < n → f i = g i) : Chunks ρ w n g l := ⟨h.1, fun i hi => by rw [← e i hi]; exact h.2 i hi⟩
theorem chunks_over {n k m : Nat} {f g : Nat → Segs} {l l' : List Value} (h : Chunks ρ w n f l) (h' : Chunks ρ w m g l') (hk : k + m ≤ n) :
    Chunks ρ w n (fun j => if k ≤ j ∧ j < k + m then g (j - k) else f j) (l.take (k * w) ++ l' ++ l.drop (k * w + m * w)) := by
  have e : (k + m) * w ≤ n * w := Nat.mul_le_mul_right w hk
  rw [Nat.add_mul] at e
  have h1 : Chunks ρ w k f (l.take (k * w)) := by
    have := chunks_sub (st := 0) (m := k) h (by omega)
    simp only [Nat.zero_mul, List.drop_zero, Nat.zero_add] at this
    exact this
  have h3 : Chunks ρ w (n - (k + m)) (fun i => f (k + m + i)) (l.drop (k * w + m * w)) := by
    have := chunks_sub (st := k + m) (m := n - (k + m)) h (by omega)
    rw [Nat.add_mul, List.take_of_length_le] at this
    · exact this
    · rw [List.length_drop, h.1, Nat.sub_mul, Nat.add_mul]; omega
  have h4 := chunks_append (chunks_append h1 h') h3
  rw [show k + m + (n - (k + m)) = n by omega] at h4
  refine chunks_congr h4 (fun i hi => ?_)
  by_cases c1 : i < k
  · rw [if_pos (by omega), if_pos c1, if_neg (by omega)]
  · by_cases c2 : i < k + m
    · rw [if_pos c2, if_neg c1, if_pos (by omega)]
    · rw [if_neg c2, if_neg (by omega)]
      congr 1; omega
theorem chunks_const {n : Nat} {z : Segs} {l : List Value} (hz : PS ρ z l) (hl : l.length = w) : Chunks ρ w n (fun _ => z) (List.replicate n l).flatten := by
  induction n with
  | zero => exact ⟨by simp, fun i hi => by omega⟩
  | succ n ih =>
    have h1 : Chunks ρ w 1 (fun _ => z) l := ⟨by omega, fun i hi => by
      have : i = 0 := by omega
      subst this
      rw [Nat.zero_mul, List.drop_zero, List.take_of_length_le (by omega)]; exact hz⟩
    have := chunks_append h1 ih
    rw [List.replicate_succ, List.flatten_cons, Nat.add_comm n 1]
    exact chunks_congr this (fun i _ => by split <;> rfl)
theorem madeCells_eq (z : Array Value) (n : Nat) : (madeCells z (n * z.size)).toList = (List.replicate n z.toList).flatten := by
  induction n with
  | zero => simp [madeCells]
  | succ n ih =>
    have e : (n + 1) * z.size = n * z.size + z.size := by rw [Nat.add_mul]; omega
    rw [List.replicate_succ', List.flatten_append, ← ih, e]
    unfold madeCells
    simp only [Array.toList_map, Array.toList_range, List.range_add, List.map_append, List.map_map, List.flatten_cons, List.flatten_nil, List.append_nil]
    congr 1
    apply List.ext_getElem?
    intro i
    rw [List.getElem?_map]
    by_cases hi : i < z.size
    · rw [List.getElem?_range hi]
      simp only [Option.map_some, Function.comp, Array.getElem?_toList]
      rw [Nat.mul_add_mod_self_right, Nat.mod_eq_of_lt hi, Array.getElem?_eq_getElem hi]
      simp [getElem!_pos, hi]
    · rw [List.getElem?_eq_none (by simpa using hi), Array.getElem?_toList, Array.getElem?_eq_none (by omega)]
      rfl
end
section
variable {T : Nat → Nat → Prop} {w0 : World} {ρ : Pl} {h : LHeap} {w : World} {t : List LVal} {a : Act} {Φ : LVal → List (Nat × Option LObj) → Option LObj → Prop} {P : Program} {n : Nat}
def optNat (x : Option LVal) (d : Nat) (K : Nat → Rd) : Rd :=
  match x with
  | none => K d
  | some v => match v with
    | .int _ i => .need (0 ≤ i) (K i.toNat)
    | _ => .fail
def OptPV (ρ : Pl) : Option LVal → Option Value → Prop
  | none, none => True
  | some v, some x => PV ρ v x
  | _, _ => False
theorem optNat_wp {x : Option LVal} {X : Option Value} {d : Nat} {K : Nat → Rd} (hx : OptPV ρ x X) (hw : (optNat x d K).wp t h Φ) :
    ∃ j, (K j).wp t h Φ ∧ ∀ (y : Nat) (c : BoundsCode), j ≤ y → (X = none ∧ j = d) ∨ (∃ v, X = some v ∧ (Instr.sliceBound v y c).run P w = .ok j w) := by
  cases x with
  | none =>
    cases X with
    | none => exact ⟨d, hw, fun _ _ _ => .inl ⟨rfl, rfl⟩⟩
    | some X => exact hx.elim
  | some v =>
    cases X with
    | none => exact hx.elim
    | some X =>
      cases v <;> try exact hw.elim
      rename_i k i
      obtain ⟨h0, hw⟩ := hw
      have e : X = .int k i := hx
      subst e
      refine ⟨i.toNat, hw, fun y c hy => .inr ⟨_, rfl, ?_⟩⟩
      have : 0 ≤ i ∧ i ≤ (y : Int) := ⟨h0, by omega⟩
      simp [Instr.sliceBound, asIntOf, this]
/-- A slice's end is told. -/
def subHi (h : Option Nat) (i : Nat) (K : Option Nat → Rd) : Rd :=
  match h with
  | none => K none
  | some c => K (some (c - i))
theorem subHi_wp {c : Option Nat} {i : Nat} {K : Option Nat → Rd} (hw : (subHi c i K).wp t h Φ) : ∃ c', (K c').wp t h Φ ∧ ∀ cap, (∀ x, c = some x → cap ≤ x) → ∀ x, c' = some x → cap - i ≤ x := by
  cases c with
  | none => exact ⟨none, hw, fun _ _ _ e => by cases e⟩
  | some c => exact ⟨_, hw, fun cap hc x e => by cases e; have := hc c rfl; omega⟩
def slStrRd (lo hi : Option LVal) : LVal → Rd
  | .str s => optNat hi s.size fun j => optNat lo 0 fun i => .need (i ≤ j ∧ j ≤ s.size) (one (.str (s.extract i j)))
  | _ => .fail
def slSlRd (w : Nat) (lo hi : Option LVal) : LVal → Rd
  | .slice p st w' len l0 h0 => match Nat.beq w w' with
    | false => .fail
    | true => optNat hi len fun j => match lo with
      | none => .need (j ≤ l0) (one (.slice p st w j l0 h0))
      | some v => optNat (some v) 0 fun i => .need (i ≤ j ∧ j ≤ l0) (subHi h0 i fun c => one (.slice p (st + i) w (j - i) (l0 - i) c))
  | .rsl n w' f => match Nat.beq w w' with
    | false => .fail
    | true => optNat hi n fun j => match lo with
      | none => .need (j ≤ n) (one (.rsl j w f))
      | some v => optNat (some v) 0 fun i => .need (i ≤ j ∧ j ≤ n) (one (.rsl (j - i) w (fun k => f (i + k))))
  | _ => .fail
theorem bounds2 {isSlice : Bool} {len cap : Nat} {lo hi : Option Value} {i j : Nat} (hj : ∀ y c, j ≤ y → (hi = none ∧ j = len) ∨ (∃ v, hi = some v ∧ (Instr.sliceBound v y c).run P w = .ok j w)) (hi' : ∀ y c, i ≤ y → (lo = none ∧ i = 0) ∨ (∃ v, lo = some v ∧ (Instr.sliceBound v y c).run P w = .ok i w)) (h1 : i ≤ j) (h2 : j ≤ cap) :
    (Instr.sliceBounds isSlice len cap lo hi none).run P w = .ok (i, j, cap) w := by
  rcases hj cap (if isSlice then .sliceAcap else .sliceAlen) h2 with ⟨rfl, rfl⟩ | ⟨v, rfl, e1⟩
  · rcases hi' j .sliceB h1 with ⟨rfl, rfl⟩ | ⟨u, rfl, e2⟩
    · simp [Instr.sliceBounds]
    · simp [Instr.sliceBounds, e2]
  · rcases hi' j .sliceB h1 with ⟨rfl, rfl⟩ | ⟨u, rfl, e2⟩
    · simp [Instr.sliceBounds, e1]
    · simp [Instr.sliceBounds, e1, e2]
theorem slStr_sound (ty : TypeId) (X : Operand) (L H : Option Operand) (o : Oper) (ho : o.op = .slice ty X L H none) (hd : P.underlying ty = some .string) (hs : Sim T w0 ρ h w) {v : LVal} {lo hi : Option LVal} (hv : PV ρ v (a.eval X)) (hl : OptPV ρ lo (L.map a.eval)) (hh : OptPV ρ hi (H.map a.eval)) (hw : (slStrRd lo hi v).wp t h Φ) : Res P o a w T w0 ρ h n Φ := by
  cases v <;> try exact hw.elim
  rename_i s
  have ex : a.eval X = .string s := hv
  simp only [slStrRd] at hw
  obtain ⟨j, h1, e1⟩ := optNat_wp (P := P) (w := w) hh hw
  obtain ⟨i, h2, e2⟩ := optNat_wp (P := P) (w := w) hl h1
  obtain ⟨h0, h3⟩ := h2
  refine Res.quiet hs h3 (x := .string (s.extract i j)) ?_ rfl
  unfold execOp
  simp [ho, ex, Instr.sliceAt, Instr.slice, run_underlying hd, bounds2 (isSlice := false) e1 e2 h0.1 h0.2]
theorem slSl_sound (ty : TypeId) (X : Operand) (L H : Option Operand) (o : Oper) (ho : o.op = .slice ty X L H none) (e : TypeId) (i : TypeInfo) (hd : P.underlying ty = some (.slice e)) (hi : P.info? e = some i) (hs : Sim T w0 ρ h w) {v : LVal} {lo hi' : Option LVal} (hv : PV ρ v (a.eval X)) (hl : OptPV ρ lo (L.map a.eval)) (hh : OptPV ρ hi' (H.map a.eval)) (hw : (slSlRd i.size lo hi' v).wp t h Φ) : Res P o a w T w0 ρ h n Φ := by
  cases v <;> try exact hw.elim
  rotate_left
  · rename_i m w' f
    simp only [slSlRd] at hw
    split at hw
    · exact hw.elim
    · rename_i hb
      have hb := Nat.eq_of_beq_eq_true hb
      subst hb
      obtain ⟨q, cap, ex, hcap, hc⟩ := hv
      obtain ⟨j, h1, e1⟩ := optNat_wp (P := P) (w := w) hh hw
      have run : ∀ k, k ≤ j → j ≤ cap → (∀ y c, k ≤ y → (L.map a.eval = none ∧ k = 0) ∨ (∃ v, L.map a.eval = some v ∧ (Instr.sliceBound v y c).run P w = .ok k w)) →
          (execOp a.eval o).run P w = .ok (.value (.slice (if cap = k then q else q.map (·.add (k * i.size))) (j - k) (cap - k))) w := by
        intro k h2 h3 h4
        unfold execOp
        simp [ho, ex, Instr.sliceAt, Instr.slice, run_underlying hd, bounds2 (isSlice := true) e1 h4 h2 h3, sizeOf, typeInfo, hi]
      have part : ∀ k, k ≤ j → j ≤ m → PV ρ (.rsl (j - k) i.size (fun x => f (k + x))) (.slice (if cap = k then q else q.map (·.add (k * i.size))) (j - k) (cap - k)) := by
        intro k h2 h3
        refine ⟨_, _, rfl, by omega, ?_⟩
        by_cases c0 : j - k = 0
        · exact .inl c0
        · rcases hc with hc | ⟨g, off, l, rfl, hf, hl, hps⟩
          · omega
          · right
            have m1 : k * i.size + (j - k) * i.size = j * i.size := by rw [← Nat.add_mul]; congr 1; omega
            have m2 : j * i.size ≤ m * i.size := Nat.mul_le_mul_right _ h3
            refine ⟨g, off + k * i.size, (l.drop (k * i.size)).take ((j - k) * i.size), ?_, hf.sub _ _ (by omega), ?_, fun x hx => ?_⟩
            · rw [if_neg (by omega)]
              simp only [Option.map_some, Addr.add_mid]
            · rw [List.length_take, List.length_drop, Nat.min_eq_left (by omega)]
            · have m3 := mul_lt i.size hx
              have := hps (k + x) (by omega)
              rw [List.drop_take, List.drop_drop, List.take_take, Nat.min_eq_left (by omega), ← Nat.add_mul]
              exact this
      cases lo with
      | none =>
        have hL : L.map a.eval = none := by
          cases hq : L.map a.eval with
          | none => rfl
          | some x => rw [hq] at hl; exact hl.elim
        obtain ⟨h2, h3⟩ := h1
        refine Res.quiet hs h3 (run 0 (by omega) (by omega) (fun _ _ _ => .inl ⟨hL, rfl⟩)) ?_
        have := part 0 (by omega) h2
        simpa using this
      | some u =>
        obtain ⟨k, h2, e2⟩ := optNat_wp (P := P) (w := w) hl h1
        obtain ⟨h3, h4⟩ := h2
        exact Res.quiet hs h4 (run k h3.1 (by omega) e2) (part k h3.1 h3.2)
  rename_i p st w' len l0 h0
  simp only [slSlRd] at hw
  split at hw
  · exact hw.elim
  · rename_i hb
    have hb := Nat.eq_of_beq_eq_true hb
    subst hb
    obtain ⟨q, cap, ex, hc⟩ := hv
    obtain ⟨j, h1, e1⟩ := optNat_wp (P := P) (w := w) hh hw
    have hl0 : l0 ≤ cap := by rcases hc with ⟨_, h2, h3⟩ | ⟨_, _, _, _, _, _, h2, _⟩ <;> omega
    have run : ∀ k, k ≤ j → j ≤ cap → (∀ y c, k ≤ y → (L.map a.eval = none ∧ k = 0) ∨ (∃ v, L.map a.eval = some v ∧ (Instr.sliceBound v y c).run P w = .ok k w)) →
        (execOp a.eval o).run P w = .ok (.value (.slice (if cap = k then q else q.map (·.add (k * i.size))) (j - k) (cap - k))) w := by
      intro k h2 h3 h4
      unfold execOp
      simp [ho, ex, Instr.sliceAt, Instr.slice, run_underlying hd, bounds2 (isSlice := true) e1 h4 h2 h3, sizeOf, typeInfo, hi]
    cases lo with
    | none =>
      have hL : L.map a.eval = none := by
        cases hq : L.map a.eval with
        | none => rfl
        | some x => rw [hq] at hl; exact hl.elim
      obtain ⟨h2, h3⟩ := h1
      refine Res.quiet hs h3 (run 0 (by omega) (by omega) (fun _ _ _ => .inl ⟨hL, rfl⟩)) ?_
      refine ⟨_, _, rfl, ?_⟩
      rcases hc with ⟨r1, r2, r3⟩ | ⟨g, b, m, r1, rfl, r2, r3, r4, r5⟩
      · exact .inl ⟨by omega, r2, by omega⟩
      · by_cases c0 : cap = 0
        · exact .inl ⟨by omega, by omega, by omega⟩
        · refine .inr ⟨g, b, m, r1, by rw [if_neg c0]; simp [Addr.add], by omega, by omega, fun x hx => by have := r4 x hx; omega, by simpa using r5⟩
    | some u =>
      obtain ⟨k, h2, e2⟩ := optNat_wp (P := P) (w := w) hl h1
      obtain ⟨h3, h4⟩ := h2
      obtain ⟨c', h5, e5⟩ := subHi_wp h4
      refine Res.quiet hs h5 (run k h3.1 (by omega) e2) ?_
      refine ⟨_, _, rfl, ?_⟩
      by_cases c0 : cap = k
      · exact .inl ⟨by omega, by omega, by omega⟩
      · rcases hc with ⟨r1, r2, r3⟩ | ⟨g, b, m, r1, rfl, r2, r3, r4, r5⟩
        · exact .inl ⟨by omega, by omega, by omega⟩
        · refine .inr ⟨g, b, m, r1, ?_, by omega, by omega, e5 cap r4, ?_⟩
          · rw [if_neg c0]
            simp only [Option.map_some, Addr.add_mid, Nat.add_mul]
            congr 2; omega
          · rw [show st + k + (cap - k) = st + cap by omega]; exact r5
def slArrRd (w m : Nat) (lo hi : Option LVal) : LVal → Rd
  | .ptr p => rdAt p fun s => match s with
    | .rows m' w' _ _ => match Nat.beq m m', Nat.beq w w' with
      | true, true => optNat hi m fun j => optNat lo 0 fun i => .need (i ≤ j ∧ j ≤ m) (one (.slice p i w (j - i) (m - i) (some (m - i))))
      | _, _ => .fail
    | _ => .fail
  | _ => .fail
theorem slArr_sound (ty : TypeId) (X : Operand) (L H : Option Operand) (o : Oper) (ho : o.op = .slice ty X L H none) (e : TypeId) (len : Nat) (i : TypeInfo) (hd : P.underlying ty = some (.array len e) ∨ ∃ q, P.underlying ty = some (.pointer q) ∧ P.underlying q = some (.array len e)) (hi : P.info? e = some i) (hs : Sim T w0 ρ h w) {v : LVal} {lo hi' : Option LVal} (hv : PV ρ v (a.eval X)) (hl : OptPV ρ lo (L.map a.eval)) (hh : OptPV ρ hi' (H.map a.eval)) (hw : (slArrRd i.size len lo hi' v).wp t h Φ) : Res P o a w T w0 ρ h n Φ := by
  cases v <;> try exact hw.elim
  rename_i p
  obtain ⟨g, b, m, hp, hx⟩ := hv
  obtain ⟨s, C, ty', fr, l1, l2, h1, h2, h3, h4, ⟨l3, l4, rfl, h5⟩, _⟩ := read_wp hs hp hw
  have hsz : ∃ ob, hget h p.blk = some ob := by
    simp only [slArrRd, rdAt, Rd.wp, hgetK_eq] at hw
    cases hg : hget h p.blk with
    | none => simp [hg] at hw
    | some ob => exact ⟨ob, rfl⟩
  obtain ⟨ob, hob⟩ := hsz
  cases s <;> try exact h1.elim
  rename_i m' w' f q
  simp only at h1
  split at h1
  · rename_i hb1 hb2
    have hb1 := Nat.eq_of_beq_eq_true hb1
    have hb2 := Nat.eq_of_beq_eq_true hb2
    subst hb1 hb2
    obtain ⟨j, h6, e1⟩ := optNat_wp (P := P) (w := w) hh h1
    obtain ⟨k, h7, e2⟩ := optNat_wp (P := P) (w := w) hl h6
    obtain ⟨h0, h8⟩ := h7
    have hlen3 := PS.length _ _ h5
    simp only [segW] at hlen3
    -- the window is as long as what is there
    have hwin : p.cell + len * i.size ≤ m := by
      rcases hs.obj _ _ hob with ⟨g', b', m', obj, r1, r2, r3, _⟩ | ⟨r1, _⟩
      · rw [hp] at r1; cases r1
        simp only [slArrRd, rdAt, Rd.wp, hgetK_eq, hob] at hw
        obtain ⟨pre, l, ex, fr', rfl, hl', _, hb', hn', _⟩ := r3
        rw [h2] at r2
        cases r2
        obtain ⟨s1, q1, q2⟩ := path_wp _ _ hw
        obtain ⟨s2, q3, q4⟩ := skip_wp _ _ q1
        obtain ⟨a1, a2, a3, rfl, f1, f2⟩ := q2 ρ l hl'
        obtain ⟨b1, b2, rfl, f3, f4⟩ := q4 ρ a2 f2
        cases s2 <;> try exact q3.elim
        simp only at q3
        split at q3
        · rename_i hc1 hc2
          have hc1 := Nat.eq_of_beq_eq_true hc1
          have hc2 := Nat.eq_of_beq_eq_true hc2
          subst hc1 hc2
          have := PS.length _ _ f4
          simp only [segW] at this
          rw [hn']
          simp only [List.length_append, LAddr.cell]
          omega
        · exact q3.elim
      · rw [hp] at r1; cases r1
    refine Res.quiet hs h8 (x := .slice (some (if len = k then ⟨g, b + p.cell, none⟩ else (⟨g, b + p.cell, none⟩ : Addr).add (k * i.size))) (j - k) (len - k)) ?_ ?_
    · unfold execOp
      rcases hd with hd | ⟨qq, hd, hd2⟩
      · simp [ho, hx, Instr.sliceAt, run_underlying hd, Instr.sureAddr, bounds2 (isSlice := false) e1 e2 h0.1 h0.2, sizeOf, typeInfo, hi]
      · simp [ho, hx, Instr.sliceAt, Instr.slice, run_underlying hd, run_underlying hd2, asAddr, bounds2 (isSlice := false) e1 e2 h0.1 h0.2, sizeOf, typeInfo, hi]
    · refine ⟨_, _, rfl, ?_⟩
      by_cases c0 : len = k
      · exact .inl ⟨by omega, by omega, by omega⟩
      · refine .inr ⟨g, b, m, hp, ?_, by omega, by omega, fun x hx => by cases hx; omega, ?_⟩
        · rw [if_neg c0, Addr.add_mid]; congr 2; omega
        · rw [show k + (len - k) = len by omega]; exact hwin
  · exact h1.elim
/-- s[:0:0]: nothing, and no room. -/
def slNoneRd : LVal → Rd
  | .slice _ _ _ _ _ _ => one (.slice ⟨0, [], 0⟩ 0 0 0 0 (some 0))
  | _ => .fail
theorem slNone_sound (ty : TypeId) (X : Operand) (k1 k2 k3 : IntKind) (L : Option Operand) (hL : L = none ∨ L = some (.const (.int k1 0))) (o : Oper) (ho : o.op = .slice ty X L (some (.const (.int k2 0))) (some (.const (.int k3 0)))) (e : TypeId) (i : TypeInfo) (hd : P.underlying ty = some (.slice e)) (hi : P.info? e = some i) (hs : Sim T w0 ρ h w) {v : LVal} (hv : PV ρ v (a.eval X)) (hw : (slNoneRd v).wp t h Φ) : Res P o a w T w0 ρ h n Φ := by
  cases v <;> try exact hw.elim
  rename_i p st w' len l0 h0
  obtain ⟨q, cap, ex, hc⟩ := hv
  refine Res.quiet hs hw (x := .slice q 0 0) ?_ ⟨q, 0, rfl, .inl ⟨rfl, rfl, rfl⟩⟩
  have e1 : a.eval (.const (.int k1 0)) = .int k1 0 := rfl
  have e2 : a.eval (.const (.int k2 0)) = .int k2 0 := rfl
  have e3 : a.eval (.const (.int k3 0)) = .int k3 0 := rfl
  unfold execOp
  rcases hL with rfl | rfl <;> simp [ho, ex, e1, e2, e3, Instr.sliceAt, Instr.slice, run_underlying hd, Instr.sliceBounds, Instr.sliceBound, asIntOf, sizeOf, typeInfo, hi]
def makeRd (n w bytes : Nat) (e : TypeId) (z : Segs) : LVal → LVal → Rd
  | .int _ l, .int _ c => .need (0 ≤ l ∧ l ≤ c ∧ c ≤ 140737488351232 ∧ c * (bytes : Int) ≤ 140737488351232) (.ret (.slice ⟨n, [], 0⟩ 0 w l.toNat c.toNat (some c.toNat)) [] (some ⟨.rows c.toNat w (fun _ => z) .nil, e, false, false⟩))
  | _, _ => .fail
theorem make_sound (ty : TypeId) (X Y : Operand) (o : Oper) (ho : o.op = .makeSlice ty X Y) (e : TypeId) (i : TypeInfo) (z : Value) (hd : P.underlying ty = some (.slice e)) (hi : P.info? e = some i) (hz : i.zero = some z) (s : Segs) (hf : flatEq s z.cells.toList = true) (hsz : z.cells.size = i.size) (hs : Sim T w0 ρ h w) (hn : ρ n = none) (hh : hget h n = none) {v y : LVal} (hv : PV ρ v (a.eval X)) (hy : PV ρ y (a.eval Y))
    (hw : (makeRd n i.size i.bytes e s v y).wp t h Φ) : Res P o a w T w0 ρ h n Φ := by
  cases v <;> try exact hw.elim
  cases y <;> try exact hw.elim
  rename_i k1 l k2 c
  have ex : a.eval X = .int k1 l := hv
  have ey : a.eval Y = .int k2 c := hy
  obtain ⟨⟨h0, h1, h2, h3⟩, hw⟩ := hw
  have hch : Chunks ρ i.size c.toNat (fun _ => s) (madeCells z.cells (c.toNat * i.size)).toList := by
    rw [← hsz, madeCells_eq]
    exact chunks_const (flatEq_spec hf ρ) (by simp)
  have hcs : (madeCells z.cells (c.toNat * i.size)).toList.length = c.toNat * i.size := hch.1
  refine Res.new (ob := ⟨.rows c.toNat i.size (fun _ => s) .nil, e, false, false⟩) (c := madeCells z.cells (c.toNat * i.size)) (l := (madeCells z.cells (c.toNat * i.size)).toList) (ex := []) (x := .slice (some ⟨w.heap.size, 0, none⟩) l.toNat c.toNat) hs hn hh (.inl rfl) rfl (by simp) (chunks_rows hch) (fun _ => rfl) (unfrozen0 _) hw ?_ ?_
  · unfold execOp
    simp only [ho, ex, ey, Sem.run_bind]
    rw [run_make w ty e i z hd hi hz k1 k2 l c h0 h1 (by rw [Int.mul_comm]; omega) (by omega)]
    rfl
  · refine ⟨_, _, rfl, .inr ⟨w.heap.size, 0, ((madeCells z.cells (c.toNat * i.size)).toList ++ []).length, by simp [Pl.put], by simp [LAddr.cell, pathSum], by omega, Nat.le_refl _, fun x hx => by cases hx; exact Nat.le_refl _, ?_⟩⟩
    simp [LAddr.cell, pathSum, hcs]
end
end Go.Proofs.Ytilmfhpoiejmfaa.Lh

/- Append and copy. Over any program. -/
namespace Go.Proofs.Ytilmfhpoiejmfaa.Lh
set_option linter.unusedSimpArgs false
set_option linter.unusedVariables false
set_option linter.unusedSectionVars false
open Go.RowKit
variable [Fz]
section
variable {T : Nat → Nat → Prop} {w0 : World} {ρ : Pl} {h : LHeap} {w : World} {t : List LVal} {a : Act} {Φ : LVal → List (Nat × Option LObj) → Option LObj → Prop} {P : Program} {n : Nat}
def byteSeg (s : ByteArray) (i : Nat) : Segs := .one (.int .u8 ((s.data.toList.getD i 0).toNat : Int)) .nil
/-- What is read of a slice, or of a string. -/
def srcK (w : Nat) (y : LVal) (K : Nat → (Nat → Segs) → Option Nat → Rd) : Rd :=
  match y with
  | .str s => match Nat.beq w 1 with
    | true => K s.size (byteSeg s) none
    | false => .fail
  | .slice p st w' len _ _ => match Nat.beq w' 0 with
    | true => match Nat.beq len 0 with
      | true => K 0 (fun _ => .nil) none
      | false => .fail
    | false => match Nat.beq w w' with
      | true => rdAt p fun s => match s with
        | .rows m w2 f _ => match Nat.beq w w2 with
          | true => .need (st + len ≤ m) (K len (fun i => f (st + i)) (some p.blk))
          | false => .fail
        | _ => .fail
      | false => .fail
  | .rsl n w' f => match Nat.beq w w' with
    | true => K n f none
    | false => .fail
  | _ => .fail
theorem cells_read {w : World} {g : Nat} {C : Array Value} {ty : TypeId} {fr : Nat × Nat} (hg : w.heap[g]? = some (.cells C ty fr)) {l1 l2 l3 : List Value} (hC : C.toList = l1 ++ (l2 ++ l3)) : ∀ j v, l2[j]? = some v → w.cell? ((⟨g, l1.length, none⟩ : Addr).add j) = some v := by
  intro j v hj
  rw [Addr.add_mid, cell_at hg hC j, List.getElem?_append_left ((List.getElem?_eq_some_iff.1 hj).1)]
  exact hj
/-- The source is read: in any world of this heap. -/
theorem src_wp (hs : Sim T w0 ρ h w) {m0 : Nat} {y : LVal} {Y : Value} (hy : PV ρ y Y) {K : Nat → (Nat → Segs) → Option Nat → Rd} (hw : (srcK m0 y K).wp t h Φ) :
    ∃ m g yb l, (K m g yb).wp t h Φ ∧ Chunks ρ m0 m g l ∧ (∀ w1 : World, (Builtin.lenOf Y).run P w1 = .ok m w1) ∧ (∀ k, k ≤ m → ∀ w1 : World, w1.heap = w.heap → (Builtin.firstCells m0 k Y).run P w1 = .ok (l.take (k * m0)).toArray w1) ∧
      ((∃ s, Y = .string s) ∨ ∃ p x c, Y = .slice p x c) ∧ (∀ b, yb = some b → ∃ o, hget h b = some o) := by
  cases y <;> try exact hw.elim
  · rename_i s
    have e : Y = .string s := hy
    subst e
    simp only [srcK] at hw
    split at hw
    · rename_i hb
      have hb := Nat.eq_of_beq_eq_true hb
      subst hb
      refine ⟨_, _, _, s.data.toList.map fun b => .int .u8 b.toNat, hw, ⟨by simp, fun i hi => ?_⟩, fun _ => rfl, fun k hk w1 _ => ?_, .inl ⟨s, rfl⟩, fun b e => by cases e⟩
      · have hi' : i < s.data.toList.length := by simpa using hi
        rw [Nat.mul_one, List.drop_eq_getElem_cons (by simpa using hi'), List.take_succ_cons, List.take_zero]
        refine ⟨_, [], rfl, ?_, by rw [List.getElem_map]; rfl, rfl⟩
        show _ = _
        rw [List.getElem_map, List.getD_eq_getElem?_getD, List.getElem?_eq_getElem hi']
        rfl
      · simp only [Builtin.firstCells, Sem.run_pure]
        congr 1
        apply Array.ext'
        have hx : (s.extract 0 k).data.toList = s.data.toList.take k := by
          rw [ByteArray.data_extract]; simp
        simp [hx, List.map_take]
    · exact hw.elim
  rotate_left
  · rename_i n' w' f
    simp only [srcK] at hw
    obtain ⟨q, cap, rfl, hcap, hc⟩ := hy
    split at hw
    · rename_i hb
      have hb := Nat.eq_of_beq_eq_true hb
      subst hb
      rcases hc with hc | ⟨g, off, l, rfl, hf, hl, hps⟩
      · subst hc
        refine ⟨0, _, _, [], hw, ⟨by simp, fun i hi => by omega⟩, fun _ => rfl, fun k hk w1 _ => ?_, .inr ⟨_, _, _, rfl⟩, fun b e => by cases e⟩
        have : k = 0 := by omega
        subst this
        cases q <;> simp [Builtin.firstCells, loadCells, loadCellsFrom]
      · obtain ⟨C, ty', fr, l1, l4, h2, h3, h4⟩ := hf.heap hs
        refine ⟨n', f, none, l, hw, ⟨hl, fun i hi => PS.ext (ext0 ρ) _ _ (hps i hi)⟩, fun _ => rfl, fun k hk w1 hw1 => ?_, .inr ⟨_, _, _, rfl⟩, fun b e => by cases e⟩
        have hkl : k * m0 ≤ n' * m0 := Nat.mul_le_mul_right _ hk
        refine run_firstCells_some (P := P) w1 m0 k ⟨g, off, none⟩ n' cap _ (by rw [List.length_take]; omega) ?_
        rw [← h4]
        exact cells_read (w := w1) (by rw [hw1]; exact h2) (l3 := l.drop (k * m0) ++ l4) (by rw [h3, ← List.append_assoc (List.take _ _), List.take_append_drop])
    · exact hw.elim
  · rename_i p st w' len lo hi
    simp only [srcK] at hw
    obtain ⟨q, cap, rfl, hc⟩ := hy
    split at hw
    · split at hw
      · rename_i hb
        have hb := Nat.eq_of_beq_eq_true hb
        subst hb
        refine ⟨0, _, _, [], hw, ⟨by simp, fun i hi => by omega⟩, fun _ => rfl, fun k hk w1 _ => ?_, .inr ⟨_, _, _, rfl⟩, fun b e => by cases e⟩
        have : k = 0 := by omega
        subst this
        cases q <;> simp [Builtin.firstCells, loadCells, loadCellsFrom]
      · exact hw.elim
    · split at hw
      · rename_i hb
        have hb := Nat.eq_of_beq_eq_true hb
        subst hb
        rcases hc with ⟨c1, c2, c3⟩ | ⟨g, b, n', r1, rfl, r2, r3, r4, r5⟩
        · subst c1
          -- nothing is read
          have hw' := hw
          simp only [rdAt, Rd.wp, hgetK_eq] at hw
          cases hg : hget h p.blk with
          | none => simp [hg] at hw
          | some ob =>
            simp only [hg] at hw
            obtain ⟨s1, q1, q2⟩ := path_wp _ _ hw
            obtain ⟨s2, q3, q4⟩ := skip_wp _ _ q1
            cases s2 <;> try exact q3.elim
            simp only at q3
            split at q3
            · obtain ⟨q5, q6⟩ := q3
              refine ⟨0, _, _, [], q6, ⟨by simp, fun i hi => by omega⟩, fun _ => rfl, fun k hk w1 _ => ?_, .inr ⟨_, _, _, rfl⟩, fun b e => by cases e; exact ⟨ob, hg⟩⟩
              have : k = 0 := by omega
              subst this
              cases q <;> simp [Builtin.firstCells, loadCells, loadCellsFrom]
            · exact q3.elim
        · have hlive : ∃ o, hget h p.blk = some o := by
            simp only [rdAt, Rd.wp, hgetK_eq] at hw
            cases hg : hget h p.blk with
            | none => simp [hg] at hw
            | some ob => exact ⟨ob, rfl⟩
          obtain ⟨s, C, ty', fr, l1, l2, h1, h2, h3, h4, ⟨l3, l4, rfl, h5⟩, _⟩ := read_wp hs r1 hw
          cases s <;> try exact h1.elim
          rename_i m w2 f qq
          simp only at h1
          split at h1
          · rename_i hb2
            have hb2 := Nat.eq_of_beq_eq_true hb2
            subst hb2
            obtain ⟨h6, h7⟩ := h1
            obtain ⟨d1, d2, rfl, hch, _⟩ := rows_chunks h5
            have hsub := chunks_sub hch h6
            refine ⟨len, _, _, (d1.drop (st * m0)).take (len * m0), h7, hsub, fun _ => rfl, fun k hk w1 hw1 => ?_, .inr ⟨_, _, _, rfl⟩, fun b e => by cases e; exact hlive⟩
            have hk2 : k * m0 ≤ len * m0 := Nat.mul_le_mul_right m0 hk
            have e3 : (st + len) * m0 ≤ m * m0 := Nat.mul_le_mul_right m0 h6
            rw [Nat.add_mul] at e3
            have hd1 := hch.1
            have hl := hsub.1
            rw [run_firstCells_some (P := P) w1 m0 k ⟨g, b + (p.cell + st * m0), none⟩ len cap (((d1.drop (st * m0)).take (len * m0)).take (k * m0)) (by rw [List.length_take, hl]; omega)]
            have e4 : C.toList = (l1 ++ d1.take (st * m0)) ++ ((((d1.drop (st * m0)).take (len * m0)).take (k * m0)) ++ (((d1.drop (st * m0)).take (len * m0)).drop (k * m0) ++ ((d1.drop (st * m0)).drop (len * m0) ++ (d2 ++ l4)))) := by
              rw [h3]
              simp only [List.append_assoc]
              rw [← List.append_assoc (List.take (k * m0) _), List.take_append_drop, ← List.append_assoc (List.take (len * m0) _), List.take_append_drop, ← List.append_assoc (List.take (st * m0) _), List.take_append_drop]
            have e5 : (l1 ++ d1.take (st * m0)).length = b + (p.cell + st * m0) := by
              rw [List.length_append, h4, List.length_take, hd1]; omega
            rw [← e5]
            have := cells_read (w := w1) (by rw [hw1]; exact h2) e4
            exact this
          · exact h1.elim
      · exact hw.elim
theorem firstCells_all {Y : Value} {m m0 : Nat} {l : List Value} {w1 : World} (h : (Builtin.firstCells m0 m Y).run P w1 = .ok (l.take (m * m0)).toArray w1) (hl : l.length = m * m0) : (Builtin.firstCells m0 m Y).run P w1 = .ok l.toArray w1 := by
  rw [h, List.take_of_length_le (by omega)]
/-- Append, in room that is there. -/
theorem run_append_in (tS tX ty e : TypeId) (d : TypeDesc) (i : TypeInfo) (ht : P.underlying tS = some (.slice e)) (hX : P.underlying tX = some d) (hnd : d = .string ∨ ∃ e', d = .slice e') (hi : P.info? e = some i) (g o len cap m : Nat) (Y : Value) (l : List Value)
    (hlen : ∀ w1 : World, (Builtin.lenOf Y).run P w1 = .ok m w1) (hl : l.length = m * i.size) (hf : (Builtin.firstCells i.size m Y).run P w = .ok l.toArray w) (hroom : len + m ≤ cap) (h1 : ∀ x ∈ l, x.oneCell' = true)
    (hth : ∀ j, j < l.length → (w.cell? ⟨g, o + len * i.size + j, none⟩).isSome = true ∧ w.frozen? ⟨g, o + len * i.size + j, none⟩ = false) :
    (Builtin.append_ #[tS, tX] ty #[.slice (some ⟨g, o, none⟩) len cap, Y]).run P w = .ok (.slice (some ⟨g, o, none⟩) (len + m) cap) (w.setCells g (o + len * i.size) l) := by
  have hst := run_storeCells_cells (P := P) g (o + len * i.size) l 0 w (fun j hj => by simpa using (hth j hj).1) (fun j hj => by simpa using (hth j hj).2) h1
  simp only [Nat.add_zero] at hst
  rcases hnd with rfl | ⟨e', rfl⟩ <;> simp [Builtin.append_, run_underlying ht, run_underlying hX, sizeOf, typeInfo, hi, hlen, hroom, hf, Addr.add_mid, hst]
/-- Append of nothing. -/
theorem run_append_zero (tS tX ty e : TypeId) (d : TypeDesc) (i : TypeInfo) (ht : P.underlying tS = some (.slice e)) (hX : P.underlying tX = some d) (hnd : d = .string ∨ ∃ e', d = .slice e') (hi : P.info? e = some i) (p : Option Addr) (len cap : Nat) (Y : Value)
    (hlen : ∀ w1 : World, (Builtin.lenOf Y).run P w1 = .ok 0 w1) (hf : (Builtin.firstCells i.size 0 Y).run P w = .ok #[] w) (hroom : len ≤ cap) :
    (Builtin.append_ #[tS, tX] ty #[.slice p len cap, Y]).run P w = .ok (.slice p len cap) w := by
  rcases hnd with rfl | ⟨e', rfl⟩ <;> cases p <;> simp [Builtin.append_, run_underlying ht, run_underlying hX, sizeOf, typeInfo, hi, hlen, hroom, hf, storeCells]
/-- Append that makes a new row. -/
theorem run_append_new (tS tX ty e : TypeId) (d : TypeDesc) (i : TypeInfo) (z : Value) (ht : P.underlying tS = some (.slice e)) (hX : P.underlying tX = some d) (hnd : d = .string ∨ ∃ e', d = .slice e') (hi : P.info? e = some i) (hz : i.zero = some z) (p : Option Addr) (len cap m : Nat) (Y : Value) (l l0 : List Value)
    (hlen : ∀ w1 : World, (Builtin.lenOf Y).run P w1 = .ok m w1) (hl : l.length = m * i.size) (hf : ∀ w1 : World, w1.heap = w.heap → (Builtin.firstCells i.size m Y).run P w1 = .ok l.toArray w1)
    (hf0 : ∀ w1 : World, w1.heap = w.heap → (Builtin.firstCells i.size len (.slice p len cap)).run P w1 = .ok l0.toArray w1) (hno : cap < len + m) (hb : len + m ≤ 140737488351232) (hby : (len + m) * i.bytes ≤ 140737488351232) :
    ∃ c ex, len + m ≤ c ∧ ex.length = (c - (len + m)) * z.cells.size ∧ (Builtin.append_ #[tS, tX] ty #[.slice p len cap, Y]).run P w = .ok (.slice (some ⟨w.heap.size, 0, none⟩) (len + m) c) (w.drew.alloc (.cells (l0 ++ l ++ ex).toArray e)) := by
  have hn : ¬ (len + m ≤ cap) := by omega
  have h63' : ¬ (9223372036854775807 < ((len : Int) + (m : Int))) := by omega
  have h48' : ¬ (281474976710656 < Builtin.nextslicecap (len + m) cap * i.bytes) := by
    have := growslice_fits (need := len + m) (old := cap) (bytes := i.bytes) hno (by omega)
    omega
  have hf' := hf w.drew rfl
  have hf0' := hf0 w.drew rfl
  refine ⟨grownCap w (len + m) cap e, (Builtin.zeroCells z.cells (grownCap w (len + m) cap e - (len + m))).toList, grownCap_ge _ _ _ _, by rw [Array.length_toList, size_zeroCells], ?_⟩
  rcases hnd with rfl | ⟨e', rfl⟩ <;> simp [Builtin.append_, run_underlying ht, run_underlying hX, sizeOf, typeInfo, zeroValue, hi, hz, hlen, hn, h63', h48', Question.forced, hf', hf0', newRow, grownCap] <;> (congr 2; apply Array.ext'; simp)
theorem hset_hset (h : LHeap) (n : Nat) (x y : Option LObj) : hset (hset h n x) n y = hset h n y := by
  induction n generalizing h with
  | zero => cases h <;> rfl
  | succ n ih => cases h <;> simp [hset, ih]
/-- A row in the midst is written over. -/
theorem over_PS {segs : Segs} {p : List (Nat × Nat × Nat)} {off w k m at_ : Nat} {s1 : Segs} {rb rb2 : Segs → Segs} {f g : Nat → Segs} {q : Segs} {l : List Value} (h1 : PRepl segs p s1 rb) (h2 : Repl s1 off (.rows k w f q) rb2) (hch : Chunks ρ w m g l) (hk : at_ + m ≤ k) {lb : List Value} (hlb : PS ρ segs lb) :
    ∃ x1 x2 x3, lb = x1 ++ (x2 ++ x3) ∧ x1.length = pathSum p + off + at_ * w ∧ x2.length = l.length ∧ PS ρ (rb (rb2 (.rows k w (fun j => if at_ ≤ j ∧ j < at_ + m then g (j - at_) else f j) q))) (x1 ++ (l ++ x3)) := by
  obtain ⟨a1, a2, a3, rfl, e1, e2, e3⟩ := h1 ρ lb hlb
  obtain ⟨b1, b2, rfl, e4, e5, e6⟩ := h2 ρ a2 e2
  obtain ⟨d1, d2, rfl, hd1, hd2⟩ := rows_chunks e5
  have ho := chunks_over hd1 hch hk
  have e7 : (at_ + m) * w ≤ k * w := Nat.mul_le_mul_right _ hk
  rw [Nat.add_mul] at e7
  have hd1l := hd1.1
  have hll := hch.1
  have hsplit : d1 = d1.take (at_ * w) ++ ((d1.drop (at_ * w)).take (m * w) ++ d1.drop (at_ * w + m * w)) := by
    rw [← List.drop_drop, List.take_append_drop, List.take_append_drop]
  have hpq : PS ρ (.rows k w (fun j => if at_ ≤ j ∧ j < at_ + m then g (j - at_) else f j) q) ((d1.take (at_ * w) ++ l ++ d1.drop (at_ * w + m * w)) ++ d2) := by
    obtain ⟨ls, l', e, r1, r2, r3⟩ := chunks_rows ho
    have r3 : l' = [] := r3
    subst r3
    exact ⟨ls, d2, by rw [e]; simp, r1, r2, hd2⟩
  refine ⟨a1 ++ b1 ++ d1.take (at_ * w), (d1.drop (at_ * w)).take (m * w), d1.drop (at_ * w + m * w) ++ d2 ++ a3, ?_, ?_, ?_, ?_⟩
  · conv => lhs; rw [hsplit]
    simp
  · simp only [List.length_append, List.length_take, e1, e4, hd1l]; omega
  · simp only [List.length_take, List.length_drop, hd1l, hll]; omega
  · have := e3 ρ _ _ (Ext.refl ρ) (e6 ρ _ _ (Ext.refl ρ) hpq) (by simp only [List.length_append, List.length_take, List.length_drop, hd1l, hll]; omega)
    simpa using this
def appT (n w bytes : Nat) (e : TypeId) (p : LAddr) (st w' len lo : Nat) (hi : Option Nat) (m : Nat) (g : Nat → Segs) (yb : Option Nat) : Rd :=
  match Nat.beq w' 0 with
    | true => match Nat.beq len 0, Nat.beq lo 0, hi with
      | true, true, some 0 => .need (m ≤ 140737488351232 ∧ m * bytes ≤ 140737488351232) (.ret (.slice ⟨n, [], 0⟩ 0 w m m none) [] (some ⟨.rows m w g .nil, e, true, false⟩))
      | _, _, _ => .fail
    | false => match Nat.beq w w' with
      | false => .fail
      | true => match (match yb with | some b => Nat.beq b p.blk | none => false) with
        | true => .obj p.blk fun o => match o.ro with
          | true => .fail
          | false => pmodK p.path o.segs (fun s K => atK s p.off (fun s1 K1 => match s1 with
            | .rows k w2 f q => match Nat.beq w w2 with
              | true => .need (len + m ≤ lo ∧ st + len + m ≤ k) (K1 (.rows k w (fun j => if st + len ≤ j ∧ j < st + len + m then g (j - (st + len)) else f j) q))
              | false => .fail
            | _ => .fail) K .fail) fun s' => .ret (.slice p st w (len + m) lo hi) [(p.blk, some ⟨s', o.ty, o.more, false⟩)] none
        | false => match p.path, p.off with
          | [], 0 => .obj p.blk fun o => match o.ro, o.segs with
            | false, .rows k w2 f .nil => match Nat.beq w w2, Nat.beq o.ty e with
              | true, true => .need (st + len ≤ k ∧ len + m ≤ 140737488351232 ∧ (len + m) * bytes ≤ 140737488351232) (.ret (.slice ⟨n, [], 0⟩ 0 w (len + m) (len + m) none) [(p.blk, none)] (some ⟨.rows (len + m) w (fun i => if i < len then f (st + i) else g (i - len)) .nil, e, true, false⟩))
              | _, _ => .fail
            | _, _ => .fail
          | _, _ => .fail
def appRd (n w bytes : Nat) (e : TypeId) (x y : LVal) : Rd :=
  match x with
  | .slice p st w' len lo hi => srcK w y fun m g yb => appT n w bytes e p st w' len lo hi m g yb
  | _ => .fail
/-- Append of noughts. -/
def appZRd (n w bytes : Nat) (e : TypeId) (z : Segs) (x y : LVal) : Rd :=
  match x, y with
  | .slice p st w' len lo hi, .int _ c => .need (0 ≤ c ∧ c ≤ 140737488351232 ∧ c * (bytes : Int) ≤ 140737488351232) (appT n w bytes e p st w' len lo hi c.toNat (fun _ => z) none)
  | _, _ => .fail
theorem append_exec {X Y : Operand} {tS tX : TypeId} {o : Oper} (ho : o.op = .call ⟨.builtin .append, #[X, Y], #[tS, tX]⟩) {v : Value} {w' : World} (h : (Builtin.append_ #[tS, tX] o.type #[a.eval X, a.eval Y]).run P w = .ok v w') : (execOp a.eval o).run P w = .ok (.value v) w' := by
  unfold execOp
  simp [ho, resolve, invoke, builtin, h]
/-- How an append runs that puts l, m things, behind. -/
structure AppR (P : Program) (a : Act) (w : World) (o : Oper) (X : Operand) (e : TypeId) (i : TypeInfo) (z : Value) (m : Nat) (l : List Value) : Prop where
  zero : m = 0 → ∀ q len cap, a.eval X = .slice q len cap → len ≤ cap → (execOp a.eval o).run P w = .ok (.value (.slice q len cap)) w
  in_ : ∀ g o' len cap, a.eval X = .slice (some ⟨g, o', none⟩) len cap → len + m ≤ cap → (∀ x ∈ l, x.oneCell' = true) →
    (∀ j, j < l.length → (w.cell? ⟨g, o' + len * i.size + j, none⟩).isSome = true ∧ w.frozen? ⟨g, o' + len * i.size + j, none⟩ = false) →
    (execOp a.eval o).run P w = .ok (.value (.slice (some ⟨g, o', none⟩) (len + m) cap)) (w.setCells g (o' + len * i.size) l)
  new : ∀ q len cap l0, a.eval X = .slice q len cap → (∀ w1 : World, w1.heap = w.heap → (Builtin.firstCells i.size len (.slice q len cap)).run P w1 = .ok l0.toArray w1) → cap < len + m → len + m ≤ 140737488351232 → (len + m) * i.bytes ≤ 140737488351232 →
    ∃ c ex, len + m ≤ c ∧ ex.length = (c - (len + m)) * z.cells.size ∧ (execOp a.eval o).run P w = .ok (.value (.slice (some ⟨w.heap.size, 0, none⟩) (len + m) c)) (w.drew.alloc (.cells (l0 ++ l ++ ex).toArray e))
theorem app_core (X : Operand) (e : TypeId) (i : TypeInfo) (z : Value) (o : Oper) (hzs : z.cells.size = i.size) (h0 : i.size ≠ 0)
    (hs : Sim T w0 ρ h w) (hn : ρ n = none) (hh : hget h n = none) {p : LAddr} {st w' len lo : Nat} {hi' : Option Nat} (hv : PV ρ (.slice p st w' len lo hi') (a.eval X)) {m : Nat} {g : Nat → Segs} {yb : Option Nat} {l : List Value} (R : AppR P a w o X e i z m l) (hch : Chunks ρ i.size m g l)
    (h1 : (appT n i.size i.bytes e p st w' len lo hi' m g yb).wp t h Φ) : Res P o a w T w0 ρ h n Φ := by
  obtain ⟨q, cap, ex, hc⟩ := hv
  simp only [appT] at h1
  have hl := hch.1
  have hone := PS.oneCells _ _ (chunks_rows hch)
  have zero : m = 0 → l = [] := fun e1 => List.eq_nil_of_length_eq_zero (by rw [hl, e1]; simp)
  have hbase : ∀ w1 : World, w1.heap = w.heap → (Builtin.firstCells i.size 0 (.slice q 0 cap)).run P w1 = .ok ([] : List Value).toArray w1 := fun w1 _ => by cases q <;> simp [Builtin.firstCells, loadCells, loadCellsFrom]
  -- a row of its own: what was there, and what comes
  have fresh : ∀ (l0 : List Value) (f : Nat → Segs), Chunks ρ i.size len f l0 → (∀ w1 : World, w1.heap = w.heap → (Builtin.firstCells i.size len (.slice q len cap)).run P w1 = .ok l0.toArray w1) → cap < len + m → len + m ≤ 140737488351232 → (len + m) * i.bytes ≤ 140737488351232 →
      ∀ (h2 : LHeap) (f2 : Nat → Segs), Sim T w0 ρ h2 w → hget h2 n = none → (∀ j, j < len + m → (if j < len then f j else g (j - len)) = f2 j) →
      ∃ x ρ' w', (execOp a.eval o).run P w = .ok (.value x) w' ∧ Ext ρ ρ' ∧ (∀ k, k ≠ n → ρ' k = ρ k) ∧ PV ρ' (.slice ⟨n, [], 0⟩ 0 i.size (len + m) (len + m) none) x ∧ Sim T w0 ρ' (hset h2 n (some ⟨.rows (len + m) i.size f2 .nil, e, true, false⟩)) w' := by
    intro l0 f c1 c2 c3 c4 c5 h2 f2 hs2 hh2 hf2
    obtain ⟨c, exx, e1, e2, e3⟩ := R.new q len cap l0 ex c2 c3 c4 c5
    have hc2 := chunks_congr (chunks_append c1 hch) hf2
    refine ⟨_, ρ.put n (w.heap.size, 0, (l0 ++ l ++ exx).length), _, e3, Pl.put_ext hn _, fun k hk => by rw [Pl.put_at, if_neg hk], ?_, ?_⟩
    · refine ⟨_, _, rfl, .inr ⟨w.heap.size, 0, (l0 ++ l ++ exx).length, by simp [Pl.put], by simp [LAddr.cell, pathSum], Nat.le_refl _, e1, (fun x hx => by cases hx), ?_⟩⟩
      have hc2l := hc2.1
      simp only [LAddr.cell, pathSum, Nat.zero_add, List.length_append] at hc2l ⊢
      rw [hc2l, e2, hzs, ← Nat.add_mul]
      rw [show len + m + (c - (len + m)) = c by omega]
      exact Nat.le_refl _
    · have := hs2.drew.alloc (n := n) (o := ⟨.rows (len + m) i.size f2 .nil, e, true, false⟩) (l := l0 ++ l) (ex := exx) (fr := (0, 0)) hn hh2 rfl rfl (chunks_rows hc2) (fun hx => by cases hx) (unfrozen0 _)
      exact this
  split at h1
  · split at h1
    · rename_i hb1 hb2 hb3
      have hb2 := Nat.eq_of_beq_eq_true hb2
      have hb3 := Nat.eq_of_beq_eq_true hb3
      subst hb2 hb3
      obtain ⟨⟨h2, h3⟩, h4⟩ := h1
      have hcap : cap = 0 := by
        rcases hc with ⟨_, _, c3⟩ | ⟨_, _, _, _, _, _, _, c3, _⟩
        · exact c3
        · have := c3 0 rfl; omega
      subst hcap
      by_cases hm : m = 0
      · subst hm
        have hl0 := zero rfl
        subst hl0
        refine ⟨_, _, _, .slice q 0 0, ρ, w, h4, .inl ?_, Ext.refl ρ, fun _ _ => rfl, ⟨q, 0, rfl, .inl ⟨rfl, rfl, rfl⟩⟩, ?_⟩
        · exact R.zero rfl q 0 0 ex (Nat.le_refl _)
        · exact hs.empty hn hh (chunks_rows hch)
      · obtain ⟨x, ρ', w', e1, e2, e3, e4, e5⟩ := fresh [] (fun _ => .nil) ⟨by simp, fun j hj => by omega⟩ hbase (by omega) (by omega) (by simpa using h3) h g hs hh (fun j hj => by simp)
        rw [Nat.zero_add] at e4 e5
        exact ⟨_, _, _, x, ρ', w', h4, .inl e1, e2, fun k hk => e3 k (hk.resolve_right (by simp)), e4, e5⟩
    · exact h1.elim
  · split at h1
    · exact h1.elim
    · rename_i hw0 hw1
      have hw1 := Nat.eq_of_beq_eq_true hw1
      subst hw1
      split at h1
      · -- in place
        simp only [Rd.wp, hgetK_eq] at h1
        cases hg : hget h p.blk with
        | none => simp [hg] at h1
        | some ob =>
          simp only [hg] at h1
          split at h1
          · exact h1.elim
          rename_i hro
          obtain ⟨s1, rb, h2, h3⟩ := pmod_wp _ _ _ h1
          obtain ⟨s2, rb2, h4, h5⟩ := at_wp _ _ _ h2
          cases s2 <;> try exact h4.elim
          rename_i k w2 f qq
          simp only at h4
          split at h4
          · rename_i hb
            have hb := Nat.eq_of_beq_eq_true hb
            subst hb
            obtain ⟨⟨h6, h7⟩, h8⟩ := h4
            rcases hc with ⟨c1, c2, c3⟩ | ⟨g', b, n', r1, rfl, r2, r3, r4, r5⟩
            · -- nothing comes, nothing is there
              have hm : m = 0 := by omega
              subst hm
              have hl0 := zero rfl
              subst hl0
              subst c1 c2 c3
              refine ⟨_, _, _, .slice q 0 0, ρ, w, h8, .inl ?_, Ext.refl ρ, fun _ _ => rfl, ⟨q, 0, rfl, .inl ⟨rfl, rfl, rfl⟩⟩, ?_⟩
              · exact R.zero rfl q 0 0 ex (Nat.le_refl _)
              · simp only [applyU, updU]
                rcases hs.obj _ _ hg with ⟨g2, b2, n2, obj, e1, e2, e3, hT⟩ | ⟨e1, e2⟩
                · obtain ⟨pre, lr, exx, fr, rfl, hlr, hmore, hpre, hn2, hfr⟩ := e3
                  obtain ⟨x1, x2, x3, rfl, _, f2, f3⟩ := over_PS (at_ := st + 0) (m := 0) h3 h5 hch h7 hlr
                  have f2 : x2 = [] := List.eq_nil_of_length_eq_zero (by simpa using f2)
                  subst f2
                  exact hs.turn (o' := ⟨_, ob.ty, ob.more, false⟩) hro rfl hg e1 ⟨pre, _, exx, fr, rfl, f3, hmore, hpre, hn2, fun _ => hfr hro⟩ e2 rfl (fun _ _ => rfl) rfl rfl rfl
                · obtain ⟨x1, x2, x3, f1, _, f2, f3⟩ := over_PS (at_ := st + 0) (m := 0) h3 h5 hch h7 (e2.ps hro)
                  have f2 : x2 = [] := List.eq_nil_of_length_eq_zero (by simpa using f2)
                  subst f2
                  have f1 := f1.symm
                  rw [f1] at f3
                  have := (hs.kill p.blk).empty e1 (by rw [hget_hset, if_pos rfl]) (o := ⟨_, ob.ty, ob.more, false⟩) f3
                  rw [hset_hset] at this
                  exact this
            · rcases hs.obj _ _ hg with ⟨g2, b2, n2, obj, e1, e2, e3, hT⟩ | ⟨e1, _⟩
              · rw [r1] at e1
                cases e1
                obtain ⟨pre, lr, exx, fr, rfl, hlr, hmore, hpre, hn2, hfr⟩ := e3
                obtain ⟨x1, x2, x3, rfl, f1, f2, f3⟩ := over_PS (at_ := st + len) (m := m) h3 h5 hch h7 hlr
                have hoff : (pre ++ x1).length = b + (p.cell + st * i.size) + len * i.size := by
                  rw [List.length_append, hpre, f1, Nat.add_mul]; simp only [LAddr.cell]; omega
                have hC : (pre ++ (x1 ++ (x2 ++ x3)) ++ exx).toArray.toList = (pre ++ x1) ++ (x2 ++ (x3 ++ exx)) := by simp
                have hCs : (pre ++ (x1 ++ (x2 ++ x3)) ++ exx).toArray.size = (pre ++ x1).length + x2.length + x3.length + exx.length := by simp; omega
                obtain ⟨k1, k2, k3, k4, k5, k6⟩ := setCells_heap g' l w (b + (p.cell + st * i.size) + len * i.size) _ _ _ e2 (by rw [hCs, hoff]; omega)
                rw [hC, splice f2.symm hoff.symm] at k1
                have hr := R.in_ g' (b + (p.cell + st * i.size)) len cap ex (by omega) hone (fun j hj => by
                  have hj2 : b + (p.cell + st * i.size) + len * i.size + j < (pre ++ (x1 ++ (x2 ++ x3)) ++ exx).toArray.size := by rw [hCs, hoff]; omega
                  refine ⟨?_, unfrozen_at e2 (by simpa using hfr hro) hj2⟩
                  rw [cell_of_row w g' _ _ _ _ e2, Array.getElem?_eq_getElem hj2]
                  rfl)
                refine ⟨_, _, _, _, ρ, _, h8, .inl (hr), Ext.refl ρ, fun _ _ => rfl, ?_, ?_⟩
                · exact ⟨_, _, rfl, .inr ⟨g', b, n', r1, rfl, h6, r3, r4, r5⟩⟩
                · simp only [applyU, updU]
                  refine hs.turn hro rfl hg r1 ?_ k1 k2 k3 k4 k5 k6
                  refine ⟨pre, x1 ++ (l ++ x3), exx, fr, by simp, f3, hmore, hpre, ?_, ?_⟩
                  · rw [hn2]; simp [f2]
                  · exact fun _ => ⟨fun y hy' => (hfr hro).1 y (by simp only [List.length_append, f2] at hy' ⊢; omega), (hfr hro).2⟩
              · rw [r1] at e1; cases e1
          · exact h4.elim
      · -- the row is its own again
        split at h1
        · rename_i hp1 hp2
          simp only [Rd.wp, hgetK_eq] at h1
          cases hg : hget h p.blk with
          | none => simp [hg] at h1
          | some ob =>
            simp only [hg] at h1
            split at h1
            · rename_i k w2 f hro hseg
              split at h1
              · rename_i hb1 hb2
                have hb1 := Nat.eq_of_beq_eq_true hb1
                have hb2 := Nat.eq_of_beq_eq_true hb2
                subst hb1
                obtain ⟨⟨h2, h3, h4⟩, h5⟩ := h1
                have hne : n ≠ p.blk := by intro c; subst c; rw [hg] at hh; cases hh
                have hs2 := hs.kill p.blk
                have hh2 : hget (hset h p.blk none) n = none := by rw [hget_hset, if_neg hne]; exact hh
                rcases hc with ⟨c1, c2, c3⟩ | ⟨g', b, n', r1, rfl, r2, r3, r4, r5⟩
                · subst c1 c2 c3
                  by_cases hm : m = 0
                  · subst hm
                    have hl0 := zero rfl
                    subst hl0
                    refine ⟨_, _, _, .slice q 0 0, ρ, w, h5, .inl ?_, Ext.refl ρ, fun _ _ => rfl, ⟨q, 0, rfl, .inl ⟨rfl, rfl, rfl⟩⟩, ?_⟩
                    · exact R.zero rfl q 0 0 ex (Nat.le_refl _)
                    · exact hs2.empty hn hh2 (chunks_rows (n := 0) ⟨by simp, fun j hj => by omega⟩)
                  · obtain ⟨x, ρ', w', e1, e2, e3, e4, e5⟩ := fresh [] (fun _ => .nil) ⟨by simp, fun j hj => by omega⟩ hbase (by omega) (by omega) h4 _ (fun i => if i < 0 then f (st + i) else g (i - 0)) hs2 hh2 (fun j hj => by simp)
                    exact ⟨_, _, _, x, ρ', w', h5, .inl e1, e2, fun k hk => e3 k (hk.resolve_right (by simp)), e4, e5⟩
                · rcases hs.obj _ _ hg with ⟨g2, b2, n2, obj, e1, e2, e3, hT⟩ | ⟨e1, _⟩
                  · rw [r1] at e1
                    cases e1
                    have hcell : p.cell = 0 := by simp [LAddr.cell, hp1, hp2, pathSum]
                    obtain ⟨pre, lr, exx, fr, rfl, hlr, hmore, hpre, hn2, hfr⟩ := e3
                    rw [hseg] at hlr
                    obtain ⟨d1, d2, rfl, hd1, hd2⟩ := rows_chunks hlr
                    have hd2 : d2 = [] := hd2
                    subst hd2
                    rw [List.append_nil] at *
                    have hd1l := hd1.1
                    have e4 : (st + len) * i.size ≤ k * i.size := Nat.mul_le_mul_right _ h2
                    rw [Nat.add_mul] at e4
                    have hsub := chunks_sub hd1 h2
                    have hold : (pre ++ d1 ++ exx) = (pre ++ d1.take (st * i.size)) ++ ((d1.drop (st * i.size)).take (len * i.size) ++ ((d1.drop (st * i.size)).drop (len * i.size) ++ exx)) := by
                      rw [← List.append_assoc (List.take (len * i.size) _), List.take_append_drop, List.append_assoc pre (List.take _ _), ← List.append_assoc (List.take (st * i.size) _), List.take_append_drop, List.append_assoc]
                    have e5 : (pre ++ d1.take (st * i.size)).length = b + (p.cell + st * i.size) := by
                      rw [List.length_append, hpre, List.length_take, hd1l, hcell]; omega
                    by_cases hroom : len + m ≤ cap
                    · -- the room is there
                      have hm3 : (st + cap) * i.size ≤ n' := by rw [hcell] at r5; omega
                      have hm4 : (len + m) * i.size ≤ cap * i.size := Nat.mul_le_mul_right _ hroom
                      rw [Nat.add_mul] at hm3 hm4
                      have hspl : ∃ u1 u2, (d1.drop (st * i.size)).drop (len * i.size) ++ exx = u1 ++ u2 ∧ u1.length = l.length := by
                        refine ⟨_, _, (List.take_append_drop l.length _).symm, ?_⟩
                        rw [List.length_take]
                        apply Nat.min_eq_left
                        simp only [List.length_append, List.length_drop, hd1l, hl]
                        simp only [List.length_append] at hn2
                        omega
                      obtain ⟨u1, u2, hu, hul⟩ := hspl
                      rw [hu] at hold
                      have hCsz : (pre ++ d1 ++ exx).toArray.size = (pre ++ d1.take (st * i.size)).length + len * i.size + l.length + u2.length := by
                        rw [hold]
                        simp only [List.size_toArray, List.length_append, hul, List.length_take, List.length_drop, hd1l]
                        omega
                      obtain ⟨f1, f2, f3, f4, f5, f6⟩ := setCells_heap g' l w (b + (p.cell + st * i.size) + len * i.size) _ _ _ e2 (by rw [hCsz, e5]; omega)
                      have hdisp : (List.take (b + (p.cell + st * i.size) + len * i.size) (pre ++ d1 ++ exx).toArray.toList ++ l ++ List.drop (b + (p.cell + st * i.size) + len * i.size + l.length) (pre ++ d1 ++ exx).toArray.toList) = (pre ++ d1.take (st * i.size)) ++ ((d1.drop (st * i.size)).take (len * i.size) ++ l) ++ u2 := by
                        rw [show (pre ++ d1 ++ exx).toArray.toList = pre ++ d1 ++ exx from rfl, hold, ← List.append_assoc, splice (by rw [hul]) (by rw [List.length_append, e5, hsub.1])]
                        simp
                      rw [hdisp] at f1
                      have hs3 := hs.turn (o' := ⟨.nil, ob.ty, true, false⟩) hro rfl hg r1 (ob' := _) ?_ f1 f2 f3 f4 f5 f6
                      · have hs4 := hs3.inherit (n := p.blk) (o := ⟨.nil, ob.ty, true, false⟩) rfl (by rw [hget_hset, if_pos rfl]) r1 hn (by rw [hget_hset, if_neg hne]; exact hh) (b' := b + (p.cell + st * i.size)) (m' := ((d1.drop (st * i.size)).take (len * i.size) ++ l ++ u2).length) (o' := ⟨.rows (len + m) i.size (fun j => if j < len then f (st + j) else g (j - len)) .nil, ob.ty, true, false⟩) rfl f1 ?_
                        · rw [hset_hset] at hs4
                          have hr := R.in_ g' (b + (p.cell + st * i.size)) len cap ex hroom hone (fun j hj => by
                            have hj2 : b + (p.cell + st * i.size) + len * i.size + j < (pre ++ d1 ++ exx).toArray.size := by rw [hCsz, e5]; omega
                            refine ⟨?_, unfrozen_at e2 (by simpa using hfr hro) hj2⟩
                            rw [cell_of_row w g' _ _ _ _ e2, Array.getElem?_eq_getElem hj2]
                            rfl)
                          refine ⟨_, _, _, _, ρ.put n (g', b + (p.cell + st * i.size), ((d1.drop (st * i.size)).take (len * i.size) ++ l ++ u2).length), _, h5, .inl (hr), Pl.put_ext hn _, fun y hy' => by rw [Pl.put_at, if_neg (hy'.resolve_right (by simp))], ?_, ?_⟩
                          · refine ⟨_, _, rfl, .inr ⟨g', _, _, by simp only [Pl.put, if_pos]; rfl, by simp [LAddr.cell, pathSum], Nat.le_refl _, hroom, (fun x hx => by cases hx), ?_⟩⟩
                            simp only [LAddr.cell, pathSum, Nat.zero_add, List.length_append, hsub.1, hl]
                            have := congrArg List.length hold
                            simp only [List.length_append, hsub.1, hul, hl, List.length_take, hd1l] at this
                            simp only [List.length_append, hd1l] at hn2
                            omega
                          · subst hb2
                            exact hs4
                        · refine ⟨pre ++ d1.take (st * i.size), (d1.drop (st * i.size)).take (len * i.size) ++ l, u2, fr, by simp, chunks_rows (chunks_append hsub hch), (fun x => by cases x), e5, rfl, ?_⟩
                          refine fun _ => ⟨fun y hy' => (hfr hro).1 y ?_, (hfr hro).2⟩
                          rw [hold]
                          simp only [List.length_append, hul] at hy' ⊢
                          omega
                      · refine ⟨pre, [], d1.take (st * i.size) ++ ((d1.drop (st * i.size)).take (len * i.size) ++ l) ++ u2, fr, by simp, rfl, (fun x => by cases x), hpre, ?_, ?_⟩
                        · rw [hn2]
                          have := congrArg List.length hold
                          simp only [List.length_append, hul, List.length_nil] at this ⊢
                          omega
                        · refine fun _ => ⟨fun y hy' => (hfr hro).1 y ?_, (hfr hro).2⟩
                          rw [hold]
                          simp only [List.length_append, hul, List.append_nil] at hy' ⊢
                          omega
                    · have hf0 : ∀ w1 : World, w1.heap = w.heap → (Builtin.firstCells i.size len (.slice (some ⟨g', b + (p.cell + st * i.size), none⟩) len cap)).run P w1 = .ok ((d1.drop (st * i.size)).take (len * i.size)).toArray w1 := by
                        intro w1 hw1
                        refine run_firstCells_some (P := P) w1 i.size len ⟨g', b + (p.cell + st * i.size), none⟩ len cap _ hsub.1 ?_
                        rw [← e5]
                        exact cells_read (w := w1) (by rw [hw1]; exact e2) (by rw [← hold])
                      obtain ⟨x, ρ', w', k1, k2, k3, k4, k5⟩ := fresh _ (fun j => f (st + j)) hsub hf0 (by omega) h3 h4 _ _ hs2 hh2 (fun j _ => rfl)
                      exact ⟨_, _, _, x, ρ', w', h5, .inl k1, k2, fun j hj => k3 j (hj.resolve_right (by simp)), k4, k5⟩
                  · rw [r1] at e1; cases e1
              · exact h1.elim
            · exact h1.elim
        · exact h1.elim
theorem append_sound (X Y : Operand) (tS tX e : TypeId) (d : TypeDesc) (i : TypeInfo) (z : Value) (o : Oper) (ho : o.op = .call ⟨.builtin .append, #[X, Y], #[tS, tX]⟩) (ht : P.underlying tS = some (.slice e)) (hX : P.underlying tX = some d) (hnd : d = .string ∨ ∃ e', d = .slice e') (hi : P.info? e = some i) (hz : i.zero = some z) (hzs : z.cells.size = i.size) (h0 : i.size ≠ 0)
    (hs : Sim T w0 ρ h w) (hn : ρ n = none) (hh : hget h n = none) {v y : LVal} (hv : PV ρ v (a.eval X)) (hy : PV ρ y (a.eval Y)) (hw : (appRd n i.size i.bytes e v y).wp t h Φ) : Res P o a w T w0 ρ h n Φ := by
  cases v <;> try exact hw.elim
  simp only [appRd] at hw
  obtain ⟨m, g, yb, l, h1, hch, hlen, hfc, _, hyb⟩ := src_wp hs hy hw
  have hl := hch.1
  have hall : ∀ w1 : World, w1.heap = w.heap → (Builtin.firstCells i.size m (a.eval Y)).run P w1 = .ok l.toArray w1 := fun w1 e1 => firstCells_all (hfc m (Nat.le_refl _) w1 e1) hl
  refine app_core X e i z o hzs h0 hs hn hh hv (m := m) (l := l) ⟨?_, ?_, ?_⟩ hch h1
  · rintro rfl q len cap ex hroom
    have hl0 : l = [] := List.eq_nil_of_length_eq_zero (by rw [hl]; simp)
    subst hl0
    exact append_exec ho (by rw [ex]; exact run_append_zero tS tX o.type e d i ht hX hnd hi q len cap _ hlen (hall w rfl) hroom)
  · intro g o' len cap ex hroom hone hth
    exact append_exec ho (by rw [ex]; exact run_append_in (w := w) tS tX o.type e d i ht hX hnd hi g o' len cap m _ l hlen hl (hall w rfl) hroom hone hth)
  · intro q len cap l0 ex hf0 c3 c4 c5
    obtain ⟨c, exx, e1, e2, e3⟩ := run_append_new (w := w) tS tX o.type e d i z ht hX hnd hi hz q len cap m (a.eval Y) l l0 hlen hl hall hf0 c3 c4 c5
    exact ⟨c, exx, e1, e2, append_exec ho (by rw [ex]; exact e3)⟩
end
end Go.Proofs.Ytilmfhpoiejmfaa.Lh

/- Composites; copy, clear; bytes and strings; equality. Over any program. -/
namespace Go.Proofs.Ytilmfhpoiejmfaa.Lh
set_option linter.unusedSimpArgs false
set_option linter.unusedVariables false
set_option linter.unusedSectionVars false
open Go.RowKit
variable [Fz]
theorem foldl_set (off : Nat) : ∀ (vs : List Value) (k : Nat) (cells : Array Value), off + k + vs.length ≤ cells.size →
    ((vs.zipIdx k).foldl (fun cs (x : Value × Nat) => cs.setIfInBounds (off + x.2) x.1) cells).toList = cells.toList.take (off + k) ++ vs ++ cells.toList.drop (off + k + vs.length)
  | [], k, cells, _ => by simp
  | v :: vs, k, cells, h => by
    simp only [List.length_cons] at h
    rw [List.zipIdx_cons, List.foldl_cons]
    rw [foldl_set off vs (k + 1) _ (by simp; omega)]
    apply List.ext_getElem?
    intro i
    simp only [Array.toList_setIfInBounds, List.getElem?_append, List.length_append, List.length_take, List.length_set, Array.length_toList, List.getElem?_take, List.getElem?_set, List.getElem?_drop, List.length_cons, List.getElem?_cons]
    have hm1 : min (off + (k + 1)) cells.size = off + k + 1 := by omega
    have hm2 : min (off + k) cells.size = off + k := by omega
    rw [hm1, hm2]
    by_cases c1 : i < off + k
    · rw [if_pos (by omega), if_pos (by omega), if_pos (by omega), if_neg (by omega), if_pos (by omega), if_pos (by omega), if_pos (by omega)]
    · by_cases c2 : i = off + k
      · subst c2
        rw [if_pos (by omega), if_pos (by omega), if_pos (by omega), if_pos rfl, if_pos (by omega), if_pos (by omega), if_neg (by omega), if_pos (by omega)]
      · by_cases c3 : i < off + k + 1 + vs.length
        · rw [if_pos (by omega), if_neg (by omega), if_pos (by omega), if_neg (by omega), if_neg (by omega)]
          congr 1 <;> omega
        · rw [if_neg (by omega), if_neg (by omega), if_neg (by omega)]
          congr 1 <;> omega
theorem fill_cons {place : Nat → Option (Nat × Nat)} {cells : Array Value} {i off size : Nat} {v : Value} {rest : List (Nat × Value)} (hp : place i = some (off, size)) (hv : v.cells.size = size) (hb : off + size ≤ cells.size) :
    ∃ c2, Instr.fill place cells ((i, v) :: rest) = Instr.fill place c2 rest ∧ c2.toList = cells.toList.take off ++ v.cells.toList ++ cells.toList.drop (off + size) := by
  refine ⟨v.cells.zipIdx.foldl (fun cs (c, j) => cs.setIfInBounds (off + j) c) cells, ?_, ?_⟩
  · simp only [Instr.fill, hp]
    rw [if_neg]
    simp only [Bool.or_eq_true, decide_eq_true_eq, bne_iff_ne, ne_eq, not_or]
    omega
  · rw [← Array.foldl_toList, Array.toList_zipIdx]
    have := foldl_set off v.cells.toList 0 cells (by rw [Array.length_toList]; omega)
    rw [Nat.add_zero] at this
    rw [Array.length_toList, hv] at this
    rw [← this]
section
variable {T : Nat → Nat → Prop} {w0 : World} {ρ : Pl} {h : LHeap} {w : World} {t : List LVal} {a : Act} {Φ : LVal → List (Nat × Option LObj) → Option LObj → Prop} {P : Program} {n : Nat}
/-- Parts, by their places, into rows. -/
def partsRd (w : Nat) : List (Nat × LOpd) → (Nat → Segs) → ((Nat → Segs) → Rd) → Rd
  | [], f, K => K f
  | (i, x) :: r, f, K => x.rd fun v => cellsK v w fun s => partsRd w r (fun j => if j = i then s else f j) K
def compileParts : List (Nat × Operand) → Option (List (Nat × LOpd))
  | [] => some []
  | (i, x) :: r => match compileOpd x, compileParts r with
    | some y, some s => some ((i, y) :: s)
    | _, _ => none
theorem parts_wp (ht : TSim ρ t a) {w m : Nat} : ∀ (X : List (Nat × Operand)) (x : List (Nat × LOpd)), compileParts X = some x → (∀ p ∈ X, p.1 < m) → ∀ (f : Nat → Segs) (cells : Array Value) {K : (Nat → Segs) → Rd}, Chunks ρ w m f cells.toList → (partsRd w x f K).wp t h Φ →
    ∃ f' cells', (K f').wp t h Φ ∧ Instr.fill (fun i => some (i * w, w)) cells (X.map fun (i, x) => (i, a.eval x)) = some cells' ∧ Chunks ρ w m f' cells'.toList
  | [], x, hx, _, f, cells, K, hch, hw => by
    simp [compileParts] at hx
    subst hx
    exact ⟨f, cells, hw, rfl, hch⟩
  | (i, X) :: R, x, hx, hb, f, cells, K, hch, hw => by
    unfold compileParts at hx
    split at hx
    · rename_i y s h1 h2
      simp at hx
      subst hx
      obtain ⟨v, hv, h3⟩ := opd_wp h1 ht hw
      obtain ⟨sg, h4, h5, h6⟩ := cells_wp hv h3
      have hi : i < m := hb (i, X) (by simp)
      have e1 := mul_lt w hi
      have hl := hch.1
      obtain ⟨c2, h7, h8⟩ := fill_cons (place := fun i => some (i * w, w)) (cells := cells) (i := i) (rest := R.map fun (i, x) => (i, a.eval x)) rfl h6 (by rw [Array.length_toList] at hl; omega)
      have h9 : Chunks ρ w 1 (fun _ => sg) (a.eval X).cells.toList := ⟨by rw [Array.length_toList, h6]; omega, fun k hk => by
        have : k = 0 := by omega
        subst this
        rw [Nat.zero_mul, List.drop_zero, List.take_of_length_le (by rw [Array.length_toList]; omega)]
        exact h5⟩
      have h10 := chunks_over (k := i) hch h9 (by omega)
      rw [Nat.one_mul, ← h8] at h10
      obtain ⟨f', cells', h11, h12, h13⟩ := parts_wp ht R s h2 (fun p hp => hb p (by simp [hp])) _ c2 (chunks_congr h10 (fun j _ => by
        show _ = if j = i then sg else f j
        by_cases c : j = i
        · rw [if_pos (by omega), if_pos c]
        · rw [if_neg (by omega), if_neg c])) h4
      exact ⟨f', cells', h11, by rw [List.map_cons, h7]; exact h12, h13⟩
    · cases hx
theorem zeros_chunks {i : TypeInfo} {z : Value} {s : Segs} (hf : flatEq s z.cells.toList = true) (hsz : z.cells.size = i.size) (m : Nat) : Chunks ρ i.size m (fun _ => s) ((Array.range (m * i.size)).map (z.cells[· % z.cells.size]!)).toList := by
  have := madeCells_eq z.cells m
  rw [hsz] at this
  unfold madeCells at this
  rw [hsz] at this ⊢
  rw [this]
  exact chunks_const (flatEq_spec hf ρ) (by simp [hsz])
theorem buildSl_sound (ty : TypeId) (m : Nat) (X : Array (Nat × Operand)) (o : Oper) (ho : o.op = .buildSlice ty m X) (e : TypeId) (i : TypeInfo) (z : Value) (s : Segs) (hd : P.underlying ty = some (.slice e)) (hi : P.info? e = some i) (hz : i.zero = some z) (hf : flatEq s z.cells.toList = true) (hsz : z.cells.size = i.size) (hm : m * i.size ≤ 16777216) (h0 : i.size ≠ 0) (hb : ∀ p ∈ X.toList, p.1 < m) {x : List (Nat × LOpd)} (hx : compileParts X.toList = some x) (hs : Sim T w0 ρ h w) (ht : TSim ρ t a) (hn : ρ n = none) (hh : hget h n = none)
    (hw : (partsRd i.size x (fun _ => s) fun f => .ret (.slice ⟨n, [], 0⟩ 0 i.size m m (some m)) [] (some ⟨.rows m i.size f .nil, e, false, false⟩)).wp t h Φ) : Res P o a w T w0 ρ h n Φ := by
  obtain ⟨f, cells, h1, h2, h3⟩ := parts_wp ht X.toList x hx hb _ _ (zeros_chunks hf hsz m) hw
  have hl := h3.1
  have hzero : (if m * i.size = 0 then (pure #[] : Sem (Array Value)) else do pure (← zeroValue e).cells).run P w = .ok (if m * i.size = 0 then #[] else z.cells) w := by
    split <;> simp [zeroValue, typeInfo, hi, hz]
  refine Res.new (ob := ⟨.rows m i.size f .nil, e, false, false⟩) (c := cells) (l := cells.toList) (ex := []) (x := .slice (some ⟨w.heap.size, 0, none⟩) m m) hs hn hh (.inl rfl) rfl (by simp) (chunks_rows h3) (fun _ => rfl) (unfrozen0 _) h1 ?_ ?_
  · have e1 : ((X.map fun (i, x) => (i, a.eval x)).toList) = X.toList.map fun (i, x) => (i, a.eval x) := by simp
    unfold execOp
    simp only [ho, Instr.buildSlice, Sem.run_bind, run_underlying hd, Result.andThen_ok, sizeOf, typeInfo, run_program, hi, Sem.run_pure]
    rw [if_neg (by omega)]
    simp only [Sem.run_bind, hzero, Result.andThen_ok, e1]
    by_cases hm0 : m * i.size = 0
    · have hm1 : m = 0 := by
        rcases Nat.eq_zero_or_pos m with c | c
        · exact c
        · have := Nat.mul_pos c (Nat.pos_of_ne_zero h0); omega
      subst hm1
      have hX : X.toList = [] := by
        cases hq : X.toList with
        | nil => rfl
        | cons p r => exact absurd (hb p (by rw [hq]; simp)) (by omega)
      have hc : cells = #[] := by
        have : cells.toList = [] := List.eq_nil_of_length_eq_zero (by rw [hl]; simp)
        simpa using this
      subst hc
      have e9 : ∀ g : Nat → Value, Array.map g (Array.range 0) = #[] := fun g => by simp
      simp [hX, Instr.fill, newRow, e9]
    · rw [if_neg hm0]
      have hz2 : (zeroValue e).run P w = .ok z w := by simp [zeroValue, typeInfo, hi, hz]
      simp only [Sem.run_bind, hz2, Result.andThen_ok, Sem.run_pure, h2]
      simp [newRow]
  · refine ⟨_, _, rfl, .inr ⟨w.heap.size, 0, (cells.toList ++ []).length, by simp [Pl.put], by simp [LAddr.cell, pathSum], Nat.le_refl _, Nat.le_refl _, fun x hx => by cases hx; exact Nat.le_refl _, ?_⟩⟩
    simp only [LAddr.cell, pathSum, List.append_nil, hl, Nat.zero_add]
    exact Nat.le_refl _
theorem buildArr_sound (ty : TypeId) (m : Nat) (X : Array (Nat × Operand)) (o : Oper) (ho : o.op = .build ty X) (e : TypeId) (i it : TypeInfo) (z zt : Value) (s : Segs) (hd : P.underlying ty = some (.array m e)) (hi : P.info? e = some i) (hz : i.zero = some z) (hf : flatEq s z.cells.toList = true) (hsz : z.cells.size = i.size) (hit : P.info? ty = some it) (hzt : it.zero = some zt) (hft : flatEq (.rows m i.size (fun _ => s) .nil) zt.cells.toList = true) (hb : ∀ p ∈ X.toList, p.1 < m) {x : List (Nat × LOpd)} (hx : compileParts X.toList = some x) (hs : Sim T w0 ρ h w) (ht : TSim ρ t a)
    (hw : (partsRd i.size x (fun _ => s) fun f => one (.agg (.rows m i.size f .nil))).wp t h Φ) : Res P o a w T w0 ρ h n Φ := by
  obtain ⟨l1, l2, e1, h3, h4⟩ := rows_chunks (flatEq_spec hft ρ)
  have h4 : l2 = [] := h4
  subst h4
  rw [List.append_nil] at e1
  rw [← e1] at h3
  obtain ⟨f, cells, h1, h2, h5⟩ := parts_wp ht X.toList x hx hb _ _ h3 hw
  refine Res.quiet hs h1 (x := .agg cells) ?_ ⟨cells.toList, chunks_rows h5, rfl⟩
  have e1 : ((X.map fun (i, x) => (i, a.eval x)).toList) = X.toList.map fun (i, x) => (i, a.eval x) := by simp
  unfold execOp
  simp [ho, Instr.build, zeroValue, typeInfo, hit, hzt, run_underlying hd, sizeOf, hi, e1, h2]
/-- A struct's parts. -/
def fieldsRd : List (Nat × Nat × LOpd) → Segs → (Segs → Rd) → Rd
  | [], s, K => K s
  | (off, m, x) :: r, s, K => x.rd fun v => cellsK v m fun y => atK s off (fun s1 K1 => skipK s1 m (fun q => appK y q K1) .fail) (fun s' => fieldsRd r s' K) .fail
def compileFields (P : Program) (fs : Array Field) : List (Nat × Operand) → Option (List (Nat × Nat × LOpd))
  | [] => some []
  | (i, x) :: r => match fs[i]? with
    | some f => match P.info? f.type, compileOpd x, compileFields P fs r with
      | some ti, some y, some s => some ((f.offset, ti.size, y) :: s)
      | _, _, _ => none
    | none => none
theorem fields_wp (ht : TSim ρ t a) (fs : Array Field) (places : Array (Nat × Nat)) (hpl : ∀ (i : Nat) (f : Field), fs[i]? = some f → ∀ ti, P.info? f.type = some ti → places[i]? = some (f.offset, ti.size)) : ∀ (X : List (Nat × Operand)) (x : List (Nat × Nat × LOpd)), compileFields P fs X = some x → ∀ (s : Segs) (cells : Array Value) {K : Segs → Rd}, PS ρ s cells.toList → (fieldsRd x s K).wp t h Φ →
    ∃ s' cells', (K s').wp t h Φ ∧ Instr.fill (places[·]?) cells (X.map fun (i, x) => (i, a.eval x)) = some cells' ∧ PS ρ s' cells'.toList
  | [], x, hx, s, cells, K, hp, hw => by
    simp [compileFields] at hx
    subst hx
    exact ⟨s, cells, hw, rfl, hp⟩
  | (i, X) :: R, x, hx, s, cells, K, hp, hw => by
    unfold compileFields at hx
    split at hx
    · rename_i f hf
      split at hx
      · rename_i ti y r h1 h2 h3
        simp at hx
        subst hx
        obtain ⟨v, hv, h4⟩ := opd_wp h2 ht hw
        obtain ⟨sg, h5, h6, h7⟩ := cells_wp hv h4
        obtain ⟨s1, rb, h8, h9⟩ := at_wp _ _ _ h5
        obtain ⟨s2, h10, h11⟩ := skip_wp _ _ h8
        obtain ⟨s3, h12, h13⟩ := app_wp _ _ _ h10
        obtain ⟨b1, b2, e1, e2, e3, e4⟩ := h9 ρ _ hp
        obtain ⟨c1, c2, rfl, e5, e6⟩ := h11 ρ b2 e3
        have hsz : cells.size = b1.length + c1.length + c2.length := by
          rw [← Array.length_toList, e1]; simp; omega
        obtain ⟨cc, h14, h15⟩ := fill_cons (place := (places[·]?)) (cells := cells) (i := i) (rest := R.map fun (i, x) => (i, a.eval x)) (hpl i f hf ti h1) h7 (by omega)
        have h16 := e4 ρ _ _ (Ext.refl ρ) (h13 ρ _ _ h6 e6)
        have h17 : cc.toList = b1 ++ ((a.eval X).cells.toList ++ c2) := by
          rw [h15, e1]
          have := splice (A := b1) (B := c1) (C := c2) (Y := (a.eval X).cells.toList) (by rw [Array.length_toList]; omega) (k := f.offset) e2.symm
          rw [Array.length_toList, h7] at this
          exact this
        rw [← h17] at h16
        obtain ⟨s', cells', h18, h19, h20⟩ := fields_wp ht fs places hpl R r h3 _ cc h16 h12
        exact ⟨s', cells', h18, by rw [List.map_cons, h14]; exact h19, h20⟩
      · cases hx
    · cases hx
theorem buildSt_sound (ty : TypeId) (X : Array (Nat × Operand)) (o : Oper) (ho : o.op = .build ty X) (fs : Array Field) (it : TypeInfo) (zt : Value) (s : Segs) (hd : P.underlying ty = some (.struct fs)) (hit : P.info? ty = some it) (hzt : it.zero = some zt) (hf : flatEq s zt.cells.toList = true) (hall : ∀ f ∈ fs.toList, (P.info? f.type).isSome = true) {x : List (Nat × Nat × LOpd)} (hx : compileFields P fs X.toList = some x) (hs : Sim T w0 ρ h w) (ht : TSim ρ t a)
    (hw : (fieldsRd x s fun s' => one (.agg s')).wp t h Φ) : Res P o a w T w0 ρ h n Φ := by
  have e1 : ((X.map fun (i, x) => (i, a.eval x)).toList) = X.toList.map fun (i, x) => (i, a.eval x) := by simp
  have hmap : ∀ l : List Field, (∀ f ∈ l, (P.info? f.type).isSome = true) → (List.mapM (fun f => do pure (f.offset, ← sizeOf f.type) : Field → Sem (Nat × Nat)) l).run P w = .ok (l.map fun f => (f.offset, ((P.info? f.type).map (·.size)).getD 0)) w := by
    intro l
    induction l with
    | nil => intro _; simp
    | cons f r ih =>
      intro hl
      obtain ⟨ti, hti⟩ := Option.isSome_iff_exists.1 (hl f (by simp))
      have h1 : (do pure (f.offset, ← sizeOf f.type) : Sem (Nat × Nat)).run P w = .ok (f.offset, ti.size) w := by simp [sizeOf, typeInfo, hti]
      rw [List.mapM_cons, Sem.run_bind, h1]
      simp only [Result.andThen_ok, Sem.run_bind, ih (fun g hg => hl g (by simp [hg])), Sem.run_pure]
      simp [hti]
  have hpl : ∀ (i : Nat) (f : Field), fs[i]? = some f → ∀ ti, P.info? f.type = some ti → ((fs.toList.map fun f => (f.offset, ((P.info? f.type).map (·.size)).getD 0)).toArray)[i]? = some (f.offset, ti.size) := by
    intro i f hf ti hti
    simp [hf, hti]
  obtain ⟨s', cells, h1, h2, h3⟩ := fields_wp ht fs _ hpl X.toList x hx s zt.cells (flatEq_spec hf ρ) hw
  refine Res.quiet hs h1 (x := .agg cells) ?_ ⟨cells.toList, h3, rfl⟩
  unfold execOp
  simp only [ho, Instr.build, zeroValue, typeInfo, Sem.run_bind, run_program, Result.andThen_ok, hit, hzt, run_underlying hd, Sem.run_pure, e1]
  rw [Array.mapM_eq_mapM_toList, Sem.run_map, hmap fs.toList hall]
  simp only [Result.andThen_ok]
  rw [h2]
  rfl
/-- Copy. -/
def copyRd (w : Nat) (x y : LVal) : Rd :=
  match x with
  | .slice p st w' len _ _ => srcK w y fun m g _ => match Nat.beq w' 0 with
    | true => match Nat.beq len 0 with
      | true => one (.int .i64 0)
      | false => .fail
    | false => match Nat.beq w w' with
      | false => .fail
      | true => .obj p.blk fun o => match o.ro with
        | true => .fail
        | false => pmodK p.path o.segs (fun s K => atK s p.off (fun s1 K1 => match s1 with
          | .rows k w2 f q => match Nat.beq w w2 with
            | true => .need (st + len ≤ k) (K1 (.rows k w (fun j => if st ≤ j ∧ j < st + min m len then g (j - st) else f j) q))
            | false => .fail
          | _ => .fail) K .fail) fun s' => .ret (.int .i64 ((min m len : Nat) : Int)) [(p.blk, some ⟨s', o.ty, o.more, false⟩)] none
  | _ => .fail
theorem copy_sound (X Y : Operand) (tS tX e : TypeId) (i : TypeInfo) (o : Oper) (ho : o.op = .call ⟨.builtin .copy, #[X, Y], #[tS, tX]⟩) (ht : P.underlying tS = some (.slice e)) (hi : P.info? e = some i)
    (hs : Sim T w0 ρ h w) {v y : LVal} (hv : PV ρ v (a.eval X)) (hy : PV ρ y (a.eval Y)) (hw : (copyRd i.size v y).wp t h Φ) : Res P o a w T w0 ρ h n Φ := by
  cases v <;> try exact hw.elim
  rename_i p st w' len lo hi'
  obtain ⟨q, cap, ex, hc⟩ := hv
  simp only [copyRd] at hw
  obtain ⟨m, g, yb, l, h1, hch, hlen, hfc, _, hyb⟩ := src_wp (P := P) hs hy hw
  have hl := hch.1
  have exec : ∀ {v : Value} {w1 : World}, (Builtin.copy_ #[tS, tX] o.type #[a.eval X, a.eval Y]).run P w = .ok v w1 → (execOp a.eval o).run P w = .ok (.value v) w1 := by
    intro v w1 hr
    unfold execOp
    simp [ho, resolve, invoke, builtin, hr]
  have hfc' := hfc (min m len) (by omega) w rfl
  have none_ : min m len = 0 → (Builtin.copy_ #[tS, tX] o.type #[a.eval X, a.eval Y]).run P w = .ok (.int .i64 0) w := by
    intro h0
    rw [h0, Nat.zero_mul, List.take_zero] at hfc'
    rw [ex]
    cases q <;> simp [Builtin.copy_, run_underlying ht, hlen, h0, sizeOf, typeInfo, hi, hfc', goInt, storeCells, Nat.min_eq_min]
  split at h1
  · split at h1
    · rename_i hb1 hb2
      have hb2 := Nat.eq_of_beq_eq_true hb2
      subst hb2
      exact Res.quiet hs h1 (exec (none_ (by omega))) rfl
    · exact h1.elim
  · split at h1
    · exact h1.elim
    · rename_i hb0 hb1
      have hb1 := Nat.eq_of_beq_eq_true hb1
      subst hb1
      simp only [Rd.wp, hgetK_eq] at h1
      cases hg : hget h p.blk with
      | none => simp [hg] at h1
      | some ob =>
        simp only [hg] at h1
        split at h1
        · exact h1.elim
        rename_i hro
        obtain ⟨s1, rb, h2, h3⟩ := pmod_wp _ _ _ h1
        obtain ⟨s2, rb2, h4, h5⟩ := at_wp _ _ _ h2
        cases s2 <;> try exact h4.elim
        rename_i k w2 f qq
        simp only at h4
        split at h4
        · rename_i hb
          have hb := Nat.eq_of_beq_eq_true hb
          subst hb
          obtain ⟨h6, h8⟩ := h4
          have hsub : Chunks ρ i.size (min m len) g (l.take (min m len * i.size)) := by
            have := chunks_sub (st := 0) (m := min m len) hch (by omega)
            simp only [Nat.zero_mul, List.drop_zero, Nat.zero_add] at this
            exact this
          have h7 : st + min m len ≤ k := by omega
          by_cases h0 : min m len = 0
          · -- nothing is copied
            have hnil : l.take (min m len * i.size) = [] := by rw [h0]; simp
            refine ⟨_, _, _, .int .i64 0, ρ, w, h8, .inl (exec (none_ h0)), Ext.refl ρ, fun _ _ => rfl, by rw [h0]; rfl, ?_⟩
            simp only [applyU, updU]
            rcases hs.obj _ _ hg with ⟨g2, b2, n2, obj, e1, e2, e3, hT⟩ | ⟨e1, e2⟩
            · obtain ⟨pre, lr, exx, fr, rfl, hlr, hmore, hpre, hn2, hfr⟩ := e3
              obtain ⟨x1, x2, x3, rfl, _, f2, f3⟩ := over_PS (at_ := st) (m := min m len) h3 h5 hsub h7 hlr
              rw [hnil] at f2 f3
              have f2 : x2 = [] := List.eq_nil_of_length_eq_zero (by simpa using f2)
              subst f2
              exact hs.turn (o' := ⟨_, ob.ty, ob.more, false⟩) hro rfl hg e1 ⟨pre, _, exx, fr, rfl, f3, hmore, hpre, hn2, fun _ => hfr hro⟩ e2 rfl (fun _ _ => rfl) rfl rfl rfl
            · obtain ⟨x1, x2, x3, f1, _, f2, f3⟩ := over_PS (at_ := st) (m := min m len) h3 h5 hsub h7 (e2.ps hro)
              rw [hnil] at f2 f3
              have f2 : x2 = [] := List.eq_nil_of_length_eq_zero (by simpa using f2)
              subst f2
              have f1 := f1.symm
              rw [f1] at f3
              have := (hs.kill p.blk).empty e1 (by rw [hget_hset, if_pos rfl]) (o := ⟨_, ob.ty, ob.more, false⟩) f3
              rw [hset_hset] at this
              exact this
          · rcases hc with ⟨c1, c2, c3⟩ | ⟨g', b, n', r1, rfl, r2, r3, r4, r5⟩
            · omega
            · rcases hs.obj _ _ hg with ⟨g2, b2, n2, obj, e1, e2, e3, hT⟩ | ⟨e1, _⟩
              · rw [r1] at e1
                cases e1
                obtain ⟨pre, lr, exx, fr, rfl, hlr, hmore, hpre, hn2, hfr⟩ := e3
                obtain ⟨x1, x2, x3, rfl, f1, f2, f3⟩ := over_PS (at_ := st) (m := min m len) h3 h5 hsub h7 hlr
                generalize hlc : l.take (min m len * i.size) = lc at *
                have hone := PS.oneCells _ _ (chunks_rows hsub)
                have hoff : (pre ++ x1).length = b + (p.cell + st * i.size) := by
                  rw [List.length_append, hpre, f1]; simp only [LAddr.cell] <;> omega
                have hC : (pre ++ (x1 ++ (x2 ++ x3)) ++ exx).toArray.toList = (pre ++ x1) ++ (x2 ++ (x3 ++ exx)) := by simp
                have hCs : (pre ++ (x1 ++ (x2 ++ x3)) ++ exx).toArray.size = (pre ++ x1).length + x2.length + x3.length + exx.length := by simp; omega
                obtain ⟨k1, k2, k3, k4, k5, k6⟩ := setCells_heap g' lc w (b + (p.cell + st * i.size)) _ _ _ e2 (by rw [hCs, hoff]; omega)
                rw [hC, splice f2.symm hoff.symm] at k1
                have hth : ∀ j, j < lc.length → (w.cell? ⟨g', b + (p.cell + st * i.size) + 0 + j, none⟩).isSome = true ∧ w.frozen? ⟨g', b + (p.cell + st * i.size) + 0 + j, none⟩ = false := by
                  intro j hj
                  have hj2 : b + (p.cell + st * i.size) + 0 + j < (pre ++ (x1 ++ (x2 ++ x3)) ++ exx).toArray.size := by rw [hCs, hoff]; omega
                  refine ⟨?_, unfrozen_at e2 (by simpa using hfr hro) hj2⟩
                  rw [cell_of_row w g' _ _ _ _ e2, Array.getElem?_eq_getElem hj2]
                  rfl
                have hst := run_storeCells_cells (P := P) g' (b + (p.cell + st * i.size)) lc 0 w (fun j hj => (hth j hj).1) (fun j hj => (hth j hj).2) hone
                simp only [Nat.add_zero] at hst
                refine ⟨_, _, _, .int .i64 ((min m len : Nat) : Int), ρ, _, h8, .inl (exec (w1 := w.setCells g' (b + (p.cell + st * i.size)) lc) ?_), Ext.refl ρ, fun _ _ => rfl, rfl, ?_⟩
                · rw [ex]
                  simp [Builtin.copy_, run_underlying ht, hlen, sizeOf, typeInfo, hi, Nat.min_eq_min, hfc', goInt, hst]
                · simp only [applyU, updU]
                  refine hs.turn hro rfl hg r1 ?_ k1 k2 k3 k4 k5 k6
                  refine ⟨pre, x1 ++ (lc ++ x3), exx, fr, by simp, f3, hmore, hpre, ?_, ?_⟩
                  · rw [hn2]; simp [f2]
                  · exact fun _ => ⟨fun y hy' => (hfr hro).1 y (by simp only [List.length_append, f2] at hy' ⊢; omega), (hfr hro).2⟩
              · rw [r1] at e1; cases e1
        · exact h4.elim
/-- Bytes as a string. -/
def segInt : Segs → Int
  | .one (.int _ n) _ => n
  | _ => 0
def isByte : Segs → Bool
  | .one (.int k _) .nil => kEq k .u8
  | _ => false
def bytesOf (g : Nat → Segs) (m : Nat) : ByteArray := ⟨((List.range m).map fun i => UInt8.ofNat (segInt (g i)).toNat).toArray⟩
def toStrRd (y : LVal) : Rd :=
  match y with
  | .slice p st w' len lo hi => srcK 1 (.slice p st w' len lo hi) fun m g _ => .need (∀ i, i < m → isByte (g i) = true) (one (.str (bytesOf g m)))
  | .rsl n w f => srcK 1 (.rsl n w f) fun m g _ => .need (∀ i, i < m → isByte (g i) = true) (one (.str (bytesOf g m)))
  | _ => .fail
theorem toStr_sound (src dst : TypeId) (X : Operand) (o : Oper) (ho : o.op = .convert src dst X) (e : TypeId) (h1 : P.underlying src = some (.slice e)) (h2 : P.underlying dst = some .string) (h3 : P.underlying e = some (.int .u8)) (hs : Sim T w0 ρ h w) {v : LVal} (hv : PV ρ v (a.eval X)) (hw : (toStrRd v).wp t h Φ) : Res P o a w T w0 ρ h n Φ := by
  obtain ⟨q, len, cap, ex, hc, hw⟩ : ∃ q len cap, a.eval X = .slice q len cap ∧ (q = none → len = 0) ∧ (srcK 1 v fun m g _ => .need (∀ i, i < m → isByte (g i) = true) (one (.str (bytesOf g m)))).wp t h Φ := by
    cases v <;> try exact hw.elim
    · obtain ⟨q, cap, ex, hc⟩ := hv
      refine ⟨q, _, cap, ex, fun hq => ?_, hw⟩
      rcases hc with ⟨c1, _, _⟩ | ⟨_, _, _, _, c, _⟩
      · exact c1
      · rw [hq] at c; cases c
    · obtain ⟨q, cap, ex, _, hc⟩ := hv
      refine ⟨q, _, cap, ex, fun hq => ?_, hw⟩
      rcases hc with c1 | ⟨_, _, _, c, _⟩
      · exact c1
      · rw [hq] at c; cases c
  obtain ⟨m, g, yb, l, h4, hch, hlen, hfc, _, hyb⟩ := src_wp (P := P) hs hv hw
  obtain ⟨hb, h5⟩ := h4
  have hm : len = m := by
    have := hlen w
    rw [ex] at this
    simpa [Builtin.lenOf] using this
  subst hm
  have hl := hch.1
  rw [Nat.mul_one] at hl
  have hall := hfc len (Nat.le_refl _) w rfl
  rw [ex, Nat.mul_one, List.take_of_length_le (by omega)] at hall
  -- each cell is a byte
  have hlist : l = ((List.range len).map fun i => segInt (g i)).map (Value.int .u8) := by
    apply List.ext_getElem?
    intro i
    rw [List.getElem?_map, List.getElem?_map]
    by_cases hi : i < len
    · rw [List.getElem?_range hi]
      have h6 := hch.2 i hi
      have h7 := hb i hi
      cases hgi : g i with
      | nil => rw [hgi] at h7; cases h7
      | res A => rw [hgi] at h7; cases h7
      | rows a b c d => rw [hgi] at h7; cases h7
      | one u r =>
        rw [hgi] at h7 h6
        cases u <;> try (cases h7; done)
        rename_i kk k
        cases r <;> try (cases h7; done)
        have hk := kEq_spec h7
        subst hk
        obtain ⟨x, l', e1, e2, _, e3⟩ := h6
        have e2 : x = .int .u8 k := e2
        subst e2
        have := congrArg (fun z => z[0]?) e1
        simp only [List.getElem?_cons_zero, List.getElem?_take, Nat.lt_one_iff, if_pos, List.getElem?_drop, Nat.mul_one, Nat.add_zero] at this
        simpa [segInt, hgi] using this
    · rw [List.getElem?_eq_none (by omega), List.getElem?_eq_none (by simpa using hi)]
      rfl
  refine Res.quiet hs h5 (x := .string (bytesOf g len)) ?_ rfl
  have hconv : (Conv.bytesToString (.slice q len cap)).run P w = .ok (.string (bytesOf g len)) w := by
    cases q with
    | none =>
      have c1 := hc rfl
      subst c1
      simp [Conv.bytesToString, bytesOf]
      rfl
    | some p =>
      have hall' : (loadCells p len).run P w = .ok l.toArray w := by
        simpa [Builtin.firstCells] using hall
      rw [hlist] at hall'
      rw [run_bytesToString w p len cap _ hall', foldl_push_bytes]
      congr 2
      unfold bytesOf
      congr 1
      show (#[] : Array UInt8) ++ _ = _
      simp
  unfold execOp
  simp only [ho, ex, convert, run_underlying h1, run_underlying h2, run_underlying h3, Sem.run_bind, Result.andThen_ok, hconv, Sem.run_pure]
/-- A string as bytes. -/
def toBytesRd (n : Nat) (e : TypeId) : LVal → Rd
  | .str s => .ret (.slice ⟨n, [], 0⟩ 0 1 s.size s.size none) [] (some ⟨.rows s.size 1 (byteSeg s) .nil, e, true, false⟩)
  | _ => .fail
theorem toBytes_sound (src dst : TypeId) (X : Operand) (o : Oper) (ho : o.op = .convert src dst X) (e : TypeId) (h1 : P.underlying src = some .string) (h2 : P.underlying dst = some (.slice e)) (h3 : P.underlying e = some (.int .u8)) (hs : Sim T w0 ρ h w) (hn : ρ n = none) (hh : hget h n = none) {v : LVal} (hv : PV ρ v (a.eval X)) (hw : (toBytesRd n e v).wp t h Φ) : Res P o a w T w0 ρ h n Φ := by
  cases v <;> try exact hw.elim
  rename_i s
  have ex : a.eval X = .string s := hv
  have hch : Chunks ρ 1 s.size (byteSeg s) (s.data.toList.map fun b => Value.int .u8 b.toNat) := by
    refine ⟨by simp, fun i hi => ?_⟩
    have hi' : i < s.data.toList.length := by simpa using hi
    rw [Nat.mul_one, List.drop_eq_getElem_cons (by simpa using hi'), List.take_succ_cons, List.take_zero]
    refine ⟨_, [], rfl, ?_, by rw [List.getElem_map]; rfl, rfl⟩
    show _ = _
    rw [List.getElem_map, List.getD_eq_getElem?_getD, List.getElem?_eq_getElem hi']
    rfl
  generalize hc : (Question.appendCap s.size 0 e).cut (w.tape w.drawn (.appendCap s.size 0 e)) = c
  have hcs : s.size ≤ c := by rw [← hc]; exact grownCap_ge w s.size 0 e
  have hcells : (s.data.map (fun b => Value.int .u8 b.toNat) ++ Array.replicate (c - s.size) (Value.int .u8 0)) = ((s.data.toList.map fun b => Value.int .u8 b.toNat) ++ List.replicate (c - s.size) (Value.int .u8 0)).toArray := by
    apply Array.ext'
    simp
  have hsz : ((s.data.toList.map fun b => Value.int .u8 b.toNat) ++ List.replicate (c - s.size) (Value.int .u8 0)).length = c := by
    simp; omega
  refine Res.new (ob := ⟨.rows s.size 1 (byteSeg s) .nil, e, true, false⟩) (c := ((s.data.toList.map fun b => Value.int .u8 b.toNat) ++ List.replicate (c - s.size) (Value.int .u8 0)).toArray) (fr := (c, c + 1)) (x := .slice (some ⟨w.heap.size, 0, none⟩) s.size c) hs hn hh (.inr rfl) rfl rfl (chunks_rows hch) (fun x => by cases x) ?_ hw ?_ ?_
  · refine ⟨fun i hi => ?_, Nat.le_succ _⟩
    rw [hsz] at hi
    omega
  · unfold execOp
    simp only [ho, ex, convert, run_underlying h1, run_underlying h2, run_underlying h3, Sem.run_bind, Result.andThen_ok, Conv.stringToBytes, run_choose]
    rw [if_neg (by simp [Question.forced])]
    simp only [Result.andThen_ok, hc, hcells, newRow, Sem.run_bind, run_newObj, Sem.run_pure, markStringish, run_shape]
    have hshape : ({ w with drawn := w.drawn + 1, heap := w.heap.push (Obj.cells ((s.data.toList.map fun b => Value.int .u8 b.toNat) ++ List.replicate (c - s.size) (Value.int .u8 0)).toArray e) } : World).shape? w.heap.size = some (e, c) := by
      simp only [World.shape?, Array.getElem?_push_size, List.size_toArray, hsz]
    simp only [hshape, run_freeze, Result.andThen_ok, Sem.run_pure, Sem.run_bind]
    congr 1
    unfold World.freeze World.alloc World.drew
    rw [if_neg (by decide)]
    congr 1
    apply Array.ext_getElem?
    intro i
    rw [Array.getElem?_modify, Array.getElem?_push, Array.getElem?_push]
    by_cases ci : w.heap.size = i
    · subst ci
      simp
    · rw [if_neg ci, if_neg (fun e => ci e.symm), if_neg (fun e => ci e.symm)]
  · refine ⟨_, _, rfl, .inr ⟨w.heap.size, 0, _, by simp only [Pl.put, if_pos]; rfl, by simp [LAddr.cell, pathSum], Nat.le_refl _, hcs, (fun x hx => by cases hx), ?_⟩⟩
    rw [hsz]
    simp [LAddr.cell, pathSum]
end
end Go.Proofs.Ytilmfhpoiejmfaa.Lh

/- Equality of truths, pointers and nil, structs of scalars, arrays of integers. Over any program. -/
namespace Go.Proofs.Ytilmfhpoiejmfaa.Lh
set_option linter.unusedSimpArgs false
set_option linter.unusedVariables false
set_option linter.unusedSectionVars false
open Go.RowKit
variable [Fz]
def negB (neg b : Bool) : Bool :=
  match neg with
  | true => !b
  | false => b
def eqOp (neg : Bool) : BinOp := if neg then .neq else .eql
section
variable {T : Nat → Nat → Prop} {w0 : World} {ρ : Pl} {h : LHeap} {w : World} {t : List LVal} {a : Act} {Φ : LVal → List (Nat × Option LObj) → Option LObj → Prop} {P : Program} {n : Nat}
/-- The run of an equality, of what the values' equality comes to. -/
theorem eq_exec {neg : Bool} {o : Oper} {xT yT : TypeId} {X Y : Operand} (ho : o.op = .binOp (eqOp neg) xT X Y yT) {b : Bool} (hg : (eqGuard (eqOp neg) xT X Y (a.eval X) (a.eval Y)).run P w = .ok () w) (hb : (Op.equal xT (a.eval X) (a.eval Y)).run P w = .ok b w)
    (hs1 : ∀ op, op = .eql ∨ op = .neq → binOp op xT (a.eval X) (a.eval Y) = (match op with | .eql => (do pure (.bool (← Op.equal xT (a.eval X) (a.eval Y)))) | _ => (do pure (.bool (!(← Op.equal xT (a.eval X) (a.eval Y))))))) :
    (execOp a.eval o).run P w = .ok (.value (.bool (negB neg b))) w := by
  unfold execOp
  simp only [ho, Sem.run_bind, hg, Result.andThen_ok]
  cases neg
  · rw [show eqOp false = .eql from rfl, hs1 .eql (.inl rfl)]
    simp [hb, negB]
  · rw [show eqOp true = .neq from rfl, hs1 .neq (.inr rfl)]
    simp [hb, negB]
def beqRd (neg : Bool) : LVal → LVal → Rd
  | .bool x, .bool y => match neg with
    | true => one (.bool (!(x == y)))
    | false => one (.bool (x == y))
  | _, _ => .fail
theorem beq_sound (neg : Bool) (xT yT : TypeId) (X Y : Operand) (o : Oper) (ho : o.op = .binOp (eqOp neg) xT X Y yT) (hd : P.underlying xT = some .bool) (hs : Sim T w0 ρ h w) {vx vy : LVal} (hx : PV ρ vx (a.eval X)) (hy : PV ρ vy (a.eval Y)) (hw : (beqRd neg vx vy).wp t h Φ) : Res P o a w T w0 ρ h n Φ := by
  cases vx <;> try exact hw.elim
  cases vy <;> try exact hw.elim
  rename_i x y
  have ex : a.eval X = .bool x := hx
  have ey : a.eval Y = .bool y := hy
  have hr : (execOp a.eval o).run P w = .ok (.value (.bool (negB neg (x == y)))) w := by
    refine eq_exec ho ?_ ?_ ?_
    · rw [ex, ey]; cases neg <;> rfl
    · rw [ex, ey]; exact run_equalIn_bool' w 9999 xT x y hd
    · rw [ex, ey]; rintro op (rfl | rfl) <;> rfl
  cases neg
  · exact Res.quiet hs hw hr rfl
  · exact Res.quiet hs hw hr rfl
theorem equalIn_ptr (d : Nat) {t e : TypeId} (h : P.underlying t = some (.pointer e)) {y : Option Addr} {w : World} : (Op.equalIn (d + 1) t (.pointer none) (.pointer y)).run P w = .ok y.isNone w := by
  simp only [Op.equalIn, Sem.run_bind, run_underlying h, Result.andThen_ok]
  rfl
theorem equalIn_ptr' (d : Nat) {t e : TypeId} (h : P.underlying t = some (.pointer e)) {x : Addr} {w : World} : (Op.equalIn (d + 1) t (.pointer (some x)) (.pointer none)).run P w = .ok false w := by
  simp only [Op.equalIn, Sem.run_bind, run_underlying h, Result.andThen_ok]
  rfl
def peqRd (neg : Bool) : LVal → LVal → Rd
  | .nilp, .nilp => one (.bool (negB neg true))
  | .nilp, .ptr _ => one (.bool (negB neg false))
  | .ptr _, .nilp => one (.bool (negB neg false))
  | .nilp, .tok _ => one (.bool (negB neg false))
  | .tok _, .nilp => one (.bool (negB neg false))
  | _, _ => .fail
theorem peq_sound (neg : Bool) (xT yT e : TypeId) (X Y : Operand) (o : Oper) (ho : o.op = .binOp (eqOp neg) xT X Y yT) (hd : P.underlying xT = some (.pointer e)) (hs : Sim T w0 ρ h w) {vx vy : LVal} (hx : PV ρ vx (a.eval X)) (hy : PV ρ vy (a.eval Y)) (hw : (peqRd neg vx vy).wp t h Φ) : Res P o a w T w0 ρ h n Φ := by
  unfold peqRd at hw
  split at hw
  · have ex : a.eval X = .pointer none := hx
    have ey : a.eval Y = .pointer none := hy
    refine Res.quiet hs hw (eq_exec (b := true) ho ?_ ?_ ?_) rfl
    · rw [ex, ey]; cases neg <;> rfl
    · rw [ex, ey, show ∀ x y, Op.equal xT x y = Op.equalIn (9999 + 1) xT x y from fun _ _ => rfl]; rw [equalIn_ptr _ hd]; rfl
    · rw [ex, ey]; rintro op (rfl | rfl) <;> rfl
  · have ex : a.eval X = .pointer none := hx
    obtain ⟨g, b, m, hp, ey⟩ := hy
    refine Res.quiet hs hw (eq_exec (b := false) ho ?_ ?_ ?_) rfl
    · rw [ex, ey]; cases neg <;> rfl
    · rw [ex, ey, show ∀ x y, Op.equal xT x y = Op.equalIn (9999 + 1) xT x y from fun _ _ => rfl]; rw [equalIn_ptr _ hd]; rfl
    · rw [ex, ey]; rintro op (rfl | rfl) <;> rfl
  · have ey : a.eval Y = .pointer none := hy
    obtain ⟨g, b, m, hp, ex⟩ := hx
    refine Res.quiet hs hw (eq_exec (b := false) ho ?_ ?_ ?_) rfl
    · rw [ex, ey]; cases neg <;> rfl
    · rw [ex, ey, show ∀ x y, Op.equal xT x y = Op.equalIn (9999 + 1) xT x y from fun _ _ => rfl]; rw [equalIn_ptr' _ hd]
    · rw [ex, ey]; rintro op (rfl | rfl) <;> rfl
  · have ex : a.eval X = .pointer none := hx
    obtain ⟨g, hp, ey⟩ := hy
    refine Res.quiet hs hw (eq_exec (b := false) ho ?_ ?_ ?_) rfl
    · rw [ex, ey]; cases neg <;> rfl
    · rw [ex, ey, show ∀ x y, Op.equal xT x y = Op.equalIn (9999 + 1) xT x y from fun _ _ => rfl]; rw [equalIn_ptr _ hd]; rfl
    · rw [ex, ey]; rintro op (rfl | rfl) <;> rfl
  · have ey : a.eval Y = .pointer none := hy
    obtain ⟨g, hp, ex⟩ := hx
    refine Res.quiet hs hw (eq_exec (b := false) ho ?_ ?_ ?_) rfl
    · rw [ex, ey]; cases neg <;> rfl
    · rw [ex, ey, show ∀ x y, Op.equal xT x y = Op.equalIn (9999 + 1) xT x y from fun _ _ => rfl]; rw [equalIn_ptr' _ hd]
    · rw [ex, ey]; rintro op (rfl | rfl) <;> rfl
  · exact hw.elim
/-- Two scalars' equality. -/
def scEq : LVal → LVal → (Bool → Rd) → Rd
  | .int k a, .int k' b, K => match kEq k k' with
    | true => K (a == b)
    | false => .fail
  | .str a, .str b, K => K (a == b)
  | .bool a, .bool b, K => K (a == b)
  | _, _, _ => .fail
theorem scEq_wp {v u : LVal} {x y : Value} {K : Bool → Rd} (hv : PV ρ v x) (hu : PV ρ u y) (hw : (scEq v u K).wp t h Φ) : ∃ b, (K b).wp t h Φ ∧ ∀ (d : Nat) (f : TypeId), (P.underlying f = some .string ∨ P.underlying f = some .bool ∨ ∃ k, P.underlying f = some (.int k)) → (∀ k, P.underlying f = some (.int k) → ∃ k' n, v = .int k' n) → (P.underlying f = some .string → ∃ s, v = .str s) → (P.underlying f = some .bool → ∃ s, v = .bool s) → (Op.equalIn (d + 1) f x y).run P w = .ok b w := by
  cases v <;> try exact hw.elim
  · cases u <;> try exact hw.elim
    rename_i a b
    have ex : x = .bool a := hv
    have ey : y = .bool b := hu
    subst ex ey
    refine ⟨_, hw, fun d f h1 h2 h3 h4 => ?_⟩
    rcases h1 with h1 | h1 | ⟨k2, h1⟩
    · obtain ⟨s, e⟩ := h3 h1; cases e
    · exact run_equalIn_bool' w d f a b h1
    · obtain ⟨_, _, e⟩ := h2 _ h1; cases e
  · cases u <;> try exact hw.elim
    rename_i k a k' b
    simp only [scEq] at hw
    split at hw
    · rename_i hk
      have := kEq_spec hk
      subst this
      have ex : x = .int k a := hv
      have ey : y = .int k b := hu
      subst ex ey
      refine ⟨_, hw, fun d f h1 h2 h3 h4 => ?_⟩
      rcases h1 with h1 | h1 | ⟨k2, h1⟩
      · obtain ⟨s, e⟩ := h3 h1; cases e
      · obtain ⟨s, e⟩ := h4 h1; cases e
      · exact run_equalIn_int w d f k k2 a b h1
    · exact hw.elim
  · cases u <;> try exact hw.elim
    rename_i a b
    have ex : x = .string a := hv
    have ey : y = .string b := hu
    subst ex ey
    refine ⟨_, hw, fun d f h1 h2 h3 h4 => ?_⟩
    rcases h1 with h1 | h1 | ⟨k2, h1⟩
    · rw [run_equalIn_string w d f a b h1, beq_toListBytes]
    · obtain ⟨s, e⟩ := h4 h1; cases e
    · obtain ⟨_, _, e⟩ := h2 _ h1; cases e
/-- A scalar's kind: 0 an integer, 1 a string, 2 a truth. -/
def kindOk (c : Nat) : LVal → Bool
  | .int _ _ => Nat.beq c 0
  | .str _ => Nat.beq c 1
  | .bool _ => Nat.beq c 2
  | _ => false
def steqK : List (Nat × Nat) → Segs → Segs → (Bool → Rd) → Rd
  | [], _, _, K => K true
  | (off, c) :: r, s1, s2, K => skipK s1 off (fun x => skipK s2 off (fun y => match x, y with
    | .one u _, .one v _ => match kindOk c u with
      | true => scEq u v fun b => steqK r s1 s2 fun b' => K (b && b')
      | false => .fail
    | _, _ => .fail) .fail) .fail
def fieldsEq (P : Program) : List Field → Option (List (Nat × Nat))
  | [] => some []
  | f :: r => match f.name == "_" with
    | true => none
    | false => withO (fieldsEq P r) fun s => match P.underlying f.type with
      | some (.int _) => some ((f.offset, 0) :: s)
      | some .string => some ((f.offset, 1) :: s)
      | some .bool => some ((f.offset, 2) :: s)
      | _ => none
theorem part_sc {f : TypeId} {d : TypeDesc} (hd : P.underlying f = some d) (hr : d.isRow = false) {cs : Array Value} {off : Nat} {v : Value} (hv : cs[off]? = some v) (w : World) : (part f cs off).run P w = .ok v w := by
  have hagg : (isAgg f).run P w = .ok false w := by
    unfold isAgg
    rw [Sem.run_bind, run_underlying hd w]
    cases d <;> simp_all
  simp [part, Sem.run_bind, hagg, hv]
theorem steq_wp {s1 s2 : Segs} {l1 l2 : List Value} (h1 : PS ρ s1 l1) (h2 : PS ρ s2 l2) : ∀ (fs : List Field) (r : List (Nat × Nat)), fieldsEq P fs = some r → ∀ {K : Bool → Rd}, (steqK r s1 s2 K).wp t h Φ → ∃ b, (K b).wp t h Φ ∧ ∀ d : Nat, (Op.eqFields (d + 1) l1.toArray l2.toArray fs).run P w = .ok b w
  | [], r, hr, K, hw => by
    simp [fieldsEq] at hr
    subst hr
    exact ⟨true, hw, fun d => rfl⟩
  | f :: fs, r, hr, K, hw => by
    unfold fieldsEq at hr
    split at hr
    · cases hr
    · rename_i hname
      have hname : f.name ≠ "_" := by simpa using hname
      obtain ⟨s, hs, hr⟩ := withO_some hr
      have main : ∀ c, r = (f.offset, c) :: s → (∃ d, P.underlying f.type = some d ∧ d.isRow = false) → (P.underlying f.type = some .string ∨ P.underlying f.type = some .bool ∨ ∃ k, P.underlying f.type = some (.int k)) → (∀ v, kindOk c v = true → (∀ k, P.underlying f.type = some (.int k) → ∃ k' n, v = .int k' n) ∧ (P.underlying f.type = some .string → ∃ s, v = .str s) ∧ (P.underlying f.type = some .bool → ∃ s, v = .bool s)) → ∃ b, (K b).wp t h Φ ∧ ∀ d : Nat, (Op.eqFields (d + 1) l1.toArray l2.toArray (f :: fs)).run P w = .ok b w := by
        intro c hrc ⟨d0, hd0, hd1⟩ hk hok
        subst hrc
        obtain ⟨a1, q1, q2⟩ := skip_wp _ _ hw
        obtain ⟨a2, q3, q4⟩ := skip_wp _ _ q1
        cases a1 <;> try exact q3.elim
        cases a2 <;> try exact q3.elim
        rename_i u r1 v r2
        simp only at q3
        split at q3
        · rename_i hkind
          obtain ⟨x1, y1, rfl, e1, e2⟩ := q2 ρ l1 h1
          obtain ⟨x2, y2, rfl, e3, e4⟩ := q4 ρ l2 h2
          obtain ⟨xv, l', rfl, p1, _, _⟩ := e2
          obtain ⟨yv, l'', rfl, p2, _, _⟩ := e4
          obtain ⟨b, p3, p4⟩ := scEq_wp (P := P) (w := w) p1 p2 q3
          obtain ⟨b', p5, p6⟩ := steq_wp h1 h2 fs s hs p3
          refine ⟨b && b', p5, fun d => ?_⟩
          obtain ⟨o1, o2, o3⟩ := hok u hkind
          have g1 : ((x1 ++ xv :: l').toArray)[f.offset]? = some xv := by simp [← e1]
          have g2 : ((x2 ++ yv :: l'').toArray)[f.offset]? = some yv := by simp [← e3]
          simp only [Op.eqFields, if_pos hname, Sem.run_bind, part_sc hd0 hd1 g1, part_sc hd0 hd1 g2, Result.andThen_ok, p4 d f.type hk o1 o2 o3]
          cases b
          · simp
          · simp only [Bool.not_true, Bool.false_eq_true, if_false, Bool.true_and]
            exact p6 d
        · exact q3.elim
      split at hr
      · rename_i k hd
        cases hr
        refine main 0 rfl ⟨_, hd, rfl⟩ (.inr (.inr ⟨_, hd⟩)) (fun v hv => ?_)
        cases v <;> first | (simp [kindOk] at hv; done) | exact ⟨fun _ _ => ⟨_, _, rfl⟩, fun e => by (rw [hd] at e; cases e), fun e => by (rw [hd] at e; cases e)⟩ | (exact absurd hv (by decide))
      · rename_i hd
        cases hr
        refine main 1 rfl ⟨_, hd, rfl⟩ (.inl hd) (fun v hv => ?_)
        cases v <;> first | (simp [kindOk] at hv; done) | exact ⟨fun _ e => by (rw [hd] at e; cases e), fun _ => ⟨_, rfl⟩, fun e => by (rw [hd] at e; cases e)⟩ | (exact absurd hv (by decide))
      · rename_i hd
        cases hr
        refine main 2 rfl ⟨_, hd, rfl⟩ (.inr (.inl hd)) (fun v hv => ?_)
        cases v <;> first | (simp [kindOk] at hv; done) | exact ⟨fun _ e => by (rw [hd] at e; cases e), fun e => by (rw [hd] at e; cases e), fun _ => ⟨_, rfl⟩⟩ | (exact absurd hv (by decide))
      · cases hr
def stRd (neg : Bool) (r : List (Nat × Nat)) : LVal → LVal → Rd
  | .agg s1, .agg s2 => steqK r s1 s2 fun b => match neg with
    | true => one (.bool (!b))
    | false => one (.bool b)
  | _, _ => .fail
theorem st_sound (neg : Bool) (xT yT : TypeId) (X Y : Operand) (o : Oper) (ho : o.op = .binOp (eqOp neg) xT X Y yT) (hd : P.underlying xT = some (.struct (P.fieldsOf xT))) (hp : P.stoodInHeld xT = false) (hm : P.eqGuardType P.depth xT = false) {r : List (Nat × Nat)} (hr : fieldsEq P (P.fieldsOf xT).toList = some r) (hs : Sim T w0 ρ h w) {vx vy : LVal} (hx : PV ρ vx (a.eval X)) (hy : PV ρ vy (a.eval Y)) (hw : (stRd neg r vx vy).wp t h Φ) : Res P o a w T w0 ρ h n Φ := by
  cases vx <;> try exact hw.elim
  cases vy <;> try exact hw.elim
  obtain ⟨l1, p1, ex⟩ := hx
  obtain ⟨l2, p2, ey⟩ := hy
  obtain ⟨b, hb, hrun⟩ := steq_wp (P := P) (w := w) p1 p2 _ r hr hw
  have hexec : (execOp a.eval o).run P w = .ok (.value (.bool (negB neg b))) w := by
    refine eq_exec ho ?_ ?_ ?_
    · rw [ex, ey]; exact run_eqGuard_agg w _ xT X Y _ _ hm
    · rw [ex, ey]
      have := run_equalIn_struct w 9999 xT l1.toArray l2.toArray hd hp
      rw [hrun 9998] at this
      exact this
    · rw [ex, ey]; rintro op (rfl | rfl) <;> rfl
  cases neg
  · exact Res.quiet hs hb hexec rfl
  · exact Res.quiet hs hb hexec rfl
/-- Arrays of integers. -/
def arEq (m : Nat) (f g : Nat → Segs) : Bool := (List.range m).all fun i => segInt (f i) == segInt (g i)
def isIntK (k : IntKind) : Segs → Bool
  | .one (.int k' _) .nil => kEq k' k
  | _ => false
def arRd (neg : Bool) (m : Nat) (k : IntKind) : LVal → LVal → Rd
  | .agg s1, .agg s2 => match s1, s2 with
    | .rows m1 w1 f .nil, .rows m2 w2 g .nil => match Nat.beq m m1, Nat.beq m m2, Nat.beq w1 1, Nat.beq w2 1 with
      | true, true, true, true => .need ((∀ i, i < m → isIntK k (f i) = true) ∧ ∀ i, i < m → isIntK k (g i) = true) (match neg with
        | true => one (.bool (!arEq m f g))
        | false => one (.bool (arEq m f g)))
      | _, _, _, _ => .fail
    | _, _ => .fail
  | _, _ => .fail
theorem eqItems_run (d : Nat) {e : TypeId} {k : IntKind} (he : P.underlying e = some (.int k)) (hc : P.cellsOf e = 1) (xs ys : Array Value) (F G : Nat → Int) (m : Nat) (hx : ∀ i, i < m → ∃ k', xs[i]? = some (.int k' (F i)) ∧ ys[i]? = some (.int k' (G i))) : ∀ (c s : Nat), s + c ≤ m →
    (Op.eqItems (d + 1) e (P.cellsOf e) xs ys (List.range' s c)).run P w = .ok ((List.range' s c).all fun i => F i == G i) w := by
  have hp : P.plainKey e = true := by simp [Program.plainKey, he]
  intro c
  induction c with
  | zero => intro s _; rfl
  | succ c ih =>
    intro s hs
    rw [List.range'_succ]
    obtain ⟨k', h1, h2⟩ := hx s (by omega)
    have h1 : xs[s * P.cellsOf e]? = some (.int k' (F s)) := by rw [hc, Nat.mul_one]; exact h1
    have h2 : ys[s * P.cellsOf e]? = some (.int k' (G s)) := by rw [hc, Nat.mul_one]; exact h2
    simp only [Op.eqItems, Sem.run_bind, run_part_plain w hp h1, run_part_plain w hp h2, run_equalIn_int w d e k' k _ _ he, Result.andThen_ok, List.all_cons]
    cases hfg : (F s == G s)
    · simp
    · simp only [Bool.not_true, Bool.false_eq_true, if_false, Bool.true_and]
      exact ih (s + 1) (by omega)
theorem ar_sound (neg : Bool) (xT yT e : TypeId) (m : Nat) (k : IntKind) (i : TypeInfo) (X Y : Operand) (o : Oper) (ho : o.op = .binOp (eqOp neg) xT X Y yT) (hd : P.underlying xT = some (.array m e)) (he : P.underlying e = some (.int k)) (hi : P.info? e = some i) (hc : P.cellsOf e = 1) (hm : P.eqGuardType P.depth xT = false) (hs : Sim T w0 ρ h w) {vx vy : LVal} (hx : PV ρ vx (a.eval X)) (hy : PV ρ vy (a.eval Y)) (hw : (arRd neg m k vx vy).wp t h Φ) : Res P o a w T w0 ρ h n Φ := by
  cases vx <;> try exact hw.elim
  cases vy <;> try exact hw.elim
  rename_i s1 s2
  simp only [arRd] at hw
  split at hw
  · rename_i m1 w1 f m2 w2 g
    split at hw
    · rename_i b1 b2 b3 b4
      have b1 := Nat.eq_of_beq_eq_true b1
      have b2 := Nat.eq_of_beq_eq_true b2
      have b3 := Nat.eq_of_beq_eq_true b3
      have b4 := Nat.eq_of_beq_eq_true b4
      subst b1 b2 b3 b4
      obtain ⟨⟨q1, q2⟩, hw⟩ := hw
      obtain ⟨l1, p1, ex⟩ := hx
      obtain ⟨l2, p2, ey⟩ := hy
      have cells : ∀ (f : Nat → Segs) (l : List Value), PS ρ (.rows m 1 f .nil) l → (∀ i, i < m → isIntK k (f i) = true) → l.length = m ∧ ∀ i, i < m → l[i]? = some (.int k (segInt (f i))) := by
        intro f l hl hf
        obtain ⟨c1, c2, rfl, hch, hn⟩ := rows_chunks hl
        have hn : c2 = [] := hn
        subst hn
        rw [List.append_nil]
        refine ⟨by rw [hch.1, Nat.mul_one], fun i hi => ?_⟩
        have h6 := hch.2 i hi
        have h7 := hf i hi
        cases hgi : f i with
        | nil => rw [hgi] at h7; cases h7
        | res A => rw [hgi] at h7; cases h7
        | rows a b c d => rw [hgi] at h7; cases h7
        | one u r =>
          rw [hgi] at h7 h6
          cases u <;> try (cases h7; done)
          rename_i kk z
          cases r <;> try (cases h7; done)
          have hk := kEq_spec h7
          subst hk
          obtain ⟨x, l', e1, e2, _, e3⟩ := h6
          have e2 : x = .int kk z := e2
          subst e2
          have := congrArg (fun z => z[0]?) e1
          simp only [List.getElem?_cons_zero, List.getElem?_take, Nat.lt_one_iff, if_pos, List.getElem?_drop, Nat.mul_one, Nat.add_zero] at this
          simpa [segInt] using this
      obtain ⟨_, c1⟩ := cells f l1 p1 q1
      obtain ⟨_, c2⟩ := cells g l2 p2 q2
      have hexec : (execOp a.eval o).run P w = .ok (.value (.bool (negB neg (arEq m f g)))) w := by
        refine eq_exec ho ?_ ?_ ?_
        · rw [ex, ey]; exact run_eqGuard_agg w _ xT X Y _ _ hm
        · rw [ex, ey]
          have := run_equalIn_array w 9999 l1.toArray l2.toArray hd hi
          rw [List.range_eq_range', eqItems_run 9998 he hc l1.toArray l2.toArray (fun i => segInt (f i)) (fun i => segInt (g i)) m (fun i hi => ⟨k, by simpa using c1 i hi, by simpa using c2 i hi⟩) m 0 (by omega)] at this
          rw [← List.range_eq_range'] at this
          exact this
        · rw [ex, ey]; rintro op (rfl | rfl) <;> rfl
      cases neg
      · exact Res.quiet hs hw hexec rfl
      · exact Res.quiet hs hw hexec rfl
    · exact hw.elim
  · exact hw.elim
/-- Arrays of arrays of integers. -/
def isInt2 (k : IntKind) (n : Nat) : Segs → Prop
  | .rows n' w g .nil => n' = n ∧ w = 1 ∧ ∀ j, j < n → isIntK k (g j) = true
  | _ => False
def seg2 : Segs → Nat → Int
  | .rows _ _ g _, j => segInt (g j)
  | _, _ => 0
def arEq2 (m n : Nat) (f g : Nat → Segs) : Bool := (List.range m).all fun i => (List.range n).all fun j => seg2 (f i) j == seg2 (g i) j
def ar2Rd (neg : Bool) (m n : Nat) (k : IntKind) : LVal → LVal → Rd
  | .agg s1, .agg s2 => match s1, s2 with
    | .rows m1 w1 f .nil, .rows m2 w2 g .nil => match Nat.beq m m1, Nat.beq m m2, Nat.beq w1 n, Nat.beq w2 n with
      | true, true, true, true => .need ((∀ i, i < m → isInt2 k n (f i)) ∧ ∀ i, i < m → isInt2 k n (g i)) (match neg with
        | true => one (.bool (!arEq2 m n f g))
        | false => one (.bool (arEq2 m n f g)))
      | _, _, _, _ => .fail
    | _, _ => .fail
  | _, _ => .fail
theorem int_cells {ρ : Pl} {k : IntKind} {m : Nat} (f : Nat → Segs) (l : List Value) (hl : PS ρ (.rows m 1 f .nil) l) (hf : ∀ i, i < m → isIntK k (f i) = true) : l.length = m ∧ ∀ i, i < m → l[i]? = some (.int k (segInt (f i))) := by
  obtain ⟨c1, c2, rfl, hch, hn⟩ := rows_chunks hl
  have hn : c2 = [] := hn
  subst hn
  rw [List.append_nil]
  refine ⟨by rw [hch.1, Nat.mul_one], fun i hi => ?_⟩
  have h6 := hch.2 i hi
  have h7 := hf i hi
  cases hgi : f i with
  | nil => rw [hgi] at h7; cases h7
  | res A => rw [hgi] at h7; cases h7
  | rows a b c d => rw [hgi] at h7; cases h7
  | one u r =>
    rw [hgi] at h7 h6
    cases u <;> try (cases h7; done)
    rename_i kk z
    cases r <;> try (cases h7; done)
    have hk := kEq_spec h7
    subst hk
    obtain ⟨x, l', e1, e2, _, e3⟩ := h6
    have e2 : x = .int kk z := e2
    subst e2
    have := congrArg (fun z => z[0]?) e1
    simp only [List.getElem?_cons_zero, List.getElem?_take, Nat.lt_one_iff, if_pos, List.getElem?_drop, Nat.mul_one, Nat.add_zero] at this
    simpa [segInt] using this
theorem int2_cells {ρ : Pl} {k : IntKind} {m n : Nat} (f : Nat → Segs) (l : List Value) (hl : PS ρ (.rows m n f .nil) l) (hf : ∀ i, i < m → isInt2 k n (f i)) : l.length = m * n ∧ ∀ i, i < m → ∀ j, j < n → l[i * n + j]? = some (.int k (seg2 (f i) j)) := by
  obtain ⟨c1, c2, rfl, hch, hn⟩ := rows_chunks hl
  have hn : c2 = [] := hn
  subst hn
  rw [List.append_nil]
  refine ⟨hch.1, fun i hi j hj => ?_⟩
  have h6 := hch.2 i hi
  have h7 := hf i hi
  cases hgi : f i with
  | nil => rw [hgi] at h7; exact h7.elim
  | res A => rw [hgi] at h7; exact h7.elim
  | one u r => rw [hgi] at h7; exact h7.elim
  | rows a b c d =>
    rw [hgi] at h7 h6
    cases d <;> try exact h7.elim
    obtain ⟨rfl, rfl, h8⟩ := h7
    have := (int_cells c _ h6 h8).2 j hj
    rw [List.getElem?_take_of_lt hj, List.getElem?_drop] at this
    exact this
theorem eqItems2_run (d : Nat) {e e2 : TypeId} {k : IntKind} {n : Nat} {i2 : TypeInfo} {i1 : TypeInfo} (he : P.underlying e = some (.array n e2)) (he2 : P.underlying e2 = some (.int k)) (hi1 : P.info? e = some i1) (hi2 : P.info? e2 = some i2) (hn : P.cellsOf e = n) (hc : P.cellsOf e2 = 1) (xs ys : Array Value) (F G : Nat → Nat → Int) (m : Nat)
    (hx : ∀ i, i < m → ∀ j, j < n → xs[i * n + j]? = some (.int k (F i j))) (hy : ∀ i, i < m → ∀ j, j < n → ys[i * n + j]? = some (.int k (G i j))) : ∀ (c s : Nat), s + c ≤ m →
    (Op.eqItems (d + 2) e (P.cellsOf e) xs ys (List.range' s c)).run P w = .ok ((List.range' s c).all fun i => (List.range n).all fun j => F i j == G i j) w := by
  have hpart : ∀ (zs : Array Value) (off : Nat), (Go.part e zs off).run P w = .ok (.agg (zs.extract off (off + n))) w := by
    intro zs off
    simp [Go.part, isAgg, run_underlying he, run_sizeOf w hi1, hn, Sem.run_bind]
  intro c
  induction c with
  | zero => intro s _; rfl
  | succ c ih =>
    intro s hs
    rw [List.range'_succ]
    simp only [Op.eqItems, Sem.run_bind, hpart, Result.andThen_ok, List.all_cons]
    have h1 := run_equalIn_array (P := P) w (d + 1) (t := e) (xs.extract (s * P.cellsOf e) (s * P.cellsOf e + n)) (ys.extract (s * P.cellsOf e) (s * P.cellsOf e + n)) he hi2
    have cell : ∀ (zs : Array Value) (H : Nat → Nat → Int), (∀ i, i < m → ∀ j, j < n → zs[i * n + j]? = some (.int k (H i j))) → ∀ j, j < n → (zs.extract (s * P.cellsOf e) (s * P.cellsOf e + n))[j]? = some (.int k (H s j)) := by
      intro zs H hz j hj
      have hsm : s < m := by omega
      have := hz s hsm j hj
      have hlt : s * n + j < zs.size := by
        rcases Nat.lt_or_ge (s * n + j) zs.size with c | c
        · exact c
        · rw [Array.getElem?_eq_none c] at this; cases this
      rw [hn, Array.getElem?_extract, if_pos (by omega)]
      exact this
    rw [List.range_eq_range', eqItems_run d he2 hc _ _ (F s) (G s) n (fun j hj => ⟨k, cell xs F hx j hj, cell ys G hy j hj⟩) n 0 (by omega)] at h1
    rw [show (d + 1 + 1) = d + 2 from rfl] at h1
    rw [h1]
    rw [← List.range_eq_range']
    simp only [Result.andThen_ok]
    cases hfg : ((List.range n).all fun j => F s j == G s j)
    · simp
    · simp only [Bool.not_true, Bool.false_eq_true, if_false, Bool.true_and]
      exact ih (s + 1) (by omega)
theorem ar2_sound (neg : Bool) (xT yT e e2 : TypeId) (m n' : Nat) (k : IntKind) (i1 i2 : TypeInfo) (X Y : Operand) (o : Oper) (ho : o.op = .binOp (eqOp neg) xT X Y yT) (hd : P.underlying xT = some (.array m e)) (he : P.underlying e = some (.array n' e2)) (he2 : P.underlying e2 = some (.int k)) (hi1 : P.info? e = some i1) (hi2 : P.info? e2 = some i2) (hn : P.cellsOf e = n') (hc : P.cellsOf e2 = 1) (hm : P.eqGuardType P.depth xT = false) (hs : Sim T w0 ρ h w) {vx vy : LVal} (hx : PV ρ vx (a.eval X)) (hy : PV ρ vy (a.eval Y)) (hw : (ar2Rd neg m n' k vx vy).wp t h Φ) : Res P o a w T w0 ρ h n Φ := by
  cases vx <;> try exact hw.elim
  cases vy <;> try exact hw.elim
  rename_i s1 s2
  simp only [ar2Rd] at hw
  split at hw
  · rename_i m1 w1 f m2 w2 g
    split at hw
    · rename_i b1 b2 b3 b4
      have b1 := Nat.eq_of_beq_eq_true b1
      have b2 := Nat.eq_of_beq_eq_true b2
      have b3 := Nat.eq_of_beq_eq_true b3
      have b4 := Nat.eq_of_beq_eq_true b4
      subst b1 b2 b3 b4
      obtain ⟨⟨q1, q2⟩, hw⟩ := hw
      obtain ⟨l1, p1, ex⟩ := hx
      obtain ⟨l2, p2, ey⟩ := hy
      obtain ⟨_, c1⟩ := int2_cells f l1 p1 q1
      obtain ⟨_, c2⟩ := int2_cells g l2 p2 q2
      have hexec : (execOp a.eval o).run P w = .ok (.value (.bool (negB neg (arEq2 m w2 f g)))) w := by
        refine eq_exec ho ?_ ?_ ?_
        · rw [ex, ey]; exact run_eqGuard_agg w _ xT X Y _ _ hm
        · rw [ex, ey]
          have := run_equalIn_array w 9999 l1.toArray l2.toArray hd hi1
          rw [List.range_eq_range', eqItems2_run 9997 he he2 hi1 hi2 hn hc l1.toArray l2.toArray (fun i => seg2 (f i)) (fun i => seg2 (g i)) m (fun i hi j hj => by simpa using c1 i hi j hj) (fun i hi j hj => by simpa using c2 i hi j hj) m 0 (by omega)] at this
          rw [← List.range_eq_range'] at this
          exact this
        · rw [ex, ey]; rintro op (rfl | rfl) <;> rfl
      cases neg
      · exact Res.quiet hs hw hexec rfl
      · exact Res.quiet hs hw hexec rfl
    · exact hw.elim
  · exact hw.elim
/-- s[i:j:m]. -/
def slSl3Rd (w : Nat) (lo : Option LVal) (hi mx : LVal) : LVal → Rd
  | .slice p st w' _ l0 _ => match Nat.beq w w' with
    | false => .fail
    | true => optNat (some mx) 0 fun m => optNat (some hi) 0 fun j => optNat lo 0 fun i => .need (i ≤ j ∧ j ≤ m ∧ m ≤ l0) (one (.slice p (st + i) w (j - i) (m - i) (some (m - i))))
  | _ => .fail
theorem slSl3_sound (ty : TypeId) (X H M : Operand) (L : Option Operand) (o : Oper) (ho : o.op = .slice ty X L (some H) (some M)) (e : TypeId) (i : TypeInfo) (hd : P.underlying ty = some (.slice e)) (hi : P.info? e = some i) (hs : Sim T w0 ρ h w) {v hv mv : LVal} {lo : Option LVal} (hv' : PV ρ v (a.eval X)) (hl : OptPV ρ lo (L.map a.eval)) (hh : PV ρ hv (a.eval H)) (hm : PV ρ mv (a.eval M)) (hw : (slSl3Rd i.size lo hv mv v).wp t h Φ) : Res P o a w T w0 ρ h n Φ := by
  cases v <;> try exact hw.elim
  rename_i p st w' len l0 h0
  simp only [slSl3Rd] at hw
  split at hw
  · exact hw.elim
  · rename_i hb
    have hb := Nat.eq_of_beq_eq_true hb
    subst hb
    obtain ⟨q, cap, ex, hc⟩ := hv'
    obtain ⟨m, h1, e1⟩ := optNat_wp (P := P) (w := w) (ρ := ρ) (x := some mv) (X := some (a.eval M)) hm hw
    obtain ⟨j, h2, e2⟩ := optNat_wp (P := P) (w := w) (ρ := ρ) (x := some hv) (X := some (a.eval H)) hh h1
    obtain ⟨k, h3, e3⟩ := optNat_wp (P := P) (w := w) hl h2
    obtain ⟨⟨g1, g2, g3⟩, h4⟩ := h3
    have hl0 : l0 ≤ cap := by rcases hc with ⟨_, h2, h3⟩ | ⟨_, _, _, _, _, _, h2, _⟩ <;> omega
    have b1 : (Instr.sliceBound (a.eval M) cap .slice3Acap).run P w = .ok m w := by
      rcases e1 cap .slice3Acap (by omega) with ⟨h, _⟩ | ⟨v, h, hr⟩
      · cases h
      · cases h; exact hr
    have b2 : (Instr.sliceBound (a.eval H) m .slice3B).run P w = .ok j w := by
      rcases e2 m .slice3B g2 with ⟨h, _⟩ | ⟨v, h, hr⟩
      · cases h
      · cases h; exact hr
    refine Res.quiet hs h4 (x := .slice (if m = k then q else q.map (·.add (k * i.size))) (j - k) (m - k)) ?_ ?_
    · unfold execOp
      rcases e3 j .slice3C g1 with ⟨h5, h6⟩ | ⟨v, h5, h6⟩
      · simp [ho, ex, Instr.sliceAt, Instr.slice, run_underlying hd, Instr.sliceBounds, b1, b2, h5, h6, sizeOf, typeInfo, hi]
      · simp [ho, ex, Instr.sliceAt, Instr.slice, run_underlying hd, Instr.sliceBounds, b1, b2, h5, h6, sizeOf, typeInfo, hi]
    · refine ⟨_, _, rfl, ?_⟩
      by_cases c0 : m = k
      · exact .inl ⟨by omega, by omega, by omega⟩
      · rcases hc with ⟨r1, r2, r3⟩ | ⟨g, b, mm, r1, rfl, r2, r3, r4, r5⟩
        · exact .inl ⟨by omega, by omega, by omega⟩
        · refine .inr ⟨g, b, mm, r1, ?_, by omega, Nat.le_refl _, fun x hx => by cases hx; exact Nat.le_refl _, ?_⟩
          · rw [if_neg c0]
            simp only [Option.map_some, Addr.add_mid, Nat.add_mul]
            congr 2; omega
          · rw [show st + k + (m - k) = st + m by omega]
            have : (st + m) * i.size ≤ (st + cap) * i.size := Nat.mul_le_mul_right _ (by omega)
            omega
/-- p[i:j:m] of an array. -/
def slArr3Rd (w m : Nat) (lo : Option LVal) (hi mx : LVal) : LVal → Rd
  | .ptr p => rdAt p fun s => match s with
    | .rows m' w' _ _ => match Nat.beq m m', Nat.beq w w' with
      | true, true => optNat (some mx) 0 fun x => optNat (some hi) 0 fun j => optNat lo 0 fun i => .need (i ≤ j ∧ j ≤ x ∧ x ≤ m) (one (.slice p i w (j - i) (x - i) (some (x - i))))
      | _, _ => .fail
    | _ => .fail
  | _ => .fail
theorem slArr3_sound (ty : TypeId) (X H M : Operand) (L : Option Operand) (o : Oper) (ho : o.op = .slice ty X L (some H) (some M)) (e : TypeId) (len : Nat) (i : TypeInfo) (hd : P.underlying ty = some (.array len e) ∨ ∃ q, P.underlying ty = some (.pointer q) ∧ P.underlying q = some (.array len e)) (hi : P.info? e = some i) (hs : Sim T w0 ρ h w) {v hv mv : LVal} {lo : Option LVal} (hv' : PV ρ v (a.eval X)) (hl : OptPV ρ lo (L.map a.eval)) (hh : PV ρ hv (a.eval H)) (hm : PV ρ mv (a.eval M)) (hw : (slArr3Rd i.size len lo hv mv v).wp t h Φ) : Res P o a w T w0 ρ h n Φ := by
  cases v <;> try exact hw.elim
  rename_i p
  obtain ⟨g, b, m, hp, hx⟩ := hv'
  obtain ⟨s, C, ty', fr, l1, l2, h1, h2, h3, h4, ⟨l3, l4, rfl, h5⟩, _⟩ := read_wp hs hp hw
  have hsz : ∃ ob, hget h p.blk = some ob := by
    simp only [slArr3Rd, rdAt, Rd.wp, hgetK_eq] at hw
    cases hg : hget h p.blk with
    | none => simp [hg] at hw
    | some ob => exact ⟨ob, rfl⟩
  obtain ⟨ob, hob⟩ := hsz
  cases s <;> try exact h1.elim
  rename_i m' w' f q
  simp only at h1
  split at h1
  · rename_i hb1 hb2
    have hb1 := Nat.eq_of_beq_eq_true hb1
    have hb2 := Nat.eq_of_beq_eq_true hb2
    subst hb1 hb2
    obtain ⟨y, h6, e1⟩ := optNat_wp (P := P) (w := w) (ρ := ρ) (x := some mv) (X := some (a.eval M)) hm h1
    obtain ⟨j, h6', e2⟩ := optNat_wp (P := P) (w := w) (ρ := ρ) (x := some hv) (X := some (a.eval H)) hh h6
    obtain ⟨k, h7, e3⟩ := optNat_wp (P := P) (w := w) hl h6'
    obtain ⟨⟨g1, g2, g3⟩, h8⟩ := h7
    have hlen3 := PS.length _ _ h5
    simp only [segW] at hlen3
    have hwin : p.cell + len * i.size ≤ m := by
      rcases hs.obj _ _ hob with ⟨g', b', m', obj, r1, r2, r3, _⟩ | ⟨r1, _⟩
      · rw [hp] at r1; cases r1
        simp only [slArr3Rd, rdAt, Rd.wp, hgetK_eq, hob] at hw
        obtain ⟨pre, l, ex, fr', rfl, hl', _, hb', hn', _⟩ := r3
        rw [h2] at r2
        cases r2
        obtain ⟨s1, q1, q2⟩ := path_wp _ _ hw
        obtain ⟨s2, q3, q4⟩ := skip_wp _ _ q1
        obtain ⟨a1, a2, a3, rfl, f1, f2⟩ := q2 ρ l hl'
        obtain ⟨b1, b2, rfl, f3, f4⟩ := q4 ρ a2 f2
        cases s2 <;> try exact q3.elim
        simp only at q3
        split at q3
        · rename_i hc1 hc2
          have hc1 := Nat.eq_of_beq_eq_true hc1
          have hc2 := Nat.eq_of_beq_eq_true hc2
          subst hc1 hc2
          have := PS.length _ _ f4
          simp only [segW] at this
          rw [hn']
          simp only [List.length_append, LAddr.cell]
          omega
        · exact q3.elim
      · rw [hp] at r1; cases r1
    have b1 : ∀ c, (Instr.sliceBound (a.eval M) len c).run P w = .ok y w := by
      intro c
      rcases e1 len c g3 with ⟨h, _⟩ | ⟨v, h, hr⟩
      · cases h
      · cases h; exact hr
    have b2 : ∀ c, (Instr.sliceBound (a.eval H) y c).run P w = .ok j w := by
      intro c
      rcases e2 y c g2 with ⟨h, _⟩ | ⟨v, h, hr⟩
      · cases h
      · cases h; exact hr
    refine Res.quiet hs h8 (x := .slice (some (if y = k then ⟨g, b + p.cell, none⟩ else (⟨g, b + p.cell, none⟩ : Addr).add (k * i.size))) (j - k) (y - k)) ?_ ?_
    · unfold execOp
      rcases hd with hd | ⟨qq, hd, hd2⟩
      · rcases e3 j .slice3C g1 with ⟨h9, h10⟩ | ⟨v, h9, h10⟩
        · simp [ho, hx, Instr.sliceAt, run_underlying hd, Instr.sureAddr, Instr.sliceBounds, b1, b2, h9, h10, sizeOf, typeInfo, hi]
        · simp [ho, hx, Instr.sliceAt, run_underlying hd, Instr.sureAddr, Instr.sliceBounds, b1, b2, h9, h10, sizeOf, typeInfo, hi]
      · rcases e3 j .slice3C g1 with ⟨h9, h10⟩ | ⟨v, h9, h10⟩
        · simp [ho, hx, Instr.sliceAt, Instr.slice, run_underlying hd, run_underlying hd2, asAddr, Instr.sliceBounds, b1, b2, h9, h10, sizeOf, typeInfo, hi]
        · simp [ho, hx, Instr.sliceAt, Instr.slice, run_underlying hd, run_underlying hd2, asAddr, Instr.sliceBounds, b1, b2, h9, h10, sizeOf, typeInfo, hi]
    · refine ⟨_, _, rfl, ?_⟩
      by_cases c0 : y = k
      · exact .inl ⟨by omega, by omega, by omega⟩
      · have hm2 : y * i.size ≤ len * i.size := Nat.mul_le_mul_right _ g3
        refine .inr ⟨g, b, m, hp, ?_, by omega, Nat.le_refl _, fun x hx => by cases hx; exact Nat.le_refl _, ?_⟩
        · rw [if_neg c0, Addr.add_mid]; congr 2; omega
        · rw [show k + (y - k) = y by omega]; omega
  · exact h1.elim
/-- A slice of bytes converted to its own type: one cell behind the block is frozen. -/
def slIdRd : LVal → Rd
  | .slice p st w len lo hi => .need (0 < len) (.obj p.blk fun o => match o.ro with
    | true => .fail
    | false => .ret (.slice p st w len lo hi) [(p.blk, some o)] none)
  | _ => .fail
theorem slId_sound (ty : TypeId) (X : Operand) (o : Oper) (ho : o.op = .convert ty ty X) (e : TypeId) (h1 : P.underlying ty = some (.slice e)) (h3 : P.underlying e = some (.int .u8)) (hs : Sim T w0 ρ h w) {v : LVal} (hv : PV ρ v (a.eval X)) (hw : (slIdRd v).wp t h Φ) : Res P o a w T w0 ρ h n Φ := by
  cases v <;> try exact hw.elim
  rename_i p st w' len lo hi'
  obtain ⟨q, cap, ex, hc⟩ := id hv
  obtain ⟨h0, hw⟩ := hw
  simp only [Rd.wp, hgetK_eq] at hw
  cases hg : hget h p.blk with
  | none => simp [hg] at hw
  | some ob =>
    simp only [hg] at hw
    split at hw
    · exact hw.elim
    rename_i hro
    rcases hc with ⟨c1, _⟩ | ⟨g, b, m, r1, rfl, _⟩
    · omega
    rcases hs.obj _ _ hg with ⟨g2, b2, n2, obj, e1, e2, e3, hT⟩ | ⟨e1, _⟩
    · rw [r1] at e1
      cases e1
      obtain ⟨pre, lr, exx, fr, rfl, hlr, hmore, hpre, hn2, hfr⟩ := e3
      have hun := hfr hro
      generalize hC : (pre ++ lr ++ exx).toArray = C at *
      have hCs : C.size = (pre ++ lr ++ exx).length := by rw [← hC]; simp
      have hlt := (Array.getElem?_eq_some_iff.1 e2).1
      refine ⟨_, _, _, a.eval X, ρ, w.freeze ⟨g, C.size, none⟩ 1, hw, .inl ?_, Ext.refl ρ, fun _ _ => rfl, hv, ?_⟩
      · unfold execOp
        have hshape : w.shape? g = some (ob.ty, C.size) := by simp only [World.shape?, e2]
        simp [ho, ex, convert, run_underlying h1, run_underlying h3, markStringish, hshape]
      · simp only [applyU, updU]
        have hz : (w.freeze ⟨g, C.size, none⟩ 1).heap = w.heap.modify g (fun | .cells c elem (lo, hi) => .cells c elem (if lo == hi then (C.size, C.size + 1) else (min lo C.size, max hi (C.size + 1))) | o => o) := by
          unfold World.freeze
          rw [if_neg (by decide)]
          rfl
        refine hs.turn (o' := ob) hro hro hg r1 (ob' := .cells C ob.ty (if fr.1 == fr.2 then (C.size, C.size + 1) else (min fr.1 C.size, max fr.2 (C.size + 1)))) ⟨pre, lr, exx, _, by rw [hC], hlr, hmore, hpre, hn2, fun _ => ?_⟩ ?_ ?_ ?_ ?_ ?_ ?_
        · rw [← hCs]
          rw [← hCs] at hun
          obtain ⟨u1, u2⟩ := hun
          split
          · exact ⟨fun i hi => by simp only; omega, Nat.le_succ _⟩
          · rename_i hne
            have hne : fr.1 ≠ fr.2 := by simpa using hne
            have hlo : C.size ≤ fr.1 := by
              rcases Nat.lt_or_ge fr.1 C.size with c | c
              · exact absurd ⟨Nat.le_refl _, by omega⟩ (u1 fr.1 c)
              · exact c
            exact ⟨fun i hi => by simp only; omega, by simp only; omega⟩
        · rw [hz, Array.getElem?_modify, if_pos rfl, e2]
          rfl
        · rw [hz]; simp
        · intro k hk
          rw [hz, Array.getElem?_modify, if_neg (fun c => hk c.symm)]
        · unfold World.freeze; rw [if_neg (by decide)]
        · unfold World.freeze; rw [if_neg (by decide)]
        · unfold World.freeze; rw [if_neg (by decide)]
    · rw [r1] at e1; cases e1
/-- Clear. -/
def clearRd (w : Nat) (z : Segs) (x : LVal) : Rd :=
  match x with
  | .slice p st w' len _ _ => match Nat.beq w w' with
    | false => .fail
    | true => .obj p.blk fun o => match o.ro with
      | true => .fail
      | false => pmodK p.path o.segs (fun s K => atK s p.off (fun s1 K1 => match s1 with
        | .rows k w2 f q => match Nat.beq w w2 with
          | true => .need (st + len ≤ k) (K1 (.rows k w (fun j => if st ≤ j ∧ j < st + len then z else f j) q))
          | false => .fail
        | _ => .fail) K .fail) fun s' => .ret .undef [(p.blk, some ⟨s', o.ty, o.more, false⟩)] none
  | _ => .fail
theorem zeroCells_eq (z : Array Value) (n : Nat) : (Builtin.zeroCells z n).toList = (List.replicate n z.toList).flatten := by
  have := madeCells_eq z n
  unfold madeCells at this
  exact this
theorem clear_sound (X : Operand) (tS e : TypeId) (i : TypeInfo) (z : Value) (s : Segs) (o : Oper) (ho : o.op = .call ⟨.builtin .clear, #[X], #[tS]⟩) (ht : P.underlying tS = some (.slice e)) (hi : P.info? e = some i) (hz : i.zero = some z) (hf : flatEq s z.cells.toList = true) (hsz : z.cells.size = i.size)
    (hs : Sim T w0 ρ h w) {v : LVal} (hv : PV ρ v (a.eval X)) (hw : (clearRd i.size s v).wp t h Φ) : Res P o a w T w0 ρ h n Φ := by
  cases v <;> try exact hw.elim
  rename_i p st w' len lo hi'
  obtain ⟨q, cap, ex, hc⟩ := hv
  simp only [clearRd] at hw
  have exec : ∀ {v : Value} {w1 : World}, (Builtin.clear_ #[tS] o.type #[a.eval X]).run P w = .ok v w1 → (execOp a.eval o).run P w = .ok (.value v) w1 := by
    intro v w1 hr
    unfold execOp
    simp [ho, resolve, invoke, builtin, hr]
  split at hw
  · exact hw.elim
  · rename_i hb1
    have hb1 := Nat.eq_of_beq_eq_true hb1
    subst hb1
    simp only [Rd.wp, hgetK_eq] at hw
    cases hg : hget h p.blk with
    | none => simp [hg] at hw
    | some ob =>
      simp only [hg] at hw
      split at hw
      · exact hw.elim
      rename_i hro
      obtain ⟨s1, rb, h2, h3⟩ := pmod_wp _ _ _ hw
      obtain ⟨s2, rb2, h4, h5⟩ := at_wp _ _ _ h2
      cases s2 <;> try exact h4.elim
      rename_i k w2 f qq
      simp only at h4
      split at h4
      · rename_i hb
        have hb := Nat.eq_of_beq_eq_true hb
        subst hb
        obtain ⟨h6, h8⟩ := h4
        have hch : Chunks ρ i.size len (fun _ => s) (Builtin.zeroCells z.cells len).toList := by
          rw [zeroCells_eq]
          exact chunks_const (flatEq_spec hf ρ) (by simp [hsz])
        by_cases h0 : len = 0
        · subst h0
          have hnil : (Builtin.zeroCells z.cells 0).toList = [] := by rw [zeroCells_eq]; rfl
          refine ⟨_, _, _, undef, ρ, w, h8, .inl (exec (w1 := w) ?_), Ext.refl ρ, fun _ _ => rfl, rfl, ?_⟩
          · rw [ex]
            cases q <;> simp [Builtin.clear_, run_underlying ht, undef]
          · simp only [applyU, updU]
            rcases hs.obj _ _ hg with ⟨g2, b2, n2, obj, e1, e2, e3, hT⟩ | ⟨e1, e2⟩
            · obtain ⟨pre, lr, exx, fr, rfl, hlr, hmore, hpre, hn2, hfr⟩ := e3
              obtain ⟨x1, x2, x3, rfl, _, f2, f3⟩ := over_PS (at_ := st) (m := 0) h3 h5 hch h6 hlr
              rw [hnil] at f2 f3
              have f2 : x2 = [] := List.eq_nil_of_length_eq_zero (by simpa using f2)
              subst f2
              exact hs.turn (o' := ⟨_, ob.ty, ob.more, false⟩) hro rfl hg e1 ⟨pre, _, exx, fr, rfl, f3, hmore, hpre, hn2, fun _ => hfr hro⟩ e2 rfl (fun _ _ => rfl) rfl rfl rfl
            · obtain ⟨x1, x2, x3, f1, _, f2, f3⟩ := over_PS (at_ := st) (m := 0) h3 h5 hch h6 (e2.ps hro)
              rw [hnil] at f2 f3
              have f2 : x2 = [] := List.eq_nil_of_length_eq_zero (by simpa using f2)
              subst f2
              have f1 := f1.symm
              rw [f1] at f3
              have := (hs.kill p.blk).empty e1 (by rw [hget_hset, if_pos rfl]) (o := ⟨_, ob.ty, ob.more, false⟩) f3
              rw [hset_hset] at this
              exact this
        · rcases hc with ⟨c1, c2, c3⟩ | ⟨g', b, n', r1, rfl, r2, r3, r4, r5⟩
          · omega
          · rcases hs.obj _ _ hg with ⟨g2, b2, n2, obj, e1, e2, e3, hT⟩ | ⟨e1, _⟩
            · rw [r1] at e1
              cases e1
              obtain ⟨pre, lr, exx, fr, rfl, hlr, hmore, hpre, hn2, hfr⟩ := e3
              obtain ⟨x1, x2, x3, rfl, f1, f2, f3⟩ := over_PS (at_ := st) (m := len) h3 h5 hch h6 hlr
              generalize hlc : (Builtin.zeroCells z.cells len).toList = lc at *
              have hone := PS.oneCells _ _ (chunks_rows hch)
              have hoff : (pre ++ x1).length = b + (p.cell + st * i.size) := by
                rw [List.length_append, hpre, f1]; simp only [LAddr.cell] <;> omega
              have hC : (pre ++ (x1 ++ (x2 ++ x3)) ++ exx).toArray.toList = (pre ++ x1) ++ (x2 ++ (x3 ++ exx)) := by simp
              have hCs : (pre ++ (x1 ++ (x2 ++ x3)) ++ exx).toArray.size = (pre ++ x1).length + x2.length + x3.length + exx.length := by simp; omega
              obtain ⟨k1, k2, k3, k4, k5, k6⟩ := setCells_heap g' lc w (b + (p.cell + st * i.size)) _ _ _ e2 (by rw [hCs, hoff]; omega)
              rw [hC, splice f2.symm hoff.symm] at k1
              have hth : ∀ j, j < lc.length → (w.cell? ⟨g', b + (p.cell + st * i.size) + 0 + j, none⟩).isSome = true ∧ w.frozen? ⟨g', b + (p.cell + st * i.size) + 0 + j, none⟩ = false := by
                intro j hj
                have hj2 : b + (p.cell + st * i.size) + 0 + j < (pre ++ (x1 ++ (x2 ++ x3)) ++ exx).toArray.size := by rw [hCs, hoff]; omega
                refine ⟨?_, unfrozen_at e2 (by simpa using hfr hro) hj2⟩
                rw [cell_of_row w g' _ _ _ _ e2, Array.getElem?_eq_getElem hj2]
                rfl
              have hst := run_storeCells_cells (P := P) g' (b + (p.cell + st * i.size)) lc 0 w (fun j hj => (hth j hj).1) (fun j hj => (hth j hj).2) hone
              simp only [Nat.add_zero] at hst
              refine ⟨_, _, _, undef, ρ, _, h8, .inl (exec (w1 := w.setCells g' (b + (p.cell + st * i.size)) lc) ?_), Ext.refl ρ, fun _ _ => rfl, rfl, ?_⟩
              · rw [ex]
                obtain ⟨len', rfl⟩ : ∃ m, len = m + 1 := ⟨len - 1, by omega⟩
                simp [Builtin.clear_, run_underlying ht, zeroValue, typeInfo, hi, hz, hlc, hst, undef]
              · simp only [applyU, updU]
                refine hs.turn hro rfl hg r1 ?_ k1 k2 k3 k4 k5 k6
                refine ⟨pre, x1 ++ (lc ++ x3), exx, fr, by simp, f3, hmore, hpre, ?_, ?_⟩
                · rw [hn2]; simp [f2]
                · exact fun _ => ⟨fun y hy' => (hfr hro).1 y (by simp only [List.length_append, f2] at hy' ⊢; omega), (hfr hro).2⟩
            · rw [r1] at e1; cases e1
      · exact h4.elim
/-- A slice against nil. -/
def slNilRd (neg : Bool) : LVal → Rd
  | .slice _ _ _ len _ _ => .allB (fun b => len ≠ 0 → b = false) fun b => one (.bool (negB neg b))
  | .rsl n _ _ => .allB (fun b => n ≠ 0 → b = false) fun b => one (.bool (negB neg b))
  | _ => .fail
theorem allB_wp {p : Bool → Prop} {k : Bool → Rd} (hw : (Rd.allB p k).wp t h Φ) {b : Bool} (hb : p b) : (k b).wp t h Φ := hw b hb
theorem slNil_sound (neg : Bool) (xT yT e : TypeId) (X : Operand) (o : Oper) (ho : o.op = .binOp (eqOp neg) xT X (.const (.slice none 0 0)) yT) (hd : P.underlying xT = some (.slice e)) (hs : Sim T w0 ρ h w) {vx : LVal} (hx : PV ρ vx (a.eval X)) (hw : (slNilRd neg vx).wp t h Φ) : Res P o a w T w0 ρ h n Φ := by
  obtain ⟨q, len, cap, ex, hq, hw⟩ : ∃ q len cap, a.eval X = .slice q len cap ∧ (len ≠ 0 → q.isNone = false) ∧ (Rd.allB (fun b => len ≠ 0 → b = false) fun b => one (.bool (negB neg b))).wp t h Φ := by
    cases vx <;> try exact hw.elim
    · obtain ⟨q, cap, ex, hc⟩ := hx
      refine ⟨q, _, cap, ex, fun hl => ?_, hw⟩
      rcases hc with ⟨c1, _⟩ | ⟨g, b, m, _, rfl, _⟩
      · exact absurd c1 hl
      · rfl
    · obtain ⟨q, cap, ex, _, hc⟩ := hx
      refine ⟨q, _, cap, ex, fun hl => ?_, hw⟩
      rcases hc with c1 | ⟨g, off, l, rfl, _⟩
      · exact absurd c1 hl
      · rfl
  have ey : a.eval (.const (.slice none 0 0)) = .slice none 0 0 := rfl
  refine Res.quiet hs (allB_wp (b := q.isNone) hw hq) (eq_exec (b := q.isNone) ho ?_ ?_ ?_) rfl
  · rw [ex, ey]; cases neg <;> rfl
  · rw [ex, ey, show ∀ x y, Op.equal xT x y = Op.equalIn (9999 + 1) xT x y from fun _ _ => rfl]
    have : ∀ d : Nat, (Op.equalIn (d + 1) xT (.slice q len cap) (.slice none 0 0)).run P w = .ok q.isNone w := by
      intro d
      simp only [Op.equalIn, Sem.run_bind, run_underlying hd, Result.andThen_ok]
      cases q <;> rfl
    exact this 9999
  · rw [ex, ey]; rintro op (rfl | rfl) <;> rfl
/-- A value of an interface type against nil. -/
def ifNilRd (neg : Bool) : LVal → Rd
  | .nilI => one (.bool (negB neg true))
  | .iface _ _ => one (.bool (negB neg false))
  | _ => .fail
theorem ifNil_sound (neg : Bool) (xT yT : TypeId) (ms : Array (String × TypeId)) (X : Operand) (o : Oper) (ho : o.op = .binOp (eqOp neg) xT X (.const .nilIface) yT) (hd : P.underlying xT = some (.interface ms)) (hs : Sim T w0 ρ h w) {vx : LVal} (hx : PV ρ vx (a.eval X)) (hw : (ifNilRd neg vx).wp t h Φ) : Res P o a w T w0 ρ h n Φ := by
  have ey : a.eval (.const .nilIface) = .nilIface := rfl
  cases vx <;> try exact hw.elim
  · have ex : a.eval X = .nilIface := hx
    refine Res.quiet hs hw (eq_exec (b := true) ho ?_ ?_ ?_) rfl
    · rw [ex, ey]; cases neg <;> simp [eqGuard, eqOp]
    · rw [ex, ey, show ∀ x y, Op.equal xT x y = Op.equalIn (9999 + 1) xT x y from fun _ _ => rfl]
      have : ∀ d : Nat, (Op.equalIn (d + 1) xT .nilIface .nilIface).run P w = .ok true w := by
        intro d
        simp only [Op.equalIn, Sem.run_bind, run_underlying hd, Result.andThen_ok]
        rfl
      exact this 9999
    · rw [ex, ey]; rintro op (rfl | rfl) <;> rfl
  · obtain ⟨y, _, ex⟩ := hx
    refine Res.quiet hs hw (eq_exec (b := false) ho ?_ ?_ ?_) rfl
    · rw [ex, ey]; cases neg <;> rfl
    · rw [ex, ey, show ∀ x y, Op.equal xT x y = Op.equalIn (9999 + 1) xT x y from fun _ _ => rfl]
      have : ∀ (d : Nat) (q : TypeId), (Op.equalIn (d + 1) xT (.iface q y) .nilIface).run P w = .ok false w := by
        intro d q
        simp only [Op.equalIn, Sem.run_bind, run_underlying hd, Result.andThen_ok]
        rfl
      exact this 9999 _
    · rw [ex, ey]; rintro op (rfl | rfl) <;> rfl
/-- x.(T), with the second result; T is no interface type; where it holds. -/
def tyAsRd (T : TypeId) : LVal → Rd
  | .iface t v => match Nat.beq t T with
    | true => one (.tup (.cons v (.cons (.bool true) .nil)))
    | false => .fail
  | _ => .fail
theorem tyAs_sound (xT aT : TypeId) (d : TypeDesc) (X : Operand) (o : Oper) (ho : o.op = .typeAssert X xT aT true) (hd : P.underlying aT = some d) (hi : notIface d = true) (hs : Sim T w0 ρ h w) {vx : LVal} (hx : PV ρ vx (a.eval X)) (hw : (tyAsRd aT vx).wp t h Φ) : Res P o a w T w0 ρ h n Φ := by
  cases vx <;> try exact hw.elim
  rename_i q v
  simp only [tyAsRd] at hw
  split at hw
  · rename_i hb
    have hb := Nat.eq_of_beq_eq_true hb
    subst hb
    obtain ⟨y, hy, ex⟩ := hx
    refine Res.quiet (x := .tuple #[y, .bool true]) hs hw ?_ ⟨[y, .bool true], ⟨_, _, rfl, hy, _, _, rfl, rfl, rfl⟩, rfl⟩
    unfold execOp
    simp only [ho, ex, Instr.typeAssert, Sem.run_bind, run_underlying hd, Result.andThen_ok]
    cases d <;> first | (cases hi; done) | simp
  · exact hw.elim
/-- The greater, the less of two integers. -/
def mmRd (mx : Bool) : LVal → LVal → Rd
  | .int k a, .int k' b => match kEq k k' with
    | true => match mx with
      | true => one (.int k (if b > a then b else a))
      | false => one (.int k (if b < a then b else a))
    | false => .fail
  | _, _ => .fail
theorem mm_sound (mx : Bool) (X Y : Operand) (ts : Array TypeId) (o : Oper) (ho : o.op = .call ⟨.builtin (if mx then .max else .min), #[X, Y], ts⟩) (hs : Sim T w0 ρ h w) {vx vy : LVal} (hx : PV ρ vx (a.eval X)) (hy : PV ρ vy (a.eval Y)) (hw : (mmRd mx vx vy).wp t h Φ) : Res P o a w T w0 ρ h n Φ := by
  cases vx <;> try exact hw.elim
  cases vy <;> try exact hw.elim
  rename_i k x k' y
  simp only [mmRd] at hw
  split at hw
  · rename_i hk
    have := kEq_spec hk
    subst this
    have ex : a.eval X = .int k x := hx
    have ey : a.eval Y = .int k y := hy
    cases mx
    · refine Res.quiet hs hw (x := .int k (if y < x then y else x)) ?_ rfl
      unfold execOp
      simp [ho, resolve, invoke, builtin, ex, ey, Builtin.min_, Builtin.min2]
    · refine Res.quiet hs hw (x := .int k (if y > x then y else x)) ?_ rfl
      unfold execOp
      simp [ho, resolve, invoke, builtin, ex, ey, Builtin.max_, Builtin.max2]
  · exact hw.elim
end
end Go.Proofs.Ytilmfhpoiejmfaa.Lh
