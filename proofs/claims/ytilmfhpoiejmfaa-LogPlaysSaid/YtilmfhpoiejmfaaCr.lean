/- Plain arithmetic of the check sum: a register that is shifted; sums go on; they are linear; a pattern of 32 bits is told. No program in it; no condition. -/
import Derived.Laws.BitsAllLaws
namespace Go.Proofs.Ytilmfhpoiejmfaa.Crc

def P : Nat := 3988292384
def M : Nat := 4294967295
def step (r : Nat) : Nat := if r % 2 = 1 then (r / 2) ^^^ P else r / 2
def steps : Nat → Nat → Nat
  | 0, r => r
  | n + 1, r => steps n (step r)
def byteOf (r b : Nat) : Nat := steps 8 (r ^^^ b)
def run (r : Nat) (l : List Nat) : Nat := l.foldl byteOf r
theorem run_cons (r b : Nat) (l : List Nat) : run r (b :: l) = run (byteOf r b) l := List.foldl_cons ..
def add (s : Nat) (l : List Nat) : Nat := M ^^^ run (M ^^^ s) l
/-- The number that bytes are, the low one first. -/
def num : List Nat → Nat
  | [] => 0
  | b :: l => b ^^^ (256 * num l)

theorem xor4 (a b c d : Nat) : (a ^^^ b) ^^^ (c ^^^ d) = (a ^^^ c) ^^^ (b ^^^ d) := by
  apply Nat.eq_of_testBit_eq
  intro i
  simp only [Nat.testBit_xor]
  cases a.testBit i <;> cases b.testBit i <;> cases c.testBit i <;> cases d.testBit i <;> rfl
theorem half_xor (b c : Nat) : (b ^^^ c) / 2 = (b / 2) ^^^ (c / 2) := by
  have h := Nat.shiftRight_xor_distrib (a := b) (b := c) (i := 1)
  simpa [Nat.shiftRight_eq_div_pow] using h
theorem mod2_bit (b : Nat) : (b % 2 = 1) ↔ b.testBit 0 = true := by simp [Nat.testBit_zero]
theorem sel_xor (p q : Bool) (x y d : Nat) : (if (p ^^ q) = true then (x ^^^ y) ^^^ d else x ^^^ y) = (if p = true then x ^^^ d else x) ^^^ (if q = true then y ^^^ d else y) := by
  cases p <;> cases q <;> simp
  · rw [Nat.xor_assoc]
  · rw [Nat.xor_assoc, Nat.xor_assoc, Nat.xor_comm d]
  · rw [xor4, Nat.xor_self, Nat.xor_zero]
theorem step_xor (x y : Nat) : step (x ^^^ y) = step x ^^^ step y := by
  unfold step
  simp only [mod2_bit, Nat.testBit_xor, half_xor]
  exact sel_xor _ _ _ _ _
theorem steps_xor (n : Nat) : ∀ x y : Nat, steps n (x ^^^ y) = steps n x ^^^ steps n y := by
  induction n with
  | zero => intro x y; rfl
  | succ n ih => intro x y; simp only [steps]; rw [step_xor, ih]
theorem step_lt {r : Nat} (h : r < 2 ^ 32) : step r < 2 ^ 32 := by
  unfold step
  split
  · exact Nat.xor_lt_two_pow (by omega) (by decide)
  · omega
theorem steps_lt (n : Nat) : ∀ {r : Nat}, r < 2 ^ 32 → steps n r < 2 ^ 32 := by
  induction n with
  | zero => intro r h; exact h
  | succ n ih => intro r h; exact ih (step_lt h)
theorem step_ne {r : Nat} (h : r < 2 ^ 32) (h0 : r ≠ 0) : step r ≠ 0 := by
  unfold step
  split
  · intro e
    have e2 : r / 2 = P := by
      have : (r / 2 ^^^ P) ^^^ P = 0 ^^^ P := by rw [e]
      rwa [Nat.xor_assoc, Nat.xor_self, Nat.xor_zero, Nat.zero_xor] at this
    have : P = 3988292384 := rfl
    omega
  · omega
theorem steps_ne (n : Nat) : ∀ {r : Nat}, r < 2 ^ 32 → r ≠ 0 → steps n r ≠ 0 := by
  induction n with
  | zero => intro r _ h; exact h
  | succ n ih => intro r h h0; exact ih (step_lt h) (step_ne h h0)
theorem steps_add (m : Nat) : ∀ n r, steps (m + n) r = steps n (steps m r) := by
  induction m with
  | zero => intro n r; rw [Nat.zero_add]; rfl
  | succ m ih => intro n r; rw [show m + 1 + n = (m + n) + 1 by omega]; simp only [steps]; exact ih n _
theorem steps_shift (n : Nat) : ∀ x, steps n (2 ^ n * x) = x := by
  induction n with
  | zero => intro x; simp [steps]
  | succ n ih =>
    intro x
    have e : step (2 ^ (n + 1) * x) = 2 ^ n * x := by
      have h : 2 ^ (n + 1) * x = 2 * (2 ^ n * x) := by rw [Nat.pow_succ, Nat.mul_comm (2 ^ n) 2, Nat.mul_assoc]
      unfold step
      rw [h, if_neg (by omega)]
      omega
    simp only [steps]
    rw [e, ih]
theorem run_eq (l : List Nat) : ∀ (r : Nat), run r l = steps (8 * l.length) (r ^^^ num l) := by
  induction l with
  | nil => intro r; rw [num, Nat.xor_zero]; rfl
  | cons b l ih =>
    intro r
    rw [run_cons, ih, num, byteOf, List.length_cons]
    rw [show 8 * (l.length + 1) = 8 + 8 * l.length by omega, steps_add, ← Nat.xor_assoc, steps_xor 8 (r ^^^ b), show (256 : Nat) = 2 ^ 8 from rfl, steps_shift]
theorem mul_xor (n x y : Nat) : 2 ^ n * (x ^^^ y) = (2 ^ n * x) ^^^ (2 ^ n * y) := by
  have h := Nat.shiftLeft_xor_distrib (a := x) (b := y) (i := n)
  simpa [Nat.shiftLeft_eq, Nat.mul_comm] using h
theorem num_set (l : List Nat) : ∀ (i y : Nat), i < l.length → num (l.set i (l.getD i 0 ^^^ y)) = num l ^^^ (2 ^ (8 * i) * y) := by
  induction l with
  | nil => intro i y h; exact absurd h (Nat.not_lt_zero _)
  | cons b l ih =>
    intro i y h
    cases i with
    | zero =>
      rw [List.set_cons_zero, num, num, List.getD_cons_zero, Nat.mul_zero, Nat.pow_zero, Nat.one_mul]
      rw [Nat.xor_assoc, Nat.xor_comm y, ← Nat.xor_assoc]
    | succ i =>
      have h2 := ih i y (Nat.lt_of_succ_lt_succ h)
      rw [List.set_cons_succ, num, num, List.getD_cons_succ, h2]
      rw [show (256 : Nat) = 2 ^ 8 from rfl, mul_xor, ← Nat.mul_assoc, ← Nat.pow_add, show 8 + 8 * i = 8 * (i + 1) by omega, Nat.xor_assoc]
theorem run_append (l m : List Nat) : ∀ (r : Nat), run r (l ++ m) = run (run r l) m := by
  induction l with
  | nil => intro r; rfl
  | cons b l ih => intro r; rw [List.cons_append, run_cons, run_cons, ih]
theorem MM (x : Nat) : M ^^^ (M ^^^ x) = x := by rw [← Nat.xor_assoc, Nat.xor_self, Nat.zero_xor]
theorem add_append (s : Nat) (l m : List Nat) : add (add s l) m = add s (l ++ m) := by
  unfold add
  rw [MM, run_append]
theorem run_lt (l : List Nat) : ∀ {r : Nat}, r < 2 ^ 32 → (∀ x, x ∈ l → x < 256) → run r l < 2 ^ 32 := by
  induction l with
  | nil => intro r h _; exact h
  | cons b l ih =>
    intro r h hl
    rw [run_cons]
    have hb := hl b (by simp)
    exact ih (steps_lt 8 (Nat.xor_lt_two_pow h (by omega))) (fun x hx => hl x (by simp [hx]))
theorem add_lt (l : List Nat) {s : Nat} (h : s < 2 ^ 32) (hl : ∀ x, x ∈ l → x < 256) : add s l < 2 ^ 32 :=
  Nat.xor_lt_two_pow (by decide) (run_lt l (Nat.xor_lt_two_pow (by decide) h) hl)
/-- The three's exclusive or. -/
def xor3 : List Nat → List Nat → List Nat → List Nat
  | a :: l, b :: m, c :: n => (a ^^^ b ^^^ c) :: xor3 l m n
  | _, _, _ => []
theorem byteOf_xor3 (x y z a b c : Nat) : byteOf (x ^^^ y ^^^ z) (a ^^^ b ^^^ c) = byteOf x a ^^^ byteOf y b ^^^ byteOf z c := by
  rw [byteOf, byteOf, byteOf, byteOf, xor4 (x ^^^ y) z (a ^^^ b) c, xor4 x y a b, steps_xor, steps_xor]
theorem run_xor3 (l : List Nat) : ∀ (m n : List Nat) (x y z : Nat), l.length = m.length → m.length = n.length → run (x ^^^ y ^^^ z) (xor3 l m n) = run x l ^^^ run y m ^^^ run z n := by
  induction l with
  | nil =>
    intro m n x y z h1 h2
    obtain rfl : m = [] := List.eq_nil_of_length_eq_zero h1.symm
    obtain rfl : n = [] := List.eq_nil_of_length_eq_zero h2.symm
    rfl
  | cons a l ih =>
    intro m n x y z h1 h2
    cases m with
    | nil => exact absurd h1 (Nat.succ_ne_zero _)
    | cons b m =>
      cases n with
      | nil => exact absurd h2 (Nat.succ_ne_zero _)
      | cons c n =>
        rw [xor3, run_cons, run_cons, run_cons, run_cons, byteOf_xor3]
        exact ih m n _ _ _ (Nat.succ.inj h1) (Nat.succ.inj h2)
theorem add_xor3 (l m n : List Nat) (h1 : l.length = m.length) (h2 : m.length = n.length) : add 0 (xor3 l m n) = add 0 l ^^^ add 0 m ^^^ add 0 n := by
  unfold add
  have h := run_xor3 l m n M M M h1 h2
  have e : M ^^^ M ^^^ M = M := by decide
  rw [e] at h
  simp only [Nat.xor_zero]
  rw [h, xor4 M (run M l) M (run M m), xor4 (M ^^^ M) (run M l ^^^ run M m) M (run M n), e]
/-- Bytes of one length whose numbers differ by a pattern of 32 bits somewhere have unlike sums. -/
theorem tells (l m : List Nat) (at_ w : Nat) (hlen : m.length = l.length) (hn : num m = num l ^^^ (2 ^ at_ * w)) (hat : at_ ≤ 8 * l.length) (hw : w < 2 ^ 32) : (add 0 l = add 0 m) ↔ w = 0 := by
  unfold add
  have cancel : ∀ a b c : Nat, a ^^^ b = a ^^^ c ↔ b = c := by
    intro a b c
    constructor
    · intro h
      have : a ^^^ (a ^^^ b) = a ^^^ (a ^^^ c) := by rw [h]
      rwa [← Nat.xor_assoc, ← Nat.xor_assoc, Nat.xor_self, Nat.zero_xor, Nat.zero_xor] at this
    · rintro rfl; rfl
  rw [cancel, run_eq, run_eq, hlen, hn, ← Nat.xor_assoc, steps_xor _ (M ^^^ 0 ^^^ num l)]
  obtain ⟨d, hd⟩ : ∃ d, 8 * l.length = at_ + d := ⟨8 * l.length - at_, by omega⟩
  rw [hd, steps_add at_ d (2 ^ at_ * w), steps_shift]
  constructor
  · intro h
    have h2 : steps d w = 0 := by
      have := cancel (steps (at_ + d) (M ^^^ 0 ^^^ num l)) 0 (steps d w)
      rw [Nat.xor_zero] at this
      exact (this.mp h).symm
    by_cases e : w = 0
    · exact e
    · exact absurd h2 (steps_ne d hw e)
  · rintro rfl
    have h0 : ∀ d, steps d 0 = 0 := by
      intro d
      have := steps_xor d 0 0
      simpa using this
    rw [h0, Nat.xor_zero, Nat.xor_zero]

end Go.Proofs.Ytilmfhpoiejmfaa.Crc
