/- Plain arithmetic of GF(2^8): the product as a fold, its laws, inverses. No program in it; no condition. -/
import Derived.Laws.BitsAllLaws
namespace Go.Proofs.Ytghmelcbkjejeaa.Gf


def dbl (a : Nat) : Nat := if a &&& 128 = 0 then a * 2 % 256 else (a * 2 % 256) ^^^ 27
/-- n rounds of the product. -/
def mul : Nat → Nat → Nat → Nat
  | 0, _, _ => 0
  | n + 1, a, b => (if b % 2 = 1 then a else 0) ^^^ mul n (dbl a) (b / 2)
abbrev m8 (a b : Nat) : Nat := mul 8 a b

theorem dbl_lt (a : Nat) : dbl a < 256 := by
  unfold dbl
  split
  · exact Nat.mod_lt _ (by decide)
  · exact Nat.xor_lt_two_pow (n := 8) (Nat.mod_lt _ (by decide)) (by decide)

theorem and128 (a : Nat) : (a &&& 128 = 0) ↔ a.testBit 7 = false := by
  constructor
  · intro h
    have : (a &&& 128).testBit 7 = false := by rw [h]; rfl
    rw [Nat.testBit_and] at this
    simpa [show Nat.testBit 128 7 = true from rfl] using this
  · intro h
    apply Nat.eq_of_testBit_eq
    intro i
    rw [Nat.testBit_and, Nat.zero_testBit, show (128 : Nat) = 2 ^ 7 from rfl, Nat.testBit_two_pow]
    by_cases hi : 7 = i
    · subst hi; simp [h]
    · simp [hi]

theorem mul2_xor (a c : Nat) : (a ^^^ c) * 2 = (a * 2) ^^^ (c * 2) := by
  have h := Nat.shiftLeft_xor_distrib (a := a) (b := c) (i := 1)
  simpa [Nat.shiftLeft_eq] using h
theorem mod_xor (a c : Nat) : (a ^^^ c) % 256 = (a % 256) ^^^ (c % 256) := by
  have := @Nat.xor_mod_two_pow a c 8
  simpa using this
theorem xor4 (a b c d : Nat) : (a ^^^ b) ^^^ (c ^^^ d) = (a ^^^ c) ^^^ (b ^^^ d) := by
  apply Nat.eq_of_testBit_eq
  intro i
  simp only [Nat.testBit_xor]
  cases a.testBit i <;> cases b.testBit i <;> cases c.testBit i <;> cases d.testBit i <;> rfl
theorem dbl_xor (a c : Nat) : dbl (a ^^^ c) = dbl a ^^^ dbl c := by
  unfold dbl
  simp only [and128, Nat.testBit_xor, mul2_xor, mod_xor]
  cases ha : a.testBit 7 <;> cases hc : c.testBit 7 <;> simp
  · rw [Nat.xor_assoc]
  · rw [Nat.xor_assoc, Nat.xor_assoc, Nat.xor_comm 27]
  · rw [xor4, Nat.xor_self, Nat.xor_zero]

theorem if_xor (p q : Bool) (a : Nat) : (if (p ^^ q) = true then a else 0) = (if p = true then a else 0) ^^^ (if q = true then a else 0) := by
  cases p <;> cases q <;> simp
theorem mod2_bit (b : Nat) : (b % 2 = 1) ↔ b.testBit 0 = true := by simp [Nat.testBit_zero]
theorem half_xor (b c : Nat) : (b ^^^ c) / 2 = (b / 2) ^^^ (c / 2) := by
  have h := Nat.shiftRight_xor_distrib (a := b) (b := c) (i := 1)
  simpa [Nat.shiftRight_eq_div_pow] using h

theorem mul_xor_left (n : Nat) : ∀ (a c b : Nat), mul n (a ^^^ c) b = mul n a b ^^^ mul n c b := by
  induction n with
  | zero => intro a c b; simp [mul]
  | succ n ih =>
    intro a c b
    simp only [mul]
    rw [dbl_xor, ih, xor4]
    congr 1
    by_cases h : b % 2 = 1
    · simp [h]
    · simp [h]
theorem mul_xor_right (n : Nat) : ∀ (a b c : Nat), mul n a (b ^^^ c) = mul n a b ^^^ mul n a c := by
  induction n with
  | zero => intro a b c; simp [mul]
  | succ n ih =>
    intro a b c
    simp only [mul]
    rw [half_xor, ih, xor4]
    congr 1
    simp only [mod2_bit, Nat.testBit_xor]
    exact if_xor _ _ _

theorem mul_lt (n : Nat) : ∀ (a b : Nat), a < 256 → mul n a b < 256 := by
  induction n with
  | zero => intro a b _; simp [mul]
  | succ n ih =>
    intro a b ha
    simp only [mul]
    refine Nat.xor_lt_two_pow (n := 8) ?_ (ih _ _ (dbl_lt a))
    split
    · exact ha
    · decide

/-- Two linear functions that agree on the powers of two are one, below 2^n. -/
theorem lin_ext {f g : Nat → Nat} (hf : ∀ x y, f (x ^^^ y) = f x ^^^ f y) (hg : ∀ x y, g (x ^^^ y) = g x ^^^ g y) :
    ∀ n, (∀ i, i < n → f (2 ^ i) = g (2 ^ i)) → ∀ x, x < 2 ^ n → f x = g x := by
  have f0 : f 0 = 0 := by have := hf 0 0; simpa using this
  have g0 : g 0 = 0 := by have := hg 0 0; simpa using this
  intro n
  induction n with
  | zero =>
    intro _ x hx
    have : x = 0 := by simpa using hx
    subst this
    rw [f0, g0]
  | succ n ih =>
    intro hb x hx
    by_cases h : x < 2 ^ n
    · exact ih (fun i hi => hb i (by omega)) x h
    · have hx2 : x - 2 ^ n < 2 ^ n := by rw [Nat.pow_succ] at hx; omega
      have e : x = 2 ^ n ^^^ (x - 2 ^ n) := by
        have h1 : 2 ^ n + (x - 2 ^ n) = 2 ^ n ||| (x - 2 ^ n) := Nat.two_pow_add_eq_or_of_lt hx2 1 |> fun h => by simpa using h
        have h2 : 2 ^ n ^^^ (x - 2 ^ n) = 2 ^ n ||| (x - 2 ^ n) := by
          apply Nat.eq_of_testBit_eq
          intro i
          rw [Nat.testBit_xor, Nat.testBit_or, Nat.testBit_two_pow]
          by_cases hi : n = i
          · subst hi
            rw [Nat.testBit_lt_two_pow hx2]
            simp
          · simp [hi]
        omega
      rw [e, hf, hg, hb n (by omega), ih (fun i hi => hb i (by omega)) _ hx2]

theorem ball {p : Nat → Prop} [DecidablePred p] (n : Nat) (h : (List.range n).all (fun i => decide (p i)) = true) : ∀ i, i < n → p i := by
  intro i hi
  have := List.all_eq_true.mp h i (List.mem_range.mpr hi)
  simpa using this

theorem m8_comm (a b : Nat) (ha : a < 256) (hb : b < 256) : m8 a b = m8 b a := by
  refine lin_ext (f := fun b => m8 a b) (g := fun b => m8 b a) (fun x y => mul_xor_right 8 a x y) (fun x y => mul_xor_left 8 x y a) 8 (fun i hi => ?_) b hb
  refine lin_ext (f := fun a => m8 a (2 ^ i)) (g := fun a => m8 (2 ^ i) a) (fun x y => mul_xor_left 8 x y _) (fun x y => mul_xor_right 8 _ x y) 8 (fun j hj => ?_) a ha
  have h : ∀ i, i < 8 → ∀ j, j < 8 → m8 (2 ^ j) (2 ^ i) = m8 (2 ^ i) (2 ^ j) := by decide +kernel
  exact h i hi j hj
theorem m8_assoc (a b c : Nat) (ha : a < 256) (hb : b < 256) (hc : c < 256) : m8 (m8 a b) c = m8 a (m8 b c) := by
  refine lin_ext (f := fun c => m8 (m8 a b) c) (g := fun c => m8 a (m8 b c)) (fun x y => mul_xor_right 8 _ x y) (fun x y => by simp only [m8]; rw [mul_xor_right, mul_xor_right]) 8 (fun i hi => ?_) c hc
  refine lin_ext (f := fun b => m8 (m8 a b) (2 ^ i)) (g := fun b => m8 a (m8 b (2 ^ i))) (fun x y => by simp only [m8]; rw [mul_xor_right, mul_xor_left]) (fun x y => by simp only [m8]; rw [mul_xor_left, mul_xor_right]) 8 (fun j hj => ?_) b hb
  refine lin_ext (f := fun a => m8 (m8 a (2 ^ j)) (2 ^ i)) (g := fun a => m8 a (m8 (2 ^ j) (2 ^ i))) (fun x y => by simp only [m8]; rw [mul_xor_left, mul_xor_left]) (fun x y => mul_xor_left 8 x y _) 8 (fun k hk => ?_) a ha
  have h : ∀ i, i < 8 → ∀ j, j < 8 → ∀ k, k < 8 → m8 (m8 (2 ^ k) (2 ^ j)) (2 ^ i) = m8 (2 ^ k) (m8 (2 ^ j) (2 ^ i)) := by decide +kernel
  exact h i hi j hj k hk
theorem m8_one (a : Nat) (ha : a < 256) : m8 a 1 = a := by
  refine lin_ext (f := fun a => m8 a 1) (g := fun a => a) (fun x y => mul_xor_left 8 x y _) (fun _ _ => rfl) 8 (fun i hi => ?_) a ha
  have h : ∀ i, i < 8 → m8 (2 ^ i) 1 = 2 ^ i := by decide +kernel
  exact h i hi
theorem m8_one_left (a : Nat) (ha : a < 256) : m8 1 a = a := by rw [m8_comm 1 a (by decide) ha, m8_one a ha]

/-! The document's product: the polynomials' product, and its remainder. -/
def r0 : Nat → Nat → Nat → Nat
  | 0, _, _ => 0
  | n + 1, a, b => (if b % 2 = 1 then a else 0) ^^^ r0 n (a * 2) (b / 2)
def r1 : Nat → Nat → Nat
  | 0, p => p
  | n + 1, p => r1 n (if p.testBit (n + 8) = true then p ^^^ (283 * 2 ^ n) else p)
def ref (a b : Nat) : Nat := r1 7 (r0 8 a b) % 256
theorem r0_xor_left (n : Nat) : ∀ (a c b : Nat), r0 n (a ^^^ c) b = r0 n a b ^^^ r0 n c b := by
  induction n with
  | zero => intro a c b; simp [r0]
  | succ n ih =>
    intro a c b
    simp only [r0]
    rw [mul2_xor, ih, xor4]
    congr 1
    by_cases h : b % 2 = 1
    · simp [h]
    · simp [h]
theorem r0_xor_right (n : Nat) : ∀ (a b c : Nat), r0 n a (b ^^^ c) = r0 n a b ^^^ r0 n a c := by
  induction n with
  | zero => intro a b c; simp [r0]
  | succ n ih =>
    intro a b c
    simp only [r0]
    rw [half_xor, ih, xor4]
    congr 1
    simp only [mod2_bit, Nat.testBit_xor]
    exact if_xor _ _ _
theorem sel_xor (p q : Bool) (x y d : Nat) : (if (p ^^ q) = true then (x ^^^ y) ^^^ d else x ^^^ y) = (if p = true then x ^^^ d else x) ^^^ (if q = true then y ^^^ d else y) := by
  cases p <;> cases q <;> simp
  · rw [Nat.xor_assoc]
  · rw [Nat.xor_assoc, Nat.xor_assoc, Nat.xor_comm d]
  · rw [xor4, Nat.xor_self, Nat.xor_zero]
theorem r1_xor (n : Nat) : ∀ (x y : Nat), r1 n (x ^^^ y) = r1 n x ^^^ r1 n y := by
  induction n with
  | zero => intro x y; rfl
  | succ n ih =>
    intro x y
    simp only [r1, Nat.testBit_xor]
    rw [sel_xor, ih]
theorem ref_eq (a b : Nat) (ha : a < 256) (hb : b < 256) : ref a b = m8 a b := by
  refine lin_ext (f := fun b => ref a b) (g := fun b => m8 a b) (fun x y => by simp only [ref]; rw [r0_xor_right, r1_xor, mod_xor]) (fun x y => mul_xor_right 8 a x y) 8 (fun i hi => ?_) b hb
  refine lin_ext (f := fun a => ref a (2 ^ i)) (g := fun a => m8 a (2 ^ i)) (fun x y => by simp only [ref]; rw [r0_xor_left, r1_xor, mod_xor]) (fun x y => mul_xor_left 8 x y _) 8 (fun j hj => ?_) a ha
  have h : ∀ i, i < 8 → ∀ j, j < 8 → ref (2 ^ j) (2 ^ i) = m8 (2 ^ j) (2 ^ i) := by decide +kernel
  exact h i hi j hj

/-! Inverses: the power 254, as the program reckons it. -/
def invr : Nat → Nat → Nat → Nat
  | 0, _, p => p
  | n + 1, b, p => invr n (m8 b b) (m8 p (m8 b b))
def inv (b : Nat) : Nat := invr 7 b 1
theorem inv_lt : ∀ b, b < 256 → inv b < 256 := ball 256 (by decide +kernel)
theorem inv_mul : ∀ b, b < 256 → b ≠ 0 → m8 b (inv b) = 1 := ball 256 (by decide +kernel)
theorem inv_zero : inv 0 = 0 := by decide +kernel
theorem m8_zero_left (n : Nat) : m8 0 n = 0 := by
  have h := mul_xor_left 8 0 0 n
  simpa using h
/-- The inverse is the only one. -/
theorem inv_unique (b n : Nat) (hb : b < 256) (hn : n < 256) (h : m8 b n = 1) : n = inv b := by
  have h0 : b ≠ 0 := by
    rintro rfl
    rw [m8_zero_left] at h
    exact absurd h (by decide)
  have hi := inv_lt b hb
  calc n = m8 1 n := (m8_one_left n hn).symm
    _ = m8 (m8 b (inv b)) n := by rw [inv_mul b hb h0]
    _ = m8 (m8 (inv b) b) n := by rw [m8_comm b (inv b) hb hi]
    _ = m8 (inv b) (m8 b n) := m8_assoc _ _ _ hi hb hn
    _ = m8 (inv b) 1 := by rw [h]
    _ = inv b := m8_one _ hi


/-! The box, and what undoes it. -/
def rotl (x k : Nat) : Nat := (x * 2 ^ k % 256) ||| (x / 2 ^ (8 - k))
def boxr : Nat → Nat → Nat → Nat → Nat
  | 0, _, o, _ => o
  | n + 1, r, o, i => boxr n r (o ^^^ rotl r i) (i + 1)
def box (b : Nat) : Nat := boxr 5 (inv b) 99 0
def unbox (b : Nat) : Nat := inv (rotl (b ^^^ 99) 1 ^^^ rotl (b ^^^ 99) 3 ^^^ rotl (b ^^^ 99) 6)
theorem rotl_lt (x k : Nat) (hx : x < 256) : rotl x k < 256 := by
  refine Nat.or_lt_two_pow (n := 8) (Nat.mod_lt _ (by decide)) ?_
  exact Nat.lt_of_le_of_lt (Nat.div_le_self _ _) hx
theorem box_lt : ∀ b, b < 256 → box b < 256 := ball 256 (by decide +kernel)
theorem unbox_box : ∀ b, b < 256 → unbox (box b) = b := ball 256 (by decide +kernel)
theorem box_unbox : ∀ b, b < 256 → box (unbox b) = b := ball 256 (by decide +kernel)
theorem unbox_lt : ∀ b, b < 256 → unbox b < 256 := ball 256 (by decide +kernel)
theorem box_ne : ∀ b, b < 256 → box b ≠ b ∧ box b ≠ 255 - b := ball 256 (by decide +kernel)
theorem box_inj (a b : Nat) (ha : a < 256) (hb : b < 256) (h : box a = box b) : a = b := by rw [← unbox_box a ha, h, unbox_box b hb]

end Go.Proofs.Ytghmelcbkjejeaa.Gf
