/- Plain law: decryption undoes encryption, and the other way round; the standard's example. No program in it. -/
import Derived.Test.YtghmelcbkjejeaaRi
namespace Go.Proofs.Ytghmelcbkjejeaa.Pu
open Go.RowKit Go.Proofs.Ytghmelcbkjejeaa.Mem Go.Proofs.Ytghmelcbkjejeaa.Mx Go.Proofs.Ytghmelcbkjejeaa.Ex Go.Proofs.Ytghmelcbkjejeaa.En Go.Proofs.Ytghmelcbkjejeaa.Ri
def Ag (f g : Nat → Nat) : Prop := ∀ i, i < 16 → f i = g i
theorem mix_eq (f c : Nat → Nat) (i : Nat) : mix f c i = Gf.m8 (c ((0 + 4 - i % 4) % 4)) (f (i / 4 * 4 + 0)) ^^^ Gf.m8 (c ((1 + 4 - i % 4) % 4)) (f (i / 4 * 4 + 1)) ^^^ Gf.m8 (c ((2 + 4 - i % 4) % 4)) (f (i / 4 * 4 + 2)) ^^^ Gf.m8 (c ((3 + 4 - i % 4) % 4)) (f (i / 4 * 4 + 3)) := by
  show (((0 ^^^ _) ^^^ _) ^^^ _) ^^^ _ = _
  rw [Nat.zero_xor]
theorem mix_ag {f g c : Nat → Nat} (h : Ag f g) : Ag (mix f c) (mix g c) := fun i hi => by
  rw [mix_eq, mix_eq, h _ (by omega), h _ (by omega), h _ (by omega), h _ (by omega)]
theorem sh_ag {f g : Nat → Nat} {b : Nat} (h : Ag f g) : Ag (sh b f) (sh b g) := fun i _ => h _ (Nat.mod_lt _ (by decide))
theorem xr_ag {f g k : Nat → Nat} (h : Ag f g) : Ag (xr f k) (xr g k) := fun i hi => by unfold xr; rw [h i hi]
theorem xr_xr (f k : Nat → Nat) : xr (xr f k) k = f := by
  funext i
  unfold xr
  rw [Nat.xor_assoc, Nat.xor_self, Nat.xor_zero]
theorem sh31 (f : Nat → Nat) : Ag (sh 3 (sh 1 f)) f := fun i hi => by
  unfold sh
  rw [show ((i + 4 * 3 * (i % 4)) % 16 + 4 * 1 * ((i + 4 * 3 * (i % 4)) % 16 % 4)) % 16 = i by omega]
theorem sh13 (f : Nat → Nat) : Ag (sh 1 (sh 3 f)) f := fun i hi => by
  unfold sh
  rw [show ((i + 4 * 1 * (i % 4)) % 16 + 4 * 3 * ((i + 4 * 1 * (i % 4)) % 16 % 4)) % 16 = i by omega]
theorem comb (d0 d1 d2 d3 : Nat) (h0 : d0 < 256) (h1 : d1 < 256) (h2 : d2 < 256) (h3 : d3 < 256) (c : Nat → Nat → Nat) (hc : ∀ i j, c i j < 256) (X : Nat → Nat) (hX : ∀ i, X i < 256) :
    Gf.m8 d0 (Gf.m8 (c 0 0) (X 0) ^^^ Gf.m8 (c 0 1) (X 1) ^^^ Gf.m8 (c 0 2) (X 2) ^^^ Gf.m8 (c 0 3) (X 3)) ^^^ Gf.m8 d1 (Gf.m8 (c 1 0) (X 0) ^^^ Gf.m8 (c 1 1) (X 1) ^^^ Gf.m8 (c 1 2) (X 2) ^^^ Gf.m8 (c 1 3) (X 3)) ^^^
      Gf.m8 d2 (Gf.m8 (c 2 0) (X 0) ^^^ Gf.m8 (c 2 1) (X 1) ^^^ Gf.m8 (c 2 2) (X 2) ^^^ Gf.m8 (c 2 3) (X 3)) ^^^ Gf.m8 d3 (Gf.m8 (c 3 0) (X 0) ^^^ Gf.m8 (c 3 1) (X 1) ^^^ Gf.m8 (c 3 2) (X 2) ^^^ Gf.m8 (c 3 3) (X 3)) =
    Gf.m8 (Gf.m8 d0 (c 0 0) ^^^ Gf.m8 d1 (c 1 0) ^^^ Gf.m8 d2 (c 2 0) ^^^ Gf.m8 d3 (c 3 0)) (X 0) ^^^ Gf.m8 (Gf.m8 d0 (c 0 1) ^^^ Gf.m8 d1 (c 1 1) ^^^ Gf.m8 d2 (c 2 1) ^^^ Gf.m8 d3 (c 3 1)) (X 1) ^^^
      Gf.m8 (Gf.m8 d0 (c 0 2) ^^^ Gf.m8 d1 (c 1 2) ^^^ Gf.m8 d2 (c 2 2) ^^^ Gf.m8 d3 (c 3 2)) (X 2) ^^^ Gf.m8 (Gf.m8 d0 (c 0 3) ^^^ Gf.m8 d1 (c 1 3) ^^^ Gf.m8 d2 (c 2 3) ^^^ Gf.m8 d3 (c 3 3)) (X 3) := by
  have A : ∀ d, d < 256 → ∀ i j, Gf.m8 (Gf.m8 d (c i j)) (X j) = Gf.m8 d (Gf.m8 (c i j) (X j)) := fun d hd i j => Gf.m8_assoc _ _ _ hd (hc i j) (hX j)
  have R := Gf.mul_xor_right 8
  have L := Gf.mul_xor_left 8
  simp only [R, L, A d0 h0, A d1 h1, A d2 h2, A d3 h3]
  ac_rfl
/-- The two rows of numbers undo each other. -/
def ker (d c : Nat → Nat) (r j : Nat) : Nat := Gf.m8 (d ((0 + 4 - r) % 4)) (c ((j + 4 - 0) % 4)) ^^^ Gf.m8 (d ((1 + 4 - r) % 4)) (c ((j + 4 - 1) % 4)) ^^^ Gf.m8 (d ((2 + 4 - r) % 4)) (c ((j + 4 - 2) % 4)) ^^^ Gf.m8 (d ((3 + 4 - r) % 4)) (c ((j + 4 - 3) % 4))
theorem mixmix (d c : Nat → Nat) (hd : ∀ i, d i < 256) (hc : ∀ i, c i < 256) (hk : ∀ r, r < 4 → ∀ j, j < 4 → ker d c r j = if r = j then 1 else 0) (f : Nat → Nat) (hf : ∀ i, f i < 256) : Ag (mix (mix f c) d) f := fun i hi => by
  rw [mix_eq]
  obtain ⟨q, hq⟩ : ∃ q, q = i / 4 := ⟨_, rfl⟩
  obtain ⟨r, hr⟩ : ∃ r, r = i % 4 := ⟨_, rfl⟩
  rw [← hq, ← hr]
  have hr4 : r < 4 := by omega
  have M : ∀ k, k < 4 → mix f c (q * 4 + k) = Gf.m8 (c ((0 + 4 - k) % 4)) (f (q * 4 + 0)) ^^^ Gf.m8 (c ((1 + 4 - k) % 4)) (f (q * 4 + 1)) ^^^ Gf.m8 (c ((2 + 4 - k) % 4)) (f (q * 4 + 2)) ^^^ Gf.m8 (c ((3 + 4 - k) % 4)) (f (q * 4 + 3)) := fun k hk => by
    rw [mix_eq, show (q * 4 + k) / 4 = q by omega, show (q * 4 + k) % 4 = k by omega]
  rw [M 0 (by decide), M 1 (by decide), M 2 (by decide), M 3 (by decide)]
  have C := comb (d ((0 + 4 - r) % 4)) (d ((1 + 4 - r) % 4)) (d ((2 + 4 - r) % 4)) (d ((3 + 4 - r) % 4)) (hd _) (hd _) (hd _) (hd _) (fun i j => c ((j + 4 - i) % 4)) (fun _ _ => hc _) (fun j => f (q * 4 + j)) (fun _ => hf _)
  rw [C]
  have K : ∀ j, j < 4 → Gf.m8 (d ((0 + 4 - r) % 4)) (c ((j + 4 - 0) % 4)) ^^^ Gf.m8 (d ((1 + 4 - r) % 4)) (c ((j + 4 - 1) % 4)) ^^^ Gf.m8 (d ((2 + 4 - r) % 4)) (c ((j + 4 - 2) % 4)) ^^^ Gf.m8 (d ((3 + 4 - r) % 4)) (c ((j + 4 - 3) % 4)) = if r = j then 1 else 0 := fun j hj => hk r hr4 j hj
  rw [K 0 (by decide), K 1 (by decide), K 2 (by decide), K 3 (by decide)]
  have one : ∀ x, x < 256 → Gf.m8 1 x = x := Gf.m8_one_left
  have zero : ∀ x, x < 256 → Gf.m8 0 x = 0 := fun x hx => by rw [Gf.m8_comm 0 x (by decide) hx]; exact Sc.mul_zero 8 x
  have hi' : i = q * 4 + r := by omega
  rw [hi']
  have hcase : r = 0 ∨ r = 1 ∨ r = 2 ∨ r = 3 := by omega
  rcases hcase with h | h | h | h <;> rw [h] <;> simp [one, zero, hf]
theorem four_l {a b c d : Nat} (ha : a < 256) (hb : b < 256) (hc : c < 256) (hd : d < 256) (i : Nat) : four a b c d i < 256 := four_lt ha hb hc hd i
theorem mixDE (f : Nat → Nat) (hf : ∀ i, f i < 256) : Ag (mix (mix f (four 2 3 1 1)) (four 14 11 13 9)) f :=
  mixmix _ _ (four_l (by decide) (by decide) (by decide) (by decide)) (four_l (by decide) (by decide) (by decide) (by decide)) (by decide +kernel) f hf
theorem mixED (f : Nat → Nat) (hf : ∀ i, f i < 256) : Ag (mix (mix f (four 14 11 13 9)) (four 2 3 1 1)) f :=
  mixmix _ _ (four_l (by decide) (by decide) (by decide) (by decide)) (four_l (by decide) (by decide) (by decide) (by decide)) (by decide +kernel) f hf
/-- Decryption runs the rounds back. -/
theorem dec_enc (k b : Nat → Nat) (hk : ∀ i, k i < 256) (hb : ∀ i, b i < 256) : ∀ j, j ≤ 10 → Ag (dec k (enc k b 10) j) (enc k b (10 - j))
  | 0, _ => fun _ _ => rfl
  | j + 1, hj => fun i hi => by
    have ih := dec_enc k b hk hb j (by omega)
    obtain ⟨r, hr⟩ : ∃ r, 10 - j = r + 1 := ⟨9 - j, by omega⟩
    rw [show 10 - (j + 1) = r by omega]
    rw [hr] at ih
    have hx : Ag (xr (dec k (enc k b 10) j) (rk k (r + 1))) (if r + 1 < 10 then mix (sh 1 fun i => Gf.box (enc k b r i)) (four 2 3 1 1) else sh 1 fun i => Gf.box (enc k b r i)) := fun i hi => by
      rw [xr_ag ih i hi]
      show xr (xr _ (rk k (r + 1))) (rk k (r + 1)) i = _
      rw [xr_xr]
    show Gf.unbox (sh 3 (if 10 - j < 10 then mix (xr (dec k (enc k b 10) j) (rk k (10 - j))) (four 14 11 13 9) else xr (dec k (enc k b 10) j) (rk k (10 - j))) i) = _
    rw [hr]
    have hbx : ∀ i, sh 1 (fun i => Gf.box (enc k b r i)) i < 256 := fun i => box_f (enc_lt hk hb r) _
    have hy : Ag (if r + 1 < 10 then mix (xr (dec k (enc k b 10) j) (rk k (r + 1))) (four 14 11 13 9) else xr (dec k (enc k b 10) j) (rk k (r + 1))) (sh 1 fun i => Gf.box (enc k b r i)) := by
      by_cases h : r + 1 < 10
      · rw [if_pos h] at hx ⊢
        exact fun i hi => (mix_ag hx i hi).trans (mixDE _ hbx i hi)
      · rw [if_neg h] at hx ⊢
        exact hx
    rw [sh_ag hy i hi, sh31 _ i hi, Gf.unbox_box _ (enc_lt hk hb r i)]
theorem back (k b : Nat → Nat) (hk : ∀ i, k i < 256) (hb : ∀ i, b i < 256) : Ag (decrypt k (enc k b 10)) b := fun i hi => by
  unfold decrypt
  rw [xr_ag (dec_enc k b hk hb 10 (Nat.le_refl _)) i hi]
  show xr (xr b (rk k 0)) (rk k 0) i = b i
  rw [xr_xr]
theorem decrypt_lt {k b : Nat → Nat} (hk : ∀ i, k i < 256) (hb : ∀ i, b i < 256) (i : Nat) : decrypt k b i < 256 := xr_lt (dec_lt hk hb 10) (rk_lt hk 0) i
theorem enc_dec (k b : Nat → Nat) (hk : ∀ i, k i < 256) (hb : ∀ i, b i < 256) : ∀ r, r ≤ 10 → Ag (enc k (decrypt k b) r) (dec k b (10 - r))
  | 0, _ => fun i hi => by
    show xr (xr (dec k b 10) (rk k 0)) (rk k 0) i = _
    rw [xr_xr]
  | r + 1, hr => fun i hi => by
    have ih := enc_dec k b hk hb r (by omega)
    obtain ⟨j, hj⟩ : ∃ j, 10 - r = j + 1 := ⟨9 - r, by omega⟩
    rw [show 10 - (r + 1) = j by omega]
    rw [hj] at ih
    obtain ⟨Z, hZ⟩ : ∃ Z, Z = (if r + 1 < 10 then mix (xr (dec k b j) (rk k (r + 1))) (four 14 11 13 9) else xr (dec k b j) (rk k (r + 1))) := ⟨_, rfl⟩
    have hX : ∀ i, xr (dec k b j) (rk k (r + 1)) i < 256 := xr_lt (dec_lt hk hb j) (rk_lt hk _)
    have hZl : ∀ i, Z i < 256 := fun i => by
      rw [hZ]
      split
      · exact mix_lt (four_l (by decide) (by decide) (by decide) (by decide)) i
      · exact hX i
    have hd : ∀ i, dec k b (j + 1) i = Gf.unbox (sh 3 Z i) := fun i => by
      show Gf.unbox (sh 3 (if 10 - j < 10 then mix (xr (dec k b j) (rk k (10 - j))) (four 14 11 13 9) else xr (dec k b j) (rk k (10 - j))) i) = _
      rw [show 10 - j = r + 1 by omega, hZ]
    have hbx : Ag (fun i => Gf.box (enc k (decrypt k b) r i)) (sh 3 Z) := fun i hi => by
      show Gf.box (enc k (decrypt k b) r i) = _
      rw [ih i hi, hd]
      exact Gf.box_unbox _ (hZl _)
    have hs : Ag (sh 1 fun i => Gf.box (enc k (decrypt k b) r i)) Z := fun i hi => (sh_ag hbx i hi).trans (sh13 Z i hi)
    show xr (if r + 1 < 10 then mix (sh 1 fun i => Gf.box (enc k (decrypt k b) r i)) (four 2 3 1 1) else sh 1 fun i => Gf.box (enc k (decrypt k b) r i)) (rk k (r + 1)) i = _
    have hm : Ag (if r + 1 < 10 then mix (sh 1 fun i => Gf.box (enc k (decrypt k b) r i)) (four 2 3 1 1) else sh 1 fun i => Gf.box (enc k (decrypt k b) r i)) (xr (dec k b j) (rk k (r + 1))) := by
      by_cases h : r + 1 < 10
      · rw [if_pos h] at hZ ⊢
        exact fun i hi => (mix_ag hs i hi).trans (by rw [hZ]; exact mixED _ hX i hi)
      · rw [if_neg h] at hZ ⊢
        exact fun i hi => (hs i hi).trans (by rw [hZ])
    rw [xr_ag hm i hi, xr_xr]
theorem forth (k b : Nat → Nat) (hk : ∀ i, k i < 256) (hb : ∀ i, b i < 256) : Ag (enc k (decrypt k b) 10) b := enc_dec k b hk hb 10 (Nat.le_refl _)
theorem dec_ag {k f g : Nat → Nat} (h : Ag f g) : ∀ j, Ag (dec k f j) (dec k g j)
  | 0 => h
  | j + 1 => fun i hi => by
    have ih := dec_ag (k := k) h j
    show Gf.unbox (sh 3 (if 10 - j < 10 then mix (xr (dec k f j) (rk k (10 - j))) (four 14 11 13 9) else xr (dec k f j) (rk k (10 - j))) i) = Gf.unbox (sh 3 (if 10 - j < 10 then mix (xr (dec k g j) (rk k (10 - j))) (four 14 11 13 9) else xr (dec k g j) (rk k (10 - j))) i)
    congr 1
    refine sh_ag ?_ i hi
    by_cases hc : 10 - j < 10
    · rw [if_pos hc, if_pos hc]; exact mix_ag (xr_ag ih)
    · rw [if_neg hc, if_neg hc]; exact xr_ag ih
theorem decrypt_ag {k f g : Nat → Nat} (h : Ag f g) : Ag (decrypt k f) (decrypt k g) := xr_ag (dec_ag h 10)
theorem enc_ag {k f g : Nat → Nat} (h : Ag f g) : ∀ r, Ag (enc k f r) (enc k g r)
  | 0 => xr_ag h
  | r + 1 => fun i hi => by
    have ih := enc_ag (k := k) h r
    have hb : Ag (fun i => Gf.box (enc k f r i)) (fun i => Gf.box (enc k g r i)) := fun i hi => by
      show Gf.box _ = Gf.box _
      rw [ih i hi]
    show xr (if r + 1 < 10 then mix (sh 1 fun i => Gf.box (enc k f r i)) (four 2 3 1 1) else sh 1 fun i => Gf.box (enc k f r i)) (rk k (r + 1)) i = xr (if r + 1 < 10 then mix (sh 1 fun i => Gf.box (enc k g r i)) (four 2 3 1 1) else sh 1 fun i => Gf.box (enc k g r i)) (rk k (r + 1)) i
    refine xr_ag ?_ i hi
    by_cases hc : r + 1 < 10
    · rw [if_pos hc, if_pos hc]; exact mix_ag (sh_ag hb)
    · rw [if_neg hc, if_neg hc]; exact sh_ag hb
/-- Unlike blocks stay unlike. -/
theorem apart (k f g : Nat → Nat) (hk : ∀ i, k i < 256) (hf : ∀ i, f i < 256) (hg : ∀ i, g i < 256) : eqN 16 (enc k f 10) (enc k g 10) = eqN 16 f g := by
  rw [Bool.eq_iff_iff, eqN_iff, eqN_iff]
  constructor
  · intro h i hi
    rw [← back k f hk hf i hi, ← back k g hk hg i hi]
    exact decrypt_ag h i hi
  · intro h
    exact enc_ag h 10
/-! The standard's example, round by round. -/
theorem run4_ag {f g : Nat → Nat} {c : Nat} (h : Ag f g) (j : Nat) (hj : j < 4) : ∀ q, q < 4 → run4 f c j q = run4 g c j q
  | 0, _ => by
    have hp : pre f c j = pre g c j := by unfold pre; rw [h 12 (by decide), h 13 (by decide), h 14 (by decide), h 15 (by decide)]
    show pre f c j ^^^ f j = pre g c j ^^^ g j
    rw [hp, h j (by omega)]
  | q + 1, hq => by
    show run4 f c j q ^^^ f (4 * (q + 1) + j) = run4 g c j q ^^^ g (4 * (q + 1) + j)
    rw [run4_ag h j hj q (by omega), h _ (by omega)]
theorem next_ag {f g : Nat → Nat} {c : Nat} (h : Ag f g) : Ag (next f c) (next g c) := fun i hi => run4_ag h _ (by omega) _ (by omega)
theorem rk_ag {k g : Nat → Nat} {r : Nat} (h : Ag (key k r) g) : Ag (rk k r) g := fun i hi => by
  unfold rk keys
  rw [show (r * 16 + i) / 16 = r by omega, show (r * 16 + i) % 16 = i by omega]
  exact h i hi
theorem xr2_ag {f g p q : Nat → Nat} (h : Ag f g) (h2 : Ag p q) : Ag (xr f p) (xr g q) := fun i hi => by unfold xr; rw [h i hi, h2 i hi]
theorem box_ag {f g : Nat → Nat} (h : Ag f g) : Ag (fun i => Gf.box (f i)) (fun i => Gf.box (g i)) := fun i hi => by
  show Gf.box _ = Gf.box _
  rw [h i hi]
theorem round_ag {k b g q : Nat → Nat} {r : Nat} (h : Ag (enc k b r) g) (h2 : Ag (rk k (r + 1)) q) (hr : r + 1 < 10 := by decide) : Ag (enc k b (r + 1)) (xr (mix (sh 1 fun i => Gf.box (g i)) (four 2 3 1 1)) q) := fun i hi => by
  show xr (if r + 1 < 10 then mix (sh 1 fun i => Gf.box (enc k b r i)) (four 2 3 1 1) else sh 1 fun i => Gf.box (enc k b r i)) (rk k (r + 1)) i = _
  rw [if_pos hr]
  exact xr2_ag (mix_ag (sh_ag (box_ag h))) h2 i hi
theorem last_ag {k b g q : Nat → Nat} {r : Nat} (h : Ag (enc k b r) g) (h2 : Ag (rk k (r + 1)) q) (hr : ¬ r + 1 < 10 := by decide) : Ag (enc k b (r + 1)) (xr (sh 1 fun i => Gf.box (g i)) q) := fun i hi => by
  show xr (if r + 1 < 10 then mix (sh 1 fun i => Gf.box (enc k b r i)) (four 2 3 1 1) else sh 1 fun i => Gf.box (enc k b r i)) (rk k (r + 1)) i = _
  rw [if_neg hr]
  exact xr2_ag (sh_ag (box_ag h)) h2 i hi
theorem ag_of {f g : Nat → Nat} (h : ∀ i, i < 16 → f i = g i) : Ag f g := h
theorem Ag.tr {f g p : Nat → Nat} (h : Ag f g) (h2 : Ag g p) : Ag f p := fun i hi => (h i hi).trans (h2 i hi)
def lit (l : List Nat) (i : Nat) : Nat := l.getD i 0
def K0 : Nat → Nat := lit [0, 1, 2, 3, 4, 5, 6, 7, 8, 9, 10, 11, 12, 13, 14, 15]
def S0 : Nat → Nat := lit [0, 16, 32, 48, 64, 80, 96, 112, 128, 144, 160, 176, 192, 208, 224, 240]
def K1 : Nat → Nat := lit [214, 170, 116, 253, 210, 175, 114, 250, 218, 166, 120, 241, 214, 171, 118, 254]
def S1 : Nat → Nat := lit [137, 216, 16, 232, 133, 90, 206, 104, 45, 24, 67, 216, 203, 18, 143, 228]
def K2 : Nat → Nat := lit [182, 146, 207, 11, 100, 61, 189, 241, 190, 155, 197, 0, 104, 48, 179, 254]
def S2 : Nat → Nat := lit [73, 21, 89, 143, 85, 229, 215, 160, 218, 202, 148, 250, 31, 10, 99, 247]
def K3 : Nat → Nat := lit [182, 255, 116, 78, 210, 194, 201, 191, 108, 89, 12, 191, 4, 105, 191, 65]
def S3 : Nat → Nat := lit [250, 99, 106, 40, 37, 179, 57, 201, 64, 102, 138, 49, 87, 36, 77, 23]
def K4 : Nat → Nat := lit [71, 247, 247, 188, 149, 53, 62, 3, 249, 108, 50, 188, 253, 5, 141, 253]
def S4 : Nat → Nat := lit [36, 114, 64, 35, 105, 102, 179, 250, 110, 210, 117, 50, 136, 66, 91, 108]
def K5 : Nat → Nat := lit [60, 170, 163, 232, 169, 159, 157, 235, 80, 243, 175, 87, 173, 246, 34, 170]
def S5 : Nat → Nat := lit [200, 22, 119, 188, 155, 122, 201, 59, 37, 2, 121, 146, 176, 38, 25, 150]
def K6 : Nat → Nat := lit [94, 57, 15, 125, 247, 166, 146, 150, 167, 85, 61, 193, 10, 163, 31, 107]
def S6 : Nat → Nat := lit [198, 47, 225, 9, 247, 94, 237, 195, 204, 121, 57, 93, 132, 249, 207, 93]
def K7 : Nat → Nat := lit [20, 249, 112, 26, 227, 95, 226, 140, 68, 10, 223, 77, 78, 169, 192, 38]
def S7 : Nat → Nat := lit [209, 135, 108, 15, 121, 196, 48, 10, 180, 85, 148, 173, 214, 111, 244, 31]
def K8 : Nat → Nat := lit [71, 67, 135, 53, 164, 28, 101, 185, 224, 22, 186, 244, 174, 191, 122, 210]
def S8 : Nat → Nat := lit [253, 227, 186, 210, 5, 229, 208, 215, 53, 71, 150, 78, 241, 254, 55, 241]
def K9 : Nat → Nat := lit [84, 153, 50, 209, 240, 133, 87, 104, 16, 147, 237, 156, 190, 44, 151, 78]
def S9 : Nat → Nat := lit [189, 110, 124, 61, 242, 181, 119, 158, 11, 97, 33, 110, 139, 16, 182, 137]
def K10 : Nat → Nat := lit [19, 17, 29, 127, 227, 148, 74, 23, 243, 7, 167, 139, 77, 43, 48, 197]
def S10 : Nat → Nat := lit [105, 196, 224, 216, 106, 123, 4, 48, 216, 205, 183, 128, 112, 180, 197, 90]
theorem key0 : Ag (key (ris 1) 0) K0 := by unfold Ag; decide +kernel
theorem key1 : Ag (key (ris 1) 1) K1 := (next_ag (c := rc 0) key0).tr (ag_of (by decide +kernel))
theorem key2 : Ag (key (ris 1) 2) K2 := (next_ag (c := rc 1) key1).tr (ag_of (by decide +kernel))
theorem key3 : Ag (key (ris 1) 3) K3 := (next_ag (c := rc 2) key2).tr (ag_of (by decide +kernel))
theorem key4 : Ag (key (ris 1) 4) K4 := (next_ag (c := rc 3) key3).tr (ag_of (by decide +kernel))
theorem key5 : Ag (key (ris 1) 5) K5 := (next_ag (c := rc 4) key4).tr (ag_of (by decide +kernel))
theorem key6 : Ag (key (ris 1) 6) K6 := (next_ag (c := rc 5) key5).tr (ag_of (by decide +kernel))
theorem key7 : Ag (key (ris 1) 7) K7 := (next_ag (c := rc 6) key6).tr (ag_of (by decide +kernel))
theorem key8 : Ag (key (ris 1) 8) K8 := (next_ag (c := rc 7) key7).tr (ag_of (by decide +kernel))
theorem key9 : Ag (key (ris 1) 9) K9 := (next_ag (c := rc 8) key8).tr (ag_of (by decide +kernel))
theorem key10 : Ag (key (ris 1) 10) K10 := (next_ag (c := rc 9) key9).tr (ag_of (by decide +kernel))
theorem st0 : Ag (enc (ris 1) (ris 17) 0) S0 := (xr2_ag (fun i hi => rfl) (rk_ag key0)).tr (ag_of (by decide +kernel))
theorem st1 : Ag (enc (ris 1) (ris 17) 1) S1 := (round_ag st0 (rk_ag key1)).tr (ag_of (by decide +kernel))
theorem st2 : Ag (enc (ris 1) (ris 17) 2) S2 := (round_ag st1 (rk_ag key2)).tr (ag_of (by decide +kernel))
theorem st3 : Ag (enc (ris 1) (ris 17) 3) S3 := (round_ag st2 (rk_ag key3)).tr (ag_of (by decide +kernel))
theorem st4 : Ag (enc (ris 1) (ris 17) 4) S4 := (round_ag st3 (rk_ag key4)).tr (ag_of (by decide +kernel))
theorem st5 : Ag (enc (ris 1) (ris 17) 5) S5 := (round_ag st4 (rk_ag key5)).tr (ag_of (by decide +kernel))
theorem st6 : Ag (enc (ris 1) (ris 17) 6) S6 := (round_ag st5 (rk_ag key6)).tr (ag_of (by decide +kernel))
theorem st7 : Ag (enc (ris 1) (ris 17) 7) S7 := (round_ag st6 (rk_ag key7)).tr (ag_of (by decide +kernel))
theorem st8 : Ag (enc (ris 1) (ris 17) 8) S8 := (round_ag st7 (rk_ag key8)).tr (ag_of (by decide +kernel))
theorem st9 : Ag (enc (ris 1) (ris 17) 9) S9 := (round_ag st8 (rk_ag key9)).tr (ag_of (by decide +kernel))
theorem st10 : Ag (enc (ris 1) (ris 17) 10) S10 := (last_ag st9 (rk_ag key10)).tr (ag_of (by decide +kernel))
theorem c0_std : eqN 16 C0 std = true := eqN_true (st10.tr (ag_of (by decide +kernel)))
theorem b0_ris : eqN 16 B0 (ris 17) = true := eqN_true (back (ris 1) (ris 17) (ris_lt 1) (ris_lt 17))
end Go.Proofs.Ytghmelcbkjejeaa.Pu
