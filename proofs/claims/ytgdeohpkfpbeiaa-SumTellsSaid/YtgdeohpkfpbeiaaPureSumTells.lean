/- Bytes that are turned within 32 bits in a row have another sum: for any bytes, place and pattern. No condition. -/
import Derived.Test.YtgdeohpkfpbeiaaPSumTellsx2
import Derived.Test.YtgdeohpkfpbeiaaCrc
import Derived.Test.YtgdeohpkfpbeiaaBr
namespace Go.Proofs.Ytgdeohpkfpbeiaa.Pure
open Go.RowKit Go.Proofs.Ytgdeohpkfpbeiaa.PSumTells Go.Proofs.YtgdeohpkfpbeiaaW.PrintWords Go.Proofs.YtgdeohpkfpbeiaaW.PrintLast Go.Proofs.YtgdeohpkfpbeiaaW.PrintMore

theorem byteOf_l0 (d : Nat) : ∀ (k r i : Nat), i + d = 8 → d < k → r < 2 ^ 32 → sum_byteOf.l0 k (r : Int) (i : Int) = some ((Crc.steps d r : Nat) : Int) := by
  induction d with
  | zero =>
    intro k r i hi hk _
    obtain ⟨k, rfl⟩ : ∃ m, k = m + 1 := ⟨k - 1, by omega⟩
    simp only [sum_byteOf.l0, Crc.steps]
    rw [if_neg (by omega)]
  | succ d ih =>
    intro k r i hi hk hr
    obtain ⟨k, rfl⟩ : ∃ m, k = m + 1 := ⟨k - 1, by omega⟩
    have e1 : wrap64 ((i : Int) + 1) = ((i + 1 : Nat) : Int) := by rw [Br.w64 _ (by omega) (by omega)]; omega
    have e2 : ((r : Int) / 2) = ((r / 2 : Nat) : Int) := by omega
    have e3 : Go.bits .xor .u32 ((r / 2 : Nat) : Int) 3988292384 = ((r / 2 ^^^ Crc.P : Nat) : Int) := Br.xor_u32 _ 3988292384 (by omega) (by decide)
    simp only [sum_byteOf.l0, Crc.steps, e1, e2, e3, Br.and1_u32 r hr]
    rw [if_pos (by omega)]
    have hs := Crc.step_lt hr
    unfold Crc.step at hs ⊢
    by_cases h : r % 2 = 1
    · rw [if_pos h] at hs ⊢
      rw [if_pos (by rw [h]; rfl), ih k _ (i + 1) (by omega) (by omega) hs]
    · rw [if_neg h] at hs ⊢
      rw [if_neg (by omega), ih k _ (i + 1) (by omega) (by omega) hs]
theorem byteOf_eq (k r b : Nat) (hk : 8 < k) (hr : r < 2 ^ 32) (hb : b < 256) : sum_byteOf.f k (r : Int) (b : Int) = some ((Crc.byteOf r b : Nat) : Int) := by
  unfold sum_byteOf.f Crc.byteOf
  have e1 : ((b : Int)) % 4294967296 = (b : Int) := by omega
  rw [e1, Br.xor_u32 r b hr (by omega)]
  exact byteOf_l0 8 k _ 0 rfl hk (Nat.xor_lt_two_pow hr (by omega))
theorem byteOf_lt {r b : Nat} (hr : r < 2 ^ 32) (hb : b < 256) : Crc.byteOf r b < 2 ^ 32 := Crc.steps_lt 8 (Nat.xor_lt_two_pow hr (by omega))
theorem add_l0 (l : List Nat) (hl : ∀ b, b ∈ l → b < 256) (hm : l.length ≤ 2 ^ 62) (d : Nat) : ∀ (k r i : Nat), i + d = l.length → d + 9 < k → r < 2 ^ 32 →
    sum_Add.l0 k (r : Int) (Br.ints l) (l.length : Int) (i : Int) = some ((Crc.M ^^^ Crc.run r (l.drop i) : Nat) : Int) := by
  induction d with
  | zero =>
    intro k r i hi hk hr
    obtain ⟨k, rfl⟩ : ∃ m, k = m + 1 := ⟨k - 1, by omega⟩
    simp only [sum_Add.l0]
    rw [if_neg (by omega), List.drop_of_length_le (by omega)]
    have : Go.bits .xor .u32 4294967295 (r : Int) = ((Crc.M ^^^ r : Nat) : Int) := Br.xor_u32 4294967295 r (by decide) hr
    rw [this]
    rfl
  | succ d ih =>
    intro k r i hi hk hr
    obtain ⟨k, rfl⟩ : ∃ m, k = m + 1 := ⟨k - 1, by omega⟩
    have e1 : wrap64 ((i : Int) + 1) = ((i + 1 : Nat) : Int) := by rw [Br.w64 _ (by omega) (by omega)]; omega
    have hlt : i < l.length := by omega
    have hb := Br.getD_lt l hl i
    simp only [sum_Add.l0, Br.rd_ints, byteOf_eq k r _ (by omega) hr hb, Option.bind_some, e1]
    rw [if_pos (by omega), if_pos (by omega), if_pos (by simp; omega), ih k _ (i + 1) (by omega) (by omega) (byteOf_lt hr hb)]
    rw [List.drop_eq_getElem_cons hlt, Crc.run_cons]
    simp [List.getD_eq_getElem?_getD, List.getElem?_eq_getElem hlt]
theorem add_eq (k s : Nat) (l : List Nat) (hk : l.length + 9 < k) (hs : s < 2 ^ 32) (hl : ∀ b, b ∈ l → b < 256) (hm : l.length ≤ 2 ^ 62) :
    sum_Add.f k (s : Int) (Br.ints l) = some ((Crc.add s l : Nat) : Int) := by
  unfold sum_Add.f Crc.add
  have e : Go.bits .xor .u32 4294967295 (s : Int) = ((Crc.M ^^^ s : Nat) : Int) := Br.xor_u32 4294967295 s (by decide) hs
  rw [e, List.length_map]
  exact add_l0 l hl hm l.length k _ 0 (by omega) hk (Nat.xor_lt_two_pow (by decide) hs)
theorem sum_eq (k : Nat) (l : List Nat) (hk : l.length + 9 < k) (hl : ∀ b, b ∈ l → b < 256) (hm : l.length ≤ 2 ^ 62) : sum_Sum.f k (Br.ints l) = some ((Crc.add 0 l : Nat) : Int) := by
  unfold sum_Sum.f
  have h : sum_Add.f k 0 (Br.ints l) = some ((Crc.add 0 l : Nat) : Int) := add_eq k 0 l hk (by decide) hl hm
  rw [h]
  rfl
theorem text_l0 (s : ByteArray) (hm : s.size ≤ 2 ^ 62) (d : Nat) : ∀ (k r i : Nat), i + d = s.size → d + 9 < k → r < 2 ^ 32 →
    sum_Text.l0 k s (r : Int) (s.size : Int) (i : Int) = some ((Crc.M ^^^ Crc.run r ((Br.bytes s).drop i) : Nat) : Int) := by
  have hlen := Br.bytes_length s
  induction d with
  | zero =>
    intro k r i hi hk hr
    obtain ⟨k, rfl⟩ : ∃ m, k = m + 1 := ⟨k - 1, by omega⟩
    simp only [sum_Text.l0]
    rw [if_neg (by omega), List.drop_of_length_le (by omega)]
    have : Go.bits .xor .u32 4294967295 (r : Int) = ((Crc.M ^^^ r : Nat) : Int) := Br.xor_u32 4294967295 r (by decide) hr
    rw [this]
    rfl
  | succ d ih =>
    intro k r i hi hk hr
    obtain ⟨k, rfl⟩ : ∃ m, k = m + 1 := ⟨k - 1, by omega⟩
    have e1 : wrap64 ((i : Int) + 1) = ((i + 1 : Nat) : Int) := by rw [Br.w64 _ (by omega) (by omega)]; omega
    have hlt : i < s.size := by omega
    have hlt2 : i < (Br.bytes s).length := by omega
    have hb := Br.getD_lt (Br.bytes s) (Br.bytes_lt s) i
    simp only [sum_Text.l0, Br.bt_bytes s i hlt, byteOf_eq k r _ (by omega) hr hb, Option.bind_some, e1]
    rw [if_pos (by omega), if_pos (by omega), if_pos (by omega), ih k _ (i + 1) (by omega) (by omega) (byteOf_lt hr hb)]
    rw [List.drop_eq_getElem_cons hlt2, Crc.run_cons]
    simp [List.getD_eq_getElem?_getD, List.getElem?_eq_getElem hlt2]
theorem text_eq (k : Nat) (s : ByteArray) (hk : s.size + 9 < k) (hm : s.size ≤ 2 ^ 62) : sum_Text.f k s = some ((Crc.add 0 (Br.bytes s) : Nat) : Int) := by
  unfold sum_Text.f Crc.add
  exact text_l0 s hm s.size k 4294967295 0 (by omega) hk (by decide)
theorem awake_eq (k : Nat) (hk : 20 < k) : palatinelaw02_awake.f k = some true := by
  unfold palatinelaw02_awake.f
  have h1 : sum_Sum.f k ([] : List Int) = some ((Crc.add 0 [] : Nat) : Int) := sum_eq k [] (by simp; omega) (by simp) (by simp)
  have h2 := text_eq k (⟨#[]⟩ : ByteArray) (by show 0 + 9 < k; omega) (by decide)
  have h3 := text_eq k (⟨#[49, 50, 51, 52, 53, 54, 55, 56, 57]⟩ : ByteArray) (by show 9 + 9 < k; omega) (by decide)
  have h4 := text_eq k (⟨#[49, 50, 51, 52]⟩ : ByteArray) (by show 4 + 9 < k; omega) (by decide)
  have c2 : Crc.add 0 (Br.bytes (⟨#[]⟩ : ByteArray)) = 0 := by decide +kernel
  have c3 : Crc.add 0 (Br.bytes (⟨#[49, 50, 51, 52, 53, 54, 55, 56, 57]⟩ : ByteArray)) = 3421780262 := by decide +kernel
  have c4 : Crc.add 0 (Br.bytes (⟨#[49, 50, 51, 52]⟩ : ByteArray)) = 2615402659 := by decide +kernel
  have h5 : sum_Add.f k ((2615402659 : Nat) : Int) [53, 54, 55, 56, 57] = some ((Crc.add 2615402659 [53, 54, 55, 56, 57] : Nat) : Int) :=
    add_eq k 2615402659 [53, 54, 55, 56, 57] (by show 5 + 9 < k; omega) (by decide) (by decide) (by decide)
  have c5 : Crc.add 2615402659 [53, 54, 55, 56, 57] = 3421780262 := by decide +kernel
  have h6 : sum_Sum.f k ([0] : List Int) = some ((Crc.add 0 [0] : Nat) : Int) := sum_eq k [0] (by show 1 + 9 < k; omega) (by decide) (by decide)
  have c6 : Crc.add 0 [0] = 3523407757 := by decide +kernel
  have c1 : Crc.add 0 [] = 0 := by decide +kernel
  rw [h1, h2, h3, h4, c1, c2, c3, c4]
  simp only [Option.bind_some]
  rw [h5, h6, c5, c6]
  simp

theorem sh_lt (x k : Nat) : (2 ^ k * x) = x <<< k := by rw [Nat.shiftLeft_eq, Nat.mul_comm]
/-- The pattern's first bits. -/
theorem mod_succ_bit (p k : Nat) : p % 2 ^ (k + 1) = p % 2 ^ k ^^^ (if p.testBit k = true then 2 ^ k else 0) := by
  apply Nat.eq_of_testBit_eq
  intro i
  rw [Nat.testBit_mod_two_pow, Nat.testBit_xor, Nat.testBit_mod_two_pow]
  by_cases h : p.testBit k = true
  · rw [if_pos h, Nat.testBit_two_pow]
    rcases Nat.lt_trichotomy i k with hi | hi | hi
    · simp [show i < k + 1 by omega, hi, show ¬ k = i by omega]
    · subst hi; simp [h]
    · simp [show ¬ i < k + 1 by omega, show ¬ i < k by omega, show ¬ k = i by omega]
  · rw [if_neg h]
    rcases Nat.lt_trichotomy i k with hi | hi | hi
    · simp [show i < k + 1 by omega, hi]
    · subst hi; simp [h]
    · simp [show ¬ i < k + 1 by omega, show ¬ i < k by omega]
theorem tells_end (b c : List Nat) (hb : ∀ x, x ∈ b → x < 256) (hc : ∀ x, x ∈ c → x < 256) (at_ w k : Nat) (t : Bool) (hlen : c.length = b.length) (hm : b.length ≤ 1000000) (hk : b.length + 20 < k)
    (hn : Crc.num c = Crc.num b ^^^ (2 ^ at_ * w)) (hat : at_ ≤ 8 * b.length) (hw : w < 2 ^ 32) (ht : t = true ↔ w ≠ 0) :
    ((sum_Sum.f k (Br.ints b)).bind fun t126 => ((sum_Sum.f k (Br.ints c)).bind fun t127 => (if true = true then (some ((t126 != t127) == t)) else (some false)))) = some true := by
  rw [sum_eq k b (by omega) hb (by omega), sum_eq k c (by omega) hc (by omega), Option.bind_some, Option.bind_some, if_pos rfl]
  have h := Crc.tells b c at_ w hlen hn hat hw
  congr 1
  rw [beq_iff_eq]
  cases t with
  | true =>
    have : w ≠ 0 := ht.mp rfl
    rw [bne_iff_ne]
    intro e
    exact this (h.mp (by omega))
  | false =>
    have : w = 0 := by
      by_cases e : w = 0
      · exact e
      · exact absurd (ht.mpr e) (by decide)
    rw [bne_eq_false_iff_eq]
    have := h.mpr this
    omega
theorem tells_l0 (b : List Nat) (hb : ∀ x, x ∈ b → x < 256) (at_ p : Nat) (hat : at_ < 8 * b.length) (hm : b.length ≤ 1000000) (hp : p < 2 ^ 32) (d : Nat) :
    ∀ (k i : Nat) (c : List Nat) (t : Bool), i + d = 32 → 2 * d + b.length + 30 < k → c.length = b.length → (∀ x, x ∈ c → x < 256) →
    Crc.num c = Crc.num b ^^^ (2 ^ at_ * (p % 2 ^ i)) → (t = true ↔ p % 2 ^ i ≠ 0) →
    palatinelaw02_SumTells.l0 k (Br.ints b) (at_ : Int) (p : Int) true ((8 * b.length : Nat) : Int) (Br.ints c) t (i : Int) = some true := by
  induction d with
  | zero =>
    intro k i c t hi hk hlen hc hn ht
    obtain ⟨k, rfl⟩ : ∃ m, k = m + 1 + 1 := ⟨k - 2, by omega⟩
    simp only [palatinelaw02_SumTells.l0]
    rw [if_neg (by omega)]
    simp only [palatinelaw02_SumTells.j2]
    rw [if_neg (by decide)]
    exact tells_end b c hb hc at_ (p % 2 ^ i) k t hlen hm (by omega) hn (by omega) (by have := Nat.mod_le p (2 ^ i); omega) ht
  | succ d ih =>
    intro k i c t hi hk hlen hc hn ht
    obtain ⟨k, rfl⟩ : ∃ m, k = m + 1 + 1 := ⟨k - 2, by omega⟩
    have k1 : (i : Int) < 32 := by omega
    have k2 : (0 : Int) ≤ (i : Int) := by omega
    have k3 : i ≤ 32 := by omega
    have k4 : (0 : Int) ≤ (((at_ + i) / 8 : Nat) : Int) := by omega
    have k5 : (0 : Int) ≤ (((at_ + i) % 8 : Nat) : Int) := by omega
    have k6 : (at_ + i) % 8 < 8 := by omega
    have k7 : 8 * ((at_ + i) / 8) + (at_ + i) % 8 = at_ + i := by omega
    have k8 : 2 ^ ((at_ + i) % 8) < 256 := by
      have : 2 ^ ((at_ + i) % 8) ≤ 2 ^ 7 := Nat.pow_le_pow_right (by decide) (by omega)
      omega
    have k9 : at_ + i < 8 * b.length → (at_ + i) / 8 < c.length := by omega
    have k10 : p % 2 ^ i < 2 ^ 32 := Nat.lt_of_le_of_lt (Nat.mod_le _ _) hp
    have r1 : (i + 1) + d = 32 := by omega
    have r2 : 2 * d + b.length + 30 < k := by omega
    have r3 : b.length + 20 < k := by omega
    have r4 : at_ ≤ 8 * b.length := by omega
    have r5 : p / 2 ^ i < 2 ^ 32 := Nat.lt_of_le_of_lt (Nat.div_le_self _ _) hp
    have r6 : at_ + i < 2 ^ 62 := by omega
    have e0 : wrap64 ((at_ : Int) + (i : Int)) = ((at_ + i : Nat) : Int) := by rw [Br.w64 _ (by omega) (by omega)]; omega
    have e1 : wrap64 ((i : Int) + 1) = ((i + 1 : Nat) : Int) := by rw [Br.w64 _ (by omega) (by omega)]; omega
    have e2 : wrap64 (Int.tdiv ((at_ + i : Nat) : Int) 8) = (((at_ + i) / 8 : Nat) : Int) := by
      clear e0 e1
      rw [Int.tdiv_eq_ediv_of_nonneg (by omega), Br.w64 _ (by omega) (by omega)]; omega
    have e3 : Int.tmod ((at_ + i : Nat) : Int) 8 = (((at_ + i) % 8 : Nat) : Int) := by
      clear e0 e1 e2
      rw [Int.tmod_eq_emod_of_nonneg (by omega)]; omega
    have e4 : Go.bits .and .u32 (shr .u32 (p : Int) (i : Int)) 1 = ((p / 2 ^ i % 2 : Nat) : Int) := by
      rw [Br.shr_nat .u32 p i (show i ≤ 32 from k3), Br.and1_u32 _ r5]
    have hg := fun j => Br.getD_lt c hc j
    simp only [palatinelaw02_SumTells.l0]
    rw [if_pos k1]
    simp only [palatinelaw02_SumTells.j2, e0, e1]
    by_cases hin : at_ + i < 8 * b.length
    · have hin2 : ((at_ + i : Nat) : Int) < ((8 * b.length : Nat) : Int) := Int.ofNat_lt.mpr hin
      have hidx := k9 hin
      have hidx2 : (((at_ + i) / 8 : Nat) : Int) < ((Br.ints c).length : Int) := by rw [List.length_map]; exact Int.ofNat_lt.mpr hidx
      rw [if_pos (decide_eq_true hin2), if_pos k2, e2, e3, e4]
      have hmod := mod_succ_bit p i
      by_cases hbit : p.testBit i = true
      · have hb1 : p / 2 ^ i % 2 = 1 := (Br.bit_mod p i).mpr hbit
        rw [if_pos (by rw [hb1]; rfl), if_pos k4, if_pos hidx2, if_pos k5]
        rw [Br.rd_ints, Br.shl1_u8 _ k6, Br.xor_u8 _ _ (hg _) k8, Int.toNat_natCast]
        have es : (Br.ints c).set ((at_ + i) / 8) ((c.getD ((at_ + i) / 8) 0 ^^^ 2 ^ ((at_ + i) % 8) : Nat) : Int) = Br.ints (c.set ((at_ + i) / 8) (c.getD ((at_ + i) / 8) 0 ^^^ 2 ^ ((at_ + i) % 8))) := by
          simp [Br.ints, List.map_set]
        rw [es]
        rw [if_pos hbit] at hmod
        refine ih k (i + 1) _ true r1 r2 (by rw [List.length_set]; exact hlen) (fun x hx => ?_) ?_ ?_
        · rcases List.mem_or_eq_of_mem_set hx with h | h
          · exact hc x h
          · rw [h]; exact Nat.xor_lt_two_pow (n := 8) (hg _) k8
        · rw [Crc.num_set c _ _ hidx, hn, hmod, Crc.mul_xor, ← Nat.pow_add, ← Nat.pow_add, Nat.xor_assoc, k7]
        · constructor
          · intro _ h0
            have : (p % 2 ^ (i + 1)).testBit i = false := by rw [h0]; exact Nat.zero_testBit i
            rw [Nat.testBit_mod_two_pow, hbit] at this
            simp at this
          · intro _; rfl
      · have hb0 : ¬ ((p / 2 ^ i % 2 : Nat) : Int) = 1 := fun h => hbit ((Br.bit_mod p i).mp (Int.ofNat_inj.mp h))
        rw [if_neg hb0]
        rw [if_neg hbit, Nat.xor_zero] at hmod
        exact ih k (i + 1) c t r1 r2 hlen hc (by rw [hmod]; exact hn) (by rw [hmod]; exact ht)
    · have hin2 : ¬ ((at_ + i : Nat) : Int) < ((8 * b.length : Nat) : Int) := fun h => hin (Int.ofNat_lt.mp h)
      rw [if_neg (by rw [decide_eq_false hin2]; decide)]
      exact tells_end b c hb hc at_ (p % 2 ^ i) k t hlen hm r3 hn r4 k10 ht
theorem SumTells : palatinelaw02_SumTells.Pure := by
  intro l0 a1 a2 _ h0 w0 w1 w2
  obtain ⟨b, rfl, hb, lb⟩ := Br.nats l0 w0
  obtain ⟨p, rfl, hp⟩ := Br.wf_u32 w2
  have wi := Br.wf_i64 w1
  refine ⟨b.length + 200, ?_⟩
  unfold palatinelaw02_SumTells.f
  rw [← lb] at h0
  have e8 : wrap64 (8 * ((b.length : Nat) : Int)) = ((8 * b.length : Nat) : Int) := by rw [Br.w64 _ (by omega) (by omega)]; omega
  rw [awake_eq _ (by omega), Option.bind_some, ← lb, e8]
  have out : ∀ k : Nat, 0 < k → palatinelaw02_SumTells.j0 k (Br.ints b) a1 (p : Int) true ((8 * b.length : Nat) : Int) true = some true := by
    intro k hk
    obtain ⟨k, rfl⟩ : ∃ m, k = m + 1 := ⟨k - 1, by omega⟩
    simp only [palatinelaw02_SumTells.j0]
    rw [if_pos trivial]
  by_cases c1 : a1 < 0
  · rw [if_pos c1]; exact out _ (by omega)
  · rw [if_neg c1]
    by_cases c2 : a1 ≥ ((8 * b.length : Nat) : Int)
    · rw [if_pos c2]; exact out _ (by omega)
    · rw [if_neg c2]
      by_cases c3 : (p : Int) = 0
      · rw [if_pos c3]; exact out _ (by omega)
      · rw [if_neg c3]
        by_cases c4 : ((b.length : Nat) : Int) > 1000000
        · rw [decide_eq_true c4]; exact out _ (by omega)
        · rw [decide_eq_false c4]
          obtain ⟨at_, rfl⟩ := Int.eq_ofNat_of_zero_le (show 0 ≤ a1 by omega)
          simp only [palatinelaw02_SumTells.j0]
          rw [if_neg (by decide), Option.bind_some]
          have hl : ([] : List Int).length + (Br.ints b).length < 140737488355328 := by rw [List.length_map, List.length_nil]; omega
          rw [if_pos hl, List.nil_append]
          refine tells_l0 b hb at_ p (by omega) (by omega) hp 32 _ 0 b false rfl (by omega) rfl hb ?_ ?_
          · simp [Nat.mod_one]
          · simp [Nat.mod_one]

end Go.Proofs.Ytgdeohpkfpbeiaa.Pure
