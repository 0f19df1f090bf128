/- The sum of three lists' exclusive or is that of their sums, for any three lists of bytes. No condition. -/
import Derived.Test.YtgdeohpkfpbeiaaPSumLinearx1
import Derived.Test.YtgdeohpkfpbeiaaCrc
import Derived.Test.YtgdeohpkfpbeiaaBr
namespace Go.Proofs.Ytgdeohpkfpbeiaa.Pure
open Go.RowKit Go.Proofs.Ytgdeohpkfpbeiaa.PSumLinear Go.Proofs.YtgdeohpkfpbeiaaW.PrintWords Go.Proofs.YtgdeohpkfpbeiaaW.PrintLast Go.Proofs.YtgdeohpkfpbeiaaW.PrintMore

theorem byteOf_l0 (d : Nat) : ∀ (k r i : Nat), i + d = 8 → d < k → r < 2 ^ 32 → sum_byteOf.l0 k (r : Int) (i : Int) = some ((Crc.steps d r : Nat) : Int) := by
  induction d with
  | zero =>
    intro k r i hi hk _
    obtain ⟨k, rfl⟩ : ∃ m, k = m + 1 := ⟨k - 1, by omega⟩
    simp only [sum_byteOf.l0, Crc.steps]
    rw [if_neg (by omega)]
  | succ d ih =>
    intro k r i hi hk hr
    obtain ⟨k, rfl⟩ : ∃ m, k = m + 1 := ⟨k - 1, by omega⟩
    have e1 : wrap64 ((i : Int) + 1) = ((i + 1 : Nat) : Int) := by rw [Br.w64 _ (by omega) (by omega)]; omega
    have e2 : ((r : Int) / 2) = ((r / 2 : Nat) : Int) := by omega
    have e3 : Go.bits .xor .u32 ((r / 2 : Nat) : Int) 3988292384 = ((r / 2 ^^^ Crc.P : Nat) : Int) := Br.xor_u32 _ 3988292384 (by omega) (by decide)
    simp only [sum_byteOf.l0, Crc.steps, e1, e2, e3, Br.and1_u32 r hr]
    rw [if_pos (by omega)]
    have hs := Crc.step_lt hr
    unfold Crc.step at hs ⊢
    by_cases h : r % 2 = 1
    · rw [if_pos h] at hs ⊢
      rw [if_pos (by rw [h]; rfl), ih k _ (i + 1) (by omega) (by omega) hs]
    · rw [if_neg h] at hs ⊢
      rw [if_neg (by omega), ih k _ (i + 1) (by omega) (by omega) hs]
theorem byteOf_eq (k r b : Nat) (hk : 8 < k) (hr : r < 2 ^ 32) (hb : b < 256) : sum_byteOf.f k (r : Int) (b : Int) = some ((Crc.byteOf r b : Nat) : Int) := by
  unfold sum_byteOf.f Crc.byteOf
  have e1 : ((b : Int)) % 4294967296 = (b : Int) := by omega
  rw [e1, Br.xor_u32 r b hr (by omega)]
  exact byteOf_l0 8 k _ 0 rfl hk (Nat.xor_lt_two_pow hr (by omega))
theorem byteOf_lt {r b : Nat} (hr : r < 2 ^ 32) (hb : b < 256) : Crc.byteOf r b < 2 ^ 32 := Crc.steps_lt 8 (Nat.xor_lt_two_pow hr (by omega))
theorem add_l0 (l : List Nat) (hl : ∀ b, b ∈ l → b < 256) (hm : l.length ≤ 2 ^ 62) (d : Nat) : ∀ (k r i : Nat), i + d = l.length → d + 9 < k → r < 2 ^ 32 →
    sum_Add.l0 k (r : Int) (Br.ints l) (l.length : Int) (i : Int) = some ((Crc.M ^^^ Crc.run r (l.drop i) : Nat) : Int) := by
  induction d with
  | zero =>
    intro k r i hi hk hr
    obtain ⟨k, rfl⟩ : ∃ m, k = m + 1 := ⟨k - 1, by omega⟩
    simp only [sum_Add.l0]
    rw [if_neg (by omega), List.drop_of_length_le (by omega)]
    have : Go.bits .xor .u32 4294967295 (r : Int) = ((Crc.M ^^^ r : Nat) : Int) := Br.xor_u32 4294967295 r (by decide) hr
    rw [this]
    rfl
  | succ d ih =>
    intro k r i hi hk hr
    obtain ⟨k, rfl⟩ : ∃ m, k = m + 1 := ⟨k - 1, by omega⟩
    have e1 : wrap64 ((i : Int) + 1) = ((i + 1 : Nat) : Int) := by rw [Br.w64 _ (by omega) (by omega)]; omega
    have hlt : i < l.length := by omega
    have hb := Br.getD_lt l hl i
    simp only [sum_Add.l0, Br.rd_ints, byteOf_eq k r _ (by omega) hr hb, Option.bind_some, e1]
    rw [if_pos (by omega), if_pos (by omega), if_pos (by simp; omega), ih k _ (i + 1) (by omega) (by omega) (byteOf_lt hr hb)]
    rw [List.drop_eq_getElem_cons hlt, Crc.run_cons]
    simp [List.getD_eq_getElem?_getD, List.getElem?_eq_getElem hlt]
theorem add_eq (k s : Nat) (l : List Nat) (hk : l.length + 9 < k) (hs : s < 2 ^ 32) (hl : ∀ b, b ∈ l → b < 256) (hm : l.length ≤ 2 ^ 62) :
    sum_Add.f k (s : Int) (Br.ints l) = some ((Crc.add s l : Nat) : Int) := by
  unfold sum_Add.f Crc.add
  have e : Go.bits .xor .u32 4294967295 (s : Int) = ((Crc.M ^^^ s : Nat) : Int) := Br.xor_u32 4294967295 s (by decide) hs
  rw [e, List.length_map]
  exact add_l0 l hl hm l.length k _ 0 (by omega) hk (Nat.xor_lt_two_pow (by decide) hs)
theorem sum_eq (k : Nat) (l : List Nat) (hk : l.length + 9 < k) (hl : ∀ b, b ∈ l → b < 256) (hm : l.length ≤ 2 ^ 62) : sum_Sum.f k (Br.ints l) = some ((Crc.add 0 l : Nat) : Int) := by
  unfold sum_Sum.f
  have h : sum_Add.f k 0 (Br.ints l) = some ((Crc.add 0 l : Nat) : Int) := add_eq k 0 l hk (by decide) hl hm
  rw [h]
  rfl
theorem text_l0 (s : ByteArray) (hm : s.size ≤ 2 ^ 62) (d : Nat) : ∀ (k r i : Nat), i + d = s.size → d + 9 < k → r < 2 ^ 32 →
    sum_Text.l0 k s (r : Int) (s.size : Int) (i : Int) = some ((Crc.M ^^^ Crc.run r ((Br.bytes s).drop i) : Nat) : Int) := by
  have hlen := Br.bytes_length s
  induction d with
  | zero =>
    intro k r i hi hk hr
    obtain ⟨k, rfl⟩ : ∃ m, k = m + 1 := ⟨k - 1, by omega⟩
    simp only [sum_Text.l0]
    rw [if_neg (by omega), List.drop_of_length_le (by omega)]
    have : Go.bits .xor .u32 4294967295 (r : Int) = ((Crc.M ^^^ r : Nat) : Int) := Br.xor_u32 4294967295 r (by decide) hr
    rw [this]
    rfl
  | succ d ih =>
    intro k r i hi hk hr
    obtain ⟨k, rfl⟩ : ∃ m, k = m + 1 := ⟨k - 1, by omega⟩
    have e1 : wrap64 ((i : Int) + 1) = ((i + 1 : Nat) : Int) := by rw [Br.w64 _ (by omega) (by omega)]; omega
    have hlt : i < s.size := by omega
    have hlt2 : i < (Br.bytes s).length := by omega
    have hb := Br.getD_lt (Br.bytes s) (Br.bytes_lt s) i
    simp only [sum_Text.l0, Br.bt_bytes s i hlt, byteOf_eq k r _ (by omega) hr hb, Option.bind_some, e1]
    rw [if_pos (by omega), if_pos (by omega), if_pos (by omega), ih k _ (i + 1) (by omega) (by omega) (byteOf_lt hr hb)]
    rw [List.drop_eq_getElem_cons hlt2, Crc.run_cons]
    simp [List.getD_eq_getElem?_getD, List.getElem?_eq_getElem hlt2]
theorem text_eq (k : Nat) (s : ByteArray) (hk : s.size + 9 < k) (hm : s.size ≤ 2 ^ 62) : sum_Text.f k s = some ((Crc.add 0 (Br.bytes s) : Nat) : Int) := by
  unfold sum_Text.f Crc.add
  exact text_l0 s hm s.size k 4294967295 0 (by omega) hk (by decide)
theorem awake_eq (k : Nat) (hk : 20 < k) : palatinelaw02_awake.f k = some true := by
  unfold palatinelaw02_awake.f
  have h1 : sum_Sum.f k ([] : List Int) = some ((Crc.add 0 [] : Nat) : Int) := sum_eq k [] (by simp; omega) (by simp) (by simp)
  have h2 := text_eq k (⟨#[]⟩ : ByteArray) (by show 0 + 9 < k; omega) (by decide)
  have h3 := text_eq k (⟨#[49, 50, 51, 52, 53, 54, 55, 56, 57]⟩ : ByteArray) (by show 9 + 9 < k; omega) (by decide)
  have h4 := text_eq k (⟨#[49, 50, 51, 52]⟩ : ByteArray) (by show 4 + 9 < k; omega) (by decide)
  have c2 : Crc.add 0 (Br.bytes (⟨#[]⟩ : ByteArray)) = 0 := by decide +kernel
  have c3 : Crc.add 0 (Br.bytes (⟨#[49, 50, 51, 52, 53, 54, 55, 56, 57]⟩ : ByteArray)) = 3421780262 := by decide +kernel
  have c4 : Crc.add 0 (Br.bytes (⟨#[49, 50, 51, 52]⟩ : ByteArray)) = 2615402659 := by decide +kernel
  have h5 : sum_Add.f k ((2615402659 : Nat) : Int) [53, 54, 55, 56, 57] = some ((Crc.add 2615402659 [53, 54, 55, 56, 57] : Nat) : Int) :=
    add_eq k 2615402659 [53, 54, 55, 56, 57] (by show 5 + 9 < k; omega) (by decide) (by decide) (by decide)
  have c5 : Crc.add 2615402659 [53, 54, 55, 56, 57] = 3421780262 := by decide +kernel
  have h6 : sum_Sum.f k ([0] : List Int) = some ((Crc.add 0 [0] : Nat) : Int) := sum_eq k [0] (by show 1 + 9 < k; omega) (by decide) (by decide)
  have c6 : Crc.add 0 [0] = 3523407757 := by decide +kernel
  have c1 : Crc.add 0 [] = 0 := by decide +kernel
  rw [h1, h2, h3, h4, c1, c2, c3, c4]
  simp only [Option.bind_some]
  rw [h5, h6, c5, c6]
  simp

theorem xor3_snoc (a b c : List Nat) (i : Nat) (ha : i < a.length) (hb : i < b.length) (hc : i < c.length) (x : Nat) (hx : x = a.getD i 0 ^^^ b.getD i 0 ^^^ c.getD i 0) :
    x :: Crc.xor3 (a.drop (i + 1)) (b.drop (i + 1)) (c.drop (i + 1)) = Crc.xor3 (a.drop i) (b.drop i) (c.drop i) := by
  rw [List.drop_eq_getElem_cons ha, List.drop_eq_getElem_cons hb, List.drop_eq_getElem_cons hc, Crc.xor3, hx]
  simp [List.getD_eq_getElem?_getD, ha, hb, hc]
theorem take_ints (l : List Nat) (n : Nat) : (Br.ints l).take ((n : Int)).toNat = Br.ints (l.take n) := by
  simp [Br.ints, List.map_take]
theorem linear_l0 (a b c : List Nat) (ha : ∀ x, x ∈ a → x < 256) (hb : ∀ x, x ∈ b → x < 256) (hc : ∀ x, x ∈ c → x < 256) (n : Nat) (na : n ≤ a.length) (nb : n ≤ b.length) (nc : n ≤ c.length) (hm : n ≤ 140737488351232)
    (d : Nat) : ∀ (k i : Nat) (acc : List Nat), i + d = n → d + n + 20 < k → acc.length = i → (∀ x, x ∈ acc → x < 256) →
    acc ++ Crc.xor3 ((a.take n).drop i) ((b.take n).drop i) ((c.take n).drop i) = Crc.xor3 (a.take n) (b.take n) (c.take n) →
    palatinelaw02_SumLinear.l0 k (Br.ints a) (Br.ints b) (Br.ints c) true (n : Int) (Br.ints acc) (i : Int) = some true := by
  have la : (a.take n).length = n := by rw [List.length_take]; omega
  have lb : (b.take n).length = n := by rw [List.length_take]; omega
  have lc : (c.take n).length = n := by rw [List.length_take]; omega
  have ta : ∀ x, x ∈ a.take n → x < 256 := fun x hx => ha x (List.mem_of_mem_take hx)
  have tb : ∀ x, x ∈ b.take n → x < 256 := fun x hx => hb x (List.mem_of_mem_take hx)
  have tc : ∀ x, x ∈ c.take n → x < 256 := fun x hx => hc x (List.mem_of_mem_take hx)
  induction d with
  | zero =>
    intro k i acc hi hk hacc hlt heq
    obtain ⟨k, rfl⟩ : ∃ m, k = m + 1 := ⟨k - 1, by omega⟩
    have hacc2 : acc = Crc.xor3 (a.take n) (b.take n) (c.take n) := by
      rw [← heq, List.drop_of_length_le (by omega)]
      simp [Crc.xor3]
    simp only [palatinelaw02_SumLinear.l0, take_ints]
    have c1 : ¬ (i : Int) < (n : Int) := by omega
    have c2 : (0 : Int) ≤ (n : Int) := by omega
    have c3 : (n : Int) ≤ ((Br.ints a).length : Int) := by rw [List.length_map]; omega
    have c4 : (n : Int) ≤ ((Br.ints b).length : Int) := by rw [List.length_map]; omega
    have c5 : (n : Int) ≤ ((Br.ints c).length : Int) := by rw [List.length_map]; omega
    rw [if_neg c1, if_pos c2, if_pos c3, sum_eq k _ (by omega) ta (by omega), Option.bind_some]
    rw [if_pos c4, sum_eq k _ (by omega) tb (by omega), Option.bind_some, if_pos c5, sum_eq k _ (by omega) tc (by omega), Option.bind_some]
    rw [sum_eq k acc (by omega) hlt (by omega), Option.bind_some, if_pos trivial]
    have l1 := Crc.add_lt (a.take n) (s := 0) (by decide) ta
    have l2 := Crc.add_lt (b.take n) (s := 0) (by decide) tb
    have l3 := Crc.add_lt (c.take n) (s := 0) (by decide) tc
    rw [Br.xor_u32 _ _ l1 l2, Br.xor_u32 _ _ (Nat.xor_lt_two_pow l1 l2) l3, hacc2, Crc.add_xor3 _ _ _ (by omega) (by omega)]
    simp
  | succ d ih =>
    intro k i acc hi hk hacc hlt heq
    obtain ⟨k, rfl⟩ : ∃ m, k = m + 1 := ⟨k - 1, by omega⟩
    have hl : (Br.ints acc).length < 140737488355328 := by rw [List.length_map]; omega
    have r1 : (i + 1) + d = n := by omega
    have r2 : d + n + 20 < k := by omega
    have r3 : i < n := by omega
    have c1 : (i : Int) < (n : Int) := by omega
    have c2 : (0 : Int) ≤ (i : Int) := by omega
    have c3 : (i : Int) < ((Br.ints a).length : Int) := by rw [List.length_map]; omega
    have c4 : (i : Int) < ((Br.ints b).length : Int) := by rw [List.length_map]; omega
    have c5 : (i : Int) < ((Br.ints c).length : Int) := by rw [List.length_map]; omega
    have e1 : wrap64 ((i : Int) + 1) = ((i + 1 : Nat) : Int) := by rw [Br.w64 _ (by omega) (by omega)]; omega
    have xa := Br.getD_lt a ha i
    have xb := Br.getD_lt b hb i
    have xc := Br.getD_lt c hc i
    simp only [palatinelaw02_SumLinear.l0, Br.rd_ints, e1, Br.xor_u8 _ _ xa xb, Br.xor_u8 _ _ (Nat.xor_lt_two_pow (n := 8) xa xb) xc]
    rw [if_pos c1, if_pos c2, if_pos c3, if_pos c4, if_pos c5, if_pos hl]
    have es : Br.ints acc ++ [((a.getD i 0 ^^^ b.getD i 0 ^^^ c.getD i 0 : Nat) : Int)] = Br.ints (acc ++ [a.getD i 0 ^^^ b.getD i 0 ^^^ c.getD i 0]) := by simp [Br.ints]
    rw [es]
    refine ih k (i + 1) _ r1 r2 (by rw [List.length_append, hacc]; rfl) (fun x hx => ?_) ?_
    · rcases List.mem_append.mp hx with h | h
      · exact hlt x h
      · have : x = a.getD i 0 ^^^ b.getD i 0 ^^^ c.getD i 0 := by simpa using h
        rw [this]
        exact Nat.xor_lt_two_pow (n := 8) (Nat.xor_lt_two_pow (n := 8) xa xb) xc
    · rw [← heq, List.append_assoc]
      congr 1
      refine xor3_snoc (a.take n) (b.take n) (c.take n) i (Nat.lt_of_lt_of_eq r3 la.symm) (Nat.lt_of_lt_of_eq r3 lb.symm) (Nat.lt_of_lt_of_eq r3 lc.symm) _ ?_
      have g : ∀ l : List Nat, (l.take n).getD i 0 = l.getD i 0 := by
        intro l
        rw [List.getD_eq_getElem?_getD, List.getD_eq_getElem?_getD, List.getElem?_take, if_pos r3]
      rw [g, g, g]
theorem mn_nat (a b : Nat) : mn (a : Int) (b : Int) = ((min a b : Nat) : Int) := by
  unfold mn
  split <;> omega
theorem SumLinear : palatinelaw02_SumLinear.Pure := by
  intro l0 l1 l2 _ h0 w0 _ h1 w1 _ h2 w2
  obtain ⟨a, rfl, ha, la⟩ := Br.nats l0 w0
  obtain ⟨b, rfl, hb, lb⟩ := Br.nats l1 w1
  obtain ⟨c, rfl, hc, lc⟩ := Br.nats l2 w2
  rw [← la] at h0
  refine ⟨2 * a.length + 30, ?_⟩
  unfold palatinelaw02_SumLinear.f
  rw [awake_eq _ (by omega), Option.bind_some, ← la, ← lb, ← lc, mn_nat, mn_nat]
  refine linear_l0 a b c ha hb hc (min (min a.length b.length) c.length) (by omega) (by omega) (by omega) (by omega) _ _ 0 [] (by rw [Nat.zero_add]) (by omega) rfl (by simp) ?_
  simp

end Go.Proofs.Ytgdeohpkfpbeiaa.Pure
