/- Sums go on: of two lists of bytes, one behind the other, the sum is that of the one gone on with by the other; here where the lists have at most 1048576 bytes each (the row's bulk). -/
import Derived.Test.YtgdeohpkfpbeiaaPSumJoinsx1
import Derived.Test.YtgdeohpkfpbeiaaCrc
import Derived.Test.YtgdeohpkfpbeiaaBr
namespace Go.Proofs.Ytgdeohpkfpbeiaa.PureJoins
open Go.RowKit Go.Proofs.Ytgdeohpkfpbeiaa.PSumJoins Go.Proofs.YtgdeohpkfpbeiaaW.PrintWords Go.Proofs.YtgdeohpkfpbeiaaW.PrintLast Go.Proofs.YtgdeohpkfpbeiaaW.PrintMore

theorem byteOf_l0 (d : Nat) : ∀ (k r i : Nat), i + d = 8 → d < k → r < 2 ^ 32 → sum_byteOf.l0 k (r : Int) (i : Int) = some ((Crc.steps d r : Nat) : Int) := by
  induction d with
  | zero =>
    intro k r i hi hk _
    obtain ⟨k, rfl⟩ : ∃ m, k = m + 1 := ⟨k - 1, by omega⟩
    simp only [sum_byteOf.l0, Crc.steps]
    rw [if_neg (by omega)]
  | succ d ih =>
    intro k r i hi hk hr
    obtain ⟨k, rfl⟩ : ∃ m, k = m + 1 := ⟨k - 1, by omega⟩
    have e1 : wrap64 ((i : Int) + 1) = ((i + 1 : Nat) : Int) := by rw [Br.w64 _ (by omega) (by omega)]; omega
    have e2 : ((r : Int) / 2) = ((r / 2 : Nat) : Int) := by omega
    have e3 : Go.bits .xor .u32 ((r / 2 : Nat) : Int) 3988292384 = ((r / 2 ^^^ Crc.P : Nat) : Int) := Br.xor_u32 _ 3988292384 (by omega) (by decide)
    simp only [sum_byteOf.l0, Crc.steps, e1, e2, e3, Br.and1_u32 r hr]
    rw [if_pos (by omega)]
    have hs := Crc.step_lt hr
    unfold Crc.step at hs ⊢
    by_cases h : r % 2 = 1
    · rw [if_pos h] at hs ⊢
      rw [if_pos (by rw [h]; rfl), ih k _ (i + 1) (by omega) (by omega) hs]
    · rw [if_neg h] at hs ⊢
      rw [if_neg (by omega), ih k _ (i + 1) (by omega) (by omega) hs]
theorem byteOf_eq (k r b : Nat) (hk : 8 < k) (hr : r < 2 ^ 32) (hb : b < 256) : sum_byteOf.f k (r : Int) (b : Int) = some ((Crc.byteOf r b : Nat) : Int) := by
  unfold sum_byteOf.f Crc.byteOf
  have e1 : ((b : Int)) % 4294967296 = (b : Int) := by omega
  rw [e1, Br.xor_u32 r b hr (by omega)]
  exact byteOf_l0 8 k _ 0 rfl hk (Nat.xor_lt_two_pow hr (by omega))
theorem byteOf_lt {r b : Nat} (hr : r < 2 ^ 32) (hb : b < 256) : Crc.byteOf r b < 2 ^ 32 := Crc.steps_lt 8 (Nat.xor_lt_two_pow hr (by omega))
theorem add_l0 (l : List Nat) (hl : ∀ b, b ∈ l → b < 256) (hm : l.length ≤ 2 ^ 62) (d : Nat) : ∀ (k r i : Nat), i + d = l.length → d + 9 < k → r < 2 ^ 32 →
    sum_Add.l0 k (r : Int) (Br.ints l) (l.length : Int) (i : Int) = some ((Crc.M ^^^ Crc.run r (l.drop i) : Nat) : Int) := by
  induction d with
  | zero =>
    intro k r i hi hk hr
    obtain ⟨k, rfl⟩ : ∃ m, k = m + 1 := ⟨k - 1, by omega⟩
    simp only [sum_Add.l0]
    rw [if_neg (by omega), List.drop_of_length_le (by omega)]
    have : Go.bits .xor .u32 4294967295 (r : Int) = ((Crc.M ^^^ r : Nat) : Int) := Br.xor_u32 4294967295 r (by decide) hr
    rw [this]
    rfl
  | succ d ih =>
    intro k r i hi hk hr
    obtain ⟨k, rfl⟩ : ∃ m, k = m + 1 := ⟨k - 1, by omega⟩
    have e1 : wrap64 ((i : Int) + 1) = ((i + 1 : Nat) : Int) := by rw [Br.w64 _ (by omega) (by omega)]; omega
    have hlt : i < l.length := by omega
    have hb := Br.getD_lt l hl i
    simp only [sum_Add.l0, Br.rd_ints, byteOf_eq k r _ (by omega) hr hb, Option.bind_some, e1]
    rw [if_pos (by omega), if_pos (by omega), if_pos (by simp; omega), ih k _ (i + 1) (by omega) (by omega) (byteOf_lt hr hb)]
    rw [List.drop_eq_getElem_cons hlt, Crc.run_cons]
    simp [List.getD_eq_getElem?_getD, List.getElem?_eq_getElem hlt]
theorem add_eq (k s : Nat) (l : List Nat) (hk : l.length + 9 < k) (hs : s < 2 ^ 32) (hl : ∀ b, b ∈ l → b < 256) (hm : l.length ≤ 2 ^ 62) :
    sum_Add.f k (s : Int) (Br.ints l) = some ((Crc.add s l : Nat) : Int) := by
  unfold sum_Add.f Crc.add
  have e : Go.bits .xor .u32 4294967295 (s : Int) = ((Crc.M ^^^ s : Nat) : Int) := Br.xor_u32 4294967295 s (by decide) hs
  rw [e, List.length_map]
  exact add_l0 l hl hm l.length k _ 0 (by omega) hk (Nat.xor_lt_two_pow (by decide) hs)
theorem sum_eq (k : Nat) (l : List Nat) (hk : l.length + 9 < k) (hl : ∀ b, b ∈ l → b < 256) (hm : l.length ≤ 2 ^ 62) : sum_Sum.f k (Br.ints l) = some ((Crc.add 0 l : Nat) : Int) := by
  unfold sum_Sum.f
  have h : sum_Add.f k 0 (Br.ints l) = some ((Crc.add 0 l : Nat) : Int) := add_eq k 0 l hk (by decide) hl hm
  rw [h]
  rfl
theorem text_l0 (s : ByteArray) (hm : s.size ≤ 2 ^ 62) (d : Nat) : ∀ (k r i : Nat), i + d = s.size → d + 9 < k → r < 2 ^ 32 →
    sum_Text.l0 k s (r : Int) (s.size : Int) (i : Int) = some ((Crc.M ^^^ Crc.run r ((Br.bytes s).drop i) : Nat) : Int) := by
  have hlen := Br.bytes_length s
  induction d with
  | zero =>
    intro k r i hi hk hr
    obtain ⟨k, rfl⟩ : ∃ m, k = m + 1 := ⟨k - 1, by omega⟩
    simp only [sum_Text.l0]
    rw [if_neg (by omega), List.drop_of_length_le (by omega)]
    have : Go.bits .xor .u32 4294967295 (r : Int) = ((Crc.M ^^^ r : Nat) : Int) := Br.xor_u32 4294967295 r (by decide) hr
    rw [this]
    rfl
  | succ d ih =>
    intro k r i hi hk hr
    obtain ⟨k, rfl⟩ : ∃ m, k = m + 1 := ⟨k - 1, by omega⟩
    have e1 : wrap64 ((i : Int) + 1) = ((i + 1 : Nat) : Int) := by rw [Br.w64 _ (by omega) (by omega)]; omega
    have hlt : i < s.size := by omega
    have hlt2 : i < (Br.bytes s).length := by omega
    have hb := Br.getD_lt (Br.bytes s) (Br.bytes_lt s) i
    simp only [sum_Text.l0, Br.bt_bytes s i hlt, byteOf_eq k r _ (by omega) hr hb, Option.bind_some, e1]
    rw [if_pos (by omega), if_pos (by omega), if_pos (by omega), ih k _ (i + 1) (by omega) (by omega) (byteOf_lt hr hb)]
    rw [List.drop_eq_getElem_cons hlt2, Crc.run_cons]
    simp [List.getD_eq_getElem?_getD, List.getElem?_eq_getElem hlt2]
theorem text_eq (k : Nat) (s : ByteArray) (hk : s.size + 9 < k) (hm : s.size ≤ 2 ^ 62) : sum_Text.f k s = some ((Crc.add 0 (Br.bytes s) : Nat) : Int) := by
  unfold sum_Text.f Crc.add
  exact text_l0 s hm s.size k 4294967295 0 (by omega) hk (by decide)
theorem awake_eq (k : Nat) (hk : 20 < k) : palatinelaw02_awake.f k = some true := by
  unfold palatinelaw02_awake.f
  have h1 : sum_Sum.f k ([] : List Int) = some ((Crc.add 0 [] : Nat) : Int) := sum_eq k [] (by simp; omega) (by simp) (by simp)
  have h2 := text_eq k (⟨#[]⟩ : ByteArray) (by show 0 + 9 < k; omega) (by decide)
  have h3 := text_eq k (⟨#[49, 50, 51, 52, 53, 54, 55, 56, 57]⟩ : ByteArray) (by show 9 + 9 < k; omega) (by decide)
  have h4 := text_eq k (⟨#[49, 50, 51, 52]⟩ : ByteArray) (by show 4 + 9 < k; omega) (by decide)
  have c2 : Crc.add 0 (Br.bytes (⟨#[]⟩ : ByteArray)) = 0 := by decide +kernel
  have c3 : Crc.add 0 (Br.bytes (⟨#[49, 50, 51, 52, 53, 54, 55, 56, 57]⟩ : ByteArray)) = 3421780262 := by decide +kernel
  have c4 : Crc.add 0 (Br.bytes (⟨#[49, 50, 51, 52]⟩ : ByteArray)) = 2615402659 := by decide +kernel
  have h5 : sum_Add.f k ((2615402659 : Nat) : Int) [53, 54, 55, 56, 57] = some ((Crc.add 2615402659 [53, 54, 55, 56, 57] : Nat) : Int) :=
    add_eq k 2615402659 [53, 54, 55, 56, 57] (by show 5 + 9 < k; omega) (by decide) (by decide) (by decide)
  have c5 : Crc.add 2615402659 [53, 54, 55, 56, 57] = 3421780262 := by decide +kernel
  have h6 : sum_Sum.f k ([0] : List Int) = some ((Crc.add 0 [0] : Nat) : Int) := sum_eq k [0] (by show 1 + 9 < k; omega) (by decide) (by decide)
  have c6 : Crc.add 0 [0] = 3523407757 := by decide +kernel
  have c1 : Crc.add 0 [] = 0 := by decide +kernel
  rw [h1, h2, h3, h4, c1, c2, c3, c4]
  simp only [Option.bind_some]
  rw [h5, h6, c5, c6]
  simp

theorem ints_append (a b : List Nat) : Br.ints a ++ Br.ints b = Br.ints (a ++ b) := by simp [Br.ints]
theorem joins (s : Nat) (a b : List Nat) (hs : s < 2 ^ 32) (ha : ∀ x, x ∈ a → x < 256) (hb : ∀ x, x ∈ b → x < 256) (la : a.length ≤ 1048576) (lb : b.length ≤ 1048576) :
    palatinelaw02_SumJoins.f (a.length + b.length + 40) (s : Int) (Br.ints a) (Br.ints b) = some true := by
  have hab : ∀ x, x ∈ a ++ b → x < 256 := fun x hx => (List.mem_append.mp hx).elim (ha x) (hb x)
  have lab : (a ++ b).length = a.length + b.length := List.length_append
  have h1 : ([] : List Int).length + (Br.ints a).length < 140737488355328 := by rw [List.length_map, List.length_nil]; omega
  have h2 : (Br.ints a).length + (Br.ints b).length < 140737488355328 := by rw [List.length_map, List.length_map]; omega
  have hk1 : a.length + 9 < a.length + b.length + 40 := by omega
  have hk2 : b.length + 9 < a.length + b.length + 40 := by omega
  have hk3 : (a ++ b).length + 9 < a.length + b.length + 40 := by omega
  have hm1 : a.length ≤ 2 ^ 62 := by omega
  have hm2 : b.length ≤ 2 ^ 62 := by omega
  have hm3 : (a ++ b).length ≤ 2 ^ 62 := by omega
  have hl1 := Crc.add_lt a hs ha
  have hz : (strOfNums (Br.ints (a ++ b))).size = (a ++ b).length := by rw [strOfNums_size, List.length_map]
  have ht := text_eq (a.length + b.length + 40) (strOfNums (Br.ints (a ++ b))) (by omega) (by omega)
  rw [Br.bytes_str _ hab] at ht
  unfold palatinelaw02_SumJoins.f
  rw [awake_eq _ (by omega), Option.bind_some, Option.bind_some, if_pos h1, List.nil_append, Option.bind_some, if_pos h2, Option.bind_some]
  rw [add_eq _ s a hk1 hs ha hm1, Option.bind_some, add_eq _ _ b hk2 hl1 hb hm2, Option.bind_some, ints_append, add_eq _ s (a ++ b) hk3 hs hab hm3, Option.bind_some, ht, Option.bind_some]
  rw [sum_eq _ (a ++ b) hk3 hab hm3, Option.bind_some, if_pos rfl, Crc.add_append, if_pos rfl]
  simp
theorem walk (a0 : Int) (a1 : Option Addr) (len1 cap1 : Nat) (z1 : List Int) (a2 : Option Addr) (len2 cap2 : Nat) (z2 : List Int) (w : World) (w0 : (Lit.int .u32 a0).wf = true)
    (w1 : (a1 = none ∧ len1 = 0 ∧ cap1 = 0 ∧ z1 = []) ∨ ∃ x, a1 = some x ∧ len1 ≤ cap1 ∧ cap1 ≤ maxLen ∧ z1.length = cap1 ∧ (∀ i, i < z1.length → w.cell? (x.add i) = some (.int .u8 (z1.getD i 0))) ∧ ∀ n ∈ z1, (Lit.int .u8 n).wf = true) (_y1 : len1 * 1 ≤ 140737488351232) (u1 : len1 ≤ 1048576)
    (w2 : (a2 = none ∧ len2 = 0 ∧ cap2 = 0 ∧ z2 = []) ∨ ∃ x, a2 = some x ∧ len2 ≤ cap2 ∧ cap2 ≤ maxLen ∧ z2.length = cap2 ∧ (∀ i, i < z2.length → w.cell? (x.add i) = some (.int .u8 (z2.getD i 0))) ∧ ∀ n ∈ z2, (Lit.int .u8 n).wf = true) (_y2 : len2 * 1 ≤ 140737488351232) (u2 : len2 ≤ 1048576) :
    Calls Try.prog 4 #[.int .u32 a0, .slice a1 len1 cap1, .slice a2 len2 cap2] w fun e w' => e = .returned (.bool true) ∧ Below w.heap.size w w' := by
  obtain ⟨l1, rfl, hr1, hm1, hw1, hc1⟩ := ReadsInt.ofRowC w1
  obtain ⟨l2, rfl, hr2, hm2, hw2, hc2⟩ := ReadsInt.ofRowC w2
  obtain ⟨s, rfl, hs⟩ := Br.wf_u32 w0
  obtain ⟨a, ea, ha, la⟩ := Br.nats l1 hw1
  obtain ⟨b, eb, hb, lb⟩ := Br.nats l2 hw2
  have h : palatinelaw02_SumJoins.f (a.length + b.length + 40) (s : Int) l1 l2 = some true := by
    rw [ea, eb]
    exact joins s a b hs ha hb (by omega) (by omega)
  refine (palatinelaw02_SumJoins.calls _ _ _ _ l1 _ _ l2 true w (Kd.C_of_reads (d := (0 : Int)) (h1 := fun _ => rfl) hr1) hc1 (Kd.C_of_reads (d := (0 : Int)) (h1 := fun _ => rfl) hr2) hc2 h).mono ?_
  rintro e w' ⟨rfl, hd⟩
  exact ⟨rfl, hd⟩

end Go.Proofs.Ytgdeohpkfpbeiaa.PureJoins
