/- Each sum is the document's: any sum, any bytes, any text. No condition. -/
import Derived.Test.YtgdeohpkfpbeiaaPSumIsx1
import Derived.Test.YtgdeohpkfpbeiaaCrc
import Derived.Test.YtgdeohpkfpbeiaaBr
import Derived.Outline
import Derived.Lib.Hide
namespace Go.Proofs.Ytgdeohpkfpbeiaa.PureIs
open Go.RowKit Go.Proofs.Ytgdeohpkfpbeiaa.PSumIs Go.Proofs.YtgdeohpkfpbeiaaW.PrintWords Go.Proofs.YtgdeohpkfpbeiaaW.PrintLast Go.Proofs.YtgdeohpkfpbeiaaW.PrintMore

theorem bytesOf_length (s : ByteArray) : (bytesOf s).length = s.size := by simp [bytesOf]
theorem grown_ge (w : World) (n m : Nat) (e : TypeId) : n ≤ grownCap w n m e := by
  unfold grownCap
  simp [Question.cut]
theorem C_bytes (w : World) (s : ByteArray) (hs : s.size ≤ 9223372036854775807) : Kd.C (Kd.int .u8) (Lib.bytesWorld w 5 s) (some ⟨w.heap.size, 0, none⟩) (bytesOf s).length (bytesOf s) := by
  refine ⟨rfl, by rw [bytesOf_length]; exact hs, fun _ => ⟨_, rfl, fun j p hp => ⟨[.int .u8 p], rfl, rfl, fun i u hu => ?_⟩⟩⟩
  have hj : j < s.size := by
    have := (List.getElem?_eq_some_iff.1 hp).1
    rwa [bytesOf_length] at this
  cases i with
  | succ i => simp at hu
  | zero =>
    have hu : Value.int .u8 p = u := by simpa using hu
    subst hu
    have hc := Lib.bytesWorld_cell w 5 s j hj
    have hv : ((s.data.toList.getD j 0).toNat : Int) = p := by
      unfold bytesOf at hp
      rw [List.getElem?_map] at hp
      rw [List.getD_eq_getElem?_getD]
      cases hq : s.data.toList[j]? with
      | none => simp [hq] at hp
      | some b => simpa [hq] using hp
    rw [hv] at hc
    have e : (Addr.add ⟨w.heap.size, 0, none⟩ (j * (Kd.int .u8).sz + 0)) = ⟨w.heap.size, j, none⟩ := by
      show (Addr.add ⟨w.heap.size, 0, none⟩ (j * 1 + 0)) = _
      unfold Addr.add
      by_cases h0 : j = 0
      · simp [h0]
      · simp [h0]
    rw [e]
    exact hc
theorem below_bytes (w : World) (s : ByteArray) : Below w.heap.size w (Lib.bytesWorld w 5 s) := by
  refine ⟨?_, ?_, ?_, ?_, ?_⟩
  · simp [Lib.bytesWorld, World.freeze, World.alloc, World.drew, -World.alloc_eq, -World.drew_eq]
  · simp [Lib.bytesWorld, World.freeze, World.alloc, World.drew, -World.alloc_eq, -World.drew_eq]
  · simp [Lib.bytesWorld, World.freeze, World.alloc, World.drew, -World.alloc_eq, -World.drew_eq]
  · rw [Lib.bytesWorld_size]; omega
  · intro j hj; exact Lib.bytesWorld_at_old w 5 s j hj
theorem byteOf_l0 (d : Nat) : ∀ (k r i : Nat), i + d = 8 → d < k → r < 2 ^ 32 → sum_byteOf.l0 k (r : Int) (i : Int) = some ((Crc.steps d r : Nat) : Int) := by
  induction d with
  | zero =>
    intro k r i hi hk _
    obtain ⟨k, rfl⟩ : ∃ m, k = m + 1 := ⟨k - 1, by omega⟩
    simp only [sum_byteOf.l0, Crc.steps]
    rw [if_neg (by omega)]
  | succ d ih =>
    intro k r i hi hk hr
    obtain ⟨k, rfl⟩ : ∃ m, k = m + 1 := ⟨k - 1, by omega⟩
    have e1 : wrap64 ((i : Int) + 1) = ((i + 1 : Nat) : Int) := by rw [Br.w64 _ (by omega) (by omega)]; omega
    have e2 : ((r : Int) / 2) = ((r / 2 : Nat) : Int) := by omega
    have e3 : Go.bits .xor .u32 ((r / 2 : Nat) : Int) 3988292384 = ((r / 2 ^^^ Crc.P : Nat) : Int) := Br.xor_u32 _ 3988292384 (by omega) (by decide)
    simp only [sum_byteOf.l0, Crc.steps, e1, e2, e3, Br.and1_u32 r hr]
    rw [if_pos (by omega)]
    have hs := Crc.step_lt hr
    unfold Crc.step at hs ⊢
    by_cases h : r % 2 = 1
    · rw [if_pos h] at hs ⊢
      rw [if_pos (by rw [h]; rfl), ih k _ (i + 1) (by omega) (by omega) hs]
    · rw [if_neg h] at hs ⊢
      rw [if_neg (by omega), ih k _ (i + 1) (by omega) (by omega) hs]
theorem byteOf_eq (k r b : Nat) (hk : 8 < k) (hr : r < 2 ^ 32) (hb : b < 256) : sum_byteOf.f k (r : Int) (b : Int) = some ((Crc.byteOf r b : Nat) : Int) := by
  unfold sum_byteOf.f Crc.byteOf
  have e1 : ((b : Int)) % 4294967296 = (b : Int) := by omega
  rw [e1, Br.xor_u32 r b hr (by omega)]
  exact byteOf_l0 8 k _ 0 rfl hk (Nat.xor_lt_two_pow hr (by omega))
theorem byteOf_lt {r b : Nat} (hr : r < 2 ^ 32) (hb : b < 256) : Crc.byteOf r b < 2 ^ 32 := Crc.steps_lt 8 (Nat.xor_lt_two_pow hr (by omega))
theorem add_l0 (l : List Nat) (hl : ∀ b, b ∈ l → b < 256) (hm : l.length ≤ 2 ^ 62) (d : Nat) : ∀ (k r i : Nat), i + d = l.length → d + 9 < k → r < 2 ^ 32 →
    sum_Add.l0 k (r : Int) (Br.ints l) (l.length : Int) (i : Int) = some ((Crc.M ^^^ Crc.run r (l.drop i) : Nat) : Int) := by
  induction d with
  | zero =>
    intro k r i hi hk hr
    obtain ⟨k, rfl⟩ : ∃ m, k = m + 1 := ⟨k - 1, by omega⟩
    simp only [sum_Add.l0]
    rw [if_neg (by omega), List.drop_of_length_le (by omega)]
    have : Go.bits .xor .u32 4294967295 (r : Int) = ((Crc.M ^^^ r : Nat) : Int) := Br.xor_u32 4294967295 r (by decide) hr
    rw [this]
    rfl
  | succ d ih =>
    intro k r i hi hk hr
    obtain ⟨k, rfl⟩ : ∃ m, k = m + 1 := ⟨k - 1, by omega⟩
    have e1 : wrap64 ((i : Int) + 1) = ((i + 1 : Nat) : Int) := by rw [Br.w64 _ (by omega) (by omega)]; omega
    have hlt : i < l.length := by omega
    have hb := Br.getD_lt l hl i
    simp only [sum_Add.l0, Br.rd_ints, byteOf_eq k r _ (by omega) hr hb, Option.bind_some, e1]
    rw [if_pos (by omega), if_pos (by omega), if_pos (by simp; omega), ih k _ (i + 1) (by omega) (by omega) (byteOf_lt hr hb)]
    rw [List.drop_eq_getElem_cons hlt, Crc.run_cons]
    simp [List.getD_eq_getElem?_getD, List.getElem?_eq_getElem hlt]
theorem add_eq (k s : Nat) (l : List Nat) (hk : l.length + 9 < k) (hs : s < 2 ^ 32) (hl : ∀ b, b ∈ l → b < 256) (hm : l.length ≤ 2 ^ 62) :
    sum_Add.f k (s : Int) (Br.ints l) = some ((Crc.add s l : Nat) : Int) := by
  unfold sum_Add.f Crc.add
  have e : Go.bits .xor .u32 4294967295 (s : Int) = ((Crc.M ^^^ s : Nat) : Int) := Br.xor_u32 4294967295 s (by decide) hs
  rw [e, List.length_map]
  exact add_l0 l hl hm l.length k _ 0 (by omega) hk (Nat.xor_lt_two_pow (by decide) hs)
theorem sum_eq (k : Nat) (l : List Nat) (hk : l.length + 9 < k) (hl : ∀ b, b ∈ l → b < 256) (hm : l.length ≤ 2 ^ 62) : sum_Sum.f k (Br.ints l) = some ((Crc.add 0 l : Nat) : Int) := by
  unfold sum_Sum.f
  have h : sum_Add.f k 0 (Br.ints l) = some ((Crc.add 0 l : Nat) : Int) := add_eq k 0 l hk (by decide) hl hm
  rw [h]
  rfl
theorem text_l0 (s : ByteArray) (hm : s.size ≤ 2 ^ 62) (d : Nat) : ∀ (k r i : Nat), i + d = s.size → d + 9 < k → r < 2 ^ 32 →
    sum_Text.l0 k s (r : Int) (s.size : Int) (i : Int) = some ((Crc.M ^^^ Crc.run r ((Br.bytes s).drop i) : Nat) : Int) := by
  have hlen := Br.bytes_length s
  induction d with
  | zero =>
    intro k r i hi hk hr
    obtain ⟨k, rfl⟩ : ∃ m, k = m + 1 := ⟨k - 1, by omega⟩
    simp only [sum_Text.l0]
    rw [if_neg (by omega), List.drop_of_length_le (by omega)]
    have : Go.bits .xor .u32 4294967295 (r : Int) = ((Crc.M ^^^ r : Nat) : Int) := Br.xor_u32 4294967295 r (by decide) hr
    rw [this]
    rfl
  | succ d ih =>
    intro k r i hi hk hr
    obtain ⟨k, rfl⟩ : ∃ m, k = m + 1 := ⟨k - 1, by omega⟩
    have e1 : wrap64 ((i : Int) + 1) = ((i + 1 : Nat) : Int) := by rw [Br.w64 _ (by omega) (by omega)]; omega
    have hlt : i < s.size := by omega
    have hlt2 : i < (Br.bytes s).length := by omega
    have hb := Br.getD_lt (Br.bytes s) (Br.bytes_lt s) i
    simp only [sum_Text.l0, Br.bt_bytes s i hlt, byteOf_eq k r _ (by omega) hr hb, Option.bind_some, e1]
    rw [if_pos (by omega), if_pos (by omega), if_pos (by omega), ih k _ (i + 1) (by omega) (by omega) (byteOf_lt hr hb)]
    rw [List.drop_eq_getElem_cons hlt2, Crc.run_cons]
    simp [List.getD_eq_getElem?_getD, List.getElem?_eq_getElem hlt2]
theorem text_eq (k : Nat) (s : ByteArray) (hk : s.size + 9 < k) (hm : s.size ≤ 2 ^ 62) : sum_Text.f k s = some ((Crc.add 0 (Br.bytes s) : Nat) : Int) := by
  unfold sum_Text.f Crc.add
  exact text_l0 s hm s.size k 4294967295 0 (by omega) hk (by decide)

theorem allOnes (s : Nat) (h : s < 2 ^ 32) : 4294967295 - s = Crc.M ^^^ s := by
  apply Nat.eq_of_testBit_eq
  intro i
  have h1 : 4294967295 - s = 2 ^ 32 - (s + 1) := by omega
  rw [h1, Nat.testBit_two_pow_sub_succ h, Nat.testBit_xor, show Crc.M = 2 ^ 32 - 1 from rfl, Nat.testBit_two_pow_sub_one]
  by_cases hi : i < 32
  · simp [hi]
  · have : s.testBit i = false := Nat.testBit_lt_two_pow (Nat.lt_of_lt_of_le h (Nat.pow_le_pow_right (by decide) (by omega)))
    simp [hi, this]
theorem ones_int (s : Nat) (h : s < 2 ^ 32) : ((4294967295 - (s : Int)) % 4294967296) = ((Crc.M ^^^ s : Nat) : Int) := by
  rw [← allOnes s h]
  omega
theorem step_pair (r n : Nat) : Crc.step (r ^^^ n) = (if r % 2 = n % 2 then r / 2 else r / 2 ^^^ Crc.P) ^^^ (n / 2) := by
  unfold Crc.step
  rw [Crc.half_xor]
  have hx : (r ^^^ n) % 2 = 1 ↔ ¬ r % 2 = n % 2 := by
    rw [Crc.mod2_bit, Nat.testBit_xor]
    simp only [Nat.testBit_zero]
    have h1 : r % 2 = 0 ∨ r % 2 = 1 := by omega
    have h2 : n % 2 = 0 ∨ n % 2 = 1 := by omega
    rcases h1 with h1 | h1 <;> rcases h2 with h2 | h2 <;> simp [h1, h2]
  by_cases h : r % 2 = n % 2
  · rw [if_neg (fun e => hx.mp e h), if_pos h]
  · rw [if_pos (hx.mpr h), if_neg h, Nat.xor_assoc, Nat.xor_comm (n / 2), ← Nat.xor_assoc]
theorem ref_l1 (l : List Int) (d : Nat) : ∀ (k r i n j : Nat), j + d = 8 → n < 2 ^ d → r < 2 ^ 32 → i < 2 ^ 60 →
    palatineref02_Add.l1 (k + d + 1) l (r : Int) (i : Int) (n : Int) (j : Int) = palatineref02_Add.l0 k l ((Crc.steps d (r ^^^ n) : Nat) : Int) ((i + 1 : Nat) : Int) := by
  induction d with
  | zero =>
    intro k r i n j hj hn hr hi
    have : n = 0 := by simpa using hn
    subst this
    have c1 : ¬ (j : Int) < 8 := by omega
    have e1 : wrap64 ((i : Int) + 1) = ((i + 1 : Nat) : Int) := by rw [Br.w64 _ (by omega) (by omega)]; omega
    rw [show k + 0 + 1 = k + 1 from rfl, palatineref02_Add.l1, if_neg c1, e1, Nat.xor_zero]
    rfl
  | succ d ih =>
    intro k r i n j hj hn hr hi
    have c1 : (j : Int) < 8 := by omega
    have hn2 : n / 2 < 2 ^ d := by rw [Nat.pow_succ] at hn; omega
    have hnb : n < 2 ^ 32 := Nat.lt_of_lt_of_le hn (Nat.pow_le_pow_right (by decide) (by omega))
    have hd : r / 2 ^^^ Crc.P < 2 ^ 32 := Nat.xor_lt_two_pow (by omega) (by decide)
    have e2 : Int.tmod (r : Int) 2 = ((r % 2 : Nat) : Int) := by rw [Int.tmod_eq_emod_of_nonneg (by omega)]; omega
    have e3 : Int.tmod (n : Int) 2 = ((n % 2 : Nat) : Int) := by rw [Int.tmod_eq_emod_of_nonneg (by omega)]; omega
    have e4 : (Int.tdiv (r : Int) 2) % 4294967296 = ((r / 2 : Nat) : Int) := by rw [Int.tdiv_eq_ediv_of_nonneg (by omega)]; omega
    have e5 : Int.tdiv (n : Int) 2 = ((n / 2 : Nat) : Int) := by rw [Int.tdiv_eq_ediv_of_nonneg (by omega)]; omega
    have e8 : Go.bits .xor .u32 ((r / 2 : Nat) : Int) 3988292384 = ((r / 2 ^^^ Crc.P : Nat) : Int) := Br.xor_u32 _ 3988292384 (by omega) (by decide)
    have hs := step_pair r n
    have e1 : wrap64 ((j : Int) + 1) = ((j + 1 : Nat) : Int) := by rw [Br.w64 _ (by omega) (by omega)]; omega
    have e6 : wrap64 ((n / 2 : Nat) : Int) = ((n / 2 : Nat) : Int) := Br.w64 _ (by omega) (by omega)
    have e7 : wrap64 ((r % 2 : Nat) : Int) = ((r % 2 : Nat) : Int) := Br.w64 _ (by omega) (by omega)
    rw [show k + (d + 1) + 1 = (k + d + 1) + 1 from rfl, palatineref02_Add.l1, if_pos c1, e2, e3, e4, e5, e6, e7, e8, e1, Crc.steps, hs]
    by_cases h : r % 2 = n % 2
    · rw [if_pos (by rw [h]), if_pos h, ih k _ i _ (j + 1) (by clear e1 e6 e7; omega) hn2 (by clear e1 e6 e7; omega) hi]
    · rw [if_neg (fun e => h (Int.ofNat_inj.mp e)), if_neg h, ih k _ i _ (j + 1) (by clear e1 e6 e7; omega) hn2 hd hi]
theorem ref_l0 (l : List Nat) (hl : ∀ b, b ∈ l → b < 256) (hm : l.length ≤ 2 ^ 59) (d : Nat) : ∀ (k r i : Nat), i + d = l.length → 10 * d < k → r < 2 ^ 32 →
    palatineref02_Add.l0 k (Br.ints l) (r : Int) (i : Int) = some ((Crc.M ^^^ Crc.run r (l.drop i) : Nat) : Int) := by
  induction d with
  | zero =>
    intro k r i hi hk hr
    obtain ⟨k, rfl⟩ : ∃ m, k = m + 1 := ⟨k - 1, by omega⟩
    have c1 : ¬ (i : Int) < ((Br.ints l).length : Int) := by rw [List.length_map]; omega
    rw [palatineref02_Add.l0, if_neg c1, ones_int r hr, List.drop_of_length_le (by omega)]
    rfl
  | succ d ih =>
    intro k r i hi hk hr
    obtain ⟨k, rfl⟩ : ∃ m, k = (m + 8 + 1) + 1 := ⟨k - 10, by omega⟩
    have hlt : i < l.length := by omega
    have hb := Br.getD_lt l hl i
    have c1 : (i : Int) < ((Br.ints l).length : Int) := by rw [List.length_map]; omega
    have c2 : (0 : Int) ≤ (i : Int) := by omega
    have r1 : (i + 1) + d = l.length := by omega
    have r2 : 10 * d < k := by omega
    have r3 : i < 2 ^ 60 := by omega
    have e1 : wrap64 ((l.getD i 0 : Nat) : Int) = ((l.getD i 0 : Nat) : Int) := Br.w64 _ (by omega) (by omega)
    rw [palatineref02_Add.l0, if_pos c1, if_pos c2, Br.rd_ints, e1]
    have h8 := ref_l1 (Br.ints l) 8 k r i (l.getD i 0) 0 rfl hb hr r3
    rw [show ((0 : Nat) : Int) = 0 from rfl] at h8
    have hlt2 : Crc.byteOf r (l.getD i 0) < 2 ^ 32 := byteOf_lt hr hb
    rw [h8]
    have := ih k (Crc.byteOf r (l.getD i 0)) (i + 1) r1 r2 hlt2
    unfold Crc.byteOf at this
    rw [this, List.drop_eq_getElem_cons hlt, Crc.run_cons]
    simp [Crc.byteOf, List.getD_eq_getElem?_getD, List.getElem?_eq_getElem hlt]
theorem ref_eq (k s : Nat) (l : List Nat) (hk : 10 * l.length < k) (hs : s < 2 ^ 32) (hl : ∀ b, b ∈ l → b < 256) (hm : l.length ≤ 2 ^ 59) :
    palatineref02_Add.f k (s : Int) (Br.ints l) = some ((Crc.add s l : Nat) : Int) := by
  unfold palatineref02_Add.f Crc.add
  rw [ones_int s hs]
  exact ref_l0 l hl hm l.length k _ 0 (by omega) hk (Nat.xor_lt_two_pow (by decide) hs)

/-- The document's Text: its bytes are laid anew. -/
theorem refText_any (s : ByteArray) (k : Nat) (r : Int) (w : World) (hs : s.size ≤ 9223372036854775807) (h : palatineref02_Add.f k 0 (bytesOf s) = some r) :
    Calls Try.prog 12 #[.string s] w fun e w' => e = .returned (.int .u32 r) ∧ Below w.heap.size w w' := by
  have hr := fun w => Lib.run_convert_string_bytes (P := Try.prog) w 9 23 5 s Try.underlying9 Try.underlying23 Try.underlying5
  go_enter Try.func12, Try.ntmps12
  go_wp2_with fail
  have hlen := bytesOf_length s
  refine calls_of_args (args' := #[.int .u32 0, .slice (some ⟨w.heap.size, 0, none⟩) (bytesOf s).length (grownCap w s.size 0 5)]) (by rw [hlen]) ?_
  refine (palatineref02_Add.calls k 0 _ _ (bytesOf s) r _ (C_bytes w s hs) (by rw [hlen]; exact grown_ge _ _ _ _) h).mono ?_
  rintro e w' ⟨rfl, hd⟩
  go_wp2_with fail
  go_ret
  exact ⟨rfl, (below_bytes w s).trans (hd.below.mono (by rw [Lib.bytesWorld_size]; omega))⟩

theorem walk (a0 : Int) (a1 : Option Addr) (len1 cap1 : Nat) (z1 : List Int) (a2 : ByteArray) (w : World) (w0 : (Lit.int .u32 a0).wf = true)
    (w1 : (a1 = none ∧ len1 = 0 ∧ cap1 = 0 ∧ z1 = []) ∨ ∃ x, a1 = some x ∧ len1 ≤ cap1 ∧ cap1 ≤ maxLen ∧ z1.length = cap1 ∧ (∀ i, i < z1.length → w.cell? (x.add i) = some (.int .u8 (z1.getD i 0))) ∧ ∀ n ∈ z1, (Lit.int .u8 n).wf = true) (y1 : len1 * 1 ≤ 140737488351232)
    (w2 : a2.size ≤ 140737488351232) :
    Calls Try.prog 3 #[.int .u32 a0, .slice a1 len1 cap1, .string a2] w fun e w' => e = .returned (.bool true) ∧ Below w.heap.size w w' := by
  obtain ⟨l1, rfl, hr1, hm1, hw1, hc1⟩ := ReadsInt.ofRowC w1
  obtain ⟨s, rfl, hs⟩ := Br.wf_u32 w0
  obtain ⟨l, el, hl, ll⟩ := Br.nats l1 hw1
  have hk1 : l.length + 9 < 10 * (l.length + a2.size) + 40 := by omega
  have hk2 : 10 * l.length < 10 * (l.length + a2.size) + 40 := by omega
  have hm1 : l.length ≤ 2 ^ 62 := by omega
  have hm2 : l.length ≤ 2 ^ 59 := by omega
  have hb := Br.bytes_lt a2
  have hbl := Br.bytes_length a2
  have hbs : bytesOf a2 = Br.ints (Br.bytes a2) := by simp [bytesOf, Br.bytes, Br.ints]
  have f1 := add_eq _ s l hk1 hs hl hm1
  have f2 := sum_eq _ l hk1 hl hm1
  have f3 := text_eq (10 * (l.length + a2.size) + 40) a2 (by omega) (by omega)
  have f4 := ref_eq _ s l hk2 hs hl hm2
  have f5 : palatineref02_Sum.f (10 * (l.length + a2.size) + 40) (Br.ints l) = some ((Crc.add 0 l : Nat) : Int) := by
    unfold palatineref02_Sum.f
    have h := ref_eq _ 0 l hk2 (by decide) hl hm2
    rw [show ((0 : Nat) : Int) = 0 from rfl] at h
    rw [h]
    rfl
  have f6 := ref_eq (10 * (l.length + a2.size) + 40) 0 (Br.bytes a2) (by omega) (by decide) hb (by omega)
  rw [show ((0 : Nat) : Int) = 0 from rfl, ← hbs] at f6
  rw [← el] at f1 f2 f4 f5
  generalize ((Crc.add s l : Nat) : Int) = x1 at f1 f4
  generalize ((Crc.add 0 l : Nat) : Int) = x2 at f2 f5
  generalize ((Crc.add 0 (Br.bytes a2) : Nat) : Int) = x3 at f3 f6
  generalize 10 * (l.length + a2.size) + 40 = k at f1 f2 f3 f4 f5 f6
  have hC : ∀ w', Below w.heap.size w w' → Kd.C (Kd.int .u8) w' a1 l1.length l1 := fun w' hb => Kd.C_below (Kd.C_of_reads (d := (0 : Int)) (h1 := fun _ => rfl) hr1) hb
  have F1 := Lib.hid f1
  have F2 := Lib.hid f2
  have F3 := Lib.hid f3
  have F4 := Lib.hid f4
  have F5 := Lib.hid f5
  have F6 := Lib.hid f6
  have HC := Lib.hid hC
  clear f1 f2 f3 f4 f5 f6 hC hbs el ll hbl hb hk1 hk2 hl hs hm1 hm2 hw1 hr1 w1
  have hsz : a2.size ≤ 9223372036854775807 := by omega
  go_enter Try.func3, Try.ntmps3
  go_wp2_with fail
  refine (sum_Add.calls _ _ _ _ l1 _ _ (HC.out _ (Below.refl _ _)) hc1 F1.out).mono ?_
  rintro e w1 ⟨rfl, hd1⟩
  have B1 := hd1.below
  go_wp2_with fail
  refine (sum_Sum.calls _ _ _ l1 _ _ (HC.out _ B1) hc1 F2.out).mono ?_
  rintro e w2 ⟨rfl, hd2⟩
  have B2 := B1.trans (hd2.below.mono B1.size)
  go_wp2_with fail
  refine (sum_Text.calls _ _ _ _ F3.out).mono ?_
  rintro e w3 ⟨rfl, hd3⟩
  have B3 := B2.trans (hd3.below.mono B2.size)
  go_wp2_with fail
  refine (palatineref02_Add.calls _ _ _ _ l1 _ _ (HC.out _ B3) hc1 F4.out).mono ?_
  rintro e w4 ⟨rfl, hd4⟩
  have B4 := B3.trans (hd4.below.mono B3.size)
  go_wp2_with fail
  refine (palatineref02_Sum.calls _ _ _ l1 _ _ (HC.out _ B4) hc1 F5.out).mono ?_
  rintro e w5 ⟨rfl, hd5⟩
  have B5 := B4.trans (hd5.below.mono B4.size)
  go_wp2_with fail
  refine (refText_any _ _ _ _ hsz F6.out).mono ?_
  rintro e w6 ⟨rfl, hd6⟩
  have B6 := B5.trans (hd6.mono B5.size)
  go_wp2_with fail
  go_ret
  exact ⟨rfl, B6⟩
end Go.Proofs.Ytgdeohpkfpbeiaa.PureIs
