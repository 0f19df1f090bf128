/- Words of the program (bits, shifts, wraps, lists of bytes) at natural numbers. No condition. -/
import Derived.Laws.BitsAllLaws
import Derived.Laws.Wrap64
import Derived.Test.YtgdeohpkfpbeiaaWMore
namespace Go.Proofs.Ytgdeohpkfpbeiaa.Br
open Go.RowKit Go.Proofs.YtgdeohpkfpbeiaaW.PrintWords Go.Proofs.YtgdeohpkfpbeiaaW.PrintLast Go.Proofs.YtgdeohpkfpbeiaaW.PrintMore

theorem wf_u8 {a : Int} (h : (Lit.int .u8 a).wf = true) : ∃ n : Nat, a = (n : Int) ∧ n < 256 := by
  simp [Lit.wf, IntKind.min, IntKind.max, IntKind.bits, IntKind.signed] at h
  exact ⟨a.toNat, by omega, by omega⟩
theorem wf_u32 {a : Int} (h : (Lit.int .u32 a).wf = true) : ∃ n : Nat, a = (n : Int) ∧ n < 2 ^ 32 := by
  simp [Lit.wf, IntKind.min, IntKind.max, IntKind.bits, IntKind.signed] at h
  exact ⟨a.toNat, by omega, by omega⟩
theorem wf_i64 {a : Int} (h : (Lit.int .i64 a).wf = true) : -9223372036854775808 ≤ a ∧ a ≤ 9223372036854775807 := by
  simp [Lit.wf, IntKind.min, IntKind.max, IntKind.bits, IntKind.signed] at h
  omega
theorem xor_u8 (a b : Nat) (ha : a < 256) (hb : b < 256) : Go.bits .xor .u8 (a : Int) (b : Int) = ((a ^^^ b : Nat) : Int) := u8_xor_nat a b ha hb
theorem xor_u32 (a b : Nat) (ha : a < 2 ^ 32) (hb : b < 2 ^ 32) : Go.bits .xor .u32 (a : Int) (b : Int) = ((a ^^^ b : Nat) : Int) := by
  have hx : a ^^^ b < 2 ^ 32 := Nat.xor_lt_two_pow ha hb
  show IntKind.u32.wrap ((BitVec.ofInt 32 (a : Int) ^^^ BitVec.ofInt 32 (b : Int)).toNat : Int) = _
  rw [BitVec.toNat_xor, BitVec.ofInt_natCast, BitVec.ofInt_natCast, BitVec.toNat_ofNat, BitVec.toNat_ofNat, Nat.mod_eq_of_lt ha, Nat.mod_eq_of_lt hb, IntKind.wrap_u32']
  omega
theorem and1_u32 (a : Nat) (ha : a < 2 ^ 32) : Go.bits .and .u32 (a : Int) 1 = ((a % 2 : Nat) : Int) := by
  show IntKind.u32.wrap ((BitVec.ofInt 32 (a : Int) &&& BitVec.ofInt 32 ((1 : Nat) : Int)).toNat : Int) = _
  rw [BitVec.toNat_and, BitVec.ofInt_natCast, BitVec.ofInt_natCast, BitVec.toNat_ofNat, BitVec.toNat_ofNat, Nat.mod_eq_of_lt ha, IntKind.wrap_u32', show 1 % 2 ^ 32 = 1 from rfl, Nat.and_one_is_mod]
  omega
theorem w64 (x : Int) (h : -9223372036854775808 ≤ x) (h2 : x ≤ 9223372036854775807) : wrap64 x = x := by unfold wrap64; omega
theorem shr_nat (k : IntKind) (a i : Nat) (hi : i ≤ k.bits) : shr k (a : Int) (i : Int) = ((a / 2 ^ i : Nat) : Int) := by
  unfold shr
  rw [Int.toNat_natCast, Nat.min_eq_left hi]
  norm_cast
theorem shl1_u8 (i : Nat) (hi : i < 8) : shl .u8 1 (i : Int) = ((2 ^ i : Nat) : Int) := by
  have h : ∀ i : Nat, i < 8 → shl .u8 1 (i : Int) = ((2 ^ i : Nat) : Int) := by decide +kernel
  exact h i hi
theorem bit_mod (a i : Nat) : (a / 2 ^ i) % 2 = 1 ↔ a.testBit i = true := by
  rw [Nat.testBit_eq_decide_div_mod_eq]; simp

/-- Numbers of bytes, as natural numbers. -/
abbrev ints (l : List Nat) : List Int := l.map fun (n : Nat) => (n : Int)
theorem nats (l : List Int) (h : ∀ x ∈ l, (Lit.int .u8 x).wf = true) : ∃ bs : List Nat, l = ints bs ∧ (∀ b, b ∈ bs → b < 256) ∧ bs.length = l.length := by
  induction l with
  | nil => exact ⟨[], rfl, by simp, rfl⟩
  | cons x l ih =>
    obtain ⟨n, hn, hl⟩ := wf_u8 (h x (by simp))
    obtain ⟨bs, e, hb, hlen⟩ := ih (fun y hy => h y (by simp [hy]))
    exact ⟨n :: bs, by simp [ints, hn, e], by
      intro b hb'
      rcases List.mem_cons.mp hb' with rfl | hb'
      · exact hl
      · exact hb b hb', by simp [hlen]⟩
theorem rd_ints (l : List Nat) (i : Nat) : rd (ints l) (i : Int) = ((l.getD i 0 : Nat) : Int) := by
  unfold rd ints
  rw [Int.toNat_natCast, List.getD_eq_getElem?_getD, List.getD_eq_getElem?_getD, List.getElem?_map]
  cases l[i]? <;> rfl
/-- A text's bytes. -/
def bytes (s : ByteArray) : List Nat := s.data.toList.map UInt8.toNat
theorem bytes_length (s : ByteArray) : (bytes s).length = s.size := by simp [bytes]
theorem bytes_lt (s : ByteArray) : ∀ b, b ∈ bytes s → b < 256 := by
  intro b hb
  obtain ⟨u, _, rfl⟩ := List.mem_map.mp hb
  exact u.toNat_lt
theorem bt_bytes (s : ByteArray) (i : Nat) (h : i < s.size) : bt s (i : Int) = (((bytes s).getD i 0 : Nat) : Int) := by
  unfold bt bytes
  rw [dif_pos (by simpa using h)]
  simp [List.getD_eq_getElem?_getD, h]
  rfl
theorem bytes_str (l : List Nat) (hl : ∀ b, b ∈ l → b < 256) : bytes (strOfNums (ints l)) = l := by
  unfold bytes strOfNums ints
  simp only [List.map_map]
  have : (UInt8.toNat ∘ (fun n => UInt8.ofNat n.toNat) ∘ fun n : Nat => (n : Int)) = fun n : Nat => n % 256 := by
    funext n
    simp
  rw [this]
  conv => rhs; rw [← List.map_id l]
  apply List.map_congr_left
  intro b hb
  have := hl b hb
  simp
  omega
theorem getD_lt (l : List Nat) (hl : ∀ b, b ∈ l → b < 256) (i : Nat) : l.getD i 0 < 256 := by
  rw [List.getD_eq_getElem?_getD]
  cases h : l[i]? with
  | none => decide
  | some x => exact hl x (List.mem_of_getElem? h)

end Go.Proofs.Ytgdeohpkfpbeiaa.Br
