/- Digests: what is said, in plain Lean. By this session. -/
import Derived.WalkKit
namespace Go.Proofs.YtaikhgmhocllfaaDoor.Sp
abbrev Bs := List UInt8
abbrev B := BitVec 32
def rotr (x : B) (n : Nat) : B := (x >>> n) ||| (x <<< (32 - n))
def sig0 (p : B) : B := rotr p 7 ^^^ rotr p 18 ^^^ p >>> 3
def sig1 (q : B) : B := rotr q 17 ^^^ rotr q 19 ^^^ q >>> 10
def firstL : List B := [0x6a09e667#32, 0xbb67ae85#32, 0x3c6ef372#32, 0xa54ff53a#32, 0x510e527f#32, 0x9b05688c#32, 0x1f83d9ab#32, 0x5be0cd19#32]
def constL : List B := [
  0x428a2f98#32, 0x71374491#32, 0xb5c0fbcf#32, 0xe9b5dba5#32, 0x3956c25b#32, 0x59f111f1#32, 0x923f82a4#32, 0xab1c5ed5#32,
  0xd807aa98#32, 0x12835b01#32, 0x243185be#32, 0x550c7dc3#32, 0x72be5d74#32, 0x80deb1fe#32, 0x9bdc06a7#32, 0xc19bf174#32,
  0xe49b69c1#32, 0xefbe4786#32, 0x0fc19dc6#32, 0x240ca1cc#32, 0x2de92c6f#32, 0x4a7484aa#32, 0x5cb0a9dc#32, 0x76f988da#32,
  0x983e5152#32, 0xa831c66d#32, 0xb00327c8#32, 0xbf597fc7#32, 0xc6e00bf3#32, 0xd5a79147#32, 0x06ca6351#32, 0x14292967#32,
  0x27b70a85#32, 0x2e1b2138#32, 0x4d2c6dfc#32, 0x53380d13#32, 0x650a7354#32, 0x766a0abb#32, 0x81c2c92e#32, 0x92722c85#32,
  0xa2bfe8a1#32, 0xa81a664b#32, 0xc24b8b70#32, 0xc76c51a3#32, 0xd192e819#32, 0xd6990624#32, 0xf40e3585#32, 0x106aa070#32,
  0x19a4c116#32, 0x1e376c08#32, 0x2748774c#32, 0x34b0bcb5#32, 0x391c0cb3#32, 0x4ed8aa4a#32, 0x5b9cca4f#32, 0x682e6ff3#32,
  0x748f82ee#32, 0x78a5636f#32, 0x84c87814#32, 0x8cc70208#32, 0x90befffa#32, 0xa4506ceb#32, 0xbef9a3f7#32, 0xc67178f2#32]
/-- The word at a place of a block. -/
def wordAt (b : Bs) (i : Nat) : B := BitVec.ofNat 32 ((b.getD (4 * i) 0).toNat * 16777216 + (b.getD (4 * i + 1) 0).toNat * 65536 + (b.getD (4 * i + 2) 0).toNat * 256 + (b.getD (4 * i + 3) 0).toNat)
/-- The i-th word of the schedule, the ones ahead of it known. -/
def wNext (b : Bs) (l : List B) : B := if l.length < 16 then wordAt b l.length else l.getD (l.length - 16) 0 + l.getD (l.length - 7) 0 + sig0 (l.getD (l.length - 15) 0) + sig1 (l.getD (l.length - 2) 0)
def sched (b : Bs) : Nat → List B
  | 0 => []
  | k + 1 => sched b k ++ [wNext b (sched b k)]
theorem sched_len (b : Bs) : ∀ k, (sched b k).length = k
  | 0 => rfl
  | k + 1 => by rw [sched, List.length_append, sched_len b k]; rfl
theorem sched_at (b : Bs) : ∀ (k i : Nat), i < k → (sched b k).getD i 0 = wNext b (sched b i)
  | 0, _, h => by omega
  | k + 1, i, h => by
    rw [sched, List.getD_eq_getElem?_getD]
    rcases Nat.lt_or_ge i k with c | c
    · rw [List.getElem?_append_left (by rw [sched_len]; exact c), ← List.getD_eq_getElem?_getD]
      exact sched_at b k i c
    · obtain rfl : i = k := by omega
      rw [List.getElem?_append_right (by rw [sched_len]; omega), sched_len, Nat.sub_self]
      rfl
/-- One round. -/
def rX (s : List B) (k w : B) : B := s.getD 7 0 + (rotr (s.getD 4 0) 6 ^^^ rotr (s.getD 4 0) 11 ^^^ rotr (s.getD 4 0) 25) + (s.getD 4 0 &&& s.getD 5 0 ^^^ ~~~ s.getD 4 0 &&& s.getD 6 0) + k + w
def rY (s : List B) : B := (rotr (s.getD 0 0) 2 ^^^ rotr (s.getD 0 0) 13 ^^^ rotr (s.getD 0 0) 22) + (s.getD 0 0 &&& s.getD 1 0 ^^^ s.getD 0 0 &&& s.getD 2 0 ^^^ s.getD 1 0 &&& s.getD 2 0)
def round (s : List B) (k w : B) : List B := [rX s k w + rY s, s.getD 0 0, s.getD 1 0, s.getD 2 0, s.getD 3 0 + rX s k w, s.getD 4 0, s.getD 5 0, s.getD 6 0]
def rounds (b : Bs) (h : List B) : Nat → List B
  | 0 => h
  | k + 1 => round (rounds b h k) (constL.getD k 0) (wNext b (sched b k))
def addAll (h s : List B) : List B := (List.range 8).map fun i => h.getD i 0 + s.getD i 0
/-- A block goes in. -/
def compress (h : List B) (b : Bs) : List B := addAll h (rounds b h 64)
def absorb : Nat → List B → Bs → List B
  | 0, h, _ => h
  | n + 1, h, m => absorb n (compress h (m.take 64)) (m.drop 64)
/-- What stands behind the whole blocks of the bytes. -/
def stateOf (m : Bs) : List B := absorb (m.length / 64) firstL m
theorem absorb_app : ∀ (q k : Nat) (h : List B) (m x : Bs), m.length = 64 * q → absorb (q + k) h (m ++ x) = absorb k (absorb q h m) x
  | 0, k, h, m, x, e => by
    obtain rfl : m = [] := List.length_eq_zero_iff.1 (by omega)
    rw [Nat.zero_add]
    rfl
  | q + 1, k, h, m, x, e => by
    rw [show q + 1 + k = (q + k) + 1 by omega, absorb, absorb, List.take_append_of_le_length (by omega), List.drop_append_of_le_length (by omega)]
    exact absorb_app q k _ _ _ (by rw [List.length_drop]; omega)
theorem absorb_more : ∀ (q : Nat) (h : List B) (m x : Bs), 64 * q ≤ m.length → absorb q h (m ++ x) = absorb q h m
  | 0, _, _, _, _ => rfl
  | q + 1, h, m, x, e => by
    rw [absorb, absorb, List.take_append_of_le_length (by omega), List.drop_append_of_le_length (by omega)]
    exact absorb_more q _ _ _ (by rw [List.length_drop]; omega)
/-- Bytes that fill no block turn nothing. -/
theorem state_more {m x : Bs} (h : m.length / 64 = (m ++ x).length / 64) : stateOf (m ++ x) = stateOf m := by
  unfold stateOf
  rw [← h]
  exact absorb_more _ _ _ _ (by omega)
/-- Bytes that fill a block: it goes in. -/
theorem state_block {m r x : Bs} {q : Nat} (hm : m.length = 64 * q) (hx : (r ++ x).length = 64) : stateOf (m ++ r ++ x) = compress (stateOf (m ++ r)) (r ++ x) ∨ r.length = 64 := by
  by_cases c : r.length = 64
  · exact .inr c
  · left
    have hx2 := hx
    rw [List.length_append] at hx2
    have e1 : (m ++ r).length / 64 = q := by rw [List.length_append]; omega
    have e2 : (m ++ (r ++ x)).length / 64 = q + 1 := by rw [List.length_append]; omega
    unfold stateOf
    rw [List.append_assoc, e2, absorb_app q 1 firstL m (r ++ x) hm, e1, absorb_more q firstL m r (by omega)]
    show compress _ ((r ++ x).take 64) = _
    rw [List.take_of_length_le (by omega)]
/-- The last bytes. -/
def be8 (n : Nat) : Bs := (List.range 8).map fun i => UInt8.ofNat (n / 256 ^ (7 - i))
def zerosN (n : Nat) : Nat := (119 - n % 64) % 64
def padded (m : Bs) : Bs := m ++ [128] ++ List.replicate (zerosN m.length) 0 ++ be8 (m.length * 8)
def outOf (h : List B) : Bs := (List.range 32).map fun i => UInt8.ofNat ((h.getD (i / 4) 0).toNat / 256 ^ (3 - i % 4))
def digest (m : Bs) : Bs := outOf (stateOf (padded m))
theorem padded_len (m : Bs) : (padded m).length % 64 = 0 := by
  unfold padded be8 zerosN
  simp only [List.length_append, List.length_replicate, List.length_map, List.length_range, List.length_cons, List.length_nil]
  omega
def keyP (key : Bs) : Bs := (if 64 < key.length then digest key else key)
def padKey (key : Bs) (by_ : UInt8) : Bs := (List.range 64).map fun i => (keyP key).getD i 0 ^^^ by_
def mac (key m : Bs) : Bs := digest (padKey key 0x5c ++ digest (padKey key 0x36 ++ m))
/-! Words in the model. -/
theorem wrap_lt {n : Nat} (h : n < 4294967296) : IntKind.u32.wrap (n : Int) = n := by
  simp [IntKind.wrap, IntKind.bits, IntKind.signed]
  omega
theorem of_to (x : B) : BitVec.ofInt IntKind.u32.bits (x.toNat : Int) = x := by
  show BitVec.ofInt 32 _ = _
  apply BitVec.eq_of_toNat_eq
  have := x.isLt
  simp
theorem wAdd (x y : B) : IntKind.u32.wrap ((x.toNat : Int) + (y.toNat : Int)) = ((x + y).toNat : Int) := by
  rw [BitVec.toNat_add]
  simp [IntKind.wrap, IntKind.bits, IntKind.signed]
theorem wXor (x y : B) : IntKind.u32.wrap ((BitVec.ofInt IntKind.u32.bits (x.toNat : Int) ^^^ BitVec.ofInt IntKind.u32.bits (y.toNat : Int)).toNat : Int) = ((x ^^^ y).toNat : Int) := by
  rw [of_to, of_to]; exact wrap_lt (x ^^^ y).isLt
theorem wAnd (x y : B) : IntKind.u32.wrap ((BitVec.ofInt IntKind.u32.bits (x.toNat : Int) &&& BitVec.ofInt IntKind.u32.bits (y.toNat : Int)).toNat : Int) = ((x &&& y).toNat : Int) := by
  rw [of_to, of_to]; exact wrap_lt (x &&& y).isLt
theorem wOr (x y : B) : IntKind.u32.wrap ((BitVec.ofInt IntKind.u32.bits (x.toNat : Int) ||| BitVec.ofInt IntKind.u32.bits (y.toNat : Int)).toNat : Int) = ((x ||| y).toNat : Int) := by
  rw [of_to, of_to]; exact wrap_lt (x ||| y).isLt
theorem wShr (x : B) (k : Nat) : (x.toNat : Int) / (2 ^ k : Nat) = ((x >>> k).toNat : Int) := by
  rw [BitVec.toNat_ushiftRight, Nat.shiftRight_eq_div_pow]
  exact (Int.natCast_ediv _ _).symm
theorem wShl (x : B) (k : Nat) : IntKind.u32.wrap ((x.toNat : Int) * (2 ^ k : Nat)) = ((x <<< k).toNat : Int) := by
  rw [BitVec.toNat_shiftLeft, Nat.shiftLeft_eq]
  simp [IntKind.wrap, IntKind.bits, IntKind.signed]
theorem wNot (x : B) : (4294967295 : Int) - (x.toNat : Int) = ((~~~ x).toNat : Int) := by
  have := x.isLt
  rw [BitVec.toNat_not]
  omega
end Go.Proofs.YtaikhgmhocllfaaDoor.Sp
