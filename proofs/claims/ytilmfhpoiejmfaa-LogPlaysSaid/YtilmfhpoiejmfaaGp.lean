/- The log: what is said, in plain Lean. By this session. -/
import Derived.Test.YtilmfhpoiejmfaaCr
import Derived.WalkKit
namespace Go.Proofs.Ytilmfhpoiejmfaa.Lg
set_option linter.unusedVariables false
/-- A sector's bytes. -/
abbrev F8 := Nat → Nat
abbrev Bs := List UInt8
def leN (f : F8) (a : Nat) : Nat → Nat
  | 0 => 0
  | k + 1 => leN f a k + f (a + k) * 256 ^ k
def leB (w i : Nat) : Nat := w / 256 ^ i % 256
def lst (m : Nat) (f : F8) : List Nat := (List.range m).map f
def sumN (m : Nat) (f : F8) : Nat := Crc.add 0 (lst m f)
def fB (l : Bs) : F8 := fun i => (l.getD i 0).toNat
def body (ep li pl fl ln : Nat) (l : Bs) : F8 := fun i =>
  if i < 4 then 0 else if i < 8 then leB ep (i - 4) else if i < 12 then leB li (i - 8) else if i < 14 then leB pl (i - 12) else if i = 14 then fl else if i = 15 then ln else if i < 64 then fB l (i - 16) else 0
def enc (ep li pl fl ln : Nat) (l : Bs) : F8 := fun i => if i < 4 then leB (sumN 60 fun k => body ep li pl fl ln l (4 + k)) i else body ep li pl fl ln l i
def rightB (f : F8) : Bool := leN f 0 4 == sumN 60 fun k => f (4 + k)
theorem leN_lt {f : F8} (hf : ∀ i, f i < 256) (a : Nat) : ∀ k, leN f a k < 256 ^ k
  | 0 => Nat.one_pos
  | k + 1 => by
    have h1 := leN_lt hf a k
    have h2 := hf (a + k)
    have h3 : f (a + k) * 256 ^ k ≤ 255 * 256 ^ k := Nat.mul_le_mul_right _ (by omega)
    rw [leN, Nat.pow_succ]
    omega
theorem leB_lt (w i : Nat) : leB w i < 256 := Nat.mod_lt _ (by decide)
theorem body_lt {ep li pl fl ln : Nat} {l : Bs} (h1 : fl < 256) (h2 : ln < 256) (i : Nat) : body ep li pl fl ln l i < 256 := by
  unfold body
  repeat' split
  all_goals first
    | omega
    | exact leB_lt _ _
    | exact UInt8.toNat_lt _
theorem enc_lt {ep li pl fl ln : Nat} {l : Bs} (h1 : fl < 256) (h2 : ln < 256) (i : Nat) : enc ep li pl fl ln l i < 256 := by
  unfold enc
  split
  · exact leB_lt _ _
  · exact body_lt h1 h2 i
theorem leN_congr {f g : F8} {a : Nat} : ∀ {k : Nat}, (∀ i, i < k → f (a + i) = g (a + i)) → leN f a k = leN g a k
  | 0, _ => rfl
  | k + 1, h => by rw [leN, leN, leN_congr (k := k) (fun i hi => h i (by omega)), h k (by omega)]
/-- Low bytes first: there and back. -/
theorem leN_leB (w a : Nat) (f : F8) : ∀ k, (∀ i, i < k → f (a + i) = leB w i) → leN f a k = w % 256 ^ k
  | 0, _ => by rw [leN, Nat.pow_zero, Nat.mod_one]
  | k + 1, h => by
    rw [leN, leN_leB w a f k (fun i hi => h i (by omega)), h k (by omega), leB, Nat.pow_succ, Nat.mod_mul, Nat.mul_comm (256 ^ k)]
theorem lst_lt {m : Nat} {f : F8} (hf : ∀ i, f i < 256) : ∀ x ∈ lst m f, x < 256 := fun x hx => by
  obtain ⟨i, _, rfl⟩ := List.mem_map.1 hx
  exact hf i
theorem sumN_lt {m : Nat} {f : F8} (hf : ∀ i, f i < 256) : sumN m f < 4294967296 := Crc.add_lt _ (by decide) (lst_lt hf)
theorem sumN_congr {m : Nat} {f g : F8} (h : ∀ i, i < m → f i = g i) : sumN m f = sumN m g := by
  unfold sumN lst
  rw [List.map_congr_left fun i hi => h i (List.mem_range.1 hi)]
theorem lst_succ (m : Nat) (f : F8) : lst (m + 1) f = lst m f ++ [f m] := by
  unfold lst
  rw [List.range_succ, List.map_append]
  rfl
theorem run_succ (r m : Nat) (f : F8) : Crc.run r (lst (m + 1) f) = Crc.byteOf (Crc.run r (lst m f)) (f m) := by
  rw [lst_succ, Crc.run_append]
  rfl
section
variable {ep li pl fl ln : Nat} {l : Bs}
theorem enc_ep (h : ep < 4294967296) : leN (enc ep li pl fl ln l) 4 4 = ep := by
  rw [leN_leB ep 4 _ 4 (fun i hi => ?_)]
  · omega
  · unfold enc body
    rw [if_neg (by omega), if_neg (by omega), if_pos (by omega), Nat.add_sub_cancel_left]
theorem enc_li (h : li < 4294967296) : leN (enc ep li pl fl ln l) 8 4 = li := by
  rw [leN_leB li 8 _ 4 (fun i hi => ?_)]
  · omega
  · unfold enc body
    rw [if_neg (by omega), if_neg (by omega), if_neg (by omega), if_pos (by omega), Nat.add_sub_cancel_left]
theorem enc_pl (h : pl < 65536) : leN (enc ep li pl fl ln l) 12 2 = pl := by
  rw [leN_leB pl 12 _ 2 (fun i hi => ?_)]
  · omega
  · unfold enc body
    rw [if_neg (by omega), if_neg (by omega), if_neg (by omega), if_neg (by omega), if_pos (by omega), Nat.add_sub_cancel_left]
theorem enc_fl : enc ep li pl fl ln l 14 = fl := rfl
theorem enc_ln : enc ep li pl fl ln l 15 = ln := rfl
theorem enc_by {i : Nat} (h : i < 48) : enc ep li pl fl ln l (16 + i) = fB l i := by
  unfold enc body
  rw [if_neg (by omega), if_neg (by omega), if_neg (by omega), if_neg (by omega), if_neg (by omega), if_neg (by omega), if_neg (by omega), if_pos (by omega), Nat.add_sub_cancel_left]
theorem enc_right (h1 : fl < 256) (h2 : ln < 256) : rightB (enc ep li pl fl ln l) = true := by
  unfold rightB
  have hs : sumN 60 (fun k => enc ep li pl fl ln l (4 + k)) = sumN 60 (fun k => body ep li pl fl ln l (4 + k)) := sumN_congr fun i hi => by
    unfold enc
    rw [if_neg (by omega)]
  have hlt : sumN 60 (fun k => body ep li pl fl ln l (4 + k)) < 4294967296 := sumN_lt fun i => body_lt h1 h2 _
  rw [hs, leN_leB (sumN 60 fun k => body ep li pl fl ln l (4 + k)) 0 _ 4 (fun i hi => by unfold enc; rw [if_pos (by omega), Nat.zero_add])]
  rw [beq_iff_eq]
  exact Nat.mod_eq_of_lt hlt
end
/-- A sector that was never written. -/
theorem zero_wrong : rightB (fun _ => 0) = false := by decide +kernel
/-! Reading. -/
structure RS where
  recs : List Bs
  part : Bs
  last : Nat
  inside : Bool
  next : Nat
def okS (f : F8) (ep most p last : Nat) (inside : Bool) : Bool :=
  rightB f && (leN f 4 4 == ep) && (leN f 12 2 == p) && decide (leN f 8 4 ≤ most) && decide (f 14 ≤ 3) && decide (f 15 ≤ 48) && (inside != (f 14 % 2 == 1)) && (if inside then leN f 8 4 == last else decide (last ≤ leN f 8 4)) && (f 14 / 2 == 1 || f 15 == 48)
def bytesOf (f : F8) : Bs := (List.range (f 15)).map fun i => UInt8.ofNat (f (16 + i))
def stepS (f : F8) (p : Nat) (s : RS) : RS :=
  if f 14 / 2 = 1 then ⟨s.recs ++ [s.part ++ bytesOf f], [], leN f 8 4, false, p + 1⟩ else ⟨s.recs, s.part ++ bytesOf f, leN f 8 4, true, s.next⟩
def rdL (S : Nat → F8) (ep most : Nat) : Nat → Nat → RS → RS
  | 0, _, s => s
  | k + 1, p, s => if okS (S p) ep most p s.last s.inside then rdL S ep most k (p + 1) (stepS (S p) p s) else s
def rd0 : RS := ⟨[], [], 0, false, 1⟩
def headOf (f : F8) : Nat := if rightB f && (f 14 == 4) && (leN f 12 2 == 0) then leN f 8 4 else 0
end Go.Proofs.Ytilmfhpoiejmfaa.Lg
