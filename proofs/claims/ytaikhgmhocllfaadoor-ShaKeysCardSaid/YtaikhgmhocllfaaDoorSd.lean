/- Digests on the heap of the mind: a block's words. By this session. -/
import Derived.Test.YtaikhgmhocllfaaDoorSb
namespace Go.Proofs.YtaikhgmhocllfaaDoor.Sk
open Go.Proofs.YtaikhgmhocllfaaDoor.Lh Go.RowKit Go.Proofs.YtaikhgmhocllfaaDoor.Sp
set_option maxRecDepth 100000
set_option linter.unusedSimpArgs false
set_option linter.unusedSectionVars false
set_option linter.unusedVariables false
variable [Fz]
def hO (ws : List B) (ob : Sp.Bs) (n : Nat) : Option LObj := some ⟨.rows 8 1 (wSeg ws) (.rows 64 1 (bySeg ob) (.one (.int .i64 (n : Int)) .nil)), 78, false, false⟩
theorem or_add {a b k : Nat} (h : b < 2 ^ k) : (2 ^ k * a) ||| b = 2 ^ k * a + b := (Nat.two_pow_add_eq_or_of_lt h a).symm
theorem word4 {a b c d : Nat} (ha : a < 256) (hb : b < 256) (hc : c < 256) (hd : d < 256) : (((BitVec.ofNat 32 a <<< 24 ||| BitVec.ofNat 32 b <<< 16) ||| BitVec.ofNat 32 c <<< 8) ||| BitVec.ofNat 32 d) = BitVec.ofNat 32 (a * 16777216 + b * 65536 + c * 256 + d) := by
  apply BitVec.eq_of_toNat_eq
  simp only [BitVec.toNat_or, BitVec.toNat_shiftLeft, BitVec.toNat_ofNat, Nat.shiftLeft_eq]
  rw [Nat.mod_eq_of_lt (show a < 2 ^ 32 by omega), Nat.mod_eq_of_lt (show b < 2 ^ 32 by omega), Nat.mod_eq_of_lt (show c < 2 ^ 32 by omega), Nat.mod_eq_of_lt (show d < 2 ^ 32 by omega), Nat.mod_eq_of_lt (show a * 2 ^ 24 < 2 ^ 32 by omega), Nat.mod_eq_of_lt (show b * 2 ^ 16 < 2 ^ 32 by omega), Nat.mod_eq_of_lt (show c * 2 ^ 8 < 2 ^ 32 by omega), Nat.mod_eq_of_lt (by omega)]
  have h1 := or_add (a := a) (b := b * 2 ^ 16) (k := 24) (by omega)
  have h2 := or_add (a := a * 256 + b) (b := c * 2 ^ 8) (k := 16) (by omega)
  have h3 := or_add (a := (a * 256 + b) * 256 + c) (b := d) (k := 8) (by omega)
  rw [show a * 2 ^ 24 = 2 ^ 24 * a by omega, h1, show 2 ^ 24 * a + b * 2 ^ 16 = 2 ^ 16 * (a * 256 + b) by omega, h2, show 2 ^ 16 * (a * 256 + b) + c * 2 ^ 8 = 2 ^ 8 * ((a * 256 + b) * 256 + c) by omega, h3]
theorem wrapB {m : Nat} (h : m < 256) : IntKind.u32.wrap (m : Int) = ((BitVec.ofNat 32 m).toNat : Int) := by
  rw [wrap_lt (by omega), BitVec.toNat_ofNat, Nat.mod_eq_of_lt (by omega)]
theorem shB (x : B) (k : Nat) (c : Int) (h : c = ((2 ^ k : Nat) : Int)) : IntKind.u32.wrap ((x.toNat : Int) * c) = ((x <<< k).toNat : Int) := by
  rw [h]; exact wShl x k
theorem word (ws : List B) (ob : Sp.Bs) (n i : Nat) (hi : i < 16) : LCalls Tryd.prog 52 (.cons (.slice ⟨0, [], 8⟩ (4 * i) 1 (64 - 4 * i) (64 - 4 * i) (some (64 - 4 * i))) .nil) [hO ws ob n] (fun e h' => e = .ret (wV (wordAt ob i)) ∧ h' = [hO ws ob n]) := by
  unfold wV
  refine LCalls.tell ?_; refine enter52 rfl ?_; conv => whnf
  refine ⟨⟨by omega, by omega⟩, ?_⟩
  conv => whnf
  refine ⟨by show 4 * i + Int.toNat 0 < 64; omega, ?_⟩
  conv => whnf
  refine ⟨⟨by omega, by omega⟩, ?_⟩
  conv => whnf
  refine ⟨by show 4 * i + Int.toNat 1 < 64; omega, ?_⟩
  conv => whnf
  refine ⟨⟨by omega, by omega⟩, ?_⟩
  conv => whnf
  refine ⟨by show 4 * i + Int.toNat 2 < 64; omega, ?_⟩
  conv => whnf
  refine ⟨⟨by omega, by omega⟩, ?_⟩
  conv => whnf
  refine ⟨by show 4 * i + Int.toNat 3 < 64; omega, ?_⟩
  conv => whnf
  rewrite [show Int.toNat 0 = 0 from rfl, show Int.toNat 1 = 1 from rfl, show Int.toNat 2 = 2 from rfl, show Int.toNat 3 = 3 from rfl]
  have hw : wordAt ob i = (((BitVec.ofNat 32 (ob.getD (4 * i + 0) 0).toNat <<< 24 ||| BitVec.ofNat 32 (ob.getD (4 * i + 1) 0).toNat <<< 16) ||| BitVec.ofNat 32 (ob.getD (4 * i + 2) 0).toNat <<< 8) ||| BitVec.ofNat 32 (ob.getD (4 * i + 3) 0).toNat) := (word4 (UInt8.toNat_lt _) (UInt8.toNat_lt _) (UInt8.toNat_lt _) (UInt8.toNat_lt _)).symm
  rewrite [hw, wrapB (UInt8.toNat_lt _), wrapB (UInt8.toNat_lt _), wrapB (UInt8.toNat_lt _), wrapB (UInt8.toNat_lt _), shB _ 24 16777216 rfl, shB _ 16 65536 rfl, shB _ 8 256 rfl, wOr, wOr, wOr]
  refine ⟨[0], _, _, rfl, rfl, ?_, ?_, rfl, rfl⟩
  · (repeat' first | exact trivial | exact rfl | exact Nat.le_of_ble_eq_true rfl | exact Nat.le_refl _ | exact .inl ⟨rfl, rfl, rfl, rfl, Nat.le_refl _, Nat.le_refl _, .inr rfl, Nat.le_of_ble_eq_true rfl⟩ | exact .inl ⟨rfl, rfl, rfl, rfl, Nat.le_refl _, Nat.le_refl _, .inl rfl, Nat.le_of_ble_eq_true rfl⟩ | exact .inr ⟨rfl, rfl, rfl, rfl, rfl⟩ | exact .inl ⟨rfl, rfl, rfl, (by first | omega | (simp; done) | (simp; omega)), (by first | omega | (simp; done) | (simp; omega)), (by first | omega | (simp; done) | (simp; omega)), .inr rfl, Nat.le_of_ble_eq_true rfl⟩ | exact .inl ⟨rfl, rfl, rfl, (by first | omega | (simp; done) | (simp; omega)), (by first | omega | (simp; done) | (simp; omega)), (by first | omega | (simp; done) | (simp; omega)), .inl rfl, Nat.le_of_ble_eq_true rfl⟩ | exact fun h => h | refine ⟨?_, ?_, ?_, .inl ?_⟩ | refine ⟨?_, ?_⟩ | refine fun ii hii => ?_ | omega | fail)
  · (repeat' first | exact trivial | exact rfl | exact Nat.le_of_ble_eq_true rfl | exact Nat.le_refl _ | exact .inl ⟨rfl, rfl, rfl, rfl, Nat.le_refl _, Nat.le_refl _, .inr rfl, Nat.le_of_ble_eq_true rfl⟩ | exact .inl ⟨rfl, rfl, rfl, rfl, Nat.le_refl _, Nat.le_refl _, .inl rfl, Nat.le_of_ble_eq_true rfl⟩ | exact .inr ⟨rfl, rfl, rfl, rfl, rfl⟩ | exact .inl ⟨rfl, rfl, rfl, (by first | omega | (simp; done) | (simp; omega)), (by first | omega | (simp; done) | (simp; omega)), (by first | omega | (simp; done) | (simp; omega)), .inr rfl, Nat.le_of_ble_eq_true rfl⟩ | exact .inl ⟨rfl, rfl, rfl, (by first | omega | (simp; done) | (simp; omega)), (by first | omega | (simp; done) | (simp; omega)), (by first | omega | (simp; done) | (simp; omega)), .inl rfl, Nat.le_of_ble_eq_true rfl⟩ | exact fun h => h | refine ⟨?_, ?_, ?_, .inl ?_⟩ | refine ⟨?_, ?_⟩ | refine fun ii hii => ?_ | omega | fail)
theorem deGl_eq {g : Nat} {s : Segs} (h : Fz.glob g = some s) : deGl (.gl g) = .rptr s := by
  show (match Fz.glob g with | some s => LVal.rptr s | none => .gl g) = _
  rw [h]
theorem New (hg : Fz.glob 0 = some (.rows 8 1 (wSeg firstL) .nil)) : LCalls Tryd.prog 17 .nil [] (fun e h' => e = .ret (.ptr ⟨0, [], 0⟩) ∧ h' = [hO firstL (List.replicate 64 0) 0]) := by
  refine LCalls.tell ?_; refine enter17 rfl ?_; conv => whnf
  show (loadRd (some 8) (deGl (.gl 0))).wp _ _ _
  rewrite [deGl_eq hg]
  conv => whnf
  refine ⟨[0], _, _, rfl, rfl, ?_, ?_, rfl, rfl⟩
  · (repeat' first | exact trivial | exact rfl | exact Nat.le_of_ble_eq_true rfl | exact Nat.le_refl _ | exact .inl ⟨rfl, rfl, rfl, rfl, Nat.le_refl _, Nat.le_refl _, .inr rfl, Nat.le_of_ble_eq_true rfl⟩ | exact .inl ⟨rfl, rfl, rfl, rfl, Nat.le_refl _, Nat.le_refl _, .inl rfl, Nat.le_of_ble_eq_true rfl⟩ | exact .inr ⟨rfl, rfl, rfl, rfl, rfl⟩ | exact .inl ⟨rfl, rfl, rfl, (by first | omega | (simp; done) | (simp; omega)), (by first | omega | (simp; done) | (simp; omega)), (by first | omega | (simp; done) | (simp; omega)), .inr rfl, Nat.le_of_ble_eq_true rfl⟩ | exact .inl ⟨rfl, rfl, rfl, (by first | omega | (simp; done) | (simp; omega)), (by first | omega | (simp; done) | (simp; omega)), (by first | omega | (simp; done) | (simp; omega)), .inl rfl, Nat.le_of_ble_eq_true rfl⟩ | exact fun h => h | refine ⟨?_, ?_, ?_, .inl ?_⟩ | refine ⟨?_, ?_⟩ | refine fun ii hii => ?_ | omega | fail)
  · (repeat' first | exact trivial | exact rfl | exact Nat.le_of_ble_eq_true rfl | exact Nat.le_refl _ | exact .inl ⟨rfl, rfl, rfl, rfl, Nat.le_refl _, Nat.le_refl _, .inr rfl, Nat.le_of_ble_eq_true rfl⟩ | exact .inl ⟨rfl, rfl, rfl, rfl, Nat.le_refl _, Nat.le_refl _, .inl rfl, Nat.le_of_ble_eq_true rfl⟩ | exact .inr ⟨rfl, rfl, rfl, rfl, rfl⟩ | exact .inl ⟨rfl, rfl, rfl, (by first | omega | (simp; done) | (simp; omega)), (by first | omega | (simp; done) | (simp; omega)), (by first | omega | (simp; done) | (simp; omega)), .inr rfl, Nat.le_of_ble_eq_true rfl⟩ | exact .inl ⟨rfl, rfl, rfl, (by first | omega | (simp; done) | (simp; omega)), (by first | omega | (simp; done) | (simp; omega)), (by first | omega | (simp; done) | (simp; omega)), .inl rfl, Nat.le_of_ble_eq_true rfl⟩ | exact fun h => h | refine ⟨?_, ?_, ?_, .inl ?_⟩ | refine ⟨?_, ?_⟩ | refine fun ii hii => ?_ | omega | fail)
    exact (by rw [List.getD_eq_getElem?_getD, List.getElem?_replicate]; split <;> rfl)
end Go.Proofs.YtaikhgmhocllfaaDoor.Sk
