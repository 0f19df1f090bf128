/- The log on the heap of the mind: a record is appended. By this session. -/
import Derived.Test.YtilmfhpoiejmfaaGe
import Derived.Test.YtilmfhpoiejmfaaDi
namespace Go.Proofs.Ytilmfhpoiejmfaa.Gk
open Go.Proofs.Ytilmfhpoiejmfaa.Lh Go.RowKit Go.Proofs.Ytilmfhpoiejmfaa.Lg
open Go.Proofs.Ytilmfhpoiejmfaa.Dk (Disk Sec nought diskR wrE wrD flE flD rdE secV bytesV byteR writeR' read' flush' sectors' wrD_pend)
set_option maxRecDepth 100000
set_option linter.unusedSimpArgs false
set_option linter.unusedSectionVars false
set_option linter.unusedVariables false
variable [Fz]
def bs (l : Lg.Bs) : ByteArray := ⟨⟨l⟩⟩
theorem bs_size (l : Lg.Bs) : (bs l).size = l.length := rfl
theorem bs_extract (l : Lg.Bs) (i j : Nat) : (bs l).extract i j = bs ((l.drop i).take (j - i)) := by
  apply ByteArray.ext
  rw [ByteArray.data_extract]
  apply Array.ext'
  simp [bs, List.drop_take]
  try rfl
def toS (f : F8) : Sec := fun i => (f i : Int)
theorem bytes_toS (m : Nat) (f : F8) : bytesV m (toS f) = bV m f := rfl
structure LgS where
  first : Nat
  count : Nat
  epoch : Nat
  life : Nat
  next : Nat
def lgO (τ : Nat) (L : LgS) : Option LObj := some ⟨.one (.tok τ) (.one (.int .i64 (L.first : Int)) (.one (.int .i64 (L.count : Int)) (.one (wN L.epoch) (.one (wN L.life) (.one (.int .i64 (L.next : Int)) .nil))))), 127, false, false⟩
structure LgOk (L : LgS) : Prop where
  fc : L.first + L.count ≤ 4096
  nc : L.next ≤ L.count
  ep : L.epoch < 4294967296
  li : L.life < 4294967296
def secN (m : Nat) : Nat := if m ≤ 48 then 1 else (m - 1) / 48 + 1
theorem Sectors (m : Nat) (hm : m ≤ 4611686018427387904) : LCalls Try.prog 44 (.cons (.int .i64 (m : Int)) .nil) [] (fun e h' => e = .ret (.int .i64 (secN m : Int)) ∧ h' = []) := by
  refine LCalls.tell ?_; refine enter44 rfl ?_; conv => whnf
  by_cases h : m ≤ 48
  · rewrite [show decide ((m : Int) ≤ 48) = true from decide_eq_true (by omega)]
    rw [show secN m = 1 from if_pos h]
    conv => whnf
    refine ⟨[], _, _, rfl, rfl, ?_, ?_, rfl, rfl⟩
    · (repeat' first | exact trivial | exact rfl | exact sh0 rfl | exact Nat.le_refl _ | exact .inl shA | exact .inr ⟨rfl, rfl, rfl, rfl, rfl⟩ | exact .inl shB | exact fun h => h | refine ⟨?_, ?_, ?_, .inl ?_⟩ | refine ⟨?_, ?_⟩ | refine fun ii hii => ?_ | omega | fail)
    · (repeat' first | exact trivial | exact rfl | exact sh0 rfl | exact Nat.le_refl _ | exact .inl shA | exact .inr ⟨rfl, rfl, rfl, rfl, rfl⟩ | exact .inl shB | exact fun h => h | refine ⟨?_, ?_, ?_, .inl ?_⟩ | refine ⟨?_, ?_⟩ | refine fun ii hii => ?_ | omega | fail)
  · rewrite [show decide ((m : Int) ≤ 48) = false from decide_eq_false (by omega)]
    rw [show secN m = (m - 1) / 48 + 1 from if_neg h]
    conv => whnf
    refine ⟨by decide, ?_⟩
    rewrite [w64 (n := (m : Int) - 1) (by omega), show (m : Int) - 1 = ((m - 1 : Nat) : Int) by omega, show (((m - 1 : Nat) : Int)).tdiv 48 = (((m - 1) / 48 : Nat) : Int) from rfl]
    conv => whnf
    rewrite [w64 (n := (((m - 1) / 48 : Nat) : Int)) (by omega), w64 (n := (((m - 1) / 48 : Nat) : Int) + 1) (by omega)]
    refine ⟨[], _, _, rfl, rfl, ?_, ?_, rfl, rfl⟩
    · (repeat' first | exact trivial | exact rfl | exact sh0 rfl | exact Nat.le_refl _ | exact .inl shA | exact .inr ⟨rfl, rfl, rfl, rfl, rfl⟩ | exact .inl shB | exact fun h => h | refine ⟨?_, ?_, ?_, .inl ?_⟩ | refine ⟨?_, ?_⟩ | refine fun ii hii => ?_ | omega | fail)
    · (repeat' first | exact trivial | exact rfl | exact sh0 rfl | exact Nat.le_refl _ | exact .inl shA | exact .inr ⟨rfl, rfl, rfl, rfl, rfl⟩ | exact .inl shB | exact fun h => h | refine ⟨?_, ?_, ?_, .inl ?_⟩ | refine ⟨?_, ?_⟩ | refine fun ii hii => ?_ | omega | fail)
theorem Room (τ : Nat) (L : LgS) (ok : LgOk L) : LCalls Try.prog 38 (.cons (.ptr ⟨0, [], 0⟩) .nil) [lgO τ L] (fun e h' => e = .ret (.int .i64 ((L.count - L.next : Nat) : Int)) ∧ h' = [lgO τ L]) := by
  have h1 := ok.fc
  have h2 := ok.nc
  refine LCalls.tell ?_; refine enter38 rfl ?_; conv => whnf
  rewrite [w64 (n := (L.count : Int) - (L.next : Int)) (by omega), show (L.count : Int) - (L.next : Int) = ((L.count - L.next : Nat) : Int) by omega]
  refine ⟨[0], _, _, rfl, rfl, ?_, ?_, rfl, rfl⟩
  · (repeat' first | exact trivial | exact rfl | exact sh0 rfl | exact Nat.le_refl _ | exact .inl shA | exact .inr ⟨rfl, rfl, rfl, rfl, rfl⟩ | exact .inl shB | exact fun h => h | refine ⟨?_, ?_, ?_, .inl ?_⟩ | refine ⟨?_, ?_⟩ | refine fun ii hii => ?_ | omega | fail)
  · (repeat' first | exact trivial | exact rfl | exact sh0 rfl | exact Nat.le_refl _ | exact .inl shA | exact .inr ⟨rfl, rfl, rfl, rfl, rfl⟩ | exact .inl shB | exact fun h => h | refine ⟨?_, ?_, ?_, .inl ?_⟩ | refine ⟨?_, ?_⟩ | refine fun ii hii => ?_ | omega | fail)
theorem Next (τ : Nat) (L : LgS) : LCalls Try.prog 43 (.cons (.ptr ⟨0, [], 0⟩) .nil) [lgO τ L] (fun e h' => e = .ret (.int .i64 (L.next : Int)) ∧ h' = [lgO τ L]) := by
  refine LCalls.tell ?_; refine enter43 rfl ?_; conv => whnf
  refine ⟨[0], _, _, rfl, rfl, ?_, ?_, rfl, rfl⟩
  · (repeat' first | exact trivial | exact rfl | exact sh0 rfl | exact Nat.le_refl _ | exact .inl shA | exact .inr ⟨rfl, rfl, rfl, rfl, rfl⟩ | exact .inl shB | exact fun h => h | refine ⟨?_, ?_, ?_, .inl ?_⟩ | refine ⟨?_, ?_⟩ | refine fun ii hii => ?_ | omega | fail)
  · (repeat' first | exact trivial | exact rfl | exact sh0 rfl | exact Nat.le_refl _ | exact .inl shA | exact .inr ⟨rfl, rfl, rfl, rfl, rfl⟩ | exact .inl shB | exact fun h => h | refine ⟨?_, ?_, ?_, .inl ?_⟩ | refine ⟨?_, ?_⟩ | refine fun ii hii => ?_ | omega | fail)
theorem Life (τ : Nat) (L : LgS) : LCalls Try.prog 73 (.cons (.ptr ⟨0, [], 0⟩) .nil) [lgO τ L] (fun e h' => e = .ret (wN L.life) ∧ h' = [lgO τ L]) := by
  unfold wN
  refine LCalls.tell ?_; refine enter73 rfl ?_; conv => whnf
  refine ⟨[0], _, _, rfl, rfl, ?_, ?_, rfl, rfl⟩
  · (repeat' first | exact trivial | exact rfl | exact sh0 rfl | exact Nat.le_refl _ | exact .inl shA | exact .inr ⟨rfl, rfl, rfl, rfl, rfl⟩ | exact .inl shB | exact fun h => h | refine ⟨?_, ?_, ?_, .inl ?_⟩ | refine ⟨?_, ?_⟩ | refine fun ii hii => ?_ | omega | fail)
  · (repeat' first | exact trivial | exact rfl | exact sh0 rfl | exact Nat.le_refl _ | exact .inl shA | exact .inr ⟨rfl, rfl, rfl, rfl, rfl⟩ | exact .inl shB | exact fun h => h | refine ⟨?_, ?_, ?_, .inl ?_⟩ | refine ⟨?_, ?_⟩ | refine fun ii hii => ?_ | omega | fail)
def chunk (l : Lg.Bs) (i : Nat) : Lg.Bs := (l.drop (48 * i)).take 48
def flg (i n : Nat) : Nat := (if i = 0 then 1 else 0) + (if i + 1 = n then 2 else 0)
def apS (L : LgS) (l : Lg.Bs) (n i : Nat) : F8 := enc L.epoch L.life (L.next + i) (flg i n) (chunk l i).length (chunk l i)
/-- The writes of a record's sectors; an error, and where it stands. -/
def apW (L : LgS) (l : Lg.Bs) (n : Nat) : Nat → Nat → Disk → Disk × Int
  | 0, _, x => (x, 0)
  | k + 1, i, x => if wrE x ((L.first + (L.next + i) : Nat) : Int) 64 = 0 then apW L l n k (i + 1) (wrD x ((L.first + (L.next + i) : Nat) : Int) (toS (apS L l n i)) 64)
    else (wrD x ((L.first + (L.next + i) : Nat) : Int) (toS (apS L l n i)) 64, wrE x ((L.first + (L.next + i) : Nat) : Int) 64)
def appP (x : Disk) (L : LgS) (l : Lg.Bs) : Disk × LgS × Int :=
  if 2000 < l.length then (x, L, 2)
  else if L.count - L.next < secN l.length then (x, L, 3)
  else match apW L l (secN l.length) (secN l.length) 0 x with
    | (y, e) => if e = 0 then (y, { L with next := L.next + secN l.length }, 0) else (y, L, e)
def byO (m : Nat) (f : F8) : Option LObj := some ⟨.rows m 1 (bSeg8 f) .nil, 5, true, false⟩
def sctS (k : Nat) (ep li pl fl ln m : Nat) : LVal := .agg (.one (wN ep) (.one (wN li) (.one (.int .i64 (pl : Int)) (.one (bN fl) (.one (.int .i64 (ln : Int)) (.one (.slice ⟨k, [], 0⟩ 0 1 m m none) .nil))))))
/-- 'encode', the bytes in a block of their own. -/
theorem encodeS (ep li pl fl ln : Nat) (l : Lg.Bs) (h1 : ep < 4294967296) (h2 : li < 4294967296) (h3 : pl < 65536) (h4 : fl < 256) (h5 : ln < 256) (hl : l.length ≤ 48) : LCalls Try.prog 75 (.cons (sctS 0 ep li pl fl ln l.length) .nil) [byO l.length (fB l)] (fun e h' => e = .ret (bV 64 (enc ep li pl fl ln l)) ∧ h' = [none]) := by
  refine LCalls.preF [(0, l.length, 1, bSeg8 (fB l))] ⟨⟨rfl, Nat.le_refl _, rfl, fun i hi => ⟨⟨rfl, rfl⟩, trivial⟩⟩, rfl, trivial⟩ [0] (.cons (sctA ep li pl fl ln l) .nil) [none] rfl rfl ?_ ?_ ?_
  · refine ⟨⟨⟨rfl, rfl⟩, ⟨rfl, rfl⟩, ⟨rfl, rfl⟩, ⟨rfl, rfl⟩, ⟨rfl, rfl⟩, .inr ⟨rfl, rfl, rfl, rfl, rfl, by simp, fun i hi => by show bSeg8 (fB l) (offs 0 i) = bSeg8 (fB l) i; rfl⟩, trivial⟩, trivial⟩
  · (repeat' first | exact trivial | exact rfl | exact sh0 rfl | exact Nat.le_refl _ | exact .inl shA | exact .inr ⟨rfl, rfl, rfl, rfl, rfl⟩ | exact .inl shB | exact fun h => h | refine ⟨?_, ?_, ?_, .inl ?_⟩ | refine ⟨?_, ?_⟩ | refine fun ii hii => ?_ | omega | fail)
  refine (LCalls.frame (H := [none]) (encode ep li pl fl ln l h1 h2 h3 h4 h5 hl) [] rfl trivial).mono ?_
  rintro _ _ ⟨_, _, ⟨rfl, rfl⟩, rfl, rfl⟩
  exact ⟨rfl, rfl⟩
end Go.Proofs.Ytilmfhpoiejmfaa.Gk
