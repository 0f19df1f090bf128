/- The log: what holds of disks and logs all the way. By this session. -/
import Derived.Test.YtilmfhpoiejmfaaGn
import Derived.Test.YtilmfhpoiejmfaaGs
namespace Go.Proofs.Ytilmfhpoiejmfaa.Gk
open Go.Proofs.Ytilmfhpoiejmfaa.Lh Go.RowKit Go.Proofs.Ytilmfhpoiejmfaa.Lg
open Go.Proofs.Ytilmfhpoiejmfaa.Dk (Disk Sec nought diskR wrE wrD wrN wrS flE flD rdE hasB goesB went flushed armed armE crashed picked fresh cut wrote wrote_len secV bytesV byteR writeR' read' flush' sectors' crash' keepQ boolS wrD_pend wrD_len went_same went_pend Inv Inv_fresh Inv_wrD Inv_flD Inv_armed Inv_crashed)
set_option maxRecDepth 100000
set_option linter.unusedSimpArgs false
set_option linter.unusedSectionVars false
set_option linter.unusedVariables false
variable [Fz]
structure St (x : Disk) : Prop where
  inv : Inv x
  by_ : ByteD x
  few : x.now.length ≤ 4096
theorem flD_len (x : Disk) : (flD x).now.length = x.now.length := by
  unfold flD
  split
  · rfl
  · split
    · show (went x).now.length = _
      rw [(went_same x).1]
    · rw [(went_same x).1]
theorem flD_pend (x : Disk) : (flD x).pend.length ≤ x.pend.length := by
  unfold flD
  split
  · exact Nat.le_refl _
  · split
    · exact Nat.zero_le _
    · rw [(went_same x).2.2]; exact Nat.le_refl _
theorem armed_len (x : Disk) (n : Int) : (armed x n).now.length = x.now.length ∧ (armed x n).pend.length = x.pend.length := by
  unfold armed
  split <;> exact ⟨rfl, rfl⟩
theorem crashed_len {x : Disk} (h : Inv x) (q : Nat → Bool) : (crashed x q).now.length = x.now.length := by
  show (wrote x.last _).length = _
  rw [wrote_len, h.len]
theorem St_fresh {n : Nat} (h : n ≤ 4096) : St (fresh n) := ⟨Inv_fresh n, by_fresh n, by simp [fresh]; exact h⟩
theorem St_wrD {x : Disk} (h : St x) (n : Int) {f : F8} (hf : ∀ i, f i < 256) (hp : x.pend.length < 1000000) : St (wrD x n (toS f) 64) :=
  ⟨Inv_wrD h.inv n _ 64 hp, by_wrD h.by_ n (fun i hi => by_toS hf i 64 hi), by rw [wrD_len]; exact h.few⟩
theorem St_flD {x : Disk} (h : St x) : St (flD x) := ⟨Inv_flD h.inv, by_flD h.by_, by rw [flD_len]; exact h.few⟩
theorem St_armed {x : Disk} (h : St x) (n : Int) : St (armed x n) := ⟨Inv_armed h.inv n, by_armed h.by_ n, by rw [(armed_len x n).1]; exact h.few⟩
theorem St_crashed {x : Disk} (h : St x) (q : Nat → Bool) : St (crashed x q) := ⟨Inv_crashed h.inv q, by_crashed h.by_ q, by rw [crashed_len h.inv]; exact h.few⟩
theorem apS_lt (L : LgS) (l : Lg.Bs) (n i j : Nat) : apS L l n i j < 256 := by
  unfold apS
  refine enc_lt ?_ ?_ j
  · unfold flg
    split <;> split <;> decide
  · rw [chunk_len]; omega
theorem St_apW (L : LgS) (l : Lg.Bs) (n : Nat) : ∀ (k i : Nat) {x : Disk}, St x → x.pend.length + k < 1000000 → St (apW L l n k i x).1
  | 0, _, x, h, _ => h
  | k + 1, i, x, h, hp => by
    rw [apW]
    have h1 := wrD_pend x ((L.first + (L.next + i) : Nat) : Int) (toS (apS L l n i)) 64
    have h2 := St_wrD h ((L.first + (L.next + i) : Nat) : Int) (apS_lt L l n i) (by omega)
    split
    · exact St_apW L l n k (i + 1) h2 (by omega)
    · exact h2
theorem apW_len (L : LgS) (l : Lg.Bs) (n : Nat) : ∀ (k i : Nat) (x : Disk), (apW L l n k i x).1.now.length = x.now.length
  | 0, _, x => rfl
  | k + 1, i, x => by
    rw [apW]
    split
    · rw [apW_len L l n k (i + 1), wrD_len]
    · exact wrD_len ..
theorem appP_cases (x : Disk) (L : LgS) (l : Lg.Bs) : (appP x L l = (x, L, 2) ∧ 2000 < l.length) ∨ (appP x L l = (x, L, 3) ∧ l.length ≤ 2000 ∧ L.count - L.next < secN l.length) ∨ (l.length ≤ 2000 ∧ secN l.length ≤ L.count - L.next ∧ (apW L l (secN l.length) (secN l.length) 0 x).2 = 0 ∧ appP x L l = ((apW L l (secN l.length) (secN l.length) 0 x).1, { L with next := L.next + secN l.length }, 0)) ∨ (l.length ≤ 2000 ∧ secN l.length ≤ L.count - L.next ∧ (apW L l (secN l.length) (secN l.length) 0 x).2 ≠ 0 ∧ appP x L l = ((apW L l (secN l.length) (secN l.length) 0 x).1, L, (apW L l (secN l.length) (secN l.length) 0 x).2)) := by
  unfold appP
  by_cases h1 : 2000 < l.length
  · rw [if_pos h1]; exact .inl ⟨rfl, h1⟩
  rw [if_neg h1]
  by_cases h2 : L.count - L.next < secN l.length
  · rw [if_pos h2]; exact .inr (.inl ⟨rfl, by omega, h2⟩)
  rw [if_neg h2]
  refine .inr (.inr ?_)
  by_cases h3 : (apW L l (secN l.length) (secN l.length) 0 x).2 = 0
  · refine .inl ⟨by omega, by omega, h3, ?_⟩
    show (if (apW L l (secN l.length) (secN l.length) 0 x).2 = 0 then _ else _) = _
    rw [if_pos h3]
  · refine .inr ⟨by omega, by omega, h3, ?_⟩
    show (if (apW L l (secN l.length) (secN l.length) 0 x).2 = 0 then _ else _) = _
    rw [if_neg h3]
structure AppOk (x : Disk) (L : LgS) (l : Lg.Bs) : Prop where
  st : St (appP x L l).1
  ok : LgOk (appP x L l).2.1
  len : (appP x L l).1.now.length = x.now.length
  pend : (appP x L l).1.pend.length ≤ x.pend.length + 42
theorem app_ok {x : Disk} {L : LgS} (h : St x) (ok : LgOk L) (l : Lg.Bs) (hp : x.pend.length + 50 < 1000000) : AppOk x L l := by
  rcases appP_cases x L l with ⟨e, _⟩ | ⟨e, _⟩ | ⟨h1, h2, h3, e⟩ | ⟨h1, h2, h3, e⟩
  · exact ⟨by rw [e]; exact h, by rw [e]; exact ok, by rw [e], by rw [e]; exact Nat.le_add_right _ _⟩
  · exact ⟨by rw [e]; exact h, by rw [e]; exact ok, by rw [e], by rw [e]; exact Nat.le_add_right _ _⟩
  · have hs := secN_le h1
    have hq := apW_pend L l (secN l.length) (secN l.length) 0 x
    refine ⟨by rw [e]; exact St_apW L l _ _ 0 h (by omega), ?_, by rw [e]; exact apW_len .., by rw [e]; exact Nat.le_trans hq (by omega)⟩
    rw [e]
    obtain ⟨k1, k2, k3, k4⟩ := ok
    exact ⟨k1, by dsimp only; omega, k3, k4⟩
  · have hs := secN_le h1
    have hq := apW_pend L l (secN l.length) (secN l.length) 0 x
    exact ⟨by rw [e]; exact St_apW L l _ _ 0 h (by omega), by rw [e]; exact ok, by rw [e]; exact apW_len .., by rw [e]; exact Nat.le_trans hq (by omega)⟩
structure OpOk (x : Disk) (r : OpR) : Prop where
  st : St r.y
  ok : r.err = 0 → LgOk r.L
  len : r.y.now.length = x.now.length
  pend : r.y.pend.length ≤ x.pend.length + 1
theorem op2_st {x y : Disk} (h : St y) (hl : y.now.length = x.now.length) (hq : y.pend.length ≤ x.pend.length + 1) {n m ep h' : Nat} (hc : n + m ≤ 4096) (h2 : 2 ≤ m) (hep : ep < 4294967296) (hh : h' + 1 < 4294967296) : OpOk x (op2 y n m ep h') := by
  refine ⟨?_, op2_ok hc h2 hep hh, ?_, ?_⟩ <;> (unfold op2; split)
  · exact St_flD h
  · exact St_flD h
  · exact (flD_len y).trans hl
  · exact (flD_len y).trans hl
  · exact Nat.le_trans (flD_pend y) hq
  · exact Nat.le_trans (flD_pend y) hq
theorem op_ok {x : Disk} (h : St x) (first count : Int) {ep : Nat} (hep : ep < 4294967296) (hp : x.pend.length + 1 < 1000000) : OpOk x (openP x first count ep) := by
  have no : ∀ e : Int, e ≠ 0 → OpOk x ⟨e, x, lg0, []⟩ := fun e he => ⟨h, fun c => absurd c he, rfl, Nat.le_succ _⟩
  have hfew := h.few
  unfold openP
  split
  · exact no 1 (by decide)
  split
  · exact no 1 (by decide)
  split
  · exact no 1 (by decide)
  split
  · exact no 1 (by decide)
  unfold op1
  split
  · exact no 10 (by decide)
  have hh := headOf_lt (f := regF x first.toNat 0) (byt_lt (by_getD h.by_.now _))
  generalize headOf (regF x first.toNat 0) = hd at hh
  unfold op1h
  split
  · exact no 3 (by decide)
  have hs := St_wrD h (first.toNat : Int) (hdS_lt hd) (by omega)
  have hq := wrD_pend x (first.toNat : Int) (toS (hdS hd)) 64
  split
  · rename_i hw
    exact ⟨hs, fun c => absurd c hw, wrD_len .., hq⟩
  · exact op2_st hs (wrD_len ..) hq (by omega) (by omega) hep (by omega)
/-- A crash, with no picks. -/
theorem crashN (τ : Nat) (x : Disk) (hi : Inv x) : LCalls Try.prog 27 (.cons (.tok τ) (.cons (.slice ⟨0, [], 0⟩ 0 0 0 0 (some 0)) .nil)) [diskR τ x] (fun e h' => e = .ret (.int .i64 (picked (keepQ 0 fun _ => false) x.pend).length) ∧ h' = [diskR τ (crashed x (keepQ 0 fun _ => false))]) := by
  refine LCalls.pre [0] (.cons (.tok τ) (.cons (boolS 0 fun _ => false) .nil)) [diskR τ x] rfl rfl ?_ ?_ ?_
  · exact ⟨rfl, .inl ⟨rfl, rfl⟩, trivial⟩
  · (repeat' first | exact trivial | exact rfl | exact sh0 rfl | exact Nat.le_refl _ | exact .inl shA | exact .inr ⟨rfl, rfl, rfl, rfl, rfl⟩ | exact .inl shB | exact fun h => h | refine ⟨?_, ?_, ?_, .inl ?_⟩ | refine ⟨?_, ?_⟩ | refine fun ii hii => ?_ | omega | fail)
  exact crash' τ x hi.toWf 0 (fun _ => false)
end Go.Proofs.Ytilmfhpoiejmfaa.Gk
