/- The log: disks that are not armed; a log on a new disk. By this session. -/
import Derived.Test.YtilmfhpoiejmfaaGt
namespace Go.Proofs.Ytilmfhpoiejmfaa.Gk
open Go.Proofs.Ytilmfhpoiejmfaa.Lh Go.RowKit Go.Proofs.Ytilmfhpoiejmfaa.Lg
open Go.Proofs.Ytilmfhpoiejmfaa.Dk (Disk Sec nought diskR wrE wrD wrN wrS flE flD rdE hasB goesB went flushed armed armE crashed picked fresh cut wrote wrote_len keepQ wrD_pend wrD_len went_same Inv)
set_option maxRecDepth 100000
set_option linter.unusedSimpArgs false
set_option linter.unusedSectionVars false
set_option linter.unusedVariables false
variable [Fz]
structure Up (x : Disk) : Prop where
  up : x.down = false
  left : x.left < 0
theorem Up.went {x : Disk} (h : Up x) : went x = x := by unfold Dk.went; rw [if_pos h.left]
theorem Up.goes {x : Disk} (h : Up x) : goesB x = true := by
  have := h.left
  unfold goesB
  simp
  omega
theorem wrE_up {x : Disk} (h : Up x) {n m : Nat} (hn : n < x.now.length) (hm : m ≤ 64) : wrE x (n : Int) m = 0 := by
  unfold wrE
  rw [if_neg (by rw [h.up]; decide), if_neg (by rw [show hasB x (n : Int) = true by simp [hasB]; omega]; decide), if_neg (by omega), if_pos h.goes]
theorem wrD_up {x : Disk} (h : Up x) {n m : Nat} (b : Nat → Int) (hn : n < x.now.length) (hm : m ≤ 64) : wrD x (n : Int) b m = wrS x n b m := by
  unfold wrD
  rw [if_pos (wrE_up h hn hm), h.went, Int.toNat_natCast]
theorem Up.wrS {x : Disk} (h : Up x) (n : Nat) (b : Nat → Int) (m : Nat) : Up (wrS x n b m) := ⟨h.up, h.left⟩
theorem flE_up {x : Disk} (h : Up x) : flE x = 0 := by
  unfold flE
  rw [if_neg (by rw [h.up]; decide), if_pos h.goes]
theorem flD_up {x : Disk} (h : Up x) : flD x = flushed x := by
  unfold flD
  rw [if_neg (by rw [h.up]; decide), if_pos h.goes, h.went]
theorem Up.flushed {x : Disk} (h : Up x) : Up (flushed x) := ⟨h.up, h.left⟩
theorem Up.crashed (x : Disk) (q : Nat → Bool) : Up (crashed x q) := ⟨rfl, by show (-1 : Int) < 0; decide⟩
theorem Up.fresh (n : Nat) : Up (fresh n) := ⟨rfl, by show (-1 : Int) < 0; decide⟩
theorem Up.wrD {x : Disk} (h : Up x) {n m : Nat} (b : Nat → Int) (hn : n < x.now.length) (hm : m ≤ 64) : Up (wrD x (n : Int) b m) := by
  rw [wrD_up h b hn hm]; exact h.wrS n b m
/-- The sectors that a record writes, one behind the other. -/
def apU (L : LgS) (l : Lg.Bs) (n : Nat) : Nat → Nat → Disk → Disk
  | 0, _, x => x
  | k + 1, i, x => apU L l n k (i + 1) (wrS x (L.first + (L.next + i)) (toS (apS L l n i)) 64)
theorem apW_up (L : LgS) (l : Lg.Bs) (n : Nat) : ∀ (k i : Nat) {x : Disk}, Up x → L.first + (L.next + (i + k)) ≤ x.now.length → apW L l n k i x = (apU L l n k i x, 0) ∧ Up (apU L l n k i x)
  | 0, _, x, h, _ => ⟨rfl, h⟩
  | k + 1, i, x, h, hl => by
    rw [apW, if_pos (wrE_up h (by omega) (by decide)), wrD_up h _ (by omega) (by decide)]
    exact apW_up L l n k (i + 1) (h.wrS _ _ _) (by show _ ≤ (x.now.set _ _).length; rw [List.length_set]; omega)
theorem app_up {x : Disk} (h : Up x) {L : LgS} (ok : LgOk L) (hl : L.first + L.count ≤ x.now.length) (l : Lg.Bs) : (appP x L l = (x, L, 2) ∧ 2000 < l.length) ∨ (appP x L l = (x, L, 3) ∧ l.length ≤ 2000 ∧ L.count - L.next < secN l.length) ∨ (l.length ≤ 2000 ∧ secN l.length ≤ L.count - L.next ∧ Up (apU L l (secN l.length) (secN l.length) 0 x) ∧ appP x L l = (apU L l (secN l.length) (secN l.length) 0 x, { L with next := L.next + secN l.length }, 0)) := by
  rcases appP_cases x L l with e | e | ⟨h1, h2, h3, e⟩ | ⟨h1, h2, h3, e⟩
  · exact .inl e
  · exact .inr (.inl e)
  · obtain ⟨e1, e2⟩ := apW_up L l (secN l.length) (secN l.length) 0 h (by have := ok.nc; omega)
    rw [e1] at e
    exact .inr (.inr ⟨h1, h2, e2, e⟩)
  · obtain ⟨e1, e2⟩ := apW_up L l (secN l.length) (secN l.length) 0 h (by have := ok.nc; omega)
    rw [e1] at h3
    exact absurd rfl h3
theorem byt_nought : byt nought = fun _ => 0 := rfl
theorem fresh_at (n i : Nat) : (fresh n).now.getD i nought = nought := by
  show (List.replicate n nought).getD i nought = nought
  rw [List.getD_eq_getElem?_getD, List.getElem?_replicate]
  split <;> rfl
/-- A log on a new disk. -/
theorem open_fresh {n first count ep : Nat} (hc : first + count ≤ n) (h2 : 2 ≤ count) : ∃ y, openP (fresh n) (first : Int) (count : Int) ep = ⟨0, y, ⟨first, count, ep, 1, 1⟩, []⟩ ∧ y = flushed (wrS (fresh n) first (toS (hdS 0)) 64) := by
  have hu := Up.fresh n
  have hl : (fresh n).now.length = n := by simp [fresh]
  refine ⟨_, ?_, rfl⟩
  have hh : headOf (regF (fresh n) first 0) = 0 := by
    unfold headOf regF
    rw [fresh_at, byt_nought, zero_wrong]
    rfl
  have hr : ∀ k, rdL (regF (flushed (wrS (fresh n) first (toS (hdS 0)) 64)) first) ep 0 k 1 rd0 = rd0 := by
    intro k
    cases k with
    | zero => rfl
    | succ k =>
      rw [rdL, if_neg]
      have : regF (flushed (wrS (fresh n) first (toS (hdS 0)) 64)) first 1 = fun _ => 0 := by
        show byt (((fresh n).now.set first _).getD (first + 1) nought) = _
        rw [List.getD_eq_getElem?_getD, List.getElem?_set_ne (by omega), ← List.getD_eq_getElem?_getD, fresh_at, byt_nought]
      unfold okS
      rw [this, zero_wrong]
      simp
  unfold openP
  rw [if_neg (by omega), if_neg (by omega), if_neg (by omega), if_neg (by omega), Int.toNat_natCast, Int.toNat_natCast]
  unfold op1
  rw [if_neg (by rw [hu.up]; decide), hh]
  unfold op1h
  rw [if_neg (by decide), if_neg (by rw [wrE_up hu (by omega) (by decide)]; decide), wrD_up hu _ (by omega) (by decide)]
  unfold op2
  have hu2 := hu.wrS first (toS (hdS 0)) 64
  rw [if_neg (by rw [flE_up hu2]; decide), flD_up hu2, hr]
  rfl
end Go.Proofs.Ytilmfhpoiejmfaa.Gk
