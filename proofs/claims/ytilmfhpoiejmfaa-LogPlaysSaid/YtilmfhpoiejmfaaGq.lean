/- The log: what opening one does, in plain Lean; disks of bytes. By this session. -/
import Derived.Test.YtilmfhpoiejmfaaGr
namespace Go.Proofs.Ytilmfhpoiejmfaa.Gk
open Go.Proofs.Ytilmfhpoiejmfaa.Lh Go.RowKit Go.Proofs.Ytilmfhpoiejmfaa.Lg
open Go.Proofs.Ytilmfhpoiejmfaa.Dk (Disk Sec nought diskR wrE wrD wrN wrS flE flD rdE hasB goesB went flushed armed armE crashed picked fresh cut wrote secV bytesV byteR writeR' read' flush' sectors' wrD_pend went_same Inv)
set_option maxRecDepth 100000
set_option linter.unusedSimpArgs false
set_option linter.unusedSectionVars false
set_option linter.unusedVariables false
variable [Fz]
def BySec (s : Sec) : Prop := ∀ i, 0 ≤ s i ∧ s i < 256
structure ByteD (x : Disk) : Prop where
  now : ∀ s ∈ x.now, BySec s
  last : ∀ s ∈ x.last, BySec s
  pend : ∀ w ∈ x.pend, BySec w.2
theorem by_nought : BySec nought := fun i => ⟨Int.le_refl 0, by show (0 : Int) < 256; decide⟩
theorem by_cut {b : Nat → Int} {m : Nat} (h : ∀ i, i < m → 0 ≤ b i ∧ b i < 256) : BySec (cut b m) := fun i => by
  unfold cut
  split
  · rename_i c; exact h i c
  · exact ⟨Int.le_refl 0, by decide⟩
theorem by_fresh (n : Nat) : ByteD (fresh n) :=
  ⟨fun s hs => by rw [List.eq_of_mem_replicate hs]; exact by_nought, fun s hs => by rw [List.eq_of_mem_replicate hs]; exact by_nought, fun w hw => by cases hw⟩
theorem by_went {x : Disk} (h : ByteD x) : ByteD (went x) := by
  obtain ⟨h1, h2, h3⟩ := went_same x
  exact ⟨by rw [h1]; exact h.now, by rw [h2]; exact h.last, by rw [h3]; exact h.pend⟩
theorem by_wrote : ∀ (p : List (Int × Sec)) {l : List Sec}, (∀ s ∈ l, BySec s) → (∀ w ∈ p, BySec w.2) → ∀ s ∈ wrote l p, BySec s
  | [], l, hl, _ => hl
  | w :: p, l, hl, hp => by
    show ∀ s ∈ wrote (l.set w.1.toNat w.2) p, BySec s
    refine by_wrote p (fun s hs => ?_) (fun v hv => hp v (List.mem_cons_of_mem _ hv))
    rcases List.mem_or_eq_of_mem_set hs with h | rfl
    · exact hl s h
    · exact hp w List.mem_cons_self
theorem by_wrD {x : Disk} (h : ByteD x) (n : Int) {b : Nat → Int} {m : Nat} (hb : ∀ i, i < m → 0 ≤ b i ∧ b i < 256) : ByteD (wrD x n b m) := by
  have hw := by_went h
  unfold wrD
  split
  · refine ⟨fun s hs => ?_, hw.last, fun w hw2 => ?_⟩
    · rcases List.mem_or_eq_of_mem_set hs with h | rfl
      · exact hw.now s h
      · exact by_cut hb
    · rcases List.mem_append.1 hw2 with h | h
      · exact hw.pend w h
      · rw [List.mem_singleton.1 h]
        exact by_cut hb
  · unfold wrN
    split
    · exact hw
    · exact h
theorem by_flD {x : Disk} (h : ByteD x) : ByteD (flD x) := by
  have hw := by_went h
  unfold flD
  split
  · exact h
  · split
    · exact ⟨hw.now, by_wrote _ hw.last hw.pend, fun w hw => by cases hw⟩
    · exact hw
theorem by_armed {x : Disk} (h : ByteD x) (n : Int) : ByteD (armed x n) := by
  unfold armed
  split
  · exact ⟨h.now, h.last, h.pend⟩
  · exact h
theorem by_crashed {x : Disk} (h : ByteD x) (q : Nat → Bool) : ByteD (crashed x q) := by
  have h1 : ∀ s ∈ wrote x.last (picked q x.pend), BySec s := by_wrote _ h.last fun w hw => h.pend w (Dk.picked_mem q x.pend w hw)
  exact ⟨h1, h1, fun w hw => by cases hw⟩
def byt (s : Sec) : F8 := fun i => (s i).toNat
theorem toS_byt {s : Sec} (h : BySec s) : toS (byt s) = s := funext fun i => by
  have := h i
  show (((s i).toNat : Nat) : Int) = s i
  omega
theorem byt_lt {s : Sec} (h : BySec s) (i : Nat) : byt s i < 256 := by
  have := h i
  show (s i).toNat < 256
  omega
theorem by_getD {l : List Sec} (h : ∀ s ∈ l, BySec s) (n : Nat) : BySec (l.getD n nought) := by
  rw [List.getD_eq_getElem?_getD]
  cases he : l[n]? with
  | none => exact by_nought
  | some s => exact h s (List.mem_of_getElem? he)
def regF (x : Disk) (first : Nat) : Nat → F8 := fun p => byt (x.now.getD (first + p) nought)
theorem At_reg {x : Disk} (h : ByteD x) {first count : Nat} (hc : first + count ≤ x.now.length) : At x first count (regF x first) :=
  ⟨hc, fun p _ => ⟨(toS_byt (by_getD h.now _)).symm, byt_lt (by_getD h.now _)⟩⟩
def hdS (h : Nat) : F8 := enc 0 (h + 1) 0 4 0 []
theorem hdS_lt (h i : Nat) : hdS h i < 256 := enc_lt (by decide) (by decide) i
theorem by_toS {f : F8} (hf : ∀ i, f i < 256) (i : Nat) (m : Nat) (_ : i < m) : 0 ≤ toS f i ∧ toS f i < 256 := by
  have := hf i
  show 0 ≤ ((f i : Nat) : Int) ∧ ((f i : Nat) : Int) < 256
  omega
structure OpR where
  err : Int
  y : Disk
  L : LgS
  recs : List Lg.Bs
def lg0 : LgS := ⟨0, 0, 0, 0, 0⟩
def op2 (y : Disk) (first count ep h : Nat) : OpR :=
  if flE y ≠ 0 then ⟨flE y, flD y, lg0, []⟩ else ⟨0, flD y, ⟨first, count, ep, h + 1, (rdL (regF (flD y) first) ep h (count - 1) 1 rd0).next⟩, (rdL (regF (flD y) first) ep h (count - 1) 1 rd0).recs⟩
def op1h (x : Disk) (first count ep h : Nat) : OpR :=
  if h = 4294967295 then ⟨3, x, lg0, []⟩
  else if wrE x first 64 ≠ 0 then ⟨wrE x first 64, wrD x first (toS (hdS h)) 64, lg0, []⟩
  else op2 (wrD x first (toS (hdS h)) 64) first count ep h
def op1 (x : Disk) (first count ep : Nat) : OpR :=
  if x.down = true then ⟨10, x, lg0, []⟩ else op1h x first count ep (headOf (regF x first 0))
def openP (x : Disk) (first count : Int) (ep : Nat) : OpR :=
  if first < 0 then ⟨1, x, lg0, []⟩
  else if count < 2 then ⟨1, x, lg0, []⟩
  else if (x.now.length : Int) < first then ⟨1, x, lg0, []⟩
  else if (x.now.length : Int) - first < count then ⟨1, x, lg0, []⟩
  else op1 x first.toNat count.toNat ep
theorem headOf_lt {f : F8} (hf : ∀ i, f i < 256) : headOf f < 4294967296 := by
  unfold headOf
  split
  · exact leN_lt hf 8 4
  · decide
theorem rdL_next (S : Nat → F8) (ep most : Nat) : ∀ (k p : Nat) (s : RS), s.next ≤ p → (rdL S ep most k p s).next ≤ p + k
  | 0, p, s, h => h
  | k + 1, p, s, h => by
    rw [rdL]
    split
    · refine Nat.le_trans (rdL_next S ep most k (p + 1) _ ?_) (by omega)
      unfold stepS
      split
      · exact Nat.le_refl _
      · exact Nat.le_trans h (Nat.le_succ p)
    · omega
theorem flE_down {y : Disk} (h : flE y = 0) : y.down = false ∧ goesB y = true := by
  unfold flE at h
  split at h
  · cases h
  · rename_i c
    split at h
    · rename_i c2; exact ⟨by simpa using c, c2⟩
    · cases h
theorem went_down {x : Disk} (hg : goesB x = true) : (went x).down = x.down := by
  unfold went
  split
  · rfl
  · rename_i c
    rw [if_neg (by intro h; simp [goesB, h] at hg)]
theorem flD_ok {y : Disk} (h : flE y = 0) : flD y = flushed (went y) ∧ (flD y).down = false ∧ (flD y).now = y.now ∧ (flD y).pend = [] := by
  obtain ⟨h1, h2⟩ := flE_down h
  have e : flD y = flushed (went y) := by unfold flD; rw [if_neg (by rw [h1]; decide), if_pos h2]
  rw [e]
  exact ⟨rfl, (went_down h2).trans h1, (went_same y).1, rfl⟩
theorem op2_ok {y : Disk} {first count ep h : Nat} (hc : first + count ≤ 4096) (h2 : 2 ≤ count) (hep : ep < 4294967296) (hh : h + 1 < 4294967296) (he : (op2 y first count ep h).err = 0) : LgOk (op2 y first count ep h).L := by
  unfold op2 at he ⊢
  split at he
  · rename_i c; exact absurd he c
  · rename_i c
    rw [if_neg c]
    exact ⟨hc, by have := rdL_next (regF (flD y) first) ep h (count - 1) 1 rd0 (Nat.le_refl 1); dsimp only; omega, hep, hh⟩
def openV (r : OpR) : LVal := if r.err = 0 then .tup (.cons (.ptr ⟨1, [], 0⟩) (.cons (strsV r.recs) (.cons (.int .i64 0) .nil))) else .tup (.cons .nilp (.cons (.slice ⟨0, [], 0⟩ 0 0 0 0 (some 0)) (.cons (.int .i64 r.err) .nil)))
def openH (τ : Nat) (r : OpR) : LHeap := if r.err = 0 then [diskR τ r.y, lgO τ r.L] else [diskR τ r.y]
end Go.Proofs.Ytilmfhpoiejmfaa.Gk
