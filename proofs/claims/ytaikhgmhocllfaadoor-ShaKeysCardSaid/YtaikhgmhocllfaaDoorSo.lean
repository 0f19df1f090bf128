/- Digests: what the rows hand in, and what the package's variables hold. By this session. -/
import Derived.Test.YtaikhgmhocllfaaDoorSn
import Derived.Test.YtaikhgmhocllfaaDoorRows
import Derived.Test.YtaikhgmhocllfaaDoorLr
import Derived.Lib.LaidTab
import Derived.LaidMore
namespace Go.Proofs.YtaikhgmhocllfaaDoor.Sk
open Go.Proofs.YtaikhgmhocllfaaDoor.Lh Go.RowKit Go.Proofs.YtaikhgmhocllfaaDoor.Sp Go.ChangeShapes Go.WideShapes Go.ChangeAt
set_option maxRecDepth 100000
set_option linter.unusedSimpArgs false
set_option linter.unusedSectionVars false
set_option linter.unusedVariables false
section
variable {W : World} {H : Type} {enc : TypeId × Value → H} {base : Nat} {held : Bool}
theorem bulk_len {l : List (DataW H)} : l.length ≤ Rows.uptoBulkAll l := by
  have one : ∀ d : DataW H, 1 ≤ Rows.uptoBulk d := fun d => by
    cases d with
    | lit l => cases l <;> simp [Rows.uptoBulk]
    | nil => simp [Rows.uptoBulk]
    | ptr d => simp [Rows.uptoBulk]
    | slice elems spare => simp [Rows.uptoBulk]
    | agg parts => simp [Rows.uptoBulk]
    | iface t d => simp [Rows.uptoBulk]
    | map entries => simp [Rows.uptoBulk]
    | held h => simp [Rows.uptoBulk]
  induction l with
  | nil => simp [Rows.uptoBulkAll]
  | cons x r ih => have := one x; simp only [Rows.uptoBulkAll, List.length_cons]; omega
theorem u8_of {a : Int} (h : (Lit.int .u8 a).wf = true) : ((UInt8.ofNat a.toNat).toNat : Int) = a := by
  simp [Lit.wf, IntKind.min, IntKind.max, IntKind.bits, IntKind.signed] at h
  rw [UInt8.toNat_ofNat']
  omega
def BytesOk (l : Sp.Bs) (d : DataW H) : Prop := l.length ≤ 140737488351232 ∧ l.length ≤ Rows.uptoBulk d
theorem open_bytes (fuel : Nat) (p : Option Addr) (len cap : Nat) (x : DataW H × List MemPlace) (h : DataW.trod enc Tryd.prog W base (fun _ => true) held fuel 22 [.slice p len cap] = some x) (hk : ∀ k ∈ x.1.weights Tryd.prog 22, k ≤ reachBytes) :
    ∃ l : Sp.Bs, BytesOk l x.1 ∧ PV (ρi W) (bysV l) (.slice p len cap) := by
  obtain ⟨l, h1, h2, h3⟩ := open_rslB (fun s : UInt8 => .one (.int .u8 (s.toNat : Int)) .nil) (fun _ _ => True) (m := 1) (by kernel_rfl) Tryd.underlying22 (by decide) (fun n _ cs x h hk => by
    obtain ⟨a, rfl, _, h3⟩ := DataW.trod_int Tryd.underlying5 h
    exact ⟨UInt8.ofNat a.toNat, trivial, _, _, rfl, by rw [u8_of h3]; rfl, rfl, rfl⟩) h hk
  have hb : Tryd.prog.bytesOf 5 = 1 := by kernel_rfl
  have hr : reachBytes = 140737488351232 := rfl
  rw [hb] at h1
  refine ⟨l, ⟨by omega, ?_⟩, h3⟩
  by_cases c : 0 < l.length
  · obtain ⟨es, sp, d, e1, e2, _⟩ := h2 0 c
    have := bulk_len (l := es)
    rw [e1]
    simp only [Rows.uptoBulk]
    omega
  · omega
theorem ps_ints {ρ : Pl} {k : IntKind} (F : Nat → Int) (n : Nat) : PS ρ (.rows n 1 (fun i => .one (.int k (F i)) .nil) .nil) ((List.range n).map fun i => Value.int k (F i)) := by
  refine ⟨(List.range n).map fun i => [Value.int k (F i)], [], ?_, by simp, fun i hi => ⟨[.int k (F i)], ?_, rfl, _, _, rfl, rfl, rfl, rfl⟩, rfl⟩
  · rw [List.append_nil]
    generalize List.range n = l
    induction l with
    | nil => rfl
    | cons a r ih => rw [List.map_cons, List.map_cons, List.flatten_cons, ← ih]; rfl
  · rw [List.getElem?_map, List.getElem?_range hi]
    rfl
theorem glob_of {name : String} {g n : Nat} {L : List B} (hg : Tryd.prog.globalNamed name = some g) (hv : W.var? Tryd.prog name = some (((List.range n).map fun i => Value.int .u32 ((L.getD i 0).toNat : Int)).toArray)) : PV (ρi W) (.rptr (.rows n 1 (wSeg L) .nil)) (.pointer (some ⟨g, 0, none⟩)) := by
  unfold World.var? at hv
  rw [hg] at hv
  simp only [Option.bind_some] at hv
  split at hv
  · rename_i cs ty fr hh
    cases hv
    exact ⟨g, 0, _, rfl, ⟨_, ty, fr, hh, Nat.zero_le _, [], by simp⟩, ps_ints (fun i => ((L.getD i 0).toNat : Int)) n⟩
  · cases hv
theorem tables (h : laidMetH Tryd.prog [("palatine/sha.first", Rows.laid_palatine_sha_first), ("palatine/sha.constants", Rows.laid_palatine_sha_constants)] W) : ∀ g s, fzI.glob g = some s → PV (ρi W) (.rptr s) (.pointer (some ⟨g, 0, none⟩)) := by
  rw [MakeChecks.laidMetH_plain _ _ _ (by kernel_rfl)] at h
  obtain ⟨ps, ⟨g0, t0, cs0, f0, p0, q0, hg0, ht0, hv0, hd0, ⟨g1, t1, cs1, f1, p1, q1, hg1, ht1, hv1, hd1, _, _⟩, _⟩, _, _⟩ := h
  have gF : Tryd.prog.globalNamed "palatine/sha.first" = some 0 := by kernel_rfl
  have gC : Tryd.prog.globalNamed "palatine/sha.constants" = some 1 := by kernel_rfl
  obtain rfl := Option.some.inj (gF.symm.trans hg0)
  obtain rfl := Option.some.inj (gC.symm.trans hg1)
  obtain rfl := Option.some.inj ((show (Tryd.prog.globals[0]?).map (·.type) = some 69 by kernel_rfl).symm.trans ht0)
  obtain rfl := Option.some.inj ((show (Tryd.prog.globals[1]?).map (·.type) = some 71 by kernel_rfl).symm.trans ht1)
  have e0 := Go.Lib.cells_of_tab (k := .u32) (zs := (List.range 8).map fun i => ((firstL.getD i 0).toNat : Int)) Tryd.underlying69 Tryd.underlying68 (by kernel_rfl) (by kernel_rfl) hd0
  have e1 := Go.Lib.cells_of_tab (k := .u32) (zs := (List.range 64).map fun i => ((Sp.constL.getD i 0).toNat : Int)) Tryd.underlying71 Tryd.underlying68 (by kernel_rfl) (by kernel_rfl) hd1
  have k0 := glob_of (W := W) (L := firstL) (n := 8) gF (by rw [hv0]; refine congrArg some (Array.ext' ?_); rw [e0, List.map_map]; rfl)
  have k1 := glob_of (W := W) (L := Sp.constL) (n := 64) gC (by rw [hv1]; refine congrArg some (Array.ext' ?_); rw [e1, List.map_map]; rfl)
  intro g s hs
  match g, hs with
  | 0, hs => cases hs; exact k0
  | 1, hs => cases hs; exact k1
  | n + 2, hs => cases hs
theorem bulk_part {d : DataW H} {l : List (DataW H)} (h : d ∈ l) : Rows.uptoBulk d ≤ Rows.uptoBulkAll l := by
  induction l with
  | nil => cases h
  | cons x r ih =>
    simp only [Rows.uptoBulkAll]
    cases List.mem_cons.1 h with
    | inl e => subst e; omega
    | inr e => have := ih e; omega
def PartsOk (l : List Sp.Bs) (d : DataW H) : Prop := Rows.uptoBulk d ≤ 1048576 → ∀ i, (l.getD i []).length ≤ 1048576
theorem allOf_len {l : List Sp.Bs} (h : ∀ i, (l.getD i []).length ≤ 1048576) : ∀ k, (allOf l k).length ≤ k * 1048576
  | 0 => Nat.zero_le _
  | k + 1 => by
    have := allOf_len h k
    rw [Nat.succ_mul]
    by_cases c : k < l.length
    · rw [allOf_succ c, List.length_append]
      exact Nat.add_le_add this (h k)
    · have e : allOf l (k + 1) = allOf l k := by
        unfold allOf
        rw [List.take_of_length_le (by omega), List.take_of_length_le (by omega)]
      rw [e]
      exact Nat.le_trans this (Nat.le_add_right _ _)
theorem open_parts (fuel : Nat) (p : Option Addr) (len cap : Nat) (x : DataW H × List MemPlace) (h : DataW.trod enc Tryd.prog W base (fun _ => true) held fuel 31 [.slice p len cap] = some x) (hk : ∀ k ∈ x.1.weights Tryd.prog 31, k ≤ reachBytes) :
    ∃ l : List Sp.Bs, PartsOk l x.1 ∧ PV (ρi W) (partsV l) (.slice p len cap) := by
  obtain ⟨l, h1, h2, h3⟩ := open_rslB (fun s : Sp.Bs => .one (bysV s) .nil) (fun s d => BytesOk s d) (m := 1) (by kernel_rfl) Tryd.underlying31 (by decide) (fun n _ cs x h hk => by
    have : ∃ p len cap, cs = [.slice p len cap] := by
      rcases DataW.trod_slice Tryd.underlying22 h with ⟨rfl, _⟩ | ⟨a, len, cap, _, _, _, _, rfl, _⟩
      · exact ⟨_, _, _, rfl⟩
      · exact ⟨_, _, _, rfl⟩
    obtain ⟨p, len, cap, rfl⟩ := this
    obtain ⟨l, h1, h2⟩ := open_bytes n p len cap x h hk
    exact ⟨l, h1, _, _, rfl, h2, rfl, rfl⟩) h hk
  refine ⟨l, fun hb i => ?_, h3⟩
  by_cases c : i < l.length
  · obtain ⟨es, sp, d, e1, e2, e3, q⟩ := h2 i c
    rw [e1] at hb
    have := bulk_part e3
    simp only [Rows.uptoBulk] at hb
    have := q.2
    have e : (default : Sp.Bs) = [] := rfl
    rw [e] at this
    omega
  · rw [List.getD_eq_getElem?_getD, List.getElem?_eq_none (by omega)]
    simp
end
theorem lShaSum {H : Type} {d : DataW H} (a : Sp.Bs) (h : BytesOk a d) (hb : Rows.uptoBulk d ≤ 1048576) : LCalls Tryd.prog 3 (.cons (bysV a) .nil) [] HoldsE := ShaSum a (Nat.le_trans h.2 hb)
theorem lShaMac {H : Type} {d e : DataW H} (a : Sp.Bs) (h : BytesOk a d) (hb : Rows.uptoBulk d ≤ 1048576) (b : Sp.Bs) (h2 : BytesOk b e) (hb2 : Rows.uptoBulk e ≤ 1048576) : LCalls Tryd.prog 4 (.cons (bysV a) (.cons (bysV b) .nil)) [] HoldsE := ShaMac a b (Nat.le_trans h.2 hb) (Nat.le_trans h2.2 hb2)
theorem lShaParts {H : Type} {d : DataW H} (a : List Sp.Bs) (h : PartsOk a d) (hb : Rows.uptoBulk d ≤ 1048576) : LCalls Tryd.prog 5 (.cons (partsV a) .nil) [] HoldsE := ShaParts a fun k hk => by have := allOf_len (h hb) k; omega
end Go.Proofs.YtaikhgmhocllfaaDoor.Sk
