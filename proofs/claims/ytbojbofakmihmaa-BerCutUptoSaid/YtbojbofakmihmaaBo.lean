/- A piece of bytes that is handed in, opened. By this session. -/
import Derived.Test.YtbojbofakmihmaaBm
import Derived.Test.YtbojbofakmihmaaRows
import Derived.ProofKit
namespace Go.Proofs.Ytbojbofakmihmaa.Bk
open Go.Proofs.Ytbojbofakmihmaa.Lh Go.RowKit Go.Proofs.Ytbojbofakmihmaa.Bp Go.ChangeShapes Go.WideShapes Go.ChangeAt
set_option maxRecDepth 100000
set_option linter.unusedSimpArgs false
set_option linter.unusedSectionVars false
set_option linter.unusedVariables false
variable [Fz]
theorem bulk_pos {H : Type} (d : DataW H) : 1 ≤ Rows.uptoBulk d := by
  cases d with
  | lit l => cases l <;> simp [Rows.uptoBulk]
  | nil => simp [Rows.uptoBulk]
  | ptr d => simp [Rows.uptoBulk]
  | slice elems spare => simp [Rows.uptoBulk]
  | agg parts => simp [Rows.uptoBulk]
  | iface t d => simp [Rows.uptoBulk]
  | map entries => simp [Rows.uptoBulk]
  | held h => simp [Rows.uptoBulk]
theorem bulk_part {H : Type} {d : DataW H} {l : List (DataW H)} (h : d ∈ l) : Rows.uptoBulk d ≤ Rows.uptoBulkAll l := by
  induction l with
  | nil => cases h
  | cons x r ih =>
    simp only [Rows.uptoBulkAll]
    cases List.mem_cons.1 h with
    | inl e => subst e; omega
    | inr e => have := ih e; omega
theorem bulk_len {H : Type} (l : List (DataW H)) : l.length ≤ Rows.uptoBulkAll l := by
  induction l with
  | nil => simp [Rows.uptoBulkAll]
  | cons x r ih => have := bulk_pos x; simp only [Rows.uptoBulkAll, List.length_cons]; omega
theorem rsl_congr {ρ : Pl} {n w : Nat} {f g : Nat → Segs} {v : Value} (h : ∀ i, i < n → f i = g i) (hv : PV ρ (.rsl n w f) v) : PV ρ (.rsl n w g) v := by
  obtain ⟨p, cap, h1, h2, h3⟩ := hv
  refine ⟨p, cap, h1, h2, h3.imp id fun ⟨g', off, l, h4, h5, h6, h7⟩ => ⟨g', off, l, h4, h5, h6, fun i hi => ?_⟩⟩
  rw [← h i hi]
  exact h7 i hi
section
variable {W : World} {H : Type} {enc : TypeId × Value → H} {base : Nat} {held : Bool}
def NodeOk (a : Nd) (d : DataW H) : Prop := Wide a ∧ (Rows.uptoBulk d ≤ 1048576 → Small a)
def KidsOk (l : List Nd) (d : DataW H) : Prop := l.length ≤ 140737488351232 ∧ (∀ k ∈ l, Wide k) ∧ (Rows.uptoBulk d ≤ 1048576 → l.length ≤ 1048576 ∧ ∀ k ∈ l, Small k)
theorem mem_getD {l : List Nd} {k : Nd} (h : k ∈ l) : ∃ i, i < l.length ∧ l.getD i default = k := by
  obtain ⟨i, hi, e⟩ := List.mem_iff_getElem.1 h
  exact ⟨i, hi, by rw [List.getD_eq_getElem?_getD, List.getElem?_eq_getElem hi]; exact e⟩
theorem open_kids (n : Nat) (hE : ∀ m, m < n → ∀ cs x, DataW.trod enc Try.prog W base (fun _ => true) held m 40 cs = some x → (∀ k ∈ x.1.weights Try.prog 40, k ≤ reachBytes) → ∃ a : Nd, NodeOk a x.1 ∧ PS (ρi W) (nodeS a) cs) :
    ∀ cs x, DataW.trod enc Try.prog W base (fun _ => true) held n 38 cs = some x → (∀ k ∈ x.1.weights Try.prog 38, k ≤ reachBytes) → ∃ l : List Nd, KidsOk l x.1 ∧ PS (ρi W) (.one (.rsl l.length 3 (nodesS l)) .nil) cs := by
  intro cs x h hk
  have u := Try.underlying38
  have : ∃ p len cap, cs = [.slice p len cap] := by
    rcases DataW.trod_slice u h with ⟨rfl, _⟩ | ⟨a, len, cap, _, _, _, _, rfl, _⟩
    · exact ⟨_, _, _, rfl⟩
    · exact ⟨_, _, _, rfl⟩
  obtain ⟨p, len, cap, rfl⟩ := this
  obtain ⟨l, h1, h2, h3⟩ := open_rslB nodeS NodeOk (m := 3) (by kernel_rfl) u (by decide) hE h hk
  have hb : Try.prog.bytesOf 40 = 48 := by kernel_rfl
  have hr : reachBytes = 140737488351232 := rfl
  rw [hb] at h1
  refine ⟨l, ⟨by omega, fun k hk => ?_, fun hb => ⟨?_, fun k hk => ?_⟩⟩, _, _, rfl, rsl_congr (fun i hi => (nodesS_at l i hi).symm) h3, rfl, rfl⟩
  · obtain ⟨i, hi, rfl⟩ := mem_getD hk
    obtain ⟨es, sp, d, _, _, _, q⟩ := h2 i hi
    exact q.1
  · by_cases c : 0 < l.length
    · obtain ⟨es, sp, d, e1, e2, _, q⟩ := h2 0 c
      rw [e1] at hb
      have := bulk_len es
      simp only [Rows.uptoBulk] at hb
      omega
    · omega
  · obtain ⟨i, hi, rfl⟩ := mem_getD hk
    obtain ⟨es, sp, d, e1, e2, e3, q⟩ := h2 i hi
    rw [e1] at hb
    have := bulk_part e3
    simp only [Rows.uptoBulk] at hb
    exact q.2 (by omega)
theorem open_node : ∀ (n : Nat) cs x, DataW.trod enc Try.prog W base (fun _ => true) held n 40 cs = some x → (∀ k ∈ x.1.weights Try.prog 40, k ≤ reachBytes) → ∃ a : Nd, NodeOk a x.1 ∧ PS (ρi W) (nodeS a) cs := by
  intro n
  induction n using Nat.strongRecOn with
  | _ n ih =>
  intro cs x h hk
  have u := Try.underlying40
  have hl : cs.length = 3 := (DataW.trod_struct u h).elim fun xs q => q.elim fun m q => q.2.2.1
  obtain ⟨a0, _, h0⟩ := opens_field u h hk (i := 0) rfl (opens_int Try.underlying3)
  obtain ⟨a1, k1, h1⟩ := opens_field u h hk (i := 1) rfl (opens_string Try.underlying9)
  obtain ⟨a2, k2, h2⟩ := opens_fieldB u h hk (i := 2) rfl (ok := KidsOk) (fun m hm => open_kids m (fun m' hm' => ih m' (by omega)))
  have hr : reachBytes = 140737488351232 := rfl
  refine ⟨.mk a0 a1.data.toList a2, ⟨?_, fun hb => ?_⟩, ?_⟩
  · obtain ⟨ps, d, e1, e2, e3⟩ := k2
    exact .mk (by rw [Array.length_toList]; have : a1.data.size ≤ _ := k1; omega) e3.1 e3.2.1
  · obtain ⟨ps, d, e1, e2, e3⟩ := k2
    rw [e1] at hb
    have := bulk_part e2
    simp only [Rows.uptoBulk] at hb
    have h := e3.2.2 (by omega)
    exact .mk (by omega) h.2
  · have e : cs = (cs.drop 0).take 1 ++ ((cs.drop 1).take 1 ++ (cs.drop 2).take 1) := by
      match cs, hl with
      | [p, q, r], _ => rfl
    rw [e, nodeS]
    exact PS.app _ _ _ _ h0 (PS.app _ _ _ _ h1 h2)
end
/-! The laws of nodes, as the rows hand them in. -/
theorem lBerWrites {H : Type} {d : DataW H} (a : Nd) (h : NodeOk a d) : LCalls Try.prog 13 (.cons (nodeV a) .nil) [] HoldsE := (BerWrites a h.1).mono fun _ _ h => h.1
theorem lBerBack {H : Type} {d : DataW H} (a : Nd) (h : NodeOk a d) (hb : Rows.uptoBulk d ≤ 1048576) (s : ByteArray) (hs : s.size ≤ 1048576) : LCalls Try.prog 8 (.cons (nodeV a) (.cons (.str s) .nil)) [] HoldsE := (BerBack a (h.2 hb) s.data.toList (by simpa using hs)).mono fun _ _ h => h.1
theorem lBerCut {H : Type} {d : DataW H} (a : Nd) (h : NodeOk a d) (hb : Rows.uptoBulk d ≤ 1048576) (k : Int) : LCalls Try.prog 10 (.cons (nodeV a) (.cons (.int .i64 k) .nil)) [] HoldsE := (BerCut a (h.2 hb) k).mono fun _ _ h => h.1
end Go.Proofs.Ytbojbofakmihmaa.Bk
