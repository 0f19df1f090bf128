/- Append of noughts; the room of a slice. Over any program. -/
import Derived.Test.YtilmfhpoiejmfaaLh7c
namespace Go.Proofs.Ytilmfhpoiejmfaa.Lh
set_option linter.unusedSimpArgs false
set_option linter.unusedVariables false
set_option linter.unusedSectionVars false
variable [Fz]
section
variable {T : Nat → Nat → Prop} {w0 : World} {ρ : Pl} {h : LHeap} {w : World} {t : List LVal} {a : Act} {Φ : LVal → List (Nat × Option LObj) → Option LObj → Prop} {P : Program} {n : Nat}
theorem appZ_sound (X Y : Operand) (tS tX e : TypeId) (k : IntKind) (i : TypeInfo) (z : Value) (s : Segs) (o : Oper) (ho : o.op = .call ⟨.builtin .append, #[X, Y], #[tS, tX]⟩) (ht : P.underlying tS = some (.slice e)) (hX : P.underlying tX = some (.int k)) (hi : P.info? e = some i) (hz : i.zero = some z) (hf : flatEq s z.cells.toList = true) (hzs : z.cells.size = i.size) (h0 : i.size ≠ 0)
    (hs : Sim T w0 ρ h w) (hn : ρ n = none) (hh : hget h n = none) {v y : LVal} (hv : PV ρ v (a.eval X)) (hy : PV ρ y (a.eval Y)) (hw : (appZRd n i.size i.bytes e s v y).wp t h Φ) : Res P o a w T w0 ρ h n Φ := by
  cases v <;> try exact hw.elim
  cases y <;> try exact hw.elim
  rename_i p st w' len lo hi' kk c
  have ey : a.eval Y = .int kk c := hy
  obtain ⟨⟨h1, h2, h3⟩, hw⟩ := hw
  obtain ⟨m, rfl⟩ := Int.eq_ofNat_of_zero_le h1
  have hwr : IntKind.i64.wrap (m : Int) = m := by simp [IntKind.wrap, IntKind.bits, IntKind.signed]; omega
  have h48 : ¬ (281474976710656 < (m : Int) * (i.bytes : Int)) := by omega
  have hm0 : ¬ ((m : Int) < 0) := by omega
  have hl : (Builtin.zeroCells z.cells m).toList.length = m * i.size := by rw [Array.length_toList, size_zeroCells, hzs]
  have hch : Chunks ρ i.size m (fun _ => s) (Builtin.zeroCells z.cells m).toList := by
    rw [zeroCells_eq]
    exact chunks_const (flatEq_spec hf ρ) (by simpa using hzs)
  have hz0 : m = 0 → Builtin.zeroCells z.cells m = #[] := fun hm => by
    apply Array.ext'
    have := hl
    rw [hm, Nat.zero_mul] at this
    exact List.eq_nil_of_length_eq_zero (by rw [hm]; exact this)
  have hms : m * i.size = 0 ↔ m = 0 := by
    constructor
    · intro hh
      rcases Nat.mul_eq_zero.1 hh with c | c
      · exact c
      · exact absurd c h0
    · rintro rfl; exact Nat.zero_mul _
  refine app_core X e i z o hzs h0 hs hn hh hv (m := m) (l := (Builtin.zeroCells z.cells m).toList) ⟨?_, ?_, ?_⟩ hch hw
  · intro hm q len cap ex hroom
    have hr : len + m ≤ cap := by omega
    have e1 : m * i.size = 0 := hms.2 hm
    refine append_exec ho ?_
    rw [ex, ey]
    have e2 : (Result.ok (Value.slice q len cap) w : Result Value) = .ok (Value.slice q (len + m) cap) w := by rw [hm]; rfl
    rw [e2]
    cases q <;> simp [Builtin.append_, run_underlying ht, run_underlying hX, sizeOf, typeInfo, hi, hwr, hr, asInt, asIntOf, storeCells, e1, h48, hm0]
  · intro g o' len cap ex hroom hone hth
    have hst := run_storeCells_cells (P := P) g (o' + len * i.size) (Builtin.zeroCells z.cells m).toList 0 w (fun j hj => by simpa using (hth j hj).1) (fun j hj => by simpa using (hth j hj).2) hone
    simp only [Nat.add_zero] at hst
    refine append_exec ho ?_
    rw [ex, ey]
    by_cases hm : m * i.size = 0
    · have e0 := hz0 (hms.1 hm)
      rw [e0] at hst ⊢
      simp [Builtin.append_, run_underlying ht, run_underlying hX, sizeOf, typeInfo, hi, hwr, hroom, asInt, asIntOf, h48, hm0, hm, Addr.add_mid]
      have hst : (storeCells ⟨g, o' + len * i.size, none⟩ []).run P w = .ok () (w.setCells g (o' + len * i.size) []) := hst
      simp [hst]
    · simp [Builtin.append_, run_underlying ht, run_underlying hX, sizeOf, typeInfo, zeroValue, hi, hz, hwr, hroom, asInt, asIntOf, h48, hm0, hm, Addr.add_mid, hst]
  · intro q len cap l0 ex hf0 c3 c4 c5
    have hno : ¬ (len + m ≤ cap) := by omega
    have h63' : ¬ (9223372036854775807 < ((len : Int) + (m : Int))) := by omega
    have h48' : ¬ (281474976710656 < Builtin.nextslicecap (len + m) cap * i.bytes) := by
      have := growslice_fits (need := len + m) (old := cap) (bytes := i.bytes) c3 (by omega)
      omega
    have hf0' := hf0 w.drew rfl
    refine ⟨grownCap w (len + m) cap e, (Builtin.zeroCells z.cells (grownCap w (len + m) cap e - (len + m))).toList, grownCap_ge _ _ _ _, by rw [Array.length_toList, size_zeroCells], append_exec ho ?_⟩
    rw [ex, ey]
    by_cases hm : m * i.size = 0
    · rw [hz0 (hms.1 hm)]
      simp [Builtin.append_, run_underlying ht, run_underlying hX, sizeOf, typeInfo, zeroValue, hi, hz, hwr, hno, asInt, asIntOf, h48, hm0, hm, h63', h48', Question.forced, hf0', newRow, grownCap]
      congr 2; apply Array.ext'; simp
    · simp [Builtin.append_, run_underlying ht, run_underlying hX, sizeOf, typeInfo, zeroValue, hi, hz, hwr, hno, asInt, asIntOf, h48, hm0, hm, h63', h48', Question.forced, hf0', newRow, grownCap]
      congr 2; apply Array.ext'; simp
end
end Go.Proofs.Ytilmfhpoiejmfaa.Lh
