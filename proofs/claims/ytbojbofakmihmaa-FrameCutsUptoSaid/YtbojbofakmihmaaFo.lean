/- Frames: what the rows hand in. By this session. -/
import Derived.Test.YtbojbofakmihmaaFl
import Derived.Test.YtbojbofakmihmaaFm
namespace Go.Proofs.Ytbojbofakmihmaa.Fk
open Go.Proofs.Ytbojbofakmihmaa.Lh Go.RowKit Go.Proofs.Ytbojbofakmihmaa.Bp Go.ChangeShapes Go.WideShapes Go.ChangeAt
open Go.Proofs.Ytbojbofakmihmaa.Bk (bs bulk_len bulk_part HoldsE rsl_congr)
set_option maxRecDepth 100000
set_option linter.unusedSimpArgs false
set_option linter.unusedSectionVars false
set_option linter.unusedVariables false
variable [Fz]
section
variable {W : World} {H : Type} {enc : TypeId × Value → H} {base : Nat} {held : Bool}
def StrsOk (l : List Bp.Bs) (d : DataW H) : Prop := l.length ≤ 140737488351232 ∧ (Rows.uptoBulk d ≤ 1048576 → ∀ i, (l.getD i []).length ≤ 1048576)
theorem open_strs (fuel : Nat) (p : Option Addr) (len cap : Nat) (x : DataW H × List MemPlace) (h : DataW.trod enc Try.prog W base (fun _ => true) held fuel 22 [.slice p len cap] = some x) (hk : ∀ k ∈ x.1.weights Try.prog 22, k ≤ reachBytes) :
    ∃ l : List Bp.Bs, StrsOk l x.1 ∧ PV (ρi W) (strsV l) (.slice p len cap) := by
  obtain ⟨l, h1, h2, h3⟩ := open_rslB (fun s : Bp.Bs => .one (.str (bs s)) .nil) (fun s d => Rows.uptoBulk d ≤ 1048576 → s.length ≤ 1048576) (m := 1) (by kernel_rfl) Try.underlying22 (by decide) (fun n _ cs x h hk => by
    obtain ⟨a, rfl, rfl, _⟩ := DataW.trod_string Try.underlying9 h
    refine ⟨a.data.toList, fun hb => ?_, _, _, rfl, rfl, rfl, rfl⟩
    simp only [Rows.uptoBulk] at hb
    omega) h hk
  have hb : Try.prog.bytesOf 9 = 16 := by kernel_rfl
  have hr : reachBytes = 140737488351232 := rfl
  rw [hb] at h1
  refine ⟨l, ⟨by omega, fun hb i => ?_⟩, h3⟩
  by_cases c : i < l.length
  · obtain ⟨es, sp, d, e1, e2, e3, q⟩ := h2 i c
    rw [e1] at hb
    have := bulk_part e3
    simp only [Rows.uptoBulk] at hb
    exact q (by omega)
  · rw [List.getD_eq_getElem?_getD, List.getElem?_eq_none (by omega)]
    simp
end
theorem lFramePlays {H : Type} {d : DataW H} (a : List Bp.Bs) (h : StrsOk a d) (hb : Rows.uptoBulk d ≤ 1048576) : LCalls Try.prog 3 (.cons (strsV a) .nil) [] HoldsE := (FramePlays a h.1 (h.2 hb)).mono fun _ _ h => h.1
theorem lFrameAll {H : Type} {d : DataW H} (a : List Bp.Bs) (h : StrsOk a d) (hb : Rows.uptoBulk d ≤ 1048576) : LCalls Try.prog 5 (.cons (strsV a) .nil) [] HoldsE := (FrameAll a h.1 (h.2 hb)).mono fun _ _ h => h.1
theorem lFrameBack {H : Type} {d : DataW H} (a : List Bp.Bs) (h : StrsOk a d) : LCalls Try.prog 6 (.cons (strsV a) .nil) [] HoldsE := (FrameBack a h.1).mono fun _ _ h => h.1
theorem lFrameCuts (s : ByteArray) (hs : s.size ≤ 1048576) (n : Int) : LCalls Try.prog 4 (.cons (.str s) (.cons (.int .i64 n) .nil)) [] HoldsE := (FrameCuts s.data.toList (by simpa using hs) n).mono fun _ _ h => h.1
end Go.Proofs.Ytbojbofakmihmaa.Fk
