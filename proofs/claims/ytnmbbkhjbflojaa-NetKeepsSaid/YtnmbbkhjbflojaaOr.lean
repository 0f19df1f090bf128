/- Letters and acts that are handed in. By this session. -/
import Derived.Test.YtnmbbkhjbflojaaLp
import Derived.Test.YtnmbbkhjbflojaaLr
namespace Go.Proofs.Ytnmbbkhjbflojaa.Net
open Go.Proofs.Ytnmbbkhjbflojaa.Lh
set_option maxRecDepth 100000
section
variable {w : World} {H : Type} {enc : TypeId × Value → H} {base : Nat} {sp : Nat → Bool} {held : Bool}
theorem open_letter (n : Nat) (cs : List Value) (x : DataW H × List MemPlace) (h : DataW.trod enc Try.prog w base sp held n 34 cs = some x) : ∃ a : Letter, cs = [.int .i64 a.fr, .int .i64 a.to, .string a.txt] := by
  obtain ⟨xs, m, _, _, hl, hx, hf⟩ := DataW.trod_struct Try.underlying34 h
  have h0 := hf 0 _ rfl
  have h1 := hf 1 _ rfl
  have h2 := hf 2 _ rfl
  have hl : cs.length = 3 := hl
  have hx : xs.length = 3 := hx
  rw [List.getElem?_eq_getElem (by omega)] at h0 h1 h2
  obtain ⟨a, e0, _⟩ := DataW.trod_int Try.underlying3 h0
  obtain ⟨b, e1, _⟩ := DataW.trod_int Try.underlying3 h1
  obtain ⟨c, e2, _⟩ := DataW.trod_string Try.underlying9 h2
  match cs, hl with
  | [p, q, r], _ =>
    have e0 : [p] = [.int .i64 a] := e0
    have e1 : [q] = [.int .i64 b] := e1
    have e2 : [r] = [.string c] := e2
    cases e0
    cases e1
    cases e2
    exact ⟨⟨a, b, c⟩, rfl⟩
theorem open_act (n : Nat) (cs : List Value) (x : DataW H × List MemPlace) (h : DataW.trod enc Try.prog w base sp held n 36 cs = some x) : ∃ a : Act, ∀ ρ, PS ρ (acs a) cs := by
  obtain ⟨xs, m, _, _, hl, hx, hf⟩ := DataW.trod_struct Try.underlying36 h
  have h0 := hf 0 _ rfl
  have h1 := hf 1 _ rfl
  have h2 := hf 2 _ rfl
  have hl : cs.length = 5 := hl
  have hx : xs.length = 3 := hx
  rw [List.getElem?_eq_getElem (by omega)] at h0 h1 h2
  obtain ⟨a, e0, _⟩ := DataW.trod_int Try.underlying3 h0
  obtain ⟨b, e1, _⟩ := DataW.trod_int Try.underlying3 h1
  obtain ⟨c, e2⟩ := open_letter _ _ _ h2
  match cs, hl with
  | [p, q, r, s, t], _ =>
    have e0 : [p] = [.int .i64 a] := e0
    have e1 : [q] = [.int .i64 b] := e1
    have e2 : [r, s, t] = [.int .i64 c.fr, .int .i64 c.to, .string c.txt] := e2
    cases e0
    cases e1
    cases e2
    exact ⟨⟨a, b, c⟩, fun ρ => ⟨_, _, rfl, rfl, rfl, _, _, rfl, rfl, rfl, _, _, rfl, rfl, rfl, _, _, rfl, rfl, rfl, _, _, rfl, rfl, rfl, rfl⟩⟩
theorem open_letter' (n : Nat) (cs : List Value) (x : DataW H × List MemPlace) (h : DataW.trod enc Try.prog w base sp held n 34 cs = some x) : ∃ a : Letter, ∀ ρ, PS ρ (ls a) cs := by
  obtain ⟨a, rfl⟩ := open_letter n cs x h
  exact ⟨a, fun ρ => ⟨_, _, rfl, rfl, rfl, _, _, rfl, rfl, rfl, _, _, rfl, rfl, rfl, rfl⟩⟩
end
end Go.Proofs.Ytnmbbkhjbflojaa.Net
