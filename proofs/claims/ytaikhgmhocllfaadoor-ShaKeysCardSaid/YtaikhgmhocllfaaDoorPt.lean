/- Digests: bytes come piece by piece, in plain Lean. By this session. -/
import Derived.Test.YtaikhgmhocllfaaDoorPs
namespace Go.Proofs.YtaikhgmhocllfaaDoor.Sp
structure HashOk (m ob : Bs) : Prop where
  len : ob.length = 64
  tk : ob.take (m.length % 64) = m.drop (m.length / 64 * 64)
def putAt (ob x : Bs) (a : Nat) : Bs := ob.take a ++ x ++ ob.drop (a + x.length)
theorem putAt_len {ob x : Bs} {a : Nat} (h : a + x.length ≤ ob.length) : (putAt ob x a).length = ob.length := by
  unfold putAt
  simp only [List.length_append, List.length_take, List.length_drop]
  omega
theorem putAt_get {ob x : Bs} {a j : Nat} (h : a + x.length ≤ ob.length) : (putAt ob x a).getD j 0 = if a ≤ j ∧ j < a + x.length then x.getD (j - a) 0 else ob.getD j 0 := by
  have e1 : (ob.take a).length = a := by rw [List.length_take]; omega
  have e2 : (ob.take a ++ x).length = a + x.length := by rw [List.length_append, e1]
  unfold putAt
  rw [List.getD_eq_getElem?_getD, List.getD_eq_getElem?_getD, List.getD_eq_getElem?_getD]
  rcases Nat.lt_or_ge j a with c | c
  · rw [if_neg (by omega), List.getElem?_append_left (by omega), List.getElem?_append_left (by omega), List.getElem?_take_of_lt c]
  · rcases Nat.lt_or_ge j (a + x.length) with c2 | c2
    · rw [if_pos ⟨c, c2⟩, List.getElem?_append_left (by omega), List.getElem?_append_right (by omega), e1]
    · rw [if_neg (by omega), List.getElem?_append_right (by omega), e2, List.getElem?_drop, show a + x.length + (j - (a + x.length)) = j by omega]
theorem ok_put {m ob x : Bs} (h : HashOk m ob) (hx : m.length % 64 + x.length ≤ 64) : HashOk (m ++ x) (putAt ob x (m.length % 64)) := by
  have hl := h.len
  refine ⟨by rw [putAt_len (by omega), hl], ?_⟩
  rw [List.length_append]
  rcases Nat.lt_or_ge (m.length % 64 + x.length) 64 with c | c
  · rw [show (m.length + x.length) % 64 = m.length % 64 + x.length by omega, show (m.length + x.length) / 64 = m.length / 64 by omega]
    unfold putAt
    have e : (ob.take (m.length % 64) ++ x).length = m.length % 64 + x.length := by rw [List.length_append, List.length_take]; omega
    rw [← e, List.take_left, h.tk, List.drop_append_of_le_length (by omega)]
  · rw [show (m.length + x.length) % 64 = 0 by omega, List.take_zero, List.drop_eq_nil_of_le (by rw [List.length_append]; omega)]
theorem st_less {m x : Bs} (hx : m.length % 64 + x.length < 64) : stateOf (m ++ x) = stateOf m := state_more (by rw [List.length_append]; omega)
theorem st_full {m ob x : Bs} (h : HashOk m ob) (hx : m.length % 64 + x.length = 64) : stateOf (m ++ x) = compress (stateOf m) (putAt ob x (m.length % 64)) := by
  have hl := h.len
  have e0 : m = m.take (m.length / 64 * 64) ++ m.drop (m.length / 64 * 64) := (List.take_append_drop _ _).symm
  have e1 : (m.take (m.length / 64 * 64)).length = 64 * (m.length / 64) := by rw [List.length_take]; omega
  have e2 : (m.drop (m.length / 64 * 64)).length = m.length % 64 := by rw [List.length_drop]; omega
  have e3 : putAt ob x (m.length % 64) = m.drop (m.length / 64 * 64) ++ x := by
    unfold putAt
    rw [h.tk, show ob.drop (m.length % 64 + x.length) = [] from List.drop_eq_nil_of_le (by omega), List.append_nil]
  have := state_block (m := m.take (m.length / 64 * 64)) (r := m.drop (m.length / 64 * 64)) (x := x) e1 (by rw [List.length_append, e2]; omega)
  rw [← e0] at this
  rcases this with c | c
  · rw [c, e3]
  · omega
theorem ok_nil : HashOk [] (List.replicate 64 0) := ⟨by simp, rfl⟩
end Go.Proofs.YtaikhgmhocllfaaDoor.Sp
