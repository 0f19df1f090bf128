/- A region that draws its order, walked in the text's order under one condition on the world: loads of whole blocks, values, calls; a floating variable. Over any program. -/
import Derived.Test.YtghmelcbkjejeaaMem
import Derived.Deep.RegionHeld3
namespace Go.Proofs.Ytghmelcbkjejeaa.Mem
open Go.RowKit
section
variable {P : Program} {ops : Array Oper} {Q : Exit → Act → World → Prop} {md : Region.Mode} {S : World → Prop} {i fuel : Nat} {oi : Oper} {listed : Array Bool} {a : Act} {w : World}
theorem wpAnyH_load {g n : Nat} {t : TypeId} {k : IntKind} {f : Nat → Nat} (hi : ops[i]? = some oi) {dd : Tmp} (hdst : oi.dst = some dd) (hs : Region.noSelect ops = true) (hf : Region.free md ops listed i = true) (hr : (Region.ready md ops listed).contains i = true)
    (hQ : ∀ c a w, Q (.panic c) (a.put oi.dst (.agg (arr k n f))) w → Q (.panic c) a w) (hw : Region.wanted oi (yielded ops a.tmps) = true) (ty : TypeId) (x : Operand) (ho : oi.op = .load ty x) (hx : a.eval x = .pointer (some ⟨g, 0, none⟩))
    (hb : ∀ w, S w → Blk w g t (arr k n f)) (d : TypeDesc) (hu : P.underlying ty = some d) (hd : d.isRow = true) (hsz : (P.info? ty).map (·.size) = some n) (hS : S w)
    (h : wpAnyH P md ops Q S fuel (listed.setIfInBounds i true) (a.put (some dd) (.agg (arr k n f))) w) : wpAnyH P md ops Q S (fuel + 1) listed a w :=
  wpAnyH_take hi hs hf hr hQ (yieldsIf_load_mid hw ty x ho g 0 hx (part k n f) d (fun w hw => by have := (hb w hw).range 0 n (by omega); simpa using this) hu hd (by rw [part_len]; exact hsz)) hS (by rw [hdst]; exact h)
theorem wpAnyH_value {v : Value} (hi : ops[i]? = some oi) {dd : Tmp} (hdst : oi.dst = some dd) (hs : Region.noSelect ops = true) (hf : Region.free md ops listed i = true) (hr : (Region.ready md ops listed).contains i = true)
    (hQ : ∀ c a w, Q (.panic c) (a.put oi.dst v) w → Q (.panic c) a w) (hw : Region.wanted oi (yielded ops a.tmps) = true) (hS : S w) (hv : ∀ w, S w → (execOp a.eval oi).run P w = .ok (.value v) w)
    (h : wpAnyH P md ops Q S fuel (listed.setIfInBounds i true) (a.put (some dd) v) w) : wpAnyH P md ops Q S (fuel + 1) listed a w :=
  wpAnyH_take hi hs hf hr hQ (.inl ⟨hw, hv⟩) hS (by rw [hdst]; exact h)
theorem wpAnyH_not (hi : ops[i]? = some oi) {dd : Tmp} (hdst : oi.dst = some dd) (hs : Region.noSelect ops = true) (hf : Region.free md ops listed i = true) (hr : (Region.ready md ops listed).contains i = true)
    (hQ : ∀ c a w, Q (.panic c) (a.put oi.dst undef) w → Q (.panic c) a w) (hw : Region.wanted oi (yielded ops a.tmps) = false) (hS : S w)
    (h : wpAnyH P md ops Q S fuel (listed.setIfInBounds i true) (a.put (some dd) undef) w) : wpAnyH P md ops Q S (fuel + 1) listed a w :=
  wpAnyH_take hi hs hf hr hQ (.inr ⟨hw, rfl⟩) hS (by rw [hdst]; exact h)
theorem wpAnyH_one (hr : Region.ready md ops listed = [i]) (hi : ops[i]? = some oi) {dd : Tmp} (hdst : oi.dst = some dd)
    (h : ∀ K' : Act → World → Prop, Shut (∀ a w, S w → (S w → wpAnyH P md ops Q S fuel (listed.setIfInBounds i true) a w) → K' a w) → if Region.wanted oi (yielded ops a.tmps) = true then Oper.wp P oi a w K' Q else K' (a.put (some dd) undef) w) :
    wpAnyH P md ops Q S (fuel + 1) listed a w :=
  wpAnyH_ready hr (by simp) (AllReadyH.cons hi (by rw [hdst]; exact h) AllReadyH.nil)
end
/-- A whole block loaded, behind a guard that is met. -/
theorem wpList_load_all_g {P : Program} {ops : Array Oper} {rest : List Oper} {op : Oper} {a : Act} {w : World} {Q : Exit → Act → World → Prop} {k : IntKind} {n g : Nat} {f : Nat → Nat} {t : TypeId} (hw : Region.wanted op (yielded ops a.tmps) = true) (ty : TypeId) (x : Operand) (ho : op.op = .load ty x) (hx : a.eval x = .pointer (some ⟨g, 0, none⟩)) (hb : Blk w g t (arr k n f))
    (d : TypeDesc) (hu : P.underlying ty = some d) (hd : d.isRow = true) (hi : (P.info? ty).map (·.size) = some n)
    (h : wpList P ops Q rest (a.put op.dst (.agg (arr k n f))) w) : wpList P ops Q (op :: rest) a w :=
  wpList_step fun K hK => by
    rw [if_pos hw]
    exact wp_load_mid ty x ho g 0 hx (part k n f) d (by have := hb.range 0 n (by omega); simpa using this) hu hd (by rw [part_len]; exact hi) (hK _ _ h)
end Go.Proofs.Ytghmelcbkjejeaa.Mem
