/- A contract used in a walk. Over any program. -/
import Derived.Test.YtilmfhpoiejmfaaLh11
namespace Go.Proofs.Ytilmfhpoiejmfaa.Lh
set_option linter.unusedSimpArgs false
set_option linter.unusedVariables false
set_option linter.unusedSectionVars false
open Go.RowKit
variable [Fz]
/-! The same, as a walk takes it. -/
mutual
def renK (g : Nat → Nat) : LVal → (LVal → Prop) → Prop
  | .undef, K => K .undef
  | .any, K => K .any
  | .bool b, K => K (.bool b)
  | .int k n, K => K (.int k n)
  | .str s, K => K (.str s)
  | .nilp, K => K .nilp
  | .ptr a, K => natK (g a.blk) fun b => K (.ptr ⟨b, a.path, a.off⟩)
  | .slice a st w len lo hi, K => natK (g a.blk) fun b => K (.slice ⟨b, a.path, a.off⟩ st w len lo hi)
  | .nilf, K => K .nilf
  | .func f c, K => rensK g c fun c => K (.func f c)
  | .nilI, K => K .nilI
  | .iface t v, K => renK g v fun v => K (.iface t v)
  | .agg s, K => renSK g s fun s => K (.agg s)
  | .tup vs, K => rensK g vs fun vs => K (.tup vs)
  | .rsl n w f, K => K (.rsl n w f)
  | .rptr s, K => K (.rptr s)
  | .tok k, K => K (.tok k)
  | .gl k, K => K (.gl k)
  | .yld l tm ts, K => rensK g ts fun ts => K (.yld l tm ts)
def rensK (g : Nat → Nat) : LVals → (LVals → Prop) → Prop
  | .nil, K => K .nil
  | .cons v r, K => renK g v fun v => rensK g r fun r => K (.cons v r)
def renSK (g : Nat → Nat) : Segs → (Segs → Prop) → Prop
  | .nil, K => K .nil
  | .one v r, K => renK g v fun v => renSK g r fun r => K (.one v r)
  | .rows n w f r, K => renSK g r fun r => K (.rows n w (fun i => renS g (f i)) r)
  | .res A, K => K (.res A)
end
mutual
theorem renK_eq (g : Nat → Nat) : ∀ (v : LVal) (K : LVal → Prop), renK g v K = K (ren g v)
  | .undef, _ => rfl
  | .any, _ => rfl
  | .bool _, _ => rfl
  | .int _ _, _ => rfl
  | .str _, _ => rfl
  | .nilp, _ => rfl
  | .ptr a, K => by simp only [renK, natK_eq, ren]
  | .slice a st w len lo hi, K => by simp only [renK, natK_eq, ren]
  | .nilf, _ => rfl
  | .func f c, K => by simp only [renK, ren, rensK_eq g c]
  | .nilI, _ => rfl
  | .iface t v, K => by simp only [renK, ren, renK_eq g v]
  | .agg s, K => by simp only [renK, ren, renSK_eq g s]
  | .tup vs, K => by simp only [renK, ren, rensK_eq g vs]
  | .rsl _ _ _, _ => rfl
  | .rptr _, _ => rfl
  | .tok _, _ => rfl
  | .gl _, _ => rfl
  | .yld l tm ts, K => by simp only [renK, ren, rensK_eq g ts]
theorem rensK_eq (g : Nat → Nat) : ∀ (v : LVals) (K : LVals → Prop), rensK g v K = K (rens g v)
  | .nil, _ => rfl
  | .cons v r, K => by simp only [rensK, rens, renK_eq g v, rensK_eq g r]
theorem renSK_eq (g : Nat → Nat) : ∀ (s : Segs) (K : Segs → Prop), renSK g s K = K (renS g s)
  | .nil, _ => rfl
  | .one v r, K => by simp only [renSK, renS, renK_eq g v, renSK_eq g r]
  | .rows n w f r, K => by simp only [renSK, renS, renSK_eq g r]
  | .res _, _ => rfl
end
def graftK (g : Nat → Nat) : LHeap → Nat → LHeap → (LHeap → Prop) → Prop
  | H, _, [], K => K H
  | H, i, o :: r, K => natK (g i) fun n => match o with
    | none => hsetK H n none fun H' => graftK g H' (i + 1) r K
    | some o => renSK g o.segs fun s => hsetK H n (some ⟨s, o.ty, o.more, o.ro⟩) fun H' => graftK g H' (i + 1) r K
theorem graftK_eq (g : Nat → Nat) : ∀ (h : LHeap) (H : LHeap) (i : Nat) (K : LHeap → Prop), graftK g H i h K = K (graft g H i h)
  | [], H, i, K => rfl
  | o :: r, H, i, K => by
    cases o with
    | none => simp only [graftK, natK_eq, hsetK_eq, graft, graftK_eq g r, Option.map_none]
    | some o => simp only [graftK, natK_eq, renSK_eq, hsetK_eq, graft, graftK_eq g r, Option.map_some]; rfl
/-- A contract used: the places of its blocks, its arguments; what follows. -/
theorem LCalls.use {P : Program} {f : FuncId} {args : LVals} {h : LHeap} {R : LEnd → LHeap → Prop} (c : LCalls P f args h R) (emb : List Nat) {H : LHeap} {vs : LVals} {K X : LVal → LHeap → Prop} (hap : apart H.length emb = true) (hv : vs = rens (embF emb H.length) args) (he : Emb (embF emb H.length) H emb h)
    (hk : ∀ r h', R r h' → graftK (embF emb H.length) H 0 h' fun H' => match r with
      | .ret v => renK (embF emb H.length) v fun v => K v H'
      | .panic v => renK (embF emb H.length) v fun v => X v H') : callK P f vs H K X := by
  subst hv
  refine (c.frame emb hap he).mono ?_
  rintro e H' ⟨r, h', h1, rfl, rfl⟩
  have := hk r h' h1
  rw [graftK_eq] at this
  cases r with
  | ret v => simp only [renK_eq] at this; exact this
  | panic v => simp only [renK_eq] at this; exact this
/-- A call, ahead of which less is told; new numbers for new blocks alone; some stand still from now on. -/
theorem LCalls.preF {P : Program} {f : FuncId} {vs : LVals} {h : LHeap} {R : LEnd → LHeap → Prop} (F : Fzl) (hF : frzOK h [] F) (gl : List Nat) (vs' : LVals) (h' : LHeap) (hap : apart 1000000 gl = true) (hid : idl h.length 0 gl = true) (hv : shVs 1000000 (frzAll [] F) vs (rens (embF gl 1000000) vs')) (hh : shH (frzAll [] F) (embF gl 1000000) (killF h F) gl h') (c : LCalls P f vs' h' R) : LCalls P f vs h R := by
  refine ⟨c.has, fun T w0 ρ w l hs hf hv0 => ?_⟩
  have hgl := (shH_spec _ _ hh).1
  have hlen := idl_len hid
  obtain ⟨ρ3, g1, g5, g6, g7⟩ := hs.tell hf hF hap hh
  refine (c.run T w0 (newP ρ3 gl) w l g1 (fun i hi => by rw [newP_at, if_neg (by omega)]) (PVs.unren newP_cut _ _ (shVs_spec g7 _ _ _ hv (PVs.ext g5 _ _ hv0)))).mono ?_
  rintro e w' ⟨r, h'', ρ', h1, h2, h3, h4, h5, h6, h7⟩
  have keep : ∀ i, i < h.length → ρ' i = ρ i := fun i hi => (h4 i (by omega)).trans ((newP_id hid i hi).trans (congrFun g6 i))
  refine ⟨r, h'', ρ', h1, h2, ⟨fun b x hb => ?_, g5.r.trans h3.r⟩, keep, h5, h6, by omega⟩
  rcases Nat.lt_or_ge b h.length with c | c
  · rw [keep b c]; exact hb
  · rw [hf b c] at hb; cases hb
theorem LCalls.pre {P : Program} {f : FuncId} {vs : LVals} {h : LHeap} {R : LEnd → LHeap → Prop} (gl : List Nat) (vs' : LVals) (h' : LHeap) (hap : apart 1000000 gl = true) (hid : idl h.length 0 gl = true) (hv : shVs 1000000 [] vs (rens (embF gl 1000000) vs')) (hh : shH [] (embF gl 1000000) h gl h') (c : LCalls P f vs' h' R) : LCalls P f vs h R :=
  LCalls.preF [] trivial gl vs' h' hap hid hv hh c
end Go.Proofs.Ytilmfhpoiejmfaa.Lh
