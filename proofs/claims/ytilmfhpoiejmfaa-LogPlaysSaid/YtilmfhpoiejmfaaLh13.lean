/- Blocks packed: one assertion for a thing of many blocks, known by a token. Over any program. -/
import Derived.Test.YtilmfhpoiejmfaaLh12
namespace Go.Proofs.Ytilmfhpoiejmfaa.Lh
set_option linter.unusedSimpArgs false
set_option linter.unusedVariables false
set_option linter.unusedSectionVars false
open Go.RowKit
variable [Fz]
/-- Blocks that lie in a part of the world. -/
structure Lay (ρ : Pl) (h : LHeap) (w : World) (F : Nat → Prop) : Prop where
  obj : ∀ i o, hget h i = some o → (∃ g b n ob, ρ i = some (g, b, n) ∧ w.heap[g]? = some ob ∧ PO ρ b n o ob ∧ F g ∧ o.ro = false) ∨ (ρ i = none ∧ Emp ρ o)
  inj : ∀ i j oi oj g b n b' m, hget h i = some oi → hget h j = some oj → ρ i = some (g, b, n) → ρ j = some (g, b', m) → i = j
  lt : ∀ i g b n, ρ i = some (g, b, n) → g < w.heap.size
  fresh : ∀ i, h.length ≤ i → ρ i = none
  res : ∃ Fs : Nat → Nat → Prop, (∀ i o A, hget h i = some o → o.segs = .res A → A.holds ρ w (Fs i)) ∧ (∀ i o A k, hget h i = some o → o.segs = .res A → Fs i k → F k) ∧
    (∀ i j oi oj A B k, hget h i = some oi → oi.segs = .res A → hget h j = some oj → oj.segs = .res B → Fs i k → Fs j k → i = j) ∧ (∀ i j oi oj A g b n, hget h i = some oi → oi.segs = .res A → hget h j = some oj → ρ j = some (g, b, n) → ¬ Fs i g)
theorem Lay.ext {ρ ρ' : Pl} {h : LHeap} {w : World} {F : Nat → Prop} (l : Lay ρ h w F) (e : ExtR ρ ρ') (ha : ρ'.at_ = ρ.at_) : Lay ρ' h w F := by
  have e' : Ext ρ ρ' := ⟨fun b x hb => by rw [ha]; exact hb, e⟩
  have at1 : ∀ i, ρ' i = ρ i := fun i => congrFun ha i
  refine ⟨fun i o hi => ?_, fun i j oi oj g b n b' m hi hj h1 h2 => l.inj i j oi oj g b n b' m hi hj (by rw [← at1]; exact h1) (by rw [← at1]; exact h2), fun i g b n h1 => l.lt i g b n (by rw [← at1]; exact h1), fun i hi => (at1 i).trans (l.fresh i hi), ?_⟩
  · rcases l.obj i o hi with ⟨g, b, n, ob, h1, h2, h3, h4⟩ | ⟨h1, h2⟩
    · exact .inl ⟨g, b, n, ob, (at1 i).trans h1, h2, h3.ext e', h4⟩
    · exact .inr ⟨(at1 i).trans h1, h2.ext e'⟩
  · obtain ⟨Fs, h1, h2, h3, h4⟩ := l.res
    exact ⟨Fs, fun i o A hi hA => A.ext e (h1 i o A hi hA), h2, h3, fun i j oi oj A g b n hi hA hj hp => h4 i j oi oj A g b n hi hA hj (by rw [← at1]; exact hp)⟩
theorem Lay.loc {ρ : Pl} {h : LHeap} {w w' : World} {F : Nat → Prop} (l : Lay ρ h w F) (hz : w.heap.size ≤ w'.heap.size) (hw : ∀ k, F k → w'.heap[k]? = w.heap[k]?) : Lay ρ h w' F := by
  refine ⟨fun i o hi => ?_, l.inj, fun i g b n h1 => Nat.lt_of_lt_of_le (l.lt i g b n h1) hz, l.fresh, ?_⟩
  · rcases l.obj i o hi with ⟨g, b, n, ob, h1, h2, h3, h4⟩ | h1
    · exact .inl ⟨g, b, n, ob, h1, by rw [hw g h4.1]; exact h2, h3, h4⟩
    · exact .inr h1
  · obtain ⟨Fs, h1, h2, h3, h4⟩ := l.res
    exact ⟨Fs, fun i o A hi hA => A.loc hz (fun k hk => hw k (h2 i o A k hi hA hk)) (h1 i o A hi hA), h2, h3, h4⟩
/-- A thing of many blocks; the first one is the token's. -/
def packA (τ : Nat) (h : LHeap) : Asn where
  holds ρ w F := ∃ at_ : Nat → Option (Nat × Nat × Nat), Lay ⟨at_, ρ.fz, ρ.tk⟩ h w F ∧ ∃ g b n, ρ.tk τ = some (g, b) ∧ at_ 0 = some (g, b, n)
  ext e := fun ⟨at_, l, g, b, n, h1, h2⟩ => ⟨at_, l.ext e rfl, g, b, n, e.2 _ _ h1, h2⟩
  loc hz hw := fun ⟨at_, l, q⟩ => ⟨at_, l.loc hz hw, q⟩
/-- The same as a block of the mind. -/
def resO (A : Asn) : Option LObj := some ⟨.res A, 0, false, true⟩
def packO (τ : Nat) (h : LHeap) : Option LObj := resO (packA τ h)
theorem hget_lt {h : LHeap} {i : Nat} {o : LObj} (hi : hget h i = some o) : i < h.length := by
  rcases Nat.lt_or_ge i h.length with c | c
  · exact c
  · rw [hget_out h i c] at hi; cases hi
theorem hget_app1 : ∀ (a b : LHeap) (i : Nat), i < a.length → hget (a ++ b) i = hget a i
  | [], b, i, h => by simp at h
  | x :: r, b, 0, h => rfl
  | x :: r, b, i + 1, h => hget_app1 r b i (by simpa using h)
theorem hget_app2 : ∀ (a b : LHeap) (i : Nat), hget (a ++ b) (a.length + i) = hget b i
  | [], b, i => by simp
  | x :: r, b, i => by rw [List.length_cons, show r.length + 1 + i = (r.length + i) + 1 by omega]; exact hget_app2 r b i
/-- Blocks that do not name any block of the mind. -/
def Plain (h : LHeap) : Prop := ∀ g, h.map (Option.map (LObj.ren g)) = h
theorem hget_map (f : LObj → LObj) : ∀ (h : LHeap) (i : Nat), hget (h.map (Option.map f)) i = (hget h i).map f
  | [], i => rfl
  | x :: r, 0 => rfl
  | x :: r, i + 1 => hget_map f r i
theorem Plain.get {h : LHeap} (hp : Plain h) (g : Nat → Nat) {i : Nat} {o : LObj} (hi : hget h i = some o) : o.ren g = o := by
  have := hget_map (LObj.ren g) h i
  rw [hp g, hi] at this
  exact (Option.some.inj this).symm
section
variable {T : Nat → Nat → Prop} {w0 w : World} {ρ : Pl}
/-- A pack's blocks, told. -/
theorem Sim.unpack {τ : Nat} {h ext : LHeap} (s : Sim T w0 ρ (packO τ h :: ext) w) (hρ0 : ρ 0 = none) (hf : ∀ i, (packO τ h :: ext).length ≤ i → ρ i = none) (hx : Plain ext) :
    ∃ ρs : Pl, Sim T w0 ρs (h ++ ext) w ∧ ρs.fz = ρ.fz ∧ ρs.tk = ρ.tk ∧ (∀ i, (h ++ ext).length ≤ i → ρs i = none) ∧ (∃ g b n, ρ.tk τ = some (g, b) ∧ ρs 0 = some (g, b, n)) ∧ (∀ i, i < ext.length → ρs (h.length + i) = ρ (i + 1)) := by
  obtain ⟨Fs, r⟩ := s.res
  have h0 : hget (packO τ h :: ext) 0 = some ⟨.res (packA τ h), 0, false, true⟩ := rfl
  obtain ⟨at_, l, gr, br, nr, hτ, hat0⟩ := r.holds 0 _ _ h0 rfl
  have mine := fun k => r.mine 0 _ _ k h0 rfl
  let ρs : Pl := ⟨fun i => if i < h.length then at_ i else ρ (i - h.length + 1), ρ.fz, ρ.tk⟩
  have lo : ∀ i, i < h.length → ρs i = at_ i := fun i hi => if_pos hi
  have hi_ : ∀ i, ρs (h.length + i) = ρ (i + 1) := fun i => by
    show (if h.length + i < h.length then at_ (h.length + i) else ρ (h.length + i - h.length + 1)) = _
    rw [if_neg (by omega), show h.length + i - h.length = i by omega]
  have ep : Ext ⟨at_, ρ.fz, ρ.tk⟩ ρs := by
    refine ⟨fun b x hb => ?_, .refl _⟩
    rcases Nat.lt_or_ge b h.length with c | c
    · rw [lo b c]; exact hb
    · have hb : at_ b = some x := hb
      have := l.fresh b c
      have this : at_ b = none := this
      rw [this] at hb; cases hb
  have ex : RenE (fun b => h.length + b - 1) ρ ρs := by
    refine ⟨fun b x hb => ?_, .refl _⟩
    cases b with
    | zero => rw [hρ0] at hb; cases hb
    | succ b => rw [show h.length + (b + 1) - 1 = h.length + b by omega, hi_]; exact hb
  have split : ∀ i o, hget (h ++ ext) i = some o → (i < h.length ∧ hget h i = some o) ∨ (∃ j, i = h.length + j ∧ hget ext j = some o) := by
    intro i o hi
    rcases Nat.lt_or_ge i h.length with c | c
    · rw [hget_app1 _ _ _ c] at hi; exact .inl ⟨c, hi⟩
    · refine .inr ⟨i - h.length, by omega, ?_⟩
      rw [show i = h.length + (i - h.length) by omega, hget_app2] at hi
      exact hi
  obtain ⟨Fn, n1, n2, n3, n4⟩ := l.res
  have old : ∀ j o, hget ext j = some o → hget (packO τ h :: ext) (j + 1) = some o := fun j o hj => hj
  refine ⟨ρs, ⟨?_, ?_, ?_, s.os, s.tape, s.output, s.size, s.kept, s.new, s.apart, s.fz, s.fzT, ?_, s.glob, s.tks, fun i => if i < h.length then Fn i else Fs (i - h.length + 1), ?_, ?_, ?_, ?_⟩, rfl, rfl, ?_, ⟨gr, br, nr, hτ, ?_⟩, fun i _ => hi_ i⟩
  · intro i o hi
    rcases split i o hi with ⟨c, hi⟩ | ⟨j, rfl, hj⟩
    · rcases l.obj i o hi with ⟨g, b, n, ob, h1, h2, h3, h4, h5⟩ | ⟨h1, h2⟩
      · exact .inl ⟨g, b, n, ob, (lo i c).trans h1, h2, h3.ext ep, by rw [h5]; exact (mine g h4).1⟩
      · exact .inr ⟨(lo i c).trans h1, h2.ext ep⟩
    · rcases s.obj (j + 1) o (old j o hj) with ⟨g, b, n, ob, h1, h2, h3, h4⟩ | ⟨h1, h2⟩
      · refine .inl ⟨g, b, n, ob, (hi_ j).trans h1, h2, ?_, h4⟩
        have := h3.ren ex
        rw [hx.get _ hj] at this
        exact this
      · refine .inr ⟨(hi_ j).trans h1, ?_⟩
        have := h2.ren ex
        rw [hx.get _ hj] at this
        exact this
  · intro i j oi oj g b n b' m hi hj h1 h2 hT
    rcases split i oi hi with ⟨c, hi2⟩ | ⟨i, rfl, hi2⟩ <;> rcases split j oj hj with ⟨d, hj2⟩ | ⟨j, rfl, hj2⟩
    · exact l.inj i j oi oj g b n b' m hi2 hj2 ((lo i c).symm.trans h1) ((lo j d).symm.trans h2)
    · exfalso
      rcases l.obj i oi hi2 with ⟨g', b2, n2, ob, z1, z2, z3, z4, z5⟩ | ⟨z1, _⟩
      · have z1 : at_ i = _ := z1
        rw [lo i c, z1] at h1; cases h1
        exact r.off 0 (j + 1) _ oj _ g b' m h0 rfl (old j oj hj2) ((hi_ j).symm.trans h2) z4
      · have z1 : at_ i = _ := z1
        rw [lo i c, z1] at h1; cases h1
    · exfalso
      rcases l.obj j oj hj2 with ⟨g', b2, n2, ob, z1, z2, z3, z4, z5⟩ | ⟨z1, _⟩
      · have z1 : at_ j = _ := z1
        rw [lo j d, z1] at h2; cases h2
        exact r.off 0 (i + 1) _ oi _ g b n h0 rfl (old i oi hi2) ((hi_ i).symm.trans h1) z4
      · have z1 : at_ j = _ := z1
        rw [lo j d, z1] at h2; cases h2
    · have := s.inj (i + 1) (j + 1) oi oj g b n b' m (old i oi hi2) (old j oj hj2) ((hi_ i).symm.trans h1) ((hi_ j).symm.trans h2) hT
      omega
  · intro i g b n h1
    rcases Nat.lt_or_ge i h.length with c | c
    · rw [lo i c] at h1; exact l.lt i g b n h1
    · rw [show i = h.length + (i - h.length) by omega, hi_] at h1; exact s.lt _ g b n h1
  · intro i o g b n hi hr h1
    rcases split i o hi with ⟨c, hi⟩ | ⟨j, rfl, hj⟩
    · rcases l.obj i o hi with ⟨g', b2, n2, ob, z1, z2, z3, z4, z5⟩ | ⟨z1, _⟩
      · have z1 : at_ i = _ := z1
        rw [lo i c, z1] at h1; cases h1
        exact (mine g z4).2.1
      · have z1 : at_ i = _ := z1
        rw [lo i c, z1] at h1; cases h1
    · exact s.nofz (j + 1) o g b n (old j o hj) hr ((hi_ j).symm.trans h1)
  · intro i o A hi hA
    rcases split i o hi with ⟨c, hi⟩ | ⟨j, rfl, hj⟩
    · rw [if_pos c]; exact A.ext (ρ := ⟨at_, ρ.fz, ρ.tk⟩) (.refl _) (n1 i o A hi hA)
    · rw [if_neg (by omega), show h.length + j - h.length + 1 = j + 1 by omega]
      exact A.ext (ρ := ρ) (.refl _) (r.holds (j + 1) o A (old j o hj) hA)
  · intro i o A k hi hA hk
    rcases split i o hi with ⟨c, hi⟩ | ⟨j, rfl, hj⟩
    · rw [if_pos c] at hk; exact mine k (n2 i o A k hi hA hk)
    · rw [if_neg (by omega), show h.length + j - h.length + 1 = j + 1 by omega] at hk
      exact r.mine (j + 1) o A k (old j o hj) hA hk
  · intro i j oi oj A B k hi hA hj hB h1 h2
    rcases split i oi hi with ⟨c, hi2⟩ | ⟨i, rfl, hi2⟩ <;> rcases split j oj hj with ⟨d, hj2⟩ | ⟨j, rfl, hj2⟩
    · rw [if_pos c] at h1; rw [if_pos d] at h2; exact n3 i j oi oj A B k hi2 hA hj2 hB h1 h2
    · rw [if_pos c] at h1; rw [if_neg (by omega), show h.length + j - h.length + 1 = j + 1 by omega] at h2
      have := r.apart 0 (j + 1) _ oj _ B k h0 rfl (old j oj hj2) hB (n2 i oi A k hi2 hA h1) h2
      omega
    · rw [if_pos d] at h2; rw [if_neg (by omega), show h.length + i - h.length + 1 = i + 1 by omega] at h1
      have := r.apart 0 (i + 1) _ oi _ A k h0 rfl (old i oi hi2) hA (n2 j oj B k hj2 hB h2) h1
      omega
    · rw [if_neg (by omega), show h.length + i - h.length + 1 = i + 1 by omega] at h1
      rw [if_neg (by omega), show h.length + j - h.length + 1 = j + 1 by omega] at h2
      have := r.apart (i + 1) (j + 1) oi oj A B k (old i oi hi2) hA (old j oj hj2) hB h1 h2
      omega
  · intro i j oi oj A g b n hi hA hj hp hk
    rcases split i oi hi with ⟨c, hi2⟩ | ⟨i, rfl, hi2⟩ <;> rcases split j oj hj with ⟨d, hj2⟩ | ⟨j, rfl, hj2⟩
    · rw [if_pos c] at hk; exact n4 i j oi oj A g b n hi2 hA hj2 ((lo j d).symm.trans hp) hk
    · rw [if_pos c] at hk
      exact r.off 0 (j + 1) _ oj _ g b n h0 rfl (old j oj hj2) ((hi_ j).symm.trans hp) (n2 i oi A g hi2 hA hk)
    · rw [if_neg (by omega), show h.length + i - h.length + 1 = i + 1 by omega] at hk
      rcases l.obj j oj hj2 with ⟨g', b2, n2', ob, z1, z2, z3, z4, z5⟩ | ⟨z1, _⟩
      · have z1 : at_ j = _ := z1
        rw [lo j d, z1] at hp; cases hp
        have := r.apart 0 (i + 1) _ oi _ A g h0 rfl (old i oi hi2) hA z4 hk
        omega
      · have z1 : at_ j = _ := z1
        rw [lo j d, z1] at hp; cases hp
    · rw [if_neg (by omega), show h.length + i - h.length + 1 = i + 1 by omega] at hk
      exact r.off (i + 1) (j + 1) oi oj A g b n (old i oi hi2) hA (old j oj hj2) ((hi_ j).symm.trans hp) hk
  · intro i hi
    have hi : h.length + ext.length ≤ i := by simpa using hi
    rw [show i = h.length + (i - h.length) by omega, hi_]
    exact hf _ (by simp; omega)
  · have hl : 0 < h.length := by
      rcases Nat.eq_zero_or_pos h.length with c | c
      · have := l.fresh 0 (by omega)
        have this : at_ 0 = none := this
        rw [this] at hat0; cases hat0
      · exact c
    exact (lo 0 hl).trans hat0
end
def kills : LHeap → List Nat → LHeap
  | h, [] => h
  | h, i :: r => kills (hset h i none) r
theorem kills_get : ∀ (l : List Nat) (h : LHeap) (i : Nat), hget (kills h l) i = if i ∈ l then none else hget h i
  | [], h, i => by simp [kills]
  | x :: r, h, i => by
    rw [kills, kills_get r, hget_hset]
    by_cases c : i ∈ r
    · simp [c]
    · by_cases d : i = x
      · simp [c, d]
      · simp [c, d]
theorem Sim.kills {T : Nat → Nat → Prop} {w0 w : World} {ρ : Pl} : ∀ (l : List Nat) {h : LHeap}, Sim T w0 ρ h w → Sim T w0 ρ (Lh.kills h l) w
  | [], h, s => s
  | x :: r, h, s => Sim.kills r (s.kill x)
section
variable {T : Nat → Nat → Prop} {w0 w : World} {ρ : Pl}
/-- Blocks that are packed. -/
theorem Sim.pack {τ : Nat} {h1 sub : LHeap} {ids : List Nat} (s : Sim T w0 ρ h1 w) (hf : ∀ i, h1.length ≤ i → ρ i = none) (hap : Lh.apart h1.length ids = true) (he : Emb (embF ids h1.length) h1 ids sub) (hro : ∀ i o, hget sub i = some o → o.ro = true → ∃ A, o.segs = .res A)
    {g0 b0 n0 : Nat} (hτ : ρ.tk τ = some (g0, b0)) (hr : ∃ i0, ids[0]? = some i0 ∧ ρ i0 = some (g0, b0, n0)) : Sim T w0 ρ (hset (Lh.kills h1 ids) h1.length (packO τ sub)) w := by
  obtain ⟨hlen, hemb⟩ := Emb.spec ids sub he
  have hinj := embF_inj hap
  obtain ⟨hap1, hap2⟩ := apart_spec ids hap
  generalize hg : embF ids h1.length = g at *
  have glt : ∀ i, i < sub.length → ∃ e, ids[i]? = some e ∧ g i = e ∧ e < h1.length := by
    intro i hi
    obtain ⟨e, q1, q2⟩ := embF_lt ids h1.length i (by omega)
    exact ⟨e, q1, by rw [← hg]; exact q2, hap1 i e q1⟩
  have gge : ∀ i, sub.length ≤ i → g i = h1.length + (i - sub.length) := by
    intro i hi
    rw [← hg, embF_ge ids h1.length i (by omega), hlen]
  obtain ⟨Fs, r⟩ := s.res
  have at1 : ∀ i o, hget sub i = some o → hget h1 (g i) = some (o.ren g) ∧ g i ∈ ids ∧ i < sub.length := by
    intro i o hi
    obtain ⟨e, q1, q2⟩ := hemb i o hi
    obtain ⟨e', q3, q4, q5⟩ := glt i (hget_lt hi)
    rw [q1] at q3
    cases q3
    rw [q4]
    exact ⟨q2, List.mem_of_getElem? q1, hget_lt hi⟩
  let at_ : Nat → Option (Nat × Nat × Nat) := fun i => if i < sub.length then ρ (g i) else none
  have e1 : UnrE g ⟨at_, ρ.fz, ρ.tk⟩ ρ := by
    refine ⟨fun b x hb => ?_, .refl _⟩
    show (if b < sub.length then ρ (g b) else none) = some x
    by_cases cb : b < sub.length
    · rw [if_pos cb]; exact hb
    · rw [hf (g b) (by rw [gge b (by omega)]; omega)] at hb
      cases hb
  have e1' : ∀ b x, at_ b = some x → b < sub.length ∧ ρ (g b) = some x := by
    intro b x hb
    have hb : (if b < sub.length then ρ (g b) else none) = some x := hb
    by_cases cb : b < sub.length
    · rw [if_pos cb] at hb; exact ⟨cb, hb⟩
    · rw [if_neg cb] at hb; cases hb
  have resg : ∀ o : LObj, ∀ A, o.segs = .res A → (o.ren g).segs = .res A := fun o A hA => by show renS g o.segs = _; rw [hA]; rfl
  let F : Nat → Prop := fun k => (∃ i o b n, hget sub i = some o ∧ o.ro = false ∧ ρ (g i) = some (k, b, n)) ∨ (∃ i o A, hget sub i = some o ∧ o.segs = .res A ∧ Fs (g i) k)
  have hF : ∀ k, F k → T 0 k ∧ ρ.fz k = none ∧ k < w.heap.size := by
    rintro k (⟨i, o, b, n, q1, q0, q2⟩ | ⟨i, o, A, q1, q2, q3⟩)
    · obtain ⟨a1, a2, a3⟩ := at1 i o q1
      rcases s.obj _ _ a1 with ⟨k', b', n', ob, p1, p2, p3, p4⟩ | ⟨p1, _⟩
      · rw [q2] at p1; cases p1
        refine ⟨?_, s.nofz _ _ k b n a1 q0 q2, s.lt _ _ _ _ q2⟩
        have : tag (o.ren g).ro = 0 := by show tag o.ro = 0; rw [q0]; rfl
        rw [this] at p4; exact p4
      · rw [q2] at p1; cases p1
    · exact r.mine (g i) _ A k (at1 i o q1).1 (resg o A q2) q3
  have lay : Lay ⟨at_, ρ.fz, ρ.tk⟩ sub w F := by
    refine ⟨fun i o hi => ?_, fun i j oi oj k b n b' m hi hj q1 q2 => ?_, fun i k b n q => s.lt _ _ _ _ (e1' _ _ q).2, fun i hi => if_neg (by omega), fun i => Fs (g i), ?_, ?_, ?_, ?_⟩
    · obtain ⟨a1, a2, a3⟩ := at1 i o hi
      rcases s.obj _ _ a1 with ⟨k, b, n, ob, p1, p2, p3, p4⟩ | ⟨p1, p2⟩
      · cases hr' : o.ro with
        | false => exact .inl ⟨k, b, n, ob, e1.at_ _ _ p1, p2, p3.unren e1, .inl ⟨i, o, b, n, hi, hr', p1⟩, rfl⟩
        | true =>
          obtain ⟨A, hA⟩ := hro i o hi hr'
          obtain ⟨pre, l, ex, fr, z1, z2, _⟩ := p3
          rw [resg o A hA] at z2
          exact False.elim z2
      · refine .inr ⟨?_, Emp.unren e1 p2⟩
        show (if i < sub.length then ρ (g i) else none) = none
        rw [if_pos a3, p1]
    · obtain ⟨a1, a2⟩ := e1' _ _ q1
      obtain ⟨a3, a4⟩ := e1' _ _ q2
      have hTk : T 0 k := by
        rcases s.obj _ _ (at1 i oi hi).1 with ⟨k', b2, n2, ob, p1, p2, p3, p4⟩ | ⟨p1, _⟩
        · rw [a2] at p1; cases p1
          cases hr' : oi.ro with
          | false =>
            have : tag (oi.ren g).ro = 0 := by show tag oi.ro = 0; rw [hr']; rfl
            rw [this] at p4; exact p4
          | true =>
            obtain ⟨A, hA⟩ := hro i oi hi hr'
            obtain ⟨pre, l, ex, fr, z1, z2, _⟩ := p3
            rw [resg oi A hA] at z2
            exact False.elim z2
        · rw [a2] at p1; cases p1
      exact hinj i j (s.inj _ _ _ _ k b n b' m (at1 i oi hi).1 (at1 j oj hj).1 a2 a4 hTk)
    · intro i o A hi hA
      exact A.ext (ρ := ρ) (.refl _) (r.holds (g i) _ A (at1 i o hi).1 (resg o A hA))
    · intro i o A k hi hA hk
      exact .inr ⟨i, o, A, hi, hA, hk⟩
    · intro i j oi oj A B k hi hA hj hB q1 q2
      exact hinj i j (r.apart (g i) (g j) _ _ A B k (at1 i oi hi).1 (resg oi A hA) (at1 j oj hj).1 (resg oj B hB) q1 q2)
    · intro i j oi oj A k b n hi hA hj q1
      exact r.off (g i) (g j) _ _ A k b n (at1 i oi hi).1 (resg oi A hA) (at1 j oj hj).1 (e1' _ _ q1).2
  obtain ⟨i0, hi0, hp0⟩ := hr
  have h0l : 0 < sub.length := by
    have := (List.getElem?_eq_some_iff.1 hi0).1
    omega
  have hat0 : at_ 0 = some (g0, b0, n0) := by
    obtain ⟨e, q1, q2, _⟩ := glt 0 h0l
    rw [hi0] at q1; cases q1
    show (if 0 < sub.length then ρ (g 0) else none) = _
    rw [if_pos h0l, q2]; exact hp0
  have sk := s.kills ids
  have hnl : hget (Lh.kills h1 ids) h1.length = none := by
    rw [kills_get, hget_out h1 _ (Nat.le_refl _)]
    exact ite_self _
  have back : ∀ i o, hget (hset (Lh.kills h1 ids) h1.length (packO τ sub)) i = some o → (i = h1.length ∧ o = ⟨.res (packA τ sub), 0, false, true⟩) ∨ (i ≠ h1.length ∧ i ∉ ids ∧ hget h1 i = some o ∧ hget (Lh.kills h1 ids) i = some o) := by
    intro i o hi
    rw [hget_hset] at hi
    by_cases c : i = h1.length
    · rw [if_pos c] at hi
      exact .inl ⟨c, (Option.some.inj hi).symm⟩
    · rw [if_neg c] at hi
      have hi' := hi
      rw [kills_get] at hi
      by_cases d : i ∈ ids
      · rw [if_pos d] at hi; cases hi
      · rw [if_neg d] at hi; exact .inr ⟨c, d, hi, hi'⟩
  have hnp : ρ h1.length = none := hf _ (Nat.le_refl _)
  have far : ∀ j o k b n, hget h1 j = some o → j ∉ ids → ρ j = some (k, b, n) → ¬ F k := by
    rintro j o k b n hj hjn hp (⟨i, oi, b', n', q1, q0, q2⟩ | ⟨i, oi, A, q1, q2, q3⟩)
    · obtain ⟨a1, a2, a3⟩ := at1 i oi q1
      have := (hF k (.inl ⟨i, oi, b', n', q1, q0, q2⟩)).1
      have := s.inj _ _ _ _ k b n b' n' hj a1 hp q2 this
      subst this
      exact hjn a2
    · obtain ⟨a1, a2, a3⟩ := at1 i oi q1
      exact r.off (g i) j _ o A k b n a1 (resg oi A q2) hj hp q3
  have farR : ∀ j o B k, hget h1 j = some o → o.segs = .res B → j ∉ ids → Fs j k → ¬ F k := by
    rintro j o B k hj hB hjn hk (⟨i, oi, b', n', q1, q0, q2⟩ | ⟨i, oi, A, q1, q2, q3⟩)
    · exact r.off j (g i) o _ B k b' n' hj hB (at1 i oi q1).1 q2 hk
    · obtain ⟨a1, a2, a3⟩ := at1 i oi q1
      have := r.apart (g i) j _ o A B k a1 (resg oi A q2) hj hB q3 hk
      subst this
      exact hjn a2
  refine ⟨?_, ?_, s.lt, s.os, s.tape, s.output, s.size, s.kept, s.new, s.apart, s.fz, s.fzT, ?_, s.glob, s.tks, fun i k => (i = h1.length ∧ F k) ∨ (i ≠ h1.length ∧ Fs i k), ?_, ?_, ?_, ?_⟩
  · intro i o hi
    rcases back i o hi with ⟨rfl, rfl⟩ | ⟨c, d, q, _⟩
    · exact .inr ⟨hnp, .inr ⟨rfl, _, rfl⟩⟩
    · exact s.obj i o q
  · intro i j oi oj k b n b' m hi hj q1 q2 hT
    rcases back i oi hi with ⟨rfl, rfl⟩ | ⟨c, d, q, _⟩
    · rw [hnp] at q1; cases q1
    · rcases back j oj hj with ⟨rfl, rfl⟩ | ⟨c', d', q', _⟩
      · rw [hnp] at q2; cases q2
      · exact s.inj i j oi oj k b n b' m q q' q1 q2 hT
  · intro i o k b n hi hr' q1
    rcases back i o hi with ⟨rfl, rfl⟩ | ⟨c, d, q, _⟩
    · cases hr'
    · exact s.nofz i o k b n q hr' q1
  · intro i o A hi hA
    rcases back i o hi with ⟨rfl, rfl⟩ | ⟨c, d, q, _⟩
    · cases hA
      have : (fun k => (h1.length = h1.length ∧ F k) ∨ (h1.length ≠ h1.length ∧ Fs h1.length k)) = F := by
        funext k
        exact propext ⟨fun z => z.elim (·.2) (fun z => absurd rfl z.1), fun z => .inl ⟨rfl, z⟩⟩
      rw [this]
      exact ⟨at_, lay, g0, b0, n0, hτ, hat0⟩
    · have : (fun k => (i = h1.length ∧ F k) ∨ (i ≠ h1.length ∧ Fs i k)) = Fs i := by
        funext k
        exact propext ⟨fun z => z.elim (fun z => absurd z.1 c) (·.2), fun z => .inr ⟨c, z⟩⟩
      rw [this]
      exact r.holds i o A q hA
  · intro i o A k hi hA hk
    rcases back i o hi with ⟨rfl, rfl⟩ | ⟨c, d, q, _⟩
    · rcases hk with ⟨_, hk⟩ | ⟨hk, _⟩
      · exact hF k hk
      · exact absurd rfl hk
    · rcases hk with ⟨hk, _⟩ | ⟨_, hk⟩
      · exact absurd hk c
      · exact r.mine i o A k q hA hk
  · intro i j oi oj A B k hi hA hj hB hk1 hk2
    rcases back i oi hi with ⟨rfl, rfl⟩ | ⟨c, d, q, _⟩ <;> rcases back j oj hj with ⟨rfl, rfl⟩ | ⟨c', d', q', _⟩
    · rfl
    · rcases hk1 with ⟨_, hk1⟩ | ⟨hk1, _⟩
      · rcases hk2 with ⟨hk2, _⟩ | ⟨_, hk2⟩
        · exact absurd hk2 c'
        · exact absurd hk1 (farR j oj B k q' hB d' hk2)
      · exact absurd rfl hk1
    · rcases hk2 with ⟨_, hk2⟩ | ⟨hk2, _⟩
      · rcases hk1 with ⟨hk1, _⟩ | ⟨_, hk1⟩
        · exact absurd hk1 c
        · exact absurd hk2 (farR i oi A k q hA d hk1)
      · exact absurd rfl hk2
    · rcases hk1 with ⟨hk1, _⟩ | ⟨_, hk1⟩
      · exact absurd hk1 c
      · rcases hk2 with ⟨hk2, _⟩ | ⟨_, hk2⟩
        · exact absurd hk2 c'
        · exact r.apart i j oi oj A B k q hA q' hB hk1 hk2
  · intro i j oi oj A k b n hi hA hj hp hk
    rcases back j oj hj with ⟨rfl, rfl⟩ | ⟨c', d', q', _⟩
    · rw [hnp] at hp; cases hp
    · rcases back i oi hi with ⟨rfl, rfl⟩ | ⟨c, d, q, _⟩
      · rcases hk with ⟨_, hk⟩ | ⟨hk, _⟩
        · exact far j oj k b n q' d' hp hk
        · exact absurd rfl hk
      · rcases hk with ⟨hk, _⟩ | ⟨_, hk⟩
        · exact absurd hk c
        · exact r.off i j oi oj A k b n q hA q' hp hk
end
/-- A token for a place. -/
def Pl.newTk (ρ : Pl) (τ : Nat) (g : Nat × Nat) : Pl := ⟨ρ.at_, ρ.fz, fun k => if k = τ then some g else ρ.tk k⟩
theorem Sim.newTok {T : Nat → Nat → Prop} {w0 w : World} {ρ : Pl} {h : LHeap} (s : Sim T w0 ρ h w) (g : Nat × Nat) : ∃ τ, Sim T w0 (ρ.newTk τ g) h w ∧ Ext ρ (ρ.newTk τ g) ∧ (ρ.newTk τ g).tk τ = some g := by
  obtain ⟨m, hm⟩ := s.tks
  have e : Ext ρ (ρ.newTk m g) := by
    refine ⟨fun _ _ h => h, fun _ _ h => h, fun k x hk => ?_⟩
    show (if k = m then some g else ρ.tk k) = some x
    rw [if_neg (by intro c; subst c; rw [hm _ (Nat.le_refl _)] at hk; cases hk)]
    exact hk
  refine ⟨m, ⟨fun i o hi => ?_, s.inj, s.lt, s.os, s.tape, s.output, s.size, s.kept, s.new, s.apart, s.fz, s.fzT, s.nofz, fun g' s' h' => PV.ext (Ext.clo e.r) _ _ (s.glob g' s' h'), ⟨m + 1, fun k hk => ?_⟩, s.res.imp fun Fs r => ⟨fun i o A hi hA => A.ext e.r (r.holds i o A hi hA), r.mine, r.apart, r.off⟩⟩, e, if_pos rfl⟩
  · rcases s.obj i o hi with ⟨g', b, n, ob, h1, h2, h3, h4⟩ | ⟨h1, h2⟩
    · exact .inl ⟨g', b, n, ob, h1, h2, h3.ext e, h4⟩
    · exact .inr ⟨h1, h2.ext e⟩
  · show (if k = m then some g else ρ.tk k) = none
    rw [if_neg (by omega)]
    exact hm k (by omega)
/-- Arguments: the token's is the pack's first block; others keep their numbers, by the pack's length more. -/
def tkArgs (τ : Nat) (g : Nat → Nat) : LVals → LVals → Prop
  | .nil, .nil => True
  | .cons v r, .cons v' r' => ((v = .tok τ ∧ v' = .ptr ⟨0, [], 0⟩) ∨ v' = ren g v) ∧ tkArgs τ g r r'
  | _, _ => False
theorem tkArgs_spec {τ : Nat} {g : Nat → Nat} {ρ ρ' : Pl} (e : RenE g ρ ρ') {p : Nat × Nat} {n : Nat} (h1 : ρ.tk τ = some p) (h2 : ρ' 0 = some (p.1, p.2, n)) : ∀ (a a' : LVals) (l : List Value), tkArgs τ g a a' → PVs ρ a l → PVs ρ' a' l
  | .nil, a', l, ha, hl => by cases a' <;> first | exact hl | exact ha.elim
  | .cons v r, a', l, ha, hl => by
    cases a' with
    | nil => exact ha.elim
    | cons v' r' =>
      obtain ⟨x, l', rfl, q1, q2⟩ := hl
      refine ⟨x, l', rfl, ?_, tkArgs_spec e h1 h2 r r' l' ha.2 q2⟩
      rcases ha.1 with ⟨rfl, rfl⟩ | rfl
      · obtain ⟨y, q3, q4⟩ := q1
        rw [h1] at q3; cases q3
        exact ⟨p.1, p.2, n, h2, by rw [q4]; rfl⟩
      · exact PV.ren e _ _ q1
mutual
/-- A block's place told by its token. -/
def tkV (τ i0 : Nat) : LVal → LVal → Prop
  | .ptr a, .tok k => k = τ ∧ a.blk = i0 ∧ isNilL a.path = true ∧ a.off = 0
  | .tup vs, .tup vs' => tkVs τ i0 vs vs'
  | v, v' => v = v'
def tkVs (τ i0 : Nat) : LVals → LVals → Prop
  | .nil, .nil => True
  | .cons v r, .cons v' r' => tkV τ i0 v v' ∧ tkVs τ i0 r r'
  | _, _ => False
end
def tkE (τ i0 : Nat) : LEnd → LEnd → Prop
  | .ret v, .ret v' => tkV τ i0 v v'
  | .panic v, .panic v' => v = v'
  | _, _ => False
mutual
theorem tkV_spec {τ i0 : Nat} {ρ : Pl} {p : Nat × Nat} {n : Nat} (h1 : ρ.tk τ = some p) (h2 : ρ i0 = some (p.1, p.2, n)) : ∀ (v v' : LVal) (x : Value), tkV τ i0 v v' → PV ρ v x → PV ρ v' x
  | .tup vs, v', x, h, hv => by
    cases v' with
    | tup vs' =>
      obtain ⟨l, q1, q2⟩ := hv
      exact ⟨l, tkVs_spec h1 h2 vs vs' l h q1, q2⟩
    | _ => first | exact (nomatch (show LVal.tup vs = _ from h)) | exact h.elim
  | .ptr a, v', x, h, hv => by
    cases v' with
    | tok k =>
      obtain ⟨rfl, q2, q3, q4⟩ := h
      obtain ⟨g, b, m, r1, r2⟩ := hv
      rw [q2, h2] at r1
      cases r1
      have ecell : a.cell = 0 := by
        unfold LAddr.cell
        rw [q4]
        cases hp : a.path with
        | nil => rfl
        | cons z r => rw [hp] at q3; cases q3
      exact ⟨p, h1, by rw [r2, ecell]; rfl⟩
    | ptr b =>
      have h : LVal.ptr a = .ptr b := h
      rw [← h]; exact hv
    | _ => exact (nomatch (show LVal.ptr a = _ from h))
  | .undef, v', x, h, hv => by have h : _ = v' := (by cases v' <;> exact h); subst h; exact hv
  | .any, v', x, h, hv => by have h : _ = v' := (by cases v' <;> exact h); subst h; exact hv
  | .bool _, v', x, h, hv => by have h : _ = v' := (by cases v' <;> exact h); subst h; exact hv
  | .int _ _, v', x, h, hv => by have h : _ = v' := (by cases v' <;> exact h); subst h; exact hv
  | .str _, v', x, h, hv => by have h : _ = v' := (by cases v' <;> exact h); subst h; exact hv
  | .nilp, v', x, h, hv => by have h : _ = v' := (by cases v' <;> exact h); subst h; exact hv
  | .slice _ _ _ _ _ _, v', x, h, hv => by have h : _ = v' := (by cases v' <;> exact h); subst h; exact hv
  | .nilf, v', x, h, hv => by have h : _ = v' := (by cases v' <;> exact h); subst h; exact hv
  | .func _ _, v', x, h, hv => by have h : _ = v' := (by cases v' <;> exact h); subst h; exact hv
  | .nilI, v', x, h, hv => by have h : _ = v' := (by cases v' <;> exact h); subst h; exact hv
  | .iface _ _, v', x, h, hv => by have h : _ = v' := (by cases v' <;> exact h); subst h; exact hv
  | .agg _, v', x, h, hv => by have h : _ = v' := (by cases v' <;> exact h); subst h; exact hv
  | .rsl _ _ _, v', x, h, hv => by have h : _ = v' := (by cases v' <;> exact h); subst h; exact hv
  | .rptr _, v', x, h, hv => by have h : _ = v' := (by cases v' <;> exact h); subst h; exact hv
  | .tok _, v', x, h, hv => by have h : _ = v' := (by cases v' <;> exact h); subst h; exact hv
  | .gl _, v', x, h, hv => by have h : _ = v' := (by cases v' <;> exact h); subst h; exact hv
  | .yld _ _ _, v', x, h, hv => by have h : _ = v' := (by cases v' <;> exact h); subst h; exact hv
theorem tkVs_spec {τ i0 : Nat} {ρ : Pl} {p : Nat × Nat} {n : Nat} (h1 : ρ.tk τ = some p) (h2 : ρ i0 = some (p.1, p.2, n)) : ∀ (v v' : LVals) (l : List Value), tkVs τ i0 v v' → PVs ρ v l → PVs ρ v' l
  | .nil, v', l, h, hv => by cases v' <;> first | exact hv | exact h.elim
  | .cons v r, v', l, h, hv => by
    cases v' with
    | nil => exact h.elim
    | cons u r' =>
      obtain ⟨x, l', rfl, q1, q2⟩ := hv
      exact ⟨x, l', rfl, tkV_spec h1 h2 v u x h.1 q1, tkVs_spec h1 h2 r r' l' h.2 q2⟩
end
/-- Assertions alone may be read alone. -/
def roOk : LHeap → Prop
  | [] => True
  | none :: r => roOk r
  | some o :: r => (match o.ro with
    | false => True
    | true => match o.segs with
      | .res _ => True
      | _ => False) ∧ roOk r
theorem roOk_spec : ∀ (h : LHeap), roOk h → ∀ i o, hget h i = some o → o.ro = true → ∃ A, o.segs = .res A
  | [], _, i, o, hi, _ => by simp [hget] at hi
  | none :: r, hr, i, o, hi, ho => by
    cases i with
    | zero => cases hi
    | succ i => exact roOk_spec r hr i o hi ho
  | some x :: r, hr, i, o, hi, ho => by
    cases i with
    | zero =>
      have hi : some x = some o := hi
      cases hi
      have h1 := hr.1
      rw [ho] at h1
      cases hs : x.segs with
      | res A => exact ⟨A, rfl⟩
      | nil => rw [hs] at h1; exact h1.elim
      | one v q => rw [hs] at h1; exact h1.elim
      | rows n w f q => rw [hs] at h1; exact h1.elim
    | succ i => exact roOk_spec r hr.2 i o hi ho
/-- What a call leaves, some blocks packed. i0: the pack's first block. -/
def Packed (τ i0 : Nat) (K : LHeap → Prop) (h1 : LHeap) : Prop := ∃ ids sub, ids[0]? = some i0 ∧ Lh.apart h1.length ids = true ∧ Emb (embF ids h1.length) h1 ids sub ∧ roOk sub ∧ K (hset (kills h1 ids) h1.length (packO τ sub))
/-- Extra blocks keep their order behind the pack. -/
def keepB : Nat → Nat → List Nat → Bool
  | 0, _, _ => true
  | _ + 1, _, [] => false
  | m + 1, k, e :: r => Nat.beq e k && keepB m (k + 1) r
theorem keepB_spec : ∀ (m k : Nat) (l : List Nat), keepB m k l = true → ∀ i, i < m → l[i]? = some (k + i)
  | 0, _, _, _, i, hi => by omega
  | m + 1, k, [], h, i, hi => by simp [keepB] at h
  | m + 1, k, e :: r, h, i, hi => by
    simp only [keepB, Bool.and_eq_true] at h
    have h1 := Nat.eq_of_beq_eq_true h.1
    cases i with
    | zero => simp [h1]
    | succ i =>
      have := keepB_spec m (k + 1) r h.2 i (by omega)
      simp only [List.getElem?_cons_succ, this]
      congr 1; omega
theorem kills_len : ∀ (l : List Nat) (h : LHeap), (∀ i ∈ l, i < h.length) → (kills h l).length = h.length
  | [], h, _ => rfl
  | x :: r, h, hl => by
    rw [kills, kills_len r _ (fun i hi => by rw [hset_len _ _ _ (hl x (by simp))]; exact hl i (by simp [hi])), hset_len _ _ _ (hl x (by simp))]
/-- A contract of a thing's blocks, told by its pack. -/
theorem LCalls.packed {P : Program} {f : FuncId} {args args' : LVals} {τ : Nat} {h ext : LHeap} {R0 R : LEnd → LHeap → Prop} (c : LCalls P f args' (h ++ ext) R0) (hx : Plain ext) (ha : tkArgs τ (fun b => h.length + b - 1) args args')
    (hk : ∀ e h1, R0 e h1 → Packed τ 0 (fun h2 => ∃ gl e' h', Lh.apart 1000000 (h1.length :: gl) = true ∧ keepB ext.length h.length gl = true ∧ shE [] (embF (h1.length :: gl) 1000000) e e' ∧ shH [] (embF (h1.length :: gl) 1000000) h2 (h1.length :: gl) h' ∧ R e' h') h1) : LCalls P f args (packO τ h :: ext) R := by
  refine ⟨c.has, fun T w0 ρ w l hs hf hv => ?_⟩
  have hρ0 : ρ 0 = none := by
    rcases hs.obj 0 _ rfl with ⟨g, b, n, ob, h1, h2, h3, h4⟩ | ⟨h1, _⟩
    · obtain ⟨pre, l, ex, fr, z1, z2, _⟩ := h3
      exact False.elim z2
    · exact h1
  obtain ⟨ρs, s1, s2, s3, s4, ⟨g0, b0, n0, s5, s6⟩, s7⟩ := hs.unpack hρ0 hf hx
  have hl0 : 0 < h.length := by
    rcases Nat.eq_zero_or_pos h.length with q | q
    · exfalso
      rcases Nat.eq_zero_or_pos ext.length with q' | q'
      · rw [s4 0 (by rw [List.length_append]; omega)] at s6; cases s6
      · have := s7 0 q'
        rw [q, Nat.zero_add, s6] at this
        obtain ⟨Fs, r⟩ := hs.res
        obtain ⟨at_, ly, gr, br, nr, hτ, hat0⟩ := r.holds 0 _ _ rfl rfl
        have z : at_ 0 = none := ly.fresh 0 (by rw [q]; exact Nat.le_refl _)
        rw [z] at hat0; cases hat0
    · exact q
  have ex : RenE (fun b => h.length + b - 1) ρ ρs := by
    refine ⟨fun b x hb => ?_, ⟨fun k o hk => by rw [s2]; exact hk, fun k o hk => by rw [s3]; exact hk⟩⟩
    cases b with
    | zero => rw [hρ0] at hb; cases hb
    | succ b =>
      have hlt : b < ext.length := by
        rcases Nat.lt_or_ge b ext.length with q | q
        · exact q
        · rw [hf (b + 1) (by simp; omega)] at hb; cases hb
      rw [show h.length + (b + 1) - 1 = h.length + b by omega, s7 b hlt]; exact hb
  refine (c.run T w0 ρs w l s1 s4 (tkArgs_spec ex (p := (g0, b0)) s5 s6 _ _ l ha hv)).mono ?_
  rintro e w' ⟨r, h1, ρ', q1, q2, q3, q4, q5, q6, q7⟩
  obtain ⟨ids, sub, p1, p2, p3, p4, gl, e', h', t1, t2, t3, t4, t5⟩ := hk r h1 q1
  have hlen : 0 < (h ++ ext).length := by simp; omega
  have hroot : ∃ i0, ids[0]? = some i0 ∧ ρ' i0 = some (g0, b0, n0) := ⟨0, p1, (q4 0 hlen).trans s6⟩
  have sp := q5.pack q6 p2 p3 (roOk_spec sub p4) (q3.r.2 _ _ (by rw [s3]; exact s5)) hroot
  have hkl : (kills h1 ids).length = h1.length := kills_len ids h1 (fun i hi => by
    obtain ⟨k, hk⟩ := List.mem_iff_getElem?.1 hi
    exact (apart_spec ids p2).1 k i hk)
  have hlen2 : (hset (kills h1 ids) h1.length (packO τ sub)).length = h1.length + 1 := by
    have h2 := hset_length (kills h1 ids) h1.length (packO τ sub)
    have : ∀ (a : LHeap) (o : Option LObj), (hset a a.length o).length = a.length + 1 := by
      intro a o
      induction a with
      | nil => rfl
      | cons x r ih => simp only [hset, List.length_cons, ih]
    have h3 := this (kills h1 ids) (packO τ sub)
    rw [hkl] at h3
    exact h3
  have fresh : ∀ i, (hset (kills h1 ids) h1.length (packO τ sub)).length ≤ i → ρ' i = none := fun i hi => q6 i (by omega)
  have sh := sp.sh (FzOK.nil _) fresh t1 t4
  have hgl := (shH_spec _ _ t4).1
  have hn0 : newP ρ' (h1.length :: gl) 0 = none := by
    rw [newP_at, if_pos (by simp)]
    exact q6 _ (Nat.le_refl _)
  have hne : ∀ i, i < ext.length → newP ρ' (h1.length :: gl) (i + 1) = ρ (i + 1) := by
    intro i hi
    have k1 := keepB_spec _ _ _ t2 i hi
    have k2 : i < gl.length := (List.getElem?_eq_some_iff.1 k1).1
    rw [newP_at, if_pos (by simpa using k2)]
    obtain ⟨x, z1, z2⟩ := embF_lt gl 1000000 i k2
    rw [k1] at z1; cases z1
    show ρ' (embF gl 1000000 i) = _
    rw [z2, q4 _ (by simp; omega), s7 i hi]
  have hkeep : ∀ i, i < (packO τ h :: ext).length → newP ρ' (h1.length :: gl) i = ρ i := by
    intro i hi
    cases i with
    | zero => rw [hn0, hρ0]
    | succ i => exact hne i (by simpa using hi)
  refine ⟨e', h', newP ρ' (h1.length :: gl), t5, ?_, ⟨fun b x hb => ?_, ?_⟩, hkeep, sh, fun i hi => by rw [newP_at, if_neg (by omega)], ?_⟩
  · cases r <;> cases e' <;> try exact t3.elim
    · cases e <;> try exact q2.elim
      exact PV.unren newP_cut _ _ (shV_spec (FzOK.nil _) _ _ _ t3 q2)
    · cases e <;> try exact q2.elim
      obtain ⟨x, z1, z2⟩ := q2
      exact ⟨x, z1, PV.unren newP_cut _ _ (shV_spec (FzOK.nil _) _ _ _ t3 z2)⟩
  · have hlt : b < (packO τ h :: ext).length := by
      rcases Nat.lt_or_ge b (packO τ h :: ext).length with q | q
      · exact q
      · rw [hf b q] at hb; cases hb
    rw [hkeep b hlt]; exact hb
  · exact ⟨fun k o hk => q3.r.1 _ _ (by rw [s2]; exact hk), fun k o hk => q3.r.2 _ _ (by rw [s3]; exact hk)⟩
  · rw [← hgl]
    rcases Nat.eq_zero_or_pos ext.length with z | z
    · have : ext = [] := List.eq_nil_of_length_eq_zero z
      subst this; simp
    · have k1 := keepB_spec _ _ _ t2 (ext.length - 1) (by omega)
      have k2 := (List.getElem?_eq_some_iff.1 k1).1
      simp only [List.length_cons]; omega
/-- New blocks packed, under a new token. -/
theorem LCalls.packNew {P : Program} {f : FuncId} {args : LVals} {h : LHeap} {R0 R : LEnd → LHeap → Prop} (c : LCalls P f args h R0)
    (hk : ∀ e h1, R0 e h1 → R e h1 ∨ (∃ i0 o0, hget h1 i0 = some o0 ∧ o0.ro = false ∧ Nat.ble 1 (segW o0.segs) = true ∧ ∀ τ, ∃ e1, tkE τ i0 e e1 ∧ Packed τ i0 (fun h2 => ∃ gl e' h', Lh.apart 1000000 gl = true ∧ idl h.length 0 gl = true ∧ shE [] (embF gl 1000000) e1 e' ∧ shH [] (embF gl 1000000) h2 gl h' ∧ R e' h') h1)) : LCalls P f args h R := by
  refine ⟨c.has, fun T w0 ρ w l hs hf hv => (c.run T w0 ρ w l hs hf hv).mono ?_⟩
  rintro e w' ⟨r, h1, ρ1, q1, q2, q3, q4, q5, q6, q7⟩
  rcases hk r h1 q1 with hR | ⟨i0, o0, z1, z2, z3, hk⟩
  · exact ⟨r, h1, ρ1, hR, q2, q3, q4, q5, q6, q7⟩
  obtain ⟨g0, b0, n0, hroot⟩ : ∃ g0 b0 n0, ρ1 i0 = some (g0, b0, n0) := by
    rcases q5.obj i0 o0 z1 with ⟨g, b, n, ob, p1, _⟩ | ⟨_, p2⟩
    · exact ⟨g, b, n, p1⟩
    · have := PS.length _ _ (p2.ps z2)
      have z3 := Nat.le_of_ble_eq_true z3
      simp at this; omega
  obtain ⟨τ, n1, n2, n3⟩ := q5.newTok (g0, b0)
  generalize hρ' : ρ1.newTk τ (g0, b0) = ρ' at n1 n2 n3
  have hat : ρ'.at_ = ρ1.at_ := by rw [← hρ']; rfl
  have q6 : ∀ i, h1.length ≤ i → ρ' i = none := fun i hi => (congrFun hat i).trans (q6 i hi)
  have q4 : ∀ i, i < h.length → ρ' i = ρ i := fun i hi => (congrFun hat i).trans (q4 i hi)
  have hroot : ρ' i0 = some (g0, b0, n0) := (congrFun hat i0).trans hroot
  obtain ⟨e1, te, ids, sub, p1, p2, p3, p4, gl, e', h', t1, t2, t3, t4, t5⟩ := hk τ
  have q2' : EndPV ρ' e1 e := by
    cases r <;> cases e1 <;> try exact te.elim
    · cases e <;> try exact q2.elim
      exact tkV_spec n3 hroot _ _ _ te (PV.ext n2 _ _ q2)
    · cases e <;> try exact q2.elim
      have te : _ = _ := te
      subst te
      obtain ⟨x, z1, z2⟩ := q2
      exact ⟨x, z1, PV.ext n2 _ _ z2⟩
  have sp := n1.pack q6 p2 p3 (roOk_spec sub p4) n3 ⟨i0, p1, hroot⟩
  have hkl : (kills h1 ids).length = h1.length := kills_len ids h1 (fun i hi => by
    obtain ⟨k, hk⟩ := List.mem_iff_getElem?.1 hi
    exact (apart_spec ids p2).1 k i hk)
  have fresh : ∀ i, (hset (kills h1 ids) h1.length (packO τ sub)).length ≤ i → ρ' i = none := fun i hi => q6 i (by
    have := (hset_length (kills h1 ids) h1.length (packO τ sub)).2
    omega)
  have sh := sp.sh (FzOK.nil _) fresh t1 t4
  have hgl := (shH_spec _ _ t4).1
  have hkeep : ∀ i, i < h.length → newP ρ' gl i = ρ i := fun i hi => (newP_id t2 i hi).trans (q4 i hi)
  refine ⟨e', h', newP ρ' gl, t5, ?_, ⟨fun b x hb => ?_, q3.r.trans n2.r⟩, hkeep, sh, fun i hi => by rw [newP_at, if_neg (by omega)], by rw [← hgl]; exact idl_len t2⟩
  · cases e1 <;> cases e' <;> try exact t3.elim
    · cases e <;> try exact q2'.elim
      exact PV.unren newP_cut _ _ (shV_spec (FzOK.nil _) _ _ _ t3 q2')
    · cases e <;> try exact q2'.elim
      obtain ⟨x, z1, z2⟩ := q2'
      exact ⟨x, z1, PV.unren newP_cut _ _ (shV_spec (FzOK.nil _) _ _ _ t3 z2)⟩
  · have hlt : b < h.length := by
      rcases Nat.lt_or_ge b h.length with q | q
      · exact q
      · rw [hf b q] at hb; cases hb
    rw [hkeep b hlt]; exact hb
end Go.Proofs.Ytilmfhpoiejmfaa.Lh
