/- The log: what is read of sectors that lives have written, in plain Lean. By this session. -/
import Derived.Test.YtilmfhpoiejmfaaGt
namespace Go.Proofs.Ytilmfhpoiejmfaa.Gk
open Go.Proofs.Ytilmfhpoiejmfaa.Lg
set_option linter.unusedVariables false
set_option linter.unusedSimpArgs false
set_option linter.unusedSectionVars false
variable [Lh.Fz]
theorem rdL_stop {F : Nat → F8} {ep most p : Nat} {s : RS} (h : okS (F p) ep most p s.last s.inside = false) : ∀ k, rdL F ep most k p s = s
  | 0 => rfl
  | k + 1 => by rw [rdL, if_neg (by rw [h]; decide)]
theorem rdL_step {F : Nat → F8} {ep most p k : Nat} {s : RS} (h : okS (F p) ep most p s.last s.inside = true) : rdL F ep most (k + 1) p s = rdL F ep most k (p + 1) (stepS (F p) p s) := by
  rw [rdL, if_pos h]
theorem stepS_recs (f : F8) (p : Nat) (s : RS) : ∃ X, (stepS f p s).recs = s.recs ++ X := by
  unfold stepS
  split
  · exact ⟨_, rfl⟩
  · exact ⟨[], (List.append_nil _).symm⟩
theorem rdL_recs (F : Nat → F8) (ep most : Nat) : ∀ (k p : Nat) (s : RS), ∃ X, (rdL F ep most k p s).recs = s.recs ++ X
  | 0, p, s => ⟨[], (List.append_nil _).symm⟩
  | k + 1, p, s => by
    rw [rdL]
    split
    · obtain ⟨X, hX⟩ := rdL_recs F ep most k (p + 1) (stepS (F p) p s)
      obtain ⟨Y, hY⟩ := stepS_recs (F p) p s
      exact ⟨Y ++ X, by rw [hX, hY, List.append_assoc]⟩
    · exact ⟨[], (List.append_nil _).symm⟩
theorem rdL_congr {F G : Nat → F8} {ep most : Nat} : ∀ (k p : Nat) (s : RS), (∀ i, i < k → F (p + i) = G (p + i)) → rdL F ep most k p s = rdL G ep most k p s
  | 0, p, s, _ => rfl
  | k + 1, p, s, h => by
    have e := rdL_congr (F := F) (G := G) (ep := ep) (most := most) k (p + 1) (stepS (G p) p s) fun i hi => by rw [show p + 1 + i = p + (i + 1) by omega]; exact h (i + 1) (by omega)
    rw [rdL, rdL, show F p = G p from h 0 (by omega), e]
/-- Sectors that are right, of an epoch and in their place, are of lives up to one. -/
def Old (F : Nat → F8) (ep h : Nat) : Prop := ∀ p, 1 ≤ p → rightB (F p) = true → leN (F p) 4 4 = ep → leN (F p) 12 2 = p → leN (F p) 8 4 ≤ h
theorem okS_parts {f : F8} {ep most p last : Nat} {inside : Bool} (h : okS f ep most p last inside = true) : rightB f = true ∧ leN f 4 4 = ep ∧ leN f 12 2 = p ∧ leN f 8 4 ≤ most ∧ (if inside then leN f 8 4 = last else last ≤ leN f 8 4) := by
  unfold okS at h
  simp only [Bool.and_eq_true, beq_iff_eq, decide_eq_true_eq] at h
  obtain ⟨⟨⟨⟨⟨⟨⟨⟨h1, h2⟩, h3⟩, h4⟩, h5⟩, h6⟩, h7⟩, h8⟩, h9⟩ := h
  refine ⟨h1, h2, h3, h4, ?_⟩
  cases inside
  · simpa using h8
  · simpa using h8
theorem okS_most {f : F8} {ep m1 m2 p last : Nat} {inside : Bool} (h1 : leN f 8 4 ≤ m1) (h2 : leN f 8 4 ≤ m2) : okS f ep m1 p last inside = okS f ep m2 p last inside := by
  unfold okS
  rw [decide_eq_true h1, decide_eq_true h2]
theorem rdL_most {F : Nat → F8} {ep h m1 m2 : Nat} (ho : Old F ep h) (h1 : h ≤ m1) (h2 : h ≤ m2) : ∀ (k p : Nat) (s : RS), 1 ≤ p → rdL F ep m1 k p s = rdL F ep m2 k p s
  | 0, p, s, _ => rfl
  | k + 1, p, s, hp => by
    have e : okS (F p) ep m1 p s.last s.inside = okS (F p) ep m2 p s.last s.inside := by
      cases c1 : okS (F p) ep m1 p s.last s.inside
      · cases c2 : okS (F p) ep m2 p s.last s.inside
        · rfl
        · obtain ⟨q1, q2, q3, _⟩ := okS_parts c2
          have := ho p hp q1 q2 q3
          rw [okS_most (m1 := m1) (m2 := m2) (by omega) (by omega), c2] at c1
          cases c1
      · obtain ⟨q1, q2, q3, _⟩ := okS_parts c1
        have := ho p hp q1 q2 q3
        rw [← c1]
        exact okS_most (by omega) (by omega)
    rw [rdL, rdL, e, rdL_most ho h1 h2 k (p + 1) _ (by omega)]
/-! A record's sectors. -/
def secF (ep li : Nat) (r : Bs) (p i : Nat) : F8 := enc ep li p (flg i (secN r.length)) (chunk r i).length (chunk r i)
theorem flg_lt (i n : Nat) : flg i n ≤ 3 := by
  unfold flg
  split <;> split <;> decide
theorem flg_mod (i n : Nat) : (flg i n % 2 == 1) = decide (i = 0) := by
  unfold flg
  by_cases h : i = 0
  · rw [if_pos h, decide_eq_true h]
    split <;> rfl
  · rw [if_neg h, decide_eq_false h]
    split <;> rfl
theorem flg_div (i n : Nat) : (flg i n / 2 = 1) ↔ i + 1 = n := by
  unfold flg
  by_cases h : i + 1 = n
  · rw [if_pos h]
    refine ⟨fun _ => h, fun _ => ?_⟩
    split <;> rfl
  · rw [if_neg h]
    refine ⟨fun c => ?_, fun c => absurd c h⟩
    split at c <;> cases c
theorem fB_of (l : Bs) (i : Nat) (h : i < l.length) : UInt8.ofNat (fB l i) = l[i] := by
  unfold fB
  rw [List.getD_eq_getElem?_getD, List.getElem?_eq_getElem h]
  simp
theorem bytesOf_enc {ep li pl fl : Nat} {l : Bs} (h : l.length ≤ 48) : bytesOf (enc ep li pl fl l.length l) = l := by
  unfold bytesOf
  rw [enc_ln]
  refine List.ext_getElem (by simp) fun i h1 h2 => ?_
  rw [List.getElem_map, List.getElem_range, enc_by (by omega), fB_of l i h2]
theorem chunk_le (r : Bs) (i : Nat) : (chunk r i).length ≤ 48 := by rw [chunk_len]; omega
theorem take_chunk (r : Bs) (i : Nat) : r.take (48 * i) ++ chunk r i = r.take (48 * (i + 1)) := by
  unfold chunk
  rw [Nat.mul_add, Nat.mul_one, List.take_add]
structure Fits (ep li : Nat) (r : Bs) (q : Nat) : Prop where
  ep : ep < 4294967296
  li : li < 4294967296
  len : r.length ≤ 2000
  pl : q + secN r.length ≤ 65536
  q1 : 1 ≤ q
theorem sec_ok {ep li most last q i : Nat} {r : Bs} {inside : Bool} (h : Fits ep li r q) (hi : i < secN r.length) (hm : li ≤ most) (h0 : i = 0 → inside = false ∧ last ≤ li) (h1 : i ≠ 0 → inside = true ∧ last = li) : okS (secF ep li r (q + i) i) ep most (q + i) last inside = true := by
  have hs := secN_le h.len
  have hp := h.pl
  have hc := chunk_le r i
  have hf := flg_lt i (secN r.length)
  unfold okS secF
  rw [enc_right (by omega) (by omega), enc_ep h.ep, enc_li h.li, enc_pl (by omega), enc_fl, enc_ln, flg_mod]
  have h48 : (flg i (secN r.length) / 2 == 1 || (chunk r i).length == 48) = true := by
    by_cases c : i + 1 = secN r.length
    · rw [(flg_div i _).2 c]; rfl
    · have : (chunk r i).length = 48 := by rw [chunk_len]; omega
      rw [this]; simp
  rw [h48, decide_eq_true hm, decide_eq_true hf, decide_eq_true hc]
  by_cases c : i = 0
  · obtain ⟨rfl, h2⟩ := h0 c
    simp [c, h2]
  · obtain ⟨rfl, rfl⟩ := h1 c
    simp [c]
theorem sec_step {ep li p i : Nat} {r : Bs} (s : RS) : stepS (secF ep li r p i) p s = if i + 1 = secN r.length then ⟨s.recs ++ [s.part ++ chunk r i], [], leN (secF ep li r p i) 8 4, false, p + 1⟩ else ⟨s.recs, s.part ++ chunk r i, leN (secF ep li r p i) 8 4, true, s.next⟩ := by
  have e1 : secF ep li r p i 14 = flg i (secN r.length) := enc_fl
  have e2 : bytesOf (secF ep li r p i) = chunk r i := bytesOf_enc (chunk_le r i)
  unfold stepS
  rw [e1, e2]
  by_cases c : i + 1 = secN r.length
  · rw [if_pos c, if_pos ((flg_div i _).2 c)]
  · rw [if_neg c, if_neg (fun d => c ((flg_div i _).1 d))]
theorem sec_li {ep li p i : Nat} {r : Bs} (h : li < 4294967296) : leN (secF ep li r p i) 8 4 = li := enc_li h
/-- Some of a record's sectors, read. -/
def midS (S : List Bs) (ν nx li : Nat) (r : Bs) (i : Nat) : RS := if i = 0 then ⟨S, [], ν, false, nx⟩ else ⟨S, r.take (48 * i), li, true, nx⟩
theorem rd_mid {F : Nat → F8} {ep li most ν nx q : Nat} {S : List Bs} {r : Bs} (h : Fits ep li r q) (hm : li ≤ most) (hν : ν ≤ li) : ∀ (i k : Nat), i < secN r.length → (∀ j, j < i → F (q + j) = secF ep li r (q + j) j) → rdL F ep most (k + i) q ⟨S, [], ν, false, nx⟩ = rdL F ep most k (q + i) (midS S ν nx li r i)
  | 0, k, _, _ => rfl
  | i + 1, k, hi, hF => by
    rw [show k + (i + 1) = (k + 1) + i by omega, rd_mid h hm hν i (k + 1) (by omega) fun j hj => hF j (by omega)]
    have ok : okS (F (q + i)) ep most (q + i) (midS S ν nx li r i).last (midS S ν nx li r i).inside = true := by
      rw [hF i (by omega)]
      refine sec_ok h (by omega) hm (fun c => ?_) (fun c => ?_)
      · unfold midS; rw [if_pos c]; exact ⟨rfl, hν⟩
      · unfold midS; rw [if_neg c]; exact ⟨rfl, rfl⟩
    rw [rdL_step ok, hF i (by omega), sec_step, if_neg (by omega), sec_li h.li, Nat.add_assoc]
    congr 1
    unfold midS
    rw [if_neg (Nat.succ_ne_zero i)]
    by_cases c : i = 0
    · subst c
      rw [if_pos rfl]
      show (⟨S, [] ++ chunk r 0, li, true, nx⟩ : RS) = _
      rw [← take_chunk r 0]
      rfl
    · rw [if_neg c]
      show (⟨S, r.take (48 * i) ++ chunk r i, li, true, nx⟩ : RS) = _
      rw [take_chunk]
/-- All of a record's sectors, read. -/
theorem rd_rec {F : Nat → F8} {ep li most ν nx q : Nat} {S : List Bs} {r : Bs} (h : Fits ep li r q) (hm : li ≤ most) (hν : ν ≤ li) (k : Nat) (hF : ∀ j, j < secN r.length → F (q + j) = secF ep li r (q + j) j) : rdL F ep most (k + secN r.length) q ⟨S, [], ν, false, nx⟩ = rdL F ep most k (q + secN r.length) ⟨S ++ [r], [], li, false, q + secN r.length⟩ := by
  have hs := secN_le h.len
  obtain ⟨n, hn⟩ : ∃ n, secN r.length = n + 1 := ⟨secN r.length - 1, by omega⟩
  rw [hn, show k + (n + 1) = (k + 1) + n by omega, rd_mid h hm hν n (k + 1) (by omega) fun j hj => hF j (by omega)]
  have ok : okS (F (q + n)) ep most (q + n) (midS S ν nx li r n).last (midS S ν nx li r n).inside = true := by
    rw [hF n (by omega)]
    refine sec_ok h (by omega) hm (fun c => ?_) (fun c => ?_)
    · unfold midS; rw [if_pos c]; exact ⟨rfl, hν⟩
    · unfold midS; rw [if_neg c]; exact ⟨rfl, rfl⟩
  rw [rdL_step ok, hF n (by omega), sec_step, if_pos hn.symm, sec_li h.li, Nat.add_assoc]
  congr 1
  have e1 : (midS S ν nx li r n).recs = S := by unfold midS; split <;> rfl
  have e2 : (midS S ν nx li r n).part ++ chunk r n = r := by
    have : (midS S ν nx li r n).part = r.take (48 * n) := by
      unfold midS
      by_cases c : n = 0
      · subst c; rw [if_pos rfl]; rfl
      · rw [if_neg c]
    rw [this, take_chunk, List.take_of_length_le (by omega)]
  rw [e1, e2]
/-- What an elder life has left, with sectors of a newer one between: nothing more is told. -/
theorem rd_par {F G : Nat → F8} {ep li most : Nat} (ho : Old F ep (li - 1)) (h1 : 1 ≤ li) : ∀ (k p : Nat) (s : RS), 1 ≤ p → (rdL F ep most k p s).recs = s.recs → (∀ j, G (p + j) = F (p + j) ∨ leN (G (p + j)) 8 4 = li) → (G p = F p ∨ (s.inside = true ∧ s.last < li)) → (rdL G ep most k p s).recs = s.recs ∧ (rdL G ep most k p s).next = s.next
  | 0, p, s, _, _, _, _ => ⟨rfl, rfl⟩
  | k + 1, p, s, hp, hr, hG, hs => by
    cases c : okS (G p) ep most p s.last s.inside
    · rw [rdL_stop c]; exact ⟨rfl, rfl⟩
    · obtain ⟨q1, q2, q3, q4, q5⟩ := okS_parts c
      have hGF : G p = F p := by
        rcases hs with hs | ⟨i1, i2⟩
        · exact hs
        · rcases hG 0 with g | g
          · exact g
          · rw [i1] at q5
            have q5 : leN (G p) 8 4 = s.last := q5
            have g : leN (G p) 8 4 = li := g
            omega
      rw [hGF] at c q1 q2 q3
      have hold := ho p hp q1 q2 q3
      rw [rdL_step c] at hr
      rw [rdL_step (by rw [hGF]; exact c), hGF]
      by_cases ce : F p 14 / 2 = 1
      · obtain ⟨X, hX⟩ := rdL_recs F ep most k (p + 1) (stepS (F p) p s)
        rw [hX, stepS, if_pos ce] at hr
        have := congrArg List.length hr
        simp at this
      · have e : stepS (F p) p s = ⟨s.recs, s.part ++ bytesOf (F p), leN (F p) 8 4, true, s.next⟩ := if_neg ce
        rw [e] at hr ⊢
        exact rd_par ho h1 k (p + 1) _ (by omega) hr (fun j => by rw [show p + 1 + j = p + (j + 1) by omega]; exact hG (j + 1)) (.inr ⟨rfl, by show leN (F p) 8 4 < li; omega⟩)
/-- Sectors of one life's records stand over what was there, each or not. -/
def Over (F G : Nat → F8) (ep li : Nat) : Nat → List Bs → Prop
  | q, [] => ∀ j, G (q + j) = F (q + j)
  | q, r :: R => (∀ i, i < secN r.length → G (q + i) = F (q + i) ∨ G (q + i) = secF ep li r (q + i) i) ∧ Over F G ep li (q + secN r.length) R
theorem over_any {F G : Nat → F8} {ep li : Nat} (hl : li < 4294967296) : ∀ (R : List Bs) (q : Nat), Over F G ep li q R → ∀ j, G (q + j) = F (q + j) ∨ leN (G (q + j)) 8 4 = li
  | [], q, h, j => .inl (h j)
  | r :: R, q, h, j => by
    by_cases c : j < secN r.length
    · rcases h.1 j c with e | e
      · exact .inl e
      · exact .inr (by rw [e]; exact sec_li hl)
    · have := over_any hl R _ h.2 (j - secN r.length)
      rw [show q + secN r.length + (j - secN r.length) = q + j by omega] at this
      exact this
open Classical in
/-- The records whose sectors all stand there, up to the first one that lacks some. -/
noncomputable def full (G : Nat → F8) (ep li : Nat) : Nat → List Bs → List Bs
  | _, [] => []
  | q, r :: R => if ∀ i, i < secN r.length → G (q + i) = secF ep li r (q + i) i then r :: full G ep li (q + secN r.length) R else []
def secs : List Bs → Nat
  | [] => 0
  | r :: R => secN r.length + secs R
theorem secs_app : ∀ (A B : List Bs), secs (A ++ B) = secs A + secs B
  | [], B => (Nat.zero_add _).symm
  | r :: A, B => by
    show secN r.length + secs (A ++ B) = secN r.length + secs A + secs B
    rw [secs_app A B, Nat.add_assoc]
/-- What is read behind a life of which some sectors stand. -/
theorem rd_over {F G : Nat → F8} {ep li most : Nat} (hep : ep < 4294967296) (hl : li < 4294967296) (h1 : 1 ≤ li) (hm : li ≤ most) (ho : Old F ep (li - 1)) : ∀ (R : List Bs) (k q : Nat) (S : List Bs) (ν : Nat), 1 ≤ q → (∀ r ∈ R, r.length ≤ 2000) → secs R ≤ k → q + k ≤ 65536 → Over F G ep li q R → ν ≤ li → (ν < li → (rdL F ep most k q ⟨S, [], ν, false, q⟩).recs = S) → (rdL G ep most k q ⟨S, [], ν, false, q⟩).recs = S ++ full G ep li q R ∧ (rdL G ep most k q ⟨S, [], ν, false, q⟩).next = q + secs (full G ep li q R)
  | R, k, q, S, ν, hq, hR, hk, hk2, hO, hν, hrd => by
    have anyG := over_any hl R q hO
    -- where the next sector is an elder one
    have elder : G q = F q → (rdL G ep most k q ⟨S, [], ν, false, q⟩).recs = S ∧ (rdL G ep most k q ⟨S, [], ν, false, q⟩).next = q := by
      intro hg
      by_cases c : ν < li
      · exact rd_par ho h1 k q ⟨S, [], ν, false, q⟩ hq (hrd c) anyG (.inl hg)
      · have : okS (G q) ep most q ν false = false := by
          cases d : okS (G q) ep most q ν false
          · rfl
          · obtain ⟨q1, q2, q3, q4, q5⟩ := okS_parts d
            rw [hg] at q1 q2 q3 q5
            have := ho q hq q1 q2 q3
            have q5 : ν ≤ leN (F q) 8 4 := q5
            omega
        rw [rdL_stop (s := ⟨S, [], ν, false, q⟩) this]
        exact ⟨rfl, rfl⟩
    match R, hR, hk, hO, anyG with
    | [], _, _, hO, _ =>
      have := elder (hO 0)
      rw [this.1, this.2]
      exact ⟨(List.append_nil S).symm, rfl⟩
    | r :: R, hR, hk, hO, anyG =>
      have hr := hR r List.mem_cons_self
      have hsn := secN_le hr
      have hk : secN r.length + secs R ≤ k := hk
      have hfit : Fits ep li r q := ⟨hep, hl, hr, by omega, hq⟩
      unfold full
      by_cases hfull : ∀ i, i < secN r.length → G (q + i) = secF ep li r (q + i) i
      · rw [if_pos hfull]
        obtain ⟨k', rfl⟩ : ∃ k', k = k' + secN r.length := ⟨k - secN r.length, by omega⟩
        rw [rd_rec hfit hm hν k' hfull]
        have := rd_over hep hl h1 hm ho R k' (q + secN r.length) (S ++ [r]) li (by omega) (fun x hx => hR x (List.mem_cons_of_mem _ hx)) (by omega) (by omega) hO.2 (Nat.le_refl _) (fun c => absurd c (Nat.lt_irrefl _))
        rw [this.1, this.2]
        refine ⟨by rw [List.append_assoc]; rfl, ?_⟩
        show _ = q + (secN r.length + _)
        omega
      · rw [if_neg hfull]
        -- the first one that lacks
        obtain ⟨i, hi, hno, hbel⟩ : ∃ i, i < secN r.length ∧ G (q + i) ≠ secF ep li r (q + i) i ∧ ∀ j, j < i → G (q + j) = secF ep li r (q + j) j := by
          have : ∃ i, i < secN r.length ∧ G (q + i) ≠ secF ep li r (q + i) i := by
            apply Classical.byContradiction
            intro hc
            exact hfull fun i hi => Classical.byContradiction fun hd => hc ⟨i, hi, hd⟩
          obtain ⟨i, hi⟩ := this
          induction i using Nat.strongRecOn with
          | _ i ih =>
            by_cases c : ∃ j, j < i ∧ G (q + j) ≠ secF ep li r (q + j) j
            · obtain ⟨j, hj, hj2⟩ := c
              exact ih j hj ⟨by omega, hj2⟩
            · exact ⟨i, hi.1, hi.2, fun j hj => Classical.byContradiction fun hd => c ⟨j, hj, hd⟩⟩
        have hgf : G (q + i) = F (q + i) := (hO.1 i hi).resolve_right hno
        by_cases c : i = 0
        · subst c
          have := elder hgf
          rw [this.1, this.2]
          exact ⟨(List.append_nil S).symm, rfl⟩
        · obtain ⟨k', rfl⟩ : ∃ k', k = k' + i := ⟨k - i, by omega⟩
          rw [rd_mid hfit hm hν i k' hi hbel]
          have e : midS S ν q li r i = ⟨S, r.take (48 * i), li, true, q⟩ := if_neg c
          rw [e]
          have : okS (G (q + i)) ep most (q + i) li true = false := by
            cases d : okS (G (q + i)) ep most (q + i) li true
            · rfl
            · obtain ⟨q1, q2, q3, q4, q5⟩ := okS_parts d
              rw [hgf] at q1 q2 q3 q5
              have := ho (q + i) (by omega) q1 q2 q3
              have q5 : leN (F (q + i)) 8 4 = li := q5
              omega
          rw [rdL_stop (s := ⟨S, r.take (48 * i), li, true, q⟩) this]
          exact ⟨(List.append_nil S).symm, rfl⟩
end Go.Proofs.Ytilmfhpoiejmfaa.Gk
