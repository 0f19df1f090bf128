/- The log: a life of a region, its crash, its opening; in plain Lean. By this session. -/
import Derived.Test.YtilmfhpoiejmfaaHp
import Derived.Test.YtilmfhpoiejmfaaGv
namespace Go.Proofs.Ytilmfhpoiejmfaa.Gk
open Go.Proofs.Ytilmfhpoiejmfaa.Lg
open Go.Proofs.Ytilmfhpoiejmfaa.Dk (Disk Sec nought wrE wrD wrN wrS flE flD rdE hasB goesB went flushed armed armE crashed picked picked_mem fresh cut wrote wrote_len keepQ wrD_pend wrD_len went_same went_pend Inv)
set_option linter.unusedVariables false
set_option linter.unusedSimpArgs false
set_option linter.unusedSectionVars false
variable [Lh.Fz]
def zF : F8 := fun _ => 0
theorem zF_wrong : rightB zF = false := zero_wrong
/-- A region's sectors; noughts behind it. -/
def cF (l : List Sec) (first count : Nat) : Nat → F8 := fun p => if p < count then byt (l.getD (first + p) nought) else zF
theorem cF_hi {l : List Sec} {first count p : Nat} (h : count ≤ p) : cF l first count p = zF := if_neg (by omega)
theorem cF_reg {x : Disk} {first count p : Nat} (h : p < count) : cF x.now first count p = regF x first p := if_pos h
theorem byt_toS (f : F8) : byt (toS f) = f := funext fun i => by
  show ((f i : Int)).toNat = f i
  omega
def Short (f : F8) : Prop := ∀ i, 64 ≤ i → f i = 0
theorem short_enc {ep li pl fl ln : Nat} {l : Bs} : Short (enc ep li pl fl ln l) := fun i hi => by
  unfold enc body
  rw [if_neg (by omega), if_neg (by omega), if_neg (by omega), if_neg (by omega), if_neg (by omega), if_neg (by omega), if_neg (by omega), if_neg (by omega)]
theorem cut_toS {f : F8} (h : Short f) : cut (toS f) 64 = toS f := funext fun i => by
  unfold cut
  by_cases c : i < 64
  · rw [if_pos c]
  · rw [if_neg c]
    show 0 = ((f i : Nat) : Int)
    rw [h i (by omega)]
    rfl
theorem cF_set {l : List Sec} {first count q : Nat} {f : F8} (hl : first + count ≤ l.length) (hq : q < count) (p : Nat) : cF (l.set (first + q) (toS f)) first count p = if p = q then f else cF l first count p := by
  unfold cF
  by_cases c : p < count
  · rw [if_pos c, if_pos c]
    by_cases e : p = q
    · subst e
      rw [if_pos rfl, List.getD_eq_getElem?_getD, List.getElem?_set_self (by omega)]
      exact byt_toS f
    · rw [if_neg e, List.getD_eq_getElem?_getD, List.getElem?_set_ne (by omega), ← List.getD_eq_getElem?_getD]
  · rw [if_neg c, if_neg c, if_neg (by omega)]
/-! Writes and flushes, well or not. -/
theorem goes_left {x : Disk} (h : goesB x = false) : (went x).down = true := by
  have : x.left = 0 := by simpa [goesB] using h
  unfold went
  rw [if_neg (by omega), if_pos this]
theorem wr_cases {x : Disk} {n : Nat} (hn : n < x.now.length) (b : Nat → Int) : (wrE x (n : Int) 64 = 0 ∧ wrD x (n : Int) b 64 = wrS (went x) n b 64 ∧ x.down = false ∧ (went x).down = false) ∨ (wrE x (n : Int) 64 = 10 ∧ (wrD x (n : Int) b 64).now = x.now ∧ (wrD x (n : Int) b 64).last = x.last ∧ (wrD x (n : Int) b 64).pend = x.pend ∧ (wrD x (n : Int) b 64).down = true) := by
  have hb : hasB x (n : Int) = true := by simp [hasB]; omega
  obtain ⟨w1, w2, w3⟩ := went_same x
  cases hd : x.down
  · cases hg : goesB x
    · have e : wrE x (n : Int) 64 = 10 := by simp [wrE, hd, hb, hg]
      have d : wrD x (n : Int) b 64 = went x := by
        unfold wrD
        rw [if_neg (by rw [e]; decide), wrN, if_pos ⟨hd, hb, by decide⟩]
      exact .inr ⟨e, by rw [d, w1], by rw [d, w2], by rw [d, w3], by rw [d]; exact goes_left hg⟩
    · have e : wrE x (n : Int) 64 = 0 := by simp [wrE, hd, hb, hg]
      refine .inl ⟨e, ?_, rfl, (went_down hg).trans hd⟩
      unfold wrD
      rw [if_pos e, Int.toNat_natCast]
  · have e : wrE x (n : Int) 64 = 10 := by simp [wrE, hd]
    have d : wrD x (n : Int) b 64 = x := by
      unfold wrD
      rw [if_neg (by rw [e]; decide), wrN, if_neg (by rw [hd]; simp)]
    exact .inr ⟨e, by rw [d], by rw [d], by rw [d], by rw [d]; exact hd⟩
theorem fl_cases (x : Disk) : (flE x = 0 ∧ flD x = flushed (went x) ∧ (flD x).down = false) ∨ (flE x = 10 ∧ (flD x).now = x.now ∧ (flD x).last = x.last ∧ (flD x).pend = x.pend ∧ (flD x).down = true) := by
  obtain ⟨w1, w2, w3⟩ := went_same x
  cases hd : x.down
  · cases hg : goesB x
    · have d : flD x = went x := by simp [flD, hd, hg]
      exact .inr ⟨by simp [flE, hd, hg], by rw [d, w1], by rw [d, w2], by rw [d, w3], by rw [d]; exact goes_left hg⟩
    · have e : flE x = 0 := by simp [flE, hd, hg]
      obtain ⟨z1, z2, _⟩ := flD_ok e
      exact .inl ⟨e, z1, z2⟩
  · have d : flD x = x := by simp [flD, hd]
    exact .inr ⟨by simp [flE, hd], by rw [d], by rw [d], by rw [d], by rw [d]; exact hd⟩
/-! A life's sectors. -/
def lay (F : Nat → F8) (ep li : Nat) : Nat → List Bs → Nat → F8
  | q, [], p => F p
  | q, r :: R, p => if p < q + secN r.length then secF ep li r p (p - q) else lay F ep li (q + secN r.length) R p
theorem lay_app {F : Nat → F8} {ep li : Nat} : ∀ (A B : List Bs) (q p : Nat), q ≤ p → p < q + secs A → lay F ep li q (A ++ B) p = lay F ep li q A p
  | [], B, q, p, h1, h => absurd h (by show ¬ p < q + 0; omega)
  | r :: A, B, q, p, h1, h => by
    show (if p < q + secN r.length then _ else lay F ep li (q + secN r.length) (A ++ B) p) = (if p < q + secN r.length then _ else lay F ep li (q + secN r.length) A p)
    by_cases c : p < q + secN r.length
    · rw [if_pos c, if_pos c]
    · rw [if_neg c, if_neg c]
      exact lay_app A B _ p (by omega) (by have : secs (r :: A) = secN r.length + secs A := rfl; omega)
theorem lay_at {F : Nat → F8} {ep li : Nat} {r : Bs} : ∀ (A : List Bs) (q i : Nat), i < secN r.length → lay F ep li q (A ++ [r]) (q + secs A + i) = secF ep li r (q + secs A + i) i
  | [], q, i, h => by
    show (if q + 0 + i < q + secN r.length then _ else _) = _
    rw [if_pos (by omega)]
    congr 1
    show q + 0 + i - q = i
    omega
  | a :: A, q, i, h => by
    have e : secs (a :: A) = secN a.length + secs A := rfl
    show (if q + secs (a :: A) + i < q + secN a.length then _ else lay F ep li (q + secN a.length) (A ++ [r]) (q + secs (a :: A) + i)) = _
    rw [if_neg (by omega), e, show q + (secN a.length + secs A) + i = q + secN a.length + secs A + i by omega]
    exact lay_at A _ i h
/-- Each of a life's sectors is one of a record. -/
theorem lay_sec {F : Nat → F8} {ep li : Nat} : ∀ (A : List Bs) (q p : Nat), q ≤ p → p < q + secs A → ∃ r ∈ A, ∃ i, lay F ep li q A p = secF ep li r p i
  | [], q, p, h1, h => absurd h (by show ¬ p < q + 0; omega)
  | r :: A, q, p, h1, h => by
    show ∃ x ∈ r :: A, ∃ i, (if p < q + secN r.length then _ else lay F ep li (q + secN r.length) A p) = _
    by_cases c : p < q + secN r.length
    · rw [if_pos c]; exact ⟨r, List.mem_cons_self, _, rfl⟩
    · rw [if_neg c]
      obtain ⟨x, hx, i, e⟩ := lay_sec A (q + secN r.length) p (by omega) (by have : secs (r :: A) = secN r.length + secs A := rfl; omega)
      exact ⟨x, List.mem_cons_of_mem _ hx, i, e⟩
theorem over_lay {F G : Nat → F8} {ep li : Nat} : ∀ (R : List Bs) (q : Nat), (∀ p, q ≤ p → G p = F p ∨ (p < q + secs R ∧ G p = lay F ep li q R p)) → Over F G ep li q R
  | [], q, h => fun j => by
    rcases h (q + j) (Nat.le_add_right q j) with e | e
    · exact e
    · exact absurd e.1 (by show ¬ q + j < q + 0; omega)
  | r :: R, q, h => by
    have e : secs (r :: R) = secN r.length + secs R := rfl
    refine ⟨fun i hi => ?_, over_lay R _ fun p hp => ?_⟩
    · rcases h (q + i) (by omega) with c | ⟨_, c⟩
      · exact .inl c
      · right
        rw [c]
        show (if q + i < q + secN r.length then _ else _) = _
        rw [if_pos (by omega), show q + i - q = i by omega]
    · rcases h p (by omega) with c | ⟨c1, c⟩
      · exact .inl c
      · right
        refine ⟨by omega, ?_⟩
        rw [c]
        show (if p < q + secN r.length then _ else _) = _
        rw [if_neg (by omega)]
theorem full_pre {F G : Nat → F8} {ep li : Nat} : ∀ (A B : List Bs) (q : Nat), (∀ p, q ≤ p → p < q + secs A → G p = lay F ep li q (A ++ B) p) → full G ep li q (A ++ B) = A ++ full G ep li (q + secs A) B
  | [], B, q, h => rfl
  | r :: A, B, q, h => by
    have e : secs (r :: A) = secN r.length + secs A := rfl
    have c : ∀ i, i < secN r.length → G (q + i) = secF ep li r (q + i) i := fun i hi => by
      rw [h (q + i) (by omega) (by omega)]
      show (if q + i < q + secN r.length then _ else _) = _
      rw [if_pos (by omega), show q + i - q = i by omega]
    show full G ep li q (r :: (A ++ B)) = r :: (A ++ _)
    have ih := full_pre (F := F) (G := G) (ep := ep) (li := li) A B (q + secN r.length) fun p h1 h2 => by
      rw [h p (by omega) (by omega)]
      show (if p < q + secN r.length then _ else _) = _
      rw [if_neg (by omega)]
      rfl
    rw [full, if_pos c, ih, e, Nat.add_assoc]
theorem full_is (G : Nat → F8) (ep li : Nat) : ∀ (R : List Bs) (q : Nat), ∃ B, R = full G ep li q R ++ B
  | [], q => ⟨[], rfl⟩
  | r :: R, q => by
    unfold full
    split
    · obtain ⟨B, hB⟩ := full_is G ep li R (q + secN r.length)
      exact ⟨B, by rw [List.cons_append, ← hB]⟩
    · exact ⟨r :: R, rfl⟩
/-- A record that lacks a sector is not told. -/
theorem full_miss {G : Nat → F8} {ep li : Nat} {r : Bs} : ∀ (R : List Bs) (q : Nat), (∃ i, i < secN r.length ∧ G (q + secs R + i) ≠ secF ep li r (q + secs R + i) i) → ∃ B, R = full G ep li q (R ++ [r]) ++ B
  | [], q, h => by
    obtain ⟨i, hi, hn⟩ := h
    refine ⟨[], ?_⟩
    show _ = full G ep li q [r] ++ []
    rw [full, if_neg (fun c => hn (c i hi))]
    rfl
  | a :: R, q, h => by
    show ∃ B, a :: R = full G ep li q (a :: (R ++ [r])) ++ B
    unfold full
    split
    · obtain ⟨B, hB⟩ := full_miss (r := r) R (q + secN a.length) (by
        obtain ⟨i, hi, hn⟩ := h
        have e : secs (a :: R) = secN a.length + secs R := rfl
        exact ⟨i, hi, by rw [show q + secN a.length + secs R + i = q + secs (a :: R) + i by omega]; exact hn⟩)
      exact ⟨B, by rw [List.cons_append, ← hB]⟩
    · exact ⟨a :: R, rfl⟩
/-- What is old is none of a newer life's. -/
theorem old_ne {F : Nat → F8} {ep li : Nat} {r : Bs} {p i : Nat} (ho : Old F ep (li - 1)) (h1 : 1 ≤ li) (hep : ep < 4294967296) (hl : li < 4294967296) (hp : 1 ≤ p) (hp2 : p < 65536) : F p ≠ secF ep li r p i := by
  intro e
  have hf := flg_lt i (secN r.length)
  have hc := chunk_le r i
  have := ho p hp (by rw [e]; exact enc_right (by omega) (by omega)) (by rw [e]; exact enc_ep hep) (by rw [e]; exact enc_pl hp2)
  rw [e, sec_li hl] at this
  omega
/-- Reading, from the last record that was told on. -/
theorem rd_split {F : Nat → F8} {ep h : Nat} : ∀ (k p : Nat) (s : RS), s.last ≤ h → ((rdL F ep h k p s).recs = s.recs ∧ (rdL F ep h k p s).next = s.next) ∨ ∃ j ν, 1 ≤ j ∧ j ≤ k ∧ (rdL F ep h k p s).next = p + j ∧ ν ≤ h ∧ ∀ (G : Nat → F8) (most : Nat), h ≤ most → (∀ i, i < j → G (p + i) = F (p + i)) → rdL G ep most k p s = rdL G ep most (k - j) (p + j) ⟨(rdL F ep h k p s).recs, [], ν, false, p + j⟩
  | 0, p, s, _ => .inl ⟨rfl, rfl⟩
  | k + 1, p, s, hs => by
    cases c : okS (F p) ep h p s.last s.inside
    · rw [rdL_stop c]; exact .inl ⟨rfl, rfl⟩
    · obtain ⟨q1, q2, q3, q4, q5⟩ := okS_parts c
      rw [rdL_step c]
      have okG : ∀ (G : Nat → F8) (most : Nat), h ≤ most → G p = F p → okS (G p) ep most p s.last s.inside = true := fun G most hm e => by
        rw [e, ← c]
        exact okS_most (by omega) q4
      have hl : (stepS (F p) p s).last ≤ h := by unfold stepS; split <;> exact q4
      rcases rd_split (F := F) (ep := ep) (h := h) k (p + 1) (stepS (F p) p s) hl with ⟨e1, e2⟩ | ⟨j, ν, j1, j2, e1, e2, e3⟩
      · by_cases ce : F p 14 / 2 = 1
        · right
          have es : stepS (F p) p s = ⟨s.recs ++ [s.part ++ bytesOf (F p)], [], leN (F p) 8 4, false, p + 1⟩ := if_pos ce
          refine ⟨1, leN (F p) 8 4, Nat.le_refl _, by omega, by rw [e2, es], q4, fun G most hm hG => ?_⟩
          have hg := hG 0 (by omega)
          rw [rdL_step (okG G most hm hg), show G p = F p from hg, e1, es]
          rfl
        · left
          have es : stepS (F p) p s = ⟨s.recs, s.part ++ bytesOf (F p), leN (F p) 8 4, true, s.next⟩ := if_neg ce
          rw [e1, e2, es]
          exact ⟨rfl, rfl⟩
      · right
        refine ⟨j + 1, ν, by omega, by omega, by rw [e1]; omega, e2, fun G most hm hG => ?_⟩
        have hg := hG 0 (by omega)
        rw [rdL_step (okG G most hm hg), show G p = F p from hg, e3 G most hm (fun i hi => by rw [show p + 1 + i = p + (i + 1) by omega]; exact hG (i + 1) (by omega)), show k + 1 - (j + 1) = k - j by omega, show p + 1 + j = p + (j + 1) by omega]
/-- The same from the first place. -/
theorem rd_first {F : Nat → F8} {ep h k : Nat} (ho : Old F ep h) : ∃ ν q, q = (rdL F ep h k 1 rd0).next ∧ 1 ≤ q ∧ q ≤ 1 + k ∧ ν ≤ h ∧ (∀ (G : Nat → F8) (most : Nat), h ≤ most → (∀ p, 1 ≤ p → p < q → G p = F p) → rdL G ep most k 1 rd0 = rdL G ep most (k + 1 - q) q ⟨(rdL F ep h k 1 rd0).recs, [], ν, false, q⟩) ∧ ∀ most, h ≤ most → (rdL F ep most (k + 1 - q) q ⟨(rdL F ep h k 1 rd0).recs, [], ν, false, q⟩).recs = (rdL F ep h k 1 rd0).recs := by
  have fin : ∀ (ν q : Nat), (∀ (G : Nat → F8) (most : Nat), h ≤ most → (∀ p, 1 ≤ p → p < q → G p = F p) → rdL G ep most k 1 rd0 = rdL G ep most (k + 1 - q) q ⟨(rdL F ep h k 1 rd0).recs, [], ν, false, q⟩) → ∀ most, h ≤ most → (rdL F ep most (k + 1 - q) q ⟨(rdL F ep h k 1 rd0).recs, [], ν, false, q⟩).recs = (rdL F ep h k 1 rd0).recs := by
    intro ν q hG most hm
    rw [← hG F most hm fun _ _ _ => rfl, rdL_most ho hm (Nat.le_refl h) k 1 rd0 (Nat.le_refl 1)]
  rcases rd_split (F := F) (ep := ep) (h := h) k 1 rd0 (Nat.zero_le h) with ⟨e1, e2⟩ | ⟨j, ν, j1, j2, e1, e2, e3⟩
  · have hG : ∀ (G : Nat → F8) (most : Nat), h ≤ most → (∀ p, 1 ≤ p → p < 1 → G p = F p) → rdL G ep most k 1 rd0 = rdL G ep most (k + 1 - 1) 1 ⟨(rdL F ep h k 1 rd0).recs, [], 0, false, 1⟩ := fun G most hm _ => by
      rw [e1]; rfl
    exact ⟨0, 1, e2.symm, Nat.le_refl 1, by omega, Nat.zero_le h, hG, fin 0 1 hG⟩
  · have hG : ∀ (G : Nat → F8) (most : Nat), h ≤ most → (∀ p, 1 ≤ p → p < 1 + j → G p = F p) → rdL G ep most k 1 rd0 = rdL G ep most (k + 1 - (1 + j)) (1 + j) ⟨(rdL F ep h k 1 rd0).recs, [], ν, false, 1 + j⟩ := fun G most hm hg => by
      rw [e3 G most hm fun i hi => hg (1 + i) (by omega) (by omega), show k + 1 - (1 + j) = k - j by omega]
    exact ⟨ν, 1 + j, e1.symm, by omega, by omega, e2, hG, fin ν (1 + j) hG⟩
end Go.Proofs.Ytilmfhpoiejmfaa.Gk
