/- The log: a life of a region and its crash, in plain Lean. By this session. -/
import Derived.Test.YtilmfhpoiejmfaaHq
namespace Go.Proofs.Ytilmfhpoiejmfaa.Gk
open Go.Proofs.Ytilmfhpoiejmfaa.Lg
open Go.Proofs.Ytilmfhpoiejmfaa.Dk (Disk Sec nought wrE wrD wrN wrS flE flD rdE hasB goesB went flushed armed armE crashed picked picked_mem fresh cut wrote wrote_len keepQ wrD_pend wrD_len went_same went_pend Inv Inv_wrS Inv_went)
set_option linter.unusedVariables false
set_option linter.unusedSimpArgs false
set_option linter.unusedSectionVars false
variable [Lh.Fz]
theorem wrote_or (p : List (Int × Sec)) (n : Nat) : ∀ l : List Sec, (wrote l p).getD n nought = l.getD n nought ∨ ∃ e ∈ p, e.1.toNat = n ∧ (wrote l p).getD n nought = e.2 := by
  induction p with
  | nil => intro l; exact .inl rfl
  | cons e r ih =>
    intro l
    rcases ih (l.set e.1.toNat e.2) with c | ⟨e', h1, h2, h3⟩
    · rw [show wrote l (e :: r) = wrote (l.set e.1.toNat e.2) r from rfl, c]
      by_cases d : e.1.toNat = n
      · by_cases hl : n < l.length
        · exact .inr ⟨e, List.mem_cons_self, d, by rw [d, List.getD_eq_getElem?_getD, List.getElem?_set_self hl]; rfl⟩
        · left
          rw [List.getD_eq_getElem?_getD, List.getD_eq_getElem?_getD, List.getElem?_eq_none (by simp; omega), List.getElem?_eq_none (by omega)]
      · left
        rw [List.getD_eq_getElem?_getD, List.getD_eq_getElem?_getD, List.getElem?_set_ne d]
    · exact .inr ⟨e', List.mem_cons_of_mem _ h1, h2, h3⟩
theorem head_hdS {h : Nat} (hh : h + 1 < 4294967296) : headOf (hdS h) = h + 1 := by
  unfold headOf hdS
  rw [enc_right (by decide) (by decide), enc_pl (by decide), enc_li hh]
  rfl
/-- A region whose disk stands still: nothing waits. -/
structure Dead (x : Disk) (first count ep h : Nat) (S : List Bs) : Prop where
  st : St x
  reg : first + count ≤ x.now.length
  c2 : 2 ≤ count
  epl : ep < 4294967296
  pend : x.pend = []
  up : x.down = false
  head : headOf (cF x.now first count 0) = h
  old : Old (cF x.now first count) ep h
  recs : (rdL (cF x.now first count) ep h (count - 1) 1 rd0).recs = S
/-- A life: what lay there when it began (F), what was told then (S, up to q0), what was appended since (R), what is being appended (Q, of which i sectors are written), where it lasts (qs). -/
structure Live (x : Disk) (L : LgS) (F : Nat → F8) (q0 : Nat) (S R Q : List Bs) (qs i : Nat) : Prop where
  st : St x
  ok : LgOk L
  reg : L.first + L.count ≤ x.now.length
  c2 : 2 ≤ L.count
  life1 : 1 ≤ L.life
  q1 : 1 ≤ q0
  qs0 : q0 ≤ qs
  qs1 : qs ≤ L.next
  next : L.next = q0 + secs R
  end_ : q0 + secs (R ++ Q) ≤ L.count
  i_le : i ≤ secs Q
  small : ∀ r ∈ R ++ Q, r.length ≤ 2000
  F0 : ∀ p, L.count ≤ p → F p = zF
  old : Old F L.epoch (L.life - 1)
  rd : ∃ ν, ν ≤ L.life - 1 ∧ (∀ (G : Nat → F8) (most : Nat), L.life - 1 ≤ most → (∀ p, 1 ≤ p → p < q0 → G p = F p) → rdL G L.epoch most (L.count - 1) 1 rd0 = rdL G L.epoch most (L.count - q0) q0 ⟨S, [], ν, false, q0⟩) ∧ ∀ most, L.life - 1 ≤ most → (rdL F L.epoch most (L.count - q0) q0 ⟨S, [], ν, false, q0⟩).recs = S
  last : ∀ p, p < L.count → cF x.last L.first L.count p = if p = 0 then hdS (L.life - 1) else if q0 ≤ p ∧ p < qs then lay F L.epoch L.life q0 (R ++ Q) p else F p
  now : ∀ p, p < L.count → cF x.now L.first L.count p = if p = 0 then hdS (L.life - 1) else if q0 ≤ p ∧ p < L.next + i then lay F L.epoch L.life q0 (R ++ Q) p else F p
  pend : x.pend = (List.range (L.next + i - qs)).map fun k => (((L.first + (qs + k) : Nat) : Int), toS (lay F L.epoch L.life q0 (R ++ Q) (qs + k)))
section
variable {x y : Disk} {L : LgS} {F : Nat → F8} {q0 qs i : Nat} {S R Q : List Bs}
theorem Live.same (h : Live x L F q0 S R Q qs i) (hs : St y) (e1 : y.now = x.now) (e2 : y.last = x.last) (e3 : y.pend = x.pend) : Live y L F q0 S R Q qs i :=
  { h with st := hs, reg := by rw [e1]; exact h.reg, last := by rw [e2]; exact h.last, now := by rw [e1]; exact h.now, pend := by rw [e3]; exact h.pend }
theorem secs_one (r : Bs) : secs [r] = secN r.length := rfl
/-- A record is begun. -/
theorem Live.begin_ (h : Live x L F q0 S R [] qs 0) {r : Bs} (hr : r.length ≤ 2000) (hn : secN r.length ≤ L.count - L.next) : Live x L F q0 S R [r] qs 0 := by
  have hnc := h.ok.nc
  have hnx := h.next
  have hq1 := h.qs1
  have el : ∀ p, q0 ≤ p → p < L.next → lay F L.epoch L.life q0 (R ++ [r]) p = lay F L.epoch L.life q0 (R ++ []) p := fun p h1 h2 => by
    rw [List.append_nil]
    exact lay_app R [r] q0 p h1 (by omega)
  refine { h with end_ := by rw [secs_app, secs_one]; omega, i_le := Nat.zero_le _, small := fun a ha => ?_, last := fun p hp => ?_, now := fun p hp => ?_, pend := ?_ }
  · rcases List.mem_append.1 ha with c | c
    · exact h.small a (List.mem_append_left _ c)
    · rw [List.mem_singleton.1 c]; exact hr
  · rw [h.last p hp]
    by_cases c : p = 0
    · rw [if_pos c, if_pos c]
    · rw [if_neg c, if_neg c]
      by_cases d : q0 ≤ p ∧ p < qs
      · rw [if_pos d, if_pos d, el p d.1 (by omega)]
      · rw [if_neg d, if_neg d]
  · rw [h.now p hp]
    by_cases c : p = 0
    · rw [if_pos c, if_pos c]
    · rw [if_neg c, if_neg c]
      by_cases d : q0 ≤ p ∧ p < L.next + 0
      · rw [if_pos d, if_pos d, el p d.1 (by omega)]
      · rw [if_neg d, if_neg d]
  · rw [h.pend]
    refine List.map_congr_left fun k hk => ?_
    have := List.mem_range.1 hk
    have := h.qs0
    rw [el (qs + k) (by omega) (by omega)]
/-- A record is done. -/
theorem Live.done {r : Bs} (h : Live x L F q0 S R [r] qs (secN r.length)) : Live x { L with next := L.next + secN r.length } F q0 S (R ++ [r]) [] qs 0 := by
  have hnx := h.next
  have hend := h.end_
  rw [secs_app, secs_one] at hend
  exact { h with ok := ⟨h.ok.fc, by dsimp only; omega, h.ok.ep, h.ok.li⟩, qs1 := by have := h.qs1; dsimp only; omega, next := by dsimp only; rw [secs_app, secs_one]; omega, end_ := by rw [List.append_nil, secs_app, secs_one]; dsimp only; omega, i_le := Nat.zero_le _, small := fun a ha => h.small a (by rw [List.append_nil] at ha; exact ha), last := by rw [List.append_nil]; exact h.last, now := by rw [List.append_nil]; exact h.now, pend := by rw [List.append_nil]; exact h.pend }
theorem apS_sec {r : Bs} {n : Nat} (hn : n = secN r.length) (i : Nat) : apS L r n i = secF L.epoch L.life r (L.next + i) i := by subst hn; rfl
/-- One more sector is written. -/
theorem Live.wrote {r : Bs} (h : Live x L F q0 S R [r] qs i) (hi : i < secN r.length) (hp : x.pend.length < 1000000) : Live (wrS (went x) (L.first + (L.next + i)) (toS (apS L r (secN r.length) i)) 64) L F q0 S R [r] qs (i + 1) := by
  obtain ⟨w1, w2, w3⟩ := went_same x
  have hnx := h.next
  have hend := h.end_
  rw [secs_app, secs_one] at hend
  have hreg := h.reg
  have hq1 := h.qs1
  have hq0 := h.qs0
  have h1 := h.q1
  have hsec : lay F L.epoch L.life q0 (R ++ [r]) (L.next + i) = apS L r (secN r.length) i := by
    rw [apS_sec rfl, hnx]
    exact lay_at R q0 i hi
  have hcut : cut (toS (apS L r (secN r.length) i)) 64 = toS (apS L r (secN r.length) i) := cut_toS short_enc
  have en : (wrS (went x) (L.first + (L.next + i)) (toS (apS L r (secN r.length) i)) 64).now = x.now.set (L.first + (L.next + i)) (toS (apS L r (secN r.length) i)) := by
    show (went x).now.set _ (cut _ 64) = _
    rw [hcut, w1]
  have el : (wrS (went x) (L.first + (L.next + i)) (toS (apS L r (secN r.length) i)) 64).last = x.last := w2
  have ep : (wrS (went x) (L.first + (L.next + i)) (toS (apS L r (secN r.length) i)) 64).pend = x.pend ++ [(((L.first + (L.next + i) : Nat) : Int), toS (apS L r (secN r.length) i))] := by
    show (went x).pend ++ [(_, cut _ 64)] = _
    rw [hcut, w3]
  refine { h with st := ?_, reg := by rw [en, List.length_set]; exact h.reg, i_le := by rw [secs_one]; omega, last := by rw [el]; exact h.last, now := fun p hp => ?_, pend := ?_ }
  · have hb := apS_lt L r (secN r.length) i
    refine ⟨Inv_wrS (Inv_went h.st.inv) _ _ _ (by rw [w1]; omega) (by rw [w3]; exact hp), ⟨?_, ?_, ?_⟩, by rw [en, List.length_set]; exact h.st.few⟩
    · rw [en]
      intro s hs
      rcases List.mem_or_eq_of_mem_set hs with c | rfl
      · exact h.st.by_.now s c
      · rw [← hcut]; exact by_cut fun j hj => by_toS hb j 64 hj
    · rw [el]; exact h.st.by_.last
    · rw [ep]
      intro w hw
      rcases List.mem_append.1 hw with c | c
      · exact h.st.by_.pend w c
      · rw [List.mem_singleton.1 c, ← hcut]; exact by_cut fun j hj => by_toS hb j 64 hj
  · rw [en, cF_set hreg (by omega)]
    by_cases c : p = L.next + i
    · subst c
      rw [if_pos rfl, if_neg (by omega), if_pos ⟨by omega, by omega⟩, hsec]
    · rw [if_neg c, h.now p hp]
      by_cases c0 : p = 0
      · rw [if_pos c0, if_pos c0]
      · rw [if_neg c0, if_neg c0]
        by_cases d : q0 ≤ p ∧ p < L.next + i
        · rw [if_pos d, if_pos ⟨d.1, by omega⟩]
        · rw [if_neg d, if_neg (by omega)]
  · rw [ep, h.pend, show L.next + (i + 1) - qs = (L.next + i - qs) + 1 by omega, List.range_succ, List.map_append]
    congr 1
    show _ = [(((L.first + (qs + (L.next + i - qs)) : Nat) : Int), toS (lay F L.epoch L.life q0 (R ++ [r]) (qs + (L.next + i - qs))))]
    rw [show qs + (L.next + i - qs) = L.next + i by omega, hsec]
/-- All that was written lasts. -/
theorem Live.synced (h : Live x L F q0 S R [] qs 0) : Live (flushed (went x)) L F q0 S R [] L.next 0 := by
  obtain ⟨w1, w2, w3⟩ := went_same x
  have el : (flushed (went x)).last = x.now := by
    show Dk.wrote (went x).last (went x).pend = x.now
    rw [w2, w3]
    exact h.st.inv.eq.symm
  have en : (flushed (went x)).now = x.now := w1
  refine { h with st := ?_, reg := by rw [en]; exact h.reg, qs0 := by rw [h.next]; exact Nat.le_add_right _ _, qs1 := Nat.le_refl _, last := ?_, now := by rw [en]; exact h.now, pend := ?_ }
  · exact ⟨⟨⟨by rw [el, en], fun k hk => absurd hk (Nat.not_lt_zero _), Nat.zero_le _⟩, by rw [el, en]; rfl⟩, ⟨by rw [en]; exact h.st.by_.now, by rw [el]; exact h.st.by_.now, fun w hw => by cases hw⟩, by rw [en]; exact h.st.few⟩
  · rw [el]; exact h.now
  · rw [Nat.add_zero, Nat.sub_self]; rfl
/-- A crash: what lasted is told, and a beginning of what was appended since. -/
theorem Live.crash (h : Live x L F q0 S R Q qs i) (q : Nat → Bool) {Rs Rt : List Bs} (hR : R = Rs ++ Rt) (hqs : qs = q0 + secs Rs) (hQ : Q = [] ∨ ∃ r, Q = [r] ∧ i < secN r.length) : ∃ T, Dead (crashed x q) L.first L.count L.epoch L.life (S ++ (Rs ++ T)) ∧ ∃ B, Rt = T ++ B := by
  obtain ⟨k1, k2, k3, k4⟩ := h.ok
  have hq1 := h.qs1
  have hq0 := h.qs0
  have hq := h.q1
  have hl1 := h.life1
  have hnx := h.next
  have hend := h.end_
  have hil := h.i_le
  rw [secs_app] at hend
  have hst := St_crashed h.st q
  have hlen := crashed_len h.st.inv q
  -- what each place holds
  have hG : ∀ p, p < L.count → cF (crashed x q).now L.first L.count p = cF x.last L.first L.count p ∨ (qs ≤ p ∧ p < L.next + i ∧ cF (crashed x q).now L.first L.count p = lay F L.epoch L.life q0 (R ++ Q) p) := by
    intro p hp
    unfold cF
    rw [if_pos hp, if_pos hp]
    show byt ((Dk.wrote x.last (picked q x.pend)).getD (L.first + p) nought) = _ ∨ _
    rcases wrote_or (picked q x.pend) (L.first + p) x.last with c | ⟨e, e1, e2, e3⟩
    · exact .inl (by rw [c])
    · right
      have e4 := picked_mem q x.pend e e1
      rw [h.pend] at e4
      obtain ⟨k, hk, rfl⟩ := List.mem_map.1 e4
      have hk := List.mem_range.1 hk
      have e2 : (((L.first + (qs + k) : Nat) : Int)).toNat = L.first + p := e2
      have : p = qs + k := by omega
      subst this
      refine ⟨by omega, by omega, ?_⟩
      show byt ((Dk.wrote x.last (picked q x.pend)).getD (L.first + (qs + k)) nought) = _
      rw [e3]
      exact byt_toS _
  obtain ⟨G, hGd⟩ : ∃ G, G = cF (crashed x q).now L.first L.count := ⟨_, rfl⟩
  rw [← hGd] at hG
  have hGF : ∀ p, 1 ≤ p → G p = F p ∨ (q0 ≤ p ∧ p < L.next + i ∧ G p = lay F L.epoch L.life q0 (R ++ Q) p) := by
    intro p hp
    by_cases c : p < L.count
    · rcases hG p c with e | ⟨e1, e2, e3⟩
      · rw [h.last p c, if_neg (by omega)] at e
        by_cases d : q0 ≤ p ∧ p < qs
        · rw [if_pos d] at e
          exact .inr ⟨d.1, by omega, e⟩
        · rw [if_neg d] at e
          exact .inl e
      · exact .inr ⟨by omega, e2, e3⟩
    · left
      rw [hGd, cF_hi (by omega), h.F0 p (by omega)]
  have hGs : ∀ p, q0 ≤ p → p < qs → G p = lay F L.epoch L.life q0 (R ++ Q) p := by
    intro p h1 h2
    rcases hG p (by omega) with e | ⟨_, _, e⟩
    · rw [e, h.last p (by omega), if_neg (by omega), if_pos ⟨h1, h2⟩]
    · exact e
  have hold : Old G L.epoch L.life := by
    intro p hp r1 r2 r3
    rcases hGF p hp with e | ⟨e1, e2, e⟩
    · rw [e] at r1 r2 r3 ⊢
      have := h.old p hp r1 r2 r3
      omega
    · obtain ⟨r, hr, j, e5⟩ := lay_sec (F := F) (ep := L.epoch) (li := L.life) (R ++ Q) q0 p e1 (by rw [secs_app]; omega)
      rw [e, e5, sec_li k4]
      exact Nat.le_refl _
  have hover : Over F G L.epoch L.life q0 (R ++ Q) := over_lay (R ++ Q) q0 fun p hp => by
    rcases hGF p (by omega) with e | ⟨e1, e2, e⟩
    · exact .inl e
    · exact .inr ⟨by rw [secs_app]; omega, e⟩
  obtain ⟨ν, n1, n2, n3⟩ := h.rd
  have hrd := rd_over k3 k4 hl1 (Nat.le_refl L.life) h.old (R ++ Q) (L.count - q0) q0 S ν hq h.small (by rw [secs_app]; omega) (by omega) hover (by omega) (fun _ => n3 L.life (by omega))
  rw [← n2 G L.life (by omega) (fun p h1 h2 => by
    rcases hGF p h1 with e | ⟨e1, _, _⟩
    · exact e
    · omega)] at hrd
  -- what is told
  have hpre : full G L.epoch L.life q0 (R ++ Q) = Rs ++ full G L.epoch L.life (q0 + secs Rs) (Rt ++ Q) := by
    rw [hR, List.append_assoc]
    refine full_pre (F := F) Rs (Rt ++ Q) q0 fun p h1 h2 => ?_
    rw [hGs p h1 (by omega), hR, List.append_assoc]
  have hsR : secs R = secs Rs + secs Rt := by rw [hR, secs_app]
  refine ⟨full G L.epoch L.life (q0 + secs Rs) (Rt ++ Q), ⟨hst, by rw [hlen]; exact h.reg, h.c2, k3, rfl, rfl, ?_, by rw [← hGd]; exact hold, ?_⟩, ?_⟩
  · have e0 : cF (crashed x q).now L.first L.count 0 = hdS (L.life - 1) := by
      rw [← hGd]
      rcases hG 0 (by omega) with e | ⟨e1, _, _⟩
      · rw [e, h.last 0 (by omega), if_pos rfl]
      · omega
    rw [e0, head_hdS (by omega)]
    omega
  · rw [← hGd, hrd.1, hpre]
  · rcases hQ with rfl | ⟨r, rfl, hi⟩
    · rw [List.append_nil]
      exact full_is G L.epoch L.life Rt _
    · refine full_miss Rt (q0 + secs Rs) ⟨i, hi, ?_⟩
      have hp : q0 + secs Rs + secs Rt + i = L.next + i := by omega
      rw [hp]
      rcases hGF (L.next + i) (by omega) with e | ⟨_, e2, _⟩
      · rw [e]
        rw [secs_one] at hend
        exact old_ne h.old hl1 k3 k4 (by omega) (by omega)
      · omega
end
end Go.Proofs.Ytilmfhpoiejmfaa.Gk
