/- Pieces of bytes, without Go: what is read, what is written; each undoes the other. By this session. -/
namespace Go.Proofs.Ytbojbofakmihmaa.Bp
set_option linter.unusedVariables false
set_option linter.unusedSimpArgs false
abbrev Bs := List UInt8
inductive Nd where
  | mk (tag : Int) (body : Bs) (kids : List Nd)
instance : Inhabited Nd := ⟨.mk 0 [] []⟩
def Nd.tag : Nd → Int
  | .mk t _ _ => t
def Nd.body : Nd → Bs
  | .mk _ b _ => b
def Nd.kids : Nd → List Nd
  | .mk _ _ k => k
/-- A number is a tag. -/
def tagB (n : Int) : Bool := decide (0 ≤ n) && (decide (n < 256) && decide (n % 32 ≠ 31))
/-- A tag of a piece with kids. -/
def kidB (n : Int) : Bool := decide (n / 32 % 2 = 1)
mutual
def deepP : Nd → Nat → Bool
  | .mk _ _ _, 0 => false
  | .mk _ _ ks, d + 1 => deepL ks d
def deepL : List Nd → Nat → Bool
  | [], _ => true
  | k :: r, d => deepP k d && deepL r d
end
mutual
def shapedP : Nd → Bool
  | .mk t b ks => tagB t && ((if kidB t then decide (b = []) else decide (ks.length = 0)) && shapedL ks)
def shapedL : List Nd → Bool
  | [] => true
  | k :: r => shapedP k && shapedL r
end
def byteN (n : Nat) : UInt8 := UInt8.ofNat n
def lenB (n : Nat) : Bs := if n < 128 then [byteN n] else if n < 256 then [byteN 129, byteN n] else [byteN 130, byteN (n / 256), byteN (n % 256)]
def pieceB (t : Int) (c : Bs) : Option Bs := if 4000 < c.length then none else some (byteN t.toNat :: (lenB c.length ++ c))
mutual
def wrP : Nd → Option Bs
  | .mk t b ks => match wrL ks with
    | none => none
    | some c => pieceB t (b ++ c)
def wrL : List Nd → Option Bs
  | [] => some []
  | k :: r => match wrP k with
    | none => none
    | some a => match wrL r with
      | none => none
      | some c => some (a ++ c)
end
/-- What is written, or the error. -/
def encP (n : Nd) : Bs × Int := if deepP n 8 = false then ([], 91) else if shapedP n = false then ([], 90) else match wrP n with
  | none => ([], 2)
  | some b => (b, 0)
/-- Tag, content's length, head's length, error. -/
def headP : Bs → Int × Nat × Nat × Int
  | [] => (0, 0, 0, 92)
  | [a] => if tagB a.toNat = false then (0, 0, 0, 90) else (0, 0, 0, 92)
  | a :: b :: r => if tagB a.toNat = false then (0, 0, 0, 90) else if b.toNat < 128 then (a.toNat, b.toNat, 2, 0)
    else if b.toNat = 129 then (match r with
      | [] => (0, 0, 0, 92)
      | c :: _ => if c.toNat < 128 then (0, 0, 0, 90) else (a.toNat, c.toNat, 3, 0))
    else if b.toNat = 130 then (match r with
      | c :: d :: _ => if c.toNat = 0 then (0, 0, 0, 90) else if 4000 < 256 * c.toNat + d.toNat then (0, 0, 0, 2) else (a.toNat, 256 * c.toNat + d.toNat, 4, 0)
      | _ => (0, 0, 0, 92))
    else (0, 0, 0, 90)
/-- A piece and how many bytes it has, or an error. -/
abbrev Rs := Except Int (Nd × Nat)
def kidsP (f : Bs → Rs) : Nat → Bs → Except Int (List Nd)
  | _, [] => .ok []
  | 0, _ :: _ => .ok []
  | n + 1, c :: s => match f (c :: s) with
    | .error e => .error (if e = 92 then 90 else e)
    | .ok (k, u) => match kidsP f n ((c :: s).drop u) with
      | .error e => .error e
      | .ok r => .ok (k :: r)
def rdP : Nat → Bs → Rs
  | 0, _ => .error 91
  | d + 1, s => match headP s with
    | (tag, content, head, e) => if e ≠ 0 then .error e else if s.length < head + content then .error 92 else
      if kidB tag = false then .ok (.mk tag ((s.drop head).take content) [], head + content) else
      match kidsP (rdP d) content ((s.drop head).take content) with
      | .error e => .error e
      | .ok ks => .ok (.mk tag [] ks, head + content)
def decP (s : Bs) : Nd × Nat × Int := match rdP 8 s with
  | .error e => (default, 0, e)
  | .ok (n, u) => (n, u, 0)
/-! Heads. -/
theorem byteN_toNat {n : Nat} (h : n < 256) : (byteN n).toNat = n := by
  unfold byteN
  simp [UInt8.toNat_ofNat']
  omega
theorem byteN_of (a : UInt8) : byteN a.toNat = a := by
  unfold byteN
  simp
theorem u8_lt (a : UInt8) : a.toNat < 256 := UInt8.toNat_lt a
theorem lenB_len (n : Nat) : (lenB n).length = if n < 128 then 1 else if n < 256 then 2 else 3 := by
  unfold lenB
  split
  · rfl
  · split <;> rfl
theorem tagB_nat {t : Int} (h : tagB t = true) : ∃ n : Nat, t = n ∧ n < 256 ∧ (byteN t.toNat).toNat = n := by
  simp only [tagB, Bool.and_eq_true, decide_eq_true_eq] at h
  obtain ⟨h1, h2, h3⟩ := h
  refine ⟨t.toNat, by omega, by omega, byteN_toNat (by omega)⟩
theorem head_write {t : Int} (ht : tagB t = true) {n : Nat} (hn : n ≤ 4000) (x : Bs) : headP (byteN t.toNat :: (lenB n ++ x)) = (t, n, 1 + (lenB n).length, 0) := by
  obtain ⟨m, rfl, h1, h2⟩ := tagB_nat ht
  rw [Int.toNat_natCast] at h2
  unfold lenB
  by_cases c1 : n < 128
  · rw [if_pos c1]
    have e1 := byteN_toNat (n := n) (by omega)
    simp [headP, h2, e1, ht, c1]
  · rw [if_neg c1]
    by_cases c2 : n < 256
    · rw [if_pos c2]
      have e1 := byteN_toNat (n := n) (by omega)
      have e2 : (byteN 129).toNat = 129 := rfl
      simp [headP, h2, e1, e2, ht, c1]
    · rw [if_neg c2]
      have e1 := byteN_toNat (n := n / 256) (by omega)
      have e3 := byteN_toNat (n := n % 256) (by omega)
      have e2 : (byteN 130).toNat = 130 := rfl
      have e4 : 256 * (n / 256) + n % 256 = n := by omega
      have e5 : ¬ (n / 256 = 0) := by omega
      have e6 : ¬ (4000 < n) := by omega
      simp [headP, h2, e1, e2, e3, e4, e5, e6, ht]
theorem head_cut {t : Int} (ht : tagB t = true) {n : Nat} (hn : n ≤ 4000) (x : Bs) {k : Nat} (hk : k < 1 + (lenB n).length) : headP ((byteN t.toNat :: (lenB n ++ x)).take k) = (0, 0, 0, 92) := by
  obtain ⟨m, rfl, h1, h2⟩ := tagB_nat ht
  rw [Int.toNat_natCast] at h2
  unfold lenB at hk ⊢
  by_cases c1 : n < 128
  · rw [if_pos c1] at hk ⊢
    have hk : k < 2 := hk
    match k, hk with
    | 0, _ => rfl
    | 1, _ => simp [headP, h2, ht]
  · rw [if_neg c1] at hk ⊢
    by_cases c2 : n < 256
    · rw [if_pos c2] at hk ⊢
      have e2 : (byteN 129).toNat = 129 := rfl
      have hk : k < 3 := hk
      match k, hk with
      | 0, _ => rfl
      | 1, _ => simp [headP, h2, ht]
      | 2, _ => simp [headP, h2, ht, e2]
    · rw [if_neg c2] at hk ⊢
      have e2 : (byteN 130).toNat = 130 := rfl
      have hk : k < 4 := hk
      match k, hk with
      | 0, _ => rfl
      | 1, _ => simp [headP, h2, ht]
      | 2, _ => simp [headP, h2, ht, e2]
      | 3, _ => simp [headP, h2, ht, e2]
/-- What a head says is what would be written. -/
theorem head_read {s : Bs} {t : Int} {n h : Nat} (e : headP s = (t, n, h, 0)) : tagB t = true ∧ n ≤ 4000 ∧ h = 1 + (lenB n).length ∧ h ≤ s.length ∧ s.take h = byteN t.toNat :: lenB n := by
  rcases s with _ | ⟨a, _ | ⟨b, r⟩⟩
  · simp [headP] at e
  · simp only [headP] at e
    split at e <;> simp at e
  · have hb := u8_lt b
    simp only [headP] at e
    split at e
    · simp at e
    rename_i ht
    have ht : tagB a.toNat = true := by simpa using ht
    split at e
    · rename_i c1
      simp only [Prod.mk.injEq] at e
      obtain ⟨rfl, rfl, rfl, _⟩ := e
      have hl : lenB b.toNat = [b] := by unfold lenB; rw [if_pos c1, byteN_of]
      refine ⟨ht, by omega, by rw [hl]; rfl, by simp, ?_⟩
      rw [hl, Int.toNat_natCast, byteN_of]; rfl
    · rename_i c1
      split at e
      · rename_i c2
        rcases r with _ | ⟨c, r⟩
        · simp at e
        · have hc := u8_lt c
          simp only at e
          split at e
          · simp at e
          · rename_i c3
            simp only [Prod.mk.injEq] at e
            obtain ⟨rfl, rfl, rfl, _⟩ := e
            have hl : lenB c.toNat = [b, c] := by
              unfold lenB
              rw [if_neg c3, if_pos hc, byteN_of, ← c2, byteN_of]
            refine ⟨ht, by omega, by rw [hl]; rfl, by simp, ?_⟩
            rw [hl, Int.toNat_natCast, byteN_of]; rfl
      · split at e
        · rename_i c2
          rcases r with _ | ⟨c, _ | ⟨d, r⟩⟩
          · simp at e
          · simp at e
          · have hc := u8_lt c
            have hd := u8_lt d
            simp only at e
            split at e
            · simp at e
            · rename_i c3
              split at e
              · simp at e
              · rename_i c4
                simp only [Prod.mk.injEq] at e
                obtain ⟨rfl, rfl, rfl, _⟩ := e
                have hl : lenB (256 * c.toNat + d.toNat) = [b, c, d] := by
                  unfold lenB
                  rw [if_neg (by omega), if_neg (by omega), ← c2, byteN_of, show (256 * c.toNat + d.toNat) / 256 = c.toNat by omega, show (256 * c.toNat + d.toNat) % 256 = d.toNat by omega, byteN_of, byteN_of]
                refine ⟨ht, by omega, by rw [hl]; rfl, by simp, ?_⟩
                rw [hl, Int.toNat_natCast, byteN_of]; rfl
        · simp at e
theorem piece_some {t : Int} {c b : Bs} (h : pieceB t c = some b) : c.length ≤ 4000 ∧ b = byteN t.toNat :: (lenB c.length ++ c) := by
  unfold pieceB at h
  split at h
  · cases h
  · exact ⟨by omega, (Option.some.inj h).symm⟩
theorem rd_piece {t : Int} (ht : tagB t = true) {c : Bs} (hc : c.length ≤ 4000) (x : Bs) (d : Nat) : rdP (d + 1) (byteN t.toNat :: (lenB c.length ++ c) ++ x) = if kidB t = false then .ok (.mk t c [], 1 + (lenB c.length).length + c.length) else
      match kidsP (rdP d) c.length c with
      | .error e => .error e
      | .ok ks => .ok (.mk t [] ks, 1 + (lenB c.length).length + c.length) := by
  have e0 : byteN t.toNat :: (lenB c.length ++ c) ++ x = byteN t.toNat :: (lenB c.length ++ (c ++ x)) := by simp
  rw [e0, rdP, head_write ht hc]
  simp only [ne_eq, not_true_eq_false, if_false]
  rw [if_neg (by simp; omega)]
  have e1 : ((byteN t.toNat :: (lenB c.length ++ (c ++ x))).drop (1 + (lenB c.length).length)).take c.length = c := by
    rw [Nat.add_comm, List.drop_succ_cons, List.drop_left, List.take_left]
  rw [e1]
theorem wr_some {t : Int} {b0 : Bs} {ks : List Nd} {b : Bs} (h : wrP (.mk t b0 ks) = some b) : ∃ c, wrL ks = some c ∧ (b0 ++ c).length ≤ 4000 ∧ b = byteN t.toNat :: (lenB (b0 ++ c).length ++ (b0 ++ c)) := by
  simp only [wrP] at h
  cases hc : wrL ks with
  | none => rw [hc] at h; cases h
  | some c =>
    rw [hc] at h
    exact ⟨c, rfl, piece_some h⟩
mutual
/-- What was written is read. -/
theorem rd_wr : ∀ (n : Nd) (d : Nat) (b x : Bs), deepP n d = true → shapedP n = true → wrP n = some b → rdP d (b ++ x) = .ok (n, b.length)
  | .mk t b0 ks, 0, b, x, hd, _, _ => by simp [deepP] at hd
  | .mk t b0 ks, d + 1, b, x, hd, hs, hw => by
    obtain ⟨c, h1, h2, rfl⟩ := wr_some hw
    simp only [shapedP, Bool.and_eq_true] at hs
    obtain ⟨hs1, hs2, hs3⟩ := hs
    simp only [deepP] at hd
    rw [rd_piece hs1 h2]
    have hl : (byteN t.toNat :: (lenB (b0 ++ c).length ++ (b0 ++ c))).length = 1 + (lenB (b0 ++ c).length).length + (b0 ++ c).length := by simp; omega
    rw [hl]
    cases hk : kidB t with
    | false =>
      rw [hk] at hs2
      have : ks = [] := List.eq_nil_of_length_eq_zero (by simpa using hs2)
      subst this
      have : c = [] := by simp [wrL] at h1; exact h1
      subst this
      simp
    | true =>
      rw [hk] at hs2
      have : b0 = [] := by simpa using hs2
      subst this
      simp only [List.nil_append]
      rw [kids_wr ks d c c.length hd hs3 h1 (Nat.le_refl _)]
      rfl
theorem kids_wr : ∀ (ks : List Nd) (d : Nat) (c : Bs) (m : Nat), deepL ks d = true → shapedL ks = true → wrL ks = some c → c.length ≤ m → kidsP (rdP d) m c = .ok ks
  | [], d, c, m, _, _, hw, _ => by
    simp [wrL] at hw
    subst hw
    cases m <;> rfl
  | k :: r, d, c, m, hd, hs, hw, hm => by
    simp only [deepL, Bool.and_eq_true] at hd
    simp only [shapedL, Bool.and_eq_true] at hs
    simp only [wrL] at hw
    cases ha : wrP k with
    | none => rw [ha] at hw; cases hw
    | some a =>
      rw [ha] at hw
      simp only at hw
      cases hr : wrL r with
      | none => rw [hr] at hw; cases hw
      | some c2 =>
        rw [hr] at hw
        have hw : a ++ c2 = c := Option.some.inj hw
        subst hw
        have hk := rd_wr k d a c2 hd.1 hs.1 ha
        obtain ⟨t, b0, ks0⟩ := k
        obtain ⟨c3, _, _, rfl⟩ := wr_some ha
        match m, hm with
        | m + 1, hm =>
          have hm2 : c2.length ≤ m := by simp at hm; omega
          have ih := kids_wr r d c2 m hd.2 hs.2 hr hm2
          simp only [List.cons_append] at hk ⊢
          rw [kidsP, hk]
          simp only
          have e3 : byteN t.toNat :: (lenB (b0 ++ c3).length ++ (b0 ++ c3) ++ c2) = (byteN t.toNat :: (lenB (b0 ++ c3).length ++ (b0 ++ c3))) ++ c2 := rfl
          rw [e3, List.drop_left, ih]
end
/-- What was read is written as it was. -/
theorem wr_rd : ∀ (d : Nat) (s : Bs) (n : Nd) (u : Nat), rdP d s = .ok (n, u) → deepP n d = true ∧ shapedP n = true ∧ 2 ≤ u ∧ u ≤ s.length ∧ wrP n = some (s.take u)
  | 0, s, n, u, h => by cases h
  | d + 1, s, n, u, h => by
    have ih := wr_rd d
    have kids : ∀ (m : Nat) (c : Bs) (ks : List Nd), c.length ≤ m → kidsP (rdP d) m c = .ok ks → deepL ks d = true ∧ shapedL ks = true ∧ wrL ks = some c := by
      intro m
      induction m with
      | zero =>
        intro c ks hm h
        have : c = [] := List.eq_nil_of_length_eq_zero (by omega)
        subst this
        cases h
        exact ⟨rfl, rfl, rfl⟩
      | succ m ihm =>
        intro c ks hm h
        match c with
        | [] => cases h; exact ⟨rfl, rfl, rfl⟩
        | a :: c =>
          simp only [kidsP] at h
          cases hf : rdP d (a :: c) with
          | error e => rw [hf] at h; cases h
          | ok p =>
            obtain ⟨k, u⟩ := p
            rw [hf] at h
            simp only at h
            obtain ⟨i1, i2, i3, i4, i5⟩ := ih _ _ _ hf
            cases hr : kidsP (rdP d) m ((a :: c).drop u) with
            | error e => rw [hr] at h; cases h
            | ok r =>
              rw [hr] at h
              cases h
              obtain ⟨j1, j2, j3⟩ := ihm _ _ (by simp at hm i4 ⊢; omega) hr
              refine ⟨by simp [deepL, i1, j1], by simp [shapedL, i2, j2], ?_⟩
              simp only [wrL, i5, j3, List.take_append_drop]
    simp only [rdP] at h
    rcases hh : headP s with ⟨t, c, hd, e⟩
    rw [hh] at h
    simp only at h
    split at h
    · cases h
    rename_i he
    have he : e = 0 := by simpa using he
    subst he
    obtain ⟨k1, k2, k3, k4, k5⟩ := head_read hh
    split at h
    · cases h
    rename_i hlen
    have e1 : ((s.drop hd).take c).length = c := by rw [List.length_take, List.length_drop]; omega
    have e2 : s.take (hd + c) = byteN t.toNat :: (lenB c ++ (s.drop hd).take c) := by
      rw [List.take_add, k5]; rfl
    have e3 : 2 ≤ hd := by rw [k3, lenB_len]; split <;> (try split) <;> omega
    cases hk : kidB t with
    | false =>
      rw [hk] at h
      simp only [if_true] at h
      cases h
      refine ⟨rfl, by simp [shapedP, k1, hk, shapedL], by omega, by omega, ?_⟩
      simp only [wrP, wrL, List.append_nil, pieceB]
      rw [if_neg (by omega), e1, e2]
    | true =>
      rw [hk] at h
      simp only [Bool.true_eq_false, if_false] at h
      cases hr : kidsP (rdP d) c ((s.drop hd).take c) with
      | error e => rw [hr] at h; cases h
      | ok ks =>
        rw [hr] at h
        cases h
        obtain ⟨j1, j2, j3⟩ := kids c _ ks (by omega) hr
        refine ⟨j1, by simp [shapedP, k1, hk, j2], by omega, by omega, ?_⟩
        simp only [wrP, j3, List.nil_append, pieceB]
        rw [if_neg (by omega), e1, e2]
/-- A piece cut off asks for more. -/
theorem rd_cut {n : Nd} {b : Bs} (hs : shapedP n = true) (hw : wrP n = some b) (d k : Nat) (hk : k < b.length) : rdP (d + 1) (b.take k) = .error 92 := by
  obtain ⟨t, b0, ks⟩ := n
  obtain ⟨c, h1, h2, rfl⟩ := wr_some hw
  simp only [shapedP, Bool.and_eq_true] at hs
  rw [rdP]
  by_cases c1 : k < 1 + (lenB (b0 ++ c).length).length
  · rw [head_cut hs.1 h2 _ c1]
    rfl
  · obtain ⟨j, rfl⟩ : ∃ j, k = 1 + (lenB (b0 ++ c).length).length + j := ⟨k - (1 + (lenB (b0 ++ c).length).length), by omega⟩
    have e : (byteN t.toNat :: (lenB (b0 ++ c).length ++ (b0 ++ c))).take (1 + (lenB (b0 ++ c).length).length + j) = byteN t.toNat :: (lenB (b0 ++ c).length ++ (b0 ++ c).take j) := by
      rw [show 1 + (lenB (b0 ++ c).length).length + j = ((lenB (b0 ++ c).length).length + j) + 1 by omega, List.take_succ_cons, List.take_append, List.take_of_length_le (by omega)]
      simp
    rw [e, head_write hs.1 h2]
    simp only [ne_eq, not_true_eq_false, if_false]
    rw [if_pos]
    have hk2 : j < (b0 ++ c).length := by simp at hk ⊢; omega
    rw [List.length_cons, List.length_append, List.length_take]
    omega
theorem dec_enc {n : Nd} {b : Bs} (h : encP n = (b, 0)) (x : Bs) : decP (b ++ x) = (n, b.length, 0) := by
  unfold encP at h
  split at h
  · simp at h
  rename_i h1
  split at h
  · simp at h
  rename_i h2
  cases hw : wrP n with
  | none => rw [hw] at h; simp at h
  | some c =>
    rw [hw] at h
    have : c = b := by simpa using h
    subst this
    unfold decP
    rw [rd_wr n 8 c x (by simpa using h1) (by simpa using h2) hw]
theorem enc_ok {n : Nd} {b : Bs} {e : Int} (h : encP n = (b, e)) (he : e = 0) : deepP n 8 = true ∧ shapedP n = true ∧ wrP n = some b := by
  subst he
  unfold encP at h
  split at h
  · simp at h
  rename_i h1
  split at h
  · simp at h
  rename_i h2
  cases hw : wrP n with
  | none => rw [hw] at h; simp at h
  | some c =>
    rw [hw] at h
    have : c = b := by simpa using h
    subst this
    exact ⟨by simpa using h1, by simpa using h2, rfl⟩
theorem enc_no {n : Nd} {b : Bs} {e : Int} (h : encP n = (b, e)) (he : e ≠ 0) : b = [] := by
  unfold encP at h
  split at h
  · simp at h; exact h.1
  split at h
  · simp at h; exact h.1
  split at h
  · simp at h; exact h.1
  · simp at h; exact absurd h.2.symm he
theorem enc_dec {s : Bs} {n : Nd} {u : Nat} (h : decP s = (n, u, 0)) : 2 ≤ u ∧ u ≤ s.length ∧ encP n = (s.take u, 0) := by
  unfold decP at h
  cases hr : rdP 8 s with
  | error e =>
    rw [hr] at h
    simp only [Prod.mk.injEq] at h
    obtain ⟨_, _, rfl⟩ := h
    exfalso
    exact rd_err0 8 s hr
  | ok p =>
    obtain ⟨m, v⟩ := p
    rw [hr] at h
    simp only [Prod.mk.injEq] at h
    obtain ⟨rfl, rfl, _⟩ := h
    obtain ⟨h1, h2, h3, h4, h5⟩ := wr_rd 8 s _ _ hr
    refine ⟨h3, h4, ?_⟩
    unfold encP
    rw [h1, h2, h5]
    rfl
where
  rd_err0 : ∀ (d : Nat) (s : Bs), rdP d s = .error 0 → False
    | 0, s, h => by cases h
    | d + 1, s, h => by
      have kids : ∀ (m : Nat) (c : Bs), kidsP (rdP d) m c = .error 0 → False := by
        intro m
        induction m with
        | zero => intro c h; cases c <;> cases h
        | succ m ihm =>
          intro c h
          match c with
          | [] => cases h
          | a :: c =>
            simp only [kidsP] at h
            cases hf : rdP d (a :: c) with
            | error e =>
              rw [hf] at h
              simp only [Except.error.injEq] at h
              split at h
              · simp at h
              · subst h; exact rd_err0 d _ hf
            | ok p =>
              obtain ⟨k, u⟩ := p
              rw [hf] at h
              simp only at h
              cases hr : kidsP (rdP d) m ((a :: c).drop u) with
              | error e => rw [hr] at h; cases h; exact ihm _ hr
              | ok r => rw [hr] at h; cases h
      simp only [rdP] at h
      rcases hh : headP s with ⟨t, c, hd, e⟩
      rw [hh] at h
      simp only at h
      split at h
      · rename_i he
        cases h
        exact he rfl
      split at h
      · simp at h
      split at h
      · cases h
      · cases hr : kidsP (rdP d) c ((s.drop hd).take c) with
        | error e => rw [hr] at h; cases h; exact kids _ _ hr
        | ok ks => rw [hr] at h; cases h
theorem dec_cut {n : Nd} {b : Bs} (h : encP n = (b, 0)) {k : Nat} (hk : k < b.length) : decP (b.take k) = (default, 0, 92) := by
  obtain ⟨_, h2, h3⟩ := enc_ok h rfl
  unfold decP
  rw [rd_cut h2 h3 7 k hk]
end Go.Proofs.Ytbojbofakmihmaa.Bp
