/- The log on the heap of the mind: a region's records are read. By this session. -/
import Derived.Test.YtilmfhpoiejmfaaGm
namespace Go.Proofs.Ytilmfhpoiejmfaa.Gk
open Go.Proofs.Ytilmfhpoiejmfaa.Lh Go.RowKit Go.Proofs.Ytilmfhpoiejmfaa.Lg
open Go.Proofs.Ytilmfhpoiejmfaa.Dk (Disk Sec nought diskR wrE wrD flE flD rdE hasB secV bytesV byteR writeR' read' flush' sectors' wrD_pend)
set_option maxRecDepth 100000
set_option linter.unusedSimpArgs false
set_option linter.unusedSectionVars false
set_option linter.unusedVariables false
variable [Fz]
def strS (l : List Lg.Bs) (i : Nat) : Segs := .one (.str (bs (l.getD i []))) .nil
def strsV (l : List Lg.Bs) : LVal := .rsl l.length 1 (strS l)
def strO (l : List Lg.Bs) : Option LObj := some ⟨.rows l.length 1 (strS l) .nil, 9, true, false⟩
/-- What stands at a region's places. -/
def At (x : Disk) (first count : Nat) (F : Nat → F8) : Prop := first + count ≤ x.now.length ∧ ∀ p, p < count → x.now.getD (first + p) nought = toS (F p) ∧ ∀ i, F p i < 256
theorem rdE_ok {x : Disk} {n : Nat} (h0 : x.down = false) (h : n < x.now.length) : rdE x (n : Int) = 0 := by
  unfold rdE
  rw [if_neg (by rw [h0]; decide), if_pos (by unfold hasB; rw [show decide ((n : Int) ≥ 0) = true from decide_eq_true (by omega), Bool.true_and]; exact decide_eq_true (by omega))]
theorem neqN (a b : Nat) : ((a : Int) != (b : Int)) = !decide (a = b) := by
  by_cases h : a = b
  · subst h; simp
  · rw [show decide (a = b) = false from decide_eq_false h]
    exact bne_iff_ne.2 (by omega)
theorem and8 {x : Nat} (hx : x < 4) (m : Int) (hm : m = 1 ∨ m = 2) : IntKind.u8.wrap ((BitVec.ofInt IntKind.u8.bits (x : Int) &&& BitVec.ofInt IntKind.u8.bits m).toNat : Int) = (if m = 1 then ((x % 2 : Nat) : Int) else ((x / 2 * 2 : Nat) : Int)) := by
  rcases hm with rfl | rfl <;> (rcases (show x = 0 ∨ x = 1 ∨ x = 2 ∨ x = 3 by omega) with rfl | rfl | rfl | rfl <;> rfl)
theorem partStr (a : Lg.Bs) (g : Nat → Nat) (ln : Nat) : Lh.bytesOf (fun i => (fun i => if i < List.length a then bSeg8 (fB a) (0 + i) else bSeg8 g (i - List.length a)) (0 + i)) (List.length a + ln) = bs (a ++ (List.range ln).map fun i => UInt8.ofNat (g i)) := by
  unfold Lh.bytesOf bs
  congr 2
  refine List.ext_getElem (by simp) fun i h1 h2 => ?_
  simp only [List.getElem_map, List.getElem_range, Nat.zero_add]
  by_cases c : i < a.length
  · rw [if_pos c, List.getElem_append_left c]
    show UInt8.ofNat (((a.getD i 0).toNat : Int)).toNat = _
    rw [Int.toNat_natCast, List.getD_eq_getElem?_getD, List.getElem?_eq_getElem c]
    simp
  · rw [if_neg c, List.getElem_append_right (by omega)]
    show UInt8.ofNat ((g (i - a.length) : Int)).toNat = _
    rw [Int.toNat_natCast]
    simp
theorem part_row (a : Lg.Bs) (g : Nat → Nat) (ln : Nat) (hg : ∀ i, g i < 256) (i : Nat) (hi : i < a.length + ln) : shS 1000000 (frzAll [] []) (if i < a.length then bSeg8 (fB a) (0 + i) else bSeg8 g (i - a.length)) (bSeg8 (fB (a ++ (List.range ln).map fun i => UInt8.ofNat (g i))) i) := by
  refine sh_ite (fun c => ⟨⟨rfl, ?_⟩, trivial⟩) (fun c => ⟨⟨rfl, ?_⟩, trivial⟩)
  · show ((fB a (0 + i) : Nat) : Int) = ((fB _ i : Nat) : Int)
    unfold fB
    rw [Nat.zero_add, List.getD_eq_getElem?_getD, List.getD_eq_getElem?_getD, List.getElem?_append_left c]
  · show ((g (i - a.length) : Nat) : Int) = ((fB _ i : Nat) : Int)
    unfold fB
    rw [List.getD_eq_getElem?_getD, List.getElem?_append_right (by omega), List.getElem?_map, List.getElem?_range (by omega)]
    have := hg (i - a.length)
    simp only [Option.map_some, Option.getD_some]
    rw [UInt8.toNat_ofNat']
    omega
theorem rec_row (l : List Lg.Bs) (b : Lg.Bs) (i : Nat) (hi : i < l.length + 1) : shS 1000000 (frzAll [] []) (if i < l.length then strS l (0 + i) else if 0 + (i - l.length) = 0 then .one (.str (bs b)) .nil else .one (.str ⟨#[]⟩) .nil) (strS (l ++ [b]) i) := by
  refine sh_ite (fun c => ⟨?_, trivial⟩) (fun c => sh_ite (fun c2 => ⟨?_, trivial⟩) (fun c2 => ⟨?_, trivial⟩))
  · show bs (l.getD (0 + i) []) = bs ((l ++ [b]).getD i [])
    rw [Nat.zero_add, List.getD_eq_getElem?_getD, List.getD_eq_getElem?_getD, List.getElem?_append_left c]
  · show bs b = bs ((l ++ [b]).getD i [])
    rw [List.getD_eq_getElem?_getD, List.getElem?_append_right (by omega), show i - l.length = 0 by omega]
    rfl
  · omega
set_option maxHeartbeats 1000000 in
theorem read (τ : Nat) (x : Disk) (L : LgS) (ok : LgOk L) (hn : L.next = 1) (F : Nat → F8) (hF : At x L.first L.count F) (h0 : x.down = false) (most : Nat) (hm : most < 4294967296) : LCalls Try.prog 76 (.cons (.ptr ⟨1, [], 0⟩) (.cons (wN most) .nil)) [diskR τ x, lgO τ L] (fun e h' => e = .ret (.tup (.cons (strsV (rdL F L.epoch most (L.count - 1) 1 rd0).recs) (.cons (.int .i64 0) .nil))) ∧ h' = [diskR τ x, lgO τ { L with next := (rdL F L.epoch most (L.count - 1) 1 rd0).next }]) := by
  obtain ⟨k1, k2, k3, k4⟩ := ok
  have hL : L = { L with next := rd0.next } := by cases L; cases hn; rfl
  unfold wN
  refine LCalls.tellF ?_
  refine enter76 rfl ?_
  conv => whnf
  refine Loop.inv (lwp_mono _) (fun m t1 h => ∃ (p : Nat) (rs : RS), 1 ≤ p ∧ p ≤ L.count ∧ rdL F L.epoch most (L.count - 1) 1 rd0 = rdL F L.epoch most (L.count - p) p rs ∧ rs.part.length ≤ 48 * p ∧ rs.recs.length ≤ p ∧ rs.last < 4294967296 ∧ m = L.count - p ∧ t1 = [.ptr ⟨1, [], 0⟩, .int .u32 (most : Int), .any, .any, .any, .any, .slice ⟨2, [], 0⟩ 0 1 rs.recs.length rs.recs.length none, .slice ⟨3, [], 0⟩ 0 1 rs.part.length rs.part.length none, wN rs.last, .bool rs.inside, .int .i64 (p : Int), .any, .any, .any, .any, .any, .any, .any, .any, .any, .any, .any, .any, .any, .any, .any, .any, .any, .any, .any, .any, .any, .any, .any, .any, .any, .any, .any, .any, .any, .any, .any, .any, .any, .any, .any, .any, .any, .any, .any, .any, .any, .any, .any, .any, .any, .any, .any, .any, .any, .any, .any, .any, .any, .any, .any, .any, .any, .any, .any, .any, .any, .any, .any, .any, .any, .any, .any, .any, .any, .any, .any, .any, .any, .any, .any, .any, .any, .any, .any, .any, .any, .any, .any, .any, .any, .any, .any, .any, .any, .any, .any, .any, .any, .any, .any, .any, .any, .any, .any, .any, .any, .any, .any, .any, .any, .any, .any, .any, .any, .any, .any, .any, .any, .any, .any, .any, .any, .any, .any, .any] ∧ h = [diskR τ x, lgO τ { L with next := rs.next }, strO rs.recs, byO rs.part.length (fB rs.part)]) ?_ ?_
  · refine ⟨_, _, _, ⟨[], trivial, [0, 1, 98, 99], rfl, rfl, ?_, ?_⟩, 1, rd0, Nat.le_refl _, by omega, rfl, Nat.zero_le _, Nat.zero_le _, by decide, rfl, rfl, rfl⟩
    · (repeat' first | exact trivial | exact rfl | exact sh0 rfl | exact Nat.le_refl _ | exact .inl shA | exact .inr ⟨rfl, rfl, rfl, rfl, rfl⟩ | exact .inl shB | exact fun h => h | refine ⟨?_, ?_, ?_, .inl ?_⟩ | refine ⟨?_, ?_⟩ | refine fun ii hii => ?_ | omega | fail)
    · rw [← hL]
      (repeat' first | exact trivial | exact rfl | exact sh0 rfl | exact Nat.le_refl _ | exact .inl shA | exact .inr ⟨rfl, rfl, rfl, rfl, rfl⟩ | exact .inl shB | exact fun h => h | refine ⟨?_, ?_, ?_, .inl ?_⟩ | refine ⟨?_, ?_⟩ | refine fun ii hii => ?_ | omega | fail)
      all_goals exact ⟨rfl, trivial⟩
  · rintro m _ _ ⟨p, rs, hp1, hp, hrs, hpl, hrl, hla, rfl, rfl, rfl⟩
    rw [hrs]
    conv => whnf
    by_cases hpc : p < L.count
    · rewrite [show decide ((p : Int) < (L.count : Int)) = true from decide_eq_true (by omega)]
      have hread := read' τ x ((L.first + p : Nat) : Int)
      rw [rdE_ok h0 (by have := hF.1; omega), Int.toNat_natCast, (hF.2 p hpc).1] at hread
      have hf := (hF.2 p hpc).2
      have hrd : rdL F L.epoch most (L.count - p) p rs = if okS (F p) L.epoch most p rs.last rs.inside then rdL F L.epoch most (L.count - (p + 1)) (p + 1) (stepS (F p) p rs) else rs := by
        rw [show L.count - p = (L.count - (p + 1)) + 1 by omega, rdL]
      generalize hG : F p = f at hread hf hrd
      conv => whnf
      rewrite [w64 (n := (L.first : Int) + (p : Int)) (by omega), show (L.first : Int) + (p : Int) = ((L.first + p : Nat) : Int) by omega]
      refine .inl ⟨.tup (.cons (bV 64 f) (.cons (.int .i64 0) .nil)), [0], ⟨⟨_, _, _, hread, fun _ => rfl, fun _ => rfl, rfl, fun _ => ⟨rfl, trivial⟩, rfl⟩⟩, ?_⟩
      conv => whnf
      obtain ⟨e, m, pl, fl, ln, rb, g, hdec, hok, hst, hm8, hfl8, hln8, hby, hg⟩ : ∃ (e m pl fl ln : Nat) (rb : Bool) (g : Nat → Nat), LCalls Try.prog 74 (.cons (bV 64 f) .nil) [] (fun e' h' => e' = .ret (.tup (.cons (.agg (.one (.int .u32 (e : Int)) (.one (.int .u32 (m : Int)) (.one (.int .i64 (pl : Int)) (.one (.int .u8 (fl : Int)) (.one (.int .i64 (ln : Int)) (.one (bV (min ln 48) g) .nil))))))) (.cons (.bool rb) .nil))) ∧ h' = [])
          ∧ okS f L.epoch most p rs.last rs.inside = (rb && (e == L.epoch) && (pl == p) && decide (m ≤ most) && decide (fl ≤ 3) && decide (ln ≤ 48) && (rs.inside != (fl % 2 == 1)) && (if rs.inside then m == rs.last else decide (rs.last ≤ m)) && (fl / 2 == 1 || ln == 48))
          ∧ stepS f p rs = (if fl / 2 = 1 then ⟨rs.recs ++ [rs.part ++ bytesOf f], [], m, false, p + 1⟩ else ⟨rs.recs, rs.part ++ bytesOf f, m, true, rs.next⟩)
          ∧ m < 256 ^ 4 ∧ fl < 256 ∧ ln < 256 ∧ bytesOf f = ((List.range ln).map fun i => UInt8.ofNat (g i)) ∧ ∀ i, g i < 256 := ⟨leN f 4 4, leN f 8 4, leN f 12 2, f 14, f 15, rightB f, fun i => f (16 + i), decode f hf, rfl, rfl, leN_lt hf 8 4, hf 14, hf 15, rfl, fun i => hf _⟩
      obtain ⟨pt, hpt, hpt2, hptl, ptRow⟩ : ∃ pt : Lg.Bs, rs.part ++ bytesOf f = pt ∧ pt = rs.part ++ ((List.range ln).map fun i => UInt8.ofNat (g i)) ∧ pt.length = rs.part.length + ln ∧ ∀ i, i < rs.part.length + ln → shS 1000000 (frzAll [] []) (if i < rs.part.length then bSeg8 (fB rs.part) (0 + i) else bSeg8 g (i - rs.part.length)) (bSeg8 (fB pt) i) :=
        ⟨_, rfl, by rw [hby], by rw [hby]; simp, fun i hi => by rw [hby]; exact part_row rs.part g ln hg i hi⟩
      rw [hpt] at hst
      have hrl1 : (rs.recs ++ [pt]).length = rs.recs.length + 1 := by simp
      have recRow := rec_row rs.recs pt
      refine LCalls.use hdec [] rfl rfl trivial ?_
      rintro _ _ ⟨rfl, rfl⟩
      cases rb with
      | false =>
        have hno : ¬ (okS f L.epoch most p rs.last rs.inside = true) := by rw [hok]; simp
        conv => whnf
        rw [hrd, if_neg hno]
        conv => whnf
        refine ⟨[(2, rs.recs.length, 1, strS rs.recs)], ⟨⟨rfl, Nat.le_refl _, rfl, fun i hi => ⟨rfl, trivial⟩⟩, rfl, trivial⟩, [0, 1], _, _, rfl, rfl, ?_, ?_, rfl, rfl⟩
        · (repeat' first | exact trivial | exact rfl | exact sh0 rfl | exact Nat.le_refl _ | exact .inl shA | exact .inr ⟨rfl, rfl, rfl, rfl, rfl⟩ | exact .inl shB | exact fun h => h | refine ⟨?_, ?_, ?_, .inl ?_⟩ | refine ⟨?_, ?_⟩ | refine fun ii hii => ?_ | omega | fail)
          exact .inr ⟨rfl, rfl, rfl, rfl, rfl, by simp, fun i hi => by show strS rs.recs (offs 0 i) = strS rs.recs i; rfl⟩
        · (repeat' first | exact trivial | exact rfl | exact sh0 rfl | exact Nat.le_refl _ | exact .inl shA | exact .inr ⟨rfl, rfl, rfl, rfl, rfl⟩ | exact .inl shB | exact fun h => h | refine ⟨?_, ?_, ?_, .inl ?_⟩ | refine ⟨?_, ?_⟩ | refine fun ii hii => ?_ | omega | fail)
      | true =>
      conv => whnf
      by_cases h2 : e = L.epoch
      case neg =>
        have hno : ¬ (okS f L.epoch most p rs.last rs.inside = true) := by rw [hok]; simp [h2]
        rewrite [show ((e : Int) != (L.epoch : Int)) = true from by rw [neqN, decide_eq_false h2]; rfl]
        conv => whnf
        rw [hrd, if_neg hno]
        conv => whnf
        refine ⟨[(2, rs.recs.length, 1, strS rs.recs)], ⟨⟨rfl, Nat.le_refl _, rfl, fun i hi => ⟨rfl, trivial⟩⟩, rfl, trivial⟩, [0, 1], _, _, rfl, rfl, ?_, ?_, rfl, rfl⟩
        · (repeat' first | exact trivial | exact rfl | exact sh0 rfl | exact Nat.le_refl _ | exact .inl shA | exact .inr ⟨rfl, rfl, rfl, rfl, rfl⟩ | exact .inl shB | exact fun h => h | refine ⟨?_, ?_, ?_, .inl ?_⟩ | refine ⟨?_, ?_⟩ | refine fun ii hii => ?_ | omega | fail)
          exact .inr ⟨rfl, rfl, rfl, rfl, rfl, by simp, fun i hi => by show strS rs.recs (offs 0 i) = strS rs.recs i; rfl⟩
        · (repeat' first | exact trivial | exact rfl | exact sh0 rfl | exact Nat.le_refl _ | exact .inl shA | exact .inr ⟨rfl, rfl, rfl, rfl, rfl⟩ | exact .inl shB | exact fun h => h | refine ⟨?_, ?_, ?_, .inl ?_⟩ | refine ⟨?_, ?_⟩ | refine fun ii hii => ?_ | omega | fail)
      rewrite [show ((e : Int) != (L.epoch : Int)) = false from by rw [neqN, decide_eq_true h2]; rfl]
      conv => whnf
      by_cases h3 : pl = p
      case neg =>
        have hno : ¬ (okS f L.epoch most p rs.last rs.inside = true) := by rw [hok]; simp [h3]
        rewrite [show ((pl : Int) != (p : Int)) = true from by rw [neqN, decide_eq_false h3]; rfl]
        conv => whnf
        rw [hrd, if_neg hno]
        conv => whnf
        refine ⟨[(2, rs.recs.length, 1, strS rs.recs)], ⟨⟨rfl, Nat.le_refl _, rfl, fun i hi => ⟨rfl, trivial⟩⟩, rfl, trivial⟩, [0, 1], _, _, rfl, rfl, ?_, ?_, rfl, rfl⟩
        · (repeat' first | exact trivial | exact rfl | exact sh0 rfl | exact Nat.le_refl _ | exact .inl shA | exact .inr ⟨rfl, rfl, rfl, rfl, rfl⟩ | exact .inl shB | exact fun h => h | refine ⟨?_, ?_, ?_, .inl ?_⟩ | refine ⟨?_, ?_⟩ | refine fun ii hii => ?_ | omega | fail)
          exact .inr ⟨rfl, rfl, rfl, rfl, rfl, by simp, fun i hi => by show strS rs.recs (offs 0 i) = strS rs.recs i; rfl⟩
        · (repeat' first | exact trivial | exact rfl | exact sh0 rfl | exact Nat.le_refl _ | exact .inl shA | exact .inr ⟨rfl, rfl, rfl, rfl, rfl⟩ | exact .inl shB | exact fun h => h | refine ⟨?_, ?_, ?_, .inl ?_⟩ | refine ⟨?_, ?_⟩ | refine fun ii hii => ?_ | omega | fail)
      rewrite [show ((pl : Int) != (p : Int)) = false from by rw [neqN, decide_eq_true h3]; rfl]
      conv => whnf
      by_cases h4 : m ≤ most
      case neg =>
        have hno : ¬ (okS f L.epoch most p rs.last rs.inside = true) := by rw [hok]; simp [h4]
        rewrite [show decide ((m : Int) > (most : Int)) = true from decide_eq_true (by omega)]
        conv => whnf
        rw [hrd, if_neg hno]
        conv => whnf
        refine ⟨[(2, rs.recs.length, 1, strS rs.recs)], ⟨⟨rfl, Nat.le_refl _, rfl, fun i hi => ⟨rfl, trivial⟩⟩, rfl, trivial⟩, [0, 1], _, _, rfl, rfl, ?_, ?_, rfl, rfl⟩
        · (repeat' first | exact trivial | exact rfl | exact sh0 rfl | exact Nat.le_refl _ | exact .inl shA | exact .inr ⟨rfl, rfl, rfl, rfl, rfl⟩ | exact .inl shB | exact fun h => h | refine ⟨?_, ?_, ?_, .inl ?_⟩ | refine ⟨?_, ?_⟩ | refine fun ii hii => ?_ | omega | fail)
          exact .inr ⟨rfl, rfl, rfl, rfl, rfl, by simp, fun i hi => by show strS rs.recs (offs 0 i) = strS rs.recs i; rfl⟩
        · (repeat' first | exact trivial | exact rfl | exact sh0 rfl | exact Nat.le_refl _ | exact .inl shA | exact .inr ⟨rfl, rfl, rfl, rfl, rfl⟩ | exact .inl shB | exact fun h => h | refine ⟨?_, ?_, ?_, .inl ?_⟩ | refine ⟨?_, ?_⟩ | refine fun ii hii => ?_ | omega | fail)
      rewrite [show decide ((m : Int) > (most : Int)) = false from decide_eq_false (by omega)]
      conv => whnf
      by_cases h5 : fl ≤ 3
      case neg =>
        have hno : ¬ (okS f L.epoch most p rs.last rs.inside = true) := by rw [hok]; simp [h5]
        rewrite [show decide ((fl : Int) > 3) = true from decide_eq_true (by omega)]
        conv => whnf
        rw [hrd, if_neg hno]
        conv => whnf
        refine ⟨[(2, rs.recs.length, 1, strS rs.recs)], ⟨⟨rfl, Nat.le_refl _, rfl, fun i hi => ⟨rfl, trivial⟩⟩, rfl, trivial⟩, [0, 1], _, _, rfl, rfl, ?_, ?_, rfl, rfl⟩
        · (repeat' first | exact trivial | exact rfl | exact sh0 rfl | exact Nat.le_refl _ | exact .inl shA | exact .inr ⟨rfl, rfl, rfl, rfl, rfl⟩ | exact .inl shB | exact fun h => h | refine ⟨?_, ?_, ?_, .inl ?_⟩ | refine ⟨?_, ?_⟩ | refine fun ii hii => ?_ | omega | fail)
          exact .inr ⟨rfl, rfl, rfl, rfl, rfl, by simp, fun i hi => by show strS rs.recs (offs 0 i) = strS rs.recs i; rfl⟩
        · (repeat' first | exact trivial | exact rfl | exact sh0 rfl | exact Nat.le_refl _ | exact .inl shA | exact .inr ⟨rfl, rfl, rfl, rfl, rfl⟩ | exact .inl shB | exact fun h => h | refine ⟨?_, ?_, ?_, .inl ?_⟩ | refine ⟨?_, ?_⟩ | refine fun ii hii => ?_ | omega | fail)
      rewrite [show decide ((fl : Int) > 3) = false from decide_eq_false (by omega)]
      conv => whnf
      by_cases h6 : ln ≤ 48
      case neg =>
        have hno : ¬ (okS f L.epoch most p rs.last rs.inside = true) := by rw [hok]; simp [h6]
        rewrite [show decide ((ln : Int) > 48) = true from decide_eq_true (by omega)]
        conv => whnf
        rw [hrd, if_neg hno]
        conv => whnf
        refine ⟨[(2, rs.recs.length, 1, strS rs.recs)], ⟨⟨rfl, Nat.le_refl _, rfl, fun i hi => ⟨rfl, trivial⟩⟩, rfl, trivial⟩, [0, 1], _, _, rfl, rfl, ?_, ?_, rfl, rfl⟩
        · (repeat' first | exact trivial | exact rfl | exact sh0 rfl | exact Nat.le_refl _ | exact .inl shA | exact .inr ⟨rfl, rfl, rfl, rfl, rfl⟩ | exact .inl shB | exact fun h => h | refine ⟨?_, ?_, ?_, .inl ?_⟩ | refine ⟨?_, ?_⟩ | refine fun ii hii => ?_ | omega | fail)
          exact .inr ⟨rfl, rfl, rfl, rfl, rfl, by simp, fun i hi => by show strS rs.recs (offs 0 i) = strS rs.recs i; rfl⟩
        · (repeat' first | exact trivial | exact rfl | exact sh0 rfl | exact Nat.le_refl _ | exact .inl shA | exact .inr ⟨rfl, rfl, rfl, rfl, rfl⟩ | exact .inl shB | exact fun h => h | refine ⟨?_, ?_, ?_, .inl ?_⟩ | refine ⟨?_, ?_⟩ | refine fun ii hii => ?_ | omega | fail)
      rewrite [show decide ((ln : Int) > 48) = false from decide_eq_false (by omega)]
      conv => whnf
      have hf4 : fl < 4 := by omega
      have hq : ((((fl % 2 : Nat) : Int)) != 0) = (fl % 2 == 1) := by
        rcases (show fl = 0 ∨ fl = 1 ∨ fl = 2 ∨ fl = 3 by omega) with rfl | rfl | rfl | rfl <;> rfl
      have hq2 : ((((fl / 2 * 2 : Nat) : Int)) != 0) = (fl / 2 == 1) := by
        rcases (show fl = 0 ∨ fl = 1 ∨ fl = 2 ∨ fl = 3 by omega) with rfl | rfl | rfl | rfl <;> rfl
      have hq3 : ((((fl / 2 * 2 : Nat) : Int)) == 0) = !(fl / 2 == 1) := by
        rcases (show fl = 0 ∨ fl = 1 ∨ fl = 2 ∨ fl = 3 by omega) with rfl | rfl | rfl | rfl <;> rfl
      rewrite [and8 hf4 1 (.inl rfl), if_pos rfl, hq]
      by_cases h7 : (rs.inside == (fl % 2 == 1)) = false
      case neg =>
        have hno : ¬ (okS f L.epoch most p rs.last rs.inside = true) := by rw [hok]; simp [show rs.inside = (fl % 2 == 1) from by revert h7; cases rs.inside <;> cases (fl % 2 == 1) <;> simp]
        rewrite [show (rs.inside == (fl % 2 == 1)) = true from by revert h7; cases rs.inside == (fl % 2 == 1) <;> simp]
        conv => whnf
        rw [hrd, if_neg hno]
        conv => whnf
        refine ⟨[(2, rs.recs.length, 1, strS rs.recs)], ⟨⟨rfl, Nat.le_refl _, rfl, fun i hi => ⟨rfl, trivial⟩⟩, rfl, trivial⟩, [0, 1], _, _, rfl, rfl, ?_, ?_, rfl, rfl⟩
        · (repeat' first | exact trivial | exact rfl | exact sh0 rfl | exact Nat.le_refl _ | exact .inl shA | exact .inr ⟨rfl, rfl, rfl, rfl, rfl⟩ | exact .inl shB | exact fun h => h | refine ⟨?_, ?_, ?_, .inl ?_⟩ | refine ⟨?_, ?_⟩ | refine fun ii hii => ?_ | omega | fail)
          exact .inr ⟨rfl, rfl, rfl, rfl, rfl, by simp, fun i hi => by show strS rs.recs (offs 0 i) = strS rs.recs i; rfl⟩
        · (repeat' first | exact trivial | exact rfl | exact sh0 rfl | exact Nat.le_refl _ | exact .inl shA | exact .inr ⟨rfl, rfl, rfl, rfl, rfl⟩ | exact .inl shB | exact fun h => h | refine ⟨?_, ?_, ?_, .inl ?_⟩ | refine ⟨?_, ?_⟩ | refine fun ii hii => ?_ | omega | fail)
      rewrite [show (rs.inside == (fl % 2 == 1)) = false from h7]
      conv => whnf
      have hx7 : (rs.inside != (fl % 2 == 1)) = true := by revert h7; cases rs.inside <;> cases (fl % 2 == 1) <;> simp
      by_cases h8 : rs.last ≤ m
      case neg =>
        have hno : ¬ (okS f L.epoch most p rs.last rs.inside = true) := by
          rw [hok, show (if rs.inside then m == rs.last else decide (rs.last ≤ m)) = false from by cases rs.inside <;> simp <;> omega]; simp
        rewrite [show decide ((m : Int) < (rs.last : Int)) = true from decide_eq_true (by omega)]
        conv => whnf
        rw [hrd, if_neg hno]
        conv => whnf
        refine ⟨[(2, rs.recs.length, 1, strS rs.recs)], ⟨⟨rfl, Nat.le_refl _, rfl, fun i hi => ⟨rfl, trivial⟩⟩, rfl, trivial⟩, [0, 1], _, _, rfl, rfl, ?_, ?_, rfl, rfl⟩
        · (repeat' first | exact trivial | exact rfl | exact sh0 rfl | exact Nat.le_refl _ | exact .inl shA | exact .inr ⟨rfl, rfl, rfl, rfl, rfl⟩ | exact .inl shB | exact fun h => h | refine ⟨?_, ?_, ?_, .inl ?_⟩ | refine ⟨?_, ?_⟩ | refine fun ii hii => ?_ | omega | fail)
          exact .inr ⟨rfl, rfl, rfl, rfl, rfl, by simp, fun i hi => by show strS rs.recs (offs 0 i) = strS rs.recs i; rfl⟩
        · (repeat' first | exact trivial | exact rfl | exact sh0 rfl | exact Nat.le_refl _ | exact .inl shA | exact .inr ⟨rfl, rfl, rfl, rfl, rfl⟩ | exact .inl shB | exact fun h => h | refine ⟨?_, ?_, ?_, .inl ?_⟩ | refine ⟨?_, ?_⟩ | refine fun ii hii => ?_ | omega | fail)
      rewrite [show decide ((m : Int) < (rs.last : Int)) = false from decide_eq_false (by omega)]
      conv => whnf
      cases hin : rs.inside with
      | true =>
        conv => whnf
        by_cases h9 : m = rs.last
        case neg =>
          have hno : ¬ (okS f L.epoch most p rs.last rs.inside = true) := by rw [hok, hin]; simp [h9]
          rewrite [show ((m : Int) != (rs.last : Int)) = true from by rw [neqN, decide_eq_false h9]; rfl]
          conv => whnf
          rw [hrd, if_neg hno]
          conv => whnf
          refine ⟨[(2, rs.recs.length, 1, strS rs.recs)], ⟨⟨rfl, Nat.le_refl _, rfl, fun i hi => ⟨rfl, trivial⟩⟩, rfl, trivial⟩, [0, 1], _, _, rfl, rfl, ?_, ?_, rfl, rfl⟩
          · (repeat' first | exact trivial | exact rfl | exact sh0 rfl | exact Nat.le_refl _ | exact .inl shA | exact .inr ⟨rfl, rfl, rfl, rfl, rfl⟩ | exact .inl shB | exact fun h => h | refine ⟨?_, ?_, ?_, .inl ?_⟩ | refine ⟨?_, ?_⟩ | refine fun ii hii => ?_ | omega | fail)
            exact .inr ⟨rfl, rfl, rfl, rfl, rfl, by simp, fun i hi => by show strS rs.recs (offs 0 i) = strS rs.recs i; rfl⟩
          · (repeat' first | exact trivial | exact rfl | exact sh0 rfl | exact Nat.le_refl _ | exact .inl shA | exact .inr ⟨rfl, rfl, rfl, rfl, rfl⟩ | exact .inl shB | exact fun h => h | refine ⟨?_, ?_, ?_, .inl ?_⟩ | refine ⟨?_, ?_⟩ | refine fun ii hii => ?_ | omega | fail)
        rewrite [show ((m : Int) != (rs.last : Int)) = false from by rw [neqN, decide_eq_true h9]; rfl]
        have hx8 : (if rs.inside then m == rs.last else decide (rs.last ≤ m)) = true := by rw [hin]; simp [h9]
        conv => whnf
        rewrite [and8 hf4 2 (.inr rfl), if_neg (by decide), hq3]
        by_cases h10 : fl / 2 = 1
        case pos =>
          have hyes : okS f L.epoch most p rs.last rs.inside = true := by rw [hok, h2, h3, hx7, hx8]; simp [h4, h5, h6, h10]
          rewrite [show (!(fl / 2 == 1)) = false from by rw [h10]; rfl]
          rewrite [Nat.min_eq_left h6]
          conv => whnf
          refine ⟨by first | omega | (dsimp only; omega), ?_⟩
          conv => whnf
          rewrite [and8 hf4 2 (.inr rfl), if_neg (by decide), hq2, show (fl / 2 == 1) = true from by rw [h10]; rfl]
          conv => whnf
          refine ⟨by first | omega | (dsimp only; omega), ?_⟩
          conv => whnf
          refine ⟨fun i _ => by dsimp only; split <;> rfl, ?_⟩
          rewrite [partStr, ← hpt2]
          conv => whnf
          refine ⟨by first | omega | (dsimp only; omega), ?_⟩
          conv => whnf
          refine ⟨by first | omega | (dsimp only; omega), ?_⟩
          conv => whnf
          refine ⟨_, _, _, ?_, ⟨[], trivial, [0, 1, 10, 98], rfl, rfl, ?_, ?_⟩, p + 1, ⟨rs.recs ++ [pt], [], m, false, p + 1⟩, by omega, by omega, ?_, Nat.zero_le _, ?_, by dsimp only; omega, rfl, rfl, rfl⟩
          · omega
          · (repeat' first | exact trivial | exact rfl | exact sh0 rfl | exact Nat.le_refl _ | exact .inl shA | exact .inr ⟨rfl, rfl, rfl, rfl, rfl⟩ | exact .inl shB | exact fun h => h | refine ⟨?_, ?_, ?_, .inl ?_⟩ | refine ⟨?_, ?_⟩ | refine fun ii hii => ?_ | omega | fail)
            all_goals first
              | exact w64 (by omega)
              | exact .inl ⟨rfl, rfl, rfl, hrl1.symm, (by dsimp only; omega), (by dsimp only; omega), .inl rfl, Nat.le_of_ble_eq_true rfl⟩
          · (repeat' first | exact trivial | exact rfl | exact sh0 rfl | exact Nat.le_refl _ | exact .inl shA | exact .inr ⟨rfl, rfl, rfl, rfl, rfl⟩ | exact .inl shB | exact fun h => h | refine ⟨?_, ?_, ?_, .inl ?_⟩ | refine ⟨?_, ?_⟩ | refine fun ii hii => ?_ | omega | fail)
            all_goals first
              | exact w64 (by omega)
              | exact hrl1.symm
              | exact recRow ii hii
          · rw [hrd, if_pos hyes, hst, if_pos h10]
          · dsimp only
            omega
        case neg =>
          rewrite [show (!(fl / 2 == 1)) = true from by simp [h10]]
          conv => whnf
          by_cases h11 : ln = 48
          case neg =>
            have hno : ¬ (okS f L.epoch most p rs.last rs.inside = true) := by rw [hok]; simp [h10, h11]
            rewrite [show ((ln : Int) != 48) = true from by rw [show (48 : Int) = ((48 : Nat) : Int) from rfl, neqN, decide_eq_false h11]; rfl]
            conv => whnf
            rw [hrd, if_neg hno]
            conv => whnf
            refine ⟨[(2, rs.recs.length, 1, strS rs.recs)], ⟨⟨rfl, Nat.le_refl _, rfl, fun i hi => ⟨rfl, trivial⟩⟩, rfl, trivial⟩, [0, 1], _, _, rfl, rfl, ?_, ?_, rfl, rfl⟩
            · (repeat' first | exact trivial | exact rfl | exact sh0 rfl | exact Nat.le_refl _ | exact .inl shA | exact .inr ⟨rfl, rfl, rfl, rfl, rfl⟩ | exact .inl shB | exact fun h => h | refine ⟨?_, ?_, ?_, .inl ?_⟩ | refine ⟨?_, ?_⟩ | refine fun ii hii => ?_ | omega | fail)
              exact .inr ⟨rfl, rfl, rfl, rfl, rfl, by simp, fun i hi => by show strS rs.recs (offs 0 i) = strS rs.recs i; rfl⟩
            · (repeat' first | exact trivial | exact rfl | exact sh0 rfl | exact Nat.le_refl _ | exact .inl shA | exact .inr ⟨rfl, rfl, rfl, rfl, rfl⟩ | exact .inl shB | exact fun h => h | refine ⟨?_, ?_, ?_, .inl ?_⟩ | refine ⟨?_, ?_⟩ | refine fun ii hii => ?_ | omega | fail)
          have hyes : okS f L.epoch most p rs.last rs.inside = true := by rw [hok, h2, h3, hx7, hx8]; simp [h4, h5, h11]
          rewrite [show ((ln : Int) != 48) = false from by rw [show (48 : Int) = ((48 : Nat) : Int) from rfl, neqN, decide_eq_true h11]; rfl]
          rewrite [Nat.min_eq_left h6]
          conv => whnf
          refine ⟨by first | omega | (dsimp only; omega), ?_⟩
          conv => whnf
          rewrite [and8 hf4 2 (.inr rfl), if_neg (by decide), hq2, show (fl / 2 == 1) = false from by simp [h10]]
          conv => whnf
          refine ⟨_, _, _, ?_, ⟨[], trivial, [0, 1, 2, 8], rfl, rfl, ?_, ?_⟩, p + 1, ⟨rs.recs, pt, m, true, rs.next⟩, by omega, by omega, ?_, ?_, by dsimp only; omega, by dsimp only; omega, rfl, rfl, rfl⟩
          · omega
          · (repeat' first | exact trivial | exact rfl | exact sh0 rfl | exact Nat.le_refl _ | exact .inl shA | exact .inr ⟨rfl, rfl, rfl, rfl, rfl⟩ | exact .inl shB | exact fun h => h | refine ⟨?_, ?_, ?_, .inl ?_⟩ | refine ⟨?_, ?_⟩ | refine fun ii hii => ?_ | omega | fail)
            all_goals first
              | exact w64 (by omega)
              | exact .inl ⟨rfl, rfl, rfl, hptl.symm, (by dsimp only; omega), (by dsimp only; omega), .inl rfl, Nat.le_of_ble_eq_true rfl⟩
          · (repeat' first | exact trivial | exact rfl | exact sh0 rfl | exact Nat.le_refl _ | exact .inl shA | exact .inr ⟨rfl, rfl, rfl, rfl, rfl⟩ | exact .inl shB | exact fun h => h | refine ⟨?_, ?_, ?_, .inl ?_⟩ | refine ⟨?_, ?_⟩ | refine fun ii hii => ?_ | omega | fail)
            all_goals first
              | exact hptl.symm
              | exact ptRow ii hii
          · rw [hrd, if_pos hyes, hst, if_neg h10]
          · dsimp only
            omega
      | false =>
        have hx8 : (if rs.inside then m == rs.last else decide (rs.last ≤ m)) = true := by rw [hin]; simp [h8]
        conv => whnf
        rewrite [and8 hf4 2 (.inr rfl), if_neg (by decide), hq3]
        by_cases h10 : fl / 2 = 1
        case pos =>
          have hyes : okS f L.epoch most p rs.last rs.inside = true := by rw [hok, h2, h3, hx7, hx8]; simp [h4, h5, h6, h10]
          rewrite [show (!(fl / 2 == 1)) = false from by rw [h10]; rfl]
          rewrite [Nat.min_eq_left h6]
          conv => whnf
          refine ⟨by first | omega | (dsimp only; omega), ?_⟩
          conv => whnf
          rewrite [and8 hf4 2 (.inr rfl), if_neg (by decide), hq2, show (fl / 2 == 1) = true from by rw [h10]; rfl]
          conv => whnf
          refine ⟨by first | omega | (dsimp only; omega), ?_⟩
          conv => whnf
          refine ⟨fun i _ => by dsimp only; split <;> rfl, ?_⟩
          rewrite [partStr, ← hpt2]
          conv => whnf
          refine ⟨by first | omega | (dsimp only; omega), ?_⟩
          conv => whnf
          refine ⟨by first | omega | (dsimp only; omega), ?_⟩
          conv => whnf
          refine ⟨_, _, _, ?_, ⟨[], trivial, [0, 1, 10, 98], rfl, rfl, ?_, ?_⟩, p + 1, ⟨rs.recs ++ [pt], [], m, false, p + 1⟩, by omega, by omega, ?_, Nat.zero_le _, ?_, by dsimp only; omega, rfl, rfl, rfl⟩
          · omega
          · (repeat' first | exact trivial | exact rfl | exact sh0 rfl | exact Nat.le_refl _ | exact .inl shA | exact .inr ⟨rfl, rfl, rfl, rfl, rfl⟩ | exact .inl shB | exact fun h => h | refine ⟨?_, ?_, ?_, .inl ?_⟩ | refine ⟨?_, ?_⟩ | refine fun ii hii => ?_ | omega | fail)
            all_goals first
              | exact w64 (by omega)
              | exact .inl ⟨rfl, rfl, rfl, hrl1.symm, (by dsimp only; omega), (by dsimp only; omega), .inl rfl, Nat.le_of_ble_eq_true rfl⟩
          · (repeat' first | exact trivial | exact rfl | exact sh0 rfl | exact Nat.le_refl _ | exact .inl shA | exact .inr ⟨rfl, rfl, rfl, rfl, rfl⟩ | exact .inl shB | exact fun h => h | refine ⟨?_, ?_, ?_, .inl ?_⟩ | refine ⟨?_, ?_⟩ | refine fun ii hii => ?_ | omega | fail)
            all_goals first
              | exact w64 (by omega)
              | exact hrl1.symm
              | exact recRow ii hii
          · rw [hrd, if_pos hyes, hst, if_pos h10]
          · dsimp only
            omega
        case neg =>
          rewrite [show (!(fl / 2 == 1)) = true from by simp [h10]]
          conv => whnf
          by_cases h11 : ln = 48
          case neg =>
            have hno : ¬ (okS f L.epoch most p rs.last rs.inside = true) := by rw [hok]; simp [h10, h11]
            rewrite [show ((ln : Int) != 48) = true from by rw [show (48 : Int) = ((48 : Nat) : Int) from rfl, neqN, decide_eq_false h11]; rfl]
            conv => whnf
            rw [hrd, if_neg hno]
            conv => whnf
            refine ⟨[(2, rs.recs.length, 1, strS rs.recs)], ⟨⟨rfl, Nat.le_refl _, rfl, fun i hi => ⟨rfl, trivial⟩⟩, rfl, trivial⟩, [0, 1], _, _, rfl, rfl, ?_, ?_, rfl, rfl⟩
            · (repeat' first | exact trivial | exact rfl | exact sh0 rfl | exact Nat.le_refl _ | exact .inl shA | exact .inr ⟨rfl, rfl, rfl, rfl, rfl⟩ | exact .inl shB | exact fun h => h | refine ⟨?_, ?_, ?_, .inl ?_⟩ | refine ⟨?_, ?_⟩ | refine fun ii hii => ?_ | omega | fail)
              exact .inr ⟨rfl, rfl, rfl, rfl, rfl, by simp, fun i hi => by show strS rs.recs (offs 0 i) = strS rs.recs i; rfl⟩
            · (repeat' first | exact trivial | exact rfl | exact sh0 rfl | exact Nat.le_refl _ | exact .inl shA | exact .inr ⟨rfl, rfl, rfl, rfl, rfl⟩ | exact .inl shB | exact fun h => h | refine ⟨?_, ?_, ?_, .inl ?_⟩ | refine ⟨?_, ?_⟩ | refine fun ii hii => ?_ | omega | fail)
          have hyes : okS f L.epoch most p rs.last rs.inside = true := by rw [hok, h2, h3, hx7, hx8]; simp [h4, h5, h11]
          rewrite [show ((ln : Int) != 48) = false from by rw [show (48 : Int) = ((48 : Nat) : Int) from rfl, neqN, decide_eq_true h11]; rfl]
          rewrite [Nat.min_eq_left h6]
          conv => whnf
          refine ⟨by first | omega | (dsimp only; omega), ?_⟩
          conv => whnf
          rewrite [and8 hf4 2 (.inr rfl), if_neg (by decide), hq2, show (fl / 2 == 1) = false from by simp [h10]]
          conv => whnf
          refine ⟨_, _, _, ?_, ⟨[], trivial, [0, 1, 2, 8], rfl, rfl, ?_, ?_⟩, p + 1, ⟨rs.recs, pt, m, true, rs.next⟩, by omega, by omega, ?_, ?_, by dsimp only; omega, by dsimp only; omega, rfl, rfl, rfl⟩
          · omega
          · (repeat' first | exact trivial | exact rfl | exact sh0 rfl | exact Nat.le_refl _ | exact .inl shA | exact .inr ⟨rfl, rfl, rfl, rfl, rfl⟩ | exact .inl shB | exact fun h => h | refine ⟨?_, ?_, ?_, .inl ?_⟩ | refine ⟨?_, ?_⟩ | refine fun ii hii => ?_ | omega | fail)
            all_goals first
              | exact w64 (by omega)
              | exact .inl ⟨rfl, rfl, rfl, hptl.symm, (by dsimp only; omega), (by dsimp only; omega), .inl rfl, Nat.le_of_ble_eq_true rfl⟩
          · (repeat' first | exact trivial | exact rfl | exact sh0 rfl | exact Nat.le_refl _ | exact .inl shA | exact .inr ⟨rfl, rfl, rfl, rfl, rfl⟩ | exact .inl shB | exact fun h => h | refine ⟨?_, ?_, ?_, .inl ?_⟩ | refine ⟨?_, ?_⟩ | refine fun ii hii => ?_ | omega | fail)
            all_goals first
              | exact hptl.symm
              | exact ptRow ii hii
          · rw [hrd, if_pos hyes, hst, if_neg h10]
          · dsimp only
            omega
    · rewrite [show decide ((p : Int) < (L.count : Int)) = false from decide_eq_false (by omega)]
      rw [show rdL F L.epoch most (L.count - p) p rs = rs by rw [show L.count - p = 0 by omega]; rfl]
      conv => whnf
      refine ⟨[(2, rs.recs.length, 1, strS rs.recs)], ⟨⟨rfl, Nat.le_refl _, rfl, fun i hi => ⟨rfl, trivial⟩⟩, rfl, trivial⟩, [0, 1], _, _, rfl, rfl, ?_, ?_, rfl, rfl⟩
      · (repeat' first | exact trivial | exact rfl | exact sh0 rfl | exact Nat.le_refl _ | exact .inl shA | exact .inr ⟨rfl, rfl, rfl, rfl, rfl⟩ | exact .inl shB | exact fun h => h | refine ⟨?_, ?_, ?_, .inl ?_⟩ | refine ⟨?_, ?_⟩ | refine fun ii hii => ?_ | omega | fail)
        exact .inr ⟨rfl, rfl, rfl, rfl, rfl, by simp, fun i hi => by show strS rs.recs (offs 0 i) = strS rs.recs i; rfl⟩
      · (repeat' first | exact trivial | exact rfl | exact sh0 rfl | exact Nat.le_refl _ | exact .inl shA | exact .inr ⟨rfl, rfl, rfl, rfl, rfl⟩ | exact .inl shB | exact fun h => h | refine ⟨?_, ?_, ?_, .inl ?_⟩ | refine ⟨?_, ?_⟩ | refine fun ii hii => ?_ | omega | fail)
end Go.Proofs.Ytilmfhpoiejmfaa.Gk
