/- The contract of the program's round keys. Any key. -/
import Derived.Test.YtghmelcbkjejeaaMx
import Derived.Deep.RegionHeld3
import Derived.Deep.DeepCutAuto
namespace Go.Proofs.Ytghmelcbkjejeaa.Ex
open Go.RowKit Go.Proofs.Ytghmelcbkjejeaa.Mem Go.Proofs.Ytghmelcbkjejeaa.Sc Go.Proofs.Ytghmelcbkjejeaa.Ar Go.Proofs.Ytghmelcbkjejeaa.Mx
abbrev A176 (f : Nat → Nat) : Value := .agg (arr .u8 176 f)
/-- The constants of the rounds: the one ahead of round r + 1. -/
def rc : Nat → Nat
  | 0 => 1
  | r + 1 => Gf.dbl (rc r)
/-- What a round's four bytes are ahead of the sixteen. -/
def pre (last : Nat → Nat) (c j : Nat) : Nat := if j = 0 then Gf.box (last 13) ^^^ c else if j = 1 then Gf.box (last 14) else if j = 2 then Gf.box (last 15) else Gf.box (last 12)
/-- A round's bytes: i of them in column order. -/
def run4 (last : Nat → Nat) (c : Nat) (j : Nat) : Nat → Nat
  | 0 => pre last c j ^^^ last j
  | q + 1 => run4 last c j q ^^^ last (4 * (q + 1) + j)
def next (last : Nat → Nat) (c i : Nat) : Nat := run4 last c (i % 4) (i / 4)
/-- The round keys. -/
def key (k : Nat → Nat) : Nat → Nat → Nat
  | 0 => k
  | r + 1 => next (key k r) (rc r)
def keys (k : Nat → Nat) (i : Nat) : Nat := key k (i / 16) (i % 16)
/-- A column's byte of the round, behind i of the sixteen. -/
def tt (last : Nat → Nat) (c i j : Nat) : Nat := if j < i then run4 last c j ((i - 1 - j) / 4) else pre last c j
theorem tt_step (last : Nat → Nat) (c i : Nat) : tt last c i (i % 4) ^^^ last i = next last c i := by
  unfold tt next
  by_cases h : i % 4 < i
  · rw [if_pos h]
    obtain ⟨q, hq⟩ : ∃ q, i / 4 = q + 1 := ⟨i / 4 - 1, by omega⟩
    rw [hq, show (i - 1 - i % 4) / 4 = q by omega, run4, show 4 * (q + 1) + i % 4 = i by omega]
  · rw [if_neg h, show i / 4 = 0 by omega, run4, show i % 4 = i by omega]
theorem tt_next (last : Nat → Nat) (c i j : Nat) (hj : j < 4) : tt last c (i + 1) j = if j = i % 4 then next last c i else tt last c i j := by
  by_cases h : j = i % 4
  · rw [if_pos h, h]
    unfold tt next
    rw [if_pos (by omega), show (i + 1 - 1 - i % 4) / 4 = i / 4 by omega]
  · rw [if_neg h]
    unfold tt
    by_cases h2 : j < i
    · rw [if_pos (by omega), if_pos h2, show (i + 1 - 1 - j) / 4 = (i - 1 - j) / 4 by omega]
    · rw [if_neg (by omega), if_neg h2]
theorem rc_lt : ∀ r, rc r < 256
  | 0 => (by decide : 1 < 256)
  | r + 1 => Gf.dbl_lt _
theorem pre_lt {last : Nat → Nat} {c : Nat} (hl : ∀ i, last i < 256) (hc : c < 256) (j : Nat) : pre last c j < 256 := by
  unfold pre
  split
  · exact Nat.xor_lt_two_pow (n := 8) (Gf.box_lt _ (hl _)) hc
  · split
    · exact Gf.box_lt _ (hl _)
    · split <;> exact Gf.box_lt _ (hl _)
theorem run4_lt {last : Nat → Nat} {c : Nat} (hl : ∀ i, last i < 256) (hc : c < 256) (j : Nat) : ∀ q, run4 last c j q < 256
  | 0 => Nat.xor_lt_two_pow (n := 8) (pre_lt hl hc j) (hl _)
  | q + 1 => Nat.xor_lt_two_pow (n := 8) (run4_lt hl hc j q) (hl _)
theorem tt_lt {last : Nat → Nat} {c : Nat} (hl : ∀ i, last i < 256) (hc : c < 256) (i j : Nat) : tt last c i j < 256 := by
  unfold tt
  split
  · exact run4_lt hl hc _ _
  · exact pre_lt hl hc _
theorem key_lt {k : Nat → Nat} (hk : ∀ i, k i < 256) : ∀ r i, key k r i < 256
  | 0, i => hk i
  | r + 1, _ => run4_lt (key_lt hk r) (rc_lt r) _ _
theorem keys_lt {k : Nat → Nat} (hk : ∀ i, k i < 256) (i : Nat) : keys k i < 256 := key_lt hk _ _
theorem zero28 (w : World) : (zeroValue 28).run Try.prog w = .ok (.agg (arr .u8 176 fun _ => 0)) w := by kernel_rfl
set_option maxHeartbeats 4000000 in
theorem expand_any (k : Nat → Nat) (hk : ∀ i, k i < 256) (w : World) :
    Calls Try.prog 15 #[A16 k] w fun e w' => e = .returned (A176 (keys k)) ∧ Below w.heap.size w w' := by
  have b1 : ∀ o1 o2, Blk (((w.alloc (.cells (arr .u8 16 k) 27)).alloc o1).alloc o2) w.heap.size 27 (arr .u8 16 k) := fun o1 o2 => ((Blk.new w 27 (arr .u8 16 k)).alloc o1).alloc o2
  have b2 : ∀ o1 : Obj, Blk (((w.alloc (.cells (arr .u8 16 k) 27)).alloc (.cells (arr .u8 176 fun _ => 0) 28)).alloc o1) (w.heap.size + 1) 28 (arr .u8 176 fun _ => 0) := fun o1 => (Blk.new_at (w.alloc (.cells (arr .u8 16 k) 27)) 28 _ (by simp)).alloc o1
  have b3 : ∀ o1 : Obj, Blk (((w.alloc (.cells (arr .u8 16 k) 27)).alloc o1).alloc (.cells (arr .u8 176 fun _ => 0) 28)) (w.heap.size + 1 + 1) 28 (arr .u8 176 fun _ => 0) := fun o1 => Blk.new_at ((w.alloc (.cells (arr .u8 16 k) 27)).alloc o1) 28 _ (by simp)
  have hB0 : ∀ o1 o2 o3 : Obj, Below w.heap.size w (((w.alloc o1).alloc o2).alloc o3) := fun o1 o2 o3 => (((Below.refl _ _).alloc (Nat.le_refl _) _).alloc (by simp) _).alloc (by simp; omega) _
  have B1 := Lib.hid b1
  have B2 := Lib.hid b2
  have B3 := Lib.hid b3
  have HB0 := Lib.hid hB0
  clear b1 b2 b3 hB0
  have hz := zero28
  go_enter Try.func15, Try.ntmps15
  go_wp2_with (first | (refine wpList_load_all rfl 27 _ rfl rfl (B1.out _ _) _ Try.underlying27 rfl info27 ?_) | (refine wpList_store_arr rfl 27 _ _ rfl rfl (B3.out _) 16 (by decide) _ rfl info27 ?_; intro wo b3 hu))
  have b2 := (B2.out _).upd hu (by omega)
  have hB := hu.below (HB0.out _ _ _) (by omega)
  clear B1 B2 B3 HB0 hu
  have b3' : Blk wo (w.heap.size + 1 + 1) 28 (arr .u8 176 fun x => if x < 16 * 1 then keys k x else 0) := by
    rw [arr_congr (g := fun i => if 0 ≤ i ∧ i < 0 + 16 then k (i - 0) else 0) (fun x _ => by
      by_cases h : x < 16
      · rw [if_pos (by omega), if_pos (by omega)]
        unfold keys
        rw [show x / 16 = 0 by omega, show x % 16 = x by omega]; rfl
      · rw [if_neg (by omega), if_neg (by omega)])]
    exact b3
  clear b3
  go_loopw [4, 5] (fun v4 v5 wr => ∃ r : Nat, 1 ≤ r ∧ r ≤ 11 ∧ v4 = B (rc (r - 1)) ∧ v5 = .int .i64 r ∧ Below w.heap.size w wr ∧ Blk wr (w.heap.size + 1) 28 (arr .u8 176 fun _ => 0) ∧ Blk wr (w.heap.size + 1 + 1) 28 (arr .u8 176 fun x => if x < 16 * r then keys k x else 0)) (fun _ v _ => 11 - (intOf v).toNat)
  case atStart => exact ⟨1, by decide, by decide, rfl, rfl, hB, b2, b3'⟩
  case round =>
    clear b2 b3' hB
    obtain ⟨r, hr1, hr, rfl, rfl, hB, b2, b3⟩ := hrel
    have hlw := b3.lt
    by_cases hlt : r < 11
    · have hd0 : decide ((r : Int) < 11) = true := by rw [decide_eq_true_eq]; omega
      obtain ⟨wq, rfl⟩ : ∃ wq : World, wq = wr := ⟨_, rfl⟩
      obtain ⟨last, hlast⟩ : ∃ last, last = key k (r - 1) := ⟨_, rfl⟩
      obtain ⟨c, hc0⟩ : ∃ c, c = rc (r - 1) := ⟨_, rfl⟩
      rw [← hc0]
      have hc : c < 256 := hc0 ▸ rc_lt _
      have hl : ∀ i, last i < 256 := hlast ▸ key_lt hk _
      have L1 := Lib.hid hlast
      have L2 := Lib.hid hc0
      clear hlast hc0
      have hv : ∀ i, i < 16 → (fun x => if x < 16 * r then keys k x else 0) ((r - 1) * 16 + i) = last i := by
        intro i hi
        show (if (r - 1) * 16 + i < 16 * r then keys k ((r - 1) * 16 + i) else 0) = last i
        rw [if_pos (by omega)]
        unfold keys
        rw [show ((r - 1) * 16 + i) / 16 = r - 1 by omega, show ((r - 1) * 16 + i) % 16 = i by omega, L1.out]
      have HV := Lib.hid hv
      clear hv
      have b6 : Blk (wq.alloc (.cells (arr .u8 16 fun _ => 0) 27)) wq.heap.size 27 (arr .u8 16 fun _ => 0) := Blk.new _ _ _
      have b2' := b2.alloc (.cells (arr .u8 16 fun _ => 0) 27)
      have b3' := b3.alloc (.cells (arr .u8 16 fun _ => 0) 27)
      have hB' := hB.alloc hB.size (.cells (arr .u8 16 fun _ => 0) 27)
      go_wp2_with (first | (refine wpList_load_part rfl 27 _ rfl rfl b3 16 (by omega) last HV.out _ Try.underlying27 rfl info27 ?_) | (refine wpList_store_all rfl 27 _ _ rfl rfl b6 _ rfl info27 ?_; intro w1 b6' hu1))
      have g2 := b2'.upd hu1 (by omega)
      have g3 := b3'.upd hu1 (by omega)
      have gB := hu1.below hB' hB.size
      have hs1 : w1.heap.size = wq.heap.size + 1 := by rw [hu1.size]; simp
      have q12 := b6'.at_ 12 (by decide)
      have q13 := b6'.at_ 13 (by decide)
      have q14 := b6'.at_ 14 (by decide)
      have q15 := b6'.at_ 15 (by decide)
      have hx : bits .xor .u8 (Gf.box (last 13) : Int) (c : Int) = ((Gf.box (last 13) ^^^ c : Nat) : Int) := u8_xor_nat _ _ (Gf.box_lt _ (hl _)) hc
      have hcells : #[Value.int .u8 (bits .xor .u8 (Gf.box (last 13) : Int) (c : Int)), Value.int .u8 (Gf.box (last 14) : Int), Value.int .u8 (Gf.box (last 15) : Int), Value.int .u8 (Gf.box (last 12) : Int)] = arr .u8 4 (pre last c) := by
        rw [hx]; rfl
      have fin : Below w.heap.size w (w1.alloc (.cells #[Value.int .u8 (bits .xor .u8 (Gf.box (last 13) : Int) (c : Int)), Value.int .u8 (Gf.box (last 14) : Int), Value.int .u8 (Gf.box (last 15) : Int), Value.int .u8 (Gf.box (last 12) : Int)] 37)).drew ∧ Blk (w1.alloc (.cells #[Value.int .u8 (bits .xor .u8 (Gf.box (last 13) : Int) (c : Int)), Value.int .u8 (Gf.box (last 14) : Int), Value.int .u8 (Gf.box (last 15) : Int), Value.int .u8 (Gf.box (last 12) : Int)] 37)).drew (w.heap.size + 1) 28 (arr .u8 176 fun _ => 0) ∧ Blk (w1.alloc (.cells #[Value.int .u8 (bits .xor .u8 (Gf.box (last 13) : Int) (c : Int)), Value.int .u8 (Gf.box (last 14) : Int), Value.int .u8 (Gf.box (last 15) : Int), Value.int .u8 (Gf.box (last 12) : Int)] 37)).drew (w.heap.size + 1 + 1) 28 (arr .u8 176 fun x => if x < 16 * r then keys k x else 0) ∧ Blk (w1.alloc (.cells #[Value.int .u8 (bits .xor .u8 (Gf.box (last 13) : Int) (c : Int)), Value.int .u8 (Gf.box (last 14) : Int), Value.int .u8 (Gf.box (last 15) : Int), Value.int .u8 (Gf.box (last 12) : Int)] 37)).drew wq.heap.size 27 (arr .u8 16 last) ∧ Blk (w1.alloc (.cells #[Value.int .u8 (bits .xor .u8 (Gf.box (last 13) : Int) (c : Int)), Value.int .u8 (Gf.box (last 14) : Int), Value.int .u8 (Gf.box (last 15) : Int), Value.int .u8 (Gf.box (last 12) : Int)] 37)).drew (wq.heap.size + 1) 37 (arr .u8 4 (pre last c)) := by
        rw [hcells]
        exact ⟨(gB.alloc gB.size _).drew, (g2.alloc _).drew, (g3.alloc _).drew, (b6'.alloc _).drew, (Blk.new_at w1 37 _ hs1.symm).drew⟩
      have FIN := Lib.hid fin
      have HS1 : Hid (w1.heap.size = wq.heap.size + 1) := Lib.hid hs1
      clear hx hcells fin
      go_cut [7] (fun s7 wx => s7 = .pointer (some ⟨wq.heap.size + 1, 0, none⟩) ∧ Below w.heap.size w wx ∧ Blk wx (w.heap.size + 1) 28 (arr .u8 176 fun _ => 0) ∧ Blk wx (w.heap.size + 1 + 1) 28 (arr .u8 176 fun x => if x < 16 * r then keys k x else 0) ∧ Blk wx wq.heap.size 27 (arr .u8 16 last) ∧ Blk wx (wq.heap.size + 1) 37 (arr .u8 4 (pre last c)))
      case first =>
        go_region_held3 (fun w' => w'.cell? ⟨wq.heap.size, 12, none⟩ = some (.int .u8 (last 12 : Int)) ∧ w'.cell? ⟨wq.heap.size, 13, none⟩ = some (.int .u8 (last 13 : Int)) ∧ w'.cell? ⟨wq.heap.size, 14, none⟩ = some (.int .u8 (last 14 : Int)) ∧ w'.cell? ⟨wq.heap.size, 15, none⟩ = some (.int .u8 (last 15 : Int))) (go_keep)
          (first | (go_at_call 13; refine (box_same _ (hl _) _).mono ?_; rintro e w' ⟨rfl, rfl⟩))
        all_goals go_wp2_with fail
        all_goals go_meet
        all_goals exact ⟨rfl, FIN.out⟩
      case rest =>
        clear FIN HS1 b6' g2 g3 gB hs1 hu1 b6 b2' b3' hB' b2 b3 hB HV q12 q13 q14 q15
        obtain ⟨rfl, gB, g2, g3, g6, g7⟩ := hcut
        go_wp2
        obtain ⟨wo2, rfl⟩ : ∃ wo2 : World, wo2 = wc := ⟨_, rfl⟩
        have t0 : arr .u8 4 (pre last c) = arr .u8 4 (tt last c 0) := arr_congr fun j _ => by unfold tt; rw [if_neg (by omega)]
        have t1 : arr .u8 176 (fun x => if x < 16 * r then keys k x else 0) = arr .u8 176 (fun x => if x < 16 * r + 0 then keys k x else 0) := by rw [Nat.add_zero]
        rw [t0] at g7
        rw [t1] at g3
        clear t0 t1
        go_loopw [34] (fun v w2 => ∃ i : Nat, i ≤ 16 ∧ v = .int .i64 i ∧ Below w.heap.size w w2 ∧ Blk w2 (w.heap.size + 1) 28 (arr .u8 176 fun _ => 0) ∧ Blk w2 (w.heap.size + 1 + 1) 28 (arr .u8 176 fun x => if x < 16 * r + i then keys k x else 0) ∧ Blk w2 wq.heap.size 27 (arr .u8 16 last) ∧ Blk w2 (wq.heap.size + 1) 37 (arr .u8 4 (tt last c i))) (fun v _ => 16 - (intOf v).toNat)
        case atStart => exact ⟨0, by decide, rfl, gB, g2, g3, g6, g7⟩
        case round =>
          clear gB g2 g3 g6 g7
          obtain ⟨i, hi, rfl, gB, g2, g3, g6, g7⟩ := hrel
          by_cases hilt : i < 16
          · obtain ⟨m, hm0⟩ : ∃ m, m = i % 4 := ⟨_, rfl⟩
            have hm4 : m < 4 := by omega
            have hm4' : (m : Int) < 4 := by omega
            have hi' : (i : Int) < 16 := by omega
            have hr' : (r : Int) < 11 := by omega
            have hrm : Int.tmod (i : Int) 4 = (m : Int) := by rw [Int.tmod_eq_emod_of_nonneg (by omega)]; omega
            have x7 := g7.at_ m hm4
            have z7 := g7.frozen m
            have x6 := g6.at_ i hilt
            have hlt1 := tt_lt hl hc i m
            have hx := u8_xor_nat _ _ hlt1 (hl i)
            have hn : tt last c i m ^^^ last i = next last c i := by rw [hm0]; exact tt_step last c i
            have HM := Lib.hid hm0
            have HN := Lib.hid hn
            have HX2 := Lib.hid hx
            clear hm0 hn hx
            go_wp2
            go_still_tail 9, (by kernel_rfl)
            change wpList _ _ _ _ _ (World.drew _)
            go_wp2
            have f7 := (g7.set_ m (.int .u8 (bits .xor .u8 (tt last c i m : Int) (last i : Int)))).drew
            have f6 := (g6.far (p := ⟨wq.heap.size + 1, m, none⟩) (by simp) (.int .u8 (bits .xor .u8 (tt last c i m : Int) (last i : Int)))).drew
            have f3 := (g3.far (p := ⟨wq.heap.size + 1, m, none⟩) (by simp; omega) (.int .u8 (bits .xor .u8 (tt last c i m : Int) (last i : Int)))).drew
            have f2 := (g2.far (p := ⟨wq.heap.size + 1, m, none⟩) (by simp; omega) (.int .u8 (bits .xor .u8 (tt last c i m : Int) (last i : Int)))).drew
            have fB := (gB.setCell (p := ⟨wq.heap.size + 1, m, none⟩) (by simp; omega) (.int .u8 (bits .xor .u8 (tt last c i m : Int) (last i : Int)))).drew
            obtain ⟨w3, hw3⟩ : ∃ w3, w3 = (wr.setCell ⟨wq.heap.size + 1, m, none⟩ (.int .u8 (bits .xor .u8 (tt last c i m : Int) (last i : Int)))).drew := ⟨_, rfl⟩
            rw [← hw3]
            rw [← hw3] at f7 f6 f3 f2 fB
            rw [HX2.out, arr_set, HN.out] at f7
            clear hw3 g7 g6 g3 g2 gB x7 z7 x6
            have y7 := f7.at_ m hm4
            rw [if_pos rfl] at y7
            have y3 := f3.at_ (r * 16 + i) (by omega)
            have z3 := f3.frozen (r * 16 + i)
            go_still_tail 8, (by kernel_rfl)
            change wpList _ _ _ _ _ (World.drew _)
            go_wp2
            go_roundw
            case measure => simp [intOf]; omega
            case rel =>
              refine ⟨i + 1, by omega, by go_num, ?_, ?_, ?_, ?_, ?_⟩
              · exact (fB.setCell (by simp; omega) _).drew
              · exact (f2.far (by simp) _).drew
              · have h := (f3.set_ (r * 16 + i) (.int .u8 (next last c i : Int))).drew
                rw [arr_set] at h
                have e : arr .u8 176 (fun x => if x < 16 * r + (i + 1) then keys k x else 0) = arr .u8 176 (fun x => if x = r * 16 + i then next last c i else if x < 16 * r + i then keys k x else 0) := arr_congr fun x _ => by
                  by_cases h1 : x = r * 16 + i
                  · rw [if_pos (by omega), if_pos h1, h1]
                    unfold keys
                    obtain ⟨q, rfl⟩ : ∃ q, r = q + 1 := ⟨r - 1, by omega⟩
                    rw [show ((q + 1) * 16 + i) / 16 = q + 1 by omega, show ((q + 1) * 16 + i) % 16 = i by omega, L1.out, L2.out]
                    rfl
                  · by_cases h2 : x < 16 * r + i
                    · rw [if_pos (by omega), if_neg h1, if_pos h2]
                    · rw [if_neg (by omega), if_neg h1, if_neg h2]
                rw [e]
                exact h
              · exact (f6.far (by simp; omega) _).drew
              · have h := (f7.far (p := ⟨w.heap.size + 1 + 1, r * 16 + i, none⟩) (by simp; omega) (.int .u8 (next last c i : Int))).drew
                have e : arr .u8 4 (tt last c (i + 1)) = arr .u8 4 (fun x => if x = m then next last c i else tt last c i x) := arr_congr fun x hx => by
                  rw [tt_next last c i x hx, HM.out]
                rw [e]
                exact h
          · have hi16 : i = 16 := by omega
            subst hi16
            go_wp2_with (go_at_call 21; refine (double_same c hc _).mono ?_; rintro e w' ⟨rfl, rfl⟩)
            go_roundw
            case measure => simp [intOf]; omega
            case rel =>
              refine ⟨r + 1, by omega, by omega, ?_, by go_num, gB, g2, ?_⟩
              · obtain ⟨q, rfl⟩ : ∃ q, r = q + 1 := ⟨r - 1, by omega⟩
                rw [L2.out]; rfl
              · rw [show 16 * (r + 1) = 16 * r + 16 by omega]
                exact g3
    · have hr11 : r = 11 := by omega
      have bf : Blk wr (w.heap.size + 1 + 1) 28 (arr .u8 176 (keys k)) := by
        rw [arr_congr (g := fun x => if x < 16 * r then keys k x else 0) (fun i hi => by rw [if_pos (by omega)])]
        exact b3
      clear b3 hr11
      go_wp2_with (first | (refine wpList_load_all rfl 28 _ rfl rfl bf _ Try.underlying28 rfl info28 ?_) | (refine wpList_store_all rfl 28 _ _ rfl rfl b2 _ rfl info28 ?_; intro w2 b5 hu))
      exact bodyPost_ret (results_blk rfl _ rfl b5 _ Try.underlying28 rfl info28) rfl ⟨rfl, hu.below hB (by omega)⟩
end Go.Proofs.Ytghmelcbkjejeaa.Ex
