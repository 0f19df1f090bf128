/- The contracts of the program's Encrypt and Decrypt. Any key, any block. -/
import Derived.Test.YtghmelcbkjejeaaEx
namespace Go.Proofs.Ytghmelcbkjejeaa.En
open Go.RowKit Go.Proofs.Ytghmelcbkjejeaa.Mem Go.Proofs.Ytghmelcbkjejeaa.Sc Go.Proofs.Ytghmelcbkjejeaa.Ar Go.Proofs.Ytghmelcbkjejeaa.Mx Go.Proofs.Ytghmelcbkjejeaa.Ex
/-- A row of four bytes. -/
def four (a b c d : Nat) (i : Nat) : Nat := if i = 0 then a else if i = 1 then b else if i = 2 then c else d
theorem four_lt {a b c d : Nat} (ha : a < 256) (hb : b < 256) (hc : c < 256) (hd : d < 256) (i : Nat) : four a b c d i < 256 := by
  unfold four
  split
  · exact ha
  · split
    · exact hb
    · split
      · exact hc
      · exact hd
def sh (by_ : Nat) (f : Nat → Nat) (i : Nat) : Nat := f ((i + 4 * by_ * (i % 4)) % 16)
def xr (f g : Nat → Nat) (i : Nat) : Nat := f i ^^^ g i
def rk (k : Nat → Nat) (r i : Nat) : Nat := keys k (r * 16 + i)
/-- A block behind so many rounds. -/
def enc (k b : Nat → Nat) : Nat → Nat → Nat
  | 0 => xr b (rk k 0)
  | r + 1 => xr (if r + 1 < 10 then mix (sh 1 fun i => Gf.box (enc k b r i)) (four 2 3 1 1) else sh 1 fun i => Gf.box (enc k b r i)) (rk k (r + 1))
theorem xr_lt {f g : Nat → Nat} (hf : ∀ i, f i < 256) (hg : ∀ i, g i < 256) (i : Nat) : xr f g i < 256 := Nat.xor_lt_two_pow (n := 8) (hf i) (hg i)
theorem rk_lt {k : Nat → Nat} (hk : ∀ i, k i < 256) (r i : Nat) : rk k r i < 256 := keys_lt hk _
theorem mix_lt {f c : Nat → Nat} (hc : ∀ i, c i < 256) (i : Nat) : mix f c i < 256 := mixT_lt f c hc i 4
theorem box_f {f : Nat → Nat} (hf : ∀ i, f i < 256) (i : Nat) : Gf.box (f i) < 256 := Gf.box_lt _ (hf i)
theorem enc_lt {k b : Nat → Nat} (hk : ∀ i, k i < 256) (hb : ∀ i, b i < 256) : ∀ r i, enc k b r i < 256
  | 0, i => xr_lt hb (rk_lt hk 0) i
  | r + 1, i => by
    refine xr_lt (fun i => ?_) (rk_lt hk _) i
    split
    · exact mix_lt (four_lt (by decide) (by decide) (by decide) (by decide)) i
    · exact box_f (fun i => enc_lt hk hb r i) _
theorem four_val (a b c d : Nat) : Value.agg #[.int .u8 (a : Int), .int .u8 (b : Int), .int .u8 (c : Int), .int .u8 (d : Int)] = A4 (four a b c d) := rfl
theorem mixed_enc (f : Nat → Nat) (hf : ∀ i, f i < 256) (w : World) : Calls Try.prog 29 #[A16 f, .agg #[.int .u8 2, .int .u8 3, .int .u8 1, .int .u8 1]] w fun e w' => e = .returned (A16 (mix f (four 2 3 1 1))) ∧ Below w.heap.size w w' := by
  have e : Value.agg #[.int .u8 2, .int .u8 3, .int .u8 1, .int .u8 1] = A4 (four 2 3 1 1) := rfl
  rw [e]
  exact mixed_any f _ hf (four_lt (by decide) (by decide) (by decide) (by decide)) w
theorem mixed_dec (f : Nat → Nat) (hf : ∀ i, f i < 256) (w : World) : Calls Try.prog 29 #[A16 f, .agg #[.int .u8 14, .int .u8 11, .int .u8 13, .int .u8 9]] w fun e w' => e = .returned (A16 (mix f (four 14 11 13 9))) ∧ Below w.heap.size w w' := by
  have e : Value.agg #[.int .u8 14, .int .u8 11, .int .u8 13, .int .u8 9] = A4 (four 14 11 13 9) := rfl
  rw [e]
  exact mixed_any f _ hf (four_lt (by decide) (by decide) (by decide) (by decide)) w
set_option maxHeartbeats 4000000 in
theorem encrypt_any (k b : Nat → Nat) (hk : ∀ i, k i < 256) (hb : ∀ i, b i < 256) (w : World) :
    Calls Try.prog 18 #[A16 k, A16 b] w fun e w' => e = .returned (A16 (enc k b 10)) ∧ Below w.heap.size w w' := by
  have hz := zero28
  have b1 : ∀ o1 o2, Blk (((w.alloc (.cells (arr .u8 16 k) 27)).alloc o1).alloc o2) w.heap.size 27 (arr .u8 16 k) := fun o1 o2 => ((Blk.new w 27 (arr .u8 16 k)).alloc o1).alloc o2
  have b2 : ∀ o1 o2, Blk (((w.alloc o1).alloc (.cells (arr .u8 16 b) 27)).alloc o2) (w.heap.size + 1) 27 (arr .u8 16 b) := fun o1 o2 => (Blk.new_at (w.alloc o1) 27 _ (by simp)).alloc o2
  have b3 : ∀ o1 o2, Blk (((w.alloc o1).alloc o2).alloc (.cells (arr .u8 16 fun _ => 0) 27)) (w.heap.size + 1 + 1) 27 (arr .u8 16 fun _ => 0) := fun o1 o2 => Blk.new_at ((w.alloc o1).alloc o2) 27 _ (by simp)
  have hB0 : ∀ o1 o2 o3 : Obj, Below w.heap.size w (((w.alloc o1).alloc o2).alloc o3) := fun o1 o2 o3 => (((Below.refl _ _).alloc (Nat.le_refl _) _).alloc (by simp) _).alloc (by simp; omega) _
  have B1 := Lib.hid b1
  have B2 := Lib.hid b2
  have B3 := Lib.hid b3
  have HB0 := Lib.hid hB0
  clear b1 b2 b3 hB0
  go_enter Try.func18, Try.ntmps18
  go_wp2_with (first | (refine wpList_load_all rfl 27 _ rfl rfl (B1.out _ _) _ Try.underlying27 rfl info27 ?_))
  refine (expand_any k hk _).mono ?_
  rintro e w1 ⟨rfl, hb1⟩
  have c2 := (B2.out _ _).kept hb1
  have c3 := (B3.out _ _).kept hb1
  have cB := (HB0.out _ _ _).trans (hb1.mono (by simp; omega))
  have cs : w.heap.size + 1 + 1 < w1.heap.size := c3.lt
  clear B1 B2 B3 HB0 hb1
  have d5 : Blk (w1.alloc (.cells (arr .u8 176 fun _ => 0) 28)) w1.heap.size 28 (arr .u8 176 fun _ => 0) := Blk.new _ _ _
  have d2 := c2.alloc (.cells (arr .u8 176 fun _ => 0) 28)
  have d3 := c3.alloc (.cells (arr .u8 176 fun _ => 0) 28)
  have dB := cB.alloc cB.size (.cells (arr .u8 176 fun _ => 0) 28)
  clear c2 c3 cB
  go_wp2_with (first | (refine wpList_store_all rfl 28 _ _ rfl rfl d5 _ rfl info28 ?_; intro w2 e5 hu2; have e2 := d2.upd hu2 (by omega); have e3 := d3.upd hu2 (by omega); have eB := hu2.below dB (by omega); clear d5 d2 d3 dB hu2) | (refine wpList_load_all rfl 27 _ rfl rfl e2 _ Try.underlying27 rfl info27 ?_) | (refine wpList_load_part rfl 27 _ rfl rfl e5 16 (by decide) (rk k 0) (fun i _ => by unfold rk; rw [Nat.zero_mul]) _ Try.underlying27 rfl info27 ?_))
  refine (add_any b (rk k 0) hb (rk_lt hk 0) _).mono ?_
  rintro e w3 ⟨rfl, hb3⟩
  have f2 := e2.kept hb3
  have f3 := e3.kept hb3
  have f5 := e5.kept hb3
  have fB := eB.trans (hb3.mono eB.size)
  clear e2 e3 e5 eB hb3
  go_wp2_with (first | (refine wpList_store_all rfl 27 _ _ rfl rfl f2 (enc k b 0) rfl info27 ?_; intro w4 g2 hu4; have g3 := f3.upd hu4 (by omega); have g5 := f5.upd hu4 (by omega); have gB := hu4.below fB (by omega); clear f2 f3 f5 fB hu4))
  obtain ⟨n5, hn5⟩ : ∃ n5, n5 = w1.heap.size := ⟨_, rfl⟩
  rw [← hn5] at g5 cs
  rw [← hn5]
  clear hn5
  go_loopw [6] (fun v wr => ∃ r : Nat, 1 ≤ r ∧ r ≤ 11 ∧ v = .int .i64 r ∧ Below w.heap.size w wr ∧ Blk wr (w.heap.size + 1) 27 (arr .u8 16 (enc k b (r - 1))) ∧ Blk wr (w.heap.size + 1 + 1) 27 (arr .u8 16 fun _ => 0) ∧ Blk wr n5 28 (arr .u8 176 (keys k))) (fun v _ => 11 - (intOf v).toNat)
  case atStart => exact ⟨1, by decide, by decide, rfl, gB, g2, g3, g5⟩
  case round =>
    clear gB g2 g3 g5
    obtain ⟨r, hr1, hr, rfl, hB, c2, c3, c5⟩ := hrel
    by_cases hlt : r < 11
    · have hr' : (r : Int) < 11 := by omega
      have hp := enc_lt hk hb (r - 1)
      obtain ⟨s, hs⟩ : ∃ s, s = enc k b (r - 1) := ⟨_, rfl⟩
      rw [← hs] at c2 hp
      have HS := Lib.hid hs
      clear hs
      go_wp2_with (first | (refine wpList_load_all rfl 27 _ rfl rfl c2 _ Try.underlying27 rfl info27 ?_))
      with_reducible refine (each13 s hp _).mono ?_
      rintro e w5 ⟨rfl, hb5⟩
      have d2 := c2.kept hb5
      have d3 := c3.kept hb5
      have d5 := c5.kept hb5
      have dB := hB.trans (hb5.mono hB.size)
      clear c2 c3 c5 hB hb5
      go_wp2_with fail
      with_reducible refine (shifted1 _ _).mono ?_
      rintro e w6 ⟨rfl, hb6⟩
      have e2 := d2.kept hb6
      have e3 := d3.kept hb6
      have e5 := d5.kept hb6
      have eB := dB.trans (hb6.mono dB.size)
      clear d2 d3 d5 dB hb6
      have l1 := box_f hp
      have l2 : ∀ i, sh 1 (fun i => Gf.box (s i)) i < 256 := fun i => l1 _
      by_cases h10 : r < 10
      · have hd : decide ((r : Int) < 10) = true := by rw [decide_eq_true_eq]; omega
        have h10' : (r : Int) < 10 := by omega
        go_wp2_with (first | (refine wpList_store_all rfl 27 _ _ rfl rfl e2 (sh 1 fun i => Gf.box (s i)) rfl info27 ?_; intro w7 g2 hu7; have g3 := e3.upd hu7 (by omega); have g5 := e5.upd hu7 (by omega); have gB := hu7.below eB (by omega); clear e2 e3 e5 eB hu7) | (refine wpList_load_all rfl 27 _ rfl rfl g2 _ Try.underlying27 rfl info27 ?_))
        with_reducible refine (mixed_enc (sh 1 fun i => Gf.box (s i)) l2 _).mono ?_
        rintro e w8 ⟨rfl, hb8⟩
        have k2 := g2.kept hb8
        have k3 := g3.kept hb8
        have k5 := g5.kept hb8
        have kB := gB.trans (hb8.mono gB.size)
        clear g2 g3 g5 gB hb8
        have l3 : ∀ i, mix (sh 1 fun i => Gf.box (s i)) (four 2 3 1 1) i < 256 := mix_lt (four_lt (by decide) (by decide) (by decide) (by decide))
        go_wp2_with (first | (refine wpList_store_all rfl 27 _ _ rfl rfl k2 (mix (sh 1 fun i => Gf.box (s i)) (four 2 3 1 1)) rfl info27 ?_; intro w11 h2 hu11; have h3 := k3.upd hu11 (by omega); have h5 := k5.upd hu11 (by omega); have hB8 := hu11.below kB (by omega); clear k2 k3 k5 kB hu11))
        have z5 := h5.range 0 0 (by omega)
        clear z5
        have hqv : ∀ i, i < 16 → (keys k) (r * 16 + i) = rk k r i := fun i _ => rfl
        have HQ := Lib.hid hqv
        clear hqv
        go_wp2_with fail
        refine wp_region_still_tail 4 (by kernel_rfl) (by kernel_rfl) ?_
        simp only [List.take_succ_cons, List.take_zero, List.drop_succ_cons, List.drop_zero]
        refine wpStill_load_all rfl 27 _ rfl rfl h2.drew _ Try.underlying27 rfl info27 ?_
        repeat still_step
        refine wpStill_load_part rfl 27 _ rfl rfl h5.drew 16 (by omega) (rk k r) HQ.out _ Try.underlying27 rfl info27 ?_
        refine wpStill_nil ?_
        change wpList _ _ _ _ _ (World.drew _)
        have i2 := h2.drew
        have i3 := h3.drew
        have i5 := h5.drew
        have iB := hB8.drew
        clear h2 h3 h5 hB8
        go_wp2_with fail
        with_reducible refine (add_any (mix (sh 1 fun i => Gf.box (s i)) (four 2 3 1 1)) (rk k r) l3 (rk_lt hk r) _).mono ?_
        rintro e w9 ⟨rfl, hb9⟩
        have j2 := i2.kept hb9
        have j3 := i3.kept hb9
        have j5 := i5.kept hb9
        have jB := iB.trans (hb9.mono iB.size)
        clear i2 i3 i5 iB hb9
        go_wp2_with (first | (refine wpList_store_all rfl 27 _ _ rfl rfl j2 (xr (mix (sh 1 fun i => Gf.box (s i)) (four 2 3 1 1)) (rk k r)) rfl info27 ?_; intro w10 g2 hu10; have g3 := j3.upd hu10 (by omega); have g5 := j5.upd hu10 (by omega); have gB := hu10.below jB (by omega); clear j2 j3 j5 jB hu10))
        go_roundw
        case measure => simp [intOf]; omega
        case rel =>
          refine ⟨r + 1, by omega, by omega, by go_num, gB, ?_, g3, g5⟩
          obtain ⟨q, rfl⟩ : ∃ q, r = q + 1 := ⟨r - 1, by omega⟩
          have e : enc k b (q + 1 + 1 - 1) = xr (mix (sh 1 fun i => Gf.box (s i)) (four 2 3 1 1)) (rk k (q + 1)) := by
            rw [show q + 1 + 1 - 1 = q + 1 by omega, enc, if_pos (by omega), HS.out]
            rfl
          rw [e]
          exact g2
      · have hd : decide ((r : Int) < 10) = false := by rw [decide_eq_false_iff_not]; omega
        have h10' : ¬ (r : Int) < 10 := by omega
        go_wp2_with (first | (refine wpList_store_all rfl 27 _ _ rfl rfl e2 (sh 1 fun i => Gf.box (s i)) rfl info27 ?_; intro w7 h2 hu7; have h3 := e3.upd hu7 (by omega); have h5 := e5.upd hu7 (by omega); have hB8 := hu7.below eB (by omega); clear e2 e3 e5 eB hu7))
        have z5 := h5.range 0 0 (by omega)
        clear z5
        have hqv : ∀ i, i < 16 → (keys k) (r * 16 + i) = rk k r i := fun i _ => rfl
        have HQ := Lib.hid hqv
        clear hqv
        go_wp2_with fail
        refine wp_region_still_tail 4 (by kernel_rfl) (by kernel_rfl) ?_
        simp only [List.take_succ_cons, List.take_zero, List.drop_succ_cons, List.drop_zero]
        refine wpStill_load_all rfl 27 _ rfl rfl h2.drew _ Try.underlying27 rfl info27 ?_
        repeat still_step
        refine wpStill_load_part rfl 27 _ rfl rfl h5.drew 16 (by omega) (rk k r) HQ.out _ Try.underlying27 rfl info27 ?_
        refine wpStill_nil ?_
        change wpList _ _ _ _ _ (World.drew _)
        have i2 := h2.drew
        have i3 := h3.drew
        have i5 := h5.drew
        have iB := hB8.drew
        clear h2 h3 h5 hB8
        go_wp2_with fail
        with_reducible refine (add_any (sh 1 fun i => Gf.box (s i)) (rk k r) l2 (rk_lt hk r) _).mono ?_
        rintro e w9 ⟨rfl, hb9⟩
        have j2 := i2.kept hb9
        have j3 := i3.kept hb9
        have j5 := i5.kept hb9
        have jB := iB.trans (hb9.mono iB.size)
        clear i2 i3 i5 iB hb9
        go_wp2_with (first | (refine wpList_store_all rfl 27 _ _ rfl rfl j2 (xr (sh 1 fun i => Gf.box (s i)) (rk k r)) rfl info27 ?_; intro w10 g2 hu10; have g3 := j3.upd hu10 (by omega); have g5 := j5.upd hu10 (by omega); have gB := hu10.below jB (by omega); clear j2 j3 j5 jB hu10))
        go_roundw
        case measure => simp [intOf]; omega
        case rel =>
          refine ⟨r + 1, by omega, by omega, by go_num, gB, ?_, g3, g5⟩
          obtain ⟨q, rfl⟩ : ∃ q, r = q + 1 := ⟨r - 1, by omega⟩
          have e : enc k b (q + 1 + 1 - 1) = xr (sh 1 fun i => Gf.box (s i)) (rk k (q + 1)) := by
            rw [show q + 1 + 1 - 1 = q + 1 by omega, enc, if_neg (by omega), HS.out]
            rfl
          rw [e]
          exact g2
    · have hr11 : r = 11 := by omega
      subst hr11
      go_wp2_with (first | (refine wpList_load_all rfl 27 _ rfl rfl c2 _ Try.underlying27 rfl info27 ?_) | (refine wpList_store_all rfl 27 _ _ rfl rfl c3 _ rfl info27 ?_; intro w2 b5 hu))
      exact bodyPost_ret (results_blk rfl _ rfl b5 _ Try.underlying27 rfl info27) rfl ⟨rfl, hu.below hB (by omega)⟩

/-- A block turned back, so many rounds. -/
def dec (k b : Nat → Nat) : Nat → Nat → Nat
  | 0 => b
  | j + 1 => fun i => Gf.unbox (sh 3 (if 10 - j < 10 then mix (xr (dec k b j) (rk k (10 - j))) (four 14 11 13 9) else xr (dec k b j) (rk k (10 - j))) i)
theorem unbox_f {f : Nat → Nat} (hf : ∀ i, f i < 256) (i : Nat) : Gf.unbox (f i) < 256 := Gf.unbox_lt _ (hf i)
theorem dec_lt {k b : Nat → Nat} (hk : ∀ i, k i < 256) (hb : ∀ i, b i < 256) : ∀ j i, dec k b j i < 256
  | 0, i => hb i
  | j + 1, i => by
    refine unbox_f (f := fun i => sh 3 (if 10 - j < 10 then mix (xr (dec k b j) (rk k (10 - j))) (four 14 11 13 9) else xr (dec k b j) (rk k (10 - j))) i) (fun i => ?_) i
    show (if 10 - j < 10 then mix (xr (dec k b j) (rk k (10 - j))) (four 14 11 13 9) else xr (dec k b j) (rk k (10 - j))) _ < 256
    split
    · exact mix_lt (four_lt (by decide) (by decide) (by decide) (by decide)) _
    · exact xr_lt (fun i => dec_lt hk hb j i) (rk_lt hk _) _
def decrypt (k b : Nat → Nat) : Nat → Nat := xr (dec k b 10) (rk k 0)
set_option maxHeartbeats 4000000 in
theorem decrypt_any (k b : Nat → Nat) (hk : ∀ i, k i < 256) (hb : ∀ i, b i < 256) (w : World) :
    Calls Try.prog 20 #[A16 k, A16 b] w fun e w' => e = .returned (A16 (decrypt k b)) ∧ Below w.heap.size w w' := by
  have hz := zero28
  have b1 : ∀ o1 o2, Blk (((w.alloc (.cells (arr .u8 16 k) 27)).alloc o1).alloc o2) w.heap.size 27 (arr .u8 16 k) := fun o1 o2 => ((Blk.new w 27 (arr .u8 16 k)).alloc o1).alloc o2
  have b2 : ∀ o1 o2, Blk (((w.alloc o1).alloc (.cells (arr .u8 16 b) 27)).alloc o2) (w.heap.size + 1) 27 (arr .u8 16 b) := fun o1 o2 => (Blk.new_at (w.alloc o1) 27 _ (by simp)).alloc o2
  have b3 : ∀ o1 o2, Blk (((w.alloc o1).alloc o2).alloc (.cells (arr .u8 16 fun _ => 0) 27)) (w.heap.size + 1 + 1) 27 (arr .u8 16 fun _ => 0) := fun o1 o2 => Blk.new_at ((w.alloc o1).alloc o2) 27 _ (by simp)
  have hB0 : ∀ o1 o2 o3 : Obj, Below w.heap.size w (((w.alloc o1).alloc o2).alloc o3) := fun o1 o2 o3 => (((Below.refl _ _).alloc (Nat.le_refl _) _).alloc (by simp) _).alloc (by simp; omega) _
  have B1 := Lib.hid b1
  have B2 := Lib.hid b2
  have B3 := Lib.hid b3
  have HB0 := Lib.hid hB0
  clear b1 b2 b3 hB0
  go_enter Try.func20, Try.ntmps20
  go_wp2_with (first | (refine wpList_load_all rfl 27 _ rfl rfl (B1.out _ _) _ Try.underlying27 rfl info27 ?_))
  with_reducible refine (expand_any k hk _).mono ?_
  rintro e w1 ⟨rfl, hb1⟩
  have c2 := (B2.out _ _).kept hb1
  have c3 := (B3.out _ _).kept hb1
  have cB := (HB0.out _ _ _).trans (hb1.mono (by simp; omega))
  have cs : w.heap.size + 1 + 1 < w1.heap.size := c3.lt
  clear B1 B2 B3 HB0 hb1
  have d5 : Blk (w1.alloc (.cells (arr .u8 176 fun _ => 0) 28)) w1.heap.size 28 (arr .u8 176 fun _ => 0) := Blk.new _ _ _
  have d2 := c2.alloc (.cells (arr .u8 176 fun _ => 0) 28)
  have d3 := c3.alloc (.cells (arr .u8 176 fun _ => 0) 28)
  have dB := cB.alloc cB.size (.cells (arr .u8 176 fun _ => 0) 28)
  clear c2 c3 cB
  go_wp2_with (first | (refine wpList_store_all rfl 28 _ _ rfl rfl d5 _ rfl info28 ?_; intro w2 e5 hu2; have e2 := d2.upd hu2 (by omega); have e3 := d3.upd hu2 (by omega); have eB := hu2.below dB (by omega); clear d5 d2 d3 dB hu2))
  obtain ⟨n5, hn5⟩ : ∃ n5, n5 = w1.heap.size := ⟨_, rfl⟩
  rw [← hn5] at e5 cs
  rw [← hn5]
  clear hn5
  go_loopw [6] (fun v wr => ∃ r : Nat, r ≤ 10 ∧ v = .int .i64 r ∧ Below w.heap.size w wr ∧ Blk wr (w.heap.size + 1) 27 (arr .u8 16 (dec k b (10 - r))) ∧ Blk wr (w.heap.size + 1 + 1) 27 (arr .u8 16 fun _ => 0) ∧ Blk wr n5 28 (arr .u8 176 (keys k))) (fun v _ => (intOf v).toNat)
  case atStart => exact ⟨10, by decide, rfl, eB, e2, e3, e5⟩
  case round =>
    clear eB e2 e3 e5
    obtain ⟨r, hr, rfl, hB, c2, c3, c5⟩ := hrel
    have hp := dec_lt hk hb (10 - r)
    obtain ⟨s, hs⟩ : ∃ s, s = dec k b (10 - r) := ⟨_, rfl⟩
    rw [← hs] at c2 hp
    have HS := Lib.hid hs
    clear hs
    by_cases hlt : 0 < r
    · have hr' : (0 : Int) < (r : Int) := by omega
      have hr11 : (r : Int) < 11 := by omega
      have hqv : ∀ i, i < 16 → (keys k) (r * 16 + i) = rk k r i := fun i _ => rfl
      have HQ := Lib.hid hqv
      clear hqv
      go_wp2_with fail
      refine wp_region_still_tail 4 (by kernel_rfl) (by kernel_rfl) ?_
      simp only [List.take_succ_cons, List.take_zero, List.drop_succ_cons, List.drop_zero]
      refine wpStill_load_all rfl 27 _ rfl rfl c2.drew _ Try.underlying27 rfl info27 ?_
      repeat still_step
      refine wpStill_load_part rfl 27 _ rfl rfl c5.drew 16 (by omega) (rk k r) HQ.out _ Try.underlying27 rfl info27 ?_
      refine wpStill_nil ?_
      change wpList _ _ _ _ _ (World.drew _)
      have i2 := c2.drew
      have i3 := c3.drew
      have i5 := c5.drew
      have iB := hB.drew
      clear c2 c3 c5 hB HQ
      go_wp2_with fail
      with_reducible refine (add_any s (rk k r) hp (rk_lt hk r) _).mono ?_
      rintro e w9 ⟨rfl, hb9⟩
      have j2 := i2.kept hb9
      have j3 := i3.kept hb9
      have j5 := i5.kept hb9
      have jB := iB.trans (hb9.mono iB.size)
      clear i2 i3 i5 iB hb9
      have l1 : ∀ i, xr s (rk k r) i < 256 := xr_lt hp (rk_lt hk r)
      by_cases h10 : r < 10
      · have hd : decide ((r : Int) < 10) = true := by rw [decide_eq_true_eq]; omega
        have h10' : (r : Int) < 10 := by omega
        go_wp2_with (first | (refine wpList_store_all rfl 27 _ _ rfl rfl j2 (xr s (rk k r)) rfl info27 ?_; intro w10 g2 hu10; have g3 := j3.upd hu10 (by omega); have g5 := j5.upd hu10 (by omega); have gB := hu10.below jB (by omega); clear j2 j3 j5 jB hu10) | (refine wpList_load_all rfl 27 _ rfl rfl g2 _ Try.underlying27 rfl info27 ?_))
        with_reducible refine (mixed_dec (xr s (rk k r)) l1 _).mono ?_
        rintro e w8 ⟨rfl, hb8⟩
        have k2 := g2.kept hb8
        have k3 := g3.kept hb8
        have k5 := g5.kept hb8
        have kB := gB.trans (hb8.mono gB.size)
        clear g2 g3 g5 gB hb8
        have l3 : ∀ i, mix (xr s (rk k r)) (four 14 11 13 9) i < 256 := mix_lt (four_lt (by decide) (by decide) (by decide) (by decide))
        go_wp2_with (first | (refine wpList_store_all rfl 27 _ _ rfl rfl k2 (mix (xr s (rk k r)) (four 14 11 13 9)) rfl info27 ?_; intro w11 h2 hu11; have h3 := k3.upd hu11 (by omega); have h5 := k5.upd hu11 (by omega); have hB8 := hu11.below kB (by omega); clear k2 k3 k5 kB hu11) | (refine wpList_load_all rfl 27 _ rfl rfl h2 _ Try.underlying27 rfl info27 ?_))
        go_wp2_with (first | (refine wpList_load_all rfl 27 _ rfl rfl h2 _ Try.underlying27 rfl info27 ?_))
        with_reducible refine (shifted3 _ _).mono ?_
        rintro e w5 ⟨rfl, hb5⟩
        have m2 := h2.kept hb5
        have m3 := h3.kept hb5
        have m5 := h5.kept hb5
        have mB := hB8.trans (hb5.mono hB8.size)
        clear h2 h3 h5 hB8 hb5
        have ls : ∀ i, sh 3 (mix (xr s (rk k r)) (four 14 11 13 9)) i < 256 := fun i => l3 _
        have HSH : Hid ((fun i => (mix (xr s (rk k r)) (four 14 11 13 9)) ((i + 4 * 3 * (i % 4)) % 16)) = sh 3 (mix (xr s (rk k r)) (four 14 11 13 9))) := Lib.hid rfl
        go_wp2_with fail
        change Calls Try.prog 28 #[A16 (sh 3 (mix (xr s (rk k r)) (four 14 11 13 9))), .func (.func 31) #[] #[]] _ _
        with_reducible refine (each31 (sh 3 (mix (xr s (rk k r)) (four 14 11 13 9))) ls _).mono ?_
        rintro e w6 ⟨rfl, hb6⟩
        have n2 := m2.kept hb6
        have n3 := m3.kept hb6
        have n5' := m5.kept hb6
        have nB := mB.trans (hb6.mono mB.size)
        clear m2 m3 m5 mB hb6 HSH
        go_wp2_with (first | (refine wpList_store_all rfl 27 _ _ rfl rfl n2 (fun i => Gf.unbox (sh 3 (mix (xr s (rk k r)) (four 14 11 13 9)) i)) rfl info27 ?_; intro w12 g2 hu12; have g3 := n3.upd hu12 (by omega); have g5 := n5'.upd hu12 (by omega); have gB := hu12.below nB (by omega); clear n2 n3 n5' nB hu12))
        go_roundw
        case measure => simp [intOf]; omega
        case rel =>
          refine ⟨r - 1, by omega, by go_num, gB, ?_, g3, g5⟩
          have e : dec k b (10 - (r - 1)) = fun i => Gf.unbox (sh 3 (mix (xr s (rk k r)) (four 14 11 13 9)) i) := by
            rw [show 10 - (r - 1) = (10 - r) + 1 by omega, dec, show 10 - (10 - r) = r by omega, if_pos h10, HS.out]
          rw [e]
          exact g2
      · have hd : decide ((r : Int) < 10) = false := by rw [decide_eq_false_iff_not]; omega
        have h10' : ¬ (r : Int) < 10 := by omega
        go_wp2_with (first | (refine wpList_store_all rfl 27 _ _ rfl rfl j2 (xr s (rk k r)) rfl info27 ?_; intro w10 h2 hu10; have h3 := j3.upd hu10 (by omega); have h5 := j5.upd hu10 (by omega); have hB8 := hu10.below jB (by omega); clear j2 j3 j5 jB hu10) | (refine wpList_load_all rfl 27 _ rfl rfl h2 _ Try.underlying27 rfl info27 ?_))
        go_wp2_with (first | (refine wpList_load_all rfl 27 _ rfl rfl h2 _ Try.underlying27 rfl info27 ?_))
        with_reducible refine (shifted3 _ _).mono ?_
        rintro e w5 ⟨rfl, hb5⟩
        have m2 := h2.kept hb5
        have m3 := h3.kept hb5
        have m5 := h5.kept hb5
        have mB := hB8.trans (hb5.mono hB8.size)
        clear h2 h3 h5 hB8 hb5
        have ls : ∀ i, sh 3 (xr s (rk k r)) i < 256 := fun i => l1 _
        have HSH : Hid ((fun i => (xr s (rk k r)) ((i + 4 * 3 * (i % 4)) % 16)) = sh 3 (xr s (rk k r))) := Lib.hid rfl
        go_wp2_with fail
        change Calls Try.prog 28 #[A16 (sh 3 (xr s (rk k r))), .func (.func 31) #[] #[]] _ _
        with_reducible refine (each31 (sh 3 (xr s (rk k r))) ls _).mono ?_
        rintro e w6 ⟨rfl, hb6⟩
        have n2 := m2.kept hb6
        have n3 := m3.kept hb6
        have n5' := m5.kept hb6
        have nB := mB.trans (hb6.mono mB.size)
        clear m2 m3 m5 mB hb6 HSH
        go_wp2_with (first | (refine wpList_store_all rfl 27 _ _ rfl rfl n2 (fun i => Gf.unbox (sh 3 (xr s (rk k r)) i)) rfl info27 ?_; intro w12 g2 hu12; have g3 := n3.upd hu12 (by omega); have g5 := n5'.upd hu12 (by omega); have gB := hu12.below nB (by omega); clear n2 n3 n5' nB hu12))
        go_roundw
        case measure => simp [intOf]; omega
        case rel =>
          refine ⟨r - 1, by omega, by go_num, gB, ?_, g3, g5⟩
          have e : dec k b (10 - (r - 1)) = fun i => Gf.unbox (sh 3 (xr s (rk k r)) i) := by
            rw [show 10 - (r - 1) = (10 - r) + 1 by omega, dec, show 10 - (10 - r) = r by omega, if_neg h10, HS.out]
          rw [e]
          exact g2
    · have hr0 : r = 0 := by omega
      subst hr0
      go_wp2_with (first | (refine wpList_load_all rfl 27 _ rfl rfl c2 _ Try.underlying27 rfl info27 ?_) | (refine wpList_load_part rfl 27 _ rfl rfl c5 16 (by decide) (rk k 0) (fun i _ => by unfold rk; rw [Nat.zero_mul]) _ Try.underlying27 rfl info27 ?_))
      with_reducible refine (add_any s (rk k 0) hp (rk_lt hk 0) _).mono ?_
      rintro e w9 ⟨rfl, hb9⟩
      have j3 := c3.kept hb9
      have jB := hB.trans (hb9.mono hB.size)
      go_wp2_with (first | (refine wpList_store_all rfl 27 _ _ rfl rfl j3 (xr s (rk k 0)) rfl info27 ?_; intro w2 b5 hu))
      have e : decrypt k b = xr s (rk k 0) := by rw [HS.out]; rfl
      rw [← e] at b5
      exact bodyPost_ret (results_blk rfl _ rfl b5 _ Try.underlying27 rfl info27) rfl ⟨rfl, hu.below jB (by omega)⟩
end Go.Proofs.Ytghmelcbkjejeaa.En
