/- The contract of the program's mixing. Any block, any row of four bytes. -/
import Derived.Test.YtghmelcbkjejeaaAr
namespace Go.Proofs.Ytghmelcbkjejeaa.Mx
open Go.RowKit Go.Proofs.Ytghmelcbkjejeaa.Mem Go.Proofs.Ytghmelcbkjejeaa.Sc Go.Proofs.Ytghmelcbkjejeaa.Ar
/-- A mixed column's byte, k products in. -/
def mixT (f c : Nat → Nat) (i : Nat) : Nat → Nat
  | 0 => 0
  | k + 1 => mixT f c i k ^^^ Gf.m8 (c ((k + 4 - i % 4) % 4)) (f (i / 4 * 4 + k))
def mix (f c : Nat → Nat) (i : Nat) : Nat := mixT f c i 4
abbrev A4 (f : Nat → Nat) : Value := .agg (arr .u8 4 f)
theorem mixT_lt (f c : Nat → Nat) (hc : ∀ i, c i < 256) (i : Nat) : ∀ k, mixT f c i k < 256
  | 0 => (by decide : 0 < 256)
  | k + 1 => Nat.xor_lt_two_pow (n := 8) (mixT_lt f c hc i k) (Gf.mul_lt 8 _ _ (hc _))
set_option maxHeartbeats 2000000 in
theorem mixed_any (f c : Nat → Nat) (hf : ∀ i, f i < 256) (hc : ∀ i, c i < 256) (w : World) :
    Calls Try.prog 29 #[A16 f, A4 c] w fun e w' => e = .returned (A16 (mix f c)) ∧ Below w.heap.size w w' := by
  go_enter Try.func29, Try.ntmps29
  go_wp2
  go_loopw [10] (fun v wr => ∃ k : Nat, k ≤ 16 ∧ v = .int .i64 k ∧ Below w.heap.size w wr ∧ Blk wr w.heap.size 27 (arr .u8 16 f) ∧ Blk wr (w.heap.size + 1) 37 (arr .u8 4 c) ∧ Blk wr (w.heap.size + 1 + 1) 27 (arr .u8 16 fun _ => 0) ∧ Blk wr (w.heap.size + 1 + 1 + 1) 27 (arr .u8 16 fun i => if i < k then mix f c i else 0)) (fun v _ => 16 - (intOf v).toNat)
  case atStart =>
    refine ⟨0, Nat.zero_le _, rfl, ?_, ?_, ?_, ?_, ?_⟩
    · exact ((((Below.refl _ _).alloc (Nat.le_refl _) _).alloc (by simp) _).alloc (by simp; omega) _).alloc (by simp; omega) _
    · exact (((Blk.new w 27 (arr .u8 16 f)).alloc (.cells (arr .u8 4 c) 37)).alloc (.cells (arr .u8 16 fun _ => 0) 27)).alloc (.cells (arr .u8 16 fun _ => 0) 27)
    · exact ((Blk.new_at (w.alloc (.cells (arr .u8 16 f) 27)) 37 (arr .u8 4 c) (by simp)).alloc (.cells (arr .u8 16 fun _ => 0) 27)).alloc (.cells (arr .u8 16 fun _ => 0) 27)
    · exact (Blk.new_at ((w.alloc (.cells (arr .u8 16 f) 27)).alloc (.cells (arr .u8 4 c) 37)) 27 (arr .u8 16 fun _ => 0) (by simp)).alloc (.cells (arr .u8 16 fun _ => 0) 27)
    · exact Blk.new_at (((w.alloc (.cells (arr .u8 16 f) 27)).alloc (.cells (arr .u8 4 c) 37)).alloc (.cells (arr .u8 16 fun _ => 0) 27)) 27 (arr .u8 16 fun _ => 0) (by simp)
  case round =>
    obtain ⟨k, hk, rfl, hB, b1, b2, b3, b4⟩ := hrel
    by_cases hlt : k < 16
    · have hd0 : decide ((k : Int) < 16) = true := by rw [decide_eq_true_eq]; omega
      go_wp2
      obtain ⟨wo, rfl⟩ : ∃ wo : World, wo = wr := ⟨_, rfl⟩
      have b4' : Blk wo (w.heap.size + 1 + 1 + 1) 27 (arr .u8 16 fun i => if i < k then mix f c i else if i = k then mixT f c k 0 else 0) := by
        rw [arr_congr (g := fun i => if i < k then mix f c i else 0) (fun i _ => by
          by_cases h1 : i < k
          · rw [if_pos h1, if_pos h1]
          · rw [if_neg h1, if_neg h1]; simp [mixT])]
        exact b4
      clear b4
      go_loopw [18] (fun v wr => ∃ j : Nat, j ≤ 4 ∧ v = .int .i64 j ∧ Below w.heap.size w wr ∧ Blk wr w.heap.size 27 (arr .u8 16 f) ∧ Blk wr (w.heap.size + 1) 37 (arr .u8 4 c) ∧ Blk wr (w.heap.size + 1 + 1) 27 (arr .u8 16 fun _ => 0) ∧ Blk wr (w.heap.size + 1 + 1 + 1) 27 (arr .u8 16 fun i => if i < k then mix f c i else if i = k then mixT f c k j else 0)) (fun v _ => 4 - (intOf v).toNat)
      case atStart => exact ⟨0, by decide, rfl, hB, b1, b2, b3, b4'⟩
      case round =>
        obtain ⟨j, hj, rfl, hB, b1, b2, b3, b4⟩ := hrel
        by_cases hjlt : j < 4
        · have c4 := b4.at_ k hlt
          obtain ⟨m, hm0⟩ : ∃ m, m = (j + 4 - k % 4) % 4 := ⟨_, rfl⟩
          obtain ⟨q, hq0⟩ : ∃ q, q = k / 4 * 4 + j := ⟨_, rfl⟩
          have n2 : m < 4 := by omega
          have n1 : q < 16 := by omega
          have c2 := b2.at_ m n2
          have c1 := b1.at_ q n1
          have h4 : IntKind.i64.wrap ((k : Int) / 4 * 4 + (j : Int)) = (q : Int) := by rw [IntWalk.i64_in _ (by omega)]; omega
          have h3 : Int.tmod ((j : Int) - (k : Int) % 4 + 4) 4 = (m : Int) := by rw [Int.tmod_eq_emod_of_nonneg (by omega)]; omega
          have h2 : IntKind.i64.wrap ((j : Int) - (k : Int) % 4 + 4) = (j : Int) - (k : Int) % 4 + 4 := IntWalk.i64_in _ (by omega)
          have h1 : IntKind.i64.wrap ((j : Int) - (k : Int) % 4) = (j : Int) - (k : Int) % 4 := IntWalk.i64_in _ (by omega)
          have n2' : (m : Int) < 4 := by omega
          have n1' : (q : Int) < 16 := by omega
          have n0' : (k : Int) < 16 := by omega
          have hm := Lib.hid hm0
          have hq := Lib.hid hq0
          clear hm0 hq0
          have mc := hc m
          have mf := hf q
          have z4 := b4.frozen k
          go_wp2
          refine wp_region_still_tail 18 (by kernel_rfl) (by kernel_rfl) ?_
          simp only [List.take_succ_cons, List.take_zero, List.drop_succ_cons, List.drop_zero]
          repeat still_step
          still_call ((times_same (c m) (f q) mc mf _).mono (fun e w' ⟨he, hw⟩ => ⟨he, hw.symm⟩))
          repeat still_step
          refine wpStill_nil ?_
          change wpList _ _ _ _ _ wr.drew
          go_wp2
          go_roundw
          case measure => simp [intOf]; omega
          case rel =>
            have lm := mixT_lt f c hc k j
            have lx := Gf.mul_lt 8 (c m) (f q) mc
            have ex := u8_xor_nat _ _ lm lx
            have es : mixT f c k (j + 1) = mixT f c k j ^^^ Gf.m8 (c m) (f q) := by rw [hm.out, hq.out]; rfl
            refine ⟨j + 1, by omega, by go_num, ?_, ?_, ?_, ?_, ?_⟩
            · exact (hB.setCell (by simp; omega) _).drew
            · exact (b1.far (p := ⟨w.heap.size + 1 + 1 + 1, k, none⟩) (by simp; omega) _).drew
            · exact (b2.far (p := ⟨w.heap.size + 1 + 1 + 1, k, none⟩) (by simp) _).drew
            · exact (b3.far (p := ⟨w.heap.size + 1 + 1 + 1, k, none⟩) (by simp) _).drew
            · have h := (b4.set_ k (.int .u8 (bits .xor .u8 (mixT f c k j) (Gf.m8 (c m) (f q))))).drew
              rw [ex, arr_set] at h
              have e : arr .u8 16 (fun i => if i < k then mix f c i else if i = k then mixT f c k (j + 1) else 0) = arr .u8 16 (fun i => if i = k then mixT f c k j ^^^ Gf.m8 (c m) (f q) else if i < k then mix f c i else if i = k then mixT f c k j else 0) := arr_congr fun i _ => by
                by_cases h1 : i = k
                · subst h1; simp [es]
                · by_cases h2 : i < k
                  · rw [if_pos h2, if_neg h1, if_pos h2]
                  · rw [if_neg h2, if_neg h1, if_neg h1, if_neg h2, if_neg h1]
              rw [e, ex]
              exact h
        · have hj4 : j = 4 := by omega
          subst hj4
          go_wp2
          go_roundw
          case measure => simp [intOf]; omega
          case rel =>
            refine ⟨k + 1, by omega, by go_num, hB, b1, b2, b3, ?_⟩
            rw [arr_congr (g := fun i => if i < k then mix f c i else if i = k then mixT f c k 4 else 0) (fun i _ => by
              by_cases h1 : i = k
              · subst h1; simp [mix]
              · by_cases h2 : i < k
                · rw [if_pos (by omega), if_pos h2]
                · rw [if_neg (by omega), if_neg h2, if_neg h1])]
            exact b4
    · have hk16 : k = 16 := by omega
      have bf : Blk wr (w.heap.size + 1 + 1 + 1) 27 (arr .u8 16 (mix f c)) := by
        rw [arr_congr (g := fun i => if i < k then mix f c i else 0) (fun i hi => by rw [if_pos (by omega)])]
        exact b4
      clear b4 hk16
      go_wp2_with (first | (refine wpList_load_all rfl 27 _ rfl rfl bf _ Try.underlying27 rfl info27 ?_) | (refine wpList_store_all rfl 27 _ _ rfl rfl b3 _ rfl info27 ?_; intro w2 b5 hu))
      exact bodyPost_ret (results_blk rfl _ rfl b5 _ Try.underlying27 rfl info27) rfl ⟨rfl, hu.below hB (by omega)⟩
end Go.Proofs.Ytghmelcbkjejeaa.Mx
