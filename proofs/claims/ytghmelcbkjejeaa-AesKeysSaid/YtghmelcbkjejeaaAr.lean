/- The contracts of the program's functions over blocks (add, shifted, each, mixed): each answers as the plain function says, and makes new memory alone. Any blocks of bytes. -/
import Derived.Test.YtghmelcbkjejeaaSc
namespace Go.Proofs.Ytghmelcbkjejeaa.Ar
open Go.RowKit Go.Proofs.Ytghmelcbkjejeaa.Mem Go.Proofs.Ytghmelcbkjejeaa.Sc
theorem info27 : (Try.prog.info? 27).map (·.size) = some 16 := by kernel_rfl
theorem info37 : (Try.prog.info? 37).map (·.size) = some 4 := by kernel_rfl
theorem info28 : (Try.prog.info? 28).map (·.size) = some 176 := by kernel_rfl
abbrev A16 (f : Nat → Nat) : Value := .agg (arr .u8 16 f)
theorem zeros16 (w : World) : (w.alloc (.cells #[.int .u8 0, .int .u8 0, .int .u8 0, .int .u8 0, .int .u8 0, .int .u8 0, .int .u8 0, .int .u8 0, .int .u8 0, .int .u8 0, .int .u8 0, .int .u8 0, .int .u8 0, .int .u8 0, .int .u8 0, .int .u8 0] 27)) = w.alloc (.cells (arr .u8 16 fun _ => 0) 27) := rfl

set_option maxHeartbeats 1000000 in
theorem add_any (f g : Nat → Nat) (hf : ∀ i, f i < 256) (hg : ∀ i, g i < 256) (w : World) :
    Calls Try.prog 26 #[A16 f, A16 g] w fun e w' => e = .returned (A16 fun i => f i ^^^ g i) ∧ Below w.heap.size w w' := by
  go_enter Try.func26, Try.ntmps26
  go_wp2
  go_loopw [6] (fun v wr => ∃ k : Nat, k ≤ 16 ∧ v = .int .i64 k ∧ Below w.heap.size w wr ∧ Blk wr w.heap.size 27 (arr .u8 16 fun i => if i < k then f i ^^^ g i else f i) ∧ Blk wr (w.heap.size + 1) 27 (arr .u8 16 g) ∧ Blk wr (w.heap.size + 1 + 1) 27 (arr .u8 16 fun _ => 0)) (fun v _ => 16 - (intOf v).toNat)
  case atStart =>
    refine ⟨0, Nat.zero_le _, rfl, ?_, ?_, ?_, ?_⟩
    · exact (((Below.refl _ _).alloc (Nat.le_refl _) _).alloc (by simp) _).alloc (by simp; omega) _
    · exact ((Blk.new w 27 (arr .u8 16 f)).alloc (.cells (arr .u8 16 g) 27)).alloc (.cells (arr .u8 16 fun _ => 0) 27)
    · exact (Blk.new_at (w.alloc (.cells (arr .u8 16 f) 27)) 27 (arr .u8 16 g) (by simp)).alloc (.cells (arr .u8 16 fun _ => 0) 27)
    · exact Blk.new_at ((w.alloc (.cells (arr .u8 16 f) 27)).alloc (.cells (arr .u8 16 g) 27)) 27 (arr .u8 16 fun _ => 0) (by simp)
  case round =>
    obtain ⟨k, hk, rfl, hB, b1, b2, b3⟩ := hrel
    by_cases hlt : k < 16
    · have c1 := b1.at_ k hlt
      have c2 := b2.at_ k hlt
      have z1 := b1.frozen k
      go_wp2
      go_region
      go_wp2
      go_roundw
      case measure => simp [intOf]; omega
      case rel =>
        refine ⟨k + 1, by omega, by go_num, ?_, ?_, ?_, ?_⟩
        · exact (hB.setCell (by simp) _).drew
        · have h := (b1.set_ k (.int .u8 (bits .xor .u8 (f k) (g k)))).drew
          rw [u8_xor_nat _ _ (hf k) (hg k), arr_set] at h
          have e : arr .u8 16 (fun i => if i < k + 1 then f i ^^^ g i else f i) = arr .u8 16 (fun i => if i = k then f k ^^^ g k else if i < k then f i ^^^ g i else f i) := arr_congr fun i _ => by
            by_cases h1 : i = k
            · subst h1; simp
            · by_cases h2 : i < k
              · rw [if_pos (by omega), if_neg h1, if_pos h2]
              · rw [if_neg (by omega), if_neg h1, if_neg h2]
          rw [e, u8_xor_nat _ _ (hf k) (hg k)]
          exact h
        · exact (b2.far (p := ⟨w.heap.size, k, none⟩) (by simp) _).drew
        · exact (b3.far (p := ⟨w.heap.size, k, none⟩) (by simp; omega) _).drew
    · have hk16 : k = 16 := by omega
      have bf : Blk wr w.heap.size 27 (arr .u8 16 fun i => f i ^^^ g i) := by
        rw [arr_congr (g := fun i => if i < k then f i ^^^ g i else f i) (fun i hi => by rw [if_pos (by omega)])]
        exact b1
      clear b1 hk16
      go_wp2_with (first | (refine wpList_load_all rfl 27 _ rfl rfl bf _ Try.underlying27 rfl info27 ?_) | (refine wpList_store_all rfl 27 _ _ rfl rfl b3 _ rfl info27 ?_; intro w2 b4 hu))
      exact bodyPost_ret (results_blk rfl _ rfl b4 _ Try.underlying27 rfl info27) rfl ⟨rfl, hu.below hB (by omega)⟩

set_option maxHeartbeats 1000000 in
theorem shifted1 (f : Nat → Nat) (w : World) :
    Calls Try.prog 27 #[A16 f, .int .i64 1] w fun e w' => e = .returned (A16 fun i => f ((i + 4 * 1 * (i % 4)) % 16)) ∧ Below w.heap.size w w' := by
  go_enter Try.func27, Try.ntmps27
  go_wp2
  go_loopw [7] (fun v wr => ∃ k : Nat, k ≤ 16 ∧ v = .int .i64 k ∧ Below w.heap.size w wr ∧ Blk wr w.heap.size 27 (arr .u8 16 f) ∧ Blk wr (w.heap.size + 1) 27 (arr .u8 16 fun _ => 0) ∧ Blk wr (w.heap.size + 1 + 1) 27 (arr .u8 16 fun i => if i < k then f ((i + 4 * 1 * (i % 4)) % 16) else 0)) (fun v _ => 16 - (intOf v).toNat)
  case atStart =>
    refine ⟨0, Nat.zero_le _, rfl, ?_, ?_, ?_, ?_⟩
    · exact (((Below.refl _ _).alloc (Nat.le_refl _) _).alloc (by simp) _).alloc (by simp; omega) _
    · exact ((Blk.new w 27 (arr .u8 16 f)).alloc (.cells (arr .u8 16 fun _ => 0) 27)).alloc (.cells (arr .u8 16 fun _ => 0) 27)
    · exact (Blk.new_at (w.alloc (.cells (arr .u8 16 f) 27)) 27 (arr .u8 16 fun _ => 0) (by simp)).alloc (.cells (arr .u8 16 fun _ => 0) 27)
    · exact Blk.new_at ((w.alloc (.cells (arr .u8 16 f) 27)).alloc (.cells (arr .u8 16 fun _ => 0) 27)) 27 (arr .u8 16 fun _ => 0) (by simp)
  case round =>
    obtain ⟨k, hk, rfl, hB, b1, b2, b3⟩ := hrel
    by_cases hlt : k < 16
    · have c1 := b1.at_ ((k + 4 * 1 * (k % 4)) % 16) (by omega)
      have c2 := b3.at_ k hlt
      have z1 := b3.frozen k
      go_wp2
      go_roundw
      case measure => simp [intOf]; omega
      case rel =>
        refine ⟨k + 1, by omega, by go_num, ?_, ?_, ?_, ?_⟩
        · exact hB.setCell (by simp; omega) _
        · exact b1.far (by simp; omega) _
        · exact b2.far (by simp) _
        · have h := b3.set_ k (.int .u8 (f ((k + 4 * 1 * (k % 4)) % 16)))
          rw [arr_set] at h
          have e : arr .u8 16 (fun i => if i < k + 1 then f ((i + 4 * 1 * (i % 4)) % 16) else 0) = arr .u8 16 (fun i => if i = k then f ((k + 4 * 1 * (k % 4)) % 16) else if i < k then f ((i + 4 * 1 * (i % 4)) % 16) else 0) := arr_congr fun i _ => by
            by_cases h1 : i = k
            · subst h1; simp
            · by_cases h2 : i < k
              · rw [if_pos (by omega), if_neg h1, if_pos h2]
              · rw [if_neg (by omega), if_neg h1, if_neg h2]
          rw [e]
          exact h
    · have hk16 : k = 16 := by omega
      have bf : Blk wr (w.heap.size + 1 + 1) 27 (arr .u8 16 fun i => f ((i + 4 * 1 * (i % 4)) % 16)) := by
        rw [arr_congr (g := fun i => if i < k then f ((i + 4 * 1 * (i % 4)) % 16) else 0) (fun i hi => by rw [if_pos (by omega)])]
        exact b3
      clear b3 hk16
      go_wp2_with (first | (refine wpList_load_all rfl 27 _ rfl rfl bf _ Try.underlying27 rfl info27 ?_) | (refine wpList_store_all rfl 27 _ _ rfl rfl b2 _ rfl info27 ?_; intro w2 b4 hu))
      exact bodyPost_ret (results_blk rfl _ rfl b4 _ Try.underlying27 rfl info27) rfl ⟨rfl, hu.below hB (by omega)⟩

set_option maxHeartbeats 1000000 in
theorem shifted3 (f : Nat → Nat) (w : World) :
    Calls Try.prog 27 #[A16 f, .int .i64 3] w fun e w' => e = .returned (A16 fun i => f ((i + 4 * 3 * (i % 4)) % 16)) ∧ Below w.heap.size w w' := by
  go_enter Try.func27, Try.ntmps27
  go_wp2
  go_loopw [7] (fun v wr => ∃ k : Nat, k ≤ 16 ∧ v = .int .i64 k ∧ Below w.heap.size w wr ∧ Blk wr w.heap.size 27 (arr .u8 16 f) ∧ Blk wr (w.heap.size + 1) 27 (arr .u8 16 fun _ => 0) ∧ Blk wr (w.heap.size + 1 + 1) 27 (arr .u8 16 fun i => if i < k then f ((i + 4 * 3 * (i % 4)) % 16) else 0)) (fun v _ => 16 - (intOf v).toNat)
  case atStart =>
    refine ⟨0, Nat.zero_le _, rfl, ?_, ?_, ?_, ?_⟩
    · exact (((Below.refl _ _).alloc (Nat.le_refl _) _).alloc (by simp) _).alloc (by simp; omega) _
    · exact ((Blk.new w 27 (arr .u8 16 f)).alloc (.cells (arr .u8 16 fun _ => 0) 27)).alloc (.cells (arr .u8 16 fun _ => 0) 27)
    · exact (Blk.new_at (w.alloc (.cells (arr .u8 16 f) 27)) 27 (arr .u8 16 fun _ => 0) (by simp)).alloc (.cells (arr .u8 16 fun _ => 0) 27)
    · exact Blk.new_at ((w.alloc (.cells (arr .u8 16 f) 27)).alloc (.cells (arr .u8 16 fun _ => 0) 27)) 27 (arr .u8 16 fun _ => 0) (by simp)
  case round =>
    obtain ⟨k, hk, rfl, hB, b1, b2, b3⟩ := hrel
    by_cases hlt : k < 16
    · have c1 := b1.at_ ((k + 4 * 3 * (k % 4)) % 16) (by omega)
      have c2 := b3.at_ k hlt
      have z1 := b3.frozen k
      go_wp2
      go_roundw
      case measure => simp [intOf]; omega
      case rel =>
        refine ⟨k + 1, by omega, by go_num, ?_, ?_, ?_, ?_⟩
        · exact hB.setCell (by simp; omega) _
        · exact b1.far (by simp; omega) _
        · exact b2.far (by simp) _
        · have h := b3.set_ k (.int .u8 (f ((k + 4 * 3 * (k % 4)) % 16)))
          rw [arr_set] at h
          have e : arr .u8 16 (fun i => if i < k + 1 then f ((i + 4 * 3 * (i % 4)) % 16) else 0) = arr .u8 16 (fun i => if i = k then f ((k + 4 * 3 * (k % 4)) % 16) else if i < k then f ((i + 4 * 3 * (i % 4)) % 16) else 0) := arr_congr fun i _ => by
            by_cases h1 : i = k
            · subst h1; simp
            · by_cases h2 : i < k
              · rw [if_pos (by omega), if_neg h1, if_pos h2]
              · rw [if_neg (by omega), if_neg h1, if_neg h2]
          rw [e]
          exact h
    · have hk16 : k = 16 := by omega
      have bf : Blk wr (w.heap.size + 1 + 1) 27 (arr .u8 16 fun i => f ((i + 4 * 3 * (i % 4)) % 16)) := by
        rw [arr_congr (g := fun i => if i < k then f ((i + 4 * 3 * (i % 4)) % 16) else 0) (fun i hi => by rw [if_pos (by omega)])]
        exact b3
      clear b3 hk16
      go_wp2_with (first | (refine wpList_load_all rfl 27 _ rfl rfl bf _ Try.underlying27 rfl info27 ?_) | (refine wpList_store_all rfl 27 _ _ rfl rfl b2 _ rfl info27 ?_; intro w2 b4 hu))
      exact bodyPost_ret (results_blk rfl _ rfl b4 _ Try.underlying27 rfl info27) rfl ⟨rfl, hu.below hB (by omega)⟩

set_option maxHeartbeats 1000000 in
theorem each13 (f : Nat → Nat) (hf : ∀ i, f i < 256) (w : World) :
    Calls Try.prog 28 #[A16 f, .func (.func 13) #[] #[]] w fun e w' => e = .returned (A16 fun i => Gf.box (f i)) ∧ Below w.heap.size w w' := by
  go_enter Try.func28, Try.ntmps28
  go_wp2
  go_loopw [6] (fun v wr => ∃ k : Nat, k ≤ 16 ∧ v = .int .i64 k ∧ Below w.heap.size w wr ∧ Blk wr w.heap.size 27 (arr .u8 16 fun i => if i < k then Gf.box (f i) else f i) ∧ Blk wr (w.heap.size + 1) 27 (arr .u8 16 fun _ => 0)) (fun v _ => 16 - (intOf v).toNat)
  case atStart =>
    refine ⟨0, Nat.zero_le _, rfl, ?_, ?_, ?_⟩
    · exact ((Below.refl _ _).alloc (Nat.le_refl _) _).alloc (by simp) _
    · exact (Blk.new w 27 (arr .u8 16 f)).alloc (.cells (arr .u8 16 fun _ => 0) 27)
    · exact Blk.new_at (w.alloc (.cells (arr .u8 16 f) 27)) 27 (arr .u8 16 fun _ => 0) (by simp)
  case round =>
    obtain ⟨k, hk, rfl, hB, b1, b2⟩ := hrel
    by_cases hlt : k < 16
    · have c1 := b1.at_ k hlt
      have z1 := b1.frozen k
      have hfk := hf k
      go_wp2_with fail
      refine (box_same (f k) hfk _).mono ?_
      rintro e w' ⟨rfl, rfl⟩
      go_wp2_with fail
      go_roundw
      case measure => simp [intOf]; omega
      case rel =>
        refine ⟨k + 1, by omega, by go_num, ?_, ?_, ?_⟩
        · exact hB.setCell (by simp) _
        · have h := b1.set_ k (.int .u8 (Gf.box (f k)))
          rw [arr_set] at h
          have e : arr .u8 16 (fun i => if i < k + 1 then Gf.box (f i) else f i) = arr .u8 16 (fun i => if i = k then Gf.box (f k) else if i < k then Gf.box (f i) else f i) := arr_congr fun i _ => by
            by_cases h1 : i = k
            · subst h1; simp
            · by_cases h2 : i < k
              · rw [if_pos (by omega), if_neg h1, if_pos h2]
              · rw [if_neg (by omega), if_neg h1, if_neg h2]
          rw [e]
          exact h
        · exact b2.far (by simp) _
    · have hk16 : k = 16 := by omega
      have bf : Blk wr w.heap.size 27 (arr .u8 16 fun i => Gf.box (f i)) := by
        rw [arr_congr (g := fun i => if i < k then Gf.box (f i) else f i) (fun i hi => by rw [if_pos (by omega)])]
        exact b1
      clear b1 hk16
      go_wp2_with (first | (refine wpList_load_all rfl 27 _ rfl rfl bf _ Try.underlying27 rfl info27 ?_) | (refine wpList_store_all rfl 27 _ _ rfl rfl b2 _ rfl info27 ?_; intro w2 b4 hu))
      exact bodyPost_ret (results_blk rfl _ rfl b4 _ Try.underlying27 rfl info27) rfl ⟨rfl, hu.below hB (by omega)⟩

set_option maxHeartbeats 1000000 in
theorem each31 (f : Nat → Nat) (hf : ∀ i, f i < 256) (w : World) :
    Calls Try.prog 28 #[A16 f, .func (.func 31) #[] #[]] w fun e w' => e = .returned (A16 fun i => Gf.unbox (f i)) ∧ Below w.heap.size w w' := by
  go_enter Try.func28, Try.ntmps28
  go_wp2
  go_loopw [6] (fun v wr => ∃ k : Nat, k ≤ 16 ∧ v = .int .i64 k ∧ Below w.heap.size w wr ∧ Blk wr w.heap.size 27 (arr .u8 16 fun i => if i < k then Gf.unbox (f i) else f i) ∧ Blk wr (w.heap.size + 1) 27 (arr .u8 16 fun _ => 0)) (fun v _ => 16 - (intOf v).toNat)
  case atStart =>
    refine ⟨0, Nat.zero_le _, rfl, ?_, ?_, ?_⟩
    · exact ((Below.refl _ _).alloc (Nat.le_refl _) _).alloc (by simp) _
    · exact (Blk.new w 27 (arr .u8 16 f)).alloc (.cells (arr .u8 16 fun _ => 0) 27)
    · exact Blk.new_at (w.alloc (.cells (arr .u8 16 f) 27)) 27 (arr .u8 16 fun _ => 0) (by simp)
  case round =>
    obtain ⟨k, hk, rfl, hB, b1, b2⟩ := hrel
    by_cases hlt : k < 16
    · have c1 := b1.at_ k hlt
      have z1 := b1.frozen k
      have hfk := hf k
      go_wp2_with fail
      refine (unbox_same (f k) hfk _).mono ?_
      rintro e w' ⟨rfl, rfl⟩
      go_wp2_with fail
      go_roundw
      case measure => simp [intOf]; omega
      case rel =>
        refine ⟨k + 1, by omega, by go_num, ?_, ?_, ?_⟩
        · exact hB.setCell (by simp) _
        · have h := b1.set_ k (.int .u8 (Gf.unbox (f k)))
          rw [arr_set] at h
          have e : arr .u8 16 (fun i => if i < k + 1 then Gf.unbox (f i) else f i) = arr .u8 16 (fun i => if i = k then Gf.unbox (f k) else if i < k then Gf.unbox (f i) else f i) := arr_congr fun i _ => by
            by_cases h1 : i = k
            · subst h1; simp
            · by_cases h2 : i < k
              · rw [if_pos (by omega), if_neg h1, if_pos h2]
              · rw [if_neg (by omega), if_neg h1, if_neg h2]
          rw [e]
          exact h
        · exact b2.far (by simp) _
    · have hk16 : k = 16 := by omega
      have bf : Blk wr w.heap.size 27 (arr .u8 16 fun i => Gf.unbox (f i)) := by
        rw [arr_congr (g := fun i => if i < k then Gf.unbox (f i) else f i) (fun i hi => by rw [if_pos (by omega)])]
        exact b1
      clear b1 hk16
      go_wp2_with (first | (refine wpList_load_all rfl 27 _ rfl rfl bf _ Try.underlying27 rfl info27 ?_) | (refine wpList_store_all rfl 27 _ _ rfl rfl b2 _ rfl info27 ?_; intro w2 b4 hu))
      exact bodyPost_ret (results_blk rfl _ rfl b4 _ Try.underlying27 rfl info27) rfl ⟨rfl, hu.below hB (by omega)⟩

end Go.Proofs.Ytghmelcbkjejeaa.Ar
