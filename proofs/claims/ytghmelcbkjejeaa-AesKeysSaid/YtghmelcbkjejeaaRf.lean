/- The contracts of the document's functions: Times, Box, mix. Any bytes. -/
import Derived.Test.YtghmelcbkjejeaaEn
import Derived.Test.YtghmelcbkjejeaaEq
import Derived.Test.YtghmelcbkjejeaaPureAesBox
namespace Go.Proofs.Ytghmelcbkjejeaa.Rf
open Go.RowKit Go.Proofs.Ytghmelcbkjejeaa.Mem Go.Proofs.Ytghmelcbkjejeaa.Sc Go.Proofs.Ytghmelcbkjejeaa.Ar Go.Proofs.Ytghmelcbkjejeaa.Mx Go.Proofs.Ytghmelcbkjejeaa.Ex Go.Proofs.Ytghmelcbkjejeaa.En
theorem rtimes (a b : Nat) (ha : a < 256) (hb : b < 256) (w : World) : Calls Try.prog 12 #[B a, B b] w fun e w' => e = .returned (B (Gf.m8 a b)) ∧ Below w.heap.size w w' := by
  refine (PAesBox.palatineref06_Times.calls 17 a b _ w (Pure.ref_eq 17 a b (by decide) ha hb)).mono ?_
  rintro e w' ⟨rfl, hd⟩
  exact ⟨rfl, hd.below⟩
theorem rtimes2 (b : Nat) (hb : b < 256) (w : World) : Calls Try.prog 12 #[.int .u8 2, B b] w fun e w' => e = .returned (B (Gf.m8 2 b)) ∧ Below w.heap.size w w' := rtimes 2 b (by decide) hb w
theorem rtimes3 (b : Nat) (hb : b < 256) (w : World) : Calls Try.prog 12 #[.int .u8 3, B b] w fun e w' => e = .returned (B (Gf.m8 3 b)) ∧ Below w.heap.size w w' := rtimes 3 b (by decide) hb w
theorem rtimesc (b : Nat) (hb : b < 256) (w : World) : Calls Try.prog 12 #[B b, .int .u8 2] w fun e w' => e = .returned (B (Gf.m8 b 2)) ∧ Below w.heap.size w w' := rtimes b 2 hb (by decide) w
theorem rbox_eq (a : Nat) (ha : a < 256) : PAesBox.palatineref06_Box.f 300 (a : Int) = some ((Gf.box a : Nat) : Int) := by
  rw [← Pure.box_eq 300 a (by decide) ha]
  unfold PAesBox.palatineref06_Box.f PAesBox.palatineref06_Inverse.f PAesBox.aes_Box.f
  have hi := Pure.refinv_l0 255 300 a 1 rfl (by decide) (by decide) ha (fun m hm hmn => by omega)
  have hl := Gf.inv_lt a ha
  rw [show (1 : Int) = ((1 : Nat) : Int) from rfl, hi, Pure.inverse_eq 300 a (by decide) ha, Option.bind_some, Option.bind_some, Br.w64 _ (by omega) (by omega)]
  exact (Pure.boxes_alike _ hl).symm
theorem rbox (a : Nat) (ha : a < 256) (w : World) : Calls Try.prog 14 #[B a] w fun e w' => e = .returned (B (Gf.box a)) ∧ Below w.heap.size w w' := by
  refine (PAesBox.palatineref06_Box.calls 300 a _ w (rbox_eq a ha)).mono ?_
  rintro e w' ⟨rfl, hd⟩
  exact ⟨rfl, hd.below⟩
/-- A column, mixed by the document. -/
def rmix (a : Nat → Nat) (k : Nat) : Nat := Gf.m8 2 (a k) ^^^ Gf.m8 3 (a ((k + 1) % 4)) ^^^ a ((k + 2) % 4) ^^^ a ((k + 3) % 4)
theorem rmix_lt {a : Nat → Nat} (ha : ∀ i, a i < 256) (k : Nat) : rmix a k < 256 :=
  Nat.xor_lt_two_pow (n := 8) (Nat.xor_lt_two_pow (n := 8) (Nat.xor_lt_two_pow (n := 8) (Gf.mul_lt 8 2 _ (by decide)) (Gf.mul_lt 8 3 _ (by decide))) (ha _)) (ha _)
set_option maxHeartbeats 2000000 in
theorem rmix_any (f : Nat → Nat) (hf : ∀ i, f i < 256) (w : World) :
    Calls Try.prog 30 #[A4 f] w fun e w' => e = .returned (A4 (rmix f)) ∧ Below w.heap.size w w' := by
  go_enter Try.func30, Try.ntmps30
  go_wp2
  go_loopw [4] (fun v wr => ∃ k : Nat, k ≤ 4 ∧ v = .int .i64 k ∧ Below w.heap.size w wr ∧ Blk wr w.heap.size 37 (arr .u8 4 f) ∧ Blk wr (w.heap.size + 1) 37 (arr .u8 4 fun _ => 0) ∧ Blk wr (w.heap.size + 1 + 1) 37 (arr .u8 4 fun i => if i < k then rmix f i else 0)) (fun v _ => 4 - (intOf v).toNat)
  case atStart =>
    refine ⟨0, Nat.zero_le _, rfl, ?_, ?_, ?_, ?_⟩
    · exact (((Below.refl _ _).alloc (Nat.le_refl _) _).alloc (by simp) _).alloc (by simp; omega) _
    · exact ((Blk.new w 37 (arr .u8 4 f)).alloc (.cells (arr .u8 4 fun _ => 0) 37)).alloc (.cells (arr .u8 4 fun _ => 0) 37)
    · exact (Blk.new_at (w.alloc (.cells (arr .u8 4 f) 37)) 37 (arr .u8 4 fun _ => 0) (by simp)).alloc (.cells (arr .u8 4 fun _ => 0) 37)
    · exact Blk.new_at ((w.alloc (.cells (arr .u8 4 f) 37)).alloc (.cells (arr .u8 4 fun _ => 0) 37)) 37 (arr .u8 4 fun _ => 0) (by simp)
  case round =>
    obtain ⟨k, hk, rfl, hB, b1, b2, b3⟩ := hrel
    by_cases hlt : k < 4
    · have hd0 : decide ((k : Int) < 4) = true := by rw [decide_eq_true_eq]; omega
      obtain ⟨m1, hm1⟩ : ∃ m, m = (k + 1) % 4 := ⟨_, rfl⟩
      obtain ⟨m2, hm2⟩ : ∃ m, m = (k + 2) % 4 := ⟨_, rfl⟩
      obtain ⟨m3, hm3⟩ : ∃ m, m = (k + 3) % 4 := ⟨_, rfl⟩
      have r1 : Int.tmod ((k : Int) + 1) 4 = (m1 : Int) := by rw [Int.tmod_eq_emod_of_nonneg (by omega)]; omega
      have r2 : Int.tmod ((k : Int) + 2) 4 = (m2 : Int) := by rw [Int.tmod_eq_emod_of_nonneg (by omega)]; omega
      have r3 : Int.tmod ((k : Int) + 3) 4 = (m3 : Int) := by rw [Int.tmod_eq_emod_of_nonneg (by omega)]; omega
      have l1 : m1 < 4 := by omega
      have l2 : m2 < 4 := by omega
      have l3 : m3 < 4 := by omega
      have i0 : (k : Int) < 4 := by omega
      have i1 : (m1 : Int) < 4 := by omega
      have i2 : (m2 : Int) < 4 := by omega
      have i3 : (m3 : Int) < 4 := by omega
      have x0 := b1.at_ k hlt
      have x1 := b1.at_ m1 l1
      have f0 := hf k
      have f1 := hf m1
      have f2 := hf m2
      have f3 := hf m3
      have M1 := Lib.hid hm1
      have M2 := Lib.hid hm2
      have M3 := Lib.hid hm3
      clear hm1 hm2 hm3
      go_wp2_with fail
      with_reducible refine (rtimes2 (f k) f0 _).mono ?_
      rintro e w2 ⟨rfl, hb⟩
      have c1 := b1.kept hb
      have c2 := b2.kept hb
      have c3 := b3.kept hb
      have cB := hB.trans (hb.mono hB.size)
      clear b1 b2 b3 hB hb x0 x1
      have x1 := c1.at_ m1 l1
      go_wp2_with fail
      with_reducible refine (rtimes3 (f m1) f1 _).mono ?_
      rintro e w3 ⟨rfl, hb⟩
      have b1 := c1.kept hb
      have b2 := c2.kept hb
      have b3 := c3.kept hb
      have hB := cB.trans (hb.mono cB.size)
      clear c1 c2 c3 cB hb x1
      have x2 := b1.at_ m2 l2
      have x3 := b1.at_ m3 l3
      have y3 := b3.at_ k hlt
      have z3 := b3.frozen k
      go_wp2_with fail
      have v2 : IntKind.i64.wrap ((k : Int) + 2) = (k : Int) + 2 := IntWalk.i64_in _ (by omega)
      have v3 : IntKind.i64.wrap ((k : Int) + 3) = (k : Int) + 3 := IntWalk.i64_in _ (by omega)
      have p1 := Gf.mul_lt 8 2 (f k) (by decide)
      have p2 := Gf.mul_lt 8 3 (f m1) (by decide)
      have q1 : Gf.m8 2 (f k) ^^^ Gf.m8 3 (f m1) < 256 := Nat.xor_lt_two_pow (n := 8) p1 p2
      have q2 : Gf.m8 2 (f k) ^^^ Gf.m8 3 (f m1) ^^^ f m2 < 256 := Nat.xor_lt_two_pow (n := 8) q1 f2
      have X := Lib.hid (And.intro (u8_xor_nat _ _ p1 p2) (And.intro (u8_xor_nat _ _ q1 f2) (u8_xor_nat _ _ q2 f3)))
      clear p1 p2 q1 q2
      go_still_tail 17, (by kernel_rfl)
      change wpList _ _ _ _ _ (World.drew _)
      go_wp2
      go_roundw
      case measure => simp [intOf]; omega
      case rel =>
        refine ⟨k + 1, by omega, by go_num, ?_, ?_, ?_, ?_⟩
        · exact (hB.setCell (by simp; omega) _).drew
        · exact (b1.far (by simp; omega) _).drew
        · exact (b2.far (by simp) _).drew
        · have h := (b3.set_ k (.int .u8 (bits .xor .u8 (bits .xor .u8 (bits .xor .u8 (Gf.m8 2 (f k) : Int) (Gf.m8 3 (f m1) : Int)) (f m2 : Int)) (f m3 : Int)))).drew
          have e : arr .u8 4 (fun i => if i < k + 1 then rmix f i else 0) = arr .u8 4 (fun i => if i = k then rmix f k else if i < k then rmix f i else 0) := arr_congr fun i _ => by
            by_cases h1 : i = k
            · subst h1; simp
            · by_cases h2 : i < k
              · rw [if_pos (by omega), if_neg h1, if_pos h2]
              · rw [if_neg (by omega), if_neg h1, if_neg h2]
          have ev : rmix f k = Gf.m8 2 (f k) ^^^ Gf.m8 3 (f m1) ^^^ f m2 ^^^ f m3 := by rw [M1.out, M2.out, M3.out]; rfl
          rw [e]
          have hv : bits .xor .u8 (bits .xor .u8 (bits .xor .u8 (Gf.m8 2 (f k) : Int) (Gf.m8 3 (f m1) : Int)) (f m2 : Int)) (f m3 : Int) = ((rmix f k : Nat) : Int) := by rw [X.out.1, X.out.2.1, X.out.2.2, ev]
          rw [hv, arr_set] at h
          rw [← hv] at h
          exact h
    · have hk4 : k = 4 := by omega
      have bf : Blk wr (w.heap.size + 1 + 1) 37 (arr .u8 4 (rmix f)) := by
        rw [arr_congr (g := fun i => if i < k then rmix f i else 0) (fun i hi => by rw [if_pos (by omega)])]
        exact b3
      clear b3 hk4
      go_wp2_with (first | (refine wpList_load_all rfl 37 _ rfl rfl bf _ Try.underlying37 rfl info37 ?_) | (refine wpList_store_all rfl 37 _ _ rfl rfl b2 _ rfl info37 ?_; intro w2 b5 hu))
      exact bodyPost_ret (results_blk rfl _ rfl b5 _ Try.underlying37 rfl info37) rfl ⟨rfl, hu.below hB (by omega)⟩
end Go.Proofs.Ytghmelcbkjejeaa.Rf
