/- The contracts of the law's own helpers: rising bytes; the standard's own example. -/
import Derived.Test.YtghmelcbkjejeaaEn
import Derived.Test.YtghmelcbkjejeaaEq
import Derived.Deep.RegionHeld3
import Derived.Deep.DeepCutAuto
namespace Go.Proofs.Ytghmelcbkjejeaa.Ri
open Go.RowKit Go.Proofs.Ytghmelcbkjejeaa.Mem Go.Proofs.Ytghmelcbkjejeaa.Sc Go.Proofs.Ytghmelcbkjejeaa.Ar Go.Proofs.Ytghmelcbkjejeaa.Mx Go.Proofs.Ytghmelcbkjejeaa.Ex Go.Proofs.Ytghmelcbkjejeaa.En
theorem cells5 : Try.prog.cellsOf 5 = 1 := by kernel_rfl
theorem eql27 (f g : Nat → Nat) (w : World) : (binOp .eql 27 (A16 f) (A16 g)).run Try.prog w = .ok (.bool (eqN 16 f g)) w := run_eql_arr (t := 27) (e := 5) Try.underlying27 rfl Try.underlying5 cells5 f g
def ris (s i : Nat) : Nat := s * i % 256
theorem ris_lt (s i : Nat) : ris s i < 256 := Nat.mod_lt _ (by decide)
set_option maxHeartbeats 1000000 in
theorem rising_any (s : Nat) (w : World) :
    Calls Try.prog 25 #[B s] w fun e w' => e = .returned (A16 (ris s)) ∧ Below w.heap.size w w' := by
  go_enter Try.func25, Try.ntmps25
  go_wp2
  go_loopw [4] (fun v wr => ∃ k : Nat, k ≤ 16 ∧ v = .int .i64 k ∧ Below w.heap.size w wr ∧ Blk wr (w.heap.size) 27 (arr .u8 16 fun _ => 0) ∧ Blk wr (w.heap.size + 1) 27 (arr .u8 16 fun i => if i < k then ris s i else 0)) (fun v _ => 16 - (intOf v).toNat)
  case atStart =>
    refine ⟨0, Nat.zero_le _, rfl, ?_, ?_, ?_⟩
    · exact ((Below.refl _ _).alloc (Nat.le_refl _) _).alloc (by simp) _
    · exact (Blk.new w 27 (arr .u8 16 fun _ => 0)).alloc (.cells (arr .u8 16 fun _ => 0) 27)
    · exact Blk.new_at (w.alloc (.cells (arr .u8 16 fun _ => 0) 27)) 27 (arr .u8 16 fun _ => 0) (by simp)
  case round =>
    obtain ⟨k, hk, rfl, hB, b1, b2⟩ := hrel
    by_cases hlt : k < 16
    · have c1 := b2.at_ k hlt
      have z1 := b2.frozen k
      have e1 : Hid ((s : Int) * (k : Int) % 256 = ((ris s k : Nat) : Int)) := Lib.hid (by
        unfold ris
        rw [show (s : Int) * (k : Int) = ((s * k : Nat) : Int) by norm_cast]
        omega)
      go_wp2
      go_roundw
      case measure => simp [intOf]; omega
      case rel =>
        refine ⟨k + 1, by omega, by go_num, ?_, ?_, ?_⟩
        · exact hB.setCell (by simp) _
        · exact b1.far (p := ⟨w.heap.size + 1, k, none⟩) (by simp) _
        · have h := b2.set_ k (.int .u8 ((s : Int) * (k : Int) % 256))
          rw [e1.out, arr_set] at h
          have e : arr .u8 16 (fun i => if i < k + 1 then ris s i else 0) = arr .u8 16 (fun i => if i = k then ris s k else if i < k then ris s i else 0) := arr_congr fun i _ => by
            by_cases h1 : i = k
            · subst h1; simp
            · by_cases h2 : i < k
              · rw [if_pos (by omega), if_neg h1, if_pos h2]
              · rw [if_neg (by omega), if_neg h1, if_neg h2]
          rw [e, e1.out]
          exact h
    · have hk16 : k = 16 := by omega
      have bf : Blk wr (w.heap.size + 1) 27 (arr .u8 16 (ris s)) := by
        rw [arr_congr (g := fun i => if i < k then ris s i else 0) (fun i hi => by rw [if_pos (by omega)])]
        exact b2
      clear b2 hk16
      go_wp2_with (first | (refine wpList_load_all rfl 27 _ rfl rfl bf _ Try.underlying27 rfl info27 ?_) | (refine wpList_store_all rfl 27 _ _ rfl rfl b1 _ rfl info27 ?_; intro w2 b4 hu))
      exact bodyPost_ret (results_blk rfl _ rfl b4 _ Try.underlying27 rfl info27) rfl ⟨rfl, hu.below hB (by omega)⟩
theorem rise1 (w : World) : Calls Try.prog 25 #[.int .u8 1] w fun e w' => e = .returned (A16 (ris 1)) ∧ Below w.heap.size w w' := rising_any 1 w
theorem rise17 (w : World) : Calls Try.prog 25 #[.int .u8 17] w fun e w' => e = .returned (A16 (ris 17)) ∧ Below w.heap.size w w' := rising_any 17 w
/-- The standard's block. -/
def std (i : Nat) : Nat := [0x69, 0xc4, 0xe0, 0xd8, 0x6a, 0x7b, 0x04, 0x30, 0xd8, 0xcd, 0xb7, 0x80, 0x70, 0xb4, 0xc5, 0x5a].getD i 0
def C0 : Nat → Nat := enc (ris 1) (ris 17) 10
def B0 : Nat → Nat := decrypt (ris 1) C0
end Go.Proofs.Ytghmelcbkjejeaa.Ri
