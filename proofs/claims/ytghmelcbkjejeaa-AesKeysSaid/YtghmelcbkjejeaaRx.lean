/- The contract of the document's round keys: those of the program. Any key. -/
import Derived.Test.YtghmelcbkjejeaaRf
namespace Go.Proofs.Ytghmelcbkjejeaa.Rx
open Go.RowKit Go.Proofs.Ytghmelcbkjejeaa.Mem Go.Proofs.Ytghmelcbkjejeaa.Sc Go.Proofs.Ytghmelcbkjejeaa.Ar Go.Proofs.Ytghmelcbkjejeaa.Mx Go.Proofs.Ytghmelcbkjejeaa.Ex Go.Proofs.Ytghmelcbkjejeaa.En Go.Proofs.Ytghmelcbkjejeaa.Rf
theorem info38 : (Try.prog.info? 38).map (·.size) = some 176 := by kernel_rfl
theorem zero38 (w : World) : (zeroValue 38).run Try.prog w = .ok (.agg (arr .u8 176 fun _ => 0)) w := by kernel_rfl
theorem keys_at (k : Nat → Nat) (r i : Nat) (hi : i < 16) : keys k (r * 16 + i) = key k r i := by
  unfold keys
  rw [show (r * 16 + i) / 16 = r by omega, show (r * 16 + i) % 16 = i by omega]
/-- A word's byte out of the word before it and the one four before. -/
theorem keys_far (k : Nat → Nat) (i j : Nat) (hj : j < 4) (h4 : 4 ≤ i) (hm : i % 4 ≠ 0) : keys k (4 * i + j) = keys k (4 * (i - 4) + j) ^^^ keys k (4 * (i - 1) + j) := by
  obtain ⟨r, hr⟩ : ∃ r, i / 4 = r + 1 := ⟨i / 4 - 1, by omega⟩
  obtain ⟨q, hq⟩ : ∃ q, i % 4 = q + 1 := ⟨i % 4 - 1, by omega⟩
  have e1 : 4 * i + j = (r + 1) * 16 + (4 * (q + 1) + j) := by omega
  have e2 : 4 * (i - 4) + j = r * 16 + (4 * (q + 1) + j) := by omega
  have e3 : 4 * (i - 1) + j = (r + 1) * 16 + (4 * q + j) := by omega
  rw [e1, e2, e3, keys_at _ _ _ (by omega), keys_at _ _ _ (by omega), keys_at _ _ _ (by omega), Nat.xor_comm]
  show run4 (key k r) (rc r) ((4 * (q + 1) + j) % 4) ((4 * (q + 1) + j) / 4) = run4 (key k r) (rc r) ((4 * q + j) % 4) ((4 * q + j) / 4) ^^^ key k r (4 * (q + 1) + j)
  rw [show (4 * (q + 1) + j) % 4 = j by omega, show (4 * (q + 1) + j) / 4 = q + 1 by omega, show (4 * q + j) % 4 = j by omega, show (4 * q + j) / 4 = q by omega]
  rfl
theorem keys_new (k : Nat → Nat) (i j : Nat) (hj : j < 4) (h4 : 4 ≤ i) (hm : i % 4 = 0) : keys k (4 * i + j) = keys k (4 * (i - 4) + j) ^^^ (if j = 0 then Gf.box (keys k (4 * (i - 1) + (j + 1) % 4)) ^^^ rc ((i - 1) / 4) else Gf.box (keys k (4 * (i - 1) + (j + 1) % 4))) := by
  obtain ⟨r, hr⟩ : ∃ r, i / 4 = r + 1 := ⟨i / 4 - 1, by omega⟩
  have e1 : 4 * i + j = (r + 1) * 16 + j := by omega
  have e2 : 4 * (i - 4) + j = r * 16 + j := by omega
  have e3 : 4 * (i - 1) + (j + 1) % 4 = r * 16 + (12 + (j + 1) % 4) := by omega
  rw [e1, e2, e3, keys_at _ _ _ (by omega), keys_at _ _ _ (by omega), keys_at _ _ _ (by omega), Nat.xor_comm, show (i - 1) / 4 = r by omega]
  show run4 (key k r) (rc r) (j % 4) (j / 4) = _
  rw [show j % 4 = j by omega, show j / 4 = 0 by omega]
  show pre (key k r) (rc r) j ^^^ key k r j = _
  congr 1
  have hc : j = 0 ∨ j = 1 ∨ j = 2 ∨ j = 3 := by omega
  rcases hc with h | h | h | h <;> subst h <;> rfl
theorem keys_key (k : Nat → Nat) (i : Nat) (hi : i < 16) : keys k i = k i := by
  have := keys_at k 0 i hi
  rw [Nat.zero_mul, Nat.zero_add] at this
  exact this
theorem step176 (F : Nat → Nat) (n : Nat) : arr .u8 176 (fun x => if x < n + 1 then F x else 0) = arr .u8 176 (fun x => if x = n then F n else if x < n then F x else 0) := arr_congr fun x _ => by
  by_cases h1 : x = n
  · subst h1; simp
  · by_cases h2 : x < n
    · rw [if_pos (by omega), if_neg h1, if_pos h2]
    · rw [if_neg (by omega), if_neg h1, if_neg h2]
set_option maxHeartbeats 8000000 in
set_option maxRecDepth 20000 in
theorem rexpand_any (k : Nat → Nat) (hk : ∀ i, k i < 256) (w : World) :
    Calls Try.prog 16 #[A16 k] w fun e w' => e = .returned (A176 (keys k)) ∧ Below w.heap.size w w' := by
  have hz := zero28
  have hz2 := zero38
  have B1 := Lib.hid (((Blk.new w 27 (arr .u8 16 k)).alloc (.cells (arr .u8 176 fun _ => 0) 28)).alloc (.cells (arr .u8 176 fun _ => 0) 38))
  have B2 := Lib.hid ((Blk.new_at (w.alloc (.cells (arr .u8 16 k) 27)) 28 (arr .u8 176 fun _ => 0) (n := w.heap.size + 1) (by simp)).alloc (.cells (arr .u8 176 fun _ => 0) 38))
  have B3 := Lib.hid (Blk.new_at ((w.alloc (.cells (arr .u8 16 k) 27)).alloc (.cells (arr .u8 176 fun _ => 0) 28)) 38 (arr .u8 176 fun _ => 0) (n := w.heap.size + 1 + 1) (by simp))
  have BB := Lib.hid ((((Below.refl w.heap.size w).alloc (Nat.le_refl _) (.cells (arr .u8 16 k) 27)).alloc (by simp) (.cells (arr .u8 176 fun _ => 0) 28)).alloc (by simp; omega) (.cells (arr .u8 176 fun _ => 0) 38))
  have e0 : arr .u8 176 (fun _ => 0) = arr .u8 176 (fun x => if x < 4 * 0 then keys k x else 0) := arr_congr fun x _ => by rw [if_neg (by omega)]
  go_enter Try.func16, Try.ntmps16
  go_wp2
  go_loopw [4, 5] (fun v4 v5 wr => ∃ i : Nat, i ≤ 44 ∧ v4 = B (rc ((i - 1) / 4)) ∧ v5 = .int .i64 i ∧ Below w.heap.size w wr ∧ Blk wr w.heap.size 27 (arr .u8 16 k) ∧ Blk wr (w.heap.size + 1) 28 (arr .u8 176 fun _ => 0) ∧ Blk wr (w.heap.size + 1 + 1) 38 (arr .u8 176 fun x => if x < 4 * i then keys k x else 0)) (fun _ v _ => 44 - (intOf v).toNat)
  case atStart =>
    refine ⟨0, Nat.zero_le _, rfl, rfl, BB.out, B1.out, B2.out, ?_⟩
    rw [← e0]
    exact B3.out
  case round =>
    clear B1 B2 B3 BB e0 hz hz2
    obtain ⟨i, hi, rfl, rfl, hB, b1, b2, b3⟩ := hrel
    by_cases hlt : i < 44
    · have hd0 : decide ((i : Int) < 44) = true := by rw [decide_eq_true_eq]; omega
      obtain ⟨c, hc0⟩ : ∃ c, c = rc ((i - 1) / 4) := ⟨_, rfl⟩
      rw [← hc0]
      have hc : c < 256 := hc0 ▸ rc_lt _
      have HC := Lib.hid hc0
      clear hc0
      go_wp2
      obtain ⟨wo, rfl⟩ : ∃ wo : World, wo = wr := ⟨_, rfl⟩
      have b3' : Blk wo (w.heap.size + 1 + 1) 38 (arr .u8 176 fun x => if x < 4 * i + 0 then keys k x else 0) := b3
      clear b3
      go_loopw [6] (fun v wr => ∃ j : Nat, j ≤ 4 ∧ v = .int .i64 j ∧ Below w.heap.size w wr ∧ Blk wr w.heap.size 27 (arr .u8 16 k) ∧ Blk wr (w.heap.size + 1) 28 (arr .u8 176 fun _ => 0) ∧ Blk wr (w.heap.size + 1 + 1) 38 (arr .u8 176 fun x => if x < 4 * i + j then keys k x else 0)) (fun v _ => 4 - (intOf v).toNat)
      case atStart => exact ⟨0, by decide, rfl, hB, b1, b2, b3'⟩
      case round =>
        clear hB b1 b2 b3'
        obtain ⟨j, hj, rfl, hB, b1, b2, b3⟩ := hrel
        have i0 : (i : Int) < 44 := by omega
        by_cases hjlt : j < 4
        · have j0 : (j : Int) < 4 := by omega
          by_cases h4 : i < 4
          · have i4 : (i : Int) < 4 := by omega
            obtain ⟨q, hq⟩ : ∃ q, q = 4 * i + j := ⟨_, rfl⟩
            have x1 := b1.at_ q (by omega)
            have z3 := b3.frozen (i * 4 + j)
            have y3 := b3.at_ (i * 4 + j) (by omega)
            have n1 : IntKind.i64.wrap (4 * (i : Int)) = 4 * (i : Int) := IntWalk.i64_in _ (by omega)
            have n2 : IntKind.i64.wrap (4 * (i : Int) + (j : Int)) = (q : Int) := by rw [IntWalk.i64_in _ (by omega)]; omega
            have n3 : (q : Int) < 16 := by omega
            have n4 : k q = keys k (4 * i + j) := by rw [← hq, keys_key k _ (by omega)]
            have HQ := Lib.hid (And.intro hq n4)
            clear hq n4
            have hv : Hid (((k q : Nat) : Int) = ((keys k (4 * i + j) : Nat) : Int)) := Lib.hid (by rw [HQ.out.2])
            go_wp2
            go_still_tail 10, (by kernel_rfl)
            change wpList _ _ _ _ _ (World.drew _)
            go_wp2
            go_roundw
            case measure => simp [intOf]; omega
            case rel =>
              refine ⟨j + 1, by omega, by go_num, (hB.setCell (by simp; omega) _).drew, (b1.far (by simp; omega) _).drew, (b2.far (by simp) _).drew, ?_⟩
              have h := (b3.set_ (i * 4 + j) (.int .u8 ((k q : Nat)))).drew
              rw [hv.out, arr_set, show i * 4 + j = 4 * i + j by omega] at h
              rw [show 4 * i + (j + 1) = 4 * i + j + 1 by omega, step176]
              rw [← hv.out] at h
              rw [show i * 4 + j = 4 * i + j by omega]
              exact h
          · obtain ⟨p, hp⟩ : ∃ p, i = p + 1 := ⟨i - 1, by omega⟩
            obtain ⟨s, hs⟩ : ∃ s, i = s + 4 := ⟨i - 4, by omega⟩
            obtain ⟨m, hm⟩ : ∃ m, m = i % 4 := ⟨_, rfl⟩
            have d4 : decide ((i : Int) < 4) = false := decide_eq_false (by omega)
            have n1 : IntKind.i64.wrap ((i : Int) - 1) = (p : Int) := by rw [IntWalk.i64_in _ (by omega)]; omega
            have n4 : IntKind.i64.wrap ((i : Int) - 4) = (s : Int) := by rw [IntWalk.i64_in _ (by omega)]; omega
            have p0 : (p : Int) < 44 := by omega
            have s0 : (s : Int) < 44 := by omega
            have tm : Int.tmod (i : Int) 4 = (m : Int) := by rw [Int.tmod_eq_emod_of_nonneg (by omega)]; omega
            have x1 : wr.cell? ⟨w.heap.size + 1 + 1, p * 4 + j, none⟩ = some (.int .u8 (keys k (4 * p + j) : Nat)) := by
              have h := b3.at_ (p * 4 + j) (by omega)
              rw [if_pos (by omega), show keys k (p * 4 + j) = keys k (4 * p + j) by rw [Nat.mul_comm p 4]] at h
              exact h
            have x4 : wr.cell? ⟨w.heap.size + 1 + 1, s * 4 + j, none⟩ = some (.int .u8 (keys k (4 * s + j) : Nat)) := by
              have h := b3.at_ (s * 4 + j) (by omega)
              rw [if_pos (by omega), show keys k (s * 4 + j) = keys k (4 * s + j) by rw [Nat.mul_comm s 4]] at h
              exact h
            have z3 := b3.frozen (i * 4 + j)
            have y3 := b3.at_ (i * 4 + j) (by omega)
            have l1 := keys_lt hk (4 * p + j)
            have l4 := keys_lt hk (4 * s + j)
            have HE := Lib.hid (And.intro hp (And.intro hs hm))
            by_cases hm0 : m = 0
            · have c0 : ((m : Int) == 0) = true := by rw [hm0]; rfl
              obtain ⟨m1, hm1⟩ : ∃ m, m = (j + 1) % 4 := ⟨_, rfl⟩
              have t1 : Int.tmod ((j : Int) + 1) 4 = (m1 : Int) := by rw [Int.tmod_eq_emod_of_nonneg (by omega)]; omega
              have v1 : IntKind.i64.wrap ((j : Int) + 1) = (j : Int) + 1 := IntWalk.i64_in _ (by omega)
              have m10 : (m1 : Int) < 4 := by omega
              have x2 : wr.cell? ⟨w.heap.size + 1 + 1, p * 4 + m1, none⟩ = some (.int .u8 (keys k (4 * p + m1) : Nat)) := by
                have h := b3.at_ (p * 4 + m1) (by omega)
                rw [if_pos (by omega), show keys k (p * 4 + m1) = keys k (4 * p + m1) by rw [Nat.mul_comm p 4]] at h
                exact h
              have l2 := keys_lt hk (4 * p + m1)
              have lb := Gf.box_lt _ l2
              have hN : keys k (4 * i + j) = keys k (4 * s + j) ^^^ (if j = 0 then Gf.box (keys k (4 * p + m1)) ^^^ c else Gf.box (keys k (4 * p + m1))) := by
                rw [keys_new k i j hjlt (by omega) (by omega), HC.out, ← hm1, show i - 1 = p by omega, show i - 4 = s by omega]
              have HN := Lib.hid hN
              have hpb : p * 4 + j < 4 * i + j := by omega
              have hsb : s * 4 + j < 4 * i + j := by omega
              have hib : i * 4 + j < 176 := by omega
              clear hN hm1 hp hs hm hm0
              go_wp2_with fail
              with_reducible refine (rbox _ l2 _).mono ?_
              rintro e w2 ⟨rfl, hb⟩
              have b1 := b1.kept hb
              have b2 := b2.kept hb
              have b3 := b3.kept hb
              have hB := hB.trans (hb.mono hB.size)
              have x4 : w2.cell? ⟨w.heap.size + 1 + 1, s * 4 + j, none⟩ = some (.int .u8 (keys k (4 * s + j) : Nat)) := by
                have h := b3.at_ (s * 4 + j) (by omega)
                rw [if_pos hsb, show keys k (s * 4 + j) = keys k (4 * s + j) by rw [Nat.mul_comm s 4]] at h
                exact h
              have z3 := b3.frozen (i * 4 + j)
              have y3 := b3.at_ (i * 4 + j) hib
              clear hb
              by_cases hj0 : j = 0
              · have cj : ((j : Int) == 0) = true := by rw [hj0]; rfl
                have HJ := Lib.hid hj0
                clear hj0
                have lx : Gf.box (keys k (4 * p + m1)) ^^^ c < 256 := Nat.xor_lt_two_pow (n := 8) lb hc
                have hv : Hid ((bits .xor .u8 (keys k (4 * s + j) : Nat) (bits .xor .u8 (Gf.box (keys k (4 * p + m1)) : Nat) (c : Nat)) : Int) = ((keys k (4 * i + j) : Nat) : Int)) := Lib.hid (by rw [u8_xor_nat _ _ lb hc, u8_xor_nat _ _ l4 lx, HN.out, if_pos HJ.out])
                go_wp2
                go_still_tail 12, (by kernel_rfl)
                change wpList _ _ _ _ _ (World.drew _)
                go_wp2
                go_roundw
                case measure => simp [intOf]; omega
                case rel =>
                  refine ⟨j + 1, by omega, by go_num, (hB.setCell (by simp; omega) _).drew, (b1.far (by simp; omega) _).drew, (b2.far (by simp) _).drew, ?_⟩
                  have h := (b3.set_ (i * 4 + j) (.int .u8 (bits .xor .u8 (keys k (4 * s + j) : Nat) (bits .xor .u8 (Gf.box (keys k (4 * p + m1)) : Nat) (c : Nat))))).drew
                  rw [hv.out, arr_set, show i * 4 + j = 4 * i + j by omega] at h
                  rw [show 4 * i + (j + 1) = 4 * i + j + 1 by omega, step176]
                  rw [← hv.out] at h
                  rw [show i * 4 + j = 4 * i + j by omega]
                  exact h
              · have cj : ((j : Int) == 0) = false := by rw [beq_eq_false_iff_ne]; omega
                have HJ := Lib.hid hj0
                clear hj0
                have hv : Hid ((bits .xor .u8 (keys k (4 * s + j) : Nat) (Gf.box (keys k (4 * p + m1)) : Nat) : Int) = ((keys k (4 * i + j) : Nat) : Int)) := Lib.hid (by rw [u8_xor_nat _ _ l4 lb, HN.out, if_neg HJ.out])
                go_wp2
                go_still_tail 12, (by kernel_rfl)
                change wpList _ _ _ _ _ (World.drew _)
                go_wp2
                go_roundw
                case measure => simp [intOf]; omega
                case rel =>
                  refine ⟨j + 1, by omega, by go_num, (hB.setCell (by simp; omega) _).drew, (b1.far (by simp; omega) _).drew, (b2.far (by simp) _).drew, ?_⟩
                  have h := (b3.set_ (i * 4 + j) (.int .u8 (bits .xor .u8 (keys k (4 * s + j) : Nat) (Gf.box (keys k (4 * p + m1)) : Nat)))).drew
                  rw [hv.out, arr_set, show i * 4 + j = 4 * i + j by omega] at h
                  rw [show 4 * i + (j + 1) = 4 * i + j + 1 by omega, step176]
                  rw [← hv.out] at h
                  rw [show i * 4 + j = 4 * i + j by omega]
                  exact h
            · have c0 : ((m : Int) == 0) = false := by rw [beq_eq_false_iff_ne]; omega
              have hN : keys k (4 * i + j) = keys k (4 * s + j) ^^^ keys k (4 * p + j) := by
                rw [keys_far k i j hjlt (by omega) (by omega), show i - 1 = p by omega, show i - 4 = s by omega]
              have HN := Lib.hid hN
              clear hN hp hs hm hm0
              have hv : Hid ((bits .xor .u8 (keys k (4 * s + j) : Nat) (keys k (4 * p + j) : Nat) : Int) = ((keys k (4 * i + j) : Nat) : Int)) := Lib.hid (by rw [u8_xor_nat _ _ l4 l1, HN.out])
              go_wp2
              go_still_tail 12, (by kernel_rfl)
              change wpList _ _ _ _ _ (World.drew _)
              go_wp2
              go_roundw
              case measure => simp [intOf]; omega
              case rel =>
                refine ⟨j + 1, by omega, by go_num, (hB.setCell (by simp; omega) _).drew, (b1.far (by simp; omega) _).drew, (b2.far (by simp) _).drew, ?_⟩
                have h := (b3.set_ (i * 4 + j) (.int .u8 (bits .xor .u8 (keys k (4 * s + j) : Nat) (keys k (4 * p + j) : Nat)))).drew
                rw [hv.out, arr_set, show i * 4 + j = 4 * i + j by omega] at h
                rw [show 4 * i + (j + 1) = 4 * i + j + 1 by omega, step176]
                rw [← hv.out] at h
                rw [show i * 4 + j = 4 * i + j by omega]
                exact h
        · have hj4 : j = 4 := by omega
          subst hj4
          have b3 : Blk wr (w.heap.size + 1 + 1) 38 (arr .u8 176 fun x => if x < 4 * (i + 1) then keys k x else 0) := b3
          obtain ⟨m, hm⟩ : ∃ m, m = i % 4 := ⟨_, rfl⟩
          have tm : Int.tmod (i : Int) 4 = (m : Int) := by rw [Int.tmod_eq_emod_of_nonneg (by omega)]; omega
          by_cases h4 : i < 4
          · have d4 : decide ((4 : Int) ≤ (i : Int)) = false := decide_eq_false (by omega)
            have hcc : Hid (B c = B (rc ((i + 1 - 1) / 4))) := Lib.hid (by rw [HC.out, show (i - 1) / 4 = (i + 1 - 1) / 4 by omega])
            have i4 : (i : Int) < 4 := by omega
            clear hm tm
            go_wp2
            go_roundw
            case measure => show 44 - ((i : Int) + 1).toNat < 44 - (i : Int).toNat; omega
            case rel => exact ⟨i + 1, by omega, hcc.out, by go_num, hB, b1, b2, b3⟩
          · have d4 : decide ((4 : Int) ≤ (i : Int)) = true := decide_eq_true (by omega)
            have i4 : (4 : Int) ≤ (i : Int) := by omega
            by_cases hm0 : m = 0
            · have c0 : ((m : Int) == 0) = true := by rw [hm0]; rfl
              have hcc : Hid (B (Gf.m8 c 2) = B (rc ((i + 1 - 1) / 4))) := Lib.hid (by
                obtain ⟨r, hr⟩ : ∃ r, i / 4 = r + 1 := ⟨i / 4 - 1, by omega⟩
                rw [HC.out, show (i - 1) / 4 = r by omega, show (i + 1 - 1) / 4 = r + 1 by omega]
                have : Gf.m8 (rc r) 2 = rc (r + 1) := by
                  show Gf.mul 8 (rc r) 2 = Gf.dbl (rc r)
                  simp [Gf.mul]
                rw [this])
              clear hm hm0
              go_wp2_with fail
              with_reducible refine (rtimesc c hc _).mono ?_
              rintro e w2 ⟨rfl, hb⟩
              have b1 := b1.kept hb
              have b2 := b2.kept hb
              have b3 := b3.kept hb
              have hB := hB.trans (hb.mono hB.size)
              clear hb
              go_wp2
              go_roundw
              case measure => show 44 - ((i : Int) + 1).toNat < 44 - (i : Int).toNat; omega
              case rel => exact ⟨i + 1, by omega, hcc.out, by go_num, hB, b1, b2, b3⟩
            · have c0 : ((m : Int) == 0) = false := by rw [beq_eq_false_iff_ne]; omega
              have hcc : Hid (B c = B (rc ((i + 1 - 1) / 4))) := Lib.hid (by rw [HC.out, show (i - 1) / 4 = (i + 1 - 1) / 4 by omega])
              clear hm hm0
              go_wp2
              go_roundw
              case measure => show 44 - ((i : Int) + 1).toNat < 44 - (i : Int).toNat; omega
              case rel => exact ⟨i + 1, by omega, hcc.out, by go_num, hB, b1, b2, b3⟩
    · have b3 : Blk wr (w.heap.size + 1 + 1) 38 (arr .u8 176 (keys k)) := by
        rw [arr_congr (g := fun x => if x < 4 * i then keys k x else 0) (fun x hx => by rw [if_pos (by omega)])]
        exact b3
      have hz := zero28
      have e0 : arr .u8 176 (fun _ => 0) = arr .u8 176 (fun x => if x < 4 * 0 then keys k x else 0) := arr_congr fun x _ => by rw [if_neg (by omega)]
      have d2 := b2.alloc (.cells (arr .u8 176 fun _ => 0) 28)
      have d3 := b3.alloc (.cells (arr .u8 176 fun _ => 0) 28)
      have dB := hB.alloc hB.size (.cells (arr .u8 176 fun _ => 0) 28)
      have d4 := Blk.new wr 28 (arr .u8 176 fun _ => 0)
      rw [e0] at d4
      obtain ⟨g, hg⟩ : ∃ g, g = wr.heap.size := ⟨_, rfl⟩
      have g1 : w.heap.size + 1 + 1 < g := hg ▸ b3.lt
      have d1 : ∀ o, Blk (wr.alloc o) (w.heap.size + 1) 28 (arr .u8 176 fun _ => 0) := fun o => b2.alloc o
      clear b1 b2 b3 hB d1
      rw [← hg] at d4
      have HG := Lib.hid hg
      clear e0
      have i44 : ¬ (i : Int) < 44 := by omega
      go_wp2
      rw [← HG.out]
      clear hg HG
      go_loopw [9] (fun v wr => ∃ i : Nat, i ≤ 44 ∧ v = .int .i64 i ∧ Below w.heap.size w wr ∧ Blk wr (w.heap.size + 1) 28 (arr .u8 176 fun _ => 0) ∧ Blk wr (w.heap.size + 1 + 1) 38 (arr .u8 176 (keys k)) ∧ Blk wr g 28 (arr .u8 176 fun x => if x < 4 * i then keys k x else 0)) (fun v _ => 44 - (intOf v).toNat)
      case atStart => exact ⟨0, by decide, rfl, dB, d2, d3, d4⟩
      case round =>
        clear dB d2 d3 d4 i44 hz
        obtain ⟨i, hi, rfl, hB, b2, b3, b4⟩ := hrel
        by_cases hlt : i < 44
        · have hd0 : decide ((i : Int) < 44) = true := by rw [decide_eq_true_eq]; omega
          go_wp2
          obtain ⟨wo, rfl⟩ : ∃ wo : World, wo = wr := ⟨_, rfl⟩
          have b4' : Blk wo g 28 (arr .u8 176 fun x => if x < 4 * i + 0 then keys k x else 0) := b4
          clear b4
          go_loopw [10] (fun v wr => ∃ j : Nat, j ≤ 4 ∧ v = .int .i64 j ∧ Below w.heap.size w wr ∧ Blk wr (w.heap.size + 1) 28 (arr .u8 176 fun _ => 0) ∧ Blk wr (w.heap.size + 1 + 1) 38 (arr .u8 176 (keys k)) ∧ Blk wr g 28 (arr .u8 176 fun x => if x < 4 * i + j then keys k x else 0)) (fun v _ => 4 - (intOf v).toNat)
          case atStart => exact ⟨0, by decide, rfl, hB, b2, b3, b4'⟩
          case round =>
            clear hB b2 b3 b4'
            obtain ⟨j, hj, rfl, hB, b2, b3, b4⟩ := hrel
            have i0 : (i : Int) < 44 := by omega
            by_cases hjlt : j < 4
            · have j0 : (j : Int) < 4 := by omega
              obtain ⟨a, ha⟩ : ∃ a, a = i / 4 := ⟨_, rfl⟩
              obtain ⟨b, hb⟩ : ∃ b, b = i % 4 := ⟨_, rfl⟩
              obtain ⟨e, he⟩ : ∃ e, e = b * 4 + j := ⟨_, rfl⟩
              have n1 : Int.tdiv (i : Int) 4 = (a : Int) := by rw [Int.tdiv_eq_ediv_of_nonneg (by omega)]; omega
              have n2 : Int.tmod (i : Int) 4 = (b : Int) := by rw [Int.tmod_eq_emod_of_nonneg (by omega)]; omega
              have n5 : (i : Int) / 4 = (a : Int) := by omega
              have n7 : IntKind.i64.wrap (a : Int) = (a : Int) := IntWalk.i64_in _ (by omega)
              have n6 : (i : Int) % 4 = (b : Int) := by omega
              have n3 : IntKind.i64.wrap ((b : Int) * 4) = (b : Int) * 4 := IntWalk.i64_in _ (by omega)
              have n4 : IntKind.i64.wrap ((b : Int) * 4 + (j : Int)) = (e : Int) := by rw [IntWalk.i64_in _ (by omega)]; omega
              have a0 : (a : Int) < 11 := by omega
              have e0 : (e : Int) < 16 := by omega
              have hN : a * 16 + e = 4 * i + j := by omega
              have hM : i * 4 + j = 4 * i + j := by omega
              have x3 : wr.cell? ⟨w.heap.size + 1 + 1, i * 4 + j, none⟩ = some (.int .u8 (keys k (4 * i + j) : Nat)) := by
                have h := b3.at_ (i * 4 + j) (by omega)
                rw [show keys k (i * 4 + j) = keys k (4 * i + j) by rw [Nat.mul_comm i 4]] at h
                exact h
              have y4 := b4.at_ (a * 16 + e) (by omega)
              have z4 := b4.frozen (a * 16 + e)
              have HN := Lib.hid (And.intro hN hM)
              clear ha hb he hN hM
              go_wp2
              go_still_tail 14, (by kernel_rfl)
              change wpList _ _ _ _ _ (World.drew _)
              go_wp2
              go_roundw
              case measure => show 4 - ((j : Int) + 1).toNat < 4 - (j : Int).toNat; omega
              case rel =>
                refine ⟨j + 1, by omega, by go_num, (hB.setCell (by simp; omega) _).drew, (b2.far (by simp; omega) _).drew, (b3.far (by simp; omega) _).drew, ?_⟩
                have h := (b4.set_ (a * 16 + e) (.int .u8 (keys k (4 * i + j) : Nat))).drew
                rw [arr_set] at h
                rw [show 4 * i + (j + 1) = 4 * i + j + 1 by omega, step176, ← HN.out.1]
                rw [← HN.out.1] at h
                exact h
            · have hj4 : j = 4 := by omega
              subst hj4
              have b4 : Blk wr g 28 (arr .u8 176 fun x => if x < 4 * (i + 1) then keys k x else 0) := b4
              go_wp2
              go_roundw
              case measure => show 44 - ((i : Int) + 1).toNat < 44 - (i : Int).toNat; omega
              case rel => exact ⟨i + 1, by omega, by go_num, hB, b2, b3, b4⟩
        · have bf : Blk wr g 28 (arr .u8 176 (keys k)) := by
            rw [arr_congr (g := fun x => if x < 4 * i then keys k x else 0) (fun x hx => by rw [if_pos (by omega)])]
            exact b4
          have i44 : ¬ (i : Int) < 44 := by omega
          clear b4
          go_wp2_with (first | (refine wpList_load_all rfl 28 _ rfl rfl bf _ Try.underlying28 rfl info28 ?_) | (refine wpList_store_all rfl 28 _ _ rfl rfl b2 _ rfl info28 ?_; intro w2 b5 hu))
          exact bodyPost_ret (results_blk rfl _ rfl b5 _ Try.underlying28 rfl info28) rfl ⟨rfl, hu.below hB (by omega)⟩
end Go.Proofs.Ytghmelcbkjejeaa.Rx
