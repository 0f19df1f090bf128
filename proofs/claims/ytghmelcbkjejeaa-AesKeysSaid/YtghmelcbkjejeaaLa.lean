/- The laws AesBack and AesApart, walked. -/
import Derived.Test.YtghmelcbkjejeaaAw
import Derived.Test.YtghmelcbkjejeaaPu
import Derived.BigQuiet
namespace Go.Proofs.Ytghmelcbkjejeaa.La
open Go.RowKit Go.Proofs.Ytghmelcbkjejeaa.Mem Go.Proofs.Ytghmelcbkjejeaa.Sc Go.Proofs.Ytghmelcbkjejeaa.Ar Go.Proofs.Ytghmelcbkjejeaa.Mx Go.Proofs.Ytghmelcbkjejeaa.Ex Go.Proofs.Ytghmelcbkjejeaa.En Go.Proofs.Ytghmelcbkjejeaa.Ri
theorem awake_holds (w : World) : Calls Try.prog 17 #[] w fun e w' => e = .returned (.bool true) ∧ Below w.heap.size w w' := Aw.awake_any Pu.c0_std Pu.b0_ris w
theorem blk_new0 (w : World) : Blk (w.alloc (.cells #[.int .u8 0, .int .u8 0, .int .u8 0, .int .u8 0, .int .u8 0, .int .u8 0, .int .u8 0, .int .u8 0, .int .u8 0, .int .u8 0, .int .u8 0, .int .u8 0, .int .u8 0, .int .u8 0, .int .u8 0, .int .u8 0] 27)) w.heap.size 27 (arr .u8 16 fun _ => 0) := Blk.new w 27 (arr .u8 16 fun _ => 0)
theorem eqTrue {f g : Nat → Nat} (h : eqN 16 f g = true) (w : World) : (binOp .eql 27 (A16 f) (A16 g)).run Try.prog w = .ok (.bool true) w := (eql27 f g w).trans (by rw [h])
set_option maxHeartbeats 4000000 in
theorem back_gen (k b c b2 d e2 : Nat → Nat) (h1 : Hid (∀ w, Calls Try.prog 18 #[A16 k, A16 b] w fun e w' => e = .returned (A16 c) ∧ Below w.heap.size w w'))
    (h2 : Hid (∀ w, Calls Try.prog 20 #[A16 k, A16 c] w fun e w' => e = .returned (A16 b2) ∧ Below w.heap.size w w'))
    (h3 : Hid (∀ w, Calls Try.prog 20 #[A16 k, A16 b] w fun e w' => e = .returned (A16 d) ∧ Below w.heap.size w w'))
    (h4 : Hid (∀ w, Calls Try.prog 18 #[A16 k, A16 d] w fun e w' => e = .returned (A16 e2) ∧ Below w.heap.size w w'))
    (hE1 : ∀ w, (binOp .eql 27 (A16 b2) (A16 b)).run Try.prog w = .ok (.bool true) w) (hE2 : ∀ w, (binOp .eql 27 (A16 e2) (A16 b)).run Try.prog w = .ok (.bool true) w) (w : World) :
    Calls Try.prog 9 #[A16 k, A16 b] w fun e w' => e = .returned (.bool true) ∧ Below w.heap.size w w' := by
  go_enter Try.func9, Try.ntmps9
  have B1 := Lib.hid ((Blk.new_at w 27 (arr .u8 16 k) (n := w.heap.size) (by simp)).alloc (.cells (arr .u8 16 b) 27))
  have B2 := Lib.hid (Blk.new_at (w.alloc (.cells (arr .u8 16 k) 27)) 27 (arr .u8 16 b) (n := w.heap.size + 1) (by simp))
  have BB := Lib.hid (((Below.refl w.heap.size w).alloc (by simp) (.cells (arr .u8 16 k) 27)).alloc (by simp) (.cells (arr .u8 16 b) 27))
  go_wp2_with fail
  with_reducible refine (awake_holds _).mono ?_
  rintro e w1 ⟨rfl, hb1⟩
  have c1 := B1.out.kept hb1
  have c2 := B2.out.kept hb1
  have cB := BB.out.trans (hb1.mono BB.out.size)
  clear BB hb1 B1 B2
  go_wp2_with (first | (refine wpList_load_all rfl 27 _ rfl rfl c1 _ Try.underlying27 rfl info27 ?_) | (refine wpList_load_all rfl 27 _ rfl rfl c2 _ Try.underlying27 rfl info27 ?_))
  with_reducible refine (h1.out _).mono ?_
  rintro e v3 ⟨rfl, hb⟩
  have d1 := (c1.kept hb).alloc (.cells #[.int .u8 0, .int .u8 0, .int .u8 0, .int .u8 0, .int .u8 0, .int .u8 0, .int .u8 0, .int .u8 0, .int .u8 0, .int .u8 0, .int .u8 0, .int .u8 0, .int .u8 0, .int .u8 0, .int .u8 0, .int .u8 0] 27)
  have s1 := (c1.kept hb).lt
  have d2 := (c2.kept hb).alloc (.cells #[.int .u8 0, .int .u8 0, .int .u8 0, .int .u8 0, .int .u8 0, .int .u8 0, .int .u8 0, .int .u8 0, .int .u8 0, .int .u8 0, .int .u8 0, .int .u8 0, .int .u8 0, .int .u8 0, .int .u8 0, .int .u8 0] 27)
  have s2 := (c2.kept hb).lt
  have dB0 := cB.trans (hb.mono cB.size)
  have dB := dB0.alloc dB0.size (.cells #[.int .u8 0, .int .u8 0, .int .u8 0, .int .u8 0, .int .u8 0, .int .u8 0, .int .u8 0, .int .u8 0, .int .u8 0, .int .u8 0, .int .u8 0, .int .u8 0, .int .u8 0, .int .u8 0, .int .u8 0, .int .u8 0] 27)
  have dn := blk_new0 v3
  clear hb c1 c2 cB
  go_wp2_with (first | (refine wpList_store_all rfl 27 _ _ rfl rfl dn _ rfl info27 ?_; intro y3 c3 hu; have c1 := d1.upd hu (by omega); have c2 := d2.upd hu (by omega); have cB := hu.below dB dB0.size; clear hu dB dB0 dn d1 d2 s1 s2) | (refine wpList_load_all rfl 27 _ rfl rfl c1 _ Try.underlying27 rfl info27 ?_) | (refine wpList_load_all rfl 27 _ rfl rfl c3 _ Try.underlying27 rfl info27 ?_))
  with_reducible refine (h2.out _).mono ?_
  rintro e v4 ⟨rfl, hb⟩
  have d1 := (c1.kept hb).alloc (.cells #[.int .u8 0, .int .u8 0, .int .u8 0, .int .u8 0, .int .u8 0, .int .u8 0, .int .u8 0, .int .u8 0, .int .u8 0, .int .u8 0, .int .u8 0, .int .u8 0, .int .u8 0, .int .u8 0, .int .u8 0, .int .u8 0] 27)
  have s1 := (c1.kept hb).lt
  have d2 := (c2.kept hb).alloc (.cells #[.int .u8 0, .int .u8 0, .int .u8 0, .int .u8 0, .int .u8 0, .int .u8 0, .int .u8 0, .int .u8 0, .int .u8 0, .int .u8 0, .int .u8 0, .int .u8 0, .int .u8 0, .int .u8 0, .int .u8 0, .int .u8 0] 27)
  have s2 := (c2.kept hb).lt
  have d3 := (c3.kept hb).alloc (.cells #[.int .u8 0, .int .u8 0, .int .u8 0, .int .u8 0, .int .u8 0, .int .u8 0, .int .u8 0, .int .u8 0, .int .u8 0, .int .u8 0, .int .u8 0, .int .u8 0, .int .u8 0, .int .u8 0, .int .u8 0, .int .u8 0] 27)
  have s3 := (c3.kept hb).lt
  have dB0 := cB.trans (hb.mono cB.size)
  have dB := dB0.alloc dB0.size (.cells #[.int .u8 0, .int .u8 0, .int .u8 0, .int .u8 0, .int .u8 0, .int .u8 0, .int .u8 0, .int .u8 0, .int .u8 0, .int .u8 0, .int .u8 0, .int .u8 0, .int .u8 0, .int .u8 0, .int .u8 0, .int .u8 0] 27)
  have dn := blk_new0 v4
  clear hb c1 c2 c3 cB
  go_wp2_with (first | (refine wpList_store_all rfl 27 _ _ rfl rfl dn _ rfl info27 ?_; intro y4 c4 hu; have c1 := d1.upd hu (by omega); have c2 := d2.upd hu (by omega); have c3 := d3.upd hu (by omega); have cB := hu.below dB dB0.size; clear hu dB dB0 dn d1 d2 d3 s1 s2 s3) | (refine wpList_load_all rfl 27 _ rfl rfl c1 _ Try.underlying27 rfl info27 ?_) | (refine wpList_load_all rfl 27 _ rfl rfl c2 _ Try.underlying27 rfl info27 ?_))
  with_reducible refine (h3.out _).mono ?_
  rintro e v5 ⟨rfl, hb⟩
  have d1 := (c1.kept hb).alloc (.cells #[.int .u8 0, .int .u8 0, .int .u8 0, .int .u8 0, .int .u8 0, .int .u8 0, .int .u8 0, .int .u8 0, .int .u8 0, .int .u8 0, .int .u8 0, .int .u8 0, .int .u8 0, .int .u8 0, .int .u8 0, .int .u8 0] 27)
  have s1 := (c1.kept hb).lt
  have d2 := (c2.kept hb).alloc (.cells #[.int .u8 0, .int .u8 0, .int .u8 0, .int .u8 0, .int .u8 0, .int .u8 0, .int .u8 0, .int .u8 0, .int .u8 0, .int .u8 0, .int .u8 0, .int .u8 0, .int .u8 0, .int .u8 0, .int .u8 0, .int .u8 0] 27)
  have s2 := (c2.kept hb).lt
  have d3 := (c3.kept hb).alloc (.cells #[.int .u8 0, .int .u8 0, .int .u8 0, .int .u8 0, .int .u8 0, .int .u8 0, .int .u8 0, .int .u8 0, .int .u8 0, .int .u8 0, .int .u8 0, .int .u8 0, .int .u8 0, .int .u8 0, .int .u8 0, .int .u8 0] 27)
  have s3 := (c3.kept hb).lt
  have d4 := (c4.kept hb).alloc (.cells #[.int .u8 0, .int .u8 0, .int .u8 0, .int .u8 0, .int .u8 0, .int .u8 0, .int .u8 0, .int .u8 0, .int .u8 0, .int .u8 0, .int .u8 0, .int .u8 0, .int .u8 0, .int .u8 0, .int .u8 0, .int .u8 0] 27)
  have s4 := (c4.kept hb).lt
  have dB0 := cB.trans (hb.mono cB.size)
  have dB := dB0.alloc dB0.size (.cells #[.int .u8 0, .int .u8 0, .int .u8 0, .int .u8 0, .int .u8 0, .int .u8 0, .int .u8 0, .int .u8 0, .int .u8 0, .int .u8 0, .int .u8 0, .int .u8 0, .int .u8 0, .int .u8 0, .int .u8 0, .int .u8 0] 27)
  have dn := blk_new0 v5
  clear hb c1 c2 c3 c4 cB
  go_wp2_with (first | (refine wpList_store_all rfl 27 _ _ rfl rfl dn _ rfl info27 ?_; intro y5 c5 hu; have c1 := d1.upd hu (by omega); have c2 := d2.upd hu (by omega); have c3 := d3.upd hu (by omega); have c4 := d4.upd hu (by omega); have cB := hu.below dB dB0.size; clear hu dB dB0 dn d1 d2 d3 d4 s1 s2 s3 s4) | (refine wpList_load_all rfl 27 _ rfl rfl c1 _ Try.underlying27 rfl info27 ?_) | (refine wpList_load_all rfl 27 _ rfl rfl c5 _ Try.underlying27 rfl info27 ?_))
  with_reducible refine (h4.out _).mono ?_
  rintro e v6 ⟨rfl, hb⟩
  have d1 := (c1.kept hb).alloc (.cells #[.int .u8 0, .int .u8 0, .int .u8 0, .int .u8 0, .int .u8 0, .int .u8 0, .int .u8 0, .int .u8 0, .int .u8 0, .int .u8 0, .int .u8 0, .int .u8 0, .int .u8 0, .int .u8 0, .int .u8 0, .int .u8 0] 27)
  have s1 := (c1.kept hb).lt
  have d2 := (c2.kept hb).alloc (.cells #[.int .u8 0, .int .u8 0, .int .u8 0, .int .u8 0, .int .u8 0, .int .u8 0, .int .u8 0, .int .u8 0, .int .u8 0, .int .u8 0, .int .u8 0, .int .u8 0, .int .u8 0, .int .u8 0, .int .u8 0, .int .u8 0] 27)
  have s2 := (c2.kept hb).lt
  have d3 := (c3.kept hb).alloc (.cells #[.int .u8 0, .int .u8 0, .int .u8 0, .int .u8 0, .int .u8 0, .int .u8 0, .int .u8 0, .int .u8 0, .int .u8 0, .int .u8 0, .int .u8 0, .int .u8 0, .int .u8 0, .int .u8 0, .int .u8 0, .int .u8 0] 27)
  have s3 := (c3.kept hb).lt
  have d4 := (c4.kept hb).alloc (.cells #[.int .u8 0, .int .u8 0, .int .u8 0, .int .u8 0, .int .u8 0, .int .u8 0, .int .u8 0, .int .u8 0, .int .u8 0, .int .u8 0, .int .u8 0, .int .u8 0, .int .u8 0, .int .u8 0, .int .u8 0, .int .u8 0] 27)
  have s4 := (c4.kept hb).lt
  have d5 := (c5.kept hb).alloc (.cells #[.int .u8 0, .int .u8 0, .int .u8 0, .int .u8 0, .int .u8 0, .int .u8 0, .int .u8 0, .int .u8 0, .int .u8 0, .int .u8 0, .int .u8 0, .int .u8 0, .int .u8 0, .int .u8 0, .int .u8 0, .int .u8 0] 27)
  have s5 := (c5.kept hb).lt
  have dB0 := cB.trans (hb.mono cB.size)
  have dB := dB0.alloc dB0.size (.cells #[.int .u8 0, .int .u8 0, .int .u8 0, .int .u8 0, .int .u8 0, .int .u8 0, .int .u8 0, .int .u8 0, .int .u8 0, .int .u8 0, .int .u8 0, .int .u8 0, .int .u8 0, .int .u8 0, .int .u8 0, .int .u8 0] 27)
  have dn := blk_new0 v6
  clear hb c1 c2 c3 c4 c5 cB
  go_wp2_with (first | (refine wpList_store_all rfl 27 _ _ rfl rfl dn _ rfl info27 ?_; intro y6 c6 hu; have c1 := d1.upd hu (by omega); have c2 := d2.upd hu (by omega); have c3 := d3.upd hu (by omega); have c4 := d4.upd hu (by omega); have c5 := d5.upd hu (by omega); have cB := hu.below dB dB0.size; clear hu dB dB0 dn d1 d2 d3 d4 d5 s1 s2 s3 s4 s5) | (refine wpList_load_all_g rfl 27 _ rfl rfl c1 _ Try.underlying27 rfl info27 ?_) | (refine wpList_load_all_g rfl 27 _ rfl rfl c2 _ Try.underlying27 rfl info27 ?_) | (refine wpList_load_all_g rfl 27 _ rfl rfl c3 _ Try.underlying27 rfl info27 ?_) | (refine wpList_load_all_g rfl 27 _ rfl rfl c4 _ Try.underlying27 rfl info27 ?_) | (refine wpList_load_all_g rfl 27 _ rfl rfl c5 _ Try.underlying27 rfl info27 ?_) | (refine wpList_load_all_g rfl 27 _ rfl rfl c6 _ Try.underlying27 rfl info27 ?_))
  go_ret
  exact ⟨rfl, cB⟩
set_option maxHeartbeats 4000000 in
theorem apart_gen (k a b x y : Nat → Nat) (p : Bool) (h1 : Hid (∀ w, Calls Try.prog 18 #[A16 k, A16 a] w fun e w' => e = .returned (A16 x) ∧ Below w.heap.size w w'))
    (h2 : Hid (∀ w, Calls Try.prog 18 #[A16 k, A16 b] w fun e w' => e = .returned (A16 y) ∧ Below w.heap.size w w'))
    (hE1 : ∀ w, (binOp .eql 27 (A16 x) (A16 y)).run Try.prog w = .ok (.bool p) w) (hE2 : ∀ w, (binOp .eql 27 (A16 a) (A16 b)).run Try.prog w = .ok (.bool p) w) (w : World) :
    Calls Try.prog 10 #[A16 k, A16 a, A16 b] w fun e w' => e = .returned (.bool true) ∧ Below w.heap.size w w' := by
  go_enter Try.func10, Try.ntmps10
  have B1 := Lib.hid (((Blk.new_at w 27 (arr .u8 16 k) (n := w.heap.size) (by simp)).alloc (.cells (arr .u8 16 a) 27)).alloc (.cells (arr .u8 16 b) 27))
  have B2 := Lib.hid ((Blk.new_at (w.alloc (.cells (arr .u8 16 k) 27)) 27 (arr .u8 16 a) (n := w.heap.size + 1) (by simp)).alloc (.cells (arr .u8 16 b) 27))
  have B3 := Lib.hid (Blk.new_at ((w.alloc (.cells (arr .u8 16 k) 27)).alloc (.cells (arr .u8 16 a) 27)) 27 (arr .u8 16 b) (n := w.heap.size + 1 + 1) (by simp))
  have BB := Lib.hid ((((Below.refl w.heap.size w).alloc (by simp) (.cells (arr .u8 16 k) 27)).alloc (by simp) (.cells (arr .u8 16 a) 27)).alloc (by simp ; omega) (.cells (arr .u8 16 b) 27))
  go_wp2_with fail
  with_reducible refine (awake_holds _).mono ?_
  rintro e w1 ⟨rfl, hb1⟩
  have c1 := B1.out.kept hb1
  have c2 := B2.out.kept hb1
  have c3 := B3.out.kept hb1
  have cB := BB.out.trans (hb1.mono BB.out.size)
  clear BB hb1 B1 B2 B3
  go_wp2_with (first | (refine wpList_load_all rfl 27 _ rfl rfl c1 _ Try.underlying27 rfl info27 ?_) | (refine wpList_load_all rfl 27 _ rfl rfl c2 _ Try.underlying27 rfl info27 ?_))
  with_reducible refine (h1.out _).mono ?_
  rintro e v4 ⟨rfl, hb⟩
  have d1 := (c1.kept hb).alloc (.cells #[.int .u8 0, .int .u8 0, .int .u8 0, .int .u8 0, .int .u8 0, .int .u8 0, .int .u8 0, .int .u8 0, .int .u8 0, .int .u8 0, .int .u8 0, .int .u8 0, .int .u8 0, .int .u8 0, .int .u8 0, .int .u8 0] 27)
  have s1 := (c1.kept hb).lt
  have d2 := (c2.kept hb).alloc (.cells #[.int .u8 0, .int .u8 0, .int .u8 0, .int .u8 0, .int .u8 0, .int .u8 0, .int .u8 0, .int .u8 0, .int .u8 0, .int .u8 0, .int .u8 0, .int .u8 0, .int .u8 0, .int .u8 0, .int .u8 0, .int .u8 0] 27)
  have s2 := (c2.kept hb).lt
  have d3 := (c3.kept hb).alloc (.cells #[.int .u8 0, .int .u8 0, .int .u8 0, .int .u8 0, .int .u8 0, .int .u8 0, .int .u8 0, .int .u8 0, .int .u8 0, .int .u8 0, .int .u8 0, .int .u8 0, .int .u8 0, .int .u8 0, .int .u8 0, .int .u8 0] 27)
  have s3 := (c3.kept hb).lt
  have dB0 := cB.trans (hb.mono cB.size)
  have dB := dB0.alloc dB0.size (.cells #[.int .u8 0, .int .u8 0, .int .u8 0, .int .u8 0, .int .u8 0, .int .u8 0, .int .u8 0, .int .u8 0, .int .u8 0, .int .u8 0, .int .u8 0, .int .u8 0, .int .u8 0, .int .u8 0, .int .u8 0, .int .u8 0] 27)
  have dn := blk_new0 v4
  clear hb c1 c2 c3 cB
  go_wp2_with (first | (refine wpList_store_all rfl 27 _ _ rfl rfl dn _ rfl info27 ?_; intro y4 c4 hu; have c1 := d1.upd hu (by omega); have c2 := d2.upd hu (by omega); have c3 := d3.upd hu (by omega); have cB := hu.below dB dB0.size; clear hu dB dB0 dn d1 d2 d3 s1 s2 s3) | (refine wpList_load_all rfl 27 _ rfl rfl c1 _ Try.underlying27 rfl info27 ?_) | (refine wpList_load_all rfl 27 _ rfl rfl c3 _ Try.underlying27 rfl info27 ?_))
  with_reducible refine (h2.out _).mono ?_
  rintro e v5 ⟨rfl, hb⟩
  have d1 := (c1.kept hb).alloc (.cells #[.int .u8 0, .int .u8 0, .int .u8 0, .int .u8 0, .int .u8 0, .int .u8 0, .int .u8 0, .int .u8 0, .int .u8 0, .int .u8 0, .int .u8 0, .int .u8 0, .int .u8 0, .int .u8 0, .int .u8 0, .int .u8 0] 27)
  have s1 := (c1.kept hb).lt
  have d2 := (c2.kept hb).alloc (.cells #[.int .u8 0, .int .u8 0, .int .u8 0, .int .u8 0, .int .u8 0, .int .u8 0, .int .u8 0, .int .u8 0, .int .u8 0, .int .u8 0, .int .u8 0, .int .u8 0, .int .u8 0, .int .u8 0, .int .u8 0, .int .u8 0] 27)
  have s2 := (c2.kept hb).lt
  have d3 := (c3.kept hb).alloc (.cells #[.int .u8 0, .int .u8 0, .int .u8 0, .int .u8 0, .int .u8 0, .int .u8 0, .int .u8 0, .int .u8 0, .int .u8 0, .int .u8 0, .int .u8 0, .int .u8 0, .int .u8 0, .int .u8 0, .int .u8 0, .int .u8 0] 27)
  have s3 := (c3.kept hb).lt
  have d4 := (c4.kept hb).alloc (.cells #[.int .u8 0, .int .u8 0, .int .u8 0, .int .u8 0, .int .u8 0, .int .u8 0, .int .u8 0, .int .u8 0, .int .u8 0, .int .u8 0, .int .u8 0, .int .u8 0, .int .u8 0, .int .u8 0, .int .u8 0, .int .u8 0] 27)
  have s4 := (c4.kept hb).lt
  have dB0 := cB.trans (hb.mono cB.size)
  have dB := dB0.alloc dB0.size (.cells #[.int .u8 0, .int .u8 0, .int .u8 0, .int .u8 0, .int .u8 0, .int .u8 0, .int .u8 0, .int .u8 0, .int .u8 0, .int .u8 0, .int .u8 0, .int .u8 0, .int .u8 0, .int .u8 0, .int .u8 0, .int .u8 0] 27)
  have dn := blk_new0 v5
  clear hb c1 c2 c3 c4 cB
  go_wp2_with (first | (refine wpList_store_all rfl 27 _ _ rfl rfl dn _ rfl info27 ?_; intro y5 c5 hu; have c1 := d1.upd hu (by omega); have c2 := d2.upd hu (by omega); have c3 := d3.upd hu (by omega); have c4 := d4.upd hu (by omega); have cB := hu.below dB dB0.size; clear hu dB dB0 dn d1 d2 d3 d4 s1 s2 s3 s4) | (refine wpList_load_all_g rfl 27 _ rfl rfl c1 _ Try.underlying27 rfl info27 ?_) | (refine wpList_load_all_g rfl 27 _ rfl rfl c2 _ Try.underlying27 rfl info27 ?_) | (refine wpList_load_all_g rfl 27 _ rfl rfl c3 _ Try.underlying27 rfl info27 ?_) | (refine wpList_load_all_g rfl 27 _ rfl rfl c4 _ Try.underlying27 rfl info27 ?_) | (refine wpList_load_all_g rfl 27 _ rfl rfl c5 _ Try.underlying27 rfl info27 ?_))
  dsimp only [Act.put]
  (refine wp_region_noPanic ?_; refine wp_region_held_drew (S := (fun w' => Blk w' v4.heap.size 27 (arr .u8 16 x) ∧ Blk w' v5.heap.size 27 (arr .u8 16 y) ∧ Blk w' (w.heap.size + 1) 27 (arr .u8 16 a) ∧ Blk w' (w.heap.size + 1 + 1) 27 (arr .u8 16 b) ∧ Below w.heap.size w w')) (by kernel_rfl) ⟨c4.drew, c5.drew, c2.drew, c3.drew, cB.drew⟩ (fun _ => ?_))
  (refine wpAnyH_value (i := 0) (v := ?_) rfl rfl (by kernel_rfl) (by kernel_rfl) (by kernel_rfl) (fun _ _ _ h => h) (by rfl) (by assumption) ?_ ?_; rotate_left; (intro w hSw; (try dsimp only at hSw); go_simp; try with_reducible rfl); try simp only [Act.put, List.setIfInBounds_toArray, List.set_cons_zero, List.set_cons_succ])
  (refine wpAnyH_value (i := 1) (v := ?_) rfl rfl (by kernel_rfl) (by kernel_rfl) (by kernel_rfl) (fun _ _ _ h => h) (by rfl) (by assumption) ?_ ?_; rotate_left; (intro w hSw; (try dsimp only at hSw); go_simp; try with_reducible rfl); try simp only [Act.put, List.setIfInBounds_toArray, List.set_cons_zero, List.set_cons_succ])
  (refine wpAnyH_load (i := 2) rfl rfl (by kernel_rfl) (by kernel_rfl) (by kernel_rfl) (fun _ _ _ h => h) (by rfl) 27 _ rfl rfl (fun _ h => h.1) _ Try.underlying27 rfl info27 (by assumption) ?_; try simp only [Act.put, List.setIfInBounds_toArray, List.set_cons_zero, List.set_cons_succ])
  (refine wpAnyH_load (i := 3) rfl rfl (by kernel_rfl) (by kernel_rfl) (by kernel_rfl) (fun _ _ _ h => h) (by rfl) 27 _ rfl rfl (fun _ h => h.2.1) _ Try.underlying27 rfl info27 (by assumption) ?_; try simp only [Act.put, List.setIfInBounds_toArray, List.set_cons_zero, List.set_cons_succ])
  (refine wpAnyH_value (i := 4) (v := ?_) rfl rfl (by kernel_rfl) (by kernel_rfl) (by kernel_rfl) (fun _ _ _ h => h) (by rfl) (by assumption) ?_ ?_; rotate_left; (intro w hSw; (try dsimp only at hSw); go_simp; try with_reducible rfl); try simp only [Act.put, List.setIfInBounds_toArray, List.set_cons_zero, List.set_cons_succ])
  (refine wpAnyH_load (i := 5) rfl rfl (by kernel_rfl) (by kernel_rfl) (by kernel_rfl) (fun _ _ _ h => h) (by rfl) 27 _ rfl rfl (fun _ h => h.2.2.1) _ Try.underlying27 rfl info27 (by assumption) ?_; try simp only [Act.put, List.setIfInBounds_toArray, List.set_cons_zero, List.set_cons_succ])
  (refine wpAnyH_load (i := 6) rfl rfl (by kernel_rfl) (by kernel_rfl) (by kernel_rfl) (fun _ _ _ h => h) (by rfl) 27 _ rfl rfl (fun _ h => h.2.2.2.1) _ Try.underlying27 rfl info27 (by assumption) ?_; try simp only [Act.put, List.setIfInBounds_toArray, List.set_cons_zero, List.set_cons_succ])
  (refine wpAnyH_value (i := 7) (v := ?_) rfl rfl (by kernel_rfl) (by kernel_rfl) (by kernel_rfl) (fun _ _ _ h => h) (by rfl) (by assumption) ?_ ?_; rotate_left; (intro w hSw; (try dsimp only at hSw); go_simp; try with_reducible rfl); try simp only [Act.put, List.setIfInBounds_toArray, List.set_cons_zero, List.set_cons_succ])
  (refine wpAnyH_value (i := 8) (v := ?_) rfl rfl (by kernel_rfl) (by kernel_rfl) (by kernel_rfl) (fun _ _ _ h => h) (by rfl) (by assumption) ?_ ?_; rotate_left; (intro w hSw; (try dsimp only at hSw); go_simp; try with_reducible rfl); try simp only [Act.put, List.setIfInBounds_toArray, List.set_cons_zero, List.set_cons_succ])
  (refine wpAnyH_value (i := 9) (v := ?_) rfl rfl (by kernel_rfl) (by kernel_rfl) (by kernel_rfl) (fun _ _ _ h => h) (by rfl) (by assumption) ?_ ?_; rotate_left; (intro w hSw; (try dsimp only at hSw); go_simp; try with_reducible rfl); try simp only [Act.put, List.setIfInBounds_toArray, List.set_cons_zero, List.set_cons_succ])
  (refine wpAnyH_value (i := 10) (v := ?_) rfl rfl (by kernel_rfl) (by kernel_rfl) (by kernel_rfl) (fun _ _ _ h => h) (by rfl) (by assumption) ?_ ?_; rotate_left; (intro w hSw; (try dsimp only at hSw); go_simp; try with_reducible rfl); try simp only [Act.put, List.setIfInBounds_toArray, List.set_cons_zero, List.set_cons_succ])
  (refine wpAnyH_done (by kernel_rfl) ?_ _; refine NoPanic.normal ?_)
  go_wp2_with fail
  go_ret
  exact ⟨rfl, cB.drew⟩
theorem aesBack_walk (k b : Nat → Nat) (hk : ∀ i, k i < 256) (hb : ∀ i, b i < 256) (w : World) : Calls Try.prog 9 #[A16 k, A16 b] w fun e w' => e = .returned (.bool true) ∧ Below w.heap.size w w' :=
  back_gen k b _ _ _ _ (Lib.hid (encrypt_any k b hk hb)) (Lib.hid (decrypt_any k _ hk (enc_lt hk hb 10))) (Lib.hid (decrypt_any k b hk hb)) (Lib.hid (encrypt_any k _ hk (Pu.decrypt_lt hk hb)))
    (eqTrue (eqN_true (Pu.back k b hk hb))) (eqTrue (eqN_true (Pu.forth k b hk hb))) w
theorem aesApart_walk (k a b : Nat → Nat) (hk : ∀ i, k i < 256) (ha : ∀ i, a i < 256) (hb : ∀ i, b i < 256) (w : World) : Calls Try.prog 10 #[A16 k, A16 a, A16 b] w fun e w' => e = .returned (.bool true) ∧ Below w.heap.size w w' :=
  apart_gen k a b _ _ (eqN 16 a b) (Lib.hid (encrypt_any k a hk ha)) (Lib.hid (encrypt_any k b hk hb)) (fun w => (eql27 _ _ w).trans (by rw [Pu.apart k a b hk ha hb])) (fun w => eql27 _ _ w) w
end Go.Proofs.Ytghmelcbkjejeaa.La
