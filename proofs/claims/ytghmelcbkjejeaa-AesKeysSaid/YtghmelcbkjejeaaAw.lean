/- The law's own example, walked. -/
import Derived.Test.YtghmelcbkjejeaaRi
import Derived.Test.YtghmelcbkjejeaaInv
namespace Go.Proofs.Ytghmelcbkjejeaa.Aw
open Go.RowKit Go.Proofs.Ytghmelcbkjejeaa.Mem Go.Proofs.Ytghmelcbkjejeaa.Sc Go.Proofs.Ytghmelcbkjejeaa.Ar Go.Proofs.Ytghmelcbkjejeaa.Mx Go.Proofs.Ytghmelcbkjejeaa.Ex Go.Proofs.Ytghmelcbkjejeaa.En Go.Proofs.Ytghmelcbkjejeaa.Ri
theorem blk_alloc {n : Nat} {w w' : World} (hn : n ≤ w.heap.size) (hb : Below (w.alloc (.cells #[.int .u8 0, .int .u8 0, .int .u8 0, .int .u8 0, .int .u8 0, .int .u8 0, .int .u8 0, .int .u8 0, .int .u8 0, .int .u8 0, .int .u8 0, .int .u8 0, .int .u8 0, .int .u8 0, .int .u8 0, .int .u8 0] 27)).heap.size (w.alloc (.cells #[.int .u8 0, .int .u8 0, .int .u8 0, .int .u8 0, .int .u8 0, .int .u8 0, .int .u8 0, .int .u8 0, .int .u8 0, .int .u8 0, .int .u8 0, .int .u8 0, .int .u8 0, .int .u8 0, .int .u8 0, .int .u8 0] 27)) w') : Blk w' w.heap.size 27 (arr .u8 16 fun _ => 0) ∧ w'.there w.heap.size 0 16 ∧ n ≤ w.heap.size :=
  ⟨(Blk.new w 27 (arr .u8 16 fun _ => 0)).kept hb, ((Blk.new w 27 (arr .u8 16 fun _ => 0)).kept hb).there 0 16 (by omega), hn⟩
theorem blk_alloc_d {n : Nat} {w w' : World} (hn : n ≤ w.heap.size) (hb : Below (w.alloc (.cells #[.int .u8 0, .int .u8 0, .int .u8 0, .int .u8 0, .int .u8 0, .int .u8 0, .int .u8 0, .int .u8 0, .int .u8 0, .int .u8 0, .int .u8 0, .int .u8 0, .int .u8 0, .int .u8 0, .int .u8 0, .int .u8 0] 27)).drew.heap.size (w.alloc (.cells #[.int .u8 0, .int .u8 0, .int .u8 0, .int .u8 0, .int .u8 0, .int .u8 0, .int .u8 0, .int .u8 0, .int .u8 0, .int .u8 0, .int .u8 0, .int .u8 0, .int .u8 0, .int .u8 0, .int .u8 0, .int .u8 0] 27)).drew w') : Blk w' w.heap.size 27 (arr .u8 16 fun _ => 0) ∧ w'.there w.heap.size 0 16 ∧ n ≤ w.heap.size :=
  ⟨(Blk.new w 27 (arr .u8 16 fun _ => 0)).drew.kept hb, ((Blk.new w 27 (arr .u8 16 fun _ => 0)).drew.kept hb).there 0 16 (by omega), hn⟩
theorem blk_new0 (w : World) : Blk (w.alloc (.cells #[.int .u8 0, .int .u8 0, .int .u8 0, .int .u8 0, .int .u8 0, .int .u8 0, .int .u8 0, .int .u8 0, .int .u8 0, .int .u8 0, .int .u8 0, .int .u8 0, .int .u8 0, .int .u8 0, .int .u8 0, .int .u8 0] 27)) w.heap.size 27 (arr .u8 16 fun _ => 0) := Blk.new w 27 (arr .u8 16 fun _ => 0)
theorem part_one (k : IntKind) (n : Nat) (f : Nat → Nat) : ∀ v ∈ Mem.part k n f, v.oneCell' = true := by
  intro v hv
  simp only [Mem.part, List.mem_map] at hv
  obtain ⟨i, _, rfl⟩ := hv
  rfl
theorem C0_lt (i : Nat) : C0 i < 256 := enc_lt (ris_lt 1) (ris_lt 17) 10 i
theorem enc0 (w : World) : Calls Try.prog 18 #[A16 (ris 1), A16 (ris 17)] w fun e w' => e = .returned (A16 C0) ∧ Below w.heap.size w w' := encrypt_any _ _ (ris_lt 1) (ris_lt 17) w
abbrev P16 (f : Nat → Nat) : Value := .agg (Mem.part .u8 16 f).toArray
theorem dec0 (w : World) : Calls Try.prog 20 #[A16 (ris 1), P16 C0] w fun e w' => e = .returned (P16 B0) ∧ Below w.heap.size w w' := decrypt_any _ _ (ris_lt 1) C0_lt w
theorem range0 {w : World} {g : Nat} {t : TypeId} {k : IntKind} {n : Nat} {f : Nat → Nat} (h : Blk w g t (arr k n f)) : w.rangeAt g 0 (Mem.part k n f) := by
  have := h.range 0 n (by omega)
  simpa using this
section
variable {g g2 : Nat} {f v : Nat → Nat} {w0 w w' : World}
theorem keep_call (h : w.rangeAt g 0 (Mem.part .u8 16 f) ∧ Blk w g 27 (arr .u8 16 f) ∧ Below w0.heap.size w0 w) (hb : Below w.heap.size w w') : w'.rangeAt g 0 (Mem.part .u8 16 f) ∧ Blk w' g 27 (arr .u8 16 f) ∧ Below w0.heap.size w0 w' :=
  ⟨range0 (h.2.1.kept hb), h.2.1.kept hb, h.2.2.trans (hb.mono h.2.2.size)⟩
theorem keep_alloc {o : Obj} (h : w.rangeAt g 0 (Mem.part .u8 16 f) ∧ Blk w g 27 (arr .u8 16 f) ∧ Below w0.heap.size w0 w) : (w.alloc o).rangeAt g 0 (Mem.part .u8 16 f) ∧ Blk (w.alloc o) g 27 (arr .u8 16 f) ∧ Below w0.heap.size w0 (w.alloc o) :=
  ⟨range0 (h.2.1.alloc _), h.2.1.alloc _, h.2.2.alloc h.2.2.size _⟩
theorem keep_call2 {B : World} (h : Blk w g 27 (arr .u8 16 f) ∧ Blk w g2 27 (arr .u8 16 v) ∧ Below B.heap.size B w) (hb : Below w.heap.size w w') : Blk w' g 27 (arr .u8 16 f) ∧ Blk w' g2 27 (arr .u8 16 v) ∧ Below B.heap.size B w' :=
  ⟨h.1.kept hb, h.2.1.kept hb, h.2.2.trans (hb.mono h.2.2.size)⟩
theorem set_all (b : Blk w g2 27 (arr .u8 16 fun _ => 0)) : Blk (w.setCells g2 0 (Mem.part .u8 16 v)) g2 27 (arr .u8 16 v) ∧ Upd g2 w (w.setCells g2 0 (Mem.part .u8 16 v)) := by
  have h := setCells_blk g2 27 16 w (fun _ => 0) v 0 b
  refine ⟨?_, h.2⟩
  rw [arr_congr (g := fun i => if 0 ≤ i ∧ i < 0 + 16 then v (i - 0) else 0) (fun i hi => by rw [if_pos (by omega), Nat.sub_zero])]
  exact h.1
theorem keep_store (hg : g < w0.heap.size) (h : w.rangeAt g 0 (Mem.part .u8 16 f) ∧ Blk w g 27 (arr .u8 16 f) ∧ Below w0.heap.size w0 w) (ht : Blk w g2 27 (arr .u8 16 fun _ => 0) ∧ w.there g2 0 16 ∧ w0.heap.size ≤ g2) :
    (w.setCells g2 0 (Mem.part .u8 16 v)).rangeAt g 0 (Mem.part .u8 16 f) ∧ Blk (w.setCells g2 0 (Mem.part .u8 16 v)) g 27 (arr .u8 16 f) ∧ Below w0.heap.size w0 (w.setCells g2 0 (Mem.part .u8 16 v)) := by
  have hs := set_all (v := v) ht.1
  have b := h.2.1.upd hs.2 (by omega)
  exact ⟨range0 b, b, hs.2.below h.2.2 ht.2.2⟩
theorem last_alloc {w1 : World} (h1 : Below w1.heap.size w1 w) (h2 : Below w0.heap.size w0 w1) : Blk (w.alloc (.cells #[.int .u8 0, .int .u8 0, .int .u8 0, .int .u8 0, .int .u8 0, .int .u8 0, .int .u8 0, .int .u8 0, .int .u8 0, .int .u8 0, .int .u8 0, .int .u8 0, .int .u8 0, .int .u8 0, .int .u8 0, .int .u8 0] 27)) w.heap.size 27 (arr .u8 16 fun _ => 0) ∧ (w.alloc (.cells #[.int .u8 0, .int .u8 0, .int .u8 0, .int .u8 0, .int .u8 0, .int .u8 0, .int .u8 0, .int .u8 0, .int .u8 0, .int .u8 0, .int .u8 0, .int .u8 0, .int .u8 0, .int .u8 0, .int .u8 0, .int .u8 0] 27)).there w.heap.size 0 16 ∧ w0.heap.size ≤ w.heap.size :=
  ⟨Blk.new w 27 (arr .u8 16 fun _ => 0), (Blk.new w 27 (arr .u8 16 fun _ => 0)).there 0 16 (by omega), Nat.le_trans h2.size h1.size⟩
/-- What stands behind the region. -/
theorem behind {B : World} (hB : Below B.heap.size B w0) (h : (w.setCells g2 0 (Mem.part .u8 16 v)).rangeAt g 0 (Mem.part .u8 16 f) ∧ Blk (w.setCells g2 0 (Mem.part .u8 16 v)) g 27 (arr .u8 16 f) ∧ Below w0.heap.size w0 (w.setCells g2 0 (Mem.part .u8 16 v))) (ht : Blk w g2 27 (arr .u8 16 fun _ => 0) ∧ w.there g2 0 16 ∧ w0.heap.size ≤ g2) :
    ∃ g', (Value.pointer (some ⟨g2, 0, none⟩)) = .pointer (some ⟨g', 0, none⟩) ∧ Below B.heap.size B (w.setCells g2 0 (Mem.part .u8 16 v)) ∧ B.heap.size ≤ g' ∧ Blk (w.setCells g2 0 (Mem.part .u8 16 v)) g 27 (arr .u8 16 f) ∧ Blk (w.setCells g2 0 (Mem.part .u8 16 v)) g' 27 (arr .u8 16 v) :=
  ⟨g2, rfl, hB.trans (h.2.2.mono hB.size), Nat.le_trans hB.size ht.2.2, h.2.1, (set_all ht.1).1⟩
end
theorem new_there (W : World) : (W.alloc (.cells #[.int .u8 0, .int .u8 0, .int .u8 0, .int .u8 0, .int .u8 0, .int .u8 0, .int .u8 0, .int .u8 0, .int .u8 0, .int .u8 0, .int .u8 0, .int .u8 0, .int .u8 0, .int .u8 0, .int .u8 0, .int .u8 0] 27)).there W.heap.size 0 16 := (Blk.new W 27 (arr .u8 16 fun _ => 0)).there 0 16 (by omega)
theorem eqStd (f : Nat → Nat) (w : World) : (binOp .eql 27 (A16 f) (.agg #[.int .u8 105, .int .u8 196, .int .u8 224, .int .u8 216, .int .u8 106, .int .u8 123, .int .u8 4, .int .u8 48, .int .u8 216, .int .u8 205, .int .u8 183, .int .u8 128, .int .u8 112, .int .u8 180, .int .u8 197, .int .u8 90])).run Try.prog w = .ok (.bool (eqN 16 f std)) w := eql27 f std w
theorem eqP (f h : Nat → Nat) (w : World) : (binOp .eql 27 (A16 f) (A16 h)).run Try.prog w = .ok (.bool (eqN 16 f h)) w := eql27 f h w
attribute [local irreducible] arr Mem.part C0 B0 ris std
set_option maxHeartbeats 4000000 in
theorem awake_gen (R S C B : Nat → Nat) (hr1 : Hid (∀ w, Calls Try.prog 25 #[.int .u8 1] w fun e w' => e = .returned (A16 R) ∧ Below w.heap.size w w')) (hr17 : Hid (∀ w, Calls Try.prog 25 #[.int .u8 17] w fun e w' => e = .returned (A16 S) ∧ Below w.heap.size w w'))
    (hen : Hid (∀ w, Calls Try.prog 18 #[A16 R, A16 S] w fun e w' => e = .returned (A16 C) ∧ Below w.heap.size w w')) (hde : Hid (∀ w, Calls Try.prog 20 #[A16 R, P16 C] w fun e w' => e = .returned (P16 B) ∧ Below w.heap.size w w'))
    (hE1 : ∀ w, (binOp .eql 27 (A16 C) (.agg #[.int .u8 105, .int .u8 196, .int .u8 224, .int .u8 216, .int .u8 106, .int .u8 123, .int .u8 4, .int .u8 48, .int .u8 216, .int .u8 205, .int .u8 183, .int .u8 128, .int .u8 112, .int .u8 180, .int .u8 197, .int .u8 90])).run Try.prog w = .ok (.bool true) w) (hE2 : ∀ w, (binOp .eql 27 (A16 B) (A16 S)).run Try.prog w = .ok (.bool true) w) (w : World) :
    Calls Try.prog 17 #[] w fun e w' => e = .returned (.bool true) ∧ Below w.heap.size w w' := by
  go_enter Try.func17, Try.ntmps17
  go_wp2_with fail
  with_reducible refine (hr1.out _).mono ?_
  rintro e w1 ⟨rfl, hb1⟩
  go_wp2_with fail
  with_reducible refine (hr17.out _).mono ?_
  rintro e w2 ⟨rfl, hb2⟩
  go_wp2_with fail
  with_reducible refine (hen.out _).mono ?_
  rintro e w3 ⟨rfl, hb3⟩
  have hB := (hb1.trans (hb2.mono hb1.size)).trans (hb3.mono (hb1.trans (hb2.mono hb1.size)).size)
  clear hb1 hb2 hb3
  have c1 := blk_new0 w3
  have hB' := hB.alloc hB.size (.cells #[.int .u8 0, .int .u8 0, .int .u8 0, .int .u8 0, .int .u8 0, .int .u8 0, .int .u8 0, .int .u8 0, .int .u8 0, .int .u8 0, .int .u8 0, .int .u8 0, .int .u8 0, .int .u8 0, .int .u8 0, .int .u8 0] 27)
  go_wp2_with (first | (refine wpList_store_all rfl 27 _ _ rfl rfl c1 C rfl info27 ?_; intro w4 c2 hu))
  have hC := hu.below hB' hB.size
  have hg := hB.size
  obtain ⟨g, hgg⟩ : ∃ g, g = w3.heap.size := ⟨_, rfl⟩
  rw [← hgg] at c2 hg
  rw [← hgg]
  clear hB' hB c1 hu hgg
  clear w1 w2 w3
  have hi : (Try.prog.info? 27).map (·.size) = some 16 := info27
  have hl : (Mem.part .u8 16 B).length = 16 := part_len _ _ _
  have hi1 : (Try.prog.info? 27).map (·.size) = some (Mem.part .u8 16 C).length := by rw [part_len]; exact info27
  have hi2 : (Try.prog.info? 27).map (·.size) = some (Mem.part .u8 16 B).length := by rw [part_len]; exact info27
  have hone : ∀ v ∈ Mem.part .u8 16 B, v.oneCell' = true := part_one _ _ _
  have hu := Try.underlying27
  have hn := new_there
  have hg4 : g < w4.drew.heap.size := c2.lt
  have hC4 := hC.drew
  dsimp only [Act.put]
  go_cut [2] (fun s2 wx => ∃ g2, s2 = .pointer (some ⟨g2, 0, none⟩) ∧ Below w.heap.size w wx ∧ w.heap.size ≤ g2 ∧ Blk wx g 27 (arr .u8 16 C) ∧ Blk wx g2 27 (arr .u8 16 B))
  case first =>
    go_region_held3 (fun w' => w'.rangeAt g 0 (Mem.part .u8 16 C) ∧ Blk w' g 27 (arr .u8 16 C) ∧ Below w4.drew.heap.size w4.drew w') (first | exact ⟨range0 c2.drew, c2.drew, Below.refl _ _⟩ | exact keep_call (by assumption) hb | exact keep_alloc (by assumption) | exact keep_store hg4 (by assumption) ht | exact keep_store hg4 (by assumption) (last_alloc hb (by assumption)))
      (first | (go_at_call 25; refine (hr1.out _).mono ?_; rintro e w' ⟨rfl, hb⟩; try have ht := blk_alloc_d (n := w4.drew.heap.size) (by exact Nat.le_refl _) hb) | (go_at_call 20; refine (hde.out _).mono ?_; rintro e w' ⟨rfl, hb⟩; first | (have ht := blk_alloc (n := w4.drew.heap.size) (by first | exact Nat.le_refl _ | exact Below.size (by assumption)) hb) | (have ht := And.intro (ht.1.kept hb) (And.intro ((ht.1.kept hb).there 0 16 (by omega)) ht.2.2)) | skip))
    all_goals go_wp2_with fail
    all_goals go_meet
    all_goals first | exact behind hC4 (by assumption) ht | exact behind hC4 (by assumption) (last_alloc hb (by assumption))
  case rest =>
    clear hi hl hi1 hi2 hone hn hg4 hC4 hC c2
    obtain ⟨g2, rfl, hB, hg2, b1, b2⟩ := hcut
    go_wp2_with fail
    (refine wp_region_noPanic ?_; refine wp_region_held_drew (S := (fun w' => Blk w' g 27 (arr .u8 16 C) ∧ Blk w' g2 27 (arr .u8 16 B) ∧ Below w.heap.size w w')) (by kernel_rfl) ⟨b1.drew, b2.drew, hB.drew⟩ (fun _ => ?_))
    (refine wpAnyH_load (i := 0) rfl rfl (by kernel_rfl) (by kernel_rfl) (by kernel_rfl) (fun _ _ _ h => h) (by rfl) 27 _ rfl rfl (fun _ h => h.1) _ Try.underlying27 rfl info27 (by assumption) ?_; try simp only [Act.put, List.setIfInBounds_toArray, List.set_cons_zero, List.set_cons_succ])
    (refine wpAnyH_value (i := 1) (v := ?_) rfl rfl (by kernel_rfl) (by kernel_rfl) (by kernel_rfl) (fun _ _ _ h => h) (by rfl) (by assumption) ?_ ?_; rotate_left; (intro w hSw; (try dsimp only at hSw); go_simp; try with_reducible rfl); try simp only [Act.put, List.setIfInBounds_toArray, List.set_cons_zero, List.set_cons_succ])
    (refine wpAnyH_value (i := 2) (v := ?_) rfl rfl (by kernel_rfl) (by kernel_rfl) (by kernel_rfl) (fun _ _ _ h => h) (by rfl) (by assumption) ?_ ?_; rotate_left; (intro w hSw; (try dsimp only at hSw); go_simp; try with_reducible rfl); try simp only [Act.put, List.setIfInBounds_toArray, List.set_cons_zero, List.set_cons_succ])
    (refine wpAnyH_value (i := 3) (v := ?_) rfl rfl (by kernel_rfl) (by kernel_rfl) (by kernel_rfl) (fun _ _ _ h => h) (by rfl) (by assumption) ?_ ?_; rotate_left; (intro w hSw; (try dsimp only at hSw); go_simp; try with_reducible rfl); try simp only [Act.put, List.setIfInBounds_toArray, List.set_cons_zero, List.set_cons_succ])
    (refine wpAnyH_load (i := 4) rfl rfl (by kernel_rfl) (by kernel_rfl) (by kernel_rfl) (fun _ _ _ h => h) (by rfl) 27 _ rfl rfl (fun _ h => h.2.1) _ Try.underlying27 rfl info27 (by assumption) ?_; try simp only [Act.put, List.setIfInBounds_toArray, List.set_cons_zero, List.set_cons_succ])
    (refine wpAnyH_one (i := 5) (by kernel_rfl) rfl rfl (fun K hK => ?_); go_simp; refine ((hr17.out _)).mono ?_; rintro e w' ⟨rfl, hb⟩; refine hK.out _ _ (keep_call2 (by assumption) hb) (fun _ => ?_); clear hK K; try simp only [Act.put, List.setIfInBounds_toArray, List.set_cons_zero, List.set_cons_succ])
    (refine wpAnyH_value (i := 6) (v := ?_) rfl rfl (by kernel_rfl) (by kernel_rfl) (by kernel_rfl) (fun _ _ _ h => h) (by rfl) (by assumption) ?_ ?_; rotate_left; (intro w hSw; (try dsimp only at hSw); go_simp; try with_reducible rfl); try simp only [Act.put, List.setIfInBounds_toArray, List.set_cons_zero, List.set_cons_succ])
    (refine wpAnyH_value (i := 7) (v := ?_) rfl rfl (by kernel_rfl) (by kernel_rfl) (by kernel_rfl) (fun _ _ _ h => h) (by rfl) (by assumption) ?_ ?_; rotate_left; (intro w hSw; (try dsimp only at hSw); go_simp; try with_reducible rfl); try simp only [Act.put, List.setIfInBounds_toArray, List.set_cons_zero, List.set_cons_succ])
    (refine wpAnyH_value (i := 8) (v := ?_) rfl rfl (by kernel_rfl) (by kernel_rfl) (by kernel_rfl) (fun _ _ _ h => h) (by rfl) (by assumption) ?_ ?_; rotate_left; (intro w hSw; (try dsimp only at hSw); go_simp; try with_reducible rfl); try simp only [Act.put, List.setIfInBounds_toArray, List.set_cons_zero])
    (refine wpAnyH_done (by kernel_rfl) ?_ _; refine NoPanic.normal ?_)
    go_wp2_with fail
    go_ret
    exact ⟨rfl, hB.drew.trans (hb.mono hB.size)⟩
theorem awake_any (h1 : eqN 16 C0 std = true) (h2 : eqN 16 B0 (ris 17) = true) (w : World) : Calls Try.prog 17 #[] w fun e w' => e = .returned (.bool true) ∧ Below w.heap.size w w' :=
  awake_gen (ris 1) (ris 17) C0 B0 (Lib.hid rise1) (Lib.hid rise17) (Lib.hid enc0) (Lib.hid dec0) (fun w => (eqStd C0 w).trans (by rw [h1])) (fun w => (eqP B0 (ris 17) w).trans (by rw [h2])) w
end Go.Proofs.Ytghmelcbkjejeaa.Aw
