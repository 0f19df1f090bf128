/- Texts of this session, merged. -/
import Derived.Test.YtghmelcbkjejeaaAc
import Derived.Test.YtghmelcbkjejeaaLh14
import Derived.Test.YtghmelcbkjejeaaRx
import Derived.Test.YtghmelcbkjejeaaAw
import Derived.Test.YtghmelcbkjejeaaLa
/- The contracts of layer 06 on the heap of the mind; the document's Encrypt. By this session. -/
namespace Go.Proofs.Ytghmelcbkjejeaa.Ak
open Go.Proofs.Ytghmelcbkjejeaa.Lh Go.RowKit Go.Proofs.Ytghmelcbkjejeaa.Mem Go.Proofs.Ytghmelcbkjejeaa.Sc Go.Proofs.Ytghmelcbkjejeaa.Ar Go.Proofs.Ytghmelcbkjejeaa.Mx Go.Proofs.Ytghmelcbkjejeaa.Ex Go.Proofs.Ytghmelcbkjejeaa.En Go.Proofs.Ytghmelcbkjejeaa.Rf Go.Proofs.Ytghmelcbkjejeaa.Rx
set_option maxRecDepth 100000
set_option linter.unusedSimpArgs false
set_option linter.unusedSectionVars false
set_option linter.unusedVariables false
variable [Fz]
def byS (n : Nat) (f : Nat → Nat) : Segs := .rows n 1 (fun i => .one (.int .u8 (f i : Int)) .nil) .nil
theorem rows_list (f : Nat → Value) : ∀ (n : Nat) (ls : List (List Value)), ls.length = n → (∀ i, i < n → ls[i]? = some [f i]) → ls.flatten = (List.range n).map f := by
  intro n
  induction n with
  | zero => intro ls h _; obtain rfl := List.eq_nil_of_length_eq_zero h; rfl
  | succ n ih =>
    intro ls h hi
    have e : ls = ls.take n ++ [[f n]] := by
      have := hi n (by omega)
      conv => lhs; rw [← List.take_append_drop n ls]
      congr 1
      rw [List.drop_eq_getElem_cons (by omega), List.drop_eq_nil_of_le (by omega)]
      rw [List.getElem?_eq_getElem (by omega)] at this
      rw [Option.some.inj this]
    rw [e, List.flatten_append, ih (ls.take n) (by rw [List.length_take]; omega) (fun i hh => by rw [List.getElem?_take, if_pos hh]; exact hi i (by omega)), List.range_succ, List.map_append]
    rfl
theorem ps_by (ρ : Pl) (n : Nat) (f : Nat → Nat) (l : List Value) : PS ρ (byS n f) l ↔ l = (arr .u8 n f).toList := by
  constructor
  · rintro ⟨ls, l', rfl, h1, h2, rfl⟩
    rw [List.append_nil, rows_list (fun i => Value.int .u8 (f i : Int)) n ls h1 (fun i hi => by
      obtain ⟨y, q1, q2, x, l2, rfl, rfl, q3, rfl⟩ := h2 i hi
      exact q1)]
    simp [arr]
  · rintro rfl
    refine ⟨(List.range n).map fun i => [Value.int .u8 (f i : Int)], [], by rw [rows_list (fun i => Value.int .u8 (f i : Int)) n _ (by simp) (fun i hi => by simp [hi])]; simp [arr], by simp, fun i hi => ⟨[Value.int .u8 (f i : Int)], by simp [hi], rfl, _, _, rfl, rfl, rfl, rfl⟩, rfl⟩
theorem pv_by (ρ : Pl) (n : Nat) (f : Nat → Nat) (x : Value) : PV ρ (.agg (byS n f)) x ↔ x = .agg (arr .u8 n f) := by
  constructor
  · rintro ⟨l, h1, rfl⟩
    rw [(ps_by ρ n f l).1 h1]
  · rintro rfl
    exact ⟨(arr .u8 n f).toList, (ps_by ρ n f _).2 rfl, rfl⟩
def blV (f : Nat → Nat) : LVal := .agg (byS 16 f)
def coV (f : Nat → Nat) : LVal := .agg (byS 4 f)
def keysS (f : Nat → Nat) : Segs := .rows 11 16 (fun r => byS 16 (fun i => f (r * 16 + i))) .nil
theorem pv_keys (ρ : Pl) (f : Nat → Nat) : PV ρ (.agg (keysS f)) (.agg (arr .u8 176 f)) := by
  refine ⟨(arr .u8 176 f).toList, ⟨(List.range 11).map fun r => (arr .u8 16 (fun i => f (r * 16 + i))).toList, [], ?_, by simp, fun i hi => ⟨(arr .u8 16 (fun j => f (i * 16 + j))).toList, by simp [hi], by simp [arr], (ps_by ρ 16 _ _).2 rfl⟩, rfl⟩, rfl⟩
  have e : (List.range 176) = (List.range 11).flatMap fun r => (List.range 16).map fun i => r * 16 + i := by decide
  simp only [arr, List.append_nil]
  rw [e, List.map_flatMap, List.flatMap]
  simp only [List.map_map]
  rfl
theorem args1 {f : Nat → Nat} {n : Nat} (ρ : Pl) (l' : List Value) (h : PVs ρ (.cons (.agg (byS n f)) .nil) l') : l' = [.agg (arr .u8 n f)] := by
  obtain ⟨x, r, rfl, h1, rfl⟩ := h
  rw [(pv_by ρ n f x).1 h1]
theorem rexp (k : Nat → Nat) (hk : ∀ i, k i < 256) : LCalls Try.prog 16 (.cons (blV k) .nil) [] (fun e h' => e = .ret (.agg (keysS (keys k))) ∧ h' = []) :=
  LCalls.ofBelow (by kernel_rfl) args1 (fun ρ => pv_keys ρ _) (fun w => rexpand_any k hk w)
theorem rmixL (f : Nat → Nat) (hf : ∀ i, f i < 256) : LCalls Try.prog 30 (.cons (coV f) .nil) [] (fun e h' => e = .ret (coV (rmix f)) ∧ h' = []) :=
  LCalls.ofBelow (by kernel_rfl) args1 (fun ρ => (pv_by ρ 4 _ _).2 rfl) (fun w => rmix_any f hf w)
theorem rboxL (a : Nat) (ha : a < 256) : LCalls Try.prog 14 (.cons (.int .u8 (a : Int)) .nil) [] (fun e h' => e = .ret (.int .u8 (Gf.box a : Nat)) ∧ h' = []) :=
  LCalls.ofBelow (l := [.int .u8 (a : Int)]) (by kernel_rfl) (fun ρ l' h => by obtain ⟨x, r, rfl, rfl, rfl⟩ := h; rfl) (fun ρ => rfl) (fun w => rbox a ha w)
theorem encL (k b : Nat → Nat) (hk : ∀ i, k i < 256) (hb : ∀ i, b i < 256) : LCalls Try.prog 18 (.cons (blV k) (.cons (blV b) .nil)) [] (fun e h' => e = .ret (blV (enc k b 10)) ∧ h' = []) :=
  LCalls.ofBelow (l := [A16 k, A16 b]) (by kernel_rfl) (fun ρ l' h => by obtain ⟨x, r, rfl, h1, y, r2, rfl, h2, rfl⟩ := h; rw [(pv_by ρ 16 _ x).1 h1, (pv_by ρ 16 _ y).1 h2]) (fun ρ => (pv_by ρ 16 _ _).2 rfl) (fun w => encrypt_any k b hk hb w)
theorem awakeL : LCalls Try.prog 17 .nil [] (fun e h' => e = .ret (.bool true) ∧ h' = []) :=
  LCalls.ofBelow (l := []) (by kernel_rfl) (fun ρ l' h => h) (fun ρ => rfl) (fun w => Go.Proofs.Ytghmelcbkjejeaa.La.awake_holds w)
end Go.Proofs.Ytghmelcbkjejeaa.Ak

/- The document's Encrypt, walked. By this session. -/
namespace Go.Proofs.Ytghmelcbkjejeaa.Ak
open Go.Proofs.Ytghmelcbkjejeaa.Lh Go.RowKit Go.Proofs.Ytghmelcbkjejeaa.Mem Go.Proofs.Ytghmelcbkjejeaa.Sc Go.Proofs.Ytghmelcbkjejeaa.Ar Go.Proofs.Ytghmelcbkjejeaa.Mx Go.Proofs.Ytghmelcbkjejeaa.Ex Go.Proofs.Ytghmelcbkjejeaa.En Go.Proofs.Ytghmelcbkjejeaa.Rf Go.Proofs.Ytghmelcbkjejeaa.Rx
set_option maxRecDepth 100000
set_option maxHeartbeats 1000000
set_option linter.unusedSimpArgs false
set_option linter.unusedSectionVars false
set_option linter.unusedVariables false
variable [Fz]
theorem wrapS {n : Int} (h : 0 ≤ n ∧ n < 9000000000000000000) : IntKind.i64.wrap n = n := by
  simp [IntKind.wrap, IntKind.bits, IntKind.signed]
  omega
def blO (f : Nat → Nat) : Option LObj := some ⟨byS 16 f, 27, false, false⟩
def coO (f : Nat → Nat) : Option LObj := some ⟨byS 4 f, 37, false, false⟩
def keysO (f : Nat → Nat) : Option LObj := some ⟨keysS f, 28, false, false⟩
def up (f : Nat → Nat) (k v : Nat) : Nat → Nat := fun j => if j = k then v else f j
theorem by_step {f : Nat → Nat} {k v ii : Nat} {kk w : Int} (hk : kk.toNat = k) (hw : w = (v : Int)) : shS 1000000 (frzAll [] []) (if ii = kk.toNat then .one (.int .u8 w) .nil else .one (.int .u8 (f ii : Int)) .nil) (.one (.int .u8 (up f k v ii : Nat)) .nil) := by
  unfold up
  rw [hk]
  by_cases c : ii = k
  · rw [if_pos c, if_pos c]; exact ⟨⟨rfl, hw⟩, trivial⟩
  · rw [if_neg c, if_neg c]; exact ⟨⟨rfl, rfl⟩, trivial⟩
theorem by_same {f g : Nat → Nat} {n ii : Nat} (h : ∀ i, i < n → f i = g i) (hi : ii < n) : shS 1000000 (frzAll [] []) (.one (.int .u8 (f ii : Int)) .nil) (.one (.int .u8 (g ii : Nat)) .nil) := ⟨⟨rfl, by rw [h ii hi]⟩, trivial⟩
theorem xorL {a b : Nat} (ha : a < 256) (hb : b < 256) : IntKind.u8.wrap ((BitVec.ofInt IntKind.u8.bits (a : Int) ^^^ BitVec.ofInt IntKind.u8.bits (b : Int)).toNat : Int) = ((a ^^^ b : Nat) : Int) := Br.xor_u8 a b ha hb
theorem up_lt {f : Nat → Nat} {k v : Nat} (hf : ∀ i, f i < 256) (hv : v < 256) (i : Nat) : up f k v i < 256 := by
  unfold up
  split
  · exact hv
  · exact hf i
theorem x_lt {a b : Nat} (ha : a < 256) (hb : b < 256) : a ^^^ b < 256 := Nat.xor_lt_two_pow (n := 8) ha hb
/-- A column mixed by the program's row of numbers is the document's. -/
theorem mix_col (f a : Nat → Nat) (j q : Nat) (hq : q < 4) (hf : ∀ i, f i < 256) (ha : ∀ m, m < 4 → a m = f (4 * j + m)) : mix f (four 2 3 1 1) (4 * j + q) = rmix a q := by
  have h1 : ∀ m, (4 * j + q) / 4 * 4 + m = 4 * j + m := fun m => by omega
  have h2 : (4 * j + q) % 4 = q := by omega
  unfold mix rmix
  simp only [mixT, h1, h2, Nat.zero_xor]
  rw [ha q hq, ha _ (Nat.mod_lt _ (by decide)), ha _ (Nat.mod_lt _ (by decide)), ha _ (Nat.mod_lt _ (by decide))]
  have o := fun x (h : x < 256) => Gf.m8_one_left x h
  match q, hq with
  | 0, _ => simp [four, o _ (hf _)]
  | 1, _ => simp [four, o _ (hf _)]; ac_rfl
  | 2, _ => simp [four, o _ (hf _)]; ac_rfl
  | 3, _ => simp [four, o _ (hf _)]; ac_rfl
theorem enc_at (k b g : Nat → Nat) (p j q : Nat) (hj : j < 4) (hq : q < 4) (hk : ∀ i, k i < 256) (hb : ∀ i, b i < 256) (hg : ∀ i, i < 16 → g i = enc k b p i) (a : Nat → Nat) (ha : ∀ m, m < 4 → a m = Gf.box (g ((j + m) % 4 * 4 + m))) :
    enc k b (p + 1) (4 * j + q) = (if p + 1 < 10 then rmix a q else a q) ^^^ keys k ((p + 1) * 16 + (4 * j + q)) := by
  have e : ∀ m, m < 4 → a m = sh 1 (fun i => Gf.box (enc k b p i)) (4 * j + m) := by
    intro m hm
    rw [ha m hm, hg _ (by omega)]
    unfold sh
    show _ = Gf.box (enc k b p ((4 * j + m + 4 * 1 * ((4 * j + m) % 4)) % 16))
    rw [show (4 * j + m + 4 * 1 * ((4 * j + m) % 4)) % 16 = (j + m) % 4 * 4 + m by omega]
  have hFl : ∀ i, sh 1 (fun i => Gf.box (enc k b p i)) i < 256 := fun i => Gf.box_lt _ (enc_lt hk hb p _)
  show (if p + 1 < 10 then mix (sh 1 fun i => Gf.box (enc k b p i)) (four 2 3 1 1) else sh 1 fun i => Gf.box (enc k b p i)) (4 * j + q) ^^^ rk k (p + 1) (4 * j + q) = _
  generalize sh 1 (fun i => Gf.box (enc k b p i)) = F at e hFl ⊢
  by_cases c : p + 1 < 10
  · rw [if_pos c, if_pos c, mix_col F a j q hq hFl e]
    rfl
  · rw [if_neg c, if_neg c, e q hq]
    rfl
theorem rencL (k b : Nat → Nat) (hk : ∀ i, k i < 256) (hb : ∀ i, b i < 256) : LCalls Try.prog 19 (.cons (blV k) (.cons (blV b) .nil)) [] (fun e h' => e = .ret (blV (enc k b 10)) ∧ h' = []) := by
  have hkl := keys_lt hk
  refine LCalls.tell ?_; refine enter19 rfl ?_; conv => whnf
  refine LCalls.use (rexp k hk) [] rfl rfl trivial ?_; rintro _ _ ⟨rfl, rfl⟩; conv => whnf
  refine Loop.inv (lwp_mono _) (fun j t h => ∃ (q : Nat) (g : Nat → Nat), q ≤ 16 ∧ (∀ i, g i < 256) ∧ (∀ i, i < q → g i = b i ^^^ keys k i) ∧ (∀ i, q ≤ i → g i = b i) ∧ j = 16 - q ∧ t = [.any, .any, .any, .ptr ⟨1, [], 0⟩, .ptr ⟨2, [], 0⟩, .ptr ⟨3, [], 0⟩, .int .i64 q, .any, .any, .any, .any, .any, .any, .any, .any, .any, .any, .any, .any, .any, .any, .any, .any, .any, .any, .any, .any, .any, .any, .any, .any, .any, .any, .any, .any, .any, .any, .any, .any, .any, .any, .any, .any, .any, .any, .any, .any, .any, .any, .any, .any, .any, .any, .any, .any, .any, .any, .any, .any, .any, .any, .any, .any, .any, .any, .any, .any, .any, .any, .any, .any, .any, .any, .any, .any, .any, .any, .any, .any, .any] ∧ h = [blO k, blO g, blO (fun _ => 0), keysO (keys k)]) ?_ ?_
  · refine ⟨_, _, _, ⟨[], trivial, [0, 1, 2, 3], rfl, rfl, ?_, ?_⟩, 0, b, by omega, hb, fun i hi => by omega, fun i _ => rfl, rfl, rfl, rfl⟩
    · (repeat' first | exact trivial | exact rfl | exact Nat.le_of_ble_eq_true rfl | exact Nat.le_refl _ | exact .inl ⟨rfl, rfl, rfl, rfl, Nat.le_refl _, Nat.le_refl _, .inr rfl, Nat.le_of_ble_eq_true rfl⟩ | exact .inl ⟨rfl, rfl, rfl, rfl, Nat.le_refl _, Nat.le_refl _, .inl rfl, Nat.le_of_ble_eq_true rfl⟩ | exact .inr ⟨rfl, rfl, rfl, rfl, rfl⟩ | exact .inl ⟨rfl, rfl, rfl, (by first | omega | (simp; done) | (simp; omega)), (by first | omega | (simp; done) | (simp; omega)), (by first | omega | (simp; done) | (simp; omega)), .inr rfl, Nat.le_of_ble_eq_true rfl⟩ | exact .inl ⟨rfl, rfl, rfl, (by first | omega | (simp; done) | (simp; omega)), (by first | omega | (simp; done) | (simp; omega)), (by first | omega | (simp; done) | (simp; omega)), .inl rfl, Nat.le_of_ble_eq_true rfl⟩ | exact fun h => h | refine ⟨?_, ?_, ?_, .inl ?_⟩ | refine ⟨?_, ?_⟩ | refine fun ii hii => ?_ | omega | fail)
    · (repeat' first | exact trivial | exact rfl | exact Nat.le_of_ble_eq_true rfl | exact Nat.le_refl _ | exact .inl ⟨rfl, rfl, rfl, rfl, Nat.le_refl _, Nat.le_refl _, .inr rfl, Nat.le_of_ble_eq_true rfl⟩ | exact .inl ⟨rfl, rfl, rfl, rfl, Nat.le_refl _, Nat.le_refl _, .inl rfl, Nat.le_of_ble_eq_true rfl⟩ | exact .inr ⟨rfl, rfl, rfl, rfl, rfl⟩ | exact .inl ⟨rfl, rfl, rfl, (by first | omega | (simp; done) | (simp; omega)), (by first | omega | (simp; done) | (simp; omega)), (by first | omega | (simp; done) | (simp; omega)), .inr rfl, Nat.le_of_ble_eq_true rfl⟩ | exact .inl ⟨rfl, rfl, rfl, (by first | omega | (simp; done) | (simp; omega)), (by first | omega | (simp; done) | (simp; omega)), (by first | omega | (simp; done) | (simp; omega)), .inl rfl, Nat.le_of_ble_eq_true rfl⟩ | exact fun h => h | refine ⟨?_, ?_, ?_, .inl ?_⟩ | refine ⟨?_, ?_⟩ | refine fun ii hii => ?_ | omega | fail)
  · rintro j _ _ ⟨q, g, hq, hg, hg1, hg2, rfl, rfl, rfl⟩
    conv => whnf
    refine iteP_intro (fun hc => ?_) (fun hc => ?_)
    · rewrite [hc]
      have hc3 := of_decide_eq_true hc
      (conv => whnf); (repeat (refine And.intro (by first | omega | (dsimp only; omega)) ?_; conv => whnf))
      rewrite [wrapS (by omega)]
      refine ⟨_, _, _, ?_, ⟨[], trivial, [0, 1, 2, 3], rfl, rfl, ?_, ?_⟩, q + 1, up g q (b q ^^^ keys k q), by omega, up_lt hg (x_lt (hb _) (hkl _)), fun i hi => ?_, fun i hi => ?_, rfl, rfl, rfl⟩
      · omega
      · (repeat' first | exact trivial | exact rfl | exact Nat.le_of_ble_eq_true rfl | exact Nat.le_refl _ | exact .inl ⟨rfl, rfl, rfl, rfl, Nat.le_refl _, Nat.le_refl _, .inr rfl, Nat.le_of_ble_eq_true rfl⟩ | exact .inl ⟨rfl, rfl, rfl, rfl, Nat.le_refl _, Nat.le_refl _, .inl rfl, Nat.le_of_ble_eq_true rfl⟩ | exact .inr ⟨rfl, rfl, rfl, rfl, rfl⟩ | exact .inl ⟨rfl, rfl, rfl, (by first | omega | (simp; done) | (simp; omega)), (by first | omega | (simp; done) | (simp; omega)), (by first | omega | (simp; done) | (simp; omega)), .inr rfl, Nat.le_of_ble_eq_true rfl⟩ | exact .inl ⟨rfl, rfl, rfl, (by first | omega | (simp; done) | (simp; omega)), (by first | omega | (simp; done) | (simp; omega)), (by first | omega | (simp; done) | (simp; omega)), .inl rfl, Nat.le_of_ble_eq_true rfl⟩ | exact fun h => h | refine ⟨?_, ?_, ?_, .inl ?_⟩ | refine ⟨?_, ?_⟩ | refine fun ii hii => ?_ | omega | fail)
      · (repeat' first | exact trivial | exact rfl | exact Nat.le_of_ble_eq_true rfl | exact Nat.le_refl _ | exact .inl ⟨rfl, rfl, rfl, rfl, Nat.le_refl _, Nat.le_refl _, .inr rfl, Nat.le_of_ble_eq_true rfl⟩ | exact .inl ⟨rfl, rfl, rfl, rfl, Nat.le_refl _, Nat.le_refl _, .inl rfl, Nat.le_of_ble_eq_true rfl⟩ | exact .inr ⟨rfl, rfl, rfl, rfl, rfl⟩ | exact .inl ⟨rfl, rfl, rfl, (by first | omega | (simp; done) | (simp; omega)), (by first | omega | (simp; done) | (simp; omega)), (by first | omega | (simp; done) | (simp; omega)), .inr rfl, Nat.le_of_ble_eq_true rfl⟩ | exact .inl ⟨rfl, rfl, rfl, (by first | omega | (simp; done) | (simp; omega)), (by first | omega | (simp; done) | (simp; omega)), (by first | omega | (simp; done) | (simp; omega)), .inl rfl, Nat.le_of_ble_eq_true rfl⟩ | exact fun h => h | refine ⟨?_, ?_, ?_, .inl ?_⟩ | refine ⟨?_, ?_⟩ | refine fun ii hii => ?_ | omega | fail)
        exact by_step (Int.toNat_natCast q) ((xorL (hg _) (hkl _)).trans (by rw [Int.toNat_natCast, hg2 q (Nat.le_refl _)]; simp))
      · unfold up
        split
        · rename_i c; rw [c]
        · exact hg1 i (by omega)
      · unfold up
        rw [if_neg (by omega)]
        exact hg2 i (by omega)
    · rewrite [hc]
      have hc3 := of_decide_eq_false hc
      conv => whnf
      have hg0 : ∀ i, i < 16 → g i = enc k b 0 i := fun i hi => by rw [hg1 i (by omega)]; show _ = b i ^^^ keys k (0 * 16 + i); rw [Nat.zero_mul, Nat.zero_add]
      clear hg1 hg2
      refine Loop.inv (lwp_mono _) (fun j t h => ∃ (p : Nat) (g : Nat → Nat), p ≤ 10 ∧ (∀ i, g i < 256) ∧ (∀ i, i < 16 → g i = enc k b p i) ∧ j = 10 - p ∧ t = [.any, .any, .any, .ptr ⟨1, [], 0⟩, .ptr ⟨2, [], 0⟩, .ptr ⟨3, [], 0⟩, .any, .int .i64 (p + 1 : Nat), .any, .any, .any, .any, .any, .any, .any, .any, .any, .any, .any, .any, .any, .any, .any, .any, .any, .any, .any, .any, .any, .any, .any, .any, .any, .any, .any, .any, .any, .any, .any, .any, .any, .any, .any, .any, .any, .any, .any, .any, .any, .any, .any, .any, .any, .any, .any, .any, .any, .any, .any, .any, .any, .any, .any, .any, .any, .any, .any, .any, .any, .any, .any, .any, .any, .any, .any, .any, .any, .any, .any, .any] ∧ h = [blO k, blO g, blO (fun _ => 0), keysO (keys k)]) ?_ ?_
      · refine ⟨_, _, _, ⟨[], trivial, [0, 1, 2, 3], rfl, rfl, ?_, ?_⟩, 0, g, by omega, hg, hg0, rfl, rfl, rfl⟩
        · (repeat' first | exact trivial | exact rfl | exact Nat.le_of_ble_eq_true rfl | exact Nat.le_refl _ | exact .inl ⟨rfl, rfl, rfl, rfl, Nat.le_refl _, Nat.le_refl _, .inr rfl, Nat.le_of_ble_eq_true rfl⟩ | exact .inl ⟨rfl, rfl, rfl, rfl, Nat.le_refl _, Nat.le_refl _, .inl rfl, Nat.le_of_ble_eq_true rfl⟩ | exact .inr ⟨rfl, rfl, rfl, rfl, rfl⟩ | exact .inl ⟨rfl, rfl, rfl, (by first | omega | (simp; done) | (simp; omega)), (by first | omega | (simp; done) | (simp; omega)), (by first | omega | (simp; done) | (simp; omega)), .inr rfl, Nat.le_of_ble_eq_true rfl⟩ | exact .inl ⟨rfl, rfl, rfl, (by first | omega | (simp; done) | (simp; omega)), (by first | omega | (simp; done) | (simp; omega)), (by first | omega | (simp; done) | (simp; omega)), .inl rfl, Nat.le_of_ble_eq_true rfl⟩ | exact fun h => h | refine ⟨?_, ?_, ?_, .inl ?_⟩ | refine ⟨?_, ?_⟩ | refine fun ii hii => ?_ | omega | fail)
        · (repeat' first | exact trivial | exact rfl | exact Nat.le_of_ble_eq_true rfl | exact Nat.le_refl _ | exact .inl ⟨rfl, rfl, rfl, rfl, Nat.le_refl _, Nat.le_refl _, .inr rfl, Nat.le_of_ble_eq_true rfl⟩ | exact .inl ⟨rfl, rfl, rfl, rfl, Nat.le_refl _, Nat.le_refl _, .inl rfl, Nat.le_of_ble_eq_true rfl⟩ | exact .inr ⟨rfl, rfl, rfl, rfl, rfl⟩ | exact .inl ⟨rfl, rfl, rfl, (by first | omega | (simp; done) | (simp; omega)), (by first | omega | (simp; done) | (simp; omega)), (by first | omega | (simp; done) | (simp; omega)), .inr rfl, Nat.le_of_ble_eq_true rfl⟩ | exact .inl ⟨rfl, rfl, rfl, (by first | omega | (simp; done) | (simp; omega)), (by first | omega | (simp; done) | (simp; omega)), (by first | omega | (simp; done) | (simp; omega)), .inl rfl, Nat.le_of_ble_eq_true rfl⟩ | exact fun h => h | refine ⟨?_, ?_, ?_, .inl ?_⟩ | refine ⟨?_, ?_⟩ | refine fun ii hii => ?_ | omega | fail)
      · clear hg hg0 hc3 hc hq
        rintro j _ _ ⟨p, g, hp, hg, hg0, rfl, rfl, rfl⟩
        conv => whnf
        refine iteP_intro (fun hc => ?_) (fun hc => ?_)
        · rewrite [hc]
          have hc3 := of_decide_eq_true hc
          conv => whnf
          refine Loop.inv (lwp_mono _) (fun j t h => ∃ (J : Nat) (c : Nat → Nat), J ≤ 4 ∧ (∀ i, c i < 256) ∧ (∀ i, i < 4 * J → c i = enc k b (p + 1) i) ∧ j = 4 - J ∧ t = [.any, .any, .any, .ptr ⟨1, [], 0⟩, .ptr ⟨2, [], 0⟩, .ptr ⟨3, [], 0⟩, .any, .int .i64 (p + 1 : Nat), .ptr ⟨4, [], 0⟩, .int .i64 J, .any, .any, .any, .any, .any, .any, .any, .any, .any, .any, .any, .any, .any, .any, .any, .any, .any, .any, .any, .any, .any, .any, .any, .any, .any, .any, .any, .any, .any, .any, .any, .any, .any, .any, .any, .any, .any, .any, .any, .any, .any, .any, .any, .any, .any, .any, .any, .any, .any, .any, .any, .any, .any, .any, .any, .any, .any, .any, .any, .any, .any, .any, .any, .any, .any, .any, .any, .any, .any, .any] ∧ h = [blO k, blO g, blO (fun _ => 0), keysO (keys k), blO c]) ?_ ?_
          · refine ⟨_, _, _, ⟨[], trivial, [0, 1, 2, 3, 4], rfl, rfl, ?_, ?_⟩, 0, fun _ => 0, by omega, fun _ => (by decide : 0 < 256), fun i hi => by omega, rfl, rfl, rfl⟩
            · (repeat' first | exact trivial | exact rfl | exact Nat.le_of_ble_eq_true rfl | exact Nat.le_refl _ | exact .inl ⟨rfl, rfl, rfl, rfl, Nat.le_refl _, Nat.le_refl _, .inr rfl, Nat.le_of_ble_eq_true rfl⟩ | exact .inl ⟨rfl, rfl, rfl, rfl, Nat.le_refl _, Nat.le_refl _, .inl rfl, Nat.le_of_ble_eq_true rfl⟩ | exact .inr ⟨rfl, rfl, rfl, rfl, rfl⟩ | exact .inl ⟨rfl, rfl, rfl, (by first | omega | (simp; done) | (simp; omega)), (by first | omega | (simp; done) | (simp; omega)), (by first | omega | (simp; done) | (simp; omega)), .inr rfl, Nat.le_of_ble_eq_true rfl⟩ | exact .inl ⟨rfl, rfl, rfl, (by first | omega | (simp; done) | (simp; omega)), (by first | omega | (simp; done) | (simp; omega)), (by first | omega | (simp; done) | (simp; omega)), .inl rfl, Nat.le_of_ble_eq_true rfl⟩ | exact fun h => h | refine ⟨?_, ?_, ?_, .inl ?_⟩ | refine ⟨?_, ?_⟩ | refine fun ii hii => ?_ | omega | fail)
            · (repeat' first | exact trivial | exact rfl | exact Nat.le_of_ble_eq_true rfl | exact Nat.le_refl _ | exact .inl ⟨rfl, rfl, rfl, rfl, Nat.le_refl _, Nat.le_refl _, .inr rfl, Nat.le_of_ble_eq_true rfl⟩ | exact .inl ⟨rfl, rfl, rfl, rfl, Nat.le_refl _, Nat.le_refl _, .inl rfl, Nat.le_of_ble_eq_true rfl⟩ | exact .inr ⟨rfl, rfl, rfl, rfl, rfl⟩ | exact .inl ⟨rfl, rfl, rfl, (by first | omega | (simp; done) | (simp; omega)), (by first | omega | (simp; done) | (simp; omega)), (by first | omega | (simp; done) | (simp; omega)), .inr rfl, Nat.le_of_ble_eq_true rfl⟩ | exact .inl ⟨rfl, rfl, rfl, (by first | omega | (simp; done) | (simp; omega)), (by first | omega | (simp; done) | (simp; omega)), (by first | omega | (simp; done) | (simp; omega)), .inl rfl, Nat.le_of_ble_eq_true rfl⟩ | exact fun h => h | refine ⟨?_, ?_, ?_, .inl ?_⟩ | refine ⟨?_, ?_⟩ | refine fun ii hii => ?_ | omega | fail)
          · rintro j _ _ ⟨J, c, hJ, hcl, hc0, rfl, rfl, rfl⟩
            conv => whnf
            refine iteP_intro (fun hd => ?_) (fun hd => ?_)
            · rewrite [hd]
              have hd3 := of_decide_eq_true hd
              conv => whnf
              refine Loop.inv (lwp_mono _) (fun j t h => ∃ (q : Nat) (a : Nat → Nat), q ≤ 4 ∧ (∀ i, a i < 256) ∧ (∀ i, i < q → a i = Gf.box (g ((J + i) % 4 * 4 + i))) ∧ j = 4 - q ∧ t = [.any, .any, .any, .ptr ⟨1, [], 0⟩, .ptr ⟨2, [], 0⟩, .ptr ⟨3, [], 0⟩, .any, .int .i64 (p + 1 : Nat), .ptr ⟨4, [], 0⟩, .int .i64 J, .ptr ⟨5, [], 0⟩, .int .i64 q, .any, .any, .any, .any, .any, .any, .any, .any, .any, .any, .any, .any, .any, .any, .any, .any, .any, .any, .any, .any, .any, .any, .any, .any, .any, .any, .any, .any, .any, .any, .any, .any, .any, .any, .any, .any, .any, .any, .any, .any, .any, .any, .any, .any, .any, .any, .any, .any, .any, .any, .any, .any, .any, .any, .any, .any, .any, .any, .any, .any, .any, .any, .any, .any, .any, .any, .any, .any] ∧ h = [blO k, blO g, blO (fun _ => 0), keysO (keys k), blO c, coO a]) ?_ ?_
              · refine ⟨_, _, _, ⟨[], trivial, [0, 1, 2, 3, 4, 5], rfl, rfl, ?_, ?_⟩, 0, fun _ => 0, by omega, fun _ => (by decide : 0 < 256), fun i hi => by omega, rfl, rfl, rfl⟩
                · (repeat' first | exact trivial | exact rfl | exact Nat.le_of_ble_eq_true rfl | exact Nat.le_refl _ | exact .inl ⟨rfl, rfl, rfl, rfl, Nat.le_refl _, Nat.le_refl _, .inr rfl, Nat.le_of_ble_eq_true rfl⟩ | exact .inl ⟨rfl, rfl, rfl, rfl, Nat.le_refl _, Nat.le_refl _, .inl rfl, Nat.le_of_ble_eq_true rfl⟩ | exact .inr ⟨rfl, rfl, rfl, rfl, rfl⟩ | exact .inl ⟨rfl, rfl, rfl, (by first | omega | (simp; done) | (simp; omega)), (by first | omega | (simp; done) | (simp; omega)), (by first | omega | (simp; done) | (simp; omega)), .inr rfl, Nat.le_of_ble_eq_true rfl⟩ | exact .inl ⟨rfl, rfl, rfl, (by first | omega | (simp; done) | (simp; omega)), (by first | omega | (simp; done) | (simp; omega)), (by first | omega | (simp; done) | (simp; omega)), .inl rfl, Nat.le_of_ble_eq_true rfl⟩ | exact fun h => h | refine ⟨?_, ?_, ?_, .inl ?_⟩ | refine ⟨?_, ?_⟩ | refine fun ii hii => ?_ | omega | fail)
                · (repeat' first | exact trivial | exact rfl | exact Nat.le_of_ble_eq_true rfl | exact Nat.le_refl _ | exact .inl ⟨rfl, rfl, rfl, rfl, Nat.le_refl _, Nat.le_refl _, .inr rfl, Nat.le_of_ble_eq_true rfl⟩ | exact .inl ⟨rfl, rfl, rfl, rfl, Nat.le_refl _, Nat.le_refl _, .inl rfl, Nat.le_of_ble_eq_true rfl⟩ | exact .inr ⟨rfl, rfl, rfl, rfl, rfl⟩ | exact .inl ⟨rfl, rfl, rfl, (by first | omega | (simp; done) | (simp; omega)), (by first | omega | (simp; done) | (simp; omega)), (by first | omega | (simp; done) | (simp; omega)), .inr rfl, Nat.le_of_ble_eq_true rfl⟩ | exact .inl ⟨rfl, rfl, rfl, (by first | omega | (simp; done) | (simp; omega)), (by first | omega | (simp; done) | (simp; omega)), (by first | omega | (simp; done) | (simp; omega)), .inl rfl, Nat.le_of_ble_eq_true rfl⟩ | exact fun h => h | refine ⟨?_, ?_, ?_, .inl ?_⟩ | refine ⟨?_, ?_⟩ | refine fun ii hii => ?_ | omega | fail)
              · rintro j _ _ ⟨q, a, hq, hal, ha0, rfl, rfl, rfl⟩
                conv => whnf
                refine iteP_intro (fun he => ?_) (fun he => ?_)
                · rewrite [he]
                  have he3 := of_decide_eq_true he
                  (conv => whnf); (repeat (refine And.intro (by first | omega | (dsimp only; omega)) ?_; conv => whnf))
                  have ix : IntKind.i64.wrap (IntKind.i64.wrap ((IntKind.i64.wrap ((J : Int) + q)).tmod 4 * 4) + q) = (((J + q) % 4 * 4 + q : Nat) : Int) := by
                    rw [wrapS (n := (J : Int) + q) (by omega), show ((J : Int) + q).tmod 4 = (((J + q) % 4 : Nat) : Int) by rw [Int.tmod_eq_emod_of_nonneg (by omega)]; omega, wrapS (n := (((J + q) % 4 : Nat) : Int) * 4) (by omega), wrapS (n := (((J + q) % 4 : Nat) : Int) * 4 + q) (by omega)]
                    omega
                  rewrite [ix]
                  (conv => whnf); (repeat (refine And.intro (by first | omega | (dsimp only; omega)) ?_; conv => whnf))
                  rewrite [Int.toNat_natCast]
                  refine LCalls.use (rboxL _ (hg _)) [] rfl rfl trivial ?_; rintro _ _ ⟨rfl, rfl⟩; (conv => whnf); (repeat (refine And.intro (by first | omega | (dsimp only; omega)) ?_; conv => whnf))
                  rewrite [wrapS (n := (q : Int) + 1) (by omega)]
                  refine ⟨_, _, _, ?_, ⟨[], trivial, [0, 1, 2, 3, 4, 5], rfl, rfl, ?_, ?_⟩, q + 1, up a q (Gf.box (g ((J + q) % 4 * 4 + q))), by omega, up_lt hal (box_f hg _), fun i hi => ?_, rfl, rfl, rfl⟩
                  · omega
                  · (repeat' first | exact trivial | exact rfl | exact Nat.le_of_ble_eq_true rfl | exact Nat.le_refl _ | exact .inl ⟨rfl, rfl, rfl, rfl, Nat.le_refl _, Nat.le_refl _, .inr rfl, Nat.le_of_ble_eq_true rfl⟩ | exact .inl ⟨rfl, rfl, rfl, rfl, Nat.le_refl _, Nat.le_refl _, .inl rfl, Nat.le_of_ble_eq_true rfl⟩ | exact .inr ⟨rfl, rfl, rfl, rfl, rfl⟩ | exact .inl ⟨rfl, rfl, rfl, (by first | omega | (simp; done) | (simp; omega)), (by first | omega | (simp; done) | (simp; omega)), (by first | omega | (simp; done) | (simp; omega)), .inr rfl, Nat.le_of_ble_eq_true rfl⟩ | exact .inl ⟨rfl, rfl, rfl, (by first | omega | (simp; done) | (simp; omega)), (by first | omega | (simp; done) | (simp; omega)), (by first | omega | (simp; done) | (simp; omega)), .inl rfl, Nat.le_of_ble_eq_true rfl⟩ | exact fun h => h | refine ⟨?_, ?_, ?_, .inl ?_⟩ | refine ⟨?_, ?_⟩ | refine fun ii hii => ?_ | omega | fail)
                  · (repeat' first | exact trivial | exact rfl | exact Nat.le_of_ble_eq_true rfl | exact Nat.le_refl _ | exact .inl ⟨rfl, rfl, rfl, rfl, Nat.le_refl _, Nat.le_refl _, .inr rfl, Nat.le_of_ble_eq_true rfl⟩ | exact .inl ⟨rfl, rfl, rfl, rfl, Nat.le_refl _, Nat.le_refl _, .inl rfl, Nat.le_of_ble_eq_true rfl⟩ | exact .inr ⟨rfl, rfl, rfl, rfl, rfl⟩ | exact .inl ⟨rfl, rfl, rfl, (by first | omega | (simp; done) | (simp; omega)), (by first | omega | (simp; done) | (simp; omega)), (by first | omega | (simp; done) | (simp; omega)), .inr rfl, Nat.le_of_ble_eq_true rfl⟩ | exact .inl ⟨rfl, rfl, rfl, (by first | omega | (simp; done) | (simp; omega)), (by first | omega | (simp; done) | (simp; omega)), (by first | omega | (simp; done) | (simp; omega)), .inl rfl, Nat.le_of_ble_eq_true rfl⟩ | exact fun h => h | refine ⟨?_, ?_, ?_, .inl ?_⟩ | refine ⟨?_, ?_⟩ | refine fun ii hii => ?_ | omega | fail)
                    exact by_step (Int.toNat_natCast q) rfl
                  · unfold up
                    split
                    · rename_i c; rw [c]
                    · exact ha0 i (by omega)
                · rewrite [he]
                  have he3 := of_decide_eq_false he
                  obtain rfl : q = 4 := by omega
                  conv => whnf
                  by_cases hp9 : p + 1 < 10
                  · rewrite [show decide (((p + 1 : Nat) : Int) < 10) = true from decide_eq_true (by omega)]
                    conv => whnf
                    refine LCalls.use (rmixL a hal) [] rfl rfl trivial ?_; rintro _ _ ⟨rfl, rfl⟩; conv => whnf
                    refine Loop.inv (lwp_mono _) (fun j t h => ∃ (q : Nat) (c : Nat → Nat), q ≤ 4 ∧ (∀ i, c i < 256) ∧ (∀ i, i < 4 * J + q → c i = enc k b (p + 1) i) ∧ j = 4 - q ∧ t = [.any, .any, .any, .ptr ⟨1, [], 0⟩, .ptr ⟨2, [], 0⟩, .ptr ⟨3, [], 0⟩, .any, .int .i64 (p + 1 : Nat), .ptr ⟨4, [], 0⟩, .int .i64 J, .ptr ⟨5, [], 0⟩, .any, .int .i64 q, .any, .any, .any, .any, .any, .any, .any, .any, .any, .any, .any, .any, .any, .any, .any, .any, .any, .any, .any, .any, .any, .any, .any, .any, .any, .any, .any, .any, .any, .any, .any, .any, .any, .any, .any, .any, .any, .any, .any, .any, .any, .any, .any, .any, .any, .any, .any, .any, .any, .any, .any, .any, .any, .any, .any, .any, .any, .any, .any, .any, .any, .any, .any, .any, .any, .any, .any] ∧ h = [blO k, blO g, blO (fun _ => 0), keysO (keys k), blO c, coO (rmix a)]) ?_ ?_
                    · refine ⟨_, _, _, ⟨[], trivial, [0, 1, 2, 3, 4, 5], rfl, rfl, ?_, ?_⟩, 0, c, by omega, hcl, hc0, rfl, rfl, rfl⟩
                      · (repeat' first | exact trivial | exact rfl | exact Nat.le_of_ble_eq_true rfl | exact Nat.le_refl _ | exact .inl ⟨rfl, rfl, rfl, rfl, Nat.le_refl _, Nat.le_refl _, .inr rfl, Nat.le_of_ble_eq_true rfl⟩ | exact .inl ⟨rfl, rfl, rfl, rfl, Nat.le_refl _, Nat.le_refl _, .inl rfl, Nat.le_of_ble_eq_true rfl⟩ | exact .inr ⟨rfl, rfl, rfl, rfl, rfl⟩ | exact .inl ⟨rfl, rfl, rfl, (by first | omega | (simp; done) | (simp; omega)), (by first | omega | (simp; done) | (simp; omega)), (by first | omega | (simp; done) | (simp; omega)), .inr rfl, Nat.le_of_ble_eq_true rfl⟩ | exact .inl ⟨rfl, rfl, rfl, (by first | omega | (simp; done) | (simp; omega)), (by first | omega | (simp; done) | (simp; omega)), (by first | omega | (simp; done) | (simp; omega)), .inl rfl, Nat.le_of_ble_eq_true rfl⟩ | exact fun h => h | refine ⟨?_, ?_, ?_, .inl ?_⟩ | refine ⟨?_, ?_⟩ | refine fun ii hii => ?_ | omega | fail)
                      · (repeat' first | exact trivial | exact rfl | exact Nat.le_of_ble_eq_true rfl | exact Nat.le_refl _ | exact .inl ⟨rfl, rfl, rfl, rfl, Nat.le_refl _, Nat.le_refl _, .inr rfl, Nat.le_of_ble_eq_true rfl⟩ | exact .inl ⟨rfl, rfl, rfl, rfl, Nat.le_refl _, Nat.le_refl _, .inl rfl, Nat.le_of_ble_eq_true rfl⟩ | exact .inr ⟨rfl, rfl, rfl, rfl, rfl⟩ | exact .inl ⟨rfl, rfl, rfl, (by first | omega | (simp; done) | (simp; omega)), (by first | omega | (simp; done) | (simp; omega)), (by first | omega | (simp; done) | (simp; omega)), .inr rfl, Nat.le_of_ble_eq_true rfl⟩ | exact .inl ⟨rfl, rfl, rfl, (by first | omega | (simp; done) | (simp; omega)), (by first | omega | (simp; done) | (simp; omega)), (by first | omega | (simp; done) | (simp; omega)), .inl rfl, Nat.le_of_ble_eq_true rfl⟩ | exact fun h => h | refine ⟨?_, ?_, ?_, .inl ?_⟩ | refine ⟨?_, ?_⟩ | refine fun ii hii => ?_ | omega | fail)
                    · clear hcl hc0
                      rintro j _ _ ⟨q, c, hq, hcl, hc0, rfl, rfl, rfl⟩
                      conv => whnf
                      refine iteP_intro (fun hf => ?_) (fun hf => ?_)
                      · rewrite [hf]
                        have hf3 := of_decide_eq_true hf
                        have hen := enc_at k b g p J q (by omega) (by omega) hk hb hg0 a ha0
                        rw [if_pos (by omega)] at hen
                        have iy : IntKind.i64.wrap (IntKind.i64.wrap (4 * (J : Int)) + (q : Int)) = ((4 * J + q : Nat) : Int) := by
                          rw [wrapS (n := 4 * (J : Int)) (by omega), wrapS (n := 4 * (J : Int) + q) (by omega)]
                          omega
                        (conv => whnf); (repeat (refine And.intro (by first | omega | (dsimp only; omega)) ?_; conv => whnf))
                        rewrite [iy]
                        (conv => whnf); (repeat (refine And.intro (by first | omega | (dsimp only; omega)) ?_; conv => whnf))
                        rewrite [wrapS (n := (q : Int) + 1) (by omega)]
                        refine ⟨_, _, _, ?_, ⟨[], trivial, [0, 1, 2, 3, 4, 5], rfl, rfl, ?_, ?_⟩, q + 1, up c (4 * J + q) (enc k b (p + 1) (4 * J + q)), by omega, up_lt hcl (enc_lt hk hb _ _), fun i hi => ?_, rfl, rfl, rfl⟩
                        · omega
                        · (repeat' first | exact trivial | exact rfl | exact Nat.le_of_ble_eq_true rfl | exact Nat.le_refl _ | exact .inl ⟨rfl, rfl, rfl, rfl, Nat.le_refl _, Nat.le_refl _, .inr rfl, Nat.le_of_ble_eq_true rfl⟩ | exact .inl ⟨rfl, rfl, rfl, rfl, Nat.le_refl _, Nat.le_refl _, .inl rfl, Nat.le_of_ble_eq_true rfl⟩ | exact .inr ⟨rfl, rfl, rfl, rfl, rfl⟩ | exact .inl ⟨rfl, rfl, rfl, (by first | omega | (simp; done) | (simp; omega)), (by first | omega | (simp; done) | (simp; omega)), (by first | omega | (simp; done) | (simp; omega)), .inr rfl, Nat.le_of_ble_eq_true rfl⟩ | exact .inl ⟨rfl, rfl, rfl, (by first | omega | (simp; done) | (simp; omega)), (by first | omega | (simp; done) | (simp; omega)), (by first | omega | (simp; done) | (simp; omega)), .inl rfl, Nat.le_of_ble_eq_true rfl⟩ | exact fun h => h | refine ⟨?_, ?_, ?_, .inl ?_⟩ | refine ⟨?_, ?_⟩ | refine fun ii hii => ?_ | omega | fail)
                        · (repeat' first | exact trivial | exact rfl | exact Nat.le_of_ble_eq_true rfl | exact Nat.le_refl _ | exact .inl ⟨rfl, rfl, rfl, rfl, Nat.le_refl _, Nat.le_refl _, .inr rfl, Nat.le_of_ble_eq_true rfl⟩ | exact .inl ⟨rfl, rfl, rfl, rfl, Nat.le_refl _, Nat.le_refl _, .inl rfl, Nat.le_of_ble_eq_true rfl⟩ | exact .inr ⟨rfl, rfl, rfl, rfl, rfl⟩ | exact .inl ⟨rfl, rfl, rfl, (by first | omega | (simp; done) | (simp; omega)), (by first | omega | (simp; done) | (simp; omega)), (by first | omega | (simp; done) | (simp; omega)), .inr rfl, Nat.le_of_ble_eq_true rfl⟩ | exact .inl ⟨rfl, rfl, rfl, (by first | omega | (simp; done) | (simp; omega)), (by first | omega | (simp; done) | (simp; omega)), (by first | omega | (simp; done) | (simp; omega)), .inl rfl, Nat.le_of_ble_eq_true rfl⟩ | exact fun h => h | refine ⟨?_, ?_, ?_, .inl ?_⟩ | refine ⟨?_, ?_⟩ | refine fun ii hii => ?_ | omega | fail)
                          exact by_step (Int.toNat_natCast (4 * J + q)) ((xorL (rmix_lt hal _) (hkl _)).trans (by rw [hen]; simp only [Int.toNat_natCast]))
                        · unfold up
                          split
                          · rename_i c; rw [c]
                          · exact hc0 i (by omega)
                      · rewrite [hf]
                        have hf3 := of_decide_eq_false hf
                        obtain rfl : q = 4 := by omega
                        conv => whnf
                        rewrite [wrapS (by omega)]
                        refine ⟨_, _, _, ?_, ⟨[], trivial, [0, 1, 2, 3, 4], rfl, rfl, ?_, ?_⟩, J + 1, c, by omega, hcl, fun i hi => hc0 i (by omega), rfl, rfl, rfl⟩
                        · omega
                        · (repeat' first | exact trivial | exact rfl | exact Nat.le_of_ble_eq_true rfl | exact Nat.le_refl _ | exact .inl ⟨rfl, rfl, rfl, rfl, Nat.le_refl _, Nat.le_refl _, .inr rfl, Nat.le_of_ble_eq_true rfl⟩ | exact .inl ⟨rfl, rfl, rfl, rfl, Nat.le_refl _, Nat.le_refl _, .inl rfl, Nat.le_of_ble_eq_true rfl⟩ | exact .inr ⟨rfl, rfl, rfl, rfl, rfl⟩ | exact .inl ⟨rfl, rfl, rfl, (by first | omega | (simp; done) | (simp; omega)), (by first | omega | (simp; done) | (simp; omega)), (by first | omega | (simp; done) | (simp; omega)), .inr rfl, Nat.le_of_ble_eq_true rfl⟩ | exact .inl ⟨rfl, rfl, rfl, (by first | omega | (simp; done) | (simp; omega)), (by first | omega | (simp; done) | (simp; omega)), (by first | omega | (simp; done) | (simp; omega)), .inl rfl, Nat.le_of_ble_eq_true rfl⟩ | exact fun h => h | refine ⟨?_, ?_, ?_, .inl ?_⟩ | refine ⟨?_, ?_⟩ | refine fun ii hii => ?_ | omega | fail)
                        · (repeat' first | exact trivial | exact rfl | exact Nat.le_of_ble_eq_true rfl | exact Nat.le_refl _ | exact .inl ⟨rfl, rfl, rfl, rfl, Nat.le_refl _, Nat.le_refl _, .inr rfl, Nat.le_of_ble_eq_true rfl⟩ | exact .inl ⟨rfl, rfl, rfl, rfl, Nat.le_refl _, Nat.le_refl _, .inl rfl, Nat.le_of_ble_eq_true rfl⟩ | exact .inr ⟨rfl, rfl, rfl, rfl, rfl⟩ | exact .inl ⟨rfl, rfl, rfl, (by first | omega | (simp; done) | (simp; omega)), (by first | omega | (simp; done) | (simp; omega)), (by first | omega | (simp; done) | (simp; omega)), .inr rfl, Nat.le_of_ble_eq_true rfl⟩ | exact .inl ⟨rfl, rfl, rfl, (by first | omega | (simp; done) | (simp; omega)), (by first | omega | (simp; done) | (simp; omega)), (by first | omega | (simp; done) | (simp; omega)), .inl rfl, Nat.le_of_ble_eq_true rfl⟩ | exact fun h => h | refine ⟨?_, ?_, ?_, .inl ?_⟩ | refine ⟨?_, ?_⟩ | refine fun ii hii => ?_ | omega | fail)
                  · rewrite [show decide (((p + 1 : Nat) : Int) < 10) = false from decide_eq_false (by omega)]
                    conv => whnf
                    refine Loop.inv (lwp_mono _) (fun j t h => ∃ (q : Nat) (c : Nat → Nat), q ≤ 4 ∧ (∀ i, c i < 256) ∧ (∀ i, i < 4 * J + q → c i = enc k b (p + 1) i) ∧ j = 4 - q ∧ t = [.any, .any, .any, .ptr ⟨1, [], 0⟩, .ptr ⟨2, [], 0⟩, .ptr ⟨3, [], 0⟩, .any, .int .i64 (p + 1 : Nat), .ptr ⟨4, [], 0⟩, .int .i64 J, .ptr ⟨5, [], 0⟩, .any, .int .i64 q, .any, .any, .any, .any, .any, .any, .any, .any, .any, .any, .any, .any, .any, .any, .any, .any, .any, .any, .any, .any, .any, .any, .any, .any, .any, .any, .any, .any, .any, .any, .any, .any, .any, .any, .any, .any, .any, .any, .any, .any, .any, .any, .any, .any, .any, .any, .any, .any, .any, .any, .any, .any, .any, .any, .any, .any, .any, .any, .any, .any, .any, .any, .any, .any, .any, .any, .any] ∧ h = [blO k, blO g, blO (fun _ => 0), keysO (keys k), blO c, coO (a)]) ?_ ?_
                    · refine ⟨_, _, _, ⟨[], trivial, [0, 1, 2, 3, 4, 5], rfl, rfl, ?_, ?_⟩, 0, c, by omega, hcl, hc0, rfl, rfl, rfl⟩
                      · (repeat' first | exact trivial | exact rfl | exact Nat.le_of_ble_eq_true rfl | exact Nat.le_refl _ | exact .inl ⟨rfl, rfl, rfl, rfl, Nat.le_refl _, Nat.le_refl _, .inr rfl, Nat.le_of_ble_eq_true rfl⟩ | exact .inl ⟨rfl, rfl, rfl, rfl, Nat.le_refl _, Nat.le_refl _, .inl rfl, Nat.le_of_ble_eq_true rfl⟩ | exact .inr ⟨rfl, rfl, rfl, rfl, rfl⟩ | exact .inl ⟨rfl, rfl, rfl, (by first | omega | (simp; done) | (simp; omega)), (by first | omega | (simp; done) | (simp; omega)), (by first | omega | (simp; done) | (simp; omega)), .inr rfl, Nat.le_of_ble_eq_true rfl⟩ | exact .inl ⟨rfl, rfl, rfl, (by first | omega | (simp; done) | (simp; omega)), (by first | omega | (simp; done) | (simp; omega)), (by first | omega | (simp; done) | (simp; omega)), .inl rfl, Nat.le_of_ble_eq_true rfl⟩ | exact fun h => h | refine ⟨?_, ?_, ?_, .inl ?_⟩ | refine ⟨?_, ?_⟩ | refine fun ii hii => ?_ | omega | fail)
                      · (repeat' first | exact trivial | exact rfl | exact Nat.le_of_ble_eq_true rfl | exact Nat.le_refl _ | exact .inl ⟨rfl, rfl, rfl, rfl, Nat.le_refl _, Nat.le_refl _, .inr rfl, Nat.le_of_ble_eq_true rfl⟩ | exact .inl ⟨rfl, rfl, rfl, rfl, Nat.le_refl _, Nat.le_refl _, .inl rfl, Nat.le_of_ble_eq_true rfl⟩ | exact .inr ⟨rfl, rfl, rfl, rfl, rfl⟩ | exact .inl ⟨rfl, rfl, rfl, (by first | omega | (simp; done) | (simp; omega)), (by first | omega | (simp; done) | (simp; omega)), (by first | omega | (simp; done) | (simp; omega)), .inr rfl, Nat.le_of_ble_eq_true rfl⟩ | exact .inl ⟨rfl, rfl, rfl, (by first | omega | (simp; done) | (simp; omega)), (by first | omega | (simp; done) | (simp; omega)), (by first | omega | (simp; done) | (simp; omega)), .inl rfl, Nat.le_of_ble_eq_true rfl⟩ | exact fun h => h | refine ⟨?_, ?_, ?_, .inl ?_⟩ | refine ⟨?_, ?_⟩ | refine fun ii hii => ?_ | omega | fail)
                    · clear hcl hc0
                      rintro j _ _ ⟨q, c, hq, hcl, hc0, rfl, rfl, rfl⟩
                      conv => whnf
                      refine iteP_intro (fun hf => ?_) (fun hf => ?_)
                      · rewrite [hf]
                        have hf3 := of_decide_eq_true hf
                        have hen := enc_at k b g p J q (by omega) (by omega) hk hb hg0 a ha0
                        rw [if_neg (by omega)] at hen
                        have iy : IntKind.i64.wrap (IntKind.i64.wrap (4 * (J : Int)) + (q : Int)) = ((4 * J + q : Nat) : Int) := by
                          rw [wrapS (n := 4 * (J : Int)) (by omega), wrapS (n := 4 * (J : Int) + q) (by omega)]
                          omega
                        (conv => whnf); (repeat (refine And.intro (by first | omega | (dsimp only; omega)) ?_; conv => whnf))
                        rewrite [iy]
                        (conv => whnf); (repeat (refine And.intro (by first | omega | (dsimp only; omega)) ?_; conv => whnf))
                        rewrite [wrapS (n := (q : Int) + 1) (by omega)]
                        refine ⟨_, _, _, ?_, ⟨[], trivial, [0, 1, 2, 3, 4, 5], rfl, rfl, ?_, ?_⟩, q + 1, up c (4 * J + q) (enc k b (p + 1) (4 * J + q)), by omega, up_lt hcl (enc_lt hk hb _ _), fun i hi => ?_, rfl, rfl, rfl⟩
                        · omega
                        · (repeat' first | exact trivial | exact rfl | exact Nat.le_of_ble_eq_true rfl | exact Nat.le_refl _ | exact .inl ⟨rfl, rfl, rfl, rfl, Nat.le_refl _, Nat.le_refl _, .inr rfl, Nat.le_of_ble_eq_true rfl⟩ | exact .inl ⟨rfl, rfl, rfl, rfl, Nat.le_refl _, Nat.le_refl _, .inl rfl, Nat.le_of_ble_eq_true rfl⟩ | exact .inr ⟨rfl, rfl, rfl, rfl, rfl⟩ | exact .inl ⟨rfl, rfl, rfl, (by first | omega | (simp; done) | (simp; omega)), (by first | omega | (simp; done) | (simp; omega)), (by first | omega | (simp; done) | (simp; omega)), .inr rfl, Nat.le_of_ble_eq_true rfl⟩ | exact .inl ⟨rfl, rfl, rfl, (by first | omega | (simp; done) | (simp; omega)), (by first | omega | (simp; done) | (simp; omega)), (by first | omega | (simp; done) | (simp; omega)), .inl rfl, Nat.le_of_ble_eq_true rfl⟩ | exact fun h => h | refine ⟨?_, ?_, ?_, .inl ?_⟩ | refine ⟨?_, ?_⟩ | refine fun ii hii => ?_ | omega | fail)
                        · (repeat' first | exact trivial | exact rfl | exact Nat.le_of_ble_eq_true rfl | exact Nat.le_refl _ | exact .inl ⟨rfl, rfl, rfl, rfl, Nat.le_refl _, Nat.le_refl _, .inr rfl, Nat.le_of_ble_eq_true rfl⟩ | exact .inl ⟨rfl, rfl, rfl, rfl, Nat.le_refl _, Nat.le_refl _, .inl rfl, Nat.le_of_ble_eq_true rfl⟩ | exact .inr ⟨rfl, rfl, rfl, rfl, rfl⟩ | exact .inl ⟨rfl, rfl, rfl, (by first | omega | (simp; done) | (simp; omega)), (by first | omega | (simp; done) | (simp; omega)), (by first | omega | (simp; done) | (simp; omega)), .inr rfl, Nat.le_of_ble_eq_true rfl⟩ | exact .inl ⟨rfl, rfl, rfl, (by first | omega | (simp; done) | (simp; omega)), (by first | omega | (simp; done) | (simp; omega)), (by first | omega | (simp; done) | (simp; omega)), .inl rfl, Nat.le_of_ble_eq_true rfl⟩ | exact fun h => h | refine ⟨?_, ?_, ?_, .inl ?_⟩ | refine ⟨?_, ?_⟩ | refine fun ii hii => ?_ | omega | fail)
                          exact by_step (Int.toNat_natCast (4 * J + q)) ((xorL (hal _) (hkl _)).trans (by rw [hen]; simp only [Int.toNat_natCast]))
                        · unfold up
                          split
                          · rename_i c; rw [c]
                          · exact hc0 i (by omega)
                      · rewrite [hf]
                        have hf3 := of_decide_eq_false hf
                        obtain rfl : q = 4 := by omega
                        conv => whnf
                        rewrite [wrapS (by omega)]
                        refine ⟨_, _, _, ?_, ⟨[], trivial, [0, 1, 2, 3, 4], rfl, rfl, ?_, ?_⟩, J + 1, c, by omega, hcl, fun i hi => hc0 i (by omega), rfl, rfl, rfl⟩
                        · omega
                        · (repeat' first | exact trivial | exact rfl | exact Nat.le_of_ble_eq_true rfl | exact Nat.le_refl _ | exact .inl ⟨rfl, rfl, rfl, rfl, Nat.le_refl _, Nat.le_refl _, .inr rfl, Nat.le_of_ble_eq_true rfl⟩ | exact .inl ⟨rfl, rfl, rfl, rfl, Nat.le_refl _, Nat.le_refl _, .inl rfl, Nat.le_of_ble_eq_true rfl⟩ | exact .inr ⟨rfl, rfl, rfl, rfl, rfl⟩ | exact .inl ⟨rfl, rfl, rfl, (by first | omega | (simp; done) | (simp; omega)), (by first | omega | (simp; done) | (simp; omega)), (by first | omega | (simp; done) | (simp; omega)), .inr rfl, Nat.le_of_ble_eq_true rfl⟩ | exact .inl ⟨rfl, rfl, rfl, (by first | omega | (simp; done) | (simp; omega)), (by first | omega | (simp; done) | (simp; omega)), (by first | omega | (simp; done) | (simp; omega)), .inl rfl, Nat.le_of_ble_eq_true rfl⟩ | exact fun h => h | refine ⟨?_, ?_, ?_, .inl ?_⟩ | refine ⟨?_, ?_⟩ | refine fun ii hii => ?_ | omega | fail)
                        · (repeat' first | exact trivial | exact rfl | exact Nat.le_of_ble_eq_true rfl | exact Nat.le_refl _ | exact .inl ⟨rfl, rfl, rfl, rfl, Nat.le_refl _, Nat.le_refl _, .inr rfl, Nat.le_of_ble_eq_true rfl⟩ | exact .inl ⟨rfl, rfl, rfl, rfl, Nat.le_refl _, Nat.le_refl _, .inl rfl, Nat.le_of_ble_eq_true rfl⟩ | exact .inr ⟨rfl, rfl, rfl, rfl, rfl⟩ | exact .inl ⟨rfl, rfl, rfl, (by first | omega | (simp; done) | (simp; omega)), (by first | omega | (simp; done) | (simp; omega)), (by first | omega | (simp; done) | (simp; omega)), .inr rfl, Nat.le_of_ble_eq_true rfl⟩ | exact .inl ⟨rfl, rfl, rfl, (by first | omega | (simp; done) | (simp; omega)), (by first | omega | (simp; done) | (simp; omega)), (by first | omega | (simp; done) | (simp; omega)), .inl rfl, Nat.le_of_ble_eq_true rfl⟩ | exact fun h => h | refine ⟨?_, ?_, ?_, .inl ?_⟩ | refine ⟨?_, ?_⟩ | refine fun ii hii => ?_ | omega | fail)
            · rewrite [hd]
              have hd3 := of_decide_eq_false hd
              obtain rfl : J = 4 := by omega
              conv => whnf
              rewrite [wrapS (by omega)]
              refine ⟨_, _, _, ?_, ⟨[], trivial, [0, 1, 2, 3], rfl, rfl, ?_, ?_⟩, p + 1, c, by omega, hcl, fun i hi => hc0 i (by omega), rfl, rfl, rfl⟩
              · omega
              · (repeat' first | exact trivial | exact rfl | exact Nat.le_of_ble_eq_true rfl | exact Nat.le_refl _ | exact .inl ⟨rfl, rfl, rfl, rfl, Nat.le_refl _, Nat.le_refl _, .inr rfl, Nat.le_of_ble_eq_true rfl⟩ | exact .inl ⟨rfl, rfl, rfl, rfl, Nat.le_refl _, Nat.le_refl _, .inl rfl, Nat.le_of_ble_eq_true rfl⟩ | exact .inr ⟨rfl, rfl, rfl, rfl, rfl⟩ | exact .inl ⟨rfl, rfl, rfl, (by first | omega | (simp; done) | (simp; omega)), (by first | omega | (simp; done) | (simp; omega)), (by first | omega | (simp; done) | (simp; omega)), .inr rfl, Nat.le_of_ble_eq_true rfl⟩ | exact .inl ⟨rfl, rfl, rfl, (by first | omega | (simp; done) | (simp; omega)), (by first | omega | (simp; done) | (simp; omega)), (by first | omega | (simp; done) | (simp; omega)), .inl rfl, Nat.le_of_ble_eq_true rfl⟩ | exact fun h => h | refine ⟨?_, ?_, ?_, .inl ?_⟩ | refine ⟨?_, ?_⟩ | refine fun ii hii => ?_ | omega | fail)
              · (repeat' first | exact trivial | exact rfl | exact Nat.le_of_ble_eq_true rfl | exact Nat.le_refl _ | exact .inl ⟨rfl, rfl, rfl, rfl, Nat.le_refl _, Nat.le_refl _, .inr rfl, Nat.le_of_ble_eq_true rfl⟩ | exact .inl ⟨rfl, rfl, rfl, rfl, Nat.le_refl _, Nat.le_refl _, .inl rfl, Nat.le_of_ble_eq_true rfl⟩ | exact .inr ⟨rfl, rfl, rfl, rfl, rfl⟩ | exact .inl ⟨rfl, rfl, rfl, (by first | omega | (simp; done) | (simp; omega)), (by first | omega | (simp; done) | (simp; omega)), (by first | omega | (simp; done) | (simp; omega)), .inr rfl, Nat.le_of_ble_eq_true rfl⟩ | exact .inl ⟨rfl, rfl, rfl, (by first | omega | (simp; done) | (simp; omega)), (by first | omega | (simp; done) | (simp; omega)), (by first | omega | (simp; done) | (simp; omega)), .inl rfl, Nat.le_of_ble_eq_true rfl⟩ | exact fun h => h | refine ⟨?_, ?_, ?_, .inl ?_⟩ | refine ⟨?_, ?_⟩ | refine fun ii hii => ?_ | omega | fail)
        · rewrite [hc]
          have hc3 := of_decide_eq_false hc
          obtain rfl : p = 10 := by omega
          conv => whnf
          refine ⟨[], _, _, rfl, rfl, ?_, ?_, rfl, rfl⟩
          · (repeat' first | exact trivial | exact rfl | exact Nat.le_of_ble_eq_true rfl | exact Nat.le_refl _ | exact .inl ⟨rfl, rfl, rfl, rfl, Nat.le_refl _, Nat.le_refl _, .inr rfl, Nat.le_of_ble_eq_true rfl⟩ | exact .inl ⟨rfl, rfl, rfl, rfl, Nat.le_refl _, Nat.le_refl _, .inl rfl, Nat.le_of_ble_eq_true rfl⟩ | exact .inr ⟨rfl, rfl, rfl, rfl, rfl⟩ | exact .inl ⟨rfl, rfl, rfl, (by first | omega | (simp; done) | (simp; omega)), (by first | omega | (simp; done) | (simp; omega)), (by first | omega | (simp; done) | (simp; omega)), .inr rfl, Nat.le_of_ble_eq_true rfl⟩ | exact .inl ⟨rfl, rfl, rfl, (by first | omega | (simp; done) | (simp; omega)), (by first | omega | (simp; done) | (simp; omega)), (by first | omega | (simp; done) | (simp; omega)), .inl rfl, Nat.le_of_ble_eq_true rfl⟩ | exact fun h => h | refine ⟨?_, ?_, ?_, .inl ?_⟩ | refine ⟨?_, ?_⟩ | refine fun ii hii => ?_ | omega | fail)
            exact congrArg (Nat.cast (R := Int)) (hg0 ii hii)
          · (repeat' first | exact trivial | exact rfl | exact Nat.le_of_ble_eq_true rfl | exact Nat.le_refl _ | exact .inl ⟨rfl, rfl, rfl, rfl, Nat.le_refl _, Nat.le_refl _, .inr rfl, Nat.le_of_ble_eq_true rfl⟩ | exact .inl ⟨rfl, rfl, rfl, rfl, Nat.le_refl _, Nat.le_refl _, .inl rfl, Nat.le_of_ble_eq_true rfl⟩ | exact .inr ⟨rfl, rfl, rfl, rfl, rfl⟩ | exact .inl ⟨rfl, rfl, rfl, (by first | omega | (simp; done) | (simp; omega)), (by first | omega | (simp; done) | (simp; omega)), (by first | omega | (simp; done) | (simp; omega)), .inr rfl, Nat.le_of_ble_eq_true rfl⟩ | exact .inl ⟨rfl, rfl, rfl, (by first | omega | (simp; done) | (simp; omega)), (by first | omega | (simp; done) | (simp; omega)), (by first | omega | (simp; done) | (simp; omega)), .inl rfl, Nat.le_of_ble_eq_true rfl⟩ | exact fun h => h | refine ⟨?_, ?_, ?_, .inl ?_⟩ | refine ⟨?_, ?_⟩ | refine fun ii hii => ?_ | omega | fail)
end Go.Proofs.Ytghmelcbkjejeaa.Ak

/- The law AesTurns, walked. By this session. -/
namespace Go.Proofs.Ytghmelcbkjejeaa.Ak
open Go.Proofs.Ytghmelcbkjejeaa.Lh Go.RowKit Go.Proofs.Ytghmelcbkjejeaa.Mem Go.Proofs.Ytghmelcbkjejeaa.Sc Go.Proofs.Ytghmelcbkjejeaa.Ar Go.Proofs.Ytghmelcbkjejeaa.Mx Go.Proofs.Ytghmelcbkjejeaa.Ex Go.Proofs.Ytghmelcbkjejeaa.En Go.Proofs.Ytghmelcbkjejeaa.Rf Go.Proofs.Ytghmelcbkjejeaa.Rx
set_option maxRecDepth 100000
set_option maxHeartbeats 1000000
set_option linter.unusedSimpArgs false
set_option linter.unusedSectionVars false
set_option linter.unusedVariables false
variable [Fz]
theorem arEq_same {m : Nat} {f g : Nat → Segs} (h : ∀ i, segInt (f i) = segInt (g i)) : arEq m f g = true := List.all_eq_true.2 (fun i _ => by rw [h i]; exact beq_self_eq_true _)
theorem aesTurns (k b : Nat → Nat) (hk : ∀ i, k i < 256) (hb : ∀ i, b i < 256) : LCalls Try.prog 8 (.cons (blV k) (.cons (blV b) .nil)) [] (fun e _ => e = .ret (.bool true)) := by
  suffices h : LCalls Try.prog 8 (.cons (blV k) (.cons (blV b) .nil)) [] (fun e h' => e = .ret (.bool true) ∧ h' = []) from h.mono fun e h' q => q.1
  refine LCalls.tell ?_; refine enter8 rfl ?_; conv => whnf
  refine LCalls.use (awakeL) [] rfl rfl trivial ?_; rintro _ _ ⟨rfl, rfl⟩; conv => whnf
  refine LCalls.use (encL k b hk hb) [] rfl rfl trivial ?_; rintro _ _ ⟨rfl, rfl⟩; conv => whnf
  refine ⟨blV (enc k b 10), [], ⟨⟨_, _, _, rencL k b hk hb, fun _ => rfl, fun _ => rfl, rfl, fun _ => trivial, rfl⟩⟩, ?_⟩; conv => whnf
  refine And.intro ⟨fun i hi => rfl, fun i hi => rfl⟩ ?_; conv => whnf
  refine ⟨[], .ret (.bool true), _, rfl, rfl, ?_, ?_, rfl, rfl⟩
  · exact arEq_same (fun i => rfl)
  · (repeat' first | exact trivial | exact rfl | exact Nat.le_of_ble_eq_true rfl | exact Nat.le_refl _ | exact .inl ⟨rfl, rfl, rfl, rfl, Nat.le_refl _, Nat.le_refl _, .inr rfl, Nat.le_of_ble_eq_true rfl⟩ | exact .inl ⟨rfl, rfl, rfl, rfl, Nat.le_refl _, Nat.le_refl _, .inl rfl, Nat.le_of_ble_eq_true rfl⟩ | exact .inr ⟨rfl, rfl, rfl, rfl, rfl⟩ | exact .inl ⟨rfl, rfl, rfl, (by first | omega | (simp; done) | (simp; omega)), (by first | omega | (simp; done) | (simp; omega)), (by first | omega | (simp; done) | (simp; omega)), .inr rfl, Nat.le_of_ble_eq_true rfl⟩ | exact .inl ⟨rfl, rfl, rfl, (by first | omega | (simp; done) | (simp; omega)), (by first | omega | (simp; done) | (simp; omega)), (by first | omega | (simp; done) | (simp; omega)), .inl rfl, Nat.le_of_ble_eq_true rfl⟩ | exact fun h => h | refine ⟨?_, ?_, ?_, .inl ?_⟩ | refine ⟨?_, ?_⟩ | refine fun ii hii => ?_ | omega | fail)
end Go.Proofs.Ytghmelcbkjejeaa.Ak

/- The law AesKeys, walked. By this session. -/
namespace Go.Proofs.Ytghmelcbkjejeaa.Ak
open Go.Proofs.Ytghmelcbkjejeaa.Lh Go.RowKit Go.Proofs.Ytghmelcbkjejeaa.Mem Go.Proofs.Ytghmelcbkjejeaa.Sc Go.Proofs.Ytghmelcbkjejeaa.Ar Go.Proofs.Ytghmelcbkjejeaa.Mx Go.Proofs.Ytghmelcbkjejeaa.Ex Go.Proofs.Ytghmelcbkjejeaa.En Go.Proofs.Ytghmelcbkjejeaa.Rf Go.Proofs.Ytghmelcbkjejeaa.Rx
set_option maxRecDepth 100000
set_option maxHeartbeats 1000000
set_option linter.unusedSimpArgs false
set_option linter.unusedSectionVars false
set_option linter.unusedVariables false
variable [Fz]
theorem expL (k : Nat → Nat) (hk : ∀ i, k i < 256) : LCalls Try.prog 15 (.cons (blV k) .nil) [] (fun e h' => e = .ret (.agg (keysS (keys k))) ∧ h' = []) :=
  LCalls.ofBelow (by kernel_rfl) args1 (fun ρ => pv_keys ρ _) (fun w => expand_any k hk w)
theorem arEq2_same {m n : Nat} {f g : Nat → Segs} (h : ∀ i j, seg2 (f i) j = seg2 (g i) j) : arEq2 m n f g = true := List.all_eq_true.2 fun i _ => List.all_eq_true.2 fun j _ => by rw [h i j]; exact beq_self_eq_true _
theorem arEq_at {m : Nat} {f g : Nat → Segs} (h : ∀ i, i < m → segInt (f i) = segInt (g i)) : arEq m f g = true := List.all_eq_true.2 (fun i hi => by rw [h i (List.mem_range.1 hi)]; exact beq_self_eq_true _)
theorem keys0 (k : Nat → Nat) (i : Nat) (hi : i < 16) : keys k (0 * 16 + i) = k i := by
  unfold keys
  rw [show (0 * 16 + i) / 16 = 0 by omega, show (0 * 16 + i) % 16 = i by omega]
  rfl
theorem aesKeys (k : Nat → Nat) (hk : ∀ i, k i < 256) : LCalls Try.prog 7 (.cons (blV k) .nil) [] (fun e _ => e = .ret (.bool true)) := by
  suffices h : LCalls Try.prog 7 (.cons (blV k) .nil) [] (fun e h' => e = .ret (.bool true) ∧ h' = []) from h.mono fun e h' q => q.1
  refine LCalls.tell ?_; refine enter7 rfl ?_; conv => whnf
  refine LCalls.use (expL k hk) [] rfl rfl trivial ?_; rintro _ _ ⟨rfl, rfl⟩; conv => whnf
  refine ⟨.agg (keysS (keys k)), [], ⟨⟨_, _, _, rexp k hk, fun _ => rfl, fun _ => rfl, rfl, fun _ => trivial, rfl⟩⟩, ?_⟩; conv => whnf
  refine And.intro ⟨fun i hi => ⟨rfl, rfl, fun j hj => rfl⟩, fun i hi => ⟨rfl, rfl, fun j hj => rfl⟩⟩ ?_; conv => whnf
  rewrite [arEq2_same (m := 11) (n := 16) ?hh]
  rotate_left
  · exact fun i j => rfl
  (conv => whnf); (repeat (refine And.intro (by first | omega | (dsimp only; omega)) ?_; conv => whnf))
  refine And.intro ⟨fun i hi => rfl, fun i hi => rfl⟩ ?_; conv => whnf
  refine ⟨[], .ret (.bool true), _, rfl, rfl, ?_, ?_, rfl, rfl⟩
  · exact arEq_at (fun i hi => congrArg (Nat.cast (R := Int)) (keys0 k i hi))
  · (repeat' first | exact trivial | exact rfl | exact Nat.le_of_ble_eq_true rfl | exact Nat.le_refl _ | exact .inl ⟨rfl, rfl, rfl, rfl, Nat.le_refl _, Nat.le_refl _, .inr rfl, Nat.le_of_ble_eq_true rfl⟩ | exact .inl ⟨rfl, rfl, rfl, rfl, Nat.le_refl _, Nat.le_refl _, .inl rfl, Nat.le_of_ble_eq_true rfl⟩ | exact .inr ⟨rfl, rfl, rfl, rfl, rfl⟩ | exact .inl ⟨rfl, rfl, rfl, (by first | omega | (simp; done) | (simp; omega)), (by first | omega | (simp; done) | (simp; omega)), (by first | omega | (simp; done) | (simp; omega)), .inr rfl, Nat.le_of_ble_eq_true rfl⟩ | exact .inl ⟨rfl, rfl, rfl, (by first | omega | (simp; done) | (simp; omega)), (by first | omega | (simp; done) | (simp; omega)), (by first | omega | (simp; done) | (simp; omega)), .inl rfl, Nat.le_of_ble_eq_true rfl⟩ | exact fun h => h | refine ⟨?_, ?_, ?_, .inl ?_⟩ | refine ⟨?_, ?_⟩ | refine fun ii hii => ?_ | omega | fail)
end Go.Proofs.Ytghmelcbkjejeaa.Ak
