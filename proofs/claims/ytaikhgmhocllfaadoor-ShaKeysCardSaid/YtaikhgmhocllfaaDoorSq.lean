/- Digests on the heap of the mind: keys. By this session. -/
import Derived.Test.YtaikhgmhocllfaaDoorSo
namespace Go.Proofs.YtaikhgmhocllfaaDoor.Sk
open Go.Proofs.YtaikhgmhocllfaaDoor.Lh Go.RowKit Go.Proofs.YtaikhgmhocllfaaDoor.Sp
set_option maxRecDepth 100000
set_option linter.unusedSimpArgs false
set_option linter.unusedSectionVars false
set_option linter.unusedVariables false
theorem mac_key {key key2 : Sp.Bs} (h : ∀ i, i < 64 → (keyP key).getD i 0 = (keyP key2).getD i 0) (b : Sp.Bs) : mac key b = mac key2 b := by
  have e : ∀ v, padKey key v = padKey key2 v := fun v => by
    unfold padKey
    exact List.map_congr_left fun i hi => by rw [h i (List.mem_range.1 hi)]
  unfold mac
  rw [e, e]
theorem mac_long {key : Sp.Bs} (h : 64 < key.length) (b : Sp.Bs) : mac (digest key) b = mac key b := mac_key (fun i _ => by
  unfold keyP
  rw [if_neg (by rw [digest_len]; omega), if_pos h]) b
def longer (key : Sp.Bs) : Sp.Bs := key ++ List.replicate (64 - key.length) 0
theorem mac_short {key : Sp.Bs} (h : ¬ 64 < key.length) (b : Sp.Bs) : mac (longer key) b = mac key b := mac_key (fun i hi => by
  have hl : (longer key).length = 64 := by unfold longer; rw [List.length_append, List.length_replicate]; omega
  unfold keyP
  rw [if_neg (by omega), if_neg h]
  unfold longer
  rw [List.getD_eq_getElem?_getD, List.getD_eq_getElem?_getD]
  rcases Nat.lt_or_ge i key.length with c | c
  · rw [List.getElem?_append_left c]
  · rw [List.getElem?_append_right c, List.getElem?_eq_none c, List.getElem?_replicate, if_pos (by omega)]
    rfl) b
theorem appZ_rows (key : Sp.Bs) : (fun i => if i < key.length then bySeg key (0 + i) else (fun (_ : Nat) => Segs.one (.int .u8 0) .nil) (i - key.length)) = bySeg (longer key) := funext fun i => by
  unfold bySeg longer
  rw [List.getD_eq_getElem?_getD, List.getD_eq_getElem?_getD, Nat.zero_add]
  split
  · rename_i c
    rw [List.getElem?_append_left c]
  · rename_i c
    rw [List.getElem?_append_right (by omega), List.getElem?_replicate]
    split <;> rfl
theorem ShaKeys (key b : Sp.Bs) (hk : key.length ≤ 140737488351232) (hb : b.length ≤ 140737488351232) : LCalls Tryd.prog 6 (.cons (bysV key) (.cons (bysV b) .nil)) [] HoldsE := by
  refine LCalls.mono (R := fun e h' => e = .ret (.bool true) ∧ h' = []) ?_ fun _ _ h => h.1
  refine LCalls.tell ?_; refine enter6 rfl ?_; conv => whnf
  refine LCalls.use awake [] rfl rfl trivial ?_
  rintro _ _ ⟨rfl, rfl⟩
  conv => whnf
  refine LCalls.use (Mac key b (by omega) (by omega)) [] rfl rfl trivial ?_
  rintro _ _ ⟨rfl, rfl⟩
  conv => whnf
  by_cases h64 : 64 < key.length
  · rewrite [show decide ((key.length : Int) > 64) = true from decide_eq_true (by omega)]
    have hm := mac_long h64 b
    have hdl := digest_len key
    conv => whnf
    refine LCalls.use (sum key (by omega)) [] rfl rfl trivial ?_
    rintro _ _ ⟨rfl, rfl⟩
    generalize digest key = D at hm hdl
    (conv => whnf); (repeat (refine And.intro (by first | omega | (dsimp only; omega)) ?_; conv => whnf))
    refine LCalls.preF [(1, 32, 1, bySeg D)] ⟨⟨rfl, Nat.le_refl _, rfl, fun i hi => ⟨⟨rfl, rfl⟩, trivial⟩⟩, rfl, trivial⟩ [0, 1] (.cons (bysV D) (.cons (bysV b) .nil)) [z32 (mac key b), none] rfl rfl ?_ ?_ ?_
    · exact ⟨.inr ⟨rfl, rfl, rfl, rfl, hdl.symm, Nat.le_refl _, fun i hi => by show bySeg D (offs 0 i) = bySeg D i; rfl⟩, ⟨rfl, rfl, fun i hi => ⟨⟨rfl, rfl⟩, trivial⟩⟩, trivial⟩
    · (repeat' first | exact trivial | exact rfl | exact Nat.le_of_ble_eq_true rfl | exact Nat.le_refl _ | exact .inl ⟨rfl, rfl, rfl, rfl, Nat.le_refl _, Nat.le_refl _, .inr rfl, Nat.le_of_ble_eq_true rfl⟩ | exact .inl ⟨rfl, rfl, rfl, rfl, Nat.le_refl _, Nat.le_refl _, .inl rfl, Nat.le_of_ble_eq_true rfl⟩ | exact .inr ⟨rfl, rfl, rfl, rfl, rfl⟩ | exact .inl ⟨rfl, rfl, rfl, (by first | omega | (simp; done) | (simp; omega)), (by first | omega | (simp; done) | (simp; omega)), (by first | omega | (simp; done) | (simp; omega)), .inr rfl, Nat.le_of_ble_eq_true rfl⟩ | exact .inl ⟨rfl, rfl, rfl, (by first | omega | (simp; done) | (simp; omega)), (by first | omega | (simp; done) | (simp; omega)), (by first | omega | (simp; done) | (simp; omega)), .inl rfl, Nat.le_of_ble_eq_true rfl⟩ | exact fun h => h | refine ⟨?_, ?_, ?_, .inl ?_⟩ | refine ⟨?_, ?_⟩ | refine fun ii hii => ?_ | omega | fail)
    refine LCalls.use (Mac D b (by omega) (by omega)) [] rfl rfl trivial ?_
    rintro _ _ ⟨rfl, rfl⟩
    rw [hm]
    conv => whnf
    refine ⟨⟨fun i hi => rfl, fun i hi => rfl⟩, ?_⟩
    conv => whnf
    refine ⟨[], .ret (.bool true), [], rfl, rfl, arEq_same fun i => rfl, ?_, rfl, rfl⟩
    (repeat' first | exact trivial | exact rfl | exact Nat.le_of_ble_eq_true rfl | exact Nat.le_refl _ | exact .inl ⟨rfl, rfl, rfl, rfl, Nat.le_refl _, Nat.le_refl _, .inr rfl, Nat.le_of_ble_eq_true rfl⟩ | exact .inl ⟨rfl, rfl, rfl, rfl, Nat.le_refl _, Nat.le_refl _, .inl rfl, Nat.le_of_ble_eq_true rfl⟩ | exact .inr ⟨rfl, rfl, rfl, rfl, rfl⟩ | exact .inl ⟨rfl, rfl, rfl, (by first | omega | (simp; done) | (simp; omega)), (by first | omega | (simp; done) | (simp; omega)), (by first | omega | (simp; done) | (simp; omega)), .inr rfl, Nat.le_of_ble_eq_true rfl⟩ | exact .inl ⟨rfl, rfl, rfl, (by first | omega | (simp; done) | (simp; omega)), (by first | omega | (simp; done) | (simp; omega)), (by first | omega | (simp; done) | (simp; omega)), .inl rfl, Nat.le_of_ble_eq_true rfl⟩ | exact fun h => h | refine ⟨?_, ?_, ?_, .inl ?_⟩ | refine ⟨?_, ?_⟩ | refine fun ii hii => ?_ | omega | fail)
  · rewrite [show decide ((key.length : Int) > 64) = false from decide_eq_false (by omega)]
    have hm := mac_short h64 b
    conv => whnf
    refine ⟨⟨by omega, by omega, by omega⟩, ?_⟩
    rewrite [show (fun i => if i < 0 then (fun (_ : Nat) => Segs.one (.int .u8 0) .nil) (0 + i) else bySeg key (i - 0)) = bySeg key from app_rows0 key, Nat.zero_add]
    conv => whnf
    rewrite [wrapI (n := 64 - (key.length : Int)) (by omega)]
    rewrite [show (64 - (key.length : Int)).toNat = 64 - key.length by omega]
    refine ⟨⟨by omega, by omega, by omega⟩, ?_⟩
    conv => whnf
    refine ⟨⟨by omega, by omega, by omega⟩, ?_⟩
    rewrite [appZ_rows key]
    have hl : key.length + (64 - key.length) = (longer key).length := by unfold longer; rw [List.length_append, List.length_replicate]
    rewrite [hl]
    have hl2 : (longer key).length = 64 := by omega
    generalize longer key = K at hm hl hl2
    conv => whnf
    refine LCalls.preF [(3, K.length, 1, bySeg K)] ⟨⟨rfl, Nat.le_refl _, rfl, fun i hi => ⟨⟨rfl, rfl⟩, trivial⟩⟩, rfl, trivial⟩ [0, 1, 2, 3] (.cons (bysV K) (.cons (bysV b) .nil)) [z32 (mac key b), none, none, none] rfl rfl ?_ ?_ ?_
    · exact ⟨.inr ⟨rfl, rfl, rfl, rfl, rfl, by simp, fun i hi => by show bySeg K (offs 0 i) = bySeg K i; rfl⟩, ⟨rfl, rfl, fun i hi => ⟨⟨rfl, rfl⟩, trivial⟩⟩, trivial⟩
    · (repeat' first | exact trivial | exact rfl | exact Nat.le_of_ble_eq_true rfl | exact Nat.le_refl _ | exact .inl ⟨rfl, rfl, rfl, rfl, Nat.le_refl _, Nat.le_refl _, .inr rfl, Nat.le_of_ble_eq_true rfl⟩ | exact .inl ⟨rfl, rfl, rfl, rfl, Nat.le_refl _, Nat.le_refl _, .inl rfl, Nat.le_of_ble_eq_true rfl⟩ | exact .inr ⟨rfl, rfl, rfl, rfl, rfl⟩ | exact .inl ⟨rfl, rfl, rfl, (by first | omega | (simp; done) | (simp; omega)), (by first | omega | (simp; done) | (simp; omega)), (by first | omega | (simp; done) | (simp; omega)), .inr rfl, Nat.le_of_ble_eq_true rfl⟩ | exact .inl ⟨rfl, rfl, rfl, (by first | omega | (simp; done) | (simp; omega)), (by first | omega | (simp; done) | (simp; omega)), (by first | omega | (simp; done) | (simp; omega)), .inl rfl, Nat.le_of_ble_eq_true rfl⟩ | exact fun h => h | refine ⟨?_, ?_, ?_, .inl ?_⟩ | refine ⟨?_, ?_⟩ | refine fun ii hii => ?_ | omega | fail)
    refine LCalls.use (Mac K b (by omega) (by omega)) [] rfl rfl trivial ?_
    rintro _ _ ⟨rfl, rfl⟩
    rw [hm]
    (conv => whnf); (repeat (refine And.intro (by first | omega | (dsimp only; omega)) ?_; conv => whnf))
    refine ⟨⟨fun i hi => rfl, fun i hi => rfl⟩, ?_⟩
    conv => whnf
    refine ⟨[], .ret (.bool true), [], rfl, rfl, arEq_same fun i => rfl, ?_, rfl, rfl⟩
    (repeat' first | exact trivial | exact rfl | exact Nat.le_of_ble_eq_true rfl | exact Nat.le_refl _ | exact .inl ⟨rfl, rfl, rfl, rfl, Nat.le_refl _, Nat.le_refl _, .inr rfl, Nat.le_of_ble_eq_true rfl⟩ | exact .inl ⟨rfl, rfl, rfl, rfl, Nat.le_refl _, Nat.le_refl _, .inl rfl, Nat.le_of_ble_eq_true rfl⟩ | exact .inr ⟨rfl, rfl, rfl, rfl, rfl⟩ | exact .inl ⟨rfl, rfl, rfl, (by first | omega | (simp; done) | (simp; omega)), (by first | omega | (simp; done) | (simp; omega)), (by first | omega | (simp; done) | (simp; omega)), .inr rfl, Nat.le_of_ble_eq_true rfl⟩ | exact .inl ⟨rfl, rfl, rfl, (by first | omega | (simp; done) | (simp; omega)), (by first | omega | (simp; done) | (simp; omega)), (by first | omega | (simp; done) | (simp; omega)), .inl rfl, Nat.le_of_ble_eq_true rfl⟩ | exact fun h => h | refine ⟨?_, ?_, ?_, .inl ?_⟩ | refine ⟨?_, ?_⟩ | refine fun ii hii => ?_ | omega | fail)
theorem lShaKeys {H : Type} {d e : DataW H} (a : Sp.Bs) (h : BytesOk a d) (b : Sp.Bs) (h2 : BytesOk b e) : LCalls Tryd.prog 6 (.cons (bysV a) (.cons (bysV b) .nil)) [] HoldsE := ShaKeys a b h.1 h2.1
end Go.Proofs.YtaikhgmhocllfaaDoor.Sk
