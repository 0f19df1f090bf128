/- Functions' codes on the heap of the mind. Written by a program of this session. -/
import Derived.Test.YtghmelcbkjejeaaProg
import Derived.Test.YtghmelcbkjejeaaLh12
namespace Go.Proofs.Ytghmelcbkjejeaa.Ak
open Go.Proofs.Ytghmelcbkjejeaa.Lh
set_option maxRecDepth 100000
set_option linter.unusedSectionVars false
variable [Fz]
/-- palatine/palatinelaw06.AesKeys -/
def c7 : LCode :=
  .seq
   (.region [⟨(some 1), none, .op (.box 27 16 (.tmp 0))⟩,
     ⟨(some 2), none, .op (.move (.const (.bool false)))⟩])
   (.seq
    (.region [⟨(some 4), none, .op (.load (some 16) (.tmp 1))⟩,
      ⟨(some 5), none, .call 15 [(.tmp 4)]⟩,
      ⟨(some 3), none, .op (.alloc 28 (.rows 11 16 (fun _ => (.rows 16 1 (fun _ => (.one (.int .u8 0) .nil)) .nil)) .nil))⟩,
      ⟨none, none, .op (.store 176 (.tmp 3) (.tmp 5))⟩])
    (.seq
     (.draws [(0, [], ⟨(some 6), none, .op (.load (some 176) (.tmp 3))⟩),
       (1, [0], ⟨(some 7), none, .op (.load (some 16) (.tmp 1))⟩),
       (2, [0], ⟨(some 8), none, .call 16 [(.tmp 7)]⟩),
       (3, [], ⟨(some 9), none, .op (.ar2 false 11 16 .u8 (.tmp 6) (.tmp 8))⟩),
       (4, [], ⟨(some 10), none, .op (.move (.tmp 9))⟩),
       (5, [], ⟨(some 11), some (10, true), .op (.idxArr 16 11 (.tmp 3) (.const (.int .i64 0)))⟩),
       (6, [], ⟨(some 12), some (10, true), .op (.load (some 16) (.tmp 11))⟩),
       (7, [5, 6], ⟨(some 13), some (10, true), .op (.load (some 16) (.tmp 1))⟩),
       (8, [], ⟨(some 14), some (10, true), .op (.ar false 16 .u8 (.tmp 12) (.tmp 13))⟩),
       (9, [], ⟨(some 15), none, .op (.pick (.tmp 10) (.tmp 14) (.const (.bool false)))⟩),
       (10, [], ⟨(some 2), none, .op (.move (.tmp 15))⟩)])
     (.ret)))
def r7 : List LRes := [.tmp 2]
theorem body7 : Try.f7.body.bind (compileC Try.prog) = some c7 := by kernel_rfl
theorem res7 : compileRes Try.prog Try.f7.results.toList = some r7 := by kernel_rfl
theorem has7 : hasBody Try.prog 7 = true := by kernel_rfl
theorem enter7 {args : LVals} {h : LHeap} {R : LEnd → LHeap → Prop} (hk : 16 - lvsLen args = 15) (hw : initK args 15 fun t => lwp Try.prog h.length c7 (bodyQ r7 R) t h) : LCalls Try.prog 7 args h R := LCalls.enter Try.func7 body7 has7 res7 _ (by rw [Try.ntmps7]; exact hk) hw
/-- palatine/palatinelaw06.AesTurns -/
def c8 : LCode :=
  .seq
   (.region [⟨(some 2), none, .op (.box 27 16 (.tmp 0))⟩,
     ⟨(some 3), none, .op (.box 27 16 (.tmp 1))⟩,
     ⟨(some 4), none, .op (.move (.const (.bool false)))⟩])
   (.seq
    (.region [⟨(some 7), none, .call 17 []⟩,
      ⟨(some 5), none, .op (.move (.tmp 7))⟩])
    (.seq
     (.region [⟨(some 8), none, .op (.load (some 16) (.tmp 2))⟩,
       ⟨(some 9), none, .op (.load (some 16) (.tmp 3))⟩,
       ⟨(some 10), none, .call 18 [(.tmp 8), (.tmp 9)]⟩,
       ⟨(some 6), none, .op (.alloc 27 (.rows 16 1 (fun _ => (.one (.int .u8 0) .nil)) .nil))⟩,
       ⟨none, none, .op (.store 16 (.tmp 6) (.tmp 10))⟩])
     (.seq
      (.draws [(0, [], ⟨(some 11), none, .op (.move (.tmp 5))⟩),
        (1, [], ⟨(some 12), none, .op (.move (.tmp 11))⟩),
        (2, [], ⟨(some 13), some (12, true), .op (.load (some 16) (.tmp 6))⟩),
        (3, [2], ⟨(some 14), some (12, true), .op (.load (some 16) (.tmp 2))⟩),
        (4, [2, 3], ⟨(some 15), some (12, true), .op (.load (some 16) (.tmp 3))⟩),
        (5, [2], ⟨(some 16), some (12, true), .call 19 [(.tmp 14), (.tmp 15)]⟩),
        (6, [], ⟨(some 17), some (12, true), .op (.ar false 16 .u8 (.tmp 13) (.tmp 16))⟩),
        (7, [], ⟨(some 18), none, .op (.pick (.tmp 12) (.tmp 17) (.const (.bool false)))⟩),
        (8, [], ⟨(some 4), none, .op (.move (.tmp 18))⟩)])
      (.ret))))
def r8 : List LRes := [.tmp 4]
theorem body8 : Try.f8.body.bind (compileC Try.prog) = some c8 := by kernel_rfl
theorem res8 : compileRes Try.prog Try.f8.results.toList = some r8 := by kernel_rfl
theorem has8 : hasBody Try.prog 8 = true := by kernel_rfl
theorem enter8 {args : LVals} {h : LHeap} {R : LEnd → LHeap → Prop} (hk : 19 - lvsLen args = 17) (hw : initK args 17 fun t => lwp Try.prog h.length c8 (bodyQ r8 R) t h) : LCalls Try.prog 8 args h R := LCalls.enter Try.func8 body8 has8 res8 _ (by rw [Try.ntmps8]; exact hk) hw
/-- palatine/palatinelaw06.awake -/
def c17 : LCode :=
  .seq
   (.region [⟨(some 0), none, .op (.move (.const (.bool false)))⟩])
   (.seq
    (.region [⟨(some 3), none, .call 25 [(.const (.int .u8 1))]⟩,
      ⟨(some 4), none, .call 25 [(.const (.int .u8 17))]⟩,
      ⟨(some 5), none, .call 18 [(.tmp 3), (.tmp 4)]⟩,
      ⟨(some 1), none, .op (.alloc 27 (.rows 16 1 (fun _ => (.one (.int .u8 0) .nil)) .nil))⟩,
      ⟨none, none, .op (.store 16 (.tmp 1) (.tmp 5))⟩])
    (.seq
     (.draws [(0, [], ⟨(some 6), none, .call 25 [(.const (.int .u8 1))]⟩),
       (1, [0], ⟨(some 7), none, .op (.load (some 16) (.tmp 1))⟩),
       (2, [], ⟨(some 8), none, .call 20 [(.tmp 6), (.tmp 7)]⟩),
       (3, [0, 1, 2], ⟨(some 2), none, .op (.alloc 27 (.rows 16 1 (fun _ => (.one (.int .u8 0) .nil)) .nil))⟩),
       (4, [], ⟨none, none, .op (.store 16 (.tmp 2) (.tmp 8))⟩)])
     (.seq
      (.draws [(0, [], ⟨(some 9), none, .op (.load (some 16) (.tmp 1))⟩),
        (1, [0], ⟨(some 10), none, .op (.bar 1 16 (.one (.int .u8 0) .nil) [(0, (.const (.int .u8 105))), (1, (.const (.int .u8 196))), (2, (.const (.int .u8 224))), (3, (.const (.int .u8 216))), (4, (.const (.int .u8 106))), (5, (.const (.int .u8 123))), (6, (.const (.int .u8 4))), (7, (.const (.int .u8 48))), (8, (.const (.int .u8 216))), (9, (.const (.int .u8 205))), (10, (.const (.int .u8 183))), (11, (.const (.int .u8 128))), (12, (.const (.int .u8 112))), (13, (.const (.int .u8 180))), (14, (.const (.int .u8 197))), (15, (.const (.int .u8 90)))])⟩),
        (2, [], ⟨(some 11), none, .op (.ar false 16 .u8 (.tmp 9) (.tmp 10))⟩),
        (3, [], ⟨(some 12), none, .op (.move (.tmp 11))⟩),
        (4, [], ⟨(some 13), some (12, true), .op (.load (some 16) (.tmp 2))⟩),
        (5, [4], ⟨(some 14), some (12, true), .call 25 [(.const (.int .u8 17))]⟩),
        (6, [], ⟨(some 15), some (12, true), .op (.ar false 16 .u8 (.tmp 13) (.tmp 14))⟩),
        (7, [], ⟨(some 16), none, .op (.pick (.tmp 12) (.tmp 15) (.const (.bool false)))⟩),
        (8, [], ⟨(some 0), none, .op (.move (.tmp 16))⟩)])
      (.ret))))
def r17 : List LRes := [.tmp 0]
theorem body17 : Try.f17.body.bind (compileC Try.prog) = some c17 := by kernel_rfl
theorem res17 : compileRes Try.prog Try.f17.results.toList = some r17 := by kernel_rfl
theorem has17 : hasBody Try.prog 17 = true := by kernel_rfl
theorem enter17 {args : LVals} {h : LHeap} {R : LEnd → LHeap → Prop} (hk : 17 - lvsLen args = 17) (hw : initK args 17 fun t => lwp Try.prog h.length c17 (bodyQ r17 R) t h) : LCalls Try.prog 17 args h R := LCalls.enter Try.func17 body17 has17 res17 _ (by rw [Try.ntmps17]; exact hk) hw
/-- palatine/palatineref06.Encrypt -/
def c19 : LCode :=
  .seq
   (.region [⟨(some 2), none, .op (.box 27 16 (.tmp 0))⟩,
     ⟨(some 3), none, .op (.box 27 16 (.tmp 1))⟩,
     ⟨(some 4), none, .op (.alloc 27 (.rows 16 1 (fun _ => (.one (.int .u8 0) .nil)) .nil))⟩])
   (.seq
    (.region [⟨(some 13), none, .op (.load (some 16) (.tmp 2))⟩,
      ⟨(some 14), none, .call 16 [(.tmp 13)]⟩,
      ⟨(some 5), none, .op (.alloc 28 (.rows 11 16 (fun _ => (.rows 16 1 (fun _ => (.one (.int .u8 0) .nil)) .nil)) .nil))⟩,
      ⟨none, none, .op (.store 176 (.tmp 5) (.tmp 14))⟩])
    (.seq
     (.seq
      (.region [⟨(some 6), none, .op (.move (.const (.int .i64 0)))⟩])
      (.block 0
       (.loop
        (.seq
         (.seq
          (.region [⟨(some 15), none, .op (.move (.tmp 6))⟩,
            ⟨(some 16), none, .op (.bin .lss (.tmp 15) (.const (.int .i64 16)))⟩])
          (.cond (.tmp 16)
           (.skip)
           (.exit 0)))
         (.seq
          (.block 1
           (.draws [(0, [], ⟨(some 19), none, .op (.move (.tmp 6))⟩),
             (1, [0], ⟨(some 20), none, .op (.move (.tmp 6))⟩),
             (2, [0], ⟨(some 21), none, .op (.idxArr 1 16 (.tmp 3) (.tmp 20))⟩),
             (3, [0], ⟨(some 22), none, .op (.load none (.tmp 21))⟩),
             (4, [0, 1, 2, 3], ⟨(some 23), none, .op (.move (.tmp 6))⟩),
             (5, [0, 1, 2, 3, 4], ⟨(some 24), none, .op (.idxArr 16 11 (.tmp 5) (.const (.int .i64 0)))⟩),
             (6, [0, 1, 2, 3], ⟨(some 25), none, .op (.idxArr 1 16 (.tmp 24) (.tmp 23))⟩),
             (7, [0, 1, 2, 3], ⟨(some 26), none, .op (.load none (.tmp 25))⟩),
             (8, [0], ⟨(some 27), none, .op (.bin .xor (.tmp 22) (.tmp 26))⟩),
             (9, [], ⟨(some 28), none, .op (.idxArr 1 16 (.tmp 3) (.tmp 19))⟩),
             (10, [], ⟨none, none, .op (.store 1 (.tmp 28) (.tmp 27))⟩)]))
          (.region [⟨(some 17), none, .op (.move (.tmp 6))⟩,
            ⟨(some 18), none, .op (.bin .add (.tmp 17) (.const (.int .i64 1)))⟩,
            ⟨(some 6), none, .op (.move (.tmp 18))⟩]))))))
     (.seq
      (.seq
       (.region [⟨(some 7), none, .op (.move (.const (.int .i64 1)))⟩])
       (.block 2
        (.loop
         (.seq
          (.seq
           (.region [⟨(some 29), none, .op (.move (.tmp 7))⟩,
             ⟨(some 30), none, .op (.bin .leq (.tmp 29) (.const (.int .i64 10)))⟩])
           (.cond (.tmp 30)
            (.skip)
            (.exit 2)))
          (.seq
           (.block 3
            (.seq
             (.region [⟨(some 8), none, .op (.alloc 27 (.rows 16 1 (fun _ => (.one (.int .u8 0) .nil)) .nil))⟩])
             (.seq
              (.seq
               (.region [⟨(some 9), none, .op (.move (.const (.int .i64 0)))⟩])
               (.block 4
                (.loop
                 (.seq
                  (.seq
                   (.region [⟨(some 33), none, .op (.move (.tmp 9))⟩,
                     ⟨(some 34), none, .op (.bin .lss (.tmp 33) (.const (.int .i64 4)))⟩])
                   (.cond (.tmp 34)
                    (.skip)
                    (.exit 4)))
                  (.seq
                   (.block 5
                    (.seq
                     (.region [⟨(some 10), none, .op (.alloc 37 (.rows 4 1 (fun _ => (.one (.int .u8 0) .nil)) .nil))⟩])
                     (.seq
                      (.seq
                       (.region [⟨(some 11), none, .op (.move (.const (.int .i64 0)))⟩])
                       (.block 6
                        (.loop
                         (.seq
                          (.seq
                           (.region [⟨(some 37), none, .op (.move (.tmp 11))⟩,
                             ⟨(some 38), none, .op (.bin .lss (.tmp 37) (.const (.int .i64 4)))⟩])
                           (.cond (.tmp 38)
                            (.skip)
                            (.exit 6)))
                          (.seq
                           (.block 7
                            (.region [⟨(some 41), none, .op (.move (.tmp 11))⟩,
                              ⟨(some 42), none, .op (.move (.tmp 9))⟩,
                              ⟨(some 43), none, .op (.move (.tmp 11))⟩,
                              ⟨(some 44), none, .op (.bin .add (.tmp 42) (.tmp 43))⟩,
                              ⟨(some 45), none, .op (.bin .rem (.tmp 44) (.const (.int .i64 4)))⟩,
                              ⟨(some 46), none, .op (.bin .mul (.tmp 45) (.const (.int .i64 4)))⟩,
                              ⟨(some 47), none, .op (.move (.tmp 11))⟩,
                              ⟨(some 48), none, .op (.bin .add (.tmp 46) (.tmp 47))⟩,
                              ⟨(some 49), none, .op (.idxArr 1 16 (.tmp 3) (.tmp 48))⟩,
                              ⟨(some 50), none, .op (.load none (.tmp 49))⟩,
                              ⟨(some 51), none, .call 14 [(.tmp 50)]⟩,
                              ⟨(some 52), none, .op (.idxArr 1 4 (.tmp 10) (.tmp 41))⟩,
                              ⟨none, none, .op (.store 1 (.tmp 52) (.tmp 51))⟩]))
                           (.region [⟨(some 39), none, .op (.move (.tmp 11))⟩,
                             ⟨(some 40), none, .op (.bin .add (.tmp 39) (.const (.int .i64 1)))⟩,
                             ⟨(some 11), none, .op (.move (.tmp 40))⟩]))))))
                      (.seq
                       (.seq
                        (.region [⟨(some 53), none, .op (.move (.tmp 7))⟩,
                          ⟨(some 54), none, .op (.bin .lss (.tmp 53) (.const (.int .i64 10)))⟩])
                        (.cond (.tmp 54)
                         (.region [⟨(some 55), none, .op (.load (some 4) (.tmp 10))⟩,
                           ⟨(some 56), none, .call 30 [(.tmp 55)]⟩,
                           ⟨none, none, .op (.store 4 (.tmp 10) (.tmp 56))⟩])
                         (.skip)))
                       (.seq
                        (.region [⟨(some 12), none, .op (.move (.const (.int .i64 0)))⟩])
                        (.block 8
                         (.loop
                          (.seq
                           (.seq
                            (.region [⟨(some 57), none, .op (.move (.tmp 12))⟩,
                              ⟨(some 58), none, .op (.bin .lss (.tmp 57) (.const (.int .i64 4)))⟩])
                            (.cond (.tmp 58)
                             (.skip)
                             (.exit 8)))
                           (.seq
                            (.block 9
                             (.draws [(0, [], ⟨(some 61), none, .op (.move (.tmp 9))⟩),
                               (1, [], ⟨(some 62), none, .op (.bin .mul (.const (.int .i64 4)) (.tmp 61))⟩),
                               (2, [0, 1], ⟨(some 63), none, .op (.move (.tmp 12))⟩),
                               (3, [], ⟨(some 64), none, .op (.bin .add (.tmp 62) (.tmp 63))⟩),
                               (4, [0, 1, 2, 3], ⟨(some 65), none, .op (.move (.tmp 12))⟩),
                               (5, [0, 1, 2, 3], ⟨(some 66), none, .op (.idxArr 1 4 (.tmp 10) (.tmp 65))⟩),
                               (6, [0, 1, 2, 3], ⟨(some 67), none, .op (.load none (.tmp 66))⟩),
                               (7, [0, 1, 2, 3, 4, 5, 6], ⟨(some 68), none, .op (.move (.tmp 7))⟩),
                               (8, [0, 1, 2, 3, 4, 5, 6, 7], ⟨(some 69), none, .op (.move (.tmp 9))⟩),
                               (9, [0, 1, 2, 3, 4, 5, 6, 7], ⟨(some 70), none, .op (.bin .mul (.const (.int .i64 4)) (.tmp 69))⟩),
                               (10, [0, 1, 2, 3, 4, 5, 6, 7, 8, 9], ⟨(some 71), none, .op (.move (.tmp 12))⟩),
                               (11, [0, 1, 2, 3, 4, 5, 6, 7], ⟨(some 72), none, .op (.bin .add (.tmp 70) (.tmp 71))⟩),
                               (12, [0, 1, 2, 3, 4, 5, 6, 8, 9, 10, 11], ⟨(some 73), none, .op (.idxArr 16 11 (.tmp 5) (.tmp 68))⟩),
                               (13, [0, 1, 2, 3, 4, 5, 6], ⟨(some 74), none, .op (.idxArr 1 16 (.tmp 73) (.tmp 72))⟩),
                               (14, [0, 1, 2, 3, 4, 5, 6], ⟨(some 75), none, .op (.load none (.tmp 74))⟩),
                               (15, [0, 1, 2, 3], ⟨(some 76), none, .op (.bin .xor (.tmp 67) (.tmp 75))⟩),
                               (16, [], ⟨(some 77), none, .op (.idxArr 1 16 (.tmp 8) (.tmp 64))⟩),
                               (17, [], ⟨none, none, .op (.store 1 (.tmp 77) (.tmp 76))⟩)]))
                            (.region [⟨(some 59), none, .op (.move (.tmp 12))⟩,
                              ⟨(some 60), none, .op (.bin .add (.tmp 59) (.const (.int .i64 1)))⟩,
                              ⟨(some 12), none, .op (.move (.tmp 60))⟩]))))))))))
                   (.region [⟨(some 35), none, .op (.move (.tmp 9))⟩,
                     ⟨(some 36), none, .op (.bin .add (.tmp 35) (.const (.int .i64 1)))⟩,
                     ⟨(some 9), none, .op (.move (.tmp 36))⟩]))))))
              (.region [⟨(some 78), none, .op (.load (some 16) (.tmp 8))⟩,
                ⟨none, none, .op (.store 16 (.tmp 3) (.tmp 78))⟩]))))
           (.region [⟨(some 31), none, .op (.move (.tmp 7))⟩,
             ⟨(some 32), none, .op (.bin .add (.tmp 31) (.const (.int .i64 1)))⟩,
             ⟨(some 7), none, .op (.move (.tmp 32))⟩]))))))
      (.seq
       (.region [⟨(some 79), none, .op (.load (some 16) (.tmp 3))⟩,
         ⟨none, none, .op (.store 16 (.tmp 4) (.tmp 79))⟩])
       (.ret)))))
def r19 : List LRes := [.cell 4 (some 16)]
theorem body19 : Try.f19.body.bind (compileC Try.prog) = some c19 := by kernel_rfl
theorem res19 : compileRes Try.prog Try.f19.results.toList = some r19 := by kernel_rfl
theorem has19 : hasBody Try.prog 19 = true := by kernel_rfl
theorem enter19 {args : LVals} {h : LHeap} {R : LEnd → LHeap → Prop} (hk : 80 - lvsLen args = 78) (hw : initK args 78 fun t => lwp Try.prog h.length c19 (bodyQ r19 R) t h) : LCalls Try.prog 19 args h R := LCalls.enter Try.func19 body19 has19 res19 _ (by rw [Try.ntmps19]; exact hk) hw
/-- palatine/palatinelaw06.rising -/
def c25 : LCode :=
  .seq
   (.region [⟨(some 2), none, .op (.alloc 27 (.rows 16 1 (fun _ => (.one (.int .u8 0) .nil)) .nil))⟩])
   (.seq
    (.region [⟨(some 3), none, .op (.alloc 27 (.rows 16 1 (fun _ => (.one (.int .u8 0) .nil)) .nil))⟩])
    (.seq
     (.seq
      (.region [⟨(some 4), none, .op (.move (.const (.int .i64 0)))⟩])
      (.block 0
       (.loop
        (.seq
         (.seq
          (.region [⟨(some 5), none, .op (.move (.tmp 4))⟩,
            ⟨(some 6), none, .op (.bin .lss (.tmp 5) (.const (.int .i64 16)))⟩])
          (.cond (.tmp 6)
           (.skip)
           (.exit 0)))
         (.seq
          (.block 1
           (.region [⟨(some 9), none, .op (.move (.tmp 4))⟩,
             ⟨(some 10), none, .op (.move (.tmp 0))⟩,
             ⟨(some 11), none, .op (.move (.tmp 4))⟩,
             ⟨(some 12), none, .op (.toInt .u8 (.tmp 11))⟩,
             ⟨(some 13), none, .op (.bin .mul (.tmp 10) (.tmp 12))⟩,
             ⟨(some 14), none, .op (.idxArr 1 16 (.tmp 3) (.tmp 9))⟩,
             ⟨none, none, .op (.store 1 (.tmp 14) (.tmp 13))⟩]))
          (.region [⟨(some 7), none, .op (.move (.tmp 4))⟩,
            ⟨(some 8), none, .op (.bin .add (.tmp 7) (.const (.int .i64 1)))⟩,
            ⟨(some 4), none, .op (.move (.tmp 8))⟩]))))))
     (.seq
      (.region [⟨(some 15), none, .op (.load (some 16) (.tmp 3))⟩,
        ⟨none, none, .op (.store 16 (.tmp 2) (.tmp 15))⟩])
      (.ret))))
def r25 : List LRes := [.cell 2 (some 16)]
theorem body25 : Try.f25.body.bind (compileC Try.prog) = some c25 := by kernel_rfl
theorem res25 : compileRes Try.prog Try.f25.results.toList = some r25 := by kernel_rfl
theorem has25 : hasBody Try.prog 25 = true := by kernel_rfl
theorem enter25 {args : LVals} {h : LHeap} {R : LEnd → LHeap → Prop} (hk : 16 - lvsLen args = 15) (hw : initK args 15 fun t => lwp Try.prog h.length c25 (bodyQ r25 R) t h) : LCalls Try.prog 25 args h R := LCalls.enter Try.func25 body25 has25 res25 _ (by rw [Try.ntmps25]; exact hk) hw
end Go.Proofs.Ytghmelcbkjejeaa.Ak
