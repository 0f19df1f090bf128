/- Functions' codes on the heap of the mind. Written by a program of this session. -/
import Derived.Test.YtbojbofakmihmaaProg
import Derived.Test.YtbojbofakmihmaaLh16
namespace Go.Proofs.Ytbojbofakmihmaa.Bk
open Go.Proofs.Ytbojbofakmihmaa.Lh
set_option maxRecDepth 100000
set_option linter.unusedSectionVars false
variable [Fz]
/-- palatine/ber.Encode -/
def b25 : LBody :=
  (.seq
   (
    .region [⟨(some 1), none, .op (.box 40 3 (.tmp 0))⟩,
      ⟨(some 2), none, .op (.move (.const (.str ⟨#[]⟩)))⟩,
      ⟨(some 3), none, .op (.alloc 29 (.one (.int .i64 0) .nil))⟩])
   (.seq
    (
     .seq
      (.region [⟨(some 4), none, .op (.load (some 3) (.tmp 1))⟩,
        ⟨(some 5), none, .call 44 [(.tmp 4), (.const (.int .i64 8))]⟩,
        ⟨(some 6), none, .op (.un .not (.tmp 5))⟩])
      (.cond (.tmp 6)
       (.seq
        (.region [⟨(some 2), none, .op (.move (.const (.str ⟨#[]⟩)))⟩,
          ⟨none, none, .op (.store 1 (.tmp 3) (.const (.int .i64 91)))⟩])
        (.ret))
       (.skip)))
    (.defer [] (.fn 45 [(.tmp 3)])
     (.seq
      (
       .region [⟨(some 7), none, .op (.load (some 3) (.tmp 1))⟩,
         ⟨(some 8), none, .call 46 [(.tmp 7)]⟩])
      (.seq
       (
        .region [⟨(some 9), none, .op (.load (some 3) (.tmp 1))⟩,
          ⟨(some 10), none, .call 47 [(.tmp 9)]⟩,
          ⟨(some 2), none, .op (.move (.tmp 10))⟩,
          ⟨none, none, .op (.store 1 (.tmp 3) (.const (.int .i64 0)))⟩])
       (.code
        (
         .ret)))))))
def r25 : List LRes := [.tmp 2, .cell 3 none]
theorem body25 : Try.f25.body.bind (compileBd Try.prog) = some b25 := by kernel_rfl
theorem res25 : compileRes Try.prog Try.f25.results.toList = some r25 := by kernel_rfl
theorem has25 : hasBody Try.prog 25 = true := by kernel_rfl
theorem enter25 {args : LVals} {h : LHeap} {R : LEnd → LHeap → Prop} (hk : 11 - lvsLen args = 10) (hw : initK args 10 fun t => bwp Try.prog h.length [] b25 (endQ Try.prog r25 R) t h) : LCalls Try.prog 25 args h R := LCalls.enterD Try.func25 body25 has25 res25 _ (by rw [Try.ntmps25]; exact hk) hw
/-- palatine/ber.Decode -/
def b27 : LBody :=
  (.seq
   (
    .region [⟨(some 2), none, .op (.alloc 40 (.one (.int .i64 0) (.one (.str ⟨#[]⟩) (.one (.slice ⟨0, [], 0⟩ 0 0 0 0 (some 0)) .nil))))⟩,
      ⟨(some 3), none, .op (.alloc 3 (.one (.int .i64 0) .nil))⟩,
      ⟨(some 4), none, .op (.alloc 29 (.one (.int .i64 0) .nil))⟩])
   (.defer [⟨(some 5), none, .op (.mkFunc 48 [(.tmp 4), (.tmp 2), (.tmp 3)])⟩] (.val (.tmp 5) [])
    (.defer [] (.fn 45 [(.tmp 4)])
     (.seq
      (
       .region [⟨(some 7), none, .op (.move (.tmp 0))⟩,
         ⟨(some 8), none, .call 49 [(.tmp 7), (.const (.int .i64 1))]⟩,
         ⟨(some 6), none, .op (.move (.tmp 8))⟩,
         ⟨(some 9), none, .op (.ext 0 (.tmp 6))⟩,
         ⟨(some 10), none, .op (.ext 1 (.tmp 6))⟩,
         ⟨none, none, .op (.store 3 (.tmp 2) (.tmp 9))⟩,
         ⟨none, none, .op (.store 1 (.tmp 3) (.tmp 10))⟩])
      (.seq
       (
        .draws [(0, [], ⟨(some 11), none, .op (.load (some 3) (.tmp 2))⟩),
          (1, [0], ⟨(some 12), none, .op (.load none (.tmp 3))⟩),
          (2, [1], ⟨none, none, .op (.store 3 (.tmp 2) (.tmp 11))⟩),
          (3, [], ⟨none, none, .op (.store 1 (.tmp 3) (.tmp 12))⟩),
          (4, [], ⟨none, none, .op (.store 1 (.tmp 4) (.const (.int .i64 0)))⟩)])
       (.code
        (
         .ret)))))))
def r27 : List LRes := [.cell 2 (some 3), .cell 3 none, .cell 4 none]
theorem body27 : Try.f27.body.bind (compileBd Try.prog) = some b27 := by kernel_rfl
theorem res27 : compileRes Try.prog Try.f27.results.toList = some r27 := by kernel_rfl
theorem has27 : hasBody Try.prog 27 = true := by kernel_rfl
theorem enter27 {args : LVals} {h : LHeap} {R : LEnd → LHeap → Prop} (hk : 13 - lvsLen args = 12) (hw : initK args 12 fun t => bwp Try.prog h.length [] b27 (endQ Try.prog r27 R) t h) : LCalls Try.prog 27 args h R := LCalls.enterD Try.func27 body27 has27 res27 _ (by rw [Try.ntmps27]; exact hk) hw
/-- palatine/palatineref09.Decode -/
def c28 : LCode :=
  .seq
   (.region [⟨(some 2), none, .op (.alloc 40 (.one (.int .i64 0) (.one (.str ⟨#[]⟩) (.one (.slice ⟨0, [], 0⟩ 0 0 0 0 (some 0)) .nil))))⟩,
     ⟨(some 3), none, .op (.move (.const (.int .i64 0)))⟩,
     ⟨(some 4), none, .op (.move (.const (.int .i64 0)))⟩])
   (.seq
    (.region [⟨(some 5), none, .op (.move (.tmp 0))⟩,
      ⟨(some 6), none, .call 50 [(.tmp 5), (.const (.int .i64 1))]⟩,
      ⟨(some 7), none, .op (.ext 0 (.tmp 6))⟩,
      ⟨(some 8), none, .op (.ext 1 (.tmp 6))⟩,
      ⟨(some 9), none, .op (.ext 2 (.tmp 6))⟩,
      ⟨none, none, .op (.store 3 (.tmp 2) (.tmp 7))⟩,
      ⟨(some 3), none, .op (.move (.tmp 8))⟩,
      ⟨(some 4), none, .op (.move (.tmp 9))⟩])
    (.ret))
def r28 : List LRes := [.cell 2 (some 3), .tmp 3, .tmp 4]
theorem body28 : Try.f28.body.bind (compileC Try.prog) = some c28 := by kernel_rfl
theorem res28 : compileRes Try.prog Try.f28.results.toList = some r28 := by kernel_rfl
theorem has28 : hasBody Try.prog 28 = true := by kernel_rfl
theorem enter28 {args : LVals} {h : LHeap} {R : LEnd → LHeap → Prop} (hk : 10 - lvsLen args = 9) (hw : initK args 9 fun t => lwp Try.prog h.length c28 (bodyQ r28 R) t h) : LCalls Try.prog 28 args h R := LCalls.enter Try.func28 body28 has28 res28 _ (by rw [Try.ntmps28]; exact hk) hw
/-- palatine/palatineref09.Same -/
def c29 : LCode :=
  .seq
   (.region [⟨(some 2), none, .op (.box 40 3 (.tmp 0))⟩,
     ⟨(some 3), none, .op (.box 40 3 (.tmp 1))⟩,
     ⟨(some 4), none, .op (.move (.const (.bool false)))⟩])
   (.seq
    (.seq
     (.region [⟨(some 7), none, .op (.field 0 (.tmp 2))⟩,
       ⟨(some 8), none, .op (.load none (.tmp 7))⟩,
       ⟨(some 9), none, .op (.field 0 (.tmp 3))⟩,
       ⟨(some 10), none, .op (.load none (.tmp 9))⟩,
       ⟨(some 11), none, .op (.bin .neq (.tmp 8) (.tmp 10))⟩,
       ⟨(some 12), none, .op (.move (.tmp 11))⟩,
       ⟨(some 13), some (12, false), .op (.field 1 (.tmp 2))⟩,
       ⟨(some 14), some (12, false), .op (.load none (.tmp 13))⟩,
       ⟨(some 15), some (12, false), .op (.field 1 (.tmp 3))⟩,
       ⟨(some 16), some (12, false), .op (.load none (.tmp 15))⟩,
       ⟨(some 17), some (12, false), .op (.bin .neq (.tmp 14) (.tmp 16))⟩,
       ⟨(some 18), none, .op (.pick (.tmp 12) (.const (.bool true)) (.tmp 17))⟩,
       ⟨(some 19), none, .op (.move (.tmp 18))⟩,
       ⟨(some 20), some (19, false), .op (.field 2 (.tmp 2))⟩,
       ⟨(some 21), some (19, false), .op (.load none (.tmp 20))⟩,
       ⟨(some 22), some (19, false), .op (.lenSl (.tmp 21))⟩,
       ⟨(some 23), some (19, false), .op (.field 2 (.tmp 3))⟩,
       ⟨(some 24), some (19, false), .op (.load none (.tmp 23))⟩,
       ⟨(some 25), some (19, false), .op (.lenSl (.tmp 24))⟩,
       ⟨(some 26), some (19, false), .op (.bin .neq (.tmp 22) (.tmp 25))⟩,
       ⟨(some 27), none, .op (.pick (.tmp 19) (.const (.bool true)) (.tmp 26))⟩])
     (.cond (.tmp 27)
      (.seq
       (.region [⟨(some 4), none, .op (.move (.const (.bool false)))⟩])
       (.ret))
      (.skip)))
    (.seq
     (.seq
      (.region [⟨(some 5), none, .op (.move (.const (.int .i64 0)))⟩])
      (.block 0
       (.loop
        (.seq
         (.seq
          (.region [⟨(some 28), none, .op (.move (.tmp 5))⟩,
            ⟨(some 29), none, .op (.field 2 (.tmp 2))⟩,
            ⟨(some 30), none, .op (.load none (.tmp 29))⟩,
            ⟨(some 31), none, .op (.lenSl (.tmp 30))⟩,
            ⟨(some 32), none, .op (.bin .lss (.tmp 28) (.tmp 31))⟩])
          (.cond (.tmp 32)
           (.skip)
           (.exit 0)))
         (.seq
          (.block 1
           (.seq
            (.draws [(0, [], ⟨(some 35), none, .op (.field 2 (.tmp 2))⟩),
              (1, [], ⟨(some 36), none, .op (.load none (.tmp 35))⟩),
              (2, [0, 1], ⟨(some 37), none, .op (.move (.tmp 5))⟩),
              (3, [], ⟨(some 38), none, .op (.idxSl 3 (.tmp 36) (.tmp 37))⟩),
              (4, [], ⟨(some 39), none, .op (.load (some 3) (.tmp 38))⟩),
              (5, [0, 1, 2, 3, 4], ⟨(some 40), none, .op (.field 2 (.tmp 3))⟩),
              (6, [0, 1, 2, 3, 4], ⟨(some 41), none, .op (.load none (.tmp 40))⟩),
              (7, [0, 1, 2, 3, 4, 5, 6], ⟨(some 42), none, .op (.move (.tmp 5))⟩),
              (8, [0, 1, 2, 3, 4], ⟨(some 43), none, .op (.idxSl 3 (.tmp 41) (.tmp 42))⟩),
              (9, [0, 1, 2, 3, 4], ⟨(some 44), none, .op (.load (some 3) (.tmp 43))⟩),
              (10, [], ⟨(some 45), none, .call 29 [(.tmp 39), (.tmp 44)]⟩),
              (11, [], ⟨(some 6), none, .op (.move (.tmp 45))⟩)])
            (.seq
             (.region [⟨(some 46), none, .op (.move (.tmp 6))⟩,
               ⟨(some 47), none, .op (.un .not (.tmp 46))⟩])
             (.cond (.tmp 47)
              (.seq
               (.region [⟨(some 4), none, .op (.move (.const (.bool false)))⟩])
               (.ret))
              (.skip)))))
          (.region [⟨(some 33), none, .op (.move (.tmp 5))⟩,
            ⟨(some 34), none, .op (.bin .add (.tmp 33) (.const (.int .i64 1)))⟩,
            ⟨(some 5), none, .op (.move (.tmp 34))⟩]))))))
     (.seq
      (.region [⟨(some 4), none, .op (.move (.const (.bool true)))⟩])
      (.ret))))
def r29 : List LRes := [.tmp 4]
theorem body29 : Try.f29.body.bind (compileC Try.prog) = some c29 := by kernel_rfl
theorem res29 : compileRes Try.prog Try.f29.results.toList = some r29 := by kernel_rfl
theorem has29 : hasBody Try.prog 29 = true := by kernel_rfl
theorem enter29 {args : LVals} {h : LHeap} {R : LEnd → LHeap → Prop} (hk : 48 - lvsLen args = 46) (hw : initK args 46 fun t => lwp Try.prog h.length c29 (bodyQ r29 R) t h) : LCalls Try.prog 29 args h R := LCalls.enter Try.func29 body29 has29 res29 _ (by rw [Try.ntmps29]; exact hk) hw
/-- palatine/ber.Head -/
def c30 : LCode :=
  .seq
   (.region [⟨(some 2), none, .op (.move (.const (.int .i64 0)))⟩,
     ⟨(some 3), none, .op (.move (.const (.int .i64 0)))⟩,
     ⟨(some 4), none, .op (.move (.const (.int .i64 0)))⟩,
     ⟨(some 5), none, .op (.move (.const (.int .i64 0)))⟩])
   (.seq
    (.block 0
     (.seq
      (.region [⟨(some 10), none, .op (.move (.tmp 0))⟩,
        ⟨(some 11), none, .op (.bin .eql (.tmp 10) (.const (.str ⟨#[]⟩)))⟩,
        ⟨(some 9), none, .op (.move (.tmp 11))⟩])
      (.cond (.tmp 9)
       (.seq
        (.region [⟨(some 2), none, .op (.move (.const (.int .i64 0)))⟩,
          ⟨(some 3), none, .op (.move (.const (.int .i64 0)))⟩,
          ⟨(some 4), none, .op (.move (.const (.int .i64 0)))⟩,
          ⟨(some 5), none, .op (.move (.const (.int .i64 92)))⟩])
        (.ret))
       (.seq
        (.region [⟨(some 13), none, .op (.move (.tmp 0))⟩,
          ⟨(some 14), none, .op (.idxStr (.tmp 13) (.const (.int .i64 0)))⟩,
          ⟨(some 15), none, .op (.toInt .i64 (.tmp 14))⟩,
          ⟨(some 16), none, .call 51 [(.tmp 15)]⟩,
          ⟨(some 17), none, .op (.un .not (.tmp 16))⟩,
          ⟨(some 12), none, .op (.move (.tmp 17))⟩])
        (.cond (.tmp 12)
         (.seq
          (.region [⟨(some 2), none, .op (.move (.const (.int .i64 0)))⟩,
            ⟨(some 3), none, .op (.move (.const (.int .i64 0)))⟩,
            ⟨(some 4), none, .op (.move (.const (.int .i64 0)))⟩,
            ⟨(some 5), none, .op (.move (.const (.int .i64 90)))⟩])
          (.ret))
         (.seq
          (.region [⟨(some 19), none, .op (.move (.tmp 0))⟩,
            ⟨(some 20), none, .op (.lenStr (.tmp 19))⟩,
            ⟨(some 21), none, .op (.bin .lss (.tmp 20) (.const (.int .i64 2)))⟩,
            ⟨(some 18), none, .op (.move (.tmp 21))⟩])
          (.cond (.tmp 18)
           (.seq
            (.region [⟨(some 2), none, .op (.move (.const (.int .i64 0)))⟩,
              ⟨(some 3), none, .op (.move (.const (.int .i64 0)))⟩,
              ⟨(some 4), none, .op (.move (.const (.int .i64 0)))⟩,
              ⟨(some 5), none, .op (.move (.const (.int .i64 92)))⟩])
            (.ret))
           (.skip))))))))
    (.seq
     (.region [⟨(some 6), none, .op (.move (.const (.int .i64 0)))⟩])
     (.seq
      (.seq
       (.region [⟨(some 22), none, .op (.move (.tmp 0))⟩,
         ⟨(some 23), none, .op (.idxStr (.tmp 22) (.const (.int .i64 1)))⟩,
         ⟨(some 24), none, .op (.toInt .i64 (.tmp 23))⟩,
         ⟨(some 7), none, .op (.move (.tmp 24))⟩])
       (.block 1
        (.seq
         (.region [⟨(some 28), none, .op (.move (.tmp 7))⟩,
           ⟨(some 29), none, .op (.bin .lss (.tmp 28) (.const (.int .i64 128)))⟩,
           ⟨(some 27), none, .op (.move (.tmp 29))⟩])
         (.cond (.tmp 27)
          (.region [⟨(some 30), none, .op (.move (.tmp 7))⟩,
            ⟨(some 3), none, .op (.move (.tmp 30))⟩])
          (.seq
           (.region [⟨(some 32), none, .op (.move (.tmp 7))⟩,
             ⟨(some 33), none, .op (.bin .eql (.tmp 32) (.const (.int .i64 128)))⟩,
             ⟨(some 34), none, .op (.move (.tmp 33))⟩,
             ⟨(some 35), some (34, false), .op (.move (.tmp 7))⟩,
             ⟨(some 36), some (34, false), .op (.bin .gtr (.tmp 35) (.const (.int .i64 130)))⟩,
             ⟨(some 37), none, .op (.pick (.tmp 34) (.const (.bool true)) (.tmp 36))⟩,
             ⟨(some 31), none, .op (.move (.tmp 37))⟩])
           (.cond (.tmp 31)
            (.seq
             (.region [⟨(some 2), none, .op (.move (.const (.int .i64 0)))⟩,
               ⟨(some 3), none, .op (.move (.const (.int .i64 0)))⟩,
               ⟨(some 4), none, .op (.move (.const (.int .i64 0)))⟩,
               ⟨(some 5), none, .op (.move (.const (.int .i64 90)))⟩])
             (.ret))
            (.region [⟨(some 25), none, .op (.move (.tmp 7))⟩,
              ⟨(some 26), none, .op (.bin .sub (.tmp 25) (.const (.int .i64 128)))⟩,
              ⟨(some 6), none, .op (.move (.tmp 26))⟩])))))))
      (.seq
       (.region [⟨(some 38), none, .op (.move (.tmp 6))⟩,
         ⟨(some 39), none, .op (.bin .add (.const (.int .i64 2)) (.tmp 38))⟩,
         ⟨(some 4), none, .op (.move (.tmp 39))⟩])
       (.seq
        (.seq
         (.region [⟨(some 40), none, .op (.move (.tmp 0))⟩,
           ⟨(some 41), none, .op (.lenStr (.tmp 40))⟩,
           ⟨(some 42), none, .op (.move (.tmp 4))⟩,
           ⟨(some 43), none, .op (.bin .lss (.tmp 41) (.tmp 42))⟩])
         (.cond (.tmp 43)
          (.seq
           (.region [⟨(some 2), none, .op (.move (.const (.int .i64 0)))⟩,
             ⟨(some 3), none, .op (.move (.const (.int .i64 0)))⟩,
             ⟨(some 4), none, .op (.move (.const (.int .i64 0)))⟩,
             ⟨(some 5), none, .op (.move (.const (.int .i64 92)))⟩])
           (.ret))
          (.skip)))
        (.seq
         (.seq
          (.region [⟨(some 44), none, .op (.move (.tmp 6))⟩,
            ⟨(some 45), none, .op (.move (.const (.int .i64 0)))⟩])
          (.block 2
           (.loop
            (.seq
             (.region [⟨(some 46), none, .op (.bin .lss (.tmp 45) (.tmp 44))⟩])
             (.seq
              (.cond (.tmp 46)
               (.skip)
               (.exit 2))
              (.seq
               (.block 3
                (.seq
                 (.region [⟨(some 47), none, .op (.move (.tmp 45))⟩,
                   ⟨(some 8), none, .op (.move (.tmp 47))⟩])
                 (.region [⟨(some 48), none, .op (.move (.tmp 3))⟩,
                   ⟨(some 49), none, .op (.shc true 256 .i64 (.tmp 48))⟩,
                   ⟨(some 50), none, .op (.move (.tmp 0))⟩,
                   ⟨(some 51), none, .op (.move (.tmp 8))⟩,
                   ⟨(some 52), none, .op (.bin .add (.const (.int .i64 2)) (.tmp 51))⟩,
                   ⟨(some 53), none, .op (.idxStr (.tmp 50) (.tmp 52))⟩,
                   ⟨(some 54), none, .op (.toInt .i64 (.tmp 53))⟩,
                   ⟨(some 55), none, .op (.bin .or (.tmp 49) (.tmp 54))⟩,
                   ⟨(some 3), none, .op (.move (.tmp 55))⟩])))
               (.region [⟨(some 56), none, .op (.bin .add (.tmp 45) (.const (.int .i64 1)))⟩,
                 ⟨(some 45), none, .op (.move (.tmp 56))⟩])))))))
         (.seq
          (.block 4
           (.seq
            (.region [⟨(some 58), none, .op (.move (.tmp 3))⟩,
              ⟨(some 59), none, .call 52 [(.tmp 58)]⟩,
              ⟨(some 60), none, .op (.lenStr (.tmp 59))⟩,
              ⟨(some 61), none, .op (.move (.tmp 6))⟩,
              ⟨(some 62), none, .op (.bin .add (.const (.int .i64 1)) (.tmp 61))⟩,
              ⟨(some 63), none, .op (.bin .neq (.tmp 60) (.tmp 62))⟩,
              ⟨(some 57), none, .op (.move (.tmp 63))⟩])
            (.cond (.tmp 57)
             (.seq
              (.region [⟨(some 2), none, .op (.move (.const (.int .i64 0)))⟩,
                ⟨(some 3), none, .op (.move (.const (.int .i64 0)))⟩,
                ⟨(some 4), none, .op (.move (.const (.int .i64 0)))⟩,
                ⟨(some 5), none, .op (.move (.const (.int .i64 90)))⟩])
              (.ret))
             (.seq
              (.region [⟨(some 65), none, .op (.move (.tmp 3))⟩,
                ⟨(some 66), none, .op (.bin .gtr (.tmp 65) (.const (.int .i64 4000)))⟩,
                ⟨(some 64), none, .op (.move (.tmp 66))⟩])
              (.cond (.tmp 64)
               (.seq
                (.region [⟨(some 2), none, .op (.move (.const (.int .i64 0)))⟩,
                  ⟨(some 3), none, .op (.move (.const (.int .i64 0)))⟩,
                  ⟨(some 4), none, .op (.move (.const (.int .i64 0)))⟩,
                  ⟨(some 5), none, .op (.move (.const (.int .i64 2)))⟩])
                (.ret))
               (.skip))))))
          (.seq
           (.region [⟨(some 67), none, .op (.move (.tmp 0))⟩,
             ⟨(some 68), none, .op (.idxStr (.tmp 67) (.const (.int .i64 0)))⟩,
             ⟨(some 69), none, .op (.toInt .i64 (.tmp 68))⟩,
             ⟨(some 70), none, .op (.move (.tmp 3))⟩,
             ⟨(some 71), none, .op (.move (.tmp 4))⟩,
             ⟨(some 2), none, .op (.move (.tmp 69))⟩,
             ⟨(some 3), none, .op (.move (.tmp 70))⟩,
             ⟨(some 4), none, .op (.move (.tmp 71))⟩,
             ⟨(some 5), none, .op (.move (.const (.int .i64 0)))⟩])
           (.ret)))))))))
def r30 : List LRes := [.tmp 2, .tmp 3, .tmp 4, .tmp 5]
theorem body30 : Try.f30.body.bind (compileC Try.prog) = some c30 := by kernel_rfl
theorem res30 : compileRes Try.prog Try.f30.results.toList = some r30 := by kernel_rfl
theorem has30 : hasBody Try.prog 30 = true := by kernel_rfl
theorem enter30 {args : LVals} {h : LHeap} {R : LEnd → LHeap → Prop} (hk : 72 - lvsLen args = 71) (hw : initK args 71 fun t => lwp Try.prog h.length c30 (bodyQ r30 R) t h) : LCalls Try.prog 30 args h R := LCalls.enter Try.func30 body30 has30 res30 _ (by rw [Try.ntmps30]; exact hk) hw
/-- palatine/palatineref09.Head -/
def c31 : LCode :=
  .seq
   (.region [⟨(some 2), none, .op (.move (.const (.int .i64 0)))⟩,
     ⟨(some 3), none, .op (.move (.const (.int .i64 0)))⟩,
     ⟨(some 4), none, .op (.move (.const (.int .i64 0)))⟩,
     ⟨(some 5), none, .op (.move (.const (.int .i64 0)))⟩])
   (.seq
    (.seq
     (.region [⟨(some 10), none, .op (.move (.tmp 0))⟩,
       ⟨(some 11), none, .op (.lenStr (.tmp 10))⟩,
       ⟨(some 12), none, .op (.bin .eql (.tmp 11) (.const (.int .i64 0)))⟩])
     (.cond (.tmp 12)
      (.seq
       (.region [⟨(some 2), none, .op (.move (.const (.int .i64 0)))⟩,
         ⟨(some 3), none, .op (.move (.const (.int .i64 0)))⟩,
         ⟨(some 4), none, .op (.move (.const (.int .i64 0)))⟩,
         ⟨(some 5), none, .op (.move (.const (.int .i64 92)))⟩])
       (.ret))
      (.skip)))
    (.seq
     (.region [⟨(some 13), none, .op (.move (.tmp 0))⟩,
       ⟨(some 14), none, .op (.idxStr (.tmp 13) (.const (.int .i64 0)))⟩,
       ⟨(some 15), none, .op (.toInt .i64 (.tmp 14))⟩,
       ⟨(some 16), none, .call 53 [(.tmp 15)]⟩,
       ⟨(some 6), none, .op (.move (.tmp 16))⟩])
     (.seq
      (.seq
       (.region [⟨(some 17), none, .op (.move (.tmp 6))⟩,
         ⟨(some 18), none, .op (.un .not (.tmp 17))⟩])
       (.cond (.tmp 18)
        (.seq
         (.region [⟨(some 2), none, .op (.move (.const (.int .i64 0)))⟩,
           ⟨(some 3), none, .op (.move (.const (.int .i64 0)))⟩,
           ⟨(some 4), none, .op (.move (.const (.int .i64 0)))⟩,
           ⟨(some 5), none, .op (.move (.const (.int .i64 90)))⟩])
         (.ret))
        (.skip)))
      (.seq
       (.seq
        (.region [⟨(some 19), none, .op (.move (.tmp 0))⟩,
          ⟨(some 20), none, .op (.lenStr (.tmp 19))⟩,
          ⟨(some 21), none, .op (.bin .eql (.tmp 20) (.const (.int .i64 1)))⟩])
        (.cond (.tmp 21)
         (.seq
          (.region [⟨(some 2), none, .op (.move (.const (.int .i64 0)))⟩,
            ⟨(some 3), none, .op (.move (.const (.int .i64 0)))⟩,
            ⟨(some 4), none, .op (.move (.const (.int .i64 0)))⟩,
            ⟨(some 5), none, .op (.move (.const (.int .i64 92)))⟩])
          (.ret))
         (.skip)))
       (.seq
        (.seq
         (.region [⟨(some 22), none, .op (.move (.tmp 0))⟩,
           ⟨(some 23), none, .op (.idxStr (.tmp 22) (.const (.int .i64 1)))⟩,
           ⟨(some 24), none, .op (.bin .lss (.tmp 23) (.const (.int .u8 128)))⟩])
         (.cond (.tmp 24)
          (.seq
           (.draws [(0, [], ⟨(some 25), none, .op (.move (.tmp 0))⟩),
             (1, [], ⟨(some 26), none, .op (.idxStr (.tmp 25) (.const (.int .i64 0)))⟩),
             (2, [], ⟨(some 27), none, .op (.toInt .i64 (.tmp 26))⟩),
             (3, [0, 1, 2], ⟨(some 28), none, .op (.move (.tmp 0))⟩),
             (4, [0, 1, 2], ⟨(some 29), none, .op (.idxStr (.tmp 28) (.const (.int .i64 1)))⟩),
             (5, [0, 1, 2], ⟨(some 30), none, .op (.toInt .i64 (.tmp 29))⟩),
             (6, [3, 4, 5], ⟨(some 2), none, .op (.move (.tmp 27))⟩),
             (7, [], ⟨(some 3), none, .op (.move (.tmp 30))⟩),
             (8, [], ⟨(some 4), none, .op (.move (.const (.int .i64 2)))⟩),
             (9, [], ⟨(some 5), none, .op (.move (.const (.int .i64 0)))⟩)])
           (.ret))
          (.skip)))
        (.seq
         (.seq
          (.region [⟨(some 31), none, .op (.move (.tmp 0))⟩,
            ⟨(some 32), none, .op (.idxStr (.tmp 31) (.const (.int .i64 1)))⟩,
            ⟨(some 33), none, .op (.bin .neq (.tmp 32) (.const (.int .u8 129)))⟩,
            ⟨(some 34), none, .op (.move (.tmp 33))⟩,
            ⟨(some 35), some (34, true), .op (.move (.tmp 0))⟩,
            ⟨(some 36), some (34, true), .op (.idxStr (.tmp 35) (.const (.int .i64 1)))⟩,
            ⟨(some 37), some (34, true), .op (.bin .neq (.tmp 36) (.const (.int .u8 130)))⟩,
            ⟨(some 38), none, .op (.pick (.tmp 34) (.tmp 37) (.const (.bool false)))⟩])
          (.cond (.tmp 38)
           (.seq
            (.region [⟨(some 2), none, .op (.move (.const (.int .i64 0)))⟩,
              ⟨(some 3), none, .op (.move (.const (.int .i64 0)))⟩,
              ⟨(some 4), none, .op (.move (.const (.int .i64 0)))⟩,
              ⟨(some 5), none, .op (.move (.const (.int .i64 90)))⟩])
            (.ret))
           (.skip)))
         (.seq
          (.region [⟨(some 39), none, .op (.move (.tmp 0))⟩,
            ⟨(some 40), none, .op (.idxStr (.tmp 39) (.const (.int .i64 1)))⟩,
            ⟨(some 41), none, .op (.toInt .i64 (.tmp 40))⟩,
            ⟨(some 42), none, .op (.bin .sub (.tmp 41) (.const (.int .i64 126)))⟩,
            ⟨(some 7), none, .op (.move (.tmp 42))⟩])
          (.seq
           (.seq
            (.region [⟨(some 43), none, .op (.move (.tmp 0))⟩,
              ⟨(some 44), none, .op (.lenStr (.tmp 43))⟩,
              ⟨(some 45), none, .op (.move (.tmp 7))⟩,
              ⟨(some 46), none, .op (.bin .lss (.tmp 44) (.tmp 45))⟩])
            (.cond (.tmp 46)
             (.seq
              (.region [⟨(some 2), none, .op (.move (.const (.int .i64 0)))⟩,
                ⟨(some 3), none, .op (.move (.const (.int .i64 0)))⟩,
                ⟨(some 4), none, .op (.move (.const (.int .i64 0)))⟩,
                ⟨(some 5), none, .op (.move (.const (.int .i64 92)))⟩])
              (.ret))
             (.skip)))
           (.seq
            (.region [⟨(some 47), none, .op (.move (.tmp 0))⟩,
              ⟨(some 48), none, .op (.idxStr (.tmp 47) (.const (.int .i64 2)))⟩,
              ⟨(some 49), none, .op (.toInt .i64 (.tmp 48))⟩,
              ⟨(some 8), none, .op (.move (.tmp 49))⟩])
            (.seq
             (.region [⟨(some 9), none, .op (.move (.const (.int .i64 128)))⟩])
             (.seq
              (.seq
               (.region [⟨(some 50), none, .op (.move (.tmp 7))⟩,
                 ⟨(some 51), none, .op (.bin .eql (.tmp 50) (.const (.int .i64 4)))⟩])
               (.cond (.tmp 51)
                (.seq
                 (.region [⟨(some 52), none, .op (.move (.tmp 8))⟩,
                   ⟨(some 53), none, .op (.bin .mul (.const (.int .i64 256)) (.tmp 52))⟩,
                   ⟨(some 54), none, .op (.move (.tmp 0))⟩,
                   ⟨(some 55), none, .op (.idxStr (.tmp 54) (.const (.int .i64 3)))⟩,
                   ⟨(some 56), none, .op (.toInt .i64 (.tmp 55))⟩,
                   ⟨(some 57), none, .op (.bin .add (.tmp 53) (.tmp 56))⟩,
                   ⟨(some 8), none, .op (.move (.tmp 57))⟩])
                 (.region [⟨(some 9), none, .op (.move (.const (.int .i64 256)))⟩]))
                (.skip)))
              (.seq
               (.seq
                (.region [⟨(some 58), none, .op (.move (.tmp 8))⟩,
                  ⟨(some 59), none, .op (.move (.tmp 9))⟩,
                  ⟨(some 60), none, .op (.bin .lss (.tmp 58) (.tmp 59))⟩])
                (.cond (.tmp 60)
                 (.seq
                  (.region [⟨(some 2), none, .op (.move (.const (.int .i64 0)))⟩,
                    ⟨(some 3), none, .op (.move (.const (.int .i64 0)))⟩,
                    ⟨(some 4), none, .op (.move (.const (.int .i64 0)))⟩,
                    ⟨(some 5), none, .op (.move (.const (.int .i64 90)))⟩])
                  (.ret))
                 (.skip)))
               (.seq
                (.seq
                 (.region [⟨(some 61), none, .op (.move (.tmp 8))⟩,
                   ⟨(some 62), none, .op (.bin .gtr (.tmp 61) (.const (.int .i64 4000)))⟩])
                 (.cond (.tmp 62)
                  (.seq
                   (.region [⟨(some 2), none, .op (.move (.const (.int .i64 0)))⟩,
                     ⟨(some 3), none, .op (.move (.const (.int .i64 0)))⟩,
                     ⟨(some 4), none, .op (.move (.const (.int .i64 0)))⟩,
                     ⟨(some 5), none, .op (.move (.const (.int .i64 2)))⟩])
                   (.ret))
                  (.skip)))
                (.seq
                 (.region [⟨(some 63), none, .op (.move (.tmp 0))⟩,
                   ⟨(some 64), none, .op (.idxStr (.tmp 63) (.const (.int .i64 0)))⟩,
                   ⟨(some 65), none, .op (.toInt .i64 (.tmp 64))⟩,
                   ⟨(some 66), none, .op (.move (.tmp 8))⟩,
                   ⟨(some 67), none, .op (.move (.tmp 7))⟩,
                   ⟨(some 2), none, .op (.move (.tmp 65))⟩,
                   ⟨(some 3), none, .op (.move (.tmp 66))⟩,
                   ⟨(some 4), none, .op (.move (.tmp 67))⟩,
                   ⟨(some 5), none, .op (.move (.const (.int .i64 0)))⟩])
                 (.ret)))))))))))))))
def r31 : List LRes := [.tmp 2, .tmp 3, .tmp 4, .tmp 5]
theorem body31 : Try.f31.body.bind (compileC Try.prog) = some c31 := by kernel_rfl
theorem res31 : compileRes Try.prog Try.f31.results.toList = some r31 := by kernel_rfl
theorem has31 : hasBody Try.prog 31 = true := by kernel_rfl
theorem enter31 {args : LVals} {h : LHeap} {R : LEnd → LHeap → Prop} (hk : 68 - lvsLen args = 67) (hw : initK args 67 fun t => lwp Try.prog h.length c31 (bodyQ r31 R) t h) : LCalls Try.prog 31 args h R := LCalls.enter Try.func31 body31 has31 res31 _ (by rw [Try.ntmps31]; exact hk) hw
/-- palatine/ber.Int -/
def c32 : LCode :=
  .seq
   (.region [⟨(some 2), none, .op (.move (.const (.str ⟨#[]⟩)))⟩])
   (.seq
    (.region [⟨(some 4), none, .op (.move (.tmp 0))⟩,
      ⟨(some 5), none, .op (.toInt .u8 (.tmp 4))⟩,
      ⟨(some 6), none, .op (.bsl 1 1 5 (.one (.int .u8 0) .nil) [(0, (.tmp 5))])⟩,
      ⟨(some 3), none, .op (.move (.tmp 6))⟩])
    (.seq
     (.seq
      (.region [⟨(some 7), none, .op (.move (.tmp 0))⟩,
        ⟨(some 8), none, .op (.shc false 128 .i64 (.tmp 7))⟩,
        ⟨(some 0), none, .op (.move (.tmp 8))⟩])
      (.block 0
       (.loop
        (.seq
         (.seq
          (.region [⟨(some 9), none, .op (.move (.tmp 0))⟩,
            ⟨(some 10), none, .op (.bin .neq (.tmp 9) (.const (.int .i64 0)))⟩,
            ⟨(some 11), none, .op (.move (.tmp 10))⟩,
            ⟨(some 12), some (11, true), .op (.move (.tmp 0))⟩,
            ⟨(some 13), some (11, true), .op (.bin .neq (.tmp 12) (.const (.int .i64 (-1))))⟩,
            ⟨(some 14), none, .op (.pick (.tmp 11) (.tmp 13) (.const (.bool false)))⟩])
          (.cond (.tmp 14)
           (.skip)
           (.exit 0)))
         (.seq
          (.block 1
           (.region [⟨(some 17), none, .op (.move (.tmp 0))⟩,
             ⟨(some 18), none, .op (.shc false 2 .i64 (.tmp 17))⟩,
             ⟨(some 19), none, .op (.toInt .u8 (.tmp 18))⟩,
             ⟨(some 20), none, .op (.bsl 1 1 5 (.one (.int .u8 0) .nil) [(0, (.tmp 19))])⟩,
             ⟨(some 21), none, .op (.move (.tmp 3))⟩,
             ⟨(some 22), none, .op (.app 1 1 5 (.tmp 20) (.tmp 21))⟩,
             ⟨(some 3), none, .op (.move (.tmp 22))⟩]))
          (.region [⟨(some 15), none, .op (.move (.tmp 0))⟩,
            ⟨(some 16), none, .op (.shc false 256 .i64 (.tmp 15))⟩,
            ⟨(some 0), none, .op (.move (.tmp 16))⟩]))))))
     (.seq
      (.region [⟨(some 23), none, .op (.move (.tmp 3))⟩,
        ⟨(some 24), none, .op (.toStr (.tmp 23))⟩,
        ⟨(some 2), none, .op (.move (.tmp 24))⟩])
      (.ret))))
def r32 : List LRes := [.tmp 2]
theorem body32 : Try.f32.body.bind (compileC Try.prog) = some c32 := by kernel_rfl
theorem res32 : compileRes Try.prog Try.f32.results.toList = some r32 := by kernel_rfl
theorem has32 : hasBody Try.prog 32 = true := by kernel_rfl
theorem enter32 {args : LVals} {h : LHeap} {R : LEnd → LHeap → Prop} (hk : 25 - lvsLen args = 24) (hw : initK args 24 fun t => lwp Try.prog h.length c32 (bodyQ r32 R) t h) : LCalls Try.prog 32 args h R := LCalls.enter Try.func32 body32 has32 res32 _ (by rw [Try.ntmps32]; exact hk) hw
/-- palatine/ber.Number -/
def c33 : LCode :=
  .seq
   (.region [⟨(some 2), none, .op (.move (.const (.int .i64 0)))⟩,
     ⟨(some 3), none, .op (.move (.const (.bool false)))⟩])
   (.seq
    (.seq
     (.region [⟨(some 6), none, .op (.move (.tmp 0))⟩,
       ⟨(some 7), none, .op (.bin .eql (.tmp 6) (.const (.str ⟨#[]⟩)))⟩,
       ⟨(some 8), none, .op (.move (.tmp 7))⟩,
       ⟨(some 9), some (8, false), .op (.move (.tmp 0))⟩,
       ⟨(some 10), some (8, false), .op (.lenStr (.tmp 9))⟩,
       ⟨(some 11), some (8, false), .op (.bin .gtr (.tmp 10) (.const (.int .i64 4)))⟩,
       ⟨(some 12), none, .op (.pick (.tmp 8) (.const (.bool true)) (.tmp 11))⟩])
     (.cond (.tmp 12)
      (.seq
       (.region [⟨(some 2), none, .op (.move (.const (.int .i64 0)))⟩,
         ⟨(some 3), none, .op (.move (.const (.bool false)))⟩])
       (.ret))
      (.skip)))
    (.seq
     (.region [⟨(some 13), none, .op (.move (.tmp 0))⟩,
       ⟨(some 14), none, .op (.idxStr (.tmp 13) (.const (.int .i64 0)))⟩,
       ⟨(some 15), none, .op (.toInt .i8 (.tmp 14))⟩,
       ⟨(some 16), none, .op (.toInt .i64 (.tmp 15))⟩,
       ⟨(some 4), none, .op (.move (.tmp 16))⟩])
     (.seq
      (.seq
       (.region [⟨(some 5), none, .op (.move (.const (.int .i64 1)))⟩])
       (.block 0
        (.loop
         (.seq
          (.seq
           (.region [⟨(some 17), none, .op (.move (.tmp 5))⟩,
             ⟨(some 18), none, .op (.move (.tmp 0))⟩,
             ⟨(some 19), none, .op (.lenStr (.tmp 18))⟩,
             ⟨(some 20), none, .op (.bin .lss (.tmp 17) (.tmp 19))⟩])
           (.cond (.tmp 20)
            (.skip)
            (.exit 0)))
          (.seq
           (.block 1
            (.region [⟨(some 23), none, .op (.move (.tmp 4))⟩,
              ⟨(some 24), none, .op (.shc true 256 .i64 (.tmp 23))⟩,
              ⟨(some 25), none, .op (.move (.tmp 0))⟩,
              ⟨(some 26), none, .op (.move (.tmp 5))⟩,
              ⟨(some 27), none, .op (.idxStr (.tmp 25) (.tmp 26))⟩,
              ⟨(some 28), none, .op (.toInt .i64 (.tmp 27))⟩,
              ⟨(some 29), none, .op (.bin .or (.tmp 24) (.tmp 28))⟩,
              ⟨(some 4), none, .op (.move (.tmp 29))⟩]))
           (.region [⟨(some 21), none, .op (.move (.tmp 5))⟩,
             ⟨(some 22), none, .op (.bin .add (.tmp 21) (.const (.int .i64 1)))⟩,
             ⟨(some 5), none, .op (.move (.tmp 22))⟩]))))))
      (.seq
       (.seq
        (.region [⟨(some 30), none, .op (.move (.tmp 4))⟩,
          ⟨(some 31), none, .call 32 [(.tmp 30)]⟩,
          ⟨(some 32), none, .op (.move (.tmp 0))⟩,
          ⟨(some 33), none, .op (.bin .neq (.tmp 31) (.tmp 32))⟩])
        (.cond (.tmp 33)
         (.seq
          (.region [⟨(some 2), none, .op (.move (.const (.int .i64 0)))⟩,
            ⟨(some 3), none, .op (.move (.const (.bool false)))⟩])
          (.ret))
         (.skip)))
       (.seq
        (.region [⟨(some 34), none, .op (.move (.tmp 4))⟩,
          ⟨(some 2), none, .op (.move (.tmp 34))⟩,
          ⟨(some 3), none, .op (.move (.const (.bool true)))⟩])
        (.ret))))))
def r33 : List LRes := [.tmp 2, .tmp 3]
theorem body33 : Try.f33.body.bind (compileC Try.prog) = some c33 := by kernel_rfl
theorem res33 : compileRes Try.prog Try.f33.results.toList = some r33 := by kernel_rfl
theorem has33 : hasBody Try.prog 33 = true := by kernel_rfl
theorem enter33 {args : LVals} {h : LHeap} {R : LEnd → LHeap → Prop} (hk : 35 - lvsLen args = 34) (hw : initK args 34 fun t => lwp Try.prog h.length c33 (bodyQ r33 R) t h) : LCalls Try.prog 33 args h R := LCalls.enter Try.func33 body33 has33 res33 _ (by rw [Try.ntmps33]; exact hk) hw
/-- palatine/palatineref09.Number -/
def c34 : LCode :=
  .seq
   (.region [⟨(some 2), none, .op (.move (.const (.int .i64 0)))⟩,
     ⟨(some 3), none, .op (.move (.const (.bool false)))⟩])
   (.seq
    (.seq
     (.region [⟨(some 6), none, .op (.move (.tmp 0))⟩,
       ⟨(some 7), none, .op (.lenStr (.tmp 6))⟩,
       ⟨(some 8), none, .op (.bin .lss (.tmp 7) (.const (.int .i64 1)))⟩,
       ⟨(some 9), none, .op (.move (.tmp 8))⟩,
       ⟨(some 10), some (9, false), .op (.move (.tmp 0))⟩,
       ⟨(some 11), some (9, false), .op (.lenStr (.tmp 10))⟩,
       ⟨(some 12), some (9, false), .op (.bin .gtr (.tmp 11) (.const (.int .i64 4)))⟩,
       ⟨(some 13), none, .op (.pick (.tmp 9) (.const (.bool true)) (.tmp 12))⟩])
     (.cond (.tmp 13)
      (.seq
       (.region [⟨(some 2), none, .op (.move (.const (.int .i64 0)))⟩,
         ⟨(some 3), none, .op (.move (.const (.bool false)))⟩])
       (.ret))
      (.skip)))
    (.seq
     (.region [⟨(some 4), none, .op (.move (.const (.int .i64 0)))⟩])
     (.seq
      (.seq
       (.region [⟨(some 5), none, .op (.move (.const (.int .i64 0)))⟩])
       (.block 0
        (.loop
         (.seq
          (.seq
           (.region [⟨(some 14), none, .op (.move (.tmp 5))⟩,
             ⟨(some 15), none, .op (.move (.tmp 0))⟩,
             ⟨(some 16), none, .op (.lenStr (.tmp 15))⟩,
             ⟨(some 17), none, .op (.bin .lss (.tmp 14) (.tmp 16))⟩])
           (.cond (.tmp 17)
            (.skip)
            (.exit 0)))
          (.seq
           (.block 1
            (.region [⟨(some 20), none, .op (.move (.tmp 4))⟩,
              ⟨(some 21), none, .op (.bin .mul (.const (.int .i64 256)) (.tmp 20))⟩,
              ⟨(some 22), none, .op (.move (.tmp 0))⟩,
              ⟨(some 23), none, .op (.move (.tmp 5))⟩,
              ⟨(some 24), none, .op (.idxStr (.tmp 22) (.tmp 23))⟩,
              ⟨(some 25), none, .op (.toInt .i64 (.tmp 24))⟩,
              ⟨(some 26), none, .op (.bin .add (.tmp 21) (.tmp 25))⟩,
              ⟨(some 4), none, .op (.move (.tmp 26))⟩]))
           (.region [⟨(some 18), none, .op (.move (.tmp 5))⟩,
             ⟨(some 19), none, .op (.bin .add (.tmp 18) (.const (.int .i64 1)))⟩,
             ⟨(some 5), none, .op (.move (.tmp 19))⟩]))))))
      (.seq
       (.seq
        (.region [⟨(some 27), none, .op (.move (.tmp 0))⟩,
          ⟨(some 28), none, .op (.idxStr (.tmp 27) (.const (.int .i64 0)))⟩,
          ⟨(some 29), none, .op (.bin .geq (.tmp 28) (.const (.int .u8 128)))⟩])
        (.cond (.tmp 29)
         (.region [⟨(some 30), none, .op (.move (.tmp 4))⟩,
           ⟨(some 31), none, .op (.move (.tmp 0))⟩,
           ⟨(some 32), none, .op (.lenStr (.tmp 31))⟩,
           ⟨(some 33), none, .op (.bin .mul (.const (.int .i64 8)) (.tmp 32))⟩,
           ⟨(some 34), none, .op (.bin .shl (.const (.int .i64 1)) (.tmp 33))⟩,
           ⟨(some 35), none, .op (.bin .sub (.tmp 30) (.tmp 34))⟩,
           ⟨(some 4), none, .op (.move (.tmp 35))⟩])
         (.skip)))
       (.seq
        (.seq
         (.region [⟨(some 36), none, .op (.move (.tmp 0))⟩,
           ⟨(some 37), none, .op (.lenStr (.tmp 36))⟩,
           ⟨(some 38), none, .op (.bin .gtr (.tmp 37) (.const (.int .i64 1)))⟩,
           ⟨(some 39), none, .op (.move (.tmp 38))⟩,
           ⟨(some 40), some (39, true), .op (.move (.tmp 0))⟩,
           ⟨(some 41), some (39, true), .op (.idxStr (.tmp 40) (.const (.int .i64 0)))⟩,
           ⟨(some 42), some (39, true), .op (.bin .eql (.tmp 41) (.const (.int .u8 0)))⟩,
           ⟨(some 43), some (39, true), .op (.move (.tmp 42))⟩,
           ⟨(some 44), some (43, true), .op (.move (.tmp 0))⟩,
           ⟨(some 45), some (43, true), .op (.idxStr (.tmp 44) (.const (.int .i64 1)))⟩,
           ⟨(some 46), some (43, true), .op (.bin .lss (.tmp 45) (.const (.int .u8 128)))⟩,
           ⟨(some 47), some (39, true), .op (.pick (.tmp 43) (.tmp 46) (.const (.bool false)))⟩,
           ⟨(some 48), some (39, true), .op (.move (.tmp 47))⟩,
           ⟨(some 49), some (48, false), .op (.move (.tmp 0))⟩,
           ⟨(some 50), some (48, false), .op (.idxStr (.tmp 49) (.const (.int .i64 0)))⟩,
           ⟨(some 51), some (48, false), .op (.bin .eql (.tmp 50) (.const (.int .u8 255)))⟩,
           ⟨(some 52), some (48, false), .op (.move (.tmp 51))⟩,
           ⟨(some 53), some (52, true), .op (.move (.tmp 0))⟩,
           ⟨(some 54), some (52, true), .op (.idxStr (.tmp 53) (.const (.int .i64 1)))⟩,
           ⟨(some 55), some (52, true), .op (.bin .geq (.tmp 54) (.const (.int .u8 128)))⟩,
           ⟨(some 56), some (48, false), .op (.pick (.tmp 52) (.tmp 55) (.const (.bool false)))⟩,
           ⟨(some 57), some (39, true), .op (.pick (.tmp 48) (.const (.bool true)) (.tmp 56))⟩,
           ⟨(some 58), none, .op (.pick (.tmp 39) (.tmp 57) (.const (.bool false)))⟩])
         (.cond (.tmp 58)
          (.seq
           (.region [⟨(some 2), none, .op (.move (.const (.int .i64 0)))⟩,
             ⟨(some 3), none, .op (.move (.const (.bool false)))⟩])
           (.ret))
          (.skip)))
        (.seq
         (.region [⟨(some 59), none, .op (.move (.tmp 4))⟩,
           ⟨(some 2), none, .op (.move (.tmp 59))⟩,
           ⟨(some 3), none, .op (.move (.const (.bool true)))⟩])
         (.ret)))))))
def r34 : List LRes := [.tmp 2, .tmp 3]
theorem body34 : Try.f34.body.bind (compileC Try.prog) = some c34 := by kernel_rfl
theorem res34 : compileRes Try.prog Try.f34.results.toList = some r34 := by kernel_rfl
theorem has34 : hasBody Try.prog 34 = true := by kernel_rfl
theorem enter34 {args : LVals} {h : LHeap} {R : LEnd → LHeap → Prop} (hk : 60 - lvsLen args = 59) (hw : initK args 59 fun t => lwp Try.prog h.length c34 (bodyQ r34 R) t h) : LCalls Try.prog 34 args h R := LCalls.enter Try.func34 body34 has34 res34 _ (by rw [Try.ntmps34]; exact hk) hw
/-- palatine/palatinelaw09.few -/
def c35 : LCode :=
  .seq
   (.region [⟨(some 2), none, .op (.box 40 3 (.tmp 0))⟩,
     ⟨(some 4), none, .op (.move (.const (.int .i64 0)))⟩])
   (.seq
    (.region [⟨(some 7), none, .op (.field 1 (.tmp 2))⟩,
      ⟨(some 8), none, .op (.load none (.tmp 7))⟩,
      ⟨(some 9), none, .op (.lenStr (.tmp 8))⟩,
      ⟨(some 10), none, .op (.bin .add (.const (.int .i64 1)) (.tmp 9))⟩,
      ⟨(some 5), none, .op (.move (.tmp 10))⟩])
    (.seq
     (.seq
      (.region [⟨(some 6), none, .op (.move (.const (.int .i64 0)))⟩])
      (.block 0
       (.loop
        (.seq
         (.seq
          (.region [⟨(some 11), none, .op (.move (.tmp 6))⟩,
            ⟨(some 12), none, .op (.field 2 (.tmp 2))⟩,
            ⟨(some 13), none, .op (.load none (.tmp 12))⟩,
            ⟨(some 14), none, .op (.lenSl (.tmp 13))⟩,
            ⟨(some 15), none, .op (.bin .lss (.tmp 11) (.tmp 14))⟩,
            ⟨(some 16), none, .op (.move (.tmp 15))⟩,
            ⟨(some 17), some (16, true), .op (.move (.tmp 5))⟩,
            ⟨(some 18), some (16, true), .op (.move (.tmp 1))⟩,
            ⟨(some 19), some (16, true), .op (.bin .leq (.tmp 17) (.tmp 18))⟩,
            ⟨(some 20), none, .op (.pick (.tmp 16) (.tmp 19) (.const (.bool false)))⟩])
          (.cond (.tmp 20)
           (.skip)
           (.exit 0)))
         (.seq
          (.block 1
           (.region [⟨(some 23), none, .op (.move (.tmp 5))⟩,
             ⟨(some 24), none, .op (.field 2 (.tmp 2))⟩,
             ⟨(some 25), none, .op (.load none (.tmp 24))⟩,
             ⟨(some 26), none, .op (.move (.tmp 6))⟩,
             ⟨(some 27), none, .op (.idxSl 3 (.tmp 25) (.tmp 26))⟩,
             ⟨(some 28), none, .op (.load (some 3) (.tmp 27))⟩,
             ⟨(some 29), none, .op (.move (.tmp 1))⟩,
             ⟨(some 30), none, .op (.move (.tmp 5))⟩,
             ⟨(some 31), none, .op (.bin .sub (.tmp 29) (.tmp 30))⟩,
             ⟨(some 32), none, .call 35 [(.tmp 28), (.tmp 31)]⟩,
             ⟨(some 33), none, .op (.bin .add (.tmp 23) (.tmp 32))⟩,
             ⟨(some 5), none, .op (.move (.tmp 33))⟩]))
          (.region [⟨(some 21), none, .op (.move (.tmp 6))⟩,
            ⟨(some 22), none, .op (.bin .add (.tmp 21) (.const (.int .i64 1)))⟩,
            ⟨(some 6), none, .op (.move (.tmp 22))⟩]))))))
     (.seq
      (.region [⟨(some 34), none, .op (.move (.tmp 5))⟩,
        ⟨(some 4), none, .op (.move (.tmp 34))⟩])
      (.ret))))
def r35 : List LRes := [.tmp 4]
theorem body35 : Try.f35.body.bind (compileC Try.prog) = some c35 := by kernel_rfl
theorem res35 : compileRes Try.prog Try.f35.results.toList = some r35 := by kernel_rfl
theorem has35 : hasBody Try.prog 35 = true := by kernel_rfl
theorem enter35 {args : LVals} {h : LHeap} {R : LEnd → LHeap → Prop} (hk : 35 - lvsLen args = 33) (hw : initK args 33 fun t => lwp Try.prog h.length c35 (bodyQ r35 R) t h) : LCalls Try.prog 35 args h R := LCalls.enter Try.func35 body35 has35 res35 _ (by rw [Try.ntmps35]; exact hk) hw
/-- palatine/palatineref09.Encode -/
def c36 : LCode :=
  .seq
   (.region [⟨(some 1), none, .op (.box 40 3 (.tmp 0))⟩,
     ⟨(some 2), none, .op (.move (.const (.str ⟨#[]⟩)))⟩,
     ⟨(some 3), none, .op (.move (.const (.int .i64 0)))⟩])
   (.seq
    (.region [⟨(some 8), none, .op (.load (some 3) (.tmp 1))⟩,
      ⟨(some 9), none, .call 54 [(.tmp 8), (.const (.int .i64 8))]⟩,
      ⟨(some 4), none, .op (.move (.tmp 9))⟩])
    (.seq
     (.seq
      (.region [⟨(some 10), none, .op (.move (.tmp 4))⟩,
        ⟨(some 11), none, .op (.un .not (.tmp 10))⟩])
      (.cond (.tmp 11)
       (.seq
        (.region [⟨(some 2), none, .op (.move (.const (.str ⟨#[]⟩)))⟩,
          ⟨(some 3), none, .op (.move (.const (.int .i64 91)))⟩])
        (.ret))
       (.skip)))
     (.seq
      (.region [⟨(some 12), none, .op (.load (some 3) (.tmp 1))⟩,
        ⟨(some 13), none, .call 55 [(.tmp 12)]⟩,
        ⟨(some 5), none, .op (.move (.tmp 13))⟩])
      (.seq
       (.seq
        (.region [⟨(some 14), none, .op (.move (.tmp 5))⟩,
          ⟨(some 15), none, .op (.un .not (.tmp 14))⟩])
        (.cond (.tmp 15)
         (.seq
          (.region [⟨(some 2), none, .op (.move (.const (.str ⟨#[]⟩)))⟩,
            ⟨(some 3), none, .op (.move (.const (.int .i64 90)))⟩])
          (.ret))
         (.skip)))
       (.seq
        (.region [⟨(some 17), none, .op (.load (some 3) (.tmp 1))⟩,
          ⟨(some 18), none, .call 56 [(.tmp 17)]⟩,
          ⟨(some 16), none, .op (.move (.tmp 18))⟩,
          ⟨(some 19), none, .op (.ext 0 (.tmp 16))⟩,
          ⟨(some 20), none, .op (.ext 1 (.tmp 16))⟩,
          ⟨(some 6), none, .op (.move (.tmp 19))⟩,
          ⟨(some 7), none, .op (.move (.tmp 20))⟩])
        (.seq
         (.seq
          (.region [⟨(some 21), none, .op (.move (.tmp 7))⟩,
            ⟨(some 22), none, .op (.un .not (.tmp 21))⟩])
          (.cond (.tmp 22)
           (.seq
            (.region [⟨(some 2), none, .op (.move (.const (.str ⟨#[]⟩)))⟩,
              ⟨(some 3), none, .op (.move (.const (.int .i64 2)))⟩])
            (.ret))
           (.skip)))
         (.seq
          (.region [⟨(some 23), none, .op (.move (.tmp 6))⟩,
            ⟨(some 24), none, .op (.toStr (.tmp 23))⟩,
            ⟨(some 2), none, .op (.move (.tmp 24))⟩,
            ⟨(some 3), none, .op (.move (.const (.int .i64 0)))⟩])
          (.ret))))))))
def r36 : List LRes := [.tmp 2, .tmp 3]
theorem body36 : Try.f36.body.bind (compileC Try.prog) = some c36 := by kernel_rfl
theorem res36 : compileRes Try.prog Try.f36.results.toList = some r36 := by kernel_rfl
theorem has36 : hasBody Try.prog 36 = true := by kernel_rfl
theorem enter36 {args : LVals} {h : LHeap} {R : LEnd → LHeap → Prop} (hk : 25 - lvsLen args = 24) (hw : initK args 24 fun t => lwp Try.prog h.length c36 (bodyQ r36 R) t h) : LCalls Try.prog 36 args h R := LCalls.enter Try.func36 body36 has36 res36 _ (by rw [Try.ntmps36]; exact hk) hw
/-- palatine/ber.Right -/
def c37 : LCode :=
  .seq
   (.region [⟨(some 1), none, .op (.box 40 3 (.tmp 0))⟩,
     ⟨(some 2), none, .op (.move (.const (.int .i64 0)))⟩])
   (.seq
    (.region [⟨(some 6), none, .op (.load (some 3) (.tmp 1))⟩,
      ⟨(some 7), none, .call 25 [(.tmp 6)]⟩,
      ⟨(some 5), none, .op (.move (.tmp 7))⟩,
      ⟨(some 8), none, .op (.ext 0 (.tmp 5))⟩,
      ⟨(some 9), none, .op (.ext 1 (.tmp 5))⟩,
      ⟨(some 3), none, .op (.move (.tmp 8))⟩,
      ⟨(some 4), none, .op (.move (.tmp 9))⟩])
    (.seq
     (.region [⟨(some 10), none, .op (.move (.tmp 4))⟩,
       ⟨(some 2), none, .op (.move (.tmp 10))⟩])
     (.ret)))
def r37 : List LRes := [.tmp 2]
theorem body37 : Try.f37.body.bind (compileC Try.prog) = some c37 := by kernel_rfl
theorem res37 : compileRes Try.prog Try.f37.results.toList = some r37 := by kernel_rfl
theorem has37 : hasBody Try.prog 37 = true := by kernel_rfl
theorem enter37 {args : LVals} {h : LHeap} {R : LEnd → LHeap → Prop} (hk : 11 - lvsLen args = 10) (hw : initK args 10 fun t => lwp Try.prog h.length c37 (bodyQ r37 R) t h) : LCalls Try.prog 37 args h R := LCalls.enter Try.func37 body37 has37 res37 _ (by rw [Try.ntmps37]; exact hk) hw
/-- palatine/ber.deep -/
def c44 : LCode :=
  .seq
   (.region [⟨(some 2), none, .op (.box 40 3 (.tmp 0))⟩,
     ⟨(some 3), none, .op (.box 3 1 (.tmp 1))⟩,
     ⟨(some 4), none, .op (.move (.const (.bool false)))⟩])
   (.seq
    (.region [⟨(some 5), none, .op (.load none (.tmp 3))⟩,
      ⟨(some 6), none, .op (.bin .gtr (.tmp 5) (.const (.int .i64 0)))⟩,
      ⟨(some 7), none, .op (.move (.tmp 6))⟩,
      ⟨(some 8), some (7, true), .op (.field 2 (.tmp 2))⟩,
      ⟨(some 9), some (7, true), .op (.load none (.tmp 8))⟩,
      ⟨(some 10), some (7, true), .op (.mkFunc 71 [(.tmp 3)])⟩,
      ⟨(some 11), some (7, true), .call 70 [(.tmp 9), (.tmp 10)]⟩,
      ⟨(some 12), some (7, true), .op (.un .not (.tmp 11))⟩,
      ⟨(some 13), none, .op (.pick (.tmp 7) (.tmp 12) (.const (.bool false)))⟩,
      ⟨(some 4), none, .op (.move (.tmp 13))⟩])
    (.ret))
def r44 : List LRes := [.tmp 4]
theorem body44 : Try.f44.body.bind (compileC Try.prog) = some c44 := by kernel_rfl
theorem res44 : compileRes Try.prog Try.f44.results.toList = some r44 := by kernel_rfl
theorem has44 : hasBody Try.prog 44 = true := by kernel_rfl
theorem enter44 {args : LVals} {h : LHeap} {R : LEnd → LHeap → Prop} (hk : 14 - lvsLen args = 12) (hw : initK args 12 fun t => lwp Try.prog h.length c44 (bodyQ r44 R) t h) : LCalls Try.prog 44 args h R := LCalls.enter Try.func44 body44 has44 res44 _ (by rw [Try.ntmps44]; exact hk) hw
/-- palatine/ber.caught -/
def c45 : LCode :=
  .block 0
   (.seq
    (.region [⟨(some 7), none, .op (.ifNil false (.tmp 5))⟩])
    (.cond (.tmp 7)
     (.region [⟨(some 2), none, .op (.move (.tmp 5))⟩])
     (.seq
      (.region [⟨(some 8), none, .op (.tyAs 107 (.tmp 5))⟩,
        ⟨(some 9), none, .op (.ext 1 (.tmp 8))⟩,
        ⟨(some 10), none, .op (.ext 0 (.tmp 8))⟩])
      (.cond (.tmp 9)
       (.seq
        (.region [⟨(some 3), none, .op (.alloc 107 (.one (.int .i64 0) .nil))⟩,
          ⟨none, none, .op (.store 1 (.tmp 3) (.tmp 10))⟩])
        (.region [⟨(some 11), none, .op (.move (.tmp 0))⟩,
          ⟨(some 12), none, .op (.field 0 (.tmp 3))⟩,
          ⟨(some 13), none, .op (.load none (.tmp 12))⟩,
          ⟨(some 14), none, .op (.nilc (.tmp 11))⟩,
          ⟨none, none, .op (.store 1 (.tmp 14) (.tmp 13))⟩]))
       (.seq
        (.region [⟨(some 4), none, .op (.move (.tmp 5))⟩])
        (.region [⟨(some 6), none, .op (.move (.tmp 4))⟩,
          ⟨none, none, .panic (.tmp 6)⟩]))))))
theorem body45 : Try.f45.body.bind (compileRec Try.prog) = some (5, c45) := by kernel_rfl
theorem res45 : compileRes Try.prog Try.f45.results.toList = some [] := by kernel_rfl
theorem has45 : hasBody Try.prog 45 = true := by kernel_rfl
theorem denter45 {args : LVals} {u : LMode} {h : LHeap} {K : LMode → LHeap → Prop} (hk : 15 - lvsLen args = 14) (hw : initK args 14 fun t => setK t 5 (recV u) fun t => lwp Try.prog h.length c45 (dQ K .returning) t h) : LCallsD Try.prog 45 args u h K := LCallsD.enterR Try.func45 body45 has45 res45 _ (by rw [Try.ntmps45]; exact hk) hw
/-- palatine/ber.shaped -/
def c46 : LCode :=
  .seq
   (.region [⟨(some 1), none, .op (.box 40 3 (.tmp 0))⟩])
   (.seq
    (.region [⟨(some 5), none, .op (.field 0 (.tmp 1))⟩,
      ⟨(some 6), none, .op (.load none (.tmp 5))⟩,
      ⟨(some 7), none, .op (.bin .and (.tmp 6) (.const (.int .i64 32)))⟩,
      ⟨(some 8), none, .op (.bin .neq (.tmp 7) (.const (.int .i64 0)))⟩,
      ⟨(some 2), none, .op (.move (.tmp 8))⟩])
    (.seq
     (.seq
      (.region [⟨(some 9), none, .op (.field 0 (.tmp 1))⟩,
        ⟨(some 10), none, .op (.load none (.tmp 9))⟩,
        ⟨(some 11), none, .call 51 [(.tmp 10)]⟩,
        ⟨(some 12), none, .op (.un .not (.tmp 11))⟩,
        ⟨(some 13), none, .op (.move (.tmp 12))⟩,
        ⟨(some 14), some (13, false), .op (.move (.tmp 2))⟩,
        ⟨(some 15), some (13, false), .op (.move (.tmp 14))⟩,
        ⟨(some 16), some (15, true), .op (.field 1 (.tmp 1))⟩,
        ⟨(some 17), some (15, true), .op (.load none (.tmp 16))⟩,
        ⟨(some 18), some (15, true), .op (.bin .neq (.tmp 17) (.const (.str ⟨#[]⟩)))⟩,
        ⟨(some 19), some (13, false), .op (.pick (.tmp 15) (.tmp 18) (.const (.bool false)))⟩,
        ⟨(some 20), none, .op (.pick (.tmp 13) (.const (.bool true)) (.tmp 19))⟩,
        ⟨(some 21), none, .op (.move (.tmp 20))⟩,
        ⟨(some 22), some (21, false), .op (.move (.tmp 2))⟩,
        ⟨(some 23), some (21, false), .op (.un .not (.tmp 22))⟩,
        ⟨(some 24), some (21, false), .op (.move (.tmp 23))⟩,
        ⟨(some 25), some (24, true), .op (.field 2 (.tmp 1))⟩,
        ⟨(some 26), some (24, true), .op (.load none (.tmp 25))⟩,
        ⟨(some 27), some (24, true), .op (.lenSl (.tmp 26))⟩,
        ⟨(some 28), some (24, true), .op (.bin .gtr (.tmp 27) (.const (.int .i64 0)))⟩,
        ⟨(some 29), some (21, false), .op (.pick (.tmp 24) (.tmp 28) (.const (.bool false)))⟩,
        ⟨(some 30), none, .op (.pick (.tmp 21) (.const (.bool true)) (.tmp 29))⟩])
      (.cond (.tmp 30)
       (.region [⟨(some 31), none, .op (.bst (.one (.int .i64 0) .nil) [(0, 1, (.const (.int .i64 90)))])⟩,
         ⟨(some 32), none, .op (.mkIface 107 (.tmp 31))⟩,
         ⟨none, none, .panic (.tmp 32)⟩])
       (.skip)))
     (.seq
      (.region [⟨(some 33), none, .op (.field 2 (.tmp 1))⟩,
        ⟨(some 34), none, .op (.load none (.tmp 33))⟩,
        ⟨(some 35), none, .op (.lenSl (.tmp 34))⟩,
        ⟨(some 36), none, .op (.move (.const (.int .i64 0)))⟩])
      (.block 0
       (.loop
        (.seq
         (.region [⟨(some 37), none, .op (.bin .lss (.tmp 36) (.tmp 35))⟩])
         (.seq
          (.cond (.tmp 37)
           (.skip)
           (.exit 0))
          (.seq
           (.block 1
            (.seq
             (.region [⟨(some 38), none, .op (.idxSl 3 (.tmp 34) (.tmp 36))⟩,
               ⟨(some 39), none, .op (.load (some 3) (.tmp 38))⟩,
               ⟨(some 4), none, .op (.alloc 40 (.one (.int .i64 0) (.one (.str ⟨#[]⟩) (.one (.slice ⟨0, [], 0⟩ 0 0 0 0 (some 0)) .nil))))⟩,
               ⟨none, none, .op (.store 3 (.tmp 4) (.tmp 39))⟩])
             (.region [⟨(some 40), none, .op (.load (some 3) (.tmp 4))⟩,
               ⟨(some 41), none, .call 46 [(.tmp 40)]⟩])))
           (.region [⟨(some 42), none, .op (.bin .add (.tmp 36) (.const (.int .i64 1)))⟩,
             ⟨(some 36), none, .op (.move (.tmp 42))⟩])))))))))
def r46 : List LRes := []
theorem body46 : Try.f46.body.bind (compileC Try.prog) = some c46 := by kernel_rfl
theorem res46 : compileRes Try.prog Try.f46.results.toList = some r46 := by kernel_rfl
theorem has46 : hasBody Try.prog 46 = true := by kernel_rfl
theorem enter46 {args : LVals} {h : LHeap} {R : LEnd → LHeap → Prop} (hk : 43 - lvsLen args = 42) (hw : initK args 42 fun t => lwp Try.prog h.length c46 (bodyQ r46 R) t h) : LCalls Try.prog 46 args h R := LCalls.enter Try.func46 body46 has46 res46 _ (by rw [Try.ntmps46]; exact hk) hw
theorem denter46 {args : LVals} {u : LMode} {h : LHeap} {K : LMode → LHeap → Prop} (hk : 43 - lvsLen args = 42) (hw : initK args 42 fun t => lwp Try.prog h.length c46 (dQ K u) t h) : LCallsD Try.prog 46 args u h K := LCallsD.enter Try.func46 body46 has46 res46 _ (by rw [Try.ntmps46]; exact hk) hw
/-- palatine/ber.write -/
def c47 : LCode :=
  .seq
   (.region [⟨(some 1), none, .op (.box 40 3 (.tmp 0))⟩,
     ⟨(some 2), none, .op (.move (.const (.str ⟨#[]⟩)))⟩])
   (.seq
    (.region [⟨(some 7), none, .op (.field 1 (.tmp 1))⟩,
      ⟨(some 8), none, .op (.load none (.tmp 7))⟩,
      ⟨(some 3), none, .op (.move (.tmp 8))⟩])
    (.seq
     (.seq
      (.region [⟨(some 9), none, .op (.field 2 (.tmp 1))⟩,
        ⟨(some 10), none, .op (.load none (.tmp 9))⟩,
        ⟨(some 11), none, .op (.lenSl (.tmp 10))⟩,
        ⟨(some 12), none, .op (.bin .gtr (.tmp 11) (.const (.int .i64 0)))⟩])
      (.cond (.tmp 12)
       (.seq
        (.region [⟨(some 4), none, .op (.alloc 110 (.one .nilp (.one (.slice ⟨0, [], 0⟩ 0 0 0 0 (some 0)) .nil)))⟩])
        (.seq
         (.seq
          (.region [⟨(some 13), none, .op (.field 2 (.tmp 1))⟩,
            ⟨(some 14), none, .op (.load none (.tmp 13))⟩,
            ⟨(some 15), none, .op (.lenSl (.tmp 14))⟩,
            ⟨(some 16), none, .op (.move (.const (.int .i64 0)))⟩])
          (.block 0
           (.loop
            (.seq
             (.region [⟨(some 17), none, .op (.bin .lss (.tmp 16) (.tmp 15))⟩])
             (.seq
              (.cond (.tmp 17)
               (.skip)
               (.exit 0))
              (.seq
               (.block 1
                (.seq
                 (.region [⟨(some 18), none, .op (.idxSl 3 (.tmp 14) (.tmp 16))⟩,
                   ⟨(some 19), none, .op (.load (some 3) (.tmp 18))⟩,
                   ⟨(some 6), none, .op (.alloc 40 (.one (.int .i64 0) (.one (.str ⟨#[]⟩) (.one (.slice ⟨0, [], 0⟩ 0 0 0 0 (some 0)) .nil))))⟩,
                   ⟨none, none, .op (.store 3 (.tmp 6) (.tmp 19))⟩])
                 (.region [⟨(some 20), none, .op (.load (some 3) (.tmp 6))⟩,
                   ⟨(some 21), none, .call 47 [(.tmp 20)]⟩,
                   ⟨(some 22), none, .call 72 [(.tmp 4), (.tmp 21)]⟩])))
               (.region [⟨(some 23), none, .op (.bin .add (.tmp 16) (.const (.int .i64 1)))⟩,
                 ⟨(some 16), none, .op (.move (.tmp 23))⟩])))))))
         (.region [⟨(some 24), none, .call 73 [(.tmp 4)]⟩,
           ⟨(some 3), none, .op (.move (.tmp 24))⟩])))
       (.skip)))
     (.seq
      (.seq
       (.region [⟨(some 25), none, .op (.move (.tmp 3))⟩,
         ⟨(some 26), none, .op (.lenStr (.tmp 25))⟩,
         ⟨(some 27), none, .op (.bin .gtr (.tmp 26) (.const (.int .i64 4000)))⟩])
       (.cond (.tmp 27)
        (.region [⟨(some 28), none, .op (.bst (.one (.int .i64 0) .nil) [(0, 1, (.const (.int .i64 2)))])⟩,
          ⟨(some 29), none, .op (.mkIface 107 (.tmp 28))⟩,
          ⟨none, none, .panic (.tmp 29)⟩])
        (.skip)))
      (.seq
       (.draws [(0, [], ⟨(some 30), none, .op (.field 0 (.tmp 1))⟩),
         (1, [], ⟨(some 31), none, .op (.load none (.tmp 30))⟩),
         (2, [], ⟨(some 32), none, .op (.toInt .u8 (.tmp 31))⟩),
         (3, [], ⟨(some 33), none, .op (.bsl 1 1 5 (.one (.int .u8 0) .nil) [(0, (.tmp 32))])⟩),
         (4, [], ⟨(some 34), none, .op (.toStr (.tmp 33))⟩),
         (5, [0, 1, 2, 3, 4], ⟨(some 35), none, .op (.move (.tmp 3))⟩),
         (6, [0, 1, 2, 3, 4], ⟨(some 36), none, .op (.lenStr (.tmp 35))⟩),
         (7, [0, 1, 2, 3, 4], ⟨(some 37), none, .call 52 [(.tmp 36)]⟩),
         (8, [], ⟨(some 38), none, .op (.bin .add (.tmp 34) (.tmp 37))⟩),
         (9, [0, 1, 2, 3, 4, 5, 6, 7, 8], ⟨(some 39), none, .op (.move (.tmp 3))⟩),
         (10, [], ⟨(some 40), none, .op (.bin .add (.tmp 38) (.tmp 39))⟩),
         (11, [], ⟨(some 2), none, .op (.move (.tmp 40))⟩)])
       (.ret)))))
def r47 : List LRes := [.tmp 2]
theorem body47 : Try.f47.body.bind (compileC Try.prog) = some c47 := by kernel_rfl
theorem res47 : compileRes Try.prog Try.f47.results.toList = some r47 := by kernel_rfl
theorem has47 : hasBody Try.prog 47 = true := by kernel_rfl
theorem enter47 {args : LVals} {h : LHeap} {R : LEnd → LHeap → Prop} (hk : 41 - lvsLen args = 40) (hw : initK args 40 fun t => lwp Try.prog h.length c47 (bodyQ r47 R) t h) : LCalls Try.prog 47 args h R := LCalls.enter Try.func47 body47 has47 res47 _ (by rw [Try.ntmps47]; exact hk) hw
/-- palatine/ber.Decode$1 -/
def c48 : LCode :=
  .seq
   (.region [⟨(some 3), none, .op (.load none (.tmp 0))⟩,
     ⟨(some 4), none, .op (.bin .neq (.tmp 3) (.const (.int .i64 0)))⟩])
   (.cond (.tmp 4)
    (.region [⟨(some 5), none, .op (.bst (.one (.int .i64 0) (.one (.str ⟨#[]⟩) (.one (.slice ⟨0, [], 0⟩ 0 0 0 0 (some 0)) .nil))) [])⟩,
      ⟨none, none, .op (.store 3 (.tmp 1) (.tmp 5))⟩,
      ⟨none, none, .op (.store 1 (.tmp 2) (.const (.int .i64 0)))⟩])
    (.skip))
def r48 : List LRes := []
theorem body48 : Try.f48.body.bind (compileC Try.prog) = some c48 := by kernel_rfl
theorem res48 : compileRes Try.prog Try.f48.results.toList = some r48 := by kernel_rfl
theorem has48 : hasBody Try.prog 48 = true := by kernel_rfl
theorem enter48 {args : LVals} {h : LHeap} {R : LEnd → LHeap → Prop} (hk : 6 - lvsLen args = 3) (hw : initK args 3 fun t => lwp Try.prog h.length c48 (bodyQ r48 R) t h) : LCalls Try.prog 48 args h R := LCalls.enter Try.func48 body48 has48 res48 _ (by rw [Try.ntmps48]; exact hk) hw
theorem denter48 {args : LVals} {u : LMode} {h : LHeap} {K : LMode → LHeap → Prop} (hk : 6 - lvsLen args = 3) (hw : initK args 3 fun t => lwp Try.prog h.length c48 (dQ K u) t h) : LCallsD Try.prog 48 args u h K := LCallsD.enter Try.func48 body48 has48 res48 _ (by rw [Try.ntmps48]; exact hk) hw
/-- palatine/ber.read -/
def c49 : LCode :=
  .seq
   (.region [⟨(some 3), none, .op (.box 3 1 (.tmp 1))⟩,
     ⟨(some 4), none, .op (.alloc 40 (.one (.int .i64 0) (.one (.str ⟨#[]⟩) (.one (.slice ⟨0, [], 0⟩ 0 0 0 0 (some 0)) .nil))))⟩,
     ⟨(some 5), none, .op (.move (.const (.int .i64 0)))⟩])
   (.seq
    (.seq
     (.region [⟨(some 12), none, .op (.load none (.tmp 3))⟩,
       ⟨(some 13), none, .op (.bin .gtr (.tmp 12) (.const (.int .i64 8)))⟩])
     (.cond (.tmp 13)
      (.region [⟨(some 14), none, .op (.bst (.one (.int .i64 0) .nil) [(0, 1, (.const (.int .i64 91)))])⟩,
        ⟨(some 15), none, .op (.mkIface 107 (.tmp 14))⟩,
        ⟨none, none, .panic (.tmp 15)⟩])
      (.skip)))
    (.seq
     (.region [⟨(some 17), none, .op (.move (.tmp 0))⟩,
       ⟨(some 18), none, .call 30 [(.tmp 17)]⟩,
       ⟨(some 16), none, .op (.move (.tmp 18))⟩,
       ⟨(some 19), none, .op (.ext 0 (.tmp 16))⟩,
       ⟨(some 20), none, .op (.ext 1 (.tmp 16))⟩,
       ⟨(some 21), none, .op (.ext 2 (.tmp 16))⟩,
       ⟨(some 22), none, .op (.ext 3 (.tmp 16))⟩,
       ⟨(some 6), none, .op (.move (.tmp 19))⟩,
       ⟨(some 7), none, .op (.move (.tmp 20))⟩,
       ⟨(some 8), none, .op (.move (.tmp 21))⟩,
       ⟨(some 9), none, .op (.move (.tmp 22))⟩])
     (.seq
      (.seq
       (.region [⟨(some 23), none, .op (.move (.tmp 9))⟩,
         ⟨(some 24), none, .op (.bin .eql (.tmp 23) (.const (.int .i64 0)))⟩,
         ⟨(some 25), none, .op (.move (.tmp 24))⟩,
         ⟨(some 26), some (25, true), .op (.move (.tmp 0))⟩,
         ⟨(some 27), some (25, true), .op (.lenStr (.tmp 26))⟩,
         ⟨(some 28), some (25, true), .op (.move (.tmp 8))⟩,
         ⟨(some 29), some (25, true), .op (.bin .sub (.tmp 27) (.tmp 28))⟩,
         ⟨(some 30), some (25, true), .op (.move (.tmp 7))⟩,
         ⟨(some 31), some (25, true), .op (.bin .lss (.tmp 29) (.tmp 30))⟩,
         ⟨(some 32), none, .op (.pick (.tmp 25) (.tmp 31) (.const (.bool false)))⟩])
       (.cond (.tmp 32)
        (.region [⟨(some 9), none, .op (.move (.const (.int .i64 92)))⟩])
        (.skip)))
      (.seq
       (.seq
        (.region [⟨(some 33), none, .op (.move (.tmp 9))⟩,
          ⟨(some 34), none, .op (.bin .neq (.tmp 33) (.const (.int .i64 0)))⟩])
        (.cond (.tmp 34)
         (.seq
          (.seq
           (.region [⟨(some 35), none, .op (.move (.tmp 9))⟩,
             ⟨(some 36), none, .op (.bin .eql (.tmp 35) (.const (.int .i64 92)))⟩,
             ⟨(some 37), none, .op (.move (.tmp 36))⟩,
             ⟨(some 38), some (37, true), .op (.load none (.tmp 3))⟩,
             ⟨(some 39), some (37, true), .op (.bin .gtr (.tmp 38) (.const (.int .i64 1)))⟩,
             ⟨(some 40), none, .op (.pick (.tmp 37) (.tmp 39) (.const (.bool false)))⟩])
           (.cond (.tmp 40)
            (.region [⟨(some 9), none, .op (.move (.const (.int .i64 90)))⟩])
            (.skip)))
          (.region [⟨(some 41), none, .op (.move (.tmp 9))⟩,
            ⟨(some 42), none, .op (.bst (.one (.int .i64 0) .nil) [(0, 1, (.tmp 41))])⟩,
            ⟨(some 43), none, .op (.mkIface 107 (.tmp 42))⟩,
            ⟨none, none, .panic (.tmp 43)⟩]))
         (.skip)))
       (.seq
        (.draws [(0, [], ⟨(some 44), none, .op (.move (.tmp 6))⟩),
          (1, [], ⟨(some 45), none, .op (.bst (.one (.int .i64 0) (.one (.str ⟨#[]⟩) (.one (.slice ⟨0, [], 0⟩ 0 0 0 0 (some 0)) .nil))) [(0, 1, (.tmp 44))])⟩),
          (2, [0, 1], ⟨(some 46), none, .op (.move (.tmp 0))⟩),
          (3, [0, 1, 2], ⟨(some 47), none, .op (.move (.tmp 8))⟩),
          (4, [0, 1, 2, 3], ⟨(some 48), none, .op (.move (.tmp 8))⟩),
          (5, [0, 1, 2, 3, 4], ⟨(some 49), none, .op (.move (.tmp 7))⟩),
          (6, [0, 1, 2, 3], ⟨(some 50), none, .op (.bin .add (.tmp 48) (.tmp 49))⟩),
          (7, [0, 1], ⟨(some 51), none, .op (.slStr (.tmp 46) (some (.tmp 47)) (some (.tmp 50)))⟩),
          (8, [0, 1, 2, 3, 4, 5, 6, 7], ⟨(some 10), none, .op (.alloc 40 (.one (.int .i64 0) (.one (.str ⟨#[]⟩) (.one (.slice ⟨0, [], 0⟩ 0 0 0 0 (some 0)) .nil))))⟩),
          (9, [2, 3, 4, 5, 6, 7], ⟨none, none, .op (.store 3 (.tmp 10) (.tmp 45))⟩),
          (10, [], ⟨(some 11), none, .op (.move (.tmp 51))⟩)])
        (.seq
         (.seq
          (.region [⟨(some 52), none, .op (.move (.tmp 6))⟩,
            ⟨(some 53), none, .op (.bin .and (.tmp 52) (.const (.int .i64 32)))⟩,
            ⟨(some 54), none, .op (.bin .eql (.tmp 53) (.const (.int .i64 0)))⟩])
          (.cond (.tmp 54)
           (.seq
            (.region [⟨(some 55), none, .op (.move (.tmp 11))⟩,
              ⟨(some 56), none, .op (.field 1 (.tmp 10))⟩,
              ⟨none, none, .op (.store 1 (.tmp 56) (.tmp 55))⟩])
            (.seq
             (.region [⟨(some 57), none, .op (.load (some 3) (.tmp 10))⟩,
               ⟨(some 58), none, .op (.move (.tmp 8))⟩,
               ⟨(some 59), none, .op (.move (.tmp 7))⟩,
               ⟨(some 60), none, .op (.bin .add (.tmp 58) (.tmp 59))⟩,
               ⟨none, none, .op (.store 3 (.tmp 4) (.tmp 57))⟩,
               ⟨(some 5), none, .op (.move (.tmp 60))⟩])
             (.ret)))
           (.skip)))
         (.seq
          (.region [⟨(some 61), none, .op (.move (.tmp 11))⟩,
            ⟨(some 62), none, .op (.mkFunc 75 [(.tmp 3), (.tmp 10)])⟩,
            ⟨(some 63), none, .call 74 [(.tmp 61), (.tmp 62)]⟩])
          (.seq
           (.region [⟨(some 64), none, .op (.load (some 3) (.tmp 10))⟩,
             ⟨(some 65), none, .op (.move (.tmp 8))⟩,
             ⟨(some 66), none, .op (.move (.tmp 7))⟩,
             ⟨(some 67), none, .op (.bin .add (.tmp 65) (.tmp 66))⟩,
             ⟨none, none, .op (.store 3 (.tmp 4) (.tmp 64))⟩,
             ⟨(some 5), none, .op (.move (.tmp 67))⟩])
           (.ret)))))))))
def r49 : List LRes := [.cell 4 (some 3), .tmp 5]
theorem body49 : Try.f49.body.bind (compileC Try.prog) = some c49 := by kernel_rfl
theorem res49 : compileRes Try.prog Try.f49.results.toList = some r49 := by kernel_rfl
theorem has49 : hasBody Try.prog 49 = true := by kernel_rfl
theorem enter49 {args : LVals} {h : LHeap} {R : LEnd → LHeap → Prop} (hk : 68 - lvsLen args = 66) (hw : initK args 66 fun t => lwp Try.prog h.length c49 (bodyQ r49 R) t h) : LCalls Try.prog 49 args h R := LCalls.enter Try.func49 body49 has49 res49 _ (by rw [Try.ntmps49]; exact hk) hw
/-- palatine/palatineref09.reads -/
def c50 : LCode :=
  .seq
   (.region [⟨(some 4), none, .op (.alloc 40 (.one (.int .i64 0) (.one (.str ⟨#[]⟩) (.one (.slice ⟨0, [], 0⟩ 0 0 0 0 (some 0)) .nil))))⟩,
     ⟨(some 5), none, .op (.move (.const (.int .i64 0)))⟩,
     ⟨(some 6), none, .op (.move (.const (.int .i64 0)))⟩])
   (.seq
    (.seq
     (.region [⟨(some 16), none, .op (.move (.tmp 1))⟩,
       ⟨(some 17), none, .op (.bin .gtr (.tmp 16) (.const (.int .i64 8)))⟩])
     (.cond (.tmp 17)
      (.seq
       (.region [⟨(some 18), none, .op (.bst (.one (.int .i64 0) (.one (.str ⟨#[]⟩) (.one (.slice ⟨0, [], 0⟩ 0 0 0 0 (some 0)) .nil))) [])⟩,
         ⟨none, none, .op (.store 3 (.tmp 4) (.tmp 18))⟩,
         ⟨(some 5), none, .op (.move (.const (.int .i64 0)))⟩,
         ⟨(some 6), none, .op (.move (.const (.int .i64 91)))⟩])
       (.ret))
      (.skip)))
    (.seq
     (.region [⟨(some 20), none, .op (.move (.tmp 0))⟩,
       ⟨(some 21), none, .call 31 [(.tmp 20)]⟩,
       ⟨(some 19), none, .op (.move (.tmp 21))⟩,
       ⟨(some 22), none, .op (.ext 0 (.tmp 19))⟩,
       ⟨(some 23), none, .op (.ext 1 (.tmp 19))⟩,
       ⟨(some 24), none, .op (.ext 2 (.tmp 19))⟩,
       ⟨(some 25), none, .op (.ext 3 (.tmp 19))⟩,
       ⟨(some 7), none, .op (.move (.tmp 22))⟩,
       ⟨(some 8), none, .op (.move (.tmp 23))⟩,
       ⟨(some 9), none, .op (.move (.tmp 24))⟩,
       ⟨(some 10), none, .op (.move (.tmp 25))⟩])
     (.seq
      (.seq
       (.region [⟨(some 26), none, .op (.move (.tmp 10))⟩,
         ⟨(some 27), none, .op (.bin .neq (.tmp 26) (.const (.int .i64 0)))⟩])
       (.cond (.tmp 27)
        (.seq
         (.region [⟨(some 28), none, .op (.bst (.one (.int .i64 0) (.one (.str ⟨#[]⟩) (.one (.slice ⟨0, [], 0⟩ 0 0 0 0 (some 0)) .nil))) [])⟩,
           ⟨(some 29), none, .op (.move (.tmp 10))⟩,
           ⟨none, none, .op (.store 3 (.tmp 4) (.tmp 28))⟩,
           ⟨(some 5), none, .op (.move (.const (.int .i64 0)))⟩,
           ⟨(some 6), none, .op (.move (.tmp 29))⟩])
         (.ret))
        (.skip)))
      (.seq
       (.seq
        (.region [⟨(some 30), none, .op (.move (.tmp 0))⟩,
          ⟨(some 31), none, .op (.lenStr (.tmp 30))⟩,
          ⟨(some 32), none, .op (.move (.tmp 9))⟩,
          ⟨(some 33), none, .op (.move (.tmp 8))⟩,
          ⟨(some 34), none, .op (.bin .add (.tmp 32) (.tmp 33))⟩,
          ⟨(some 35), none, .op (.bin .lss (.tmp 31) (.tmp 34))⟩])
        (.cond (.tmp 35)
         (.seq
          (.region [⟨(some 36), none, .op (.bst (.one (.int .i64 0) (.one (.str ⟨#[]⟩) (.one (.slice ⟨0, [], 0⟩ 0 0 0 0 (some 0)) .nil))) [])⟩,
            ⟨none, none, .op (.store 3 (.tmp 4) (.tmp 36))⟩,
            ⟨(some 5), none, .op (.move (.const (.int .i64 0)))⟩,
            ⟨(some 6), none, .op (.move (.const (.int .i64 92)))⟩])
          (.ret))
         (.skip)))
       (.seq
        (.region [⟨(some 37), none, .op (.move (.tmp 7))⟩,
          ⟨(some 38), none, .op (.bst (.one (.int .i64 0) (.one (.str ⟨#[]⟩) (.one (.slice ⟨0, [], 0⟩ 0 0 0 0 (some 0)) .nil))) [(0, 1, (.tmp 37))])⟩,
          ⟨(some 11), none, .op (.alloc 40 (.one (.int .i64 0) (.one (.str ⟨#[]⟩) (.one (.slice ⟨0, [], 0⟩ 0 0 0 0 (some 0)) .nil))))⟩,
          ⟨none, none, .op (.store 3 (.tmp 11) (.tmp 38))⟩])
        (.seq
         (.region [⟨(some 39), none, .op (.move (.tmp 0))⟩,
           ⟨(some 40), none, .op (.move (.tmp 9))⟩,
           ⟨(some 41), none, .op (.move (.tmp 9))⟩,
           ⟨(some 42), none, .op (.move (.tmp 8))⟩,
           ⟨(some 43), none, .op (.bin .add (.tmp 41) (.tmp 42))⟩,
           ⟨(some 44), none, .op (.slStr (.tmp 39) (some (.tmp 40)) (some (.tmp 43)))⟩,
           ⟨(some 12), none, .op (.move (.tmp 44))⟩])
         (.seq
          (.seq
           (.region [⟨(some 45), none, .op (.move (.tmp 7))⟩,
             ⟨(some 46), none, .op (.bin .quo (.tmp 45) (.const (.int .i64 32)))⟩,
             ⟨(some 47), none, .op (.bin .rem (.tmp 46) (.const (.int .i64 2)))⟩,
             ⟨(some 48), none, .op (.bin .eql (.tmp 47) (.const (.int .i64 0)))⟩])
           (.cond (.tmp 48)
            (.seq
             (.region [⟨(some 49), none, .op (.move (.tmp 12))⟩,
               ⟨(some 50), none, .op (.field 1 (.tmp 11))⟩,
               ⟨none, none, .op (.store 1 (.tmp 50) (.tmp 49))⟩])
             (.seq
              (.region [⟨(some 51), none, .op (.load (some 3) (.tmp 11))⟩,
                ⟨(some 52), none, .op (.move (.tmp 9))⟩,
                ⟨(some 53), none, .op (.move (.tmp 8))⟩,
                ⟨(some 54), none, .op (.bin .add (.tmp 52) (.tmp 53))⟩,
                ⟨none, none, .op (.store 3 (.tmp 4) (.tmp 51))⟩,
                ⟨(some 5), none, .op (.move (.tmp 54))⟩,
                ⟨(some 6), none, .op (.move (.const (.int .i64 0)))⟩])
              (.ret)))
            (.skip)))
          (.seq
           (.block 0
            (.loop
             (.seq
              (.seq
               (.region [⟨(some 55), none, .op (.move (.tmp 12))⟩,
                 ⟨(some 56), none, .op (.lenStr (.tmp 55))⟩,
                 ⟨(some 57), none, .op (.bin .gtr (.tmp 56) (.const (.int .i64 0)))⟩])
               (.cond (.tmp 57)
                (.skip)
                (.exit 0)))
              (.block 1
               (.seq
                (.region [⟨(some 59), none, .op (.move (.tmp 12))⟩,
                  ⟨(some 60), none, .op (.move (.tmp 1))⟩,
                  ⟨(some 61), none, .op (.bin .add (.tmp 60) (.const (.int .i64 1)))⟩,
                  ⟨(some 62), none, .call 50 [(.tmp 59), (.tmp 61)]⟩,
                  ⟨(some 58), none, .op (.move (.tmp 62))⟩,
                  ⟨(some 63), none, .op (.ext 0 (.tmp 58))⟩,
                  ⟨(some 64), none, .op (.ext 1 (.tmp 58))⟩,
                  ⟨(some 65), none, .op (.ext 2 (.tmp 58))⟩,
                  ⟨(some 13), none, .op (.alloc 40 (.one (.int .i64 0) (.one (.str ⟨#[]⟩) (.one (.slice ⟨0, [], 0⟩ 0 0 0 0 (some 0)) .nil))))⟩,
                  ⟨none, none, .op (.store 3 (.tmp 13) (.tmp 63))⟩,
                  ⟨(some 14), none, .op (.move (.tmp 64))⟩,
                  ⟨(some 15), none, .op (.move (.tmp 65))⟩])
                (.seq
                 (.seq
                  (.region [⟨(some 66), none, .op (.move (.tmp 15))⟩,
                    ⟨(some 67), none, .op (.bin .eql (.tmp 66) (.const (.int .i64 92)))⟩])
                  (.cond (.tmp 67)
                   (.region [⟨(some 15), none, .op (.move (.const (.int .i64 90)))⟩])
                   (.skip)))
                 (.seq
                  (.seq
                   (.region [⟨(some 68), none, .op (.move (.tmp 15))⟩,
                     ⟨(some 69), none, .op (.bin .neq (.tmp 68) (.const (.int .i64 0)))⟩])
                   (.cond (.tmp 69)
                    (.seq
                     (.region [⟨(some 70), none, .op (.bst (.one (.int .i64 0) (.one (.str ⟨#[]⟩) (.one (.slice ⟨0, [], 0⟩ 0 0 0 0 (some 0)) .nil))) [])⟩,
                       ⟨(some 71), none, .op (.move (.tmp 15))⟩,
                       ⟨none, none, .op (.store 3 (.tmp 4) (.tmp 70))⟩,
                       ⟨(some 5), none, .op (.move (.const (.int .i64 0)))⟩,
                       ⟨(some 6), none, .op (.move (.tmp 71))⟩])
                     (.ret))
                    (.skip)))
                  (.seq
                   (.region [⟨(some 72), none, .op (.field 2 (.tmp 11))⟩,
                     ⟨(some 73), none, .op (.load none (.tmp 72))⟩,
                     ⟨(some 74), none, .op (.load (some 3) (.tmp 13))⟩,
                     ⟨(some 75), none, .op (.bsl 3 1 40 (.one (.int .i64 0) (.one (.str ⟨#[]⟩) (.one (.slice ⟨0, [], 0⟩ 0 0 0 0 (some 0)) .nil))) [(0, (.tmp 74))])⟩,
                     ⟨(some 76), none, .op (.app 3 48 40 (.tmp 73) (.tmp 75))⟩,
                     ⟨(some 77), none, .op (.field 2 (.tmp 11))⟩,
                     ⟨none, none, .op (.store 1 (.tmp 77) (.tmp 76))⟩])
                   (.region [⟨(some 78), none, .op (.move (.tmp 12))⟩,
                     ⟨(some 79), none, .op (.move (.tmp 14))⟩,
                     ⟨(some 80), none, .op (.slStr (.tmp 78) (some (.tmp 79)) none)⟩,
                     ⟨(some 12), none, .op (.move (.tmp 80))⟩])))))))))
           (.seq
            (.region [⟨(some 81), none, .op (.load (some 3) (.tmp 11))⟩,
              ⟨(some 82), none, .op (.move (.tmp 9))⟩,
              ⟨(some 83), none, .op (.move (.tmp 8))⟩,
              ⟨(some 84), none, .op (.bin .add (.tmp 82) (.tmp 83))⟩,
              ⟨none, none, .op (.store 3 (.tmp 4) (.tmp 81))⟩,
              ⟨(some 5), none, .op (.move (.tmp 84))⟩,
              ⟨(some 6), none, .op (.move (.const (.int .i64 0)))⟩])
            (.ret))))))))))
def r50 : List LRes := [.cell 4 (some 3), .tmp 5, .tmp 6]
theorem body50 : Try.f50.body.bind (compileC Try.prog) = some c50 := by kernel_rfl
theorem res50 : compileRes Try.prog Try.f50.results.toList = some r50 := by kernel_rfl
theorem has50 : hasBody Try.prog 50 = true := by kernel_rfl
theorem enter50 {args : LVals} {h : LHeap} {R : LEnd → LHeap → Prop} (hk : 85 - lvsLen args = 83) (hw : initK args 83 fun t => lwp Try.prog h.length c50 (bodyQ r50 R) t h) : LCalls Try.prog 50 args h R := LCalls.enter Try.func50 body50 has50 res50 _ (by rw [Try.ntmps50]; exact hk) hw
/-- palatine/ber.isTag -/
def c51 : LCode :=
  .seq
   (.region [⟨(some 2), none, .op (.move (.const (.bool false)))⟩])
   (.seq
    (.region [⟨(some 3), none, .op (.move (.tmp 0))⟩,
      ⟨(some 4), none, .op (.bin .geq (.tmp 3) (.const (.int .i64 0)))⟩,
      ⟨(some 5), none, .op (.move (.tmp 4))⟩,
      ⟨(some 6), some (5, true), .op (.move (.tmp 0))⟩,
      ⟨(some 7), some (5, true), .op (.bin .lss (.tmp 6) (.const (.int .i64 256)))⟩,
      ⟨(some 8), none, .op (.pick (.tmp 5) (.tmp 7) (.const (.bool false)))⟩,
      ⟨(some 9), none, .op (.move (.tmp 8))⟩,
      ⟨(some 10), some (9, true), .op (.move (.tmp 0))⟩,
      ⟨(some 11), some (9, true), .op (.bin .and (.tmp 10) (.const (.int .i64 31)))⟩,
      ⟨(some 12), some (9, true), .op (.bin .neq (.tmp 11) (.const (.int .i64 31)))⟩,
      ⟨(some 13), none, .op (.pick (.tmp 9) (.tmp 12) (.const (.bool false)))⟩,
      ⟨(some 2), none, .op (.move (.tmp 13))⟩])
    (.ret))
def r51 : List LRes := [.tmp 2]
theorem body51 : Try.f51.body.bind (compileC Try.prog) = some c51 := by kernel_rfl
theorem res51 : compileRes Try.prog Try.f51.results.toList = some r51 := by kernel_rfl
theorem has51 : hasBody Try.prog 51 = true := by kernel_rfl
theorem enter51 {args : LVals} {h : LHeap} {R : LEnd → LHeap → Prop} (hk : 14 - lvsLen args = 13) (hw : initK args 13 fun t => lwp Try.prog h.length c51 (bodyQ r51 R) t h) : LCalls Try.prog 51 args h R := LCalls.enter Try.func51 body51 has51 res51 _ (by rw [Try.ntmps51]; exact hk) hw
/-- palatine/ber.length -/
def c52 : LCode :=
  .seq
   (.region [⟨(some 2), none, .op (.move (.const (.str ⟨#[]⟩)))⟩])
   (.seq
    (.block 0
     (.seq
      (.region [⟨(some 4), none, .op (.move (.tmp 0))⟩,
        ⟨(some 5), none, .op (.bin .lss (.tmp 4) (.const (.int .i64 128)))⟩,
        ⟨(some 3), none, .op (.move (.tmp 5))⟩])
      (.cond (.tmp 3)
       (.seq
        (.region [⟨(some 6), none, .op (.move (.tmp 0))⟩,
          ⟨(some 7), none, .op (.toInt .u8 (.tmp 6))⟩,
          ⟨(some 8), none, .op (.bsl 1 1 5 (.one (.int .u8 0) .nil) [(0, (.tmp 7))])⟩,
          ⟨(some 9), none, .op (.toStr (.tmp 8))⟩,
          ⟨(some 2), none, .op (.move (.tmp 9))⟩])
        (.ret))
       (.seq
        (.region [⟨(some 11), none, .op (.move (.tmp 0))⟩,
          ⟨(some 12), none, .op (.bin .lss (.tmp 11) (.const (.int .i64 256)))⟩,
          ⟨(some 10), none, .op (.move (.tmp 12))⟩])
        (.cond (.tmp 10)
         (.seq
          (.region [⟨(some 13), none, .op (.move (.tmp 0))⟩,
            ⟨(some 14), none, .op (.toInt .u8 (.tmp 13))⟩,
            ⟨(some 15), none, .op (.bsl 1 2 5 (.one (.int .u8 0) .nil) [(0, (.const (.int .u8 129))), (1, (.tmp 14))])⟩,
            ⟨(some 16), none, .op (.toStr (.tmp 15))⟩,
            ⟨(some 2), none, .op (.move (.tmp 16))⟩])
          (.ret))
         (.skip))))))
    (.seq
     (.region [⟨(some 17), none, .op (.move (.tmp 0))⟩,
       ⟨(some 18), none, .op (.shc false 256 .i64 (.tmp 17))⟩,
       ⟨(some 19), none, .op (.toInt .u8 (.tmp 18))⟩,
       ⟨(some 20), none, .op (.move (.tmp 0))⟩,
       ⟨(some 21), none, .op (.toInt .u8 (.tmp 20))⟩,
       ⟨(some 22), none, .op (.bsl 1 3 5 (.one (.int .u8 0) .nil) [(0, (.const (.int .u8 130))), (1, (.tmp 19)), (2, (.tmp 21))])⟩,
       ⟨(some 23), none, .op (.toStr (.tmp 22))⟩,
       ⟨(some 2), none, .op (.move (.tmp 23))⟩])
     (.ret)))
def r52 : List LRes := [.tmp 2]
theorem body52 : Try.f52.body.bind (compileC Try.prog) = some c52 := by kernel_rfl
theorem res52 : compileRes Try.prog Try.f52.results.toList = some r52 := by kernel_rfl
theorem has52 : hasBody Try.prog 52 = true := by kernel_rfl
theorem enter52 {args : LVals} {h : LHeap} {R : LEnd → LHeap → Prop} (hk : 24 - lvsLen args = 23) (hw : initK args 23 fun t => lwp Try.prog h.length c52 (bodyQ r52 R) t h) : LCalls Try.prog 52 args h R := LCalls.enter Try.func52 body52 has52 res52 _ (by rw [Try.ntmps52]; exact hk) hw
/-- palatine/palatineref09.Tag -/
def c53 : LCode :=
  .seq
   (.region [⟨(some 2), none, .op (.move (.const (.bool false)))⟩])
   (.seq
    (.region [⟨(some 3), none, .op (.move (.tmp 0))⟩,
      ⟨(some 4), none, .op (.bin .geq (.tmp 3) (.const (.int .i64 0)))⟩,
      ⟨(some 5), none, .op (.move (.tmp 4))⟩,
      ⟨(some 6), some (5, true), .op (.move (.tmp 0))⟩,
      ⟨(some 7), some (5, true), .op (.bin .leq (.tmp 6) (.const (.int .i64 255)))⟩,
      ⟨(some 8), none, .op (.pick (.tmp 5) (.tmp 7) (.const (.bool false)))⟩,
      ⟨(some 9), none, .op (.move (.tmp 8))⟩,
      ⟨(some 10), some (9, true), .op (.move (.tmp 0))⟩,
      ⟨(some 11), some (9, true), .op (.bin .rem (.tmp 10) (.const (.int .i64 32)))⟩,
      ⟨(some 12), some (9, true), .op (.bin .neq (.tmp 11) (.const (.int .i64 31)))⟩,
      ⟨(some 13), none, .op (.pick (.tmp 9) (.tmp 12) (.const (.bool false)))⟩,
      ⟨(some 2), none, .op (.move (.tmp 13))⟩])
    (.ret))
def r53 : List LRes := [.tmp 2]
theorem body53 : Try.f53.body.bind (compileC Try.prog) = some c53 := by kernel_rfl
theorem res53 : compileRes Try.prog Try.f53.results.toList = some r53 := by kernel_rfl
theorem has53 : hasBody Try.prog 53 = true := by kernel_rfl
theorem enter53 {args : LVals} {h : LHeap} {R : LEnd → LHeap → Prop} (hk : 14 - lvsLen args = 13) (hw : initK args 13 fun t => lwp Try.prog h.length c53 (bodyQ r53 R) t h) : LCalls Try.prog 53 args h R := LCalls.enter Try.func53 body53 has53 res53 _ (by rw [Try.ntmps53]; exact hk) hw
/-- palatine/palatineref09.Deep -/
def c54 : LCode :=
  .seq
   (.region [⟨(some 2), none, .op (.box 40 3 (.tmp 0))⟩,
     ⟨(some 4), none, .op (.move (.const (.bool false)))⟩])
   (.seq
    (.seq
     (.region [⟨(some 7), none, .op (.move (.tmp 1))⟩,
       ⟨(some 8), none, .op (.bin .lss (.tmp 7) (.const (.int .i64 1)))⟩])
     (.cond (.tmp 8)
      (.seq
       (.region [⟨(some 4), none, .op (.move (.const (.bool false)))⟩])
       (.ret))
      (.skip)))
    (.seq
     (.seq
      (.region [⟨(some 5), none, .op (.move (.const (.int .i64 0)))⟩])
      (.block 0
       (.loop
        (.seq
         (.seq
          (.region [⟨(some 9), none, .op (.move (.tmp 5))⟩,
            ⟨(some 10), none, .op (.field 2 (.tmp 2))⟩,
            ⟨(some 11), none, .op (.load none (.tmp 10))⟩,
            ⟨(some 12), none, .op (.lenSl (.tmp 11))⟩,
            ⟨(some 13), none, .op (.bin .lss (.tmp 9) (.tmp 12))⟩])
          (.cond (.tmp 13)
           (.skip)
           (.exit 0)))
         (.seq
          (.block 1
           (.seq
            (.region [⟨(some 16), none, .op (.field 2 (.tmp 2))⟩,
              ⟨(some 17), none, .op (.load none (.tmp 16))⟩,
              ⟨(some 18), none, .op (.move (.tmp 5))⟩,
              ⟨(some 19), none, .op (.idxSl 3 (.tmp 17) (.tmp 18))⟩,
              ⟨(some 20), none, .op (.load (some 3) (.tmp 19))⟩,
              ⟨(some 21), none, .op (.move (.tmp 1))⟩,
              ⟨(some 22), none, .op (.bin .sub (.tmp 21) (.const (.int .i64 1)))⟩,
              ⟨(some 23), none, .call 54 [(.tmp 20), (.tmp 22)]⟩,
              ⟨(some 6), none, .op (.move (.tmp 23))⟩])
            (.seq
             (.region [⟨(some 24), none, .op (.move (.tmp 6))⟩,
               ⟨(some 25), none, .op (.un .not (.tmp 24))⟩])
             (.cond (.tmp 25)
              (.seq
               (.region [⟨(some 4), none, .op (.move (.const (.bool false)))⟩])
               (.ret))
              (.skip)))))
          (.region [⟨(some 14), none, .op (.move (.tmp 5))⟩,
            ⟨(some 15), none, .op (.bin .add (.tmp 14) (.const (.int .i64 1)))⟩,
            ⟨(some 5), none, .op (.move (.tmp 15))⟩]))))))
     (.seq
      (.region [⟨(some 4), none, .op (.move (.const (.bool true)))⟩])
      (.ret))))
def r54 : List LRes := [.tmp 4]
theorem body54 : Try.f54.body.bind (compileC Try.prog) = some c54 := by kernel_rfl
theorem res54 : compileRes Try.prog Try.f54.results.toList = some r54 := by kernel_rfl
theorem has54 : hasBody Try.prog 54 = true := by kernel_rfl
theorem enter54 {args : LVals} {h : LHeap} {R : LEnd → LHeap → Prop} (hk : 26 - lvsLen args = 24) (hw : initK args 24 fun t => lwp Try.prog h.length c54 (bodyQ r54 R) t h) : LCalls Try.prog 54 args h R := LCalls.enter Try.func54 body54 has54 res54 _ (by rw [Try.ntmps54]; exact hk) hw
/-- palatine/palatineref09.shaped -/
def c55 : LCode :=
  .seq
   (.region [⟨(some 1), none, .op (.box 40 3 (.tmp 0))⟩,
     ⟨(some 2), none, .op (.move (.const (.bool false)))⟩])
   (.seq
    (.region [⟨(some 7), none, .op (.field 0 (.tmp 1))⟩,
      ⟨(some 8), none, .op (.load none (.tmp 7))⟩,
      ⟨(some 9), none, .call 53 [(.tmp 8)]⟩,
      ⟨(some 3), none, .op (.move (.tmp 9))⟩])
    (.seq
     (.region [⟨(some 10), none, .op (.field 0 (.tmp 1))⟩,
       ⟨(some 11), none, .op (.load none (.tmp 10))⟩,
       ⟨(some 12), none, .op (.bin .quo (.tmp 11) (.const (.int .i64 32)))⟩,
       ⟨(some 13), none, .op (.bin .rem (.tmp 12) (.const (.int .i64 2)))⟩,
       ⟨(some 14), none, .op (.bin .eql (.tmp 13) (.const (.int .i64 1)))⟩,
       ⟨(some 4), none, .op (.move (.tmp 14))⟩])
     (.seq
      (.seq
       (.region [⟨(some 15), none, .op (.move (.tmp 3))⟩,
         ⟨(some 16), none, .op (.un .not (.tmp 15))⟩,
         ⟨(some 17), none, .op (.move (.tmp 16))⟩,
         ⟨(some 18), some (17, false), .op (.move (.tmp 4))⟩,
         ⟨(some 19), some (17, false), .op (.move (.tmp 18))⟩,
         ⟨(some 20), some (19, true), .op (.field 1 (.tmp 1))⟩,
         ⟨(some 21), some (19, true), .op (.load none (.tmp 20))⟩,
         ⟨(some 22), some (19, true), .op (.bin .neq (.tmp 21) (.const (.str ⟨#[]⟩)))⟩,
         ⟨(some 23), some (17, false), .op (.pick (.tmp 19) (.tmp 22) (.const (.bool false)))⟩,
         ⟨(some 24), none, .op (.pick (.tmp 17) (.const (.bool true)) (.tmp 23))⟩,
         ⟨(some 25), none, .op (.move (.tmp 24))⟩,
         ⟨(some 26), some (25, false), .op (.move (.tmp 4))⟩,
         ⟨(some 27), some (25, false), .op (.un .not (.tmp 26))⟩,
         ⟨(some 28), some (25, false), .op (.move (.tmp 27))⟩,
         ⟨(some 29), some (28, true), .op (.field 2 (.tmp 1))⟩,
         ⟨(some 30), some (28, true), .op (.load none (.tmp 29))⟩,
         ⟨(some 31), some (28, true), .op (.lenSl (.tmp 30))⟩,
         ⟨(some 32), some (28, true), .op (.bin .gtr (.tmp 31) (.const (.int .i64 0)))⟩,
         ⟨(some 33), some (25, false), .op (.pick (.tmp 28) (.tmp 32) (.const (.bool false)))⟩,
         ⟨(some 34), none, .op (.pick (.tmp 25) (.const (.bool true)) (.tmp 33))⟩])
       (.cond (.tmp 34)
        (.seq
         (.region [⟨(some 2), none, .op (.move (.const (.bool false)))⟩])
         (.ret))
        (.skip)))
      (.seq
       (.seq
        (.region [⟨(some 5), none, .op (.move (.const (.int .i64 0)))⟩])
        (.block 0
         (.loop
          (.seq
           (.seq
            (.region [⟨(some 35), none, .op (.move (.tmp 5))⟩,
              ⟨(some 36), none, .op (.field 2 (.tmp 1))⟩,
              ⟨(some 37), none, .op (.load none (.tmp 36))⟩,
              ⟨(some 38), none, .op (.lenSl (.tmp 37))⟩,
              ⟨(some 39), none, .op (.bin .lss (.tmp 35) (.tmp 38))⟩])
            (.cond (.tmp 39)
             (.skip)
             (.exit 0)))
           (.seq
            (.block 1
             (.seq
              (.region [⟨(some 42), none, .op (.field 2 (.tmp 1))⟩,
                ⟨(some 43), none, .op (.load none (.tmp 42))⟩,
                ⟨(some 44), none, .op (.move (.tmp 5))⟩,
                ⟨(some 45), none, .op (.idxSl 3 (.tmp 43) (.tmp 44))⟩,
                ⟨(some 46), none, .op (.load (some 3) (.tmp 45))⟩,
                ⟨(some 47), none, .call 55 [(.tmp 46)]⟩,
                ⟨(some 6), none, .op (.move (.tmp 47))⟩])
              (.seq
               (.region [⟨(some 48), none, .op (.move (.tmp 6))⟩,
                 ⟨(some 49), none, .op (.un .not (.tmp 48))⟩])
               (.cond (.tmp 49)
                (.seq
                 (.region [⟨(some 2), none, .op (.move (.const (.bool false)))⟩])
                 (.ret))
                (.skip)))))
            (.region [⟨(some 40), none, .op (.move (.tmp 5))⟩,
              ⟨(some 41), none, .op (.bin .add (.tmp 40) (.const (.int .i64 1)))⟩,
              ⟨(some 5), none, .op (.move (.tmp 41))⟩]))))))
       (.seq
        (.region [⟨(some 2), none, .op (.move (.const (.bool true)))⟩])
        (.ret))))))
def r55 : List LRes := [.tmp 2]
theorem body55 : Try.f55.body.bind (compileC Try.prog) = some c55 := by kernel_rfl
theorem res55 : compileRes Try.prog Try.f55.results.toList = some r55 := by kernel_rfl
theorem has55 : hasBody Try.prog 55 = true := by kernel_rfl
theorem enter55 {args : LVals} {h : LHeap} {R : LEnd → LHeap → Prop} (hk : 50 - lvsLen args = 49) (hw : initK args 49 fun t => lwp Try.prog h.length c55 (bodyQ r55 R) t h) : LCalls Try.prog 55 args h R := LCalls.enter Try.func55 body55 has55 res55 _ (by rw [Try.ntmps55]; exact hk) hw
/-- palatine/palatineref09.bytes -/
def c56 : LCode :=
  .seq
   (.region [⟨(some 1), none, .op (.box 40 3 (.tmp 0))⟩,
     ⟨(some 2), none, .op (.move (.const (.slice ⟨0, [], 0⟩ 0 0 0 0 (some 0))))⟩,
     ⟨(some 3), none, .op (.move (.const (.bool false)))⟩])
   (.seq
    (.region [⟨(some 9), none, .op (.field 1 (.tmp 1))⟩,
      ⟨(some 10), none, .op (.load none (.tmp 9))⟩,
      ⟨(some 11), none, .op (.toBytes 5 (.tmp 10))⟩,
      ⟨(some 4), none, .op (.move (.tmp 11))⟩])
    (.seq
     (.seq
      (.region [⟨(some 5), none, .op (.move (.const (.int .i64 0)))⟩])
      (.block 0
       (.loop
        (.seq
         (.seq
          (.region [⟨(some 12), none, .op (.move (.tmp 5))⟩,
            ⟨(some 13), none, .op (.field 2 (.tmp 1))⟩,
            ⟨(some 14), none, .op (.load none (.tmp 13))⟩,
            ⟨(some 15), none, .op (.lenSl (.tmp 14))⟩,
            ⟨(some 16), none, .op (.bin .lss (.tmp 12) (.tmp 15))⟩])
          (.cond (.tmp 16)
           (.skip)
           (.exit 0)))
         (.seq
          (.block 1
           (.seq
            (.region [⟨(some 20), none, .op (.field 2 (.tmp 1))⟩,
              ⟨(some 21), none, .op (.load none (.tmp 20))⟩,
              ⟨(some 22), none, .op (.move (.tmp 5))⟩,
              ⟨(some 23), none, .op (.idxSl 3 (.tmp 21) (.tmp 22))⟩,
              ⟨(some 24), none, .op (.load (some 3) (.tmp 23))⟩,
              ⟨(some 25), none, .call 56 [(.tmp 24)]⟩,
              ⟨(some 19), none, .op (.move (.tmp 25))⟩,
              ⟨(some 26), none, .op (.ext 0 (.tmp 19))⟩,
              ⟨(some 27), none, .op (.ext 1 (.tmp 19))⟩,
              ⟨(some 6), none, .op (.move (.tmp 26))⟩,
              ⟨(some 7), none, .op (.move (.tmp 27))⟩])
            (.seq
             (.seq
              (.region [⟨(some 28), none, .op (.move (.tmp 7))⟩,
                ⟨(some 29), none, .op (.un .not (.tmp 28))⟩])
              (.cond (.tmp 29)
               (.seq
                (.region [⟨(some 2), none, .op (.move (.const (.slice ⟨0, [], 0⟩ 0 0 0 0 (some 0))))⟩,
                  ⟨(some 3), none, .op (.move (.const (.bool false)))⟩])
                (.ret))
               (.skip)))
             (.region [⟨(some 30), none, .op (.move (.tmp 4))⟩,
               ⟨(some 31), none, .op (.move (.tmp 6))⟩,
               ⟨(some 32), none, .op (.app 1 1 5 (.tmp 30) (.tmp 31))⟩,
               ⟨(some 4), none, .op (.move (.tmp 32))⟩]))))
          (.region [⟨(some 17), none, .op (.move (.tmp 5))⟩,
            ⟨(some 18), none, .op (.bin .add (.tmp 17) (.const (.int .i64 1)))⟩,
            ⟨(some 5), none, .op (.move (.tmp 18))⟩]))))))
     (.seq
      (.seq
       (.region [⟨(some 33), none, .op (.move (.tmp 4))⟩,
         ⟨(some 34), none, .op (.lenSl (.tmp 33))⟩,
         ⟨(some 35), none, .op (.bin .gtr (.tmp 34) (.const (.int .i64 4000)))⟩])
       (.cond (.tmp 35)
        (.seq
         (.region [⟨(some 2), none, .op (.move (.const (.slice ⟨0, [], 0⟩ 0 0 0 0 (some 0))))⟩,
           ⟨(some 3), none, .op (.move (.const (.bool false)))⟩])
         (.ret))
        (.skip)))
      (.seq
       (.region [⟨(some 36), none, .op (.field 0 (.tmp 1))⟩,
         ⟨(some 37), none, .op (.load none (.tmp 36))⟩,
         ⟨(some 38), none, .op (.toInt .u8 (.tmp 37))⟩,
         ⟨(some 39), none, .op (.bsl 1 1 5 (.one (.int .u8 0) .nil) [(0, (.tmp 38))])⟩,
         ⟨(some 8), none, .op (.move (.tmp 39))⟩])
       (.seq
        (.seq
         (.region [⟨(some 40), none, .op (.move (.tmp 4))⟩,
           ⟨(some 41), none, .op (.lenSl (.tmp 40))⟩,
           ⟨(some 42), none, .op (.bin .geq (.tmp 41) (.const (.int .i64 256)))⟩])
         (.cond (.tmp 42)
          (.seq
           (.region [⟨(some 43), none, .op (.move (.tmp 8))⟩,
             ⟨(some 44), none, .op (.bsl 1 1 5 (.one (.int .u8 0) .nil) [(0, (.const (.int .u8 130)))])⟩,
             ⟨(some 45), none, .op (.app 1 1 5 (.tmp 43) (.tmp 44))⟩,
             ⟨(some 8), none, .op (.move (.tmp 45))⟩])
           (.region [⟨(some 46), none, .op (.move (.tmp 8))⟩,
             ⟨(some 47), none, .op (.move (.tmp 4))⟩,
             ⟨(some 48), none, .op (.lenSl (.tmp 47))⟩,
             ⟨(some 49), none, .op (.bin .quo (.tmp 48) (.const (.int .i64 256)))⟩,
             ⟨(some 50), none, .op (.toInt .u8 (.tmp 49))⟩,
             ⟨(some 51), none, .op (.bsl 1 1 5 (.one (.int .u8 0) .nil) [(0, (.tmp 50))])⟩,
             ⟨(some 52), none, .op (.app 1 1 5 (.tmp 46) (.tmp 51))⟩,
             ⟨(some 8), none, .op (.move (.tmp 52))⟩]))
          (.seq
           (.region [⟨(some 53), none, .op (.move (.tmp 4))⟩,
             ⟨(some 54), none, .op (.lenSl (.tmp 53))⟩,
             ⟨(some 55), none, .op (.bin .geq (.tmp 54) (.const (.int .i64 128)))⟩])
           (.cond (.tmp 55)
            (.region [⟨(some 56), none, .op (.move (.tmp 8))⟩,
              ⟨(some 57), none, .op (.bsl 1 1 5 (.one (.int .u8 0) .nil) [(0, (.const (.int .u8 129)))])⟩,
              ⟨(some 58), none, .op (.app 1 1 5 (.tmp 56) (.tmp 57))⟩,
              ⟨(some 8), none, .op (.move (.tmp 58))⟩])
            (.skip)))))
        (.seq
         (.region [⟨(some 59), none, .op (.move (.tmp 8))⟩,
           ⟨(some 60), none, .op (.move (.tmp 4))⟩,
           ⟨(some 61), none, .op (.lenSl (.tmp 60))⟩,
           ⟨(some 62), none, .op (.bin .rem (.tmp 61) (.const (.int .i64 256)))⟩,
           ⟨(some 63), none, .op (.toInt .u8 (.tmp 62))⟩,
           ⟨(some 64), none, .op (.bsl 1 1 5 (.one (.int .u8 0) .nil) [(0, (.tmp 63))])⟩,
           ⟨(some 65), none, .op (.app 1 1 5 (.tmp 59) (.tmp 64))⟩,
           ⟨(some 8), none, .op (.move (.tmp 65))⟩])
         (.seq
          (.region [⟨(some 66), none, .op (.move (.tmp 8))⟩,
            ⟨(some 67), none, .op (.move (.tmp 4))⟩,
            ⟨(some 68), none, .op (.app 1 1 5 (.tmp 66) (.tmp 67))⟩,
            ⟨(some 2), none, .op (.move (.tmp 68))⟩,
            ⟨(some 3), none, .op (.move (.const (.bool true)))⟩])
          (.ret))))))))
def r56 : List LRes := [.tmp 2, .tmp 3]
theorem body56 : Try.f56.body.bind (compileC Try.prog) = some c56 := by kernel_rfl
theorem res56 : compileRes Try.prog Try.f56.results.toList = some r56 := by kernel_rfl
theorem has56 : hasBody Try.prog 56 = true := by kernel_rfl
theorem enter56 {args : LVals} {h : LHeap} {R : LEnd → LHeap → Prop} (hk : 69 - lvsLen args = 68) (hw : initK args 68 fun t => lwp Try.prog h.length c56 (bodyQ r56 R) t h) : LCalls Try.prog 56 args h R := LCalls.enter Try.func56 body56 has56 res56 _ (by rw [Try.ntmps56]; exact hk) hw
/-- slices.ContainsFunc[[]palatine/api.Node,palatine/api.Node] -/
def c70 : LCode :=
  .seq
   (.region [⟨(some 4), none, .op (.move (.const (.bool false)))⟩])
   (.seq
    (.region [⟨(some 5), none, .op (.move (.tmp 0))⟩,
      ⟨(some 6), none, .op (.move (.tmp 1))⟩,
      ⟨(some 7), none, .call 93 [(.tmp 5), (.tmp 6)]⟩,
      ⟨(some 8), none, .op (.bin .geq (.tmp 7) (.const (.int .i64 0)))⟩,
      ⟨(some 4), none, .op (.move (.tmp 8))⟩])
    (.ret))
def r70 : List LRes := [.tmp 4]
theorem body70 : Try.f70.body.bind (compileC Try.prog) = some c70 := by kernel_rfl
theorem res70 : compileRes Try.prog Try.f70.results.toList = some r70 := by kernel_rfl
theorem has70 : hasBody Try.prog 70 = true := by kernel_rfl
theorem enter70 {args : LVals} {h : LHeap} {R : LEnd → LHeap → Prop} (hk : 9 - lvsLen args = 7) (hw : initK args 7 fun t => lwp Try.prog h.length c70 (bodyQ r70 R) t h) : LCalls Try.prog 70 args h R := LCalls.enter Try.func70 body70 has70 res70 _ (by rw [Try.ntmps70]; exact hk) hw
/-- palatine/ber.deep$1 -/
def c71 : LCode :=
  .seq
   (.region [⟨(some 2), none, .op (.box 40 3 (.tmp 0))⟩,
     ⟨(some 3), none, .op (.move (.const (.bool false)))⟩])
   (.seq
    (.region [⟨(some 4), none, .op (.load (some 3) (.tmp 2))⟩,
      ⟨(some 5), none, .op (.load none (.tmp 1))⟩,
      ⟨(some 6), none, .op (.bin .sub (.tmp 5) (.const (.int .i64 1)))⟩,
      ⟨(some 7), none, .call 44 [(.tmp 4), (.tmp 6)]⟩,
      ⟨(some 8), none, .op (.un .not (.tmp 7))⟩,
      ⟨(some 3), none, .op (.move (.tmp 8))⟩])
    (.ret))
def r71 : List LRes := [.tmp 3]
theorem body71 : Try.f71.body.bind (compileC Try.prog) = some c71 := by kernel_rfl
theorem res71 : compileRes Try.prog Try.f71.results.toList = some r71 := by kernel_rfl
theorem has71 : hasBody Try.prog 71 = true := by kernel_rfl
theorem enter71 {args : LVals} {h : LHeap} {R : LEnd → LHeap → Prop} (hk : 9 - lvsLen args = 7) (hw : initK args 7 fun t => lwp Try.prog h.length c71 (bodyQ r71 R) t h) : LCalls Try.prog 71 args h R := LCalls.enter Try.func71 body71 has71 res71 _ (by rw [Try.ntmps71]; exact hk) hw
/-- (*strings.Builder).WriteString -/
def c72 : LCode :=
  .seq
   (.region [⟨(some 4), none, .op (.move (.const (.int .i64 0)))⟩,
     ⟨(some 5), none, .op (.move (.const .nilI))⟩])
   (.seq
    (.region [⟨(some 6), none, .op (.move (.tmp 0))⟩,
      ⟨(some 7), none, .call 94 [(.tmp 6)]⟩])
    (.seq
     (.region [⟨(some 8), none, .op (.move (.tmp 0))⟩,
       ⟨(some 9), none, .op (.move (.tmp 0))⟩,
       ⟨(some 10), none, .op (.nilc (.tmp 9))⟩,
       ⟨(some 11), none, .op (.field 1 (.tmp 10))⟩,
       ⟨(some 12), none, .op (.load none (.tmp 11))⟩,
       ⟨(some 13), none, .op (.move (.tmp 1))⟩,
       ⟨(some 14), none, .op (.app 1 1 5 (.tmp 12) (.tmp 13))⟩,
       ⟨(some 15), none, .op (.nilc (.tmp 8))⟩,
       ⟨(some 16), none, .op (.field 1 (.tmp 15))⟩,
       ⟨none, none, .op (.store 1 (.tmp 16) (.tmp 14))⟩])
     (.seq
      (.region [⟨(some 17), none, .op (.move (.tmp 1))⟩,
        ⟨(some 18), none, .op (.lenStr (.tmp 17))⟩,
        ⟨(some 4), none, .op (.move (.tmp 18))⟩,
        ⟨(some 5), none, .op (.move (.const .nilI))⟩])
      (.ret))))
def r72 : List LRes := [.tmp 4, .tmp 5]
theorem body72 : Try.f72.body.bind (compileC Try.prog) = some c72 := by kernel_rfl
theorem res72 : compileRes Try.prog Try.f72.results.toList = some r72 := by kernel_rfl
theorem has72 : hasBody Try.prog 72 = true := by kernel_rfl
theorem enter72 {args : LVals} {h : LHeap} {R : LEnd → LHeap → Prop} (hk : 19 - lvsLen args = 17) (hw : initK args 17 fun t => lwp Try.prog h.length c72 (bodyQ r72 R) t h) : LCalls Try.prog 72 args h R := LCalls.enter Try.func72 body72 has72 res72 _ (by rw [Try.ntmps72]; exact hk) hw
/-- palatine/ber.each -/
def c74 : LCode :=
  .block 0
   (.loop
    (.seq
     (.seq
      (.region [⟨(some 4), none, .op (.move (.tmp 0))⟩,
        ⟨(some 5), none, .op (.bin .neq (.tmp 4) (.const (.str ⟨#[]⟩)))⟩])
      (.cond (.tmp 5)
       (.skip)
       (.exit 0)))
     (.block 1
      (.region [⟨(some 6), none, .op (.move (.tmp 0))⟩,
        ⟨(some 7), none, .op (.move (.tmp 1))⟩,
        ⟨(some 8), none, .op (.move (.tmp 0))⟩,
        ⟨(some 9), none, .callv (.tmp 7) [(.tmp 8)]⟩,
        ⟨(some 10), none, .op (.slStr (.tmp 6) (some (.tmp 9)) none)⟩,
        ⟨(some 0), none, .op (.move (.tmp 10))⟩]))))
def r74 : List LRes := []
theorem body74 : Try.f74.body.bind (compileC Try.prog) = some c74 := by kernel_rfl
theorem res74 : compileRes Try.prog Try.f74.results.toList = some r74 := by kernel_rfl
theorem has74 : hasBody Try.prog 74 = true := by kernel_rfl
theorem enter74 {args : LVals} {h : LHeap} {R : LEnd → LHeap → Prop} (hk : 11 - lvsLen args = 9) (hw : initK args 9 fun t => lwp Try.prog h.length c74 (bodyQ r74 R) t h) : LCalls Try.prog 74 args h R := LCalls.enter Try.func74 body74 has74 res74 _ (by rw [Try.ntmps74]; exact hk) hw
theorem denter74 {args : LVals} {u : LMode} {h : LHeap} {K : LMode → LHeap → Prop} (hk : 11 - lvsLen args = 9) (hw : initK args 9 fun t => lwp Try.prog h.length c74 (dQ K u) t h) : LCallsD Try.prog 74 args u h K := LCallsD.enter Try.func74 body74 has74 res74 _ (by rw [Try.ntmps74]; exact hk) hw
/-- palatine/ber.read$1 -/
def c75 : LCode :=
  .seq
   (.region [⟨(some 4), none, .op (.move (.const (.int .i64 0)))⟩])
   (.seq
    (.region [⟨(some 8), none, .op (.move (.tmp 0))⟩,
      ⟨(some 9), none, .op (.load none (.tmp 1))⟩,
      ⟨(some 10), none, .op (.bin .add (.tmp 9) (.const (.int .i64 1)))⟩,
      ⟨(some 11), none, .call 49 [(.tmp 8), (.tmp 10)]⟩,
      ⟨(some 7), none, .op (.move (.tmp 11))⟩,
      ⟨(some 12), none, .op (.ext 0 (.tmp 7))⟩,
      ⟨(some 13), none, .op (.ext 1 (.tmp 7))⟩,
      ⟨(some 5), none, .op (.alloc 40 (.one (.int .i64 0) (.one (.str ⟨#[]⟩) (.one (.slice ⟨0, [], 0⟩ 0 0 0 0 (some 0)) .nil))))⟩,
      ⟨none, none, .op (.store 3 (.tmp 5) (.tmp 12))⟩,
      ⟨(some 6), none, .op (.move (.tmp 13))⟩])
    (.seq
     (.draws [(0, [], ⟨(some 14), none, .op (.field 2 (.tmp 2))⟩),
       (1, [], ⟨(some 15), none, .op (.load none (.tmp 14))⟩),
       (2, [0, 1], ⟨(some 16), none, .op (.load (some 3) (.tmp 5))⟩),
       (3, [2], ⟨(some 17), none, .op (.lenSl (.tmp 15))⟩),
       (4, [0, 1, 2, 3], ⟨(some 18), none, .op (.bsl 3 1 40 (.one (.int .i64 0) (.one (.str ⟨#[]⟩) (.one (.slice ⟨0, [], 0⟩ 0 0 0 0 (some 0)) .nil))) [(0, (.const (.agg (.one (.int .i64 0) (.one (.str ⟨#[]⟩) (.one (.slice ⟨0, [], 0⟩ 0 0 0 0 (some 0)) .nil))))))])⟩),
       (5, [], ⟨(some 19), none, .op (.app 3 48 40 (.tmp 15) (.tmp 18))⟩),
       (6, [], ⟨(some 20), none, .op (.idxSl 3 (.tmp 19) (.tmp 17))⟩),
       (7, [], ⟨none, none, .op (.store 3 (.tmp 20) (.tmp 16))⟩),
       (8, [6, 7], ⟨(some 21), none, .op (.field 2 (.tmp 2))⟩),
       (9, [6, 7], ⟨none, none, .op (.store 1 (.tmp 21) (.tmp 19))⟩)])
     (.seq
      (.region [⟨(some 22), none, .op (.move (.tmp 6))⟩,
        ⟨(some 4), none, .op (.move (.tmp 22))⟩])
      (.ret))))
def r75 : List LRes := [.tmp 4]
theorem body75 : Try.f75.body.bind (compileC Try.prog) = some c75 := by kernel_rfl
theorem res75 : compileRes Try.prog Try.f75.results.toList = some r75 := by kernel_rfl
theorem has75 : hasBody Try.prog 75 = true := by kernel_rfl
theorem enter75 {args : LVals} {h : LHeap} {R : LEnd → LHeap → Prop} (hk : 23 - lvsLen args = 20) (hw : initK args 20 fun t => lwp Try.prog h.length c75 (bodyQ r75 R) t h) : LCalls Try.prog 75 args h R := LCalls.enter Try.func75 body75 has75 res75 _ (by rw [Try.ntmps75]; exact hk) hw
/-- slices.IndexFunc[[]palatine/api.Node,palatine/api.Node] -/
def c93 : LCode :=
  .seq
   (.region [⟨(some 4), none, .op (.move (.const (.int .i64 0)))⟩])
   (.seq
    (.seq
     (.region [⟨(some 6), none, .op (.move (.tmp 0))⟩,
       ⟨(some 7), none, .op (.lenSl (.tmp 6))⟩,
       ⟨(some 8), none, .op (.move (.const (.int .i64 0)))⟩])
     (.block 0
      (.loop
       (.seq
        (.region [⟨(some 9), none, .op (.bin .lss (.tmp 8) (.tmp 7))⟩])
        (.seq
         (.cond (.tmp 9)
          (.skip)
          (.exit 0))
         (.seq
          (.block 1
           (.seq
            (.region [⟨(some 10), none, .op (.move (.tmp 8))⟩,
              ⟨(some 5), none, .op (.move (.tmp 10))⟩])
            (.seq
             (.region [⟨(some 11), none, .op (.move (.tmp 1))⟩,
               ⟨(some 12), none, .op (.move (.tmp 0))⟩,
               ⟨(some 13), none, .op (.move (.tmp 5))⟩,
               ⟨(some 14), none, .op (.idxSl 3 (.tmp 12) (.tmp 13))⟩,
               ⟨(some 15), none, .op (.load (some 3) (.tmp 14))⟩,
               ⟨(some 16), none, .callv (.tmp 11) [(.tmp 15)]⟩])
             (.cond (.tmp 16)
              (.seq
               (.region [⟨(some 17), none, .op (.move (.tmp 5))⟩,
                 ⟨(some 4), none, .op (.move (.tmp 17))⟩])
               (.ret))
              (.skip)))))
          (.region [⟨(some 18), none, .op (.bin .add (.tmp 8) (.const (.int .i64 1)))⟩,
            ⟨(some 8), none, .op (.move (.tmp 18))⟩])))))))
    (.seq
     (.region [⟨(some 4), none, .op (.move (.const (.int .i64 (-1))))⟩])
     (.ret)))
def r93 : List LRes := [.tmp 4]
theorem body93 : Try.f93.body.bind (compileC Try.prog) = some c93 := by kernel_rfl
theorem res93 : compileRes Try.prog Try.f93.results.toList = some r93 := by kernel_rfl
theorem has93 : hasBody Try.prog 93 = true := by kernel_rfl
theorem enter93 {args : LVals} {h : LHeap} {R : LEnd → LHeap → Prop} (hk : 19 - lvsLen args = 17) (hw : initK args 17 fun t => lwp Try.prog h.length c93 (bodyQ r93 R) t h) : LCalls Try.prog 93 args h R := LCalls.enter Try.func93 body93 has93 res93 _ (by rw [Try.ntmps93]; exact hk) hw
/-- palatine/palatinelaw09.awake -/
def c26 : LCode :=
  .seq
   (.region [⟨(some 0), none, .op (.move (.const (.bool false)))⟩])
   (.seq
    (.region [⟨(some 17), none, .op (.bst (.one (.int .i64 0) (.one (.str ⟨#[]⟩) (.one (.slice ⟨0, [], 0⟩ 0 0 0 0 (some 0)) .nil))) [(0, 1, (.const (.int .i64 2))), (1, 1, (.const (.str ⟨#[5]⟩)))])⟩,
      ⟨(some 18), none, .op (.bst (.one (.int .i64 0) (.one (.str ⟨#[]⟩) (.one (.slice ⟨0, [], 0⟩ 0 0 0 0 (some 0)) .nil))) [(0, 1, (.const (.int .i64 4))), (1, 1, (.const (.str ⟨#[97, 98]⟩)))])⟩,
      ⟨(some 19), none, .op (.bsl 3 2 40 (.one (.int .i64 0) (.one (.str ⟨#[]⟩) (.one (.slice ⟨0, [], 0⟩ 0 0 0 0 (some 0)) .nil))) [(0, (.tmp 17)), (1, (.tmp 18))])⟩,
      ⟨(some 20), none, .op (.bst (.one (.int .i64 0) (.one (.str ⟨#[]⟩) (.one (.slice ⟨0, [], 0⟩ 0 0 0 0 (some 0)) .nil))) [(0, 1, (.const (.int .i64 48))), (2, 1, (.tmp 19))])⟩,
      ⟨(some 1), none, .op (.alloc 40 (.one (.int .i64 0) (.one (.str ⟨#[]⟩) (.one (.slice ⟨0, [], 0⟩ 0 0 0 0 (some 0)) .nil))))⟩,
      ⟨none, none, .op (.store 3 (.tmp 1) (.tmp 20))⟩])
    (.seq
     (.region [⟨(some 22), none, .op (.load (some 3) (.tmp 1))⟩,
       ⟨(some 23), none, .call 25 [(.tmp 22)]⟩,
       ⟨(some 21), none, .op (.move (.tmp 23))⟩,
       ⟨(some 24), none, .op (.ext 0 (.tmp 21))⟩,
       ⟨(some 25), none, .op (.ext 1 (.tmp 21))⟩,
       ⟨(some 2), none, .op (.move (.tmp 24))⟩,
       ⟨(some 3), none, .op (.move (.tmp 25))⟩])
     (.seq
      (.region [⟨(some 27), none, .op (.move (.tmp 2))⟩,
        ⟨(some 28), none, .op (.bin .add (.tmp 27) (.const (.str ⟨#[120]⟩)))⟩,
        ⟨(some 29), none, .call 27 [(.tmp 28)]⟩,
        ⟨(some 26), none, .op (.move (.tmp 29))⟩,
        ⟨(some 30), none, .op (.ext 0 (.tmp 26))⟩,
        ⟨(some 31), none, .op (.ext 1 (.tmp 26))⟩,
        ⟨(some 32), none, .op (.ext 2 (.tmp 26))⟩,
        ⟨(some 4), none, .op (.alloc 40 (.one (.int .i64 0) (.one (.str ⟨#[]⟩) (.one (.slice ⟨0, [], 0⟩ 0 0 0 0 (some 0)) .nil))))⟩,
        ⟨none, none, .op (.store 3 (.tmp 4) (.tmp 30))⟩,
        ⟨(some 5), none, .op (.move (.tmp 31))⟩,
        ⟨(some 6), none, .op (.move (.tmp 32))⟩])
      (.seq
       (.region [⟨(some 33), none, .op (.load (some 3) (.tmp 1))⟩,
         ⟨(some 34), none, .op (.load (some 3) (.tmp 4))⟩,
         ⟨(some 35), none, .call 29 [(.tmp 33), (.tmp 34)]⟩,
         ⟨(some 7), none, .op (.move (.tmp 35))⟩])
       (.seq
        (.region [⟨(some 37), none, .call 27 [(.const (.str ⟨#[48, 3, 2, 1]⟩))]⟩,
          ⟨(some 36), none, .op (.move (.tmp 37))⟩,
          ⟨(some 38), none, .op (.ext 0 (.tmp 36))⟩,
          ⟨(some 39), none, .op (.ext 1 (.tmp 36))⟩,
          ⟨(some 40), none, .op (.ext 2 (.tmp 36))⟩,
          ⟨(some 8), none, .op (.alloc 40 (.one (.int .i64 0) (.one (.str ⟨#[]⟩) (.one (.slice ⟨0, [], 0⟩ 0 0 0 0 (some 0)) .nil))))⟩,
          ⟨none, none, .op (.store 3 (.tmp 8) (.tmp 38))⟩,
          ⟨(some 9), none, .op (.move (.tmp 39))⟩,
          ⟨(some 10), none, .op (.move (.tmp 40))⟩])
        (.seq
         (.region [⟨(some 42), none, .call 27 [(.const (.str ⟨#[48, 3, 2, 2, 5]⟩))]⟩,
           ⟨(some 41), none, .op (.move (.tmp 42))⟩,
           ⟨(some 43), none, .op (.ext 0 (.tmp 41))⟩,
           ⟨(some 44), none, .op (.ext 1 (.tmp 41))⟩,
           ⟨(some 45), none, .op (.ext 2 (.tmp 41))⟩,
           ⟨(some 11), none, .op (.alloc 40 (.one (.int .i64 0) (.one (.str ⟨#[]⟩) (.one (.slice ⟨0, [], 0⟩ 0 0 0 0 (some 0)) .nil))))⟩,
           ⟨none, none, .op (.store 3 (.tmp 11) (.tmp 43))⟩,
           ⟨(some 12), none, .op (.move (.tmp 44))⟩,
           ⟨(some 13), none, .op (.move (.tmp 45))⟩])
         (.seq
          (.region [⟨(some 46), none, .call 32 [(.const (.int .i64 128))]⟩,
            ⟨(some 14), none, .op (.move (.tmp 46))⟩])
          (.seq
           (.region [⟨(some 48), none, .call 33 [(.const (.str ⟨#[0, 128]⟩))]⟩,
             ⟨(some 47), none, .op (.move (.tmp 48))⟩,
             ⟨(some 49), none, .op (.ext 0 (.tmp 47))⟩,
             ⟨(some 50), none, .op (.ext 1 (.tmp 47))⟩,
             ⟨(some 15), none, .op (.move (.tmp 49))⟩,
             ⟨(some 16), none, .op (.move (.tmp 50))⟩])
           (.seq
            (.region [⟨(some 51), none, .op (.move (.tmp 3))⟩,
              ⟨(some 52), none, .op (.bin .eql (.tmp 51) (.const (.int .i64 0)))⟩,
              ⟨(some 53), none, .op (.move (.tmp 52))⟩,
              ⟨(some 54), some (53, true), .op (.move (.tmp 2))⟩,
              ⟨(some 55), some (53, true), .op (.bin .eql (.tmp 54) (.const (.str ⟨#[48, 7, 2, 1, 5, 4, 2, 97, 98]⟩)))⟩,
              ⟨(some 56), none, .op (.pick (.tmp 53) (.tmp 55) (.const (.bool false)))⟩,
              ⟨(some 57), none, .op (.move (.tmp 56))⟩,
              ⟨(some 58), some (57, true), .op (.move (.tmp 6))⟩,
              ⟨(some 59), some (57, true), .op (.bin .eql (.tmp 58) (.const (.int .i64 0)))⟩,
              ⟨(some 60), none, .op (.pick (.tmp 57) (.tmp 59) (.const (.bool false)))⟩,
              ⟨(some 61), none, .op (.move (.tmp 60))⟩,
              ⟨(some 62), some (61, true), .op (.move (.tmp 5))⟩,
              ⟨(some 63), some (61, true), .op (.bin .eql (.tmp 62) (.const (.int .i64 9)))⟩,
              ⟨(some 64), none, .op (.pick (.tmp 61) (.tmp 63) (.const (.bool false)))⟩,
              ⟨(some 65), none, .op (.move (.tmp 64))⟩,
              ⟨(some 66), some (65, true), .op (.move (.tmp 7))⟩,
              ⟨(some 67), none, .op (.pick (.tmp 65) (.tmp 66) (.const (.bool false)))⟩,
              ⟨(some 68), none, .op (.move (.tmp 67))⟩,
              ⟨(some 69), some (68, true), .op (.move (.tmp 10))⟩,
              ⟨(some 70), some (68, true), .op (.bin .eql (.tmp 69) (.const (.int .i64 92)))⟩,
              ⟨(some 71), none, .op (.pick (.tmp 68) (.tmp 70) (.const (.bool false)))⟩,
              ⟨(some 72), none, .op (.move (.tmp 71))⟩,
              ⟨(some 73), some (72, true), .op (.move (.tmp 13))⟩,
              ⟨(some 74), some (72, true), .op (.bin .eql (.tmp 73) (.const (.int .i64 90)))⟩,
              ⟨(some 75), none, .op (.pick (.tmp 72) (.tmp 74) (.const (.bool false)))⟩,
              ⟨(some 76), none, .op (.move (.tmp 75))⟩,
              ⟨(some 77), some (76, true), .op (.move (.tmp 14))⟩,
              ⟨(some 78), some (76, true), .op (.bin .eql (.tmp 77) (.const (.str ⟨#[0, 128]⟩)))⟩,
              ⟨(some 79), none, .op (.pick (.tmp 76) (.tmp 78) (.const (.bool false)))⟩,
              ⟨(some 80), none, .op (.move (.tmp 79))⟩,
              ⟨(some 81), some (80, true), .op (.move (.tmp 15))⟩,
              ⟨(some 82), some (80, true), .op (.bin .eql (.tmp 81) (.const (.int .i64 128)))⟩,
              ⟨(some 83), none, .op (.pick (.tmp 80) (.tmp 82) (.const (.bool false)))⟩,
              ⟨(some 84), none, .op (.move (.tmp 83))⟩,
              ⟨(some 85), some (84, true), .op (.move (.tmp 16))⟩,
              ⟨(some 86), none, .op (.pick (.tmp 84) (.tmp 85) (.const (.bool false)))⟩,
              ⟨(some 0), none, .op (.move (.tmp 86))⟩])
            (.ret))))))))))
def r26 : List LRes := [.tmp 0]
theorem body26 : Try.f26.body.bind (compileC Try.prog) = some c26 := by kernel_rfl
theorem res26 : compileRes Try.prog Try.f26.results.toList = some r26 := by kernel_rfl
theorem has26 : hasBody Try.prog 26 = true := by kernel_rfl
theorem enter26 {args : LVals} {h : LHeap} {R : LEnd → LHeap → Prop} (hk : 87 - lvsLen args = 87) (hw : initK args 87 fun t => lwp Try.prog h.length c26 (bodyQ r26 R) t h) : LCalls Try.prog 26 args h R := LCalls.enter Try.func26 body26 has26 res26 _ (by rw [Try.ntmps26]; exact hk) hw
/-- palatine/palatinelaw09.BerReads -/
def c7 : LCode :=
  .seq
   (.region [⟨(some 2), none, .op (.move (.const (.bool false)))⟩])
   (.seq
    (.region [⟨(some 19), none, .call 26 []⟩,
      ⟨(some 3), none, .op (.move (.tmp 19))⟩])
    (.seq
     (.region [⟨(some 21), none, .op (.move (.tmp 0))⟩,
       ⟨(some 22), none, .call 27 [(.tmp 21)]⟩,
       ⟨(some 20), none, .op (.move (.tmp 22))⟩,
       ⟨(some 23), none, .op (.ext 0 (.tmp 20))⟩,
       ⟨(some 24), none, .op (.ext 1 (.tmp 20))⟩,
       ⟨(some 25), none, .op (.ext 2 (.tmp 20))⟩,
       ⟨(some 4), none, .op (.alloc 40 (.one (.int .i64 0) (.one (.str ⟨#[]⟩) (.one (.slice ⟨0, [], 0⟩ 0 0 0 0 (some 0)) .nil))))⟩,
       ⟨none, none, .op (.store 3 (.tmp 4) (.tmp 23))⟩,
       ⟨(some 5), none, .op (.move (.tmp 24))⟩,
       ⟨(some 6), none, .op (.move (.tmp 25))⟩])
     (.seq
      (.region [⟨(some 27), none, .op (.move (.tmp 0))⟩,
        ⟨(some 28), none, .call 28 [(.tmp 27)]⟩,
        ⟨(some 26), none, .op (.move (.tmp 28))⟩,
        ⟨(some 29), none, .op (.ext 0 (.tmp 26))⟩,
        ⟨(some 30), none, .op (.ext 1 (.tmp 26))⟩,
        ⟨(some 31), none, .op (.ext 2 (.tmp 26))⟩,
        ⟨(some 7), none, .op (.alloc 40 (.one (.int .i64 0) (.one (.str ⟨#[]⟩) (.one (.slice ⟨0, [], 0⟩ 0 0 0 0 (some 0)) .nil))))⟩,
        ⟨none, none, .op (.store 3 (.tmp 7) (.tmp 29))⟩,
        ⟨(some 8), none, .op (.move (.tmp 30))⟩,
        ⟨(some 9), none, .op (.move (.tmp 31))⟩])
      (.seq
       (.region [⟨(some 32), none, .op (.load (some 3) (.tmp 4))⟩,
         ⟨(some 33), none, .op (.load (some 3) (.tmp 7))⟩,
         ⟨(some 34), none, .call 29 [(.tmp 32), (.tmp 33)]⟩,
         ⟨(some 10), none, .op (.move (.tmp 34))⟩])
       (.seq
        (.seq
         (.region [⟨(some 35), none, .op (.move (.tmp 10))⟩,
           ⟨(some 36), none, .op (.un .not (.tmp 35))⟩,
           ⟨(some 37), none, .op (.move (.tmp 36))⟩,
           ⟨(some 38), some (37, false), .op (.move (.tmp 5))⟩,
           ⟨(some 39), some (37, false), .op (.move (.tmp 8))⟩,
           ⟨(some 40), some (37, false), .op (.bin .neq (.tmp 38) (.tmp 39))⟩,
           ⟨(some 41), none, .op (.pick (.tmp 37) (.const (.bool true)) (.tmp 40))⟩,
           ⟨(some 42), none, .op (.move (.tmp 41))⟩,
           ⟨(some 43), some (42, false), .op (.move (.tmp 6))⟩,
           ⟨(some 44), some (42, false), .op (.move (.tmp 9))⟩,
           ⟨(some 45), some (42, false), .op (.bin .neq (.tmp 43) (.tmp 44))⟩,
           ⟨(some 46), none, .op (.pick (.tmp 42) (.const (.bool true)) (.tmp 45))⟩])
         (.cond (.tmp 46)
          (.seq
           (.region [⟨(some 2), none, .op (.move (.const (.bool false)))⟩])
           (.ret))
          (.skip)))
        (.seq
         (.region [⟨(some 48), none, .op (.move (.tmp 0))⟩,
           ⟨(some 49), none, .call 30 [(.tmp 48)]⟩,
           ⟨(some 47), none, .op (.move (.tmp 49))⟩,
           ⟨(some 50), none, .op (.ext 0 (.tmp 47))⟩,
           ⟨(some 51), none, .op (.ext 1 (.tmp 47))⟩,
           ⟨(some 52), none, .op (.ext 2 (.tmp 47))⟩,
           ⟨(some 53), none, .op (.ext 3 (.tmp 47))⟩,
           ⟨(some 11), none, .op (.move (.tmp 50))⟩,
           ⟨(some 12), none, .op (.move (.tmp 51))⟩,
           ⟨(some 13), none, .op (.move (.tmp 52))⟩,
           ⟨(some 14), none, .op (.move (.tmp 53))⟩])
         (.seq
          (.region [⟨(some 55), none, .op (.move (.tmp 0))⟩,
            ⟨(some 56), none, .call 31 [(.tmp 55)]⟩,
            ⟨(some 54), none, .op (.move (.tmp 56))⟩,
            ⟨(some 57), none, .op (.ext 0 (.tmp 54))⟩,
            ⟨(some 58), none, .op (.ext 1 (.tmp 54))⟩,
            ⟨(some 59), none, .op (.ext 2 (.tmp 54))⟩,
            ⟨(some 60), none, .op (.ext 3 (.tmp 54))⟩,
            ⟨(some 15), none, .op (.move (.tmp 57))⟩,
            ⟨(some 16), none, .op (.move (.tmp 58))⟩,
            ⟨(some 17), none, .op (.move (.tmp 59))⟩,
            ⟨(some 18), none, .op (.move (.tmp 60))⟩])
          (.seq
           (.region [⟨(some 61), none, .op (.move (.tmp 3))⟩,
             ⟨(some 62), none, .op (.move (.tmp 61))⟩,
             ⟨(some 63), some (62, true), .op (.move (.tmp 11))⟩,
             ⟨(some 64), some (62, true), .op (.move (.tmp 15))⟩,
             ⟨(some 65), some (62, true), .op (.bin .eql (.tmp 63) (.tmp 64))⟩,
             ⟨(some 66), none, .op (.pick (.tmp 62) (.tmp 65) (.const (.bool false)))⟩,
             ⟨(some 67), none, .op (.move (.tmp 66))⟩,
             ⟨(some 68), some (67, true), .op (.move (.tmp 12))⟩,
             ⟨(some 69), some (67, true), .op (.move (.tmp 16))⟩,
             ⟨(some 70), some (67, true), .op (.bin .eql (.tmp 68) (.tmp 69))⟩,
             ⟨(some 71), none, .op (.pick (.tmp 67) (.tmp 70) (.const (.bool false)))⟩,
             ⟨(some 72), none, .op (.move (.tmp 71))⟩,
             ⟨(some 73), some (72, true), .op (.move (.tmp 13))⟩,
             ⟨(some 74), some (72, true), .op (.move (.tmp 17))⟩,
             ⟨(some 75), some (72, true), .op (.bin .eql (.tmp 73) (.tmp 74))⟩,
             ⟨(some 76), none, .op (.pick (.tmp 72) (.tmp 75) (.const (.bool false)))⟩,
             ⟨(some 77), none, .op (.move (.tmp 76))⟩,
             ⟨(some 78), some (77, true), .op (.move (.tmp 14))⟩,
             ⟨(some 79), some (77, true), .op (.move (.tmp 18))⟩,
             ⟨(some 80), some (77, true), .op (.bin .eql (.tmp 78) (.tmp 79))⟩,
             ⟨(some 81), none, .op (.pick (.tmp 77) (.tmp 80) (.const (.bool false)))⟩,
             ⟨(some 2), none, .op (.move (.tmp 81))⟩])
           (.ret)))))))))
def r7 : List LRes := [.tmp 2]
theorem body7 : Try.f7.body.bind (compileC Try.prog) = some c7 := by kernel_rfl
theorem res7 : compileRes Try.prog Try.f7.results.toList = some r7 := by kernel_rfl
theorem has7 : hasBody Try.prog 7 = true := by kernel_rfl
theorem enter7 {args : LVals} {h : LHeap} {R : LEnd → LHeap → Prop} (hk : 82 - lvsLen args = 81) (hw : initK args 81 fun t => lwp Try.prog h.length c7 (bodyQ r7 R) t h) : LCalls Try.prog 7 args h R := LCalls.enter Try.func7 body7 has7 res7 _ (by rw [Try.ntmps7]; exact hk) hw
/-- palatine/palatinelaw09.BerBack -/
def c8 : LCode :=
  .seq
   (.region [⟨(some 2), none, .op (.box 40 3 (.tmp 0))⟩,
     ⟨(some 4), none, .op (.move (.const (.bool false)))⟩])
   (.seq
    (.region [⟨(some 12), none, .call 26 []⟩,
      ⟨(some 5), none, .op (.move (.tmp 12))⟩])
    (.seq
     (.region [⟨(some 14), none, .op (.load (some 3) (.tmp 2))⟩,
       ⟨(some 15), none, .call 25 [(.tmp 14)]⟩,
       ⟨(some 13), none, .op (.move (.tmp 15))⟩,
       ⟨(some 16), none, .op (.ext 0 (.tmp 13))⟩,
       ⟨(some 17), none, .op (.ext 1 (.tmp 13))⟩,
       ⟨(some 6), none, .op (.move (.tmp 16))⟩,
       ⟨(some 7), none, .op (.move (.tmp 17))⟩])
     (.seq
      (.seq
       (.region [⟨(some 18), none, .op (.move (.tmp 7))⟩,
         ⟨(some 19), none, .op (.bin .neq (.tmp 18) (.const (.int .i64 0)))⟩])
       (.cond (.tmp 19)
        (.seq
         (.region [⟨(some 20), none, .op (.move (.tmp 5))⟩,
           ⟨(some 21), none, .op (.move (.tmp 20))⟩,
           ⟨(some 22), some (21, true), .op (.move (.tmp 6))⟩,
           ⟨(some 23), some (21, true), .op (.bin .eql (.tmp 22) (.const (.str ⟨#[]⟩)))⟩,
           ⟨(some 24), none, .op (.pick (.tmp 21) (.tmp 23) (.const (.bool false)))⟩,
           ⟨(some 4), none, .op (.move (.tmp 24))⟩])
         (.ret))
        (.skip)))
      (.seq
       (.region [⟨(some 26), none, .op (.move (.tmp 6))⟩,
         ⟨(some 27), none, .op (.move (.tmp 1))⟩,
         ⟨(some 28), none, .op (.bin .add (.tmp 26) (.tmp 27))⟩,
         ⟨(some 29), none, .call 27 [(.tmp 28)]⟩,
         ⟨(some 25), none, .op (.move (.tmp 29))⟩,
         ⟨(some 30), none, .op (.ext 0 (.tmp 25))⟩,
         ⟨(some 31), none, .op (.ext 1 (.tmp 25))⟩,
         ⟨(some 32), none, .op (.ext 2 (.tmp 25))⟩,
         ⟨(some 8), none, .op (.alloc 40 (.one (.int .i64 0) (.one (.str ⟨#[]⟩) (.one (.slice ⟨0, [], 0⟩ 0 0 0 0 (some 0)) .nil))))⟩,
         ⟨none, none, .op (.store 3 (.tmp 8) (.tmp 30))⟩,
         ⟨(some 9), none, .op (.move (.tmp 31))⟩,
         ⟨(some 10), none, .op (.move (.tmp 32))⟩])
       (.seq
        (.region [⟨(some 33), none, .op (.load (some 3) (.tmp 2))⟩,
          ⟨(some 34), none, .op (.load (some 3) (.tmp 8))⟩,
          ⟨(some 35), none, .call 29 [(.tmp 33), (.tmp 34)]⟩,
          ⟨(some 11), none, .op (.move (.tmp 35))⟩])
        (.seq
         (.region [⟨(some 36), none, .op (.move (.tmp 5))⟩,
           ⟨(some 37), none, .op (.move (.tmp 36))⟩,
           ⟨(some 38), some (37, true), .op (.move (.tmp 10))⟩,
           ⟨(some 39), some (37, true), .op (.bin .eql (.tmp 38) (.const (.int .i64 0)))⟩,
           ⟨(some 40), none, .op (.pick (.tmp 37) (.tmp 39) (.const (.bool false)))⟩,
           ⟨(some 41), none, .op (.move (.tmp 40))⟩,
           ⟨(some 42), some (41, true), .op (.move (.tmp 9))⟩,
           ⟨(some 43), some (41, true), .op (.move (.tmp 6))⟩,
           ⟨(some 44), some (41, true), .op (.lenStr (.tmp 43))⟩,
           ⟨(some 45), some (41, true), .op (.bin .eql (.tmp 42) (.tmp 44))⟩,
           ⟨(some 46), none, .op (.pick (.tmp 41) (.tmp 45) (.const (.bool false)))⟩,
           ⟨(some 47), none, .op (.move (.tmp 46))⟩,
           ⟨(some 48), some (47, true), .op (.move (.tmp 11))⟩,
           ⟨(some 49), none, .op (.pick (.tmp 47) (.tmp 48) (.const (.bool false)))⟩,
           ⟨(some 4), none, .op (.move (.tmp 49))⟩])
         (.ret)))))))
def r8 : List LRes := [.tmp 4]
theorem body8 : Try.f8.body.bind (compileC Try.prog) = some c8 := by kernel_rfl
theorem res8 : compileRes Try.prog Try.f8.results.toList = some r8 := by kernel_rfl
theorem has8 : hasBody Try.prog 8 = true := by kernel_rfl
theorem enter8 {args : LVals} {h : LHeap} {R : LEnd → LHeap → Prop} (hk : 50 - lvsLen args = 48) (hw : initK args 48 fun t => lwp Try.prog h.length c8 (bodyQ r8 R) t h) : LCalls Try.prog 8 args h R := LCalls.enter Try.func8 body8 has8 res8 _ (by rw [Try.ntmps8]; exact hk) hw
/-- palatine/palatinelaw09.BerOnly -/
def c9 : LCode :=
  .seq
   (.region [⟨(some 2), none, .op (.move (.const (.bool false)))⟩])
   (.seq
    (.region [⟨(some 9), none, .call 26 []⟩,
      ⟨(some 3), none, .op (.move (.tmp 9))⟩])
    (.seq
     (.region [⟨(some 11), none, .op (.move (.tmp 0))⟩,
       ⟨(some 12), none, .call 27 [(.tmp 11)]⟩,
       ⟨(some 10), none, .op (.move (.tmp 12))⟩,
       ⟨(some 13), none, .op (.ext 0 (.tmp 10))⟩,
       ⟨(some 14), none, .op (.ext 1 (.tmp 10))⟩,
       ⟨(some 15), none, .op (.ext 2 (.tmp 10))⟩,
       ⟨(some 4), none, .op (.alloc 40 (.one (.int .i64 0) (.one (.str ⟨#[]⟩) (.one (.slice ⟨0, [], 0⟩ 0 0 0 0 (some 0)) .nil))))⟩,
       ⟨none, none, .op (.store 3 (.tmp 4) (.tmp 13))⟩,
       ⟨(some 5), none, .op (.move (.tmp 14))⟩,
       ⟨(some 6), none, .op (.move (.tmp 15))⟩])
     (.seq
      (.seq
       (.region [⟨(some 16), none, .op (.move (.tmp 6))⟩,
         ⟨(some 17), none, .op (.bin .neq (.tmp 16) (.const (.int .i64 0)))⟩])
       (.cond (.tmp 17)
        (.seq
         (.region [⟨(some 18), none, .op (.move (.tmp 3))⟩,
           ⟨(some 19), none, .op (.move (.tmp 18))⟩,
           ⟨(some 20), some (19, true), .op (.move (.tmp 5))⟩,
           ⟨(some 21), some (19, true), .op (.bin .eql (.tmp 20) (.const (.int .i64 0)))⟩,
           ⟨(some 22), none, .op (.pick (.tmp 19) (.tmp 21) (.const (.bool false)))⟩,
           ⟨(some 2), none, .op (.move (.tmp 22))⟩])
         (.ret))
        (.skip)))
      (.seq
       (.seq
        (.region [⟨(some 23), none, .op (.move (.tmp 5))⟩,
          ⟨(some 24), none, .op (.bin .lss (.tmp 23) (.const (.int .i64 2)))⟩,
          ⟨(some 25), none, .op (.move (.tmp 24))⟩,
          ⟨(some 26), some (25, false), .op (.move (.tmp 5))⟩,
          ⟨(some 27), some (25, false), .op (.move (.tmp 0))⟩,
          ⟨(some 28), some (25, false), .op (.lenStr (.tmp 27))⟩,
          ⟨(some 29), some (25, false), .op (.bin .gtr (.tmp 26) (.tmp 28))⟩,
          ⟨(some 30), none, .op (.pick (.tmp 25) (.const (.bool true)) (.tmp 29))⟩])
        (.cond (.tmp 30)
         (.seq
          (.region [⟨(some 2), none, .op (.move (.const (.bool false)))⟩])
          (.ret))
         (.skip)))
       (.seq
        (.region [⟨(some 32), none, .op (.load (some 3) (.tmp 4))⟩,
          ⟨(some 33), none, .call 25 [(.tmp 32)]⟩,
          ⟨(some 31), none, .op (.move (.tmp 33))⟩,
          ⟨(some 34), none, .op (.ext 0 (.tmp 31))⟩,
          ⟨(some 35), none, .op (.ext 1 (.tmp 31))⟩,
          ⟨(some 7), none, .op (.move (.tmp 34))⟩,
          ⟨(some 8), none, .op (.move (.tmp 35))⟩])
        (.seq
         (.region [⟨(some 36), none, .op (.move (.tmp 3))⟩,
           ⟨(some 37), none, .op (.move (.tmp 36))⟩,
           ⟨(some 38), some (37, true), .op (.move (.tmp 8))⟩,
           ⟨(some 39), some (37, true), .op (.bin .eql (.tmp 38) (.const (.int .i64 0)))⟩,
           ⟨(some 40), none, .op (.pick (.tmp 37) (.tmp 39) (.const (.bool false)))⟩,
           ⟨(some 41), none, .op (.move (.tmp 40))⟩,
           ⟨(some 42), some (41, true), .op (.move (.tmp 7))⟩,
           ⟨(some 43), some (41, true), .op (.move (.tmp 0))⟩,
           ⟨(some 44), some (41, true), .op (.move (.tmp 5))⟩,
           ⟨(some 45), some (41, true), .op (.slStr (.tmp 43) none (some (.tmp 44)))⟩,
           ⟨(some 46), some (41, true), .op (.bin .eql (.tmp 42) (.tmp 45))⟩,
           ⟨(some 47), none, .op (.pick (.tmp 41) (.tmp 46) (.const (.bool false)))⟩,
           ⟨(some 2), none, .op (.move (.tmp 47))⟩])
         (.ret)))))))
def r9 : List LRes := [.tmp 2]
theorem body9 : Try.f9.body.bind (compileC Try.prog) = some c9 := by kernel_rfl
theorem res9 : compileRes Try.prog Try.f9.results.toList = some r9 := by kernel_rfl
theorem has9 : hasBody Try.prog 9 = true := by kernel_rfl
theorem enter9 {args : LVals} {h : LHeap} {R : LEnd → LHeap → Prop} (hk : 48 - lvsLen args = 47) (hw : initK args 47 fun t => lwp Try.prog h.length c9 (bodyQ r9 R) t h) : LCalls Try.prog 9 args h R := LCalls.enter Try.func9 body9 has9 res9 _ (by rw [Try.ntmps9]; exact hk) hw
/-- palatine/palatinelaw09.BerCut -/
def c10 : LCode :=
  .seq
   (.region [⟨(some 2), none, .op (.box 40 3 (.tmp 0))⟩,
     ⟨(some 4), none, .op (.move (.const (.bool false)))⟩])
   (.seq
    (.region [⟨(some 11), none, .call 26 []⟩,
      ⟨(some 5), none, .op (.move (.tmp 11))⟩])
    (.seq
     (.region [⟨(some 13), none, .op (.load (some 3) (.tmp 2))⟩,
       ⟨(some 14), none, .call 25 [(.tmp 13)]⟩,
       ⟨(some 12), none, .op (.move (.tmp 14))⟩,
       ⟨(some 15), none, .op (.ext 0 (.tmp 12))⟩,
       ⟨(some 16), none, .op (.ext 1 (.tmp 12))⟩,
       ⟨(some 6), none, .op (.move (.tmp 15))⟩,
       ⟨(some 7), none, .op (.move (.tmp 16))⟩])
     (.seq
      (.seq
       (.region [⟨(some 17), none, .op (.move (.tmp 7))⟩,
         ⟨(some 18), none, .op (.bin .neq (.tmp 17) (.const (.int .i64 0)))⟩,
         ⟨(some 19), none, .op (.move (.tmp 18))⟩,
         ⟨(some 20), some (19, false), .op (.move (.tmp 1))⟩,
         ⟨(some 21), some (19, false), .op (.bin .lss (.tmp 20) (.const (.int .i64 0)))⟩,
         ⟨(some 22), none, .op (.pick (.tmp 19) (.const (.bool true)) (.tmp 21))⟩,
         ⟨(some 23), none, .op (.move (.tmp 22))⟩,
         ⟨(some 24), some (23, false), .op (.move (.tmp 1))⟩,
         ⟨(some 25), some (23, false), .op (.move (.tmp 6))⟩,
         ⟨(some 26), some (23, false), .op (.lenStr (.tmp 25))⟩,
         ⟨(some 27), some (23, false), .op (.bin .geq (.tmp 24) (.tmp 26))⟩,
         ⟨(some 28), none, .op (.pick (.tmp 23) (.const (.bool true)) (.tmp 27))⟩])
       (.cond (.tmp 28)
        (.seq
         (.region [⟨(some 29), none, .op (.move (.tmp 5))⟩,
           ⟨(some 4), none, .op (.move (.tmp 29))⟩])
         (.ret))
        (.skip)))
      (.seq
       (.region [⟨(some 31), none, .op (.move (.tmp 6))⟩,
         ⟨(some 32), none, .op (.move (.tmp 1))⟩,
         ⟨(some 33), none, .op (.slStr (.tmp 31) none (some (.tmp 32)))⟩,
         ⟨(some 34), none, .call 27 [(.tmp 33)]⟩,
         ⟨(some 30), none, .op (.move (.tmp 34))⟩,
         ⟨(some 35), none, .op (.ext 0 (.tmp 30))⟩,
         ⟨(some 36), none, .op (.ext 1 (.tmp 30))⟩,
         ⟨(some 37), none, .op (.ext 2 (.tmp 30))⟩,
         ⟨(some 8), none, .op (.alloc 40 (.one (.int .i64 0) (.one (.str ⟨#[]⟩) (.one (.slice ⟨0, [], 0⟩ 0 0 0 0 (some 0)) .nil))))⟩,
         ⟨none, none, .op (.store 3 (.tmp 8) (.tmp 35))⟩,
         ⟨(some 9), none, .op (.move (.tmp 36))⟩,
         ⟨(some 10), none, .op (.move (.tmp 37))⟩])
       (.seq
        (.region [⟨(some 38), none, .op (.move (.tmp 5))⟩,
          ⟨(some 39), none, .op (.move (.tmp 38))⟩,
          ⟨(some 40), some (39, true), .op (.move (.tmp 9))⟩,
          ⟨(some 41), some (39, true), .op (.bin .eql (.tmp 40) (.const (.int .i64 0)))⟩,
          ⟨(some 42), none, .op (.pick (.tmp 39) (.tmp 41) (.const (.bool false)))⟩,
          ⟨(some 43), none, .op (.move (.tmp 42))⟩,
          ⟨(some 44), some (43, true), .op (.move (.tmp 10))⟩,
          ⟨(some 45), some (43, true), .op (.bin .eql (.tmp 44) (.const (.int .i64 92)))⟩,
          ⟨(some 46), none, .op (.pick (.tmp 43) (.tmp 45) (.const (.bool false)))⟩,
          ⟨(some 4), none, .op (.move (.tmp 46))⟩])
        (.ret))))))
def r10 : List LRes := [.tmp 4]
theorem body10 : Try.f10.body.bind (compileC Try.prog) = some c10 := by kernel_rfl
theorem res10 : compileRes Try.prog Try.f10.results.toList = some r10 := by kernel_rfl
theorem has10 : hasBody Try.prog 10 = true := by kernel_rfl
theorem enter10 {args : LVals} {h : LHeap} {R : LEnd → LHeap → Prop} (hk : 47 - lvsLen args = 45) (hw : initK args 45 fun t => lwp Try.prog h.length c10 (bodyQ r10 R) t h) : LCalls Try.prog 10 args h R := LCalls.enter Try.func10 body10 has10 res10 _ (by rw [Try.ntmps10]; exact hk) hw
/-- palatine/palatinelaw09.BerNumbers -/
def c11 : LCode :=
  .seq
   (.region [⟨(some 4), none, .op (.move (.const (.bool false)))⟩])
   (.seq
    (.region [⟨(some 15), none, .call 26 []⟩,
      ⟨(some 5), none, .op (.move (.tmp 15))⟩])
    (.seq
     (.region [⟨(some 16), none, .op (.move (.tmp 0))⟩,
       ⟨(some 17), none, .call 32 [(.tmp 16)]⟩,
       ⟨(some 6), none, .op (.move (.tmp 17))⟩])
     (.seq
      (.region [⟨(some 19), none, .op (.move (.tmp 6))⟩,
        ⟨(some 20), none, .call 33 [(.tmp 19)]⟩,
        ⟨(some 18), none, .op (.move (.tmp 20))⟩,
        ⟨(some 21), none, .op (.ext 0 (.tmp 18))⟩,
        ⟨(some 22), none, .op (.ext 1 (.tmp 18))⟩,
        ⟨(some 7), none, .op (.move (.tmp 21))⟩,
        ⟨(some 8), none, .op (.move (.tmp 22))⟩])
      (.seq
       (.region [⟨(some 23), none, .op (.move (.tmp 0))⟩,
         ⟨(some 24), none, .op (.bin .geq (.tmp 23) (.const (.int .i64 (-2147483648))))⟩,
         ⟨(some 25), none, .op (.move (.tmp 24))⟩,
         ⟨(some 26), some (25, true), .op (.move (.tmp 0))⟩,
         ⟨(some 27), some (25, true), .op (.bin .lss (.tmp 26) (.const (.int .i64 2147483648)))⟩,
         ⟨(some 28), none, .op (.pick (.tmp 25) (.tmp 27) (.const (.bool false)))⟩,
         ⟨(some 9), none, .op (.move (.tmp 28))⟩])
       (.seq
        (.seq
         (.region [⟨(some 29), none, .op (.move (.tmp 8))⟩,
           ⟨(some 30), none, .op (.move (.tmp 9))⟩,
           ⟨(some 31), none, .op (.beq true (.tmp 29) (.tmp 30))⟩,
           ⟨(some 32), none, .op (.move (.tmp 31))⟩,
           ⟨(some 33), some (32, false), .op (.move (.tmp 8))⟩,
           ⟨(some 34), some (32, false), .op (.move (.tmp 33))⟩,
           ⟨(some 35), some (34, true), .op (.move (.tmp 7))⟩,
           ⟨(some 36), some (34, true), .op (.move (.tmp 0))⟩,
           ⟨(some 37), some (34, true), .op (.bin .neq (.tmp 35) (.tmp 36))⟩,
           ⟨(some 38), some (32, false), .op (.pick (.tmp 34) (.tmp 37) (.const (.bool false)))⟩,
           ⟨(some 39), none, .op (.pick (.tmp 32) (.const (.bool true)) (.tmp 38))⟩,
           ⟨(some 40), none, .op (.move (.tmp 39))⟩,
           ⟨(some 41), some (40, false), .op (.move (.tmp 8))⟩,
           ⟨(some 42), some (40, false), .op (.un .not (.tmp 41))⟩,
           ⟨(some 43), some (40, false), .op (.move (.tmp 42))⟩,
           ⟨(some 44), some (43, true), .op (.move (.tmp 7))⟩,
           ⟨(some 45), some (43, true), .op (.bin .neq (.tmp 44) (.const (.int .i64 0)))⟩,
           ⟨(some 46), some (40, false), .op (.pick (.tmp 43) (.tmp 45) (.const (.bool false)))⟩,
           ⟨(some 47), none, .op (.pick (.tmp 40) (.const (.bool true)) (.tmp 46))⟩,
           ⟨(some 48), none, .op (.move (.tmp 47))⟩,
           ⟨(some 49), some (48, false), .op (.move (.tmp 6))⟩,
           ⟨(some 50), some (48, false), .op (.lenStr (.tmp 49))⟩,
           ⟨(some 51), some (48, false), .op (.bin .lss (.tmp 50) (.const (.int .i64 1)))⟩,
           ⟨(some 52), none, .op (.pick (.tmp 48) (.const (.bool true)) (.tmp 51))⟩,
           ⟨(some 53), none, .op (.move (.tmp 52))⟩,
           ⟨(some 54), some (53, false), .op (.move (.tmp 6))⟩,
           ⟨(some 55), some (53, false), .op (.lenStr (.tmp 54))⟩,
           ⟨(some 56), some (53, false), .op (.bin .gtr (.tmp 55) (.const (.int .i64 8)))⟩,
           ⟨(some 57), none, .op (.pick (.tmp 53) (.const (.bool true)) (.tmp 56))⟩])
         (.cond (.tmp 57)
          (.seq
           (.region [⟨(some 4), none, .op (.move (.const (.bool false)))⟩])
           (.ret))
          (.skip)))
        (.seq
         (.region [⟨(some 59), none, .op (.move (.tmp 1))⟩,
           ⟨(some 60), none, .call 33 [(.tmp 59)]⟩,
           ⟨(some 58), none, .op (.move (.tmp 60))⟩,
           ⟨(some 61), none, .op (.ext 0 (.tmp 58))⟩,
           ⟨(some 62), none, .op (.ext 1 (.tmp 58))⟩,
           ⟨(some 10), none, .op (.move (.tmp 61))⟩,
           ⟨(some 11), none, .op (.move (.tmp 62))⟩])
         (.seq
          (.region [⟨(some 64), none, .op (.move (.tmp 1))⟩,
            ⟨(some 65), none, .call 34 [(.tmp 64)]⟩,
            ⟨(some 63), none, .op (.move (.tmp 65))⟩,
            ⟨(some 66), none, .op (.ext 0 (.tmp 63))⟩,
            ⟨(some 67), none, .op (.ext 1 (.tmp 63))⟩,
            ⟨(some 12), none, .op (.move (.tmp 66))⟩,
            ⟨(some 13), none, .op (.move (.tmp 67))⟩])
          (.seq
           (.seq
            (.region [⟨(some 68), none, .op (.move (.tmp 10))⟩,
              ⟨(some 69), none, .op (.move (.tmp 12))⟩,
              ⟨(some 70), none, .op (.bin .neq (.tmp 68) (.tmp 69))⟩,
              ⟨(some 71), none, .op (.move (.tmp 70))⟩,
              ⟨(some 72), some (71, false), .op (.move (.tmp 11))⟩,
              ⟨(some 73), some (71, false), .op (.move (.tmp 13))⟩,
              ⟨(some 74), some (71, false), .op (.beq true (.tmp 72) (.tmp 73))⟩,
              ⟨(some 75), none, .op (.pick (.tmp 71) (.const (.bool true)) (.tmp 74))⟩])
            (.cond (.tmp 75)
             (.seq
              (.region [⟨(some 4), none, .op (.move (.const (.bool false)))⟩])
              (.ret))
             (.skip)))
           (.seq
            (.region [⟨(some 76), none, .op (.move (.tmp 10))⟩,
              ⟨(some 77), none, .call 32 [(.tmp 76)]⟩,
              ⟨(some 14), none, .op (.move (.tmp 77))⟩])
            (.seq
             (.region [⟨(some 78), none, .op (.move (.tmp 5))⟩,
               ⟨(some 79), none, .op (.move (.tmp 78))⟩,
               ⟨(some 80), some (79, true), .op (.move (.tmp 11))⟩,
               ⟨(some 81), some (79, true), .op (.un .not (.tmp 80))⟩,
               ⟨(some 82), some (79, true), .op (.move (.tmp 81))⟩,
               ⟨(some 83), some (82, false), .op (.move (.tmp 14))⟩,
               ⟨(some 84), some (82, false), .op (.move (.tmp 1))⟩,
               ⟨(some 85), some (82, false), .op (.bin .eql (.tmp 83) (.tmp 84))⟩,
               ⟨(some 86), some (79, true), .op (.pick (.tmp 82) (.const (.bool true)) (.tmp 85))⟩,
               ⟨(some 87), none, .op (.pick (.tmp 79) (.tmp 86) (.const (.bool false)))⟩,
               ⟨(some 4), none, .op (.move (.tmp 87))⟩])
             (.ret)))))))))))
def r11 : List LRes := [.tmp 4]
theorem body11 : Try.f11.body.bind (compileC Try.prog) = some c11 := by kernel_rfl
theorem res11 : compileRes Try.prog Try.f11.results.toList = some r11 := by kernel_rfl
theorem has11 : hasBody Try.prog 11 = true := by kernel_rfl
theorem enter11 {args : LVals} {h : LHeap} {R : LEnd → LHeap → Prop} (hk : 88 - lvsLen args = 86) (hw : initK args 86 fun t => lwp Try.prog h.length c11 (bodyQ r11 R) t h) : LCalls Try.prog 11 args h R := LCalls.enter Try.func11 body11 has11 res11 _ (by rw [Try.ntmps11]; exact hk) hw
/-- palatine/palatinelaw09.BerNests -/
def c12 : LCode :=
  .seq
   (.region [⟨(some 4), none, .op (.move (.const (.bool false)))⟩])
   (.seq
    (.region [⟨(some 14), none, .call 26 []⟩,
      ⟨(some 5), none, .op (.move (.tmp 14))⟩])
    (.seq
     (.seq
      (.region [⟨(some 15), none, .op (.move (.tmp 0))⟩,
        ⟨(some 16), none, .op (.bin .lss (.tmp 15) (.const (.int .i64 0)))⟩,
        ⟨(some 17), none, .op (.move (.tmp 16))⟩,
        ⟨(some 18), some (17, false), .op (.move (.tmp 0))⟩,
        ⟨(some 19), some (17, false), .op (.bin .gtr (.tmp 18) (.const (.int .i64 60)))⟩,
        ⟨(some 20), none, .op (.pick (.tmp 17) (.const (.bool true)) (.tmp 19))⟩,
        ⟨(some 21), none, .op (.move (.tmp 20))⟩,
        ⟨(some 22), some (21, false), .op (.move (.tmp 1))⟩,
        ⟨(some 23), some (21, false), .op (.lenStr (.tmp 22))⟩,
        ⟨(some 24), some (21, false), .op (.bin .gtr (.tmp 23) (.const (.int .i64 60)))⟩,
        ⟨(some 25), none, .op (.pick (.tmp 21) (.const (.bool true)) (.tmp 24))⟩])
      (.cond (.tmp 25)
       (.seq
        (.region [⟨(some 26), none, .op (.move (.tmp 5))⟩,
          ⟨(some 4), none, .op (.move (.tmp 26))⟩])
        (.ret))
       (.skip)))
     (.seq
      (.region [⟨(some 27), none, .op (.move (.tmp 1))⟩,
        ⟨(some 28), none, .op (.bst (.one (.int .i64 0) (.one (.str ⟨#[]⟩) (.one (.slice ⟨0, [], 0⟩ 0 0 0 0 (some 0)) .nil))) [(0, 1, (.const (.int .i64 4))), (1, 1, (.tmp 27))])⟩,
        ⟨(some 6), none, .op (.alloc 40 (.one (.int .i64 0) (.one (.str ⟨#[]⟩) (.one (.slice ⟨0, [], 0⟩ 0 0 0 0 (some 0)) .nil))))⟩,
        ⟨none, none, .op (.store 3 (.tmp 6) (.tmp 28))⟩])
      (.seq
       (.seq
        (.region [⟨(some 7), none, .op (.move (.const (.int .i64 0)))⟩])
        (.block 0
         (.loop
          (.seq
           (.seq
            (.region [⟨(some 29), none, .op (.move (.tmp 7))⟩,
              ⟨(some 30), none, .op (.move (.tmp 0))⟩,
              ⟨(some 31), none, .op (.bin .lss (.tmp 29) (.tmp 30))⟩])
            (.cond (.tmp 31)
             (.skip)
             (.exit 0)))
           (.seq
            (.block 1
             (.region [⟨(some 34), none, .op (.load (some 3) (.tmp 6))⟩,
               ⟨(some 35), none, .op (.bsl 3 1 40 (.one (.int .i64 0) (.one (.str ⟨#[]⟩) (.one (.slice ⟨0, [], 0⟩ 0 0 0 0 (some 0)) .nil))) [(0, (.tmp 34))])⟩,
               ⟨(some 36), none, .op (.bst (.one (.int .i64 0) (.one (.str ⟨#[]⟩) (.one (.slice ⟨0, [], 0⟩ 0 0 0 0 (some 0)) .nil))) [(0, 1, (.const (.int .i64 48))), (2, 1, (.tmp 35))])⟩,
               ⟨none, none, .op (.store 3 (.tmp 6) (.tmp 36))⟩]))
            (.region [⟨(some 32), none, .op (.move (.tmp 7))⟩,
              ⟨(some 33), none, .op (.bin .add (.tmp 32) (.const (.int .i64 1)))⟩,
              ⟨(some 7), none, .op (.move (.tmp 33))⟩]))))))
       (.seq
        (.region [⟨(some 38), none, .op (.load (some 3) (.tmp 6))⟩,
          ⟨(some 39), none, .call 25 [(.tmp 38)]⟩,
          ⟨(some 37), none, .op (.move (.tmp 39))⟩,
          ⟨(some 40), none, .op (.ext 0 (.tmp 37))⟩,
          ⟨(some 41), none, .op (.ext 1 (.tmp 37))⟩,
          ⟨(some 8), none, .op (.move (.tmp 40))⟩,
          ⟨(some 9), none, .op (.move (.tmp 41))⟩])
        (.seq
         (.seq
          (.region [⟨(some 42), none, .op (.move (.tmp 0))⟩,
            ⟨(some 43), none, .op (.bin .gtr (.tmp 42) (.const (.int .i64 7)))⟩])
          (.cond (.tmp 43)
           (.seq
            (.region [⟨(some 44), none, .op (.move (.tmp 5))⟩,
              ⟨(some 45), none, .op (.move (.tmp 44))⟩,
              ⟨(some 46), some (45, true), .op (.move (.tmp 8))⟩,
              ⟨(some 47), some (45, true), .op (.bin .eql (.tmp 46) (.const (.str ⟨#[]⟩)))⟩,
              ⟨(some 48), none, .op (.pick (.tmp 45) (.tmp 47) (.const (.bool false)))⟩,
              ⟨(some 49), none, .op (.move (.tmp 48))⟩,
              ⟨(some 50), some (49, true), .op (.move (.tmp 9))⟩,
              ⟨(some 51), some (49, true), .op (.bin .eql (.tmp 50) (.const (.int .i64 91)))⟩,
              ⟨(some 52), none, .op (.pick (.tmp 49) (.tmp 51) (.const (.bool false)))⟩,
              ⟨(some 4), none, .op (.move (.tmp 52))⟩])
            (.ret))
           (.skip)))
         (.seq
          (.region [⟨(some 54), none, .op (.move (.tmp 8))⟩,
            ⟨(some 55), none, .call 27 [(.tmp 54)]⟩,
            ⟨(some 53), none, .op (.move (.tmp 55))⟩,
            ⟨(some 56), none, .op (.ext 0 (.tmp 53))⟩,
            ⟨(some 57), none, .op (.ext 1 (.tmp 53))⟩,
            ⟨(some 58), none, .op (.ext 2 (.tmp 53))⟩,
            ⟨(some 10), none, .op (.alloc 40 (.one (.int .i64 0) (.one (.str ⟨#[]⟩) (.one (.slice ⟨0, [], 0⟩ 0 0 0 0 (some 0)) .nil))))⟩,
            ⟨none, none, .op (.store 3 (.tmp 10) (.tmp 56))⟩,
            ⟨(some 11), none, .op (.move (.tmp 57))⟩,
            ⟨(some 12), none, .op (.move (.tmp 58))⟩])
          (.seq
           (.region [⟨(some 59), none, .op (.load (some 3) (.tmp 6))⟩,
             ⟨(some 60), none, .op (.load (some 3) (.tmp 10))⟩,
             ⟨(some 61), none, .call 29 [(.tmp 59), (.tmp 60)]⟩,
             ⟨(some 13), none, .op (.move (.tmp 61))⟩])
           (.seq
            (.region [⟨(some 62), none, .op (.move (.tmp 5))⟩,
              ⟨(some 63), none, .op (.move (.tmp 62))⟩,
              ⟨(some 64), some (63, true), .op (.move (.tmp 9))⟩,
              ⟨(some 65), some (63, true), .op (.bin .eql (.tmp 64) (.const (.int .i64 0)))⟩,
              ⟨(some 66), none, .op (.pick (.tmp 63) (.tmp 65) (.const (.bool false)))⟩,
              ⟨(some 67), none, .op (.move (.tmp 66))⟩,
              ⟨(some 68), some (67, true), .op (.move (.tmp 8))⟩,
              ⟨(some 69), some (67, true), .op (.lenStr (.tmp 68))⟩,
              ⟨(some 70), some (67, true), .op (.move (.tmp 0))⟩,
              ⟨(some 71), some (67, true), .op (.bin .mul (.const (.int .i64 2)) (.tmp 70))⟩,
              ⟨(some 72), some (67, true), .op (.bin .add (.tmp 71) (.const (.int .i64 2)))⟩,
              ⟨(some 73), some (67, true), .op (.move (.tmp 1))⟩,
              ⟨(some 74), some (67, true), .op (.lenStr (.tmp 73))⟩,
              ⟨(some 75), some (67, true), .op (.bin .add (.tmp 72) (.tmp 74))⟩,
              ⟨(some 76), some (67, true), .op (.bin .eql (.tmp 69) (.tmp 75))⟩,
              ⟨(some 77), none, .op (.pick (.tmp 67) (.tmp 76) (.const (.bool false)))⟩,
              ⟨(some 78), none, .op (.move (.tmp 77))⟩,
              ⟨(some 79), some (78, true), .op (.move (.tmp 12))⟩,
              ⟨(some 80), some (78, true), .op (.bin .eql (.tmp 79) (.const (.int .i64 0)))⟩,
              ⟨(some 81), none, .op (.pick (.tmp 78) (.tmp 80) (.const (.bool false)))⟩,
              ⟨(some 82), none, .op (.move (.tmp 81))⟩,
              ⟨(some 83), some (82, true), .op (.move (.tmp 11))⟩,
              ⟨(some 84), some (82, true), .op (.move (.tmp 8))⟩,
              ⟨(some 85), some (82, true), .op (.lenStr (.tmp 84))⟩,
              ⟨(some 86), some (82, true), .op (.bin .eql (.tmp 83) (.tmp 85))⟩,
              ⟨(some 87), none, .op (.pick (.tmp 82) (.tmp 86) (.const (.bool false)))⟩,
              ⟨(some 88), none, .op (.move (.tmp 87))⟩,
              ⟨(some 89), some (88, true), .op (.move (.tmp 13))⟩,
              ⟨(some 90), none, .op (.pick (.tmp 88) (.tmp 89) (.const (.bool false)))⟩,
              ⟨(some 4), none, .op (.move (.tmp 90))⟩])
            (.ret))))))))))
def r12 : List LRes := [.tmp 4]
theorem body12 : Try.f12.body.bind (compileC Try.prog) = some c12 := by kernel_rfl
theorem res12 : compileRes Try.prog Try.f12.results.toList = some r12 := by kernel_rfl
theorem has12 : hasBody Try.prog 12 = true := by kernel_rfl
theorem enter12 {args : LVals} {h : LHeap} {R : LEnd → LHeap → Prop} (hk : 91 - lvsLen args = 89) (hw : initK args 89 fun t => lwp Try.prog h.length c12 (bodyQ r12 R) t h) : LCalls Try.prog 12 args h R := LCalls.enter Try.func12 body12 has12 res12 _ (by rw [Try.ntmps12]; exact hk) hw
/-- palatine/palatinelaw09.BerWrites -/
def c13 : LCode :=
  .seq
   (.region [⟨(some 1), none, .op (.box 40 3 (.tmp 0))⟩,
     ⟨(some 2), none, .op (.move (.const (.bool false)))⟩])
   (.seq
    (.region [⟨(some 10), none, .call 26 []⟩,
      ⟨(some 3), none, .op (.move (.tmp 10))⟩])
    (.seq
     (.region [⟨(some 11), none, .op (.load (some 3) (.tmp 1))⟩,
       ⟨(some 12), none, .call 35 [(.tmp 11), (.const (.int .i64 20000))]⟩,
       ⟨(some 4), none, .op (.move (.tmp 12))⟩])
     (.seq
      (.seq
       (.region [⟨(some 13), none, .op (.move (.tmp 4))⟩,
         ⟨(some 14), none, .op (.bin .gtr (.tmp 13) (.const (.int .i64 20000)))⟩])
       (.cond (.tmp 14)
        (.seq
         (.region [⟨(some 15), none, .op (.move (.tmp 3))⟩,
           ⟨(some 2), none, .op (.move (.tmp 15))⟩])
         (.ret))
        (.skip)))
      (.seq
       (.region [⟨(some 17), none, .op (.load (some 3) (.tmp 1))⟩,
         ⟨(some 18), none, .call 25 [(.tmp 17)]⟩,
         ⟨(some 16), none, .op (.move (.tmp 18))⟩,
         ⟨(some 19), none, .op (.ext 0 (.tmp 16))⟩,
         ⟨(some 20), none, .op (.ext 1 (.tmp 16))⟩,
         ⟨(some 5), none, .op (.move (.tmp 19))⟩,
         ⟨(some 6), none, .op (.move (.tmp 20))⟩])
       (.seq
        (.region [⟨(some 22), none, .op (.load (some 3) (.tmp 1))⟩,
          ⟨(some 23), none, .call 36 [(.tmp 22)]⟩,
          ⟨(some 21), none, .op (.move (.tmp 23))⟩,
          ⟨(some 24), none, .op (.ext 0 (.tmp 21))⟩,
          ⟨(some 25), none, .op (.ext 1 (.tmp 21))⟩,
          ⟨(some 7), none, .op (.move (.tmp 24))⟩,
          ⟨(some 8), none, .op (.move (.tmp 25))⟩])
        (.seq
         (.region [⟨(some 26), none, .op (.load (some 3) (.tmp 1))⟩,
           ⟨(some 27), none, .call 37 [(.tmp 26)]⟩,
           ⟨(some 9), none, .op (.move (.tmp 27))⟩])
         (.seq
          (.region [⟨(some 28), none, .op (.move (.tmp 3))⟩,
            ⟨(some 29), none, .op (.move (.tmp 28))⟩,
            ⟨(some 30), some (29, true), .op (.move (.tmp 5))⟩,
            ⟨(some 31), some (29, true), .op (.move (.tmp 7))⟩,
            ⟨(some 32), some (29, true), .op (.bin .eql (.tmp 30) (.tmp 31))⟩,
            ⟨(some 33), none, .op (.pick (.tmp 29) (.tmp 32) (.const (.bool false)))⟩,
            ⟨(some 34), none, .op (.move (.tmp 33))⟩,
            ⟨(some 35), some (34, true), .op (.move (.tmp 6))⟩,
            ⟨(some 36), some (34, true), .op (.move (.tmp 8))⟩,
            ⟨(some 37), some (34, true), .op (.bin .eql (.tmp 35) (.tmp 36))⟩,
            ⟨(some 38), none, .op (.pick (.tmp 34) (.tmp 37) (.const (.bool false)))⟩,
            ⟨(some 39), none, .op (.move (.tmp 38))⟩,
            ⟨(some 40), some (39, true), .op (.move (.tmp 9))⟩,
            ⟨(some 41), some (39, true), .op (.move (.tmp 6))⟩,
            ⟨(some 42), some (39, true), .op (.bin .eql (.tmp 40) (.tmp 41))⟩,
            ⟨(some 43), none, .op (.pick (.tmp 39) (.tmp 42) (.const (.bool false)))⟩,
            ⟨(some 2), none, .op (.move (.tmp 43))⟩])
          (.ret))))))))
def r13 : List LRes := [.tmp 2]
theorem body13 : Try.f13.body.bind (compileC Try.prog) = some c13 := by kernel_rfl
theorem res13 : compileRes Try.prog Try.f13.results.toList = some r13 := by kernel_rfl
theorem has13 : hasBody Try.prog 13 = true := by kernel_rfl
theorem enter13 {args : LVals} {h : LHeap} {R : LEnd → LHeap → Prop} (hk : 44 - lvsLen args = 43) (hw : initK args 43 fun t => lwp Try.prog h.length c13 (bodyQ r13 R) t h) : LCalls Try.prog 13 args h R := LCalls.enter Try.func13 body13 has13 res13 _ (by rw [Try.ntmps13]; exact hk) hw
end Go.Proofs.Ytbojbofakmihmaa.Bk
